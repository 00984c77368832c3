import Derived.Test.YtmmnjecaedmleaaGreatDoorM29

/- law13.alive: contract. -/
namespace Go.Proofs.YtmmnjecaedmleaaGreatDoor
open Go.RowKit
attribute [local go_sem ↓] Go.wp_at_zero Go.wp_at_succ

theorem oneVal (n v : Nat) : (oneImg n v).val = .agg #[.int .i64 n, .int .u64 v, S (oneData n)] := rfl
theorem imgs_one {w : World} {g c : Nat} {x : Img} (h0 : w.cell? ⟨g, 0, none⟩ = some (.int .i64 x.block)) (h1 : w.cell? ⟨g, 1, none⟩ = some (.int .u64 x.version)) (h2 : w.cell? ⟨g, 2, none⟩ = some (S x.data)) : ImgsAt w (.slice (some ⟨g, 0, none⟩) 1 c) [x] := by
  refine .inr ⟨g, 0, c, rfl, fun j h => ?_⟩
  obtain rfl : j = 0 := by simp at h; omega
  rw [Nat.zero_add]
  exact ⟨h0, h1, h2⟩
theorem logS_fit1 (l : List Img) (h : l.length ≤ 2) : (logS l).FitN 1 := by
  have H := logS_fitN l h
  exact ⟨H.ok, by have := H.next; omega, H.at_, by have := H.len; omega, H.ns⟩
section
variable {w : World}
set_option maxHeartbeats 6400000 in
set_option maxRecDepth 100000 in
theorem alive_ok : Calls Tryz.prog 10 #[] w fun e w' => e = .returned (.bool true) ∧ Chg No w w' := by
  obtain ⟨D1, D2, L2, D3, D4, D5, h1, hu1, h2, hu2, h3, hu3, h4, hu4, h5, hu5, h6, h7⟩ := alive_law
  obtain ⟨K, hK⟩ : ∃ K : Nat → Prop, K = fun k => k < w.heap.size := ⟨_, rfl⟩
  go_enter Tryz.func10, Tryz.ntmps10
  go_wp2_with fail
  refine (sysReady (K := K) (fun k h => by rw [hK] at h; exact h)).mono ?_
  rintro e w1 ⟨bd, br, rfl, hy1, hc1⟩
  rw [show sh0.val = .agg #[.int .i64 2, .int .i64 10, .int .i64 8, .int .i64 4, .int .i64 32] from rfl]
  go_wp2_with fail
  generalize hW : w1.alloc (.cells #[.int .i64 2, .int .i64 10, .int .i64 8, .int .i64 4, .int .i64 32] 29) = w2
  have hB : w2.heap[w1.heap.size]? = some (.cells #[.int .i64 2, .int .i64 10, .int .i64 8, .int .i64 4, .int .i64 32] 29 (0, 0)) := by rw [← hW]; exact blk_new _ _
  have hc2 : Chg No w1 w2 := by rw [← hW]; exact (Chg.refl _ _).alloc _
  obtain ⟨s, hs⟩ : ∃ s, s = w1.heap.size := ⟨_, rfl⟩
  have hy2 : Sy0 (Kadd K s) w2 bd Dk.ready := hy1.add hc2 (by rw [hs]; exact Nat.le_refl _) (by rw [hs]; exact blk_lt hB)
  rw [← hs] at hB ⊢
  have hKs : Kadd K s s := .inr rfl
  have HB2 := Lib.hid hB
  have HC2 := Lib.hid (hc1.trans_same hc2)
  have HY2 := Lib.hid hy2
  clear hW hs hB hc1 hc2 hy1 hy2
  refine (sysOpen HY2.out (N := 100) (ready_up.1.fit.le (by omega)) h1).mono ?_
  rintro e w3 ⟨g, rfl, hy3, hc3⟩
  have HKO := Lib.hid (show ∀ k, Kp (Kadd K s) k → w.heap.size ≤ k from fun k hk => by
    have h : ¬ K k := fun h => hk (.inl h)
    rw [hK] at h
    exact Nat.le_of_not_lt h)
  have HC3 := Lib.hid (HC2.out.trans hc3 (fun k hk => .inr (HKO.out k hk)))
  have HB3 := Lib.hid (kept hc3 hKs HB2.out)
  have HY3 := Lib.hid hy3
  clear hy3 hc3
  go_wp2_with fail
  refine (One_ok 3 1 (by omega)).mono ?_
  rintro e w4 ⟨rfl, hc4⟩
  have HC4 := Lib.hid (HC3.out.trans_same hc4)
  have HB4 := Lib.hid (hc4.obj HB3.out id)
  have HY4 := Lib.hid (HY3.out.no hc4)
  clear hc4
  rw [oneVal]
  go_wp2_with fail
  generalize hW : w4.alloc _ = w5
  have hc5 : Chg No w4 w5 := by rw [← hW]; exact (Chg.refl _ _).alloc _
  have hx5 := blk_new w4 (.cells #[.int .i64 3, .int .u64 1, S (oneData 3)] 38)
  rw [hW] at hx5
  have HC5 := Lib.hid (HC4.out.trans_same hc5)
  have HB5 := Lib.hid (hc5.obj HB4.out id)
  have HY5 := Lib.hid (HY4.out.no hc5)
  have HV5 := Lib.hid (imgs_one (x := oneImg 3 1) (c := 1) (cell_of_blk hx5 0 rfl) (cell_of_blk hx5 1 rfl) (cell_of_blk hx5 2 rfl))
  clear hc5 hW hx5
  have HA := Lib.hid (add_yes1 [] (oneImg 3 1) (oneImg_fine 3 1 (by omega) (by omega)).1 (by decide))
  refine (sysAdd HY5.out (logS_fit1 [] (by decide)) rfl _ [oneImg 3 1] HV5.out (by decide)).mono ?_
  rw [show (Lg.new sh0 1 9 1).add 1 [oneImg 3 1] = _ from HA.out]
  rintro e w6 ⟨rfl, hy, hc⟩
  have HC6 := Lib.hid (HC5.out.trans hc (fun k hk => .inr (HKO.out k hk)))
  have HB6 := Lib.hid (kept hc hKs HB5.out)
  have HY6 := Lib.hid hy
  clear hy hc
  go_wp2_with fail
  refine (sysSync HY6.out (logS_good [oneImg 3 1] (by decide)) (n := 1) (Nat.le_refl _) hu1.fit (by omega)).mono ?_
  rw [show ([] : List Img) ++ [oneImg 3 1] = [oneImg 3 1] from rfl, h2]
  rintro e w7 ⟨rfl, hy, hc⟩
  have HC7 := Lib.hid (HC6.out.trans hc (fun k hk => .inr (HKO.out k hk)))
  have HB7 := Lib.hid (kept hc hKs HB6.out)
  have HY7 := Lib.hid hy
  clear hy hc
  go_wp2_with fail
  refine (sysFence HY7.out hu2.fit 1).mono ?_
  rw [h3]
  rintro e w8 ⟨rfl, hy, hc⟩
  have HC8 := Lib.hid (HC7.out.trans hc (fun k hk => .inr (HKO.out k hk)))
  have HB8 := Lib.hid (kept hc hKs HB7.out)
  have HY8 := Lib.hid hy
  clear hy hc
  go_wp2_with fail
  refine (sysAdmit HY8.out hu3.fit 2 10).mono ?_
  rw [h4]
  rintro e w9 ⟨rfl, hy, hc⟩
  have HC9 := Lib.hid (HC8.out.trans hc (fun k hk => .inr (HKO.out k hk)))
  have HB9 := Lib.hid (kept hc hKs HB8.out)
  have HY9 := Lib.hid hy
  clear hy hc
  obtain ⟨c0, c1, c2, c3, c4⟩ := cells5 HB9.out
  go_wp2_with fail
  refine (sysRun HY9.out hu4.szd hu4.fit (by omega) 1 9 2 10).mono ?_
  rw [h5]
  rintro e w10 ⟨rfl, hy, hc⟩
  have HC10 := Lib.hid (HC9.out.trans hc (fun k hk => .inr (HKO.out k hk)))
  have HB10 := Lib.hid (kept hc hKs HB9.out)
  have HY10 := Lib.hid hy
  clear hy hc
  clear c0 c1 c2 c3 c4
  obtain ⟨c0, c1, c2, c3, c4⟩ := cells5 HB10.out
  go_wp2_with fail
  refine (sysLoad HY10.out hu5.szd hu5.fit 3).mono ?_
  rw [h6]
  rintro e w11 ⟨rfl, hc⟩
  have HC11 := Lib.hid (HC10.out.trans_same hc)
  have HB11 := Lib.hid (hc.obj HB10.out id)
  have HY11 := Lib.hid (HY10.out.no hc)
  clear hc c0 c1 c2 c3 c4
  rw [oneVal]
  obtain ⟨c0, c1, c2, c3, c4⟩ := cells5 (blk_alloc (.cells #[.int .i64 3, .int .u64 1, S (oneData 3)] 38) HB11.out)
  go_wp2_with fail
  generalize hW : w11.alloc _ = w12
  have hc12 : Chg No w11 w12 := by rw [← hW]; exact (Chg.refl _ _).alloc _
  have hx12 : w12.heap[w11.heap.size]? = some (.cells #[.int .i64 3, .int .u64 1, S (oneData 3)] 38 (0, 0)) := by rw [← hW]; exact blk_new _ _
  obtain ⟨q, hq⟩ : ∃ q, q = w11.heap.size := ⟨_, rfl⟩
  have HY12 := Lib.hid (show Sy (Kadd (Kadd K s) q) w12 bd g D5 L2 from HY11.out.add hc12 (by rw [hq]; exact Nat.le_refl _) (by rw [hq]; exact blk_lt hx12))
  rw [← hq] at hx12 ⊢
  have HX12 := Lib.hid hx12
  have HC12 := Lib.hid (HC11.out.trans_same hc12)
  clear hW hc12 hx12 hq c0 c1 c2 c3 c4
  refine (sysRun HY12.out hu5.szd hu5.fit (by omega) 1 9 2 10).mono ?_
  rw [h7]
  rintro e w13 ⟨rfl, hy, hc⟩
  have HC13 := Lib.hid (HC12.out.trans hc (fun k hk => .inr (HKO.out k (fun h => hk (.inl h)))))
  obtain ⟨x0, x1, x2, _⟩ := cells3 (kept hc (show Kadd (Kadd K s) q q from .inr rfl) HX12.out)
  clear hy hc
  go_wp2_with fail
  go_ret
  exact ⟨rfl, HC13.out⟩
end
end Go.Proofs.YtmmnjecaedmleaaGreatDoor

/- Plain laws: what RedoNewer meets. -/
namespace Go.Proofs.YtmmnjecaedmleaaGreatDoor
open Go.RowKit

def dImg (i v : Nat) : Img := ⟨i, v, 100 :: zs 95⟩
theorem dImg_fine (n v : Nat) (hn : n < 4096) (hv : v < 18446744073709551616) : (dImg n v).fine := by
  refine ⟨?_, hv⟩
  unfold Img.right dImg
  simp only [decide_eq_true_eq, List.length_cons, zs_length]
  exact ⟨by omega, by omega, trivial⟩
def verN (l : List Nat) (n : Nat) (b : Int) : Nat := if 0 ≤ b ∧ b < n then l.getD b.toNat 0 else 0
theorem verN_all (l : List Nat) (i : Nat) : verN l l.length (i : Int) = l.getD i 0 := by
  unfold verN
  by_cases h : i < l.length
  · rw [if_pos (by omega), Int.toNat_natCast]
  · rw [if_neg (by omega), List.getD, List.getElem?_eq_none (by omega)]
    rfl
structure P1 (l : List Nat) (n : Nat) (D : Dk) : Prop where
  up : Up D 9 0 (1000000 + 16 * (4 - n))
  last : D.last = 9
  head : D.sec 1 = headBytes ⟨9, 1, 0⟩
  zero : ∀ k : Int, 2 ≤ k → k ≤ 8 → D.sec k = zs 64
  ver : Vers D (verN l n)
theorem P1_start (l : List Nat) : ∃ D1, Dk.ready.logHead (Lg.new sh0 1 9 1) 1 0 = (0, D1) ∧ P1 l 0 D1 := by
  obtain ⟨D1, h1, hu1, hl1, hh1, hz1⟩ := open_ready
  refine ⟨D1, h1, hu1.le (by omega), hl1, hh1, fun k hk _ => hz1 k hk, ?_⟩
  have hv : verN l 0 = fun _ => 0 := by
    funext b
    unfold verN
    rw [if_neg (by omega)]
  rw [hv]
  exact vers_zero (fun k hk => hz1 k (by omega))
theorem verN_step (l : List Nat) (n : Nat) (b : Int) (hb : b ≠ n) : verN l (n + 1) b = verN l n b := by
  unfold verN
  by_cases h : 0 ≤ b ∧ b < n
  · rw [if_pos h, if_pos (by omega)]
  · rw [if_neg h, if_neg (by omega)]
theorem verN_here (l : List Nat) (n : Nat) : verN l (n + 1) (n : Int) = l.getD n 0 := by
  unfold verN
  rw [if_pos (by omega), Int.toNat_natCast]
theorem P1_store {l : List Nat} {n : Nat} {D : Dk} (h : P1 l n D) (hn : n < 4) (hv : l.getD n 0 < 18446744073709551616) : ∃ D', D.store sh0 1 9 (dImg n (l.getD n 0)) = (0, D') ∧ P1 l (n + 1) D' := by
  have hf := dImg_fine n (l.getD n 0) (by omega) hv
  obtain ⟨D', h1, h2, h3, h4, h5, h6⟩ := (h.up.le (M := 1000000 + 16 * (4 - (n + 1)) + 16) (by omega)).store who19 hf (by show (n : Int) ≤ 9; omega)
  refine ⟨D', h1, h2, h6.trans h.last, (h5 1 (by omega)).trans h.head, fun k hk hk2 => (h5 k (by omega)).trans (h.zero k hk hk2), fun b h0 h9 => ?_⟩
  by_cases hb : b = (n : Int)
  · subst hb
    refine ⟨dImg n (l.getD n 0), ?_, (verN_here l n).symm⟩
    have e : D'.blk (n : Int) = blkBytes (dImg n (l.getD n 0)) := h3
    rw [e]
    exact blkGet_put _ hf
  · obtain ⟨img, g1, g2⟩ := h.ver b h0 h9
    exact ⟨img, by rw [h4 b hb]; exact g1, by rw [g2, verN_step l n b hb]⟩
theorem P1_skip {l : List Nat} {n : Nat} {D : Dk} (h : P1 l n D) (hv : l.getD n 0 = 0) : P1 l (n + 1) D := by
  refine ⟨h.up.le (by omega), h.last, h.head, h.zero, fun b h0 h9 => ?_⟩
  obtain ⟨img, g1, g2⟩ := h.ver b h0 h9
  refine ⟨img, g1, ?_⟩
  rw [g2]
  by_cases hb : b = (n : Int)
  · subst hb
    rw [verN_here, hv]
    unfold verN
    rw [if_neg (by omega)]
  · rw [verN_step l n b hb]

def ones (l : List Nat) (n : Nat) : List Img := (List.range n).map (fun i => oneImg i (l.getD i 0))
theorem ones_succ (l : List Nat) (n : Nat) : ones l (n + 1) = ones l n ++ [oneImg n (l.getD n 0)] := by
  unfold ones
  rw [List.range_succ, List.map_append]
  rfl
theorem ones_len (l : List Nat) (n : Nat) : (ones l n).length = n := by simp [ones]
def cnt (was vs : List Nat) (n : Nat) : Nat := ((ones vs n).filter (fun i => decide (verN was was.length i.block < i.version))).length
theorem cnt_zero (was vs : List Nat) : cnt was vs 0 = 0 := rfl
theorem cnt_yes (was vs : List Nat) (n : Nat) (h : was.getD n 0 < vs.getD n 0) : cnt was vs (n + 1) = cnt was vs n + 1 := by
  unfold cnt
  rw [ones_succ, List.filter_append, List.length_append, List.filter_cons_of_pos]
  · rfl
  · rw [decide_eq_true_eq]
    show verN was was.length (n : Int) < vs.getD n 0
    rw [verN_all]
    exact h
theorem cnt_no (was vs : List Nat) (n : Nat) (h : ¬ was.getD n 0 < vs.getD n 0) : cnt was vs (n + 1) = cnt was vs n := by
  unfold cnt
  rw [ones_succ, List.filter_append, List.length_append, List.filter_cons_of_neg]
  · rfl
  · rw [decide_eq_true_eq]
    show ¬ verN was was.length (n : Int) < vs.getD n 0
    rw [verN_all]
    exact h
theorem cnt_le (was vs : List Nat) (n : Nat) : cnt was vs n ≤ n := by
  unfold cnt
  exact Nat.le_trans (List.length_filter_le _ _) (Nat.le_of_eq (ones_len vs n))
theorem ones_fine {vs : List Nat} {n : Nat} (hn : n ≤ 2) (hv : ∀ i, vs.getD i 0 < 18446744073709551616) : ∀ x ∈ ones vs n, x.fine ∧ x.block ≤ 9 := by
  intro x hx
  obtain ⟨i, hi, rfl⟩ := List.mem_map.1 hx
  rw [List.mem_range] at hi
  exact ⟨oneImg_fine i _ (by omega) (hv i), by show (i : Int) ≤ 9; omega⟩
theorem ones_plan (vs : List Nat) : ∀ n, n ≤ 2 → planOf (ones vs n) = ones vs n ∧ ((ones vs n).map Img.block).Nodup
  | 0, _ => ⟨rfl, List.nodup_nil⟩
  | 1, _ => ⟨plan_one _, by simp [ones, List.range_succ]⟩
  | 2, _ => ⟨plan_two (oneImg 0 (vs.getD 0 0)) (oneImg 1 (vs.getD 1 0)) (by show ((0 : Nat) : Int) < ((1 : Nat) : Int); omega), by
      show ([((0 : Nat) : Int), ((1 : Nat) : Int)] : List Int).Nodup
      decide⟩
  | n + 3, h => by omega
theorem mem_ones {vs : List Nat} {n i : Nat} (h : i < n) : oneImg i (vs.getD i 0) ∈ ones vs n := List.mem_map.2 ⟨i, List.mem_range.2 h, rfl⟩
theorem redo_law {was vs : List Nat} {n : Nat} {D : Dk} (h : P1 was was.length D) (hn : n ≤ 2) (hv : ∀ i, vs.getD i 0 < 18446744073709551616) :
    ∃ D2 L2 D2b D3 D4 D5, logSync D (logS (ones vs n)) = (0, D2, L2) ∧ Up D2 9 0 900000 ∧ D2.barrier 1 9 = (0, D2b) ∧ Up D2b 9 0 900000 ∧ D2b.fence 1 = (0, D3) ∧ Up D3 0 0 900000 ∧ D3.admit 2 11 = (0, D4) ∧ Up D4 0 11 900000 ∧
      D4.run sh0 1 9 2 11 = (0, cnt was vs n, D5) ∧ Up D5 0 11 100000 ∧ D5.run sh0 1 9 2 11 = (0, 0, D5) ∧ D5.scan sh0 1 = ([], 0) ∧
      ∀ i : Nat, i < n → ∃ img : Img, D5.load sh0 (i : Int) = (img, 0) ∧ img.version = max (vs.getD i 0) (was.getD i 0) ∧ (was.getD i 0 < vs.getD i 0 → img = oneImg i (vs.getD i 0)) := by
  have hl := ones_len vs n
  have hf := ones_fine hn hv
  obtain ⟨hp, hd⟩ := ones_plan vs n hn
  obtain ⟨D2, L2, h2, hu2, ho2, hs2, hl2⟩ := sync_law (N := 900000) (ones vs n) (by omega) (h.up.le (by omega)) h.head h.zero
  obtain ⟨hb, hu2b⟩ := hu2.barrier who19
  have hv2 : Vers (D2.settle 1) (verN was was.length) := h.ver.of_sec (fun k hk => (settle_sec _ _ _).trans (hs2 k hk))
  obtain ⟨D3, D4, D5, h3, hu3, h4, hu4, h5, hu5, hz5, hy5, hn5⟩ := recover_law (N := 900000 - 64) (e := 11) (l := ones vs n) (was := verN was was.length) (by omega) hf hp hd hu2b (ho2.of_sec (fun k => settle_sec _ _ _)) hv2
    (by show D2.last < 11; rw [hl2, h.last]; omega)
  refine ⟨D2, L2, _, D3, D4, D5, h2, hu2, hb, hu2b, h3, hu3, h4, hu4, h5, hu5.le (by omega), run_zero hz5 hu5 9 2 11, scan_zero hz5 hu5, fun i hi => ?_⟩
  have hx := mem_ones (vs := vs) hi
  by_cases hnew : was.getD i 0 < vs.getD i 0
  · refine ⟨oneImg i (vs.getD i 0), hu5.loads (hf _ hx).1 (hf _ hx).2 (hy5 _ hx (by show verN was was.length (i : Int) < vs.getD i 0; rw [verN_all]; exact hnew)), ?_, fun _ => rfl⟩
    show vs.getD i 0 = _
    omega
  · have hb5 := hn5 (i : Int) (by omega) (fun x hxm hxb => by
      obtain ⟨j, hj, rfl⟩ := List.mem_map.1 hxm
      have hji : j = i := by
        have : (j : Int) = (i : Int) := hxb
        omega
      subst hji
      show ¬ verN was was.length (j : Int) < vs.getD j 0
      rw [verN_all]
      exact hnew)
    obtain ⟨img, g1, g2⟩ := hv2 (i : Int) (by omega) (by omega)
    refine ⟨img, ?_, ?_, fun hc => absurd hc hnew⟩
    · rw [hu5.load (by omega) (by omega), hb5, g1]
    · rw [g2, verN_all]
      omega
end Go.Proofs.YtmmnjecaedmleaaGreatDoor

/- law13.RedoNewer: contract. -/
namespace Go.Proofs.YtmmnjecaedmleaaGreatDoor
open Go.RowKit
attribute [local go_sem ↓] Go.wp_at_zero Go.wp_at_succ

/-- A slice of uint64 that is read. -/
def U64s (w : World) (a : Option Addr) (l : List Nat) : Prop := ∀ j, j < l.length → ∃ b off, a = some ⟨b, off, none⟩ ∧ w.cell? ⟨b, off + j, none⟩ = some (.int .u64 (l.getD j 0))
theorem U64s.no {w w' : World} {a : Option Addr} {l : List Nat} (h : U64s w a l) (hc : Chg No w w') : U64s w' a l := by
  intro j hj
  obtain ⟨b, off, rfl, hcell⟩ := h j hj
  exact ⟨b, off, rfl, hc.cell hcell id⟩
section
variable {w : World}
set_option maxHeartbeats 6400000 in
set_option maxRecDepth 100000 in
theorem Redo_big (a0 a1 : Option Addr) (cap0 cap1 : Nat) (vs was : List Nat) (hbig : 4 < vs.length ∨ 4 < was.length) :
    Calls Tryz.prog 3 #[.slice a0 vs.length cap0, .slice a1 was.length cap1] w fun e w' => e = .returned (.bool true) ∧ Chg No w w' := by
  by_cases h1 : 4 < vs.length
  · go_enter Tryz.func3, Tryz.ntmps3
    go_wp2_with fail
    refine alive_ok.mono ?_
    rintro e w1 ⟨rfl, hc⟩
    have HC := Lib.hid hc
    clear hc
    go_wp2_with fail
    go_ret
    exact ⟨rfl, HC.out⟩
  · have h2 : 4 < was.length := by omega
    go_enter Tryz.func3, Tryz.ntmps3
    go_wp2_with fail
    refine alive_ok.mono ?_
    rintro e w1 ⟨rfl, hc⟩
    have HC := Lib.hid hc
    clear hc
    go_wp2_with fail
    go_ret
    exact ⟨rfl, HC.out⟩
end
end Go.Proofs.YtmmnjecaedmleaaGreatDoor
