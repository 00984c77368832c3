import Derived.Test.YtmmnjecaedmleaaGreatDoorM23

/- sdisk: each sector has 64 bytes, and so it stays. -/
namespace Go.Proofs.YtmmnjecaedmleaaGreatDoor
open Go.RowKit

/-- What is read, what lasts, what waits: 64 bytes each. -/
structure Dk.Szd (D : Dk) : Prop where
  now : D.Sized
  lasts : ∀ k x, D.lasts k = some x → x.data.length = 64
  waits : ∀ x ∈ D.waits, x.data.length = 64
def LSz (L : Int → Option Wr) : Prop := ∀ k x, L k = some x → x.data.length = 64
theorem keepW_sz {L : Int → Option Wr} {x : Wr} (h : LSz L) (hx : x.data.length = 64) : LSz (keepW L x) := by
  unfold keepW
  split
  · intro k y hy
    unfold upd at hy
    split at hy
    · simp only [Option.some.injEq] at hy; subst hy; exact hx
    · exact h k y hy
  · exact h
theorem settleL_sz (node : Int) (ws : List Wr) : ∀ {L : Int → Option Wr}, LSz L → (∀ x ∈ ws, x.data.length = 64) → LSz (settleL L node ws) := by
  induction ws with
  | nil => intro L h _; exact h
  | cons a ws ih =>
    intro L h hw
    have h1 : LSz (if a.node = node then keepW L a else L) := by
      split
      · exact keepW_sz h (hw a (by simp))
      · exact h
    exact ih h1 (fun x hx => hw x (by simp [hx]))
theorem cutL_sz (keep : List Int) (ws : List Wr) : ∀ {L : Int → Option Wr} (k : Nat), LSz L → (∀ x ∈ ws, x.data.length = 64) → LSz (cutL keep L k ws) := by
  induction ws with
  | nil => intro L k h _; exact h
  | cons a ws ih =>
    intro L k h hw
    have h1 : LSz (if oddI (keep.getD k 0) then keepW L a else L) := by
      split
      · exact keepW_sz h (hw a (by simp))
      · exact h
    exact ih (k + 1) h1 (fun x hx => hw x (by simp [hx]))
theorem settle_szd {D : Dk} (h : D.Szd) (node : Int) : (D.settle node).Szd :=
  ⟨h.now, settleL_sz node D.waits h.lasts h.waits, fun x hx => h.waits x (List.mem_filter.1 hx).1⟩
theorem cut_szd {D : Dk} (h : D.Szd) (keep : List Int) : (D.cut keep).Szd := by
  unfold Dk.cut
  split
  · have h1 := cutL_sz keep D.waits 0 h.lasts h.waits
    refine ⟨?_, h1, by simp [Dk.cutOn]⟩
    intro i d hd
    have hd' : (cutL keep D.lasts 0 D.waits i).map (·.data) = some d := hd
    obtain ⟨x, hx, rfl⟩ := Option.map_eq_some_iff.1 hd'
    exact h1 i x hx
  · exact ⟨h.now, h.lasts, h.waits⟩
theorem goes_szd {D : Dk} (h : D.Szd) : D.goes.2.Szd := by
  unfold Dk.goes
  split
  · split
    · exact ⟨h.now, h.lasts, h.waits⟩
    · exact cut_szd h _
  · exact h
theorem secAt_len {data : Bytes} {n i : Nat} (h : 64 * n ≤ data.length) (hi : i < n) : (secAt data i).length = 64 := by
  unfold secAt
  rw [List.length_take, List.length_drop]
  omega
theorem wrN_szd {D : Dk} (h : D.Szd) (node at_ : Int) (data : Bytes) (n : Nat) (hn : 64 * n ≤ data.length) : ∀ i, i ≤ n → (D.wrN node at_ data i).Szd
  | 0, _ => h
  | i + 1, hi => by
    have ih := wrN_szd h node at_ data n hn i (by omega)
    have hs := secAt_len hn (show i < n by omega)
    refine ⟨?_, ih.lasts, ?_⟩
    · intro k d hd
      have hd' : upd (D.wrN node at_ data i).now (at_ + i) (secAt data i) k = some d := hd
      unfold upd at hd'
      split at hd'
      · simp only [Option.some.injEq] at hd'; subst hd'; exact hs
      · exact ih.now k d hd'
    · intro x hx
      have hx' : x ∈ (D.wrN node at_ data i).waits ++ [⟨node, at_ + i, (D.wrN node at_ data i).seq + 1, secAt data i⟩] := hx
      rcases List.mem_append.1 hx' with h1 | h1
      · exact ih.waits x h1
      · rw [List.mem_singleton.1 h1]; exact hs
theorem write_szd {D : Dk} (h : D.Szd) (node : Int) (epoch : Nat) (at_ : Int) (data : Bytes) : (D.write node epoch at_ data).2.Szd := by
  unfold Dk.write
  split
  · exact h
  · split
    · exact h
    · split
      · exact h
      · split
        · exact h
        · split
          · exact goes_szd h
          · exact wrN_szd (goes_szd h) _ _ _ _ (by omega) _ (Nat.le_refl _)
theorem barrier_szd {D : Dk} (h : D.Szd) (node : Int) (epoch : Nat) : (D.barrier node epoch).2.Szd := by
  unfold Dk.barrier
  split
  · exact h
  · split
    · exact h
    · split
      · exact goes_szd h
      · exact settle_szd (goes_szd h) _
theorem fence_szd {D : Dk} (h : D.Szd) (node : Int) : (D.fence node).2.Szd := by
  unfold Dk.fence
  split
  · exact h
  · split
    · exact goes_szd h
    · have := settle_szd (goes_szd h) node
      exact ⟨this.now, this.lasts, this.waits⟩
theorem admit_szd {D : Dk} (h : D.Szd) (node : Int) (epoch : Nat) : (D.admit node epoch).2.Szd := by
  unfold Dk.admit
  split
  · exact h
  · split
    · exact h
    · split
      · exact goes_szd h
      · have := goes_szd h
        exact ⟨this.now, this.lasts, this.waits⟩
theorem store_szd {D : Dk} (h : D.Szd) (s : Sh) (node : Int) (epoch : Nat) (i : Img) : (D.store s node epoch i).2.Szd := by
  unfold Dk.store
  split
  · exact h
  · split
    · exact h
    · exact write_szd h _ _ _ _
theorem store_fitN {D : Dk} {s : Sh} {node : Int} {epoch : Nat} {i : Img} {N : Nat} (h : D.FitN (N + 16)) : (D.store s node epoch i).2.FitN N := by
  unfold Dk.store
  split
  · exact h.le (by omega)
  · split
    · exact h.le (by omega)
    · exact write_fitN h
end Go.Proofs.YtmmnjecaedmleaaGreatDoor

/- redo: Apply: contract. -/
namespace Go.Proofs.YtmmnjecaedmleaaGreatDoor
open Go.RowKit
attribute [local go_sem ↓] Go.wp_at_zero Go.wp_at_succ

/-- Apply, from some image on: the errno, how many, the disk. -/
def applyGo (s : Sh) (by_ : Int) (epoch : Nat) : List Img → Nat → Dk → Int × Nat × Dk
  | [], n, D => (0, n, D)
  | i :: l, n, D =>
    if (D.load s i.block).2 ≠ 0 ∧ (D.load s i.block).2 ≠ 6 ∧ (D.load s i.block).2 ≠ 4 then ((D.load s i.block).2, 0, D)
    else if (D.load s i.block).2 = 0 ∧ i.version ≤ (D.load s i.block).1.version then applyGo s by_ epoch l n D
    else if (D.store s by_ epoch i).1 ≠ 0 then ((D.store s by_ epoch i).1, 0, (D.store s by_ epoch i).2) else applyGo s by_ epoch l (n + 1) (D.store s by_ epoch i).2
def applyEnd (by_ : Int) (epoch : Nat) (r : Int × Nat × Dk) : Int × Nat × Dk :=
  if r.1 ≠ 0 then r else if 0 < r.2.1 then (if (r.2.2.barrier by_ epoch).1 ≠ 0 then ((r.2.2.barrier by_ epoch).1, 0, (r.2.2.barrier by_ epoch).2) else (0, r.2.1, (r.2.2.barrier by_ epoch).2)) else r
def Dk.apply (D : Dk) (s : Sh) (by_ : Int) (epoch : Nat) (l : List Img) : Int × Nat × Dk := applyEnd by_ epoch (applyGo s by_ epoch l 0 D)

theorem applyGo_szd (s : Sh) (by_ : Int) (epoch : Nat) : ∀ (l : List Img) (n : Nat) {D : Dk}, D.Szd → (applyGo s by_ epoch l n D).2.2.Szd
  | [], _, _, h => h
  | i :: l, n, D, h => by
    unfold applyGo
    split
    · exact h
    · split
      · exact applyGo_szd s by_ epoch l n h
      · split
        · exact store_szd h _ _ _ _
        · exact applyGo_szd s by_ epoch l (n + 1) (store_szd h _ _ _ _)
theorem applyGo_fitN (s : Sh) (by_ : Int) (epoch : Nat) : ∀ (l : List Img) (n : Nat) {D : Dk} {N : Nat}, D.FitN (N + 16 * l.length) → (applyGo s by_ epoch l n D).2.2.FitN N
  | [], _, _, _, h => h.le (by omega)
  | i :: l, n, D, N, h => by
    rw [List.length_cons] at h
    unfold applyGo
    split
    · exact h.le (by omega)
    · split
      · exact applyGo_fitN s by_ epoch l n (h.le (by omega))
      · split
        · exact store_fitN (h.le (by omega))
        · exact applyGo_fitN s by_ epoch l (n + 1) (store_fitN (N := N + 16 * l.length) (h.le (by omega)))
theorem applyGo_n (s : Sh) (by_ : Int) (epoch : Nat) : ∀ (l : List Img) (n : Nat) {D : Dk}, (applyGo s by_ epoch l n D).2.1 ≤ n + l.length
  | [], _, _ => by simp [applyGo]
  | i :: l, n, D => by
    have h1 := applyGo_n s by_ epoch l n (D := D)
    have h2 := applyGo_n s by_ epoch l (n + 1) (D := (D.store s by_ epoch i).2)
    rw [List.length_cons]
    unfold applyGo
    split
    · simp
    · split
      · omega
      · split
        · simp
        · omega
theorem apply_szd {D : Dk} (h : D.Szd) (s : Sh) (by_ : Int) (epoch : Nat) (l : List Img) : (D.apply s by_ epoch l).2.2.Szd := by
  have h1 := applyGo_szd s by_ epoch l 0 h
  unfold Dk.apply applyEnd
  split
  · exact h1
  · split
    · split
      · exact barrier_szd h1 _ _
      · exact barrier_szd h1 _ _
    · exact h1
theorem apply_fitN {D : Dk} {N : Nat} (s : Sh) (by_ : Int) (epoch : Nat) (l : List Img) (h : D.FitN (N + 16 * l.length)) : (D.apply s by_ epoch l).2.2.FitN N := by
  have h1 := applyGo_fitN s by_ epoch l 0 h
  unfold Dk.apply applyEnd
  split
  · exact h1
  · split
    · split
      · exact barrier_fitN h1
      · exact barrier_fitN h1
    · exact h1

section
variable {w : World} {b : Nat} {D : Dk} {F : Nat → Prop}

set_option maxHeartbeats 3200000 in
set_option maxRecDepth 100000 in
theorem Apply_ok {s : Sh} (hs : s.Ok) (h : DiskAt w b D F) (hsd : D.Szd) (by_ : Int) (epoch : Nat) (v : Value) (l : List Img) (hv : ImgsAt w v l) (hvF : ∀ k, v.ownBlock = some k → ¬ F k) (hl : l.length ≤ 1000000) (hf : D.FitN (16 * l.length + 16)) :
    Calls Tryz.prog 31 #[.pointer (some ⟨b, 0, none⟩), s.val, .int .i64 by_, .int .u64 epoch, v] w fun e w' => e = .returned (.tuple #[.int .i64 (D.apply s by_ epoch l).2.1, .int .i64 (D.apply s by_ epoch l).1]) ∧ St F w w' b (D.apply s by_ epoch l).2.2 := by
  have hval : s.val = .agg #[.int .i64 s.nodes, .int .i64 s.blocks, .int .i64 s.log, .int .i64 s.cache, .int .i64 s.lease] := rfl
  obtain ⟨va, vc, hvv⟩ := imgs_form hv
  subst hvv
  have H0 := Lib.hid h
  have HF := Lib.hid hf
  have HFL := Lib.hid h.lt
  have HS := Lib.hid hs
  have HSD := Lib.hid hsd
  have HV := Lib.hid hv
  have HVF := Lib.hid hvF
  unfold Dk.apply
  obtain ⟨res, hres⟩ : ∃ res, applyGo s by_ epoch l 0 D = res := ⟨_, rfl⟩
  rw [hres]
  have HRES := Lib.hid hres
  rw [hval]
  clear h hf hs hsd hv hvF hres hval
  go_enter Tryz.func31, Tryz.ntmps31
  go_wp2_with fail
  generalize hW : w.alloc (.cells #[.int .i64 s.nodes, .int .i64 s.blocks, .int .i64 s.log, .int .i64 s.cache, .int .i64 s.lease] 29) = W
  have hcW : Chg No w W := by rw [← hW]; exact (Chg.refl _ _).alloc _
  have hkW : W.heap[w.heap.size]? = some (.cells #[.int .i64 s.nodes, .int .i64 s.blocks, .int .i64 s.log, .int .i64 s.cache, .int .i64 s.lease] 29 (0, 0)) := by rw [← hW]; exact blk_new _ _
  have HCW := Lib.hid hcW
  have HKW := Lib.hid hkW
  have hwF : ¬ F w.heap.size := fun h => by have := HFL.out _ h; omega
  clear hW hcW hkW
  go_loopw [12, 22] (fun nv iv wr => ∃ (k n : Nat) (D' : Dk), k ≤ l.length ∧ n ≤ k ∧ iv = .int .i64 k ∧ nv = .int .i64 n ∧ Hid (applyGo s by_ epoch (l.drop k) n D' = res) ∧ Hid (St F W wr b D') ∧ Hid D'.Szd ∧ Hid (D'.FitN (16 * (l.length - k) + 16))) (fun _ iv _ => l.length - (intOf iv).toNat)
  case atStart => exact ⟨0, 0, D, Nat.zero_le _, Nat.le_refl _, rfl, rfl, HRES, Lib.hid (St.refl (H0.out.no' HCW.out)), HSD, HF⟩
  case round =>
    obtain ⟨k, n, D', hk, hnk, rfl, rfl, HA, HSt, HSz, HFn⟩ := hrel
    have hkr := HSt.out.2.obj HKW.out hwF
    by_cases hlt : k < l.length
    · obtain ⟨g, goff, hg, hcells⟩ : ∃ g off, va = some ⟨g, off, none⟩ ∧ ∀ j (h : j < l.length), w.cell? ⟨g, off + j * 3, none⟩ = some (.int .i64 l[j].block) ∧ w.cell? ⟨g, off + j * 3 + 1, none⟩ = some (.int .u64 l[j].version) ∧ w.cell? ⟨g, off + j * 3 + 2, none⟩ = some (S l[j].data) := by
        rcases HV.out with ⟨_, _, _, hn⟩ | ⟨g, off, c, hv, hj⟩
        · rw [hn] at hlt; simp at hlt
        · simp only [Value.slice.injEq] at hv
          exact ⟨g, off, hv.1, hj⟩
      subst hg
      obtain ⟨e0, e1, e2⟩ := hcells k hlt
      have hgF : ¬ F g := HVF.out g rfl
      have d0 := HSt.out.2.cell (HCW.out.cell e0 id) hgF
      have d1 := HSt.out.2.cell (HCW.out.cell e1 id) hgF
      have d2 := HSt.out.2.cell (HCW.out.cell e2 id) hgF
      have hst := HA.out
      rw [List.drop_eq_getElem_cons hlt, applyGo] at hst
      obtain ⟨x, hx⟩ : ∃ x, l[k] = x := ⟨_, rfl⟩
      rw [hx] at d0 d1 d2 hst
      obtain ⟨xb, xv, xd⟩ := x
      simp only at d0 d1 d2 hst
      obtain ⟨c0, c1, c2, c3, c4⟩ := cells5 hkr
      have HKR := Lib.hid hkr
      obtain ⟨ld, hld⟩ : ∃ ld, D'.load s xb = ld := ⟨_, rfl⟩
      rw [hld] at hst
      obtain ⟨⟨wb, wv, wd⟩, c⟩ := ld
      simp only at hst
      have HLD := Lib.hid hld
      have HST := Lib.hid hst
      have hzr := World.block_lt_of_cell? wr _ c0
      clear hcells e0 e1 e2 hx hst hkr hld hgF
      go_wp2_with fail
      have HS6 := Lib.hid (HSt.out.no ((Chg.refl No wr).alloc (.cells #[.int .i64 xb, .int .u64 xv, S xd] 38)))
      have HB6 := Lib.hid (blk_new wr (.cells #[.int .i64 xb, .int .u64 xv, S xd] 38))
      generalize hW6 : wr.alloc (.cells #[.int .i64 xb, .int .u64 xv, S xd] 38) = W6 at HS6 HB6
      have hc6 : Chg No wr W6 := by rw [← hW6]; exact (Chg.refl _ _).alloc _
      have HK6 := Lib.hid (hc6.obj HKR.out id)
      clear hW6 hc6 d0 d1 d2 c0 c1 c2 c3 c4
      refine (LoadB_ok HS.out HS6.out.1 HFn.out.fit HSz.out.now xb).mono ?_
      rw [HLD.out]
      rintro e w7 ⟨rfl, hc7⟩
      unfold Img.val
      have HS7 := Lib.hid (HS6.out.no hc7)
      have hb7 := hc7.obj HB6.out id
      have hk7 := hc7.obj HK6.out id
      obtain ⟨d0, d1, d2, _, _, _⟩ := cells3 hb7
      obtain ⟨c0, c1, c2, c3, c4⟩ := cells5 hk7
      have hz7 := World.block_lt_of_cell? w7 _ d0
      have hz8 := World.block_lt_of_cell? w7 _ c0
      have HB7 := Lib.hid hb7
      have HK7 := Lib.hid hk7
      clear hc7 hb7 hk7
      by_cases hbad : c ≠ 0 ∧ c ≠ 6 ∧ c ≠ 4
      · have hst := HST.out
        rw [if_pos hbad] at hst
        have q0 : (c != 0) = true := by simpa using hbad.1
        have q6 : (c == 6) = false := by simpa using hbad.2.1
        have q4 : (c == 4) = false := by simpa using hbad.2.2
        have HR := Lib.hid hst
        have HBAD := Lib.hid hbad
        clear hst hbad
        go_wp2_with fail
        go_ret2
        rw [← HR.out]
        unfold applyEnd
        rw [if_pos HBAD.out.1]
        exact ⟨rfl, St.pre HCW.out (HS7.out.no ((Chg.refl _ _).alloc _)) HFL.out⟩
      · have hst := HST.out
        rw [if_neg hbad] at hst
        by_cases hold : c = 0 ∧ xv ≤ wv
        · rw [if_pos hold] at hst
          obtain ⟨rfl, hv⟩ := hold
          have q1 : decide (xv ≤ wv) = true := by simpa using hv
          have HR := Lib.hid hst
          clear hst hbad hv
          go_wp2_with fail
          refine ⟨⟨k + 1, n, D', hlt, by omega, by go_num, rfl, HR, Lib.hid (HS7.out.no ((Chg.refl _ _).alloc _)), HSz, Lib.hid (HFn.out.le (by omega))⟩, by simp [intOf]; omega⟩
        · rw [if_neg hold] at hst
          obtain ⟨sr, hsr⟩ : ∃ sr, D'.store s by_ epoch ⟨xb, xv, xd⟩ = sr := ⟨_, rfl⟩
          rw [hsr] at hst
          have hsz2 := store_szd HSz.out s by_ epoch ⟨xb, xv, xd⟩
          have hfn2 : (D'.store s by_ epoch ⟨xb, xv, xd⟩).2.FitN (16 * (l.length - (k + 1)) + 16) := store_fitN (HFn.out.le (by omega))
          rw [hsr] at hsz2 hfn2
          obtain ⟨c2x, D2⟩ := sr
          simp only at hst hsz2 hfn2
          have HSR := Lib.hid hsr
          have HR := Lib.hid hst
          have HSZ2 := Lib.hid hsz2
          have HFN2 := Lib.hid hfn2
          have hcase : (c = 0 ∧ wv < xv) ∨ c = 6 ∨ c = 4 := by omega
          clear hst hsr hsz2 hfn2 hbad hold
          by_cases hc2 : c2x = 0
          · subst hc2
            rcases hcase with ⟨rfl, hv⟩ | rfl | rfl
            all_goals
              (try have q1 : decide (xv ≤ wv) = false := by simp only [decide_eq_false_iff_not]; omega)
              go_wp2_with fail
              have HS8 := Lib.hid (HS7.out.no ((Chg.refl No w7).alloc (.cells #[.int .i64 wb, .int .u64 wv, S wd] 38)))
              refine (Store_ok HS.out HS8.out.1 HFn.out.fit by_ epoch ⟨xb, xv, xd⟩).mono ?_
              rw [HSR.out]
              rintro e w9 ⟨rfl, h9⟩
              have HS9 := Lib.hid (HS8.out.next h9.1 h9.2)
              clear h9
              go_wp2_with fail
              refine ⟨⟨k + 1, n + 1, D2, hlt, by omega, by go_num, by go_num, Lib.hid (by have := HR.out; rwa [if_neg (by simp)] at this), HS9, HSZ2, HFN2⟩, by simp [intOf]; omega⟩
          · have q2 : (c2x != 0) = true := by simpa using hc2
            have HC2 := Lib.hid hc2
            clear hc2
            rcases hcase with ⟨rfl, hv⟩ | rfl | rfl
            all_goals
              (try have q1 : decide (xv ≤ wv) = false := by simp only [decide_eq_false_iff_not]; omega)
              go_wp2_with fail
              have HS8 := Lib.hid (HS7.out.no ((Chg.refl No w7).alloc (.cells #[.int .i64 wb, .int .u64 wv, S wd] 38)))
              refine (Store_ok HS.out HS8.out.1 HFn.out.fit by_ epoch ⟨xb, xv, xd⟩).mono ?_
              rw [HSR.out]
              rintro e w9 ⟨rfl, h9⟩
              have HS9 := Lib.hid (HS8.out.next h9.1 h9.2)
              clear h9
              go_wp2_with fail
              go_ret2
              have hr := HR.out
              rw [if_pos HC2.out] at hr
              rw [← hr]
              unfold applyEnd
              rw [if_pos HC2.out]
              exact ⟨rfl, St.pre HCW.out HS9.out HFL.out⟩
    · obtain rfl : k = l.length := by omega
      have hst := HA.out
      rw [List.drop_length, applyGo] at hst
      have HR := Lib.hid hst
      clear hst hkr
      by_cases hn0 : 0 < n
      · obtain ⟨br, hbr⟩ : ∃ br, D'.barrier by_ epoch = br := ⟨_, rfl⟩
        obtain ⟨c, D2⟩ := br
        have HBR := Lib.hid hbr
        have hn0' : (0 : Int) < (n : Int) := by omega
        have HN0 := Lib.hid hn0
        clear hbr hn0
        by_cases hc : c = 0
        · subst hc
          go_wp2_with fail
          refine (Barrier_ok HSt.out.1 HFn.out.fit by_ epoch).mono ?_
          rw [HBR.out]
          rintro e w9 ⟨rfl, hd9, hc9⟩
          have HS9 := Lib.hid (HSt.out.next hd9 hc9)
          clear hd9 hc9
          go_wp2_with fail
          go_ret2
          rw [← HR.out]
          unfold applyEnd
          rw [if_neg (by simp), if_pos HN0.out]
          simp only
          rw [HBR.out, if_neg (by simp)]
          exact ⟨rfl, St.pre HCW.out HS9.out HFL.out⟩
        · have q2 : (c != 0) = true := by simpa using hc
          have HC := Lib.hid hc
          clear hc
          go_wp2_with fail
          refine (Barrier_ok HSt.out.1 HFn.out.fit by_ epoch).mono ?_
          rw [HBR.out]
          rintro e w9 ⟨rfl, hd9, hc9⟩
          have HS9 := Lib.hid (HSt.out.next hd9 hc9)
          clear hd9 hc9
          go_wp2_with fail
          go_ret2
          rw [← HR.out]
          unfold applyEnd
          rw [if_neg (by simp), if_pos HN0.out]
          simp only
          rw [HBR.out, if_pos HC.out]
          exact ⟨rfl, St.pre HCW.out HS9.out HFL.out⟩
      · obtain rfl : n = 0 := by omega
        go_wp2_with fail
        go_ret2
        rw [← HR.out]
        unfold applyEnd
        rw [if_neg (by simp), if_neg (by simp)]
        exact ⟨rfl, St.pre HCW.out HSt.out HFL.out⟩
end
end Go.Proofs.YtmmnjecaedmleaaGreatDoor
