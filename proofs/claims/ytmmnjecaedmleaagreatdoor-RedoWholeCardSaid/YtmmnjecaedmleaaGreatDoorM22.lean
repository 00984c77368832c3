import Derived.Test.YtmmnjecaedmleaaGreatDoorM21

/- redo: Scan: contract. -/
namespace Go.Proofs.YtmmnjecaedmleaaGreatDoor
open Go.RowKit
attribute [local go_sem ↓] Go.wp_at_zero Go.wp_at_succ

/-- A record that was found. -/
structure Rc where
  epoch : Nat
  lsn : Nat
  imgs : List Img
def Rc.cells (p : Rc × Value) : List Value := [.int .u64 p.1.epoch, .int .u64 p.1.lsn, p.2]
def RecsR (w : World) (B : Nat) (v : Value) (ps : List (Rc × Value)) : Prop :=
  w.ownsRow B 62 3 v ps.length (ps.flatMap Rc.cells) ∧ ∀ p ∈ ps, w.ownsRow B 38 3 p.2 p.1.imgs.length (p.1.imgs.flatMap Img.cells)
theorem RecsR.nil (w : World) (B : Nat) : RecsR w B (.slice none 0 0) [] := ⟨World.ownsRow_nil _ _ _ _, by simp⟩
theorem RecsR.chg {F : Nat → Prop} {w w' : World} {B : Nat} {v : Value} {ps : List (Rc × Value)} (h : RecsR w B v ps) (hc : Chg F w w') (hn : ∀ k, B ≤ k → k < w.heap.size → ¬ F k) : RecsR w' B v ps :=
  ⟨hc.row h.1 (fun k hk => hn k (h.1.lt k hk).1 (h.1.lt k hk).2), fun p hp => hc.row (h.2 p hp) (fun k hk => hn k ((h.2 p hp).lt k hk).1 ((h.2 p hp).lt k hk).2)⟩
theorem RecsR.no {w w' : World} {B : Nat} {v : Value} {ps : List (Rc × Value)} (h : RecsR w B v ps) (hc : Chg No w w') : RecsR w' B v ps := h.chg hc (fun _ _ _ => id)
theorem RecsR.base {w : World} {B B' : Nat} {v : Value} {ps : List (Rc × Value)} (h : RecsR w B v ps) (hb : B' ≤ B) : RecsR w B' v ps :=
  ⟨ownsRow_base h.1 hb, fun p hp => ownsRow_base (h.2 p hp) hb⟩
theorem rows_ne {w : World} {b1 e1 s1 n1 b2 e2 s2 n2 : Nat} {v1 v2 : Value} {x1 x2 : List Value} (h1 : w.ownsRow b1 e1 s1 v1 n1 x1) (h2 : w.ownsRow b2 e2 s2 v2 n2 x2) (hne : e1 ≠ e2) {k : Nat} (hk : v1.ownBlock = some k) : v2.ownBlock ≠ some k := by
  intro hv
  rcases h1.2 with ⟨rfl, _⟩ | ⟨g, cap, cur, rfl, _, hg, _⟩
  · simp [Value.ownBlock] at hk
  · simp [Value.ownBlock] at hk; subst hk
    rcases h2.2 with ⟨rfl, _⟩ | ⟨g2, cap2, cur2, rfl, _, hg2, _⟩
    · simp [Value.ownBlock] at hv
    · simp [Value.ownBlock] at hv; subst hv
      rw [hg] at hg2; simp at hg2; exact hne hg2.2

theorem el_rec : Elem Tryz.prog 50 62 (.agg #[.int .u64 0, .int .u64 0, .slice none 0 0]) 3 40 := .mk' (by kernel_rfl) (by kernel_rfl) rfl (by omega)

def u64n (n : Nat) : Nat := n % 18446744073709551616
theorem u64n_wrap (n : Nat) : IntKind.u64.wrap ((n : Int) + 1) = (u64n (n + 1) : Int) := by
  have h : IntKind.u64.wrap ((n : Int) + 1) = ((n : Int) + 1) % 18446744073709551616 := rfl
  rw [h, u64n]
  simp
/-- The records that stand one behind the other. -/
def scanL : Nat → Nat → Nat → Bytes → List Rc
  | 0, _, _, _ => []
  | f + 1, e, n, b => match recGet b with
    | none => []
    | some (e', n', l, k) => if e' ≠ e ∨ n' ≠ n then [] else ⟨e', n', l⟩ :: scanL f e (u64n (n + 1)) (b.drop (64 * k))
def scanB (h : Hd) (b : Bytes) : List Rc := scanL (b.length + 1) h.epoch h.lsn (b.drop (64 * h.at_) ++ b.take (64 * h.at_))
def Dk.scan (D : Dk) (s : Sh) (node : Int) : List Rc × Int :=
  if (D.rhead s node).2.1 = false then ([], (D.rhead s node).2.2)
  else if (D.read ((s.logAt node).1 + 1) ((s.log : Int) - 1)).2 ≠ 0 then ([], (D.read ((s.logAt node).1 + 1) ((s.log : Int) - 1)).2)
  else (scanB (D.rhead s node).1 (D.read ((s.logAt node).1 + 1) ((s.log : Int) - 1)).1, 0)
theorem recGet_len {b : Bytes} {e n k : Nat} {l : List Img} (h : recGet b = some (e, n, l, k)) : 1 ≤ k ∧ 64 * k ≤ b.length := by
  unfold recGet at h
  split at h
  · simp at h
  · rename_i e1 n1 t hf
    have ht := recFirst_some hf
    unfold recGetT at h
    split at h
    · simp at h
    · split at h
      · simp at h
      · split at h
        · simp only [Option.some.injEq, Prod.mk.injEq] at h
          obtain ⟨_, _, _, rfl⟩ := h
          refine ⟨?_, by omega⟩
          rw [secs, if_pos ⟨ht.1, ht.2.1⟩]
          omega
        · simp at h
theorem rhead_is {D : Dk} {s : Sh} {node : Int} (h : (D.rhead s node).2.1 = true) : (D.rhead s node).2.2 = 0 ∧ (s.logAt node).2 = 0 ∧ ((D.rhead s node).1.at_ : Int) < (s.log : Int) - 1 ∧ D.on = true := by
  unfold Dk.rhead at h ⊢
  split at h
  · simp at h
  · split at h
    · simp at h
    · rename_i h1 h2
      rw [if_neg h1, if_neg h2]
      split at h
      · simp only [decide_eq_true_eq] at h
        refine ⟨rfl, by simpa using h1, h, ?_⟩
        unfold Dk.read at h2
        cases ho : D.on
        · rw [ho] at h2; simp at h2
        · rfl
      · split at h <;> simp at h

section
variable {w : World} {b : Nat} {D : Dk} {F : Nat → Prop}
def ScanPost (l : List Rc) (c : Int) (w : World) (e' : Ending) (w' : World) : Prop :=
  ∃ v ps, e' = .returned (.tuple #[v, .int .i64 c]) ∧ RecsR w' w.heap.size v ps ∧ ps.map Prod.fst = l ∧ Chg No w w'

set_option maxHeartbeats 1600000 in
set_option maxRecDepth 100000 in
theorem Scan_no {s : Sh} (hs : s.Ok) (h : DiskAt w b D F) (hf : D.Fit) (hsd : D.Sized) (node : Int) (hi : (D.rhead s node).2.1 = false) :
    Calls Tryz.prog 22 #[.pointer (some ⟨b, 0, none⟩), s.val, .int .i64 node] w (ScanPost [] (D.rhead s node).2.2 w) := by
  have hval : s.val = .agg #[.int .i64 s.nodes, .int .i64 s.blocks, .int .i64 s.log, .int .i64 s.cache, .int .i64 s.lease] := rfl
  have H0 := Lib.hid h
  have HF := Lib.hid hf
  have HS := Lib.hid hs
  have HSD := Lib.hid hsd
  obtain ⟨x, hx⟩ : ∃ x, D.rhead s node = x := ⟨_, rfl⟩
  obtain ⟨⟨he, hl, ha⟩, is, c⟩ := x
  rw [hx] at hi ⊢
  obtain rfl : is = false := hi
  have HX := Lib.hid hx
  rw [hval]
  clear h hf hs hsd hx hval
  go_enter Tryz.func22, Tryz.ntmps22
  go_wp2_with fail
  refine (rhead_ok HS.out (H0.out.no' ((Chg.refl No w).alloc _)) HF.out HSD.out node).mono ?_
  rw [HX.out]
  rintro e w1 ⟨rfl, hc1⟩
  unfold Hd.val
  have HC1 := Lib.hid (((Chg.refl No w).alloc _).trans_same hc1)
  clear hc1
  go_wp2_with fail
  go_ret2
  exact ⟨_, [], rfl, RecsR.nil _ _, rfl, HC1.out.alloc _⟩

theorem slice_from (l : Bytes) (n : Nat) (i : Int) (hi : i = n) (hn : n ≤ l.length) (wx : World) : (Instr.slice 9 (S l) (some (.int .i64 i)) none none).run Tryz.prog wx = .ok (S (l.drop n)) wx := by
  subst hi
  have h := run_slice_string_l (P := Tryz.prog) wx 9 (.mk l.toArray) (by kernel_rfl) .i64 (n : Int) (by omega) (by simp [ByteArray.size]; omega)
  rw [ba_extract] at h
  rw [h, show ((n : Int)).toNat = n by omega, show (ByteArray.mk l.toArray).size = l.length by simp [ByteArray.size], take_drop_all]
theorem slice_to (l : Bytes) (n : Nat) (i : Int) (hi : i = n) (hn : n ≤ l.length) (wx : World) : (Instr.slice 9 (S l) none (some (.int .i64 i)) none).run Tryz.prog wx = .ok (S (l.take n)) wx := by
  subst hi
  have h := run_slice_string_h (P := Tryz.prog) wx 9 (.mk l.toArray) (by kernel_rfl) .i64 (n : Int) (by omega) (by simp [ByteArray.size]; omega)
  rw [ba_extract] at h
  rw [h, show ((n : Int)).toNat = n by omega, List.drop_zero, Nat.sub_zero]

theorem logAt_bd {s : Sh} (hs : s.Ok) {node at_ : Int} (h : s.logAt node = (at_, 0)) : 1 ≤ at_ ∧ at_ + (s.log : Int) ≤ (s.size : Int) ∧ at_ ≤ 5000 := by
  unfold Sh.logAt at h
  split at h
  · rename_i hn
    simp only [Prod.mk.injEq, and_true] at h
    obtain ⟨k, hk⟩ : ∃ k : Nat, node - 1 = k := ⟨(node - 1).toNat, by omega⟩
    have hk2 : k + 1 ≤ s.nodes := by omega
    have h1 := mul_nl (show k ≤ 15 by have := hs.n2; omega) hs.l2
    have h2 := Nat.mul_le_mul_right s.log hk2
    rw [Nat.add_mul, Nat.one_mul] at h2
    rw [hk, ← Int.natCast_mul] at h
    unfold Sh.size
    have := hs.l2
    refine ⟨by omega, by omega, by omega⟩
  · simp at h

set_option maxHeartbeats 3200000 in
set_option maxRecDepth 100000 in
theorem Scan_yes {s : Sh} (hs : s.Ok) (h : DiskAt w b D F) (hf : D.Fit) (hsd : D.Sized) (node : Int) (at_ : Int) (hat : s.logAt node = (at_, 0)) (he hl ha : Nat) (hr : D.rhead s node = (⟨he, hl, ha⟩, true, 0)) (hha : (ha : Int) < (s.log : Int) - 1) (bb : Bytes) (c : Int) (hrd : D.read (at_ + 1) ((s.log : Int) - 1) = (bb, c)) :
    Calls Tryz.prog 22 #[.pointer (some ⟨b, 0, none⟩), s.val, .int .i64 node] w (ScanPost (if c ≠ 0 then [] else scanB ⟨he, hl, ha⟩ bb) c w) := by
  have hval : s.val = .agg #[.int .i64 s.nodes, .int .i64 s.blocks, .int .i64 s.log, .int .i64 s.cache, .int .i64 s.lease] := rfl
  have hrl := read_length hsd (at_ + 1) ((s.log : Int) - 1)
  rw [hrd] at hrl
  have hbd := logAt_bd hs hat
  have hl1 := hs.l1
  have hl2 := hs.l2
  have H0 := Lib.hid h
  have HF := Lib.hid hf
  have HS := Lib.hid hs
  have HSD := Lib.hid hsd
  have HAT := Lib.hid hat
  have HX := Lib.hid hr
  have HRD := Lib.hid hrd
  have hsz := (size_le hs).1
  obtain ⟨ha1, ha2, ha3⟩ := hbd
  rw [hval]
  clear h hf hs hsd hr hat hrd hval ha2 hsz
  have w1 : IntKind.i64.wrap ((s.log : Int) - 1) = (s.log : Int) - 1 := IntWalk.i64_in _ (by omega)
  have w2 : IntKind.i64.wrap (at_ + 1) = at_ + 1 := IntWalk.i64_in _ (by omega)
  by_cases hc : c = 0
  · subst hc
    rw [if_neg (by simp)]
    have hbl : bb.length = 64 * (s.log - 1) := by
      have := hrl rfl
      simp only at this
      omega
    clear hrl
    obtain ⟨b2, hb2⟩ : ∃ b2, bb.drop (64 * ha) ++ bb.take (64 * ha) = b2 := ⟨_, rfl⟩
    have hb2l : b2.length = bb.length := by rw [← hb2]; simp only [List.length_append, List.length_drop, List.length_take]; omega
    have hsb : scanB ⟨he, hl, ha⟩ bb = scanL (b2.length + 1) he hl b2 := by rw [scanB, hb2l]; simp only; rw [hb2]
    rw [hsb]
    obtain ⟨res, hres⟩ : ∃ res, scanL (b2.length + 1) he hl b2 = res := ⟨_, rfl⟩
    rw [hres]
    have HB2 := Lib.hid hb2
    have HRES := Lib.hid hres
    have hb2m : b2.length ≤ 1000000 := by omega
    clear hsb hb2 hres
    go_enter Tryz.func22, Tryz.ntmps22
    go_wp2_with fail
    refine (rhead_ok HS.out (H0.out.no' ((Chg.refl No w).alloc _)) HF.out HSD.out node).mono ?_
    rw [HX.out]
    rintro e w3 ⟨rfl, hc3⟩
    unfold Hd.val
    have hj3 := hc3.obj (blk_new w _) id
    obtain ⟨c0, c1, c2, c3, c4⟩ := cells5 hj3
    have hzw := World.block_lt_of_cell? w3 _ c0
    have HC3 := Lib.hid (((Chg.refl No w).alloc _).trans_same hc3)
    clear hc3 hj3
    go_wp2_with fail
    generalize hW : w3.alloc (.cells #[.int .u64 he, .int .u64 hl, .int .i64 ha] 149) = W
    have hcW : Chg No w3 W := by rw [← hW]; exact (Chg.refl _ _).alloc _
    have hkW : W.heap[w3.heap.size]? = some (.cells #[.int .u64 he, .int .u64 hl, .int .i64 ha] 149 (0, 0)) := by rw [← hW]; exact blk_new _ _
    have d0 := hcW.cell c0 id
    have d1 := hcW.cell c1 id
    have d2 := hcW.cell c2 id
    have d3 := hcW.cell c3 id
    have d4 := hcW.cell c4 id
    have HCW := Lib.hid (HC3.out.trans_same hcW)
    have HKW := Lib.hid hkW
    clear hW hcW hkW c0 c1 c2 c3 c4
    refine (LogAt_ok _ HS.out _).mono ?_
    rw [HAT.out]
    rintro e w4 ⟨rfl, hc4⟩
    have c2 := hc4.cell d2 id
    have HC4 := Lib.hid (HCW.out.trans_same hc4)
    have HK4 := Lib.hid (hc4.obj HKW.out id)
    clear hc4 d0 d1 d2 d3 d4
    go_wp2_with fail
    refine (Read_ok (H0.out.no' HC4.out) HF.out HSD.out _ _).mono ?_
    rw [HRD.out]
    rintro e w5 ⟨rfl, hc5⟩
    obtain ⟨g0, g1, g2, _, _, _⟩ := cells3 (hc5.obj HK4.out id)
    have HC5 := Lib.hid (HC4.out.trans_same hc5)
    have HK5 := Lib.hid (hc5.obj HK4.out id)
    clear hc5 c2
    have w3x : IntKind.i64.wrap ((ha : Int) * 64) = (ha : Int) * 64 := IntWalk.i64_in _ (by omega)
    have s1 := slice_from bb (64 * ha) ((ha : Int) * 64) (by omega) (by omega)
    have s2 := slice_to bb (64 * ha) ((ha : Int) * 64) (by omega) (by omega)
    go_wp2_with fail
    go_quiet (fail)
    generalize hW5 : w5.drewN nq = W5
    have hcW5 : Chg No w5 W5 := by rw [← hW5]; exact (Chg.refl _ _).drewN nq
    have e0 := hcW5.cell g0 id
    have e1 := hcW5.cell g1 id
    have HC5 := Lib.hid (HC5.out.trans_same hcW5)
    have HK5 := Lib.hid (hcW5.obj HK5.out id)
    clear hW5 hcW5 g0 g1 g2 s1 s2 w1 w2 w3x
    go_wp2_with fail
    go_loopw [14, 16, 17] (fun bv ov lv wr => ∃ (f n : Nat) (bs : Bytes) (ps : List (Rc × Value)), bs.length < f ∧ f ≤ 1000001 ∧ bv = S bs ∧ lv = .int .u64 n ∧ Hid (RecsR wr W5.heap.size ov ps) ∧ Hid (ps.map Prod.fst ++ scanL f he n bs = res) ∧ ps.length + f ≤ 1000001 ∧ Hid (Chg No W5 wr)) (fun bv ov lv wr => strLen bv)
    case atStart => exact ⟨b2.length + 1, hl, b2, [], by omega, by omega, by rw [← HB2.out], rfl, Lib.hid (RecsR.nil _ _), Lib.hid (by rw [← HRES.out]; rfl), by simp; omega, Lib.hid (Chg.refl _ _)⟩
    case round =>
      obtain ⟨f, n, bs, ps, hf1, hf2, rfl, rfl, HR, HE, hpl, HCr⟩ := hrel
      have g0 := HCr.out.cell e0 id
      have hgz := World.block_lt_of_cell? wr _ g0
      obtain ⟨f, rfl⟩ : ∃ f', f = f' + 1 := ⟨f - 1, by omega⟩
      have hst := HE.out
      rw [scanL] at hst
      cases hg : recGet bs with
      | none =>
        rw [hg] at hst
        simp only [List.append_nil] at hst
        have HST := Lib.hid hst
        have HG := Lib.hid hg
        clear hst hg
        go_wp2_with fail
        refine (RecGet_ok bs (by omega)).mono ?_
        intro e w6 h6
        unfold RecPost at h6
        rw [HG.out] at h6
        obtain ⟨⟨c, hc0, rfl⟩, hc6⟩ := h6
        have q0 : (c != 0) = true := by simpa using hc0
        have HR6 := Lib.hid (HR.out.no hc6)
        have HC6 := Lib.hid (HCr.out.trans_same hc6)
        unfold noRec
        clear hc6 hc0
        go_wp2_with fail
        go_ret2
        exact ⟨_, ps, rfl, (HR6.out.no ((Chg.refl _ _).alloc _)).base HC5.out.size, HST.out, (HC5.out.trans_same HC6.out).alloc _⟩
      | some x =>
        obtain ⟨e', n', l, k⟩ := x
        rw [hg] at hst
        simp only at hst
        have hlen := recGet_len hg
        have HG := Lib.hid hg
        by_cases hm : e' ≠ he ∨ n' ≠ n
        · rw [if_pos hm, List.append_nil] at hst
          have HST := Lib.hid hst
          have HM := Lib.hid hm
          clear hst hg hm
          go_wp2_with fail
          refine (RecGet_ok bs (by omega)).mono ?_
          intro e w6 h6
          unfold RecPost at h6
          rw [HG.out] at h6
          obtain ⟨⟨v, rfl, hv⟩, hc6⟩ := h6
          have HR6 := Lib.hid (HR.out.no hc6)
          have HC6 := Lib.hid (HCr.out.trans_same hc6)
          have d0 := hc6.cell g0 id
          have hgz6 := World.block_lt_of_cell? w6 _ d0
          obtain ⟨va, vn, vc, hvv⟩ : ∃ a n c, v = .slice a n c := by
            rcases hv.2 with ⟨rfl, _⟩ | ⟨g, cap, cur, rfl, _⟩
            · exact ⟨_, _, _, rfl⟩
            · exact ⟨_, _, _, rfl⟩
          subst hvv
          clear hc6 hv
          by_cases h1 : e' = he
          · have h2 : n' ≠ n := HM.out.resolve_left (by simpa using h1)
            have q1 : ((e' : Int) != (he : Int)) = false := by simp [h1]
            have q2 : ((n' : Int) != (n : Int)) = true := by simp; omega
            clear h1 h2
            go_wp2_with fail
            go_ret2
            exact ⟨_, ps, rfl, (HR6.out.no ((Chg.refl _ _).alloc _)).base HC5.out.size, HST.out, (HC5.out.trans_same HC6.out).alloc _⟩
          · have q1 : ((e' : Int) != (he : Int)) = true := by simp; omega
            clear h1
            go_wp2_with fail
            go_ret2
            exact ⟨_, ps, rfl, (HR6.out.no ((Chg.refl _ _).alloc _)).base HC5.out.size, HST.out, (HC5.out.trans_same HC6.out).alloc _⟩
        · rw [if_neg hm] at hst
          obtain ⟨rfl, rfl⟩ : e' = he ∧ n' = n := by omega
          have HST := Lib.hid hst
          clear hst hg hm
          have hlen1 := hlen.1
          have hlen2 := hlen.2
          clear hlen
          go_wp2_with fail
          refine (RecGet_ok bs (by omega)).mono ?_
          intro e w6 h6
          unfold RecPost at h6
          rw [HG.out] at h6
          obtain ⟨⟨v, rfl, hv⟩, hc6⟩ := h6
          have HV := Lib.hid hv
          have HR6 := Lib.hid (HR.out.no hc6)
          have HC6 := Lib.hid (HCr.out.trans_same hc6)
          have hz6 := hc6.size
          have hzr := HCr.out.size
          have hz5 := HC5.out.size
          have d0 := hc6.cell g0 id
          have hgz6 := World.block_lt_of_cell? w6 _ d0
          obtain ⟨va, vn, vc, hvv⟩ : ∃ a n c, v = .slice a n c := by
            rcases hv.2 with ⟨rfl, _⟩ | ⟨g, cap, cur, rfl, _⟩
            · exact ⟨_, _, _, rfl⟩
            · exact ⟨_, _, _, rfl⟩
          subst hvv
          clear hc6 hv
          go_wp2_with (at_builtin; refine Halt1.hold ?_)
          refine Halt1.go ?_
          refine wpL_app el_rec (.tmp 93) (.tmp 95) rfl rfl W5.heap.size u16 _ _ rfl ((HR6.out.1.alloc _).alloc _) (w6.heap.size + 1) 1 1 (Rc.cells (⟨e', n', l⟩, .slice va vn vc)) _ _ rfl (by rw [show w6.heap.size + 1 = (w6.alloc _).heap.size from (World.size_alloc _ _).symm]; exact blk_new _ _) rfl (by simp [Rc.cells, Value.oneCell']) (by omega) (by omega) (by omega) (by simp; omega) ?_
          intro g1 cap1 w8 hown8 hgrow8 hat8 hlt8
          have hC8 : Chg No W5 w8 := ((HC6.out.alloc _).alloc _).grown hgrow8 (fun j hj => .inr (HR6.out.1.lt j hj).1)
          have hR8 : RecsR w8 W5.heap.size (.slice (some ⟨g1, 0, none⟩) (ps.length + 1) cap1) (ps ++ [(⟨e', n', l⟩, .slice va vn vc)]) := by
            refine ⟨by simpa using hown8, ?_⟩
            have key : ∀ p : Rc × Value, w6.ownsRow W5.heap.size 38 3 p.2 p.1.imgs.length (p.1.imgs.flatMap Img.cells) → w8.ownsRow W5.heap.size 38 3 p.2 p.1.imgs.length (p.1.imgs.flatMap Img.cells) := by
              intro p hp
              have hp2 := (hp.alloc (.cells #[.int .u64 e', .int .u64 n', .slice va vn vc] 62)).alloc (.cells #[.int .u64 e', .int .u64 n', .slice va vn vc] 62)
              exact row_of hp2 (fun k hk => hgrow8.block k (hp2.lt k hk).2 (fun e => rows_ne HR6.out.1 hp (by decide) e.symm hk))
            intro p hp
            rcases List.mem_append.1 hp with hp | hp
            · exact key p (HR6.out.2 p hp)
            · obtain rfl := List.mem_singleton.1 hp
              exact key _ (ownsRow_base HV.out hzr)
          have HC8 := Lib.hid hC8
          have HR8 := Lib.hid hR8
          have s1 := slice_from bs (64 * k) ((k : Int) * 64) (by omega) hlen2
          have w1 : IntKind.i64.wrap ((k : Int) * 64) = (k : Int) * 64 := IntWalk.i64_in _ (by omega)
          have w2 := u64n_wrap n'
          clear hC8 hR8 hown8 hgrow8 hat8 d0 g0
          go_wp2_with fail
          refine ⟨⟨f, u64n (n' + 1), bs.drop (64 * k), ps ++ [(⟨e', n', l⟩, .slice va vn vc)], by simp; omega, by omega, rfl, rfl, HR8, Lib.hid (by rw [← HST.out]; simp), by simp; omega, HC8⟩, by simp [strLen, ByteArray.size]; omega⟩
  · rw [if_pos hc]
    have q0 : (c != 0) = true := by simpa using hc
    clear hc
    go_enter Tryz.func22, Tryz.ntmps22
    go_wp2_with fail
    refine (rhead_ok HS.out (H0.out.no' ((Chg.refl No w).alloc _)) HF.out HSD.out node).mono ?_
    rw [HX.out]
    rintro e w3 ⟨rfl, hc3⟩
    unfold Hd.val
    have hj3 := hc3.obj (blk_new w _) id
    obtain ⟨c0, c1, c2, c3, c4⟩ := cells5 hj3
    have hzw := World.block_lt_of_cell? w3 _ c0
    have HC3 := Lib.hid (((Chg.refl No w).alloc _).trans_same hc3)
    clear hc3 hj3
    go_wp2_with fail
    generalize hW : w3.alloc (.cells #[.int .u64 he, .int .u64 hl, .int .i64 ha] 149) = W
    have hcW : Chg No w3 W := by rw [← hW]; exact (Chg.refl _ _).alloc _
    have d0 := hcW.cell c0 id
    have d1 := hcW.cell c1 id
    have d2 := hcW.cell c2 id
    have d3 := hcW.cell c3 id
    have d4 := hcW.cell c4 id
    have HCW := Lib.hid (HC3.out.trans_same hcW)
    clear hW hcW c0 c1 c2 c3 c4
    refine (LogAt_ok _ HS.out _).mono ?_
    rw [HAT.out]
    rintro e w4 ⟨rfl, hc4⟩
    have c2 := hc4.cell d2 id
    have HC4 := Lib.hid (HCW.out.trans_same hc4)
    clear hc4 d0 d1 d2 d3 d4
    go_wp2_with fail
    refine (Read_ok (H0.out.no' HC4.out) HF.out HSD.out _ _).mono ?_
    rw [HRD.out]
    rintro e w5 ⟨rfl, hc5⟩
    have HC5 := Lib.hid (HC4.out.trans_same hc5)
    clear hc5 c2
    go_wp2_with fail
    go_ret2
    exact ⟨_, [], rfl, RecsR.nil _ _, rfl, HC5.out⟩

theorem Scan_ok {s : Sh} (hs : s.Ok) (h : DiskAt w b D F) (hf : D.Fit) (hsd : D.Sized) (node : Int) :
    Calls Tryz.prog 22 #[.pointer (some ⟨b, 0, none⟩), s.val, .int .i64 node] w (ScanPost (D.scan s node).1 (D.scan s node).2 w) := by
  unfold Dk.scan
  cases hi : (D.rhead s node).2.1
  · rw [if_pos rfl]
    exact Scan_no hs h hf hsd node hi
  · rw [if_neg (by decide)]
    obtain ⟨h1, h2, h3, _⟩ := rhead_is hi
    obtain ⟨x, hx⟩ : ∃ x, D.rhead s node = x := ⟨_, rfl⟩
    rw [hx] at hi h1 h3 ⊢
    obtain ⟨⟨he, hl, ha⟩, is, c⟩ := x
    obtain rfl : is = true := hi
    obtain rfl : c = 0 := h1
    obtain ⟨y, hy⟩ : ∃ y, s.logAt node = y := ⟨_, rfl⟩
    rw [hy] at h2 ⊢
    obtain ⟨at_, e⟩ := y
    obtain rfl : e = 0 := h2
    obtain ⟨z, hz⟩ : ∃ z, D.read (at_ + 1) ((s.log : Int) - 1) = z := ⟨_, rfl⟩
    simp only
    rw [hz]
    obtain ⟨bb, c⟩ := z
    refine (Scan_yes hs h hf hsd node at_ hy he hl ha hx h3 bb c hz).mono ?_
    intro e' w' hp
    by_cases hc : c = 0
    · subst hc
      simpa using hp
    · rw [if_pos hc] at hp ⊢
      exact hp
end
end Go.Proofs.YtmmnjecaedmleaaGreatDoor
