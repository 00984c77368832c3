import Derived.Test.YtmmnjecaedmleaaGreatDoorM20

/- strings.Trim of bytes 0: contract. -/
namespace Go.Proofs.YtmmnjecaedmleaaGreatDoor
open Go.RowKit
attribute [local go_sem ↓] Go.wp_at_zero Go.wp_at_succ

def strLen : Value → Nat
  | .string s => s.size
  | _ => 0
def allZ (l : Bytes) : Prop := ∀ x ∈ l, x = 0

theorem trimLeft_ok (l : Bytes) (w : World) (hl : l.length ≤ 1000000) :
    Calls Tryz.prog 277 #[S l, .int .u8 0] w fun e w' => (∃ t : Bytes, e = .returned (S t) ∧ (t = [] ↔ allZ l)) ∧ w = w' := by
  go_enter Tryz.func277, Tryz.ntmps277
  go_wp2_with fail
  go_loop [0] (fun v => ∃ cur : Bytes, v = S cur ∧ Hid (allZ cur ↔ allZ l) ∧ cur.length ≤ 1000000) strLen
  case atStart => exact ⟨l, rfl, Lib.hid Iff.rfl, hl⟩
  case round =>
    obtain ⟨cur, rfl, HA, hc⟩ := hrel
    cases cur with
    | nil =>
      go_wp2
      go_ret
      exact ⟨⟨[], rfl, by rw [← HA.out]; simp [allZ]⟩, rfl⟩
    | cons c r =>
      by_cases h0 : c = 0
      · subst h0
        have hx : ((((⟨((0 : UInt8) :: r).toArray⟩ : ByteArray)[0]'(by simp [ByteArray.size])).toNat : Int) == 0) = true := rfl
        go_wp2
        go_round
        case rel => exact ⟨r, by simp, Lib.hid (by rw [← HA.out]; simp [allZ]), by simp at hc; omega⟩
        case measure => simp [strLen, ByteArray.size]
      · have hx : ((((⟨(c :: r).toArray⟩ : ByteArray)[0]'(by simp [ByteArray.size])).toNat : Int) == 0) = false := by
          show ((c.toNat : Int) == 0) = false
          simp only [beq_eq_false_iff_ne]
          intro h
          exact h0 (UInt8.toNat_inj.1 (by simpa using h))
        have H0 := Lib.hid h0
        clear h0
        go_wp2
        go_ret
        exact ⟨⟨c :: r, rfl, by rw [← HA.out]; simp [allZ, H0.out]⟩, rfl⟩

theorem trimRight_ok (l : Bytes) (w : World) (hl : l.length ≤ 1000000) :
    Calls Tryz.prog 278 #[S l, .int .u8 0] w fun e w' => (∃ t : Bytes, e = .returned (S t) ∧ (allZ t ↔ allZ l) ∧ t.length ≤ 1000000) ∧ w = w' := by
  go_enter Tryz.func278, Tryz.ntmps278
  go_wp2_with fail
  go_loop [0] (fun v => ∃ cur : Bytes, v = S cur ∧ Hid (allZ cur ↔ allZ l) ∧ cur.length ≤ 1000000) strLen
  case atStart => exact ⟨l, rfl, Lib.hid Iff.rfl, hl⟩
  case round =>
    obtain ⟨cur, rfl, HA, hc⟩ := hrel
    rcases List.eq_nil_or_concat cur with rfl | ⟨r, c, rfl⟩
    · go_wp2
      go_ret
      exact ⟨⟨[], rfl, HA.out, by simp⟩, rfl⟩
    · rw [List.concat_eq_append] at hc HA ⊢
      have hr : r.length + 1 ≤ 1000000 := by rw [List.length_append] at hc; simpa using hc
      clear hc
      have hgl : (⟨(r ++ [c]).toArray⟩ : ByteArray)[r.length]'(by simp [ByteArray.size]) = c := by
        show (r ++ [c]).toArray[r.length]'(by simp) = c
        simp
      have HGL := Lib.hid hgl
      clear hgl
      go_wp2
      case roundEnd =>
        have hz : c = 0 := by
          have h := ‹(_ == (0 : Int)) = true›
          rw [HGL.out] at h
          exact UInt8.toNat_inj.1 (by simpa using h)
        refine ⟨⟨r, rfl, Lib.hid (by rw [← HA.out, hz]; simp only [allZ, List.mem_append, List.mem_singleton]; exact ⟨fun h x hx => hx.elim (h x) id, fun h x hx => h x (.inl hx)⟩), by omega⟩, by simp [strLen, ByteArray.size]⟩
      go_ret
      exact ⟨⟨r ++ [c], rfl, HA.out, by simp; omega⟩, rfl⟩

set_option maxRecDepth 100000 in
theorem Trim_ok (l : Bytes) (w : World) (hl : l.length ≤ 1000000) :
    Calls Tryz.prog 205 #[S l, S [0]] w fun e w' => (∃ t : Bytes, e = .returned (S t) ∧ (t = [] ↔ allZ l)) ∧ Chg No w w' := by
  cases l with
  | nil =>
    go_enter Tryz.func205, Tryz.ntmps205
    go_wp2
    go_ret
    exact ⟨⟨[], rfl, by simp [allZ]⟩, Chg.refl _ _⟩
  | cons c r =>
    have hx0 : ((⟨#[(0 : UInt8)]⟩ : ByteArray)[0]'(by decide)).toNat = 0 := rfl
    go_enter Tryz.func205, Tryz.ntmps205
    go_wp2_with fail
    have HL := Lib.hid hl
    clear hl
    go_region_with (first
      | (go_at_call 278; (with_reducible refine (trimRight_ok _ _ HL.out).mono ?_); rintro e w1 ⟨⟨t1, rfl, ha1, hb1⟩, rfl⟩; have HA1 := Lib.hid ha1; have HB1 := Lib.hid hb1; clear ha1 hb1)
      | (go_at_call 277; (with_reducible refine (trimLeft_ok _ _ HB1.out).mono ?_); rintro e w1 ⟨⟨t2, rfl, ha2⟩, rfl⟩; have HA2 := Lib.hid ha2; clear ha2))
    all_goals go_wp2_with fail
    all_goals go_ret
    all_goals exact ⟨⟨t2, rfl, HA2.out.trans HA1.out⟩, (Chg.refl _ _).drew⟩
end Go.Proofs.YtmmnjecaedmleaaGreatDoor

/- redo: head: contract. -/
namespace Go.Proofs.YtmmnjecaedmleaaGreatDoor
open Go.RowKit
attribute [local go_sem ↓] Go.wp_at_zero Go.wp_at_succ

def isZ (l : Bytes) : Bool := l.all (· == 0)
theorem isZ_iff (l : Bytes) : isZ l = true ↔ allZ l := by simp [isZ, allZ]

theorem GetHead_ok (w : World) (b : Bytes) (hb : b.length = 64) : Calls Tryz.prog 204 #[S b] w (GetHeadPost b w) := by
  cases hs : sumOk b
  · refine (GetHead_sum w b hb hs).mono ?_
    rintro e' w' ⟨rfl, hc⟩
    have hn : getHead b = none := by rw [getHead, if_neg (by rw [hs]; simp)]
    unfold GetHeadPost
    rw [hn]
    exact ⟨⟨6, by decide, rfl⟩, hc⟩
  · exact GetHead_any w b hb hs

def noHd : Hd := ⟨0, 0, 0⟩
def Dk.rhead (D : Dk) (s : Sh) (node : Int) : Hd × Bool × Int :=
  if (s.logAt node).2 ≠ 0 then (noHd, false, (s.logAt node).2)
  else if (D.read (s.logAt node).1 1).2 ≠ 0 then (noHd, false, (D.read (s.logAt node).1 1).2)
  else match getHead (D.read (s.logAt node).1 1).1 with
    | some h => (h, decide ((h.at_ : Int) < (s.log : Int) - 1), 0)
    | none => if isZ (D.read (s.logAt node).1 1).1 = true then (noHd, false, 0) else (noHd, false, 15)

section
variable {w : World} {b : Nat} {D : Dk} {F : Nat → Prop}

set_option maxHeartbeats 1600000 in
set_option maxRecDepth 100000 in
theorem rhead_ok {s : Sh} (hs : s.Ok) (h : DiskAt w b D F) (hf : D.Fit) (hsd : D.Sized) (node : Int) :
    Calls Tryz.prog 82 #[.pointer (some ⟨b, 0, none⟩), s.val, .int .i64 node] w fun e w' => e = .returned (.tuple #[(D.rhead s node).1.val, .bool (D.rhead s node).2.1, .int .i64 (D.rhead s node).2.2]) ∧ Chg No w w' := by
  have hval : s.val = .agg #[.int .i64 s.nodes, .int .i64 s.blocks, .int .i64 s.log, .int .i64 s.cache, .int .i64 s.lease] := rfl
  have H0 := Lib.hid h
  have HF := Lib.hid hf
  have HS := Lib.hid hs
  have HSD := Lib.hid hsd
  unfold Dk.rhead
  obtain ⟨e1, he1⟩ : ∃ e1, s.logAt node = e1 := ⟨_, rfl⟩
  obtain ⟨at_, e1⟩ := e1
  rw [he1]
  by_cases hz : e1 = 0
  · subst hz
    rw [if_neg (by simp)]
    obtain ⟨e2, he2⟩ : ∃ e2, D.read at_ 1 = e2 := ⟨_, rfl⟩
    have hrl := read_length hsd at_ 1
    rw [he2] at hrl ⊢
    obtain ⟨bb, e2⟩ := e2
    by_cases hz2 : e2 = 0
    · subst hz2
      rw [if_neg (by simp)]
      have HE1 := Lib.hid he1
      have HE2 := Lib.hid he2
      have HRL := Lib.hid (show bb.length = 64 from hrl rfl)
      cases hgh : getHead bb with
      | some hd =>
        obtain ⟨he, hl, ha⟩ := hd
        have HGH := Lib.hid hgh
        have hlog1 := hs.l1
        have hlog2 := hs.l2
        rw [hval]
        clear h hf hs hval he1 hsd hrl he2 hgh
        go_enter Tryz.func82, Tryz.ntmps82
        go_wp2_with fail
        refine (LogAt_ok _ HS.out _).mono ?_
        rw [HE1.out]
        rintro e w1 ⟨rfl, hc1⟩
        have hC1 : Chg No w w1 := (((Chg.refl No w).alloc _).alloc _).trans_same hc1
        have hk1 := hc1.obj (blk_new _ _) id
        rw [World.size_alloc] at hk1
        have hk0 := hc1.obj (blk_alloc _ (blk_new w _)) id
        have HC1 := Lib.hid hC1
        have HK1 := Lib.hid hk1
        have HK0 := Lib.hid hk0
        clear hc1 hC1 hk1 hk0
        go_wp2_with fail
        refine (Read_ok (H0.out.no' HC1.out) HF.out HSD.out _ _).mono ?_
        rw [HE2.out]
        rintro e w2 ⟨rfl, hc2⟩
        have HC2 := Lib.hid (HC1.out.trans_same hc2)
        have HK2 := Lib.hid (hc2.obj HK1.out id)
        have HJ2 := Lib.hid (hc2.obj HK0.out id)
        clear hc2
        go_wp2_with fail
        refine (GetHead_ok _ bb HRL.out).mono ?_
        intro e w3 h3
        unfold GetHeadPost at h3
        rw [HGH.out] at h3
        obtain ⟨rfl, hc3⟩ := h3
        have hk3 := hc3.obj HK2.out id
        obtain ⟨d0, d1, d2, f0, f1, f2⟩ := cells3 hk3
        obtain ⟨c0, c1, c2, c3, c4⟩ := cells5 (hc3.obj HJ2.out id)
        have HC3 := Lib.hid (HC2.out.trans_same hc3)
        unfold Hd.val
        clear hk3
        have hwz := World.block_lt_of_cell? w3 _ d0
        go_wp2_with fail
        generalize hW : w3.alloc (.cells #[.int .u64 he, .int .u64 hl, .int .i64 ha] 149) = W
        have hcW : Chg No w3 W := by rw [← hW]; exact (Chg.refl _ _).alloc _
        have hkW : W.heap[w3.heap.size]? = some (.cells #[.int .u64 he, .int .u64 hl, .int .i64 ha] 149 (0, 0)) := by rw [← hW]; exact blk_new _ _
        have hkR := hcW.obj (hc3.obj HK2.out id) id
        obtain ⟨g0, g1, g2, _, _, _⟩ := cells3 hkW
        have c2 := hcW.cell c2 id
        have d0 := hcW.cell d0 id
        have d1 := hcW.cell d1 id
        have d2 := hcW.cell d2 id
        have f0 := free_of_blk hkR 0
        have f1 := free_of_blk hkR 1
        have f2 := free_of_blk hkR 2
        have HCW := Lib.hid (HC3.out.trans_same hcW)
        have HKR := Lib.hid hkR
        have hne : w3.heap.size ≠ w.heap.size + 1 := by omega
        have hw1 : IntKind.i64.wrap ((s.log : Int) - 1) = (s.log : Int) - 1 := IntWalk.i64_in _ (by omega)
        clear hW hcW hkW hkR hc3
        go_region
        all_goals go_wp2_with fail
        all_goals
          refine bodyPost_ret (v := .tuple #[.agg #[.int .u64 he, .int .u64 hl, .int .i64 ha], .bool (decide ((ha : Int) < (s.log : Int) - 1)), .int .i64 0]) ?_ rfl ⟨rfl, ?_⟩
          · obtain ⟨x0, x1, x2, _, _, _⟩ := cells3 (set3_blk HKR.out (.int .u64 he) (.int .u64 hl) (.int .i64 ha))
            simp [results, Tryz.results82, go_sem, x0, x1, x2]
          · exact (HCW.out.set3 (.inr (Nat.le_succ _)) _ _ _).drew
      | none =>
        have HGH := Lib.hid hgh
        cases hzz : isZ bb
        · have HZZ := Lib.hid hzz
          clear hzz
          rw [hval]
          clear h hf hs hval he1 hsd hrl he2 hgh
          go_enter Tryz.func82, Tryz.ntmps82
          go_wp2_with fail
          refine (LogAt_ok _ HS.out _).mono ?_
          rw [HE1.out]
          rintro e w1 ⟨rfl, hc1⟩
          have hC1 : Chg No w w1 := (((Chg.refl No w).alloc _).alloc _).trans_same hc1
          have hk1 := hc1.obj (blk_new _ _) id
          rw [World.size_alloc] at hk1
          have HC1 := Lib.hid hC1
          have HK1 := Lib.hid hk1
          clear hc1 hC1 hk1
          go_wp2_with fail
          refine (Read_ok (H0.out.no' HC1.out) HF.out HSD.out _ _).mono ?_
          rw [HE2.out]
          rintro e w2 ⟨rfl, hc2⟩
          have HC2 := Lib.hid (HC1.out.trans_same hc2)
          have HK2 := Lib.hid (hc2.obj HK1.out id)
          clear hc2
          go_wp2_with fail
          refine (GetHead_ok _ bb HRL.out).mono ?_
          intro e w3 h3
          unfold GetHeadPost at h3
          rw [HGH.out] at h3
          obtain ⟨⟨c, hc0, rfl⟩, hc3⟩ := h3
          have q0 : (c == 0) = false := by simpa using hc0
          have HC3 := Lib.hid (HC2.out.trans_same hc3)
          have HK3 := Lib.hid (hc3.obj HK2.out id)
          clear hc3 hc0
          go_wp2_with fail
          generalize hW : w3.alloc (.cells #[.int .u64 0, .int .u64 0, .int .i64 0] 149) = W
          have hcW : Chg No w3 W := by rw [← hW]; exact (Chg.refl _ _).alloc _
          have HCW := Lib.hid (HC3.out.trans_same hcW)
          have HKW := Lib.hid (hcW.obj HK3.out id)
          clear hW hcW
          refine (Trim_ok bb W (by have := HRL.out; omega)).mono ?_
          rintro e w4 ⟨⟨t, rfl, ht⟩, hc4⟩
          have hk4 := hc4.obj HKW.out id
          obtain ⟨d0, d1, d2, f0, f1, f2⟩ := cells3 hk4
          have HC4 := Lib.hid (HCW.out.trans_same hc4)
          rw [← isZ_iff, HZZ.out] at ht
          clear hc4 hk4
          obtain ⟨tc, tr, rfl⟩ : ∃ tc tr, t = tc :: tr := by
            cases t with
            | nil => exact absurd (ht.1 rfl) (by decide)
            | cons tc tr => exact ⟨tc, tr, rfl⟩
          clear ht
          go_wp2_with fail
          refine bodyPost_ret (v := .tuple #[noHd.val, .bool false, .int .i64 15]) ?_ rfl ⟨rfl, ?_⟩
          · simp [results, Tryz.results82, go_sem, d0, d1, d2, noHd, Hd.val]
          · exact HC4.out.set3 (.inr (Nat.le_succ _)) _ _ _
        · have HZZ := Lib.hid hzz
          clear hzz
          rw [hval]
          clear h hf hs hval he1 hsd hrl he2 hgh
          go_enter Tryz.func82, Tryz.ntmps82
          go_wp2_with fail
          refine (LogAt_ok _ HS.out _).mono ?_
          rw [HE1.out]
          rintro e w1 ⟨rfl, hc1⟩
          have hC1 : Chg No w w1 := (((Chg.refl No w).alloc _).alloc _).trans_same hc1
          have hk1 := hc1.obj (blk_new _ _) id
          rw [World.size_alloc] at hk1
          have HC1 := Lib.hid hC1
          have HK1 := Lib.hid hk1
          clear hc1 hC1 hk1
          go_wp2_with fail
          refine (Read_ok (H0.out.no' HC1.out) HF.out HSD.out _ _).mono ?_
          rw [HE2.out]
          rintro e w2 ⟨rfl, hc2⟩
          have HC2 := Lib.hid (HC1.out.trans_same hc2)
          have HK2 := Lib.hid (hc2.obj HK1.out id)
          clear hc2
          go_wp2_with fail
          refine (GetHead_ok _ bb HRL.out).mono ?_
          intro e w3 h3
          unfold GetHeadPost at h3
          rw [HGH.out] at h3
          obtain ⟨⟨c, hc0, rfl⟩, hc3⟩ := h3
          have q0 : (c == 0) = false := by simpa using hc0
          have HC3 := Lib.hid (HC2.out.trans_same hc3)
          have HK3 := Lib.hid (hc3.obj HK2.out id)
          clear hc3 hc0
          go_wp2_with fail
          generalize hW : w3.alloc (.cells #[.int .u64 0, .int .u64 0, .int .i64 0] 149) = W
          have hcW : Chg No w3 W := by rw [← hW]; exact (Chg.refl _ _).alloc _
          have HCW := Lib.hid (HC3.out.trans_same hcW)
          have HKW := Lib.hid (hcW.obj HK3.out id)
          clear hW hcW
          refine (Trim_ok bb W (by have := HRL.out; omega)).mono ?_
          rintro e w4 ⟨⟨t, rfl, ht⟩, hc4⟩
          have hk4 := hc4.obj HKW.out id
          obtain ⟨d0, d1, d2, f0, f1, f2⟩ := cells3 hk4
          have HC4 := Lib.hid (HCW.out.trans_same hc4)
          rw [← isZ_iff, HZZ.out] at ht
          clear hc4 hk4
          obtain rfl : t = [] := ht.2 rfl
          clear ht
          go_wp2_with fail
          refine bodyPost_ret (v := .tuple #[noHd.val, .bool false, .int .i64 0]) ?_ rfl ⟨rfl, ?_⟩
          · simp [results, Tryz.results82, go_sem, d0, d1, d2, noHd, Hd.val]
          · exact HC4.out.set3 (.inr (Nat.le_succ _)) _ _ _
    · rw [if_pos hz2]
      have hz3 : (e2 != 0) = true := by simpa using hz2
      have HE1 := Lib.hid he1
      have HE2 := Lib.hid he2
      rw [hval]
      clear h hf hs hval he1 hsd hrl he2 hz2
      go_enter Tryz.func82, Tryz.ntmps82
      go_wp2_with fail
      refine (LogAt_ok _ HS.out _).mono ?_
      rw [HE1.out]
      rintro e w1 ⟨rfl, hc1⟩
      have hC1 : Chg No w w1 := (((Chg.refl No w).alloc _).alloc _).trans_same hc1
      have hk1 := hc1.obj (blk_new _ _) id
      rw [World.size_alloc] at hk1
      have HC1 := Lib.hid hC1
      have HK1 := Lib.hid hk1
      clear hc1 hC1 hk1
      go_wp2_with fail
      refine (Read_ok (H0.out.no' HC1.out) HF.out HSD.out _ _).mono ?_
      rw [HE2.out]
      rintro e w2 ⟨rfl, hc2⟩
      have hk2 := hc2.obj HK1.out id
      obtain ⟨d0, d1, d2, f0, f1, f2⟩ := cells3 hk2
      have HC2 := Lib.hid (HC1.out.trans_same hc2)
      clear hc2 hk2
      go_wp2_with fail
      refine bodyPost_ret (v := .tuple #[noHd.val, .bool false, .int .i64 e2]) ?_ rfl ⟨rfl, ?_⟩
      · simp [results, Tryz.results82, go_sem, d0, d1, d2, noHd, Hd.val]
      · exact ((HC2.out.setCell (p := ⟨w.heap.size + 1, 0, none⟩) (.inr (Nat.le_succ _)) _).setCell (p := ⟨w.heap.size + 1, 1, none⟩) (.inr (Nat.le_succ _)) _).setCell (p := ⟨w.heap.size + 1, 2, none⟩) (.inr (Nat.le_succ _)) _
  · rw [if_pos hz]
    have hz2 : (e1 != 0) = true := by simpa using hz
    have HE1 := Lib.hid he1
    rw [hval]
    clear h hf hs hval he1 hz hsd
    go_enter Tryz.func82, Tryz.ntmps82
    go_wp2_with fail
    refine (LogAt_ok _ HS.out _).mono ?_
    rw [HE1.out]
    rintro e w1 ⟨rfl, hc1⟩
    have hC1 : Chg No w w1 := (((Chg.refl No w).alloc _).alloc _).trans_same hc1
    have hk1 := hc1.obj (blk_new _ _) id
    rw [World.size_alloc] at hk1
    obtain ⟨d0, d1, d2, f0, f1, f2⟩ := cells3 hk1
    have HC1 := Lib.hid hC1
    clear hc1 hC1 hk1
    go_wp2_with fail
    refine bodyPost_ret (v := .tuple #[noHd.val, .bool false, .int .i64 e1]) ?_ rfl ⟨rfl, ?_⟩
    · simp [results, Tryz.results82, go_sem, d0, d1, d2, noHd, Hd.val]
    · exact ((HC1.out.setCell (p := ⟨w.heap.size + 1, 0, none⟩) (.inr (Nat.le_succ _)) _).setCell (p := ⟨w.heap.size + 1, 1, none⟩) (.inr (Nat.le_succ _)) _).setCell (p := ⟨w.heap.size + 1, 2, none⟩) (.inr (Nat.le_succ _)) _
end
end Go.Proofs.YtmmnjecaedmleaaGreatDoor
