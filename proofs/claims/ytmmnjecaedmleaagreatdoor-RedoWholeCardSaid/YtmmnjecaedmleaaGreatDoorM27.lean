import Derived.Test.YtmmnjecaedmleaaGreatDoorM26
import Derived.Lib.SlBytesConst
import Derived.Deep.DeepCutAuto

/- ref8: ValidShape, Size, PutShape; law9.Shape: contracts. -/
namespace Go.Proofs.YtmmnjecaedmleaaGreatDoor
open Go.RowKit
attribute [local go_sem ↓] Go.wp_at_zero Go.wp_at_succ

section
variable {w : World} {s : Sh}

set_option maxHeartbeats 1600000 in
set_option maxRecDepth 100000 in
theorem rValid_ok (hs : s.Ok) : Calls Tryz.prog 183 #[.agg #[.int .i64 s.nodes, .int .i64 s.blocks, .int .i64 s.log, .int .i64 s.cache, .int .i64 s.lease]] w fun e w' => e = .returned (.bool true) ∧ Chg No w w' := by
  obtain ⟨a1, a2, b1, b2, l1, l2, c1, c2, e1, e2⟩ := hs
  have q1 : decide ((1 : Int) ≤ (s.nodes : Int)) = true := by simp only [decide_eq_true_eq]; omega
  have q2 : decide ((s.nodes : Int) ≤ 16) = true := by simp only [decide_eq_true_eq]; omega
  have q3 : decide ((1 : Int) ≤ (s.blocks : Int)) = true := by simp only [decide_eq_true_eq]; omega
  have q4 : decide ((s.blocks : Int) ≤ 4096) = true := by simp only [decide_eq_true_eq]; omega
  have q5 : decide ((8 : Int) ≤ (s.log : Int)) = true := by simp only [decide_eq_true_eq]; omega
  have q6 : decide ((s.log : Int) ≤ 256) = true := by simp only [decide_eq_true_eq]; omega
  have q7 : decide ((2 : Int) ≤ (s.cache : Int)) = true := by simp only [decide_eq_true_eq]; omega
  have q8 : decide ((s.cache : Int) ≤ 1000) = true := by simp only [decide_eq_true_eq]; omega
  have q9 : decide ((32 : Int) ≤ (s.lease : Int)) = true := by simp only [decide_eq_true_eq]; omega
  have q10 : decide ((s.lease : Int) ≤ 1000) = true := by simp only [decide_eq_true_eq]; omega
  go_enter Tryz.func183, Tryz.ntmps183
  go_wp2_with fail
  go_ret
  exact ⟨rfl, (Chg.refl No w).alloc _⟩

set_option maxHeartbeats 1600000 in
set_option maxRecDepth 100000 in
theorem rSize_ok (hs : s.Ok) : Calls Tryz.prog 57 #[s.val] w fun e w' => e = .returned (.int .i64 s.size) ∧ Chg No w w' := by
  have HS := Lib.hid hs
  have hval : s.val = .agg #[.int .i64 s.nodes, .int .i64 s.blocks, .int .i64 s.log, .int .i64 s.cache, .int .i64 s.lease] := rfl
  have hm := mul_nl hs.n2 hs.l2
  have hb2 := hs.b2
  have e1 : IntKind.i64.wrap ((s.nodes : Int) * (s.log : Int)) = ((s.nodes * s.log : Nat) : Int) := by rw [← Int.natCast_mul]; exact IntWalk.i64_in _ (by omega)
  obtain ⟨m, hmm⟩ : ∃ m, m = s.nodes * s.log := ⟨_, rfl⟩
  have hsz : s.size = 1 + m + 2 * s.blocks := by rw [Sh.size, hmm]
  rw [← hmm] at e1 hm
  rw [hval, hsz]
  have HM := Lib.hid hmm
  clear hs hval hmm hsz
  go_enter Tryz.func57, Tryz.ntmps57
  go_wp2_with fail
  refine (rValid_ok HS.out).mono ?_
  rintro e w1 ⟨rfl, hc1⟩
  obtain ⟨c0, c1, c2, c3, c4⟩ := cells5 (hc1.obj (blk_new w _) id)
  have HC1 := Lib.hid (((Chg.refl No w).alloc _).trans_same hc1)
  clear hc1
  go_wp2_with fail
  go_ret
  exact ⟨by simp, HC1.out⟩

theorem set5_blk {w : World} {b : Nat} {p0 p1 p2 p3 p4 : Value} {T : TypeId} (h : w.heap[b]? = some (.cells #[p0, p1, p2, p3, p4] T (0, 0))) (x0 x1 x2 x3 x4 : Value) :
    (((((w.setCell ⟨b, 0, none⟩ x0).setCell ⟨b, 1, none⟩ x1).setCell ⟨b, 2, none⟩ x2).setCell ⟨b, 3, none⟩ x3).setCell ⟨b, 4, none⟩ x4).heap[b]? = some (.cells #[x0, x1, x2, x3, x4] T (0, 0)) := blk_set (blk_set (blk_set (blk_set (blk_set h 0 x0) 1 x1) 2 x2) 3 x3) 4 x4
theorem Shape_ok (w : World) : Calls Tryz.prog 55 #[] w fun e w' => e = .returned (.agg #[.int .i64 2, .int .i64 10, .int .i64 8, .int .i64 4, .int .i64 32]) ∧ Chg No w w' := by
  go_enter Tryz.func55, Tryz.ntmps55
  go_wp2_with fail
  obtain ⟨c0, c1, c2, c3, c4⟩ := cells5 (blk_new w (.cells #[.int .i64 2, .int .i64 10, .int .i64 8, .int .i64 4, .int .i64 32] 27))
  refine bodyPost_ret (v := .agg #[.int .i64 2, .int .i64 10, .int .i64 8, .int .i64 4, .int .i64 32]) ?_ rfl ⟨rfl, (Chg.refl No w).alloc _⟩
  simp [results, Tryz.results55, go_sem, c0, c1, c2, c3, c4]

set_option maxHeartbeats 3200000 in
set_option maxRecDepth 100000 in
theorem rPutShape_ok (hs : s.Ok) : Calls Tryz.prog 60 #[s.val] w fun e w' => e = .returned (.tuple #[S s.bytes, .int .i64 0]) ∧ Chg No w w' := by
  have HS := Lib.hid hs
  have hval : s.val = .agg #[.int .i64 s.nodes, .int .i64 s.blocks, .int .i64 s.log, .int .i64 s.cache, .int .i64 s.lease] := rfl
  obtain ⟨a1, a2, b1, b2, l1, l2, c1, c2, e1, e2⟩ := hs
  rw [hval]
  clear hval
  go_enter Tryz.func60, Tryz.ntmps60
  go_wp2_with fail
  refine (rValid_ok HS.out).mono ?_
  rintro e w1 ⟨rfl, hc1⟩
  have hk1 := hc1.obj (blk_new w _) id
  obtain ⟨c0, c1, c2, c3, c4⟩ := cells5 hk1
  have HC1 := Lib.hid (((Chg.refl No w).alloc _).trans_same hc1)
  have hwz := World.block_lt_of_cell? w1 _ c0
  have HK1 := Lib.hid hk1
  clear hc1 hk1
  have kc := fun (w : World) (C : Array Value) (n c : Nat) => Lib.run_convert_bytes_const (P := Tryz.prog) w 135 5 C n c (by kernel_rfl) (by kernel_rfl)
  have x0 := wrap_u64 s.nodes (by omega)
  have x1 := wrap_u64 s.blocks (by omega)
  have x2 := wrap_u64 s.log (by omega)
  have x3 := wrap_u64 s.cache (by omega)
  have x4 := wrap_u64 s.lease (by omega)
  go_wp2_with fail
  clear kc
  generalize hW : ((w1.alloc (.cells #[.int .u8 67, .int .u8 79, .int .u8 77, .int .u8 77, .int .u8 79, .int .u8 78, .int .u8 83, .int .u8 49] 5 (8, 9))).alloc (.cells #[.slice (some ⟨w1.heap.size, 0, none⟩) 8 8, .int .i64 0] 237)) = W
  have hbW : W.heap[w1.heap.size + 1]? = some (.cells #[.slice (some ⟨w1.heap.size, 0, none⟩) 8 8, .int .i64 0] 237 (0, 0)) := by
    rw [← hW]
    have h := blk_new (w1.alloc (.cells #[.int .u8 67, .int .u8 79, .int .u8 77, .int .u8 77, .int .u8 79, .int .u8 78, .int .u8 83, .int .u8 49] 5 (8, 9))) (.cells #[.slice (some ⟨w1.heap.size, 0, none⟩) 8 8, .int .i64 0] 237)
    rwa [World.size_alloc] at h
  have hgW : W.heap[w1.heap.size]? = some (.cells (([67, 79, 77, 77, 79, 78, 83, 49] : Bytes).map byteV).toArray 5 (8, 9)) := by
    rw [← hW]
    exact blk_alloc _ (blk_new _ _)
  have hcW : Chg No w1 W := by rw [← hW]; exact ((Chg.refl _ _).alloc _).alloc _
  have hkW := hcW.obj HK1.out id
  have HKW := Lib.hid hkW
  have HCW := Lib.hid (HC1.out.trans_same hcW)
  clear hW hcW hkW c0 c1 c2 c3 c4
  refine (rnum_full w1.heap.size W (w1.heap.size + 1) w1.heap.size [67, 79, 77, 77, 79, 78, 83, 49] s.nodes 4 hbW (8, 9) hgW (by omega) (by omega) (by simp) (by omega) (by omega) (by omega) (by omega)).mono ?_
  rintro e w2 ⟨rfl, hw2, hb2⟩
  obtain ⟨c0, c1, c2, c3, c4⟩ := cells5 (Below.fact hb2 hwz HKW.out)
  have HW2 := Lib.hid hw2
  have HB2 := Lib.hid hb2
  clear hbW hgW hw2 hb2
  go_wp2_with fail
  refine (rnum_ok1 w1.heap.size w2 (w1.heap.size + 1) _ s.blocks 4 HW2.out (by simp) (by omega) (by omega) (by omega) (by omega)).mono ?_
  rintro e w3 ⟨rfl, hw3, hb3⟩
  have HB3 := Lib.hid (HB2.out.trans hb3)
  obtain ⟨d0, d1, d2, d3, d4⟩ := cells5 (Below.fact HB3.out hwz HKW.out)
  have HW3 := Lib.hid hw3
  clear hw3 hb3 c0 c1 c2 c3 c4
  go_wp2_with fail
  refine (rnum_ok1 w1.heap.size w3 (w1.heap.size + 1) _ s.log 4 HW3.out (by simp) (by omega) (by omega) (by omega) (by omega)).mono ?_
  rintro e w4 ⟨rfl, hw4, hb4⟩
  have HB4 := Lib.hid (HB3.out.trans hb4)
  obtain ⟨c0, c1, c2, c3, c4⟩ := cells5 (Below.fact HB4.out hwz HKW.out)
  have HW4 := Lib.hid hw4
  clear hw4 hb4 d0 d1 d2 d3 d4
  go_wp2_with fail
  refine (rnum_ok1 w1.heap.size w4 (w1.heap.size + 1) _ s.cache 4 HW4.out (by simp) (by omega) (by omega) (by omega) (by omega)).mono ?_
  rintro e w5 ⟨rfl, hw5, hb5⟩
  have HB5 := Lib.hid (HB4.out.trans hb5)
  obtain ⟨d0, d1, d2, d3, d4⟩ := cells5 (Below.fact HB5.out hwz HKW.out)
  have HW5 := Lib.hid hw5
  clear hw5 hb5 c0 c1 c2 c3 c4
  go_wp2_with fail
  refine (rnum_ok1 w1.heap.size w5 (w1.heap.size + 1) _ s.lease 4 HW5.out (by simp) (by omega) (by omega) (by omega) (by omega)).mono ?_
  rintro e w6 ⟨rfl, hw6, hb6⟩
  have HB6 := Lib.hid (HB5.out.trans hb6)
  obtain ⟨_, sv, hblk, hown, _⟩ := hw6
  have k0 := cell_of_blk hblk 0 rfl
  have hcv := conv_row hown
  have hbody : (((([67, 79, 77, 77, 79, 78, 83, 49] ++ le 4 s.nodes) ++ le 4 s.blocks) ++ le 4 s.log) ++ le 4 s.cache) ++ le 4 s.lease = s.body := by
    simp [Sh.body, Sh.list]
  have hbody2 : (([67, 79, 77, 77, 79, 78, 83, 49] : Bytes) ++ le 4 s.nodes ++ le 4 s.blocks ++ le 4 s.log ++ le 4 s.cache ++ le 4 s.lease) = s.body := hbody
  rw [hbody2] at hcv
  clear hblk hown d0 d1 d2 d3 d4 hbody hbody2 x0 x1 x2 x3 x4
  go_wp2_with fail
  refine (rStamp_ok s.body (by rw [Sh.body_length]; omega) w6).mono ?_
  rintro e w7 ⟨rfl, hc7⟩
  have HC7 := Lib.hid hc7
  clear hc7 k0 hcv
  go_wp2_with fail
  go_ret2
  refine ⟨rfl, ?_⟩
  have h1 : Chg No w w6 := HCW.out.below HB6.out (by omega)
  exact h1.trans_same HC7.out
end
end Go.Proofs.YtmmnjecaedmleaaGreatDoor

/- ref8: the document's disk in memory; node, spend, May, Admit: contracts (while it is not armed). -/
namespace Go.Proofs.YtmmnjecaedmleaaGreatDoor
open Go.RowKit
attribute [local go_sem ↓] Go.wp_at_zero Go.wp_at_succ

/-- A sector that was written. -/
structure Rw where
  node : Int
  at_ : Int
  data : Bytes
  lasts : Bool
def Rw.cells (x : Rw) : List Value := [.int .i64 x.node, .int .i64 x.at_, S x.data, .bool x.lasts]
/-- The document's disk. -/
structure Rd where
  room : Int
  l : List Rw
  off : Bool
  table : Nat → Nat
  word : Nat → Nat
  last : Nat
  armed : Bool
  left : Int
  keep : List Int
def rdCell (R : Rd) (lv kv : Value) (i : Nat) : Value :=
  if i = 0 then .int .i64 R.room else if i = 1 then lv else if i = 2 then .bool R.off else if i < 20 then .int .u64 (R.table (i - 3)) else if i < 37 then .int .u64 (R.word (i - 20))
  else if i = 37 then .int .u64 R.last else if i = 38 then .bool R.armed else if i = 39 then .int .i64 R.left else kv
structure RdR (w : World) (b : Nat) (lv kv : Value) (R : Rd) (F : Nat → Prop) : Prop where
  blk : BlkF w b 110 41 (rdCell R lv kv)
  row : w.ownsRow 0 241 4 lv R.l.length (R.l.flatMap Rw.cells)
  keeps : w.ownsRow 0 3 1 kv R.keep.length (R.keep.map (Value.int .i64))
  fb : F b
  fl : ∀ k, lv.ownBlock = some k → F k
  fk : ∀ k, kv.ownBlock = some k → F k
  lt : ∀ k, F k → k < w.heap.size
/-- The document's disk R lies at block b, within the footprint F. -/
def RdAt (w : World) (b : Nat) (R : Rd) (F : Nat → Prop) : Prop := ∃ lv kv, RdR w b lv kv R F
theorem el_rw : Elem Tryz.prog 107 241 (.agg #[.int .i64 0, .int .i64 0, S [], .bool false]) 4 40 := .mk' (by kernel_rfl) (by kernel_rfl) rfl (by omega)

section
variable {w : World} {b : Nat} {lv kv : Value} {R : Rd} {F : Nat → Prop}
theorem RdR.chg {G : Nat → Prop} {w' : World} (h : RdR w b lv kv R F) (hc : Chg G w w') (hn : ∀ k, F k → ¬ G k) : RdR w' b lv kv R F :=
  ⟨h.blk.chg hc (hn _ h.fb), hc.row h.row (fun k hk => hn _ (h.fl k hk)), hc.row h.keeps (fun k hk => hn _ (h.fk k hk)), h.fb, h.fl, h.fk, fun k hk => Nat.lt_of_lt_of_le (h.lt k hk) hc.size⟩
theorem RdAt.chg {G : Nat → Prop} {w' : World} (h : RdAt w b R F) (hc : Chg G w w') (hn : ∀ k, F k → ¬ G k) : RdAt w' b R F := by
  obtain ⟨lv, kv, h⟩ := h
  exact ⟨lv, kv, h.chg hc hn⟩
theorem RdAt.no' {w' : World} (h : RdAt w b R F) (hc : Chg No w w') : RdAt w' b R F := h.chg hc (fun _ _ => id)
theorem RdAt.lt (h : RdAt w b R F) : ∀ k, F k → k < w.heap.size := by
  obtain ⟨lv, kv, h⟩ := h
  exact h.lt
theorem RdAt.wide {G : Nat → Prop} (h : RdAt w b R F) (hs : ∀ k, F k → G k) (hl : ∀ k, G k → k < w.heap.size) : RdAt w b R G := by
  obtain ⟨lv, kv, h⟩ := h
  exact ⟨lv, kv, h.blk, h.row, h.keeps, hs _ h.fb, fun k hk => hs _ (h.fl k hk), fun k hk => hs _ (h.fk k hk), hl⟩
theorem RdR.set {R' : Rd} (h : RdR w b lv kv R F) (k : Nat) (v : Value) (hc : ∀ i, i < 41 → (if i = k then v else rdCell R lv kv i) = rdCell R' lv kv i) (hl : R'.l = R.l) (hk : R'.keep = R.keep) : RdR (w.setCell ⟨b, k, none⟩ v) b lv kv R' F := by
  refine ⟨(h.blk.set k v).congr hc, ?_, ?_, h.fb, h.fl, h.fk, fun k hk => by simpa [World.setCell] using h.lt k hk⟩
  · rw [hl]; exact row_set_ne h.row _ (row_ne_blk h.row h.blk (by decide))
  · rw [hk]; exact row_set_ne h.keeps _ (row_ne_blk h.keeps h.blk (by decide))

theorem rnode_ok (n : Int) : Calls Tryz.prog 174 #[.int .i64 n] w fun e w' => e = .returned (.bool (decide (0 ≤ n ∧ n ≤ 16))) ∧ w = w' := by
  by_cases h0 : 0 ≤ n
  · by_cases h1 : n ≤ 16
    · rw [show decide (0 ≤ n ∧ n ≤ 16) = true by simp [h0, h1]]
      go_enter Tryz.func174, Tryz.ntmps174
      go_wp2
      go_ret
      exact ⟨rfl, rfl⟩
    · have h3 : decide (n ≤ 16) = false := by simpa using h1
      rw [show decide (0 ≤ n ∧ n ≤ 16) = false by simp [h1]]
      clear h1
      go_enter Tryz.func174, Tryz.ntmps174
      go_wp2
      go_ret
      exact ⟨rfl, rfl⟩
  · have h3 : decide (0 ≤ n) = false := by simpa using h0
    rw [show decide (0 ≤ n ∧ n ≤ 16) = false by simp [h0]]
    clear h0
    go_enter Tryz.func174, Tryz.ntmps174
    go_wp2
    go_ret
    exact ⟨rfl, rfl⟩

theorem spend_free (h : RdAt w b R F) (ha : R.armed = false) : Calls Tryz.prog 175 #[.pointer (some ⟨b, 0, none⟩)] w fun e w' => e = .returned (.int .i64 0) ∧ w = w' := by
  obtain ⟨lv, kv, h⟩ := h
  have c1 : w.cell? ⟨b, 38, none⟩ = some (.bool R.armed) := h.blk.cell 38 (by omega)
  rw [ha] at c1
  clear h ha
  go_enter Tryz.func175, Tryz.ntmps175
  go_wp2
  go_ret
  exact ⟨rfl, rfl⟩

def Rd.may (R : Rd) (n : Int) (epoch : Nat) : Int :=
  if R.off then 14 else if ¬ (0 ≤ n ∧ n ≤ 16) then 1 else if epoch = 0 ∨ epoch ≠ R.table n.toNat then 34 else 0
theorem rMay_ok (h : RdAt w b R F) (n : Int) (epoch : Nat) : Calls Tryz.prog 191 #[.pointer (some ⟨b, 0, none⟩), .int .i64 n, .int .u64 epoch] w fun e w' => e = .returned (.int .i64 (R.may n epoch)) ∧ w = w' := by
  obtain ⟨lv, kv, h⟩ := h
  have c2 : w.cell? ⟨b, 2, none⟩ = some (.bool R.off) := h.blk.cell 2 (by omega)
  have H := Lib.hid h
  clear h
  unfold Rd.may
  cases ho : R.off
  · rw [ho] at c2
    clear ho
    rw [if_neg (by decide)]
    by_cases hn : 0 ≤ n ∧ n ≤ 16
    · rw [if_neg (by simpa using hn)]
      obtain ⟨k, rfl⟩ := Int.eq_ofNat_of_zero_le hn.1
      have hk : k ≤ 16 := by omega
      have c3 : w.cell? ⟨b, 3 + k, none⟩ = some (.int .u64 (R.table k)) := by
        rw [H.out.blk.cell (3 + k) (by omega)]
        unfold rdCell
        rw [if_neg (by omega), if_neg (by omega), if_neg (by omega), if_pos (by omega), show 3 + k - 3 = k by omega]
      have hd : decide (0 ≤ (k : Int) ∧ (k : Int) ≤ 16) = true := by simp only [decide_eq_true_eq]; omega
      have HD := Lib.hid hd
      rw [show ((k : Int)).toNat = k by omega]
      clear hn hd
      by_cases he : epoch = 0
      · subst he
        rw [if_pos (.inl rfl)]
        go_enter Tryz.func191, Tryz.ntmps191
        go_wp2_with fail
        refine (rnode_ok _).mono ?_
        rw [HD.out]
        rintro e w' ⟨rfl, rfl⟩
        go_wp2_with fail
        go_ret
        exact ⟨rfl, rfl⟩
      · have e0 : ((epoch : Int) == 0) = false := by simp; omega
        by_cases ht : epoch = R.table k
        · rw [if_neg (by omega)]
          have e1 : ((epoch : Int) != (R.table k : Int)) = false := by simp; omega
          clear he ht
          go_enter Tryz.func191, Tryz.ntmps191
          go_wp2_with fail
          refine (rnode_ok _).mono ?_
          rw [HD.out]
          rintro e w' ⟨rfl, rfl⟩
          go_wp2_with fail
          go_ret
          exact ⟨rfl, rfl⟩
        · rw [if_pos (.inr ht)]
          have e1 : ((epoch : Int) != (R.table k : Int)) = true := by simp; omega
          clear he ht
          go_enter Tryz.func191, Tryz.ntmps191
          go_wp2_with fail
          refine (rnode_ok _).mono ?_
          rw [HD.out]
          rintro e w' ⟨rfl, rfl⟩
          go_wp2_with fail
          go_ret
          exact ⟨rfl, rfl⟩
    · rw [if_pos (by simpa using hn)]
      have hd : decide (0 ≤ n ∧ n ≤ 16) = false := by simpa using hn
      have HD := Lib.hid hd
      clear hd hn
      go_enter Tryz.func191, Tryz.ntmps191
      go_wp2_with fail
      refine (rnode_ok _).mono ?_
      rw [HD.out]
      rintro e w' ⟨rfl, rfl⟩
      go_wp2_with fail
      go_ret
      exact ⟨rfl, rfl⟩
  · rw [ho] at c2
    clear ho
    rw [if_pos rfl]
    go_enter Tryz.func191, Tryz.ntmps191
    go_wp2_with fail
    go_ret
    exact ⟨rfl, rfl⟩
end
end Go.Proofs.YtmmnjecaedmleaaGreatDoor

/- ref8: keep, Admit, Write, Barrier, Fence, where they are done: contracts. -/
namespace Go.Proofs.YtmmnjecaedmleaaGreatDoor
open Go.RowKit
attribute [local go_sem ↓] Go.wp_at_zero Go.wp_at_succ

def Rw.mark (n : Int) (x : Rw) : Rw := if x.node = n then { x with lasts := true } else x
def Rd.kept (R : Rd) (n : Int) : Rd := { R with l := R.l.map (Rw.mark n) }
theorem rw_length (l : List Rw) : (l.flatMap Rw.cells).length = l.length * 4 := by
  induction l with
  | nil => rfl
  | cons a l ih => rw [List.flatMap_cons, List.length_append, ih, List.length_cons]; show 4 + _ = _; omega
theorem rw_get : ∀ (l : List Rw) (k : Nat) (hk : k < l.length), (l.flatMap Rw.cells)[k * 4]? = some (.int .i64 l[k].node) ∧ (l.flatMap Rw.cells)[k * 4 + 1]? = some (.int .i64 l[k].at_) ∧ (l.flatMap Rw.cells)[k * 4 + 2]? = some (S l[k].data) ∧ (l.flatMap Rw.cells)[k * 4 + 3]? = some (.bool l[k].lasts)
  | [], k, hk => by simp at hk
  | x :: l, 0, _ => ⟨rfl, rfl, rfl, rfl⟩
  | x :: l, k + 1, hk => by
    have h4 : (Rw.cells x).length = 4 := rfl
    have e : ∀ j, ((x :: l).flatMap Rw.cells)[(k + 1) * 4 + j]? = (l.flatMap Rw.cells)[k * 4 + j]? := fun j => by
      rw [List.flatMap_cons, List.getElem?_append_right (by omega)]
      congr 1
      omega
    have ih := rw_get l k (by simpa using hk)
    have e0 := e 0
    simp only [Nat.add_zero] at e0
    rw [e0, e 1, e 2, e 3]
    simpa using ih
theorem rw_set3 (l : List Rw) (k : Nat) (hk : k < l.length) : (l.flatMap Rw.cells).set (k * 4 + 3) (.bool true) = (l.set k { l[k] with lasts := true }).flatMap Rw.cells := by
  induction l generalizing k with
  | nil => simp at hk
  | cons a l ih =>
    cases k with
    | zero => simp [Rw.cells]
    | succ k =>
      have := ih k (by simpa using hk)
      rw [List.set_cons_succ, List.flatMap_cons, List.flatMap_cons]
      simp only [List.getElem_cons_succ]
      rw [← this]
      have hl : a.cells.length = 4 := rfl
      rw [List.set_append_right _ _ (by omega)]
      congr 2
      omega
theorem rw_get' {l : List Rw} {k : Nat} {x : Rw} (h : l[k]? = some x) : (l.flatMap Rw.cells)[k * 4]? = some (.int .i64 x.node) ∧ (l.flatMap Rw.cells)[k * 4 + 1]? = some (.int .i64 x.at_) ∧ (l.flatMap Rw.cells)[k * 4 + 2]? = some (S x.data) ∧ (l.flatMap Rw.cells)[k * 4 + 3]? = some (.bool x.lasts) := by
  obtain ⟨hk, rfl⟩ := List.getElem?_eq_some_iff.1 h
  exact rw_get l k hk
theorem rw_set3' {l : List Rw} {k : Nat} {x : Rw} (h : l[k]? = some x) : (l.flatMap Rw.cells).set (k * 4 + 3) (.bool true) = (l.set k { x with lasts := true }).flatMap Rw.cells := by
  obtain ⟨hk, rfl⟩ := List.getElem?_eq_some_iff.1 h
  exact rw_set3 l k hk
theorem rw_one (x : Rw) : ∀ u ∈ x.cells, u.oneCell' = true := by
  intro u hx
  simp only [Rw.cells, List.mem_cons, List.not_mem_nil, or_false] at hx
  rcases hx with rfl | rfl | rfl | rfl <;> rfl
theorem rw_ones (l : List Rw) : ∀ u ∈ l.flatMap Rw.cells, u.oneCell' = true := by
  intro u hu
  obtain ⟨x, _, hx⟩ := List.mem_flatMap.1 hu
  exact rw_one x u hx

section
variable {w : World} {b : Nat} {R : Rd} {F : Nat → Prop}

set_option maxHeartbeats 1600000 in
set_option maxRecDepth 100000 in
theorem rAdmit_yes (h : RdAt w b R F) (n epoch : Nat) (hn : n ≤ 16) (ho : R.off = false) (ha : R.armed = false) (hl : R.last < epoch) :
    Calls Tryz.prog 47 #[.pointer (some ⟨b, 0, none⟩), .int .i64 n, .int .u64 epoch] w fun e w' => e = .returned (.int .i64 0) ∧ RdAt w' b { R with table := setN R.table n epoch, last := epoch } F ∧ Chg F w w' := by
  have H0 := Lib.hid h
  obtain ⟨lv, kv, h⟩ := h
  have c2 : w.cell? ⟨b, 2, none⟩ = some (.bool R.off) := h.blk.cell 2 (by omega)
  have c37 : w.cell? ⟨b, 37, none⟩ = some (.int .u64 R.last) := h.blk.cell 37 (by omega)
  have c3 : w.cell? ⟨b, 3 + n, none⟩ = some (.int .u64 (R.table n)) := by
    rw [h.blk.cell (3 + n) (by omega)]
    unfold rdCell
    rw [if_neg (by omega), if_neg (by omega), if_neg (by omega), if_pos (by omega), show 3 + n - 3 = n by omega]
  have f3 := h.blk.free (3 + n)
  have f37 := h.blk.free 37
  rw [ho] at c2
  have H := Lib.hid h
  have HA := Lib.hid ha
  have hd : decide (0 ≤ (n : Int) ∧ (n : Int) ≤ 16) = true := by simp only [decide_eq_true_eq]; omega
  have HD := Lib.hid hd
  have hle : decide (epoch ≤ R.last) = false := by simp only [decide_eq_false_iff_not]; omega
  have hne : 3 + n ≠ 37 := by omega
  clear h ho ha hd hl
  go_enter Tryz.func47, Tryz.ntmps47
  go_wp2_with fail
  refine (rnode_ok _).mono ?_
  rw [HD.out]
  rintro e w' ⟨rfl, rfl⟩
  go_wp2_with fail
  refine (spend_free H0.out HA.out).mono ?_
  rintro e w' ⟨rfl, rfl⟩
  go_wp2_with fail
  go_ret
  refine ⟨rfl, ⟨lv, kv, ?_⟩, ((Chg.refl F w).setCell (p := ⟨b, 3 + n, none⟩) (.inl H.out.fb) _).setCell (p := ⟨b, 37, none⟩) (.inl H.out.fb) _⟩
  refine RdR.set (RdR.set (R' := { R with table := setN R.table n epoch }) H.out (3 + n) (.int .u64 epoch) ?_ rfl rfl) 37 (.int .u64 epoch) ?_ rfl rfl
  · intro i hi
    unfold rdCell setN
    by_cases e : i = 3 + n
    · subst e
      rw [if_pos rfl, if_neg (by omega), if_neg (by omega), if_neg (by omega), if_pos (by omega), show 3 + n - 3 = n by omega]
      simp
    · rw [if_neg e]
      by_cases e0 : i = 0
      · rw [if_pos e0, if_pos e0]
      · rw [if_neg e0, if_neg e0]
        by_cases e1 : i = 1
        · rw [if_pos e1, if_pos e1]
        · rw [if_neg e1, if_neg e1]
          by_cases e2 : i = 2
          · rw [if_pos e2, if_pos e2]
          · rw [if_neg e2, if_neg e2]
            by_cases e3 : i < 20
            · rw [if_pos e3, if_pos e3]
              have hi3 : i - 3 ≠ n := by omega
              simp [hi3]
            · rw [if_neg e3, if_neg e3]
  · intro i hi
    unfold rdCell
    by_cases e : i = 37
    · subst e; rfl
    · simp [e]

theorem rd_slice {base e size n : Nat} {v : Value} {xs : List Value} (h : w.ownsRow base e size v n xs) : ∃ a c, v = .slice a n c := by
  rcases h.2 with ⟨hv, hn⟩ | ⟨g, cap, cur, hv, _⟩
  · exact ⟨none, 0, by rw [hv, hn]⟩
  · exact ⟨_, _, hv⟩
theorem kept_step (n : Int) (l : List Rw) (k : Nat) (hk : k < l.length) : (l.take (k + 1)).map (Rw.mark n) ++ l.drop (k + 1) = ((l.take k).map (Rw.mark n) ++ l.drop k).set k (Rw.mark n l[k]) := by
  rw [List.take_succ_eq_append_getElem hk, List.map_append, List.append_assoc]
  rw [List.set_append_right _ _ (by simp; omega)]
  congr 1
  rw [List.drop_eq_getElem_cons hk]
  have h0 : k - ((l.take k).map (Rw.mark n)).length = 0 := by simp; omega
  rw [h0]
  rfl
theorem kept_get (n : Int) (l : List Rw) (k : Nat) (hk : k < l.length) : ((l.take k).map (Rw.mark n) ++ l.drop k)[k]? = some l[k] := by
  rw [List.getElem?_append_right (by simp; omega)]
  have h0 : k - ((l.take k).map (Rw.mark n)).length = 0 := by simp; omega
  rw [h0, List.drop_eq_getElem_cons hk]
  rfl

set_option maxHeartbeats 3200000 in
set_option maxRecDepth 100000 in
theorem rkeep_ok (h : RdAt w b R F) (n : Int) (hl : R.l.length ≤ 1000000) :
    Calls Tryz.prog 192 #[.pointer (some ⟨b, 0, none⟩), .int .i64 n] w fun e w' => e = .returned (.tuple #[]) ∧ RdAt w' b (R.kept n) (grow F w w') ∧ Chg F w w' := by
  obtain ⟨lv, kv, h⟩ := h
  have c1 : w.cell? ⟨b, 1, none⟩ = some lv := h.blk.cell 1 (by omega)
  have f1 := h.blk.free 1
  have hbz := h.blk.lt
  have H := Lib.hid h
  have key : ∀ (W : World) (v2 : Value), W.ownsRow w.heap.size 241 4 v2 R.l.length (R.l.flatMap Rw.cells) → Chg No w W → ∃ (F2 : Nat → Prop), RdR (W.setCell ⟨b, 1, none⟩ v2) b v2 kv R F2 ∧ (∀ k, F2 k → F k ∨ w.heap.size ≤ k) ∧ Chg F w (W.setCell ⟨b, 1, none⟩ v2) := by
    intro W v2 hrow hc
    have hb' := hc.size
    have hob : v2.ownBlock ≠ some b := fun e => by have := (hrow.lt _ e).1; omega
    refine ⟨fun k => F k ∨ v2.ownBlock = some k, ⟨?_, ?_, ?_, .inl H.out.fb, fun k hk => .inr hk, fun k hk => .inl (H.out.fk k hk), ?_⟩, ?_, ?_⟩
    · refine ((H.out.blk.chg hc id).set 1 v2).congr (fun i hi => ?_)
      unfold rdCell
      by_cases e : i = 1
      · subst e; rfl
      · simp [e]
    · exact row_set_ne (ownsRow_base hrow (Nat.zero_le _)) _ hob
    · exact row_set_ne (hc.row H.out.keeps (fun _ _ => id)) _ (row_ne_blk H.out.keeps H.out.blk (by decide))
    · rintro k (hk | hk)
      · have := H.out.lt k hk; simp [World.setCell]; omega
      · have := (hrow.lt k hk).2; simpa [World.setCell] using this
    · rintro k (hk | hk)
      · exact .inl hk
      · exact .inr (hrow.lt k hk).1
    · exact hc.of_no.setCell (p := ⟨b, 1, none⟩) (.inl H.out.fb) _
  have KEY := Lib.hid key
  have H0 := Lib.hid (⟨lv, kv, h⟩ : RdAt w b R F)
  -- the loop
  have loop : ∀ (W : World) (v2 : Value) (F2 : Nat → Prop), RdR W b v2 kv R F2 → (∀ k, F2 k → F k ∨ w.heap.size ≤ k) → Chg F w W → True := fun _ _ _ _ _ _ => trivial
  rcases h.row.2 with ⟨hv, hn⟩ | ⟨g, cap, cur, hv, _⟩
  · have hl0 : R.l = [] := List.eq_nil_of_length_eq_zero hn
    subst hv
    have HL0 := Lib.hid hl0
    clear h key loop hl0 hn
    go_enter Tryz.func192, Tryz.ntmps192
    go_wp2_with fail
    go_loopw [4] (fun i wr => i = .int .i64 0 ∧ Hid (wr = w.setCell ⟨b, 1, none⟩ (.slice none 0 0))) (fun i _ => 0)
    case atStart => exact ⟨rfl, Lib.hid rfl⟩
    case round =>
      obtain ⟨rfl, HW⟩ := hrel
      obtain ⟨F2, hR2, hF2, hC2⟩ := KEY.out w (.slice none 0 0) (by rw [HL0.out]; exact World.ownsRow_nil _ _ _ _) (Chg.refl _ _)
      rw [← HW.out] at hR2 hC2
      have d1 : wr.cell? ⟨b, 1, none⟩ = some (.slice none 0 0) := hR2.blk.cell 1 (by omega)
      have HR2 := Lib.hid hR2
      have HC2 := Lib.hid hC2
      have HF2 := Lib.hid hF2
      clear hR2 hC2 hF2
      go_wp2_with fail
      go_end0
      have hk : R.kept n = R := by
        have e : R.kept n = { R with l := R.l } := by unfold Rd.kept; congr 1; rw [HL0.out]; rfl
        exact e
      rw [hk]
      refine ⟨rfl, RdAt.wide ⟨_, kv, HR2.out⟩ (fun k hk => (HF2.out k hk).imp id (fun e => ⟨e, HR2.out.lt k hk⟩)) (grow_lt H.out.lt HC2.out.size), HC2.out⟩
  · have hcs : ∀ j u, (R.l.flatMap Rw.cells)[j]? = some u → w.cell? ⟨g, j, none⟩ = some u := fun j u hu => row_cell h.row (by rw [hv]; rfl) hu
    rw [hv] at c1
    have HCS := Lib.hid hcs
    clear h key loop hcs hv
    go_enter Tryz.func192, Tryz.ntmps192
    go_wp2_with (at_builtin; refine Halt1.hold ?_)
    refine Halt1.go ?_
    refine wpL_app3 el_rw _ _ rfl rfl w.heap.size (.slice none 0 0) 0 [] rfl (World.ownsRow_nil _ _ _ _) g R.l.length cap (R.l.flatMap Rw.cells) rfl HCS.out (rw_length R.l) (rw_ones R.l) (by omega) (by omega) (Nat.le_refl _) ?_
    intro v2 w2 hown2 hgrow2
    rw [Nat.zero_add, List.nil_append] at hown2
    have hC2 : Chg No w w2 := (Chg.refl No w).grown hgrow2 (fun k hk => by simp [Value.ownBlock] at hk)
    obtain ⟨F2, hR2, hF2, hC3⟩ := KEY.out w2 v2 hown2 hC2
    obtain ⟨a2, cc2, hv2⟩ := rd_slice hown2
    have d1 := hC2.cell c1 id
    have e1 : w2.frozen? ⟨b, 1, none⟩ = false := (World.frozen?_of_block (hC2.block b hbz id)).trans f1
    have HR2 := Lib.hid hR2
    have HF2 := Lib.hid hF2
    have HC3 := Lib.hid hC3
    clear hown2 hgrow2 hC2 hR2 hF2 hC3 c1 f1
    subst hv2
    go_wp2_with fail
    generalize hW3 : w2.setCell ⟨b, 1, none⟩ (.slice a2 R.l.length cc2) = W3 at HR2 HC3
    clear hW3 d1 e1
    go_loopw [4] (fun i wr => ∃ k : Nat, k ≤ R.l.length ∧ i = .int .i64 k ∧ Hid (RdR wr b (.slice a2 R.l.length cc2) kv { R with l := (R.l.take k).map (Rw.mark n) ++ R.l.drop k } F2) ∧ Hid (Chg F w wr)) (fun i _ => R.l.length - (intOf i).toNat)
    case atStart => exact ⟨0, Nat.zero_le _, rfl, Lib.hid (by simpa using HR2.out), HC3⟩
    case round =>
      obtain ⟨k, hk, rfl, HR, HC⟩ := hrel
      have d1 : wr.cell? ⟨b, 1, none⟩ = some (.slice a2 R.l.length cc2) := HR.out.blk.cell 1 (by omega)
      by_cases hlt : k < R.l.length
      · obtain ⟨g2, hg2⟩ : ∃ g2, a2 = some ⟨g2, 0, none⟩ := by
          rcases HR.out.row.2 with ⟨hv, hn⟩ | ⟨g, cap, cur, hv, _⟩
          · simp at hn; omega
          · simp at hv; exact ⟨g, hv.1⟩
        subst hg2
        have hlen : ((R.l.take k).map (Rw.mark n) ++ R.l.drop k).length = R.l.length := by simp; omega
        have hgk := kept_get n R.l k hlt
        obtain ⟨e0, e1, e2, e3⟩ := rw_get' hgk
        have b0 := row_cell HR.out.row (g := g2) rfl e0
        have b3 := row_cell HR.out.row (g := g2) rfl e3
        have hst := kept_step n R.l k hlt
        have HST := Lib.hid hst
        have HLEN := Lib.hid hlen
        have HGK := Lib.hid hgk
        have hrow : wr.ownsRow 0 241 4 (.slice (some ⟨g2, 0, none⟩) R.l.length cc2) R.l.length (((R.l.take k).map (Rw.mark n) ++ R.l.drop k).flatMap Rw.cells) := by
          have h := HR.out.row
          simp only [hlen] at h
          exact h
        have fr3 := hrow.frozenAt (k * 4 + 3)
        have HROW := Lib.hid hrow
        clear hrow
        clear e0 e1 e2 e3 hgk hst hlen
        by_cases hn : R.l[k].node = n
        · have q0 : (R.l[k].node == n) = true := by simpa using hn
          have HN := Lib.hid hn
          clear hn
          go_wp2_with fail
          have hst3 := (HROW.out.stored (k * 4 + 3) (.bool true)).1
          rw [rw_set3' HGK.out] at hst3
          have hm : Rw.mark n R.l[k] = { R.l[k] with lasts := true } := by unfold Rw.mark; rw [if_pos HN.out]
          refine ⟨⟨k + 1, hlt, by go_num, Lib.hid ?_, Lib.hid (HC.out.setCell (p := ⟨g2, k * 4 + 3, none⟩) (HF2.out g2 (HR.out.fl g2 rfl)) _)⟩, by simp [intOf]; omega⟩
          have hbg : b ≠ g2 := fun e => row_ne_blk HROW.out HR.out.blk (by decide) (by rw [e]; rfl)
          have hkg : kv.ownBlock ≠ some g2 := rows_ne HROW.out HR.out.keeps (by decide) rfl
          refine ⟨HR.out.blk.of (blk_set_ne rfl hbg), ?_, row_set_ne HR.out.keeps _ hkg, HR.out.fb, HR.out.fl, HR.out.fk, fun j hj => by simpa [World.setCell] using HR.out.lt j hj⟩
          rw [HST.out, hm]
          simp only [List.length_set]
          rw [HLEN.out]
          exact hst3
        · have q0 : (R.l[k].node == n) = false := by simpa using hn
          have HN := Lib.hid hn
          clear hn
          go_wp2_with fail
          refine ⟨⟨k + 1, hlt, by go_num, Lib.hid ?_, HC⟩, by simp [intOf]; omega⟩
          rw [HST.out]
          have hm : Rw.mark n R.l[k] = R.l[k] := by unfold Rw.mark; rw [if_neg HN.out]
          rw [hm]
          have hs : ((R.l.take k).map (Rw.mark n) ++ R.l.drop k).set k R.l[k] = (R.l.take k).map (Rw.mark n) ++ R.l.drop k := by
            apply List.ext_getElem?
            intro j
            rw [List.getElem?_set]
            split
            · rename_i e; subst e; rw [kept_get n R.l k hlt, if_pos (by rw [HLEN.out]; exact hlt)]
            · rfl
          rw [hs]
          exact HR.out
      · obtain rfl : k = R.l.length := by omega
        have hR := HR.out
        rw [List.take_length, List.drop_length, List.append_nil] at hR
        have HRR := Lib.hid hR
        clear hR
        go_wp2_with fail
        go_end0
        exact ⟨rfl, RdAt.wide ⟨_, kv, HRR.out⟩ (fun k hk => (HF2.out k hk).imp id (fun e => ⟨e, HRR.out.lt k hk⟩)) (grow_lt H.out.lt HC.out.size), HC.out⟩

theorem rMay_yes (ho : R.off = false) (n epoch : Nat) (hn : n ≤ 16) (he : 0 < epoch) (ht : R.table n = epoch) : R.may n epoch = 0 := by
  unfold Rd.may
  rw [ho, if_neg (by decide), if_neg (by omega), if_neg]
  rw [show ((n : Int)).toNat = n by omega, ht]
  omega

set_option maxHeartbeats 1600000 in
set_option maxRecDepth 100000 in
theorem rBarrier_yes (h : RdAt w b R F) (n epoch : Nat) (hn : n ≤ 16) (ho : R.off = false) (ha : R.armed = false) (he : 0 < epoch) (ht : R.table n = epoch) (hl : R.l.length ≤ 1000000) :
    Calls Tryz.prog 62 #[.pointer (some ⟨b, 0, none⟩), .int .i64 n, .int .u64 epoch] w fun e w' => e = .returned (.int .i64 0) ∧ RdAt w' b (R.kept n) (grow F w w') ∧ Chg F w w' := by
  have H0 := Lib.hid h
  have HA := Lib.hid ha
  have HM := Lib.hid (rMay_yes ho n epoch hn he ht)
  clear h ha ho ht
  go_enter Tryz.func62, Tryz.ntmps62
  go_wp2_with fail
  refine (rMay_ok H0.out n epoch).mono ?_
  rw [HM.out]
  rintro e w1 ⟨rfl, rfl⟩
  go_wp2_with fail
  refine (spend_free H0.out HA.out).mono ?_
  rintro e w1 ⟨rfl, rfl⟩
  go_wp2_with fail
  refine (rkeep_ok H0.out n hl).mono ?_
  rintro e w2 ⟨rfl, hr2, hc2⟩
  have HR2 := Lib.hid hr2
  have HC2 := Lib.hid hc2
  clear hr2 hc2
  go_wp2_with fail
  go_ret
  exact ⟨rfl, HR2.out, HC2.out⟩

theorem rdCell_table (R : Rd) (lv kv : Value) (n : Nat) (hn : n ≤ 16) (e : Nat) : ∀ i, i < 41 → (if i = 3 + n then Value.int .u64 (e : Int) else rdCell R lv kv i) = rdCell { R with table := setN R.table n e } lv kv i := by
  intro i hi
  unfold rdCell setN
  by_cases e : i = 3 + n
  · subst e
    rw [if_pos rfl, if_neg (by omega), if_neg (by omega), if_neg (by omega), if_pos (by omega), show 3 + n - 3 = n by omega]
    simp
  · rw [if_neg e]
    by_cases e0 : i = 0
    · rw [if_pos e0, if_pos e0]
    · rw [if_neg e0, if_neg e0]
      by_cases e1 : i = 1
      · rw [if_pos e1, if_pos e1]
      · rw [if_neg e1, if_neg e1]
        by_cases e2 : i = 2
        · rw [if_pos e2, if_pos e2]
        · rw [if_neg e2, if_neg e2]
          by_cases e3 : i < 20
          · rw [if_pos e3, if_pos e3]
            have hi3 : i - 3 ≠ n := by omega
            simp [hi3]
          · rw [if_neg e3, if_neg e3]

set_option maxHeartbeats 1600000 in
set_option maxRecDepth 100000 in
theorem rFence_yes (h : RdAt w b R F) (n : Nat) (hn : n ≤ 16) (ho : R.off = false) (ha : R.armed = false) (hl : R.l.length ≤ 1000000) :
    Calls Tryz.prog 63 #[.pointer (some ⟨b, 0, none⟩), .int .i64 n] w fun e w' => e = .returned (.int .i64 0) ∧ RdAt w' b { R.kept n with table := setN R.table n 0 } (grow F w w') ∧ Chg F w w' := by
  have H0 := Lib.hid h
  have HA := Lib.hid ha
  have c2 : w.cell? ⟨b, 2, none⟩ = some (.bool R.off) := by
    obtain ⟨lv, kv, h⟩ := h
    exact h.blk.cell 2 (by omega)
  rw [ho] at c2
  have hd : decide (0 ≤ (n : Int) ∧ (n : Int) ≤ 16) = true := by simp only [decide_eq_true_eq]; omega
  have HD := Lib.hid hd
  clear h ha ho hd
  go_enter Tryz.func63, Tryz.ntmps63
  go_wp2_with fail
  refine (rnode_ok _).mono ?_
  rw [HD.out]
  rintro e w1 ⟨rfl, rfl⟩
  go_wp2_with fail
  refine (spend_free H0.out HA.out).mono ?_
  rintro e w1 ⟨rfl, rfl⟩
  go_wp2_with fail
  refine (rkeep_ok H0.out n hl).mono ?_
  rintro e w2 ⟨rfl, ⟨lv, kv, hr2⟩, hc2⟩
  have d3 : w2.cell? ⟨b, 3 + n, none⟩ = some (.int .u64 (R.table n)) := by
    rw [hr2.blk.cell (3 + n) (by omega)]
    unfold rdCell
    rw [if_neg (by omega), if_neg (by omega), if_neg (by omega), if_pos (by omega), show 3 + n - 3 = n by omega]
    rfl
  have f3 := hr2.blk.free (3 + n)
  have HR2 := Lib.hid hr2
  have HC2 := Lib.hid hc2
  clear hr2 hc2 c2
  go_wp2_with fail
  go_ret
  have hfin := RdR.set (R' := { R.kept n with table := setN R.table n 0 }) HR2.out (3 + n) (.int .u64 0) (rdCell_table (R.kept n) lv kv n hn 0) rfl rfl
  have hz : (w2.setCell ⟨b, 3 + n, none⟩ (.int .u64 0)).heap.size = w2.heap.size := by simp [World.setCell]
  refine ⟨rfl, ⟨lv, kv, ?_⟩, HC2.out.setCell (p := ⟨b, 3 + n, none⟩) (.inl ?_) _⟩
  · unfold grow at hfin ⊢
    rw [hz]
    exact hfin
  · obtain ⟨_, _, h0⟩ := H0.out
    exact h0.fb
end
end Go.Proofs.YtmmnjecaedmleaaGreatDoor

/- ref8: Write, where it is done: contract. -/
namespace Go.Proofs.YtmmnjecaedmleaaGreatDoor
open Go.RowKit
attribute [local go_sem ↓] Go.wp_at_zero Go.wp_at_succ

def Rd.wr1 (R : Rd) (node at_ : Int) (data : Bytes) (i : Nat) : Rd := { R with l := R.l ++ [⟨node, at_ + i, secAt data i, false⟩] }
def Rd.wrN (R : Rd) (node at_ : Int) (data : Bytes) : Nat → Rd
  | 0 => R
  | n + 1 => (R.wrN node at_ data n).wr1 node at_ data n
theorem rwrN_len (R : Rd) (node at_ : Int) (data : Bytes) (n : Nat) : (R.wrN node at_ data n).l.length = R.l.length + n := by
  induction n with
  | zero => rfl
  | succ n ih => simp only [Rd.wrN, Rd.wr1, List.length_append, ih, List.length_singleton]; omega
theorem rwrN_same (R : Rd) (node at_ : Int) (data : Bytes) (n : Nat) : (R.wrN node at_ data n).room = R.room ∧ (R.wrN node at_ data n).off = R.off ∧ (R.wrN node at_ data n).table = R.table ∧ (R.wrN node at_ data n).word = R.word ∧ (R.wrN node at_ data n).last = R.last ∧ (R.wrN node at_ data n).armed = R.armed ∧ (R.wrN node at_ data n).left = R.left ∧ (R.wrN node at_ data n).keep = R.keep := by
  induction n with
  | zero => exact ⟨rfl, rfl, rfl, rfl, rfl, rfl, rfl, rfl⟩
  | succ n ih => exact ih

section
variable {w : World} {b : Nat} {R : Rd} {F : Nat → Prop}

set_option maxHeartbeats 3200000 in
set_option maxRecDepth 100000 in
theorem rWrite_yes (h : RdAt w b R F) (node epoch : Nat) (at_ : Int) (data : Bytes) (n : Nat) (hn16 : node ≤ 16) (ho : R.off = false) (ha : R.armed = false) (he : 0 < epoch) (ht : R.table node = epoch) (hl : R.l.length ≤ 1000000) (hd : data.length = 64 * n) (hn1 : 1 ≤ n) (hn2 : n ≤ 16) (hat0 : 0 ≤ at_) (hat1 : at_ ≤ R.room - n) (hroom : R.room ≤ 100000) :
    Calls Tryz.prog 61 #[.pointer (some ⟨b, 0, none⟩), .int .i64 node, .int .u64 epoch, .int .i64 at_, S data] w fun e w' => e = .returned (.int .i64 0) ∧ RdAt w' b (R.wrN node at_ data n) (grow F w w') ∧ Chg F w w' := by
  have H0 := Lib.hid h
  have HA := Lib.hid ha
  have HM := Lib.hid (rMay_yes ho node epoch hn16 he ht)
  have HFL := Lib.hid h.lt
  obtain ⟨c2, c0⟩ : w.cell? ⟨b, 2, none⟩ = some (.bool R.off) ∧ w.cell? ⟨b, 0, none⟩ = some (.int .i64 R.room) := by
    obtain ⟨lv, kv, h⟩ := h
    exact ⟨h.blk.cell 2 (by omega), h.blk.cell 0 (by omega)⟩
  rw [ho] at c2
  have hdn : decide (0 ≤ (node : Int) ∧ (node : Int) ≤ 16) = true := by simp only [decide_eq_true_eq]; omega
  have HDN := Lib.hid hdn
  have q1 : (data.length : Int) / 64 = (n : Int) := by omega
  have q2 : (data.length : Int) % 64 = 0 := by omega
  have w1x : IntKind.i64.wrap (R.room - (n : Int)) = R.room - n := IntWalk.i64_in _ (by omega)
  have HD := Lib.hid hd
  clear h ha ho ht hdn hd
  go_enter Tryz.func61, Tryz.ntmps61
  go_wp2_with fail
  refine (rnode_ok _).mono ?_
  rw [HDN.out]
  rintro e w1 ⟨rfl, rfl⟩
  go_wp2_with fail
  refine (rMay_ok H0.out node epoch).mono ?_
  rw [HM.out]
  rintro e w1 ⟨rfl, rfl⟩
  go_wp2_with fail
  refine (spend_free H0.out HA.out).mono ?_
  rintro e w1 ⟨rfl, rfl⟩
  clear w1x
  go_wp2_with fail
  clear c2 c0
  go_loopw [13] (fun i wr => ∃ k : Nat, k ≤ n ∧ i = .int .i64 k ∧ Hid (RdAt wr b (R.wrN node at_ data k) (grow F w wr)) ∧ Hid (Chg F w wr)) (fun i _ => n - (intOf i).toNat)
  case atStart => exact ⟨0, Nat.zero_le _, rfl, Lib.hid (H0.out.wide grow_sub (grow_lt HFL.out (Nat.le_refl _))), Lib.hid (Chg.refl _ _)⟩
  case round =>
    obtain ⟨k, hk, rfl, HR, HC⟩ := hrel
    by_cases hlt : k < n
    · obtain ⟨lv, kv, hR⟩ := HR.out
      obtain ⟨Rk, hRk⟩ : ∃ Rk, Rk = R.wrN node at_ data k := ⟨_, rfl⟩
      rw [← hRk] at hR
      have hll : Rk.l.length ≤ 1000016 := by rw [hRk, rwrN_len]; omega
      have c1 : wr.cell? ⟨b, 1, none⟩ = some lv := hR.blk.cell 1 (by omega)
      have f1 := hR.blk.free 1
      have hbz : b < wr.heap.size := hR.blk.lt
      have hown := hR.row
      have hlb : lv.ownBlock ≠ some b := row_ne_blk hR.row hR.blk (by decide)
      obtain ⟨va, vc, hlv⟩ := rd_slice hR.row
      have hnn := World.new_ne wr _ c1
      have hbn : b ≠ wr.heap.size := by omega
      have s0 : IntKind.i64.wrap (at_ + (k : Int)) = at_ + k := IntWalk.i64_in _ (by omega)
      have s1 : IntKind.i64.wrap (64 * (k : Int)) = 64 * (k : Int) := IntWalk.i64_in _ (by omega)
      have s3 : IntKind.i64.wrap (64 * (k : Int) + 64) = 64 * (k : Int) + 64 := IntWalk.i64_in _ (by omega)
      have sr : ∀ wx : World, (Instr.slice 9 (S data) (some (.int .i64 (64 * (k : Int)))) (some (.int .i64 (64 * (k : Int) + 64))) none).run Tryz.prog wx = .ok (S (secAt data k)) wx := by
        intro wx
        have h := run_slice_string (P := Tryz.prog) wx 9 (.mk data.toArray) .i64 .i64 (64 * (k : Int)) (64 * (k : Int) + 64) (by kernel_rfl) (by omega) (by omega) (by have := HD.out; simp [ByteArray.size]; omega)
        rw [show (64 * (k : Int)).toNat = k * 64 by omega, show (64 * (k : Int) + 64).toNat = (k + 1) * 64 by omega, ByteArray.extract_mk, show (k + 1) * 64 - k * 64 = 64 by omega] at h
        exact h
      have HRK := Lib.hid hRk
      have HRR := Lib.hid hR
      have HLV := Lib.hid hlv
      clear hRk hR hlv HR
      go_wp2_with fail
      go_region_law ((refine stepL_app el_rw _ _ (by rfl) (by rfl) 0 lv _ _ (by rfl) ((hown.alloc _).drew) wr.heap.size 1 1 (Rw.cells ⟨node, at_ + k, secAt data k, false⟩) _ _ (by rfl) (heap_alloc_new wr _) (by rfl) (by simp [Rw.cells, Value.oneCell']) (by omega) (by first | omega | (simp; omega)) (by omega) (by omega) (wr.heap.size + 1) (by simp) ?_; intro gg cap w4 hown4 hgrow hgat hglt; have hk4 : ∀ j o, j < wr.heap.size → lv.ownBlock ≠ some j → w4.cell? ⟨j, o, none⟩ = wr.cell? ⟨j, o, none⟩ := fun j o h1 h2 => World.cell?_of_block ((hgrow.block j (by simp; omega) (Ne.symm h2)).trans (Below.heap_alloc _ _ _ h1)); have f14 : w4.frozen? ⟨b, 1, none⟩ = false := (World.frozen?_of_block (hgrow.block b (by simp; omega) (Ne.symm hlb))).trans (World.frozen?_of_block (Below.heap_alloc _ _ _ hbz) |>.trans f1); have c14 : w4.cell? ⟨b, 1, none⟩ = some lv := (hk4 _ _ hbz hlb).trans c1))
      all_goals
        have hz4 := hgrow.size
        rw [show ((wr.alloc (.cells #[.int .i64 node, .int .i64 (at_ + k), S (secAt data k), .bool false] 241)).drew).heap.size = wr.heap.size + 1 from by simp] at hz4
        have hwz := HC.out.size
        have hob4 : ∀ j, j < wr.heap.size → lv.ownBlock ≠ some j → w4.heap[j]? = wr.heap[j]? := fun j h1 h2 => (hgrow.block j (by simp; omega) (Ne.symm h2)).trans (Below.heap_alloc _ _ _ h1)
        have hgb : gg ≠ b := by
          rcases hgat with h | h
          · intro e; subst e; exact hlb h
          · omega
        have hC4 : Chg F w (w4.setCell ⟨b, 1, none⟩ (.slice (some ⟨gg, 0, none⟩) (Rk.l.length + 1) cap)) :=
          ((((HC.out.alloc _).drew).grown hgrow (fun j hj => (HRR.out.fl j hj).imp id (·.1)))).setCell (p := ⟨b, 1, none⟩) (HRR.out.fb.imp id (·.1)) _
        have hR4 : RdR (w4.setCell ⟨b, 1, none⟩ (.slice (some ⟨gg, 0, none⟩) (Rk.l.length + 1) cap)) b (.slice (some ⟨gg, 0, none⟩) (Rk.l.length + 1) cap) kv (Rk.wr1 node at_ data k) (grow F w w4) := by
          refine ⟨(((HRR.out.blk.of (hob4 b hbz hlb)).set 1 _).congr (fun i hi => ?_)), ?_, ?_, ?_, ?_, ?_, ?_⟩
          · unfold rdCell
            by_cases e : i = 1
            · subst e; rfl
            · simp [e, Rd.wr1]
          · have h := row_set_ne (b := b) (o := 1) hown4 (.slice (some ⟨gg, 0, none⟩) (Rk.l.length + 1) cap) (by simp [Value.ownBlock]; exact hgb)
            simpa [Rd.wr1] using h
          · have h1 : w4.ownsRow 0 3 1 kv Rk.keep.length (Rk.keep.map (Value.int .i64)) := row_of HRR.out.keeps (fun j hj => hob4 j (HRR.out.keeps.lt j hj).2 (fun e => rows_ne HRR.out.keeps hown (by decide) hj e))
            exact row_set_ne h1 _ (row_ne_blk HRR.out.keeps HRR.out.blk (by decide))
          · exact HRR.out.fb.imp id (fun e => ⟨e.1, by omega⟩)
          · intro j hj
            simp [Value.ownBlock] at hj
            subst hj
            exact hgat.elim (fun e => (HRR.out.fl _ e).imp id (fun e => ⟨e.1, hglt⟩)) (fun e => .inr ⟨by omega, hglt⟩)
          · exact fun j hj => (HRR.out.fk j hj).imp id (fun e => ⟨e.1, by omega⟩)
          · intro j hj
            have hz : (w4.setCell ⟨b, 1, none⟩ (.slice (some ⟨gg, 0, none⟩) (Rk.l.length + 1) cap)).heap.size = w4.heap.size := by simp [World.setCell]
            rw [hz]
            rcases hj with h | h
            · have := HFL.out j h; omega
            · exact h.2
        have HR4 := Lib.hid hR4
        have HC4 := Lib.hid hC4
        clear hR4 hC4 hown4 hgrow hgat hk4 f14 c14 hown c1 f1 hob4 hnn hbn hgb sr
        go_wp2_with fail
        refine ⟨⟨k + 1, hlt, by go_num, Lib.hid ⟨.slice (some ⟨gg, 0, none⟩) (Rk.l.length + 1) cap, kv, ?_⟩, HC4⟩, by simp [intOf]; omega⟩
        have e : R.wrN node at_ data (k + 1) = Rk.wr1 node at_ data k := by rw [HRK.out]; rfl
        rw [e]
        have hz : (w4.setCell ⟨b, 1, none⟩ (.slice (some ⟨gg, 0, none⟩) (Rk.l.length + 1) cap)).heap.size = w4.heap.size := by simp [World.setCell]
        have := HR4.out
        unfold grow at this ⊢
        rw [hz]
        exact this
    · obtain rfl : k = n := by omega
      go_wp2_with fail
      go_ret
      exact ⟨rfl, HR.out, HC.out⟩
end
end Go.Proofs.YtmmnjecaedmleaaGreatDoor
