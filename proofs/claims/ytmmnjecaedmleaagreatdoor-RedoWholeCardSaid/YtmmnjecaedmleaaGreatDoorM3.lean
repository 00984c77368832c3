import Derived.Test.YtmmnjecaedmleaaGreatDoorM2
import Derived.Deep.DrawnRows

/- rec's heads: contracts. -/
namespace Go.Proofs.YtmmnjecaedmleaaGreatDoor
open Go.RowKit
attribute [local go_sem ↓] Go.wp_at_zero Go.wp_at_succ

/-- A log's head. -/
structure Hd where
  epoch : Nat
  lsn : Nat
  at_ : Nat
deriving DecidableEq
def Hd.right (h : Hd) : Bool := decide (0 < h.epoch ∧ 0 < h.lsn ∧ h.at_ ≤ 256)
def Hd.val (h : Hd) : Value := .agg #[.int .u64 h.epoch, .int .u64 h.lsn, .int .i64 h.at_]
def headBody (h : Hd) : Bytes := [72, 69, 65, 68] ++ (le 8 h.epoch ++ le 8 h.lsn ++ le 4 h.at_)
def headBytes (h : Hd) : Bytes := stamp (headBody h)

theorem writer_new {w : World} {b : Nat} (h : w.heap[b]? = some (.cells #[.slice none 0 0, .int .i64 0] 346 (0, 0))) : WriterAt b w b [] :=
  ⟨Nat.le_refl _, .slice none 0 0, h, World.ownsRow_nil _ _ _ _, by simp [Value.ownBlock]⟩

set_option maxHeartbeats 800000 in
set_option maxRecDepth 100000 in
theorem PutHead_ok (w : World) (e l a : Nat) (h0 : 0 < e) (h1 : 0 < l) (h2 : a ≤ 256) :
    Calls Tryz.prog 195 #[.agg #[.int .u64 e, .int .u64 l, .int .i64 a]] w fun e' w' => e' = .returned (.tuple #[S (headBytes ⟨e, l, a⟩), .int .i64 0]) ∧ Chg No w w' := by
  have e0 : ((e : Int) == 0) = false := by simp; omega
  have l0 : ((l : Int) == 0) = false := by simp; omega
  have a0 : decide ((a : Int) < 0) = false := by simp
  have a1 : decide ((256 : Int) < a) = false := by simp; omega
  have a3 := wrap_u64 a (by omega)
  go_enter Tryz.func195, Tryz.ntmps195
  go_wp2_with fail
  have hW0 : WriterAt (w.heap.size + 1) ((w.alloc (.cells #[.int .u64 e, .int .u64 l, .int .i64 a] 149)).alloc (.cells #[.slice none 0 0, .int .i64 0] 346)).drew (w.heap.size + 1) [] :=
    writer_new (by have := blk_new (w.alloc (.cells #[.int .u64 e, .int .u64 l, .int .i64 a] 149)) (.cells #[.slice none 0 0, .int .i64 0] 346); rwa [World.size_alloc] at this)
  have hn8 : (8 = 1 ∨ 8 = 4 ∨ 8 = 8) := by decide
  have HW0 := Lib.hid hW0
  clear hW0
  go_region_held3 (fun w' => w'.cell? ⟨w.heap.size, 0, none⟩ = some (.int .u64 e) ∧ w'.cell? ⟨w.heap.size, 1, none⟩ = some (.int .u64 l) ∧ w'.cell? ⟨w.heap.size, 2, none⟩ = some (.int .i64 a))
    (go_keep)
    (first
      | (go_at_call 273; (with_reducible refine (num8 (w.heap.size + 1) _ _ [] e HW0.out (by simp)).mono ?_); rintro e w2 ⟨rfl, hw2, hb2⟩; have hk2 : ∀ o, w2.cell? ⟨w.heap.size, o, none⟩ = _ := fun o => hb2.cell (p := ⟨w.heap.size, o, none⟩) (Nat.lt_succ_self _); have HW2 := Lib.hid hw2; have HB2 := Lib.hid hb2; clear hw2 hb2)
      | (go_at_call 273; (with_reducible refine (num8 (w.heap.size + 1) _ _ _ l HW2.out (by simp [le_length])).mono ?_); rintro e w3 ⟨rfl, hw3, hb3⟩; have hk3 : ∀ o, w3.cell? ⟨w.heap.size, o, none⟩ = _ := fun o => hb3.cell (p := ⟨w.heap.size, o, none⟩) (Nat.lt_succ_self _); have HW3 := Lib.hid hw3; have HB3 := Lib.hid hb3; clear hw3 hb3)
      | (go_at_call 273; (with_reducible refine (num4 (w.heap.size + 1) _ _ _ a HW3.out (by simp [le_length]) (by omega)).mono ?_); rintro e w4 ⟨rfl, hw4, hb4⟩; have hk4 : ∀ o, w4.cell? ⟨w.heap.size, o, none⟩ = _ := fun o => hb4.cell (p := ⟨w.heap.size, o, none⟩) (Nat.lt_succ_self _); have HW4 := Lib.hid hw4; have HB4 := Lib.hid hb4; clear hw4 hb4)
      | (go_at_call 274; (with_reducible refine (bytes_ok _ _ _ _ HW4.out).mono ?_); rintro e w5 ⟨rfl, rfl⟩))
  clear hk2 hk3 hk4
  go_wp2_with fail
  refine (Stamp_ok _ _ (by simp [le_length])).mono ?_
  rintro e' w5 ⟨rfl, hc5⟩
  have HC5 := Lib.hid hc5
  clear hc5
  go_wp2_with fail
  go_ret2
  refine ⟨by simp [headBytes, headBody], ?_⟩
  refine Chg.trans_no (b := w4) ?_ HC5.out
  exact ((((((Chg.refl No w).alloc _).alloc _).drew.below HB2.out (by simp)).below HB3.out (by simp)).below HB4.out (by simp))

set_option maxRecDepth 100000 in
theorem PutHead_no (w : World) (e l a : Nat) (h : Hd.right ⟨e, l, a⟩ = false) :
    Calls Tryz.prog 195 #[.agg #[.int .u64 e, .int .u64 l, .int .i64 a]] w fun e' w' => e' = .returned (.tuple #[S [], .int .i64 1]) ∧ Chg No w w' := by
  simp only [Hd.right, decide_eq_false_iff_not] at h
  have a0 : decide ((a : Int) < 0) = false := by simp
  by_cases he : e = 0
  · have e0 : ((e : Int) == 0) = true := by simp; omega
    clear h
    go_enter Tryz.func195, Tryz.ntmps195
    go_wp2
    go_ret2
    exact ⟨rfl, (Chg.refl _ _).alloc _⟩
  · have e0 : ((e : Int) == 0) = false := by simp; omega
    by_cases hl : l = 0
    · have l0 : ((l : Int) == 0) = true := by simp; omega
      clear h
      go_enter Tryz.func195, Tryz.ntmps195
      go_wp2
      go_ret2
      exact ⟨rfl, (Chg.refl _ _).alloc _⟩
    · have l0 : ((l : Int) == 0) = false := by simp; omega
      have a1 : decide ((256 : Int) < a) = true := by simp; omega
      clear h
      go_enter Tryz.func195, Tryz.ntmps195
      go_wp2
      go_ret2
      exact ⟨rfl, (Chg.refl _ _).alloc _⟩

/-- A head out of bytes. -/
def headL (l : Bytes) : Hd := ⟨leVal (l.take 8), leVal ((l.drop 8).take 8), leVal (((l.drop 8).drop 8).take 4)⟩
def headOf (b : Bytes) : Hd := headL ((b.take 60).drop 4)
def getHead (b : Bytes) : Option Hd := if sumOk b = true ∧ (headOf b).right = true ∧ headBytes (headOf b) = b then some (headOf b) else none

set_option maxHeartbeats 800000 in
set_option maxRecDepth 100000 in
theorem GetHead_sum (w : World) (b : Bytes) (hb : b.length = 64) (hs : sumOk b = false) :
    Calls Tryz.prog 204 #[S b] w fun e' w' => e' = .returned (.tuple #[.agg #[.int .u64 0, .int .u64 0, .int .i64 0], .int .i64 6]) ∧ Chg No w w' := by
  have HS := Lib.hid hs
  clear hs
  go_enter Tryz.func204, Tryz.ntmps204
  go_wp2_with fail
  refine (Read_no _ _ (by omega) HS.out).mono ?_
  rintro e' w1 ⟨rfl, hc1⟩
  obtain ⟨d0, d1, d2, f0, f1, f2⟩ := cells3 (hc1.obj (blk_new w _) id)
  have HC1 := Lib.hid hc1
  clear hc1
  go_wp2_with fail
  refine bodyPost_ret (v := .tuple #[.agg #[.int .u64 0, .int .u64 0, .int .i64 0], .int .i64 6]) (by simp [results, Tryz.results204, go_sem, d0, d1, d2]) rfl ⟨rfl, ?_⟩
  exact (((Chg.refl No w).alloc _).trans_no HC1.out).set3 (.inr (Nat.le_refl _)) _ _ _

def GetHeadPost (b : Bytes) (w : World) (e' : Ending) (w' : World) : Prop :=
  (match getHead b with
   | some h => e' = .returned (.tuple #[h.val, .int .i64 0])
   | none => ∃ c : Int, c ≠ 0 ∧ e' = .returned (.tuple #[.agg #[.int .u64 0, .int .u64 0, .int .i64 0], .int .i64 c])) ∧ Chg No w w'

set_option maxHeartbeats 800000 in
set_option maxRecDepth 100000 in
theorem GetHead_any (w : World) (b : Bytes) (hb : b.length = 64) (hs : sumOk b = true) :
    Calls Tryz.prog 204 #[S b] w (GetHeadPost b w) := by
  obtain ⟨l, hl⟩ : ∃ l, l = (b.take 60).drop 4 := ⟨_, rfl⟩
  have hll : l.length = 56 := by rw [hl]; simp; omega
  have hh : headOf b = headL l := by rw [headOf, hl]
  obtain ⟨p, hp⟩ : ∃ p, p = leVal (l.take 8) := ⟨_, rfl⟩
  obtain ⟨q, hq⟩ : ∃ q, q = leVal ((l.drop 8).take 8) := ⟨_, rfl⟩
  obtain ⟨r, hr⟩ : ∃ r, r = leVal (((l.drop 8).drop 8).take 4) := ⟨_, rfl⟩
  have hr32 : r < 4294967296 := by rw [hr]; exact leVal_take _ 4
  have hpq : headL l = ⟨p, q, r⟩ := by rw [hp, hq, hr]; rfl
  have hg : getHead b = if Hd.right ⟨p, q, r⟩ = true ∧ headBytes ⟨p, q, r⟩ = b then some ⟨p, q, r⟩ else none := by
    unfold getHead
    rw [hh, hs, hpq]
    simp only [true_and]
  have HG := Lib.hid hg
  have HP := Lib.hid hp
  have HQ := Lib.hid hq
  have HR3 := Lib.hid hr
  have HS := Lib.hid hs
  have HL := Lib.hid hl
  have HLL := Lib.hid hll
  clear hs hl hll hh hp hq hr hpq hg
  go_enter Tryz.func204, Tryz.ntmps204
  go_wp2_with fail
  refine (Read_yes _ _ (by omega) HS.out).mono ?_
  rintro e' w1 ⟨rfl, hc1⟩
  have hk1 := hc1.obj (blk_new w _) id
  have hc1' := ((Chg.refl No w).alloc _).trans_no hc1
  clear hc1
  have HK := Lib.hid hk1
  have HC := Lib.hid hc1'
  clear hk1 hc1'
  go_wp2_with fail
  rw [show List.take 56 (List.drop 4 (List.take 60 b)) = l by rw [HL.out, List.take_of_length_le (by simp; omega)]]
  refine (NewReader_ok _ l (by rw [HLL.out]; omega)).mono ?_
  rintro e' w2 ⟨rb, rfl, hrb, hr2, hc2⟩
  have hk2 := hc2.obj HK.out id
  have hc2' := HC.out.trans_no hc2
  have hlt : w.heap.size < rb := by have := blk_lt HK.out; omega
  clear hc2 HK HC
  have HK := Lib.hid hk2
  have HC := Lib.hid hc2'
  have HR := Lib.hid hr2
  clear hk2 hc2' hr2
  go_wp2_with fail
  refine (rnum8 _ _ l (by rw [HLL.out]; omega) HR.out (by rw [HLL.out]; omega)).mono ?_
  rintro e' w3 ⟨rfl, hr3, hc3⟩
  go_wp2_with fail
  refine (rnum8 _ _ (l.drop 8) (by rw [List.length_drop, HLL.out]; omega) hr3 (by rw [List.length_drop, HLL.out]; omega)).mono ?_
  rintro e' w4 ⟨rfl, hr4, hc4⟩
  go_wp2_with fail
  refine (rnum4 _ _ ((l.drop 8).drop 8) (by rw [List.length_drop, List.length_drop, HLL.out]; omega) hr4 (by rw [List.length_drop, List.length_drop, HLL.out]; omega)).mono ?_
  rintro e' w5 ⟨rfl, hr5, hc5⟩
  have hk5 := hc5.obj (hc4.obj (hc3.obj HK.out (by omega)) (by omega)) (by omega)
  have hC5 : Chg No w w5 := ((HC.out.trans hc3 (fun x hx => .inr (by omega))).trans hc4 (fun x hx => .inr (by omega))).trans hc5 (fun x hx => .inr (by omega))
  have hz5 := blk_lt hr5
  clear hr3 hr4 hr5 hc3 hc4 hc5 HR HK HC
  rw [← HP.out, ← HQ.out, ← HR3.out]
  have HK := Lib.hid hk5
  have HC := Lib.hid hC5
  clear hk5 hC5 HP HQ HR3 HL HLL HS
  go_wp2_with fail
  obtain ⟨d0, d1, d2, f0, f1, f2⟩ := cells3 (blk_alloc (.cells #[.int .u64 p, .int .u64 q, .int .i64 r] 149) HK.out)
  clear d0 d1 d2 f0 f1 f2
  by_cases hR : Hd.right ⟨p, q, r⟩ = true
  · have hr2 : 0 < p ∧ 0 < q ∧ r ≤ 256 := by simpa [Hd.right] using hR
    have HRt := Lib.hid hR
    clear hR
    refine (PutHead_ok _ p q r hr2.1 hr2.2.1 hr2.2.2).mono ?_
    rintro e' w6 ⟨rfl, hc6⟩
    obtain ⟨d0, d1, d2, f0, f1, f2⟩ := cells3 (hc6.obj (blk_alloc (.cells #[.int .u64 p, .int .u64 q, .int .i64 r] 149) HK.out) id)
    obtain ⟨g0, g1, g2, _, _, _⟩ := cells3 (hc6.obj (blk_new w5 (.cells #[.int .u64 p, .int .u64 q, .int .i64 r] 149)) id)
    have HC6 := Lib.hid ((HC.out.alloc _).trans_no hc6)
    have hwz : w.heap.size < w5.heap.size := by omega
    clear hc6
    by_cases hB : headBytes ⟨p, q, r⟩ = b
    · have hbe : (headBytes ⟨p, q, r⟩ == b) = true := by simp [hB]
      have HB := Lib.hid hB
      clear hB
      go_wp2_with fail
      refine bodyPost_ret (v := .tuple #[.agg #[.int .u64 p, .int .u64 q, .int .i64 r], .int .i64 0]) (by simp [results, Tryz.results204, go_sem, d0, d1, d2]) rfl ⟨?_, HC6.out.set3 (.inr (Nat.le_refl _)) _ _ _⟩
      rw [HG.out, if_pos ⟨HRt.out, HB.out⟩]
      rfl
    · have hbe : (headBytes ⟨p, q, r⟩ == b) = false := by simp [hB]
      have HB := Lib.hid hB
      clear hB
      go_wp2_with fail
      refine bodyPost_ret (v := .tuple #[.agg #[.int .u64 0, .int .u64 0, .int .i64 0], .int .i64 4]) (by simp [results, Tryz.results204, go_sem, d0, d1, d2]) rfl ⟨?_, HC6.out.set3 (.inr (Nat.le_refl _)) _ _ _⟩
      rw [HG.out, if_neg (fun h => HB.out h.2)]
      exact ⟨4, by decide, rfl⟩
  · have hR' : Hd.right ⟨p, q, r⟩ = false := by simpa using hR
    have HRf := Lib.hid hR'
    clear hR hR'
    refine (PutHead_no _ p q r HRf.out).mono ?_
    rintro e' w6 ⟨rfl, hc6⟩
    obtain ⟨d0, d1, d2, f0, f1, f2⟩ := cells3 (hc6.obj (blk_alloc (.cells #[.int .u64 p, .int .u64 q, .int .i64 r] 149) HK.out) id)
    have HC6 := Lib.hid ((HC.out.alloc _).trans_no hc6)
    clear hc6
    go_wp2_with fail
    refine bodyPost_ret (v := .tuple #[.agg #[.int .u64 0, .int .u64 0, .int .i64 0], .int .i64 4]) (by simp [results, Tryz.results204, go_sem, d0, d1, d2]) rfl ⟨?_, HC6.out.set3 (.inr (Nat.le_refl _)) _ _ _⟩
    rw [HG.out, if_neg (fun h => by rw [HRf.out] at h; exact absurd h.1 (by decide))]
    exact ⟨4, by decide, rfl⟩
end Go.Proofs.YtmmnjecaedmleaaGreatDoor

/- block: blocks as bytes: contracts. -/
namespace Go.Proofs.YtmmnjecaedmleaaGreatDoor
open Go.RowKit
attribute [local go_sem ↓] Go.wp_at_zero Go.wp_at_succ

/-- What a block has. -/
structure Img where
  block : Int
  version : Nat
  data : Bytes
deriving DecidableEq
def Img.val (i : Img) : Value := .agg #[.int .i64 i.block, .int .u64 i.version, S i.data]
def Img.right (i : Img) : Bool := decide (0 ≤ i.block ∧ i.block < 4096 ∧ i.data.length = 96)

theorem zero_ok (w : World) (n : Int) (h0 : 0 ≤ n) (h : n ≤ 1000000) :
    Calls Tryz.prog 210 #[.int .i64 n] w fun e w' => e = .returned (S (zs n.toNat)) ∧ Chg No w w' := by
  go_enter Tryz.func210, Tryz.ntmps210
  go_wp2_with fail
  refine (repeat_ok _ _ h0 h).mono ?_
  rintro e' w1 ⟨rfl, hc1⟩
  have HC := Lib.hid hc1
  clear hc1
  go_wp2_with fail
  go_ret
  exact ⟨rfl, HC.out⟩

theorem Right_ok (w : World) (i : Img) :
    Calls Tryz.prog 196 #[i.val] w fun e w' => e = .returned (.bool i.right) ∧ Chg No w w' := by
  obtain ⟨b, v, d⟩ := i
  unfold Img.val Img.right
  by_cases h0 : 0 ≤ b
  · by_cases h1 : b < 4096
    · by_cases h2 : d.length = 96
      · go_enter Tryz.func196, Tryz.ntmps196
        go_wp2
        go_ret
        exact ⟨by simp [h0, h1, h2], (Chg.refl _ _).alloc _⟩
      · have h3 : ((d.length : Int) == 96) = false := by simp; omega
        go_enter Tryz.func196, Tryz.ntmps196
        go_wp2
        go_ret
        exact ⟨by simp [h0, h1, h2], (Chg.refl _ _).alloc _⟩
    · have h3 : decide (b < 4096) = false := by simp; omega
      go_enter Tryz.func196, Tryz.ntmps196
      go_wp2
      go_ret
      exact ⟨by simp [h0, h1], (Chg.refl _ _).alloc _⟩
  · have h3 : decide (0 ≤ b) = false := by simp; omega
    go_enter Tryz.func196, Tryz.ntmps196
    go_wp2
    go_ret
    exact ⟨by simp [h0], (Chg.refl _ _).alloc _⟩

/-- One sector of a block; a block. -/
def secBytes (i : Img) (k : Nat) : Bytes := stamp ((i.data.drop (48 * k)).take 48 ++ (le 4 i.block.toNat ++ le 8 i.version))
def blkBytes (i : Img) : Bytes := secBytes i 0 ++ secBytes i 1

set_option maxHeartbeats 800000 in
set_option maxRecDepth 100000 in
theorem sector_ok (w : World) (b v : Nat) (d : Bytes) (k : Nat) (hk : k = 0 ∨ k = 1) (hb : b < 4096) (hd : d.length = 96) :
    Calls Tryz.prog 197 #[.agg #[.int .i64 b, .int .u64 v, S d], .int .i64 k] w fun e w' => e = .returned (.tuple #[S (secBytes ⟨b, v, d⟩ k), .int .i64 0]) ∧ Chg No w w' := by
  have a3 := wrap_u64 b (by omega)
  go_enter Tryz.func197, Tryz.ntmps197
  go_wp2_with fail
  have hW0 : WriterAt (w.heap.size + 1) ((w.alloc (.cells #[.int .i64 b, .int .u64 v, S d] 38)).alloc (.cells #[.slice none 0 0, .int .i64 0] 346)).drew (w.heap.size + 1) [] :=
    writer_new (by have := blk_new (w.alloc (.cells #[.int .i64 b, .int .u64 v, S d] 38)) (.cells #[.slice none 0 0, .int .i64 0] 346); rwa [World.size_alloc] at this)
  have HW0 := Lib.hid hW0
  clear hW0
  go_region_held3 (fun w' => w'.cell? ⟨w.heap.size, 0, none⟩ = some (.int .i64 b) ∧ w'.cell? ⟨w.heap.size, 1, none⟩ = some (.int .u64 v) ∧ w'.cell? ⟨w.heap.size, 2, none⟩ = some (S d))
    (go_keep)
    (first
      | (go_at_call 273; (with_reducible refine (num4 (w.heap.size + 1) _ _ [] b HW0.out (by simp) (by omega)).mono ?_); rintro e w2 ⟨rfl, hw2, hb2⟩; have hk2 : ∀ o, w2.cell? ⟨w.heap.size, o, none⟩ = _ := fun o => hb2.cell (p := ⟨w.heap.size, o, none⟩) (Nat.lt_succ_self _); have HW2 := Lib.hid hw2; have HB2 := Lib.hid hb2; clear hw2 hb2)
      | (go_at_call 273; (with_reducible refine (num8 (w.heap.size + 1) _ _ _ v HW2.out (by simp)).mono ?_); rintro e w3 ⟨rfl, hw3, hb3⟩; have hk3 : ∀ o, w3.cell? ⟨w.heap.size, o, none⟩ = _ := fun o => hb3.cell (p := ⟨w.heap.size, o, none⟩) (Nat.lt_succ_self _); have HW3 := Lib.hid hw3; have HB3 := Lib.hid hb3; clear hw3 hb3)
      | (go_at_call 274; (with_reducible refine (bytes_ok _ _ _ _ HW3.out).mono ?_); rintro e w5 ⟨rfl, rfl⟩))
  have hk3' := hk3
  clear hk2 hk3
  rcases hk with rfl | rfl
  · go_wp2_with fail
    refine (Stamp_ok _ _ (by simp; omega)).mono ?_
    rintro e w4 ⟨rfl, hc4⟩
    have HC4 := Lib.hid hc4
    clear hc4
    go_wp2_with fail
    go_ret2
    refine ⟨by simp [secBytes], ?_⟩
    exact ((((Chg.refl No w).alloc _).alloc _).drew.below HB2.out (by simp)).below HB3.out (by simp) |>.trans_no HC4.out
  · go_wp2_with fail
    refine (Stamp_ok _ _ (by simp; omega)).mono ?_
    rintro e w4 ⟨rfl, hc4⟩
    have HC4 := Lib.hid hc4
    clear hc4
    go_wp2_with fail
    go_ret2
    refine ⟨by simp [secBytes], ?_⟩
    exact ((((Chg.refl No w).alloc _).alloc _).drew.below HB2.out (by simp)).below HB3.out (by simp) |>.trans_no HC4.out

theorem secBytes_length (i : Img) (k : Nat) (h : i.data.length = 96) : (secBytes i k).length = 64 := stamp_length _ (by simp; omega)
theorem blkBytes_length (i : Img) (h : i.data.length = 96) : (blkBytes i).length = 128 := by
  rw [blkBytes, List.length_append, secBytes_length i 0 h, secBytes_length i 1 h]

set_option maxHeartbeats 800000 in
set_option maxRecDepth 100000 in
theorem Put_ok (w : World) (b v : Nat) (d : Bytes) (hb : b < 4096) (hd : d.length = 96) :
    Calls Tryz.prog 68 #[.agg #[.int .i64 b, .int .u64 v, S d]] w fun e w' => e = .returned (.tuple #[S (blkBytes ⟨b, v, d⟩), .int .i64 0]) ∧ Chg No w w' := by
  have hr : Img.right ⟨b, v, d⟩ = true := by simp [Img.right, hd]; omega
  go_enter Tryz.func68, Tryz.ntmps68
  go_wp2_with fail
  refine (Right_ok _ ⟨b, v, d⟩).mono ?_
  rintro e w1 ⟨rfl, hc1⟩
  have hk1 := hc1.obj (blk_new w _) id
  have hC := ((Chg.refl No w).alloc _).trans_no hc1
  have HK := Lib.hid hk1
  have HC := Lib.hid hC
  have HR := Lib.hid hr
  rw [hr]
  clear hc1 hk1 hC hr
  go_wp2_with fail
  go_loopw [4, 11] (fun x i wr => ∃ k : Nat, ∃ o : Bytes, k ≤ 2 ∧ i = .int .i64 k ∧ x = S o ∧ Hid (o = if k = 0 then [] else if k = 1 then secBytes ⟨b, v, d⟩ 0 else blkBytes ⟨b, v, d⟩) ∧ Hid (wr.heap[w.heap.size]? = some (.cells #[.int .i64 b, .int .u64 v, S d] 38 (0, 0))) ∧ Hid (Chg No w wr)) (fun x i _ => 2 - (intOf i).toNat)
  case atStart => exact ⟨0, [], by omega, rfl, rfl, Lib.hid rfl, HK, HC⟩
  case round =>
    obtain ⟨k, o, hk, rfl, rfl, Ho, HKr, HCr⟩ := hrel
    by_cases hlt : k < 2
    · obtain ⟨d0, d1, d2, _, _, _⟩ := cells3 HKr.out
      have hol : o.length ≤ 64 := by
        rw [Ho.out]
        split
        · simp
        · split
          · rw [secBytes_length _ _ hd]; omega
          · omega
      go_wp2_with fail
      refine (sector_ok _ b v d k (by omega) hb hd).mono ?_
      rintro e w2 ⟨rfl, hc2⟩
      have hsl : (secBytes ⟨b, v, d⟩ k).length = 64 := secBytes_length _ _ hd
      have hk2 := hc2.obj HKr.out id
      have hC2 := HCr.out.trans_no hc2
      have HK2 := Lib.hid hk2
      have HC2 := Lib.hid hC2
      clear hk2 hC2 hc2 d0 d1 d2 HKr HCr
      go_wp2_with fail
      go_roundw
      case rel =>
        refine ⟨k + 1, o ++ secBytes ⟨b, v, d⟩ k, by omega, by go_num, rfl, Lib.hid ?_, HK2, HC2⟩
        have ho := Ho.out
        rcases (show k = 0 ∨ k = 1 by omega) with rfl | rfl
        · simp at ho; simp [ho]
        · simp at ho; simp [ho, blkBytes]
      case measure => simp [intOf]; omega
    · obtain rfl : k = 2 := by omega
      go_wp2_with fail
      go_ret2
      refine ⟨?_, HCr.out⟩
      have ho := Ho.out
      simp at ho
      rw [← ho]; rfl

set_option maxRecDepth 100000 in
theorem Put_no (w : World) (i : Img) (h : i.right = false) :
    Calls Tryz.prog 68 #[i.val] w fun e w' => e = .returned (.tuple #[S [], .int .i64 1]) ∧ Chg No w w' := by
  have HR := Lib.hid h
  clear h
  obtain ⟨b, v, d⟩ := i
  unfold Img.val
  go_enter Tryz.func68, Tryz.ntmps68
  go_wp2_with fail
  refine (Right_ok _ ⟨b, v, d⟩).mono ?_
  rintro e w1 ⟨rfl, hc1⟩
  have HC := Lib.hid (((Chg.refl No w).alloc _).trans_no hc1)
  clear hc1
  rw [HR.out]
  go_wp2_with fail
  go_ret2
  exact ⟨rfl, HC.out⟩

/-- One sector read: the number, the version, the bytes. -/
def secImg (s : Bytes) : Img := ⟨leVal (((s.take 60).drop 48).take 4), leVal ((((s.take 60).drop 48).drop 4).take 8), (s.take 60).take 48⟩
def zeroImg : Value := .agg #[.int .i64 0, .int .u64 0, S []]

set_option maxHeartbeats 800000 in
set_option maxRecDepth 100000 in
theorem read_ok (w : World) (b : Bytes) (k : Nat) (s : Bytes) (hk : k = 0 ∨ k = 1) (hb : b.length = 128) (hs : s = (b.drop (64 * k)).take 64) (ho : sumOk s = true) :
    Calls Tryz.prog 211 #[S b, .int .i64 k] w fun e w' => e = .returned (.tuple #[(secImg s).val, .int .i64 0]) ∧ Chg No w w' := by
  have hsl : s.length = 64 := by rw [hs]; simp; omega
  obtain ⟨t, ht⟩ : ∃ t, t = (s.take 60).drop 48 := ⟨_, rfl⟩
  have htl : t.length = 12 := by rw [ht]; simp; omega
  obtain ⟨p, hp⟩ : ∃ p, p = leVal (t.take 4) := ⟨_, rfl⟩
  obtain ⟨q, hq⟩ : ∃ q, q = leVal ((t.drop 4).take 8) := ⟨_, rfl⟩
  have hp32 : p < 4294967296 := by rw [hp]; exact leVal_take _ 4
  have hv : (secImg s).val = .agg #[.int .i64 p, .int .u64 q, S ((s.take 60).take 48)] := by rw [hp, hq, ht]; rfl
  rw [hv]
  have HS := Lib.hid hs
  have HSL := Lib.hid hsl
  have HO := Lib.hid ho
  have HT := Lib.hid ht
  have HTL := Lib.hid htl
  have HP := Lib.hid hp
  have HQ := Lib.hid hq
  clear hs hsl ho ht htl hp hq hv
  go_enter Tryz.func211, Tryz.ntmps211
  rcases hk with rfl | rfl
  all_goals
    go_wp2_with fail
    have hs3 := HS.out
    simp only [Nat.mul_zero, Nat.mul_one, List.drop_zero] at hs3
    rw [← hs3]
    clear hs3
    have hsl := HSL.out
    refine (Read_yes _ s hsl HO.out).mono ?_
    rintro e w1 ⟨rfl, hc1⟩
    have HK := Lib.hid (hc1.obj (blk_new w _) id)
    have HC := Lib.hid (((Chg.refl No w).alloc _).trans_no hc1)
    have hwz := blk_lt HK.out
    clear hc1 hsl
    have hst : (s.take 60).length = 60 := by have := HSL.out; simp; omega
    go_wp2_with fail
    rw [show List.take 12 (List.drop 48 (List.take 60 s)) = t by rw [HT.out, List.take_of_length_le]; have := HSL.out; simp; omega]
    have htl := HTL.out
    refine (NewReader_ok _ t (by omega)).mono ?_
    rintro e w2 ⟨rb, rfl, hrb, hr2, hc2⟩
    have HK2 := Lib.hid (hc2.obj HK.out id)
    have HC2 := Lib.hid (HC.out.trans_no hc2)
    have HR2 := Lib.hid hr2
    clear hc2 hr2 htl HK HC hst
    go_wp2_with fail
    have HR3 : Hid (ReaderAt w2.drew rb t) := HR2
    have hp1 : IntKind.i64.wrap (p : Int) = p := by unfold IntKind.wrap; simp [IntKind.signed, IntKind.bits]; omega
    have hne : w.heap.size ≠ rb := by omega
    have hst : (s.take 60).length = 60 := by have := HSL.out; simp; omega
    go_region_held3 (fun _ => True) (trivial)
      (first
        | (go_at_call 269; (with_reducible refine (rnum4 _ _ t (by have := HTL.out; omega) HR3.out (by have := HTL.out; omega)).mono ?_); rintro e w3 ⟨rfl, hr3, hc3⟩; rw [← HP.out]; have HR4 := Lib.hid hr3; have HC3 := Lib.hid hc3; clear hr3 hc3)
        | (go_at_call 269; (with_reducible refine (rnum8 _ _ (t.drop 4) (by rw [List.length_drop, HTL.out]; omega) HR4.out (by rw [List.length_drop, HTL.out]; omega)).mono ?_); rintro e w4 ⟨rfl, hr4, hc4⟩; rw [← HQ.out]; obtain ⟨d0, d1, d2, f0, f1, f2⟩ := cells3 (hc4.obj (HC3.out.obj HK2.out hne) hne); have HC4 := Lib.hid hc4; clear hr4 hc4))
    go_wp2_with fail
    refine bodyPost_ret (v := .tuple #[.agg #[.int .i64 p, .int .u64 q, S ((s.take 60).take 48)], .int .i64 0]) (by simp [results, Tryz.results211, go_sem, d0, d1, d2]) rfl ⟨rfl, ?_⟩
    refine Chg.set3 ?_ (.inr (Nat.le_refl _)) _ _ _
    refine Chg.trans (G := fun k => k = rb) (Chg.trans (G := fun k => k = rb) HC2.out.drew HC3.out ?_) HC4.out ?_
    · intro x hx; exact .inr (by omega)
    · intro x hx; exact .inr (by omega)

set_option maxRecDepth 100000 in
theorem read_no (w : World) (b : Bytes) (k : Nat) (s : Bytes) (hk : k = 0 ∨ k = 1) (hb : b.length = 128) (hs : s = (b.drop (64 * k)).take 64) (ho : sumOk s = false) :
    Calls Tryz.prog 211 #[S b, .int .i64 k] w fun e w' => e = .returned (.tuple #[zeroImg, .int .i64 6]) ∧ Chg No w w' := by
  have hsl : s.length = 64 := by rw [hs]; simp; omega
  have HS := Lib.hid hs
  have HSL := Lib.hid hsl
  have HO := Lib.hid ho
  clear hs hsl ho
  go_enter Tryz.func211, Tryz.ntmps211
  rcases hk with rfl | rfl
  all_goals
    go_wp2_with fail
    have hs3 := HS.out
    simp only [Nat.mul_zero, Nat.mul_one, List.drop_zero] at hs3
    rw [← hs3]
    clear hs3
    have hsl := HSL.out
    refine (Read_no _ s hsl HO.out).mono ?_
    rintro e w1 ⟨rfl, hc1⟩
    obtain ⟨d0, d1, d2, f0, f1, f2⟩ := cells3 (hc1.obj (blk_new w _) id)
    have HC := Lib.hid (((Chg.refl No w).alloc _).trans_no hc1)
    clear hc1 hsl
    go_wp2_with fail
    exact bodyPost_ret (v := .tuple #[.agg #[.int .i64 0, .int .u64 0, S []], .int .i64 6]) (by simp [results, Tryz.results211, go_sem, d0, d1, d2]) rfl ⟨rfl, HC.out.set3 (.inr (Nat.le_refl _)) _ _ _⟩

/-- A block out of bytes: the image; or why not. -/
def sec0 (b : Bytes) : Bytes := b.take 64
def sec1 (b : Bytes) : Bytes := (b.drop 64).take 64
def blkGet (n : Int) (b : Bytes) : Img × Int :=
  if b = zs 128 then (⟨n, 0, zs 96⟩, 0)
  else if sumOk (sec0 b) = false then (⟨0, 0, []⟩, 6)
  else if sumOk (sec1 b) = false then (⟨0, 0, []⟩, 6)
  else if (secImg (sec0 b)).block ≠ n ∨ (secImg (sec1 b)).block ≠ n ∨ 4096 ≤ n then (⟨0, 0, []⟩, 4)
  else if (secImg (sec0 b)).version ≠ (secImg (sec1 b)).version then (⟨0, 0, []⟩, 6)
  else (⟨n, (secImg (sec0 b)).version, (secImg (sec0 b)).data ++ (secImg (sec1 b)).data⟩, 0)

def GetPost (n : Int) (b : Bytes) (w : World) (e : Ending) (w' : World) : Prop :=
  e = .returned (.tuple #[(blkGet n b).1.val, .int .i64 (blkGet n b).2]) ∧ Chg No w w'

set_option maxHeartbeats 1600000 in
set_option maxRecDepth 100000 in
theorem Get_ok (w : World) (n : Int) (b : Bytes) (hb : b.length = 128) :
    Calls Tryz.prog 84 #[.int .i64 n, S b] w (GetPost n b w) := by
  go_enter Tryz.func84, Tryz.ntmps84
  go_wp2_with fail
  refine (zero_ok _ 128 (by omega) (by omega)).mono ?_
  rintro e w1 ⟨rfl, hc1⟩
  have HK1 := Lib.hid (hc1.obj (blk_new w _) id)
  have HC1 := Lib.hid (((Chg.refl No w).alloc _).trans_no hc1)
  clear hc1
  rw [show ((128 : Int)).toNat = 128 from rfl]
  by_cases hz : b = zs 128
  · have hze : (b == zs 128) = true := by simp [hz]
    have HZ := Lib.hid hz
    clear hz
    go_wp2_with fail
    refine (zero_ok _ 96 (by omega) (by omega)).mono ?_
    rintro e w2 ⟨rfl, hc2⟩
    obtain ⟨d0, d1, d2, f0, f1, f2⟩ := cells3 (hc2.obj HK1.out id)
    have HC2 := Lib.hid (HC1.out.trans_no hc2)
    clear hc2
    rw [show ((96 : Int)).toNat = 96 from rfl]
    go_wp2_with fail
    refine bodyPost_ret (v := .tuple #[.agg #[.int .i64 n, .int .u64 0, S (zs 96)], .int .i64 0]) (by simp [results, Tryz.results84, go_sem, d0, d1, d2]) rfl ⟨?_, HC2.out.set3 (.inr (Nat.le_refl _)) _ _ _⟩
    rw [blkGet, if_pos HZ.out]; rfl
  · have hze : (b == zs 128) = false := by simp [hz]
    have HZ := Lib.hid hz
    clear hz
    go_wp2_with fail
    cases hs0 : sumOk (sec0 b)
    · refine (read_no _ b 0 (sec0 b) (by omega) hb rfl hs0).mono ?_
      rintro e w2 ⟨rfl, hc2⟩
      obtain ⟨d0, d1, d2, f0, f1, f2⟩ := cells3 (hc2.obj HK1.out id)
      have z2 := blk_lt (hc2.obj HK1.out id)
      have HC2 := Lib.hid (HC1.out.trans_no hc2)
      have HS0 := Lib.hid hs0
      clear hc2 hs0
      unfold zeroImg
      go_wp2_with fail
      refine bodyPost_ret (v := .tuple #[zeroImg, .int .i64 6]) (by simp [results, Tryz.results84, go_sem, d0, d1, d2, zeroImg, z2, Nat.ne_of_lt z2]) rfl ⟨?_, by repeat (first | exact HC2.out | refine Chg.alloc ?_ _ | refine Chg.setCell ?_ (Or.inr (Nat.le_refl _)) _)⟩
      rw [blkGet, if_neg HZ.out, if_pos HS0.out]; rfl
    · refine (read_ok _ b 0 (sec0 b) (by omega) hb rfl hs0).mono ?_
      rintro e w2 ⟨rfl, hc2⟩
      have HK2 := Lib.hid (hc2.obj HK1.out id)
      have z2 := blk_lt HK2.out
      have HC2 := Lib.hid (HC1.out.trans_no hc2)
      have HS0 := Lib.hid hs0
      clear hc2 hs0
      obtain ⟨p, hp⟩ : ∃ p, p = secImg (sec0 b) := ⟨_, rfl⟩
      rw [← hp]
      obtain ⟨pb, pv, pd⟩ := p
      have HP := Lib.hid hp
      clear hp
      unfold Img.val
      go_wp2_with fail
      have HK3 := Lib.hid (blk_alloc (.cells #[.int .i64 pb, .int .u64 pv, S pd] 38) HK2.out)
      have HL3 := Lib.hid (blk_new w2 (.cells #[.int .i64 pb, .int .u64 pv, S pd] 38))
      cases hs1 : sumOk (sec1 b)
      · refine (read_no _ b 1 (sec1 b) (by omega) hb rfl hs1).mono ?_
        rintro e w3 ⟨rfl, hc3⟩
        obtain ⟨d0, d1, d2, f0, f1, f2⟩ := cells3 (hc3.obj HK3.out id)
        have z3 := blk_lt (hc3.obj HK3.out id)
        have HC3 := Lib.hid ((HC2.out.alloc _).trans_no hc3)
        have HS1 := Lib.hid hs1
        clear hc3 hs1
        unfold zeroImg
        go_wp2_with fail
        refine bodyPost_ret (v := .tuple #[zeroImg, .int .i64 6]) (by simp [results, Tryz.results84, go_sem, d0, d1, d2, zeroImg, z3, Nat.ne_of_lt z3]) rfl ⟨?_, by repeat (first | exact HC3.out | refine Chg.alloc ?_ _ | refine Chg.setCell ?_ (Or.inr (Nat.le_refl _)) _)⟩
        rw [blkGet, if_neg HZ.out, if_neg (by rw [HS0.out]; decide), if_pos HS1.out]; rfl
      · refine (read_ok _ b 1 (sec1 b) (by omega) hb rfl hs1).mono ?_
        rintro e w3 ⟨rfl, hc3⟩
        have HK4 := Lib.hid (hc3.obj HK3.out id)
        have HL4 := Lib.hid (hc3.obj HL3.out id)
        have z4 := blk_lt HL4.out
        have HC3 := Lib.hid ((HC2.out.alloc _).trans_no hc3)
        have HS1 := Lib.hid hs1
        clear hc3 hs1
        obtain ⟨q, hq⟩ : ∃ q, q = secImg (sec1 b) := ⟨_, rfl⟩
        rw [← hq]
        obtain ⟨qb, qv, qd⟩ := q
        have HQ := Lib.hid hq
        clear hq
        unfold Img.val
        have hE : blkGet n b = if pb ≠ n ∨ qb ≠ n ∨ 4096 ≤ n then (⟨0, 0, []⟩, 4) else if pv ≠ qv then (⟨0, 0, []⟩, 6) else (⟨n, pv, pd ++ qd⟩, 0) := by
          rw [blkGet, if_neg HZ.out, if_neg (by rw [HS0.out]; decide), if_neg (by rw [HS1.out]; decide), ← HP.out, ← HQ.out]
        have HE := Lib.hid hE
        have hpd : pd.length ≤ 48 := by have := congrArg Img.data HP.out; simp only at this; rw [this]; simp [secImg]; omega
        have hqd : qd.length ≤ 48 := by have := congrArg Img.data HQ.out; simp only at this; rw [this]; simp [secImg]; omega
        clear hE
        obtain ⟨d0, d1, d2, f0, f1, f2⟩ := cells3 HK4.out
        obtain ⟨g0, g1, g2, _, _, _⟩ := cells3 HL4.out
        have z5 := blk_lt HK4.out
        go_wp2_with fail
        · refine bodyPost_ret (v := .tuple #[zeroImg, .int .i64 4]) (by simp [results, Tryz.results84, go_sem, d0, d1, d2, zeroImg, z5, Nat.ne_of_lt z5]) rfl ⟨?_, by repeat (first | exact HC3.out | refine Chg.alloc ?_ _ | refine Chg.setCell ?_ (Or.inr (Nat.le_refl _)) _)⟩
          rw [HE.out, if_pos (by omega)]; rfl
        · refine bodyPost_ret (v := .tuple #[zeroImg, .int .i64 6]) (by simp [results, Tryz.results84, go_sem, d0, d1, d2, zeroImg, z5, Nat.ne_of_lt z5]) rfl ⟨?_, by repeat (first | exact HC3.out | refine Chg.alloc ?_ _ | refine Chg.setCell ?_ (Or.inr (Nat.le_refl _)) _)⟩
          have hv := ‹((pv : Int) != (qv : Int)) = true›
          simp at hv
          rw [HE.out, if_neg (by omega), if_pos (by omega)]; rfl
        · refine bodyPost_ret (v := .tuple #[.agg #[.int .i64 n, .int .u64 pv, S (pd ++ qd)], .int .i64 0]) (by simp [results, Tryz.results84, go_sem, d0, d1, d2, zeroImg, z5, Nat.ne_of_lt z5]) rfl ⟨?_, by repeat (first | exact HC3.out | refine Chg.alloc ?_ _ | refine Chg.setCell ?_ (Or.inr (Nat.le_refl _)) _)⟩
          have hv := ‹((pv : Int) != (qv : Int)) = false›
          simp at hv
          rw [HE.out, if_neg (by omega), if_neg (by omega)]; rfl
        · refine bodyPost_ret (v := .tuple #[zeroImg, .int .i64 4]) (by simp [results, Tryz.results84, go_sem, d0, d1, d2, zeroImg, z5, Nat.ne_of_lt z5]) rfl ⟨?_, by repeat (first | exact HC3.out | refine Chg.alloc ?_ _ | refine Chg.setCell ?_ (Or.inr (Nat.le_refl _)) _)⟩
          rw [HE.out, if_pos (by omega)]; rfl
        · refine bodyPost_ret (v := .tuple #[zeroImg, .int .i64 4]) (by simp [results, Tryz.results84, go_sem, d0, d1, d2, zeroImg, z5, Nat.ne_of_lt z5]) rfl ⟨?_, by repeat (first | exact HC3.out | refine Chg.alloc ?_ _ | refine Chg.setCell ?_ (Or.inr (Nat.le_refl _)) _)⟩
          rw [HE.out, if_pos (by omega)]; rfl
end Go.Proofs.YtmmnjecaedmleaaGreatDoor
