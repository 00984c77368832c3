import Derived.Test.YtmmnjecaedmleaaGreatDoorM12

/- rec: body, label: contracts. -/
namespace Go.Proofs.YtmmnjecaedmleaaGreatDoor
open Go.RowKit
attribute [local go_sem ↓] Go.wp_at_zero Go.wp_at_succ

def imgBytes (x : Img) : Bytes := (le 4 x.block.toNat ++ le 8 x.version) ++ x.data
def bodyBytes (l : List Img) : Bytes := l.flatMap imgBytes
theorem imgBytes_length (x : Img) (h : x.data.length = 96) : (imgBytes x).length = 108 := by simp [imgBytes, le_length, h]
theorem bodyBytes_length (l : List Img) (h : ∀ x ∈ l, x.data.length = 96) : (bodyBytes l).length = 108 * l.length := by
  induction l with
  | nil => rfl
  | cons a l ih =>
    rw [bodyBytes, List.flatMap_cons, List.length_append, imgBytes_length a (h a (List.mem_cons_self ..)), ← bodyBytes, ih (fun x hx => h x (List.mem_cons_of_mem _ hx)), List.length_cons]
    omega

set_option maxHeartbeats 1600000 in
set_option maxRecDepth 100000 in
theorem body_ok (w : World) (v : Value) (l : List Img) (hv : ImgsAt w v l) (hr : ∀ x ∈ l, Img.right x = true) (hl : l.length ≤ 1000) :
    Calls Tryz.prog 199 #[v] w fun e' w' => e' = .returned (S (bodyBytes l)) ∧ Chg No w w' := by
  obtain ⟨g, c, rfl, hj⟩ : ∃ g c, v = .slice g l.length c ∧ (∀ j (h : j < l.length), ∃ b off, g = some ⟨b, off, none⟩ ∧ w.cell? ⟨b, off + j * 3, none⟩ = some (.int .i64 l[j].block) ∧ w.cell? ⟨b, off + j * 3 + 1, none⟩ = some (.int .u64 l[j].version) ∧ w.cell? ⟨b, off + j * 3 + 2, none⟩ = some (S l[j].data)) := by
    rcases hv with ⟨a, c, rfl, rfl⟩ | ⟨g, off, c, rfl, hj⟩
    · exact ⟨a, c, rfl, fun j h => by simp at h⟩
    · exact ⟨_, c, rfl, fun j h => ⟨g, off, rfl, hj j h⟩⟩
  have HJ := Lib.hid hj
  have HR := Lib.hid hr
  clear hj hr hv
  go_enter Tryz.func199, Tryz.ntmps199
  go_wp2_with fail
  go_loopw [3, 11] (fun o i wr => ∃ k : Nat, k ≤ l.length ∧ i = .int .i64 k ∧ o = S (bodyBytes (l.take k)) ∧ Hid (Chg No w wr)) (fun o i _ => l.length - (intOf i).toNat)
  case atStart => exact ⟨0, Nat.zero_le _, rfl, rfl, Lib.hid (Chg.refl _ _)⟩
  case round =>
    obtain ⟨k, hk, rfl, rfl, HC⟩ := hrel
    by_cases hlt : k < l.length
    · obtain ⟨x, hx⟩ : ∃ x, l[k] = x := ⟨_, rfl⟩
      obtain ⟨gb, goff, rfl, j0, j1, j2⟩ := HJ.out k hlt
      rw [hx] at j0 j1 j2
      have c0 := HC.out.cell j0 id
      have c1 := HC.out.cell j1 id
      have c2 := HC.out.cell j2 id
      have hright := HR.out x (hx ▸ List.getElem_mem hlt)
      have htk : bodyBytes (l.take (k + 1)) = bodyBytes (l.take k) ++ imgBytes x := by
        rw [List.take_succ_eq_append_getElem hlt, hx, bodyBytes, List.flatMap_append, List.flatMap_singleton]; rfl
      have hbl : (bodyBytes (l.take k)).length ≤ 108000 := by
        rw [bodyBytes_length _ (fun y hy => by have := HR.out y (List.mem_of_mem_take hy); simp only [Img.right, decide_eq_true_eq] at this; exact this.2.2)]
        have := List.length_take_le k l
        omega
      obtain ⟨xb, xv, xd⟩ := x
      simp only [Img.right, decide_eq_true_eq] at hright
      obtain ⟨r0, r1, r2⟩ := hright
      obtain ⟨n, rfl⟩ := Int.eq_ofNat_of_zero_le r0
      have hu := wrap_u64 n (by omega)
      have HX := Lib.hid hx
      have HT := Lib.hid htk
      clear hx j0 j1 j2 htk
      go_upto_region 6 with (fail)
      generalize hW : (wr.alloc (.cells #[.int .i64 n, .int .u64 xv, S xd] 38)).alloc (.cells #[.slice none 0 0, .int .i64 0] 346) = W
      have hkW : W.heap[wr.heap.size]? = some (.cells #[.int .i64 n, .int .u64 xv, S xd] 38 (0, 0)) := by rw [← hW]; exact blk_alloc _ (blk_new _ _)
      have hwW : W.heap[wr.heap.size + 1]? = some (.cells #[.slice none 0 0, .int .i64 0] 346 (0, 0)) := by
        rw [← hW]
        have := blk_new (wr.alloc (.cells #[.int .i64 n, .int .u64 xv, S xd] 38)) (.cells #[.slice none 0 0, .int .i64 0] 346)
        rwa [World.size_alloc] at this
      have hcW : Chg No wr W := by rw [← hW]; exact ((Chg.refl _ _).alloc _).alloc _
      have hzW : W.heap.size = wr.heap.size + 2 := by rw [← hW]; simp
      obtain ⟨x0, x1, x2, _, _, _⟩ := cells3 hkW
      have HCW := Lib.hid (HC.out.trans_same hcW)
      have HW0 := Lib.hid (show WriterAt (wr.heap.size + 1) W.drew (wr.heap.size + 1) [] from writer_new hwW)
      have HKW := Lib.hid hkW
      have HZW := Lib.hid hzW
      clear hW hkW hwW hcW hzW c0 c1 c2
      have HZ0 := Lib.hid HC.out.size
      clear HC
      go_cut [7] (fun x wx => x = S (le 4 n ++ le 8 xv) ∧ Hid (wx.cell? ⟨wr.heap.size, 2, none⟩ = some (S xd)) ∧ Hid (Chg No w wx))
      case first =>
        go_region_held3 (fun w' => w'.cell? ⟨wr.heap.size, 0, none⟩ = some (.int .i64 n) ∧ w'.cell? ⟨wr.heap.size, 1, none⟩ = some (.int .u64 xv))
          (go_keep)
          (first
            | (go_at_call 273; (with_reducible refine (num4 (wr.heap.size + 1) _ _ [] n HW0.out (by simp) (by omega)).mono ?_); rintro e w2 ⟨rfl, hw2, hb2⟩; have hk2 : ∀ o, w2.cell? ⟨wr.heap.size, o, none⟩ = _ := fun o => hb2.cell (p := ⟨wr.heap.size, o, none⟩) (Nat.lt_succ_self _); have HW2 := Lib.hid hw2; have HB2 := Lib.hid hb2; clear hw2 hb2)
            | (go_at_call 273; (with_reducible refine (num8 (wr.heap.size + 1) _ _ _ xv HW2.out (by simp [le_length])).mono ?_); rintro e w3 ⟨rfl, hw3, hb3⟩; have hk3 : ∀ o, w3.cell? ⟨wr.heap.size, o, none⟩ = _ := fun o => hb3.cell (p := ⟨wr.heap.size, o, none⟩) (Nat.lt_succ_self _); have HW3 := Lib.hid hw3; have HB3 := Lib.hid hb3; clear hw3 hb3)
            | (go_at_call 274; (with_reducible refine (bytes_ok _ _ _ _ HW3.out).mono ?_); rintro e w5 ⟨rfl, rfl⟩))
        go_wp2_with fail
        go_meet
        have hz0 := HZ0.out
        refine ⟨rfl, Lib.hid ((hk3 2).trans ((hk2 2).trans x2)), Lib.hid ((HCW.out.drew.below HB2.out (by omega)).below HB3.out (by omega))⟩
      case rest =>
        obtain ⟨rfl, HX2, HC3⟩ := hcut
        have c2 := HX2.out
        have hl4 : (le 4 n ++ le 8 xv).length = 12 := by simp [le_length]
        clear x0 x1 x2
        go_wp2_with fail
        refine ⟨⟨k + 1, hlt, by go_num, ?_, HC3⟩, by simp [intOf]; omega⟩
        rw [HT.out]
        rfl
    · obtain rfl : k = l.length := by omega
      go_wp2_with fail
      go_ret
      exact ⟨by rw [List.take_length]; rfl, HC.out⟩

def labelBytes (e n place images : Nat) : Bytes := ((le 8 e ++ le 8 n) ++ le 1 place) ++ le 1 images
theorem labelBytes_length (e n place images : Nat) : (labelBytes e n place images).length = 18 := by simp [labelBytes, le_length]

set_option maxHeartbeats 1600000 in
set_option maxRecDepth 100000 in
theorem label_ok (w : World) (e n : Nat) (v : Value) (place images : Nat) (hp : place < 256) (hi : images < 256) :
    Calls Tryz.prog 201 #[.agg #[.int .u64 e, .int .u64 n, v], .int .i64 place, .int .i64 images] w fun e' w' => e' = .returned (S (labelBytes e n place images)) ∧ Chg No w w' := by
  have hu := wrap_u64 place (by omega)
  have hv := wrap_u64 images (by omega)
  go_enter Tryz.func201, Tryz.ntmps201
  go_wp2_with fail
  generalize hW : (w.alloc (.cells #[.int .u64 e, .int .u64 n, v] 62)).alloc (.cells #[.slice none 0 0, .int .i64 0] 346) = W
  have hkW : W.heap[w.heap.size]? = some (.cells #[.int .u64 e, .int .u64 n, v] 62 (0, 0)) := by rw [← hW]; exact blk_alloc _ (blk_new _ _)
  have hwW : W.heap[w.heap.size + 1]? = some (.cells #[.slice none 0 0, .int .i64 0] 346 (0, 0)) := by
    rw [← hW]
    have := blk_new (w.alloc (.cells #[.int .u64 e, .int .u64 n, v] 62)) (.cells #[.slice none 0 0, .int .i64 0] 346)
    rwa [World.size_alloc] at this
  have hcW : Chg No w W := by rw [← hW]; exact ((Chg.refl _ _).alloc _).alloc _
  obtain ⟨x0, x1, x2, _, _, _⟩ := cells3 hkW
  have HCW := Lib.hid hcW
  have HW0 := Lib.hid (show WriterAt (w.heap.size + 1) W.drew (w.heap.size + 1) [] from writer_new hwW)
  clear hW hkW hwW hcW
  go_region_held3 (fun w' => w'.cell? ⟨w.heap.size, 0, none⟩ = some (.int .u64 e) ∧ w'.cell? ⟨w.heap.size, 1, none⟩ = some (.int .u64 n))
    (go_keep)
    (first
      | (go_at_call 273; (with_reducible refine (num8 (w.heap.size + 1) _ _ [] e HW0.out (by simp)).mono ?_); rintro e w2 ⟨rfl, hw2, hb2⟩; have hk2 : ∀ o, w2.cell? ⟨w.heap.size, o, none⟩ = _ := fun o => hb2.cell (p := ⟨w.heap.size, o, none⟩) (Nat.lt_succ_self _); have HW2 := Lib.hid hw2; have HB2 := Lib.hid hb2; clear hw2 hb2)
      | (go_at_call 273; (with_reducible refine (num8 (w.heap.size + 1) _ _ _ n HW2.out (by simp [le_length])).mono ?_); rintro e w3 ⟨rfl, hw3, hb3⟩; have hk3 : ∀ o, w3.cell? ⟨w.heap.size, o, none⟩ = _ := fun o => hb3.cell (p := ⟨w.heap.size, o, none⟩) (Nat.lt_succ_self _); have HW3 := Lib.hid hw3; have HB3 := Lib.hid hb3; clear hw3 hb3)
      | (go_at_call 273; (with_reducible refine (num1 (w.heap.size + 1) _ _ _ place HW3.out (by simp [le_length]) (by omega)).mono ?_); rintro e w4 ⟨rfl, hw4, hb4⟩; have hk4 : ∀ o, w4.cell? ⟨w.heap.size, o, none⟩ = _ := fun o => hb4.cell (p := ⟨w.heap.size, o, none⟩) (Nat.lt_succ_self _); have HW4 := Lib.hid hw4; have HB4 := Lib.hid hb4; clear hw4 hb4)
      | (go_at_call 273; (with_reducible refine (num1 (w.heap.size + 1) _ _ _ images HW4.out (by simp [le_length]) (by omega)).mono ?_); rintro e w5 ⟨rfl, hw5, hb5⟩; have hk5 : ∀ o, w5.cell? ⟨w.heap.size, o, none⟩ = _ := fun o => hb5.cell (p := ⟨w.heap.size, o, none⟩) (Nat.lt_succ_self _); have HW5 := Lib.hid hw5; have HB5 := Lib.hid hb5; clear hw5 hb5)
      | (go_at_call 274; (with_reducible refine (bytes_ok _ _ _ _ HW5.out).mono ?_); rintro e w6 ⟨rfl, rfl⟩))
  clear hk2 hk3 hk4 hk5 x0 x1 x2
  go_wp2_with fail
  go_ret
  refine ⟨rfl, (((HCW.out.drew.below HB2.out (by omega)).below HB3.out (by omega)).below HB4.out (by omega)).below HB5.out (by omega)⟩
end Go.Proofs.YtmmnjecaedmleaaGreatDoor

/- rec: Put: contract. -/
namespace Go.Proofs.YtmmnjecaedmleaaGreatDoor
open Go.RowKit
attribute [local go_sem ↓] Go.wp_at_zero Go.wp_at_succ

def recPart (l : List Img) (p : Nat) : Bytes := ((bodyBytes l).drop (42 * p)).take 42
def recSec (e n : Nat) (l : List Img) (p : Nat) : Bytes := stamp (labelBytes e n p l.length ++ recPart l p)
def recN (e n : Nat) (l : List Img) : Nat → Bytes
  | 0 => []
  | k + 1 => recN e n l k ++ recSec e n l k
def recBytes (e n : Nat) (l : List Img) : Bytes := recN e n l (secs l.length)
theorem recSec_length (e n : Nat) (l : List Img) (p : Nat) : (recSec e n l p).length = 64 := stamp_length _ (by simp [labelBytes_length, recPart]; omega)
theorem recN_length (e n : Nat) (l : List Img) (k : Nat) : (recN e n l k).length = 64 * k := by
  induction k with
  | zero => rfl
  | succ k ih => rw [recN, List.length_append, ih, recSec_length]; omega
def recPut (e n : Nat) (l : List Img) : Bytes × Int := if wrongOf e n l ≠ 0 then ([], wrongOf e n l) else (recBytes e n l, 0)

theorem wrong_zero {e n : Nat} {l : List Img} (h : wrongOf e n l = 0) : 0 < e ∧ 0 < n ∧ 1 ≤ l.length ∧ l.length ≤ 60 ∧ (∀ x ∈ l, Img.right x = true) := by
  unfold wrongOf at h
  split at h
  · omega
  · rename_i h1
    unfold wrongL at h
    split at h
    · omega
    · rename_i h2
      split at h
      · omega
      · refine ⟨by omega, by omega, ?_, by omega, ?_⟩
        · cases l with
          | nil => exact absurd (.inr (.inr rfl)) h1
          | cons a l => simp
        · have h2' : allGood l = true := by simpa using h2
          unfold allGood at h2'
          simp only [decide_eq_true_eq] at h2'
          intro x hx
          obtain ⟨i, hi, rfl⟩ := List.getElem_of_mem hx
          have := h2' i hi
          unfold goodAt at this
          rw [List.getElem?_eq_getElem hi] at this
          simp only [Bool.and_eq_true] at this
          exact this.1

set_option maxHeartbeats 1600000 in
set_option maxRecDepth 100000 in
theorem RecPut_no (w : World) (e n : Nat) (v : Value) (l : List Img) (hv : ImgsAt w v l) (hl : l.length ≤ 1000000) (c : Int) (h : wrongOf e n l = c) (hc : c ≠ 0) :
    Calls Tryz.prog 71 #[.agg #[.int .u64 e, .int .u64 n, v]] w fun e' w' => e' = .returned (.tuple #[S [], .int .i64 c]) ∧ Chg No w w' := by
  have HV := Lib.hid hv
  have H := Lib.hid h
  have hc2 : (c != 0) = true := by simpa using hc
  clear hv h hc
  go_enter Tryz.func71, Tryz.ntmps71
  go_wp2_with fail
  refine (wrong_ok e n v l (HV.out.no ((Chg.refl _ _).alloc _)) hl).mono ?_
  rw [H.out]
  rintro e w1 ⟨rfl, hc1⟩
  have HC := Lib.hid (((Chg.refl No w).alloc _).trans_same hc1)
  clear hc1
  go_wp2_with fail
  go_ret2
  exact ⟨rfl, HC.out⟩

set_option maxHeartbeats 3200000 in
set_option maxRecDepth 100000 in
theorem RecPut_go (w : World) (e n : Nat) (g : Option Addr) (c : Nat) (l : List Img) (hv : ImgsAt w (.slice g l.length c) l) (h : wrongOf e n l = 0) :
    Calls Tryz.prog 71 #[.agg #[.int .u64 e, .int .u64 n, .slice g l.length c]] w fun e' w' => e' = .returned (.tuple #[S (recBytes e n l), .int .i64 0]) ∧ Chg No w w' := by
  obtain ⟨h0, h1, h2, h3, h4⟩ := wrong_zero h
  have hbl := bodyBytes_length l (fun y hy => by have := h4 y hy; simp only [Img.right, decide_eq_true_eq] at this; exact this.2.2)
  have HV := Lib.hid hv
  have H := Lib.hid h
  have H4 := Lib.hid h4
  unfold recBytes
  obtain ⟨m, hm⟩ : ∃ m, secs l.length = m := ⟨_, rfl⟩
  have hm60 : 42 * m < 108 * l.length + 42 ∧ m < 256 := by
    rw [← hm, secs, if_pos ⟨h2, h3⟩]
    omega
  rw [hm]
  have HM := Lib.hid hm
  clear hv h h4 hm
  go_enter Tryz.func71, Tryz.ntmps71
  go_wp2_with fail
  refine (wrong_ok e n _ l (HV.out.no ((Chg.refl _ _).alloc _)) (by omega)).mono ?_
  rw [H.out]
  rintro e' w1 ⟨rfl, hc1⟩
  have hk1 := hc1.obj (blk_new w _) id
  obtain ⟨b0, b1, b2, _, _, _⟩ := cells3 hk1
  have HK := Lib.hid hk1
  have HC := Lib.hid (((Chg.refl No w).alloc _).trans_same hc1)
  clear hc1 hk1
  go_wp2_with fail
  refine (body_ok w1 _ l (HV.out.no HC.out) H4.out (by omega)).mono ?_
  rintro e' w2 ⟨rfl, hc2⟩
  have HK2 := Lib.hid (hc2.obj HK.out id)
  have HC2 := Lib.hid (HC.out.trans_same hc2)
  clear b0 b1 b2
  obtain ⟨b0, b1, b2, _, _, _⟩ := cells3 HK2.out
  clear hc2
  go_wp2_with fail
  refine (Sectors_rec _ l.length).mono ?_
  rw [HM.out]
  rintro e' w3 ⟨rfl, rfl⟩
  clear b0 b1 b2
  go_wp2_with fail
  go_loopw [6, 22] (fun o i wr => ∃ k : Nat, k ≤ m ∧ i = .int .i64 k ∧ o = S (recN e n l k) ∧ Hid (wr.heap[w.heap.size]? = some (.cells #[.int .u64 e, .int .u64 n, .slice g l.length c] 62 (0, 0))) ∧ Hid (Chg No w wr)) (fun o i _ => m - (intOf i).toNat)
  case atStart => exact ⟨0, Nat.zero_le _, rfl, rfl, HK2, HC2⟩
  case round =>
    obtain ⟨k, hk, rfl, rfl, HB, HCr⟩ := hrel
    by_cases hlt : k < m
    · obtain ⟨b0, b1, b2, _, _, _⟩ := cells3 HB.out
      have hbz := blk_lt HB.out
      obtain ⟨bd, hbd⟩ : ∃ bd, bodyBytes l = bd := ⟨_, rfl⟩
      rw [hbd] at hbl ⊢
      have s1 : IntKind.i64.wrap ((k : Int) * 42) = (k : Int) * 42 := IntWalk.i64_in _ (by omega)
      have s2 : IntKind.i64.wrap ((k : Int) + 1) = (k : Int) + 1 := IntWalk.i64_in _ (by omega)
      have s3 : IntKind.i64.wrap (((k : Int) + 1) * 42) = ((k : Int) + 1) * 42 := IntWalk.i64_in _ (by omega)
      have sr : ∀ (hi : Nat), hi = min ((k + 1) * 42) bd.length → ∀ wx : World, (Instr.slice 9 (S bd) (some (.int .i64 ((k : Int) * 42))) (some (.int .i64 hi)) none).run Tryz.prog wx = .ok (S (recPart l k)) wx := by
        intro hi hhi wx
        have hpart : (bd.drop (42 * k)).take (hi - 42 * k) = recPart l k := by
          rw [recPart, hbd]
          by_cases hle : (k + 1) * 42 ≤ bd.length
          · rw [show hi - 42 * k = 42 by omega]
          · rw [List.take_of_length_le (by rw [List.length_drop]; omega), List.take_of_length_le (by rw [List.length_drop]; omega)]
        have h := run_slice_string (P := Tryz.prog) wx 9 (.mk bd.toArray) .i64 .i64 ((k : Int) * 42) (hi : Int) (by kernel_rfl) (by omega) (by omega) (by simp [ByteArray.size]; omega)
        rw [show ((k : Int) * 42).toNat = 42 * k by omega, show ((hi : Int)).toNat = hi by omega, ByteArray.extract_mk, hpart] at h
        exact h
      have hll := labelBytes_length e n k l.length
      have hpl : (recPart l k).length ≤ 42 := by unfold recPart; simp; omega
      have HBD := Lib.hid hbd
      have HBL := Lib.hid hbl
      have hbl2 : bd.length ≤ 6480 := by omega
      have HSR := Lib.hid sr
      clear hbd hbl sr
      go_upto_region 8 with (fail)
      go_cut [8, 9] (fun x y wx => x = S (recSec e n l k) ∧ y = .int .i64 0 ∧ Hid (Chg No wr wx))
      case first =>
        obtain ⟨hi, hhi⟩ : ∃ hi, hi = min ((k + 1) * 42) bd.length := ⟨_, rfl⟩
        have s4 : min (((k : Int) + 1) * 42) (bd.length : Int) = hi := by omega
        have sr := HSR.out hi hhi
        have hc1 : ¬ (9223372036854775807 < 18 + (recPart l k).length) := by omega
        have hc2 : 18 + (recPart l k).length ≤ 9223372036854775807 := by omega
        clear hhi
        go_region_held3 (fun w' => w'.cell? ⟨w.heap.size, 0, none⟩ = some (.int .u64 e) ∧ w'.cell? ⟨w.heap.size, 1, none⟩ = some (.int .u64 n) ∧ w'.cell? ⟨w.heap.size, 2, none⟩ = some (.slice g l.length c)) (go_keep)
          (first
            | (go_at_call 201; (with_reducible refine (label_ok _ e n _ k l.length (by omega) (by omega)).mono ?_); rintro e' w3 ⟨rfl, hc3⟩; have hk3 : ∀ o, w3.cell? ⟨w.heap.size, o, none⟩ = wr.cell? ⟨w.heap.size, o, none⟩ := fun o => World.cell?_of_block (hc3.block _ hbz id); have HC3 := Lib.hid hc3; clear hc3)
            | (go_at_call 200; (with_reducible refine (Stamp_ok _ (labelBytes e n k l.length ++ recPart l k) (by rw [List.length_append]; omega)).mono ?_); rintro e' w4 ⟨rfl, hc4⟩; have hk4 : ∀ o, w4.cell? ⟨w.heap.size, o, none⟩ = w3.cell? ⟨w.heap.size, o, none⟩ := fun o => World.cell?_of_block (hc4.block _ (Nat.lt_of_lt_of_le hbz HC3.out.size) id); have HC4 := Lib.hid hc4; clear hc4))
        all_goals (go_wp2_with fail; go_meet)
        all_goals exact ⟨rfl, rfl, Lib.hid ((Chg.refl No wr).drew.trans_same (HC3.out.trans_same HC4.out))⟩
      case rest =>
        obtain ⟨rfl, rfl, HC3⟩ := hcut
        have HB3 := Lib.hid (HC3.out.obj HB.out id)
        have HC4 := Lib.hid (HCr.out.trans_same HC3.out)
        have hl1 := recN_length e n l k
        have hl2 := recSec_length e n l k
        clear b0 b1 b2
        go_wp2_with fail
        exact ⟨⟨k + 1, hlt, by go_num, rfl, HB3, HC4⟩, by simp [intOf]; omega⟩
    · obtain rfl : k = m := by omega
      go_wp2_with fail
      go_ret2
      exact ⟨rfl, HCr.out⟩
end Go.Proofs.YtmmnjecaedmleaaGreatDoor
