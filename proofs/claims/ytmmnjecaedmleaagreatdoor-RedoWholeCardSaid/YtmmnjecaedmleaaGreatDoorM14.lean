import Derived.Test.YtmmnjecaedmleaaGreatDoorM13

/- rec: first: contract. -/
namespace Go.Proofs.YtmmnjecaedmleaaGreatDoor
open Go.RowKit
attribute [local go_sem ↓] Go.wp_at_zero Go.wp_at_succ

def noRec : Value := .agg #[.int .u64 0, .int .u64 0, .slice none 0 0]
/-- What the first sector of a record says: epoch, number, place, how many images. -/
def secHead (s : Bytes) : Nat × Nat × Nat × Nat := (leVal (s.take 8), leVal ((s.drop 8).take 8), leVal (((s.drop 8).drop 8).take 1), leVal ((((s.drop 8).drop 8).drop 1).take 1))
def recFirst (b : Bytes) : Option (Nat × Nat × Nat) :=
  if b.length < 64 then none else if sumOk (b.take 64) = false then none
  else if (secHead ((b.take 64).take 60)).1 = 0 ∨ (secHead ((b.take 64).take 60)).2.1 = 0 ∨ (secHead ((b.take 64).take 60)).2.2.1 ≠ 0 ∨ secs (secHead ((b.take 64).take 60)).2.2.2 = 0 then none
  else some ((secHead ((b.take 64).take 60)).1, (secHead ((b.take 64).take 60)).2.1, (secHead ((b.take 64).take 60)).2.2.2)
def FirstPost (o : Option (Nat × Nat × Nat)) (w : World) (e' : Ending) (w' : World) : Prop :=
  (match o with
   | some (e, n, k) => e' = .returned (.tuple #[.agg #[.int .u64 e, .int .u64 n, .slice none 0 0], .int .i64 k, .int .i64 0])
   | none => ∃ c : Int, c ≠ 0 ∧ e' = .returned (.tuple #[noRec, .int .i64 0, .int .i64 c])) ∧ Chg No w w'

section
variable {w : World}

set_option maxHeartbeats 800000 in
set_option maxRecDepth 100000 in
theorem first_short (b : Bytes) (h : b.length < 64) :
    Calls Tryz.prog 212 #[S b] w (FirstPost none w) := by
  have d0 : decide ((b.length : Int) < 64) = true := by simp only [decide_eq_true_eq]; omega
  clear h
  go_enter Tryz.func212, Tryz.ntmps212
  go_wp2_with fail
  obtain ⟨d0, d1, d2, f0, f1, f2⟩ := cells3 (blk_new w (.cells #[.int .u64 0, .int .u64 0, .slice none 0 0] 62))
  refine bodyPost_ret (v := .tuple #[noRec, .int .i64 0, .int .i64 5]) (by simp [results, Tryz.results212, go_sem, d0, d1, d2, noRec]) rfl ⟨⟨5, by decide, rfl⟩, ?_⟩
  exact (Chg.refl No w).alloc _

set_option maxHeartbeats 800000 in
set_option maxRecDepth 100000 in
theorem first_sum (b : Bytes) (h : 64 ≤ b.length) (hs : sumOk (b.take 64) = false) :
    Calls Tryz.prog 212 #[S b] w (FirstPost none w) := by
  have d0 : decide ((b.length : Int) < 64) = false := by simp only [decide_eq_false_iff_not]; omega
  have h64 : (64 : Int) ≤ (b.length : Int) := by omega
  have hl : (b.take 64).length = 64 := by rw [List.length_take]; omega
  have HS := Lib.hid hs
  have HL := Lib.hid hl
  clear h hs hl
  go_enter Tryz.func212, Tryz.ntmps212
  go_wp2_with fail
  refine (Read_no _ (b.take 64) HL.out HS.out).mono ?_
  rintro e' w1 ⟨rfl, hc1⟩
  obtain ⟨d0, d1, d2, f0, f1, f2⟩ := cells3 (hc1.obj (blk_new w _) id)
  have HC := Lib.hid (((Chg.refl No w).alloc _).trans_same hc1)
  clear hc1
  go_wp2_with fail
  refine bodyPost_ret (v := .tuple #[noRec, .int .i64 0, .int .i64 6]) (by simp [results, Tryz.results212, go_sem, d0, d1, d2, noRec]) rfl ⟨⟨6, by decide, rfl⟩, ?_⟩
  exact HC.out.set3 (.inr (Nat.le_refl _)) _ _ _

set_option maxHeartbeats 1600000 in
set_option maxRecDepth 100000 in
theorem first_head (b : Bytes) (h : 64 ≤ b.length) (hs : sumOk (b.take 64) = true) (e n r t : Nat) (hh : secHead ((b.take 64).take 60) = (e, n, r, t)) :
    Calls Tryz.prog 212 #[S b] w (FirstPost (if e = 0 ∨ n = 0 ∨ r ≠ 0 ∨ secs t = 0 then none else some (e, n, t)) w) := by
  have d0 : decide ((b.length : Int) < 64) = false := by simp only [decide_eq_false_iff_not]; omega
  have h64 : (64 : Int) ≤ (b.length : Int) := by omega
  have hl : (b.take 64).length = 64 := by rw [List.length_take]; omega
  obtain ⟨s, hsd⟩ : ∃ s, s = (b.take 64).take 60 := ⟨_, rfl⟩
  have hsl : s.length = 60 := by rw [hsd, List.length_take]; omega
  rw [← hsd] at hh
  simp only [secHead, Prod.mk.injEq] at hh
  obtain ⟨he, hn, hr, ht⟩ := hh
  have ht256 : t < 256 := by rw [← ht]; exact leVal_take _ 1
  have hr256 : r < 256 := by rw [← hr]; exact leVal_take _ 1
  obtain ⟨o, ho⟩ : ∃ o, (if e = 0 ∨ n = 0 ∨ r ≠ 0 ∨ secs t = 0 then none else some (e, n, t)) = o := ⟨_, rfl⟩
  rw [ho]
  have HO := Lib.hid ho
  have HS := Lib.hid hs
  have HL := Lib.hid hl
  have HSD := Lib.hid hsd
  have HSL := Lib.hid hsl
  have HE := Lib.hid he
  have HN := Lib.hid hn
  have HR := Lib.hid hr
  have HT := Lib.hid ht
  clear h hs hl ho hsd hsl he hn hr ht
  go_enter Tryz.func212, Tryz.ntmps212
  go_wp2_with fail
  refine (Read_yes _ (b.take 64) HL.out HS.out).mono ?_
  rintro e' w1 ⟨rfl, hc1⟩
  rw [← HSD.out]
  have HK := Lib.hid (hc1.obj (blk_new w _) id)
  have HC := Lib.hid (((Chg.refl No w).alloc _).trans_same hc1)
  clear hc1
  go_wp2_with fail
  refine (NewReader_ok _ s (by rw [HSL.out]; omega)).mono ?_
  rintro e' w2 ⟨rb, rfl, hrb, hr2, hc2⟩
  have HK2 := Lib.hid (hc2.obj HK.out id)
  have HC2 := Lib.hid (HC.out.trans_no hc2)
  have hlt : w.heap.size < rb := by have := blk_lt HK.out; omega
  have HR2 := Lib.hid hr2
  clear hc2 hr2
  go_wp2_with fail
  refine (rnum8 _ _ s (by rw [HSL.out]; omega) HR2.out (by rw [HSL.out]; omega)).mono ?_
  rintro e' w3 ⟨rfl, hr3, hc3⟩
  rw [HE.out]
  go_wp2_with fail
  refine (rnum8 _ _ (s.drop 8) (by rw [List.length_drop, HSL.out]; omega) hr3 (by rw [List.length_drop, HSL.out]; omega)).mono ?_
  rintro e' w4 ⟨rfl, hr4, hc4⟩
  rw [HN.out]
  have hk4 := hc4.obj (hc3.obj HK2.out (by omega)) (by omega)
  have hC4 : Chg No w w4 := (HC2.out.trans hc3 (fun x hx => .inr (by omega))).trans hc4 (fun x hx => .inr (by omega))
  have HK4 := Lib.hid hk4
  have HC4 := Lib.hid hC4
  have HR4 := Lib.hid hr4
  clear hr3 hc3 hr4 hc4 hk4 hC4
  go_wp2_with fail
  refine (rnum1 _ _ ((s.drop 8).drop 8) (by rw [List.length_drop, List.length_drop, HSL.out]; omega) (blk_alloc _ HR4.out) (by rw [List.length_drop, List.length_drop, HSL.out]; omega)).mono ?_
  rintro e' w5 ⟨rfl, hr5, hc5⟩
  rw [HR.out]
  go_wp2_with fail
  refine (rnum1 _ _ (((s.drop 8).drop 8).drop 1) (by rw [List.length_drop, List.length_drop, List.length_drop, HSL.out]; omega) hr5 (by rw [List.length_drop, List.length_drop, List.length_drop, HSL.out]; omega)).mono ?_
  rintro e' w6 ⟨rfl, hr6, hc6⟩
  rw [HT.out]
  have hrb4 : rb < w4.heap.size := blk_lt HR4.out
  have hk6 := hc6.obj (hc5.obj (blk_alloc (.cells #[.int .u64 e, .int .u64 n, .slice none 0 0] 62) HK4.out) (by omega)) (by omega)
  have hx6 := hc6.obj (hc5.obj (blk_new w4 (.cells #[.int .u64 e, .int .u64 n, .slice none 0 0] 62)) (by omega)) (by omega)
  have hC6 : Chg No w w6 := ((HC4.out.alloc _).trans hc5 (fun x hx => .inr (by omega))).trans hc6 (fun x hx => .inr (by omega))
  obtain ⟨d1, d2, d3, f1, f2, f3⟩ := cells3 hk6
  obtain ⟨g1, g2, g3, _, _, _⟩ := cells3 hx6
  have HC6 := Lib.hid hC6
  have hwz : w.heap.size < w4.heap.size := by omega
  have hw6 : w.heap.size < w6.heap.size := blk_lt hk6
  have hw46 : w4.heap.size < w6.heap.size := blk_lt hx6
  have ht64 : IntKind.i64.wrap (t : Int) = t := IntWalk.i64_in _ (by omega)
  clear hr5 hr6 hc5 hc6 hk6 hx6 hC6
  by_cases e0 : e = 0
  · have q0 : ((e : Int) == 0) = true := by simp; omega
    have E0 := Lib.hid e0
    clear e0
    go_wp2_with fail
    refine bodyPost_ret (v := .tuple #[noRec, .int .i64 0, .int .i64 4]) (by simp [results, Tryz.results212, go_sem, d1, d2, d3, noRec]) rfl ?_
    rw [← HO.out, if_pos (.inl E0.out)]
    exact ⟨⟨4, by decide, rfl⟩, HC6.out.set3 (.inr (Nat.le_refl _)) _ _ _⟩
  · have q0 : ((e : Int) == 0) = false := by simp; omega
    have E0 := Lib.hid e0
    clear e0
    by_cases n0 : n = 0
    · have q1 : ((n : Int) == 0) = true := by simp; omega
      have N0 := Lib.hid n0
      clear n0
      go_wp2_with fail
      refine bodyPost_ret (v := .tuple #[noRec, .int .i64 0, .int .i64 4]) (by simp [results, Tryz.results212, go_sem, d1, d2, d3, noRec]) rfl ?_
      rw [← HO.out, if_pos (.inr (.inl N0.out))]
      exact ⟨⟨4, by decide, rfl⟩, HC6.out.set3 (.inr (Nat.le_refl _)) _ _ _⟩
    · have q1 : ((n : Int) == 0) = false := by simp; omega
      have N0 := Lib.hid n0
      clear n0
      by_cases r0 : r = 0
      · have q2 : ((r : Int) != 0) = false := by simp; omega
        have R0 := Lib.hid r0
        clear r0
        obtain ⟨k, hk⟩ : ∃ k, secs t = k := ⟨_, rfl⟩
        have HKs := Lib.hid hk
        by_cases k0 : k = 0
        · have q3 : ((k : Int) == 0) = true := by simp; omega
          have K0 := Lib.hid k0
          clear k0 hk
          go_wp2_with fail
          refine (Sectors_rec _ t).mono ?_
          rw [HKs.out]
          rintro e' w7 ⟨rfl, rfl⟩
          go_wp2_with fail
          refine bodyPost_ret (v := .tuple #[noRec, .int .i64 0, .int .i64 4]) (by simp [results, Tryz.results212, go_sem, d1, d2, d3, noRec]) rfl ?_
          rw [← HO.out, if_pos (.inr (.inr (.inr (HKs.out.trans K0.out))))]
          exact ⟨⟨4, by decide, rfl⟩, HC6.out.set3 (.inr (Nat.le_refl _)) _ _ _⟩
        · have q3 : ((k : Int) == 0) = false := by simp; omega
          have K0 := Lib.hid k0
          clear k0 hk
          go_wp2_with fail
          refine (Sectors_rec _ t).mono ?_
          rw [HKs.out]
          rintro e' w7 ⟨rfl, rfl⟩
          go_wp2_with fail
          refine bodyPost_ret (v := .tuple #[.agg #[.int .u64 e, .int .u64 n, .slice none 0 0], .int .i64 t, .int .i64 0]) (by simp [results, Tryz.results212, go_sem, d1, d2, d3]) rfl ?_
          rw [← HO.out, if_neg (by rintro (h | h | h | h); exact E0.out h; exact N0.out h; exact h R0.out; exact K0.out (HKs.out.symm.trans h))]
          exact ⟨rfl, HC6.out.set3 (.inr (Nat.le_refl _)) _ _ _⟩
      · have q2 : ((r : Int) != 0) = true := by simp; omega
        have R0 := Lib.hid r0
        clear r0
        go_wp2_with fail
        refine bodyPost_ret (v := .tuple #[noRec, .int .i64 0, .int .i64 4]) (by simp [results, Tryz.results212, go_sem, d1, d2, d3, noRec]) rfl ?_
        rw [← HO.out, if_pos (.inr (.inr (.inl R0.out)))]
        exact ⟨⟨4, by decide, rfl⟩, HC6.out.set3 (.inr (Nat.le_refl _)) _ _ _⟩

theorem first_ok (b : Bytes) : Calls Tryz.prog 212 #[S b] w (FirstPost (recFirst b) w) := by
  unfold recFirst
  by_cases h : b.length < 64
  · rw [if_pos h]; exact first_short b h
  · rw [if_neg h]
    cases hs : sumOk (b.take 64)
    · rw [if_pos rfl]; exact first_sum b (by omega) hs
    · rw [if_neg (by decide)]
      exact first_head b (by omega) hs _ _ _ _ rfl
end
end Go.Proofs.YtmmnjecaedmleaaGreatDoor

/- rec: images: contract. -/
namespace Go.Proofs.YtmmnjecaedmleaaGreatDoor
open Go.RowKit
attribute [local go_sem ↓] Go.wp_at_zero Go.wp_at_succ

theorem el_img : Elem Tryz.prog 54 38 (.agg #[.int .i64 0, .int .u64 0, S []]) 3 32 := .mk' (by kernel_rfl) (by kernel_rfl) rfl (by omega)

def partAt (b : Bytes) (i : Nat) : Bytes := (b.drop (108 * i)).take 108
def imgAt (b : Bytes) (i : Nat) : Img := ⟨leVal ((partAt b i).take 4), leVal (((partAt b i).drop 4).take 8), (partAt b i).drop 12⟩
def imgsN (b : Bytes) : Nat → List Img
  | 0 => []
  | k + 1 => imgsN b k ++ [imgAt b k]
theorem imgsN_length (b : Bytes) (k : Nat) : (imgsN b k).length = k := by
  induction k with
  | zero => rfl
  | succ k ih => rw [imgsN, List.length_append, ih]; rfl

set_option maxHeartbeats 3200000 in
set_option maxRecDepth 100000 in
theorem images_ok (w : World) (b : Bytes) (n : Nat) (hn : n ≤ 60) (hb : 108 * n ≤ b.length) (hb2 : b.length ≤ 1000000) :
    Calls Tryz.prog 214 #[S b, .int .i64 n] w fun e' w' => ∃ v, e' = .returned v ∧ w'.ownsRow w.heap.size 38 3 v n ((imgsN b n).flatMap Img.cells) ∧ Chg No w w' := by
  go_enter Tryz.func214, Tryz.ntmps214
  go_wp2_with fail
  go_loopw [5, 10] (fun v i wr => ∃ k : Nat, k ≤ n ∧ i = .int .i64 k ∧ Hid (wr.ownsRow w.heap.size 38 3 v k ((imgsN b k).flatMap Img.cells)) ∧ Hid (Chg No w wr)) (fun v i _ => n - (intOf i).toNat)
  case atStart => exact ⟨0, Nat.zero_le _, rfl, Lib.hid (World.ownsRow_nil _ _ _ _), Lib.hid (Chg.refl _ _)⟩
  case round =>
    obtain ⟨k, hk, rfl, HO, HC⟩ := hrel
    by_cases hlt : k < n
    · have s1 : IntKind.i64.wrap ((k : Int) * 108) = (k : Int) * 108 := IntWalk.i64_in _ (by omega)
      have s2 : IntKind.i64.wrap ((k : Int) + 1) = (k : Int) + 1 := IntWalk.i64_in _ (by omega)
      have s3 : IntKind.i64.wrap (((k : Int) + 1) * 108) = ((k : Int) + 1) * 108 := IntWalk.i64_in _ (by omega)
      obtain ⟨p, hp⟩ : ∃ p, partAt b k = p := ⟨_, rfl⟩
      have hpl : p.length = 108 := by rw [← hp, partAt, List.length_take, List.length_drop]; omega
      have sr : ∀ wx : World, (Instr.slice 9 (S b) (some (.int .i64 ((k : Int) * 108))) (some (.int .i64 (((k : Int) + 1) * 108))) none).run Tryz.prog wx = .ok (S p) wx := by
        intro wx
        have h := run_slice_string (P := Tryz.prog) wx 9 (.mk b.toArray) .i64 .i64 ((k : Int) * 108) (((k : Int) + 1) * 108) (by kernel_rfl) (by omega) (by omega) (by simp [ByteArray.size]; omega)
        rw [show ((k : Int) * 108).toNat = 108 * k by omega, show (((k : Int) + 1) * 108).toNat = 108 * k + 108 by omega, ByteArray.extract_mk, show 108 * k + 108 - 108 * k = 108 by omega] at h
        rw [← hp]
        exact h
      have HP := Lib.hid hp
      clear hp
      go_wp2_with fail
      refine (NewReader_ok _ p (by omega)).mono ?_
      rintro e' w2 ⟨rb, rfl, hrb, hr2, hc2⟩
      have HO2 := Lib.hid (hc2.row HO.out (fun _ _ => id))
      have HC2 := Lib.hid (HC.out.trans_no hc2)
      have HOL := Lib.hid (show ∀ j, u5.ownBlock = some j → j < wr.heap.size from fun j hj => (HO.out.lt j hj).2)
      have HR2 := Lib.hid hr2
      have HRB := Lib.hid (blk_lt hr2)
      have hzw : w.heap.size ≤ wr.heap.size := HC.out.size
      clear hc2 hr2 HO HC sr
      obtain ⟨bk, hbk⟩ : ∃ bk, leVal (p.take 4) = bk := ⟨_, rfl⟩
      obtain ⟨ver, hver⟩ : ∃ ver, leVal ((p.drop 4).take 8) = ver := ⟨_, rfl⟩
      have hb32 : bk < 4294967296 := by rw [← hbk]; exact leVal_take _ 4
      have hbk64 : IntKind.i64.wrap (bk : Int) = bk := IntWalk.i64_in _ (by omega)
      have HBK := Lib.hid hbk
      have HVER := Lib.hid hver
      have sd : ∀ wx : World, (Instr.slice 9 (S p) (some (.int .i64 12)) none none).run Tryz.prog wx = .ok (S (p.drop 12)) wx := by
        intro wx
        have h := run_slice_string_l (P := Tryz.prog) (w := wx) (t := 9) (s := .mk p.toArray) (by kernel_rfl) .i64 12 (by omega) (by simp [ByteArray.size]; omega)
        rw [ByteArray.extract_mk] at h
        rw [List.take_of_length_le (by simp [ByteArray.size])] at h
        exact h
      have hpd : (p.drop 12).length = 96 := by rw [List.length_drop]; omega
      clear hbk hver
      have HRD := Lib.hid (show ReaderAt w2.drew rb p from HR2.out)
      have HOD := Lib.hid (show w2.drew.ownsRow w.heap.size 38 3 u5 k ((imgsN b k).flatMap Img.cells) from HO2.out.drew)
      have hrbo : u5.ownBlock ≠ some rb := fun e => by have := HOL.out rb e; omega
      go_wp2_with fail
      go_region_held3 (fun _ => True) (trivial) (first
        | (go_at_call 269; (with_reducible refine (rnum4 _ rb p (by omega) HRD.out (by omega)).mono ?_); rintro e' w3 ⟨rfl, hr3, hc3⟩; have HR3 := Lib.hid hr3; have HC3 := Lib.hid hc3; clear hr3 hc3; rw [HBK.out])
        | (go_at_call 269; (with_reducible refine (rnum8 _ rb (p.drop 4) (by rw [List.length_drop]; omega) HR3.out (by rw [List.length_drop]; omega)).mono ?_); rintro e' w4 ⟨rfl, hr4, hc4⟩; have HC4 := Lib.hid hc4; clear hr4 hc4; rw [HVER.out])
        | (go_at_call 87; (with_reducible refine (clone_ok _ (p.drop 12) (by omega)).mono ?_); rintro e' w5 ⟨rfl, hc5⟩; have HO5 := Lib.hid (hc5.row (HC4.out.row (HC3.out.row HOD.out (fun j hj e => hrbo (e ▸ hj))) (fun j hj e => hrbo (e ▸ hj))) (fun _ _ => id)); have HC5 := Lib.hid hc5; clear hc5)
        | ((refine stepL_app el_img _ _ (by rfl) (by rfl) w.heap.size u5 _ _ (by rfl) (HO5.out.alloc _) w5.heap.size 1 1 (Img.cells ⟨bk, ver, p.drop 12⟩) _ _ (by rfl) (heap_alloc_new w5 _) (by rfl) (by simp [Img.cells, Value.oneCell']) (by omega) (by omega) (by omega) (by have h2 := HC2.out.size; have h3 := HC3.out.size; have h4 := HC4.out.size; have h5 := HC5.out.size; simp at h3 ⊢; omega) (w5.heap.size + 1) (by simp) ?_); intro gg cap w6 hown6 hgrow hgat hglt))
      have hC6 : Chg No w w6 := by
        have h5 : Chg No w w5 := (((HC2.out.drew).trans HC3.out (fun x hx => .inr (by omega))).trans HC4.out (fun x hx => .inr (by omega))).trans_same HC5.out
        exact (h5.alloc _).grown hgrow (fun j hj => .inr (HO5.out.lt j hj).1)
      have HC6 := Lib.hid hC6
      have HO6 := Lib.hid hown6
      have HPX := Lib.hid (show imgAt b k = ⟨bk, ver, p.drop 12⟩ by rw [imgAt, HP.out, HBK.out, HVER.out])
      clear hown6 hgrow hgat hC6 sd
      go_wp2_with fail
      refine ⟨⟨k + 1, hlt, by go_num, Lib.hid ?_, HC6⟩, by simp [intOf]; omega⟩
      rw [imgsN, List.flatMap_append, List.flatMap_singleton, HPX.out]
      exact HO6.out
    · obtain rfl : k = n := by omega
      go_wp2_with fail
      go_ret
      exact ⟨_, rfl, HO.out, HC.out⟩
end Go.Proofs.YtmmnjecaedmleaaGreatDoor

/- rec: Get: contract. -/
namespace Go.Proofs.YtmmnjecaedmleaaGreatDoor
open Go.RowKit
attribute [local go_sem ↓] Go.wp_at_zero Go.wp_at_succ

theorem set3_blk {w : World} {b : Nat} {p q r : Value} {T : TypeId} (h : w.heap[b]? = some (.cells #[p, q, r] T (0, 0))) (x y z : Value) :
    (((w.setCell ⟨b, 0, none⟩ x).setCell ⟨b, 1, none⟩ y).setCell ⟨b, 2, none⟩ z).heap[b]? = some (.cells #[x, y, z] T (0, 0)) := blk_set (blk_set (blk_set h 0 x) 1 y) 2 z

theorem RecPut_ok (w : World) (e n : Nat) (v : Value) (l : List Img) (hv : ImgsAt w v l) (hl : l.length ≤ 1000000) :
    Calls Tryz.prog 71 #[.agg #[.int .u64 e, .int .u64 n, v]] w fun e' w' => e' = .returned (.tuple #[S (recPut e n l).1, .int .i64 (recPut e n l).2]) ∧ Chg No w w' := by
  unfold recPut
  by_cases h : wrongOf e n l = 0
  · rw [if_neg (by simp [h])]
    have h1 := (wrong_zero h).2.2.1
    rcases id hv with ⟨a, c, rfl, rfl⟩ | ⟨g, off, c, rfl, _⟩
    · simp at h1
    · exact RecPut_go w e n _ c l hv h
  · rw [if_pos h]
    exact RecPut_no w e n v l hv hl _ rfl h

def secOf (b : Bytes) (p : Nat) : Bytes := (b.drop (64 * p)).take 64
def secOk (b : Bytes) (e n t p : Nat) : Bool := sumOk (secOf b p) && (((secOf b p).take 60).take 18 == labelBytes e n p t)
def bodyN (b : Bytes) : Nat → Bytes
  | 0 => []
  | k + 1 => bodyN b k ++ ((secOf b k).take 60).drop 18
theorem bodyN_length (b : Bytes) (k : Nat) (h : 64 * k ≤ b.length) : (bodyN b k).length = 42 * k := by
  induction k with
  | zero => rfl
  | succ k ih =>
    rw [bodyN, List.length_append, ih (by omega)]
    simp [secOf]
    omega
def allSecs (b : Bytes) (e n t m : Nat) : Bool := decide (∀ p, p < m → secOk b e n t p = true)
def recGetT (b : Bytes) (e n t : Nat) : Option (Nat × Nat × List Img × Nat) :=
  if b.length < 64 * secs t then none else if allSecs b e n t (secs t) = false then none
  else if recPut e n (imgsN (bodyN b (secs t)) t) = (b.take (64 * secs t), 0) then some (e, n, imgsN (bodyN b (secs t)) t, secs t) else none
def recGet (b : Bytes) : Option (Nat × Nat × List Img × Nat) := match recFirst b with
  | none => none
  | some (e, n, t) => recGetT b e n t
def RecPost (o : Option (Nat × Nat × List Img × Nat)) (w : World) (e' : Ending) (w' : World) : Prop :=
  (match o with
   | some (e, n, l, k) => ∃ v, e' = .returned (.tuple #[.agg #[.int .u64 e, .int .u64 n, v], .int .i64 k, .int .i64 0]) ∧ w'.ownsRow w.heap.size 38 3 v l.length (l.flatMap Img.cells)
   | none => ∃ c : Int, c ≠ 0 ∧ e' = .returned (.tuple #[noRec, .int .i64 0, .int .i64 c])) ∧ Chg No w w'

section
variable {w : World}
set_option maxHeartbeats 800000 in
set_option maxRecDepth 100000 in
theorem RecGet_no (b : Bytes) (h : recFirst b = none) : Calls Tryz.prog 85 #[S b] w (RecPost none w) := by
  have H := Lib.hid h
  clear h
  go_enter Tryz.func85, Tryz.ntmps85
  go_wp2_with fail
  refine (first_ok b).mono ?_
  rw [H.out]
  rintro e' w1 ⟨⟨c, hc0, rfl⟩, hc1⟩
  have q0 : (c != 0) = true := by simpa using hc0
  have hk1 := hc1.obj (blk_new w _) id
  obtain ⟨d0, d1, d2, f0, f1, f2⟩ := cells3 hk1
  have hwz := World.block_lt_of_cell? w1 _ d0
  have HK1 := Lib.hid hk1
  clear hk1
  have hwn : w.heap.size ≠ w1.heap.size := by simp at hwz; omega
  have HC := Lib.hid (((Chg.refl No w).alloc _).trans_same hc1)
  have HC0 := Lib.hid hc0
  unfold noRec
  clear hc1 hc0
  go_wp2_with fail
  obtain ⟨e0, e1, e2, _, _, _⟩ := cells3 (blk_alloc (.cells #[.int .u64 0, .int .u64 0, .slice none 0 0] 62) (set3_blk HK1.out (.int .u64 0) (.int .u64 0) (.slice none 0 0)))
  refine bodyPost_ret (v := .tuple #[noRec, .int .i64 0, .int .i64 c]) (by simp [results, Tryz.results85, go_sem, e0, e1, e2, noRec]) rfl ⟨⟨c, HC0.out, rfl⟩, ?_⟩
  exact (HC.out.set3 (.inr (Nat.le_refl _)) _ _ _).alloc _
end
end Go.Proofs.YtmmnjecaedmleaaGreatDoor
