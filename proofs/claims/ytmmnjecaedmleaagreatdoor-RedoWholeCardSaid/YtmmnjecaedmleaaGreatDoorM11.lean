import Derived.Test.YtmmnjecaedmleaaGreatDoorM10

/- block.Store, block.Load: contracts. -/
namespace Go.Proofs.YtmmnjecaedmleaaGreatDoor
open Go.RowKit
attribute [local go_sem ↓] Go.wp_at_zero Go.wp_at_succ

def Dk.store (D : Dk) (s : Sh) (node : Int) (epoch : Nat) (i : Img) : Int × Dk :=
  if (s.blockAt i.block).2 ≠ 0 then ((s.blockAt i.block).2, D) else if i.right = false then (1, D) else D.write node epoch (s.blockAt i.block).1 (blkBytes i)
def Dk.load (D : Dk) (s : Sh) (blk : Int) : Img × Int :=
  if (s.blockAt blk).2 ≠ 0 then (⟨0, 0, []⟩, (s.blockAt blk).2) else if (D.read (s.blockAt blk).1 2).2 ≠ 0 then (⟨0, 0, []⟩, (D.read (s.blockAt blk).1 2).2) else blkGet blk (D.read (s.blockAt blk).1 2).1

theorem read_length {D : Dk} (hs : D.Sized) (at_ n : Int) (h : (D.read at_ n).2 = 0) : (D.read at_ n).1.length = 64 * n.toNat := by
  unfold Dk.read at h ⊢
  split at h
  · simp at h
  · split at h
    · simp at h
    · rw [if_neg ‹_›, if_neg ‹_›]
      exact readB_length hs _ _

section
variable {w : World} {b : Nat} {D : Dk} {F : Nat → Prop}

theorem Put_any (w : World) (i : Img) : Calls Tryz.prog 68 #[i.val] w fun e w' => e = .returned (.tuple #[S (if i.right then blkBytes i else []), .int .i64 (if i.right then 0 else 1)]) ∧ Chg No w w' := by
  cases hr : i.right
  · exact Put_no w i hr
  · obtain ⟨b, v, d⟩ := i
    simp only [Img.right, decide_eq_true_eq] at hr
    obtain ⟨n, rfl⟩ := Int.eq_ofNat_of_zero_le hr.1
    exact Put_ok w n v d (by omega) hr.2.2

set_option maxHeartbeats 800000 in
set_option maxRecDepth 100000 in
theorem Store_ok {s : Sh} (hs : s.Ok) (h : DiskAt w b D F) (hf : D.Fit) (node : Int) (epoch : Nat) (i : Img) :
    Calls Tryz.prog 14 #[.pointer (some ⟨b, 0, none⟩), s.val, .int .i64 node, .int .u64 epoch, i.val] w fun e w' => e = .returned (.int .i64 (D.store s node epoch i).1) ∧ St F w w' b (D.store s node epoch i).2 := by
  have hval : s.val = .agg #[.int .i64 s.nodes, .int .i64 s.blocks, .int .i64 s.log, .int .i64 s.cache, .int .i64 s.lease] := rfl
  have H0 := Lib.hid h
  have HF := Lib.hid hf
  have HS := Lib.hid hs
  unfold Dk.store
  obtain ⟨e1, he1⟩ : ∃ e1, s.blockAt i.block = e1 := ⟨_, rfl⟩
  obtain ⟨at_, e1⟩ := e1
  rw [he1]
  by_cases hz : e1 = 0
  · subst hz
    rw [if_neg (by simp)]
    by_cases hr : i.right = false
    · rw [if_pos hr]
      have HE1 := Lib.hid he1
      have HRr := Lib.hid hr
      rw [hval]
      obtain ⟨ib, iv, id_⟩ := i
      unfold Img.val
      clear h hf hs hval he1 hr
      go_enter Tryz.func14, Tryz.ntmps14
      go_wp2_with fail
      refine (BlockAt_ok _ HS.out _).mono ?_
      rw [HE1.out]
      rintro e w1 ⟨rfl, hc1⟩
      have hC1 : Chg No w w1 := (((Chg.refl No w).alloc _).alloc _).trans_same hc1
      have hk1 := hc1.obj (blk_new _ _) id
      rw [World.size_alloc] at hk1
      obtain ⟨c0, c1, c2, _, _, _⟩ := cells3 hk1
      have HC1 := Lib.hid hC1
      clear hc1 hC1 hk1
      go_wp2_with fail
      refine (Put_any _ ⟨ib, iv, id_⟩).mono ?_
      rw [HRr.out]
      rintro e w2 ⟨rfl, hc2⟩
      have HC2 := Lib.hid (HC1.out.trans_same hc2)
      clear hc2
      go_wp2_with fail
      go_ret
      exact ⟨rfl, (St.refl H0.out).no HC2.out⟩
    · have hr' : i.right = true := by simpa using hr
      rw [if_neg hr]
      have HE1 := Lib.hid he1
      have HRr := Lib.hid hr'
      have HBL := Lib.hid (blkBytes_length i (by simp only [Img.right, decide_eq_true_eq] at hr'; exact hr'.2.2))
      obtain ⟨bb, hbb⟩ : ∃ bb, blkBytes i = bb := ⟨_, rfl⟩
      rw [hbb]
      have HBB := Lib.hid hbb
      rw [hval]
      obtain ⟨ib, iv, id_⟩ := i
      unfold Img.val
      clear h hf hs hval he1 hr hr' hbb
      go_enter Tryz.func14, Tryz.ntmps14
      go_wp2_with fail
      refine (BlockAt_ok _ HS.out _).mono ?_
      rw [HE1.out]
      rintro e w1 ⟨rfl, hc1⟩
      have hC1 : Chg No w w1 := (((Chg.refl No w).alloc _).alloc _).trans_same hc1
      have hk1 := hc1.obj (blk_new _ _) id
      rw [World.size_alloc] at hk1
      obtain ⟨c0, c1, c2, _, _, _⟩ := cells3 hk1
      have HC1 := Lib.hid hC1
      clear hc1 hC1 hk1
      go_wp2_with fail
      refine (Put_any _ ⟨ib, iv, id_⟩).mono ?_
      rw [HRr.out, HBB.out]
      rintro e w2 ⟨rfl, hc2⟩
      have HC2 := Lib.hid (HC1.out.trans_same hc2)
      clear hc2
      go_wp2_with fail
      have hbl := HBL.out
      rw [HBB.out] at hbl
      refine (Write_ok ((St.refl H0.out).no HC2.out).1 HF.out node epoch at_ bb (by omega)).mono ?_
      rintro e w3 ⟨rfl, hd3, hc3⟩
      have H3 := Lib.hid (((St.refl H0.out).no HC2.out).next hd3 hc3)
      clear hd3 hc3 hbl
      go_wp2_with fail
      go_ret
      exact ⟨rfl, H3.out⟩
  · rw [if_pos hz]
    have hz2 : (e1 != 0) = true := by simpa using hz
    have HE1 := Lib.hid he1
    rw [hval]
    obtain ⟨ib, iv, id_⟩ := i
    unfold Img.val
    clear h hf hs hval he1 hz
    go_enter Tryz.func14, Tryz.ntmps14
    go_wp2_with fail
    refine (BlockAt_ok _ HS.out _).mono ?_
    rw [HE1.out]
    rintro e w1 ⟨rfl, hc1⟩
    have hC1 : Chg No w w1 := (((Chg.refl No w).alloc _).alloc _).trans_same hc1
    have HC1 := Lib.hid hC1
    clear hc1 hC1
    go_wp2_with fail
    go_ret
    exact ⟨rfl, (St.refl H0.out).no HC1.out⟩

set_option maxHeartbeats 1600000 in
set_option maxRecDepth 100000 in
theorem LoadB_ok {s : Sh} (hs : s.Ok) (h : DiskAt w b D F) (hf : D.Fit) (hsd : D.Sized) (blk : Int) :
    Calls Tryz.prog 21 #[.pointer (some ⟨b, 0, none⟩), s.val, .int .i64 blk] w fun e w' => e = .returned (.tuple #[(D.load s blk).1.val, .int .i64 (D.load s blk).2]) ∧ Chg No w w' := by
  have hval : s.val = .agg #[.int .i64 s.nodes, .int .i64 s.blocks, .int .i64 s.log, .int .i64 s.cache, .int .i64 s.lease] := rfl
  have H0 := Lib.hid h
  have HF := Lib.hid hf
  have HS := Lib.hid hs
  have HSD := Lib.hid hsd
  unfold Dk.load
  obtain ⟨e1, he1⟩ : ∃ e1, s.blockAt blk = e1 := ⟨_, rfl⟩
  obtain ⟨at_, e1⟩ := e1
  rw [he1]
  by_cases hz : e1 = 0
  · subst hz
    rw [if_neg (by simp)]
    obtain ⟨e2, he2⟩ : ∃ e2, D.read at_ 2 = e2 := ⟨_, rfl⟩
    have hrl := read_length hsd at_ 2
    rw [he2] at hrl ⊢
    obtain ⟨bb, e2⟩ := e2
    by_cases hz2 : e2 = 0
    · subst hz2
      rw [if_neg (by simp)]
      obtain ⟨ri, hri⟩ : ∃ ri, blkGet blk bb = ri := ⟨_, rfl⟩
      rw [hri]
      obtain ⟨⟨ib, iv, id_⟩, ie⟩ := ri
      have HE1 := Lib.hid he1
      have HE2 := Lib.hid he2
      have HRI := Lib.hid hri
      have HRL := Lib.hid (show bb.length = 128 from hrl rfl)
      rw [hval]
      clear h hf hs hval he1 hsd hrl he2 hri
      go_enter Tryz.func21, Tryz.ntmps21
      go_wp2_with fail
      refine (BlockAt_ok _ HS.out _).mono ?_
      rw [HE1.out]
      rintro e w1 ⟨rfl, hc1⟩
      have hC1 : Chg No w w1 := (((Chg.refl No w).alloc _).alloc _).trans_same hc1
      have hk1 := hc1.obj (blk_new _ _) id
      rw [World.size_alloc] at hk1
      have HC1 := Lib.hid hC1
      have HK1 := Lib.hid hk1
      clear hc1 hC1 hk1
      go_wp2_with fail
      refine (Read_ok (H0.out.no' HC1.out) HF.out HSD.out _ _).mono ?_
      rw [HE2.out]
      rintro e w2 ⟨rfl, hc2⟩
      have HC2 := Lib.hid (HC1.out.trans_same hc2)
      have HK2 := Lib.hid (hc2.obj HK1.out id)
      clear hc2
      go_wp2_with fail
      refine (Get_ok _ blk bb HRL.out).mono ?_
      rintro e w3 ⟨rfl, hc3⟩
      rw [HRI.out]
      have hk3 := hc3.obj HK2.out id
      obtain ⟨d0, d1, d2, f0, f1, f2⟩ := cells3 hk3
      have HC3 := Lib.hid (HC2.out.trans_same hc3)
      unfold Img.val
      clear hc3 hk3
      go_wp2_with fail
      refine bodyPost_ret (v := .tuple #[.agg #[.int .i64 ib, .int .u64 iv, S id_], .int .i64 ie]) ?_ rfl ⟨rfl, ?_⟩
      · simp [results, Tryz.results21, go_sem, d0, d1, d2]
      · exact ((HC3.out.setCell (p := ⟨w.heap.size + 1, 0, none⟩) (.inr (Nat.le_succ _)) _).setCell (p := ⟨w.heap.size + 1, 1, none⟩) (.inr (Nat.le_succ _)) _).setCell (p := ⟨w.heap.size + 1, 2, none⟩) (.inr (Nat.le_succ _)) _
    · rw [if_pos hz2]
      have hz3 : (e2 != 0) = true := by simpa using hz2
      have HE1 := Lib.hid he1
      have HE2 := Lib.hid he2
      rw [hval]
      clear h hf hs hval he1 hsd hrl he2 hz2
      go_enter Tryz.func21, Tryz.ntmps21
      go_wp2_with fail
      refine (BlockAt_ok _ HS.out _).mono ?_
      rw [HE1.out]
      rintro e w1 ⟨rfl, hc1⟩
      have hC1 : Chg No w w1 := (((Chg.refl No w).alloc _).alloc _).trans_same hc1
      have hk1 := hc1.obj (blk_new _ _) id
      rw [World.size_alloc] at hk1
      have HC1 := Lib.hid hC1
      have HK1 := Lib.hid hk1
      clear hc1 hC1 hk1
      go_wp2_with fail
      refine (Read_ok (H0.out.no' HC1.out) HF.out HSD.out _ _).mono ?_
      rw [HE2.out]
      rintro e w2 ⟨rfl, hc2⟩
      have hk2 := hc2.obj HK1.out id
      obtain ⟨d0, d1, d2, f0, f1, f2⟩ := cells3 hk2
      have HC2 := Lib.hid (HC1.out.trans_same hc2)
      clear hc2 hk2
      go_wp2_with fail
      refine bodyPost_ret (v := .tuple #[(⟨0, 0, []⟩ : Img).val, .int .i64 e2]) ?_ rfl ⟨rfl, ?_⟩
      · simp [results, Tryz.results21, go_sem, d0, d1, d2, Img.val]
      · exact ((HC2.out.setCell (p := ⟨w.heap.size + 1, 0, none⟩) (.inr (Nat.le_succ _)) _).setCell (p := ⟨w.heap.size + 1, 1, none⟩) (.inr (Nat.le_succ _)) _).setCell (p := ⟨w.heap.size + 1, 2, none⟩) (.inr (Nat.le_succ _)) _
  · rw [if_pos hz]
    have hz2 : (e1 != 0) = true := by simpa using hz
    have HE1 := Lib.hid he1
    rw [hval]
    clear h hf hs hval he1 hz hsd
    go_enter Tryz.func21, Tryz.ntmps21
    go_wp2_with fail
    refine (BlockAt_ok _ HS.out _).mono ?_
    rw [HE1.out]
    rintro e w1 ⟨rfl, hc1⟩
    have hC1 : Chg No w w1 := (((Chg.refl No w).alloc _).alloc _).trans_same hc1
    have hk1 := hc1.obj (blk_new _ _) id
    rw [World.size_alloc] at hk1
    obtain ⟨d0, d1, d2, f0, f1, f2⟩ := cells3 hk1
    have HC1 := Lib.hid hC1
    clear hc1 hC1 hk1
    go_wp2_with fail
    refine bodyPost_ret (v := .tuple #[(⟨0, 0, []⟩ : Img).val, .int .i64 e1]) ?_ rfl ⟨rfl, ?_⟩
    · simp [results, Tryz.results21, go_sem, d0, d1, d2, Img.val]
    · exact ((HC1.out.setCell (p := ⟨w.heap.size + 1, 0, none⟩) (.inr (Nat.le_succ _)) _).setCell (p := ⟨w.heap.size + 1, 1, none⟩) (.inr (Nat.le_succ _)) _).setCell (p := ⟨w.heap.size + 1, 2, none⟩) (.inr (Nat.le_succ _)) _
end
end Go.Proofs.YtmmnjecaedmleaaGreatDoor

/- rec: Sectors, Most: contracts. -/
namespace Go.Proofs.YtmmnjecaedmleaaGreatDoor
open Go.RowKit
attribute [local go_sem ↓] Go.wp_at_zero Go.wp_at_succ

def secs (n : Nat) : Nat := if 1 ≤ n ∧ n ≤ 60 then (108 * n + 41) / 42 else 0

theorem SecsN_ok (w : World) (n : Nat) (h0 : 1 ≤ n) (h1 : n ≤ 60) :
    Calls Tryz.prog 74 #[.int .i64 n] w fun e w' => e = .returned (.int .i64 (secs n)) ∧ w = w' := by
  rw [secs, if_pos ⟨h0, h1⟩]
  have d0 : decide ((n : Int) < 1) = false := by simp only [decide_eq_false_iff_not]; omega
  have d1 : decide (60 < (n : Int)) = false := by simp only [decide_eq_false_iff_not]; omega
  have q : (108 * (n : Int) + 42 - 1) / 42 = (((108 * n + 41) / 42 : Nat) : Int) := by omega
  have q2 : IntKind.i64.wrap ((108 * (n : Int) + 42 - 1) / 42) = (((108 * n + 41) / 42 : Nat) : Int) := by rw [q]; exact IntWalk.i64_in _ (by omega)
  go_enter Tryz.func74, Tryz.ntmps74
  go_wp2
  go_ret
  exact ⟨by simp [q], rfl⟩
theorem Secs0_ok (w : World) (n : Int) (h : n < 1 ∨ 60 < n) :
    Calls Tryz.prog 74 #[.int .i64 n] w fun e w' => e = .returned (.int .i64 0) ∧ w = w' := by
  by_cases h1 : n < 1
  · have d0 : decide (n < 1) = true := by simpa using h1
    clear h h1
    go_enter Tryz.func74, Tryz.ntmps74
    go_wp2
    go_ret
    exact ⟨rfl, rfl⟩
  · have d0 : decide (n < 1) = false := by simpa using h1
    have d1 : decide (60 < n) = true := by simp only [decide_eq_true_eq]; omega
    clear h h1
    go_enter Tryz.func74, Tryz.ntmps74
    go_wp2
    go_ret
    exact ⟨rfl, rfl⟩
theorem Sectors_rec (w : World) (n : Nat) :
    Calls Tryz.prog 74 #[.int .i64 n] w fun e w' => e = .returned (.int .i64 (secs n)) ∧ w = w' := by
  by_cases h : 1 ≤ n ∧ n ≤ 60
  · exact SecsN_ok w n h.1 h.2
  · rw [secs, if_neg h]
    exact Secs0_ok w n (by omega)

theorem Secs_succ (w : World) (k : Nat) :
    Calls Tryz.prog 74 #[.int .i64 ((k : Int) + 1)] w fun e w' => e = .returned (.int .i64 (secs (k + 1))) ∧ w = w' := by
  have := Sectors_rec w (k + 1)
  rwa [Int.natCast_add] at this

/-- How many images a record of a log may have. -/
structure IsMost (log m : Nat) : Prop where
  le : m ≤ 60
  fits : m = 0 ∨ secs m ≤ (log - 1) / 2
  top : m = 60 ∨ (log - 1) / 2 < secs (m + 1)
theorem secs_mono {a b : Nat} (h0 : 1 ≤ a) (h : a ≤ b) (hb : b ≤ 60) : secs a ≤ secs b := by
  rw [secs, secs, if_pos (by omega), if_pos (by omega)]
  omega
theorem most8 : IsMost 8 1 := ⟨by omega, .inr (by decide), .inr (by decide)⟩

set_option maxHeartbeats 800000 in
set_option maxRecDepth 100000 in
theorem Most_ok (w : World) (log m : Nat) (h0 : 1 ≤ log) (h1 : log ≤ 100000) (hm : IsMost log m) :
    Calls Tryz.prog 72 #[.int .i64 log] w fun e w' => e = .returned (.int .i64 m) ∧ w = w' := by
  have d0 : decide ((log : Int) < 1) = false := by simp only [decide_eq_false_iff_not]; omega
  have d1 : decide (100000 < (log : Int)) = false := by simp only [decide_eq_false_iff_not]; omega
  have q : ((log : Int) - 1) / 2 = (((log - 1) / 2 : Nat) : Int) := by omega
  have q2 : IntKind.i64.wrap (((log : Int) - 1) / 2) = (((log - 1) / 2 : Nat) : Int) := by rw [q]; exact IntWalk.i64_in _ (by omega)
  obtain ⟨half, hh⟩ : ∃ half, half = (log - 1) / 2 := ⟨_, rfl⟩
  have hm' := hm
  obtain ⟨m0, m1, m2⟩ := hm'
  rw [← hh] at q q2 m1 m2
  have M1 := Lib.hid m1
  have M2 := Lib.hid m2
  clear hm m1 m2 hh
  go_enter Tryz.func72, Tryz.ntmps72
  go_wp2_with fail
  go_loopw [3] (fun i wr => ∃ k : Nat, k ≤ m ∧ i = .int .i64 k ∧ Hid (wr = w)) (fun i _ => m - (intOf i).toNat)
  case atStart => exact ⟨0, Nat.zero_le _, rfl, Lib.hid rfl⟩
  case round =>
    obtain ⟨k, hk, rfl, HW⟩ := hrel
    have hwr := HW.out
    subst hwr
    by_cases h60 : k < 60
    · have e60 : decide ((k : Int) < 60) = true := by simp only [decide_eq_true_eq]; omega
      by_cases hkm : k < m
      · have hsk : secs (k + 1) ≤ half := by
          have h1 := secs_mono (show 1 ≤ k + 1 by omega) (show k + 1 ≤ m by omega) m0
          have h2 := M1.out
          omega
        obtain ⟨sk, hsk0⟩ : ∃ sk, secs (k + 1) = sk := ⟨_, rfl⟩
        rw [hsk0] at hsk
        have HSK := Lib.hid hsk0
        clear hsk0
        go_wp2_with fail
        refine (Secs_succ _ k).mono ?_
        rw [HSK.out]
        rintro e w1 ⟨rfl, rfl⟩
        go_wp2_with fail
        exact ⟨⟨k + 1, hkm, by go_num, Lib.hid (by trivial)⟩, by simp [intOf]; omega⟩
      · obtain rfl : k = m := by omega
        have hsk : half < secs (k + 1) := by have := M2.out; omega
        obtain ⟨sk, hsk0⟩ : ∃ sk, secs (k + 1) = sk := ⟨_, rfl⟩
        rw [hsk0] at hsk
        have HSK := Lib.hid hsk0
        have e61 : decide ((sk : Int) ≤ (half : Int)) = false := by simp only [decide_eq_false_iff_not]; omega
        clear hsk0
        go_wp2_with fail
        refine (Secs_succ _ k).mono ?_
        rw [HSK.out]
        rintro e w1 ⟨rfl, rfl⟩
        go_wp2_with fail
        go_ret
        exact ⟨rfl, rfl⟩
    · obtain rfl : k = 60 := by omega
      have e60 : decide (((60 : Nat) : Int) < 60) = false := by decide
      have e61 : m = 60 := by omega
      subst e61
      go_wp2_with fail
      go_ret
      exact ⟨rfl, rfl⟩
end Go.Proofs.YtmmnjecaedmleaaGreatDoor
