import Derived.Test.YtmmnjecaedmleaaGreatDoorM6

/- sdisk: Write: the whole contract. -/
namespace Go.Proofs.YtmmnjecaedmleaaGreatDoor
open Go.RowKit
attribute [local go_sem ↓] Go.wp_at_zero Go.wp_at_succ

section
variable {w : World} {b : Nat} {D : Dk} {F : Nat → Prop}

theorem Write_bad1 (h : DiskAt w b D F) (node : Int) (epoch : Nat) (at_ : Int) (data : Bytes) (m : Int) (hm : D.may node = m) (hm0 : m ≠ 0) :
    Calls Tryz.prog 69 #[.pointer (some ⟨b, 0, none⟩), .int .i64 node, .int .u64 epoch, .int .i64 at_, S data] w fun e w' => e = .returned (.int .i64 m) ∧ w' = w := by
  have H := Lib.hid h
  have hm2 : (m != 0) = true := by simpa using hm0
  have HM := Lib.hid hm
  clear h hm hm0
  go_enter Tryz.func69, Tryz.ntmps69
  go_wp2_with fail
  refine (may_ok H.out node).mono ?_
  rintro e w1 ⟨rfl, rfl⟩
  rw [HM.out]
  go_wp2_with fail
  go_ret
  exact ⟨rfl, rfl⟩

theorem Write_bad2a (h : DiskAt w b D F) (node : Int) (epoch : Nat) (at_ : Int) (data : Bytes) (q : Int) (hm : D.may node = 0) (hw : IntKind.i64.wrap ((data.length : Int) / 64) = q) (h1 : decide (q < 1) = true) :
    Calls Tryz.prog 69 #[.pointer (some ⟨b, 0, none⟩), .int .i64 node, .int .u64 epoch, .int .i64 at_, S data] w fun e w' => e = .returned (.int .i64 1) ∧ w' = w := by
  have H := Lib.hid h
  have HM := Lib.hid hm
  clear h hm
  go_enter Tryz.func69, Tryz.ntmps69
  go_wp2_with fail
  refine (may_ok H.out node).mono ?_
  rintro e w1 ⟨rfl, rfl⟩
  rw [HM.out]
  go_wp2_with fail
  go_ret
  exact ⟨rfl, rfl⟩

theorem Write_bad2b (h : DiskAt w b D F) (node : Int) (epoch : Nat) (at_ : Int) (data : Bytes) (q : Int) (hm : D.may node = 0) (hw : IntKind.i64.wrap ((data.length : Int) / 64) = q) (h1 : decide (q < 1) = false) (h2 : decide (16 < q) = true) :
    Calls Tryz.prog 69 #[.pointer (some ⟨b, 0, none⟩), .int .i64 node, .int .u64 epoch, .int .i64 at_, S data] w fun e w' => e = .returned (.int .i64 1) ∧ w' = w := by
  have H := Lib.hid h
  have HM := Lib.hid hm
  clear h hm
  go_enter Tryz.func69, Tryz.ntmps69
  go_wp2_with fail
  refine (may_ok H.out node).mono ?_
  rintro e w1 ⟨rfl, rfl⟩
  rw [HM.out]
  go_wp2_with fail
  go_ret
  exact ⟨rfl, rfl⟩

theorem Write_bad2c (h : DiskAt w b D F) (node : Int) (epoch : Nat) (at_ : Int) (data : Bytes) (q : Int) (hm : D.may node = 0) (hw : IntKind.i64.wrap ((data.length : Int) / 64) = q) (h1 : decide (q < 1) = false) (h2 : decide (16 < q) = false) (h3 : (((data.length : Int) % 64) != 0) = true) :
    Calls Tryz.prog 69 #[.pointer (some ⟨b, 0, none⟩), .int .i64 node, .int .u64 epoch, .int .i64 at_, S data] w fun e w' => e = .returned (.int .i64 1) ∧ w' = w := by
  have H := Lib.hid h
  have HM := Lib.hid hm
  clear h hm
  go_enter Tryz.func69, Tryz.ntmps69
  go_wp2_with fail
  refine (may_ok H.out node).mono ?_
  rintro e w1 ⟨rfl, rfl⟩
  rw [HM.out]
  go_wp2_with fail
  go_ret
  exact ⟨rfl, rfl⟩

theorem Write_bad3 (h : DiskAt w b D F) (node : Int) (epoch : Nat) (at_ : Int) (data : Bytes) (q : Nat) (hm : D.may node = 0) (hq : ((data.length : Int) / 64) = q) (hr : (data.length : Int) % 64 = 0) (hq1 : 1 ≤ q) (hq2 : q ≤ 16) (m : Int) (ha : D.admits node epoch = m) (hm0 : m ≠ 0) :
    Calls Tryz.prog 69 #[.pointer (some ⟨b, 0, none⟩), .int .i64 node, .int .u64 epoch, .int .i64 at_, S data] w fun e w' => e = .returned (.int .i64 m) ∧ w' = w := by
  obtain ⟨hon, hn0, hn2⟩ := may_zero hm
  have H := Lib.hid h
  have hm2 : (m != 0) = true := by simpa using hm0
  have HM := Lib.hid hm
  have HA := Lib.hid ha
  clear h hm hm0 ha hon
  go_enter Tryz.func69, Tryz.ntmps69
  go_wp2_with fail
  refine (may_ok H.out node).mono ?_
  rintro e w1 ⟨rfl, rfl⟩
  rw [HM.out]
  go_wp2_with fail
  refine (admits_ok H.out node epoch hn0 hn2).mono ?_
  rintro e w1 ⟨rfl, rfl⟩
  rw [HA.out]
  go_wp2_with fail
  go_ret
  exact ⟨rfl, rfl⟩

theorem Write_bad4 (h : DiskAt w b D F) (hf : D.Fit) (node : Int) (epoch : Nat) (at_ : Int) (data : Bytes) (q : Nat) (hm : D.may node = 0) (hq : ((data.length : Int) / 64) = q) (hr : (data.length : Int) % 64 = 0) (hq1 : 1 ≤ q) (hq2 : q ≤ 16) (ha : D.admits node epoch = 0) (ht : D.there at_ q = false) :
    Calls Tryz.prog 69 #[.pointer (some ⟨b, 0, none⟩), .int .i64 node, .int .u64 epoch, .int .i64 at_, S data] w fun e w' => e = .returned (.int .i64 30) ∧ w' = w := by
  obtain ⟨hon, hn0, hn2⟩ := may_zero hm
  have H := Lib.hid h
  have HF := Lib.hid hf
  have HM := Lib.hid hm
  have HA := Lib.hid ha
  have HT := Lib.hid ht
  clear h hm ha hon ht hf
  go_enter Tryz.func69, Tryz.ntmps69
  go_wp2_with fail
  refine (may_ok H.out node).mono ?_
  rintro e w1 ⟨rfl, rfl⟩
  rw [HM.out]
  go_wp2_with fail
  refine (admits_ok H.out node epoch hn0 hn2).mono ?_
  rintro e w1 ⟨rfl, rfl⟩
  rw [HA.out]
  go_wp2_with fail
  refine (there_ok H.out at_ q (by have := HF.out.s0; omega) HF.out.s1).mono ?_
  rintro e w1 ⟨rfl, rfl⟩
  rw [HT.out]
  go_wp2_with fail
  go_ret
  exact ⟨rfl, rfl⟩

theorem Write_bad5 (h : DiskAt w b D F) (hf : D.Fit) (node : Int) (epoch : Nat) (at_ : Int) (data : Bytes) (q : Nat) (hm : D.may node = 0) (hq : ((data.length : Int) / 64) = q) (hr : (data.length : Int) % 64 = 0) (hq1 : 1 ≤ q) (hq2 : q ≤ 16) (ha : D.admits node epoch = 0) (ht : D.there at_ q = true) (hg : D.goes.1 = true) :
    Calls Tryz.prog 69 #[.pointer (some ⟨b, 0, none⟩), .int .i64 node, .int .u64 epoch, .int .i64 at_, S data] w fun e w' => e = .returned (.int .i64 14) ∧ DiskAt w' b D.goes.2 (grow F w w') ∧ Chg F w w' := by
  obtain ⟨hon, hn0, hn2⟩ := may_zero hm
  have H := Lib.hid h
  have HF := Lib.hid hf
  have HM := Lib.hid hm
  have HA := Lib.hid ha
  have HT := Lib.hid ht
  have HG := Lib.hid hg
  clear h hm ha hon ht hf hg
  go_enter Tryz.func69, Tryz.ntmps69
  go_wp2_with fail
  refine (may_ok H.out node).mono ?_
  rintro e w1 ⟨rfl, rfl⟩
  rw [HM.out]
  go_wp2_with fail
  refine (admits_ok H.out node epoch hn0 hn2).mono ?_
  rintro e w1 ⟨rfl, rfl⟩
  rw [HA.out]
  go_wp2_with fail
  refine (there_ok H.out at_ q (by have := HF.out.s0; omega) HF.out.s1).mono ?_
  rintro e w1 ⟨rfl, rfl⟩
  rw [HT.out]
  go_wp2_with fail
  refine (goes_ok H.out HF.out).mono ?_
  rintro e w1 ⟨rfl, hd1, hc1⟩
  rw [HG.out]
  have HD1 := Lib.hid hd1
  have HC1 := Lib.hid hc1
  clear hd1 hc1
  go_wp2_with fail
  go_ret
  exact ⟨rfl, HD1.out, HC1.out⟩

theorem Write_ok (h : DiskAt w b D F) (hf : D.Fit) (node : Int) (epoch : Nat) (at_ : Int) (data : Bytes) (hlen : data.length ≤ 1000000000) :
    Calls Tryz.prog 69 #[.pointer (some ⟨b, 0, none⟩), .int .i64 node, .int .u64 epoch, .int .i64 at_, S data] w fun e w' => e = .returned (.int .i64 (D.write node epoch at_ data).1) ∧ DiskAt w' b (D.write node epoch at_ data).2 (grow F w w') ∧ Chg F w w' := by
  have hq : ((data.length : Int) / 64) = ((data.length / 64 : Nat) : Int) := by omega
  have hw : IntKind.i64.wrap ((data.length : Int) / 64) = ((data.length / 64 : Nat) : Int) := by rw [hq]; exact IntWalk.i64_in _ (by omega)
  have same : ∀ e w' (m : Int), (e = Ending.returned (.int .i64 m) ∧ w' = w) → e = .returned (.int .i64 m) ∧ DiskAt w' b D (grow F w w') ∧ Chg F w w' := by
    rintro e w' m ⟨rfl, rfl⟩
    exact ⟨rfl, h.no (Chg.refl _ _), Chg.refl _ _⟩
  by_cases hm : D.may node = 0
  · by_cases hn : data.length / 64 < 1 ∨ 16 < data.length / 64 ∨ data.length % 64 ≠ 0
    · rw [show D.write node epoch at_ data = (1, D) by rw [Dk.write, if_neg (by simp [hm]), if_pos hn]]
      by_cases h1 : data.length / 64 < 1
      · exact (Write_bad2a h node epoch at_ data (data.length / 64 : Nat) hm hw (by simp only [decide_eq_true_eq]; omega)).mono (fun e w' => same e w' 1)
      · by_cases h2 : 16 < data.length / 64
        · exact (Write_bad2b h node epoch at_ data (data.length / 64 : Nat) hm hw (by simp only [decide_eq_false_iff_not]; omega) (by simp only [decide_eq_true_eq]; omega)).mono (fun e w' => same e w' 1)
        · exact (Write_bad2c h node epoch at_ data (data.length / 64 : Nat) hm hw (by simp only [decide_eq_false_iff_not]; omega) (by simp only [decide_eq_false_iff_not]; omega) (by simp only [bne_iff_ne]; omega)).mono (fun e w' => same e w' 1)
    · have hr : (data.length : Int) % 64 = 0 := by omega
      by_cases ha : D.admits node epoch = 0
      · by_cases ht : D.there at_ (data.length / 64 : Nat) = true
        · by_cases hg : D.goes.1 = true
          · rw [show D.write node epoch at_ data = (14, D.goes.2) by rw [Dk.write, if_neg (by simp [hm]), if_neg hn, if_neg (by simp [ha]), if_neg (by rw [ht]; decide), if_pos hg]]
            exact Write_bad5 h hf node epoch at_ data (data.length / 64) hm hq hr (by omega) (by omega) ha ht hg
          · have hg' : D.goes.1 = false := by simpa using hg
            rw [show D.write node epoch at_ data = (0, D.goes.2.wrN node at_ data (data.length / 64)) by rw [Dk.write, if_neg (by simp [hm]), if_neg hn, if_neg (by simp [ha]), if_neg (by rw [ht]; decide), if_neg hg]]
            exact Write_go h hf node epoch at_ data (data.length / 64) hm (by omega) (by omega) (by omega) ha ht hg'
        · have ht' : D.there at_ (data.length / 64 : Nat) = false := by simpa using ht
          rw [show D.write node epoch at_ data = (30, D) by rw [Dk.write, if_neg (by simp [hm]), if_neg hn, if_neg (by simp [ha]), if_pos ht']]
          exact (Write_bad4 h hf node epoch at_ data (data.length / 64) hm hq hr (by omega) (by omega) ha ht').mono (fun e w' => same e w' 30)
      · rw [show D.write node epoch at_ data = (D.admits node epoch, D) by rw [Dk.write, if_neg (by simp [hm]), if_neg hn, if_pos ha]]
        exact (Write_bad3 h node epoch at_ data (data.length / 64) hm hq hr (by omega) (by omega) _ rfl ha).mono (fun e w' => same e w' _)
  · rw [show D.write node epoch at_ data = (D.may node, D) by rw [Dk.write, if_pos hm]]
    exact (Write_bad1 h node epoch at_ data _ rfl hm).mono (fun e w' => same e w' _)
end
end Go.Proofs.YtmmnjecaedmleaaGreatDoor

/- sdisk: Read: contract. -/
namespace Go.Proofs.YtmmnjecaedmleaaGreatDoor
open Go.RowKit
attribute [local go_sem ↓] Go.wp_at_zero Go.wp_at_succ

/-- A builder in memory, none of it older than block B. -/
def BldAt (w : World) (B b : Nat) (l : Bytes) : Prop := Lib.IsBuilder 207 5 B b (Lib.byteCells l) w

theorem BldAt.fresh (w : World) : BldAt (w.alloc (.cells #[.pointer none, .slice none 0 0] 207)) w.heap.size w.heap.size [] :=
  .inl ⟨Nat.le_refl _, .slice none 0 0, blk_new _ _, World.ownsRow_nil _ _ _ _, by simp [Value.ownBlock]⟩
theorem BldAt.chg {w w' : World} {B b : Nat} {l : Bytes} (h : BldAt w B b l) (hc : Chg No w w') : BldAt w' B b l := by
  rcases h with ⟨hB, v, hb, hown, hne⟩ | ⟨hB, v, hb, hown, hne⟩
  · exact .inl ⟨hB, v, hc.obj hb id, hc.row hown (fun _ _ => id), hne⟩
  · exact .inr ⟨hB, v, hc.obj hb id, hc.row hown (fun _ _ => id), hne⟩

theorem writeString_ok {w : World} {B b : Nat} {l : Bytes} (h : BldAt w B b l) (s : Bytes) (hl : l.length + s.length ≤ 140737488355328) (hB : B ≤ w.heap.size) :
    Calls Tryz.prog 165 #[.pointer (some ⟨b, 0, none⟩), S s] w fun e w' => e = .returned (.tuple #[.int .i64 s.length, .nilIface]) ∧ BldAt w' B b (l ++ s) ∧ Below B w w' := by
  refine (Any.Builder_WriteString { Tryz.lays105 with } Tryz.Builder_Extra_105 B b (Lib.byteCells l) ⟨s.toArray⟩ w h (by rw [Lib.byteCells_length]; simpa [ByteArray.size] using hl) hB).mono ?_
  rintro e w1 ⟨rfl, hb, hc⟩
  refine ⟨by simp [ByteArray.size], .inr ?_, hc⟩
  rw [show Lib.byteCells (l ++ s) = Lib.byteCells l ++ Lib.strCells ⟨s.toArray⟩ by simp [Lib.byteCells, Lib.strCells]]
  exact hb
theorem builderString_ok {w : World} {B b : Nat} {l : Bytes} (h : BldAt w B b l) (hB : B ≤ w.heap.size) :
    Calls Tryz.prog 166 #[.pointer (some ⟨b, 0, none⟩)] w fun e w' => e = .returned (S l) ∧ Below B w w' :=
  Tryz.Builder_String_any B b l w h hB

def Dk.Sized (D : Dk) : Prop := ∀ i d, D.now i = some d → d.length = 64
def readB (D : Dk) (at_ : Int) : Nat → Bytes
  | 0 => []
  | n + 1 => readB D at_ n ++ (D.now (at_ + n)).getD (zs 64)
theorem readB_length {D : Dk} (hs : D.Sized) (at_ : Int) (n : Nat) : (readB D at_ n).length = 64 * n := by
  induction n with
  | zero => rfl
  | succ n ih =>
    rw [readB, List.length_append, ih]
    cases h : D.now (at_ + n) with
    | none => simp; omega
    | some d => have := hs _ _ h; simp [this]; omega
def Dk.read (D : Dk) (at_ n : Int) : Bytes × Int :=
  if D.on = false then ([], 14) else if n < 1 ∨ 400 < n ∨ D.there at_ n = false then ([], 30) else (readB D at_ n.toNat, 0)

section
variable {w : World} {b : Nat} {D : Dk} {F : Nat → Prop}

theorem Read_off (h : DiskAt w b D F) (at_ n : Int) (ho : D.on = false) :
    Calls Tryz.prog 39 #[.pointer (some ⟨b, 0, none⟩), .int .i64 at_, .int .i64 n] w fun e w' => e = .returned (.tuple #[S [], .int .i64 14]) ∧ Chg No w w' := by
  have H := Lib.hid h
  have HO := Lib.hid ho
  clear h ho
  go_enter Tryz.func39, Tryz.ntmps39
  go_wp2_with fail
  refine (On_ok H.out).mono ?_
  rintro e w1 ⟨rfl, rfl⟩
  rw [HO.out]
  go_wp2_with fail
  go_ret2
  exact ⟨rfl, Chg.refl _ _⟩
theorem Read_bad1 (h : DiskAt w b D F) (at_ n : Int) (ho : D.on = true) (h1 : decide (n < 1) = true) :
    Calls Tryz.prog 39 #[.pointer (some ⟨b, 0, none⟩), .int .i64 at_, .int .i64 n] w fun e w' => e = .returned (.tuple #[S [], .int .i64 30]) ∧ Chg No w w' := by
  have H := Lib.hid h
  have HO := Lib.hid ho
  clear h ho
  go_enter Tryz.func39, Tryz.ntmps39
  go_wp2_with fail
  refine (On_ok H.out).mono ?_
  rintro e w1 ⟨rfl, rfl⟩
  rw [HO.out]
  go_wp2_with fail
  go_ret2
  exact ⟨rfl, Chg.refl _ _⟩
theorem Read_bad2 (h : DiskAt w b D F) (at_ n : Int) (ho : D.on = true) (h1 : decide (n < 1) = false) (h2 : decide (400 < n) = true) :
    Calls Tryz.prog 39 #[.pointer (some ⟨b, 0, none⟩), .int .i64 at_, .int .i64 n] w fun e w' => e = .returned (.tuple #[S [], .int .i64 30]) ∧ Chg No w w' := by
  have H := Lib.hid h
  have HO := Lib.hid ho
  clear h ho
  go_enter Tryz.func39, Tryz.ntmps39
  go_wp2_with fail
  refine (On_ok H.out).mono ?_
  rintro e w1 ⟨rfl, rfl⟩
  rw [HO.out]
  go_wp2_with fail
  go_ret2
  exact ⟨rfl, Chg.refl _ _⟩
theorem Read_bad3 (h : DiskAt w b D F) (hs0 : 0 < D.sectors) (hs1 : D.sectors ≤ 20000) (at_ n : Int) (ho : D.on = true) (h1 : decide (n < 1) = false) (h2 : decide (400 < n) = false) (ht : D.there at_ n = false) :
    Calls Tryz.prog 39 #[.pointer (some ⟨b, 0, none⟩), .int .i64 at_, .int .i64 n] w fun e w' => e = .returned (.tuple #[S [], .int .i64 30]) ∧ Chg No w w' := by
  have H := Lib.hid h
  have HO := Lib.hid ho
  have HT := Lib.hid ht
  clear h ho ht
  go_enter Tryz.func39, Tryz.ntmps39
  go_wp2_with fail
  refine (On_ok H.out).mono ?_
  rintro e w1 ⟨rfl, rfl⟩
  rw [HO.out]
  go_wp2_with fail
  refine (there_ok H.out at_ n (by omega) hs1).mono ?_
  rintro e w1 ⟨rfl, rfl⟩
  rw [HT.out]
  go_wp2_with fail
  go_ret2
  exact ⟨rfl, Chg.refl _ _⟩

set_option maxHeartbeats 1600000 in
set_option maxRecDepth 100000 in
theorem Read_go (h : DiskAt w b D F) (hf : D.Fit) (hs : D.Sized) (at_ : Int) (n : Nat) (ho : D.on = true) (hn1 : 1 ≤ n) (hn2 : n ≤ 400) (ht : D.there at_ n = true) :
    Calls Tryz.prog 39 #[.pointer (some ⟨b, 0, none⟩), .int .i64 at_, .int .i64 n] w fun e w' => e = .returned (.tuple #[S (readB D at_ n), .int .i64 0]) ∧ Chg No w w' := by
  have H := Lib.hid h
  have HO := Lib.hid ho
  have HT := Lib.hid ht
  have HF := Lib.hid hf
  have HS := Lib.hid hs
  obtain ⟨hat0, hat1⟩ : 0 ≤ at_ ∧ at_ ≤ 20000 := by
    simp only [Dk.there, decide_eq_true_eq] at ht
    have := hf.s1
    omega
  have h1 : decide ((n : Int) < 1) = false := by simp only [decide_eq_false_iff_not]; omega
  have h2 : decide (400 < (n : Int)) = false := by simp only [decide_eq_false_iff_not]; omega
  obtain ⟨bn, bl, wv, sv, hR⟩ := h
  have HR := Lib.hid hR
  clear ho ht hf hs hR
  go_enter Tryz.func39, Tryz.ntmps39
  go_wp2_with fail
  refine (On_ok H.out).mono ?_
  rintro e w1 ⟨rfl, rfl⟩
  rw [HO.out]
  go_wp2_with fail
  refine (there_ok H.out at_ n (by have := HF.out.s0; omega) HF.out.s1).mono ?_
  rintro e w1 ⟨rfl, rfl⟩
  rw [HT.out]
  go_wp2_with fail
  go_loopw [31] (fun i wr => ∃ k : Nat, k ≤ n ∧ i = .int .i64 k ∧ Hid (BldAt wr w.heap.size w.heap.size (readB D at_ k)) ∧ Hid (Chg No w wr)) (fun i _ => n - (intOf i).toNat)
  case atStart => exact ⟨0, Nat.zero_le _, rfl, Lib.hid (BldAt.fresh _), Lib.hid ((Chg.refl No w).alloc _)⟩
  case round =>
    obtain ⟨k, hk, rfl, HB, HC⟩ := hrel
    have hwz := HC.out.size
    by_cases hlt : k < n
    · have c3 : wr.cell? ⟨b, 3, none⟩ = some (.map (some bn)) := HC.out.cell (HR.out.blk.cell 3 (by omega)) id
      have hlk := (run_lookup_i und_now und_int zero_string (HR.out.now.chg HC.out id) (at_ + k)).1
      have s0 : IntKind.i64.wrap (at_ + (k : Int)) = at_ + k := IntWalk.i64_in _ (by omega)
      cases hd : D.now (at_ + k) with
      | none =>
        rw [hd] at hlk
        simp only [Option.map_none, Option.getD_none, Option.isSome_none] at hlk
        have HD := Lib.hid hd
        clear hd
        go_wp2_with fail
        refine (repeat_ok _ _ (by omega) (by omega)).mono ?_
        rintro e w2 ⟨rfl, hc2⟩
        have HC2 := Lib.hid hc2
        clear hc2 hlk c3
        go_wp2_with fail
        have hzs : (zs (Int.toNat 64)).length = 64 := zs_length _
        refine (writeString_ok (HB.out.chg HC2.out) (zs (Int.toNat 64)) (by rw [hzs, readB_length HS.out]; omega) (by have := HC2.out.size; omega)).mono ?_
        rintro e w3 ⟨rfl, hb3, hc3⟩
        have HB3 := Lib.hid hb3
        have HC3 := Lib.hid ((HC.out.trans_no HC2.out).below hc3 (Nat.le_refl _))
        clear hb3 hc3
        go_wp2_with fail
        refine ⟨⟨k + 1, hlt, by go_num, Lib.hid ?_, HC3⟩, by simp [intOf]; omega⟩
        rw [readB, HD.out]
        exact HB3.out
      | some d =>
        rw [hd] at hlk
        simp only [Option.map_some, Option.getD_some, Option.isSome_some] at hlk
        have HD := Lib.hid hd
        clear hd
        go_wp2_with fail
        refine (writeString_ok HB.out d (by rw [HS.out _ _ HD.out, readB_length HS.out]; omega) hwz).mono ?_
        rintro e w3 ⟨rfl, hb3, hc3⟩
        have HB3 := Lib.hid hb3
        have HC3 := Lib.hid (HC.out.below hc3 (Nat.le_refl _))
        clear hb3 hc3 hlk c3
        go_wp2_with fail
        refine ⟨⟨k + 1, hlt, by go_num, Lib.hid ?_, HC3⟩, by simp [intOf]; omega⟩
        rw [readB, HD.out]
        exact HB3.out
    · obtain rfl : k = n := by omega
      go_wp2_with fail
      refine (builderString_ok HB.out hwz).mono ?_
      rintro e w3 ⟨rfl, hc3⟩
      have HC3 := Lib.hid (HC.out.below hc3 (Nat.le_refl _))
      clear hc3
      go_wp2_with fail
      go_ret2
      exact ⟨rfl, HC3.out⟩

theorem Read_ok (h : DiskAt w b D F) (hf : D.Fit) (hs : D.Sized) (at_ n : Int) :
    Calls Tryz.prog 39 #[.pointer (some ⟨b, 0, none⟩), .int .i64 at_, .int .i64 n] w fun e w' => e = .returned (.tuple #[S (D.read at_ n).1, .int .i64 (D.read at_ n).2]) ∧ Chg No w w' := by
  by_cases ho : D.on = false
  · rw [show D.read at_ n = ([], 14) by rw [Dk.read, if_pos ho]]
    exact Read_off h at_ n ho
  · have ho' : D.on = true := by simpa using ho
    by_cases h1 : n < 1
    · rw [show D.read at_ n = ([], 30) by rw [Dk.read, if_neg ho, if_pos (.inl h1)]]
      exact Read_bad1 h at_ n ho' (by simpa using h1)
    · by_cases h2 : 400 < n
      · rw [show D.read at_ n = ([], 30) by rw [Dk.read, if_neg ho, if_pos (.inr (.inl h2))]]
        exact Read_bad2 h at_ n ho' (by simpa using h1) (by simpa using h2)
      · by_cases h3 : D.there at_ n = false
        · rw [show D.read at_ n = ([], 30) by rw [Dk.read, if_neg ho, if_pos (.inr (.inr h3))]]
          exact Read_bad3 h hf.s0 hf.s1 at_ n ho' (by simpa using h1) (by simpa using h2) h3
        · obtain ⟨m, rfl⟩ := Int.eq_ofNat_of_zero_le (show 0 ≤ n by omega)
          rw [show D.read at_ (m : Int) = (readB D at_ m, 0) by rw [Dk.read, if_neg ho, if_neg (by rintro (h | h | h); exact h1 h; exact h2 h; exact h3 h)]; rfl]
          exact Read_go h hf hs at_ m ho' (by omega) (by omega) (by simpa using h3)
end
end Go.Proofs.YtmmnjecaedmleaaGreatDoor

/- super: in, Valid, Size, LogAt, BlockAt: contracts. -/
namespace Go.Proofs.YtmmnjecaedmleaaGreatDoor
open Go.RowKit
attribute [local go_sem ↓] Go.wp_at_zero Go.wp_at_succ

/-- A disk's shape. -/
structure Sh where
  nodes : Nat
  blocks : Nat
  log : Nat
  cache : Nat
  lease : Nat
def Sh.cells (s : Sh) : Array Value := #[.int .i64 s.nodes, .int .i64 s.blocks, .int .i64 s.log, .int .i64 s.cache, .int .i64 s.lease]
def Sh.val (s : Sh) : Value := .agg s.cells
structure Sh.Ok (s : Sh) : Prop where
  n1 : 1 ≤ s.nodes
  n2 : s.nodes ≤ 16
  b1 : 1 ≤ s.blocks
  b2 : s.blocks ≤ 4096
  l1 : 8 ≤ s.log
  l2 : s.log ≤ 256
  c1 : 2 ≤ s.cache
  c2 : s.cache ≤ 1000
  e1 : 32 ≤ s.lease
  e2 : s.lease ≤ 1000
def Sh.size (s : Sh) : Nat := 1 + s.nodes * s.log + 2 * s.blocks

theorem in_ok (w : World) (n a b : Int) : Calls Tryz.prog 193 #[.int .i64 n, .int .i64 a, .int .i64 b] w fun e w' => e = .returned (.bool (decide (a ≤ n ∧ n ≤ b))) ∧ w = w' := by
  by_cases h1 : a ≤ n
  · by_cases h2 : n ≤ b
    · rw [show decide (a ≤ n ∧ n ≤ b) = true by simp [h1, h2]]
      go_enter Tryz.func193, Tryz.ntmps193
      go_wp2
      go_ret
      exact ⟨rfl, rfl⟩
    · have h3 : decide (n ≤ b) = false := by simpa using h2
      rw [show decide (a ≤ n ∧ n ≤ b) = false by simp [h2]]
      clear h2
      go_enter Tryz.func193, Tryz.ntmps193
      go_wp2
      go_ret
      exact ⟨rfl, rfl⟩
  · have h3 : decide (a ≤ n) = false := by simpa using h1
    rw [show decide (a ≤ n ∧ n ≤ b) = false by simp [h1]]
    clear h1
    go_enter Tryz.func193, Tryz.ntmps193
    go_wp2
    go_ret
    exact ⟨rfl, rfl⟩

theorem Valid_ok (w : World) {s : Sh} (h : s.Ok) : Calls Tryz.prog 184 #[s.val] w fun e w' => e = .returned (.bool true) ∧ Chg No w w' := by
  have H := Lib.hid h
  clear h
  unfold Sh.val Sh.cells
  go_enter Tryz.func184, Tryz.ntmps184
  go_wp2_with fail
  refine (in_ok _ _ _ _).mono ?_
  rintro e w1 ⟨rfl, rfl⟩
  rw [show decide ((1 : Int) ≤ s.nodes ∧ (s.nodes : Int) ≤ 16) = true by simp only [decide_eq_true_eq]; have := H.out.n1; have := H.out.n2; omega]
  go_wp2_with fail
  refine (in_ok _ _ _ _).mono ?_
  rintro e w1 ⟨rfl, rfl⟩
  rw [show decide ((1 : Int) ≤ s.blocks ∧ (s.blocks : Int) ≤ 4096) = true by simp only [decide_eq_true_eq]; have := H.out.b1; have := H.out.b2; omega]
  go_wp2_with fail
  refine (in_ok _ _ _ _).mono ?_
  rintro e w1 ⟨rfl, rfl⟩
  rw [show decide ((8 : Int) ≤ s.log ∧ (s.log : Int) ≤ 256) = true by simp only [decide_eq_true_eq]; have := H.out.l1; have := H.out.l2; omega]
  go_wp2_with fail
  refine (in_ok _ _ _ _).mono ?_
  rintro e w1 ⟨rfl, rfl⟩
  rw [show decide ((2 : Int) ≤ s.cache ∧ (s.cache : Int) ≤ 1000) = true by simp only [decide_eq_true_eq]; have := H.out.c1; have := H.out.c2; omega]
  go_wp2_with fail
  refine (in_ok _ _ _ _).mono ?_
  rintro e w1 ⟨rfl, rfl⟩
  rw [show decide ((32 : Int) ≤ s.lease ∧ (s.lease : Int) ≤ 1000) = true by simp only [decide_eq_true_eq]; have := H.out.e1; have := H.out.e2; omega]
  go_wp2_with fail
  go_ret
  exact ⟨rfl, (Chg.refl No w).alloc _⟩

theorem cells5 {w : World} {b : Nat} {v0 v1 v2 v3 v4 : Value} {T : TypeId} (h : w.heap[b]? = some (.cells #[v0, v1, v2, v3, v4] T (0, 0))) :
    w.cell? ⟨b, 0, none⟩ = some v0 ∧ w.cell? ⟨b, 1, none⟩ = some v1 ∧ w.cell? ⟨b, 2, none⟩ = some v2 ∧ w.cell? ⟨b, 3, none⟩ = some v3 ∧ w.cell? ⟨b, 4, none⟩ = some v4 :=
  ⟨cell_of_blk h 0 rfl, cell_of_blk h 1 rfl, cell_of_blk h 2 rfl, cell_of_blk h 3 rfl, cell_of_blk h 4 rfl⟩

theorem mul_nl {a b m n : Nat} (h1 : a ≤ m) (h2 : b ≤ n) : a * b ≤ m * n := Nat.mul_le_mul h1 h2

theorem Size_ok (w : World) {s : Sh} (h : s.Ok) : Calls Tryz.prog 185 #[s.val] w fun e w' => e = .returned (.int .i64 s.size) ∧ Chg No w w' := by
  have H := Lib.hid h
  have hm := mul_nl h.n2 h.l2
  have hb := h.b2
  have e1 : IntKind.i64.wrap ((s.nodes : Int) * (s.log : Int)) = ((s.nodes * s.log : Nat) : Int) := by rw [← Int.natCast_mul]; exact IntWalk.i64_in _ (by omega)
  clear h
  unfold Sh.size
  obtain ⟨m, hmm⟩ : ∃ m, m = s.nodes * s.log := ⟨_, rfl⟩
  rw [← hmm] at e1 hm ⊢
  have HM := Lib.hid hmm
  clear hmm
  have hval : s.val = .agg #[.int .i64 s.nodes, .int .i64 s.blocks, .int .i64 s.log, .int .i64 s.cache, .int .i64 s.lease] := rfl
  rw [hval]
  clear hval
  go_enter Tryz.func185, Tryz.ntmps185
  go_wp2_with fail
  refine (Valid_ok _ H.out).mono ?_
  rintro e w1 ⟨rfl, hc1⟩
  obtain ⟨c0, c1, c2, c3, c4⟩ := cells5 (hc1.obj (blk_new _ _) id)
  have HC := Lib.hid hc1
  clear hc1
  go_wp2_with fail
  go_ret
  refine ⟨?_, ((Chg.refl No w).alloc _).trans_same HC.out⟩
  show Ending.returned (.int .i64 (1 + (m : Int) + 2 * (s.blocks : Int))) = _
  simp

def Sh.logAt (s : Sh) (node : Int) : Int × Int := if 1 ≤ node ∧ node ≤ s.nodes then (1 + (node - 1) * s.log, 0) else (0, 3)
def Sh.blockAt (s : Sh) (blk : Int) : Int × Int := if 0 ≤ blk ∧ blk ≤ (s.blocks : Int) - 1 then (1 + s.nodes * s.log + 2 * blk, 0) else (0, 30)

theorem LogAt_ok (w : World) {s : Sh} (h : s.Ok) (node : Int) :
    Calls Tryz.prog 64 #[s.val, .int .i64 node] w fun e w' => e = .returned (.tuple #[.int .i64 (s.logAt node).1, .int .i64 (s.logAt node).2]) ∧ Chg No w w' := by
  have H := Lib.hid h
  have hval : s.val = .agg #[.int .i64 s.nodes, .int .i64 s.blocks, .int .i64 s.log, .int .i64 s.cache, .int .i64 s.lease] := rfl
  unfold Sh.logAt
  by_cases hn : 1 ≤ node ∧ node ≤ s.nodes
  · obtain ⟨k, hk⟩ : ∃ k : Nat, node - 1 = k := ⟨(node - 1).toNat, by omega⟩
    have hk1 : node = k + 1 := by omega
    have hm := mul_nl (show k ≤ 15 by have := h.n2; omega) h.l2
    have e1 : IntKind.i64.wrap ((k : Int) * (s.log : Int)) = ((k * s.log : Nat) : Int) := by rw [← Int.natCast_mul]; exact IntWalk.i64_in _ (by omega)
    have hk15 : k ≤ 15 := by have := h.n2; omega
    have e2 : IntKind.i64.wrap (node - 1) = k := by rw [hk]; exact IntWalk.i64_in _ (by omega)
    rw [if_pos hn]
    obtain ⟨m, hmm⟩ : ∃ m, m = k * s.log := ⟨_, rfl⟩
    rw [show (1 + (node - 1) * (s.log : Int), (0 : Int)) = (1 + (m : Int), 0) by rw [hk, hmm]; simp]
    rw [← hmm] at e1 hm
    have HM := Lib.hid hmm
    have HN := Lib.hid hn
    rw [hval]
    clear h hmm hn hk hk1 hval
    go_enter Tryz.func64, Tryz.ntmps64
    go_wp2_with fail
    refine (Valid_ok _ H.out).mono ?_
    rintro e w1 ⟨rfl, hc1⟩
    obtain ⟨c0, c1, c2, c3, c4⟩ := cells5 (hc1.obj (blk_new _ _) id)
    have HC := Lib.hid hc1
    clear hc1
    go_wp2_with fail
    refine (in_ok _ _ _ _).mono ?_
    rintro e w2 ⟨rfl, rfl⟩
    rw [show decide (1 ≤ node ∧ node ≤ (s.nodes : Int)) = true by simpa using HN.out]
    go_wp2_with fail
    go_ret2
    exact ⟨rfl, ((Chg.refl No w).alloc _).trans_same HC.out⟩
  · rw [if_neg hn]
    have HN := Lib.hid hn
    rw [hval]
    clear h hn hval
    go_enter Tryz.func64, Tryz.ntmps64
    go_wp2_with fail
    refine (Valid_ok _ H.out).mono ?_
    rintro e w1 ⟨rfl, hc1⟩
    obtain ⟨c0, c1, c2, c3, c4⟩ := cells5 (hc1.obj (blk_new _ _) id)
    have HC := Lib.hid hc1
    clear hc1
    go_wp2_with fail
    refine (in_ok _ _ _ _).mono ?_
    rintro e w2 ⟨rfl, rfl⟩
    rw [show decide (1 ≤ node ∧ node ≤ (s.nodes : Int)) = false by simpa using HN.out]
    go_wp2_with fail
    go_ret2
    exact ⟨rfl, ((Chg.refl No w).alloc _).trans_same HC.out⟩

theorem BlockAt_ok (w : World) {s : Sh} (h : s.Ok) (blk : Int) :
    Calls Tryz.prog 67 #[s.val, .int .i64 blk] w fun e w' => e = .returned (.tuple #[.int .i64 (s.blockAt blk).1, .int .i64 (s.blockAt blk).2]) ∧ Chg No w w' := by
  have H := Lib.hid h
  have hval : s.val = .agg #[.int .i64 s.nodes, .int .i64 s.blocks, .int .i64 s.log, .int .i64 s.cache, .int .i64 s.lease] := rfl
  have e0 : IntKind.i64.wrap ((s.blocks : Int) - 1) = (s.blocks : Int) - 1 := IntWalk.i64_in _ (by have := h.b1; have := h.b2; omega)
  unfold Sh.blockAt
  by_cases hn : 0 ≤ blk ∧ blk ≤ (s.blocks : Int) - 1
  · have hm := mul_nl h.n2 h.l2
    have hb2 := h.b2
    have e1 : IntKind.i64.wrap ((s.nodes : Int) * (s.log : Int)) = ((s.nodes * s.log : Nat) : Int) := by rw [← Int.natCast_mul]; exact IntWalk.i64_in _ (by omega)
    rw [if_pos hn]
    obtain ⟨m, hmm⟩ : ∃ m, m = s.nodes * s.log := ⟨_, rfl⟩
    rw [show (1 + (s.nodes : Int) * (s.log : Int) + 2 * blk, (0 : Int)) = (1 + (m : Int) + 2 * blk, 0) by rw [hmm]; simp]
    rw [← hmm] at e1 hm
    obtain ⟨q, rfl⟩ := Int.eq_ofNat_of_zero_le hn.1
    have hq : q ≤ 4096 := by omega
    have HM := Lib.hid hmm
    have HN := Lib.hid hn
    rw [hval]
    clear h hmm hn hval
    go_enter Tryz.func67, Tryz.ntmps67
    go_wp2_with fail
    refine (Valid_ok _ H.out).mono ?_
    rintro e w1 ⟨rfl, hc1⟩
    obtain ⟨c0, c1, c2, c3, c4⟩ := cells5 (hc1.obj (blk_new _ _) id)
    have HC := Lib.hid hc1
    clear hc1
    go_wp2_with fail
    refine (in_ok _ _ _ _).mono ?_
    rintro e w2 ⟨rfl, rfl⟩
    rw [show decide (0 ≤ (q : Int) ∧ (q : Int) ≤ (s.blocks : Int) - 1) = true by simp only [decide_eq_true_eq]; exact HN.out]
    go_wp2_with fail
    go_ret2
    exact ⟨rfl, ((Chg.refl No w).alloc _).trans_same HC.out⟩
  · rw [if_neg hn]
    have HN := Lib.hid hn
    rw [hval]
    clear h hn hval
    go_enter Tryz.func67, Tryz.ntmps67
    go_wp2_with fail
    refine (Valid_ok _ H.out).mono ?_
    rintro e w1 ⟨rfl, hc1⟩
    obtain ⟨c0, c1, c2, c3, c4⟩ := cells5 (hc1.obj (blk_new _ _) id)
    have HC := Lib.hid hc1
    clear hc1
    go_wp2_with fail
    refine (in_ok _ _ _ _).mono ?_
    rintro e w2 ⟨rfl, rfl⟩
    rw [show decide (0 ≤ blk ∧ blk ≤ (s.blocks : Int) - 1) = false by simp only [decide_eq_false_iff_not]; exact HN.out]
    go_wp2_with fail
    go_ret2
    exact ⟨rfl, ((Chg.refl No w).alloc _).trans_same HC.out⟩
end Go.Proofs.YtmmnjecaedmleaaGreatDoor
