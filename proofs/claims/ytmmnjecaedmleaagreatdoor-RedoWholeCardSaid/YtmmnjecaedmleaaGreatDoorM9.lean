import Derived.Test.YtmmnjecaedmleaaGreatDoorM8

/- super: zeros, lay: contracts. -/
namespace Go.Proofs.YtmmnjecaedmleaaGreatDoor
open Go.RowKit
attribute [local go_sem ↓] Go.wp_at_zero Go.wp_at_succ

theorem Dk.goes_free {D : Dk} (h : D.armed = false) : D.goes = (false, D) := by simp [Dk.goes, h]
theorem Dk.write_free {D : Dk} {node : Int} {epoch : Nat} {at_ : Int} {data : Bytes} {n : Nat} (hm : D.may node = 0) (ha : D.admits node epoch = 0) (hr : D.armed = false) (hl : data.length = 64 * n) (h1 : 1 ≤ n) (h2 : n ≤ 16) (ht : D.there at_ n = true) :
    D.write node epoch at_ data = (0, D.wrN node at_ data n) := by
  have e : data.length / 64 = n := by omega
  rw [Dk.write, if_neg (by simp [hm]), if_neg (by omega), if_neg (by simp [ha]), e, ht, Dk.goes_free hr]
  simp
theorem Dk.barrier_free {D : Dk} {node : Int} {epoch : Nat} (hm : D.may node = 0) (ha : D.admits node epoch = 0) (hr : D.armed = false) : D.barrier node epoch = (0, D.settle node) := by
  rw [Dk.barrier, if_neg (by simp [hm]), if_neg (by simp [ha]), Dk.goes_free hr]
  simp
theorem Dk.fence_free {D : Dk} {node : Int} (hm : D.may node = 0) (hr : D.armed = false) : D.fence node = (0, { D.settle node with table := setN D.table node.toNat 0 }) := by
  rw [Dk.fence, if_neg (by simp [hm]), Dk.goes_free hr]
  simp
theorem Dk.admit_free {D : Dk} {node : Int} {epoch : Nat} (hm : D.may node = 0) (hl : D.last < epoch) (hr : D.armed = false) : D.admit node epoch = (0, { D with table := setN D.table node.toNat epoch, last := epoch }) := by
  rw [Dk.admit, if_neg (by simp [hm]), if_neg (by omega), Dk.goes_free hr]
  simp
theorem Dk.put_free {D : Dk} {node : Int} {word : Nat} (hm : D.may node = 0) (hr : D.armed = false) : D.put node word = (0, { D with words := setN D.words node.toNat word }) := by
  rw [Dk.put, if_neg (by simp [hm]), Dk.goes_free hr]
  simp

/-- What a run of writes leaves of the rest of a disk. -/
theorem wrN_same (D : Dk) (node at_ : Int) (data : Bytes) (n : Nat) :
    (D.wrN node at_ data n).sectors = D.sectors ∧ (D.wrN node at_ data n).on = D.on ∧ (D.wrN node at_ data n).lasts = D.lasts ∧ (D.wrN node at_ data n).table = D.table ∧ (D.wrN node at_ data n).words = D.words ∧
    (D.wrN node at_ data n).last = D.last ∧ (D.wrN node at_ data n).armed = D.armed ∧ (D.wrN node at_ data n).left = D.left ∧ (D.wrN node at_ data n).stays = D.stays := by
  induction n with
  | zero => exact ⟨rfl, rfl, rfl, rfl, rfl, rfl, rfl, rfl, rfl⟩
  | succ n ih => exact ih

/-- Sectors of zeros, from the first on. -/
def Dk.wrZ (D : Dk) : Nat → Dk
  | 0 => D
  | k + 1 => { D.wrZ k with seq := (D.wrZ k).seq + 1, now := upd (D.wrZ k).now k (zs 64), waits := (D.wrZ k).waits ++ [⟨0, k, (D.wrZ k).seq + 1, zs 64⟩] }
theorem secAt_zs (n i : Nat) (h : i < n) : secAt (zs (64 * n)) i = zs 64 := by
  simp only [secAt, zs, List.drop_replicate, List.take_replicate]
  congr 1
  omega
theorem wrZ_wrN (D : Dk) (a n : Nat) : ∀ i, i ≤ n → (D.wrZ a).wrN 0 a (zs (64 * n)) i = D.wrZ (a + i)
  | 0, _ => rfl
  | i + 1, h => by
    rw [Dk.wrN, wrZ_wrN D a n i (by omega), Dk.wr1, secAt_zs n i (by omega), ← Nat.add_assoc, Dk.wrZ]
    simp
theorem wrZ_seq (D : Dk) (k : Nat) : (D.wrZ k).seq = D.seq + k ∧ (D.wrZ k).waits.length = D.waits.length + k := by
  induction k with
  | zero => exact ⟨rfl, rfl⟩
  | succ k ih => simp only [Dk.wrZ, ih.1, List.length_append, ih.2, List.length_singleton]; omega
theorem wrZ_same (D : Dk) (k : Nat) :
    (D.wrZ k).sectors = D.sectors ∧ (D.wrZ k).on = D.on ∧ (D.wrZ k).lasts = D.lasts ∧ (D.wrZ k).table = D.table ∧ (D.wrZ k).words = D.words ∧
    (D.wrZ k).last = D.last ∧ (D.wrZ k).armed = D.armed ∧ (D.wrZ k).left = D.left ∧ (D.wrZ k).stays = D.stays := by
  induction k with
  | zero => exact ⟨rfl, rfl, rfl, rfl, rfl, rfl, rfl, rfl, rfl⟩
  | succ n ih => exact ih
theorem wrZ_fit {D : Dk} {k : Nat} (hf : D.Fit) (h1 : D.seq + k ≤ 1000000000000) (h2 : D.waits.length + k ≤ 100000000) : (D.wrZ k).Fit := by
  obtain ⟨a0, _, _, _, _, _, _, a1, a2⟩ := wrZ_same D k
  obtain ⟨b0, b1⟩ := wrZ_seq D k
  exact ⟨by rw [a0]; exact hf.s0, by rw [a0]; exact hf.s1, by rw [b1]; exact h2, by rw [a2]; exact hf.stays, by rw [b0]; exact h1, by rw [a1]; exact hf.left⟩
theorem may_of {D D' : Dk} {n : Int} (h : D.may n = 0) (e : D'.on = D.on) : D'.may n = 0 := by unfold Dk.may at *; rw [e]; exact h
theorem admits_of {D D' : Dk} {n : Int} {p : Nat} (h : D.admits n p = 0) (e : D'.table = D.table) : D'.admits n p = 0 := by unfold Dk.admits at *; rw [e]; exact h

section
variable {w : World} {b : Nat} {D : Dk} {F : Nat → Prop}

set_option maxHeartbeats 800000 in
set_option maxRecDepth 100000 in
theorem zeros_ok (h : DiskAt w b D F) (hf : D.Fit) (epoch size : Nat) (hm : D.may 0 = 0) (ha : D.admits 0 epoch = 0) (hr : D.armed = false) (hs : size ≤ D.sectors) (hq : D.seq ≤ 1000) (hw : D.waits.length ≤ 1000) :
    Calls Tryz.prog 267 #[.pointer (some ⟨b, 0, none⟩), .int .u64 epoch, .int .i64 size] w fun e w' => e = .returned (.int .i64 0) ∧ DiskAt w' b ((D.wrZ size).settle 0) (grow F w w') ∧ Chg F w w' := by
  have hs2 : size ≤ 20000 := by have := hf.s1; omega
  have H := Lib.hid h
  have HF := Lib.hid hf
  have HM := Lib.hid hm
  have HA := Lib.hid ha
  have HR := Lib.hid hr
  clear h hf hm ha hr
  go_enter Tryz.func267, Tryz.ntmps267
  go_wp2_with fail
  go_loopw [7] (fun i wr => ∃ j : Nat, 16 * j < size + 16 ∧ i = .int .i64 (16 * j : Nat) ∧ Hid (DiskAt wr b (D.wrZ (min (16 * j) size)) (grow F w wr)) ∧ Hid (Chg F w wr)) (fun i _ => size + 16 - (intOf i).toNat)
  case atStart => exact ⟨0, by omega, rfl, Lib.hid (by simpa [Dk.wrZ] using H.out.no (Chg.refl _ _)), Lib.hid (Chg.refl _ _)⟩
  case round =>
    obtain ⟨j, hj, rfl, HD, HC⟩ := hrel
    by_cases hlt : 16 * j < size
    · obtain ⟨a, ha⟩ : ∃ a, a = 16 * j := ⟨_, rfl⟩
      rw [← ha] at hlt ⊢
      obtain ⟨n, hn⟩ : ∃ n, n = min 16 (size - a) := ⟨_, rfl⟩
      have hmin : min (16 : Int) ((size : Int) - a) = n := by omega
      have hn1 : 1 ≤ n := by omega
      have hn2 : n ≤ 16 := by omega
      have hn3 : a + n ≤ size := by omega
      have hnx : min (16 * (j + 1)) size = a + n := by omega
      have hDD := HD.out
      rw [show min (16 * j) size = a by omega] at hDD
      have HDD := Lib.hid hDD
      have HN := Lib.hid hn
      have HNX := Lib.hid hnx
      have HAJ := Lib.hid ha
      clear hDD HD hn hnx ha
      go_wp2_with fail
      refine (repeat_ok _ _ (by omega) (by omega)).mono ?_
      rintro e w2 ⟨rfl, hc2⟩
      rw [show ((n : Int) * 64).toNat = 64 * n by omega]
      have hd2 := HDD.out.no hc2
      have HD2 := Lib.hid hd2
      have HC2 := Lib.hid hc2
      clear hd2 hc2
      go_wp2_with fail
      obtain ⟨a0, a1, _, a3, _, _, a6, _, _⟩ := wrZ_same D a
      refine (Write_ok HD2.out (wrZ_fit HF.out (by omega) (by omega)) 0 epoch a (zs (64 * n)) (by rw [zs_length]; omega)).mono ?_
      rw [Dk.write_free (n := n) (may_of HM.out a1) (admits_of HA.out a3) (by rw [a6]; exact HR.out) (zs_length _) hn1 hn2 (by unfold Dk.there; rw [a0]; simp only [decide_eq_true_eq]; omega), wrZ_wrN D a n n (Nat.le_refl _)]
      rintro e w3 ⟨rfl, hd3, hc3⟩
      have HD3 := Lib.hid hd3
      have HC3 := Lib.hid hc3
      clear hd3 hc3 a0 a1 a3 a6
      go_wp2_with fail
      refine ⟨⟨j + 1, by have := HAJ.out; omega, ?_, Lib.hid ?_, Lib.hid ?_⟩, ?_⟩
      · have := HAJ.out
        congr 1
        omega
      · rw [HNX.out]
        refine HD3.out.wide (fun k hk => ?_) (grow_lt H.out.lt (Nat.le_trans HC.out.size (Nat.le_trans HC2.out.size HC3.out.size)))
        have z1 := HC.out.size
        have z2 := HC2.out.size
        have z3 := HC3.out.size
        rcases hk with (h | h) | h
        · rcases h with h | h
          · exact .inl h
          · exact .inr (by omega)
        · exact .inr (by omega)
        · exact .inr (by omega)
      · refine (HC.out.trans_no HC2.out).trans HC3.out (fun k hk => ?_)
        rcases hk with h | h
        · rcases h with h | h
          · exact .inl h
          · exact .inr h.1
        · exact .inr (by have := HC.out.size; omega)
      · simp [intOf]; omega
    · have hDD := HD.out
      rw [show min (16 * j) size = size by omega] at hDD
      obtain ⟨a, ha⟩ : ∃ a, a = 16 * j := ⟨_, rfl⟩
      rw [← ha] at hlt ⊢
      have HDD := Lib.hid hDD
      clear hDD HD ha
      obtain ⟨a0, a1, _, a3, _, _, a6, _, _⟩ := wrZ_same D size
      have HAF := Lib.hid a6
      have HA1 := Lib.hid a1
      have HA3 := Lib.hid a3
      clear a0 a1 a3 a6
      go_wp2_with fail
      refine (Barrier_ok HDD.out (wrZ_fit HF.out (by omega) (by omega)) 0 epoch).mono ?_
      rw [Dk.barrier_free (may_of HM.out HA1.out) (admits_of HA.out HA3.out) (by rw [HAF.out]; exact HR.out)]
      rintro e w3 ⟨rfl, hd3, hc3⟩
      have HD3 := Lib.hid hd3
      have HC3 := Lib.hid hc3
      clear hd3 hc3
      go_wp2_with fail
      go_ret
      refine ⟨rfl, HD3.out.wide (grow_grow HC.out.size HC3.out.size) (grow_lt H.out.lt (Nat.le_trans HC.out.size HC3.out.size)), HC.out.trans_grow HC3.out⟩
end
end Go.Proofs.YtmmnjecaedmleaaGreatDoor
