import Derived.Test.YtmmnjecaedmleaaGreatDoorM28

/- Plain laws: a log of a few records on the disk; what a run does of it. -/
namespace Go.Proofs.YtmmnjecaedmleaaGreatDoor
open Go.RowKit

theorem secAt_left {a b : Bytes} {m i : Nat} (h : a.length = 64 * m) (hi : i < m) : secAt (a ++ b) i = secAt a i := by
  unfold secAt
  rw [List.drop_append_of_le_length (by omega), List.take_append_of_le_length (by rw [List.length_drop]; omega)]
theorem secAt_right {a b : Bytes} {m i : Nat} (h : a.length = 64 * m) (hi : m ≤ i) : secAt (a ++ b) i = secAt b (i - m) := by
  unfold secAt
  rw [show i * 64 = a.length + (i - m) * 64 by omega, List.drop_append, List.drop_eq_nil_of_le (by omega), List.nil_append, Nat.add_sub_cancel_left]
theorem secAt_zs' {k i : Nat} (h : 64 * (i + 1) ≤ k) : secAt (zs k) i = zs 64 := by
  unfold secAt zs
  rw [List.drop_replicate, List.take_replicate]
  congr 1
  omega

theorem oneImg_fine (n v : Nat) (hn : n < 4096) (hv : v < 18446744073709551616) : (oneImg n v).fine := by
  refine ⟨?_, hv⟩
  show decide (0 ≤ (n : Int) ∧ (n : Int) < 4096 ∧ (oneData n).length = 96) = true
  rw [oneData_length]
  simp
  omega
theorem wrong_one (e n : Nat) (x : Img) (he : 0 < e) (hn : 0 < n) (hx : x.right = true) : wrongOf e n [x] = 0 := by
  unfold wrongOf
  rw [if_neg (by simp; omega)]
  unfold wrongL
  have h : allGood [x] = true := by
    unfold allGood
    simp only [decide_eq_true_eq]
    intro i hi
    obtain rfl : i = 0 := by simpa using hi
    simp [goodAt, hx]
  rw [h]
  simp

/-- The run of images over a disk whose blocks have these versions. -/
def Vers (D : Dk) (was : Int → Nat) : Prop := ∀ b, 0 ≤ b → b ≤ 9 → ∃ img, blkGet b (D.blk b) = (img, 0) ∧ img.version = was b
theorem apply_go {t1 t2 : Nat} {node : Int} {ep : Nat} (hw : Who t1 t2 node ep) : ∀ (l : List Img) (n : Nat) (D : Dk) (was : Int → Nat) (N : Nat), Up D t1 t2 (N + 16 * l.length) → (∀ i ∈ l, i.fine ∧ i.block ≤ 9) → (l.map Img.block).Nodup → Vers D was →
    ∃ D', applyGo sh0 node ep l n D = (0, n + (l.filter (fun i => decide (was i.block < i.version))).length, D') ∧ Up D' t1 t2 N ∧ (∀ i ∈ l, was i.block < i.version → D'.blk i.block = blkBytes i) ∧
      (∀ b, (∀ i ∈ l, i.block = b → ¬ was b < i.version) → D'.blk b = D.blk b) ∧ (∀ k, k < 17 → D'.sec k = D.sec k) ∧ D'.last = D.last
  | [], n, D, was, N, hu, _, _, _ => ⟨D, by simp [applyGo], hu.le (by omega), by simp, fun _ _ => rfl, fun _ _ => rfl, rfl⟩
  | i :: l, n, D, was, N, hu, hf, hn, hv => by
    rw [List.length_cons] at hu
    rw [List.map_cons, List.nodup_cons] at hn
    obtain ⟨hi, hib⟩ := hf i (by simp)
    have hi0 := hi.blk.1
    obtain ⟨img, hg, hver⟩ := hv i.block hi0 hib
    have hld := hu.load hi0 hib
    rw [hg] at hld
    have hne : ∀ j ∈ l, j.block ≠ i.block := fun j hj e => hn.1 (e ▸ List.mem_map.2 ⟨j, hj, rfl⟩)
    by_cases hnew : was i.block < i.version
    · obtain ⟨D1, hs, hu1, hb1, ho1, hs1, hl1⟩ := Up.store (N := N + 16 * l.length) (hu.le (by omega)) hw hi hib
      have hv1 : Vers D1 (fun b => if b = i.block then i.version else was b) := by
        intro b h0 h1
        by_cases hb : b = i.block
        · subst hb
          exact ⟨i, by rw [hb1]; exact blkGet_put i hi, by simp⟩
        · rw [ho1 b hb]
          obtain ⟨im, h2, h3⟩ := hv b h0 h1
          exact ⟨im, h2, by simp [hb, h3]⟩
      obtain ⟨D', h1, h2, h3, h4, h5, h6⟩ := apply_go hw l (n + 1) D1 _ N hu1 (fun j hj => hf j (by simp [hj])) hn.2 hv1
      refine ⟨D', ?_, h2, ?_, ?_, ?_, h6.trans hl1⟩
      · rw [applyGo, hld]
        simp only
        rw [if_neg (by simp), if_neg (by rw [hver]; simp; omega), hs]
        simp only
        rw [if_neg (by simp), h1]
        have hfl : l.filter (fun j => decide ((if j.block = i.block then i.version else was j.block) < j.version)) = l.filter (fun j => decide (was j.block < j.version)) :=
          List.filter_congr (fun j hj => by rw [if_neg (hne j hj)])
        rw [hfl, List.filter_cons, if_pos (by simpa using hnew), List.length_cons]
        congr 2
        omega
      · intro j hj hjv
        rcases List.mem_cons.1 hj with rfl | hj
        · rw [h4 j.block (fun k hk e => absurd e (hne k hk)), hb1]
        · exact h3 j hj (by rw [if_neg (hne j hj)]; exact hjv)
      · intro b hb
        have hbi : b ≠ i.block := fun e => hb i (by simp) e.symm (e ▸ hnew)
        rw [h4 b (fun k hk e => by rw [if_neg hbi]; exact hb k (by simp [hk]) e), ho1 b hbi]
      · intro k hk
        rw [h5 k hk, hs1 k hk]
    · obtain ⟨D', h1, h2, h3, h4, h5, h6⟩ := apply_go hw l n D was N (hu.le (by omega)) (fun j hj => hf j (by simp [hj])) hn.2 hv
      refine ⟨D', ?_, h2, ?_, ?_, h5, h6⟩
      · rw [applyGo, hld]
        simp only
        rw [if_neg (by simp), if_pos (by rw [hver]; exact ⟨trivial, by omega⟩), h1]
        rw [List.filter_cons, if_neg (by simpa using hnew)]
      · intro j hj hjv
        rcases List.mem_cons.1 hj with rfl | hj
        · exact absurd hjv hnew
        · exact h3 j hj hjv
      · intro b hb
        exact h4 b (fun k hk => hb k (by simp [hk]))

theorem logAt1 : sh0.logAt 1 = (1, 0) := by decide
theorem readB_one (D : Dk) (k : Int) : readB D k 1 = D.sec k := by
  rw [readB_sec]
  show [] ++ D.sec (k + ((0 : Nat) : Int)) = _
  rw [List.nil_append, show k + ((0 : Nat) : Int) = k by omega]
/-- The log on the disk: its head, and what stands behind it. -/
structure LogOn (D : Dk) (area : Bytes) : Prop where
  head : D.sec 1 = headBytes ⟨9, 1, 0⟩
  len : area.length = 448
  secs : ∀ i : Nat, i < 7 → D.sec (2 + i) = secAt area i
theorem head0_right : Hd.right ⟨9, 1, 0⟩ = true := by decide
theorem LogOn.rhead {D : Dk} {area : Bytes} {t1 t2 N : Nat} (h : LogOn D area) (hu : Up D t1 t2 N) : D.rhead sh0 1 = (⟨9, 1, 0⟩, true, 0) := by
  have hr : D.read 1 1 = (readB D 1 1, 0) := hu.read (at_ := 1) (n := 1) (by omega) (by omega) (by omega)
  unfold Dk.rhead
  rw [logAt1]
  simp only
  rw [if_neg (by simp), hr]
  simp only
  rw [if_neg (by simp), readB_one, h.head, getHead_put _ head0_right (by decide) (by decide)]
  rfl
theorem LogOn.scan {D : Dk} {area : Bytes} {t1 t2 N : Nat} (h : LogOn D area) (hu : Up D t1 t2 N) : D.scan sh0 1 = (scanL 449 9 1 area, 0) := by
  have hr : D.read 2 7 = (readB D 2 7, 0) := hu.read (at_ := 2) (n := 7) (by omega) (by omega) (by omega)
  have hrd : readB D 2 7 = area := by
    rw [readB_data D 2 area 7 h.secs, List.take_of_length_le (by rw [h.len]; omega)]
  unfold Dk.scan
  rw [h.rhead hu, logAt1]
  simp only
  rw [if_neg (by decide)]
  have e : ((sh0.log : Int) - 1) = 7 := by decide
  rw [e, show (1 : Int) + 1 = 2 from rfl, hr]
  simp only
  rw [if_neg (by simp), hrd, scanB]
  simp only [Nat.mul_zero, List.drop_zero, List.take_zero, List.append_nil]
  rw [h.len]
theorem rhead_zero {D : Dk} {t1 t2 N : Nat} (h : D.sec 1 = zs 64) (hu : Up D t1 t2 N) : D.rhead sh0 1 = (noHd, false, 0) := by
  have hr : D.read 1 1 = (readB D 1 1, 0) := hu.read (at_ := 1) (n := 1) (by omega) (by omega) (by omega)
  unfold Dk.rhead
  rw [logAt1]
  simp only
  rw [if_neg (by simp), hr]
  simp only
  rw [if_neg (by simp), readB_one, h, getHead_zs]
  rfl
theorem scan_zero {D : Dk} {t1 t2 N : Nat} (h : D.sec 1 = zs 64) (hu : Up D t1 t2 N) : D.scan sh0 1 = ([], 0) := by
  unfold Dk.scan
  rw [rhead_zero h hu]
  rfl
theorem run_zero {D : Dk} {t1 t2 N : Nat} (h : D.sec 1 = zs 64) (hu : Up D t1 t2 N) (of : Nat) (by_ : Int) (ep : Nat) : D.run sh0 1 of by_ ep = (0, 0, D) := by
  unfold Dk.run
  rw [rhead_zero h hu, if_pos (.inr (.inl rfl))]
theorem Dk.settle_blk (D : Dk) (node b : Int) : (D.settle node).blk b = D.blk b := rfl
theorem run_log {D : Dk} {area : Bytes} {t1 t2 N : Nat} (h : LogOn D area) {node : Int} {ep : Nat} (hw : Who t1 t2 node ep) (is : List Img) (hsc : planOf (imgsOf (scanL 449 9 1 area)) = is) (was : Int → Nat)
    (hu : Up D t1 t2 (N + 16 * is.length + 16)) (hf : ∀ i ∈ is, i.fine ∧ i.block ≤ 9) (hn : (is.map Img.block).Nodup) (hv : Vers D was) :
    ∃ D', D.run sh0 1 9 node ep = (0, (is.filter (fun i => decide (was i.block < i.version))).length, D') ∧ Up D' t1 t2 N ∧ D'.sec 1 = zs 64 ∧ (∀ i ∈ is, was i.block < i.version → D'.blk i.block = blkBytes i) ∧
      (∀ b, 0 ≤ b → (∀ i ∈ is, i.block = b → ¬ was b < i.version) → D'.blk b = D.blk b) := by
  obtain ⟨D1, h1, hu1, h3, h4, h5, h6⟩ := apply_go hw is 0 D was (N + 16) (hu.le (by omega)) hf hn hv
  rw [Nat.zero_add] at h1
  obtain ⟨c, hc⟩ : ∃ c, (is.filter (fun i => decide (was i.block < i.version))).length = c := ⟨_, rfl⟩
  rw [hc] at h1 ⊢
  -- the end of apply
  obtain ⟨D2, h7, hu2, hs2⟩ : ∃ D2, D.apply sh0 node ep is = (0, c, D2) ∧ Up D2 t1 t2 (N + 16) ∧ ∀ k, D2.sec k = D1.sec k := by
    unfold Dk.apply
    rw [h1]
    unfold applyEnd
    rw [if_neg (by simp)]
    simp only
    by_cases h0 : 0 < c
    · obtain ⟨hb, hub⟩ := hu1.barrier hw
      rw [if_pos h0, hb]
      exact ⟨_, by simp, hub, fun _ => rfl⟩
    · rw [if_neg h0]
      exact ⟨D1, rfl, hu1, fun _ => rfl⟩
  obtain ⟨hwr, hu3⟩ := hu2.write hw (at_ := 1) (data := zs 64) (n := 1) (by simp) (by omega) (by omega) (by omega) (by omega)
  obtain ⟨hb4, hu4⟩ := hu3.barrier hw
  have hsec : ∀ k, ((D2.wrN node 1 (zs 64) 1).settle node).sec k = if k = 1 then zs 64 else D1.sec k := by
    intro k
    rw [settle_sec, wrN_sec]
    by_cases hk : k = 1
    · subst hk
      rw [if_pos (by omega), if_pos rfl, show ((1 : Int) - 1).toNat = 0 from rfl]
      exact secAt_zs' (by omega)
    · rw [if_neg (by omega), if_neg hk, hs2]
  have hblk : ∀ b, 0 ≤ b → ((D2.wrN node 1 (zs 64) 1).settle node).blk b = D1.blk b := by
    intro b hb
    unfold Dk.blk
    rw [hsec, hsec, if_neg (by omega), if_neg (by omega)]
  refine ⟨_, ?_, hu4, by rw [hsec, if_pos rfl], ?_, ?_⟩
  · unfold Dk.run
    rw [h.rhead (hu.le (Nat.le_refl _)), h.scan hu, logAt1]
    simp only
    rw [if_neg (by simp), if_neg (by simp), hsc, h7]
    simp only
    rw [if_neg (by simp), hwr]
    simp only
    rw [if_neg (by simp), hb4]
    simp
  · intro i hi hiv
    rw [hblk _ (hf i hi).1.blk.1]
    exact h3 i hi hiv
  · intro b hb0 hb
    rw [hblk b hb0]
    exact h4 b hb
end Go.Proofs.YtmmnjecaedmleaaGreatDoor

/- Plain laws: a log that is begun, gets records, is made to last. -/
namespace Go.Proofs.YtmmnjecaedmleaaGreatDoor
open Go.RowKit

theorem who19 {t2 : Nat} : Who 9 t2 1 9 := ⟨by omega, .inl ⟨rfl, rfl⟩⟩
theorem headBytes_len (h : Hd) : (headBytes h).length = 64 := stamp_length _ (by simp [headBody])
theorem open_log {D : Dk} {t2 N : Nat} (hu : Up D 9 t2 (N + 16)) : ∃ D', D.logHead (Lg.new sh0 1 9 1) 1 0 = (0, D') ∧ Up D' 9 t2 N ∧ (∀ k, D'.sec k = if k = 1 then headBytes ⟨9, 1, 0⟩ else D.sec k) ∧ D'.last = D.last := by
  have hl := headBytes_len ⟨9, 1, 0⟩
  obtain ⟨hw, hu1⟩ := hu.write who19 (at_ := 1) (data := headBytes ⟨9, 1, 0⟩) (n := 1) (by omega) (by omega) (by omega) (by omega) (by omega)
  obtain ⟨hb, hu2⟩ := hu1.barrier who19
  refine ⟨_, ?_, hu2, ?_, ?_⟩
  · unfold Dk.logHead
    show (if Hd.right ⟨9, 1, 0⟩ = false then _ else _) = _
    rw [head0_right, if_neg (by decide)]
    show (if (D.write 1 9 1 (headBytes ⟨9, 1, 0⟩)).1 ≠ 0 then D.write 1 9 1 (headBytes ⟨9, 1, 0⟩) else (D.write 1 9 1 (headBytes ⟨9, 1, 0⟩)).2.barrier 1 9) = _
    rw [hw]
    simp only
    rw [if_neg (by simp), hb]
  · intro k
    rw [settle_sec, wrN_sec]
    by_cases hk : k = 1
    · subst hk
      rw [if_pos (by omega), if_pos rfl, show ((1 : Int) - 1).toNat = 0 from rfl]
      unfold secAt
      rw [Nat.zero_mul, List.drop_zero, List.take_of_length_le (by omega)]
    · rw [if_neg (by omega), if_neg hk]
  · exact (wrN_same D 1 1 (headBytes ⟨9, 1, 0⟩) 1).2.2.2.2.2.1

/-- The record of an image alone, in its place. -/
def ent1 (k : Nat) (x : Img) : Ent := ⟨k + 1, 3 * k, 3, recBytes 9 (k + 1) [x], false⟩
/-- A log that holds such records. -/
def logS (l : List Img) : Lg := { Lg.new sh0 1 9 1 with live := (l.zipIdx).map (fun p => ent1 p.2 p.1), at_ := 3 * l.length, next := l.length + 1 }
theorem logS_nil : logS [] = Lg.new sh0 1 9 1 := rfl
theorem sumN_zip (l : List Img) (k : Nat) : sumN ((l.zipIdx k).map (fun p => ent1 p.2 p.1)) = 3 * l.length := by
  induction l generalizing k with
  | nil => rfl
  | cons a l ih => rw [List.zipIdx_cons, List.map_cons, sumN, ih, List.length_cons]; show 3 + _ = _; omega
theorem secs1 : secs 1 = 3 := by decide
theorem logS_used (l : List Img) : (logS l).used = 3 * l.length := sumN_zip l 0
theorem add_yes1 (l : List Img) (x : Img) (hx : x.right = true) (h : l.length ≤ 1) : (logS l).add 1 [x] = (l.length + 1, 0, logS (l ++ [x])) := by
  unfold Lg.add
  have hw : wrongOf (logS l).epoch (logS l).next [x] = 0 := wrong_one _ _ x (by show 0 < 9; omega) (by show 0 < l.length + 1; omega) hx
  rw [if_neg (by show ¬ (false = true); decide), hw, if_neg (by simp), if_neg (by simp), if_neg]
  · have e : (logS l).added [x] = logS (l ++ [x]) := by
      unfold Lg.added logS
      simp only [List.length_append, List.length_singleton, List.zipIdx_append, List.map_append, secs1]
      congr 1
      · show (3 * l.length + 3) % (8 - 1) = _
        omega
      · rw [Nat.zero_add, List.zipIdx_cons, List.zipIdx_nil, List.map_cons, List.map_nil]
        unfold Lg.ent ent1
        simp only [List.length_singleton, secs1]
        rfl
    rw [e]
    rfl
  · rw [logS_used]
    show ¬ decide (secs 1 + 3 * l.length ≤ 8 - 1) = false
    rw [secs1]
    simp
    omega
theorem add_full1 (l : List Img) (x : Img) (hx : x.right = true) (h : 2 ≤ l.length) : (logS l).add 1 [x] = (0, 10, logS l) := by
  unfold Lg.add
  have hw : wrongOf (logS l).epoch (logS l).next [x] = 0 := wrong_one _ _ x (by show 0 < 9; omega) (by show 0 < l.length + 1; omega) hx
  rw [if_neg (by show ¬ (false = true); decide), hw, if_neg (by simp), if_neg (by simp), if_pos]
  rw [logS_used]
  show decide (secs 1 + 3 * l.length ≤ 8 - 1) = false
  rw [secs1]
  simp
  omega
theorem logS_fitN (l : List Img) (h : l.length ≤ 2) : (logS l).FitN 1000 := by
  refine ⟨sh0_ok, ?_, ?_, ?_, ?_⟩
  · show l.length + 1 + 1000 ≤ _; omega
  · show 3 * l.length ≤ 256; omega
  · show ((l.zipIdx).map _).length + 1000 ≤ _; simp; omega
  · intro x hx
    obtain ⟨p, _, rfl⟩ := List.mem_map.1 hx
    show 3 ≤ 1000
    omega
theorem rec1_len (e n : Nat) (x : Img) : (recBytes e n [x]).length = 192 := by
  rw [recBytes, show secs [x].length = 3 from secs1, recN_length]
theorem logS_good (l : List Img) (h : l.length ≤ 2) : (logS l).Good := by
  refine ⟨sh0_ok, by show (0 : Int) ≤ 1; omega, by show (1 : Int) ≤ 1000000; omega, by show ((l.zipIdx).map _).length ≤ 1000; simp; omega, ?_⟩
  intro x hx
  obtain ⟨p, hp, rfl⟩ := List.mem_map.1 hx
  have hp2 := List.snd_lt_of_mem_zipIdx hp
  refine ⟨by show 3 ≤ 1000; omega, by show 3 * p.2 ≤ 256; omega, fun _ => ?_⟩
  show (recBytes 9 (p.2 + 1) [p.1]).length = 64 * 3
  rw [rec1_len]

theorem putE_one {D : Dk} {L : Lg} {x : Ent} (hs : L.s = sh0) (hn : L.node = 1) (he : L.epoch = 9) (hb : L.base = 1) (h3 : x.n = 3) (ha : x.at_ ≤ 4) (hl : x.bytes.length = 192) : D.putE L x = D.write 1 9 (2 + (x.at_ : Int)) x.bytes := by
  have hat : putAt L x 0 = x.at_ := by
    unfold putAt
    rw [hs]
    show (x.at_ + 0) % 7 = x.at_
    omega
  have hpn : putN L x 0 = 3 := by
    unfold putN
    rw [hat, h3, hs]
    show min 16 (min (3 - 0) (7 - x.at_)) = 3
    omega
  have h1 : D.put1 L x 0 = D.write 1 9 (2 + (x.at_ : Int)) x.bytes := by
    unfold Dk.put1
    have that : (x.bytes.drop (64 * 0)).take (64 * 3) = x.bytes := by rw [Nat.mul_zero, List.drop_zero, List.take_of_length_le (Nat.le_of_eq hl)]
    rw [hat, hpn, hn, he, hb, that]
    rfl
  unfold Dk.putE
  rw [h3, Dk.putFrom, if_neg (by omega), h1, hpn]
  by_cases h0 : (D.write 1 9 (2 + (x.at_ : Int)) x.bytes).1 = 0
  · rw [if_neg (by simpa using h0), Dk.putFrom, if_pos (by omega), ← h0]
  · rw [if_pos h0]

/-- What stands behind the head once all records last. -/
def areaOf (l : List Img) : Bytes := ((l.zipIdx).map (fun p => recBytes 9 (p.2 + 1) [p.1])).flatten ++ zs (448 - 192 * l.length)
end Go.Proofs.YtmmnjecaedmleaaGreatDoor

/- Plain laws: what Sync leaves, and what is found again. -/
namespace Go.Proofs.YtmmnjecaedmleaaGreatDoor
open Go.RowKit

theorem areaOf_nil : areaOf [] = zs 448 := rfl
theorem areaOf_one (a : Img) : areaOf [a] = recBytes 9 1 [a] ++ zs 256 := by
  show (recBytes 9 1 [a] ++ []) ++ zs 256 = _
  rw [List.append_nil]
theorem areaOf_two (a b : Img) : areaOf [a, b] = recBytes 9 1 [a] ++ (recBytes 9 2 [b] ++ zs 64) := by
  have e : areaOf [a, b] = (recBytes 9 1 [a] ++ (recBytes 9 2 [b] ++ [])) ++ zs (448 - 192 * (0 + 1 + 1)) := rfl
  rw [e, List.append_nil, List.append_assoc]
theorem areaOf_len (l : List Img) (h : l.length ≤ 2) : (areaOf l).length = 448 := by
  match l, h with
  | [], _ => rw [areaOf_nil, zs, List.length_replicate]
  | [a], _ => rw [areaOf_one, List.length_append, rec1_len, zs, List.length_replicate]
  | [a, b], _ => rw [areaOf_two, List.length_append, List.length_append, rec1_len, rec1_len, zs, List.length_replicate]
theorem writeGo_step {f k n : Nat} {D D1 : Dk} {L : Lg} {x : Ent} (hx : L.live[k]? = some x) (hw : x.written = false) (hp : D.putE L x = (0, D1)) : writeGo (f + 1) k n D L = writeGo f (k + 1) (n + 1) D1 (L.wrote k x) := by
  rw [writeGo, hx]
  simp only
  rw [if_neg (by simp [hw]), hp, if_neg (by simp)]
theorem logSync_wrote {D D1 D2 : Dk} {L L1 : Lg} {n : Nat} (h : logWrite D L = (0, n, D1, L1)) (hl : L1.synced < L1.written) (hb : D1.barrier L1.node L1.epoch = (0, D2)) : logSync D L = (0, D2, { L1 with synced := L1.written }) := by
  unfold logSync
  rw [h]
  simp only
  rw [if_neg (by simp), if_pos hl, hb]
  simp only
  rw [if_neg (by simp)]
theorem put_up {D : Dk} {t2 N : Nat} (hu : Up D 9 t2 (N + 16)) {L : Lg} {x : Img} {k : Nat} (hs : L.s = sh0) (hn : L.node = 1) (he : L.epoch = 9) (hb : L.base = 1) (hk : k ≤ 1) :
    D.putE L (ent1 k x) = (0, D.wrN 1 (2 + ((3 * k : Nat) : Int)) (recBytes 9 (k + 1) [x]) 3) ∧ Up (D.wrN 1 (2 + ((3 * k : Nat) : Int)) (recBytes 9 (k + 1) [x]) 3) 9 t2 N := by
  have h := putE_one (D := D) (L := L) (x := ent1 k x) hs hn he hb rfl (by show 3 * k ≤ 4; omega) (rec1_len _ _ _)
  obtain ⟨hw, hu1⟩ := hu.write who19 (at_ := 2 + ((3 * k : Nat) : Int)) (data := recBytes 9 (k + 1) [x]) (n := 3) (rec1_len _ _ _) (by omega) (by omega) (by omega) (by omega)
  exact ⟨h.trans hw, hu1⟩
theorem sync_none {D : Dk} : logSync D (logS []) = (0, D, logS []) := rfl
theorem sync_one {D : Dk} {t2 N : Nat} (a : Img) (hu : Up D 9 t2 (N + 32)) :
    ∃ D' L', logSync D (logS [a]) = (0, D', L') ∧ Up D' 9 t2 N ∧ (∀ k, D'.sec k = (D.wrN 1 2 (recBytes 9 1 [a]) 3).sec k) ∧ D'.last = D.last := by
  obtain ⟨hp, hu1⟩ := put_up (N := N) (hu.le (by omega)) (L := logS [a]) (x := a) (k := 0) rfl rfl rfl rfl (by omega)
  obtain ⟨hb, hu2⟩ := hu1.barrier who19
  have hgo : logWrite D (logS [a]) = (0, 1, D.wrN 1 2 (recBytes 9 1 [a]) 3, (logS [a]).wrote 0 (ent1 0 a)) :=
    writeGo_step (f := 0) (k := 0) (n := 0) (L := logS [a]) (x := ent1 0 a) rfl rfl hp
  exact ⟨_, _, logSync_wrote hgo (by show (0 : Nat) < 1; omega) hb, hu2, fun k => settle_sec _ _ _, (wrN_same D 1 2 (recBytes 9 1 [a]) 3).2.2.2.2.2.1⟩
theorem sync_two {D : Dk} {t2 N : Nat} (a b : Img) (hu : Up D 9 t2 (N + 32)) :
    ∃ D' L', logSync D (logS [a, b]) = (0, D', L') ∧ Up D' 9 t2 N ∧ (∀ k, D'.sec k = ((D.wrN 1 2 (recBytes 9 1 [a]) 3).wrN 1 5 (recBytes 9 2 [b]) 3).sec k) ∧ D'.last = D.last := by
  obtain ⟨hp, hu1⟩ := put_up (N := N + 16) hu (L := logS [a, b]) (x := a) (k := 0) rfl rfl rfl rfl (by omega)
  obtain ⟨hq, hu2⟩ := put_up (N := N) hu1 (L := (logS [a, b]).wrote 0 (ent1 0 a)) (x := b) (k := 1) rfl rfl rfl rfl (by omega)
  obtain ⟨hb, hu3⟩ := hu2.barrier who19
  have hgo : logWrite D (logS [a, b]) = (0, 2, (D.wrN 1 2 (recBytes 9 1 [a]) 3).wrN 1 5 (recBytes 9 2 [b]) 3, ((logS [a, b]).wrote 0 (ent1 0 a)).wrote 1 (ent1 1 b)) :=
    (writeGo_step (f := 1) (k := 0) (n := 0) (L := logS [a, b]) (x := ent1 0 a) rfl rfl hp).trans
      (writeGo_step (f := 0) (k := 1) (n := 1) (L := (logS [a, b]).wrote 0 (ent1 0 a)) (x := ent1 1 b) rfl rfl hq)
  exact ⟨_, _, logSync_wrote hgo (by show (0 : Nat) < 2; omega) hb, hu3, fun k => settle_sec _ _ _,
    ((wrN_same _ 1 5 (recBytes 9 2 [b]) 3).2.2.2.2.2.1).trans (wrN_same D 1 2 (recBytes 9 1 [a]) 3).2.2.2.2.2.1⟩
theorem sync_law {D : Dk} {t2 N : Nat} (l : List Img) (h : l.length ≤ 2) (hu : Up D 9 t2 (N + 32)) (h1 : D.sec 1 = headBytes ⟨9, 1, 0⟩) (hz : ∀ k : Int, 2 ≤ k → k ≤ 8 → D.sec k = zs 64) :
    ∃ D' L', logSync D (logS l) = (0, D', L') ∧ Up D' 9 t2 N ∧ LogOn D' (areaOf l) ∧ (∀ k : Int, 9 ≤ k → D'.sec k = D.sec k) ∧ D'.last = D.last := by
  match l, h with
  | [], h =>
    refine ⟨D, _, sync_none, hu.le (by omega), ⟨h1, areaOf_len [] h, fun i hi => ?_⟩, fun k _ => rfl, rfl⟩
    rw [hz _ (by omega) (by omega)]
    rw [areaOf_nil, secAt_zs' (k := 448) (by omega)]
  | [a], h =>
    obtain ⟨D', L', e, hu1, hs, hl⟩ := sync_one a hu
    refine ⟨D', L', e, hu1, ⟨?_, areaOf_len [a] h, fun i hi => ?_⟩, fun k hk => ?_, hl⟩
    · rw [hs, wrN_sec, if_neg (by omega), h1]
    · rw [hs, wrN_sec, areaOf_one]
      by_cases h3 : i < 3
      · rw [if_pos (by omega), secAt_left (m := 3) (rec1_len _ _ _) h3]
        congr 1; omega
      · rw [if_neg (by omega), hz _ (by omega) (by omega), secAt_right (m := 3) (rec1_len _ _ _) (by omega), secAt_zs' (by omega)]
    · rw [hs, wrN_sec, if_neg (by omega)]
  | [a, b], h =>
    obtain ⟨D', L', e, hu1, hs, hl⟩ := sync_two a b hu
    refine ⟨D', L', e, hu1, ⟨?_, areaOf_len [a, b] h, fun i hi => ?_⟩, fun k hk => ?_, hl⟩
    · rw [hs, wrN_sec, if_neg (by omega), wrN_sec, if_neg (by omega), h1]
    · rw [hs, wrN_sec, wrN_sec, areaOf_two]
      by_cases h3 : i < 3
      · rw [if_neg (by omega), if_pos (by omega), secAt_left (m := 3) (rec1_len _ _ _) h3]
        congr 1; omega
      · rw [secAt_right (m := 3) (rec1_len _ _ _) (by omega)]
        by_cases h6 : i < 6
        · rw [if_pos (by omega), secAt_left (m := 3) (rec1_len _ _ _) (by omega)]
          congr 1; omega
        · rw [if_neg (by omega), if_neg (by omega), hz _ (by omega) (by omega), secAt_right (m := 3) (rec1_len _ _ _) (by omega), secAt_zs' (by omega)]
    · rw [hs, wrN_sec, if_neg (by omega), wrN_sec, if_neg (by omega)]

theorem scan_zs (f e n k : Nat) : scanL f e n (zs k) = [] := by
  cases f with
  | zero => rfl
  | succ f => rw [scanL, recGet_zs]
theorem scan_rec (f n : Nat) (x : Img) (r : Bytes) (hn : 0 < n) (hn2 : n < 1000) (hr : x.right = true) (hv : x.version < 18446744073709551616) : scanL (f + 1) 9 n (recBytes 9 n [x] ++ r) = ⟨9, n, [x]⟩ :: scanL f 9 (n + 1) r := by
  have h := recGet_put 9 n [x] r (wrong_one 9 n x (by omega) hn hr) (by omega) (by omega) (by intro y hy; obtain rfl := List.mem_singleton.1 hy; exact hv)
  rw [scanL, h]
  simp only
  rw [if_neg (by simp), show secs [x].length = 3 from secs1, List.drop_left' (by rw [rec1_len]), show u64n (n + 1) = n + 1 from by unfold u64n; omega]
theorem scan_area (l : List Img) (h : l.length ≤ 2) (hr : ∀ x ∈ l, x.fine) : imgsOf (scanL 449 9 1 (areaOf l)) = l := by
  match l, h with
  | [], _ => rw [areaOf_nil, scan_zs]; rfl
  | [a], _ =>
    have ha := hr a (by simp)
    rw [areaOf_one, scan_rec 448 1 a _ (by omega) (by omega) ha.1 ha.2, scan_zs]; rfl
  | [a, b], _ =>
    have ha := hr a (by simp)
    have hb := hr b (by simp)
    rw [areaOf_two, scan_rec 448 1 a _ (by omega) (by omega) ha.1 ha.2,
      scan_rec 447 2 b _ (by omega) (by omega) hb.1 hb.2, scan_zs]; rfl
theorem plan_none : planOf [] = [] := rfl
theorem plan_one (x : Img) : planOf [x] = [x] := by
  simp [planOf, keysL, insK, planF, planUp, upd]
theorem plan_two (x y : Img) (h : x.block < y.block) : planOf [x, y] = [x, y] := by
  have h1 : ¬ y.block = x.block := by omega
  have h2 : ¬ x.block = y.block := by omega
  simp [planOf, keysL, insK, planF, planUp, upd, h, h1, h2]
end Go.Proofs.YtmmnjecaedmleaaGreatDoor

/- The system of disk and log that a law walks with: contracts with a fixed set of kept blocks. -/
namespace Go.Proofs.YtmmnjecaedmleaaGreatDoor
open Go.RowKit

/-- A disk of its own; the blocks of K are no part of it. -/
def Sy0 (K : Nat → Prop) (w : World) (b : Nat) (D : Dk) : Prop := ∃ F, DiskAt w b D F ∧ ∀ k, K k → ¬ F k ∧ k < w.heap.size
/-- A disk and a log of their own; the blocks of K are no part of either. -/
def Sy (K : Nat → Prop) (w : World) (b g : Nat) (D : Dk) (L : Lg) : Prop := ∃ F G, DiskAt w b D F ∧ LogAt w g b L G ∧ (∀ k, F k → ¬ G k) ∧ ∀ k, K k → ¬ F k ∧ ¬ G k ∧ k < w.heap.size
/-- What is kept. -/
def Kp (K : Nat → Prop) : Nat → Prop := fun k => ¬ K k
def Kadd (K : Nat → Prop) (b : Nat) : Nat → Prop := fun k => K k ∨ k = b

section
variable {K : Nat → Prop} {w w' w'' : World} {b g : Nat} {D : Dk} {L : Lg}
theorem Sy0.no (h : Sy0 K w b D) (hc : Chg No w w') : Sy0 K w' b D := by
  obtain ⟨F, hd, hk⟩ := h
  exact ⟨F, hd.no' hc, fun k h => ⟨(hk k h).1, Nat.lt_of_lt_of_le (hk k h).2 hc.size⟩⟩
theorem Sy.no (h : Sy K w b g D L) (hc : Chg No w w') : Sy K w' b g D L := by
  obtain ⟨F, G, hd, hl, hdj, hk⟩ := h
  exact ⟨F, G, hd.no' hc, hl.no hc, hdj, fun k h => ⟨(hk k h).1, (hk k h).2.1, Nat.lt_of_lt_of_le (hk k h).2.2 hc.size⟩⟩
/-- The walk writes into a block that is kept. -/
theorem Sy.own (h : Sy K w b g D L) {X : Nat → Prop} (hc : Chg X w w') (hX : ∀ k, X k → K k) : Sy K w' b g D L := by
  obtain ⟨F, G, hd, hl, hdj, hk⟩ := h
  exact ⟨F, G, hd.chg hc (fun k hf hx => (hk k (hX k hx)).1 hf), hl.chg hc (fun k hf hx => (hk k (hX k hx)).2.1 hf), hdj, fun k h => ⟨(hk k h).1, (hk k h).2.1, Nat.lt_of_lt_of_le (hk k h).2.2 hc.size⟩⟩
theorem Sy0.own (h : Sy0 K w b D) {X : Nat → Prop} (hc : Chg X w w') (hX : ∀ k, X k → K k) : Sy0 K w' b D := by
  obtain ⟨F, hd, hk⟩ := h
  exact ⟨F, hd.chg hc (fun k hf hx => (hk k (hX k hx)).1 hf), fun k h => ⟨(hk k h).1, Nat.lt_of_lt_of_le (hk k h).2 hc.size⟩⟩
/-- A block that is new is kept. -/
theorem Sy0.add (h : Sy0 K w b D) (hc : Chg No w w') {x : Nat} (h0 : w.heap.size ≤ x) (h1 : x < w'.heap.size) : Sy0 (Kadd K x) w' b D := by
  obtain ⟨F, hd, hk⟩ := h
  refine ⟨F, hd.no' hc, fun k h => ?_⟩
  rcases h with h | rfl
  · exact ⟨(hk k h).1, Nat.lt_of_lt_of_le (hk k h).2 hc.size⟩
  · exact ⟨fun hf => by have := hd.lt _ hf; omega, h1⟩
theorem Sy.add (h : Sy K w b g D L) (hc : Chg No w w') {x : Nat} (h0 : w.heap.size ≤ x) (h1 : x < w'.heap.size) : Sy (Kadd K x) w' b g D L := by
  obtain ⟨F, G, hd, hl, hdj, hk⟩ := h
  refine ⟨F, G, hd.no' hc, hl.no hc, hdj, fun k h => ?_⟩
  rcases h with h | rfl
  · exact ⟨(hk k h).1, (hk k h).2.1, Nat.lt_of_lt_of_le (hk k h).2.2 hc.size⟩
  · exact ⟨fun hf => by have := hd.lt _ hf; omega, fun hf => by have := hl.lt _ hf; omega, h1⟩
theorem Sy.less (h : Sy K w b g D L) {K' : Nat → Prop} (hk : ∀ k, K' k → K k) : Sy K' w b g D L := by
  obtain ⟨F, G, hd, hl, hdj, hs⟩ := h
  exact ⟨F, G, hd, hl, hdj, fun k h => hs k (hk k h)⟩
theorem Chg.kp {F : Nat → Prop} (hc : Chg F w w') (h : ∀ k, K k → ¬ F k) : Chg (Kp K) w w' := hc.mono (fun k hf hk => h k hk hf)
/-- A step of the disk alone. -/
theorem Sy.step {D2 : Dk} {F G : Nat → Prop} (hl : LogAt w g b L G) (hdj : ∀ k, F k → ¬ G k) (hk : ∀ k, K k → ¬ F k ∧ ¬ G k ∧ k < w.heap.size) (h2 : DiskAt w' b D2 (grow F w w')) (hc : Chg F w w') : Sy K w' b g D2 L ∧ Chg (Kp K) w w' := by
  refine ⟨⟨grow F w w', G, h2, hl.chg hc (fun k hg hf => hdj k hf hg), ?_, fun k h => ⟨?_, (hk k h).2.1, Nat.lt_of_lt_of_le (hk k h).2.2 hc.size⟩⟩, hc.kp (fun k h => (hk k h).1)⟩
  · rintro k (hf | hf) hg
    · exact hdj k hf hg
    · have := hl.lt k hg; omega
  · rintro (hf | hf)
    · exact (hk k h).1 hf
    · have := (hk k h).2.2; omega
theorem Sy0.step {D2 : Dk} {F : Nat → Prop} (hk : ∀ k, K k → ¬ F k ∧ k < w.heap.size) (h2 : DiskAt w' b D2 (grow F w w')) (hc : Chg F w w') : Sy0 K w' b D2 ∧ Chg (Kp K) w w' := by
  refine ⟨⟨grow F w w', h2, fun k h => ⟨?_, Nat.lt_of_lt_of_le (hk k h).2 hc.size⟩⟩, hc.kp (fun k h => (hk k h).1)⟩
  rintro (hf | hf)
  · exact (hk k h).1 hf
  · have := (hk k h).2; omega

theorem sysReady (hK : ∀ k, K k → k < w.heap.size) :
    Calls Tryz.prog 11 #[] w fun e w' => ∃ bd br, e = .returned (.tuple #[.pointer (some ⟨bd, 0, none⟩), .pointer (some ⟨br, 0, none⟩), sh0.val, .bool true]) ∧ Sy0 K w' bd Dk.ready ∧ Chg No w w' := by
  refine Ready_ok.mono ?_
  rintro e w' ⟨bd, br, Fd, Fr, rfl, hd, _, _, hFd, _, hc⟩
  refine ⟨bd, br, rfl, ⟨Fd, hd, fun k hk => ⟨fun hf => ?_, Nat.lt_of_lt_of_le (hK k hk) hc.size⟩⟩, hc⟩
  have := hFd k hf
  have := hK k hk
  omega
theorem sysOpen {D' : Dk} {N : Nat} (h : Sy0 K w b D) (hf : D.FitN (N + 16)) (hh : D.logHead (Lg.new sh0 1 9 1) 1 0 = (0, D')) :
    Calls Tryz.prog 12 #[.pointer (some ⟨b, 0, none⟩), sh0.val, .int .i64 1, .int .u64 9] w fun e w' => ∃ g, e = .returned (.tuple #[.pointer (some ⟨g, 0, none⟩), .int .i64 0]) ∧ Sy K w' b g D' (Lg.new sh0 1 9 1) ∧ Chg (Kp K) w w' := by
  obtain ⟨F, hd, hk⟩ := h
  refine (Open_ok sh0_ok hd (hf.le (by omega)) 1 9).mono ?_
  intro e w' hp
  unfold OpenPost at hp
  rw [logAt1] at hp
  simp only at hp
  rw [if_neg (by simp), hh, if_neg (by simp)] at hp
  obtain ⟨g, F', G', rfl, h1, h2, h3, h4, h5, h6⟩ := hp
  refine ⟨g, rfl, ⟨F', G', h1, h2, h3, fun k hkk => ⟨fun hf => ?_, fun hg => ?_, Nat.lt_of_lt_of_le (hk k hkk).2 h6.size⟩⟩, h6.kp (fun k hkk => (hk k hkk).1)⟩
  · rcases h4 k hf with h | h
    · exact (hk k hkk).1 h
    · have := (hk k hkk).2; omega
  · have := h5 k hg; have := (hk k hkk).2; omega
theorem sysAdd (h : Sy K w b g D L) (hf : L.FitN 1) (hs : L.s = sh0) (v : Value) (l : List Img) (hv : ImgsAt w v l) (hl : l.length ≤ 1000000) :
    Calls Tryz.prog 15 #[.pointer (some ⟨g, 0, none⟩), v] w fun e w' => e = .returned (.tuple #[.int .u64 (L.add 1 l).1, .int .i64 (L.add 1 l).2.1]) ∧ Sy K w' b g D (L.add 1 l).2.2 ∧ Chg (Kp K) w w' := by
  obtain ⟨F, G, hd, hlg, hdj, hk⟩ := h
  refine (Add_ok hlg hf v l hv hl 1 (by rw [hs]; exact most8)).mono ?_
  rintro e w' ⟨rfl, h1, h2⟩
  refine ⟨rfl, ⟨F, grow G w w', hd.chg h2 hdj, h1, ?_, fun k hkk => ⟨(hk k hkk).1, ?_, Nat.lt_of_lt_of_le (hk k hkk).2.2 h2.size⟩⟩, h2.kp (fun k hkk => (hk k hkk).2.1)⟩
  · rintro k hf (hg | hg)
    · exact hdj k hf hg
    · have := hd.lt k hf; omega
  · rintro (hg | hg)
    · exact (hk k hkk).2.1 hg
    · have := (hk k hkk).2.2; omega
theorem sysSync (h : Sy K w b g D L) (hg : L.Good) {n : Nat} (hn : L.live.length ≤ n) {N : Nat} (hf : D.FitN N) (hN : 16016 * n + 16016 ≤ N) :
    Calls Tryz.prog 16 #[.pointer (some ⟨g, 0, none⟩)] w fun e w' => e = .returned (.int .i64 (logSync D L).1) ∧ Sy K w' b g (logSync D L).2.1 (logSync D L).2.2 ∧ Chg (Kp K) w w' := by
  obtain ⟨F, G, hd, hlg, hdj, hk⟩ := h
  refine (Sync_ok hd hlg hdj hg (hf.le (Nat.le_trans (by omega) hN))).mono ?_
  rintro e w' ⟨rfl, h⟩
  have hGl := hlg.lt
  refine ⟨rfl, ⟨grow F w w', G, h.disk, h.log, ?_, fun k hkk => ⟨?_, (hk k hkk).2.1, Nat.lt_of_lt_of_le (hk k hkk).2.2 h.chg.size⟩⟩, h.chg.kp (fun k hkk => ?_)⟩
  · rintro k (hf | hf) hg
    · exact hdj k hf hg
    · have := hGl k hg; omega
  · rintro (hf | hf)
    · exact (hk k hkk).1 hf
    · have := (hk k hkk).2.2; omega
  · rintro (hf | hf)
    · exact (hk k hkk).1 hf
    · exact (hk k hkk).2.1 hf
theorem sysBarrier (h : Sy K w b g D L) {N : Nat} (hf : D.FitN N) (node : Int) (epoch : Nat) :
    Calls Tryz.prog 17 #[.pointer (some ⟨b, 0, none⟩), .int .i64 node, .int .u64 epoch] w fun e w' => e = .returned (.int .i64 (D.barrier node epoch).1) ∧ Sy K w' b g (D.barrier node epoch).2 L ∧ Chg (Kp K) w w' := by
  obtain ⟨F, G, hd, hlg, hdj, hk⟩ := h
  refine (Barrier_ok hd hf.fit node epoch).mono ?_
  rintro e w' ⟨rfl, h1, h2⟩
  exact ⟨rfl, Sy.step hlg hdj hk h1 h2⟩
theorem sysFence (h : Sy K w b g D L) {N : Nat} (hf : D.FitN N) (node : Int) :
    Calls Tryz.prog 18 #[.pointer (some ⟨b, 0, none⟩), .int .i64 node] w fun e w' => e = .returned (.int .i64 (D.fence node).1) ∧ Sy K w' b g (D.fence node).2 L ∧ Chg (Kp K) w w' := by
  obtain ⟨F, G, hd, hlg, hdj, hk⟩ := h
  refine (Fence_ok hd hf.fit node).mono ?_
  rintro e w' ⟨rfl, h1, h2⟩
  exact ⟨rfl, Sy.step hlg hdj hk h1 h2⟩
theorem sysAdmit (h : Sy K w b g D L) {N : Nat} (hf : D.FitN N) (node : Int) (epoch : Nat) :
    Calls Tryz.prog 19 #[.pointer (some ⟨b, 0, none⟩), .int .i64 node, .int .u64 epoch] w fun e w' => e = .returned (.int .i64 (D.admit node epoch).1) ∧ Sy K w' b g (D.admit node epoch).2 L ∧ Chg (Kp K) w w' := by
  obtain ⟨F, G, hd, hlg, hdj, hk⟩ := h
  refine (Admit_ok hd hf.fit node epoch).mono ?_
  rintro e w' ⟨rfl, h1, h2⟩
  exact ⟨rfl, Sy.step hlg hdj hk h1 h2⟩
theorem sysRun (h : Sy K w b g D L) (hsd : D.Szd) {N : Nat} (hf : D.FitN N) (hN : 20000 ≤ N) (node : Int) (of : Nat) (by_ : Int) (epoch : Nat) :
    Calls Tryz.prog 20 #[.pointer (some ⟨b, 0, none⟩), sh0.val, .int .i64 node, .int .u64 of, .int .i64 by_, .int .u64 epoch] w fun e w' => e = .returned (.tuple #[.int .i64 (D.run sh0 node of by_ epoch).2.1, .int .i64 (D.run sh0 node of by_ epoch).1]) ∧ Sy K w' b g (D.run sh0 node of by_ epoch).2.2 L ∧ Chg (Kp K) w w' := by
  obtain ⟨F, G, hd, hlg, hdj, hk⟩ := h
  refine (Run_ok sh0_ok hd hsd (hf.le hN) node of by_ epoch).mono ?_
  rintro e w' ⟨rfl, h1, h2⟩
  exact ⟨rfl, Sy.step hlg hdj hk h1 h2⟩
theorem sysLoad (h : Sy K w b g D L) (hsd : D.Szd) {N : Nat} (hf : D.FitN N) (blk : Int) :
    Calls Tryz.prog 21 #[.pointer (some ⟨b, 0, none⟩), sh0.val, .int .i64 blk] w fun e w' => e = .returned (.tuple #[(D.load sh0 blk).1.val, .int .i64 (D.load sh0 blk).2]) ∧ Chg No w w' := by
  obtain ⟨F, G, hd, hlg, hdj, hk⟩ := h
  exact LoadB_ok sh0_ok hd hf.fit hsd.now blk
theorem sysScan (h : Sy K w b g D L) (hsd : D.Szd) {N : Nat} (hf : D.FitN N) (node : Int) :
    Calls Tryz.prog 22 #[.pointer (some ⟨b, 0, none⟩), sh0.val, .int .i64 node] w (ScanPost (D.scan sh0 node).1 (D.scan sh0 node).2 w) := by
  obtain ⟨F, G, hd, hlg, hdj, hk⟩ := h
  exact Scan_ok sh0_ok hd hf.fit hsd.now node
theorem sysStore (h : Sy K w b g D L) {N : Nat} (hf : D.FitN N) (node : Int) (epoch : Nat) (i : Img) :
    Calls Tryz.prog 14 #[.pointer (some ⟨b, 0, none⟩), sh0.val, .int .i64 node, .int .u64 epoch, i.val] w fun e w' => e = .returned (.int .i64 (D.store sh0 node epoch i).1) ∧ Sy K w' b g (D.store sh0 node epoch i).2 L ∧ Chg (Kp K) w w' := by
  obtain ⟨F, G, hd, hlg, hdj, hk⟩ := h
  refine (Store_ok sh0_ok hd hf.fit node epoch i).mono ?_
  rintro e w' ⟨rfl, h1, h2⟩
  exact ⟨rfl, Sy.step hlg hdj hk h1 h2⟩
theorem kept (hc : Chg (Kp K) w w') {k : Nat} (hk : K k) {o : Obj} (hp : w.heap[k]? = some o) : w'.heap[k]? = some o := hc.obj hp (fun h => h hk)
theorem chgGrown (hc : Chg No w w') {row : Option Nat} (hg : w'.grownBy w'' row) (hr : ∀ k, row = some k → w.heap.size ≤ k) : Chg No w w'' := hc.grown hg (fun k h => .inr (hr k h))
end
end Go.Proofs.YtmmnjecaedmleaaGreatDoor

/- Plain laws: after a crash of node 1, node 2 redoes. -/
namespace Go.Proofs.YtmmnjecaedmleaaGreatDoor
open Go.RowKit

theorem blk_of_sec {D D' : Dk} (h : ∀ k : Int, 9 ≤ k → D'.sec k = D.sec k) {b : Int} (hb : 0 ≤ b) : D'.blk b = D.blk b := by
  unfold Dk.blk
  rw [h _ (by omega), h _ (by omega)]
theorem Vers.of_sec {D D' : Dk} {was : Int → Nat} (hv : Vers D was) (h : ∀ k : Int, 9 ≤ k → D'.sec k = D.sec k) : Vers D' was := by
  intro b h0 h1
  rw [blk_of_sec h h0]
  exact hv b h0 h1
theorem LogOn.of_sec {D D' : Dk} {area : Bytes} (h : LogOn D area) (he : ∀ k : Int, D'.sec k = D.sec k) : LogOn D' area :=
  ⟨(he _).trans h.head, h.len, fun i hi => (he _).trans (h.secs i hi)⟩
theorem recover_law {D : Dk} {N e : Nat} {l : List Img} {was : Int → Nat} (hl : l.length ≤ 2) (hf : ∀ i ∈ l, i.fine ∧ i.block ≤ 9) (hp : planOf l = l) (hn : (l.map Img.block).Nodup)
    (hu : Up D 9 0 (N + 64)) (ho : LogOn D (areaOf l)) (hv : Vers D was) (hlast : D.last < e) :
    ∃ D3 D4 D5, D.fence 1 = (0, D3) ∧ Up D3 0 0 (N + 64) ∧ D3.admit 2 e = (0, D4) ∧ Up D4 0 e (N + 64) ∧ D4.run sh0 1 9 2 e = (0, (l.filter (fun i => decide (was i.block < i.version))).length, D5) ∧ Up D5 0 e N ∧ D5.sec 1 = zs 64 ∧
      (∀ i ∈ l, was i.block < i.version → D5.blk i.block = blkBytes i) ∧ (∀ b, 0 ≤ b → (∀ i ∈ l, i.block = b → ¬ was b < i.version) → D5.blk b = D.blk b) := by
  obtain ⟨D3, h3, hu3, hs3, hl3⟩ := hu.fence
  obtain ⟨D4, h4, hu4, hs4⟩ := hu3.admit2 e (by omega)
  have hs : ∀ k : Int, D4.sec k = D.sec k := fun k => (hs4 k).trans (hs3 k)
  obtain ⟨D5, h5, hu5, hz5, hy5, hn5⟩ := run_log (t1 := 0) (t2 := e) (N := N) (ho.of_sec hs) (node := 2) (ep := e) ⟨by omega, .inr ⟨rfl, rfl⟩⟩ l (by rw [scan_area l hl (fun x hx => (hf x hx).1), hp]) was (hu4.le (by omega)) hf hn (hv.of_sec (fun k _ => hs k))
  refine ⟨D3, D4, D5, h3, hu3, h4, hu4, h5, hu5, hz5, hy5, fun b h0 hb => ?_⟩
  rw [hn5 b h0 hb, blk_of_sec (fun k _ => hs k) h0]
/-- What a reader finds in the block. -/
theorem Up.loads {D : Dk} {t1 t2 N : Nat} (hu : Up D t1 t2 N) {i : Img} (hi : i.fine) (hb : i.block ≤ 9) (h : D.blk i.block = blkBytes i) : D.load sh0 i.block = (i, 0) := by
  rw [hu.load hi.blk.1 hb, h, blkGet_put i hi]
theorem open_ready : ∃ D1, Dk.ready.logHead (Lg.new sh0 1 9 1) 1 0 = (0, D1) ∧ Up D1 9 0 10000000 ∧ D1.last = 9 ∧ D1.sec 1 = headBytes ⟨9, 1, 0⟩ ∧ (∀ k : Int, 2 ≤ k → D1.sec k = zs 64) := by
  obtain ⟨hu, hl⟩ := ready_up
  obtain ⟨D1, h1, hu1, hs1, hl1⟩ := open_log (N := 10000000) (hu.le (by omega))
  refine ⟨D1, h1, hu1, hl1.trans hl, by rw [hs1, if_pos rfl], fun k hk => ?_⟩
  rw [hs1, if_neg (by omega), ready_sec k (by omega)]
theorem vers_zero {D : Dk} (h : ∀ k : Int, 9 ≤ k → D.sec k = zs 64) : Vers D (fun _ => 0) := by
  intro b h0 h1
  have e : D.blk b = zs 128 := by
    unfold Dk.blk
    rw [h _ (by omega), h _ (by omega)]
    simp only [zs, List.replicate_append_replicate]
  exact ⟨_, by rw [e]; exact blkGet_zs b, rfl⟩
theorem alive_law : ∃ D1 D2 L2 D3 D4 D5, Dk.ready.logHead (Lg.new sh0 1 9 1) 1 0 = (0, D1) ∧ Up D1 9 0 10000000 ∧ logSync D1 (logS [oneImg 3 1]) = (0, D2, L2) ∧ Up D2 9 0 1000000 ∧ D2.fence 1 = (0, D3) ∧ Up D3 0 0 1000000 ∧
    D3.admit 2 10 = (0, D4) ∧ Up D4 0 10 1000000 ∧ D4.run sh0 1 9 2 10 = (0, 1, D5) ∧ Up D5 0 10 100000 ∧ D5.load sh0 3 = (oneImg 3 1, 0) ∧ D5.run sh0 1 9 2 10 = (0, 0, D5) := by
  have hi := oneImg_fine 3 1 (by omega) (by omega)
  obtain ⟨D1, h1, hu1, hl1, hh1, hz1⟩ := open_ready
  obtain ⟨D2, L2, h2, hu2, ho2, hs2, hl2⟩ := sync_law (N := 1000000) [oneImg 3 1] (by decide) (hu1.le (by omega)) hh1 (fun k hk _ => hz1 k hk)
  have hv2 : Vers D2 (fun _ => 0) := vers_zero (fun k hk => (hs2 k hk).trans (hz1 k (by omega)))
  obtain ⟨D3, D4, D5, h3, hu3, h4, hu4, h5, hu5, hz5, hy5, _⟩ := recover_law (N := 1000000 - 64) (e := 10) (l := [oneImg 3 1]) (was := fun _ => 0) (by decide) (fun i hi' => by obtain rfl := List.mem_singleton.1 hi'; exact ⟨hi, by decide⟩) (plan_one _) (by simp) hu2 ho2 hv2 (by rw [hl2, hl1]; omega)
  have hr : (([oneImg 3 1] : List Img).filter (fun i => decide ((fun _ => 0) i.block < i.version))).length = 1 := rfl
  rw [hr] at h5
  exact ⟨D1, D2, L2, D3, D4, D5, h1, hu1, h2, hu2, h3, hu3, h4, hu4, h5, hu5.le (by omega), hu5.loads (i := oneImg 3 1) hi (by decide) (hy5 (oneImg 3 1) (by simp) (show 0 < 1 by omega)), run_zero hz5 hu5 9 2 10⟩
end Go.Proofs.YtmmnjecaedmleaaGreatDoor
