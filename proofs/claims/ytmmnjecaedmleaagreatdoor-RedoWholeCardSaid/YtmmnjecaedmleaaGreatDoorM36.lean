import Derived.Test.YtmmnjecaedmleaaGreatDoorM35

/- Plain laws for RedoWhole: a log on a disk that is not armed; the power goes; what is found is done, the power goes again, it is done once more. -/
namespace Go.Proofs.YtmmnjecaedmleaaGreatDoor
open Go.RowKit

/-- A log and its disk, which is not armed. -/
structure EvU (A : List Img) (h S W : Nat) (D : Dk) (L : Lg) : Prop where
  log : L = logA A h S W
  lo : Lo A h S W D
  wrt : Wrt A h W D
  free : D.armed = false
section
variable {A : List Img} {h S W : Nat} {D : Dk} {L : Lg}
theorem EvU.ev (e : EvU A h S W D L) : Ev A h S D L := .inl ⟨W, e.log, e.lo, e.wrt⟩
theorem EvU.add (e : EvU A h S W D L) (l : List Img) (hv : ∀ x ∈ l, x.version < 18446744073709551616) (hF : Fines A) :
    (∃ n c, c ≠ 0 ∧ L.add 1 l = (n, c, L)) ∨ ∃ x n L', l = [x] ∧ Fines (A ++ [x]) ∧ L.add 1 l = (n, 0, L') ∧ EvU (A ++ [x]) h S W D L' := by
  obtain ⟨rfl, hl, hw, ha⟩ := e
  have h1 := hl.h1
  have h2 := hl.hS
  have h3 := hl.SM
  have h4 := hl.MN
  rcases log_add (S := S) (W := W) h1 (by omega) h4 l with ⟨n, c, hc, e⟩ | ⟨x, n, rfl, hx, hN, e⟩
  · exact .inl ⟨n, c, hc, e⟩
  · refine .inr ⟨x, n, _, rfl, fun y hy => ?_, e, ⟨rfl, hl.app x hN, hw.app h1 h4 x, ha⟩⟩
    rcases List.mem_append.1 hy with hy | hy
    · exact hF y hy
    · rw [List.mem_singleton.1 hy]
      exact ⟨hx, hv x (by simp)⟩
theorem EvU.write (e : EvU A h S W D L) : EvU A h S A.length (logWrite D L).2.2.1 (logWrite D L).2.2.2 := by
  obtain ⟨rfl, hl, hw, ha⟩ := e
  rcases log_write hl hw with ⟨n', D', e1, l1, w1, a1⟩ | ⟨hb, _⟩
  · rw [e1]
    exact ⟨rfl, l1, w1, a1.trans ha⟩
  · rw [ha] at hb
    exact absurd hb (by decide)
theorem EvU.sync (e : EvU A h S W D L) : EvU A h A.length A.length (logSync D L).2.1 (logSync D L).2.2 := by
  obtain ⟨rfl, hl, hw, ha⟩ := e
  rcases log_sync hl hw with ⟨D', e1, l1, w1, a1⟩ | ⟨hb, _⟩
  · rw [e1]
    exact ⟨rfl, l1, w1, a1.trans ha⟩
  · rw [ha] at hb
    exact absurd hb (by decide)
theorem EvU.freed (e : EvU A h S W D L) (V : Nat) : ∃ h' S', EvU A h' S' W (logFree D L V).2.1 (logFree D L V).2.2 := by
  obtain ⟨rfl, hl, hw, ha⟩ := e
  rcases log_free hl hw V with ⟨h1, e1⟩ | ⟨h1, e1⟩ | ⟨h1, D', e1, l1, w1, a1⟩ | ⟨h1, hb, _⟩
  · rw [e1]
    exact ⟨h, S, rfl, hl, hw, ha⟩
  · rw [e1]
    exact ⟨h, S, rfl, hl, hw, ha⟩
  · rw [e1]
    exact ⟨V, W, rfl, l1, w1, a1.trans ha⟩
  · rw [ha] at hb
    exact absurd hb (by decide)
theorem EvU.start {D1 : Dk} {N : Nat} (hu : Up D1 9 0 N) (hl : D1.last = 9) (hh : D1.sec 1 = headBytes ⟨9, 1, 0⟩) (hz : ∀ k : Int, 2 ≤ k → D1.sec k = zs 64) (hr : Rest D1) : EvU [] 1 0 0 D1 (Lg.new sh0 1 9 1) := by
  rcases Ev.start hu hl hh hz hr with ⟨W, h1, h2, h3⟩ | ⟨h1, _⟩
  · have hW : W = 0 := by
      have := h2.MN
      simpa using this
    subst hW
    exact ⟨h1, h2, h3, hu.free⟩
  · rw [hu.on] at h1
    exact absurd h1 (by decide)
theorem cut_free (D : Dk) (keep : List Int) : (D.cut keep).armed = false := by
  unfold Dk.cut
  split
  · rfl
  · rfl
end
section
variable {D D' : Dk}
theorem readB_congr {a : Int} : ∀ (n : Nat), (∀ j : Nat, j < n → D.sec (a + j) = D'.sec (a + j)) → readB D a n = readB D' a n
  | 0, _ => rfl
  | n + 1, h => by rw [readB_sec, readB_sec, readB_congr n (fun j hj => h j (by omega)), h n (by omega)]
theorem scan_congr (ho : D.on = true) (ho' : D'.on = true) (hs : D.sectors = 37) (hs' : D'.sectors = 37) (h : ∀ k : Int, k < 17 → D.sec k = D'.sec k) : D.rhead sh0 1 = D'.rhead sh0 1 ∧ D.scan sh0 1 = D'.scan sh0 1 := by
  have r1 : D.read 1 1 = D'.read 1 1 := by
    rw [show D.read 1 1 = (readB D 1 1, 0) from read_on ho hs (at_ := 1) (n := 1) (by omega) (by omega) (by omega), show D'.read 1 1 = (readB D' 1 1, 0) from read_on ho' hs' (at_ := 1) (n := 1) (by omega) (by omega) (by omega), readB_congr 1 (fun j hj => h _ (by omega))]
  have r2 : D.read 2 7 = D'.read 2 7 := by
    rw [show D.read 2 7 = (readB D 2 7, 0) from read_on ho hs (at_ := 2) (n := 7) (by omega) (by omega) (by omega), show D'.read 2 7 = (readB D' 2 7, 0) from read_on ho' hs' (at_ := 2) (n := 7) (by omega) (by omega) (by omega), readB_congr 7 (fun j hj => h _ (by omega))]
  have e1 : D.rhead sh0 1 = D'.rhead sh0 1 := by
    unfold Dk.rhead
    rw [logAt1]
    simp only
    rw [r1]
  refine ⟨e1, ?_⟩
  unfold Dk.scan
  rw [e1, logAt1]
  simp only
  have e : ((sh0.log : Int) - 1) = 7 := by decide
  rw [e, show (1 : Int) + 1 = 2 from rfl, r2]
theorem store_coh {node : Int} {ep : Nat} {i : Img} (ha : D.armed = false) (hc : Coh D node) : Coh (D.store sh0 node ep i).2 node ∧ (D.store sh0 node ep i).2.armed = false := by
  unfold Dk.store
  split
  · exact ⟨hc, ha⟩
  · split
    · exact ⟨hc, ha⟩
    · exact write_coh ha hc ep _ _
theorem applyGo_coh {node : Int} {ep : Nat} : ∀ (l : List Img) (n : Nat) (D : Dk), D.armed = false → Coh D node → Coh (applyGo sh0 node ep l n D).2.2 node
  | [], _, _, _, hc => hc
  | i :: l, n, D, ha, hc => by
    have hs := store_coh (ep := ep) (i := i) ha hc
    rw [applyGo]
    split
    · exact hc
    · split
      · exact applyGo_coh l n D ha hc
      · split
        · exact hs.1
        · exact applyGo_coh l (n + 1) _ hs.2 hs.1
theorem applyGo_same {node : Int} {ep : Nat} : ∀ (l : List Img) (n : Nat) (D : Dk), (applyGo sh0 node ep l n D).1 = 0 → n ≤ (applyGo sh0 node ep l n D).2.1 ∧ ((applyGo sh0 node ep l n D).2.1 = n → (applyGo sh0 node ep l n D).2.2 = D)
  | [], n, D, _ => ⟨Nat.le_refl _, fun _ => rfl⟩
  | i :: l, n, D, h => by
    rw [applyGo] at h ⊢
    split at h
    · rename_i hc
      exact absurd h hc.1
    · rw [if_neg ‹_›]
      split at h
      · rw [if_pos ‹_›]
        exact applyGo_same l n D h
      · rw [if_neg ‹_›]
        split at h
        · rename_i hc
          exact absurd h hc
        · rw [if_neg ‹_›]
          obtain ⟨h1, h2⟩ := applyGo_same l (n + 1) _ h
          exact ⟨by omega, fun e => by omega⟩
end
/-- Images done on a disk at rest: all is at rest again. -/
theorem apply_up {t1 t2 N : Nat} {node : Int} {ep : Nat} (hw : Who t1 t2 node ep) (is : List Img) (D : Dk) (was : Int → Nat) (hu : Up D t1 t2 (N + 16 * is.length)) (hf : ∀ i ∈ is, i.fine ∧ i.block ≤ 9) (hn : (is.map Img.block).Nodup) (hv : Vers D was) (hr : Rest D) :
    ∃ D2, D.apply sh0 node ep is = (0, (is.filter (fun i => decide (was i.block < i.version))).length, D2) ∧ Up D2 t1 t2 N ∧ Rest D2 ∧ (∀ i ∈ is, was i.block < i.version → D2.blk i.block = blkBytes i) ∧
      (∀ b, (∀ i ∈ is, i.block = b → ¬ was b < i.version) → D2.blk b = D.blk b) ∧ (∀ k, k < 17 → D2.sec k = D.sec k) ∧ D2.last = D.last := by
  obtain ⟨D1, h1, hu1, h3, h4, h5, h6⟩ := apply_go hw is 0 D was N hu hf hn hv
  have hc := applyGo_coh (ep := ep) is 0 D hu.free (hr.coh node)
  have hs := applyGo_same (node := node) (ep := ep) is 0 D (by rw [h1])
  rw [Nat.zero_add] at h1
  rw [h1] at hc hs
  obtain ⟨c, hcc⟩ : ∃ c, (is.filter (fun i => decide (was i.block < i.version))).length = c := ⟨_, rfl⟩
  rw [hcc] at h1 hs ⊢
  unfold Dk.apply
  rw [h1]
  unfold applyEnd
  rw [if_neg (by simp)]
  simp only
  by_cases h0 : 0 < c
  · obtain ⟨hb, hub⟩ := hu1.barrier hw
    rw [if_pos h0, hb]
    exact ⟨_, by simp, hub, hc.rest, h3, h4, h5, h6⟩
  · rw [if_neg h0]
    have hD : D1 = D := hs.2 (by show c = 0; omega)
    subst hD
    exact ⟨D1, rfl, hu1, hr, h3, h4, h5, h6⟩
/-- A log done again, whatever its head is. -/
theorem run_gen {D : Dk} {t1 t2 N : Nat} {hd : Hd} (he : hd.epoch = 9) {x : List Rc} (hrh : D.rhead sh0 1 = (hd, true, 0)) (hsc : D.scan sh0 1 = (x, 0)) {node : Int} {ep : Nat} (hw : Who t1 t2 node ep) (is : List Img) (hpl : planOf (imgsOf x) = is) (was : Int → Nat)
    (hu : Up D t1 t2 (N + 16 * is.length + 16)) (hf : ∀ i ∈ is, i.fine ∧ i.block ≤ 9) (hn : (is.map Img.block).Nodup) (hv : Vers D was) (hr : Rest D) :
    ∃ n D', D.run sh0 1 9 node ep = (0, n, D') ∧ Up D' t1 t2 N ∧ (∀ i ∈ is, was i.block < i.version → D'.blk i.block = blkBytes i) ∧ (∀ b, 0 ≤ b → (∀ i ∈ is, i.block = b → ¬ was b < i.version) → D'.blk b = D.blk b) := by
  obtain ⟨D2, h7, hu2, hr2, h3, h4, h5, h6⟩ := apply_up (N := N + 16) hw is D was (hu.le (by omega)) hf hn hv hr
  obtain ⟨hwr, hu3⟩ := hu2.write hw (at_ := 1) (data := zs 64) (n := 1) (by simp) (by omega) (by omega) (by omega) (by omega)
  obtain ⟨hb4, hu4⟩ := hu3.barrier hw
  have hsec : ∀ k, k ≠ 1 → ((D2.wrN node 1 (zs 64) 1).settle node).sec k = D2.sec k := by
    intro k hk
    rw [settle_sec, wrN_sec, if_neg (by omega)]
  have hblk : ∀ b, 0 ≤ b → ((D2.wrN node 1 (zs 64) 1).settle node).blk b = D2.blk b := by
    intro b hb
    unfold Dk.blk
    rw [hsec _ (by omega), hsec _ (by omega)]
  refine ⟨(is.filter (fun i => decide (was i.block < i.version))).length, (D2.wrN node 1 (zs 64) 1).settle node, ?_, hu4, ?_, ?_⟩
  · unfold Dk.run
    rw [hrh, hsc, logAt1]
    simp only
    rw [if_neg (by simp [he]), if_neg (by simp), hpl, h7]
    simp only
    rw [if_neg (by simp), hwr]
    simp only
    rw [if_neg (by simp), hb4]
    simp
  · intro i hi hiv
    rw [hblk _ (hf i hi).1.blk.1]
    exact h3 i hi hiv
  · intro b hb0 hb
    rw [hblk b hb0]
    exact h4 b hb
end Go.Proofs.YtmmnjecaedmleaaGreatDoor

/- Plain laws for RedoWhole: all of it. -/
namespace Go.Proofs.YtmmnjecaedmleaaGreatDoor
open Go.RowKit

theorem Rest.cut_sec {D : Dk} (hr : Rest D) (ho : D.on = true) (keep : List Int) (k : Int) : (D.cut keep).sec k = D.sec k := by
  have e : D.sec k = D.las k := by
    rcases (hr.coh 1).maybeNow k with e | ⟨x, hx, _⟩
    · exact e
    · rw [hr.dry] at hx; simp at hx
  rw [e]
  rcases maybe_las (Go.Proofs.YtmmnjecaedmleaaGreatDoor.cut_sec ho keep k).1 with e | ⟨x, hx, _⟩
  · exact e
  · rw [hr.dry] at hx; simp at hx
/-- A disk at rest whose power goes and comes back. -/
theorem Up.cut {D : Dk} {t1 t2 N : Nat} (h : Up D t1 t2 N) (hr : Rest D) (keep : List Int) : Up ({ D.cut keep with on := true } : Dk) t1 t2 N ∧ Rest ({ D.cut keep with on := true } : Dk) ∧ ∀ k, ({ D.cut keep with on := true } : Dk).sec k = D.sec k := by
  obtain ⟨c1, c2, c3, c4, _⟩ := cut_same h.on keep
  refine ⟨⟨rfl, cut_free D keep, c1.trans h.size, (congrFun c2 1).trans h.t1, (congrFun c2 2).trans h.t2, restore_fitN (cut_fitN h.fit), restore_szd (cut_szd h.szd keep)⟩, ?_, fun k => hr.cut_sec h.on keep k⟩
  have hc : Rest (D.cut keep) := ⟨c4, fun n => (Go.Proofs.YtmmnjecaedmleaaGreatDoor.cut_sec h.on keep 0).2 1 (hr.coh 1) n⟩
  exact hc.of rfl rfl rfl rfl
theorem recs_imgs (A : List Img) (h c : Nat) : imgsOf (recsR A h c) = (List.range c).map (fun i => A.getD (h + i - 1) noImg) := by
  unfold imgsOf recsR
  rw [List.flatMap_map]
  induction c with
  | zero => rfl
  | succ c ih =>
    rw [List.range_succ, List.flatMap_append, List.map_append, ih]
    simp
theorem blk_zero {D : Dk} {b : Int} (h : ∀ q : Int, 9 ≤ q → D.sec q = zs 64) (h0 : 0 ≤ b) : D.blk b = zs 128 := by
  unfold Dk.blk
  rw [h _ (by omega), h _ (by omega)]
  rfl
theorem who2 {t1 : Nat} : Who t1 50 2 50 := ⟨by omega, .inr ⟨rfl, rfl⟩⟩
/-- The whole: from the disk on which the power has come back. -/
theorem whole_law {A : List Img} {h S W N : Nat} {D5 : Dk} (g : Gone A h S W D5) (ho : D5.on = true) (ha : D5.armed = false) (hfit : D5.FitN (N + 2000)) (hF : Fines A) (h9 : ∀ x ∈ A, x.block ≤ 9) (hA : A.length < 1000000) (again : List Int) :
    ∃ c D6 n7 D7 n9 D10, D5.scan sh0 1 = (recsR A h c, 0) ∧ c ≤ 2 ∧ h + c ≤ W + 1 ∧ S + 1 ≤ h + c ∧ (∀ i ∈ imgsOf (recsR A h c), i.fine ∧ i.block ≤ 9) ∧
      D5.admit 2 50 = (0, D6) ∧ D6.apply sh0 2 50 (planOf (imgsOf (recsR A h c))) = (0, n7, D7) ∧ ({ D7.cut again with on := true } : Dk).run sh0 1 9 2 50 = (0, n9, D10) ∧
      D6.FitN (N + 100) ∧ D6.Szd ∧ Up D7 9 50 (N + 100) ∧ Up ({ D7.cut again with on := true } : Dk) 9 50 (N + 100) ∧ Up D10 9 50 N ∧
      (∀ i ∈ planOf (imgsOf (recsR A h c)), i.block ≤ 9 ∧ ∃ img, D10.load sh0 i.block = (img, 0) ∧ (0 < i.version → img = i)) := by
  obtain ⟨c, hsc, hc2, hcW, hcS⟩ := g.scan ho hF hA
  have hh1 := g.h1
  have hWA := g.MN
  obtain ⟨pl, hpl⟩ : ∃ pl, planOf (imgsOf (recsR A h c)) = pl := ⟨_, rfl⟩
  have him : ∀ i ∈ imgsOf (recsR A h c), i.fine ∧ i.block ≤ 9 := by
    intro i hi
    rw [recs_imgs] at hi
    obtain ⟨j, hj, rfl⟩ := List.mem_map.1 hi
    have hj2 := List.mem_range.1 hj
    refine ⟨hF.get (n := h + j) (by omega) (by omega), ?_⟩
    rw [List.getD_eq_getElem?_getD, List.getElem?_eq_getElem (by omega)]
    exact h9 _ (List.getElem_mem _)
  have hplf : ∀ i ∈ pl, i.fine ∧ i.block ≤ 9 := fun i hi => him i (plan_mem (hpl ▸ hi))
  have hnd : (pl.map Img.block).Nodup := by
    rw [← hpl]
    exact (filterMap_nodup (fun k i h => (planF_mem _ h).2) (keysL_sorted _)).imp (fun h => by omega)
  have hll : pl.length ≤ 2 := by
    have hb : ∀ b ∈ pl.map Img.block, b ∈ (imgsOf (recsR A h c)).map Img.block := fun b hb => by
      obtain ⟨i, hi, rfl⟩ := List.mem_map.1 hb
      exact List.mem_map.2 ⟨i, plan_mem (hpl ▸ hi), rfl⟩
    have := hnd.length_le_of_subset hb
    rw [List.length_map, List.length_map, recs_imgs, List.length_map, List.length_range] at this
    omega
  have hu5 : Up D5 9 (D5.table 2) (N + 2000) := ⟨ho, ha, g.size, g.t1, rfl, hfit, g.szd⟩
  have hr5 : Rest D5 := ⟨g.dry, g.coh⟩
  obtain ⟨D6, h6, hu6, hs6⟩ := hu5.admit2 50 (by rw [g.last]; omega)
  have hr6 := admit_rest ha hr5 h6
  have hz6 : ∀ b : Int, 0 ≤ b → D6.blk b = zs 128 := fun b hb => blk_zero (fun q hq => by rw [hs6]; exact g.rest q hq) hb
  have hv6 : Vers D6 (fun _ => 0) := fun b h0 h1 => ⟨⟨b, 0, zs 96⟩, by rw [hz6 b h0, blkGet_zs], rfl⟩
  obtain ⟨D7, h7, hu7, hr7, hb7, ho7, hs7, _⟩ := apply_up (N := N + 100) who2 pl D6 (fun _ => 0) (hu6.le (by omega)) hplf hnd hv6 hr6
  obtain ⟨hu9, hr9, hs9⟩ := hu7.cut hr7 again
  generalize hD9 : ({ D7.cut again with on := true } : Dk) = D9 at hu9 hr9 hs9
  have hblk9 : ∀ b, D9.blk b = D7.blk b := fun b => by unfold Dk.blk; rw [hs9, hs9]
  -- what each block holds
  have hcase : ∀ b : Int, 0 ≤ b → D9.blk b = zs 128 ∨ ∃ i ∈ pl, i.block = b ∧ 0 < i.version ∧ D9.blk b = blkBytes i := by
    intro b h0
    by_cases hx : ∃ i ∈ pl, i.block = b ∧ 0 < i.version
    · obtain ⟨i, hi, rfl, hv⟩ := hx
      exact .inr ⟨i, hi, rfl, hv, by rw [hblk9]; exact hb7 i hi hv⟩
    · left
      rw [hblk9, ho7 b (fun i hi e hv => hx ⟨i, hi, e, hv⟩), hz6 b h0]
  have hv9 : Vers D9 (fun b => (blkGet b (D9.blk b)).1.version) := by
    intro b h0 h1
    rcases hcase b h0 with e | ⟨i, hi, rfl, hv, e⟩
    · exact ⟨⟨b, 0, zs 96⟩, by rw [e, blkGet_zs], by simp only; rw [e, blkGet_zs]⟩
    · exact ⟨i, by rw [e, blkGet_put i (hplf i hi).1], by simp only; rw [e, blkGet_put i (hplf i hi).1]⟩
  have hold : ∀ i ∈ pl, ¬ (blkGet i.block (D9.blk i.block)).1.version < i.version := by
    intro i hi
    have h0 := (hplf i hi).1.blk.1
    rcases hcase i.block h0 with e | ⟨j, hj, hjb, hv, e⟩
    · by_cases hv : 0 < i.version
      · have e2 : D9.blk i.block = blkBytes i := by rw [hblk9]; exact hb7 i hi hv
        rw [e2, blkGet_put i (hplf i hi).1]
        exact Nat.lt_irrefl _
      · omega
    · obtain rfl := nodup_inj hnd hj hi hjb
      rw [e, blkGet_put j (hplf j hj).1]
      exact Nat.lt_irrefl _
  obtain ⟨e1, e2⟩ := scan_congr hu9.on ho hu9.size g.size (fun k hk => by rw [hs9, hs7 k hk, hs6])
  obtain ⟨n9, D10, h10, hu10, hb10, ho10⟩ := run_gen (N := N) (hd := ⟨9, h, posR h⟩) rfl (e1.trans (g.rhead ho hA)) (e2.trans hsc) who2 pl hpl _ (hu9.le (by omega)) hplf hnd hv9 hr9
  subst hpl
  refine ⟨c, D6, _, D7, n9, D10, hsc, hc2, hcW, hcS, him, h6, h7, by rw [hD9]; exact h10, hu6.fit.le (by omega), hu6.szd, hu7, by rw [hD9]; exact hu9, hu10, fun i hi => ⟨(hplf i hi).2, ?_⟩⟩
  have h0 := (hplf i hi).1.blk.1
  have e10 : D10.blk i.block = D9.blk i.block := ho10 i.block h0 (fun j hj e => by rw [← e]; exact hold j hj)
  have hld := hu10.load h0 (hplf i hi).2
  rw [e10] at hld
  rcases hcase i.block h0 with e | ⟨j, hj, hjb, hv, e⟩
  · rw [e, blkGet_zs] at hld
    refine ⟨_, hld, fun hv => ?_⟩
    have e2 : D9.blk i.block = blkBytes i := by rw [hblk9]; exact hb7 i hi hv
    rw [e] at e2
    have e3 := blkGet_put i (hplf i hi).1
    rw [← e2, blkGet_zs] at e3
    exact congrArg Prod.fst e3
  · obtain rfl := nodup_inj hnd hj hi hjb
    rw [e, blkGet_put j (hplf j hj).1] at hld
    exact ⟨_, hld, fun _ => rfl⟩
end Go.Proofs.YtmmnjecaedmleaaGreatDoor

/- RedoWhole: from the log's state to what the cut, the twin and the redoing make of it. -/
namespace Go.Proofs.YtmmnjecaedmleaaGreatDoor
open Go.RowKit

structure WholeR (A : List Img) (h c S W : Nat) (D5 D6 : Dk) (n7 : Nat) (D7 : Dk) (n9 : Nat) (D10 : Dk) (again : List Int) (is : List Img) : Prop where
  scan : D5.scan sh0 1 = (recsR A h c, 0)
  c2 : c ≤ 2
  cW : h + c ≤ W + 1
  cS : S + 1 ≤ h + c
  img : ∀ i ∈ imgsOf (recsR A h c), i.fine ∧ i.block ≤ 9
  plan : planOf (imgsOf (recsR A h c)) = is
  admit : D5.admit 2 50 = (0, D6)
  apply : D6.apply sh0 2 50 is = (0, n7, D7)
  run : ({ D7.cut again with on := true } : Dk).run sh0 1 9 2 50 = (0, n9, D10)
  fit6 : D6.FitN 30100
  szd5 : D5.Szd
  szd6 : D6.Szd
  up7 : Up D7 9 50 30100
  up9 : Up ({ D7.cut again with on := true } : Dk) 9 50 30100
  up10 : Up D10 9 50 30000
  last : ∀ i ∈ is, i.block ≤ 9 ∧ ∃ img, D10.load sh0 i.block = (img, 0) ∧ (0 < i.version → img = i)
  len : is.length ≤ 2
  dlen : (imgsOf (recsR A h c)).length ≤ 2
  h1 : 1 ≤ h
  WA : W ≤ A.length
theorem EvU.whole {A : List Img} {h S W : Nat} {D : Dk} {L : Lg} (e : EvU A h S W D L) (hf : D.FitN 100000) (hF : Fines A) (h9 : ∀ x ∈ A, x.block ≤ 9) (hA : A.length < 1000000) (keep again : List Int) :
    D.sectors = 37 ∧ (D.cut keep).sectors = 37 ∧ L.first = h ∧ L.synced = S ∧ L.written = W ∧ ∃ c D6 n7 D7 n9 D10 is, WholeR A h c S W ({ D.cut keep with on := true } : Dk) D6 n7 D7 n9 D10 again is := by
  have g0 := e.lo.cut keep
  have g : Gone A h S W ({ D.cut keep with on := true } : Dk) := g0.re rfl rfl rfl rfl rfl rfl rfl
  have hcf : ({ D.cut keep with on := true } : Dk).FitN (30000 + 2000) := by
    have := (cut_fitN (keep := keep) hf).le (M := 32000) (by omega)
    exact ⟨this.s0, this.s1, this.waits, this.stays, this.seq, this.left⟩
  obtain ⟨c, D6, n7, D7, n9, D10, a1, a2, a3, a4, a5, a6, a7, a8, a9, a10, a11, a12, a13, a14⟩ := whole_law g rfl (cut_free D keep) hcf hF h9 hA again
  have hdl : (imgsOf (recsR A h c)).length ≤ 2 := by
    rw [recs_imgs, List.length_map, List.length_range]
    exact a2
  have hll : (planOf (imgsOf (recsR A h c))).length ≤ 2 := by
    have hnd : ((planOf (imgsOf (recsR A h c))).map Img.block).Nodup := (filterMap_nodup (fun k i h => (planF_mem _ h).2) (keysL_sorted _)).imp (fun h => by omega)
    have hb : ∀ b ∈ (planOf (imgsOf (recsR A h c))).map Img.block, b ∈ (imgsOf (recsR A h c)).map Img.block := fun b hb => by
      obtain ⟨i, hi, rfl⟩ := List.mem_map.1 hb
      exact List.mem_map.2 ⟨i, plan_mem hi, rfl⟩
    have := hnd.length_le_of_subset hb
    rw [List.length_map, List.length_map] at this
    omega
  refine ⟨e.lo.size, g0.size, ?_, ?_, ?_, c, D6, n7, D7, n9, D10, _, ⟨a1, a2, a3, a4, a5, rfl, a6, a7, a8, a9, g.szd, a10, a11, a12, a13, a14, hll, hdl, g.h1, g.MN⟩⟩
  · rw [e.log]; rfl
  · rw [e.log]; rfl
  · rw [e.log]; rfl
end Go.Proofs.YtmmnjecaedmleaaGreatDoor
