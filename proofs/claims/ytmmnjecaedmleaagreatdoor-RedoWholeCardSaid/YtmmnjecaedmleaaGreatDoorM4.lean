import Derived.Test.YtmmnjecaedmleaaGreatDoorM3

/- sdisk: the disk in memory, and contracts of its small methods. -/
namespace Go.Proofs.YtmmnjecaedmleaaGreatDoor
open Go.RowKit
attribute [local go_sem ↓] Go.wp_at_zero Go.wp_at_succ

/-- A sector that waits, or the one that lasts. -/
structure Wr where
  node : Int
  at_ : Int
  seq : Nat
  data : Bytes
def Wr.cells (x : Wr) : List Value := [.int .i64 x.node, .int .i64 x.at_, .int .i64 x.seq, S x.data]
def Wr.val (x : Wr) : Value := .agg x.cells.toArray

/-- A disk. -/
structure Dk where
  sectors : Int
  on : Bool
  seq : Nat
  now : Int → Option Bytes
  lasts : Int → Option Wr
  waits : List Wr
  table : Nat → Nat
  words : Nat → Nat
  last : Nat
  armed : Bool
  left : Int
  stays : List Int

def diskCell (D : Dk) (bn bl : Nat) (wv sv : Value) (i : Nat) : Value :=
  if i = 0 then .int .i64 D.sectors else if i = 1 then .bool D.on else if i = 2 then .int .i64 D.seq else if i = 3 then .map (some bn) else if i = 4 then .map (some bl)
  else if i = 5 then wv else if i < 23 then .int .u64 (D.table (i - 6)) else if i < 40 then .int .u64 (D.words (i - 23)) else if i = 40 then .int .u64 D.last
  else if i = 41 then .bool D.armed else if i = 42 then .int .i64 D.left else sv

structure DiskR (w : World) (b bn bl : Nat) (wv sv : Value) (D : Dk) (F : Nat → Prop) : Prop where
  blk : BlkF w b 147 44 (diskCell D bn bl wv sv)
  now : MapAt w bn (fun k => (D.now k).map S)
  lasts : MapAt w bl (fun k => (D.lasts k).map Wr.val)
  waits : w.ownsRow 0 219 4 wv D.waits.length (D.waits.flatMap Wr.cells)
  stays : w.ownsRow 0 3 1 sv D.stays.length (D.stays.map (Value.int .i64))
  fb : F b
  fn : F bn
  fl : F bl
  fw : ∀ k, wv.ownBlock = some k → F k
  fs : ∀ k, sv.ownBlock = some k → F k
  nl : bn ≠ bl
  lt : ∀ k, F k → k < w.heap.size
/-- The disk D lies at block b, within the footprint F. -/
def DiskAt (w : World) (b : Nat) (D : Dk) (F : Nat → Prop) : Prop := ∃ bn bl wv sv, DiskR w b bn bl wv sv D F

section
variable {w : World} {b bn bl : Nat} {wv sv : Value} {D : Dk} {F : Nat → Prop}
theorem DiskR.ne_n (h : DiskR w b bn bl wv sv D F) : bn ≠ b := by
  intro e; subst e
  obtain ⟨A, h1, _⟩ := h.blk
  obtain ⟨es, c, h2, _⟩ := h.now
  rw [h1] at h2; simp at h2
theorem DiskR.ne_l (h : DiskR w b bn bl wv sv D F) : bl ≠ b := by
  intro e; subst e
  obtain ⟨A, h1, _⟩ := h.blk
  obtain ⟨es, c, h2, _⟩ := h.lasts
  rw [h1] at h2; simp at h2
theorem row_ne_blk {w : World} {base e size n m T : Nat} {v : Value} {xs : List Value} {b : Nat} {f : Nat → Value} (h : w.ownsRow base e size v n xs) (hb : BlkF w b T m f) (hne : e ≠ T) : v.ownBlock ≠ some b := by
  intro hv
  obtain ⟨A, h1, _⟩ := hb
  rcases h.2 with ⟨rfl, _⟩ | ⟨g, cap, cur, rfl, _, hg, _⟩
  · simp [Value.ownBlock] at hv
  · simp [Value.ownBlock] at hv; subst hv
    rw [h1] at hg; simp at hg; exact hne hg.2.symm
theorem row_ne_map {w : World} {base e size n : Nat} {v : Value} {xs : List Value} {r : Nat} {f : Int → Option Value} (h : w.ownsRow base e size v n xs) (hb : MapAt w r f) : v.ownBlock ≠ some r := by
  intro hv
  obtain ⟨es, c, h1, _⟩ := hb
  rcases h.2 with ⟨rfl, _⟩ | ⟨g, cap, cur, rfl, _, hg, _⟩
  · simp [Value.ownBlock] at hv
  · simp [Value.ownBlock] at hv; subst hv
    rw [h1] at hg; simp at hg
theorem row_ne_row {w : World} {base e size n base' e' size' n' : Nat} {v v' : Value} {xs xs' : List Value} (h : w.ownsRow base e size v n xs) (h' : w.ownsRow base' e' size' v' n' xs') (hne : e ≠ e') : ∀ k, v.ownBlock = some k → v'.ownBlock ≠ some k := by
  intro k hk hk'
  rcases h.2 with ⟨rfl, _⟩ | ⟨g, cap, cur, rfl, _, hg, _⟩
  · simp [Value.ownBlock] at hk
  · rcases h'.2 with ⟨rfl, _⟩ | ⟨g', cap', cur', rfl, _, hg', _⟩
    · simp [Value.ownBlock] at hk'
    · simp [Value.ownBlock] at hk hk'; subst hk; subst hk'
      rw [hg] at hg'; simp at hg'; exact hne hg'.2

/-- Nothing of the disk's was touched. -/
theorem DiskR.chg {G : Nat → Prop} {w' : World} (h : DiskR w b bn bl wv sv D F) (hc : Chg G w w') (hn : ∀ k, F k → ¬ G k) : DiskR w' b bn bl wv sv D F :=
  ⟨h.blk.chg hc (hn _ h.fb), h.now.chg hc (hn _ h.fn), h.lasts.chg hc (hn _ h.fl), hc.row h.waits (fun k hk => hn k (h.fw k hk)), hc.row h.stays (fun k hk => hn k (h.fs k hk)),
    h.fb, h.fn, h.fl, h.fw, h.fs, h.nl, fun k hk => Nat.lt_of_lt_of_le (h.lt k hk) hc.size⟩
theorem DiskR.wide {G : Nat → Prop} (h : DiskR w b bn bl wv sv D F) (hs : ∀ k, F k → G k) (hl : ∀ k, G k → k < w.heap.size) : DiskR w b bn bl wv sv D G :=
  ⟨h.blk, h.now, h.lasts, h.waits, h.stays, hs _ h.fb, hs _ h.fn, hs _ h.fl, fun k hk => hs _ (h.fw k hk), fun k hk => hs _ (h.fs k hk), h.nl, hl⟩
theorem DiskAt.chg {G : Nat → Prop} {w' : World} (h : DiskAt w b D F) (hc : Chg G w w') (hn : ∀ k, F k → ¬ G k) : DiskAt w' b D F := by
  obtain ⟨bn, bl, wv, sv, h⟩ := h
  exact ⟨bn, bl, wv, sv, h.chg hc hn⟩
theorem DiskAt.lt (h : DiskAt w b D F) : ∀ k, F k → k < w.heap.size := by
  obtain ⟨bn, bl, wv, sv, h⟩ := h
  exact h.lt
theorem DiskAt.wide {G : Nat → Prop} (h : DiskAt w b D F) (hs : ∀ k, F k → G k) (hl : ∀ k, G k → k < w.heap.size) : DiskAt w b D G := by
  obtain ⟨bn, bl, wv, sv, h⟩ := h
  exact ⟨bn, bl, wv, sv, h.wide hs hl⟩
/-- With nothing touched, new blocks are let in. -/
theorem DiskAt.no {w' : World} (h : DiskAt w b D F) (hc : Chg No w w') : DiskAt w' b D (grow F w w') :=
  (h.chg hc (fun _ _ => id)).wide grow_sub (grow_lt h.lt hc.size)
theorem DiskAt.no' {w' : World} (h : DiskAt w b D F) (hc : Chg No w w') : DiskAt w' b D F := h.chg hc (fun _ _ => id)
/-- A plain field is written. -/
theorem DiskR.set (h : DiskR w b bn bl wv sv D F) (k : Nat) (v : Value) (D' : Dk) (hcell : ∀ i, i < 44 → (if i = k then v else diskCell D bn bl wv sv i) = diskCell D' bn bl wv sv i)
    (h1 : D'.now = D.now) (h2 : D'.lasts = D.lasts) (h3 : D'.waits = D.waits) (h4 : D'.stays = D.stays) : DiskR (w.setCell ⟨b, k, none⟩ v) b bn bl wv sv D' F := by
  refine ⟨(h.blk.set k v).congr hcell, ?_, ?_, ?_, ?_, h.fb, h.fn, h.fl, h.fw, h.fs, h.nl, fun k hk => by simpa [World.setCell] using h.lt k hk⟩
  · rw [h1]; exact h.now.of (blk_set_ne rfl h.ne_n)
  · rw [h2]; exact h.lasts.of (blk_set_ne rfl h.ne_l)
  · rw [h3]; exact row_set_ne h.waits _ (row_ne_blk h.waits h.blk (by decide))
  · rw [h4]; exact row_set_ne h.stays _ (row_ne_blk h.stays h.blk (by decide))
end

def Dk.may (D : Dk) (node : Int) : Int := if D.on then (if 0 ≤ node ∧ node ≤ 16 then 0 else 1) else 14
def Dk.admits (D : Dk) (node : Int) (epoch : Nat) : Int := if epoch = 0 ∨ D.table node.toNat ≠ epoch then 34 else 0
def Dk.there (D : Dk) (at_ n : Int) : Bool := decide (0 ≤ at_ ∧ at_ ≤ D.sectors ∧ n ≤ D.sectors - at_)

theorem On_ok {w : World} {b : Nat} {D : Dk} {F : Nat → Prop} (h : DiskAt w b D F) :
    Calls Tryz.prog 42 #[.pointer (some ⟨b, 0, none⟩)] w fun e w' => e = .returned (.bool D.on) ∧ w = w' := by
  obtain ⟨bn, bl, wv, sv, h⟩ := h
  have c1 : w.cell? ⟨b, 1, none⟩ = some (.bool D.on) := h.blk.cell 1 (by omega)
  clear h
  go_enter Tryz.func42, Tryz.ntmps42
  go_wp2
  go_ret
  exact ⟨rfl, rfl⟩

theorem may_ok {w : World} {b : Nat} {D : Dk} {F : Nat → Prop} (h : DiskAt w b D F) (node : Int) :
    Calls Tryz.prog 78 #[.pointer (some ⟨b, 0, none⟩), .int .i64 node] w fun e w' => e = .returned (.int .i64 (D.may node)) ∧ w = w' := by
  have H := Lib.hid h
  clear h
  unfold Dk.may
  cases ho : D.on
  all_goals
    by_cases h0 : 0 ≤ node ∧ node ≤ 16
    all_goals
      go_enter Tryz.func78, Tryz.ntmps78
      go_wp2_with fail
      refine (On_ok H.out).mono ?_
      rintro e w' ⟨rfl, rfl⟩
      rw [ho]
      go_wp2_with fail
      all_goals
        go_ret
        first | exact ⟨rfl, rfl⟩ | (refine ⟨?_, rfl⟩; simp; omega)

theorem admits_ok {w : World} {b : Nat} {D : Dk} {F : Nat → Prop} (h : DiskAt w b D F) (node : Int) (epoch : Nat) (h0 : 0 ≤ node) (h1 : node ≤ 16) :
    Calls Tryz.prog 79 #[.pointer (some ⟨b, 0, none⟩), .int .i64 node, .int .u64 epoch] w fun e w' => e = .returned (.int .i64 (D.admits node epoch)) ∧ w = w' := by
  obtain ⟨bn, bl, wv, sv, h⟩ := h
  obtain ⟨n, rfl⟩ := Int.eq_ofNat_of_zero_le h0
  have c1 : w.cell? ⟨b, 6 + n, none⟩ = some (.int .u64 (D.table n)) := by
    rw [h.blk.cell (6 + n) (by omega)]
    simp only [diskCell]
    rw [if_neg (by omega), if_neg (by omega), if_neg (by omega), if_neg (by omega), if_neg (by omega), if_neg (by omega), if_pos (by omega)]
    rw [show 6 + n - 6 = n by omega]
  clear h
  by_cases he : epoch = 0
  · have e0 : ((epoch : Int) == 0) = true := by simp; omega
    rw [show D.admits (n : Int) epoch = 34 by simp [Dk.admits, he]]
    clear he
    go_enter Tryz.func79, Tryz.ntmps79
    go_wp2
    go_ret
    exact ⟨rfl, rfl⟩
  · have e0 : ((epoch : Int) == 0) = false := by simp; omega
    by_cases ht : D.table n = epoch
    · have e1 : ((D.table n : Int) != (epoch : Int)) = false := by simp [ht]
      rw [show D.admits (n : Int) epoch = 0 by simp [Dk.admits, he, ht]]
      clear he ht
      go_enter Tryz.func79, Tryz.ntmps79
      go_wp2
      go_ret
      exact ⟨rfl, rfl⟩
    · have e1 : ((D.table n : Int) != (epoch : Int)) = true := by simp; omega
      rw [show D.admits (n : Int) epoch = 34 by simp [Dk.admits, ht]]
      clear he ht
      go_enter Tryz.func79, Tryz.ntmps79
      go_wp2
      go_ret
      exact ⟨rfl, rfl⟩

theorem there_ok {w : World} {b : Nat} {D : Dk} {F : Nat → Prop} (h : DiskAt w b D F) (at_ n : Int) (hs : 0 ≤ D.sectors) (hs2 : D.sectors ≤ 20000) :
    Calls Tryz.prog 164 #[.pointer (some ⟨b, 0, none⟩), .int .i64 at_, .int .i64 n] w fun e w' => e = .returned (.bool (D.there at_ n)) ∧ w = w' := by
  obtain ⟨bn, bl, wv, sv, h⟩ := h
  have c1 : w.cell? ⟨b, 0, none⟩ = some (.int .i64 D.sectors) := h.blk.cell 0 (by omega)
  clear h
  unfold Dk.there
  by_cases h0 : 0 ≤ at_
  · by_cases h1 : at_ ≤ D.sectors
    · go_enter Tryz.func164, Tryz.ntmps164
      go_wp2
      go_ret
      exact ⟨by simp [h0, h1], rfl⟩
    · have h2 : decide (at_ ≤ D.sectors) = false := by simp; omega
      go_enter Tryz.func164, Tryz.ntmps164
      go_wp2
      go_ret
      exact ⟨by simp [h0, h1], rfl⟩
  · have h2 : decide (0 ≤ at_) = false := by simp; omega
    go_enter Tryz.func164, Tryz.ntmps164
    go_wp2
    go_ret
    exact ⟨by simp [h0], rfl⟩

theorem Last_ok {w : World} {b : Nat} {D : Dk} {F : Nat → Prop} (h : DiskAt w b D F) :
    Calls Tryz.prog 38 #[.pointer (some ⟨b, 0, none⟩)] w fun e w' => e = .returned (.int .u64 D.last) ∧ w = w' := by
  obtain ⟨bn, bl, wv, sv, h⟩ := h
  have c1 : w.cell? ⟨b, 40, none⟩ = some (.int .u64 D.last) := h.blk.cell 40 (by omega)
  clear h
  go_enter Tryz.func38, Tryz.ntmps38
  go_wp2
  go_ret
  exact ⟨rfl, rfl⟩

theorem Sectors_ok {w : World} {b : Nat} {D : Dk} {F : Nat → Prop} (h : DiskAt w b D F) :
    Calls Tryz.prog 40 #[.pointer (some ⟨b, 0, none⟩)] w fun e w' => e = .returned (.int .i64 D.sectors) ∧ w = w' := by
  obtain ⟨bn, bl, wv, sv, h⟩ := h
  have c1 : w.cell? ⟨b, 0, none⟩ = some (.int .i64 D.sectors) := h.blk.cell 0 (by omega)
  clear h
  go_enter Tryz.func40, Tryz.ntmps40
  go_wp2
  go_ret
  exact ⟨rfl, rfl⟩

theorem Restore_ok {w : World} {b : Nat} {D : Dk} {F : Nat → Prop} (h : DiskAt w b D F) (hs : 0 < D.sectors) :
    Calls Tryz.prog 26 #[.pointer (some ⟨b, 0, none⟩)] w fun e w' => e = .returned (.tuple #[]) ∧ DiskAt w' b { D with on := true } F ∧ Chg F w w' := by
  obtain ⟨bn, bl, wv, sv, h⟩ := h
  have c0 : w.cell? ⟨b, 0, none⟩ = some (.int .i64 D.sectors) := h.blk.cell 0 (by omega)
  have c1 : w.cell? ⟨b, 1, none⟩ = some (.bool D.on) := h.blk.cell 1 (by omega)
  have f1 := h.blk.free 1
  have H := Lib.hid h
  clear h
  go_enter Tryz.func26, Tryz.ntmps26
  go_wp2
  go_end0
  refine ⟨rfl, ⟨bn, bl, wv, sv, H.out.set 1 _ _ ?_ rfl rfl rfl rfl⟩, (Chg.refl _ _).setCell (p := ⟨b, 1, none⟩) (.inl H.out.fb) _⟩
  intro i hi
  unfold diskCell
  by_cases e : i = 1
  · subst e; rfl
  · simp [e]
end Go.Proofs.YtmmnjecaedmleaaGreatDoor

/- sdisk: Arm, keep, settle: contracts. -/
namespace Go.Proofs.YtmmnjecaedmleaaGreatDoor
open Go.RowKit
attribute [local go_sem ↓] Go.wp_at_zero Go.wp_at_succ

/-- A slice of whole numbers that can be read. -/
def ReadsInts (w : World) (v : Value) (l : List Int) : Prop :=
  (v = .slice none 0 0 ∧ l = []) ∨ ∃ g off c, v = .slice (some ⟨g, off, none⟩) l.length c ∧ ∀ j, j < l.length → w.cell? ⟨g, off + j, none⟩ = some (.int .i64 (l.getD j 0))

theorem readsInts_of_row {w : World} {base : Nat} {v : Value} {l : List Int} (h : w.ownsRow base 3 1 v l.length (l.map (Value.int .i64))) : ReadsInts w v l := by
  rcases h.2 with ⟨hv, hn⟩ | ⟨g, cap, cur, hv, hr⟩
  · exact .inl ⟨hv, List.eq_nil_of_length_eq_zero hn⟩
  · refine .inr ⟨g, 0, cap, hv, fun j hj => ?_⟩
    have := h.cells (g := g) (by rw [hv]; rfl) j (.int .i64 (l.getD j 0)) (by simp [List.getD, hj])
    unfold Addr.add at this
    split at this
    · rename_i h0; subst h0; simpa using this
    · simpa using this

theorem clone_ints {w : World} {v : Value} {l : List Int} (h : ReadsInts w v l) (hl : l.length ≤ 1000000000) :
    Calls Tryz.prog 90 #[v] w fun e w' => ∃ v', e = .returned v' ∧ w'.ownsRow w.heap.size 3 1 v' l.length (l.map (Value.int .i64)) ∧ Chg No w w' := by
  rcases h with ⟨rfl, rfl⟩ | ⟨g, off, c, rfl, hc⟩
  · refine (Tryz.slices_Clone_int_nil 0 0 w).mono ?_
    rintro e w' ⟨rfl, rfl⟩
    exact ⟨_, rfl, World.ownsRow_nil _ _ _ _, Chg.refl _ _⟩
  · refine (Tryz.slices_Clone_int g off l.length c l w (Nat.le_refl _) (by omega) hc).mono ?_
    rintro e w' ⟨v', rfl, ho, _, hb⟩
    rw [List.take_length] at ho
    exact ⟨v', rfl, ho, Chg.of_below hb⟩

theorem ownsRow_base {w : World} {base base' e size n : Nat} {v : Value} {xs : List Value} (h : w.ownsRow base e size v n xs) (hb : base' ≤ base) : w.ownsRow base' e size v n xs := by
  refine ⟨h.1, ?_⟩
  rcases h.2 with hx | ⟨g, cap, cur, hv, hg, rest⟩
  · exact .inl hx
  · exact .inr ⟨g, cap, cur, hv, by omega, rest⟩

def Dk.arm (D : Dk) (n : Int) (l : List Int) : Dk := { D with armed := decide (0 ≤ n), left := n, stays := l }

theorem Arm_ok {w : World} {b : Nat} {D : Dk} {F : Nat → Prop} (h : DiskAt w b D F) (n : Int) (v : Value) (l : List Int) (hv : ReadsInts w v l) (hl : l.length ≤ 1000000000) :
    Calls Tryz.prog 25 #[.pointer (some ⟨b, 0, none⟩), .int .i64 n, v] w fun e w' => e = .returned (.tuple #[]) ∧ DiskAt w' b (D.arm n l) (grow F w w') ∧ Chg (fun k => k = b) w w' := by
  obtain ⟨bn, bl, wv, sv, h⟩ := h
  have H := Lib.hid h
  clear h
  go_enter Tryz.func25, Tryz.ntmps25
  go_wp2_with fail
  refine (clone_ints hv hl).mono ?_
  rintro e w1 ⟨v', rfl, ho, hc⟩
  have H1 := Lib.hid (H.out.chg hc (fun _ _ => id))
  have c1 : w1.cell? ⟨b, 41, none⟩ = some (.bool D.armed) := H1.out.blk.cell 41 (by omega)
  have c2 : w1.cell? ⟨b, 42, none⟩ = some (.int .i64 D.left) := H1.out.blk.cell 42 (by omega)
  have c3 : w1.cell? ⟨b, 43, none⟩ = some sv := H1.out.blk.cell 43 (by omega)
  have f1 := H1.out.blk.free 41
  have f2 := H1.out.blk.free 42
  have f3 := H1.out.blk.free 43
  have HO := Lib.hid ho
  have HC := Lib.hid hc
  clear ho hc hv
  obtain ⟨va, vn, vc, hvv⟩ : ∃ a n c, v' = .slice a n c := by
    rcases HO.out.2 with ⟨rfl, _⟩ | ⟨g, cap, cur, rfl, _⟩
    · exact ⟨_, _, _, rfl⟩
    · exact ⟨_, _, _, rfl⟩
  have HV := Lib.hid hvv
  rw [hvv]
  clear hvv
  go_wp2_with fail
  go_end0
  rw [← HV.out]
  have hz := HC.out.size
  have hb := H.out.blk.lt
  have hob : v'.ownBlock ≠ some b := fun e => by have := (HO.out.lt _ e).1; omega
  refine ⟨rfl, ⟨bn, bl, wv, v', ?_, ?_, ?_, ?_, ?_, ?_, ?_, ?_, ?_, ?_, ?_, ?_⟩, ?_⟩
  · refine (((H1.out.blk.set 41 _).set 42 _).set 43 _).congr (fun i hi => ?_)
    unfold diskCell Dk.arm
    by_cases e1 : i = 43
    · subst e1; simp
    · by_cases e2 : i = 42
      · subst e2; simp
      · by_cases e3 : i = 41
        · subst e3; simp
        · simp only [if_neg e1, if_neg e2, if_neg e3]
          have : i < 41 := by omega
          by_cases e4 : i = 40
          · subst e4; rfl
          · have : i < 40 := by omega
            simp only [if_pos this]
  · exact (H1.out.now.of (blk_set_ne rfl H1.out.ne_n)).of (blk_set_ne rfl H1.out.ne_n) |>.of (blk_set_ne rfl H1.out.ne_n)
  · exact (H1.out.lasts.of (blk_set_ne rfl H1.out.ne_l)).of (blk_set_ne rfl H1.out.ne_l) |>.of (blk_set_ne rfl H1.out.ne_l)
  · have hw := row_ne_blk H1.out.waits H1.out.blk (by decide)
    exact row_set_ne (row_set_ne (row_set_ne H1.out.waits _ hw) _ hw) _ hw
  · exact row_set_ne (row_set_ne (row_set_ne (ownsRow_base HO.out (Nat.zero_le _)) _ hob) _ hob) _ hob
  · exact .inl H.out.fb
  · exact .inl H.out.fn
  · exact .inl H.out.fl
  · exact fun k hk => .inl (H.out.fw k hk)
  · exact fun k hk => .inr ⟨(HO.out.lt k hk).1, by simpa [World.setCell] using (HO.out.lt k hk).2⟩
  · exact H.out.nl
  · exact grow_lt H.out.lt (by simpa [World.setCell] using hz)
  · refine Chg.setCell (F := fun k => k = b) (Chg.setCell (F := fun k => k = b) (Chg.setCell (F := fun k => k = b) HC.out.of_no (p := ⟨b, 41, none⟩) (.inl rfl) _) (p := ⟨b, 42, none⟩) (.inl rfl) _) (p := ⟨b, 43, none⟩) (.inl rfl) _

/-- What is kept of a map of sectors that last, when one more lasts. -/
def keepW (L : Int → Option Wr) (x : Wr) : Int → Option Wr := if ((L x.at_).map (·.seq)).getD 0 < x.seq then upd L x.at_ x else L

theorem und_now : Tryz.prog.underlying 143 = some (.map 3 9) := by kernel_rfl
theorem und_lasts : Tryz.prog.underlying 144 = some (.map 3 219) := by kernel_rfl
theorem und_int : Tryz.prog.underlying 3 = some (.int .i64) := by kernel_rfl
theorem zero_string (w : World) : (zeroValue 9).run Tryz.prog w = .ok (S []) w := by kernel_rfl
theorem zero_write (w : World) : (zeroValue 219).run Tryz.prog w = .ok (.agg #[.int .i64 0, .int .i64 0, .int .i64 0, S []]) w := by kernel_rfl

theorem field_seq (n0 a0 s : Int) (d0 : Bytes) : ∀ (wx : World), (Instr.field 219 (.agg #[.int .i64 n0, .int .i64 a0, .int .i64 s, S d0]) 2).run Tryz.prog wx = .ok (.int .i64 s) wx := fun _ => by kernel_rfl
set_option maxRecDepth 100000 in
theorem keep_ok {w : World} {b bn bl : Nat} {wv sv : Value} {D : Dk} {F : Nat → Prop} (h : DiskR w b bn bl wv sv D F) (x : Wr) :
    Calls Tryz.prog 173 #[.pointer (some ⟨b, 0, none⟩), x.val] w fun e w' => e = .returned (.tuple #[]) ∧ DiskR w' b bn bl wv sv { D with lasts := keepW D.lasts x } F ∧ Chg (fun k => k = bl) w w' := by
  obtain ⟨node, a, q, dt⟩ := x
  have c1 : w.cell? ⟨b, 4, none⟩ = some (.map (some bl)) := h.blk.cell 4 (by omega)
  have hlt := h.blk.lt
  have hm := h.lasts
  have H := Lib.hid h
  clear h
  unfold Wr.val Wr.cells
  have hlk : ∀ nq, (Instr.lookup 144 (.map (some bl)) (.int .i64 a) false).run Tryz.prog ((w.alloc (.cells #[.int .i64 node, .int .i64 a, .int .i64 q, S dt] 219)).drewN nq) = .ok (((D.lasts a).map Wr.val).getD (.agg #[.int .i64 0, .int .i64 0, .int .i64 0, S []])) ((w.alloc (.cells #[.int .i64 node, .int .i64 a, .int .i64 q, S dt] 219)).drewN nq) := fun nq =>
    (run_lookup_i und_lasts und_int zero_write (hm.of (w' := (w.alloc (.cells #[.int .i64 node, .int .i64 a, .int .i64 q, S dt] 219)).drewN nq) (Below.heap_alloc _ _ _ hm.lt)) a).2
  obtain ⟨s, hs⟩ : ∃ s : Nat, ((D.lasts a).map (·.seq)).getD 0 = s := ⟨_, rfl⟩
  obtain ⟨n0, a0, d0, hval⟩ : ∃ n0 a0 d0, ((D.lasts a).map Wr.val).getD (.agg #[.int .i64 0, .int .i64 0, .int .i64 0, S []]) = .agg #[.int .i64 n0, .int .i64 a0, .int .i64 s, S d0] := by
    rw [← hs]
    cases D.lasts a with
    | none => exact ⟨0, 0, [], rfl⟩
    | some y => exact ⟨y.node, y.at_, y.data, rfl⟩
  rw [hval] at hlk
  have hfd := field_seq n0 a0 s d0
  have HM := Lib.hid hm
  have HS := Lib.hid hs
  clear hm hs hval
  go_enter Tryz.func173, Tryz.ntmps173
  go_wp2_with fail
  go_quiet (fail)
  clear hlk hfd
  by_cases hlt2 : s < q
  · generalize hW : (w.alloc (.cells #[.int .i64 node, .int .i64 a, .int .i64 q, S dt] 219)).drewN nq = W at *
    have hmW : MapAt W.drew bl (fun k => (D.lasts k).map Wr.val) := by
      rw [← hW]; exact HM.out.of (w' := ((w.alloc _).drewN nq).drew) (Below.heap_alloc _ _ _ HM.out.lt)
    obtain ⟨es, clock, hup, hok⟩ := run_mapUpdate_i und_lasts und_int hmW a (.agg #[.int .i64 node, .int .i64 a, .int .i64 q, S dt])
    have hCW : Chg No w W := by rw [← hW]; exact ((Chg.refl No w).alloc _).drewN nq
    have k0 : W.cell? ⟨w.heap.size, 0, none⟩ = some (.int .i64 node) := by rw [← hW]; exact cell_of_blk (blk_new w _) 0 rfl
    have k1 : W.cell? ⟨w.heap.size, 1, none⟩ = some (.int .i64 a) := by rw [← hW]; exact cell_of_blk (blk_new w _) 1 rfl
    have k2 : W.cell? ⟨w.heap.size, 2, none⟩ = some (.int .i64 q) := by rw [← hW]; exact cell_of_blk (blk_new w _) 2 rfl
    have k3 : W.cell? ⟨w.heap.size, 3, none⟩ = some (S dt) := by rw [← hW]; exact cell_of_blk (blk_new w _) 3 rfl
    have k4 : W.cell? ⟨b, 4, none⟩ = some (.map (some bl)) := hCW.cell c1 id
    have hsm : ∀ x : Addr, (setMap W.drew bl es clock).cell? x = W.cell? x := fun x => setMap_cell hmW es clock x
    have HOK := Lib.hid hok
    have HCW := Lib.hid hCW
    have HMW := Lib.hid hmW
    clear hW hmW hok hCW c1
    go_wp2_with fail
    go_region_held3 (fun w' => w'.cell? ⟨b, 4, none⟩ = some (.map (some bl)) ∧ w'.cell? ⟨w.heap.size, 0, none⟩ = some (.int .i64 node) ∧ w'.cell? ⟨w.heap.size, 1, none⟩ = some (.int .i64 a) ∧ w'.cell? ⟨w.heap.size, 2, none⟩ = some (.int .i64 q) ∧ w'.cell? ⟨w.heap.size, 3, none⟩ = some (S dt)) (go_keep) (fail)
    go_wp2_with fail
    go_end0
    have hR := H.out.chg HCW.out.drew (fun _ _ => id)
    have hbl := MapAt.new HMW.out HOK.out
    have hne : ∀ k, k ≠ bl → (setMap W.drew bl es clock).heap[k]? = W.drew.heap[k]? := fun k hk => setMap_ne hk
    have hk : keepW D.lasts ⟨node, a, q, dt⟩ = upd D.lasts a ⟨node, a, q, dt⟩ := by
      rw [keepW, if_pos (by rw [HS.out]; exact hlt2)]
    refine ⟨rfl, ⟨hR.blk.of (hne b hR.ne_l.symm), hR.now.of (hne bn hR.nl), ?_, ?_, ?_, hR.fb, hR.fn, hR.fl, hR.fw, hR.fs, hR.nl, fun k hk => by simpa using hR.lt k hk⟩, ?_⟩
    · refine hbl.congr (fun k => ?_)
      simp only [hk, upd]
      split <;> rfl
    · exact row_of hR.waits (fun k hk => hne k (fun e => row_ne_map hR.waits hR.lasts (e ▸ hk)))
    · exact row_of hR.stays (fun k hk => hne k (fun e => row_ne_map hR.stays hR.lasts (e ▸ hk)))
    · exact Chg.setMap (F := fun k => k = bl) HCW.out.drew.of_no (.inl rfl) _ _
  · go_wp2_with fail
    go_end0
    have hk : keepW D.lasts ⟨node, a, q, dt⟩ = D.lasts := by
      rw [keepW, if_neg (by rw [HS.out]; exact hlt2)]
    rw [hk]
    have hC : Chg No w ((w.alloc (.cells #[.int .i64 node, .int .i64 a, .int .i64 q, S dt] 219)).drewN nq) := ((Chg.refl No w).alloc _).drewN nq
    exact ⟨rfl, H.out.chg hC (fun _ _ => id), hC.of_no⟩
end Go.Proofs.YtmmnjecaedmleaaGreatDoor

/- sdisk: settle: contract. -/
namespace Go.Proofs.YtmmnjecaedmleaaGreatDoor
open Go.RowKit
attribute [local go_sem ↓] Go.wp_at_zero Go.wp_at_succ

theorem flat_get : ∀ (ws : List Wr) (k : Nat) (hk : k < ws.length), (ws.flatMap Wr.cells)[k * 4]? = some (.int .i64 ws[k].node) ∧ (ws.flatMap Wr.cells)[k * 4 + 1]? = some (.int .i64 ws[k].at_) ∧ (ws.flatMap Wr.cells)[k * 4 + 2]? = some (.int .i64 ws[k].seq) ∧ (ws.flatMap Wr.cells)[k * 4 + 3]? = some (S ws[k].data)
  | [], k, hk => by simp at hk
  | x :: ws, 0, _ => ⟨rfl, rfl, rfl, rfl⟩
  | x :: ws, k + 1, hk => by
    have h4 : (Wr.cells x).length = 4 := rfl
    have e : ∀ j, ((x :: ws).flatMap Wr.cells)[(k + 1) * 4 + j]? = (ws.flatMap Wr.cells)[k * 4 + j]? := fun j => by
      rw [List.flatMap_cons, List.getElem?_append_right (by omega)]
      congr 1
      omega
    have ih := flat_get ws k (by simpa using hk)
    have e0 := e 0
    simp only [Nat.add_zero] at e0
    rw [e0, e 1, e 2, e 3]
    simpa using ih

def settleL (L : Int → Option Wr) (node : Int) (ws : List Wr) : Int → Option Wr := ws.foldl (fun L x => if x.node = node then keepW L x else L) L
def settleW (node : Int) (ws : List Wr) : List Wr := ws.filter (fun x => x.node != node)
def Dk.settle (D : Dk) (node : Int) : Dk := { D with lasts := settleL D.lasts node D.waits, waits := settleW node D.waits }

theorem settleL_take (L : Int → Option Wr) (node : Int) (ws : List Wr) (k : Nat) (h : k < ws.length) : settleL L node (ws.take (k + 1)) = if ws[k].node = node then keepW (settleL L node (ws.take k)) ws[k] else settleL L node (ws.take k) := by
  unfold settleL
  rw [List.take_succ_eq_append_getElem h, List.foldl_append]; rfl
theorem settleW_take (node : Int) (ws : List Wr) (k : Nat) (h : k < ws.length) : settleW node (ws.take (k + 1)) = if ws[k].node = node then settleW node (ws.take k) else settleW node (ws.take k) ++ [ws[k]] := by
  unfold settleW
  rw [List.take_succ_eq_append_getElem h, List.filter_append]
  by_cases e : ws[k].node = node <;> simp [e]

theorem el_write : Elem Tryz.prog 145 219 (.agg #[.int .i64 0, .int .i64 0, .int .i64 0, S []]) 4 40 := .mk' (by kernel_rfl) (by kernel_rfl) rfl (by omega)

set_option maxHeartbeats 1600000 in
set_option maxRecDepth 100000 in
theorem settle_ok {w : World} {b : Nat} {D : Dk} {F : Nat → Prop} (h : DiskAt w b D F) (node : Int) (hl : D.waits.length ≤ 1000000000) :
    Calls Tryz.prog 81 #[.pointer (some ⟨b, 0, none⟩), .int .i64 node] w fun e w' => e = .returned (.tuple #[]) ∧ DiskAt w' b (D.settle node) (grow F w w') ∧ Chg F w w' := by
  obtain ⟨bn, bl, wv, sv, h⟩ := h
  have hz := h.blk.lt
  have c5 : w.cell? ⟨b, 5, none⟩ = some wv := h.blk.cell 5 (by omega)
  have H := Lib.hid h
  obtain ⟨g, cap, hwv⟩ : ∃ g cap, wv = .slice g D.waits.length cap := by
    rcases h.waits.2 with ⟨rfl, hn⟩ | ⟨g, cap, cur, rfl, _⟩
    · exact ⟨_, _, by rw [hn]⟩
    · exact ⟨_, _, rfl⟩
  have HWV := Lib.hid hwv
  rw [hwv] at c5
  clear h hwv
  go_enter Tryz.func81, Tryz.ntmps81
  go_wp2_with fail
  go_loopw [4, 12] (fun x i wr => ∃ k : Nat, k ≤ D.waits.length ∧ i = .int .i64 k ∧ Hid (wr.ownsRow w.heap.size 219 4 x (settleW node (D.waits.take k)).length ((settleW node (D.waits.take k)).flatMap Wr.cells)) ∧ Hid (DiskR wr b bn bl wv sv { D with lasts := settleL D.lasts node (D.waits.take k) } F) ∧ Hid (Chg (fun k => k = bl) w wr)) (fun x i _ => D.waits.length - (intOf i).toNat)
  case atStart => exact ⟨0, Nat.zero_le _, rfl, Lib.hid (World.ownsRow_nil _ _ _ _), H, Lib.hid (Chg.refl _ _)⟩
  case round =>
    obtain ⟨k, hk, rfl, HX, HD, HC⟩ := hrel
    by_cases hlt : k < D.waits.length
    · obtain ⟨g0, rfl⟩ : ∃ g0, g = some ⟨g0, 0, none⟩ := by
        rcases H.out.waits.2 with ⟨hv, hn⟩ | ⟨g0, cap0, cur, hv, _⟩
        · omega
        · rw [HWV.out] at hv; simp at hv; exact ⟨g0, hv.1⟩
      obtain ⟨e0, e1, e2, e3⟩ := flat_get D.waits k hlt
      obtain ⟨x, hx⟩ : ∃ x, x = D.waits[k] := ⟨_, rfl⟩
      rw [← hx] at e0 e1 e2 e3
      have hob : wv.ownBlock = some g0 := by rw [HWV.out]; rfl
      have d0 := row_cell HD.out.waits hob e0
      have d1 := row_cell HD.out.waits hob e1
      have d2 := row_cell HD.out.waits hob e2
      have d3 := row_cell HD.out.waits hob e3
      have HXk := Lib.hid hx
      clear e0 e1 e2 e3 hob hx
      have hsl := settleL_take D.lasts node D.waits k hlt
      have hsw := settleW_take node D.waits k hlt
      rw [← HXk.out] at hsl hsw
      have hcell : ∀ o, (wr.alloc (.cells #[.int .i64 x.node, .int .i64 x.at_, .int .i64 x.seq, S x.data] 219)).heap[wr.heap.size]? = some o → True := fun _ _ => trivial
      by_cases hxn : x.node = node
      · have hxe : (x.node == node) = true := by simp [hxn]
        rw [if_pos hxn] at hsl hsw
        have HSL := Lib.hid hsl
        have HSW := Lib.hid hsw
        have hD2 := HD.out.chg ((Chg.refl No wr).alloc (.cells #[.int .i64 x.node, .int .i64 x.at_, .int .i64 x.seq, S x.data] 219)) (fun _ _ => id)
        clear hsl hsw hxn hcell
        go_wp2_with fail
        refine (keep_ok hD2 x).mono ?_
        rintro e w2 ⟨rfl, hD3, hc3⟩
        have hX3 : w2.ownsRow w.heap.size 219 4 u4 (settleW node (D.waits.take k)).length ((settleW node (D.waits.take k)).flatMap Wr.cells) :=
          hc3.row (HX.out.alloc _) (fun j hj e => by
            have := (HX.out.lt j hj).1
            have h2 := H.out.lasts.lt
            omega)
        have hC3 : Chg (fun k => k = bl) w w2 := (HC.out.alloc _).trans_same hc3
        have HX3 := Lib.hid hX3
        have HD3 := Lib.hid hD3
        have HC3 := Lib.hid hC3
        clear hD3 hc3 hX3 hC3 HX HD HC d0 d1 d2 d3
        go_wp2_with fail
        go_roundw
        case rel =>
          refine ⟨k + 1, by omega, by go_num, Lib.hid (by rw [HSW.out]; exact HX3.out), Lib.hid ?_, HC3⟩
          have := HD3.out
          simp only [HSL.out]
          exact this
        case measure => simp [intOf]; omega
      · have hxe : (x.node == node) = false := by simp [hxn]
        rw [if_neg hxn] at hsl hsw
        have HSL := Lib.hid hsl
        have HSW := Lib.hid hsw
        clear hsl hsw hxn hcell
        have hlen : (settleW node (D.waits.take k)).length ≤ 1000000000 := by
          have h1 : (settleW node (D.waits.take k)).length ≤ (D.waits.take k).length := List.length_filter_le _ _
          have h2 : (D.waits.take k).length ≤ k := List.length_take_le _ _
          omega
        have hwz : w.heap.size ≤ wr.heap.size := HC.out.size
        go_wp2_with (at_builtin; refine Halt1.hold ?_)
        refine Halt1.go ?_
        refine wpL_app el_write (.tmp 23) (.tmp 25) rfl rfl w.heap.size u4 _ _ rfl ((HX.out.alloc _).alloc _) (wr.heap.size + 1) 1 1 (Wr.cells x) _ _ rfl (by rw [show wr.heap.size + 1 = (wr.alloc _).heap.size from (World.size_alloc _ _).symm]; exact blk_new _ _) rfl (by simp [Wr.cells, Value.oneCell']) (by omega) (by omega) (by omega) (by simp; omega) ?_
        intro g1 cap1 w2 hown2 hgrow2 hat2 hlt2
        have hcW : Chg (fun j => w.heap.size ≤ j) wr w2 := (((Chg.refl _ wr).alloc _).alloc _).grown hgrow2 (fun j hj => .inl (HX.out.lt j hj).1)
        have hcV : Chg (fun k => k = bl) w w2 := HC.out.trans hcW (fun j hj => .inr hj)
        have HD3 := Lib.hid (HD.out.chg hcW (fun j hF hle => by have := H.out.lt j hF; omega))
        have HX3 := Lib.hid hown2
        have HC3 := Lib.hid hcV
        clear hown2 hgrow2 hat2 hcW hcV HX HD HC d0 d1 d2 d3
        go_wp2_with fail
        refine ⟨⟨k + 1, by omega, by go_num, Lib.hid ?_, Lib.hid ?_, HC3⟩, by simp [intOf]; omega⟩
        · rw [HSW.out]
          have := HX3.out
          simpa using this
        · simp only [HSL.out]
          exact HD3.out
    · obtain rfl : k = D.waits.length := by omega
      have hz2 := HC.out.size
      obtain ⟨va, vn, vc, hvv⟩ : ∃ a n c, u4 = .slice a n c := by
        rcases HX.out.2 with ⟨rfl, _⟩ | ⟨g, cap, cur, rfl, _⟩
        · exact ⟨_, _, _, rfl⟩
        · exact ⟨_, _, _, rfl⟩
      have d5 : wr.cell? ⟨b, 5, none⟩ = some (.slice g D.waits.length cap) := by rw [← HWV.out]; exact HD.out.blk.cell 5 (by omega)
      have f5 := HD.out.blk.free 5
      have HV := Lib.hid hvv
      rw [hvv]
      clear hvv
      go_wp2_with fail
      go_end0
      rw [← HV.out]
      have hX := HX.out
      have hD := HD.out
      rw [List.take_length] at hX hD
      have hob : u4.ownBlock ≠ some b := fun e => by have := (hX.lt _ e).1; omega
      refine ⟨rfl, ⟨bn, bl, u4, sv, ?_, ?_, ?_, ?_, ?_, ?_, ?_, ?_, ?_, ?_, ?_, ?_⟩, ?_⟩
      · refine (hD.blk.set 5 _).congr (fun i hi => ?_)
        unfold diskCell
        by_cases e : i = 5
        · subst e; rfl
        · simp [e, Dk.settle]
      · exact hD.now.of (blk_set_ne rfl hD.ne_n)
      · exact hD.lasts.of (blk_set_ne rfl hD.ne_l)
      · exact row_set_ne (ownsRow_base hX (Nat.zero_le _)) _ hob
      · exact row_set_ne hD.stays _ (row_ne_blk hD.stays hD.blk (by decide))
      · exact .inl hD.fb
      · exact .inl hD.fn
      · exact .inl hD.fl
      · exact fun j hj => .inr ⟨(hX.lt j hj).1, by simpa [World.setCell] using (hX.lt j hj).2⟩
      · exact fun j hj => .inl (hD.fs j hj)
      · exact hD.nl
      · exact grow_lt H.out.lt (by simpa [World.setCell] using hz2)
      · exact Chg.setCell (F := F) (HC.out.mono (fun j hj => hj ▸ hD.fl)) (p := ⟨b, 5, none⟩) (.inl hD.fb) _
end Go.Proofs.YtmmnjecaedmleaaGreatDoor
