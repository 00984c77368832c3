import Derived.Test.YtmmnjecaedmleaaGreatDoorM24

/- redo: what a scan tells; the plan as a function; Run: what it does. -/
namespace Go.Proofs.YtmmnjecaedmleaaGreatDoor
open Go.RowKit

def insK (k : Int) : List Int → List Int
  | [] => [k]
  | a :: l => if k < a then k :: a :: l else if k = a then a :: l else a :: insK k l
def keysL (l : List Int) : List Int := l.foldr insK []
theorem mem_insK (k x : Int) (l : List Int) : x ∈ insK k l ↔ x = k ∨ x ∈ l := by
  induction l with
  | nil => simp [insK]
  | cons a l ih =>
    unfold insK
    split
    · simp
    · split
      · rename_i h1 h2; subst h2; simp
      · simp [ih]
        constructor
        · rintro (h | h | h)
          · exact .inr (.inl h)
          · exact .inl h
          · exact .inr (.inr h)
        · rintro (h | h | h)
          · exact .inr (.inl h)
          · exact .inl h
          · exact .inr (.inr h)
theorem insK_sorted (k : Int) {l : List Int} (h : l.Pairwise (· < ·)) : (insK k l).Pairwise (· < ·) := by
  induction l with
  | nil => simp [insK]
  | cons a l ih =>
    rw [List.pairwise_cons] at h
    unfold insK
    split
    · rename_i hk
      refine List.pairwise_cons.2 ⟨fun x hx => ?_, List.pairwise_cons.2 h⟩
      rcases List.mem_cons.1 hx with rfl | hx
      · exact hk
      · have := h.1 x hx; omega
    · split
      · exact List.pairwise_cons.2 h
      · refine List.pairwise_cons.2 ⟨fun x hx => ?_, ih h.2⟩
        rcases (mem_insK k x l).1 hx with rfl | hx
        · omega
        · exact h.1 x hx
theorem keysL_mem (l : List Int) (x : Int) : x ∈ keysL l ↔ x ∈ l := by
  induction l with
  | nil => simp [keysL]
  | cons a l ih =>
    show x ∈ insK a (keysL l) ↔ _
    rw [mem_insK, ih, List.mem_cons]
theorem keysL_sorted (l : List Int) : (keysL l).Pairwise (· < ·) := by
  induction l with
  | nil => simp [keysL]
  | cons a l ih => exact insK_sorted a ih
theorem sorted_unique : ∀ {a b : List Int}, a.Pairwise (· < ·) → b.Pairwise (· < ·) → (∀ x, x ∈ a ↔ x ∈ b) → a = b
  | [], [], _, _, _ => rfl
  | [], y :: b, _, _, h => by have := (h y).2 (by simp); simp at this
  | x :: a, [], _, _, h => by have := (h x).1 (by simp); simp at this
  | x :: a, y :: b, ha, hb, h => by
    rw [List.pairwise_cons] at ha hb
    have hxy : x = y := by
      rcases List.mem_cons.1 ((h x).1 (by simp)) with e | e
      · exact e
      · rcases List.mem_cons.1 ((h y).2 (by simp)) with e2 | e2
        · exact e2.symm
        · have h1 := hb.1 x e; have h2 := ha.1 y e2; omega
    subst hxy
    congr 1
    refine sorted_unique ha.2 hb.2 (fun z => ?_)
    constructor
    · intro hz
      rcases List.mem_cons.1 ((h z).1 (by simp [hz])) with e | e
      · subst e; have := ha.1 z hz; omega
      · exact e
    · intro hz
      rcases List.mem_cons.1 ((h z).2 (by simp [hz])) with e | e
      · subst e; have := hb.1 z hz; omega
      · exact e

theorem planUp_some (F : Int → Option Img) (x : Img) (k : Int) (h : (F k).isSome = true ∨ k = x.block) : (planUp F x k).isSome = true := by
  have hup : (upd F x.block x k).isSome = true := by
    unfold upd
    split
    · rfl
    · rcases h with h | h
      · exact h
      · exact absurd h ‹_›
  unfold planUp
  cases hw : F x.block with
  | none => exact hup
  | some was =>
    simp only
    split
    · exact hup
    · rcases h with h | h
      · exact h
      · subst h; rw [hw]; rfl
theorem planF_some (l : List Img) : ∀ {x : Img}, x ∈ l → (planF l x.block).isSome = true := by
  obtain ⟨m, hm⟩ : ∃ m, m = l.length := ⟨_, rfl⟩
  induction m generalizing l with
  | zero =>
    obtain rfl := List.eq_nil_of_length_eq_zero hm.symm
    intro x h
    simp at h
  | succ m ih =>
    rcases List.eq_nil_or_concat l with rfl | ⟨l, y, rfl⟩
    · simp at hm
    · rw [List.concat_eq_append] at hm ⊢
      intro x hx
      rw [planF_snoc]
      refine planUp_some _ _ _ ?_
      rcases List.mem_append.1 hx with h | h
      · exact .inl (ih l (by simpa using hm) h)
      · exact .inr (by rw [List.mem_singleton.1 h])
/-- The newest image of each block, the blocks ascending. -/
def planOf (is : List Img) : List Img := (keysL (is.map Img.block)).filterMap (planF is)
theorem keysL_keysOf (is : List Img) : KeysOf (planF is) (keysL (is.map Img.block)) := by
  refine ⟨keysL_sorted _, fun k => ?_⟩
  rw [keysL_mem, List.mem_map]
  constructor
  · rintro ⟨x, hx, rfl⟩
    exact planF_some is hx
  · intro h
    obtain ⟨x, hx⟩ := Option.isSome_iff_exists.1 h
    obtain ⟨h1, h2⟩ := planF_mem is hx
    exact ⟨x, h1, h2⟩
theorem isPlan_eq {is out : List Img} (h : IsPlan is out) : out = planOf is := by
  obtain ⟨ks, hk, rfl⟩ := h
  have hk2 := keysL_keysOf is
  rw [sorted_unique hk.1 hk2.1 (fun x => (hk.2 x).trans (hk2.2 x).symm)]
  rfl
theorem planOf_is (is : List Img) : IsPlan is (planOf is) := ⟨_, keysL_keysOf is, rfl⟩
theorem planOf_length (is : List Img) : (planOf is).length ≤ is.length := by
  have h1 : (planOf is).length ≤ (keysL (is.map Img.block)).length := List.length_filterMap_le _ _
  have h2 := len_le_of_sub (l := keysL (is.map Img.block)) (L := is.map Img.block) ((keysL_sorted _).imp (fun h => by omega)) (fun x hx => (keysL_mem _ x).1 hx)
  rw [List.length_map] at h2
  omega

theorem recGet_fine {b : Bytes} {e n k : Nat} {l : List Img} (h : recGet b = some (e, n, l, k)) : wrongOf e n l = 0 ∧ (∀ x ∈ l, x.fine) ∧ l.length ≤ k ∧ e < 18446744073709551616 ∧ n < 18446744073709551616 ∧ 0 < e ∧ 0 < n ∧ k = secs l.length ∧ b.take (64 * k) = recBytes e n l := by
  unfold recGet at h
  split at h
  · simp at h
  · rename_i e1 n1 t hf
    have ht := recFirst_some hf
    have hen : e1 < 18446744073709551616 ∧ n1 < 18446744073709551616 := by
      unfold recFirst at hf
      split at hf
      · simp at hf
      · split at hf
        · simp at hf
        · split at hf
          · simp at hf
          · simp only [Option.some.injEq, Prod.mk.injEq] at hf
            obtain ⟨rfl, rfl, _⟩ := hf
            exact ⟨leVal_take _ 8, leVal_take _ 8⟩
    unfold recGetT at h
    split at h
    · simp at h
    · split at h
      · simp at h
      · split at h
        · rename_i hp
          simp only [Option.some.injEq, Prod.mk.injEq] at h
          obtain ⟨rfl, rfl, rfl, rfl⟩ := h
          unfold recPut at hp
          split at hp
          · rename_i hw
            simp only [Prod.mk.injEq] at hp
            exact absurd hp.2 hw
          · rename_i hw
            have hw0 : wrongOf e1 n1 (imgsN (bodyN b (secs t)) t) = 0 := by simpa using hw
            have hz := wrong_zero hw0
            have hl := imgsN_length (bodyN b (secs t)) t
            simp only [Prod.mk.injEq, and_true] at hp
            refine ⟨hw0, fun x hx => ⟨hz.2.2.2.2 x hx, ?_⟩, ?_, hen.1, hen.2, ht.2.2.1, ht.2.2.2, by rw [hl], hp.symm⟩
            · have key : ∀ k, ∀ x ∈ imgsN (bodyN b (secs t)) k, x.version < 18446744073709551616 := by
                intro k
                induction k with
                | zero => intro x hx; simp [imgsN] at hx
                | succ k ih =>
                  intro x hx
                  rw [imgsN] at hx
                  rcases List.mem_append.1 hx with h | h
                  · exact ih x h
                  · rw [List.mem_singleton.1 h]
                    exact leVal_take _ 8
              exact key t x hx
            · rw [hl, secs, if_pos ⟨ht.1, ht.2.1⟩]
              omega
        · simp at h
theorem scanL_fine : ∀ (f e n : Nat) (b : Bytes), (∀ r ∈ scanL f e n b, wrongOf r.epoch r.lsn r.imgs = 0 ∧ (∀ x ∈ r.imgs, x.fine) ∧ r.imgs.length ≤ 60) ∧ 64 * (imgsOf (scanL f e n b)).length ≤ b.length ∧ 64 * (scanL f e n b).length ≤ b.length
  | 0, _, _, _ => by simp [scanL, imgsOf]
  | f + 1, e, n, b => by
    unfold scanL
    split
    · simp [imgsOf]
    · rename_i e' n' l k hg
      split
      · simp [imgsOf]
      · have h1 := recGet_fine hg
        have h2 := recGet_len hg
        obtain ⟨i1, i2, i3⟩ := scanL_fine f e (u64n (n + 1)) (b.drop (64 * k))
        rw [List.length_drop] at i2 i3
        refine ⟨?_, ?_, by rw [List.length_cons]; omega⟩
        · intro r hr
          rcases List.mem_cons.1 hr with rfl | hr
          · exact ⟨h1.1, h1.2.1, (wrong_zero h1.1).2.2.2.1⟩
          · exact i1 r hr
        · have : imgsOf (⟨e', n', l⟩ :: scanL f e (u64n (n + 1)) (b.drop (64 * k))) = l ++ imgsOf (scanL f e (u64n (n + 1)) (b.drop (64 * k))) := by simp [imgsOf]
          rw [this, List.length_append]
          have := h1.2.2.1
          omega

def Dk.run (D : Dk) (s : Sh) (node : Int) (of : Nat) (by_ : Int) (epoch : Nat) : Int × Nat × Dk :=
  if (D.rhead s node).2.2 ≠ 0 ∨ (D.rhead s node).2.1 = false ∨ (D.rhead s node).1.epoch ≠ of then ((D.rhead s node).2.2, 0, D)
  else if (D.scan s node).2 ≠ 0 then ((D.scan s node).2, 0, D)
  else if (D.apply s by_ epoch (planOf (imgsOf (D.scan s node).1))).1 ≠ 0 then ((D.apply s by_ epoch (planOf (imgsOf (D.scan s node).1))).1, 0, (D.apply s by_ epoch (planOf (imgsOf (D.scan s node).1))).2.2)
  else if ((D.apply s by_ epoch (planOf (imgsOf (D.scan s node).1))).2.2.write by_ epoch (s.logAt node).1 (zs 64)).1 ≠ 0 then (((D.apply s by_ epoch (planOf (imgsOf (D.scan s node).1))).2.2.write by_ epoch (s.logAt node).1 (zs 64)).1, 0, ((D.apply s by_ epoch (planOf (imgsOf (D.scan s node).1))).2.2.write by_ epoch (s.logAt node).1 (zs 64)).2)
  else if (((D.apply s by_ epoch (planOf (imgsOf (D.scan s node).1))).2.2.write by_ epoch (s.logAt node).1 (zs 64)).2.barrier by_ epoch).1 ≠ 0 then ((((D.apply s by_ epoch (planOf (imgsOf (D.scan s node).1))).2.2.write by_ epoch (s.logAt node).1 (zs 64)).2.barrier by_ epoch).1, 0, (((D.apply s by_ epoch (planOf (imgsOf (D.scan s node).1))).2.2.write by_ epoch (s.logAt node).1 (zs 64)).2.barrier by_ epoch).2)
  else (0, (D.apply s by_ epoch (planOf (imgsOf (D.scan s node).1))).2.1, (((D.apply s by_ epoch (planOf (imgsOf (D.scan s node).1))).2.2.write by_ epoch (s.logAt node).1 (zs 64)).2.barrier by_ epoch).2)

theorem scan_len {D : Dk} {s : Sh} (hs : s.Ok) (hsd : D.Sized) (node : Int) : (∀ r ∈ (D.scan s node).1, wrongOf r.epoch r.lsn r.imgs = 0 ∧ (∀ x ∈ r.imgs, x.fine) ∧ r.imgs.length ≤ 60) ∧ (imgsOf (D.scan s node).1).length ≤ 256 ∧ (D.scan s node).1.length ≤ 256 := by
  unfold Dk.scan
  split
  · simp [imgsOf]
  · split
    · simp [imgsOf]
    · rename_i h1 h2
      have hl := read_length hsd ((s.logAt node).1 + 1) ((s.log : Int) - 1) (by simpa using h2)
      simp only
      unfold scanB
      obtain ⟨i1, i2, i3⟩ := scanL_fine ((D.read ((s.logAt node).1 + 1) ((s.log : Int) - 1)).1.length + 1) (D.rhead s node).1.epoch (D.rhead s node).1.lsn ((D.read ((s.logAt node).1 + 1) ((s.log : Int) - 1)).1.drop (64 * (D.rhead s node).1.at_) ++ (D.read ((s.logAt node).1 + 1) ((s.log : Int) - 1)).1.take (64 * (D.rhead s node).1.at_))
      have hle : ((D.read ((s.logAt node).1 + 1) ((s.log : Int) - 1)).1.drop (64 * (D.rhead s node).1.at_) ++ (D.read ((s.logAt node).1 + 1) ((s.log : Int) - 1)).1.take (64 * (D.rhead s node).1.at_)).length = (D.read ((s.logAt node).1 + 1) ((s.log : Int) - 1)).1.length := by
        simp only [List.length_append, List.length_drop, List.length_take]; omega
      replace i2 := Nat.le_trans i2 (Nat.le_of_eq (hle.trans hl))
      replace i3 := Nat.le_trans i3 (Nat.le_of_eq (hle.trans hl))
      have := hs.l2
      have := hs.l1
      refine ⟨i1, by omega, by omega⟩
theorem run_szd {D : Dk} (h : D.Szd) (s : Sh) (node : Int) (of : Nat) (by_ : Int) (epoch : Nat) : (D.run s node of by_ epoch).2.2.Szd := by
  have h1 := apply_szd h s by_ epoch (planOf (imgsOf (D.scan s node).1))
  unfold Dk.run
  split
  · exact h
  · split
    · exact h
    · split
      · exact h1
      · have h2 := write_szd h1 by_ epoch (s.logAt node).1 (zs 64)
        split
        · exact h2
        · split
          · exact barrier_szd h2 _ _
          · exact barrier_szd h2 _ _
theorem run_fitN {D : Dk} {N : Nat} {s : Sh} (hs : s.Ok) (hsd : D.Sized) (node : Int) (of : Nat) (by_ : Int) (epoch : Nat) (h : D.FitN (N + 10000)) : (D.run s node of by_ epoch).2.2.FitN N := by
  have hl := (scan_len hs hsd node).2.1
  have hp := planOf_length (imgsOf (D.scan s node).1)
  have h1 : (D.apply s by_ epoch (planOf (imgsOf (D.scan s node).1))).2.2.FitN (N + 16) := apply_fitN s by_ epoch _ (h.le (by omega))
  unfold Dk.run
  split
  · exact h.le (by omega)
  · split
    · exact h.le (by omega)
    · split
      · exact h1.le (by omega)
      · have h2 := write_fitN (node := by_) (epoch := epoch) (at_ := (s.logAt node).1) (data := zs 64) h1
        split
        · exact h2
        · split
          · exact barrier_fitN h2
          · exact barrier_fitN h2
end Go.Proofs.YtmmnjecaedmleaaGreatDoor

/- redo: Run: contract. -/
namespace Go.Proofs.YtmmnjecaedmleaaGreatDoor
open Go.RowKit
attribute [local go_sem ↓] Go.wp_at_zero Go.wp_at_succ

theorem ImgsAt.of_own {w : World} {B : Nat} {v : Value} {l : List Img} (h : w.ownsRow B 38 3 v l.length (l.flatMap Img.cells)) : ImgsAt w v l := imgsAt_of_row h
theorem fine_ok {l : List Rc} (h : ∀ r ∈ l, wrongOf r.epoch r.lsn r.imgs = 0 ∧ (∀ x ∈ r.imgs, x.fine) ∧ r.imgs.length ≤ 60) : ∀ x ∈ imgsOf l, x.data.length ≤ 1000000 ∧ InR x.block := by
  intro x hx
  obtain ⟨r, hr, hxr⟩ := List.mem_flatMap.1 hx
  have hf := (h r hr).2.1 x hxr
  refine ⟨by rw [hf.len]; omega, ?_⟩
  have hb := hf.blk
  unfold InR Lit.wf
  simp only [Bool.and_eq_true, decide_eq_true_eq]
  show (-9223372036854775808 : Int) ≤ x.block ∧ x.block ≤ 9223372036854775807
  omega

theorem RecAt.no {w w' : World} {v : Value} {l : List Rc} (h : RecAt w v l) (hc : Chg No w w') : RecAt w' v l := by
  rcases h with h | ⟨g, off, c, rfl, hj⟩
  · exact .inl h
  · refine .inr ⟨g, off, c, rfl, fun j hlt => ?_⟩
    obtain ⟨iv, h0, h1, h2, h3⟩ := hj j hlt
    exact ⟨iv, hc.cell h0 id, hc.cell h1 id, hc.cell h2 id, h3.no hc⟩

section
variable {w : World} {b : Nat} {D : Dk} {F : Nat → Prop}

set_option maxHeartbeats 3200000 in
set_option maxRecDepth 100000 in
theorem Run_no {s : Sh} (hs : s.Ok) (h : DiskAt w b D F) (hsd : D.Szd) (hf : D.FitN 20000) (node : Int) (of : Nat) (by_ : Int) (epoch : Nat) (he hl ha : Nat) (is : Bool) (c : Int) (hx : D.rhead s node = (⟨he, hl, ha⟩, is, c)) (hn : c ≠ 0 ∨ is = false ∨ he ≠ of) :
    Calls Tryz.prog 20 #[.pointer (some ⟨b, 0, none⟩), s.val, .int .i64 node, .int .u64 of, .int .i64 by_, .int .u64 epoch] w fun e w' => e = .returned (.tuple #[.int .i64 0, .int .i64 c]) ∧ Chg No w w' := by
  have hval : s.val = .agg #[.int .i64 s.nodes, .int .i64 s.blocks, .int .i64 s.log, .int .i64 s.cache, .int .i64 s.lease] := rfl
  have H0 := Lib.hid h
  have HF := Lib.hid hf.fit
  have HS := Lib.hid hs
  have HSD := Lib.hid hsd.now
  have HX := Lib.hid hx
  have hc3 : (c ≠ 0) ∨ (c = 0 ∧ is = false) ∨ (c = 0 ∧ is = true ∧ he ≠ of) := by
    by_cases h0 : c = 0
    · cases is
      · exact .inr (.inl ⟨h0, rfl⟩)
      · exact .inr (.inr ⟨h0, rfl, by simpa [h0] using hn⟩)
    · exact .inl h0
  rw [hval]
  clear h hf hs hsd hval hn
  rcases hc3 with h1 | ⟨rfl, rfl⟩ | ⟨rfl, rfl, h1⟩
  · have q0 : (c != 0) = true := by simpa using h1
    clear h1 hx
    go_enter Tryz.func20, Tryz.ntmps20
    go_wp2_with fail
    refine (rhead_ok HS.out (H0.out.no' ((Chg.refl No w).alloc _)) HF.out HSD.out node).mono ?_
    rw [HX.out]
    rintro e w1 ⟨rfl, hc1⟩
    unfold Hd.val
    have HC1 := Lib.hid (((Chg.refl No w).alloc _).trans_same hc1)
    clear hc1
    go_wp2_with fail
    go_ret2
    exact ⟨rfl, HC1.out.alloc _⟩
  · clear hx
    go_enter Tryz.func20, Tryz.ntmps20
    go_wp2_with fail
    refine (rhead_ok HS.out (H0.out.no' ((Chg.refl No w).alloc _)) HF.out HSD.out node).mono ?_
    rw [HX.out]
    rintro e w1 ⟨rfl, hc1⟩
    unfold Hd.val
    have HC1 := Lib.hid (((Chg.refl No w).alloc _).trans_same hc1)
    clear hc1
    go_wp2_with fail
    go_ret2
    exact ⟨rfl, HC1.out.alloc _⟩
  · have q0 : ((he : Int) != (of : Int)) = true := by simp; omega
    clear h1 hx
    go_enter Tryz.func20, Tryz.ntmps20
    go_wp2_with fail
    refine (rhead_ok HS.out (H0.out.no' ((Chg.refl No w).alloc _)) HF.out HSD.out node).mono ?_
    rw [HX.out]
    rintro e w1 ⟨rfl, hc1⟩
    unfold Hd.val
    have HC1 := Lib.hid (((Chg.refl No w).alloc _).trans_same hc1)
    clear hc1
    go_wp2_with fail
    go_ret2
    exact ⟨rfl, HC1.out.alloc _⟩

set_option maxHeartbeats 3200000 in
set_option maxRecDepth 100000 in
theorem Run_go {s : Sh} (hs : s.Ok) (h : DiskAt w b D F) (hsd : D.Szd) (hf : D.FitN 20000) (node : Int) (by_ : Int) (epoch : Nat) (he hl ha : Nat) (hx : D.rhead s node = (⟨he, hl, ha⟩, true, 0)) (at_ : Int) (hat : s.logAt node = (at_, 0)) (res : Int × Nat × Dk) (hres : D.run s node he by_ epoch = res) :
    Calls Tryz.prog 20 #[.pointer (some ⟨b, 0, none⟩), s.val, .int .i64 node, .int .u64 he, .int .i64 by_, .int .u64 epoch] w fun e w' => e = .returned (.tuple #[.int .i64 res.2.1, .int .i64 res.1]) ∧ St F w w' b res.2.2 := by
  have hval : s.val = .agg #[.int .i64 s.nodes, .int .i64 s.blocks, .int .i64 s.log, .int .i64 s.cache, .int .i64 s.lease] := rfl
  unfold Dk.run at hres
  have hsl := scan_len hs hsd.now node
  rw [hx, hat] at hres
  simp only at hres
  rw [if_neg (by simp)] at hres
  obtain ⟨sc, hsc⟩ : ∃ sc, D.scan s node = sc := ⟨_, rfl⟩
  rw [hsc] at hres hsl
  obtain ⟨recs, c1⟩ := sc
  simp only at hres hsl
  have H0 := Lib.hid h
  have HFL := Lib.hid h.lt
  have HF := Lib.hid hf
  have HS := Lib.hid hs
  have HSD := Lib.hid hsd
  have HX := Lib.hid hx
  have HAT := Lib.hid hat
  have HSC := Lib.hid hsc
  have HSL := Lib.hid hsl
  have HRES := Lib.hid hres
  rw [hval]
  clear h hf hs hsd hx hat hval hsc hsl hres
  go_enter Tryz.func20, Tryz.ntmps20
  go_wp2_with fail
  refine (rhead_ok HS.out (H0.out.no' ((Chg.refl No w).alloc _)) HF.out.fit HSD.out.now node).mono ?_
  rw [HX.out]
  rintro e w1 ⟨rfl, hc1⟩
  unfold Hd.val
  have hk1 := hc1.obj (blk_new w _) id
  obtain ⟨c0, c1', c2, c3, c4⟩ := cells5 hk1
  have hzw := World.block_lt_of_cell? w1 _ c0
  have HC1 := Lib.hid (((Chg.refl No w).alloc _).trans_same hc1)
  have HK1 := Lib.hid hk1
  clear hc1 hk1
  go_wp2_with fail
  generalize hW : w1.alloc (.cells #[.int .u64 he, .int .u64 hl, .int .i64 ha] 149) = W
  have hcW : Chg No w1 W := by rw [← hW]; exact (Chg.refl _ _).alloc _
  have HKW := Lib.hid (hcW.obj HK1.out id)
  have HCW := Lib.hid (HC1.out.trans_same hcW)
  clear hW hcW c0 c1' c2 c3 c4
  refine (Scan_ok HS.out (H0.out.no' HCW.out) HF.out.fit HSD.out.now node).mono ?_
  rw [HSC.out]
  rintro e w2 ⟨v, ps, rfl, hrr, hps, hc2⟩
  have HC2 := Lib.hid (HCW.out.trans_same hc2)
  have hk2 := hc2.obj HKW.out id
  have HK2 := Lib.hid hk2
  have HRA := Lib.hid (recAt_of hrr hps)
  clear hc2 hrr hps
  by_cases hc1 : c1 = 0
  · subst hc1
    have hr := HRES.out
    rw [if_neg (by simp)] at hr
    have HR := Lib.hid hr
    clear hr HRES
    obtain ⟨c0, c1, c2, c3, c4⟩ := cells5 hk2
    have hzw2 := World.block_lt_of_cell? w2 _ c0
    have HZ := Lib.hid hzw2
    clear hk2
    have HRAd := Lib.hid (show RecAt w2.drew v recs from HRA.out.no ((Chg.refl No w2).drew))
    have HFO := Lib.hid (fine_ok HSL.out.1)
    have HL1 := Lib.hid (show recs.length ≤ 100000 by have := HSL.out.2.2; omega)
    have HL2 := Lib.hid (show ∀ r ∈ recs, r.imgs.length ≤ 100000 from fun r hr => by have := (HSL.out.1 r hr).2.2; omega)
    have HL3 := Lib.hid (show (imgsOf recs).length ≤ 1000000 by have := HSL.out.2.1; omega)
    have hpl := planOf_length (imgsOf recs)
    have HPL := Lib.hid (show (planOf (imgsOf recs)).length ≤ 256 by have := HSL.out.2.1; omega)
    have HD2 := Lib.hid (H0.out.no' HC2.out.drew)
    have hwF : ¬ F w.heap.size := fun h => by have := HFL.out _ h; omega
    have hsw2 := HC2.out.size
    obtain ⟨ap, hap⟩ : ∃ ap, D.apply s by_ epoch (planOf (imgsOf recs)) = ap := ⟨_, rfl⟩
    have hapz := apply_szd HSD.out s by_ epoch (planOf (imgsOf recs))
    have hapf : (D.apply s by_ epoch (planOf (imgsOf recs))).2.2.FitN 1000 := apply_fitN s by_ epoch _ (HF.out.le (by have := HPL.out; omega))
    have hr := HR.out
    rw [hap] at hapz hapf hr
    obtain ⟨c5, n5, D5⟩ := ap
    simp only at hapz hapf hr
    have HAP := Lib.hid hap
    have HAPZ := Lib.hid hapz
    have HAPF := Lib.hid hapf
    have HR5 := Lib.hid hr
    clear hap hapz hapf hr hpl HR
    go_wp2_with fail
    go_region_held3 (fun w' => w'.cell? ⟨w.heap.size, 0, none⟩ = some (.int .i64 s.nodes) ∧ w'.cell? ⟨w.heap.size, 1, none⟩ = some (.int .i64 s.blocks) ∧ w'.cell? ⟨w.heap.size, 2, none⟩ = some (.int .i64 s.log) ∧ w'.cell? ⟨w.heap.size, 3, none⟩ = some (.int .i64 s.cache) ∧ w'.cell? ⟨w.heap.size, 4, none⟩ = some (.int .i64 s.lease)) (go_keep)
      (first
        | (go_at_call 24; (with_reducible refine (Plan_ok v recs HRAd.out HL1.out HL2.out HL3.out HFO.out).mono ?_); rintro e w3 ⟨v3, out, rfl, ho3, hip3, hc3⟩; have hk3 : ∀ o, w3.cell? ⟨w.heap.size, o, none⟩ = w2.cell? ⟨w.heap.size, o, none⟩ := fun o => World.cell?_of_block (hc3.block _ hzw2 id); have hip := isPlan_eq hip3; subst hip; have HV3 := Lib.hid (ImgsAt.of_own ho3); have HVF3 := Lib.hid (show ∀ k, v3.ownBlock = some k → ¬ F k from fun k hk hF => by have h1 := (ho3.lt k hk).1; have h2 := HFL.out k hF; rw [show w2.drew.heap.size = w2.heap.size from rfl] at h1; omega); have HD3 := Lib.hid (HD2.out.no' hc3); have HC3 := Lib.hid (HC2.out.drew.trans_same hc3); have hzw3 : w.heap.size < w3.heap.size := Nat.lt_of_lt_of_le hzw2 hc3.size; clear ho3 hip3 hc3)
        | (go_at_call 31; (refine (Apply_ok HS.out HD3.out HSD.out by_ epoch v3 (planOf (imgsOf recs)) HV3.out HVF3.out (by have := HPL.out; omega) (HF.out.le (by have := HPL.out; omega))).mono ?_); rw [HAP.out]; rintro e w4 ⟨rfl, h4⟩; have hk4 : ∀ o, w4.cell? ⟨w.heap.size, o, none⟩ = w3.cell? ⟨w.heap.size, o, none⟩ := fun o => World.cell?_of_block (h4.2.block _ hzw3 hwF); have H4 := Lib.hid h4; clear h4))
    have H5 := Lib.hid (St.pre HC3.out H4.out HFL.out)
    have k0 := ((hk4 0).trans (hk3 0)).trans c0
    have k1 := ((hk4 1).trans (hk3 1)).trans c1
    have k2 := ((hk4 2).trans (hk3 2)).trans c2
    have k3 := ((hk4 3).trans (hk3 3)).trans c3
    have k4 := ((hk4 4).trans (hk3 4)).trans c4
    clear hk3 hk4 c0 c1 c2 c3 c4
    by_cases hc5 : c5 = 0
    · subst hc5
      have hr := HR5.out
      rw [if_neg (by simp)] at hr
      obtain ⟨wr, hwr⟩ : ∃ wr, D5.write by_ epoch at_ (zs 64) = wr := ⟨_, rfl⟩
      rw [hwr] at hr
      have hwf : (D5.write by_ epoch at_ (zs 64)).2.FitN 100 := write_fitN (HAPF.out.le (by omega))
      rw [hwr] at hwf
      obtain ⟨c6, D6⟩ := wr
      simp only at hr hwf
      have HWR := Lib.hid hwr
      have HWF := Lib.hid hwf
      have HR6 := Lib.hid hr
      clear hr hwr hwf HR5
      go_wp2_with fail
      refine (LogAt_ok _ HS.out node).mono ?_
      rw [HAT.out]
      rintro e w5 ⟨rfl, hc5⟩
      have H6 := Lib.hid (H5.out.no hc5)
      clear hc5 k0 k1 k2 k3 k4
      go_wp2_with fail
      refine (repeat_ok _ 64 (by omega) (by omega)).mono ?_
      rintro e w6 ⟨rfl, hc6⟩
      have H7 := Lib.hid (H6.out.no hc6)
      clear hc6
      go_wp2_with fail
      refine (Write_ok H7.out.1 HAPF.out.fit by_ epoch at_ (zs 64) (by simp)).mono ?_
      rw [HWR.out]
      rintro e w7 ⟨rfl, hd7, hc7⟩
      have H8 := Lib.hid (H7.out.next hd7 hc7)
      clear hd7 hc7
      by_cases hc6 : c6 = 0
      · subst hc6
        have hr := HR6.out
        rw [if_neg (by simp)] at hr
        obtain ⟨br, hbr⟩ : ∃ br, D6.barrier by_ epoch = br := ⟨_, rfl⟩
        rw [hbr] at hr
        obtain ⟨c7, D7⟩ := br
        simp only at hr
        have HBR := Lib.hid hbr
        have HR7 := Lib.hid hr
        clear hr hbr HR6
        go_wp2_with fail
        refine (Barrier_ok H8.out.1 HWF.out.fit by_ epoch).mono ?_
        rw [HBR.out]
        rintro e w8 ⟨rfl, hd8, hc8⟩
        have H9 := Lib.hid (H8.out.next hd8 hc8)
        clear hd8 hc8
        by_cases hc7 : c7 = 0
        · subst hc7
          have hr := HR7.out
          rw [if_neg (by simp)] at hr
          have HR8 := Lib.hid hr
          clear hr HR7
          go_wp2_with fail
          go_ret2
          rw [← HR8.out]
          exact ⟨rfl, H9.out⟩
        · have q0 : (c7 != 0) = true := by simpa using hc7
          have hr := HR7.out
          rw [if_pos hc7] at hr
          have HR8 := Lib.hid hr
          clear hr HR7 hc7
          go_wp2_with fail
          go_ret2
          rw [← HR8.out]
          exact ⟨rfl, H9.out⟩
      · have q0 : (c6 != 0) = true := by simpa using hc6
        have hr := HR6.out
        rw [if_pos hc6] at hr
        have HR7 := Lib.hid hr
        clear hr HR6 hc6
        go_wp2_with fail
        go_ret2
        rw [← HR7.out]
        exact ⟨rfl, H8.out⟩
    · have q0 : (c5 != 0) = true := by simpa using hc5
      have hr := HR5.out
      rw [if_pos hc5] at hr
      have HR6 := Lib.hid hr
      clear hr HR5 hc5 k0 k1 k2 k3 k4
      go_wp2_with fail
      go_ret2
      rw [← HR6.out]
      exact ⟨rfl, H5.out⟩
  · have q0 : (c1 != 0) = true := by simpa using hc1
    have hr := HRES.out
    rw [if_pos hc1] at hr
    have HR := Lib.hid hr
    clear hr hc1 hk2
    go_wp2_with fail
    go_ret2
    rw [← HR.out]
    exact ⟨rfl, (St.refl H0.out).no HC2.out⟩

theorem Run_ok {s : Sh} (hs : s.Ok) (h : DiskAt w b D F) (hsd : D.Szd) (hf : D.FitN 20000) (node : Int) (of : Nat) (by_ : Int) (epoch : Nat) :
    Calls Tryz.prog 20 #[.pointer (some ⟨b, 0, none⟩), s.val, .int .i64 node, .int .u64 of, .int .i64 by_, .int .u64 epoch] w fun e w' => e = .returned (.tuple #[.int .i64 (D.run s node of by_ epoch).2.1, .int .i64 (D.run s node of by_ epoch).1]) ∧ St F w w' b (D.run s node of by_ epoch).2.2 := by
  obtain ⟨x, hx⟩ : ∃ x, D.rhead s node = x := ⟨_, rfl⟩
  obtain ⟨⟨he, hl, ha⟩, is, c⟩ := x
  by_cases hn : c ≠ 0 ∨ is = false ∨ he ≠ of
  · have hr : D.run s node of by_ epoch = (c, 0, D) := by
      unfold Dk.run
      rw [hx, if_pos hn]
    rw [hr]
    refine (Run_no hs h hsd hf node of by_ epoch he hl ha is c hx hn).mono ?_
    rintro e w' ⟨rfl, hc⟩
    exact ⟨rfl, (St.refl h).no hc⟩
  · obtain rfl : c = 0 := by
      by_cases h0 : c = 0
      · exact h0
      · exact absurd (.inl h0) hn
    obtain rfl : is = true := by
      cases is
      · exact absurd (.inr (.inl rfl)) hn
      · rfl
    obtain rfl : he = of := by
      by_cases h0 : he = of
      · exact h0
      · exact absurd (.inr (.inr h0)) hn
    have h2 := (rhead_is (D := D) (s := s) (node := node) (by rw [hx])).2.1
    obtain ⟨y, hy⟩ : ∃ y, s.logAt node = y := ⟨_, rfl⟩
    rw [hy] at h2
    obtain ⟨at_, e⟩ := y
    obtain rfl : e = 0 := h2
    exact Run_go hs h hsd hf node by_ epoch he hl ha hx at_ hy _ rfl
end
end Go.Proofs.YtmmnjecaedmleaaGreatDoor
