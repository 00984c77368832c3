import Derived.Test.YtmmnjecaedmleaaGreatDoorM22
import Derived.Test.YtmmnjecaedmleaaGreatDoorIter

/- The keys of a map of images, sorted: contracts. -/
namespace Go.Proofs.YtmmnjecaedmleaaGreatDoor
open Go.RowKit Go.Maps Go.Sort Go.Shelf

theorem len_le_of_sub {l L : List Int} (hn : l.Nodup) (h : ∀ x ∈ l, x ∈ L) : l.length ≤ L.length := by
  induction l generalizing L with
  | nil => simp
  | cons a l ih =>
    rw [List.nodup_cons] at hn
    have ha := h a (by simp)
    have := ih (L := L.erase a) hn.2 (fun x hx => by
      have hne : x ≠ a := fun e => hn.1 (e ▸ hx)
      exact (List.mem_erase_of_ne hne).2 (h x (by simp [hx])))
    rw [List.length_erase_of_mem ha] at this
    have h0 := List.length_pos_of_mem ha
    simp; omega

/-- Keys are whole numbers of 64 bits. -/
def InR (k : Int) : Prop := (Lit.int .i64 k).wf = true
/-- Whatever a value holds, it reads as something. -/
def anyR {H : Type} : Value → Option (DataW H × List MemPlace) := fun _ => some (.lit (.bool true), [])
theorem owns_of {w : World} {r : Nat} {f : Int → Option Value} (h : MapAt w r f) (L : List Int) (hf : ∀ k, (f k).isSome = true → k ∈ L ∧ InR k) (hL : L.length ≤ 1000000) :
    ∃ D0 : DataW Unit, w.ownsMap Tryz.prog 3 anyR r 1000000 D0 ∧ Maps.size D0 ≤ 1000000 ∧ ∀ ss : List Int, ss.Perm (intKeys D0) → ss.Nodup ∧ ∀ k, k ∈ ss ↔ (f k).isSome = true := by
  obtain ⟨es, clock, hb, hok⟩ := h
  have hkey : ∀ x ∈ es.toList, f (keyI x.key) = some x.val := fun x hx => by
    rw [← hok.find]; exact mem_lookI hok.nodup hx
  have hrd : ∀ x ∈ es.toList, WideElems.rd (H := Unit) Tryz.prog 3 anyR x = some (.int .i64 (keyI x.key), .lit (.bool true)) := fun x hx => by
    have hr := (hf (keyI x.key) (by rw [hkey x hx]; rfl)).2
    have hk := hok.keys x hx
    have h1 : keyOf Tryz.prog 3 x.key = some (.int .i64 (keyI x.key)) := by rw [hk]; exact keyOf_int_mk und_int hr
    simp [WideElems.rd, h1, anyR]
  have hrg : es.toList.map (WideElems.rg (H := Unit) Tryz.prog 3 anyR) = es.toList.map fun x => (Lit.int .i64 (keyI x.key), DataW.lit (.bool true)) :=
    List.map_congr_left (fun x hx => WideElems.rg_of (hrd x hx))
  have hsz : es.size ≤ 1000000 := by
    have h1 := len_le_of_sub hok.nodup (L := L) (fun k hk => by
      obtain ⟨x, hx, rfl⟩ := List.mem_map.1 hk
      exact (hf _ (by rw [hkey x hx]; rfl)).1)
    simp at h1; omega
  have hmax : (1000000 : Nat) ≤ maxLen := by decide
  have hFit : WideElems.Fit (H := Unit) Tryz.prog 3 anyR es clock := by
    refine ⟨by omega, (MapKept.stamped_iff es clock).2 ⟨hok.young, hok.borns, ?_⟩, fun x hx => ⟨_, hrd x hx⟩⟩
    have := List.pairwise_map.1 hok.nodup
    refine this.imp_of_mem (fun {a b} ha hb hne e => hne (by rw [e]))
  have hperm : ((es.toList.map (WideElems.rg (H := Unit) Tryz.prog 3 anyR)).foldr DataW.insert []).Perm (es.toList.map (WideElems.rg (H := Unit) Tryz.prog 3 anyR)) := WideShapes.sorted_perm _
  refine ⟨_, ⟨es, clock, hb, hFit, hsz, rfl⟩, ?_, ?_⟩
  · show ((es.toList.map _).foldr DataW.insert []).length ≤ 1000000
    rw [hperm.length_eq]
    simpa using hsz
  · intro ss hss
    have hkeys : (intKeys (H := Unit) (.map ((es.toList.map (WideElems.rg Tryz.prog 3 anyR)).foldr DataW.insert []))).Perm (es.toList.map fun x => keyI x.key) := by
      show (List.map _ _).Perm _
      refine (hperm.map _).trans ?_
      rw [hrg, List.map_map]
      exact List.Perm.refl _
    have hp := hss.trans hkeys
    refine ⟨hp.nodup_iff.2 hok.nodup, fun k => ?_⟩
    rw [hp.mem_iff, List.mem_map]
    constructor
    · rintro ⟨x, hx, rfl⟩
      rw [hkey x hx]; rfl
    · intro hk
      obtain ⟨v, hv⟩ := Option.isSome_iff_exists.1 hk
      rw [← hok.find] at hv
      obtain ⟨x, hx, h1, _⟩ := lookI_mem hv
      exact ⟨x, hx, h1⟩

/-- The keys, ascending. -/
def KeysOf {α : Type} (f : Int → Option α) (ss : List Int) : Prop := ss.Pairwise (· < ·) ∧ ∀ k, k ∈ ss ↔ (f k).isSome = true
theorem keysOf_sort {α : Type} {f : Int → Option α} {ss : List Int} (hn : ss.Nodup) (hm : ∀ k, k ∈ ss ↔ (f k).isSome = true) : KeysOf f (ss.mergeSort (fun x y => decide (x ≤ y))) := by
  have hp := List.mergeSort_perm ss (fun x y => decide (x ≤ y))
  refine ⟨?_, fun k => by rw [hp.mem_iff, hm]⟩
  have h1 : (ss.mergeSort (fun x y => decide (x ≤ y))).Pairwise (fun a b => decide (a ≤ b) = true) :=
    List.pairwise_mergeSort (fun a b c h1 h2 => by simp only [decide_eq_true_eq] at *; omega) (fun a b => by simp only [Bool.or_eq_true, decide_eq_true_eq]; omega) ss
  have h2 : (ss.mergeSort (fun x y => decide (x ≤ y))).Nodup := hp.nodup_iff.2 hn
  refine (h1.and h2).imp (fun {a b} h => ?_)
  have := h.1
  simp only [decide_eq_true_eq] at this
  have := h.2
  omega

theorem mapsKeys_ok (r : Nat) (w : World) : Calls Tryz.prog 89 #[.map (some r)] w fun e w' => e = .returned (.func (.func 218) #[] #[.pointer (some ⟨w.heap.size, 0, none⟩)]) ∧ w' = w.alloc (.cells #[.map (some r)] 157) :=
  (callsIn_wide (n := 5)).1 (AnyZI.keys_in Tryz.keys89 Fence.wide 5 trivial rfl (some r) w)

theorem sortsIn (m : Nat) : AnyZI.SortsIn Tryz.prog Tryz.sorted88_ren Fence.wide m :=
  ⟨fun blk off cap ss W hH hblk hsz => callsIn_wide.2 (AnyM.slices_Sort_int Tryz.sort217 blk off cap ss W hH hblk hsz),
   fun p cap W => callsIn_wide.2 (AnyM.slices_Sort_int_none Tryz.sort217 p cap W)⟩

set_option maxHeartbeats 1000000 in
theorem sortedKeys_ok {w : World} {r : Nat} {f : Int → Option Value} (h : MapAt w r f) (L : List Int) (hf : ∀ k, (f k).isSome = true → k ∈ L ∧ InR k) (hL : L.length ≤ 1000000) :
    Calls Tryz.prog 88 #[.func (.func 218) #[] #[.pointer (some ⟨w.heap.size, 0, none⟩)]] (w.alloc (.cells #[.map (some r)] 157)) fun e w' =>
      ∃ (v : Value) (ss : List Int), e = .returned v ∧ KeysOf f ss ∧ w'.ownsRow (w.heap.size + 1) 3 1 v ss.length (ss.map (Value.int .i64)) ∧ Chg No (w.alloc (.cells #[.map (some r)] 157)) w' := by
  obtain ⟨D0, hown, hsz, hss⟩ := owns_of h L hf hL
  have hbl := hown.lt
  have hseq : SeqGives Fence.wide 2 Tryz.prog 218 #[.pointer (some ⟨w.heap.size, 0, none⟩)] encZ (fun ss => ss.Perm (intKeys D0)) (Maps.size D0) (w.alloc (.cells #[.map (some r)] 157)) :=
    AnyZI.keys_gives (ρ := Tryz.keys89_ren) { Tryz.keys89 with } Fence.wide _ trivial rfl (by omega) w.heap.size r 1000000 D0 _ (by simp) (by simp) (by
      obtain ⟨es, clock, hb, Ft, hs, hD⟩ := hown
      exact ⟨es, clock, (Below.heap_alloc _ _ r hbl).trans hb, Ft, hs, hD⟩)
  have hmax : (1000000 : Nat) ≤ maxLen := by decide
  have cS := AnyZI.sorted_in Tryz.sorted88 Fence.wide 5 trivial trivial trivial trivial rfl (by omega) (sortsIn _) (enters_of Tryz.func217 (by kernel_rfl) rfl) 218 #[.pointer (some ⟨w.heap.size, 0, none⟩)] trivial (enters_of Tryz.func218 (by kernel_rfl) rfl) _ (Maps.size D0) (by omega) (by omega) _ hseq
  refine ((callsIn_wide (n := 5)).1 cS).mono ?_
  rintro e w' ⟨v, ss, rfl, hS, hrow, _, hb⟩
  obtain ⟨h1, h2⟩ := hss ss hS
  refine ⟨v, _, rfl, keysOf_sort h1 h2, ?_, Chg.of_below hb⟩
  have := ownsRow_base hrow (show w.heap.size + 1 ≤ _ by simp)
  rw [List.length_mergeSort]
  exact this
end Go.Proofs.YtmmnjecaedmleaaGreatDoor

/- redo: Plan: contract. -/
namespace Go.Proofs.YtmmnjecaedmleaaGreatDoor
open Go.RowKit
attribute [local go_sem ↓] Go.wp_at_zero Go.wp_at_succ

def planUp (F : Int → Option Img) (i : Img) : Int → Option Img := match F i.block with
  | some was => if was.version ≤ i.version then upd F i.block i else F
  | none => upd F i.block i
/-- The newest image of each block. -/
def planF (l : List Img) : Int → Option Img := l.foldl planUp (fun _ => none)
theorem planF_snoc (l : List Img) (x : Img) : planF (l ++ [x]) = planUp (planF l) x := by unfold planF; rw [List.foldl_append]; rfl
theorem planF_mem : ∀ (l : List Img) {k : Int} {i : Img}, planF l k = some i → i ∈ l ∧ i.block = k := by
  intro l
  obtain ⟨m, hm⟩ : ∃ m, m = l.length := ⟨_, rfl⟩
  induction m generalizing l with
  | zero =>
    obtain rfl := List.eq_nil_of_length_eq_zero hm.symm
    intro k i h
    simp [planF] at h
  | succ m ih =>
    rcases List.eq_nil_or_concat l with rfl | ⟨l, x, rfl⟩
    · simp at hm
    · rw [List.concat_eq_append] at hm ⊢
      intro k i h
      rw [planF_snoc] at h
      have hup : upd (planF l) x.block x k = some i → i ∈ l ++ [x] ∧ i.block = k := by
        intro h
        unfold upd at h
        split at h
        · simp only [Option.some.injEq] at h
          subst h
          exact ⟨by simp, by simp [*]⟩
        · obtain ⟨a, b⟩ := ih l (by simpa using hm) h
          exact ⟨by simp [a], b⟩
      have hold : planF l k = some i → i ∈ l ++ [x] ∧ i.block = k := fun h => by
        obtain ⟨a, b⟩ := ih l (by simpa using hm) h
        exact ⟨by simp [a], b⟩
      unfold planUp at h
      cases hw : planF l x.block with
      | none => rw [hw] at h; exact hup h
      | some was =>
        rw [hw] at h
        simp only at h
        by_cases hv : was.version ≤ x.version
        · rw [if_pos hv] at h; exact hup h
        · rw [if_neg hv] at h; exact hold h
def imgsOf (l : List Rc) : List Img := l.flatMap Rc.imgs
/-- What is planned: the blocks ascending, each with its newest image. -/
def IsPlan (is out : List Img) : Prop := ∃ ks, KeysOf (planF is) ks ∧ out = ks.filterMap (planF is)

/-- The value v is a slice of the records l. -/
def RecAt (w : World) (v : Value) (l : List Rc) : Prop :=
  (v = .slice none 0 0 ∧ l = []) ∨ ∃ g off c, v = .slice (some ⟨g, off, none⟩) l.length c ∧ ∀ j (h : j < l.length), ∃ iv, w.cell? ⟨g, off + j * 3, none⟩ = some (.int .u64 l[j].epoch) ∧ w.cell? ⟨g, off + j * 3 + 1, none⟩ = some (.int .u64 l[j].lsn) ∧ w.cell? ⟨g, off + j * 3 + 2, none⟩ = some iv ∧ ImgsAt w iv l[j].imgs
theorem flat_rec : ∀ (l : List (Rc × Value)) (k : Nat) (hk : k < l.length), (l.flatMap Rc.cells)[k * 3]? = some (.int .u64 l[k].1.epoch) ∧ (l.flatMap Rc.cells)[k * 3 + 1]? = some (.int .u64 l[k].1.lsn) ∧ (l.flatMap Rc.cells)[k * 3 + 2]? = some l[k].2
  | [], k, hk => by simp at hk
  | x :: l, 0, _ => ⟨rfl, rfl, rfl⟩
  | x :: l, k + 1, hk => by
    have h4 : (Rc.cells x).length = 3 := rfl
    have e : ∀ j, ((x :: l).flatMap Rc.cells)[(k + 1) * 3 + j]? = (l.flatMap Rc.cells)[k * 3 + j]? := fun j => by
      rw [List.flatMap_cons, List.getElem?_append_right (by omega)]
      congr 1
      omega
    have ih := flat_rec l k (by simpa using hk)
    have e0 := e 0
    simp only [Nat.add_zero] at e0
    rw [e0, e 1, e 2]
    simpa using ih
theorem recAt_of {w : World} {B : Nat} {v : Value} {ps : List (Rc × Value)} {l : List Rc} (h : RecsR w B v ps) (hl : ps.map Prod.fst = l) : RecAt w v l := by
  subst hl
  rcases h.1.2 with ⟨hv, hn⟩ | ⟨g, cap, cur, hv, _⟩
  · exact .inl ⟨hv, by rw [List.eq_nil_of_length_eq_zero hn]; rfl⟩
  · refine .inr ⟨g, 0, cap, by rw [hv, List.length_map], fun j hj => ?_⟩
    have hj' : j < ps.length := by simpa using hj
    obtain ⟨e0, e1, e2⟩ := flat_rec ps j hj'
    have hob : v.ownBlock = some g := by rw [hv]; rfl
    rw [Nat.zero_add]
    refine ⟨ps[j].2, ?_, ?_, row_cell h.1 hob e2, ?_⟩
    · simpa using row_cell h.1 hob e0
    · simpa using row_cell h.1 hob e1
    · have := imgsAt_of_row (h.2 ps[j] (List.getElem_mem hj'))
      simpa using this

theorem und_mapimg : Tryz.prog.underlying 157 = some (.map 3 38) := by kernel_rfl
theorem zero_img (w : World) : (zeroValue 38).run Tryz.prog w = .ok zeroImg w := by kernel_rfl

theorem imgsOf_take (l : List Rc) (k : Nat) (h : k < l.length) : imgsOf (l.take (k + 1)) = imgsOf (l.take k) ++ l[k].imgs := by
  unfold imgsOf
  rw [List.take_succ_eq_append_getElem h, List.flatMap_append]
  simp
theorem planM_congr {w : World} {r : Nat} {a b : List Img} (h : MapAt w r (fun k => (planF a k).map Img.val)) (e : a = b) : MapAt w r (fun k => (planF b k).map Img.val) := e ▸ h

theorem filterMap_len {ss : List Int} {f : Int → Option Img} (h : ∀ k ∈ ss, (f k).isSome = true) : (ss.filterMap f).length = ss.length := by
  induction ss with
  | nil => rfl
  | cons a ss ih =>
    obtain ⟨x, hx⟩ := Option.isSome_iff_exists.1 (h a (by simp))
    rw [List.filterMap_cons, hx]
    simp [ih (fun k hk => h k (by simp [hk]))]

section
variable {w : World}
def PlanPost (l : List Rc) (w : World) (e' : Ending) (w' : World) : Prop :=
  ∃ v out, e' = .returned v ∧ w'.ownsRow w.heap.size 38 3 v out.length (out.flatMap Img.cells) ∧ IsPlan (imgsOf l) out ∧ Chg No w w'

set_option maxHeartbeats 3200000 in
set_option maxRecDepth 100000 in
theorem Plan_ok (v : Value) (l : List Rc) (hv : RecAt w v l) (hl : l.length ≤ 100000) (hi : ∀ r ∈ l, r.imgs.length ≤ 100000) (ht : (imgsOf l).length ≤ 1000000) (hx : ∀ x ∈ imgsOf l, x.data.length ≤ 1000000 ∧ InR x.block) :
    Calls Tryz.prog 24 #[v] w (PlanPost l w) := by
  obtain ⟨va, vc, hvv⟩ : ∃ a c, v = .slice a l.length c := by
    rcases hv with ⟨rfl, rfl⟩ | ⟨g, off, c, rfl, _⟩
    · exact ⟨none, 0, rfl⟩
    · exact ⟨_, c, rfl⟩
  subst hvv
  have HV := Lib.hid hv
  have HI := Lib.hid hi
  have HT := Lib.hid ht
  have HX := Lib.hid hx
  clear hv hi ht hx
  have hmm := @run_makeMap Tryz.prog
  go_enter Tryz.func24, Tryz.ntmps24
  go_wp2_with fail
  clear hmm
  go_loopw [16] (fun i wr => ∃ k : Nat, k ≤ l.length ∧ i = .int .i64 k ∧ Hid (MapAt wr w.heap.size (fun b => (planF (imgsOf (l.take k)) b).map Img.val)) ∧ Hid (Chg No w wr)) (fun i _ => l.length - (intOf i).toNat)
  case atStart => exact ⟨0, Nat.zero_le _, rfl, Lib.hid (MapAt.fresh w), Lib.hid ((Chg.refl No w).alloc _)⟩
  case round =>
    obtain ⟨k, hk, rfl, HM, HC⟩ := hrel
    rename World => wo
    by_cases hlt : k < l.length
    · obtain ⟨g, goff, hg, hcells⟩ : ∃ g off, va = some ⟨g, off, none⟩ ∧ ∀ j (h : j < l.length), ∃ iv, w.cell? ⟨g, off + j * 3, none⟩ = some (.int .u64 l[j].epoch) ∧ w.cell? ⟨g, off + j * 3 + 1, none⟩ = some (.int .u64 l[j].lsn) ∧ w.cell? ⟨g, off + j * 3 + 2, none⟩ = some iv ∧ ImgsAt w iv l[j].imgs := by
        rcases HV.out with ⟨_, hn⟩ | ⟨g, off, c, hv, hj⟩
        · rw [hn] at hlt; simp at hlt
        · simp only [Value.slice.injEq] at hv
          exact ⟨g, off, hv.1, hj⟩
      subst hg
      obtain ⟨iv, e0, e1, e2, him⟩ := hcells k hlt
      have d0 := HC.out.cell e0 id
      have d1 := HC.out.cell e1 id
      have d2 := HC.out.cell e2 id
      obtain ⟨ia, ic, hiv⟩ := imgs_form him
      subst hiv
      have htk := imgsOf_take l k hlt
      have hlen := HI.out l[k] (List.getElem_mem hlt)
      have hsub : ∀ x ∈ l[k].imgs, x ∈ imgsOf l := fun x hx => List.mem_flatMap.2 ⟨l[k], List.getElem_mem hlt, hx⟩
      obtain ⟨r, hr⟩ : ∃ r, l[k] = r := ⟨_, rfl⟩
      rw [hr] at d0 d1 d2 htk hlen hsub him
      obtain ⟨pre, hpre⟩ : ∃ pre, imgsOf (l.take k) = pre := ⟨_, rfl⟩
      have hM := HM.out
      rw [hpre] at hM htk
      obtain ⟨n, hn⟩ : ∃ n, r.imgs.length = n := ⟨_, rfl⟩
      rw [hn] at d2 hlen
      have HTK := Lib.hid htk
      have HIM := Lib.hid him
      have HSUB := Lib.hid hsub
      have HN := Lib.hid hn
      have HM2 := Lib.hid hM
      clear hcells e0 e1 e2 him htk hsub hr hpre hM hn HM
      go_wp2_with fail
      generalize hW : wo.alloc (.cells #[.int .u64 r.epoch, .int .u64 r.lsn, .slice ia n ic] 62) = W
      have hcW : Chg No wo W := by rw [← hW]; exact (Chg.refl _ _).alloc _
      have HCW := Lib.hid (HC.out.trans_same hcW)
      have HMW := Lib.hid (HM2.out.chg hcW id)
      clear hW hcW d0 d1 d2
      go_loopw [23] (fun i wr => ∃ j : Nat, j ≤ n ∧ i = .int .i64 j ∧ Hid (MapAt wr w.heap.size (fun b => (planF (pre ++ r.imgs.take j) b).map Img.val)) ∧ Hid (Chg No w wr)) (fun i _ => n - (intOf i).toNat)
      case atStart => exact ⟨0, Nat.zero_le _, rfl, Lib.hid (planM_congr HMW.out (by simp)), HCW⟩
      case round =>
        obtain ⟨j, hj, rfl, HMq, HCq⟩ := hrel
        by_cases hjn : j < n
        · obtain ⟨gi, gioff, hgi, hic⟩ : ∃ gi off, ia = some ⟨gi, off, none⟩ ∧ ∀ j (h : j < r.imgs.length), w.cell? ⟨gi, off + j * 3, none⟩ = some (.int .i64 r.imgs[j].block) ∧ w.cell? ⟨gi, off + j * 3 + 1, none⟩ = some (.int .u64 r.imgs[j].version) ∧ w.cell? ⟨gi, off + j * 3 + 2, none⟩ = some (S r.imgs[j].data) := by
            rcases HIM.out with ⟨_, _, _, hn⟩ | ⟨g, off, c, hv, hj⟩
            · have := HN.out; rw [hn] at this; simp at this; omega
            · simp only [Value.slice.injEq] at hv
              exact ⟨g, off, hv.1, hj⟩
          subst hgi
          have hjr : j < r.imgs.length := by rw [HN.out]; exact hjn
          obtain ⟨e0, e1, e2⟩ := hic j hjr
          have d0 := HCq.out.cell e0 id
          have d1 := HCq.out.cell e1 id
          have d2 := HCq.out.cell e2 id
          have htj : pre ++ r.imgs.take (j + 1) = (pre ++ r.imgs.take j) ++ [r.imgs[j]] := by rw [List.take_succ_eq_append_getElem hjr, List.append_assoc]
          have hxx := HX.out r.imgs[j] (HSUB.out _ (List.getElem_mem hjr))
          obtain ⟨x, hx⟩ : ∃ x, r.imgs[j] = x := ⟨_, rfl⟩
          rw [hx] at d0 d1 d2 htj hxx
          obtain ⟨xb, xv, xd⟩ := x
          simp only at d0 d1 d2 hxx
          have hxd := hxx.1
          have HTJ := Lib.hid htj
          clear hic e0 e1 e2 htj hxx hx
          have hlk := (run_lookup_i und_mapimg und_int zero_img (HMq.out.of (w' := wr.alloc (.cells #[.int .i64 xb, .int .u64 xv, S xd] 38)) (Below.heap_alloc _ _ _ HMq.out.lt)) xb).1
          cases hF : planF (pre ++ r.imgs.take j) xb with
          | none =>
            rw [hF] at hlk
            simp only [Option.map_none, Option.getD_none, Option.isSome_none] at hlk
            unfold zeroImg at hlk
            have HF := Lib.hid hF
            clear hF
            go_wp2_with fail
            clear hlk
            have HC6 := Lib.hid ((HCq.out).alloc (.cells #[.int .i64 xb, .int .u64 xv, S xd] 38))
            have HK6 := Lib.hid (blk_new wr (.cells #[.int .i64 xb, .int .u64 xv, S xd] 38))
            have HM6 := Lib.hid (HMq.out.chg ((Chg.refl No wr).alloc (.cells #[.int .i64 xb, .int .u64 xv, S xd] 38)) id)
            have HNEW := Lib.hid trivial
            generalize hW7 : (wr.alloc (.cells #[.int .i64 xb, .int .u64 xv, S xd] 38)).alloc _ = W7
            have hcW7 : Chg No (wr.alloc (.cells #[.int .i64 xb, .int .u64 xv, S xd] 38)) W7 := by rw [← hW7]; exact (Chg.refl _ _).alloc _
            have hc7 : Chg No w W7 := (HC6.out).trans_same hcW7
            have k0 : W7.heap[wr.heap.size]? = some (.cells #[.int .i64 xb, .int .u64 xv, S xd] 38 (0, 0)) := hcW7.obj HK6.out id
            have hm7 := HM6.out.chg hcW7 id
            have HC7 := Lib.hid hc7
            have HK7 := Lib.hid k0
            have HM7 := Lib.hid hm7
            obtain ⟨f0, f1, f2, _, _, _⟩ := cells3 k0
            clear hW7 hcW7 hc7 k0 hm7
            refine (clone_ok W7 xd (by omega)).mono ?_
            rintro e w8 ⟨rfl, hc8⟩
            have hk8 := hc8.obj HK7.out id
            obtain ⟨g0, g1, g2, _, _, u2⟩ := cells3 hk8
            have hm8 := HM7.out.chg hc8 id
            have hne : wr.heap.size ≠ w.heap.size := fun e => by
              have := HCq.out.size
              have := HMq.out.lt
              omega
            have hk9 := blk_set hk8 2 (S xd)
            have hm9 : MapAt (w8.setCell ⟨wr.heap.size, 2, none⟩ (S xd)) w.heap.size (fun b => (planF (pre ++ r.imgs.take j) b).map Img.val) := hm8.of (blk_set_ne rfl hne.symm)
            obtain ⟨es, clock, hup, hok⟩ := run_mapUpdate_i und_mapimg und_int hm9 xb (.agg #[.int .i64 xb, .int .u64 xv, S xd])
            have HOK := Lib.hid hok
            have HM9 := Lib.hid hm9
            have HC9 := Lib.hid ((HC7.out.trans_same hc8).setCell (p := ⟨wr.heap.size, 2, none⟩) (.inr HCq.out.size) (S xd))
            clear hc8 hm8 hk8 hk9 hok hm9 f0 f1 f2
            go_wp2_with fail
            refine ⟨⟨j + 1, hjn, by go_num, Lib.hid ?_, Lib.hid (HC9.out.setMap (.inr (Nat.le_refl _)) es clock)⟩, by simp [intOf]; omega⟩
            refine (MapAt.new HM9.out HOK.out).congr (fun b => ?_)
            rw [HTJ.out, planF_snoc, planUp, HF.out]
            (try simp only)
            (try rw [if_pos HNEW.out])
            simp only [upd]
            split <;> rfl
          | some was =>
            obtain ⟨wb, wv, wd⟩ := was
            rw [hF] at hlk
            simp only [Option.map_some, Option.getD_some, Option.isSome_some] at hlk
            unfold Img.val at hlk
            have HF := Lib.hid hF
            clear hF
            by_cases hnew : wv ≤ xv
            · have q0 : decide (wv ≤ xv) = true := by simpa using hnew
              have HNEW := Lib.hid hnew
              clear hnew
              go_wp2_with fail
              clear hlk
              have HC6 := Lib.hid ((HCq.out).alloc (.cells #[.int .i64 xb, .int .u64 xv, S xd] 38))
              have HK6 := Lib.hid (blk_new wr (.cells #[.int .i64 xb, .int .u64 xv, S xd] 38))
              have HM6 := Lib.hid (HMq.out.chg ((Chg.refl No wr).alloc (.cells #[.int .i64 xb, .int .u64 xv, S xd] 38)) id)
              generalize hW7 : (wr.alloc (.cells #[.int .i64 xb, .int .u64 xv, S xd] 38)).alloc _ = W7
              have hcW7 : Chg No (wr.alloc (.cells #[.int .i64 xb, .int .u64 xv, S xd] 38)) W7 := by rw [← hW7]; exact (Chg.refl _ _).alloc _
              have hc7 : Chg No w W7 := (HC6.out).trans_same hcW7
              have k0 : W7.heap[wr.heap.size]? = some (.cells #[.int .i64 xb, .int .u64 xv, S xd] 38 (0, 0)) := hcW7.obj HK6.out id
              have hm7 := HM6.out.chg hcW7 id
              have HC7 := Lib.hid hc7
              have HK7 := Lib.hid k0
              have HM7 := Lib.hid hm7
              obtain ⟨f0, f1, f2, _, _, _⟩ := cells3 k0
              clear hW7 hcW7 hc7 k0 hm7
              refine (clone_ok W7 xd (by omega)).mono ?_
              rintro e w8 ⟨rfl, hc8⟩
              have hk8 := hc8.obj HK7.out id
              obtain ⟨g0, g1, g2, _, _, u2⟩ := cells3 hk8
              have hm8 := HM7.out.chg hc8 id
              have hne : wr.heap.size ≠ w.heap.size := fun e => by
                have := HCq.out.size
                have := HMq.out.lt
                omega
              have hk9 := blk_set hk8 2 (S xd)
              have hm9 : MapAt (w8.setCell ⟨wr.heap.size, 2, none⟩ (S xd)) w.heap.size (fun b => (planF (pre ++ r.imgs.take j) b).map Img.val) := hm8.of (blk_set_ne rfl hne.symm)
              obtain ⟨es, clock, hup, hok⟩ := run_mapUpdate_i und_mapimg und_int hm9 xb (.agg #[.int .i64 xb, .int .u64 xv, S xd])
              have HOK := Lib.hid hok
              have HM9 := Lib.hid hm9
              have HC9 := Lib.hid ((HC7.out.trans_same hc8).setCell (p := ⟨wr.heap.size, 2, none⟩) (.inr HCq.out.size) (S xd))
              clear hc8 hm8 hk8 hk9 hok hm9 f0 f1 f2
              go_wp2_with fail
              refine ⟨⟨j + 1, hjn, by go_num, Lib.hid ?_, Lib.hid (HC9.out.setMap (.inr (Nat.le_refl _)) es clock)⟩, by simp [intOf]; omega⟩
              refine (MapAt.new HM9.out HOK.out).congr (fun b => ?_)
              rw [HTJ.out, planF_snoc, planUp, HF.out]
              (try simp only)
              (try rw [if_pos HNEW.out])
              simp only [upd]
              split <;> rfl
            · have q0 : decide (wv ≤ xv) = false := by simpa using hnew
              have HNEW := Lib.hid hnew
              clear hnew
              go_wp2_with fail
              clear hlk
              refine ⟨⟨j + 1, hjn, by go_num, Lib.hid ?_, Lib.hid (((HCq.out).alloc _).alloc _)⟩, by simp [intOf]; omega⟩
              refine (HMq.out.chg (((Chg.refl No wr).alloc _).alloc _) id).congr (fun b => ?_)
              rw [HTJ.out, planF_snoc, planUp, HF.out]
              simp only
              rw [if_neg HNEW.out]
        · obtain rfl : j = n := by omega
          go_wp2_with fail
          refine ⟨⟨k + 1, hlt, by go_num, Lib.hid (planM_congr HMq.out ?_), HCq⟩, by simp [intOf]; omega⟩
          rw [HTK.out, ← HN.out, List.take_length]
    · obtain rfl : k = l.length := by omega
      go_wp2_with fail
      have hM := HM.out
      rw [List.take_length] at hM
      have HMl := Lib.hid hM
      clear hM HM
      refine (mapsKeys_ok w.heap.size wo).mono ?_
      rintro e w1 ⟨rfl, rfl⟩
      go_wp2_with fail
      have hsup : ∀ b : Int, (((planF (imgsOf l) b).map Img.val).isSome = true) → b ∈ (imgsOf l).map Img.block ∧ InR b := by
        intro b hb
        rw [Option.isSome_map] at hb
        obtain ⟨x, hx⟩ := Option.isSome_iff_exists.1 hb
        obtain ⟨h1, h2⟩ := planF_mem _ hx
        exact ⟨List.mem_map.2 ⟨x, h1, h2⟩, h2 ▸ (HX.out x h1).2⟩
      refine (sortedKeys_ok HMl.out ((imgsOf l).map Img.block) hsup (by rw [List.length_map]; exact HT.out)).mono ?_
      rintro e w2 ⟨v, ss, rfl, hks, hrow, hc2⟩
      have hks' : KeysOf (planF (imgsOf l)) ss := ⟨hks.1, fun k => (hks.2 k).trans (by rw [Option.isSome_map])⟩
      have hsl : ss.length ≤ 1000000 := by
        have h1 := len_le_of_sub (L := (imgsOf l).map Img.block) (hks.1.imp (fun h => by omega)) (fun k hk => (hsup k ((hks.2 k).1 hk)).1)
        rw [List.length_map] at h1
        exact Nat.le_trans h1 HT.out
      have hsm := fun k hk => (hks'.2 k).1 hk
      obtain ⟨va2, vc2, hv2⟩ : ∃ a c, v = .slice a ss.length c := by
        rcases hrow.2 with ⟨hv, hn⟩ | ⟨g, cap, cur, hv, _⟩
        · exact ⟨none, 0, by rw [hv, hn]⟩
        · exact ⟨_, _, hv⟩
      have hC2 : Chg No wo w2 := ((Chg.refl No wo).alloc _).trans_same hc2
      have HM2 := Lib.hid (HMl.out.chg hC2 id)
      have HC2 := Lib.hid (HC.out.trans_same hC2)
      have HROW := Lib.hid hrow
      have HKS := Lib.hid hks'
      have HSM := Lib.hid hsm
      have HV2 := Lib.hid hv2
      rw [hv2]
      clear hks hks' hrow hc2 hC2 hsup hsm hv2
      obtain ⟨is, his⟩ : ∃ is, imgsOf l = is := ⟨_, rfl⟩
      rw [his] at HM2 HKS HSM
      have HIS := Lib.hid his
      clear his
      go_wp2_with fail
      go_loopw [10, 57] (fun ov i wr => ∃ j : Nat, j ≤ ss.length ∧ i = .int .i64 j ∧ Hid (wr.ownsRow w2.heap.size 38 3 ov j (((ss.take j).filterMap (planF is)).flatMap Img.cells)) ∧ Hid (Chg No w2 wr)) (fun ov i _ => ss.length - (intOf i).toNat)
      case atStart => exact ⟨0, Nat.zero_le _, rfl, Lib.hid (World.ownsRow_nil _ _ _ _), Lib.hid (Chg.refl _ _)⟩
      case round =>
        obtain ⟨j, hj, rfl, HO, HCr⟩ := hrel
        by_cases hjn : j < ss.length
        · obtain ⟨g2, hg2⟩ : ∃ g2, va2 = some ⟨g2, 0, none⟩ := by
            rcases HROW.out.2 with ⟨hv, hn⟩ | ⟨g, cap, cur, hv, _⟩
            · omega
            · rw [HV2.out] at hv; simp at hv; exact ⟨g, hv.1⟩
          subst hg2
          have hob : v.ownBlock = some g2 := by rw [HV2.out]; rfl
          have d0 := HCr.out.cell (row_cell HROW.out hob (j := j) (u := .int .i64 ss[j]) (by simp [hjn])) id
          obtain ⟨x, hx⟩ := Option.isSome_iff_exists.1 (HSM.out ss[j] (List.getElem_mem hjn))
          have htk : ((ss.take (j + 1)).filterMap (planF is)).flatMap Img.cells = ((ss.take j).filterMap (planF is)).flatMap Img.cells ++ x.cells := by
            rw [List.take_succ_eq_append_getElem hjn, List.filterMap_append, List.flatMap_append]
            simp [hx]
          have hlk := (run_lookup_i und_mapimg und_int zero_img (HM2.out.chg HCr.out id) ss[j]).2
          rw [hx] at hlk
          simp only [Option.map_some, Option.getD_some] at hlk
          obtain ⟨b, hb⟩ : ∃ b, ss[j] = b := ⟨_, rfl⟩
          rw [hb] at d0 hlk
          obtain ⟨xb, xv, xd⟩ := x
          unfold Img.val at hlk
          have HTK := Lib.hid htk
          clear hob hx htk hb
          go_wp2_with (at_builtin; refine Halt1.hold ?_)
          refine Halt1.go ?_
          have hzr := HCr.out.size
          have hzw := HC2.out.size
          refine wpL_app el_img (.tmp 61) (.tmp 65) rfl rfl w2.heap.size u10 _ _ rfl (HO.out.alloc _) wr.heap.size 1 1 (Img.cells ⟨xb, xv, xd⟩) _ _ rfl (blk_new _ _) rfl (by simp [Img.cells, Value.oneCell']) (by omega) (by omega) (by omega) (by simp; omega) ?_
          intro g1 cap1 w8 hown8 hgrow8 hat8 hlt8
          have hC8 : Chg No w2 w8 := (HCr.out.alloc _).grown hgrow8 (fun j hj => .inr (HO.out.lt j hj).1)
          have HO8 := Lib.hid hown8
          have HC8 := Lib.hid hC8
          clear hown8 hgrow8 hat8 hC8 hlk d0
          go_wp2_with fail
          refine ⟨⟨j + 1, hjn, by go_num, Lib.hid (by rw [HTK.out]; exact HO8.out), HC8⟩, by simp [intOf]; omega⟩
        · obtain rfl : j = ss.length := by omega
          have hO := HO.out
          rw [List.take_length] at hO
          have HOO := Lib.hid hO
          clear hO
          go_wp2_with fail
          go_ret
          refine ⟨_, ss.filterMap (planF is), rfl, ?_, ⟨ss, HIS.out ▸ HKS.out, by rw [HIS.out]⟩, HC2.out.trans_same HCr.out⟩
          rw [filterMap_len HSM.out]
          exact ownsRow_base HOO.out HC2.out.size
end
end Go.Proofs.YtmmnjecaedmleaaGreatDoor
