import Derived.Test.YtmmnjecaedmleaaGreatDoorM11
import Derived.Deep.DeepCutAuto

/- rec: wrong: contract. -/
namespace Go.Proofs.YtmmnjecaedmleaaGreatDoor
open Go.RowKit
attribute [local go_sem ↓] Go.wp_at_zero Go.wp_at_succ

def Img.cells (i : Img) : List Value := [.int .i64 i.block, .int .u64 i.version, S i.data]
/-- The value v is a slice of the images l. -/
def ImgsAt (w : World) (v : Value) (l : List Img) : Prop :=
  (∃ a c, v = .slice a 0 c ∧ l = []) ∨ ∃ g off c, v = .slice (some ⟨g, off, none⟩) l.length c ∧ ∀ j (h : j < l.length), w.cell? ⟨g, off + j * 3, none⟩ = some (.int .i64 l[j].block) ∧ w.cell? ⟨g, off + j * 3 + 1, none⟩ = some (.int .u64 l[j].version) ∧ w.cell? ⟨g, off + j * 3 + 2, none⟩ = some (S l[j].data)
theorem ImgsAt.chg {F : Nat → Prop} {w w' : World} {v : Value} {l : List Img} (h : ImgsAt w v l) (hc : Chg F w w') (hn : ∀ k, v.ownBlock = some k → ¬ F k) : ImgsAt w' v l := by
  rcases h with h | ⟨g, off, c, rfl, hj⟩
  · exact .inl h
  · refine .inr ⟨g, off, c, rfl, fun j hlt => ?_⟩
    obtain ⟨h0, h1, h2⟩ := hj j hlt
    have := hn g rfl
    exact ⟨hc.cell h0 this, hc.cell h1 this, hc.cell h2 this⟩
theorem ImgsAt.no {w w' : World} {v : Value} {l : List Img} (h : ImgsAt w v l) (hc : Chg No w w') : ImgsAt w' v l := h.chg hc (fun _ _ => id)
theorem flat_img : ∀ (l : List Img) (k : Nat) (hk : k < l.length), (l.flatMap Img.cells)[k * 3]? = some (.int .i64 l[k].block) ∧ (l.flatMap Img.cells)[k * 3 + 1]? = some (.int .u64 l[k].version) ∧ (l.flatMap Img.cells)[k * 3 + 2]? = some (S l[k].data)
  | [], k, hk => by simp at hk
  | x :: l, 0, _ => ⟨rfl, rfl, rfl⟩
  | x :: l, k + 1, hk => by
    have h4 : (Img.cells x).length = 3 := rfl
    have e : ∀ j, ((x :: l).flatMap Img.cells)[(k + 1) * 3 + j]? = (l.flatMap Img.cells)[k * 3 + j]? := fun j => by
      rw [List.flatMap_cons, List.getElem?_append_right (by omega)]
      congr 1
      omega
    have ih := flat_img l k (by simpa using hk)
    have e0 := e 0
    simp only [Nat.add_zero] at e0
    rw [e0, e 1, e 2]
    simpa using ih
theorem imgsAt_of_row {w : World} {base T : Nat} {v : Value} {l : List Img} (h : w.ownsRow base T 3 v l.length (l.flatMap Img.cells)) : ImgsAt w v l := by
  rcases h.2 with ⟨hv, hn⟩ | ⟨g, cap, cur, hv, hr⟩
  · exact .inl ⟨none, 0, hv, List.eq_nil_of_length_eq_zero hn⟩
  · refine .inr ⟨g, 0, cap, hv, fun j hj => ?_⟩
    obtain ⟨e0, e1, e2⟩ := flat_img l j hj
    have hob : v.ownBlock = some g := by rw [hv]; rfl
    rw [Nat.zero_add]
    exact ⟨row_cell h hob e0, row_cell h hob e1, row_cell h hob e2⟩

def goodAt (l : List Img) (i : Nat) : Bool := match l[i]? with
  | none => false
  | some x => x.right && (i == 0 || match l[i - 1]? with
    | none => false
    | some y => decide (y.block < x.block))
def allGood (l : List Img) : Bool := decide (∀ i, i < l.length → goodAt l i = true)
def wrongL (l : List Img) : Int := if allGood l = false then 1 else if 60 < l.length then 2 else 0
def wrongOf (e n : Nat) (l : List Img) : Int := if e = 0 ∨ n = 0 ∨ l = [] then 1 else wrongL l

section
variable {w : World}

set_option maxHeartbeats 1600000 in
set_option maxRecDepth 100000 in
theorem wrong_bad (e n : Nat) (v : Value) (l : List Img) (hv : ImgsAt w v l) (h : e = 0 ∨ n = 0 ∨ l = []) :
    Calls Tryz.prog 198 #[.agg #[.int .u64 e, .int .u64 n, v]] w fun e' w' => e' = .returned (.int .i64 1) ∧ Chg No w w' := by
  by_cases he : e = 0
  · have d0 : ((e : Int) == 0) = true := by simp; omega
    clear h he hv
    go_enter Tryz.func198, Tryz.ntmps198
    go_wp2
    go_ret
    exact ⟨rfl, (Chg.refl _ _).alloc _⟩
  · have d0 : ((e : Int) == 0) = false := by simp; omega
    by_cases hn : n = 0
    · have d1 : ((n : Int) == 0) = true := by simp; omega
      clear h he hn hv
      go_enter Tryz.func198, Tryz.ntmps198
      go_wp2
      go_ret
      exact ⟨rfl, (Chg.refl _ _).alloc _⟩
    · have d1 : ((n : Int) == 0) = false := by simp; omega
      have hl : l = [] := by
        rcases h with h | h | h
        · exact absurd h he
        · exact absurd h hn
        · exact h
      subst hl
      obtain ⟨g, c, rfl⟩ : ∃ g c, v = .slice g 0 c := by
        rcases hv with ⟨a, c, rfl, _⟩ | ⟨g, off, c, rfl, _⟩
        · exact ⟨_, _, rfl⟩
        · exact ⟨_, _, rfl⟩
      clear h he hn hv
      go_enter Tryz.func198, Tryz.ntmps198
      go_wp2
      go_ret
      exact ⟨rfl, (Chg.refl _ _).alloc _⟩

theorem Right_lit (w : World) (b : Int) (v : Nat) (d : Bytes) :
    Calls Tryz.prog 196 #[.agg #[.int .i64 b, .int .u64 v, S d]] w fun e w' => e = .returned (.bool (Img.right ⟨b, v, d⟩)) ∧ Chg No w w' := Right_ok w ⟨b, v, d⟩

set_option maxHeartbeats 1600000 in
set_option maxRecDepth 100000 in
theorem wrong_go (e n g off c : Nat) (l : List Img) (hj : ∀ j (h : j < l.length), w.cell? ⟨g, off + j * 3, none⟩ = some (.int .i64 l[j].block) ∧ w.cell? ⟨g, off + j * 3 + 1, none⟩ = some (.int .u64 l[j].version) ∧ w.cell? ⟨g, off + j * 3 + 2, none⟩ = some (S l[j].data)) (he : 0 < e) (hn : 0 < n) (hl : 0 < l.length) (hl2 : l.length ≤ 1000000) :
    Calls Tryz.prog 198 #[.agg #[.int .u64 e, .int .u64 n, .slice (some ⟨g, off, none⟩) l.length c]] w fun e' w' => e' = .returned (.int .i64 (wrongL l)) ∧ Chg No w w' := by
  have d0 : ((e : Int) == 0) = false := by simp; omega
  have d1 : ((n : Int) == 0) = false := by simp; omega
  have d2 : ((l.length : Int) == 0) = false := by simp only [beq_eq_false_iff_ne]; omega
  have HJ := Lib.hid hj
  have HE := Lib.hid he
  have HN := Lib.hid hn
  clear hj he hn
  go_enter Tryz.func198, Tryz.ntmps198
  go_wp2_with fail
  go_loopw [22] (fun i wr => ∃ k : Nat, k ≤ l.length ∧ i = .int .i64 k ∧ Hid (∀ j, j < k → goodAt l j = true) ∧ Hid (wr.heap[w.heap.size]? = some (.cells #[.int .u64 e, .int .u64 n, .slice (some ⟨g, off, none⟩) l.length c] 62 (0, 0))) ∧ Hid (Chg No w wr)) (fun i _ => l.length - (intOf i).toNat)
  case atStart => exact ⟨0, Nat.zero_le _, rfl, Lib.hid (fun j hj => by omega), Lib.hid (blk_new w _), Lib.hid ((Chg.refl _ _).alloc _)⟩
  case round =>
    obtain ⟨k, hk, rfl, HG, HB, HC⟩ := hrel
    by_cases hlt : k < l.length
    · obtain ⟨x, hx⟩ : ∃ x, l[k] = x := ⟨_, rfl⟩
      obtain ⟨j0, j1, j2⟩ := HJ.out k hlt
      rw [hx] at j0 j1 j2
      have c0 := HC.out.cell j0 id
      have c1 := HC.out.cell j1 id
      have c2 := HC.out.cell j2 id
      obtain ⟨xb, xv, xd⟩ := x
      obtain ⟨b0, b1, b2, _, _, _⟩ := cells3 HB.out
      have HX := Lib.hid hx
      clear hx j0 j1 j2
      go_upto_region 6 with (fail)
      generalize hW : wr.alloc (.cells #[.int .i64 xb, .int .u64 xv, S xd] 38) = W
      have hkW : W.heap[wr.heap.size]? = some (.cells #[.int .i64 xb, .int .u64 xv, S xd] 38 (0, 0)) := by rw [← hW]; exact blk_new _ _
      have hcW : Chg No wr W := by rw [← hW]; exact (Chg.refl _ _).alloc _
      obtain ⟨x0, x1, x2, _, _, _⟩ := cells3 hkW
      have hbW := hcW.obj HB.out id
      have b2W := hcW.cell b2 id
      have HCW := Lib.hid (HC.out.trans_same hcW)
      have HBW := Lib.hid hbW
      have lx := World.block_lt_of_cell? W _ x0
      have lb := World.block_lt_of_cell? W _ b2W
      clear hW hkW hcW hbW b0 b1 b2 c0 c1 c2 HB HC
      go_cut [45] (fun x wx => x = .bool (!(goodAt l k)) ∧ Hid (Chg No W wx))
      case first =>
        cases hr : Img.right ⟨xb, xv, xd⟩
        · have hgd : goodAt l k = false := by unfold goodAt; rw [List.getElem?_eq_getElem hlt, HX.out]; simp [hr]
          have HR := Lib.hid hr
          have HGD := Lib.hid hgd
          clear hr hgd
          refine wp_region_any (by kernel_rfl) ?_
          refine wpAny_ready (rs := [0]) (by kernel_rfl) (by simp) ?_
          refine AllReady.cons rfl (fun K hK => ?_) AllReady.nil
          go_simp
          refine hK _ _ ?_
          clear hK K
          refine wpAny_ready (rs := [1]) (by kernel_rfl) (by simp) ?_
          refine AllReady.cons rfl (fun K hK => ?_) AllReady.nil
          go_simp
          go_wp2_with (go_at_call 196; (refine (Right_lit _ xb xv xd).mono ?_); rw [HR.out]; rintro e w3 ⟨rfl, hc3⟩)
          refine wpAny_take (i := 2) (v := .bool true) rfl (by kernel_rfl) (by kernel_rfl) (by kernel_rfl) (fun _ _ _ h => h) (.inl ⟨by kernel_rfl, fun _ => by kernel_rfl⟩) ?_
          refine wpAny_take (i := 3) (v := .bool true) rfl (by kernel_rfl) (by kernel_rfl) (by kernel_rfl) (fun _ _ _ h => h) (.inl ⟨by kernel_rfl, fun _ => by kernel_rfl⟩) ?_
          refine wpAny_take (i := 4) (v := undef) rfl (by kernel_rfl) (by kernel_rfl) (by kernel_rfl) (fun _ _ _ h => h) (.inr ⟨by kernel_rfl, rfl⟩) ?_
          refine wpAny_take (i := 5) (v := undef) rfl (by kernel_rfl) (by kernel_rfl) (by kernel_rfl) (fun _ _ _ h => h) (.inr ⟨by kernel_rfl, rfl⟩) ?_
          refine wpAny_take (i := 6) (v := undef) rfl (by kernel_rfl) (by kernel_rfl) (by kernel_rfl) (fun _ _ _ h => h) (.inr ⟨by kernel_rfl, rfl⟩) ?_
          refine wpAny_take (i := 7) (v := undef) rfl (by kernel_rfl) (by kernel_rfl) (by kernel_rfl) (fun _ _ _ h => h) (.inr ⟨by kernel_rfl, rfl⟩) ?_
          refine wpAny_take (i := 8) (v := undef) rfl (by kernel_rfl) (by kernel_rfl) (by kernel_rfl) (fun _ _ _ h => h) (.inr ⟨by kernel_rfl, rfl⟩) ?_
          refine wpAny_take (i := 9) (v := undef) rfl (by kernel_rfl) (by kernel_rfl) (by kernel_rfl) (fun _ _ _ h => h) (.inr ⟨by kernel_rfl, rfl⟩) ?_
          refine wpAny_take (i := 10) (v := undef) rfl (by kernel_rfl) (by kernel_rfl) (by kernel_rfl) (fun _ _ _ h => h) (.inr ⟨by kernel_rfl, rfl⟩) ?_
          refine wpAny_take (i := 11) (v := undef) rfl (by kernel_rfl) (by kernel_rfl) (by kernel_rfl) (fun _ _ _ h => h) (.inr ⟨by kernel_rfl, rfl⟩) ?_
          refine wpAny_take (i := 12) (v := undef) rfl (by kernel_rfl) (by kernel_rfl) (by kernel_rfl) (fun _ _ _ h => h) (.inr ⟨by kernel_rfl, rfl⟩) ?_
          refine wpAny_take (i := 13) (v := undef) rfl (by kernel_rfl) (by kernel_rfl) (by kernel_rfl) (fun _ _ _ h => h) (.inr ⟨by kernel_rfl, rfl⟩) ?_
          refine wpAny_take (i := 14) (v := undef) rfl (by kernel_rfl) (by kernel_rfl) (by kernel_rfl) (fun _ _ _ h => h) (.inr ⟨by kernel_rfl, rfl⟩) ?_
          refine wpAny_take (i := 15) (v := undef) rfl (by kernel_rfl) (by kernel_rfl) (by kernel_rfl) (fun _ _ _ h => h) (.inr ⟨by kernel_rfl, rfl⟩) ?_
          refine wpAny_take (i := 16) (v := undef) rfl (by kernel_rfl) (by kernel_rfl) (by kernel_rfl) (fun _ _ _ h => h) (.inr ⟨by kernel_rfl, rfl⟩) ?_
          refine wpAny_take (i := 17) (v := undef) rfl (by kernel_rfl) (by kernel_rfl) (by kernel_rfl) (fun _ _ _ h => h) (.inr ⟨by kernel_rfl, rfl⟩) ?_
          refine wpAny_take (i := 18) (v := .bool true) rfl (by kernel_rfl) (by kernel_rfl) (by kernel_rfl) (fun _ _ _ h => h) (.inl ⟨by kernel_rfl, fun _ => by kernel_rfl⟩) ?_
          refine wpAny_done (by kernel_rfl) ?_ _
          go_simp
          go_wp2_with fail
          go_meet
          exact ⟨by rw [HGD.out]; rfl, Lib.hid ((Chg.refl No W).drew.trans_same hc3)⟩
        · by_cases hk0 : k = 0
          · have hgd : goodAt l k = true := by unfold goodAt; rw [List.getElem?_eq_getElem hlt, HX.out]; simp [hr, hk0]
            have HR := Lib.hid hr
            have HGD := Lib.hid hgd
            clear hr hgd
            subst hk0
            refine wp_region_any (by kernel_rfl) ?_
            refine wpAny_ready (rs := [0]) (by kernel_rfl) (by simp) ?_
            refine AllReady.cons rfl (fun K hK => ?_) AllReady.nil
            go_simp
            refine hK _ _ ?_
            clear hK K
            refine wpAny_ready (rs := [1]) (by kernel_rfl) (by simp) ?_
            refine AllReady.cons rfl (fun K hK => ?_) AllReady.nil
            go_simp
            go_wp2_with (go_at_call 196; (refine (Right_lit _ xb xv xd).mono ?_); rw [HR.out]; rintro e w3 ⟨rfl, hc3⟩)
            refine wpAny_take (i := 2) (v := .bool false) rfl (by kernel_rfl) (by kernel_rfl) (by kernel_rfl) (fun _ _ _ h => h) (.inl ⟨by kernel_rfl, fun _ => by kernel_rfl⟩) ?_
            refine wpAny_take (i := 3) (v := .bool false) rfl (by kernel_rfl) (by kernel_rfl) (by kernel_rfl) (fun _ _ _ h => h) (.inl ⟨by kernel_rfl, fun _ => by kernel_rfl⟩) ?_
            refine wpAny_take (i := 4) (v := .int .i64 0) rfl (by kernel_rfl) (by kernel_rfl) (by kernel_rfl) (fun _ _ _ h => h) (.inl ⟨by kernel_rfl, fun _ => by kernel_rfl⟩) ?_
            refine wpAny_take (i := 5) (v := .bool false) rfl (by kernel_rfl) (by kernel_rfl) (by kernel_rfl) (fun _ _ _ h => h) (.inl ⟨by kernel_rfl, fun _ => by kernel_rfl⟩) ?_
            refine wpAny_take (i := 6) (v := .bool false) rfl (by kernel_rfl) (by kernel_rfl) (by kernel_rfl) (fun _ _ _ h => h) (.inl ⟨by kernel_rfl, fun _ => by kernel_rfl⟩) ?_
            refine wpAny_take (i := 7) (v := undef) rfl (by kernel_rfl) (by kernel_rfl) (by kernel_rfl) (fun _ _ _ h => h) (.inr ⟨by kernel_rfl, rfl⟩) ?_
            refine wpAny_take (i := 8) (v := undef) rfl (by kernel_rfl) (by kernel_rfl) (by kernel_rfl) (fun _ _ _ h => h) (.inr ⟨by kernel_rfl, rfl⟩) ?_
            refine wpAny_take (i := 9) (v := undef) rfl (by kernel_rfl) (by kernel_rfl) (by kernel_rfl) (fun _ _ _ h => h) (.inr ⟨by kernel_rfl, rfl⟩) ?_
            refine wpAny_take (i := 10) (v := undef) rfl (by kernel_rfl) (by kernel_rfl) (by kernel_rfl) (fun _ _ _ h => h) (.inr ⟨by kernel_rfl, rfl⟩) ?_
            refine wpAny_take (i := 11) (v := undef) rfl (by kernel_rfl) (by kernel_rfl) (by kernel_rfl) (fun _ _ _ h => h) (.inr ⟨by kernel_rfl, rfl⟩) ?_
            refine wpAny_take (i := 12) (v := undef) rfl (by kernel_rfl) (by kernel_rfl) (by kernel_rfl) (fun _ _ _ h => h) (.inr ⟨by kernel_rfl, rfl⟩) ?_
            refine wpAny_take (i := 13) (v := undef) rfl (by kernel_rfl) (by kernel_rfl) (by kernel_rfl) (fun _ _ _ h => h) (.inr ⟨by kernel_rfl, rfl⟩) ?_
            refine wpAny_take (i := 14) (v := undef) rfl (by kernel_rfl) (by kernel_rfl) (by kernel_rfl) (fun _ _ _ h => h) (.inr ⟨by kernel_rfl, rfl⟩) ?_
            refine wpAny_take (i := 15) (v := undef) rfl (by kernel_rfl) (by kernel_rfl) (by kernel_rfl) (fun _ _ _ h => h) (.inr ⟨by kernel_rfl, rfl⟩) ?_
            refine wpAny_take (i := 16) (v := undef) rfl (by kernel_rfl) (by kernel_rfl) (by kernel_rfl) (fun _ _ _ h => h) (.inr ⟨by kernel_rfl, rfl⟩) ?_
            refine wpAny_take (i := 17) (v := .bool false) rfl (by kernel_rfl) (by kernel_rfl) (by kernel_rfl) (fun _ _ _ h => h) (.inl ⟨by kernel_rfl, fun _ => by kernel_rfl⟩) ?_
            refine wpAny_take (i := 18) (v := .bool false) rfl (by kernel_rfl) (by kernel_rfl) (by kernel_rfl) (fun _ _ _ h => h) (.inl ⟨by kernel_rfl, fun _ => by kernel_rfl⟩) ?_
            refine wpAny_done (by kernel_rfl) ?_ _
            go_simp
            go_wp2_with fail
            go_meet
            exact ⟨by rw [HGD.out]; rfl, Lib.hid ((Chg.refl No W).drew.trans_same hc3)⟩
          · have t0 : decide (0 < (k : Int)) = true := by simp only [decide_eq_true_eq]; omega
            obtain ⟨q, rfl⟩ : ∃ q, k = q + 1 := ⟨k - 1, by omega⟩
            obtain ⟨y, hy⟩ : ∃ y, l[q]'(by omega) = y := ⟨_, rfl⟩
            obtain ⟨j0, _, _⟩ := HJ.out q (by omega)
            rw [hy] at j0
            have p0 := HCW.out.cell j0 id
            have lg := World.block_lt_of_cell? W _ p0
            have hgd : goodAt l (q + 1) = decide (y.block < xb) := by
              unfold goodAt
              rw [List.getElem?_eq_getElem hlt, HX.out, Nat.add_sub_cancel, List.getElem?_eq_getElem (show q < l.length by omega), hy]
              simp [hr]
            obtain ⟨yb, yv, yd⟩ := y
            have e1 : ((q + 1 : Nat) : Int) - 1 = q := by omega
            have e4 : IntKind.i64.wrap (q : Int) = q := IntWalk.i64_in _ (by omega)
            have e3 : IntKind.i64.wrap ((q : Int) + 1 - 1) = q := by rw [Int.add_sub_cancel]; exact IntWalk.i64_in _ (by omega)
            have i0 : (0 : Int) ≤ (q : Int) := by omega
            have i1 : (q : Int) < (l.length : Int) := by omega
            have e2 : IntKind.i64.wrap (((q + 1 : Nat) : Int) - 1) = q := by rw [e1]; exact IntWalk.i64_in _ (by omega)
            have HR := Lib.hid hr
            have HGD := Lib.hid hgd
            clear hr hgd hk0 hy j0
            cases ht : decide (yb < xb)
            · have t1 : decide (xb ≤ yb) = true := by simp only [decide_eq_true_eq, decide_eq_false_iff_not] at ht ⊢; omega
              have HT := Lib.hid ht
              clear ht
              go_region_held3 (fun w' => w'.cell? ⟨wr.heap.size, 0, none⟩ = some (.int .i64 xb) ∧ w'.cell? ⟨wr.heap.size, 1, none⟩ = some (.int .u64 xv) ∧ w'.cell? ⟨wr.heap.size, 2, none⟩ = some (S xd) ∧ w'.cell? ⟨w.heap.size, 2, none⟩ = some (.slice (some ⟨g, off, none⟩) l.length c) ∧ w'.cell? ⟨g, off + q * 3, none⟩ = some (.int .i64 yb)) (go_keep)
                (first | (go_at_call 196; (with_reducible refine (Right_lit _ xb xv xd).mono ?_); rw [HR.out]; rintro e w3 ⟨rfl, hc3⟩; have hk3 : ∀ o, w3.cell? ⟨wr.heap.size, o, none⟩ = W.cell? ⟨wr.heap.size, o, none⟩ := fun o => World.cell?_of_block (hc3.block _ lx id); have hk4 : ∀ o, w3.cell? ⟨w.heap.size, o, none⟩ = W.cell? ⟨w.heap.size, o, none⟩ := fun o => World.cell?_of_block (hc3.block _ lb id); have hk5 : ∀ o, w3.cell? ⟨g, o, none⟩ = W.cell? ⟨g, o, none⟩ := fun o => World.cell?_of_block (hc3.block _ lg id)))
              go_wp2_with fail
              go_meet
              exact ⟨by rw [HGD.out, HT.out]; rfl, Lib.hid ((Chg.refl No W).drew.trans_same hc3)⟩
            · have t1 : decide (xb ≤ yb) = false := by simp only [decide_eq_true_eq, decide_eq_false_iff_not] at ht ⊢; omega
              have HT := Lib.hid ht
              clear ht
              go_region_held3 (fun w' => w'.cell? ⟨wr.heap.size, 0, none⟩ = some (.int .i64 xb) ∧ w'.cell? ⟨wr.heap.size, 1, none⟩ = some (.int .u64 xv) ∧ w'.cell? ⟨wr.heap.size, 2, none⟩ = some (S xd) ∧ w'.cell? ⟨w.heap.size, 2, none⟩ = some (.slice (some ⟨g, off, none⟩) l.length c) ∧ w'.cell? ⟨g, off + q * 3, none⟩ = some (.int .i64 yb)) (go_keep)
                (first | (go_at_call 196; (with_reducible refine (Right_lit _ xb xv xd).mono ?_); rw [HR.out]; rintro e w3 ⟨rfl, hc3⟩; have hk3 : ∀ o, w3.cell? ⟨wr.heap.size, o, none⟩ = W.cell? ⟨wr.heap.size, o, none⟩ := fun o => World.cell?_of_block (hc3.block _ lx id); have hk4 : ∀ o, w3.cell? ⟨w.heap.size, o, none⟩ = W.cell? ⟨w.heap.size, o, none⟩ := fun o => World.cell?_of_block (hc3.block _ lb id); have hk5 : ∀ o, w3.cell? ⟨g, o, none⟩ = W.cell? ⟨g, o, none⟩ := fun o => World.cell?_of_block (hc3.block _ lg id)))
              go_wp2_with fail
              go_meet
              exact ⟨by rw [HGD.out, HT.out]; rfl, Lib.hid ((Chg.refl No W).drew.trans_same hc3)⟩
      case rest =>
        obtain ⟨rfl, HC2⟩ := hcut
        have HC3 := Lib.hid (HCW.out.trans_same HC2.out)
        have HB3 := Lib.hid (HC2.out.obj HBW.out id)
        clear x0 x1 x2 b2W
        cases hgd : goodAt l k
        · have hag : allGood l = false := by
            unfold allGood
            simp only [decide_eq_false_iff_not]
            intro h
            rw [h k hlt] at hgd
            exact absurd hgd (by decide)
          have HGD := Lib.hid hgd
          have HAG := Lib.hid hag
          clear hgd hag
          go_wp2_with fail
          go_ret
          exact ⟨by simp [wrongL, HAG.out], HC3.out⟩
        · have HGD := Lib.hid hgd
          clear hgd
          go_wp2_with fail
          refine ⟨⟨k + 1, hlt, by go_num, Lib.hid (fun j hj => ?_), HB3, HC3⟩, by simp [intOf]; omega⟩
          by_cases hjk : j = k
          · rw [hjk]; exact HGD.out
          · exact HG.out j (by omega)
    · obtain rfl : k = l.length := by omega
      have hag : allGood l = true := by unfold allGood; simp only [decide_eq_true_eq]; exact HG.out
      obtain ⟨b0, b1, b2, _, _, _⟩ := cells3 HB.out
      have HAG := Lib.hid hag
      clear hag
      by_cases h60 : 60 < l.length
      · have t0 : decide (60 < (l.length : Int)) = true := by simp only [decide_eq_true_eq]; omega
        have H60 := Lib.hid h60
        clear h60
        go_wp2_with fail
        go_ret
        exact ⟨by simp [wrongL, HAG.out, H60.out], HC.out⟩
      · have t0 : decide (60 < (l.length : Int)) = false := by simp only [decide_eq_false_iff_not]; omega
        have H60 := Lib.hid h60
        clear h60
        go_wp2_with fail
        go_ret
        exact ⟨by simp [wrongL, HAG.out, H60.out], HC.out⟩

theorem wrong_ok (e n : Nat) (v : Value) (l : List Img) (hv : ImgsAt w v l) (hl : l.length ≤ 1000000) :
    Calls Tryz.prog 198 #[.agg #[.int .u64 e, .int .u64 n, v]] w fun e' w' => e' = .returned (.int .i64 (wrongOf e n l)) ∧ Chg No w w' := by
  unfold wrongOf
  by_cases h : e = 0 ∨ n = 0 ∨ l = []
  · rw [if_pos h]
    exact wrong_bad e n v l hv h
  · rw [if_neg h]
    have hl0 : l ≠ [] := fun e => h (.inr (.inr e))
    rcases hv with ⟨_, _, _, hl1⟩ | ⟨g, off, c, rfl, hj⟩
    · exact absurd hl1 hl0
    · exact wrong_go e n g off c l hj (by omega) (by omega) (List.length_pos_iff.2 hl0) hl
end
end Go.Proofs.YtmmnjecaedmleaaGreatDoor
