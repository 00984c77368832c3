import Derived.Test.YtmmnjecaedmleaaGreatDoorM15

/- ring, of a log's entries: contracts. -/
namespace Go.Proofs.YtmmnjecaedmleaaGreatDoor
open Go.RowKit
attribute [local go_sem ↓] Go.wp_at_zero Go.wp_at_succ

/-- A record of a log that is not free. -/
structure Ent where
  lsn : Nat
  at_ : Nat
  n : Nat
  bytes : Bytes
  written : Bool
def Ent.cells (x : Ent) : List Value := [.int .u64 x.lsn, .int .i64 x.at_, .int .i64 x.n, S x.bytes, .bool x.written]
def Ent.val (x : Ent) : Value := .agg x.cells.toArray
theorem el_ent : Elem Tryz.prog 214 131 (.agg #[.int .u64 0, .int .i64 0, .int .i64 0, S [], .bool false]) 5 48 := .mk' (by kernel_rfl) (by kernel_rfl) rfl (by omega)
theorem flat_ent_length (l : List Ent) : (l.flatMap Ent.cells).length = l.length * 5 := by
  induction l with
  | nil => rfl
  | cons a l ih => rw [List.flatMap_cons, List.length_append, ih, List.length_cons]; show 5 + _ = _; omega
theorem flat_ent : ∀ (l : List Ent) (k : Nat) (hk : k < l.length), (l.flatMap Ent.cells)[k * 5]? = some (.int .u64 l[k].lsn) ∧ (l.flatMap Ent.cells)[k * 5 + 1]? = some (.int .i64 l[k].at_) ∧ (l.flatMap Ent.cells)[k * 5 + 2]? = some (.int .i64 l[k].n) ∧ (l.flatMap Ent.cells)[k * 5 + 3]? = some (S l[k].bytes) ∧ (l.flatMap Ent.cells)[k * 5 + 4]? = some (.bool l[k].written)
  | [], k, hk => by simp at hk
  | x :: l, 0, _ => ⟨rfl, rfl, rfl, rfl, rfl⟩
  | x :: l, k + 1, hk => by
    have h4 : (Ent.cells x).length = 5 := rfl
    have e : ∀ j, ((x :: l).flatMap Ent.cells)[(k + 1) * 5 + j]? = (l.flatMap Ent.cells)[k * 5 + j]? := fun j => by
      rw [List.flatMap_cons, List.getElem?_append_right (by omega)]
      congr 1
      omega
    have ih := flat_ent l k (by simpa using hk)
    have e0 := e 0
    simp only [Nat.add_zero] at e0
    rw [e0, e 1, e 2, e 3, e 4]
    simpa using ih

/-- append, of cells wherever they lie. -/
theorem wpL_app2 {P : Program} {ops : Array Oper} {rest : List Oper} {o : Oper} {a : Act} {Q : Exit → Act → World → Prop} {w : World} {t e : TypeId} {z : Value} {size bytes : Nat}
    (E : Elem P t e z size bytes) (s x : Operand) (hgd : o.guard = none) (ho : o.op = .call { callee := .builtin .append, args := #[s, x], argTypes := #[t, t] })
    (base : Nat) (v : Value) (n : Nat) (xs : List Value) (hs : a.eval s = v) (hown : w.ownsRow base e size v n xs)
    (B m c : Nat) (cs : List Value) (hx : a.eval x = .slice (some ⟨B, 0, none⟩) m c) (hB : ∀ j u, cs[j]? = some u → w.cell? ⟨B, j, none⟩ = some u) (hl : cs.length = m * size) (h1 : ∀ u ∈ cs, u.oneCell' = true)
    (hm : 0 < m) (hn : (n + m) * bytes ≤ 140737488355328) (hb : 0 < bytes) (hbase : base ≤ w.heap.size)
    (h : ∀ g cap w', w'.ownsRow base e size (.slice (some ⟨g, 0, none⟩) (n + m) cap) (n + m) (xs ++ cs) → w.grownBy w' v.ownBlock → (v.ownBlock = some g ∨ g = w.heap.size) → g < w'.heap.size → wpList P ops Q rest (a.put o.dst (.slice (some ⟨g, 0, none⟩) (n + m) cap)) w') :
    wpList P ops Q (o :: rest) a w := by
  obtain ⟨hu, i, hi, hz0, hz1, hz2, hzs, h0⟩ := E
  have h63 : n + m ≤ maxLen := by
    have := Nat.le_mul_of_pos_right (n + m) hb
    unfold maxLen; omega
  refine wpList_append_lies w hgd s x t ho base e i z size bytes hu hi hz0 hz1 hz2 hzs h0 v n xs hs hown ⟨B, 0, none⟩ m c cs hx hl (fun j u hu => ?_) h1 hm h63 hn hbase _ rfl h
  have hadd : (⟨B, 0, none⟩ : Addr).add j = ⟨B, j, none⟩ := by unfold Addr.add; split <;> simp_all
  rw [hadd]
  exact hB j u hu

/-- The same; nothing may be appended, too. -/
theorem wpL_app3 {P : Program} {ops : Array Oper} {rest : List Oper} {o : Oper} {a : Act} {Q : Exit → Act → World → Prop} {w : World} {t e : TypeId} {z : Value} {size bytes : Nat}
    (E : Elem P t e z size bytes) (s x : Operand) (hgd : o.guard = none) (ho : o.op = .call { callee := .builtin .append, args := #[s, x], argTypes := #[t, t] })
    (base : Nat) (v : Value) (n : Nat) (xs : List Value) (hs : a.eval s = v) (hown : w.ownsRow base e size v n xs)
    (B m c : Nat) (cs : List Value) (hx : a.eval x = .slice (some ⟨B, 0, none⟩) m c) (hB : ∀ j u, cs[j]? = some u → w.cell? ⟨B, j, none⟩ = some u) (hl : cs.length = m * size) (h1 : ∀ u ∈ cs, u.oneCell' = true)
    (hn : (n + m) * bytes ≤ 140737488355328) (hb : 0 < bytes) (hbase : base ≤ w.heap.size)
    (h : ∀ v' w', w'.ownsRow base e size v' (n + m) (xs ++ cs) → w.grownBy w' v.ownBlock → wpList P ops Q rest (a.put o.dst v') w') :
    wpList P ops Q (o :: rest) a w := by
  obtain ⟨hu, i, hi, hz0, hz1, hz2, hzs, h0⟩ := E
  have h63 : n + m ≤ maxLen := by
    have := Nat.le_mul_of_pos_right (n + m) hb
    unfold maxLen; omega
  refine wpList_append_own w hgd s x t ho base e i z size bytes hu hi hz0 hz1 hz2 hzs h0 v n xs hs hown ⟨B, 0, none⟩ m c cs hx hl (fun j u hu => ?_) h1 h63 hn hbase (fun v' w' h2 h3 _ => h v' w' h2 h3)
  have hadd : (⟨B, 0, none⟩ : Addr).add j = ⟨B, j, none⟩ := by unfold Addr.add; split <;> simp_all
  rw [hadd]
  exact hB j u hu

/-- A ring of entries. -/
structure RingR (w : World) (r : Nat) (lv : Value) (l : List Ent) : Prop where
  blk : w.heap[r]? = some (.cells #[lv, .int .i64 100000] 244 (0, 0))
  row : w.ownsRow 0 131 5 lv l.length (l.flatMap Ent.cells)
  ne : lv.ownBlock ≠ some r
theorem RingR.form {w : World} {r : Nat} {lv : Value} {l : List Ent} (h : RingR w r lv l) : ∃ g c, lv = .slice g l.length c := by
  rcases h.row.2 with ⟨hv, hn⟩ | ⟨g, cap, cur, hv, _⟩
  · exact ⟨none, 0, by rw [hv, hn]⟩
  · exact ⟨_, _, hv⟩
theorem RingR.chg {F : Nat → Prop} {w w' : World} {r : Nat} {lv : Value} {l : List Ent} (h : RingR w r lv l) (hc : Chg F w w') (hr : ¬ F r) (hl : ∀ k, lv.ownBlock = some k → ¬ F k) : RingR w' r lv l :=
  ⟨hc.obj h.blk hr, hc.row h.row hl, h.ne⟩

section
variable {w : World} {r : Nat} {lv : Value} {l : List Ent}

theorem RingNew_ok (w : World) (n : Int) (h : 100000 ≤ n) :
    Calls Tryz.prog 65 #[.int .i64 n] w fun e w' => e = .returned (.pointer (some ⟨w.heap.size, 0, none⟩)) ∧ w'.heap[w.heap.size]? = some (.cells #[.slice none 0 0, .int .i64 100000] 244 (0, 0)) ∧ Chg No w w' := by
  have m1 : max n 0 = n := by omega
  have m2 : min n 100000 = 100000 := by omega
  go_enter Tryz.func65, Tryz.ntmps65
  go_wp2
  go_ret
  exact ⟨rfl, blk_new _ _, (Chg.refl _ _).alloc _⟩

theorem RingLen_ok (h : RingR w r lv l) :
    Calls Tryz.prog 171 #[.pointer (some ⟨r, 0, none⟩)] w fun e w' => e = .returned (.int .i64 l.length) ∧ w = w' := by
  obtain ⟨g, c, rfl⟩ := h.form
  have c0 := cell_of_blk h.blk 0 rfl
  clear h
  go_enter Tryz.func171, Tryz.ntmps171
  go_wp2
  go_ret
  exact ⟨rfl, rfl⟩

theorem RingRoom_ok (h : RingR w r lv l) (hl : l.length ≤ 100000) :
    Calls Tryz.prog 203 #[.pointer (some ⟨r, 0, none⟩)] w fun e w' => e = .returned (.int .i64 (100000 - (l.length : Int))) ∧ Chg No w w' := by
  obtain ⟨g, c, rfl⟩ := h.form
  have c0 := cell_of_blk h.blk 0 rfl
  have c1 := cell_of_blk h.blk 1 rfl
  have hw : IntKind.i64.wrap (100000 - (l.length : Int)) = 100000 - (l.length : Int) := IntWalk.i64_in _ (by omega)
  clear h
  go_enter Tryz.func203, Tryz.ntmps203
  go_wp2_with fail
  go_quiet (fail)
  go_wp2
  go_ret
  exact ⟨rfl, (Chg.refl _ _).drewN _⟩

theorem RingList_ok (h : RingR w r lv l) (hl : l.length ≤ 100000) :
    Calls Tryz.prog 167 #[.pointer (some ⟨r, 0, none⟩)] w fun e w' => ∃ v, e = .returned v ∧ w'.ownsRow w.heap.size 131 5 v l.length (l.flatMap Ent.cells) ∧ Chg No w w' := by
  have c0 := cell_of_blk h.blk 0 rfl
  rcases h.row.2 with ⟨hv, hn⟩ | ⟨g, c, cur, hv, _⟩
  · have hl0 : l = [] := List.eq_nil_of_length_eq_zero hn
    subst hl0
    rw [hv] at c0
    clear h hv
    go_enter Tryz.func167, Tryz.ntmps167
    go_wp2
    go_ret
    exact ⟨_, rfl, World.ownsRow_nil _ _ _ _, Chg.refl _ _⟩
  · have hcs : ∀ j u, (l.flatMap Ent.cells)[j]? = some u → w.cell? ⟨g, j, none⟩ = some u := fun j u hu => row_cell h.row (by rw [hv]; rfl) hu
    rw [hv] at c0
    have HCS := Lib.hid hcs
    clear h hcs hv
    go_enter Tryz.func167, Tryz.ntmps167
    go_wp2_with (at_builtin; refine Halt1.hold ?_)
    refine Halt1.go ?_
    refine wpL_app3 el_ent _ _ rfl rfl w.heap.size (.slice none 0 0) 0 [] rfl (World.ownsRow_nil _ _ _ _) g l.length c (l.flatMap Ent.cells) rfl HCS.out (flat_ent_length l) ?_ (by omega) (by omega) (Nat.le_refl _) ?_
    · intro u hu
      obtain ⟨x, _, hx⟩ := List.mem_flatMap.1 hu
      simp only [Ent.cells, List.mem_cons, List.not_mem_nil, or_false] at hx
      rcases hx with rfl | rfl | rfl | rfl | rfl <;> rfl
    · intro v2 w2 hown2 hgrow2
      have HO2 := Lib.hid hown2
      have HC2 := Lib.hid ((Chg.refl No w).grown hgrow2 (fun k hk => by simp [Value.ownBlock] at hk))
      clear hown2 hgrow2
      go_wp2_with fail
      go_ret
      refine ⟨_, rfl, ?_, HC2.out⟩
      have := HO2.out
      rw [Nat.zero_add, List.nil_append] at this
      exact this
end
end Go.Proofs.YtmmnjecaedmleaaGreatDoor

/- ring, of a log's entries: Push, Set: contracts. -/
namespace Go.Proofs.YtmmnjecaedmleaaGreatDoor
open Go.RowKit
attribute [local go_sem ↓] Go.wp_at_zero Go.wp_at_succ

section
variable {w : World} {r : Nat} {lv : Value} {l : List Ent}

theorem ent_one (x : Ent) : ∀ u ∈ x.cells, u.oneCell' = true := by
  intro u hx
  simp only [Ent.cells, List.mem_cons, List.not_mem_nil, or_false] at hx
  rcases hx with rfl | rfl | rfl | rfl | rfl <;> rfl

set_option maxHeartbeats 1600000 in
set_option maxRecDepth 100000 in
theorem RingPush_ok (h : RingR w r lv l) (hl : l.length < 100000) (B c : Nat) (x : Ent) (hB : w.heap[B]? = some (.cells x.cells.toArray 131 (0, 0))) (hBr : B ≠ r) (hBl : lv.ownBlock ≠ some B) (hc : 1 ≤ c) :
    Calls Tryz.prog 75 #[.pointer (some ⟨r, 0, none⟩), .slice (some ⟨B, 0, none⟩) 1 c] w fun e w' => e = .returned (.int .i64 1) ∧ (∃ g cap, RingR w' r (.slice (some ⟨g, 0, none⟩) (l.length + 1) cap) (l ++ [x]) ∧ (lv.ownBlock = some g ∨ w.heap.size ≤ g) ∧ g < w'.heap.size) ∧ Chg (fun k => k = r ∨ lv.ownBlock = some k) w w' := by
  have H := Lib.hid h
  have c0 := cell_of_blk h.blk 0 rfl
  have f0 := free_of_blk h.blk 0
  have hrz : r < w.heap.size := blk_lt h.blk
  have hBz : B < w.heap.size := blk_lt hB
  have hmin : min (1 : Int) (100000 - (l.length : Int)) = 1 := by omega
  have hc' : (1 : Int) ≤ (c : Int) := by omega
  have HB := Lib.hid hB
  have hrow := h.row
  have hne := h.ne
  clear h hB
  go_enter Tryz.func75, Tryz.ntmps75
  go_wp2_with fail
  refine (RingRoom_ok H.out (by omega)).mono ?_
  rintro e w1 ⟨rfl, hc1⟩
  have hrow1 := hc1.row hrow (fun _ _ => id)
  have d0 := hc1.cell c0 id
  have hb1 := hc1.obj H.out.blk id
  have g0 := free_of_blk hb1 0
  have hz1 : r < w1.heap.size := blk_lt hb1
  have hB1 := hc1.obj HB.out id
  have HB1 := Lib.hid hB1
  have HC1 := Lib.hid hc1
  have Hb1 := Lib.hid hb1
  clear c0 f0 hrow hc1 hb1 hB1
  go_wp2_with fail
  go_region_law ((refine stepL_app el_ent _ _ (by rfl) (by rfl) 0 lv _ _ (by rfl) (hrow1.drew) B 1 c x.cells _ _ (by rfl) HB1.out (by rfl) (ent_one x) (by omega) (by omega) (by omega) (by omega) w1.heap.size (by simp) ?_; intro gg cap w4 hown4 hgrow hgat hglt; have f4 : w4.frozen? ⟨r, 0, none⟩ = false := (World.frozen?_of_block (hgrow.block r (by simpa using hz1) (Ne.symm hne))).trans g0; have c4 : w4.cell? ⟨r, 0, none⟩ = some lv := (World.cell?_of_block (hgrow.block r (by simpa using hz1) (Ne.symm hne))).trans d0))
  have hgr : gg ≠ r := by
    rcases hgat with h | h
    · intro e; subst e; exact hne h
    · omega
  have hb4 := (hgrow.block r (by simpa using hz1) (Ne.symm hne)).trans (show w1.drew.heap[r]? = _ from Hb1.out)
  have hR : RingR (w4.setCell ⟨r, 0, none⟩ (.slice (some ⟨gg, 0, none⟩) (l.length + 1) cap)) r (.slice (some ⟨gg, 0, none⟩) (l.length + 1) cap) (l ++ [x]) := by
    refine ⟨blk_set hb4 0 _, ?_, by simp [Value.ownBlock]; exact hgr⟩
    rw [show (l ++ [x]).length = l.length + 1 by simp, show (l ++ [x]).flatMap Ent.cells = l.flatMap Ent.cells ++ x.cells by simp]
    exact row_set_ne hown4 _ (by simp [Value.ownBlock]; exact hgr)
  have hC : Chg (fun k => k = r ∨ lv.ownBlock = some k) w (w4.setCell ⟨r, 0, none⟩ (.slice (some ⟨gg, 0, none⟩) (l.length + 1) cap)) :=
    ((HC1.out.of_no.drew).grown hgrow (fun j hj => .inl (.inr hj))).setCell (p := ⟨r, 0, none⟩) (.inl (.inl rfl)) _
  have HR := Lib.hid hR
  have HC := Lib.hid hC
  have HG := Lib.hid hgat
  have hz := HC1.out.size
  have hgl : gg < (w4.setCell ⟨r, 0, none⟩ (.slice (some ⟨gg, 0, none⟩) (l.length + 1) cap)).heap.size := by simpa [World.setCell] using hglt
  clear hR hC hown4 hgrow f4 c4 hb4 hgat
  go_wp2_with fail
  go_ret
  exact ⟨rfl, ⟨gg, cap, HR.out, HG.out.imp id (fun e => by omega), hgl⟩, HC.out⟩

theorem flat_ent_set (l : List Ent) (k : Nat) (hk : k < l.length) (x : Ent) :
    (((((l.flatMap Ent.cells).set (k * 5) (.int .u64 x.lsn)).set (k * 5 + 1) (.int .i64 x.at_)).set (k * 5 + 2) (.int .i64 x.n)).set (k * 5 + 3) (S x.bytes)).set (k * 5 + 4) (.bool x.written) = (l.set k x).flatMap Ent.cells := by
  induction l generalizing k with
  | nil => simp at hk
  | cons a l ih =>
    cases k with
    | zero => simp [Ent.cells]
    | succ k =>
      have := ih k (by simpa using hk)
      rw [List.set_cons_succ, List.flatMap_cons, List.flatMap_cons, ← this]
      have hl : a.cells.length = 5 := rfl
      have e : ∀ (y : List Value) (j : Nat) (u : Value), (a.cells ++ y).set ((k + 1) * 5 + j) u = a.cells ++ y.set (k * 5 + j) u := fun y j u => by
        rw [List.set_append_right _ _ (by omega)]
        congr 2
        omega
      have e0 := fun y u => e y 0 u
      simp only [Nat.add_zero] at e0
      rw [e0, e, e, e, e]

set_option maxHeartbeats 1600000 in
set_option maxRecDepth 100000 in
theorem RingSet_ok (h : RingR w r lv l) (k : Nat) (hk : k < l.length) (hl : l.length ≤ 100000) (x : Ent) :
    Calls Tryz.prog 169 #[.pointer (some ⟨r, 0, none⟩), .int .i64 k, x.val] w fun e w' => e = .returned (.bool true) ∧ RingR w' r lv (l.set k x) ∧ Chg (fun j => lv.ownBlock = some j) w w' := by
  obtain ⟨g, c, hv⟩ : ∃ g c, lv = .slice (some ⟨g, 0, none⟩) l.length c := by
    rcases h.row.2 with ⟨hv, hn⟩ | ⟨g, cap, cur, hv, _⟩
    · omega
    · exact ⟨_, _, hv⟩
  subst hv
  have H := Lib.hid h
  have c0 : w.cell? ⟨r, 0, none⟩ = some (.slice (some ⟨g, 0, none⟩) l.length c) := cell_of_blk h.blk 0 rfl
  have hrz : r < w.heap.size := blk_lt h.blk
  have hgz : g < w.heap.size := (h.row.lt g rfl).2
  have hgr : g ≠ r := fun e => h.ne (by rw [e]; rfl)
  have t0 : decide ((k : Int) < 0) = false := by simp only [decide_eq_false_iff_not]; omega
  have t1 : decide ((l.length : Int) ≤ (k : Int)) = false := by simp only [decide_eq_false_iff_not]; omega
  have i0 : (0 : Int) ≤ (k : Int) := by omega
  have i1 : (k : Int) < (l.length : Int) := by omega
  obtain ⟨e0, e1, e2, e3, e4⟩ := flat_ent l k hk
  have c10 := row_cell h.row rfl e0
  have c11 := row_cell h.row rfl e1
  have c12 := row_cell h.row rfl e2
  have c13 := row_cell h.row rfl e3
  have c14 := row_cell h.row rfl e4
  obtain ⟨x0, x1, x2, x3, x4⟩ := x
  unfold Ent.val Ent.cells
  clear h e0 e1 e2 e3 e4
  go_enter Tryz.func169, Tryz.ntmps169
  go_wp2_with fail
  refine (RingLen_ok (H.out.chg ((Chg.refl No w).alloc _) id (fun _ _ => id))).mono ?_
  rintro e w1 ⟨rfl, rfl⟩
  generalize hW : w.alloc (.cells #[.int .u64 x0, .int .i64 x1, .int .i64 x2, S x3, .bool x4] 131) = W
  have hcW : Chg No w W := by rw [← hW]; exact (Chg.refl _ _).alloc _
  have hbx : W.heap[w.heap.size]? = some (.cells #[.int .u64 x0, .int .i64 x1, .int .i64 x2, S x3, .bool x4] 131 (0, 0)) := by rw [← hW]; exact blk_new _ _
  obtain ⟨y0, y1, y2, y3, y4⟩ := cells5 hbx
  have z0 := hcW.cell c0 id
  have z10 := hcW.cell c10 id
  have z11 := hcW.cell c11 id
  have z12 := hcW.cell c12 id
  have z13 := hcW.cell c13 id
  have z14 := hcW.cell c14 id
  have hrow := hcW.row H.out.row (fun _ _ => id)
  have f10 := hrow.frozenAt (k * 5)
  have f11 := hrow.frozenAt (k * 5 + 1)
  have f12 := hrow.frozenAt (k * 5 + 2)
  have f13 := hrow.frozenAt (k * 5 + 3)
  have f14 := hrow.frozenAt (k * 5 + 4)
  have hblk := hcW.obj H.out.blk id
  have HROW := Lib.hid hrow
  have HBLK := Lib.hid hblk
  have HCW := Lib.hid hcW
  clear hW hcW hbx c0 c10 c11 c12 c13 c14 hrow hblk
  go_wp2_with fail
  go_region
  have s0 := (HROW.out.stored (k * 5) (.int .u64 x0)).1
  have s1 := (s0.stored (k * 5 + 1) (.int .i64 x1)).1
  have s2 := (s1.stored (k * 5 + 2) (.int .i64 x2)).1
  have s3 := (s2.stored (k * 5 + 3) (S x3)).1
  have s4 := (s3.stored (k * 5 + 4) (.bool x4)).1
  rw [flat_ent_set l k hk ⟨x0, x1, x2, x3, x4⟩] at s4
  have hR : RingR (((((W.setCell ⟨g, k * 5, none⟩ (.int .u64 x0)).setCell ⟨g, k * 5 + 1, none⟩ (.int .i64 x1)).setCell ⟨g, k * 5 + 2, none⟩ (.int .i64 x2)).setCell ⟨g, k * 5 + 3, none⟩ (S x3)).setCell ⟨g, k * 5 + 4, none⟩ (.bool x4)).drew r (.slice (some ⟨g, 0, none⟩) l.length c) (l.set k ⟨x0, x1, x2, x3, x4⟩) := by
    refine ⟨blk_set_ne (blk_set_ne (blk_set_ne (blk_set_ne (blk_set_ne HBLK.out hgr.symm) hgr.symm) hgr.symm) hgr.symm) hgr.symm, ?_, by simp [Value.ownBlock]; exact hgr⟩
    rw [List.length_set]
    exact s4.drew
  have hC : Chg (fun j => (Value.slice (some ⟨g, 0, none⟩) l.length c).ownBlock = some j) w (((((W.setCell ⟨g, k * 5, none⟩ (.int .u64 x0)).setCell ⟨g, k * 5 + 1, none⟩ (.int .i64 x1)).setCell ⟨g, k * 5 + 2, none⟩ (.int .i64 x2)).setCell ⟨g, k * 5 + 3, none⟩ (S x3)).setCell ⟨g, k * 5 + 4, none⟩ (.bool x4)).drew :=
    (((((Chg.setCell (F := fun j => (Value.slice (some ⟨g, 0, none⟩) l.length c).ownBlock = some j) HCW.out.of_no (p := ⟨g, k * 5, none⟩) (.inl rfl) _).setCell (p := ⟨g, k * 5 + 1, none⟩) (.inl rfl) _).setCell (p := ⟨g, k * 5 + 2, none⟩) (.inl rfl) _).setCell (p := ⟨g, k * 5 + 3, none⟩) (.inl rfl) _).setCell (p := ⟨g, k * 5 + 4, none⟩) (.inl rfl) _).drew
  have HRR := Lib.hid hR
  have HCC := Lib.hid hC
  clear s0 s1 s2 s3 s4 hR hC
  go_wp2_with fail
  go_ret
  exact ⟨rfl, HRR.out, HCC.out⟩
end
end Go.Proofs.YtmmnjecaedmleaaGreatDoor

/- wlog: a log in memory; none, may, size, fail, Used: contracts. -/
namespace Go.Proofs.YtmmnjecaedmleaaGreatDoor
open Go.RowKit
attribute [local go_sem ↓] Go.wp_at_zero Go.wp_at_succ

/-- A log. -/
structure Lg where
  s : Sh
  node : Int
  epoch : Nat
  base : Int
  next : Nat
  first : Nat
  at_ : Nat
  written : Nat
  synced : Nat
  live : List Ent
  broken : Bool
def Lg.cells (L : Lg) (b r : Nat) : Array Value := #[.pointer (some ⟨b, 0, none⟩), .int .i64 L.s.nodes, .int .i64 L.s.blocks, .int .i64 L.s.log, .int .i64 L.s.cache, .int .i64 L.s.lease, .int .i64 L.node, .int .u64 L.epoch, .int .i64 L.base, .int .u64 L.next, .int .u64 L.first, .int .i64 L.at_, .int .u64 L.written, .int .u64 L.synced, .pointer (some ⟨r, 0, none⟩), .bool L.broken]
structure LogR (w : World) (g b r : Nat) (lv : Value) (L : Lg) (G : Nat → Prop) : Prop where
  blk : w.heap[g]? = some (.cells (L.cells b r) 133 (0, 0))
  ring : RingR w r lv L.live
  fg : G g
  fr : G r
  fl : ∀ k, lv.ownBlock = some k → G k
  ngr : g ≠ r
  nl : lv.ownBlock ≠ some g
  lt : ∀ k, G k → k < w.heap.size
/-- The log L lies at block g, on the disk at block b, within the footprint G. -/
def LogAt (w : World) (g b : Nat) (L : Lg) (G : Nat → Prop) : Prop := ∃ r lv, LogR w g b r lv L G
def sumN : List Ent → Nat
  | [] => 0
  | x :: l => x.n + sumN l
def Lg.used (L : Lg) : Nat := sumN L.live

section
variable {w : World} {g b r : Nat} {lv : Value} {L : Lg} {G : Nat → Prop}

theorem LogR.chg {F : Nat → Prop} {w' : World} (h : LogR w g b r lv L G) (hc : Chg F w w') (hn : ∀ k, G k → ¬ F k) : LogR w' g b r lv L G :=
  ⟨hc.obj h.blk (hn _ h.fg), h.ring.chg hc (hn _ h.fr) (fun k hk => hn _ (h.fl k hk)), h.fg, h.fr, h.fl, h.ngr, h.nl, fun k hk => Nat.lt_of_lt_of_le (h.lt k hk) hc.size⟩
theorem LogAt.chg {F : Nat → Prop} {w' : World} (h : LogAt w g b L G) (hc : Chg F w w') (hn : ∀ k, G k → ¬ F k) : LogAt w' g b L G := by
  obtain ⟨r, lv, h⟩ := h
  exact ⟨r, lv, h.chg hc hn⟩
theorem LogAt.no {w' : World} (h : LogAt w g b L G) (hc : Chg No w w') : LogAt w' g b L G := h.chg hc (fun _ _ => id)
theorem LogAt.lt (h : LogAt w g b L G) : ∀ k, G k → k < w.heap.size := by
  obtain ⟨r, lv, h⟩ := h
  exact h.lt
theorem LogAt.fg (h : LogAt w g b L G) : G g := by
  obtain ⟨r, lv, h⟩ := h
  exact h.fg
theorem LogR.cell (h : LogR w g b r lv L G) : w.cell? ⟨g, 0, none⟩ = some (.pointer (some ⟨b, 0, none⟩)) ∧ w.cell? ⟨g, 1, none⟩ = some (.int .i64 L.s.nodes) ∧ w.cell? ⟨g, 2, none⟩ = some (.int .i64 L.s.blocks) ∧ w.cell? ⟨g, 3, none⟩ = some (.int .i64 L.s.log) ∧ w.cell? ⟨g, 4, none⟩ = some (.int .i64 L.s.cache) ∧ w.cell? ⟨g, 5, none⟩ = some (.int .i64 L.s.lease) ∧ w.cell? ⟨g, 6, none⟩ = some (.int .i64 L.node) ∧ w.cell? ⟨g, 7, none⟩ = some (.int .u64 L.epoch) ∧ w.cell? ⟨g, 8, none⟩ = some (.int .i64 L.base) ∧ w.cell? ⟨g, 9, none⟩ = some (.int .u64 L.next) ∧ w.cell? ⟨g, 10, none⟩ = some (.int .u64 L.first) ∧ w.cell? ⟨g, 11, none⟩ = some (.int .i64 L.at_) ∧ w.cell? ⟨g, 12, none⟩ = some (.int .u64 L.written) ∧ w.cell? ⟨g, 13, none⟩ = some (.int .u64 L.synced) ∧ w.cell? ⟨g, 14, none⟩ = some (.pointer (some ⟨r, 0, none⟩)) ∧ w.cell? ⟨g, 15, none⟩ = some (.bool L.broken) :=
  ⟨cell_of_blk h.blk 0 rfl, cell_of_blk h.blk 1 rfl, cell_of_blk h.blk 2 rfl, cell_of_blk h.blk 3 rfl, cell_of_blk h.blk 4 rfl, cell_of_blk h.blk 5 rfl, cell_of_blk h.blk 6 rfl, cell_of_blk h.blk 7 rfl, cell_of_blk h.blk 8 rfl, cell_of_blk h.blk 9 rfl, cell_of_blk h.blk 10 rfl, cell_of_blk h.blk 11 rfl, cell_of_blk h.blk 12 rfl, cell_of_blk h.blk 13 rfl, cell_of_blk h.blk 14 rfl, cell_of_blk h.blk 15 rfl⟩

theorem none_ok (h : LogAt w g b L G) : Calls Tryz.prog 172 #[.pointer (some ⟨g, 0, none⟩)] w fun e w' => e = .returned (.bool false) ∧ w = w' := by
  obtain ⟨r, lv, hR⟩ := h
  have c0 := hR.cell.1
  clear hR
  go_enter Tryz.func172, Tryz.ntmps172
  go_wp2
  go_ret
  exact ⟨rfl, rfl⟩
theorem mayL_ok (h : LogAt w g b L G) : Calls Tryz.prog 70 #[.pointer (some ⟨g, 0, none⟩)] w fun e w' => e = .returned (.int .i64 (if L.broken then 13 else 0)) ∧ w = w' := by
  have H := Lib.hid h
  obtain ⟨r, lv, hR⟩ := h
  obtain ⟨_, _, _, _, _, _, _, _, _, _, _, _, _, _, _, c15⟩ := hR.cell
  clear hR
  cases hb : L.broken
  all_goals
    rw [hb] at c15
    go_enter Tryz.func70, Tryz.ntmps70
    go_wp2_with fail
    refine (none_ok H.out).mono ?_
    rintro e w' ⟨rfl, rfl⟩
    go_wp2_with fail
    go_ret
    exact ⟨rfl, rfl⟩
theorem sizeL_ok (h : LogAt w g b L G) (hs : L.s.Ok) : Calls Tryz.prog 76 #[.pointer (some ⟨g, 0, none⟩)] w fun e w' => e = .returned (.int .i64 ((L.s.log - 1 : Nat) : Int)) ∧ w = w' := by
  obtain ⟨r, lv, hR⟩ := h
  obtain ⟨_, _, _, c3, _⟩ := hR.cell
  have hw : IntKind.i64.wrap ((L.s.log : Int) - 1) = ((L.s.log - 1 : Nat) : Int) := by
    rw [show (L.s.log : Int) - 1 = ((L.s.log - 1 : Nat) : Int) by have := hs.l1; omega]
    exact IntWalk.i64_in _ (by have := hs.l2; omega)
  have hw2 : (L.s.log : Int) - 1 = ((L.s.log - 1 : Nat) : Int) := by have := hs.l1; omega
  have HW2 := Lib.hid hw2
  clear hR hs hw2
  go_enter Tryz.func76, Tryz.ntmps76
  go_wp2
  go_ret
  exact ⟨rfl, rfl⟩

theorem LogR.set (h : LogR w g b r lv L G) (k : Nat) (v : Value) (L' : Lg) (hc : (L.cells b r).setIfInBounds k v = L'.cells b r) (hl : L'.live = L.live) : LogR (w.setCell ⟨g, k, none⟩ v) g b r lv L' G := by
  refine ⟨by have := blk_set h.blk k v; rwa [hc] at this, ?_, h.fg, h.fr, h.fl, h.ngr, h.nl, fun k hk => by simpa [World.setCell] using h.lt k hk⟩
  rw [hl]
  exact ⟨blk_set_ne h.ring.blk h.ngr.symm, row_set_ne h.ring.row _ h.nl, h.ring.ne⟩

def Lg.fail (L : Lg) (e : Int) : Lg := if e ≠ 0 then { L with broken := true } else L
theorem failL_ok (h : LogAt w g b L G) (e : Int) : Calls Tryz.prog 77 #[.pointer (some ⟨g, 0, none⟩), .int .i64 e] w fun e' w' => e' = .returned (.int .i64 e) ∧ LogAt w' g b (L.fail e) G ∧ Chg (fun k => k = g) w w' := by
  have H := Lib.hid h
  obtain ⟨r, lv, hR⟩ := h
  obtain ⟨_, _, _, _, _, _, _, _, _, _, _, _, _, _, _, c15⟩ := hR.cell
  have f15 := free_of_blk hR.blk 15
  unfold Lg.fail
  by_cases he : e = 0
  · have q0 : (e != 0) = false := by simp [he]
    rw [if_neg (by simp [he])]
    clear hR he
    go_enter Tryz.func77, Tryz.ntmps77
    go_wp2
    go_ret
    exact ⟨rfl, H.out, Chg.refl _ _⟩
  · have q0 : (e != 0) = true := by simpa using he
    rw [if_pos he]
    have HR := Lib.hid hR
    clear hR he
    go_enter Tryz.func77, Tryz.ntmps77
    go_wp2
    go_ret
    exact ⟨rfl, ⟨r, lv, HR.out.set 15 (.bool true) { L with broken := true } rfl rfl⟩, (Chg.refl (fun k => k = g) w).setCell (p := ⟨g, 15, none⟩) (.inl rfl) _⟩

theorem sumN_append (l m : List Ent) : sumN (l ++ m) = sumN l + sumN m := by
  induction l with
  | nil => simp [sumN]
  | cons a l ih => rw [List.cons_append, sumN, sumN, ih]; omega
theorem sum_take (l : List Ent) (k : Nat) (hk : k < l.length) : sumN (l.take (k + 1)) = sumN (l.take k) + l[k].n := by
  rw [List.take_succ_eq_append_getElem hk, sumN_append]
  rfl
theorem sum_le (l : List Ent) (m k : Nat) (h : ∀ x ∈ l, x.n ≤ m) : sumN (l.take k) ≤ m * l.length := by
  induction l generalizing k with
  | nil => simp [sumN]
  | cons a l ih =>
    cases k with
    | zero => simp [sumN]
    | succ k =>
      have h1 := h a (List.mem_cons_self ..)
      have h2 := ih k (fun x hx => h x (List.mem_cons_of_mem _ hx))
      simp only [List.take_succ_cons, sumN, List.length_cons, Nat.mul_add, Nat.mul_one]
      omega

set_option maxHeartbeats 800000 in
set_option maxRecDepth 100000 in
theorem Used_ok (h : LogAt w g b L G) (hl : L.live.length ≤ 100000) (hn : ∀ x ∈ L.live, x.n ≤ 1000) :
    Calls Tryz.prog 202 #[.pointer (some ⟨g, 0, none⟩)] w fun e' w' => e' = .returned (.int .i64 L.used) ∧ Chg No w w' := by
  have H := Lib.hid h
  obtain ⟨r, lv, hR⟩ := h
  obtain ⟨_, _, _, _, _, _, _, _, _, _, _, _, _, _, c14, _⟩ := hR.cell
  have HR := Lib.hid hR
  have HN := Lib.hid hn
  clear hR hn
  go_enter Tryz.func202, Tryz.ntmps202
  go_wp2_with fail
  refine (none_ok H.out).mono ?_
  rintro e w' ⟨rfl, rfl⟩
  go_wp2_with fail
  refine (RingList_ok HR.out.ring hl).mono ?_
  rintro e w2 ⟨v, rfl, ho2, hc2⟩
  obtain ⟨va, vc, hv⟩ : ∃ a c, v = .slice a L.live.length c := by
    rcases ho2.2 with ⟨hv, hn⟩ | ⟨g, cap, cur, hv, _⟩
    · exact ⟨none, 0, by rw [hv, hn]⟩
    · exact ⟨_, _, hv⟩
  have HV := Lib.hid hv
  rw [hv]
  have HO := Lib.hid ho2
  have HC := Lib.hid hc2
  clear ho2 hc2 hv c14
  go_wp2_with fail
  go_loopw [3, 14] (fun s i wr => ∃ k : Nat, k ≤ L.live.length ∧ i = .int .i64 k ∧ s = .int .i64 (sumN (L.live.take k)) ∧ Hid (Chg No w2 wr)) (fun s i _ => L.live.length - (intOf i).toNat)
  case atStart => exact ⟨0, Nat.zero_le _, rfl, rfl, Lib.hid (Chg.refl _ _)⟩
  case round =>
    obtain ⟨k, hk, rfl, rfl, HCr⟩ := hrel
    by_cases hlt : k < L.live.length
    · obtain ⟨gv, hgv⟩ : ∃ gv, va = some ⟨gv, 0, none⟩ := by
        rcases HO.out.2 with ⟨hv, hn⟩ | ⟨g, cap, cur, hv, _⟩
        · omega
        · rw [HV.out] at hv; simp at hv; exact ⟨g, hv.1⟩
      subst hgv
      obtain ⟨e0, e1, e2, e3, e4⟩ := flat_ent L.live k hlt
      have hob : v.ownBlock = some gv := by rw [HV.out]; rfl
      have d0 := HCr.out.cell (row_cell HO.out hob e0) id
      have d1 := HCr.out.cell (row_cell HO.out hob e1) id
      have d2 := HCr.out.cell (row_cell HO.out hob e2) id
      have d3 := HCr.out.cell (row_cell HO.out hob e3) id
      have d4 := HCr.out.cell (row_cell HO.out hob e4) id
      have hst := sum_take L.live k hlt
      have hle := sum_le L.live 1000 (k + 1) HN.out
      obtain ⟨x, hx⟩ : ∃ x, L.live[k] = x := ⟨_, rfl⟩
      rw [hx] at d0 d1 d2 d3 d4 hst
      obtain ⟨q, hq⟩ : ∃ q, sumN (L.live.take k) = q := ⟨_, rfl⟩
      rw [hq] at hst ⊢
      rw [hst] at hle
      have hw : IntKind.i64.wrap ((q : Int) + (x.n : Int)) = (q : Int) + (x.n : Int) := IntWalk.i64_in _ (by omega)
      have HST := Lib.hid hst
      clear hst e0 e1 e2 e3 e4 hob hx hq hle
      go_wp2_with fail
      refine ⟨⟨k + 1, hlt, by go_num, by rw [HST.out]; simp, Lib.hid (HCr.out.alloc _)⟩, by simp [intOf]; omega⟩
    · obtain rfl : k = L.live.length := by omega
      go_wp2_with fail
      go_ret
      refine ⟨?_, HC.out.trans_same HCr.out⟩
      rw [List.take_length]
      rfl
end
end Go.Proofs.YtmmnjecaedmleaaGreatDoor
