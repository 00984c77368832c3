import Derived.Test.YtmmnjecaedmleaaGreatDoorM36
import Derived.Laws.Rows
import Derived.Laws.Externs
import Derived.MapKept
import Derived.Deep.DeepCutAuto

/- sdisk.Twin: its three copies. -/
namespace Go.Proofs.YtmmnjecaedmleaaGreatDoor
open Go.RowKit
attribute [local go_sem ↓] Go.wp_at_zero Go.wp_at_succ

theorem eql_map_nil0 {P : Program} (w : World) (d : Nat) (t k e : TypeId) (p : Option Nat) (h : P.underlying t = some (.map k e)) :
    (Op.equalIn (d + 1) t (.map p) (.map none)).run P w = .ok p.isNone w := by
  cases p <;> simp [Op.equalIn, run_underlying h]
theorem eql_map_nil {P : Program} (w : World) (t k e : TypeId) (p : Option Nat) (h : P.underlying t = some (.map k e)) :
    (binOp .eql t (.map p) (.map none)).run P w = .ok (.bool p.isNone) w := by
  simp only [binOp]
  simp [show Op.equal t (.map p) (.map none) = Op.equalIn (9999 + 1) t (.map p) (.map none) from rfl, eql_map_nil0 w 9999 t k e p h]
theorem assert_map {P : Program} (w : World) (t xT k e : TypeId) (v : Value) (h : P.underlying t = some (.map k e)) : (Instr.typeAssert (.iface t v) xT t false).run P w = .ok v w := by
  simp [Instr.typeAssert, run_underlying h, go_sem, Result.andThen]
theorem clone_map {P : Program} (w : World) {r : Nat} {es : Array MapEntry} {clock : Nat} (t : TypeId) (hb : w.heap[r]? = some (.map es clock)) :
    (Extern.MapsClone.clone #[.iface t (.map (some r))]).run P w = .ok (.iface t (.map (some w.heap.size))) (w.alloc (.map es clock)) := by
  have e : Extern.MapsClone.clone #[.iface t (.map (some r))] = (getObj r >>= fun o => match o with
      | .map entries clock => (newObj (.map entries clock) >>= fun n => pure (.iface t (.map (some n))))
      | _ => stuck "maps.clone: a map expected") := rfl
  rw [e]
  simp [MapKept.run_getObj_map hb, Result.andThen, go_sem]

set_option maxHeartbeats 2000000 in
set_option maxRecDepth 100000 in
theorem clone_strs {w : World} {b : Nat} {es : Array MapEntry} {clock : Nat} (hb : w.heap[b]? = some (.map es clock)) :
    Calls Tryz.prog 180 #[.map (some b)] w fun e w' => e = .returned (.map (some w.heap.size)) ∧ w' = w.alloc (.map es clock) := by
  have hq := fun w => eql_map_nil (P := Tryz.prog) w 143 3 9 (some b) (by kernel_rfl)
  go_enter Tryz.func180, Tryz.ntmps180
  go_wp2
  rw [run_callFunc_extern Tryz.func265 (by kernel_rfl) (by kernel_rfl) (by kernel_rfl) (e := Extern.MapsClone.clone) (by kernel_rfl), clone_map w _ hb]
  simp only [Result.andThen]
  rw [Oper.upon_value]
  go_wp2
  rw [assert_map _ _ _ 3 9 _ (by kernel_rfl)]
  simp only [Result.andThen]
  rw [Oper.upon_value]
  go_wp2
  go_ret
  exact ⟨rfl, rfl⟩
set_option maxHeartbeats 2000000 in
set_option maxRecDepth 100000 in
theorem clone_wrs {w : World} {b : Nat} {es : Array MapEntry} {clock : Nat} (hb : w.heap[b]? = some (.map es clock)) :
    Calls Tryz.prog 181 #[.map (some b)] w fun e w' => e = .returned (.map (some w.heap.size)) ∧ w' = w.alloc (.map es clock) := by
  have hq := fun w => eql_map_nil (P := Tryz.prog) w 144 3 219 (some b) (by kernel_rfl)
  go_enter Tryz.func181, Tryz.ntmps181
  go_wp2
  rw [run_callFunc_extern Tryz.func265 (by kernel_rfl) (by kernel_rfl) (by kernel_rfl) (e := Extern.MapsClone.clone) (by kernel_rfl), clone_map w _ hb]
  simp only [Result.andThen]
  rw [Oper.upon_value]
  go_wp2
  rw [assert_map _ _ _ 3 219 _ (by kernel_rfl)]
  simp only [Result.andThen]
  rw [Oper.upon_value]
  go_wp2
  go_ret
  exact ⟨rfl, rfl⟩

theorem flat_wr_length : ∀ (l : List Wr), (l.flatMap Wr.cells).length = l.length * 4
  | [] => rfl
  | x :: l => by
    rw [List.flatMap_cons, List.length_append, flat_wr_length l, List.length_cons]
    show 4 + l.length * 4 = _
    omega
theorem wr_one (x : Wr) : ∀ u ∈ x.cells, u.oneCell' = true := by
  intro u hu
  simp only [Wr.cells, List.mem_cons, List.mem_nil_iff, or_false] at hu
  rcases hu with rfl | rfl | rfl | rfl <;> rfl

set_option maxHeartbeats 2000000 in
set_option maxRecDepth 100000 in
theorem clone_waits {w : World} {v : Value} {base : Nat} {l : List Wr} (h : w.ownsRow base 219 4 v l.length (l.flatMap Wr.cells)) (hl : l.length ≤ 1000000000) :
    Calls Tryz.prog 182 #[v] w fun e w' => ∃ v', e = .returned v' ∧ w'.ownsRow w.heap.size 219 4 v' l.length (l.flatMap Wr.cells) ∧ Chg No w w' := by
  have hx := h.2
  rcases hx with ⟨rfl, hn⟩ | ⟨g, cap, cur, rfl, _, hg, hle, _⟩
  · have hl0 : l = [] := List.eq_nil_of_length_eq_zero hn
    subst hl0
    have q := fun w : World => Lib.run_eql_slice_nil (P := Tryz.prog) w 145 219 none 0 0 0 0 (by kernel_rfl)
    go_enter Tryz.func182, Tryz.ntmps182
    go_wp2
    go_ret
    exact ⟨_, rfl, World.ownsRow_nil _ _ _ _, Chg.refl _ _⟩
  · have q := fun (w : World) => Lib.run_eql_slice_nil (P := Tryz.prog) w 145 219 (some ⟨g, 0, none⟩) l.length cap 0 0 (by kernel_rfl)
    have H := Lib.hid h
    have hgl := blk_lt hg
    clear h
    go_enter Tryz.func182, Tryz.ntmps182
    go_wp2_with (at_builtin; refine Halt1.hold ?_)
    refine Halt1.go ?_
    refine wpL_app4 el_write _ _ rfl rfl w.heap.size (.slice (some ⟨w.heap.size, 0, none⟩) 0 0) 0 [] rfl (World.ownsRow_made w #[] 0 (Nat.le_refl _) (Nat.zero_le _) rfl) g 0 l.length cap (l.flatMap Wr.cells) rfl ?_ (flat_wr_length l) ?_ (by omega) (by omega) (by simp) ?_
    · intro j u hj
      rw [World.cell?_of_block (Below.heap_alloc _ _ _ hgl), Nat.zero_add]
      exact row_cell H.out rfl hj
    · intro u hu
      obtain ⟨x, _, hx⟩ := List.mem_flatMap.1 hu
      exact wr_one x u hx
    · intro v2 w2 hown2 hgrow2
      have HO2 := Lib.hid hown2
      have HC2 := Lib.hid (((Chg.refl No w).alloc (.cells #[] 219)).grown hgrow2 (fun k hk => by simp [Value.ownBlock] at hk; omega))
      clear hown2 hgrow2
      go_wp2_with fail
      go_ret
      have ho := HO2.out
      rw [Nat.zero_add, List.nil_append] at ho
      exact ⟨_, rfl, ho, HC2.out⟩

theorem strs_ok {w : World} {r : Nat} {f : Int → Option Bytes} (h : MapAt w r (fun k => (f k).map S)) :
    Calls Tryz.prog 180 #[.map (some r)] w fun e w' => ∃ r', e = .returned (.map (some r')) ∧ w.heap.size ≤ r' ∧ MapAt w' r' (fun k => (f k).map S) ∧ Chg No w w' := by
  obtain ⟨es, clock, h1, h2⟩ := h
  refine (clone_strs h1).mono ?_
  rintro e w' ⟨rfl, rfl⟩
  exact ⟨_, rfl, Nat.le_refl _, ⟨es, clock, heap_alloc_new w _, h2⟩, (Chg.refl _ _).alloc _⟩
theorem wrs_ok {w : World} {r : Nat} {f : Int → Option Wr} (h : MapAt w r (fun k => (f k).map Wr.val)) :
    Calls Tryz.prog 181 #[.map (some r)] w fun e w' => ∃ r', e = .returned (.map (some r')) ∧ w.heap.size ≤ r' ∧ MapAt w' r' (fun k => (f k).map Wr.val) ∧ Chg No w w' := by
  obtain ⟨es, clock, h1, h2⟩ := h
  refine (clone_wrs h1).mono ?_
  rintro e w' ⟨rfl, rfl⟩
  exact ⟨_, rfl, Nat.le_refl _, ⟨es, clock, heap_alloc_new w _, h2⟩, (Chg.refl _ _).alloc _⟩
theorem row_slice {w : World} {base e size n : Nat} {v : Value} {xs : List Value} (h : w.ownsRow base e size v n xs) : ∃ a n c, v = .slice a n c := by
  rcases h.2 with ⟨rfl, _⟩ | ⟨g, cap, cur, rfl, _⟩
  · exact ⟨_, _, _, rfl⟩
  · exact ⟨_, _, _, rfl⟩
theorem ownsRow_one {w : World} {base e size n : Nat} {v : Value} {xs : List Value} (h : w.ownsRow base e size v n xs) : v.oneCell' = true := by
  rcases h.2 with ⟨rfl, _⟩ | ⟨g, cap, cur, rfl, _⟩ <;> rfl
theorem hold_op {P : Program} {ops : Array Oper} {rest : List Oper} {o : Oper} {a : Act} {w : World} {Q : Exit → Act → World → Prop} (x : Op) (_ : o.op = x) (h : Halt1 (wpList P ops Q (o :: rest) a w)) : wpList P ops Q (o :: rest) a w := Halt1.hold h
set_option maxRecDepth 100000 in
set_option maxHeartbeats 2000000 in
theorem Twin_ok {w : World} {b : Nat} {D : Dk} {F : Nat → Prop} (h : DiskAt w b D F) (hl : D.waits.length ≤ 1000000000) :
    Calls Tryz.prog 54 #[.pointer (some ⟨b, 0, none⟩)] w fun e w' => ∃ b', e = .returned (.pointer (some ⟨b', 0, none⟩)) ∧ DiskAt w' b' D (grow F w w') ∧ Chg No w w' := by
  obtain ⟨bn, bl, wv, sv, h⟩ := h
  have H := Lib.hid h
  obtain ⟨A, hA, hAn, hAf⟩ := h.blk
  obtain ⟨es1, k1, hm1, ho1⟩ := h.now
  obtain ⟨es2, k2, hm2, ho2⟩ := h.lasts
  obtain ⟨d, hU, hdd⟩ : ∃ d, Tryz.prog.underlying 147 = some d ∧ (match d with | .struct _ | .array _ _ => true | _ => false) = true := by
    have hh : (Tryz.prog.underlying 147).any (fun d => match d with | .struct _ | .array _ _ => true | _ => false) = true := by kernel_rfl
    revert hh
    cases Tryz.prog.underlying 147 with
    | none => intro hh; cases hh
    | some d => intro hh; exact ⟨d, rfl, hh⟩
  have hI : (Tryz.prog.info? 147).map (·.size) = some A.size := by rw [hAn]; kernel_rfl
  have h1 : A.all (·.oneCell') = true := by
    rw [Array.all_eq_true]
    intro i hi
    have := hAf i (by omega)
    rw [Array.getElem?_eq_getElem hi] at this
    rw [Option.some.inj this]
    unfold diskCell
    repeat' split
    all_goals first | rfl | skip
    · exact ownsRow_one h.waits
    · exact ownsRow_one h.stays
  clear h
  go_enter Tryz.func54, Tryz.ntmps54
  go_upto_region 3 with fail
  iterate 7 (first | go_values | go_skip | go_guarded | go_step | go_upon | go_in | go_simp)
  refine wpList_load_row rfl 147 (.tmp 7) rfl b rfl 147 A (0, 0) d hA hU (by cases d <;> first | rfl | cases hdd) hI ?_
  iterate 3 (first | go_values | go_skip | go_guarded | go_step | go_upon | go_in | go_simp)
  generalize hz : (Obj.cells _ _ : Obj) = z
  obtain ⟨old, hzz, hzs⟩ : ∃ old, z = .cells old 147 (0, 0) ∧ old.size = A.size := ⟨_, hz.symm, by rw [hAn]; rfl⟩
  subst hzz
  clear hz
  refine wpList_store_row rfl 147 (.tmp 3) (.tmp 8) rfl w.heap.size A rfl rfl 147 _ (heap_alloc_new w _) hI hzs h1 ?_
  have HW := Lib.hid (show ((w.alloc (.cells old 147)).setRow w.heap.size A).heap[w.heap.size]? = some (.cells A 147 (0, 0)) from setRow_heap _ _ _ A _ _ (heap_alloc_new w _))
  have HC := Lib.hid (show Chg No w ((w.alloc (.cells old 147)).setRow w.heap.size A) from ((Chg.refl No w).alloc _).trans (G := fun k => k = w.heap.size) ⟨rfl, rfl, rfl, by simp, fun k _ hn => setRow_other _ _ _ _ hn⟩ (fun x hx => by subst hx; exact .inr (Nat.le_refl _)))
  have hsz : ((w.alloc (.cells old 147)).setRow w.heap.size A).heap.size = w.heap.size + 1 := by simp
  generalize ((w.alloc (.cells old 147)).setRow w.heap.size A) = W at HW HC hsz
  have HR := Lib.hid (H.out.chg HC.out (fun _ _ => id))
  have c3 : W.cell? ⟨b, 3, none⟩ = some (.map (some bn)) := HR.out.blk.cell 3 (by omega)
  have c4 : W.cell? ⟨b, 4, none⟩ = some (.map (some bl)) := HR.out.blk.cell 4 (by omega)
  have c5 : W.cell? ⟨b, 5, none⟩ = some wv := HR.out.blk.cell 5 (by omega)
  clear hzs hI h1 hA hU hdd hm1 hm2 ho1 ho2
  have hbW : b < W.heap.size := HR.out.blk.lt
  have hN : w.heap.size ≠ b := by have := H.out.lt b H.out.fb; omega
  have hgW : w.heap.size < W.heap.size := by omega
  have HL := Lib.hid hl
  clear hl
  have HRD := Lib.hid (show DiskR W.drew b bn bl wv sv D F from HR.out.chg (Chg.refl No W).drew (fun _ _ => id))
  have HCD := Lib.hid (show Chg No W W.drew from (Chg.refl No W).drew)
  go_upto_region 4 with (fail)
  simp only [Act.put]
  go_region_held3 (fun w' => w'.cell? ⟨b, 3, none⟩ = some (.map (some bn)) ∧ w'.cell? ⟨b, 4, none⟩ = some (.map (some bl)) ∧ w'.cell? ⟨b, 5, none⟩ = some wv) (go_keep)
    (first
     | (go_at_call 180; (refine (strs_ok (f := D.now) HRD.out.now).mono ?_); rintro e w4 ⟨r1, rfl, hr1, hm1, hc1⟩; have HC1 : Hid (Chg No W w4) := Lib.hid (HCD.out.trans_same hc1); have hk4 : ∀ o, w4.cell? ⟨b, o, none⟩ = W.cell? ⟨b, o, none⟩ := (fun o => World.cell?_of_block (HC1.out.block b hbW id)); have HR1 := Lib.hid hr1; have HM1 := Lib.hid hm1; clear hr1 hm1 hc1)
     | (go_at_call 181; (refine (wrs_ok (f := D.lasts) (HR.out.chg HC1.out (fun _ _ => id)).lasts).mono ?_); rintro e w5 ⟨r2, rfl, hr2, hm2, hc2⟩; have HC2 : Hid (Chg No w4 w5) := Lib.hid hc2; have hk5 : ∀ o, w5.cell? ⟨b, o, none⟩ = W.cell? ⟨b, o, none⟩ := (fun o => World.cell?_of_block ((HC1.out.trans_same HC2.out).block b hbW id)); have HR2 := Lib.hid hr2; have HM2 := Lib.hid hm2; clear hr2 hm2 hc2)
     | (go_at_call 182; (refine (clone_waits (HR.out.chg (HC1.out.trans_same HC2.out) (fun _ _ => id)).waits HL.out).mono ?_); rintro e w6 ⟨v3, rfl, ho3, hc3⟩; have HC3 : Hid (Chg No w5 w6) := Lib.hid hc3; have hk6 : ∀ o, w6.cell? ⟨b, o, none⟩ = W.cell? ⟨b, o, none⟩ := (fun o => World.cell?_of_block (((HC1.out.trans_same HC2.out).trans_same HC3.out).block b hbW id)); obtain ⟨va, vn, vc, rfl⟩ := row_slice ho3; have HO3 := Lib.hid ho3; have HB6 := Lib.hid (show w6.heap[w.heap.size]? = some (.cells A 147 (0, 0)) from (((HC1.out.trans_same HC2.out).trans_same HC3.out).block _ hgW id).trans HW.out); have f3 := free_of_blk HB6.out 3; have f4 := free_of_blk HB6.out 4; have f5 := free_of_blk HB6.out 5; have m3 := cell_of_blk HB6.out 3 (hAf 3 (by omega)); have m4 := cell_of_blk HB6.out 4 (hAf 4 (by omega)); have m5 := cell_of_blk HB6.out 5 (hAf 5 (by omega)); clear ho3 hc3))
  go_wp2_with fail
  go_ret
  have hC6 : Chg No W w6 := (HC1.out.trans_same HC2.out).trans_same HC3.out
  have z1 : W.heap.size ≤ r1 := HR1.out
  have z2 := HR2.out
  have z3 := HM1.out.lt
  have z4 := HM2.out.lt
  have z5 := HC3.out.size
  have z6 := HC2.out.size
  have g1 : r1 ≠ w.heap.size := by omega
  have g2 : r2 ≠ w.heap.size := by omega
  have g3 : (Value.slice va vn vc).ownBlock ≠ some w.heap.size := fun e => by have := (HO3.out.lt _ e).1; omega
  have g4 : sv.ownBlock ≠ some w.heap.size := fun e => by have := H.out.lt _ (H.out.fs _ e); omega
  have hm1 := (HM1.out.chg HC2.out id).chg HC3.out id
  have hm2 := HM2.out.chg HC3.out id
  have hw := ownsRow_base HO3.out (Nat.zero_le _)
  have hs := (HR.out.chg hC6 (fun _ _ => id)).stays
  refine ⟨_, rfl, ⟨r1, r2, .slice va vn vc, sv, ?_, ?_, ?_, ?_, ?_, ?_, ?_, ?_, ?_, ?_, ?_, ?_⟩, ?_⟩
  · refine ((((BlkF.set ⟨A, HB6.out, hAn, hAf⟩ 3 _).set 4 _).set 5 _)).congr ?_
    intro i hi
    unfold diskCell
    by_cases e3 : i = 3
    · subst e3; rfl
    · by_cases e4 : i = 4
      · subst e4; rfl
      · by_cases e5 : i = 5
        · subst e5; rfl
        · simp only [if_neg e3, if_neg e4, if_neg e5]
  · exact ((hm1.of (blk_set_ne rfl g1)).of (blk_set_ne rfl g1)).of (blk_set_ne rfl g1)
  · exact ((hm2.of (blk_set_ne rfl g2)).of (blk_set_ne rfl g2)).of (blk_set_ne rfl g2)
  · exact row_set_ne (row_set_ne (row_set_ne hw _ g3) _ g3) _ g3
  · exact row_set_ne (row_set_ne (row_set_ne hs _ g4) _ g4) _ g4
  · exact .inr ⟨Nat.le_refl _, by simp; omega⟩
  · exact .inr ⟨by omega, by simp; omega⟩
  · exact .inr ⟨by omega, by simp; omega⟩
  · intro k hk
    have := HO3.out.lt k hk
    exact .inr ⟨by omega, by simp; omega⟩
  · exact fun k hk => .inl (H.out.fs k hk)
  · omega
  · rintro k (hk | hk)
    · have := H.out.lt k hk; simp; omega
    · exact hk.2
  · exact (((HC.out.trans_same hC6).setCell (p := ⟨w.heap.size, 3, none⟩) (.inr (Nat.le_refl _)) _).setCell (p := ⟨w.heap.size, 4, none⟩) (.inr (Nat.le_refl _)) _).setCell (p := ⟨w.heap.size, 5, none⟩) (.inr (Nat.le_refl _)) _
end Go.Proofs.YtmmnjecaedmleaaGreatDoor

/- RedoWhole: contracts of the twin disk, and of a log's numbers. -/
namespace Go.Proofs.YtmmnjecaedmleaaGreatDoor
open Go.RowKit
attribute [local go_sem ↓] Go.wp_at_zero Go.wp_at_succ

theorem First_ok {w : World} {g b : Nat} {L : Lg} {G : Nat → Prop} (h : LogAt w g b L G) : Calls Tryz.prog 52 #[.pointer (some ⟨g, 0, none⟩)] w fun e w' => e = .returned (.int .u64 L.first) ∧ w = w' := by
  have H := Lib.hid h
  obtain ⟨r, lv, hR⟩ := h
  obtain ⟨_, _, _, _, _, _, _, _, _, _, c10, _⟩ := hR.cell
  clear hR
  go_enter Tryz.func52, Tryz.ntmps52
  go_wp2_with fail
  refine (none_ok H.out).mono ?_
  rintro e w' ⟨rfl, rfl⟩
  go_wp2_with fail
  go_ret
  exact ⟨rfl, rfl⟩
theorem Written_ok {w : World} {g b : Nat} {L : Lg} {G : Nat → Prop} (h : LogAt w g b L G) : Calls Tryz.prog 53 #[.pointer (some ⟨g, 0, none⟩)] w fun e w' => e = .returned (.int .u64 L.written) ∧ w = w' := by
  have H := Lib.hid h
  obtain ⟨r, lv, hR⟩ := h
  obtain ⟨_, _, _, _, _, _, _, _, _, _, _, _, c12, _⟩ := hR.cell
  clear hR
  go_enter Tryz.func53, Tryz.ntmps53
  go_wp2_with fail
  refine (none_ok H.out).mono ?_
  rintro e w' ⟨rfl, rfl⟩
  go_wp2_with fail
  go_ret
  exact ⟨rfl, rfl⟩
section
variable {K : Nat → Prop} {w w' : World} {b g : Nat} {D : Dk} {L : Lg}
theorem sysFirst (h : Sy K w b g D L) : Calls Tryz.prog 52 #[.pointer (some ⟨g, 0, none⟩)] w fun e w' => e = .returned (.int .u64 L.first) ∧ w = w' := by
  obtain ⟨F, G, _, hl, _⟩ := h
  exact First_ok hl
theorem sysWritten (h : Sy K w b g D L) : Calls Tryz.prog 53 #[.pointer (some ⟨g, 0, none⟩)] w fun e w' => e = .returned (.int .u64 L.written) ∧ w = w' := by
  obtain ⟨F, G, _, hl, _⟩ := h
  exact Written_ok hl
theorem sysTwin (h : Sy K w b g D L) {N : Nat} (hf : D.FitN N) : Calls Tryz.prog 54 #[.pointer (some ⟨b, 0, none⟩)] w fun e w' => ∃ b', e = .returned (.pointer (some ⟨b', 0, none⟩)) ∧ Sy0 K w' b' D ∧ Chg (Kp K) w w' := by
  obtain ⟨F, G, hd, hlg, hdj, hk⟩ := h
  refine (Twin_ok hd (by have := hf.waits; omega)).mono ?_
  rintro e w' ⟨b', rfl, h1, h2⟩
  exact ⟨b', rfl, (Sy0.step (fun k hkk => ⟨(hk k hkk).1, (hk k hkk).2.2⟩) h1 h2.of_no).1, h2.of_no⟩
theorem twAdmit (h : Sy0 K w b D) {N : Nat} (hf : D.FitN N) (node : Int) (epoch : Nat) :
    Calls Tryz.prog 19 #[.pointer (some ⟨b, 0, none⟩), .int .i64 node, .int .u64 epoch] w fun e w' => e = .returned (.int .i64 (D.admit node epoch).1) ∧ Sy0 K w' b (D.admit node epoch).2 ∧ Chg (Kp K) w w' := by
  obtain ⟨F, hd, hk⟩ := h
  refine (Admit_ok hd hf.fit node epoch).mono ?_
  rintro e w' ⟨rfl, h1, h2⟩
  exact ⟨rfl, Sy0.step hk h1 h2⟩
theorem twApply (h : Sy0 K w b D) (hsd : D.Szd) (by_ : Int) (epoch : Nat) (v : Value) (l : List Img) (hv : ImgsAt w v l) (hvK : ∀ k, v.ownBlock = some k → K k) (hl : l.length ≤ 1000000) (hf : D.FitN (16 * l.length + 16)) :
    Calls Tryz.prog 31 #[.pointer (some ⟨b, 0, none⟩), sh0.val, .int .i64 by_, .int .u64 epoch, v] w fun e w' => e = .returned (.tuple #[.int .i64 (D.apply sh0 by_ epoch l).2.1, .int .i64 (D.apply sh0 by_ epoch l).1]) ∧ Sy0 K w' b (D.apply sh0 by_ epoch l).2.2 ∧ Chg (Kp K) w w' := by
  obtain ⟨F, hd, hk⟩ := h
  refine (Apply_ok sh0_ok hd hsd by_ epoch v l hv (fun k e => (hk k (hvK k e)).1) hl hf).mono ?_
  rintro e w' ⟨rfl, h1, h2⟩
  exact ⟨rfl, Sy0.step hk h1 h2⟩
theorem twCut (h : Sy0 K w b D) {N : Nat} (hf : D.FitN N) (v : Value) (l : List Int) (hv : ReadsInts w v l) (hvb : ∀ k, v.ownBlock = some k → K k) (hl : l.length ≤ 1000000000) :
    Calls Tryz.prog 46 #[.pointer (some ⟨b, 0, none⟩), v] w fun e w' => e = .returned (.int .i64 D.cutN) ∧ Sy0 K w' b (D.cut l) ∧ Chg (Kp K) w w' := by
  obtain ⟨F, hd, hk⟩ := h
  have hb : F b := by obtain ⟨_, _, _, _, hr⟩ := hd; exact hr.fb
  refine (Cut_ok hd v l hv (fun e => (hk b (hvb b e)).1 hb) hl (by have := hf.waits; omega)).mono ?_
  rintro e w' ⟨rfl, h1, h2⟩
  exact ⟨rfl, Sy0.step hk h1 h2⟩
theorem twRestore (h : Sy0 K w b D) (hs : 0 < D.sectors) :
    Calls Tryz.prog 26 #[.pointer (some ⟨b, 0, none⟩)] w fun e w' => e = .returned (.tuple #[]) ∧ Sy0 K w' b { D with on := true } ∧ Chg (Kp K) w w' := by
  obtain ⟨F, hd, hk⟩ := h
  refine (Restore_ok hd hs).mono ?_
  rintro e w' ⟨rfl, h1, h2⟩
  exact ⟨rfl, Sy0.step hk (h1.wide grow_sub (grow_lt hd.lt h2.size)) h2⟩
theorem twRun (h : Sy0 K w b D) (hsd : D.Szd) {N : Nat} (hf : D.FitN N) (hN : 20000 ≤ N) (node : Int) (of : Nat) (by_ : Int) (epoch : Nat) :
    Calls Tryz.prog 20 #[.pointer (some ⟨b, 0, none⟩), sh0.val, .int .i64 node, .int .u64 of, .int .i64 by_, .int .u64 epoch] w fun e w' => e = .returned (.tuple #[.int .i64 (D.run sh0 node of by_ epoch).2.1, .int .i64 (D.run sh0 node of by_ epoch).1]) ∧ Sy0 K w' b (D.run sh0 node of by_ epoch).2.2 ∧ Chg (Kp K) w w' := by
  obtain ⟨F, hd, hk⟩ := h
  refine (Run_ok sh0_ok hd hsd (hf.le hN) node of by_ epoch).mono ?_
  rintro e w' ⟨rfl, h1, h2⟩
  exact ⟨rfl, Sy0.step hk h1 h2⟩
theorem twLoad (h : Sy0 K w b D) (hsd : D.Szd) {N : Nat} (hf : D.FitN N) (blk : Int) :
    Calls Tryz.prog 21 #[.pointer (some ⟨b, 0, none⟩), sh0.val, .int .i64 blk] w fun e w' => e = .returned (.tuple #[(D.load sh0 blk).1.val, .int .i64 (D.load sh0 blk).2]) ∧ Chg No w w' := by
  obtain ⟨F, hd, hk⟩ := h
  exact LoadB_ok sh0_ok hd hf.fit hsd.now blk
theorem Sy0.addRow (h : Sy0 K w b D) (hc : Chg No w w') {v : Value} (hv : ∀ k, v.ownBlock = some k → w.heap.size ≤ k ∧ k < w'.heap.size) : Sy0 (fun k => K k ∨ v.ownBlock = some k) w' b D := by
  obtain ⟨F, hd, hk⟩ := h
  refine ⟨F, hd.no' hc, fun k hkk => ?_⟩
  rcases hkk with hkk | hkk
  · exact ⟨(hk k hkk).1, Nat.lt_of_lt_of_le (hk k hkk).2 hc.size⟩
  · obtain ⟨h0, h1⟩ := hv k hkk
    exact ⟨fun hf => by have := hd.lt _ hf; omega, h1⟩
theorem Sy0.less (h : Sy0 K w b D) {K' : Nat → Prop} (hk : ∀ k, K' k → K k) : Sy0 K' w b D := by
  obtain ⟨F, hd, hs⟩ := h
  exact ⟨F, hd, fun k h => hs k (hk k h)⟩
theorem cut_sectors (D : Dk) (keep : List Int) : (D.cut keep).sectors = D.sectors := by
  unfold Dk.cut
  split <;> rfl
/-- All that a call has made is kept from then on. -/
theorem Sy.addAll (h : Sy K w b g D L) (hc : Chg No w w') : Sy (fun k => K k ∨ (w.heap.size ≤ k ∧ k < w'.heap.size)) w' b g D L := by
  obtain ⟨F, G, hd, hl, hdj, hk⟩ := h
  refine ⟨F, G, hd.no' hc, hl.no hc, hdj, fun k hkk => ?_⟩
  rcases hkk with hkk | hkk
  · exact ⟨(hk k hkk).1, (hk k hkk).2.1, Nat.lt_of_lt_of_le (hk k hkk).2.2 hc.size⟩
  · exact ⟨fun hf => by have := hd.lt _ hf; omega, fun hf => by have := hl.lt _ hf; omega, hkk.2⟩
theorem Keeps.more {w : World} {s : Nat} {ov : Value} {K K2 : Nat → Prop} (h : Keeps w s ov K) (hs : ∀ k, K k → K2 k) : Keeps w s ov K2 := ⟨fun k hk => hs k (h.old k hk), hs _ h.sh, fun k hk => hs k (h.own k hk)⟩
end
end Go.Proofs.YtmmnjecaedmleaaGreatDoor
