import Derived.Test.YtmmnjecaedmleaaGreatDoorM38
import Derived.Deep.Slices
import Derived.ChangeSlices
import Derived.ChangeArms
import Derived.WideShapes

/- What came in: structs, slices of whole numbers, slices of images. -/
namespace Go.Proofs.YtmmnjecaedmleaaGreatDoor
open Go.RowKit Go.ChangeShapes Go.WideShapes

noncomputable def fsOf (t : TypeId) : Array Field := match Tryz.prog.underlying t with
  | some (.struct fs) => fs
  | _ => #[]
/-- Field i of struct t: its type, and where it lies. -/
def FldAt (t i ft o : Nat) : Prop := ((fsOf t)[i]?.map fun f => (f.type, f.offset)) = some (ft, o)
theorem one_at {cs : List Value} {o : Nat} {v : Value} (h : (cs.drop o).take 1 = [v]) : cs[o]? = some v := by
  have e : ((cs.drop o).take 1)[0]? = some v := by rw [h]; rfl
  rw [List.getElem?_take_of_lt (by omega), List.getElem?_drop, Nat.add_zero] at e
  exact e
theorem add_lit (b off j : Nat) : (⟨b, off, none⟩ : Addr).add j = ⟨b, off + j, none⟩ := by unfold Addr.add; split <;> simp_all
theorem S_of (s : ByteArray) : Value.string s = S s.data.toList := by simp
theorem spot_ok {P : Program} {w : World} {r : Reach} {base : Nat} {t e : TypeId} {a : Addr} {len cap : Nat} (ht : P.underlying t = some (.slice e)) (h : Value.okWide P w r base t (.slice (some a) len cap)) : a.spot = none := by
  unfold Value.okWide at h
  rw [ht] at h
  simp only at h
  unfold Cell.okWide at h
  rw [ht] at h
  simp only at h
  unfold Cell.ok at h
  rw [ht] at h
  exact h.2.2.2.1
theorem wf_un {n : Int} (h : (Lit.int .u64 n).wf = true) : 0 ≤ n ∧ n < 18446744073709551616 := by
  unfold Lit.wf at h
  simp only [Bool.and_eq_true, decide_eq_true_eq] at h
  have h1 : (0 : Int) ≤ n := h.1
  have h2 : n ≤ (18446744073709551615 : Int) := h.2
  omega
section
variable {H : Type} {enc : TypeId × Value → H} {W : World} {base : Nat} {spare : Nat → Bool} {held : Bool}
section
variable {t fuel : Nat} {cs : List Value} {x : DataW H × List MemPlace}
theorem fld_of (he : Tryz.prog.underlying t = some (.struct (fsOf t))) (h : DataW.trod enc Tryz.prog W base spare held fuel t cs = some x) {i ft o : Nat} (hf : FldAt t i ft o) :
    ∃ n y, DataW.trod enc Tryz.prog W base spare held n ft ((cs.drop o).take (Tryz.prog.cellsOf ft)) = some y := by
  obtain ⟨xs, n, _, _, _, hlen, hat⟩ := DataW.trod_struct he h
  unfold FldAt at hf
  obtain ⟨f, hf1, hf2⟩ := Option.map_eq_some_iff.1 hf
  simp only [Prod.mk.injEq] at hf2
  have hi : i < xs.length := by rw [hlen]; exact (Array.getElem?_eq_some_iff.1 hf1).1
  have h1 := hat i f hf1
  rw [hf2.1, hf2.2, List.getElem?_eq_getElem hi] at h1
  exact ⟨n, _, h1⟩
theorem fld_int {k : IntKind} (he : Tryz.prog.underlying t = some (.struct (fsOf t))) (h : DataW.trod enc Tryz.prog W base spare held fuel t cs = some x) {i ft o : Nat} (hf : FldAt t i ft o) (hu : Tryz.prog.underlying ft = some (.int k)) (hc : Tryz.prog.cellsOf ft = 1) :
    ∃ z, cs[o]? = some (.int k z) ∧ (Lit.int k z).wf = true := by
  obtain ⟨n, y, h1⟩ := fld_of he h hf
  rw [hc] at h1
  obtain ⟨z, e, _, wf⟩ := DataW.trod_int hu h1
  exact ⟨z, one_at e, wf⟩
theorem fld_str (he : Tryz.prog.underlying t = some (.struct (fsOf t))) (h : DataW.trod enc Tryz.prog W base spare held fuel t cs = some x) {i ft o : Nat} (hf : FldAt t i ft o) (hu : Tryz.prog.underlying ft = some .string) (hc : Tryz.prog.cellsOf ft = 1) :
    ∃ d : Bytes, cs[o]? = some (S d) ∧ d.length ≤ 9223372036854775807 := by
  obtain ⟨n, y, h1⟩ := fld_of he h hf
  rw [hc] at h1
  obtain ⟨s, e, _, hs⟩ := DataW.trod_string hu h1
  refine ⟨s.data.toList, ?_, ?_⟩
  · rw [← S_of]; exact one_at e
  · unfold maxLen at hs
    simpa using hs
end
theorem und_imgs : Tryz.prog.underlying 54 = some (.slice 38) := by kernel_rfl
theorem und_ints : Tryz.prog.underlying 55 = some (.slice 3) := by kernel_rfl
theorem und_i : Tryz.prog.underlying 3 = some (.int .i64) := by kernel_rfl
theorem und_u : Tryz.prog.underlying 36 = some (.int .u64) := by kernel_rfl
theorem und_s : Tryz.prog.underlying 9 = some .string := by kernel_rfl
theorem one_i : Tryz.prog.cellsOf 3 = 1 := by kernel_rfl
theorem one_u : Tryz.prog.cellsOf 36 = 1 := by kernel_rfl
theorem one_s : Tryz.prog.cellsOf 9 = 1 := by kernel_rfl
theorem und_img : Tryz.prog.underlying 38 = some (.struct (fsOf 38)) := by kernel_rfl
theorem img_f0 : FldAt 38 0 3 0 := by unfold FldAt; kernel_rfl
theorem img_f1 : FldAt 38 1 36 1 := by unfold FldAt; kernel_rfl
theorem img_f2 : FldAt 38 2 9 2 := by unfold FldAt; kernel_rfl
theorem img_3 : Tryz.prog.cellsOf 38 = 3 := by kernel_rfl
/-- A slice of images that came in, whatever there is of its spare. -/
theorem imgs_open {fuel : Nat} {a : Option Addr} {len cap : Nat} {x : DataW H × List MemPlace} (hs : ∀ y, a = some y → y.spot = none) (h : DataW.trod enc Tryz.prog W base spare held fuel 54 [.slice a len cap] = some x) :
    ∃ l : List Img, l.length = len ∧ ImgsA W a l ∧ (∀ x ∈ l, x.version < 18446744073709551616) ∧ (∀ x ∈ l, x.data.length ≤ 9223372036854775807) ∧ len ≤ 9223372036854775807 := by
  rcases Go.Deep.open_slice und_imgs h with ⟨hcs, _⟩ | ⟨y, l', c', m, n, D, Pl, hcs, _, hl, hm, hmm, _, hi⟩
  · simp only [List.cons.injEq, Value.slice.injEq, and_true] at hcs
    obtain ⟨rfl, rfl, rfl⟩ := hcs
    exact ⟨[], rfl, fun j hj => absurd hj (by simp), by simp, by simp, by omega⟩
  · simp only [List.cons.injEq, Value.slice.injEq, and_true] at hcs
    obtain ⟨rfl, rfl, rfl⟩ := hcs
    have hsp := hs y rfl
    obtain ⟨b, off, sp⟩ := y
    subst hsp
    rw [img_3] at hi
    have hone : ∀ i, i < len → ∃ z : Img, (W.cell? ⟨b, off + i * 3, none⟩ = some (.int .i64 z.block) ∧ W.cell? ⟨b, off + i * 3 + 1, none⟩ = some (.int .u64 z.version) ∧ W.cell? ⟨b, off + i * 3 + 2, none⟩ = some (S z.data)) ∧ z.version < 18446744073709551616 ∧ z.data.length ≤ 9223372036854775807 := by
      intro i hil
      obtain ⟨cs', h1, h2⟩ := hi i (by rw [hmm]; split <;> omega)
      obtain ⟨_, _, hat⟩ := World.cells?_some h1
      obtain ⟨z0, e0, _⟩ := fld_int und_img h2 img_f0 und_i one_i
      obtain ⟨z1, e1, w1⟩ := fld_int und_img h2 img_f1 und_u one_u
      obtain ⟨z2, e2, l2⟩ := fld_str und_img h2 img_f2 und_s one_s
      have hw := wf_un w1
      have a0 := hat 0 (by omega)
      have a1 := hat 1 (by omega)
      have a2 := hat 2 (by omega)
      rw [add_lit, add_lit] at a0 a1 a2
      refine ⟨⟨z0, z1.toNat, z2⟩, ⟨by rw [← e0]; exact a0, ?_, by rw [← e2]; exact a2⟩, by show z1.toNat < _; omega, l2⟩
      show W.cell? _ = some (.int .u64 (z1.toNat : Int))
      rw [Int.toNat_of_nonneg hw.1, ← e1]
      exact a1
    have : Inhabited Img := ⟨⟨0, 0, []⟩⟩
    obtain ⟨f, hf⟩ := Go.Deep.choose_lt (α := Img) hone
    refine ⟨(List.range len).map f, by simp, fun j hj => ?_, fun x hx => ?_, fun x hx => ?_, ?_⟩
    · have hj' : j < len := by simpa using hj
      refine ⟨b, off, rfl, ?_⟩
      simp only [List.getElem_map, List.getElem_range]
      exact (hf j hj').1
    · obtain ⟨i, hi2, rfl⟩ := List.mem_map.1 hx
      exact (hf i (List.mem_range.1 hi2)).2.1
    · obtain ⟨i, hi2, rfl⟩ := List.mem_map.1 hx
      exact (hf i (List.mem_range.1 hi2)).2.2
    · unfold maxLen at hm
      omega
/-- A slice of whole numbers that came in. -/
theorem ints_open {fuel : Nat} {a : Option Addr} {len cap : Nat} {x : DataW H × List MemPlace} (hs : ∀ y, a = some y → y.spot = none) (h : DataW.trod enc Tryz.prog W base spare held fuel 55 [.slice a len cap] = some x) :
    ∃ l : List Int, l.length = len ∧ ReadsInts W (.slice a len cap) l := by
  rcases Go.Deep.open_slice und_ints h with ⟨hcs, _⟩ | ⟨y, l', c', m, n, D, Pl, hcs, _, hl, hm, hmm, _, hi⟩
  · simp only [List.cons.injEq, Value.slice.injEq, and_true] at hcs
    obtain ⟨rfl, rfl, rfl⟩ := hcs
    exact ⟨[], rfl, .inl ⟨rfl, rfl⟩⟩
  · simp only [List.cons.injEq, Value.slice.injEq, and_true] at hcs
    obtain ⟨rfl, rfl, rfl⟩ := hcs
    have hsp := hs y rfl
    obtain ⟨b, off, sp⟩ := y
    subst hsp
    rw [one_i] at hi
    have hone : ∀ i, i < len → ∃ z : Int, W.cell? ⟨b, off + i, none⟩ = some (.int .i64 z) := by
      intro i hil
      obtain ⟨cs', h1, h2⟩ := hi i (by rw [hmm]; split <;> omega)
      obtain ⟨_, _, hat⟩ := World.cells?_some h1
      obtain ⟨z, e, _⟩ := DataW.trod_int und_i h2
      have a0 := hat 0 (by omega)
      rw [add_lit, add_lit, e] at a0
      exact ⟨z, by simpa using a0⟩
    obtain ⟨f, hf⟩ := Go.Deep.choose_lt (α := Int) hone
    refine ⟨(List.range len).map f, by simp, .inr ⟨b, off, cap, by simp, fun j hj => ?_⟩⟩
    have hj' : j < len := by simpa using hj
    rw [hf j hj']
    simp [List.getD, hj']
end
end Go.Proofs.YtmmnjecaedmleaaGreatDoor

/- What came in: slices of steps of a log. -/
namespace Go.Proofs.YtmmnjecaedmleaaGreatDoor
open Go.RowKit Go.ChangeShapes Go.WideShapes

section
variable {H : Type} {enc : TypeId × Value → H} {W : World} {base : Nat} {spare : Nat → Bool} {held : Bool}
theorem fld_bool {t fuel : Nat} {cs : List Value} {x : DataW H × List MemPlace} (he : Tryz.prog.underlying t = some (.struct (fsOf t))) (h : DataW.trod enc Tryz.prog W base spare held fuel t cs = some x) {i ft o : Nat} (hf : FldAt t i ft o) (hu : Tryz.prog.underlying ft = some .bool) (hc : Tryz.prog.cellsOf ft = 1) :
    ∃ b, cs[o]? = some (.bool b) := by
  obtain ⟨n, y, h1⟩ := fld_of he h hf
  rw [hc] at h1
  obtain ⟨z, e, _⟩ := DataW.trod_bool hu h1
  exact ⟨z, one_at e⟩
/-- A slice of images that lies in a cell. -/
theorem imgs_in {fuel : Nat} {cs : List Value} {x : DataW H × List MemPlace} (h : DataW.trod enc Tryz.prog W base spare held fuel 54 cs = some x) :
    ∃ (a : Option Addr) (c : Nat) (l : List Img), cs = [.slice a l.length c] ∧ ImgsAt W (.slice a l.length c) l ∧ (∀ x ∈ l, x.version < 18446744073709551616) ∧ l.length ≤ 9223372036854775807 ∧ ∀ x ∈ l, x.data.length ≤ 9223372036854775807 := by
  rcases Go.Deep.open_slice und_imgs h with ⟨hcs, _⟩ | ⟨y, len, cap, m, n, D, Pl, hcs, _, hl, hm, hmm, _, hi⟩
  · exact ⟨none, 0, [], hcs, .inl ⟨none, 0, rfl, rfl⟩, by simp, by simp, by simp⟩
  · by_cases h0 : len = 0
    · subst h0
      exact ⟨some y, cap, [], hcs, .inl ⟨_, _, rfl, rfl⟩, by simp, by simp, by simp⟩
    · have hsp : y.spot = none := by
        obtain ⟨cs', h1, h2⟩ := hi 0 (by rw [hmm]; split <;> omega)
        rw [img_3] at h1
        obtain ⟨_, _, hat⟩ := World.cells?_some h1
        obtain ⟨z0, e0, _⟩ := fld_int und_img h2 img_f0 und_i one_i
        have a0 := hat 0 (by omega)
        rw [e0, Nat.zero_mul] at a0
        have := World.cell?_spot a0
        simpa [Addr.add] using this
      have hcs2 : cs = [.slice (some y) len cap] := hcs
      subst hcs2
      obtain ⟨l, hl1, hl2, hl3, hl4, hl5⟩ := imgs_open (fun z e => by simp only [Option.some.injEq] at e; rw [← e]; exact hsp) h
      subst hl1
      obtain ⟨b, off, sp⟩ := y
      simp only at hsp
      subst hsp
      refine ⟨_, cap, l, rfl, .inr ⟨b, off, cap, rfl, fun j hj => ?_⟩, hl3, hl5, hl4⟩
      obtain ⟨b', off', e, c0, c1, c2⟩ := hl2 j hj
      simp only [Option.some.injEq, Addr.mk.injEq, and_true] at e
      obtain ⟨rfl, rfl⟩ := e
      exact ⟨c0, c1, c2⟩
theorem und_dop : Tryz.prog.underlying 93 = some (.struct (fsOf 93)) := by kernel_rfl
theorem und_lop : Tryz.prog.underlying 95 = some (.struct (fsOf 95)) := by kernel_rfl
theorem und_lops : Tryz.prog.underlying 90 = some (.slice 95) := by kernel_rfl
theorem und_b : Tryz.prog.underlying 4 = some .bool := by kernel_rfl
theorem one_b : Tryz.prog.cellsOf 4 = 1 := by kernel_rfl
theorem one_imgs : Tryz.prog.cellsOf 54 = 1 := by kernel_rfl
theorem one_ints : Tryz.prog.cellsOf 55 = 1 := by kernel_rfl
theorem dop_8 : Tryz.prog.cellsOf 93 = 8 := by kernel_rfl
theorem lop_12 : Tryz.prog.cellsOf 95 = 12 := by kernel_rfl
theorem dop_f0 : FldAt 93 0 3 0 := by unfold FldAt; kernel_rfl
theorem dop_f1 : FldAt 93 1 3 1 := by unfold FldAt; kernel_rfl
theorem dop_f2 : FldAt 93 2 3 2 := by unfold FldAt; kernel_rfl
theorem dop_f3 : FldAt 93 3 3 3 := by unfold FldAt; kernel_rfl
theorem dop_f4 : FldAt 93 4 36 4 := by unfold FldAt; kernel_rfl
theorem dop_f5 : FldAt 93 5 9 5 := by unfold FldAt; kernel_rfl
theorem dop_f6 : FldAt 93 6 55 6 := by unfold FldAt; kernel_rfl
theorem dop_f7 : FldAt 93 7 4 7 := by unfold FldAt; kernel_rfl
theorem lop_f0 : FldAt 95 0 3 0 := by unfold FldAt; kernel_rfl
theorem lop_f1 : FldAt 95 1 3 1 := by unfold FldAt; kernel_rfl
theorem lop_f2 : FldAt 95 2 36 2 := by unfold FldAt; kernel_rfl
theorem lop_f3 : FldAt 95 3 54 3 := by unfold FldAt; kernel_rfl
theorem lop_f4 : FldAt 95 4 93 4 := by unfold FldAt; kernel_rfl
/-- A slice of whole numbers that lies in a cell: its length. -/
theorem ints_in {fuel : Nat} {cs : List Value} {x : DataW H × List MemPlace} (h : DataW.trod enc Tryz.prog W base spare held fuel 55 cs = some x) : ∃ (a : Option Addr) (c : Nat) (l : List Int), cs = [.slice a l.length c] := by
  rcases Go.Deep.open_slice und_ints h with ⟨hcs, _⟩ | ⟨y, len, cap, m, n, D, Pl, hcs, _⟩
  · exact ⟨none, 0, [], hcs⟩
  · exact ⟨some y, cap, List.replicate len 0, by rw [hcs]; simp⟩
theorem dop_in {fuel : Nat} {cs : List Value} {x : DataW H × List MemPlace} (h : DataW.trod enc Tryz.prog W base spare held fuel 93 cs = some x) :
    ∃ d : DOp, ∀ (i : Nat) (u : Value), (DOp.cells d)[i]? = some u → cs[i]? = some u := by
  obtain ⟨k, e0, _⟩ := fld_int und_dop h dop_f0 und_i one_i
  obtain ⟨nd, e1, _⟩ := fld_int und_dop h dop_f1 und_i one_i
  obtain ⟨at_, e2, _⟩ := fld_int und_dop h dop_f2 und_i one_i
  obtain ⟨n, e3, _⟩ := fld_int und_dop h dop_f3 und_i one_i
  obtain ⟨ep, e4, w4⟩ := fld_int und_dop h dop_f4 und_u one_u
  obtain ⟨dt, e5, _⟩ := fld_str und_dop h dop_f5 und_s one_s
  obtain ⟨_, _, h6⟩ := fld_of und_dop h dop_f6
  rw [one_ints] at h6
  obtain ⟨ka, kc, kp, h6⟩ := ints_in h6
  have e6 := one_at h6
  obtain ⟨ow, e7⟩ := fld_bool und_dop h dop_f7 und_b one_b
  have hw := (wf_un w4).1
  refine ⟨⟨k, nd, at_, n, ep.toNat, dt, ka, kc, kp, ow⟩, fun i u hu => ?_⟩
  have hi : i < 8 := (List.getElem?_eq_some_iff.1 hu).1
  unfold DOp.cells at hu
  match i, hi with
  | 0, _ => simpa [e0] using hu
  | 1, _ => simpa [e1] using hu
  | 2, _ => simpa [e2] using hu
  | 3, _ => simpa [e3] using hu
  | 4, _ => simpa [e4, Int.toNat_of_nonneg hw] using hu
  | 5, _ => simpa [e5] using hu
  | 6, _ => simpa [e6] using hu
  | 7, _ => simpa [e7] using hu
/-- A slice of steps that came in. -/
theorem ops_open {fuel : Nat} {a : Option Addr} {len cap : Nat} {x : DataW H × List MemPlace} (hs : ∀ y, a = some y → y.spot = none) (h : DataW.trod enc Tryz.prog W base spare held fuel 90 [.slice a len cap] = some x) :
    ∃ l : List LOp, l.length = len ∧ OpsA W a l := by
  rcases Go.Deep.open_slice und_lops h with ⟨hcs, _⟩ | ⟨y, l', c', m, n, D, Pl, hcs, _, hl, hm, hmm, _, hi⟩
  · simp only [List.cons.injEq, Value.slice.injEq, and_true] at hcs
    obtain ⟨rfl, rfl, rfl⟩ := hcs
    exact ⟨[], rfl, ⟨fun j hj => absurd hj (by simp), by simp, by simp, by simp, by simp⟩⟩
  · simp only [List.cons.injEq, Value.slice.injEq, and_true] at hcs
    obtain ⟨rfl, rfl, rfl⟩ := hcs
    have hsp := hs y rfl
    obtain ⟨b, off, sp⟩ := y
    subst hsp
    rw [lop_12] at hi
    have hone : ∀ i, i < len → ∃ o : LOp, (∀ j u, (LOp.cells o)[j]? = some u → W.cell? ⟨b, off + i * 12 + j, none⟩ = some u) ∧ ImgsAt W (.slice o.la o.l.length o.lc) o.l ∧ (∀ x ∈ o.l, x.version < 18446744073709551616) ∧ (o.l.length ≤ 9223372036854775807 ∧ ∀ x ∈ o.l, x.data.length ≤ 9223372036854775807) ∧ o.v < 18446744073709551616 := by
      intro i hil
      obtain ⟨cs', h1, h2⟩ := hi i (by rw [hmm]; split <;> omega)
      obtain ⟨_, hlen, hat⟩ := World.cells?_some h1
      obtain ⟨k, e0, _⟩ := fld_int und_lop h2 lop_f0 und_i one_i
      obtain ⟨n1, e1, _⟩ := fld_int und_lop h2 lop_f1 und_i one_i
      obtain ⟨v, e2, w2⟩ := fld_int und_lop h2 lop_f2 und_u one_u
      obtain ⟨_, _, h3⟩ := fld_of und_lop h2 lop_f3
      rw [one_imgs] at h3
      obtain ⟨la, lc, l, h3, him, hver, hll, hdl⟩ := imgs_in h3
      have e3 := one_at h3
      obtain ⟨_, _, h4⟩ := fld_of und_lop h2 lop_f4
      rw [dop_8] at h4
      obtain ⟨d, hd⟩ := dop_in h4
      have hw := wf_un w2
      refine ⟨⟨k, n1, v.toNat, la, lc, l, d⟩, fun j u hu => ?_, him, hver, ⟨hll, hdl⟩, by show v.toNat < _; omega⟩
      have hj : j < 12 := (List.getElem?_eq_some_iff.1 hu).1
      have hcell : W.cell? ⟨b, off + i * 12 + j, none⟩ = cs'[j]? := by
        have := hat j hj
        rw [add_lit, add_lit] at this
        exact this
      rw [hcell]
      unfold LOp.cells at hu
      by_cases h4j : j < 4
      · rw [List.getElem?_append_left (by exact h4j)] at hu
        match j, h4j with
        | 0, _ => simpa [e0] using hu
        | 1, _ => simpa [e1] using hu
        | 2, _ => simpa [e2, Int.toNat_of_nonneg hw.1] using hu
        | 3, _ => simpa [e3] using hu
      · rw [List.getElem?_append_right (by show 4 ≤ j; omega)] at hu
        have hdd := hd _ _ hu
        rw [List.getElem?_take_of_lt (by show j - 4 < 8; omega), List.getElem?_drop] at hdd
        rw [← hdd]
        congr 1
        show j = 4 + (j - 4)
        omega
    have : Inhabited LOp := ⟨⟨0, 0, 0, none, 0, [], ⟨0, 0, 0, 0, 0, [], none, 0, [], false⟩⟩⟩
    obtain ⟨f, hf⟩ := Go.Deep.choose_lt (α := LOp) hone
    have hmem : ∀ o ∈ (List.range len).map f, ∃ i, i < len ∧ f i = o := fun o ho => by
      obtain ⟨i, hi2, e⟩ := List.mem_map.1 ho
      exact ⟨i, List.mem_range.1 hi2, e⟩
    refine ⟨(List.range len).map f, by simp, ⟨fun j hj => ?_, fun o ho => ?_, fun o ho => ?_, fun o ho => ?_, fun o ho => ?_⟩⟩
    · have hj' : j < len := by simpa using hj
      refine ⟨b, off, rfl, ?_⟩
      simp only [List.getElem_map, List.getElem_range]
      exact (hf j hj').1
    · obtain ⟨i, hi2, rfl⟩ := hmem o ho
      exact (hf i hi2).2.1
    · obtain ⟨i, hi2, rfl⟩ := hmem o ho
      exact (hf i hi2).2.2.1
    · obtain ⟨i, hi2, rfl⟩ := hmem o ho
      exact (hf i hi2).2.2.2.1
    · obtain ⟨i, hi2, rfl⟩ := hmem o ho
      exact (hf i hi2).2.2.2.2
end
/-- A slice that came in lies in a block that there is. -/
theorem blk_ok {P : Program} {w : World} {r : Reach} {base : Nat} {t e : TypeId} {a : Option Addr} {len cap : Nat} (ht : P.underlying t = some (.slice e)) (h : Value.okWide P w r base t (.slice a len cap)) : ∀ k, (Value.slice a len cap).ownBlock = some k → k < w.heap.size := by
  intro k hk
  cases a with
  | none => simp [Value.ownBlock] at hk
  | some a =>
    simp only [Value.ownBlock, Option.some.injEq] at hk
    unfold Value.okWide at h
    rw [ht] at h
    simp only at h
    unfold Cell.okWide at h
    rw [ht] at h
    simp only at h
    unfold Cell.ok at h
    rw [ht] at h
    obtain ⟨_, _, _, _, row, cells, hsh, _⟩ := h
    unfold World.shape? at hsh
    subst hk
    split at hsh
    · exact (Array.getElem?_eq_some_iff.1 ‹_›).1
    · simp at hsh
end Go.Proofs.YtmmnjecaedmleaaGreatDoor
