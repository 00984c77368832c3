import Derived.WalkKit
import Derived.Lib.Hide
import Derived.Deep.QuietTactic
import Derived.BigQuiet
import Derived.Deep.AppendLies
import Derived.Deep.RegionHeld3
import Derived.Maps.OwnSet
import Derived.BigRegion

/- The words of this proof on memory: what of the heap a call may change (Chg), a footprint that grows with what is new, blocks that are known whole, maps with whole numbers as keys. No program is named here. -/
namespace Go.Proofs.YtmmnjecaedmleaaGreatDoor
open Go.RowKit

/-- No block. -/
def No : Nat → Prop := fun _ => False

/-- Blocks that were there and lie outside of F are as they were. -/
structure Chg (F : Nat → Prop) (w w' : World) : Prop where
  os : w'.os = w.os
  tape : w'.tape = w.tape
  output : w'.output = w.output
  size : w.heap.size ≤ w'.heap.size
  block : ∀ k, k < w.heap.size → ¬ F k → w'.heap[k]? = w.heap[k]?

/-- F, and what is new. -/
def grow (F : Nat → Prop) (w w' : World) : Nat → Prop := fun k => F k ∨ (w.heap.size ≤ k ∧ k < w'.heap.size)

theorem Chg.refl (F : Nat → Prop) (w : World) : Chg F w w := ⟨rfl, rfl, rfl, Nat.le_refl _, fun _ _ _ => rfl⟩
theorem Chg.mono {F G : Nat → Prop} {w w' : World} (h : Chg F w w') (hs : ∀ k, F k → G k) : Chg G w w' :=
  ⟨h.os, h.tape, h.output, h.size, fun k hk hn => h.block k hk (fun hf => hn (hs k hf))⟩
theorem Chg.of_no {F : Nat → Prop} {w w' : World} (h : Chg No w w') : Chg F w w' := h.mono (fun _ h => h.elim)
theorem Chg.trans {F G : Nat → Prop} {a b c : World} (h : Chg F a b) (k : Chg G b c) (hs : ∀ x, G x → F x ∨ a.heap.size ≤ x) : Chg F a c :=
  ⟨k.os.trans h.os, k.tape.trans h.tape, k.output.trans h.output, Nat.le_trans h.size k.size, fun x hx hn =>
    (k.block x (Nat.lt_of_lt_of_le hx h.size) (fun hg => (hs x hg).elim hn (fun hle => by omega))).trans (h.block x hx hn)⟩
theorem Chg.trans_same {F : Nat → Prop} {a b c : World} (h : Chg F a b) (k : Chg F b c) : Chg F a c := h.trans k (fun _ h => .inl h)
theorem Chg.trans_no {F : Nat → Prop} {a b c : World} (h : Chg F a b) (k : Chg No b c) : Chg F a c := h.trans k (fun _ h => h.elim)
theorem Chg.trans_grow {F : Nat → Prop} {a b c : World} (h : Chg F a b) (k : Chg (grow F a b) b c) : Chg F a c :=
  h.trans k (fun _ h => h.imp id (·.1))
theorem Chg.drew {F : Nat → Prop} {a w : World} (h : Chg F a w) : Chg F a w.drew := ⟨h.os, h.tape, h.output, h.size, h.block⟩
theorem Chg.drewN {F : Nat → Prop} {a w : World} (h : Chg F a w) (n : Nat) : Chg F a (w.drewN n) := ⟨h.os, h.tape, h.output, h.size, h.block⟩
theorem Chg.alloc {F : Nat → Prop} {a w : World} (h : Chg F a w) (o : Obj) : Chg F a (w.alloc o) :=
  h.trans_no ⟨rfl, rfl, rfl, by simp, fun k hk _ => Below.heap_alloc _ _ _ hk⟩
theorem Chg.setCell {F : Nat → Prop} {a w : World} (h : Chg F a w) {p : Addr} (hp : F p.block ∨ a.heap.size ≤ p.block) (u : Value) : Chg F a (w.setCell p u) :=
  h.trans (G := fun k => k = p.block) ⟨rfl, rfl, rfl, by simp [World.setCell], fun k _ hn => Below.heap_setCell _ _ _ _ hn⟩ (fun x hx => by subst hx; exact hp)
theorem Chg.grown {F : Nat → Prop} {a w w' : World} {row : Option Nat} (h : Chg F a w) (hg : w.grownBy w' row) (hr : ∀ k, row = some k → F k ∨ a.heap.size ≤ k) : Chg F a w' :=
  h.trans (G := fun k => row = some k) ⟨hg.os, hg.tape, hg.output, hg.size, fun k hk hn => hg.block k hk (fun e => hn e.symm)⟩ (fun x hx => hr x hx)
theorem Chg.below {F : Nat → Prop} {a w w' : World} {B : Nat} (h : Chg F a w) (hg : Below B w w') (hB : a.heap.size ≤ B) : Chg F a w' :=
  ⟨hg.os.trans h.os, hg.tape.trans h.tape, hg.output.trans h.output, Nat.le_trans h.size hg.size, fun k hk hn => (hg.block k (by omega)).trans (h.block k hk hn)⟩
theorem Chg.toBelow {w w' : World} (h : Chg No w w') : Below w.heap.size w w' := ⟨h.os, h.tape, h.output, h.size, fun k hk => h.block k hk id⟩
theorem Chg.cell {F : Nat → Prop} {w w' : World} (h : Chg F w w') {p : Addr} {v : Value} (hp : w.cell? p = some v) (hn : ¬ F p.block) : w'.cell? p = some v :=
  (World.cell?_of_block (h.block p.block (World.block_lt_of_cell? w p hp) hn)).trans hp
theorem Chg.obj {F : Nat → Prop} {w w' : World} (h : Chg F w w') {k : Nat} {o : Obj} (hp : w.heap[k]? = some o) (hn : ¬ F k) : w'.heap[k]? = some o :=
  (h.block k (Array.getElem?_eq_some_iff.1 hp).1 hn).trans hp
theorem Chg.row {F : Nat → Prop} {w w' : World} (h : Chg F w w') {base e size n : Nat} {v : Value} {xs : List Value} (ho : w.ownsRow base e size v n xs) (hn : ∀ k, v.ownBlock = some k → ¬ F k) : w'.ownsRow base e size v n xs := by
  refine ⟨ho.1, ?_⟩
  rcases ho.2 with hx | ⟨g, cap, cur, rfl, hb, hg, rest⟩
  · exact .inl hx
  · exact .inr ⟨g, cap, cur, rfl, hb, h.obj hg (hn g rfl), rest⟩

theorem grow_sub {F : Nat → Prop} {w w' : World} : ∀ k, F k → grow F w w' k := fun _ h => .inl h
theorem grow_grow {F : Nat → Prop} {a b c : World} (h1 : a.heap.size ≤ b.heap.size) (h2 : b.heap.size ≤ c.heap.size) : ∀ k, grow (grow F a b) b c k → grow F a c k := by
  intro k h
  rcases h with (h | h) | h
  · exact .inl h
  · exact .inr ⟨h.1, by omega⟩
  · exact .inr ⟨by omega, h.2⟩
theorem grow_lt {F : Nat → Prop} {w w' : World} (hF : ∀ k, F k → k < w.heap.size) (h : w.heap.size ≤ w'.heap.size) : ∀ k, grow F w w' k → k < w'.heap.size := by
  intro k hk
  rcases hk with hk | hk
  · have := hF k hk; omega
  · exact hk.2

/-- A block known whole: its cells. -/
theorem cell_of_blk {w : World} {b : Nat} {A : Array Value} {T : TypeId} {fr : Nat × Nat} (h : w.heap[b]? = some (.cells A T fr)) (o : Nat) {v : Value} (hv : A[o]? = some v) : w.cell? ⟨b, o, none⟩ = some v := by
  simp [World.cell?, h, hv]
theorem free_of_blk {w : World} {b : Nat} {A : Array Value} {T : TypeId} (h : w.heap[b]? = some (.cells A T (0, 0))) (o : Nat) : w.frozen? ⟨b, o, none⟩ = false := by
  simp [World.frozen?, h]
theorem blk_set {w : World} {b : Nat} {A : Array Value} {T : TypeId} {fr : Nat × Nat} (h : w.heap[b]? = some (.cells A T fr)) (o : Nat) (v : Value) : (w.setCell ⟨b, o, none⟩ v).heap[b]? = some (.cells (A.setIfInBounds o v) T fr) := by
  simp [World.setCell, Array.getElem?_modify, h]
theorem blk_set_ne {w : World} {b k : Nat} {o : Nat} {v : Value} {x : Option Obj} (h : w.heap[k]? = x) (hne : k ≠ b) : (w.setCell ⟨b, o, none⟩ v).heap[k]? = x := by
  rw [Below.heap_setCell _ _ _ _ hne]; exact h
theorem blk_alloc {w : World} {k : Nat} {x : Obj} (o : Obj) (h : w.heap[k]? = some x) : (w.alloc o).heap[k]? = some x := by
  rw [Below.heap_alloc _ _ _ (Array.getElem?_eq_some_iff.1 h).1]; exact h
theorem blk_new (w : World) (o : Obj) : (w.alloc o).heap[w.heap.size]? = some o := heap_alloc_new w o
theorem blk_lt {w : World} {k : Nat} {x : Obj} (h : w.heap[k]? = some x) : k < w.heap.size := (Array.getElem?_eq_some_iff.1 h).1

theorem row_set_ne {w : World} {base e size n : Nat} {sv : Value} {xs : List Value} (h : w.ownsRow base e size sv n xs) {b o : Nat} (v : Value) (hne : sv.ownBlock ≠ some b) : (w.setCell ⟨b, o, none⟩ v).ownsRow base e size sv n xs := by
  refine ⟨h.1, ?_⟩
  rcases h.2 with hx | ⟨g, cap, cur, rfl, hb, hg, rest⟩
  · exact .inl hx
  · exact .inr ⟨g, cap, cur, rfl, hb, blk_set_ne hg (fun e => hne (by rw [← e]; rfl)), rest⟩
theorem row_lt {w : World} {base e size n : Nat} {sv : Value} {xs : List Value} (h : w.ownsRow base e size sv n xs) {k : Nat} (hk : sv.ownBlock = some k) : k < w.heap.size := (h.lt k hk).2

/-- A slice type t of elements e: the zero element, its cells, its bytes. -/
def Elem (P : Program) (t e : TypeId) (z : Value) (size bytes : Nat) : Prop :=
  P.underlying t = some (.slice e) ∧ ∃ i, P.info? e = some i ∧ i.zero = some z ∧ i.size = size ∧ i.bytes = bytes ∧ z.cells.size = size ∧ 0 < size
theorem Elem.mk' {P : Program} {t e : TypeId} {z : Value} {size bytes : Nat} (hu : P.underlying t = some (.slice e)) (hi : (P.info? e).map (fun i => (i.zero, i.size, i.bytes)) = some (some z, size, bytes)) (hz : z.cells.size = size) (h0 : 0 < size) : Elem P t e z size bytes := by
  obtain ⟨i0, hi, hz0, hz1, hz2⟩ := info_parts hi
  exact ⟨hu, i0, hi, hz0, hz1, hz2, hz, h0⟩

theorem wpL_app {P : Program} {ops : Array Oper} {rest : List Oper} {o : Oper} {a : Act} {Q : Exit → Act → World → Prop} {w : World} {t e : TypeId} {z : Value} {size bytes : Nat}
    (E : Elem P t e z size bytes) (s x : Operand) (hgd : o.guard = none) (ho : o.op = .call { callee := .builtin .append, args := #[s, x], argTypes := #[t, t] })
    (base : Nat) (v : Value) (n : Nat) (xs : List Value) (hs : a.eval s = v) (hown : w.ownsRow base e size v n xs)
    (B m c : Nat) (cs : List Value) (e' : TypeId) (fr : Nat × Nat) (hx : a.eval x = .slice (some ⟨B, 0, none⟩) m c) (hB : w.heap[B]? = some (.cells cs.toArray e' fr)) (hl : cs.length = m * size) (h1 : ∀ u ∈ cs, u.oneCell' = true)
    (hm : 0 < m) (hn : (n + m) * bytes ≤ 140737488355328) (hb : 0 < bytes) (hbase : base ≤ w.heap.size)
    (h : ∀ g cap w', w'.ownsRow base e size (.slice (some ⟨g, 0, none⟩) (n + m) cap) (n + m) (xs ++ cs) → w.grownBy w' v.ownBlock → (v.ownBlock = some g ∨ g = w.heap.size) → g < w'.heap.size → wpList P ops Q rest (a.put o.dst (.slice (some ⟨g, 0, none⟩) (n + m) cap)) w') :
    wpList P ops Q (o :: rest) a w := by
  obtain ⟨hu, i, hi, hz0, hz1, hz2, hzs, h0⟩ := E
  have h63 : n + m ≤ maxLen := by
    have := Nat.le_mul_of_pos_right (n + m) hb
    unfold maxLen; omega
  exact wpList_append_lies w hgd s x t ho base e i z size bytes hu hi hz0 hz1 hz2 hzs h0 v n xs hs hown ⟨B, 0, none⟩ m c cs hx hl (fun j u hu => World.news_of_block hB j u (by simpa using hu)) h1 hm h63 hn hbase _ rfl h

theorem cells3 {w : World} {b : Nat} {x y z : Value} {T : TypeId} (h : w.heap[b]? = some (.cells #[x, y, z] T (0, 0))) :
    w.cell? ⟨b, 0, none⟩ = some x ∧ w.cell? ⟨b, 1, none⟩ = some y ∧ w.cell? ⟨b, 2, none⟩ = some z ∧ w.frozen? ⟨b, 0, none⟩ = false ∧ w.frozen? ⟨b, 1, none⟩ = false ∧ w.frozen? ⟨b, 2, none⟩ = false :=
  ⟨cell_of_blk h 0 rfl, cell_of_blk h 1 rfl, cell_of_blk h 2 rfl, free_of_blk h 0, free_of_blk h 1, free_of_blk h 2⟩
theorem Chg.set3 {F : Nat → Prop} {a w : World} (h : Chg F a w) {b : Nat} (hp : F b ∨ a.heap.size ≤ b) (x y z : Value) : Chg F a (((w.setCell ⟨b, 0, none⟩ x).setCell ⟨b, 1, none⟩ y).setCell ⟨b, 2, none⟩ z) :=
  ((h.setCell (p := ⟨b, 0, none⟩) hp _).setCell (p := ⟨b, 1, none⟩) hp _).setCell (p := ⟨b, 2, none⟩) hp _

/-- The walk is held here: 'refine Halt1.hold ?_' in an arm, 'refine Halt1.go ?_' behind it. -/
def Halt1 (p : Prop) : Prop := p
theorem Halt1.hold {p : Prop} (h : Halt1 p) : p := h
theorem Halt1.go {p : Prop} (h : p) : Halt1 p := h

/-- Text out of bytes. -/
abbrev Bytes := List UInt8
abbrev S (l : Bytes) : Value := .string ⟨l.toArray⟩
theorem string_S (s : ByteArray) : Value.string s = S s.data.toList := by simp [S]

@[simp, go_sem] theorem ba_extract (l : Bytes) (a b : Nat) : (⟨l.toArray⟩ : ByteArray).extract a b = ⟨((l.drop a).take (b - a)).toArray⟩ := ByteArray.extract_mk l a b
@[simp, go_sem] theorem ba_append (l m : Bytes) : (⟨l.toArray⟩ : ByteArray) ++ ⟨m.toArray⟩ = ⟨(l ++ m).toArray⟩ := by
  have h : ∀ a b : ByteArray, (a ++ b).data = a.data ++ b.data := fun a b => by simp
  exact ByteArray.ext (by rw [h]; simp)
@[simp, go_sem] theorem take_drop_all (l : Bytes) (n : Nat) : (l.drop n).take (l.length - n) = l.drop n := List.take_of_length_le (by simp)

theorem conv_bytes {P : Program} (w : World) (src dst e : TypeId) (l : Bytes) (hs : P.underlying src = some .string) (hd : P.underlying dst = some (.slice e)) (he : P.underlying e = some (.int .u8)) :
    ∃ cap A fr, (convert src dst (S l)).run P w = .ok (.slice (some ⟨w.heap.size, 0, none⟩) l.length cap) (w.alloc (.cells A e fr)).drew ∧ ∀ j (h : j < l.length), A[j]? = some (.int .u8 l[j].toNat) := by
  refine ⟨_, _, _, (run_bytes_of_string w src dst e ⟨l.toArray⟩ hs hd he), fun j h => ?_⟩
  simp only [bytesRow]
  rw [Array.getElem?_append_left (by simpa using h)]
  simp [h]
end Go.Proofs.YtmmnjecaedmleaaGreatDoor

/- Blocks known cell by cell; maps with whole numbers (int) as keys: what a look-up and a store of an entry do. No program is named here. -/
namespace Go.Proofs.YtmmnjecaedmleaaGreatDoor
open Go.RowKit

/-- A block of n cells, the i-th of which holds f i. -/
def BlkF (w : World) (b : Nat) (T : TypeId) (n : Nat) (f : Nat → Value) : Prop := ∃ A, w.heap[b]? = some (.cells A T (0, 0)) ∧ A.size = n ∧ ∀ i, i < n → A[i]? = some (f i)
theorem BlkF.cell {w : World} {b T n : Nat} {f : Nat → Value} (h : BlkF w b T n f) (k : Nat) (hk : k < n) : w.cell? ⟨b, k, none⟩ = some (f k) := by
  obtain ⟨A, hA, _, hf⟩ := h
  exact cell_of_blk hA k (hf k hk)
theorem BlkF.free {w : World} {b T n : Nat} {f : Nat → Value} (h : BlkF w b T n f) (k : Nat) : w.frozen? ⟨b, k, none⟩ = false := by
  obtain ⟨A, hA, _, _⟩ := h
  exact free_of_blk hA k
theorem BlkF.lt {w : World} {b T n : Nat} {f : Nat → Value} (h : BlkF w b T n f) : b < w.heap.size := by
  obtain ⟨A, hA, _, _⟩ := h
  exact blk_lt hA
theorem BlkF.congr {w : World} {b T n : Nat} {f g : Nat → Value} (h : BlkF w b T n f) (hg : ∀ i, i < n → f i = g i) : BlkF w b T n g := by
  obtain ⟨A, hA, hn, hf⟩ := h
  exact ⟨A, hA, hn, fun i hi => by rw [hf i hi, hg i hi]⟩
theorem BlkF.set {w : World} {b T n : Nat} {f : Nat → Value} (h : BlkF w b T n f) (k : Nat) (v : Value) : BlkF (w.setCell ⟨b, k, none⟩ v) b T n (fun i => if i = k then v else f i) := by
  obtain ⟨A, hA, hn, hf⟩ := h
  refine ⟨_, blk_set hA k v, by simpa using hn, fun i hi => ?_⟩
  rw [Array.getElem?_setIfInBounds]
  by_cases e : k = i
  · subst e; simp; omega
  · rw [if_neg e, hf i hi]; simp [Ne.symm e]
theorem BlkF.of {w w' : World} {b T n : Nat} {f : Nat → Value} (h : BlkF w b T n f) (he : w'.heap[b]? = w.heap[b]?) : BlkF w' b T n f := by
  obtain ⟨A, hA, hn, hf⟩ := h
  exact ⟨A, he.trans hA, hn, hf⟩
theorem BlkF.chg {F : Nat → Prop} {w w' : World} {b T n : Nat} {f : Nat → Value} (h : BlkF w b T n f) (hc : Chg F w w') (hn : ¬ F b) : BlkF w' b T n f := h.of (hc.block b h.lt hn)

/-- Another map in a block. -/
def setMap (w : World) (r : Nat) (es : Array MapEntry) (clock : Nat) : World := { w with heap := w.heap.setIfInBounds r (.map es clock) }
theorem setMap_same {w : World} {r : Nat} {es : Array MapEntry} {clock : Nat} (h : r < w.heap.size) : (setMap w r es clock).heap[r]? = some (.map es clock) := by simp [setMap, h]
theorem setMap_ne {w : World} {r k : Nat} {es : Array MapEntry} {clock : Nat} (h : k ≠ r) : (setMap w r es clock).heap[k]? = w.heap[k]? := by
  simp only [setMap]; rw [Array.getElem?_setIfInBounds_ne (fun e => h e.symm)]
@[simp] theorem setMap_size (w : World) (r : Nat) (es : Array MapEntry) (clock : Nat) : (setMap w r es clock).heap.size = w.heap.size := by simp [setMap]
theorem Chg.setMap {F : Nat → Prop} {a w : World} (h : Chg F a w) {r : Nat} (hp : F r ∨ a.heap.size ≤ r) (es : Array MapEntry) (clock : Nat) : Chg F a (setMap w r es clock) :=
  h.trans (G := fun k => k = r) ⟨rfl, rfl, rfl, by simp, fun k _ hn => setMap_ne hn⟩ (fun x hx => by subst hx; exact hp)

def keyI : Value → Int
  | .int _ n => n
  | _ => 0
def lookI : List MapEntry → Int → Option Value
  | [], _ => none
  | e :: es, k => if keyI e.key = k then some e.val else lookI es k
structure MapOk (es : Array MapEntry) (clock : Nat) (f : Int → Option Value) : Prop where
  keys : ∀ e ∈ es.toList, e.key = .int .i64 (keyI e.key)
  find : ∀ k, lookI es.toList k = f k
  nodup : (es.toList.map (fun e => keyI e.key)).Nodup
  borns : (es.toList.map (·.born)).Nodup
  young : ∀ e ∈ es.toList, e.born < clock
/-- A map in a block, read as a function. -/
def MapAt (w : World) (r : Nat) (f : Int → Option Value) : Prop := ∃ es clock, w.heap[r]? = some (.map es clock) ∧ MapOk es clock f
theorem MapAt.lt {w : World} {r : Nat} {f : Int → Option Value} (h : MapAt w r f) : r < w.heap.size := by
  obtain ⟨es, c, h, _⟩ := h
  exact blk_lt h
theorem MapAt.of {w w' : World} {r : Nat} {f : Int → Option Value} (h : MapAt w r f) (he : w'.heap[r]? = w.heap[r]?) : MapAt w' r f := by
  obtain ⟨es, c, h, k⟩ := h
  exact ⟨es, c, he.trans h, k⟩
theorem MapAt.chg {F : Nat → Prop} {w w' : World} {r : Nat} {f : Int → Option Value} (h : MapAt w r f) (hc : Chg F w w') (hn : ¬ F r) : MapAt w' r f := h.of (hc.block r h.lt hn)
theorem MapAt.congr {w : World} {r : Nat} {f g : Int → Option Value} (h : MapAt w r f) (hg : ∀ k, f k = g k) : MapAt w r g := by
  obtain ⟨es, c, h, k⟩ := h
  exact ⟨es, c, h, ⟨k.keys, fun x => (k.find x).trans (hg x), k.nodup, k.borns, k.young⟩⟩
theorem row_of {w w' : World} {base e size n : Nat} {v : Value} {xs : List Value} (h : w.ownsRow base e size v n xs) (he : ∀ k, v.ownBlock = some k → w'.heap[k]? = w.heap[k]?) : w'.ownsRow base e size v n xs := by
  refine ⟨h.1, ?_⟩
  rcases h.2 with hx | ⟨g, cap, cur, rfl, hb, hg, rest⟩
  · exact .inl hx
  · exact .inr ⟨g, cap, cur, rfl, hb, (he g rfl).trans hg, rest⟩
theorem row_cell {w : World} {base e size n : Nat} {v : Value} {xs : List Value} (h : w.ownsRow base e size v n xs) {g : Nat} (hg : v.ownBlock = some g) {j : Nat} {u : Value} (hu : xs[j]? = some u) : w.cell? ⟨g, j, none⟩ = some u := by
  have := h.cells hg j u hu
  unfold Addr.add at this
  split at this
  · rename_i h0; subst h0; exact this
  · simpa using this
theorem MapAt.fresh (w : World) : MapAt (w.alloc (.map #[] 0)) w.heap.size (fun _ => none) :=
  ⟨#[], 0, blk_new w _, ⟨by simp, fun _ => rfl, by simp, by simp, by simp⟩⟩

theorem setMap_cell {w : World} {r : Nat} {f : Int → Option Value} (h : MapAt w r f) (es : Array MapEntry) (clock : Nat) (a : Addr) : (setMap w r es clock).cell? a = w.cell? a := by
  obtain ⟨e0, c0, hh, _⟩ := h
  by_cases e : a.block = r
  · simp only [World.cell?]
    rw [e, setMap_same (blk_lt hh), hh]
  · exact World.cell?_of_block (setMap_ne e)
theorem setMap_frozen {w : World} {r : Nat} {f : Int → Option Value} (h : MapAt w r f) (es : Array MapEntry) (clock : Nat) (a : Addr) : (setMap w r es clock).frozen? a = w.frozen? a := by
  obtain ⟨e0, c0, hh, _⟩ := h
  by_cases e : a.block = r
  · simp only [World.frozen?]
    rw [e, setMap_same (blk_lt hh), hh]
  · exact World.frozen?_of_block (setMap_ne e)
theorem MapAt.new {w : World} {r : Nat} {f g : Int → Option Value} (h : MapAt w r f) {es : Array MapEntry} {clock : Nat} (hok : MapOk es clock g) : MapAt (setMap w r es clock) r g :=
  ⟨es, clock, setMap_same h.lt, hok⟩
def upd {α : Type} (f : Int → Option α) (k : Int) (v : α) : Int → Option α := fun j => if j = k then some v else f j

section
variable {P : Program} {K E T : TypeId}

theorem getObj_map' {w : World} {r : Nat} {es : Array MapEntry} {clock : Nat} (hh : w.heap[r]? = some (.map es clock)) : (getObj r).run P w = .ok (.map es clock) w := by simp [getObj, Sem.run, hh]
/-- The place of a key. -/
def idxI : List MapEntry → Int → Nat → Option (Nat × Value)
  | [], _, _ => none
  | e :: es, k, i => if keyI e.key = k then some (i, e.val) else idxI es k (i + 1)
theorem findNow_i (k : Int) : ∀ (es : List MapEntry) (i : Nat), (∀ e ∈ es, e.key = .int .i64 (keyI e.key)) → Instr.findNow (.int .i64) (.int .i64 k) es i = some (idxI es k i)
  | [], _, _ => rfl
  | e :: es, i, h => by
    have he := h e (by simp)
    rw [Instr.findNow, he]
    by_cases hk : keyI e.key = k
    · simp [Instr.sameNow, idxI, hk]
    · simp only [Instr.sameNow, if_true, idxI, if_neg hk]
      rw [show (k == keyI e.key) = false by simp; exact fun h => hk h.symm]
      exact findNow_i k es (i + 1) (fun e' h' => h e' (by simp [h']))
theorem idxI_look (k : Int) : ∀ (es : List MapEntry) (i : Nat), (idxI es k i).map (·.2) = lookI es k
  | [], _ => rfl
  | e :: es, i => by
    rw [idxI, lookI]
    split
    · rfl
    · exact idxI_look k es (i + 1)
theorem idxI_some {k : Int} : ∀ {es : List MapEntry} {i j : Nat} {v : Value}, idxI es k i = some (j, v) → i ≤ j ∧ ∃ e, es[j - i]? = some e ∧ keyI e.key = k ∧ e.val = v
  | [], _, _, _, h => by simp [idxI] at h
  | e :: es, i, j, v, h => by
    rw [idxI] at h
    split at h
    · simp only [Option.some.injEq, Prod.mk.injEq] at h
      obtain ⟨rfl, rfl⟩ := h
      exact ⟨Nat.le_refl _, e, by simp, ‹_›, rfl⟩
    · obtain ⟨hl, e', h1, h2, h3⟩ := idxI_some h
      refine ⟨by omega, e', ?_, h2, h3⟩
      rw [show j - i = (j - (i + 1)) + 1 by omega]
      simpa using h1
theorem idxI_none {k : Int} : ∀ {es : List MapEntry} {i : Nat}, idxI es k i = none → ∀ e ∈ es, keyI e.key ≠ k
  | [], _, _, e, he => by simp at he
  | e :: es, i, h, e', he => by
    rw [idxI] at h
    split at h
    · simp at h
    · rcases List.mem_cons.1 he with rfl | he
      · exact ‹_›
      · exact idxI_none h e' he

theorem run_findKey_i (hK : P.underlying K = some (.int .i64)) {es : List MapEntry} (h : ∀ e ∈ es, e.key = .int .i64 (keyI e.key)) (k : Int) (w : World) :
    (Instr.findKey K (.int .i64 k) es).run P w = .ok (idxI es k 0) w := by
  unfold Instr.findKey
  simp only [Sem.run_bind, run_underlying hK, Result.andThen, findNow_i k es 0 h, Sem.run_pure]

theorem run_checkKey_i (hK : P.underlying K = some (.int .i64)) (b : Bool) (k : Int) (w : World) : (Instr.checkKey b 10000 K (.int .i64 k)).run P w = .ok () w := by
  unfold Instr.checkKey
  simp only [Sem.run_bind, run_underlying hK, Result.andThen, Sem.run_pure]

theorem run_lookup_i (hT : P.underlying T = some (.map K E)) (hK : P.underlying K = some (.int .i64)) {z : Value} (hz : ∀ w, (zeroValue E).run P w = .ok z w)
    {w : World} {r : Nat} {f : Int → Option Value} (h : MapAt w r f) (k : Int) :
    (Instr.lookup T (.map (some r)) (.int .i64 k) true).run P w = .ok (.tuple #[(f k).getD z, .bool (f k).isSome]) w ∧
    (Instr.lookup T (.map (some r)) (.int .i64 k) false).run P w = .ok ((f k).getD z) w := by
  obtain ⟨es, clock, hh, hok⟩ := h
  have hl := idxI_look k es.toList 0
  rw [hok.find] at hl
  constructor
  all_goals
    unfold Instr.lookup
    simp only [Sem.run_bind, run_underlying hT, Result.andThen, getObj_map' hh, Sem.run_pure, run_checkKey_i hK, run_findKey_i hK hok.keys]
    cases hi : idxI es.toList k 0 with
    | none => rw [hi] at hl; simp at hl; simp [← hl, hz, Sem.run_bind, Result.andThen, Sem.run_pure]
    | some p => obtain ⟨j, v⟩ := p; rw [hi] at hl; simp at hl; simp [← hl, Sem.run_bind, Result.andThen, Sem.run_pure]

theorem lookI_push (es : List MapEntry) (e : MapEntry) (k : Int) : lookI (es ++ [e]) k = (lookI es k).or (if keyI e.key = k then some e.val else none) := by
  induction es with
  | nil => simp [lookI]
  | cons a es ih =>
    rw [List.cons_append, lookI, lookI]
    split
    · rfl
    · exact ih
theorem lookI_none {es : List MapEntry} {k : Int} (h : ∀ e ∈ es, keyI e.key ≠ k) : lookI es k = none := by
  induction es with
  | nil => rfl
  | cons a es ih =>
    rw [lookI, if_neg (h a (by simp))]
    exact ih (fun e he => h e (by simp [he]))
theorem lookI_modify {es : List MapEntry} {j : Nat} {k : Int} {g : MapEntry → MapEntry} {v : Value} (hn : (es.map (fun e => keyI e.key)).Nodup) (hj : ∃ e, es[j]? = some e ∧ keyI e.key = k) (hk : ∀ e, keyI e.key = k → keyI (g e).key = k ∧ (g e).val = v) (x : Int) :
    lookI (es.modify j g) x = if x = k then some v else lookI es x := by
  induction es generalizing j with
  | nil => obtain ⟨e, h, _⟩ := hj; simp at h
  | cons a es ih =>
    obtain ⟨e, he, hek⟩ := hj
    rw [List.map_cons, List.nodup_cons] at hn
    cases j with
    | zero =>
      simp only [List.getElem?_cons_zero, Option.some.injEq] at he
      subst he
      obtain ⟨h1, h2⟩ := hk a hek
      simp only [List.modify_zero_cons, lookI, h1, h2, hek]
      by_cases hx : x = k
      · simp [hx]
      · rw [if_neg (fun h => hx h.symm), if_neg hx]
        rw [if_neg (fun h => hx h.symm)]
    | succ j =>
      simp only [List.getElem?_cons_succ] at he
      simp only [List.modify_succ_cons, lookI]
      have hne : keyI a.key ≠ k := fun h => hn.1 (by rw [h, ← hek]; exact List.mem_map.2 ⟨e, List.mem_of_getElem? he, rfl⟩)
      by_cases hx : keyI a.key = x
      · rw [if_pos hx, if_pos hx, if_neg (fun h => hne (hx.trans h))]
      · rw [if_neg hx, if_neg hx]
        exact ih hn.2 ⟨e, he, hek⟩

theorem run_mapUpdate_i (hT : P.underlying T = some (.map K E)) (hK : P.underlying K = some (.int .i64))
    {w : World} {r : Nat} {f : Int → Option Value} (h : MapAt w r f) (k : Int) (v : Value) :
    ∃ es clock, (Instr.mapUpdate T (.map (some r)) (.int .i64 k) v).run P w = .ok () (setMap w r es clock) ∧ MapOk es clock (upd f k v) := by
  obtain ⟨es, clock, hh, hok⟩ := h
  cases hi : idxI es.toList k 0 with
  | none =>
    refine ⟨es.push { key := .int .i64 k, val := v, born := clock }, clock + 1, ?_, ?_⟩
    · unfold Instr.mapUpdate
      simp only [Sem.run_bind, run_underlying hT, Result.andThen, getObj_map' hh, run_checkKey_i hK, run_findKey_i hK hok.keys, hi]
      simp [setObj, Sem.run, hh, setMap]
    · have hn := idxI_none hi
      refine ⟨?_, ?_, ?_, ?_, ?_⟩
      · intro e he
        simp only [Array.toList_push, List.mem_append, List.mem_singleton] at he
        rcases he with he | rfl
        · exact hok.keys e he
        · rfl
      · intro x
        rw [Array.toList_push, lookI_push, hok.find, upd]
        have hf : f k = none := by rw [← hok.find]; exact lookI_none hn
        by_cases hx : x = k
        · subst hx; simp [hf, keyI]
        · rw [if_neg hx]
          have hkx : ¬ k = x := fun h => hx h.symm
          cases f x <;> simp [keyI, hkx]
      · rw [Array.toList_push, List.map_append, List.nodup_append]
        refine ⟨hok.nodup, by simp, ?_⟩
        intro a ha b hb
        simp only [List.map_cons, List.map_nil, List.mem_singleton, keyI] at hb
        subst hb
        obtain ⟨e, he, rfl⟩ := List.mem_map.1 ha
        exact hn e he
      · rw [Array.toList_push, List.map_append, List.nodup_append]
        refine ⟨hok.borns, by simp, ?_⟩
        intro a ha b hb
        simp only [List.map_cons, List.map_nil, List.mem_singleton] at hb
        subst hb
        obtain ⟨e, he, rfl⟩ := List.mem_map.1 ha
        exact Nat.ne_of_lt (hok.young e he)
      · intro e he
        simp only [Array.toList_push, List.mem_append, List.mem_singleton] at he
        rcases he with he | rfl
        · have := hok.young e he; omega
        · simp
  | some p =>
    obtain ⟨j, u⟩ := p
    obtain ⟨_, e0, he0, hek, _⟩ := idxI_some hi
    simp only [Nat.sub_zero] at he0
    refine ⟨es.modify j fun e => { e with key := .int .i64 k, val := v }, clock, ?_, ?_⟩
    · unfold Instr.mapUpdate
      simp only [Sem.run_bind, run_underlying hT, Result.andThen, getObj_map' hh, run_checkKey_i hK, run_findKey_i hK hok.keys, hi]
      have hkey : e0.key = .int .i64 k := by rw [hok.keys e0 (List.mem_of_getElem? he0), hek]
      have hg : ((es[j]?).map (·.key)).getD (.int .i64 k) = .int .i64 k := by
        rw [← Array.getElem?_toList, he0]; simp [hkey]
      rw [hg]
      simp [Instr.keyThatStays, Instr.sameBits, setObj, Sem.run, hh, setMap]
    · have hl : (es.modify j fun e => { e with key := .int .i64 k, val := v }).toList = es.toList.modify j fun e => { e with key := .int .i64 k, val := v } := by simp
      have hmem : ∀ e ∈ es.toList.modify j (fun e => { e with key := .int .i64 k, val := v }), (e ∈ es.toList ∨ (e.key = .int .i64 k ∧ e.born = e0.born)) := by
        intro e he
        obtain ⟨m, hm⟩ := List.mem_iff_getElem?.1 he
        rw [List.getElem?_modify] at hm
        by_cases hjm : j = m
        · subst hjm
          simp [he0] at hm
          subst hm
          exact .inr ⟨rfl, rfl⟩
        · simp only [if_neg hjm] at hm
          cases hx : es.toList[m]? with
          | none => simp [hx] at hm
          | some y => simp [hx] at hm; subst hm; exact .inl (List.mem_of_getElem? hx)
      have hmap : ∀ {α : Type} (g : MapEntry → α), g { e0 with key := .int .i64 k, val := v } = g e0 → (es.toList.modify j (fun e => { e with key := .int .i64 k, val := v })).map g = es.toList.map g := by
        intro α g hg
        apply List.ext_getElem?
        intro m
        rw [List.getElem?_map, List.getElem?_map, List.getElem?_modify]
        by_cases hjm : j = m
        · subst hjm; simp [he0, hg]
        · cases es.toList[m]? <;> simp [hjm]
      refine ⟨?_, ?_, ?_, ?_, ?_⟩
      · intro e he
        rw [hl] at he
        rcases hmem e he with h | h
        · exact hok.keys e h
        · rw [h.1]; rfl
      · intro x
        rw [hl, lookI_modify hok.nodup ⟨e0, he0, hek⟩ (v := v) (fun e _ => ⟨rfl, rfl⟩), hok.find]; rfl
      · rw [hl, hmap (fun e => keyI e.key) hek.symm]; exact hok.nodup
      · rw [hl, hmap (·.born) rfl]; exact hok.borns
      · intro e he
        rw [hl] at he
        rcases hmem e he with h | h
        · exact hok.young e h
        · rw [h.2]; exact hok.young e0 (List.mem_of_getElem? he0)
end
end Go.Proofs.YtmmnjecaedmleaaGreatDoor

/- Going through a map with whole numbers as keys, in whatever order the tape says. No program is named here. -/
namespace Go.Proofs.YtmmnjecaedmleaaGreatDoor
open Go.RowKit

theorem filter_lt {α : Type} {p q : α → Bool} (l : List α) (hpq : ∀ x, q x = true → p x = true) : ∀ {e : α}, e ∈ l → p e = true → q e = false → (l.filter q).length < (l.filter p).length := by
  have le : ∀ l : List α, (l.filter q).length ≤ (l.filter p).length := by
    intro l
    induction l with
    | nil => simp
    | cons a l ih =>
      rw [List.filter_cons, List.filter_cons]
      by_cases hq : q a = true
      · rw [if_pos hq, if_pos (hpq a hq)]; simp; exact ih
      · rw [if_neg hq]
        split
        · simp; omega
        · exact ih
  induction l with
  | nil => intro e he; simp at he
  | cons a l ih =>
    intro e he hp hq
    rw [List.filter_cons, List.filter_cons]
    rcases List.mem_cons.1 he with rfl | he
    · rw [if_neg (by rw [hq]; decide), if_pos hp]
      have := le l
      simp; omega
    · have := ih he hp hq
      by_cases hq2 : q a = true
      · rw [if_pos hq2, if_pos (hpq a hq2)]; simp; exact this
      · rw [if_neg hq2]
        split
        · simp; omega
        · exact this

/-- Another iterator in a block. -/
def setIter (w : World) (it : Nat) (m : Nat) (clock : Nat) (seen : Array Nat) : World := { w with heap := w.heap.setIfInBounds it (.mapIter (some m) clock seen clock) }
theorem setIter_same {w : World} {it m clock : Nat} {seen : Array Nat} (h : it < w.heap.size) : (setIter w it m clock seen).heap[it]? = some (.mapIter (some m) clock seen clock) := by simp [setIter, h]
theorem setIter_ne {w : World} {it k m clock : Nat} {seen : Array Nat} (h : k ≠ it) : (setIter w it m clock seen).heap[k]? = w.heap[k]? := by
  simp only [setIter]; rw [Array.getElem?_setIfInBounds_ne (fun e => h e.symm)]
@[simp] theorem setIter_size (w : World) (it m clock : Nat) (seen : Array Nat) : (setIter w it m clock seen).heap.size = w.heap.size := by simp [setIter]
theorem Chg.setIter {F : Nat → Prop} {a w : World} (h : Chg F a w) {it : Nat} (hp : F it ∨ a.heap.size ≤ it) (m clock : Nat) (seen : Array Nat) : Chg F a (setIter w it m clock seen) :=
  h.trans (G := fun k => k = it) ⟨rfl, rfl, rfl, by simp, fun k _ hn => setIter_ne hn⟩ (fun x hx => by subst hx; exact hp)
theorem setIter_cell {w : World} {it m m' clock clock' : Nat} {seen seen' : Array Nat} (h : w.heap[it]? = some (.mapIter (some m') clock' seen' clock')) (a : Addr) : (setIter w it m clock seen).cell? a = w.cell? a := by
  by_cases e : a.block = it
  · simp only [World.cell?]
    rw [e, setIter_same (blk_lt h), h]
  · exact World.cell?_of_block (setIter_ne e)
theorem setIter_frozen {w : World} {it m m' clock clock' : Nat} {seen seen' : Array Nat} (h : w.heap[it]? = some (.mapIter (some m') clock' seen' clock')) (a : Addr) : (setIter w it m clock seen).frozen? a = w.frozen? a := by
  by_cases e : a.block = it
  · simp only [World.frozen?]
    rw [e, setIter_same (blk_lt h), h]
  · exact World.frozen?_of_block (setIter_ne e)

/-- How many entries are still to come. -/
def iterLeft (w : World) (it m : Nat) : Nat :=
  match w.heap[it]?, w.heap[m]? with
  | some (.mapIter _ _ seen _), some (.map es _) => (es.toList.filter (fun e => !seen.contains e.born)).length
  | _, _ => 0

section
variable {P : Program} {w : World} {it m clock : Nat} {es : Array MapEntry} {seen : Array Nat} {f : Int → Option Value}

theorem run_range_i {T K E : TypeId} (hT : P.underlying T = some (.map K E)) (hm : w.heap[m]? = some (.map es clock)) :
    (Instr.range T (.map (some m))).run P w = .ok (.pointer (some ⟨w.heap.size, 0, none⟩)) (w.alloc (.mapIter (some m) clock #[] clock)) := by
  unfold Instr.range
  simp only [Sem.run_bind, run_underlying hT, Result.andThen, getObj_map' hm, Sem.run_pure]
  rfl

theorem getObj_iter (h : w.heap[it]? = some (.mapIter (some m) clock seen clock)) : (getObj it).run P w = .ok (.mapIter (some m) clock seen clock) w := by simp [getObj, Sem.run, h]

theorem filter_old (hok : MapOk es clock f) : (es.filter fun e => !seen.contains e.born).filter (fun e => decide (e.born < clock)) = es.filter fun e => !seen.contains e.born := by
  apply Array.ext'
  simp only [Array.toList_filter]
  rw [List.filter_eq_self]
  intro e he
  simpa using hok.young e ((List.mem_filter.1 he).1)
theorem filter_new (hok : MapOk es clock f) : (es.filter fun e => !seen.contains e.born).filter (fun e => decide (e.born ≥ clock)) = #[] := by
  apply Array.ext'
  simp only [Array.toList_filter]
  rw [List.filter_eq_nil_iff]
  intro e he
  have := hok.young e ((List.mem_filter.1 he).1)
  simp; omega
theorem not_all (hok : MapOk es clock f) : (!seen.isEmpty && !es.isEmpty && es.all (fun e => decide (e.born ≥ clock))) = false := by
  by_cases h : es.isEmpty
  · simp [h]
  · rw [Bool.and_eq_false_iff]
    right
    rw [← Bool.not_eq_true]
    intro ha
    have h0 : 0 < es.size := by rw [Array.isEmpty_iff_size_eq_zero] at h; omega
    have h1 := Array.all_eq_true.1 ha 0 h0
    have h2 := hok.young es[0] (by simp)
    simp at h1; omega

theorem run_next_end (h : w.heap[it]? = some (.mapIter (some m) clock seen clock)) (hm : w.heap[m]? = some (.map es clock)) (hok : MapOk es clock f) (hl : iterLeft w it m = 0) (t : TypeId) :
    (Instr.next (.pointer (some ⟨it, 0, none⟩)) false t).run P w = .ok (.tuple #[.bool false]) w := by
  have he : (es.filter fun e => !seen.contains e.born) = #[] := by
    apply Array.ext'
    simp only [iterLeft, h, hm] at hl
    simpa using List.eq_nil_of_length_eq_zero hl
  unfold Instr.next
  simp only [Sem.run_bind, getObj_iter h, Result.andThen, getObj_map' hm, not_all hok, filter_old hok, filter_new hok]
  simp only [he]
  simp [choose, Sem.run, Question.forced]

theorem run_next_more (h : w.heap[it]? = some (.mapIter (some m) clock seen clock)) (hm : w.heap[m]? = some (.map es clock)) (hok : MapOk es clock f) (hl : iterLeft w it m ≠ 0) (t : TypeId) :
    ∃ e n, e ∈ es.toList ∧ seen.contains e.born = false ∧
      (Instr.next (.pointer (some ⟨it, 0, none⟩)) false t).run P w = .ok (.tuple #[.bool true, e.key, e.val]) (setIter (w.drewN n) it m clock (seen.push e.born)) := by
  obtain ⟨L, hL⟩ : ∃ L, L = es.filter fun e => !seen.contains e.born := ⟨_, rfl⟩
  have hLn : L.size ≠ 0 := by
    simp only [iterLeft, h, hm] at hl
    rw [hL, ← Array.length_toList, Array.toList_filter]; exact hl
  have hmem : ∀ e ∈ L, e ∈ es.toList ∧ seen.contains e.born = false := by
    intro e he
    rw [hL] at he
    have := Array.mem_filter.1 he
    exact ⟨by simpa using this.1, by simpa using this.2⟩
  have key : ∀ (k n : Nat) (hk : k < L.size), (if L.size ≤ 1 then (k = 0 ∧ n = 0) else (k = w.tape w.drawn (.mapNext L.size) % L.size ∧ n = 1)) →
      (Instr.next (.pointer (some ⟨it, 0, none⟩)) false t).run P w = .ok (.tuple #[.bool true, L[k].key, L[k].val]) (setIter (w.drewN n) it m clock (seen.push L[k].born)) := by
    intro k n hk hkn
    unfold Instr.next
    simp only [Sem.run_bind, getObj_iter h, Result.andThen, getObj_map' hm, not_all hok, filter_old hok, filter_new hok]
    simp only [← hL]
    have hne : L.isEmpty = false := by rw [← Bool.not_eq_true, Array.isEmpty_iff_size_eq_zero]; exact hLn
    simp only [hne, Bool.false_eq_true, if_false, Array.empty_append, Array.append_empty]
    by_cases hs : L.size ≤ 1
    · rw [if_pos hs] at hkn
      obtain ⟨rfl, rfl⟩ := hkn
      have h0 : (L.map some)[0]? = some (some L[0]) := by simp [hk]
      have hfo : (Question.mapNext L.size).forced = true := by simp [Question.forced, hs]
      rw [Array.getElem?_map] at h0
      simp [choose, hfo, h0, setObj, Sem.run, h, setIter, World.drewN]
    · rw [if_neg hs] at hkn
      obtain ⟨rfl, rfl⟩ := hkn
      have h0 : (L.map some)[w.tape w.drawn (.mapNext L.size) % L.size]? = some (some L[w.tape w.drawn (.mapNext L.size) % L.size]) := by
        rw [Array.getElem?_map]; simp [hk]
      have hfo : (Question.mapNext L.size).forced = false := by simp [Question.forced]; omega
      have hcu : (Question.mapNext L.size).cut (w.tape w.drawn (Question.mapNext L.size)) = w.tape w.drawn (Question.mapNext L.size) % L.size := rfl
      rw [Array.getElem?_map] at h0
      have h' : w.drew.heap[it]? = some (.mapIter (some m) clock seen clock) := h
      simp [choose, hfo, hcu, h0, setObj, Sem.run, h', setIter, World.drewN, Result.andThen]
  by_cases hs : L.size ≤ 1
  · have hk : 0 < L.size := by omega
    exact ⟨L[0], 0, (hmem _ (by simp)).1, (hmem _ (by simp)).2, key 0 0 hk (by rw [if_pos hs]; exact ⟨rfl, rfl⟩)⟩
  · have hk : w.tape w.drawn (.mapNext L.size) % L.size < L.size := by
      have := Nat.mod_lt (w.tape w.drawn (.mapNext L.size)) (show 0 < L.size by omega)
      simpa using this
    exact ⟨_, 1, (hmem _ (Array.getElem_mem hk)).1, (hmem _ (Array.getElem_mem hk)).2, key _ 1 hk (by rw [if_neg hs]; exact ⟨rfl, rfl⟩)⟩

theorem run_entry_i {e : MapEntry} (h : w.heap[it]? = some (.mapIter (some m) clock (seen.push e.born) clock)) (hm : w.heap[m]? = some (.map es clock)) (hok : MapOk es clock f) (he : e ∈ es.toList) :
    (Instr.entry (.pointer (some ⟨it, 0, none⟩))).run P w = .ok (.tuple #[e.key, e.val]) w := by
  have hf : es.find? (fun x => x.born == e.born) = some e := by
    have : es.toList.find? (fun x => x.born == e.born) = some e := by
      have hb := hok.borns
      revert he hb
      generalize es.toList = l
      intro he hb
      induction l with
      | nil => simp at he
      | cons a l ih =>
        rw [List.map_cons, List.nodup_cons] at hb
        rw [List.find?_cons]
        rcases List.mem_cons.1 he with rfl | he
        · simp
        · have : (a.born == e.born) = false := by
            simp only [beq_eq_false_iff_ne]
            intro h
            exact hb.1 (by rw [h]; exact List.mem_map.2 ⟨e, he, rfl⟩)
          rw [this]
          exact ih he hb.2
    rw [← Array.find?_toList]; exact this
  unfold Instr.entry
  simp only [Sem.run_bind, getObj_iter h, Result.andThen, getObj_map' hm]
  simp [hf, Sem.run, getObj_map' hm, Result.andThen]
end
end Go.Proofs.YtmmnjecaedmleaaGreatDoor

/- A small law on choices. -/
namespace Go.Proofs.YtmmnjecaedmleaaGreatDoor
open Go
theorem ite_skip {c a b : Prop} [Decidable c] (hc : ¬ c) (hb : b) : if c then a else b := by rw [if_neg hc]; exact hb
end Go.Proofs.YtmmnjecaedmleaaGreatDoor
