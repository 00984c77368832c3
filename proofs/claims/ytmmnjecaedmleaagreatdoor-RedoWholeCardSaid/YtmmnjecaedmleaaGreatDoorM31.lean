import Derived.Test.YtmmnjecaedmleaaGreatDoorM30

/- Plain laws: what lasts, what waits, what stays when the power goes. -/
namespace Go.Proofs.YtmmnjecaedmleaaGreatDoor
open Go.RowKit

/-- What is read where the writes ws wait over what lasts. -/
def overW (L : Int → Option Wr) (ws : List Wr) : Int → Option Wr := ws.foldl (fun L x => upd L x.at_ x) L
/-- All that waits is of one node, in the order of its numbers, above what lasts; what is read is what was written last. -/
structure Coh (D : Dk) (node : Int) : Prop where
  node : ∀ x ∈ D.waits, x.node = node
  sorted : D.waits.Pairwise (fun x y => x.seq < y.seq)
  above : ∀ k l, D.lasts k = some l → ∀ x ∈ D.waits, l.seq < x.seq
  low : ∀ x ∈ D.waits, x.seq ≤ D.seq
  lowL : ∀ k l, D.lasts k = some l → l.seq ≤ D.seq
  pos : ∀ x ∈ D.waits, 0 < x.seq
  now : ∀ k, D.now k = (overW D.lasts D.waits k).map (·.data)
theorem overW_snoc (L : Int → Option Wr) (ws : List Wr) (x : Wr) : overW L (ws ++ [x]) = upd (overW L ws) x.at_ x := by
  unfold overW
  rw [List.foldl_append]
  rfl
theorem overW_mem (L : Int → Option Wr) (ws : List Wr) (k : Int) : overW L ws k = L k ∨ ∃ x ∈ ws, x.at_ = k ∧ overW L ws k = some x := by
  induction ws generalizing L with
  | nil => exact .inl rfl
  | cons a ws ih =>
    show overW (upd L a.at_ a) ws k = L k ∨ _
    rcases ih (upd L a.at_ a) with h | ⟨x, hx, h1, h2⟩
    · by_cases hk : k = a.at_
      · refine .inr ⟨a, by simp, hk.symm, ?_⟩
        show overW (upd L a.at_ a) ws k = some a
        rw [h, upd, if_pos hk]
      · left
        rw [h, upd, if_neg hk]
    · exact .inr ⟨x, by simp [hx], h1, h2⟩
theorem cutL_mem (keep : List Int) : ∀ (ws : List Wr) (L : Int → Option Wr) (j : Nat) (k : Int), cutL keep L j ws k = L k ∨ ∃ x ∈ ws, x.at_ = k ∧ cutL keep L j ws k = some x
  | [], L, j, k => .inl rfl
  | a :: ws, L, j, k => by
    rw [cutL]
    have hstep : ∀ k, (if oddI (keep.getD j 0) then keepW L a else L) k = L k ∨ a.at_ = k ∧ (if oddI (keep.getD j 0) then keepW L a else L) k = some a := by
      intro k
      by_cases ho : oddI (keep.getD j 0) = true
      · rw [if_pos ho]
        unfold keepW
        split
        · by_cases hk : k = a.at_
          · right
            exact ⟨hk.symm, by rw [upd, if_pos hk]⟩
          · left
            rw [upd, if_neg hk]
        · exact .inl rfl
      · rw [if_neg ho]
        exact .inl rfl
    rcases cutL_mem keep ws (if oddI (keep.getD j 0) then keepW L a else L) (j + 1) k with h | ⟨x, hx, h1, h2⟩
    · rcases hstep k with h' | ⟨h1, h2⟩
      · exact .inl (h.trans h')
      · exact .inr ⟨a, by simp, h1, h.trans h2⟩
    · exact .inr ⟨x, by simp [hx], h1, h2⟩
theorem keepW_over {L : Int → Option Wr} {x : Wr} (h : ∀ l, L x.at_ = some l → l.seq < x.seq) (hp : 0 < x.seq) : keepW L x = upd L x.at_ x := by
  unfold keepW
  rw [if_pos]
  cases hl : L x.at_ with
  | none => simpa using hp
  | some l => simpa using h l hl
theorem settle_all : ∀ (ws : List Wr) (L : Int → Option Wr) (node : Int), (∀ x ∈ ws, x.node = node) → ws.Pairwise (fun x y => x.seq < y.seq) → (∀ k l, L k = some l → ∀ x ∈ ws, l.seq < x.seq) → (∀ x ∈ ws, 0 < x.seq) → settleL L node ws = overW L ws
  | [], L, node, _, _, _, _ => rfl
  | a :: ws, L, node, hn, hs, hl, hp => by
    obtain ⟨h1, h2⟩ := List.pairwise_cons.1 hs
    have ha : (if a.node = node then keepW L a else L) = upd L a.at_ a := by
      rw [if_pos (hn a (by simp)), keepW_over (fun l hL => hl _ l hL a (by simp)) (hp a (by simp))]
    show settleL (if a.node = node then keepW L a else L) node ws = overW (upd L a.at_ a) ws
    rw [ha]
    refine settle_all ws _ node (fun x hx => hn x (by simp [hx])) h2 (fun k l hL x hx => ?_) (fun x hx => hp x (by simp [hx]))
    unfold upd at hL
    split at hL
    · simp only [Option.some.injEq] at hL
      subst hL
      exact h1 x hx
    · exact hl k l hL x (by simp [hx])
theorem Coh.settle {D : Dk} {node : Int} (h : Coh D node) : (∀ k, (D.settle node).lasts k = overW D.lasts D.waits k) ∧ (D.settle node).waits = [] ∧ ∀ n, Coh (D.settle node) n := by
  have h1 : (D.settle node).lasts = overW D.lasts D.waits := settle_all _ _ _ h.node h.sorted h.above h.pos
  have h2 : (D.settle node).waits = [] := by
    show settleW node D.waits = []
    unfold settleW
    rw [List.filter_eq_nil_iff]
    intro x hx
    simp [h.node x hx]
  refine ⟨fun k => by rw [h1], h2, fun n => ⟨by rw [h2]; simp, by rw [h2]; exact List.Pairwise.nil, by rw [h2]; simp, by rw [h2]; simp, ?_, by rw [h2]; simp, ?_⟩⟩
  · intro k l hl
    rw [h1] at hl
    rcases overW_mem D.lasts D.waits k with e | ⟨x, hx, _, e⟩
    · rw [e] at hl
      exact h.lowL k l hl
    · rw [e] at hl
      simp only [Option.some.injEq] at hl
      subst hl
      exact h.low x hx
  · intro k
    rw [h2, h1]
    exact h.now k
theorem Coh.wr1 {D : Dk} {node : Int} (h : Coh D node) (at_ : Int) (data : Bytes) (i : Nat) : Coh (D.wr1 node at_ data i) node := by
  have hm : ∀ x ∈ (D.wr1 node at_ data i).waits, x ∈ D.waits ∨ x = ⟨node, at_ + i, D.seq + 1, secAt data i⟩ := by
    intro x hx
    have hx' : x ∈ D.waits ++ [⟨node, at_ + i, D.seq + 1, secAt data i⟩] := hx
    simpa using hx'
  refine ⟨fun x hx => ?_, ?_, fun k l hl x hx => ?_, fun x hx => ?_, fun k l hl => ?_, fun x hx => ?_, fun k => ?_⟩
  · rcases hm x hx with h1 | rfl
    · exact h.node x h1
    · rfl
  · show (D.waits ++ [(⟨node, at_ + i, D.seq + 1, secAt data i⟩ : Wr)]).Pairwise _
    rw [List.pairwise_append]
    refine ⟨h.sorted, by simp, fun x hx y hy => ?_⟩
    rw [List.mem_singleton.1 hy]
    have := h.low x hx
    show x.seq < D.seq + 1
    omega
  · rcases hm x hx with h1 | rfl
    · exact h.above k l hl x h1
    · have := h.lowL k l hl
      show l.seq < D.seq + 1
      omega
  · rcases hm x hx with h1 | rfl
    · have := h.low x h1
      show x.seq ≤ D.seq + 1
      omega
    · exact Nat.le_refl _
  · have := h.lowL k l hl
    show l.seq ≤ D.seq + 1
    omega
  · rcases hm x hx with h1 | rfl
    · exact h.pos x h1
    · show 0 < D.seq + 1
      omega
  · show upd D.now (at_ + i) (secAt data i) k = (overW D.lasts (D.waits ++ [⟨node, at_ + i, D.seq + 1, secAt data i⟩]) k).map (·.data)
    rw [overW_snoc]
    unfold upd
    by_cases hk : k = at_ + i
    · rw [if_pos hk, if_pos hk]
      rfl
    · rw [if_neg hk, if_neg hk]
      exact h.now k
theorem Coh.wrN {D : Dk} {node : Int} (h : Coh D node) (at_ : Int) (data : Bytes) (n : Nat) : Coh (D.wrN node at_ data n) node := by
  induction n with
  | zero => exact h
  | succ n ih => exact ih.wr1 at_ data n
/-- What a sector holds once the power has gone: what lasted, or something that waited. -/
def Dk.maybe (D : Dk) (k : Int) (d : Bytes) : Prop := d = ((D.lasts k).map (·.data)).getD (zs 64) ∨ ∃ x ∈ D.waits, x.at_ = k ∧ d = x.data
theorem cut_sec {D : Dk} (ho : D.on = true) (keep : List Int) (k : Int) : D.maybe k ((D.cut keep).sec k) ∧ (∀ n, Coh D n → ∀ m, Coh (D.cut keep) m) := by
  unfold Dk.cut
  rw [if_pos ho]
  refine ⟨?_, fun n h m => ⟨by simp [Dk.cutOn], List.Pairwise.nil, by simp [Dk.cutOn], by simp [Dk.cutOn], fun k l hl => ?_, by simp [Dk.cutOn], fun k => rfl⟩⟩
  · show D.maybe k (((cutL keep D.lasts 0 D.waits k).map (·.data)).getD (zs 64))
    rcases cutL_mem keep D.waits D.lasts 0 k with e | ⟨x, hx, h1, e⟩
    · left
      rw [e]
    · right
      exact ⟨x, hx, h1, by rw [e]; rfl⟩
  · have hl' : cutL keep D.lasts 0 D.waits k = some l := hl
    show l.seq ≤ D.seq
    rcases cutL_mem keep D.waits D.lasts 0 k with e | ⟨x, hx, _, e⟩
    · rw [e] at hl'
      exact h.lowL k l hl'
    · rw [e] at hl'
      simp only [Option.some.injEq] at hl'
      subst hl'
      exact h.low x hx
end Go.Proofs.YtmmnjecaedmleaaGreatDoor

/- Plain laws: a redo that the power may cut short. -/
namespace Go.Proofs.YtmmnjecaedmleaaGreatDoor
open Go.RowKit

theorem read_on {D : Dk} (ho : D.on = true) (hz : D.sectors = 37) {at_ : Int} {n : Nat} (h1 : 1 ≤ n) (h3 : 0 ≤ at_) (h4 : at_ + n ≤ 37) : D.read at_ n = (readB D at_ n, 0) := by
  have ht : D.there at_ n = true := there_of hz h3 h4
  unfold Dk.read
  rw [if_neg (by simp [ho]), if_neg (by rw [ht]; simp; omega), Int.toNat_natCast]
theorem load_on {D : Dk} (ho : D.on = true) (hz : D.sectors = 37) {b : Int} (h0 : 0 ≤ b) (h1 : b ≤ 9) : D.load sh0 b = blkGet b (D.blk b) := by
  have hr : D.read (17 + 2 * b) 2 = (readB D (17 + 2 * b) 2, 0) := read_on ho hz (n := 2) (by omega) (by omega) (by omega)
  unfold Dk.load
  rw [blockAt0 h0 h1]
  simp only
  rw [if_neg (by simp), hr]
  simp only
  rw [if_neg (by simp)]
  have e : readB D (17 + 2 * b) 2 = D.blk b := by
    rw [readB_sec, readB_sec]
    show ([] ++ D.sec (17 + 2 * b + ((0 : Nat) : Int))) ++ D.sec (17 + 2 * b + ((1 : Nat) : Int)) = _
    rw [List.nil_append, show 17 + 2 * b + ((0 : Nat) : Int) = 17 + 2 * b by omega, show 17 + 2 * b + ((1 : Nat) : Int) = 18 + 2 * b by omega]
    rfl
  rw [e]
theorem nodup_inj : ∀ {l : List Img}, (l.map Img.block).Nodup → ∀ {i j : Img}, i ∈ l → j ∈ l → i.block = j.block → i = j
  | [], _, _, _, hi, _, _ => by simp at hi
  | a :: l, h, i, j, hi, hj, e => by
    rw [List.map_cons, List.nodup_cons] at h
    rcases List.mem_cons.1 hi with rfl | hi'
    · rcases List.mem_cons.1 hj with rfl | hj'
      · rfl
      · exact absurd (List.mem_map.2 ⟨j, hj', e.symm⟩) h.1
    · rcases List.mem_cons.1 hj with rfl | hj'
      · exact absurd (List.mem_map.2 ⟨i, hi', e⟩) h.1
      · exact nodup_inj h.2 hi' hj' e
/-- What node 2 finds at rest: the log's records, its head or none, the blocks as they are or part of what is wanted. -/
structure Js (want : List Img) (area : Bytes) (D : Dk) : Prop where
  size : D.sectors = 37
  t2 : D.table 2 = 20
  coh : Coh D 2
  dry : D.waits = []
  logs : ∀ i : Nat, i < 7 → D.sec (2 + i) = secAt area i
  head : D.sec 1 = headBytes ⟨9, 1, 0⟩ ∨ D.sec 1 = zs 64 ∧ ∀ i ∈ want, D.blk i.block = blkBytes i
  blks : ∀ i ∈ want, (D.sec (17 + 2 * i.block) = zs 64 ∨ D.sec (17 + 2 * i.block) = secBytes i 0) ∧ (D.sec (18 + 2 * i.block) = zs 64 ∨ D.sec (18 + 2 * i.block) = secBytes i 1)
/-- In the midst of storing, from the disk D0 at rest on. -/
structure Es (want : List Img) (D0 D : Dk) : Prop where
  on : D.on = true
  size : D.sectors = 37
  t2 : D.table 2 = 20
  coh : Coh D 2
  lasts : D.lasts = D0.lasts
  ws : ∀ x ∈ D.waits, ∃ i ∈ want, (x.at_ = 17 + 2 * i.block ∧ x.data = secBytes i 0) ∨ (x.at_ = 18 + 2 * i.block ∧ x.data = secBytes i 1)
section
variable {want : List Img} {area : Bytes} {D0 D : Dk}
theorem Js.lasts (h : Js want area D0) (k : Int) : ((D0.lasts k).map (·.data)).getD (zs 64) = D0.sec k := by
  have h1 := h.coh.now k
  rw [h.dry] at h1
  unfold Dk.sec
  rw [h1]
  rfl
/-- What may be read, or stay. -/
theorem Es.any (h : Es want D0 D) (h0 : Js want area D0) {k : Int} {d : Bytes} (hd : D.maybe k d) : d = D0.sec k ∨ ∃ i ∈ want, (k = 17 + 2 * i.block ∧ d = secBytes i 0) ∨ (k = 18 + 2 * i.block ∧ d = secBytes i 1) := by
  rcases hd with hd | ⟨x, hx, hk, hd⟩
  · left
    rw [hd, h.lasts, h0.lasts k]
  · right
    obtain ⟨i, hi, hw⟩ := h.ws x hx
    refine ⟨i, hi, ?_⟩
    rcases hw with ⟨a, b⟩ | ⟨a, b⟩
    · exact .inl ⟨by rw [← hk, a], by rw [hd, b]⟩
    · exact .inr ⟨by rw [← hk, a], by rw [hd, b]⟩
theorem Es.now (h : Es want D0 D) (k : Int) : D.maybe k (D.sec k) := by
  unfold Dk.maybe Dk.sec
  rw [h.coh.now k]
  rcases overW_mem D.lasts D.waits k with e | ⟨x, hx, h1, e⟩
  · left; rw [e]
  · right
    exact ⟨x, hx, h1, by rw [e]; rfl⟩
theorem js_any (h0 : Js want area D0) (hw : ∀ i ∈ want, 0 ≤ i.block) (hn : (want.map Img.block).Nodup) {D' : Dk} (hh : D0.sec 1 = headBytes ⟨9, 1, 0⟩)
    (ha : ∀ k, D'.sec k = D0.sec k ∨ ∃ i ∈ want, (k = 17 + 2 * i.block ∧ D'.sec k = secBytes i 0) ∨ (k = 18 + 2 * i.block ∧ D'.sec k = secBytes i 1)) :
    (∀ i : Nat, i < 7 → D'.sec (2 + i) = secAt area i) ∧ D'.sec 1 = headBytes ⟨9, 1, 0⟩ ∧ ∀ i ∈ want, (D'.sec (17 + 2 * i.block) = zs 64 ∨ D'.sec (17 + 2 * i.block) = secBytes i 0) ∧ (D'.sec (18 + 2 * i.block) = zs 64 ∨ D'.sec (18 + 2 * i.block) = secBytes i 1) := by
  have hlow : ∀ k : Int, k < 17 → D'.sec k = D0.sec k := by
    intro k hk
    rcases ha k with e | ⟨i, hi, ⟨e, _⟩ | ⟨e, _⟩⟩
    · exact e
    · have := hw i hi; omega
    · have := hw i hi; omega
  have huniq : ∀ i ∈ want, ∀ j ∈ want, i.block = j.block → i = j := by
    intro i hi j hj e
    exact nodup_inj hn hi hj e
  refine ⟨fun i hi => (hlow _ (by omega)).trans (h0.logs i hi), (hlow 1 (by omega)).trans hh, fun i hi => ⟨?_, ?_⟩⟩
  · rcases ha (17 + 2 * i.block) with e | ⟨j, hj, ⟨e, e2⟩ | ⟨e, _⟩⟩
    · rw [e]; exact (h0.blks i hi).1
    · obtain rfl := huniq i hi j hj (by omega)
      exact .inr e2
    · omega
  · rcases ha (18 + 2 * i.block) with e | ⟨j, hj, ⟨e, _⟩ | ⟨e, e2⟩⟩
    · rw [e]; exact (h0.blks i hi).2
    · omega
    · obtain rfl := huniq i hi j hj (by omega)
      exact .inr e2
/-- The power goes in the midst of it. -/
theorem Es.cut (h : Es want D0 D) (h0 : Js want area D0) (hw : ∀ i ∈ want, 0 ≤ i.block) (hn : (want.map Img.block).Nodup) (hh : D0.sec 1 = headBytes ⟨9, 1, 0⟩) (keep : List Int) : Js want area (D.cut keep) := by
  have hc : D.cut keep = D.cutOn keep := by unfold Dk.cut; rw [if_pos h.on]
  obtain ⟨a, b, c⟩ := js_any h0 hw hn (D' := D.cut keep) hh (fun k => by
    rcases h.any h0 (cut_sec h.on keep k).1 with e | ⟨i, hi, ⟨e1, e2⟩ | ⟨e1, e2⟩⟩
    · exact .inl e
    · exact .inr ⟨i, hi, .inl ⟨e1, e2⟩⟩
    · exact .inr ⟨i, hi, .inr ⟨e1, e2⟩⟩)
  exact ⟨by rw [hc]; exact h.size, by rw [hc]; exact h.t2, (cut_sec h.on keep 0).2 2 h.coh 2, by rw [hc]; rfl, a, .inl b, c⟩
/-- What node 2 meets where it stores an image. -/
theorem goes_cases (D : Dk) : (D.goes.1 = true ∧ D.armed = true ∧ D.goes.2 = D.cut D.stays) ∨ (D.goes.1 = false ∧ ∃ z, D.goes.2 = { D with left := z }) := by
  unfold Dk.goes
  split
  · split
    · exact .inr ⟨rfl, _, rfl⟩
    · exact .inl ⟨rfl, ‹_›, rfl⟩
  · exact .inr ⟨rfl, D.left, rfl⟩
theorem Es.left (h : Es want D0 D) (z : Int) : Es want D0 { D with left := z } := ⟨h.on, h.size, h.t2, ⟨h.coh.node, h.coh.sorted, h.coh.above, h.coh.low, h.coh.lowL, h.coh.pos, h.coh.now⟩, h.lasts, h.ws⟩
theorem Es.store (h : Es want D0 D) {i : Img} (hi : i ∈ want) (hf : i.fine) (hb : i.block ≤ 9) :
    (D.armed = true ∧ D.store sh0 2 20 i = (14, D.cut D.stays)) ∨
    ∃ D', D.store sh0 2 20 i = (0, D') ∧ Es want D0 D' ∧ D'.armed = D.armed ∧ D'.blk i.block = blkBytes i ∧ ∀ b, b ≠ i.block → D'.blk b = D.blk b := by
  have hb0 := hf.blk.1
  have hl := blkBytes_length i hf.len
  have hmay : D.may 2 = 0 := by unfold Dk.may; rw [h.on]; decide
  have hadm : D.admits 2 20 = 0 := by unfold Dk.admits; rw [show (2 : Int).toNat = 2 from rfl, h.t2]; decide
  have hth : D.there (17 + 2 * i.block) ((128 / 64 : Nat) : Int) = true := there_of h.size (by omega) (by show 17 + 2 * i.block + 2 ≤ 37; omega) (by decide)
  have hst : D.store sh0 2 20 i = if D.goes.1 then (14, D.goes.2) else (0, D.goes.2.wrN 2 (17 + 2 * i.block) (blkBytes i) 2) := by
    unfold Dk.store
    rw [blockAt0 hb0 hb, if_neg (by simp), if_neg (by rw [hf.1]; decide)]
    unfold Dk.write
    rw [hmay, hadm, hl, if_neg (by simp), if_neg (by omega), if_neg (by simp), if_neg (by rw [hth]; simp)]
  rcases goes_cases D with ⟨g1, ga, g2⟩ | ⟨g1, z, g2⟩
  · left
    exact ⟨ga, by rw [hst, g1, g2]; rfl⟩
  · right
    have hE := h.left z
    refine ⟨({ D with left := z } : Dk).wrN 2 (17 + 2 * i.block) (blkBytes i) 2, by rw [hst, g1, g2]; rfl, ?_, ?_, ?_, ?_⟩
    · obtain ⟨a0, a1, a2, a3, _, _, _, _, _⟩ := wrN_same ({ D with left := z } : Dk) 2 (17 + 2 * i.block) (blkBytes i) 2
      refine ⟨a1.trans hE.on, a0.trans hE.size, (congrFun a3 2).trans hE.t2, hE.coh.wrN _ _ 2, a2.trans hE.lasts, fun x hx => ?_⟩
      have hx' : x ∈ (D.waits ++ [⟨2, 17 + 2 * i.block + ((0 : Nat) : Int), D.seq + 1, secAt (blkBytes i) 0⟩]) ++ [⟨2, 17 + 2 * i.block + ((1 : Nat) : Int), D.seq + 1 + 1, secAt (blkBytes i) 1⟩] := hx
      obtain ⟨s0, s1⟩ : secAt (blkBytes i) 0 = secBytes i 0 ∧ secAt (blkBytes i) 1 = secBytes i 1 := by
        have q0 : (secBytes i 0).length = 64 := secBytes_length i 0 hf.len
        have q1 : (secBytes i 1).length = 64 := secBytes_length i 1 hf.len
        unfold secAt blkBytes
        rw [Nat.zero_mul, List.drop_zero, List.take_left' q0, Nat.one_mul, List.drop_left' q0, List.take_of_length_le (by omega)]
        exact ⟨rfl, rfl⟩
      rcases List.mem_append.1 hx' with hx | hx
      · rcases List.mem_append.1 hx with hx | hx
        · exact h.ws x hx
        · rw [List.mem_singleton.1 hx]
          exact ⟨i, hi, .inl ⟨by show 17 + 2 * i.block + ((0 : Nat) : Int) = _; omega, s0⟩⟩
      · rw [List.mem_singleton.1 hx]
        exact ⟨i, hi, .inr ⟨by show 17 + 2 * i.block + ((1 : Nat) : Int) = _; omega, s1⟩⟩
    · exact (wrN_same _ 2 (17 + 2 * i.block) (blkBytes i) 2).2.2.2.2.2.2.1
    · unfold Dk.blk
      rw [wrN_sec, wrN_sec, if_pos (by omega), if_pos (by omega), show (17 + 2 * i.block - (17 + 2 * i.block)).toNat = 0 by omega, show (18 + 2 * i.block - (17 + 2 * i.block)).toNat = 1 by omega]
      exact secAt_blk i hf
    · intro b hne
      unfold Dk.blk
      rw [wrN_sec, wrN_sec, if_neg (by omega), if_neg (by omega)]
      rfl
end
end Go.Proofs.YtmmnjecaedmleaaGreatDoor

/- Plain laws: a redo that the power may cut short: the images stored, the head cleared. -/
namespace Go.Proofs.YtmmnjecaedmleaaGreatDoor
open Go.RowKit

/-- A block of which each sector is new or empty. -/
theorem blk_cases (i : Img) (h : i.fine) {a b : Bytes} (ha : a = zs 64 ∨ a = secBytes i 0) (hb : b = zs 64 ∨ b = secBytes i 1) :
    blkGet i.block (a ++ b) = (⟨i.block, 0, zs 96⟩, 0) ∨ (blkGet i.block (a ++ b)).2 = 6 ∨ a ++ b = blkBytes i := by
  have q0 := secBytes_length i 0 h.len
  have q1 := secBytes_length i 1 h.len
  have hzz : zs 64 ++ zs 64 = zs 128 := by simp only [zs, List.replicate_append_replicate]
  rcases ha with rfl | rfl
  · rcases hb with rfl | rfl
    · left
      rw [hzz, blkGet_zs]
    · right; left
      have h0 : sec0 (zs 64 ++ secBytes i 1) = zs 64 := by unfold sec0; rw [List.take_left' (by simp)]
      have hne : zs 64 ++ secBytes i 1 ≠ zs 128 := by
        intro e
        have h1 : sec1 (zs 64 ++ secBytes i 1) = secBytes i 1 := by unfold sec1; rw [List.drop_left' (by simp), List.take_of_length_le (by omega)]
        rw [e, show sec1 (zs 128) = zs 64 from rfl] at h1
        have h2 := secBytes_ok i h 1
        rw [← h1, sumOk_zs] at h2
        exact absurd h2 (by decide)
      rw [blkGet, if_neg hne, h0, sumOk_zs, if_pos rfl]
  · rcases hb with rfl | rfl
    · right; left
      have h0 : sec0 (secBytes i 0 ++ zs 64) = secBytes i 0 := by unfold sec0; rw [List.take_left' q0]
      have h1 : sec1 (secBytes i 0 ++ zs 64) = zs 64 := by unfold sec1; rw [List.drop_left' q0]; rfl
      have hne : secBytes i 0 ++ zs 64 ≠ zs 128 := by
        intro e
        rw [e, show sec0 (zs 128) = zs 64 from rfl] at h0
        have h2 := secBytes_ok i h 0
        rw [← h0, sumOk_zs] at h2
        exact absurd h2 (by decide)
      rw [blkGet, if_neg hne, h0, h1, secBytes_ok i h, sumOk_zs, if_neg (by decide), if_pos rfl]
    · right; right
      rfl
structure Wants (want : List Img) : Prop where
  fine : ∀ i ∈ want, i.fine ∧ i.block ≤ 9 ∧ 0 < i.version
  nodup : (want.map Img.block).Nodup
theorem Wants.blk0 {want : List Img} (h : Wants want) : ∀ i ∈ want, 0 ≤ i.block := fun i hi => (h.fine i hi).1.blk.1
section
variable {want : List Img} {area : Bytes} {D0 : Dk}
theorem Es.secs {D : Dk} (h : Es want D0 D) (h0 : Js want area D0) (k : Int) : D.sec k = D0.sec k ∨ ∃ i ∈ want, (k = 17 + 2 * i.block ∧ D.sec k = secBytes i 0) ∨ (k = 18 + 2 * i.block ∧ D.sec k = secBytes i 1) :=
  h.any h0 (h.now k)
theorem Es.go (h0 : Js want area D0) (hw : Wants want) (hh : D0.sec 1 = headBytes ⟨9, 1, 0⟩) : ∀ (l : List Img) (n : Nat) (D : Dk), Es want D0 D → (∀ i ∈ l, i ∈ want) → (l.map Img.block).Nodup →
    (D.armed = true ∧ (applyGo sh0 2 20 l n D).1 ≠ 0 ∧ ∃ D1 keep, Es want D0 D1 ∧ (applyGo sh0 2 20 l n D).2.2 = D1.cut keep) ∨
    ((applyGo sh0 2 20 l n D).1 = 0 ∧ n ≤ (applyGo sh0 2 20 l n D).2.1 ∧ Es want D0 (applyGo sh0 2 20 l n D).2.2 ∧ (applyGo sh0 2 20 l n D).2.2.armed = D.armed ∧ (∀ i ∈ l, (applyGo sh0 2 20 l n D).2.2.blk i.block = blkBytes i) ∧
      (∀ b, (∀ i ∈ l, b ≠ i.block) → (applyGo sh0 2 20 l n D).2.2.blk b = D.blk b) ∧ ((applyGo sh0 2 20 l n D).2.1 = n → (applyGo sh0 2 20 l n D).2.2 = D))
  | [], n, D, hE, _, _ => .inr ⟨rfl, Nat.le_refl _, hE, rfl, by simp, fun _ _ => rfl, fun _ => rfl⟩
  | i :: l, n, D, hE, hl, hn => by
    rw [List.map_cons, List.nodup_cons] at hn
    have hi := hl i (by simp)
    obtain ⟨hf, hb, hv⟩ := hw.fine i hi
    have hne : ∀ j ∈ l, i.block ≠ j.block := fun j hj e => hn.1 (e ▸ List.mem_map.2 ⟨j, hj, rfl⟩)
    have hld := load_on hE.on hE.size hf.blk.1 hb
    obtain ⟨_, _, hj⟩ := js_any h0 hw.blk0 hw.nodup hh (hE.secs h0)
    obtain ⟨ha, hb2⟩ := hj i hi
    have hstep : ∀ (x : Int × Nat × Dk), (D.load sh0 i.block).2 = 0 ∧ ¬ i.version ≤ (D.load sh0 i.block).1.version ∨ (D.load sh0 i.block).2 = 6 →
        applyGo sh0 2 20 (i :: l) n D = if (D.store sh0 2 20 i).1 ≠ 0 then ((D.store sh0 2 20 i).1, 0, (D.store sh0 2 20 i).2) else applyGo sh0 2 20 l (n + 1) (D.store sh0 2 20 i).2 := by
      intro _ hc
      rw [applyGo]
      rcases hc with ⟨c1, c2⟩ | c1
      · rw [if_neg (by rw [c1]; simp), if_neg (by rw [c1]; simpa using c2)]
      · rw [if_neg (by rw [c1]; simp), if_neg (by rw [c1]; simp)]
    have hdo : ((D.load sh0 i.block).2 = 0 ∧ ¬ i.version ≤ (D.load sh0 i.block).1.version ∨ (D.load sh0 i.block).2 = 6) →
        (D.armed = true ∧ (applyGo sh0 2 20 (i :: l) n D).1 ≠ 0 ∧ ∃ D1 keep, Es want D0 D1 ∧ (applyGo sh0 2 20 (i :: l) n D).2.2 = D1.cut keep) ∨
        ((applyGo sh0 2 20 (i :: l) n D).1 = 0 ∧ n ≤ (applyGo sh0 2 20 (i :: l) n D).2.1 ∧ Es want D0 (applyGo sh0 2 20 (i :: l) n D).2.2 ∧ (applyGo sh0 2 20 (i :: l) n D).2.2.armed = D.armed ∧ (∀ j ∈ i :: l, (applyGo sh0 2 20 (i :: l) n D).2.2.blk j.block = blkBytes j) ∧
          (∀ b, (∀ j ∈ i :: l, b ≠ j.block) → (applyGo sh0 2 20 (i :: l) n D).2.2.blk b = D.blk b) ∧ ((applyGo sh0 2 20 (i :: l) n D).2.1 = n → (applyGo sh0 2 20 (i :: l) n D).2.2 = D)) := by
      intro hc
      rw [hstep (0, 0, D) hc]
      rcases hE.store hi hf hb with ⟨s1, s2⟩ | ⟨D', s1, s2, s3, s4, s5⟩
      · left
        rw [s2, if_pos (by simp)]
        exact ⟨s1, by simp, D, D.stays, hE, rfl⟩
      · rw [s1, if_neg (by simp)]
        rcases Es.go h0 hw hh l (n + 1) D' s2 (fun j hj => hl j (by simp [hj])) hn.2 with ⟨r1, r2, r3⟩ | ⟨r1, r2, r3, r4, r5, r6, r7⟩
        · exact .inl ⟨s3 ▸ r1, r2, r3⟩
        · refine .inr ⟨r1, by simp only at r2 ⊢; omega, r3, r4.trans s3, fun j hj => ?_, fun b hb => ?_, fun e => by simp only at r2 e; omega⟩
          · rcases List.mem_cons.1 hj with rfl | hj
            · rw [r6 j.block hne, s4]
            · exact r5 j hj
          · rw [r6 b (fun j hj => hb j (by simp [hj])), s5 b (hb i (by simp))]
    rcases blk_cases i hf ha hb2 with e | e | e
    · exact hdo (.inl ⟨by rw [hld]; unfold Dk.blk; rw [e], by rw [hld]; unfold Dk.blk; rw [e]; show ¬ i.version ≤ 0; omega⟩)
    · exact hdo (.inr (by rw [hld]; exact e))
    · have hg : D.load sh0 i.block = (i, 0) := by
        rw [hld]
        unfold Dk.blk
        rw [e, blkGet_put i hf]
      have hskip : applyGo sh0 2 20 (i :: l) n D = applyGo sh0 2 20 l n D := by
        rw [applyGo, hg]
        simp only
        rw [if_neg (by simp), if_pos (by simp)]
      rw [hskip]
      rcases Es.go h0 hw hh l n D hE (fun j hj => hl j (by simp [hj])) hn.2 with r | ⟨r1, r2, r3, r4, r5, r6, r7⟩
      · exact .inl r
      · refine .inr ⟨r1, r2, r3, r4, fun j hj => ?_, fun b hb => r6 b (fun j hj => hb j (by simp [hj])), r7⟩
        rcases List.mem_cons.1 hj with rfl | hj
        · rw [r6 j.block hne]
          exact e
        · exact r5 j hj
end
end Go.Proofs.YtmmnjecaedmleaaGreatDoor

/- Plain laws: a redo that the power may cut short: the whole of it. -/
namespace Go.Proofs.YtmmnjecaedmleaaGreatDoor
open Go.RowKit

section
variable {D : Dk}
theorem rhead_on {area : Bytes} (ho : D.on = true) (hz : D.sectors = 37) (h : D.sec 1 = headBytes ⟨9, 1, 0⟩) : D.rhead sh0 1 = (⟨9, 1, 0⟩, true, 0) := by
  have hr : D.read 1 1 = (readB D 1 1, 0) := read_on ho hz (at_ := 1) (n := 1) (by omega) (by omega) (by omega)
  unfold Dk.rhead
  rw [logAt1]
  simp only
  rw [if_neg (by simp), hr]
  simp only
  rw [if_neg (by simp), readB_one, h, getHead_put _ head0_right (by decide) (by decide)]
  rfl
theorem scan_on {area : Bytes} (ho : D.on = true) (hz : D.sectors = 37) (h : D.sec 1 = headBytes ⟨9, 1, 0⟩) (hl : area.length = 448) (hs : ∀ i : Nat, i < 7 → D.sec (2 + i) = secAt area i) : D.scan sh0 1 = (scanL 449 9 1 area, 0) := by
  have hr : D.read 2 7 = (readB D 2 7, 0) := read_on ho hz (at_ := 2) (n := 7) (by omega) (by omega) (by omega)
  have hrd : readB D 2 7 = area := by
    rw [readB_data D 2 area 7 hs, List.take_of_length_le (by rw [hl]; omega)]
  unfold Dk.scan
  rw [rhead_on (area := area) ho hz h, logAt1]
  simp only
  rw [if_neg (by decide)]
  have e : ((sh0.log : Int) - 1) = 7 := by decide
  rw [e, show (1 : Int) + 1 = 2 from rfl, hr]
  simp only
  rw [if_neg (by simp), hrd, scanB]
  simp only [Nat.mul_zero, List.drop_zero, List.take_zero, List.append_nil]
  rw [hl]
theorem rheadz_on (ho : D.on = true) (hz : D.sectors = 37) (h : D.sec 1 = zs 64) : D.rhead sh0 1 = (noHd, false, 0) := by
  have hr : D.read 1 1 = (readB D 1 1, 0) := read_on ho hz (at_ := 1) (n := 1) (by omega) (by omega) (by omega)
  unfold Dk.rhead
  rw [logAt1]
  simp only
  rw [if_neg (by simp), hr]
  simp only
  rw [if_neg (by simp), readB_one, h, getHead_zs]
  rfl
theorem may2 (ho : D.on = true) : D.may 2 = 0 := by unfold Dk.may; rw [ho]; decide
theorem adm2 (ht : D.table 2 = 20) : D.admits 2 20 = 0 := by unfold Dk.admits; rw [show (2 : Int).toNat = 2 from rfl, ht]; decide
theorem barrier2 (ho : D.on = true) (ht : D.table 2 = 20) : D.barrier 2 20 = if D.goes.1 then (14, D.goes.2) else (0, D.goes.2.settle 2) := by
  unfold Dk.barrier
  rw [may2 ho, adm2 ht, if_neg (by simp), if_neg (by simp)]
theorem write2 (ho : D.on = true) (ht : D.table 2 = 20) (hz : D.sectors = 37) : D.write 2 20 1 (zs 64) = if D.goes.1 then (14, D.goes.2) else (0, D.goes.2.wrN 2 1 (zs 64) 1) := by
  have hth : D.there 1 ((64 / 64 : Nat) : Int) = true := there_of hz (by omega) (by decide) (by decide)
  unfold Dk.write
  rw [may2 ho, adm2 ht, zs_length, if_neg (by simp), if_neg (by omega), if_neg (by simp), if_neg (by rw [hth]; simp)]
end
section
variable {want : List Img} {area : Bytes} {D0 D : Dk}
/-- All that is wanted stands. -/
def Full (want : List Img) (D : Dk) : Prop := ∀ i ∈ want, D.blk i.block = blkBytes i
theorem Js.same (h : Js want area D) {D' : Dk} (a : D'.sectors = D.sectors) (b : D'.table = D.table) (c : Coh D' 2) (d : D'.waits = []) (e : ∀ k, k ≠ 1 → D'.sec k = D.sec k) (hw : ∀ i ∈ want, 0 ≤ i.block)
    (f : D'.sec 1 = headBytes ⟨9, 1, 0⟩ ∨ D'.sec 1 = zs 64 ∧ Full want D) : Js want area D' := by
  refine ⟨a.trans h.size, (congrFun b 2).trans h.t2, c, d, fun i hi => (e _ (by omega)).trans (h.logs i hi), ?_, fun i hi => ?_⟩
  · refine f.imp id (fun ⟨f1, f2⟩ => ⟨f1, fun i hi => ?_⟩)
    have h0 := hw i hi
    rw [← f2 i hi]
    unfold Dk.blk
    rw [e _ (by omega), e _ (by omega)]
  · have h0 := hw i hi
    rw [e _ (by omega), e _ (by omega)]
    exact h.blks i hi
theorem Js.maybe (h : Js want area D) {k : Int} {d : Bytes} (hd : D.maybe k d) : d = D.sec k := by
  rcases hd with hd | ⟨x, hx, _⟩
  · rw [hd, h.lasts k]
  · rw [h.dry] at hx; simp at hx
theorem Js.cutDry (h : Js want area D) (ho : D.on = true) (hw : ∀ i ∈ want, 0 ≤ i.block) (hh : D.sec 1 = headBytes ⟨9, 1, 0⟩) (keep : List Int) : Js want area (D.cut keep) := by
  have hc : D.cut keep = D.cutOn keep := by unfold Dk.cut; rw [if_pos ho]
  have hs : ∀ k, (D.cut keep).sec k = D.sec k := fun k => h.maybe (cut_sec ho keep k).1
  exact h.same (by rw [hc]; rfl) (by rw [hc]; rfl) ((cut_sec ho keep 0).2 2 h.coh 2) (by rw [hc]; rfl) (fun k _ => hs k) hw (.inl ((hs 1).trans hh))
theorem Js.es (h : Js want area D) (ho : D.on = true) : Es want D D := ⟨ho, h.size, h.t2, h.coh, rfl, by rw [h.dry]; simp⟩
/-- The end of the images' part. -/
theorem Js.apply (h0 : Js want area D0) (ho : D0.on = true) (hw : Wants want) (hh : D0.sec 1 = headBytes ⟨9, 1, 0⟩) :
    (D0.armed = true ∧ (D0.apply sh0 2 20 want).1 ≠ 0 ∧ Js want area (D0.apply sh0 2 20 want).2.2) ∨
    ((D0.apply sh0 2 20 want).1 = 0 ∧ (D0.apply sh0 2 20 want).2.2.on = true ∧ (D0.apply sh0 2 20 want).2.2.armed = D0.armed ∧ Js want area (D0.apply sh0 2 20 want).2.2 ∧ (D0.apply sh0 2 20 want).2.2.sec 1 = headBytes ⟨9, 1, 0⟩ ∧ Full want (D0.apply sh0 2 20 want).2.2) := by
  unfold Dk.apply
  rcases Es.go h0 hw hh want 0 D0 (h0.es ho) (fun i hi => hi) hw.nodup with ⟨r1, r2, D1, keep, r3, r4⟩ | ⟨r1, _, r3, r4, r5, _, r7⟩
  · left
    unfold applyEnd
    rw [if_pos r2]
    exact ⟨r1, r2, by rw [r4]; exact r3.cut h0 hw.blk0 hw.nodup hh keep⟩
  · obtain ⟨r, hr⟩ : ∃ r, applyGo sh0 2 20 want 0 D0 = r := ⟨_, rfl⟩
    rw [hr] at r1 r3 r4 r5 r7 ⊢
    obtain ⟨c, n, D1⟩ := r
    simp only at r1 r3 r4 r5 r7
    subst r1
    unfold applyEnd
    simp only
    rw [if_neg (by simp)]
    obtain ⟨ja, jb, jc⟩ := js_any h0 hw.blk0 hw.nodup (D' := D1) hh (r3.secs h0)
    by_cases hn : 0 < n
    · rw [if_pos hn, barrier2 r3.on r3.t2]
      rcases goes_cases D1 with ⟨g1, ga, g2⟩ | ⟨g1, z, g2⟩
      · left
        rw [g1, g2]
        simp only [if_true]
        rw [if_pos (by simp)]
        exact ⟨by rw [← r4, ga], by simp, r3.cut h0 hw.blk0 hw.nodup hh _⟩
      · right
        rw [g1, g2]
        simp only [Bool.false_eq_true, if_false]
        rw [if_neg (by simp)]
        obtain ⟨s1, s2, s3⟩ := (r3.left z).coh.settle
        exact ⟨rfl, r3.on, r4, ⟨r3.size, r3.t2, s3 2, s2, ja, .inl jb, jc⟩, jb, r5⟩
    · rw [if_neg hn]
      right
      obtain rfl := r7 (by omega)
      exact ⟨rfl, ho, rfl, h0, hh, r5⟩
theorem Js.run (h0 : Js want area D0) (ho : D0.on = true) (hw : Wants want) (hl : area.length = 448) (hs : planOf (imgsOf (scanL 449 9 1 area)) = want) :
    Js want area (D0.run sh0 1 9 2 20).2.2 ∧ (D0.armed = false → (D0.run sh0 1 9 2 20).1 = 0 ∧ (D0.run sh0 1 9 2 20).2.2.on = true ∧ (D0.run sh0 1 9 2 20).2.2.armed = false ∧ (D0.run sh0 1 9 2 20).2.2.sec 1 = zs 64) := by
  rcases h0.head with hh | ⟨hz, hfull⟩
  · have hrun : D0.run sh0 1 9 2 20 = if (D0.apply sh0 2 20 want).1 ≠ 0 then ((D0.apply sh0 2 20 want).1, 0, (D0.apply sh0 2 20 want).2.2)
        else if ((D0.apply sh0 2 20 want).2.2.write 2 20 1 (zs 64)).1 ≠ 0 then (((D0.apply sh0 2 20 want).2.2.write 2 20 1 (zs 64)).1, 0, ((D0.apply sh0 2 20 want).2.2.write 2 20 1 (zs 64)).2)
        else if (((D0.apply sh0 2 20 want).2.2.write 2 20 1 (zs 64)).2.barrier 2 20).1 ≠ 0 then ((((D0.apply sh0 2 20 want).2.2.write 2 20 1 (zs 64)).2.barrier 2 20).1, 0, (((D0.apply sh0 2 20 want).2.2.write 2 20 1 (zs 64)).2.barrier 2 20).2)
        else (0, (D0.apply sh0 2 20 want).2.1, (((D0.apply sh0 2 20 want).2.2.write 2 20 1 (zs 64)).2.barrier 2 20).2) := by
      unfold Dk.run
      rw [rhead_on (area := area) ho h0.size hh, scan_on ho h0.size hh hl h0.logs, logAt1]
      simp only
      rw [if_neg (by simp), if_neg (by simp), hs]
    rw [hrun]
    rcases h0.apply ho hw hh with ⟨a1, a2, a3⟩ | ⟨a1, a2, a3, a4, a5, a6⟩
    · rw [if_pos a2]
      exact ⟨a3, fun e => absurd (a1.symm.trans e) (by decide)⟩
    · obtain ⟨r, hr⟩ : ∃ r, D0.apply sh0 2 20 want = r := ⟨_, rfl⟩
      rw [hr] at a1 a2 a3 a4 a5 a6 ⊢
      obtain ⟨c, n, D2⟩ := r
      simp only at a1 a2 a3 a4 a5 a6 ⊢
      subst a1
      rw [if_neg (by simp), write2 a2 a4.t2 a4.size]
      rcases goes_cases D2 with ⟨g1, ga, g2⟩ | ⟨g1, z, g2⟩
      · rw [g1, g2]
        simp only [if_true]
        rw [if_pos (by simp)]
        exact ⟨a4.cutDry a2 hw.blk0 a5 _, fun e => absurd (ga.symm.trans (a3.trans e)) (by decide)⟩
      · rw [g1, g2]
        simp only [Bool.false_eq_true, if_false]
        obtain ⟨D3, hD3⟩ : ∃ D3, ({ D2 with left := z } : Dk).wrN 2 1 (zs 64) 1 = D3 := ⟨_, rfl⟩
        have hw3 : D3.waits = [⟨2, 1, D2.seq + 1, zs 64⟩] := by
          rw [← hD3]
          show D2.waits ++ [⟨2, 1 + ((0 : Nat) : Int), D2.seq + 1, secAt (zs 64) 0⟩] = _
          rw [a4.dry]
          rfl
        have hc3 : Coh D3 2 := by
          have hcl : Coh ({ D2 with left := z } : Dk) 2 := ⟨a4.coh.node, a4.coh.sorted, a4.coh.above, a4.coh.low, a4.coh.lowL, a4.coh.pos, a4.coh.now⟩
          rw [← hD3]
          exact hcl.wrN _ _ 1
        obtain ⟨b0, b1, b2, b3, _, _, b6, _, _⟩ := wrN_same ({ D2 with left := z } : Dk) 2 1 (zs 64) 1
        rw [hD3] at b0 b1 b2 b3 b6
        have hs3 : ∀ k, D3.sec k = if k = 1 then zs 64 else D2.sec k := by
          intro k
          rw [← hD3, wrN_sec]
          by_cases hk : k = 1
          · subst hk
            rw [if_pos (by omega), if_pos rfl, show ((1 : Int) - 1).toNat = 0 from rfl]
            exact secAt_zs' (by omega)
          · rw [if_neg (by omega), if_neg hk]
            rfl
        have hm3 : ∀ k d, D3.maybe k d → d = D2.sec k ∨ k = 1 ∧ d = zs 64 := by
          intro k d hd
          rcases hd with hd | ⟨x, hx, hk, hd⟩
          · left
            rw [hd, b2]
            exact a4.lasts k
          · right
            rw [hw3] at hx
            obtain rfl := List.mem_singleton.1 hx
            exact ⟨hk.symm, hd⟩
        rw [hD3, if_neg (by simp), barrier2 (b1.trans a2) ((congrFun b3 2).trans a4.t2)]
        rcases goes_cases D3 with ⟨q1, qa, q2⟩ | ⟨q1, z2, q2⟩
        · rw [q1, q2]
          simp only [if_true]
          rw [if_pos (by simp)]
          have hc : D3.cut D3.stays = D3.cutOn D3.stays := by unfold Dk.cut; rw [if_pos (b1.trans a2)]
          refine ⟨a4.same (by rw [hc]; exact b0) (by rw [hc]; exact b3) ((cut_sec (b1.trans a2) _ 0).2 2 hc3 2) (by rw [hc]; rfl) (fun k hk => ?_) hw.blk0 ?_, fun e => absurd (qa.symm.trans (b6.trans (a3.trans e))) (by decide)⟩
          · rcases hm3 k _ (cut_sec (b1.trans a2) D3.stays k).1 with e | ⟨e, _⟩
            · exact e
            · exact absurd e hk
          · rcases hm3 1 _ (cut_sec (b1.trans a2) D3.stays 1).1 with e | ⟨_, e⟩
            · exact .inl (e.trans a5)
            · exact .inr ⟨e, a6⟩
        · rw [q1, q2]
          simp only [Bool.false_eq_true, if_false]
          rw [if_neg (by simp)]
          have hcz : Coh ({ D3 with left := z2 } : Dk) 2 := ⟨hc3.node, hc3.sorted, hc3.above, hc3.low, hc3.lowL, hc3.pos, hc3.now⟩
          obtain ⟨s1, s2, s3⟩ := hcz.settle
          refine ⟨a4.same b0 b3 (s3 2) s2 (fun k hk => ?_) hw.blk0 (.inr ⟨?_, a6⟩), fun e => ⟨rfl, b1.trans a2, b6.trans (a3.trans e), ?_⟩⟩
          · show D3.sec k = _
            rw [hs3, if_neg hk]
          · show D3.sec 1 = _
            rw [hs3, if_pos rfl]
          · show D3.sec 1 = _
            rw [hs3, if_pos rfl]
  · have hrun : D0.run sh0 1 9 2 20 = (0, 0, D0) := by
      unfold Dk.run
      rw [rheadz_on ho h0.size hz, if_pos (.inr (.inl rfl))]
    rw [hrun]
    exact ⟨h0, fun e => ⟨rfl, ho, e, hz⟩⟩
end
end Go.Proofs.YtmmnjecaedmleaaGreatDoor
