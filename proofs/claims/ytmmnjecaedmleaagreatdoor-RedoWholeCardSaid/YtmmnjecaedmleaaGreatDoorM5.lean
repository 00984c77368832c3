import Derived.Test.YtmmnjecaedmleaaGreatDoorM4

/- sdisk: Cut, goes: contracts. -/
namespace Go.Proofs.YtmmnjecaedmleaaGreatDoor
open Go.RowKit
attribute [local go_sem ↓] Go.wp_at_zero Go.wp_at_succ

def oddI (z : Int) : Bool := bits .and .i64 z 1 == 1
theorem oddI_zero : oddI 0 = false := by decide
def cutL (keep : List Int) : (Int → Option Wr) → Nat → List Wr → (Int → Option Wr)
  | L, _, [] => L
  | L, k, x :: ws => cutL keep (if oddI (keep.getD k 0) then keepW L x else L) (k + 1) ws
theorem cutL_snoc (keep : List Int) (x : Wr) : ∀ (L : Int → Option Wr) (k : Nat) (ws : List Wr), cutL keep L k (ws ++ [x]) = if oddI (keep.getD (k + ws.length) 0) then keepW (cutL keep L k ws) x else cutL keep L k ws
  | L, k, [] => by simp [cutL]
  | L, k, y :: ws => by
    rw [List.cons_append, cutL, cutL_snoc, cutL, List.length_cons, show k + 1 + ws.length = k + (ws.length + 1) by omega]
theorem cutL_take (keep : List Int) (L : Int → Option Wr) (ws : List Wr) (k : Nat) (h : k < ws.length) : cutL keep L 0 (ws.take (k + 1)) = if oddI (keep.getD k 0) then keepW (cutL keep L 0 (ws.take k)) ws[k] else cutL keep L 0 (ws.take k) := by
  rw [List.take_succ_eq_append_getElem h, cutL_snoc, List.length_take, Nat.zero_add, Nat.min_eq_left (by omega)]

def Dk.cutOn (D : Dk) (keep : List Int) : Dk :=
  { D with on := false, now := fun k => (cutL keep D.lasts 0 D.waits k).map (·.data), lasts := cutL keep D.lasts 0 D.waits, waits := [], armed := false, left := -1, stays := [] }
def Dk.cut (D : Dk) (keep : List Int) : Dk := if D.on then D.cutOn keep else D.arm (-1) []
def Dk.cutN (D : Dk) : Int := if D.on then D.waits.length else 0

/-- What holds while the sectors that last are taken over: every entry that was seen stands in the new map. -/
def Taken (L : Int → Option Wr) (es : Array MapEntry) (seen : Array Nat) (N : Int → Option Bytes) : Prop :=
  (∀ k, N k = none ∨ N k = (L k).map (·.data)) ∧ ∀ e ∈ es.toList, seen.contains e.born = true → N (keyI e.key) = (L (keyI e.key)).map (·.data)

theorem lookI_mem : ∀ {es : List MapEntry} {k : Int} {v : Value}, lookI es k = some v → ∃ e ∈ es, keyI e.key = k ∧ e.val = v
  | [], _, _, h => by simp [lookI] at h
  | e :: es, k, v, h => by
    rw [lookI] at h
    split at h
    · exact ⟨e, by simp, ‹_›, by simpa using h⟩
    · obtain ⟨e', he, h1, h2⟩ := lookI_mem h
      exact ⟨e', by simp [he], h1, h2⟩
theorem mem_lookI : ∀ {es : List MapEntry} (_ : (es.map (fun e => keyI e.key)).Nodup) {e : MapEntry} (_ : e ∈ es), lookI es (keyI e.key) = some e.val
  | a :: es, hn, e, he => by
    rw [List.map_cons, List.nodup_cons] at hn
    rw [lookI]
    rcases List.mem_cons.1 he with rfl | he
    · simp
    · rw [if_neg (fun h => hn.1 (by rw [h]; exact List.mem_map.2 ⟨e, he, rfl⟩))]
      exact mem_lookI hn.2 he

theorem born_inj : ∀ {l : List MapEntry} (_ : (l.map (·.born)).Nodup) {a b : MapEntry}, a ∈ l → b ∈ l → a.born = b.born → a = b
  | x :: l, hn, a, b, ha, hb, h => by
    rw [List.map_cons, List.nodup_cons] at hn
    have h1 := List.mem_cons.1 ha
    have h2 := List.mem_cons.1 hb
    clear ha hb
    rcases h1 with h1 | h1
    · rcases h2 with h2 | h2
      · rw [h1, h2]
      · exact (hn.1 (List.mem_map.2 ⟨b, h2, by rw [← h, h1]⟩)).elim
    · rcases h2 with h2 | h2
      · exact (hn.1 (List.mem_map.2 ⟨a, h1, by rw [h, h2]⟩)).elim
      · exact born_inj hn.2 h1 h2 h

theorem Taken.done {L : Int → Option Wr} {es : Array MapEntry} {clock : Nat} {seen : Array Nat} {N : Int → Option Bytes} (h : Taken L es seen N) (hok : MapOk es clock (fun k => (L k).map Wr.val)) (hall : ∀ e ∈ es.toList, seen.contains e.born = true) (k : Int) : N k = (L k).map (·.data) := by
  cases hk : L k with
  | none => rcases h.1 k with h | h
            · rw [h]; rfl
            · rw [h, hk]
  | some x =>
    have hf := hok.find k
    rw [hk] at hf
    obtain ⟨e, he, h1, _⟩ := lookI_mem hf
    have := h.2 e he (hall e he)
    rw [h1, hk] at this
    exact this

theorem ReadsInts.chg {F : Nat → Prop} {w w' : World} {v : Value} {l : List Int} (h : ReadsInts w v l) (hc : Chg F w w') (hn : ∀ k, v.ownBlock = some k → (w.heap[k]?.isSome = true → ∃ c t f, w.heap[k]? = some (.cells c t f)) → ¬ F k) : ReadsInts w' v l := by
  rcases h with h | ⟨g, off, c, h1, h2⟩
  · exact .inl h
  · refine .inr ⟨g, off, c, h1, fun j hj => hc.cell (h2 j hj) (hn g (by rw [h1]; rfl) (fun hs => ?_))⟩
    have := h2 j hj
    unfold World.cell? at this
    split at this
    · rename_i c t f he; exact ⟨c, t, f, he⟩
    · simp at this
theorem ReadsInts.chg_map {w w' : World} {v : Value} {l : List Int} {r : Nat} {f : Int → Option Value} (h : ReadsInts w v l) (hc : Chg (fun k => k = r) w w') (hm : MapAt w r f) : ReadsInts w' v l := by
  obtain ⟨es, c, hm, _⟩ := hm
  refine h.chg hc (fun k _ hk e => ?_)
  subst e
  obtain ⟨c, t, f, he⟩ := hk (by rw [hm]; rfl)
  rw [hm] at he; simp at he

set_option maxHeartbeats 3200000 in
set_option maxRecDepth 100000 in
theorem Cut_ok {w : World} {b : Nat} {D : Dk} {F : Nat → Prop} (h : DiskAt w b D F) (kv : Value) (keep : List Int) (hk : ReadsInts w kv keep) (hkb : kv.ownBlock ≠ some b) (hkl : keep.length ≤ 1000000000) (hl : D.waits.length ≤ 1000000000) :
    Calls Tryz.prog 46 #[.pointer (some ⟨b, 0, none⟩), kv] w fun e w' => e = .returned (.int .i64 D.cutN) ∧ DiskAt w' b (D.cut keep) (grow F w w') ∧ Chg F w w' := by
  have H0 := Lib.hid h
  have HKV := Lib.hid hk
  have HKB := Lib.hid hkb
  have hfb : F b := by obtain ⟨_, _, _, _, h⟩ := h; exact h.fb
  obtain ⟨ka, kc, hks⟩ : ∃ a c, kv = .slice a keep.length c := by
    rcases hk with ⟨h1, h2⟩ | ⟨g, off, c, h1, h2⟩
    · exact ⟨none, 0, by rw [h1, h2]; rfl⟩
    · exact ⟨_, _, h1⟩
  have HKS := Lib.hid hks
  rw [hks]
  clear h hk hkb hks
  go_enter Tryz.func46, Tryz.ntmps46
  go_wp2_with fail
  refine (Arm_ok H0.out (-1) (.slice none 0 0) [] (.inl ⟨rfl, rfl⟩) (by simp)).mono ?_
  rintro e w1 ⟨rfl, hd1, hc1⟩
  have hkv1 : ReadsInts w1 kv keep := by
    rcases HKV.out with h | ⟨g, off, c, h1, h2⟩
    · exact .inl h
    · exact .inr ⟨g, off, c, h1, fun j hj => hc1.cell (h2 j hj) (fun e => HKB.out (by rw [h1, ← e]; rfl))⟩
  have HD1 := Lib.hid hd1
  have HC1 := Lib.hid hc1
  have HKV1 := Lib.hid hkv1
  clear hd1 hc1 hkv1
  go_wp2_with fail
  refine (On_ok HD1.out).mono ?_
  rintro e w2 ⟨rfl, rfl⟩
  cases ho : D.on
  · have ho2 : (D.arm (-1) []).on = false := ho
    rw [ho2]
    have HO := Lib.hid ho
    clear ho ho2
    go_wp2_with fail
    go_ret
    refine ⟨by rw [Dk.cutN, HO.out]; rfl, ?_, HC1.out.mono (fun k hk => hk ▸ hfb)⟩
    rw [Dk.cut, HO.out]
    exact HD1.out
  · have ho2 : (D.arm (-1) []).on = true := ho
    rw [ho2]
    have HO := Lib.hid ho
    clear ho ho2
    obtain ⟨bn, bl, wv, sv, hR⟩ := HD1.out
    have HR := Lib.hid hR
    obtain ⟨g, cap, hwv⟩ : ∃ g cap, wv = .slice g D.waits.length cap := by
      rcases hR.waits.2 with ⟨rfl, hn⟩ | ⟨g, cap, cur, rfl, _⟩
      · exact ⟨none, 0, by rw [show D.waits.length = 0 from hn]⟩
      · exact ⟨_, _, rfl⟩
    have c5 : w1.cell? ⟨b, 5, none⟩ = some wv := hR.blk.cell 5 (by omega)
    have HWV := Lib.hid hwv
    rw [hwv] at c5
    clear hR hwv
    go_wp2_with fail
    go_loopw [21] (fun i wr => ∃ k : Nat, k ≤ D.waits.length ∧ i = .int .i64 k ∧ Hid (DiskR wr b bn bl wv sv { D.arm (-1) [] with lasts := cutL keep D.lasts 0 (D.waits.take k) } (grow F w w1)) ∧ Hid (ReadsInts wr kv keep) ∧ Hid (Chg (fun k => k = bl) w1 wr)) (fun i _ => D.waits.length - (intOf i).toNat)
    case atStart => exact ⟨0, Nat.zero_le _, rfl, HR, HKV1, Lib.hid (Chg.refl _ _)⟩
    case round =>
      obtain ⟨k, hkk, rfl, HD, HKr, HC⟩ := hrel
      by_cases hlt : k < D.waits.length
      · obtain ⟨g0, rfl⟩ : ∃ g0, g = some ⟨g0, 0, none⟩ := by
          rcases HR.out.waits.2 with ⟨hv, hn⟩ | ⟨g0, cap0, cur, hv, _⟩
          · have : D.waits.length = 0 := hn
            omega
          · rw [HWV.out] at hv; simp at hv; exact ⟨g0, hv.1⟩
        obtain ⟨e0, e1, e2, e3⟩ := flat_get D.waits k hlt
        obtain ⟨x, hx⟩ : ∃ x, x = D.waits[k] := ⟨_, rfl⟩
        rw [← hx] at e0 e1 e2 e3
        have hob : wv.ownBlock = some g0 := by rw [HWV.out]; rfl
        have d0 := row_cell HD.out.waits hob e0
        have d1 := row_cell HD.out.waits hob e1
        have d2 := row_cell HD.out.waits hob e2
        have d3 := row_cell HD.out.waits hob e3
        have hct := cutL_take keep D.lasts D.waits k hlt
        rw [← hx] at hct
        clear e0 e1 e2 e3 hob hx
        by_cases hkl2 : k < keep.length
        · obtain ⟨z, hz⟩ : ∃ z, z = keep.getD k 0 := ⟨_, rfl⟩
          obtain ⟨kg, ko, hka, hkc⟩ : ∃ kg ko, ka = some ⟨kg, ko, none⟩ ∧ wr.cell? ⟨kg, ko + k, none⟩ = some (.int .i64 z) := by
            rcases HKr.out with ⟨h1, h2⟩ | ⟨g, off, c, h1, h2⟩
            · rw [h2] at hkl2; simp at hkl2
            · rw [HKS.out] at h1
              simp at h1
              exact ⟨g, off, h1.1, by rw [hz]; exact h2 k hkl2⟩
          rw [← hz] at hct
          subst hka
          have hkg : kg < wr.heap.size := World.block_lt_of_cell? wr ⟨kg, ko + k, none⟩ hkc
          cases hod : oddI z
          · rw [hod] at hct
            have HCT := Lib.hid hct
            have hod2 : (bits .and .i64 z 1 == 1) = false := hod
            have HZ := Lib.hid hz
            have hC2 := HC.out.alloc (.cells #[.int .i64 x.node, .int .i64 x.at_, .int .i64 x.seq, S x.data] 219)
            have HD2 := Lib.hid (HD.out.chg ((Chg.refl No wr).alloc (.cells #[.int .i64 x.node, .int .i64 x.at_, .int .i64 x.seq, S x.data] 219)) (fun _ _ => id))
            have HK2 := Lib.hid (HKr.out.chg ((Chg.refl No wr).alloc (.cells #[.int .i64 x.node, .int .i64 x.at_, .int .i64 x.seq, S x.data] 219)) (fun _ _ _ => id))
            have HC2 := Lib.hid hC2
            clear hct hod hz hC2
            go_wp2_with fail
            go_roundw
            case rel =>
              refine ⟨k + 1, by omega, by go_num, Lib.hid ?_, HK2, HC2⟩
              have := HD2.out
              simp only [HCT.out]
              exact this
            case measure => simp [intOf]; omega
          · rw [hod] at hct
            have HCT := Lib.hid hct
            have hod2 : (bits .and .i64 z 1 == 1) = true := hod
            have HZ := Lib.hid hz
            have hD2 := HD.out.chg ((Chg.refl No wr).alloc (.cells #[.int .i64 x.node, .int .i64 x.at_, .int .i64 x.seq, S x.data] 219)) (fun _ _ => id)
            have HD2 := Lib.hid hD2
            have HK2 := Lib.hid (HKr.out.chg ((Chg.refl No wr).alloc (.cells #[.int .i64 x.node, .int .i64 x.at_, .int .i64 x.seq, S x.data] 219)) (fun _ _ _ => id))
            clear hct hod hz hD2
            go_wp2_with fail
            refine (keep_ok HD2.out x).mono ?_
            rintro e w3 ⟨rfl, hD3, hc3⟩
            have HD3 := Lib.hid hD3
            have HK3 := Lib.hid (HK2.out.chg_map hc3 HD2.out.lasts)
            have HC3 := Lib.hid ((HC.out.alloc _).trans_same hc3)
            clear hD3 hc3
            go_wp2_with fail
            go_roundw
            case rel =>
              refine ⟨k + 1, by omega, by go_num, Lib.hid ?_, HK3, HC3⟩
              have := HD3.out
              simp only [HCT.out]
              exact this
            case measure => simp [intOf]; omega
        · have hkd : keep.getD k 0 = 0 := by simp [List.getD, List.getElem?_eq_none (Nat.le_of_not_lt hkl2)]
          rw [hkd, oddI_zero] at hct
          have HCT := Lib.hid hct
          have hkf : decide ((k : Int) < (keep.length : Int)) = false := by simp; omega
          have hkf2 : decide (k < keep.length) = false := by simp; omega
          have HC2 := Lib.hid (HC.out.alloc (.cells #[.int .i64 x.node, .int .i64 x.at_, .int .i64 x.seq, S x.data] 219))
          have HD2 := Lib.hid (HD.out.chg ((Chg.refl No wr).alloc (.cells #[.int .i64 x.node, .int .i64 x.at_, .int .i64 x.seq, S x.data] 219)) (fun _ _ => id))
          have HK2 := Lib.hid (HKr.out.chg ((Chg.refl No wr).alloc (.cells #[.int .i64 x.node, .int .i64 x.at_, .int .i64 x.seq, S x.data] 219)) (fun _ _ _ => id))
          clear hct hkd
          go_wp2_with fail
          go_roundw
          case rel =>
            refine ⟨k + 1, by omega, by go_num, Lib.hid ?_, HK2, HC2⟩
            have := HD2.out
            simp only [HCT.out]
            exact this
          case measure => simp [intOf]; omega
      · obtain rfl : k = D.waits.length := by omega
        obtain ⟨wo, rfl⟩ : ∃ wo : World, wo = wr := ⟨_, rfl⟩
        have hD := HD.out
        rw [List.take_length] at hD
        have e1 := hD.blk.cell 1 (by omega)
        have e3 := hD.blk.cell 3 (by omega)
        have e4 := hD.blk.cell 4 (by omega)
        have e5 := hD.blk.cell 5 (by omega)
        have f1 := hD.blk.free 1
        have f3 := hD.blk.free 3
        have f5 := hD.blk.free 5
        simp only [diskCell] at e1 e3 e4 e5
        have hbz := hD.blk.lt
        have hmm := @run_makeMap Tryz.prog
        have HDF := Lib.hid hD
        have HKS2 := HKS
        clear hD HKr HD
        go_wp2_with fail
        have hsz : ((wo.setCell ⟨b, 1, none⟩ (.bool false)).setCell ⟨b, 3, none⟩ (.map (some wo.heap.size))).heap.size = wo.heap.size := by simp [World.setCell]
        generalize hW : (((wo.setCell ⟨b, 1, none⟩ (.bool false)).setCell ⟨b, 3, none⟩ (.map (some wo.heap.size))).alloc (Obj.map #[] 0)) = W
        clear e1 e3 e4 e5 f1 f3 f5 hmm
        have hbn : ∀ k, k ≠ b → k < wo.heap.size → W.heap[k]? = wo.heap[k]? := fun k hk hlt => by
          rw [← hW, Below.heap_alloc _ _ _ (by rw [hsz]; exact hlt), blk_set_ne rfl hk, blk_set_ne rfl hk]
        obtain ⟨es, clock, hml, hok⟩ := HDF.out.lasts
        have hml2 : W.heap[bl]? = some (.map es clock) := (hbn bl HDF.out.ne_l (blk_lt hml)).trans hml
        have hrg := run_range_i (P := Tryz.prog) und_lasts hml2
        have hmn : MapAt W wo.heap.size (fun _ => none) := by
          have := MapAt.fresh ((wo.setCell ⟨b, 1, none⟩ (.bool false)).setCell ⟨b, 3, none⟩ (.map (some wo.heap.size)))
          rw [hsz] at this
          rw [← hW]; exact this
        have hblkW : BlkF W b 147 44 (fun i => if i = 3 then .map (some wo.heap.size) else if i = 1 then .bool false else diskCell { D.arm (-1) [] with lasts := cutL keep D.lasts 0 D.waits } bn bl wv sv i) := by
          rw [← hW]
          exact ((HDF.out.blk.set 1 _).set 3 _).of (Below.heap_alloc _ _ _ (by rw [hsz]; exact hbz))
        have hCW : Chg (fun k => k = b) wo W := by
          rw [← hW]
          exact (Chg.setCell (F := fun k => k = b) (Chg.setCell (F := fun k => k = b) (Chg.refl _ wo) (p := ⟨b, 1, none⟩) (.inl rfl) _) (p := ⟨b, 3, none⟩) (.inl rfl) _).alloc _
        have hWs : W.heap.size = wo.heap.size + 1 := by rw [← hW, World.size_alloc, hsz]
        clear hsz
        have HML := Lib.hid hml2
        have HOK := Lib.hid hok
        have HMN := Lib.hid hmn
        have HBW := Lib.hid hblkW
        have HCW := Lib.hid hCW
        have HWS := Lib.hid hWs
        clear hW hbn hml hml2 hok hmn hblkW hCW hWs
        go_wp2_with fail
        have hbW : b < W.heap.size := HBW.out.lt
        have hblW : bl < W.heap.size := blk_lt HML.out
        have hblr : bl < wo.heap.size := HDF.out.lasts.lt
        go_loopw [54] (fun _ wq => ∃ seen N, Hid (wq.heap[W.heap.size]? = some (.mapIter (some bl) clock seen clock)) ∧ Hid (MapAt wq wo.heap.size (fun k => (N k).map S)) ∧ Hid (Taken (cutL keep D.lasts 0 D.waits) es seen N) ∧ Hid (Chg (fun k => wo.heap.size ≤ k) W wq)) (fun _ wq => iterLeft wq W.heap.size bl)
        case atStart =>
          refine ⟨#[], fun _ => none, Lib.hid (blk_new W _), Lib.hid (HMN.out.of (Below.heap_alloc _ _ _ HMN.out.lt)), Lib.hid ⟨fun k => .inl rfl, fun e _ h => by simp at h⟩, Lib.hid ((Chg.refl _ W).alloc _)⟩
        case round =>
          obtain ⟨seen, N, HI, HN, HT, HQ⟩ := hrel
          have hmq : wr.heap[bl]? = some (Obj.map es clock) := HQ.out.obj HML.out (by omega)
          have HMQ := Lib.hid hmq
          by_cases hleft : iterLeft wr W.heap.size bl = 0
          · have hnx := run_next_end (P := Tryz.prog) HI.out hmq HOK.out hleft
            have hBr := HBW.out.chg HQ.out (by omega)
            have c5r : wr.cell? ⟨b, 5, none⟩ = some wv := hBr.cell 5 (by omega)
            have f5r := hBr.free 5
            rw [HWV.out] at c5r
            have HBR := Lib.hid hBr
            clear hmq hBr
            go_wp2_with fail
            go_ret
            have hWS := HWS.out
            have hqs := HQ.out.size
            have hcs := HC.out.size
            have h1s := HC1.out.size
            have hall : ∀ e ∈ es.toList, seen.contains e.born = true := by
              simp only [iterLeft, HI.out, HMQ.out] at hleft
              have h0 := List.eq_nil_of_length_eq_zero hleft
              rw [List.filter_eq_nil_iff] at h0
              intro e he
              have := h0 e he
              simpa using this
            have hon := HO.out
            have hE : D.cut keep = D.cutOn keep := by rw [Dk.cut, hon]; rfl
            have hcq : Chg (fun k => k = b ∨ wo.heap.size ≤ k) wo (wr.setCell ⟨b, 5, none⟩ (.slice none 0 0)) :=
              Chg.setCell (F := fun k => k = b ∨ wo.heap.size ≤ k) ((HCW.out.mono (fun k hk => Or.inl hk)).trans HQ.out (fun k hk => .inl (.inr hk))) (p := ⟨b, 5, none⟩) (.inl (.inl rfl)) _
            have hfin : Chg F w (wr.setCell ⟨b, 5, none⟩ (.slice none 0 0)) := by
              refine Chg.trans (Chg.trans (HC1.out.mono (fun k hk => hk ▸ hfb)) HC.out (fun k hk => ?_)) hcq (fun k hk => ?_)
              · subst hk
                exact HDF.out.fl.imp id (·.1)
              · rcases hk with rfl | hk
                · exact .inl hfb
                · exact .inr (by omega)
            refine ⟨by rw [Dk.cutN, hon]; rfl, ?_, hfin⟩
            rw [hE]
            refine ⟨wo.heap.size, bl, .slice none 0 0, sv, ?_, ?_, ?_, ?_, ?_, ?_, ?_, ?_, ?_, ?_, ?_, ?_⟩
            · refine (HBR.out.set 5 _).congr (fun i hi => ?_)
              by_cases e5 : i = 5
              · subst e5; rfl
              · rw [if_neg e5]
                by_cases e3 : i = 3
                · subst e3; rfl
                · rw [if_neg e3]
                  by_cases e1 : i = 1
                  · subst e1; rfl
                  · rw [if_neg e1]
                    simp [diskCell, e1, e3, e5, Dk.cutOn, Dk.arm]
            · refine (HN.out.of (blk_set_ne rfl (by omega))).congr (fun k => ?_)
              rw [HT.out.done HOK.out hall k]; rfl
            · exact (MapAt.of (w := wr) ⟨es, clock, HMQ.out, HOK.out⟩ (blk_set_ne rfl HDF.out.ne_l))
            · exact World.ownsRow_nil _ _ _ _
            · refine row_of HDF.out.stays (fun k hk => hcq.block k (row_lt HDF.out.stays hk) (fun h => ?_))
              rcases h with rfl | h
              · exact row_ne_blk HDF.out.stays HDF.out.blk (by decide) hk
              · have := row_lt HDF.out.stays hk; omega
            · exact .inl hfb
            · exact .inr ⟨by omega, by simp [World.setCell]; omega⟩
            · exact HDF.out.fl.imp id (fun h => ⟨h.1, by simp [World.setCell]; omega⟩)
            · intro k hk; simp [Value.ownBlock] at hk
            · exact fun k hk => (HDF.out.fs k hk).imp id (fun h => ⟨h.1, by simp [World.setCell]; omega⟩)
            · omega
            · exact grow_lt H0.out.lt (by simp [World.setCell]; omega)
          · obtain ⟨e, n, hem, hes, hnx⟩ := run_next_more (P := Tryz.prog) HI.out hmq HOK.out hleft 0
            obtain ⟨kk, hkk2⟩ : ∃ kk, kk = keyI e.key := ⟨_, rfl⟩
            have hek : e.key = .int .i64 kk := by rw [hkk2]; exact HOK.out.keys e hem
            have hlk := mem_lookI HOK.out.nodup hem
            rw [HOK.out.find, ← hkk2] at hlk
            obtain ⟨x, hx1, hx2⟩ : ∃ x, cutL keep D.lasts 0 D.waits kk = some x ∧ x.val = e.val := by
              cases hc : cutL keep D.lasts 0 D.waits kk with
              | none => rw [hc] at hlk; simp at hlk
              | some x => rw [hc] at hlk; exact ⟨x, rfl, by simpa using hlk⟩
            rw [hek, ← hx2] at hnx
            have hC3 : Chg (fun k => k = W.heap.size) wr (setIter (wr.drewN n) W.heap.size bl clock (seen.push e.born)) := Chg.setIter (F := fun k => k = W.heap.size) ((Chg.refl _ wr).drewN n) (.inl rfl) _ _ _
            have hI3 : (setIter (wr.drewN n) W.heap.size bl clock (seen.push e.born)).heap[W.heap.size]? = some (.mapIter (some bl) clock (seen.push e.born) clock) := setIter_same (blk_lt HI.out)
            generalize hW3 : setIter (wr.drewN n) W.heap.size bl clock (seen.push e.born) = W3 at hnx hC3 hI3
            have hm3 : W3.heap[bl]? = some (.map es clock) := hC3.obj hmq (by omega)
            have hent := run_entry_i (P := Tryz.prog) hI3 hm3 HOK.out hem
            rw [hek, ← hx2] at hent
            unfold Wr.val Wr.cells at hnx hent
            have hn3 : MapAt W3 wo.heap.size (fun k => (N k).map S) := HN.out.chg hC3 (by have := HWS.out; omega)
            have hz3 : wo.heap.size < W3.heap.size := hn3.lt
            have hB3 := (HBW.out.chg HQ.out (by omega)).chg hC3 (by have := HWS.out; omega)
            have c3r : W3.cell? ⟨b, 3, none⟩ = some (.map (some wo.heap.size)) := hB3.cell 3 (by omega)
            have hb3 : b < W3.heap.size := hB3.lt
            have hn4 : MapAt (W3.alloc (.cells #[.int .i64 x.node, .int .i64 x.at_, .int .i64 x.seq, S x.data] 219)).drew wo.heap.size (fun k => (N k).map S) := hn3.of (Below.heap_alloc _ _ _ hn3.lt)
            obtain ⟨es4, clock4, hup, hok4⟩ := run_mapUpdate_i und_now und_int hn4 kk (S x.data)
            have hsm : ∀ y : Addr, (setMap (W3.alloc (.cells #[.int .i64 x.node, .int .i64 x.at_, .int .i64 x.seq, S x.data] 219)).drew wo.heap.size es4 clock4).cell? y = (W3.alloc (.cells #[.int .i64 x.node, .int .i64 x.at_, .int .i64 x.seq, S x.data] 219)).cell? y := fun y => setMap_cell hn4 es4 clock4 y
            have HX1 := Lib.hid hx1
            have HKK := Lib.hid hkk2
            have HI3 := Lib.hid hI3
            have HC3 := Lib.hid hC3
            have HN4 := Lib.hid hn4
            have HOK4 := Lib.hid hok4
            have HM3 := Lib.hid hm3
            clear hmq hek hlk hx1 hx2 hI3 hW3 hm3 hn3 hB3 hn4 hok4 hC3 hkk2
            go_wp2_with fail
            go_region_held3 (fun w' => w'.cell? ⟨b, 3, none⟩ = some (.map (some wo.heap.size)) ∧ w'.cell? ⟨W3.heap.size, 3, none⟩ = some (S x.data)) (go_keep) (fail)
            go_wp2_with fail
            have hWS := HWS.out
            have hix : (setMap (W3.alloc (.cells #[.int .i64 x.node, .int .i64 x.at_, .int .i64 x.seq, S x.data] 219)).drew wo.heap.size es4 clock4).heap[W.heap.size]? = some (.mapIter (some bl) clock (seen.push e.born) clock) := by
              rw [setMap_ne (by omega)]; exact blk_alloc _ HI3.out
            have hmx : (setMap (W3.alloc (.cells #[.int .i64 x.node, .int .i64 x.at_, .int .i64 x.seq, S x.data] 219)).drew wo.heap.size es4 clock4).heap[bl]? = some (.map es clock) := by
              rw [setMap_ne (by omega)]; exact blk_alloc _ HM3.out
            refine ⟨⟨seen.push e.born, upd N kk x.data, Lib.hid hix, Lib.hid ?_, Lib.hid ?_, Lib.hid ?_⟩, ?_⟩
            · refine (MapAt.new HN4.out HOK4.out).congr (fun k => ?_)
              simp only [upd]
              split <;> rfl
            · refine ⟨fun k => ?_, fun e' he' hs' => ?_⟩
              · simp only [upd]
                split
                · rename_i h; rw [h, HX1.out]; exact .inr rfl
                · exact HT.out.1 k
              · simp only [upd]
                by_cases hk' : keyI e'.key = kk
                · rw [if_pos hk', hk', HX1.out]; rfl
                · rw [if_neg hk']
                  refine HT.out.2 e' he' ?_
                  rw [Array.contains_push] at hs'
                  rw [Bool.or_eq_true] at hs'
                  rcases hs' with hs' | hs'
                  · exact hs'
                  · exfalso
                    apply hk'
                    have hb := HOK.out.borns
                    have hee : e' = e := by
                      have hbb : e'.born = e.born := by simpa using hs'
                      exact born_inj hb he' hem hbb
                    rw [hee, HKK.out]
            · exact Chg.setMap (F := fun k => wo.heap.size ≤ k) ((HQ.out.trans HC3.out (fun k hk => .inl (by omega))).alloc _).drew (.inl (Nat.le_refl _)) _ _
            · show iterLeft _ W.heap.size bl < iterLeft wr W.heap.size bl
              simp only [iterLeft, hix, hmx, HI.out, HMQ.out]
              refine filter_lt es.toList (fun y hy => ?_) hem (by rw [hes]; rfl) (by simp)
              rw [Array.contains_push] at hy
              simp at hy ⊢
              exact hy.1
end Go.Proofs.YtmmnjecaedmleaaGreatDoor

/- sdisk: goes, Barrier, Fence, Admit, Put, Epoch, New: contracts. -/
namespace Go.Proofs.YtmmnjecaedmleaaGreatDoor
open Go.RowKit
attribute [local go_sem ↓] Go.wp_at_zero Go.wp_at_succ

/-- Lists short enough, numbers in their kind. -/
structure Dk.Fit (D : Dk) : Prop where
  s0 : 0 < D.sectors
  s1 : D.sectors ≤ 20000
  waits : D.waits.length ≤ 100000000
  stays : D.stays.length ≤ 100000000
  seq : D.seq ≤ 1000000000000
  left : D.left ≤ 9223372036854775807

def Dk.goes (D : Dk) : Bool × Dk := if D.armed then (if 0 < D.left then (false, { D with left := D.left - 1 }) else (true, D.cut D.stays)) else (false, D)

theorem goes_ok {w : World} {b : Nat} {D : Dk} {F : Nat → Prop} (h : DiskAt w b D F) (hf : D.Fit) :
    Calls Tryz.prog 80 #[.pointer (some ⟨b, 0, none⟩)] w fun e w' => e = .returned (.bool D.goes.1) ∧ DiskAt w' b D.goes.2 (grow F w w') ∧ Chg F w w' := by
  have H0 := Lib.hid h
  obtain ⟨bn, bl, wv, sv, h⟩ := h
  have hlf := hf.left
  have HF := Lib.hid hf
  have c9 : w.cell? ⟨b, 41, none⟩ = some (.bool D.armed) := h.blk.cell 41 (by omega)
  have c10 : w.cell? ⟨b, 42, none⟩ = some (.int .i64 D.left) := h.blk.cell 42 (by omega)
  have c11 : w.cell? ⟨b, 43, none⟩ = some sv := h.blk.cell 43 (by omega)
  have f10 := h.blk.free 42
  have H := Lib.hid h
  clear h hf
  cases ha : D.armed
  · rw [show D.goes = (false, D) by simp [Dk.goes, ha]]
    rw [ha] at c9
    clear ha
    go_enter Tryz.func80, Tryz.ntmps80
    go_wp2_with fail
    go_ret
    exact ⟨rfl, H0.out.no (Chg.refl _ _), Chg.refl _ _⟩
  · rw [ha] at c9
    by_cases hl : 0 < D.left
    · rw [show D.goes = (false, { D with left := D.left - 1 }) by simp [Dk.goes, ha, hl]]
      clear ha
      go_enter Tryz.func80, Tryz.ntmps80
      go_wp2_with fail
      go_ret
      have hc : Chg F w (w.setCell ⟨b, 42, none⟩ (.int .i64 (D.left - 1))) := (Chg.refl _ _).setCell (p := ⟨b, 42, none⟩) (.inl H.out.fb) _
      refine ⟨rfl, ⟨bn, bl, wv, sv, (H.out.set 42 _ { D with left := D.left - 1 } ?_ rfl rfl rfl rfl).wide grow_sub (grow_lt H.out.lt hc.size)⟩, hc⟩
      intro i hi
      unfold diskCell
      by_cases e : i = 42
      · subst e; rfl
      · simp [e]
    · rw [show D.goes = (true, D.cut D.stays) by simp [Dk.goes, ha, hl]]
      clear ha
      go_enter Tryz.func80, Tryz.ntmps80
      go_wp2_with fail
      refine (Cut_ok H0.out sv D.stays (readsInts_of_row H.out.stays) (row_ne_blk H.out.stays H.out.blk (by decide)) (by have := HF.out.stays; omega) (by have := HF.out.waits; omega)).mono ?_
      rintro e w1 ⟨rfl, hd1, hc1⟩
      have HD1 := Lib.hid hd1
      have HC1 := Lib.hid hc1
      clear hd1 hc1
      go_wp2_with fail
      go_ret
      exact ⟨rfl, HD1.out, HC1.out⟩

def Dk.barrier (D : Dk) (node : Int) (epoch : Nat) : Int × Dk :=
  if D.may node ≠ 0 then (D.may node, D) else if D.admits node epoch ≠ 0 then (D.admits node epoch, D) else if D.goes.1 then (14, D.goes.2) else (0, D.goes.2.settle node)

theorem may_zero {D : Dk} {node : Int} (h : D.may node = 0) : D.on = true ∧ 0 ≤ node ∧ node ≤ 16 := by
  unfold Dk.may at h
  split at h
  · split at h
    · exact ⟨‹_›, ‹_›⟩
    · omega
  · omega
theorem goes_waits {D : Dk} : D.goes.1 = false → D.goes.2.waits = D.waits := by
  unfold Dk.goes
  split
  · split <;> simp
  · simp

theorem Barrier_ok {w : World} {b : Nat} {D : Dk} {F : Nat → Prop} (h : DiskAt w b D F) (hf : D.Fit) (node : Int) (epoch : Nat) :
    Calls Tryz.prog 17 #[.pointer (some ⟨b, 0, none⟩), .int .i64 node, .int .u64 epoch] w fun e w' => e = .returned (.int .i64 (D.barrier node epoch).1) ∧ DiskAt w' b (D.barrier node epoch).2 (grow F w w') ∧ Chg F w w' := by
  have H := Lib.hid h
  have HF := Lib.hid hf
  clear h hf
  by_cases hm : D.may node = 0
  · obtain ⟨hon, hn0, hn1⟩ := may_zero hm
    by_cases ha : D.admits node epoch = 0
    · cases hg : D.goes.1
      · rw [show D.barrier node epoch = (0, D.goes.2.settle node) by simp [Dk.barrier, hm, ha, hg]]
        have hgw := goes_waits hg
        have HGW := Lib.hid hgw
        have HG := Lib.hid hg
        have HA := Lib.hid ha
        have HM := Lib.hid hm
        clear hon hgw hg ha hm
        go_enter Tryz.func17, Tryz.ntmps17
        go_wp2_with fail
        refine (may_ok H.out node).mono ?_
        rintro e w1 ⟨rfl, rfl⟩
        rw [HM.out]
        go_wp2_with fail
        refine (admits_ok H.out node epoch hn0 hn1).mono ?_
        rintro e w1 ⟨rfl, rfl⟩
        rw [HA.out]
        go_wp2_with fail
        refine (goes_ok H.out HF.out).mono ?_
        rintro e w1 ⟨rfl, hd1, hc1⟩
        rw [HG.out]
        have HD1 := Lib.hid hd1
        have HC1 := Lib.hid hc1
        clear hd1 hc1
        go_wp2_with fail
        refine (settle_ok HD1.out node (by rw [HGW.out]; have := HF.out.waits; omega)).mono ?_
        rintro e w2 ⟨rfl, hd2, hc2⟩
        have HD2 := Lib.hid hd2
        have HC2 := Lib.hid hc2
        clear hd2 hc2
        go_wp2_with fail
        go_ret
        exact ⟨rfl, HD2.out.wide (grow_grow HC1.out.size HC2.out.size) (grow_lt H.out.lt (Nat.le_trans HC1.out.size HC2.out.size)), HC1.out.trans_grow HC2.out⟩
      · rw [show D.barrier node epoch = (14, D.goes.2) by simp [Dk.barrier, hm, ha, hg]]
        have HG := Lib.hid hg
        have HA := Lib.hid ha
        have HM := Lib.hid hm
        clear hon hg ha hm
        go_enter Tryz.func17, Tryz.ntmps17
        go_wp2_with fail
        refine (may_ok H.out node).mono ?_
        rintro e w1 ⟨rfl, rfl⟩
        rw [HM.out]
        go_wp2_with fail
        refine (admits_ok H.out node epoch hn0 hn1).mono ?_
        rintro e w1 ⟨rfl, rfl⟩
        rw [HA.out]
        go_wp2_with fail
        refine (goes_ok H.out HF.out).mono ?_
        rintro e w1 ⟨rfl, hd1, hc1⟩
        rw [HG.out]
        have HD1 := Lib.hid hd1
        have HC1 := Lib.hid hc1
        clear hd1 hc1
        go_wp2_with fail
        go_ret
        exact ⟨rfl, HD1.out, HC1.out⟩
    · rw [show D.barrier node epoch = (D.admits node epoch, D) by simp [Dk.barrier, hm, ha]]
      have HM := Lib.hid hm
      have ha2 : (D.admits node epoch != 0) = true := by simp [ha]
      clear hon ha hm
      go_enter Tryz.func17, Tryz.ntmps17
      go_wp2_with fail
      refine (may_ok H.out node).mono ?_
      rintro e w1 ⟨rfl, rfl⟩
      rw [HM.out]
      go_wp2_with fail
      refine (admits_ok H.out node epoch hn0 hn1).mono ?_
      rintro e w1 ⟨rfl, rfl⟩
      go_wp2_with fail
      go_ret
      exact ⟨rfl, H.out.no (Chg.refl _ _), Chg.refl _ _⟩
  · rw [show D.barrier node epoch = (D.may node, D) by simp [Dk.barrier, hm]]
    have hm2 : (D.may node != 0) = true := by simp [hm]
    clear hm
    go_enter Tryz.func17, Tryz.ntmps17
    go_wp2_with fail
    refine (may_ok H.out node).mono ?_
    rintro e w1 ⟨rfl, rfl⟩
    go_wp2_with fail
    go_ret
    exact ⟨rfl, H.out.no (Chg.refl _ _), Chg.refl _ _⟩
end Go.Proofs.YtmmnjecaedmleaaGreatDoor

/- sdisk: Fence, Admit, Put, Epoch, New: contracts. -/
namespace Go.Proofs.YtmmnjecaedmleaaGreatDoor
open Go.RowKit
attribute [local go_sem ↓] Go.wp_at_zero Go.wp_at_succ

def setN {α : Type} (f : Nat → α) (n : Nat) (v : α) : Nat → α := fun i => if i = n then v else f i
theorem diskCell_lo (D : Dk) (bn bl : Nat) (wv sv : Value) (i : Nat) (h0 : 6 ≤ i) (h1 : i < 23) : diskCell D bn bl wv sv i = .int .u64 (D.table (i - 6)) := by
  unfold diskCell
  rw [if_neg (by omega), if_neg (by omega), if_neg (by omega), if_neg (by omega), if_neg (by omega), if_neg (by omega), if_pos (by omega)]
theorem diskCell_mid (D : Dk) (bn bl : Nat) (wv sv : Value) (i : Nat) (h0 : 23 ≤ i) (h1 : i < 40) : diskCell D bn bl wv sv i = .int .u64 (D.words (i - 23)) := by
  unfold diskCell
  rw [if_neg (by omega), if_neg (by omega), if_neg (by omega), if_neg (by omega), if_neg (by omega), if_neg (by omega), if_neg (by omega), if_pos (by omega)]
theorem diskCell_hi (D : Dk) (bn bl : Nat) (wv sv : Value) (i : Nat) (h0 : 40 ≤ i) : diskCell D bn bl wv sv i = if i = 40 then .int .u64 D.last else if i = 41 then .bool D.armed else if i = 42 then .int .i64 D.left else sv := by
  unfold diskCell
  rw [if_neg (by omega), if_neg (by omega), if_neg (by omega), if_neg (by omega), if_neg (by omega), if_neg (by omega), if_neg (by omega), if_neg (by omega)]
theorem diskCell_six (D : Dk) (bn bl : Nat) (wv sv : Value) (i : Nat) (h : i < 6) : diskCell D bn bl wv sv i = if i = 0 then .int .i64 D.sectors else if i = 1 then .bool D.on else if i = 2 then .int .i64 D.seq else if i = 3 then .map (some bn) else if i = 4 then .map (some bl) else wv := by
  have : i = 0 ∨ i = 1 ∨ i = 2 ∨ i = 3 ∨ i = 4 ∨ i = 5 := by omega
  rcases this with rfl | rfl | rfl | rfl | rfl | rfl <;> rfl
theorem diskCell_table (D : Dk) (bn bl : Nat) (wv sv : Value) (n : Nat) (hn : n ≤ 16) (e : Nat) : ∀ i, i < 44 → (if i = 6 + n then Value.int .u64 (e : Int) else diskCell D bn bl wv sv i) = diskCell { D with table := setN D.table n e } bn bl wv sv i := by
  intro i hi
  by_cases h : i < 6
  · rw [if_neg (by omega), diskCell_six _ _ _ _ _ _ h, diskCell_six _ _ _ _ _ _ h]
  · by_cases h2 : i < 23
    · rw [diskCell_lo _ _ _ _ _ _ (by omega) h2, diskCell_lo _ _ _ _ _ _ (by omega) h2]
      by_cases h3 : i = 6 + n
      · subst h3; rw [if_pos rfl]; simp [setN]
      · rw [if_neg h3]; simp [setN, show i - 6 ≠ n by omega]
    · by_cases h3 : i < 40
      · rw [if_neg (by omega), diskCell_mid _ _ _ _ _ _ (by omega) h3, diskCell_mid _ _ _ _ _ _ (by omega) h3]
      · rw [if_neg (by omega), diskCell_hi _ _ _ _ _ _ (by omega), diskCell_hi _ _ _ _ _ _ (by omega)]
theorem diskCell_words (D : Dk) (bn bl : Nat) (wv sv : Value) (n : Nat) (hn : n ≤ 16) (e : Nat) : ∀ i, i < 44 → (if i = 23 + n then Value.int .u64 (e : Int) else diskCell D bn bl wv sv i) = diskCell { D with words := setN D.words n e } bn bl wv sv i := by
  intro i hi
  by_cases h : i < 6
  · rw [if_neg (by omega), diskCell_six _ _ _ _ _ _ h, diskCell_six _ _ _ _ _ _ h]
  · by_cases h2 : i < 23
    · rw [if_neg (by omega), diskCell_lo _ _ _ _ _ _ (by omega) h2, diskCell_lo _ _ _ _ _ _ (by omega) h2]
    · by_cases h3 : i < 40
      · rw [diskCell_mid _ _ _ _ _ _ (by omega) h3, diskCell_mid _ _ _ _ _ _ (by omega) h3]
        by_cases h4 : i = 23 + n
        · subst h4; rw [if_pos rfl]; simp [setN]
        · rw [if_neg h4]; simp [setN, show i - 23 ≠ n by omega]
      · rw [if_neg (by omega), diskCell_hi _ _ _ _ _ _ (by omega), diskCell_hi _ _ _ _ _ _ (by omega)]
theorem diskCell_last (D : Dk) (bn bl : Nat) (wv sv : Value) (e : Nat) : ∀ i, i < 44 → (if i = 40 then Value.int .u64 (e : Int) else diskCell D bn bl wv sv i) = diskCell { D with last := e } bn bl wv sv i := by
  intro i hi
  unfold diskCell
  by_cases h : i = 40
  · subst h; rfl
  · simp [h]
theorem diskCell_at (D : Dk) (bn bl : Nat) (wv sv : Value) (n : Nat) (hn : n ≤ 16) : diskCell D bn bl wv sv (6 + n) = .int .u64 (D.table n) := by
  rw [diskCell_lo _ _ _ _ _ _ (by omega) (by omega), show 6 + n - 6 = n by omega]
theorem diskCell_word (D : Dk) (bn bl : Nat) (wv sv : Value) (n : Nat) (hn : n ≤ 16) : diskCell D bn bl wv sv (23 + n) = .int .u64 (D.words n) := by
  rw [diskCell_mid _ _ _ _ _ _ (by omega) (by omega), show 23 + n - 23 = n by omega]

def Dk.fence (D : Dk) (node : Int) : Int × Dk :=
  if D.may node ≠ 0 then (D.may node, D) else if D.goes.1 then (14, D.goes.2) else (0, { D.goes.2.settle node with table := setN D.goes.2.table node.toNat 0 })

theorem Fence_ok {w : World} {b : Nat} {D : Dk} {F : Nat → Prop} (h : DiskAt w b D F) (hf : D.Fit) (node : Int) :
    Calls Tryz.prog 18 #[.pointer (some ⟨b, 0, none⟩), .int .i64 node] w fun e w' => e = .returned (.int .i64 (D.fence node).1) ∧ DiskAt w' b (D.fence node).2 (grow F w w') ∧ Chg F w w' := by
  have H := Lib.hid h
  have HF := Lib.hid hf
  clear h hf
  by_cases hm : D.may node = 0
  · obtain ⟨hon, hn0, hn1⟩ := may_zero hm
    obtain ⟨n, rfl⟩ := Int.eq_ofNat_of_zero_le hn0
    cases hg : D.goes.1
    · rw [show D.fence n = (0, { D.goes.2.settle n with table := setN D.goes.2.table n 0 }) by simp [Dk.fence, hm, hg]]
      have HGW := Lib.hid (goes_waits hg)
      have HG := Lib.hid hg
      have HM := Lib.hid hm
      clear hon hg hm
      go_enter Tryz.func18, Tryz.ntmps18
      go_wp2_with fail
      refine (may_ok H.out n).mono ?_
      rintro e w1 ⟨rfl, rfl⟩
      rw [HM.out]
      go_wp2_with fail
      refine (goes_ok H.out HF.out).mono ?_
      rintro e w1 ⟨rfl, hd1, hc1⟩
      rw [HG.out]
      have HD1 := Lib.hid hd1
      have HC1 := Lib.hid hc1
      clear hd1 hc1
      go_wp2_with fail
      refine (settle_ok HD1.out n (by rw [HGW.out]; have := HF.out.waits; omega)).mono ?_
      rintro e w2 ⟨rfl, hd2, hc2⟩
      obtain ⟨bn, bl, wv, sv, hR⟩ := hd2
      have c6 : w2.cell? ⟨b, 6 + n, none⟩ = some (.int .u64 (D.goes.2.table n)) := by rw [hR.blk.cell (6 + n) (by omega), diskCell_at _ _ _ _ _ _ (by omega)]; rfl
      have f6 := hR.blk.free (6 + n)
      have HR := Lib.hid hR
      have HC2 := Lib.hid hc2
      clear hR hc2
      go_wp2_with fail
      go_ret
      have hc : Chg F w (w2.setCell ⟨b, 6 + n, none⟩ (.int .u64 0)) := (HC1.out.trans_grow HC2.out).setCell (p := ⟨b, 6 + n, none⟩) (HR.out.fb.elim (fun h => h.imp id (·.1)) (fun h => .inr (Nat.le_trans HC1.out.size h.1))) _
      refine ⟨rfl, ⟨bn, bl, wv, sv, (HR.out.set (6 + n) _ _ (diskCell_table _ bn bl wv sv n (by omega) 0) rfl rfl rfl rfl).wide (fun k hk => grow_grow HC1.out.size HC2.out.size k hk |>.imp id (fun h => ⟨h.1, by simpa [World.setCell] using h.2⟩)) (grow_lt H.out.lt hc.size)⟩, hc⟩
    · rw [show D.fence n = (14, D.goes.2) by simp [Dk.fence, hm, hg]]
      have HG := Lib.hid hg
      have HM := Lib.hid hm
      clear hon hg hm
      go_enter Tryz.func18, Tryz.ntmps18
      go_wp2_with fail
      refine (may_ok H.out n).mono ?_
      rintro e w1 ⟨rfl, rfl⟩
      rw [HM.out]
      go_wp2_with fail
      refine (goes_ok H.out HF.out).mono ?_
      rintro e w1 ⟨rfl, hd1, hc1⟩
      rw [HG.out]
      have HD1 := Lib.hid hd1
      have HC1 := Lib.hid hc1
      clear hd1 hc1
      go_wp2_with fail
      go_ret
      exact ⟨rfl, HD1.out, HC1.out⟩
  · rw [show D.fence node = (D.may node, D) by simp [Dk.fence, hm]]
    have hm2 : (D.may node != 0) = true := by simp [hm]
    clear hm
    go_enter Tryz.func18, Tryz.ntmps18
    go_wp2_with fail
    refine (may_ok H.out node).mono ?_
    rintro e w1 ⟨rfl, rfl⟩
    go_wp2_with fail
    go_ret
    exact ⟨rfl, H.out.no (Chg.refl _ _), Chg.refl _ _⟩

def Dk.admit (D : Dk) (node : Int) (epoch : Nat) : Int × Dk :=
  if D.may node ≠ 0 then (D.may node, D) else if epoch ≤ D.last then (8, D) else if D.goes.1 then (14, D.goes.2) else (0, { D.goes.2 with table := setN D.goes.2.table node.toNat epoch, last := epoch })

theorem Admit_ok {w : World} {b : Nat} {D : Dk} {F : Nat → Prop} (h : DiskAt w b D F) (hf : D.Fit) (node : Int) (epoch : Nat) :
    Calls Tryz.prog 19 #[.pointer (some ⟨b, 0, none⟩), .int .i64 node, .int .u64 epoch] w fun e w' => e = .returned (.int .i64 (D.admit node epoch).1) ∧ DiskAt w' b (D.admit node epoch).2 (grow F w w') ∧ Chg F w w' := by
  have H := Lib.hid h
  have HF := Lib.hid hf
  have c40 : w.cell? ⟨b, 40, none⟩ = some (.int .u64 D.last) := by obtain ⟨_, _, _, _, h⟩ := h; exact h.blk.cell 40 (by omega)
  clear h hf
  by_cases hm : D.may node = 0
  · obtain ⟨hon, hn0, hn1⟩ := may_zero hm
    obtain ⟨n, rfl⟩ := Int.eq_ofNat_of_zero_le hn0
    by_cases hl : epoch ≤ D.last
    · rw [show D.admit n epoch = (8, D) by simp [Dk.admit, hm, hl]]
      have HM := Lib.hid hm
      clear hon hm
      go_enter Tryz.func19, Tryz.ntmps19
      go_wp2_with fail
      refine (may_ok H.out n).mono ?_
      rintro e w1 ⟨rfl, rfl⟩
      rw [HM.out]
      go_wp2_with fail
      go_ret
      exact ⟨rfl, H.out.no (Chg.refl _ _), Chg.refl _ _⟩
    · cases hg : D.goes.1
      · rw [show D.admit n epoch = (0, { D.goes.2 with table := setN D.goes.2.table n epoch, last := epoch }) by simp [Dk.admit, hm, hg, hl]]
        have HG := Lib.hid hg
        have HM := Lib.hid hm
        clear hon hg hm
        go_enter Tryz.func19, Tryz.ntmps19
        go_wp2_with fail
        refine (may_ok H.out n).mono ?_
        rintro e w1 ⟨rfl, rfl⟩
        rw [HM.out]
        go_wp2_with fail
        refine (goes_ok H.out HF.out).mono ?_
        rintro e w1 ⟨rfl, hd1, hc1⟩
        rw [HG.out]
        obtain ⟨bn, bl, wv, sv, hR⟩ := hd1
        have c6 : w1.cell? ⟨b, 6 + n, none⟩ = some (.int .u64 (D.goes.2.table n)) := by rw [hR.blk.cell (6 + n) (by omega), diskCell_at _ _ _ _ _ _ (by omega)]
        have c8 : w1.cell? ⟨b, 40, none⟩ = some (.int .u64 D.goes.2.last) := hR.blk.cell 40 (by omega)
        have f6 := hR.blk.free (6 + n)
        have f8 := hR.blk.free 40
        have HR := Lib.hid hR
        have HC1 := Lib.hid hc1
        clear hR hc1 c40
        have hne : 6 + n ≠ 40 := by omega
        go_wp2_with fail
        go_ret
        have hfb := HR.out.fb.imp id (·.1)
        have hc : Chg F w ((w1.setCell ⟨b, 6 + n, none⟩ (.int .u64 epoch)).setCell ⟨b, 40, none⟩ (.int .u64 epoch)) := (HC1.out.setCell (p := ⟨b, 6 + n, none⟩) hfb _).setCell (p := ⟨b, 40, none⟩) hfb _
        refine ⟨rfl, ⟨bn, bl, wv, sv, ((HR.out.set (6 + n) _ _ (diskCell_table _ bn bl wv sv n (by omega) epoch) rfl rfl rfl rfl).set 40 _ _ (diskCell_last _ bn bl wv sv epoch) rfl rfl rfl rfl).wide (fun k hk => hk.imp id (fun h => ⟨h.1, by simpa [World.setCell] using h.2⟩)) (grow_lt H.out.lt hc.size)⟩, hc⟩
      · rw [show D.admit n epoch = (14, D.goes.2) by simp [Dk.admit, hm, hg, hl]]
        have HG := Lib.hid hg
        have HM := Lib.hid hm
        clear hon hg hm
        go_enter Tryz.func19, Tryz.ntmps19
        go_wp2_with fail
        refine (may_ok H.out n).mono ?_
        rintro e w1 ⟨rfl, rfl⟩
        rw [HM.out]
        go_wp2_with fail
        refine (goes_ok H.out HF.out).mono ?_
        rintro e w1 ⟨rfl, hd1, hc1⟩
        rw [HG.out]
        have HD1 := Lib.hid hd1
        have HC1 := Lib.hid hc1
        clear hd1 hc1 c40
        go_wp2_with fail
        go_ret
        exact ⟨rfl, HD1.out, HC1.out⟩
  · rw [show D.admit node epoch = (D.may node, D) by simp [Dk.admit, hm]]
    have hm2 : (D.may node != 0) = true := by simp [hm]
    clear hm
    go_enter Tryz.func19, Tryz.ntmps19
    go_wp2_with fail
    refine (may_ok H.out node).mono ?_
    rintro e w1 ⟨rfl, rfl⟩
    go_wp2_with fail
    go_ret
    exact ⟨rfl, H.out.no (Chg.refl _ _), Chg.refl _ _⟩

def Dk.put (D : Dk) (node : Int) (word : Nat) : Int × Dk :=
  if D.may node ≠ 0 then (D.may node, D) else if D.goes.1 then (14, D.goes.2) else (0, { D.goes.2 with words := setN D.goes.2.words node.toNat word })

theorem PutW_ok {w : World} {b : Nat} {D : Dk} {F : Nat → Prop} (h : DiskAt w b D F) (hf : D.Fit) (node : Int) (word : Nat) :
    Calls Tryz.prog 186 #[.pointer (some ⟨b, 0, none⟩), .int .i64 node, .int .u64 word] w fun e w' => e = .returned (.int .i64 (D.put node word).1) ∧ DiskAt w' b (D.put node word).2 (grow F w w') ∧ Chg F w w' := by
  have H := Lib.hid h
  have HF := Lib.hid hf
  clear h hf
  by_cases hm : D.may node = 0
  · obtain ⟨hon, hn0, hn1⟩ := may_zero hm
    obtain ⟨n, rfl⟩ := Int.eq_ofNat_of_zero_le hn0
    cases hg : D.goes.1
    · rw [show D.put n word = (0, { D.goes.2 with words := setN D.goes.2.words n word }) by simp [Dk.put, hm, hg]]
      have HG := Lib.hid hg
      have HM := Lib.hid hm
      clear hon hg hm
      go_enter Tryz.func186, Tryz.ntmps186
      go_wp2_with fail
      refine (may_ok H.out n).mono ?_
      rintro e w1 ⟨rfl, rfl⟩
      rw [HM.out]
      go_wp2_with fail
      refine (goes_ok H.out HF.out).mono ?_
      rintro e w1 ⟨rfl, hd1, hc1⟩
      rw [HG.out]
      obtain ⟨bn, bl, wv, sv, hR⟩ := hd1
      have c6 : w1.cell? ⟨b, 23 + n, none⟩ = some (.int .u64 (D.goes.2.words n)) := by rw [hR.blk.cell (23 + n) (by omega), diskCell_word _ _ _ _ _ _ (by omega)]
      have f6 := hR.blk.free (23 + n)
      have HR := Lib.hid hR
      have HC1 := Lib.hid hc1
      clear hR hc1
      go_wp2_with fail
      go_ret
      have hfb := HR.out.fb.imp id (·.1)
      have hc : Chg F w (w1.setCell ⟨b, 23 + n, none⟩ (.int .u64 word)) := HC1.out.setCell (p := ⟨b, 23 + n, none⟩) hfb _
      refine ⟨rfl, ⟨bn, bl, wv, sv, (HR.out.set (23 + n) _ _ (diskCell_words _ bn bl wv sv n (by omega) word) rfl rfl rfl rfl).wide (fun k hk => hk.imp id (fun h => ⟨h.1, by simpa [World.setCell] using h.2⟩)) (grow_lt H.out.lt hc.size)⟩, hc⟩
    · rw [show D.put n word = (14, D.goes.2) by simp [Dk.put, hm, hg]]
      have HG := Lib.hid hg
      have HM := Lib.hid hm
      clear hon hg hm
      go_enter Tryz.func186, Tryz.ntmps186
      go_wp2_with fail
      refine (may_ok H.out n).mono ?_
      rintro e w1 ⟨rfl, rfl⟩
      rw [HM.out]
      go_wp2_with fail
      refine (goes_ok H.out HF.out).mono ?_
      rintro e w1 ⟨rfl, hd1, hc1⟩
      rw [HG.out]
      have HD1 := Lib.hid hd1
      have HC1 := Lib.hid hc1
      clear hd1 hc1
      go_wp2_with fail
      go_ret
      exact ⟨rfl, HD1.out, HC1.out⟩
  · rw [show D.put node word = (D.may node, D) by simp [Dk.put, hm]]
    have hm2 : (D.may node != 0) = true := by simp [hm]
    clear hm
    go_enter Tryz.func186, Tryz.ntmps186
    go_wp2_with fail
    refine (may_ok H.out node).mono ?_
    rintro e w1 ⟨rfl, rfl⟩
    go_wp2_with fail
    go_ret
    exact ⟨rfl, H.out.no (Chg.refl _ _), Chg.refl _ _⟩

/-- A disk of bytes 0. -/
def Dk.new (sectors : Int) : Dk := { sectors := sectors, on := true, seq := 0, now := fun _ => none, lasts := fun _ => none, waits := [], table := fun _ => 0, words := fun _ => 0, last := 0, armed := false, left := 0, stays := [] }

def newCells (s : Int) (bn bl : Nat) : Array Value := #[.int .i64 s, .bool true, .int .i64 0, .map (some bn), .map (some bl), .slice none 0 0, .int .u64 0, .int .u64 0, .int .u64 0, .int .u64 0, .int .u64 0, .int .u64 0, .int .u64 0, .int .u64 0, .int .u64 0, .int .u64 0, .int .u64 0, .int .u64 0, .int .u64 0, .int .u64 0, .int .u64 0, .int .u64 0, .int .u64 0, .int .u64 0, .int .u64 0, .int .u64 0, .int .u64 0, .int .u64 0, .int .u64 0, .int .u64 0, .int .u64 0, .int .u64 0, .int .u64 0, .int .u64 0, .int .u64 0, .int .u64 0, .int .u64 0, .int .u64 0, .int .u64 0, .int .u64 0, .int .u64 0, .bool false, .int .i64 0, .slice none 0 0]
theorem newCells_at (s : Int) (bn bl : Nat) : ∀ i, i < 44 → (newCells s bn bl)[i]? = some (diskCell (Dk.new s) bn bl (.slice none 0 0) (.slice none 0 0) i)
  | 0, _ => rfl
  | 1, _ => rfl
  | 2, _ => rfl
  | 3, _ => rfl
  | 4, _ => rfl
  | 5, _ => rfl
  | 6, _ => rfl
  | 7, _ => rfl
  | 8, _ => rfl
  | 9, _ => rfl
  | 10, _ => rfl
  | 11, _ => rfl
  | 12, _ => rfl
  | 13, _ => rfl
  | 14, _ => rfl
  | 15, _ => rfl
  | 16, _ => rfl
  | 17, _ => rfl
  | 18, _ => rfl
  | 19, _ => rfl
  | 20, _ => rfl
  | 21, _ => rfl
  | 22, _ => rfl
  | 23, _ => rfl
  | 24, _ => rfl
  | 25, _ => rfl
  | 26, _ => rfl
  | 27, _ => rfl
  | 28, _ => rfl
  | 29, _ => rfl
  | 30, _ => rfl
  | 31, _ => rfl
  | 32, _ => rfl
  | 33, _ => rfl
  | 34, _ => rfl
  | 35, _ => rfl
  | 36, _ => rfl
  | 37, _ => rfl
  | 38, _ => rfl
  | 39, _ => rfl
  | 40, _ => rfl
  | 41, _ => rfl
  | 42, _ => rfl
  | 43, _ => rfl
  | i + 44, h => by omega

theorem New_ok (w : World) (sectors : Int) (h0 : 0 < sectors) (h1 : sectors ≤ 20000) :
    Calls Tryz.prog 56 #[.int .i64 sectors] w fun e w' => e = .returned (.pointer (some ⟨w.heap.size + 2, 0, none⟩)) ∧ DiskAt w' (w.heap.size + 2) (Dk.new sectors) (fun k => w.heap.size ≤ k ∧ k < w'.heap.size) ∧ Chg No w w' := by
  have hmm := @run_makeMap Tryz.prog
  go_enter Tryz.func56, Tryz.ntmps56
  go_wp2_with fail
  go_ret
  refine ⟨rfl, ⟨w.heap.size, w.heap.size + 1, .slice none 0 0, .slice none 0 0, ?_, ?_, ?_, ?_, ?_, ?_, ?_, ?_, ?_, ?_, ?_, ?_⟩, (((Chg.refl _ _).alloc _).alloc _).alloc _⟩
  · have := blk_new ((w.alloc (.map #[] 0)).alloc (.map #[] 0)) (.cells (newCells sectors w.heap.size (w.heap.size + 1)) 147)
    rw [World.size_alloc, World.size_alloc] at this
    exact ⟨_, this, rfl, newCells_at _ _ _⟩
  · exact ((MapAt.fresh w).of (Below.heap_alloc _ _ _ (by simp))).of (Below.heap_alloc _ _ _ (by simp; omega))
  · have := MapAt.fresh (w.alloc (.map #[] 0))
    rw [World.size_alloc] at this
    exact this.of (Below.heap_alloc _ _ _ (by simp))
  · exact World.ownsRow_nil _ _ _ _
  · exact World.ownsRow_nil _ _ _ _
  · exact ⟨by omega, by simp⟩
  · exact ⟨by omega, by simp; omega⟩
  · exact ⟨by omega, by simp⟩
  · intro k hk; simp [Value.ownBlock] at hk
  · intro k hk; simp [Value.ownBlock] at hk
  · omega
  · exact fun k hk => hk.2
end Go.Proofs.YtmmnjecaedmleaaGreatDoor
