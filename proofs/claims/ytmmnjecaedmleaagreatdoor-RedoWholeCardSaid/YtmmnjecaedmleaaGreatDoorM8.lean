import Derived.Test.YtmmnjecaedmleaaGreatDoorM7

/- wire.Writer's Num with its own footprint: contract. -/
namespace Go.Proofs.YtmmnjecaedmleaaGreatDoor
open Go.RowKit
attribute [local go_sem ↓] Go.wp_at_zero Go.wp_at_succ

/-- A writer, all of its memory within G. -/
def WrF (w : World) (b : Nat) (l : Bytes) (G : Nat → Prop) : Prop :=
  ∃ sv, w.heap[b]? = some (.cells #[sv, .int .i64 0] 346 (0, 0)) ∧ w.ownsRow 0 5 1 sv l.length (l.map byteV) ∧ sv.ownBlock ≠ some b ∧ G b ∧ (∀ k, sv.ownBlock = some k → G k) ∧ ∀ k, G k → k < w.heap.size

theorem WrF.new {w : World} {b : Nat} (h : w.heap[b]? = some (.cells #[.slice none 0 0, .int .i64 0] 346 (0, 0))) : WrF w b [] (fun k => k = b) :=
  ⟨.slice none 0 0, h, World.ownsRow_nil _ _ _ _, by simp [Value.ownBlock], rfl, by simp [Value.ownBlock], fun k hk => by subst hk; exact blk_lt h⟩
theorem WrF.chg {w w' : World} {b : Nat} {l : Bytes} {G F : Nat → Prop} (h : WrF w b l G) (hc : Chg F w w') (hn : ∀ k, G k → ¬ F k) : WrF w' b l G := by
  obtain ⟨sv, h1, h2, h3, h4, h5, h6⟩ := h
  exact ⟨sv, hc.obj h1 (hn _ h4), hc.row h2 (fun k hk => hn k (h5 k hk)), h3, h4, h5, fun k hk => Nat.lt_of_lt_of_le (h6 k hk) hc.size⟩
theorem WrF.mono {w : World} {b : Nat} {l : Bytes} {G F : Nat → Prop} (h : WrF w b l G) (hs : ∀ k, G k → F k) (hl : ∀ k, F k → k < w.heap.size) : WrF w b l F := by
  obtain ⟨sv, h1, h2, h3, h4, h5, h6⟩ := h
  exact ⟨sv, h1, h2, h3, hs _ h4, fun k hk => hs k (h5 k hk), hl⟩
theorem WrF.at0 {w : World} {b : Nat} {l : Bytes} {G : Nat → Prop} (h : WrF w b l G) : WriterAt 0 w b l := by
  obtain ⟨sv, h1, h2, h3, h4, h5, h6⟩ := h
  exact ⟨Nat.zero_le _, sv, h1, h2, h3⟩

set_option maxHeartbeats 800000 in
set_option maxRecDepth 100000 in
theorem numF (w : World) (b : Nat) (l : Bytes) (v n : Nat) {G : Nat → Prop} (h : WrF w b l G) (hl : l.length ≤ 1000000) (hn : n = 1 ∨ n = 4 ∨ n = 8) (h1 : n = 1 → v < 256) (h4 : n = 4 → v < 4294967296) :
    Calls Tryz.prog 273 #[.pointer (some ⟨b, 0, none⟩), .int .u64 v, .int .i64 n] w fun e w' => e = .returned (.pointer (some ⟨b, 0, none⟩)) ∧ WrF w' b (l ++ le n v) (grow G w w') ∧ Chg G w w' := by
  obtain ⟨sv, hblk, hown, hne, hgb0, hgs, hgl⟩ := h
  have HGS := Lib.hid hgs
  have HGL := Lib.hid hgl
  have hn8 : n ≤ 8 := by omega
  have HN := Lib.hid hn
  have HB := Lib.hid hblk
  have HO := Lib.hid hown
  have HE := Lib.hid hne
  have H1 := Lib.hid h1
  have H4 := Lib.hid h4
  clear hn hblk hown hne h1 h4 hgs hgl
  go_enter Tryz.func273, Tryz.ntmps273
  go_wp2_with fail
  refine (wrongNum_ok _ _ _ (by have := HN.out; omega) (by omega) (fun e => by have := H1.out (by omega); omega) (fun e => by have := H4.out (by omega); omega)).mono ?_
  rintro e w1 ⟨rfl, rfl⟩
  go_wp2_with fail
  refine (fails_ok _ _ _ _ HB.out).mono ?_
  rintro e w1 ⟨rfl, hw1⟩
  have hb1 : w1.heap[b]? = some (.cells #[sv, .int .i64 0] 346 (0, 0)) := by rw [← hw1]; exact blk_set HB.out 1 _
  have ho1 : w1.ownsRow 0 5 1 sv l.length (l.map byteV) := by rw [← hw1]; exact row_set_ne HO.out _ HE.out
  have hbl1 : Chg G w w1 := by rw [← hw1]; exact (Chg.refl _ _).setCell (p := ⟨b, 1, none⟩) (.inl hgb0) _
  have H0 : Hid (WrF w1 b (l ++ le 0 v) (grow G w w1)) := Lib.hid ⟨sv, hb1, by simpa [le] using ho1, HE.out, .inl hgb0, fun k hk => .inl (HGS.out k hk), grow_lt HGL.out hbl1.size⟩
  have HL := Lib.hid hbl1
  clear hw1 hb1 ho1 hbl1 HE
  go_wp2_with fail
  go_loopw [1, 18] (fun x i wr => ∃ k y : Nat, k ≤ n ∧ i = .int .i64 k ∧ x = .int .u64 y ∧ Hid (y = v / 256 ^ k) ∧ Hid (WrF wr b (l ++ le k v) (grow G w wr)) ∧ Hid (Chg G w wr)) (fun x i _ => n - (intOf i).toNat)
  case atStart => exact ⟨0, v, Nat.zero_le _, rfl, rfl, Lib.hid (by simp), H0, HL⟩
  case round =>
    obtain ⟨k, y, hk, rfl, rfl, Hy, HW, HLr⟩ := hrel
    clear H0 HL
    by_cases hlt : k < n
    · obtain ⟨sv', hblk, hown, hne, _, hgs', _⟩ := HW.out
      have HGS' := Lib.hid hgs'
      clear hgs'
      have c0 := cell_of_blk hblk 0 rfl
      have hbw := blk_lt hblk
      have HB := Lib.hid hblk
      have HO := Lib.hid hown
      have HE := Lib.hid hne
      clear hblk hown hne HW
      have hlen : (l ++ le k v).length ≤ 1000008 := by rw [List.length_append, le_length]; omega
      go_wp2_with (at_builtin; refine Halt1.hold ?_)
      refine Halt1.go ?_
      refine wpL_app el_u8 (.tmp 24) (.tmp 27) rfl rfl 0 sv' _ _ rfl (HO.out.alloc _) wr.heap.size 1 1 [.int .u8 (y % 256)] _ _ rfl (blk_new _ _) rfl (by simp [Value.oneCell']) (by omega) (by omega) (by omega) (by simp) ?_
      intro g cap w2 hown2 hgrow2 hat2 hlt2
      have hL2 : Chg G w w2 := (HLr.out.alloc _).grown hgrow2 (fun k hk => (HGS'.out k hk).imp id (·.1))
      have hz2 := hgrow2.size
      rw [World.size_alloc] at hz2
      have HZR := Lib.hid HLr.out.size
      have hB2 : w2.heap[b]? = some (.cells #[sv', .int .i64 0] 346 (0, 0)) := by
        rw [hgrow2.block b (by simp; omega) (fun e => HE.out e.symm)]
        exact blk_alloc _ HB.out
      have hgb : g ≠ b := by
        rcases hat2 with h | h
        · intro e; subst e; exact HE.out h
        · simp at h; omega
      have d0 := free_of_blk hB2 0
      have d1 := cell_of_blk hB2 0 rfl
      have HB2 := Lib.hid hB2
      have HO2 := Lib.hid hown2
      have HL2 := Lib.hid hL2
      have HG := Lib.hid hgb
      have HA := Lib.hid hat2
      have HZ2 := Lib.hid hz2
      clear hB2 hown2 hL2 hgrow2 hgb hat2 HLr HB HO c0 hz2
      go_wp2_with fail
      go_roundw
      case rel =>
        refine ⟨k + 1, y / 256, by omega, by go_num, by go_num, Lib.hid (by rw [Hy.out, Nat.div_div_eq_div_mul, Nat.pow_succ]), Lib.hid ⟨_, blk_set HB2.out 0 _, ?_, ?_, .inl hgb0, fun j hj => ?_, ?_⟩, Lib.hid (HL2.out.setCell (p := ⟨b, 0, none⟩) (.inl hgb0) _)⟩
        · have := row_set_ne (b := b) (o := 0) HO2.out (.slice (some ⟨g, 0, none⟩) ((l ++ le k v).length + 1) cap) (by simp [Value.ownBlock]; exact HG.out)
          rw [le_snoc, ← List.append_assoc]
          simpa [byteV, Hy.out, Nat.add_assoc] using this
        · simp [Value.ownBlock]; exact HG.out
        · simp [Value.ownBlock] at hj
          subst hj
          have h1 := HZR.out
          have h2 := HZ2.out
          rcases HA.out with h | h
          · exact (HGS'.out g h).imp id (fun h => ⟨h.1, by simp [World.setCell]; omega⟩)
          · exact .inr ⟨by simp at h; omega, by simpa [World.setCell] using hlt2⟩
        · exact grow_lt HGL.out (HL2.out.setCell (p := ⟨b, 0, none⟩) (.inl hgb0) _).size
      case measure => simp [intOf]; omega
    · go_wp2
      go_ret
      have e : k = n := by omega
      subst e
      exact ⟨rfl, HW.out, HLr.out⟩

end Go.Proofs.YtmmnjecaedmleaaGreatDoor

/- super.Put, super.Get: contracts. -/
namespace Go.Proofs.YtmmnjecaedmleaaGreatDoor
open Go.RowKit
attribute [local go_sem ↓] Go.wp_at_zero Go.wp_at_succ

def Sh.list (s : Sh) : List Nat := [s.nodes, s.blocks, s.log, s.cache, s.lease]
def Sh.body (s : Sh) : Bytes := [67, 79, 77, 77, 79, 78, 83, 49] ++ s.list.flatMap (le 4)
def Sh.bytes (s : Sh) : Bytes := stamp s.body
theorem Sh.body_length (s : Sh) : s.body.length = 28 := by simp [Sh.body, Sh.list, le_length]
theorem Sh.list_lt {s : Sh} (h : s.Ok) : ∀ x ∈ s.list, x ≤ 4096 := by
  intro x hx
  simp only [Sh.list, List.mem_cons, List.not_mem_nil, or_false] at hx
  obtain ⟨_, _, _, _, _, _, _, _, _, _⟩ := h
  rcases hx with rfl | rfl | rfl | rfl | rfl <;> omega
theorem flat4_length (l : List Nat) : (l.flatMap (le 4)).length = 4 * l.length := by
  induction l with
  | nil => rfl
  | cons a l ih => rw [List.flatMap_cons, List.length_append, ih, le_length, List.length_cons]; omega

set_option maxHeartbeats 800000 in
set_option maxRecDepth 100000 in
theorem ShPut_ok (w : World) {s : Sh} (h : s.Ok) :
    Calls Tryz.prog 266 #[s.val] w fun e w' => e = .returned (.tuple #[S s.bytes, .int .i64 0]) ∧ Chg No w w' := by
  have H := Lib.hid h
  have HL := Lib.hid (Sh.list_lt h)
  have hval : s.val = .agg #[.int .i64 s.nodes, .int .i64 s.blocks, .int .i64 s.log, .int .i64 s.cache, .int .i64 s.lease] := rfl
  rw [hval]
  clear h hval
  go_enter Tryz.func266, Tryz.ntmps266
  go_wp2_with fail
  refine (Valid_ok _ H.out).mono ?_
  rintro e w1 ⟨rfl, hc1⟩
  obtain ⟨c0, c1, c2, c3, c4⟩ := cells5 (hc1.obj (blk_new _ _) id)
  have hC1 : Chg No w w1 := ((Chg.refl No w).alloc _).trans_same hc1
  have HC := Lib.hid hC1
  have HZ := Lib.hid hC1.size
  have n0 : w1.heap.size ≠ w.heap.size := World.new_ne w1 _ c0
  have n1 : w.heap.size < w1.heap.size := World.block_lt_of_cell? w1 _ c0
  clear hc1 hC1
  go_wp2_with fail
  clear c0 c1 c2 c3 c4
  go_loopw [24] (fun i wr => ∃ k : Nat, k ≤ 5 ∧ i = .int .i64 k ∧ Hid (∃ G, WrF wr w1.heap.size ((s.list.take k).flatMap (le 4)) G ∧ ¬ G (w1.heap.size + 1) ∧ ∀ j, G j → w.heap.size ≤ j) ∧ Hid (wr.heap[w1.heap.size + 1]? = some (.cells #[.int .i64 s.nodes, .int .i64 s.blocks, .int .i64 s.log, .int .i64 s.cache, .int .i64 s.lease] 3 (0, 0))) ∧ Hid (Chg No w wr)) (fun i _ => 5 - (intOf i).toNat)
  case atStart =>
    refine ⟨0, by omega, rfl, Lib.hid ⟨fun j => j = w1.heap.size, (WrF.new (blk_new w1 _)).chg ((Chg.refl No _).alloc _) (fun _ _ => id), by omega, fun j hj => by have := HZ.out; omega⟩, Lib.hid ?_, Lib.hid ((HC.out.alloc _).alloc _)⟩
    have := blk_new (w1.alloc (.cells #[.slice none 0 0, .int .i64 0] 346)) (.cells #[.int .i64 s.nodes, .int .i64 s.blocks, .int .i64 s.log, .int .i64 s.cache, .int .i64 s.lease] 3)
    rwa [World.size_alloc] at this
  case round =>
    obtain ⟨k, hk, rfl, HW, HB, HCr⟩ := hrel
    by_cases hlt : k < 5
    · obtain ⟨x, hx⟩ : ∃ x, s.list[k]? = some x := ⟨_, List.getElem?_eq_getElem (show k < s.list.length by simpa [Sh.list] using hlt)⟩
      have hx1 : x ≤ 4096 := HL.out x (List.mem_of_getElem? hx)
      have hcell : wr.cell? ⟨w1.heap.size + 1, k, none⟩ = some (.int .i64 x) := by
        refine cell_of_blk HB.out k ?_
        have : (s.list.map (fun x : Nat => Value.int .i64 x))[k]? = some (.int .i64 x) := by rw [List.getElem?_map, hx]; rfl
        simpa [Sh.list] using this
      have htk : s.list.take (k + 1) = s.list.take k ++ [x] := by rw [List.take_add_one, hx]; rfl
      have hu := wrap_u64 x (by omega)
      have HX := Lib.hid hx
      have HT := Lib.hid htk
      clear hx htk
      obtain ⟨G, hw, hn, hl⟩ := HW.out
      have HW' := Lib.hid hw
      have HN := Lib.hid hn
      have HLo := Lib.hid hl
      clear hw hn hl HW
      go_wp2_with fail
      have hlen : ((s.list.take k).flatMap (le 4)).length ≤ 20 := by rw [flat4_length]; have := List.length_take_le k s.list; omega
      refine (numF wr w1.heap.size _ x 4 HW'.out (by omega) (.inr (.inl rfl)) (by omega) (by omega)).mono ?_
      rintro e w2 ⟨rfl, hw2, hc2⟩
      have hb2 := hc2.obj HB.out HN.out
      have hC2 : Chg No w w2 := HCr.out.trans hc2 (fun j hj => .inr (HLo.out j hj))
      have HW2 := Lib.hid hw2
      have HB2 := Lib.hid hb2
      have HC2 := Lib.hid hC2
      have HZ2 := Lib.hid (show w.heap.size ≤ wr.heap.size from HCr.out.size)
      have HZ3 := Lib.hid (blk_lt HB.out)
      clear hw2 hb2 hc2 hC2 hcell HB HCr
      go_wp2_with fail
      refine ⟨⟨k + 1, hlt, by go_num, Lib.hid ⟨grow G wr w2, ?_, ?_, ?_⟩, HB2, HC2⟩, by simp [intOf]; omega⟩

      · rw [HT.out, List.flatMap_append]
        simpa using HW2.out
      · rintro (h | h)
        · exact HN.out h
        · have := HZ3.out; omega
      · rintro j (h | h)
        · exact HLo.out j h
        · have := HZ2.out; omega
    · obtain rfl : k = 5 := by omega
      obtain ⟨G, hw, hn, hl⟩ := HW.out
      have HW' := Lib.hid hw
      clear hw hn hl HW
      go_wp2_with fail
      have ht : s.list.take 5 = s.list := rfl
      rw [ht] at HW'
      have hfl : (s.list.flatMap (le 4)).length = 20 := by rw [flat4_length]; rfl
      refine (bytes_ok 0 _ _ _ HW'.out.at0).mono ?_
      rintro e w2 ⟨rfl, rfl⟩
      go_wp2_with fail
      refine (Stamp_ok _ s.body (by rw [Sh.body_length]; omega)).mono ?_
      rintro e w2 ⟨rfl, hc2⟩
      have HC2 := Lib.hid hc2
      clear hc2
      go_wp2_with fail
      go_ret2
      exact ⟨rfl, HCr.out.trans_same HC2.out⟩

def Sh.arr (s : Sh) (k : Nat) : Array Value := ((s.list.take k ++ List.replicate (5 - k) 0).map fun x : Nat => Value.int .i64 x).toArray
theorem Sh.arr_set (s : Sh) (k x : Nat) (hk : k < 5) (hx : s.list[k]? = some x) : (s.arr k).setIfInBounds k (.int .i64 x) = s.arr (k + 1) := by
  rcases k with _ | _ | _ | _ | _ | k
  · simp [Sh.list] at hx; subst hx; rfl
  · simp [Sh.list] at hx; subst hx; rfl
  · simp [Sh.list] at hx; subst hx; rfl
  · simp [Sh.list] at hx; subst hx; rfl
  · simp [Sh.list] at hx; subst hx; rfl
  · omega
theorem leVal_le4 (x : Nat) (h : x ≤ 4096) (r : Bytes) : leVal ((le 4 x ++ r).take 4) = x ∧ (le 4 x ++ r).drop 4 = r := by
  have hl : (le 4 x).length = 4 := le_length _ _
  constructor
  · rw [List.take_append_of_le_length (by omega), List.take_of_length_le (by omega), leVal_le _ _ (by omega)]
  · rw [List.drop_append_of_le_length (by omega), List.drop_of_length_le (by omega)]; rfl

set_option maxHeartbeats 800000 in
set_option maxRecDepth 100000 in
theorem ShGet_ok (w : World) {s : Sh} (h : s.Ok) :
    Calls Tryz.prog 188 #[S s.bytes] w fun e w' => e = .returned (.tuple #[s.val, .int .i64 0]) ∧ Chg No w w' := by
  have H := Lib.hid h
  have HL := Lib.hid (Sh.list_lt h)
  have hbl : s.bytes.length = 64 := stamp_length _ (by rw [Sh.body_length]; omega)
  have hsum : sumOk s.bytes = true := stamp_ok _ (by rw [Sh.body_length]; omega)
  have htk : s.bytes.take 60 = s.body ++ zs 32 := by rw [Sh.bytes, stamp_take _ (by rw [Sh.body_length]; omega), Sh.body_length]
  obtain ⟨B, hB⟩ : ∃ B, B = s.bytes := ⟨_, rfl⟩
  obtain ⟨l, hl⟩ : ∃ l, l = s.list.flatMap (le 4) ++ zs 32 := ⟨_, rfl⟩
  rw [← hB] at hbl hsum htk ⊢
  have hdr : (B.take 60).drop 8 = l := by rw [htk, hl]; rfl
  have hll : l.length = 52 := by rw [hl, List.length_append, flat4_length, zs_length]; rfl
  have HB := Lib.hid hB
  have HS := Lib.hid hsum
  have HLL := Lib.hid hll
  have HLD := Lib.hid hl
  have HD := Lib.hid hdr
  clear h hsum hB htk hl hll hdr
  go_enter Tryz.func188, Tryz.ntmps188
  go_wp2_with fail
  refine (Read_yes _ _ (by omega) HS.out).mono ?_
  rintro e' w1 ⟨rfl, hc1⟩
  have hk1 := hc1.obj (blk_new w _) id
  have hc1' := ((Chg.refl No w).alloc _).trans_no hc1
  clear hc1
  have HK := Lib.hid hk1
  have HC := Lib.hid hc1'
  clear hk1 hc1'
  have htl : (B.take 60).length = 60 := by rw [List.length_take]; omega
  go_wp2_with fail
  rw [show List.take 52 (List.drop 8 (List.take 60 B)) = l by rw [HD.out, List.take_of_length_le (by rw [HLL.out]; omega)]]
  refine (NewReader_ok _ l (by rw [HLL.out]; omega)).mono ?_
  rintro e' w2 ⟨rb, rfl, hrb, hr2, hc2⟩
  have hk2 := hc2.obj HK.out id
  have hc2' := HC.out.trans_no hc2
  have hlt : w.heap.size < rb := by have := blk_lt HK.out; omega
  have hltr : rb < w2.heap.size := blk_lt hr2
  clear hc2 HK HC
  have HK := Lib.hid hk2
  have HC := Lib.hid hc2'
  have HR := Lib.hid hr2
  clear hk2 hc2' hr2
  go_wp2_with fail
  go_loopw [28] (fun i wr => ∃ k : Nat, k ≤ 5 ∧ i = .int .i64 k ∧ Hid (ReaderAt wr rb ((s.list.drop k).flatMap (le 4) ++ zs 32)) ∧ Hid (wr.heap[w2.heap.size]? = some (.cells (s.arr k) 340 (0, 0))) ∧ Hid (Chg (fun j => j = rb ∨ j = w2.heap.size) (w2.alloc (.cells (s.arr 0) 340)) wr)) (fun i _ => 5 - (intOf i).toNat)
  case atStart =>
    refine ⟨0, by omega, rfl, Lib.hid (by rw [List.drop_zero, ← HLD.out]; exact blk_alloc _ HR.out), Lib.hid (blk_new w2 _), Lib.hid (Chg.refl _ _)⟩
  case round =>
    obtain ⟨k, hk, rfl, HRk, HA, HCr⟩ := hrel
    have hrz : w2.heap.size < wr.heap.size := blk_lt HA.out
    by_cases hlt5 : k < 5
    · have hlk : k < s.list.length := by simpa [Sh.list] using hlt5
      obtain ⟨x, hx⟩ : ∃ x, s.list[k]? = some x := ⟨_, List.getElem?_eq_getElem hlk⟩
      have hx1 : x ≤ 4096 := HL.out x (List.mem_of_getElem? hx)
      have hdk : s.list.drop k = x :: s.list.drop (k + 1) := by
        rw [List.getElem?_eq_getElem hlk, Option.some.injEq] at hx
        rw [List.drop_eq_getElem_cons hlk, hx]
      obtain ⟨r, hr⟩ : ∃ r, r = (s.list.drop (k + 1)).flatMap (le 4) ++ zs 32 := ⟨_, rfl⟩
      have hflat : (s.list.drop k).flatMap (le 4) ++ zs 32 = le 4 x ++ r := by rw [hdk, hr, List.flatMap_cons, List.append_assoc]
      obtain ⟨hv, hd⟩ := leVal_le4 x hx1 r
      have hrl : r.length ≤ 52 := by rw [hr, List.length_append, flat4_length, zs_length, List.length_drop]; have : s.list.length = 5 := rfl; omega
      have hRd : ReaderAt wr rb (le 4 x ++ r) := by rw [← hflat]; exact HRk.out
      have hset := Sh.arr_set s k x hlt5 hx
      have HRd := Lib.hid hRd
      have HV := Lib.hid hv
      have HDr := Lib.hid hd
      have HSet := Lib.hid hset
      have HRr := Lib.hid hr
      have h54 : IntKind.i64.wrap ((x : Nat) : Int) = x := IntWalk.i64_in _ (by omega)
      clear hx hdk hflat hv hd hRd hset hr HRk
      go_wp2_with fail
      refine (rnum4 wr rb _ (by rw [List.length_append, le_length]; omega) HRd.out (by rw [List.length_append, le_length]; omega)).mono ?_
      rintro e w3 ⟨rfl, hr3, hc3⟩
      rw [HV.out]
      rw [HDr.out] at hr3
      have hA3 := hc3.obj HA.out (by omega)
      have f3 := free_of_blk hA3 k
      have c3 : w3.cell? ⟨w2.heap.size, k, none⟩ = some (.int .i64 0) := by
        refine cell_of_blk hA3 k ?_
        have : k = 0 ∨ k = 1 ∨ k = 2 ∨ k = 3 ∨ k = 4 := by omega
        rcases this with rfl | rfl | rfl | rfl | rfl <;> rfl
      have HA3 := Lib.hid hA3
      have HR3 := Lib.hid hr3
      have HC3 := Lib.hid (HCr.out.trans hc3 (fun j hj => .inl (.inl hj)))
      clear hA3 hr3 hc3 HA HCr
      go_wp2_with fail
      refine ⟨⟨k + 1, hlt5, by go_num, Lib.hid ?_, Lib.hid ?_, Lib.hid (HC3.out.setCell (p := ⟨w2.heap.size, k, none⟩) (.inl (.inr rfl)) _)⟩, by simp [intOf]; omega⟩
      · rw [← HRr.out]
        exact blk_set_ne HR3.out (by omega)
      · have := blk_set HA3.out k (.int .i64 x)
        rwa [HSet.out] at this
    · obtain rfl : k = 5 := by omega
      have hA : wr.heap[w2.heap.size]? = some (.cells #[.int .i64 s.nodes, .int .i64 s.blocks, .int .i64 s.log, .int .i64 s.cache, .int .i64 s.lease] 340 (0, 0)) := HA.out
      obtain ⟨c0, c1, c2, c3, c4⟩ := cells5 hA
      have hK : wr.heap[w.heap.size]? = _ := HCr.out.obj (blk_alloc _ HK.out) (by omega)
      have hCw : Chg No w wr := (HC.out.alloc (.cells (s.arr 0) 340)).trans HCr.out (fun j hj => .inr (by omega))
      have HKw := Lib.hid hK
      have HCw := Lib.hid hCw
      clear hA hK hCw
      go_wp2_with fail
      refine (ShPut_ok _ H.out).mono ?_
      rintro e w6 ⟨rfl, hc6⟩
      rw [← HB.out]
      obtain ⟨d0, d1, d2, d3, d4⟩ := cells5 (hc6.obj (blk_alloc (.cells #[.int .i64 s.nodes, .int .i64 s.blocks, .int .i64 s.log, .int .i64 s.cache, .int .i64 s.lease] 27) HKw.out) id)
      have hk6 := hc6.obj (blk_alloc (.cells #[.int .i64 s.nodes, .int .i64 s.blocks, .int .i64 s.log, .int .i64 s.cache, .int .i64 s.lease] 27) HKw.out) id
      have f0 := free_of_blk hk6 0
      have f1 := free_of_blk hk6 1
      have f2 := free_of_blk hk6 2
      have f3 := free_of_blk hk6 3
      have f4 := free_of_blk hk6 4
      obtain ⟨g0, g1, g2, g3, g4⟩ := cells5 (hc6.obj (blk_new wr (.cells #[.int .i64 s.nodes, .int .i64 s.blocks, .int .i64 s.log, .int .i64 s.cache, .int .i64 s.lease] 27)) id)
      have HC6 := Lib.hid ((HCw.out.alloc _).trans_no hc6)
      have hwz : w.heap.size < wr.heap.size := by omega
      have hwz2 : w.heap.size < w6.heap.size := by have := hc6.size; simp at this; omega
      have hbe : (B == B) = true := by simp
      clear hc6 hk6
      go_wp2_with fail
      refine bodyPost_ret (v := .tuple #[s.val, .int .i64 0]) ?_ rfl ⟨rfl, ?_⟩
      · simp [results, Tryz.results188, go_sem, d0, d1, d2, d3, d4, Nat.ne_of_lt hwz, Sh.val, Sh.cells]
      · exact ((((HC6.out.setCell (p := ⟨w.heap.size, 0, none⟩) (.inr (Nat.le_refl _)) _).setCell (p := ⟨w.heap.size, 1, none⟩) (.inr (Nat.le_refl _)) _).setCell (p := ⟨w.heap.size, 2, none⟩) (.inr (Nat.le_refl _)) _).setCell (p := ⟨w.heap.size, 3, none⟩) (.inr (Nat.le_refl _)) _).setCell (p := ⟨w.heap.size, 4, none⟩) (.inr (Nat.le_refl _)) _
end Go.Proofs.YtmmnjecaedmleaaGreatDoor
