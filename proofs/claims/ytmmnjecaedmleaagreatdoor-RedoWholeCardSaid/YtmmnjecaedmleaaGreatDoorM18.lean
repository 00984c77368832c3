import Derived.Test.YtmmnjecaedmleaaGreatDoorM17
import Derived.Deep.DeepCutAuto

/- wlog: Add: contract. -/
namespace Go.Proofs.YtmmnjecaedmleaaGreatDoor
open Go.RowKit
attribute [local go_sem ↓] Go.wp_at_zero Go.wp_at_succ

def Lg.ent (L : Lg) (l : List Img) : Ent := ⟨L.next, L.at_, secs l.length, recBytes L.epoch L.next l, false⟩
def Lg.added (L : Lg) (l : List Img) : Lg := { L with live := L.live ++ [L.ent l], at_ := (L.at_ + secs l.length) % (L.s.log - 1), next := L.next + 1 }
def Lg.add (L : Lg) (m : Nat) (l : List Img) : Nat × Int × Lg :=
  if L.broken then (0, 13, L) else if wrongOf L.epoch L.next l ≠ 0 then (0, wrongOf L.epoch L.next l, L) else if m < l.length then (0, 31, L)
  else if decide (secs l.length + L.used ≤ L.s.log - 1) = false then (0, 10, L) else (L.next, 0, L.added l)

section
variable {w : World} {g b : Nat} {L : Lg} {G : Nat → Prop}

theorem Add_broken (h : LogAt w g b L G) (hb : L.broken = true) (v : Value) :
    Calls Tryz.prog 15 #[.pointer (some ⟨g, 0, none⟩), v] w fun e' w' => e' = .returned (.tuple #[.int .u64 0, .int .i64 13]) ∧ w' = w := by
  have H := Lib.hid h
  have HB := Lib.hid hb
  clear h hb
  go_enter Tryz.func15, Tryz.ntmps15
  go_wp2_with fail
  refine (mayL_ok H.out).mono ?_
  rw [HB.out]
  rintro e' w1 ⟨rfl, rfl⟩
  go_wp2_with fail
  go_ret2
  exact ⟨rfl, rfl⟩

set_option maxHeartbeats 1600000 in
set_option maxRecDepth 100000 in
theorem Add_wrong (h : LogAt w g b L G) (hf : L.FitN 1) (hb : L.broken = false) (a : Option Addr) (vc : Nat) (l : List Img) (hv : ImgsAt w (.slice a l.length vc) l) (hl : l.length ≤ 1000000) (c : Int) (hw : wrongOf L.epoch L.next l = c) (hc : c ≠ 0) :
    Calls Tryz.prog 15 #[.pointer (some ⟨g, 0, none⟩), .slice a l.length vc] w fun e' w' => e' = .returned (.tuple #[.int .u64 0, .int .i64 c]) ∧ Chg No w w' := by
  have H := Lib.hid h
  have HB := Lib.hid hb
  have HVd := Lib.hid (show ImgsAt w.drew (.slice a l.length vc) l from hv.no ((Chg.refl No w).drew))
  have hrp : recPut L.epoch L.next l = ([], c) := by unfold recPut; rw [if_pos (by rw [hw]; exact hc), hw]
  have HRP := Lib.hid hrp
  have q0 : (c != 0) = true := by simpa using hc
  obtain ⟨r, lv, hR⟩ := h
  obtain ⟨_, _, _, _, _, _, _, c7, _, c9, _⟩ := hR.cell
  have hgz : g < w.heap.size := blk_lt hR.blk
  clear hf hb hv hw hc hrp hR
  go_enter Tryz.func15, Tryz.ntmps15
  go_wp2_with fail
  refine (mayL_ok H.out).mono ?_
  rw [HB.out]
  rintro e' w1 ⟨rfl, rfl⟩
  go_wp2_with fail
  go_region_held3 (fun w' => w'.cell? ⟨g, 7, none⟩ = some (.int .u64 L.epoch) ∧ w'.cell? ⟨g, 9, none⟩ = some (.int .u64 L.next)) (go_keep)
    (first | (go_at_call 71; (with_reducible refine (RecPut_ok _ L.epoch L.next (.slice a l.length vc) l HVd.out hl).mono ?_); rw [HRP.out]; rintro e' w2 ⟨rfl, hc2⟩; have hk2 : ∀ o, w2.cell? ⟨g, o, none⟩ = w.cell? ⟨g, o, none⟩ := fun o => World.cell?_of_block (hc2.block g hgz id)))
  all_goals (go_wp2_with fail; go_ret2)
  all_goals exact ⟨rfl, (Chg.refl No w).drew.trans_same hc2⟩

set_option maxHeartbeats 3200000 in
set_option maxRecDepth 100000 in
theorem Add_full (h : LogAt w g b L G) (hf : L.FitN 1) (hb : L.broken = false) (a : Option Addr) (vc : Nat) (l : List Img) (hv : ImgsAt w (.slice a l.length vc) l) (m : Nat) (hm : IsMost L.s.log m) (hw : wrongOf L.epoch L.next l = 0) (hx : m < l.length ∨ decide (secs l.length + L.used ≤ L.s.log - 1) = false) :
    Calls Tryz.prog 15 #[.pointer (some ⟨g, 0, none⟩), .slice a l.length vc] w fun e' w' => e' = .returned (.tuple #[.int .u64 0, .int .i64 (if m < l.length then 31 else 10)]) ∧ Chg No w w' := by
  have H := Lib.hid h
  have HB := Lib.hid hb
  have HF := Lib.hid hf
  have HM := Lib.hid hm
  have hwz := wrong_zero hw
  have HVd := Lib.hid (show ImgsAt w.drew (.slice a l.length vc) l from hv.no ((Chg.refl No w).drew))
  have hrp : recPut L.epoch L.next l = (recBytes L.epoch L.next l, 0) := by unfold recPut; rw [if_neg (by rw [hw]; simp)]
  obtain ⟨rb, hrb⟩ : ∃ rb, recBytes L.epoch L.next l = rb := ⟨_, rfl⟩
  rw [hrb] at hrp
  have HRP := Lib.hid hrp
  obtain ⟨r, lv, hR⟩ := h
  obtain ⟨_, _, _, c3, _, _, _, c7, _, c9, _⟩ := hR.cell
  have hgz : g < w.heap.size := blk_lt hR.blk
  have hl1 := hf.ok.l1
  have hl2 := hf.ok.l2
  have hl0 := hwz.2.2.1
  have hl60 := hwz.2.2.2.1
  have hmm := hm.le
  have HX := Lib.hid hx
  clear hf hb hv hw hrp hR hm hwz hx hrb
  by_cases hml : m < l.length
  · rw [if_pos hml]
    have t0 : decide ((m : Int) < (l.length : Int)) = true := by simp only [decide_eq_true_eq]; omega
    have HML := Lib.hid hml
    clear hml
    go_enter Tryz.func15, Tryz.ntmps15
    go_wp2_with fail
    refine (mayL_ok H.out).mono ?_
    rw [HB.out]
    rintro e' w1 ⟨rfl, rfl⟩
    go_wp2_with fail
    go_region_held3 (fun w' => w'.cell? ⟨g, 7, none⟩ = some (.int .u64 L.epoch) ∧ w'.cell? ⟨g, 9, none⟩ = some (.int .u64 L.next)) (go_keep)
      (first | (go_at_call 71; (with_reducible refine (RecPut_ok _ L.epoch L.next (.slice a l.length vc) l HVd.out (by omega)).mono ?_); rw [HRP.out]; rintro e' w2 ⟨rfl, hc2⟩; have hk2 : ∀ o, w2.cell? ⟨g, o, none⟩ = w.cell? ⟨g, o, none⟩ := fun o => World.cell?_of_block (hc2.block g hgz id)))
    have d3 := (hk2 3).trans c3
    have HC2 := Lib.hid ((Chg.refl No w).drew.trans_same hc2)
    clear hk2 hc2
    go_wp2_with fail
    refine (Most_ok _ L.s.log m (by omega) (by omega) HM.out).mono ?_
    rintro e' w3 ⟨rfl, rfl⟩
    go_wp2_with fail
    go_ret2
    exact ⟨rfl, HC2.out⟩
  · rw [if_neg hml]
    have t0 : decide ((m : Int) < (l.length : Int)) = false := by simp only [decide_eq_false_iff_not]; omega
    have hxx : decide (secs l.length + L.used ≤ L.s.log - 1) = false := HX.out.resolve_left hml
    have HXX := Lib.hid hxx
    have HML := Lib.hid hml
    clear hml hxx
    go_enter Tryz.func15, Tryz.ntmps15
    go_wp2_with fail
    refine (mayL_ok H.out).mono ?_
    rw [HB.out]
    rintro e' w1 ⟨rfl, rfl⟩
    go_wp2_with fail
    go_region_held3 (fun w' => w'.cell? ⟨g, 7, none⟩ = some (.int .u64 L.epoch) ∧ w'.cell? ⟨g, 9, none⟩ = some (.int .u64 L.next)) (go_keep)
      (first | (go_at_call 71; (with_reducible refine (RecPut_ok _ L.epoch L.next (.slice a l.length vc) l HVd.out (by omega)).mono ?_); rw [HRP.out]; rintro e' w2 ⟨rfl, hc2⟩; have hk2 : ∀ o, w2.cell? ⟨g, o, none⟩ = w.cell? ⟨g, o, none⟩ := fun o => World.cell?_of_block (hc2.block g hgz id)))
    have d3 := (hk2 3).trans c3
    have HC2 := Lib.hid ((Chg.refl No w).drew.trans_same hc2)
    clear hk2 hc2
    go_wp2_with fail
    refine (Most_ok _ L.s.log m (by omega) (by omega) HM.out).mono ?_
    rintro e' w3 ⟨rfl, rfl⟩
    go_wp2_with fail
    refine (Fits_ok (H.out.no HC2.out) ⟨HF.out.ok, by have := HF.out.next; omega, HF.out.at_, by have := HF.out.len; omega, HF.out.ns⟩ HB.out m l.length HM.out hl0 (by have := HML.out; omega)).mono ?_
    rw [HXX.out]
    rintro e' w3 ⟨rfl, hc3⟩
    have HC3 := Lib.hid (HC2.out.trans_same hc3)
    clear hc3
    go_wp2_with fail
    go_ret2
    exact ⟨rfl, HC3.out⟩
end
end Go.Proofs.YtmmnjecaedmleaaGreatDoor

/- wlog: Add: contract, the good way. -/
namespace Go.Proofs.YtmmnjecaedmleaaGreatDoor
open Go.RowKit
attribute [local go_sem ↓] Go.wp_at_zero Go.wp_at_succ

section
variable {w : World} {g b : Nat} {L : Lg} {G : Nat → Prop}

set_option maxHeartbeats 3200000 in
set_option maxRecDepth 100000 in
theorem Add_yes (h : LogAt w g b L G) (hf : L.FitN 1) (hb : L.broken = false) (a : Option Addr) (vc : Nat) (l : List Img) (hv : ImgsAt w (.slice a l.length vc) l) (m : Nat) (hm : IsMost L.s.log m) (hw : wrongOf L.epoch L.next l = 0) (hx : l.length ≤ m) (hy : decide (secs l.length + L.used ≤ L.s.log - 1) = true) :
    Calls Tryz.prog 15 #[.pointer (some ⟨g, 0, none⟩), .slice a l.length vc] w fun e' w' => e' = .returned (.tuple #[.int .u64 L.next, .int .i64 0]) ∧ LogAt w' g b (L.added l) (grow G w w') ∧ Chg G w w' := by
  have H := Lib.hid h
  have HB := Lib.hid hb
  have HF := Lib.hid hf
  have HM := Lib.hid hm
  have hwz := wrong_zero hw
  have HVd := Lib.hid (show ImgsAt w.drew (.slice a l.length vc) l from hv.no ((Chg.refl No w).drew))
  have hrp : recPut L.epoch L.next l = (recBytes L.epoch L.next l, 0) := by unfold recPut; rw [if_neg (by rw [hw]; simp)]
  obtain ⟨rb, hrb⟩ : ∃ rb, recBytes L.epoch L.next l = rb := ⟨_, rfl⟩
  rw [hrb] at hrp
  have HRB := Lib.hid hrb
  have HRP := Lib.hid hrp
  obtain ⟨r, lv, hR⟩ := h
  obtain ⟨_, _, _, c3, _, _, _, c7, _, c9, _⟩ := hR.cell
  have hgz : g < w.heap.size := blk_lt hR.blk
  have hl1 := hf.ok.l1
  have hl2 := hf.ok.l2
  have hl0 := hwz.2.2.1
  have hl60 := hwz.2.2.2.1
  have hmm := hm.le
  have HY := Lib.hid hy
  have HR := Lib.hid hR
  have t0 : decide ((m : Int) < (l.length : Int)) = false := by simp only [decide_eq_false_iff_not]; omega
  clear hf hb hv hw hrp hR hm hwz hy hrb
  go_enter Tryz.func15, Tryz.ntmps15
  go_wp2_with fail
  refine (mayL_ok H.out).mono ?_
  rw [HB.out]
  rintro e' w1 ⟨rfl, rfl⟩
  go_wp2_with fail
  go_region_held3 (fun w' => w'.cell? ⟨g, 7, none⟩ = some (.int .u64 L.epoch) ∧ w'.cell? ⟨g, 9, none⟩ = some (.int .u64 L.next)) (go_keep)
    (first | (go_at_call 71; (with_reducible refine (RecPut_ok _ L.epoch L.next (.slice a l.length vc) l HVd.out (by omega)).mono ?_); rw [HRP.out]; rintro e' w2 ⟨rfl, hc2⟩; have hk2 : ∀ o, w2.cell? ⟨g, o, none⟩ = w.cell? ⟨g, o, none⟩ := fun o => World.cell?_of_block (hc2.block g hgz id)))
  have d3 := (hk2 3).trans c3
  have HC2 := Lib.hid ((Chg.refl No w).drew.trans_same hc2)
  clear hk2 hc2 c3 c7 c9
  go_wp2_with fail
  refine (Most_ok _ L.s.log m (by omega) (by omega) HM.out).mono ?_
  rintro e' w3 ⟨rfl, rfl⟩
  clear d3
  go_wp2_with fail
  refine (Fits_ok (H.out.no HC2.out) ⟨HF.out.ok, by have := HF.out.next; omega, HF.out.at_, by have := HF.out.len; omega, HF.out.ns⟩ HB.out m l.length HM.out hl0 hx).mono ?_
  rw [HY.out]
  rintro e' w3 ⟨rfl, hc3⟩
  have hC3 := HC2.out.trans_same hc3
  have hR3 := HR.out.chg hC3 (fun _ _ => id)
  obtain ⟨_, _, _, _, _, _, _, _, _, c9, _, c11, _, _, c14, _⟩ := hR3.cell
  have hgz3 : g < w3.heap.size := blk_lt hR3.blk
  have hgn3 := World.new_ne w3 _ c9
  have HR3 := Lib.hid hR3
  have HC3 := Lib.hid hC3
  obtain ⟨sl, hsl⟩ : ∃ sl, secs l.length = sl := ⟨_, rfl⟩
  have HSL := Lib.hid hsl
  have hsl200 : sl ≤ 200 := by rw [← hsl, secs, if_pos (by omega)]; omega
  clear hc3 hC3 hR3 hsl
  go_upto_region 11 with (fail)
  go_cut [9] (fun x wx => ∃ vb, x = .pointer (some ⟨vb, 0, none⟩) ∧ Hid (w3.heap.size ≤ vb) ∧ Hid (wx.heap[vb]? = some (.cells #[.int .u64 L.next, .int .i64 L.at_, .int .i64 sl, S rb, .bool false] 131 (0, 0))) ∧ Hid (Chg No w3 wx))
  case first =>
    go_region_held3 (fun w' => w'.cell? ⟨g, 9, none⟩ = some (.int .u64 L.next) ∧ w'.cell? ⟨g, 11, none⟩ = some (.int .i64 L.at_)) (go_keep)
      (first | (go_at_call 74; (with_reducible refine (Sectors_rec _ l.length).mono ?_); rw [HSL.out]; rintro e' w4 ⟨rfl, rfl⟩))
    all_goals (go_wp2_with fail; go_meet)
    all_goals exact ⟨_, rfl, Lib.hid (Nat.le_refl _), Lib.hid (blk_new w3 _), Lib.hid ((Chg.refl No w3).alloc _).drew⟩
  case rest =>
    obtain ⟨vb, rfl, HV, HX, HC4⟩ := hcut
    clear c9 c11 c14 hgn3
    have hR4 := HR3.out.chg HC4.out (fun _ _ => id)
    obtain ⟨_, _, _, _, _, _, _, _, _, c9, _, c11, _, _, c14, _⟩ := hR4.cell
    obtain ⟨x0, x1, x2, x3, x4⟩ := cells5 HX.out
    have hgz4 : g < wc.heap.size := blk_lt hR4.blk
    have hvz4 : vb < wc.heap.size := blk_lt HX.out
    have hgn := World.new_ne wc _ c9
    have hvn := World.new_ne wc _ x0
    obtain ⟨X, hX⟩ : ∃ X : Ent, X = ⟨L.next, L.at_, sl, rb, false⟩ := ⟨_, rfl⟩
    have HRG := Lib.hid (show RingR ((wc.alloc (.cells #[.int .u64 L.next, .int .i64 L.at_, .int .i64 sl, S rb, .bool false] 131)).drew) r lv L.live from hR4.ring.chg (((Chg.refl No wc).alloc _).drew) id (fun _ _ => id))
    have HBK := Lib.hid (show ((wc.alloc (.cells #[.int .u64 L.next, .int .i64 L.at_, .int .i64 sl, S rb, .bool false] 131)).drew).heap[wc.heap.size]? = some (.cells X.cells.toArray 131 (0, 0)) from by rw [hX]; exact blk_new wc _)
    have hrz4 : r < wc.heap.size := blk_lt hR4.ring.blk
    have hlen : L.live.length < 100000 := by have := HF.out.len; omega
    have hlv : lv.ownBlock ≠ some wc.heap.size := fun e => by have := (hR4.ring.row.lt _ e).2; omega
    have hvr : vb ≠ r := by have := HV.out; have := HR3.out.lt r HR3.out.fr; omega
    have hvl : lv.ownBlock ≠ some vb := fun e => by have h1 := HV.out; have h2 := HR3.out.lt vb (HR3.out.fl vb e); omega
    have hgr := hR4.ngr
    have hgl := hR4.nl
    have HXE := Lib.hid hX
    have HR4 := Lib.hid hR4
    clear hR4 hX
    go_wp2_with fail
    go_region_held3 (fun w' => w'.cell? ⟨g, 14, none⟩ = some (.pointer (some ⟨r, 0, none⟩)) ∧ w'.cell? ⟨vb, 0, none⟩ = some (.int .u64 L.next) ∧ w'.cell? ⟨vb, 1, none⟩ = some (.int .i64 L.at_) ∧ w'.cell? ⟨vb, 2, none⟩ = some (.int .i64 sl) ∧ w'.cell? ⟨vb, 3, none⟩ = some (S rb) ∧ w'.cell? ⟨vb, 4, none⟩ = some (.bool false)) (go_keep)
      (first | (go_at_call 75; (refine (RingPush_ok HRG.out hlen wc.heap.size 1 X HBK.out (by omega) hlv (Nat.le_refl _)).mono ?_); rintro e' w5 ⟨rfl, ⟨gg, cap, hr5, hgat, hglt⟩, hc5⟩; have hk5 : ∀ o, w5.cell? ⟨g, o, none⟩ = wc.cell? ⟨g, o, none⟩ := fun o => (World.cell?_of_block (hc5.block g (by simp; omega) (by rintro (h | h); exact hgr h; exact hgl h))).trans (World.cell?_of_block (Below.heap_alloc _ _ _ hgz4)); have hk6 : ∀ o, w5.cell? ⟨vb, o, none⟩ = wc.cell? ⟨vb, o, none⟩ := fun o => (World.cell?_of_block (hc5.block vb (by simp; omega) (by rintro (h | h); exact hvr h; exact hvl h))).trans (World.cell?_of_block (Below.heap_alloc _ _ _ hvz4))))
    have hz5 := hc5.size
    rw [show ((wc.alloc (.cells #[.int .u64 L.next, .int .i64 L.at_, .int .i64 sl, S rb, .bool false] 131)).drew).heap.size = wc.heap.size + 1 from by simp] at hz5 hgat
    have hzc : w.heap.size ≤ wc.heap.size := Nat.le_trans HC3.out.size HC4.out.size
    have hR5 : LogR w5 g b r (.slice (some ⟨gg, 0, none⟩) (L.live.length + 1) cap) { L with live := L.live ++ [X] } (grow G w w5) := by
      refine ⟨hc5.obj (show ((wc.alloc _).drew).heap[g]? = _ from blk_alloc _ HR4.out.blk) (by rintro (h | h); exact hgr h; exact hgl h), hr5, .inl HR4.out.fg, .inl HR4.out.fr, ?_, hgr, ?_, ?_⟩
      · intro k hk
        simp [Value.ownBlock] at hk
        subst hk
        exact hgat.elim (fun e => .inl (HR4.out.fl _ e)) (fun e => .inr ⟨by omega, hglt⟩)
      · intro e
        simp [Value.ownBlock] at e
        subst e
        exact hgat.elim (fun e => hgl e) (fun e => by omega)
      · exact grow_lt (fun k hk => HR.out.lt k hk) (by omega)
    have hC5 : Chg G w w5 := by
      refine (((HC3.out.trans_same HC4.out).alloc (.cells #[.int .u64 L.next, .int .i64 L.at_, .int .i64 sl, S rb, .bool false] 131)).drew.of_no).trans hc5 ?_
      rintro k (rfl | hk)
      · exact .inl HR4.out.fr
      · exact .inl (HR4.out.fl k hk)
    have x25 : w5.cell? ⟨vb, 2, none⟩ = some (.int .i64 sl) := (hk6 2).trans x2
    have x05 : w5.cell? ⟨vb, 0, none⟩ = some (.int .u64 L.next) := (hk6 0).trans x0
    have HR5 := Lib.hid hR5
    have HC5 := Lib.hid hC5
    have hvb5 := World.block_lt_of_cell? w5 _ x25
    have hvg : vb ≠ g := by have := HV.out; omega
    clear hk5 hk6 hr5 hc5 hgat hR5 hC5 c9 c11 c14 x0 x1 x2 x3 x4 hgn hvn
    obtain ⟨_, _, _, _, _, _, _, _, _, _, _, c11, _⟩ := HR5.out.cell
    have f11 := free_of_blk HR5.out.blk 11
    obtain ⟨at2, hat2⟩ : ∃ at2, at2 = (L.at_ + sl) % (L.s.log - 1) := ⟨_, rfl⟩
    have hw1 : IntKind.i64.wrap ((L.at_ : Int) + (sl : Int)) = (L.at_ : Int) + (sl : Int) := IntWalk.i64_in _ (by have := HF.out.at_; omega)
    have hm1 : ((L.at_ : Int) + (sl : Int)) % ((L.s.log - 1 : Nat) : Int) = (at2 : Int) := by rw [hat2, ← Int.natCast_add, ← Int.natCast_emod]
    have hz1 : ((L.s.log - 1 : Nat) : Int) ≠ 0 := by omega
    have hz2 : (((L.s.log - 1 : Nat) : Int) == 0) = false := by simp; omega
    have HLd := Lib.hid (show LogAt w5.drew g b { L with live := L.live ++ [X] } (grow G w w5) from ⟨r, _, HR5.out.chg ((Chg.refl No w5).drew) (fun _ _ => id)⟩)
    have HOK := Lib.hid HF.out.ok
    have HAT2 := Lib.hid hat2
    clear hat2
    go_upto_region 13 with (fail)
    go_cut [] (fun wx => wx = (w5.setCell ⟨g, 11, none⟩ (.int .i64 at2)).drew)
    case first =>
      go_region_with (first | (go_at_call 76; (with_reducible refine (sizeL_ok HLd.out HOK.out).mono ?_); rintro e' w6 ⟨rfl, rfl⟩))
      all_goals (go_wp2_with fail; go_meet)
      all_goals rfl
    case rest =>
      subst hcut
      have hR6 : LogR ((w5.setCell ⟨g, 11, none⟩ (.int .i64 at2)).drew) g b r (.slice (some ⟨gg, 0, none⟩) (L.live.length + 1) cap) { L with live := L.live ++ [X], at_ := at2 } (grow G w w5) :=
        (HR5.out.set 11 (.int .i64 at2) { L with live := L.live ++ [X], at_ := at2 } rfl rfl).chg ((Chg.refl No _).drew) (fun _ _ => id)
      have hC6 : Chg G w ((w5.setCell ⟨g, 11, none⟩ (.int .i64 at2)).drew) := (HC5.out.setCell (p := ⟨g, 11, none⟩) (.inl HR4.out.fg) _).drew
      have hz6 : ((w5.setCell ⟨g, 11, none⟩ (.int .i64 at2)).drew).heap.size = w5.heap.size := by simp [World.setCell]
      have x06 : ((w5.setCell ⟨g, 11, none⟩ (.int .i64 at2)).drew).cell? ⟨vb, 0, none⟩ = some (.int .u64 L.next) :=
        (World.cell?_of_block (blk_set_ne (b := g) (o := 11) (v := .int .i64 at2) rfl hvg)).trans x05
      clear x25 x05 hvb5 c11 f11 hw1 hm1
      generalize (w5.setCell ⟨g, 11, none⟩ (.int .i64 at2)).drew = W6 at hR6 hC6 hz6 x06 ⊢
      obtain ⟨_, _, _, _, _, _, _, _, _, c9, _⟩ := hR6.cell
      have f9 := free_of_blk hR6.blk 9
      have hvg2 : g ≠ vb := hvg.symm
      have hun : IntKind.u64.wrap ((L.next : Int) + 1) = (L.next : Int) + 1 := by
        have := wrap_u64 (L.next + 1) (by have := HF.out.next; omega)
        rwa [Int.natCast_add] at this
      have HR6 := Lib.hid hR6
      have HC6 := Lib.hid hC6
      have HZ6 := Lib.hid hz6
      clear hR6 hC6 hz6
      go_wp2_with fail
      go_ret2
      refine ⟨rfl, ⟨r, .slice (some ⟨gg, 0, none⟩) (L.live.length + 1) cap, ?_⟩, HC6.out.setCell (p := ⟨g, 9, none⟩) (.inl HR4.out.fg) _⟩
      have hfin := HR6.out.set 9 (.int .u64 ((L.next : Int) + 1)) (L.added l) (by rw [Lg.added, HSL.out, ← HAT2.out]; rfl) (by rw [Lg.added, Lg.ent, HSL.out, HRB.out, HXE.out])
      have hzf : (W6.setCell ⟨g, 9, none⟩ (.int .u64 ((L.next : Int) + 1))).heap.size = w5.heap.size := by simp [World.setCell, HZ6.out]
      unfold grow at hfin ⊢
      rw [hzf]
      exact hfin
end
end Go.Proofs.YtmmnjecaedmleaaGreatDoor

/- wlog: Add: contract, the whole. -/
namespace Go.Proofs.YtmmnjecaedmleaaGreatDoor
open Go.RowKit

section
variable {w : World} {g b : Nat} {L : Lg} {G : Nat → Prop}

theorem imgs_form {v : Value} {l : List Img} (h : ImgsAt w v l) : ∃ a c, v = .slice a l.length c := by
  rcases h with ⟨a, c, rfl, rfl⟩ | ⟨g, off, c, rfl, _⟩
  · exact ⟨a, c, rfl⟩
  · exact ⟨_, c, rfl⟩
theorem LogAt.keep {w' : World} (h : LogAt w g b L G) (hc : Chg No w w') : LogAt w' g b L (grow G w w') := by
  obtain ⟨r, lv, hR⟩ := h
  have hR' := hR.chg hc (fun _ _ => id)
  exact ⟨r, lv, hR'.blk, hR'.ring, .inl hR'.fg, .inl hR'.fr, fun k hk => .inl (hR'.fl k hk), hR'.ngr, hR'.nl, grow_lt hR.lt hc.size⟩

theorem Add_ok (h : LogAt w g b L G) (hf : L.FitN 1) (v : Value) (l : List Img) (hv : ImgsAt w v l) (hl : l.length ≤ 1000000) (m : Nat) (hm : IsMost L.s.log m) :
    Calls Tryz.prog 15 #[.pointer (some ⟨g, 0, none⟩), v] w fun e' w' => e' = .returned (.tuple #[.int .u64 (L.add m l).1, .int .i64 (L.add m l).2.1]) ∧ LogAt w' g b (L.add m l).2.2 (grow G w w') ∧ Chg G w w' := by
  obtain ⟨a, vc, rfl⟩ := imgs_form hv
  unfold Lg.add
  cases hb : L.broken
  · rw [if_neg (by decide)]
    by_cases hw : wrongOf L.epoch L.next l = 0
    · rw [if_neg (by simp [hw])]
      by_cases hx : m < l.length
      · rw [if_pos hx]
        refine (Add_full h hf hb a vc l hv m hm hw (.inl hx)).mono ?_
        rintro e' w' ⟨rfl, hc⟩
        rw [if_pos hx]
        exact ⟨rfl, h.keep hc, hc.of_no⟩
      · rw [if_neg hx]
        cases hy : decide (secs l.length + L.used ≤ L.s.log - 1)
        · rw [if_pos rfl]
          refine (Add_full h hf hb a vc l hv m hm hw (.inr hy)).mono ?_
          rintro e' w' ⟨rfl, hc⟩
          rw [if_neg hx]
          exact ⟨rfl, h.keep hc, hc.of_no⟩
        · rw [if_neg (by decide)]
          exact Add_yes h hf hb a vc l hv m hm hw (by omega) hy
    · rw [if_pos hw]
      refine (Add_wrong h hf hb a vc l hv hl _ rfl hw).mono ?_
      rintro e' w' ⟨rfl, hc⟩
      exact ⟨rfl, h.keep hc, hc.of_no⟩
  · rw [if_pos rfl]
    refine (Add_broken h hb _).mono ?_
    rintro e' w' ⟨rfl, rfl⟩
    exact ⟨rfl, h.keep (Chg.refl _ _), Chg.refl _ _⟩
end
end Go.Proofs.YtmmnjecaedmleaaGreatDoor
