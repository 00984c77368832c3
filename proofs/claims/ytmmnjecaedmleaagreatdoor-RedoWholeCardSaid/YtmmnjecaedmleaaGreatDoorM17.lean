import Derived.Test.YtmmnjecaedmleaaGreatDoorM16
import Derived.Deep.DeepCutAuto

/- sdisk: bounds that are kept, with room to spare. -/
namespace Go.Proofs.YtmmnjecaedmleaaGreatDoor
open Go.RowKit

/-- The disk's counts have room for N sectors more. -/
structure Dk.FitN (D : Dk) (N : Nat) : Prop where
  s0 : 0 < D.sectors
  s1 : D.sectors ≤ 20000
  waits : D.waits.length + N ≤ 100000000
  stays : D.stays.length ≤ 100000000
  seq : D.seq + N ≤ 1000000000000
  left : D.left ≤ 9223372036854775807
theorem Dk.FitN.fit {D : Dk} {N : Nat} (h : D.FitN N) : D.Fit := ⟨h.s0, h.s1, by have := h.waits; omega, h.stays, by have := h.seq; omega, h.left⟩
theorem Dk.FitN.le {D : Dk} {N M : Nat} (h : D.FitN N) (hm : M ≤ N) : D.FitN M := ⟨h.s0, h.s1, by have := h.waits; omega, h.stays, by have := h.seq; omega, h.left⟩
theorem goes_fitN {D : Dk} {N : Nat} (h : D.FitN N) : D.goes.2.FitN N := by
  unfold Dk.goes
  split
  · split
    · exact ⟨h.s0, h.s1, h.waits, h.stays, h.seq, by have := h.left; show D.left - 1 ≤ _; omega⟩
    · show (D.cut D.stays).FitN N
      unfold Dk.cut
      split
      · refine ⟨h.s0, h.s1, ?_, by simp [Dk.cutOn], h.seq, by simp [Dk.cutOn]⟩
        have := h.waits
        simp [Dk.cutOn]
        omega
      · exact ⟨h.s0, h.s1, h.waits, by simp [Dk.arm], h.seq, by simp [Dk.arm]⟩
  · exact h
theorem settle_fitN {D : Dk} {N : Nat} (h : D.FitN N) (node : Int) : (D.settle node).FitN N :=
  ⟨h.s0, h.s1, by have h1 := settleW_len node D.waits; have := h.waits; show (settleW node D.waits).length + N ≤ _; omega, h.stays, h.seq, h.left⟩
theorem wrN_fitN {D : Dk} {node at_ : Int} {data : Bytes} {n N : Nat} (h : D.FitN (N + n)) : (D.wrN node at_ data n).FitN N := by
  obtain ⟨a0, _, _, _, _, _, _, a1, a2⟩ := wrN_same D node at_ data n
  exact ⟨by rw [a0]; exact h.s0, by rw [a0]; exact h.s1, by rw [wrN_waits]; have := h.waits; omega, by rw [a2]; exact h.stays, by rw [wrN_seq]; have := h.seq; omega, by rw [a1]; exact h.left⟩
theorem write_fitN {D : Dk} {node : Int} {epoch : Nat} {at_ : Int} {data : Bytes} {N : Nat} (h : D.FitN (N + 16)) : (D.write node epoch at_ data).2.FitN N := by
  unfold Dk.write
  split
  · exact h.le (by omega)
  · split
    · exact h.le (by omega)
    · split
      · exact h.le (by omega)
      · split
        · exact h.le (by omega)
        · split
          · exact (goes_fitN h).le (by omega)
          · exact wrN_fitN ((goes_fitN h).le (by omega))
theorem barrier_fitN {D : Dk} {node : Int} {epoch : Nat} {N : Nat} (h : D.FitN N) : (D.barrier node epoch).2.FitN N := by
  unfold Dk.barrier
  split
  · exact h
  · split
    · exact h
    · split
      · exact goes_fitN h
      · exact settle_fitN (goes_fitN h) _
theorem fence_fitN {D : Dk} {node : Int} {N : Nat} (h : D.FitN N) : (D.fence node).2.FitN N := by
  unfold Dk.fence
  split
  · exact h
  · split
    · exact goes_fitN h
    · obtain ⟨a, b, c, d, e, f⟩ := settle_fitN (goes_fitN h) node
      exact ⟨a, b, c, d, e, f⟩
theorem admit_fitN {D : Dk} {node : Int} {epoch : Nat} {N : Nat} (h : D.FitN N) : (D.admit node epoch).2.FitN N := by
  unfold Dk.admit
  split
  · exact h
  · split
    · exact h
    · split
      · exact goes_fitN h
      · obtain ⟨a, b, c, d, e, f⟩ := goes_fitN h
        exact ⟨a, b, c, d, e, f⟩
end Go.Proofs.YtmmnjecaedmleaaGreatDoor

/- wlog: head: contract. -/
namespace Go.Proofs.YtmmnjecaedmleaaGreatDoor
open Go.RowKit
attribute [local go_sem ↓] Go.wp_at_zero Go.wp_at_succ

def Dk.logHead (D : Dk) (L : Lg) (lsn at_ : Nat) : Int × Dk :=
  if Hd.right ⟨L.epoch, lsn, at_⟩ = false then (1, D)
  else if (D.write L.node L.epoch L.base (headBytes ⟨L.epoch, lsn, at_⟩)).1 ≠ 0 then D.write L.node L.epoch L.base (headBytes ⟨L.epoch, lsn, at_⟩)
  else (D.write L.node L.epoch L.base (headBytes ⟨L.epoch, lsn, at_⟩)).2.barrier L.node L.epoch

theorem logHead_fitN {D : Dk} {L : Lg} {lsn at_ N : Nat} (h : D.FitN (N + 16)) : (D.logHead L lsn at_).2.FitN N := by
  unfold Dk.logHead
  split
  · exact h.le (by omega)
  · split
    · exact write_fitN h
    · exact barrier_fitN (write_fitN h)

section
variable {w : World} {g b : Nat} {D : Dk} {F : Nat → Prop} {L : Lg} {G : Nat → Prop}

set_option maxHeartbeats 1600000 in
set_option maxRecDepth 100000 in
theorem head_ok (hd : DiskAt w b D F) (hl : LogAt w g b L G) (hdj : ∀ k, F k → ¬ G k) (hf : D.FitN 16) (lsn at_ : Nat) :
    Calls Tryz.prog 66 #[.pointer (some ⟨g, 0, none⟩), .int .u64 lsn, .int .i64 at_] w fun e' w' => e' = .returned (.int .i64 (D.logHead L lsn at_).1) ∧ St F w w' b (D.logHead L lsn at_).2 := by
  have HD := Lib.hid hd
  have HFL := Lib.hid hd.lt
  have HF := Lib.hid hf
  obtain ⟨r, lv, hR⟩ := hl
  obtain ⟨c0, _, _, _, _, _, c6, c7, c8, _⟩ := hR.cell
  have hgz : g < w.heap.size := blk_lt hR.blk
  have hgF : ¬ F g := fun h => hdj g h hR.fg
  have HR := Lib.hid hR
  clear hd hf hR
  unfold Dk.logHead
  by_cases hr : Hd.right ⟨L.epoch, lsn, at_⟩ = false
  · rw [if_pos hr]
    have HRr := Lib.hid hr
    clear hr
    go_enter Tryz.func66, Tryz.ntmps66
    go_wp2_with fail
    refine (PutHead_no _ L.epoch lsn at_ HRr.out).mono ?_
    rintro e' w1 ⟨rfl, hc1⟩
    have HC1 := Lib.hid hc1
    clear hc1
    go_wp2_with fail
    go_ret
    exact ⟨rfl, (St.refl HD.out).no HC1.out⟩
  · rw [if_neg hr]
    have hr2 : 0 < L.epoch ∧ 0 < lsn ∧ at_ ≤ 256 := by simpa [Hd.right] using hr
    have hbl : (headBytes ⟨L.epoch, lsn, at_⟩).length = 64 := stamp_length _ (by simp [headBody, le_length])
    obtain ⟨hb, hhb⟩ : ∃ hb, headBytes ⟨L.epoch, lsn, at_⟩ = hb := ⟨_, rfl⟩
    rw [hhb] at hbl ⊢
    obtain ⟨wr, hwr⟩ : ∃ wr, D.write L.node L.epoch L.base hb = wr := ⟨_, rfl⟩
    rw [hwr]
    obtain ⟨c, D1⟩ := wr
    have HF1 := Lib.hid (show D1.FitN 0 by have := write_fitN (N := 0) (node := L.node) (epoch := L.epoch) (at_ := L.base) (data := hb) HF.out; rw [hwr] at this; exact this)
    have HR2 := Lib.hid hr2
    have HHB := Lib.hid hhb
    have HWR := Lib.hid hwr
    clear hr hr2 hhb hwr
    by_cases hc : c = 0
    · subst hc
      rw [if_neg (by simp)]
      show Calls _ _ _ _ (fun e' w' => e' = .returned (.int .i64 (D1.barrier L.node L.epoch).1) ∧ St F w w' b (D1.barrier L.node L.epoch).2)
      obtain ⟨br, hbr⟩ : ∃ br, D1.barrier L.node L.epoch = br := ⟨_, rfl⟩
      rw [hbr]
      obtain ⟨c2, D2⟩ := br
      have HBR := Lib.hid hbr
      clear hbr
      go_enter Tryz.func66, Tryz.ntmps66
      go_wp2_with fail
      refine (PutHead_ok _ L.epoch lsn at_ HR2.out.1 HR2.out.2.1 HR2.out.2.2).mono ?_
      rw [HHB.out]
      rintro e' w1 ⟨rfl, hc1⟩
      have d0 := hc1.cell c0 id
      have d6 := hc1.cell c6 id
      have d7 := hc1.cell c7 id
      have d8 := hc1.cell c8 id
      have hz1 := hc1.size
      have H1 := Lib.hid (St.refl (HD.out.no' hc1.drew))
      have HDK1 := Lib.hid H1.out.1
      have HFF := Lib.hid HF.out.fit
      have HC1 := Lib.hid hc1.drew
      clear hc1 c0 c6 c7 c8
      go_wp2_with fail
      go_region_held3 (fun w' => w'.cell? ⟨g, 0, none⟩ = some (.pointer (some ⟨b, 0, none⟩)) ∧ w'.cell? ⟨g, 6, none⟩ = some (.int .i64 L.node) ∧ w'.cell? ⟨g, 7, none⟩ = some (.int .u64 L.epoch) ∧ w'.cell? ⟨g, 8, none⟩ = some (.int .i64 L.base)) (go_keep)
        (first | (go_at_call 69; (with_reducible refine (Write_ok HDK1.out HFF.out L.node L.epoch L.base hb (by omega)).mono ?_); rw [HWR.out]; rintro e w2 ⟨rfl, hd2, hc2⟩; have H2 := Lib.hid (H1.out.next hd2 hc2); have hk2 : ∀ o, w2.cell? ⟨g, o, none⟩ = w1.cell? ⟨g, o, none⟩ := fun o => World.cell?_of_block (H2.out.2.block g (by simp; omega) hgF); clear hd2 hc2))
      have hk20 : ∀ o, w1.cell? ⟨g, o, none⟩ = w2.cell? ⟨g, o, none⟩ := fun o => (hk2 o).symm
      have d0 := (hk2 0).trans d0
      have d6 := (hk2 6).trans d6
      have d7 := (hk2 7).trans d7
      have hz2 := H2.out.2.size
      rw [show w1.drew.heap.size = w1.heap.size from rfl] at hz2
      have H2d := Lib.hid (H2.out.no ((Chg.refl No w2).drew))
      have HDK2 := Lib.hid H2d.out.1
      have HFF1 := Lib.hid HF1.out.fit
      have HK20 := Lib.hid hk20
      clear hk2 d8 hk20
      go_wp2_with fail
      go_region_held3 (fun w' => w'.cell? ⟨g, 0, none⟩ = some (.pointer (some ⟨b, 0, none⟩)) ∧ w'.cell? ⟨g, 6, none⟩ = some (.int .i64 L.node) ∧ w'.cell? ⟨g, 7, none⟩ = some (.int .u64 L.epoch)) (go_keep)
        (first | (go_at_call 17; (with_reducible refine (Barrier_ok HDK2.out HFF1.out L.node L.epoch).mono ?_); rw [HBR.out]; rintro e w3 ⟨rfl, hd3, hc3⟩; have H3 := Lib.hid (H2d.out.next hd3 hc3); have hk3 : ∀ o, w3.cell? ⟨g, o, none⟩ = w2.cell? ⟨g, o, none⟩ := fun o => (World.cell?_of_block (H3.out.2.block g (by simp; omega) hgF)).trans (HK20.out o); clear hd3 hc3))
      all_goals (go_wp2_with fail; go_ret)
      all_goals exact ⟨rfl, St.pre HC1.out H3.out HFL.out⟩
    · rw [if_pos (by simpa using hc)]
      have q0 : (c != 0) = true := by simpa using hc
      clear hc
      go_enter Tryz.func66, Tryz.ntmps66
      go_wp2_with fail
      refine (PutHead_ok _ L.epoch lsn at_ HR2.out.1 HR2.out.2.1 HR2.out.2.2).mono ?_
      rw [HHB.out]
      rintro e' w1 ⟨rfl, hc1⟩
      have d0 := hc1.cell c0 id
      have d6 := hc1.cell c6 id
      have d7 := hc1.cell c7 id
      have d8 := hc1.cell c8 id
      have hz1 := hc1.size
      have H1 := Lib.hid (St.refl (HD.out.no' hc1.drew))
      have HDK1 := Lib.hid H1.out.1
      have HFF := Lib.hid HF.out.fit
      have HC1 := Lib.hid hc1.drew
      clear hc1 c0 c6 c7 c8
      go_wp2_with fail
      go_region_held3 (fun w' => w'.cell? ⟨g, 0, none⟩ = some (.pointer (some ⟨b, 0, none⟩)) ∧ w'.cell? ⟨g, 6, none⟩ = some (.int .i64 L.node) ∧ w'.cell? ⟨g, 7, none⟩ = some (.int .u64 L.epoch) ∧ w'.cell? ⟨g, 8, none⟩ = some (.int .i64 L.base)) (go_keep)
        (first | (go_at_call 69; (with_reducible refine (Write_ok HDK1.out HFF.out L.node L.epoch L.base hb (by omega)).mono ?_); rw [HWR.out]; rintro e w2 ⟨rfl, hd2, hc2⟩; have H2 := Lib.hid (H1.out.next hd2 hc2); have hk2 : ∀ o, w2.cell? ⟨g, o, none⟩ = w1.cell? ⟨g, o, none⟩ := fun o => World.cell?_of_block (H2.out.2.block g (by simp; omega) hgF); clear hd2 hc2))
      clear hk2 d0 d6 d7 d8
      go_wp2_with fail
      go_ret
      exact ⟨rfl, St.pre HC1.out H2.out HFL.out⟩
end
end Go.Proofs.YtmmnjecaedmleaaGreatDoor

/- wlog: Open: contract. -/
namespace Go.Proofs.YtmmnjecaedmleaaGreatDoor
open Go.RowKit
attribute [local go_sem ↓] Go.wp_at_zero Go.wp_at_succ

/-- A disk and a log upon it, their memory apart, all of it new since w0 or within F0. -/
structure Sys (w0 : World) (w : World) (b g : Nat) (D : Dk) (L : Lg) (F G : Nat → Prop) : Prop where
  disk : DiskAt w b D F
  log : LogAt w g b L G
  apart : ∀ k, F k → ¬ G k
def Lg.new (s : Sh) (node : Int) (epoch : Nat) (base : Int) : Lg := ⟨s, node, epoch, base, 1, 1, 0, 0, 0, [], false⟩
def OpenPost (s : Sh) (D : Dk) (F : Nat → Prop) (b : Nat) (node : Int) (epoch : Nat) (w : World) (e' : Ending) (w' : World) : Prop :=
  if (s.logAt node).2 ≠ 0 then e' = .returned (.tuple #[.pointer none, .int .i64 (s.logAt node).2]) ∧ Chg No w w'
  else if (D.logHead (Lg.new s node epoch (s.logAt node).1) 1 0).1 ≠ 0 then e' = .returned (.tuple #[.pointer none, .int .i64 (D.logHead (Lg.new s node epoch (s.logAt node).1) 1 0).1]) ∧ St F w w' b (D.logHead (Lg.new s node epoch (s.logAt node).1) 1 0).2
  else ∃ g F' G', e' = .returned (.tuple #[.pointer (some ⟨g, 0, none⟩), .int .i64 0]) ∧ DiskAt w' b (D.logHead (Lg.new s node epoch (s.logAt node).1) 1 0).2 F' ∧ LogAt w' g b (Lg.new s node epoch (s.logAt node).1) G' ∧ (∀ k, F' k → ¬ G' k) ∧
    (∀ k, F' k → grow F w w' k) ∧ (∀ k, G' k → w.heap.size ≤ k) ∧ Chg F w w'

section
variable {w : World} {b : Nat} {D : Dk} {F : Nat → Prop}

set_option maxHeartbeats 1600000 in
set_option maxRecDepth 100000 in
theorem Open_no {s : Sh} (hs : s.Ok) (node : Int) (epoch : Nat) (e : Int) (at_ : Int) (h : s.logAt node = (at_, e)) (he : e ≠ 0) :
    Calls Tryz.prog 12 #[.pointer (some ⟨b, 0, none⟩), s.val, .int .i64 node, .int .u64 epoch] w fun e' w' => e' = .returned (.tuple #[.pointer none, .int .i64 e]) ∧ Chg No w w' := by
  have hval : s.val = .agg #[.int .i64 s.nodes, .int .i64 s.blocks, .int .i64 s.log, .int .i64 s.cache, .int .i64 s.lease] := rfl
  have HS := Lib.hid hs
  have H := Lib.hid h
  have q0 : (e != 0) = true := by simpa using he
  rw [hval]
  clear hs h he hval
  go_enter Tryz.func12, Tryz.ntmps12
  go_wp2_with fail
  refine (LogAt_ok _ HS.out node).mono ?_
  rw [H.out]
  rintro e' w1 ⟨rfl, hc1⟩
  have HC1 := Lib.hid (((Chg.refl No w).alloc _).trans_same hc1)
  clear hc1
  go_wp2_with fail
  go_ret2
  exact ⟨rfl, HC1.out⟩

set_option maxHeartbeats 1600000 in
set_option maxRecDepth 100000 in
theorem Open_yes {s : Sh} (hs : s.Ok) (hd : DiskAt w b D F) (hf : D.FitN 16) (node : Int) (epoch : Nat) (at_ : Int) (h : s.logAt node = (at_, 0)) :
    Calls Tryz.prog 12 #[.pointer (some ⟨b, 0, none⟩), s.val, .int .i64 node, .int .u64 epoch] w (OpenPost s D F b node epoch w) := by
  have hval : s.val = .agg #[.int .i64 s.nodes, .int .i64 s.blocks, .int .i64 s.log, .int .i64 s.cache, .int .i64 s.lease] := rfl
  have HS := Lib.hid hs
  have H := Lib.hid h
  have HD := Lib.hid hd
  have HF := Lib.hid hf
  have HFL := Lib.hid hd.lt
  rw [hval]
  obtain ⟨x, hx⟩ : ∃ x, D.logHead (Lg.new s node epoch at_) 1 0 = x := ⟨_, rfl⟩
  obtain ⟨c, D1⟩ := x
  have HX := Lib.hid hx
  clear hs h hval hd hf hx
  go_enter Tryz.func12, Tryz.ntmps12
  go_wp2_with fail
  refine (LogAt_ok _ HS.out node).mono ?_
  rw [H.out]
  rintro e' w1 ⟨rfl, hc1⟩
  obtain ⟨c0, c1, c2, c3, c4⟩ := cells5 (hc1.obj (blk_new w _) id)
  have HC1 := Lib.hid (((Chg.refl No w).alloc _).trans_same hc1)
  have hwz := World.block_lt_of_cell? w1 _ c0
  clear hc1
  go_upto_region 6 with (fail)
  go_cut [12] (fun x wx => ∃ g r, x = .pointer (some ⟨g, 0, none⟩) ∧ Hid (LogR wx g b r (.slice none 0 0) (Lg.new s node epoch at_) (fun k => k = g ∨ k = r)) ∧ Hid (w1.heap.size ≤ g ∧ w1.heap.size ≤ r) ∧ Hid (Chg No w1 wx))
  case first =>
    go_region_held3 (fun w' => w'.cell? ⟨w.heap.size, 0, none⟩ = some (.int .i64 s.nodes) ∧ w'.cell? ⟨w.heap.size, 1, none⟩ = some (.int .i64 s.blocks) ∧ w'.cell? ⟨w.heap.size, 2, none⟩ = some (.int .i64 s.log) ∧ w'.cell? ⟨w.heap.size, 3, none⟩ = some (.int .i64 s.cache) ∧ w'.cell? ⟨w.heap.size, 4, none⟩ = some (.int .i64 s.lease)) (go_keep)
      (first | (go_at_call 65; (with_reducible refine (RingNew_ok _ 100000 (by omega)).mono ?_); rintro e w2 ⟨rfl, hr2, hc2⟩; have hk2 : ∀ o, w2.cell? ⟨w.heap.size, o, none⟩ = w1.cell? ⟨w.heap.size, o, none⟩ := fun o => World.cell?_of_block (hc2.block _ hwz id)))
    all_goals (go_wp2_with fail; go_meet)
    have hr2' : w2.heap[w1.heap.size]? = some (.cells #[.slice none 0 0, .int .i64 100000] 244 (0, 0)) := hr2
    have hrz := blk_lt hr2'
    refine ⟨_, w1.heap.size, rfl, Lib.hid ⟨blk_new w2 _, ⟨blk_alloc _ hr2', World.ownsRow_nil _ _ _ _, by simp [Value.ownBlock]⟩, .inl rfl, .inr rfl, by simp [Value.ownBlock], by omega, by simp [Value.ownBlock], ?_⟩, Lib.hid ⟨hc2.size, Nat.le_refl _⟩, Lib.hid (((Chg.refl No w1).drew.trans_same hc2).alloc _)⟩
    rintro k (rfl | rfl)
    · simp
    · simp; omega
  case rest =>
    obtain ⟨g, r, rfl, HL, HGR, HC2⟩ := hcut
    have hcc := HC1.out.trans_same HC2.out
    have hdj : ∀ k, F k → ¬ (k = g ∨ k = r) := fun k hk => by
      have h1 := HFL.out k hk
      have h2 := HGR.out
      have h3 := HC1.out.size
      omega
    have HDJ := Lib.hid hdj
    have HCC := Lib.hid hcc
    clear hcc hdj c0 c1 c2 c3 c4 hwz
    go_wp2_with fail
    refine (head_ok (HD.out.no' HCC.out) ⟨r, _, HL.out⟩ HDJ.out HF.out 1 0).mono ?_
    rw [HX.out]
    rintro e' w4 ⟨rfl, h4⟩
    have H4 := Lib.hid h4
    clear h4
    by_cases hc : c = 0
    · subst hc
      go_wp2_with fail
      go_ret2
      unfold OpenPost
      rw [H.out]
      rw [if_neg (by simp)]
      rw [HX.out]
      rw [if_neg (by simp)]
      have hsz := H4.out.2.size
      refine ⟨g, grow F wc w4, fun k => k = g ∨ k = r, rfl, H4.out.1, ⟨r, _, HL.out.chg H4.out.2 (fun k hk hf => HDJ.out k hf hk)⟩, ?_, ?_, ?_, HCC.out.of_no.trans_same H4.out.2⟩
      · rintro k (h | h)
        · exact HDJ.out k h
        · intro hk
          have := HL.out.lt k hk
          omega
      · exact fun k hk => hk.imp id (fun e => ⟨by have := HCC.out.size; omega, e.2⟩)
      · intro k hk
        have h2 := HGR.out
        have h3 := HC1.out.size
        omega
    · have q0 : (c != 0) = true := by simpa using hc
      have HC0 := Lib.hid hc
      clear hc
      go_wp2_with fail
      go_ret2
      unfold OpenPost
      rw [H.out]
      rw [if_neg (by simp)]
      rw [HX.out]
      rw [if_pos (by simpa using HC0.out)]
      exact ⟨rfl, St.pre HCC.out H4.out HFL.out⟩

theorem Open_ok {s : Sh} (hs : s.Ok) (hd : DiskAt w b D F) (hf : D.FitN 16) (node : Int) (epoch : Nat) :
    Calls Tryz.prog 12 #[.pointer (some ⟨b, 0, none⟩), s.val, .int .i64 node, .int .u64 epoch] w (OpenPost s D F b node epoch w) := by
  obtain ⟨x, hx⟩ : ∃ x, s.logAt node = x := ⟨_, rfl⟩
  obtain ⟨at_, e⟩ := x
  by_cases he : e = 0
  · subst he
    exact Open_yes hs hd hf node epoch at_ hx
  · refine (Open_no hs node epoch e at_ hx he).mono ?_
    rintro e' w' ⟨rfl, hc⟩
    unfold OpenPost
    rw [hx, if_pos he]
    exact ⟨rfl, hc⟩
end
end Go.Proofs.YtmmnjecaedmleaaGreatDoor

/- wlog: Fits: contract. -/
namespace Go.Proofs.YtmmnjecaedmleaaGreatDoor
open Go.RowKit
attribute [local go_sem ↓] Go.wp_at_zero Go.wp_at_succ

/-- The log's counts have room for N records more. -/
structure Lg.FitN (L : Lg) (N : Nat) : Prop where
  ok : L.s.Ok
  next : L.next + N ≤ 1000000000000
  at_ : L.at_ ≤ 256
  len : L.live.length + N ≤ 100000
  ns : ∀ x ∈ L.live, x.n ≤ 1000

section
variable {w : World} {g b : Nat} {L : Lg} {G : Nat → Prop}

set_option maxHeartbeats 1600000 in
set_option maxRecDepth 100000 in
theorem Fits_ok (h : LogAt w g b L G) (hf : L.FitN 0) (hb : L.broken = false) (m n : Nat) (hm : IsMost L.s.log m) (h1 : 1 ≤ n) (h2 : n ≤ m) :
    Calls Tryz.prog 73 #[.pointer (some ⟨g, 0, none⟩), .int .i64 n] w fun e' w' => e' = .returned (.bool (decide (secs n + L.used ≤ L.s.log - 1))) ∧ Chg No w w' := by
  have H := Lib.hid h
  have HF := Lib.hid hf
  have HM := Lib.hid hm
  obtain ⟨r, lv, hR⟩ := h
  obtain ⟨_, _, _, c3, _⟩ := hR.cell
  have t0 : decide ((n : Int) < 1) = false := by simp only [decide_eq_false_iff_not]; omega
  have t1 : decide ((m : Int) < (n : Int)) = false := by simp only [decide_eq_false_iff_not]; omega
  have hl1 := hf.ok.l1
  have hl2 := hf.ok.l2
  have hm60 := hm.le
  have hused : L.used ≤ 100000000 := by
    have h3 := sum_le L.live 1000 L.live.length hf.ns
    rw [List.take_length] at h3
    have h4 := hf.len
    unfold Lg.used
    omega
  obtain ⟨u, hu⟩ : ∃ u, L.used = u := ⟨_, rfl⟩
  obtain ⟨sn, hsn⟩ : ∃ sn, secs n = sn := ⟨_, rfl⟩
  obtain ⟨lg, hlg⟩ : ∃ lg, L.s.log - 1 = lg := ⟨_, rfl⟩
  rw [hu, hsn, hlg]
  rw [hu] at hused
  have hw : IntKind.i64.wrap ((lg : Int) - (u : Int)) = (lg : Int) - (u : Int) := IntWalk.i64_in _ (by omega)
  have hdec : decide ((sn : Int) ≤ (lg : Int) - (u : Int)) = decide (sn + u ≤ lg) := by
    by_cases h : sn + u ≤ lg
    · rw [decide_eq_true h, decide_eq_true (by omega)]
    · rw [decide_eq_false h, decide_eq_false (by omega)]
  have HDEC := Lib.hid hdec
  have HU := Lib.hid hu
  have HSN := Lib.hid hsn
  have HLG := Lib.hid hlg
  have HB := Lib.hid hb
  clear hf hm hR hb hu hsn hdec hlg hused
  go_enter Tryz.func73, Tryz.ntmps73
  go_wp2_with fail
  refine (mayL_ok H.out).mono ?_
  rw [HB.out]
  rintro e' w1 ⟨rfl, rfl⟩
  go_wp2_with fail
  refine (Most_ok _ L.s.log m (by omega) (by omega) HM.out).mono ?_
  rintro e' w1 ⟨rfl, rfl⟩
  go_wp2_with fail
  refine (Sectors_rec _ n).mono ?_
  rw [HSN.out]
  rintro e' w1 ⟨rfl, rfl⟩
  go_wp2_with fail
  refine (sizeL_ok H.out HF.out.ok).mono ?_
  rw [HLG.out]
  rintro e' w1 ⟨rfl, rfl⟩
  go_wp2_with fail
  refine (Used_ok H.out HF.out.len HF.out.ns).mono ?_
  rw [HU.out]
  rintro e' w2 ⟨rfl, hc2⟩
  have HC2 := Lib.hid hc2
  clear hc2
  go_wp2_with fail
  go_ret
  exact ⟨by rw [← HDEC.out]; rfl, HC2.out⟩
end
end Go.Proofs.YtmmnjecaedmleaaGreatDoor
