import Derived.Test.YtmmnjecaedmleaaGreatDoorM9

/- super: lay, Format, Load: contracts. -/
namespace Go.Proofs.YtmmnjecaedmleaaGreatDoor
open Go.RowKit
attribute [local go_sem ↓] Go.wp_at_zero Go.wp_at_succ

/-- From w to w' only the disk's blocks were touched; the disk is D now. -/
def St (F : Nat → Prop) (w w' : World) (b : Nat) (D : Dk) : Prop := DiskAt w' b D (grow F w w') ∧ Chg F w w'
section
variable {w w1 w2 : World} {b : Nat} {D D2 : Dk} {F : Nat → Prop}
theorem St.refl (h : DiskAt w b D F) : St F w w b D := ⟨h.no (Chg.refl _ _), Chg.refl _ _⟩
theorem St.no (h : St F w w1 b D) (hc : Chg No w1 w2) : St F w w2 b D :=
  ⟨(h.1.chg hc (fun _ _ => id)).wide (fun k hk => hk.imp id (fun e => ⟨e.1, by have := hc.size; omega⟩)) (fun k hk => by
    rcases hk with e | e
    · have := h.1.lt k (.inl e); have := hc.size; omega
    · exact e.2), h.2.trans_no hc⟩
theorem St.next (h : St F w w1 b D) (h2 : DiskAt w2 b D2 (grow (grow F w w1) w1 w2)) (hc : Chg (grow F w w1) w1 w2) : St F w w2 b D2 :=
  ⟨h2.wide (grow_grow h.2.size hc.size) (fun k hk => by
    rcases hk with e | e
    · have := h.1.lt k (.inl e); have := hc.size; omega
    · exact e.2), h.2.trans_grow hc⟩
end

theorem St.pre {w w1 w2 : World} {b : Nat} {D : Dk} {F : Nat → Prop} (hc : Chg No w w1) (h : St F w1 w2 b D) (hF : ∀ k, F k → k < w.heap.size) : St F w w2 b D :=
  ⟨h.1.wide (fun k hk => hk.imp id (fun e => ⟨by have := hc.size; omega, e.2⟩)) (grow_lt hF (Nat.le_trans hc.size h.2.size)), hc.of_no.trans_same h.2⟩

def Dk.layS (D : Dk) (s : Sh) : Dk := (((D.wrZ s.size).settle 0).wrN 0 0 s.bytes 1).settle 0

theorem settleW_len (node : Int) (ws : List Wr) : (settleW node ws).length ≤ ws.length := List.length_filter_le _ _
theorem settle_fit {D : Dk} (hf : D.Fit) (node : Int) : (D.settle node).Fit :=
  ⟨hf.s0, hf.s1, Nat.le_trans (settleW_len _ _) hf.waits, hf.stays, hf.seq, hf.left⟩

section
variable {w : World} {b : Nat} {D : Dk} {F : Nat → Prop}

theorem wrN_fit {D : Dk} {node at_ : Int} {data : Bytes} {n : Nat} (hf : D.Fit) (h1 : D.seq + n ≤ 1000000000000) (h2 : D.waits.length + n ≤ 100000000) : (D.wrN node at_ data n).Fit := by
  obtain ⟨a0, _, _, _, _, _, _, a1, a2⟩ := wrN_same D node at_ data n
  exact ⟨by rw [a0]; exact hf.s0, by rw [a0]; exact hf.s1, by rw [wrN_waits]; exact h2, by rw [a2]; exact hf.stays, by rw [wrN_seq]; exact h1, by rw [a1]; exact hf.left⟩

theorem there_of {D : Dk} {a n z : Int} (hz : D.sectors = z) (h0 : 0 ≤ a) (h1 : a + n ≤ z) (hn : 0 ≤ n := by omega) : D.there a n = true := by
  unfold Dk.there
  rw [hz]
  simp only [decide_eq_true_eq]
  omega
theorem size_le {s : Sh} (hs : s.Ok) : s.size ≤ 20000 ∧ 1 ≤ s.size := by
  have hm := mul_nl hs.n2 hs.l2
  have hb := hs.b2
  unfold Sh.size
  omega

set_option maxHeartbeats 800000 in
set_option maxRecDepth 100000 in
theorem lay_ok (h : DiskAt w b D F) (hf : D.Fit) (epoch : Nat) {s : Sh} (hs : s.Ok) (hm : D.may 0 = 0) (ha : D.admits 0 epoch = 0) (hr : D.armed = false) (hz : D.sectors = s.size) (hq : D.seq ≤ 1000) (hw : D.waits.length ≤ 1000) :
    Calls Tryz.prog 187 #[.pointer (some ⟨b, 0, none⟩), .int .u64 epoch, s.val] w fun e w' => e = .returned (.int .i64 0) ∧ DiskAt w' b (D.layS s) (grow F w w') ∧ Chg F w w' := by
  have hsz := size_le hs
  have hval : s.val = .agg #[.int .i64 s.nodes, .int .i64 s.blocks, .int .i64 s.log, .int .i64 s.cache, .int .i64 s.lease] := rfl
  have H := Lib.hid (St.refl h)
  have HF := Lib.hid hf
  have HM := Lib.hid hm
  have HA := Lib.hid ha
  have HR := Lib.hid hr
  have HZ := Lib.hid hz
  have HS := Lib.hid hs
  rw [hval]
  clear h hf hm ha hr hz hs hval
  go_enter Tryz.func187, Tryz.ntmps187
  go_wp2_with fail
  refine (ShPut_ok _ HS.out).mono ?_
  rintro e w1 ⟨rfl, hc1⟩
  have hk1 := hc1.obj (blk_new w _) id
  obtain ⟨c0, c1, c2, c3, c4⟩ := cells5 hk1
  have H1 := Lib.hid ((H.out.no ((Chg.refl No w).alloc _)).no hc1)
  have HK := Lib.hid hk1
  clear hc1 hk1
  go_wp2_with fail
  refine (Size_ok _ HS.out).mono ?_
  rintro e w2 ⟨rfl, hc2⟩
  have H2 := Lib.hid (H1.out.no hc2)
  clear hc2 c0 c1 c2 c3 c4
  go_wp2_with fail
  refine (zeros_ok H2.out.1 HF.out epoch s.size HM.out HA.out HR.out (by rw [HZ.out]; omega) hq hw).mono ?_
  rintro e w3 ⟨rfl, hd3, hc3⟩
  have H3 := Lib.hid (H2.out.next hd3 hc3)
  clear hd3 hc3
  go_wp2_with fail
  obtain ⟨a0, a1, _, a3, _, _, a6, _, _⟩ := wrZ_same D s.size
  obtain ⟨b0, b1⟩ := wrZ_seq D s.size
  have hfz : (D.wrZ s.size).Fit := wrZ_fit HF.out (by omega) (by omega)
  have hbl : s.bytes.length = 64 := stamp_length _ (by rw [Sh.body_length]; omega)
  have hwr := Dk.write_free (D := (D.wrZ s.size).settle 0) (node := 0) (epoch := epoch) (at_ := 0) (data := s.bytes) (n := 1) (may_of HM.out a1) (admits_of HA.out a3) (by show (D.wrZ s.size).armed = false; rw [a6]; exact HR.out) hbl (by omega) (by omega) (there_of (by show (D.wrZ s.size).sectors = s.size; rw [a0, HZ.out]) (by omega) (by omega))
  refine (Write_ok H3.out.1 (settle_fit hfz 0) 0 epoch 0 s.bytes (by omega)).mono ?_
  rw [hwr]
  rintro e w4 ⟨rfl, hd4, hc4⟩
  have H4 := Lib.hid (H3.out.next hd4 hc4)
  have hl1 : ((D.wrZ s.size).settle 0).waits.length ≤ (D.wrZ s.size).waits.length := settleW_len _ _
  have hfw : (((D.wrZ s.size).settle 0).wrN 0 0 s.bytes 1).Fit := wrN_fit (settle_fit hfz 0) (by show (D.wrZ s.size).seq + 1 ≤ _; omega) (by omega)
  have HFW := Lib.hid hfw
  have HM4 := Lib.hid (may_of (D' := ((D.wrZ s.size).settle 0).wrN 0 0 s.bytes 1) HM.out a1)
  have HA4 := Lib.hid (admits_of (D' := ((D.wrZ s.size).settle 0).wrN 0 0 s.bytes 1) HA.out a3)
  have HR4 := Lib.hid (show (((D.wrZ s.size).settle 0).wrN 0 0 s.bytes 1).armed = false from a6.trans HR.out)
  clear hwr hd4 hc4 hfz hfw a0 a1 a3 a6 b0 b1 hbl hl1
  go_wp2_with fail
  refine (Barrier_ok H4.out.1 HFW.out 0 epoch).mono ?_
  rw [Dk.barrier_free HM4.out HA4.out HR4.out]
  rintro e w5 ⟨rfl, hd5, hc5⟩
  have H5 := Lib.hid (H4.out.next hd5 hc5)
  clear hd5 hc5
  go_wp2_with fail
  go_ret
  exact ⟨rfl, H5.out⟩

theorem Sectors_cell {n : Int} (c0 : w.cell? ⟨b, 0, none⟩ = some (.int .i64 n)) :
    Calls Tryz.prog 40 #[.pointer (some ⟨b, 0, none⟩)] w fun e w' => e = .returned (.int .i64 n) ∧ w = w' := by
  go_enter Tryz.func40, Tryz.ntmps40
  go_wp2
  go_ret
  exact ⟨rfl, rfl⟩

theorem new_fit {n : Nat} (h1 : 1 ≤ n) (h2 : n ≤ 20000) : (Dk.new n).Fit :=
  ⟨by show (0 : Int) < (n : Int); omega, by show (n : Int) ≤ 20000; omega, by simp [Dk.new], by simp [Dk.new], by simp [Dk.new], by simp [Dk.new]⟩
theorem setN_zero (k : Nat) : setN (fun _ => 0) k 0 = fun _ => 0 := by funext i; simp [setN]
theorem new_fence (n : Int) (k : Nat) (hk : k ≤ 16) : (Dk.new n).fence k = (0, Dk.new n) := by
  have hm : (Dk.new n).may k = 0 := by simp [Dk.may, Dk.new]; omega
  rw [Dk.fence_free hm rfl]
  simp [Dk.new, Dk.settle, settleL, settleW, setN_zero]
theorem new_put (n : Int) (k : Nat) (hk : k ≤ 16) : (Dk.new n).put k 0 = (0, Dk.new n) := by
  have hm : (Dk.new n).may k = 0 := by simp [Dk.may, Dk.new]; omega
  rw [Dk.put_free hm rfl]
  simp [Dk.new, setN_zero]

def Dk.fmt1 (n : Int) : Dk := { Dk.new n with table := setN (fun _ => 0) 0 1, last := 1 }
def Dk.fmt (s : Sh) : Dk := { ((Dk.fmt1 s.size).layS s).settle 0 with table := setN ((Dk.fmt1 s.size).layS s).table 0 0 }
theorem new_admit (n : Int) : (Dk.new n).admit 0 1 = (0, Dk.fmt1 n) := by
  have hm : (Dk.new n).may 0 = 0 := by simp [Dk.may, Dk.new]
  rw [Dk.admit_free hm (by simp [Dk.new]) rfl]
  rfl
theorem layS_same (D : Dk) (s : Sh) : (D.layS s).sectors = D.sectors ∧ (D.layS s).on = D.on ∧ (D.layS s).armed = D.armed ∧ (D.layS s).stays = D.stays ∧ (D.layS s).left = D.left ∧ (D.layS s).seq = D.seq + s.size + 1 := by
  obtain ⟨a0, a1, _, a3, _, _, a6, a7, a8⟩ := wrZ_same D s.size
  exact ⟨a0, a1, a6, a8, a7, by show (D.wrZ s.size).seq + 1 = _; rw [(wrZ_seq D s.size).1]⟩
theorem layS_waits (D : Dk) (s : Sh) : (D.layS s).waits.length ≤ D.waits.length + s.size + 1 := by
  refine Nat.le_trans (settleW_len _ _) ?_
  rw [wrN_waits]
  have := settleW_len 0 (D.wrZ s.size).waits
  rw [(wrZ_seq D s.size).2] at this
  show (settleW 0 (D.wrZ s.size).waits).length + 1 ≤ _
  omega

theorem Size_lit (w : World) {s : Sh} (h : s.Ok) : Calls Tryz.prog 185 #[.agg #[.int .i64 s.nodes, .int .i64 s.blocks, .int .i64 s.log, .int .i64 s.cache, .int .i64 s.lease]] w fun e w' => e = .returned (.int .i64 s.size) ∧ Chg No w w' := Size_ok w h

set_option maxHeartbeats 1600000 in
set_option maxRecDepth 100000 in
theorem Format_ok {s : Sh} (hs : s.Ok) (h : DiskAt w b (Dk.new s.size) F) :
    Calls Tryz.prog 58 #[.pointer (some ⟨b, 0, none⟩), s.val] w fun e w' => e = .returned (.int .i64 0) ∧ St F w w' b (Dk.fmt s) := by
  have hsz := size_le hs
  have hval : s.val = .agg #[.int .i64 s.nodes, .int .i64 s.blocks, .int .i64 s.log, .int .i64 s.cache, .int .i64 s.lease] := rfl
  have H0 := Lib.hid h
  have HS := Lib.hid hs
  have hb : b < w.heap.size := by
    obtain ⟨bn, bl, wv, sv, hR⟩ := h
    exact hR.blk.lt
  have cb : w.cell? ⟨b, 0, none⟩ = some (.int .i64 s.size) := by
    obtain ⟨bn, bl, wv, sv, hR⟩ := h
    exact hR.blk.cell 0 (by omega)
  rw [hval]
  clear h hs hval
  go_enter Tryz.func58, Tryz.ntmps58
  go_wp2_with fail
  refine (Valid_ok _ HS.out).mono ?_
  rintro e w1 ⟨rfl, hc1⟩
  have hk1 := hc1.obj (blk_new w _) id
  obtain ⟨c0, c1, c2, c3, c4⟩ := cells5 hk1
  have cb1 : w1.cell? ⟨b, 0, none⟩ = some (.int .i64 s.size) := (((Chg.refl No w).alloc _).trans_same hc1).cell cb id
  have HC1 := Lib.hid (((Chg.refl No w).alloc _).trans_same hc1)
  have HK := Lib.hid hk1
  have hb1 := World.block_lt_of_cell? w1 _ cb1
  have hw1 := World.block_lt_of_cell? w1 _ c0
  clear hc1 hk1 cb
  go_wp2_with fail
  go_region_held3 (fun w' => w'.cell? ⟨b, 0, none⟩ = some (.int .i64 s.size) ∧ w'.cell? ⟨w.heap.size, 0, none⟩ = some (.int .i64 s.nodes) ∧ w'.cell? ⟨w.heap.size, 1, none⟩ = some (.int .i64 s.blocks) ∧ w'.cell? ⟨w.heap.size, 2, none⟩ = some (.int .i64 s.log) ∧ w'.cell? ⟨w.heap.size, 3, none⟩ = some (.int .i64 s.cache) ∧ w'.cell? ⟨w.heap.size, 4, none⟩ = some (.int .i64 s.lease)) (go_keep)
    (first
      | (go_at_call 40; refine (Sectors_cell (n := s.size) (by simp [*])).mono ?_; rintro e w2 ⟨rfl, rfl⟩)
      | (go_at_call 185; (with_reducible refine (Size_lit _ HS.out).mono ?_); rintro e w2 ⟨rfl, hc2⟩; have hk2 : ∀ o, w2.cell? ⟨b, o, none⟩ = w1.cell? ⟨b, o, none⟩ := fun o => World.cell?_of_block (hc2.block b hb1 id); have hk3 : ∀ o, w2.cell? ⟨w.heap.size, o, none⟩ = w1.cell? ⟨w.heap.size, o, none⟩ := fun o => World.cell?_of_block (hc2.block w.heap.size hw1 id)))
  have hC2 : Chg No w w2 := ((HC1.out).drew).trans_same hc2
  have hk2' := hc2.obj (show w1.drew.heap[w.heap.size]? = _ from HK.out) id
  have hdk2 := H0.out.no' hC2
  have HC2 := Lib.hid hC2
  have HK2 := Lib.hid hk2'
  have H2 := Lib.hid (St.refl hdk2)
  have HFL := Lib.hid H0.out.lt
  clear hk2 hk3 hc2 hC2 hk2' hdk2 c0 c1 c2 c3 c4 cb1
  go_wp2_with fail
  go_loopw [5] (fun i wr => ∃ k : Nat, k ≤ 17 ∧ i = .int .i64 k ∧ Hid (St F w2 wr b (Dk.new s.size))) (fun i _ => 17 - (intOf i).toNat)
  case atStart => exact ⟨0, by omega, rfl, H2⟩
  case round =>
    obtain ⟨k, hk, rfl, HD⟩ := hrel
    by_cases hlt : k < 17
    · go_wp2_with fail
      refine (Fence_ok HD.out.1 (new_fit hsz.2 hsz.1) k).mono ?_
      rw [new_fence _ _ (by omega)]
      rintro e w3 ⟨rfl, hd3, hc3⟩
      have H3 := Lib.hid (HD.out.next hd3 hc3)
      clear hd3 hc3
      go_wp2_with fail
      refine (PutW_ok H3.out.1 (new_fit hsz.2 hsz.1) k 0).mono ?_
      rw [new_put _ _ (by omega)]
      rintro e w4 ⟨rfl, hd4, hc4⟩
      have H4 := Lib.hid (H3.out.next hd4 hc4)
      clear hd4 hc4
      go_wp2_with fail
      exact ⟨⟨k + 1, by omega, by go_num, H4⟩, by simp [intOf]; omega⟩
    · obtain rfl : k = 17 := by omega
      go_wp2_with fail
      refine (Last_ok HD.out.1).mono ?_
      rintro e w3 ⟨rfl, rfl⟩
      rw [show (Dk.new s.size).last = 0 from rfl]
      go_wp2_with fail
      refine (Admit_ok HD.out.1 (new_fit hsz.2 hsz.1) 0 1).mono ?_
      rw [new_admit]
      rintro e w4 ⟨rfl, hd4, hc4⟩
      have h4 := HD.out.next hd4 hc4
      obtain ⟨c0, c1, c2, c3, c4⟩ := cells5 (h4.2.obj HK2.out (fun h => by have := HFL.out _ h; omega))
      have H4 := Lib.hid h4
      clear hd4 hc4 h4
      go_wp2_with fail
      have hff : (Dk.fmt1 s.size).Fit := ⟨by show (0 : Int) < (s.size : Int); omega, by show (s.size : Int) ≤ 20000; omega, by simp [Dk.fmt1, Dk.new], by simp [Dk.fmt1, Dk.new], by simp [Dk.fmt1, Dk.new], by simp [Dk.fmt1, Dk.new]⟩
      refine (lay_ok H4.out.1 hff 1 HS.out (by simp [Dk.may, Dk.fmt1, Dk.new]) (by simp [Dk.admits, Dk.fmt1, Dk.new, setN]) rfl rfl (by simp [Dk.fmt1, Dk.new]) (by simp [Dk.fmt1, Dk.new])).mono ?_
      rintro e w5 ⟨rfl, hd5, hc5⟩
      have H5 := Lib.hid (H4.out.next hd5 hc5)
      clear hd5 hc5 c0 c1 c2 c3 c4 hff
      go_wp2_with fail
      obtain ⟨l0, l1, l2, l3, l4, l5⟩ := layS_same (Dk.fmt1 s.size) s
      have l6 := layS_waits (Dk.fmt1 s.size) s
      have e0 : (Dk.fmt1 s.size).seq = 0 := rfl
      have e1 : (Dk.fmt1 s.size).waits.length = 0 := rfl
      have e2 : (Dk.fmt1 s.size).stays.length = 0 := rfl
      have e3 : (Dk.fmt1 s.size).left = 0 := rfl
      have e4 : (Dk.fmt1 s.size).sectors = s.size := rfl
      refine (Fence_ok H5.out.1 ⟨by rw [l0, e4]; omega, by rw [l0, e4]; omega, by omega, by rw [l3]; omega, by omega, by rw [l4]; omega⟩ 0).mono ?_
      rw [Dk.fence_free (by unfold Dk.may; rw [l1]; rfl) (by rw [l2]; rfl)]
      rintro e w6 ⟨rfl, hd6, hc6⟩
      have H6 := Lib.hid (H5.out.next hd6 hc6)
      clear hd6 hc6 l0 l1 l2 l3 l4 l5 l6 e0 e1 e2 e3 e4
      go_wp2_with fail
      go_ret
      exact ⟨rfl, St.pre HC2.out H6.out H0.out.lt⟩

set_option maxHeartbeats 1600000 in
set_option maxRecDepth 100000 in
theorem Load_ok {s : Sh} (hs : s.Ok) (h : DiskAt w b D F) (hf : D.Fit) (hsd : D.Sized) (ho : D.on = true) (hz : D.sectors = s.size) (hn : D.now 0 = some s.bytes) :
    Calls Tryz.prog 59 #[.pointer (some ⟨b, 0, none⟩)] w fun e w' => e = .returned (.tuple #[s.val, .int .i64 0]) ∧ Chg No w w' := by
  have hsz := size_le hs
  have hrd : D.read 0 1 = (s.bytes, 0) := by
    rw [Dk.read, if_neg (by simp [ho]), if_neg (by rw [there_of hz (by omega) (by omega)]; simp)]
    show (readB D 0 1, (0 : Int)) = _
    rw [readB, readB]
    show ([] ++ (D.now 0).getD _, (0 : Int)) = _
    rw [hn]; rfl
  have H := Lib.hid h
  have HF := Lib.hid hf
  have HD := Lib.hid hsd
  have HS := Lib.hid hs
  have HRD := Lib.hid hrd
  have cb : w.cell? ⟨b, 0, none⟩ = some (.int .i64 s.size) := by
    obtain ⟨bn, bl, wv, sv, hR⟩ := h
    rw [← hz]
    exact hR.blk.cell 0 (by omega)
  clear h hf hsd hs ho hz hn hrd
  go_enter Tryz.func59, Tryz.ntmps59
  go_wp2_with fail
  refine (Read_ok (H.out.no' ((Chg.refl No w).alloc _)) HF.out HD.out 0 1).mono ?_
  rw [HRD.out]
  rintro e w1 ⟨rfl, hc1⟩
  have hk1 := hc1.obj (blk_new w _) id
  have hc1' := ((Chg.refl No w).alloc _).trans_same hc1
  have HK := Lib.hid hk1
  have HC := Lib.hid hc1'
  clear hk1 hc1' hc1
  go_wp2_with fail
  refine (ShGet_ok w1 HS.out).mono ?_
  rintro e w2 ⟨rfl, hc2⟩
  have hk2 := hc2.obj HK.out id
  have hc2' := HC.out.trans_same hc2
  have cb2 : w2.cell? ⟨b, 0, none⟩ = some (.int .i64 s.size) := hc2'.cell cb id
  have HK2 := Lib.hid hk2
  have HC2 := Lib.hid hc2'
  have hb2 := World.block_lt_of_cell? w2 _ cb2
  have hval : s.val = .agg #[.int .i64 s.nodes, .int .i64 s.blocks, .int .i64 s.log, .int .i64 s.cache, .int .i64 s.lease] := rfl
  have hcl : s.val.cells = #[.int .i64 s.nodes, .int .i64 s.blocks, .int .i64 s.log, .int .i64 s.cache, .int .i64 s.lease] := rfl
  rw [hval]
  clear hk2 hc2' hc2 cb
  go_wp2_with fail
  have HVAL := Lib.hid hval
  clear hval hcl
  generalize hW : w2.alloc (.cells #[.int .i64 s.nodes, .int .i64 s.blocks, .int .i64 s.log, .int .i64 s.cache, .int .i64 s.lease] 27) = W
  have hkW : W.heap[w2.heap.size]? = some (.cells #[.int .i64 s.nodes, .int .i64 s.blocks, .int .i64 s.log, .int .i64 s.cache, .int .i64 s.lease] 27 (0, 0)) := by rw [← hW]; exact blk_new _ _
  have hcW : Chg No w2 W := by rw [← hW]; exact (Chg.refl _ _).alloc _
  have hk2W := hcW.obj HK2.out id
  have hCW := HC2.out.trans_same hcW
  have cbW := hcW.cell cb2 id
  obtain ⟨g0, g1, g2, g3, g4⟩ := cells5 hkW
  have hbW := World.block_lt_of_cell? W _ cbW
  have hwW := World.block_lt_of_cell? W _ g0
  have HKW := Lib.hid hkW
  have HK2W := Lib.hid hk2W
  have HCW := Lib.hid hCW
  clear hW hkW hcW hk2W hCW cb2
  go_region_held3 (fun w' => w'.cell? ⟨b, 0, none⟩ = some (.int .i64 s.size) ∧ w'.cell? ⟨w2.heap.size, 0, none⟩ = some (.int .i64 s.nodes) ∧ w'.cell? ⟨w2.heap.size, 1, none⟩ = some (.int .i64 s.blocks) ∧ w'.cell? ⟨w2.heap.size, 2, none⟩ = some (.int .i64 s.log) ∧ w'.cell? ⟨w2.heap.size, 3, none⟩ = some (.int .i64 s.cache) ∧ w'.cell? ⟨w2.heap.size, 4, none⟩ = some (.int .i64 s.lease)) (go_keep)
    (first
      | (go_at_call 40; refine (Sectors_cell (n := s.size) (by simp [*])).mono ?_; rintro e w3 ⟨rfl, rfl⟩)
      | (go_at_call 185; (with_reducible refine (Size_lit _ HS.out).mono ?_); rintro e w3 ⟨rfl, hc3⟩; have hk2 : ∀ o, w3.cell? ⟨b, o, none⟩ = W.cell? ⟨b, o, none⟩ := fun o => World.cell?_of_block (hc3.block b hbW id); have hk3 : ∀ o, w3.cell? ⟨w2.heap.size, o, none⟩ = W.cell? ⟨w2.heap.size, o, none⟩ := fun o => World.cell?_of_block (hc3.block w2.heap.size hwW id)))
  obtain ⟨d0, d1, d2, d3, d4⟩ := cells5 (hc3.obj (show W.drew.heap[w.heap.size]? = _ from HK2W.out) id)
  have hk6 := hc3.obj (show W.drew.heap[w.heap.size]? = _ from HK2W.out) id
  have f0 := free_of_blk hk6 0
  have f1 := free_of_blk hk6 1
  have f2 := free_of_blk hk6 2
  have f3 := free_of_blk hk6 3
  have f4 := free_of_blk hk6 4
  have hwz : w.heap.size < w2.heap.size := blk_lt HK2.out
  have hC3 := HCW.out.drew.trans_same hc3
  have HC3 := Lib.hid hC3
  clear hc3 hk6 hC3
  go_wp2_with fail
  refine bodyPost_ret (v := .tuple #[s.val, .int .i64 0]) ?_ rfl ⟨rfl, ?_⟩
  · simp [results, Tryz.results59, go_sem, d0, d1, d2, d3, d4, Nat.ne_of_lt hwz, Sh.val, Sh.cells]
  · exact ((((HC3.out.setCell (p := ⟨w.heap.size, 0, none⟩) (.inr (Nat.le_refl _)) _).setCell (p := ⟨w.heap.size, 1, none⟩) (.inr (Nat.le_refl _)) _).setCell (p := ⟨w.heap.size, 2, none⟩) (.inr (Nat.le_refl _)) _).setCell (p := ⟨w.heap.size, 3, none⟩) (.inr (Nat.le_refl _)) _).setCell (p := ⟨w.heap.size, 4, none⟩) (.inr (Nat.le_refl _)) _
end
end Go.Proofs.YtmmnjecaedmleaaGreatDoor
