import Derived.Test.YtmmnjecaedmleaaGreatDoorM37
import Derived.Deep.CutBlock
import Derived.Deep.DeepCutAuto
import Derived.Deep.QuietTactic
import Derived.BigQuiet

/- law13.RedoWhole: contract. -/
namespace Go.Proofs.YtmmnjecaedmleaaGreatDoor
open Go.RowKit
attribute [local go_sem ↓] Go.wp_at_zero Go.wp_at_succ

section
variable {w : World}
set_option maxHeartbeats 3200000 in
set_option maxRecDepth 100000 in
theorem Whole_big (a0 a1 a2 : Option Addr) (c0 c1 c2 : Nat) (l : List LOp) (nk na : Nat) (hl : OpsA w a0 l) (hbig : 200 < nk ∨ 100 < na) :
    Calls Tryz.prog 9 #[.slice a0 l.length c0, .slice a1 nk c1, .slice a2 na c2] w fun e w' => e = .returned (.bool true) ∧ Chg No w w' := by
  have HL := Lib.hid hl
  clear hl
  by_cases h1 : 200 < nk
  all_goals (try (have h2 : 100 < na := by omega))
  all_goals
    clear hbig
    go_enter Tryz.func9, Tryz.ntmps9
    go_wp2_with fail
    refine (Light12_ok a0 c0 l HL.out).mono ?_
    rintro e w1 ⟨b, rfl, _, hc1⟩
    have HC1 := Lib.hid hc1
    clear hc1
    cases b
  all_goals
    go_wp2_with fail
    refine alive_ok.mono ?_
    rintro e w2 ⟨rfl, hc2⟩
    have HC2 := Lib.hid (HC1.out.trans_same hc2)
    clear hc2
    go_wp2_with fail
    go_ret
    exact ⟨rfl, HC2.out⟩
set_option maxHeartbeats 12800000 in
set_option maxRecDepth 100000 in
theorem Whole_small (a0 a1 a2 : Option Addr) (c0 c1 c2 : Nat) (l : List LOp) (keep again : List Int) (hl : OpsA w a0 l) (h200 : ¬ 200 < keep.length) (h100 : ¬ 100 < again.length) (hk : ReadsInts w (.slice a1 keep.length c1) keep) (hkb : ∀ k, (Value.slice a1 keep.length c1).ownBlock = some k → k < w.heap.size) (hk2 : ReadsInts w (.slice a2 again.length c2) again) (hkb2 : ∀ k, (Value.slice a2 again.length c2).ownBlock = some k → k < w.heap.size) :
    Calls Tryz.prog 9 #[.slice a0 l.length c0, .slice a1 keep.length c1, .slice a2 again.length c2] w fun e w' => e = .returned (.bool true) ∧ Chg No w w' := by
  have HL := Lib.hid hl
  have HKP := Lib.hid hk
  have HKB := Lib.hid hkb
  have HKP2 := Lib.hid hk2
  have HKB2 := Lib.hid hkb2
  obtain ⟨D1, hd1, e1, e2, e3, e4, e5⟩ := open_ready_rest
  have HD1 := Lib.hid hd1
  have HEV := Lib.hid (EvU.start e1 e2 e3 e4 e5)
  have HFT := Lib.hid e1.fit
  clear hl hk hkb hk2 hkb2 hd1 e1 e2 e3 e4 e5
  obtain ⟨K, hK⟩ : ∃ K : Nat → Prop, K = fun k => k < w.heap.size := ⟨_, rfl⟩
  have HK := Lib.hid hK
  clear hK
  go_enter Tryz.func9, Tryz.ntmps9
  go_wp2_with fail
  refine (Light12_ok a0 c0 l HL.out).mono ?_
  rintro e w0 ⟨b, rfl, hb, hc0⟩
  have HC0 := Lib.hid hc0
  clear hc0
  cases b
  · clear hb
    go_wp2_with fail
    refine alive_ok.mono ?_
    rintro e w2 ⟨rfl, hc2⟩
    have HC2 := Lib.hid (HC0.out.trans_same hc2)
    clear hc2
    go_wp2_with fail
    go_ret
    exact ⟨rfl, HC2.out⟩
  obtain ⟨h60, hsm⟩ := hb rfl
  have HSM := Lib.hid hsm
  clear hb hsm
  go_wp2_with fail
  refine (sysReady (K := K) (fun k h => by rw [HK.out] at h; exact Nat.lt_of_lt_of_le h HC0.out.size)).mono ?_
  rintro e w1 ⟨bd, br, rfl, hy1, hc1⟩
  rw [show sh0.val = .agg #[.int .i64 2, .int .i64 10, .int .i64 8, .int .i64 4, .int .i64 32] from rfl]
  go_wp2_with fail
  generalize hW : w1.alloc (.cells #[.int .i64 2, .int .i64 10, .int .i64 8, .int .i64 4, .int .i64 32] 29) = w2
  have hB : w2.heap[w1.heap.size]? = some (.cells #[.int .i64 2, .int .i64 10, .int .i64 8, .int .i64 4, .int .i64 32] 29 (0, 0)) := by rw [← hW]; exact blk_new _ _
  have hc2 : Chg No w1 w2 := by rw [← hW]; exact (Chg.refl _ _).alloc _
  obtain ⟨s, hs⟩ : ∃ s, s = w1.heap.size := ⟨_, rfl⟩
  have hy2 : Sy0 (Kadd K s) w2 bd Dk.ready := hy1.add hc2 (by rw [hs]; exact Nat.le_refl _) (by rw [hs]; exact blk_lt hB)
  rw [← hs] at hB ⊢
  have HKs := Lib.hid (show Kadd K s s from .inr rfl)
  have HB2 := Lib.hid hB
  have HC2 := Lib.hid (HC0.out.trans_same (hc1.trans_same hc2))
  have HY2 := Lib.hid hy2
  clear hW hs hB hc1 hc2 hy1 hy2
  refine (sysOpen HY2.out (N := 100) (ready_up.1.fit.le (by omega)) HD1.out).mono ?_
  rintro e w3 ⟨g, rfl, hy3, hc3⟩
  have HKO := Lib.hid (show ∀ k, Kp (Kadd K s) k → w.heap.size ≤ k from fun k hk => by
    have h : ¬ K k := fun h => hk (.inl h)
    rw [HK.out] at h
    exact Nat.le_of_not_lt h)
  have HC3 := Lib.hid (HC2.out.trans hc3 (fun k hk => .inr (HKO.out k hk)))
  have HB3 := Lib.hid (kept hc3 HKs.out HB2.out)
  have HY3 := Lib.hid hy3
  have HKP3 := Lib.hid (show Keeps w s (.slice none 0 0) (Kadd K s) from ⟨fun k hk => .inl (by rw [HK.out]; exact hk), .inr rfl, fun k hk => by simp [Value.ownBlock] at hk⟩)
  clear hy3 hc3
  go_upto_block 0 with fail
  go_cut [13, 14, 15, 16, 17] from 66 to 135 (fun av _ _ _ _ wx => ∃ (A : List Img) (h S W : Nat) (D : Dk) (L : Lg) (K' : Nat → Prop) (vs : List Value), A.length ≤ 60 ∧ Hid (EvU A h S W D L) ∧ Hid (Fines A) ∧ Hid (∀ x ∈ A, x.block ≤ 9) ∧ Hid (wx.ownsRow w3.heap.size 54 1 av A.length vs) ∧ Hid (Singles w vs A) ∧ Hid (Keeps w s av K') ∧ Hid (Sy K' wx bd g D L) ∧ Hid (wx.heap[s]? = some (.cells #[.int .i64 2, .int .i64 10, .int .i64 8, .int .i64 4, .int .i64 32] 29 (0, 0))) ∧ Hid (Chg No w wx) ∧ Hid (D.FitN 100000))
  case first =>
    go_wp2_with fail
    go_loopw [13, 14] (fun av iv wx => ∃ (i : Nat) (A : List Img) (h S W : Nat) (D : Dk) (L : Lg) (K' : Nat → Prop) (vs : List Value), i ≤ l.length ∧ iv = .int .i64 i ∧ A.length ≤ i ∧ Hid (EvU A h S W D L) ∧ Hid (Fines A) ∧ Hid (∀ x ∈ A, x.block ≤ 9) ∧ Hid (wx.ownsRow w3.heap.size 54 1 av A.length vs) ∧ Hid (Singles w vs A) ∧ Hid (Keeps w s av K') ∧ Hid (Sy K' wx bd g D L) ∧ Hid (wx.heap[s]? = some (.cells #[.int .i64 2, .int .i64 10, .int .i64 8, .int .i64 4, .int .i64 32] 29 (0, 0))) ∧ Hid (Chg No w wx) ∧ Hid (w3.heap.size ≤ wx.heap.size) ∧ Hid (D.FitN (100000 * (62 - i)))) (fun _ iv _ => l.length - (intOf iv).toNat)
    case atStart => exact ⟨0, [], 1, 0, 0, D1, _, Kadd K s, [], Nat.zero_le _, rfl, Nat.le_refl _, HEV, Lib.hid (fun x hx => absurd hx (by simp)), Lib.hid (fun x hx => absurd hx (by simp)), Lib.hid (World.ownsRow_nil _ _ _ _), Lib.hid (Singles.nil w), HKP3, HY3, HB3, HC3, Lib.hid (Nat.le_refl _), Lib.hid (HFT.out.le (by omega))⟩
    case round =>
      obtain ⟨i, A, h, S, W, D, L, K', vs, hi, rfl, hA, HE, HF, H9, HO, HS, HKK, HY, HB, HC, HZ, HFN⟩ := hrel
      rename World => wr
      by_cases hlt : i < l.length
      · obtain ⟨bb, off, rfl, hcs⟩ := HL.out.cells i hlt
        obtain ⟨o, ho⟩ : ∃ o, l[i] = o := ⟨_, rfl⟩
        have hom : o ∈ l := by rw [← ho]; exact List.getElem_mem hlt
        rw [ho] at hcs
        obtain ⟨g0, _, g2, g3, _⟩ := op_cells hcs
        have HG2 := Lib.hid g2
        have HG3 := Lib.hid g3
        have HBO := Lib.hid (HKK.out.old bb (World.block_lt_of_cell? w _ g0))
        have hbz := World.block_lt_of_cell? wr _ (HC.out.cell g0 id)
        have c0 := HC.out.cell g0 id
        have HIM := Lib.hid (HL.out.imgs o hom)
        have HVR := Lib.hid (HL.out.vers o hom)
        have HVV := Lib.hid (HL.out.vv o hom)
        have HL70 := Lib.hid (HSM.out o hom).1
        have HLV := Lib.hid (HE.out.ev.live HE.out.lo.on (by omega))
        clear hcs ho hom g0 g2 g3
        obtain ⟨kd, hkd⟩ : ∃ kd, o.kind = kd := ⟨_, rfl⟩
        rw [hkd] at c0
        clear hkd
        go_upto_block 1 with fail
        go_cut [13, 15, 16, 17] from 72 to 135 (fun av _ _ _ wx => ∃ (A' : List Img) (h' S' W' : Nat) (D' : Dk) (L' : Lg) (K2 : Nat → Prop) (vs' : List Value), A'.length ≤ i + 1 ∧ Hid (EvU A' h' S' W' D' L') ∧ Hid (Fines A') ∧ Hid (∀ x ∈ A', x.block ≤ 9) ∧ Hid (wx.ownsRow w3.heap.size 54 1 av A'.length vs') ∧ Hid (Singles w vs' A') ∧ Hid (Keeps w s av K2) ∧ Hid (Sy K2 wx bd g D' L') ∧ Hid (wx.heap[s]? = some (.cells #[.int .i64 2, .int .i64 10, .int .i64 8, .int .i64 4, .int .i64 32] 29 (0, 0))) ∧ Hid (Chg No w wx) ∧ Hid (w3.heap.size ≤ wx.heap.size) ∧ Hid (D'.FitN (100000 * (62 - (i + 1)))))
        case first =>
          by_cases k1 : kd = 1
          · subst k1
            have c3 := HC.out.cell HG3.out id
            have hl70 := HL70.out
            go_wp2_with fail
            clear c0
            go_loopw [15] (fun kv wx => ∃ k : Nat, k ≤ o.l.length ∧ kv = .int .i64 k ∧ wx = wr ∧ Hid (∀ j (hj : j < o.l.length), j < k → o.l[j].block ≤ 9)) (fun kv _ => o.l.length - (intOf kv).toNat)
            case atStart => exact ⟨0, Nat.zero_le _, rfl, rfl, Lib.hid (fun j hj h => absurd h (by omega))⟩
            case round =>
              obtain ⟨k, hk, rfl, rfl, HLO⟩ := hrel
              by_cases hklt : k < o.l.length
              · obtain ⟨b2, off2, hla, hb0, _, _⟩ := (ImgsA.of_slice HIM.out) k hklt
                rw [hla] at c3
                have d0 := HC.out.cell hb0 id
                obtain ⟨xb, hxb⟩ : ∃ xb, o.l[k].block = xb := ⟨_, rfl⟩
                rw [hxb] at d0
                have HXB := Lib.hid hxb
                clear hb0 hxb hla
                by_cases h9b : 9 < xb
                · go_wp2_with fail
                  go_ret
                  exact ⟨rfl, HC.out⟩
                · go_wp2_with fail
                  refine ⟨⟨k + 1, hklt, by go_num, trivial, Lib.hid (fun j hj hjk => ?_)⟩, by simp [intOf]; omega⟩
                  by_cases e : j = k
                  · subst e
                    rw [HXB.out]
                    omega
                  · exact HLO.out j hj (by omega)
              · obtain rfl : k = o.l.length := by omega
                have H9o := Lib.hid (show ∀ x ∈ o.l, x.block ≤ 9 from fun x hx => by
                  obtain ⟨j, hj, rfl⟩ := List.mem_iff_getElem.1 hx
                  exact HLO.out j hj hj)
                clear HLO
                go_wp2_with fail
                rcases HE.out.add o.l HVR.out HF.out with ⟨rn, rc, hcc, hadd⟩ | ⟨x, rn, L2, hlx, hF2, hadd, hev2⟩
                · have HADD := Lib.hid hadd
                  have hcc' : (rc == 0) = false := by simpa using hcc
                  clear hadd hcc
                  refine (sysAdd HY.out HLV.out.2.2.1 HLV.out.2.2.2.1 _ o.l ((HIM.out.no HC.out)) (by omega)).mono ?_
                  rw [HADD.out]
                  rintro e w6 ⟨rfl, hy, hc⟩
                  have HC6 := Lib.hid (HC.out.trans hc (fun k hk => .inr (HKK.out.out k hk)))
                  have HB6 := Lib.hid (kept hc HKK.out.sh HB.out)
                  have HY6 := Lib.hid hy
                  have HO6 := Lib.hid (hc.row HO.out (fun k hk hn => hn (HKK.out.own k hk)))
                  have HZ6 := Lib.hid (Nat.le_trans HZ.out hc.size)
                  clear hy hc c3
                  go_wp2_with fail
                  go_meet
                  exact ⟨A, h, S, W, D, L, K', vs, by omega, HE, HF, H9, HO6, HS, HKK, HY6, HB6, HC6, HZ6, Lib.hid (HFN.out.le (by omega))⟩
                · have HADD := Lib.hid hadd
                  have HLX := Lib.hid hlx
                  have HF2 := Lib.hid hF2
                  have HEV2 := Lib.hid hev2
                  have H92 := Lib.hid (show ∀ y ∈ A ++ [x], y.block ≤ 9 from fun y hy => by
                    rcases List.mem_append.1 hy with hy | hy
                    · exact H9.out y hy
                    · rw [List.mem_singleton.1 hy]
                      exact H9o.out x (by rw [hlx]; simp))
                  clear hadd hF2 hev2
                  refine (sysAdd HY.out HLV.out.2.2.1 HLV.out.2.2.2.1 _ o.l ((HIM.out.no HC.out)) (by omega)).mono ?_
                  rw [HADD.out]
                  rintro e w6 ⟨rfl, hy, hc⟩
                  have HC6 := Lib.hid (HC.out.trans hc (fun k hk => .inr (HKK.out.out k hk)))
                  have HB6 := Lib.hid (kept hc HKK.out.sh HB.out)
                  have HY6 := Lib.hid hy
                  have HO6 := Lib.hid (hc.row HO.out (fun k hk hn => hn (HKK.out.own k hk)))
                  have HZ6 := Lib.hid (Nat.le_trans HZ.out hc.size)
                  have c3 := hc.cell c3 (fun h => h HBO.out)
                  have hll : o.l.length = 1 := by rw [hlx]; rfl
                  rw [hll] at c3
                  have HSX := Lib.hid (show ImgsA w o.la [x] from hlx ▸ ImgsA.of_slice HIM.out)
                  clear hy hc hlx
                  go_wp2_with (at_builtin; refine Halt1.hold ?_)
                  refine Halt1.go ?_
                  have hz36 := HZ6.out
                  refine wpL_app el_imgsl (.tmp 111) (.tmp 117) rfl rfl w3.heap.size u13 _ _ rfl (HO6.out.alloc _) w6.heap.size 1 1 [.slice o.la 1 o.lc] _ _ rfl (blk_new _ _) rfl (by simp [Value.oneCell']) (by omega) (by omega) (by omega) (by simp; omega) ?_
                  intro g1 cap1 w8 hown8 hgrow8 hat8 hlt8
                  have hX : Chg (fun k => u13.ownBlock = some k) w6 w8 := ((Chg.refl _ w6).alloc _).grown hgrow8 (fun k hk => .inl hk)
                  have HO8 := Lib.hid (show w8.ownsRow w3.heap.size 54 1 (.slice (some ⟨g1, 0, none⟩) (A ++ [x]).length cap1) (A ++ [x]).length (vs ++ [.slice o.la 1 o.lc]) by
                    rw [List.length_append, List.length_singleton]
                    exact hown8)
                  have HSL := Lib.hid (blk_lt HB3.out)
                  have HY8 := Lib.hid (HY6.out.ownAdd hX (fun k hk => HKK.out.own k hk) (x := g1) (hat8.imp (fun e => HKK.out.own g1 e) (fun e => by rw [e]; simp)) hlt8)
                  have HC8 := Lib.hid (HC6.out.trans hX (fun k hk => .inr (Nat.le_trans HC3.out.size (HO6.out.lt k hk).1)))
                  have HB8 := Lib.hid (hX.obj HB6.out (fun e => by have := (HO6.out.lt s e).1; have := HSL.out; omega))
                  have HK8 := Lib.hid (show Keeps w s (.slice (some ⟨g1, 0, none⟩) (A ++ [x]).length cap1) (Kadd K' g1) from ⟨fun k hk => .inl (HKK.out.old k hk), .inl HKK.out.sh, fun k hk => .inr (by simp [Value.ownBlock] at hk; exact hk.symm)⟩)
                  have HZ8 := Lib.hid (Nat.le_trans HZ6.out hX.size)
                  have HS8 := Lib.hid (HS.out.snoc (lc := o.lc) HSX.out)
                  have HLN := Lib.hid (show (A ++ [x]).length ≤ i + 1 by rw [List.length_append, List.length_singleton]; omega)
                  have hlen1 : A.length + 1 = (A ++ [x]).length := by rw [List.length_append, List.length_singleton]
                  rw [hlen1]
                  generalize A ++ [x] = A2 at HO8 HK8 HS8 HLN HF2 HEV2 H92 ⊢
                  clear hown8 hgrow8 hat8 hlt8 hX hlen1 c3
                  go_wp2_with fail
                  go_meet
                  exact ⟨A2, h, S, W, D, L2, Kadd K' g1, _, HLN.out, HEV2, HF2, H92, HO8, HS8, HK8, HY8, HB8, HC8, HZ8, Lib.hid (HFN.out.le (by omega))⟩
          · have q1 : (kd == 1) = false := by simpa using k1
            by_cases k2 : kd = 2
            · subst k2
              go_wp2_with fail
              obtain ⟨hl2, hgd, _, _, _⟩ := HLV.out
              have HEW := Lib.hid HE.out.write
              have HFW := Lib.hid (write_room (N := 100000 * (62 - (i + 1))) hgd hl2 (HFN.out.le (by omega)))
              refine (sysWrite HY.out hgd (n := 2) hl2 HFN.out (by omega)).mono ?_
              rintro e w6 ⟨rfl, hy, hc⟩
              have HC6 := Lib.hid (HC.out.trans hc (fun k hk => .inr (HKK.out.out k hk)))
              have HB6 := Lib.hid (kept hc HKK.out.sh HB.out)
              have HY6 := Lib.hid hy
              have HO6 := Lib.hid (hc.row HO.out (fun k hk hn => hn (HKK.out.own k hk)))
              have HZ6 := Lib.hid (Nat.le_trans HZ.out hc.size)
              clear hy hc hgd hl2
              generalize logWrite D L = r at HEW HFW HY6 ⊢
              obtain ⟨r0, r1, D6, L6⟩ := r
              go_wp2_with fail
              go_meet
              exact ⟨A, h, S, A.length, D6, L6, K', vs, by omega, HEW, HF, H9, HO6, HS, HKK, HY6, HB6, HC6, HZ6, HFW⟩
            · have q2 : (kd == 2) = false := by simpa using k2
              by_cases k3 : kd = 3
              · subst k3
                go_wp2_with fail
                obtain ⟨hl2, hgd, _, _, _⟩ := HLV.out
                have HEW := Lib.hid HE.out.sync
                have HFW := Lib.hid (sync_room (N := 100000 * (62 - (i + 1))) hgd hl2 (HFN.out.le (by omega)))
                refine (sysSync HY.out hgd (n := 2) hl2 HFN.out (by omega)).mono ?_
                rintro e w6 ⟨rfl, hy, hc⟩
                have HC6 := Lib.hid (HC.out.trans hc (fun k hk => .inr (HKK.out.out k hk)))
                have HB6 := Lib.hid (kept hc HKK.out.sh HB.out)
                have HY6 := Lib.hid hy
                have HO6 := Lib.hid (hc.row HO.out (fun k hk hn => hn (HKK.out.own k hk)))
                have HZ6 := Lib.hid (Nat.le_trans HZ.out hc.size)
                clear hy hc hgd hl2
                generalize logSync D L = r at HEW HFW HY6 ⊢
                obtain ⟨r0, D6, L6⟩ := r
                go_wp2_with fail
                go_meet
                exact ⟨A, h, A.length, A.length, D6, L6, K', vs, by omega, HEW, HF, H9, HO6, HS, HKK, HY6, HB6, HC6, HZ6, HFW⟩
              · have q3 : (kd == 3) = false := by simpa using k3
                by_cases k4 : kd = 4
                · subst k4
                  have c2 := HC.out.cell HG2.out id
                  go_wp2_with fail
                  obtain ⟨hl2, hgd, _, _, hs1⟩ := HLV.out
                  obtain ⟨V, hV⟩ : ∃ V, o.v = V := ⟨_, rfl⟩
                  rw [hV] at c2 ⊢
                  obtain ⟨h6, S6, hes⟩ := HE.out.freed V
                  have HEW := Lib.hid hes
                  have HFW := Lib.hid (free_room (N := 100000 * (62 - (i + 1))) V (L := L) (HFN.out.le (by omega)))
                  refine (sysFree HY.out (by omega) HFN.out (by omega) (by omega) V).mono ?_
                  rintro e w6 ⟨rfl, hy, hc⟩
                  have HC6 := Lib.hid (HC.out.trans hc (fun k hk => .inr (HKK.out.out k hk)))
                  have HB6 := Lib.hid (kept hc HKK.out.sh HB.out)
                  have HY6 := Lib.hid hy
                  have HO6 := Lib.hid (hc.row HO.out (fun k hk hn => hn (HKK.out.own k hk)))
                  have HZ6 := Lib.hid (Nat.le_trans HZ.out hc.size)
                  clear hy hc hgd hl2 hes hV c2
                  generalize logFree D L V = r at HEW HFW HY6 ⊢
                  obtain ⟨r0, D6, L6⟩ := r
                  go_wp2_with fail
                  go_meet
                  exact ⟨A, h6, S6, W, D6, L6, K', vs, by omega, HEW, HF, H9, HO6, HS, HKK, HY6, HB6, HC6, HZ6, HFW⟩
                · have q4 : (kd == 4) = false := by simpa using k4
                  clear k1 k2 k3 k4
                  go_wp2_with fail
                  go_meet
                  exact ⟨A, h, S, W, D, L, K', vs, by omega, HE, HF, H9, HO, HS, HKK, HY, HB, HC, HZ, Lib.hid (HFN.out.le (by omega))⟩
        case rest =>
          obtain ⟨A6, h6, S6, W6, D6, L6, K6, vs6, hA6, HE6, HF6, H96, HO6, HS6, HKK6, HY6, HB6, HC6, HZ6, HFN6⟩ := hcut
          clear c0 hbz
          go_wp2_with fail
          exact ⟨⟨i + 1, A6, h6, S6, W6, D6, L6, K6, vs6, hlt, by go_num, hA6, HE6, HF6, H96, HO6, HS6, HKK6, HY6, HB6, HC6, HZ6, HFN6⟩, by simp [intOf]; omega⟩
      · obtain rfl : i = l.length := by omega
        go_wp2_with fail
        go_meet
        exact ⟨A, h, S, W, D, L, K', vs, by omega, HE, HF, H9, HO, HS, HKK, HY, HB, HC, Lib.hid (HFN.out.le (by omega))⟩
  case rest =>
    obtain ⟨A, h, S, W, D, L, K', vs, hA, HE, HF, H9, HO, HS, HKK, HY, HB, HC, HFN⟩ := hcut
    rename World => w5
    obtain ⟨_, hz2, hf1, hs1, hw1, c, D6, n7, D7, n9, D10, is, hr⟩ := HE.out.whole HFN.out HF.out H9.out (by omega) keep again
    have HR := Lib.hid hr
    have HZ2 := Lib.hid hz2
    have HF1 := Lib.hid hf1
    have HS1 := Lib.hid hs1
    have HW1 := Lib.hid hw1
    clear hr hz2 hf1 hs1 hw1
    go_wp2_with fail
    refine (sysFirst HY.out).mono ?_
    rw [HF1.out]
    rintro e w6 ⟨rfl, rfl⟩
    go_wp2_with fail
    refine (sysSynced HY.out).mono ?_
    rw [HS1.out]
    rintro e w6 ⟨rfl, rfl⟩
    go_wp2_with fail
    refine (sysWritten HY.out).mono ?_
    rw [HW1.out]
    rintro e w6 ⟨rfl, rfl⟩
    go_wp2_with fail
    have HKEEP := Lib.hid (show ReadsInts w5 (.slice a1 keep.length c1) keep by
      rcases HKP.out with hh | ⟨g', off', c', hv, hcs⟩
      · exact .inl hh
      · exact .inr ⟨g', off', c', hv, fun j hj => HC.out.cell (hcs j hj) id⟩)
    refine (sysCut HY.out HFN.out (.slice a1 keep.length c1) keep HKEEP.out (fun k hk => HKK.out.old k (HKB.out k hk)) (by omega)).mono ?_
    rintro e w7 ⟨rfl, hy, hc⟩
    have HC7 := Lib.hid (HC.out.trans hc (fun k hk => .inr (HKK.out.out k hk)))
    have HB7 := Lib.hid (kept hc HKK.out.sh HB.out)
    have HY7 := Lib.hid hy
    have HO7 := Lib.hid (hc.row HO.out (fun k hk hn => hn (HKK.out.own k hk)))
    have HFN7 := Lib.hid (cut_fitN (keep := keep) HFN.out)
    clear hy hc
    generalize D.cut keep = D4 at HY7 HR HFN7 HZ2
    go_wp2_with fail
    refine (sysRestore HY7.out (by rw [HZ2.out]; decide)).mono ?_
    rintro e w8 ⟨rfl, hy, hc⟩
    have HC8 := Lib.hid (HC7.out.trans hc (fun k hk => .inr (HKK.out.out k hk)))
    have HB8 := Lib.hid (kept hc HKK.out.sh HB7.out)
    have HY8 := Lib.hid hy
    have HO8 := Lib.hid (hc.row HO7.out (fun k hk hn => hn (HKK.out.own k hk)))
    have HFN8 := Lib.hid (restore_fitN HFN7.out)
    clear hy hc
    generalize ({ D4 with on := true } : Dk) = D5 at HY8 HFN8 HR
    obtain ⟨q0, q1, q2, q3, q4⟩ := cells5 HB8.out
    go_wp2_with fail
    refine (sysScan HY8.out HR.out.szd5 HFN8.out 1).mono ?_
    rw [HR.out.scan]
    rintro e w9 ⟨sv, ps, rfl, hr, hps, hc⟩
    have HRA := Lib.hid (recAt_of hr hps)
    have HRS := Lib.hid hr
    have HPS := Lib.hid hps
    have hcl : (recsR A h c).length = c := by unfold recsR; simp
    obtain ⟨sa, sc, rfl⟩ : ∃ a c', sv = .slice a c c' := by
      rcases HRA.out with ⟨hv, hn⟩ | ⟨g', off', c', hv, _⟩
      · have h0 : c = 0 := by rw [← hcl]; exact congrArg List.length hn
        exact ⟨none, 0, by rw [hv, h0]⟩
      · exact ⟨_, _, by rw [hv, hcl]⟩
    have HC9 := Lib.hid (HC8.out.trans_same hc)
    have HO9 := Lib.hid (hc.row HO8.out (fun _ _ => id))
    have HB9 := Lib.hid (hc.obj HB8.out id)
    have HY9 := Lib.hid (HY8.out.addAll hc)
    have HW98 := Lib.hid hc.size
    clear hr hps hc q0 q1 q2 q3 q4
    obtain ⟨va, vc, hva⟩ : ∃ a c, u13 = .slice a A.length c := by
      rcases HO.out.2 with ⟨hv, hn⟩ | ⟨g', cap, cur, hv, _⟩
      · exact ⟨none, 0, by rw [hv, hn]⟩
      · exact ⟨_, _, hv⟩
    subst hva
    have hcW := HR.out.cW
    have hWA := HR.out.WA
    have hh1 := HR.out.h1
    have hc2 := HR.out.c2
    go_wp2_with fail
    go_loopw [23] (fun iv wx => ∃ k : Nat, k ≤ c ∧ iv = .int .i64 k ∧ Hid (Chg No w9 wx)) (fun iv _ => c - (intOf iv).toNat)
    case atStart => exact ⟨0, Nat.zero_le _, rfl, Lib.hid (Chg.refl _ _)⟩
    case round =>
      obtain ⟨k, hk, rfl, HCk⟩ := hrel
      rename World => wr
      by_cases hlt : k < c
      · obtain ⟨m, hm⟩ : ∃ m, h + k = m := ⟨_, rfl⟩
        obtain ⟨gr, off, iv, rfl, d1, d2, him⟩ : ∃ gr off iv, sa = some ⟨gr, off, none⟩ ∧ wr.cell? ⟨gr, off + k * 3 + 1, none⟩ = some (.int .u64 (h + k : Nat)) ∧ wr.cell? ⟨gr, off + k * 3 + 2, none⟩ = some iv ∧ ImgsAt wr iv [A.getD (h + k - 1) noImg] := by
          rcases HRA.out with ⟨_, hn⟩ | ⟨gr, off, c', hv, hjj⟩
          · have : c = 0 := by rw [← hcl, hn]; rfl
            omega
          · simp only [Value.slice.injEq] at hv
            obtain ⟨iv, _, e1, e2, e3⟩ := hjj k (by rw [hcl]; exact hlt)
            have hget : (recsR A h c)[k]'(by rw [hcl]; exact hlt) = ⟨9, h + k, [A.getD (h + k - 1) noImg]⟩ := by unfold recsR; simp
            rw [hget] at e1 e3
            exact ⟨gr, off, iv, hv.1, HCk.out.cell e1 id, HCk.out.cell e2 id, e3.no HCk.out⟩
        have hmA : m - 1 < A.length := by omega
        obtain ⟨la, lc, hvs, hsi⟩ := HS.out.2 (m - 1) hmA
        obtain ⟨x, hx⟩ : ∃ x, A[m - 1] = x := ⟨_, rfl⟩
        have hgd : A.getD (h + k - 1) noImg = x := by rw [hm, List.getD_eq_getElem?_getD, List.getElem?_eq_getElem hmA, hx]; rfl
        rw [hgd] at him
        rw [hx] at hsi
        rw [hm] at d1
        obtain ⟨ia, ic, rfl, hia⟩ := ImgsA.of_at him
        obtain ⟨gv, hgv⟩ : ∃ gv, va = some ⟨gv, 0, none⟩ := by
          rcases HO9.out.2 with ⟨hv, hn⟩ | ⟨g', cap, cur, hv, _⟩
          · omega
          · simp only [Value.slice.injEq] at hv
            exact ⟨g', hv.1⟩
        subst hgv
        have dv : wr.cell? ⟨gv, m - 1, none⟩ = some (.slice la 1 lc) := HCk.out.cell (row_cell HO9.out rfl hvs) id
        have HSAME := Lib.hid (show ∀ q : Nat, Calls Tryz.prog 28 #[.slice ia 1 ic, .slice la 1 lc] (wr.drewN q) (fun e w' => e = .returned (.bool true) ∧ ∃ m, w' = (wr.drewN q).drewN m) from fun q => Same_ok ia la ic lc [x] (hia.no ((Chg.refl No wr).drewN q)) ((hsi.no (HC9.out.trans_same HCk.out)).no ((Chg.refl No wr).drewN q)) (by simp))
        have d2 : wr.cell? ⟨gr, off + k * 3 + 2, none⟩ = some (.slice ia 1 ic) := d2
        have i0 : (0 : Int) ≤ ((m - 1 : Nat) : Int) := by omega
        have i1 : ((m - 1 : Nat) : Int) < (A.length : Int) := by omega
        have t1 : decide (W < m) = false := by simp only [decide_eq_false_iff_not]; omega
        have s1 : IntKind.u64.wrap ((m : Int) - 1) = ((m - 1 : Nat) : Int) := by rw [show (m : Int) - 1 = ((m - 1 : Nat) : Int) by omega]; exact IntWalk.u64_in _ (by omega)
        have s3 : IntKind.u64.wrap (k : Int) = (k : Int) := IntWalk.u64_in _ (by omega)
        have s4 : IntKind.u64.wrap ((h : Int) + (k : Int)) = (m : Int) := by rw [show (h : Int) + (k : Int) = (m : Int) by omega]; exact IntWalk.u64_in _ (by omega)
        have lr := World.block_lt_of_cell? wr _ d1
        have lv := World.block_lt_of_cell? wr _ dv
        have hmm : 1 ≤ m := by omega
        clear him hia hsi hgd hx hvs
        go_upto_region 39 with (fail)
        go_cut [190] from 159 to 189 (fun x wx => x = .bool false ∧ Hid (Chg No wr wx))
        case first =>
          go_quiet ((go_at_call 28; exact Calls.quiet_of (HSAME.out _)))
          have HCq := Lib.hid ((Chg.refl No wr).drewN nq)
          go_wp2_with fail
          go_meet
          exact ⟨rfl, HCq⟩
        case rest =>
          obtain ⟨rfl, HCx⟩ := hcut
          clear d1 d2 dv s1 s3 s4 t1
          go_wp2_with fail
          exact ⟨⟨k + 1, hlt, by go_num, Lib.hid (HCk.out.trans_same HCx.out)⟩, by simp [intOf]; omega⟩
      · obtain rfl : k = c := by omega
        have hcS := HR.out.cS
        obtain ⟨p, hp⟩ : ∃ p, h + k = p := ⟨_, rfl⟩
        obtain ⟨q, hq⟩ : ∃ q, S + 1 = q := ⟨_, rfl⟩
        have s3 : IntKind.u64.wrap (k : Int) = (k : Int) := IntWalk.u64_in _ (by omega)
        have s4 : IntKind.u64.wrap ((h : Int) + (k : Int)) = (p : Int) := by rw [show (h : Int) + (k : Int) = (p : Int) by omega]; exact IntWalk.u64_in _ (by omega)
        have s5 : IntKind.u64.wrap ((S : Int) + 1) = (q : Int) := by rw [show (S : Int) + 1 = (q : Int) by omega]; exact IntWalk.u64_in _ (by omega)
        have t1 : decide (p < q) = false := by simp only [decide_eq_false_iff_not]; omega
        go_wp2_with fail
        obtain ⟨K2, hK2⟩ : ∃ K2 : Nat → Prop, K2 = fun k => K' k ∨ (w8.heap.size ≤ k ∧ k < w9.heap.size) := ⟨_, rfl⟩
        have HYr := Lib.hid (show Sy K2 wr bd g D5 L from hK2 ▸ HY9.out.no HCk.out)
        have HKK2 := Lib.hid (HKK.out.more (K2 := K2) (fun k hk => by rw [hK2]; exact .inl hk))
        have HKR := Lib.hid (show ∀ j, w8.heap.size ≤ j → j < w9.heap.size → K2 j from fun j a b => by rw [hK2]; exact .inr ⟨a, b⟩)
        clear hK2 s3 s4 s5 t1 hp hq
        refine (sysTwin HYr.out HFN8.out).mono ?_
        rintro e w10 ⟨b', rfl, hy, hc⟩
        have HX10 := Lib.hid ((show Chg (Kp K2) w9 wr from HCk.out.of_no).trans_same hc)
        have HY10 := Lib.hid hy
        clear hy hc
        go_wp2_with fail
        refine (twAdmit HY10.out HFN8.out 2 50).mono ?_
        rw [HR.out.admit]
        rintro e w11 ⟨rfl, hy, hc⟩
        have HX11 := Lib.hid (HX10.out.trans_same hc)
        have HY11 := Lib.hid hy
        clear hy hc
        have HREC := Lib.hid (show ∀ X, Chg (Kp K2) w9 X → RecAt X (.slice sa k sc) (recsR A h k) from fun X hX => recAt_of (HRS.out.chg hX (fun j a b hj => hj (HKR.out j a b))) HPS.out)
        have HPL := Lib.hid (show ∀ X, Chg (Kp K2) w9 X → Calls Tryz.prog 24 #[.slice sa k sc] X (fun e w' => ∃ pa pc, e = .returned (.slice pa is.length pc) ∧ w'.ownsRow X.heap.size 38 3 (.slice pa is.length pc) is.length (is.flatMap Img.cells) ∧ Chg No X w') from fun X hX => by
          have hdl := HR.out.dlen
          refine (planOk _ _ _ (HREC.out X hX) rfl (by rw [hcl]; omega) (by omega) (fun x hx => (HR.out.img x hx).1)).mono ?_
          rw [HR.out.plan]
          rintro e w' ⟨pv, rfl, ho, hc⟩
          rcases ho.2 with ⟨hv, hn⟩ | ⟨g', cap, cur, hv, _⟩
          · refine ⟨none, 0, by rw [hv, hn], ?_, hc⟩
            rw [hn, ← hv]
            rw [hn] at ho
            exact ho
          · exact ⟨_, _, by rw [hv], by rw [← hv]; exact ho, hc⟩)
        have HB11 := Lib.hid (kept HX11.out HKK2.out.sh HB9.out)
        obtain ⟨q0, q1, q2, q3, q4⟩ := cells5 HB11.out
        have ls := World.block_lt_of_cell? w11 _ q0
        have hil := HR.out.len
        go_upto_region 46 with (fail)
        go_region_held3 (fun w' => w'.cell? ⟨s, 0, none⟩ = some (.int .i64 2) ∧ w'.cell? ⟨s, 1, none⟩ = some (.int .i64 10) ∧ w'.cell? ⟨s, 2, none⟩ = some (.int .i64 8) ∧ w'.cell? ⟨s, 3, none⟩ = some (.int .i64 4) ∧ w'.cell? ⟨s, 4, none⟩ = some (.int .i64 32)) (go_keep)
          (first
           | (go_at_call 24; (refine Calls.mono (HPL.out _ (HX11.out.trans_same (Chg.refl _ w11).drew)) ?_); rintro e w12 ⟨pa, pc, rfl, ho, hc⟩; have HP12 := Lib.hid ho; have HP12Z := hc.size; have HX12 := Lib.hid ((HX11.out.trans_same (Chg.refl _ w11).drew).trans_same hc.of_no); have HY12 := Lib.hid ((HY11.out.no (Chg.refl No w11).drew).addRow hc (fun k hk => ho.lt k hk)); have hk2 : ∀ o, w12.cell? ⟨s, o, none⟩ = w11.cell? ⟨s, o, none⟩ := (fun o => World.cell?_of_block (((Chg.refl No w11).drew.trans_same hc).block s ls id)); clear ho hc)
           | (go_at_call 31; (refine (twApply HY12.out HR.out.szd6 2 50 _ is (ImgsAt.of_own HP12.out) (fun k hk => .inr hk) (by omega) (HR.out.fit6.le (by omega))).mono ?_); rw [HR.out.apply]; rintro e w13 ⟨rfl, hy, hc⟩; have HX13 := Lib.hid (HX12.out.trans_same (hc.mono (fun k hk h => hk (.inl h)))); have HY13 := Lib.hid hy; have hk3 : ∀ o, w13.cell? ⟨s, o, none⟩ = w12.cell? ⟨s, o, none⟩ := (fun o => World.cell?_of_block (hc.block s (Nat.lt_of_lt_of_le (Nat.lt_of_lt_of_le ls (Chg.refl No w11).drew.size) HP12Z) (fun h => h (.inl HKK2.out.sh)))); clear hy hc))
        have HYc := Lib.hid (HY13.out.less (K' := K2) (fun k hk => .inl hk))
        clear q0 q1 q2 q3 q4 hk2 hk3 HY13 HY12
        go_wp2_with fail
        have HKEEP2 := Lib.hid (show ReadsInts w13 (.slice a2 again.length c2) again by
          rcases HKP2.out with hh | ⟨g', off', c', hv, hcs⟩
          · exact .inl hh
          · exact .inr ⟨g', off', c', hv, fun j hj => (HC9.out.trans (HX13.out) (fun k hk => .inr (HKK2.out.out k hk))).cell (hcs j hj) id⟩)
        refine (twCut HYc.out HR.out.up7.fit (.slice a2 again.length c2) again HKEEP2.out (fun k hk => HKK2.out.old k (HKB2.out k hk)) (by omega)).mono ?_
        rintro e w14 ⟨rfl, hy, hc⟩
        have HX14 := Lib.hid (HX13.out.trans_same hc)
        have HY14 := Lib.hid hy
        clear hy hc
        go_wp2_with fail
        refine (twRestore HY14.out (by rw [cut_sectors, HR.out.up7.size]; decide)).mono ?_
        rintro e w15 ⟨rfl, hy, hc⟩
        have HX15 := Lib.hid (HX14.out.trans_same hc)
        have HY15 := Lib.hid hy
        clear hy hc
        have HB15 := Lib.hid (kept HX15.out HKK2.out.sh HB9.out)
        obtain ⟨q0, q1, q2, q3, q4⟩ := cells5 HB15.out
        go_wp2_with fail
        refine (twRun HY15.out HR.out.up9.szd HR.out.up9.fit (by omega) 1 9 2 50).mono ?_
        rw [HR.out.run]
        rintro e w16 ⟨rfl, hy, hc⟩
        have HX16 := Lib.hid (HX15.out.trans_same hc)
        have HY16 := Lib.hid hy
        clear hy hc q0 q1 q2 q3 q4
        go_wp2_with fail
        refine Calls.mono (HPL.out _ HX16.out) ?_
        rintro e w17 ⟨ra, rc, rfl, ho, hc⟩
        have HX17 := Lib.hid (HX16.out.trans_same hc.of_no)
        have HY17 := Lib.hid (HY16.out.no hc)
        have HO17 := Lib.hid ho
        have HB17 := Lib.hid (kept HX17.out HKK2.out.sh HB9.out)
        clear ho hc
        go_wp2_with fail
        go_loopw [29] (fun iv wx => ∃ k : Nat, k ≤ is.length ∧ iv = .int .i64 k ∧ Hid (Chg No w17 wx)) (fun iv _ => is.length - (intOf iv).toNat)
        case atStart => exact ⟨0, Nat.zero_le _, rfl, Lib.hid (Chg.refl _ _)⟩
        case round =>
          obtain ⟨j, hj, rfl, HCj⟩ := hrel
          rename World => wr
          by_cases hlt : j < is.length
          · obtain ⟨g2, o2, hg2, hcs⟩ : ∃ g2 off, ra = some ⟨g2, off, none⟩ ∧ ∀ j (h : j < is.length), wr.cell? ⟨g2, off + j * 3, none⟩ = some (.int .i64 is[j].block) ∧ wr.cell? ⟨g2, off + j * 3 + 1, none⟩ = some (.int .u64 is[j].version) ∧ wr.cell? ⟨g2, off + j * 3 + 2, none⟩ = some (Go.Proofs.YtmmnjecaedmleaaGreatDoor.S is[j].data) := by
              rcases imgsAt_of_row (HCj.out.row HO17.out (fun _ _ => id)) with ⟨_, _, _, hn⟩ | ⟨g', off', c', hv, hj⟩
              · rw [hn] at hlt; simp at hlt
              · simp only [Value.slice.injEq] at hv
                exact ⟨g', off', hv.1, hj⟩
            subst hg2
            obtain ⟨d0, d1, d2⟩ := hcs j hlt
            obtain ⟨x, hx⟩ : ∃ x, is[j] = x := ⟨_, rfl⟩
            have hxm : x ∈ is := by rw [← hx]; exact List.getElem_mem hlt
            obtain ⟨hx9, img, hld, himg⟩ := HR.out.last x hxm
            have HLD := Lib.hid hld
            rw [hx] at d0 d1 d2
            obtain ⟨xb, xv, xd⟩ := x
            obtain ⟨ib, iv, id_⟩ := img
            simp only at d0 d1 d2 hx9 himg
            simp only at HLD
            have HD0 := Lib.hid d0
            have HD1y := Lib.hid d1
            have HD2y := Lib.hid d2
            have HIMG := Lib.hid himg
            have HBr := Lib.hid (HCj.out.obj HB17.out id)
            obtain ⟨q0, q1, q2, q3, q4⟩ := cells5 HBr.out
            have lg := World.block_lt_of_cell? wr _ d0
            have ls := World.block_lt_of_cell? wr _ q0
            have HLC := Lib.hid (show ∀ W, Chg No wr W → Calls Tryz.prog 21 #[.pointer (some ⟨b', 0, none⟩), .agg #[.int .i64 2, .int .i64 10, .int .i64 8, .int .i64 4, .int .i64 32], .int .i64 xb] W (fun e w' => e = .returned (.tuple #[.agg #[.int .i64 ib, .int .u64 iv, Go.Proofs.YtmmnjecaedmleaaGreatDoor.S id_], .int .i64 0]) ∧ Chg No W w') from fun W hW => by
              have h := twLoad ((HY17.out.no HCj.out).no hW) HR.out.up10.szd HR.out.up10.fit xb
              rw [HLD.out] at h
              exact h)
            have n1 : s ≠ wr.heap.size := Nat.ne_of_lt ls
            have n2 : g2 ≠ wr.heap.size := Nat.ne_of_lt lg
            have n3 : wr.heap.size ≠ s := n1.symm
            have n4 : wr.heap.size ≠ g2 := n2.symm
            clear hcs hx hxm d1 d2 himg hld
            go_upto_region 58 with (fail)
            go_cut [30, 31] from 234 to 250 (fun x y wx => ∃ B, x = .pointer (some ⟨B, 0, none⟩) ∧ y = .int .i64 0 ∧ Hid (wx.heap[B]? = some (.cells #[.int .i64 ib, .int .u64 iv, Go.Proofs.YtmmnjecaedmleaaGreatDoor.S id_] 38 (0, 0))) ∧ Hid (Chg No wr wx))
            case first =>
              go_region_held3 (fun w' => w'.cell? ⟨s, 0, none⟩ = some (.int .i64 2) ∧ w'.cell? ⟨s, 1, none⟩ = some (.int .i64 10) ∧ w'.cell? ⟨s, 2, none⟩ = some (.int .i64 8) ∧ w'.cell? ⟨s, 3, none⟩ = some (.int .i64 4) ∧ w'.cell? ⟨s, 4, none⟩ = some (.int .i64 32) ∧ w'.cell? ⟨g2, o2 + j * 3, none⟩ = some (.int .i64 xb)) (go_keep)
                (first | (go_at_call 21; (refine Calls.mono (HLC.out _ (by first | exact (Chg.refl No wr).drew | exact ((Chg.refl No wr).alloc _).drew)) ?_); rintro e w26 ⟨rfl, hc26⟩; have hk2 : ∀ o, w26.cell? ⟨s, o, none⟩ = wr.cell? ⟨s, o, none⟩ := fun o => World.cell?_of_block ((show Chg No wr w26 from (by first | exact ((Chg.refl No wr).drew.trans_same hc26) | exact (((Chg.refl No wr).alloc _).drew.trans_same hc26))).block s ls id); have hk3 : ∀ o, w26.cell? ⟨g2, o, none⟩ = wr.cell? ⟨g2, o, none⟩ := fun o => World.cell?_of_block ((show Chg No wr w26 from (by first | exact ((Chg.refl No wr).drew.trans_same hc26) | exact (((Chg.refl No wr).alloc _).drew.trans_same hc26))).block g2 lg id); have hq3 : ∀ j o, j < _ → w26.cell? ⟨j, o, none⟩ = _ := fun j o hj => World.cell?_of_block (hc26.block j hj id); have hr3 : ∀ j o, j < _ → w26.frozen? ⟨j, o, none⟩ = _ := fun j o hj => World.frozen?_of_block (hc26.block j hj id)))
              all_goals
                have HC26 := Lib.hid hc26
                clear hk2 hk3 hq3 hr3 hc26
                go_wp2_with fail
                go_meet
              all_goals first
                | exact ⟨w26.heap.size, rfl, rfl, Lib.hid (blk_new _ _), Lib.hid (((Chg.refl No wr).drew.trans_same HC26.out).alloc _)⟩
                | exact ⟨wr.heap.size, rfl, rfl, Lib.hid (set3_blk (HC26.out.obj (blk_new wr _) id) _ _ _), Lib.hid ((((Chg.refl No wr).alloc _).drew.trans_same HC26.out).set3 (.inr (Nat.le_refl _)) _ _ _)⟩
            case rest =>
              obtain ⟨B, rfl, rfl, HBB, HCB⟩ := hcut
              clear d0 q0 q1 q2 q3 q4 n1 n2 n3 n4 lg ls
              rename World => W5
              have d0 := HCB.out.cell HD0.out id
              have d1 := HCB.out.cell HD1y.out id
              have d2 := HCB.out.cell HD2y.out id
              obtain ⟨b0, b1, b2, _, _, _⟩ := cells3 HBB.out
              go_upto_region 59 with (fail)
              go_cut [268] from 251 to 267 (fun x wx => x = .bool false ∧ Hid (Chg No wr wx))
              case first =>
                by_cases hv0 : 0 < xv
                · have e := HIMG.out hv0
                  simp only [Img.mk.injEq] at e
                  obtain ⟨rfl, rfl, rfl⟩ := e
                  go_region
                  go_wp2_with fail
                  go_meet
                  exact ⟨rfl, Lib.hid HCB.out.drew⟩
                · obtain rfl : xv = 0 := by omega
                  by_cases e1 : ib = xb
                  · by_cases e2 : iv = 0
                    · by_cases e3 : id_ = xd
                      · subst e1 e2 e3
                        go_region
                        go_wp2_with fail
                        go_meet
                        exact ⟨rfl, Lib.hid HCB.out.drew⟩
                      · subst e1 e2
                        go_region
                        go_wp2_with fail
                        go_meet
                        exact ⟨rfl, Lib.hid HCB.out.drew⟩
                    · subst e1
                      go_region
                      go_wp2_with fail
                      go_meet
                      exact ⟨rfl, Lib.hid HCB.out.drew⟩
                  · go_region
                    go_wp2_with fail
                    go_meet
                    exact ⟨rfl, Lib.hid HCB.out.drew⟩
              case rest =>
                obtain ⟨rfl, HC6⟩ := hcut
                clear d0 d1 d2 b0 b1 b2
                go_wp2_with fail
                exact ⟨⟨j + 1, hlt, by go_num, Lib.hid (HCj.out.trans_same HC6.out)⟩, by simp [intOf]; omega⟩
          · obtain rfl : j = is.length := by omega
            go_wp2_with fail
            refine alive_ok.mono ?_
            rintro e w30 ⟨rfl, hc⟩
            have HC30 := Lib.hid ((HC9.out.trans HX17.out (fun k hk => .inr (HKK2.out.out k hk))).trans_same (HCj.out.trans_same hc))
            clear hc
            go_wp2_with fail
            go_ret
            exact ⟨rfl, HC30.out⟩
end
end Go.Proofs.YtmmnjecaedmleaaGreatDoor
