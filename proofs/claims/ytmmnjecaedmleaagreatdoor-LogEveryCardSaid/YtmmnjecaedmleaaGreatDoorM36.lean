import Derived.Test.YtmmnjecaedmleaaGreatDoorM35
import Derived.Deep.CutBlock
import Derived.Deep.DeepCutAuto
import Derived.Deep.QuietTactic
import Derived.BigQuiet

/- law13.LogEvery: contract. -/
namespace Go.Proofs.YtmmnjecaedmleaaGreatDoor
open Go.RowKit
attribute [local go_sem ↓] Go.wp_at_zero Go.wp_at_succ

section
variable {w : World}
set_option maxHeartbeats 3200000 in
set_option maxRecDepth 100000 in
theorem LogEv_big (a0 a2 : Option Addr) (c0 c2 : Nat) (l : List LOp) (n : Int) (nk : Nat) (hl : OpsA w a0 l) (hbig : 100 < nk ∨ n < 0 ∨ 200 < n) :
    Calls Tryz.prog 7 #[.slice a0 l.length c0, .int .i64 n, .slice a2 nk c2] w fun e w' => e = .returned (.bool true) ∧ Chg No w w' := by
  have HL := Lib.hid hl
  clear hl
  by_cases h1 : 100 < nk
  all_goals (try (by_cases h2 : n < 0))
  all_goals (try have h3 : 200 < n := by omega)
  all_goals
    clear hbig
    go_enter Tryz.func7, Tryz.ntmps7
    go_wp2_with fail
    refine (Light12_ok a0 c0 l HL.out).mono ?_
    rintro e w1 ⟨b, rfl, _, hc1⟩
    have HC1 := Lib.hid hc1
    clear hc1
    cases b
  all_goals
    go_wp2_with fail
    refine alive_ok.mono ?_
    rintro e w2 ⟨rfl, hc2⟩
    have HC2 := Lib.hid (HC1.out.trans_same hc2)
    clear hc2
    go_wp2_with fail
    go_ret
    exact ⟨rfl, HC2.out⟩
set_option maxHeartbeats 12800000 in
set_option maxRecDepth 100000 in
theorem LogEv_small (a0 a2 : Option Addr) (c0 c2 : Nat) (l : List LOp) (n : Int) (keep : List Int) (hl : OpsA w a0 l) (h100 : ¬ 100 < keep.length) (n0 : ¬ n < 0) (n2 : ¬ 200 < n) (hk : ReadsInts w (.slice a2 keep.length c2) keep) (hkb : ∀ k, (Value.slice a2 keep.length c2).ownBlock = some k → k < w.heap.size) :
    Calls Tryz.prog 7 #[.slice a0 l.length c0, .int .i64 n, .slice a2 keep.length c2] w fun e w' => e = .returned (.bool true) ∧ Chg No w w' := by
  have HL := Lib.hid hl
  have HKP := Lib.hid hk
  have HKB := Lib.hid hkb
  obtain ⟨D1, hd1, e1, e2, e3, e4, e5⟩ := open_ready_rest
  have HD1 := Lib.hid hd1
  have HEV := Lib.hid (Ev.start e1 e2 e3 e4 e5)
  have HFT := Lib.hid e1.fit
  clear hl hk hkb hd1 e1 e2 e3 e4 e5
  obtain ⟨K, hK⟩ : ∃ K : Nat → Prop, K = fun k => k < w.heap.size := ⟨_, rfl⟩
  have HK := Lib.hid hK
  clear hK
  go_enter Tryz.func7, Tryz.ntmps7
  go_wp2_with fail
  refine (Light12_ok a0 c0 l HL.out).mono ?_
  rintro e w0 ⟨b, rfl, hb, hc0⟩
  have HC0 := Lib.hid hc0
  clear hc0
  cases b
  · clear hb
    go_wp2_with fail
    refine alive_ok.mono ?_
    rintro e w2 ⟨rfl, hc2⟩
    have HC2 := Lib.hid (HC0.out.trans_same hc2)
    clear hc2
    go_wp2_with fail
    go_ret
    exact ⟨rfl, HC2.out⟩
  obtain ⟨h60, hsm⟩ := hb rfl
  have HSM := Lib.hid hsm
  clear hb hsm
  go_wp2_with fail
  refine (sysReady (K := K) (fun k h => by rw [HK.out] at h; exact Nat.lt_of_lt_of_le h HC0.out.size)).mono ?_
  rintro e w1 ⟨bd, br, rfl, hy1, hc1⟩
  rw [show sh0.val = .agg #[.int .i64 2, .int .i64 10, .int .i64 8, .int .i64 4, .int .i64 32] from rfl]
  go_wp2_with fail
  generalize hW : w1.alloc (.cells #[.int .i64 2, .int .i64 10, .int .i64 8, .int .i64 4, .int .i64 32] 29) = w2
  have hB : w2.heap[w1.heap.size]? = some (.cells #[.int .i64 2, .int .i64 10, .int .i64 8, .int .i64 4, .int .i64 32] 29 (0, 0)) := by rw [← hW]; exact blk_new _ _
  have hc2 : Chg No w1 w2 := by rw [← hW]; exact (Chg.refl _ _).alloc _
  obtain ⟨s, hs⟩ : ∃ s, s = w1.heap.size := ⟨_, rfl⟩
  have hy2 : Sy0 (Kadd K s) w2 bd Dk.ready := hy1.add hc2 (by rw [hs]; exact Nat.le_refl _) (by rw [hs]; exact blk_lt hB)
  rw [← hs] at hB ⊢
  have HKs := Lib.hid (show Kadd K s s from .inr rfl)
  have HB2 := Lib.hid hB
  have HC2 := Lib.hid (HC0.out.trans_same (hc1.trans_same hc2))
  have HY2 := Lib.hid hy2
  clear hW hs hB hc1 hc2 hy1 hy2
  refine (sysOpen HY2.out (N := 100) (ready_up.1.fit.le (by omega)) HD1.out).mono ?_
  rintro e w3 ⟨g, rfl, hy3, hc3⟩
  have HKO := Lib.hid (show ∀ k, Kp (Kadd K s) k → w.heap.size ≤ k from fun k hk => by
    have h : ¬ K k := fun h => hk (.inl h)
    rw [HK.out] at h
    exact Nat.le_of_not_lt h)
  have HC3 := Lib.hid (HC2.out.trans hc3 (fun k hk => .inr (HKO.out k hk)))
  have HB3 := Lib.hid (kept hc3 HKs.out HB2.out)
  have HY3 := Lib.hid hy3
  have HKP3 := Lib.hid (show Keeps w s (.slice none 0 0) (Kadd K s) from ⟨fun k hk => .inl (by rw [HK.out]; exact hk), .inr rfl, fun k hk => by simp [Value.ownBlock] at hk⟩)
  clear hy3 hc3
  go_wp2_with fail
  have HKEEP := Lib.hid (show ReadsInts w3 (.slice a2 keep.length c2) keep by
    rcases HKP.out with hh | ⟨g', off', c', hv, hcs⟩
    · exact .inl hh
    · exact .inr ⟨g', off', c', hv, fun j hj => HC3.out.cell (hcs j hj) id⟩)
  refine (sysArm HY3.out n _ keep HKEEP.out (by omega)).mono ?_
  rintro e w4 ⟨rfl, hy, hc⟩
  have HC4 := Lib.hid (HC3.out.trans hc (fun k hk => .inr (HKO.out k hk)))
  have HB4 := Lib.hid (kept hc HKs.out HB3.out)
  have HY4 := Lib.hid hy
  have HEV4 := Lib.hid (HEV.out.arm n keep)
  have HFT4 := Lib.hid (arm_fitN HFT.out n (by omega) keep (by omega))
  generalize D1.arm n keep = D2 at HY4 HEV4 HFT4
  clear hy hc
  go_upto_block 0 with fail
  go_cut [13, 14, 15, 16, 17, 18, 19] from 65 to 135 (fun av fv sv _ _ _ _ wx => ∃ (A : List Img) (f sy : Nat) (D : Dk) (L : Lg) (K' : Nat → Prop) (vs : List Value), fv = .int .u64 f ∧ sv = .int .u64 sy ∧ A.length ≤ 60 ∧ Hid (Ev A f sy D L) ∧ Hid (Fines A) ∧ Hid (wx.ownsRow w4.heap.size 54 1 av A.length vs) ∧ Hid (Singles w vs A) ∧ Hid (Keeps w s av K') ∧ Hid (Sy K' wx bd g D L) ∧ Hid (wx.heap[s]? = some (.cells #[.int .i64 2, .int .i64 10, .int .i64 8, .int .i64 4, .int .i64 32] 29 (0, 0))) ∧ Hid (Chg No w wx) ∧ Hid (D.FitN 100000))
  case first =>
    go_wp2_with fail
    go_loopw [13, 14, 15, 16] (fun av fv sv iv wx => ∃ (i : Nat) (A : List Img) (f sy : Nat) (D : Dk) (L : Lg) (K' : Nat → Prop) (vs : List Value), i ≤ l.length ∧ iv = .int .i64 i ∧ fv = .int .u64 f ∧ sv = .int .u64 sy ∧ A.length ≤ i ∧ Hid (Ev A f sy D L) ∧ Hid (Fines A) ∧ Hid (wx.ownsRow w4.heap.size 54 1 av A.length vs) ∧ Hid (Singles w vs A) ∧ Hid (Keeps w s av K') ∧ Hid (Sy K' wx bd g D L) ∧ Hid (wx.heap[s]? = some (.cells #[.int .i64 2, .int .i64 10, .int .i64 8, .int .i64 4, .int .i64 32] 29 (0, 0))) ∧ Hid (Chg No w wx) ∧ Hid (w4.heap.size ≤ wx.heap.size) ∧ Hid (D.FitN (100000 * (62 - i)))) (fun _ _ _ iv _ => l.length - (intOf iv).toNat)
    case atStart => exact ⟨0, [], 1, 0, D2, _, Kadd K s, [], Nat.zero_le _, rfl, rfl, rfl, Nat.le_refl _, HEV4, Lib.hid (fun x hx => absurd hx (by simp)), Lib.hid (World.ownsRow_nil _ _ _ _), Lib.hid (Singles.nil w), HKP3, HY4, HB4, HC4, Lib.hid (Nat.le_refl _), Lib.hid (HFT4.out.le (by omega))⟩
    case round =>
      obtain ⟨i, A, f, sy, D, L, K', vs, hi, rfl, rfl, rfl, hA, HE, HF, HO, HS, HKK, HY, HB, HC, HZ, HFN⟩ := hrel
      by_cases hlt : i < l.length
      · go_wp2_with fail
        refine (sysOn HY.out).mono ?_
        rintro e w5 ⟨rfl, rfl⟩
        rename World => wr
        cases hon : D.on
        · go_wp2_with fail
          go_meet
          exact ⟨A, f, sy, D, L, K', vs, rfl, rfl, by omega, HE, HF, HO, HS, HKK, HY, HB, HC, Lib.hid (HFN.out.le (by omega))⟩
        · have HON := Lib.hid hon
          obtain ⟨bb, off, rfl, hcs⟩ := HL.out.cells i hlt
          obtain ⟨o, ho⟩ : ∃ o, l[i] = o := ⟨_, rfl⟩
          have hom : o ∈ l := by rw [← ho]; exact List.getElem_mem hlt
          rw [ho] at hcs
          obtain ⟨g0, _, g2, g3, _⟩ := op_cells hcs
          have HG2 := Lib.hid g2
          have HG3 := Lib.hid g3
          have HBO := Lib.hid (HKK.out.old bb (World.block_lt_of_cell? w _ g0))
          have hbz := World.block_lt_of_cell? wr _ (HC.out.cell g0 id)
          have c0 := HC.out.cell g0 id
          have HIM := Lib.hid (HL.out.imgs o hom)
          have HVR := Lib.hid (HL.out.vers o hom)
          have HVV := Lib.hid (HL.out.vv o hom)
          have HL70 := Lib.hid (HSM.out o hom).1
          have HLV := Lib.hid (HE.out.live hon (by omega))
          clear hcs ho hom g0 g2 g3 hon
          obtain ⟨kd, hkd⟩ : ∃ kd, o.kind = kd := ⟨_, rfl⟩
          rw [hkd] at c0
          clear hkd
          go_upto_block 2 with fail
          go_cut [13, 14, 17, 18, 19] from 80 to 131 (fun av fv _ _ _ wx => ∃ (A' : List Img) (f' sy' : Nat) (D' : Dk) (L' : Lg) (K2 : Nat → Prop) (vs' : List Value), fv = .int .u64 f' ∧ A'.length ≤ i + 1 ∧ Hid (EvS A' f' sy sy' D' L') ∧ Hid (Fines A') ∧ Hid (wx.ownsRow w4.heap.size 54 1 av A'.length vs') ∧ Hid (Singles w vs' A') ∧ Hid (Keeps w s av K2) ∧ Hid (Sy K2 wx bd g D' L') ∧ Hid (wx.heap[s]? = some (.cells #[.int .i64 2, .int .i64 10, .int .i64 8, .int .i64 4, .int .i64 32] 29 (0, 0))) ∧ Hid (Chg No w wx) ∧ Hid (w4.heap.size ≤ wx.heap.size) ∧ Hid (D'.FitN (100000 * (62 - (i + 1)))))
          case first =>
            clear c0
            by_cases k1 : kd = 1
            · subst k1
              have c3 := HC.out.cell HG3.out id
              have hl70 := HL70.out
              go_wp2_with fail
              rcases HE.out.add HON.out o.l HVR.out HF.out with ⟨rn, rc, hcc, hadd⟩ | ⟨x, rn, L2, hlx, hF2, hadd, hev2⟩
              · have HADD := Lib.hid hadd
                have hcc' : (rc == 0) = false := by simpa using hcc
                clear hadd hcc
                refine (sysAdd HY.out HLV.out.2.2.1 HLV.out.2.2.2.1 _ o.l ((HIM.out.no HC.out)) (by omega)).mono ?_
                rw [HADD.out]
                rintro e w6 ⟨rfl, hy, hc⟩
                have HC6 := Lib.hid (HC.out.trans hc (fun k hk => .inr (HKK.out.out k hk)))
                have HB6 := Lib.hid (kept hc HKK.out.sh HB.out)
                have HY6 := Lib.hid hy
                have HO6 := Lib.hid (hc.row HO.out (fun k hk hn => hn (HKK.out.own k hk)))
                have HZ6 := Lib.hid (Nat.le_trans HZ.out hc.size)
                clear hy hc c3
                go_wp2_with fail
                go_meet
                exact ⟨A, f, sy, D, L, K', vs, rfl, by omega, Lib.hid HE.out.same, HF, HO6, HS, HKK, HY6, HB6, HC6, HZ6, Lib.hid (HFN.out.le (by omega))⟩
              · have HADD := Lib.hid hadd
                have HLX := Lib.hid hlx
                have HF2 := Lib.hid hF2
                have HEV2 := Lib.hid hev2
                clear hadd hF2 hev2
                refine (sysAdd HY.out HLV.out.2.2.1 HLV.out.2.2.2.1 _ o.l ((HIM.out.no HC.out)) (by omega)).mono ?_
                rw [HADD.out]
                rintro e w6 ⟨rfl, hy, hc⟩
                have HC6 := Lib.hid (HC.out.trans hc (fun k hk => .inr (HKK.out.out k hk)))
                have HB6 := Lib.hid (kept hc HKK.out.sh HB.out)
                have HY6 := Lib.hid hy
                have HO6 := Lib.hid (hc.row HO.out (fun k hk hn => hn (HKK.out.own k hk)))
                have HZ6 := Lib.hid (Nat.le_trans HZ.out hc.size)
                have c3 := hc.cell c3 (fun h => h HBO.out)
                have hll : o.l.length = 1 := by rw [hlx]; rfl
                rw [hll] at c3
                have HSX := Lib.hid (show ImgsA w o.la [x] from hlx ▸ ImgsA.of_slice HIM.out)
                clear hy hc hlx
                go_wp2_with (at_builtin; refine Halt1.hold ?_)
                refine Halt1.go ?_
                have hz36 := HZ6.out
                refine wpL_app el_imgsl (.tmp 94) (.tmp 100) rfl rfl w4.heap.size u13 _ _ rfl (HO6.out.alloc _) w6.heap.size 1 1 [.slice o.la 1 o.lc] _ _ rfl (blk_new _ _) rfl (by simp [Value.oneCell']) (by omega) (by omega) (by omega) (by simp; omega) ?_
                intro g1 cap1 w8 hown8 hgrow8 hat8 hlt8
                have hX : Chg (fun k => u13.ownBlock = some k) w6 w8 := ((Chg.refl _ w6).alloc _).grown hgrow8 (fun k hk => .inl hk)
                have HO8 := Lib.hid (show w8.ownsRow w4.heap.size 54 1 (.slice (some ⟨g1, 0, none⟩) (A ++ [x]).length cap1) (A ++ [x]).length (vs ++ [.slice o.la 1 o.lc]) by
                  rw [List.length_append, List.length_singleton]
                  exact hown8)
                have HSL := Lib.hid (blk_lt HB4.out)
                have HY8 := Lib.hid (HY6.out.ownAdd hX (fun k hk => HKK.out.own k hk) (x := g1) (hat8.imp (fun e => HKK.out.own g1 e) (fun e => by rw [e]; simp)) hlt8)
                have HC8 := Lib.hid (HC6.out.trans hX (fun k hk => .inr (Nat.le_trans HC4.out.size (HO6.out.lt k hk).1)))
                have HB8 := Lib.hid (hX.obj HB6.out (fun e => by have := (HO6.out.lt s e).1; have := HSL.out; omega))
                have HK8 := Lib.hid (show Keeps w s (.slice (some ⟨g1, 0, none⟩) (A ++ [x]).length cap1) (Kadd K' g1) from ⟨fun k hk => .inl (HKK.out.old k hk), .inl HKK.out.sh, fun k hk => .inr (by simp [Value.ownBlock] at hk; exact hk.symm)⟩)
                have HZ8 := Lib.hid (Nat.le_trans HZ6.out hX.size)
                have HS8 := Lib.hid (HS.out.snoc (lc := o.lc) HSX.out)
                have HLN := Lib.hid (show (A ++ [x]).length ≤ i + 1 by rw [List.length_append, List.length_singleton]; omega)
                have hlen1 : A.length + 1 = (A ++ [x]).length := by rw [List.length_append, List.length_singleton]
                rw [hlen1]
                have HES := Lib.hid HEV2.out.same
                generalize A ++ [x] = A2 at HO8 HK8 HS8 HLN HF2 HES ⊢
                clear hown8 hgrow8 hat8 hlt8 hX hlen1 c3 HEV2
                go_wp2_with fail
                go_meet
                exact ⟨A2, f, sy, D, L2, Kadd K' g1, _, rfl, HLN.out, HES, HF2, HO8, HS8, HK8, HY8, HB8, HC8, HZ8, Lib.hid (HFN.out.le (by omega))⟩
            · have q1 : (kd == 1) = false := by simpa using k1
              by_cases k2 : kd = 2
              · subst k2
                go_wp2_with fail
                obtain ⟨hl2, hgd, _, _, _⟩ := HLV.out
                have HEW := Lib.hid (HE.out.writeS HON.out)
                have HFW := Lib.hid (write_room (N := 100000 * (62 - (i + 1))) hgd hl2 (HFN.out.le (by omega)))
                refine (sysWrite HY.out hgd (n := 2) hl2 HFN.out (by omega)).mono ?_
                rintro e w6 ⟨rfl, hy, hc⟩
                have HC6 := Lib.hid (HC.out.trans hc (fun k hk => .inr (HKK.out.out k hk)))
                have HB6 := Lib.hid (kept hc HKK.out.sh HB.out)
                have HY6 := Lib.hid hy
                have HO6 := Lib.hid (hc.row HO.out (fun k hk hn => hn (HKK.out.own k hk)))
                have HZ6 := Lib.hid (Nat.le_trans HZ.out hc.size)
                clear hy hc hgd hl2
                generalize logWrite D L = r at HEW HFW HY6 ⊢
                obtain ⟨r0, r1, D6, L6⟩ := r
                go_wp2_with fail
                go_meet
                exact ⟨A, f, sy, D6, L6, K', vs, rfl, by omega, HEW, HF, HO6, HS, HKK, HY6, HB6, HC6, HZ6, HFW⟩
              · have q2 : (kd == 2) = false := by simpa using k2
                by_cases k3 : kd = 3
                · subst k3
                  go_wp2_with fail
                  obtain ⟨hl2, hgd, _, _, _⟩ := HLV.out
                  obtain ⟨sy2, hes⟩ := HE.out.syncS HON.out
                  have HEW := Lib.hid hes
                  have HFW := Lib.hid (sync_room (N := 100000 * (62 - (i + 1))) hgd hl2 (HFN.out.le (by omega)))
                  refine (sysSync HY.out hgd (n := 2) hl2 HFN.out (by omega)).mono ?_
                  rintro e w6 ⟨rfl, hy, hc⟩
                  have HC6 := Lib.hid (HC.out.trans hc (fun k hk => .inr (HKK.out.out k hk)))
                  have HB6 := Lib.hid (kept hc HKK.out.sh HB.out)
                  have HY6 := Lib.hid hy
                  have HO6 := Lib.hid (hc.row HO.out (fun k hk hn => hn (HKK.out.own k hk)))
                  have HZ6 := Lib.hid (Nat.le_trans HZ.out hc.size)
                  clear hy hc hgd hl2 hes
                  generalize logSync D L = r at HEW HFW HY6 ⊢
                  obtain ⟨r0, D6, L6⟩ := r
                  go_wp2_with fail
                  go_meet
                  exact ⟨A, f, sy2, D6, L6, K', vs, rfl, by omega, HEW, HF, HO6, HS, HKK, HY6, HB6, HC6, HZ6, HFW⟩
                · have q3 : (kd == 3) = false := by simpa using k3
                  by_cases k4 : kd = 4
                  · subst k4
                    have c2 := HC.out.cell HG2.out id
                    go_wp2_with fail
                    obtain ⟨hl2, hgd, _, _, hs1⟩ := HLV.out
                    obtain ⟨V, hV⟩ : ∃ V, o.v = V := ⟨_, rfl⟩
                    rw [hV] at c2 ⊢
                    obtain ⟨sy2, hes⟩ := HE.out.freeS HON.out V
                    have HFW := Lib.hid (free_room (N := 100000 * (62 - (i + 1))) V (L := L) (HFN.out.le (by omega)))
                    refine (sysFree HY.out (by omega) HFN.out (by omega) (by omega) V).mono ?_
                    rintro e w6 ⟨rfl, hy, hc⟩
                    have HC6 := Lib.hid (HC.out.trans hc (fun k hk => .inr (HKK.out.out k hk)))
                    have HB6 := Lib.hid (kept hc HKK.out.sh HB.out)
                    have HY6 := Lib.hid hy
                    have HO6 := Lib.hid (hc.row HO.out (fun k hk hn => hn (HKK.out.own k hk)))
                    have HZ6 := Lib.hid (Nat.le_trans HZ.out hc.size)
                    have c2 := hc.cell c2 (fun h => h HBO.out)
                    have HES := Lib.hid hes
                    clear hy hc hgd hl2 hes hV
                    generalize logFree D L V = r at HES HFW HY6 ⊢
                    obtain ⟨r0, D6, L6⟩ := r
                    have hmx : max (f : Int) (V : Int) = ((max f V : Nat) : Int) := by omega
                    by_cases h0 : r0 = 0
                    · have HE2 := Lib.hid (show EvS A (max f V) sy sy2 D6 L6 from by have := HES.out; rw [if_pos (.inl h0)] at this; exact this)
                      subst h0
                      clear HES
                      go_wp2_with fail
                      go_meet
                      exact ⟨A, max f V, sy2, D6, L6, K', vs, rfl, by omega, HE2, HF, HO6, HS, HKK, HY6, HB6, HC6, HZ6, HFW⟩
                    · have z0 : (r0 == 0) = false := by simpa using h0
                      by_cases h14 : r0 = 14
                      · have HE2 := Lib.hid (show EvS A (max f V) sy sy2 D6 L6 from by have := HES.out; rw [if_pos (.inr h14)] at this; exact this)
                        subst h14
                        clear HES h0
                        go_wp2_with fail
                        go_meet
                        exact ⟨A, max f V, sy2, D6, L6, K', vs, rfl, by omega, HE2, HF, HO6, HS, HKK, HY6, HB6, HC6, HZ6, HFW⟩
                      · have z1 : (r0 == 14) = false := by simpa using h14
                        have HE2 := Lib.hid (show EvS A f sy sy2 D6 L6 from by have := HES.out; rw [if_neg (by rintro (h | h); exact h0 h; exact h14 h)] at this; exact this)
                        clear HES h0 h14 hmx
                        go_wp2_with fail
                        go_meet
                        exact ⟨A, f, sy2, D6, L6, K', vs, rfl, by omega, HE2, HF, HO6, HS, HKK, HY6, HB6, HC6, HZ6, HFW⟩
                  · have q4 : (kd == 4) = false := by simpa using k4
                    clear k1 k2 k3 k4
                    go_wp2_with fail
                    go_meet
                    exact ⟨A, f, sy, D, L, K', vs, rfl, by omega, Lib.hid HE.out.same, HF, HO, HS, HKK, HY, HB, HC, HZ, Lib.hid (HFN.out.le (by omega))⟩
          case rest =>
            obtain ⟨A6, f6, sy6, D6, L6, K6, vs6, rfl, hA6, HES, HF6, HO6, HS6, HKK6, HY6, HB6, HC6, HZ6, HFN6⟩ := hcut
            clear c0 hbz
            go_wp2_with fail
            refine (sysOn HY6.out).mono ?_
            rintro e w7 ⟨rfl, rfl⟩
            cases hon : D6.on
            · obtain rfl := HES.out.off hon
              have HE6 := Lib.hid HES.out.ev
              clear hon
              go_wp2_with fail
              exact ⟨⟨i + 1, A6, f6, sy6, D6, L6, K6, vs6, hlt, by go_num, rfl, rfl, hA6, HE6, HF6, HO6, HS6, HKK6, HY6, HB6, HC6, HZ6, HFN6⟩, by simp [intOf]; omega⟩
            · have HSY := Lib.hid (HES.out.on hon)
              have HE6 := Lib.hid HES.out.ev
              clear hon
              go_wp2_with fail
              refine (sysSynced HY6.out).mono ?_
              rw [HSY.out]
              rintro e w7 ⟨rfl, rfl⟩
              go_wp2_with fail
              exact ⟨⟨i + 1, A6, f6, sy6, D6, L6, K6, vs6, hlt, by go_num, rfl, rfl, hA6, HE6, HF6, HO6, HS6, HKK6, HY6, HB6, HC6, HZ6, HFN6⟩, by simp [intOf]; omega⟩
      · obtain rfl : i = l.length := by omega
        go_wp2_with fail
        go_meet
        exact ⟨A, f, sy, D, L, K', vs, rfl, rfl, by omega, HE, HF, HO, HS, HKK, HY, HB, HC, Lib.hid (HFN.out.le (by omega))⟩
  case rest =>
    obtain ⟨A, f, sy, D, L, K', vs, rfl, rfl, hA, HE, HF, HO, HS, HKK, HY, HB, HC, HFN⟩ := hcut
    rename World => w5
    go_wp2_with fail
    refine (sysArm HY.out (-1) (.slice none 0 0) [] (.inl ⟨rfl, rfl⟩) (by decide)).mono ?_
    rintro e w6 ⟨rfl, hy, hc⟩
    have HC6 := Lib.hid (HC.out.trans hc (fun k hk => .inr (HKK.out.out k hk)))
    have HB6 := Lib.hid (kept hc HKK.out.sh HB.out)
    have HY6 := Lib.hid hy
    have HO6 := Lib.hid (hc.row HO.out (fun k hk hn => hn (HKK.out.own k hk)))
    have HE6 := Lib.hid (HE.out.arm (-1) [])
    have HFN6 := Lib.hid (arm_fitN HFN.out (-1) (by omega) [] (by decide))
    generalize D.arm (-1) [] = D6 at HY6 HE6 HFN6
    clear hy hc
    go_wp2_with fail
    have HKEEP6 := Lib.hid (show ReadsInts w6 (.slice a2 keep.length c2) keep by
      rcases HKP.out with hh | ⟨g', off', c', hv, hcs⟩
      · exact .inl hh
      · exact .inr ⟨g', off', c', hv, fun j hj => HC6.out.cell (hcs j hj) id⟩)
    refine (sysCut HY6.out HFN6.out (.slice a2 keep.length c2) keep HKEEP6.out (fun k hk => HKK.out.old k (HKB.out k hk)) (by omega)).mono ?_
    rintro e w7 ⟨rfl, hy, hc⟩
    have HC7 := Lib.hid (HC6.out.trans hc (fun k hk => .inr (HKK.out.out k hk)))
    have HB7 := Lib.hid (kept hc HKK.out.sh HB6.out)
    have HY7 := Lib.hid hy
    have HO7 := Lib.hid (hc.row HO6.out (fun k hk hn => hn (HKK.out.own k hk)))
    obtain ⟨h, M, hhf, hg⟩ := HE6.out.fin keep
    have HG := Lib.hid hg
    have HFN7 := Lib.hid (cut_fitN (keep := keep) HFN6.out)
    clear hy hc hg
    generalize D6.cut keep = D7 at HY7 HG HFN7
    go_wp2_with fail
    refine (sysRestore HY7.out (by rw [show D7.sectors = 37 from HG.out.size]; decide)).mono ?_
    rintro e w8 ⟨rfl, hy, hc⟩
    have HC8 := Lib.hid (HC7.out.trans hc (fun k hk => .inr (HKK.out.out k hk)))
    have HB8 := Lib.hid (kept hc HKK.out.sh HB7.out)
    have HY8 := Lib.hid hy
    have HO8 := Lib.hid (hc.row HO7.out (fun k hk hn => hn (HKK.out.own k hk)))
    have HFN8 := Lib.hid (restore_fitN HFN7.out)
    obtain ⟨c, hsc, hc2, hcM, hcs⟩ := HG.out.scan rfl HF.out (by omega)
    have HSC := Lib.hid hsc
    have HSZ := Lib.hid HG.out.szd
    have HMN := Lib.hid HG.out.MN
    have HH1 := Lib.hid HG.out.h1
    clear hy hc hsc
    generalize ({ D7 with on := true } : Dk) = D8 at HY8 HFN8 HSC HSZ
    obtain ⟨q0, q1, q2, q3, q4⟩ := cells5 HB8.out
    go_wp2_with fail
    refine (sysScan HY8.out HSZ.out HFN8.out 1).mono ?_
    rw [HSC.out]
    rintro e w9 ⟨sv, ps, rfl, hr, hps, hc⟩
    have HRA := Lib.hid (recAt_of hr hps)
    have hcl : (recsR A h c).length = c := by unfold recsR; simp
    obtain ⟨sa, sc, rfl⟩ : ∃ a c', sv = .slice a c c' := by
      rcases HRA.out with ⟨hv, hn⟩ | ⟨g', off', c', hv, _⟩
      · have h0 : c = 0 := by rw [← hcl]; exact congrArg List.length hn
        exact ⟨none, 0, by rw [hv, h0]⟩
      · exact ⟨_, _, by rw [hv, hcl]⟩
    have HC9 := Lib.hid (HC8.out.trans_same hc)
    have HO9 := Lib.hid (hc.row HO8.out (fun _ _ => id))
    clear hr hps hc q0 q1 q2 q3 q4
    obtain ⟨va, vc, hva⟩ : ∃ a c, u13 = .slice a A.length c := by
      rcases HO.out.2 with ⟨hv, hn⟩ | ⟨g', cap, cur, hv, _⟩
      · exact ⟨none, 0, by rw [hv, hn]⟩
      · exact ⟨_, _, hv⟩
    subst hva
    have hcM2 : h + c ≤ A.length + 1 := by have := HMN.out; omega
    have hh1 := HH1.out
    go_wp2_with fail
    go_loopw [22] (fun iv wx => ∃ k : Nat, k ≤ c ∧ iv = .int .i64 k ∧ Hid (Chg No w9 wx)) (fun iv _ => c - (intOf iv).toNat)
    case atStart => exact ⟨0, Nat.zero_le _, rfl, Lib.hid (Chg.refl _ _)⟩
    case round =>
      obtain ⟨k, hk, rfl, HCk⟩ := hrel
      rename World => wr
      by_cases hlt : k < c
      · obtain ⟨m, hm⟩ : ∃ m, h + k = m := ⟨_, rfl⟩
        have hrec : ∀ j, j < c → ∃ gr off iv, sa = some ⟨gr, off, none⟩ ∧ wr.cell? ⟨gr, off + j * 3 + 1, none⟩ = some (.int .u64 (h + j : Nat)) ∧ wr.cell? ⟨gr, off + j * 3 + 2, none⟩ = some iv ∧ ImgsAt wr iv [A.getD (h + j - 1) noImg] := by
          intro j hj
          rcases HRA.out with ⟨_, hn⟩ | ⟨gr, off, c', hv, hjj⟩
          · have : c = 0 := by rw [← hcl, hn]; rfl
            omega
          · simp only [Value.slice.injEq] at hv
            obtain ⟨iv, _, e1, e2, e3⟩ := hjj j (by rw [hcl]; exact hj)
            have hget : (recsR A h c)[j]'(by rw [hcl]; exact hj) = ⟨9, h + j, [A.getD (h + j - 1) noImg]⟩ := by unfold recsR; simp
            rw [hget] at e1 e3
            exact ⟨gr, off, iv, hv.1, HCk.out.cell e1 id, HCk.out.cell e2 id, e3.no HCk.out⟩
        obtain ⟨gr, off, iv, rfl, d1, d2, him⟩ := hrec k hlt
        have hmA : m - 1 < A.length := by omega
        obtain ⟨la, lc, hvs, hsi⟩ := HS.out.2 (m - 1) hmA
        obtain ⟨x, hx⟩ : ∃ x, A[m - 1] = x := ⟨_, rfl⟩
        have hgd : A.getD (h + k - 1) noImg = x := by rw [hm, List.getD_eq_getElem?_getD, List.getElem?_eq_getElem hmA, hx]; rfl
        rw [hgd] at him
        rw [hx] at hsi
        rw [hm] at d1
        obtain ⟨ia, ic, rfl, hia⟩ := ImgsA.of_at him
        obtain ⟨gv, hgv⟩ : ∃ gv, va = some ⟨gv, 0, none⟩ := by
          rcases HO9.out.2 with ⟨hv, hn⟩ | ⟨g', cap, cur, hv, _⟩
          · omega
          · simp only [Value.slice.injEq] at hv
            exact ⟨g', hv.1⟩
        subst hgv
        have dv : wr.cell? ⟨gv, m - 1, none⟩ = some (.slice la 1 lc) := HCk.out.cell (row_cell HO9.out rfl hvs) id
        have HSAME := Lib.hid (show ∀ q : Nat, Calls Tryz.prog 28 #[.slice ia 1 ic, .slice la 1 lc] (wr.drewN q) (fun e w' => e = .returned (.bool true) ∧ ∃ m, w' = (wr.drewN q).drewN m) from fun q => Same_ok ia la ic lc [x] (hia.no ((Chg.refl No wr).drewN q)) ((hsi.no (HC9.out.trans_same HCk.out)).no ((Chg.refl No wr).drewN q)) (by simp))
        have d2 : wr.cell? ⟨gr, off + k * 3 + 2, none⟩ = some (.slice ia 1 ic) := d2
        have i0 : (0 : Int) ≤ ((m - 1 : Nat) : Int) := by omega
        have i1 : ((m - 1 : Nat) : Int) < (A.length : Int) := by omega
        have t0 : decide ((m : Int) < 1) = false := by simp only [decide_eq_false_iff_not]; omega
        have t1 : decide (A.length < m) = false := by simp only [decide_eq_false_iff_not]; omega
        have s1 : IntKind.u64.wrap ((m : Int) - 1) = ((m - 1 : Nat) : Int) := by rw [show (m : Int) - 1 = ((m - 1 : Nat) : Int) by omega]; exact IntWalk.u64_in _ (by omega)
        have s3 : IntKind.u64.wrap (A.length : Int) = (A.length : Int) := IntWalk.u64_in _ (by omega)
        have lr := World.block_lt_of_cell? wr _ d1
        have lv := World.block_lt_of_cell? wr _ dv
        have hmm : 1 ≤ m := by omega
        clear him hia hsi hgd hx hvs
        by_cases hk0 : k = 0
        · subst hk0
          clear hrec
          go_upto_region 40 with (fail)
          go_cut [199] from 162 to 198 (fun x wx => x = .bool false ∧ Hid (Chg No wr wx))
          case first =>
            go_quiet ((go_at_call 28; exact Calls.quiet_of (HSAME.out _)))
            have HCq := Lib.hid ((Chg.refl No wr).drewN nq)
            go_wp2_with fail
            go_meet
            exact ⟨rfl, HCq⟩
          case rest =>
            obtain ⟨rfl, HCx⟩ := hcut
            clear d1 d2 dv
            go_wp2_with fail
            exact ⟨⟨0 + 1, hlt, by go_num, Lib.hid (HCk.out.trans_same HCx.out)⟩, by simp [intOf]; omega⟩
        · obtain ⟨q, hq⟩ : ∃ q, k = q + 1 := ⟨k - 1, by omega⟩
          obtain ⟨gr2, off2, iv2, hgr2, b1, _, _⟩ := hrec q (by omega)
          simp only [Option.some.injEq, Addr.mk.injEq, and_true] at hgr2
          obtain ⟨rfl, rfl⟩ := hgr2
          obtain ⟨p, hp⟩ : ∃ p, h + q = p := ⟨_, rfl⟩
          rw [hp] at b1
          have s5 : IntKind.u64.wrap ((p : Int) + 1) = (m : Int) := by rw [show (p : Int) + 1 = (m : Int) by omega]; exact IntWalk.u64_in _ (by omega)
          have e2 : IntKind.i64.wrap ((k : Int) - 1) = q := by rw [show (k : Int) - 1 = q by omega]; exact IntWalk.i64_in _ (by omega)
          have j0 : (0 : Int) ≤ (q : Int) := by omega
          have j1 : (q : Int) < (c : Int) := by omega
          have t5 : decide (0 < (k : Int)) = true := by simp only [decide_eq_true_eq]; omega
          have t6 : 0 < k := by omega
          have HQ := Lib.hid hq
          clear hq
          clear hrec hp hk0
          go_upto_region 40 with (fail)
          go_cut [199] from 162 to 198 (fun x wx => x = .bool false ∧ Hid (Chg No wr wx))
          case first =>
            go_quiet ((go_at_call 28; exact Calls.quiet_of (HSAME.out _)))
            have HCq := Lib.hid ((Chg.refl No wr).drewN nq)
            go_wp2_with fail
            go_meet
            exact ⟨rfl, HCq⟩
          case rest =>
            obtain ⟨rfl, HCx⟩ := hcut
            clear d1 d2 dv b1 e2 s5 s1 s3 t5
            go_wp2_with fail
            exact ⟨⟨k + 1, hlt, by go_num, Lib.hid (HCk.out.trans_same HCx.out)⟩, by simp [intOf]; omega⟩
      · obtain rfl : k = c := by omega
        by_cases hsf : sy < f
        · have t0 : decide (sy < f) = true := by simp only [decide_eq_true_eq]; omega
          go_wp2_with fail
          refine alive_ok.mono ?_
          rintro e w12 ⟨rfl, hc⟩
          have HC12 := Lib.hid (HC9.out.trans_same (HCk.out.trans_same hc))
          clear hc
          go_wp2_with fail
          go_ret
          exact ⟨rfl, HC12.out⟩
        · have t0 : decide (sy < f) = false := by simp only [decide_eq_false_iff_not]; omega
          have hk1 : 1 ≤ k := by omega
          obtain ⟨gr, off, hsa, hrec⟩ : ∃ gr off, sa = some ⟨gr, off, none⟩ ∧ ∀ j, j < k → wr.cell? ⟨gr, off + j * 3 + 1, none⟩ = some (.int .u64 (h + j : Nat)) := by
            rcases HRA.out with ⟨_, hn⟩ | ⟨gr, off, c', hv, hjj⟩
            · have : k = 0 := by rw [← hcl, hn]; rfl
              omega
            · simp only [Value.slice.injEq] at hv
              refine ⟨gr, off, hv.1, fun j hj => ?_⟩
              obtain ⟨iv, _, e1, _, _⟩ := hjj j (by rw [hcl]; exact hj)
              have hget : (recsR A h k)[j]'(by rw [hcl]; exact hj) = ⟨9, h + j, [A.getD (h + j - 1) noImg]⟩ := by unfold recsR; simp
              rw [hget] at e1
              exact HCk.out.cell e1 id
          subst hsa
          have b0 := hrec 0 (by omega)
          rw [Nat.zero_mul, Nat.add_zero, Nat.add_zero] at b0
          obtain ⟨q, hq⟩ : ∃ q, k = q + 1 := ⟨k - 1, by omega⟩
          have b1 := hrec q (by omega)
          obtain ⟨p, hp⟩ : ∃ p, h + q = p := ⟨_, rfl⟩
          rw [hp] at b1
          have HB0 := Lib.hid b0
          have HB1 := Lib.hid b1
          have t1 : decide (h ≤ f) = true := by simp only [decide_eq_true_eq]; omega
          have t2 : decide (sy ≤ p) = true := by simp only [decide_eq_true_eq]; omega
          subst hq
          have e1 : ((q + 1 : Nat) : Int) - 1 = q := by omega
          have e4 : IntKind.i64.wrap (q : Int) = q := IntWalk.i64_in _ (by omega)
          have e3 : IntKind.i64.wrap ((q : Int) + 1 - 1) = q := by rw [Int.add_sub_cancel]; exact IntWalk.i64_in _ (by omega)
          have e2 : IntKind.i64.wrap (((q + 1 : Nat) : Int) - 1) = q := by rw [e1]; exact IntWalk.i64_in _ (by omega)
          have t5 : decide (0 < ((q + 1 : Nat) : Int)) = true := by simp only [decide_eq_true_eq]; omega
          clear b0 b1 hrec hp hcs
          go_wp2_with fail
          refine alive_ok.mono ?_
          rintro e w12 ⟨rfl, hc⟩
          have b0 := hc.cell HB0.out id
          have b1 := hc.cell HB1.out id
          have HC12 := Lib.hid (HC9.out.trans_same (HCk.out.trans_same hc))
          clear hc
          go_wp2_with fail
          go_ret
          exact ⟨rfl, HC12.out⟩
end
end Go.Proofs.YtmmnjecaedmleaaGreatDoor
