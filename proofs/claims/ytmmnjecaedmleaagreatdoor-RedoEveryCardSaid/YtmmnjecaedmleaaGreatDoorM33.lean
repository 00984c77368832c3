import Derived.Test.YtmmnjecaedmleaaGreatDoorM32
import Derived.Deep.CutBlock
import Derived.Deep.Slices
import Derived.ChangeSlices
import Derived.ChangeArms
import Derived.WideShapes

/- law13.RedoEvery where it is light: contract. -/
namespace Go.Proofs.YtmmnjecaedmleaaGreatDoor
open Go.RowKit
attribute [local go_sem ↓] Go.wp_at_zero Go.wp_at_succ

section
variable {w : World}
set_option maxHeartbeats 12800000 in
set_option maxRecDepth 100000 in
theorem Every_small (a0 a1 a2 : Option Addr) (c0 c1 c2 : Nat) (l : List Img) (times keep : List Int) (hl : ImgsA w a0 l) (hlen : l.length ≤ 9223372036854775807) (hd : ∀ x ∈ l, x.data.length ≤ 9223372036854775807) (hv : ∀ x ∈ l, x.version < 18446744073709551616)
    (hi : lightS 4 600 l = true) (h6 : ¬ 6 < times.length) (h60 : ¬ 60 < keep.length) (ht : ReadsInts w (.slice a1 times.length c1) times) (hk : ReadsInts w (.slice a2 keep.length c2) keep) :
    Calls Tryz.prog 4 #[.slice a0 l.length c0, .slice a1 times.length c1, .slice a2 keep.length c2] w fun e w' => e = .returned (.bool true) ∧ Chg No w w' := by
  have HL := Lib.hid hl
  have HD := Lib.hid hd
  have HN := Lib.hid hlen
  have HVV := Lib.hid hv
  have HLI := Lib.hid hi
  have HT := Lib.hid ht
  have HKP := Lib.hid hk
  obtain ⟨D1, hd1, e1, e2, e3, e4, e5⟩ := open_ready_rest
  have HD1 := Lib.hid hd1
  have HE1 := Lib.hid e1
  have HE2 := Lib.hid e2
  have HE3 := Lib.hid e3
  have HE4 := Lib.hid e4
  have HE5 := Lib.hid e5
  have h4 : l.length ≤ 4 := by
    by_cases h : 4 < l.length
    · unfold lightS at hi
      rw [if_pos h] at hi
      exact absurd hi (by decide)
    · omega
  clear hl hd hlen hv hi ht hk hd1 e1 e2 e3 e4 e5
  obtain ⟨K, hK⟩ : ∃ K : Nat → Prop, K = fun k => k < w.heap.size := ⟨_, rfl⟩
  have HK := Lib.hid hK
  clear hK
  go_enter Tryz.func4, Tryz.ntmps4
  go_wp2_with fail
  refine (Light_ok 4 600 (by omega) (by omega) (by omega) a0 c0 l HL.out HN.out HD.out).mono ?_
  rw [HLI.out]
  rintro e w0 ⟨rfl, hc0⟩
  have HC0 := Lib.hid hc0
  clear hc0
  go_wp2_with fail
  refine (sysReady (K := K) (fun k h => by rw [HK.out] at h; exact Nat.lt_of_lt_of_le h HC0.out.size)).mono ?_
  rintro e w1 ⟨bd, br, rfl, hy1, hc1⟩
  rw [show sh0.val = .agg #[.int .i64 2, .int .i64 10, .int .i64 8, .int .i64 4, .int .i64 32] from rfl]
  go_wp2_with fail
  generalize hW : w1.alloc (.cells #[.int .i64 2, .int .i64 10, .int .i64 8, .int .i64 4, .int .i64 32] 29) = w2
  have hB : w2.heap[w1.heap.size]? = some (.cells #[.int .i64 2, .int .i64 10, .int .i64 8, .int .i64 4, .int .i64 32] 29 (0, 0)) := by rw [← hW]; exact blk_new _ _
  have hc2 : Chg No w1 w2 := by rw [← hW]; exact (Chg.refl _ _).alloc _
  obtain ⟨s, hs⟩ : ∃ s, s = w1.heap.size := ⟨_, rfl⟩
  have hy2 : Sy0 (Kadd K s) w2 bd Dk.ready := hy1.add hc2 (by rw [hs]; exact Nat.le_refl _) (by rw [hs]; exact blk_lt hB)
  rw [← hs] at hB ⊢
  have HKs := Lib.hid (show Kadd K s s from .inr rfl)
  have HB2 := Lib.hid hB
  have HC2 := Lib.hid (HC0.out.trans_same (hc1.trans_same hc2))
  have HY2 := Lib.hid hy2
  clear hW hs hB hc1 hc2 hy1 hy2
  refine (sysOpen HY2.out (N := 100) (ready_up.1.fit.le (by omega)) HD1.out).mono ?_
  rintro e w3 ⟨g, rfl, hy3, hc3⟩
  have HKO := Lib.hid (show ∀ k, Kp (Kadd K s) k → w.heap.size ≤ k from fun k hk => by
    have h : ¬ K k := fun h => hk (.inl h)
    rw [HK.out] at h
    exact Nat.le_of_not_lt h)
  have HC3 := Lib.hid (HC2.out.trans hc3 (fun k hk => .inr (HKO.out k hk)))
  have HB3 := Lib.hid (kept hc3 HKs.out HB2.out)
  have HY3 := Lib.hid hy3
  have HKP3 := Lib.hid (show Keeps w s (.slice none 0 0) (Kadd K s) from ⟨fun k hk => .inl (by rw [HK.out]; exact hk), .inr rfl, fun k hk => by simp [Value.ownBlock] at hk⟩)
  clear hy3 hc3
  go_wp2_with fail
  go_loopw [13, 14] (fun ov iv wr => ∃ (i : Nat) (dn : List Img) (K' : Nat → Prop), i ≤ l.length ∧ iv = .int .i64 i ∧ dn.length ≤ 2 ∧ Hid (∀ x ∈ dn, x.fine ∧ x.block ≤ 9 ∧ 0 < x.version) ∧ Hid (wr.ownsRow w3.heap.size 38 3 ov dn.length (dn.flatMap Img.cells)) ∧ Hid (Keeps w s ov K') ∧ Hid (Sy K' wr bd g D1 (logS dn)) ∧ Hid (wr.heap[s]? = some (.cells #[.int .i64 2, .int .i64 10, .int .i64 8, .int .i64 4, .int .i64 32] 29 (0, 0))) ∧ Hid (Chg No w wr) ∧ Hid (w3.heap.size ≤ wr.heap.size)) (fun _ iv _ => l.length - (intOf iv).toNat)
  case atStart => exact ⟨0, [], Kadd K s, Nat.zero_le _, rfl, by decide, Lib.hid (by simp), Lib.hid (World.ownsRow_nil _ _ _ _), HKP3, HY3, HB3, HC3, Lib.hid (Nat.le_refl _)⟩
  case round =>
    obtain ⟨i, dn, K', hi, rfl, hdn, HG, HO, HKK, HY, HB, HC, HZ⟩ := hrel
    by_cases hlt : i < l.length
    · obtain ⟨b, off, rfl, k0, k1, k2⟩ := HL.out i hlt
      have d0 := HC.out.cell k0 id
      have d1 := HC.out.cell k1 id
      have d2 := HC.out.cell k2 id
      obtain ⟨x, hx⟩ : ∃ x, l[i] = x := ⟨_, rfl⟩
      have hxv := HVV.out x (by rw [← hx]; exact List.getElem_mem hlt)
      rw [hx] at d0 d1 d2
      obtain ⟨xb, xv, xd⟩ := x
      simp only at d0 d1 d2 hxv
      have HXV := Lib.hid hxv
      have hz := World.block_lt_of_cell? wr _ d0
      clear k0 k1 k2 hx hxv
      by_cases q0 : xb < 0
      · go_wp2_with fail
        refine alive_ok.mono ?_
        rintro e w5 ⟨rfl, hc5⟩
        have HC5 := Lib.hid (HC.out.trans_same hc5)
        clear hc5
        go_wp2_with fail
        go_ret
        exact ⟨rfl, HC5.out⟩
      · by_cases q1 : 9 < xb
        · go_wp2_with fail
          refine alive_ok.mono ?_
          rintro e w5 ⟨rfl, hc5⟩
          have HC5 := Lib.hid (HC.out.trans_same hc5)
          clear hc5
          go_wp2_with fail
          go_ret
          exact ⟨rfl, HC5.out⟩
        · by_cases q2 : xv = 0
          · subst q2
            go_wp2_with fail
            refine alive_ok.mono ?_
            rintro e w5 ⟨rfl, hc5⟩
            have HC5 := Lib.hid (HC.out.trans_same hc5)
            clear hc5
            go_wp2_with fail
            go_ret
            exact ⟨rfl, HC5.out⟩
          · have HQ2 := Lib.hid q2
            have q2' : (xv == 0) = false := by simpa using q2
            obtain ⟨n, c, hadd, hc0⟩ := add_any dn ⟨xb, xv, xd⟩ hdn
            have HADD := Lib.hid hadd
            have HCC := Lib.hid hc0
            clear q2 hadd hc0
            have HSL := Lib.hid (blk_lt HB3.out)
            have HWZ := Lib.hid HC3.out.size
            go_wp2_with fail
            generalize hW : wr.alloc _ = w5
            have hc5 : Chg No wr w5 := by rw [← hW]; exact (Chg.refl _ _).alloc _
            have hx5 : w5.heap[wr.heap.size]? = some (.cells #[.int .i64 xb, .int .u64 xv, S xd] 38 (0, 0)) := by rw [← hW]; exact blk_new _ _
            have HC5 := Lib.hid (HC.out.trans_same hc5)
            have HB5 := Lib.hid (hc5.obj HB.out id)
            have HY5 := Lib.hid (HY.out.no hc5)
            have HO5 := Lib.hid (hc5.row HO.out (fun _ _ => id))
            have HV5 := Lib.hid (imgs_one (x := ⟨xb, xv, xd⟩) (c := 1) (cell_of_blk hx5 0 rfl) (cell_of_blk hx5 1 rfl) (cell_of_blk hx5 2 rfl))
            have HZ5 := Lib.hid (Nat.le_trans HZ.out hc5.size)
            have HD0 := Lib.hid d0
            have HD1x := Lib.hid d1
            have HD2x := Lib.hid d2
            have HX0 := Lib.hid (HKK.out.old b (by
              obtain ⟨b', off', e, k0, _⟩ := HL.out i hlt
              simp only [Option.some.injEq, Addr.mk.injEq] at e
              rw [e.1]
              exact World.block_lt_of_cell? w _ k0))
            clear hW hx5 d0 d1 d2
            refine (sysAdd HY5.out (logS_fit1 dn hdn) rfl _ [⟨xb, xv, xd⟩] HV5.out (by show 1 ≤ 1000000; omega)).mono ?_
            rw [HADD.out]
            rintro e w6 ⟨rfl, hy, hc⟩
            have HC6 := Lib.hid (HC5.out.trans hc (fun k hk => .inr (HKK.out.out k hk)))
            have HB6 := Lib.hid (kept hc HKK.out.sh HB5.out)
            have HY6 := Lib.hid hy
            have HO6 := Lib.hid (hc.row HO5.out (fun k hk hn => hn (HKK.out.own k hk)))
            have HZ6 := Lib.hid (Nat.le_trans HZ5.out hc.size)
            have d0 := hc.cell (hc5.cell HD0.out id) (fun h => h HX0.out)
            have d1 := hc.cell (hc5.cell HD1x.out id) (fun h => h HX0.out)
            have d2 := hc.cell (hc5.cell HD2x.out id) (fun h => h HX0.out)
            have hz6 := World.block_lt_of_cell? w6 _ d0
            clear hy hc hc5 hz
            by_cases hcz : c = 0
            · obtain ⟨t1, t2⟩ := HCC.out.1 hcz
              have ht : taken dn ⟨xb, xv, xd⟩ = dn ++ [⟨xb, xv, xd⟩] := by unfold taken; rw [if_pos ⟨t1, t2⟩]
              rw [ht] at HY6
              subst hcz
              have HT2 := Lib.hid t2
              clear ht t2
              go_wp2_with (at_builtin; refine Halt1.hold ?_)
              refine Halt1.go ?_
              have hz36 := HZ6.out
              refine wpL_app el_img (.tmp 103) (.tmp 108) rfl rfl w3.heap.size u13 _ _ rfl (HO6.out.alloc _) w6.heap.size 1 1 (Img.cells ⟨xb, xv, xd⟩) _ _ rfl (blk_new _ _) rfl (by simp [Img.cells, Value.oneCell']) (by omega) (by omega) (by omega) (by simp; omega) ?_
              intro g1 cap1 w8 hown8 hgrow8 hat8 hlt8
              have hX : Chg (fun k => u13.ownBlock = some k) w6 w8 := ((Chg.refl _ w6).alloc _).grown hgrow8 (fun k hk => .inl hk)
              have HO8 := Lib.hid (show w8.ownsRow w3.heap.size 38 3 (.slice (some ⟨g1, 0, none⟩) (dn ++ [(⟨xb, xv, xd⟩ : Img)]).length cap1) (dn ++ [(⟨xb, xv, xd⟩ : Img)]).length ((dn ++ [(⟨xb, xv, xd⟩ : Img)]).flatMap Img.cells) by
                rw [List.length_append, List.length_singleton, List.flatMap_append]
                exact hown8)
              have HY8 := Lib.hid (HY6.out.ownAdd hX (fun k hk => HKK.out.own k hk) (x := g1) (hat8.imp (fun e => HKK.out.own g1 e) (fun e => by rw [e]; simp)) hlt8)
              have HC8 := Lib.hid (HC6.out.trans hX (fun k hk => .inr (Nat.le_trans HWZ.out (HO6.out.lt k hk).1)))
              have HB8 := Lib.hid (hX.obj HB6.out (fun e => by have := (HO6.out.lt s e).1; have := HSL.out; omega))
              have HK8 := Lib.hid (show Keeps w s (.slice (some ⟨g1, 0, none⟩) (dn ++ [(⟨xb, xv, xd⟩ : Img)]).length cap1) (Kadd K' g1) from ⟨fun k hk => .inl (HKK.out.old k hk), .inl HKK.out.sh, fun k hk => .inr (by simp [Value.ownBlock] at hk; exact hk.symm)⟩)
              have HZ8 := Lib.hid (Nat.le_trans HZ6.out hX.size)
              have HG8 := Lib.hid (show ∀ y ∈ dn ++ [(⟨xb, xv, xd⟩ : Img)], y.fine ∧ y.block ≤ 9 ∧ 0 < y.version from fun y hy => by
                rcases List.mem_append.1 hy with hy | hy
                · exact HG.out y hy
                · rw [List.mem_singleton.1 hy]
                  have := HQ2.out
                  exact ⟨⟨HT2.out, HXV.out⟩, by show xb ≤ 9; omega, by show 0 < xv; omega⟩)
              have HLN := Lib.hid (show (dn ++ [(⟨xb, xv, xd⟩ : Img)]).length ≤ 2 by rw [List.length_append, List.length_singleton]; omega)
              have hlen1 : dn.length + 1 = (dn ++ [(⟨xb, xv, xd⟩ : Img)]).length := by rw [List.length_append, List.length_singleton]
              rw [hlen1]
              generalize dn ++ [(⟨xb, xv, xd⟩ : Img)] = dn2 at HO8 HY8 HK8 HG8 HLN ⊢
              clear hown8 hgrow8 hat8 hlt8 hX hlen1 d0 d1 d2 hz6
              go_wp2_with fail
              exact ⟨⟨i + 1, dn2, Kadd K' g1, hlt, by go_num, HLN.out, HG8, HO8, HK8, HY8, HB8, HC8, HZ8⟩, by simp [intOf]; omega⟩
            · have ht : taken dn ⟨xb, xv, xd⟩ = dn := by
                unfold taken
                rw [if_neg (fun e => hcz (HCC.out.2 e))]
              rw [ht] at HY6
              have hcz' : (c == 0) = false := by simpa using hcz
              clear ht hcz
              go_wp2_with fail
              exact ⟨⟨i + 1, dn, K', hlt, by go_num, hdn, HG, HO6, HKK, HY6, HB6, HC6, HZ6⟩, by simp [intOf]; omega⟩
    · obtain rfl : i = l.length := by omega
      obtain ⟨oa, oc, rfl⟩ : ∃ a c, u13 = .slice a dn.length c := by
        rcases HO.out.2 with ⟨hv, hn⟩ | ⟨g', cap, cur, hv, _⟩
        · exact ⟨none, 0, by rw [hv, hn]⟩
        · exact ⟨_, _, hv⟩
      obtain ⟨D2, L2, D3, D4, s1, s2, s3, s4, s5, s6, s7, s8⟩ := js_start hdn HG.out HE1.out HE2.out HE3.out HE4.out HE5.out
      have HS1 := Lib.hid s1
      have HS2 := Lib.hid s2
      have HS3 := Lib.hid s3
      have HS4 := Lib.hid s4
      have HS5 := Lib.hid s5
      have HS6 := Lib.hid s6
      have HS7 := Lib.hid s7
      have HS8 := Lib.hid s8
      have HW := Lib.hid (plan_wants HG.out)
      have HDN := Lib.hid hdn
      clear s1 s2 s3 s4 s5 s6 s7 s8 hdn
      go_wp2_with fail
      refine (sysSync HY.out (logS_good dn HDN.out) (n := 2) (by show (dn.zipIdx.map _).length ≤ 2; rw [List.length_map, List.length_zipIdx]; exact HDN.out) HE1.out.fit (by omega)).mono ?_
      rw [HS1.out]
      rintro e w10 ⟨rfl, hy, hc⟩
      have HC10 := Lib.hid (HC.out.trans hc (fun k hk => .inr (HKK.out.out k hk)))
      have HB10 := Lib.hid (kept hc HKK.out.sh HB.out)
      have HY10 := Lib.hid hy
      clear hy hc
      go_wp2_with fail
      refine (sysFence HY10.out HS2.out.fit 1).mono ?_
      rw [HS3.out]
      rintro e w11 ⟨rfl, hy, hc⟩
      have HC11 := Lib.hid (HC10.out.trans hc (fun k hk => .inr (HKK.out.out k hk)))
      have HB11 := Lib.hid (kept hc HKK.out.sh HB10.out)
      have HY11 := Lib.hid hy
      clear hy hc
      go_wp2_with fail
      refine (sysAdmit HY11.out HS4.out.fit 2 20).mono ?_
      rw [HS5.out]
      rintro e w12 ⟨rfl, hy, hc⟩
      have HC12 := Lib.hid (HC11.out.trans hc (fun k hk => .inr (HKK.out.out k hk)))
      have HB12 := Lib.hid (kept hc HKK.out.sh HB11.out)
      have HY12 := Lib.hid hy
      clear hy hc
      obtain ⟨q0, q1, q2, q3, q4⟩ := cells5 HB12.out
      go_wp2_with fail
      refine (sysScan HY12.out HS6.out.szd HS6.out.fit 1).mono ?_
      rw [HS8.out]
      rintro e w13 ⟨sv, ps, rfl, hr, hps, hc⟩
      have HRA := Lib.hid (recAt_of hr hps)
      have hfx : ∀ x ∈ dn, x.fine := fun x hx => (HG.out x hx).1
      have HRL := Lib.hid (scan_area_len dn HDN.out hfx)
      have HRI := Lib.hid (scan_area dn HDN.out hfx)
      have HFX := Lib.hid hfx
      obtain ⟨sa, sc, rfl⟩ : ∃ a c, sv = .slice a dn.length c := by
        rcases HRA.out with ⟨hv, hn⟩ | ⟨g', off', c', hv, _⟩
        · have h0 : dn.length = 0 := by rw [← HRL.out]; exact congrArg List.length hn
          exact ⟨none, 0, by rw [hv, h0]⟩
        · exact ⟨_, _, by rw [hv, HRL.out]⟩
      have HC13 := Lib.hid (HC12.out.trans_same hc)
      have HB13 := Lib.hid (hc.obj HB12.out id)
      have HY13 := Lib.hid (HY12.out.no hc)
      clear hr hps hc hfx q0 q1 q2 q3 q4
      go_wp2_with fail
      refine (planOk _ _ dn HRA.out HRI.out (by rw [HRL.out]; have := HDN.out; omega) (by have := HDN.out; omega) HFX.out).mono ?_
      rintro e w14 ⟨pv, rfl, ho, hc⟩
      obtain ⟨pa, pc, rfl⟩ : ∃ a c, pv = .slice a (planOf dn).length c := by
        rcases ho.2 with ⟨hv, hn⟩ | ⟨g', cap, cur, hv, _⟩
        · exact ⟨none, 0, by rw [hv, hn]⟩
        · exact ⟨_, _, hv⟩
      have HC14 := Lib.hid (HC13.out.trans_same hc)
      have HB14 := Lib.hid (hc.obj HB13.out id)
      have HY14 := Lib.hid (HY13.out.addRow hc (fun k hk => ho.lt k hk))
      have HO14 := Lib.hid ho
      clear ho hc
      go_wp2_with fail
      obtain ⟨K2, hK2⟩ : ∃ K2 : Nat → Prop, K2 = fun k => K' k ∨ (Value.slice pa (planOf dn).length pc).ownBlock = some k := ⟨_, rfl⟩
      rw [← hK2] at HY14
      have HKK2 := Lib.hid (show Keeps w s (.slice pa (planOf dn).length pc) K2 from ⟨fun k hk => by rw [hK2]; exact .inl (HKK.out.old k hk), by rw [hK2]; exact .inl HKK.out.sh, fun k hk => by rw [hK2]; exact .inr hk⟩)
      clear hK2
      go_loopw [20] (fun iv wx => ∃ (k : Nat) (D : Dk), k ≤ times.length ∧ iv = .int .i64 k ∧ Hid (Js (planOf dn) (areaOf dn) D) ∧ Hid (D.on = true) ∧ Hid (D.armed = false) ∧ Hid D.Szd ∧ Hid (D.FitN (100000 * (7 - k))) ∧ Hid (Sy K2 wx bd g D L2) ∧ Hid (wx.heap[s]? = some (.cells #[.int .i64 2, .int .i64 10, .int .i64 8, .int .i64 4, .int .i64 32] 29 (0, 0))) ∧ Hid (wx.ownsRow w13.heap.size 38 3 (.slice pa (planOf dn).length pc) (planOf dn).length ((planOf dn).flatMap Img.cells)) ∧ Hid (Chg No w wx)) (fun iv _ => times.length - (intOf iv).toNat)
      case atStart => exact ⟨0, D4, Nat.zero_le _, rfl, HS7, Lib.hid HS6.out.on, Lib.hid HS6.out.free, Lib.hid HS6.out.szd, Lib.hid (HS6.out.fit.le (by omega)), HY14, HB14, HO14, HC14⟩
      case round =>
        obtain ⟨k, D, hk, rfl, HJ, HON, HAR, HSZ, HFT, HYk, HBk, HOk, HCk⟩ := hrel
        by_cases hlt : k < times.length
        · obtain ⟨tb, toff, rfl, tcell⟩ : ∃ tb toff, a1 = some ⟨tb, toff, none⟩ ∧ w.cell? ⟨tb, toff + k, none⟩ = some (.int .i64 (times.getD k 0)) := by
            rcases HT.out with ⟨_, hn⟩ | ⟨g', off', c', hv, hc⟩
            · rw [hn] at hlt; simp at hlt
            · simp only [Value.slice.injEq] at hv
              exact ⟨g', off', hv.1, hc k hlt⟩
          have d0 := HCk.out.cell tcell id
          obtain ⟨t, ht⟩ : ∃ t, times.getD k 0 = t := ⟨_, rfl⟩
          rw [ht] at d0
          clear tcell ht
          go_wp2_with fail
          have HKEEP := Lib.hid (show ReadsInts wr (.slice a2 keep.length c2) keep by
            rcases HKP.out with hh | ⟨g', off', c', hv, hcs⟩
            · exact .inl hh
            · exact .inr ⟨g', off', c', hv, fun j hj => HCk.out.cell (hcs j hj) id⟩)
          have HB15 := Lib.hid (show bits .and .i64 t 15 ≤ 1000 by rw [and15]; omega)
          generalize bits .and .i64 t 15 = nn at HB15 ⊢
          clear d0
          refine (sysArm HYk.out nn _ keep HKEEP.out (by omega)).mono ?_
          rintro e w20 ⟨rfl, hy, hc⟩
          have HC20 := Lib.hid (HCk.out.trans hc (fun k hk => .inr (HKK2.out.out k hk)))
          have HB20 := Lib.hid (kept hc HKK2.out.sh HBk.out)
          have HY20 := Lib.hid hy
          have HO20 := Lib.hid (hc.row HOk.out (fun k hk hn => hn (HKK2.out.own k hk)))
          clear hy hc
          have HJ20 := Lib.hid (HJ.out.arm nn keep)
          have HF20 := Lib.hid (arm_fitN HFT.out nn HB15.out keep (by omega))
          have HS20 := Lib.hid (arm_szd HSZ.out nn keep)
          have HON20 := Lib.hid (show (D.arm nn keep).on = true from HON.out)
          generalize D.arm nn keep = D20 at HY20 HJ20 HF20 HS20 HON20
          obtain ⟨q0, q1, q2, q3, q4⟩ := cells5 HB20.out
          go_wp2_with fail
          refine (sysRun HY20.out HS20.out HF20.out (by omega) 1 9 2 20).mono ?_
          rintro e w21 ⟨rfl, hy, hc⟩
          have HC21 := Lib.hid (HC20.out.trans hc (fun k hk => .inr (HKK2.out.out k hk)))
          have HB21 := Lib.hid (kept hc HKK2.out.sh HB20.out)
          have HY21 := Lib.hid hy
          have HO21 := Lib.hid (hc.row HO20.out (fun k hk hn => hn (HKK2.out.own k hk)))
          clear hy hc
          have HJ21 := Lib.hid (HJ20.out.run HON20.out HW.out (areaOf_len dn HDN.out) (by rw [HRI.out])).1
          have HF21 := Lib.hid (run_fitN (N := 100000 * (7 - (k + 1))) sh0_ok HS20.out.now 1 9 2 20 (HF20.out.le (by omega)))
          have HS21 := Lib.hid (run_szd HS20.out sh0 1 9 2 20)
          obtain ⟨rr, hrr⟩ : ∃ rr, D20.run sh0 1 9 2 20 = rr := ⟨_, rfl⟩
          rw [hrr] at HY21 HJ21 HF21 HS21 ⊢
          obtain ⟨rc, rn, D21⟩ := rr
          clear hrr q0 q1 q2 q3 q4
          go_wp2_with fail
          refine (sysArm HY21.out (-1) (.slice none 0 0) [] (.inl ⟨rfl, rfl⟩) (by decide)).mono ?_
          rintro e w22 ⟨rfl, hy, hc⟩
          have HC22 := Lib.hid (HC21.out.trans hc (fun k hk => .inr (HKK2.out.out k hk)))
          have HB22 := Lib.hid (kept hc HKK2.out.sh HB21.out)
          have HY22 := Lib.hid hy
          have HO22 := Lib.hid (hc.row HO21.out (fun k hk hn => hn (HKK2.out.own k hk)))
          clear hy hc
          have HJ22 := Lib.hid (HJ21.out.arm (-1) [])
          have HF22 := Lib.hid (arm_fitN HF21.out (-1) (by omega) [] (by decide))
          have HS22 := Lib.hid (arm_szd HS21.out (-1) [])
          have HA22 := Lib.hid (show (D21.arm (-1) []).armed = false from rfl)
          generalize D21.arm (-1) [] = D22 at HY22 HJ22 HF22 HS22 HA22
          go_wp2_with fail
          refine (sysRestore HY22.out (by rw [HJ22.out.size]; decide)).mono ?_
          rintro e w23 ⟨rfl, hy, hc⟩
          have HC23 := Lib.hid (HC22.out.trans hc (fun k hk => .inr (HKK2.out.out k hk)))
          have HB23 := Lib.hid (kept hc HKK2.out.sh HB22.out)
          have HY23 := Lib.hid hy
          have HO23 := Lib.hid (hc.row HO22.out (fun k hk hn => hn (HKK2.out.own k hk)))
          clear hy hc
          have HJ23 := Lib.hid HJ22.out.restore
          go_wp2_with fail
          exact ⟨⟨k + 1, { D22 with on := true }, hlt, by go_num, HJ23, Lib.hid rfl, Lib.hid HA22.out, Lib.hid (restore_szd HS22.out), Lib.hid (restore_fitN HF22.out), HY23, HB23, HO23, HC23⟩, by simp [intOf]; omega⟩
        · obtain rfl : k = times.length := by omega
          obtain ⟨r1, r2⟩ := HJ.out.run HON.out HW.out (areaOf_len dn HDN.out) (by rw [HRI.out])
          obtain ⟨r3, r4, r5, r6⟩ := r2 HAR.out
          have HF24 := Lib.hid (run_fitN (N := 80000) sh0_ok HSZ.out.now 1 9 2 20 (HFT.out.le (by omega)))
          have HS24 := Lib.hid (run_szd HSZ.out sh0 1 9 2 20)
          have HJ24 := Lib.hid r1
          have HR3 := Lib.hid r3
          have HR4 := Lib.hid r4
          have HR6 := Lib.hid r6
          clear r1 r2 r3 r4 r5 r6
          obtain ⟨q0, q1, q2, q3, q4⟩ := cells5 HBk.out
          go_wp2_with fail
          refine (sysRun HYk.out HSZ.out HFT.out (by omega) 1 9 2 20).mono ?_
          rintro e w24 ⟨rfl, hy, hc⟩
          have HC24 := Lib.hid (HCk.out.trans hc (fun k hk => .inr (HKK2.out.out k hk)))
          have HB24 := Lib.hid (kept hc HKK2.out.sh HBk.out)
          have HY24 := Lib.hid hy
          have HO24 := Lib.hid (hc.row HOk.out (fun k hk hn => hn (HKK2.out.own k hk)))
          clear hy hc q0 q1 q2 q3 q4
          obtain ⟨rr, hrr⟩ : ∃ rr, D.run sh0 1 9 2 20 = rr := ⟨_, rfl⟩
          rw [hrr] at HY24 HJ24 HF24 HS24 HR3 HR4 HR6 ⊢
          obtain ⟨rc, rn, D5⟩ := rr
          obtain rfl : rc = 0 := HR3.out
          clear hrr
          obtain ⟨q0, q1, q2, q3, q4⟩ := cells5 HB24.out
          go_wp2_with fail
          refine (sysScan HY24.out HS24.out HF24.out 1).mono ?_
          rw [HJ24.out.scan0 HR4.out HR6.out]
          rintro e w25 ⟨sv, ps2, rfl, hr, hps, hc⟩
          obtain rfl := List.map_eq_nil_iff.1 hps
          obtain ⟨sa2, sc2, rfl⟩ : ∃ a c, sv = .slice a 0 c := by
            rcases hr.1.2 with ⟨rfl, _⟩ | ⟨g', cap, cur, rfl, _⟩
            · exact ⟨_, _, rfl⟩
            · exact ⟨_, _, rfl⟩
          have HC25 := Lib.hid (HC24.out.trans_same hc)
          have HB25 := Lib.hid (hc.obj HB24.out id)
          have HY25 := Lib.hid (HY24.out.no hc)
          have HO25 := Lib.hid (hc.row HO24.out (fun _ _ => id))
          clear hr hps hc q0 q1 q2 q3 q4
          go_wp2_with fail
          go_loopw [25] (fun iv wx => ∃ k : Nat, k ≤ (planOf dn).length ∧ iv = .int .i64 k ∧ Hid (Sy K2 wx bd g D5 L2) ∧ Hid (wx.heap[s]? = some (.cells #[.int .i64 2, .int .i64 10, .int .i64 8, .int .i64 4, .int .i64 32] 29 (0, 0))) ∧ Hid (wx.ownsRow w13.heap.size 38 3 (.slice pa (planOf dn).length pc) (planOf dn).length ((planOf dn).flatMap Img.cells)) ∧ Hid (Chg No w wx)) (fun iv _ => (planOf dn).length - (intOf iv).toNat)
          case atStart => exact ⟨0, Nat.zero_le _, rfl, HY25, HB25, HO25, HC25⟩
          case round =>
            obtain ⟨k, hk, rfl, HYm, HBm, HOm, HCm⟩ := hrel
            by_cases hlt : k < (planOf dn).length
            · obtain ⟨g2, o2, hg2, hcs⟩ : ∃ g2 off, pa = some ⟨g2, off, none⟩ ∧ ∀ j (h : j < (planOf dn).length), wr.cell? ⟨g2, off + j * 3, none⟩ = some (.int .i64 (planOf dn)[j].block) ∧ wr.cell? ⟨g2, off + j * 3 + 1, none⟩ = some (.int .u64 (planOf dn)[j].version) ∧ wr.cell? ⟨g2, off + j * 3 + 2, none⟩ = some (S (planOf dn)[j].data) := by
                rcases imgsAt_of_row HOm.out with ⟨hv, hn⟩ | ⟨g', off', c', hv, hj⟩
                · rw [hn] at hlt; simp at hlt
                · simp only [Value.slice.injEq] at hv
                  exact ⟨g', off', hv.1, hj⟩
              subst hg2
              obtain ⟨d0, d1, d2⟩ := hcs k hlt
              obtain ⟨x, hx⟩ : ∃ x, (planOf dn)[k] = x := ⟨_, rfl⟩
              have hxm : x ∈ planOf dn := by rw [← hx]; exact List.getElem_mem hlt
              have HLD := Lib.hid (HJ24.out.loads HR4.out HR6.out HW.out hxm)
              rw [hx] at d0 d1 d2
              obtain ⟨xb, xv, xd⟩ := x
              simp only at d0 d1 d2
              have HD0 := Lib.hid d0
              have HD1y := Lib.hid d1
              have HD2y := Lib.hid d2
              obtain ⟨q0, q1, q2, q3, q4⟩ := cells5 HBm.out
              have lg := World.block_lt_of_cell? wr _ d0
              have ls := World.block_lt_of_cell? wr _ q0
              have HLC := Lib.hid (show ∀ W, Chg No wr W → Calls Tryz.prog 21 #[.pointer (some ⟨bd, 0, none⟩), .agg #[.int .i64 2, .int .i64 10, .int .i64 8, .int .i64 4, .int .i64 32], .int .i64 xb] W (fun e w' => e = .returned (.tuple #[.agg #[.int .i64 xb, .int .u64 xv, S xd], .int .i64 0]) ∧ Chg No W w') from fun W hW => by
                have h := sysLoad (HYm.out.no hW) HS24.out HF24.out xb
                rw [HLD.out] at h
                exact h)
              have n1 : s ≠ wr.heap.size := Nat.ne_of_lt ls
              have n2 : g2 ≠ wr.heap.size := Nat.ne_of_lt lg
              have n3 : wr.heap.size ≠ s := n1.symm
              have n4 : wr.heap.size ≠ g2 := n2.symm
              clear hcs hx hxm d1 d2
              go_upto_region 38 with (fail)
              go_cut [26, 27] from 186 to 196 (fun x y wx => ∃ B, x = .pointer (some ⟨B, 0, none⟩) ∧ y = .int .i64 0 ∧ Hid (wx.heap[B]? = some (.cells #[.int .i64 xb, .int .u64 xv, S xd] 38 (0, 0))) ∧ Hid (Chg No wr wx))
              case first =>
                go_region_held3 (fun w' => w'.cell? ⟨s, 0, none⟩ = some (.int .i64 2) ∧ w'.cell? ⟨s, 1, none⟩ = some (.int .i64 10) ∧ w'.cell? ⟨s, 2, none⟩ = some (.int .i64 8) ∧ w'.cell? ⟨s, 3, none⟩ = some (.int .i64 4) ∧ w'.cell? ⟨s, 4, none⟩ = some (.int .i64 32) ∧ w'.cell? ⟨g2, o2 + k * 3, none⟩ = some (.int .i64 xb)) (go_keep)
                  (first | (go_at_call 21; (refine Calls.mono (HLC.out _ (by first | exact (Chg.refl No wr).drew | exact ((Chg.refl No wr).alloc _).drew)) ?_); rintro e w26 ⟨rfl, hc26⟩; have hk2 : ∀ o, w26.cell? ⟨s, o, none⟩ = wr.cell? ⟨s, o, none⟩ := fun o => World.cell?_of_block ((show Chg No wr w26 from (by first | exact ((Chg.refl No wr).drew.trans_same hc26) | exact (((Chg.refl No wr).alloc _).drew.trans_same hc26))).block s ls id); have hk3 : ∀ o, w26.cell? ⟨g2, o, none⟩ = wr.cell? ⟨g2, o, none⟩ := fun o => World.cell?_of_block ((show Chg No wr w26 from (by first | exact ((Chg.refl No wr).drew.trans_same hc26) | exact (((Chg.refl No wr).alloc _).drew.trans_same hc26))).block g2 lg id); have hq3 : ∀ j o, j < _ → w26.cell? ⟨j, o, none⟩ = _ := fun j o hj => World.cell?_of_block (hc26.block j hj id); have hr3 : ∀ j o, j < _ → w26.frozen? ⟨j, o, none⟩ = _ := fun j o hj => World.frozen?_of_block (hc26.block j hj id)))
                all_goals
                  have HC26 := Lib.hid hc26
                  clear hk2 hk3 hq3 hr3 hc26
                  go_wp2_with fail
                  go_meet
                all_goals first
                  | exact ⟨w26.heap.size, rfl, rfl, Lib.hid (blk_new _ _), Lib.hid (((Chg.refl No wr).drew.trans_same HC26.out).alloc _)⟩
                  | exact ⟨wr.heap.size, rfl, rfl, Lib.hid (set3_blk (HC26.out.obj (blk_new wr _) id) _ _ _), Lib.hid ((((Chg.refl No wr).alloc _).drew.trans_same HC26.out).set3 (.inr (Nat.le_refl _)) _ _ _)⟩
              case rest =>
                obtain ⟨B, rfl, rfl, HBB, HCB⟩ := hcut
                clear d0 q0 q1 q2 q3 q4 n1 n2 n3 n4 lg ls
                rename World => W5
                have d0 := HCB.out.cell HD0.out id
                have d1 := HCB.out.cell HD1y.out id
                have d2 := HCB.out.cell HD2y.out id
                obtain ⟨b0, b1, b2, _, _, _⟩ := cells3 HBB.out
                go_upto_region 39 with (fail)
                go_cut [206] from 197 to 205 (fun x wx => x = .bool false ∧ Hid (Chg No wr wx))
                case first =>
                  go_region
                  go_wp2_with fail
                  go_meet
                  exact ⟨rfl, Lib.hid HCB.out.drew⟩
                case rest =>
                  obtain ⟨rfl, HC6⟩ := hcut
                  clear d0 d1 d2 b0 b1 b2
                  have hpm : (planOf dn).length ≤ 9223372036854775807 := by
                    rcases HOm.out.2 with ⟨_, hn⟩ | ⟨_, cap, _, _, _, _, hle, hm, _⟩
                    · omega
                    · unfold maxLen at hm
                      omega
                  go_wp2_with fail
                  exact ⟨⟨k + 1, hlt, by go_num, Lib.hid (HYm.out.no HC6.out), Lib.hid (HC6.out.obj HBm.out id), Lib.hid (HC6.out.row HOm.out (fun _ _ => id)), Lib.hid (HCm.out.trans_same HC6.out)⟩, by simp [intOf]; omega⟩
            · obtain rfl : k = (planOf dn).length := by omega
              go_wp2_with fail
              refine alive_ok.mono ?_
              rintro e w30 ⟨rfl, hc⟩
              have HC30 := Lib.hid (HCm.out.trans_same hc)
              clear hc
              go_wp2_with fail
              go_ret
              exact ⟨rfl, HC30.out⟩
end
end Go.Proofs.YtmmnjecaedmleaaGreatDoor

/- What came in: structs, slices of whole numbers, slices of images. -/
namespace Go.Proofs.YtmmnjecaedmleaaGreatDoor
open Go.RowKit Go.ChangeShapes Go.WideShapes

noncomputable def fsOf (t : TypeId) : Array Field := match Tryz.prog.underlying t with
  | some (.struct fs) => fs
  | _ => #[]
/-- Field i of struct t: its type, and where it lies. -/
def FldAt (t i ft o : Nat) : Prop := ((fsOf t)[i]?.map fun f => (f.type, f.offset)) = some (ft, o)
theorem one_at {cs : List Value} {o : Nat} {v : Value} (h : (cs.drop o).take 1 = [v]) : cs[o]? = some v := by
  have e : ((cs.drop o).take 1)[0]? = some v := by rw [h]; rfl
  rw [List.getElem?_take_of_lt (by omega), List.getElem?_drop, Nat.add_zero] at e
  exact e
theorem add_lit (b off j : Nat) : (⟨b, off, none⟩ : Addr).add j = ⟨b, off + j, none⟩ := by unfold Addr.add; split <;> simp_all
theorem S_of (s : ByteArray) : Value.string s = S s.data.toList := by simp
theorem spot_ok {P : Program} {w : World} {r : Reach} {base : Nat} {t e : TypeId} {a : Addr} {len cap : Nat} (ht : P.underlying t = some (.slice e)) (h : Value.okWide P w r base t (.slice (some a) len cap)) : a.spot = none := by
  unfold Value.okWide at h
  rw [ht] at h
  simp only at h
  unfold Cell.okWide at h
  rw [ht] at h
  simp only at h
  unfold Cell.ok at h
  rw [ht] at h
  exact h.2.2.2.1
theorem wf_un {n : Int} (h : (Lit.int .u64 n).wf = true) : 0 ≤ n ∧ n < 18446744073709551616 := by
  unfold Lit.wf at h
  simp only [Bool.and_eq_true, decide_eq_true_eq] at h
  have h1 : (0 : Int) ≤ n := h.1
  have h2 : n ≤ (18446744073709551615 : Int) := h.2
  omega
section
variable {H : Type} {enc : TypeId × Value → H} {W : World} {base : Nat} {spare : Nat → Bool} {held : Bool}
section
variable {t fuel : Nat} {cs : List Value} {x : DataW H × List MemPlace}
theorem fld_of (he : Tryz.prog.underlying t = some (.struct (fsOf t))) (h : DataW.trod enc Tryz.prog W base spare held fuel t cs = some x) {i ft o : Nat} (hf : FldAt t i ft o) :
    ∃ n y, DataW.trod enc Tryz.prog W base spare held n ft ((cs.drop o).take (Tryz.prog.cellsOf ft)) = some y := by
  obtain ⟨xs, n, _, _, _, hlen, hat⟩ := DataW.trod_struct he h
  unfold FldAt at hf
  obtain ⟨f, hf1, hf2⟩ := Option.map_eq_some_iff.1 hf
  simp only [Prod.mk.injEq] at hf2
  have hi : i < xs.length := by rw [hlen]; exact (Array.getElem?_eq_some_iff.1 hf1).1
  have h1 := hat i f hf1
  rw [hf2.1, hf2.2, List.getElem?_eq_getElem hi] at h1
  exact ⟨n, _, h1⟩
theorem fld_int {k : IntKind} (he : Tryz.prog.underlying t = some (.struct (fsOf t))) (h : DataW.trod enc Tryz.prog W base spare held fuel t cs = some x) {i ft o : Nat} (hf : FldAt t i ft o) (hu : Tryz.prog.underlying ft = some (.int k)) (hc : Tryz.prog.cellsOf ft = 1) :
    ∃ z, cs[o]? = some (.int k z) ∧ (Lit.int k z).wf = true := by
  obtain ⟨n, y, h1⟩ := fld_of he h hf
  rw [hc] at h1
  obtain ⟨z, e, _, wf⟩ := DataW.trod_int hu h1
  exact ⟨z, one_at e, wf⟩
theorem fld_str (he : Tryz.prog.underlying t = some (.struct (fsOf t))) (h : DataW.trod enc Tryz.prog W base spare held fuel t cs = some x) {i ft o : Nat} (hf : FldAt t i ft o) (hu : Tryz.prog.underlying ft = some .string) (hc : Tryz.prog.cellsOf ft = 1) :
    ∃ d : Bytes, cs[o]? = some (S d) ∧ d.length ≤ 9223372036854775807 := by
  obtain ⟨n, y, h1⟩ := fld_of he h hf
  rw [hc] at h1
  obtain ⟨s, e, _, hs⟩ := DataW.trod_string hu h1
  refine ⟨s.data.toList, ?_, ?_⟩
  · rw [← S_of]; exact one_at e
  · unfold maxLen at hs
    simpa using hs
end
theorem und_imgs : Tryz.prog.underlying 54 = some (.slice 38) := by kernel_rfl
theorem und_ints : Tryz.prog.underlying 55 = some (.slice 3) := by kernel_rfl
theorem und_i : Tryz.prog.underlying 3 = some (.int .i64) := by kernel_rfl
theorem und_u : Tryz.prog.underlying 36 = some (.int .u64) := by kernel_rfl
theorem und_s : Tryz.prog.underlying 9 = some .string := by kernel_rfl
theorem one_i : Tryz.prog.cellsOf 3 = 1 := by kernel_rfl
theorem one_u : Tryz.prog.cellsOf 36 = 1 := by kernel_rfl
theorem one_s : Tryz.prog.cellsOf 9 = 1 := by kernel_rfl
theorem und_img : Tryz.prog.underlying 38 = some (.struct (fsOf 38)) := by kernel_rfl
theorem img_f0 : FldAt 38 0 3 0 := by unfold FldAt; kernel_rfl
theorem img_f1 : FldAt 38 1 36 1 := by unfold FldAt; kernel_rfl
theorem img_f2 : FldAt 38 2 9 2 := by unfold FldAt; kernel_rfl
theorem img_3 : Tryz.prog.cellsOf 38 = 3 := by kernel_rfl
/-- A slice of images that came in, whatever there is of its spare. -/
theorem imgs_open {fuel : Nat} {a : Option Addr} {len cap : Nat} {x : DataW H × List MemPlace} (hs : ∀ y, a = some y → y.spot = none) (h : DataW.trod enc Tryz.prog W base spare held fuel 54 [.slice a len cap] = some x) :
    ∃ l : List Img, l.length = len ∧ ImgsA W a l ∧ (∀ x ∈ l, x.version < 18446744073709551616) ∧ (∀ x ∈ l, x.data.length ≤ 9223372036854775807) ∧ len ≤ 9223372036854775807 := by
  rcases Go.Deep.open_slice und_imgs h with ⟨hcs, _⟩ | ⟨y, l', c', m, n, D, Pl, hcs, _, hl, hm, hmm, _, hi⟩
  · simp only [List.cons.injEq, Value.slice.injEq, and_true] at hcs
    obtain ⟨rfl, rfl, rfl⟩ := hcs
    exact ⟨[], rfl, fun j hj => absurd hj (by simp), by simp, by simp, by omega⟩
  · simp only [List.cons.injEq, Value.slice.injEq, and_true] at hcs
    obtain ⟨rfl, rfl, rfl⟩ := hcs
    have hsp := hs y rfl
    obtain ⟨b, off, sp⟩ := y
    subst hsp
    rw [img_3] at hi
    have hone : ∀ i, i < len → ∃ z : Img, (W.cell? ⟨b, off + i * 3, none⟩ = some (.int .i64 z.block) ∧ W.cell? ⟨b, off + i * 3 + 1, none⟩ = some (.int .u64 z.version) ∧ W.cell? ⟨b, off + i * 3 + 2, none⟩ = some (S z.data)) ∧ z.version < 18446744073709551616 ∧ z.data.length ≤ 9223372036854775807 := by
      intro i hil
      obtain ⟨cs', h1, h2⟩ := hi i (by rw [hmm]; split <;> omega)
      obtain ⟨_, _, hat⟩ := World.cells?_some h1
      obtain ⟨z0, e0, _⟩ := fld_int und_img h2 img_f0 und_i one_i
      obtain ⟨z1, e1, w1⟩ := fld_int und_img h2 img_f1 und_u one_u
      obtain ⟨z2, e2, l2⟩ := fld_str und_img h2 img_f2 und_s one_s
      have hw := wf_un w1
      have a0 := hat 0 (by omega)
      have a1 := hat 1 (by omega)
      have a2 := hat 2 (by omega)
      rw [add_lit, add_lit] at a0 a1 a2
      refine ⟨⟨z0, z1.toNat, z2⟩, ⟨by rw [← e0]; exact a0, ?_, by rw [← e2]; exact a2⟩, by show z1.toNat < _; omega, l2⟩
      show W.cell? _ = some (.int .u64 (z1.toNat : Int))
      rw [Int.toNat_of_nonneg hw.1, ← e1]
      exact a1
    have : Inhabited Img := ⟨⟨0, 0, []⟩⟩
    obtain ⟨f, hf⟩ := Go.Deep.choose_lt (α := Img) hone
    refine ⟨(List.range len).map f, by simp, fun j hj => ?_, fun x hx => ?_, fun x hx => ?_, ?_⟩
    · have hj' : j < len := by simpa using hj
      refine ⟨b, off, rfl, ?_⟩
      simp only [List.getElem_map, List.getElem_range]
      exact (hf j hj').1
    · obtain ⟨i, hi2, rfl⟩ := List.mem_map.1 hx
      exact (hf i (List.mem_range.1 hi2)).2.1
    · obtain ⟨i, hi2, rfl⟩ := List.mem_map.1 hx
      exact (hf i (List.mem_range.1 hi2)).2.2
    · unfold maxLen at hm
      omega
/-- A slice of whole numbers that came in. -/
theorem ints_open {fuel : Nat} {a : Option Addr} {len cap : Nat} {x : DataW H × List MemPlace} (hs : ∀ y, a = some y → y.spot = none) (h : DataW.trod enc Tryz.prog W base spare held fuel 55 [.slice a len cap] = some x) :
    ∃ l : List Int, l.length = len ∧ ReadsInts W (.slice a len cap) l := by
  rcases Go.Deep.open_slice und_ints h with ⟨hcs, _⟩ | ⟨y, l', c', m, n, D, Pl, hcs, _, hl, hm, hmm, _, hi⟩
  · simp only [List.cons.injEq, Value.slice.injEq, and_true] at hcs
    obtain ⟨rfl, rfl, rfl⟩ := hcs
    exact ⟨[], rfl, .inl ⟨rfl, rfl⟩⟩
  · simp only [List.cons.injEq, Value.slice.injEq, and_true] at hcs
    obtain ⟨rfl, rfl, rfl⟩ := hcs
    have hsp := hs y rfl
    obtain ⟨b, off, sp⟩ := y
    subst hsp
    rw [one_i] at hi
    have hone : ∀ i, i < len → ∃ z : Int, W.cell? ⟨b, off + i, none⟩ = some (.int .i64 z) := by
      intro i hil
      obtain ⟨cs', h1, h2⟩ := hi i (by rw [hmm]; split <;> omega)
      obtain ⟨_, _, hat⟩ := World.cells?_some h1
      obtain ⟨z, e, _⟩ := DataW.trod_int und_i h2
      have a0 := hat 0 (by omega)
      rw [add_lit, add_lit, e] at a0
      exact ⟨z, by simpa using a0⟩
    obtain ⟨f, hf⟩ := Go.Deep.choose_lt (α := Int) hone
    refine ⟨(List.range len).map f, by simp, .inr ⟨b, off, cap, by simp, fun j hj => ?_⟩⟩
    have hj' : j < len := by simpa using hj
    rw [hf j hj']
    simp [List.getD, hj']
end
end Go.Proofs.YtmmnjecaedmleaaGreatDoor
