import Derived.Test.YtmmnjecaedmleaaGreatDoorM30
import Derived.Deep.CutBlock

/- law13.RedoNewer: contract, at short slices. -/
namespace Go.Proofs.YtmmnjecaedmleaaGreatDoor
open Go.RowKit
attribute [local go_sem ↓] Go.wp_at_zero Go.wp_at_succ

theorem oneDrop (n : Nat) : (100 : UInt8) :: (oneData n).drop 1 = 100 :: zs 95 := rfl
theorem wrapN {c : Nat} (h : c < 1000) : Value.int .i64 (wrap64 ((c : Int) + 1)) = .int .i64 ((c + 1 : Nat) : Int) := by
  have e : wrap64 ((c : Int) + 1) = (c : Int) + 1 := by unfold wrap64; omega
  rw [e]; rfl
section
variable {w : World}
set_option maxHeartbeats 12800000 in
set_option maxRecDepth 100000 in
theorem Redo_small (a0 a1 : Option Addr) (cap0 cap1 : Nat) (vs was : List Nat) (hs0 : ¬ 4 < vs.length) (hs1 : ¬ 4 < was.length) (hv0 : ∀ i, vs.getD i 0 < 18446744073709551616) (hv1 : ∀ i, was.getD i 0 < 18446744073709551616) (hu0 : U64s w a0 vs) (hu1 : U64s w a1 was) :
    Calls Tryz.prog 3 #[.slice a0 vs.length cap0, .slice a1 was.length cap1] w fun e w' => e = .returned (.bool true) ∧ Chg No w w' := by
  have HU0 := Lib.hid hu0
  have HU1 := Lib.hid hu1
  have HV0 := Lib.hid hv0
  have HV1 := Lib.hid hv1
  obtain ⟨D1, hd1, hp1⟩ := P1_start was
  have HD1 := Lib.hid hd1
  have HP1 := Lib.hid hp1
  clear hu0 hu1 hv0 hv1 hd1 hp1
  obtain ⟨K, hK⟩ : ∃ K : Nat → Prop, K = fun k => k < w.heap.size := ⟨_, rfl⟩
  have HK := Lib.hid hK
  clear hK
  go_enter Tryz.func3, Tryz.ntmps3
  go_wp2_with fail
  refine (sysReady (K := K) (fun k h => by rw [HK.out] at h; exact h)).mono ?_
  rintro e w1 ⟨bd, br, rfl, hy1, hc1⟩
  rw [show sh0.val = .agg #[.int .i64 2, .int .i64 10, .int .i64 8, .int .i64 4, .int .i64 32] from rfl]
  go_wp2_with fail
  generalize hW : w1.alloc (.cells #[.int .i64 2, .int .i64 10, .int .i64 8, .int .i64 4, .int .i64 32] 29) = w2
  have hB : w2.heap[w1.heap.size]? = some (.cells #[.int .i64 2, .int .i64 10, .int .i64 8, .int .i64 4, .int .i64 32] 29 (0, 0)) := by rw [← hW]; exact blk_new _ _
  have hc2 : Chg No w1 w2 := by rw [← hW]; exact (Chg.refl _ _).alloc _
  obtain ⟨s, hs⟩ : ∃ s, s = w1.heap.size := ⟨_, rfl⟩
  have hy2 : Sy0 (Kadd K s) w2 bd Dk.ready := hy1.add hc2 (by rw [hs]; exact Nat.le_refl _) (by rw [hs]; exact blk_lt hB)
  rw [← hs] at hB ⊢
  have HKs := Lib.hid (show Kadd K s s from .inr rfl)
  have HB2 := Lib.hid hB
  have HC2 := Lib.hid (hc1.trans_same hc2)
  have HY2 := Lib.hid hy2
  clear hW hs hB hc1 hc2 hy1 hy2
  refine (sysOpen HY2.out (N := 100) (ready_up.1.fit.le (by omega)) HD1.out).mono ?_
  rintro e w3 ⟨g, rfl, hy3, hc3⟩
  have HKO := Lib.hid (show ∀ k, Kp (Kadd K s) k → w.heap.size ≤ k from fun k hk => by
    have h : ¬ K k := fun h => hk (.inl h)
    rw [HK.out] at h
    exact Nat.le_of_not_lt h)
  have HC3 := Lib.hid (HC2.out.trans hc3 (fun k hk => .inr (HKO.out k hk)))
  have HB3 := Lib.hid (kept hc3 HKs.out HB2.out)
  have HY3 := Lib.hid hy3
  clear hy3 hc3
  go_wp2_with fail
  go_loopw [11] (fun iv wr => ∃ (i : Nat) (D : Dk), i ≤ was.length ∧ iv = .int .i64 i ∧ Hid (P1 was i D) ∧ Hid (Sy (Kadd K s) wr bd g D (Lg.new sh0 1 9 1)) ∧ Hid (wr.heap[s]? = some (.cells #[.int .i64 2, .int .i64 10, .int .i64 8, .int .i64 4, .int .i64 32] 29 (0, 0))) ∧ Hid (Chg No w wr)) (fun iv _ => was.length - (intOf iv).toNat)
  case atStart => exact ⟨0, D1, Nat.zero_le _, rfl, HP1, HY3, HB3, HC3⟩
  case round =>
    obtain ⟨i, D, hi, rfl, HP, HY, HB, HC⟩ := hrel
    by_cases hlt : i < was.length
    · obtain ⟨bb, off, rfl, hc0⟩ := HU1.out i hlt
      have hc1 := HC.out.cell hc0 id
      obtain ⟨v, hv⟩ : ∃ v, was.getD i 0 = v := ⟨_, rfl⟩
      rw [hv] at hc1
      have HVv := Lib.hid hv
      clear hc0 hv
      go_wp2_with fail
      refine (One_ok i v (by omega)).mono ?_
      rintro e w4 ⟨rfl, hc4⟩
      rw [oneVal]
      have hc5 := hc4.cell hc1 id
      have hz5 := World.block_lt_of_cell? w4 _ hc5
      have hb5 := hc4.obj HB.out id
      obtain ⟨c0, c1, c2, c3, c4⟩ := cells5 hb5
      have hz6 := World.block_lt_of_cell? w4 _ c0
      have HB5 := Lib.hid hb5
      have HC5 := Lib.hid (HC.out.trans_same hc4)
      have HY5 := Lib.hid (HY.out.no hc4)
      obtain ⟨q, hq⟩ : ∃ q, q = oneData i := ⟨_, rfl⟩
      have hql : q.length = 96 := by rw [hq]; exact oneData_length i
      have hqs := slice_from q 1 1 rfl (by omega)
      rw [show q.drop 1 = zs 95 by rw [hq]; rfl] at hqs
      rw [← hq]
      clear hc1 hc4 hb5 hq
      by_cases hpos : 0 < v
      · obtain ⟨D', hst, hp'⟩ := P1_store HP.out (by omega) (HV1.out i)
        rw [HVv.out] at hst
        have HST := Lib.hid hst
        have HP' := Lib.hid hp'
        clear hst hp'
        go_wp2_with fail
        refine (sysStore (HY5.out.no ((Chg.refl No w4).alloc _)) HP.out.up.fit 1 9 (dImg i v)).mono ?_
        rw [HST.out]
        rintro e w6 ⟨rfl, hy6, hc6⟩
        have HY6 := Lib.hid hy6
        have HB6 := Lib.hid (kept hc6 HKs.out (blk_alloc _ HB5.out))
        have HC6 := Lib.hid ((HC5.out.alloc _).trans hc6 (fun k hk => .inr (HKO.out k hk)))
        clear hy6 hc6 c0 c1 c2 c3 c4 hqs hc5
        go_wp2_with fail
        exact ⟨⟨i + 1, D', hlt, by go_num, HP', HY6, HB6, HC6⟩, by simp [intOf]; omega⟩
      · have h0 : was.getD i 0 = 0 := by rw [HVv.out]; omega
        have HP' := Lib.hid (P1_skip HP.out h0)
        clear h0
        go_wp2_with fail
        exact ⟨⟨i + 1, D, hlt, by go_num, HP', Lib.hid (HY5.out.no ((Chg.refl No w4).alloc _)), Lib.hid (blk_alloc _ HB5.out), Lib.hid (HC5.out.alloc _)⟩, by simp [intOf]; omega⟩
    · obtain rfl : i = was.length := by omega
      go_upto_block 2 with fail
      go_cut [13, 14, 15, 16] from 87 to 108 (fun nv xv yv zv wx => ∃ n : Nat, n ≤ 2 ∧ n ≤ vs.length ∧ nv = .int .i64 n ∧ Hid (Sy (Kadd K s) wx bd g D (logS (ones vs n))) ∧ Hid (wx.heap[s]? = some (.cells #[.int .i64 2, .int .i64 10, .int .i64 8, .int .i64 4, .int .i64 32] 29 (0, 0))) ∧ Hid (Chg No w wx))
      case first =>
        go_wp2_with fail
        go_loopw [13, 14] (fun nv iv wx => ∃ k : Nat, k ≤ 2 ∧ k ≤ vs.length ∧ iv = .int .i64 k ∧ nv = .int .i64 k ∧ Hid (Sy (Kadd K s) wx bd g D (logS (ones vs k))) ∧ Hid (wx.heap[s]? = some (.cells #[.int .i64 2, .int .i64 10, .int .i64 8, .int .i64 4, .int .i64 32] 29 (0, 0))) ∧ Hid (Chg No w wx)) (fun _ iv _ => vs.length - (intOf iv).toNat)
        case atStart => exact ⟨0, by omega, by omega, rfl, rfl, HY, HB, HC⟩
        case round =>
          rename_i wo _
          obtain ⟨k, hk2, hkl, rfl, rfl, HYk, HBk, HCk⟩ := hrel
          by_cases hlt2 : k < vs.length
          · obtain ⟨bb, off, rfl, hc0⟩ := HU0.out k hlt2
            have hc1 := HCk.out.cell hc0 id
            obtain ⟨v, hv⟩ : ∃ v, vs.getD k 0 = v := ⟨_, rfl⟩
            rw [hv] at hc1
            have HVv := Lib.hid hv
            have HVb := Lib.hid (show v < 18446744073709551616 by rw [← hv]; exact HV0.out k)
            clear hc0 hv
            go_wp2_with fail
            refine (One_ok k v (by omega)).mono ?_
            rintro e w4 ⟨rfl, hc4⟩
            rw [oneVal]
            have HB4 := Lib.hid (hc4.obj HBk.out id)
            have HC4 := Lib.hid (HCk.out.trans_same hc4)
            have HY4 := Lib.hid (HYk.out.no hc4)
            clear hc1 hc4
            have hfx := (oneImg_fine k v (by omega) HVb.out).1
            by_cases hk : k < 2
            · have HA := Lib.hid (add_yes1 (ones vs k) (oneImg k v) hfx (by rw [ones_len]; omega))
              clear hfx
              go_wp2_with fail
              generalize hW : w4.alloc _ = w5
              have hc5 : Chg No w4 w5 := by rw [← hW]; exact (Chg.refl _ _).alloc _
              have hx5 : w5.heap[w4.heap.size]? = some (.cells #[.int .i64 k, .int .u64 v, S (oneData k)] 38 (0, 0)) := by rw [← hW]; exact blk_new _ _
              have HC5 := Lib.hid (HC4.out.trans_same hc5)
              have HB5 := Lib.hid (hc5.obj HB4.out id)
              have HY5 := Lib.hid (HY4.out.no hc5)
              have HV5 := Lib.hid (imgs_one (x := oneImg k v) (c := 1) (cell_of_blk hx5 0 rfl) (cell_of_blk hx5 1 rfl) (cell_of_blk hx5 2 rfl))
              clear hc5 hW hx5
              refine (sysAdd HY5.out (logS_fit1 (ones vs k) (by rw [ones_len]; omega)) rfl _ [oneImg k v] HV5.out (by show 1 ≤ 1000000; omega)).mono ?_
              rw [HA.out]
              rintro e w6 ⟨rfl, hy, hc⟩
              have HC6 := Lib.hid (HC5.out.trans hc (fun k hk => .inr (HKO.out k hk)))
              have HB6 := Lib.hid (kept hc HKs.out HB5.out)
              have HY6 := Lib.hid (show Sy (Kadd K s) w6 bd g D (logS (ones vs (k + 1))) by rw [ones_succ, HVv.out]; exact hy)
              clear hy hc
              go_wp2_with fail
              exact ⟨⟨k + 1, by omega, hlt2, by go_num, by go_num, HY6, HB6, HC6⟩, by simp [intOf]; omega⟩
            · obtain rfl : k = 2 := by omega
              have HA := Lib.hid (add_full1 (ones vs 2) (oneImg 2 v) hfx (by rw [ones_len]; omega))
              clear hfx
              go_wp2_with fail
              generalize hW : w4.alloc _ = w5
              have hc5 : Chg No w4 w5 := by rw [← hW]; exact (Chg.refl _ _).alloc _
              have hx5 : w5.heap[w4.heap.size]? = some (.cells #[.int .i64 (2 : Nat), .int .u64 v, S (oneData 2)] 38 (0, 0)) := by rw [← hW]; exact blk_new _ _
              have HC5 := Lib.hid (HC4.out.trans_same hc5)
              have HB5 := Lib.hid (hc5.obj HB4.out id)
              have HY5 := Lib.hid (HY4.out.no hc5)
              have HV5 := Lib.hid (imgs_one (x := oneImg 2 v) (c := 1) (cell_of_blk hx5 0 rfl) (cell_of_blk hx5 1 rfl) (cell_of_blk hx5 2 rfl))
              clear hc5 hW hx5
              refine (sysAdd HY5.out (logS_fit1 (ones vs 2) (by rw [ones_len]; omega)) rfl _ [oneImg 2 v] HV5.out (by show 1 ≤ 1000000; omega)).mono ?_
              rw [HA.out]
              rintro e w6 ⟨rfl, hy, hc⟩
              have HC6 := Lib.hid (HC5.out.trans hc (fun k hk => .inr (HKO.out k hk)))
              have HB6 := Lib.hid (kept hc HKs.out HB5.out)
              have HY6 := Lib.hid hy
              clear hy hc
              go_wp2_with fail
              go_meet
              exact ⟨2, by omega, by omega, rfl, HY6, HB6, HC6⟩
          · go_wp2_with fail
            go_meet
            exact ⟨k, hk2, hkl, rfl, HYk, HBk, HCk⟩
      case rest =>
        obtain ⟨n, hn2, hnl, rfl, HY9, HB9, HC9⟩ := hcut
        obtain ⟨D2, L2, D2b, D3, D4, D5, e1, f1, e2, f2, e3, f3, e4, f4, e5, f5, e6, e7, e8⟩ := redo_law HP.out hn2 HV0.out
        have HE1 := Lib.hid e1
        have HE2 := Lib.hid e2
        have HE3 := Lib.hid e3
        have HE4 := Lib.hid e4
        have HE5 := Lib.hid e5
        have HE6 := Lib.hid e6
        have HE7 := Lib.hid e7
        have HE8 := Lib.hid e8
        have HF1 := Lib.hid f1
        have HF2 := Lib.hid f2
        have HF3 := Lib.hid f3
        have HF4 := Lib.hid f4
        have HF5 := Lib.hid f5
        clear e1 e2 e3 e4 e5 e6 e7 e8 f1 f2 f3 f4 f5
        go_wp2_with fail
        refine (sysSync HY9.out (logS_good (ones vs n) (by rw [ones_len]; omega)) (n := 2) (by show ((ones vs n).zipIdx.map _).length ≤ 2; rw [List.length_map, List.length_zipIdx, ones_len]; omega) HP.out.up.fit (by omega)).mono ?_
        rw [HE1.out]
        rintro e w10 ⟨rfl, hy, hc⟩
        have HC10 := Lib.hid (HC9.out.trans hc (fun k hk => .inr (HKO.out k hk)))
        have HB10 := Lib.hid (kept hc HKs.out HB9.out)
        have HY10 := Lib.hid hy
        clear hy hc
        go_wp2_with fail
        refine (sysBarrier HY10.out HF1.out.fit 1 9).mono ?_
        rw [HE2.out]
        rintro e w11 ⟨rfl, hy, hc⟩
        have HC11 := Lib.hid (HC10.out.trans hc (fun k hk => .inr (HKO.out k hk)))
        have HB11 := Lib.hid (kept hc HKs.out HB10.out)
        have HY11 := Lib.hid hy
        clear hy hc
        go_wp2_with fail
        refine (sysFence HY11.out HF2.out.fit 1).mono ?_
        rw [HE3.out]
        rintro e w12 ⟨rfl, hy, hc⟩
        have HC12 := Lib.hid (HC11.out.trans hc (fun k hk => .inr (HKO.out k hk)))
        have HB12 := Lib.hid (kept hc HKs.out HB11.out)
        have HY12 := Lib.hid hy
        clear hy hc
        go_wp2_with fail
        refine (sysAdmit HY12.out HF3.out.fit 2 11).mono ?_
        rw [HE4.out]
        rintro e w13 ⟨rfl, hy, hc⟩
        have HC13 := Lib.hid (HC12.out.trans hc (fun k hk => .inr (HKO.out k hk)))
        have HB13 := Lib.hid (kept hc HKs.out HB12.out)
        have HY13 := Lib.hid hy
        clear hy hc
        obtain ⟨c0, c1, c2, c3, c4⟩ := cells5 HB13.out
        go_wp2_with fail
        refine (sysRun HY13.out HF4.out.szd HF4.out.fit (by omega) 1 9 2 11).mono ?_
        rw [HE5.out]
        rintro e w14 ⟨rfl, hy, hc⟩
        have HC14 := Lib.hid (HC13.out.trans hc (fun k hk => .inr (HKO.out k hk)))
        have HB14 := Lib.hid (kept hc HKs.out HB13.out)
        have HY14 := Lib.hid hy
        clear hy hc
        clear c0 c1 c2 c3 c4
        have HLE := Lib.hid (cnt_le was vs n)
        go_wp2_with fail
        go_loopw [19, 20] (fun cv iv wx => ∃ k : Nat, k ≤ n ∧ iv = .int .i64 k ∧ cv = .int .i64 (cnt was vs k : Nat) ∧ Hid (Sy (Kadd K s) wx bd g D5 L2) ∧ Hid (wx.heap[s]? = some (.cells #[.int .i64 2, .int .i64 10, .int .i64 8, .int .i64 4, .int .i64 32] 29 (0, 0))) ∧ Hid (Chg No w wx)) (fun _ iv _ => n - (intOf iv).toNat)
        case atStart => exact ⟨0, Nat.zero_le _, rfl, rfl, HY14, HB14, HC14⟩
        case round =>
          obtain ⟨k, hkn, rfl, rfl, HYk, HBk, HCk⟩ := hrel
          by_cases hlt : k < n
          · have hlv : k < vs.length := by omega
            obtain ⟨u, hu⟩ : ∃ u, was.getD k 0 = u := ⟨_, rfl⟩
            obtain ⟨v, hv⟩ : ∃ v, vs.getD k 0 = v := ⟨_, rfl⟩
            have HU := Lib.hid hu
            have HV := Lib.hid hv
            clear hu hv
            go_upto_if 141 with (fail)
            go_cut [21] from 142 to 145 (fun x wx => x = .int .u64 u ∧ wx = wr)
            case first =>
              by_cases hlw : k < was.length
              · obtain ⟨bb, off, rfl, hc0⟩ := HU1.out k hlw
                have hc1 := HCk.out.cell hc0 id
                rw [HU.out] at hc1
                clear hc0
                go_wp2_with fail
                go_meet
                exact ⟨rfl, rfl⟩
              · have h0 : 0 = u := by rw [← HU.out, List.getD, List.getElem?_eq_none (by omega)]; rfl
                go_wp2_with fail
                go_meet
                exact ⟨by rw [← h0]; rfl, rfl⟩
            case rest =>
              obtain ⟨rfl, rfl⟩ := hcut
              obtain ⟨b0, o0, rfl, hc0⟩ := HU0.out k hlv
              obtain ⟨img, l1, l2, l3⟩ := HE8.out k hlt
              rw [HU.out, HV.out] at l2 l3
              rw [HV.out] at hc0
              have HX0 := Lib.hid hc0
              have HL1 := Lib.hid l1
              obtain ⟨c0, c1, c2, c3, c4⟩ := cells5 HBk.out
              clear hc0 l1
              by_cases hnew : u < v
              · obtain rfl := l3 hnew
                clear l2 l3
                go_wp2_with fail
                refine (sysLoad HYk.out HF5.out.szd HF5.out.fit k).mono ?_
                rw [HL1.out]
                rintro e w16 ⟨rfl, hc⟩
                rw [oneVal]
                have HC16 := Lib.hid (HCk.out.trans_same hc)
                have HB16 := Lib.hid (hc.obj HBk.out id)
                have HY16 := Lib.hid (HYk.out.no hc)
                have hx16 := HC16.out.cell HX0.out id
                have hz16 := World.block_lt_of_cell? w16 _ hx16
                clear hc c0 c1 c2 c3 c4
                go_upto_region 37 with (fail)
                generalize hW : w16.alloc _ = w17
                have hc17 : Chg No w16 w17 := by rw [← hW]; exact (Chg.refl _ _).alloc _
                have hx17 : w17.heap[w16.heap.size]? = some (.cells #[.int .i64 k, .int .u64 v, S (oneData k)] 38 (0, 0)) := by rw [← hW]; exact blk_new _ _
                obtain ⟨d0, d1, d2, _, _, _⟩ := cells3 hx17
                have hv17 := hc17.cell hx16 id
                have HC17 := Lib.hid (HC16.out.trans_same hc17)
                have HB17 := Lib.hid (hc17.obj HB16.out id)
                have HY17 := Lib.hid (HY16.out.no hc17)
                clear hW hc17 hx17 hx16 hz16
                have hmx : max (v : Int) (u : Int) = v := by omega
                go_cut [187] from 162 to 186 (fun x wx => x = .bool false ∧ Hid (Chg No w17 wx))
                case first =>
                  have lb := World.block_lt_of_cell? w17 _ hv17
                  have lx := World.block_lt_of_cell? w17 _ d0
                  go_region_held3 (fun w' => w'.cell? ⟨b0, o0 + k, none⟩ = some (.int .u64 v) ∧ w'.cell? ⟨w16.heap.size, 0, none⟩ = some (.int .i64 k) ∧ w'.cell? ⟨w16.heap.size, 1, none⟩ = some (.int .u64 v) ∧ w'.cell? ⟨w16.heap.size, 2, none⟩ = some (S (oneData k))) (go_keep)
                    (first | (go_at_call 13; (with_reducible refine (One_ok k v (by omega)).mono ?_); rw [oneVal]; rintro e w18 ⟨rfl, hc18⟩; have hk2 : ∀ o, w18.cell? ⟨b0, o, none⟩ = w17.cell? ⟨b0, o, none⟩ := fun o => World.cell?_of_block (hc18.block b0 lb id); have hk3 : ∀ o, w18.cell? ⟨w16.heap.size, o, none⟩ = w17.cell? ⟨w16.heap.size, o, none⟩ := fun o => World.cell?_of_block (hc18.block w16.heap.size lx id)))
                  go_wp2_with fail
                  go_meet
                  exact ⟨rfl, Lib.hid ((Chg.refl No w17).drew.trans_same hc18)⟩
                case rest =>
                  obtain ⟨rfl, HCx⟩ := hcut
                  have HLk := Lib.hid (cnt_le was vs k)
                  clear d0 d1 d2 hv17
                  go_wp2_with fail
                  exact ⟨⟨k + 1, hlt, by go_num, by rw [cnt_yes was vs k (by rw [HU.out, HV.out]; exact hnew)]; exact wrapN (by have := HLk.out; omega), Lib.hid (HY17.out.no HCx.out), Lib.hid (HCx.out.obj HB17.out id), Lib.hid (HC17.out.trans_same HCx.out)⟩, by simp [intOf]; omega⟩
              · obtain ⟨ib, iv, idt⟩ := img
                obtain rfl : iv = u := by
                  have : iv = max v u := l2
                  omega
                clear l2 l3
                go_wp2_with fail
                refine (sysLoad HYk.out HF5.out.szd HF5.out.fit k).mono ?_
                rw [HL1.out]
                rintro e w16 ⟨rfl, hc⟩
                rw [show Img.val ⟨ib, iv, idt⟩ = .agg #[.int .i64 ib, .int .u64 iv, S idt] from rfl]
                have HC16 := Lib.hid (HCk.out.trans_same hc)
                have HB16 := Lib.hid (hc.obj HBk.out id)
                have HY16 := Lib.hid (HYk.out.no hc)
                have hx16 := HC16.out.cell HX0.out id
                have hz16 := World.block_lt_of_cell? w16 _ hx16
                clear hc c0 c1 c2 c3 c4
                go_upto_region 37 with (fail)
                generalize hW : w16.alloc _ = w17
                have hc17 : Chg No w16 w17 := by rw [← hW]; exact (Chg.refl _ _).alloc _
                have hx17 : w17.heap[w16.heap.size]? = some (.cells #[.int .i64 ib, .int .u64 iv, S idt] 38 (0, 0)) := by rw [← hW]; exact blk_new _ _
                obtain ⟨d0, d1, d2, _, _, _⟩ := cells3 hx17
                have hv17 := hc17.cell hx16 id
                have HC17 := Lib.hid (HC16.out.trans_same hc17)
                have HB17 := Lib.hid (hc17.obj HB16.out id)
                have HY17 := Lib.hid (HY16.out.no hc17)
                clear hW hc17 hx17 hx16 hz16
                have hmx : max (v : Int) (iv : Int) = iv := by omega
                go_cut [187] from 162 to 186 (fun x wx => x = .bool false ∧ Hid (Chg No w17 wx))
                case first =>
                  go_region
                  go_wp2_with fail
                  go_meet
                  exact ⟨rfl, Lib.hid ((Chg.refl No w17).drew)⟩
                case rest =>
                  obtain ⟨rfl, HCx⟩ := hcut
                  have HLk := Lib.hid (cnt_le was vs k)
                  clear d0 d1 d2 hv17
                  go_wp2_with fail
                  exact ⟨⟨k + 1, hlt, by go_num, by rw [cnt_no was vs k (by rw [HU.out, HV.out]; exact hnew)], Lib.hid (HY17.out.no HCx.out), Lib.hid (HCx.out.obj HB17.out id), Lib.hid (HC17.out.trans_same HCx.out)⟩, by simp [intOf]; omega⟩
          · obtain rfl : k = n := by omega
            have HCN := Lib.hid (cnt_le was vs k)
            obtain ⟨c0, c1, c2, c3, c4⟩ := cells5 HBk.out
            go_wp2_with fail
            refine (sysRun HYk.out HF5.out.szd HF5.out.fit (by omega) 1 9 2 11).mono ?_
            rw [HE6.out]
            rintro e w20 ⟨rfl, hy, hc⟩
            have HC20 := Lib.hid (HCk.out.trans hc (fun k hk => .inr (HKO.out k hk)))
            have HB20 := Lib.hid (kept hc HKs.out HBk.out)
            have HY20 := Lib.hid hy
            clear hy hc c0 c1 c2 c3 c4
            obtain ⟨c0, c1, c2, c3, c4⟩ := cells5 HB20.out
            go_wp2_with fail
            refine (sysScan HY20.out HF5.out.szd HF5.out.fit 1).mono ?_
            rw [HE7.out]
            rintro e w21 ⟨sv, ps, rfl, hr, hps, hc⟩
            obtain rfl := List.map_eq_nil_iff.1 hps
            obtain ⟨sa, sc, rfl⟩ : ∃ a c, sv = .slice a 0 c := by
              rcases hr.1.2 with ⟨rfl, _⟩ | ⟨g, cap, cur, rfl, _⟩
              · exact ⟨_, _, rfl⟩
              · exact ⟨_, _, rfl⟩
            have HC21 := Lib.hid (HC20.out.trans_same hc)
            clear hr hps hc c0 c1 c2 c3 c4
            go_wp2_with fail
            refine alive_ok.mono ?_
            rintro e w22 ⟨rfl, hc⟩
            have HC22 := Lib.hid (HC21.out.trans_same hc)
            clear hc
            go_wp2_with fail
            go_ret
            exact ⟨rfl, HC22.out⟩
end
end Go.Proofs.YtmmnjecaedmleaaGreatDoor
