import Derived.Test.YtmmnjecaedmleaaGreatDoorM14
import Derived.Deep.DeepCutAuto

/- rec: Get: contract, the whole. -/
namespace Go.Proofs.YtmmnjecaedmleaaGreatDoor
open Go.RowKit
attribute [local go_sem ↓] Go.wp_at_zero Go.wp_at_succ

theorem recFirst_some {b : Bytes} {e n t : Nat} (h : recFirst b = some (e, n, t)) : 1 ≤ t ∧ t ≤ 60 ∧ 0 < e ∧ 0 < n := by
  unfold recFirst at h
  split at h
  · simp at h
  · split at h
    · simp at h
    · split at h
      · simp at h
      · rename_i hc
        simp only [Option.some.injEq, Prod.mk.injEq] at h
        obtain ⟨rfl, rfl, rfl⟩ := h
        have h4 : secs (secHead ((b.take 64).take 60)).2.2.2 ≠ 0 := fun h => hc (.inr (.inr (.inr h)))
        unfold secs at h4
        split at h4
        · rename_i h5
          exact ⟨h5.1, h5.2, by omega, by omega⟩
        · omega

section
variable {w : World}
set_option maxHeartbeats 3200000 in
set_option maxRecDepth 100000 in
theorem RecGet_some (b : Bytes) (hb : b.length ≤ 1000000) (e n t : Nat) (h : recFirst b = some (e, n, t)) : Calls Tryz.prog 85 #[S b] w (RecPost (recGetT b e n t) w) := by
  obtain ⟨t1, t60, he, hn⟩ := recFirst_some h
  unfold recGetT
  obtain ⟨m, hm⟩ : ∃ m, secs t = m := ⟨_, rfl⟩
  have hm42 : 108 * t ≤ 42 * m ∧ m ≤ 200 := by
    rw [← hm, secs, if_pos ⟨t1, t60⟩]
    omega
  rw [hm]
  obtain ⟨o, ho⟩ : ∃ o, (if b.length < 64 * m then none else if allSecs b e n t m = false then none else if recPut e n (imgsN (bodyN b m) t) = (b.take (64 * m), 0) then some (e, n, imgsN (bodyN b m) t, m) else none : Option (Nat × Nat × List Img × Nat)) = o := ⟨_, rfl⟩
  rw [ho]
  have HO := Lib.hid ho
  have HM := Lib.hid hm
  have H := Lib.hid h
  clear h ho hm
  go_enter Tryz.func85, Tryz.ntmps85
  go_wp2_with fail
  refine (first_ok b).mono ?_
  rw [H.out]
  rintro e' w1 ⟨rfl, hc1⟩
  have hk1 := hc1.obj (blk_new w _) id
  have HK1 := Lib.hid hk1
  have HC1 := Lib.hid (((Chg.refl No w).alloc _).trans_same hc1)
  have hwz := blk_lt hk1
  clear hk1 hc1
  go_wp2_with fail
  refine (Sectors_rec _ t).mono ?_
  rw [HM.out]
  rintro e' w2 ⟨rfl, rfl⟩
  obtain ⟨W, hW⟩ : ∃ W, W = w1.alloc (.cells #[.int .u64 e, .int .u64 n, .slice none 0 0] 62) := ⟨_, rfl⟩
  rw [← hW]
  have hkW : W.heap[w.heap.size]? = some (.cells #[.int .u64 0, .int .u64 0, .slice none 0 0] 62 (0, 0)) := by rw [hW]; exact blk_alloc _ HK1.out
  have hxW : W.heap[w1.heap.size]? = some (.cells #[.int .u64 e, .int .u64 n, .slice none 0 0] 62 (0, 0)) := by rw [hW]; exact blk_new _ _
  have hcW : Chg No w W := by rw [hW]; exact HC1.out.alloc _
  obtain ⟨d0, d1, d2, f0, f1, f2⟩ := cells3 hkW
  obtain ⟨g0, g1, g2, i0, i1, i2⟩ := cells3 hxW
  have HKW := Lib.hid hkW
  have HXW := Lib.hid hxW
  have HCW := Lib.hid hcW
  clear hkW hxW hcW hW
  have sm : IntKind.i64.wrap ((m : Int) * 64) = (m : Int) * 64 := IntWalk.i64_in _ (by omega)
  by_cases hlen : b.length < 64 * m
  · have q0 : decide ((b.length : Int) < (m : Int) * 64) = true := by simp only [decide_eq_true_eq]; omega
    have HLN := Lib.hid hlen
    clear hlen
    go_wp2_with fail
    obtain ⟨e0, e1, e2, _, _, _⟩ := cells3 (set3_blk HKW.out (.int .u64 0) (.int .u64 0) (.slice none 0 0))
    refine bodyPost_ret (v := .tuple #[noRec, .int .i64 0, .int .i64 5]) (by simp [results, Tryz.results85, go_sem, e0, e1, e2, noRec]) rfl ?_
    rw [← HO.out, if_pos HLN.out]
    exact ⟨⟨5, by decide, rfl⟩, HCW.out.set3 (.inr (Nat.le_refl _)) _ _ _⟩
  · have q0 : decide ((b.length : Int) < (m : Int) * 64) = false := by simp only [decide_eq_false_iff_not]; omega
    have HLN := Lib.hid hlen
    clear d0 d1 d2 f0 f1 f2 g0 g1 g2 i0 i1 i2
    go_wp2_with fail
    go_loopw [9, 34] (fun a i wr => ∃ k : Nat, k ≤ m ∧ i = .int .i64 k ∧ a = S (bodyN b k) ∧ Hid (∀ p, p < k → secOk b e n t p = true) ∧ Hid (wr.heap[w.heap.size]? = some (.cells #[.int .u64 0, .int .u64 0, .slice none 0 0] 62 (0, 0))) ∧ Hid (wr.heap[w1.heap.size]? = some (.cells #[.int .u64 e, .int .u64 n, .slice none 0 0] 62 (0, 0))) ∧ Hid (Chg No w wr)) (fun a i _ => m - (intOf i).toNat)
    case atStart => exact ⟨0, Nat.zero_le _, rfl, rfl, Lib.hid (fun p hp => by omega), HKW, HXW, HCW⟩
    case round =>
      obtain ⟨k, hk, rfl, rfl, HG, HKr, HXr, HCr⟩ := hrel
      by_cases hlt : k < m
      · have s1 : IntKind.i64.wrap ((k : Int) * 64) = (k : Int) * 64 := IntWalk.i64_in _ (by omega)
        have s2 : IntKind.i64.wrap ((k : Int) + 1) = (k : Int) + 1 := IntWalk.i64_in _ (by omega)
        have s3 : IntKind.i64.wrap (((k : Int) + 1) * 64) = ((k : Int) + 1) * 64 := IntWalk.i64_in _ (by omega)
        obtain ⟨p, hp⟩ : ∃ p, secOf b k = p := ⟨_, rfl⟩
        have hpl : p.length = 64 := by rw [← hp, secOf, List.length_take, List.length_drop]; omega
        have sr : ∀ wx : World, (Instr.slice 9 (S b) (some (.int .i64 ((k : Int) * 64))) (some (.int .i64 (((k : Int) + 1) * 64))) none).run Tryz.prog wx = .ok (S p) wx := by
          intro wx
          have h := run_slice_string (P := Tryz.prog) wx 9 (.mk b.toArray) .i64 .i64 ((k : Int) * 64) (((k : Int) + 1) * 64) (by kernel_rfl) (by omega) (by omega) (by simp [ByteArray.size]; omega)
          rw [show ((k : Int) * 64).toNat = 64 * k by omega, show (((k : Int) + 1) * 64).toNat = 64 * k + 64 by omega, ByteArray.extract_mk, show 64 * k + 64 - 64 * k = 64 by omega] at h
          rw [← hp]
          exact h
        have hbk := bodyN_length b k (by omega)
        have HP := Lib.hid hp
        clear hp
        obtain ⟨d0, d1, d2, f0, f1, f2⟩ := cells3 HKr.out
        cases hs : sumOk p
        · have HSum := Lib.hid hs
          clear hs
          go_wp2_with fail
          refine (Read_no _ p hpl HSum.out).mono ?_
          rintro e' w3 ⟨rfl, hc3⟩
          have hk3 := hc3.obj HKr.out id
          clear d0 d1 d2 f0 f1 f2
          obtain ⟨d0, d1, d2, f0, f1, f2⟩ := cells3 hk3
          have HK3 := Lib.hid hk3
          have HC3 := Lib.hid (HCr.out.trans_same hc3)
          clear hk3 hc3
          go_wp2_with fail
          obtain ⟨e0, e1, e2, _, _, _⟩ := cells3 (set3_blk HK3.out (.int .u64 0) (.int .u64 0) (.slice none 0 0))
          refine bodyPost_ret (v := .tuple #[noRec, .int .i64 0, .int .i64 6]) (by simp [results, Tryz.results85, go_sem, e0, e1, e2, noRec]) rfl ?_
          rw [← HO.out, if_neg HLN.out, if_pos (by
            unfold allSecs
            simp only [decide_eq_false_iff_not]
            intro h
            have := h k hlt
            simp only [secOk, Bool.and_eq_true] at this
            rw [HP.out, HSum.out] at this
            exact absurd this.1 (by decide))]
          exact ⟨⟨6, by decide, rfl⟩, HC3.out.set3 (.inr (Nat.le_refl _)) _ _ _⟩
        · have HSum := Lib.hid hs
          clear hs
          go_wp2_with fail
          refine (Read_yes _ p hpl HSum.out).mono ?_
          rintro e' w3 ⟨rfl, hc3⟩
          have hk3 := hc3.obj HKr.out id
          have hx3 := hc3.obj HXr.out id
          clear d0 d1 d2 f0 f1 f2 sr
          have HK3 := Lib.hid hk3
          have HX3 := Lib.hid hx3
          have HC3 := Lib.hid (HCr.out.trans_same hc3)
          obtain ⟨g0, g1, g2, i0, i1, i2⟩ := cells3 hx3
          have hxz := blk_lt hx3
          clear hk3 hc3 hx3
          obtain ⟨q, hq⟩ : ∃ q, p.take 60 = q := ⟨_, rfl⟩
          have hql : q.length = 60 := by rw [← hq, List.length_take]; omega
          rw [hq]
          have HQ := Lib.hid hq
          clear hq
          have hq18 : (18 : Int) ≤ (q.length : Int) := by omega
          go_upto_region 14 with (fail)
          go_cut [53] (fun x wx => x = .bool (q.take 18 != labelBytes e n k t) ∧ Hid (Chg No w3 wx))
          case first =>
            go_region_held3 (fun w' => w'.cell? ⟨w1.heap.size, 0, none⟩ = some (.int .u64 e) ∧ w'.cell? ⟨w1.heap.size, 1, none⟩ = some (.int .u64 n) ∧ w'.cell? ⟨w1.heap.size, 2, none⟩ = some (.slice none 0 0)) (go_keep)
              (first | (go_at_call 201; (with_reducible refine (label_ok _ e n _ k t (by omega) (by omega)).mono ?_); rintro e' w4 ⟨rfl, hc4⟩; have hk4 : ∀ o, w4.cell? ⟨w1.heap.size, o, none⟩ = w3.cell? ⟨w1.heap.size, o, none⟩ := fun o => World.cell?_of_block (hc4.block _ hxz id)))
            all_goals (go_wp2_with fail; go_meet)
            all_goals exact ⟨rfl, Lib.hid ((Chg.refl No w3).drew.trans_same hc4)⟩
          case rest =>
            obtain ⟨rfl, HC4⟩ := hcut
            have hk4 := HC4.out.obj HK3.out id
            have HX4 := Lib.hid (HC4.out.obj HX3.out id)
            have HC5 := Lib.hid (HC3.out.trans_same HC4.out)
            clear g0 g1 g2 i0 i1 i2 hxz
            obtain ⟨d0, d1, d2, f0, f1, f2⟩ := cells3 hk4
            have HK4 := Lib.hid hk4
            clear hk4
            have hok : secOk b e n t k = (q.take 18 == labelBytes e n k t) := by simp only [secOk, HP.out, HSum.out, HQ.out, Bool.true_and]
            cases hlb : (q.take 18 != labelBytes e n k t)
            · have hok2 : secOk b e n t k = true := by rw [hok]; simpa using hlb
              have HOK := Lib.hid hok2
              have HBN := Lib.hid (show bodyN b (k + 1) = bodyN b k ++ q.drop 18 by rw [bodyN, HP.out, HQ.out])
              have hqd : (q.drop 18).length = 42 := by rw [List.length_drop]; omega
              have sd : ∀ wx : World, (Instr.slice 9 (S q) (some (.int .i64 18)) none none).run Tryz.prog wx = .ok (S (q.drop 18)) wx := by
                intro wx
                have h := run_slice_string_l (P := Tryz.prog) (w := wx) (t := 9) (s := .mk q.toArray) (by kernel_rfl) .i64 18 (by omega) (by simp [ByteArray.size]; omega)
                rw [ByteArray.extract_mk] at h
                rw [List.take_of_length_le (by simp [ByteArray.size])] at h
                exact h
              clear hok hok2 hlb d0 d1 d2 f0 f1 f2
              go_wp2_with fail
              refine ⟨⟨k + 1, hlt, by go_num, by rw [HBN.out], Lib.hid (fun j hj => ?_), HK4, HX4, HC5⟩, by simp [intOf]; omega⟩
              by_cases hjk : j = k
              · rw [hjk]; exact HOK.out
              · exact HG.out j (by omega)
            · have hok2 : secOk b e n t k = false := by rw [hok]; simpa using hlb
              have HOK := Lib.hid hok2
              clear hok hok2 hlb
              go_wp2_with fail
              obtain ⟨e0, e1, e2, _, _, _⟩ := cells3 (set3_blk HK4.out (.int .u64 0) (.int .u64 0) (.slice none 0 0))
              refine bodyPost_ret (v := .tuple #[noRec, .int .i64 0, .int .i64 4]) (by simp [results, Tryz.results85, go_sem, e0, e1, e2, noRec]) rfl ?_
              rw [← HO.out, if_neg HLN.out, if_pos (by
                unfold allSecs
                simp only [decide_eq_false_iff_not]
                intro h
                have := h k hlt
                rw [HOK.out] at this
                exact absurd this (by decide))]
              exact ⟨⟨4, by decide, rfl⟩, HC5.out.set3 (.inr (Nat.le_refl _)) _ _ _⟩
      · obtain rfl : k = m := by omega
        have hag : allSecs b e n t k = true := by unfold allSecs; simp only [decide_eq_true_eq]; exact HG.out
        have HAG := Lib.hid hag
        have hbl : (bodyN b k).length = 42 * k := bodyN_length b k (by omega)
        obtain ⟨bd, hbd⟩ : ∃ bd, bodyN b k = bd := ⟨_, rfl⟩
        rw [hbd] at hbl ⊢
        have HBD := Lib.hid hbd
        clear hag hbd
        go_wp2_with fail
        refine (images_ok wr bd t t60 (by omega) (by omega)).mono ?_
        rintro e' w3 ⟨v, rfl, ho3, hc3⟩
        obtain ⟨va, vn, vc, rfl⟩ : ∃ a n c, v = .slice a n c := by
          rcases ho3.2 with ⟨rfl, _⟩ | ⟨g, cap, cur, rfl, _⟩
          · exact ⟨_, _, _, rfl⟩
          · exact ⟨_, _, _, rfl⟩
        have hx3 := hc3.obj HXr.out id
        have hk3 := hc3.obj HKr.out id
        obtain ⟨g0, g1, g2, i0, i1, i2⟩ := cells3 hx3
        have HX3 := Lib.hid hx3
        have HK3 := Lib.hid hk3
        have HO3 := Lib.hid ho3
        have HC3 := Lib.hid (HCr.out.trans_same hc3)
        have HZ3 := Lib.hid hc3.size
        clear hx3 hk3 ho3 hc3
        go_wp2_with fail
        have hxw : w1.heap.size < wr.heap.size := blk_lt HXr.out
        have hkW4 : (w3.setCell ⟨w1.heap.size, 2, none⟩ (.slice va vn vc)).heap[w.heap.size]? = some (.cells #[.int .u64 0, .int .u64 0, .slice none 0 0] 62 (0, 0)) := blk_set_ne HK3.out (by omega)
        have hxW4 : (w3.setCell ⟨w1.heap.size, 2, none⟩ (.slice va vn vc)).heap[w1.heap.size]? = some (.cells #[.int .u64 e, .int .u64 n, .slice va vn vc] 62 (0, 0)) := blk_set HX3.out 2 _
        have hoW4 : (w3.setCell ⟨w1.heap.size, 2, none⟩ (.slice va vn vc)).ownsRow wr.heap.size 38 3 (.slice va vn vc) (imgsN bd t).length ((imgsN bd t).flatMap Img.cells) := by
          rw [imgsN_length]
          exact row_set_ne HO3.out _ (fun h => by have := (HO3.out.lt _ h).1; omega)
        have hcW4 : Chg No w (w3.setCell ⟨w1.heap.size, 2, none⟩ (.slice va vn vc)) := HC3.out.setCell (p := ⟨w1.heap.size, 2, none⟩) (.inr (by show w.heap.size ≤ w1.heap.size; omega)) _
        clear g0 g1 g2 i0 i1 i2
        generalize w3.setCell ⟨w1.heap.size, 2, none⟩ (.slice va vn vc) = W4 at hkW4 hxW4 hoW4 hcW4 ⊢
        have HK4 := Lib.hid hkW4
        have HX4 := Lib.hid hxW4
        have HO4 := Lib.hid hoW4
        have HC4 := Lib.hid hcW4
        clear hkW4 hxW4 hoW4 hcW4
        have hil := imgsN_length bd t
        obtain ⟨l, hl⟩ : ∃ l, imgsN bd t = l := ⟨_, rfl⟩
        rw [hl] at HO4 hil
        have HIL := Lib.hid hl
        have hlt60 : l.length ≤ 60 := by omega
        clear hl hil
        refine (RecPut_ok W4 e n _ l (imgsAt_of_row HO4.out) (by omega)).mono ?_
        rintro e' w5 ⟨rfl, hc5⟩
        have hk5 := hc5.obj HK4.out id
        have hx5 := hc5.obj HX4.out id
        have HO5 := Lib.hid (hc5.row HO4.out (fun _ _ => id))
        have HC5 := Lib.hid (HC4.out.trans_same hc5)
        obtain ⟨d0, d1, d2, f0, f1, f2⟩ := cells3 hk5
        obtain ⟨g0, g1, g2, i0, i1, i2⟩ := cells3 hx5
        have HK5 := Lib.hid hk5
        have hz5 := blk_lt hk5
        have hn5 : w.heap.size ≠ w1.heap.size := by omega
        obtain ⟨rp, hrp⟩ : ∃ rp, recPut e n l = rp := ⟨_, rfl⟩
        rw [hrp]
        obtain ⟨again, c⟩ := rp
        have HRP := Lib.hid hrp
        have HZW := Lib.hid HCr.out.size
        clear hk5 hx5 hc5 hrp
        have htk : (64 : Int) * 0 ≤ (k : Int) * 64 := by omega
        have hkb : (k : Int) * 64 ≤ (b.length : Int) := by omega
        have sr : ∀ wx : World, (Instr.slice 9 (S b) none (some (.int .i64 ((k : Int) * 64))) none).run Tryz.prog wx = .ok (S (b.take (64 * k))) wx := by
          intro wx
          have h := run_slice_string_h (P := Tryz.prog) (w := wx) (t := 9) (s := .mk b.toArray) (by kernel_rfl) .i64 ((k : Int) * 64) (by omega) (by simp [ByteArray.size]; omega)
          rw [show ((k : Int) * 64).toNat = 64 * k by omega, ByteArray.extract_mk] at h
          exact h
        by_cases hc0 : c = 0
        · subst hc0
          by_cases hag : again = b.take (64 * k)
          · have q1 : (again == b.take (64 * k)) = true := by simp [hag]
            have HAg := Lib.hid hag
            clear hag
            go_wp2_with fail
            obtain ⟨e0, e1, e2, _, _, _⟩ := cells3 (set3_blk HK5.out (.int .u64 e) (.int .u64 n) (.slice va vn vc))
            refine bodyPost_ret (v := .tuple #[.agg #[.int .u64 e, .int .u64 n, .slice va vn vc], .int .i64 k, .int .i64 0]) (by simp [results, Tryz.results85, go_sem, e0, e1, e2]) rfl ?_
            rw [← HO.out, if_neg HLN.out, if_neg (by rw [HAG.out]; decide), HBD.out, HIL.out, if_pos (by rw [HRP.out, HAg.out])]
            refine ⟨⟨_, rfl, ?_⟩, HC5.out.set3 (.inr (Nat.le_refl _)) _ _ _⟩
            have hob : (Value.slice va vn vc).ownBlock ≠ some w.heap.size := fun h => by have := (HO5.out.lt _ h).1; have := HZW.out; omega
            exact row_set_ne (row_set_ne (row_set_ne (ownsRow_base HO5.out HZW.out) _ hob) _ hob) _ hob
          · have q1 : (again == b.take (64 * k)) = false := by simp [hag]
            have HAg := Lib.hid hag
            clear hag
            go_wp2_with fail
            obtain ⟨e0, e1, e2, _, _, _⟩ := cells3 (set3_blk HK5.out (.int .u64 0) (.int .u64 0) (.slice none 0 0))
            refine bodyPost_ret (v := .tuple #[noRec, .int .i64 0, .int .i64 4]) (by simp [results, Tryz.results85, go_sem, e0, e1, e2, noRec]) rfl ?_
            rw [← HO.out, if_neg HLN.out, if_neg (by rw [HAG.out]; decide), HBD.out, if_neg (by rw [HIL.out, HRP.out]; intro h; exact HAg.out (congrArg Prod.fst h))]
            exact ⟨⟨4, by decide, rfl⟩, HC5.out.set3 (.inr (Nat.le_refl _)) _ _ _⟩
        · have q1 : (c != 0) = true := by simpa using hc0
          have HC0 := Lib.hid hc0
          clear hc0
          go_wp2_with fail
          obtain ⟨e0, e1, e2, _, _, _⟩ := cells3 (set3_blk HK5.out (.int .u64 0) (.int .u64 0) (.slice none 0 0))
          refine bodyPost_ret (v := .tuple #[noRec, .int .i64 0, .int .i64 4]) (by simp [results, Tryz.results85, go_sem, e0, e1, e2, noRec]) rfl ?_
          rw [← HO.out, if_neg HLN.out, if_neg (by rw [HAG.out]; decide), HBD.out, if_neg (by rw [HIL.out, HRP.out]; intro h; exact HC0.out (congrArg Prod.snd h))]
          exact ⟨⟨4, by decide, rfl⟩, HC5.out.set3 (.inr (Nat.le_refl _)) _ _ _⟩

theorem RecGet_ok (b : Bytes) (hb : b.length ≤ 1000000) : Calls Tryz.prog 85 #[S b] w (RecPost (recGet b) w) := by
  unfold recGet
  cases h : recFirst b with
  | none => exact RecGet_no b h
  | some x =>
    obtain ⟨e, n, t⟩ := x
    exact RecGet_some b hb e n t h
end
end Go.Proofs.YtmmnjecaedmleaaGreatDoor
