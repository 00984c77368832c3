import Derived.Test.YtmmnjecaedmleaaGreatDoorM33
import Derived.Deep.CutBlock
import Derived.Deep.DeepCutAuto

/- wlog: Free: contract. -/
namespace Go.Proofs.YtmmnjecaedmleaaGreatDoor
open Go.RowKit
attribute [local go_sem ↓] Go.wp_at_zero Go.wp_at_succ

/-- Behind Free: disk and log, each with memory of its own. -/
def FreePost (F G : Nat → Prop) (w : World) (b g : Nat) (c : Int) (D : Dk) (L : Lg) (e' : Ending) (w' : World) : Prop :=
  e' = .returned (.int .i64 c) ∧ ∃ F' G', DiskAt w' b D F' ∧ LogAt w' g b L G' ∧ (∀ k, F' k → ¬ G' k) ∧ (∀ k, F' k → grow F w w' k) ∧ (∀ k, G' k → grow G w w' k) ∧ Chg (fun k => F k ∨ G k) w w'
section
variable {w : World} {g b : Nat} {D : Dk} {F : Nat → Prop} {L : Lg} {G : Nat → Prop}
theorem FreePost.same (hd : DiskAt w b D F) (hl : LogAt w g b L G) (hdj : ∀ k, F k → ¬ G k) {w' : World} (hc : Chg No w w') (c : Int) : FreePost F G w b g c D L (.returned (.int .i64 c)) w' :=
  ⟨rfl, F, G, hd.no' hc, hl.no hc, hdj, fun k h => .inl h, fun k h => .inl h, hc.of_no⟩
set_option maxHeartbeats 1600000 in
set_option maxRecDepth 100000 in
theorem Free_early (hd : DiskAt w b D F) (hl : LogAt w g b L G) (hdj : ∀ k, F k → ¬ G k) (hs : L.synced ≤ 1000000000000) (V : Nat) (h : L.broken = true ∨ L.synced + 1 < V ∨ V ≤ L.first) :
    Calls Tryz.prog 44 #[.pointer (some ⟨g, 0, none⟩), .int .u64 V] w (FreePost F G w b g (logFree D L V).1 (logFree D L V).2.1 (logFree D L V).2.2) := by
  have H := Lib.hid hl
  have HP := Lib.hid (fun (w' : World) (hc : Chg No w w') (c : Int) => FreePost.same hd hl hdj hc c)
  obtain ⟨r, lv, hR⟩ := hl
  obtain ⟨_, _, _, _, _, _, _, _, _, _, c10, _, _, c13, _⟩ := hR.cell
  have hw : IntKind.u64.wrap ((L.synced : Int) + 1) = (L.synced : Int) + 1 := IntWalk.u64_in _ (by omega)
  cases hb : L.broken
  · have hb' := hb
    have HB := Lib.hid hb
    by_cases h1 : L.synced + 1 < V
    · have e : logFree D L V = (1, D, L) := by unfold logFree; rw [if_neg (by rw [hb']; decide), if_pos h1]
      rw [e]
      have t0 : decide ((L.synced : Int) + 1 < (V : Int)) = true := by simp only [decide_eq_true_eq]; omega
      clear hd hdj hs h hR hb hb' e h1
      go_enter Tryz.func44, Tryz.ntmps44
      go_wp2_with fail
      refine (mayL_ok H.out).mono ?_
      rw [HB.out]
      rintro e' w1 ⟨rfl, rfl⟩
      go_wp2_with fail
      go_ret
      exact HP.out _ (Chg.refl _ _) 1
    · have h2 : V ≤ L.first := by
        rcases h with h | h | h
        · rw [hb'] at h; exact absurd h (by decide)
        · exact absurd h h1
        · exact h
      have e : logFree D L V = (0, D, L) := by unfold logFree; rw [if_neg (by rw [hb']; decide), if_neg h1, if_pos h2]
      rw [e]
      have t0 : decide ((L.synced : Int) + 1 < (V : Int)) = false := by simp only [decide_eq_false_iff_not]; omega
      have t1 : decide (V ≤ L.first) = true := by simp only [decide_eq_true_eq]; omega
      clear hd hdj hs h hR hb hb' e h1 h2
      go_enter Tryz.func44, Tryz.ntmps44
      go_wp2_with fail
      refine (mayL_ok H.out).mono ?_
      rw [HB.out]
      rintro e' w1 ⟨rfl, rfl⟩
      go_wp2_with fail
      go_ret
      exact HP.out _ (Chg.refl _ _) 0
  · have HB := Lib.hid hb
    have e : logFree D L V = (13, D, L) := by unfold logFree; rw [if_pos hb]
    rw [e]
    clear hd hdj hs h hR hb e hw c10 c13
    go_enter Tryz.func44, Tryz.ntmps44
    go_wp2_with fail
    refine (mayL_ok H.out).mono ?_
    rw [HB.out]
    rintro e' w1 ⟨rfl, rfl⟩
    go_wp2_with fail
    go_ret
    exact HP.out _ (Chg.refl _ _) 13
end
end Go.Proofs.YtmmnjecaedmleaaGreatDoor

/- wlog: Free: contract, where it goes on. -/
namespace Go.Proofs.YtmmnjecaedmleaaGreatDoor
open Go.RowKit
attribute [local go_sem ↓] Go.wp_at_zero Go.wp_at_succ

def lenOf : Value → Nat
  | .slice _ n _ => n
  | _ => 0
section
variable {w : World} {g b : Nat} {D : Dk} {F : Nat → Prop} {L : Lg} {G : Nat → Prop}
set_option maxHeartbeats 6400000 in
set_option maxRecDepth 100000 in
theorem Free_go (hd : DiskAt w b D F) (hl : LogAt w g b L G) (hdj : ∀ k, F k → ¬ G k) (hlen : L.live.length ≤ 100000) (hf : D.FitN 32) (hs : L.synced ≤ 1000000000000) (V : Nat) (hb : L.broken = false) (h1 : ¬ L.synced + 1 < V) (h2 : ¬ V ≤ L.first) :
    Calls Tryz.prog 44 #[.pointer (some ⟨g, 0, none⟩), .int .u64 V] w (FreePost F G w b g (logFree D L V).1 (logFree D L V).2.1 (logFree D L V).2.2) := by
  have H := Lib.hid hl
  have HD := Lib.hid hd
  have HF := Lib.hid (show D.FitN 16 from hf.le (by omega))
  have HB := Lib.hid hb
  have HDJ := Lib.hid hdj
  have HFL := Lib.hid hd.lt
  have HGL := Lib.hid hl.lt
  have hee : logFree D L V = if (D.logHead L V (L.freeAt V)).1 ≠ 0 then ((D.logHead L V (L.freeAt V)).1, (D.logHead L V (L.freeAt V)).2, L.fail (D.logHead L V (L.freeAt V)).1)
      else (0, (D.logHead L V (L.freeAt V)).2, { L with live := L.dropped V, first := V, synced := max L.synced L.written }) := by
    unfold logFree; rw [if_neg (by rw [hb]; decide), if_neg h1, if_neg h2]
  obtain ⟨pr, hpr⟩ : ∃ pr, D.logHead L V (L.freeAt V) = pr := ⟨_, rfl⟩
  rw [hpr] at hee
  obtain ⟨c, D2⟩ := pr
  simp only at hee
  obtain ⟨res, hres⟩ : ∃ res, logFree D L V = res := ⟨_, rfl⟩
  rw [hres] at hee ⊢
  have HEE := Lib.hid hee
  clear hres
  have HPR := Lib.hid hpr
  obtain ⟨r, lv, hR⟩ := hl
  obtain ⟨_, _, _, _, _, _, _, _, _, _, c10, c11, _, c13, c14, _⟩ := hR.cell
  have hgz : g < w.heap.size := blk_lt hR.blk
  have HR := Lib.hid hR
  have HRG := Lib.hid (show RingR w.drew r lv L.live from hR.ring.chg ((Chg.refl No w).drew) id (fun _ _ => id))
  have hw : IntKind.u64.wrap ((L.synced : Int) + 1) = (L.synced : Int) + 1 := IntWalk.u64_in _ (by omega)
  have t0 : decide ((L.synced : Int) + 1 < (V : Int)) = false := by simp only [decide_eq_false_iff_not]; omega
  have t1 : decide (V ≤ L.first) = false := by simp only [decide_eq_false_iff_not]; omega
  clear hd hdj hf hb hee hpr hR hs h1 h2
  go_enter Tryz.func44, Tryz.ntmps44
  go_wp2_with fail
  refine (mayL_ok H.out).mono ?_
  rw [HB.out]
  rintro e' w1 ⟨rfl, rfl⟩
  go_upto_region 8 with (fail)
  go_cut [6, 7] from 27 to 35 (fun x y wx => ∃ a cp, x = .slice a L.live.length cp ∧ y = .int .i64 L.at_ ∧ Hid (wx.ownsRow w.heap.size 131 5 (.slice a L.live.length cp) L.live.length (L.live.flatMap Ent.cells)) ∧ Hid (Chg No w wx))
  case first =>
    go_region_held3 (fun w' => w'.cell? ⟨g, 14, none⟩ = some (.pointer (some ⟨r, 0, none⟩)) ∧ w'.cell? ⟨g, 11, none⟩ = some (.int .i64 L.at_)) (go_keep)
      (first | (go_at_call 167; (with_reducible refine (RingList_ok HRG.out hlen).mono ?_); rintro e' w2 ⟨v2, rfl, ho2, hc2⟩; have hk2 : ∀ o, w2.cell? ⟨g, o, none⟩ = w.cell? ⟨g, o, none⟩ := fun o => World.cell?_of_block (hc2.block g hgz id)))
    all_goals
      obtain ⟨va, vc, hv⟩ : ∃ a c, v2 = .slice a L.live.length c := by
        rcases ho2.2 with ⟨hv, hn⟩ | ⟨g, cap, cur, hv, _⟩
        · exact ⟨none, 0, by rw [hv, hn]⟩
        · exact ⟨_, _, hv⟩
      subst hv
      have HO2 := Lib.hid ho2
      have HC2 := Lib.hid ((Chg.refl No w).drew.trans_same hc2)
      clear ho2 hc2 hk2
      go_wp2_with fail
      go_meet
      exact ⟨_, _, rfl, rfl, HO2, HC2⟩
  case rest =>
    obtain ⟨va, vc, rfl, rfl, HO, HC⟩ := hcut
    obtain ⟨gv, hgv⟩ : ∃ gv, L.live.length ≠ 0 → va = some ⟨gv, 0, none⟩ := by
      rcases HO.out.2 with ⟨hv, hn⟩ | ⟨g', cap, cur, hv, _⟩
      · exact ⟨0, fun h => absurd hn h⟩
      · simp only [Value.slice.injEq] at hv
        exact ⟨g', fun _ => hv.1⟩
    have hcap : L.live.length ≤ vc := by
      rcases HO.out.2 with ⟨hv, hn⟩ | ⟨g', cap, cur, hv, _, _, hle, _⟩
      · omega
      · simp only [Value.slice.injEq] at hv
        rw [hv.2.2]; exact hle
    have HGV := Lib.hid hgv
    clear hgv c10 c11 c13 c14 hw t0 t1
    rename World => w2
    go_upto_block 0 with fail
    go_cut [6] from 36 to 48 (fun v wx => ∃ (k cp : Nat) (A : Option Addr), k ≤ L.live.length ∧ L.live.length - k ≤ cp ∧ v = .slice A (L.live.length - k) cp ∧ Hid (k < L.live.length → A = some ⟨gv, k * 5, none⟩) ∧ Hid (L.dropped V = L.live.drop k) ∧ Hid (wx = w2))
    case first =>
      go_wp2_with fail
      go_loopw [6] (fun v wr => ∃ (k cp : Nat) (A : Option Addr), k ≤ L.live.length ∧ L.live.length - k ≤ cp ∧ v = .slice A (L.live.length - k) cp ∧ Hid (k < L.live.length → A = some ⟨gv, k * 5, none⟩) ∧ Hid (L.dropped V = (L.live.drop k).dropWhile (fun x => decide (x.lsn < V))) ∧ Hid (wr = w2)) (fun v _ => lenOf v)
      case atStart => exact ⟨0, vc, va, Nat.zero_le _, by omega, rfl, Lib.hid (fun h => by rw [HGV.out (by omega), Nat.zero_mul]), Lib.hid rfl, Lib.hid rfl⟩
      case round =>
        obtain ⟨k, cp, A, hk, hcp, rfl, HA, HDW, HWX⟩ := hrel
        obtain rfl := HWX.out
        clear HWX
        by_cases hlt : k < L.live.length
        · obtain rfl := HA.out hlt
          obtain ⟨e0, _⟩ := flat_ent L.live k hlt
          have hob : (Value.slice va L.live.length vc).ownBlock = some gv := by rw [HGV.out (by omega)]; rfl
          have d0 := row_cell HO.out hob e0
          have hdr : L.live.drop k = L.live[k] :: L.live.drop (k + 1) := List.drop_eq_getElem_cons hlt
          obtain ⟨x, hx⟩ : ∃ x, L.live[k] = x := ⟨_, rfl⟩
          rw [hx] at d0 hdr
          have HDR := Lib.hid hdr
          obtain ⟨m, hm⟩ : ∃ m, L.live.length - k = m := ⟨_, rfl⟩
          have hm1 : 1 ≤ m := by omega
          have HA2 := Lib.hid (show k + 1 < L.live.length → (if cp = 1 then some (⟨gv, k * 5, none⟩ : Addr) else some ⟨gv, k * 5 + 5, none⟩) = some ⟨gv, (k + 1) * 5, none⟩ by
            intro h
            rw [if_neg (by omega), show k * 5 + 5 = (k + 1) * 5 by omega])
          have HM := Lib.hid hm
          rw [hm] at hcp ⊢
          clear e0 hdr hx hm HA
          by_cases hv : x.lsn < V
          · have t0 : decide (x.lsn < V) = true := by simp only [decide_eq_true_eq]; omega
            have HDW2 := Lib.hid (show L.dropped V = (L.live.drop (k + 1)).dropWhile (fun x => decide (x.lsn < V)) by rw [HDW.out, HDR.out, List.dropWhile_cons, if_pos t0])
            have HVV := Lib.hid hv
            clear hv
            go_wp2_with fail
            have hme := HM.out
            refine ⟨⟨k + 1, cp - 1, _, hlt, by omega, by rw [show m - 1 = L.live.length - (k + 1) by omega], HA2, HDW2, Lib.hid trivial⟩, ?_⟩
            show m - 1 < m
            omega
          · have t0 : decide (x.lsn < V) = false := by simp only [decide_eq_false_iff_not]; omega
            have HDW2 := Lib.hid (show L.dropped V = L.live.drop k by rw [HDW.out, HDR.out, List.dropWhile_cons, if_neg (by rw [t0]; decide)])
            have HVV := Lib.hid hv
            clear hv
            go_wp2_with fail
            go_meet
            exact ⟨k, cp, _, hk, by rw [HM.out]; exact hcp, by rw [HM.out], Lib.hid (fun _ => rfl), HDW2, Lib.hid rfl⟩
        · obtain rfl : k = L.live.length := by omega
          have HDW2 := Lib.hid (show L.dropped V = L.live.drop L.live.length by rw [HDW.out, List.drop_length]; rfl)
          rw [Nat.sub_self]
          go_wp2_with fail
          go_meet
          exact ⟨L.live.length, cp, A, Nat.le_refl _, hcp, by rw [Nat.sub_self], HA, HDW2, Lib.hid rfl⟩
    case rest =>
      obtain ⟨k, cp, A, hk, hcp, rfl, HA, HDP, HWX⟩ := hcut
      obtain rfl := HWX.out
      clear HWX
      rename World => w2
      have hfa : L.freeAt V = if h : k < L.live.length then (L.live[k]).at_ else L.at_ := by
        unfold Lg.freeAt
        rw [HDP.out]
        by_cases h : k < L.live.length
        · rw [dif_pos h, List.drop_eq_getElem_cons h]
        · rw [dif_neg h, List.drop_eq_nil_of_le (by omega)]
      have HFA := Lib.hid hfa
      obtain ⟨m, hm⟩ : ∃ m, L.live.length - k = m := ⟨_, rfl⟩
      rw [hm] at hcp ⊢
      have HM := Lib.hid hm
      clear hfa hm
      go_upto_if 51 with (fail)
      go_cut [7] from 51 to 55 (fun x wx => x = .int .i64 (L.freeAt V) ∧ wx = w2)
      case first =>
        by_cases hlt : k < L.live.length
        · obtain rfl := HA.out hlt
          obtain ⟨_, e1, _⟩ := flat_ent L.live k hlt
          have hob : (Value.slice va L.live.length vc).ownBlock = some gv := by rw [HGV.out (by omega)]; rfl
          have d1 := row_cell HO.out hob e1
          have HE := Lib.hid (show L.freeAt V = (L.live[k]).at_ by rw [HFA.out, dif_pos hlt])
          obtain ⟨x, hx⟩ : ∃ x, L.live[k] = x := ⟨_, rfl⟩
          rw [hx] at d1 HE
          have hm1 : 1 ≤ m := by have := HM.out; omega
          clear e1 hx
          go_wp2_with fail
          go_meet
          exact ⟨by rw [HE.out], rfl⟩
        · have HE := Lib.hid (show L.freeAt V = L.at_ by rw [HFA.out, dif_neg hlt])
          obtain rfl : m = 0 := by have := HM.out; omega
          go_wp2_with fail
          go_meet
          exact ⟨by rw [HE.out], rfl⟩
      case rest =>
        obtain ⟨rfl, rfl⟩ := hcut
        rename World => w2
        go_wp2_with fail
        obtain ⟨at_, hat⟩ : ∃ at_, L.freeAt V = at_ := ⟨_, rfl⟩
        rw [hat] at HPR ⊢
        have HD2 := Lib.hid (HD.out.no' HC.out)
        have HR2 := Lib.hid (HR.out.chg HC.out (fun _ _ => id))
        have HFL2 := Lib.hid (show ∀ j, F j → j < w2.heap.size from fun j hj => Nat.lt_of_lt_of_le (HFL.out j hj) HC.out.size)
        clear hat
        refine (head_ok HD2.out ⟨r, lv, HR2.out⟩ HDJ.out HF.out V at_).mono ?_
        rw [HPR.out]
        rintro e' w3 ⟨rfl, h3⟩
        have H3 := Lib.hid h3
        have HR3 := Lib.hid (HR2.out.chg h3.2 (fun j hj hf => HDJ.out j hf hj))
        have hgF : ¬ F g := fun h => HDJ.out g h HR.out.fg
        have hrF : ¬ F r := fun h => HDJ.out r h HR.out.fr
        have HDJ3 := Lib.hid (show ∀ j, grow F w2 w3 j → ¬ G j from fun j hj hg => by
          rcases hj with h | h
          · exact HDJ.out j h hg
          · have h4 := HR.out.lt j hg; have h5 := HC.out.size; omega)
        clear h3
        by_cases hc : c = 0
        · subst hc
          have HRES := Lib.hid (show res = (0, D2, { L with live := L.dropped V, first := V, synced := max L.synced L.written }) by rw [HEE.out, if_neg (by simp)])
          obtain ⟨_, _, _, _, _, _, _, _, _, _, _, _, _, _, c14, _⟩ := HR3.out.cell
          have hgz3 := blk_lt HR3.out.blk
          have HRG3 := Lib.hid (show RingR w3.drew r lv L.live from HR3.out.ring.chg ((Chg.refl No w3).drew) id (fun _ _ => id))
          have hws : IntKind.i64.wrap ((L.live.length : Int) - (m : Int)) = (k : Int) := by
            have := HM.out
            rw [show (L.live.length : Int) - (m : Int) = (k : Int) by omega]
            exact IntWalk.i64_in _ (by omega)
          have hgr : ¬ g = r := HR.out.ngr
          go_upto_region 16 with (fail)
          go_cut [4] from 65 to 77 (fun x wx => x = .int .i64 0 ∧ Hid (∃ lv', RingR wx r lv' (L.live.drop k) ∧ ∀ j, lv'.ownBlock = some j → lv.ownBlock = some j ∨ w3.heap.size ≤ j ∧ j < wx.heap.size) ∧ Hid (Chg (fun j => j = r) w3 wx))
          case first =>
            go_region_held3 (fun w' => w'.cell? ⟨g, 14, none⟩ = some (.pointer (some ⟨r, 0, none⟩))) (go_keep)
              (first
                | (go_at_call 171; (with_reducible refine (RingLen_ok HRG3.out).mono ?_); rintro e' w4 ⟨rfl, rfl⟩)
                | (go_at_call 170; (with_reducible refine (RingDrop_ok HRG3.out k hk hlen).mono ?_); rintro e' w5 ⟨rfl, hr5, hc5⟩; have hk5 : ∀ o, w5.cell? ⟨g, o, none⟩ = w3.cell? ⟨g, o, none⟩ := fun o => World.cell?_of_block (hc5.block g hgz3 hgr)))
            all_goals
              have HC5 := Lib.hid ((Chg.refl (fun j => j = r) w3).drew.trans_same hc5)
              have HR5 := Lib.hid hr5
              clear hr5 hc5 hk5
              go_wp2_with fail
              go_meet
              exact ⟨rfl, Lib.hid HR5.out, HC5⟩
          case rest =>
            obtain ⟨rfl, HR5, HC5⟩ := hcut
            rename World => w5
            obtain ⟨lv5, hr5, hl5⟩ := HR5.out
            have HR6 := Lib.hid (show LogR w5 g b r lv5 { L with live := L.live.drop k } (fun j => G j ∨ (w3.heap.size ≤ j ∧ j < w5.heap.size)) from by
              refine ⟨HC5.out.obj HR3.out.blk hgr, hr5, .inl HR3.out.fg, .inl HR3.out.fr, fun j hj => ?_, HR3.out.ngr, fun e => ?_, fun j hj => ?_⟩
              · exact (hl5 j hj).imp (fun e => HR3.out.fl j e) id
              · rcases hl5 g e with e | e
                · exact HR3.out.nl e
                · omega
              · rcases hj with e | e
                · exact Nat.lt_of_lt_of_le (HR3.out.lt j e) HC5.out.size
                · exact e.2)
            obtain ⟨mx, hmx⟩ : ∃ mx, max L.synced L.written = mx := ⟨_, rfl⟩
            have hmx1 : max (L.synced : Int) (L.written : Int) = (mx : Int) := by omega
            rw [hmx] at HRES
            obtain ⟨_, _, _, _, _, _, _, _, _, _, c10, _, c12, c13, _⟩ := HR6.out.cell
            have f10 := free_of_blk HR6.out.blk 10
            have f13 := free_of_blk HR6.out.blk 13
            clear hr5 hl5 HR5 c14 hmx hws
            go_wp2_with fail
            go_region
            go_wp2_with fail
            go_ret
            rw [HRES.out, HDP.out]
            have hR7 := (((HR6.out.set 10 (.int .u64 V) { L with live := L.live.drop k, first := V } rfl rfl).set 13 (.int .u64 mx) { L with live := L.live.drop k, first := V, synced := mx } rfl rfl).chg ((Chg.refl No _).drew) (fun _ _ => id))
            have hcF : Chg (fun j => j = r ∨ j = g) w3 ((w5.setCell ⟨g, 10, none⟩ (.int .u64 V)).setCell ⟨g, 13, none⟩ (.int .u64 mx)).drew :=
              (Chg.setCell (F := fun j => j = r ∨ j = g) (Chg.setCell (F := fun j => j = r ∨ j = g) (HC5.out.mono (fun j hj => .inl hj)) (p := ⟨g, 10, none⟩) (.inl (.inr rfl)) _) (p := ⟨g, 13, none⟩) (.inl (.inr rfl)) _).drew
            have hzf := hcF.size
            have hz5 : ((w5.setCell ⟨g, 10, none⟩ (.int .u64 V)).setCell ⟨g, 13, none⟩ (.int .u64 mx)).drew.heap.size = w5.heap.size := by simp [World.setCell]
            have hzw := HC.out.size
            have hz3 := H3.out.2.size
            refine ⟨rfl, grow F w2 w3, fun j => G j ∨ (w3.heap.size ≤ j ∧ j < w5.heap.size), H3.out.1.chg hcF (fun j hj e => ?_), ⟨r, lv5, hR7⟩, fun j hj hg => ?_, fun j hj => ?_, fun j hj => ?_, ?_⟩
            · rcases e with rfl | rfl
              · exact HDJ3.out _ hj HR.out.fr
              · exact HDJ3.out _ hj HR.out.fg
            · rcases hg with e | e
              · exact HDJ3.out j hj e
              · have := H3.out.1.lt j hj; omega
            · rcases hj with h | h
              · exact .inl h
              · exact .inr ⟨by omega, by omega⟩
            · rcases hj with h | h
              · exact .inl h
              · exact .inr ⟨by omega, by omega⟩
            · exact (HC.out.of_no.trans_same (H3.out.2.mono (fun j hj => .inl hj))).trans_same (hcF.mono (fun j hj => by
                rcases hj with rfl | rfl
                · exact .inr HR.out.fr
                · exact .inr HR.out.fg))
        · have q0 : (c != 0) = true := by simpa using hc
          have HRES := Lib.hid (show res = (c, D2, L.fail c) by rw [HEE.out, if_pos hc])
          clear hc
          go_wp2_with fail
          refine (failL_ok ⟨r, lv, HR3.out⟩ c).mono ?_
          rintro e' w4 ⟨rfl, hl4, hc4⟩
          have HL4 := Lib.hid hl4
          have HC4 := Lib.hid hc4
          clear hl4 hc4
          go_wp2_with fail
          go_ret
          rw [HRES.out]
          refine ⟨rfl, grow F w2 w3, G, H3.out.1.chg HC4.out (fun j hj e => ?_), HL4.out, HDJ3.out, fun j hj => ?_, fun j hj => .inl hj, ?_⟩
          · exact HDJ3.out j hj (e ▸ HR.out.fg)
          · rcases hj with h | h
            · exact .inl h
            · exact .inr ⟨by have := HC.out.size; omega, by have := HC4.out.size; omega⟩
          · exact (HC.out.of_no.trans_same (H3.out.2.mono (fun j hj => .inl hj))).trans_same (HC4.out.mono (fun j hj => .inr (hj ▸ HR.out.fg)))
theorem Free_ok (hd : DiskAt w b D F) (hl : LogAt w g b L G) (hdj : ∀ k, F k → ¬ G k) (hlen : L.live.length ≤ 100000) (hf : D.FitN 32) (hs : L.synced ≤ 1000000000000) (V : Nat) :
    Calls Tryz.prog 44 #[.pointer (some ⟨g, 0, none⟩), .int .u64 V] w (FreePost F G w b g (logFree D L V).1 (logFree D L V).2.1 (logFree D L V).2.2) := by
  by_cases h : L.broken = true ∨ L.synced + 1 < V ∨ V ≤ L.first
  · exact Free_early hd hl hdj hs V h
  · exact Free_go hd hl hdj hlen hf hs V (by cases hb : L.broken; rfl; exact absurd (.inl hb) h) (fun e => h (.inr (.inl e))) (fun e => h (.inr (.inr e)))
end
end Go.Proofs.YtmmnjecaedmleaaGreatDoor

/- Log and disk beside what is kept: Free, Write, On, Synced, Cut: contracts with a fixed set of kept blocks. -/
namespace Go.Proofs.YtmmnjecaedmleaaGreatDoor
open Go.RowKit
attribute [local go_sem ↓] Go.wp_at_zero Go.wp_at_succ

theorem Synced_ok {w : World} {g b : Nat} {L : Lg} {G : Nat → Prop} (h : LogAt w g b L G) : Calls Tryz.prog 45 #[.pointer (some ⟨g, 0, none⟩)] w fun e w' => e = .returned (.int .u64 L.synced) ∧ w = w' := by
  have H := Lib.hid h
  obtain ⟨r, lv, hR⟩ := h
  obtain ⟨_, _, _, _, _, _, _, _, _, _, _, _, _, c13, _⟩ := hR.cell
  clear hR
  go_enter Tryz.func45, Tryz.ntmps45
  go_wp2_with fail
  refine (none_ok H.out).mono ?_
  rintro e w' ⟨rfl, rfl⟩
  go_wp2_with fail
  go_ret
  exact ⟨rfl, rfl⟩
section
variable {K : Nat → Prop} {w w' : World} {b g : Nat} {D : Dk} {L : Lg}
theorem sysWrite (h : Sy K w b g D L) (hg : L.Good) {n : Nat} (hn : L.live.length ≤ n) {N : Nat} (hf : D.FitN N) (hN : 16016 * n + 16016 ≤ N) :
    Calls Tryz.prog 43 #[.pointer (some ⟨g, 0, none⟩)] w fun e w' => e = .returned (.tuple #[.int .i64 (logWrite D L).2.1, .int .i64 (logWrite D L).1]) ∧ Sy K w' b g (logWrite D L).2.2.1 (logWrite D L).2.2.2 ∧ Chg (Kp K) w w' := by
  obtain ⟨F, G, hd, hlg, hdj, hk⟩ := h
  refine (LWrite_ok hd hlg hdj hg (hf.le (Nat.le_trans (by omega) hN))).mono ?_
  rintro e w' ⟨rfl, h⟩
  have hGl := hlg.lt
  refine ⟨rfl, ⟨grow F w w', G, h.disk, h.log, ?_, fun k hkk => ⟨?_, (hk k hkk).2.1, Nat.lt_of_lt_of_le (hk k hkk).2.2 h.chg.size⟩⟩, h.chg.kp (fun k hkk => ?_)⟩
  · rintro k (hf | hf) hg
    · exact hdj k hf hg
    · have := hGl k hg; omega
  · rintro (hf | hf)
    · exact (hk k hkk).1 hf
    · have := (hk k hkk).2.2; omega
  · rintro (hf | hf)
    · exact (hk k hkk).1 hf
    · exact (hk k hkk).2.1 hf
theorem sysFree (h : Sy K w b g D L) (hlen : L.live.length ≤ 100000) {N : Nat} (hf : D.FitN N) (hN : 32 ≤ N) (hs : L.synced ≤ 1000000000000) (V : Nat) :
    Calls Tryz.prog 44 #[.pointer (some ⟨g, 0, none⟩), .int .u64 V] w fun e w' => e = .returned (.int .i64 (logFree D L V).1) ∧ Sy K w' b g (logFree D L V).2.1 (logFree D L V).2.2 ∧ Chg (Kp K) w w' := by
  obtain ⟨F, G, hd, hlg, hdj, hk⟩ := h
  refine (Free_ok hd hlg hdj hlen (hf.le hN) hs V).mono ?_
  rintro e w' ⟨rfl, F', G', h1, h2, h3, h4, h5, h6⟩
  refine ⟨rfl, ⟨F', G', h1, h2, h3, fun k hkk => ⟨fun hf => ?_, fun hg => ?_, Nat.lt_of_lt_of_le (hk k hkk).2.2 h6.size⟩⟩, h6.kp (fun k hkk => ?_)⟩
  · rcases h4 k hf with e | e
    · exact (hk k hkk).1 e
    · have := (hk k hkk).2.2; omega
  · rcases h5 k hg with e | e
    · exact (hk k hkk).2.1 e
    · have := (hk k hkk).2.2; omega
  · rintro (hf | hf)
    · exact (hk k hkk).1 hf
    · exact (hk k hkk).2.1 hf
theorem sysOn (h : Sy K w b g D L) : Calls Tryz.prog 42 #[.pointer (some ⟨b, 0, none⟩)] w fun e w' => e = .returned (.bool D.on) ∧ w = w' := by
  obtain ⟨F, G, hd, _⟩ := h
  exact On_ok hd
theorem sysSynced (h : Sy K w b g D L) : Calls Tryz.prog 45 #[.pointer (some ⟨g, 0, none⟩)] w fun e w' => e = .returned (.int .u64 L.synced) ∧ w = w' := by
  obtain ⟨F, G, _, hl, _⟩ := h
  exact Synced_ok hl
theorem sysCut (h : Sy K w b g D L) {N : Nat} (hf : D.FitN N) (v : Value) (l : List Int) (hv : ReadsInts w v l) (hvb : ∀ k, v.ownBlock = some k → K k) (hl : l.length ≤ 1000000000) :
    Calls Tryz.prog 46 #[.pointer (some ⟨b, 0, none⟩), v] w fun e w' => e = .returned (.int .i64 D.cutN) ∧ Sy K w' b g (D.cut l) L ∧ Chg (Kp K) w w' := by
  obtain ⟨F, G, hd, hlg, hdj, hk⟩ := h
  have hb : F b := by obtain ⟨_, _, _, _, hr⟩ := hd; exact hr.fb
  refine (Cut_ok hd v l hv (fun e => (hk b (hvb b e)).1 hb) hl (by have := hf.waits; omega)).mono ?_
  rintro e w' ⟨rfl, h1, h2⟩
  exact ⟨rfl, Sy.step hlg hdj hk h1 h2⟩
end
end Go.Proofs.YtmmnjecaedmleaaGreatDoor
