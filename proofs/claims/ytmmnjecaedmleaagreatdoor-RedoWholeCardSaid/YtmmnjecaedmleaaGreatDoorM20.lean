import Derived.Test.YtmmnjecaedmleaaGreatDoorM19

/- wlog: Write: contract. -/
namespace Go.Proofs.YtmmnjecaedmleaaGreatDoor
open Go.RowKit
attribute [local go_sem ↓] Go.wp_at_zero Go.wp_at_succ

section
variable {w : World} {g b : Nat} {D : Dk} {F : Nat → Prop} {L : Lg} {G : Nat → Prop}

theorem St2.over {w1 w1' w2 w3 : World} {D2 : Dk} {L2 : Lg} (h : St2 F G w w1 b g D L) (hdj : ∀ k, F k → ¬ G k) (hF : ∀ k, F k → k < w.heap.size) (hG : ∀ k, G k → k < w.heap.size) (hc : Chg No w1 w1') (h2 : St (grow F w w1) w1' w2 b D2)
    (hc3 : Chg (fun k => G k ∨ (w1.heap.size ≤ k ∧ k < w1'.heap.size)) w2 w3) (hl : LogAt w3 g b L2 G) : St2 F G w w3 b g D2 L2 := by
  have z0 := h.chg.size
  have z1 := hc.size
  have z2 := h2.2.size
  have z3 := hc3.size
  refine ⟨(h2.1.chg hc3 ?_).wide ?_ ?_, hl, ?_⟩
  · rintro k hk hx
    rcases hx with hx | hx
    · have hg := hG k hx
      rcases hk with (h | h) | h
      · exact hdj k h hx
      · omega
      · omega
    · rcases hk with (h | h) | h
      · have := hF k h; omega
      · omega
      · omega
  · rintro k ((h | h) | h)
    · exact .inl h
    · exact .inr (by omega)
    · exact .inr (by omega)
  · exact grow_lt hF (by omega)
  · refine ((h.chg.trans_no hc).trans h2.2 ?_).trans hc3 ?_
    · rintro k (h | h)
      · exact .inl (.inl h)
      · exact .inr h.1
    · rintro k (h | h)
      · exact .inl (.inr h)
      · exact .inr (by omega)

theorem put_lit (hd : DiskAt w b D F) (hl : LogAt w g b L G) (hdj : ∀ k, F k → ¬ G k) (hs : L.s.Ok) (x : Ent) (hn : x.n ≤ 1000) (ha : x.at_ ≤ 256) (hbl : x.bytes.length = 64 * x.n) (hbase : 0 ≤ L.base ∧ L.base ≤ 1000000) (hf : D.FitN (16 * x.n + 16)) (hw : x.written = false) :
    Calls Tryz.prog 168 #[.pointer (some ⟨g, 0, none⟩), .agg #[.int .u64 x.lsn, .int .i64 x.at_, .int .i64 x.n, S x.bytes, .bool false]] w fun e' w' => e' = .returned (.int .i64 (D.putE L x).1) ∧ St F w w' b (D.putE L x).2 := by
  have h := put_ok hd hl hdj hs x hn ha hbl hbase hf
  unfold Ent.val Ent.cells at h
  rw [hw] at h
  exact h
theorem RingSet_lit {r : Nat} {lv : Value} {l : List Ent} (h : RingR w r lv l) (k : Nat) (hk : k < l.length) (hl : l.length ≤ 100000) (x : Ent) :
    Calls Tryz.prog 169 #[.pointer (some ⟨r, 0, none⟩), .int .i64 k, .agg #[.int .u64 x.lsn, .int .i64 x.at_, .int .i64 x.n, S x.bytes, .bool x.written]] w fun e w' => e = .returned (.bool true) ∧ RingR w' r lv (l.set k x) ∧ Chg (fun j => lv.ownBlock = some j) w w' :=
  RingSet_ok h k hk hl x
theorem RingSet_done {r : Nat} {lv : Value} {l : List Ent} (h : RingR w r lv l) (k : Nat) (hk : k < l.length) (hl : l.length ≤ 100000) (x : Ent) :
    Calls Tryz.prog 169 #[.pointer (some ⟨r, 0, none⟩), .int .i64 k, .agg #[.int .u64 x.lsn, .int .i64 x.at_, .int .i64 x.n, S [], .bool true]] w fun e w' => e = .returned (.bool true) ∧ RingR w' r lv (l.set k x.done) ∧ Chg (fun j => lv.ownBlock = some j) w w' :=
  RingSet_ok h k hk hl x.done

theorem LWrite_broken (hl : LogAt w g b L G) (hb : L.broken = true) :
    Calls Tryz.prog 43 #[.pointer (some ⟨g, 0, none⟩)] w fun e' w' => e' = .returned (.tuple #[.int .i64 0, .int .i64 13]) ∧ w = w' := by
  have H := Lib.hid hl
  have HB := Lib.hid hb
  clear hl hb
  go_enter Tryz.func43, Tryz.ntmps43
  go_wp2_with fail
  refine (mayL_ok H.out).mono ?_
  rw [HB.out]
  rintro e' w1 ⟨rfl, rfl⟩
  go_wp2_with fail
  go_ret2
  exact ⟨rfl, rfl⟩

/-- What a write of a log leaves of it. -/
structure Lg.Like (L L' : Lg) (k : Nat) : Prop where
  drop : L'.live.drop k = L.live.drop k
  len : L'.live.length = L.live.length
theorem Lg.Like.refl (L : Lg) : L.Like L 0 := ⟨rfl, rfl⟩
theorem Lg.Like.get {L L' : Lg} {k : Nat} (h : L.Like L' k) : L'.live[k]? = L.live[k]? := by
  have h1 := congrArg (fun l => l[0]?) h.drop
  simpa using h1
theorem Lg.Like.skip {L L' : Lg} {k : Nat} (h : L.Like L' k) : L.Like L' (k + 1) := by
  refine ⟨?_, h.len⟩
  have h1 := congrArg (fun l => l.drop 1) h.drop
  simpa using h1
theorem Lg.Like.wrote {L L' : Lg} {k : Nat} (h : L.Like L' k) (x : Ent) : L.Like (L'.wrote k x) (k + 1) := by
  refine ⟨?_, by show (L'.live.set k x.done).length = _; rw [List.length_set]; exact h.len⟩
  show (L'.live.set k x.done).drop (k + 1) = _
  rw [List.drop_set_of_lt (by omega)]
  exact h.skip.drop

set_option maxHeartbeats 3200000 in
set_option maxRecDepth 100000 in
theorem LWrite_go (hd : DiskAt w b D F) (hl : LogAt w g b L G) (hdj : ∀ k, F k → ¬ G k) (hg : L.Good) (hb : L.broken = false) (hf : D.FitN (16016 * L.live.length + 16016)) :
    Calls Tryz.prog 43 #[.pointer (some ⟨g, 0, none⟩)] w fun e' w' => e' = .returned (.tuple #[.int .i64 (writeGo L.live.length 0 0 D L).2.1, .int .i64 (writeGo L.live.length 0 0 D L).1]) ∧ St2 F G w w' b g (writeGo L.live.length 0 0 D L).2.2.1 (writeGo L.live.length 0 0 D L).2.2.2 := by
  obtain ⟨res, hres⟩ : ∃ res, writeGo L.live.length 0 0 D L = res := ⟨_, rfl⟩
  rw [hres]
  have H := Lib.hid hl
  have HD := Lib.hid hd
  have HB := Lib.hid hb
  have HG := Lib.hid hg
  have HF := Lib.hid hf
  have HDJ := Lib.hid hdj
  have HFL := Lib.hid hd.lt
  have HGL := Lib.hid hl.lt
  have HRES := Lib.hid hres
  obtain ⟨r, lv, hR⟩ := hl
  obtain ⟨_, _, _, _, _, _, _, _, _, _, _, _, _, _, c14, _⟩ := hR.cell
  have hlen := hg.len
  have HR := Lib.hid hR
  clear hd hb hf hdj hg hR hres
  go_enter Tryz.func43, Tryz.ntmps43
  go_wp2_with fail
  refine (mayL_ok H.out).mono ?_
  rw [HB.out]
  rintro e' w1 ⟨rfl, rfl⟩
  go_wp2_with fail
  refine (RingList_ok HR.out.ring (by omega)).mono ?_
  rintro e w2 ⟨v, rfl, ho2, hc2⟩
  obtain ⟨va, vc, hv⟩ : ∃ a c, v = .slice a L.live.length c := by
    rcases ho2.2 with ⟨hv, hn⟩ | ⟨g, cap, cur, hv, _⟩
    · exact ⟨none, 0, by rw [hv, hn]⟩
    · exact ⟨_, _, hv⟩
  have HV := Lib.hid hv
  rw [hv]
  have HO := Lib.hid ho2
  have HC := Lib.hid hc2
  have HS0 := Lib.hid (St2.refl (F := F) (G := G) (HD.out.no' hc2) (H.out.no hc2))
  have HFL2 := Lib.hid (fun k hk => Nat.lt_of_lt_of_le (HFL.out k hk) hc2.size : ∀ k, F k → k < w2.heap.size)
  have HGL2 := Lib.hid (fun k hk => Nat.lt_of_lt_of_le (HGL.out k hk) hc2.size : ∀ k, G k → k < w2.heap.size)
  clear ho2 hc2 hv c14
  go_wp2_with fail
  go_loopw [5, 20] (fun n i wr => ∃ (k m : Nat) (D' : Dk) (L' : Lg), k ≤ L.live.length ∧ m ≤ k ∧ i = .int .i64 k ∧ n = .int .i64 m ∧ Hid (writeGo (L.live.length - k) k m D' L' = res) ∧ Hid (St2 F G w2 wr b g D' L') ∧ Hid (L.Like L' k) ∧ Hid L'.Good ∧ Hid (D'.FitN (16016 * (L.live.length - k) + 16016))) (fun n i _ => L.live.length - (intOf i).toNat)
  case atStart => exact ⟨0, 0, D, L, Nat.zero_le _, Nat.le_refl _, rfl, rfl, HRES, HS0, Lib.hid (Lg.Like.refl L), HG, HF⟩
  case round =>
    obtain ⟨k, m, D', L', hk, hm, rfl, rfl, HW, HSt, HLk, HGd, HFn⟩ := hrel
    by_cases hlt : k < L.live.length
    · obtain ⟨gv, hgv⟩ : ∃ gv, va = some ⟨gv, 0, none⟩ := by
        rcases HO.out.2 with ⟨hv, hn⟩ | ⟨g, cap, cur, hv, _⟩
        · omega
        · rw [HV.out] at hv; simp at hv; exact ⟨g, hv.1⟩
      subst hgv
      obtain ⟨e0, e1, e2, e3, e4⟩ := flat_ent L.live k hlt
      have hob : v.ownBlock = some gv := by rw [HV.out]; rfl
      have hgvl := HO.out.lt gv hob
      have hgvn : ¬ (F gv ∨ G gv) := by
        rintro (h | h)
        · have := HFL.out _ h; omega
        · have := HGL.out _ h; omega
      have d0 := HSt.out.chg.cell (row_cell HO.out hob e0) hgvn
      have d1 := HSt.out.chg.cell (row_cell HO.out hob e1) hgvn
      have d2 := HSt.out.chg.cell (row_cell HO.out hob e2) hgvn
      have d3 := HSt.out.chg.cell (row_cell HO.out hob e3) hgvn
      have d4 := HSt.out.chg.cell (row_cell HO.out hob e4) hgvn
      have hget := HLk.out.get
      obtain ⟨x, hx⟩ : ∃ x, L.live[k] = x := ⟨_, rfl⟩
      rw [List.getElem?_eq_getElem hlt, hx] at hget
      rw [hx] at d0 d1 d2 d3 d4
      obtain ⟨f, hf⟩ : ∃ f, L.live.length - k = f + 1 := ⟨L.live.length - k - 1, by omega⟩
      have hstep := HW.out
      rw [hf, writeGo, hget] at hstep
      simp only at hstep
      have hxm : x ∈ L'.live := List.mem_of_getElem? hget
      have hxg := HGd.out.ents x hxm
      have hfk : f = L.live.length - (k + 1) := by omega
      have HFK := Lib.hid hfk
      have HHF := Lib.hid hf
      have HXM := Lib.hid hxm
      have hxn := hxg.1
      have HXG := Lib.hid hxg
      clear e0 e1 e2 e3 e4 hob hgvl hgvn hget hx hf hfk hxm hxg
      cases hxw : x.written
      · rw [hxw, if_neg (by decide)] at hstep
        rw [hxw] at d4
        have HSTEP := Lib.hid hstep
        have HXW := Lib.hid hxw
        clear hstep hxw
        go_wp2_with fail
        generalize hW : wr.alloc (.cells #[.int .u64 x.lsn, .int .i64 x.at_, .int .i64 x.n, S x.bytes, .bool false] 131) = W
        have hcW : Chg No wr W := by rw [← hW]; exact (Chg.refl _ _).alloc _
        have hbW : W.heap[wr.heap.size]? = some (.cells #[.int .u64 x.lsn, .int .i64 x.at_, .int .i64 x.n, S x.bytes, .bool false] 131 (0, 0)) := by rw [← hW]; exact blk_new _ _
        have hzW : W.heap.size = wr.heap.size + 1 := by rw [← hW]; simp
        have HCW := Lib.hid hcW
        have HBW := Lib.hid hbW
        have HZW := Lib.hid hzW
        clear hW hcW hbW hzW d0 d1 d2 d3 d4
        obtain ⟨pr, hpr⟩ : ∃ pr, D'.putE L' x = pr := ⟨_, rfl⟩
        have hpf : pr.2.FitN (16016 * f + 16016) := by
          rw [← hpr]
          exact putE_fit (HFn.out.le (by have := HHF.out; omega))
        have hst := HSTEP.out
        rw [hpr] at hst
        obtain ⟨c, D2⟩ := pr
        have HPR := Lib.hid hpr
        have HPF := Lib.hid hpf
        have HST := Lib.hid hst
        clear hpr hpf hst
        refine (put_lit (HSt.out.disk.no' HCW.out) (HSt.out.log.no HCW.out) (HSt.out.apart HDJ.out HGL2.out) HGd.out.ok x HXG.out.1 HXG.out.2.1 (HXG.out.2.2 HXW.out) ⟨HGd.out.b0, HGd.out.b1⟩ (HFn.out.le (by have := HHF.out; omega)) HXW.out).mono ?_
        rw [HPR.out]
        rintro e' w3 ⟨rfl, h3⟩
        have H3 := Lib.hid h3
        have hwF : ¬ grow F w2 wr wr.heap.size := by
          rintro (h | h)
          · have h1 := HFL.out _ h; have h2 := HC.out.size; have h3 := HSt.out.chg.size; omega
          · omega
        have hb3 := h3.2.obj HBW.out hwF
        have hl3 : LogAt w3 g b L' G := (HSt.out.log.no HCW.out).chg h3.2 (fun k hg hf => HSt.out.apart HDJ.out HGL2.out k hf hg)
        have HB3 := Lib.hid hb3
        have HL3 := Lib.hid hl3
        clear h3 hwF hb3 hl3
        by_cases hc : c = 0
        · subst hc
          have hstp := HST.out
          simp only [ne_eq, not_true_eq_false, if_false] at hstp
          have HSTP := Lib.hid hstp
          clear hstp HST
          obtain ⟨r3, lv3, hR3⟩ := HL3.out
          have hBg : g ≠ wr.heap.size := fun e => by have := HGL2.out g hR3.fg; have := HSt.out.chg.size; omega
          have hBG : ¬ G wr.heap.size := fun h => by have := HGL2.out _ h; have := HSt.out.chg.size; omega
          obtain ⟨b0, b1, b2, b3, b4⟩ := cells5 HB3.out
          have fB3 := free_of_blk HB3.out 3
          have fB4 := free_of_blk HB3.out 4
          have HR3 := Lib.hid hR3
          clear hR3
          go_wp2_with fail
          generalize hW4 : (w3.setCell ⟨wr.heap.size, 4, none⟩ (.bool true)).setCell ⟨wr.heap.size, 3, none⟩ (S []) = W4
          have hc4 : Chg (fun k => k = wr.heap.size) w3 W4 := by rw [← hW4]; exact ((Chg.refl (fun k => k = wr.heap.size) w3).setCell (p := ⟨wr.heap.size, 4, none⟩) (.inl rfl) _).setCell (p := ⟨wr.heap.size, 3, none⟩) (.inl rfl) _
          have hb4 : W4.heap[wr.heap.size]? = some (.cells #[.int .u64 x.lsn, .int .i64 x.at_, .int .i64 x.n, S [], .bool true] 131 (0, 0)) := by rw [← hW4]; exact blk_set (blk_set HB3.out 4 _) 3 _
          have hR4 := HR3.out.chg hc4 (fun k hk e => hBG (e ▸ hk))
          have HC4 := Lib.hid hc4
          have HB4 := Lib.hid hb4
          have HR4 := Lib.hid hR4
          clear hW4 hc4 hb4 hR4 b0 b1 b2 b3 b4 fB3 fB4
          obtain ⟨_, _, _, _, _, _, _, _, _, _, _, _, _, _, c14, _⟩ := HR4.out.cell
          obtain ⟨b0, b1, b2, b3, b4⟩ := cells5 HB4.out
          have HRG := Lib.hid (show RingR W4.drew r3 lv3 L'.live from HR4.out.ring.chg ((Chg.refl No W4).drew) id (fun _ _ => id))
          have hgz4 := World.block_lt_of_cell? W4 _ c14
          have hBz4 := World.block_lt_of_cell? W4 _ b0
          have hnl := HR4.out.nl
          have hnB : lv3.ownBlock ≠ some wr.heap.size := fun e => hBG (HR4.out.fl _ e)
          have hk' : k < L'.live.length := by rw [HLk.out.len]; exact hlt
          have hl' : L'.live.length ≤ 100000 := by rw [HLk.out.len]; omega
          go_region_held3 (fun w' => w'.cell? ⟨g, 14, none⟩ = some (.pointer (some ⟨r3, 0, none⟩)) ∧ w'.cell? ⟨wr.heap.size, 0, none⟩ = some (.int .u64 x.lsn) ∧ w'.cell? ⟨wr.heap.size, 1, none⟩ = some (.int .i64 x.at_) ∧ w'.cell? ⟨wr.heap.size, 2, none⟩ = some (.int .i64 x.n) ∧ w'.cell? ⟨wr.heap.size, 3, none⟩ = some (S []) ∧ w'.cell? ⟨wr.heap.size, 4, none⟩ = some (.bool true)) (go_keep)
            (first | (go_at_call 169; (with_reducible refine (RingSet_done HRG.out k hk' hl' x).mono ?_); rintro e' w5 ⟨rfl, hr5, hc5⟩; have hk5 : ∀ o, w5.cell? ⟨g, o, none⟩ = W4.cell? ⟨g, o, none⟩ := fun o => World.cell?_of_block (hc5.block g (by simpa using hgz4) hnl); have hk6 : ∀ o, w5.cell? ⟨wr.heap.size, o, none⟩ = W4.cell? ⟨wr.heap.size, o, none⟩ := fun o => World.cell?_of_block (hc5.block wr.heap.size (by simpa using hBz4) hnB)))
          have hR5 : LogR w5 g b r3 lv3 { L' with live := L'.live.set k x.done } G :=
            ⟨hc5.obj (show W4.drew.heap[g]? = _ from HR4.out.blk) hnl, hr5, HR4.out.fg, HR4.out.fr, HR4.out.fl, HR4.out.ngr, hnl, fun k hk => Nat.lt_of_lt_of_le (HR4.out.lt k hk) hc5.size⟩
          have hc5' : Chg G W4 w5 := ((Chg.refl G W4).drew).trans hc5 (fun k hk => .inl (HR4.out.fl k hk))
          have b05 := (hk6 0).trans b0
          have HR5 := Lib.hid hR5
          have HC5 := Lib.hid hc5'
          clear hk5 hk6 hr5 hc5 hR5 hc5' b0 b1 b2 b3 b4 c14
          have f12 := free_of_blk HR5.out.blk 12
          obtain ⟨_, _, _, _, _, _, _, _, _, _, _, _, c12, _⟩ := HR5.out.cell
          go_wp2_with fail
          refine ⟨⟨k + 1, m + 1, D2, L'.wrote k x, hlt, by omega, by go_num, by go_num, Lib.hid (by rw [← HFK.out]; exact HSTP.out), Lib.hid ?_, Lib.hid (HLk.out.wrote x), Lib.hid (HGd.out.wrote k x HXM.out), Lib.hid (HPF.out.le (by have := HFK.out; omega))⟩, by simp [intOf]; omega⟩
          have hR6 := HR5.out.set 12 (.int .u64 x.lsn) (L'.wrote k x) rfl rfl
          refine HSt.out.over HDJ.out HFL2.out HGL2.out HCW.out H3.out ?_ ⟨r3, lv3, hR6⟩
          have hz1 := HZW.out
          exact ((HC4.out.mono (fun k hk => .inr ⟨by omega, by omega⟩)).trans_same (HC5.out.mono (fun k hk => .inl hk))).setCell (p := ⟨g, 12, none⟩) (.inl (.inl HR5.out.fg)) _
        · have q0 : (c != 0) = true := by simpa using hc
          have HCN := Lib.hid hc
          clear hc
          go_wp2_with fail
          refine (failL_ok HL3.out c).mono ?_
          rintro e' w4 ⟨rfl, hl4, hc4⟩
          have HL4 := Lib.hid hl4
          have HC4 := Lib.hid hc4
          clear hl4 hc4
          go_wp2_with fail
          go_ret2
          have hst := HST.out
          rw [if_pos HCN.out] at hst
          rw [← hst]
          exact ⟨rfl, St2.pre HC.out (HSt.out.over HDJ.out HFL2.out HGL2.out HCW.out H3.out (HC4.out.mono (fun k hk => .inl (hk ▸ HL3.out.fg))) HL4.out) HFL.out⟩
      · rw [hxw, if_pos rfl] at hstep
        rw [hxw] at d4
        have HSTEP := Lib.hid hstep
        clear hstep hxw
        go_wp2_with fail
        have hs1 := HSt.out.no ((Chg.refl No wr).alloc (.cells #[.int .u64 x.lsn, .int .i64 x.at_, .int .i64 x.n, S x.bytes, .bool true] 131))
        refine ⟨⟨k + 1, m, D', L', hlt, by omega, by go_num, rfl, Lib.hid (by rw [← HFK.out]; exact HSTEP.out), Lib.hid hs1, Lib.hid HLk.out.skip, HGd, Lib.hid (HFn.out.le (by omega))⟩, by simp [intOf]; omega⟩
    · obtain rfl : k = L.live.length := by omega
      have hst := HW.out
      rw [Nat.sub_self, writeGo] at hst
      have HST := Lib.hid hst
      clear hst
      go_wp2_with fail
      go_ret2
      rw [← HST.out]
      exact ⟨rfl, St2.pre HC.out HSt.out HFL.out⟩
end
end Go.Proofs.YtmmnjecaedmleaaGreatDoor

/- wlog: Write whole, Sync: contracts. -/
namespace Go.Proofs.YtmmnjecaedmleaaGreatDoor
open Go.RowKit
attribute [local go_sem ↓] Go.wp_at_zero Go.wp_at_succ

def logSync (D : Dk) (L : Lg) : Int × Dk × Lg :=
  if (logWrite D L).1 ≠ 0 then ((logWrite D L).1, (logWrite D L).2.2)
  else if (logWrite D L).2.2.2.synced < (logWrite D L).2.2.2.written then
    (if ((logWrite D L).2.2.1.barrier (logWrite D L).2.2.2.node (logWrite D L).2.2.2.epoch).1 ≠ 0 then (((logWrite D L).2.2.1.barrier (logWrite D L).2.2.2.node (logWrite D L).2.2.2.epoch).1, ((logWrite D L).2.2.1.barrier (logWrite D L).2.2.2.node (logWrite D L).2.2.2.epoch).2, (logWrite D L).2.2.2.fail ((logWrite D L).2.2.1.barrier (logWrite D L).2.2.2.node (logWrite D L).2.2.2.epoch).1)
     else (0, ((logWrite D L).2.2.1.barrier (logWrite D L).2.2.2.node (logWrite D L).2.2.2.epoch).2, { (logWrite D L).2.2.2 with synced := (logWrite D L).2.2.2.written }))
  else (0, (logWrite D L).2.2)

section
variable {w : World} {g b : Nat} {D : Dk} {F : Nat → Prop} {L : Lg} {G : Nat → Prop}

theorem logWrite_good (h : L.Good) : (logWrite D L).2.2.2.Good := by
  unfold logWrite
  split
  · exact h
  · exact writeGo_good _ _ _ h
theorem logWrite_fit {N : Nat} (hg : L.Good) (h : D.FitN (N + 16016 * L.live.length)) : (logWrite D L).2.2.1.FitN N := by
  unfold logWrite
  split
  · exact h.le (by omega)
  · exact writeGo_fit _ _ _ hg h

theorem LWrite_ok (hd : DiskAt w b D F) (hl : LogAt w g b L G) (hdj : ∀ k, F k → ¬ G k) (hg : L.Good) (hf : D.FitN (16016 * L.live.length + 16016)) :
    Calls Tryz.prog 43 #[.pointer (some ⟨g, 0, none⟩)] w fun e' w' => e' = .returned (.tuple #[.int .i64 (logWrite D L).2.1, .int .i64 (logWrite D L).1]) ∧ St2 F G w w' b g (logWrite D L).2.2.1 (logWrite D L).2.2.2 := by
  unfold logWrite
  cases hb : L.broken
  · rw [if_neg (by decide)]
    exact LWrite_go hd hl hdj hg hb hf
  · rw [if_pos rfl]
    refine (LWrite_broken hl hb).mono ?_
    rintro e' w' ⟨rfl, rfl⟩
    exact ⟨rfl, St2.refl hd hl⟩

set_option maxHeartbeats 1600000 in
set_option maxRecDepth 100000 in
theorem Sync_ok (hd : DiskAt w b D F) (hl : LogAt w g b L G) (hdj : ∀ k, F k → ¬ G k) (hg : L.Good) (hf : D.FitN (16016 * L.live.length + 16016)) :
    Calls Tryz.prog 16 #[.pointer (some ⟨g, 0, none⟩)] w fun e' w' => e' = .returned (.int .i64 (logSync D L).1) ∧ St2 F G w w' b g (logSync D L).2.1 (logSync D L).2.2 := by
  have HF1 := Lib.hid ((logWrite_fit (N := 16016) hg (hf.le (by omega))).fit)
  have H := Lib.hid hl
  have HD := Lib.hid hd
  have HG := Lib.hid hg
  have HF := Lib.hid hf
  have HDJ := Lib.hid hdj
  have HFL := Lib.hid hd.lt
  have HGL := Lib.hid hl.lt
  unfold logSync
  obtain ⟨x, hx⟩ : ∃ x, logWrite D L = x := ⟨_, rfl⟩
  obtain ⟨c, n, D1, L1⟩ := x
  rw [hx] at HF1 ⊢
  have HX := Lib.hid hx
  clear hd hl hdj hg hf hx
  simp only at HF1 ⊢
  by_cases hc : c = 0
  · subst hc
    rw [if_neg (by simp)]
    by_cases hs : L1.synced < L1.written
    · rw [if_pos hs]
      obtain ⟨y, hy⟩ : ∃ y, D1.barrier L1.node L1.epoch = y := ⟨_, rfl⟩
      obtain ⟨c2, D2⟩ := y
      rw [hy]
      have HY := Lib.hid hy
      have hs' : (L1.synced : Int) < (L1.written : Int) := by omega
      clear hy hs
      go_enter Tryz.func16, Tryz.ntmps16
      go_wp2_with fail
      refine (LWrite_ok HD.out H.out HDJ.out HG.out HF.out).mono ?_
      rw [HX.out]
      rintro e' w1 ⟨rfl, h1⟩
      have H1 := Lib.hid h1
      obtain ⟨r, lv, hR⟩ := h1.log
      obtain ⟨c0, _, _, _, _, _, c6, c7, _, _, _, _, c12, c13, _⟩ := hR.cell
      have hgz := World.block_lt_of_cell? w1 _ c0
      have hgn : ¬ grow F w w1 g := fun h => H1.out.apart HDJ.out HGL.out g h hR.fg
      clear h1
      go_wp2_with fail
      go_quiet (fail)
      generalize hW : w1.drewN nq = W
      have hcW : Chg No w1 W := by rw [← hW]; exact (Chg.refl _ _).drewN nq
      have d0 := hcW.cell c0 id
      have d6 := hcW.cell c6 id
      have d7 := hcW.cell c7 id
      have hR' := hR.chg hcW.drew (fun _ _ => id)
      have HDW := Lib.hid (H1.out.disk.no' hcW.drew)
      have HCW := Lib.hid hcW.drew
      have HR := Lib.hid hR'
      have hgw : g < W.heap.size := World.block_lt_of_cell? W _ d0
      clear hR hR' hW hcW c0 c6 c7 c12 c13
      go_wp2_with fail
      go_region_held3 (fun w' => w'.cell? ⟨g, 0, none⟩ = some (.pointer (some ⟨b, 0, none⟩)) ∧ w'.cell? ⟨g, 6, none⟩ = some (.int .i64 L1.node) ∧ w'.cell? ⟨g, 7, none⟩ = some (.int .u64 L1.epoch)) (go_keep)
        (first | (go_at_call 17; (with_reducible refine (Barrier_ok HDW.out HF1.out L1.node L1.epoch).mono ?_); rw [HY.out]; rintro e w2 ⟨rfl, hd2, hc2⟩; have hk2 : ∀ o, w2.cell? ⟨g, o, none⟩ = W.cell? ⟨g, o, none⟩ := fun o => World.cell?_of_block (hc2.block g (by simpa using hgw) hgn)))
      all_goals
        have hR2 := HR.out.chg hc2 (fun k hk hf => H1.out.apart HDJ.out HGL.out k hf hk)
        have HR2 := Lib.hid hR2
        have HS2 := Lib.hid (show St (grow F w w1) W.drew w2 b D2 from ⟨hd2, hc2⟩)
        clear hR2 hd2 hc2 hk2 d0 d6 d7
        by_cases hc2 : c2 = 0
        · subst hc2
          obtain ⟨_, _, _, _, _, _, _, _, _, _, _, _, c12, _⟩ := HR2.out.cell
          have f13 := free_of_blk HR2.out.blk 13
          go_wp2_with fail
          go_ret
          refine ⟨rfl, H1.out.over HDJ.out HFL.out HGL.out HCW.out HS2.out ?_ ⟨r, lv, HR2.out.set 13 (.int .u64 L1.written) { L1 with synced := L1.written } rfl rfl⟩⟩
          exact (Chg.refl _ _).setCell (p := ⟨g, 13, none⟩) (.inl (.inl HR2.out.fg)) _
        · have q0 : (c2 != 0) = true := by simpa using hc2
          have HCN := Lib.hid hc2
          clear hc2
          go_wp2_with fail
          refine (failL_ok ⟨r, lv, HR2.out⟩ c2).mono ?_
          rintro e' w4 ⟨rfl, hl4, hc4⟩
          have HL4 := Lib.hid hl4
          have HC4 := Lib.hid hc4
          clear hl4 hc4
          go_wp2_with fail
          go_ret
          (try rw [if_pos HCN.out])
          exact ⟨rfl, H1.out.over HDJ.out HFL.out HGL.out HCW.out HS2.out (HC4.out.mono (fun k hk => .inl (hk ▸ HR2.out.fg))) HL4.out⟩
    · rw [if_neg hs]
      have hs' : decide (L1.synced < L1.written) = false := by simp only [decide_eq_false_iff_not]; omega
      clear hs
      go_enter Tryz.func16, Tryz.ntmps16
      go_wp2_with fail
      refine (LWrite_ok HD.out H.out HDJ.out HG.out HF.out).mono ?_
      rw [HX.out]
      rintro e' w1 ⟨rfl, h1⟩
      have H1 := Lib.hid h1
      obtain ⟨r, lv, hR⟩ := h1.log
      obtain ⟨_, _, _, _, _, _, _, _, _, _, _, _, c12, c13, _⟩ := hR.cell
      clear h1 hR
      go_wp2_with fail
      go_quiet (fail)
      go_wp2_with fail
      go_ret
      exact ⟨rfl, H1.out.no ((Chg.refl No w1).drewN nq)⟩
  · rw [if_pos hc]
    have q0 : (c != 0) = true := by simpa using hc
    clear hc
    go_enter Tryz.func16, Tryz.ntmps16
    go_wp2_with fail
    refine (LWrite_ok HD.out H.out HDJ.out HG.out HF.out).mono ?_
    rw [HX.out]
    rintro e' w1 ⟨rfl, h1⟩
    have H1 := Lib.hid h1
    clear h1
    go_wp2_with fail
    go_ret
    exact ⟨rfl, H1.out⟩
end
end Go.Proofs.YtmmnjecaedmleaaGreatDoor
