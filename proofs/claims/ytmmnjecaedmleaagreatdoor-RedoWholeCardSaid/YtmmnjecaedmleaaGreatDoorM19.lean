import Derived.Test.YtmmnjecaedmleaaGreatDoorM18
import Derived.Deep.DeepCutAuto

/- wlog: put: contract. -/
namespace Go.Proofs.YtmmnjecaedmleaaGreatDoor
open Go.RowKit
attribute [local go_sem ↓] Go.wp_at_zero Go.wp_at_succ

def putAt (L : Lg) (x : Ent) (i : Nat) : Nat := (x.at_ + i) % (L.s.log - 1)
def putN (L : Lg) (x : Ent) (i : Nat) : Nat := min 16 (min (x.n - i) (L.s.log - 1 - putAt L x i))
def Dk.put1 (D : Dk) (L : Lg) (x : Ent) (i : Nat) : Int × Dk := D.write L.node L.epoch (L.base + 1 + putAt L x i) ((x.bytes.drop (64 * i)).take (64 * putN L x i))
def Dk.putFrom (L : Lg) (x : Ent) : Nat → Nat → Dk → Int × Dk
  | 0, _, D => (0, D)
  | f + 1, i, D => if x.n ≤ i then (0, D) else if (D.put1 L x i).1 ≠ 0 then D.put1 L x i else Dk.putFrom L x f (i + putN L x i) (D.put1 L x i).2
def Dk.putE (D : Dk) (L : Lg) (x : Ent) : Int × Dk := Dk.putFrom L x x.n 0 D

theorem putFrom_fit {L : Lg} {x : Ent} : ∀ (f i : Nat) {D : Dk} {N : Nat}, D.FitN (N + 16 * f) → (Dk.putFrom L x f i D).2.FitN N
  | 0, _, D, N, h => h.le (by omega)
  | f + 1, i, D, N, h => by
    unfold Dk.putFrom
    split
    · exact h.le (by omega)
    · split
      · exact write_fitN (h.le (by omega))
      · exact putFrom_fit f _ (write_fitN (N := N + 16 * f) (h.le (by omega)))

section
variable {w : World} {g b : Nat} {D : Dk} {F : Nat → Prop} {L : Lg} {G : Nat → Prop}

set_option maxHeartbeats 3200000 in
set_option maxRecDepth 100000 in
theorem put_ok (hd : DiskAt w b D F) (hl : LogAt w g b L G) (hdj : ∀ k, F k → ¬ G k) (hs : L.s.Ok) (x : Ent) (hn : x.n ≤ 1000) (ha : x.at_ ≤ 256) (hbl : x.bytes.length = 64 * x.n) (hbase : 0 ≤ L.base ∧ L.base ≤ 1000000) (hf : D.FitN (16 * x.n + 16)) :
    Calls Tryz.prog 168 #[.pointer (some ⟨g, 0, none⟩), x.val] w fun e' w' => e' = .returned (.int .i64 (D.putE L x).1) ∧ St F w w' b (D.putE L x).2 := by
  have H := Lib.hid hl
  have HD := Lib.hid hd
  have HS := Lib.hid hs
  have HF := Lib.hid hf
  have HFL := Lib.hid hd.lt
  have HDJ := Lib.hid hdj
  obtain ⟨r, lv, hR⟩ := hl
  have hgF : ¬ F g := fun h => hdj g h hR.fg
  have HR := Lib.hid hR
  have hgz : g < w.heap.size := blk_lt hR.blk
  have hl1 := hs.l1
  have hl2 := hs.l2
  obtain ⟨hb0, hb1⟩ := hbase
  obtain ⟨x0, x1, x2, x3, x4⟩ := x
  unfold Ent.val Ent.cells
  clear hd hs hf hdj hR
  obtain ⟨res, hres⟩ : ∃ res, D.putE L ⟨x0, x1, x2, x3, x4⟩ = res := ⟨_, rfl⟩
  rw [hres]
  have HRES := Lib.hid hres
  clear hres
  go_enter Tryz.func168, Tryz.ntmps168
  go_wp2_with fail
  generalize hW0 : w.alloc (.cells #[.int .u64 x0, .int .i64 x1, .int .i64 x2, S x3, .bool x4] 131) = W0
  have hcW0 : Chg No w W0 := by rw [← hW0]; exact (Chg.refl _ _).alloc _
  have hxW0 : W0.heap[w.heap.size]? = some (.cells #[.int .u64 x0, .int .i64 x1, .int .i64 x2, S x3, .bool x4] 131 (0, 0)) := by rw [← hW0]; exact blk_new _ _
  have HD0 := Lib.hid (HD.out.no' hcW0)
  have HX0 := Lib.hid hxW0
  have HC0 := Lib.hid hcW0
  have HR0 := Lib.hid (HR.out.chg hcW0 (fun _ _ => id))
  have hwF : ¬ F w.heap.size := fun h => by have := HFL.out _ h; omega
  clear hW0 hcW0 hxW0
  go_loopw [5] (fun i wr => ∃ (k f : Nat) (D' : Dk), k ≤ x2 ∧ x2 ≤ k + f ∧ i = .int .i64 k ∧ Hid (Dk.putFrom L ⟨x0, x1, x2, x3, x4⟩ f k D' = res) ∧ Hid (D'.FitN (16 * f + 16)) ∧ Hid (St F W0 wr b D')) (fun i _ => x2 - (intOf i).toNat)
  case atStart => exact ⟨0, x2, D, Nat.zero_le _, by omega, rfl, HRES, Lib.hid HF.out, Lib.hid (St.refl HD0.out)⟩
  case round =>
    obtain ⟨k, f, D', hk, hkf, rfl, HP, HF', HSt⟩ := hrel
    have hxr := HSt.out.2.obj HX0.out hwF
    have hRr := HR0.out.chg HSt.out.2 (fun j hj hf => HDJ.out j hf hj)
    obtain ⟨b0, b1, b2, b3, b4⟩ := cells5 hxr
    by_cases hlt : k < x2
    · obtain ⟨c0, _, _, _, _, _, c6, c7, c8, _⟩ := hRr.cell
      have hgr : g < wr.heap.size := blk_lt hRr.blk
      have hwr : w.heap.size < wr.heap.size := blk_lt hxr
      obtain ⟨at_, hat⟩ : ∃ at_, putAt L ⟨x0, x1, x2, x3, x4⟩ k = at_ := ⟨_, rfl⟩
      obtain ⟨n, hn1⟩ : ∃ n, putN L ⟨x0, x1, x2, x3, x4⟩ k = n := ⟨_, rfl⟩
      have hat' : (x1 + k) % (L.s.log - 1) = at_ := hat
      have hatl : at_ < L.s.log - 1 := by rw [← hat']; exact Nat.mod_lt _ (by omega)
      have hn' : min 16 (min (x2 - k) (L.s.log - 1 - at_)) = n := by rw [← hn1, putN, hat]
      have hLd := Lib.hid (show LogAt wr.drew g b L G from ⟨r, lv, hRr.chg ((Chg.refl No wr).drew) (fun _ _ => id)⟩)
      have HRr := Lib.hid hRr
      have HXr := Lib.hid hxr
      have HAT := Lib.hid hat
      have HN1 := Lib.hid hn1
      have w1 : IntKind.i64.wrap ((x1 : Int) + (k : Int)) = (x1 : Int) + (k : Int) := IntWalk.i64_in _ (by omega)
      have m1 : ((x1 : Int) + (k : Int)).tmod ((L.s.log - 1 : Nat) : Int) = (at_ : Int) := by rw [Int.tmod_eq_emod_of_nonneg (by omega), ← hat', ← Int.natCast_add, ← Int.natCast_emod]
      have z1 : ((L.s.log - 1 : Nat) : Int) ≠ 0 := by omega
      have z3 : ¬ (L.s.log - 1 = 0) := by omega
      have z2 : (((L.s.log - 1 : Nat) : Int) == 0) = false := by simp only [beq_eq_false_iff_ne]; omega
      clear hat hn1 hat' hRr hxr
      go_upto_region 3 with (fail)
      go_cut [6] (fun x wx => x = .int .i64 at_ ∧ Hid (Chg No wr wx))
      case first =>
        go_region_held3 (fun w' => w'.cell? ⟨w.heap.size, 1, none⟩ = some (.int .i64 x1)) (go_keep)
          (first | (go_at_call 76; (with_reducible refine (sizeL_ok hLd.out HS.out).mono ?_); rintro e' w6 ⟨rfl, rfl⟩))
        all_goals (go_wp2_with fail; go_meet)
        all_goals exact ⟨rfl, Lib.hid ((Chg.refl No wr).drew)⟩
      case rest =>
        obtain ⟨rfl, HC1⟩ := hcut
        have hx1 := HC1.out.obj HXr.out id
        have hR1 := HRr.out.chg HC1.out (fun _ _ => id)
        clear b0 b1 b2 b3 b4 c0 c6 c7 c8 w1 m1 z1 z2 z3
        obtain ⟨b0, b1, b2, b3, b4⟩ := cells5 hx1
        have hw1 : w.heap.size < wc.heap.size := blk_lt hx1
        have hLd1 := Lib.hid (show LogAt wc.drew g b L G from ⟨r, lv, hR1.chg ((Chg.refl No wc).drew) (fun _ _ => id)⟩)
        have HX1 := Lib.hid hx1
        have HR1 := Lib.hid hR1
        have w2 : IntKind.i64.wrap ((x2 : Int) - (k : Int)) = (x2 : Int) - (k : Int) := IntWalk.i64_in _ (by omega)
        have w3 : IntKind.i64.wrap (((L.s.log - 1 : Nat) : Int) - (at_ : Int)) = ((L.s.log - 1 : Nat) : Int) - (at_ : Int) := IntWalk.i64_in _ (by omega)
        have m2 : min (min (16 : Int) ((x2 : Int) - (k : Int))) (((L.s.log - 1 : Nat) : Int) - (at_ : Int)) = (n : Int) := by omega
        have m3 : min (16 : Int) (min ((x2 : Int) - (k : Int)) (((L.s.log - 1 : Nat) : Int) - (at_ : Int))) = (n : Int) := by omega
        have HN' := Lib.hid hn'
        have HATL := Lib.hid hatl
        clear hx1 hR1 hn' hatl
        go_upto_region 4 with (fail)
        go_cut [7] (fun x wx => x = .int .i64 n ∧ Hid (Chg No wr wx))
        case first =>
          go_region_held3 (fun w' => w'.cell? ⟨w.heap.size, 2, none⟩ = some (.int .i64 x2)) (go_keep)
            (first | (go_at_call 76; (with_reducible refine (sizeL_ok hLd1.out HS.out).mono ?_); rintro e' w6 ⟨rfl, rfl⟩))
          all_goals (go_wp2_with fail)
          all_goals go_meet
          all_goals exact ⟨by congr 1; have := HN'.out; have := HATL.out; omega, Lib.hid (HC1.out.drew)⟩
        case rest =>
          obtain ⟨rfl, HC2⟩ := hcut
          rename_i wo
          clear b0 b1 b2 b3 b4 w2 w3 m2 m3 hw1
          have hx2 := HC2.out.obj HXr.out id
          have hR2 := HRr.out.chg HC2.out (fun _ _ => id)
          have h2 := HSt.out.no HC2.out
          obtain ⟨c0, _, _, _, _, _, c6, c7, c8, _⟩ := hR2.cell
          obtain ⟨b0, b1, b2, b3, b4⟩ := cells5 hx2
          have hn16 : 1 ≤ n ∧ n ≤ 16 ∧ k + n ≤ x2 := by have := HN'.out; have := HATL.out; omega
          have hatl := HATL.out
          obtain ⟨dt, hdt⟩ : ∃ dt, (x3.drop (64 * k)).take (64 * n) = dt := ⟨_, rfl⟩
          have sr : ∀ wx : World, (Instr.slice 9 (S x3) (some (.int .i64 ((k : Int) * 64))) (some (.int .i64 (((k : Int) + (n : Int)) * 64))) none).run Tryz.prog wx = .ok (S dt) wx := by
            intro wx
            have h := run_slice_string (P := Tryz.prog) wx 9 (.mk x3.toArray) .i64 .i64 ((k : Int) * 64) (((k : Int) + (n : Int)) * 64) (by kernel_rfl) (by omega) (by omega) (by simp [ByteArray.size]; omega)
            rw [show ((k : Int) * 64).toNat = 64 * k by omega, show (((k : Int) + (n : Int)) * 64).toNat = 64 * k + 64 * n by omega, ByteArray.extract_mk, show 64 * k + 64 * n - 64 * k = 64 * n by omega, hdt] at h
            exact h
          have w1 : IntKind.i64.wrap (L.base + 1) = L.base + 1 := IntWalk.i64_in _ (by omega)
          have w2 : IntKind.i64.wrap (L.base + 1 + (at_ : Int)) = L.base + 1 + (at_ : Int) := IntWalk.i64_in _ (by omega)
          have w3 : IntKind.i64.wrap ((k : Int) * 64) = (k : Int) * 64 := IntWalk.i64_in _ (by omega)
          have w4 : IntKind.i64.wrap ((k : Int) + (n : Int)) = (k : Int) + (n : Int) := IntWalk.i64_in _ (by omega)
          have w5 : IntKind.i64.wrap (((k : Int) + (n : Int)) * 64) = ((k : Int) + (n : Int)) * 64 := IntWalk.i64_in _ (by omega)
          obtain ⟨f', rfl⟩ : ∃ f', f = f' + 1 := ⟨f - 1, by omega⟩
          obtain ⟨pr, hpr⟩ : ∃ pr, D'.write L.node L.epoch (L.base + 1 + (at_ : Int)) dt = pr := ⟨_, rfl⟩
          have hp1 : D'.put1 L ⟨x0, x1, x2, x3, x4⟩ k = pr := by
            unfold Dk.put1
            rw [HAT.out, HN1.out, hdt]
            exact hpr
          have hstep := HP.out
          unfold Dk.putFrom at hstep
          rw [if_neg (by show ¬ (x2 ≤ k); omega), hp1, HN1.out] at hstep
          have hpf : pr.2.FitN (16 * f' + 16) := by
            have := write_fitN (N := 16 * f' + 16) (node := L.node) (epoch := L.epoch) (at_ := L.base + 1 + (at_ : Int)) (data := dt) (HF'.out.le (by omega))
            rwa [hpr] at this
          obtain ⟨c, D2⟩ := pr
          have hdl : dt.length ≤ 1000000 := by rw [← hdt, List.length_take]; omega
          have HDW := Lib.hid (h2.no ((Chg.refl No _).drew)).1
          have HST2 := Lib.hid (h2.no ((Chg.refl No _).drew))
          have HFW := Lib.hid HF'.out.fit
          have HPR := Lib.hid hpr
          have HSTEP := Lib.hid hstep
          have HPF := Lib.hid hpf
          clear hx2 hR2 h2 hdt hpr hp1 hstep hpf
          have hgc := World.block_lt_of_cell? wc _ c0
          have hwc := World.block_lt_of_cell? wc _ b3
          have hgW : g < W0.heap.size := blk_lt HR0.out.blk
          have hwW : w.heap.size < W0.heap.size := blk_lt HX0.out
          have hgn : ¬ grow F W0 wc.drew g := fun h => h.elim hgF (fun e => by omega)
          have hwn : ¬ grow F W0 wc.drew w.heap.size := fun h => h.elim hwF (fun e => by omega)
          by_cases hc : c = 0
          · subst hc
            go_wp2_with fail
            go_region_held3 (fun w' => w'.cell? ⟨g, 0, none⟩ = some (.pointer (some ⟨b, 0, none⟩)) ∧ w'.cell? ⟨g, 6, none⟩ = some (.int .i64 L.node) ∧ w'.cell? ⟨g, 7, none⟩ = some (.int .u64 L.epoch) ∧ w'.cell? ⟨g, 8, none⟩ = some (.int .i64 L.base) ∧ w'.cell? ⟨w.heap.size, 3, none⟩ = some (S x3)) (go_keep)
              (first | (go_at_call 69; (with_reducible refine (Write_ok HDW.out HFW.out L.node L.epoch (L.base + 1 + (at_ : Int)) dt (by omega)).mono ?_); rw [HPR.out]; rintro e w7 ⟨rfl, hd7, hc7⟩; have H7 := Lib.hid (HST2.out.next hd7 hc7); have hk7 : ∀ o, w7.cell? ⟨g, o, none⟩ = wc.cell? ⟨g, o, none⟩ := fun o => World.cell?_of_block (hc7.block g (by simpa using hgc) hgn); have hk8 : ∀ o, w7.cell? ⟨w.heap.size, o, none⟩ = wc.cell? ⟨w.heap.size, o, none⟩ := fun o => World.cell?_of_block (hc7.block w.heap.size (by simpa using hwc) hwn); clear hd7 hc7))
            all_goals clear hk7 hk8 sr
            all_goals go_wp2_with fail
            all_goals refine ⟨⟨k + n, f', D2, by omega, by omega, by simp, Lib.hid ?_, HPF, H7⟩, by simp [intOf]; omega⟩
            all_goals exact HSTEP.out
          · have q0 : (c != 0) = true := by simpa using hc
            have HCN := Lib.hid hc
            clear hc
            go_wp2_with fail
            go_region_held3 (fun w' => w'.cell? ⟨g, 0, none⟩ = some (.pointer (some ⟨b, 0, none⟩)) ∧ w'.cell? ⟨g, 6, none⟩ = some (.int .i64 L.node) ∧ w'.cell? ⟨g, 7, none⟩ = some (.int .u64 L.epoch) ∧ w'.cell? ⟨g, 8, none⟩ = some (.int .i64 L.base) ∧ w'.cell? ⟨w.heap.size, 3, none⟩ = some (S x3)) (go_keep)
              (first | (go_at_call 69; (with_reducible refine (Write_ok HDW.out HFW.out L.node L.epoch (L.base + 1 + (at_ : Int)) dt (by omega)).mono ?_); rw [HPR.out]; rintro e w7 ⟨rfl, hd7, hc7⟩; have H7 := Lib.hid (HST2.out.next hd7 hc7); have hk7 : ∀ o, w7.cell? ⟨g, o, none⟩ = wc.cell? ⟨g, o, none⟩ := fun o => World.cell?_of_block (hc7.block g (by simpa using hgc) hgn); have hk8 : ∀ o, w7.cell? ⟨w.heap.size, o, none⟩ = wc.cell? ⟨w.heap.size, o, none⟩ := fun o => World.cell?_of_block (hc7.block w.heap.size (by simpa using hwc) hwn); clear hd7 hc7))
            all_goals clear hk7 hk8 sr
            all_goals go_wp2_with fail
            all_goals go_ret
            all_goals (have hst := HSTEP.out; rw [if_pos (by simpa using HCN.out)] at hst; rw [← hst]; exact ⟨rfl, St.pre HC0.out H7.out HFL.out⟩)
    · obtain rfl : k = x2 := by omega
      have hst := HP.out
      have hst2 : res = (0, D') := by
        rw [← hst]
        cases f with
        | zero => rfl
        | succ f => unfold Dk.putFrom; rw [if_pos (Nat.le_refl _)]
      have HST := Lib.hid hst2
      clear hst hst2 hxr hRr
      go_wp2_with fail
      go_ret
      rw [HST.out]
      exact ⟨rfl, St.pre HC0.out HSt.out HFL.out⟩
end
end Go.Proofs.YtmmnjecaedmleaaGreatDoor

/- wlog: Write: what it does; the frame of a disk and a log. -/
namespace Go.Proofs.YtmmnjecaedmleaaGreatDoor
open Go.RowKit

def Ent.done (x : Ent) : Ent := { x with written := true, bytes := [] }
def Lg.wrote (L : Lg) (k : Nat) (x : Ent) : Lg := { L with live := L.live.set k x.done, written := x.lsn }
/-- Write, from entry k on: the errno, how many, the disk, the log. -/
def writeGo : Nat → Nat → Nat → Dk → Lg → Int × Nat × Dk × Lg
  | 0, _, n, D, L => (0, n, D, L)
  | f + 1, k, n, D, L => match L.live[k]? with
    | none => (0, n, D, L)
    | some x => if x.written = true then writeGo f (k + 1) n D L else if (D.putE L x).1 ≠ 0 then ((D.putE L x).1, 0, (D.putE L x).2, L.fail (D.putE L x).1) else writeGo f (k + 1) (n + 1) (D.putE L x).2 (L.wrote k x)
def logWrite (D : Dk) (L : Lg) : Int × Nat × Dk × Lg := if L.broken then (13, 0, D, L) else writeGo L.live.length 0 0 D L

structure Lg.Good (L : Lg) : Prop where
  ok : L.s.Ok
  b0 : 0 ≤ L.base
  b1 : L.base ≤ 1000000
  len : L.live.length ≤ 1000
  ents : ∀ x ∈ L.live, x.n ≤ 1000 ∧ x.at_ ≤ 256 ∧ (x.written = false → x.bytes.length = 64 * x.n)
theorem Lg.Good.wrote {L : Lg} (h : L.Good) (k : Nat) (x : Ent) (hx : x ∈ L.live) : (L.wrote k x).Good := by
  refine ⟨h.ok, h.b0, h.b1, by show (L.live.set k x.done).length ≤ 1000; rw [List.length_set]; exact h.len, fun y hy => ?_⟩
  rcases List.mem_or_eq_of_mem_set hy with h1 | rfl
  · exact h.ents y h1
  · obtain ⟨a, b, _⟩ := h.ents x hx
    exact ⟨a, b, fun e => by simp [Ent.done] at e⟩
theorem Lg.Good.fail {L : Lg} (h : L.Good) (e : Int) : (L.fail e).Good := by
  unfold Lg.fail
  split
  · exact ⟨h.ok, h.b0, h.b1, h.len, h.ents⟩
  · exact h
theorem writeGo_good : ∀ (f k n : Nat) {D : Dk} {L : Lg}, L.Good → (writeGo f k n D L).2.2.2.Good
  | 0, _, _, _, _, h => h
  | f + 1, k, n, D, L, h => by
    unfold writeGo
    split
    · exact h
    · rename_i x hx
      split
      · exact writeGo_good f (k + 1) n h
      · split
        · exact h.fail _
        · exact writeGo_good f (k + 1) (n + 1) (h.wrote k x (List.mem_of_getElem? hx))
theorem putE_fit {D : Dk} {L : Lg} {x : Ent} {N : Nat} (h : D.FitN (N + 16 * x.n)) : (D.putE L x).2.FitN N := putFrom_fit x.n 0 h
theorem writeGo_fit : ∀ (f k n : Nat) {D : Dk} {L : Lg} {N : Nat}, L.Good → D.FitN (N + 16016 * f) → (writeGo f k n D L).2.2.1.FitN N
  | 0, _, _, _, _, _, _, h => h.le (by omega)
  | f + 1, k, n, D, L, N, hg, h => by
    unfold writeGo
    split
    · exact h.le (by omega)
    · rename_i x hx
      have hxm := List.mem_of_getElem? hx
      have hxn := (hg.ents x hxm).1
      split
      · exact writeGo_fit f (k + 1) n hg (h.le (by omega))
      · split
        · exact putE_fit (h.le (by omega))
        · exact writeGo_fit f (k + 1) (n + 1) (hg.wrote k x hxm) (putE_fit (h.le (by omega)))

/-- From w to w' only the disk's and the log's blocks were touched. -/
structure St2 (F G : Nat → Prop) (w w' : World) (b g : Nat) (D : Dk) (L : Lg) : Prop where
  disk : DiskAt w' b D (grow F w w')
  log : LogAt w' g b L G
  chg : Chg (fun k => F k ∨ G k) w w'
section
variable {w w1 w2 : World} {b g : Nat} {D D2 : Dk} {L L2 : Lg} {F G : Nat → Prop}
theorem St2.refl (hd : DiskAt w b D F) (hl : LogAt w g b L G) : St2 F G w w b g D L := ⟨hd.no (Chg.refl _ _), hl, Chg.refl _ _⟩
theorem St2.apart (h : St2 F G w w1 b g D L) (hdj : ∀ k, F k → ¬ G k) (hG : ∀ k, G k → k < w.heap.size) : ∀ k, grow F w w1 k → ¬ G k := by
  rintro k (hk | hk) hg
  · exact hdj k hk hg
  · have := hG k hg; omega
theorem St2.no (h : St2 F G w w1 b g D L) (hc : Chg No w1 w2) : St2 F G w w2 b g D L :=
  ⟨(h.disk.chg hc (fun _ _ => id)).wide (fun k hk => hk.imp id (fun e => ⟨e.1, by have := hc.size; omega⟩)) (fun k hk => by
    rcases hk with e | e
    · have := h.disk.lt k (.inl e); have := hc.size; omega
    · exact e.2), h.log.no hc, h.chg.trans_no hc⟩
theorem St2.next (h : St2 F G w w1 b g D L) (hdj : ∀ k, F k → ¬ G k) (hG : ∀ k, G k → k < w.heap.size) (h2 : DiskAt w2 b D2 (grow (grow F w w1) w1 w2)) (hc : Chg (grow F w w1) w1 w2) : St2 F G w w2 b g D2 L :=
  ⟨h2.wide (grow_grow h.chg.size hc.size) (fun k hk => by
    rcases hk with e | e
    · have := h.disk.lt k (.inl e); have := hc.size; omega
    · exact e.2), h.log.chg hc (fun k hk hf => h.apart hdj hG k hf hk), h.chg.trans hc (fun k hk => hk.imp .inl (·.1))⟩
theorem St2.step (h : St2 F G w w1 b g D L) (hdj : ∀ k, F k → ¬ G k) (hG : ∀ k, G k → k < w.heap.size) (h2 : St (grow F w w1) w1 w2 b D2) : St2 F G w w2 b g D2 L := h.next hdj hG h2.1 h2.2
theorem St2.logs (h : St2 F G w w1 b g D L) (hdj : ∀ k, F k → ¬ G k) (hG : ∀ k, G k → k < w.heap.size) (h2 : LogAt w2 g b L2 G) (hc : Chg G w1 w2) : St2 F G w w2 b g D L2 :=
  ⟨(h.disk.chg hc (h.apart hdj hG)).wide (fun k hk => hk.imp id (fun e => ⟨e.1, by have := hc.size; omega⟩)) (fun k hk => by
    rcases hk with e | e
    · have := h.disk.lt k (.inl e); have := hc.size; omega
    · exact e.2), h2, h.chg.trans hc (fun k hk => .inl (.inr hk))⟩
theorem St2.pre (hc : Chg No w w1) (h : St2 F G w1 w2 b g D L) (hF : ∀ k, F k → k < w.heap.size) : St2 F G w w2 b g D L :=
  ⟨h.disk.wide (fun k hk => hk.imp id (fun e => ⟨by have := hc.size; omega, e.2⟩)) (grow_lt hF (Nat.le_trans hc.size h.chg.size)), h.log, hc.of_no.trans_same h.chg⟩
end
end Go.Proofs.YtmmnjecaedmleaaGreatDoor

/- Plain laws: what was laid is read again: heads, records, blocks. No memory here. -/
namespace Go.Proofs.YtmmnjecaedmleaaGreatDoor
open Go.RowKit

theorem leVal_take_le (n v : Nat) (h : v < 256 ^ n) (r : Bytes) : leVal ((le n v ++ r).take n) = v := by
  rw [List.take_left' (le_length n v), leVal_le n v h]
theorem drop_le (n v : Nat) (r : Bytes) : (le n v ++ r).drop n = r := List.drop_left' (le_length n v)
theorem leVal_le8 (v : Nat) (h : v < 18446744073709551616) (r : Bytes) : leVal ((le 8 v ++ r).take 8) = v := leVal_take_le 8 v (by simpa using h) r
theorem leVal_le4' (v : Nat) (h : v < 4294967296) (r : Bytes) : leVal ((le 4 v ++ r).take 4) = v := leVal_take_le 4 v (by simpa using h) r
theorem leVal_le1 (v : Nat) (h : v < 256) (r : Bytes) : leVal ((le 1 v ++ r).take 1) = v := leVal_take_le 1 v (by simpa using h) r

theorem getHead_put (h : Hd) (hr : h.right = true) (he : h.epoch < 18446744073709551616) (hl : h.lsn < 18446744073709551616) : getHead (headBytes h) = some h := by
  have hb : (headBody h).length ≤ 60 := by simp [headBody]
  have hof : headOf (headBytes h) = h := by
    obtain ⟨e, l, a⟩ := h
    have ha : a < 4294967296 := by simp [Hd.right] at hr; omega
    rw [headOf, headBytes, stamp_take _ hb, headBody]
    simp only [List.cons_append, List.nil_append, List.append_assoc, List.drop_succ_cons, List.drop_zero, headL]
    rw [leVal_le8 _ he, drop_le, leVal_le8 _ hl, drop_le, leVal_le4' _ ha]
  rw [getHead, hof, if_pos]
  exact ⟨stamp_ok _ hb, hr, rfl⟩

theorem crc_zeros : (crcOf (zs 60)).toNat ≠ 0 := by decide +kernel

/-- The numbers of an image that can be, in their kinds. -/
def Img.fine (x : Img) : Prop := x.right = true ∧ x.version < 18446744073709551616
theorem Img.fine.len {x : Img} (h : x.fine) : x.data.length = 96 := by have := h.1; simp [Img.right] at this; exact this.2.2
theorem Img.fine.blk {x : Img} (h : x.fine) : 0 ≤ x.block ∧ x.block < 4096 := by have := h.1; simp [Img.right] at this; exact ⟨this.1, this.2.1⟩

theorem bodyBytes_drop (l : List Img) (h : ∀ x ∈ l, x.fine) (i : Nat) : (bodyBytes l).drop (108 * i) = bodyBytes (l.drop i) := by
  induction l generalizing i with
  | nil => simp [bodyBytes]
  | cons a l ih =>
    cases i with
    | zero => simp
    | succ i =>
      have ha := imgBytes_length a (h a (by simp)).len
      rw [List.drop_succ_cons, ← ih (fun x hx => h x (by simp [hx])) i]
      show (imgBytes a ++ bodyBytes l).drop (108 * (i + 1)) = _
      rw [show 108 * (i + 1) = (imgBytes a).length + 108 * i by rw [ha]; omega, List.drop_append]
      simp
theorem imgAt_body (l : List Img) (h : ∀ x ∈ l, x.fine) (r : Bytes) (i : Nat) (hi : i < l.length) : imgAt (bodyBytes l ++ r) i = l[i] := by
  have hx := h l[i] (List.getElem_mem hi)
  have hp : partAt (bodyBytes l ++ r) i = imgBytes l[i] := by
    unfold partAt
    have hl := bodyBytes_length l (fun x hx => (h x hx).len)
    rw [List.drop_append_of_le_length (by omega), bodyBytes_drop l h i, List.drop_eq_getElem_cons hi]
    show ((imgBytes l[i] ++ bodyBytes (l.drop (i + 1))) ++ r).take 108 = _
    rw [List.append_assoc, List.take_left' (imgBytes_length _ hx.len)]
  unfold imgAt
  rw [hp, imgBytes]
  have hb := hx.blk
  have h12 : ((le 4 l[i].block.toNat ++ le 8 l[i].version) ++ l[i].data).drop 12 = l[i].data := List.drop_left' (by simp)
  rw [h12, List.append_assoc, leVal_le4' _ (by omega), drop_le, leVal_le8 _ hx.2]
  generalize l[i] = x at *
  obtain ⟨b, v, d⟩ := x
  simp only at hb ⊢
  congr 1
  omega
theorem imgsN_body (l : List Img) (h : ∀ x ∈ l, x.fine) (r : Bytes) (k : Nat) (hk : k ≤ l.length) : imgsN (bodyBytes l ++ r) k = l.take k := by
  induction k with
  | zero => rfl
  | succ k ih => rw [imgsN, ih (by omega), imgAt_body l h r k (by omega), List.take_succ_eq_append_getElem (by omega)]

theorem secs_bound {n : Nat} (h0 : 1 ≤ n) (h1 : n ≤ 60) : 108 * n ≤ 42 * secs n ∧ 42 * secs n < 108 * n + 42 ∧ 1 ≤ secs n ∧ secs n ≤ 155 := by
  rw [secs, if_pos ⟨h0, h1⟩]
  omega
theorem recN_drop (e n : Nat) (l : List Img) (k p : Nat) (hp : p < k) : ((recN e n l k).drop (64 * p)).take 64 = recSec e n l p := by
  induction k with
  | zero => omega
  | succ k ih =>
    rw [recN]
    have hk := recN_length e n l k
    by_cases h : p = k
    · subst h
      rw [List.drop_left' hk, List.take_of_length_le (by rw [recSec_length]; omega)]
    · rw [List.drop_append_of_le_length (by omega), List.take_append_of_le_length (by rw [List.length_drop]; omega)]
      exact ih (by omega)
theorem secOf_rec (e n : Nat) (l : List Img) (r : Bytes) (k p : Nat) (hp : p < k) : secOf (recN e n l k ++ r) p = recSec e n l p := by
  have hk := recN_length e n l k
  rw [secOf, List.drop_append_of_le_length (by omega), List.take_append_of_le_length (by rw [List.length_drop]; omega)]
  exact recN_drop e n l k p hp
theorem recPart_length (l : List Img) (p : Nat) : (recPart l p).length ≤ 42 := by simp [recPart]; omega
theorem recSec_take (e n : Nat) (l : List Img) (p : Nat) : (recSec e n l p).take 60 = labelBytes e n p l.length ++ (recPart l p ++ zs (42 - (recPart l p).length)) := by
  have h := recPart_length l p
  rw [recSec, stamp_take _ (by rw [List.length_append, labelBytes_length]; omega), List.append_assoc, List.length_append, labelBytes_length]
  rw [show 60 - (18 + (recPart l p).length) = 42 - (recPart l p).length by omega]
theorem recSec_ok (e n : Nat) (l : List Img) (p : Nat) : sumOk (recSec e n l p) = true :=
  stamp_ok _ (by have := recPart_length l p; rw [List.length_append, labelBytes_length]; omega)
theorem bodyN_rec (e n : Nat) (l : List Img) (r : Bytes) (k q : Nat) (hl : ∀ x ∈ l, x.fine) (hk : k ≤ q) : bodyN (recN e n l q ++ r) k = (bodyBytes l).take (42 * k) ++ zs (42 * k - (bodyBytes l).length) := by
  induction k with
  | zero => simp [bodyN, zs]
  | succ k ih =>
    rw [bodyN, ih (by omega), secOf_rec e n l r q k (by omega), recSec_take, List.drop_left' (labelBytes_length ..)]
    obtain ⟨B, hB⟩ : ∃ B, bodyBytes l = B := ⟨_, rfl⟩
    unfold recPart
    rw [hB]
    by_cases h : 42 * k ≤ B.length
    · rw [show 42 * k - B.length = 0 by omega, show zs 0 = [] from rfl, List.append_nil, ← List.append_assoc]
      congr 1
      · rw [show 42 * (k + 1) = 42 * k + 42 by omega, List.take_add]
      · simp only [List.length_take, List.length_drop]
        congr 1
        omega
    · rw [List.take_of_length_le (by omega), List.take_of_length_le (l := B) (by omega), List.drop_eq_nil_of_le (by omega), List.append_assoc]
      congr 1
      simp only [zs, List.take_nil, List.length_nil, List.nil_append, List.replicate_append_replicate]
      congr 1
      omega
theorem recFirst_put (e n : Nat) (l : List Img) (r : Bytes) (hw : wrongOf e n l = 0) (he : e < 18446744073709551616) (hn : n < 18446744073709551616) : recFirst (recBytes e n l ++ r) = some (e, n, l.length) := by
  obtain ⟨h0, h1, h2, h3, h4⟩ := wrong_zero hw
  have hs := secs_bound h2 h3
  have hlen := recN_length e n l (secs l.length)
  have h64 : (recBytes e n l ++ r).take 64 = recSec e n l 0 := by
    have := secOf_rec e n l r (secs l.length) 0 (by omega)
    rw [recBytes]
    simpa [secOf] using this
  have hh : secHead ((recSec e n l 0).take 60) = (e, n, 0, l.length) := by
    rw [recSec_take, labelBytes]
    simp only [List.append_assoc, secHead]
    rw [leVal_le8 _ he, drop_le, leVal_le8 _ hn, drop_le, leVal_le1 _ (by omega), drop_le, leVal_le1 _ (by omega)]
  rw [recFirst, if_neg (by rw [List.length_append, recBytes]; omega), h64, if_neg (by rw [recSec_ok]; decide), hh, if_neg]
  simp only
  omega
theorem recGet_put (e n : Nat) (l : List Img) (r : Bytes) (hw : wrongOf e n l = 0) (he : e < 18446744073709551616) (hn : n < 18446744073709551616) (hv : ∀ x ∈ l, x.version < 18446744073709551616) : recGet (recBytes e n l ++ r) = some (e, n, l, secs l.length) := by
  obtain ⟨h0, h1, h2, h3, h4⟩ := wrong_zero hw
  have hs := secs_bound h2 h3
  have hlen := recN_length e n l (secs l.length)
  have hf : ∀ x ∈ l, x.fine := fun x hx => ⟨h4 x hx, hv x hx⟩
  have hbl := bodyBytes_length l (fun x hx => (hf x hx).len)
  have hbody : imgsN (bodyN (recBytes e n l ++ r) (secs l.length)) l.length = l := by
    rw [recBytes, bodyN_rec e n l r _ _ hf (Nat.le_refl _), List.take_of_length_le (by omega), imgsN_body l hf _ _ (Nat.le_refl _), List.take_length]
  have hall : allSecs (recBytes e n l ++ r) e n l.length (secs l.length) = true := by
    unfold allSecs
    simp only [decide_eq_true_eq]
    intro p hp
    rw [secOk, recBytes, secOf_rec e n l r _ p hp, recSec_ok, recSec_take, List.take_left' (labelBytes_length ..)]
    simp
  rw [recGet, recFirst_put e n l r hw he hn]
  simp only
  rw [recGetT, if_neg (by rw [List.length_append, recBytes]; omega), if_neg (by rw [hall]; decide), hbody, if_pos]
  rw [recPut, if_neg (by rw [hw]; simp), recBytes, List.take_left' hlen]
theorem recGet_zs (k : Nat) : recGet (zs k) = none := by
  have h : recFirst (zs k) = none := by
    rw [recFirst]
    by_cases h : (zs k).length < 64
    · rw [if_pos h]
    · rw [if_neg h]
      have h2 : k ≥ 64 := by simpa [zs] using h
      have h3 : (zs k).take 64 = zs 64 := by rw [zs, zs, List.take_replicate]; congr 1; omega
      rw [h3]
      have h4 : sumOk (zs 64) = false := by decide +kernel
      rw [if_pos h4]
  rw [recGet, h]
theorem getHead_zs : getHead (zs 64) = none := by
  have h4 : sumOk (zs 64) = false := by decide +kernel
  rw [getHead, if_neg]
  rw [h4]; simp

theorem secBytes_take (i : Img) (h : i.fine) (k : Nat) (hk : k ≤ 1) : (secBytes i k).take 60 = (i.data.drop (48 * k)).take 48 ++ (le 4 i.block.toNat ++ le 8 i.version) := by
  have hd := h.len
  have hl : ((i.data.drop (48 * k)).take 48 ++ (le 4 i.block.toNat ++ le 8 i.version)).length = 60 := by
    simp only [List.length_append, List.length_take, List.length_drop, le_length]; omega
  rw [secBytes, stamp_take _ (by omega), hl]
  simp [zs]
theorem secBytes_ok (i : Img) (h : i.fine) (k : Nat) : sumOk (secBytes i k) = true := by
  have hd := h.len
  exact stamp_ok _ (by simp only [List.length_append, List.length_take, List.length_drop, le_length]; omega)
theorem secImg_put (i : Img) (h : i.fine) (k : Nat) (hk : k ≤ 1) : secImg (secBytes i k) = ⟨i.block, i.version, (i.data.drop (48 * k)).take 48⟩ := by
  have hd := h.len
  have hb := h.blk
  have hl : ((i.data.drop (48 * k)).take 48).length = 48 := by simp only [List.length_take, List.length_drop]; omega
  rw [secImg, secBytes_take i h k hk, List.drop_left' hl, List.take_left' hl]
  have h4 := leVal_le4' i.block.toNat (by omega) (le 8 i.version)
  rw [h4, drop_le]
  have h8 := leVal_le8 i.version h.2 []
  rw [List.append_nil] at h8
  rw [h8]
  congr 1
  omega
theorem blkBytes_split (i : Img) (h : i.fine) : sec0 (blkBytes i) = secBytes i 0 ∧ sec1 (blkBytes i) = secBytes i 1 := by
  have h0 := secBytes_length i 0 h.len
  have h1 := secBytes_length i 1 h.len
  unfold blkBytes sec0 sec1
  rw [List.take_left' h0, List.drop_left' h0, List.take_of_length_le (by omega)]
  exact ⟨rfl, rfl⟩
theorem sumOk_zs : sumOk (zs 64) = false := by decide +kernel
theorem blkGet_put (i : Img) (h : i.fine) : blkGet i.block (blkBytes i) = (i, 0) := by
  obtain ⟨h0, h1⟩ := blkBytes_split i h
  have hb := h.blk
  have hd := h.len
  have hz : blkBytes i ≠ zs 128 := by
    intro e
    rw [e] at h0
    have h2 := secBytes_ok i h 0
    rw [← h0, show sec0 (zs 128) = zs 64 from rfl, sumOk_zs] at h2
    exact absurd h2 (by decide)
  rw [blkGet, if_neg hz, h0, h1, secBytes_ok i h, secBytes_ok i h, if_neg (by decide), if_neg (by decide), secImg_put i h 0 (by omega), secImg_put i h 1 (by omega)]
  simp only
  rw [if_neg (by omega), if_neg (by simp)]
  obtain ⟨b, v, d⟩ := i
  simp only at hd ⊢
  congr 2
  rw [Nat.mul_zero, List.drop_zero, List.take_of_length_le (l := d.drop 48) (by simp; omega)]
  exact List.take_append_drop 48 d
end Go.Proofs.YtmmnjecaedmleaaGreatDoor
