import Derived.Test.YtmmnjecaedmleaaGreatDoorM5
import Derived.IntWalk
import Derived.Deep.DeepCutAuto

/- sdisk: Write: contract. -/
namespace Go.Proofs.YtmmnjecaedmleaaGreatDoor
open Go.RowKit
attribute [local go_sem ↓] Go.wp_at_zero Go.wp_at_succ

/-- append at a step of a region that draws. -/
theorem stepL_app {P : Program} {ops : Array Oper} {o : Oper} {a : Act} {K : Act → World → Prop} {Q : Exit → Act → World → Prop} {E' : Prop} {w : World} {t e : TypeId} {z : Value} {size bytes : Nat}
    (E : Elem P t e z size bytes) (s x : Operand) (hgd : o.guard = none) (ho : o.op = .call { callee := .builtin .append, args := #[s, x], argTypes := #[t, t] })
    (base : Nat) (v : Value) (n : Nat) (xs : List Value) (hs : a.eval s = v) (hown : w.ownsRow base e size v n xs)
    (B m c : Nat) (cs : List Value) (e' : TypeId) (fr : Nat × Nat) (hx : a.eval x = .slice (some ⟨B, 0, none⟩) m c) (hB : w.heap[B]? = some (.cells cs.toArray e' fr)) (hl : cs.length = m * size) (h1 : ∀ u ∈ cs, u.oneCell' = true)
    (hm : 0 < m) (hn : (n + m) * bytes ≤ 140737488355328) (hb : 0 < bytes) (hbase : base ≤ w.heap.size) (H : Nat) (hH : w.heap.size = H)
    (h : ∀ g cap w', w'.ownsRow base e size (.slice (some ⟨g, 0, none⟩) (n + m) cap) (n + m) (xs ++ cs) → w.grownBy w' v.ownBlock → (v.ownBlock = some g ∨ g = H) → g < w'.heap.size → K (a.put o.dst (.slice (some ⟨g, 0, none⟩) (n + m) cap)) w') :
    if Region.wanted o (yielded ops a.tmps) = true then Oper.wp P o a w K Q else E' := by
  obtain ⟨hu, i, hi, hz0, hz1, hz2, hzs, h0⟩ := E
  have h63 : n + m ≤ maxLen := by
    have := Nat.le_mul_of_pos_right (n + m) hb
    unfold maxLen; omega
  exact step_append_lies w hgd s x t ho base e i z size bytes hu hi hz0 hz1 hz2 hzs h0 v n xs hs hown ⟨B, 0, none⟩ m c cs hx hl (fun j u hu => World.news_of_block hB j u (by simpa using hu)) h1 hm h63 hn hbase H hH h

def secAt (data : Bytes) (i : Nat) : Bytes := (data.drop (i * 64)).take 64
def Dk.wr1 (D : Dk) (node at_ : Int) (data : Bytes) (i : Nat) : Dk :=
  { D with seq := D.seq + 1, now := upd D.now (at_ + i) (secAt data i), waits := D.waits ++ [⟨node, at_ + i, D.seq + 1, secAt data i⟩] }
def Dk.wrN (D : Dk) (node at_ : Int) (data : Bytes) : Nat → Dk
  | 0 => D
  | n + 1 => (D.wrN node at_ data n).wr1 node at_ data n
def Dk.write (D : Dk) (node : Int) (epoch : Nat) (at_ : Int) (data : Bytes) : Int × Dk :=
  if D.may node ≠ 0 then (D.may node, D)
  else if data.length / 64 < 1 ∨ 16 < data.length / 64 ∨ data.length % 64 ≠ 0 then (1, D)
  else if D.admits node epoch ≠ 0 then (D.admits node epoch, D)
  else if D.there at_ (data.length / 64 : Nat) = false then (30, D)
  else if D.goes.1 then (14, D.goes.2)
  else (0, D.goes.2.wrN node at_ data (data.length / 64))

theorem wrN_seq (D : Dk) (node at_ : Int) (data : Bytes) (n : Nat) : (D.wrN node at_ data n).seq = D.seq + n := by
  induction n with
  | zero => rfl
  | succ n ih => simp only [Dk.wrN, Dk.wr1, ih]; omega
theorem wrN_waits (D : Dk) (node at_ : Int) (data : Bytes) (n : Nat) : (D.wrN node at_ data n).waits.length = D.waits.length + n := by
  induction n with
  | zero => rfl
  | succ n ih => simp only [Dk.wrN, Dk.wr1, List.length_append, ih, List.length_singleton]; omega
theorem goes_seq {D : Dk} : D.goes.1 = false → D.goes.2.seq = D.seq := by
  unfold Dk.goes
  split
  · split <;> simp
  · simp

theorem DiskR.addWait {w w1 : World} {b bn bl : Nat} {wv sv : Value} {D : Dk} {F G : Nat → Prop} (h : DiskR w b bn bl wv sv D F) (x : Wr) {gg cap : Nat}
    (hown : w1.ownsRow 0 219 4 (.slice (some ⟨gg, 0, none⟩) (D.waits.length + 1) cap) (D.waits.length + 1) (D.waits.flatMap Wr.cells ++ x.cells))
    (hgrow : ∀ k, k < w.heap.size → wv.ownBlock ≠ some k → w1.heap[k]? = w.heap[k]?) (hat : wv.ownBlock = some gg ∨ w.heap.size ≤ gg) (hG : ∀ k, F k → G k) (hg : G gg) (hGl : ∀ k, G k → k < w1.heap.size) :
    DiskR (w1.setCell ⟨b, 5, none⟩ (.slice (some ⟨gg, 0, none⟩) (D.waits.length + 1) cap)) b bn bl (.slice (some ⟨gg, 0, none⟩) (D.waits.length + 1) cap) sv { D with waits := D.waits ++ [x] } G := by
  have hwb : wv.ownBlock ≠ some b := row_ne_blk h.waits h.blk (by decide)
  have hgb : gg ≠ b := by
    rcases hat with e | e
    · exact fun e' => hwb (e' ▸ e)
    · have := h.blk.lt
      omega
  refine ⟨?_, ?_, ?_, ?_, ?_, hG _ h.fb, hG _ h.fn, hG _ h.fl, ?_, fun k hk => hG _ (h.fs k hk), h.nl, fun k hk => by simpa [World.setCell] using hGl k hk⟩
  · refine ((h.blk.of (hgrow b h.blk.lt hwb)).set 5 _).congr (fun i hi => ?_)
    unfold diskCell
    by_cases e : i = 5
    · subst e; rfl
    · simp [e]
  · exact h.now.of ((blk_set_ne rfl h.ne_n).trans (hgrow bn h.now.lt (row_ne_map h.waits h.now)))
  · exact h.lasts.of ((blk_set_ne rfl h.ne_l).trans (hgrow bl h.lasts.lt (row_ne_map h.waits h.lasts)))
  · have e1 : (D.waits ++ [x]).length = D.waits.length + 1 := by simp
    have e2 : (D.waits ++ [x]).flatMap Wr.cells = D.waits.flatMap Wr.cells ++ x.cells := by simp
    show World.ownsRow _ _ _ _ _ (D.waits ++ [x]).length ((D.waits ++ [x]).flatMap Wr.cells)
    rw [e1, e2]
    exact row_set_ne hown _ (by simp [Value.ownBlock]; exact hgb)
  · refine row_set_ne (row_of h.stays (fun k hk => hgrow k (h.lt k (h.fs k hk)) (fun e => row_ne_row h.waits h.stays (by decide) k e hk))) _ (row_ne_blk h.stays h.blk (by decide))
  · intro k hk
    simp [Value.ownBlock] at hk
    subst hk
    exact hg

set_option maxHeartbeats 3200000 in
set_option maxRecDepth 100000 in
theorem Write_go {w : World} {b : Nat} {D : Dk} {F : Nat → Prop} (h : DiskAt w b D F) (hf : D.Fit) (node : Int) (epoch : Nat) (at_ : Int) (data : Bytes) (n : Nat) (hm : D.may node = 0) (hn : data.length = 64 * n) (hn1 : 1 ≤ n) (hn16 : n ≤ 16) (ha : D.admits node epoch = 0) (ht : D.there at_ n = true) (hg : D.goes.1 = false) :
    Calls Tryz.prog 69 #[.pointer (some ⟨b, 0, none⟩), .int .i64 node, .int .u64 epoch, .int .i64 at_, S data] w fun e w' => e = .returned (.int .i64 0) ∧ DiskAt w' b (D.goes.2.wrN node at_ data n) (grow F w w') ∧ Chg F w w' := by
  obtain ⟨hon, hn0, hn2⟩ := may_zero hm
  have H := Lib.hid h
  have HF := Lib.hid hf
  have HM := Lib.hid hm
  have HA := Lib.hid ha
  have HT := Lib.hid ht
  have HG := Lib.hid hg
  have hat : 0 ≤ at_ ∧ at_ ≤ 20000 := by
    simp only [Dk.there, decide_eq_true_eq] at ht
    have := hf.s1
    omega
  obtain ⟨hat0, hat1⟩ := hat
  have HGS := Lib.hid (goes_seq hg)
  have HGW := Lib.hid (goes_waits hg)
  have q1 : (data.length : Int) / 64 = (n : Int) := by omega
  have q2 : (data.length : Int) % 64 = 0 := by omega
  have HN := Lib.hid hn
  clear h hf hm ha ht hg hon hn
  go_enter Tryz.func69, Tryz.ntmps69
  go_wp2_with fail
  refine (may_ok H.out node).mono ?_
  rintro e w1 ⟨rfl, rfl⟩
  rw [HM.out]
  go_wp2_with fail
  refine (admits_ok H.out node epoch hn0 hn2).mono ?_
  rintro e w1 ⟨rfl, rfl⟩
  rw [HA.out]
  go_wp2_with fail
  refine (there_ok H.out at_ n (by have := HF.out.s0; omega) HF.out.s1).mono ?_
  rintro e w1 ⟨rfl, rfl⟩
  rw [HT.out]
  go_wp2_with fail
  refine (goes_ok H.out HF.out).mono ?_
  rintro e w1 ⟨rfl, hd1, hc1⟩
  rw [HG.out]
  have HD1 := Lib.hid hd1
  have HC1 := Lib.hid hc1
  clear hd1 hc1
  go_wp2_with fail
  go_loopw [52] (fun i wr => ∃ k : Nat, k ≤ n ∧ i = .int .i64 k ∧ Hid (DiskAt wr b (D.goes.2.wrN node at_ data k) (grow F w wr)) ∧ Hid (Chg F w wr)) (fun i _ => n - (intOf i).toNat)
  case atStart => exact ⟨0, Nat.zero_le _, rfl, HD1, HC1⟩
  case round =>
    obtain ⟨k, hk, rfl, HD, HC⟩ := hrel
    by_cases hlt : k < n
    · obtain ⟨bn, bl, wv, sv, hR⟩ := HD.out
      obtain ⟨Dk', hDk⟩ : ∃ Dk', Dk' = D.goes.2.wrN node at_ data k := ⟨_, rfl⟩
      rw [← hDk] at hR
      have hsq : Dk'.seq ≤ 1000000000100 := by rw [hDk, wrN_seq, HGS.out]; have := HF.out.seq; omega
      have hwl : Dk'.waits.length ≤ 100000100 := by rw [hDk, wrN_waits, HGW.out]; have := HF.out.waits; omega
      have c2 : wr.cell? ⟨b, 2, none⟩ = some (.int .i64 Dk'.seq) := hR.blk.cell 2 (by omega)
      have f2 := hR.blk.free 2
      have HDK := Lib.hid hDk
      have HR := Lib.hid hR
      clear hDk hR HD
      go_wp2_with fail
      have hR1 : DiskR (wr.setCell ⟨b, 2, none⟩ (.int .i64 ((Dk'.seq : Int) + 1))) b bn bl wv sv { Dk' with seq := Dk'.seq + 1 } (grow F w wr) := by
        refine HR.out.set 2 _ { Dk' with seq := Dk'.seq + 1 } (fun i hi => ?_) rfl rfl rfl rfl
        unfold diskCell
        by_cases e : i = 2
        · subst e; rfl
        · simp [e]
      have hC1 : Chg F w (wr.setCell ⟨b, 2, none⟩ (.int .i64 ((Dk'.seq : Int) + 1))) := HC.out.setCell (p := ⟨b, 2, none⟩) (HR.out.fb.imp id (·.1)) _
      have hz1 : (wr.setCell ⟨b, 2, none⟩ (.int .i64 ((Dk'.seq : Int) + 1))).heap.size = wr.heap.size := by simp [World.setCell]
      generalize hW : wr.setCell ⟨b, 2, none⟩ (.int .i64 ((Dk'.seq : Int) + 1)) = W at hR1 hC1 hz1
      have g2 : W.cell? ⟨b, 2, none⟩ = some (.int .i64 ((Dk'.seq : Int) + 1)) := hR1.blk.cell 2 (by omega)
      have hbW : b < W.heap.size := hR1.blk.lt
      have hdl : ((k : Int) + 1) * 64 ≤ (data.length : Int) := by have := HN.out; omega
      have HR1 := Lib.hid hR1
      have HC1' := Lib.hid hC1
      have HZ1 := Lib.hid hz1
      clear hW hR1 hC1 hz1 c2 f2 HR HC
      have s0 : IntKind.i64.wrap (at_ + (k : Int)) = at_ + k := IntWalk.i64_in _ (by omega)
      have s1 : IntKind.i64.wrap ((k : Int) * 64) = (k : Int) * 64 := IntWalk.i64_in _ (by omega)
      have s2 : IntKind.i64.wrap ((k : Int) + 1) = (k : Int) + 1 := IntWalk.i64_in _ (by omega)
      have s3 : IntKind.i64.wrap (((k : Int) + 1) * 64) = ((k : Int) + 1) * 64 := IntWalk.i64_in _ (by omega)
      have s4 : (0 : Int) ≤ (k : Int) * 64 := by omega
      have s5 : (k : Int) * 64 ≤ ((k : Int) + 1) * 64 := by omega
      have s6 : (0 : Int) ≤ ((k : Int) + 1) * 64 := by omega
      have s7 : ((k : Int) * 64).toNat = k * 64 := by omega
      have s8 : (((k : Int) + 1) * 64).toNat = (k + 1) * 64 := by omega
      have s9 : (data.drop (k * 64)).take ((k + 1) * 64 - k * 64) = secAt data k := by rw [secAt, show (k + 1) * 64 - k * 64 = 64 by omega]
      have sr : ∀ wx : World, (Instr.slice 9 (S data) (some (.int .i64 ((k : Int) * 64))) (some (.int .i64 (((k : Int) + 1) * 64))) none).run Tryz.prog wx = .ok (S (secAt data k)) wx := by
        intro wx
        have h := run_slice_string (P := Tryz.prog) wx 9 (.mk data.toArray) .i64 .i64 ((k : Int) * 64) (((k : Int) + 1) * 64) (by kernel_rfl) s4 s5 (by simp [ByteArray.size]; omega)
        rw [s7, s8, ByteArray.extract_mk, s9] at h
        exact h
      have hnn := World.new_ne W _ g2
      have sl : (secAt data k).length ≤ 64 := by simp [secAt]; omega
      go_upto_region 18 with (fail)
      go_cut [15] (fun x wx => ∃ vb, x = .pointer (some ⟨vb, 0, none⟩) ∧ Hid (W.heap.size ≤ vb) ∧ Hid (wx.heap[vb]? = some (.cells #[.int .i64 node, .int .i64 (at_ + k), .int .i64 ((Dk'.seq : Int) + 1), S (secAt data k)] 219 (0, 0))) ∧ Hid (Chg No W wx))
      case first =>
        go_region_held3 (fun w' => w'.cell? ⟨b, 2, none⟩ = some (.int .i64 ((Dk'.seq : Int) + 1))) (go_keep)
          (first | (go_at_call 87; (with_reducible refine (clone_ok _ (secAt data k) (by omega)).mono ?_); rintro e w3 ⟨rfl, hc3⟩; have hk3 : ∀ o, w3.cell? ⟨b, o, none⟩ = _ := fun o => World.cell?_of_block (hc3.block b (by simp; omega) id); have hq3 : ∀ j o, j < _ → w3.cell? ⟨j, o, none⟩ = _ := fun j o hj => World.cell?_of_block (hc3.block j hj id); have hr3 : ∀ j o, j < _ → w3.frozen? ⟨j, o, none⟩ = _ := fun j o hj => World.frozen?_of_block (hc3.block j hj id)))
        all_goals (go_wp2_with fail; go_meet)
        · exact ⟨_, rfl, Lib.hid (by have := hc3.size; simpa using this), Lib.hid (blk_new _ _), Lib.hid (((Chg.refl No W).drew.trans_same hc3).alloc _)⟩
        · have hb0 := hc3.obj (blk_new W _) id
          have hcc : Chg No W w3 := (((Chg.refl No W).alloc _).drew.trans_same hc3)
          refine ⟨_, rfl, Lib.hid (Nat.le_refl _), Lib.hid ?_, Lib.hid ?_⟩
          · exact blk_set (blk_set (blk_set (blk_set hb0 0 _) 1 _) 2 _) 3 _
          · exact (((hcc.setCell (.inr (Nat.le_refl _)) _).setCell (.inr (Nat.le_refl _)) _).setCell (.inr (Nat.le_refl _)) _).setCell (.inr (Nat.le_refl _)) _
      case rest =>
        obtain ⟨vb, rfl, HV, HB, HC2⟩ := hcut
        clear s0 s1 s2 s3 s4 s5 s6 s7 s8 s9 sr hnn sl g2
        have hR2 := HR1.out.chg HC2.out (fun _ _ => id)
        have m3 : wc.cell? ⟨b, 3, none⟩ = some (.map (some bn)) := hR2.blk.cell 3 (by omega)
        have v1 : wc.cell? ⟨vb, 1, none⟩ = some (.int .i64 (at_ + k)) := cell_of_blk HB.out 1 rfl
        have v3 : wc.cell? ⟨vb, 3, none⟩ = some (S (secAt data k)) := cell_of_blk HB.out 3 rfl
        have hmW : MapAt wc.drew bn (fun j => (Dk'.now j).map S) := hR2.now.of rfl
        obtain ⟨es, clock, hup, hok⟩ := run_mapUpdate_i und_now und_int hmW (at_ + k) (S (secAt data k))
        have hsm : ∀ x : Addr, (setMap wc.drew bn es clock).cell? x = wc.cell? x := fun x => setMap_cell hmW es clock x
        have HOK := Lib.hid hok
        have HMW := Lib.hid hmW
        have HR2 := Lib.hid hR2
        clear hok hmW hR2
        go_wp2_with fail
        go_region_held3 (fun w' => w'.cell? ⟨b, 3, none⟩ = some (.map (some bn)) ∧ w'.cell? ⟨vb, 1, none⟩ = some (.int .i64 (at_ + k)) ∧ w'.cell? ⟨vb, 3, none⟩ = some (S (secAt data k))) (go_keep) (fail)
        have hR3 : DiskR (setMap wc.drew bn es clock) b bn bl wv sv { Dk' with seq := Dk'.seq + 1, now := upd Dk'.now (at_ + k) (secAt data k) } (grow F w wr) := by
          have hR := HR2.out
          have hne : ∀ k, k ≠ bn → (setMap wc.drew bn es clock).heap[k]? = wc.heap[k]? := fun k hk => setMap_ne hk
          refine ⟨hR.blk.of (hne b hR.ne_n.symm), (MapAt.new HMW.out HOK.out).congr (fun k => ?_), hR.lasts.of (hne bl hR.nl.symm), row_of hR.waits (fun k hk => hne k (fun e => row_ne_map hR.waits hR.now (e ▸ hk))), row_of hR.stays (fun k hk => hne k (fun e => row_ne_map hR.stays hR.now (e ▸ hk))),
            hR.fb, hR.fn, hR.fl, hR.fw, hR.fs, hR.nl, fun k hk => by simpa [setMap] using hR.lt k hk⟩
          simp only [upd]
          split <;> rfl
        have hC3 : Chg F w (setMap wc.drew bn es clock) := (HC1'.out.trans_no HC2.out).drew.setMap (HR2.out.fn.imp id (·.1)) _ _
        have hB3 : (setMap wc.drew bn es clock).heap[vb]? = some (.cells #[.int .i64 node, .int .i64 (at_ + k), .int .i64 ((Dk'.seq : Int) + 1), S (secAt data k)] 219 (0, 0)) := by
          rw [setMap_ne]
          · exact HB.out
          · have := HR1.out.now.lt
            have := HV.out
            omega
        have hz3 : vb ≠ b := by have := HV.out; omega
        clear hup hsm m3 v1 v3 HR2 HMW HOK HB HC2 HC1'
        generalize setMap wc.drew bn es clock = W3 at hR3 hC3 hB3 ⊢
        have k0 : W3.cell? ⟨vb, 0, none⟩ = some (.int .i64 node) := cell_of_blk hB3 0 rfl
        have k1 : W3.cell? ⟨vb, 1, none⟩ = some (.int .i64 (at_ + k)) := cell_of_blk hB3 1 rfl
        have k2 : W3.cell? ⟨vb, 2, none⟩ = some (.int .i64 ((Dk'.seq : Int) + 1)) := cell_of_blk hB3 2 rfl
        have k3 : W3.cell? ⟨vb, 3, none⟩ = some (S (secAt data k)) := cell_of_blk hB3 3 rfl
        have m5 : W3.cell? ⟨b, 5, none⟩ = some wv := hR3.blk.cell 5 (by omega)
        have f5 := hR3.blk.free 5
        have hb3 : b < W3.heap.size := hR3.blk.lt
        have hv3 : vb < W3.heap.size := blk_lt hB3
        have n0 := World.new_ne W3 _ m5
        have n1 := World.new_ne W3 _ k0
        have hwb : wv.ownBlock ≠ some b := row_ne_blk hR3.waits hR3.blk (by decide)
        have hbn : b ≠ W3.heap.size + 1 := by omega
        have hwv : wv.ownBlock ≠ some vb := fun e => by
          have h1 := HR1.out.lt vb (hR3.fw vb e)
          have h2 := HV.out
          omega
        have hown := hR3.waits
        have HR3 := Lib.hid hR3
        have HC3 := Lib.hid hC3
        clear hR3 hB3
        go_wp2_with fail
        go_region_law ((refine stepL_app el_write _ _ (by rfl) (by rfl) 0 wv _ _ (by rfl) ((hown.alloc _).drew) W3.heap.size 1 1 (Wr.cells ⟨node, at_ + k, Dk'.seq + 1, secAt data k⟩) _ _ (by rfl) (heap_alloc_new W3 _) (by rfl) (by simp [Wr.cells, Value.oneCell']) (by omega) (by first | omega | (simp; omega)) (by omega) (by omega) (W3.heap.size + 1) (by simp) ?_; intro gg cap w4 hown4 hgrow hgat hglt; have hk4 : ∀ j o, j < W3.heap.size → wv.ownBlock ≠ some j → w4.cell? ⟨j, o, none⟩ = W3.cell? ⟨j, o, none⟩ := fun j o h1 h2 => World.cell?_of_block ((hgrow.block j (by simp; omega) (Ne.symm h2)).trans (Below.heap_alloc _ _ _ h1)); have f54 : w4.frozen? ⟨b, 5, none⟩ = false := (World.frozen?_of_block (hgrow.block b (by simp; omega) (Ne.symm hwb))).trans (World.frozen?_of_block (Below.heap_alloc _ _ _ hb3) |>.trans f5); have c54 : w4.cell? ⟨b, 5, none⟩ = some wv := (hk4 _ _ hb3 hwb).trans m5))
        all_goals
          have hz4 := hgrow.size
          rw [show ((W3.alloc (.cells #[.int .i64 node, .int .i64 (at_ + k), .int .i64 ((Dk'.seq : Int) + 1), S (secAt data k)] 219)).drew).heap.size = W3.heap.size + 1 from by simp] at hz4
          have hw3 := HC3.out.size
          have hC4 : Chg F w (w4.setCell ⟨b, 5, none⟩ (.slice (some ⟨gg, 0, none⟩) (Dk'.waits.length + 1) cap)) := by
            refine ((((HC3.out.alloc _).drew).grown hgrow (fun j hj => ?_))).setCell (p := ⟨b, 5, none⟩) (HR3.out.fb.imp id (·.1)) _
            exact (HR3.out.fw j hj).imp id (·.1)
          have hR4 := HR3.out.addWait ⟨node, at_ + k, Dk'.seq + 1, secAt data k⟩ (G := grow F w w4) hown4 (fun j h1 h2 => (hgrow.block j (by simp; omega) (Ne.symm h2)).trans (Below.heap_alloc _ _ _ h1)) (hgat.imp id (fun e => by omega))
            (fun j hj => hj.imp id (fun e => ⟨e.1, by have := HR3.out.lt j hj; omega⟩))
            (hgat.elim (fun e => (HR3.out.fw gg e).imp id (fun e => ⟨e.1, hglt⟩)) (fun e => .inr ⟨by omega, hglt⟩))
            (fun j hj => hj.elim (fun e => by have := HR3.out.lt j (.inl e); omega) (·.2))
          have HR4 := Lib.hid hR4
          have HC4 := Lib.hid hC4
          clear hR4 hC4 hown4 hgrow hgat hk4 f54 c54 hown k0 k1 k2 k3 m5 f5 n0 n1 HR3 HC3 hC3
          go_wp2_with fail
          refine ⟨⟨k + 1, hlt, by go_num, Lib.hid ⟨bn, bl, .slice (some ⟨gg, 0, none⟩) (Dk'.waits.length + 1) cap, sv, ?_⟩, HC4⟩, ?_⟩
          · have e : D.goes.2.wrN node at_ data (k + 1) = { Dk' with seq := Dk'.seq + 1, now := upd Dk'.now (at_ + k) (secAt data k), waits := Dk'.waits ++ [⟨node, at_ + k, Dk'.seq + 1, secAt data k⟩] } := by
              rw [HDK.out]; rfl
            rw [e]
            have hz : (w4.setCell ⟨b, 5, none⟩ (.slice (some ⟨gg, 0, none⟩) (Dk'.waits.length + 1) cap)).heap.size = w4.heap.size := by simp [World.setCell]
            have := HR4.out
            unfold grow at this ⊢
            rw [hz]
            exact this
          · simp [intOf]; omega
    · obtain rfl : k = n := by omega
      go_wp2_with fail
      go_ret
      exact ⟨rfl, HD.out, HC.out⟩
end Go.Proofs.YtmmnjecaedmleaaGreatDoor
