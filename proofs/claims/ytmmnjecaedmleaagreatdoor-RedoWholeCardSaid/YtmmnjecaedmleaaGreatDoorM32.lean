import Derived.Test.YtmmnjecaedmleaaGreatDoorM31
import Derived.Laws.BitsLemmas

/- Plain laws: a disk at rest (nothing waits, what lasts is what is read), from the first on; logs that are begun and made to last keep it so. -/
namespace Go.Proofs.YtmmnjecaedmleaaGreatDoor
open Go.RowKit

/-- Nothing waits; what is read is what lasts. -/
structure Rest (D : Dk) : Prop where
  dry : D.waits = []
  coh : ∀ n, Coh D n
theorem Coh.toRest {D : Dk} {n : Int} (h : Coh D n) (hd : D.waits = []) : Rest D :=
  ⟨hd, fun m => ⟨by rw [hd]; simp, by rw [hd]; exact List.Pairwise.nil, by rw [hd]; simp, by rw [hd]; simp, h.lowL, by rw [hd]; simp, h.now⟩⟩
theorem Coh.of {D D' : Dk} {n : Int} (h : Coh D n) (a : D'.seq = D.seq) (b : D'.now = D.now) (c : D'.lasts = D.lasts) (d : D'.waits = D.waits) : Coh D' n := by
  obtain ⟨sectors, on, seq, now, lasts, waits, table, words, last, armed, left, stays⟩ := D'
  simp only at a b c d
  subst a b c d
  exact ⟨h.node, h.sorted, h.above, h.low, h.lowL, h.pos, h.now⟩
theorem Rest.of {D D' : Dk} (h : Rest D) (a : D'.seq = D.seq) (b : D'.now = D.now) (c : D'.lasts = D.lasts) (d : D'.waits = D.waits) : Rest D' :=
  ⟨d.trans h.dry, fun n => (h.coh n).of a b c d⟩
theorem Coh.rest {D : Dk} {n : Int} (h : Coh D n) : Rest (D.settle n) := by
  obtain ⟨_, h2, h3⟩ := h.settle
  exact ⟨h2, h3⟩
theorem Coh.push {D : Dk} {node : Int} (h : Coh D node) {D' : Dk} {k : Int} {d : Bytes} (a : D'.seq = D.seq + 1) (b : D'.now = upd D.now k d) (c : D'.lasts = D.lasts) (e : D'.waits = D.waits ++ [⟨node, k, D.seq + 1, d⟩]) : Coh D' node := by
  have hm : ∀ x ∈ D'.waits, x ∈ D.waits ∨ x = ⟨node, k, D.seq + 1, d⟩ := by
    intro x hx
    rw [e] at hx
    simpa using hx
  refine ⟨fun x hx => ?_, ?_, fun j l hl x hx => ?_, fun x hx => ?_, fun j l hl => ?_, fun x hx => ?_, fun j => ?_⟩
  · rcases hm x hx with h1 | rfl
    · exact h.node x h1
    · rfl
  · rw [e, List.pairwise_append]
    refine ⟨h.sorted, by simp, fun x hx y hy => ?_⟩
    rw [List.mem_singleton.1 hy]
    have := h.low x hx
    show x.seq < D.seq + 1
    omega
  · rw [c] at hl
    rcases hm x hx with h1 | rfl
    · exact h.above j l hl x h1
    · have := h.lowL j l hl
      show l.seq < D.seq + 1
      omega
  · rw [a]
    rcases hm x hx with h1 | rfl
    · have := h.low x h1
      omega
    · exact Nat.le_refl _
  · rw [c] at hl
    have := h.lowL j l hl
    omega
  · rcases hm x hx with h1 | rfl
    · exact h.pos x h1
    · show 0 < D.seq + 1
      omega
  · rw [b, e, c, overW_snoc]
    unfold upd
    by_cases hk : j = k
    · rw [if_pos hk, if_pos hk]
      rfl
    · rw [if_neg hk, if_neg hk]
      exact h.now j
theorem wrZ_coh {D : Dk} (h : Coh D 0) (n : Nat) : Coh (D.wrZ n) 0 := by
  induction n with
  | zero => exact h
  | succ n ih => exact ih.push rfl rfl rfl rfl
theorem new_coh (n : Int) : Coh (Dk.fmt1 n) 0 := ⟨by simp [Dk.fmt1, Dk.new], by simp [Dk.fmt1, Dk.new], by simp [Dk.fmt1, Dk.new], by simp [Dk.fmt1, Dk.new], by simp [Dk.fmt1, Dk.new], by simp [Dk.fmt1, Dk.new], fun k => rfl⟩
theorem fmt_rest (s : Sh) : Rest (Dk.fmt s) := by
  have h1 := (wrZ_coh (new_coh s.size) s.size).rest
  have h2 := ((h1.coh 0).wrN 0 s.bytes 1).rest
  have h3 := (h2.coh 0).rest
  exact h3.of rfl rfl rfl rfl
theorem ready_rest : Rest Dk.ready := by
  have h4 := fmt_rest sh0
  exact h4.of (by rw [Dk.ready]) (by rw [Dk.ready]) (by rw [Dk.ready]) (by rw [Dk.ready])
/-- An unarmed disk: what a write leaves. -/
theorem write_coh {D : Dk} (ha : D.armed = false) {node : Int} (h : Coh D node) (ep : Nat) (at_ : Int) (data : Bytes) : Coh (D.write node ep at_ data).2 node ∧ (D.write node ep at_ data).2.armed = false := by
  have hg : D.goes = (false, D) := by unfold Dk.goes; rw [if_neg (by simp [ha])]
  unfold Dk.write
  rw [hg]
  repeat' split
  all_goals first | exact ⟨h, ha⟩ | exact ⟨h.wrN _ _ _, (wrN_same D node at_ data _).2.2.2.2.2.2.1.trans ha⟩ | (exfalso; simp_all)
theorem barrier_rest {D : Dk} (ha : D.armed = false) {node : Int} (h : Coh D node) {ep : Nat} (hz : (D.barrier node ep).1 = 0) : Rest (D.barrier node ep).2 := by
  have hg : D.goes = (false, D) := by unfold Dk.goes; rw [if_neg (by simp [ha])]
  unfold Dk.barrier at hz ⊢
  rw [hg] at hz ⊢
  split at hz
  · exact absurd hz ‹_›
  · split at hz
    · exact absurd hz ‹_›
    · rw [if_neg ‹_›, if_neg ‹_›]
      exact h.rest
theorem logHead_rest {D D' : Dk} {L : Lg} {lsn at_ : Nat} (ha : D.armed = false) (h : Rest D) (hh : D.logHead L lsn at_ = (0, D')) : Rest D' := by
  unfold Dk.logHead at hh
  split at hh
  · simp at hh
  · split at hh
    · rename_i hne
      exact absurd (by rw [hh]) hne
    · obtain ⟨c1, c2⟩ := write_coh ha (h.coh L.node) L.epoch L.base (headBytes ⟨L.epoch, lsn, at_⟩)
      have hr := barrier_rest (ep := L.epoch) c2 c1 (by rw [hh])
      rw [hh] at hr
      exact hr
end Go.Proofs.YtmmnjecaedmleaaGreatDoor

/- Plain laws: what node 2 finds once node 1 has fallen behind its Sync. -/
namespace Go.Proofs.YtmmnjecaedmleaaGreatDoor
open Go.RowKit

theorem sync_rest {D D' : Dk} {L' : Lg} {t2 N : Nat} (l : List Img) (hl : l.length ≤ 2) (hu : Up D 9 t2 (N + 32)) (hr : Rest D) (h : logSync D (logS l) = (0, D', L')) : Rest D' := by
  match l, hl with
  | [], _ =>
    rw [sync_none] at h
    simp only [Prod.mk.injEq, true_and] at h
    exact h.1 ▸ hr
  | [a], _ =>
    obtain ⟨hp, hu1⟩ := put_up (N := N) (hu.le (by omega)) (L := logS [a]) (x := a) (k := 0) rfl rfl rfl rfl (by omega)
    obtain ⟨hb, hu2⟩ := hu1.barrier who19
    have hgo : logWrite D (logS [a]) = (0, 1, D.wrN 1 2 (recBytes 9 1 [a]) 3, (logS [a]).wrote 0 (ent1 0 a)) :=
      writeGo_step (f := 0) (k := 0) (n := 0) (L := logS [a]) (x := ent1 0 a) rfl rfl hp
    have e := logSync_wrote hgo (by show (0 : Nat) < 1; omega) hb
    rw [h] at e
    simp only [Prod.mk.injEq, true_and] at e
    rw [e.1]
    exact ((hr.coh 1).wrN _ _ 3).rest
  | [a, b], _ =>
    obtain ⟨hp, hu1⟩ := put_up (N := N + 16) hu (L := logS [a, b]) (x := a) (k := 0) rfl rfl rfl rfl (by omega)
    obtain ⟨hq, hu2⟩ := put_up (N := N) hu1 (L := (logS [a, b]).wrote 0 (ent1 0 a)) (x := b) (k := 1) rfl rfl rfl rfl (by omega)
    obtain ⟨hb, hu3⟩ := hu2.barrier who19
    have hgo : logWrite D (logS [a, b]) = (0, 2, (D.wrN 1 2 (recBytes 9 1 [a]) 3).wrN 1 5 (recBytes 9 2 [b]) 3, ((logS [a, b]).wrote 0 (ent1 0 a)).wrote 1 (ent1 1 b)) :=
      (writeGo_step (f := 1) (k := 0) (n := 0) (L := logS [a, b]) (x := ent1 0 a) rfl rfl hp).trans
        (writeGo_step (f := 0) (k := 1) (n := 1) (L := (logS [a, b]).wrote 0 (ent1 0 a)) (x := ent1 1 b) rfl rfl hq)
    have e := logSync_wrote hgo (by show (0 : Nat) < 2; omega) hb
    rw [h] at e
    simp only [Prod.mk.injEq, true_and] at e
    rw [e.1]
    exact (((hr.coh 1).wrN _ _ 3).wrN _ _ 3).rest
theorem fence_rest {D D' : Dk} (ha : D.armed = false) (hr : Rest D) {node : Int} (h : D.fence node = (0, D')) : Rest D' := by
  have hg : D.goes = (false, D) := by unfold Dk.goes; rw [if_neg (by simp [ha])]
  unfold Dk.fence at h
  rw [hg] at h
  split at h
  · rename_i hne
    simp only [Prod.mk.injEq] at h
    exact absurd h.1 hne
  · simp only [Bool.false_eq_true, if_false, Prod.mk.injEq, true_and] at h
    rw [← h]
    exact (hr.coh node).rest.of rfl rfl rfl rfl
theorem admit_rest {D D' : Dk} (ha : D.armed = false) (hr : Rest D) {node : Int} {e : Nat} (h : D.admit node e = (0, D')) : Rest D' := by
  have hg : D.goes = (false, D) := by unfold Dk.goes; rw [if_neg (by simp [ha])]
  unfold Dk.admit at h
  rw [hg] at h
  split at h
  · rename_i hne
    simp only [Prod.mk.injEq] at h
    exact absurd h.1 hne
  · split at h
    · simp at h
    · simp only [Bool.false_eq_true, if_false, Prod.mk.injEq, true_and] at h
      rw [← h]
      exact hr.of rfl rfl rfl rfl
theorem filterMap_nodup {F : Int → Option Img} (hF : ∀ k i, F k = some i → i.block = k) : ∀ {ks : List Int}, ks.Pairwise (· < ·) → ((ks.filterMap F).map Img.block).Pairwise (· < ·)
  | [], _ => by simp
  | k :: ks, h => by
    obtain ⟨h1, h2⟩ := List.pairwise_cons.1 h
    cases hk : F k with
    | none => rw [List.filterMap_cons_none hk]; exact filterMap_nodup hF h2
    | some i =>
      rw [List.filterMap_cons_some hk, List.map_cons, List.pairwise_cons]
      refine ⟨fun b hb => ?_, filterMap_nodup hF h2⟩
      obtain ⟨j, hj, rfl⟩ := List.mem_map.1 hb
      obtain ⟨k', hk', hkj⟩ := List.mem_filterMap.1 hj
      rw [hF k i hk, hF k' j hkj]
      exact h1 k' hk'
theorem plan_mem {l : List Img} {i : Img} (h : i ∈ planOf l) : i ∈ l := by
  obtain ⟨k, _, hk⟩ := List.mem_filterMap.1 h
  exact (planF_mem l hk).1
theorem plan_wants {l : List Img} (hf : ∀ i ∈ l, i.fine ∧ i.block ≤ 9 ∧ 0 < i.version) : Wants (planOf l) :=
  ⟨fun i hi => hf i (plan_mem hi), (filterMap_nodup (fun k i h => (planF_mem l h).2) (keysL_sorted _)).imp (fun h => by omega)⟩
theorem open_ready_rest : ∃ D1, Dk.ready.logHead (Lg.new sh0 1 9 1) 1 0 = (0, D1) ∧ Up D1 9 0 10000000 ∧ D1.last = 9 ∧ D1.sec 1 = headBytes ⟨9, 1, 0⟩ ∧ (∀ k : Int, 2 ≤ k → D1.sec k = zs 64) ∧ Rest D1 := by
  obtain ⟨D1, h1, h2, h3, h4, h5⟩ := open_ready
  exact ⟨D1, h1, h2, h3, h4, h5, logHead_rest ready_up.1.free ready_rest h1⟩
/-- From the Sync on. -/
theorem js_start {D1 : Dk} {l : List Img} (hl : l.length ≤ 2) (hf : ∀ i ∈ l, i.fine ∧ i.block ≤ 9 ∧ 0 < i.version) (hu1 : Up D1 9 0 10000000) (hl1 : D1.last = 9) (hh1 : D1.sec 1 = headBytes ⟨9, 1, 0⟩) (hz1 : ∀ k : Int, 2 ≤ k → D1.sec k = zs 64) (hr1 : Rest D1) :
    ∃ D2 L2 D3 D4, logSync D1 (logS l) = (0, D2, L2) ∧ Up D2 9 0 1000000 ∧ D2.fence 1 = (0, D3) ∧ Up D3 0 0 1000000 ∧ D3.admit 2 20 = (0, D4) ∧ Up D4 0 20 1000000 ∧ Js (planOf l) (areaOf l) D4 ∧ D4.scan sh0 1 = (scanL 449 9 1 (areaOf l), 0) := by
  obtain ⟨D2, L2, h2, hu2, ho2, hs2, hl2⟩ := sync_law (N := 1000000) l hl (hu1.le (by omega)) hh1 (fun k hk _ => hz1 k hk)
  have hr2 := sync_rest (N := 1000000) l hl (hu1.le (by omega)) hr1 h2
  obtain ⟨D3, h3, hu3, hs3, hl3⟩ := hu2.fence
  have hr3 := fence_rest hu2.free hr2 h3
  obtain ⟨D4, h4, hu4, hs4⟩ := hu3.admit2 20 (by rw [hl3, hl2, hl1]; omega)
  have hr4 := admit_rest hu3.free hr3 h4
  have hs : ∀ k : Int, D4.sec k = D2.sec k := fun k => (hs4 k).trans (hs3 k)
  have ho4 := ho2.of_sec hs
  have hw := plan_wants hf
  refine ⟨D2, L2, D3, D4, h2, hu2, h3, hu3, h4, hu4, ⟨hu4.size, hu4.t2, hr4.coh 2, hr4.dry, ho4.secs, .inl ho4.head, fun i hi => ?_⟩, ho4.scan hu4⟩
  have h0 := hw.blk0 i hi
  exact ⟨.inl (by rw [hs, hs2 _ (by omega), hz1 _ (by omega)]), .inl (by rw [hs, hs2 _ (by omega), hz1 _ (by omega)])⟩
end Go.Proofs.YtmmnjecaedmleaaGreatDoor

/- commonsbook: Room of one, Light: contracts. -/
namespace Go.Proofs.YtmmnjecaedmleaaGreatDoor
open Go.RowKit
attribute [local go_sem ↓] Go.wp_at_zero Go.wp_at_succ

/-- A slice of images that came in. -/
def ImgsA (w : World) (a : Option Addr) (l : List Img) : Prop := ∀ j (h : j < l.length), ∃ b off, a = some ⟨b, off, none⟩ ∧ w.cell? ⟨b, off + j * 3, none⟩ = some (.int .i64 l[j].block) ∧ w.cell? ⟨b, off + j * 3 + 1, none⟩ = some (.int .u64 l[j].version) ∧ w.cell? ⟨b, off + j * 3 + 2, none⟩ = some (S l[j].data)
theorem ImgsA.no {w w' : World} {a : Option Addr} {l : List Img} (h : ImgsA w a l) (hc : Chg No w w') : ImgsA w' a l := by
  intro j hj
  obtain ⟨b, off, rfl, h0, h1, h2⟩ := h j hj
  exact ⟨b, off, rfl, hc.cell h0 id, hc.cell h1 id, hc.cell h2 id⟩
def roomF (left : Int) (n : Int) : Int := if left < 0 ∨ left < n then -1 else left - n
section
variable {w : World}
set_option maxHeartbeats 1600000 in
set_option maxRecDepth 100000 in
theorem Room_one (left n : Int) (g : Nat) (h0 : -1 ≤ left) (h1 : left ≤ 1000000) (hn : 0 ≤ n) (hc : w.cell? ⟨g, 0, none⟩ = some (.int .i64 n)) :
    Calls Tryz.prog 86 #[.int .i64 left, .slice (some ⟨g, 0, none⟩) 1 1] w fun e w' => e = .returned (.int .i64 (roomF left n)) ∧ Chg No w w' := by
  go_enter Tryz.func86, Tryz.ntmps86
  go_wp2_with fail
  go_loopw [0, 5] (fun x i wr => ∃ k : Nat, ((k = 0 ∧ x = .int .i64 left) ∨ (k = 1 ∧ x = .int .i64 (left - n) ∧ 0 ≤ left ∧ n ≤ left)) ∧ i = .int .i64 k ∧ Hid (wr = w)) (fun x i _ => 1 - (intOf i).toNat)
  case atStart => exact ⟨0, .inl ⟨rfl, rfl⟩, rfl, Lib.hid rfl⟩
  case round =>
    obtain ⟨k, hk, rfl, HW⟩ := hrel
    obtain rfl := HW.out
    clear HW
    rcases hk with ⟨rfl, rfl⟩ | ⟨rfl, rfl, p0, p1⟩
    · by_cases q0 : left < 0
      · have e : roomF left n = -1 := by unfold roomF; rw [if_pos (.inl q0)]
        have HE := Lib.hid e
        clear e
        go_wp2_with fail
        go_ret
        exact ⟨by rw [HE.out]; rfl, Chg.refl _ _⟩
      · by_cases q1 : left < n
        · have e : roomF left n = -1 := by unfold roomF; rw [if_pos (.inr q1)]
          have HE := Lib.hid e
          clear e
          go_wp2_with fail
          go_ret
          exact ⟨by rw [HE.out]; rfl, Chg.refl _ _⟩
        · have e : wrap64 (left - n) = left - n := by unfold wrap64; omega
          go_wp2_with fail
          exact ⟨⟨1, .inr ⟨rfl, by first | rfl | rw [e], by omega, by omega⟩, rfl, Lib.hid trivial⟩, by simp [intOf]⟩
    · have e : roomF left n = left - n := by unfold roomF; rw [if_neg (by omega)]
      have HE := Lib.hid e
      clear e
      go_wp2_with fail
      go_ret
      exact ⟨by rw [HE.out]; rfl, Chg.refl _ _⟩

def lightGo : Int → List Img → Int
  | r, [] => r
  | r, x :: l => if r < 0 then r else lightGo (roomF r x.data.length) l
def lightS (few : Nat) (room : Int) (l : List Img) : Bool := if few < l.length then false else decide (0 ≤ lightGo room l)
theorem roomF_bd {r : Int} {n : Nat} (h0 : -1 ≤ r) (h1 : r ≤ 1000000) : -1 ≤ roomF r n ∧ roomF r n ≤ 1000000 := by
  unfold roomF
  split <;> omega
theorem lightGo_neg {r : Int} (l : List Img) (h : r < 0) : lightGo r l = r := by
  cases l with
  | nil => rfl
  | cons x l => rw [lightGo, if_pos h]
set_option maxHeartbeats 1600000 in
set_option maxRecDepth 100000 in
theorem Light_ok (few : Nat) (room : Int) (hf : few ≤ 1000) (h0 : 0 ≤ room) (h1 : room ≤ 1000000) (a : Option Addr) (cap : Nat) (l : List Img) (hl : ImgsA w a l) (hlen : l.length ≤ 9223372036854775807) (hd : ∀ x ∈ l, x.data.length ≤ 9223372036854775807) :
    Calls Tryz.prog 23 #[.int .i64 few, .int .i64 room, .slice a l.length cap] w fun e w' => e = .returned (.bool (lightS few room l)) ∧ Chg No w w' := by
  obtain ⟨res, hres⟩ : ∃ res, lightGo room l = res := ⟨_, rfl⟩
  have HRES := Lib.hid hres
  have HL := Lib.hid hl
  have HD := Lib.hid hd
  clear hl hd hres hlen
  by_cases hb : few < l.length
  · have e : lightS few room l = false := by unfold lightS; rw [if_pos hb]
    rw [e]
    go_enter Tryz.func23, Tryz.ntmps23
    go_wp2_with fail
    go_ret
    exact ⟨rfl, Chg.refl _ _⟩
  · have e : lightS few room l = decide (0 ≤ res) := by unfold lightS; rw [if_neg hb, HRES.out]
    have HE := Lib.hid e
    clear e
    go_enter Tryz.func23, Tryz.ntmps23
    go_wp2_with fail
    go_loopw [1, 7] (fun x i wr => ∃ (k : Nat) (r : Int), k ≤ l.length ∧ -1 ≤ r ∧ r ≤ 1000000 ∧ i = .int .i64 k ∧ x = .int .i64 r ∧ Hid (lightGo r (l.drop k) = res) ∧ Hid (Chg No w wr)) (fun x i _ => l.length - (intOf i).toNat)
    case atStart => exact ⟨0, room, Nat.zero_le _, by omega, h1, rfl, rfl, HRES, Lib.hid (Chg.refl _ _)⟩
    case round =>
      obtain ⟨k, r, hk, r0, r1, rfl, rfl, HG, HC⟩ := hrel
      by_cases hlt : k < l.length
      · by_cases hr : r < 0
        · have hres : res = r := by rw [← HG.out, lightGo_neg _ hr]
          subst hres
          go_wp2_with fail
          go_ret
          refine ⟨?_, HC.out⟩
          rw [HE.out]
          rfl
        · obtain ⟨b, off, rfl, _, _, c2⟩ := HL.out k hlt
          have d2 := HC.out.cell c2 id
          have hz := World.block_lt_of_cell? wr _ d2
          obtain ⟨x, hx⟩ : ∃ x, l[k] = x := ⟨_, rfl⟩
          have hxd := HD.out x (by rw [← hx]; exact List.getElem_mem hlt)
          have hst := HG.out
          rw [List.drop_eq_getElem_cons hlt, lightGo, if_neg hr] at hst
          rw [hx] at d2 hst
          obtain ⟨xb, xv, xd⟩ := x
          simp only at d2 hst hxd
          have HST := Lib.hid hst
          obtain ⟨n, hn⟩ : ∃ n, xd.length = n := ⟨_, rfl⟩
          clear c2 hst hx hxd
          have hbd := roomF_bd (n := n) r0 r1
          rw [hn] at HST
          go_wp2_with fail
          refine (Room_one r n wr.heap.size r0 r1 (by omega) (cell_of_blk (blk_new wr (.cells #[.int .i64 n] 3)) 0 rfl)).mono ?_
          rintro e w3 ⟨rfl, hc3⟩
          have HC3 := Lib.hid ((HC.out.alloc _).trans_same hc3)
          have HBD := Lib.hid hbd
          clear hc3 hbd
          go_wp2_with fail
          exact ⟨⟨k + 1, roomF r n, hlt, HBD.out.1, HBD.out.2, by go_num, rfl, HST, HC3⟩, by simp [intOf]; omega⟩
      · obtain rfl : k = l.length := by omega
        have hres : res = r := by rw [← HG.out, List.drop_length, lightGo]
        subst hres
        go_wp2_with fail
        go_ret
        refine ⟨?_, HC.out⟩
        rw [HE.out]
        rfl
end
end Go.Proofs.YtmmnjecaedmleaaGreatDoor

/- Plain laws for RedoEvery: images that are refused; arming, restoring; what is found at the end. -/
namespace Go.Proofs.YtmmnjecaedmleaaGreatDoor
open Go.RowKit

theorem add_bad (l : List Img) (x : Img) (hx : x.right = false) : ∃ c : Int, c ≠ 0 ∧ (logS l).add 1 [x] = (0, c, logS l) := by
  have hw : wrongOf (logS l).epoch (logS l).next [x] ≠ 0 := by
    intro h
    obtain ⟨_, _, _, _, h4⟩ := wrong_zero h
    have := h4 x (by simp)
    rw [hx] at this
    exact absurd this (by decide)
  refine ⟨_, hw, ?_⟩
  unfold Lg.add
  rw [if_neg (by show ¬ (false = true); decide), if_pos hw]
/-- What the log takes of the images that are offered: the first two that are right. -/
def taken (dn : List Img) (x : Img) : List Img := if dn.length < 2 ∧ x.right = true then dn ++ [x] else dn
theorem taken_len {dn : List Img} (x : Img) (h : dn.length ≤ 2) : (taken dn x).length ≤ 2 := by
  unfold taken
  split
  · rw [List.length_append, List.length_singleton]; omega
  · exact h
theorem taken_mem {dn : List Img} {x i : Img} (h : i ∈ taken dn x) : i ∈ dn ∨ i = x ∧ x.right = true := by
  unfold taken at h
  split at h
  · rename_i hc
    rcases List.mem_append.1 h with h | h
    · exact .inl h
    · exact .inr ⟨List.mem_singleton.1 h, hc.2⟩
  · exact .inl h
/-- Add answers OK just where the image is taken. -/
theorem add_any (dn : List Img) (x : Img) (h : dn.length ≤ 2) : ∃ n : Nat, ∃ c : Int, (logS dn).add 1 [x] = (n, c, logS (taken dn x)) ∧ (c = 0 ↔ dn.length < 2 ∧ x.right = true) := by
  by_cases hx : x.right = true
  · by_cases hl : dn.length < 2
    · refine ⟨_, _, by rw [taken, if_pos ⟨hl, hx⟩]; exact add_yes1 dn x hx (by omega), by simp [hl, hx]⟩
    · refine ⟨_, _, by rw [taken, if_neg (fun e => hl e.1)]; exact add_full1 dn x hx (by omega), by simp [hl]⟩
  · have hf : x.right = false := by simpa using hx
    obtain ⟨c, hc, e⟩ := add_bad dn x hf
    exact ⟨0, c, by rw [taken, if_neg (fun q => hx q.2)]; exact e, by simp [hc, hf]⟩
section
variable {want : List Img} {area : Bytes} {D : Dk}
theorem Js.re (h : Js want area D) {D' : Dk} (a : D'.sectors = D.sectors) (b : D'.table = D.table) (c : D'.seq = D.seq) (d : D'.now = D.now) (e : D'.lasts = D.lasts) (f : D'.waits = D.waits) : Js want area D' := by
  have hs : ∀ k, D'.sec k = D.sec k := fun k => by unfold Dk.sec; rw [d]
  refine ⟨a.trans h.size, (congrFun b 2).trans h.t2, h.coh.of c d e f, f.trans h.dry, fun i hi => (hs _).trans (h.logs i hi), ?_, fun i hi => ?_⟩
  · rcases h.head with hh | ⟨h1, h2⟩
    · exact .inl ((hs 1).trans hh)
    · refine .inr ⟨(hs 1).trans h1, fun i hi => ?_⟩
      rw [← h2 i hi]
      unfold Dk.blk
      rw [hs, hs]
  · rw [hs, hs]
    exact h.blks i hi
theorem Js.arm (h : Js want area D) (n : Int) (l : List Int) : Js want area (D.arm n l) := h.re rfl rfl rfl rfl rfl rfl
theorem Js.restore (h : Js want area D) : Js want area { D with on := true } := h.re rfl rfl rfl rfl rfl rfl
theorem head0_ne : headBytes ⟨9, 1, 0⟩ ≠ zs 64 := by
  intro e
  have h := getHead_put ⟨9, 1, 0⟩ head0_right (by decide) (by decide)
  rw [e, getHead_zs] at h
  simp at h
theorem Js.full (h : Js want area D) (hz : D.sec 1 = zs 64) : Full want D := by
  rcases h.head with hh | ⟨_, h2⟩
  · exact absurd (hh.symm.trans hz) head0_ne
  · exact h2
theorem Js.loads (h : Js want area D) (ho : D.on = true) (hz : D.sec 1 = zs 64) (hw : Wants want) {i : Img} (hi : i ∈ want) : D.load sh0 i.block = (i, 0) := by
  obtain ⟨hf, hb, _⟩ := hw.fine i hi
  rw [load_on ho h.size hf.blk.1 hb, h.full hz i hi, blkGet_put i hf]
theorem Js.scan0 (h : Js want area D) (ho : D.on = true) (hz : D.sec 1 = zs 64) : D.scan sh0 1 = ([], 0) := by
  unfold Dk.scan
  rw [rheadz_on ho h.size hz]
  rfl
end
theorem scan_area_len (l : List Img) (h : l.length ≤ 2) (hr : ∀ x ∈ l, x.fine) : (scanL 449 9 1 (areaOf l)).length = l.length := by
  match l, h with
  | [], _ => rw [areaOf_nil, scan_zs]; rfl
  | [a], _ =>
    have ha := hr a (by simp)
    rw [areaOf_one, scan_rec 448 1 a _ (by omega) (by omega) ha.1 ha.2, scan_zs]; rfl
  | [a, b], _ =>
    have ha := hr a (by simp)
    have hb := hr b (by simp)
    rw [areaOf_two, scan_rec 448 1 a _ (by omega) (by omega) ha.1 ha.2, scan_rec 447 2 b _ (by omega) (by omega) hb.1 hb.2, scan_zs]; rfl
end Go.Proofs.YtmmnjecaedmleaaGreatDoor

/- Arming and restoring the disk beside a log: contracts with a fixed set of kept blocks. -/
namespace Go.Proofs.YtmmnjecaedmleaaGreatDoor
open Go.RowKit

section
variable {K : Nat → Prop} {w w' : World} {b g : Nat} {D : Dk} {L : Lg}
theorem sysArm (h : Sy K w b g D L) (n : Int) (v : Value) (l : List Int) (hv : ReadsInts w v l) (hl : l.length ≤ 1000000000) :
    Calls Tryz.prog 25 #[.pointer (some ⟨b, 0, none⟩), .int .i64 n, v] w fun e w' => e = .returned (.tuple #[]) ∧ Sy K w' b g (D.arm n l) L ∧ Chg (Kp K) w w' := by
  obtain ⟨F, G, hd, hlg, hdj, hk⟩ := h
  have hb : F b := by obtain ⟨_, _, _, _, hr⟩ := hd; exact hr.fb
  refine (Arm_ok hd n v l hv hl).mono ?_
  rintro e w' ⟨rfl, h1, h2⟩
  exact ⟨rfl, Sy.step hlg hdj hk h1 (h2.mono (fun k e => e ▸ hb))⟩
theorem sysRestore (h : Sy K w b g D L) (hs : 0 < D.sectors) :
    Calls Tryz.prog 26 #[.pointer (some ⟨b, 0, none⟩)] w fun e w' => e = .returned (.tuple #[]) ∧ Sy K w' b g { D with on := true } L ∧ Chg (Kp K) w w' := by
  obtain ⟨F, G, hd, hlg, hdj, hk⟩ := h
  refine (Restore_ok hd hs).mono ?_
  rintro e w' ⟨rfl, h1, h2⟩
  exact ⟨rfl, Sy.step hlg hdj hk (h1.wide grow_sub (grow_lt hd.lt h2.size)) h2⟩
theorem arm_fitN {N : Nat} (h : D.FitN N) (n : Int) (hn : n ≤ 1000) (l : List Int) (hl : l.length ≤ 1000) : (D.arm n l).FitN N :=
  ⟨h.s0, h.s1, h.waits, by show l.length ≤ _; omega, h.seq, by show n ≤ _; omega⟩
theorem arm_szd (h : D.Szd) (n : Int) (l : List Int) : (D.arm n l).Szd := ⟨h.now, h.lasts, h.waits⟩
theorem restore_fitN {N : Nat} (h : D.FitN N) : ({ D with on := true } : Dk).FitN N := ⟨h.s0, h.s1, h.waits, h.stays, h.seq, h.left⟩
theorem restore_szd (h : D.Szd) : ({ D with on := true } : Dk).Szd := ⟨h.now, h.lasts, h.waits⟩
end
end Go.Proofs.YtmmnjecaedmleaaGreatDoor

/- law13.RedoEvery where it is not light: contract. -/
namespace Go.Proofs.YtmmnjecaedmleaaGreatDoor
open Go.RowKit
attribute [local go_sem ↓] Go.wp_at_zero Go.wp_at_succ

section
variable {w : World}
set_option maxHeartbeats 3200000 in
set_option maxRecDepth 100000 in
theorem Every_big (a0 a1 a2 : Option Addr) (c0 c1 c2 nt nk : Nat) (l : List Img) (hl : ImgsA w a0 l) (hlen : l.length ≤ 9223372036854775807) (hd : ∀ x ∈ l, x.data.length ≤ 9223372036854775807)
    (hbig : lightS 4 600 l = false ∨ 6 < nt ∨ 60 < nk) :
    Calls Tryz.prog 4 #[.slice a0 l.length c0, .slice a1 nt c1, .slice a2 nk c2] w fun e w' => e = .returned (.bool true) ∧ Chg No w w' := by
  have HL := Lib.hid hl
  have HD := Lib.hid hd
  have HN := Lib.hid hlen
  clear hl hd hlen
  cases hli : lightS 4 600 l
  · have HLI := Lib.hid hli
    clear hli hbig
    go_enter Tryz.func4, Tryz.ntmps4
    go_wp2_with fail
    refine (Light_ok 4 600 (by omega) (by omega) (by omega) a0 c0 l HL.out HN.out HD.out).mono ?_
    rw [HLI.out]
    rintro e w1 ⟨rfl, hc1⟩
    have HC1 := Lib.hid hc1
    clear hc1
    go_wp2_with fail
    refine alive_ok.mono ?_
    rintro e w2 ⟨rfl, hc2⟩
    have HC2 := Lib.hid (HC1.out.trans_same hc2)
    clear hc2
    go_wp2_with fail
    go_ret
    exact ⟨rfl, HC2.out⟩
  · have HLI := Lib.hid hli
    have hbig2 : 6 < nt ∨ 60 < nk := hbig.resolve_left (by rw [hli]; decide)
    clear hli hbig
    by_cases h6 : 6 < nt
    · clear hbig2
      go_enter Tryz.func4, Tryz.ntmps4
      go_wp2_with fail
      refine (Light_ok 4 600 (by omega) (by omega) (by omega) a0 c0 l HL.out HN.out HD.out).mono ?_
      rw [HLI.out]
      rintro e w1 ⟨rfl, hc1⟩
      have HC1 := Lib.hid hc1
      clear hc1
      go_wp2_with fail
      refine alive_ok.mono ?_
      rintro e w2 ⟨rfl, hc2⟩
      have HC2 := Lib.hid (HC1.out.trans_same hc2)
      clear hc2
      go_wp2_with fail
      go_ret
      exact ⟨rfl, HC2.out⟩
    · have h60 : 60 < nk := hbig2.resolve_left h6
      clear hbig2
      go_enter Tryz.func4, Tryz.ntmps4
      go_wp2_with fail
      refine (Light_ok 4 600 (by omega) (by omega) (by omega) a0 c0 l HL.out HN.out HD.out).mono ?_
      rw [HLI.out]
      rintro e w1 ⟨rfl, hc1⟩
      have HC1 := Lib.hid hc1
      clear hc1
      go_wp2_with fail
      refine alive_ok.mono ?_
      rintro e w2 ⟨rfl, hc2⟩
      have HC2 := Lib.hid (HC1.out.trans_same hc2)
      clear hc2
      go_wp2_with fail
      go_ret
      exact ⟨rfl, HC2.out⟩
end
end Go.Proofs.YtmmnjecaedmleaaGreatDoor

/- RedoEvery: small laws for its walk. -/
namespace Go.Proofs.YtmmnjecaedmleaaGreatDoor
open Go.RowKit

theorem and15 (n : Int) : bits .and .i64 n 15 = n % 16 := by
  have h15 : (BitVec.ofInt 64 15).toNat = 2 ^ 4 - 1 := by decide
  have key : (BitVec.ofInt 64 n &&& BitVec.ofInt 64 15).toNat = (n % ((2 ^ 64 : Nat) : Int)).toNat % 2 ^ 4 := by
    rw [BitVec.toNat_and, BitVec.toNat_ofInt, h15, Nat.and_two_pow_sub_one_eq_mod]
  show IntKind.i64.wrap ((BitVec.ofInt 64 n &&& BitVec.ofInt 64 15).toNat : Nat) = n % 16
  rw [key, IntKind.wrap_i64]
  omega
/-- A kept block is written, and a new one (or itself) is kept from then on. -/
theorem Sy.ownAdd {K : Nat → Prop} {w w' : World} {b g : Nat} {D : Dk} {L : Lg} (h : Sy K w b g D L) {X : Nat → Prop} (hc : Chg X w w') (hX : ∀ k, X k → K k) {x : Nat} (h0 : K x ∨ w.heap.size ≤ x) (h1 : x < w'.heap.size) : Sy (Kadd K x) w' b g D L := by
  obtain ⟨F, G, hd, hl, hdj, hk⟩ := h
  refine ⟨F, G, hd.chg hc (fun k hf hx => (hk k (hX k hx)).1 hf), hl.chg hc (fun k hf hx => (hk k (hX k hx)).2.1 hf), hdj, fun k hkk => ?_⟩
  rcases hkk with hkk | rfl
  · exact ⟨(hk k hkk).1, (hk k hkk).2.1, Nat.lt_of_lt_of_le (hk k hkk).2.2 hc.size⟩
  · rcases h0 with h0 | h0
    · exact ⟨(hk _ h0).1, (hk _ h0).2.1, h1⟩
    · exact ⟨fun hf => by have := hd.lt _ hf; omega, fun hf => by have := hl.lt _ hf; omega, h1⟩
/-- The blocks that are kept: all that there were, the shape's, the list's own. -/
structure Keeps (w : World) (s : Nat) (ov : Value) (K : Nat → Prop) : Prop where
  old : ∀ k, k < w.heap.size → K k
  sh : K s
  own : ∀ k, ov.ownBlock = some k → K k
theorem Keeps.out {w : World} {s : Nat} {ov : Value} {K : Nat → Prop} (h : Keeps w s ov K) : ∀ k, Kp K k → w.heap.size ≤ k := fun k hk => Nat.le_of_not_lt (fun hlt => hk (h.old k hlt))
/-- What RedoEvery's first loop makes of the images: the ones that the log has; none: it ends before. -/
def everyOk (x : Img) : Bool := decide (0 ≤ x.block ∧ x.block ≤ 9 ∧ x.version ≠ 0)
def everyGo : List Img → List Img → Option (List Img)
  | dn, [] => some dn
  | dn, x :: l => if everyOk x then everyGo (taken dn x) l else none
theorem everyGo_good : ∀ (l dn out : List Img), dn.length ≤ 2 → (∀ i ∈ dn, i.fine ∧ i.block ≤ 9 ∧ 0 < i.version) → (∀ x ∈ l, x.version < 18446744073709551616) → everyGo dn l = some out → out.length ≤ 2 ∧ ∀ i ∈ out, i.fine ∧ i.block ≤ 9 ∧ 0 < i.version
  | [], dn, out, h1, h2, _, h => by
    simp only [everyGo, Option.some.injEq] at h
    subst h
    exact ⟨h1, h2⟩
  | x :: l, dn, out, h1, h2, h3, h => by
    rw [everyGo] at h
    split at h
    · rename_i hx
      unfold everyOk at hx
      simp only [decide_eq_true_eq] at hx
      refine everyGo_good l (taken dn x) out (taken_len x h1) (fun i hi => ?_) (fun y hy => h3 y (by simp [hy])) h
      rcases taken_mem hi with hi | ⟨rfl, hr⟩
      · exact h2 i hi
      · exact ⟨⟨hr, h3 i (by simp)⟩, hx.2.1, by omega⟩
    · simp at h
/-- A list that a call has made is kept from then on. -/
theorem Sy.addRow {K : Nat → Prop} {w w' : World} {b g : Nat} {D : Dk} {L : Lg} (h : Sy K w b g D L) (hc : Chg No w w') {v : Value} (hv : ∀ k, v.ownBlock = some k → w.heap.size ≤ k ∧ k < w'.heap.size) : Sy (fun k => K k ∨ v.ownBlock = some k) w' b g D L := by
  obtain ⟨F, G, hd, hl, hdj, hk⟩ := h
  refine ⟨F, G, hd.no' hc, hl.no hc, hdj, fun k hkk => ?_⟩
  rcases hkk with hkk | hkk
  · exact ⟨(hk k hkk).1, (hk k hkk).2.1, Nat.lt_of_lt_of_le (hk k hkk).2.2 hc.size⟩
  · obtain ⟨h0, h1⟩ := hv k hkk
    exact ⟨fun hf => by have := hd.lt _ hf; omega, fun hf => by have := hl.lt _ hf; omega, h1⟩
theorem imgs_len_le : ∀ {l : List Rc} {r : Rc}, r ∈ l → r.imgs.length ≤ (imgsOf l).length
  | [], _, h => by simp at h
  | a :: l, r, h => by
    have e : (imgsOf (a :: l)).length = a.imgs.length + (imgsOf l).length := by
      show (List.flatMap Rc.imgs (a :: l)).length = _
      rw [List.flatMap_cons, List.length_append]
      rfl
    rcases List.mem_cons.1 h with rfl | h
    · omega
    · have := imgs_len_le h
      omega
theorem fine_inR {x : Img} (h : x.fine) : x.data.length ≤ 1000000 ∧ InR x.block := by
  refine ⟨by rw [h.len]; omega, ?_⟩
  have hb := h.blk
  unfold InR Lit.wf
  simp only [Bool.and_eq_true, decide_eq_true_eq]
  show (-9223372036854775808 : Int) ≤ x.block ∧ x.block ≤ 9223372036854775807
  omega
/-- Plan, of records that hold these images. -/
theorem planOk {w : World} (v : Value) (recs : List Rc) (dn : List Img) (hv : RecAt w v recs) (hr : imgsOf recs = dn) (hl : recs.length ≤ 100) (hd : dn.length ≤ 100) (hf : ∀ x ∈ dn, x.fine) :
    Calls Tryz.prog 24 #[v] w fun e w' => ∃ pv, e = .returned pv ∧ w'.ownsRow w.heap.size 38 3 pv (planOf dn).length ((planOf dn).flatMap Img.cells) ∧ Chg No w w' := by
  refine (Plan_ok v recs hv (by omega) (fun r h => by have := imgs_len_le h; rw [hr] at this; omega) (by rw [hr]; omega) (fun x hx => fine_inR (hf x (by rw [← hr]; exact hx)))).mono ?_
  rintro e w' ⟨pv, out, rfl, ho, hip, hc⟩
  have e1 := isPlan_eq hip
  rw [hr] at e1
  subst e1
  exact ⟨pv, rfl, ho, hc⟩
end Go.Proofs.YtmmnjecaedmleaaGreatDoor
