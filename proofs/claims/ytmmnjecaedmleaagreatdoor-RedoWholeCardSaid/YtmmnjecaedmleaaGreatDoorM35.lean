import Derived.Test.YtmmnjecaedmleaaGreatDoorM34
import Derived.Deep.CutBlock
import Derived.Deep.QuietTactic

/- commonsbook.Room of two, commonslaw8.Light: contracts. -/
namespace Go.Proofs.YtmmnjecaedmleaaGreatDoor
open Go.RowKit
attribute [local go_sem ↓] Go.wp_at_zero Go.wp_at_succ

section
variable {w : World}
set_option maxHeartbeats 1600000 in
set_option maxRecDepth 100000 in
theorem Room_two (left n m : Int) (g : Nat) (h0 : -1 ≤ left) (h1 : left ≤ 1000000) (hn : 0 ≤ n) (hm : 0 ≤ m) (hc : w.cell? ⟨g, 0, none⟩ = some (.int .i64 n)) (hd : w.cell? ⟨g, 1, none⟩ = some (.int .i64 m)) :
    Calls Tryz.prog 86 #[.int .i64 left, .slice (some ⟨g, 0, none⟩) 2 2] w fun e w' => e = .returned (.int .i64 (roomF (roomF left n) m)) ∧ Chg No w w' := by
  go_enter Tryz.func86, Tryz.ntmps86
  go_wp2_with fail
  go_loopw [0, 5] (fun x i wr => ∃ k : Nat, ((k = 0 ∧ x = .int .i64 left) ∨ (k = 1 ∧ x = .int .i64 (left - n) ∧ 0 ≤ left ∧ n ≤ left) ∨ (k = 2 ∧ x = .int .i64 (left - n - m) ∧ 0 ≤ left ∧ n ≤ left ∧ m ≤ left - n)) ∧ i = .int .i64 k ∧ Hid (wr = w)) (fun x i _ => 2 - (intOf i).toNat)
  case atStart => exact ⟨0, .inl ⟨rfl, rfl⟩, rfl, Lib.hid rfl⟩
  case round =>
    obtain ⟨k, hk, rfl, HW⟩ := hrel
    obtain rfl := HW.out
    clear HW
    rcases hk with ⟨rfl, rfl⟩ | ⟨rfl, rfl, p0, p1⟩ | ⟨rfl, rfl, p0, p1, p2⟩
    · by_cases q0 : left < 0
      · have HE := Lib.hid (show roomF (roomF left n) m = -1 by
          have e : roomF left n = -1 := by unfold roomF; rw [if_pos (.inl q0)]
          rw [e]; unfold roomF; rw [if_pos (.inl (by omega))])
        go_wp2_with fail
        go_ret
        exact ⟨by rw [HE.out]; rfl, Chg.refl _ _⟩
      · by_cases q1 : left < n
        · have HE := Lib.hid (show roomF (roomF left n) m = -1 by
            have e : roomF left n = -1 := by unfold roomF; rw [if_pos (.inr q1)]
            rw [e]; unfold roomF; rw [if_pos (.inl (by omega))])
          go_wp2_with fail
          go_ret
          exact ⟨by rw [HE.out]; rfl, Chg.refl _ _⟩
        · have e : wrap64 (left - n) = left - n := by unfold wrap64; omega
          go_wp2_with fail
          exact ⟨⟨1, .inr (.inl ⟨rfl, by first | rfl | rw [e], by omega, by omega⟩), rfl, Lib.hid trivial⟩, by simp [intOf]⟩
    · by_cases q1 : left - n < m
      · have HE := Lib.hid (show roomF (roomF left n) m = -1 by
          have e : roomF left n = left - n := by unfold roomF; rw [if_neg (by omega)]
          rw [e]; unfold roomF; rw [if_pos (.inr q1)])
        go_wp2_with fail
        go_ret
        exact ⟨by rw [HE.out]; rfl, Chg.refl _ _⟩
      · have e : wrap64 (left - n - m) = left - n - m := by unfold wrap64; omega
        go_wp2_with fail
        exact ⟨⟨2, .inr (.inr ⟨rfl, by first | rfl | rw [e], by omega, by omega, by omega⟩), rfl, Lib.hid trivial⟩, by simp [intOf]⟩
    · have HE := Lib.hid (show roomF (roomF left n) m = left - n - m by
        have e : roomF left n = left - n := by unfold roomF; rw [if_neg (by omega)]
        rw [e]; unfold roomF; rw [if_neg (by omega)])
      go_wp2_with fail
      go_ret
      exact ⟨by rw [HE.out]; rfl, Chg.refl _ _⟩
end
/-- A step of a disk, as it came in. -/
structure DOp where
  kind : Int
  node : Int
  at_ : Int
  n : Int
  epoch : Nat
  data : Bytes
  ka : Option Addr
  kc : Nat
  keep : List Int
  own : Bool
def DOp.cells (d : DOp) : List Value := [.int .i64 d.kind, .int .i64 d.node, .int .i64 d.at_, .int .i64 d.n, .int .u64 d.epoch, S d.data, .slice d.ka d.keep.length d.kc, .bool d.own]
def DOp.small (d : DOp) : Prop := d.data.length ≤ 20000 ∧ d.keep.length ≤ 20000
theorem el_dop : Elem Tryz.prog 198 93 (.agg #[.int .i64 0, .int .i64 0, .int .i64 0, .int .i64 0, .int .u64 0, S [], .slice none 0 0, .bool false]) 8 88 := .mk' (by kernel_rfl) (by kernel_rfl) rfl (by omega)
theorem dop_one (d : DOp) : ∀ u ∈ d.cells, u.oneCell' = true := by
  intro u hx
  simp only [DOp.cells, List.mem_cons, List.not_mem_nil, or_false] at hx
  rcases hx with rfl | rfl | rfl | rfl | rfl | rfl | rfl | rfl <;> rfl
theorem flat_dop_length (l : List DOp) : (l.flatMap DOp.cells).length = l.length * 8 := by
  induction l with
  | nil => rfl
  | cons a l ih => rw [List.flatMap_cons, List.length_append, ih, List.length_cons]; show 8 + _ = _; omega
theorem flat_dop : ∀ (l : List DOp) (k : Nat) (hk : k < l.length), (l.flatMap DOp.cells)[k * 8 + 5]? = some (S l[k].data) ∧ (l.flatMap DOp.cells)[k * 8 + 6]? = some (.slice l[k].ka l[k].keep.length l[k].kc)
  | [], k, hk => by simp at hk
  | x :: l, 0, _ => ⟨rfl, rfl⟩
  | x :: l, k + 1, hk => by
    have h4 : (DOp.cells x).length = 8 := rfl
    have e : ∀ j, ((x :: l).flatMap DOp.cells)[(k + 1) * 8 + j]? = (l.flatMap DOp.cells)[k * 8 + j]? := fun j => by
      rw [List.flatMap_cons, List.getElem?_append_right (by omega)]
      congr 1
      omega
    have ih := flat_dop l k (by simpa using hk)
    rw [e 5, e 6]
    simpa using ih
theorem roomF_small {r : Int} {n m : Nat} (h1 : r ≤ 20000) (h : 0 ≤ roomF (roomF r n) m) : n ≤ 20000 ∧ m ≤ 20000 ∧ 0 ≤ r := by
  unfold roomF at h
  split at h
  · omega
  · split at h <;> omega
theorem roomF_le {r : Int} {n : Nat} (h0 : -1 ≤ r) {M : Int} (hM : -1 ≤ M) (h1 : r ≤ M) : -1 ≤ roomF r n ∧ roomF r n ≤ M := by
  unfold roomF
  split <;> omega
/-- It returns a bool; if it is true, something holds. -/
def SaysB (P : Prop) (w : World) (e : Ending) (w' : World) : Prop := ∃ b, e = .returned (.bool b) ∧ (b = true → P) ∧ Chg No w w'
theorem SaysB.no {P : Prop} {w w' : World} (hc : Chg No w w') : SaysB P w (.returned (.bool false)) w' := ⟨false, rfl, fun h => absurd h (by decide), hc⟩
theorem SaysB.yes {P : Prop} {w w' : World} (hc : Chg No w w') (hp : P) (b : Bool) : SaysB P w (.returned (.bool b)) w' := ⟨b, rfl, fun _ => hp, hc⟩
section
variable {w : World}
set_option maxHeartbeats 3200000 in
set_option maxRecDepth 100000 in
theorem Light8_ok (base : Nat) (v : Value) (ds : List DOp) (hv : w.ownsRow base 93 8 v ds.length (ds.flatMap DOp.cells)) (hl : ds.length ≤ 200) :
    Calls Tryz.prog 160 #[v] w (SaysB (∀ d ∈ ds, d.small) w) := by
  obtain ⟨a, c, rfl⟩ : ∃ a c, v = .slice a ds.length c := by
    rcases hv.2 with ⟨hv, hn⟩ | ⟨g, cap, cur, hv, _⟩
    · exact ⟨none, 0, by rw [hv, hn]⟩
    · exact ⟨_, _, hv⟩
  have HV := Lib.hid hv
  clear hv
  go_enter Tryz.func160, Tryz.ntmps160
  go_wp2_with fail
  go_loopw [3, 4] (fun rv iv wr => ∃ (k : Nat) (r : Int), k ≤ ds.length ∧ -1 ≤ r ∧ r ≤ 20000 ∧ iv = .int .i64 k ∧ rv = .int .i64 r ∧ Hid (0 ≤ r → ∀ d ∈ ds.take k, d.small) ∧ Hid (Chg No w wr)) (fun _ iv _ => ds.length - (intOf iv).toNat)
  case atStart => exact ⟨0, 20000, Nat.zero_le _, by omega, by omega, rfl, rfl, Lib.hid (by simp), Lib.hid (Chg.refl _ _)⟩
  case round =>
    obtain ⟨k, r, hk, r0, r1, rfl, rfl, HG, HC⟩ := hrel
    by_cases hlt : k < ds.length
    · by_cases hr : r < 0
      · have t0 : decide (0 ≤ r) = false := by simp only [decide_eq_false_iff_not]; omega
        by_cases h80 : ds.length ≤ 80
        · go_wp2_with fail
          go_ret
          exact SaysB.no HC.out
        · go_wp2_with fail
          go_ret
          exact SaysB.no HC.out
      · obtain ⟨g, hg⟩ : ∃ g, a = some ⟨g, 0, none⟩ := by
          rcases HV.out.2 with ⟨hv, hn⟩ | ⟨g, cap, cur, hv, _⟩
          · omega
          · simp only [Value.slice.injEq] at hv
            exact ⟨g, hv.1⟩
        subst hg
        obtain ⟨e0, e1⟩ := flat_dop ds k hlt
        have d0 := HC.out.cell (row_cell HV.out rfl e0) id
        have d1 := HC.out.cell (row_cell HV.out rfl e1) id
        obtain ⟨x, hx⟩ : ∃ x, ds[k] = x := ⟨_, rfl⟩
        rw [hx] at d0 d1
        have HTK := Lib.hid (show ds.take (k + 1) = ds.take k ++ [x] by rw [List.take_succ_eq_append_getElem hlt, hx])
        have hn : x.data.length = x.data.length := rfl
        obtain ⟨m, hm⟩ : ∃ m, x.keep.length = m := ⟨_, rfl⟩
        have HSM := Lib.hid (show (0 : Int) ≤ roomF (roomF r x.data.length) m → x.small ∧ 0 ≤ r from fun h => by
          have := roomF_small (n := x.data.length) (m := m) r1 h
          exact ⟨⟨by omega, by omega⟩, this.2.2⟩)
        have hb1 := roomF_le (n := x.data.length) r0 (by omega) r1
        have hb2 := roomF_le (n := m) hb1.1 (by omega) hb1.2
        have HB2 := Lib.hid hb2
        obtain ⟨xk, xn, xa, xm, xe, xd, ka, kc, kp, xo⟩ := x
        simp only at d0 d1 hn hm
        rw [hm] at d1
        have HRM := Lib.hid (Room_two (w := (wr.alloc (.cells #[.int .i64 xd.length, .int .i64 m] 3)).drew) r xd.length m wr.heap.size r0 (by omega) (by omega) (by omega) (cell_of_blk (blk_new wr _) 0 rfl) (cell_of_blk (blk_new wr _) 1 rfl))
        have lg := World.block_lt_of_cell? wr _ d0
        clear e0 e1 hx hm hb1 hb2 hn
        have s2 : IntKind.i64.wrap ((k : Int) + 1) = (k : Int) + 1 := IntWalk.i64_in _ (by omega)
        go_upto_region 5 with (fail)
        go_region_held3 (fun w' => w'.cell? ⟨g, k * 8 + 5, none⟩ = some (S xd) ∧ w'.cell? ⟨g, k * 8 + 6, none⟩ = some (.slice ka m kc)) (go_keep)
          (first | (go_at_call 86; (with_reducible refine HRM.out.mono ?_); rintro e' w3 ⟨rfl, hc3⟩; have hk3 : ∀ o, w3.cell? ⟨g, o, none⟩ = wr.cell? ⟨g, o, none⟩ := fun o => World.cell?_of_block ((((Chg.refl No wr).alloc _).drew.trans_same hc3).block g lg id)))
        all_goals
          have HC3 := Lib.hid (HC.out.trans_same (((Chg.refl No wr).alloc _).drew.trans_same hc3))
          clear hk3 hc3 d0 d1
          obtain ⟨q, hq⟩ : ∃ q, roomF (roomF r xd.length) m = q := ⟨_, rfl⟩
          rw [hq] at HSM HB2 ⊢
          clear hq
          go_wp2_with fail
          refine ⟨⟨k + 1, q, hlt, HB2.out.1, HB2.out.2, by go_num, rfl, Lib.hid (fun h d hd => ?_), HC3⟩, by simp [intOf]; omega⟩
          rw [HTK.out] at hd
          obtain ⟨h1, h2⟩ := HSM.out h
          rcases List.mem_append.1 hd with hd | hd
          · exact HG.out h2 d hd
          · rw [List.mem_singleton.1 hd]
            exact h1
    · obtain rfl : k = ds.length := by omega
      by_cases h80 : ds.length ≤ 80
      · by_cases hr : r < 0
        · have t0 : decide (0 ≤ r) = false := by simp only [decide_eq_false_iff_not]; omega
          go_wp2_with fail
          go_ret
          exact SaysB.no HC.out
        · have HP := Lib.hid (show ∀ d ∈ ds, d.small from fun d hd => HG.out (by omega) d (by rw [List.take_length]; exact hd))
          go_wp2_with fail
          go_ret
          exact SaysB.yes HC.out HP.out _
      · go_wp2_with fail
        go_ret
        exact SaysB.no HC.out
end
end Go.Proofs.YtmmnjecaedmleaaGreatDoor

/- commonslaw12.Light: contract. -/
namespace Go.Proofs.YtmmnjecaedmleaaGreatDoor
open Go.RowKit
attribute [local go_sem ↓] Go.wp_at_zero Go.wp_at_succ

/-- A step of a log, as it came in. -/
structure LOp where
  kind : Int
  n : Int
  v : Nat
  la : Option Addr
  lc : Nat
  l : List Img
  d : DOp
def LOp.cells (o : LOp) : List Value := [.int .i64 o.kind, .int .i64 o.n, .int .u64 o.v, .slice o.la o.l.length o.lc] ++ o.d.cells
/-- A slice of steps that came in: their cells; their lists can be read. -/
structure OpsA (w : World) (a : Option Addr) (l : List LOp) : Prop where
  cells : ∀ j (h : j < l.length), ∃ b off, a = some ⟨b, off, none⟩ ∧ ∀ i u, (LOp.cells l[j])[i]? = some u → w.cell? ⟨b, off + j * 12 + i, none⟩ = some u
  imgs : ∀ o ∈ l, ImgsAt w (.slice o.la o.l.length o.lc) o.l
  vers : ∀ o ∈ l, ∀ x ∈ o.l, x.version < 18446744073709551616
  lens : ∀ o ∈ l, o.l.length ≤ 9223372036854775807 ∧ ∀ x ∈ o.l, x.data.length ≤ 9223372036854775807
  vv : ∀ o ∈ l, o.v < 18446744073709551616
theorem ImgsA.of_slice {w : World} {a : Option Addr} {n c : Nat} {l : List Img} (h : ImgsAt w (.slice a n c) l) : ImgsA w a l := by
  rcases h with ⟨_, _, _, rfl⟩ | ⟨g, off, c', hv, hj⟩
  · exact fun j hj => absurd hj (by simp)
  · simp only [Value.slice.injEq] at hv
    exact fun j hlt => ⟨g, off, hv.1, hj j hlt⟩
def LOp.small (o : LOp) : Prop := o.l.length ≤ 70 ∧ o.d.small
theorem lightS_len {few : Nat} {room : Int} {l : List Img} (h : lightS few room l = true) : l.length ≤ few := by
  unfold lightS at h
  split at h
  · exact absurd h (by decide)
  · omega
theorem lightGo_bd : ∀ (l : List Img) {r M : Int}, -1 ≤ r → r ≤ M → -1 ≤ M → -1 ≤ lightGo r l ∧ lightGo r l ≤ M
  | [], r, M, h0, h1, _ => ⟨h0, h1⟩
  | x :: l, r, M, h0, h1, hM => by
    rw [lightGo]
    split
    · exact ⟨h0, h1⟩
    · have := roomF_le (n := x.data.length) h0 hM h1
      exact lightGo_bd l this.1 this.2 hM
theorem op_cells {w : World} {b off j : Nat} {o : LOp} (h : ∀ i u, (LOp.cells o)[i]? = some u → w.cell? ⟨b, off + j * 12 + i, none⟩ = some u) :
    w.cell? ⟨b, off + j * 12, none⟩ = some (.int .i64 o.kind) ∧ w.cell? ⟨b, off + j * 12 + 1, none⟩ = some (.int .i64 o.n) ∧ w.cell? ⟨b, off + j * 12 + 2, none⟩ = some (.int .u64 o.v) ∧ w.cell? ⟨b, off + j * 12 + 3, none⟩ = some (.slice o.la o.l.length o.lc) ∧
    w.cell? ⟨b, off + j * 12 + 4, none⟩ = some (.int .i64 o.d.kind) ∧ w.cell? ⟨b, off + j * 12 + 4 + 1, none⟩ = some (.int .i64 o.d.node) ∧ w.cell? ⟨b, off + j * 12 + 4 + 2, none⟩ = some (.int .i64 o.d.at_) ∧ w.cell? ⟨b, off + j * 12 + 4 + 3, none⟩ = some (.int .i64 o.d.n) ∧
    w.cell? ⟨b, off + j * 12 + 4 + 4, none⟩ = some (.int .u64 o.d.epoch) ∧ w.cell? ⟨b, off + j * 12 + 4 + 5, none⟩ = some (S o.d.data) ∧ w.cell? ⟨b, off + j * 12 + 4 + 6, none⟩ = some (.slice o.d.ka o.d.keep.length o.d.kc) ∧ w.cell? ⟨b, off + j * 12 + 4 + 7, none⟩ = some (.bool o.d.own) :=
  ⟨h 0 _ rfl, h 1 _ rfl, h 2 _ rfl, h 3 _ rfl, h 4 _ rfl, h 5 _ rfl, h 6 _ rfl, h 7 _ rfl, h 8 _ rfl, h 9 _ rfl, h 10 _ rfl, h 11 _ rfl⟩
section
variable {w : World}
set_option maxHeartbeats 6400000 in
set_option maxRecDepth 100000 in
theorem Light12_ok (a : Option Addr) (cap : Nat) (l : List LOp) (hl : OpsA w a l) :
    Calls Tryz.prog 36 #[.slice a l.length cap] w (SaysB (l.length ≤ 60 ∧ ∀ o ∈ l, o.small) w) := by
  have HL := Lib.hid hl
  clear hl
  go_enter Tryz.func36, Tryz.ntmps36
  go_wp2_with fail
  go_loopw [3, 4, 5] (fun dv rv iv wr => ∃ (k : Nat) (r : Int), k ≤ l.length ∧ k ≤ 200 ∧ -1 ≤ r ∧ r ≤ 30000 ∧ iv = .int .i64 k ∧ rv = .int .i64 r ∧ Hid (wr.ownsRow w.heap.size 93 8 dv k (((l.take k).map LOp.d).flatMap DOp.cells)) ∧ Hid (∀ o ∈ l.take k, o.l.length ≤ 70) ∧ Hid (Chg No w wr)) (fun _ _ iv _ => 200 - (intOf iv).toNat)
  case atStart => exact ⟨0, 30000, Nat.zero_le _, by omega, by omega, by omega, rfl, rfl, Lib.hid (World.ownsRow_nil _ _ _ _), Lib.hid (by simp), Lib.hid (Chg.refl _ _)⟩
  case round =>
    obtain ⟨k, r, hk, hk2, r0, r1, rfl, rfl, HO, HG, HC⟩ := hrel
    by_cases hlt : k < l.length ∧ k < 200
    · obtain ⟨hlt, hlt2⟩ := hlt
      obtain ⟨b, off, rfl, hcs⟩ := HL.out.cells k hlt
      obtain ⟨o, ho⟩ : ∃ o, l[k] = o := ⟨_, rfl⟩
      have hom : o ∈ l := by rw [← ho]; exact List.getElem_mem hlt
      rw [ho] at hcs
      obtain ⟨_, _, _, e3, f0, f1, f2, f3, f4, f5, f6, f7⟩ := op_cells hcs
      have c3 := HC.out.cell e3 id
      have HIM := Lib.hid ((ImgsA.of_slice (HL.out.imgs o hom)).no HC.out)
      have HLE := Lib.hid (HL.out.lens o hom).2
      have HLN := Lib.hid (HL.out.lens o hom).1
      have HTK := Lib.hid (show l.take (k + 1) = l.take k ++ [o] by rw [List.take_succ_eq_append_getElem hlt, ho])
      have HF := Lib.hid (And.intro f0 (And.intro f1 (And.intro f2 (And.intro f3 (And.intro f4 (And.intro f5 (And.intro f6 f7)))))))
      have HC3 := Lib.hid c3
      clear hcs ho e3 f0 f1 f2 f3 f4 f5 f6 f7
      have HOM := Lib.hid hom
      clear hom
      have hk60 : o.l.length ≤ 9223372036854775807 ∨ True := .inr trivial
      clear hk60
      go_wp2_with fail
      refine (Light_ok 70 8000 (by omega) (by omega) (by omega) o.la o.lc o.l HIM.out (by first | omega | exact HLN.out) HLE.out).mono ?_
      rintro e w1 ⟨rfl, hc1⟩
      cases hli : lightS 70 8000 o.l
      · have HC1 := Lib.hid (HC.out.trans_same hc1)
        clear hli hc1 c3
        go_wp2_with fail
        go_ret
        exact SaysB.no HC1.out
      · have HL70 := Lib.hid (lightS_len hli)
        have HC1 := Lib.hid hc1
        have HO1 := Lib.hid (hc1.row HO.out (fun _ _ => id))
        clear hli hc1 c3
        go_upto_block 2 with fail
        go_cut [4, 6] from 24 to 50 (fun rv kv wx => ∃ (j : Nat) (q : Int), rv = .int .i64 q ∧ kv = .int .i64 j ∧ -1 ≤ q ∧ q ≤ 30000 ∧ Hid (Chg No w1 wx))
        case first =>
          go_wp2_with fail
          go_loopw [4, 6] (fun rv kv wx => ∃ (j : Nat) (q : Int), j ≤ o.l.length ∧ rv = .int .i64 q ∧ kv = .int .i64 j ∧ -1 ≤ q ∧ q ≤ 30000 ∧ Hid (Chg No w1 wx)) (fun _ kv _ => o.l.length - (intOf kv).toNat)
          case atStart => exact ⟨0, r, Nat.zero_le _, rfl, rfl, r0, r1, Lib.hid (Chg.refl _ _)⟩
          case round =>
            obtain ⟨j, q, hj, rfl, rfl, q0, q1, HCq⟩ := hrel
            rename World => w2
            have c3 := HCq.out.cell (HC1.out.cell HC3.out id) id
            have hl70 := HL70.out
            by_cases hjl : j < o.l.length
            · by_cases hq : q < 0
              · have t0 : decide (0 ≤ q) = false := by simp only [decide_eq_false_iff_not]; omega
                go_wp2_with fail
                go_meet
                exact ⟨j, q, rfl, rfl, q0, q1, HCq⟩
              · have t0 : decide (0 ≤ q) = true := by simp only [decide_eq_true_eq]; omega
                obtain ⟨b2, o2, hla, _, _, e2⟩ := HIM.out j hjl
                have d2 := HCq.out.cell (HC1.out.cell e2 id) id
                rw [hla] at c3
                obtain ⟨x, hx⟩ : ∃ x, o.l[j] = x := ⟨_, rfl⟩
                rw [hx] at d2
                have hz := World.block_lt_of_cell? w2 _ d2
                have hb := roomF_le (n := x.data.length) q0 (show (-1 : Int) ≤ 30000 by omega) q1
                have HRM := Lib.hid (Room_one (w := w2.alloc (.cells #[.int .i64 x.data.length] 3)) q x.data.length w2.heap.size q0 (by omega) (by omega) (cell_of_blk (blk_new w2 _) 0 rfl))
                obtain ⟨xb, xv, xd⟩ := x
                simp only at d2 HRM hb
                clear e2 hx hla
                go_wp2_with fail
                refine HRM.out.mono ?_
                rintro e w3 ⟨rfl, hc3⟩
                have HC4 := Lib.hid ((HCq.out.alloc _).trans_same hc3)
                clear hc3 c3 d2
                go_wp2_with fail
                exact ⟨⟨j + 1, _, hjl, rfl, by go_num, hb.1, hb.2, HC4⟩, by simp [intOf]; omega⟩
            · obtain rfl : j = o.l.length := by omega
              go_wp2_with fail
              go_meet
              exact ⟨_, q, rfl, rfl, q0, q1, HCq⟩
        case rest =>
          obtain ⟨j, q, rfl, rfl, q0, q1, HCq⟩ := hcut
          have HCx := Lib.hid (HC.out.trans_same (HC1.out.trans_same HCq.out))
          have HOx := Lib.hid (HCq.out.row HO1.out (fun _ _ => id))
          obtain ⟨f0, f1, f2, f3, f4, f5, f6, f7⟩ := HF.out
          have f0 := HCx.out.cell f0 id
          have f1 := HCx.out.cell f1 id
          have f2 := HCx.out.cell f2 id
          have f3 := HCx.out.cell f3 id
          have f4 := HCx.out.cell f4 id
          have f5 := HCx.out.cell f5 id
          have f6 := HCx.out.cell f6 id
          have f7 := HCx.out.cell f7 id
          go_wp2_with (at_builtin; refine Halt1.hold ?_)
          refine Halt1.go ?_
          have hz36 : w.heap.size ≤ wc.heap.size := HCx.out.size
          refine wpL_app el_dop (.tmp 51) (.tmp 57) rfl rfl w.heap.size u3 _ _ rfl (HOx.out.alloc _) wc.heap.size 1 1 (DOp.cells o.d) _ _ rfl (blk_new _ _) rfl (dop_one o.d) (by omega) (by omega) (by omega) (by simp; omega) ?_
          intro g1 cap1 w8 hown8 hgrow8 hat8 hlt8
          have HO8 := Lib.hid (show w8.ownsRow w.heap.size 93 8 (.slice (some ⟨g1, 0, none⟩) (k + 1) cap1) (k + 1) (((l.take (k + 1)).map LOp.d).flatMap DOp.cells) by
            rw [HTK.out, List.map_append, List.flatMap_append]
            simpa using hown8)
          have HC8 := Lib.hid ((HCx.out.alloc _).grown hgrow8 (fun j hj => .inr (HOx.out.lt j hj).1))
          have HG8 := Lib.hid (show ∀ y ∈ l.take (k + 1), y.l.length ≤ 70 from fun y hy => by
            rw [HTK.out] at hy
            rcases List.mem_append.1 hy with hy | hy
            · exact HG.out y hy
            · rw [List.mem_singleton.1 hy]
              exact HL70.out)
          clear hown8 hgrow8 hat8 hlt8 f0 f1 f2 f3 f4 f5 f6 f7
          go_wp2_with fail
          exact ⟨⟨k + 1, q, hlt, by omega, q0, q1, by go_num, rfl, HO8, HG8, HC8⟩, by simp [intOf]; omega⟩
    · obtain ⟨va, vc, hva⟩ : ∃ a c, u3 = .slice a k c := by
        rcases HO.out.2 with ⟨hv, hn⟩ | ⟨g, cap, cur, hv, _⟩
        · exact ⟨none, 0, by rw [hv, hn]⟩
        · exact ⟨_, _, hv⟩
      subst hva
      by_cases h60 : l.length ≤ 60
      · obtain rfl : k = l.length := by omega
        have hll : ((l.take l.length).map LOp.d).length = l.length := by rw [List.take_length, List.length_map]
        have HL8 := Lib.hid (Light8_ok (w := wr) w.heap.size (.slice va l.length vc) ((l.take l.length).map LOp.d) (by rw [hll]; exact HO.out) (by rw [hll]; omega))
        clear hll
        by_cases hr : r < 0
        · have t0 : decide (0 ≤ r) = false := by simp only [decide_eq_false_iff_not]; omega
          go_wp2_with fail
          go_ret
          exact SaysB.no HC.out
        · have t0 : decide (0 ≤ r) = true := by simp only [decide_eq_true_eq]; omega
          go_wp2_with fail
          refine HL8.out.mono ?_
          rintro e w3 ⟨bb, rfl, hbb, hc3⟩
          have HC3 := Lib.hid (HC.out.trans_same hc3)
          have HBB := Lib.hid hbb
          clear hbb hc3
          go_wp2_with fail
          go_ret
          refine ⟨bb, rfl, fun hb => ⟨h60, fun o ho => ⟨HG.out o (by rw [List.take_length]; exact ho), HBB.out hb o.d ?_⟩⟩, HC3.out⟩
          rw [List.take_length]
          exact List.mem_map.2 ⟨o, ho, rfl⟩
      · have t1 : decide ((l.length : Int) ≤ 60) = false := by simp only [decide_eq_false_iff_not]; omega
        by_cases hlt3 : k < l.length
        · obtain rfl : k = 200 := by omega
          go_wp2_with fail
          go_ret
          exact SaysB.no HC.out
        · go_wp2_with fail
          go_ret
          exact SaysB.no HC.out
end
end Go.Proofs.YtmmnjecaedmleaaGreatDoor

/- commonsbook.SameImages of two lists that are alike: contract. -/
namespace Go.Proofs.YtmmnjecaedmleaaGreatDoor
open Go.RowKit
attribute [local go_sem ↓] Go.wp_at_zero Go.wp_at_succ

theorem ImgsA.of_at {w : World} {v : Value} {l : List Img} (h : ImgsAt w v l) : ∃ a c, v = .slice a l.length c ∧ ImgsA w a l := by
  rcases h with ⟨a, c, rfl, rfl⟩ | ⟨g, off, c, rfl, hj⟩
  · exact ⟨a, c, rfl, fun j hj => absurd hj (by simp)⟩
  · exact ⟨_, c, rfl, fun j hlt => ⟨g, off, rfl, hj j hlt⟩⟩
section
variable {w : World}
set_option maxHeartbeats 1600000 in
set_option maxRecDepth 100000 in
theorem Same_ok (a b : Option Addr) (c d : Nat) (l : List Img) (hl : ImgsA w a l) (hm : ImgsA w b l) (hlen : l.length ≤ 1000000) :
    Calls Tryz.prog 28 #[.slice a l.length c, .slice b l.length d] w fun e w' => e = .returned (.bool true) ∧ ∃ q, w' = w.drewN q := by
  have HL := Lib.hid hl
  have HM := Lib.hid hm
  clear hl hm
  go_enter Tryz.func28, Tryz.ntmps28
  go_wp2_with fail
  go_loopw [5] (fun iv wr => ∃ k : Nat, k ≤ l.length ∧ iv = .int .i64 k ∧ Hid (∃ q, wr = w.drewN q)) (fun iv _ => l.length - (intOf iv).toNat)
  case atStart => exact ⟨0, Nat.zero_le _, rfl, Lib.hid ⟨0, rfl⟩⟩
  case round =>
    obtain ⟨k, hk, rfl, HQ⟩ := hrel
    have HC := Lib.hid (show Chg No w wr by obtain ⟨q, hq⟩ := HQ.out; rw [hq]; exact (Chg.refl No w).drewN q)
    by_cases hlt : k < l.length
    · obtain ⟨b1, o1, rfl, e0, e1, e2⟩ := HL.out k hlt
      obtain ⟨b2, o2, rfl, f0, f1, f2⟩ := HM.out k hlt
      have c0 := HC.out.cell e0 id
      have c1 := HC.out.cell e1 id
      have c2 := HC.out.cell e2 id
      have d0 := HC.out.cell f0 id
      have d1 := HC.out.cell f1 id
      have d2 := HC.out.cell f2 id
      obtain ⟨x, hx⟩ : ∃ x, l[k] = x := ⟨_, rfl⟩
      rw [hx] at c0 c1 c2 d0 d1 d2
      obtain ⟨xb, xv, xd⟩ := x
      simp only at c0 c1 c2 d0 d1 d2
      clear e0 e1 e2 f0 f1 f2 hx
      go_upto_region 6 with (fail)
      go_region
      all_goals
        clear c0 c1 c2 d0 d1 d2
        go_wp2_with fail
        exact ⟨⟨k + 1, hlt, by go_num, Lib.hid (by obtain ⟨q, hq⟩ := HQ.out; exact ⟨q + 1, by rw [hq]; rfl⟩)⟩, by simp [intOf]; omega⟩
    · obtain rfl : k = l.length := by omega
      go_wp2_with fail
      go_ret
      exact ⟨rfl, HQ.out⟩
end
end Go.Proofs.YtmmnjecaedmleaaGreatDoor

/- LogEvery: small laws for its walk. -/
namespace Go.Proofs.YtmmnjecaedmleaaGreatDoor
open Go.RowKit

theorem el_imgsl : Elem Tryz.prog 70 54 (.slice none 0 0) 1 24 := .mk' (by kernel_rfl) (by kernel_rfl) rfl (by omega)
/-- The lists that were taken: slices of one image each. -/
def Singles (w : World) (vs : List Value) (A : List Img) : Prop := vs.length = A.length ∧ ∀ j (h : j < A.length), ∃ la lc, vs[j]? = some (.slice la 1 lc) ∧ ImgsA w la [A[j]]
theorem Singles.nil (w : World) : Singles w [] [] := ⟨rfl, fun j h => absurd h (by simp)⟩
theorem Singles.snoc {w : World} {vs : List Value} {A : List Img} (h : Singles w vs A) {la : Option Addr} {lc : Nat} {x : Img} (hx : ImgsA w la [x]) : Singles w (vs ++ [.slice la 1 lc]) (A ++ [x]) := by
  obtain ⟨h1, h2⟩ := h
  refine ⟨by rw [List.length_append, List.length_append, h1]; rfl, fun j hj => ?_⟩
  rw [List.length_append, List.length_singleton] at hj
  by_cases hlt : j < A.length
  · obtain ⟨a, c, e1, e2⟩ := h2 j hlt
    refine ⟨a, c, ?_, ?_⟩
    · rw [List.getElem?_append_left (by omega), e1]
    · rw [List.getElem_append_left hlt]
      exact e2
  · obtain rfl : j = A.length := by omega
    refine ⟨la, lc, ?_, ?_⟩
    · rw [List.getElem?_append_right (by omega), h1, Nat.sub_self]
      rfl
    · rw [List.getElem_append_right (Nat.le_refl _)]
      simpa using hx
/-- The round of LogEvery: behind a call of the log. -/
structure EvS (A : List Img) (f sy sy' : Nat) (D : Dk) (L : Lg) : Prop where
  ev : Ev A f sy' D L
  on : D.on = true → L.synced = sy'
  off : D.on = false → sy' = sy
theorem Ev.synced {A : List Img} {f s : Nat} {D : Dk} {L : Lg} (e : Ev A f s D L) (ho : D.on = true) : L.synced = s := by
  obtain ⟨W, rfl, _⟩ := e.lo ho
  rfl
theorem Ev.same {A : List Img} {f s : Nat} {D : Dk} {L : Lg} (e : Ev A f s D L) : EvS A f s s D L := ⟨e, e.synced, fun _ => rfl⟩
theorem Ev.writeS {A : List Img} {f s : Nat} {D : Dk} {L : Lg} (e : Ev A f s D L) (ho : D.on = true) : EvS A f s s (logWrite D L).2.2.1 (logWrite D L).2.2.2 :=
  ⟨(e.write ho).1, (e.write ho).2, fun _ => rfl⟩
theorem Ev.syncS {A : List Img} {f s : Nat} {D : Dk} {L : Lg} (e : Ev A f s D L) (ho : D.on = true) : ∃ s', EvS A f s s' (logSync D L).2.1 (logSync D L).2.2 := by
  rcases e.sync ho with ⟨h1, h2⟩ | ⟨h1, h2⟩
  · exact ⟨_, h2, fun _ => rfl, fun h => by rw [h1] at h; exact absurd h (by decide)⟩
  · exact ⟨s, h2, fun h => by rw [h1] at h; exact absurd h (by decide), fun _ => rfl⟩
theorem Ev.freeS {A : List Img} {f s : Nat} {D : Dk} {L : Lg} (e : Ev A f s D L) (ho : D.on = true) (V : Nat) : ∃ s', EvS A (if (logFree D L V).1 = 0 ∨ (logFree D L V).1 = 14 then max f V else f) s s' (logFree D L V).2.1 (logFree D L V).2.2 := by
  rcases e.free ho V with ⟨h1, h2, h3⟩ | ⟨h1, h2, h3⟩
  · refine ⟨_, ?_, fun _ => rfl, fun h => by rw [h1] at h; exact absurd h (by decide)⟩
    by_cases hz : (logFree D L V).1 = 0
    · rw [if_pos (.inl hz)]
      rw [if_pos hz] at h2
      exact h2
    · rw [if_neg (by rintro (h | h); exact hz h; exact h3 h)]
      rw [if_neg hz] at h2
      exact h2
  · refine ⟨s, ?_, fun h => by rw [h1] at h; exact absurd h (by decide), fun _ => rfl⟩
    rw [if_pos (.inr h2)]
    exact h3
/-- How much room a disk keeps, whatever call of the log there is. -/
theorem write_room {D : Dk} {L : Lg} {N : Nat} (hg : L.Good) (h2 : L.live.length ≤ 2) (h : D.FitN (N + 100000)) : (logWrite D L).2.2.1.FitN N := logWrite_fit hg (h.le (by omega))
theorem sync_room {D : Dk} {L : Lg} {N : Nat} (hg : L.Good) (h2 : L.live.length ≤ 2) (h : D.FitN (N + 100000)) : (logSync D L).2.1.FitN N := by
  have h1 : (logWrite D L).2.2.1.FitN N := write_room hg h2 h
  unfold logSync
  split
  · exact h1
  · split
    · split
      · exact barrier_fitN h1
      · exact barrier_fitN h1
    · exact h1
theorem free_room {D : Dk} {L : Lg} {N : Nat} (V : Nat) (h : D.FitN (N + 100000)) : (logFree D L V).2.1.FitN N := by
  have h1 : (D.logHead L V (L.freeAt V)).2.FitN N := logHead_fitN (h.le (by omega))
  unfold logFree
  split
  · exact h.le (by omega)
  · split
    · exact h.le (by omega)
    · split
      · exact h.le (by omega)
      · split
        · exact h1
        · exact h1
theorem Ev.live {A : List Img} {f s : Nat} {D : Dk} {L : Lg} (e : Ev A f s D L) (ho : D.on = true) (hA : A.length ≤ 100) : L.live.length ≤ 2 ∧ L.Good ∧ L.FitN 1 ∧ L.s = sh0 ∧ L.synced ≤ 100 := by
  obtain ⟨W, rfl, hl, _⟩ := e.lo ho
  have h1 := hl.h1
  have h2 := hl.hS
  have h3 := hl.SM
  have h4 := hl.MN
  have h5 := hl.Nh
  refine ⟨by rw [logA_len]; omega, logA_good (by omega) h1 (by omega), logA_fit (by omega) (by omega), rfl, by show s ≤ 100; omega⟩
theorem Ev.size {A : List Img} {f s : Nat} {D : Dk} {L : Lg} (e : Ev A f s D L) : D.sectors = 37 := by
  rcases e with ⟨W, _, h, _⟩ | ⟨_, h, M, _, g⟩
  · exact h.size
  · exact g.size
theorem cut_fitN {D : Dk} {N : Nat} {keep : List Int} (h : D.FitN N) : (D.cut keep).FitN N := by
  unfold Dk.cut
  split
  · exact ⟨h.s0, h.s1, by show 0 + N ≤ _; have := h.waits; omega, by simp [Dk.cutOn], h.seq, by simp [Dk.cutOn]⟩
  · exact ⟨h.s0, h.s1, h.waits, by simp [Dk.arm], h.seq, by simp [Dk.arm]⟩
end Go.Proofs.YtmmnjecaedmleaaGreatDoor
