import Derived.Test.YtmmnjecaedmleaaGreatDoorM27

/- law10.Ready: contract. -/
namespace Go.Proofs.YtmmnjecaedmleaaGreatDoor
open Go.RowKit
attribute [local go_sem ↓] Go.wp_at_zero Go.wp_at_succ

def sh0 : Sh := ⟨2, 10, 8, 4, 32⟩
theorem sh0_ok : sh0.Ok := ⟨by decide, by decide, by decide, by decide, by decide, by decide, by decide, by decide, by decide, by decide⟩
theorem wrZ_now (D : Dk) (n : Nat) (k : Int) : (D.wrZ n).now k = if 0 ≤ k ∧ k < n then some (zs 64) else D.now k := by
  induction n with
  | zero => rw [if_neg (by omega)]; rfl
  | succ n ih =>
    show upd (D.wrZ n).now n (zs 64) k = _
    unfold upd
    by_cases h : k = n
    · rw [if_pos h, if_pos (by omega)]
    · rw [if_neg h, ih]
      by_cases h2 : 0 ≤ k ∧ k < n
      · rw [if_pos h2, if_pos (by omega)]
      · rw [if_neg h2, if_neg (by omega)]
theorem shBytes_len (s : Sh) : s.bytes.length = 64 := stamp_length _ (by rw [Sh.body_length]; omega)
theorem fmt_now (s : Sh) (k : Int) : (Dk.fmt s).now k = if k = 0 then some s.bytes else if 0 ≤ k ∧ k < s.size then some (zs 64) else none := by
  have hb := shBytes_len s
  show upd ((Dk.fmt1 s.size).wrZ s.size).now (0 + ((0 : Nat) : Int)) (secAt s.bytes 0) k = _
  have hs : secAt s.bytes 0 = s.bytes := by rw [secAt, Nat.zero_mul, List.drop_zero, List.take_of_length_le (by omega)]
  rw [hs]
  unfold upd
  by_cases h : k = 0
  · rw [if_pos (by omega), if_pos h]
  · rw [if_neg (by omega), if_neg h, wrZ_now]
    rfl
theorem wrZ_szd {D : Dk} (h : D.Szd) (n : Nat) : (D.wrZ n).Szd := by
  induction n with
  | zero => exact h
  | succ n ih =>
    refine ⟨?_, ih.lasts, ?_⟩
    · intro k d hd
      have hd' : upd (D.wrZ n).now n (zs 64) k = some d := hd
      unfold upd at hd'
      split at hd'
      · simp only [Option.some.injEq] at hd'; subst hd'; simp
      · exact ih.now k d hd'
    · intro x hx
      have hx' : x ∈ (D.wrZ n).waits ++ [⟨0, n, (D.wrZ n).seq + 1, zs 64⟩] := hx
      rcases List.mem_append.1 hx' with h1 | h1
      · exact ih.waits x h1
      · rw [List.mem_singleton.1 h1]; simp
theorem fmt1_szd (n : Int) : (Dk.fmt1 n).Szd := ⟨fun k d hd => by simp [Dk.fmt1, Dk.new] at hd, fun k x hx => by simp [Dk.fmt1, Dk.new] at hx, fun x hx => by simp [Dk.fmt1, Dk.new] at hx⟩
theorem fmt_szd (s : Sh) : (Dk.fmt s).Szd := by
  have h := settle_szd (settle_szd (wrN_szd (settle_szd (wrZ_szd (fmt1_szd s.size) s.size) 0) 0 0 s.bytes 1 (by rw [shBytes_len]; omega) 1 (Nat.le_refl _)) 0) 0
  exact ⟨h.now, h.lasts, h.waits⟩
theorem fmt_same (s : Sh) : (Dk.fmt s).sectors = s.size ∧ (Dk.fmt s).on = true ∧ (Dk.fmt s).armed = false ∧ (Dk.fmt s).last = 1 ∧ (∀ i, (Dk.fmt s).table i = 0) ∧ (Dk.fmt s).stays = [] ∧ (Dk.fmt s).left = 0 := by
  obtain ⟨a0, a1, _, a3, _, a5, a6, a7, a8⟩ := wrZ_same (Dk.fmt1 s.size) s.size
  refine ⟨a0, a1, a6, a5, ?_, a8, a7⟩
  intro i
  show setN ((Dk.fmt1 s.size).wrZ s.size).table 0 0 i = 0
  rw [a3]
  unfold setN
  split
  · rfl
  · show setN (fun _ => 0) 0 1 i = 0
    unfold setN
    rw [if_neg ‹_›]
theorem fmt_fitN (s : Sh) (hs : s.Ok) : (Dk.fmt s).FitN 50000000 := by
  obtain ⟨l0, l1, l2, l3, l4, l5⟩ := layS_same (Dk.fmt1 s.size) s
  have l6 := layS_waits (Dk.fmt1 s.size) s
  have hz := size_le hs
  have e0 : (Dk.fmt1 s.size).seq = 0 := rfl
  have e1 : (Dk.fmt1 s.size).waits.length = 0 := rfl
  have h7 := settleW_len 0 ((Dk.fmt1 s.size).layS s).waits
  refine ⟨?_, ?_, ?_, ?_, ?_, ?_⟩
  · show 0 < ((Dk.fmt1 s.size).layS s).sectors
    rw [l0]; show (0 : Int) < s.size; omega
  · show ((Dk.fmt1 s.size).layS s).sectors ≤ 20000
    rw [l0]; show (s.size : Int) ≤ 20000; omega
  · show (settleW 0 ((Dk.fmt1 s.size).layS s).waits).length + 50000000 ≤ _
    omega
  · show ((Dk.fmt1 s.size).layS s).stays.length ≤ _
    rw [l3]; simp [Dk.fmt1, Dk.new]
  · show ((Dk.fmt1 s.size).layS s).seq + 50000000 ≤ _
    omega
  · show ((Dk.fmt1 s.size).layS s).left ≤ _
    rw [l4]; simp [Dk.fmt1, Dk.new]
/-- The disk that is ready. -/
def Dk.ready : Dk := { Dk.fmt sh0 with table := setN (Dk.fmt sh0).table 1 9, last := 9 }
theorem fmt_admit : (Dk.fmt sh0).admit 1 9 = (0, Dk.ready) := by
  obtain ⟨_, a1, a2, a3, _⟩ := fmt_same sh0
  rw [Dk.admit_free (by unfold Dk.may; rw [a1]; decide) (by rw [a3]; omega) a2]
  rfl
/-- The document's disk that is new; that is ready. -/
def Rd.new (n : Int) : Rd := ⟨n, [], false, fun _ => 0, fun _ => 0, 0, false, 0, []⟩
def Rd.ready1 : Rd := { Rd.new sh0.size with table := setN (fun _ => 0) 0 1, last := 1 }
def Rd.ready2 : Rd := (Rd.ready1.wrN 0 0 sh0.bytes 1).kept 0
def Rd.ready3 : Rd := { Rd.ready2.kept 0 with table := setN Rd.ready2.table 0 0 }
def Rd.ready : Rd := { Rd.ready3 with table := setN Rd.ready3.table 1 9, last := 9 }

def ReadyPost (w : World) (e : Ending) (w' : World) : Prop :=
  ∃ bd br Fd Fr, e = .returned (.tuple #[.pointer (some ⟨bd, 0, none⟩), .pointer (some ⟨br, 0, none⟩), sh0.val, .bool true]) ∧ DiskAt w' bd Dk.ready Fd ∧ RdAt w' br Rd.ready Fr ∧ (∀ k, Fd k → ¬ Fr k) ∧ (∀ k, Fd k → w.heap.size ≤ k) ∧ (∀ k, Fr k → w.heap.size ≤ k) ∧ Chg No w w'

theorem sh0_size : sh0.size = 37 := by decide
def rdCells (n : Int) : Array Value := #[.int .i64 n, .slice none 0 0, .bool false, .int .u64 0, .int .u64 0, .int .u64 0, .int .u64 0, .int .u64 0, .int .u64 0, .int .u64 0, .int .u64 0, .int .u64 0, .int .u64 0, .int .u64 0, .int .u64 0, .int .u64 0, .int .u64 0, .int .u64 0, .int .u64 0, .int .u64 0, .int .u64 0, .int .u64 0, .int .u64 0, .int .u64 0, .int .u64 0, .int .u64 0, .int .u64 0, .int .u64 0, .int .u64 0, .int .u64 0, .int .u64 0, .int .u64 0, .int .u64 0, .int .u64 0, .int .u64 0, .int .u64 0, .int .u64 0, .int .u64 0, .bool false, .int .i64 0, .slice none 0 0]
theorem rdCells_at (n : Int) : ∀ i, i < 41 → (rdCells n)[i]? = some (rdCell (Rd.new n) (.slice none 0 0) (.slice none 0 0) i)
  | 0, _ => rfl
  | 1, _ => rfl
  | 2, _ => rfl
  | 3, _ => rfl
  | 4, _ => rfl
  | 5, _ => rfl
  | 6, _ => rfl
  | 7, _ => rfl
  | 8, _ => rfl
  | 9, _ => rfl
  | 10, _ => rfl
  | 11, _ => rfl
  | 12, _ => rfl
  | 13, _ => rfl
  | 14, _ => rfl
  | 15, _ => rfl
  | 16, _ => rfl
  | 17, _ => rfl
  | 18, _ => rfl
  | 19, _ => rfl
  | 20, _ => rfl
  | 21, _ => rfl
  | 22, _ => rfl
  | 23, _ => rfl
  | 24, _ => rfl
  | 25, _ => rfl
  | 26, _ => rfl
  | 27, _ => rfl
  | 28, _ => rfl
  | 29, _ => rfl
  | 30, _ => rfl
  | 31, _ => rfl
  | 32, _ => rfl
  | 33, _ => rfl
  | 34, _ => rfl
  | 35, _ => rfl
  | 36, _ => rfl
  | 37, _ => rfl
  | 38, _ => rfl
  | 39, _ => rfl
  | 40, _ => rfl
  | i + 41, h => by omega
theorem rd_fresh (w : World) (n : Int) : RdAt (w.alloc (.cells (rdCells n) 110)) w.heap.size (Rd.new n) (fun k => k = w.heap.size) :=
  ⟨.slice none 0 0, .slice none 0 0, ⟨_, blk_new w _, rfl, rdCells_at n⟩, World.ownsRow_nil _ _ _ _, World.ownsRow_nil _ _ _ _, rfl, fun k hk => by simp [Value.ownBlock] at hk, fun k hk => by simp [Value.ownBlock] at hk, fun k hk => by subst hk; simp⟩

section
variable {w : World}
set_option maxHeartbeats 6400000 in
set_option maxRecDepth 100000 in
theorem Ready_ok : Calls Tryz.prog 11 #[] w (ReadyPost w) := by
  go_enter Tryz.func11, Tryz.ntmps11
  go_wp2_with fail
  have hB0 := blk_new w (.cells #[.int .i64 0, .int .i64 0, .int .i64 0, .int .i64 0, .int .i64 0] 29)
  refine (Shape_ok _).mono ?_
  rintro e w1 ⟨rfl, hc1⟩
  have HB1 := Lib.hid (hc1.obj hB0 id)
  have HC1 := Lib.hid (((Chg.refl No w).alloc _).trans_same hc1)
  clear hB0 hc1
  go_wp2_with fail
  have HS1 := Lib.hid (blk_new w1 (.cells #[.int .i64 2, .int .i64 10, .int .i64 8, .int .i64 4, .int .i64 32] 27))
  refine (rSize_ok sh0_ok).mono ?_
  rintro e w2 ⟨rfl, hc2⟩
  have HC2 := Lib.hid ((HC1.out.alloc _).trans_same hc2)
  have HB2 := Lib.hid (hc2.obj (blk_alloc _ HB1.out) id)
  have HS2 := Lib.hid (hc2.obj HS1.out id)
  clear hc2
  go_wp2_with fail
  refine (New_ok w2 sh0.size (by rw [sh0_size]; decide) (by rw [sh0_size]; decide)).mono ?_
  rintro e w3 ⟨rfl, hd3, hc3⟩
  obtain ⟨F, hF⟩ : ∃ F : Nat → Prop, F = fun k => w2.heap.size ≤ k ∧ k < w3.heap.size := ⟨_, rfl⟩
  rw [← hF] at hd3
  have HFD := Lib.hid (show ∀ k, F k → w2.heap.size ≤ k ∧ k < w3.heap.size from fun k hk => by rw [hF] at hk; exact hk)
  have HC3 := Lib.hid (HC2.out.trans_same hc3)
  have HB3 := Lib.hid (hc3.obj HB2.out id)
  have hs3 := hc3.obj HS2.out id
  have HS3 := Lib.hid hs3
  obtain ⟨c0, c1, c2, c3, c4⟩ := cells5 hs3
  have HSt3 := Lib.hid (St.refl hd3)
  have hz1 : w.heap.size < w2.heap.size := blk_lt HB2.out
  have hz2 : w1.heap.size < w2.heap.size := blk_lt HS2.out
  have HNW := Lib.hid (show ¬ F w.heap.size from fun h => by have := HFD.out _ h; omega)
  have HNS := Lib.hid (show ¬ F w1.heap.size from fun h => by have := HFD.out _ h; omega)
  clear hd3 hc3 hF hs3
  go_wp2_with fail
  refine (Format_ok sh0_ok HSt3.out.1).mono ?_
  rintro e w4 ⟨rfl, h4⟩
  have HSt4 := Lib.hid (HSt3.out.next h4.1 h4.2)
  clear h4 c0 c1 c2 c3 c4
  go_wp2_with fail
  obtain ⟨a0, a1, a2, a3, a4, a5, a6⟩ := fmt_same sh0
  refine (Load_ok sh0_ok HSt4.out.1 (fmt_fitN sh0 sh0_ok).fit (fmt_szd sh0).now a1 a0 (by rw [fmt_now]; rfl)).mono ?_
  rintro e w5 ⟨rfl, hc5⟩
  have HSt5 := Lib.hid (HSt4.out.no hc5)
  rw [show sh0.val = .agg #[.int .i64 2, .int .i64 10, .int .i64 8, .int .i64 4, .int .i64 32] from rfl]
  clear hc5 a0 a1 a2 a3 a4 a5 a6
  go_wp2_with fail
  have HSt6 := Lib.hid (HSt5.out.no ((Chg.refl No w5).alloc (.cells #[.int .i64 2, .int .i64 10, .int .i64 8, .int .i64 4, .int .i64 32] 29)))
  have HL6 := Lib.hid (blk_new w5 (.cells #[.int .i64 2, .int .i64 10, .int .i64 8, .int .i64 4, .int .i64 32] 29))
  generalize hW6 : w5.alloc (.cells #[.int .i64 2, .int .i64 10, .int .i64 8, .int .i64 4, .int .i64 32] 29) = W6 at HSt6 HL6
  have HNL := Lib.hid (show ¬ F w5.heap.size from fun h => by have h1 := HFD.out _ h; have h2 := HSt5.out.2.size; omega)
  have HDF5 := Lib.hid (HSt5.out.1.no' (show Chg No w5 W6 by rw [← hW6]; exact (Chg.refl _ _).alloc _))
  have HC56 := Lib.hid (show Chg No w5 W6 by rw [← hW6]; exact (Chg.refl _ _).alloc _)
  clear hW6
  refine (Admit_ok HDF5.out (fmt_fitN sh0 sh0_ok).fit 1 9).mono ?_
  rw [fmt_admit]
  rintro e w7 ⟨rfl, hd7, hc7⟩
  have hn7 : ¬ grow F w3 w5 w5.heap.size := fun h => h.elim HNL.out (fun e => by omega)
  have HL7 := Lib.hid (hc7.obj HL6.out hn7)
  have HSt7 := Lib.hid (St.next ⟨HSt5.out.1, HSt5.out.2⟩ (D2 := Dk.ready) (w2 := w7) (by
    have h1 := (St.pre HC56.out ⟨hd7, hc7⟩ HSt5.out.1.lt)
    exact h1.1) (by
    have h1 := (St.pre HC56.out ⟨hd7, hc7⟩ HSt5.out.1.lt)
    exact h1.2))
  clear hd7 hc7 hn7
  have hs7 := HSt7.out.2.obj HS3.out HNS.out
  have hb7 := HSt7.out.2.obj HB3.out HNW.out
  obtain ⟨c0, c1, c2, c3, c4⟩ := cells5 hs7
  have HS7 := Lib.hid hs7
  have HB7 := Lib.hid hb7
  clear hs7 hb7
  go_wp2_with fail
  refine (rSize_ok sh0_ok).mono ?_
  rintro e w8 ⟨rfl, hc8⟩
  have HSt8 := Lib.hid (HSt7.out.no hc8)
  have HL8 := Lib.hid (hc8.obj HL7.out id)
  have hs8 := hc8.obj HS7.out id
  have HS8 := Lib.hid hs8
  have HB8 := Lib.hid (hc8.obj HB7.out id)
  clear hc8 c0 c1 c2 c3 c4
  obtain ⟨c0, c1, c2, c3, c4⟩ := cells5 hs8
  have hzs8 := World.block_lt_of_cell? w8 _ c0
  clear hs8
  go_wp2_with fail
  generalize hW9 : w8.alloc _ = W9
  have hcW9 : Chg No w8 W9 := by rw [← hW9]; exact (Chg.refl _ _).alloc _
  have hrd9 : RdAt W9 w8.heap.size (Rd.new sh0.size) (fun k => k = w8.heap.size) := by rw [← hW9]; exact rd_fresh w8 sh0.size
  have HC9 := Lib.hid hcW9
  have HR9 := Lib.hid hrd9
  clear hW9 hcW9 hrd9 c0 c1 c2 c3 c4
  refine (rPutShape_ok sh0_ok).mono ?_
  rintro e w10 ⟨rfl, hc10⟩
  have HC10 := Lib.hid (HC9.out.trans_same hc10)
  have HR10 := Lib.hid (HR9.out.no' hc10)
  clear hc10
  obtain ⟨sb, hsb⟩ : ∃ sb, sh0.bytes = sb := ⟨_, rfl⟩
  have hsbl : sb.length = 64 * 1 := by rw [← hsb]; exact shBytes_len sh0
  rw [hsb]
  have HSB := Lib.hid hsb
  clear hsb
  go_wp2_with fail
  refine (rAdmit_yes HR10.out 0 1 (by omega) rfl rfl (by decide)).mono ?_
  rintro e w11 ⟨rfl, hr11, hc11⟩
  have HC11 := Lib.hid (HC10.out.trans hc11 (fun k hk => .inr (by rw [hk]; exact Nat.le_refl _)))
  have HR11 := Lib.hid (show RdAt w11 w8.heap.size Rd.ready1 (fun k => w8.heap.size ≤ k ∧ k < w11.heap.size) from hr11.wide (fun k hk => by have := hr11.lt k hk; omega) (fun k hk => hk.2))
  clear hr11 hc11
  go_wp2_with fail
  refine (rWrite_yes HR11.out 0 1 0 sb 1 (by omega) rfl rfl (by omega) rfl (by decide) hsbl (by omega) (by omega) (by omega) (by show (0 : Int) ≤ (sh0.size : Int) - 1; rw [sh0_size]; decide) (by show (sh0.size : Int) ≤ 100000; rw [sh0_size]; decide)).mono ?_
  rintro e w12 ⟨rfl, hr12, hc12⟩
  have hz12 := hc12.size
  have HC12 := Lib.hid (HC11.out.trans hc12 (fun k hk => .inr hk.1))
  have HR12 := Lib.hid (show RdAt w12 w8.heap.size (Rd.ready1.wrN 0 0 sb 1) (fun k => w8.heap.size ≤ k ∧ k < w12.heap.size) from hr12.wide (fun k hk => by
    have h1 := hr12.lt k hk
    have h2 := HC11.out.size
    rcases hk with h | h
    · exact ⟨h.1, h1⟩
    · exact ⟨by omega, h1⟩) (fun k hk => hk.2))
  clear hr12 hc12
  go_wp2_with fail
  refine (rBarrier_yes HR12.out 0 1 (by omega) rfl rfl (by omega) rfl (by show 1 ≤ 1000000; omega)).mono ?_
  rintro e w13 ⟨rfl, hr13, hc13⟩
  have HC13 := Lib.hid (HC12.out.trans hc13 (fun k hk => .inr hk.1))
  have HR13 := Lib.hid (show RdAt w13 w8.heap.size Rd.ready2 (fun k => w8.heap.size ≤ k ∧ k < w13.heap.size) from (show Rd.ready2 = (Rd.ready1.wrN 0 0 sb 1).kept 0 by unfold Rd.ready2; rw [HSB.out]) ▸ hr13.wide (fun k hk => by
    have h1 := hr13.lt k hk
    have h2 := HC12.out.size
    rcases hk with h | h
    · exact ⟨h.1, h1⟩
    · exact ⟨by omega, h1⟩) (fun k hk => hk.2))
  clear hr13 hc13
  go_wp2_with fail
  refine (rFence_yes HR13.out 0 (by omega) rfl rfl (by show 1 ≤ 1000000; omega)).mono ?_
  rintro e w14 ⟨rfl, hr14, hc14⟩
  have HC14 := Lib.hid (HC13.out.trans hc14 (fun k hk => .inr hk.1))
  have HR14 := Lib.hid (show RdAt w14 w8.heap.size Rd.ready3 (fun k => w8.heap.size ≤ k ∧ k < w14.heap.size) from hr14.wide (fun k hk => by
    have h1 := hr14.lt k hk
    have h2 := HC13.out.size
    rcases hk with h | h
    · exact ⟨h.1, h1⟩
    · exact ⟨by omega, h1⟩) (fun k hk => hk.2))
  clear hr14 hc14
  go_wp2_with fail
  refine (rAdmit_yes HR14.out 1 9 (by omega) rfl rfl (by decide)).mono ?_
  rintro e w15 ⟨rfl, hr15, hc15⟩
  have HC15 := Lib.hid (HC14.out.trans hc15 (fun k hk => .inr hk.1))
  have HR15 := Lib.hid (show RdAt w15 w8.heap.size Rd.ready (fun k => w8.heap.size ≤ k ∧ k < w14.heap.size) from hr15)
  clear hr15 hc15
  have hl15 := HC15.out.obj HL8.out id
  have hb15 := HC15.out.obj HB8.out id
  obtain ⟨g0, g1, g2, g3, g4⟩ := cells5 hl15
  obtain ⟨d0, d1, d2, d3, d4⟩ := cells5 hb15
  have f0 := free_of_blk hb15 0
  have f1 := free_of_blk hb15 1
  have f2 := free_of_blk hb15 2
  have f3 := free_of_blk hb15 3
  have f4 := free_of_blk hb15 4
  have hne5 : w5.heap.size ≠ w.heap.size := by have := HSt5.out.2.size; have := HC3.out.size; have := blk_lt HB3.out; omega
  have HB15 := Lib.hid hb15
  clear hl15 hb15
  go_wp2_with fail
  go_region
  all_goals go_wp2_with fail
  all_goals
    obtain ⟨x0, x1, x2, x3, x4⟩ := cells5 (set5_blk HB15.out (.int .i64 2) (.int .i64 10) (.int .i64 8) (.int .i64 4) (.int .i64 32))
    have hfin : Chg (fun k => k = w.heap.size) w15 ((((((w15.setCell ⟨w.heap.size, 0, none⟩ (.int .i64 2)).setCell ⟨w.heap.size, 1, none⟩ (.int .i64 10)).setCell ⟨w.heap.size, 2, none⟩ (.int .i64 8)).setCell ⟨w.heap.size, 3, none⟩ (.int .i64 4)).setCell ⟨w.heap.size, 4, none⟩ (.int .i64 32)).drew) :=
      ((((((Chg.refl (fun k => k = w.heap.size) w15).setCell (p := ⟨w.heap.size, 0, none⟩) (.inl rfl) _).setCell (p := ⟨w.heap.size, 1, none⟩) (.inl rfl) _).setCell (p := ⟨w.heap.size, 2, none⟩) (.inl rfl) _).setCell (p := ⟨w.heap.size, 3, none⟩) (.inl rfl) _).setCell (p := ⟨w.heap.size, 4, none⟩) (.inl rfl) _).drew
    have hw3 := HC3.out.size
    have hw8 := HSt8.out.2.size
    have hz3 := blk_lt HB3.out
    have hz8 := blk_lt HB8.out
    refine bodyPost_ret (v := .tuple #[.pointer (some ⟨w2.heap.size + 2, 0, none⟩), .pointer (some ⟨w8.heap.size, 0, none⟩), sh0.val, .bool true]) ?_ rfl ⟨w2.heap.size + 2, w8.heap.size, grow F w3 w8, fun k => w8.heap.size ≤ k ∧ k < w14.heap.size, rfl, (HSt8.out.1.no' HC15.out).chg hfin ?_, HR15.out.chg hfin ?_, ?_, ?_, ?_, ?_⟩
    · simp [results, Tryz.results11, go_sem, x0, x1, x2, x3, x4, Sh.val, Sh.cells, sh0]
    · rintro k (h | h) rfl
      · exact HNW.out h
      · omega
    · rintro k h rfl
      omega
    · rintro k h1 h2
      have := HSt8.out.1.lt k h1
      omega
    · rintro k (h | h)
      · have := HFD.out k h; omega
      · omega
    · intro k h
      omega
    · have hA : Chg No w w15 := (HC3.out.trans HSt8.out.2 (fun k hk => .inr (by have := HFD.out k hk; omega))).trans_same HC15.out
      exact hA.trans hfin (fun k hk => .inr (by rw [hk]; exact Nat.le_refl _))
end
end Go.Proofs.YtmmnjecaedmleaaGreatDoor

/- Plain laws: a disk of 37 sectors with power, not armed: what is written is read; blocks; the log's head. -/
namespace Go.Proofs.YtmmnjecaedmleaaGreatDoor
open Go.RowKit

def Dk.sec (D : Dk) (k : Int) : Bytes := (D.now k).getD (zs 64)
/-- The disk goes on: power, not armed, 37 sectors, whose epochs are admitted. -/
structure Up (D : Dk) (t1 t2 N : Nat) : Prop where
  on : D.on = true
  free : D.armed = false
  size : D.sectors = 37
  t1 : D.table 1 = t1
  t2 : D.table 2 = t2
  fit : D.FitN N
  szd : D.Szd
/-- A node, with the epoch that is admitted. -/
def Who (t1 t2 : Nat) (node : Int) (ep : Nat) : Prop := 0 < ep ∧ ((node = 1 ∧ ep = t1) ∨ (node = 2 ∧ ep = t2))

section
variable {D : Dk} {t1 t2 N : Nat}
theorem Up.le (h : Up D t1 t2 N) {M : Nat} (hm : M ≤ N) : Up D t1 t2 M := ⟨h.on, h.free, h.size, h.t1, h.t2, h.fit.le hm, h.szd⟩
theorem Up.may (h : Up D t1 t2 N) {n : Int} (h0 : 0 ≤ n) (h1 : n ≤ 16) : D.may n = 0 := by
  unfold Dk.may
  rw [h.on, if_pos rfl, if_pos ⟨h0, h1⟩]
theorem Up.admits (h : Up D t1 t2 N) {node : Int} {ep : Nat} (hw : Who t1 t2 node ep) : D.admits node ep = 0 := by
  obtain ⟨h0, (⟨rfl, rfl⟩ | ⟨rfl, rfl⟩)⟩ := hw
  · have := h.t1
    simp [Dk.admits]
    omega
  · have := h.t2
    simp [Dk.admits]
    omega
theorem Who.mid {node : Int} {ep : Nat} (hw : Who t1 t2 node ep) : 0 ≤ node ∧ node ≤ 16 := by
  obtain ⟨_, (⟨rfl, _⟩ | ⟨rfl, _⟩)⟩ := hw <;> omega
theorem wrN_sec (D : Dk) (node at_ : Int) (data : Bytes) (n : Nat) (k : Int) : (D.wrN node at_ data n).sec k = if at_ ≤ k ∧ k < at_ + n then secAt data (k - at_).toNat else D.sec k := by
  induction n with
  | zero => rw [if_neg (by omega)]; rfl
  | succ n ih =>
    have e : (D.wrN node at_ data (n + 1)).sec k = if k = at_ + n then secAt data n else (D.wrN node at_ data n).sec k := by
      show ((upd (D.wrN node at_ data n).now (at_ + n) (secAt data n)) k).getD (zs 64) = _
      unfold upd
      split <;> rfl
    rw [e]
    by_cases h : k = at_ + n
    · rw [if_pos h, if_pos (by omega), show (k - at_).toNat = n by omega]
    · rw [if_neg h, ih]
      by_cases h2 : at_ ≤ k ∧ k < at_ + n
      · rw [if_pos h2, if_pos (by omega)]
      · rw [if_neg h2, if_neg (by omega)]
theorem Up.write (h : Up D t1 t2 (N + 16)) {node : Int} {ep : Nat} (hw : Who t1 t2 node ep) {at_ : Int} {data : Bytes} {n : Nat} (hl : data.length = 64 * n) (h1 : 1 ≤ n) (h2 : n ≤ 16) (h3 : 0 ≤ at_) (h4 : at_ + n ≤ 37) :
    D.write node ep at_ data = (0, D.wrN node at_ data n) ∧ Up (D.wrN node at_ data n) t1 t2 N := by
  have ht : D.there at_ n = true := there_of h.size h3 h4
  have hwr := Dk.write_free (h.may hw.mid.1 hw.mid.2) (h.admits hw) h.free hl h1 h2 ht
  refine ⟨hwr, ?_⟩
  obtain ⟨a0, a1, _, a3, _, a5, a6, _, _⟩ := wrN_same D node at_ data n
  have hf := write_fitN (N := N) (node := node) (epoch := ep) (at_ := at_) (data := data) h.fit
  have hz := write_szd h.szd node ep at_ data
  rw [hwr] at hf hz
  exact ⟨by rw [a1]; exact h.on, by rw [a6]; exact h.free, by rw [a0]; exact h.size, by rw [a3]; exact h.t1, by rw [a3]; exact h.t2, hf, hz⟩
theorem Up.barrier (h : Up D t1 t2 N) {node : Int} {ep : Nat} (hw : Who t1 t2 node ep) :
    D.barrier node ep = (0, D.settle node) ∧ Up (D.settle node) t1 t2 N :=
  ⟨Dk.barrier_free (h.may hw.mid.1 hw.mid.2) (h.admits hw) h.free, ⟨h.on, h.free, h.size, h.t1, h.t2, settle_fitN h.fit node, settle_szd h.szd node⟩⟩
theorem settle_sec (D : Dk) (node : Int) (k : Int) : (D.settle node).sec k = D.sec k := rfl
theorem Up.fence (h : Up D t1 t2 N) : ∃ D', D.fence 1 = (0, D') ∧ Up D' 0 t2 N ∧ (∀ k, D'.sec k = D.sec k) ∧ D'.last = D.last := by
  have hf := Dk.fence_free (h.may (n := 1) (by omega) (by omega)) h.free
  refine ⟨_, hf, ⟨h.on, h.free, h.size, ?_, ?_, ?_, ?_⟩, fun k => rfl, rfl⟩
  · show setN D.table 1 0 1 = 0
    simp [setN]
  · show setN D.table 1 0 2 = t2
    simp [setN]; exact h.t2
  · have := fence_fitN (node := 1) h.fit
    rw [hf] at this
    exact this
  · have := fence_szd h.szd 1
    rw [hf] at this
    exact this
theorem Up.admit2 (h : Up D t1 t2 N) (e : Nat) (he : D.last < e) : ∃ D', D.admit 2 e = (0, D') ∧ Up D' t1 e N ∧ (∀ k, D'.sec k = D.sec k) := by
  have hf := Dk.admit_free (h.may (n := 2) (by omega) (by omega)) he h.free
  refine ⟨_, hf, ⟨h.on, h.free, h.size, ?_, ?_, ?_, ?_⟩, fun k => rfl⟩
  · show setN D.table 2 e 1 = t1
    simp [setN]; exact h.t1
  · show setN D.table 2 e 2 = e
    simp [setN]
  · have := admit_fitN (node := 2) (epoch := e) h.fit
    rw [hf] at this
    exact this
  · have := admit_szd h.szd 2 e
    rw [hf] at this
    exact this
theorem Up.read (h : Up D t1 t2 N) {at_ : Int} {n : Nat} (h1 : 1 ≤ n) (h3 : 0 ≤ at_) (h4 : at_ + n ≤ 37) : D.read at_ n = (readB D at_ n, 0) := by
  rw [Dk.read, if_neg (by simp [h.on]), if_neg]
  · rfl
  · rw [there_of h.size h3 h4]
    simp
    omega
theorem readB_sec (D : Dk) (at_ : Int) (n : Nat) : readB D at_ (n + 1) = readB D at_ n ++ D.sec (at_ + n) := rfl
theorem sec_len (hs : D.Sized) (k : Int) : (D.sec k).length = 64 := by
  unfold Dk.sec
  cases h : D.now k with
  | none => simp
  | some d => exact hs k d h
theorem readB_data (D : Dk) (at_ : Int) (data : Bytes) (n : Nat) (h : ∀ i, i < n → D.sec (at_ + i) = secAt data i) : readB D at_ n = data.take (64 * n) := by
  induction n with
  | zero => rfl
  | succ n ih =>
    rw [readB_sec, ih (fun i hi => h i (by omega)), h n (by omega), secAt, show 64 * (n + 1) = 64 * n + 64 by omega, List.take_add]
    rw [show n * 64 = 64 * n by omega]
/-- The two sectors of a block. -/
def Dk.blk (D : Dk) (b : Int) : Bytes := D.sec (17 + 2 * b) ++ D.sec (18 + 2 * b)
theorem blockAt0 {b : Int} (h0 : 0 ≤ b) (h1 : b ≤ 9) : sh0.blockAt b = (17 + 2 * b, 0) := by
  unfold Sh.blockAt
  rw [if_pos ⟨h0, by show b ≤ ((10 : Nat) : Int) - 1; omega⟩]
  congr 1
theorem Up.load (h : Up D t1 t2 N) {b : Int} (h0 : 0 ≤ b) (h1 : b ≤ 9) : D.load sh0 b = blkGet b (D.blk b) := by
  have hr := h.read (at_ := 17 + 2 * b) (n := 2) (by omega) (by omega) (by omega)
  unfold Dk.load
  rw [blockAt0 h0 h1]
  simp only
  have hr' : D.read (17 + 2 * b) 2 = (readB D (17 + 2 * b) 2, 0) := hr
  rw [if_neg (by simp), hr']
  simp only
  rw [if_neg (by simp)]
  have e : readB D (17 + 2 * b) 2 = D.blk b := by
    rw [readB_sec, readB_sec]
    show ([] ++ D.sec (17 + 2 * b + ((0 : Nat) : Int))) ++ D.sec (17 + 2 * b + ((1 : Nat) : Int)) = _
    rw [List.nil_append, show 17 + 2 * b + ((0 : Nat) : Int) = 17 + 2 * b by omega, show 17 + 2 * b + ((1 : Nat) : Int) = 18 + 2 * b by omega]
    rfl
  rw [e]
theorem secAt_blk (i : Img) (hi : i.fine) : secAt (blkBytes i) 0 ++ secAt (blkBytes i) 1 = blkBytes i := by
  have hl := blkBytes_length i hi.len
  unfold secAt
  rw [Nat.zero_mul, List.drop_zero, Nat.one_mul, List.take_of_length_le (l := (blkBytes i).drop 64) (by simp; omega), List.take_append_drop]
theorem Up.store (h : Up D t1 t2 (N + 16)) {node : Int} {ep : Nat} (hw : Who t1 t2 node ep) {i : Img} (hi : i.fine) (hb : i.block ≤ 9) :
    ∃ D', D.store sh0 node ep i = (0, D') ∧ Up D' t1 t2 N ∧ D'.blk i.block = blkBytes i ∧ (∀ b, b ≠ i.block → D'.blk b = D.blk b) ∧ (∀ k, k < 17 → D'.sec k = D.sec k) ∧ D'.last = D.last := by
  have hb0 := hi.blk.1
  have hl := blkBytes_length i hi.len
  obtain ⟨hwr, hup⟩ := h.write hw (at_ := 17 + 2 * i.block) (data := blkBytes i) (n := 2) (by omega) (by omega) (by omega) (by omega) (by omega)
  refine ⟨_, ?_, hup, ?_, ?_, ?_, ?_⟩
  · unfold Dk.store
    rw [blockAt0 hb0 hb, if_neg (by simp), if_neg (by rw [hi.1]; decide)]
    exact hwr
  · unfold Dk.blk
    rw [wrN_sec, wrN_sec, if_pos (by omega), if_pos (by omega), show (17 + 2 * i.block - (17 + 2 * i.block)).toNat = 0 by omega, show (18 + 2 * i.block - (17 + 2 * i.block)).toNat = 1 by omega]
    exact secAt_blk i hi
  · intro b hne
    unfold Dk.blk
    rw [wrN_sec, wrN_sec, if_neg (by omega), if_neg (by omega)]
  · intro k hk
    rw [wrN_sec, if_neg (by omega)]
  · exact (wrN_same D node (17 + 2 * i.block) (blkBytes i) 2).2.2.2.2.2.1
end
theorem Dk.FitN.of {D D' : Dk} {N : Nat} (h : D.FitN N) (a : D'.sectors = D.sectors) (b : D'.waits = D.waits) (c : D'.stays = D.stays) (d : D'.seq = D.seq) (e : D'.left = D.left) : D'.FitN N :=
  ⟨by rw [a]; exact h.s0, by rw [a]; exact h.s1, by rw [b]; exact h.waits, by rw [c]; exact h.stays, by rw [d]; exact h.seq, by rw [e]; exact h.left⟩
theorem ready_up : Up Dk.ready 9 0 40000000 ∧ Dk.ready.last = 9 := by
  obtain ⟨a0, a1, a2, a3, a4, a5, a6⟩ := fmt_same sh0
  have hf := fmt_fitN sh0 sh0_ok
  have hz := fmt_szd sh0
  have e1 : Dk.ready.on = (Dk.fmt sh0).on := by rw [Dk.ready]
  have e2 : Dk.ready.armed = (Dk.fmt sh0).armed := by rw [Dk.ready]
  have e3 : Dk.ready.sectors = (Dk.fmt sh0).sectors := by rw [Dk.ready]
  have e4 : Dk.ready.table = setN (Dk.fmt sh0).table 1 9 := by rw [Dk.ready]
  have e5 : Dk.ready.now = (Dk.fmt sh0).now := by rw [Dk.ready]
  have e6 : Dk.ready.lasts = (Dk.fmt sh0).lasts := by rw [Dk.ready]
  have e7 : Dk.ready.waits = (Dk.fmt sh0).waits := by rw [Dk.ready]
  have e8 : Dk.ready.stays = (Dk.fmt sh0).stays := by rw [Dk.ready]
  have e9 : Dk.ready.seq = (Dk.fmt sh0).seq := by rw [Dk.ready]
  have e10 : Dk.ready.left = (Dk.fmt sh0).left := by rw [Dk.ready]
  have e11 : Dk.ready.last = 9 := by rw [Dk.ready]
  refine ⟨⟨by rw [e1]; exact a1, by rw [e2]; exact a2, by rw [e3, a0, sh0_size]; rfl, ?_, ?_, (hf.of e3 e7 e8 e9 e10).le (by omega), ?_⟩, e11⟩
  · rw [e4]; simp [setN]
  · rw [e4]; simp [setN]; exact a4 2
  · exact ⟨fun k d hd => hz.now k d (by rw [e5] at hd; exact hd), fun k x hx => hz.lasts k x (by rw [e6] at hx; exact hx), fun x hx => hz.waits x (by rw [e7] at hx; exact hx)⟩
theorem ready_sec (k : Int) (h1 : k ≠ 0) : Dk.ready.sec k = zs 64 := by
  have e5 : Dk.ready.now = (Dk.fmt sh0).now := by rw [Dk.ready]
  unfold Dk.sec
  rw [e5, fmt_now, if_neg h1]
  split <;> rfl
theorem blkGet_zs (b : Int) : blkGet b (zs 128) = (⟨b, 0, zs 96⟩, 0) := by rw [blkGet, if_pos rfl]
theorem ready_blk (b : Int) (h0 : 0 ≤ b) : Dk.ready.blk b = zs 128 := by
  unfold Dk.blk
  rw [ready_sec _ (by omega), ready_sec _ (by omega)]
  rfl
end Go.Proofs.YtmmnjecaedmleaaGreatDoor
