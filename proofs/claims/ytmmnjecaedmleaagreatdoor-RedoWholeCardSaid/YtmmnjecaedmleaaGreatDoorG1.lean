/- RedoWhole: what the row asks of the run. -/
import Derived.Test.YtmmnjecaedmleaaGreatDoorM39
import Derived.Test.YtmmnjecaedmleaaGreatDoorRows
import Derived.Test.YtmmnjecaedmleaaGreatDoorCards
import Derived.Test.YtmmnjecaedmleaaGreatDoorTie
import Derived.ProofKit
import Derived.OpenShut
import Derived.ShutString
import Derived.ChangeOld
import Derived.Lay
import Derived.SevenTiedAt
namespace Go.Proofs.YtmmnjecaedmleaaGreatDoor.redoWhole
open Go.ChangeShapes Go.WideShapes Go.ChangeAt Go.RowKit
set_option linter.unusedVariables false

theorem own : ownKnob Tryz.prog.godebug = none := by kernel_rfl
theorem laidOut : laidOutB Tryz.prog = true := by kernel_rfl
theorem walk (a0 a1 a2 : Option Addr) (c0 c1 c2 : Nat) (l : List LOp) (keep again : List Int) (w : World) (hl : OpsA w a0 l) (hk : ReadsInts w (.slice a1 keep.length c1) keep) (hkb : ∀ k, (Value.slice a1 keep.length c1).ownBlock = some k → k < w.heap.size) (hk2 : ReadsInts w (.slice a2 again.length c2) again) (hkb2 : ∀ k, (Value.slice a2 again.length c2).ownBlock = some k → k < w.heap.size) :
    Calls Tryz.prog 9 #[.slice a0 l.length c0, .slice a1 keep.length c1, .slice a2 again.length c2] w fun e w' => e = .returned (.bool true) ∧ Below w.heap.size w w' := by
  by_cases hbig : 200 < keep.length ∨ 100 < again.length
  · exact (Whole_big a0 a1 a2 c0 c1 c2 l keep.length again.length hl hbig).mono fun e w' ⟨he, hc⟩ => ⟨he, hc.toBelow⟩
  · exact (Whole_small a0 a1 a2 c0 c1 c2 l keep again hl (fun h => hbig (.inl h)) (fun h => hbig (.inr h)) hk hkb hk2 hkb2).mono fun e w' ⟨he, hc⟩ => ⟨he, hc.toBelow⟩
set_option maxRecDepth 100000 in
theorem lifted (os : Os) (started : os.Started) (H : Type) (enc : TypeId × Value → H) :
    ReturnsInHanded {} Tryz.checked os 9 .any (fun w args => (Rows.redoWholeSpec.pre enc Tryz.prog Tryz.f9 [] false w args ∧ laidMetH Tryz.prog Rows.redoWholeRow.laid w) ∧ sizedMet enc Tryz.prog Tryz.f9 (OpenSpec.ofChange Rows.redoWholeSpec) false w args)
      (Rows.redoWholeSpec.post enc Tryz.prog Tryz.f9 false true false false) := by
  refine returnsInHanded_of_change_and (C := Tryz.checked) (X := fun w _ => laidMetH Tryz.prog Rows.redoWholeRow.laid w) (fun _ _ _ hh h => h.of_heap hh) own started (by kernel_rfl) Tryz.func9
    (ChangeSpec.witness_shaped (enc := enc) (C := Tryz.checked) (os := os) (X := fun w _ => laidMetH Tryz.prog Rows.redoWholeRow.laid w) false (World.laidAll Tryz.prog os Rows.redoWholeRow.laid) #[.slice none 0 0, .slice none 0 0, .slice none 0 0] 8 (World.laidAll_os _ _ _)
      (World.shaped_of_ZipB (by kernel_rfl) (by kernel_rfl)) (by kernel_rfl) (by kernel_rfl) (by kernel_rfl)
      (by rw [MakeChecks.laidMetH_plain _ _ _ (by kernel_rfl)]; exact laidMet_laidAll _ (by kernel_rfl) (by kernel_rfl))) ?_
  intro W base args ds gs before hval0 hW _ _ hL _
  have hval : ∀ (j : Nat) t v, Tryz.f9.params[j]? = some t → args[j]? = some v → Value.okWide Tryz.prog W .any base t v := hval0
  have hW' := hW
  obtain ⟨p, q, hA0, hV, rfl, hfz, hnd⟩ := hW
  have hA : DataW.TrodAll enc Tryz.prog W 0 (fun _ => true) true Tryz.f9.params.toList args.toList ds p := hA0
  rw [Tryz.params9] at hA hval
  obtain ⟨v0, vs0, d0, ds0, p0, q0, hargs, rfl, rfl, h0, r0⟩ := trodAll_cons hA
  obtain ⟨v1, vs1, d1, ds1, p1, q1, rfl, rfl, rfl, h1, r1⟩ := trodAll_cons r0
  obtain ⟨v2, vs2, d2, ds2, p2, q2, rfl, rfl, rfl, h2, r2⟩ := trodAll_cons r1
  obtain ⟨rfl, rfl, rfl⟩ := trodAll_nil r2
  obtain rfl : args = #[v0, v1, v2] := by cases args; simp_all
  obtain ⟨rfl, rfl⟩ := trodVars_none hV
  have o0 := hval 0 90 v0 rfl rfl
  have o1 := hval 1 55 v1 rfl rfl
  have o2 := hval 2 55 v2 rfl rfl
  obtain ⟨a0, len0, cap0, rfl⟩ := okWide_slice und_lops o0
  obtain ⟨a1, len1, cap1, rfl⟩ := okWide_slice und_ints o1
  obtain ⟨a2, len2, cap2, rfl⟩ := okWide_slice und_ints o2
  have k0 := h0
  have lt0 : ∀ x ∈ p0, x.block < W.heap.size := by obtain ⟨m, hm⟩ := k0; exact DataW.trod_lt m _ _ _ hm
  have k1 := h1
  have lt1 : ∀ x ∈ p1, x.block < W.heap.size := by obtain ⟨m, hm⟩ := k1; exact DataW.trod_lt m _ _ _ hm
  have k2 := h2
  have lt2 : ∀ x ∈ p2, x.block < W.heap.size := by obtain ⟨m, hm⟩ := k2; exact DataW.trod_lt m _ _ _ hm
  obtain ⟨f0, hf0⟩ := h0
  obtain ⟨f1, hf1⟩ := h1
  obtain ⟨f2, hf2⟩ := h2
  obtain ⟨l, rfl, hl⟩ := ops_open (fun y e => by subst e; exact spot_ok und_lops o0) hf0
  obtain ⟨keep, rfl, hk⟩ := ints_open (fun y e => by subst e; exact spot_ok und_ints o1) hf1
  obtain ⟨again, rfl, hk2⟩ := ints_open (fun y e => by subst e; exact spot_ok und_ints o2) hf2
  have hkb := blk_ok und_ints o1
  have hkb2 := blk_ok und_ints o2
  clear hA0 hval0
  refine (walk a0 a1 a2 cap0 cap1 cap2 l keep again W hl hk hkb hk2 hkb2).mono fun e W' ⟨he, bel⟩ => ?_
  subst he
  exact ⟨_, rfl, _, _, _, [], _, [], hW', trodAll_mk1 (shut_bool Tryz.underlying4 _), (trodAll_cons_mk (Below.trod laidOut (by kernel_rfl) (of_decide_eq_true (by kernel_rfl)) k0 bel lt0) (trodAll_cons_mk (Below.trod laidOut (by kernel_rfl) (of_decide_eq_true (by kernel_rfl)) k1 bel lt1) (trodAll_cons_mk (Below.trod laidOut (by kernel_rfl) (of_decide_eq_true (by kernel_rfl)) k2 bel lt2) trodAll_mk0))), rfl, bel.frame _, fun h => by cases h⟩
end Go.Proofs.YtmmnjecaedmleaaGreatDoor.redoWhole
