/- THE STATEMENT LogEveryCardSaid: the row, the tied card. -/
import Derived.Test.YtmmnjecaedmleaaGreatDoorF0
import Derived.Test.YtmmnjecaedmleaaGreatDoorF1
namespace Go.Proofs.YtmmnjecaedmleaaGreatDoor.logEvery
open Go.ChangeShapes Go.WideShapes Go.ChangeAt Go.RowKit

theorem over : Rows.logEveryRow.holds Tryz.pinned (OpenSpec.ofChange Rows.logEverySpec) :=
  OpenClaim.holds_of_wide 7 Tryz.f7 rfl rfl rfl rfl rfl rfl rfl ⟨rfl, rfl, rfl, rfl, rfl⟩ rfl rfl rfl rfl rfl (by as_aux_lemma => kernel_rfl) Tryz.func7 joined
    (of_decide_eq_true (by as_aux_lemma => kernel_rfl)) (by unfold Func.isWrapper; first | (rw [if_pos (by decide +kernel)]; kernel_rfl) | (rw [if_neg (by decide +kernel)]; exact ⟨rfl, rfl⟩))
    (fun os started H enc _ => lifted os started H enc)
theorem proved : Rows.LogEveryCardSaid :=
  Claim7.holds_tied_plain_at .later [] [.data, .pinned] true (true, "ad5ac01a4e53eb1f7d8e01071822a1000821cc540c5c89234c0eb019d59699cb") true over (fun _ h => by cases h) (by as_aux_lemma => kernel_rfl) (fun _ h => by cases h) logEvery_row_tie rfl ⟨rfl, rfl⟩ (by as_aux_lemma => kernel_rfl) rfl
    (fun f fn hf hfn => by
      obtain rfl : f = 7 := Option.some.inj ((show Tryz.prog.funcNamed "commons/commonslaw13.LogEvery" = some 7 by kernel_rfl).symm.trans hf) |>.symm
      obtain rfl : fn = Tryz.f7 := (Option.some.inj (Tryz.func7.symm.trans hfn)).symm
      exact ⟨by as_aux_lemma => kernel_rfl, fun j t ht => by
        rw [Tryz.params7] at ht
        have hm : t ∈ [90, 3, 55] := by simpa using Array.mem_of_getElem? ht
        have hall : ([90, 3, 55].all fun u => !Tryz.prog.wantsStandIn u) = true := by kernel_rfl
        exact (show Tryz.prog.wantsStandIn t = false by simpa using List.all_eq_true.1 hall t hm)⟩)
    (by as_aux_lemma => kernel_rfl)
#print axioms proved
end Go.Proofs.YtmmnjecaedmleaaGreatDoor.logEvery
