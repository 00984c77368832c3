/- Closed facts for RedoWhole's row: each by the kernel, apart. -/
import Derived.Test.YtmmnjecaedmleaaGreatDoorRows
import Derived.Test.YtmmnjecaedmleaaGreatDoorCards
import Derived.Test.YtmmnjecaedmleaaGreatDoorTie
import Derived.ProofKit
import Derived.OpenShut
import Derived.Lay
import Derived.SevenTiedAt
namespace Go.Proofs.YtmmnjecaedmleaaGreatDoor.redoWhole
open Go.ChangeShapes Go.WideShapes Go.ChangeAt Go.RowKit

theorem and_t {a b : Bool} (ha : a = true) (hb : b = true) : (a && b) = true := by rw [ha, hb]; rfl
set_option maxHeartbeats 12800000 in
set_option maxRecDepth 100000 in
theorem joined : joinedFacts Tryz.pinned.checked.prog 9 Tryz.f9 Rows.redoWholeSpec Rows.redoWholeRow = true := by
  unfold joinedFacts
  repeat' (with_reducible refine and_t ?_ ?_)
  all_goals (as_aux_lemma => kernel_rfl)
end Go.Proofs.YtmmnjecaedmleaaGreatDoor.redoWhole
