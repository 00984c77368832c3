/-
  NARROWER THAN 'FOR EVERY INPUT', by the rows' own cells (each row's printed sentence says how): RedoNewer: laid · RedoEvery: laid · RedoPlans: laid · RedoOther: laid · LogEvery: laid · RedoTells: laid · RedoWhole: laid.
  DERIVED. THE GIVEN ROWS OF THIS SEAT. 7 by the template 'for every input the law returns true; each argument reads behind the call as it read before'; 0 by the template 'total and deterministic' (their statements: YtmmnjecaedmleaaGreatDoorTotals.lean).
  GIVEN WITH THE SEED: the statements are not yours to turn. If you find one false, say at which input.
  Laid BY PROGRAM, IN A SANDBOX (cutbox-rows.mjs): the forced cells as the released guide's own fill.sh prints them over the translation 37f1b3d2f51bdcb2… (all of the seat's roots in one cut). By AI agents, Wed Nov 11 2026. No macro, syntax, notation, axiom, sorry.
-/
import Derived.Test.YtmmnjecaedmleaaGreatDoorChecked
import GoSem.PinnedTables
import GoSem.Claim
import GoSem.ClaimJoined
import GoSem.ClaimMapViews
import Derived.JoinedTies
import Derived.KernelRfl
namespace Go.Proofs.YtmmnjecaedmleaaGreatDoor
/- THE CELL 'sum', in the pinned program and in every row, IS THE sha256 OF THE DUMP (.gsa) THAT YtmmnjecaedmleaaGreatDoorProg.lean LOADS. Nothing in Lean hashes anything: it is a label: what it is worth is what the hold of that sum in a sandbox is worth. -/
noncomputable def Tryz.pinned : Pinned := { name := "ytmmnjecaedmleaagreatdoor", sum := "37f1b3d2f51bdcb28cf14a4ae876feec7c18ddfc281e89a456a1ac00d709868f", checked := Tryz.checked }
namespace Rows
def none {H : Type} : Left H := { results := [], args := [] }

/- WHAT THE LISTED PACKAGE-LEVEL VARIABLES READ AS WHEN THE CALL BEGINS. Each datum BY PROGRAM (the guide's laid-datum.mjs) off the statement by which the dump's own 'gosem.cut.vars' lays the variable. In a bare row this is a premise. The card (YtmmnjecaedmleaaGreatDoorCards.lean) ties it to the program's text. -/
def laid_unicode_utf8_acceptRanges {H : Type} : DataW H := .agg [.agg [.lit (.int .u8 128), .lit (.int .u8 191)], .agg [.lit (.int .u8 160), .lit (.int .u8 191)], .agg [.lit (.int .u8 128), .lit (.int .u8 159)], .agg [.lit (.int .u8 144), .lit (.int .u8 191)], .agg [.lit (.int .u8 128), .lit (.int .u8 143)], .agg [.lit (.int .u8 0), .lit (.int .u8 0)], .agg [.lit (.int .u8 0), .lit (.int .u8 0)], .agg [.lit (.int .u8 0), .lit (.int .u8 0)], .agg [.lit (.int .u8 0), .lit (.int .u8 0)], .agg [.lit (.int .u8 0), .lit (.int .u8 0)], .agg [.lit (.int .u8 0), .lit (.int .u8 0)], .agg [.lit (.int .u8 0), .lit (.int .u8 0)], .agg [.lit (.int .u8 0), .lit (.int .u8 0)], .agg [.lit (.int .u8 0), .lit (.int .u8 0)], .agg [.lit (.int .u8 0), .lit (.int .u8 0)], .agg [.lit (.int .u8 0), .lit (.int .u8 0)]]
/-- One of Go's own tables, pinned by name: the form's constant. -/
def laid_unicode_utf8_first : DataW Unit := Go.Pinned.utf8First

/-- 'commonslaw13.RedoNewer': WHATEVER THE INPUT: true; the input reads as it did. -/
def redoNewerSpec : ChangeSpec := { name := "redoNewer", fn := fun _ => fun
  | [d1, d2] => { results := [.lit (.bool true)], args := [d1, d2] }
  | _ => none }
def redoNewerRow : OpenClaim := { program := "ytmmnjecaedmleaagreatdoor", sum := "37f1b3d2f51bdcb28cf14a4ae876feec7c18ddfc281e89a456a1ac00d709868f", func := "commons/commonslaw13.RedoNewer", spec := "redoNewer", inPlace := ["internal/abi.NoEscape", "internal/bytealg.MakeNoZero", "internal/bytealg.IndexByteString", "internal/bytealg.IndexString"], unfollowed := true, recurses := true, named := ["unicode/utf8.first", "unicode/utf8.acceptRanges", "internal/bytealg.MaxLen"], apart := false, laid := [("unicode/utf8.acceptRanges", laid_unicode_utf8_acceptRanges), ("unicode/utf8.first", laid_unicode_utf8_first)] }
def RedoNewerSaid : Prop := redoNewerRow.holds Tryz.pinned (OpenSpec.ofChange redoNewerSpec)

/-- ITS FALSE NEIGHBOUR: 'it returns false'. Refute it at one input. -/
def redoNewerWrong : ChangeSpec := { name := "redoNewer", fn := fun _ => fun
  | [d1, d2] => { results := [.lit (.bool false)], args := [d1, d2] }
  | _ => none }
def RedoNewerWrongFalsely : Prop := redoNewerRow.holds Tryz.pinned (OpenSpec.ofChange redoNewerWrong)

/-- 'commonslaw13.RedoEvery': WHATEVER THE INPUT: true; the input reads as it did. -/
def redoEverySpec : ChangeSpec := { name := "redoEvery", fn := fun _ => fun
  | [d1, d2, d3] => { results := [.lit (.bool true)], args := [d1, d2, d3] }
  | _ => none }
def redoEveryRow : OpenClaim := { program := "ytmmnjecaedmleaagreatdoor", sum := "37f1b3d2f51bdcb28cf14a4ae876feec7c18ddfc281e89a456a1ac00d709868f", func := "commons/commonslaw13.RedoEvery", spec := "redoEvery", inPlace := ["internal/abi.NoEscape", "internal/bytealg.MakeNoZero", "internal/bytealg.IndexByteString", "internal/bytealg.IndexString"], unfollowed := true, recurses := true, named := ["unicode/utf8.first", "unicode/utf8.acceptRanges", "internal/bytealg.MaxLen"], apart := false, laid := [("unicode/utf8.acceptRanges", laid_unicode_utf8_acceptRanges), ("unicode/utf8.first", laid_unicode_utf8_first)] }
def RedoEverySaid : Prop := redoEveryRow.holds Tryz.pinned (OpenSpec.ofChange redoEverySpec)

/-- ITS FALSE NEIGHBOUR: 'it returns false'. Refute it at one input. -/
def redoEveryWrong : ChangeSpec := { name := "redoEvery", fn := fun _ => fun
  | [d1, d2, d3] => { results := [.lit (.bool false)], args := [d1, d2, d3] }
  | _ => none }
def RedoEveryWrongFalsely : Prop := redoEveryRow.holds Tryz.pinned (OpenSpec.ofChange redoEveryWrong)

/-- 'commonslaw13.RedoPlans': WHATEVER THE INPUT: true; the input reads as it did. -/
def redoPlansSpec : ChangeSpec := { name := "redoPlans", fn := fun _ => fun
  | [d1, d2, d3] => { results := [.lit (.bool true)], args := [d1, d2, d3] }
  | _ => none }
def redoPlansRow : OpenClaim := { program := "ytmmnjecaedmleaagreatdoor", sum := "37f1b3d2f51bdcb28cf14a4ae876feec7c18ddfc281e89a456a1ac00d709868f", func := "commons/commonslaw13.RedoPlans", spec := "redoPlans", inPlace := ["internal/abi.NoEscape", "internal/bytealg.MakeNoZero", "internal/bytealg.IndexByteString", "internal/bytealg.IndexString"], unfollowed := true, recurses := true, named := ["unicode/utf8.first", "unicode/utf8.acceptRanges", "internal/bytealg.MaxLen"], apart := false, laid := [("unicode/utf8.acceptRanges", laid_unicode_utf8_acceptRanges), ("unicode/utf8.first", laid_unicode_utf8_first)] }
def RedoPlansSaid : Prop := redoPlansRow.holds Tryz.pinned (OpenSpec.ofChange redoPlansSpec)

/-- ITS FALSE NEIGHBOUR: 'it returns false'. Refute it at one input. -/
def redoPlansWrong : ChangeSpec := { name := "redoPlans", fn := fun _ => fun
  | [d1, d2, d3] => { results := [.lit (.bool false)], args := [d1, d2, d3] }
  | _ => none }
def RedoPlansWrongFalsely : Prop := redoPlansRow.holds Tryz.pinned (OpenSpec.ofChange redoPlansWrong)

/-- 'commonslaw13.RedoOther': WHATEVER THE INPUT: true; the input reads as it did. -/
def redoOtherSpec : ChangeSpec := { name := "redoOther", fn := fun _ => fun
  | [d1, d2] => { results := [.lit (.bool true)], args := [d1, d2] }
  | _ => none }
def redoOtherRow : OpenClaim := { program := "ytmmnjecaedmleaagreatdoor", sum := "37f1b3d2f51bdcb28cf14a4ae876feec7c18ddfc281e89a456a1ac00d709868f", func := "commons/commonslaw13.RedoOther", spec := "redoOther", inPlace := ["internal/abi.NoEscape", "internal/bytealg.MakeNoZero", "internal/bytealg.IndexByteString", "internal/bytealg.IndexString"], unfollowed := true, recurses := true, named := ["unicode/utf8.first", "unicode/utf8.acceptRanges", "internal/bytealg.MaxLen"], apart := false, laid := [("unicode/utf8.acceptRanges", laid_unicode_utf8_acceptRanges), ("unicode/utf8.first", laid_unicode_utf8_first)] }
def RedoOtherSaid : Prop := redoOtherRow.holds Tryz.pinned (OpenSpec.ofChange redoOtherSpec)

/-- ITS FALSE NEIGHBOUR: 'it returns false'. Refute it at one input. -/
def redoOtherWrong : ChangeSpec := { name := "redoOther", fn := fun _ => fun
  | [d1, d2] => { results := [.lit (.bool false)], args := [d1, d2] }
  | _ => none }
def RedoOtherWrongFalsely : Prop := redoOtherRow.holds Tryz.pinned (OpenSpec.ofChange redoOtherWrong)

/-- 'commonslaw13.LogEvery': WHATEVER THE INPUT: true; the input reads as it did. -/
def logEverySpec : ChangeSpec := { name := "logEvery", fn := fun _ => fun
  | [d1, d2, d3] => { results := [.lit (.bool true)], args := [d1, d2, d3] }
  | _ => none }
def logEveryRow : OpenClaim := { program := "ytmmnjecaedmleaagreatdoor", sum := "37f1b3d2f51bdcb28cf14a4ae876feec7c18ddfc281e89a456a1ac00d709868f", func := "commons/commonslaw13.LogEvery", spec := "logEvery", inPlace := ["internal/abi.NoEscape", "internal/bytealg.MakeNoZero", "internal/bytealg.IndexByteString", "internal/bytealg.IndexString"], unfollowed := true, recurses := true, named := ["unicode/utf8.first", "unicode/utf8.acceptRanges", "internal/bytealg.MaxLen"], apart := false, laid := [("unicode/utf8.acceptRanges", laid_unicode_utf8_acceptRanges), ("unicode/utf8.first", laid_unicode_utf8_first)] }
def LogEverySaid : Prop := logEveryRow.holds Tryz.pinned (OpenSpec.ofChange logEverySpec)

/-- ITS FALSE NEIGHBOUR: 'it returns false'. Refute it at one input. -/
def logEveryWrong : ChangeSpec := { name := "logEvery", fn := fun _ => fun
  | [d1, d2, d3] => { results := [.lit (.bool false)], args := [d1, d2, d3] }
  | _ => none }
def LogEveryWrongFalsely : Prop := logEveryRow.holds Tryz.pinned (OpenSpec.ofChange logEveryWrong)

/-- 'commonslaw13.RedoTells': WHATEVER THE INPUT: true; the input reads as it did. -/
def redoTellsSpec : ChangeSpec := { name := "redoTells", fn := fun _ => fun
  | [d1, d2, d3, d4, d5, d6] => { results := [.lit (.bool true)], args := [d1, d2, d3, d4, d5, d6] }
  | _ => none }
def redoTellsRow : OpenClaim := { program := "ytmmnjecaedmleaagreatdoor", sum := "37f1b3d2f51bdcb28cf14a4ae876feec7c18ddfc281e89a456a1ac00d709868f", func := "commons/commonslaw13.RedoTells", spec := "redoTells", inPlace := ["internal/abi.NoEscape", "internal/bytealg.MakeNoZero", "internal/bytealg.IndexByteString", "internal/bytealg.IndexString"], unfollowed := true, recurses := true, named := ["unicode/utf8.first", "unicode/utf8.acceptRanges", "internal/bytealg.MaxLen"], apart := false, laid := [("unicode/utf8.acceptRanges", laid_unicode_utf8_acceptRanges), ("unicode/utf8.first", laid_unicode_utf8_first)] }
def RedoTellsSaid : Prop := redoTellsRow.holds Tryz.pinned (OpenSpec.ofChange redoTellsSpec)

/-- ITS FALSE NEIGHBOUR: 'it returns false'. Refute it at one input. -/
def redoTellsWrong : ChangeSpec := { name := "redoTells", fn := fun _ => fun
  | [d1, d2, d3, d4, d5, d6] => { results := [.lit (.bool false)], args := [d1, d2, d3, d4, d5, d6] }
  | _ => none }
def RedoTellsWrongFalsely : Prop := redoTellsRow.holds Tryz.pinned (OpenSpec.ofChange redoTellsWrong)

/-- 'commonslaw13.RedoWhole': WHATEVER THE INPUT: true; the input reads as it did. -/
def redoWholeSpec : ChangeSpec := { name := "redoWhole", fn := fun _ => fun
  | [d1, d2, d3] => { results := [.lit (.bool true)], args := [d1, d2, d3] }
  | _ => none }
def redoWholeRow : OpenClaim := { program := "ytmmnjecaedmleaagreatdoor", sum := "37f1b3d2f51bdcb28cf14a4ae876feec7c18ddfc281e89a456a1ac00d709868f", func := "commons/commonslaw13.RedoWhole", spec := "redoWhole", inPlace := ["internal/abi.NoEscape", "internal/bytealg.MakeNoZero", "internal/bytealg.IndexByteString", "internal/bytealg.IndexString", "maps.clone"], unfollowed := true, recurses := true, named := ["unicode/utf8.first", "unicode/utf8.acceptRanges", "internal/bytealg.MaxLen"], apart := false, laid := [("unicode/utf8.acceptRanges", laid_unicode_utf8_acceptRanges), ("unicode/utf8.first", laid_unicode_utf8_first)] }
def RedoWholeSaid : Prop := redoWholeRow.holds Tryz.pinned (OpenSpec.ofChange redoWholeSpec)

/-- ITS FALSE NEIGHBOUR: 'it returns false'. Refute it at one input. -/
def redoWholeWrong : ChangeSpec := { name := "redoWhole", fn := fun _ => fun
  | [d1, d2, d3] => { results := [.lit (.bool false)], args := [d1, d2, d3] }
  | _ => none }
def RedoWholeWrongFalsely : Prop := redoWholeRow.holds Tryz.pinned (OpenSpec.ofChange redoWholeWrong)

/- THE SECOND FORM. 'bulk': how many values and letters a reading holds, each counted each time it is reached (what is shared counts as often as it is met; a slice's spare places count too). A statement '..UptoSaid' is the law's where the arguments, and the package variables that the reading takes, are together of bulk at most 1048576: NARROWER than '..Said'. Prove '..Said' where nothing that the law and all that it calls make is longer than what came in: it says more and counts as full. Else prove '..UptoSaid'. A law counts once. -/
mutual
def uptoBulk {H : Type} : DataW H → Nat
  | .lit (.string bytes) => bytes.length + 1
  | .lit _ => 1
  | .nil => 1
  | .ptr d => uptoBulk d + 1
  | .slice elems spare => uptoBulkAll elems + uptoBulkAll spare + 1
  | .agg parts => uptoBulkAll parts + 1
  | .iface _ d => uptoBulk d + 1
  | .map entries => uptoBulkEntries entries + 1
  | .held _ => 1
def uptoBulkAll {H : Type} : List (DataW H) → Nat
  | [] => 0
  | d :: r => uptoBulk d + uptoBulkAll r
def uptoBulkEntries {H : Type} : List (Lit × DataW H) → Nat
  | [] => 0
  | x :: r => uptoBulkEntry x + uptoBulkEntries r
def uptoBulkEntry {H : Type} : Lit × DataW H → Nat
  | (.string bytes, d) => bytes.length + uptoBulk d + 1
  | (_, d) => uptoBulk d + 1
 end
def uptoSmall : (H : Type) → List (DataW H) → Bool := fun _ ds => decide (uptoBulkAll ds ≤ 1048576)
def OpenSpec.upto (s : _root_.Go.ChangeSpec) : _root_.Go.OpenSpec := { _root_.Go.OpenSpec.ofChange s with cond := some uptoSmall }

/-- 'commonslaw13.RedoNewer', WHERE WHAT IT READS IS OF BULK AT MOST 1048576: true; the input reads as it did. -/
def redoNewerUptoRow : OpenClaim := { program := "ytmmnjecaedmleaagreatdoor", sum := "37f1b3d2f51bdcb28cf14a4ae876feec7c18ddfc281e89a456a1ac00d709868f", func := "commons/commonslaw13.RedoNewer", spec := "redoNewer", inPlace := ["internal/abi.NoEscape", "internal/bytealg.MakeNoZero", "internal/bytealg.IndexByteString", "internal/bytealg.IndexString"], unfollowed := true, recurses := true, named := ["unicode/utf8.first", "unicode/utf8.acceptRanges", "internal/bytealg.MaxLen"], apart := false, laid := [("unicode/utf8.acceptRanges", laid_unicode_utf8_acceptRanges), ("unicode/utf8.first", laid_unicode_utf8_first)], narrowed := true }
def RedoNewerUptoSaid : Prop := redoNewerUptoRow.holds Tryz.pinned (OpenSpec.upto redoNewerSpec)

/-- 'commonslaw13.RedoEvery', WHERE WHAT IT READS IS OF BULK AT MOST 1048576: true; the input reads as it did. -/
def redoEveryUptoRow : OpenClaim := { program := "ytmmnjecaedmleaagreatdoor", sum := "37f1b3d2f51bdcb28cf14a4ae876feec7c18ddfc281e89a456a1ac00d709868f", func := "commons/commonslaw13.RedoEvery", spec := "redoEvery", inPlace := ["internal/abi.NoEscape", "internal/bytealg.MakeNoZero", "internal/bytealg.IndexByteString", "internal/bytealg.IndexString"], unfollowed := true, recurses := true, named := ["unicode/utf8.first", "unicode/utf8.acceptRanges", "internal/bytealg.MaxLen"], apart := false, laid := [("unicode/utf8.acceptRanges", laid_unicode_utf8_acceptRanges), ("unicode/utf8.first", laid_unicode_utf8_first)], narrowed := true }
def RedoEveryUptoSaid : Prop := redoEveryUptoRow.holds Tryz.pinned (OpenSpec.upto redoEverySpec)

/-- 'commonslaw13.RedoPlans', WHERE WHAT IT READS IS OF BULK AT MOST 1048576: true; the input reads as it did. -/
def redoPlansUptoRow : OpenClaim := { program := "ytmmnjecaedmleaagreatdoor", sum := "37f1b3d2f51bdcb28cf14a4ae876feec7c18ddfc281e89a456a1ac00d709868f", func := "commons/commonslaw13.RedoPlans", spec := "redoPlans", inPlace := ["internal/abi.NoEscape", "internal/bytealg.MakeNoZero", "internal/bytealg.IndexByteString", "internal/bytealg.IndexString"], unfollowed := true, recurses := true, named := ["unicode/utf8.first", "unicode/utf8.acceptRanges", "internal/bytealg.MaxLen"], apart := false, laid := [("unicode/utf8.acceptRanges", laid_unicode_utf8_acceptRanges), ("unicode/utf8.first", laid_unicode_utf8_first)], narrowed := true }
def RedoPlansUptoSaid : Prop := redoPlansUptoRow.holds Tryz.pinned (OpenSpec.upto redoPlansSpec)

/-- 'commonslaw13.RedoOther', WHERE WHAT IT READS IS OF BULK AT MOST 1048576: true; the input reads as it did. -/
def redoOtherUptoRow : OpenClaim := { program := "ytmmnjecaedmleaagreatdoor", sum := "37f1b3d2f51bdcb28cf14a4ae876feec7c18ddfc281e89a456a1ac00d709868f", func := "commons/commonslaw13.RedoOther", spec := "redoOther", inPlace := ["internal/abi.NoEscape", "internal/bytealg.MakeNoZero", "internal/bytealg.IndexByteString", "internal/bytealg.IndexString"], unfollowed := true, recurses := true, named := ["unicode/utf8.first", "unicode/utf8.acceptRanges", "internal/bytealg.MaxLen"], apart := false, laid := [("unicode/utf8.acceptRanges", laid_unicode_utf8_acceptRanges), ("unicode/utf8.first", laid_unicode_utf8_first)], narrowed := true }
def RedoOtherUptoSaid : Prop := redoOtherUptoRow.holds Tryz.pinned (OpenSpec.upto redoOtherSpec)

/-- 'commonslaw13.LogEvery', WHERE WHAT IT READS IS OF BULK AT MOST 1048576: true; the input reads as it did. -/
def logEveryUptoRow : OpenClaim := { program := "ytmmnjecaedmleaagreatdoor", sum := "37f1b3d2f51bdcb28cf14a4ae876feec7c18ddfc281e89a456a1ac00d709868f", func := "commons/commonslaw13.LogEvery", spec := "logEvery", inPlace := ["internal/abi.NoEscape", "internal/bytealg.MakeNoZero", "internal/bytealg.IndexByteString", "internal/bytealg.IndexString"], unfollowed := true, recurses := true, named := ["unicode/utf8.first", "unicode/utf8.acceptRanges", "internal/bytealg.MaxLen"], apart := false, laid := [("unicode/utf8.acceptRanges", laid_unicode_utf8_acceptRanges), ("unicode/utf8.first", laid_unicode_utf8_first)], narrowed := true }
def LogEveryUptoSaid : Prop := logEveryUptoRow.holds Tryz.pinned (OpenSpec.upto logEverySpec)

/-- 'commonslaw13.RedoTells', WHERE WHAT IT READS IS OF BULK AT MOST 1048576: true; the input reads as it did. -/
def redoTellsUptoRow : OpenClaim := { program := "ytmmnjecaedmleaagreatdoor", sum := "37f1b3d2f51bdcb28cf14a4ae876feec7c18ddfc281e89a456a1ac00d709868f", func := "commons/commonslaw13.RedoTells", spec := "redoTells", inPlace := ["internal/abi.NoEscape", "internal/bytealg.MakeNoZero", "internal/bytealg.IndexByteString", "internal/bytealg.IndexString"], unfollowed := true, recurses := true, named := ["unicode/utf8.first", "unicode/utf8.acceptRanges", "internal/bytealg.MaxLen"], apart := false, laid := [("unicode/utf8.acceptRanges", laid_unicode_utf8_acceptRanges), ("unicode/utf8.first", laid_unicode_utf8_first)], narrowed := true }
def RedoTellsUptoSaid : Prop := redoTellsUptoRow.holds Tryz.pinned (OpenSpec.upto redoTellsSpec)

/-- 'commonslaw13.RedoWhole', WHERE WHAT IT READS IS OF BULK AT MOST 1048576: true; the input reads as it did. -/
def redoWholeUptoRow : OpenClaim := { program := "ytmmnjecaedmleaagreatdoor", sum := "37f1b3d2f51bdcb28cf14a4ae876feec7c18ddfc281e89a456a1ac00d709868f", func := "commons/commonslaw13.RedoWhole", spec := "redoWhole", inPlace := ["internal/abi.NoEscape", "internal/bytealg.MakeNoZero", "internal/bytealg.IndexByteString", "internal/bytealg.IndexString", "maps.clone"], unfollowed := true, recurses := true, named := ["unicode/utf8.first", "unicode/utf8.acceptRanges", "internal/bytealg.MaxLen"], apart := false, laid := [("unicode/utf8.acceptRanges", laid_unicode_utf8_acceptRanges), ("unicode/utf8.first", laid_unicode_utf8_first)], narrowed := true }
def RedoWholeUptoSaid : Prop := redoWholeUptoRow.holds Tryz.pinned (OpenSpec.upto redoWholeSpec)

end Rows
end Go.Proofs.YtmmnjecaedmleaaGreatDoor
