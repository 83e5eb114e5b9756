/-
  NARROWER THAN 'FOR EVERY INPUT', by the rows' own cells (each row's printed sentence says how): TableEntry: laid · FieldTrains: laid · FieldPlays: laid · LockTells: laid · LockErrs: laid · LockBusy: laid · LockDanger: laid · LockIn: laid · LockApart: laid · LockSetsBack: laid · UnitHears: laid.
  DERIVED. THE GIVEN ROWS OF THIS SEAT. 11 by the template 'for every input the law returns true; each argument reads behind the call as it read before'; 0 by the template 'total and deterministic' (their statements: YtnfceboppdcfdaaDoorTotals.lean).
  GIVEN WITH THE SEED: the statements are not yours to turn. If you find one false, say at which input.
  Laid BY PROGRAM, IN A SANDBOX (cutbox-rows.mjs): the forced cells as the released guide's own fill.sh prints them over the translation df322bb48ec7faa3… (all of the seat's roots in one cut). By AI agents, Wed Nov 11 2026. No macro, syntax, notation, axiom, sorry.
-/
import Derived.Test.YtnfceboppdcfdaaDoorChecked
import GoSem.PinnedTables
import GoSem.Claim
import GoSem.ClaimJoined
import GoSem.ClaimMapViews
import Derived.JoinedTies
import Derived.KernelRfl
namespace Go.Proofs.YtnfceboppdcfdaaDoor
/- THE CELL 'sum', in the pinned program and in every row, IS THE sha256 OF THE DUMP (.gsa) THAT YtnfceboppdcfdaaDoorProg.lean LOADS. Nothing in Lean hashes anything: it is a label: what it is worth is what the hold of that sum in a sandbox is worth. -/
noncomputable def Tryd.pinned : Pinned := { name := "ytnfceboppdcfdaadoor", sum := "df322bb48ec7faa3a3bdff82ba68a209ded8cbe658eee730084101b192478819", checked := Tryd.checked }
namespace Rows
def none {H : Type} : Left H := { results := [], args := [] }

/- WHAT THE LISTED PACKAGE-LEVEL VARIABLES READ AS WHEN THE CALL BEGINS. Each datum BY PROGRAM (the guide's laid-datum.mjs) off the statement by which the dump's own 'gosem.cut.vars' lays the variable. In a bare row this is a premise. The card (YtnfceboppdcfdaaDoorCards.lean) ties it to the program's text. -/
def laid_unicode_utf8_acceptRanges {H : Type} : DataW H := .agg [.agg [.lit (.int .u8 128), .lit (.int .u8 191)], .agg [.lit (.int .u8 160), .lit (.int .u8 191)], .agg [.lit (.int .u8 128), .lit (.int .u8 159)], .agg [.lit (.int .u8 144), .lit (.int .u8 191)], .agg [.lit (.int .u8 128), .lit (.int .u8 143)], .agg [.lit (.int .u8 0), .lit (.int .u8 0)], .agg [.lit (.int .u8 0), .lit (.int .u8 0)], .agg [.lit (.int .u8 0), .lit (.int .u8 0)], .agg [.lit (.int .u8 0), .lit (.int .u8 0)], .agg [.lit (.int .u8 0), .lit (.int .u8 0)], .agg [.lit (.int .u8 0), .lit (.int .u8 0)], .agg [.lit (.int .u8 0), .lit (.int .u8 0)], .agg [.lit (.int .u8 0), .lit (.int .u8 0)], .agg [.lit (.int .u8 0), .lit (.int .u8 0)], .agg [.lit (.int .u8 0), .lit (.int .u8 0)], .agg [.lit (.int .u8 0), .lit (.int .u8 0)]]
/-- One of Go's own tables, pinned by name: the form's constant. -/
def laid_unicode_utf8_first : DataW Unit := Go.Pinned.utf8First

/-- 'pointsmanlaw4.TableEntry': WHATEVER THE INPUT: true; the input reads as it did. -/
def tableEntrySpec : ChangeSpec := { name := "tableEntry", fn := fun _ => fun
  | [d] => { results := [.lit (.bool true)], args := [d] }
  | _ => none }
def tableEntryRow : OpenClaim := { program := "ytnfceboppdcfdaadoor", sum := "df322bb48ec7faa3a3bdff82ba68a209ded8cbe658eee730084101b192478819", func := "pointsman/pointsmanlaw4.TableEntry", spec := "tableEntry", unfollowed := true, recurses := true, named := ["unicode/utf8.first", "unicode/utf8.acceptRanges"], apart := false, laid := [("unicode/utf8.acceptRanges", laid_unicode_utf8_acceptRanges), ("unicode/utf8.first", laid_unicode_utf8_first)] }
def TableEntrySaid : Prop := tableEntryRow.holds Tryd.pinned (OpenSpec.ofChange tableEntrySpec)

/-- ITS FALSE NEIGHBOUR: 'it returns false'. Refute it at one input. -/
def tableEntryWrong : ChangeSpec := { name := "tableEntry", fn := fun _ => fun
  | [d] => { results := [.lit (.bool false)], args := [d] }
  | _ => none }
def TableEntryWrongFalsely : Prop := tableEntryRow.holds Tryd.pinned (OpenSpec.ofChange tableEntryWrong)

/-- 'pointsmanlaw6.FieldTrains': WHATEVER THE INPUT: true; the input reads as it did. -/
def fieldTrainsSpec : ChangeSpec := { name := "fieldTrains", fn := fun _ => fun
  | [d1, d2] => { results := [.lit (.bool true)], args := [d1, d2] }
  | _ => none }
def fieldTrainsRow : OpenClaim := { program := "ytnfceboppdcfdaadoor", sum := "df322bb48ec7faa3a3bdff82ba68a209ded8cbe658eee730084101b192478819", func := "pointsman/pointsmanlaw6.FieldTrains", spec := "fieldTrains", named := ["unicode/utf8.first", "unicode/utf8.acceptRanges"], apart := false, laid := [("unicode/utf8.acceptRanges", laid_unicode_utf8_acceptRanges), ("unicode/utf8.first", laid_unicode_utf8_first)] }
def FieldTrainsSaid : Prop := fieldTrainsRow.holds Tryd.pinned (OpenSpec.ofChange fieldTrainsSpec)

/-- ITS FALSE NEIGHBOUR: 'it returns false'. Refute it at one input. -/
def fieldTrainsWrong : ChangeSpec := { name := "fieldTrains", fn := fun _ => fun
  | [d1, d2] => { results := [.lit (.bool false)], args := [d1, d2] }
  | _ => none }
def FieldTrainsWrongFalsely : Prop := fieldTrainsRow.holds Tryd.pinned (OpenSpec.ofChange fieldTrainsWrong)

/-- 'pointsmanlaw6.FieldPlays': WHATEVER THE INPUT: true; the input reads as it did. -/
def fieldPlaysSpec : ChangeSpec := { name := "fieldPlays", fn := fun _ => fun
  | [d1, d2] => { results := [.lit (.bool true)], args := [d1, d2] }
  | _ => none }
def fieldPlaysRow : OpenClaim := { program := "ytnfceboppdcfdaadoor", sum := "df322bb48ec7faa3a3bdff82ba68a209ded8cbe658eee730084101b192478819", func := "pointsman/pointsmanlaw6.FieldPlays", spec := "fieldPlays", named := ["unicode/utf8.first", "unicode/utf8.acceptRanges"], apart := false, laid := [("unicode/utf8.acceptRanges", laid_unicode_utf8_acceptRanges), ("unicode/utf8.first", laid_unicode_utf8_first)] }
def FieldPlaysSaid : Prop := fieldPlaysRow.holds Tryd.pinned (OpenSpec.ofChange fieldPlaysSpec)

/-- ITS FALSE NEIGHBOUR: 'it returns false'. Refute it at one input. -/
def fieldPlaysWrong : ChangeSpec := { name := "fieldPlays", fn := fun _ => fun
  | [d1, d2] => { results := [.lit (.bool false)], args := [d1, d2] }
  | _ => none }
def FieldPlaysWrongFalsely : Prop := fieldPlaysRow.holds Tryd.pinned (OpenSpec.ofChange fieldPlaysWrong)

/-- 'pointsmanlaw5.LockTells': WHATEVER THE INPUT: true; the input reads as it did. -/
def lockTellsSpec : ChangeSpec := { name := "lockTells", fn := fun _ => fun
  | [d1, d2] => { results := [.lit (.bool true)], args := [d1, d2] }
  | _ => none }
def lockTellsRow : OpenClaim := { program := "ytnfceboppdcfdaadoor", sum := "df322bb48ec7faa3a3bdff82ba68a209ded8cbe658eee730084101b192478819", func := "pointsman/pointsmanlaw5.LockTells", spec := "lockTells", unfollowed := true, recurses := true, named := ["unicode/utf8.first", "unicode/utf8.acceptRanges"], apart := false, laid := [("unicode/utf8.acceptRanges", laid_unicode_utf8_acceptRanges), ("unicode/utf8.first", laid_unicode_utf8_first)] }
def LockTellsSaid : Prop := lockTellsRow.holds Tryd.pinned (OpenSpec.ofChange lockTellsSpec)

/-- ITS FALSE NEIGHBOUR: 'it returns false'. Refute it at one input. -/
def lockTellsWrong : ChangeSpec := { name := "lockTells", fn := fun _ => fun
  | [d1, d2] => { results := [.lit (.bool false)], args := [d1, d2] }
  | _ => none }
def LockTellsWrongFalsely : Prop := lockTellsRow.holds Tryd.pinned (OpenSpec.ofChange lockTellsWrong)

/-- 'pointsmanlaw5.LockErrs': WHATEVER THE INPUT: true; the input reads as it did. -/
def lockErrsSpec : ChangeSpec := { name := "lockErrs", fn := fun _ => fun
  | [d1, d2, d3] => { results := [.lit (.bool true)], args := [d1, d2, d3] }
  | _ => none }
def lockErrsRow : OpenClaim := { program := "ytnfceboppdcfdaadoor", sum := "df322bb48ec7faa3a3bdff82ba68a209ded8cbe658eee730084101b192478819", func := "pointsman/pointsmanlaw5.LockErrs", spec := "lockErrs", unfollowed := true, recurses := true, named := ["unicode/utf8.first", "unicode/utf8.acceptRanges"], apart := false, laid := [("unicode/utf8.acceptRanges", laid_unicode_utf8_acceptRanges), ("unicode/utf8.first", laid_unicode_utf8_first)] }
def LockErrsSaid : Prop := lockErrsRow.holds Tryd.pinned (OpenSpec.ofChange lockErrsSpec)

/-- ITS FALSE NEIGHBOUR: 'it returns false'. Refute it at one input. -/
def lockErrsWrong : ChangeSpec := { name := "lockErrs", fn := fun _ => fun
  | [d1, d2, d3] => { results := [.lit (.bool false)], args := [d1, d2, d3] }
  | _ => none }
def LockErrsWrongFalsely : Prop := lockErrsRow.holds Tryd.pinned (OpenSpec.ofChange lockErrsWrong)

/-- 'pointsmanlaw5.LockBusy': WHATEVER THE INPUT: true; the input reads as it did. -/
def lockBusySpec : ChangeSpec := { name := "lockBusy", fn := fun _ => fun
  | [d1, d2, d3] => { results := [.lit (.bool true)], args := [d1, d2, d3] }
  | _ => none }
def lockBusyRow : OpenClaim := { program := "ytnfceboppdcfdaadoor", sum := "df322bb48ec7faa3a3bdff82ba68a209ded8cbe658eee730084101b192478819", func := "pointsman/pointsmanlaw5.LockBusy", spec := "lockBusy", unfollowed := true, recurses := true, named := ["unicode/utf8.first", "unicode/utf8.acceptRanges"], apart := false, laid := [("unicode/utf8.acceptRanges", laid_unicode_utf8_acceptRanges), ("unicode/utf8.first", laid_unicode_utf8_first)] }
def LockBusySaid : Prop := lockBusyRow.holds Tryd.pinned (OpenSpec.ofChange lockBusySpec)

/-- ITS FALSE NEIGHBOUR: 'it returns false'. Refute it at one input. -/
def lockBusyWrong : ChangeSpec := { name := "lockBusy", fn := fun _ => fun
  | [d1, d2, d3] => { results := [.lit (.bool false)], args := [d1, d2, d3] }
  | _ => none }
def LockBusyWrongFalsely : Prop := lockBusyRow.holds Tryd.pinned (OpenSpec.ofChange lockBusyWrong)

/-- 'pointsmanlaw5.LockDanger': WHATEVER THE INPUT: true; the input reads as it did. -/
def lockDangerSpec : ChangeSpec := { name := "lockDanger", fn := fun _ => fun
  | [d] => { results := [.lit (.bool true)], args := [d] }
  | _ => none }
def lockDangerRow : OpenClaim := { program := "ytnfceboppdcfdaadoor", sum := "df322bb48ec7faa3a3bdff82ba68a209ded8cbe658eee730084101b192478819", func := "pointsman/pointsmanlaw5.LockDanger", spec := "lockDanger", unfollowed := true, recurses := true, named := ["unicode/utf8.first", "unicode/utf8.acceptRanges"], apart := false, laid := [("unicode/utf8.acceptRanges", laid_unicode_utf8_acceptRanges), ("unicode/utf8.first", laid_unicode_utf8_first)] }
def LockDangerSaid : Prop := lockDangerRow.holds Tryd.pinned (OpenSpec.ofChange lockDangerSpec)

/-- ITS FALSE NEIGHBOUR: 'it returns false'. Refute it at one input. -/
def lockDangerWrong : ChangeSpec := { name := "lockDanger", fn := fun _ => fun
  | [d] => { results := [.lit (.bool false)], args := [d] }
  | _ => none }
def LockDangerWrongFalsely : Prop := lockDangerRow.holds Tryd.pinned (OpenSpec.ofChange lockDangerWrong)

/-- 'pointsmanlaw5.LockIn': WHATEVER THE INPUT: true; the input reads as it did. -/
def lockInSpec : ChangeSpec := { name := "lockIn", fn := fun _ => fun
  | [d1, d2] => { results := [.lit (.bool true)], args := [d1, d2] }
  | _ => none }
def lockInRow : OpenClaim := { program := "ytnfceboppdcfdaadoor", sum := "df322bb48ec7faa3a3bdff82ba68a209ded8cbe658eee730084101b192478819", func := "pointsman/pointsmanlaw5.LockIn", spec := "lockIn", unfollowed := true, recurses := true, named := ["unicode/utf8.first", "unicode/utf8.acceptRanges"], apart := false, laid := [("unicode/utf8.acceptRanges", laid_unicode_utf8_acceptRanges), ("unicode/utf8.first", laid_unicode_utf8_first)] }
def LockInSaid : Prop := lockInRow.holds Tryd.pinned (OpenSpec.ofChange lockInSpec)

/-- ITS FALSE NEIGHBOUR: 'it returns false'. Refute it at one input. -/
def lockInWrong : ChangeSpec := { name := "lockIn", fn := fun _ => fun
  | [d1, d2] => { results := [.lit (.bool false)], args := [d1, d2] }
  | _ => none }
def LockInWrongFalsely : Prop := lockInRow.holds Tryd.pinned (OpenSpec.ofChange lockInWrong)

/-- 'pointsmanlaw5.LockApart': WHATEVER THE INPUT: true; the input reads as it did. -/
def lockApartSpec : ChangeSpec := { name := "lockApart", fn := fun _ => fun
  | [d1, d2] => { results := [.lit (.bool true)], args := [d1, d2] }
  | _ => none }
def lockApartRow : OpenClaim := { program := "ytnfceboppdcfdaadoor", sum := "df322bb48ec7faa3a3bdff82ba68a209ded8cbe658eee730084101b192478819", func := "pointsman/pointsmanlaw5.LockApart", spec := "lockApart", unfollowed := true, recurses := true, named := ["unicode/utf8.first", "unicode/utf8.acceptRanges"], apart := false, laid := [("unicode/utf8.acceptRanges", laid_unicode_utf8_acceptRanges), ("unicode/utf8.first", laid_unicode_utf8_first)] }
def LockApartSaid : Prop := lockApartRow.holds Tryd.pinned (OpenSpec.ofChange lockApartSpec)

/-- ITS FALSE NEIGHBOUR: 'it returns false'. Refute it at one input. -/
def lockApartWrong : ChangeSpec := { name := "lockApart", fn := fun _ => fun
  | [d1, d2] => { results := [.lit (.bool false)], args := [d1, d2] }
  | _ => none }
def LockApartWrongFalsely : Prop := lockApartRow.holds Tryd.pinned (OpenSpec.ofChange lockApartWrong)

/-- 'pointsmanlaw5.LockSetsBack': WHATEVER THE INPUT: true; the input reads as it did. -/
def lockSetsBackSpec : ChangeSpec := { name := "lockSetsBack", fn := fun _ => fun
  | [d1, d2, d3] => { results := [.lit (.bool true)], args := [d1, d2, d3] }
  | _ => none }
def lockSetsBackRow : OpenClaim := { program := "ytnfceboppdcfdaadoor", sum := "df322bb48ec7faa3a3bdff82ba68a209ded8cbe658eee730084101b192478819", func := "pointsman/pointsmanlaw5.LockSetsBack", spec := "lockSetsBack", unfollowed := true, recurses := true, named := ["unicode/utf8.first", "unicode/utf8.acceptRanges"], apart := false, laid := [("unicode/utf8.acceptRanges", laid_unicode_utf8_acceptRanges), ("unicode/utf8.first", laid_unicode_utf8_first)] }
def LockSetsBackSaid : Prop := lockSetsBackRow.holds Tryd.pinned (OpenSpec.ofChange lockSetsBackSpec)

/-- ITS FALSE NEIGHBOUR: 'it returns false'. Refute it at one input. -/
def lockSetsBackWrong : ChangeSpec := { name := "lockSetsBack", fn := fun _ => fun
  | [d1, d2, d3] => { results := [.lit (.bool false)], args := [d1, d2, d3] }
  | _ => none }
def LockSetsBackWrongFalsely : Prop := lockSetsBackRow.holds Tryd.pinned (OpenSpec.ofChange lockSetsBackWrong)

/-- 'pointsmanlaw12.UnitHears': WHATEVER THE INPUT: true; the input reads as it did. -/
def unitHearsSpec : ChangeSpec := { name := "unitHears", fn := fun _ => fun
  | [d1, d2] => { results := [.lit (.bool true)], args := [d1, d2] }
  | _ => none }
def unitHearsRow : OpenClaim := { program := "ytnfceboppdcfdaadoor", sum := "df322bb48ec7faa3a3bdff82ba68a209ded8cbe658eee730084101b192478819", func := "pointsman/pointsmanlaw12.UnitHears", spec := "unitHears", unfollowed := true, recurses := true, named := ["unicode/utf8.first", "unicode/utf8.acceptRanges"], apart := false, laid := [("unicode/utf8.acceptRanges", laid_unicode_utf8_acceptRanges), ("unicode/utf8.first", laid_unicode_utf8_first)] }
def UnitHearsSaid : Prop := unitHearsRow.holds Tryd.pinned (OpenSpec.ofChange unitHearsSpec)

/-- ITS FALSE NEIGHBOUR: 'it returns false'. Refute it at one input. -/
def unitHearsWrong : ChangeSpec := { name := "unitHears", fn := fun _ => fun
  | [d1, d2] => { results := [.lit (.bool false)], args := [d1, d2] }
  | _ => none }
def UnitHearsWrongFalsely : Prop := unitHearsRow.holds Tryd.pinned (OpenSpec.ofChange unitHearsWrong)

/- THE SECOND FORM. 'bulk': how many values and letters a reading holds, each counted each time it is reached (what is shared counts as often as it is met; a slice's spare places count too). A statement '..UptoSaid' is the law's where the arguments, and the package variables that the reading takes, are together of bulk at most 1048576: NARROWER than '..Said'. Prove '..Said' where nothing that the law and all that it calls make is longer than what came in: it says more and counts as full. Else prove '..UptoSaid'. A law counts once. -/
mutual
def uptoBulk {H : Type} : DataW H → Nat
  | .lit (.string bytes) => bytes.length + 1
  | .lit _ => 1
  | .nil => 1
  | .ptr d => uptoBulk d + 1
  | .slice elems spare => uptoBulkAll elems + uptoBulkAll spare + 1
  | .agg parts => uptoBulkAll parts + 1
  | .iface _ d => uptoBulk d + 1
  | .map entries => uptoBulkEntries entries + 1
  | .held _ => 1
def uptoBulkAll {H : Type} : List (DataW H) → Nat
  | [] => 0
  | d :: r => uptoBulk d + uptoBulkAll r
def uptoBulkEntries {H : Type} : List (Lit × DataW H) → Nat
  | [] => 0
  | x :: r => uptoBulkEntry x + uptoBulkEntries r
def uptoBulkEntry {H : Type} : Lit × DataW H → Nat
  | (.string bytes, d) => bytes.length + uptoBulk d + 1
  | (_, d) => uptoBulk d + 1
 end
def uptoSmall : (H : Type) → List (DataW H) → Bool := fun _ ds => decide (uptoBulkAll ds ≤ 1048576)
def OpenSpec.upto (s : _root_.Go.ChangeSpec) : _root_.Go.OpenSpec := { _root_.Go.OpenSpec.ofChange s with cond := some uptoSmall }

/-- 'pointsmanlaw4.TableEntry', WHERE WHAT IT READS IS OF BULK AT MOST 1048576: true; the input reads as it did. -/
def tableEntryUptoRow : OpenClaim := { program := "ytnfceboppdcfdaadoor", sum := "df322bb48ec7faa3a3bdff82ba68a209ded8cbe658eee730084101b192478819", func := "pointsman/pointsmanlaw4.TableEntry", spec := "tableEntry", unfollowed := true, recurses := true, named := ["unicode/utf8.first", "unicode/utf8.acceptRanges"], apart := false, laid := [("unicode/utf8.acceptRanges", laid_unicode_utf8_acceptRanges), ("unicode/utf8.first", laid_unicode_utf8_first)], narrowed := true }
def TableEntryUptoSaid : Prop := tableEntryUptoRow.holds Tryd.pinned (OpenSpec.upto tableEntrySpec)

/-- 'pointsmanlaw6.FieldTrains', WHERE WHAT IT READS IS OF BULK AT MOST 1048576: true; the input reads as it did. -/
def fieldTrainsUptoRow : OpenClaim := { program := "ytnfceboppdcfdaadoor", sum := "df322bb48ec7faa3a3bdff82ba68a209ded8cbe658eee730084101b192478819", func := "pointsman/pointsmanlaw6.FieldTrains", spec := "fieldTrains", named := ["unicode/utf8.first", "unicode/utf8.acceptRanges"], apart := false, laid := [("unicode/utf8.acceptRanges", laid_unicode_utf8_acceptRanges), ("unicode/utf8.first", laid_unicode_utf8_first)], narrowed := true }
def FieldTrainsUptoSaid : Prop := fieldTrainsUptoRow.holds Tryd.pinned (OpenSpec.upto fieldTrainsSpec)

/-- 'pointsmanlaw6.FieldPlays', WHERE WHAT IT READS IS OF BULK AT MOST 1048576: true; the input reads as it did. -/
def fieldPlaysUptoRow : OpenClaim := { program := "ytnfceboppdcfdaadoor", sum := "df322bb48ec7faa3a3bdff82ba68a209ded8cbe658eee730084101b192478819", func := "pointsman/pointsmanlaw6.FieldPlays", spec := "fieldPlays", named := ["unicode/utf8.first", "unicode/utf8.acceptRanges"], apart := false, laid := [("unicode/utf8.acceptRanges", laid_unicode_utf8_acceptRanges), ("unicode/utf8.first", laid_unicode_utf8_first)], narrowed := true }
def FieldPlaysUptoSaid : Prop := fieldPlaysUptoRow.holds Tryd.pinned (OpenSpec.upto fieldPlaysSpec)

/-- 'pointsmanlaw5.LockTells', WHERE WHAT IT READS IS OF BULK AT MOST 1048576: true; the input reads as it did. -/
def lockTellsUptoRow : OpenClaim := { program := "ytnfceboppdcfdaadoor", sum := "df322bb48ec7faa3a3bdff82ba68a209ded8cbe658eee730084101b192478819", func := "pointsman/pointsmanlaw5.LockTells", spec := "lockTells", unfollowed := true, recurses := true, named := ["unicode/utf8.first", "unicode/utf8.acceptRanges"], apart := false, laid := [("unicode/utf8.acceptRanges", laid_unicode_utf8_acceptRanges), ("unicode/utf8.first", laid_unicode_utf8_first)], narrowed := true }
def LockTellsUptoSaid : Prop := lockTellsUptoRow.holds Tryd.pinned (OpenSpec.upto lockTellsSpec)

/-- 'pointsmanlaw5.LockErrs', WHERE WHAT IT READS IS OF BULK AT MOST 1048576: true; the input reads as it did. -/
def lockErrsUptoRow : OpenClaim := { program := "ytnfceboppdcfdaadoor", sum := "df322bb48ec7faa3a3bdff82ba68a209ded8cbe658eee730084101b192478819", func := "pointsman/pointsmanlaw5.LockErrs", spec := "lockErrs", unfollowed := true, recurses := true, named := ["unicode/utf8.first", "unicode/utf8.acceptRanges"], apart := false, laid := [("unicode/utf8.acceptRanges", laid_unicode_utf8_acceptRanges), ("unicode/utf8.first", laid_unicode_utf8_first)], narrowed := true }
def LockErrsUptoSaid : Prop := lockErrsUptoRow.holds Tryd.pinned (OpenSpec.upto lockErrsSpec)

/-- 'pointsmanlaw5.LockBusy', WHERE WHAT IT READS IS OF BULK AT MOST 1048576: true; the input reads as it did. -/
def lockBusyUptoRow : OpenClaim := { program := "ytnfceboppdcfdaadoor", sum := "df322bb48ec7faa3a3bdff82ba68a209ded8cbe658eee730084101b192478819", func := "pointsman/pointsmanlaw5.LockBusy", spec := "lockBusy", unfollowed := true, recurses := true, named := ["unicode/utf8.first", "unicode/utf8.acceptRanges"], apart := false, laid := [("unicode/utf8.acceptRanges", laid_unicode_utf8_acceptRanges), ("unicode/utf8.first", laid_unicode_utf8_first)], narrowed := true }
def LockBusyUptoSaid : Prop := lockBusyUptoRow.holds Tryd.pinned (OpenSpec.upto lockBusySpec)

/-- 'pointsmanlaw5.LockDanger', WHERE WHAT IT READS IS OF BULK AT MOST 1048576: true; the input reads as it did. -/
def lockDangerUptoRow : OpenClaim := { program := "ytnfceboppdcfdaadoor", sum := "df322bb48ec7faa3a3bdff82ba68a209ded8cbe658eee730084101b192478819", func := "pointsman/pointsmanlaw5.LockDanger", spec := "lockDanger", unfollowed := true, recurses := true, named := ["unicode/utf8.first", "unicode/utf8.acceptRanges"], apart := false, laid := [("unicode/utf8.acceptRanges", laid_unicode_utf8_acceptRanges), ("unicode/utf8.first", laid_unicode_utf8_first)], narrowed := true }
def LockDangerUptoSaid : Prop := lockDangerUptoRow.holds Tryd.pinned (OpenSpec.upto lockDangerSpec)

/-- 'pointsmanlaw5.LockIn', WHERE WHAT IT READS IS OF BULK AT MOST 1048576: true; the input reads as it did. -/
def lockInUptoRow : OpenClaim := { program := "ytnfceboppdcfdaadoor", sum := "df322bb48ec7faa3a3bdff82ba68a209ded8cbe658eee730084101b192478819", func := "pointsman/pointsmanlaw5.LockIn", spec := "lockIn", unfollowed := true, recurses := true, named := ["unicode/utf8.first", "unicode/utf8.acceptRanges"], apart := false, laid := [("unicode/utf8.acceptRanges", laid_unicode_utf8_acceptRanges), ("unicode/utf8.first", laid_unicode_utf8_first)], narrowed := true }
def LockInUptoSaid : Prop := lockInUptoRow.holds Tryd.pinned (OpenSpec.upto lockInSpec)

/-- 'pointsmanlaw5.LockApart', WHERE WHAT IT READS IS OF BULK AT MOST 1048576: true; the input reads as it did. -/
def lockApartUptoRow : OpenClaim := { program := "ytnfceboppdcfdaadoor", sum := "df322bb48ec7faa3a3bdff82ba68a209ded8cbe658eee730084101b192478819", func := "pointsman/pointsmanlaw5.LockApart", spec := "lockApart", unfollowed := true, recurses := true, named := ["unicode/utf8.first", "unicode/utf8.acceptRanges"], apart := false, laid := [("unicode/utf8.acceptRanges", laid_unicode_utf8_acceptRanges), ("unicode/utf8.first", laid_unicode_utf8_first)], narrowed := true }
def LockApartUptoSaid : Prop := lockApartUptoRow.holds Tryd.pinned (OpenSpec.upto lockApartSpec)

/-- 'pointsmanlaw5.LockSetsBack', WHERE WHAT IT READS IS OF BULK AT MOST 1048576: true; the input reads as it did. -/
def lockSetsBackUptoRow : OpenClaim := { program := "ytnfceboppdcfdaadoor", sum := "df322bb48ec7faa3a3bdff82ba68a209ded8cbe658eee730084101b192478819", func := "pointsman/pointsmanlaw5.LockSetsBack", spec := "lockSetsBack", unfollowed := true, recurses := true, named := ["unicode/utf8.first", "unicode/utf8.acceptRanges"], apart := false, laid := [("unicode/utf8.acceptRanges", laid_unicode_utf8_acceptRanges), ("unicode/utf8.first", laid_unicode_utf8_first)], narrowed := true }
def LockSetsBackUptoSaid : Prop := lockSetsBackUptoRow.holds Tryd.pinned (OpenSpec.upto lockSetsBackSpec)

/-- 'pointsmanlaw12.UnitHears', WHERE WHAT IT READS IS OF BULK AT MOST 1048576: true; the input reads as it did. -/
def unitHearsUptoRow : OpenClaim := { program := "ytnfceboppdcfdaadoor", sum := "df322bb48ec7faa3a3bdff82ba68a209ded8cbe658eee730084101b192478819", func := "pointsman/pointsmanlaw12.UnitHears", spec := "unitHears", unfollowed := true, recurses := true, named := ["unicode/utf8.first", "unicode/utf8.acceptRanges"], apart := false, laid := [("unicode/utf8.acceptRanges", laid_unicode_utf8_acceptRanges), ("unicode/utf8.first", laid_unicode_utf8_first)], narrowed := true }
def UnitHearsUptoSaid : Prop := unitHearsUptoRow.holds Tryd.pinned (OpenSpec.upto unitHearsSpec)

end Rows
end Go.Proofs.YtnfceboppdcfdaaDoor
