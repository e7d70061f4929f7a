/-
  NARROWER THAN 'FOR EVERY INPUT', by the rows' own cells (each row's printed sentence says how): UpdateChecks: laid · UpdateRequests: laid · WindowOnce: laid · WindowPlays: laid · WindowNil: laid.
  DERIVED. THE GIVEN ROWS OF THIS SEAT. 5 by the template 'for every input the law returns true; each argument reads behind the call as it read before'; 0 by the template 'total and deterministic' (their statements: YtfpllbnljlbepaaGreatDoorTotals.lean).
  GIVEN WITH THE SEED: the statements are not yours to turn. If you find one false, say at which input.
  Laid BY PROGRAM, IN A SANDBOX (cutbox-rows.mjs): the forced cells as the released guide's own fill.sh prints them over the translation 0cd366a0953289a2… (all of the seat's roots in one cut). By AI agents, Wed Nov 11 2026. No macro, syntax, notation, axiom, sorry.
-/
import Derived.Test.YtfpllbnljlbepaaGreatDoorChecked
import GoSem.Claim
import GoSem.ClaimJoined
import GoSem.ClaimMapViews
import Derived.JoinedTies
import Derived.KernelRfl
namespace Go.Proofs.YtfpllbnljlbepaaGreatDoor
/- THE CELL 'sum', in the pinned program and in every row, IS THE sha256 OF THE DUMP (.gsa) THAT YtfpllbnljlbepaaGreatDoorProg.lean LOADS. Nothing in Lean hashes anything: it is a label: what it is worth is what the hold of that sum in a sandbox is worth. -/
noncomputable def Tryz.pinned : Pinned := { name := "ytfpllbnljlbepaagreatdoor", sum := "0cd366a0953289a2310f55661451386e01eb50fa28938bee24d16051bb7f01a3", checked := Tryz.checked }
namespace Rows
def none {H : Type} : Left H := { results := [], args := [] }

/- WHAT THE LISTED PACKAGE-LEVEL VARIABLES READ AS WHEN THE CALL BEGINS. Each datum BY PROGRAM (the guide's laid-datum.mjs) off the statement by which the dump's own 'gosem.cut.vars' lays the variable. In a bare row this is a premise. The card (YtfpllbnljlbepaaGreatDoorCards.lean) ties it to the program's text. -/
def laid_catenary_letter_kinds {H : Type} : DataW H := .agg [.agg [.lit (.string []), .agg [.lit (.int .i64 0), .lit (.int .i64 0), .lit (.int .i64 0), .lit (.int .i64 0), .lit (.int .i64 0), .lit (.int .i64 0)]], .agg [.lit (.string [112, 114, 101, 112, 97, 114, 101]), .agg [.lit (.int .i64 4), .lit (.int .i64 32), .lit (.int .i64 0), .lit (.int .i64 0), .lit (.int .i64 0), .lit (.int .i64 0)]], .agg [.lit (.string [112, 114, 111, 109, 105, 115, 101]), .agg [.lit (.int .i64 4), .lit (.int .i64 32), .lit (.int .i64 4096), .lit (.int .i64 0), .lit (.int .i64 0), .lit (.int .i64 0)]], .agg [.lit (.string [97, 99, 99, 101, 112, 116]), .agg [.lit (.int .i64 4), .lit (.int .i64 32), .lit (.int .i64 1024), .lit (.int .i64 0), .lit (.int .i64 0), .lit (.int .i64 0)]], .agg [.lit (.string [97, 99, 99, 101, 112, 116, 101, 100]), .agg [.lit (.int .i64 4), .lit (.int .i64 32), .lit (.int .i64 0), .lit (.int .i64 0), .lit (.int .i64 0), .lit (.int .i64 0)]], .agg [.lit (.string [99, 104, 111, 115, 101, 110]), .agg [.lit (.int .i64 32), .lit (.int .i64 1024), .lit (.int .i64 0), .lit (.int .i64 0), .lit (.int .i64 0), .lit (.int .i64 0)]], .agg [.lit (.string [98, 101, 97, 116]), .agg [.lit (.int .i64 4), .lit (.int .i64 32), .lit (.int .i64 0), .lit (.int .i64 0), .lit (.int .i64 0), .lit (.int .i64 0)]], .agg [.lit (.string [119, 97, 110, 116]), .agg [.lit (.int .i64 32), .lit (.int .i64 0), .lit (.int .i64 0), .lit (.int .i64 0), .lit (.int .i64 0), .lit (.int .i64 0)]], .agg [.lit (.string [114, 101, 102, 117, 115, 101]), .agg [.lit (.int .i64 4), .lit (.int .i64 0), .lit (.int .i64 0), .lit (.int .i64 0), .lit (.int .i64 0), .lit (.int .i64 0)]], .agg [.lit (.string [114, 101, 112, 111, 114, 116]), .agg [.lit (.int .i64 1024), .lit (.int .i64 0), .lit (.int .i64 0), .lit (.int .i64 0), .lit (.int .i64 0), .lit (.int .i64 0)]], .agg [.lit (.string [108, 111, 99, 97, 116, 101]), .agg [.lit (.int .i64 1), .lit (.int .i64 0), .lit (.int .i64 0), .lit (.int .i64 0), .lit (.int .i64 0), .lit (.int .i64 0)]], .agg [.lit (.string [99, 111, 110, 102, 105, 103]), .agg [.lit (.int .i64 2048), .lit (.int .i64 0), .lit (.int .i64 0), .lit (.int .i64 0), .lit (.int .i64 0), .lit (.int .i64 0)]], .agg [.lit (.string [112, 117, 115, 104]), .agg [.lit (.int .i64 1), .lit (.int .i64 2), .lit (.int .i64 8), .lit (.int .i64 16), .lit (.int .i64 8192), .lit (.int .i64 0)]], .agg [.lit (.string [97, 99, 107]), .agg [.lit (.int .i64 1), .lit (.int .i64 2), .lit (.int .i64 8), .lit (.int .i64 16), .lit (.int .i64 64), .lit (.int .i64 32)]], .agg [.lit (.string [112, 97, 114, 116]), .agg [.lit (.int .i64 1), .lit (.int .i64 2), .lit (.int .i64 8), .lit (.int .i64 32), .lit (.int .i64 64), .lit (.int .i64 16384)]], .agg [.lit (.string [113, 117, 101, 114, 121]), .agg [.lit (.int .i64 1), .lit (.int .i64 2), .lit (.int .i64 64), .lit (.int .i64 256), .lit (.int .i64 0), .lit (.int .i64 0)]], .agg [.lit (.string [116, 111, 108, 100]), .agg [.lit (.int .i64 1), .lit (.int .i64 2), .lit (.int .i64 64), .lit (.int .i64 256), .lit (.int .i64 512), .lit (.int .i64 0)]], .agg [.lit (.string [119, 114, 105, 116, 101]), .agg [.lit (.int .i64 1), .lit (.int .i64 2), .lit (.int .i64 8192), .lit (.int .i64 0), .lit (.int .i64 0), .lit (.int .i64 0)]], .agg [.lit (.string [119, 114, 111, 116, 101]), .agg [.lit (.int .i64 64), .lit (.int .i64 128), .lit (.int .i64 512), .lit (.int .i64 0), .lit (.int .i64 0), .lit (.int .i64 0)]], .agg [.lit (.string [114, 101, 97, 100]), .agg [.lit (.int .i64 1), .lit (.int .i64 2), .lit (.int .i64 64), .lit (.int .i64 256), .lit (.int .i64 0), .lit (.int .i64 0)]], .agg [.lit (.string [103, 111, 116]), .agg [.lit (.int .i64 64), .lit (.int .i64 256), .lit (.int .i64 512), .lit (.int .i64 16384), .lit (.int .i64 0), .lit (.int .i64 0)]]]

/-- 'catenarylaw17.UpdateChecks': WHATEVER THE INPUT: true; the input reads as it did. -/
def updateChecksSpec : ChangeSpec := { name := "updateChecks", fn := fun _ => fun
  | [d1, d2, d3] => { results := [.lit (.bool true)], args := [d1, d2, d3] }
  | _ => none }
def updateChecksRow : OpenClaim := { program := "ytfpllbnljlbepaagreatdoor", sum := "0cd366a0953289a2310f55661451386e01eb50fa28938bee24d16051bb7f01a3", func := "catenary/catenarylaw17.UpdateChecks", spec := "updateChecks", unfollowed := true, recurses := true, named := ["catenary/letter.kinds"], apart := false, laid := [("catenary/letter.kinds", laid_catenary_letter_kinds)] }
def UpdateChecksSaid : Prop := updateChecksRow.holds Tryz.pinned (OpenSpec.ofChange updateChecksSpec)

/-- ITS FALSE NEIGHBOUR: 'it returns false'. Refute it at one input. -/
def updateChecksWrong : ChangeSpec := { name := "updateChecks", fn := fun _ => fun
  | [d1, d2, d3] => { results := [.lit (.bool false)], args := [d1, d2, d3] }
  | _ => none }
def UpdateChecksWrongFalsely : Prop := updateChecksRow.holds Tryz.pinned (OpenSpec.ofChange updateChecksWrong)

/-- 'catenarylaw17.UpdateRequests': WHATEVER THE INPUT: true; the input reads as it did. -/
def updateRequestsSpec : ChangeSpec := { name := "updateRequests", fn := fun _ => fun
  | [d1, d2, d3] => { results := [.lit (.bool true)], args := [d1, d2, d3] }
  | _ => none }
def updateRequestsRow : OpenClaim := { program := "ytfpllbnljlbepaagreatdoor", sum := "0cd366a0953289a2310f55661451386e01eb50fa28938bee24d16051bb7f01a3", func := "catenary/catenarylaw17.UpdateRequests", spec := "updateRequests", unfollowed := true, recurses := true, named := ["catenary/letter.kinds"], apart := false, laid := [("catenary/letter.kinds", laid_catenary_letter_kinds)] }
def UpdateRequestsSaid : Prop := updateRequestsRow.holds Tryz.pinned (OpenSpec.ofChange updateRequestsSpec)

/-- ITS FALSE NEIGHBOUR: 'it returns false'. Refute it at one input. -/
def updateRequestsWrong : ChangeSpec := { name := "updateRequests", fn := fun _ => fun
  | [d1, d2, d3] => { results := [.lit (.bool false)], args := [d1, d2, d3] }
  | _ => none }
def UpdateRequestsWrongFalsely : Prop := updateRequestsRow.holds Tryz.pinned (OpenSpec.ofChange updateRequestsWrong)

/-- 'catenarylaw20.WindowOnce': WHATEVER THE INPUT: true; the input reads as it did. -/
def windowOnceSpec : ChangeSpec := { name := "windowOnce", fn := fun _ => fun
  | [d] => { results := [.lit (.bool true)], args := [d] }
  | _ => none }
def windowOnceRow : OpenClaim := { program := "ytfpllbnljlbepaagreatdoor", sum := "0cd366a0953289a2310f55661451386e01eb50fa28938bee24d16051bb7f01a3", func := "catenary/catenarylaw20.WindowOnce", spec := "windowOnce", unfollowed := true, recurses := true, named := ["catenary/letter.kinds"], apart := false, laid := [("catenary/letter.kinds", laid_catenary_letter_kinds)] }
def WindowOnceSaid : Prop := windowOnceRow.holds Tryz.pinned (OpenSpec.ofChange windowOnceSpec)

/-- ITS FALSE NEIGHBOUR: 'it returns false'. Refute it at one input. -/
def windowOnceWrong : ChangeSpec := { name := "windowOnce", fn := fun _ => fun
  | [d] => { results := [.lit (.bool false)], args := [d] }
  | _ => none }
def WindowOnceWrongFalsely : Prop := windowOnceRow.holds Tryz.pinned (OpenSpec.ofChange windowOnceWrong)

/-- 'catenarylaw20.WindowPlays': WHATEVER THE INPUT: true; the input reads as it did. -/
def windowPlaysSpec : ChangeSpec := { name := "windowPlays", fn := fun _ => fun
  | [d1, d2] => { results := [.lit (.bool true)], args := [d1, d2] }
  | _ => none }
def windowPlaysRow : OpenClaim := { program := "ytfpllbnljlbepaagreatdoor", sum := "0cd366a0953289a2310f55661451386e01eb50fa28938bee24d16051bb7f01a3", func := "catenary/catenarylaw20.WindowPlays", spec := "windowPlays", unfollowed := true, recurses := true, named := ["catenary/letter.kinds"], apart := false, laid := [("catenary/letter.kinds", laid_catenary_letter_kinds)] }
def WindowPlaysSaid : Prop := windowPlaysRow.holds Tryz.pinned (OpenSpec.ofChange windowPlaysSpec)

/-- ITS FALSE NEIGHBOUR: 'it returns false'. Refute it at one input. -/
def windowPlaysWrong : ChangeSpec := { name := "windowPlays", fn := fun _ => fun
  | [d1, d2] => { results := [.lit (.bool false)], args := [d1, d2] }
  | _ => none }
def WindowPlaysWrongFalsely : Prop := windowPlaysRow.holds Tryz.pinned (OpenSpec.ofChange windowPlaysWrong)

/-- 'catenarylaw20.WindowNil': WHATEVER THE INPUT: true; the input reads as it did. -/
def windowNilSpec : ChangeSpec := { name := "windowNil", fn := fun _ => fun
  | [d1, d2, d3] => { results := [.lit (.bool true)], args := [d1, d2, d3] }
  | _ => none }
def windowNilRow : OpenClaim := { program := "ytfpllbnljlbepaagreatdoor", sum := "0cd366a0953289a2310f55661451386e01eb50fa28938bee24d16051bb7f01a3", func := "catenary/catenarylaw20.WindowNil", spec := "windowNil", unfollowed := true, recurses := true, named := ["catenary/letter.kinds"], apart := false, laid := [("catenary/letter.kinds", laid_catenary_letter_kinds)] }
def WindowNilSaid : Prop := windowNilRow.holds Tryz.pinned (OpenSpec.ofChange windowNilSpec)

/-- ITS FALSE NEIGHBOUR: 'it returns false'. Refute it at one input. -/
def windowNilWrong : ChangeSpec := { name := "windowNil", fn := fun _ => fun
  | [d1, d2, d3] => { results := [.lit (.bool false)], args := [d1, d2, d3] }
  | _ => none }
def WindowNilWrongFalsely : Prop := windowNilRow.holds Tryz.pinned (OpenSpec.ofChange windowNilWrong)

/- THE SECOND FORM. 'bulk': how many values and letters a reading holds, each counted each time it is reached (what is shared counts as often as it is met; a slice's spare places count too). A statement '..UptoSaid' is the law's where the arguments, and the package variables that the reading takes, are together of bulk at most 1048576: NARROWER than '..Said'. Prove '..Said' where nothing that the law and all that it calls make is longer than what came in: it says more and counts as full. Else prove '..UptoSaid'. A law counts once. -/
mutual
def uptoBulk {H : Type} : DataW H → Nat
  | .lit (.string bytes) => bytes.length + 1
  | .lit _ => 1
  | .nil => 1
  | .ptr d => uptoBulk d + 1
  | .slice elems spare => uptoBulkAll elems + uptoBulkAll spare + 1
  | .agg parts => uptoBulkAll parts + 1
  | .iface _ d => uptoBulk d + 1
  | .map entries => uptoBulkEntries entries + 1
  | .held _ => 1
def uptoBulkAll {H : Type} : List (DataW H) → Nat
  | [] => 0
  | d :: r => uptoBulk d + uptoBulkAll r
def uptoBulkEntries {H : Type} : List (Lit × DataW H) → Nat
  | [] => 0
  | x :: r => uptoBulkEntry x + uptoBulkEntries r
def uptoBulkEntry {H : Type} : Lit × DataW H → Nat
  | (.string bytes, d) => bytes.length + uptoBulk d + 1
  | (_, d) => uptoBulk d + 1
 end
def uptoSmall : (H : Type) → List (DataW H) → Bool := fun _ ds => decide (uptoBulkAll ds ≤ 1048576)
def OpenSpec.upto (s : _root_.Go.ChangeSpec) : _root_.Go.OpenSpec := { _root_.Go.OpenSpec.ofChange s with cond := some uptoSmall }

/-- 'catenarylaw17.UpdateChecks', WHERE WHAT IT READS IS OF BULK AT MOST 1048576: true; the input reads as it did. -/
def updateChecksUptoRow : OpenClaim := { program := "ytfpllbnljlbepaagreatdoor", sum := "0cd366a0953289a2310f55661451386e01eb50fa28938bee24d16051bb7f01a3", func := "catenary/catenarylaw17.UpdateChecks", spec := "updateChecks", unfollowed := true, recurses := true, named := ["catenary/letter.kinds"], apart := false, laid := [("catenary/letter.kinds", laid_catenary_letter_kinds)], narrowed := true }
def UpdateChecksUptoSaid : Prop := updateChecksUptoRow.holds Tryz.pinned (OpenSpec.upto updateChecksSpec)

/-- 'catenarylaw17.UpdateRequests', WHERE WHAT IT READS IS OF BULK AT MOST 1048576: true; the input reads as it did. -/
def updateRequestsUptoRow : OpenClaim := { program := "ytfpllbnljlbepaagreatdoor", sum := "0cd366a0953289a2310f55661451386e01eb50fa28938bee24d16051bb7f01a3", func := "catenary/catenarylaw17.UpdateRequests", spec := "updateRequests", unfollowed := true, recurses := true, named := ["catenary/letter.kinds"], apart := false, laid := [("catenary/letter.kinds", laid_catenary_letter_kinds)], narrowed := true }
def UpdateRequestsUptoSaid : Prop := updateRequestsUptoRow.holds Tryz.pinned (OpenSpec.upto updateRequestsSpec)

/-- 'catenarylaw20.WindowOnce', WHERE WHAT IT READS IS OF BULK AT MOST 1048576: true; the input reads as it did. -/
def windowOnceUptoRow : OpenClaim := { program := "ytfpllbnljlbepaagreatdoor", sum := "0cd366a0953289a2310f55661451386e01eb50fa28938bee24d16051bb7f01a3", func := "catenary/catenarylaw20.WindowOnce", spec := "windowOnce", unfollowed := true, recurses := true, named := ["catenary/letter.kinds"], apart := false, laid := [("catenary/letter.kinds", laid_catenary_letter_kinds)], narrowed := true }
def WindowOnceUptoSaid : Prop := windowOnceUptoRow.holds Tryz.pinned (OpenSpec.upto windowOnceSpec)

/-- 'catenarylaw20.WindowPlays', WHERE WHAT IT READS IS OF BULK AT MOST 1048576: true; the input reads as it did. -/
def windowPlaysUptoRow : OpenClaim := { program := "ytfpllbnljlbepaagreatdoor", sum := "0cd366a0953289a2310f55661451386e01eb50fa28938bee24d16051bb7f01a3", func := "catenary/catenarylaw20.WindowPlays", spec := "windowPlays", unfollowed := true, recurses := true, named := ["catenary/letter.kinds"], apart := false, laid := [("catenary/letter.kinds", laid_catenary_letter_kinds)], narrowed := true }
def WindowPlaysUptoSaid : Prop := windowPlaysUptoRow.holds Tryz.pinned (OpenSpec.upto windowPlaysSpec)

/-- 'catenarylaw20.WindowNil', WHERE WHAT IT READS IS OF BULK AT MOST 1048576: true; the input reads as it did. -/
def windowNilUptoRow : OpenClaim := { program := "ytfpllbnljlbepaagreatdoor", sum := "0cd366a0953289a2310f55661451386e01eb50fa28938bee24d16051bb7f01a3", func := "catenary/catenarylaw20.WindowNil", spec := "windowNil", unfollowed := true, recurses := true, named := ["catenary/letter.kinds"], apart := false, laid := [("catenary/letter.kinds", laid_catenary_letter_kinds)], narrowed := true }
def WindowNilUptoSaid : Prop := windowNilUptoRow.holds Tryz.pinned (OpenSpec.upto windowNilSpec)

end Rows
end Go.Proofs.YtfpllbnljlbepaaGreatDoor
