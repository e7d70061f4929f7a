/-
  No cell of these rows narrows 'for every input' (looked for: loops, veiled, ifaces, maps, wideKeys, modest, calm, conditions, laid).
  DERIVED. THE GIVEN ROWS OF THIS SEAT. 10 by the template 'for every input the law returns true; each argument reads behind the call as it read before'; 0 by the template 'total and deterministic' (their statements: YtfpppgbibgbllaaTotals.lean).
  GIVEN WITH THE SEED: the statements are not yours to turn. If you find one false, say at which input.
  Laid BY PROGRAM, IN A SANDBOX (cutbox-rows.mjs): the forced cells as the released guide's own fill.sh prints them over the translation e085475ee456ce1c… (all of the seat's roots in one cut). By AI agents, Wed Nov 11 2026. No macro, syntax, notation, axiom, sorry.
-/
import Derived.Test.YtfpppgbibgbllaaChecked
import GoSem.Claim
import GoSem.ClaimJoined
import GoSem.ClaimMapViews
import Derived.JoinedTies
import Derived.KernelRfl
namespace Go.Proofs.Ytfpppgbibgbllaa
/- THE CELL 'sum', in the pinned program and in every row, IS THE sha256 OF THE DUMP (.gsa) THAT YtfpppgbibgbllaaProg.lean LOADS. Nothing in Lean hashes anything: it is a label: what it is worth is what the hold of that sum in a sandbox is worth. -/
noncomputable def Try.pinned : Pinned := { name := "ytfpppgbibgbllaa", sum := "e085475ee456ce1cf74031c83ba521bfb7f120c1384662603463f373c189389a", checked := Try.checked }
namespace Rows
def none {H : Type} : Left H := { results := [], args := [] }

/-- 'catenarylaw17.UpdateFits': WHATEVER THE INPUT: true; the input reads as it did. -/
def updateFitsSpec : ChangeSpec := { name := "updateFits", fn := fun _ => fun
  | [d1, d2, d3] => { results := [.lit (.bool true)], args := [d1, d2, d3] }
  | _ => none }
def updateFitsRow : OpenClaim := { program := "ytfpppgbibgbllaa", sum := "e085475ee456ce1cf74031c83ba521bfb7f120c1384662603463f373c189389a", func := "catenary/catenarylaw17.UpdateFits", spec := "updateFits", unfollowed := true, recurses := true, apart := false }
def UpdateFitsSaid : Prop := updateFitsRow.holds Try.pinned (OpenSpec.ofChange updateFitsSpec)

/-- ITS FALSE NEIGHBOUR: 'it returns false'. Refute it at one input. -/
def updateFitsWrong : ChangeSpec := { name := "updateFits", fn := fun _ => fun
  | [d1, d2, d3] => { results := [.lit (.bool false)], args := [d1, d2, d3] }
  | _ => none }
def UpdateFitsWrongFalsely : Prop := updateFitsRow.holds Try.pinned (OpenSpec.ofChange updateFitsWrong)

/-- 'catenarylaw17.UpdateLists': WHATEVER THE INPUT: true; the input reads as it did. -/
def updateListsSpec : ChangeSpec := { name := "updateLists", fn := fun _ => fun
  | [d1, d2, d3] => { results := [.lit (.bool true)], args := [d1, d2, d3] }
  | _ => none }
def updateListsRow : OpenClaim := { program := "ytfpppgbibgbllaa", sum := "e085475ee456ce1cf74031c83ba521bfb7f120c1384662603463f373c189389a", func := "catenary/catenarylaw17.UpdateLists", spec := "updateLists", unfollowed := true, recurses := true, apart := false }
def UpdateListsSaid : Prop := updateListsRow.holds Try.pinned (OpenSpec.ofChange updateListsSpec)

/-- ITS FALSE NEIGHBOUR: 'it returns false'. Refute it at one input. -/
def updateListsWrong : ChangeSpec := { name := "updateLists", fn := fun _ => fun
  | [d1, d2, d3] => { results := [.lit (.bool false)], args := [d1, d2, d3] }
  | _ => none }
def UpdateListsWrongFalsely : Prop := updateListsRow.holds Try.pinned (OpenSpec.ofChange updateListsWrong)

/-- 'catenarylaw06.BagGoes': WHATEVER THE INPUT: true; the input reads as it did. -/
def bagGoesSpec : ChangeSpec := { name := "bagGoes", fn := fun _ => fun
  | [d1, d2] => { results := [.lit (.bool true)], args := [d1, d2] }
  | _ => none }
def bagGoesRow : OpenClaim := { program := "ytfpppgbibgbllaa", sum := "e085475ee456ce1cf74031c83ba521bfb7f120c1384662603463f373c189389a", func := "catenary/catenarylaw06.BagGoes", spec := "bagGoes", unfollowed := true, recurses := true, apart := false }
def BagGoesSaid : Prop := bagGoesRow.holds Try.pinned (OpenSpec.ofChange bagGoesSpec)

/-- ITS FALSE NEIGHBOUR: 'it returns false'. Refute it at one input. -/
def bagGoesWrong : ChangeSpec := { name := "bagGoes", fn := fun _ => fun
  | [d1, d2] => { results := [.lit (.bool false)], args := [d1, d2] }
  | _ => none }
def BagGoesWrongFalsely : Prop := bagGoesRow.holds Try.pinned (OpenSpec.ofChange bagGoesWrong)

/-- 'catenarylaw19.RoleChain': WHATEVER THE INPUT: true; the input reads as it did. -/
def roleChainSpec : ChangeSpec := { name := "roleChain", fn := fun _ => fun
  | [d] => { results := [.lit (.bool true)], args := [d] }
  | _ => none }
def roleChainRow : OpenClaim := { program := "ytfpppgbibgbllaa", sum := "e085475ee456ce1cf74031c83ba521bfb7f120c1384662603463f373c189389a", func := "catenary/catenarylaw19.RoleChain", spec := "roleChain", apart := false }
def RoleChainSaid : Prop := roleChainRow.holds Try.pinned (OpenSpec.ofChange roleChainSpec)

/-- ITS FALSE NEIGHBOUR: 'it returns false'. Refute it at one input. -/
def roleChainWrong : ChangeSpec := { name := "roleChain", fn := fun _ => fun
  | [d] => { results := [.lit (.bool false)], args := [d] }
  | _ => none }
def RoleChainWrongFalsely : Prop := roleChainRow.holds Try.pinned (OpenSpec.ofChange roleChainWrong)

/-- 'catenarylaw19.RoleIs': WHATEVER THE INPUT: true; the input reads as it did. -/
def roleIsSpec : ChangeSpec := { name := "roleIs", fn := fun _ => fun
  | [d1, d2, d3] => { results := [.lit (.bool true)], args := [d1, d2, d3] }
  | _ => none }
def roleIsRow : OpenClaim := { program := "ytfpppgbibgbllaa", sum := "e085475ee456ce1cf74031c83ba521bfb7f120c1384662603463f373c189389a", func := "catenary/catenarylaw19.RoleIs", spec := "roleIs", apart := false }
def RoleIsSaid : Prop := roleIsRow.holds Try.pinned (OpenSpec.ofChange roleIsSpec)

/-- ITS FALSE NEIGHBOUR: 'it returns false'. Refute it at one input. -/
def roleIsWrong : ChangeSpec := { name := "roleIs", fn := fun _ => fun
  | [d1, d2, d3] => { results := [.lit (.bool false)], args := [d1, d2, d3] }
  | _ => none }
def RoleIsWrongFalsely : Prop := roleIsRow.holds Try.pinned (OpenSpec.ofChange roleIsWrong)

/-- 'catenarylaw19.RoleReports': WHATEVER THE INPUT: true; the input reads as it did. -/
def roleReportsSpec : ChangeSpec := { name := "roleReports", fn := fun _ => fun
  | [d1, d2, d3] => { results := [.lit (.bool true)], args := [d1, d2, d3] }
  | _ => none }
def roleReportsRow : OpenClaim := { program := "ytfpppgbibgbllaa", sum := "e085475ee456ce1cf74031c83ba521bfb7f120c1384662603463f373c189389a", func := "catenary/catenarylaw19.RoleReports", spec := "roleReports", unfollowed := true, recurses := true, apart := false }
def RoleReportsSaid : Prop := roleReportsRow.holds Try.pinned (OpenSpec.ofChange roleReportsSpec)

/-- ITS FALSE NEIGHBOUR: 'it returns false'. Refute it at one input. -/
def roleReportsWrong : ChangeSpec := { name := "roleReports", fn := fun _ => fun
  | [d1, d2, d3] => { results := [.lit (.bool false)], args := [d1, d2, d3] }
  | _ => none }
def RoleReportsWrongFalsely : Prop := roleReportsRow.holds Try.pinned (OpenSpec.ofChange roleReportsWrong)

/-- 'catenarylaw25.AtlasChains': WHATEVER THE INPUT: true; the input reads as it did. -/
def atlasChainsSpec : ChangeSpec := { name := "atlasChains", fn := fun _ => fun
  | [d1, d2] => { results := [.lit (.bool true)], args := [d1, d2] }
  | _ => none }
def atlasChainsRow : OpenClaim := { program := "ytfpppgbibgbllaa", sum := "e085475ee456ce1cf74031c83ba521bfb7f120c1384662603463f373c189389a", func := "catenary/catenarylaw25.AtlasChains", spec := "atlasChains", apart := false }
def AtlasChainsSaid : Prop := atlasChainsRow.holds Try.pinned (OpenSpec.ofChange atlasChainsSpec)

/-- ITS FALSE NEIGHBOUR: 'it returns false'. Refute it at one input. -/
def atlasChainsWrong : ChangeSpec := { name := "atlasChains", fn := fun _ => fun
  | [d1, d2] => { results := [.lit (.bool false)], args := [d1, d2] }
  | _ => none }
def AtlasChainsWrongFalsely : Prop := atlasChainsRow.holds Try.pinned (OpenSpec.ofChange atlasChainsWrong)

/-- 'catenarylaw06.BagRises': WHATEVER THE INPUT: true; the input reads as it did. -/
def bagRisesSpec : ChangeSpec := { name := "bagRises", fn := fun _ => fun
  | [d] => { results := [.lit (.bool true)], args := [d] }
  | _ => none }
def bagRisesRow : OpenClaim := { program := "ytfpppgbibgbllaa", sum := "e085475ee456ce1cf74031c83ba521bfb7f120c1384662603463f373c189389a", func := "catenary/catenarylaw06.BagRises", spec := "bagRises", unfollowed := true, recurses := true, apart := false }
def BagRisesSaid : Prop := bagRisesRow.holds Try.pinned (OpenSpec.ofChange bagRisesSpec)

/-- ITS FALSE NEIGHBOUR: 'it returns false'. Refute it at one input. -/
def bagRisesWrong : ChangeSpec := { name := "bagRises", fn := fun _ => fun
  | [d] => { results := [.lit (.bool false)], args := [d] }
  | _ => none }
def BagRisesWrongFalsely : Prop := bagRisesRow.holds Try.pinned (OpenSpec.ofChange bagRisesWrong)

/-- 'catenarylaw25.AtlasLearns': WHATEVER THE INPUT: true; the input reads as it did. -/
def atlasLearnsSpec : ChangeSpec := { name := "atlasLearns", fn := fun _ => fun
  | [d1, d2, d3] => { results := [.lit (.bool true)], args := [d1, d2, d3] }
  | _ => none }
def atlasLearnsRow : OpenClaim := { program := "ytfpppgbibgbllaa", sum := "e085475ee456ce1cf74031c83ba521bfb7f120c1384662603463f373c189389a", func := "catenary/catenarylaw25.AtlasLearns", spec := "atlasLearns", apart := false }
def AtlasLearnsSaid : Prop := atlasLearnsRow.holds Try.pinned (OpenSpec.ofChange atlasLearnsSpec)

/-- ITS FALSE NEIGHBOUR: 'it returns false'. Refute it at one input. -/
def atlasLearnsWrong : ChangeSpec := { name := "atlasLearns", fn := fun _ => fun
  | [d1, d2, d3] => { results := [.lit (.bool false)], args := [d1, d2, d3] }
  | _ => none }
def AtlasLearnsWrongFalsely : Prop := atlasLearnsRow.holds Try.pinned (OpenSpec.ofChange atlasLearnsWrong)

/-- 'catenarylaw06.BagPlays': WHATEVER THE INPUT: true; the input reads as it did. -/
def bagPlaysSpec : ChangeSpec := { name := "bagPlays", fn := fun _ => fun
  | [d1, d2] => { results := [.lit (.bool true)], args := [d1, d2] }
  | _ => none }
def bagPlaysRow : OpenClaim := { program := "ytfpppgbibgbllaa", sum := "e085475ee456ce1cf74031c83ba521bfb7f120c1384662603463f373c189389a", func := "catenary/catenarylaw06.BagPlays", spec := "bagPlays", unfollowed := true, recurses := true, apart := false }
def BagPlaysSaid : Prop := bagPlaysRow.holds Try.pinned (OpenSpec.ofChange bagPlaysSpec)

/-- ITS FALSE NEIGHBOUR: 'it returns false'. Refute it at one input. -/
def bagPlaysWrong : ChangeSpec := { name := "bagPlays", fn := fun _ => fun
  | [d1, d2] => { results := [.lit (.bool false)], args := [d1, d2] }
  | _ => none }
def BagPlaysWrongFalsely : Prop := bagPlaysRow.holds Try.pinned (OpenSpec.ofChange bagPlaysWrong)

/- THE SECOND FORM. 'bulk': how many values and letters a reading holds, each counted each time it is reached (what is shared counts as often as it is met; a slice's spare places count too). A statement '..UptoSaid' is the law's where the arguments, and the package variables that the reading takes, are together of bulk at most 1048576: NARROWER than '..Said'. Prove '..Said' where nothing that the law and all that it calls make is longer than what came in: it says more and counts as full. Else prove '..UptoSaid'. A law counts once. -/
mutual
def uptoBulk {H : Type} : DataW H → Nat
  | .lit (.string bytes) => bytes.length + 1
  | .lit _ => 1
  | .nil => 1
  | .ptr d => uptoBulk d + 1
  | .slice elems spare => uptoBulkAll elems + uptoBulkAll spare + 1
  | .agg parts => uptoBulkAll parts + 1
  | .iface _ d => uptoBulk d + 1
  | .map entries => uptoBulkEntries entries + 1
  | .held _ => 1
def uptoBulkAll {H : Type} : List (DataW H) → Nat
  | [] => 0
  | d :: r => uptoBulk d + uptoBulkAll r
def uptoBulkEntries {H : Type} : List (Lit × DataW H) → Nat
  | [] => 0
  | x :: r => uptoBulkEntry x + uptoBulkEntries r
def uptoBulkEntry {H : Type} : Lit × DataW H → Nat
  | (.string bytes, d) => bytes.length + uptoBulk d + 1
  | (_, d) => uptoBulk d + 1
 end
def uptoSmall : (H : Type) → List (DataW H) → Bool := fun _ ds => decide (uptoBulkAll ds ≤ 1048576)
def OpenSpec.upto (s : _root_.Go.ChangeSpec) : _root_.Go.OpenSpec := { _root_.Go.OpenSpec.ofChange s with cond := some uptoSmall }

/-- 'catenarylaw17.UpdateFits', WHERE WHAT IT READS IS OF BULK AT MOST 1048576: true; the input reads as it did. -/
def updateFitsUptoRow : OpenClaim := { program := "ytfpppgbibgbllaa", sum := "e085475ee456ce1cf74031c83ba521bfb7f120c1384662603463f373c189389a", func := "catenary/catenarylaw17.UpdateFits", spec := "updateFits", unfollowed := true, recurses := true, apart := false, narrowed := true }
def UpdateFitsUptoSaid : Prop := updateFitsUptoRow.holds Try.pinned (OpenSpec.upto updateFitsSpec)

/-- 'catenarylaw17.UpdateLists', WHERE WHAT IT READS IS OF BULK AT MOST 1048576: true; the input reads as it did. -/
def updateListsUptoRow : OpenClaim := { program := "ytfpppgbibgbllaa", sum := "e085475ee456ce1cf74031c83ba521bfb7f120c1384662603463f373c189389a", func := "catenary/catenarylaw17.UpdateLists", spec := "updateLists", unfollowed := true, recurses := true, apart := false, narrowed := true }
def UpdateListsUptoSaid : Prop := updateListsUptoRow.holds Try.pinned (OpenSpec.upto updateListsSpec)

/-- 'catenarylaw06.BagGoes', WHERE WHAT IT READS IS OF BULK AT MOST 1048576: true; the input reads as it did. -/
def bagGoesUptoRow : OpenClaim := { program := "ytfpppgbibgbllaa", sum := "e085475ee456ce1cf74031c83ba521bfb7f120c1384662603463f373c189389a", func := "catenary/catenarylaw06.BagGoes", spec := "bagGoes", unfollowed := true, recurses := true, apart := false, narrowed := true }
def BagGoesUptoSaid : Prop := bagGoesUptoRow.holds Try.pinned (OpenSpec.upto bagGoesSpec)

/-- 'catenarylaw19.RoleChain', WHERE WHAT IT READS IS OF BULK AT MOST 1048576: true; the input reads as it did. -/
def roleChainUptoRow : OpenClaim := { program := "ytfpppgbibgbllaa", sum := "e085475ee456ce1cf74031c83ba521bfb7f120c1384662603463f373c189389a", func := "catenary/catenarylaw19.RoleChain", spec := "roleChain", apart := false, narrowed := true }
def RoleChainUptoSaid : Prop := roleChainUptoRow.holds Try.pinned (OpenSpec.upto roleChainSpec)

/-- 'catenarylaw19.RoleIs', WHERE WHAT IT READS IS OF BULK AT MOST 1048576: true; the input reads as it did. -/
def roleIsUptoRow : OpenClaim := { program := "ytfpppgbibgbllaa", sum := "e085475ee456ce1cf74031c83ba521bfb7f120c1384662603463f373c189389a", func := "catenary/catenarylaw19.RoleIs", spec := "roleIs", apart := false, narrowed := true }
def RoleIsUptoSaid : Prop := roleIsUptoRow.holds Try.pinned (OpenSpec.upto roleIsSpec)

/-- 'catenarylaw19.RoleReports', WHERE WHAT IT READS IS OF BULK AT MOST 1048576: true; the input reads as it did. -/
def roleReportsUptoRow : OpenClaim := { program := "ytfpppgbibgbllaa", sum := "e085475ee456ce1cf74031c83ba521bfb7f120c1384662603463f373c189389a", func := "catenary/catenarylaw19.RoleReports", spec := "roleReports", unfollowed := true, recurses := true, apart := false, narrowed := true }
def RoleReportsUptoSaid : Prop := roleReportsUptoRow.holds Try.pinned (OpenSpec.upto roleReportsSpec)

/-- 'catenarylaw25.AtlasChains', WHERE WHAT IT READS IS OF BULK AT MOST 1048576: true; the input reads as it did. -/
def atlasChainsUptoRow : OpenClaim := { program := "ytfpppgbibgbllaa", sum := "e085475ee456ce1cf74031c83ba521bfb7f120c1384662603463f373c189389a", func := "catenary/catenarylaw25.AtlasChains", spec := "atlasChains", apart := false, narrowed := true }
def AtlasChainsUptoSaid : Prop := atlasChainsUptoRow.holds Try.pinned (OpenSpec.upto atlasChainsSpec)

/-- 'catenarylaw06.BagRises', WHERE WHAT IT READS IS OF BULK AT MOST 1048576: true; the input reads as it did. -/
def bagRisesUptoRow : OpenClaim := { program := "ytfpppgbibgbllaa", sum := "e085475ee456ce1cf74031c83ba521bfb7f120c1384662603463f373c189389a", func := "catenary/catenarylaw06.BagRises", spec := "bagRises", unfollowed := true, recurses := true, apart := false, narrowed := true }
def BagRisesUptoSaid : Prop := bagRisesUptoRow.holds Try.pinned (OpenSpec.upto bagRisesSpec)

/-- 'catenarylaw25.AtlasLearns', WHERE WHAT IT READS IS OF BULK AT MOST 1048576: true; the input reads as it did. -/
def atlasLearnsUptoRow : OpenClaim := { program := "ytfpppgbibgbllaa", sum := "e085475ee456ce1cf74031c83ba521bfb7f120c1384662603463f373c189389a", func := "catenary/catenarylaw25.AtlasLearns", spec := "atlasLearns", apart := false, narrowed := true }
def AtlasLearnsUptoSaid : Prop := atlasLearnsUptoRow.holds Try.pinned (OpenSpec.upto atlasLearnsSpec)

/-- 'catenarylaw06.BagPlays', WHERE WHAT IT READS IS OF BULK AT MOST 1048576: true; the input reads as it did. -/
def bagPlaysUptoRow : OpenClaim := { program := "ytfpppgbibgbllaa", sum := "e085475ee456ce1cf74031c83ba521bfb7f120c1384662603463f373c189389a", func := "catenary/catenarylaw06.BagPlays", spec := "bagPlays", unfollowed := true, recurses := true, apart := false, narrowed := true }
def BagPlaysUptoSaid : Prop := bagPlaysUptoRow.holds Try.pinned (OpenSpec.upto bagPlaysSpec)

end Rows
end Go.Proofs.Ytfpppgbibgbllaa
