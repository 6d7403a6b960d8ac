/-
  NARROWER THAN 'FOR EVERY INPUT', by the rows' own cells (each row's printed sentence says how): FilterNames: laid · FilterAll: laid · FilterJoins: laid · FilterParts: laid.
  DERIVED. THE GIVEN ROWS OF THIS SEAT. 4 by the template 'for every input the law returns true; each argument reads behind the call as it read before'; 0 by the template 'total and deterministic' (their statements: YtmjnjjjhdcecbaaDoorTotals.lean).
  GIVEN WITH THE SEED: the statements are not yours to turn. If you find one false, say at which input.
  Laid BY PROGRAM, IN A SANDBOX (cutbox-rows.mjs): the forced cells as the released guide's own fill.sh prints them over the translation 692bfcee1d652d3e… (all of the seat's roots in one cut). By AI agents, Wed Nov 11 2026. No macro, syntax, notation, axiom, sorry.
-/
import Derived.Test.YtmjnjjjhdcecbaaDoorChecked
import GoSem.Claim
import GoSem.ClaimJoined
import GoSem.ClaimMapViews
import Derived.JoinedTies
import Derived.KernelRfl
namespace Go.Proofs.YtmjnjjjhdcecbaaDoor
/- THE CELL 'sum', in the pinned program and in every row, IS THE sha256 OF THE DUMP (.gsa) THAT YtmjnjjjhdcecbaaDoorProg.lean LOADS. Nothing in Lean hashes anything: it is a label: what it is worth is what the hold of that sum in a sandbox is worth. -/
noncomputable def Tryd.pinned : Pinned := { name := "ytmjnjjjhdcecbaadoor", sum := "692bfcee1d652d3e56b887da2f568a5dd89cb727838efbd91232badaaa0b9b6d", checked := Tryd.checked }
namespace Rows
def none {H : Type} : Left H := { results := [], args := [] }

/- WHAT THE LISTED PACKAGE-LEVEL VARIABLES READ AS WHEN THE CALL BEGINS. Each datum BY PROGRAM (the guide's laid-datum.mjs) off the statement by which the dump's own 'gosem.cut.vars' lays the variable. In a bare row this is a premise. The card (YtmjnjjjhdcecbaaDoorCards.lean) ties it to the program's text. -/
def laid_catchpit_octet_ends {H : Type} : DataW H := .agg [.agg [.lit (.int .u8 48), .lit (.int .u8 57)], .agg [.lit (.int .u8 65), .lit (.int .u8 90)], .agg [.lit (.int .u8 97), .lit (.int .u8 122)]]
def laid_catchpit_filter_names {H : Type} : DataW H := .agg [.lit (.string [65, 117, 116, 104, 111, 114, 105, 122, 97, 116, 105, 111, 110]), .lit (.string [67, 97, 99, 104, 101, 45, 67, 111, 110, 116, 114, 111, 108]), .lit (.string [67, 111, 110, 110, 101, 99, 116, 105, 111, 110]), .lit (.string [67, 111, 110, 116, 101, 110, 116, 45, 69, 110, 99, 111, 100, 105, 110, 103]), .lit (.string [67, 111, 110, 116, 101, 110, 116, 45, 76, 101, 110, 103, 116, 104]), .lit (.string [67, 111, 110, 116, 101, 110, 116, 45, 82, 97, 110, 103, 101]), .lit (.string [67, 111, 110, 116, 101, 110, 116, 45, 84, 121, 112, 101]), .lit (.string [67, 111, 111, 107, 105, 101]), .lit (.string [69, 120, 112, 101, 99, 116]), .lit (.string [72, 111, 115, 116]), .lit (.string [73, 102, 45, 77, 97, 116, 99, 104]), .lit (.string [73, 102, 45, 77, 111, 100, 105, 102, 105, 101, 100, 45, 83, 105, 110, 99, 101]), .lit (.string [73, 102, 45, 78, 111, 110, 101, 45, 77, 97, 116, 99, 104]), .lit (.string [73, 102, 45, 82, 97, 110, 103, 101]), .lit (.string [73, 102, 45, 85, 110, 109, 111, 100, 105, 102, 105, 101, 100, 45, 83, 105, 110, 99, 101]), .lit (.string [75, 101, 101, 112, 45, 65, 108, 105, 118, 101]), .lit (.string [77, 97, 120, 45, 70, 111, 114, 119, 97, 114, 100, 115]), .lit (.string [80, 114, 97, 103, 109, 97]), .lit (.string [80, 114, 111, 120, 121, 45, 65, 117, 116, 104, 101, 110, 116, 105, 99, 97, 116, 101]), .lit (.string [80, 114, 111, 120, 121, 45, 65, 117, 116, 104, 111, 114, 105, 122, 97, 116, 105, 111, 110]), .lit (.string [80, 114, 111, 120, 121, 45, 67, 111, 110, 110, 101, 99, 116, 105, 111, 110]), .lit (.string [82, 97, 110, 103, 101]), .lit (.string [83, 101, 116, 45, 67, 111, 111, 107, 105, 101]), .lit (.string [84, 69]), .lit (.string [84, 114, 97, 105, 108, 101, 114]), .lit (.string [84, 114, 97, 110, 115, 102, 101, 114, 45, 69, 110, 99, 111, 100, 105, 110, 103]), .lit (.string [85, 112, 103, 114, 97, 100, 101]), .lit (.string [87, 87, 87, 45, 65, 117, 116, 104, 101, 110, 116, 105, 99, 97, 116, 101])]

/-- 'catchpitlaw13.FilterNames': WHATEVER THE INPUT: true; the input reads as it did. -/
def filterNamesSpec : ChangeSpec := { name := "filterNames", fn := fun _ => fun
  | [d1, d2] => { results := [.lit (.bool true)], args := [d1, d2] }
  | _ => none }
def filterNamesRow : OpenClaim := { program := "ytmjnjjjhdcecbaadoor", sum := "692bfcee1d652d3e56b887da2f568a5dd89cb727838efbd91232badaaa0b9b6d", func := "catchpit/catchpitlaw13.FilterNames", spec := "filterNames", unfollowed := true, recurses := true, named := ["catchpit/filter.names", "catchpit/octet.ends"], apart := false, laid := [("catchpit/octet.ends", laid_catchpit_octet_ends), ("catchpit/filter.names", laid_catchpit_filter_names)] }
def FilterNamesSaid : Prop := filterNamesRow.holds Tryd.pinned (OpenSpec.ofChange filterNamesSpec)

/-- ITS FALSE NEIGHBOUR: 'it returns false'. Refute it at one input. -/
def filterNamesWrong : ChangeSpec := { name := "filterNames", fn := fun _ => fun
  | [d1, d2] => { results := [.lit (.bool false)], args := [d1, d2] }
  | _ => none }
def FilterNamesWrongFalsely : Prop := filterNamesRow.holds Tryd.pinned (OpenSpec.ofChange filterNamesWrong)

/-- 'catchpitlaw13.FilterAll': WHATEVER THE INPUT: true; the input reads as it did. -/
def filterAllSpec : ChangeSpec := { name := "filterAll", fn := fun _ => fun
  | [d] => { results := [.lit (.bool true)], args := [d] }
  | _ => none }
def filterAllRow : OpenClaim := { program := "ytmjnjjjhdcecbaadoor", sum := "692bfcee1d652d3e56b887da2f568a5dd89cb727838efbd91232badaaa0b9b6d", func := "catchpit/catchpitlaw13.FilterAll", spec := "filterAll", unfollowed := true, recurses := true, named := ["catchpit/filter.names", "catchpit/octet.ends"], apart := false, laid := [("catchpit/octet.ends", laid_catchpit_octet_ends), ("catchpit/filter.names", laid_catchpit_filter_names)] }
def FilterAllSaid : Prop := filterAllRow.holds Tryd.pinned (OpenSpec.ofChange filterAllSpec)

/-- ITS FALSE NEIGHBOUR: 'it returns false'. Refute it at one input. -/
def filterAllWrong : ChangeSpec := { name := "filterAll", fn := fun _ => fun
  | [d] => { results := [.lit (.bool false)], args := [d] }
  | _ => none }
def FilterAllWrongFalsely : Prop := filterAllRow.holds Tryd.pinned (OpenSpec.ofChange filterAllWrong)

/-- 'catchpitlaw13.FilterJoins': WHATEVER THE INPUT: true; the input reads as it did. -/
def filterJoinsSpec : ChangeSpec := { name := "filterJoins", fn := fun _ => fun
  | [d1, d2] => { results := [.lit (.bool true)], args := [d1, d2] }
  | _ => none }
def filterJoinsRow : OpenClaim := { program := "ytmjnjjjhdcecbaadoor", sum := "692bfcee1d652d3e56b887da2f568a5dd89cb727838efbd91232badaaa0b9b6d", func := "catchpit/catchpitlaw13.FilterJoins", spec := "filterJoins", unfollowed := true, recurses := true, named := ["catchpit/filter.names", "catchpit/octet.ends"], apart := false, laid := [("catchpit/octet.ends", laid_catchpit_octet_ends), ("catchpit/filter.names", laid_catchpit_filter_names)] }
def FilterJoinsSaid : Prop := filterJoinsRow.holds Tryd.pinned (OpenSpec.ofChange filterJoinsSpec)

/-- ITS FALSE NEIGHBOUR: 'it returns false'. Refute it at one input. -/
def filterJoinsWrong : ChangeSpec := { name := "filterJoins", fn := fun _ => fun
  | [d1, d2] => { results := [.lit (.bool false)], args := [d1, d2] }
  | _ => none }
def FilterJoinsWrongFalsely : Prop := filterJoinsRow.holds Tryd.pinned (OpenSpec.ofChange filterJoinsWrong)

/-- 'catchpitlaw13.FilterParts': WHATEVER THE INPUT: true; the input reads as it did. -/
def filterPartsSpec : ChangeSpec := { name := "filterParts", fn := fun _ => fun
  | [d] => { results := [.lit (.bool true)], args := [d] }
  | _ => none }
def filterPartsRow : OpenClaim := { program := "ytmjnjjjhdcecbaadoor", sum := "692bfcee1d652d3e56b887da2f568a5dd89cb727838efbd91232badaaa0b9b6d", func := "catchpit/catchpitlaw13.FilterParts", spec := "filterParts", unfollowed := true, recurses := true, named := ["catchpit/filter.names", "catchpit/octet.ends"], apart := false, laid := [("catchpit/octet.ends", laid_catchpit_octet_ends), ("catchpit/filter.names", laid_catchpit_filter_names)] }
def FilterPartsSaid : Prop := filterPartsRow.holds Tryd.pinned (OpenSpec.ofChange filterPartsSpec)

/-- ITS FALSE NEIGHBOUR: 'it returns false'. Refute it at one input. -/
def filterPartsWrong : ChangeSpec := { name := "filterParts", fn := fun _ => fun
  | [d] => { results := [.lit (.bool false)], args := [d] }
  | _ => none }
def FilterPartsWrongFalsely : Prop := filterPartsRow.holds Tryd.pinned (OpenSpec.ofChange filterPartsWrong)

/- THE SECOND FORM. 'bulk': how many values and letters a reading holds, each counted each time it is reached (what is shared counts as often as it is met; a slice's spare places count too). A statement '..UptoSaid' is the law's where the arguments, and the package variables that the reading takes, are together of bulk at most 1048576: NARROWER than '..Said'. Prove '..Said' where nothing that the law and all that it calls make is longer than what came in: it says more and counts as full. Else prove '..UptoSaid'. A law counts once. -/
mutual
def uptoBulk {H : Type} : DataW H → Nat
  | .lit (.string bytes) => bytes.length + 1
  | .lit _ => 1
  | .nil => 1
  | .ptr d => uptoBulk d + 1
  | .slice elems spare => uptoBulkAll elems + uptoBulkAll spare + 1
  | .agg parts => uptoBulkAll parts + 1
  | .iface _ d => uptoBulk d + 1
  | .map entries => uptoBulkEntries entries + 1
  | .held _ => 1
def uptoBulkAll {H : Type} : List (DataW H) → Nat
  | [] => 0
  | d :: r => uptoBulk d + uptoBulkAll r
def uptoBulkEntries {H : Type} : List (Lit × DataW H) → Nat
  | [] => 0
  | x :: r => uptoBulkEntry x + uptoBulkEntries r
def uptoBulkEntry {H : Type} : Lit × DataW H → Nat
  | (.string bytes, d) => bytes.length + uptoBulk d + 1
  | (_, d) => uptoBulk d + 1
 end
def uptoSmall : (H : Type) → List (DataW H) → Bool := fun _ ds => decide (uptoBulkAll ds ≤ 1048576)
def OpenSpec.upto (s : _root_.Go.ChangeSpec) : _root_.Go.OpenSpec := { _root_.Go.OpenSpec.ofChange s with cond := some uptoSmall }

/-- 'catchpitlaw13.FilterNames', WHERE WHAT IT READS IS OF BULK AT MOST 1048576: true; the input reads as it did. -/
def filterNamesUptoRow : OpenClaim := { program := "ytmjnjjjhdcecbaadoor", sum := "692bfcee1d652d3e56b887da2f568a5dd89cb727838efbd91232badaaa0b9b6d", func := "catchpit/catchpitlaw13.FilterNames", spec := "filterNames", unfollowed := true, recurses := true, named := ["catchpit/filter.names", "catchpit/octet.ends"], apart := false, laid := [("catchpit/octet.ends", laid_catchpit_octet_ends), ("catchpit/filter.names", laid_catchpit_filter_names)], narrowed := true }
def FilterNamesUptoSaid : Prop := filterNamesUptoRow.holds Tryd.pinned (OpenSpec.upto filterNamesSpec)

/-- 'catchpitlaw13.FilterAll', WHERE WHAT IT READS IS OF BULK AT MOST 1048576: true; the input reads as it did. -/
def filterAllUptoRow : OpenClaim := { program := "ytmjnjjjhdcecbaadoor", sum := "692bfcee1d652d3e56b887da2f568a5dd89cb727838efbd91232badaaa0b9b6d", func := "catchpit/catchpitlaw13.FilterAll", spec := "filterAll", unfollowed := true, recurses := true, named := ["catchpit/filter.names", "catchpit/octet.ends"], apart := false, laid := [("catchpit/octet.ends", laid_catchpit_octet_ends), ("catchpit/filter.names", laid_catchpit_filter_names)], narrowed := true }
def FilterAllUptoSaid : Prop := filterAllUptoRow.holds Tryd.pinned (OpenSpec.upto filterAllSpec)

/-- 'catchpitlaw13.FilterJoins', WHERE WHAT IT READS IS OF BULK AT MOST 1048576: true; the input reads as it did. -/
def filterJoinsUptoRow : OpenClaim := { program := "ytmjnjjjhdcecbaadoor", sum := "692bfcee1d652d3e56b887da2f568a5dd89cb727838efbd91232badaaa0b9b6d", func := "catchpit/catchpitlaw13.FilterJoins", spec := "filterJoins", unfollowed := true, recurses := true, named := ["catchpit/filter.names", "catchpit/octet.ends"], apart := false, laid := [("catchpit/octet.ends", laid_catchpit_octet_ends), ("catchpit/filter.names", laid_catchpit_filter_names)], narrowed := true }
def FilterJoinsUptoSaid : Prop := filterJoinsUptoRow.holds Tryd.pinned (OpenSpec.upto filterJoinsSpec)

/-- 'catchpitlaw13.FilterParts', WHERE WHAT IT READS IS OF BULK AT MOST 1048576: true; the input reads as it did. -/
def filterPartsUptoRow : OpenClaim := { program := "ytmjnjjjhdcecbaadoor", sum := "692bfcee1d652d3e56b887da2f568a5dd89cb727838efbd91232badaaa0b9b6d", func := "catchpit/catchpitlaw13.FilterParts", spec := "filterParts", unfollowed := true, recurses := true, named := ["catchpit/filter.names", "catchpit/octet.ends"], apart := false, laid := [("catchpit/octet.ends", laid_catchpit_octet_ends), ("catchpit/filter.names", laid_catchpit_filter_names)], narrowed := true }
def FilterPartsUptoSaid : Prop := filterPartsUptoRow.holds Tryd.pinned (OpenSpec.upto filterPartsSpec)

end Rows
end Go.Proofs.YtmjnjjjhdcecbaaDoor
