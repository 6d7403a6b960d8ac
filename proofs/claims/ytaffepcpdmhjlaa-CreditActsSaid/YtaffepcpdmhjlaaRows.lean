/-
  No cell of these rows narrows 'for every input' (looked for: loops, veiled, ifaces, maps, wideKeys, modest, calm, conditions, laid).
  DERIVED. THE GIVEN ROWS OF THIS SEAT. 4 by the template 'for every input the law returns true; each argument reads behind the call as it read before'; 0 by the template 'total and deterministic' (their statements: YtaffepcpdmhjlaaTotals.lean).
  GIVEN WITH THE SEED: the statements are not yours to turn. If you find one false, say at which input.
  Laid BY PROGRAM, IN A SANDBOX (cutbox-rows.mjs): the forced cells as the released guide's own fill.sh prints them over the translation ee55636273cb1482… (all of the seat's roots in one cut). By AI agents, Wed Nov 11 2026. No macro, syntax, notation, axiom, sorry.
-/
import Derived.Test.YtaffepcpdmhjlaaChecked
import GoSem.Claim
import GoSem.ClaimJoined
import GoSem.ClaimMapViews
import Derived.JoinedTies
import Derived.KernelRfl
namespace Go.Proofs.Ytaffepcpdmhjlaa
/- THE CELL 'sum', in the pinned program and in every row, IS THE sha256 OF THE DUMP (.gsa) THAT YtaffepcpdmhjlaaProg.lean LOADS. Nothing in Lean hashes anything: it is a label: what it is worth is what the hold of that sum in a sandbox is worth. -/
noncomputable def Try.pinned : Pinned := { name := "ytaffepcpdmhjlaa", sum := "ee55636273cb1482a343f3bf1ab2477d5f22260de8d6567f6e3c98b4ae9cf475", checked := Try.checked }
namespace Rows
def none {H : Type} : Left H := { results := [], args := [] }

/-- 'catchpitlaw04.CreditBound': WHATEVER THE INPUT: true; the input reads as it did. -/
def creditBoundSpec : ChangeSpec := { name := "creditBound", fn := fun _ => fun
  | [d1, d2] => { results := [.lit (.bool true)], args := [d1, d2] }
  | _ => none }
def creditBoundRow : OpenClaim := { program := "ytaffepcpdmhjlaa", sum := "ee55636273cb1482a343f3bf1ab2477d5f22260de8d6567f6e3c98b4ae9cf475", func := "catchpit/catchpitlaw04.CreditBound", spec := "creditBound", apart := false }
def CreditBoundSaid : Prop := creditBoundRow.holds Try.pinned (OpenSpec.ofChange creditBoundSpec)

/-- ITS FALSE NEIGHBOUR: 'it returns false'. Refute it at one input. -/
def creditBoundWrong : ChangeSpec := { name := "creditBound", fn := fun _ => fun
  | [d1, d2] => { results := [.lit (.bool false)], args := [d1, d2] }
  | _ => none }
def CreditBoundWrongFalsely : Prop := creditBoundRow.holds Try.pinned (OpenSpec.ofChange creditBoundWrong)

/-- 'catchpitlaw04.CreditGrants': WHATEVER THE INPUT: true; the input reads as it did. -/
def creditGrantsSpec : ChangeSpec := { name := "creditGrants", fn := fun _ => fun
  | [d1, d2] => { results := [.lit (.bool true)], args := [d1, d2] }
  | _ => none }
def creditGrantsRow : OpenClaim := { program := "ytaffepcpdmhjlaa", sum := "ee55636273cb1482a343f3bf1ab2477d5f22260de8d6567f6e3c98b4ae9cf475", func := "catchpit/catchpitlaw04.CreditGrants", spec := "creditGrants", apart := false }
def CreditGrantsSaid : Prop := creditGrantsRow.holds Try.pinned (OpenSpec.ofChange creditGrantsSpec)

/-- ITS FALSE NEIGHBOUR: 'it returns false'. Refute it at one input. -/
def creditGrantsWrong : ChangeSpec := { name := "creditGrants", fn := fun _ => fun
  | [d1, d2] => { results := [.lit (.bool false)], args := [d1, d2] }
  | _ => none }
def CreditGrantsWrongFalsely : Prop := creditGrantsRow.holds Try.pinned (OpenSpec.ofChange creditGrantsWrong)

/-- 'catchpitlaw04.CreditActs': WHATEVER THE INPUT: true; the input reads as it did. -/
def creditActsSpec : ChangeSpec := { name := "creditActs", fn := fun _ => fun
  | [d1, d2] => { results := [.lit (.bool true)], args := [d1, d2] }
  | _ => none }
def creditActsRow : OpenClaim := { program := "ytaffepcpdmhjlaa", sum := "ee55636273cb1482a343f3bf1ab2477d5f22260de8d6567f6e3c98b4ae9cf475", func := "catchpit/catchpitlaw04.CreditActs", spec := "creditActs", apart := false }
def CreditActsSaid : Prop := creditActsRow.holds Try.pinned (OpenSpec.ofChange creditActsSpec)

/-- ITS FALSE NEIGHBOUR: 'it returns false'. Refute it at one input. -/
def creditActsWrong : ChangeSpec := { name := "creditActs", fn := fun _ => fun
  | [d1, d2] => { results := [.lit (.bool false)], args := [d1, d2] }
  | _ => none }
def CreditActsWrongFalsely : Prop := creditActsRow.holds Try.pinned (OpenSpec.ofChange creditActsWrong)

/-- 'catchpitlaw04.CreditBack': WHATEVER THE INPUT: true; the input reads as it did. -/
def creditBackSpec : ChangeSpec := { name := "creditBack", fn := fun _ => fun
  | [d1, d2, d3] => { results := [.lit (.bool true)], args := [d1, d2, d3] }
  | _ => none }
def creditBackRow : OpenClaim := { program := "ytaffepcpdmhjlaa", sum := "ee55636273cb1482a343f3bf1ab2477d5f22260de8d6567f6e3c98b4ae9cf475", func := "catchpit/catchpitlaw04.CreditBack", spec := "creditBack", apart := false }
def CreditBackSaid : Prop := creditBackRow.holds Try.pinned (OpenSpec.ofChange creditBackSpec)

/-- ITS FALSE NEIGHBOUR: 'it returns false'. Refute it at one input. -/
def creditBackWrong : ChangeSpec := { name := "creditBack", fn := fun _ => fun
  | [d1, d2, d3] => { results := [.lit (.bool false)], args := [d1, d2, d3] }
  | _ => none }
def CreditBackWrongFalsely : Prop := creditBackRow.holds Try.pinned (OpenSpec.ofChange creditBackWrong)

/- THE SECOND FORM. 'bulk': how many values and letters a reading holds, each counted each time it is reached (what is shared counts as often as it is met; a slice's spare places count too). A statement '..UptoSaid' is the law's where the arguments, and the package variables that the reading takes, are together of bulk at most 1048576: NARROWER than '..Said'. Prove '..Said' where nothing that the law and all that it calls make is longer than what came in: it says more and counts as full. Else prove '..UptoSaid'. A law counts once. -/
mutual
def uptoBulk {H : Type} : DataW H → Nat
  | .lit (.string bytes) => bytes.length + 1
  | .lit _ => 1
  | .nil => 1
  | .ptr d => uptoBulk d + 1
  | .slice elems spare => uptoBulkAll elems + uptoBulkAll spare + 1
  | .agg parts => uptoBulkAll parts + 1
  | .iface _ d => uptoBulk d + 1
  | .map entries => uptoBulkEntries entries + 1
  | .held _ => 1
def uptoBulkAll {H : Type} : List (DataW H) → Nat
  | [] => 0
  | d :: r => uptoBulk d + uptoBulkAll r
def uptoBulkEntries {H : Type} : List (Lit × DataW H) → Nat
  | [] => 0
  | x :: r => uptoBulkEntry x + uptoBulkEntries r
def uptoBulkEntry {H : Type} : Lit × DataW H → Nat
  | (.string bytes, d) => bytes.length + uptoBulk d + 1
  | (_, d) => uptoBulk d + 1
 end
def uptoSmall : (H : Type) → List (DataW H) → Bool := fun _ ds => decide (uptoBulkAll ds ≤ 1048576)
def OpenSpec.upto (s : _root_.Go.ChangeSpec) : _root_.Go.OpenSpec := { _root_.Go.OpenSpec.ofChange s with cond := some uptoSmall }

/-- 'catchpitlaw04.CreditBound', WHERE WHAT IT READS IS OF BULK AT MOST 1048576: true; the input reads as it did. -/
def creditBoundUptoRow : OpenClaim := { program := "ytaffepcpdmhjlaa", sum := "ee55636273cb1482a343f3bf1ab2477d5f22260de8d6567f6e3c98b4ae9cf475", func := "catchpit/catchpitlaw04.CreditBound", spec := "creditBound", apart := false, narrowed := true }
def CreditBoundUptoSaid : Prop := creditBoundUptoRow.holds Try.pinned (OpenSpec.upto creditBoundSpec)

/-- 'catchpitlaw04.CreditGrants', WHERE WHAT IT READS IS OF BULK AT MOST 1048576: true; the input reads as it did. -/
def creditGrantsUptoRow : OpenClaim := { program := "ytaffepcpdmhjlaa", sum := "ee55636273cb1482a343f3bf1ab2477d5f22260de8d6567f6e3c98b4ae9cf475", func := "catchpit/catchpitlaw04.CreditGrants", spec := "creditGrants", apart := false, narrowed := true }
def CreditGrantsUptoSaid : Prop := creditGrantsUptoRow.holds Try.pinned (OpenSpec.upto creditGrantsSpec)

/-- 'catchpitlaw04.CreditActs', WHERE WHAT IT READS IS OF BULK AT MOST 1048576: true; the input reads as it did. -/
def creditActsUptoRow : OpenClaim := { program := "ytaffepcpdmhjlaa", sum := "ee55636273cb1482a343f3bf1ab2477d5f22260de8d6567f6e3c98b4ae9cf475", func := "catchpit/catchpitlaw04.CreditActs", spec := "creditActs", apart := false, narrowed := true }
def CreditActsUptoSaid : Prop := creditActsUptoRow.holds Try.pinned (OpenSpec.upto creditActsSpec)

/-- 'catchpitlaw04.CreditBack', WHERE WHAT IT READS IS OF BULK AT MOST 1048576: true; the input reads as it did. -/
def creditBackUptoRow : OpenClaim := { program := "ytaffepcpdmhjlaa", sum := "ee55636273cb1482a343f3bf1ab2477d5f22260de8d6567f6e3c98b4ae9cf475", func := "catchpit/catchpitlaw04.CreditBack", spec := "creditBack", apart := false, narrowed := true }
def CreditBackUptoSaid : Prop := creditBackUptoRow.holds Try.pinned (OpenSpec.upto creditBackSpec)

end Rows
end Go.Proofs.Ytaffepcpdmhjlaa
