/-
  NARROWER THAN 'FOR EVERY INPUT', by the rows' own cells (each row's printed sentence says how): FnExactSameShape: loops.
  DERIVED. THE GIVEN ROWS OF THIS SEAT. 3 by the template 'for every input the law returns true; each argument reads behind the call as it read before'; 0 by the template 'total and deterministic' (their statements: YtimjpohfopnnpaaTotals.lean).
  GIVEN WITH THE SEED: the statements are not yours to turn. If you find one false, say at which input.
  Laid BY PROGRAM, IN A SANDBOX (cutbox-rows.mjs): the forced cells as the released guide's own fill.sh prints them over the translation cc2791d737f82f42… (all of the seat's roots in one cut). By AI agents, Wed Nov 11 2026. No macro, syntax, notation, axiom, sorry.
-/
import Derived.Test.YtimjpohfopnnpaaChecked
import GoSem.Claim
import GoSem.ClaimJoined
import GoSem.ClaimMapViews
import Derived.JoinedTies
import Derived.KernelRfl
namespace Go.Proofs.Ytimjpohfopnnpaa
/- THE CELL 'sum', in the pinned program and in every row, IS THE sha256 OF THE DUMP (.gsa) THAT YtimjpohfopnnpaaProg.lean LOADS. Nothing in Lean hashes anything: it is a label: what it is worth is what the hold of that sum in a sandbox is worth. -/
noncomputable def Try.pinned : Pinned := { name := "ytimjpohfopnnpaa", sum := "cc2791d737f82f42d9fe128414f045b7f9b573fb344d8edcce2a3628845432e2", checked := Try.checked }
namespace Rows
def none {H : Type} : Left H := { results := [], args := [] }

/-- 'laws.FnExactPutLetter': WHATEVER THE INPUT: true; the input reads as it did. -/
def fnExactPutLetterSpec : ChangeSpec := { name := "fnExactPutLetter", fn := fun _ => fun
  | [d] => { results := [.lit (.bool true)], args := [d] }
  | _ => none }
def fnExactPutLetterRow : OpenClaim := { program := "ytimjpohfopnnpaa", sum := "cc2791d737f82f42d9fe128414f045b7f9b573fb344d8edcce2a3628845432e2", func := "loop.example/g00421/laws.FnExactPutLetter", spec := "fnExactPutLetter", apart := false }
def FnExactPutLetterSaid : Prop := fnExactPutLetterRow.holds Try.pinned (OpenSpec.ofChange fnExactPutLetterSpec)

/-- ITS FALSE NEIGHBOUR: 'it returns false'. Refute it at one input. -/
def fnExactPutLetterWrong : ChangeSpec := { name := "fnExactPutLetter", fn := fun _ => fun
  | [d] => { results := [.lit (.bool false)], args := [d] }
  | _ => none }
def FnExactPutLetterWrongFalsely : Prop := fnExactPutLetterRow.holds Try.pinned (OpenSpec.ofChange fnExactPutLetterWrong)

/-- 'laws.FnExactSameShape': WHATEVER THE INPUT: true; the input reads as it did. -/
def fnExactSameShapeSpec : ChangeSpec := { name := "fnExactSameShape", fn := fun _ => fun
  | [d1, d2] => { results := [.lit (.bool true)], args := [d1, d2] }
  | _ => none }
def fnExactSameShapeRow : OpenClaim := { program := "ytimjpohfopnnpaa", sum := "cc2791d737f82f42d9fe128414f045b7f9b573fb344d8edcce2a3628845432e2", func := "loop.example/g00421/laws.FnExactSameShape", spec := "fnExactSameShape", unfollowed := true, recurses := true, loops := true, apart := false }
def FnExactSameShapeSaid : Prop := fnExactSameShapeRow.holds Try.pinned (OpenSpec.ofChange fnExactSameShapeSpec)

/-- ITS FALSE NEIGHBOUR: 'it returns false'. Refute it at one input. -/
def fnExactSameShapeWrong : ChangeSpec := { name := "fnExactSameShape", fn := fun _ => fun
  | [d1, d2] => { results := [.lit (.bool false)], args := [d1, d2] }
  | _ => none }
def FnExactSameShapeWrongFalsely : Prop := fnExactSameShapeRow.holds Try.pinned (OpenSpec.ofChange fnExactSameShapeWrong)

/-- 'laws.FnExactGetLetter': WHATEVER THE INPUT: true; the input reads as it did. -/
def fnExactGetLetterSpec : ChangeSpec := { name := "fnExactGetLetter", fn := fun _ => fun
  | [d] => { results := [.lit (.bool true)], args := [d] }
  | _ => none }
def fnExactGetLetterRow : OpenClaim := { program := "ytimjpohfopnnpaa", sum := "cc2791d737f82f42d9fe128414f045b7f9b573fb344d8edcce2a3628845432e2", func := "loop.example/g00421/laws.FnExactGetLetter", spec := "fnExactGetLetter", unfollowed := true, recurses := true, apart := false }
def FnExactGetLetterSaid : Prop := fnExactGetLetterRow.holds Try.pinned (OpenSpec.ofChange fnExactGetLetterSpec)

/-- ITS FALSE NEIGHBOUR: 'it returns false'. Refute it at one input. -/
def fnExactGetLetterWrong : ChangeSpec := { name := "fnExactGetLetter", fn := fun _ => fun
  | [d] => { results := [.lit (.bool false)], args := [d] }
  | _ => none }
def FnExactGetLetterWrongFalsely : Prop := fnExactGetLetterRow.holds Try.pinned (OpenSpec.ofChange fnExactGetLetterWrong)

/- THE SECOND FORM. 'bulk': how many values and letters a reading holds, each counted each time it is reached (what is shared counts as often as it is met; a slice's spare places count too). A statement '..UptoSaid' is the law's where the arguments, and the package variables that the reading takes, are together of bulk at most 1048576: NARROWER than '..Said'. Prove '..Said' where nothing that the law and all that it calls make is longer than what came in: it says more and counts as full. Else prove '..UptoSaid'. A law counts once. -/
mutual
def uptoBulk {H : Type} : DataW H → Nat
  | .lit (.string bytes) => bytes.length + 1
  | .lit _ => 1
  | .nil => 1
  | .ptr d => uptoBulk d + 1
  | .slice elems spare => uptoBulkAll elems + uptoBulkAll spare + 1
  | .agg parts => uptoBulkAll parts + 1
  | .iface _ d => uptoBulk d + 1
  | .map entries => uptoBulkEntries entries + 1
  | .held _ => 1
def uptoBulkAll {H : Type} : List (DataW H) → Nat
  | [] => 0
  | d :: r => uptoBulk d + uptoBulkAll r
def uptoBulkEntries {H : Type} : List (Lit × DataW H) → Nat
  | [] => 0
  | x :: r => uptoBulkEntry x + uptoBulkEntries r
def uptoBulkEntry {H : Type} : Lit × DataW H → Nat
  | (.string bytes, d) => bytes.length + uptoBulk d + 1
  | (_, d) => uptoBulk d + 1
 end
def uptoSmall : (H : Type) → List (DataW H) → Bool := fun _ ds => decide (uptoBulkAll ds ≤ 1048576)
def OpenSpec.upto (s : _root_.Go.ChangeSpec) : _root_.Go.OpenSpec := { _root_.Go.OpenSpec.ofChange s with cond := some uptoSmall }

/-- 'laws.FnExactPutLetter', WHERE WHAT IT READS IS OF BULK AT MOST 1048576: true; the input reads as it did. -/
def fnExactPutLetterUptoRow : OpenClaim := { program := "ytimjpohfopnnpaa", sum := "cc2791d737f82f42d9fe128414f045b7f9b573fb344d8edcce2a3628845432e2", func := "loop.example/g00421/laws.FnExactPutLetter", spec := "fnExactPutLetter", apart := false, narrowed := true }
def FnExactPutLetterUptoSaid : Prop := fnExactPutLetterUptoRow.holds Try.pinned (OpenSpec.upto fnExactPutLetterSpec)

/-- 'laws.FnExactSameShape', WHERE WHAT IT READS IS OF BULK AT MOST 1048576: true; the input reads as it did. -/
def fnExactSameShapeUptoRow : OpenClaim := { program := "ytimjpohfopnnpaa", sum := "cc2791d737f82f42d9fe128414f045b7f9b573fb344d8edcce2a3628845432e2", func := "loop.example/g00421/laws.FnExactSameShape", spec := "fnExactSameShape", unfollowed := true, recurses := true, loops := true, apart := false, narrowed := true }
def FnExactSameShapeUptoSaid : Prop := fnExactSameShapeUptoRow.holds Try.pinned (OpenSpec.upto fnExactSameShapeSpec)

/-- 'laws.FnExactGetLetter', WHERE WHAT IT READS IS OF BULK AT MOST 1048576: true; the input reads as it did. -/
def fnExactGetLetterUptoRow : OpenClaim := { program := "ytimjpohfopnnpaa", sum := "cc2791d737f82f42d9fe128414f045b7f9b573fb344d8edcce2a3628845432e2", func := "loop.example/g00421/laws.FnExactGetLetter", spec := "fnExactGetLetter", unfollowed := true, recurses := true, apart := false, narrowed := true }
def FnExactGetLetterUptoSaid : Prop := fnExactGetLetterUptoRow.holds Try.pinned (OpenSpec.upto fnExactGetLetterSpec)

end Rows
end Go.Proofs.Ytimjpohfopnnpaa
