/-
  No cell of these rows narrows 'for every input' (looked for: loops, veiled, ifaces, maps, wideKeys, modest, calm, conditions, laid).
  DERIVED. THE GIVEN ROWS OF THIS SEAT. 3 by the template 'for every input the law returns true; each argument reads behind the call as it read before'; 0 by the template 'total and deterministic' (their statements: YtaicdpancmfhnaaGreatTotals.lean).
  GIVEN WITH THE SEED: the statements are not yours to turn. If you find one false, say at which input.
  Laid BY PROGRAM, IN A SANDBOX (cutbox-rows.mjs): the forced cells as the released guide's own fill.sh prints them over the translation 09c0fe0dc63cd86e… (all of the seat's roots in one cut). By AI agents, Wed Nov 11 2026. No macro, syntax, notation, axiom, sorry.
-/
import Derived.Test.YtaicdpancmfhnaaGreatChecked
import GoSem.Claim
import GoSem.ClaimJoined
import GoSem.ClaimMapViews
import Derived.JoinedTies
import Derived.KernelRfl
namespace Go.Proofs.YtaicdpancmfhnaaGreat
/- THE CELL 'sum', in the pinned program and in every row, IS THE sha256 OF THE DUMP (.gsa) THAT YtaicdpancmfhnaaGreatProg.lean LOADS. Nothing in Lean hashes anything: it is a label: what it is worth is what the hold of that sum in a sandbox is worth. -/
noncomputable def Tryz.pinned : Pinned := { name := "ytaicdpancmfhnaagreat", sum := "09c0fe0dc63cd86e77fb9cd6c75b5eb0522063d79e41ab8f8dca194007192ff3", checked := Tryz.checked }
namespace Rows
def none {H : Type} : Left H := { results := [], args := [] }

/-- 'laws.FnExactKnown': WHATEVER THE INPUT: true; the input reads as it did. -/
def fnExactKnownSpec : ChangeSpec := { name := "fnExactKnown", fn := fun _ => fun
  | [d1, d2] => { results := [.lit (.bool true)], args := [d1, d2] }
  | _ => none }
def fnExactKnownRow : OpenClaim := { program := "ytaicdpancmfhnaagreat", sum := "09c0fe0dc63cd86e77fb9cd6c75b5eb0522063d79e41ab8f8dca194007192ff3", func := "loop.example/g00790/laws.FnExactKnown", spec := "fnExactKnown", apart := false }
def FnExactKnownSaid : Prop := fnExactKnownRow.holds Tryz.pinned (OpenSpec.ofChange fnExactKnownSpec)

/-- ITS FALSE NEIGHBOUR: 'it returns false'. Refute it at one input. -/
def fnExactKnownWrong : ChangeSpec := { name := "fnExactKnown", fn := fun _ => fun
  | [d1, d2] => { results := [.lit (.bool false)], args := [d1, d2] }
  | _ => none }
def FnExactKnownWrongFalsely : Prop := fnExactKnownRow.holds Tryz.pinned (OpenSpec.ofChange fnExactKnownWrong)

/-- 'laws.FnExactNextHead': WHATEVER THE INPUT: true; the input reads as it did. -/
def fnExactNextHeadSpec : ChangeSpec := { name := "fnExactNextHead", fn := fun _ => fun
  | [d1, d2, d3, d4, d5, d6, d7] => { results := [.lit (.bool true)], args := [d1, d2, d3, d4, d5, d6, d7] }
  | _ => none }
def fnExactNextHeadRow : OpenClaim := { program := "ytaicdpancmfhnaagreat", sum := "09c0fe0dc63cd86e77fb9cd6c75b5eb0522063d79e41ab8f8dca194007192ff3", func := "loop.example/g00790/laws.FnExactNextHead", spec := "fnExactNextHead", apart := false }
def FnExactNextHeadSaid : Prop := fnExactNextHeadRow.holds Tryz.pinned (OpenSpec.ofChange fnExactNextHeadSpec)

/-- ITS FALSE NEIGHBOUR: 'it returns false'. Refute it at one input. -/
def fnExactNextHeadWrong : ChangeSpec := { name := "fnExactNextHead", fn := fun _ => fun
  | [d1, d2, d3, d4, d5, d6, d7] => { results := [.lit (.bool false)], args := [d1, d2, d3, d4, d5, d6, d7] }
  | _ => none }
def FnExactNextHeadWrongFalsely : Prop := fnExactNextHeadRow.holds Tryz.pinned (OpenSpec.ofChange fnExactNextHeadWrong)

/-- 'laws.FnExactBuildProof': WHATEVER THE INPUT: true; the input reads as it did. -/
def fnExactBuildProofSpec : ChangeSpec := { name := "fnExactBuildProof", fn := fun _ => fun
  | [d1, d2, d3, d4] => { results := [.lit (.bool true)], args := [d1, d2, d3, d4] }
  | _ => none }
def fnExactBuildProofRow : OpenClaim := { program := "ytaicdpancmfhnaagreat", sum := "09c0fe0dc63cd86e77fb9cd6c75b5eb0522063d79e41ab8f8dca194007192ff3", func := "loop.example/g00790/laws.FnExactBuildProof", spec := "fnExactBuildProof", apart := false }
def FnExactBuildProofSaid : Prop := fnExactBuildProofRow.holds Tryz.pinned (OpenSpec.ofChange fnExactBuildProofSpec)

/-- ITS FALSE NEIGHBOUR: 'it returns false'. Refute it at one input. -/
def fnExactBuildProofWrong : ChangeSpec := { name := "fnExactBuildProof", fn := fun _ => fun
  | [d1, d2, d3, d4] => { results := [.lit (.bool false)], args := [d1, d2, d3, d4] }
  | _ => none }
def FnExactBuildProofWrongFalsely : Prop := fnExactBuildProofRow.holds Tryz.pinned (OpenSpec.ofChange fnExactBuildProofWrong)

/- THE SECOND FORM. 'bulk': how many values and letters a reading holds, each counted each time it is reached (what is shared counts as often as it is met; a slice's spare places count too). A statement '..UptoSaid' is the law's where the arguments, and the package variables that the reading takes, are together of bulk at most 1048576: NARROWER than '..Said'. Prove '..Said' where nothing that the law and all that it calls make is longer than what came in: it says more and counts as full. Else prove '..UptoSaid'. A law counts once. -/
mutual
def uptoBulk {H : Type} : DataW H → Nat
  | .lit (.string bytes) => bytes.length + 1
  | .lit _ => 1
  | .nil => 1
  | .ptr d => uptoBulk d + 1
  | .slice elems spare => uptoBulkAll elems + uptoBulkAll spare + 1
  | .agg parts => uptoBulkAll parts + 1
  | .iface _ d => uptoBulk d + 1
  | .map entries => uptoBulkEntries entries + 1
  | .held _ => 1
def uptoBulkAll {H : Type} : List (DataW H) → Nat
  | [] => 0
  | d :: r => uptoBulk d + uptoBulkAll r
def uptoBulkEntries {H : Type} : List (Lit × DataW H) → Nat
  | [] => 0
  | x :: r => uptoBulkEntry x + uptoBulkEntries r
def uptoBulkEntry {H : Type} : Lit × DataW H → Nat
  | (.string bytes, d) => bytes.length + uptoBulk d + 1
  | (_, d) => uptoBulk d + 1
 end
def uptoSmall : (H : Type) → List (DataW H) → Bool := fun _ ds => decide (uptoBulkAll ds ≤ 1048576)
def OpenSpec.upto (s : _root_.Go.ChangeSpec) : _root_.Go.OpenSpec := { _root_.Go.OpenSpec.ofChange s with cond := some uptoSmall }

/-- 'laws.FnExactKnown', WHERE WHAT IT READS IS OF BULK AT MOST 1048576: true; the input reads as it did. -/
def fnExactKnownUptoRow : OpenClaim := { program := "ytaicdpancmfhnaagreat", sum := "09c0fe0dc63cd86e77fb9cd6c75b5eb0522063d79e41ab8f8dca194007192ff3", func := "loop.example/g00790/laws.FnExactKnown", spec := "fnExactKnown", apart := false, narrowed := true }
def FnExactKnownUptoSaid : Prop := fnExactKnownUptoRow.holds Tryz.pinned (OpenSpec.upto fnExactKnownSpec)

/-- 'laws.FnExactNextHead', WHERE WHAT IT READS IS OF BULK AT MOST 1048576: true; the input reads as it did. -/
def fnExactNextHeadUptoRow : OpenClaim := { program := "ytaicdpancmfhnaagreat", sum := "09c0fe0dc63cd86e77fb9cd6c75b5eb0522063d79e41ab8f8dca194007192ff3", func := "loop.example/g00790/laws.FnExactNextHead", spec := "fnExactNextHead", apart := false, narrowed := true }
def FnExactNextHeadUptoSaid : Prop := fnExactNextHeadUptoRow.holds Tryz.pinned (OpenSpec.upto fnExactNextHeadSpec)

/-- 'laws.FnExactBuildProof', WHERE WHAT IT READS IS OF BULK AT MOST 1048576: true; the input reads as it did. -/
def fnExactBuildProofUptoRow : OpenClaim := { program := "ytaicdpancmfhnaagreat", sum := "09c0fe0dc63cd86e77fb9cd6c75b5eb0522063d79e41ab8f8dca194007192ff3", func := "loop.example/g00790/laws.FnExactBuildProof", spec := "fnExactBuildProof", apart := false, narrowed := true }
def FnExactBuildProofUptoSaid : Prop := fnExactBuildProofUptoRow.holds Tryz.pinned (OpenSpec.upto fnExactBuildProofSpec)

end Rows
end Go.Proofs.YtaicdpancmfhnaaGreat
