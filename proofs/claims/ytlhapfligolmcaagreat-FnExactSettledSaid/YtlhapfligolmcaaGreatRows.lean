/-
  No cell of these rows narrows 'for every input' (looked for: loops, veiled, ifaces, maps, wideKeys, modest, calm, conditions, laid).
  DERIVED. THE GIVEN ROWS OF THIS SEAT. 5 by the template 'for every input the law returns true; each argument reads behind the call as it read before'; 0 by the template 'total and deterministic' (their statements: YtlhapfligolmcaaGreatTotals.lean).
  GIVEN WITH THE SEED: the statements are not yours to turn. If you find one false, say at which input.
  Laid BY PROGRAM, IN A SANDBOX (cutbox-rows.mjs): the forced cells as the released guide's own fill.sh prints them over the translation a911f831def09824… (all of the seat's roots in one cut). By AI agents, Wed Nov 11 2026. No macro, syntax, notation, axiom, sorry.
-/
import Derived.Test.YtlhapfligolmcaaGreatChecked
import GoSem.Claim
import GoSem.ClaimJoined
import GoSem.ClaimMapViews
import Derived.JoinedTies
import Derived.KernelRfl
namespace Go.Proofs.YtlhapfligolmcaaGreat
/- THE CELL 'sum', in the pinned program and in every row, IS THE sha256 OF THE DUMP (.gsa) THAT YtlhapfligolmcaaGreatProg.lean LOADS. Nothing in Lean hashes anything: it is a label: what it is worth is what the hold of that sum in a sandbox is worth. -/
noncomputable def Tryz.pinned : Pinned := { name := "ytlhapfligolmcaagreat", sum := "a911f831def09824177e8464624555b42db76c03a7e438895132b7f1abfce734", checked := Tryz.checked }
namespace Rows
def none {H : Type} : Left H := { results := [], args := [] }

/-- 'laws.FnProof': WHATEVER THE INPUT: true; the input reads as it did. -/
def fnProofSpec : ChangeSpec := { name := "fnProof", fn := fun _ => fun
  | [d] => { results := [.lit (.bool true)], args := [d] }
  | _ => none }
def fnProofRow : OpenClaim := { program := "ytlhapfligolmcaagreat", sum := "a911f831def09824177e8464624555b42db76c03a7e438895132b7f1abfce734", func := "loop.example/g00790/laws.FnProof", spec := "fnProof", apart := false }
def FnProofSaid : Prop := fnProofRow.holds Tryz.pinned (OpenSpec.ofChange fnProofSpec)

/-- ITS FALSE NEIGHBOUR: 'it returns false'. Refute it at one input. -/
def fnProofWrong : ChangeSpec := { name := "fnProof", fn := fun _ => fun
  | [d] => { results := [.lit (.bool false)], args := [d] }
  | _ => none }
def FnProofWrongFalsely : Prop := fnProofRow.holds Tryz.pinned (OpenSpec.ofChange fnProofWrong)

/-- 'laws.FnExactSettled': WHATEVER THE INPUT: true; the input reads as it did. -/
def fnExactSettledSpec : ChangeSpec := { name := "fnExactSettled", fn := fun _ => fun
  | [d1, d2] => { results := [.lit (.bool true)], args := [d1, d2] }
  | _ => none }
def fnExactSettledRow : OpenClaim := { program := "ytlhapfligolmcaagreat", sum := "a911f831def09824177e8464624555b42db76c03a7e438895132b7f1abfce734", func := "loop.example/g00790/laws.FnExactSettled", spec := "fnExactSettled", apart := false }
def FnExactSettledSaid : Prop := fnExactSettledRow.holds Tryz.pinned (OpenSpec.ofChange fnExactSettledSpec)

/-- ITS FALSE NEIGHBOUR: 'it returns false'. Refute it at one input. -/
def fnExactSettledWrong : ChangeSpec := { name := "fnExactSettled", fn := fun _ => fun
  | [d1, d2] => { results := [.lit (.bool false)], args := [d1, d2] }
  | _ => none }
def FnExactSettledWrongFalsely : Prop := fnExactSettledRow.holds Tryz.pinned (OpenSpec.ofChange fnExactSettledWrong)

/-- 'laws.FnExactMsgOk': WHATEVER THE INPUT: true; the input reads as it did. -/
def fnExactMsgOkSpec : ChangeSpec := { name := "fnExactMsgOk", fn := fun _ => fun
  | [d1, d2] => { results := [.lit (.bool true)], args := [d1, d2] }
  | _ => none }
def fnExactMsgOkRow : OpenClaim := { program := "ytlhapfligolmcaagreat", sum := "a911f831def09824177e8464624555b42db76c03a7e438895132b7f1abfce734", func := "loop.example/g00790/laws.FnExactMsgOk", spec := "fnExactMsgOk", recurses := true, apart := false }
def FnExactMsgOkSaid : Prop := fnExactMsgOkRow.holds Tryz.pinned (OpenSpec.ofChange fnExactMsgOkSpec)

/-- ITS FALSE NEIGHBOUR: 'it returns false'. Refute it at one input. -/
def fnExactMsgOkWrong : ChangeSpec := { name := "fnExactMsgOk", fn := fun _ => fun
  | [d1, d2] => { results := [.lit (.bool false)], args := [d1, d2] }
  | _ => none }
def FnExactMsgOkWrongFalsely : Prop := fnExactMsgOkRow.holds Tryz.pinned (OpenSpec.ofChange fnExactMsgOkWrong)

/-- 'laws.FnExactMsgSize': WHATEVER THE INPUT: true; the input reads as it did. -/
def fnExactMsgSizeSpec : ChangeSpec := { name := "fnExactMsgSize", fn := fun _ => fun
  | [d1, d2] => { results := [.lit (.bool true)], args := [d1, d2] }
  | _ => none }
def fnExactMsgSizeRow : OpenClaim := { program := "ytlhapfligolmcaagreat", sum := "a911f831def09824177e8464624555b42db76c03a7e438895132b7f1abfce734", func := "loop.example/g00790/laws.FnExactMsgSize", spec := "fnExactMsgSize", recurses := true, apart := false }
def FnExactMsgSizeSaid : Prop := fnExactMsgSizeRow.holds Tryz.pinned (OpenSpec.ofChange fnExactMsgSizeSpec)

/-- ITS FALSE NEIGHBOUR: 'it returns false'. Refute it at one input. -/
def fnExactMsgSizeWrong : ChangeSpec := { name := "fnExactMsgSize", fn := fun _ => fun
  | [d1, d2] => { results := [.lit (.bool false)], args := [d1, d2] }
  | _ => none }
def FnExactMsgSizeWrongFalsely : Prop := fnExactMsgSizeRow.holds Tryz.pinned (OpenSpec.ofChange fnExactMsgSizeWrong)

/-- 'laws.FnExactEncode': WHATEVER THE INPUT: true; the input reads as it did. -/
def fnExactEncodeSpec : ChangeSpec := { name := "fnExactEncode", fn := fun _ => fun
  | [d1, d2] => { results := [.lit (.bool true)], args := [d1, d2] }
  | _ => none }
def fnExactEncodeRow : OpenClaim := { program := "ytlhapfligolmcaagreat", sum := "a911f831def09824177e8464624555b42db76c03a7e438895132b7f1abfce734", func := "loop.example/g00790/laws.FnExactEncode", spec := "fnExactEncode", recurses := true, apart := false }
def FnExactEncodeSaid : Prop := fnExactEncodeRow.holds Tryz.pinned (OpenSpec.ofChange fnExactEncodeSpec)

/-- ITS FALSE NEIGHBOUR: 'it returns false'. Refute it at one input. -/
def fnExactEncodeWrong : ChangeSpec := { name := "fnExactEncode", fn := fun _ => fun
  | [d1, d2] => { results := [.lit (.bool false)], args := [d1, d2] }
  | _ => none }
def FnExactEncodeWrongFalsely : Prop := fnExactEncodeRow.holds Tryz.pinned (OpenSpec.ofChange fnExactEncodeWrong)

/- THE SECOND FORM. 'bulk': how many values and letters a reading holds, each counted each time it is reached (what is shared counts as often as it is met; a slice's spare places count too). A statement '..UptoSaid' is the law's where the arguments, and the package variables that the reading takes, are together of bulk at most 1048576: NARROWER than '..Said'. Prove '..Said' where nothing that the law and all that it calls make is longer than what came in: it says more and counts as full. Else prove '..UptoSaid'. A law counts once. -/
mutual
def uptoBulk {H : Type} : DataW H → Nat
  | .lit (.string bytes) => bytes.length + 1
  | .lit _ => 1
  | .nil => 1
  | .ptr d => uptoBulk d + 1
  | .slice elems spare => uptoBulkAll elems + uptoBulkAll spare + 1
  | .agg parts => uptoBulkAll parts + 1
  | .iface _ d => uptoBulk d + 1
  | .map entries => uptoBulkEntries entries + 1
  | .held _ => 1
def uptoBulkAll {H : Type} : List (DataW H) → Nat
  | [] => 0
  | d :: r => uptoBulk d + uptoBulkAll r
def uptoBulkEntries {H : Type} : List (Lit × DataW H) → Nat
  | [] => 0
  | x :: r => uptoBulkEntry x + uptoBulkEntries r
def uptoBulkEntry {H : Type} : Lit × DataW H → Nat
  | (.string bytes, d) => bytes.length + uptoBulk d + 1
  | (_, d) => uptoBulk d + 1
 end
def uptoSmall : (H : Type) → List (DataW H) → Bool := fun _ ds => decide (uptoBulkAll ds ≤ 1048576)
def OpenSpec.upto (s : _root_.Go.ChangeSpec) : _root_.Go.OpenSpec := { _root_.Go.OpenSpec.ofChange s with cond := some uptoSmall }

/-- 'laws.FnProof', WHERE WHAT IT READS IS OF BULK AT MOST 1048576: true; the input reads as it did. -/
def fnProofUptoRow : OpenClaim := { program := "ytlhapfligolmcaagreat", sum := "a911f831def09824177e8464624555b42db76c03a7e438895132b7f1abfce734", func := "loop.example/g00790/laws.FnProof", spec := "fnProof", apart := false, narrowed := true }
def FnProofUptoSaid : Prop := fnProofUptoRow.holds Tryz.pinned (OpenSpec.upto fnProofSpec)

/-- 'laws.FnExactSettled', WHERE WHAT IT READS IS OF BULK AT MOST 1048576: true; the input reads as it did. -/
def fnExactSettledUptoRow : OpenClaim := { program := "ytlhapfligolmcaagreat", sum := "a911f831def09824177e8464624555b42db76c03a7e438895132b7f1abfce734", func := "loop.example/g00790/laws.FnExactSettled", spec := "fnExactSettled", apart := false, narrowed := true }
def FnExactSettledUptoSaid : Prop := fnExactSettledUptoRow.holds Tryz.pinned (OpenSpec.upto fnExactSettledSpec)

/-- 'laws.FnExactMsgOk', WHERE WHAT IT READS IS OF BULK AT MOST 1048576: true; the input reads as it did. -/
def fnExactMsgOkUptoRow : OpenClaim := { program := "ytlhapfligolmcaagreat", sum := "a911f831def09824177e8464624555b42db76c03a7e438895132b7f1abfce734", func := "loop.example/g00790/laws.FnExactMsgOk", spec := "fnExactMsgOk", recurses := true, apart := false, narrowed := true }
def FnExactMsgOkUptoSaid : Prop := fnExactMsgOkUptoRow.holds Tryz.pinned (OpenSpec.upto fnExactMsgOkSpec)

/-- 'laws.FnExactMsgSize', WHERE WHAT IT READS IS OF BULK AT MOST 1048576: true; the input reads as it did. -/
def fnExactMsgSizeUptoRow : OpenClaim := { program := "ytlhapfligolmcaagreat", sum := "a911f831def09824177e8464624555b42db76c03a7e438895132b7f1abfce734", func := "loop.example/g00790/laws.FnExactMsgSize", spec := "fnExactMsgSize", recurses := true, apart := false, narrowed := true }
def FnExactMsgSizeUptoSaid : Prop := fnExactMsgSizeUptoRow.holds Tryz.pinned (OpenSpec.upto fnExactMsgSizeSpec)

/-- 'laws.FnExactEncode', WHERE WHAT IT READS IS OF BULK AT MOST 1048576: true; the input reads as it did. -/
def fnExactEncodeUptoRow : OpenClaim := { program := "ytlhapfligolmcaagreat", sum := "a911f831def09824177e8464624555b42db76c03a7e438895132b7f1abfce734", func := "loop.example/g00790/laws.FnExactEncode", spec := "fnExactEncode", recurses := true, apart := false, narrowed := true }
def FnExactEncodeUptoSaid : Prop := fnExactEncodeUptoRow.holds Tryz.pinned (OpenSpec.upto fnExactEncodeSpec)

end Rows
end Go.Proofs.YtlhapfligolmcaaGreat
