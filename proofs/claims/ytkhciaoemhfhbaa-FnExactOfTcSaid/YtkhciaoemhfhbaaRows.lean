/-
  No cell of these rows narrows 'for every input' (looked for: loops, veiled, ifaces, maps, wideKeys, modest, calm, conditions, laid).
  DERIVED. THE GIVEN ROWS OF THIS SEAT. 7 by the template 'for every input the law returns true; each argument reads behind the call as it read before'; 0 by the template 'total and deterministic' (their statements: YtkhciaoemhfhbaaTotals.lean).
  GIVEN WITH THE SEED: the statements are not yours to turn. If you find one false, say at which input.
  Laid BY PROGRAM, IN A SANDBOX (cutbox-rows.mjs): the forced cells as the released guide's own fill.sh prints them over the translation 37e6d75008458c93… (all of the seat's roots in one cut). By AI agents, Wed Nov 11 2026. No macro, syntax, notation, axiom, sorry.
-/
import Derived.Test.YtkhciaoemhfhbaaChecked
import GoSem.Claim
import GoSem.ClaimJoined
import GoSem.ClaimMapViews
import Derived.JoinedTies
import Derived.KernelRfl
namespace Go.Proofs.Ytkhciaoemhfhbaa
/- THE CELL 'sum', in the pinned program and in every row, IS THE sha256 OF THE DUMP (.gsa) THAT YtkhciaoemhfhbaaProg.lean LOADS. Nothing in Lean hashes anything: it is a label: what it is worth is what the hold of that sum in a sandbox is worth. -/
noncomputable def Try.pinned : Pinned := { name := "ytkhciaoemhfhbaa", sum := "37e6d75008458c93a91bcb0f7e5c2d678fbd807e7c088298f187377d7024d7c4", checked := Try.checked }
namespace Rows
def none {H : Type} : Left H := { results := [], args := [] }

/-- 'laws.FnBlock': WHATEVER THE INPUT: true; the input reads as it did. -/
def fnBlockSpec : ChangeSpec := { name := "fnBlock", fn := fun _ => fun
  | [d] => { results := [.lit (.bool true)], args := [d] }
  | _ => none }
def fnBlockRow : OpenClaim := { program := "ytkhciaoemhfhbaa", sum := "37e6d75008458c93a91bcb0f7e5c2d678fbd807e7c088298f187377d7024d7c4", func := "loop.example/g00790/laws.FnBlock", spec := "fnBlock", recurses := true, apart := false }
def FnBlockSaid : Prop := fnBlockRow.holds Try.pinned (OpenSpec.ofChange fnBlockSpec)

/-- ITS FALSE NEIGHBOUR: 'it returns false'. Refute it at one input. -/
def fnBlockWrong : ChangeSpec := { name := "fnBlock", fn := fun _ => fun
  | [d] => { results := [.lit (.bool false)], args := [d] }
  | _ => none }
def FnBlockWrongFalsely : Prop := fnBlockRow.holds Try.pinned (OpenSpec.ofChange fnBlockWrong)

/-- 'laws.FnExactLightNew': WHATEVER THE INPUT: true; the input reads as it did. -/
def fnExactLightNewSpec : ChangeSpec := { name := "fnExactLightNew", fn := fun _ => fun
  | [d1, d2] => { results := [.lit (.bool true)], args := [d1, d2] }
  | _ => none }
def fnExactLightNewRow : OpenClaim := { program := "ytkhciaoemhfhbaa", sum := "37e6d75008458c93a91bcb0f7e5c2d678fbd807e7c088298f187377d7024d7c4", func := "loop.example/g00790/laws.FnExactLightNew", spec := "fnExactLightNew", apart := false }
def FnExactLightNewSaid : Prop := fnExactLightNewRow.holds Try.pinned (OpenSpec.ofChange fnExactLightNewSpec)

/-- ITS FALSE NEIGHBOUR: 'it returns false'. Refute it at one input. -/
def fnExactLightNewWrong : ChangeSpec := { name := "fnExactLightNew", fn := fun _ => fun
  | [d1, d2] => { results := [.lit (.bool false)], args := [d1, d2] }
  | _ => none }
def FnExactLightNewWrongFalsely : Prop := fnExactLightNewRow.holds Try.pinned (OpenSpec.ofChange fnExactLightNewWrong)

/-- 'laws.FnExactCommits': WHATEVER THE INPUT: true; the input reads as it did. -/
def fnExactCommitsSpec : ChangeSpec := { name := "fnExactCommits", fn := fun _ => fun
  | [d1, d2] => { results := [.lit (.bool true)], args := [d1, d2] }
  | _ => none }
def fnExactCommitsRow : OpenClaim := { program := "ytkhciaoemhfhbaa", sum := "37e6d75008458c93a91bcb0f7e5c2d678fbd807e7c088298f187377d7024d7c4", func := "loop.example/g00790/laws.FnExactCommits", spec := "fnExactCommits", apart := false }
def FnExactCommitsSaid : Prop := fnExactCommitsRow.holds Try.pinned (OpenSpec.ofChange fnExactCommitsSpec)

/-- ITS FALSE NEIGHBOUR: 'it returns false'. Refute it at one input. -/
def fnExactCommitsWrong : ChangeSpec := { name := "fnExactCommits", fn := fun _ => fun
  | [d1, d2] => { results := [.lit (.bool false)], args := [d1, d2] }
  | _ => none }
def FnExactCommitsWrongFalsely : Prop := fnExactCommitsRow.holds Try.pinned (OpenSpec.ofChange fnExactCommitsWrong)

/-- 'laws.FnExactOfIncl': WHATEVER THE INPUT: true; the input reads as it did. -/
def fnExactOfInclSpec : ChangeSpec := { name := "fnExactOfIncl", fn := fun _ => fun
  | [d] => { results := [.lit (.bool true)], args := [d] }
  | _ => none }
def fnExactOfInclRow : OpenClaim := { program := "ytkhciaoemhfhbaa", sum := "37e6d75008458c93a91bcb0f7e5c2d678fbd807e7c088298f187377d7024d7c4", func := "loop.example/g00790/laws.FnExactOfIncl", spec := "fnExactOfIncl", apart := false }
def FnExactOfInclSaid : Prop := fnExactOfInclRow.holds Try.pinned (OpenSpec.ofChange fnExactOfInclSpec)

/-- ITS FALSE NEIGHBOUR: 'it returns false'. Refute it at one input. -/
def fnExactOfInclWrong : ChangeSpec := { name := "fnExactOfIncl", fn := fun _ => fun
  | [d] => { results := [.lit (.bool false)], args := [d] }
  | _ => none }
def FnExactOfInclWrongFalsely : Prop := fnExactOfInclRow.holds Try.pinned (OpenSpec.ofChange fnExactOfInclWrong)

/-- 'laws.FnExactOfTc': WHATEVER THE INPUT: true; the input reads as it did. -/
def fnExactOfTcSpec : ChangeSpec := { name := "fnExactOfTc", fn := fun _ => fun
  | [d] => { results := [.lit (.bool true)], args := [d] }
  | _ => none }
def fnExactOfTcRow : OpenClaim := { program := "ytkhciaoemhfhbaa", sum := "37e6d75008458c93a91bcb0f7e5c2d678fbd807e7c088298f187377d7024d7c4", func := "loop.example/g00790/laws.FnExactOfTc", spec := "fnExactOfTc", apart := false }
def FnExactOfTcSaid : Prop := fnExactOfTcRow.holds Try.pinned (OpenSpec.ofChange fnExactOfTcSpec)

/-- ITS FALSE NEIGHBOUR: 'it returns false'. Refute it at one input. -/
def fnExactOfTcWrong : ChangeSpec := { name := "fnExactOfTc", fn := fun _ => fun
  | [d] => { results := [.lit (.bool false)], args := [d] }
  | _ => none }
def FnExactOfTcWrongFalsely : Prop := fnExactOfTcRow.holds Try.pinned (OpenSpec.ofChange fnExactOfTcWrong)

/-- 'laws.FnExactOfQc': WHATEVER THE INPUT: true; the input reads as it did. -/
def fnExactOfQcSpec : ChangeSpec := { name := "fnExactOfQc", fn := fun _ => fun
  | [d] => { results := [.lit (.bool true)], args := [d] }
  | _ => none }
def fnExactOfQcRow : OpenClaim := { program := "ytkhciaoemhfhbaa", sum := "37e6d75008458c93a91bcb0f7e5c2d678fbd807e7c088298f187377d7024d7c4", func := "loop.example/g00790/laws.FnExactOfQc", spec := "fnExactOfQc", apart := false }
def FnExactOfQcSaid : Prop := fnExactOfQcRow.holds Try.pinned (OpenSpec.ofChange fnExactOfQcSpec)

/-- ITS FALSE NEIGHBOUR: 'it returns false'. Refute it at one input. -/
def fnExactOfQcWrong : ChangeSpec := { name := "fnExactOfQc", fn := fun _ => fun
  | [d] => { results := [.lit (.bool false)], args := [d] }
  | _ => none }
def FnExactOfQcWrongFalsely : Prop := fnExactOfQcRow.holds Try.pinned (OpenSpec.ofChange fnExactOfQcWrong)

/-- 'laws.FnExactOfHead': WHATEVER THE INPUT: true; the input reads as it did. -/
def fnExactOfHeadSpec : ChangeSpec := { name := "fnExactOfHead", fn := fun _ => fun
  | [d] => { results := [.lit (.bool true)], args := [d] }
  | _ => none }
def fnExactOfHeadRow : OpenClaim := { program := "ytkhciaoemhfhbaa", sum := "37e6d75008458c93a91bcb0f7e5c2d678fbd807e7c088298f187377d7024d7c4", func := "loop.example/g00790/laws.FnExactOfHead", spec := "fnExactOfHead", apart := false }
def FnExactOfHeadSaid : Prop := fnExactOfHeadRow.holds Try.pinned (OpenSpec.ofChange fnExactOfHeadSpec)

/-- ITS FALSE NEIGHBOUR: 'it returns false'. Refute it at one input. -/
def fnExactOfHeadWrong : ChangeSpec := { name := "fnExactOfHead", fn := fun _ => fun
  | [d] => { results := [.lit (.bool false)], args := [d] }
  | _ => none }
def FnExactOfHeadWrongFalsely : Prop := fnExactOfHeadRow.holds Try.pinned (OpenSpec.ofChange fnExactOfHeadWrong)

/- THE SECOND FORM. 'bulk': how many values and letters a reading holds, each counted each time it is reached (what is shared counts as often as it is met; a slice's spare places count too). A statement '..UptoSaid' is the law's where the arguments, and the package variables that the reading takes, are together of bulk at most 1048576: NARROWER than '..Said'. Prove '..Said' where nothing that the law and all that it calls make is longer than what came in: it says more and counts as full. Else prove '..UptoSaid'. A law counts once. -/
mutual
def uptoBulk {H : Type} : DataW H → Nat
  | .lit (.string bytes) => bytes.length + 1
  | .lit _ => 1
  | .nil => 1
  | .ptr d => uptoBulk d + 1
  | .slice elems spare => uptoBulkAll elems + uptoBulkAll spare + 1
  | .agg parts => uptoBulkAll parts + 1
  | .iface _ d => uptoBulk d + 1
  | .map entries => uptoBulkEntries entries + 1
  | .held _ => 1
def uptoBulkAll {H : Type} : List (DataW H) → Nat
  | [] => 0
  | d :: r => uptoBulk d + uptoBulkAll r
def uptoBulkEntries {H : Type} : List (Lit × DataW H) → Nat
  | [] => 0
  | x :: r => uptoBulkEntry x + uptoBulkEntries r
def uptoBulkEntry {H : Type} : Lit × DataW H → Nat
  | (.string bytes, d) => bytes.length + uptoBulk d + 1
  | (_, d) => uptoBulk d + 1
 end
def uptoSmall : (H : Type) → List (DataW H) → Bool := fun _ ds => decide (uptoBulkAll ds ≤ 1048576)
def OpenSpec.upto (s : _root_.Go.ChangeSpec) : _root_.Go.OpenSpec := { _root_.Go.OpenSpec.ofChange s with cond := some uptoSmall }

/-- 'laws.FnBlock', WHERE WHAT IT READS IS OF BULK AT MOST 1048576: true; the input reads as it did. -/
def fnBlockUptoRow : OpenClaim := { program := "ytkhciaoemhfhbaa", sum := "37e6d75008458c93a91bcb0f7e5c2d678fbd807e7c088298f187377d7024d7c4", func := "loop.example/g00790/laws.FnBlock", spec := "fnBlock", recurses := true, apart := false, narrowed := true }
def FnBlockUptoSaid : Prop := fnBlockUptoRow.holds Try.pinned (OpenSpec.upto fnBlockSpec)

/-- 'laws.FnExactLightNew', WHERE WHAT IT READS IS OF BULK AT MOST 1048576: true; the input reads as it did. -/
def fnExactLightNewUptoRow : OpenClaim := { program := "ytkhciaoemhfhbaa", sum := "37e6d75008458c93a91bcb0f7e5c2d678fbd807e7c088298f187377d7024d7c4", func := "loop.example/g00790/laws.FnExactLightNew", spec := "fnExactLightNew", apart := false, narrowed := true }
def FnExactLightNewUptoSaid : Prop := fnExactLightNewUptoRow.holds Try.pinned (OpenSpec.upto fnExactLightNewSpec)

/-- 'laws.FnExactCommits', WHERE WHAT IT READS IS OF BULK AT MOST 1048576: true; the input reads as it did. -/
def fnExactCommitsUptoRow : OpenClaim := { program := "ytkhciaoemhfhbaa", sum := "37e6d75008458c93a91bcb0f7e5c2d678fbd807e7c088298f187377d7024d7c4", func := "loop.example/g00790/laws.FnExactCommits", spec := "fnExactCommits", apart := false, narrowed := true }
def FnExactCommitsUptoSaid : Prop := fnExactCommitsUptoRow.holds Try.pinned (OpenSpec.upto fnExactCommitsSpec)

/-- 'laws.FnExactOfIncl', WHERE WHAT IT READS IS OF BULK AT MOST 1048576: true; the input reads as it did. -/
def fnExactOfInclUptoRow : OpenClaim := { program := "ytkhciaoemhfhbaa", sum := "37e6d75008458c93a91bcb0f7e5c2d678fbd807e7c088298f187377d7024d7c4", func := "loop.example/g00790/laws.FnExactOfIncl", spec := "fnExactOfIncl", apart := false, narrowed := true }
def FnExactOfInclUptoSaid : Prop := fnExactOfInclUptoRow.holds Try.pinned (OpenSpec.upto fnExactOfInclSpec)

/-- 'laws.FnExactOfTc', WHERE WHAT IT READS IS OF BULK AT MOST 1048576: true; the input reads as it did. -/
def fnExactOfTcUptoRow : OpenClaim := { program := "ytkhciaoemhfhbaa", sum := "37e6d75008458c93a91bcb0f7e5c2d678fbd807e7c088298f187377d7024d7c4", func := "loop.example/g00790/laws.FnExactOfTc", spec := "fnExactOfTc", apart := false, narrowed := true }
def FnExactOfTcUptoSaid : Prop := fnExactOfTcUptoRow.holds Try.pinned (OpenSpec.upto fnExactOfTcSpec)

/-- 'laws.FnExactOfQc', WHERE WHAT IT READS IS OF BULK AT MOST 1048576: true; the input reads as it did. -/
def fnExactOfQcUptoRow : OpenClaim := { program := "ytkhciaoemhfhbaa", sum := "37e6d75008458c93a91bcb0f7e5c2d678fbd807e7c088298f187377d7024d7c4", func := "loop.example/g00790/laws.FnExactOfQc", spec := "fnExactOfQc", apart := false, narrowed := true }
def FnExactOfQcUptoSaid : Prop := fnExactOfQcUptoRow.holds Try.pinned (OpenSpec.upto fnExactOfQcSpec)

/-- 'laws.FnExactOfHead', WHERE WHAT IT READS IS OF BULK AT MOST 1048576: true; the input reads as it did. -/
def fnExactOfHeadUptoRow : OpenClaim := { program := "ytkhciaoemhfhbaa", sum := "37e6d75008458c93a91bcb0f7e5c2d678fbd807e7c088298f187377d7024d7c4", func := "loop.example/g00790/laws.FnExactOfHead", spec := "fnExactOfHead", apart := false, narrowed := true }
def FnExactOfHeadUptoSaid : Prop := fnExactOfHeadUptoRow.holds Try.pinned (OpenSpec.upto fnExactOfHeadSpec)

end Rows
end Go.Proofs.Ytkhciaoemhfhbaa
