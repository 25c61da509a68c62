/-
  No cell of these rows narrows 'for every input' (looked for: loops, veiled, ifaces, maps, wideKeys, modest, calm, conditions, laid).
  DERIVED. THE GIVEN ROWS OF THIS SEAT. 9 by the template 'for every input the law returns true; each argument reads behind the call as it read before'; 0 by the template 'total and deterministic' (their statements: YtaicdpancmfhnaaTotals.lean).
  GIVEN WITH THE SEED: the statements are not yours to turn. If you find one false, say at which input.
  Laid BY PROGRAM, IN A SANDBOX (cutbox-rows.mjs): the forced cells as the released guide's own fill.sh prints them over the translation 4770e2356810032f… (all of the seat's roots in one cut). By AI agents, Wed Nov 11 2026. No macro, syntax, notation, axiom, sorry.
-/
import Derived.Test.YtaicdpancmfhnaaChecked
import GoSem.Claim
import GoSem.ClaimJoined
import GoSem.ClaimMapViews
import Derived.JoinedTies
import Derived.KernelRfl
namespace Go.Proofs.Ytaicdpancmfhnaa
/- THE CELL 'sum', in the pinned program and in every row, IS THE sha256 OF THE DUMP (.gsa) THAT YtaicdpancmfhnaaProg.lean LOADS. Nothing in Lean hashes anything: it is a label: what it is worth is what the hold of that sum in a sandbox is worth. -/
noncomputable def Try.pinned : Pinned := { name := "ytaicdpancmfhnaa", sum := "4770e2356810032fccf60e2e3ed50c366bdd5b45572d09cd9ca269e2fe054ef7", checked := Try.checked }
namespace Rows
def none {H : Type} : Left H := { results := [], args := [] }

/-- 'laws.FnExactOfBlock': WHATEVER THE INPUT: true; the input reads as it did. -/
def fnExactOfBlockSpec : ChangeSpec := { name := "fnExactOfBlock", fn := fun _ => fun
  | [d] => { results := [.lit (.bool true)], args := [d] }
  | _ => none }
def fnExactOfBlockRow : OpenClaim := { program := "ytaicdpancmfhnaa", sum := "4770e2356810032fccf60e2e3ed50c366bdd5b45572d09cd9ca269e2fe054ef7", func := "loop.example/g00790/laws.FnExactOfBlock", spec := "fnExactOfBlock", apart := false }
def FnExactOfBlockSaid : Prop := fnExactOfBlockRow.holds Try.pinned (OpenSpec.ofChange fnExactOfBlockSpec)

/-- ITS FALSE NEIGHBOUR: 'it returns false'. Refute it at one input. -/
def fnExactOfBlockWrong : ChangeSpec := { name := "fnExactOfBlock", fn := fun _ => fun
  | [d] => { results := [.lit (.bool false)], args := [d] }
  | _ => none }
def FnExactOfBlockWrongFalsely : Prop := fnExactOfBlockRow.holds Try.pinned (OpenSpec.ofChange fnExactOfBlockWrong)

/-- 'laws.FnExactBlockOf': WHATEVER THE INPUT: true; the input reads as it did. -/
def fnExactBlockOfSpec : ChangeSpec := { name := "fnExactBlockOf", fn := fun _ => fun
  | [d1, d2, d3] => { results := [.lit (.bool true)], args := [d1, d2, d3] }
  | _ => none }
def fnExactBlockOfRow : OpenClaim := { program := "ytaicdpancmfhnaa", sum := "4770e2356810032fccf60e2e3ed50c366bdd5b45572d09cd9ca269e2fe054ef7", func := "loop.example/g00790/laws.FnExactBlockOf", spec := "fnExactBlockOf", recurses := true, apart := false }
def FnExactBlockOfSaid : Prop := fnExactBlockOfRow.holds Try.pinned (OpenSpec.ofChange fnExactBlockOfSpec)

/-- ITS FALSE NEIGHBOUR: 'it returns false'. Refute it at one input. -/
def fnExactBlockOfWrong : ChangeSpec := { name := "fnExactBlockOf", fn := fun _ => fun
  | [d1, d2, d3] => { results := [.lit (.bool false)], args := [d1, d2, d3] }
  | _ => none }
def FnExactBlockOfWrongFalsely : Prop := fnExactBlockOfRow.holds Try.pinned (OpenSpec.ofChange fnExactBlockOfWrong)

/-- 'laws.FnExactOfProof': WHATEVER THE INPUT: true; the input reads as it did. -/
def fnExactOfProofSpec : ChangeSpec := { name := "fnExactOfProof", fn := fun _ => fun
  | [d] => { results := [.lit (.bool true)], args := [d] }
  | _ => none }
def fnExactOfProofRow : OpenClaim := { program := "ytaicdpancmfhnaa", sum := "4770e2356810032fccf60e2e3ed50c366bdd5b45572d09cd9ca269e2fe054ef7", func := "loop.example/g00790/laws.FnExactOfProof", spec := "fnExactOfProof", apart := false }
def FnExactOfProofSaid : Prop := fnExactOfProofRow.holds Try.pinned (OpenSpec.ofChange fnExactOfProofSpec)

/-- ITS FALSE NEIGHBOUR: 'it returns false'. Refute it at one input. -/
def fnExactOfProofWrong : ChangeSpec := { name := "fnExactOfProof", fn := fun _ => fun
  | [d] => { results := [.lit (.bool false)], args := [d] }
  | _ => none }
def FnExactOfProofWrongFalsely : Prop := fnExactOfProofRow.holds Try.pinned (OpenSpec.ofChange fnExactOfProofWrong)

/-- 'laws.FnExactDeskOk': WHATEVER THE INPUT: true; the input reads as it did. -/
def fnExactDeskOkSpec : ChangeSpec := { name := "fnExactDeskOk", fn := fun _ => fun
  | [d] => { results := [.lit (.bool true)], args := [d] }
  | _ => none }
def fnExactDeskOkRow : OpenClaim := { program := "ytaicdpancmfhnaa", sum := "4770e2356810032fccf60e2e3ed50c366bdd5b45572d09cd9ca269e2fe054ef7", func := "loop.example/g00790/laws.FnExactDeskOk", spec := "fnExactDeskOk", apart := false }
def FnExactDeskOkSaid : Prop := fnExactDeskOkRow.holds Try.pinned (OpenSpec.ofChange fnExactDeskOkSpec)

/-- ITS FALSE NEIGHBOUR: 'it returns false'. Refute it at one input. -/
def fnExactDeskOkWrong : ChangeSpec := { name := "fnExactDeskOk", fn := fun _ => fun
  | [d] => { results := [.lit (.bool false)], args := [d] }
  | _ => none }
def FnExactDeskOkWrongFalsely : Prop := fnExactDeskOkRow.holds Try.pinned (OpenSpec.ofChange fnExactDeskOkWrong)

/-- 'laws.FnExactStands': WHATEVER THE INPUT: true; the input reads as it did. -/
def fnExactStandsSpec : ChangeSpec := { name := "fnExactStands", fn := fun _ => fun
  | [d1, d2, d3] => { results := [.lit (.bool true)], args := [d1, d2, d3] }
  | _ => none }
def fnExactStandsRow : OpenClaim := { program := "ytaicdpancmfhnaa", sum := "4770e2356810032fccf60e2e3ed50c366bdd5b45572d09cd9ca269e2fe054ef7", func := "loop.example/g00790/laws.FnExactStands", spec := "fnExactStands", apart := false }
def FnExactStandsSaid : Prop := fnExactStandsRow.holds Try.pinned (OpenSpec.ofChange fnExactStandsSpec)

/-- ITS FALSE NEIGHBOUR: 'it returns false'. Refute it at one input. -/
def fnExactStandsWrong : ChangeSpec := { name := "fnExactStands", fn := fun _ => fun
  | [d1, d2, d3] => { results := [.lit (.bool false)], args := [d1, d2, d3] }
  | _ => none }
def FnExactStandsWrongFalsely : Prop := fnExactStandsRow.holds Try.pinned (OpenSpec.ofChange fnExactStandsWrong)

/-- 'laws.FnExactClashing': WHATEVER THE INPUT: true; the input reads as it did. -/
def fnExactClashingSpec : ChangeSpec := { name := "fnExactClashing", fn := fun _ => fun
  | [d1, d2, d3] => { results := [.lit (.bool true)], args := [d1, d2, d3] }
  | _ => none }
def fnExactClashingRow : OpenClaim := { program := "ytaicdpancmfhnaa", sum := "4770e2356810032fccf60e2e3ed50c366bdd5b45572d09cd9ca269e2fe054ef7", func := "loop.example/g00790/laws.FnExactClashing", spec := "fnExactClashing", apart := false }
def FnExactClashingSaid : Prop := fnExactClashingRow.holds Try.pinned (OpenSpec.ofChange fnExactClashingSpec)

/-- ITS FALSE NEIGHBOUR: 'it returns false'. Refute it at one input. -/
def fnExactClashingWrong : ChangeSpec := { name := "fnExactClashing", fn := fun _ => fun
  | [d1, d2, d3] => { results := [.lit (.bool false)], args := [d1, d2, d3] }
  | _ => none }
def FnExactClashingWrongFalsely : Prop := fnExactClashingRow.holds Try.pinned (OpenSpec.ofChange fnExactClashingWrong)

/-- 'laws.FnExactFindHead': WHATEVER THE INPUT: true; the input reads as it did. -/
def fnExactFindHeadSpec : ChangeSpec := { name := "fnExactFindHead", fn := fun _ => fun
  | [d1, d2] => { results := [.lit (.bool true)], args := [d1, d2] }
  | _ => none }
def fnExactFindHeadRow : OpenClaim := { program := "ytaicdpancmfhnaa", sum := "4770e2356810032fccf60e2e3ed50c366bdd5b45572d09cd9ca269e2fe054ef7", func := "loop.example/g00790/laws.FnExactFindHead", spec := "fnExactFindHead", apart := false }
def FnExactFindHeadSaid : Prop := fnExactFindHeadRow.holds Try.pinned (OpenSpec.ofChange fnExactFindHeadSpec)

/-- ITS FALSE NEIGHBOUR: 'it returns false'. Refute it at one input. -/
def fnExactFindHeadWrong : ChangeSpec := { name := "fnExactFindHead", fn := fun _ => fun
  | [d1, d2] => { results := [.lit (.bool false)], args := [d1, d2] }
  | _ => none }
def FnExactFindHeadWrongFalsely : Prop := fnExactFindHeadRow.holds Try.pinned (OpenSpec.ofChange fnExactFindHeadWrong)

/-- 'laws.FnExactPlant': WHATEVER THE INPUT: true; the input reads as it did. -/
def fnExactPlantSpec : ChangeSpec := { name := "fnExactPlant", fn := fun _ => fun
  | [d1, d2] => { results := [.lit (.bool true)], args := [d1, d2] }
  | _ => none }
def fnExactPlantRow : OpenClaim := { program := "ytaicdpancmfhnaa", sum := "4770e2356810032fccf60e2e3ed50c366bdd5b45572d09cd9ca269e2fe054ef7", func := "loop.example/g00790/laws.FnExactPlant", spec := "fnExactPlant", apart := false }
def FnExactPlantSaid : Prop := fnExactPlantRow.holds Try.pinned (OpenSpec.ofChange fnExactPlantSpec)

/-- ITS FALSE NEIGHBOUR: 'it returns false'. Refute it at one input. -/
def fnExactPlantWrong : ChangeSpec := { name := "fnExactPlant", fn := fun _ => fun
  | [d1, d2] => { results := [.lit (.bool false)], args := [d1, d2] }
  | _ => none }
def FnExactPlantWrongFalsely : Prop := fnExactPlantRow.holds Try.pinned (OpenSpec.ofChange fnExactPlantWrong)

/-- 'laws.FnExactUpward': WHATEVER THE INPUT: true; the input reads as it did. -/
def fnExactUpwardSpec : ChangeSpec := { name := "fnExactUpward", fn := fun _ => fun
  | [d1, d2] => { results := [.lit (.bool true)], args := [d1, d2] }
  | _ => none }
def fnExactUpwardRow : OpenClaim := { program := "ytaicdpancmfhnaa", sum := "4770e2356810032fccf60e2e3ed50c366bdd5b45572d09cd9ca269e2fe054ef7", func := "loop.example/g00790/laws.FnExactUpward", spec := "fnExactUpward", apart := false }
def FnExactUpwardSaid : Prop := fnExactUpwardRow.holds Try.pinned (OpenSpec.ofChange fnExactUpwardSpec)

/-- ITS FALSE NEIGHBOUR: 'it returns false'. Refute it at one input. -/
def fnExactUpwardWrong : ChangeSpec := { name := "fnExactUpward", fn := fun _ => fun
  | [d1, d2] => { results := [.lit (.bool false)], args := [d1, d2] }
  | _ => none }
def FnExactUpwardWrongFalsely : Prop := fnExactUpwardRow.holds Try.pinned (OpenSpec.ofChange fnExactUpwardWrong)

/- THE SECOND FORM. 'bulk': how many values and letters a reading holds, each counted each time it is reached (what is shared counts as often as it is met; a slice's spare places count too). A statement '..UptoSaid' is the law's where the arguments, and the package variables that the reading takes, are together of bulk at most 1048576: NARROWER than '..Said'. Prove '..Said' where nothing that the law and all that it calls make is longer than what came in: it says more and counts as full. Else prove '..UptoSaid'. A law counts once. -/
mutual
def uptoBulk {H : Type} : DataW H → Nat
  | .lit (.string bytes) => bytes.length + 1
  | .lit _ => 1
  | .nil => 1
  | .ptr d => uptoBulk d + 1
  | .slice elems spare => uptoBulkAll elems + uptoBulkAll spare + 1
  | .agg parts => uptoBulkAll parts + 1
  | .iface _ d => uptoBulk d + 1
  | .map entries => uptoBulkEntries entries + 1
  | .held _ => 1
def uptoBulkAll {H : Type} : List (DataW H) → Nat
  | [] => 0
  | d :: r => uptoBulk d + uptoBulkAll r
def uptoBulkEntries {H : Type} : List (Lit × DataW H) → Nat
  | [] => 0
  | x :: r => uptoBulkEntry x + uptoBulkEntries r
def uptoBulkEntry {H : Type} : Lit × DataW H → Nat
  | (.string bytes, d) => bytes.length + uptoBulk d + 1
  | (_, d) => uptoBulk d + 1
 end
def uptoSmall : (H : Type) → List (DataW H) → Bool := fun _ ds => decide (uptoBulkAll ds ≤ 1048576)
def OpenSpec.upto (s : _root_.Go.ChangeSpec) : _root_.Go.OpenSpec := { _root_.Go.OpenSpec.ofChange s with cond := some uptoSmall }

/-- 'laws.FnExactOfBlock', WHERE WHAT IT READS IS OF BULK AT MOST 1048576: true; the input reads as it did. -/
def fnExactOfBlockUptoRow : OpenClaim := { program := "ytaicdpancmfhnaa", sum := "4770e2356810032fccf60e2e3ed50c366bdd5b45572d09cd9ca269e2fe054ef7", func := "loop.example/g00790/laws.FnExactOfBlock", spec := "fnExactOfBlock", apart := false, narrowed := true }
def FnExactOfBlockUptoSaid : Prop := fnExactOfBlockUptoRow.holds Try.pinned (OpenSpec.upto fnExactOfBlockSpec)

/-- 'laws.FnExactBlockOf', WHERE WHAT IT READS IS OF BULK AT MOST 1048576: true; the input reads as it did. -/
def fnExactBlockOfUptoRow : OpenClaim := { program := "ytaicdpancmfhnaa", sum := "4770e2356810032fccf60e2e3ed50c366bdd5b45572d09cd9ca269e2fe054ef7", func := "loop.example/g00790/laws.FnExactBlockOf", spec := "fnExactBlockOf", recurses := true, apart := false, narrowed := true }
def FnExactBlockOfUptoSaid : Prop := fnExactBlockOfUptoRow.holds Try.pinned (OpenSpec.upto fnExactBlockOfSpec)

/-- 'laws.FnExactOfProof', WHERE WHAT IT READS IS OF BULK AT MOST 1048576: true; the input reads as it did. -/
def fnExactOfProofUptoRow : OpenClaim := { program := "ytaicdpancmfhnaa", sum := "4770e2356810032fccf60e2e3ed50c366bdd5b45572d09cd9ca269e2fe054ef7", func := "loop.example/g00790/laws.FnExactOfProof", spec := "fnExactOfProof", apart := false, narrowed := true }
def FnExactOfProofUptoSaid : Prop := fnExactOfProofUptoRow.holds Try.pinned (OpenSpec.upto fnExactOfProofSpec)

/-- 'laws.FnExactDeskOk', WHERE WHAT IT READS IS OF BULK AT MOST 1048576: true; the input reads as it did. -/
def fnExactDeskOkUptoRow : OpenClaim := { program := "ytaicdpancmfhnaa", sum := "4770e2356810032fccf60e2e3ed50c366bdd5b45572d09cd9ca269e2fe054ef7", func := "loop.example/g00790/laws.FnExactDeskOk", spec := "fnExactDeskOk", apart := false, narrowed := true }
def FnExactDeskOkUptoSaid : Prop := fnExactDeskOkUptoRow.holds Try.pinned (OpenSpec.upto fnExactDeskOkSpec)

/-- 'laws.FnExactStands', WHERE WHAT IT READS IS OF BULK AT MOST 1048576: true; the input reads as it did. -/
def fnExactStandsUptoRow : OpenClaim := { program := "ytaicdpancmfhnaa", sum := "4770e2356810032fccf60e2e3ed50c366bdd5b45572d09cd9ca269e2fe054ef7", func := "loop.example/g00790/laws.FnExactStands", spec := "fnExactStands", apart := false, narrowed := true }
def FnExactStandsUptoSaid : Prop := fnExactStandsUptoRow.holds Try.pinned (OpenSpec.upto fnExactStandsSpec)

/-- 'laws.FnExactClashing', WHERE WHAT IT READS IS OF BULK AT MOST 1048576: true; the input reads as it did. -/
def fnExactClashingUptoRow : OpenClaim := { program := "ytaicdpancmfhnaa", sum := "4770e2356810032fccf60e2e3ed50c366bdd5b45572d09cd9ca269e2fe054ef7", func := "loop.example/g00790/laws.FnExactClashing", spec := "fnExactClashing", apart := false, narrowed := true }
def FnExactClashingUptoSaid : Prop := fnExactClashingUptoRow.holds Try.pinned (OpenSpec.upto fnExactClashingSpec)

/-- 'laws.FnExactFindHead', WHERE WHAT IT READS IS OF BULK AT MOST 1048576: true; the input reads as it did. -/
def fnExactFindHeadUptoRow : OpenClaim := { program := "ytaicdpancmfhnaa", sum := "4770e2356810032fccf60e2e3ed50c366bdd5b45572d09cd9ca269e2fe054ef7", func := "loop.example/g00790/laws.FnExactFindHead", spec := "fnExactFindHead", apart := false, narrowed := true }
def FnExactFindHeadUptoSaid : Prop := fnExactFindHeadUptoRow.holds Try.pinned (OpenSpec.upto fnExactFindHeadSpec)

/-- 'laws.FnExactPlant', WHERE WHAT IT READS IS OF BULK AT MOST 1048576: true; the input reads as it did. -/
def fnExactPlantUptoRow : OpenClaim := { program := "ytaicdpancmfhnaa", sum := "4770e2356810032fccf60e2e3ed50c366bdd5b45572d09cd9ca269e2fe054ef7", func := "loop.example/g00790/laws.FnExactPlant", spec := "fnExactPlant", apart := false, narrowed := true }
def FnExactPlantUptoSaid : Prop := fnExactPlantUptoRow.holds Try.pinned (OpenSpec.upto fnExactPlantSpec)

/-- 'laws.FnExactUpward', WHERE WHAT IT READS IS OF BULK AT MOST 1048576: true; the input reads as it did. -/
def fnExactUpwardUptoRow : OpenClaim := { program := "ytaicdpancmfhnaa", sum := "4770e2356810032fccf60e2e3ed50c366bdd5b45572d09cd9ca269e2fe054ef7", func := "loop.example/g00790/laws.FnExactUpward", spec := "fnExactUpward", apart := false, narrowed := true }
def FnExactUpwardUptoSaid : Prop := fnExactUpwardUptoRow.holds Try.pinned (OpenSpec.upto fnExactUpwardSpec)

end Rows
end Go.Proofs.Ytaicdpancmfhnaa
