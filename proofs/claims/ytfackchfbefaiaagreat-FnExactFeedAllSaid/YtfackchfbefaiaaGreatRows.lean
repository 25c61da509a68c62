/-
  No cell of these rows narrows 'for every input' (looked for: loops, veiled, ifaces, maps, wideKeys, modest, calm, conditions, laid).
  DERIVED. THE GIVEN ROWS OF THIS SEAT. 4 by the template 'for every input the law returns true; each argument reads behind the call as it read before'; 0 by the template 'total and deterministic' (their statements: YtfackchfbefaiaaGreatTotals.lean).
  GIVEN WITH THE SEED: the statements are not yours to turn. If you find one false, say at which input.
  Laid BY PROGRAM, IN A SANDBOX (cutbox-rows.mjs): the forced cells as the released guide's own fill.sh prints them over the translation 0eb99eff2c04e87d… (all of the seat's roots in one cut). By AI agents, Wed Nov 11 2026. No macro, syntax, notation, axiom, sorry.
-/
import Derived.Test.YtfackchfbefaiaaGreatChecked
import GoSem.Claim
import GoSem.ClaimJoined
import GoSem.ClaimMapViews
import Derived.JoinedTies
import Derived.KernelRfl
namespace Go.Proofs.YtfackchfbefaiaaGreat
/- THE CELL 'sum', in the pinned program and in every row, IS THE sha256 OF THE DUMP (.gsa) THAT YtfackchfbefaiaaGreatProg.lean LOADS. Nothing in Lean hashes anything: it is a label: what it is worth is what the hold of that sum in a sandbox is worth. -/
noncomputable def Tryz.pinned : Pinned := { name := "ytfackchfbefaiaagreat", sum := "0eb99eff2c04e87de9a9e4407b85e3a3b63d1b5b479ba4cb4a38bc153583705f", checked := Tryz.checked }
namespace Rows
def none {H : Type} : Left H := { results := [], args := [] }

/-- 'laws.FnExactFeed': WHATEVER THE INPUT: true; the input reads as it did. -/
def fnExactFeedSpec : ChangeSpec := { name := "fnExactFeed", fn := fun _ => fun
  | [d1, d2, d3] => { results := [.lit (.bool true)], args := [d1, d2, d3] }
  | _ => none }
def fnExactFeedRow : OpenClaim := { program := "ytfackchfbefaiaagreat", sum := "0eb99eff2c04e87de9a9e4407b85e3a3b63d1b5b479ba4cb4a38bc153583705f", func := "loop.example/g00790/laws.FnExactFeed", spec := "fnExactFeed", unfollowed := true, recurses := true, apart := false }
def FnExactFeedSaid : Prop := fnExactFeedRow.holds Tryz.pinned (OpenSpec.ofChange fnExactFeedSpec)

/-- ITS FALSE NEIGHBOUR: 'it returns false'. Refute it at one input. -/
def fnExactFeedWrong : ChangeSpec := { name := "fnExactFeed", fn := fun _ => fun
  | [d1, d2, d3] => { results := [.lit (.bool false)], args := [d1, d2, d3] }
  | _ => none }
def FnExactFeedWrongFalsely : Prop := fnExactFeedRow.holds Tryz.pinned (OpenSpec.ofChange fnExactFeedWrong)

/-- 'laws.FnExactFrames': WHATEVER THE INPUT: true; the input reads as it did. -/
def fnExactFramesSpec : ChangeSpec := { name := "fnExactFrames", fn := fun _ => fun
  | [d1, d2] => { results := [.lit (.bool true)], args := [d1, d2] }
  | _ => none }
def fnExactFramesRow : OpenClaim := { program := "ytfackchfbefaiaagreat", sum := "0eb99eff2c04e87de9a9e4407b85e3a3b63d1b5b479ba4cb4a38bc153583705f", func := "loop.example/g00790/laws.FnExactFrames", spec := "fnExactFrames", recurses := true, apart := false }
def FnExactFramesSaid : Prop := fnExactFramesRow.holds Tryz.pinned (OpenSpec.ofChange fnExactFramesSpec)

/-- ITS FALSE NEIGHBOUR: 'it returns false'. Refute it at one input. -/
def fnExactFramesWrong : ChangeSpec := { name := "fnExactFrames", fn := fun _ => fun
  | [d1, d2] => { results := [.lit (.bool false)], args := [d1, d2] }
  | _ => none }
def FnExactFramesWrongFalsely : Prop := fnExactFramesRow.holds Tryz.pinned (OpenSpec.ofChange fnExactFramesWrong)

/-- 'laws.FnExactFeedAll': WHATEVER THE INPUT: true; the input reads as it did. -/
def fnExactFeedAllSpec : ChangeSpec := { name := "fnExactFeedAll", fn := fun _ => fun
  | [d1, d2, d3] => { results := [.lit (.bool true)], args := [d1, d2, d3] }
  | _ => none }
def fnExactFeedAllRow : OpenClaim := { program := "ytfackchfbefaiaagreat", sum := "0eb99eff2c04e87de9a9e4407b85e3a3b63d1b5b479ba4cb4a38bc153583705f", func := "loop.example/g00790/laws.FnExactFeedAll", spec := "fnExactFeedAll", unfollowed := true, recurses := true, apart := false }
def FnExactFeedAllSaid : Prop := fnExactFeedAllRow.holds Tryz.pinned (OpenSpec.ofChange fnExactFeedAllSpec)

/-- ITS FALSE NEIGHBOUR: 'it returns false'. Refute it at one input. -/
def fnExactFeedAllWrong : ChangeSpec := { name := "fnExactFeedAll", fn := fun _ => fun
  | [d1, d2, d3] => { results := [.lit (.bool false)], args := [d1, d2, d3] }
  | _ => none }
def FnExactFeedAllWrongFalsely : Prop := fnExactFeedAllRow.holds Tryz.pinned (OpenSpec.ofChange fnExactFeedAllWrong)

/-- 'laws.FnDamage': WHATEVER THE INPUT: true; the input reads as it did. -/
def fnDamageSpec : ChangeSpec := { name := "fnDamage", fn := fun _ => fun
  | [d] => { results := [.lit (.bool true)], args := [d] }
  | _ => none }
def fnDamageRow : OpenClaim := { program := "ytfackchfbefaiaagreat", sum := "0eb99eff2c04e87de9a9e4407b85e3a3b63d1b5b479ba4cb4a38bc153583705f", func := "loop.example/g00790/laws.FnDamage", spec := "fnDamage", unfollowed := true, recurses := true, apart := false }
def FnDamageSaid : Prop := fnDamageRow.holds Tryz.pinned (OpenSpec.ofChange fnDamageSpec)

/-- ITS FALSE NEIGHBOUR: 'it returns false'. Refute it at one input. -/
def fnDamageWrong : ChangeSpec := { name := "fnDamage", fn := fun _ => fun
  | [d] => { results := [.lit (.bool false)], args := [d] }
  | _ => none }
def FnDamageWrongFalsely : Prop := fnDamageRow.holds Tryz.pinned (OpenSpec.ofChange fnDamageWrong)

/- THE SECOND FORM. 'bulk': how many values and letters a reading holds, each counted each time it is reached (what is shared counts as often as it is met; a slice's spare places count too). A statement '..UptoSaid' is the law's where the arguments, and the package variables that the reading takes, are together of bulk at most 1048576: NARROWER than '..Said'. Prove '..Said' where nothing that the law and all that it calls make is longer than what came in: it says more and counts as full. Else prove '..UptoSaid'. A law counts once. -/
mutual
def uptoBulk {H : Type} : DataW H → Nat
  | .lit (.string bytes) => bytes.length + 1
  | .lit _ => 1
  | .nil => 1
  | .ptr d => uptoBulk d + 1
  | .slice elems spare => uptoBulkAll elems + uptoBulkAll spare + 1
  | .agg parts => uptoBulkAll parts + 1
  | .iface _ d => uptoBulk d + 1
  | .map entries => uptoBulkEntries entries + 1
  | .held _ => 1
def uptoBulkAll {H : Type} : List (DataW H) → Nat
  | [] => 0
  | d :: r => uptoBulk d + uptoBulkAll r
def uptoBulkEntries {H : Type} : List (Lit × DataW H) → Nat
  | [] => 0
  | x :: r => uptoBulkEntry x + uptoBulkEntries r
def uptoBulkEntry {H : Type} : Lit × DataW H → Nat
  | (.string bytes, d) => bytes.length + uptoBulk d + 1
  | (_, d) => uptoBulk d + 1
 end
def uptoSmall : (H : Type) → List (DataW H) → Bool := fun _ ds => decide (uptoBulkAll ds ≤ 1048576)
def OpenSpec.upto (s : _root_.Go.ChangeSpec) : _root_.Go.OpenSpec := { _root_.Go.OpenSpec.ofChange s with cond := some uptoSmall }

/-- 'laws.FnExactFeed', WHERE WHAT IT READS IS OF BULK AT MOST 1048576: true; the input reads as it did. -/
def fnExactFeedUptoRow : OpenClaim := { program := "ytfackchfbefaiaagreat", sum := "0eb99eff2c04e87de9a9e4407b85e3a3b63d1b5b479ba4cb4a38bc153583705f", func := "loop.example/g00790/laws.FnExactFeed", spec := "fnExactFeed", unfollowed := true, recurses := true, apart := false, narrowed := true }
def FnExactFeedUptoSaid : Prop := fnExactFeedUptoRow.holds Tryz.pinned (OpenSpec.upto fnExactFeedSpec)

/-- 'laws.FnExactFrames', WHERE WHAT IT READS IS OF BULK AT MOST 1048576: true; the input reads as it did. -/
def fnExactFramesUptoRow : OpenClaim := { program := "ytfackchfbefaiaagreat", sum := "0eb99eff2c04e87de9a9e4407b85e3a3b63d1b5b479ba4cb4a38bc153583705f", func := "loop.example/g00790/laws.FnExactFrames", spec := "fnExactFrames", recurses := true, apart := false, narrowed := true }
def FnExactFramesUptoSaid : Prop := fnExactFramesUptoRow.holds Tryz.pinned (OpenSpec.upto fnExactFramesSpec)

/-- 'laws.FnExactFeedAll', WHERE WHAT IT READS IS OF BULK AT MOST 1048576: true; the input reads as it did. -/
def fnExactFeedAllUptoRow : OpenClaim := { program := "ytfackchfbefaiaagreat", sum := "0eb99eff2c04e87de9a9e4407b85e3a3b63d1b5b479ba4cb4a38bc153583705f", func := "loop.example/g00790/laws.FnExactFeedAll", spec := "fnExactFeedAll", unfollowed := true, recurses := true, apart := false, narrowed := true }
def FnExactFeedAllUptoSaid : Prop := fnExactFeedAllUptoRow.holds Tryz.pinned (OpenSpec.upto fnExactFeedAllSpec)

/-- 'laws.FnDamage', WHERE WHAT IT READS IS OF BULK AT MOST 1048576: true; the input reads as it did. -/
def fnDamageUptoRow : OpenClaim := { program := "ytfackchfbefaiaagreat", sum := "0eb99eff2c04e87de9a9e4407b85e3a3b63d1b5b479ba4cb4a38bc153583705f", func := "loop.example/g00790/laws.FnDamage", spec := "fnDamage", unfollowed := true, recurses := true, apart := false, narrowed := true }
def FnDamageUptoSaid : Prop := fnDamageUptoRow.holds Tryz.pinned (OpenSpec.upto fnDamageSpec)

end Rows
end Go.Proofs.YtfackchfbefaiaaGreat
