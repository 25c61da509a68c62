/-
  No cell of these rows narrows 'for every input' (looked for: loops, veiled, ifaces, maps, wideKeys, modest, calm, conditions, laid).
  DERIVED. THE GIVEN ROWS OF THIS SEAT. 11 by the template 'for every input the law returns true; each argument reads behind the call as it read before'; 0 by the template 'total and deterministic' (their statements: YtanfobggenpcaaaGreatTotals.lean).
  GIVEN WITH THE SEED: the statements are not yours to turn. If you find one false, say at which input.
  Laid BY PROGRAM, IN A SANDBOX (cutbox-rows.mjs): the forced cells as the released guide's own fill.sh prints them over the translation 7627483f4525f03e… (all of the seat's roots in one cut). By AI agents, Wed Nov 11 2026. No macro, syntax, notation, axiom, sorry.
-/
import Derived.Test.YtanfobggenpcaaaGreatChecked
import GoSem.Claim
import GoSem.ClaimJoined
import GoSem.ClaimMapViews
import Derived.JoinedTies
import Derived.KernelRfl
namespace Go.Proofs.YtanfobggenpcaaaGreat
/- THE CELL 'sum', in the pinned program and in every row, IS THE sha256 OF THE DUMP (.gsa) THAT YtanfobggenpcaaaGreatProg.lean LOADS. Nothing in Lean hashes anything: it is a label: what it is worth is what the hold of that sum in a sandbox is worth. -/
noncomputable def Tryz.pinned : Pinned := { name := "ytanfobggenpcaaagreat", sum := "7627483f4525f03eeb8aa634707b27e4b50a98ea0bbed2d3904a901bc7f615b1", checked := Tryz.checked }
namespace Rows
def none {H : Type} : Left H := { results := [], args := [] }

/-- 'laws.FnHeld': WHATEVER THE INPUT: true; the input reads as it did. -/
def fnHeldSpec : ChangeSpec := { name := "fnHeld", fn := fun _ => fun
  | [d] => { results := [.lit (.bool true)], args := [d] }
  | _ => none }
def fnHeldRow : OpenClaim := { program := "ytanfobggenpcaaagreat", sum := "7627483f4525f03eeb8aa634707b27e4b50a98ea0bbed2d3904a901bc7f615b1", func := "loop.example/g00790/laws.FnHeld", spec := "fnHeld", unfollowed := true, recurses := true, apart := false }
def FnHeldSaid : Prop := fnHeldRow.holds Tryz.pinned (OpenSpec.ofChange fnHeldSpec)

/-- ITS FALSE NEIGHBOUR: 'it returns false'. Refute it at one input. -/
def fnHeldWrong : ChangeSpec := { name := "fnHeld", fn := fun _ => fun
  | [d] => { results := [.lit (.bool false)], args := [d] }
  | _ => none }
def FnHeldWrongFalsely : Prop := fnHeldRow.holds Tryz.pinned (OpenSpec.ofChange fnHeldWrong)

/-- 'laws.FnParts': WHATEVER THE INPUT: true; the input reads as it did. -/
def fnPartsSpec : ChangeSpec := { name := "fnParts", fn := fun _ => fun
  | [d] => { results := [.lit (.bool true)], args := [d] }
  | _ => none }
def fnPartsRow : OpenClaim := { program := "ytanfobggenpcaaagreat", sum := "7627483f4525f03eeb8aa634707b27e4b50a98ea0bbed2d3904a901bc7f615b1", func := "loop.example/g00790/laws.FnParts", spec := "fnParts", unfollowed := true, recurses := true, apart := false }
def FnPartsSaid : Prop := fnPartsRow.holds Tryz.pinned (OpenSpec.ofChange fnPartsSpec)

/-- ITS FALSE NEIGHBOUR: 'it returns false'. Refute it at one input. -/
def fnPartsWrong : ChangeSpec := { name := "fnParts", fn := fun _ => fun
  | [d] => { results := [.lit (.bool false)], args := [d] }
  | _ => none }
def FnPartsWrongFalsely : Prop := fnPartsRow.holds Tryz.pinned (OpenSpec.ofChange fnPartsWrong)

/-- 'laws.FnChunk': WHATEVER THE INPUT: true; the input reads as it did. -/
def fnChunkSpec : ChangeSpec := { name := "fnChunk", fn := fun _ => fun
  | [d] => { results := [.lit (.bool true)], args := [d] }
  | _ => none }
def fnChunkRow : OpenClaim := { program := "ytanfobggenpcaaagreat", sum := "7627483f4525f03eeb8aa634707b27e4b50a98ea0bbed2d3904a901bc7f615b1", func := "loop.example/g00790/laws.FnChunk", spec := "fnChunk", unfollowed := true, recurses := true, apart := false }
def FnChunkSaid : Prop := fnChunkRow.holds Tryz.pinned (OpenSpec.ofChange fnChunkSpec)

/-- ITS FALSE NEIGHBOUR: 'it returns false'. Refute it at one input. -/
def fnChunkWrong : ChangeSpec := { name := "fnChunk", fn := fun _ => fun
  | [d] => { results := [.lit (.bool false)], args := [d] }
  | _ => none }
def FnChunkWrongFalsely : Prop := fnChunkRow.holds Tryz.pinned (OpenSpec.ofChange fnChunkWrong)

/-- 'laws.FnDecode': WHATEVER THE INPUT: true; the input reads as it did. -/
def fnDecodeSpec : ChangeSpec := { name := "fnDecode", fn := fun _ => fun
  | [d] => { results := [.lit (.bool true)], args := [d] }
  | _ => none }
def fnDecodeRow : OpenClaim := { program := "ytanfobggenpcaaagreat", sum := "7627483f4525f03eeb8aa634707b27e4b50a98ea0bbed2d3904a901bc7f615b1", func := "loop.example/g00790/laws.FnDecode", spec := "fnDecode", unfollowed := true, recurses := true, apart := false }
def FnDecodeSaid : Prop := fnDecodeRow.holds Tryz.pinned (OpenSpec.ofChange fnDecodeSpec)

/-- ITS FALSE NEIGHBOUR: 'it returns false'. Refute it at one input. -/
def fnDecodeWrong : ChangeSpec := { name := "fnDecode", fn := fun _ => fun
  | [d] => { results := [.lit (.bool false)], args := [d] }
  | _ => none }
def FnDecodeWrongFalsely : Prop := fnDecodeRow.holds Tryz.pinned (OpenSpec.ofChange fnDecodeWrong)

/-- 'laws.FnStrict': WHATEVER THE INPUT: true; the input reads as it did. -/
def fnStrictSpec : ChangeSpec := { name := "fnStrict", fn := fun _ => fun
  | [d] => { results := [.lit (.bool true)], args := [d] }
  | _ => none }
def fnStrictRow : OpenClaim := { program := "ytanfobggenpcaaagreat", sum := "7627483f4525f03eeb8aa634707b27e4b50a98ea0bbed2d3904a901bc7f615b1", func := "loop.example/g00790/laws.FnStrict", spec := "fnStrict", unfollowed := true, recurses := true, apart := false }
def FnStrictSaid : Prop := fnStrictRow.holds Tryz.pinned (OpenSpec.ofChange fnStrictSpec)

/-- ITS FALSE NEIGHBOUR: 'it returns false'. Refute it at one input. -/
def fnStrictWrong : ChangeSpec := { name := "fnStrict", fn := fun _ => fun
  | [d] => { results := [.lit (.bool false)], args := [d] }
  | _ => none }
def FnStrictWrongFalsely : Prop := fnStrictRow.holds Tryz.pinned (OpenSpec.ofChange fnStrictWrong)

/-- 'laws.FnGarbage': WHATEVER THE INPUT: true; the input reads as it did. -/
def fnGarbageSpec : ChangeSpec := { name := "fnGarbage", fn := fun _ => fun
  | [d] => { results := [.lit (.bool true)], args := [d] }
  | _ => none }
def fnGarbageRow : OpenClaim := { program := "ytanfobggenpcaaagreat", sum := "7627483f4525f03eeb8aa634707b27e4b50a98ea0bbed2d3904a901bc7f615b1", func := "loop.example/g00790/laws.FnGarbage", spec := "fnGarbage", unfollowed := true, recurses := true, apart := false }
def FnGarbageSaid : Prop := fnGarbageRow.holds Tryz.pinned (OpenSpec.ofChange fnGarbageSpec)

/-- ITS FALSE NEIGHBOUR: 'it returns false'. Refute it at one input. -/
def fnGarbageWrong : ChangeSpec := { name := "fnGarbage", fn := fun _ => fun
  | [d] => { results := [.lit (.bool false)], args := [d] }
  | _ => none }
def FnGarbageWrongFalsely : Prop := fnGarbageRow.holds Tryz.pinned (OpenSpec.ofChange fnGarbageWrong)

/-- 'laws.FnFrames': WHATEVER THE INPUT: true; the input reads as it did. -/
def fnFramesSpec : ChangeSpec := { name := "fnFrames", fn := fun _ => fun
  | [d] => { results := [.lit (.bool true)], args := [d] }
  | _ => none }
def fnFramesRow : OpenClaim := { program := "ytanfobggenpcaaagreat", sum := "7627483f4525f03eeb8aa634707b27e4b50a98ea0bbed2d3904a901bc7f615b1", func := "loop.example/g00790/laws.FnFrames", spec := "fnFrames", unfollowed := true, recurses := true, apart := false }
def FnFramesSaid : Prop := fnFramesRow.holds Tryz.pinned (OpenSpec.ofChange fnFramesSpec)

/-- ITS FALSE NEIGHBOUR: 'it returns false'. Refute it at one input. -/
def fnFramesWrong : ChangeSpec := { name := "fnFrames", fn := fun _ => fun
  | [d] => { results := [.lit (.bool false)], args := [d] }
  | _ => none }
def FnFramesWrongFalsely : Prop := fnFramesRow.holds Tryz.pinned (OpenSpec.ofChange fnFramesWrong)

/-- 'laws.FnSkip': WHATEVER THE INPUT: true; the input reads as it did. -/
def fnSkipSpec : ChangeSpec := { name := "fnSkip", fn := fun _ => fun
  | [d] => { results := [.lit (.bool true)], args := [d] }
  | _ => none }
def fnSkipRow : OpenClaim := { program := "ytanfobggenpcaaagreat", sum := "7627483f4525f03eeb8aa634707b27e4b50a98ea0bbed2d3904a901bc7f615b1", func := "loop.example/g00790/laws.FnSkip", spec := "fnSkip", unfollowed := true, recurses := true, apart := false }
def FnSkipSaid : Prop := fnSkipRow.holds Tryz.pinned (OpenSpec.ofChange fnSkipSpec)

/-- ITS FALSE NEIGHBOUR: 'it returns false'. Refute it at one input. -/
def fnSkipWrong : ChangeSpec := { name := "fnSkip", fn := fun _ => fun
  | [d] => { results := [.lit (.bool false)], args := [d] }
  | _ => none }
def FnSkipWrongFalsely : Prop := fnSkipRow.holds Tryz.pinned (OpenSpec.ofChange fnSkipWrong)

/-- 'laws.FnExactFeed': WHATEVER THE INPUT: true; the input reads as it did. -/
def fnExactFeedSpec : ChangeSpec := { name := "fnExactFeed", fn := fun _ => fun
  | [d1, d2, d3] => { results := [.lit (.bool true)], args := [d1, d2, d3] }
  | _ => none }
def fnExactFeedRow : OpenClaim := { program := "ytanfobggenpcaaagreat", sum := "7627483f4525f03eeb8aa634707b27e4b50a98ea0bbed2d3904a901bc7f615b1", func := "loop.example/g00790/laws.FnExactFeed", spec := "fnExactFeed", unfollowed := true, recurses := true, apart := false }
def FnExactFeedSaid : Prop := fnExactFeedRow.holds Tryz.pinned (OpenSpec.ofChange fnExactFeedSpec)

/-- ITS FALSE NEIGHBOUR: 'it returns false'. Refute it at one input. -/
def fnExactFeedWrong : ChangeSpec := { name := "fnExactFeed", fn := fun _ => fun
  | [d1, d2, d3] => { results := [.lit (.bool false)], args := [d1, d2, d3] }
  | _ => none }
def FnExactFeedWrongFalsely : Prop := fnExactFeedRow.holds Tryz.pinned (OpenSpec.ofChange fnExactFeedWrong)

/-- 'laws.FnExactFrames': WHATEVER THE INPUT: true; the input reads as it did. -/
def fnExactFramesSpec : ChangeSpec := { name := "fnExactFrames", fn := fun _ => fun
  | [d1, d2] => { results := [.lit (.bool true)], args := [d1, d2] }
  | _ => none }
def fnExactFramesRow : OpenClaim := { program := "ytanfobggenpcaaagreat", sum := "7627483f4525f03eeb8aa634707b27e4b50a98ea0bbed2d3904a901bc7f615b1", func := "loop.example/g00790/laws.FnExactFrames", spec := "fnExactFrames", recurses := true, apart := false }
def FnExactFramesSaid : Prop := fnExactFramesRow.holds Tryz.pinned (OpenSpec.ofChange fnExactFramesSpec)

/-- ITS FALSE NEIGHBOUR: 'it returns false'. Refute it at one input. -/
def fnExactFramesWrong : ChangeSpec := { name := "fnExactFrames", fn := fun _ => fun
  | [d1, d2] => { results := [.lit (.bool false)], args := [d1, d2] }
  | _ => none }
def FnExactFramesWrongFalsely : Prop := fnExactFramesRow.holds Tryz.pinned (OpenSpec.ofChange fnExactFramesWrong)

/-- 'laws.FnExactFeedAll': WHATEVER THE INPUT: true; the input reads as it did. -/
def fnExactFeedAllSpec : ChangeSpec := { name := "fnExactFeedAll", fn := fun _ => fun
  | [d1, d2, d3] => { results := [.lit (.bool true)], args := [d1, d2, d3] }
  | _ => none }
def fnExactFeedAllRow : OpenClaim := { program := "ytanfobggenpcaaagreat", sum := "7627483f4525f03eeb8aa634707b27e4b50a98ea0bbed2d3904a901bc7f615b1", func := "loop.example/g00790/laws.FnExactFeedAll", spec := "fnExactFeedAll", unfollowed := true, recurses := true, apart := false }
def FnExactFeedAllSaid : Prop := fnExactFeedAllRow.holds Tryz.pinned (OpenSpec.ofChange fnExactFeedAllSpec)

/-- ITS FALSE NEIGHBOUR: 'it returns false'. Refute it at one input. -/
def fnExactFeedAllWrong : ChangeSpec := { name := "fnExactFeedAll", fn := fun _ => fun
  | [d1, d2, d3] => { results := [.lit (.bool false)], args := [d1, d2, d3] }
  | _ => none }
def FnExactFeedAllWrongFalsely : Prop := fnExactFeedAllRow.holds Tryz.pinned (OpenSpec.ofChange fnExactFeedAllWrong)

/- THE SECOND FORM. 'bulk': how many values and letters a reading holds, each counted each time it is reached (what is shared counts as often as it is met; a slice's spare places count too). A statement '..UptoSaid' is the law's where the arguments, and the package variables that the reading takes, are together of bulk at most 1048576: NARROWER than '..Said'. Prove '..Said' where nothing that the law and all that it calls make is longer than what came in: it says more and counts as full. Else prove '..UptoSaid'. A law counts once. -/
mutual
def uptoBulk {H : Type} : DataW H → Nat
  | .lit (.string bytes) => bytes.length + 1
  | .lit _ => 1
  | .nil => 1
  | .ptr d => uptoBulk d + 1
  | .slice elems spare => uptoBulkAll elems + uptoBulkAll spare + 1
  | .agg parts => uptoBulkAll parts + 1
  | .iface _ d => uptoBulk d + 1
  | .map entries => uptoBulkEntries entries + 1
  | .held _ => 1
def uptoBulkAll {H : Type} : List (DataW H) → Nat
  | [] => 0
  | d :: r => uptoBulk d + uptoBulkAll r
def uptoBulkEntries {H : Type} : List (Lit × DataW H) → Nat
  | [] => 0
  | x :: r => uptoBulkEntry x + uptoBulkEntries r
def uptoBulkEntry {H : Type} : Lit × DataW H → Nat
  | (.string bytes, d) => bytes.length + uptoBulk d + 1
  | (_, d) => uptoBulk d + 1
 end
def uptoSmall : (H : Type) → List (DataW H) → Bool := fun _ ds => decide (uptoBulkAll ds ≤ 1048576)
def OpenSpec.upto (s : _root_.Go.ChangeSpec) : _root_.Go.OpenSpec := { _root_.Go.OpenSpec.ofChange s with cond := some uptoSmall }

/-- 'laws.FnHeld', WHERE WHAT IT READS IS OF BULK AT MOST 1048576: true; the input reads as it did. -/
def fnHeldUptoRow : OpenClaim := { program := "ytanfobggenpcaaagreat", sum := "7627483f4525f03eeb8aa634707b27e4b50a98ea0bbed2d3904a901bc7f615b1", func := "loop.example/g00790/laws.FnHeld", spec := "fnHeld", unfollowed := true, recurses := true, apart := false, narrowed := true }
def FnHeldUptoSaid : Prop := fnHeldUptoRow.holds Tryz.pinned (OpenSpec.upto fnHeldSpec)

/-- 'laws.FnParts', WHERE WHAT IT READS IS OF BULK AT MOST 1048576: true; the input reads as it did. -/
def fnPartsUptoRow : OpenClaim := { program := "ytanfobggenpcaaagreat", sum := "7627483f4525f03eeb8aa634707b27e4b50a98ea0bbed2d3904a901bc7f615b1", func := "loop.example/g00790/laws.FnParts", spec := "fnParts", unfollowed := true, recurses := true, apart := false, narrowed := true }
def FnPartsUptoSaid : Prop := fnPartsUptoRow.holds Tryz.pinned (OpenSpec.upto fnPartsSpec)

/-- 'laws.FnChunk', WHERE WHAT IT READS IS OF BULK AT MOST 1048576: true; the input reads as it did. -/
def fnChunkUptoRow : OpenClaim := { program := "ytanfobggenpcaaagreat", sum := "7627483f4525f03eeb8aa634707b27e4b50a98ea0bbed2d3904a901bc7f615b1", func := "loop.example/g00790/laws.FnChunk", spec := "fnChunk", unfollowed := true, recurses := true, apart := false, narrowed := true }
def FnChunkUptoSaid : Prop := fnChunkUptoRow.holds Tryz.pinned (OpenSpec.upto fnChunkSpec)

/-- 'laws.FnDecode', WHERE WHAT IT READS IS OF BULK AT MOST 1048576: true; the input reads as it did. -/
def fnDecodeUptoRow : OpenClaim := { program := "ytanfobggenpcaaagreat", sum := "7627483f4525f03eeb8aa634707b27e4b50a98ea0bbed2d3904a901bc7f615b1", func := "loop.example/g00790/laws.FnDecode", spec := "fnDecode", unfollowed := true, recurses := true, apart := false, narrowed := true }
def FnDecodeUptoSaid : Prop := fnDecodeUptoRow.holds Tryz.pinned (OpenSpec.upto fnDecodeSpec)

/-- 'laws.FnStrict', WHERE WHAT IT READS IS OF BULK AT MOST 1048576: true; the input reads as it did. -/
def fnStrictUptoRow : OpenClaim := { program := "ytanfobggenpcaaagreat", sum := "7627483f4525f03eeb8aa634707b27e4b50a98ea0bbed2d3904a901bc7f615b1", func := "loop.example/g00790/laws.FnStrict", spec := "fnStrict", unfollowed := true, recurses := true, apart := false, narrowed := true }
def FnStrictUptoSaid : Prop := fnStrictUptoRow.holds Tryz.pinned (OpenSpec.upto fnStrictSpec)

/-- 'laws.FnGarbage', WHERE WHAT IT READS IS OF BULK AT MOST 1048576: true; the input reads as it did. -/
def fnGarbageUptoRow : OpenClaim := { program := "ytanfobggenpcaaagreat", sum := "7627483f4525f03eeb8aa634707b27e4b50a98ea0bbed2d3904a901bc7f615b1", func := "loop.example/g00790/laws.FnGarbage", spec := "fnGarbage", unfollowed := true, recurses := true, apart := false, narrowed := true }
def FnGarbageUptoSaid : Prop := fnGarbageUptoRow.holds Tryz.pinned (OpenSpec.upto fnGarbageSpec)

/-- 'laws.FnFrames', WHERE WHAT IT READS IS OF BULK AT MOST 1048576: true; the input reads as it did. -/
def fnFramesUptoRow : OpenClaim := { program := "ytanfobggenpcaaagreat", sum := "7627483f4525f03eeb8aa634707b27e4b50a98ea0bbed2d3904a901bc7f615b1", func := "loop.example/g00790/laws.FnFrames", spec := "fnFrames", unfollowed := true, recurses := true, apart := false, narrowed := true }
def FnFramesUptoSaid : Prop := fnFramesUptoRow.holds Tryz.pinned (OpenSpec.upto fnFramesSpec)

/-- 'laws.FnSkip', WHERE WHAT IT READS IS OF BULK AT MOST 1048576: true; the input reads as it did. -/
def fnSkipUptoRow : OpenClaim := { program := "ytanfobggenpcaaagreat", sum := "7627483f4525f03eeb8aa634707b27e4b50a98ea0bbed2d3904a901bc7f615b1", func := "loop.example/g00790/laws.FnSkip", spec := "fnSkip", unfollowed := true, recurses := true, apart := false, narrowed := true }
def FnSkipUptoSaid : Prop := fnSkipUptoRow.holds Tryz.pinned (OpenSpec.upto fnSkipSpec)

/-- 'laws.FnExactFeed', WHERE WHAT IT READS IS OF BULK AT MOST 1048576: true; the input reads as it did. -/
def fnExactFeedUptoRow : OpenClaim := { program := "ytanfobggenpcaaagreat", sum := "7627483f4525f03eeb8aa634707b27e4b50a98ea0bbed2d3904a901bc7f615b1", func := "loop.example/g00790/laws.FnExactFeed", spec := "fnExactFeed", unfollowed := true, recurses := true, apart := false, narrowed := true }
def FnExactFeedUptoSaid : Prop := fnExactFeedUptoRow.holds Tryz.pinned (OpenSpec.upto fnExactFeedSpec)

/-- 'laws.FnExactFrames', WHERE WHAT IT READS IS OF BULK AT MOST 1048576: true; the input reads as it did. -/
def fnExactFramesUptoRow : OpenClaim := { program := "ytanfobggenpcaaagreat", sum := "7627483f4525f03eeb8aa634707b27e4b50a98ea0bbed2d3904a901bc7f615b1", func := "loop.example/g00790/laws.FnExactFrames", spec := "fnExactFrames", recurses := true, apart := false, narrowed := true }
def FnExactFramesUptoSaid : Prop := fnExactFramesUptoRow.holds Tryz.pinned (OpenSpec.upto fnExactFramesSpec)

/-- 'laws.FnExactFeedAll', WHERE WHAT IT READS IS OF BULK AT MOST 1048576: true; the input reads as it did. -/
def fnExactFeedAllUptoRow : OpenClaim := { program := "ytanfobggenpcaaagreat", sum := "7627483f4525f03eeb8aa634707b27e4b50a98ea0bbed2d3904a901bc7f615b1", func := "loop.example/g00790/laws.FnExactFeedAll", spec := "fnExactFeedAll", unfollowed := true, recurses := true, apart := false, narrowed := true }
def FnExactFeedAllUptoSaid : Prop := fnExactFeedAllUptoRow.holds Tryz.pinned (OpenSpec.upto fnExactFeedAllSpec)

end Rows
end Go.Proofs.YtanfobggenpcaaaGreat
