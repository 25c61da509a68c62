/-
  Functions: certificates, headers.
-/
import Derived.Test.YtaicdpancmfhnaaFnB
set_option maxRecDepth 100000
set_option linter.unusedSimpArgs false
set_option linter.unusedVariables false
namespace Go.Eng.F
def I64 (n : Int) : Prop := -9223372036854775808 ≤ n ∧ n < 9223372036854775808
def Sz (n : Nat) : Prop := n ≤ 1073741824
structure Qc where
  view : Int
  height : Int
  block : Bytes
  bits : Bytes
  tags : List Bytes
def Qc.c (q : Qc) : List D := [.int .i64 q.view, .int .i64 q.height, .sl (bytes q.block), .sl (bytes q.bits), .sl (bss q.tags)]
def Qc.wf (q : Qc) : Prop := I64 q.view ∧ I64 q.height ∧ Sz q.block.length ∧ Sz q.bits.length ∧ Sz q.tags.length
structure Head where
  view : Int
  height : Int
  proposer : Int
  parent : Bytes
  root : Bytes
  qc : Qc
def Head.c (h : Head) : List D := [.int .i64 h.view, .int .i64 h.height, .int .i64 h.proposer, .sl (bytes h.parent), .sl (bytes h.root), .int .i64 h.qc.view, .int .i64 h.qc.height, .sl (bytes h.qc.block), .sl (bytes h.qc.bits), .sl (bss h.qc.tags)]
def Head.wf (h : Head) : Prop := I64 h.view ∧ I64 h.height ∧ I64 h.proposer ∧ Sz h.parent.length ∧ Sz h.root.length ∧ h.qc.wf
/-! ### Lists of headers -/
def hds (l : List Head) : List (List D) := l.map Head.c
def HeadsWf (hs : List Head) : Prop := Sz hs.length ∧ ∀ h ∈ hs, h.wf
end Go.Eng.F
