/-
  Functions: limits, hashes, bitmaps.
-/
import Derived.Test.YtaicdpancmfhnaaVmP
import Derived.Test.YtaicdpancmfhnaaProg
import Derived.KernelRfl
set_option maxRecDepth 100000
set_option linter.unusedSimpArgs false
set_option linter.unusedVariables false
namespace Go.Eng.F
noncomputable abbrev cd := code Proofs.Try.prog
def bss (l : List Bytes) : List (List D) := l.map fun x => [.sl (bytes x)]
theorem bss_len (l : List Bytes) : (bss l).length = l.length := by simp [bss]
theorem bss_get {l : List Bytes} {i : Nat} (h : i < l.length) : (bss l)[i]? = some [.sl (bytes l[i])] := by simp [bss, h]
def inn (n lo hi : Int) : Bool := decide (lo ≤ n ∧ n ≤ hi)
structure Lim where
  n : Int
  tx : Int
  txs : Int
  frame : Int
  heads : Int
def Lim.c (l : Lim) : List D := [.int .i64 l.n, .int .i64 l.tx, .int .i64 l.txs, .int .i64 l.frame, .int .i64 l.heads]
def Lim.ok (l : Lim) : Bool := inn l.n 1 10 && inn l.tx 0 40 && inn l.txs 0 8 && inn l.frame 1 4000 && inn l.heads 3 5
/-! ### Bitmaps -/
/-! ### The set bits -/
/-! ### How many -/
def ones (x : Nat) : Nat := ((List.range 8).filter (x.testBit)).length
end Go.Eng.F
