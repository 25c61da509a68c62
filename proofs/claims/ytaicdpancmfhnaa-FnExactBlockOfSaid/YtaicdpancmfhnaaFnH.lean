/-
  Functions: blocks and proofs as messages.
-/
import Derived.Test.YtaicdpancmfhnaaFnE
set_option maxRecDepth 100000
set_option linter.unusedSimpArgs false
set_option linter.unusedVariables false
namespace Go.Eng.F
open Go.Eng.U (TQc THead TLimits TProof TMsg TBlock)
/-! ### Lists of headers -/
/-! ### Proofs -/
def Proof.wc (p : Proof) : Prop := p.wf ∧ (∀ h ∈ p.heads, h.wc) ∧ p.qc.wc
def Proof.o (p : Proof) : List E := [.o true (some (35, 10)) (hds p.heads), .p (.int .i64 p.qc.view), .p (.int .i64 p.qc.height), .o true (some (5, 1)) (bytes p.qc.block), .o true (some (5, 1)) (bytes p.qc.bits), .o true (some (22, 1)) (bss p.qc.tags)]
theorem hdsT_tok {l : List Head} (h : Sz l.length) (h2 : ∀ x ∈ l, x.wc) : TvOk (.sl THead) (hdsT l) := by
  unfold hdsT
  refine ok_sl.2 ⟨by unfold Sz at h; rw [List.length_map, maxLen_eq]; omega, fun v hv => ?_⟩
  obtain ⟨x, hx, rfl⟩ := List.mem_map.1 hv
  exact (h2 x hx).tok
theorem Proof.wc.tok {q : Proof} (h : q.wc) : TvOk TProof q.tv := by
  simp only [Proof.tv, ok_st, okS_cons]
  exact ⟨hdsT_tok h.1.1.1 h.2.1, h.2.2.tok, okS_nil.2 trivial⟩
/-! ### Blocks -/
structure Block where
  head : Head
  txs : List Bytes
def Block.c (x : Block) : List D := x.head.c ++ [.sl (bss x.txs)]
def Block.wc (x : Block) : Prop := x.head.wc ∧ BssWf x.txs
def Block.o (x : Block) : List E := [.p (.int .i64 x.head.view), .p (.int .i64 x.head.height), .p (.int .i64 x.head.proposer), .o true (some (5, 1)) (bytes x.head.parent), .o true (some (5, 1)) (bytes x.head.root), .p (.int .i64 x.head.qc.view), .p (.int .i64 x.head.qc.height), .o true (some (5, 1)) (bytes x.head.qc.block), .o true (some (5, 1)) (bytes x.head.qc.bits), .o true (some (22, 1)) (bss x.head.qc.tags), .o true (some (22, 1)) (bss x.txs)]
def Block.tv (x : Block) : Tv := .r [x.head.tv, bssT x.txs]
theorem Block.enc (x : Block) : enc TBlock x.tv = x.c := by simp only [Block.tv, Head.enc, enc_st, encS_cons, encS_nil, enc_int, enc_bool, enc_str, enc_bs, enc_bss', enc_ints, Block.c, Head.c, Head.c, Qc.c, List.cons_append, List.nil_append, List.append_assoc]
theorem Block.ex {v : Tv} (h : TvOk TBlock v) : ∃ x : Block, v = x.tv := by
  obtain ⟨vs, rfl, h⟩ := h.st
  obtain ⟨v0, _, rfl, h0, h⟩ := h.step
  obtain ⟨v1, _, rfl, h1, h⟩ := h.step
  obtain rfl := h.fin
  obtain ⟨n0, rfl⟩ := Head.ex h0
  obtain ⟨n1, rfl⟩ := bssT_ex h1
  exact ⟨⟨n0, n1⟩, rfl⟩
theorem Block.of {x : Block} (h : TvOk TBlock x.tv) (hw : wt x.tv ≤ 1048576) : x.wc := by
  simp only [Block.tv, ok_st, okS_cons] at h
  simp only [Block.tv, wt, wts] at hw
  obtain ⟨h0, h1, _⟩ := h
  exact ⟨Head.of h0 (by omega), bss_of (by omega)⟩
theorem Block.wc.tok {x : Block} (h : x.wc) : TvOk TBlock x.tv := by
  simp only [Block.tv, ok_st, okS_cons]
  obtain ⟨h0, h1⟩ := h
  exact ⟨h0.tok, sz_bss h1.1 h1.2, okS_nil.2 trivial⟩
end Go.Eng.F
