/-
  Functions: blocks and proofs as messages.
-/
import Derived.Test.YtaicdpancmfhnaaFnE
set_option maxRecDepth 100000
set_option linter.unusedSimpArgs false
set_option linter.unusedVariables false
namespace Go.Eng.F
open Go.Eng.U (TQc THead TLimits TProof TMsg TBlock)
/-! ### Lists of headers -/
/-! ### Proofs -/
def Proof.wc (p : Proof) : Prop := p.wf ∧ (∀ h ∈ p.heads, h.wc) ∧ p.qc.wc
def Proof.o (p : Proof) : List E := [.o true (some (35, 10)) (hds p.heads), .p (.int .i64 p.qc.view), .p (.int .i64 p.qc.height), .o true (some (5, 1)) (bytes p.qc.block), .o true (some (5, 1)) (bytes p.qc.bits), .o true (some (22, 1)) (bss p.qc.tags)]
theorem hdsT_tok {l : List Head} (h : Sz l.length) (h2 : ∀ x ∈ l, x.wc) : TvOk (.sl THead) (hdsT l) := by
  unfold hdsT
  refine ok_sl.2 ⟨by unfold Sz at h; rw [List.length_map, maxLen_eq]; omega, fun v hv => ?_⟩
  obtain ⟨x, hx, rfl⟩ := List.mem_map.1 hv
  exact (h2 x hx).tok
theorem Proof.of' {q : Proof} (h : TvOk TProof q.tv) (hw : wt q.tv ≤ 1048576) : q.wc := Proof.of h hw
theorem Proof.wc.tok {q : Proof} (h : q.wc) : TvOk TProof q.tv := by
  simp only [Proof.tv, ok_st, okS_cons]
  exact ⟨hdsT_tok h.1.1.1 h.2.1, h.2.2.tok, okS_nil.2 trivial⟩
/-! ### Blocks -/
structure Block where
  head : Head
  txs : List Bytes
def Block.c (x : Block) : List D := x.head.c ++ [.sl (bss x.txs)]
def Block.wc (x : Block) : Prop := x.head.wc ∧ BssWf x.txs
def Block.o (x : Block) : List E := [.p (.int .i64 x.head.view), .p (.int .i64 x.head.height), .p (.int .i64 x.head.proposer), .o true (some (5, 1)) (bytes x.head.parent), .o true (some (5, 1)) (bytes x.head.root), .p (.int .i64 x.head.qc.view), .p (.int .i64 x.head.qc.height), .o true (some (5, 1)) (bytes x.head.qc.block), .o true (some (5, 1)) (bytes x.head.qc.bits), .o true (some (22, 1)) (bss x.head.qc.tags), .o true (some (22, 1)) (bss x.txs)]
abbrev n_impl_Block_copied : Nat := 67
def c_impl_Block_copied : AF := ⟨1, 4, [.cell 2 11 true], (.seq (.ops [.i (.lbox 1 (.s 0)), .i (.lal 2 [.int .i64 0, .int .i64 0, .int .i64 0, .nils, .nils, .int .i64 0, .int .i64 0, .nils, .nils, .nils, .nils])]) (.seq (.ops [.i (.fad 3 (.s 1) 0), .i (.ldl 4 1 (.s 3) 10 true), .i (.call 6 88 false [(.s 4)]), .i (.fad 6 (.s 1) 10), .i (.ldl 7 1 (.s 6) 1 false), .i (.call 9 89 false [(.s 7)]), .i (.bld 9 [.int .i64 0, .int .i64 0, .int .i64 0, .nils, .nils, .int .i64 0, .int .i64 0, .nils, .nils, .nils, .nils] [(0, 10, (.s 5)), (10, 1, (.s 8))]), .i (.stl 2 (.s 2) (.s 9) 11)]) .ret))⟩
theorem k_impl_Block_copied : cd n_impl_Block_copied = some c_impl_Block_copied := by kernel_rfl
theorem Block_copied_ok (x : Block) (hw : x.wc) : VC cd n_impl_Block_copied (mkP [(true, x.c)]) (fun rs _ => rs = [(true, x.o)]) := by
  refine VC_enter k_impl_Block_copied rfl ?_
  simp (disch := omega) [c_impl_Block_copied, Block.c, Head.c, List.cons_append, List.nil_append, VE, VXR, VP, VB, kof, bl, it]
  refine VXC_e (Head_copied_ok x.head hw.1) rfl rfl ?_
  simp (disch := omega) [Head.o, VE, VXR, VP, VB, kof, bl, it]
  refine VXC_e (copyList_ok x.txs hw.2) rfl rfl ?_
  simp (disch := omega) [Block.o, VE, VXR, VP, VB, kof, bl, it]
abbrev n_spec_l14Copy : Nat := 66
def c_spec_l14Copy : AF := ⟨1, 4, [.cell 2 11 true], (.seq (.ops [.i (.lbox 1 (.s 0)), .i (.lal 2 [.int .i64 0, .int .i64 0, .int .i64 0, .nils, .nils, .int .i64 0, .int .i64 0, .nils, .nils, .nils, .nils])]) (.seq (.ops [.i (.fad 3 (.s 1) 0), .i (.ldl 4 1 (.s 3) 10 true), .i (.call 6 83 false [(.s 4)]), .i (.fad 6 (.s 1) 10), .i (.ldl 7 1 (.s 6) 1 false), .i (.call 9 84 false [(.s 7)]), .i (.bld 9 [.int .i64 0, .int .i64 0, .int .i64 0, .nils, .nils, .int .i64 0, .int .i64 0, .nils, .nils, .nils, .nils] [(0, 10, (.s 5)), (10, 1, (.s 8))]), .i (.stl 2 (.s 2) (.s 9) 11)]) .ret))⟩
theorem k_spec_l14Copy : cd n_spec_l14Copy = some c_spec_l14Copy := by kernel_rfl
theorem l14Copy_ok (x : Block) (hw : x.wc) : VC cd n_spec_l14Copy (mkP [(true, x.c)]) (fun rs _ => rs = [(true, x.o)]) := by
  refine VC_enter k_spec_l14Copy rfl ?_
  simp (disch := omega) [c_spec_l14Copy, Block.c, Head.c, List.cons_append, List.nil_append, VE, VXR, VP, VB, kof, bl, it]
  refine VXC_e (l13Copy_ok x.head hw.1) rfl rfl ?_
  simp (disch := omega) [Head.o, VE, VXR, VP, VB, kof, bl, it]
  refine VXC_e (l06Copy_ok x.txs hw.2) rfl rfl ?_
  simp (disch := omega) [Block.o, VE, VXR, VP, VB, kof, bl, it]
def ofBlockE (x : Block) : List (Bool × List E) := [(true, [.p (.int .i64 4), .p (.int .i64 0), .p (.int .i64 0), .p .nils, .p (.int .i64 0), .p .nils, .p (.int .i64 0), .p (.int .i64 0), .p .nils, .p .nils, .p .nils, .p (.int .i64 0), .p (.int .i64 0), .p (.int .i64 0), .p .nils, .p .nils, .p (.int .i64 0), .p (.int .i64 0), .p .nils, .p .nils, .p .nils, .p (.int .i64 x.head.view), .p (.int .i64 x.head.height), .p (.int .i64 x.head.proposer), .o true (some (5, 1)) (bytes x.head.parent), .o true (some (5, 1)) (bytes x.head.root), .p (.int .i64 x.head.qc.view), .p (.int .i64 x.head.qc.height), .o true (some (5, 1)) (bytes x.head.qc.block), .o true (some (5, 1)) (bytes x.head.qc.bits), .o true (some (22, 1)) (bss x.head.qc.tags), .o true (some (22, 1)) (bss x.txs), .p (.int .i64 0), .p .nils, .p .nils, .p (.int .i64 0), .p (.int .i64 0), .p .nils, .p .nils, .p .nils, .p (.int .i64 0), .p (.int .i64 0), .p (.int .i64 0), .p .nils, .p .nils])]
abbrev n_impl_OfBlock : Nat := 15
def c_impl_OfBlock : AF := ⟨1, 3, [.cell 2 45 true], (.seq (.ops [.i (.lbox 1 (.s 0)), .i (.lal 2 [.int .i64 0, .int .i64 0, .int .i64 0, .nils, .int .i64 0, .nils, .int .i64 0, .int .i64 0, .nils, .nils, .nils, .int .i64 0, .int .i64 0, .int .i64 0, .nils, .nils, .int .i64 0, .int .i64 0, .nils, .nils, .nils, .int .i64 0, .int .i64 0, .int .i64 0, .nils, .nils, .int .i64 0, .int .i64 0, .nils, .nils, .nils, .nils, .int .i64 0, .nils, .nils, .int .i64 0, .int .i64 0, .nils, .nils, .nils, .int .i64 0, .int .i64 0, .int .i64 0, .nils, .nils])]) (.seq (.ops [.i (.ldl 3 1 (.s 1) 11 true), .i (.call 5 67 false [(.s 3)]), .i (.bld 5 [.int .i64 0, .int .i64 0, .int .i64 0, .nils, .int .i64 0, .nils, .int .i64 0, .int .i64 0, .nils, .nils, .nils, .int .i64 0, .int .i64 0, .int .i64 0, .nils, .nils, .int .i64 0, .int .i64 0, .nils, .nils, .nils, .int .i64 0, .int .i64 0, .int .i64 0, .nils, .nils, .int .i64 0, .int .i64 0, .nils, .nils, .nils, .nils, .int .i64 0, .nils, .nils, .int .i64 0, .int .i64 0, .nils, .nils, .nils, .int .i64 0, .int .i64 0, .int .i64 0, .nils, .nils] [(0, 1, (.c (.val false [.int .i64 4]))), (21, 11, (.s 4))]), .i (.stl 2 (.s 2) (.s 5) 45)]) .ret))⟩
theorem k_impl_OfBlock : cd n_impl_OfBlock = some c_impl_OfBlock := by kernel_rfl
theorem impl_OfBlock_ok (x : Block) (hw : x.wc) : VC cd n_impl_OfBlock (mkP [(true, x.c)]) (fun rs _ => rs = ofBlockE x) := by
  refine VC_enter k_impl_OfBlock rfl ?_
  simp (disch := omega) [c_impl_OfBlock, Block.c, Head.c, List.cons_append, List.nil_append, VE, VXR, VP, VB, kof, bl, it]
  refine VXC_e (Block_copied_ok x hw) rfl rfl ?_
  simp (disch := omega) [ofBlockE, Block.o, VE, VXR, VP, VB, kof, bl, it]
abbrev n_spec_OfBlock : Nat := 13
def c_spec_OfBlock : AF := ⟨1, 3, [.cell 2 45 true], (.seq (.ops [.i (.lbox 1 (.s 0)), .i (.lal 2 [.int .i64 0, .int .i64 0, .int .i64 0, .nils, .int .i64 0, .nils, .int .i64 0, .int .i64 0, .nils, .nils, .nils, .int .i64 0, .int .i64 0, .int .i64 0, .nils, .nils, .int .i64 0, .int .i64 0, .nils, .nils, .nils, .int .i64 0, .int .i64 0, .int .i64 0, .nils, .nils, .int .i64 0, .int .i64 0, .nils, .nils, .nils, .nils, .int .i64 0, .nils, .nils, .int .i64 0, .int .i64 0, .nils, .nils, .nils, .int .i64 0, .int .i64 0, .int .i64 0, .nils, .nils])]) (.seq (.ops [.i (.ldl 3 1 (.s 1) 11 true), .i (.call 5 66 false [(.s 3)]), .i (.bld 5 [.int .i64 0, .int .i64 0, .int .i64 0, .nils, .int .i64 0, .nils, .int .i64 0, .int .i64 0, .nils, .nils, .nils, .int .i64 0, .int .i64 0, .int .i64 0, .nils, .nils, .int .i64 0, .int .i64 0, .nils, .nils, .nils, .int .i64 0, .int .i64 0, .int .i64 0, .nils, .nils, .int .i64 0, .int .i64 0, .nils, .nils, .nils, .nils, .int .i64 0, .nils, .nils, .int .i64 0, .int .i64 0, .nils, .nils, .nils, .int .i64 0, .int .i64 0, .int .i64 0, .nils, .nils] [(0, 1, (.c (.val false [.int .i64 4]))), (21, 11, (.s 4))]), .i (.stl 2 (.s 2) (.s 5) 45)]) .ret))⟩
theorem k_spec_OfBlock : cd n_spec_OfBlock = some c_spec_OfBlock := by kernel_rfl
theorem spec_OfBlock_ok (x : Block) (hw : x.wc) : VC cd n_spec_OfBlock (mkP [(true, x.c)]) (fun rs _ => rs = ofBlockE x) := by
  refine VC_enter k_spec_OfBlock rfl ?_
  simp (disch := omega) [c_spec_OfBlock, Block.c, Head.c, List.cons_append, List.nil_append, VE, VXR, VP, VB, kof, bl, it]
  refine VXC_e (l14Copy_ok x hw) rfl rfl ?_
  simp (disch := omega) [ofBlockE, Block.o, VE, VXR, VP, VB, kof, bl, it]
def Block.tv (x : Block) : Tv := .r [x.head.tv, bssT x.txs]
theorem Block.enc (x : Block) : enc TBlock x.tv = x.c := by simp only [Block.tv, Head.enc, enc_st, encS_cons, encS_nil, enc_int, enc_bool, enc_str, enc_bs, enc_bss', enc_ints, Block.c, Head.c, Head.c, Qc.c, List.cons_append, List.nil_append, List.append_assoc]
theorem Block.ex {v : Tv} (h : TvOk TBlock v) : ∃ x : Block, v = x.tv := by
  obtain ⟨vs, rfl, h⟩ := h.st
  obtain ⟨v0, _, rfl, h0, h⟩ := h.step
  obtain ⟨v1, _, rfl, h1, h⟩ := h.step
  obtain rfl := h.fin
  obtain ⟨n0, rfl⟩ := Head.ex h0
  obtain ⟨n1, rfl⟩ := bssT_ex h1
  exact ⟨⟨n0, n1⟩, rfl⟩
theorem Block.of {x : Block} (h : TvOk TBlock x.tv) (hw : wt x.tv ≤ 1048576) : x.wc := by
  simp only [Block.tv, ok_st, okS_cons] at h
  simp only [Block.tv, wt, wts] at hw
  obtain ⟨h0, h1, _⟩ := h
  exact ⟨Head.of h0 (by omega), bss_of (by omega)⟩
theorem Block.wc.tok {x : Block} (h : x.wc) : TvOk TBlock x.tv := by
  simp only [Block.tv, ok_st, okS_cons]
  obtain ⟨h0, h1⟩ := h
  exact ⟨h0.tok, sz_bss h1.1 h1.2, okS_nil.2 trivial⟩
theorem Block.of' {q : Block} (h : TvOk TBlock q.tv) (hw : wt q.tv ≤ 1048576) : q.wc := Block.of h hw
def ofBlockT (x : Block) : Tv := .r [.i 4, .r [.i 0, .i 0, .l [], .i 0, .l []], .r [.i 0, .i 0, .l [], .l [], .l []], .r [.i 0, .i 0, .i 0, .l [], .l [], .r [.i 0, .i 0, .l [], .l [], .l []]], x.tv, .r [.i 0, .l []], .r [.l [], .r [.i 0, .i 0, .l [], .l [], .l []]], .r [.i 0, .i 0, .i 0, .l [], .l []]]
theorem ofBlock_wt (x : Block) : wt (ofBlockT x) = wt x.tv := by simp [ofBlockT, wt, wts]
theorem ofBlock_rs {x : Block} (hw : x.wc) : RsE (ofBlockE x) [(TMsg, ofBlockT x)] := by
  have ht := hw.tok
  refine ⟨rfl, ?_, ?_, trivial⟩
  · simp only [ofBlockT, enc_st, encS_cons, encS_nil, Block.enc, Block.c, Head.c, Qc.c, enc_int, enc_nil, List.cons_append, List.nil_append, EEq, D.leaf, and_self]
  · simp only [ofBlockT, ok_st, okS_cons, okS_nil, okN, ok0, and_true, true_and]
    exact ⟨i64_ok (by unfold I64; omega), ok_st.1 ht⟩
theorem io_impl_OfBlock {h : H} {x : Block} {ms : List (Bool × List C)} (ha : ArgsRp h [(TBlock, x.tv)] ms) (hp : wt x.tv ≤ 1048576) :
    WC cd n_impl_OfBlock ms h (Ans h [(TMsg, ofBlockT x)]) := by
  have hw := Block.of' (ArgsRp.ok1 ha).1 hp
  have hc := impl_OfBlock_ok x hw
  have e : encA [(TBlock, x.tv)] = [(true, x.c)] := by simp only [encA, List.map, Block.enc, Ty.agg]
  rw [← e] at hc
  exact hc.wc ha fun rs q => by rw [q]; exact ofBlock_rs hw
theorem io_spec_OfBlock {h : H} {x : Block} {ms : List (Bool × List C)} (ha : ArgsRp h [(TBlock, x.tv)] ms) (hp : wt x.tv ≤ 1048576) :
    WC cd n_spec_OfBlock ms h (Ans h [(TMsg, ofBlockT x)]) := by
  have hw := Block.of' (ArgsRp.ok1 ha).1 hp
  have hc := spec_OfBlock_ok x hw
  have e : encA [(TBlock, x.tv)] = [(true, x.c)] := by simp only [encA, List.map, Block.enc, Ty.agg]
  rw [← e] at hc
  exact hc.wc ha fun rs q => by rw [q]; exact ofBlock_rs hw
end Go.Eng.F
