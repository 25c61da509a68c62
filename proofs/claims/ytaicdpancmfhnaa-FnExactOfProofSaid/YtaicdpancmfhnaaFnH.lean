/-
  Functions: blocks and proofs as messages.
-/
import Derived.Test.YtaicdpancmfhnaaFnE
set_option maxRecDepth 100000
set_option linter.unusedSimpArgs false
set_option linter.unusedVariables false
namespace Go.Eng.F
open Go.Eng.U (TQc THead TLimits TProof TMsg TBlock)
/-! ### Lists of headers -/
theorem hds_snoc {l : List Head} {i : Nat} (h : i < l.length) : hds (l.take i) ++ [l[i].c] = hds (l.take (i + 1)) := by
  have e : hds (l.take (i + 1)) = hds (l.take i) ++ hds [l[i]] := by
    rw [List.take_add_one, List.getElem?_eq_getElem h]; exact List.map_append
  rw [e]; rfl
abbrev n_impl_copyHeads : Nat := 121
def c_impl_copyHeads : AF := ⟨1, 5, [.tmp 2], (.seq (.ops [.i (.mov 2 (.c (.val false [.nils])))]) (.seq (.ops [.i (.bse 6), .i (.mov 3 (.s 6))]) (.seq (.seq (.ops [.i (.mov 7 (.s 0)), .i (.len 8 false (.s 7)), .i (.mov 9 (.c (.val false [.int .i64 0])))]) (.block 0 (.loop [18, 17, 16, 15, 14, 13, 12, 11, 10, 5] (.seq (.ops [.i (.bin 10 .lss (.s 9) (.s 8))]) (.seq (.cond (.s 10) .skip (.exit 0)) (.seq (.block 1 (.seq (.ops [.i (.iad 11 (.s 7) (.s 9) 10), .i (.ldh 12 (.s 11) 10 true), .i (.lal 5 [.int .i64 0, .int .i64 0, .int .i64 0, .nils, .nils, .int .i64 0, .int .i64 0, .nils, .nils, .nils]), .i (.stl 5 (.s 5) (.s 12) 10)]) (.ops [.i (.mov 13 (.s 3)), .i (.ldl 14 5 (.s 5) 10 true), .i (.call 16 88 false [(.s 14)]), .i (.lsl 16 10 1 [.int .i64 0, .int .i64 0, .int .i64 0, .nils, .nils, .int .i64 0, .int .i64 0, .nils, .nils, .nils] [(0, 10, (.s 15))]), .i (.app 17 35 10 160 (.s 13) (.s 16)), .i (.mov 3 (.s 17))]))) (.ops [.i (.bin 18 .add (.s 9) (.c (.val false [.int .i64 1]))), .i (.mov 9 (.s 18))]))))))) (.seq (.ops [.i (.mov 19 (.s 3)), .i (.mov 2 (.s 19))]) .ret))))⟩
theorem k_impl_copyHeads : cd n_impl_copyHeads = some c_impl_copyHeads := by kernel_rfl
theorem copyHeads_ok (l : List Head) (h0 : Sz l.length) (hw : ∀ h ∈ l, h.wc) : VC cd n_impl_copyHeads (mkP [(false, [.sl (hds l)])]) (fun rs _ => rs = [(false, [.o true (some (35, 10)) (hds l)])]) := by
  simp only [Sz] at h0
  refine VC_enter k_impl_copyHeads rfl ?_
  simp (disch := omega) [c_impl_copyHeads, hds_len, VE, VXR, VP, VB, kof, bl, it]
  refine VX_loop3 (σ := Nat × Nat) (f1 := _) (es0 := _) (by simp (disch := omega) [VE, VXR, VP, VB, kof, bl, it]; rfl) (by simp (disch := omega) [VE, VXR, VP, VB, kof, bl, it]; rfl) (fun p => [(9, .val false [.int .i64 p.1]), (3, .val false [.ow 6 p.2])]) (fun p => [(6, .sl p.2 true true (some (35, 10)) (hds (l.take p.1)))])
    (fun p g => g + p.1 = l.length) (0, 1) l.length (by simp (disch := omega) [VE, VXR, VP, VB, kof, bl, it]) (by simp (disch := omega) [hds, VE, VXR, VP, VB, kof, bl, it]) (by omega) ?_
  rintro ⟨i, v⟩ n g hg
  simp only at hg
  simp (disch := omega) [VE, VXR, VP, VB, kof, bl, it]
  refine VXB_dec (fun h1 => ?_) (fun h1 => ?_)
  · have hx : i < l.length := by omega
    simp (disch := omega) [hds_get hx, Head.c, VE, VXR, VP, VB, kof, bl, it]
    refine VXC_e (Head_copied_ok l[i] (hw _ (List.getElem_mem hx))) rfl rfl ?_
    have hl : (hds (l.take i)).length = i := by rw [hds_len]; simp; omega
    have hs := hds_snoc hx
    simp only [Head.c] at hs
    simp (disch := omega) [hl, Head.o, hs, VE, VXR, VP, VB, kof, bl, it]
    exact ⟨i + 1, n + 10, g - 1, by omega, by omega, ⟨by omega, by omega⟩, by omega, rfl⟩
  · simp (disch := omega) [VE, VXR, VP, VB, kof, bl, it]
    have : i = l.length := by omega
    subst this
    rw [List.take_length]
abbrev n_spec_l16Heads : Nat := 120
def c_spec_l16Heads : AF := ⟨1, 5, [.tmp 2], (.seq (.ops [.i (.mov 2 (.c (.val false [.nils])))]) (.seq (.ops [.i (.bse 6), .i (.mov 3 (.s 6))]) (.seq (.seq (.ops [.i (.mov 7 (.s 0)), .i (.len 8 false (.s 7)), .i (.mov 9 (.c (.val false [.int .i64 0])))]) (.block 0 (.loop [18, 17, 16, 15, 14, 13, 12, 11, 10, 5] (.seq (.ops [.i (.bin 10 .lss (.s 9) (.s 8))]) (.seq (.cond (.s 10) .skip (.exit 0)) (.seq (.block 1 (.seq (.ops [.i (.iad 11 (.s 7) (.s 9) 10), .i (.ldh 12 (.s 11) 10 true), .i (.lal 5 [.int .i64 0, .int .i64 0, .int .i64 0, .nils, .nils, .int .i64 0, .int .i64 0, .nils, .nils, .nils]), .i (.stl 5 (.s 5) (.s 12) 10)]) (.ops [.i (.mov 13 (.s 3)), .i (.ldl 14 5 (.s 5) 10 true), .i (.call 16 83 false [(.s 14)]), .i (.lsl 16 10 1 [.int .i64 0, .int .i64 0, .int .i64 0, .nils, .nils, .int .i64 0, .int .i64 0, .nils, .nils, .nils] [(0, 10, (.s 15))]), .i (.app 17 35 10 160 (.s 13) (.s 16)), .i (.mov 3 (.s 17))]))) (.ops [.i (.bin 18 .add (.s 9) (.c (.val false [.int .i64 1]))), .i (.mov 9 (.s 18))]))))))) (.seq (.ops [.i (.mov 19 (.s 3)), .i (.mov 2 (.s 19))]) .ret))))⟩
theorem k_spec_l16Heads : cd n_spec_l16Heads = some c_spec_l16Heads := by kernel_rfl
theorem l16Heads_ok (l : List Head) (h0 : Sz l.length) (hw : ∀ h ∈ l, h.wc) : VC cd n_spec_l16Heads (mkP [(false, [.sl (hds l)])]) (fun rs _ => rs = [(false, [.o true (some (35, 10)) (hds l)])]) := by
  simp only [Sz] at h0
  refine VC_enter k_spec_l16Heads rfl ?_
  simp (disch := omega) [c_spec_l16Heads, hds_len, VE, VXR, VP, VB, kof, bl, it]
  refine VX_loop3 (σ := Nat × Nat) (f1 := _) (es0 := _) (by simp (disch := omega) [VE, VXR, VP, VB, kof, bl, it]; rfl) (by simp (disch := omega) [VE, VXR, VP, VB, kof, bl, it]; rfl) (fun p => [(9, .val false [.int .i64 p.1]), (3, .val false [.ow 6 p.2])]) (fun p => [(6, .sl p.2 true true (some (35, 10)) (hds (l.take p.1)))])
    (fun p g => g + p.1 = l.length) (0, 1) l.length (by simp (disch := omega) [VE, VXR, VP, VB, kof, bl, it]) (by simp (disch := omega) [hds, VE, VXR, VP, VB, kof, bl, it]) (by omega) ?_
  rintro ⟨i, v⟩ n g hg
  simp only at hg
  simp (disch := omega) [VE, VXR, VP, VB, kof, bl, it]
  refine VXB_dec (fun h1 => ?_) (fun h1 => ?_)
  · have hx : i < l.length := by omega
    simp (disch := omega) [hds_get hx, Head.c, VE, VXR, VP, VB, kof, bl, it]
    refine VXC_e (l13Copy_ok l[i] (hw _ (List.getElem_mem hx))) rfl rfl ?_
    have hl : (hds (l.take i)).length = i := by rw [hds_len]; simp; omega
    have hs := hds_snoc hx
    simp only [Head.c] at hs
    simp (disch := omega) [hl, Head.o, hs, VE, VXR, VP, VB, kof, bl, it]
    exact ⟨i + 1, n + 10, g - 1, by omega, by omega, ⟨by omega, by omega⟩, by omega, rfl⟩
  · simp (disch := omega) [VE, VXR, VP, VB, kof, bl, it]
    have : i = l.length := by omega
    subst this
    rw [List.take_length]
/-! ### Proofs -/
def Proof.wc (p : Proof) : Prop := p.wf ∧ (∀ h ∈ p.heads, h.wc) ∧ p.qc.wc
def Proof.o (p : Proof) : List E := [.o true (some (35, 10)) (hds p.heads), .p (.int .i64 p.qc.view), .p (.int .i64 p.qc.height), .o true (some (5, 1)) (bytes p.qc.block), .o true (some (5, 1)) (bytes p.qc.bits), .o true (some (22, 1)) (bss p.qc.tags)]
abbrev n_impl_Proof_copied : Nat := 96
def c_impl_Proof_copied : AF := ⟨1, 4, [.cell 2 6 true], (.seq (.ops [.i (.lbox 1 (.s 0)), .i (.lal 2 [.nils, .int .i64 0, .int .i64 0, .nils, .nils, .nils])]) (.seq (.ops [.i (.fad 3 (.s 1) 0), .i (.ldl 4 1 (.s 3) 1 false), .i (.call 6 121 false [(.s 4)]), .i (.fad 6 (.s 1) 1), .i (.ldl 7 1 (.s 6) 5 true), .i (.call 9 134 false [(.s 7)]), .i (.bld 9 [.nils, .int .i64 0, .int .i64 0, .nils, .nils, .nils] [(0, 1, (.s 5)), (1, 5, (.s 8))]), .i (.stl 2 (.s 2) (.s 9) 6)]) .ret))⟩
theorem k_impl_Proof_copied : cd n_impl_Proof_copied = some c_impl_Proof_copied := by kernel_rfl
theorem Proof_copied_ok (p : Proof) (hw : p.wc) : VC cd n_impl_Proof_copied (mkP [(true, p.c)]) (fun rs _ => rs = [(true, p.o)]) := by
  refine VC_enter k_impl_Proof_copied rfl ?_
  simp (disch := omega) [c_impl_Proof_copied, Proof.c, VE, VXR, VP, VB, kof, bl, it]
  refine VXC_e (copyHeads_ok p.heads hw.1.1.1 hw.2.1) rfl rfl ?_
  simp (disch := omega) [VE, VXR, VP, VB, kof, bl, it]
  refine VXC_e (Qc_copied_ok p.qc hw.2.2) rfl rfl ?_
  simp (disch := omega) [Proof.o, Qc.o, VE, VXR, VP, VB, kof, bl, it]
abbrev n_spec_l16Copy : Nat := 94
def c_spec_l16Copy : AF := ⟨1, 4, [.cell 2 6 true], (.seq (.ops [.i (.lbox 1 (.s 0)), .i (.lal 2 [.nils, .int .i64 0, .int .i64 0, .nils, .nils, .nils])]) (.seq (.ops [.i (.fad 3 (.s 1) 0), .i (.ldl 4 1 (.s 3) 1 false), .i (.call 6 120 false [(.s 4)]), .i (.fad 6 (.s 1) 1), .i (.ldl 7 1 (.s 6) 5 true), .i (.call 9 128 false [(.s 7)]), .i (.bld 9 [.nils, .int .i64 0, .int .i64 0, .nils, .nils, .nils] [(0, 1, (.s 5)), (1, 5, (.s 8))]), .i (.stl 2 (.s 2) (.s 9) 6)]) .ret))⟩
theorem k_spec_l16Copy : cd n_spec_l16Copy = some c_spec_l16Copy := by kernel_rfl
theorem l16Copy_ok (p : Proof) (hw : p.wc) : VC cd n_spec_l16Copy (mkP [(true, p.c)]) (fun rs _ => rs = [(true, p.o)]) := by
  refine VC_enter k_spec_l16Copy rfl ?_
  simp (disch := omega) [c_spec_l16Copy, Proof.c, VE, VXR, VP, VB, kof, bl, it]
  refine VXC_e (l16Heads_ok p.heads hw.1.1.1 hw.2.1) rfl rfl ?_
  simp (disch := omega) [VE, VXR, VP, VB, kof, bl, it]
  refine VXC_e (l12Copy_ok p.qc hw.2.2) rfl rfl ?_
  simp (disch := omega) [Proof.o, Qc.o, VE, VXR, VP, VB, kof, bl, it]
def ofProofE (p : Proof) : List (Bool × List E) := [(true, [.p (.int .i64 6), .p (.int .i64 0), .p (.int .i64 0), .p .nils, .p (.int .i64 0), .p .nils, .p (.int .i64 0), .p (.int .i64 0), .p .nils, .p .nils, .p .nils, .p (.int .i64 0), .p (.int .i64 0), .p (.int .i64 0), .p .nils, .p .nils, .p (.int .i64 0), .p (.int .i64 0), .p .nils, .p .nils, .p .nils, .p (.int .i64 0), .p (.int .i64 0), .p (.int .i64 0), .p .nils, .p .nils, .p (.int .i64 0), .p (.int .i64 0), .p .nils, .p .nils, .p .nils, .p .nils, .p (.int .i64 0), .p .nils, .o true (some (35, 10)) (hds p.heads), .p (.int .i64 p.qc.view), .p (.int .i64 p.qc.height), .o true (some (5, 1)) (bytes p.qc.block), .o true (some (5, 1)) (bytes p.qc.bits), .o true (some (22, 1)) (bss p.qc.tags), .p (.int .i64 0), .p (.int .i64 0), .p (.int .i64 0), .p .nils, .p .nils])]
abbrev n_impl_OfProof : Nat := 36
def c_impl_OfProof : AF := ⟨1, 3, [.cell 2 45 true], (.seq (.ops [.i (.lbox 1 (.s 0)), .i (.lal 2 [.int .i64 0, .int .i64 0, .int .i64 0, .nils, .int .i64 0, .nils, .int .i64 0, .int .i64 0, .nils, .nils, .nils, .int .i64 0, .int .i64 0, .int .i64 0, .nils, .nils, .int .i64 0, .int .i64 0, .nils, .nils, .nils, .int .i64 0, .int .i64 0, .int .i64 0, .nils, .nils, .int .i64 0, .int .i64 0, .nils, .nils, .nils, .nils, .int .i64 0, .nils, .nils, .int .i64 0, .int .i64 0, .nils, .nils, .nils, .int .i64 0, .int .i64 0, .int .i64 0, .nils, .nils])]) (.seq (.ops [.i (.ldl 3 1 (.s 1) 6 true), .i (.call 5 96 false [(.s 3)]), .i (.bld 5 [.int .i64 0, .int .i64 0, .int .i64 0, .nils, .int .i64 0, .nils, .int .i64 0, .int .i64 0, .nils, .nils, .nils, .int .i64 0, .int .i64 0, .int .i64 0, .nils, .nils, .int .i64 0, .int .i64 0, .nils, .nils, .nils, .int .i64 0, .int .i64 0, .int .i64 0, .nils, .nils, .int .i64 0, .int .i64 0, .nils, .nils, .nils, .nils, .int .i64 0, .nils, .nils, .int .i64 0, .int .i64 0, .nils, .nils, .nils, .int .i64 0, .int .i64 0, .int .i64 0, .nils, .nils] [(0, 1, (.c (.val false [.int .i64 6]))), (34, 6, (.s 4))]), .i (.stl 2 (.s 2) (.s 5) 45)]) .ret))⟩
theorem k_impl_OfProof : cd n_impl_OfProof = some c_impl_OfProof := by kernel_rfl
theorem impl_OfProof_ok (p : Proof) (hw : p.wc) : VC cd n_impl_OfProof (mkP [(true, p.c)]) (fun rs _ => rs = ofProofE p) := by
  refine VC_enter k_impl_OfProof rfl ?_
  simp (disch := omega) [c_impl_OfProof, Proof.c, VE, VXR, VP, VB, kof, bl, it]
  refine VXC_e (Proof_copied_ok p hw) rfl rfl ?_
  simp (disch := omega) [ofProofE, Proof.o, VE, VXR, VP, VB, kof, bl, it]
abbrev n_spec_OfProof : Nat := 34
def c_spec_OfProof : AF := ⟨1, 3, [.cell 2 45 true], (.seq (.ops [.i (.lbox 1 (.s 0)), .i (.lal 2 [.int .i64 0, .int .i64 0, .int .i64 0, .nils, .int .i64 0, .nils, .int .i64 0, .int .i64 0, .nils, .nils, .nils, .int .i64 0, .int .i64 0, .int .i64 0, .nils, .nils, .int .i64 0, .int .i64 0, .nils, .nils, .nils, .int .i64 0, .int .i64 0, .int .i64 0, .nils, .nils, .int .i64 0, .int .i64 0, .nils, .nils, .nils, .nils, .int .i64 0, .nils, .nils, .int .i64 0, .int .i64 0, .nils, .nils, .nils, .int .i64 0, .int .i64 0, .int .i64 0, .nils, .nils])]) (.seq (.ops [.i (.ldl 3 1 (.s 1) 6 true), .i (.call 5 94 false [(.s 3)]), .i (.bld 5 [.int .i64 0, .int .i64 0, .int .i64 0, .nils, .int .i64 0, .nils, .int .i64 0, .int .i64 0, .nils, .nils, .nils, .int .i64 0, .int .i64 0, .int .i64 0, .nils, .nils, .int .i64 0, .int .i64 0, .nils, .nils, .nils, .int .i64 0, .int .i64 0, .int .i64 0, .nils, .nils, .int .i64 0, .int .i64 0, .nils, .nils, .nils, .nils, .int .i64 0, .nils, .nils, .int .i64 0, .int .i64 0, .nils, .nils, .nils, .int .i64 0, .int .i64 0, .int .i64 0, .nils, .nils] [(0, 1, (.c (.val false [.int .i64 6]))), (34, 6, (.s 4))]), .i (.stl 2 (.s 2) (.s 5) 45)]) .ret))⟩
theorem k_spec_OfProof : cd n_spec_OfProof = some c_spec_OfProof := by kernel_rfl
theorem spec_OfProof_ok (p : Proof) (hw : p.wc) : VC cd n_spec_OfProof (mkP [(true, p.c)]) (fun rs _ => rs = ofProofE p) := by
  refine VC_enter k_spec_OfProof rfl ?_
  simp (disch := omega) [c_spec_OfProof, Proof.c, VE, VXR, VP, VB, kof, bl, it]
  refine VXC_e (l16Copy_ok p hw) rfl rfl ?_
  simp (disch := omega) [ofProofE, Proof.o, VE, VXR, VP, VB, kof, bl, it]
theorem hdsT_tok {l : List Head} (h : Sz l.length) (h2 : ∀ x ∈ l, x.wc) : TvOk (.sl THead) (hdsT l) := by
  unfold hdsT
  refine ok_sl.2 ⟨by unfold Sz at h; rw [List.length_map, maxLen_eq]; omega, fun v hv => ?_⟩
  obtain ⟨x, hx, rfl⟩ := List.mem_map.1 hv
  exact (h2 x hx).tok
theorem Proof.of' {q : Proof} (h : TvOk TProof q.tv) (hw : wt q.tv ≤ 1048576) : q.wc := Proof.of h hw
theorem Proof.wc.tok {q : Proof} (h : q.wc) : TvOk TProof q.tv := by
  simp only [Proof.tv, ok_st, okS_cons]
  exact ⟨hdsT_tok h.1.1.1 h.2.1, h.2.2.tok, okS_nil.2 trivial⟩
def ofProofT (p : Proof) : Tv := .r [.i 6, .r [.i 0, .i 0, .l [], .i 0, .l []], .r [.i 0, .i 0, .l [], .l [], .l []], .r [.i 0, .i 0, .i 0, .l [], .l [], .r [.i 0, .i 0, .l [], .l [], .l []]], .r [.r [.i 0, .i 0, .i 0, .l [], .l [], .r [.i 0, .i 0, .l [], .l [], .l []]], .l []], .r [.i 0, .l []], p.tv, .r [.i 0, .i 0, .i 0, .l [], .l []]]
theorem ofProof_wt (p : Proof) : wt (ofProofT p) = wt p.tv := by simp [ofProofT, wt, wts]
theorem ofProof_rs {p : Proof} (hw : p.wc) : RsE (ofProofE p) [(TMsg, ofProofT p)] := by
  have ht := hw.tok
  refine ⟨rfl, ?_, ?_, trivial⟩
  · simp only [ofProofT, enc_st, encS_cons, encS_nil, Proof.enc, Proof.c, enc_int, enc_nil, List.cons_append, List.nil_append, EEq, D.leaf, and_self]
  · simp only [ofProofT, ok_st, okS_cons, okS_nil, okN, ok0, and_true, true_and]
    exact ⟨i64_ok (by unfold I64; omega), ok_st.1 ht⟩
theorem io_impl_OfProof {h : H} {p : Proof} {ms : List (Bool × List C)} (ha : ArgsRp h [(TProof, p.tv)] ms) (hp : wt p.tv ≤ 1048576) :
    WC cd n_impl_OfProof ms h (Ans h [(TMsg, ofProofT p)]) := by
  have hw := Proof.of' (ArgsRp.ok1 ha).1 hp
  have hc := impl_OfProof_ok p hw
  have e : encA [(TProof, p.tv)] = [(true, p.c)] := by simp only [encA, List.map, Proof.enc, Ty.agg]
  rw [← e] at hc
  exact hc.wc ha fun rs q => by rw [q]; exact ofProof_rs hw
theorem io_spec_OfProof {h : H} {p : Proof} {ms : List (Bool × List C)} (ha : ArgsRp h [(TProof, p.tv)] ms) (hp : wt p.tv ≤ 1048576) :
    WC cd n_spec_OfProof ms h (Ans h [(TMsg, ofProofT p)]) := by
  have hw := Proof.of' (ArgsRp.ok1 ha).1 hp
  have hc := spec_OfProof_ok p hw
  have e : encA [(TProof, p.tv)] = [(true, p.c)] := by simp only [encA, List.map, Proof.enc, Ty.agg]
  rw [← e] at hc
  exact hc.wc ha fun rs q => by rw [q]; exact ofProof_rs hw
/-! ### Blocks -/
structure Block where
  head : Head
  txs : List Bytes
def Block.c (x : Block) : List D := x.head.c ++ [.sl (bss x.txs)]
def Block.wc (x : Block) : Prop := x.head.wc ∧ BssWf x.txs
def Block.o (x : Block) : List E := [.p (.int .i64 x.head.view), .p (.int .i64 x.head.height), .p (.int .i64 x.head.proposer), .o true (some (5, 1)) (bytes x.head.parent), .o true (some (5, 1)) (bytes x.head.root), .p (.int .i64 x.head.qc.view), .p (.int .i64 x.head.qc.height), .o true (some (5, 1)) (bytes x.head.qc.block), .o true (some (5, 1)) (bytes x.head.qc.bits), .o true (some (22, 1)) (bss x.head.qc.tags), .o true (some (22, 1)) (bss x.txs)]
def Block.tv (x : Block) : Tv := .r [x.head.tv, bssT x.txs]
theorem Block.enc (x : Block) : enc TBlock x.tv = x.c := by simp only [Block.tv, Head.enc, enc_st, encS_cons, encS_nil, enc_int, enc_bool, enc_str, enc_bs, enc_bss', enc_ints, Block.c, Head.c, Head.c, Qc.c, List.cons_append, List.nil_append, List.append_assoc]
theorem Block.ex {v : Tv} (h : TvOk TBlock v) : ∃ x : Block, v = x.tv := by
  obtain ⟨vs, rfl, h⟩ := h.st
  obtain ⟨v0, _, rfl, h0, h⟩ := h.step
  obtain ⟨v1, _, rfl, h1, h⟩ := h.step
  obtain rfl := h.fin
  obtain ⟨n0, rfl⟩ := Head.ex h0
  obtain ⟨n1, rfl⟩ := bssT_ex h1
  exact ⟨⟨n0, n1⟩, rfl⟩
theorem Block.of {x : Block} (h : TvOk TBlock x.tv) (hw : wt x.tv ≤ 1048576) : x.wc := by
  simp only [Block.tv, ok_st, okS_cons] at h
  simp only [Block.tv, wt, wts] at hw
  obtain ⟨h0, h1, _⟩ := h
  exact ⟨Head.of h0 (by omega), bss_of (by omega)⟩
theorem Block.wc.tok {x : Block} (h : x.wc) : TvOk TBlock x.tv := by
  simp only [Block.tv, ok_st, okS_cons]
  obtain ⟨h0, h1⟩ := h
  exact ⟨h0.tok, sz_bss h1.1 h1.2, okS_nil.2 trivial⟩
theorem Block.of' {q : Block} (h : TvOk TBlock q.tv) (hw : wt q.tv ≤ 1048576) : q.wc := Block.of h hw
end Go.Eng.F
