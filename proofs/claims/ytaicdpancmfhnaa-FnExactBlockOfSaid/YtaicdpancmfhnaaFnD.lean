/-
  Functions: proofs, copies.
-/
import Derived.Test.YtaicdpancmfhnaaFnC
set_option maxRecDepth 100000
set_option linter.unusedSimpArgs false
set_option linter.unusedVariables false
namespace Go.Eng.F
structure Proof where
  heads : List Head
  qc : Qc
def Proof.c (p : Proof) : List D := [.sl (hds p.heads), .int .i64 p.qc.view, .int .i64 p.qc.height, .sl (bytes p.qc.block), .sl (bytes p.qc.bits), .sl (bss p.qc.tags)]
def Proof.wf (p : Proof) : Prop := HeadsWf p.heads ∧ p.qc.wf
/-! ### Copies -/
abbrev n_impl_copyBytes : Nat := 133
def c_impl_copyBytes : AF := ⟨1, 3, [.tmp 2], (.seq (.ops [.i (.mov 2 (.c (.val false [.nils])))]) (.seq (.ops [.i (.bse 3), .i (.mov 4 (.s 0)), .i (.app 5 5 1 1 (.s 3) (.s 4)), .i (.mov 2 (.s 5))]) .ret))⟩
theorem k_impl_copyBytes : cd n_impl_copyBytes = some c_impl_copyBytes := by kernel_rfl
theorem copyBytes_ok (x : Bytes) (hx : x.length ≤ 1099511627776) : VC cd n_impl_copyBytes (mkP [(false, [.sl (bytes x)])]) (fun rs _ => rs = [(false, [.o true (some (5, 1)) (bytes x)])]) := by
  refine VC_enter k_impl_copyBytes rfl ?_
  simp (disch := omega) [c_impl_copyBytes, VE, VXR, VP, VB, kof, bl, it]
abbrev n_spec_l01Copy : Nat := 127
def c_spec_l01Copy : AF := ⟨1, 3, [.tmp 2], (.seq (.ops [.i (.mov 2 (.c (.val false [.nils])))]) (.seq (.ops [.i (.bse 3), .i (.mov 4 (.s 0)), .i (.app 5 5 1 1 (.s 3) (.s 4)), .i (.mov 2 (.s 5))]) .ret))⟩
theorem k_spec_l01Copy : cd n_spec_l01Copy = some c_spec_l01Copy := by kernel_rfl
theorem l01Copy_ok (x : Bytes) (hx : x.length ≤ 1099511627776) : VC cd n_spec_l01Copy (mkP [(false, [.sl (bytes x)])]) (fun rs _ => rs = [(false, [.o true (some (5, 1)) (bytes x)])]) := by
  refine VC_enter k_spec_l01Copy rfl ?_
  simp (disch := omega) [c_spec_l01Copy, VE, VXR, VP, VB, kof, bl, it]
def BssWf (l : List Bytes) : Prop := Sz l.length ∧ ∀ x ∈ l, Sz x.length
theorem wid_bss (l : List Bytes) : wid 1 (bss l) = true := by
  induction l with
  | nil => rfl
  | cons b x ih => simp only [bss, List.map_cons, wid] at ih ⊢; simpa using ih
theorem bss_snoc {l : List Bytes} {i : Nat} (h : i < l.length) : bss (l.take i) ++ [[.sl (bytes l[i])]] = bss (l.take (i + 1)) := by
  have e : bss (l.take (i + 1)) = bss (l.take i) ++ bss [l[i]] := by
    rw [List.take_add_one, List.getElem?_eq_getElem h]; exact List.map_append
  rw [e]; rfl
abbrev n_impl_copyList : Nat := 89
def c_impl_copyList : AF := ⟨1, 5, [.tmp 2], (.seq (.ops [.i (.mov 2 (.c (.val false [.nils])))]) (.seq (.ops [.i (.bse 6), .i (.mov 3 (.s 6))]) (.seq (.seq (.ops [.i (.mov 7 (.s 0)), .i (.len 8 false (.s 7)), .i (.mov 9 (.c (.val false [.int .i64 0])))]) (.block 0 (.loop [18, 17, 16, 15, 14, 13, 12, 11, 10, 5] (.seq (.ops [.i (.bin 10 .lss (.s 9) (.s 8))]) (.seq (.cond (.s 10) .skip (.exit 0)) (.seq (.block 1 (.seq (.ops [.i (.iad 11 (.s 7) (.s 9) 1), .i (.ldh 12 (.s 11) 1 false), .i (.mov 5 (.s 12))]) (.ops [.i (.mov 13 (.s 3)), .i (.mov 14 (.s 5)), .i (.call 16 133 false [(.s 14)]), .i (.lsl 16 1 1 [.nils] [(0, 1, (.s 15))]), .i (.app 17 22 1 24 (.s 13) (.s 16)), .i (.mov 3 (.s 17))]))) (.ops [.i (.bin 18 .add (.s 9) (.c (.val false [.int .i64 1]))), .i (.mov 9 (.s 18))]))))))) (.seq (.ops [.i (.mov 19 (.s 3)), .i (.mov 2 (.s 19))]) .ret))))⟩
theorem k_impl_copyList : cd n_impl_copyList = some c_impl_copyList := by kernel_rfl
theorem copyList_ok (l : List Bytes) (hw : BssWf l) : VC cd n_impl_copyList (mkP [(false, [.sl (bss l)])]) (fun rs _ => rs = [(false, [.o true (some (22, 1)) (bss l)])]) := by
  obtain ⟨w1, w2⟩ := hw
  simp only [Sz] at w1 w2
  refine VC_enter k_impl_copyList rfl ?_
  simp (disch := omega) [c_impl_copyList, bss_len, VE, VXR, VP, VB, kof, bl, it]
  refine VX_loop3 (σ := Nat × Nat) (f1 := _) (es0 := _) (by simp (disch := omega) [VE, VXR, VP, VB, kof, bl, it]; rfl) (by simp (disch := omega) [VE, VXR, VP, VB, kof, bl, it]; rfl) (fun p => [(9, .val false [.int .i64 p.1]), (3, .val false [.ow 6 p.2])]) (fun p => [(6, .sl p.2 true true (some (22, 1)) (bss (l.take p.1)))])
    (fun p g => g + p.1 = l.length) (0, 1) l.length (by simp (disch := omega) [VE, VXR, VP, VB, kof, bl, it]) (by simp (disch := omega) [bss, VE, VXR, VP, VB, kof, bl, it]) (by omega) ?_
  rintro ⟨i, v⟩ n g hg
  simp only at hg
  simp (disch := omega) [VE, VXR, VP, VB, kof, bl, it]
  refine VXB_dec (fun h1 => ?_) (fun h1 => ?_)
  · have hx : i < l.length := by omega
    simp (disch := omega) [bss_get hx, VE, VXR, VP, VB, kof, bl, it]
    refine VXC_e (copyBytes_ok l[i] (by have := w2 _ (List.getElem_mem hx); omega)) rfl rfl ?_
    have hl : (bss (l.take i)).length = i := by rw [bss_len]; simp; omega
    simp (disch := omega) [hl, bss_snoc hx, VE, VXR, VP, VB, kof, bl, it]
    exact ⟨i + 1, n + 1, g - 1, by omega, by omega, ⟨by omega, by omega⟩, by omega, rfl⟩
  · simp (disch := omega) [VE, VXR, VP, VB, kof, bl, it]
    have : i = l.length := by omega
    subst this
    rw [List.take_length]
abbrev n_spec_l06Copy : Nat := 84
def c_spec_l06Copy : AF := ⟨1, 5, [.tmp 2], (.seq (.ops [.i (.mov 2 (.c (.val false [.nils])))]) (.seq (.ops [.i (.bse 6), .i (.mov 3 (.s 6))]) (.seq (.seq (.ops [.i (.mov 7 (.s 0)), .i (.len 8 false (.s 7)), .i (.mov 9 (.c (.val false [.int .i64 0])))]) (.block 0 (.loop [18, 17, 16, 15, 14, 13, 12, 11, 10, 5] (.seq (.ops [.i (.bin 10 .lss (.s 9) (.s 8))]) (.seq (.cond (.s 10) .skip (.exit 0)) (.seq (.block 1 (.seq (.ops [.i (.iad 11 (.s 7) (.s 9) 1), .i (.ldh 12 (.s 11) 1 false), .i (.mov 5 (.s 12))]) (.ops [.i (.mov 13 (.s 3)), .i (.mov 14 (.s 5)), .i (.call 16 127 false [(.s 14)]), .i (.lsl 16 1 1 [.nils] [(0, 1, (.s 15))]), .i (.app 17 22 1 24 (.s 13) (.s 16)), .i (.mov 3 (.s 17))]))) (.ops [.i (.bin 18 .add (.s 9) (.c (.val false [.int .i64 1]))), .i (.mov 9 (.s 18))]))))))) (.seq (.ops [.i (.mov 19 (.s 3)), .i (.mov 2 (.s 19))]) .ret))))⟩
theorem k_spec_l06Copy : cd n_spec_l06Copy = some c_spec_l06Copy := by kernel_rfl
theorem l06Copy_ok (l : List Bytes) (hw : BssWf l) : VC cd n_spec_l06Copy (mkP [(false, [.sl (bss l)])]) (fun rs _ => rs = [(false, [.o true (some (22, 1)) (bss l)])]) := by
  obtain ⟨w1, w2⟩ := hw
  simp only [Sz] at w1 w2
  refine VC_enter k_spec_l06Copy rfl ?_
  simp (disch := omega) [c_spec_l06Copy, bss_len, VE, VXR, VP, VB, kof, bl, it]
  refine VX_loop3 (σ := Nat × Nat) (f1 := _) (es0 := _) (by simp (disch := omega) [VE, VXR, VP, VB, kof, bl, it]; rfl) (by simp (disch := omega) [VE, VXR, VP, VB, kof, bl, it]; rfl) (fun p => [(9, .val false [.int .i64 p.1]), (3, .val false [.ow 6 p.2])]) (fun p => [(6, .sl p.2 true true (some (22, 1)) (bss (l.take p.1)))])
    (fun p g => g + p.1 = l.length) (0, 1) l.length (by simp (disch := omega) [VE, VXR, VP, VB, kof, bl, it]) (by simp (disch := omega) [bss, VE, VXR, VP, VB, kof, bl, it]) (by omega) ?_
  rintro ⟨i, v⟩ n g hg
  simp only at hg
  simp (disch := omega) [VE, VXR, VP, VB, kof, bl, it]
  refine VXB_dec (fun h1 => ?_) (fun h1 => ?_)
  · have hx : i < l.length := by omega
    simp (disch := omega) [bss_get hx, VE, VXR, VP, VB, kof, bl, it]
    refine VXC_e (l01Copy_ok l[i] (by have := w2 _ (List.getElem_mem hx); omega)) rfl rfl ?_
    have hl : (bss (l.take i)).length = i := by rw [bss_len]; simp; omega
    simp (disch := omega) [hl, bss_snoc hx, VE, VXR, VP, VB, kof, bl, it]
    exact ⟨i + 1, n + 1, g - 1, by omega, by omega, ⟨by omega, by omega⟩, by omega, rfl⟩
  · simp (disch := omega) [VE, VXR, VP, VB, kof, bl, it]
    have : i = l.length := by omega
    subst this
    rw [List.take_length]
def Qc.o (q : Qc) : List E := [.p (.int .i64 q.view), .p (.int .i64 q.height), .o true (some (5, 1)) (bytes q.block), .o true (some (5, 1)) (bytes q.bits), .o true (some (22, 1)) (bss q.tags)]
def Qc.wc (q : Qc) : Prop := q.wf ∧ ∀ x ∈ q.tags, Sz x.length
theorem Qc.wc.t {q : Qc} (h : q.wc) : BssWf q.tags := ⟨h.1.2.2.2.2, h.2⟩
abbrev n_impl_Qc_copied : Nat := 134
def c_impl_Qc_copied : AF := ⟨1, 5, [.cell 2 5 true], (.seq (.ops [.i (.lbox 1 (.s 0)), .i (.lal 2 [.int .i64 0, .int .i64 0, .nils, .nils, .nils])]) (.seq (.ops [.i (.fad 3 (.s 1) 0), .i (.ldl 4 1 (.s 3) 1 false), .i (.fad 5 (.s 1) 1), .i (.ldl 6 1 (.s 5) 1 false), .i (.fad 7 (.s 1) 2), .i (.ldl 8 1 (.s 7) 1 false), .i (.call 10 133 false [(.s 8)]), .i (.fad 10 (.s 1) 3), .i (.ldl 11 1 (.s 10) 1 false), .i (.call 13 133 false [(.s 11)]), .i (.fad 13 (.s 1) 4), .i (.ldl 14 1 (.s 13) 1 false), .i (.call 16 89 false [(.s 14)]), .i (.bld 16 [.int .i64 0, .int .i64 0, .nils, .nils, .nils] [(0, 1, (.s 4)), (1, 1, (.s 6)), (2, 1, (.s 9)), (3, 1, (.s 12)), (4, 1, (.s 15))]), .i (.stl 2 (.s 2) (.s 16) 5)]) .ret))⟩
theorem k_impl_Qc_copied : cd n_impl_Qc_copied = some c_impl_Qc_copied := by kernel_rfl
theorem Qc_copied_ok (q : Qc) (hw : q.wc) : VC cd n_impl_Qc_copied (mkP [(true, q.c)]) (fun rs _ => rs = [(true, q.o)]) := by
  have ht := hw.t
  obtain ⟨⟨w1, w2, w3, w4, w5⟩, w6⟩ := hw
  simp only [Sz] at w3 w4
  refine VC_enter k_impl_Qc_copied rfl ?_
  simp (disch := omega) [c_impl_Qc_copied, Qc.c, VE, VXR, VP, VB, kof, bl, it]
  refine VXC_e (copyBytes_ok _ (by omega)) rfl rfl ?_
  simp (disch := omega) [VE, VXR, VP, VB, kof, bl, it]
  refine VXC_e (copyBytes_ok _ (by omega)) rfl rfl ?_
  simp (disch := omega) [VE, VXR, VP, VB, kof, bl, it]
  refine VXC_e (copyList_ok _ ht) rfl rfl ?_
  simp (disch := omega) [Qc.o, VE, VXR, VP, VB, kof, bl, it]
abbrev n_spec_l12Copy : Nat := 128
def c_spec_l12Copy : AF := ⟨1, 5, [.cell 2 5 true], (.seq (.ops [.i (.lbox 1 (.s 0)), .i (.lal 2 [.int .i64 0, .int .i64 0, .nils, .nils, .nils])]) (.seq (.ops [.i (.fad 3 (.s 1) 0), .i (.ldl 4 1 (.s 3) 1 false), .i (.fad 5 (.s 1) 1), .i (.ldl 6 1 (.s 5) 1 false), .i (.fad 7 (.s 1) 2), .i (.ldl 8 1 (.s 7) 1 false), .i (.call 10 127 false [(.s 8)]), .i (.fad 10 (.s 1) 3), .i (.ldl 11 1 (.s 10) 1 false), .i (.call 13 127 false [(.s 11)]), .i (.fad 13 (.s 1) 4), .i (.ldl 14 1 (.s 13) 1 false), .i (.call 16 84 false [(.s 14)]), .i (.bld 16 [.int .i64 0, .int .i64 0, .nils, .nils, .nils] [(0, 1, (.s 4)), (1, 1, (.s 6)), (2, 1, (.s 9)), (3, 1, (.s 12)), (4, 1, (.s 15))]), .i (.stl 2 (.s 2) (.s 16) 5)]) .ret))⟩
theorem k_spec_l12Copy : cd n_spec_l12Copy = some c_spec_l12Copy := by kernel_rfl
theorem l12Copy_ok (q : Qc) (hw : q.wc) : VC cd n_spec_l12Copy (mkP [(true, q.c)]) (fun rs _ => rs = [(true, q.o)]) := by
  have ht := hw.t
  obtain ⟨⟨w1, w2, w3, w4, w5⟩, w6⟩ := hw
  simp only [Sz] at w3 w4
  refine VC_enter k_spec_l12Copy rfl ?_
  simp (disch := omega) [c_spec_l12Copy, Qc.c, VE, VXR, VP, VB, kof, bl, it]
  refine VXC_e (l01Copy_ok _ (by omega)) rfl rfl ?_
  simp (disch := omega) [VE, VXR, VP, VB, kof, bl, it]
  refine VXC_e (l01Copy_ok _ (by omega)) rfl rfl ?_
  simp (disch := omega) [VE, VXR, VP, VB, kof, bl, it]
  refine VXC_e (l06Copy_ok _ ht) rfl rfl ?_
  simp (disch := omega) [Qc.o, VE, VXR, VP, VB, kof, bl, it]
def Head.o (h : Head) : List E := [.p (.int .i64 h.view), .p (.int .i64 h.height), .p (.int .i64 h.proposer), .o true (some (5, 1)) (bytes h.parent), .o true (some (5, 1)) (bytes h.root), .p (.int .i64 h.qc.view), .p (.int .i64 h.qc.height), .o true (some (5, 1)) (bytes h.qc.block), .o true (some (5, 1)) (bytes h.qc.bits), .o true (some (22, 1)) (bss h.qc.tags)]
def Head.wc (h : Head) : Prop := h.wf ∧ ∀ x ∈ h.qc.tags, Sz x.length
abbrev n_impl_Head_copied : Nat := 88
def c_impl_Head_copied : AF := ⟨1, 5, [.cell 2 10 true], (.seq (.ops [.i (.lbox 1 (.s 0)), .i (.lal 2 [.int .i64 0, .int .i64 0, .int .i64 0, .nils, .nils, .int .i64 0, .int .i64 0, .nils, .nils, .nils])]) (.seq (.ops [.i (.fad 3 (.s 1) 0), .i (.ldl 4 1 (.s 3) 1 false), .i (.fad 5 (.s 1) 1), .i (.ldl 6 1 (.s 5) 1 false), .i (.fad 7 (.s 1) 2), .i (.ldl 8 1 (.s 7) 1 false), .i (.fad 9 (.s 1) 3), .i (.ldl 10 1 (.s 9) 1 false), .i (.call 12 133 false [(.s 10)]), .i (.fad 12 (.s 1) 4), .i (.ldl 13 1 (.s 12) 1 false), .i (.call 15 133 false [(.s 13)]), .i (.fad 15 (.s 1) 5), .i (.ldl 16 1 (.s 15) 5 true), .i (.call 18 134 false [(.s 16)]), .i (.bld 18 [.int .i64 0, .int .i64 0, .int .i64 0, .nils, .nils, .int .i64 0, .int .i64 0, .nils, .nils, .nils] [(0, 1, (.s 4)), (1, 1, (.s 6)), (2, 1, (.s 8)), (3, 1, (.s 11)), (4, 1, (.s 14)), (5, 5, (.s 17))]), .i (.stl 2 (.s 2) (.s 18) 10)]) .ret))⟩
theorem k_impl_Head_copied : cd n_impl_Head_copied = some c_impl_Head_copied := by kernel_rfl
theorem Head_copied_ok (h : Head) (hw : h.wc) : VC cd n_impl_Head_copied (mkP [(true, h.c)]) (fun rs _ => rs = [(true, h.o)]) := by
  obtain ⟨⟨w1, w2, w3, w4, w5, w6⟩, w7⟩ := hw
  simp only [Sz] at w4 w5
  refine VC_enter k_impl_Head_copied rfl ?_
  simp (disch := omega) [c_impl_Head_copied, Head.c, VE, VXR, VP, VB, kof, bl, it]
  refine VXC_e (copyBytes_ok _ (by omega)) rfl rfl ?_
  simp (disch := omega) [VE, VXR, VP, VB, kof, bl, it]
  refine VXC_e (copyBytes_ok _ (by omega)) rfl rfl ?_
  simp (disch := omega) [VE, VXR, VP, VB, kof, bl, it]
  refine VXC_e (Qc_copied_ok h.qc ⟨w6, w7⟩) rfl rfl ?_
  simp (disch := omega) [Head.o, Qc.o, VE, VXR, VP, VB, kof, bl, it]
abbrev n_spec_l13Copy : Nat := 83
def c_spec_l13Copy : AF := ⟨1, 5, [.cell 2 10 true], (.seq (.ops [.i (.lbox 1 (.s 0)), .i (.lal 2 [.int .i64 0, .int .i64 0, .int .i64 0, .nils, .nils, .int .i64 0, .int .i64 0, .nils, .nils, .nils])]) (.seq (.ops [.i (.fad 3 (.s 1) 0), .i (.ldl 4 1 (.s 3) 1 false), .i (.fad 5 (.s 1) 1), .i (.ldl 6 1 (.s 5) 1 false), .i (.fad 7 (.s 1) 2), .i (.ldl 8 1 (.s 7) 1 false), .i (.fad 9 (.s 1) 3), .i (.ldl 10 1 (.s 9) 1 false), .i (.call 12 127 false [(.s 10)]), .i (.fad 12 (.s 1) 4), .i (.ldl 13 1 (.s 12) 1 false), .i (.call 15 127 false [(.s 13)]), .i (.fad 15 (.s 1) 5), .i (.ldl 16 1 (.s 15) 5 true), .i (.call 18 128 false [(.s 16)]), .i (.bld 18 [.int .i64 0, .int .i64 0, .int .i64 0, .nils, .nils, .int .i64 0, .int .i64 0, .nils, .nils, .nils] [(0, 1, (.s 4)), (1, 1, (.s 6)), (2, 1, (.s 8)), (3, 1, (.s 11)), (4, 1, (.s 14)), (5, 5, (.s 17))]), .i (.stl 2 (.s 2) (.s 18) 10)]) .ret))⟩
theorem k_spec_l13Copy : cd n_spec_l13Copy = some c_spec_l13Copy := by kernel_rfl
theorem l13Copy_ok (h : Head) (hw : h.wc) : VC cd n_spec_l13Copy (mkP [(true, h.c)]) (fun rs _ => rs = [(true, h.o)]) := by
  obtain ⟨⟨w1, w2, w3, w4, w5, w6⟩, w7⟩ := hw
  simp only [Sz] at w4 w5
  refine VC_enter k_spec_l13Copy rfl ?_
  simp (disch := omega) [c_spec_l13Copy, Head.c, VE, VXR, VP, VB, kof, bl, it]
  refine VXC_e (l01Copy_ok _ (by omega)) rfl rfl ?_
  simp (disch := omega) [VE, VXR, VP, VB, kof, bl, it]
  refine VXC_e (l01Copy_ok _ (by omega)) rfl rfl ?_
  simp (disch := omega) [VE, VXR, VP, VB, kof, bl, it]
  refine VXC_e (l12Copy_ok h.qc ⟨w6, w7⟩) rfl rfl ?_
  simp (disch := omega) [Head.o, Qc.o, VE, VXR, VP, VB, kof, bl, it]
/-! ### Commits -/
end Go.Eng.F
