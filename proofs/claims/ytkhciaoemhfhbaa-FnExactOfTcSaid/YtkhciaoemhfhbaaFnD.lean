/-
  Functions: proofs, copies.
-/
import Derived.Test.YtkhciaoemhfhbaaFnC
set_option maxRecDepth 100000
set_option linter.unusedSimpArgs false
set_option linter.unusedVariables false
namespace Go.Eng.F
structure Proof where
  heads : List Head
  qc : Qc
def Proof.c (p : Proof) : List D := [.sl (hds p.heads), .int .i64 p.qc.view, .int .i64 p.qc.height, .sl (bytes p.qc.block), .sl (bytes p.qc.bits), .sl (bss p.qc.tags)]
def Proof.wf (p : Proof) : Prop := HeadsWf p.heads ∧ p.qc.wf
def closes (p : Proof) : Bool := match p.heads[p.heads.length - 1]? with | some h => decide (p.qc.view = h.view) && decide (p.qc.height = h.height) | none => false
theorem closes_at {p : Proof} (h : p.heads.length - 1 < p.heads.length) : closes p = (decide (p.qc.view = p.heads[p.heads.length - 1].view) && decide (p.qc.height = p.heads[p.heads.length - 1].height)) := by simp [closes, h]
theorem closes_ok (p : Proof) (h0 : 0 < p.heads.length) (hw : p.wf) : VC cd n_impl_Proof_closes (mkP [(true, p.c)]) (fun rs _ => rs = bl (closes p)) := by
  have w1 : p.heads.length ≤ 1073741824 := hw.1.1
  have hx : p.heads.length - 1 < p.heads.length := by omega
  have e1 : ((p.heads.length : Int) - 1).toNat = p.heads.length - 1 := by omega
  have e2 : (1 : Int) ≤ (p.heads.length : Int) := by omega
  rw [closes_at hx]
  refine VC_enter k_impl_Proof_closes rfl ?_
  simp (disch := omega) [c_impl_Proof_closes, Proof.c, hds_len, e1, e2, hds_get hx, Head.c, VE, VXR, VP, VB, kof, bl, it]
  refine VXB_dec (fun h1 => ?_) (fun h1 => ?_) <;> simp (disch := omega) [h1, VE, VXR, VP, VB, kof, bl, it]
theorem l16Fits_ok (p : Proof) (h0 : 0 < p.heads.length) (hw : p.wf) : VC cd n_spec_l16Fits (mkP [(true, p.c)]) (fun rs _ => rs = bl (closes p)) := by
  have w1 : p.heads.length ≤ 1073741824 := hw.1.1
  have hx : p.heads.length - 1 < p.heads.length := by omega
  have e1 : ((p.heads.length : Int) - 1).toNat = p.heads.length - 1 := by omega
  have e2 : (1 : Int) ≤ (p.heads.length : Int) := by omega
  rw [closes_at hx]
  refine VC_enter k_spec_l16Fits rfl ?_
  simp (disch := omega) [c_spec_l16Fits, Proof.c, hds_len, e1, e2, hds_get hx, Head.c, VE, VXR, VP, VB, kof, bl, it]
  refine VXB_dec (fun h1 => ?_) (fun h1 => ?_) <;> simp (disch := omega) [h1, VE, VXR, VP, VB, kof, bl, it]
def proofOk (l : Lim) (p : Proof) : Bool := inn p.heads.length 3 l.heads && headsOk l p.heads && qcOk l p.qc && closes p
theorem impl_ProofOk_ok (l : Lim) (p : Proof) (hw : p.wf) : VC cd n_impl_ProofOk (mkP [(true, l.c), (true, p.c)]) (fun rs _ => rs = bl (proofOk l p)) := by
  have w1 : p.heads.length ≤ 1073741824 := hw.1.1
  refine VC_enter k_impl_ProofOk rfl ?_
  simp (disch := omega) [c_impl_ProofOk, Lim.c, Proof.c, hds_len, VE, VXR, VP, VB, kof, bl, it]
  refine VXC_e (within_ok _ _ _) rfl rfl ?_
  simp (disch := omega) [VE, VXR, VP, VB, kof, bl, it]
  refine VXB_b (fun h1 => ?_) (fun h1 => ?_) <;> simp (disch := omega) [h1, proofOk, VE, VXR, VP, VB, kof, bl, it]
  refine VXC_e (areHeads_ok l p.heads hw.1) rfl rfl ?_
  simp (disch := omega) [h1, VE, VXR, VP, VB, kof, bl, it]
  refine VXB_b (fun h2 => ?_) (fun h2 => ?_) <;> simp (disch := omega) [h1, h2, VE, VXR, VP, VB, kof, bl, it]
  refine VXC_e (impl_QcOk_ok l p.qc hw.2) rfl rfl ?_
  simp (disch := omega) [h1, h2, VE, VXR, VP, VB, kof, bl, it]
  refine VXB_b (fun h3 => ?_) (fun h3 => ?_) <;> simp (disch := omega) [h1, h2, h3, VE, VXR, VP, VB, kof, bl, it]
  refine VXC_e (closes_ok p (by have := inn_t h1; omega) hw) rfl rfl ?_
  simp (disch := omega) [h1, h2, h3, VE, VXR, VP, VB, kof, bl, it]
theorem spec_ProofOk_ok (l : Lim) (p : Proof) (hw : p.wf) : VC cd n_spec_ProofOk (mkP [(true, l.c), (true, p.c)]) (fun rs _ => rs = bl (proofOk l p)) := by
  have w1 : p.heads.length ≤ 1073741824 := hw.1.1
  have hlim : l.ok = false → qcOk l p.qc = false := fun e => by simp [qcOk, e]
  refine VC_enter k_spec_ProofOk rfl ?_
  simp (disch := omega) [c_spec_ProofOk, Lim.c, Proof.c, hds_len, VE, VXR, VP, VB, kof, bl, it]
  refine VXC_e (spec_LimitsOk_ok l) rfl rfl ?_
  simp (disch := omega) [VE, VXR, VP, VB, kof, bl, it]
  refine VXB_b (fun h0 => ?_) (fun h0 => ?_)
  case refine_2 => simp (disch := omega) [h0, proofOk, hlim h0, VE, VXR, VP, VB, kof, bl, it]
  simp (disch := omega) [h0, hds_len, VE, VXR, VP, VB, kof, bl, it]
  refine VXC_e (l01In_ok _ _ _) rfl rfl ?_
  simp (disch := omega) [h0, VE, VXR, VP, VB, kof, bl, it]
  refine VXB_b (fun h1 => ?_) (fun h1 => ?_)
  case refine_2 => simp (disch := omega) [h0, h1, proofOk, VE, VXR, VP, VB, kof, bl, it]
  simp (disch := omega) [h0, h1, hds_len, VE, VXR, VP, VB, kof, bl, it]
  refine VX_loop3 (σ := Nat) (f1 := _) (es0 := _) (by simp (disch := omega) [VE, VXR, VP, VB, kof, bl, it]; rfl) (by simp (disch := omega) [VE, VXR, VP, VB, kof, bl, it]; rfl) (fun i => [(22, .val false [.int .i64 i])]) (fun _ => []) (fun i g => g + i = p.heads.length ∧ ∀ x ∈ p.heads.take i, headOk l x = true) 0 p.heads.length (by simp (disch := omega) [VE, VXR, VP, VB, kof, bl, it]) (by simp (disch := omega) [VE, VXR, VP, VB, kof, bl, it]) ⟨by omega, by simp⟩ ?_
  rintro i n g ⟨hg, hi⟩
  simp (disch := omega) [VE, VXR, VP, VB, kof, bl, it]
  refine VXB_dec (fun h2 => ?_) (fun h2 => ?_)
  · have hx : i < p.heads.length := by omega
    simp (disch := omega) [hds_get hx, Head.c, VE, VXR, VP, VB, kof, bl, it]
    refine VXC_e (spec_HeadOk_ok l p.heads[i] (hw.1.2 _ (List.getElem_mem hx))) rfl rfl ?_
    simp (disch := omega) [VE, VXR, VP, VB, kof, bl, it]
    refine VXB_b (fun h3 => ?_) (fun h3 => ?_)
    · simp (disch := omega) [VE, VXR, VP, VB, kof, bl, it]
      exact ⟨i + 1, g - 1, by omega, ⟨by omega, take_all hi hx h3⟩, by simp⟩
    · simp (disch := omega) [proofOk, headsOk_no hx h3, VE, VXR, VP, VB, kof, bl, it]
  · have hl : i = p.heads.length := by omega
    subst hl
    have h4 := headsOk_of hi
    simp (disch := omega) [VE, VXR, VP, VB, kof, bl, it]
    refine VXC_e (spec_QcOk_ok l p.qc hw.2) rfl rfl ?_
    simp (disch := omega) [VE, VXR, VP, VB, kof, bl, it]
    refine VXB_b (fun h5 => ?_) (fun h5 => ?_) <;> simp (disch := omega) [h5, h4, h1, proofOk, VE, VXR, VP, VB, kof, bl, it]
    refine VXC_e (l16Fits_ok p (by have := inn_t h1; omega) hw) rfl rfl ?_
    simp (disch := omega) [h5, h4, h1, VE, VXR, VP, VB, kof, bl, it]
/-! ### Copies -/
theorem copyBytes_ok (x : Bytes) (hx : x.length ≤ 1099511627776) : VC cd n_impl_copyBytes (mkP [(false, [.sl (bytes x)])]) (fun rs _ => rs = [(false, [.o true (some (5, 1)) (bytes x)])]) := by
  refine VC_enter k_impl_copyBytes rfl ?_
  simp (disch := omega) [c_impl_copyBytes, VE, VXR, VP, VB, kof, bl, it]
theorem l01Copy_ok (x : Bytes) (hx : x.length ≤ 1099511627776) : VC cd n_spec_l01Copy (mkP [(false, [.sl (bytes x)])]) (fun rs _ => rs = [(false, [.o true (some (5, 1)) (bytes x)])]) := by
  refine VC_enter k_spec_l01Copy rfl ?_
  simp (disch := omega) [c_spec_l01Copy, VE, VXR, VP, VB, kof, bl, it]
def BssWf (l : List Bytes) : Prop := Sz l.length ∧ ∀ x ∈ l, Sz x.length
theorem wid_bss (l : List Bytes) : wid 1 (bss l) = true := by
  induction l with
  | nil => rfl
  | cons b x ih => simp only [bss, List.map_cons, wid] at ih ⊢; simpa using ih
theorem bss_snoc {l : List Bytes} {i : Nat} (h : i < l.length) : bss (l.take i) ++ [[.sl (bytes l[i])]] = bss (l.take (i + 1)) := by
  have e : bss (l.take (i + 1)) = bss (l.take i) ++ bss [l[i]] := by
    rw [List.take_add_one, List.getElem?_eq_getElem h]; exact List.map_append
  rw [e]; rfl
theorem copyList_ok (l : List Bytes) (hw : BssWf l) : VC cd n_impl_copyList (mkP [(false, [.sl (bss l)])]) (fun rs _ => rs = [(false, [.o true (some (22, 1)) (bss l)])]) := by
  obtain ⟨w1, w2⟩ := hw
  simp only [Sz] at w1 w2
  refine VC_enter k_impl_copyList rfl ?_
  simp (disch := omega) [c_impl_copyList, bss_len, VE, VXR, VP, VB, kof, bl, it]
  refine VX_loop3 (σ := Nat × Nat) (f1 := _) (es0 := _) (by simp (disch := omega) [VE, VXR, VP, VB, kof, bl, it]; rfl) (by simp (disch := omega) [VE, VXR, VP, VB, kof, bl, it]; rfl) (fun p => [(9, .val false [.int .i64 p.1]), (3, .val false [.ow 6 p.2])]) (fun p => [(6, .sl p.2 true true (some (22, 1)) (bss (l.take p.1)))])
    (fun p g => g + p.1 = l.length) (0, 1) l.length (by simp (disch := omega) [VE, VXR, VP, VB, kof, bl, it]) (by simp (disch := omega) [bss, VE, VXR, VP, VB, kof, bl, it]) (by omega) ?_
  rintro ⟨i, v⟩ n g hg
  simp only at hg
  simp (disch := omega) [VE, VXR, VP, VB, kof, bl, it]
  refine VXB_dec (fun h1 => ?_) (fun h1 => ?_)
  · have hx : i < l.length := by omega
    simp (disch := omega) [bss_get hx, VE, VXR, VP, VB, kof, bl, it]
    refine VXC_e (copyBytes_ok l[i] (by have := w2 _ (List.getElem_mem hx); omega)) rfl rfl ?_
    have hl : (bss (l.take i)).length = i := by rw [bss_len]; simp; omega
    simp (disch := omega) [hl, bss_snoc hx, VE, VXR, VP, VB, kof, bl, it]
    exact ⟨i + 1, n + 1, g - 1, by omega, by omega, ⟨by omega, by omega⟩, by omega, rfl⟩
  · simp (disch := omega) [VE, VXR, VP, VB, kof, bl, it]
    have : i = l.length := by omega
    subst this
    rw [List.take_length]
theorem l06Copy_ok (l : List Bytes) (hw : BssWf l) : VC cd n_spec_l06Copy (mkP [(false, [.sl (bss l)])]) (fun rs _ => rs = [(false, [.o true (some (22, 1)) (bss l)])]) := by
  obtain ⟨w1, w2⟩ := hw
  simp only [Sz] at w1 w2
  refine VC_enter k_spec_l06Copy rfl ?_
  simp (disch := omega) [c_spec_l06Copy, bss_len, VE, VXR, VP, VB, kof, bl, it]
  refine VX_loop3 (σ := Nat × Nat) (f1 := _) (es0 := _) (by simp (disch := omega) [VE, VXR, VP, VB, kof, bl, it]; rfl) (by simp (disch := omega) [VE, VXR, VP, VB, kof, bl, it]; rfl) (fun p => [(9, .val false [.int .i64 p.1]), (3, .val false [.ow 6 p.2])]) (fun p => [(6, .sl p.2 true true (some (22, 1)) (bss (l.take p.1)))])
    (fun p g => g + p.1 = l.length) (0, 1) l.length (by simp (disch := omega) [VE, VXR, VP, VB, kof, bl, it]) (by simp (disch := omega) [bss, VE, VXR, VP, VB, kof, bl, it]) (by omega) ?_
  rintro ⟨i, v⟩ n g hg
  simp only at hg
  simp (disch := omega) [VE, VXR, VP, VB, kof, bl, it]
  refine VXB_dec (fun h1 => ?_) (fun h1 => ?_)
  · have hx : i < l.length := by omega
    simp (disch := omega) [bss_get hx, VE, VXR, VP, VB, kof, bl, it]
    refine VXC_e (l01Copy_ok l[i] (by have := w2 _ (List.getElem_mem hx); omega)) rfl rfl ?_
    have hl : (bss (l.take i)).length = i := by rw [bss_len]; simp; omega
    simp (disch := omega) [hl, bss_snoc hx, VE, VXR, VP, VB, kof, bl, it]
    exact ⟨i + 1, n + 1, g - 1, by omega, by omega, ⟨by omega, by omega⟩, by omega, rfl⟩
  · simp (disch := omega) [VE, VXR, VP, VB, kof, bl, it]
    have : i = l.length := by omega
    subst this
    rw [List.take_length]
def Qc.o (q : Qc) : List E := [.p (.int .i64 q.view), .p (.int .i64 q.height), .o true (some (5, 1)) (bytes q.block), .o true (some (5, 1)) (bytes q.bits), .o true (some (22, 1)) (bss q.tags)]
def Qc.wc (q : Qc) : Prop := q.wf ∧ ∀ x ∈ q.tags, Sz x.length
theorem Qc.wc.t {q : Qc} (h : q.wc) : BssWf q.tags := ⟨h.1.2.2.2.2, h.2⟩
theorem Qc_copied_ok (q : Qc) (hw : q.wc) : VC cd n_impl_Qc_copied (mkP [(true, q.c)]) (fun rs _ => rs = [(true, q.o)]) := by
  have ht := hw.t
  obtain ⟨⟨w1, w2, w3, w4, w5⟩, w6⟩ := hw
  simp only [Sz] at w3 w4
  refine VC_enter k_impl_Qc_copied rfl ?_
  simp (disch := omega) [c_impl_Qc_copied, Qc.c, VE, VXR, VP, VB, kof, bl, it]
  refine VXC_e (copyBytes_ok _ (by omega)) rfl rfl ?_
  simp (disch := omega) [VE, VXR, VP, VB, kof, bl, it]
  refine VXC_e (copyBytes_ok _ (by omega)) rfl rfl ?_
  simp (disch := omega) [VE, VXR, VP, VB, kof, bl, it]
  refine VXC_e (copyList_ok _ ht) rfl rfl ?_
  simp (disch := omega) [Qc.o, VE, VXR, VP, VB, kof, bl, it]
theorem l12Copy_ok (q : Qc) (hw : q.wc) : VC cd n_spec_l12Copy (mkP [(true, q.c)]) (fun rs _ => rs = [(true, q.o)]) := by
  have ht := hw.t
  obtain ⟨⟨w1, w2, w3, w4, w5⟩, w6⟩ := hw
  simp only [Sz] at w3 w4
  refine VC_enter k_spec_l12Copy rfl ?_
  simp (disch := omega) [c_spec_l12Copy, Qc.c, VE, VXR, VP, VB, kof, bl, it]
  refine VXC_e (l01Copy_ok _ (by omega)) rfl rfl ?_
  simp (disch := omega) [VE, VXR, VP, VB, kof, bl, it]
  refine VXC_e (l01Copy_ok _ (by omega)) rfl rfl ?_
  simp (disch := omega) [VE, VXR, VP, VB, kof, bl, it]
  refine VXC_e (l06Copy_ok _ ht) rfl rfl ?_
  simp (disch := omega) [Qc.o, VE, VXR, VP, VB, kof, bl, it]
def Head.o (h : Head) : List E := [.p (.int .i64 h.view), .p (.int .i64 h.height), .p (.int .i64 h.proposer), .o true (some (5, 1)) (bytes h.parent), .o true (some (5, 1)) (bytes h.root), .p (.int .i64 h.qc.view), .p (.int .i64 h.qc.height), .o true (some (5, 1)) (bytes h.qc.block), .o true (some (5, 1)) (bytes h.qc.bits), .o true (some (22, 1)) (bss h.qc.tags)]
def Head.wc (h : Head) : Prop := h.wf ∧ ∀ x ∈ h.qc.tags, Sz x.length
theorem Head_copied_ok (h : Head) (hw : h.wc) : VC cd n_impl_Head_copied (mkP [(true, h.c)]) (fun rs _ => rs = [(true, h.o)]) := by
  obtain ⟨⟨w1, w2, w3, w4, w5, w6⟩, w7⟩ := hw
  simp only [Sz] at w4 w5
  refine VC_enter k_impl_Head_copied rfl ?_
  simp (disch := omega) [c_impl_Head_copied, Head.c, VE, VXR, VP, VB, kof, bl, it]
  refine VXC_e (copyBytes_ok _ (by omega)) rfl rfl ?_
  simp (disch := omega) [VE, VXR, VP, VB, kof, bl, it]
  refine VXC_e (copyBytes_ok _ (by omega)) rfl rfl ?_
  simp (disch := omega) [VE, VXR, VP, VB, kof, bl, it]
  refine VXC_e (Qc_copied_ok h.qc ⟨w6, w7⟩) rfl rfl ?_
  simp (disch := omega) [Head.o, Qc.o, VE, VXR, VP, VB, kof, bl, it]
theorem l13Copy_ok (h : Head) (hw : h.wc) : VC cd n_spec_l13Copy (mkP [(true, h.c)]) (fun rs _ => rs = [(true, h.o)]) := by
  obtain ⟨⟨w1, w2, w3, w4, w5, w6⟩, w7⟩ := hw
  simp only [Sz] at w4 w5
  refine VC_enter k_spec_l13Copy rfl ?_
  simp (disch := omega) [c_spec_l13Copy, Head.c, VE, VXR, VP, VB, kof, bl, it]
  refine VXC_e (l01Copy_ok _ (by omega)) rfl rfl ?_
  simp (disch := omega) [VE, VXR, VP, VB, kof, bl, it]
  refine VXC_e (l01Copy_ok _ (by omega)) rfl rfl ?_
  simp (disch := omega) [VE, VXR, VP, VB, kof, bl, it]
  refine VXC_e (l12Copy_ok h.qc ⟨w6, w7⟩) rfl rfl ?_
  simp (disch := omega) [Head.o, Qc.o, VE, VXR, VP, VB, kof, bl, it]
/-! ### Commits -/
def zeroHead : Head := ⟨0, 0, 0, [], [], ⟨0, 0, [], [], []⟩⟩
def zeroHeadE : List E := [.p (.int .i64 0), .p (.int .i64 0), .p (.int .i64 0), .p .nils, .p .nils, .p (.int .i64 0), .p (.int .i64 0), .p .nils, .p .nils, .p .nils]
def commits (l : Lim) (p : Proof) : Option Head := if proofOk l p then p.heads[p.heads.length - 3]? else none
def commitsE (l : Lim) (p : Proof) : List (Bool × List E) :=
  match commits l p with
  | some h => [(true, h.o), (false, [.p (.bool true)])]
  | none => [(true, zeroHeadE), (false, [.p (.bool false)])]
theorem impl_Commits_ok (l : Lim) (p : Proof) (hw : p.wf) (hw2 : ∀ h ∈ p.heads, h.wc) : VC cd n_impl_Commits (mkP [(true, l.c), (true, p.c)]) (fun rs _ => rs = commitsE l p) := by
  have w1 : p.heads.length ≤ 1073741824 := hw.1.1
  refine VC_enter k_impl_Commits rfl ?_
  simp (disch := omega) [c_impl_Commits, Lim.c, Proof.c, VE, VXR, VP, VB, kof, bl, it]
  refine VXC_e (impl_ProofOk_ok l p hw) rfl rfl ?_
  simp (disch := omega) [VE, VXR, VP, VB, kof, bl, it]
  refine VXB_b (fun h1 => ?_) (fun h1 => ?_)
  · have h2 : 3 ≤ p.heads.length := by
      simp only [proofOk, Bool.and_eq_true] at h1
      have := inn_t h1.1.1.1
      omega
    have hx : p.heads.length - 3 < p.heads.length := by omega
    have e1 : ((p.heads.length : Int) - 3).toNat = p.heads.length - 3 := by omega
    have e2 : (3 : Int) ≤ (p.heads.length : Int) := by omega
    simp (disch := omega) [hds_len, e1, e2, hds_get hx, Head.c, VE, VXR, VP, VB, kof, bl, it]
    refine VXC_e (Head_copied_ok _ (hw2 _ (List.getElem_mem hx))) rfl rfl ?_
    simp (disch := omega) [Head.o, commitsE, commits, h1, hx, VE, VXR, VP, VB, kof, bl, it]
  · simp (disch := omega) [commitsE, commits, h1, zeroHeadE, VE, VXR, VP, VB, kof, bl, it]
theorem spec_Commits_ok (l : Lim) (p : Proof) (hw : p.wf) (hw2 : ∀ h ∈ p.heads, h.wc) : VC cd n_spec_Commits (mkP [(true, l.c), (true, p.c)]) (fun rs _ => rs = commitsE l p) := by
  have w1 : p.heads.length ≤ 1073741824 := hw.1.1
  refine VC_enter k_spec_Commits rfl ?_
  simp (disch := omega) [c_spec_Commits, Lim.c, Proof.c, VE, VXR, VP, VB, kof, bl, it]
  refine VXC_e (spec_ProofOk_ok l p hw) rfl rfl ?_
  simp (disch := omega) [VE, VXR, VP, VB, kof, bl, it]
  refine VXB_b (fun h1 => ?_) (fun h1 => ?_)
  · have h2 : 3 ≤ p.heads.length := by
      simp only [proofOk, Bool.and_eq_true] at h1
      have := inn_t h1.1.1.1
      omega
    have hx : p.heads.length - 3 < p.heads.length := by omega
    have e1 : ((p.heads.length : Int) - 3).toNat = p.heads.length - 3 := by omega
    have e2 : (3 : Int) ≤ (p.heads.length : Int) := by omega
    simp (disch := omega) [hds_len, e1, e2, hds_get hx, Head.c, VE, VXR, VP, VB, kof, bl, it]
    refine VXC_e (l13Copy_ok _ (hw2 _ (List.getElem_mem hx))) rfl rfl ?_
    simp (disch := omega) [Head.o, commitsE, commits, h1, hx, VE, VXR, VP, VB, kof, bl, it]
  · simp (disch := omega) [commitsE, commits, h1, zeroHeadE, VE, VXR, VP, VB, kof, bl, it]
end Go.Eng.F
