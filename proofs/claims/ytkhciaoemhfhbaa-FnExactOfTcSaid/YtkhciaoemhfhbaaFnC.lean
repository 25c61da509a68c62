/-
  Functions: certificates, headers.
-/
import Derived.Test.YtkhciaoemhfhbaaFnB
set_option maxRecDepth 100000
set_option linter.unusedSimpArgs false
set_option linter.unusedVariables false
namespace Go.Eng.F
def I64 (n : Int) : Prop := -9223372036854775808 ≤ n ∧ n < 9223372036854775808
def Sz (n : Nat) : Prop := n ≤ 1073741824
theorem bytD_bytes (x : Bytes) : bytD (bytes x) = some ⟨x.toArray⟩ := by
  induction x with
  | nil => rfl
  | cons b x ih =>
    have : bytes (b :: x) = [.int .u8 (b.toNat : Int)] :: bytes x := rfl
    rw [this]
    simp only [bytD, ih, Int.toNat_natCast]
    congr 1
    simp
theorem str_eq (a b : Bytes) : ((⟨a.toArray⟩ : ByteArray) = ⟨b.toArray⟩) = (a = b) := by
  apply propext
  constructor
  · intro h; injection h with h; exact Array.toList_inj.2 h |> fun h => by simpa using h
  · rintro rfl; rfl
theorem impl_SameBytes_ok (a b : Bytes) : VC cd n_impl_SameBytes (mkP [(false, [.sl (bytes a)]), (false, [.sl (bytes b)])]) (fun rs _ => rs = bl (decide (a = b))) := by
  refine VC_enter k_impl_SameBytes rfl ?_
  simp (disch := omega) [c_impl_SameBytes, bytD_bytes, str_eq, VE, VXR, VP, VB, kof, bl, it]
theorem spec_SameBytes_ok (a b : Bytes) : VC cd n_spec_SameBytes (mkP [(false, [.sl (bytes a)]), (false, [.sl (bytes b)])]) (fun rs _ => rs = bl (decide (a = b))) := by
  refine VC_enter k_spec_SameBytes rfl ?_
  simp (disch := omega) [c_spec_SameBytes, bytD_bytes, str_eq, VE, VXR, VP, VB, kof, bl, it]
structure Qc where
  view : Int
  height : Int
  block : Bytes
  bits : Bytes
  tags : List Bytes
def Qc.c (q : Qc) : List D := [.int .i64 q.view, .int .i64 q.height, .sl (bytes q.block), .sl (bytes q.bits), .sl (bss q.tags)]
def Qc.wf (q : Qc) : Prop := I64 q.view ∧ I64 q.height ∧ Sz q.block.length ∧ Sz q.bits.length ∧ Sz q.tags.length
def qcOk (l : Lim) (q : Qc) : Bool := l.ok && isNum q.view && isNum q.height && hash q.block && bitsOk q.bits l.n && decide (q.tags.length = (bitsList q.bits).length) && hashes q.tags
theorem lim_n {l : Lim} (h : l.ok = true) : 1 ≤ l.n ∧ l.n ≤ 10 := by
  simp only [Lim.ok, Bool.and_eq_true] at h
  exact inn_t h.1.1.1.1
theorem hashes_one (x : Bytes) : hashes [x] = hash x := by simp [hashes]
theorem impl_QcOk_ok (l : Lim) (q : Qc) (hq : q.wf) : VC cd n_impl_QcOk (mkP [(true, l.c), (true, q.c)]) (fun rs _ => rs = bl (qcOk l q)) := by
  obtain ⟨w1, w2, w3, w4, w5⟩ := hq
  simp only [I64, Sz] at w1 w2 w3 w4 w5
  refine VC_enter k_impl_QcOk rfl ?_
  simp (disch := omega) [c_impl_QcOk, Lim.c, Qc.c, VE, VXR, VP, VB, kof, bl, it]
  refine VXC_e (impl_LimitsOk_ok l) rfl rfl ?_
  simp (disch := omega) [VE, VXR, VP, VB, kof, bl, it]
  refine VXB_b (fun h1 => ?_) (fun h1 => ?_) <;> simp (disch := omega) [h1, qcOk, VE, VXR, VP, VB, kof, bl, it]
  have hn := lim_n h1
  refine VXC_e (isNum_ok _) rfl rfl ?_
  simp (disch := omega) [h1, VE, VXR, VP, VB, kof, bl, it]
  refine VXB_b (fun h2 => ?_) (fun h2 => ?_) <;> simp (disch := omega) [h1, h2, VE, VXR, VP, VB, kof, bl, it]
  refine VXC_e (isNum_ok _) rfl rfl ?_
  simp (disch := omega) [h1, h2, VE, VXR, VP, VB, kof, bl, it]
  refine VXB_b (fun h3 => ?_) (fun h3 => ?_) <;> simp (disch := omega) [h1, h2, h3, VE, VXR, VP, VB, kof, bl, it]
  refine VXC_e (areHashes_ok [q.block] (by simp)) rfl rfl ?_
  simp (disch := omega) [h1, h2, h3, hashes_one, VE, VXR, VP, VB, kof, bl, it]
  refine VXB_b (fun h4 => ?_) (fun h4 => ?_) <;> simp (disch := omega) [h1, h2, h3, h4, VE, VXR, VP, VB, kof, bl, it]
  refine VXC_e (impl_BitsOk_ok q.bits l.n (by omega) (by omega)) rfl rfl ?_
  simp (disch := omega) [h1, h2, h3, h4, VE, VXR, VP, VB, kof, bl, it]
  refine VXB_b (fun h5 => ?_) (fun h5 => ?_) <;> simp (disch := omega) [h1, h2, h3, h4, h5, VE, VXR, VP, VB, kof, bl, it]
  refine VXC_e (impl_BitsCount_ok q.bits (by omega)) rfl rfl ?_
  have hl := bitsList_len q.bits
  simp (disch := omega) [h1, h2, h3, h4, h5, bss_len, VE, VXR, VP, VB, kof, bl, it]
  refine VXB_dec (fun h6 => ?_) (fun h6 => ?_)
  · simp (disch := omega) [h1, h2, h3, h4, h5, h6, bss_len, VE, VXR, VP, VB, kof, bl, it]
    refine VXC_e (areHashes_ok q.tags (by omega)) rfl rfl ?_
    have h7 : q.tags.length = (bitsList q.bits).length := by omega
    simp (disch := omega) [h1, h2, h3, h4, h5, h6, h7, VE, VXR, VP, VB, kof, bl, it]
  · have h7 : ¬ q.tags.length = (bitsList q.bits).length := by omega
    simp (disch := omega) [h1, h2, h3, h4, h5, h6, h7, bss_len, VE, VXR, VP, VB, kof, bl, it]
theorem spec_QcOk_ok (l : Lim) (q : Qc) (hq : q.wf) : VC cd n_spec_QcOk (mkP [(true, l.c), (true, q.c)]) (fun rs _ => rs = bl (qcOk l q)) := by
  obtain ⟨w1, w2, w3, w4, w5⟩ := hq
  simp only [I64, Sz] at w1 w2 w3 w4 w5
  refine VC_enter k_spec_QcOk rfl ?_
  simp (disch := omega) [c_spec_QcOk, Lim.c, Qc.c, VE, VXR, VP, VB, kof, bl, it]
  refine VXC_e (spec_LimitsOk_ok l) rfl rfl ?_
  simp (disch := omega) [VE, VXR, VP, VB, kof, bl, it]
  refine VXB_b (fun h1 => ?_) (fun h1 => ?_) <;> simp (disch := omega) [h1, qcOk, VE, VXR, VP, VB, kof, bl, it]
  have hn := lim_n h1
  refine VXC_e (l01Num_ok _) rfl rfl ?_
  simp (disch := omega) [h1, VE, VXR, VP, VB, kof, bl, it]
  refine VXB_b (fun h2 => ?_) (fun h2 => ?_) <;> simp (disch := omega) [h1, h2, VE, VXR, VP, VB, kof, bl, it]
  refine VXC_e (l01Num_ok _) rfl rfl ?_
  simp (disch := omega) [h1, h2, VE, VXR, VP, VB, kof, bl, it]
  refine VXB_b (fun h3 => ?_) (fun h3 => ?_) <;> simp (disch := omega) [h1, h2, h3, VE, VXR, VP, VB, kof, bl, it]
  refine VXC_e (l07Hash_ok _) rfl rfl ?_
  simp (disch := omega) [h1, h2, h3, VE, VXR, VP, VB, kof, bl, it]
  refine VXB_b (fun h4 => ?_) (fun h4 => ?_) <;> simp (disch := omega) [h1, h2, h3, h4, VE, VXR, VP, VB, kof, bl, it]
  refine VXC_e (spec_BitsOk_ok q.bits l.n (by omega) (by omega)) rfl rfl ?_
  simp (disch := omega) [h1, h2, h3, h4, VE, VXR, VP, VB, kof, bl, it]
  refine VXB_b (fun h5 => ?_) (fun h5 => ?_) <;> simp (disch := omega) [h1, h2, h3, h4, h5, VE, VXR, VP, VB, kof, bl, it]
  refine VXC_e (spec_BitsCount_ok q.bits (by omega)) rfl rfl ?_
  have hl := bitsList_len q.bits
  simp (disch := omega) [h1, h2, h3, h4, h5, bss_len, VE, VXR, VP, VB, kof, bl, it]
  refine VXB_dec (fun h6 => ?_) (fun h6 => ?_)
  · simp (disch := omega) [h1, h2, h3, h4, h5, h6, bss_len, VE, VXR, VP, VB, kof, bl, it]
    refine VXC_e (l08Hashes_ok q.tags (by omega)) rfl rfl ?_
    have h7 : q.tags.length = (bitsList q.bits).length := by omega
    simp (disch := omega) [h1, h2, h3, h4, h5, h6, h7, VE, VXR, VP, VB, kof, bl, it]
  · have h7 : ¬ q.tags.length = (bitsList q.bits).length := by omega
    simp (disch := omega) [h1, h2, h3, h4, h5, h6, h7, bss_len, VE, VXR, VP, VB, kof, bl, it]
structure Head where
  view : Int
  height : Int
  proposer : Int
  parent : Bytes
  root : Bytes
  qc : Qc
def Head.c (h : Head) : List D := [.int .i64 h.view, .int .i64 h.height, .int .i64 h.proposer, .sl (bytes h.parent), .sl (bytes h.root), .int .i64 h.qc.view, .int .i64 h.qc.height, .sl (bytes h.qc.block), .sl (bytes h.qc.bits), .sl (bss h.qc.tags)]
def Head.wf (h : Head) : Prop := I64 h.view ∧ I64 h.height ∧ I64 h.proposer ∧ Sz h.parent.length ∧ Sz h.root.length ∧ h.qc.wf
def fits (h : Head) : Bool := decide (h.qc.view < h.view) && decide (h.qc.height = h.height - 1) && decide (h.qc.block = h.parent)
theorem matches_ok (h : Head) (h1 : 1 ≤ h.height) (h2 : I64 h.height) : VC cd n_impl_Head_matches (mkP [(true, h.c)]) (fun rs _ => rs = bl (fits h)) := by
  simp only [I64] at h2
  refine VC_enter k_impl_Head_matches rfl ?_
  simp (disch := omega) [c_impl_Head_matches, Head.c, VE, VXR, VP, VB, kof, bl, it]
  refine VXB_dec (fun g1 => ?_) (fun g1 => ?_) <;> simp (disch := omega) [g1, fits, VE, VXR, VP, VB, kof, bl, it]
  refine VXB_dec (fun g2 => ?_) (fun g2 => ?_) <;> simp (disch := omega) [g1, g2, VE, VXR, VP, VB, kof, bl, it]
  refine VXC_e (impl_SameBytes_ok _ _) rfl rfl ?_
  simp (disch := omega) [g1, g2, VE, VXR, VP, VB, kof, bl, it]
theorem l13Fits_ok (h : Head) (h1 : 1 ≤ h.height) (h2 : I64 h.height) : VC cd n_spec_l13Fits (mkP [(true, h.c)]) (fun rs _ => rs = bl (fits h)) := by
  simp only [I64] at h2
  refine VC_enter k_spec_l13Fits rfl ?_
  simp (disch := omega) [c_spec_l13Fits, Head.c, VE, VXR, VP, VB, kof, bl, it]
  refine VXB_dec (fun g1 => ?_) (fun g1 => ?_) <;> simp (disch := omega) [g1, fits, VE, VXR, VP, VB, kof, bl, it]
  refine VXB_dec (fun g2 => ?_) (fun g2 => ?_) <;> simp (disch := omega) [g1, g2, VE, VXR, VP, VB, kof, bl, it]
  refine VXC_e (spec_SameBytes_ok _ _) rfl rfl ?_
  simp (disch := omega) [g1, g2, VE, VXR, VP, VB, kof, bl, it]
def headOk (l : Lim) (h : Head) : Bool := qcOk l h.qc && isNum h.view && inn h.height 1 1152921504606846975 && inn h.proposer 0 (l.n - 1) && hash h.parent && hash h.root && fits h
theorem qcOk_lim {l : Lim} {q : Qc} (h : qcOk l q = true) : l.ok = true := by
  simp only [qcOk, Bool.and_eq_true] at h
  exact h.1.1.1.1.1.1
theorem hashes_two (x y : Bytes) : hashes [x, y] = (hash x && hash y) := by simp [hashes]
theorem impl_HeadOk_ok (l : Lim) (h : Head) (hw : h.wf) : VC cd n_impl_HeadOk (mkP [(true, l.c), (true, h.c)]) (fun rs _ => rs = bl (headOk l h)) := by
  obtain ⟨w1, w2, w3, w4, w5, w6⟩ := hw
  have w2' := w2
  simp only [I64, Sz] at w1 w2 w3 w4 w5
  refine VC_enter k_impl_HeadOk rfl ?_
  simp (disch := omega) [c_impl_HeadOk, Lim.c, Head.c, VE, VXR, VP, VB, kof, bl, it]
  refine VXC_e (impl_QcOk_ok l h.qc w6) rfl rfl ?_
  simp (disch := omega) [VE, VXR, VP, VB, kof, bl, it]
  refine VXB_b (fun h1 => ?_) (fun h1 => ?_) <;> simp (disch := omega) [h1, headOk, VE, VXR, VP, VB, kof, bl, it]
  have hn := lim_n (qcOk_lim h1)
  refine VXC_e (isNum_ok _) rfl rfl ?_
  simp (disch := omega) [h1, VE, VXR, VP, VB, kof, bl, it]
  refine VXB_b (fun h2 => ?_) (fun h2 => ?_) <;> simp (disch := omega) [h1, h2, VE, VXR, VP, VB, kof, bl, it]
  refine VXC_e (within_ok _ _ _) rfl rfl ?_
  simp (disch := omega) [h1, h2, VE, VXR, VP, VB, kof, bl, it]
  refine VXB_b (fun h3 => ?_) (fun h3 => ?_) <;> simp (disch := omega) [h1, h2, h3, VE, VXR, VP, VB, kof, bl, it]
  refine VXC_e (within_ok _ _ _) rfl rfl ?_
  simp (disch := omega) [h1, h2, h3, VE, VXR, VP, VB, kof, bl, it]
  refine VXB_b (fun h4 => ?_) (fun h4 => ?_) <;> simp (disch := omega) [h1, h2, h3, h4, VE, VXR, VP, VB, kof, bl, it]
  refine VXC_e (areHashes_ok [h.parent, h.root] (by simp)) rfl rfl ?_
  simp (disch := omega) [h1, h2, h3, h4, VE, VXR, VP, VB, kof, bl, it]
  refine VXB_b (fun h5 => ?_) (fun h5 => ?_)
  · have h6 : hash h.parent = true ∧ hash h.root = true := by simpa [hashes_two] using h5
    simp (disch := omega) [h1, h2, h3, h4, h5, VE, VXR, VP, VB, kof, bl, it]
    refine VXC_e (matches_ok h (inn_t h3).1 w2') rfl rfl ?_
    simp (disch := omega) [h1, h2, h3, h4, h5, h6, VE, VXR, VP, VB, kof, bl, it]
  · simp (disch := omega) [h1, h2, h3, h4, h5, VE, VXR, VP, VB, kof, bl, it]
    rw [hashes_two] at h5
    simp only [Bool.and_eq_false_iff] at h5
    rcases h5 with h5 | h5 <;> simp [h5]
theorem spec_HeadOk_ok (l : Lim) (h : Head) (hw : h.wf) : VC cd n_spec_HeadOk (mkP [(true, l.c), (true, h.c)]) (fun rs _ => rs = bl (headOk l h)) := by
  obtain ⟨w1, w2, w3, w4, w5, w6⟩ := hw
  have w2' := w2
  simp only [I64, Sz] at w1 w2 w3 w4 w5
  have hlim : l.ok = false → qcOk l h.qc = false := fun e => by simp [qcOk, e]
  refine VC_enter k_spec_HeadOk rfl ?_
  simp (disch := omega) [c_spec_HeadOk, Lim.c, Head.c, VE, VXR, VP, VB, kof, bl, it]
  refine VXC_e (spec_LimitsOk_ok l) rfl rfl ?_
  simp (disch := omega) [VE, VXR, VP, VB, kof, bl, it]
  refine VXB_b (fun h0 => ?_) (fun h0 => ?_)
  case refine_2 => simp (disch := omega) [h0, headOk, hlim h0, VE, VXR, VP, VB, kof, bl, it]
  simp (disch := omega) [h0, VE, VXR, VP, VB, kof, bl, it]
  have hn := lim_n h0
  refine VXC_e (l01Num_ok _) rfl rfl ?_
  simp (disch := omega) [h0, VE, VXR, VP, VB, kof, bl, it]
  refine VXB_b (fun h2 => ?_) (fun h2 => ?_) <;> simp (disch := omega) [h0, h2, headOk, VE, VXR, VP, VB, kof, bl, it]
  refine VXC_e (l01In_ok _ _ _) rfl rfl ?_
  simp (disch := omega) [h0, h2, VE, VXR, VP, VB, kof, bl, it]
  refine VXB_b (fun h3 => ?_) (fun h3 => ?_) <;> simp (disch := omega) [h0, h2, h3, VE, VXR, VP, VB, kof, bl, it]
  refine VXC_e (l01In_ok _ _ _) rfl rfl ?_
  simp (disch := omega) [h0, h2, h3, VE, VXR, VP, VB, kof, bl, it]
  refine VXB_b (fun h4 => ?_) (fun h4 => ?_) <;> simp (disch := omega) [h0, h2, h3, h4, VE, VXR, VP, VB, kof, bl, it]
  refine VXC_e (l07Hash_ok _) rfl rfl ?_
  simp (disch := omega) [h0, h2, h3, h4, VE, VXR, VP, VB, kof, bl, it]
  refine VXB_b (fun h5 => ?_) (fun h5 => ?_) <;> simp (disch := omega) [h0, h2, h3, h4, h5, VE, VXR, VP, VB, kof, bl, it]
  refine VXC_e (l07Hash_ok _) rfl rfl ?_
  simp (disch := omega) [h0, h2, h3, h4, h5, VE, VXR, VP, VB, kof, bl, it]
  refine VXB_b (fun h6 => ?_) (fun h6 => ?_) <;> simp (disch := omega) [h0, h2, h3, h4, h5, h6, VE, VXR, VP, VB, kof, bl, it]
  refine VXC_e (spec_QcOk_ok l h.qc w6) rfl rfl ?_
  simp (disch := omega) [h0, h2, h3, h4, h5, h6, VE, VXR, VP, VB, kof, bl, it]
  refine VXB_b (fun h1 => ?_) (fun h1 => ?_) <;> simp (disch := omega) [h0, h1, h2, h3, h4, h5, h6, VE, VXR, VP, VB, kof, bl, it]
  refine VXC_e (l13Fits_ok h (inn_t h3).1 w2') rfl rfl ?_
  simp (disch := omega) [h0, h1, h2, h3, h4, h5, h6, VE, VXR, VP, VB, kof, bl, it]
/-! ### Lists of headers -/
def hds (l : List Head) : List (List D) := l.map Head.c
theorem hds_len (l : List Head) : (hds l).length = l.length := by simp [hds]
theorem hds_get {l : List Head} {i : Nat} (h : i < l.length) : (hds l)[i]? = some l[i].c := by simp [hds, h]
theorem wid_hds (l : List Head) : wid 10 (hds l) = true := by
  induction l with
  | nil => rfl
  | cons n l ih => simp only [hds, List.map_cons, wid] at ih ⊢; simpa [Head.c] using ih
def headsOk (l : Lim) (hs : List Head) : Bool := hs.all (headOk l)
theorem headsOk_of {l : Lim} {hs : List Head} (h : ∀ x ∈ hs.take hs.length, headOk l x = true) : headsOk l hs = true := by
  rw [List.take_length] at h
  simpa [headsOk] using h
theorem headsOk_no {l : Lim} {hs : List Head} {i : Nat} (hi : i < hs.length) (h : headOk l hs[i] = false) : headsOk l hs = false := by
  simp only [headsOk, List.all_eq_false]
  exact ⟨hs[i], List.getElem_mem hi, by simp [h]⟩
def HeadsWf (hs : List Head) : Prop := Sz hs.length ∧ ∀ h ∈ hs, h.wf
theorem areHeads_ok (l : Lim) (hs : List Head) (hw : HeadsWf hs) : VC cd n_impl_areHeads (mkP [(true, l.c), (false, [.sl (hds hs)])]) (fun rs _ => rs = bl (headsOk l hs)) := by
  obtain ⟨w1, w2⟩ := hw
  simp only [Sz] at w1
  refine VC_enter k_impl_areHeads rfl ?_
  simp (disch := omega) [c_impl_areHeads, Lim.c, hds_len, VE, VXR, VP, VB, kof, bl, it]
  refine VX_loop3 (σ := Nat) (f1 := _) (es0 := _) (by simp (disch := omega) [VE, VXR, VP, VB, kof, bl, it]; rfl) (by simp (disch := omega) [VE, VXR, VP, VB, kof, bl, it]; rfl) (fun i => [(9, .val false [.int .i64 i])]) (fun _ => []) (fun i g => g + i = hs.length ∧ ∀ x ∈ hs.take i, headOk l x = true) 0 hs.length (by simp (disch := omega) [VE, VXR, VP, VB, kof, bl, it]) (by simp (disch := omega) [VE, VXR, VP, VB, kof, bl, it]) ⟨by omega, by simp⟩ ?_
  rintro i n g ⟨hg, hi⟩
  simp (disch := omega) [VE, VXR, VP, VB, kof, bl, it]
  refine VXB_dec (fun h1 => ?_) (fun h1 => ?_)
  · have hx : i < hs.length := by omega
    simp (disch := omega) [hds_get hx, Head.c, VE, VXR, VP, VB, kof, bl, it]
    refine VXC_e (impl_HeadOk_ok l hs[i] (w2 _ (List.getElem_mem hx))) rfl rfl ?_
    simp (disch := omega) [VE, VXR, VP, VB, kof, bl, it]
    refine VXB_b (fun h2 => ?_) (fun h2 => ?_)
    · simp (disch := omega) [VE, VXR, VP, VB, kof, bl, it]
      exact ⟨i + 1, g - 1, by omega, ⟨by omega, take_all hi hx h2⟩, by simp⟩
    · simp (disch := omega) [VE, VXR, VP, VB, kof, bl, it]
      exact headsOk_no hx h2
  · simp (disch := omega) [VE, VXR, VP, VB, kof, bl, it]
    have : i = hs.length := by omega
    subst this
    exact headsOk_of hi
end Go.Eng.F
