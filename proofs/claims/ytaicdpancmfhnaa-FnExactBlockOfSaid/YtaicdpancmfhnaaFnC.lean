/-
  Functions: certificates, headers.
-/
import Derived.Test.YtaicdpancmfhnaaFnB
set_option maxRecDepth 100000
set_option linter.unusedSimpArgs false
set_option linter.unusedVariables false
namespace Go.Eng.F
def I64 (n : Int) : Prop := -9223372036854775808 ≤ n ∧ n < 9223372036854775808
def Sz (n : Nat) : Prop := n ≤ 1073741824
theorem bytD_bytes (x : Bytes) : bytD (bytes x) = some ⟨x.toArray⟩ := by
  induction x with
  | nil => rfl
  | cons b x ih =>
    have : bytes (b :: x) = [.int .u8 (b.toNat : Int)] :: bytes x := rfl
    rw [this]
    simp only [bytD, ih, Int.toNat_natCast]
    congr 1
    simp
theorem str_eq (a b : Bytes) : ((⟨a.toArray⟩ : ByteArray) = ⟨b.toArray⟩) = (a = b) := by
  apply propext
  constructor
  · intro h; injection h with h; exact Array.toList_inj.2 h |> fun h => by simpa using h
  · rintro rfl; rfl
abbrev n_impl_SameBytes : Nat := 114
def c_impl_SameBytes : AF := ⟨2, 4, [.tmp 4], (.seq (.ops [.i (.mov 4 (.c (.val false [.bool false])))]) (.seq (.ops [.i (.mov 5 (.s 0)), .i (.cbs 6 (.s 5)), .i (.mov 7 (.s 1)), .i (.cbs 8 (.s 7)), .i (.bin 9 .eql (.s 6) (.s 8)), .i (.mov 4 (.s 9))]) .ret))⟩
theorem k_impl_SameBytes : cd n_impl_SameBytes = some c_impl_SameBytes := by kernel_rfl
theorem impl_SameBytes_ok (a b : Bytes) : VC cd n_impl_SameBytes (mkP [(false, [.sl (bytes a)]), (false, [.sl (bytes b)])]) (fun rs _ => rs = bl (decide (a = b))) := by
  refine VC_enter k_impl_SameBytes rfl ?_
  simp (disch := omega) [c_impl_SameBytes, bytD_bytes, str_eq, VE, VXR, VP, VB, kof, bl, it]
abbrev n_spec_SameBytes : Nat := 112
def c_spec_SameBytes : AF := ⟨2, 4, [.tmp 4], (.seq (.ops [.i (.mov 4 (.c (.val false [.bool false])))]) (.seq (.ops [.i (.mov 5 (.s 0)), .i (.cbs 6 (.s 5)), .i (.mov 7 (.s 1)), .i (.cbs 8 (.s 7)), .i (.bin 9 .eql (.s 6) (.s 8)), .i (.mov 4 (.s 9))]) .ret))⟩
theorem k_spec_SameBytes : cd n_spec_SameBytes = some c_spec_SameBytes := by kernel_rfl
theorem spec_SameBytes_ok (a b : Bytes) : VC cd n_spec_SameBytes (mkP [(false, [.sl (bytes a)]), (false, [.sl (bytes b)])]) (fun rs _ => rs = bl (decide (a = b))) := by
  refine VC_enter k_spec_SameBytes rfl ?_
  simp (disch := omega) [c_spec_SameBytes, bytD_bytes, str_eq, VE, VXR, VP, VB, kof, bl, it]
structure Qc where
  view : Int
  height : Int
  block : Bytes
  bits : Bytes
  tags : List Bytes
def Qc.c (q : Qc) : List D := [.int .i64 q.view, .int .i64 q.height, .sl (bytes q.block), .sl (bytes q.bits), .sl (bss q.tags)]
def Qc.wf (q : Qc) : Prop := I64 q.view ∧ I64 q.height ∧ Sz q.block.length ∧ Sz q.bits.length ∧ Sz q.tags.length
def qcOk (l : Lim) (q : Qc) : Bool := l.ok && isNum q.view && isNum q.height && hash q.block && bitsOk q.bits l.n && decide (q.tags.length = (bitsList q.bits).length) && hashes q.tags
theorem lim_n {l : Lim} (h : l.ok = true) : 1 ≤ l.n ∧ l.n ≤ 10 := by
  simp only [Lim.ok, Bool.and_eq_true] at h
  exact inn_t h.1.1.1.1
theorem hashes_one (x : Bytes) : hashes [x] = hash x := by simp [hashes]
abbrev n_impl_QcOk : Nat := 166
def c_impl_QcOk : AF := ⟨2, 6, [.tmp 4], (.seq (.ops [.i (.lbox 2 (.s 0)), .i (.lbox 3 (.s 1)), .i (.mov 4 (.c (.val false [.bool false])))]) (.seq (.ops [.i (.ldl 5 2 (.s 2) 5 true), .i (.call 7 152 false [(.s 5)]), .i (.mov 7 (.s 6)), .g 7 true 9 (.fad 8 (.s 3) 0), .g 7 true 10 (.ldl 9 3 (.s 8) 1 false), .g 7 true 11 (.call 11 167 false [(.s 9)]), .i (.pick 11 (.s 7) (.s 10) (.c (.val false [.bool false]))), .i (.mov 12 (.s 11)), .g 12 true 14 (.fad 13 (.s 3) 1), .g 12 true 15 (.ldl 14 3 (.s 13) 1 false), .g 12 true 16 (.call 16 167 false [(.s 14)]), .i (.pick 16 (.s 12) (.s 15) (.c (.val false [.bool false]))), .i (.mov 17 (.s 16)), .g 17 true 19 (.fad 18 (.s 3) 2), .g 17 true 20 (.ldl 19 3 (.s 18) 1 false), .g 17 true 21 (.bsl 20 22 1 1 [.nils] [(0, 1, (.s 19))]), .g 17 true 22 (.call 22 169 false [(.s 20)]), .i (.pick 22 (.s 17) (.s 21) (.c (.val false [.bool false]))), .i (.mov 23 (.s 22)), .g 23 true 25 (.fad 24 (.s 3) 3), .g 23 true 26 (.ldl 25 3 (.s 24) 1 false), .g 23 true 27 (.fad 26 (.s 2) 0), .g 23 true 28 (.ldl 27 2 (.s 26) 1 false), .g 23 true 29 (.call 29 189 false [(.s 25), (.s 27)]), .i (.pick 29 (.s 23) (.s 28) (.c (.val false [.bool false]))), .i (.mov 30 (.s 29)), .g 30 true 32 (.fad 31 (.s 3) 4), .g 30 true 33 (.ldl 32 3 (.s 31) 1 false), .g 30 true 34 (.len 33 false (.s 32)), .g 30 true 35 (.fad 34 (.s 3) 3), .g 30 true 36 (.ldl 35 3 (.s 34) 1 false), .g 30 true 37 (.call 37 190 false [(.s 35)]), .g 30 true 38 (.bin 37 .eql (.s 33) (.s 36)), .i (.pick 38 (.s 30) (.s 37) (.c (.val false [.bool false]))), .i (.mov 39 (.s 38)), .g 39 true 41 (.fad 40 (.s 3) 4), .g 39 true 42 (.ldl 41 3 (.s 40) 1 false), .g 39 true 43 (.call 43 169 false [(.s 41)]), .i (.pick 43 (.s 39) (.s 42) (.c (.val false [.bool false]))), .i (.mov 4 (.s 43))]) .ret))⟩
theorem k_impl_QcOk : cd n_impl_QcOk = some c_impl_QcOk := by kernel_rfl
theorem impl_QcOk_ok (l : Lim) (q : Qc) (hq : q.wf) : VC cd n_impl_QcOk (mkP [(true, l.c), (true, q.c)]) (fun rs _ => rs = bl (qcOk l q)) := by
  obtain ⟨w1, w2, w3, w4, w5⟩ := hq
  simp only [I64, Sz] at w1 w2 w3 w4 w5
  refine VC_enter k_impl_QcOk rfl ?_
  simp (disch := omega) [c_impl_QcOk, Lim.c, Qc.c, VE, VXR, VP, VB, kof, bl, it]
  refine VXC_e (impl_LimitsOk_ok l) rfl rfl ?_
  simp (disch := omega) [VE, VXR, VP, VB, kof, bl, it]
  refine VXB_b (fun h1 => ?_) (fun h1 => ?_) <;> simp (disch := omega) [h1, qcOk, VE, VXR, VP, VB, kof, bl, it]
  have hn := lim_n h1
  refine VXC_e (isNum_ok _) rfl rfl ?_
  simp (disch := omega) [h1, VE, VXR, VP, VB, kof, bl, it]
  refine VXB_b (fun h2 => ?_) (fun h2 => ?_) <;> simp (disch := omega) [h1, h2, VE, VXR, VP, VB, kof, bl, it]
  refine VXC_e (isNum_ok _) rfl rfl ?_
  simp (disch := omega) [h1, h2, VE, VXR, VP, VB, kof, bl, it]
  refine VXB_b (fun h3 => ?_) (fun h3 => ?_) <;> simp (disch := omega) [h1, h2, h3, VE, VXR, VP, VB, kof, bl, it]
  refine VXC_e (areHashes_ok [q.block] (by simp)) rfl rfl ?_
  simp (disch := omega) [h1, h2, h3, hashes_one, VE, VXR, VP, VB, kof, bl, it]
  refine VXB_b (fun h4 => ?_) (fun h4 => ?_) <;> simp (disch := omega) [h1, h2, h3, h4, VE, VXR, VP, VB, kof, bl, it]
  refine VXC_e (impl_BitsOk_ok q.bits l.n (by omega) (by omega)) rfl rfl ?_
  simp (disch := omega) [h1, h2, h3, h4, VE, VXR, VP, VB, kof, bl, it]
  refine VXB_b (fun h5 => ?_) (fun h5 => ?_) <;> simp (disch := omega) [h1, h2, h3, h4, h5, VE, VXR, VP, VB, kof, bl, it]
  refine VXC_e (impl_BitsCount_ok q.bits (by omega)) rfl rfl ?_
  have hl := bitsList_len q.bits
  simp (disch := omega) [h1, h2, h3, h4, h5, bss_len, VE, VXR, VP, VB, kof, bl, it]
  refine VXB_dec (fun h6 => ?_) (fun h6 => ?_)
  · simp (disch := omega) [h1, h2, h3, h4, h5, h6, bss_len, VE, VXR, VP, VB, kof, bl, it]
    refine VXC_e (areHashes_ok q.tags (by omega)) rfl rfl ?_
    have h7 : q.tags.length = (bitsList q.bits).length := by omega
    simp (disch := omega) [h1, h2, h3, h4, h5, h6, h7, VE, VXR, VP, VB, kof, bl, it]
  · have h7 : ¬ q.tags.length = (bitsList q.bits).length := by omega
    simp (disch := omega) [h1, h2, h3, h4, h5, h6, h7, bss_len, VE, VXR, VP, VB, kof, bl, it]
abbrev n_spec_QcOk : Nat := 146
def c_spec_QcOk : AF := ⟨2, 6, [.tmp 4], (.seq (.ops [.i (.lbox 2 (.s 0)), .i (.lbox 3 (.s 1)), .i (.mov 4 (.c (.val false [.bool false])))]) (.seq (.ops [.i (.ldl 5 2 (.s 2) 5 true), .i (.call 7 142 false [(.s 5)]), .i (.mov 7 (.s 6)), .g 7 true 9 (.fad 8 (.s 3) 0), .g 7 true 10 (.ldl 9 3 (.s 8) 1 false), .g 7 true 11 (.call 11 143 false [(.s 9)]), .i (.pick 11 (.s 7) (.s 10) (.c (.val false [.bool false]))), .i (.mov 12 (.s 11)), .g 12 true 14 (.fad 13 (.s 3) 1), .g 12 true 15 (.ldl 14 3 (.s 13) 1 false), .g 12 true 16 (.call 16 143 false [(.s 14)]), .i (.pick 16 (.s 12) (.s 15) (.c (.val false [.bool false]))), .i (.mov 17 (.s 16)), .g 17 true 19 (.fad 18 (.s 3) 2), .g 17 true 20 (.ldl 19 3 (.s 18) 1 false), .g 17 true 21 (.call 21 145 false [(.s 19)]), .i (.pick 21 (.s 17) (.s 20) (.c (.val false [.bool false]))), .i (.mov 22 (.s 21)), .g 22 true 24 (.fad 23 (.s 3) 3), .g 22 true 25 (.ldl 24 3 (.s 23) 1 false), .g 22 true 26 (.fad 25 (.s 2) 0), .g 22 true 27 (.ldl 26 2 (.s 25) 1 false), .g 22 true 28 (.call 28 173 false [(.s 24), (.s 26)]), .i (.pick 28 (.s 22) (.s 27) (.c (.val false [.bool false]))), .i (.mov 29 (.s 28)), .g 29 true 31 (.fad 30 (.s 3) 4), .g 29 true 32 (.ldl 31 3 (.s 30) 1 false), .g 29 true 33 (.len 32 false (.s 31)), .g 29 true 34 (.fad 33 (.s 3) 3), .g 29 true 35 (.ldl 34 3 (.s 33) 1 false), .g 29 true 36 (.call 36 174 false [(.s 34)]), .g 29 true 37 (.bin 36 .eql (.s 32) (.s 35)), .i (.pick 37 (.s 29) (.s 36) (.c (.val false [.bool false]))), .i (.mov 38 (.s 37)), .g 38 true 40 (.fad 39 (.s 3) 4), .g 38 true 41 (.ldl 40 3 (.s 39) 1 false), .g 38 true 42 (.call 42 175 false [(.s 40)]), .i (.pick 42 (.s 38) (.s 41) (.c (.val false [.bool false]))), .i (.mov 4 (.s 42))]) .ret))⟩
theorem k_spec_QcOk : cd n_spec_QcOk = some c_spec_QcOk := by kernel_rfl
theorem spec_QcOk_ok (l : Lim) (q : Qc) (hq : q.wf) : VC cd n_spec_QcOk (mkP [(true, l.c), (true, q.c)]) (fun rs _ => rs = bl (qcOk l q)) := by
  obtain ⟨w1, w2, w3, w4, w5⟩ := hq
  simp only [I64, Sz] at w1 w2 w3 w4 w5
  refine VC_enter k_spec_QcOk rfl ?_
  simp (disch := omega) [c_spec_QcOk, Lim.c, Qc.c, VE, VXR, VP, VB, kof, bl, it]
  refine VXC_e (spec_LimitsOk_ok l) rfl rfl ?_
  simp (disch := omega) [VE, VXR, VP, VB, kof, bl, it]
  refine VXB_b (fun h1 => ?_) (fun h1 => ?_) <;> simp (disch := omega) [h1, qcOk, VE, VXR, VP, VB, kof, bl, it]
  have hn := lim_n h1
  refine VXC_e (l01Num_ok _) rfl rfl ?_
  simp (disch := omega) [h1, VE, VXR, VP, VB, kof, bl, it]
  refine VXB_b (fun h2 => ?_) (fun h2 => ?_) <;> simp (disch := omega) [h1, h2, VE, VXR, VP, VB, kof, bl, it]
  refine VXC_e (l01Num_ok _) rfl rfl ?_
  simp (disch := omega) [h1, h2, VE, VXR, VP, VB, kof, bl, it]
  refine VXB_b (fun h3 => ?_) (fun h3 => ?_) <;> simp (disch := omega) [h1, h2, h3, VE, VXR, VP, VB, kof, bl, it]
  refine VXC_e (l07Hash_ok _) rfl rfl ?_
  simp (disch := omega) [h1, h2, h3, VE, VXR, VP, VB, kof, bl, it]
  refine VXB_b (fun h4 => ?_) (fun h4 => ?_) <;> simp (disch := omega) [h1, h2, h3, h4, VE, VXR, VP, VB, kof, bl, it]
  refine VXC_e (spec_BitsOk_ok q.bits l.n (by omega) (by omega)) rfl rfl ?_
  simp (disch := omega) [h1, h2, h3, h4, VE, VXR, VP, VB, kof, bl, it]
  refine VXB_b (fun h5 => ?_) (fun h5 => ?_) <;> simp (disch := omega) [h1, h2, h3, h4, h5, VE, VXR, VP, VB, kof, bl, it]
  refine VXC_e (spec_BitsCount_ok q.bits (by omega)) rfl rfl ?_
  have hl := bitsList_len q.bits
  simp (disch := omega) [h1, h2, h3, h4, h5, bss_len, VE, VXR, VP, VB, kof, bl, it]
  refine VXB_dec (fun h6 => ?_) (fun h6 => ?_)
  · simp (disch := omega) [h1, h2, h3, h4, h5, h6, bss_len, VE, VXR, VP, VB, kof, bl, it]
    refine VXC_e (l08Hashes_ok q.tags (by omega)) rfl rfl ?_
    have h7 : q.tags.length = (bitsList q.bits).length := by omega
    simp (disch := omega) [h1, h2, h3, h4, h5, h6, h7, VE, VXR, VP, VB, kof, bl, it]
  · have h7 : ¬ q.tags.length = (bitsList q.bits).length := by omega
    simp (disch := omega) [h1, h2, h3, h4, h5, h6, h7, bss_len, VE, VXR, VP, VB, kof, bl, it]
structure Head where
  view : Int
  height : Int
  proposer : Int
  parent : Bytes
  root : Bytes
  qc : Qc
def Head.c (h : Head) : List D := [.int .i64 h.view, .int .i64 h.height, .int .i64 h.proposer, .sl (bytes h.parent), .sl (bytes h.root), .int .i64 h.qc.view, .int .i64 h.qc.height, .sl (bytes h.qc.block), .sl (bytes h.qc.bits), .sl (bss h.qc.tags)]
def Head.wf (h : Head) : Prop := I64 h.view ∧ I64 h.height ∧ I64 h.proposer ∧ Sz h.parent.length ∧ Sz h.root.length ∧ h.qc.wf
def fits (h : Head) : Bool := decide (h.qc.view < h.view) && decide (h.qc.height = h.height - 1) && decide (h.qc.block = h.parent)
abbrev n_impl_Head_matches : Nat := 170
def c_impl_Head_matches : AF := ⟨1, 5, [.tmp 2], (.seq (.ops [.i (.lbox 1 (.s 0)), .i (.mov 2 (.c (.val false [.bool false])))]) (.seq (.ops [.i (.fad 3 (.s 1) 5), .i (.fad 4 (.s 3) 0), .i (.ldl 5 1 (.s 4) 1 false), .i (.fad 6 (.s 1) 0), .i (.ldl 7 1 (.s 6) 1 false), .i (.bin 8 .lss (.s 5) (.s 7)), .i (.mov 9 (.s 8)), .g 9 true 11 (.fad 10 (.s 1) 5), .g 9 true 12 (.fad 11 (.s 10) 1), .g 9 true 13 (.ldl 12 1 (.s 11) 1 false), .g 9 true 14 (.fad 13 (.s 1) 1), .g 9 true 15 (.ldl 14 1 (.s 13) 1 false), .g 9 true 16 (.bin 15 .sub (.s 14) (.c (.val false [.int .i64 1]))), .g 9 true 17 (.bin 16 .eql (.s 12) (.s 15)), .i (.pick 17 (.s 9) (.s 16) (.c (.val false [.bool false]))), .i (.mov 18 (.s 17)), .g 18 true 20 (.fad 19 (.s 1) 5), .g 18 true 21 (.fad 20 (.s 19) 2), .g 18 true 22 (.ldl 21 1 (.s 20) 1 false), .g 18 true 23 (.fad 22 (.s 1) 3), .g 18 true 24 (.ldl 23 1 (.s 22) 1 false), .g 18 true 25 (.call 25 114 false [(.s 21), (.s 23)]), .i (.pick 25 (.s 18) (.s 24) (.c (.val false [.bool false]))), .i (.mov 2 (.s 25))]) .ret))⟩
theorem k_impl_Head_matches : cd n_impl_Head_matches = some c_impl_Head_matches := by kernel_rfl
theorem matches_ok (h : Head) (h1 : 1 ≤ h.height) (h2 : I64 h.height) : VC cd n_impl_Head_matches (mkP [(true, h.c)]) (fun rs _ => rs = bl (fits h)) := by
  simp only [I64] at h2
  refine VC_enter k_impl_Head_matches rfl ?_
  simp (disch := omega) [c_impl_Head_matches, Head.c, VE, VXR, VP, VB, kof, bl, it]
  refine VXB_dec (fun g1 => ?_) (fun g1 => ?_) <;> simp (disch := omega) [g1, fits, VE, VXR, VP, VB, kof, bl, it]
  refine VXB_dec (fun g2 => ?_) (fun g2 => ?_) <;> simp (disch := omega) [g1, g2, VE, VXR, VP, VB, kof, bl, it]
  refine VXC_e (impl_SameBytes_ok _ _) rfl rfl ?_
  simp (disch := omega) [g1, g2, VE, VXR, VP, VB, kof, bl, it]
abbrev n_spec_l13Fits : Nat := 147
def c_spec_l13Fits : AF := ⟨1, 5, [.tmp 2], (.seq (.ops [.i (.lbox 1 (.s 0)), .i (.mov 2 (.c (.val false [.bool false])))]) (.seq (.ops [.i (.fad 3 (.s 1) 5), .i (.fad 4 (.s 3) 0), .i (.ldl 5 1 (.s 4) 1 false), .i (.fad 6 (.s 1) 0), .i (.ldl 7 1 (.s 6) 1 false), .i (.bin 8 .lss (.s 5) (.s 7)), .i (.mov 9 (.s 8)), .g 9 true 11 (.fad 10 (.s 1) 5), .g 9 true 12 (.fad 11 (.s 10) 1), .g 9 true 13 (.ldl 12 1 (.s 11) 1 false), .g 9 true 14 (.fad 13 (.s 1) 1), .g 9 true 15 (.ldl 14 1 (.s 13) 1 false), .g 9 true 16 (.bin 15 .sub (.s 14) (.c (.val false [.int .i64 1]))), .g 9 true 17 (.bin 16 .eql (.s 12) (.s 15)), .i (.pick 17 (.s 9) (.s 16) (.c (.val false [.bool false]))), .i (.mov 18 (.s 17)), .g 18 true 20 (.fad 19 (.s 1) 5), .g 18 true 21 (.fad 20 (.s 19) 2), .g 18 true 22 (.ldl 21 1 (.s 20) 1 false), .g 18 true 23 (.fad 22 (.s 1) 3), .g 18 true 24 (.ldl 23 1 (.s 22) 1 false), .g 18 true 25 (.call 25 112 false [(.s 21), (.s 23)]), .i (.pick 25 (.s 18) (.s 24) (.c (.val false [.bool false]))), .i (.mov 2 (.s 25))]) .ret))⟩
theorem k_spec_l13Fits : cd n_spec_l13Fits = some c_spec_l13Fits := by kernel_rfl
theorem l13Fits_ok (h : Head) (h1 : 1 ≤ h.height) (h2 : I64 h.height) : VC cd n_spec_l13Fits (mkP [(true, h.c)]) (fun rs _ => rs = bl (fits h)) := by
  simp only [I64] at h2
  refine VC_enter k_spec_l13Fits rfl ?_
  simp (disch := omega) [c_spec_l13Fits, Head.c, VE, VXR, VP, VB, kof, bl, it]
  refine VXB_dec (fun g1 => ?_) (fun g1 => ?_) <;> simp (disch := omega) [g1, fits, VE, VXR, VP, VB, kof, bl, it]
  refine VXB_dec (fun g2 => ?_) (fun g2 => ?_) <;> simp (disch := omega) [g1, g2, VE, VXR, VP, VB, kof, bl, it]
  refine VXC_e (spec_SameBytes_ok _ _) rfl rfl ?_
  simp (disch := omega) [g1, g2, VE, VXR, VP, VB, kof, bl, it]
def headOk (l : Lim) (h : Head) : Bool := qcOk l h.qc && isNum h.view && inn h.height 1 1152921504606846975 && inn h.proposer 0 (l.n - 1) && hash h.parent && hash h.root && fits h
theorem qcOk_lim {l : Lim} {q : Qc} (h : qcOk l q = true) : l.ok = true := by
  simp only [qcOk, Bool.and_eq_true] at h
  exact h.1.1.1.1.1.1
theorem hashes_two (x y : Bytes) : hashes [x, y] = (hash x && hash y) := by simp [hashes]
abbrev n_impl_HeadOk : Nat := 139
def c_impl_HeadOk : AF := ⟨2, 6, [.tmp 4], (.seq (.ops [.i (.lbox 2 (.s 0)), .i (.lbox 3 (.s 1)), .i (.mov 4 (.c (.val false [.bool false])))]) (.seq (.ops [.i (.ldl 5 2 (.s 2) 5 true), .i (.fad 6 (.s 3) 5), .i (.ldl 7 3 (.s 6) 5 true), .i (.call 9 166 false [(.s 5), (.s 7)]), .i (.mov 9 (.s 8)), .g 9 true 11 (.fad 10 (.s 3) 0), .g 9 true 12 (.ldl 11 3 (.s 10) 1 false), .g 9 true 13 (.call 13 167 false [(.s 11)]), .i (.pick 13 (.s 9) (.s 12) (.c (.val false [.bool false]))), .i (.mov 14 (.s 13)), .g 14 true 16 (.fad 15 (.s 3) 1), .g 14 true 17 (.ldl 16 3 (.s 15) 1 false), .g 14 true 18 (.call 18 168 false [(.s 16), (.c (.val false [.int .i64 1])), (.c (.val false [.int .i64 1152921504606846975]))]), .i (.pick 18 (.s 14) (.s 17) (.c (.val false [.bool false]))), .i (.mov 19 (.s 18)), .g 19 true 21 (.fad 20 (.s 3) 2), .g 19 true 22 (.ldl 21 3 (.s 20) 1 false), .g 19 true 23 (.fad 22 (.s 2) 0), .g 19 true 24 (.ldl 23 2 (.s 22) 1 false), .g 19 true 25 (.bin 24 .sub (.s 23) (.c (.val false [.int .i64 1]))), .g 19 true 26 (.call 26 168 false [(.s 21), (.c (.val false [.int .i64 0])), (.s 24)]), .i (.pick 26 (.s 19) (.s 25) (.c (.val false [.bool false]))), .i (.mov 27 (.s 26)), .g 27 true 29 (.fad 28 (.s 3) 3), .g 27 true 30 (.ldl 29 3 (.s 28) 1 false), .g 27 true 31 (.fad 30 (.s 3) 4), .g 27 true 32 (.ldl 31 3 (.s 30) 1 false), .g 27 true 33 (.bsl 32 22 1 2 [.nils] [(0, 1, (.s 29)), (1, 1, (.s 31))]), .g 27 true 34 (.call 34 169 false [(.s 32)]), .i (.pick 34 (.s 27) (.s 33) (.c (.val false [.bool false]))), .i (.mov 35 (.s 34)), .g 35 true 37 (.ldl 36 3 (.s 3) 10 true), .g 35 true 38 (.call 38 170 false [(.s 36)]), .i (.pick 38 (.s 35) (.s 37) (.c (.val false [.bool false]))), .i (.mov 4 (.s 38))]) .ret))⟩
theorem k_impl_HeadOk : cd n_impl_HeadOk = some c_impl_HeadOk := by kernel_rfl
theorem impl_HeadOk_ok (l : Lim) (h : Head) (hw : h.wf) : VC cd n_impl_HeadOk (mkP [(true, l.c), (true, h.c)]) (fun rs _ => rs = bl (headOk l h)) := by
  obtain ⟨w1, w2, w3, w4, w5, w6⟩ := hw
  have w2' := w2
  simp only [I64, Sz] at w1 w2 w3 w4 w5
  refine VC_enter k_impl_HeadOk rfl ?_
  simp (disch := omega) [c_impl_HeadOk, Lim.c, Head.c, VE, VXR, VP, VB, kof, bl, it]
  refine VXC_e (impl_QcOk_ok l h.qc w6) rfl rfl ?_
  simp (disch := omega) [VE, VXR, VP, VB, kof, bl, it]
  refine VXB_b (fun h1 => ?_) (fun h1 => ?_) <;> simp (disch := omega) [h1, headOk, VE, VXR, VP, VB, kof, bl, it]
  have hn := lim_n (qcOk_lim h1)
  refine VXC_e (isNum_ok _) rfl rfl ?_
  simp (disch := omega) [h1, VE, VXR, VP, VB, kof, bl, it]
  refine VXB_b (fun h2 => ?_) (fun h2 => ?_) <;> simp (disch := omega) [h1, h2, VE, VXR, VP, VB, kof, bl, it]
  refine VXC_e (within_ok _ _ _) rfl rfl ?_
  simp (disch := omega) [h1, h2, VE, VXR, VP, VB, kof, bl, it]
  refine VXB_b (fun h3 => ?_) (fun h3 => ?_) <;> simp (disch := omega) [h1, h2, h3, VE, VXR, VP, VB, kof, bl, it]
  refine VXC_e (within_ok _ _ _) rfl rfl ?_
  simp (disch := omega) [h1, h2, h3, VE, VXR, VP, VB, kof, bl, it]
  refine VXB_b (fun h4 => ?_) (fun h4 => ?_) <;> simp (disch := omega) [h1, h2, h3, h4, VE, VXR, VP, VB, kof, bl, it]
  refine VXC_e (areHashes_ok [h.parent, h.root] (by simp)) rfl rfl ?_
  simp (disch := omega) [h1, h2, h3, h4, VE, VXR, VP, VB, kof, bl, it]
  refine VXB_b (fun h5 => ?_) (fun h5 => ?_)
  · have h6 : hash h.parent = true ∧ hash h.root = true := by simpa [hashes_two] using h5
    simp (disch := omega) [h1, h2, h3, h4, h5, VE, VXR, VP, VB, kof, bl, it]
    refine VXC_e (matches_ok h (inn_t h3).1 w2') rfl rfl ?_
    simp (disch := omega) [h1, h2, h3, h4, h5, h6, VE, VXR, VP, VB, kof, bl, it]
  · simp (disch := omega) [h1, h2, h3, h4, h5, VE, VXR, VP, VB, kof, bl, it]
    rw [hashes_two] at h5
    simp only [Bool.and_eq_false_iff] at h5
    rcases h5 with h5 | h5 <;> simp [h5]
abbrev n_spec_HeadOk : Nat := 99
def c_spec_HeadOk : AF := ⟨2, 6, [.tmp 4], (.seq (.ops [.i (.lbox 2 (.s 0)), .i (.lbox 3 (.s 1)), .i (.mov 4 (.c (.val false [.bool false])))]) (.seq (.ops [.i (.ldl 5 2 (.s 2) 5 true), .i (.call 7 142 false [(.s 5)]), .i (.mov 7 (.s 6)), .g 7 true 9 (.fad 8 (.s 3) 0), .g 7 true 10 (.ldl 9 3 (.s 8) 1 false), .g 7 true 11 (.call 11 143 false [(.s 9)]), .i (.pick 11 (.s 7) (.s 10) (.c (.val false [.bool false]))), .i (.mov 12 (.s 11)), .g 12 true 14 (.fad 13 (.s 3) 1), .g 12 true 15 (.ldl 14 3 (.s 13) 1 false), .g 12 true 16 (.call 16 144 false [(.s 14), (.c (.val false [.int .i64 1])), (.c (.val false [.int .i64 1152921504606846975]))]), .i (.pick 16 (.s 12) (.s 15) (.c (.val false [.bool false]))), .i (.mov 17 (.s 16)), .g 17 true 19 (.fad 18 (.s 3) 2), .g 17 true 20 (.ldl 19 3 (.s 18) 1 false), .g 17 true 21 (.fad 20 (.s 2) 0), .g 17 true 22 (.ldl 21 2 (.s 20) 1 false), .g 17 true 23 (.bin 22 .sub (.s 21) (.c (.val false [.int .i64 1]))), .g 17 true 24 (.call 24 144 false [(.s 19), (.c (.val false [.int .i64 0])), (.s 22)]), .i (.pick 24 (.s 17) (.s 23) (.c (.val false [.bool false]))), .i (.mov 25 (.s 24)), .g 25 true 27 (.fad 26 (.s 3) 3), .g 25 true 28 (.ldl 27 3 (.s 26) 1 false), .g 25 true 29 (.call 29 145 false [(.s 27)]), .i (.pick 29 (.s 25) (.s 28) (.c (.val false [.bool false]))), .i (.mov 30 (.s 29)), .g 30 true 32 (.fad 31 (.s 3) 4), .g 30 true 33 (.ldl 32 3 (.s 31) 1 false), .g 30 true 34 (.call 34 145 false [(.s 32)]), .i (.pick 34 (.s 30) (.s 33) (.c (.val false [.bool false]))), .i (.mov 35 (.s 34)), .g 35 true 37 (.ldl 36 2 (.s 2) 5 true), .g 35 true 38 (.fad 37 (.s 3) 5), .g 35 true 39 (.ldl 38 3 (.s 37) 5 true), .g 35 true 40 (.call 40 146 false [(.s 36), (.s 38)]), .i (.pick 40 (.s 35) (.s 39) (.c (.val false [.bool false]))), .i (.mov 41 (.s 40)), .g 41 true 43 (.ldl 42 3 (.s 3) 10 true), .g 41 true 44 (.call 44 147 false [(.s 42)]), .i (.pick 44 (.s 41) (.s 43) (.c (.val false [.bool false]))), .i (.mov 4 (.s 44))]) .ret))⟩
theorem k_spec_HeadOk : cd n_spec_HeadOk = some c_spec_HeadOk := by kernel_rfl
theorem spec_HeadOk_ok (l : Lim) (h : Head) (hw : h.wf) : VC cd n_spec_HeadOk (mkP [(true, l.c), (true, h.c)]) (fun rs _ => rs = bl (headOk l h)) := by
  obtain ⟨w1, w2, w3, w4, w5, w6⟩ := hw
  have w2' := w2
  simp only [I64, Sz] at w1 w2 w3 w4 w5
  have hlim : l.ok = false → qcOk l h.qc = false := fun e => by simp [qcOk, e]
  refine VC_enter k_spec_HeadOk rfl ?_
  simp (disch := omega) [c_spec_HeadOk, Lim.c, Head.c, VE, VXR, VP, VB, kof, bl, it]
  refine VXC_e (spec_LimitsOk_ok l) rfl rfl ?_
  simp (disch := omega) [VE, VXR, VP, VB, kof, bl, it]
  refine VXB_b (fun h0 => ?_) (fun h0 => ?_)
  case refine_2 => simp (disch := omega) [h0, headOk, hlim h0, VE, VXR, VP, VB, kof, bl, it]
  simp (disch := omega) [h0, VE, VXR, VP, VB, kof, bl, it]
  have hn := lim_n h0
  refine VXC_e (l01Num_ok _) rfl rfl ?_
  simp (disch := omega) [h0, VE, VXR, VP, VB, kof, bl, it]
  refine VXB_b (fun h2 => ?_) (fun h2 => ?_) <;> simp (disch := omega) [h0, h2, headOk, VE, VXR, VP, VB, kof, bl, it]
  refine VXC_e (l01In_ok _ _ _) rfl rfl ?_
  simp (disch := omega) [h0, h2, VE, VXR, VP, VB, kof, bl, it]
  refine VXB_b (fun h3 => ?_) (fun h3 => ?_) <;> simp (disch := omega) [h0, h2, h3, VE, VXR, VP, VB, kof, bl, it]
  refine VXC_e (l01In_ok _ _ _) rfl rfl ?_
  simp (disch := omega) [h0, h2, h3, VE, VXR, VP, VB, kof, bl, it]
  refine VXB_b (fun h4 => ?_) (fun h4 => ?_) <;> simp (disch := omega) [h0, h2, h3, h4, VE, VXR, VP, VB, kof, bl, it]
  refine VXC_e (l07Hash_ok _) rfl rfl ?_
  simp (disch := omega) [h0, h2, h3, h4, VE, VXR, VP, VB, kof, bl, it]
  refine VXB_b (fun h5 => ?_) (fun h5 => ?_) <;> simp (disch := omega) [h0, h2, h3, h4, h5, VE, VXR, VP, VB, kof, bl, it]
  refine VXC_e (l07Hash_ok _) rfl rfl ?_
  simp (disch := omega) [h0, h2, h3, h4, h5, VE, VXR, VP, VB, kof, bl, it]
  refine VXB_b (fun h6 => ?_) (fun h6 => ?_) <;> simp (disch := omega) [h0, h2, h3, h4, h5, h6, VE, VXR, VP, VB, kof, bl, it]
  refine VXC_e (spec_QcOk_ok l h.qc w6) rfl rfl ?_
  simp (disch := omega) [h0, h2, h3, h4, h5, h6, VE, VXR, VP, VB, kof, bl, it]
  refine VXB_b (fun h1 => ?_) (fun h1 => ?_) <;> simp (disch := omega) [h0, h1, h2, h3, h4, h5, h6, VE, VXR, VP, VB, kof, bl, it]
  refine VXC_e (l13Fits_ok h (inn_t h3).1 w2') rfl rfl ?_
  simp (disch := omega) [h0, h1, h2, h3, h4, h5, h6, VE, VXR, VP, VB, kof, bl, it]
/-! ### Lists of headers -/
def hds (l : List Head) : List (List D) := l.map Head.c
def HeadsWf (hs : List Head) : Prop := Sz hs.length ∧ ∀ h ∈ hs, h.wf
end Go.Eng.F
