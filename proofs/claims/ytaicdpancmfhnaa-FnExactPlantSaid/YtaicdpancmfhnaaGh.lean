import Derived.Test.YtaicdpancmfhnaaGe
import Derived.Test.YtaicdpancmfhnaaGf
import Derived.Test.YtaicdpancmfhnaaGg
/-
  Functions: numbers in bytes; what is put.
-/
set_option maxRecDepth 100000
set_option linter.unusedSimpArgs false
set_option linter.unusedVariables false
namespace Go.Eng.F
def varB (n : Nat) : Bytes := if n < 128 then [UInt8.ofNat n] else UInt8.ofNat (n % 128 + 128) :: varB (n / 128)
termination_by n
decreasing_by omega
theorem varB_lo {n : Nat} (h : n < 128) : varB n = [UInt8.ofNat n] := by rw [varB, if_pos h]
theorem varB_hi {n : Nat} (h : ¬ n < 128) : varB n = UInt8.ofNat (n % 128 + 128) :: varB (n / 128) := by rw [varB, if_neg h]
theorem varB_len : ∀ (k n : Nat), n < 128 ^ (k + 1) → (varB n).length ≤ k + 1
  | 0, n, h => by rw [varB_lo (by simpa using h)]; simp
  | k + 1, n, h => by
    by_cases h1 : n < 128
    · rw [varB_lo h1]; simp
    · rw [varB_hi h1]
      have := varB_len k (n / 128) (by rw [Nat.div_lt_iff_lt_mul (by omega)]; rw [Nat.pow_succ] at h; exact h)
      simp only [List.length_cons]; omega
theorem varB_nine {n : Nat} (h : n ≤ 1152921504606846975) : (varB n).length ≤ 9 := varB_len 8 n (by simp; omega)
theorem u8n {k : Nat} (h : k < 256) : IntKind.u8.wrap (k : Int) = ((UInt8.ofNat k).toNat : Int) := by
  simp only [UInt8.toNat_ofNat', IntKind.wrap, IntKind.bits, IntKind.signed]
  simp
def putVarE (b : Bytes) (n : Int) : List (Bool × List E) :=
  if isNum n then [(false, [.o true (some (5, 1)) (bytes (b ++ varB n.toNat))]), (false, [.p (.bool true)])] else [(false, [.p .nils]), (false, [.p (.bool false)])]
theorem isNum_nat {n : Int} (h : isNum n = true) : ∃ m : Nat, n = (m : Int) ∧ m ≤ 1152921504606846975 := ⟨n.toNat, by have := inn_t h; omega⟩
abbrev n_impl_PutVar : Nat := 208
def c_impl_PutVar : AF := ⟨2, 5, [.tmp 4, .tmp 5], (.seq (.ops [.i (.mov 4 (.c (.val false [.nils]))), .i (.mov 5 (.c (.val false [.bool false])))]) (.seq (.seq (.ops [.i (.mov 7 (.s 1)), .i (.call 9 167 false [(.s 7)]), .i (.not 9 (.s 8))]) (.cond (.s 9) (.seq (.ops [.i (.mov 4 (.c (.val false [.nils]))), .i (.mov 5 (.c (.val false [.bool false])))]) .ret) .skip)) (.seq (.ops [.i (.mov 10 (.s 0)), .i (.call 12 133 false [(.s 10)]), .i (.mov 6 (.s 11))]) (.seq (.block 0 (.loop [22, 21, 20, 19, 18, 17, 16, 15, 14, 13, 12] (.seq (.seq (.ops [.i (.mov 12 (.s 1)), .i (.bin 13 .geq (.s 12) (.c (.val false [.int .i64 128])))]) (.cond (.s 13) .skip (.exit 0))) (.block 1 (.seq (.ops [.i (.mov 14 (.s 6)), .i (.mov 15 (.s 1)), .i (.bin 16 .rem (.s 15) (.c (.val false [.int .i64 128]))), .i (.bin 17 .add (.s 16) (.c (.val false [.int .i64 128]))), .i (.cvi 18 .u8 (.s 17)), .i (.lsl 19 1 1 [.int .u8 0] [(0, 1, (.s 18))]), .i (.app 20 5 1 1 (.s 14) (.s 19)), .i (.mov 6 (.s 20))]) (.ops [.i (.mov 21 (.s 1)), .i (.bin 22 .quo (.s 21) (.c (.val false [.int .i64 128]))), .i (.mov 1 (.s 22))])))))) (.seq (.ops [.i (.mov 23 (.s 6)), .i (.mov 24 (.s 1)), .i (.cvi 25 .u8 (.s 24)), .i (.lsl 26 1 1 [.int .u8 0] [(0, 1, (.s 25))]), .i (.app 27 5 1 1 (.s 23) (.s 26)), .i (.mov 4 (.s 27)), .i (.mov 5 (.c (.val false [.bool true])))]) .ret)))))⟩
theorem k_impl_PutVar : cd n_impl_PutVar = some c_impl_PutVar := by kernel_rfl
theorem impl_PutVar_ok (b : Bytes) (n : Int) (hb : b.length ≤ 1073741824) : VC cd n_impl_PutVar (mkP [(false, [.sl (bytes b)]), (false, [.int .i64 n])]) (fun rs _ => rs = putVarE b n) := by
  refine VC_enter k_impl_PutVar rfl ?_
  simp (disch := omega) [c_impl_PutVar, VE, VXR, VP, VB, VTup, kof, bl, it]
  refine VXC_e (isNum_ok n) rfl rfl ?_
  simp (disch := omega) [VE, VXR, VP, VB, VTup, kof, bl, it]
  refine VXB_b (fun h1 => ?_) (fun h1 => ?_)
  case refine_2 => simp (disch := omega) [putVarE, h1, VE, VXR, VP, VB, VTup, kof, bl, it]
  simp (disch := omega) [h1, VE, VXR, VP, VB, VTup, kof, bl, it]
  refine VXC_e (copyBytes_ok b (by omega)) rfl rfl ?_
  obtain ⟨m, rfl, hm⟩ := isNum_nat h1
  have hl := varB_nine hm
  simp (disch := omega) [VE, VXR, VP, VB, VTup, kof, bl, it]
  refine VX_loop3 (σ := Nat × Bytes × Nat) (f1 := _) (es0 := _) (by simp (disch := omega) [VE, VXR, VP, VB, VTup, kof, bl, it]; rfl) (by simp (disch := omega) [VE, VXR, VP, VB, VTup, kof, bl, it]; rfl) (fun p => [(1, .val false [.int .i64 (p.1 : Int)]), (6, .val false [.ow 106496 p.2.2])]) (fun p => [(106496, .sl p.2.2 true true (some (5, 1)) (bytes p.2.1))])
    (fun p g => g = p.1 ∧ p.1 ≤ m ∧ p.2.1 ++ varB p.1 = b ++ varB m) (m, b, _) m (by simp (disch := omega) [VE, VXR, VP, VB, VTup, kof, bl, it]; rfl) (by simp (disch := omega) [VE, VXR, VP, VB, VTup, kof, bl, it]) ⟨rfl, Nat.le_refl _, rfl⟩ ?_
  rintro ⟨k, a, v⟩ n g ⟨hg, hk, ha⟩
  simp only at hg hk ha
  have hla : a.length ≤ b.length + 9 := by
    have := congrArg List.length ha
    simp only [List.length_append] at this
    omega
  simp (disch := omega) [VE, VXR, VP, VB, VTup, kof, bl, it]
  refine VXB_dec (fun h2 => ?_) (fun h2 => ?_)
  · have e1 : Int.tmod (k : Int) 128 = (k : Int) % 128 := Int.tmod_eq_emod_of_nonneg (by omega)
    have e2 : Int.tdiv (k : Int) 128 = (k : Int) / 128 := Int.tdiv_eq_ediv_of_nonneg (by omega)
    have e3 : IntKind.u8.wrap ((k : Int) % 128 + 128) = ((UInt8.ofNat (k % 128 + 128)).toNat : Int) := by rw [← u8n (by omega)]; congr 1
    have e4 : bytes a ++ [[.int .u8 ((UInt8.ofNat (k % 128 + 128)).toNat : Int)]] = bytes (a ++ [UInt8.ofNat (k % 128 + 128)]) := by simp [bytes]
    simp (disch := omega) [e1, e2, e3, e4, bytes_len, VE, VXR, VP, VB, VTup, kof, bl, it]
    refine ⟨k / 128, a ++ [UInt8.ofNat (k % 128 + 128)], _, k / 128, by omega, ⟨rfl, by omega, ?_⟩, ⟨rfl, by omega⟩, rfl, by simp [bytes]⟩
    rw [← ha, varB_hi (n := k) (by omega)]
    simp
  · have e3 : IntKind.u8.wrap (k : Int) = ((UInt8.ofNat k).toNat : Int) := u8n (by omega)
    have e4 : bytes a ++ [[.int .u8 ((UInt8.ofNat k).toNat : Int)]] = bytes (a ++ [UInt8.ofNat k]) := by simp [bytes]
    rw [varB_lo (n := k) (by omega)] at ha
    simp (disch := omega) [e3, e4, bytes_len, putVarE, h1, VE, VXR, VP, VB, VTup, kof, bl, it]
    rw [← ha]
    simp [bytes]
abbrev n_spec_PutVar : Nat := 197
def c_spec_PutVar : AF := ⟨2, 5, [.tmp 4, .tmp 5], (.seq (.ops [.i (.mov 4 (.c (.val false [.nils]))), .i (.mov 5 (.c (.val false [.bool false])))]) (.seq (.seq (.ops [.i (.mov 7 (.s 1)), .i (.call 9 143 false [(.s 7)]), .i (.not 9 (.s 8))]) (.cond (.s 9) (.seq (.ops [.i (.mov 4 (.c (.val false [.nils]))), .i (.mov 5 (.c (.val false [.bool false])))]) .ret) .skip)) (.seq (.ops [.i (.mov 10 (.s 0)), .i (.call 12 127 false [(.s 10)]), .i (.mov 6 (.s 11))]) (.seq (.block 0 (.loop [22, 21, 20, 19, 18, 17, 16, 15, 14, 13, 12] (.seq (.seq (.ops [.i (.mov 12 (.s 1)), .i (.bin 13 .gtr (.s 12) (.c (.val false [.int .i64 127])))]) (.cond (.s 13) .skip (.exit 0))) (.block 1 (.seq (.ops [.i (.mov 14 (.s 6)), .i (.mov 15 (.s 1)), .i (.bin 16 .rem (.s 15) (.c (.val false [.int .i64 128]))), .i (.bin 17 .add (.c (.val false [.int .i64 128])) (.s 16)), .i (.cvi 18 .u8 (.s 17)), .i (.lsl 19 1 1 [.int .u8 0] [(0, 1, (.s 18))]), .i (.app 20 5 1 1 (.s 14) (.s 19)), .i (.mov 6 (.s 20))]) (.ops [.i (.mov 21 (.s 1)), .i (.bin 22 .quo (.s 21) (.c (.val false [.int .i64 128]))), .i (.mov 1 (.s 22))])))))) (.seq (.ops [.i (.mov 23 (.s 6)), .i (.mov 24 (.s 1)), .i (.cvi 25 .u8 (.s 24)), .i (.lsl 26 1 1 [.int .u8 0] [(0, 1, (.s 25))]), .i (.app 27 5 1 1 (.s 23) (.s 26)), .i (.mov 4 (.s 27)), .i (.mov 5 (.c (.val false [.bool true])))]) .ret)))))⟩
theorem k_spec_PutVar : cd n_spec_PutVar = some c_spec_PutVar := by kernel_rfl
theorem spec_PutVar_ok (b : Bytes) (n : Int) (hb : b.length ≤ 1073741824) : VC cd n_spec_PutVar (mkP [(false, [.sl (bytes b)]), (false, [.int .i64 n])]) (fun rs _ => rs = putVarE b n) := by
  refine VC_enter k_spec_PutVar rfl ?_
  simp (disch := omega) [c_spec_PutVar, VE, VXR, VP, VB, VTup, kof, bl, it]
  refine VXC_e (l01Num_ok n) rfl rfl ?_
  simp (disch := omega) [VE, VXR, VP, VB, VTup, kof, bl, it]
  refine VXB_b (fun h1 => ?_) (fun h1 => ?_)
  case refine_2 => simp (disch := omega) [putVarE, h1, VE, VXR, VP, VB, VTup, kof, bl, it]
  simp (disch := omega) [h1, VE, VXR, VP, VB, VTup, kof, bl, it]
  refine VXC_e (l01Copy_ok b (by omega)) rfl rfl ?_
  obtain ⟨m, rfl, hm⟩ := isNum_nat h1
  have hl := varB_nine hm
  simp (disch := omega) [VE, VXR, VP, VB, VTup, kof, bl, it]
  refine VX_loop3 (σ := Nat × Bytes × Nat) (f1 := _) (es0 := _) (by simp (disch := omega) [VE, VXR, VP, VB, VTup, kof, bl, it]; rfl) (by simp (disch := omega) [VE, VXR, VP, VB, VTup, kof, bl, it]; rfl) (fun p => [(1, .val false [.int .i64 (p.1 : Int)]), (6, .val false [.ow 106496 p.2.2])]) (fun p => [(106496, .sl p.2.2 true true (some (5, 1)) (bytes p.2.1))])
    (fun p g => g = p.1 ∧ p.1 ≤ m ∧ p.2.1 ++ varB p.1 = b ++ varB m) (m, b, _) m (by simp (disch := omega) [VE, VXR, VP, VB, VTup, kof, bl, it]; rfl) (by simp (disch := omega) [VE, VXR, VP, VB, VTup, kof, bl, it]) ⟨rfl, Nat.le_refl _, rfl⟩ ?_
  rintro ⟨k, a, v⟩ n g ⟨hg, hk, ha⟩
  simp only at hg hk ha
  have hla : a.length ≤ b.length + 9 := by
    have := congrArg List.length ha
    simp only [List.length_append] at this
    omega
  simp (disch := omega) [VE, VXR, VP, VB, VTup, kof, bl, it]
  refine VXB_dec (fun h2 => ?_) (fun h2 => ?_)
  · have e1 : Int.tmod (k : Int) 128 = (k : Int) % 128 := Int.tmod_eq_emod_of_nonneg (by omega)
    have e2 : Int.tdiv (k : Int) 128 = (k : Int) / 128 := Int.tdiv_eq_ediv_of_nonneg (by omega)
    have e3 : IntKind.u8.wrap (128 + (k : Int) % 128) = ((UInt8.ofNat (k % 128 + 128)).toNat : Int) := by rw [← u8n (by omega)]; congr 1; omega
    have e4 : bytes a ++ [[.int .u8 ((UInt8.ofNat (k % 128 + 128)).toNat : Int)]] = bytes (a ++ [UInt8.ofNat (k % 128 + 128)]) := by simp [bytes]
    simp (disch := omega) [e1, e2, e3, e4, bytes_len, VE, VXR, VP, VB, VTup, kof, bl, it]
    refine ⟨k / 128, a ++ [UInt8.ofNat (k % 128 + 128)], _, k / 128, by omega, ⟨rfl, by omega, ?_⟩, ⟨rfl, by omega⟩, rfl, by simp [bytes]⟩
    rw [← ha, varB_hi (n := k) (by omega)]
    simp
  · have e3 : IntKind.u8.wrap (k : Int) = ((UInt8.ofNat k).toNat : Int) := u8n (by omega)
    have e4 : bytes a ++ [[.int .u8 ((UInt8.ofNat k).toNat : Int)]] = bytes (a ++ [UInt8.ofNat k]) := by simp [bytes]
    rw [varB_lo (n := k) (by omega)] at ha
    simp (disch := omega) [e3, e4, bytes_len, putVarE, h1, VE, VXR, VP, VB, VTup, kof, bl, it]
    rw [← ha]
    simp [bytes]


theorem isNum_of {n : Nat} (h : n ≤ 1152921504606846975) : isNum (n : Int) = true := by simp [isNum, inn]; omega
theorem impl_PutVar_t (b : Bytes) (n : Nat) (hn : n ≤ 1152921504606846975) (hb : b.length ≤ 1073741824) : VC cd n_impl_PutVar (mkP [(false, [.sl (bytes b)]), (false, [.int .i64 (n : Int)])]) (fun rs _ => rs = [(false, [.o true (some (5, 1)) (bytes (b ++ varB n))]), (false, [.p (.bool true)])]) :=
  (impl_PutVar_ok b n hb).mono fun rs ps h => by rw [h, putVarE, if_pos (isNum_of hn)]; rfl
theorem spec_PutVar_t (b : Bytes) (n : Nat) (hn : n ≤ 1152921504606846975) (hb : b.length ≤ 1073741824) : VC cd n_spec_PutVar (mkP [(false, [.sl (bytes b)]), (false, [.int .i64 (n : Int)])]) (fun rs _ => rs = [(false, [.o true (some (5, 1)) (bytes (b ++ varB n))]), (false, [.p (.bool true)])]) :=
  (spec_PutVar_ok b n hb).mono fun rs ps h => by rw [h, putVarE, if_pos (isNum_of hn)]; rfl
abbrev n_spec_l11Num : Nat := 180
def c_spec_l11Num : AF := ⟨2, 4, [.tmp 4], (.seq (.ops [.i (.mov 4 (.c (.val false [.nils])))]) (.seq (.ops [.i (.mov 8 (.s 0)), .i (.mov 9 (.s 1)), .i (.call 11 197 false [(.s 8), (.s 9)]), .i (.mov 7 (.s 10)), .i (.ext 11 (.s 7) 0), .i (.ext 12 (.s 7) 1), .i (.mov 5 (.s 11)), .i (.mov 6 (.s 12))]) (.seq (.ops [.i (.mov 13 (.s 5)), .i (.mov 4 (.s 13))]) .ret)))⟩
theorem k_spec_l11Num : cd n_spec_l11Num = some c_spec_l11Num := by kernel_rfl
theorem l11Num_ok (b : Bytes) (n : Int) (hn : isNum n = true) (hb : b.length ≤ 1073741824) : VC cd n_spec_l11Num (mkP [(false, [.sl (bytes b)]), (false, [.int .i64 n])]) (fun rs _ => rs = [(false, [.o true (some (5, 1)) (bytes (b ++ varB n.toNat))])]) := by
  obtain ⟨m, rfl, hm⟩ := isNum_nat hn
  refine VC_enter k_spec_l11Num rfl ?_
  simp (disch := omega) [c_spec_l11Num, VE, VXR, VP, VB, VTup, kof, bl, it]
  refine VXC_e (spec_PutVar_t b m hm hb) rfl rfl ?_
  simp (disch := omega) [VE, VXR, VP, VB, VTup, kof, bl, it]
abbrev n_impl_writer_num : Nat := 198
def c_impl_writer_num : AF := ⟨2, 5, [], (.ops [.i (.mov 5 (.s 0)), .i (.mov 6 (.s 0)), .i (.nch 7 (.s 6)), .i (.fad 8 (.s 7) 0), .i (.ldh 9 (.s 8) 1 false), .i (.mov 10 (.s 1)), .i (.call 12 208 false [(.s 9), (.s 10)]), .i (.mov 4 (.s 11)), .i (.ext 12 (.s 4) 0), .i (.ext 13 (.s 4) 1), .i (.nch 14 (.s 5)), .i (.fad 15 (.s 14) 0), .i (.sth (.s 15) (.s 12) 1)])⟩
theorem k_impl_writer_num : cd n_impl_writer_num = some c_impl_writer_num := by kernel_rfl
theorem writer_num_ok (b : Bytes) (n : Int) (hn : isNum n = true) (hb : b.length ≤ 1073741824) : VC cd n_impl_writer_num (mkQ [] 204 [.o true (some (5, 1)) (bytes b)] [(false, [.int .i64 n])]) (fun r p => r = [] ∧ p = [.pt 204 [.o true (some (5, 1)) (bytes (b ++ varB n.toNat))]]) := by
  obtain ⟨m, rfl, hm⟩ := isNum_nat hn
  refine VC_enterQ k_impl_writer_num rfl ?_
  simp (disch := omega) [c_impl_writer_num, VE, VXR, VP, VB, VTup, kof, bl, it, nC, imp0, cK, retP, rmKs, frzD, usOk, expR, expE, exp0]
  refine VXC_e (impl_PutVar_t b m hm hb) rfl rfl ?_
  simp (disch := omega) [VE, VXR, VP, VB, VTup, kof, bl, it, nC, imp0, cK, retP, rmKs, frzD, usOk, expR, expE, exp0]
abbrev n_impl_writer_raw : Nat := 199
def c_impl_writer_raw : AF := ⟨2, 4, [], (.ops [.i (.mov 4 (.s 0)), .i (.mov 5 (.s 0)), .i (.nch 6 (.s 5)), .i (.fad 7 (.s 6) 0), .i (.ldh 8 (.s 7) 1 false), .i (.mov 9 (.s 1)), .i (.app 10 5 1 1 (.s 8) (.s 9)), .i (.nch 11 (.s 4)), .i (.fad 12 (.s 11) 0), .i (.sth (.s 12) (.s 10) 1)])⟩
theorem k_impl_writer_raw : cd n_impl_writer_raw = some c_impl_writer_raw := by kernel_rfl
theorem writer_raw_ok (b x : Bytes) (hx : x.length ≤ 1073741824) (hb : b.length ≤ 1073741824) : VC cd n_impl_writer_raw (mkQ [] 204 [.o true (some (5, 1)) (bytes b)] [(false, [.sl (bytes x)])]) (fun r p => r = [] ∧ p = [.pt 204 [.o true (some (5, 1)) (bytes (b ++ x))]]) := by
  refine VC_enterQ k_impl_writer_raw rfl ?_
  simp (disch := omega) [c_impl_writer_raw, bytes_len, bytes_app, VE, VXR, VP, VB, VTup, kof, bl, it, nC, imp0, cK, retP, rmKs, frzD, usOk, expR, expE, exp0]
/-! ### Certificates, headers -/
def qcB (q : Qc) : Bytes := varB q.view.toNat ++ varB q.height.toNat ++ q.block ++ q.bits ++ q.tags.flatten
def headB (h : Head) : Bytes := varB h.view.toNat ++ varB h.height.toNat ++ varB h.proposer.toNat ++ h.parent ++ h.root ++ qcB h.qc
theorem varB_num {n : Int} (h : isNum n = true) : (varB n.toNat).length ≤ 9 := by
  obtain ⟨m, rfl, hm⟩ := isNum_nat h
  simpa using varB_nine hm
theorem bsz_ten {n : Int} (h : 1 ≤ n ∧ n ≤ 10) : bsz n ≤ 2 := by unfold bsz; split <;> omega
structure QcSz (q : Qc) : Prop where
  view : isNum q.view = true
  height : isNum q.height = true
  block : q.block.length = 32
  bits : q.bits.length ≤ 2
  tags : q.tags.length ≤ 16
  tag : ∀ t ∈ q.tags, t.length = 32
theorem qcOk_sz {l : Lim} {q : Qc} (h : qcOk l q = true) : QcSz q := by
  simp only [qcOk, Bool.and_eq_true, decide_eq_true_eq] at h
  obtain ⟨⟨⟨⟨⟨⟨h0, h1⟩, h2⟩, h3⟩, h4⟩, h5⟩, h6⟩ := h
  simp only [bitsOk, Bool.and_eq_true, decide_eq_true_eq] at h4
  have hb := bsz_ten (inn_t h4.1.1)
  have hl := bitsList_len q.bits
  refine ⟨h1, h2, by simpa [hash] using h3, by omega, by omega, fun t ht => ?_⟩
  simp only [hashes, List.all_eq_true] at h6
  simpa [hash] using h6 t ht
theorem flat_take {l : List Bytes} (h : ∀ t ∈ l, t.length = 32) {i : Nat} (hi : i ≤ l.length) : (l.take i).flatten.length = 32 * i := by
  induction i generalizing l with
  | zero => simp
  | succ i ih =>
    cases l with
    | nil => simp at hi
    | cons a l =>
      simp only [List.take_succ_cons, List.flatten_cons, List.length_append]
      rw [ih (fun t ht => h t (by simp [ht])) (by simpa using hi), h a (by simp)]
      omega
theorem flat_next {l : List Bytes} {i : Nat} (h : i < l.length) : (l.take (i + 1)).flatten = (l.take i).flatten ++ l[i] := by
  rw [List.take_add_one, List.getElem?_eq_getElem h, List.flatten_append]
  simp only [Option.toList_some, List.flatten_cons, List.flatten_nil, List.append_nil]
theorem qcB_len {q : Qc} (h : QcSz q) : (qcB q).length ≤ 600 := by
  have h1 := varB_num h.view
  have h2 := varB_num h.height
  have h3 := flat_take h.tag (Nat.le_refl _)
  rw [List.take_length] at h3
  have := h.block
  have := h.bits
  have := h.tags
  simp only [qcB, List.length_append]
  omega
abbrev n_impl_writer_qc : Nat := 200
def c_impl_writer_qc : AF := ⟨2, 6, [], (.seq (.ops [.i (.lbox 3 (.s 1))]) (.seq (.ops [.i (.mov 6 (.s 0)), .i (.fad 7 (.s 3) 0), .i (.ldl 8 3 (.s 7) 1 false), .i (.call 10 198 false [(.s 6), (.s 8)])]) (.seq (.ops [.i (.mov 10 (.s 0)), .i (.fad 11 (.s 3) 1), .i (.ldl 12 3 (.s 11) 1 false), .i (.call 14 198 false [(.s 10), (.s 12)])]) (.seq (.ops [.i (.mov 14 (.s 0)), .i (.fad 15 (.s 3) 2), .i (.ldl 16 3 (.s 15) 1 false), .i (.call 18 199 false [(.s 14), (.s 16)])]) (.seq (.ops [.i (.mov 18 (.s 0)), .i (.fad 19 (.s 3) 3), .i (.ldl 20 3 (.s 19) 1 false), .i (.call 22 199 false [(.s 18), (.s 20)])]) (.seq (.ops [.i (.fad 22 (.s 3) 4), .i (.ldl 23 3 (.s 22) 1 false), .i (.len 24 false (.s 23)), .i (.mov 25 (.c (.val false [.int .i64 0])))]) (.block 0 (.loop [32, 31, 30, 29, 28, 27, 26, 5] (.seq (.ops [.i (.bin 26 .lss (.s 25) (.s 24))]) (.seq (.cond (.s 26) .skip (.exit 0)) (.seq (.block 1 (.seq (.ops [.i (.iad 27 (.s 23) (.s 25) 1), .i (.ldh 28 (.s 27) 1 false), .i (.mov 5 (.s 28))]) (.ops [.i (.mov 29 (.s 0)), .i (.mov 30 (.s 5)), .i (.call 32 199 false [(.s 29), (.s 30)])]))) (.ops [.i (.bin 32 .add (.s 25) (.c (.val false [.int .i64 1]))), .i (.mov 25 (.s 32))]))))))))))))⟩
theorem k_impl_writer_qc : cd n_impl_writer_qc = some c_impl_writer_qc := by kernel_rfl
theorem writer_qc_ok (b : Bytes) (q : Qc) (hq : QcSz q) (hb : b.length ≤ 1000000000) : VC cd n_impl_writer_qc (mkQ [] 204 [.o true (some (5, 1)) (bytes b)] [(true, q.c)]) (fun r p => r = [] ∧ p = [.pt 204 [.o true (some (5, 1)) (bytes (b ++ qcB q))]]) := by
  have h1 := varB_num hq.view
  have h2 := varB_num hq.height
  have h4 := hq.block
  have h5 := hq.bits
  have h6 := hq.tags
  refine VC_enterQ k_impl_writer_qc rfl ?_
  simp (disch := omega) [c_impl_writer_qc, Qc.c, VE, VXR, VP, VB, VTup, kof, bl, it, nC, imp0, cK, retP, rmKs, frzD, usOk, expR, expE, exp0]
  refine VXC_p (writer_num_ok _ q.view hq.view ?_) (by simp (disch := omega) [VE, VXR, VP, VB, VTup, kof, bl, it, nC, imp0, cK, retP, rmKs, frzD, usOk, expR, expE, exp0]; exact ⟨rfl, rfl⟩) rfl rfl (by simp (disch := omega) [VE, VXR, VP, VB, VTup, kof, bl, it, nC, imp0, cK, retP, rmKs, frzD, usOk, expR, expE, exp0]; exact ⟨rfl, rfl⟩) (by simp (disch := omega) [VE, VXR, VP, VB, VTup, kof, bl, it, nC, imp0, cK, retP, rmKs, frzD, usOk, expR, expE, exp0]) (by simp (disch := omega) [VE, VXR, VP, VB, VTup, kof, bl, it, nC, imp0, cK, retP, rmKs, frzD, usOk, expR, expE, exp0]) (by simp (disch := omega) [VE, VXR, VP, VB, VTup, kof, bl, it, nC, imp0, cK, retP, rmKs, frzD, usOk, expR, expE, exp0]) (by omega) (by simp (disch := omega) [VE, VXR, VP, VB, VTup, kof, bl, it, nC, imp0, cK, retP, rmKs, frzD, usOk, expR, expE, exp0]) ?_
  · (try simp only [List.length_append]); omega
  simp (disch := omega) [VE, VXR, VP, VB, VTup, kof, bl, it, nC, imp0, cK, retP, rmKs, frzD, usOk, expR, expE, exp0]
  refine VXC_p (writer_num_ok _ q.height hq.height ?_) (by simp (disch := omega) [VE, VXR, VP, VB, VTup, kof, bl, it, nC, imp0, cK, retP, rmKs, frzD, usOk, expR, expE, exp0]; exact ⟨rfl, rfl⟩) rfl rfl (by simp (disch := omega) [VE, VXR, VP, VB, VTup, kof, bl, it, nC, imp0, cK, retP, rmKs, frzD, usOk, expR, expE, exp0]; exact ⟨rfl, rfl⟩) (by simp (disch := omega) [VE, VXR, VP, VB, VTup, kof, bl, it, nC, imp0, cK, retP, rmKs, frzD, usOk, expR, expE, exp0]) (by simp (disch := omega) [VE, VXR, VP, VB, VTup, kof, bl, it, nC, imp0, cK, retP, rmKs, frzD, usOk, expR, expE, exp0]) (by simp (disch := omega) [VE, VXR, VP, VB, VTup, kof, bl, it, nC, imp0, cK, retP, rmKs, frzD, usOk, expR, expE, exp0]) (by omega) (by simp (disch := omega) [VE, VXR, VP, VB, VTup, kof, bl, it, nC, imp0, cK, retP, rmKs, frzD, usOk, expR, expE, exp0]) ?_
  · (try simp only [List.length_append]); omega
  simp (disch := omega) [VE, VXR, VP, VB, VTup, kof, bl, it, nC, imp0, cK, retP, rmKs, frzD, usOk, expR, expE, exp0]
  refine VXC_p (writer_raw_ok _ q.block (by omega) ?_) (by simp (disch := omega) [VE, VXR, VP, VB, VTup, kof, bl, it, nC, imp0, cK, retP, rmKs, frzD, usOk, expR, expE, exp0]; exact ⟨rfl, rfl⟩) rfl rfl (by simp (disch := omega) [VE, VXR, VP, VB, VTup, kof, bl, it, nC, imp0, cK, retP, rmKs, frzD, usOk, expR, expE, exp0]; exact ⟨rfl, rfl⟩) (by simp (disch := omega) [VE, VXR, VP, VB, VTup, kof, bl, it, nC, imp0, cK, retP, rmKs, frzD, usOk, expR, expE, exp0]) (by simp (disch := omega) [VE, VXR, VP, VB, VTup, kof, bl, it, nC, imp0, cK, retP, rmKs, frzD, usOk, expR, expE, exp0]) (by simp (disch := omega) [VE, VXR, VP, VB, VTup, kof, bl, it, nC, imp0, cK, retP, rmKs, frzD, usOk, expR, expE, exp0]) (by omega) (by simp (disch := omega) [VE, VXR, VP, VB, VTup, kof, bl, it, nC, imp0, cK, retP, rmKs, frzD, usOk, expR, expE, exp0]) ?_
  · (try simp only [List.length_append]); omega
  simp (disch := omega) [VE, VXR, VP, VB, VTup, kof, bl, it, nC, imp0, cK, retP, rmKs, frzD, usOk, expR, expE, exp0]
  refine VXC_p (writer_raw_ok _ q.bits (by omega) ?_) (by simp (disch := omega) [VE, VXR, VP, VB, VTup, kof, bl, it, nC, imp0, cK, retP, rmKs, frzD, usOk, expR, expE, exp0]; exact ⟨rfl, rfl⟩) rfl rfl (by simp (disch := omega) [VE, VXR, VP, VB, VTup, kof, bl, it, nC, imp0, cK, retP, rmKs, frzD, usOk, expR, expE, exp0]; exact ⟨rfl, rfl⟩) (by simp (disch := omega) [VE, VXR, VP, VB, VTup, kof, bl, it, nC, imp0, cK, retP, rmKs, frzD, usOk, expR, expE, exp0]) (by simp (disch := omega) [VE, VXR, VP, VB, VTup, kof, bl, it, nC, imp0, cK, retP, rmKs, frzD, usOk, expR, expE, exp0]) (by simp (disch := omega) [VE, VXR, VP, VB, VTup, kof, bl, it, nC, imp0, cK, retP, rmKs, frzD, usOk, expR, expE, exp0]) (by omega) (by simp (disch := omega) [VE, VXR, VP, VB, VTup, kof, bl, it, nC, imp0, cK, retP, rmKs, frzD, usOk, expR, expE, exp0]) ?_
  · (try simp only [List.length_append]); omega
  simp (disch := omega) [bss_len, VE, VXR, VP, VB, VTup, kof, bl, it, nC, imp0, cK, retP, rmKs, frzD, usOk, expR, expE, exp0]
  refine VX_loop3 (σ := Nat × Nat) (f1 := _) (es0 := _) (by simp (disch := omega) [VE, VXR, VP, VB, VTup, kof, bl, it, nC, imp0, cK, retP, rmKs, frzD, usOk, expR, expE, exp0]; rfl) (by simp (disch := omega) [VE, VXR, VP, VB, VTup, kof, bl, it, nC, imp0, cK, retP, rmKs, frzD, usOk, expR, expE, exp0]; rfl) (fun p => [(25, .val false [.int .i64 (p.1 : Int)])]) (fun p => [(4096, .pt 0 204 [.ow 1099528404992 p.2]), (1099528404992, .sl p.2 true true (some (5, 1)) (bytes (b ++ (varB q.view.toNat ++ (varB q.height.toNat ++ (q.block ++ (q.bits ++ (q.tags.take p.1).flatten)))))))])
    (fun p g => g + p.1 = q.tags.length) (0, 14) q.tags.length (by simp (disch := omega) [VE, VXR, VP, VB, VTup, kof, bl, it, nC, imp0, cK, retP, rmKs, frzD, usOk, expR, expE, exp0]) (by simp (disch := omega) [VE, VXR, VP, VB, VTup, kof, bl, it, nC, imp0, cK, retP, rmKs, frzD, usOk, expR, expE, exp0]) (by omega) ?_
  rintro ⟨i, v⟩ n g hg
  simp only at hg
  simp (disch := omega) [VE, VXR, VP, VB, VTup, kof, bl, it, nC, imp0, cK, retP, rmKs, frzD, usOk, expR, expE, exp0]
  refine VXB_dec (fun h7 => ?_) (fun h7 => ?_)
  · have hi : i < q.tags.length := by omega
    have hx := hq.tag _ (List.getElem_mem hi)
    have hf := flat_take hq.tag (i := i) (by omega)
    simp (disch := omega) [bss_get hi, VE, VXR, VP, VB, VTup, kof, bl, it, nC, imp0, cK, retP, rmKs, frzD, usOk, expR, expE, exp0]
    refine VXC_p (writer_raw_ok _ q.tags[i] (by omega) ?_) (by simp (disch := omega) [VE, VXR, VP, VB, VTup, kof, bl, it, nC, imp0, cK, retP, rmKs, frzD, usOk, expR, expE, exp0]; exact ⟨rfl, rfl⟩) rfl rfl (by simp (disch := omega) [VE, VXR, VP, VB, VTup, kof, bl, it, nC, imp0, cK, retP, rmKs, frzD, usOk, expR, expE, exp0]; exact ⟨rfl, rfl⟩) (by simp (disch := omega) [VE, VXR, VP, VB, VTup, kof, bl, it, nC, imp0, cK, retP, rmKs, frzD, usOk, expR, expE, exp0]) (by simp (disch := omega) [VE, VXR, VP, VB, VTup, kof, bl, it, nC, imp0, cK, retP, rmKs, frzD, usOk, expR, expE, exp0]) (by simp (disch := omega) [VE, VXR, VP, VB, VTup, kof, bl, it, nC, imp0, cK, retP, rmKs, frzD, usOk, expR, expE, exp0]) (by omega) (by simp (disch := omega) [VE, VXR, VP, VB, VTup, kof, bl, it, nC, imp0, cK, retP, rmKs, frzD, usOk, expR, expE, exp0]) ?_
    · (try simp only [List.length_append]); omega
    simp (disch := omega) [VE, VXR, VP, VB, VTup, kof, bl, it, nC, imp0, cK, retP, rmKs, frzD, usOk, expR, expE, exp0]
    exact ⟨i + 1, _, g - 1, by omega, by omega, rfl, rfl, by rw [flat_next hi]⟩
  · have hi : i = q.tags.length := by omega
    subst hi
    rw [List.take_length]
    simp (disch := omega) [qcB, VE, VXR, VP, VB, VTup, kof, bl, it, nC, imp0, cK, retP, rmKs, frzD, usOk, expR, expE, exp0]
def putE (ok : Bool) (b : Bytes) : List (Bool × List E) :=
  if ok then [(false, [.o true (some (5, 1)) (bytes b)]), (false, [.p (.bool true)])] else [(false, [.p .nils]), (false, [.p (.bool false)])]
theorem putE_t {ok : Bool} {b : Bytes} (h : ok = true) : putE ok b = [(false, [.o true (some (5, 1)) (bytes b)]), (false, [.p (.bool true)])] := by subst h; rfl
theorem putE_f {ok : Bool} {b : Bytes} (h : ok = false) : putE ok b = [(false, [.p .nils]), (false, [.p (.bool false)])] := by subst h; rfl
theorem _root_.Go.Eng.VC.re {cd : Nat → Option AF} {g : Nat} {al : List (Bool × List E)} {rs rt : List (Bool × List E)} (h : VC cd g al (fun r _ => r = rs)) (e : rs = rt) : VC cd g al (fun r _ => r = rt) := by subst e; exact h
abbrev n_spec_PutQc : Nat := 181
def c_spec_PutQc : AF := ⟨3, 6, [.tmp 6, .tmp 7], (.seq (.ops [.i (.lbox 3 (.s 0)), .i (.lbox 5 (.s 2)), .i (.mov 6 (.c (.val false [.nils]))), .i (.mov 7 (.c (.val false [.bool false])))]) (.seq (.seq (.ops [.i (.ldl 11 3 (.s 3) 5 true), .i (.ldl 12 5 (.s 5) 5 true), .i (.call 14 146 false [(.s 11), (.s 12)]), .i (.not 14 (.s 13))]) (.cond (.s 14) (.seq (.ops [.i (.mov 6 (.c (.val false [.nils]))), .i (.mov 7 (.c (.val false [.bool false])))]) .ret) .skip)) (.seq (.ops [.i (.mov 15 (.s 1)), .i (.fad 16 (.s 5) 0), .i (.ldl 17 5 (.s 16) 1 false), .i (.call 19 180 false [(.s 15), (.s 17)]), .i (.fad 19 (.s 5) 1), .i (.ldl 20 5 (.s 19) 1 false), .i (.call 22 180 false [(.s 18), (.s 20)]), .i (.fad 22 (.s 5) 2), .i (.ldl 23 5 (.s 22) 1 false), .i (.app 24 5 1 1 (.s 21) (.s 23)), .i (.mov 8 (.s 24))]) (.seq (.ops [.i (.mov 25 (.s 8)), .i (.fad 26 (.s 5) 3), .i (.ldl 27 5 (.s 26) 1 false), .i (.app 28 5 1 1 (.s 25) (.s 27)), .i (.mov 8 (.s 28))]) (.seq (.seq (.ops [.i (.fad 29 (.s 5) 4), .i (.ldl 30 5 (.s 29) 1 false), .i (.len 31 false (.s 30)), .i (.mov 32 (.c (.val false [.int .i64 0])))]) (.block 0 (.loop [39, 38, 37, 36, 35, 34, 33, 10] (.seq (.ops [.i (.bin 33 .lss (.s 32) (.s 31))]) (.seq (.cond (.s 33) .skip (.exit 0)) (.seq (.block 1 (.seq (.ops [.i (.iad 34 (.s 30) (.s 32) 1), .i (.ldh 35 (.s 34) 1 false), .i (.mov 10 (.s 35))]) (.ops [.i (.mov 36 (.s 8)), .i (.mov 37 (.s 10)), .i (.app 38 5 1 1 (.s 36) (.s 37)), .i (.mov 8 (.s 38))]))) (.ops [.i (.bin 39 .add (.s 32) (.c (.val false [.int .i64 1]))), .i (.mov 32 (.s 39))]))))))) (.seq (.ops [.i (.mov 40 (.s 8)), .i (.mov 6 (.s 40)), .i (.mov 7 (.c (.val false [.bool true])))]) .ret))))))⟩
theorem k_spec_PutQc : cd n_spec_PutQc = some c_spec_PutQc := by kernel_rfl
theorem spec_PutQc_ok (l : Lim) (b : Bytes) (q : Qc) (hw : q.wf) (hb : b.length ≤ 1000000000) : VC cd n_spec_PutQc (mkP [(true, l.c), (false, [.sl (bytes b)]), (true, q.c)]) (fun rs _ => rs = putE (qcOk l q) (b ++ qcB q)) := by
  refine VC_enter k_spec_PutQc rfl ?_
  simp (disch := omega) [c_spec_PutQc, Qc.c, Lim.c, VE, VXR, VP, VB, VTup, kof, bl, it]
  refine VXC_e (spec_QcOk_ok l q hw) rfl rfl ?_
  simp (disch := omega) [VE, VXR, VP, VB, VTup, kof, bl, it]
  refine VXB_b (fun h0 => ?_) (fun h0 => ?_)
  case refine_2 => simp (disch := omega) [h0, putE, VE, VXR, VP, VB, VTup, kof, bl, it]
  have hq := qcOk_sz h0
  have h1 := varB_num hq.view
  have h2 := varB_num hq.height
  have h4 := hq.block
  have h5 := hq.bits
  have h6 := hq.tags
  simp (disch := omega) [h0, VE, VXR, VP, VB, VTup, kof, bl, it]
  refine VXC_e (l11Num_ok b q.view hq.view (by omega)) rfl rfl ?_
  simp (disch := omega) [VE, VXR, VP, VB, VTup, kof, bl, it]
  refine VXC_e (l11Num_ok (b ++ varB q.view.toNat) q.height hq.height (by simp only [List.length_append]; omega)) rfl rfl ?_
  simp (disch := omega) [bytes_app, bytes_len, VE, VXR, VP, VB, VTup, kof, bl, it]
  have e1 : List.length b + (List.length (varB q.view.toNat) + (List.length (varB q.height.toNat) + List.length q.block)) ≤ 1073741824 := by omega
  simp (disch := omega) [bytes_app, bytes_len, bss_len, VE, VXR, VP, VB, VTup, kof, bl, it]
  refine VX_loop3 (σ := Nat × Nat) (f1 := _) (es0 := _) (by simp (disch := omega) [VE, VXR, VP, VB, VTup, kof, bl, it]; rfl) (by simp (disch := omega) [VE, VXR, VP, VB, VTup, kof, bl, it]; rfl) (fun p => [(32, .val false [.int .i64 (p.1 : Int)]), (8, .val false [.ow 188416 p.2])]) (fun p => [(188416, .sl p.2 true true (some (5, 1)) (bytes (b ++ (varB q.view.toNat ++ (varB q.height.toNat ++ (q.block ++ (q.bits ++ (q.tags.take p.1).flatten)))))))])
    (fun p g => g + p.1 = q.tags.length) (0, _) q.tags.length (by simp (disch := omega) [VE, VXR, VP, VB, VTup, kof, bl, it]; rfl) (by simp (disch := omega) [VE, VXR, VP, VB, VTup, kof, bl, it]) (by omega) ?_
  rintro ⟨i, v⟩ n g hg
  simp only at hg
  simp (disch := omega) [VE, VXR, VP, VB, VTup, kof, bl, it]
  refine VXB_dec (fun h7 => ?_) (fun h7 => ?_)
  · have hi : i < q.tags.length := by omega
    have hx := hq.tag _ (List.getElem_mem hi)
    have hf := flat_take hq.tag (i := i) (by omega)
    simp (disch := omega) [bss_get hi, bytes_app, bytes_len, hf, VE, VXR, VP, VB, VTup, kof, bl, it]
    exact ⟨i + 1, _, g - 1, by omega, by omega, ⟨by omega, rfl⟩, rfl, by rw [flat_next hi]⟩
  · have hi : i = q.tags.length := by omega
    subst hi
    rw [List.take_length]
    simp (disch := omega) [qcB, putE, h0, VE, VXR, VP, VB, VTup, kof, bl, it]
structure HeadSz (h : Head) : Prop where
  view : isNum h.view = true
  height : isNum h.height = true
  proposer : isNum h.proposer = true
  parent : h.parent.length = 32
  root : h.root.length = 32
  qc : QcSz h.qc
theorem headOk_qc {l : Lim} {h : Head} (hk : headOk l h = true) : qcOk l h.qc = true := by
  simp only [headOk, Bool.and_eq_true] at hk
  exact hk.1.1.1.1.1.1
theorem headOk_sz {l : Lim} {h : Head} (hk : headOk l h = true) : HeadSz h := by
  have hq := headOk_qc hk
  have hn := lim_n (qcOk_lim hq)
  simp only [headOk, Bool.and_eq_true, decide_eq_true_eq] at hk
  obtain ⟨⟨⟨⟨⟨⟨h0, h1⟩, h2⟩, h3⟩, h4⟩, h5⟩, h6⟩ := hk
  have h2' := inn_t h2
  have h3' := inn_t h3
  exact ⟨h1, by simp [isNum, inn]; omega, by simp [isNum, inn]; omega, by simpa [hash] using h4, by simpa [hash] using h5, qcOk_sz hq⟩
theorem headB_len {h : Head} (hs : HeadSz h) : (headB h).length ≤ 1000 := by
  have h1 := varB_num hs.view
  have h2 := varB_num hs.height
  have h3 := varB_num hs.proposer
  have h4 := hs.parent
  have h5 := hs.root
  have h6 := qcB_len hs.qc
  simp only [headB, List.length_append]
  omega
abbrev n_impl_writer_head : Nat := 182
def c_impl_writer_head : AF := ⟨2, 5, [], (.seq (.ops [.i (.lbox 3 (.s 1))]) (.seq (.ops [.i (.mov 4 (.s 0)), .i (.fad 5 (.s 3) 0), .i (.ldl 6 3 (.s 5) 1 false), .i (.call 8 198 false [(.s 4), (.s 6)])]) (.seq (.ops [.i (.mov 8 (.s 0)), .i (.fad 9 (.s 3) 1), .i (.ldl 10 3 (.s 9) 1 false), .i (.call 12 198 false [(.s 8), (.s 10)])]) (.seq (.ops [.i (.mov 12 (.s 0)), .i (.fad 13 (.s 3) 2), .i (.ldl 14 3 (.s 13) 1 false), .i (.call 16 198 false [(.s 12), (.s 14)])]) (.seq (.ops [.i (.mov 16 (.s 0)), .i (.fad 17 (.s 3) 3), .i (.ldl 18 3 (.s 17) 1 false), .i (.call 20 199 false [(.s 16), (.s 18)])]) (.seq (.ops [.i (.mov 20 (.s 0)), .i (.fad 21 (.s 3) 4), .i (.ldl 22 3 (.s 21) 1 false), .i (.call 24 199 false [(.s 20), (.s 22)])]) (.ops [.i (.mov 24 (.s 0)), .i (.fad 25 (.s 3) 5), .i (.ldl 26 3 (.s 25) 5 true), .i (.call 28 200 false [(.s 24), (.s 26)])])))))))⟩
theorem k_impl_writer_head : cd n_impl_writer_head = some c_impl_writer_head := by kernel_rfl
theorem writer_head_ok (b : Bytes) (h : Head) (hs : HeadSz h) (hb : b.length ≤ 900000000) : VC cd n_impl_writer_head (mkQ [] 204 [.o true (some (5, 1)) (bytes b)] [(true, h.c)]) (fun r p => r = [] ∧ p = [.pt 204 [.o true (some (5, 1)) (bytes (b ++ headB h))]]) := by
  have h1 := varB_num hs.view
  have h2 := varB_num hs.height
  have h3 := varB_num hs.proposer
  have h4 := hs.parent
  have h5 := hs.root
  refine VC_enterQ k_impl_writer_head rfl ?_
  simp (disch := omega) [c_impl_writer_head, Head.c, VE, VXR, VP, VB, VTup, kof, bl, it, nC, imp0, cK, retP, rmKs, frzD, usOk, expR, expE, exp0]
  refine VXC_p (writer_num_ok _ h.view hs.view ?_) (by simp (disch := omega) [VE, VXR, VP, VB, VTup, kof, bl, it, nC, imp0, cK, retP, rmKs, frzD, usOk, expR, expE, exp0]; exact ⟨rfl, rfl⟩) rfl rfl (by simp (disch := omega) [VE, VXR, VP, VB, VTup, kof, bl, it, nC, imp0, cK, retP, rmKs, frzD, usOk, expR, expE, exp0]; exact ⟨rfl, rfl⟩) (by simp (disch := omega) [VE, VXR, VP, VB, VTup, kof, bl, it, nC, imp0, cK, retP, rmKs, frzD, usOk, expR, expE, exp0]) (by simp (disch := omega) [VE, VXR, VP, VB, VTup, kof, bl, it, nC, imp0, cK, retP, rmKs, frzD, usOk, expR, expE, exp0]) (by simp (disch := omega) [VE, VXR, VP, VB, VTup, kof, bl, it, nC, imp0, cK, retP, rmKs, frzD, usOk, expR, expE, exp0]) (by omega) (by simp (disch := omega) [VE, VXR, VP, VB, VTup, kof, bl, it, nC, imp0, cK, retP, rmKs, frzD, usOk, expR, expE, exp0]) ?_
  · (try simp only [List.length_append]); omega
  simp (disch := omega) [VE, VXR, VP, VB, VTup, kof, bl, it, nC, imp0, cK, retP, rmKs, frzD, usOk, expR, expE, exp0]
  refine VXC_p (writer_num_ok _ h.height hs.height ?_) (by simp (disch := omega) [VE, VXR, VP, VB, VTup, kof, bl, it, nC, imp0, cK, retP, rmKs, frzD, usOk, expR, expE, exp0]; exact ⟨rfl, rfl⟩) rfl rfl (by simp (disch := omega) [VE, VXR, VP, VB, VTup, kof, bl, it, nC, imp0, cK, retP, rmKs, frzD, usOk, expR, expE, exp0]; exact ⟨rfl, rfl⟩) (by simp (disch := omega) [VE, VXR, VP, VB, VTup, kof, bl, it, nC, imp0, cK, retP, rmKs, frzD, usOk, expR, expE, exp0]) (by simp (disch := omega) [VE, VXR, VP, VB, VTup, kof, bl, it, nC, imp0, cK, retP, rmKs, frzD, usOk, expR, expE, exp0]) (by simp (disch := omega) [VE, VXR, VP, VB, VTup, kof, bl, it, nC, imp0, cK, retP, rmKs, frzD, usOk, expR, expE, exp0]) (by omega) (by simp (disch := omega) [VE, VXR, VP, VB, VTup, kof, bl, it, nC, imp0, cK, retP, rmKs, frzD, usOk, expR, expE, exp0]) ?_
  · (try simp only [List.length_append]); omega
  simp (disch := omega) [VE, VXR, VP, VB, VTup, kof, bl, it, nC, imp0, cK, retP, rmKs, frzD, usOk, expR, expE, exp0]
  refine VXC_p (writer_num_ok _ h.proposer hs.proposer ?_) (by simp (disch := omega) [VE, VXR, VP, VB, VTup, kof, bl, it, nC, imp0, cK, retP, rmKs, frzD, usOk, expR, expE, exp0]; exact ⟨rfl, rfl⟩) rfl rfl (by simp (disch := omega) [VE, VXR, VP, VB, VTup, kof, bl, it, nC, imp0, cK, retP, rmKs, frzD, usOk, expR, expE, exp0]; exact ⟨rfl, rfl⟩) (by simp (disch := omega) [VE, VXR, VP, VB, VTup, kof, bl, it, nC, imp0, cK, retP, rmKs, frzD, usOk, expR, expE, exp0]) (by simp (disch := omega) [VE, VXR, VP, VB, VTup, kof, bl, it, nC, imp0, cK, retP, rmKs, frzD, usOk, expR, expE, exp0]) (by simp (disch := omega) [VE, VXR, VP, VB, VTup, kof, bl, it, nC, imp0, cK, retP, rmKs, frzD, usOk, expR, expE, exp0]) (by omega) (by simp (disch := omega) [VE, VXR, VP, VB, VTup, kof, bl, it, nC, imp0, cK, retP, rmKs, frzD, usOk, expR, expE, exp0]) ?_
  · (try simp only [List.length_append]); omega
  simp (disch := omega) [VE, VXR, VP, VB, VTup, kof, bl, it, nC, imp0, cK, retP, rmKs, frzD, usOk, expR, expE, exp0]
  refine VXC_p (writer_raw_ok _ h.parent (by omega) ?_) (by simp (disch := omega) [VE, VXR, VP, VB, VTup, kof, bl, it, nC, imp0, cK, retP, rmKs, frzD, usOk, expR, expE, exp0]; exact ⟨rfl, rfl⟩) rfl rfl (by simp (disch := omega) [VE, VXR, VP, VB, VTup, kof, bl, it, nC, imp0, cK, retP, rmKs, frzD, usOk, expR, expE, exp0]; exact ⟨rfl, rfl⟩) (by simp (disch := omega) [VE, VXR, VP, VB, VTup, kof, bl, it, nC, imp0, cK, retP, rmKs, frzD, usOk, expR, expE, exp0]) (by simp (disch := omega) [VE, VXR, VP, VB, VTup, kof, bl, it, nC, imp0, cK, retP, rmKs, frzD, usOk, expR, expE, exp0]) (by simp (disch := omega) [VE, VXR, VP, VB, VTup, kof, bl, it, nC, imp0, cK, retP, rmKs, frzD, usOk, expR, expE, exp0]) (by omega) (by simp (disch := omega) [VE, VXR, VP, VB, VTup, kof, bl, it, nC, imp0, cK, retP, rmKs, frzD, usOk, expR, expE, exp0]) ?_
  · (try simp only [List.length_append]); omega
  simp (disch := omega) [VE, VXR, VP, VB, VTup, kof, bl, it, nC, imp0, cK, retP, rmKs, frzD, usOk, expR, expE, exp0]
  refine VXC_p (writer_raw_ok _ h.root (by omega) ?_) (by simp (disch := omega) [VE, VXR, VP, VB, VTup, kof, bl, it, nC, imp0, cK, retP, rmKs, frzD, usOk, expR, expE, exp0]; exact ⟨rfl, rfl⟩) rfl rfl (by simp (disch := omega) [VE, VXR, VP, VB, VTup, kof, bl, it, nC, imp0, cK, retP, rmKs, frzD, usOk, expR, expE, exp0]; exact ⟨rfl, rfl⟩) (by simp (disch := omega) [VE, VXR, VP, VB, VTup, kof, bl, it, nC, imp0, cK, retP, rmKs, frzD, usOk, expR, expE, exp0]) (by simp (disch := omega) [VE, VXR, VP, VB, VTup, kof, bl, it, nC, imp0, cK, retP, rmKs, frzD, usOk, expR, expE, exp0]) (by simp (disch := omega) [VE, VXR, VP, VB, VTup, kof, bl, it, nC, imp0, cK, retP, rmKs, frzD, usOk, expR, expE, exp0]) (by omega) (by simp (disch := omega) [VE, VXR, VP, VB, VTup, kof, bl, it, nC, imp0, cK, retP, rmKs, frzD, usOk, expR, expE, exp0]) ?_
  · (try simp only [List.length_append]); omega
  simp (disch := omega) [VE, VXR, VP, VB, VTup, kof, bl, it, nC, imp0, cK, retP, rmKs, frzD, usOk, expR, expE, exp0]
  refine VXC_p (writer_qc_ok _ h.qc hs.qc ?_) (by simp (disch := omega) [VE, VXR, VP, VB, VTup, kof, bl, it, nC, imp0, cK, retP, rmKs, frzD, usOk, expR, expE, exp0]; exact ⟨rfl, rfl⟩) rfl rfl (by simp (disch := omega) [VE, VXR, VP, VB, VTup, kof, bl, it, nC, imp0, cK, retP, rmKs, frzD, usOk, expR, expE, exp0]; exact ⟨rfl, rfl⟩) (by simp (disch := omega) [VE, VXR, VP, VB, VTup, kof, bl, it, nC, imp0, cK, retP, rmKs, frzD, usOk, expR, expE, exp0]) (by simp (disch := omega) [VE, VXR, VP, VB, VTup, kof, bl, it, nC, imp0, cK, retP, rmKs, frzD, usOk, expR, expE, exp0]) (by simp (disch := omega) [VE, VXR, VP, VB, VTup, kof, bl, it, nC, imp0, cK, retP, rmKs, frzD, usOk, expR, expE, exp0]) (by omega) (by simp (disch := omega) [VE, VXR, VP, VB, VTup, kof, bl, it, nC, imp0, cK, retP, rmKs, frzD, usOk, expR, expE, exp0]) ?_
  · (try simp only [List.length_append]); omega
  simp (disch := omega) [headB, VE, VXR, VP, VB, VTup, kof, bl, it, nC, imp0, cK, retP, rmKs, frzD, usOk, expR, expE, exp0]
abbrev n_impl_PutHead : Nat := 158
def c_impl_PutHead : AF := ⟨3, 5, [.tmp 6, .tmp 7], (.seq (.ops [.i (.lbox 3 (.s 0)), .i (.lbox 5 (.s 2)), .i (.mov 6 (.c (.val false [.nils]))), .i (.mov 7 (.c (.val false [.bool false])))]) (.seq (.seq (.ops [.i (.ldl 9 3 (.s 3) 5 true), .i (.ldl 10 5 (.s 5) 10 true), .i (.call 12 139 false [(.s 9), (.s 10)]), .i (.not 12 (.s 11))]) (.cond (.s 12) (.seq (.ops [.i (.mov 6 (.c (.val false [.nils]))), .i (.mov 7 (.c (.val false [.bool false])))]) .ret) .skip)) (.seq (.ops [.i (.mov 13 (.s 1)), .i (.call 15 133 false [(.s 13)]), .i (.bld 15 [.nils] [(0, 1, (.s 14))]), .i (.hbox 16 204 (.s 15)), .i (.mov 8 (.s 16))]) (.seq (.ops [.i (.mov 17 (.s 8)), .i (.ldl 18 5 (.s 5) 10 true), .i (.call 20 182 false [(.s 17), (.s 18)])]) (.seq (.ops [.i (.mov 20 (.s 8)), .i (.nch 21 (.s 20)), .i (.fad 22 (.s 21) 0), .i (.ldh 23 (.s 22) 1 false), .i (.mov 6 (.s 23)), .i (.mov 7 (.c (.val false [.bool true])))]) .ret)))))⟩
theorem k_impl_PutHead : cd n_impl_PutHead = some c_impl_PutHead := by kernel_rfl
theorem impl_PutHead_ok (l : Lim) (b : Bytes) (h : Head) (hw : h.wf) (hb : b.length ≤ 900000000) : VC cd n_impl_PutHead (mkP [(true, l.c), (false, [.sl (bytes b)]), (true, h.c)]) (fun rs _ => rs = putE (headOk l h) (b ++ headB h)) := by
  refine VC_enter k_impl_PutHead rfl ?_
  simp (disch := omega) [c_impl_PutHead, Head.c, Lim.c, VE, VXR, VP, VB, VTup, kof, bl, it]
  refine VXC_e (impl_HeadOk_ok l h hw) rfl rfl ?_
  simp (disch := omega) [VE, VXR, VP, VB, VTup, kof, bl, it]
  refine VXB_b (fun h0 => ?_) (fun h0 => ?_)
  case refine_2 => simp (disch := omega) [h0, putE, VE, VXR, VP, VB, VTup, kof, bl, it]
  have hs := headOk_sz h0
  simp (disch := omega) [h0, VE, VXR, VP, VB, VTup, kof, bl, it]
  refine VXC_e (copyBytes_ok b (by omega)) rfl rfl ?_
  simp (disch := omega) [VE, VXR, VP, VB, VTup, kof, bl, it, nC, imp0, cK, retP, rmKs, frzD, usOk, expR, expE, exp0]
  refine VXC_p (writer_head_ok _ h hs ?_) (by simp (disch := omega) [VE, VXR, VP, VB, VTup, kof, bl, it, nC, imp0, cK, retP, rmKs, frzD, usOk, expR, expE, exp0]; exact ⟨rfl, rfl⟩) rfl rfl (by simp (disch := omega) [VE, VXR, VP, VB, VTup, kof, bl, it, nC, imp0, cK, retP, rmKs, frzD, usOk, expR, expE, exp0]; exact ⟨rfl, rfl⟩) (by simp (disch := omega) [VE, VXR, VP, VB, VTup, kof, bl, it, nC, imp0, cK, retP, rmKs, frzD, usOk, expR, expE, exp0]) (by simp (disch := omega) [VE, VXR, VP, VB, VTup, kof, bl, it, nC, imp0, cK, retP, rmKs, frzD, usOk, expR, expE, exp0]) (by simp (disch := omega) [VE, VXR, VP, VB, VTup, kof, bl, it, nC, imp0, cK, retP, rmKs, frzD, usOk, expR, expE, exp0]) (by omega) (by simp (disch := omega) [VE, VXR, VP, VB, VTup, kof, bl, it, nC, imp0, cK, retP, rmKs, frzD, usOk, expR, expE, exp0]) ?_
  · (try simp only [List.length_append]); omega
  simp (disch := omega) [putE, h0, VE, VXR, VP, VB, VTup, kof, bl, it, nC, imp0, cK, retP, rmKs, frzD, usOk, expR, expE, exp0]
abbrev n_spec_PutHead : Nat := 157
def c_spec_PutHead : AF := ⟨3, 6, [.tmp 6, .tmp 7], (.seq (.ops [.i (.lbox 3 (.s 0)), .i (.lbox 5 (.s 2)), .i (.mov 6 (.c (.val false [.nils]))), .i (.mov 7 (.c (.val false [.bool false])))]) (.seq (.seq (.ops [.i (.ldl 9 3 (.s 3) 5 true), .i (.ldl 10 5 (.s 5) 10 true), .i (.call 12 99 false [(.s 9), (.s 10)]), .i (.not 12 (.s 11))]) (.cond (.s 12) (.seq (.ops [.i (.mov 6 (.c (.val false [.nils]))), .i (.mov 7 (.c (.val false [.bool false])))]) .ret) .skip)) (.seq (.ops [.i (.mov 13 (.s 1)), .i (.fad 14 (.s 5) 0), .i (.ldl 15 5 (.s 14) 1 false), .i (.call 17 180 false [(.s 13), (.s 15)]), .i (.fad 17 (.s 5) 1), .i (.ldl 18 5 (.s 17) 1 false), .i (.call 20 180 false [(.s 16), (.s 18)]), .i (.fad 20 (.s 5) 2), .i (.ldl 21 5 (.s 20) 1 false), .i (.call 23 180 false [(.s 19), (.s 21)]), .i (.mov 8 (.s 22))]) (.seq (.ops [.i (.mov 23 (.s 8)), .i (.fad 24 (.s 5) 3), .i (.ldl 25 5 (.s 24) 1 false), .i (.app 26 5 1 1 (.s 23) (.s 25)), .i (.fad 27 (.s 5) 4), .i (.ldl 28 5 (.s 27) 1 false), .i (.app 29 5 1 1 (.s 26) (.s 28)), .i (.mov 8 (.s 29))]) (.seq (.ops [.i (.ldl 30 3 (.s 3) 5 true), .i (.mov 31 (.s 8)), .i (.fad 32 (.s 5) 5), .i (.ldl 33 5 (.s 32) 5 true), .i (.call 35 181 false [(.s 30), (.s 31), (.s 33)]), .i (.ext 35 (.s 34) 0), .i (.ext 36 (.s 34) 1), .i (.mov 6 (.s 35)), .i (.mov 7 (.s 36))]) .ret)))))⟩
theorem k_spec_PutHead : cd n_spec_PutHead = some c_spec_PutHead := by kernel_rfl
theorem spec_PutHead_ok (l : Lim) (b : Bytes) (h : Head) (hw : h.wf) (hb : b.length ≤ 900000000) : VC cd n_spec_PutHead (mkP [(true, l.c), (false, [.sl (bytes b)]), (true, h.c)]) (fun rs _ => rs = putE (headOk l h) (b ++ headB h)) := by
  refine VC_enter k_spec_PutHead rfl ?_
  simp (disch := omega) [c_spec_PutHead, Head.c, Lim.c, VE, VXR, VP, VB, VTup, kof, bl, it]
  refine VXC_e (spec_HeadOk_ok l h hw) rfl rfl ?_
  simp (disch := omega) [VE, VXR, VP, VB, VTup, kof, bl, it]
  refine VXB_b (fun h0 => ?_) (fun h0 => ?_)
  case refine_2 => simp (disch := omega) [h0, putE, VE, VXR, VP, VB, VTup, kof, bl, it]
  have hs := headOk_sz h0
  have h1 := varB_num hs.view
  have h2 := varB_num hs.height
  have h3 := varB_num hs.proposer
  have h4 := hs.parent
  have h5 := hs.root
  simp (disch := omega) [h0, VE, VXR, VP, VB, VTup, kof, bl, it]
  refine VXC_e (l11Num_ok b h.view hs.view (by omega)) rfl rfl ?_
  simp (disch := omega) [VE, VXR, VP, VB, VTup, kof, bl, it]
  refine VXC_e (l11Num_ok (b ++ varB h.view.toNat) h.height hs.height (by simp only [List.length_append]; omega)) rfl rfl ?_
  simp (disch := omega) [VE, VXR, VP, VB, VTup, kof, bl, it]
  refine VXC_e (l11Num_ok (b ++ (varB h.view.toNat ++ varB h.height.toNat)) h.proposer hs.proposer (by simp only [List.length_append]; omega)) rfl rfl ?_
  simp (disch := omega) [bytes_app, bytes_len, VE, VXR, VP, VB, VTup, kof, bl, it]
  refine VXC_e ((spec_PutQc_ok l (b ++ (varB h.view.toNat ++ (varB h.height.toNat ++ (varB h.proposer.toNat ++ (h.parent ++ h.root))))) h.qc hw.2.2.2.2.2 (by simp only [List.length_append]; omega)).re (putE_t (headOk_qc h0))) (by simp [argsD, argDs, argD, St.slc, lk_cons, lk] <;> first | rfl | exact ⟨rfl, rfl⟩ | exact ⟨rfl, rfl, rfl⟩) rfl ?_
  simp (disch := omega) [putE, h0, headB, VE, VXR, VP, VB, VTup, kof, bl, it]
/-! ### The hash of a header -/
def hhash (l : Lim) (h : Head) : Bytes := if headOk l h then sha (72 :: headB h) else []
def hhashE (l : Lim) (h : Head) : List (Bool × List E) := if headOk l h then [(false, [.o true (some (5, 1)) (bytes (sha (72 :: headB h)))])] else [(false, [.p .nils])]
abbrev n_impl_HeadHash : Nat := 115
def c_impl_HeadHash : AF := ⟨2, 5, [.tmp 4], (.seq (.ops [.i (.lbox 2 (.s 0)), .i (.lbox 3 (.s 1)), .i (.mov 4 (.c (.val false [.nils])))]) (.seq (.ops [.i (.ldl 8 2 (.s 2) 5 true), .i (.bsl 9 5 1 1 [.int .u8 0] [(0, 1, (.c (.val false [.int .u8 72])))]), .i (.ldl 10 3 (.s 3) 10 true), .i (.call 12 158 false [(.s 8), (.s 9), (.s 10)]), .i (.mov 7 (.s 11)), .i (.ext 12 (.s 7) 0), .i (.ext 13 (.s 7) 1), .i (.mov 5 (.s 12)), .i (.mov 6 (.s 13))]) (.seq (.seq (.ops [.i (.mov 14 (.s 6)), .i (.not 15 (.s 14))]) (.cond (.s 15) (.seq (.ops [.i (.mov 4 (.c (.val false [.nils])))]) .ret) .skip)) (.seq (.ops [.i (.mov 16 (.s 5)), .i (.call 18 135 false [(.s 16)]), .i (.mov 4 (.s 17))]) .ret))))⟩
theorem k_impl_HeadHash : cd n_impl_HeadHash = some c_impl_HeadHash := by kernel_rfl
theorem impl_HeadHash_ok (l : Lim) (h : Head) (hw : h.wf) : VC cd n_impl_HeadHash (mkP [(true, l.c), (true, h.c)]) (fun rs _ => rs = hhashE l h) := by
  have e : [[D.int .u8 72]] = bytes [72] := rfl
  refine VC_enter k_impl_HeadHash rfl ?_
  simp (disch := omega) [c_impl_HeadHash, Head.c, Lim.c, e, VE, VXR, VP, VB, VTup, kof, bl, it]
  cases h0 : headOk l h with
  | false =>
    refine VXC_e ((impl_PutHead_ok l [72] h hw (by simp)).re (putE_f h0)) (by simp [argsD, argDs, argD, St.slc, lk_cons, lk] <;> first | rfl | exact ⟨rfl, rfl⟩ | exact ⟨rfl, rfl, rfl⟩) rfl ?_
    simp (disch := omega) [hhashE, h0, VE, VXR, VP, VB, VTup, kof, bl, it]
  | true =>
    have hs := headB_len (headOk_sz h0)
    refine VXC_e ((impl_PutHead_ok l [72] h hw (by simp)).re (putE_t h0)) (by simp [argsD, argDs, argD, St.slc, lk_cons, lk] <;> first | rfl | exact ⟨rfl, rfl⟩ | exact ⟨rfl, rfl, rfl⟩) rfl ?_
    simp (disch := omega) [VE, VXR, VP, VB, VTup, kof, bl, it]
    refine VXC_e (impl_Sha_ok (72 :: headB h) (by simp; omega)) (by simp [argsD, argDs, argD, St.slc, lk_cons, lk] <;> first | rfl | exact ⟨rfl, rfl⟩ | exact ⟨rfl, rfl, rfl⟩) rfl ?_
    simp (disch := omega) [hhashE, h0, VE, VXR, VP, VB, VTup, kof, bl, it]
abbrev n_spec_HeadHash : Nat := 113
def c_spec_HeadHash : AF := ⟨2, 5, [.tmp 4], (.seq (.ops [.i (.lbox 2 (.s 0)), .i (.lbox 3 (.s 1)), .i (.mov 4 (.c (.val false [.nils])))]) (.seq (.ops [.i (.ldl 8 2 (.s 2) 5 true), .i (.bsl 9 5 1 1 [.int .u8 0] [(0, 1, (.c (.val false [.int .u8 72])))]), .i (.ldl 10 3 (.s 3) 10 true), .i (.call 12 157 false [(.s 8), (.s 9), (.s 10)]), .i (.mov 7 (.s 11)), .i (.ext 12 (.s 7) 0), .i (.ext 13 (.s 7) 1), .i (.mov 5 (.s 12)), .i (.mov 6 (.s 13))]) (.seq (.seq (.ops [.i (.mov 14 (.s 6)), .i (.not 15 (.s 14))]) (.cond (.s 15) (.seq (.ops [.i (.mov 4 (.c (.val false [.nils])))]) .ret) .skip)) (.seq (.ops [.i (.mov 16 (.s 5)), .i (.call 18 129 false [(.s 16)]), .i (.mov 4 (.s 17))]) .ret))))⟩
theorem k_spec_HeadHash : cd n_spec_HeadHash = some c_spec_HeadHash := by kernel_rfl
theorem spec_HeadHash_ok (l : Lim) (h : Head) (hw : h.wf) : VC cd n_spec_HeadHash (mkP [(true, l.c), (true, h.c)]) (fun rs _ => rs = hhashE l h) := by
  have e : [[D.int .u8 72]] = bytes [72] := rfl
  refine VC_enter k_spec_HeadHash rfl ?_
  simp (disch := omega) [c_spec_HeadHash, Head.c, Lim.c, e, VE, VXR, VP, VB, VTup, kof, bl, it]
  cases h0 : headOk l h with
  | false =>
    refine VXC_e ((spec_PutHead_ok l [72] h hw (by simp)).re (putE_f h0)) (by simp [argsD, argDs, argD, St.slc, lk_cons, lk] <;> first | rfl | exact ⟨rfl, rfl⟩ | exact ⟨rfl, rfl, rfl⟩) rfl ?_
    simp (disch := omega) [hhashE, h0, VE, VXR, VP, VB, VTup, kof, bl, it]
  | true =>
    have hs := headB_len (headOk_sz h0)
    refine VXC_e ((spec_PutHead_ok l [72] h hw (by simp)).re (putE_t h0)) (by simp [argsD, argDs, argD, St.slc, lk_cons, lk] <;> first | rfl | exact ⟨rfl, rfl⟩ | exact ⟨rfl, rfl, rfl⟩) rfl ?_
    simp (disch := omega) [VE, VXR, VP, VB, VTup, kof, bl, it]
    refine VXC_e (spec_Sha_ok (72 :: headB h) (by simp; omega)) (by simp [argsD, argDs, argD, St.slc, lk_cons, lk] <;> first | rfl | exact ⟨rfl, rfl⟩ | exact ⟨rfl, rfl, rfl⟩) rfl ?_
    simp (disch := omega) [hhashE, h0, VE, VXR, VP, VB, VTup, kof, bl, it]
end Go.Eng.F
/-
  Functions: links, forests.
-/
set_option maxRecDepth 100000
set_option linter.unusedSimpArgs false
set_option linter.unusedVariables false
namespace Go.Eng.F
theorem hhashE_t {l : Lim} {h : Head} (e : headOk l h = true) : hhashE l h = [(false, [.o true (some (5, 1)) (bytes (sha (72 :: headB h)))])] := by unfold hhashE; rw [e]; rfl
theorem hhashE_f {l : Lim} {h : Head} (e : headOk l h = false) : hhashE l h = [(false, [.p .nils])] := by unfold hhashE; rw [e]; rfl
/-! ### Forests -/
structure Forest where
  l : Lim
  heads : List Head
def Forest.c (f : Forest) : List D := f.l.c ++ [.sl (hds f.heads)]
def Forest.wf (f : Forest) : Prop := HeadsWf f.heads
def Forest.wc (f : Forest) : Prop := Sz f.heads.length ∧ ∀ h ∈ f.heads, h.wc
theorem Forest.wc.wf {f : Forest} (h : f.wc) : f.wf := ⟨h.1, fun x hx => (h.2 x hx).1⟩
def hh (l : Lim) (hs : List Head) (i : Nat) : Bytes := match hs[i]? with | some h => hhash l h | none => []
theorem hh_get {l : Lim} {hs : List Head} {i : Nat} (h : i < hs.length) : hh l hs i = hhash l hs[i] := by simp [hh, h]
def Dist (l : Lim) (hs : List Head) : Prop := ∀ i, i < hs.length → ∀ j, j < i → hh l hs i ≠ hh l hs j
noncomputable def dist (l : Lim) (hs : List Head) : Bool := @decide (Dist l hs) (Classical.propDecidable _)
theorem dist_t {l : Lim} {hs : List Head} (h : Dist l hs) : dist l hs = true := by unfold dist; exact @decide_eq_true _ (Classical.propDecidable _) h
theorem dist_f {l : Lim} {hs : List Head} {i j : Nat} (hi : i < hs.length) (hj : j < i) (h : hh l hs i = hh l hs j) : dist l hs = false := by unfold dist; exact @decide_eq_false _ (Classical.propDecidable _) (fun hd => hd i hi j hj h)
noncomputable def forestOk (f : Forest) : Bool := f.l.ok && decide ((f.heads.length : Int) ≤ 10) && headsOk f.l f.heads && dist f.l f.heads
theorem hds_take (hs : List Head) (i : Nat) : (hds hs).take i = hds (hs.take i) := by simp [hds]
theorem hds_tget {hs : List Head} {i j : Nat} (h : j < i) (hi : i < hs.length) : (hds (hs.take i))[j]? = some hs[j].c := by
  have : j < (hs.take i).length := by simp; omega
  rw [hds_get this]
  simp
theorem bytes_nil : bytes [] = [] := rfl
theorem ne_next {l : Lim} {hs : List Head} {i j : Nat} (h : ∀ b, b < j → hh l hs i ≠ hh l hs b) (hn : hh l hs i ≠ hh l hs j) : ∀ b, b < j + 1 → hh l hs i ≠ hh l hs b := fun b hb => by
  rcases Nat.lt_or_ge b j with hl | hl
  · exact h b hl
  · obtain rfl : b = j := by omega
    exact hn
theorem dist_next {l : Lim} {hs : List Head} {i : Nat} (h : ∀ a, a < i → ∀ b, b < a → hh l hs a ≠ hh l hs b) (hn : ∀ b, b < i → hh l hs i ≠ hh l hs b) : ∀ a, a < i + 1 → ∀ b, b < a → hh l hs a ≠ hh l hs b := fun a ha b hb => by
  rcases Nat.lt_or_ge a i with hl | hl
  · exact h a hl b hb
  · obtain rfl : a = i := by omega
    exact hn b hb
theorem mem_take {α : Type} {l : List α} {i j : Nat} (h : j < l.length) (hj : j < i) : l[j] ∈ l.take i := by
  have : j < (l.take i).length := by simp; omega
  have e : (l.take i)[j] = l[j] := by simp
  rw [← e]
  exact List.getElem_mem this
abbrev n_impl_ForestOk : Nat := 118
def c_impl_ForestOk : AF := ⟨1, 6, [.tmp 2], (.seq (.ops [.i (.lbox 1 (.s 0)), .i (.mov 2 (.c (.val false [.bool false])))]) (.seq (.seq (.ops [.i (.fad 7 (.s 1) 5), .i (.ldl 8 1 (.s 7) 1 false), .i (.len 9 false (.s 8)), .i (.mov 10 (.c (.val false [.int .i64 0])))]) (.block 0 (.loop [34, 33, 32, 31, 30, 29, 28, 27, 26, 25, 24, 23, 22, 21, 20, 19, 18, 17, 16, 15, 14, 13, 12, 11, 6, 4, 3] (.seq (.ops [.i (.bin 11 .lss (.s 10) (.s 9))]) (.seq (.cond (.s 11) .skip (.exit 0)) (.seq (.block 1 (.seq (.ops [.i (.mov 12 (.s 10)), .i (.iad 13 (.s 8) (.s 10) 10), .i (.ldh 14 (.s 13) 10 true), .i (.lal 4 [.int .i64 0, .int .i64 0, .int .i64 0, .nils, .nils, .int .i64 0, .int .i64 0, .nils, .nils, .nils]), .i (.mov 3 (.s 12)), .i (.stl 4 (.s 4) (.s 14) 10)]) (.seq (.ops [.i (.fad 15 (.s 1) 5), .i (.ldl 16 1 (.s 15) 1 false), .i (.mov 17 (.s 3)), .i (.slc 18 10 (.s 16) none (some (.s 17))), .i (.len 19 false (.s 18)), .i (.mov 20 (.c (.val false [.int .i64 0])))]) (.block 2 (.loop [33, 32, 31, 30, 29, 28, 27, 26, 25, 24, 23, 22, 21, 6] (.seq (.ops [.i (.bin 21 .lss (.s 20) (.s 19))]) (.seq (.cond (.s 21) .skip (.exit 2)) (.seq (.block 3 (.seq (.ops [.i (.iad 22 (.s 18) (.s 20) 10), .i (.ldh 23 (.s 22) 10 true), .i (.lal 6 [.int .i64 0, .int .i64 0, .int .i64 0, .nils, .nils, .int .i64 0, .int .i64 0, .nils, .nils, .nils]), .i (.stl 6 (.s 6) (.s 23) 10)]) (.seq (.ops [.i (.fad 24 (.s 1) 0), .i (.ldl 25 1 (.s 24) 5 true), .i (.ldl 26 4 (.s 4) 10 true), .i (.call 28 115 false [(.s 25), (.s 26)]), .i (.fad 28 (.s 1) 0), .i (.ldl 29 1 (.s 28) 5 true), .i (.ldl 30 6 (.s 6) 10 true), .i (.call 32 115 false [(.s 29), (.s 30)]), .i (.call 33 114 false [(.s 27), (.s 31)])]) (.cond (.s 32) (.seq (.ops [.i (.mov 2 (.c (.val false [.bool false])))]) .ret) .skip)))) (.ops [.i (.bin 33 .add (.s 20) (.c (.val false [.int .i64 1]))), .i (.mov 20 (.s 33))]))))))))) (.ops [.i (.bin 34 .add (.s 10) (.c (.val false [.int .i64 1]))), .i (.mov 10 (.s 34))]))))))) (.seq (.ops [.i (.fad 35 (.s 1) 0), .i (.ldl 36 1 (.s 35) 5 true), .i (.call 38 152 false [(.s 36)]), .i (.mov 38 (.s 37)), .g 38 true 40 (.fad 39 (.s 1) 5), .g 38 true 41 (.ldl 40 1 (.s 39) 1 false), .g 38 true 42 (.len 41 false (.s 40)), .g 38 true 43 (.bin 42 .leq (.s 41) (.c (.val false [.int .i64 10]))), .i (.pick 43 (.s 38) (.s 42) (.c (.val false [.bool false]))), .i (.mov 44 (.s 43)), .g 44 true 46 (.fad 45 (.s 1) 0), .g 44 true 47 (.ldl 46 1 (.s 45) 5 true), .g 44 true 48 (.fad 47 (.s 1) 5), .g 44 true 49 (.ldl 48 1 (.s 47) 1 false), .g 44 true 50 (.call 50 108 false [(.s 46), (.s 48)]), .i (.pick 50 (.s 44) (.s 49) (.c (.val false [.bool false]))), .i (.mov 2 (.s 50))]) .ret)))⟩
theorem k_impl_ForestOk : cd n_impl_ForestOk = some c_impl_ForestOk := by kernel_rfl
theorem impl_ForestOk_ok (f : Forest) (hw : f.wf) : VC cd n_impl_ForestOk (mkP [(true, f.c)]) (fun rs _ => rs = bl (forestOk f)) := by
  obtain ⟨w1, w2⟩ := hw
  simp only [Sz] at w1
  refine VC_enter k_impl_ForestOk rfl ?_
  simp (disch := omega) [c_impl_ForestOk, Forest.c, Lim.c, hds_len, VE, VXR, VP, VB, VTup, kof, bl, it]
  refine VX_loop3 (σ := Nat) (f1 := _) (es0 := _) (by simp (disch := omega) [VE, VXR, VP, VB, VTup, kof, bl, it]; rfl) (by simp (disch := omega) [VE, VXR, VP, VB, VTup, kof, bl, it]; rfl) (fun i => [(10, .val false [.int .i64 (i : Int)])]) (fun _ => []) (fun i g => g + i = f.heads.length ∧ ∀ a, a < i → ∀ b, b < a → hh f.l f.heads a ≠ hh f.l f.heads b) 0 f.heads.length (by simp (disch := omega) [VE, VXR, VP, VB, VTup, kof, bl, it]) (by simp (disch := omega) [VE, VXR, VP, VB, VTup, kof, bl, it]) ⟨by omega, fun a ha => by omega⟩ ?_
  rintro i n g ⟨hg, hd⟩
  simp (disch := omega) [VE, VXR, VP, VB, VTup, kof, bl, it]
  refine VXB_dec (fun h1 => ?_) (fun h1 => ?_)
  · have hi : i < f.heads.length := by omega
    have w3 := w2 _ (List.getElem_mem hi)
    have hle : i ≤ f.heads.length := by omega
    simp (disch := omega) [hds_get hi, Head.c, hds_len, wid_hds, hds_take, hle, VE, VXR, VP, VB, VTup, kof, bl, it]
    refine VX_loop3 (σ := Nat) (f1 := _) (es0 := _) (by simp (disch := omega) [VE, VXR, VP, VB, VTup, kof, bl, it]; rfl) (by simp (disch := omega) [VE, VXR, VP, VB, VTup, kof, bl, it]; rfl) (fun j => [(20, .val false [.int .i64 (j : Int)])]) (fun _ => []) (fun j g => g + j = i ∧ ∀ b, b < j → hh f.l f.heads i ≠ hh f.l f.heads b) 0 i (by simp (disch := omega) [VE, VXR, VP, VB, VTup, kof, bl, it]) (by simp (disch := omega) [VE, VXR, VP, VB, VTup, kof, bl, it]) ⟨by omega, fun b hb => by omega⟩ ?_
    rintro j n2 g2 ⟨hg2, hd2⟩
    simp (disch := omega) [VE, VXR, VP, VB, VTup, kof, bl, it]
    refine VXB_dec (fun h2 => ?_) (fun h2 => ?_)
    · have hj : j < i := by omega
      have hj2 : j < f.heads.length := by omega
      have w4 := w2 _ (List.getElem_mem hj2)
      simp (disch := omega) [hds_tget hj hi, Head.c, VE, VXR, VP, VB, VTup, kof, bl, it]
      cases h3 : headOk f.l f.heads[i] <;> cases h4 : headOk f.l f.heads[j]
      all_goals
        first | refine VXC_e ((impl_HeadHash_ok f.l f.heads[i] w3).re (hhashE_t h3)) (by simp [argsD, argDs, argD, St.slc, lk_cons, lk] <;> first | rfl | exact ⟨rfl, rfl⟩ | exact ⟨rfl, rfl, rfl⟩) rfl ?_ | refine VXC_e ((impl_HeadHash_ok f.l f.heads[i] w3).re (hhashE_f h3)) (by simp [argsD, argDs, argD, St.slc, lk_cons, lk] <;> first | rfl | exact ⟨rfl, rfl⟩ | exact ⟨rfl, rfl, rfl⟩) rfl ?_
        simp (disch := omega) [VE, VXR, VP, VB, VTup, kof, bl, it]
        first | refine VXC_e ((impl_HeadHash_ok f.l f.heads[j] w4).re (hhashE_t h4)) (by simp [argsD, argDs, argD, St.slc, lk_cons, lk] <;> first | rfl | exact ⟨rfl, rfl⟩ | exact ⟨rfl, rfl, rfl⟩) rfl ?_ | refine VXC_e ((impl_HeadHash_ok f.l f.heads[j] w4).re (hhashE_f h4)) (by simp [argsD, argDs, argD, St.slc, lk_cons, lk] <;> first | rfl | exact ⟨rfl, rfl⟩ | exact ⟨rfl, rfl, rfl⟩) rfl ?_
        simp (disch := omega) [VE, VXR, VP, VB, VTup, kof, bl, it]
        refine VXC_e (impl_SameBytes_ok (hh f.l f.heads i) (hh f.l f.heads j)) (by simp [hh_get hi, hh_get hj2, hhash, h3, h4, bytes_nil, argsD, argDs, argD, St.slc, lk_cons, lk] <;> first | rfl | exact ⟨rfl, rfl⟩ | exact ⟨rfl, rfl, rfl⟩) rfl ?_
        simp (disch := omega) [VE, VXR, VP, VB, VTup, kof, bl, it]
        refine VXB_dec (fun h5 => ?_) (fun h5 => ?_)
        · simp (disch := omega) [forestOk, dist_f hi hj h5, VE, VXR, VP, VB, VTup, kof, bl, it]
        · simp (disch := omega) [VE, VXR, VP, VB, VTup, kof, bl, it]
          exact ⟨j + 1, g2 - 1, by omega, ⟨by omega, ne_next hd2 h5⟩, by simp⟩
    · have hj : j = i := by omega
      subst hj
      simp (disch := omega) [VE, VXR, VP, VB, VTup, kof, bl, it]
      exact ⟨j + 1, g - 1, by omega, ⟨by omega, dist_next hd hd2⟩, by simp⟩
  · have hi : i = f.heads.length := by omega
    subst hi
    have h5 := dist_t hd
    simp (disch := omega) [VE, VXR, VP, VB, VTup, kof, bl, it]
    refine VXC_e (impl_LimitsOk_ok f.l) rfl rfl ?_
    simp (disch := omega) [hds_len, VE, VXR, VP, VB, VTup, kof, bl, it]
    refine VXB_b (fun h2 => ?_) (fun h2 => ?_) <;> simp (disch := omega) [h2, forestOk, h5, hds_len, VE, VXR, VP, VB, VTup, kof, bl, it]
    refine VXB_dec (fun h3 => ?_) (fun h3 => ?_) <;> simp (disch := omega) [h2, h3, h5, hds_len, VE, VXR, VP, VB, VTup, kof, bl, it]
    refine VXC_e (areHeads_ok f.l f.heads ⟨w1, w2⟩) (by simp [argsD, argDs, argD, St.slc, lk_cons, lk] <;> first | rfl | exact ⟨rfl, rfl⟩ | exact ⟨rfl, rfl, rfl⟩) rfl ?_
    simp (disch := omega) [h2, h3, h5, VE, VXR, VP, VB, VTup, kof, bl, it]
abbrev n_spec_ForestOk : Nat := 117
def c_spec_ForestOk : AF := ⟨1, 6, [.tmp 2], (.seq (.ops [.i (.lbox 1 (.s 0)), .i (.mov 2 (.c (.val false [.bool false])))]) (.seq (.seq (.ops [.i (.fad 7 (.s 1) 0), .i (.ldl 8 1 (.s 7) 5 true), .i (.call 10 142 false [(.s 8)]), .i (.not 10 (.s 9)), .i (.mov 11 (.s 10)), .g 11 false 13 (.fad 12 (.s 1) 5), .g 11 false 14 (.ldl 13 1 (.s 12) 1 false), .g 11 false 15 (.len 14 false (.s 13)), .g 11 false 16 (.bin 15 .gtr (.s 14) (.c (.val false [.int .i64 10]))), .i (.pick 16 (.s 11) (.c (.val false [.bool true])) (.s 15))]) (.cond (.s 16) (.seq (.ops [.i (.mov 2 (.c (.val false [.bool false])))]) .ret) .skip)) (.seq (.seq (.ops [.i (.fad 17 (.s 1) 5), .i (.ldl 18 1 (.s 17) 1 false), .i (.len 19 false (.s 18)), .i (.mov 20 (.c (.val false [.int .i64 0])))]) (.block 0 (.loop [49, 48, 47, 46, 45, 44, 43, 42, 41, 40, 39, 38, 37, 36, 35, 34, 33, 32, 31, 30, 29, 28, 27, 26, 25, 24, 23, 22, 21, 6, 4, 3] (.seq (.ops [.i (.bin 21 .lss (.s 20) (.s 19))]) (.seq (.cond (.s 21) .skip (.exit 0)) (.seq (.block 1 (.seq (.ops [.i (.mov 22 (.s 20)), .i (.iad 23 (.s 18) (.s 20) 10), .i (.ldh 24 (.s 23) 10 true), .i (.lal 4 [.int .i64 0, .int .i64 0, .int .i64 0, .nils, .nils, .int .i64 0, .int .i64 0, .nils, .nils, .nils]), .i (.mov 3 (.s 22)), .i (.stl 4 (.s 4) (.s 24) 10)]) (.seq (.seq (.ops [.i (.fad 25 (.s 1) 0), .i (.ldl 26 1 (.s 25) 5 true), .i (.ldl 27 4 (.s 4) 10 true), .i (.call 29 99 false [(.s 26), (.s 27)]), .i (.not 29 (.s 28))]) (.cond (.s 29) (.seq (.ops [.i (.mov 2 (.c (.val false [.bool false])))]) .ret) .skip)) (.seq (.ops [.i (.fad 30 (.s 1) 5), .i (.ldl 31 1 (.s 30) 1 false), .i (.mov 32 (.s 3)), .i (.slc 33 10 (.s 31) none (some (.s 32))), .i (.len 34 false (.s 33)), .i (.mov 35 (.c (.val false [.int .i64 0])))]) (.block 2 (.loop [48, 47, 46, 45, 44, 43, 42, 41, 40, 39, 38, 37, 36, 6] (.seq (.ops [.i (.bin 36 .lss (.s 35) (.s 34))]) (.seq (.cond (.s 36) .skip (.exit 2)) (.seq (.block 3 (.seq (.ops [.i (.iad 37 (.s 33) (.s 35) 10), .i (.ldh 38 (.s 37) 10 true), .i (.lal 6 [.int .i64 0, .int .i64 0, .int .i64 0, .nils, .nils, .int .i64 0, .int .i64 0, .nils, .nils, .nils]), .i (.stl 6 (.s 6) (.s 38) 10)]) (.seq (.ops [.i (.fad 39 (.s 1) 0), .i (.ldl 40 1 (.s 39) 5 true), .i (.ldl 41 6 (.s 6) 10 true), .i (.call 43 113 false [(.s 40), (.s 41)]), .i (.fad 43 (.s 1) 0), .i (.ldl 44 1 (.s 43) 5 true), .i (.ldl 45 4 (.s 4) 10 true), .i (.call 47 113 false [(.s 44), (.s 45)]), .i (.call 48 112 false [(.s 42), (.s 46)])]) (.cond (.s 47) (.seq (.ops [.i (.mov 2 (.c (.val false [.bool false])))]) .ret) .skip)))) (.ops [.i (.bin 48 .add (.s 35) (.c (.val false [.int .i64 1]))), .i (.mov 35 (.s 48))])))))))))) (.ops [.i (.bin 49 .add (.s 20) (.c (.val false [.int .i64 1]))), .i (.mov 20 (.s 49))]))))))) (.seq (.ops [.i (.mov 2 (.c (.val false [.bool true])))]) .ret))))⟩
theorem k_spec_ForestOk : cd n_spec_ForestOk = some c_spec_ForestOk := by kernel_rfl
theorem spec_ForestOk_ok (f : Forest) (hw : f.wf) : VC cd n_spec_ForestOk (mkP [(true, f.c)]) (fun rs _ => rs = bl (forestOk f)) := by
  obtain ⟨w1, w2⟩ := hw
  simp only [Sz] at w1
  refine VC_enter k_spec_ForestOk rfl ?_
  simp (disch := omega) [c_spec_ForestOk, Forest.c, Lim.c, hds_len, VE, VXR, VP, VB, VTup, kof, bl, it]
  refine VXC_e (spec_LimitsOk_ok f.l) rfl rfl ?_
  simp (disch := omega) [hds_len, VE, VXR, VP, VB, VTup, kof, bl, it]
  refine VXB_b (fun h2 => ?_) (fun h2 => ?_)
  case refine_2 => simp (disch := omega) [h2, forestOk, VE, VXR, VP, VB, VTup, kof, bl, it]
  simp (disch := omega) [h2, hds_len, VE, VXR, VP, VB, VTup, kof, bl, it]
  refine VXB_dec (fun h3 => ?_) (fun h3 => ?_)
  · simp (disch := omega) [h2, h3, forestOk, show ¬ (f.heads.length : Int) ≤ 10 by omega, VE, VXR, VP, VB, VTup, kof, bl, it]
  simp (disch := omega) [h2, h3, hds_len, VE, VXR, VP, VB, VTup, kof, bl, it]
  refine VX_loop3 (σ := Nat) (f1 := _) (es0 := _) (by simp (disch := omega) [VE, VXR, VP, VB, VTup, kof, bl, it]; rfl) (by simp (disch := omega) [VE, VXR, VP, VB, VTup, kof, bl, it]; rfl) (fun i => [(20, .val false [.int .i64 (i : Int)])]) (fun _ => []) (fun i g => g + i = f.heads.length ∧ (∀ x ∈ f.heads.take i, headOk f.l x = true) ∧ ∀ a, a < i → ∀ b, b < a → hh f.l f.heads a ≠ hh f.l f.heads b) 0 f.heads.length (by simp (disch := omega) [VE, VXR, VP, VB, VTup, kof, bl, it]) (by simp (disch := omega) [VE, VXR, VP, VB, VTup, kof, bl, it]) ⟨by omega, by simp, fun a ha => by omega⟩ ?_
  rintro i n g ⟨hg, hk, hd⟩
  simp (disch := omega) [VE, VXR, VP, VB, VTup, kof, bl, it]
  refine VXB_dec (fun h1 => ?_) (fun h1 => ?_)
  · have hi : i < f.heads.length := by omega
    have w3 := w2 _ (List.getElem_mem hi)
    have hle : i ≤ f.heads.length := by omega
    simp (disch := omega) [hds_get hi, Head.c, hds_len, VE, VXR, VP, VB, VTup, kof, bl, it]
    refine VXC_e (spec_HeadOk_ok f.l f.heads[i] w3) (by simp [argsD, argDs, argD, St.slc, lk_cons, lk] <;> first | rfl | exact ⟨rfl, rfl⟩ | exact ⟨rfl, rfl, rfl⟩) rfl ?_
    simp (disch := omega) [VE, VXR, VP, VB, VTup, kof, bl, it]
    refine VXB_b (fun h4 => ?_) (fun h4 => ?_)
    case refine_2 => simp (disch := omega) [forestOk, headsOk_no hi h4, VE, VXR, VP, VB, VTup, kof, bl, it]
    simp (disch := omega) [hds_len, wid_hds, hds_take, hle, VE, VXR, VP, VB, VTup, kof, bl, it]
    refine VX_loop3 (σ := Nat) (f1 := _) (es0 := _) (by simp (disch := omega) [VE, VXR, VP, VB, VTup, kof, bl, it]; rfl) (by simp (disch := omega) [VE, VXR, VP, VB, VTup, kof, bl, it]; rfl) (fun j => [(35, .val false [.int .i64 (j : Int)])]) (fun _ => []) (fun j g => g + j = i ∧ ∀ b, b < j → hh f.l f.heads i ≠ hh f.l f.heads b) 0 i (by simp (disch := omega) [VE, VXR, VP, VB, VTup, kof, bl, it]) (by simp (disch := omega) [VE, VXR, VP, VB, VTup, kof, bl, it]) ⟨by omega, fun b hb => by omega⟩ ?_
    rintro j n2 g2 ⟨hg2, hd2⟩
    simp (disch := omega) [VE, VXR, VP, VB, VTup, kof, bl, it]
    refine VXB_dec (fun h5 => ?_) (fun h5 => ?_)
    · have hj : j < i := by omega
      have hj2 : j < f.heads.length := by omega
      have w4 := w2 _ (List.getElem_mem hj2)
      have h6 := hk _ (mem_take hj2 hj)
      simp (disch := omega) [hds_tget hj hi, Head.c, VE, VXR, VP, VB, VTup, kof, bl, it]
      refine VXC_e ((spec_HeadHash_ok f.l f.heads[j] w4).re (hhashE_t h6)) (by simp [argsD, argDs, argD, St.slc, lk_cons, lk] <;> first | rfl | exact ⟨rfl, rfl⟩ | exact ⟨rfl, rfl, rfl⟩) rfl ?_
      simp (disch := omega) [VE, VXR, VP, VB, VTup, kof, bl, it]
      refine VXC_e ((spec_HeadHash_ok f.l f.heads[i] w3).re (hhashE_t h4)) (by simp [argsD, argDs, argD, St.slc, lk_cons, lk] <;> first | rfl | exact ⟨rfl, rfl⟩ | exact ⟨rfl, rfl, rfl⟩) rfl ?_
      simp (disch := omega) [VE, VXR, VP, VB, VTup, kof, bl, it]
      refine VXC_e (spec_SameBytes_ok (hh f.l f.heads j) (hh f.l f.heads i)) (by simp [hh_get hi, hh_get hj2, hhash, h4, h6, argsD, argDs, argD, St.slc, lk_cons, lk] <;> first | rfl | exact ⟨rfl, rfl⟩ | exact ⟨rfl, rfl, rfl⟩) rfl ?_
      simp (disch := omega) [VE, VXR, VP, VB, VTup, kof, bl, it]
      refine VXB_dec (fun h7 => ?_) (fun h7 => ?_)
      · simp (disch := omega) [forestOk, dist_f hi hj h7.symm, VE, VXR, VP, VB, VTup, kof, bl, it]
      · simp (disch := omega) [VE, VXR, VP, VB, VTup, kof, bl, it]
        exact ⟨j + 1, g2 - 1, by omega, ⟨by omega, ne_next hd2 (fun e => h7 e.symm)⟩, by simp⟩
    · have hj : j = i := by omega
      subst hj
      simp (disch := omega) [VE, VXR, VP, VB, VTup, kof, bl, it]
      exact ⟨j + 1, g - 1, by omega, ⟨by omega, take_all hk hi h4, dist_next hd hd2⟩, by simp⟩
  · have hi : i = f.heads.length := by omega
    subst hi
    simp (disch := omega) [forestOk, h2, dist_t hd, headsOk_of hk, show (f.heads.length : Int) ≤ 10 by omega, VE, VXR, VP, VB, VTup, kof, bl, it]
/-! ### A header by its hash -/
/-! ### A header more -/
def plantF (f : Forest) (h : Head) : Forest := ⟨f.l, f.heads ++ [h]⟩
def Forest.o (f : Forest) : List E := [.p (.int .i64 f.l.n), .p (.int .i64 f.l.tx), .p (.int .i64 f.l.txs), .p (.int .i64 f.l.frame), .p (.int .i64 f.l.heads), .o true (some (35, 10)) (hds f.heads)]
noncomputable def plantE (f : Forest) (h : Head) : List (Bool × List E) := if forestOk f && forestOk (plantF f h) then [(true, (plantF f h).o), (false, [.p (.bool true)])]
  else [(true, [.p (.int .i64 0), .p (.int .i64 0), .p (.int .i64 0), .p (.int .i64 0), .p (.int .i64 0), .p .nils]), (false, [.p (.bool false)])]
theorem plant_wf {f : Forest} {h : Head} (hw : f.wc) (hh : h.wc) (hl : f.heads.length ≤ 1000000000) : (plantF f h).wf := by
  refine ⟨by simp [plantF, Sz]; omega, fun x hx => ?_⟩
  simp only [plantF, List.mem_append, List.mem_singleton] at hx
  rcases hx with hx | rfl
  · exact (hw.2 x hx).1
  · exact hh.1
theorem hds_app (l : List Head) (h : Head) : hds l ++ [h.c] = hds (l ++ [h]) := by simp [hds]
abbrev n_impl_Plant : Nat := 59
def c_impl_Plant : AF := ⟨2, 5, [.cell 4 6 true, .tmp 5], (.seq (.ops [.i (.lbox 2 (.s 0)), .i (.lbox 3 (.s 1)), .i (.lal 4 [.int .i64 0, .int .i64 0, .int .i64 0, .int .i64 0, .int .i64 0, .nils]), .i (.mov 5 (.c (.val false [.bool false])))]) (.seq (.ops [.i (.fad 7 (.s 2) 0), .i (.ldl 8 2 (.s 7) 5 true), .i (.fad 9 (.s 2) 5), .i (.ldl 10 2 (.s 9) 1 false), .i (.call 12 121 false [(.s 10)]), .i (.ldl 12 3 (.s 3) 10 true), .i (.call 14 88 false [(.s 12)]), .i (.lsl 14 10 1 [.int .i64 0, .int .i64 0, .int .i64 0, .nils, .nils, .int .i64 0, .int .i64 0, .nils, .nils, .nils] [(0, 10, (.s 13))]), .i (.app 15 35 10 160 (.s 11) (.s 14)), .i (.bld 16 [.int .i64 0, .int .i64 0, .int .i64 0, .int .i64 0, .int .i64 0, .nils] [(0, 5, (.s 8)), (5, 1, (.s 15))]), .i (.lal 6 [.int .i64 0, .int .i64 0, .int .i64 0, .int .i64 0, .int .i64 0, .nils]), .i (.stl 6 (.s 6) (.s 16) 6)]) (.seq (.seq (.ops [.i (.ldl 17 2 (.s 2) 6 true), .i (.call 19 118 false [(.s 17)]), .i (.not 19 (.s 18)), .i (.mov 20 (.s 19)), .g 20 false 22 (.ldl 21 6 (.s 6) 6 true), .g 20 false 23 (.call 23 118 false [(.s 21)]), .g 20 false 24 (.not 23 (.s 22)), .i (.pick 24 (.s 20) (.c (.val false [.bool true])) (.s 23))]) (.cond (.s 24) (.seq (.ops [.i (.bld 25 [.int .i64 0, .int .i64 0, .int .i64 0, .int .i64 0, .int .i64 0, .nils] []), .i (.stl 4 (.s 4) (.s 25) 6), .i (.mov 5 (.c (.val false [.bool false])))]) .ret) .skip)) (.seq (.ops [.i (.ldl 26 6 (.s 6) 6 true), .i (.stl 4 (.s 4) (.s 26) 6), .i (.mov 5 (.c (.val false [.bool true])))]) .ret))))⟩
theorem k_impl_Plant : cd n_impl_Plant = some c_impl_Plant := by kernel_rfl
theorem impl_Plant_ok (f : Forest) (h : Head) (hw : f.wc) (hh : h.wc) (hl : f.heads.length ≤ 1000000000) : VC cd n_impl_Plant (mkP [(true, f.c), (true, h.c)]) (fun rs _ => rs = plantE f h) := by
  have w1 := hw.1
  have e := hds_app f.heads h
  simp only [Head.c] at e
  refine VC_enter k_impl_Plant rfl ?_
  simp (disch := omega) [c_impl_Plant, Forest.c, Lim.c, Head.c, VE, VXR, VP, VB, VTup, kof, bl, it]
  refine VXC_e (copyHeads_ok f.heads w1 hw.2) (by simp [argsD, argDs, argD, St.slc, lk_cons, lk] <;> first | rfl | exact ⟨rfl, rfl⟩ | exact ⟨rfl, rfl, rfl⟩) rfl ?_
  simp (disch := omega) [VE, VXR, VP, VB, VTup, kof, bl, it]
  refine VXC_e (Head_copied_ok h hh) (by simp [argsD, argDs, argD, St.slc, lk_cons, lk] <;> first | rfl | exact ⟨rfl, rfl⟩ | exact ⟨rfl, rfl, rfl⟩) rfl ?_
  simp (disch := omega) [Head.o, hds_len, e, VE, VXR, VP, VB, VTup, kof, bl, it]
  refine VXC_e (impl_ForestOk_ok f hw.wf) (by simp [Forest.c, Lim.c, argsD, argDs, argD, St.slc, lk_cons, lk] <;> first | rfl | exact ⟨rfl, rfl⟩ | exact ⟨rfl, rfl, rfl⟩) rfl ?_
  simp (disch := omega) [VE, VXR, VP, VB, VTup, kof, bl, it]
  refine VXB_b (fun h1 => ?_) (fun h1 => ?_)
  case refine_2 => simp (disch := omega) [h1, plantE, VE, VXR, VP, VB, VTup, kof, bl, it]
  simp (disch := omega) [h1, VE, VXR, VP, VB, VTup, kof, bl, it]
  refine VXC_e (impl_ForestOk_ok (plantF f h) (plant_wf hw hh hl)) (by simp [Forest.c, Lim.c, plantF, argsD, argDs, argD, St.slc, lk_cons, lk] <;> first | rfl | exact ⟨rfl, rfl⟩ | exact ⟨rfl, rfl, rfl⟩) rfl ?_
  simp (disch := omega) [VE, VXR, VP, VB, VTup, kof, bl, it]
  refine VXB_b (fun h2 => ?_) (fun h2 => ?_) <;> simp (disch := omega) [h1, h2, plantE, Forest.o, plantF, VE, VXR, VP, VB, VTup, kof, bl, it] <;> exact h2
abbrev n_spec_Plant : Nat := 58
def c_spec_Plant : AF := ⟨2, 5, [.cell 4 6 true, .tmp 5], (.seq (.ops [.i (.lbox 2 (.s 0)), .i (.lbox 3 (.s 1)), .i (.lal 4 [.int .i64 0, .int .i64 0, .int .i64 0, .int .i64 0, .int .i64 0, .nils]), .i (.mov 5 (.c (.val false [.bool false])))]) (.seq (.ops [.i (.fad 7 (.s 2) 0), .i (.ldl 8 2 (.s 7) 5 true), .i (.fad 9 (.s 2) 5), .i (.ldl 10 2 (.s 9) 1 false), .i (.call 12 120 false [(.s 10)]), .i (.ldl 12 3 (.s 3) 10 true), .i (.call 14 83 false [(.s 12)]), .i (.lsl 14 10 1 [.int .i64 0, .int .i64 0, .int .i64 0, .nils, .nils, .int .i64 0, .int .i64 0, .nils, .nils, .nils] [(0, 10, (.s 13))]), .i (.app 15 35 10 160 (.s 11) (.s 14)), .i (.bld 16 [.int .i64 0, .int .i64 0, .int .i64 0, .int .i64 0, .int .i64 0, .nils] [(0, 5, (.s 8)), (5, 1, (.s 15))]), .i (.lal 6 [.int .i64 0, .int .i64 0, .int .i64 0, .int .i64 0, .int .i64 0, .nils]), .i (.stl 6 (.s 6) (.s 16) 6)]) (.seq (.seq (.ops [.i (.ldl 17 2 (.s 2) 6 true), .i (.call 19 117 false [(.s 17)]), .i (.not 19 (.s 18)), .i (.mov 20 (.s 19)), .g 20 false 22 (.ldl 21 6 (.s 6) 6 true), .g 20 false 23 (.call 23 117 false [(.s 21)]), .g 20 false 24 (.not 23 (.s 22)), .i (.pick 24 (.s 20) (.c (.val false [.bool true])) (.s 23))]) (.cond (.s 24) (.seq (.ops [.i (.bld 25 [.int .i64 0, .int .i64 0, .int .i64 0, .int .i64 0, .int .i64 0, .nils] []), .i (.stl 4 (.s 4) (.s 25) 6), .i (.mov 5 (.c (.val false [.bool false])))]) .ret) .skip)) (.seq (.ops [.i (.ldl 26 6 (.s 6) 6 true), .i (.stl 4 (.s 4) (.s 26) 6), .i (.mov 5 (.c (.val false [.bool true])))]) .ret))))⟩
theorem k_spec_Plant : cd n_spec_Plant = some c_spec_Plant := by kernel_rfl
theorem spec_Plant_ok (f : Forest) (h : Head) (hw : f.wc) (hh : h.wc) (hl : f.heads.length ≤ 1000000000) : VC cd n_spec_Plant (mkP [(true, f.c), (true, h.c)]) (fun rs _ => rs = plantE f h) := by
  have w1 := hw.1
  have e := hds_app f.heads h
  simp only [Head.c] at e
  refine VC_enter k_spec_Plant rfl ?_
  simp (disch := omega) [c_spec_Plant, Forest.c, Lim.c, Head.c, VE, VXR, VP, VB, VTup, kof, bl, it]
  refine VXC_e (l16Heads_ok f.heads w1 hw.2) (by simp [argsD, argDs, argD, St.slc, lk_cons, lk] <;> first | rfl | exact ⟨rfl, rfl⟩ | exact ⟨rfl, rfl, rfl⟩) rfl ?_
  simp (disch := omega) [VE, VXR, VP, VB, VTup, kof, bl, it]
  refine VXC_e (l13Copy_ok h hh) (by simp [argsD, argDs, argD, St.slc, lk_cons, lk] <;> first | rfl | exact ⟨rfl, rfl⟩ | exact ⟨rfl, rfl, rfl⟩) rfl ?_
  simp (disch := omega) [Head.o, hds_len, e, VE, VXR, VP, VB, VTup, kof, bl, it]
  refine VXC_e (spec_ForestOk_ok f hw.wf) (by simp [Forest.c, Lim.c, argsD, argDs, argD, St.slc, lk_cons, lk] <;> first | rfl | exact ⟨rfl, rfl⟩ | exact ⟨rfl, rfl, rfl⟩) rfl ?_
  simp (disch := omega) [VE, VXR, VP, VB, VTup, kof, bl, it]
  refine VXB_b (fun h1 => ?_) (fun h1 => ?_)
  case refine_2 => simp (disch := omega) [h1, plantE, VE, VXR, VP, VB, VTup, kof, bl, it]
  simp (disch := omega) [h1, VE, VXR, VP, VB, VTup, kof, bl, it]
  refine VXC_e (spec_ForestOk_ok (plantF f h) (plant_wf hw hh hl)) (by simp [Forest.c, Lim.c, plantF, argsD, argDs, argD, St.slc, lk_cons, lk] <;> first | rfl | exact ⟨rfl, rfl⟩ | exact ⟨rfl, rfl, rfl⟩) rfl ?_
  simp (disch := omega) [VE, VXR, VP, VB, VTup, kof, bl, it]
  refine VXB_b (fun h2 => ?_) (fun h2 => ?_) <;> simp (disch := omega) [h1, h2, plantE, Forest.o, plantF, VE, VXR, VP, VB, VTup, kof, bl, it] <;> exact h2
end Go.Eng.F
/-
  Functions: upward.
-/
set_option maxRecDepth 100000
set_option linter.unusedSimpArgs false
set_option linter.unusedVariables false
namespace Go.Eng.F
/-! ### What stands on what -/
end Go.Eng.F
/-
  Functions: forests at the program's types.
-/
set_option maxRecDepth 100000
set_option linter.unusedSimpArgs false
set_option linter.unusedVariables false
namespace Go.Eng.F
open Go.Eng.U (TQc THead TLimits TForest)
def Forest.tv (f : Forest) : Tv := .r [f.l.tv, hdsT f.heads]
theorem Forest.enc (f : Forest) : enc TForest f.tv = f.c := by simp only [Forest.tv, enc_hds, enc_st, encS_cons, encS_nil, Lim.enc, Forest.c, List.append_nil]
theorem Forest.ex {v : Tv} (h : TvOk TForest v) : ∃ q : Forest, v = q.tv := by
  obtain ⟨vs, rfl, h⟩ := h.st
  obtain ⟨v0, _, rfl, h0, h⟩ := h.step
  obtain ⟨v1, _, rfl, h1, h⟩ := h.step
  obtain rfl := h.fin
  obtain ⟨n0, rfl⟩ := Lim.ex h0
  obtain ⟨n1, rfl⟩ := hdsT_ex h1
  exact ⟨⟨n0, n1⟩, rfl⟩
theorem Forest.of {f : Forest} (h : TvOk TForest f.tv) (hw : wt f.tv ≤ 1048576) : f.wc ∧ TvOk TLimits f.l.tv ∧ f.heads.length ≤ 1048576 := by
  simp only [Forest.tv, ok_st, okS_cons] at h
  simp only [Forest.tv, wt, wts] at hw
  obtain ⟨h0, h1, _⟩ := h
  have h5 := hds_of h1 (by omega)
  have h6 : f.heads.length ≤ wt (hdsT f.heads) := by unfold hdsT; rw [wt_l, List.length_map]; omega
  exact ⟨⟨h5.1, h5.2⟩, ok_st.2 (ok_st.1 h0), by omega⟩
theorem wts_le {α : Type} {f : α → Tv} {B : Nat} : ∀ {l : List α}, (∀ x ∈ l, wt (f x) ≤ B) → wts (l.map f) ≤ l.length * B
  | [], _ => by simp [wts]
  | a :: l, h => by
    have h1 := h a (by simp)
    have h2 := wts_le (l := l) fun x hx => h x (by simp [hx])
    simp only [List.map_cons, wts, List.length_cons, Nat.succ_mul]
    omega
def zeroForest : Forest := ⟨⟨0, 0, 0, 0, 0⟩, []⟩
noncomputable def plantR (f : Forest) (h : Head) : Forest := if forestOk f && forestOk (plantF f h) then plantF f h else zeroForest
theorem wts_app : ∀ (l r : List Tv), wts (l ++ r) = wts l + wts r
  | [], r => by simp [wts]
  | a :: l, r => by simp only [List.cons_append, wts, wts_app l r]; omega
theorem plant_wt (f : Forest) (h : Head) : wt (plantR f h).tv ≤ 1 + wt f.tv + wt h.tv := by
  unfold plantR
  split
  · simp only [plantF, Forest.tv, hdsT, wt, wts, List.map_append, List.length_append, List.map_cons, List.map_nil, wts_app, List.length_cons, List.length_nil]; omega
  · simp [zeroForest, Forest.tv, Lim.tv, hdsT, wt, wts]
theorem plant_rs {f : Forest} {h : Head} (hl : TvOk TLimits f.l.tv) (hw : f.wc) (hh : h.wc) (hn : f.heads.length ≤ 1048576) : RsE (plantE f h) [(TForest, (plantR f h).tv), (.bool, .b (forestOk f && forestOk (plantF f h)))] := by
  unfold plantE plantR
  split
  · rename_i hc
    refine ⟨rfl, ?_, ?_, rfl, ?_, trivial, trivial⟩
    · rw [Forest.enc]; simp only [Forest.o, Forest.c, Lim.c, plantF, List.cons_append, List.nil_append, EEq, D.leaf, and_self]
    · simp only [Forest.tv, plantF, ok_st, okS_cons]
      refine ⟨ok_st.1 hl, hdsT_tok (by unfold Sz; simp; omega) (fun x hx => ?_), okS_nil.2 trivial⟩
      simp only [List.mem_append, List.mem_singleton] at hx
      rcases hx with hx | rfl
      · exact hw.2 x hx
      · exact hh
    · simp only [enc_bool, EEq, D.leaf, and_self, hc]
  · rename_i hc
    have hc' : (forestOk f && forestOk (plantF f h)) = false := by simpa using hc
    refine ⟨rfl, ?_, ?_, rfl, ?_, trivial, trivial⟩
    · rw [Forest.enc]; simp only [zeroForest, Forest.c, Lim.c, hds, List.map_nil, List.cons_append, List.nil_append, EEq, D.leaf, and_self]
    · simp only [zeroForest, Forest.tv, Lim.tv, hdsT, List.map_nil, ok_st, okS_cons, okS_nil, okN, ok0, and_true, true_and]
    · simp only [enc_bool, EEq, D.leaf, and_self, hc']
theorem io_impl_Plant {h0 : H} {f : Forest} {h : Head} {ms : List (Bool × List C)} (ha : ArgsRp h0 [(TForest, f.tv), (THead, h.tv)] ms) (hp0 : wt f.tv ≤ 1048576) (hp1 : wt h.tv ≤ 1048576) :
    WC cd n_impl_Plant ms h0 (Ans h0 [(TForest, (plantR f h).tv), (.bool, .b (forestOk f && forestOk (plantF f h)))]) := by
  obtain ⟨k0, mr0, ha0⟩ := ArgsRp.ok1 ha
  obtain ⟨k1, mr1, ha1⟩ := ArgsRp.ok1 ha0
  obtain ⟨w1, w2, w3⟩ := Forest.of k0 hp0
  have w4 := Head.of k1 hp1
  have hc := impl_Plant_ok f h w1 w4 (by omega)
  have e : encA [(TForest, f.tv), (THead, h.tv)] = [(true, f.c), (true, h.c)] := by simp only [encA, List.map, Lim.enc, Head.enc, Qc.enc, enc_bss', enc_bs, enc_int, enc_bool, enc_str, enc_hds, Forest.enc, Ty.agg]
  rw [← e] at hc
  exact hc.wc ha fun rs q => by rw [q]; exact plant_rs w2 w1 w4 w3
theorem io_spec_Plant {h0 : H} {f : Forest} {h : Head} {ms : List (Bool × List C)} (ha : ArgsRp h0 [(TForest, f.tv), (THead, h.tv)] ms) (hp0 : wt f.tv ≤ 1048576) (hp1 : wt h.tv ≤ 1048576) :
    WC cd n_spec_Plant ms h0 (Ans h0 [(TForest, (plantR f h).tv), (.bool, .b (forestOk f && forestOk (plantF f h)))]) := by
  obtain ⟨k0, mr0, ha0⟩ := ArgsRp.ok1 ha
  obtain ⟨k1, mr1, ha1⟩ := ArgsRp.ok1 ha0
  obtain ⟨w1, w2, w3⟩ := Forest.of k0 hp0
  have w4 := Head.of k1 hp1
  have hc := spec_Plant_ok f h w1 w4 (by omega)
  have e : encA [(TForest, f.tv), (THead, h.tv)] = [(true, f.c), (true, h.c)] := by simp only [encA, List.map, Lim.enc, Head.enc, Qc.enc, enc_bss', enc_bs, enc_int, enc_bool, enc_str, enc_hds, Forest.enc, Ty.agg]
  rw [← e] at hc
  exact hc.wc ha fun rs q => by rw [q]; exact plant_rs w2 w1 w4 w3
end Go.Eng.F
set_option maxRecDepth 100000
set_option linter.unusedSimpArgs false
set_option linter.unusedVariables false
namespace Go.Eng.U
mutual
def _root_.Go.Eng.Ty.f0 : Ty → Bool
  | .sl _ => false
  | .str => false
  | .st ts => Ty.f0s ts
  | _ => true
def _root_.Go.Eng.Ty.f0s : List Ty → Bool
  | [] => true
  | t :: ts => t.f0 && Ty.f0s ts
end
mutual
theorem _root_.Go.Eng.Rp.wt0 {h : H} : ∀ (T : Ty) {cs : List C} {v : Tv} {S : List Nat}, Rp h T cs v S → T.f0 = true → wt v = 0
  | .int _, cs, v, S, hr, _ => by obtain ⟨n, _, rfl, _⟩ := hr.int; simp [wt]
  | .bool, cs, v, S, hr, _ => by obtain ⟨n, _, rfl, _⟩ := hr.bool; simp [wt]
  | .str, _, _, _, _, h => by simp [Ty.f0] at h
  | .sl _, _, _, _, _, h => by simp [Ty.f0] at h
  | .st ts, cs, v, S, hr, h => by
    obtain ⟨vs, rfl, h2⟩ := hr.st
    simp only [wt]
    exact Rs.wt0 ts h2 (by simpa only [Ty.f0] using h)
theorem _root_.Go.Eng.Rs.wt0 {h : H} : ∀ (ts : List Ty) {cs : List C} {vs : List Tv} {S : List Nat}, Rs h ts cs vs S → Ty.f0s ts = true → wts vs = 0
  | [], cs, vs, S, hr, _ => by obtain ⟨rfl, rfl, rfl⟩ := hr; simp [wts]
  | t :: ts, cs, vs, S, hr, h => by
    simp only [Ty.f0s, Bool.and_eq_true] at h
    obtain ⟨c1, c2, v, vr, S1, S2, rfl, rfl, rfl, h4, h5⟩ := hr
    simp only [wts, Rp.wt0 t h4 h.1, Rs.wt0 ts h5 h.2]
end
/-- laws.szByteS -/
def c81 : AF := ⟨2, 4, [.tmp 4], (.seq (.ops [.i (.mov 4 (.c (.val false [.int .i64 0])))]) (.seq (.ops [.i (.mov 5 (.s 1)), .i (.mov 6 (.s 0)), .i (.len 7 false (.s 6)), .i (.bin 8 .sub (.s 5) (.s 7)), .i (.mov 1 (.s 8))]) (.seq (.seq (.ops [.i (.mov 9 (.s 1)), .i (.bin 10 .lss (.s 9) (.c (.val false [.int .i64 0])))]) (.cond (.s 10) (.seq (.ops [.i (.mov 4 (.c (.val false [.int .i64 (-1)])))]) .ret) .skip)) (.seq (.ops [.i (.mov 11 (.s 1)), .i (.mov 4 (.s 11))]) .ret))))⟩
theorem k81 : cd 81 = some c81 := by kernel_rfl
theorem sz_ByteS : SzOk cd 81 (.sl (.int .u8)) := sz_leaf k81
/-- laws.szByteSS -/
def c22 : AF := ⟨2, 5, [.tmp 4], (.seq (.ops [.i (.mov 4 (.c (.val false [.int .i64 0])))]) (.seq (.ops [.i (.mov 6 (.s 1)), .i (.mov 7 (.s 0)), .i (.len 8 false (.s 7)), .i (.bin 9 .sub (.s 6) (.s 8)), .i (.mov 1 (.s 9))]) (.seq (.seq (.ops [.i (.mov 10 (.s 1)), .i (.bin 11 .lss (.s 10) (.c (.val false [.int .i64 0])))]) (.cond (.s 11) (.seq (.ops [.i (.mov 4 (.c (.val false [.int .i64 (-1)])))]) .ret) .skip)) (.seq (.seq (.ops [.i (.mov 5 (.c (.val false [.int .i64 0])))]) (.block 0 (.loop [25, 24, 23, 22, 21, 20, 19, 18, 17, 16, 15, 14, 13, 12] (.seq (.seq (.ops [.i (.mov 12 (.s 5)), .i (.mov 13 (.s 0)), .i (.len 14 false (.s 13)), .i (.bin 15 .lss (.s 12) (.s 14))]) (.cond (.s 15) .skip (.exit 0))) (.seq (.block 1 (.seq (.ops [.i (.mov 18 (.s 0)), .i (.mov 19 (.s 5)), .i (.iad 20 (.s 18) (.s 19) 1), .i (.ldh 21 (.s 20) 1 false), .i (.mov 22 (.s 1)), .i (.call 24 81 false [(.s 21), (.s 22)]), .i (.mov 1 (.s 23))]) (.seq (.ops [.i (.mov 24 (.s 1)), .i (.bin 25 .lss (.s 24) (.c (.val false [.int .i64 0])))]) (.cond (.s 25) (.seq (.ops [.i (.mov 4 (.c (.val false [.int .i64 (-1)])))]) .ret) .skip)))) (.ops [.i (.mov 16 (.s 5)), .i (.bin 17 .add (.s 16) (.c (.val false [.int .i64 1]))), .i (.mov 5 (.s 17))])))))) (.seq (.ops [.i (.mov 26 (.s 1)), .i (.mov 4 (.s 26))]) .ret)))))⟩
theorem k22 : cd 22 = some c22 := by kernel_rfl
theorem sz_ByteSS : SzOk cd 22 (.sl (.sl (.int .u8))) := sz_sl k22 sz_ByteS
theorem len_5 {l : List C} (h : l.length = 5) : ∃ x0 x1 x2 x3 x4, l = [x0, x1, x2, x3, x4] := by
  rcases l with _ | ⟨x0, l⟩
  · simp at h
  rcases l with _ | ⟨x1, l⟩
  · simp at h
  rcases l with _ | ⟨x2, l⟩
  · simp at h
  rcases l with _ | ⟨x3, l⟩
  · simp at h
  rcases l with _ | ⟨x4, l⟩
  · simp at h
  · simp at h; exact ⟨x0, x1, x2, x3, x4, by simp [h]⟩
/-- laws.szQc -/
def c82 : AF := ⟨2, 5, [.tmp 4], (.seq (.ops [.i (.lbox 2 (.s 0)), .i (.mov 4 (.c (.val false [.int .i64 0])))]) (.seq (.ops [.i (.fad 5 (.s 2) 2), .i (.ldl 6 2 (.s 5) 1 false), .i (.mov 7 (.s 1)), .i (.call 9 81 false [(.s 6), (.s 7)]), .i (.mov 1 (.s 8))]) (.seq (.seq (.ops [.i (.mov 9 (.s 1)), .i (.bin 10 .lss (.s 9) (.c (.val false [.int .i64 0])))]) (.cond (.s 10) (.seq (.ops [.i (.mov 4 (.c (.val false [.int .i64 (-1)])))]) .ret) .skip)) (.seq (.ops [.i (.fad 11 (.s 2) 3), .i (.ldl 12 2 (.s 11) 1 false), .i (.mov 13 (.s 1)), .i (.call 15 81 false [(.s 12), (.s 13)]), .i (.mov 1 (.s 14))]) (.seq (.seq (.ops [.i (.mov 15 (.s 1)), .i (.bin 16 .lss (.s 15) (.c (.val false [.int .i64 0])))]) (.cond (.s 16) (.seq (.ops [.i (.mov 4 (.c (.val false [.int .i64 (-1)])))]) .ret) .skip)) (.seq (.ops [.i (.fad 17 (.s 2) 4), .i (.ldl 18 2 (.s 17) 1 false), .i (.mov 19 (.s 1)), .i (.call 21 22 false [(.s 18), (.s 19)]), .i (.mov 1 (.s 20))]) (.seq (.seq (.ops [.i (.mov 21 (.s 1)), .i (.bin 22 .lss (.s 21) (.c (.val false [.int .i64 0])))]) (.cond (.s 22) (.seq (.ops [.i (.mov 4 (.c (.val false [.int .i64 (-1)])))]) .ret) .skip)) (.seq (.ops [.i (.mov 23 (.s 1)), .i (.mov 4 (.s 23))]) .ret))))))))⟩
theorem k82 : cd 82 = some c82 := by kernel_rfl
theorem sz_Qc : SzOk cd 82 TQc := by
  intro h cs v S k hv hk
  obtain ⟨vs, rfl, q0⟩ := hv.st
  obtain ⟨v0, r0, S0, T0, rfl, rfl, h0, q1⟩ := q0.step
  obtain ⟨n0, e0, rfl, rfl, lo0, hi0⟩ := h0.int
  obtain ⟨v1, r1, S1, T1, rfl, rfl, h1, q2⟩ := q1.step
  obtain ⟨n1, e1, rfl, rfl, lo1, hi1⟩ := h1.int
  obtain ⟨v2, r2, S2, T2, rfl, rfl, h2, q3⟩ := q2.step
  obtain ⟨c2, e2⟩ := h2.one rfl
  rw [e2] at h2
  obtain ⟨v3, r3, S3, T3, rfl, rfl, h3, q4⟩ := q3.step
  obtain ⟨c3, e3⟩ := h3.one rfl
  rw [e3] at h3
  obtain ⟨v4, r4, S4, T4, rfl, rfl, h4, q5⟩ := q4.step
  obtain ⟨c4, e4⟩ := h4.one rfl
  rw [e4] at h4
  obtain ⟨_, rfl, rfl⟩ := q5
  have hsz : cs.length = 5 := hv.size
  simp only [Ty.size, Ty.sizes, Nat.reduceAdd, Nat.zero_add, List.drop_zero] at e0 e1 e2 e3 e4 hsz
  have hw : wt (.r [.i n0, .i n1, v2, v3, v4]) = wt v2 + wt v3 + wt v4 := by simp only [wt, wts]; omega
  rw [hw]
  refine WS_enter k82 rfl ?_
  simp (disch := omega) only [c82, e0, e1, e2, e3, e4, hsz, ifT, w64, RR, RP, Ty.agg, Ty.size, Ty.sizes, eq_self, ne_eq, not_true, not_false_iff, reduceCtorEq, List.length_cons, List.length_nil, decide_true, decide_false, true_and, and_true, ite_true, ite_false, PT.full, enter0, setAll, forget, Fr.set, Fr.get, PT.get, PT.set, kof, ai, ev, ev1, evp, b_add, b_sub, b_mul, b_quo, b_rem, b_eql, b_neq, b_lss, b_leq, b_gtr, b_geq, b_seql, b_sneq, setD, resV, resL, res1, args, List.take_zero, List.drop_zero, List.take_nil, List.take_succ_cons, List.drop_succ_cons, Nat.reduceAdd, Nat.reduceLeDiff, reduceIte, Bool.not_true, Bool.not_false, Bool.false_eq_true, CA_some, Option.some.injEq, Nat.zero_add, Nat.mul_one, Nat.add_zero, setL, List.set_cons_zero, List.set_cons_succ, fillC]
  refine SzOk.go sz_ByteS h2 (k := k) (by omega) (fun hf0 => ?_) (fun hf0 => ?_)
  case refine_2 =>
    simp (disch := omega) only [KC_eq, c82, e0, e1, e2, e3, e4, hsz, ifT, w64, RR, RP, Ty.agg, Ty.size, Ty.sizes, eq_self, ne_eq, not_true, not_false_iff, reduceCtorEq, List.length_cons, List.length_nil, decide_true, decide_false, true_and, and_true, ite_true, ite_false, PT.full, enter0, setAll, forget, Fr.set, Fr.get, PT.get, PT.set, kof, ai, ev, ev1, evp, b_add, b_sub, b_mul, b_quo, b_rem, b_eql, b_neq, b_lss, b_leq, b_gtr, b_geq, b_seql, b_sneq, setD, resV, resL, res1, args, List.take_zero, List.drop_zero, List.take_nil, List.take_succ_cons, List.drop_succ_cons, Nat.reduceAdd, Nat.reduceLeDiff, reduceIte, Bool.not_true, Bool.not_false, Bool.false_eq_true, CA_some, Option.some.injEq, Nat.zero_add, Nat.mul_one, Nat.add_zero, setL, List.set_cons_zero, List.set_cons_succ, fillC]
    refine BR_dec (fun hn => ?_) (fun hn => absurd (show (-1 : Int) < 0 by omega) hn)
    simp (disch := omega) only [c82, e0, e1, e2, e3, e4, hsz, ifT, w64, RR, RP, Ty.agg, Ty.size, Ty.sizes, eq_self, ne_eq, not_true, not_false_iff, reduceCtorEq, List.length_cons, List.length_nil, decide_true, decide_false, true_and, and_true, ite_true, ite_false, PT.full, enter0, setAll, forget, Fr.set, Fr.get, PT.get, PT.set, kof, ai, ev, ev1, evp, b_add, b_sub, b_mul, b_quo, b_rem, b_eql, b_neq, b_lss, b_leq, b_gtr, b_geq, b_seql, b_sneq, setD, resV, resL, res1, args, List.take_zero, List.drop_zero, List.take_nil, List.take_succ_cons, List.drop_succ_cons, Nat.reduceAdd, Nat.reduceLeDiff, reduceIte, Bool.not_true, Bool.not_false, Bool.false_eq_true, CA_some, Option.some.injEq, Nat.zero_add, Nat.mul_one, Nat.add_zero, setL, List.set_cons_zero, List.set_cons_succ, fillC]
    rw [if_neg (by omega)]
  simp (disch := omega) only [KC_eq, c82, e0, e1, e2, e3, e4, hsz, ifT, w64, RR, RP, Ty.agg, Ty.size, Ty.sizes, eq_self, ne_eq, not_true, not_false_iff, reduceCtorEq, List.length_cons, List.length_nil, decide_true, decide_false, true_and, and_true, ite_true, ite_false, PT.full, enter0, setAll, forget, Fr.set, Fr.get, PT.get, PT.set, kof, ai, ev, ev1, evp, b_add, b_sub, b_mul, b_quo, b_rem, b_eql, b_neq, b_lss, b_leq, b_gtr, b_geq, b_seql, b_sneq, setD, resV, resL, res1, args, List.take_zero, List.drop_zero, List.take_nil, List.take_succ_cons, List.drop_succ_cons, Nat.reduceAdd, Nat.reduceLeDiff, reduceIte, Bool.not_true, Bool.not_false, Bool.false_eq_true, CA_some, Option.some.injEq, Nat.zero_add, Nat.mul_one, Nat.add_zero, setL, List.set_cons_zero, List.set_cons_succ, fillC]
  refine BR_dec (fun hn => absurd hn (by omega)) (fun hn => ?_)
  simp (disch := omega) only [c82, e0, e1, e2, e3, e4, hsz, ifT, w64, RR, RP, Ty.agg, Ty.size, Ty.sizes, eq_self, ne_eq, not_true, not_false_iff, reduceCtorEq, List.length_cons, List.length_nil, decide_true, decide_false, true_and, and_true, ite_true, ite_false, PT.full, enter0, setAll, forget, Fr.set, Fr.get, PT.get, PT.set, kof, ai, ev, ev1, evp, b_add, b_sub, b_mul, b_quo, b_rem, b_eql, b_neq, b_lss, b_leq, b_gtr, b_geq, b_seql, b_sneq, setD, resV, resL, res1, args, List.take_zero, List.drop_zero, List.take_nil, List.take_succ_cons, List.drop_succ_cons, Nat.reduceAdd, Nat.reduceLeDiff, reduceIte, Bool.not_true, Bool.not_false, Bool.false_eq_true, CA_some, Option.some.injEq, Nat.zero_add, Nat.mul_one, Nat.add_zero, setL, List.set_cons_zero, List.set_cons_succ, fillC]
  refine SzOk.go sz_ByteS h3 (k := k - wt v2) (by omega) (fun hf1 => ?_) (fun hf1 => ?_)
  case refine_2 =>
    simp (disch := omega) only [KC_eq, c82, e0, e1, e2, e3, e4, hsz, ifT, w64, RR, RP, Ty.agg, Ty.size, Ty.sizes, eq_self, ne_eq, not_true, not_false_iff, reduceCtorEq, List.length_cons, List.length_nil, decide_true, decide_false, true_and, and_true, ite_true, ite_false, PT.full, enter0, setAll, forget, Fr.set, Fr.get, PT.get, PT.set, kof, ai, ev, ev1, evp, b_add, b_sub, b_mul, b_quo, b_rem, b_eql, b_neq, b_lss, b_leq, b_gtr, b_geq, b_seql, b_sneq, setD, resV, resL, res1, args, List.take_zero, List.drop_zero, List.take_nil, List.take_succ_cons, List.drop_succ_cons, Nat.reduceAdd, Nat.reduceLeDiff, reduceIte, Bool.not_true, Bool.not_false, Bool.false_eq_true, CA_some, Option.some.injEq, Nat.zero_add, Nat.mul_one, Nat.add_zero, setL, List.set_cons_zero, List.set_cons_succ, fillC]
    refine BR_dec (fun hn => ?_) (fun hn => absurd (show (-1 : Int) < 0 by omega) hn)
    simp (disch := omega) only [c82, e0, e1, e2, e3, e4, hsz, ifT, w64, RR, RP, Ty.agg, Ty.size, Ty.sizes, eq_self, ne_eq, not_true, not_false_iff, reduceCtorEq, List.length_cons, List.length_nil, decide_true, decide_false, true_and, and_true, ite_true, ite_false, PT.full, enter0, setAll, forget, Fr.set, Fr.get, PT.get, PT.set, kof, ai, ev, ev1, evp, b_add, b_sub, b_mul, b_quo, b_rem, b_eql, b_neq, b_lss, b_leq, b_gtr, b_geq, b_seql, b_sneq, setD, resV, resL, res1, args, List.take_zero, List.drop_zero, List.take_nil, List.take_succ_cons, List.drop_succ_cons, Nat.reduceAdd, Nat.reduceLeDiff, reduceIte, Bool.not_true, Bool.not_false, Bool.false_eq_true, CA_some, Option.some.injEq, Nat.zero_add, Nat.mul_one, Nat.add_zero, setL, List.set_cons_zero, List.set_cons_succ, fillC]
    rw [if_neg (by omega)]
  simp (disch := omega) only [KC_eq, c82, e0, e1, e2, e3, e4, hsz, ifT, w64, RR, RP, Ty.agg, Ty.size, Ty.sizes, eq_self, ne_eq, not_true, not_false_iff, reduceCtorEq, List.length_cons, List.length_nil, decide_true, decide_false, true_and, and_true, ite_true, ite_false, PT.full, enter0, setAll, forget, Fr.set, Fr.get, PT.get, PT.set, kof, ai, ev, ev1, evp, b_add, b_sub, b_mul, b_quo, b_rem, b_eql, b_neq, b_lss, b_leq, b_gtr, b_geq, b_seql, b_sneq, setD, resV, resL, res1, args, List.take_zero, List.drop_zero, List.take_nil, List.take_succ_cons, List.drop_succ_cons, Nat.reduceAdd, Nat.reduceLeDiff, reduceIte, Bool.not_true, Bool.not_false, Bool.false_eq_true, CA_some, Option.some.injEq, Nat.zero_add, Nat.mul_one, Nat.add_zero, setL, List.set_cons_zero, List.set_cons_succ, fillC]
  refine BR_dec (fun hn => absurd hn (by omega)) (fun hn => ?_)
  simp (disch := omega) only [c82, e0, e1, e2, e3, e4, hsz, ifT, w64, RR, RP, Ty.agg, Ty.size, Ty.sizes, eq_self, ne_eq, not_true, not_false_iff, reduceCtorEq, List.length_cons, List.length_nil, decide_true, decide_false, true_and, and_true, ite_true, ite_false, PT.full, enter0, setAll, forget, Fr.set, Fr.get, PT.get, PT.set, kof, ai, ev, ev1, evp, b_add, b_sub, b_mul, b_quo, b_rem, b_eql, b_neq, b_lss, b_leq, b_gtr, b_geq, b_seql, b_sneq, setD, resV, resL, res1, args, List.take_zero, List.drop_zero, List.take_nil, List.take_succ_cons, List.drop_succ_cons, Nat.reduceAdd, Nat.reduceLeDiff, reduceIte, Bool.not_true, Bool.not_false, Bool.false_eq_true, CA_some, Option.some.injEq, Nat.zero_add, Nat.mul_one, Nat.add_zero, setL, List.set_cons_zero, List.set_cons_succ, fillC]
  refine SzOk.go sz_ByteSS h4 (k := k - wt v2 - wt v3) (by omega) (fun hf2 => ?_) (fun hf2 => ?_)
  case refine_2 =>
    simp (disch := omega) only [KC_eq, c82, e0, e1, e2, e3, e4, hsz, ifT, w64, RR, RP, Ty.agg, Ty.size, Ty.sizes, eq_self, ne_eq, not_true, not_false_iff, reduceCtorEq, List.length_cons, List.length_nil, decide_true, decide_false, true_and, and_true, ite_true, ite_false, PT.full, enter0, setAll, forget, Fr.set, Fr.get, PT.get, PT.set, kof, ai, ev, ev1, evp, b_add, b_sub, b_mul, b_quo, b_rem, b_eql, b_neq, b_lss, b_leq, b_gtr, b_geq, b_seql, b_sneq, setD, resV, resL, res1, args, List.take_zero, List.drop_zero, List.take_nil, List.take_succ_cons, List.drop_succ_cons, Nat.reduceAdd, Nat.reduceLeDiff, reduceIte, Bool.not_true, Bool.not_false, Bool.false_eq_true, CA_some, Option.some.injEq, Nat.zero_add, Nat.mul_one, Nat.add_zero, setL, List.set_cons_zero, List.set_cons_succ, fillC]
    refine BR_dec (fun hn => ?_) (fun hn => absurd (show (-1 : Int) < 0 by omega) hn)
    simp (disch := omega) only [c82, e0, e1, e2, e3, e4, hsz, ifT, w64, RR, RP, Ty.agg, Ty.size, Ty.sizes, eq_self, ne_eq, not_true, not_false_iff, reduceCtorEq, List.length_cons, List.length_nil, decide_true, decide_false, true_and, and_true, ite_true, ite_false, PT.full, enter0, setAll, forget, Fr.set, Fr.get, PT.get, PT.set, kof, ai, ev, ev1, evp, b_add, b_sub, b_mul, b_quo, b_rem, b_eql, b_neq, b_lss, b_leq, b_gtr, b_geq, b_seql, b_sneq, setD, resV, resL, res1, args, List.take_zero, List.drop_zero, List.take_nil, List.take_succ_cons, List.drop_succ_cons, Nat.reduceAdd, Nat.reduceLeDiff, reduceIte, Bool.not_true, Bool.not_false, Bool.false_eq_true, CA_some, Option.some.injEq, Nat.zero_add, Nat.mul_one, Nat.add_zero, setL, List.set_cons_zero, List.set_cons_succ, fillC]
    rw [if_neg (by omega)]
  simp (disch := omega) only [KC_eq, c82, e0, e1, e2, e3, e4, hsz, ifT, w64, RR, RP, Ty.agg, Ty.size, Ty.sizes, eq_self, ne_eq, not_true, not_false_iff, reduceCtorEq, List.length_cons, List.length_nil, decide_true, decide_false, true_and, and_true, ite_true, ite_false, PT.full, enter0, setAll, forget, Fr.set, Fr.get, PT.get, PT.set, kof, ai, ev, ev1, evp, b_add, b_sub, b_mul, b_quo, b_rem, b_eql, b_neq, b_lss, b_leq, b_gtr, b_geq, b_seql, b_sneq, setD, resV, resL, res1, args, List.take_zero, List.drop_zero, List.take_nil, List.take_succ_cons, List.drop_succ_cons, Nat.reduceAdd, Nat.reduceLeDiff, reduceIte, Bool.not_true, Bool.not_false, Bool.false_eq_true, CA_some, Option.some.injEq, Nat.zero_add, Nat.mul_one, Nat.add_zero, setL, List.set_cons_zero, List.set_cons_succ, fillC]
  refine BR_dec (fun hn => absurd hn (by omega)) (fun hn => ?_)
  simp (disch := omega) only [c82, e0, e1, e2, e3, e4, hsz, ifT, w64, RR, RP, Ty.agg, Ty.size, Ty.sizes, eq_self, ne_eq, not_true, not_false_iff, reduceCtorEq, List.length_cons, List.length_nil, decide_true, decide_false, true_and, and_true, ite_true, ite_false, PT.full, enter0, setAll, forget, Fr.set, Fr.get, PT.get, PT.set, kof, ai, ev, ev1, evp, b_add, b_sub, b_mul, b_quo, b_rem, b_eql, b_neq, b_lss, b_leq, b_gtr, b_geq, b_seql, b_sneq, setD, resV, resL, res1, args, List.take_zero, List.drop_zero, List.take_nil, List.take_succ_cons, List.drop_succ_cons, Nat.reduceAdd, Nat.reduceLeDiff, reduceIte, Bool.not_true, Bool.not_false, Bool.false_eq_true, CA_some, Option.some.injEq, Nat.zero_add, Nat.mul_one, Nat.add_zero, setL, List.set_cons_zero, List.set_cons_succ, fillC]
  congr 3
  omega
theorem len_10 {l : List C} (h : l.length = 10) : ∃ x0 x1 x2 x3 x4 x5 x6 x7 x8 x9, l = [x0, x1, x2, x3, x4, x5, x6, x7, x8, x9] := by
  rcases l with _ | ⟨x0, l⟩
  · simp at h
  rcases l with _ | ⟨x1, l⟩
  · simp at h
  rcases l with _ | ⟨x2, l⟩
  · simp at h
  rcases l with _ | ⟨x3, l⟩
  · simp at h
  rcases l with _ | ⟨x4, l⟩
  · simp at h
  rcases l with _ | ⟨x5, l⟩
  · simp at h
  rcases l with _ | ⟨x6, l⟩
  · simp at h
  rcases l with _ | ⟨x7, l⟩
  · simp at h
  rcases l with _ | ⟨x8, l⟩
  · simp at h
  rcases l with _ | ⟨x9, l⟩
  · simp at h
  · simp at h; exact ⟨x0, x1, x2, x3, x4, x5, x6, x7, x8, x9, by simp [h]⟩
/-- laws.szHead -/
def c21 : AF := ⟨2, 5, [.tmp 4], (.seq (.ops [.i (.lbox 2 (.s 0)), .i (.mov 4 (.c (.val false [.int .i64 0])))]) (.seq (.ops [.i (.fad 5 (.s 2) 3), .i (.ldl 6 2 (.s 5) 1 false), .i (.mov 7 (.s 1)), .i (.call 9 81 false [(.s 6), (.s 7)]), .i (.mov 1 (.s 8))]) (.seq (.seq (.ops [.i (.mov 9 (.s 1)), .i (.bin 10 .lss (.s 9) (.c (.val false [.int .i64 0])))]) (.cond (.s 10) (.seq (.ops [.i (.mov 4 (.c (.val false [.int .i64 (-1)])))]) .ret) .skip)) (.seq (.ops [.i (.fad 11 (.s 2) 4), .i (.ldl 12 2 (.s 11) 1 false), .i (.mov 13 (.s 1)), .i (.call 15 81 false [(.s 12), (.s 13)]), .i (.mov 1 (.s 14))]) (.seq (.seq (.ops [.i (.mov 15 (.s 1)), .i (.bin 16 .lss (.s 15) (.c (.val false [.int .i64 0])))]) (.cond (.s 16) (.seq (.ops [.i (.mov 4 (.c (.val false [.int .i64 (-1)])))]) .ret) .skip)) (.seq (.ops [.i (.fad 17 (.s 2) 5), .i (.ldl 18 2 (.s 17) 5 true), .i (.mov 19 (.s 1)), .i (.call 21 82 false [(.s 18), (.s 19)]), .i (.mov 1 (.s 20))]) (.seq (.seq (.ops [.i (.mov 21 (.s 1)), .i (.bin 22 .lss (.s 21) (.c (.val false [.int .i64 0])))]) (.cond (.s 22) (.seq (.ops [.i (.mov 4 (.c (.val false [.int .i64 (-1)])))]) .ret) .skip)) (.seq (.ops [.i (.mov 23 (.s 1)), .i (.mov 4 (.s 23))]) .ret))))))))⟩
theorem k21 : cd 21 = some c21 := by kernel_rfl
theorem sz_Head : SzOk cd 21 THead := by
  intro h cs v S k hv hk
  obtain ⟨vs, rfl, q0⟩ := hv.st
  obtain ⟨v0, r0, S0, T0, rfl, rfl, h0, q1⟩ := q0.step
  obtain ⟨n0, e0, rfl, rfl, lo0, hi0⟩ := h0.int
  obtain ⟨v1, r1, S1, T1, rfl, rfl, h1, q2⟩ := q1.step
  obtain ⟨n1, e1, rfl, rfl, lo1, hi1⟩ := h1.int
  obtain ⟨v2, r2, S2, T2, rfl, rfl, h2, q3⟩ := q2.step
  obtain ⟨n2, e2, rfl, rfl, lo2, hi2⟩ := h2.int
  obtain ⟨v3, r3, S3, T3, rfl, rfl, h3, q4⟩ := q3.step
  obtain ⟨c3, e3⟩ := h3.one rfl
  rw [e3] at h3
  obtain ⟨v4, r4, S4, T4, rfl, rfl, h4, q5⟩ := q4.step
  obtain ⟨c4, e4⟩ := h4.one rfl
  rw [e4] at h4
  obtain ⟨v5, r5, S5, T5, rfl, rfl, h5, q6⟩ := q5.step
  obtain ⟨_, rfl, rfl⟩ := q6
  have hsz : cs.length = 10 := hv.size
  simp only [Ty.size, Ty.sizes, Nat.reduceAdd, Nat.zero_add, List.drop_zero] at e0 e1 e2 e3 e4 hsz h5
  have hw : wt (.r [.i n0, .i n1, .i n2, v3, v4, v5]) = wt v3 + wt v4 + wt v5 := by simp only [wt, wts]; omega
  rw [hw]
  refine WS_enter k21 rfl ?_
  simp (disch := omega) only [c21, e0, e1, e2, e3, e4, hsz, ifT, w64, RR, RP, Ty.agg, Ty.size, Ty.sizes, eq_self, ne_eq, not_true, not_false_iff, reduceCtorEq, List.length_cons, List.length_nil, decide_true, decide_false, true_and, and_true, ite_true, ite_false, PT.full, enter0, setAll, forget, Fr.set, Fr.get, PT.get, PT.set, kof, ai, ev, ev1, evp, b_add, b_sub, b_mul, b_quo, b_rem, b_eql, b_neq, b_lss, b_leq, b_gtr, b_geq, b_seql, b_sneq, setD, resV, resL, res1, args, List.take_zero, List.drop_zero, List.take_nil, List.take_succ_cons, List.drop_succ_cons, Nat.reduceAdd, Nat.reduceLeDiff, reduceIte, Bool.not_true, Bool.not_false, Bool.false_eq_true, CA_some, Option.some.injEq, Nat.zero_add, Nat.mul_one, Nat.add_zero, setL, List.set_cons_zero, List.set_cons_succ, fillC]
  refine SzOk.go sz_ByteS h3 (k := k) (by omega) (fun hf0 => ?_) (fun hf0 => ?_)
  case refine_2 =>
    simp (disch := omega) only [KC_eq, c21, e0, e1, e2, e3, e4, hsz, ifT, w64, RR, RP, Ty.agg, Ty.size, Ty.sizes, eq_self, ne_eq, not_true, not_false_iff, reduceCtorEq, List.length_cons, List.length_nil, decide_true, decide_false, true_and, and_true, ite_true, ite_false, PT.full, enter0, setAll, forget, Fr.set, Fr.get, PT.get, PT.set, kof, ai, ev, ev1, evp, b_add, b_sub, b_mul, b_quo, b_rem, b_eql, b_neq, b_lss, b_leq, b_gtr, b_geq, b_seql, b_sneq, setD, resV, resL, res1, args, List.take_zero, List.drop_zero, List.take_nil, List.take_succ_cons, List.drop_succ_cons, Nat.reduceAdd, Nat.reduceLeDiff, reduceIte, Bool.not_true, Bool.not_false, Bool.false_eq_true, CA_some, Option.some.injEq, Nat.zero_add, Nat.mul_one, Nat.add_zero, setL, List.set_cons_zero, List.set_cons_succ, fillC]
    refine BR_dec (fun hn => ?_) (fun hn => absurd (show (-1 : Int) < 0 by omega) hn)
    simp (disch := omega) only [c21, e0, e1, e2, e3, e4, hsz, ifT, w64, RR, RP, Ty.agg, Ty.size, Ty.sizes, eq_self, ne_eq, not_true, not_false_iff, reduceCtorEq, List.length_cons, List.length_nil, decide_true, decide_false, true_and, and_true, ite_true, ite_false, PT.full, enter0, setAll, forget, Fr.set, Fr.get, PT.get, PT.set, kof, ai, ev, ev1, evp, b_add, b_sub, b_mul, b_quo, b_rem, b_eql, b_neq, b_lss, b_leq, b_gtr, b_geq, b_seql, b_sneq, setD, resV, resL, res1, args, List.take_zero, List.drop_zero, List.take_nil, List.take_succ_cons, List.drop_succ_cons, Nat.reduceAdd, Nat.reduceLeDiff, reduceIte, Bool.not_true, Bool.not_false, Bool.false_eq_true, CA_some, Option.some.injEq, Nat.zero_add, Nat.mul_one, Nat.add_zero, setL, List.set_cons_zero, List.set_cons_succ, fillC]
    rw [if_neg (by omega)]
  simp (disch := omega) only [KC_eq, c21, e0, e1, e2, e3, e4, hsz, ifT, w64, RR, RP, Ty.agg, Ty.size, Ty.sizes, eq_self, ne_eq, not_true, not_false_iff, reduceCtorEq, List.length_cons, List.length_nil, decide_true, decide_false, true_and, and_true, ite_true, ite_false, PT.full, enter0, setAll, forget, Fr.set, Fr.get, PT.get, PT.set, kof, ai, ev, ev1, evp, b_add, b_sub, b_mul, b_quo, b_rem, b_eql, b_neq, b_lss, b_leq, b_gtr, b_geq, b_seql, b_sneq, setD, resV, resL, res1, args, List.take_zero, List.drop_zero, List.take_nil, List.take_succ_cons, List.drop_succ_cons, Nat.reduceAdd, Nat.reduceLeDiff, reduceIte, Bool.not_true, Bool.not_false, Bool.false_eq_true, CA_some, Option.some.injEq, Nat.zero_add, Nat.mul_one, Nat.add_zero, setL, List.set_cons_zero, List.set_cons_succ, fillC]
  refine BR_dec (fun hn => absurd hn (by omega)) (fun hn => ?_)
  simp (disch := omega) only [c21, e0, e1, e2, e3, e4, hsz, ifT, w64, RR, RP, Ty.agg, Ty.size, Ty.sizes, eq_self, ne_eq, not_true, not_false_iff, reduceCtorEq, List.length_cons, List.length_nil, decide_true, decide_false, true_and, and_true, ite_true, ite_false, PT.full, enter0, setAll, forget, Fr.set, Fr.get, PT.get, PT.set, kof, ai, ev, ev1, evp, b_add, b_sub, b_mul, b_quo, b_rem, b_eql, b_neq, b_lss, b_leq, b_gtr, b_geq, b_seql, b_sneq, setD, resV, resL, res1, args, List.take_zero, List.drop_zero, List.take_nil, List.take_succ_cons, List.drop_succ_cons, Nat.reduceAdd, Nat.reduceLeDiff, reduceIte, Bool.not_true, Bool.not_false, Bool.false_eq_true, CA_some, Option.some.injEq, Nat.zero_add, Nat.mul_one, Nat.add_zero, setL, List.set_cons_zero, List.set_cons_succ, fillC]
  refine SzOk.go sz_ByteS h4 (k := k - wt v3) (by omega) (fun hf1 => ?_) (fun hf1 => ?_)
  case refine_2 =>
    simp (disch := omega) only [KC_eq, c21, e0, e1, e2, e3, e4, hsz, ifT, w64, RR, RP, Ty.agg, Ty.size, Ty.sizes, eq_self, ne_eq, not_true, not_false_iff, reduceCtorEq, List.length_cons, List.length_nil, decide_true, decide_false, true_and, and_true, ite_true, ite_false, PT.full, enter0, setAll, forget, Fr.set, Fr.get, PT.get, PT.set, kof, ai, ev, ev1, evp, b_add, b_sub, b_mul, b_quo, b_rem, b_eql, b_neq, b_lss, b_leq, b_gtr, b_geq, b_seql, b_sneq, setD, resV, resL, res1, args, List.take_zero, List.drop_zero, List.take_nil, List.take_succ_cons, List.drop_succ_cons, Nat.reduceAdd, Nat.reduceLeDiff, reduceIte, Bool.not_true, Bool.not_false, Bool.false_eq_true, CA_some, Option.some.injEq, Nat.zero_add, Nat.mul_one, Nat.add_zero, setL, List.set_cons_zero, List.set_cons_succ, fillC]
    refine BR_dec (fun hn => ?_) (fun hn => absurd (show (-1 : Int) < 0 by omega) hn)
    simp (disch := omega) only [c21, e0, e1, e2, e3, e4, hsz, ifT, w64, RR, RP, Ty.agg, Ty.size, Ty.sizes, eq_self, ne_eq, not_true, not_false_iff, reduceCtorEq, List.length_cons, List.length_nil, decide_true, decide_false, true_and, and_true, ite_true, ite_false, PT.full, enter0, setAll, forget, Fr.set, Fr.get, PT.get, PT.set, kof, ai, ev, ev1, evp, b_add, b_sub, b_mul, b_quo, b_rem, b_eql, b_neq, b_lss, b_leq, b_gtr, b_geq, b_seql, b_sneq, setD, resV, resL, res1, args, List.take_zero, List.drop_zero, List.take_nil, List.take_succ_cons, List.drop_succ_cons, Nat.reduceAdd, Nat.reduceLeDiff, reduceIte, Bool.not_true, Bool.not_false, Bool.false_eq_true, CA_some, Option.some.injEq, Nat.zero_add, Nat.mul_one, Nat.add_zero, setL, List.set_cons_zero, List.set_cons_succ, fillC]
    rw [if_neg (by omega)]
  simp (disch := omega) only [KC_eq, c21, e0, e1, e2, e3, e4, hsz, ifT, w64, RR, RP, Ty.agg, Ty.size, Ty.sizes, eq_self, ne_eq, not_true, not_false_iff, reduceCtorEq, List.length_cons, List.length_nil, decide_true, decide_false, true_and, and_true, ite_true, ite_false, PT.full, enter0, setAll, forget, Fr.set, Fr.get, PT.get, PT.set, kof, ai, ev, ev1, evp, b_add, b_sub, b_mul, b_quo, b_rem, b_eql, b_neq, b_lss, b_leq, b_gtr, b_geq, b_seql, b_sneq, setD, resV, resL, res1, args, List.take_zero, List.drop_zero, List.take_nil, List.take_succ_cons, List.drop_succ_cons, Nat.reduceAdd, Nat.reduceLeDiff, reduceIte, Bool.not_true, Bool.not_false, Bool.false_eq_true, CA_some, Option.some.injEq, Nat.zero_add, Nat.mul_one, Nat.add_zero, setL, List.set_cons_zero, List.set_cons_succ, fillC]
  refine BR_dec (fun hn => absurd hn (by omega)) (fun hn => ?_)
  simp (disch := omega) only [c21, e0, e1, e2, e3, e4, hsz, ifT, w64, RR, RP, Ty.agg, Ty.size, Ty.sizes, eq_self, ne_eq, not_true, not_false_iff, reduceCtorEq, List.length_cons, List.length_nil, decide_true, decide_false, true_and, and_true, ite_true, ite_false, PT.full, enter0, setAll, forget, Fr.set, Fr.get, PT.get, PT.set, kof, ai, ev, ev1, evp, b_add, b_sub, b_mul, b_quo, b_rem, b_eql, b_neq, b_lss, b_leq, b_gtr, b_geq, b_seql, b_sneq, setD, resV, resL, res1, args, List.take_zero, List.drop_zero, List.take_nil, List.take_succ_cons, List.drop_succ_cons, Nat.reduceAdd, Nat.reduceLeDiff, reduceIte, Bool.not_true, Bool.not_false, Bool.false_eq_true, CA_some, Option.some.injEq, Nat.zero_add, Nat.mul_one, Nat.add_zero, setL, List.set_cons_zero, List.set_cons_succ, fillC]
  refine SzOk.go sz_Qc h5 (k := k - wt v3 - wt v4) (by omega) (fun hf2 => ?_) (fun hf2 => ?_)
  case refine_2 =>
    simp (disch := omega) only [KC_eq, c21, e0, e1, e2, e3, e4, hsz, ifT, w64, RR, RP, Ty.agg, Ty.size, Ty.sizes, eq_self, ne_eq, not_true, not_false_iff, reduceCtorEq, List.length_cons, List.length_nil, decide_true, decide_false, true_and, and_true, ite_true, ite_false, PT.full, enter0, setAll, forget, Fr.set, Fr.get, PT.get, PT.set, kof, ai, ev, ev1, evp, b_add, b_sub, b_mul, b_quo, b_rem, b_eql, b_neq, b_lss, b_leq, b_gtr, b_geq, b_seql, b_sneq, setD, resV, resL, res1, args, List.take_zero, List.drop_zero, List.take_nil, List.take_succ_cons, List.drop_succ_cons, Nat.reduceAdd, Nat.reduceLeDiff, reduceIte, Bool.not_true, Bool.not_false, Bool.false_eq_true, CA_some, Option.some.injEq, Nat.zero_add, Nat.mul_one, Nat.add_zero, setL, List.set_cons_zero, List.set_cons_succ, fillC]
    refine BR_dec (fun hn => ?_) (fun hn => absurd (show (-1 : Int) < 0 by omega) hn)
    simp (disch := omega) only [c21, e0, e1, e2, e3, e4, hsz, ifT, w64, RR, RP, Ty.agg, Ty.size, Ty.sizes, eq_self, ne_eq, not_true, not_false_iff, reduceCtorEq, List.length_cons, List.length_nil, decide_true, decide_false, true_and, and_true, ite_true, ite_false, PT.full, enter0, setAll, forget, Fr.set, Fr.get, PT.get, PT.set, kof, ai, ev, ev1, evp, b_add, b_sub, b_mul, b_quo, b_rem, b_eql, b_neq, b_lss, b_leq, b_gtr, b_geq, b_seql, b_sneq, setD, resV, resL, res1, args, List.take_zero, List.drop_zero, List.take_nil, List.take_succ_cons, List.drop_succ_cons, Nat.reduceAdd, Nat.reduceLeDiff, reduceIte, Bool.not_true, Bool.not_false, Bool.false_eq_true, CA_some, Option.some.injEq, Nat.zero_add, Nat.mul_one, Nat.add_zero, setL, List.set_cons_zero, List.set_cons_succ, fillC]
    rw [if_neg (by omega)]
  simp (disch := omega) only [KC_eq, c21, e0, e1, e2, e3, e4, hsz, ifT, w64, RR, RP, Ty.agg, Ty.size, Ty.sizes, eq_self, ne_eq, not_true, not_false_iff, reduceCtorEq, List.length_cons, List.length_nil, decide_true, decide_false, true_and, and_true, ite_true, ite_false, PT.full, enter0, setAll, forget, Fr.set, Fr.get, PT.get, PT.set, kof, ai, ev, ev1, evp, b_add, b_sub, b_mul, b_quo, b_rem, b_eql, b_neq, b_lss, b_leq, b_gtr, b_geq, b_seql, b_sneq, setD, resV, resL, res1, args, List.take_zero, List.drop_zero, List.take_nil, List.take_succ_cons, List.drop_succ_cons, Nat.reduceAdd, Nat.reduceLeDiff, reduceIte, Bool.not_true, Bool.not_false, Bool.false_eq_true, CA_some, Option.some.injEq, Nat.zero_add, Nat.mul_one, Nat.add_zero, setL, List.set_cons_zero, List.set_cons_succ, fillC]
  refine BR_dec (fun hn => absurd hn (by omega)) (fun hn => ?_)
  simp (disch := omega) only [c21, e0, e1, e2, e3, e4, hsz, ifT, w64, RR, RP, Ty.agg, Ty.size, Ty.sizes, eq_self, ne_eq, not_true, not_false_iff, reduceCtorEq, List.length_cons, List.length_nil, decide_true, decide_false, true_and, and_true, ite_true, ite_false, PT.full, enter0, setAll, forget, Fr.set, Fr.get, PT.get, PT.set, kof, ai, ev, ev1, evp, b_add, b_sub, b_mul, b_quo, b_rem, b_eql, b_neq, b_lss, b_leq, b_gtr, b_geq, b_seql, b_sneq, setD, resV, resL, res1, args, List.take_zero, List.drop_zero, List.take_nil, List.take_succ_cons, List.drop_succ_cons, Nat.reduceAdd, Nat.reduceLeDiff, reduceIte, Bool.not_true, Bool.not_false, Bool.false_eq_true, CA_some, Option.some.injEq, Nat.zero_add, Nat.mul_one, Nat.add_zero, setL, List.set_cons_zero, List.set_cons_succ, fillC]
  congr 3
  omega
/-- laws.szHeadS -/
def c93 : AF := ⟨2, 5, [.tmp 4], (.seq (.ops [.i (.mov 4 (.c (.val false [.int .i64 0])))]) (.seq (.ops [.i (.mov 6 (.s 1)), .i (.mov 7 (.s 0)), .i (.len 8 false (.s 7)), .i (.bin 9 .sub (.s 6) (.s 8)), .i (.mov 1 (.s 9))]) (.seq (.seq (.ops [.i (.mov 10 (.s 1)), .i (.bin 11 .lss (.s 10) (.c (.val false [.int .i64 0])))]) (.cond (.s 11) (.seq (.ops [.i (.mov 4 (.c (.val false [.int .i64 (-1)])))]) .ret) .skip)) (.seq (.seq (.ops [.i (.mov 5 (.c (.val false [.int .i64 0])))]) (.block 0 (.loop [25, 24, 23, 22, 21, 20, 19, 18, 17, 16, 15, 14, 13, 12] (.seq (.seq (.ops [.i (.mov 12 (.s 5)), .i (.mov 13 (.s 0)), .i (.len 14 false (.s 13)), .i (.bin 15 .lss (.s 12) (.s 14))]) (.cond (.s 15) .skip (.exit 0))) (.seq (.block 1 (.seq (.ops [.i (.mov 18 (.s 0)), .i (.mov 19 (.s 5)), .i (.iad 20 (.s 18) (.s 19) 10), .i (.ldh 21 (.s 20) 10 true), .i (.mov 22 (.s 1)), .i (.call 24 21 false [(.s 21), (.s 22)]), .i (.mov 1 (.s 23))]) (.seq (.ops [.i (.mov 24 (.s 1)), .i (.bin 25 .lss (.s 24) (.c (.val false [.int .i64 0])))]) (.cond (.s 25) (.seq (.ops [.i (.mov 4 (.c (.val false [.int .i64 (-1)])))]) .ret) .skip)))) (.ops [.i (.mov 16 (.s 5)), .i (.bin 17 .add (.s 16) (.c (.val false [.int .i64 1]))), .i (.mov 5 (.s 17))])))))) (.seq (.ops [.i (.mov 26 (.s 1)), .i (.mov 4 (.s 26))]) .ret)))))⟩
theorem k93 : cd 93 = some c93 := by kernel_rfl
theorem sz_HeadS : SzOk cd 93 (.sl THead) := sz_sl k93 sz_Head
/-- laws.szForest -/
def c44 : AF := ⟨2, 4, [.tmp 4], (.seq (.ops [.i (.lbox 2 (.s 0)), .i (.mov 4 (.c (.val false [.int .i64 0])))]) (.seq (.ops [.i (.fad 5 (.s 2) 5), .i (.ldl 6 2 (.s 5) 1 false), .i (.mov 7 (.s 1)), .i (.call 9 93 false [(.s 6), (.s 7)]), .i (.mov 1 (.s 8))]) (.seq (.seq (.ops [.i (.mov 9 (.s 1)), .i (.bin 10 .lss (.s 9) (.c (.val false [.int .i64 0])))]) (.cond (.s 10) (.seq (.ops [.i (.mov 4 (.c (.val false [.int .i64 (-1)])))]) .ret) .skip)) (.seq (.ops [.i (.mov 11 (.s 1)), .i (.mov 4 (.s 11))]) .ret))))⟩
theorem k44 : cd 44 = some c44 := by kernel_rfl
theorem sz_Forest : SzOk cd 44 TForest := by
  intro h cs v S k hv hk
  obtain ⟨vs, rfl, q0⟩ := hv.st
  obtain ⟨v0, r0, S0, T0, rfl, rfl, h0, q1⟩ := q0.step
  obtain ⟨v1, r1, S1, T1, rfl, rfl, h1, q2⟩ := q1.step
  obtain ⟨c1, e1⟩ := h1.one rfl
  rw [e1] at h1
  obtain ⟨_, rfl, rfl⟩ := q2
  have hsz : cs.length = 6 := hv.size
  simp only [Ty.size, Ty.sizes, Nat.reduceAdd, Nat.zero_add, List.drop_zero] at e1 hsz h0
  have fw0 := Rp.wt0 TLimits h0 rfl
  have hw : wt (.r [v0, v1]) = wt v1 := by simp only [wt, wts]; omega
  rw [hw]
  refine WS_enter k44 rfl ?_
  simp (disch := omega) only [c44, e1, hsz, ifT, w64, RR, RP, Ty.agg, Ty.size, Ty.sizes, eq_self, ne_eq, not_true, not_false_iff, reduceCtorEq, List.length_cons, List.length_nil, decide_true, decide_false, true_and, and_true, ite_true, ite_false, PT.full, enter0, setAll, forget, Fr.set, Fr.get, PT.get, PT.set, kof, ai, ev, ev1, evp, b_add, b_sub, b_mul, b_quo, b_rem, b_eql, b_neq, b_lss, b_leq, b_gtr, b_geq, b_seql, b_sneq, setD, resV, resL, res1, args, List.take_zero, List.drop_zero, List.take_nil, List.take_succ_cons, List.drop_succ_cons, Nat.reduceAdd, Nat.reduceLeDiff, reduceIte, Bool.not_true, Bool.not_false, Bool.false_eq_true, CA_some, Option.some.injEq, Nat.zero_add, Nat.mul_one, Nat.add_zero, setL, List.set_cons_zero, List.set_cons_succ, fillC]
  refine SzOk.go sz_HeadS h1 (k := k) (by omega) (fun hf0 => ?_) (fun hf0 => ?_)
  case refine_2 =>
    simp (disch := omega) only [KC_eq, c44, e1, hsz, ifT, w64, RR, RP, Ty.agg, Ty.size, Ty.sizes, eq_self, ne_eq, not_true, not_false_iff, reduceCtorEq, List.length_cons, List.length_nil, decide_true, decide_false, true_and, and_true, ite_true, ite_false, PT.full, enter0, setAll, forget, Fr.set, Fr.get, PT.get, PT.set, kof, ai, ev, ev1, evp, b_add, b_sub, b_mul, b_quo, b_rem, b_eql, b_neq, b_lss, b_leq, b_gtr, b_geq, b_seql, b_sneq, setD, resV, resL, res1, args, List.take_zero, List.drop_zero, List.take_nil, List.take_succ_cons, List.drop_succ_cons, Nat.reduceAdd, Nat.reduceLeDiff, reduceIte, Bool.not_true, Bool.not_false, Bool.false_eq_true, CA_some, Option.some.injEq, Nat.zero_add, Nat.mul_one, Nat.add_zero, setL, List.set_cons_zero, List.set_cons_succ, fillC]
    refine BR_dec (fun hn => ?_) (fun hn => absurd (show (-1 : Int) < 0 by omega) hn)
    simp (disch := omega) only [c44, e1, hsz, ifT, w64, RR, RP, Ty.agg, Ty.size, Ty.sizes, eq_self, ne_eq, not_true, not_false_iff, reduceCtorEq, List.length_cons, List.length_nil, decide_true, decide_false, true_and, and_true, ite_true, ite_false, PT.full, enter0, setAll, forget, Fr.set, Fr.get, PT.get, PT.set, kof, ai, ev, ev1, evp, b_add, b_sub, b_mul, b_quo, b_rem, b_eql, b_neq, b_lss, b_leq, b_gtr, b_geq, b_seql, b_sneq, setD, resV, resL, res1, args, List.take_zero, List.drop_zero, List.take_nil, List.take_succ_cons, List.drop_succ_cons, Nat.reduceAdd, Nat.reduceLeDiff, reduceIte, Bool.not_true, Bool.not_false, Bool.false_eq_true, CA_some, Option.some.injEq, Nat.zero_add, Nat.mul_one, Nat.add_zero, setL, List.set_cons_zero, List.set_cons_succ, fillC]
    rw [if_neg (by omega)]
  simp (disch := omega) only [KC_eq, c44, e1, hsz, ifT, w64, RR, RP, Ty.agg, Ty.size, Ty.sizes, eq_self, ne_eq, not_true, not_false_iff, reduceCtorEq, List.length_cons, List.length_nil, decide_true, decide_false, true_and, and_true, ite_true, ite_false, PT.full, enter0, setAll, forget, Fr.set, Fr.get, PT.get, PT.set, kof, ai, ev, ev1, evp, b_add, b_sub, b_mul, b_quo, b_rem, b_eql, b_neq, b_lss, b_leq, b_gtr, b_geq, b_seql, b_sneq, setD, resV, resL, res1, args, List.take_zero, List.drop_zero, List.take_nil, List.take_succ_cons, List.drop_succ_cons, Nat.reduceAdd, Nat.reduceLeDiff, reduceIte, Bool.not_true, Bool.not_false, Bool.false_eq_true, CA_some, Option.some.injEq, Nat.zero_add, Nat.mul_one, Nat.add_zero, setL, List.set_cons_zero, List.set_cons_succ, fillC]
  refine BR_dec (fun hn => absurd hn (by omega)) (fun hn => ?_)
  simp (disch := omega) only [c44, e1, hsz, ifT, w64, RR, RP, Ty.agg, Ty.size, Ty.sizes, eq_self, ne_eq, not_true, not_false_iff, reduceCtorEq, List.length_cons, List.length_nil, decide_true, decide_false, true_and, and_true, ite_true, ite_false, PT.full, enter0, setAll, forget, Fr.set, Fr.get, PT.get, PT.set, kof, ai, ev, ev1, evp, b_add, b_sub, b_mul, b_quo, b_rem, b_eql, b_neq, b_lss, b_leq, b_gtr, b_geq, b_seql, b_sneq, setD, resV, resL, res1, args, List.take_zero, List.drop_zero, List.take_nil, List.take_succ_cons, List.drop_succ_cons, Nat.reduceAdd, Nat.reduceLeDiff, reduceIte, Bool.not_true, Bool.not_false, Bool.false_eq_true, CA_some, Option.some.injEq, Nat.zero_add, Nat.mul_one, Nat.add_zero, setL, List.set_cons_zero, List.set_cons_succ, fillC]
  congr 3
  omega
/-- laws.toLimits -/
def c24 : AF := ⟨1, 5, [.cell 2 5 true], (.seq (.ops [.i (.lbox 1 (.s 0)), .i (.lal 2 [.int .i64 0, .int .i64 0, .int .i64 0, .int .i64 0, .int .i64 0])]) (.seq (.ops [.i (.lal 3 [.int .i64 0, .int .i64 0, .int .i64 0, .int .i64 0, .int .i64 0])]) (.seq (.ops [.i (.fad 4 (.s 1) 0), .i (.ldl 5 1 (.s 4) 1 false), .i (.fad 6 (.s 3) 0), .i (.stl 3 (.s 6) (.s 5) 1)]) (.seq (.ops [.i (.fad 7 (.s 1) 1), .i (.ldl 8 1 (.s 7) 1 false), .i (.fad 9 (.s 3) 1), .i (.stl 3 (.s 9) (.s 8) 1)]) (.seq (.ops [.i (.fad 10 (.s 1) 2), .i (.ldl 11 1 (.s 10) 1 false), .i (.fad 12 (.s 3) 2), .i (.stl 3 (.s 12) (.s 11) 1)]) (.seq (.ops [.i (.fad 13 (.s 1) 3), .i (.ldl 14 1 (.s 13) 1 false), .i (.fad 15 (.s 3) 3), .i (.stl 3 (.s 15) (.s 14) 1)]) (.seq (.ops [.i (.fad 16 (.s 1) 4), .i (.ldl 17 1 (.s 16) 1 false), .i (.fad 18 (.s 3) 4), .i (.stl 3 (.s 18) (.s 17) 1)]) (.seq (.ops [.i (.ldl 19 3 (.s 3) 5 true), .i (.stl 2 (.s 2) (.s 19) 5)]) .ret))))))))⟩
theorem k24 : cd 24 = some c24 := by kernel_rfl
theorem to_Limits : ToOk cd 24 TLimits := by
  intro h cs v S hv hw
  obtain ⟨vs, rfl, q0⟩ := hv.st
  obtain ⟨v0, r0, S0, T0, rfl, rfl, h0, q1⟩ := q0.step
  obtain ⟨n0, e0, rfl, rfl, lo0, hi0⟩ := h0.int
  obtain ⟨v1, r1, S1, T1, rfl, rfl, h1, q2⟩ := q1.step
  obtain ⟨n1, e1, rfl, rfl, lo1, hi1⟩ := h1.int
  obtain ⟨v2, r2, S2, T2, rfl, rfl, h2, q3⟩ := q2.step
  obtain ⟨n2, e2, rfl, rfl, lo2, hi2⟩ := h2.int
  obtain ⟨v3, r3, S3, T3, rfl, rfl, h3, q4⟩ := q3.step
  obtain ⟨n3, e3, rfl, rfl, lo3, hi3⟩ := h3.int
  obtain ⟨v4, r4, S4, T4, rfl, rfl, h4, q5⟩ := q4.step
  obtain ⟨n4, e4, rfl, rfl, lo4, hi4⟩ := h4.int
  obtain ⟨_, rfl, rfl⟩ := q5
  have hsz : cs.length = 5 := hv.size
  simp only [Ty.size, Ty.sizes, Nat.reduceAdd, Nat.zero_add, List.drop_zero] at e0 e1 e2 e3 e4 hsz
  simp only [wt, wts] at hw
  refine WS_enter k24 rfl ?_
  simp (disch := omega) only [KC_eq, c24, e0, e1, e2, e3, e4, hsz, ifT, w64, RR, RP, Ty.agg, Ty.size, Ty.sizes, eq_self, ne_eq, not_true, not_false_iff, reduceCtorEq, List.length_cons, List.length_nil, decide_true, decide_false, true_and, and_true, ite_true, ite_false, PT.full, enter0, setAll, forget, Fr.set, Fr.get, PT.get, PT.set, kof, ai, ev, ev1, evp, b_add, b_sub, b_mul, b_quo, b_rem, b_eql, b_neq, b_lss, b_leq, b_gtr, b_geq, b_seql, b_sneq, setD, resV, resL, res1, args, List.take_zero, List.drop_zero, List.take_nil, List.take_succ_cons, List.drop_succ_cons, Nat.reduceAdd, Nat.reduceLeDiff, reduceIte, Bool.not_true, Bool.not_false, Bool.false_eq_true, CA_some, Option.some.injEq, Nat.zero_add, Nat.mul_one, Nat.add_zero, setL, List.set_cons_zero, List.set_cons_succ, fillC]
  exact ⟨[], _, _, by simp, rfl, ⟨_, rfl, (Rs.mk (Rp.mkInt lo0 hi0) (Rs.mk (Rp.mkInt lo1 hi1) (Rs.mk (Rp.mkInt lo2 hi2) (Rs.mk (Rp.mkInt lo3 hi3) (Rs.mk (Rp.mkInt lo4 hi4) Rs.nil)))))⟩, by simp [Ownd], by simp⟩
/-- laws.toByteS -/
def c47 : AF := ⟨1, 5, [.tmp 2], (.seq (.ops [.i (.mov 2 (.c (.val false [.nils])))]) (.seq (.ops [.i (.mov 5 (.s 0)), .i (.len 6 false (.s 5)), .i (.mks 7 5 1 1 [.int .u8 0] (.s 6)), .i (.mov 3 (.s 7))]) (.seq (.seq (.ops [.i (.mov 4 (.c (.val false [.int .i64 0])))]) (.block 0 (.loop [20, 19, 18, 17, 16, 15, 14, 13, 12, 11, 10, 9, 8] (.seq (.seq (.ops [.i (.mov 8 (.s 4)), .i (.mov 9 (.s 0)), .i (.len 10 false (.s 9)), .i (.bin 11 .lss (.s 8) (.s 10))]) (.cond (.s 11) .skip (.exit 0))) (.seq (.block 1 (.ops [.i (.mov 14 (.s 3)), .i (.mov 15 (.s 4)), .i (.mov 16 (.s 0)), .i (.mov 17 (.s 4)), .i (.iad 18 (.s 16) (.s 17) 1), .i (.ldh 19 (.s 18) 1 false), .i (.iad 20 (.s 14) (.s 15) 1), .i (.sth (.s 20) (.s 19) 1)])) (.ops [.i (.mov 12 (.s 4)), .i (.bin 13 .add (.s 12) (.c (.val false [.int .i64 1]))), .i (.mov 4 (.s 13))])))))) (.seq (.ops [.i (.mov 21 (.s 3)), .i (.mov 2 (.s 21))]) .ret))))⟩
theorem k47 : cd 47 = some c47 := by kernel_rfl
theorem to_ByteS : ToOk cd 47 (.sl (.int .u8)) := to_leaf k47 (by omega)
/-- laws.toByteSS -/
def c26 : AF := ⟨1, 5, [.tmp 2], (.seq (.ops [.i (.mov 2 (.c (.val false [.nils])))]) (.seq (.ops [.i (.mov 5 (.s 0)), .i (.len 6 false (.s 5)), .i (.mks 7 22 1 24 [.nils] (.s 6)), .i (.mov 3 (.s 7))]) (.seq (.seq (.ops [.i (.mov 4 (.c (.val false [.int .i64 0])))]) (.block 0 (.loop [21, 20, 19, 18, 17, 16, 15, 14, 13, 12, 11, 10, 9, 8] (.seq (.seq (.ops [.i (.mov 8 (.s 4)), .i (.mov 9 (.s 0)), .i (.len 10 false (.s 9)), .i (.bin 11 .lss (.s 8) (.s 10))]) (.cond (.s 11) .skip (.exit 0))) (.seq (.block 1 (.ops [.i (.mov 14 (.s 3)), .i (.mov 15 (.s 4)), .i (.mov 16 (.s 0)), .i (.mov 17 (.s 4)), .i (.iad 18 (.s 16) (.s 17) 1), .i (.ldh 19 (.s 18) 1 false), .i (.call 21 47 false [(.s 19)]), .i (.iad 21 (.s 14) (.s 15) 1), .i (.sth (.s 21) (.s 20) 1)])) (.ops [.i (.mov 12 (.s 4)), .i (.bin 13 .add (.s 12) (.c (.val false [.int .i64 1]))), .i (.mov 4 (.s 13))])))))) (.seq (.ops [.i (.mov 22 (.s 3)), .i (.mov 2 (.s 22))]) .ret))))⟩
theorem k26 : cd 26 = some c26 := by kernel_rfl
theorem to_ByteSS : ToOk cd 26 (.sl (.sl (.int .u8))) := to_sl k26 (by omega) rfl to_ByteS
/-- laws.toQc -/
def c87 : AF := ⟨1, 5, [.cell 2 5 true], (.seq (.ops [.i (.lbox 1 (.s 0)), .i (.lal 2 [.int .i64 0, .int .i64 0, .nils, .nils, .nils])]) (.seq (.ops [.i (.lal 3 [.int .i64 0, .int .i64 0, .nils, .nils, .nils])]) (.seq (.ops [.i (.fad 4 (.s 1) 0), .i (.ldl 5 1 (.s 4) 1 false), .i (.fad 6 (.s 3) 0), .i (.stl 3 (.s 6) (.s 5) 1)]) (.seq (.ops [.i (.fad 7 (.s 1) 1), .i (.ldl 8 1 (.s 7) 1 false), .i (.fad 9 (.s 3) 1), .i (.stl 3 (.s 9) (.s 8) 1)]) (.seq (.ops [.i (.fad 10 (.s 1) 2), .i (.ldl 11 1 (.s 10) 1 false), .i (.call 13 47 false [(.s 11)]), .i (.fad 13 (.s 3) 2), .i (.stl 3 (.s 13) (.s 12) 1)]) (.seq (.ops [.i (.fad 14 (.s 1) 3), .i (.ldl 15 1 (.s 14) 1 false), .i (.call 17 47 false [(.s 15)]), .i (.fad 17 (.s 3) 3), .i (.stl 3 (.s 17) (.s 16) 1)]) (.seq (.ops [.i (.fad 18 (.s 1) 4), .i (.ldl 19 1 (.s 18) 1 false), .i (.call 21 26 false [(.s 19)]), .i (.fad 21 (.s 3) 4), .i (.stl 3 (.s 21) (.s 20) 1)]) (.seq (.ops [.i (.ldl 22 3 (.s 3) 5 true), .i (.stl 2 (.s 2) (.s 22) 5)]) .ret))))))))⟩
theorem k87 : cd 87 = some c87 := by kernel_rfl
theorem to_Qc : ToOk cd 87 TQc := by
  intro h cs v S hv hw
  obtain ⟨vs, rfl, q0⟩ := hv.st
  obtain ⟨v0, r0, S0, T0, rfl, rfl, h0, q1⟩ := q0.step
  obtain ⟨n0, e0, rfl, rfl, lo0, hi0⟩ := h0.int
  obtain ⟨v1, r1, S1, T1, rfl, rfl, h1, q2⟩ := q1.step
  obtain ⟨n1, e1, rfl, rfl, lo1, hi1⟩ := h1.int
  obtain ⟨v2, r2, S2, T2, rfl, rfl, h2, q3⟩ := q2.step
  obtain ⟨c2, e2⟩ := h2.one rfl
  rw [e2] at h2
  obtain ⟨v3, r3, S3, T3, rfl, rfl, h3, q4⟩ := q3.step
  obtain ⟨c3, e3⟩ := h3.one rfl
  rw [e3] at h3
  obtain ⟨v4, r4, S4, T4, rfl, rfl, h4, q5⟩ := q4.step
  obtain ⟨c4, e4⟩ := h4.one rfl
  rw [e4] at h4
  obtain ⟨_, rfl, rfl⟩ := q5
  have hsz : cs.length = 5 := hv.size
  simp only [Ty.size, Ty.sizes, Nat.reduceAdd, Nat.zero_add, List.drop_zero] at e0 e1 e2 e3 e4 hsz
  simp only [wt, wts] at hw
  refine WS_enter k87 rfl ?_
  simp (disch := omega) only [KC_eq, c87, e0, e1, e2, e3, e4, hsz, ifT, w64, RR, RP, Ty.agg, Ty.size, Ty.sizes, eq_self, ne_eq, not_true, not_false_iff, reduceCtorEq, List.length_cons, List.length_nil, decide_true, decide_false, true_and, and_true, ite_true, ite_false, PT.full, enter0, setAll, forget, Fr.set, Fr.get, PT.get, PT.set, kof, ai, ev, ev1, evp, b_add, b_sub, b_mul, b_quo, b_rem, b_eql, b_neq, b_lss, b_leq, b_gtr, b_geq, b_seql, b_sneq, setD, resV, resL, res1, args, List.take_zero, List.drop_zero, List.take_nil, List.take_succ_cons, List.drop_succ_cons, Nat.reduceAdd, Nat.reduceLeDiff, reduceIte, Bool.not_true, Bool.not_false, Bool.false_eq_true, CA_some, Option.some.injEq, Nat.zero_add, Nat.mul_one, Nat.add_zero, setL, List.set_cons_zero, List.set_cons_succ, fillC]
  refine WC_call (to_ByteS h2 (by omega)) ?_
  rintro r0 g0 ⟨t0, d0, U0, rfl, rfl, z0, o0, l0⟩
  obtain ⟨y0_0, rfl⟩ := z0.one rfl
  simp (disch := omega) only [KC_eq, c87, e0, e1, e2, e3, e4, hsz, ifT, w64, RR, RP, Ty.agg, Ty.size, Ty.sizes, eq_self, ne_eq, not_true, not_false_iff, reduceCtorEq, List.length_cons, List.length_nil, decide_true, decide_false, true_and, and_true, ite_true, ite_false, PT.full, enter0, setAll, forget, Fr.set, Fr.get, PT.get, PT.set, kof, ai, ev, ev1, evp, b_add, b_sub, b_mul, b_quo, b_rem, b_eql, b_neq, b_lss, b_leq, b_gtr, b_geq, b_seql, b_sneq, setD, resV, resL, res1, args, List.take_zero, List.drop_zero, List.take_nil, List.take_succ_cons, List.drop_succ_cons, Nat.reduceAdd, Nat.reduceLeDiff, reduceIte, Bool.not_true, Bool.not_false, Bool.false_eq_true, CA_some, Option.some.injEq, Nat.zero_add, Nat.mul_one, Nat.add_zero, setL, List.set_cons_zero, List.set_cons_succ, fillC]
  refine WC_call (to_ByteS (h3.app) (by omega)) ?_
  rintro r1 g1 ⟨t1, d1, U1, rfl, rfl, z1, o1, l1⟩
  obtain ⟨y1_0, rfl⟩ := z1.one rfl
  simp (disch := omega) only [KC_eq, c87, e0, e1, e2, e3, e4, hsz, ifT, w64, RR, RP, Ty.agg, Ty.size, Ty.sizes, eq_self, ne_eq, not_true, not_false_iff, reduceCtorEq, List.length_cons, List.length_nil, decide_true, decide_false, true_and, and_true, ite_true, ite_false, PT.full, enter0, setAll, forget, Fr.set, Fr.get, PT.get, PT.set, kof, ai, ev, ev1, evp, b_add, b_sub, b_mul, b_quo, b_rem, b_eql, b_neq, b_lss, b_leq, b_gtr, b_geq, b_seql, b_sneq, setD, resV, resL, res1, args, List.take_zero, List.drop_zero, List.take_nil, List.take_succ_cons, List.drop_succ_cons, Nat.reduceAdd, Nat.reduceLeDiff, reduceIte, Bool.not_true, Bool.not_false, Bool.false_eq_true, CA_some, Option.some.injEq, Nat.zero_add, Nat.mul_one, Nat.add_zero, setL, List.set_cons_zero, List.set_cons_succ, fillC]
  refine WC_call (to_ByteSS ((h4.app).app) (by omega)) ?_
  rintro r2 g2 ⟨t2, d2, U2, rfl, rfl, z2, o2, l2⟩
  obtain ⟨y2_0, rfl⟩ := z2.one rfl
  simp (disch := omega) only [KC_eq, c87, e0, e1, e2, e3, e4, hsz, ifT, w64, RR, RP, Ty.agg, Ty.size, Ty.sizes, eq_self, ne_eq, not_true, not_false_iff, reduceCtorEq, List.length_cons, List.length_nil, decide_true, decide_false, true_and, and_true, ite_true, ite_false, PT.full, enter0, setAll, forget, Fr.set, Fr.get, PT.get, PT.set, kof, ai, ev, ev1, evp, b_add, b_sub, b_mul, b_quo, b_rem, b_eql, b_neq, b_lss, b_leq, b_gtr, b_geq, b_seql, b_sneq, setD, resV, resL, res1, args, List.take_zero, List.drop_zero, List.take_nil, List.take_succ_cons, List.drop_succ_cons, Nat.reduceAdd, Nat.reduceLeDiff, reduceIte, Bool.not_true, Bool.not_false, Bool.false_eq_true, CA_some, Option.some.injEq, Nat.zero_add, Nat.mul_one, Nat.add_zero, setL, List.set_cons_zero, List.set_cons_succ, fillC]
  refine ⟨(t0 ++ (t1 ++ t2)), _, _, by simp only [List.append_assoc], rfl, ⟨_, rfl, (Rs.mk (Rp.mkInt lo0 hi0) (Rs.mk (Rp.mkInt lo1 hi1) (Rs.mk ((z0.app).app) (Rs.mk (z1.app) (Rs.mk z2 Rs.nil)))))⟩, ?_⟩
  have fr := (Fre.step (Fre.step (Fre.step (Fre.nil h) z0.lt o0 l0) z1.lt o1 l1) z2.lt o2 l2)
  simpa only [List.nil_append, List.append_nil, List.append_assoc] using fr.both
/-- laws.toHead -/
def c25 : AF := ⟨1, 5, [.cell 2 10 true], (.seq (.ops [.i (.lbox 1 (.s 0)), .i (.lal 2 [.int .i64 0, .int .i64 0, .int .i64 0, .nils, .nils, .int .i64 0, .int .i64 0, .nils, .nils, .nils])]) (.seq (.ops [.i (.lal 3 [.int .i64 0, .int .i64 0, .int .i64 0, .nils, .nils, .int .i64 0, .int .i64 0, .nils, .nils, .nils])]) (.seq (.ops [.i (.fad 4 (.s 1) 0), .i (.ldl 5 1 (.s 4) 1 false), .i (.fad 6 (.s 3) 0), .i (.stl 3 (.s 6) (.s 5) 1)]) (.seq (.ops [.i (.fad 7 (.s 1) 1), .i (.ldl 8 1 (.s 7) 1 false), .i (.fad 9 (.s 3) 1), .i (.stl 3 (.s 9) (.s 8) 1)]) (.seq (.ops [.i (.fad 10 (.s 1) 2), .i (.ldl 11 1 (.s 10) 1 false), .i (.fad 12 (.s 3) 2), .i (.stl 3 (.s 12) (.s 11) 1)]) (.seq (.ops [.i (.fad 13 (.s 1) 3), .i (.ldl 14 1 (.s 13) 1 false), .i (.call 16 47 false [(.s 14)]), .i (.fad 16 (.s 3) 3), .i (.stl 3 (.s 16) (.s 15) 1)]) (.seq (.ops [.i (.fad 17 (.s 1) 4), .i (.ldl 18 1 (.s 17) 1 false), .i (.call 20 47 false [(.s 18)]), .i (.fad 20 (.s 3) 4), .i (.stl 3 (.s 20) (.s 19) 1)]) (.seq (.ops [.i (.fad 21 (.s 1) 5), .i (.ldl 22 1 (.s 21) 5 true), .i (.call 24 87 false [(.s 22)]), .i (.fad 24 (.s 3) 5), .i (.stl 3 (.s 24) (.s 23) 5)]) (.seq (.ops [.i (.ldl 25 3 (.s 3) 10 true), .i (.stl 2 (.s 2) (.s 25) 10)]) .ret)))))))))⟩
theorem k25 : cd 25 = some c25 := by kernel_rfl
theorem to_Head : ToOk cd 25 THead := by
  intro h cs v S hv hw
  obtain ⟨vs, rfl, q0⟩ := hv.st
  obtain ⟨v0, r0, S0, T0, rfl, rfl, h0, q1⟩ := q0.step
  obtain ⟨n0, e0, rfl, rfl, lo0, hi0⟩ := h0.int
  obtain ⟨v1, r1, S1, T1, rfl, rfl, h1, q2⟩ := q1.step
  obtain ⟨n1, e1, rfl, rfl, lo1, hi1⟩ := h1.int
  obtain ⟨v2, r2, S2, T2, rfl, rfl, h2, q3⟩ := q2.step
  obtain ⟨n2, e2, rfl, rfl, lo2, hi2⟩ := h2.int
  obtain ⟨v3, r3, S3, T3, rfl, rfl, h3, q4⟩ := q3.step
  obtain ⟨c3, e3⟩ := h3.one rfl
  rw [e3] at h3
  obtain ⟨v4, r4, S4, T4, rfl, rfl, h4, q5⟩ := q4.step
  obtain ⟨c4, e4⟩ := h4.one rfl
  rw [e4] at h4
  obtain ⟨v5, r5, S5, T5, rfl, rfl, h5, q6⟩ := q5.step
  obtain ⟨_, rfl, rfl⟩ := q6
  have hsz : cs.length = 10 := hv.size
  simp only [Ty.size, Ty.sizes, Nat.reduceAdd, Nat.zero_add, List.drop_zero] at e0 e1 e2 e3 e4 hsz h5
  simp only [wt, wts] at hw
  refine WS_enter k25 rfl ?_
  simp (disch := omega) only [KC_eq, c25, e0, e1, e2, e3, e4, hsz, ifT, w64, RR, RP, Ty.agg, Ty.size, Ty.sizes, eq_self, ne_eq, not_true, not_false_iff, reduceCtorEq, List.length_cons, List.length_nil, decide_true, decide_false, true_and, and_true, ite_true, ite_false, PT.full, enter0, setAll, forget, Fr.set, Fr.get, PT.get, PT.set, kof, ai, ev, ev1, evp, b_add, b_sub, b_mul, b_quo, b_rem, b_eql, b_neq, b_lss, b_leq, b_gtr, b_geq, b_seql, b_sneq, setD, resV, resL, res1, args, List.take_zero, List.drop_zero, List.take_nil, List.take_succ_cons, List.drop_succ_cons, Nat.reduceAdd, Nat.reduceLeDiff, reduceIte, Bool.not_true, Bool.not_false, Bool.false_eq_true, CA_some, Option.some.injEq, Nat.zero_add, Nat.mul_one, Nat.add_zero, setL, List.set_cons_zero, List.set_cons_succ, fillC]
  refine WC_call (to_ByteS h3 (by omega)) ?_
  rintro r0 g0 ⟨t0, d0, U0, rfl, rfl, z0, o0, l0⟩
  obtain ⟨y0_0, rfl⟩ := z0.one rfl
  simp (disch := omega) only [KC_eq, c25, e0, e1, e2, e3, e4, hsz, ifT, w64, RR, RP, Ty.agg, Ty.size, Ty.sizes, eq_self, ne_eq, not_true, not_false_iff, reduceCtorEq, List.length_cons, List.length_nil, decide_true, decide_false, true_and, and_true, ite_true, ite_false, PT.full, enter0, setAll, forget, Fr.set, Fr.get, PT.get, PT.set, kof, ai, ev, ev1, evp, b_add, b_sub, b_mul, b_quo, b_rem, b_eql, b_neq, b_lss, b_leq, b_gtr, b_geq, b_seql, b_sneq, setD, resV, resL, res1, args, List.take_zero, List.drop_zero, List.take_nil, List.take_succ_cons, List.drop_succ_cons, Nat.reduceAdd, Nat.reduceLeDiff, reduceIte, Bool.not_true, Bool.not_false, Bool.false_eq_true, CA_some, Option.some.injEq, Nat.zero_add, Nat.mul_one, Nat.add_zero, setL, List.set_cons_zero, List.set_cons_succ, fillC]
  refine WC_call (to_ByteS (h4.app) (by omega)) ?_
  rintro r1 g1 ⟨t1, d1, U1, rfl, rfl, z1, o1, l1⟩
  obtain ⟨y1_0, rfl⟩ := z1.one rfl
  simp (disch := omega) only [KC_eq, c25, e0, e1, e2, e3, e4, hsz, ifT, w64, RR, RP, Ty.agg, Ty.size, Ty.sizes, eq_self, ne_eq, not_true, not_false_iff, reduceCtorEq, List.length_cons, List.length_nil, decide_true, decide_false, true_and, and_true, ite_true, ite_false, PT.full, enter0, setAll, forget, Fr.set, Fr.get, PT.get, PT.set, kof, ai, ev, ev1, evp, b_add, b_sub, b_mul, b_quo, b_rem, b_eql, b_neq, b_lss, b_leq, b_gtr, b_geq, b_seql, b_sneq, setD, resV, resL, res1, args, List.take_zero, List.drop_zero, List.take_nil, List.take_succ_cons, List.drop_succ_cons, Nat.reduceAdd, Nat.reduceLeDiff, reduceIte, Bool.not_true, Bool.not_false, Bool.false_eq_true, CA_some, Option.some.injEq, Nat.zero_add, Nat.mul_one, Nat.add_zero, setL, List.set_cons_zero, List.set_cons_succ, fillC]
  refine WC_call (to_Qc ((h5.app).app) (by omega)) ?_
  rintro r2 g2 ⟨t2, d2, U2, rfl, rfl, z2, o2, l2⟩
  obtain ⟨y2_0, y2_1, y2_2, y2_3, y2_4, rfl⟩ := len_5 z2.size
  simp (disch := omega) only [KC_eq, c25, e0, e1, e2, e3, e4, hsz, ifT, w64, RR, RP, Ty.agg, Ty.size, Ty.sizes, eq_self, ne_eq, not_true, not_false_iff, reduceCtorEq, List.length_cons, List.length_nil, decide_true, decide_false, true_and, and_true, ite_true, ite_false, PT.full, enter0, setAll, forget, Fr.set, Fr.get, PT.get, PT.set, kof, ai, ev, ev1, evp, b_add, b_sub, b_mul, b_quo, b_rem, b_eql, b_neq, b_lss, b_leq, b_gtr, b_geq, b_seql, b_sneq, setD, resV, resL, res1, args, List.take_zero, List.drop_zero, List.take_nil, List.take_succ_cons, List.drop_succ_cons, Nat.reduceAdd, Nat.reduceLeDiff, reduceIte, Bool.not_true, Bool.not_false, Bool.false_eq_true, CA_some, Option.some.injEq, Nat.zero_add, Nat.mul_one, Nat.add_zero, setL, List.set_cons_zero, List.set_cons_succ, fillC]
  refine ⟨(t0 ++ (t1 ++ t2)), _, _, by simp only [List.append_assoc], rfl, ⟨_, rfl, (Rs.mk (Rp.mkInt lo0 hi0) (Rs.mk (Rp.mkInt lo1 hi1) (Rs.mk (Rp.mkInt lo2 hi2) (Rs.mk ((z0.app).app) (Rs.mk (z1.app) (Rs.mk z2 Rs.nil))))))⟩, ?_⟩
  have fr := (Fre.step (Fre.step (Fre.step (Fre.nil h) z0.lt o0 l0) z1.lt o1 l1) z2.lt o2 l2)
  simpa only [List.nil_append, List.append_nil, List.append_assoc] using fr.both
/-- laws.toHeadS -/
def c95 : AF := ⟨1, 5, [.tmp 2], (.seq (.ops [.i (.mov 2 (.c (.val false [.nils])))]) (.seq (.ops [.i (.mov 5 (.s 0)), .i (.len 6 false (.s 5)), .i (.mks 7 35 10 160 [.int .i64 0, .int .i64 0, .int .i64 0, .nils, .nils, .int .i64 0, .int .i64 0, .nils, .nils, .nils] (.s 6)), .i (.mov 3 (.s 7))]) (.seq (.seq (.ops [.i (.mov 4 (.c (.val false [.int .i64 0])))]) (.block 0 (.loop [21, 20, 19, 18, 17, 16, 15, 14, 13, 12, 11, 10, 9, 8] (.seq (.seq (.ops [.i (.mov 8 (.s 4)), .i (.mov 9 (.s 0)), .i (.len 10 false (.s 9)), .i (.bin 11 .lss (.s 8) (.s 10))]) (.cond (.s 11) .skip (.exit 0))) (.seq (.block 1 (.ops [.i (.mov 14 (.s 3)), .i (.mov 15 (.s 4)), .i (.mov 16 (.s 0)), .i (.mov 17 (.s 4)), .i (.iad 18 (.s 16) (.s 17) 10), .i (.ldh 19 (.s 18) 10 true), .i (.call 21 25 false [(.s 19)]), .i (.iad 21 (.s 14) (.s 15) 10), .i (.sth (.s 21) (.s 20) 10)])) (.ops [.i (.mov 12 (.s 4)), .i (.bin 13 .add (.s 12) (.c (.val false [.int .i64 1]))), .i (.mov 4 (.s 13))])))))) (.seq (.ops [.i (.mov 22 (.s 3)), .i (.mov 2 (.s 22))]) .ret))))⟩
theorem k95 : cd 95 = some c95 := by kernel_rfl
theorem to_HeadS : ToOk cd 95 (.sl THead) := to_sl k95 (by omega) rfl to_Head
/-- laws.toForest -/
def c46 : AF := ⟨1, 4, [.cell 2 6 true], (.seq (.ops [.i (.lbox 1 (.s 0)), .i (.lal 2 [.int .i64 0, .int .i64 0, .int .i64 0, .int .i64 0, .int .i64 0, .nils])]) (.seq (.ops [.i (.lal 3 [.int .i64 0, .int .i64 0, .int .i64 0, .int .i64 0, .int .i64 0, .nils])]) (.seq (.ops [.i (.fad 4 (.s 1) 0), .i (.ldl 5 1 (.s 4) 5 true), .i (.call 7 24 false [(.s 5)]), .i (.fad 7 (.s 3) 0), .i (.stl 3 (.s 7) (.s 6) 5)]) (.seq (.ops [.i (.fad 8 (.s 1) 5), .i (.ldl 9 1 (.s 8) 1 false), .i (.call 11 95 false [(.s 9)]), .i (.fad 11 (.s 3) 5), .i (.stl 3 (.s 11) (.s 10) 1)]) (.seq (.ops [.i (.ldl 12 3 (.s 3) 6 true), .i (.stl 2 (.s 2) (.s 12) 6)]) .ret)))))⟩
theorem k46 : cd 46 = some c46 := by kernel_rfl
theorem to_Forest : ToOk cd 46 TForest := by
  intro h cs v S hv hw
  obtain ⟨vs, rfl, q0⟩ := hv.st
  obtain ⟨v0, r0, S0, T0, rfl, rfl, h0, q1⟩ := q0.step
  obtain ⟨v1, r1, S1, T1, rfl, rfl, h1, q2⟩ := q1.step
  obtain ⟨c1, e1⟩ := h1.one rfl
  rw [e1] at h1
  obtain ⟨_, rfl, rfl⟩ := q2
  have hsz : cs.length = 6 := hv.size
  simp only [Ty.size, Ty.sizes, Nat.reduceAdd, Nat.zero_add, List.drop_zero] at e1 hsz h0
  simp only [wt, wts] at hw
  refine WS_enter k46 rfl ?_
  simp (disch := omega) only [KC_eq, c46, e1, hsz, ifT, w64, RR, RP, Ty.agg, Ty.size, Ty.sizes, eq_self, ne_eq, not_true, not_false_iff, reduceCtorEq, List.length_cons, List.length_nil, decide_true, decide_false, true_and, and_true, ite_true, ite_false, PT.full, enter0, setAll, forget, Fr.set, Fr.get, PT.get, PT.set, kof, ai, ev, ev1, evp, b_add, b_sub, b_mul, b_quo, b_rem, b_eql, b_neq, b_lss, b_leq, b_gtr, b_geq, b_seql, b_sneq, setD, resV, resL, res1, args, List.take_zero, List.drop_zero, List.take_nil, List.take_succ_cons, List.drop_succ_cons, Nat.reduceAdd, Nat.reduceLeDiff, reduceIte, Bool.not_true, Bool.not_false, Bool.false_eq_true, CA_some, Option.some.injEq, Nat.zero_add, Nat.mul_one, Nat.add_zero, setL, List.set_cons_zero, List.set_cons_succ, fillC]
  refine WC_call (to_Limits h0 (by omega)) ?_
  rintro r0 g0 ⟨t0, d0, U0, rfl, rfl, z0, o0, l0⟩
  obtain ⟨y0_0, y0_1, y0_2, y0_3, y0_4, rfl⟩ := len_5 z0.size
  simp (disch := omega) only [KC_eq, c46, e1, hsz, ifT, w64, RR, RP, Ty.agg, Ty.size, Ty.sizes, eq_self, ne_eq, not_true, not_false_iff, reduceCtorEq, List.length_cons, List.length_nil, decide_true, decide_false, true_and, and_true, ite_true, ite_false, PT.full, enter0, setAll, forget, Fr.set, Fr.get, PT.get, PT.set, kof, ai, ev, ev1, evp, b_add, b_sub, b_mul, b_quo, b_rem, b_eql, b_neq, b_lss, b_leq, b_gtr, b_geq, b_seql, b_sneq, setD, resV, resL, res1, args, List.take_zero, List.drop_zero, List.take_nil, List.take_succ_cons, List.drop_succ_cons, Nat.reduceAdd, Nat.reduceLeDiff, reduceIte, Bool.not_true, Bool.not_false, Bool.false_eq_true, CA_some, Option.some.injEq, Nat.zero_add, Nat.mul_one, Nat.add_zero, setL, List.set_cons_zero, List.set_cons_succ, fillC]
  refine WC_call (to_HeadS (h1.app) (by omega)) ?_
  rintro r1 g1 ⟨t1, d1, U1, rfl, rfl, z1, o1, l1⟩
  obtain ⟨y1_0, rfl⟩ := z1.one rfl
  simp (disch := omega) only [KC_eq, c46, e1, hsz, ifT, w64, RR, RP, Ty.agg, Ty.size, Ty.sizes, eq_self, ne_eq, not_true, not_false_iff, reduceCtorEq, List.length_cons, List.length_nil, decide_true, decide_false, true_and, and_true, ite_true, ite_false, PT.full, enter0, setAll, forget, Fr.set, Fr.get, PT.get, PT.set, kof, ai, ev, ev1, evp, b_add, b_sub, b_mul, b_quo, b_rem, b_eql, b_neq, b_lss, b_leq, b_gtr, b_geq, b_seql, b_sneq, setD, resV, resL, res1, args, List.take_zero, List.drop_zero, List.take_nil, List.take_succ_cons, List.drop_succ_cons, Nat.reduceAdd, Nat.reduceLeDiff, reduceIte, Bool.not_true, Bool.not_false, Bool.false_eq_true, CA_some, Option.some.injEq, Nat.zero_add, Nat.mul_one, Nat.add_zero, setL, List.set_cons_zero, List.set_cons_succ, fillC]
  refine ⟨(t0 ++ t1), _, _, by simp only [List.append_assoc], rfl, ⟨_, rfl, (Rs.mk (z0.app) (Rs.mk z1 Rs.nil))⟩, ?_⟩
  have fr := (Fre.step (Fre.step (Fre.nil h) z0.lt o0 l0) z1.lt o1 l1)
  simpa only [List.nil_append, List.append_nil, List.append_assoc] using fr.both
/-- laws.eqLimits -/
def c109 : AF := ⟨2, 5, [.tmp 4], (.seq (.ops [.i (.lbox 2 (.s 0)), .i (.lbox 3 (.s 1)), .i (.mov 4 (.c (.val false [.bool false])))]) (.seq (.seq (.ops [.i (.fad 5 (.s 2) 0), .i (.ldl 6 2 (.s 5) 1 false), .i (.fad 7 (.s 3) 0), .i (.ldl 8 3 (.s 7) 1 false), .i (.bin 9 .neq (.s 6) (.s 8))]) (.cond (.s 9) (.seq (.ops [.i (.mov 4 (.c (.val false [.bool false])))]) .ret) .skip)) (.seq (.seq (.ops [.i (.fad 10 (.s 2) 1), .i (.ldl 11 2 (.s 10) 1 false), .i (.fad 12 (.s 3) 1), .i (.ldl 13 3 (.s 12) 1 false), .i (.bin 14 .neq (.s 11) (.s 13))]) (.cond (.s 14) (.seq (.ops [.i (.mov 4 (.c (.val false [.bool false])))]) .ret) .skip)) (.seq (.seq (.ops [.i (.fad 15 (.s 2) 2), .i (.ldl 16 2 (.s 15) 1 false), .i (.fad 17 (.s 3) 2), .i (.ldl 18 3 (.s 17) 1 false), .i (.bin 19 .neq (.s 16) (.s 18))]) (.cond (.s 19) (.seq (.ops [.i (.mov 4 (.c (.val false [.bool false])))]) .ret) .skip)) (.seq (.seq (.ops [.i (.fad 20 (.s 2) 3), .i (.ldl 21 2 (.s 20) 1 false), .i (.fad 22 (.s 3) 3), .i (.ldl 23 3 (.s 22) 1 false), .i (.bin 24 .neq (.s 21) (.s 23))]) (.cond (.s 24) (.seq (.ops [.i (.mov 4 (.c (.val false [.bool false])))]) .ret) .skip)) (.seq (.seq (.ops [.i (.fad 25 (.s 2) 4), .i (.ldl 26 2 (.s 25) 1 false), .i (.fad 27 (.s 3) 4), .i (.ldl 28 3 (.s 27) 1 false), .i (.bin 29 .neq (.s 26) (.s 28))]) (.cond (.s 29) (.seq (.ops [.i (.mov 4 (.c (.val false [.bool false])))]) .ret) .skip)) (.seq (.ops [.i (.mov 4 (.c (.val false [.bool true])))]) .ret)))))))⟩
theorem k109 : cd 109 = some c109 := by kernel_rfl
theorem eq_Limits : EqOk cd 109 TLimits := by
  intro h ca cb va vb Sa Sb ha hb
  obtain ⟨avs, rfl, aq0⟩ := ha.st
  obtain ⟨av0, ar0, aS0, aT0, rfl, rfl, ah0, aq1⟩ := aq0.step
  obtain ⟨an0, ae0, rfl, rfl, alo0, ahi0⟩ := ah0.int
  obtain ⟨av1, ar1, aS1, aT1, rfl, rfl, ah1, aq2⟩ := aq1.step
  obtain ⟨an1, ae1, rfl, rfl, alo1, ahi1⟩ := ah1.int
  obtain ⟨av2, ar2, aS2, aT2, rfl, rfl, ah2, aq3⟩ := aq2.step
  obtain ⟨an2, ae2, rfl, rfl, alo2, ahi2⟩ := ah2.int
  obtain ⟨av3, ar3, aS3, aT3, rfl, rfl, ah3, aq4⟩ := aq3.step
  obtain ⟨an3, ae3, rfl, rfl, alo3, ahi3⟩ := ah3.int
  obtain ⟨av4, ar4, aS4, aT4, rfl, rfl, ah4, aq5⟩ := aq4.step
  obtain ⟨an4, ae4, rfl, rfl, alo4, ahi4⟩ := ah4.int
  obtain ⟨_, rfl, rfl⟩ := aq5
  have ahsz : ca.length = 5 := ha.size
  obtain ⟨bvs, rfl, bq0⟩ := hb.st
  obtain ⟨bv0, br0, bS0, bT0, rfl, rfl, bh0, bq1⟩ := bq0.step
  obtain ⟨bn0, be0, rfl, rfl, blo0, bhi0⟩ := bh0.int
  obtain ⟨bv1, br1, bS1, bT1, rfl, rfl, bh1, bq2⟩ := bq1.step
  obtain ⟨bn1, be1, rfl, rfl, blo1, bhi1⟩ := bh1.int
  obtain ⟨bv2, br2, bS2, bT2, rfl, rfl, bh2, bq3⟩ := bq2.step
  obtain ⟨bn2, be2, rfl, rfl, blo2, bhi2⟩ := bh2.int
  obtain ⟨bv3, br3, bS3, bT3, rfl, rfl, bh3, bq4⟩ := bq3.step
  obtain ⟨bn3, be3, rfl, rfl, blo3, bhi3⟩ := bh3.int
  obtain ⟨bv4, br4, bS4, bT4, rfl, rfl, bh4, bq5⟩ := bq4.step
  obtain ⟨bn4, be4, rfl, rfl, blo4, bhi4⟩ := bh4.int
  obtain ⟨_, rfl, rfl⟩ := bq5
  have bhsz : cb.length = 5 := hb.size
  simp only [Ty.size, Ty.sizes, Nat.reduceAdd, Nat.zero_add, List.drop_zero] at ae0 ae1 ae2 ae3 ae4 ahsz be0 be1 be2 be3 be4 bhsz
  refine WS_enter k109 rfl ?_
  simp (disch := omega) only [KC_eq, c109, ae0, ae1, ae2, ae3, ae4, ahsz, be0, be1, be2, be3, be4, bhsz, ifT, w64, RR, RP, Ty.agg, Ty.size, Ty.sizes, eq_self, ne_eq, not_true, not_false_iff, reduceCtorEq, List.length_cons, List.length_nil, decide_true, decide_false, true_and, and_true, ite_true, ite_false, PT.full, enter0, setAll, forget, Fr.set, Fr.get, PT.get, PT.set, kof, ai, ev, ev1, evp, b_add, b_sub, b_mul, b_quo, b_rem, b_eql, b_neq, b_lss, b_leq, b_gtr, b_geq, b_seql, b_sneq, setD, resV, resL, res1, args, List.take_zero, List.drop_zero, List.take_nil, List.take_succ_cons, List.drop_succ_cons, Nat.reduceAdd, Nat.reduceLeDiff, reduceIte, Bool.not_true, Bool.not_false, Bool.false_eq_true, CA_some, Option.some.injEq, Nat.zero_add, Nat.mul_one, Nat.add_zero, setL, List.set_cons_zero, List.set_cons_succ, fillC]
  refine BR_dec (fun hn => ?_) (fun hn => ?_)
  case refine_1 =>
    simp (disch := omega) only [KC_eq, c109, ae0, ae1, ae2, ae3, ae4, ahsz, be0, be1, be2, be3, be4, bhsz, ifT, w64, RR, RP, Ty.agg, Ty.size, Ty.sizes, eq_self, ne_eq, not_true, not_false_iff, reduceCtorEq, List.length_cons, List.length_nil, decide_true, decide_false, true_and, and_true, ite_true, ite_false, PT.full, enter0, setAll, forget, Fr.set, Fr.get, PT.get, PT.set, kof, ai, ev, ev1, evp, b_add, b_sub, b_mul, b_quo, b_rem, b_eql, b_neq, b_lss, b_leq, b_gtr, b_geq, b_seql, b_sneq, setD, resV, resL, res1, args, List.take_zero, List.drop_zero, List.take_nil, List.take_succ_cons, List.drop_succ_cons, Nat.reduceAdd, Nat.reduceLeDiff, reduceIte, Bool.not_true, Bool.not_false, Bool.false_eq_true, CA_some, Option.some.injEq, Nat.zero_add, Nat.mul_one, Nat.add_zero, setL, List.set_cons_zero, List.set_cons_succ, fillC]
    simp [hn]
  have d0 : an0 = bn0 := by omega
  subst d0
  simp (disch := omega) only [KC_eq, c109, ae0, ae1, ae2, ae3, ae4, ahsz, be0, be1, be2, be3, be4, bhsz, ifT, w64, RR, RP, Ty.agg, Ty.size, Ty.sizes, eq_self, ne_eq, not_true, not_false_iff, reduceCtorEq, List.length_cons, List.length_nil, decide_true, decide_false, true_and, and_true, ite_true, ite_false, PT.full, enter0, setAll, forget, Fr.set, Fr.get, PT.get, PT.set, kof, ai, ev, ev1, evp, b_add, b_sub, b_mul, b_quo, b_rem, b_eql, b_neq, b_lss, b_leq, b_gtr, b_geq, b_seql, b_sneq, setD, resV, resL, res1, args, List.take_zero, List.drop_zero, List.take_nil, List.take_succ_cons, List.drop_succ_cons, Nat.reduceAdd, Nat.reduceLeDiff, reduceIte, Bool.not_true, Bool.not_false, Bool.false_eq_true, CA_some, Option.some.injEq, Nat.zero_add, Nat.mul_one, Nat.add_zero, setL, List.set_cons_zero, List.set_cons_succ, fillC]
  refine BR_dec (fun hn => ?_) (fun hn => ?_)
  case refine_1 =>
    simp (disch := omega) only [KC_eq, c109, ae0, ae1, ae2, ae3, ae4, ahsz, be0, be1, be2, be3, be4, bhsz, ifT, w64, RR, RP, Ty.agg, Ty.size, Ty.sizes, eq_self, ne_eq, not_true, not_false_iff, reduceCtorEq, List.length_cons, List.length_nil, decide_true, decide_false, true_and, and_true, ite_true, ite_false, PT.full, enter0, setAll, forget, Fr.set, Fr.get, PT.get, PT.set, kof, ai, ev, ev1, evp, b_add, b_sub, b_mul, b_quo, b_rem, b_eql, b_neq, b_lss, b_leq, b_gtr, b_geq, b_seql, b_sneq, setD, resV, resL, res1, args, List.take_zero, List.drop_zero, List.take_nil, List.take_succ_cons, List.drop_succ_cons, Nat.reduceAdd, Nat.reduceLeDiff, reduceIte, Bool.not_true, Bool.not_false, Bool.false_eq_true, CA_some, Option.some.injEq, Nat.zero_add, Nat.mul_one, Nat.add_zero, setL, List.set_cons_zero, List.set_cons_succ, fillC]
    simp [hn]
  have d1 : an1 = bn1 := by omega
  subst d1
  simp (disch := omega) only [KC_eq, c109, ae0, ae1, ae2, ae3, ae4, ahsz, be0, be1, be2, be3, be4, bhsz, ifT, w64, RR, RP, Ty.agg, Ty.size, Ty.sizes, eq_self, ne_eq, not_true, not_false_iff, reduceCtorEq, List.length_cons, List.length_nil, decide_true, decide_false, true_and, and_true, ite_true, ite_false, PT.full, enter0, setAll, forget, Fr.set, Fr.get, PT.get, PT.set, kof, ai, ev, ev1, evp, b_add, b_sub, b_mul, b_quo, b_rem, b_eql, b_neq, b_lss, b_leq, b_gtr, b_geq, b_seql, b_sneq, setD, resV, resL, res1, args, List.take_zero, List.drop_zero, List.take_nil, List.take_succ_cons, List.drop_succ_cons, Nat.reduceAdd, Nat.reduceLeDiff, reduceIte, Bool.not_true, Bool.not_false, Bool.false_eq_true, CA_some, Option.some.injEq, Nat.zero_add, Nat.mul_one, Nat.add_zero, setL, List.set_cons_zero, List.set_cons_succ, fillC]
  refine BR_dec (fun hn => ?_) (fun hn => ?_)
  case refine_1 =>
    simp (disch := omega) only [KC_eq, c109, ae0, ae1, ae2, ae3, ae4, ahsz, be0, be1, be2, be3, be4, bhsz, ifT, w64, RR, RP, Ty.agg, Ty.size, Ty.sizes, eq_self, ne_eq, not_true, not_false_iff, reduceCtorEq, List.length_cons, List.length_nil, decide_true, decide_false, true_and, and_true, ite_true, ite_false, PT.full, enter0, setAll, forget, Fr.set, Fr.get, PT.get, PT.set, kof, ai, ev, ev1, evp, b_add, b_sub, b_mul, b_quo, b_rem, b_eql, b_neq, b_lss, b_leq, b_gtr, b_geq, b_seql, b_sneq, setD, resV, resL, res1, args, List.take_zero, List.drop_zero, List.take_nil, List.take_succ_cons, List.drop_succ_cons, Nat.reduceAdd, Nat.reduceLeDiff, reduceIte, Bool.not_true, Bool.not_false, Bool.false_eq_true, CA_some, Option.some.injEq, Nat.zero_add, Nat.mul_one, Nat.add_zero, setL, List.set_cons_zero, List.set_cons_succ, fillC]
    simp [hn]
  have d2 : an2 = bn2 := by omega
  subst d2
  simp (disch := omega) only [KC_eq, c109, ae0, ae1, ae2, ae3, ae4, ahsz, be0, be1, be2, be3, be4, bhsz, ifT, w64, RR, RP, Ty.agg, Ty.size, Ty.sizes, eq_self, ne_eq, not_true, not_false_iff, reduceCtorEq, List.length_cons, List.length_nil, decide_true, decide_false, true_and, and_true, ite_true, ite_false, PT.full, enter0, setAll, forget, Fr.set, Fr.get, PT.get, PT.set, kof, ai, ev, ev1, evp, b_add, b_sub, b_mul, b_quo, b_rem, b_eql, b_neq, b_lss, b_leq, b_gtr, b_geq, b_seql, b_sneq, setD, resV, resL, res1, args, List.take_zero, List.drop_zero, List.take_nil, List.take_succ_cons, List.drop_succ_cons, Nat.reduceAdd, Nat.reduceLeDiff, reduceIte, Bool.not_true, Bool.not_false, Bool.false_eq_true, CA_some, Option.some.injEq, Nat.zero_add, Nat.mul_one, Nat.add_zero, setL, List.set_cons_zero, List.set_cons_succ, fillC]
  refine BR_dec (fun hn => ?_) (fun hn => ?_)
  case refine_1 =>
    simp (disch := omega) only [KC_eq, c109, ae0, ae1, ae2, ae3, ae4, ahsz, be0, be1, be2, be3, be4, bhsz, ifT, w64, RR, RP, Ty.agg, Ty.size, Ty.sizes, eq_self, ne_eq, not_true, not_false_iff, reduceCtorEq, List.length_cons, List.length_nil, decide_true, decide_false, true_and, and_true, ite_true, ite_false, PT.full, enter0, setAll, forget, Fr.set, Fr.get, PT.get, PT.set, kof, ai, ev, ev1, evp, b_add, b_sub, b_mul, b_quo, b_rem, b_eql, b_neq, b_lss, b_leq, b_gtr, b_geq, b_seql, b_sneq, setD, resV, resL, res1, args, List.take_zero, List.drop_zero, List.take_nil, List.take_succ_cons, List.drop_succ_cons, Nat.reduceAdd, Nat.reduceLeDiff, reduceIte, Bool.not_true, Bool.not_false, Bool.false_eq_true, CA_some, Option.some.injEq, Nat.zero_add, Nat.mul_one, Nat.add_zero, setL, List.set_cons_zero, List.set_cons_succ, fillC]
    simp [hn]
  have d3 : an3 = bn3 := by omega
  subst d3
  simp (disch := omega) only [KC_eq, c109, ae0, ae1, ae2, ae3, ae4, ahsz, be0, be1, be2, be3, be4, bhsz, ifT, w64, RR, RP, Ty.agg, Ty.size, Ty.sizes, eq_self, ne_eq, not_true, not_false_iff, reduceCtorEq, List.length_cons, List.length_nil, decide_true, decide_false, true_and, and_true, ite_true, ite_false, PT.full, enter0, setAll, forget, Fr.set, Fr.get, PT.get, PT.set, kof, ai, ev, ev1, evp, b_add, b_sub, b_mul, b_quo, b_rem, b_eql, b_neq, b_lss, b_leq, b_gtr, b_geq, b_seql, b_sneq, setD, resV, resL, res1, args, List.take_zero, List.drop_zero, List.take_nil, List.take_succ_cons, List.drop_succ_cons, Nat.reduceAdd, Nat.reduceLeDiff, reduceIte, Bool.not_true, Bool.not_false, Bool.false_eq_true, CA_some, Option.some.injEq, Nat.zero_add, Nat.mul_one, Nat.add_zero, setL, List.set_cons_zero, List.set_cons_succ, fillC]
  refine BR_dec (fun hn => ?_) (fun hn => ?_)
  case refine_1 =>
    simp (disch := omega) only [KC_eq, c109, ae0, ae1, ae2, ae3, ae4, ahsz, be0, be1, be2, be3, be4, bhsz, ifT, w64, RR, RP, Ty.agg, Ty.size, Ty.sizes, eq_self, ne_eq, not_true, not_false_iff, reduceCtorEq, List.length_cons, List.length_nil, decide_true, decide_false, true_and, and_true, ite_true, ite_false, PT.full, enter0, setAll, forget, Fr.set, Fr.get, PT.get, PT.set, kof, ai, ev, ev1, evp, b_add, b_sub, b_mul, b_quo, b_rem, b_eql, b_neq, b_lss, b_leq, b_gtr, b_geq, b_seql, b_sneq, setD, resV, resL, res1, args, List.take_zero, List.drop_zero, List.take_nil, List.take_succ_cons, List.drop_succ_cons, Nat.reduceAdd, Nat.reduceLeDiff, reduceIte, Bool.not_true, Bool.not_false, Bool.false_eq_true, CA_some, Option.some.injEq, Nat.zero_add, Nat.mul_one, Nat.add_zero, setL, List.set_cons_zero, List.set_cons_succ, fillC]
    simp [hn]
  have d4 : an4 = bn4 := by omega
  subst d4
  simp (disch := omega) only [KC_eq, c109, ae0, ae1, ae2, ae3, ae4, ahsz, be0, be1, be2, be3, be4, bhsz, ifT, w64, RR, RP, Ty.agg, Ty.size, Ty.sizes, eq_self, ne_eq, not_true, not_false_iff, reduceCtorEq, List.length_cons, List.length_nil, decide_true, decide_false, true_and, and_true, ite_true, ite_false, PT.full, enter0, setAll, forget, Fr.set, Fr.get, PT.get, PT.set, kof, ai, ev, ev1, evp, b_add, b_sub, b_mul, b_quo, b_rem, b_eql, b_neq, b_lss, b_leq, b_gtr, b_geq, b_seql, b_sneq, setD, resV, resL, res1, args, List.take_zero, List.drop_zero, List.take_nil, List.take_succ_cons, List.drop_succ_cons, Nat.reduceAdd, Nat.reduceLeDiff, reduceIte, Bool.not_true, Bool.not_false, Bool.false_eq_true, CA_some, Option.some.injEq, Nat.zero_add, Nat.mul_one, Nat.add_zero, setL, List.set_cons_zero, List.set_cons_succ, fillC]
/-- laws.eqByteS -/
def c50 : AF := ⟨2, 5, [.tmp 4], (.seq (.ops [.i (.mov 4 (.c (.val false [.bool false])))]) (.seq (.seq (.ops [.i (.mov 6 (.s 0)), .i (.len 7 false (.s 6)), .i (.mov 8 (.s 1)), .i (.len 9 false (.s 8)), .i (.bin 10 .neq (.s 7) (.s 9))]) (.cond (.s 10) (.seq (.ops [.i (.mov 4 (.c (.val false [.bool false])))]) .ret) .skip)) (.seq (.seq (.ops [.i (.mov 5 (.c (.val false [.int .i64 0])))]) (.block 0 (.loop [25, 24, 23, 22, 21, 20, 19, 18, 17, 16, 15, 14, 13, 12, 11] (.seq (.seq (.ops [.i (.mov 11 (.s 5)), .i (.mov 12 (.s 0)), .i (.len 13 false (.s 12)), .i (.bin 14 .lss (.s 11) (.s 13))]) (.cond (.s 14) .skip (.exit 0))) (.seq (.block 1 (.seq (.ops [.i (.mov 17 (.s 0)), .i (.mov 18 (.s 5)), .i (.iad 19 (.s 17) (.s 18) 1), .i (.ldh 20 (.s 19) 1 false), .i (.mov 21 (.s 1)), .i (.mov 22 (.s 5)), .i (.iad 23 (.s 21) (.s 22) 1), .i (.ldh 24 (.s 23) 1 false), .i (.bin 25 .neq (.s 20) (.s 24))]) (.cond (.s 25) (.seq (.ops [.i (.mov 4 (.c (.val false [.bool false])))]) .ret) .skip))) (.ops [.i (.mov 15 (.s 5)), .i (.bin 16 .add (.s 15) (.c (.val false [.int .i64 1]))), .i (.mov 5 (.s 16))])))))) (.seq (.ops [.i (.mov 4 (.c (.val false [.bool true])))]) .ret))))⟩
theorem k50 : cd 50 = some c50 := by kernel_rfl
theorem eq_ByteS : EqOk cd 50 (.sl (.int .u8)) := eq_leaf k50
/-- laws.eqByteSS -/
def c29 : AF := ⟨2, 5, [.tmp 4], (.seq (.ops [.i (.mov 4 (.c (.val false [.bool false])))]) (.seq (.seq (.ops [.i (.mov 6 (.s 0)), .i (.len 7 false (.s 6)), .i (.mov 8 (.s 1)), .i (.len 9 false (.s 8)), .i (.bin 10 .neq (.s 7) (.s 9))]) (.cond (.s 10) (.seq (.ops [.i (.mov 4 (.c (.val false [.bool false])))]) .ret) .skip)) (.seq (.seq (.ops [.i (.mov 5 (.c (.val false [.int .i64 0])))]) (.block 0 (.loop [26, 25, 24, 23, 22, 21, 20, 19, 18, 17, 16, 15, 14, 13, 12, 11] (.seq (.seq (.ops [.i (.mov 11 (.s 5)), .i (.mov 12 (.s 0)), .i (.len 13 false (.s 12)), .i (.bin 14 .lss (.s 11) (.s 13))]) (.cond (.s 14) .skip (.exit 0))) (.seq (.block 1 (.seq (.ops [.i (.mov 17 (.s 0)), .i (.mov 18 (.s 5)), .i (.iad 19 (.s 17) (.s 18) 1), .i (.ldh 20 (.s 19) 1 false), .i (.mov 21 (.s 1)), .i (.mov 22 (.s 5)), .i (.iad 23 (.s 21) (.s 22) 1), .i (.ldh 24 (.s 23) 1 false), .i (.call 26 50 false [(.s 20), (.s 24)]), .i (.not 26 (.s 25))]) (.cond (.s 26) (.seq (.ops [.i (.mov 4 (.c (.val false [.bool false])))]) .ret) .skip))) (.ops [.i (.mov 15 (.s 5)), .i (.bin 16 .add (.s 15) (.c (.val false [.int .i64 1]))), .i (.mov 5 (.s 16))])))))) (.seq (.ops [.i (.mov 4 (.c (.val false [.bool true])))]) .ret))))⟩
theorem k29 : cd 29 = some c29 := by kernel_rfl
theorem eq_ByteSS : EqOk cd 29 (.sl (.sl (.int .u8))) := eq_sl k29 eq_ByteS
/-- laws.eqQc -/
def c69 : AF := ⟨2, 6, [.tmp 4], (.seq (.ops [.i (.lbox 2 (.s 0)), .i (.lbox 3 (.s 1)), .i (.mov 4 (.c (.val false [.bool false])))]) (.seq (.seq (.ops [.i (.fad 5 (.s 2) 0), .i (.ldl 6 2 (.s 5) 1 false), .i (.fad 7 (.s 3) 0), .i (.ldl 8 3 (.s 7) 1 false), .i (.bin 9 .neq (.s 6) (.s 8))]) (.cond (.s 9) (.seq (.ops [.i (.mov 4 (.c (.val false [.bool false])))]) .ret) .skip)) (.seq (.seq (.ops [.i (.fad 10 (.s 2) 1), .i (.ldl 11 2 (.s 10) 1 false), .i (.fad 12 (.s 3) 1), .i (.ldl 13 3 (.s 12) 1 false), .i (.bin 14 .neq (.s 11) (.s 13))]) (.cond (.s 14) (.seq (.ops [.i (.mov 4 (.c (.val false [.bool false])))]) .ret) .skip)) (.seq (.seq (.ops [.i (.fad 15 (.s 2) 2), .i (.ldl 16 2 (.s 15) 1 false), .i (.fad 17 (.s 3) 2), .i (.ldl 18 3 (.s 17) 1 false), .i (.call 20 50 false [(.s 16), (.s 18)]), .i (.not 20 (.s 19))]) (.cond (.s 20) (.seq (.ops [.i (.mov 4 (.c (.val false [.bool false])))]) .ret) .skip)) (.seq (.seq (.ops [.i (.fad 21 (.s 2) 3), .i (.ldl 22 2 (.s 21) 1 false), .i (.fad 23 (.s 3) 3), .i (.ldl 24 3 (.s 23) 1 false), .i (.call 26 50 false [(.s 22), (.s 24)]), .i (.not 26 (.s 25))]) (.cond (.s 26) (.seq (.ops [.i (.mov 4 (.c (.val false [.bool false])))]) .ret) .skip)) (.seq (.seq (.ops [.i (.fad 27 (.s 2) 4), .i (.ldl 28 2 (.s 27) 1 false), .i (.fad 29 (.s 3) 4), .i (.ldl 30 3 (.s 29) 1 false), .i (.call 32 29 false [(.s 28), (.s 30)]), .i (.not 32 (.s 31))]) (.cond (.s 32) (.seq (.ops [.i (.mov 4 (.c (.val false [.bool false])))]) .ret) .skip)) (.seq (.ops [.i (.mov 4 (.c (.val false [.bool true])))]) .ret)))))))⟩
theorem k69 : cd 69 = some c69 := by kernel_rfl
theorem eq_Qc : EqOk cd 69 TQc := by
  intro h ca cb va vb Sa Sb ha hb
  obtain ⟨avs, rfl, aq0⟩ := ha.st
  obtain ⟨av0, ar0, aS0, aT0, rfl, rfl, ah0, aq1⟩ := aq0.step
  obtain ⟨an0, ae0, rfl, rfl, alo0, ahi0⟩ := ah0.int
  obtain ⟨av1, ar1, aS1, aT1, rfl, rfl, ah1, aq2⟩ := aq1.step
  obtain ⟨an1, ae1, rfl, rfl, alo1, ahi1⟩ := ah1.int
  obtain ⟨av2, ar2, aS2, aT2, rfl, rfl, ah2, aq3⟩ := aq2.step
  obtain ⟨ac2, ae2⟩ := ah2.one rfl
  rw [ae2] at ah2
  obtain ⟨av3, ar3, aS3, aT3, rfl, rfl, ah3, aq4⟩ := aq3.step
  obtain ⟨ac3, ae3⟩ := ah3.one rfl
  rw [ae3] at ah3
  obtain ⟨av4, ar4, aS4, aT4, rfl, rfl, ah4, aq5⟩ := aq4.step
  obtain ⟨ac4, ae4⟩ := ah4.one rfl
  rw [ae4] at ah4
  obtain ⟨_, rfl, rfl⟩ := aq5
  have ahsz : ca.length = 5 := ha.size
  obtain ⟨bvs, rfl, bq0⟩ := hb.st
  obtain ⟨bv0, br0, bS0, bT0, rfl, rfl, bh0, bq1⟩ := bq0.step
  obtain ⟨bn0, be0, rfl, rfl, blo0, bhi0⟩ := bh0.int
  obtain ⟨bv1, br1, bS1, bT1, rfl, rfl, bh1, bq2⟩ := bq1.step
  obtain ⟨bn1, be1, rfl, rfl, blo1, bhi1⟩ := bh1.int
  obtain ⟨bv2, br2, bS2, bT2, rfl, rfl, bh2, bq3⟩ := bq2.step
  obtain ⟨bc2, be2⟩ := bh2.one rfl
  rw [be2] at bh2
  obtain ⟨bv3, br3, bS3, bT3, rfl, rfl, bh3, bq4⟩ := bq3.step
  obtain ⟨bc3, be3⟩ := bh3.one rfl
  rw [be3] at bh3
  obtain ⟨bv4, br4, bS4, bT4, rfl, rfl, bh4, bq5⟩ := bq4.step
  obtain ⟨bc4, be4⟩ := bh4.one rfl
  rw [be4] at bh4
  obtain ⟨_, rfl, rfl⟩ := bq5
  have bhsz : cb.length = 5 := hb.size
  simp only [Ty.size, Ty.sizes, Nat.reduceAdd, Nat.zero_add, List.drop_zero] at ae0 ae1 ae2 ae3 ae4 ahsz be0 be1 be2 be3 be4 bhsz
  refine WS_enter k69 rfl ?_
  simp (disch := omega) only [KC_eq, c69, ae0, ae1, ae2, ae3, ae4, ahsz, be0, be1, be2, be3, be4, bhsz, ifT, w64, RR, RP, Ty.agg, Ty.size, Ty.sizes, eq_self, ne_eq, not_true, not_false_iff, reduceCtorEq, List.length_cons, List.length_nil, decide_true, decide_false, true_and, and_true, ite_true, ite_false, PT.full, enter0, setAll, forget, Fr.set, Fr.get, PT.get, PT.set, kof, ai, ev, ev1, evp, b_add, b_sub, b_mul, b_quo, b_rem, b_eql, b_neq, b_lss, b_leq, b_gtr, b_geq, b_seql, b_sneq, setD, resV, resL, res1, args, List.take_zero, List.drop_zero, List.take_nil, List.take_succ_cons, List.drop_succ_cons, Nat.reduceAdd, Nat.reduceLeDiff, reduceIte, Bool.not_true, Bool.not_false, Bool.false_eq_true, CA_some, Option.some.injEq, Nat.zero_add, Nat.mul_one, Nat.add_zero, setL, List.set_cons_zero, List.set_cons_succ, fillC]
  refine BR_dec (fun hn => ?_) (fun hn => ?_)
  case refine_1 =>
    simp (disch := omega) only [KC_eq, c69, ae0, ae1, ae2, ae3, ae4, ahsz, be0, be1, be2, be3, be4, bhsz, ifT, w64, RR, RP, Ty.agg, Ty.size, Ty.sizes, eq_self, ne_eq, not_true, not_false_iff, reduceCtorEq, List.length_cons, List.length_nil, decide_true, decide_false, true_and, and_true, ite_true, ite_false, PT.full, enter0, setAll, forget, Fr.set, Fr.get, PT.get, PT.set, kof, ai, ev, ev1, evp, b_add, b_sub, b_mul, b_quo, b_rem, b_eql, b_neq, b_lss, b_leq, b_gtr, b_geq, b_seql, b_sneq, setD, resV, resL, res1, args, List.take_zero, List.drop_zero, List.take_nil, List.take_succ_cons, List.drop_succ_cons, Nat.reduceAdd, Nat.reduceLeDiff, reduceIte, Bool.not_true, Bool.not_false, Bool.false_eq_true, CA_some, Option.some.injEq, Nat.zero_add, Nat.mul_one, Nat.add_zero, setL, List.set_cons_zero, List.set_cons_succ, fillC]
    simp [hn]
  have d0 : an0 = bn0 := by omega
  subst d0
  simp (disch := omega) only [KC_eq, c69, ae0, ae1, ae2, ae3, ae4, ahsz, be0, be1, be2, be3, be4, bhsz, ifT, w64, RR, RP, Ty.agg, Ty.size, Ty.sizes, eq_self, ne_eq, not_true, not_false_iff, reduceCtorEq, List.length_cons, List.length_nil, decide_true, decide_false, true_and, and_true, ite_true, ite_false, PT.full, enter0, setAll, forget, Fr.set, Fr.get, PT.get, PT.set, kof, ai, ev, ev1, evp, b_add, b_sub, b_mul, b_quo, b_rem, b_eql, b_neq, b_lss, b_leq, b_gtr, b_geq, b_seql, b_sneq, setD, resV, resL, res1, args, List.take_zero, List.drop_zero, List.take_nil, List.take_succ_cons, List.drop_succ_cons, Nat.reduceAdd, Nat.reduceLeDiff, reduceIte, Bool.not_true, Bool.not_false, Bool.false_eq_true, CA_some, Option.some.injEq, Nat.zero_add, Nat.mul_one, Nat.add_zero, setL, List.set_cons_zero, List.set_cons_succ, fillC]
  refine BR_dec (fun hn => ?_) (fun hn => ?_)
  case refine_1 =>
    simp (disch := omega) only [KC_eq, c69, ae0, ae1, ae2, ae3, ae4, ahsz, be0, be1, be2, be3, be4, bhsz, ifT, w64, RR, RP, Ty.agg, Ty.size, Ty.sizes, eq_self, ne_eq, not_true, not_false_iff, reduceCtorEq, List.length_cons, List.length_nil, decide_true, decide_false, true_and, and_true, ite_true, ite_false, PT.full, enter0, setAll, forget, Fr.set, Fr.get, PT.get, PT.set, kof, ai, ev, ev1, evp, b_add, b_sub, b_mul, b_quo, b_rem, b_eql, b_neq, b_lss, b_leq, b_gtr, b_geq, b_seql, b_sneq, setD, resV, resL, res1, args, List.take_zero, List.drop_zero, List.take_nil, List.take_succ_cons, List.drop_succ_cons, Nat.reduceAdd, Nat.reduceLeDiff, reduceIte, Bool.not_true, Bool.not_false, Bool.false_eq_true, CA_some, Option.some.injEq, Nat.zero_add, Nat.mul_one, Nat.add_zero, setL, List.set_cons_zero, List.set_cons_succ, fillC]
    simp [hn]
  have d1 : an1 = bn1 := by omega
  subst d1
  simp (disch := omega) only [KC_eq, c69, ae0, ae1, ae2, ae3, ae4, ahsz, be0, be1, be2, be3, be4, bhsz, ifT, w64, RR, RP, Ty.agg, Ty.size, Ty.sizes, eq_self, ne_eq, not_true, not_false_iff, reduceCtorEq, List.length_cons, List.length_nil, decide_true, decide_false, true_and, and_true, ite_true, ite_false, PT.full, enter0, setAll, forget, Fr.set, Fr.get, PT.get, PT.set, kof, ai, ev, ev1, evp, b_add, b_sub, b_mul, b_quo, b_rem, b_eql, b_neq, b_lss, b_leq, b_gtr, b_geq, b_seql, b_sneq, setD, resV, resL, res1, args, List.take_zero, List.drop_zero, List.take_nil, List.take_succ_cons, List.drop_succ_cons, Nat.reduceAdd, Nat.reduceLeDiff, reduceIte, Bool.not_true, Bool.not_false, Bool.false_eq_true, CA_some, Option.some.injEq, Nat.zero_add, Nat.mul_one, Nat.add_zero, setL, List.set_cons_zero, List.set_cons_succ, fillC]
  refine EqOk.go eq_ByteS ah2 bh2 (fun d2 => ?_) (fun d2 => ?_)
  case refine_2 =>
    simp (disch := omega) only [KC_eq, c69, ae0, ae1, ae2, ae3, ae4, ahsz, be0, be1, be2, be3, be4, bhsz, ifT, w64, RR, RP, Ty.agg, Ty.size, Ty.sizes, eq_self, ne_eq, not_true, not_false_iff, reduceCtorEq, List.length_cons, List.length_nil, decide_true, decide_false, true_and, and_true, ite_true, ite_false, PT.full, enter0, setAll, forget, Fr.set, Fr.get, PT.get, PT.set, kof, ai, ev, ev1, evp, b_add, b_sub, b_mul, b_quo, b_rem, b_eql, b_neq, b_lss, b_leq, b_gtr, b_geq, b_seql, b_sneq, setD, resV, resL, res1, args, List.take_zero, List.drop_zero, List.take_nil, List.take_succ_cons, List.drop_succ_cons, Nat.reduceAdd, Nat.reduceLeDiff, reduceIte, Bool.not_true, Bool.not_false, Bool.false_eq_true, CA_some, Option.some.injEq, Nat.zero_add, Nat.mul_one, Nat.add_zero, setL, List.set_cons_zero, List.set_cons_succ, fillC]
    simp [d2]
  subst d2
  simp (disch := omega) only [KC_eq, c69, ae0, ae1, ae2, ae3, ae4, ahsz, be0, be1, be2, be3, be4, bhsz, ifT, w64, RR, RP, Ty.agg, Ty.size, Ty.sizes, eq_self, ne_eq, not_true, not_false_iff, reduceCtorEq, List.length_cons, List.length_nil, decide_true, decide_false, true_and, and_true, ite_true, ite_false, PT.full, enter0, setAll, forget, Fr.set, Fr.get, PT.get, PT.set, kof, ai, ev, ev1, evp, b_add, b_sub, b_mul, b_quo, b_rem, b_eql, b_neq, b_lss, b_leq, b_gtr, b_geq, b_seql, b_sneq, setD, resV, resL, res1, args, List.take_zero, List.drop_zero, List.take_nil, List.take_succ_cons, List.drop_succ_cons, Nat.reduceAdd, Nat.reduceLeDiff, reduceIte, Bool.not_true, Bool.not_false, Bool.false_eq_true, CA_some, Option.some.injEq, Nat.zero_add, Nat.mul_one, Nat.add_zero, setL, List.set_cons_zero, List.set_cons_succ, fillC]
  refine EqOk.go eq_ByteS ah3 bh3 (fun d3 => ?_) (fun d3 => ?_)
  case refine_2 =>
    simp (disch := omega) only [KC_eq, c69, ae0, ae1, ae2, ae3, ae4, ahsz, be0, be1, be2, be3, be4, bhsz, ifT, w64, RR, RP, Ty.agg, Ty.size, Ty.sizes, eq_self, ne_eq, not_true, not_false_iff, reduceCtorEq, List.length_cons, List.length_nil, decide_true, decide_false, true_and, and_true, ite_true, ite_false, PT.full, enter0, setAll, forget, Fr.set, Fr.get, PT.get, PT.set, kof, ai, ev, ev1, evp, b_add, b_sub, b_mul, b_quo, b_rem, b_eql, b_neq, b_lss, b_leq, b_gtr, b_geq, b_seql, b_sneq, setD, resV, resL, res1, args, List.take_zero, List.drop_zero, List.take_nil, List.take_succ_cons, List.drop_succ_cons, Nat.reduceAdd, Nat.reduceLeDiff, reduceIte, Bool.not_true, Bool.not_false, Bool.false_eq_true, CA_some, Option.some.injEq, Nat.zero_add, Nat.mul_one, Nat.add_zero, setL, List.set_cons_zero, List.set_cons_succ, fillC]
    simp [d3]
  subst d3
  simp (disch := omega) only [KC_eq, c69, ae0, ae1, ae2, ae3, ae4, ahsz, be0, be1, be2, be3, be4, bhsz, ifT, w64, RR, RP, Ty.agg, Ty.size, Ty.sizes, eq_self, ne_eq, not_true, not_false_iff, reduceCtorEq, List.length_cons, List.length_nil, decide_true, decide_false, true_and, and_true, ite_true, ite_false, PT.full, enter0, setAll, forget, Fr.set, Fr.get, PT.get, PT.set, kof, ai, ev, ev1, evp, b_add, b_sub, b_mul, b_quo, b_rem, b_eql, b_neq, b_lss, b_leq, b_gtr, b_geq, b_seql, b_sneq, setD, resV, resL, res1, args, List.take_zero, List.drop_zero, List.take_nil, List.take_succ_cons, List.drop_succ_cons, Nat.reduceAdd, Nat.reduceLeDiff, reduceIte, Bool.not_true, Bool.not_false, Bool.false_eq_true, CA_some, Option.some.injEq, Nat.zero_add, Nat.mul_one, Nat.add_zero, setL, List.set_cons_zero, List.set_cons_succ, fillC]
  refine EqOk.go eq_ByteSS ah4 bh4 (fun d4 => ?_) (fun d4 => ?_)
  case refine_2 =>
    simp (disch := omega) only [KC_eq, c69, ae0, ae1, ae2, ae3, ae4, ahsz, be0, be1, be2, be3, be4, bhsz, ifT, w64, RR, RP, Ty.agg, Ty.size, Ty.sizes, eq_self, ne_eq, not_true, not_false_iff, reduceCtorEq, List.length_cons, List.length_nil, decide_true, decide_false, true_and, and_true, ite_true, ite_false, PT.full, enter0, setAll, forget, Fr.set, Fr.get, PT.get, PT.set, kof, ai, ev, ev1, evp, b_add, b_sub, b_mul, b_quo, b_rem, b_eql, b_neq, b_lss, b_leq, b_gtr, b_geq, b_seql, b_sneq, setD, resV, resL, res1, args, List.take_zero, List.drop_zero, List.take_nil, List.take_succ_cons, List.drop_succ_cons, Nat.reduceAdd, Nat.reduceLeDiff, reduceIte, Bool.not_true, Bool.not_false, Bool.false_eq_true, CA_some, Option.some.injEq, Nat.zero_add, Nat.mul_one, Nat.add_zero, setL, List.set_cons_zero, List.set_cons_succ, fillC]
    simp [d4]
  subst d4
  simp (disch := omega) only [KC_eq, c69, ae0, ae1, ae2, ae3, ae4, ahsz, be0, be1, be2, be3, be4, bhsz, ifT, w64, RR, RP, Ty.agg, Ty.size, Ty.sizes, eq_self, ne_eq, not_true, not_false_iff, reduceCtorEq, List.length_cons, List.length_nil, decide_true, decide_false, true_and, and_true, ite_true, ite_false, PT.full, enter0, setAll, forget, Fr.set, Fr.get, PT.get, PT.set, kof, ai, ev, ev1, evp, b_add, b_sub, b_mul, b_quo, b_rem, b_eql, b_neq, b_lss, b_leq, b_gtr, b_geq, b_seql, b_sneq, setD, resV, resL, res1, args, List.take_zero, List.drop_zero, List.take_nil, List.take_succ_cons, List.drop_succ_cons, Nat.reduceAdd, Nat.reduceLeDiff, reduceIte, Bool.not_true, Bool.not_false, Bool.false_eq_true, CA_some, Option.some.injEq, Nat.zero_add, Nat.mul_one, Nat.add_zero, setL, List.set_cons_zero, List.set_cons_succ, fillC]
/-- laws.eqHead -/
def c28 : AF := ⟨2, 6, [.tmp 4], (.seq (.ops [.i (.lbox 2 (.s 0)), .i (.lbox 3 (.s 1)), .i (.mov 4 (.c (.val false [.bool false])))]) (.seq (.seq (.ops [.i (.fad 5 (.s 2) 0), .i (.ldl 6 2 (.s 5) 1 false), .i (.fad 7 (.s 3) 0), .i (.ldl 8 3 (.s 7) 1 false), .i (.bin 9 .neq (.s 6) (.s 8))]) (.cond (.s 9) (.seq (.ops [.i (.mov 4 (.c (.val false [.bool false])))]) .ret) .skip)) (.seq (.seq (.ops [.i (.fad 10 (.s 2) 1), .i (.ldl 11 2 (.s 10) 1 false), .i (.fad 12 (.s 3) 1), .i (.ldl 13 3 (.s 12) 1 false), .i (.bin 14 .neq (.s 11) (.s 13))]) (.cond (.s 14) (.seq (.ops [.i (.mov 4 (.c (.val false [.bool false])))]) .ret) .skip)) (.seq (.seq (.ops [.i (.fad 15 (.s 2) 2), .i (.ldl 16 2 (.s 15) 1 false), .i (.fad 17 (.s 3) 2), .i (.ldl 18 3 (.s 17) 1 false), .i (.bin 19 .neq (.s 16) (.s 18))]) (.cond (.s 19) (.seq (.ops [.i (.mov 4 (.c (.val false [.bool false])))]) .ret) .skip)) (.seq (.seq (.ops [.i (.fad 20 (.s 2) 3), .i (.ldl 21 2 (.s 20) 1 false), .i (.fad 22 (.s 3) 3), .i (.ldl 23 3 (.s 22) 1 false), .i (.call 25 50 false [(.s 21), (.s 23)]), .i (.not 25 (.s 24))]) (.cond (.s 25) (.seq (.ops [.i (.mov 4 (.c (.val false [.bool false])))]) .ret) .skip)) (.seq (.seq (.ops [.i (.fad 26 (.s 2) 4), .i (.ldl 27 2 (.s 26) 1 false), .i (.fad 28 (.s 3) 4), .i (.ldl 29 3 (.s 28) 1 false), .i (.call 31 50 false [(.s 27), (.s 29)]), .i (.not 31 (.s 30))]) (.cond (.s 31) (.seq (.ops [.i (.mov 4 (.c (.val false [.bool false])))]) .ret) .skip)) (.seq (.seq (.ops [.i (.fad 32 (.s 2) 5), .i (.ldl 33 2 (.s 32) 5 true), .i (.fad 34 (.s 3) 5), .i (.ldl 35 3 (.s 34) 5 true), .i (.call 37 69 false [(.s 33), (.s 35)]), .i (.not 37 (.s 36))]) (.cond (.s 37) (.seq (.ops [.i (.mov 4 (.c (.val false [.bool false])))]) .ret) .skip)) (.seq (.ops [.i (.mov 4 (.c (.val false [.bool true])))]) .ret))))))))⟩
theorem k28 : cd 28 = some c28 := by kernel_rfl
theorem eq_Head : EqOk cd 28 THead := by
  intro h ca cb va vb Sa Sb ha hb
  obtain ⟨avs, rfl, aq0⟩ := ha.st
  obtain ⟨av0, ar0, aS0, aT0, rfl, rfl, ah0, aq1⟩ := aq0.step
  obtain ⟨an0, ae0, rfl, rfl, alo0, ahi0⟩ := ah0.int
  obtain ⟨av1, ar1, aS1, aT1, rfl, rfl, ah1, aq2⟩ := aq1.step
  obtain ⟨an1, ae1, rfl, rfl, alo1, ahi1⟩ := ah1.int
  obtain ⟨av2, ar2, aS2, aT2, rfl, rfl, ah2, aq3⟩ := aq2.step
  obtain ⟨an2, ae2, rfl, rfl, alo2, ahi2⟩ := ah2.int
  obtain ⟨av3, ar3, aS3, aT3, rfl, rfl, ah3, aq4⟩ := aq3.step
  obtain ⟨ac3, ae3⟩ := ah3.one rfl
  rw [ae3] at ah3
  obtain ⟨av4, ar4, aS4, aT4, rfl, rfl, ah4, aq5⟩ := aq4.step
  obtain ⟨ac4, ae4⟩ := ah4.one rfl
  rw [ae4] at ah4
  obtain ⟨av5, ar5, aS5, aT5, rfl, rfl, ah5, aq6⟩ := aq5.step
  obtain ⟨_, rfl, rfl⟩ := aq6
  have ahsz : ca.length = 10 := ha.size
  obtain ⟨bvs, rfl, bq0⟩ := hb.st
  obtain ⟨bv0, br0, bS0, bT0, rfl, rfl, bh0, bq1⟩ := bq0.step
  obtain ⟨bn0, be0, rfl, rfl, blo0, bhi0⟩ := bh0.int
  obtain ⟨bv1, br1, bS1, bT1, rfl, rfl, bh1, bq2⟩ := bq1.step
  obtain ⟨bn1, be1, rfl, rfl, blo1, bhi1⟩ := bh1.int
  obtain ⟨bv2, br2, bS2, bT2, rfl, rfl, bh2, bq3⟩ := bq2.step
  obtain ⟨bn2, be2, rfl, rfl, blo2, bhi2⟩ := bh2.int
  obtain ⟨bv3, br3, bS3, bT3, rfl, rfl, bh3, bq4⟩ := bq3.step
  obtain ⟨bc3, be3⟩ := bh3.one rfl
  rw [be3] at bh3
  obtain ⟨bv4, br4, bS4, bT4, rfl, rfl, bh4, bq5⟩ := bq4.step
  obtain ⟨bc4, be4⟩ := bh4.one rfl
  rw [be4] at bh4
  obtain ⟨bv5, br5, bS5, bT5, rfl, rfl, bh5, bq6⟩ := bq5.step
  obtain ⟨_, rfl, rfl⟩ := bq6
  have bhsz : cb.length = 10 := hb.size
  simp only [Ty.size, Ty.sizes, Nat.reduceAdd, Nat.zero_add, List.drop_zero] at ae0 ae1 ae2 ae3 ae4 ahsz be0 be1 be2 be3 be4 bhsz ah5 bh5
  refine WS_enter k28 rfl ?_
  simp (disch := omega) only [KC_eq, c28, ae0, ae1, ae2, ae3, ae4, ahsz, be0, be1, be2, be3, be4, bhsz, ifT, w64, RR, RP, Ty.agg, Ty.size, Ty.sizes, eq_self, ne_eq, not_true, not_false_iff, reduceCtorEq, List.length_cons, List.length_nil, decide_true, decide_false, true_and, and_true, ite_true, ite_false, PT.full, enter0, setAll, forget, Fr.set, Fr.get, PT.get, PT.set, kof, ai, ev, ev1, evp, b_add, b_sub, b_mul, b_quo, b_rem, b_eql, b_neq, b_lss, b_leq, b_gtr, b_geq, b_seql, b_sneq, setD, resV, resL, res1, args, List.take_zero, List.drop_zero, List.take_nil, List.take_succ_cons, List.drop_succ_cons, Nat.reduceAdd, Nat.reduceLeDiff, reduceIte, Bool.not_true, Bool.not_false, Bool.false_eq_true, CA_some, Option.some.injEq, Nat.zero_add, Nat.mul_one, Nat.add_zero, setL, List.set_cons_zero, List.set_cons_succ, fillC]
  refine BR_dec (fun hn => ?_) (fun hn => ?_)
  case refine_1 =>
    simp (disch := omega) only [KC_eq, c28, ae0, ae1, ae2, ae3, ae4, ahsz, be0, be1, be2, be3, be4, bhsz, ifT, w64, RR, RP, Ty.agg, Ty.size, Ty.sizes, eq_self, ne_eq, not_true, not_false_iff, reduceCtorEq, List.length_cons, List.length_nil, decide_true, decide_false, true_and, and_true, ite_true, ite_false, PT.full, enter0, setAll, forget, Fr.set, Fr.get, PT.get, PT.set, kof, ai, ev, ev1, evp, b_add, b_sub, b_mul, b_quo, b_rem, b_eql, b_neq, b_lss, b_leq, b_gtr, b_geq, b_seql, b_sneq, setD, resV, resL, res1, args, List.take_zero, List.drop_zero, List.take_nil, List.take_succ_cons, List.drop_succ_cons, Nat.reduceAdd, Nat.reduceLeDiff, reduceIte, Bool.not_true, Bool.not_false, Bool.false_eq_true, CA_some, Option.some.injEq, Nat.zero_add, Nat.mul_one, Nat.add_zero, setL, List.set_cons_zero, List.set_cons_succ, fillC]
    simp [hn]
  have d0 : an0 = bn0 := by omega
  subst d0
  simp (disch := omega) only [KC_eq, c28, ae0, ae1, ae2, ae3, ae4, ahsz, be0, be1, be2, be3, be4, bhsz, ifT, w64, RR, RP, Ty.agg, Ty.size, Ty.sizes, eq_self, ne_eq, not_true, not_false_iff, reduceCtorEq, List.length_cons, List.length_nil, decide_true, decide_false, true_and, and_true, ite_true, ite_false, PT.full, enter0, setAll, forget, Fr.set, Fr.get, PT.get, PT.set, kof, ai, ev, ev1, evp, b_add, b_sub, b_mul, b_quo, b_rem, b_eql, b_neq, b_lss, b_leq, b_gtr, b_geq, b_seql, b_sneq, setD, resV, resL, res1, args, List.take_zero, List.drop_zero, List.take_nil, List.take_succ_cons, List.drop_succ_cons, Nat.reduceAdd, Nat.reduceLeDiff, reduceIte, Bool.not_true, Bool.not_false, Bool.false_eq_true, CA_some, Option.some.injEq, Nat.zero_add, Nat.mul_one, Nat.add_zero, setL, List.set_cons_zero, List.set_cons_succ, fillC]
  refine BR_dec (fun hn => ?_) (fun hn => ?_)
  case refine_1 =>
    simp (disch := omega) only [KC_eq, c28, ae0, ae1, ae2, ae3, ae4, ahsz, be0, be1, be2, be3, be4, bhsz, ifT, w64, RR, RP, Ty.agg, Ty.size, Ty.sizes, eq_self, ne_eq, not_true, not_false_iff, reduceCtorEq, List.length_cons, List.length_nil, decide_true, decide_false, true_and, and_true, ite_true, ite_false, PT.full, enter0, setAll, forget, Fr.set, Fr.get, PT.get, PT.set, kof, ai, ev, ev1, evp, b_add, b_sub, b_mul, b_quo, b_rem, b_eql, b_neq, b_lss, b_leq, b_gtr, b_geq, b_seql, b_sneq, setD, resV, resL, res1, args, List.take_zero, List.drop_zero, List.take_nil, List.take_succ_cons, List.drop_succ_cons, Nat.reduceAdd, Nat.reduceLeDiff, reduceIte, Bool.not_true, Bool.not_false, Bool.false_eq_true, CA_some, Option.some.injEq, Nat.zero_add, Nat.mul_one, Nat.add_zero, setL, List.set_cons_zero, List.set_cons_succ, fillC]
    simp [hn]
  have d1 : an1 = bn1 := by omega
  subst d1
  simp (disch := omega) only [KC_eq, c28, ae0, ae1, ae2, ae3, ae4, ahsz, be0, be1, be2, be3, be4, bhsz, ifT, w64, RR, RP, Ty.agg, Ty.size, Ty.sizes, eq_self, ne_eq, not_true, not_false_iff, reduceCtorEq, List.length_cons, List.length_nil, decide_true, decide_false, true_and, and_true, ite_true, ite_false, PT.full, enter0, setAll, forget, Fr.set, Fr.get, PT.get, PT.set, kof, ai, ev, ev1, evp, b_add, b_sub, b_mul, b_quo, b_rem, b_eql, b_neq, b_lss, b_leq, b_gtr, b_geq, b_seql, b_sneq, setD, resV, resL, res1, args, List.take_zero, List.drop_zero, List.take_nil, List.take_succ_cons, List.drop_succ_cons, Nat.reduceAdd, Nat.reduceLeDiff, reduceIte, Bool.not_true, Bool.not_false, Bool.false_eq_true, CA_some, Option.some.injEq, Nat.zero_add, Nat.mul_one, Nat.add_zero, setL, List.set_cons_zero, List.set_cons_succ, fillC]
  refine BR_dec (fun hn => ?_) (fun hn => ?_)
  case refine_1 =>
    simp (disch := omega) only [KC_eq, c28, ae0, ae1, ae2, ae3, ae4, ahsz, be0, be1, be2, be3, be4, bhsz, ifT, w64, RR, RP, Ty.agg, Ty.size, Ty.sizes, eq_self, ne_eq, not_true, not_false_iff, reduceCtorEq, List.length_cons, List.length_nil, decide_true, decide_false, true_and, and_true, ite_true, ite_false, PT.full, enter0, setAll, forget, Fr.set, Fr.get, PT.get, PT.set, kof, ai, ev, ev1, evp, b_add, b_sub, b_mul, b_quo, b_rem, b_eql, b_neq, b_lss, b_leq, b_gtr, b_geq, b_seql, b_sneq, setD, resV, resL, res1, args, List.take_zero, List.drop_zero, List.take_nil, List.take_succ_cons, List.drop_succ_cons, Nat.reduceAdd, Nat.reduceLeDiff, reduceIte, Bool.not_true, Bool.not_false, Bool.false_eq_true, CA_some, Option.some.injEq, Nat.zero_add, Nat.mul_one, Nat.add_zero, setL, List.set_cons_zero, List.set_cons_succ, fillC]
    simp [hn]
  have d2 : an2 = bn2 := by omega
  subst d2
  simp (disch := omega) only [KC_eq, c28, ae0, ae1, ae2, ae3, ae4, ahsz, be0, be1, be2, be3, be4, bhsz, ifT, w64, RR, RP, Ty.agg, Ty.size, Ty.sizes, eq_self, ne_eq, not_true, not_false_iff, reduceCtorEq, List.length_cons, List.length_nil, decide_true, decide_false, true_and, and_true, ite_true, ite_false, PT.full, enter0, setAll, forget, Fr.set, Fr.get, PT.get, PT.set, kof, ai, ev, ev1, evp, b_add, b_sub, b_mul, b_quo, b_rem, b_eql, b_neq, b_lss, b_leq, b_gtr, b_geq, b_seql, b_sneq, setD, resV, resL, res1, args, List.take_zero, List.drop_zero, List.take_nil, List.take_succ_cons, List.drop_succ_cons, Nat.reduceAdd, Nat.reduceLeDiff, reduceIte, Bool.not_true, Bool.not_false, Bool.false_eq_true, CA_some, Option.some.injEq, Nat.zero_add, Nat.mul_one, Nat.add_zero, setL, List.set_cons_zero, List.set_cons_succ, fillC]
  refine EqOk.go eq_ByteS ah3 bh3 (fun d3 => ?_) (fun d3 => ?_)
  case refine_2 =>
    simp (disch := omega) only [KC_eq, c28, ae0, ae1, ae2, ae3, ae4, ahsz, be0, be1, be2, be3, be4, bhsz, ifT, w64, RR, RP, Ty.agg, Ty.size, Ty.sizes, eq_self, ne_eq, not_true, not_false_iff, reduceCtorEq, List.length_cons, List.length_nil, decide_true, decide_false, true_and, and_true, ite_true, ite_false, PT.full, enter0, setAll, forget, Fr.set, Fr.get, PT.get, PT.set, kof, ai, ev, ev1, evp, b_add, b_sub, b_mul, b_quo, b_rem, b_eql, b_neq, b_lss, b_leq, b_gtr, b_geq, b_seql, b_sneq, setD, resV, resL, res1, args, List.take_zero, List.drop_zero, List.take_nil, List.take_succ_cons, List.drop_succ_cons, Nat.reduceAdd, Nat.reduceLeDiff, reduceIte, Bool.not_true, Bool.not_false, Bool.false_eq_true, CA_some, Option.some.injEq, Nat.zero_add, Nat.mul_one, Nat.add_zero, setL, List.set_cons_zero, List.set_cons_succ, fillC]
    simp [d3]
  subst d3
  simp (disch := omega) only [KC_eq, c28, ae0, ae1, ae2, ae3, ae4, ahsz, be0, be1, be2, be3, be4, bhsz, ifT, w64, RR, RP, Ty.agg, Ty.size, Ty.sizes, eq_self, ne_eq, not_true, not_false_iff, reduceCtorEq, List.length_cons, List.length_nil, decide_true, decide_false, true_and, and_true, ite_true, ite_false, PT.full, enter0, setAll, forget, Fr.set, Fr.get, PT.get, PT.set, kof, ai, ev, ev1, evp, b_add, b_sub, b_mul, b_quo, b_rem, b_eql, b_neq, b_lss, b_leq, b_gtr, b_geq, b_seql, b_sneq, setD, resV, resL, res1, args, List.take_zero, List.drop_zero, List.take_nil, List.take_succ_cons, List.drop_succ_cons, Nat.reduceAdd, Nat.reduceLeDiff, reduceIte, Bool.not_true, Bool.not_false, Bool.false_eq_true, CA_some, Option.some.injEq, Nat.zero_add, Nat.mul_one, Nat.add_zero, setL, List.set_cons_zero, List.set_cons_succ, fillC]
  refine EqOk.go eq_ByteS ah4 bh4 (fun d4 => ?_) (fun d4 => ?_)
  case refine_2 =>
    simp (disch := omega) only [KC_eq, c28, ae0, ae1, ae2, ae3, ae4, ahsz, be0, be1, be2, be3, be4, bhsz, ifT, w64, RR, RP, Ty.agg, Ty.size, Ty.sizes, eq_self, ne_eq, not_true, not_false_iff, reduceCtorEq, List.length_cons, List.length_nil, decide_true, decide_false, true_and, and_true, ite_true, ite_false, PT.full, enter0, setAll, forget, Fr.set, Fr.get, PT.get, PT.set, kof, ai, ev, ev1, evp, b_add, b_sub, b_mul, b_quo, b_rem, b_eql, b_neq, b_lss, b_leq, b_gtr, b_geq, b_seql, b_sneq, setD, resV, resL, res1, args, List.take_zero, List.drop_zero, List.take_nil, List.take_succ_cons, List.drop_succ_cons, Nat.reduceAdd, Nat.reduceLeDiff, reduceIte, Bool.not_true, Bool.not_false, Bool.false_eq_true, CA_some, Option.some.injEq, Nat.zero_add, Nat.mul_one, Nat.add_zero, setL, List.set_cons_zero, List.set_cons_succ, fillC]
    simp [d4]
  subst d4
  simp (disch := omega) only [KC_eq, c28, ae0, ae1, ae2, ae3, ae4, ahsz, be0, be1, be2, be3, be4, bhsz, ifT, w64, RR, RP, Ty.agg, Ty.size, Ty.sizes, eq_self, ne_eq, not_true, not_false_iff, reduceCtorEq, List.length_cons, List.length_nil, decide_true, decide_false, true_and, and_true, ite_true, ite_false, PT.full, enter0, setAll, forget, Fr.set, Fr.get, PT.get, PT.set, kof, ai, ev, ev1, evp, b_add, b_sub, b_mul, b_quo, b_rem, b_eql, b_neq, b_lss, b_leq, b_gtr, b_geq, b_seql, b_sneq, setD, resV, resL, res1, args, List.take_zero, List.drop_zero, List.take_nil, List.take_succ_cons, List.drop_succ_cons, Nat.reduceAdd, Nat.reduceLeDiff, reduceIte, Bool.not_true, Bool.not_false, Bool.false_eq_true, CA_some, Option.some.injEq, Nat.zero_add, Nat.mul_one, Nat.add_zero, setL, List.set_cons_zero, List.set_cons_succ, fillC]
  refine EqOk.go eq_Qc ah5 bh5 (fun d5 => ?_) (fun d5 => ?_)
  case refine_2 =>
    simp (disch := omega) only [KC_eq, c28, ae0, ae1, ae2, ae3, ae4, ahsz, be0, be1, be2, be3, be4, bhsz, ifT, w64, RR, RP, Ty.agg, Ty.size, Ty.sizes, eq_self, ne_eq, not_true, not_false_iff, reduceCtorEq, List.length_cons, List.length_nil, decide_true, decide_false, true_and, and_true, ite_true, ite_false, PT.full, enter0, setAll, forget, Fr.set, Fr.get, PT.get, PT.set, kof, ai, ev, ev1, evp, b_add, b_sub, b_mul, b_quo, b_rem, b_eql, b_neq, b_lss, b_leq, b_gtr, b_geq, b_seql, b_sneq, setD, resV, resL, res1, args, List.take_zero, List.drop_zero, List.take_nil, List.take_succ_cons, List.drop_succ_cons, Nat.reduceAdd, Nat.reduceLeDiff, reduceIte, Bool.not_true, Bool.not_false, Bool.false_eq_true, CA_some, Option.some.injEq, Nat.zero_add, Nat.mul_one, Nat.add_zero, setL, List.set_cons_zero, List.set_cons_succ, fillC]
    simp [d5]
  subst d5
  simp (disch := omega) only [KC_eq, c28, ae0, ae1, ae2, ae3, ae4, ahsz, be0, be1, be2, be3, be4, bhsz, ifT, w64, RR, RP, Ty.agg, Ty.size, Ty.sizes, eq_self, ne_eq, not_true, not_false_iff, reduceCtorEq, List.length_cons, List.length_nil, decide_true, decide_false, true_and, and_true, ite_true, ite_false, PT.full, enter0, setAll, forget, Fr.set, Fr.get, PT.get, PT.set, kof, ai, ev, ev1, evp, b_add, b_sub, b_mul, b_quo, b_rem, b_eql, b_neq, b_lss, b_leq, b_gtr, b_geq, b_seql, b_sneq, setD, resV, resL, res1, args, List.take_zero, List.drop_zero, List.take_nil, List.take_succ_cons, List.drop_succ_cons, Nat.reduceAdd, Nat.reduceLeDiff, reduceIte, Bool.not_true, Bool.not_false, Bool.false_eq_true, CA_some, Option.some.injEq, Nat.zero_add, Nat.mul_one, Nat.add_zero, setL, List.set_cons_zero, List.set_cons_succ, fillC]
/-- laws.eqHeadS -/
def c63 : AF := ⟨2, 5, [.tmp 4], (.seq (.ops [.i (.mov 4 (.c (.val false [.bool false])))]) (.seq (.seq (.ops [.i (.mov 6 (.s 0)), .i (.len 7 false (.s 6)), .i (.mov 8 (.s 1)), .i (.len 9 false (.s 8)), .i (.bin 10 .neq (.s 7) (.s 9))]) (.cond (.s 10) (.seq (.ops [.i (.mov 4 (.c (.val false [.bool false])))]) .ret) .skip)) (.seq (.seq (.ops [.i (.mov 5 (.c (.val false [.int .i64 0])))]) (.block 0 (.loop [26, 25, 24, 23, 22, 21, 20, 19, 18, 17, 16, 15, 14, 13, 12, 11] (.seq (.seq (.ops [.i (.mov 11 (.s 5)), .i (.mov 12 (.s 0)), .i (.len 13 false (.s 12)), .i (.bin 14 .lss (.s 11) (.s 13))]) (.cond (.s 14) .skip (.exit 0))) (.seq (.block 1 (.seq (.ops [.i (.mov 17 (.s 0)), .i (.mov 18 (.s 5)), .i (.iad 19 (.s 17) (.s 18) 10), .i (.ldh 20 (.s 19) 10 true), .i (.mov 21 (.s 1)), .i (.mov 22 (.s 5)), .i (.iad 23 (.s 21) (.s 22) 10), .i (.ldh 24 (.s 23) 10 true), .i (.call 26 28 false [(.s 20), (.s 24)]), .i (.not 26 (.s 25))]) (.cond (.s 26) (.seq (.ops [.i (.mov 4 (.c (.val false [.bool false])))]) .ret) .skip))) (.ops [.i (.mov 15 (.s 5)), .i (.bin 16 .add (.s 15) (.c (.val false [.int .i64 1]))), .i (.mov 5 (.s 16))])))))) (.seq (.ops [.i (.mov 4 (.c (.val false [.bool true])))]) .ret))))⟩
theorem k63 : cd 63 = some c63 := by kernel_rfl
theorem eq_HeadS : EqOk cd 63 (.sl THead) := eq_sl k63 eq_Head
/-- laws.eqForest -/
def c49 : AF := ⟨2, 5, [.tmp 4], (.seq (.ops [.i (.lbox 2 (.s 0)), .i (.lbox 3 (.s 1)), .i (.mov 4 (.c (.val false [.bool false])))]) (.seq (.seq (.ops [.i (.fad 5 (.s 2) 0), .i (.ldl 6 2 (.s 5) 5 true), .i (.fad 7 (.s 3) 0), .i (.ldl 8 3 (.s 7) 5 true), .i (.call 10 109 false [(.s 6), (.s 8)]), .i (.not 10 (.s 9))]) (.cond (.s 10) (.seq (.ops [.i (.mov 4 (.c (.val false [.bool false])))]) .ret) .skip)) (.seq (.seq (.ops [.i (.fad 11 (.s 2) 5), .i (.ldl 12 2 (.s 11) 1 false), .i (.fad 13 (.s 3) 5), .i (.ldl 14 3 (.s 13) 1 false), .i (.call 16 63 false [(.s 12), (.s 14)]), .i (.not 16 (.s 15))]) (.cond (.s 16) (.seq (.ops [.i (.mov 4 (.c (.val false [.bool false])))]) .ret) .skip)) (.seq (.ops [.i (.mov 4 (.c (.val false [.bool true])))]) .ret))))⟩
theorem k49 : cd 49 = some c49 := by kernel_rfl
theorem eq_Forest : EqOk cd 49 TForest := by
  intro h ca cb va vb Sa Sb ha hb
  obtain ⟨avs, rfl, aq0⟩ := ha.st
  obtain ⟨av0, ar0, aS0, aT0, rfl, rfl, ah0, aq1⟩ := aq0.step
  obtain ⟨av1, ar1, aS1, aT1, rfl, rfl, ah1, aq2⟩ := aq1.step
  obtain ⟨ac1, ae1⟩ := ah1.one rfl
  rw [ae1] at ah1
  obtain ⟨_, rfl, rfl⟩ := aq2
  have ahsz : ca.length = 6 := ha.size
  obtain ⟨bvs, rfl, bq0⟩ := hb.st
  obtain ⟨bv0, br0, bS0, bT0, rfl, rfl, bh0, bq1⟩ := bq0.step
  obtain ⟨bv1, br1, bS1, bT1, rfl, rfl, bh1, bq2⟩ := bq1.step
  obtain ⟨bc1, be1⟩ := bh1.one rfl
  rw [be1] at bh1
  obtain ⟨_, rfl, rfl⟩ := bq2
  have bhsz : cb.length = 6 := hb.size
  simp only [Ty.size, Ty.sizes, Nat.reduceAdd, Nat.zero_add, List.drop_zero] at ae1 ahsz be1 bhsz ah0 bh0
  refine WS_enter k49 rfl ?_
  simp (disch := omega) only [KC_eq, c49, ae1, ahsz, be1, bhsz, ifT, w64, RR, RP, Ty.agg, Ty.size, Ty.sizes, eq_self, ne_eq, not_true, not_false_iff, reduceCtorEq, List.length_cons, List.length_nil, decide_true, decide_false, true_and, and_true, ite_true, ite_false, PT.full, enter0, setAll, forget, Fr.set, Fr.get, PT.get, PT.set, kof, ai, ev, ev1, evp, b_add, b_sub, b_mul, b_quo, b_rem, b_eql, b_neq, b_lss, b_leq, b_gtr, b_geq, b_seql, b_sneq, setD, resV, resL, res1, args, List.take_zero, List.drop_zero, List.take_nil, List.take_succ_cons, List.drop_succ_cons, Nat.reduceAdd, Nat.reduceLeDiff, reduceIte, Bool.not_true, Bool.not_false, Bool.false_eq_true, CA_some, Option.some.injEq, Nat.zero_add, Nat.mul_one, Nat.add_zero, setL, List.set_cons_zero, List.set_cons_succ, fillC]
  refine EqOk.go eq_Limits ah0 bh0 (fun d0 => ?_) (fun d0 => ?_)
  case refine_2 =>
    simp (disch := omega) only [KC_eq, c49, ae1, ahsz, be1, bhsz, ifT, w64, RR, RP, Ty.agg, Ty.size, Ty.sizes, eq_self, ne_eq, not_true, not_false_iff, reduceCtorEq, List.length_cons, List.length_nil, decide_true, decide_false, true_and, and_true, ite_true, ite_false, PT.full, enter0, setAll, forget, Fr.set, Fr.get, PT.get, PT.set, kof, ai, ev, ev1, evp, b_add, b_sub, b_mul, b_quo, b_rem, b_eql, b_neq, b_lss, b_leq, b_gtr, b_geq, b_seql, b_sneq, setD, resV, resL, res1, args, List.take_zero, List.drop_zero, List.take_nil, List.take_succ_cons, List.drop_succ_cons, Nat.reduceAdd, Nat.reduceLeDiff, reduceIte, Bool.not_true, Bool.not_false, Bool.false_eq_true, CA_some, Option.some.injEq, Nat.zero_add, Nat.mul_one, Nat.add_zero, setL, List.set_cons_zero, List.set_cons_succ, fillC]
    simp [d0]
  subst d0
  simp (disch := omega) only [KC_eq, c49, ae1, ahsz, be1, bhsz, ifT, w64, RR, RP, Ty.agg, Ty.size, Ty.sizes, eq_self, ne_eq, not_true, not_false_iff, reduceCtorEq, List.length_cons, List.length_nil, decide_true, decide_false, true_and, and_true, ite_true, ite_false, PT.full, enter0, setAll, forget, Fr.set, Fr.get, PT.get, PT.set, kof, ai, ev, ev1, evp, b_add, b_sub, b_mul, b_quo, b_rem, b_eql, b_neq, b_lss, b_leq, b_gtr, b_geq, b_seql, b_sneq, setD, resV, resL, res1, args, List.take_zero, List.drop_zero, List.take_nil, List.take_succ_cons, List.drop_succ_cons, Nat.reduceAdd, Nat.reduceLeDiff, reduceIte, Bool.not_true, Bool.not_false, Bool.false_eq_true, CA_some, Option.some.injEq, Nat.zero_add, Nat.mul_one, Nat.add_zero, setL, List.set_cons_zero, List.set_cons_succ, fillC]
  refine EqOk.go eq_HeadS ah1 bh1 (fun d1 => ?_) (fun d1 => ?_)
  case refine_2 =>
    simp (disch := omega) only [KC_eq, c49, ae1, ahsz, be1, bhsz, ifT, w64, RR, RP, Ty.agg, Ty.size, Ty.sizes, eq_self, ne_eq, not_true, not_false_iff, reduceCtorEq, List.length_cons, List.length_nil, decide_true, decide_false, true_and, and_true, ite_true, ite_false, PT.full, enter0, setAll, forget, Fr.set, Fr.get, PT.get, PT.set, kof, ai, ev, ev1, evp, b_add, b_sub, b_mul, b_quo, b_rem, b_eql, b_neq, b_lss, b_leq, b_gtr, b_geq, b_seql, b_sneq, setD, resV, resL, res1, args, List.take_zero, List.drop_zero, List.take_nil, List.take_succ_cons, List.drop_succ_cons, Nat.reduceAdd, Nat.reduceLeDiff, reduceIte, Bool.not_true, Bool.not_false, Bool.false_eq_true, CA_some, Option.some.injEq, Nat.zero_add, Nat.mul_one, Nat.add_zero, setL, List.set_cons_zero, List.set_cons_succ, fillC]
    simp [d1]
  subst d1
  simp (disch := omega) only [KC_eq, c49, ae1, ahsz, be1, bhsz, ifT, w64, RR, RP, Ty.agg, Ty.size, Ty.sizes, eq_self, ne_eq, not_true, not_false_iff, reduceCtorEq, List.length_cons, List.length_nil, decide_true, decide_false, true_and, and_true, ite_true, ite_false, PT.full, enter0, setAll, forget, Fr.set, Fr.get, PT.get, PT.set, kof, ai, ev, ev1, evp, b_add, b_sub, b_mul, b_quo, b_rem, b_eql, b_neq, b_lss, b_leq, b_gtr, b_geq, b_seql, b_sneq, setD, resV, resL, res1, args, List.take_zero, List.drop_zero, List.take_nil, List.take_succ_cons, List.drop_succ_cons, Nat.reduceAdd, Nat.reduceLeDiff, reduceIte, Bool.not_true, Bool.not_false, Bool.false_eq_true, CA_some, Option.some.injEq, Nat.zero_add, Nat.mul_one, Nat.add_zero, setL, List.set_cons_zero, List.set_cons_succ, fillC]
/-- laws.markByteS -/
def c56 : AF := ⟨2, 5, [.tmp 4], (.seq (.ops [.i (.mov 4 (.c (.val false [.int .i64 0])))]) (.seq (.seq (.ops [.i (.mov 5 (.c (.val false [.int .i64 0])))]) (.block 0 (.loop [18, 17, 16, 15, 14, 13, 12, 11, 10, 9, 8, 7, 6] (.seq (.seq (.ops [.i (.mov 6 (.s 5)), .i (.mov 7 (.s 0)), .i (.len 8 false (.s 7)), .i (.bin 9 .lss (.s 6) (.s 8))]) (.cond (.s 9) .skip (.exit 0))) (.seq (.block 1 (.seq (.ops [.i (.mov 12 (.s 0)), .i (.mov 13 (.s 5)), .i (.mov 14 (.s 1)), .i (.cvi 15 .u8 (.s 14)), .i (.iad 16 (.s 12) (.s 13) 1), .i (.sth (.s 16) (.s 15) 1)]) (.ops [.i (.mov 17 (.s 1)), .i (.bin 18 .add (.s 17) (.c (.val false [.int .i64 1]))), .i (.mov 1 (.s 18))]))) (.ops [.i (.mov 10 (.s 5)), .i (.bin 11 .add (.s 10) (.c (.val false [.int .i64 1]))), .i (.mov 5 (.s 11))])))))) (.seq (.ops [.i (.mov 19 (.s 1)), .i (.mov 4 (.s 19))]) .ret)))⟩
theorem k56 : cd 56 = some c56 := by kernel_rfl
theorem mk_ByteS : MkOk cd 56 (.sl (.int .u8)) := mk_leaf k56
/-- laws.markByteSS -/
def c31 : AF := ⟨2, 5, [.tmp 4], (.seq (.ops [.i (.mov 4 (.c (.val false [.int .i64 0])))]) (.seq (.seq (.ops [.i (.mov 5 (.c (.val false [.int .i64 0])))]) (.block 0 (.loop [17, 16, 15, 14, 13, 12, 11, 10, 9, 8, 7, 6] (.seq (.seq (.ops [.i (.mov 6 (.s 5)), .i (.mov 7 (.s 0)), .i (.len 8 false (.s 7)), .i (.bin 9 .lss (.s 6) (.s 8))]) (.cond (.s 9) .skip (.exit 0))) (.seq (.block 1 (.ops [.i (.mov 12 (.s 0)), .i (.mov 13 (.s 5)), .i (.iad 14 (.s 12) (.s 13) 1), .i (.ldh 15 (.s 14) 1 false), .i (.mov 16 (.s 1)), .i (.call 18 56 false [(.s 15), (.s 16)]), .i (.mov 1 (.s 17))])) (.ops [.i (.mov 10 (.s 5)), .i (.bin 11 .add (.s 10) (.c (.val false [.int .i64 1]))), .i (.mov 5 (.s 11))])))))) (.seq (.ops [.i (.mov 18 (.s 1)), .i (.mov 4 (.s 18))]) .ret)))⟩
theorem k31 : cd 31 = some c31 := by kernel_rfl
theorem mk_ByteSS : MkOk cd 31 (.sl (.sl (.int .u8))) := mk_sl k31 mk_ByteS
/-- laws.markHeadS -/
def c64 : AF := ⟨2, 7, [.tmp 4], (.seq (.ops [.i (.mov 4 (.c (.val false [.int .i64 0])))]) (.seq (.seq (.ops [.i (.mov 5 (.c (.val false [.int .i64 0])))]) (.block 0 (.loop [86, 85, 84, 83, 82, 81, 80, 79, 78, 77, 76, 75, 74, 73, 72, 71, 70, 69, 68, 67, 66, 65, 64, 63, 62, 61, 60, 59, 58, 57, 56, 55, 54, 53, 52, 51, 50, 49, 48, 47, 46, 45, 44, 43, 42, 41, 40, 39, 38, 37, 36, 35, 34, 33, 32, 31, 30, 29, 28, 27, 26, 25, 24, 23, 22, 21, 20, 19, 18, 17, 16, 15, 14, 13, 12, 11, 10, 9, 8, 7, 6] (.seq (.seq (.ops [.i (.mov 6 (.s 5)), .i (.mov 7 (.s 0)), .i (.len 8 false (.s 7)), .i (.bin 9 .lss (.s 6) (.s 8))]) (.cond (.s 9) .skip (.exit 0))) (.seq (.block 1 (.seq (.ops [.i (.mov 12 (.s 0)), .i (.mov 13 (.s 5)), .i (.mov 14 (.s 1)), .i (.iad 15 (.s 12) (.s 13) 10), .i (.fad 16 (.s 15) 0), .i (.sth (.s 16) (.s 14) 1)]) (.seq (.ops [.i (.mov 17 (.s 1)), .i (.bin 18 .add (.s 17) (.c (.val false [.int .i64 1]))), .i (.mov 1 (.s 18))]) (.seq (.ops [.i (.mov 19 (.s 0)), .i (.mov 20 (.s 5)), .i (.mov 21 (.s 1)), .i (.iad 22 (.s 19) (.s 20) 10), .i (.fad 23 (.s 22) 1), .i (.sth (.s 23) (.s 21) 1)]) (.seq (.ops [.i (.mov 24 (.s 1)), .i (.bin 25 .add (.s 24) (.c (.val false [.int .i64 1]))), .i (.mov 1 (.s 25))]) (.seq (.ops [.i (.mov 26 (.s 0)), .i (.mov 27 (.s 5)), .i (.mov 28 (.s 1)), .i (.iad 29 (.s 26) (.s 27) 10), .i (.fad 30 (.s 29) 2), .i (.sth (.s 30) (.s 28) 1)]) (.seq (.ops [.i (.mov 31 (.s 1)), .i (.bin 32 .add (.s 31) (.c (.val false [.int .i64 1]))), .i (.mov 1 (.s 32))]) (.seq (.ops [.i (.mov 33 (.s 0)), .i (.mov 34 (.s 5)), .i (.iad 35 (.s 33) (.s 34) 10), .i (.fad 36 (.s 35) 3), .i (.ldh 37 (.s 36) 1 false), .i (.mov 38 (.s 1)), .i (.call 40 56 false [(.s 37), (.s 38)]), .i (.mov 1 (.s 39))]) (.seq (.ops [.i (.mov 40 (.s 0)), .i (.mov 41 (.s 5)), .i (.iad 42 (.s 40) (.s 41) 10), .i (.fad 43 (.s 42) 4), .i (.ldh 44 (.s 43) 1 false), .i (.mov 45 (.s 1)), .i (.call 47 56 false [(.s 44), (.s 45)]), .i (.mov 1 (.s 46))]) (.seq (.ops [.i (.mov 47 (.s 0)), .i (.mov 48 (.s 5)), .i (.mov 49 (.s 1)), .i (.iad 50 (.s 47) (.s 48) 10), .i (.fad 51 (.s 50) 5), .i (.fad 52 (.s 51) 0), .i (.sth (.s 52) (.s 49) 1)]) (.seq (.ops [.i (.mov 53 (.s 1)), .i (.bin 54 .add (.s 53) (.c (.val false [.int .i64 1]))), .i (.mov 1 (.s 54))]) (.seq (.ops [.i (.mov 55 (.s 0)), .i (.mov 56 (.s 5)), .i (.mov 57 (.s 1)), .i (.iad 58 (.s 55) (.s 56) 10), .i (.fad 59 (.s 58) 5), .i (.fad 60 (.s 59) 1), .i (.sth (.s 60) (.s 57) 1)]) (.seq (.ops [.i (.mov 61 (.s 1)), .i (.bin 62 .add (.s 61) (.c (.val false [.int .i64 1]))), .i (.mov 1 (.s 62))]) (.seq (.ops [.i (.mov 63 (.s 0)), .i (.mov 64 (.s 5)), .i (.iad 65 (.s 63) (.s 64) 10), .i (.fad 66 (.s 65) 5), .i (.fad 67 (.s 66) 2), .i (.ldh 68 (.s 67) 1 false), .i (.mov 69 (.s 1)), .i (.call 71 56 false [(.s 68), (.s 69)]), .i (.mov 1 (.s 70))]) (.seq (.ops [.i (.mov 71 (.s 0)), .i (.mov 72 (.s 5)), .i (.iad 73 (.s 71) (.s 72) 10), .i (.fad 74 (.s 73) 5), .i (.fad 75 (.s 74) 3), .i (.ldh 76 (.s 75) 1 false), .i (.mov 77 (.s 1)), .i (.call 79 56 false [(.s 76), (.s 77)]), .i (.mov 1 (.s 78))]) (.ops [.i (.mov 79 (.s 0)), .i (.mov 80 (.s 5)), .i (.iad 81 (.s 79) (.s 80) 10), .i (.fad 82 (.s 81) 5), .i (.fad 83 (.s 82) 4), .i (.ldh 84 (.s 83) 1 false), .i (.mov 85 (.s 1)), .i (.call 87 31 false [(.s 84), (.s 85)]), .i (.mov 1 (.s 86))])))))))))))))))) (.ops [.i (.mov 10 (.s 5)), .i (.bin 11 .add (.s 10) (.c (.val false [.int .i64 1]))), .i (.mov 5 (.s 11))])))))) (.seq (.ops [.i (.mov 87 (.s 1)), .i (.mov 4 (.s 87))]) .ret)))⟩
theorem k64 : cd 64 = some c64 := by kernel_rfl
end Go.Eng.U
