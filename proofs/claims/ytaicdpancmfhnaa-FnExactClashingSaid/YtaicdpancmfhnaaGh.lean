import Derived.Test.YtaicdpancmfhnaaGg
/-
  Functions: numbers in bytes; what is put.
-/
set_option maxRecDepth 100000
set_option linter.unusedSimpArgs false
set_option linter.unusedVariables false
namespace Go.Eng.F
def varB (n : Nat) : Bytes := if n < 128 then [UInt8.ofNat n] else UInt8.ofNat (n % 128 + 128) :: varB (n / 128)
termination_by n
decreasing_by omega
theorem varB_lo {n : Nat} (h : n < 128) : varB n = [UInt8.ofNat n] := by rw [varB, if_pos h]
theorem varB_hi {n : Nat} (h : ¬ n < 128) : varB n = UInt8.ofNat (n % 128 + 128) :: varB (n / 128) := by rw [varB, if_neg h]
theorem varB_len : ∀ (k n : Nat), n < 128 ^ (k + 1) → (varB n).length ≤ k + 1
  | 0, n, h => by rw [varB_lo (by simpa using h)]; simp
  | k + 1, n, h => by
    by_cases h1 : n < 128
    · rw [varB_lo h1]; simp
    · rw [varB_hi h1]
      have := varB_len k (n / 128) (by rw [Nat.div_lt_iff_lt_mul (by omega)]; rw [Nat.pow_succ] at h; exact h)
      simp only [List.length_cons]; omega
theorem varB_nine {n : Nat} (h : n ≤ 1152921504606846975) : (varB n).length ≤ 9 := varB_len 8 n (by simp; omega)
theorem u8n {k : Nat} (h : k < 256) : IntKind.u8.wrap (k : Int) = ((UInt8.ofNat k).toNat : Int) := by
  simp only [UInt8.toNat_ofNat', IntKind.wrap, IntKind.bits, IntKind.signed]
  simp
def putVarE (b : Bytes) (n : Int) : List (Bool × List E) :=
  if isNum n then [(false, [.o true (some (5, 1)) (bytes (b ++ varB n.toNat))]), (false, [.p (.bool true)])] else [(false, [.p .nils]), (false, [.p (.bool false)])]
theorem isNum_nat {n : Int} (h : isNum n = true) : ∃ m : Nat, n = (m : Int) ∧ m ≤ 1152921504606846975 := ⟨n.toNat, by have := inn_t h; omega⟩
abbrev n_impl_PutVar : Nat := 208
def c_impl_PutVar : AF := ⟨2, 5, [.tmp 4, .tmp 5], (.seq (.ops [.i (.mov 4 (.c (.val false [.nils]))), .i (.mov 5 (.c (.val false [.bool false])))]) (.seq (.seq (.ops [.i (.mov 7 (.s 1)), .i (.call 9 167 false [(.s 7)]), .i (.not 9 (.s 8))]) (.cond (.s 9) (.seq (.ops [.i (.mov 4 (.c (.val false [.nils]))), .i (.mov 5 (.c (.val false [.bool false])))]) .ret) .skip)) (.seq (.ops [.i (.mov 10 (.s 0)), .i (.call 12 133 false [(.s 10)]), .i (.mov 6 (.s 11))]) (.seq (.block 0 (.loop [22, 21, 20, 19, 18, 17, 16, 15, 14, 13, 12] (.seq (.seq (.ops [.i (.mov 12 (.s 1)), .i (.bin 13 .geq (.s 12) (.c (.val false [.int .i64 128])))]) (.cond (.s 13) .skip (.exit 0))) (.block 1 (.seq (.ops [.i (.mov 14 (.s 6)), .i (.mov 15 (.s 1)), .i (.bin 16 .rem (.s 15) (.c (.val false [.int .i64 128]))), .i (.bin 17 .add (.s 16) (.c (.val false [.int .i64 128]))), .i (.cvi 18 .u8 (.s 17)), .i (.lsl 19 1 1 [.int .u8 0] [(0, 1, (.s 18))]), .i (.app 20 5 1 1 (.s 14) (.s 19)), .i (.mov 6 (.s 20))]) (.ops [.i (.mov 21 (.s 1)), .i (.bin 22 .quo (.s 21) (.c (.val false [.int .i64 128]))), .i (.mov 1 (.s 22))])))))) (.seq (.ops [.i (.mov 23 (.s 6)), .i (.mov 24 (.s 1)), .i (.cvi 25 .u8 (.s 24)), .i (.lsl 26 1 1 [.int .u8 0] [(0, 1, (.s 25))]), .i (.app 27 5 1 1 (.s 23) (.s 26)), .i (.mov 4 (.s 27)), .i (.mov 5 (.c (.val false [.bool true])))]) .ret)))))⟩
theorem k_impl_PutVar : cd n_impl_PutVar = some c_impl_PutVar := by kernel_rfl
theorem impl_PutVar_ok (b : Bytes) (n : Int) (hb : b.length ≤ 1073741824) : VC cd n_impl_PutVar (mkP [(false, [.sl (bytes b)]), (false, [.int .i64 n])]) (fun rs _ => rs = putVarE b n) := by
  refine VC_enter k_impl_PutVar rfl ?_
  simp (disch := omega) [c_impl_PutVar, VE, VXR, VP, VB, VTup, kof, bl, it]
  refine VXC_e (isNum_ok n) rfl rfl ?_
  simp (disch := omega) [VE, VXR, VP, VB, VTup, kof, bl, it]
  refine VXB_b (fun h1 => ?_) (fun h1 => ?_)
  case refine_2 => simp (disch := omega) [putVarE, h1, VE, VXR, VP, VB, VTup, kof, bl, it]
  simp (disch := omega) [h1, VE, VXR, VP, VB, VTup, kof, bl, it]
  refine VXC_e (copyBytes_ok b (by omega)) rfl rfl ?_
  obtain ⟨m, rfl, hm⟩ := isNum_nat h1
  have hl := varB_nine hm
  simp (disch := omega) [VE, VXR, VP, VB, VTup, kof, bl, it]
  refine VX_loop3 (σ := Nat × Bytes × Nat) (f1 := _) (es0 := _) (by simp (disch := omega) [VE, VXR, VP, VB, VTup, kof, bl, it]; rfl) (by simp (disch := omega) [VE, VXR, VP, VB, VTup, kof, bl, it]; rfl) (fun p => [(1, .val false [.int .i64 (p.1 : Int)]), (6, .val false [.ow 106496 p.2.2])]) (fun p => [(106496, .sl p.2.2 true true (some (5, 1)) (bytes p.2.1))])
    (fun p g => g = p.1 ∧ p.1 ≤ m ∧ p.2.1 ++ varB p.1 = b ++ varB m) (m, b, _) m (by simp (disch := omega) [VE, VXR, VP, VB, VTup, kof, bl, it]; rfl) (by simp (disch := omega) [VE, VXR, VP, VB, VTup, kof, bl, it]) ⟨rfl, Nat.le_refl _, rfl⟩ ?_
  rintro ⟨k, a, v⟩ n g ⟨hg, hk, ha⟩
  simp only at hg hk ha
  have hla : a.length ≤ b.length + 9 := by
    have := congrArg List.length ha
    simp only [List.length_append] at this
    omega
  simp (disch := omega) [VE, VXR, VP, VB, VTup, kof, bl, it]
  refine VXB_dec (fun h2 => ?_) (fun h2 => ?_)
  · have e1 : Int.tmod (k : Int) 128 = (k : Int) % 128 := Int.tmod_eq_emod_of_nonneg (by omega)
    have e2 : Int.tdiv (k : Int) 128 = (k : Int) / 128 := Int.tdiv_eq_ediv_of_nonneg (by omega)
    have e3 : IntKind.u8.wrap ((k : Int) % 128 + 128) = ((UInt8.ofNat (k % 128 + 128)).toNat : Int) := by rw [← u8n (by omega)]; congr 1
    have e4 : bytes a ++ [[.int .u8 ((UInt8.ofNat (k % 128 + 128)).toNat : Int)]] = bytes (a ++ [UInt8.ofNat (k % 128 + 128)]) := by simp [bytes]
    simp (disch := omega) [e1, e2, e3, e4, bytes_len, VE, VXR, VP, VB, VTup, kof, bl, it]
    refine ⟨k / 128, a ++ [UInt8.ofNat (k % 128 + 128)], _, k / 128, by omega, ⟨rfl, by omega, ?_⟩, ⟨rfl, by omega⟩, rfl, by simp [bytes]⟩
    rw [← ha, varB_hi (n := k) (by omega)]
    simp
  · have e3 : IntKind.u8.wrap (k : Int) = ((UInt8.ofNat k).toNat : Int) := u8n (by omega)
    have e4 : bytes a ++ [[.int .u8 ((UInt8.ofNat k).toNat : Int)]] = bytes (a ++ [UInt8.ofNat k]) := by simp [bytes]
    rw [varB_lo (n := k) (by omega)] at ha
    simp (disch := omega) [e3, e4, bytes_len, putVarE, h1, VE, VXR, VP, VB, VTup, kof, bl, it]
    rw [← ha]
    simp [bytes]
abbrev n_spec_PutVar : Nat := 197
def c_spec_PutVar : AF := ⟨2, 5, [.tmp 4, .tmp 5], (.seq (.ops [.i (.mov 4 (.c (.val false [.nils]))), .i (.mov 5 (.c (.val false [.bool false])))]) (.seq (.seq (.ops [.i (.mov 7 (.s 1)), .i (.call 9 143 false [(.s 7)]), .i (.not 9 (.s 8))]) (.cond (.s 9) (.seq (.ops [.i (.mov 4 (.c (.val false [.nils]))), .i (.mov 5 (.c (.val false [.bool false])))]) .ret) .skip)) (.seq (.ops [.i (.mov 10 (.s 0)), .i (.call 12 127 false [(.s 10)]), .i (.mov 6 (.s 11))]) (.seq (.block 0 (.loop [22, 21, 20, 19, 18, 17, 16, 15, 14, 13, 12] (.seq (.seq (.ops [.i (.mov 12 (.s 1)), .i (.bin 13 .gtr (.s 12) (.c (.val false [.int .i64 127])))]) (.cond (.s 13) .skip (.exit 0))) (.block 1 (.seq (.ops [.i (.mov 14 (.s 6)), .i (.mov 15 (.s 1)), .i (.bin 16 .rem (.s 15) (.c (.val false [.int .i64 128]))), .i (.bin 17 .add (.c (.val false [.int .i64 128])) (.s 16)), .i (.cvi 18 .u8 (.s 17)), .i (.lsl 19 1 1 [.int .u8 0] [(0, 1, (.s 18))]), .i (.app 20 5 1 1 (.s 14) (.s 19)), .i (.mov 6 (.s 20))]) (.ops [.i (.mov 21 (.s 1)), .i (.bin 22 .quo (.s 21) (.c (.val false [.int .i64 128]))), .i (.mov 1 (.s 22))])))))) (.seq (.ops [.i (.mov 23 (.s 6)), .i (.mov 24 (.s 1)), .i (.cvi 25 .u8 (.s 24)), .i (.lsl 26 1 1 [.int .u8 0] [(0, 1, (.s 25))]), .i (.app 27 5 1 1 (.s 23) (.s 26)), .i (.mov 4 (.s 27)), .i (.mov 5 (.c (.val false [.bool true])))]) .ret)))))⟩
theorem k_spec_PutVar : cd n_spec_PutVar = some c_spec_PutVar := by kernel_rfl
theorem spec_PutVar_ok (b : Bytes) (n : Int) (hb : b.length ≤ 1073741824) : VC cd n_spec_PutVar (mkP [(false, [.sl (bytes b)]), (false, [.int .i64 n])]) (fun rs _ => rs = putVarE b n) := by
  refine VC_enter k_spec_PutVar rfl ?_
  simp (disch := omega) [c_spec_PutVar, VE, VXR, VP, VB, VTup, kof, bl, it]
  refine VXC_e (l01Num_ok n) rfl rfl ?_
  simp (disch := omega) [VE, VXR, VP, VB, VTup, kof, bl, it]
  refine VXB_b (fun h1 => ?_) (fun h1 => ?_)
  case refine_2 => simp (disch := omega) [putVarE, h1, VE, VXR, VP, VB, VTup, kof, bl, it]
  simp (disch := omega) [h1, VE, VXR, VP, VB, VTup, kof, bl, it]
  refine VXC_e (l01Copy_ok b (by omega)) rfl rfl ?_
  obtain ⟨m, rfl, hm⟩ := isNum_nat h1
  have hl := varB_nine hm
  simp (disch := omega) [VE, VXR, VP, VB, VTup, kof, bl, it]
  refine VX_loop3 (σ := Nat × Bytes × Nat) (f1 := _) (es0 := _) (by simp (disch := omega) [VE, VXR, VP, VB, VTup, kof, bl, it]; rfl) (by simp (disch := omega) [VE, VXR, VP, VB, VTup, kof, bl, it]; rfl) (fun p => [(1, .val false [.int .i64 (p.1 : Int)]), (6, .val false [.ow 106496 p.2.2])]) (fun p => [(106496, .sl p.2.2 true true (some (5, 1)) (bytes p.2.1))])
    (fun p g => g = p.1 ∧ p.1 ≤ m ∧ p.2.1 ++ varB p.1 = b ++ varB m) (m, b, _) m (by simp (disch := omega) [VE, VXR, VP, VB, VTup, kof, bl, it]; rfl) (by simp (disch := omega) [VE, VXR, VP, VB, VTup, kof, bl, it]) ⟨rfl, Nat.le_refl _, rfl⟩ ?_
  rintro ⟨k, a, v⟩ n g ⟨hg, hk, ha⟩
  simp only at hg hk ha
  have hla : a.length ≤ b.length + 9 := by
    have := congrArg List.length ha
    simp only [List.length_append] at this
    omega
  simp (disch := omega) [VE, VXR, VP, VB, VTup, kof, bl, it]
  refine VXB_dec (fun h2 => ?_) (fun h2 => ?_)
  · have e1 : Int.tmod (k : Int) 128 = (k : Int) % 128 := Int.tmod_eq_emod_of_nonneg (by omega)
    have e2 : Int.tdiv (k : Int) 128 = (k : Int) / 128 := Int.tdiv_eq_ediv_of_nonneg (by omega)
    have e3 : IntKind.u8.wrap (128 + (k : Int) % 128) = ((UInt8.ofNat (k % 128 + 128)).toNat : Int) := by rw [← u8n (by omega)]; congr 1; omega
    have e4 : bytes a ++ [[.int .u8 ((UInt8.ofNat (k % 128 + 128)).toNat : Int)]] = bytes (a ++ [UInt8.ofNat (k % 128 + 128)]) := by simp [bytes]
    simp (disch := omega) [e1, e2, e3, e4, bytes_len, VE, VXR, VP, VB, VTup, kof, bl, it]
    refine ⟨k / 128, a ++ [UInt8.ofNat (k % 128 + 128)], _, k / 128, by omega, ⟨rfl, by omega, ?_⟩, ⟨rfl, by omega⟩, rfl, by simp [bytes]⟩
    rw [← ha, varB_hi (n := k) (by omega)]
    simp
  · have e3 : IntKind.u8.wrap (k : Int) = ((UInt8.ofNat k).toNat : Int) := u8n (by omega)
    have e4 : bytes a ++ [[.int .u8 ((UInt8.ofNat k).toNat : Int)]] = bytes (a ++ [UInt8.ofNat k]) := by simp [bytes]
    rw [varB_lo (n := k) (by omega)] at ha
    simp (disch := omega) [e3, e4, bytes_len, putVarE, h1, VE, VXR, VP, VB, VTup, kof, bl, it]
    rw [← ha]
    simp [bytes]


theorem isNum_of {n : Nat} (h : n ≤ 1152921504606846975) : isNum (n : Int) = true := by simp [isNum, inn]; omega
theorem impl_PutVar_t (b : Bytes) (n : Nat) (hn : n ≤ 1152921504606846975) (hb : b.length ≤ 1073741824) : VC cd n_impl_PutVar (mkP [(false, [.sl (bytes b)]), (false, [.int .i64 (n : Int)])]) (fun rs _ => rs = [(false, [.o true (some (5, 1)) (bytes (b ++ varB n))]), (false, [.p (.bool true)])]) :=
  (impl_PutVar_ok b n hb).mono fun rs ps h => by rw [h, putVarE, if_pos (isNum_of hn)]; rfl
theorem spec_PutVar_t (b : Bytes) (n : Nat) (hn : n ≤ 1152921504606846975) (hb : b.length ≤ 1073741824) : VC cd n_spec_PutVar (mkP [(false, [.sl (bytes b)]), (false, [.int .i64 (n : Int)])]) (fun rs _ => rs = [(false, [.o true (some (5, 1)) (bytes (b ++ varB n))]), (false, [.p (.bool true)])]) :=
  (spec_PutVar_ok b n hb).mono fun rs ps h => by rw [h, putVarE, if_pos (isNum_of hn)]; rfl
abbrev n_spec_l11Num : Nat := 180
def c_spec_l11Num : AF := ⟨2, 4, [.tmp 4], (.seq (.ops [.i (.mov 4 (.c (.val false [.nils])))]) (.seq (.ops [.i (.mov 8 (.s 0)), .i (.mov 9 (.s 1)), .i (.call 11 197 false [(.s 8), (.s 9)]), .i (.mov 7 (.s 10)), .i (.ext 11 (.s 7) 0), .i (.ext 12 (.s 7) 1), .i (.mov 5 (.s 11)), .i (.mov 6 (.s 12))]) (.seq (.ops [.i (.mov 13 (.s 5)), .i (.mov 4 (.s 13))]) .ret)))⟩
theorem k_spec_l11Num : cd n_spec_l11Num = some c_spec_l11Num := by kernel_rfl
theorem l11Num_ok (b : Bytes) (n : Int) (hn : isNum n = true) (hb : b.length ≤ 1073741824) : VC cd n_spec_l11Num (mkP [(false, [.sl (bytes b)]), (false, [.int .i64 n])]) (fun rs _ => rs = [(false, [.o true (some (5, 1)) (bytes (b ++ varB n.toNat))])]) := by
  obtain ⟨m, rfl, hm⟩ := isNum_nat hn
  refine VC_enter k_spec_l11Num rfl ?_
  simp (disch := omega) [c_spec_l11Num, VE, VXR, VP, VB, VTup, kof, bl, it]
  refine VXC_e (spec_PutVar_t b m hm hb) rfl rfl ?_
  simp (disch := omega) [VE, VXR, VP, VB, VTup, kof, bl, it]
abbrev n_impl_writer_num : Nat := 198
def c_impl_writer_num : AF := ⟨2, 5, [], (.ops [.i (.mov 5 (.s 0)), .i (.mov 6 (.s 0)), .i (.nch 7 (.s 6)), .i (.fad 8 (.s 7) 0), .i (.ldh 9 (.s 8) 1 false), .i (.mov 10 (.s 1)), .i (.call 12 208 false [(.s 9), (.s 10)]), .i (.mov 4 (.s 11)), .i (.ext 12 (.s 4) 0), .i (.ext 13 (.s 4) 1), .i (.nch 14 (.s 5)), .i (.fad 15 (.s 14) 0), .i (.sth (.s 15) (.s 12) 1)])⟩
theorem k_impl_writer_num : cd n_impl_writer_num = some c_impl_writer_num := by kernel_rfl
theorem writer_num_ok (b : Bytes) (n : Int) (hn : isNum n = true) (hb : b.length ≤ 1073741824) : VC cd n_impl_writer_num (mkQ [] 204 [.o true (some (5, 1)) (bytes b)] [(false, [.int .i64 n])]) (fun r p => r = [] ∧ p = [.pt 204 [.o true (some (5, 1)) (bytes (b ++ varB n.toNat))]]) := by
  obtain ⟨m, rfl, hm⟩ := isNum_nat hn
  refine VC_enterQ k_impl_writer_num rfl ?_
  simp (disch := omega) [c_impl_writer_num, VE, VXR, VP, VB, VTup, kof, bl, it, nC, imp0, cK, retP, rmKs, frzD, usOk, expR, expE, exp0]
  refine VXC_e (impl_PutVar_t b m hm hb) rfl rfl ?_
  simp (disch := omega) [VE, VXR, VP, VB, VTup, kof, bl, it, nC, imp0, cK, retP, rmKs, frzD, usOk, expR, expE, exp0]
abbrev n_impl_writer_raw : Nat := 199
def c_impl_writer_raw : AF := ⟨2, 4, [], (.ops [.i (.mov 4 (.s 0)), .i (.mov 5 (.s 0)), .i (.nch 6 (.s 5)), .i (.fad 7 (.s 6) 0), .i (.ldh 8 (.s 7) 1 false), .i (.mov 9 (.s 1)), .i (.app 10 5 1 1 (.s 8) (.s 9)), .i (.nch 11 (.s 4)), .i (.fad 12 (.s 11) 0), .i (.sth (.s 12) (.s 10) 1)])⟩
theorem k_impl_writer_raw : cd n_impl_writer_raw = some c_impl_writer_raw := by kernel_rfl
theorem writer_raw_ok (b x : Bytes) (hx : x.length ≤ 1073741824) (hb : b.length ≤ 1073741824) : VC cd n_impl_writer_raw (mkQ [] 204 [.o true (some (5, 1)) (bytes b)] [(false, [.sl (bytes x)])]) (fun r p => r = [] ∧ p = [.pt 204 [.o true (some (5, 1)) (bytes (b ++ x))]]) := by
  refine VC_enterQ k_impl_writer_raw rfl ?_
  simp (disch := omega) [c_impl_writer_raw, bytes_len, bytes_app, VE, VXR, VP, VB, VTup, kof, bl, it, nC, imp0, cK, retP, rmKs, frzD, usOk, expR, expE, exp0]
/-! ### Certificates, headers -/
def qcB (q : Qc) : Bytes := varB q.view.toNat ++ varB q.height.toNat ++ q.block ++ q.bits ++ q.tags.flatten
def headB (h : Head) : Bytes := varB h.view.toNat ++ varB h.height.toNat ++ varB h.proposer.toNat ++ h.parent ++ h.root ++ qcB h.qc
theorem varB_num {n : Int} (h : isNum n = true) : (varB n.toNat).length ≤ 9 := by
  obtain ⟨m, rfl, hm⟩ := isNum_nat h
  simpa using varB_nine hm
theorem bsz_ten {n : Int} (h : 1 ≤ n ∧ n ≤ 10) : bsz n ≤ 2 := by unfold bsz; split <;> omega
structure QcSz (q : Qc) : Prop where
  view : isNum q.view = true
  height : isNum q.height = true
  block : q.block.length = 32
  bits : q.bits.length ≤ 2
  tags : q.tags.length ≤ 16
  tag : ∀ t ∈ q.tags, t.length = 32
theorem qcOk_sz {l : Lim} {q : Qc} (h : qcOk l q = true) : QcSz q := by
  simp only [qcOk, Bool.and_eq_true, decide_eq_true_eq] at h
  obtain ⟨⟨⟨⟨⟨⟨h0, h1⟩, h2⟩, h3⟩, h4⟩, h5⟩, h6⟩ := h
  simp only [bitsOk, Bool.and_eq_true, decide_eq_true_eq] at h4
  have hb := bsz_ten (inn_t h4.1.1)
  have hl := bitsList_len q.bits
  refine ⟨h1, h2, by simpa [hash] using h3, by omega, by omega, fun t ht => ?_⟩
  simp only [hashes, List.all_eq_true] at h6
  simpa [hash] using h6 t ht
theorem flat_take {l : List Bytes} (h : ∀ t ∈ l, t.length = 32) {i : Nat} (hi : i ≤ l.length) : (l.take i).flatten.length = 32 * i := by
  induction i generalizing l with
  | zero => simp
  | succ i ih =>
    cases l with
    | nil => simp at hi
    | cons a l =>
      simp only [List.take_succ_cons, List.flatten_cons, List.length_append]
      rw [ih (fun t ht => h t (by simp [ht])) (by simpa using hi), h a (by simp)]
      omega
theorem flat_next {l : List Bytes} {i : Nat} (h : i < l.length) : (l.take (i + 1)).flatten = (l.take i).flatten ++ l[i] := by
  rw [List.take_add_one, List.getElem?_eq_getElem h, List.flatten_append]
  simp only [Option.toList_some, List.flatten_cons, List.flatten_nil, List.append_nil]
theorem qcB_len {q : Qc} (h : QcSz q) : (qcB q).length ≤ 600 := by
  have h1 := varB_num h.view
  have h2 := varB_num h.height
  have h3 := flat_take h.tag (Nat.le_refl _)
  rw [List.take_length] at h3
  have := h.block
  have := h.bits
  have := h.tags
  simp only [qcB, List.length_append]
  omega
abbrev n_impl_writer_qc : Nat := 200
def c_impl_writer_qc : AF := ⟨2, 6, [], (.seq (.ops [.i (.lbox 3 (.s 1))]) (.seq (.ops [.i (.mov 6 (.s 0)), .i (.fad 7 (.s 3) 0), .i (.ldl 8 3 (.s 7) 1 false), .i (.call 10 198 false [(.s 6), (.s 8)])]) (.seq (.ops [.i (.mov 10 (.s 0)), .i (.fad 11 (.s 3) 1), .i (.ldl 12 3 (.s 11) 1 false), .i (.call 14 198 false [(.s 10), (.s 12)])]) (.seq (.ops [.i (.mov 14 (.s 0)), .i (.fad 15 (.s 3) 2), .i (.ldl 16 3 (.s 15) 1 false), .i (.call 18 199 false [(.s 14), (.s 16)])]) (.seq (.ops [.i (.mov 18 (.s 0)), .i (.fad 19 (.s 3) 3), .i (.ldl 20 3 (.s 19) 1 false), .i (.call 22 199 false [(.s 18), (.s 20)])]) (.seq (.ops [.i (.fad 22 (.s 3) 4), .i (.ldl 23 3 (.s 22) 1 false), .i (.len 24 false (.s 23)), .i (.mov 25 (.c (.val false [.int .i64 0])))]) (.block 0 (.loop [32, 31, 30, 29, 28, 27, 26, 5] (.seq (.ops [.i (.bin 26 .lss (.s 25) (.s 24))]) (.seq (.cond (.s 26) .skip (.exit 0)) (.seq (.block 1 (.seq (.ops [.i (.iad 27 (.s 23) (.s 25) 1), .i (.ldh 28 (.s 27) 1 false), .i (.mov 5 (.s 28))]) (.ops [.i (.mov 29 (.s 0)), .i (.mov 30 (.s 5)), .i (.call 32 199 false [(.s 29), (.s 30)])]))) (.ops [.i (.bin 32 .add (.s 25) (.c (.val false [.int .i64 1]))), .i (.mov 25 (.s 32))]))))))))))))⟩
theorem k_impl_writer_qc : cd n_impl_writer_qc = some c_impl_writer_qc := by kernel_rfl
theorem writer_qc_ok (b : Bytes) (q : Qc) (hq : QcSz q) (hb : b.length ≤ 1000000000) : VC cd n_impl_writer_qc (mkQ [] 204 [.o true (some (5, 1)) (bytes b)] [(true, q.c)]) (fun r p => r = [] ∧ p = [.pt 204 [.o true (some (5, 1)) (bytes (b ++ qcB q))]]) := by
  have h1 := varB_num hq.view
  have h2 := varB_num hq.height
  have h4 := hq.block
  have h5 := hq.bits
  have h6 := hq.tags
  refine VC_enterQ k_impl_writer_qc rfl ?_
  simp (disch := omega) [c_impl_writer_qc, Qc.c, VE, VXR, VP, VB, VTup, kof, bl, it, nC, imp0, cK, retP, rmKs, frzD, usOk, expR, expE, exp0]
  refine VXC_p (writer_num_ok _ q.view hq.view ?_) (by simp (disch := omega) [VE, VXR, VP, VB, VTup, kof, bl, it, nC, imp0, cK, retP, rmKs, frzD, usOk, expR, expE, exp0]; exact ⟨rfl, rfl⟩) rfl rfl (by simp (disch := omega) [VE, VXR, VP, VB, VTup, kof, bl, it, nC, imp0, cK, retP, rmKs, frzD, usOk, expR, expE, exp0]; exact ⟨rfl, rfl⟩) (by simp (disch := omega) [VE, VXR, VP, VB, VTup, kof, bl, it, nC, imp0, cK, retP, rmKs, frzD, usOk, expR, expE, exp0]) (by simp (disch := omega) [VE, VXR, VP, VB, VTup, kof, bl, it, nC, imp0, cK, retP, rmKs, frzD, usOk, expR, expE, exp0]) (by simp (disch := omega) [VE, VXR, VP, VB, VTup, kof, bl, it, nC, imp0, cK, retP, rmKs, frzD, usOk, expR, expE, exp0]) (by omega) (by simp (disch := omega) [VE, VXR, VP, VB, VTup, kof, bl, it, nC, imp0, cK, retP, rmKs, frzD, usOk, expR, expE, exp0]) ?_
  · (try simp only [List.length_append]); omega
  simp (disch := omega) [VE, VXR, VP, VB, VTup, kof, bl, it, nC, imp0, cK, retP, rmKs, frzD, usOk, expR, expE, exp0]
  refine VXC_p (writer_num_ok _ q.height hq.height ?_) (by simp (disch := omega) [VE, VXR, VP, VB, VTup, kof, bl, it, nC, imp0, cK, retP, rmKs, frzD, usOk, expR, expE, exp0]; exact ⟨rfl, rfl⟩) rfl rfl (by simp (disch := omega) [VE, VXR, VP, VB, VTup, kof, bl, it, nC, imp0, cK, retP, rmKs, frzD, usOk, expR, expE, exp0]; exact ⟨rfl, rfl⟩) (by simp (disch := omega) [VE, VXR, VP, VB, VTup, kof, bl, it, nC, imp0, cK, retP, rmKs, frzD, usOk, expR, expE, exp0]) (by simp (disch := omega) [VE, VXR, VP, VB, VTup, kof, bl, it, nC, imp0, cK, retP, rmKs, frzD, usOk, expR, expE, exp0]) (by simp (disch := omega) [VE, VXR, VP, VB, VTup, kof, bl, it, nC, imp0, cK, retP, rmKs, frzD, usOk, expR, expE, exp0]) (by omega) (by simp (disch := omega) [VE, VXR, VP, VB, VTup, kof, bl, it, nC, imp0, cK, retP, rmKs, frzD, usOk, expR, expE, exp0]) ?_
  · (try simp only [List.length_append]); omega
  simp (disch := omega) [VE, VXR, VP, VB, VTup, kof, bl, it, nC, imp0, cK, retP, rmKs, frzD, usOk, expR, expE, exp0]
  refine VXC_p (writer_raw_ok _ q.block (by omega) ?_) (by simp (disch := omega) [VE, VXR, VP, VB, VTup, kof, bl, it, nC, imp0, cK, retP, rmKs, frzD, usOk, expR, expE, exp0]; exact ⟨rfl, rfl⟩) rfl rfl (by simp (disch := omega) [VE, VXR, VP, VB, VTup, kof, bl, it, nC, imp0, cK, retP, rmKs, frzD, usOk, expR, expE, exp0]; exact ⟨rfl, rfl⟩) (by simp (disch := omega) [VE, VXR, VP, VB, VTup, kof, bl, it, nC, imp0, cK, retP, rmKs, frzD, usOk, expR, expE, exp0]) (by simp (disch := omega) [VE, VXR, VP, VB, VTup, kof, bl, it, nC, imp0, cK, retP, rmKs, frzD, usOk, expR, expE, exp0]) (by simp (disch := omega) [VE, VXR, VP, VB, VTup, kof, bl, it, nC, imp0, cK, retP, rmKs, frzD, usOk, expR, expE, exp0]) (by omega) (by simp (disch := omega) [VE, VXR, VP, VB, VTup, kof, bl, it, nC, imp0, cK, retP, rmKs, frzD, usOk, expR, expE, exp0]) ?_
  · (try simp only [List.length_append]); omega
  simp (disch := omega) [VE, VXR, VP, VB, VTup, kof, bl, it, nC, imp0, cK, retP, rmKs, frzD, usOk, expR, expE, exp0]
  refine VXC_p (writer_raw_ok _ q.bits (by omega) ?_) (by simp (disch := omega) [VE, VXR, VP, VB, VTup, kof, bl, it, nC, imp0, cK, retP, rmKs, frzD, usOk, expR, expE, exp0]; exact ⟨rfl, rfl⟩) rfl rfl (by simp (disch := omega) [VE, VXR, VP, VB, VTup, kof, bl, it, nC, imp0, cK, retP, rmKs, frzD, usOk, expR, expE, exp0]; exact ⟨rfl, rfl⟩) (by simp (disch := omega) [VE, VXR, VP, VB, VTup, kof, bl, it, nC, imp0, cK, retP, rmKs, frzD, usOk, expR, expE, exp0]) (by simp (disch := omega) [VE, VXR, VP, VB, VTup, kof, bl, it, nC, imp0, cK, retP, rmKs, frzD, usOk, expR, expE, exp0]) (by simp (disch := omega) [VE, VXR, VP, VB, VTup, kof, bl, it, nC, imp0, cK, retP, rmKs, frzD, usOk, expR, expE, exp0]) (by omega) (by simp (disch := omega) [VE, VXR, VP, VB, VTup, kof, bl, it, nC, imp0, cK, retP, rmKs, frzD, usOk, expR, expE, exp0]) ?_
  · (try simp only [List.length_append]); omega
  simp (disch := omega) [bss_len, VE, VXR, VP, VB, VTup, kof, bl, it, nC, imp0, cK, retP, rmKs, frzD, usOk, expR, expE, exp0]
  refine VX_loop3 (σ := Nat × Nat) (f1 := _) (es0 := _) (by simp (disch := omega) [VE, VXR, VP, VB, VTup, kof, bl, it, nC, imp0, cK, retP, rmKs, frzD, usOk, expR, expE, exp0]; rfl) (by simp (disch := omega) [VE, VXR, VP, VB, VTup, kof, bl, it, nC, imp0, cK, retP, rmKs, frzD, usOk, expR, expE, exp0]; rfl) (fun p => [(25, .val false [.int .i64 (p.1 : Int)])]) (fun p => [(4096, .pt 0 204 [.ow 1099528404992 p.2]), (1099528404992, .sl p.2 true true (some (5, 1)) (bytes (b ++ (varB q.view.toNat ++ (varB q.height.toNat ++ (q.block ++ (q.bits ++ (q.tags.take p.1).flatten)))))))])
    (fun p g => g + p.1 = q.tags.length) (0, 14) q.tags.length (by simp (disch := omega) [VE, VXR, VP, VB, VTup, kof, bl, it, nC, imp0, cK, retP, rmKs, frzD, usOk, expR, expE, exp0]) (by simp (disch := omega) [VE, VXR, VP, VB, VTup, kof, bl, it, nC, imp0, cK, retP, rmKs, frzD, usOk, expR, expE, exp0]) (by omega) ?_
  rintro ⟨i, v⟩ n g hg
  simp only at hg
  simp (disch := omega) [VE, VXR, VP, VB, VTup, kof, bl, it, nC, imp0, cK, retP, rmKs, frzD, usOk, expR, expE, exp0]
  refine VXB_dec (fun h7 => ?_) (fun h7 => ?_)
  · have hi : i < q.tags.length := by omega
    have hx := hq.tag _ (List.getElem_mem hi)
    have hf := flat_take hq.tag (i := i) (by omega)
    simp (disch := omega) [bss_get hi, VE, VXR, VP, VB, VTup, kof, bl, it, nC, imp0, cK, retP, rmKs, frzD, usOk, expR, expE, exp0]
    refine VXC_p (writer_raw_ok _ q.tags[i] (by omega) ?_) (by simp (disch := omega) [VE, VXR, VP, VB, VTup, kof, bl, it, nC, imp0, cK, retP, rmKs, frzD, usOk, expR, expE, exp0]; exact ⟨rfl, rfl⟩) rfl rfl (by simp (disch := omega) [VE, VXR, VP, VB, VTup, kof, bl, it, nC, imp0, cK, retP, rmKs, frzD, usOk, expR, expE, exp0]; exact ⟨rfl, rfl⟩) (by simp (disch := omega) [VE, VXR, VP, VB, VTup, kof, bl, it, nC, imp0, cK, retP, rmKs, frzD, usOk, expR, expE, exp0]) (by simp (disch := omega) [VE, VXR, VP, VB, VTup, kof, bl, it, nC, imp0, cK, retP, rmKs, frzD, usOk, expR, expE, exp0]) (by simp (disch := omega) [VE, VXR, VP, VB, VTup, kof, bl, it, nC, imp0, cK, retP, rmKs, frzD, usOk, expR, expE, exp0]) (by omega) (by simp (disch := omega) [VE, VXR, VP, VB, VTup, kof, bl, it, nC, imp0, cK, retP, rmKs, frzD, usOk, expR, expE, exp0]) ?_
    · (try simp only [List.length_append]); omega
    simp (disch := omega) [VE, VXR, VP, VB, VTup, kof, bl, it, nC, imp0, cK, retP, rmKs, frzD, usOk, expR, expE, exp0]
    exact ⟨i + 1, _, g - 1, by omega, by omega, rfl, rfl, by rw [flat_next hi]⟩
  · have hi : i = q.tags.length := by omega
    subst hi
    rw [List.take_length]
    simp (disch := omega) [qcB, VE, VXR, VP, VB, VTup, kof, bl, it, nC, imp0, cK, retP, rmKs, frzD, usOk, expR, expE, exp0]
def putE (ok : Bool) (b : Bytes) : List (Bool × List E) :=
  if ok then [(false, [.o true (some (5, 1)) (bytes b)]), (false, [.p (.bool true)])] else [(false, [.p .nils]), (false, [.p (.bool false)])]
theorem putE_t {ok : Bool} {b : Bytes} (h : ok = true) : putE ok b = [(false, [.o true (some (5, 1)) (bytes b)]), (false, [.p (.bool true)])] := by subst h; rfl
theorem putE_f {ok : Bool} {b : Bytes} (h : ok = false) : putE ok b = [(false, [.p .nils]), (false, [.p (.bool false)])] := by subst h; rfl
theorem _root_.Go.Eng.VC.re {cd : Nat → Option AF} {g : Nat} {al : List (Bool × List E)} {rs rt : List (Bool × List E)} (h : VC cd g al (fun r _ => r = rs)) (e : rs = rt) : VC cd g al (fun r _ => r = rt) := by subst e; exact h
abbrev n_spec_PutQc : Nat := 181
def c_spec_PutQc : AF := ⟨3, 6, [.tmp 6, .tmp 7], (.seq (.ops [.i (.lbox 3 (.s 0)), .i (.lbox 5 (.s 2)), .i (.mov 6 (.c (.val false [.nils]))), .i (.mov 7 (.c (.val false [.bool false])))]) (.seq (.seq (.ops [.i (.ldl 11 3 (.s 3) 5 true), .i (.ldl 12 5 (.s 5) 5 true), .i (.call 14 146 false [(.s 11), (.s 12)]), .i (.not 14 (.s 13))]) (.cond (.s 14) (.seq (.ops [.i (.mov 6 (.c (.val false [.nils]))), .i (.mov 7 (.c (.val false [.bool false])))]) .ret) .skip)) (.seq (.ops [.i (.mov 15 (.s 1)), .i (.fad 16 (.s 5) 0), .i (.ldl 17 5 (.s 16) 1 false), .i (.call 19 180 false [(.s 15), (.s 17)]), .i (.fad 19 (.s 5) 1), .i (.ldl 20 5 (.s 19) 1 false), .i (.call 22 180 false [(.s 18), (.s 20)]), .i (.fad 22 (.s 5) 2), .i (.ldl 23 5 (.s 22) 1 false), .i (.app 24 5 1 1 (.s 21) (.s 23)), .i (.mov 8 (.s 24))]) (.seq (.ops [.i (.mov 25 (.s 8)), .i (.fad 26 (.s 5) 3), .i (.ldl 27 5 (.s 26) 1 false), .i (.app 28 5 1 1 (.s 25) (.s 27)), .i (.mov 8 (.s 28))]) (.seq (.seq (.ops [.i (.fad 29 (.s 5) 4), .i (.ldl 30 5 (.s 29) 1 false), .i (.len 31 false (.s 30)), .i (.mov 32 (.c (.val false [.int .i64 0])))]) (.block 0 (.loop [39, 38, 37, 36, 35, 34, 33, 10] (.seq (.ops [.i (.bin 33 .lss (.s 32) (.s 31))]) (.seq (.cond (.s 33) .skip (.exit 0)) (.seq (.block 1 (.seq (.ops [.i (.iad 34 (.s 30) (.s 32) 1), .i (.ldh 35 (.s 34) 1 false), .i (.mov 10 (.s 35))]) (.ops [.i (.mov 36 (.s 8)), .i (.mov 37 (.s 10)), .i (.app 38 5 1 1 (.s 36) (.s 37)), .i (.mov 8 (.s 38))]))) (.ops [.i (.bin 39 .add (.s 32) (.c (.val false [.int .i64 1]))), .i (.mov 32 (.s 39))]))))))) (.seq (.ops [.i (.mov 40 (.s 8)), .i (.mov 6 (.s 40)), .i (.mov 7 (.c (.val false [.bool true])))]) .ret))))))⟩
theorem k_spec_PutQc : cd n_spec_PutQc = some c_spec_PutQc := by kernel_rfl
theorem spec_PutQc_ok (l : Lim) (b : Bytes) (q : Qc) (hw : q.wf) (hb : b.length ≤ 1000000000) : VC cd n_spec_PutQc (mkP [(true, l.c), (false, [.sl (bytes b)]), (true, q.c)]) (fun rs _ => rs = putE (qcOk l q) (b ++ qcB q)) := by
  refine VC_enter k_spec_PutQc rfl ?_
  simp (disch := omega) [c_spec_PutQc, Qc.c, Lim.c, VE, VXR, VP, VB, VTup, kof, bl, it]
  refine VXC_e (spec_QcOk_ok l q hw) rfl rfl ?_
  simp (disch := omega) [VE, VXR, VP, VB, VTup, kof, bl, it]
  refine VXB_b (fun h0 => ?_) (fun h0 => ?_)
  case refine_2 => simp (disch := omega) [h0, putE, VE, VXR, VP, VB, VTup, kof, bl, it]
  have hq := qcOk_sz h0
  have h1 := varB_num hq.view
  have h2 := varB_num hq.height
  have h4 := hq.block
  have h5 := hq.bits
  have h6 := hq.tags
  simp (disch := omega) [h0, VE, VXR, VP, VB, VTup, kof, bl, it]
  refine VXC_e (l11Num_ok b q.view hq.view (by omega)) rfl rfl ?_
  simp (disch := omega) [VE, VXR, VP, VB, VTup, kof, bl, it]
  refine VXC_e (l11Num_ok (b ++ varB q.view.toNat) q.height hq.height (by simp only [List.length_append]; omega)) rfl rfl ?_
  simp (disch := omega) [bytes_app, bytes_len, VE, VXR, VP, VB, VTup, kof, bl, it]
  have e1 : List.length b + (List.length (varB q.view.toNat) + (List.length (varB q.height.toNat) + List.length q.block)) ≤ 1073741824 := by omega
  simp (disch := omega) [bytes_app, bytes_len, bss_len, VE, VXR, VP, VB, VTup, kof, bl, it]
  refine VX_loop3 (σ := Nat × Nat) (f1 := _) (es0 := _) (by simp (disch := omega) [VE, VXR, VP, VB, VTup, kof, bl, it]; rfl) (by simp (disch := omega) [VE, VXR, VP, VB, VTup, kof, bl, it]; rfl) (fun p => [(32, .val false [.int .i64 (p.1 : Int)]), (8, .val false [.ow 188416 p.2])]) (fun p => [(188416, .sl p.2 true true (some (5, 1)) (bytes (b ++ (varB q.view.toNat ++ (varB q.height.toNat ++ (q.block ++ (q.bits ++ (q.tags.take p.1).flatten)))))))])
    (fun p g => g + p.1 = q.tags.length) (0, _) q.tags.length (by simp (disch := omega) [VE, VXR, VP, VB, VTup, kof, bl, it]; rfl) (by simp (disch := omega) [VE, VXR, VP, VB, VTup, kof, bl, it]) (by omega) ?_
  rintro ⟨i, v⟩ n g hg
  simp only at hg
  simp (disch := omega) [VE, VXR, VP, VB, VTup, kof, bl, it]
  refine VXB_dec (fun h7 => ?_) (fun h7 => ?_)
  · have hi : i < q.tags.length := by omega
    have hx := hq.tag _ (List.getElem_mem hi)
    have hf := flat_take hq.tag (i := i) (by omega)
    simp (disch := omega) [bss_get hi, bytes_app, bytes_len, hf, VE, VXR, VP, VB, VTup, kof, bl, it]
    exact ⟨i + 1, _, g - 1, by omega, by omega, ⟨by omega, rfl⟩, rfl, by rw [flat_next hi]⟩
  · have hi : i = q.tags.length := by omega
    subst hi
    rw [List.take_length]
    simp (disch := omega) [qcB, putE, h0, VE, VXR, VP, VB, VTup, kof, bl, it]
structure HeadSz (h : Head) : Prop where
  view : isNum h.view = true
  height : isNum h.height = true
  proposer : isNum h.proposer = true
  parent : h.parent.length = 32
  root : h.root.length = 32
  qc : QcSz h.qc
theorem headOk_qc {l : Lim} {h : Head} (hk : headOk l h = true) : qcOk l h.qc = true := by
  simp only [headOk, Bool.and_eq_true] at hk
  exact hk.1.1.1.1.1.1
theorem headOk_sz {l : Lim} {h : Head} (hk : headOk l h = true) : HeadSz h := by
  have hq := headOk_qc hk
  have hn := lim_n (qcOk_lim hq)
  simp only [headOk, Bool.and_eq_true, decide_eq_true_eq] at hk
  obtain ⟨⟨⟨⟨⟨⟨h0, h1⟩, h2⟩, h3⟩, h4⟩, h5⟩, h6⟩ := hk
  have h2' := inn_t h2
  have h3' := inn_t h3
  exact ⟨h1, by simp [isNum, inn]; omega, by simp [isNum, inn]; omega, by simpa [hash] using h4, by simpa [hash] using h5, qcOk_sz hq⟩
theorem headB_len {h : Head} (hs : HeadSz h) : (headB h).length ≤ 1000 := by
  have h1 := varB_num hs.view
  have h2 := varB_num hs.height
  have h3 := varB_num hs.proposer
  have h4 := hs.parent
  have h5 := hs.root
  have h6 := qcB_len hs.qc
  simp only [headB, List.length_append]
  omega
abbrev n_impl_writer_head : Nat := 182
def c_impl_writer_head : AF := ⟨2, 5, [], (.seq (.ops [.i (.lbox 3 (.s 1))]) (.seq (.ops [.i (.mov 4 (.s 0)), .i (.fad 5 (.s 3) 0), .i (.ldl 6 3 (.s 5) 1 false), .i (.call 8 198 false [(.s 4), (.s 6)])]) (.seq (.ops [.i (.mov 8 (.s 0)), .i (.fad 9 (.s 3) 1), .i (.ldl 10 3 (.s 9) 1 false), .i (.call 12 198 false [(.s 8), (.s 10)])]) (.seq (.ops [.i (.mov 12 (.s 0)), .i (.fad 13 (.s 3) 2), .i (.ldl 14 3 (.s 13) 1 false), .i (.call 16 198 false [(.s 12), (.s 14)])]) (.seq (.ops [.i (.mov 16 (.s 0)), .i (.fad 17 (.s 3) 3), .i (.ldl 18 3 (.s 17) 1 false), .i (.call 20 199 false [(.s 16), (.s 18)])]) (.seq (.ops [.i (.mov 20 (.s 0)), .i (.fad 21 (.s 3) 4), .i (.ldl 22 3 (.s 21) 1 false), .i (.call 24 199 false [(.s 20), (.s 22)])]) (.ops [.i (.mov 24 (.s 0)), .i (.fad 25 (.s 3) 5), .i (.ldl 26 3 (.s 25) 5 true), .i (.call 28 200 false [(.s 24), (.s 26)])])))))))⟩
theorem k_impl_writer_head : cd n_impl_writer_head = some c_impl_writer_head := by kernel_rfl
theorem writer_head_ok (b : Bytes) (h : Head) (hs : HeadSz h) (hb : b.length ≤ 900000000) : VC cd n_impl_writer_head (mkQ [] 204 [.o true (some (5, 1)) (bytes b)] [(true, h.c)]) (fun r p => r = [] ∧ p = [.pt 204 [.o true (some (5, 1)) (bytes (b ++ headB h))]]) := by
  have h1 := varB_num hs.view
  have h2 := varB_num hs.height
  have h3 := varB_num hs.proposer
  have h4 := hs.parent
  have h5 := hs.root
  refine VC_enterQ k_impl_writer_head rfl ?_
  simp (disch := omega) [c_impl_writer_head, Head.c, VE, VXR, VP, VB, VTup, kof, bl, it, nC, imp0, cK, retP, rmKs, frzD, usOk, expR, expE, exp0]
  refine VXC_p (writer_num_ok _ h.view hs.view ?_) (by simp (disch := omega) [VE, VXR, VP, VB, VTup, kof, bl, it, nC, imp0, cK, retP, rmKs, frzD, usOk, expR, expE, exp0]; exact ⟨rfl, rfl⟩) rfl rfl (by simp (disch := omega) [VE, VXR, VP, VB, VTup, kof, bl, it, nC, imp0, cK, retP, rmKs, frzD, usOk, expR, expE, exp0]; exact ⟨rfl, rfl⟩) (by simp (disch := omega) [VE, VXR, VP, VB, VTup, kof, bl, it, nC, imp0, cK, retP, rmKs, frzD, usOk, expR, expE, exp0]) (by simp (disch := omega) [VE, VXR, VP, VB, VTup, kof, bl, it, nC, imp0, cK, retP, rmKs, frzD, usOk, expR, expE, exp0]) (by simp (disch := omega) [VE, VXR, VP, VB, VTup, kof, bl, it, nC, imp0, cK, retP, rmKs, frzD, usOk, expR, expE, exp0]) (by omega) (by simp (disch := omega) [VE, VXR, VP, VB, VTup, kof, bl, it, nC, imp0, cK, retP, rmKs, frzD, usOk, expR, expE, exp0]) ?_
  · (try simp only [List.length_append]); omega
  simp (disch := omega) [VE, VXR, VP, VB, VTup, kof, bl, it, nC, imp0, cK, retP, rmKs, frzD, usOk, expR, expE, exp0]
  refine VXC_p (writer_num_ok _ h.height hs.height ?_) (by simp (disch := omega) [VE, VXR, VP, VB, VTup, kof, bl, it, nC, imp0, cK, retP, rmKs, frzD, usOk, expR, expE, exp0]; exact ⟨rfl, rfl⟩) rfl rfl (by simp (disch := omega) [VE, VXR, VP, VB, VTup, kof, bl, it, nC, imp0, cK, retP, rmKs, frzD, usOk, expR, expE, exp0]; exact ⟨rfl, rfl⟩) (by simp (disch := omega) [VE, VXR, VP, VB, VTup, kof, bl, it, nC, imp0, cK, retP, rmKs, frzD, usOk, expR, expE, exp0]) (by simp (disch := omega) [VE, VXR, VP, VB, VTup, kof, bl, it, nC, imp0, cK, retP, rmKs, frzD, usOk, expR, expE, exp0]) (by simp (disch := omega) [VE, VXR, VP, VB, VTup, kof, bl, it, nC, imp0, cK, retP, rmKs, frzD, usOk, expR, expE, exp0]) (by omega) (by simp (disch := omega) [VE, VXR, VP, VB, VTup, kof, bl, it, nC, imp0, cK, retP, rmKs, frzD, usOk, expR, expE, exp0]) ?_
  · (try simp only [List.length_append]); omega
  simp (disch := omega) [VE, VXR, VP, VB, VTup, kof, bl, it, nC, imp0, cK, retP, rmKs, frzD, usOk, expR, expE, exp0]
  refine VXC_p (writer_num_ok _ h.proposer hs.proposer ?_) (by simp (disch := omega) [VE, VXR, VP, VB, VTup, kof, bl, it, nC, imp0, cK, retP, rmKs, frzD, usOk, expR, expE, exp0]; exact ⟨rfl, rfl⟩) rfl rfl (by simp (disch := omega) [VE, VXR, VP, VB, VTup, kof, bl, it, nC, imp0, cK, retP, rmKs, frzD, usOk, expR, expE, exp0]; exact ⟨rfl, rfl⟩) (by simp (disch := omega) [VE, VXR, VP, VB, VTup, kof, bl, it, nC, imp0, cK, retP, rmKs, frzD, usOk, expR, expE, exp0]) (by simp (disch := omega) [VE, VXR, VP, VB, VTup, kof, bl, it, nC, imp0, cK, retP, rmKs, frzD, usOk, expR, expE, exp0]) (by simp (disch := omega) [VE, VXR, VP, VB, VTup, kof, bl, it, nC, imp0, cK, retP, rmKs, frzD, usOk, expR, expE, exp0]) (by omega) (by simp (disch := omega) [VE, VXR, VP, VB, VTup, kof, bl, it, nC, imp0, cK, retP, rmKs, frzD, usOk, expR, expE, exp0]) ?_
  · (try simp only [List.length_append]); omega
  simp (disch := omega) [VE, VXR, VP, VB, VTup, kof, bl, it, nC, imp0, cK, retP, rmKs, frzD, usOk, expR, expE, exp0]
  refine VXC_p (writer_raw_ok _ h.parent (by omega) ?_) (by simp (disch := omega) [VE, VXR, VP, VB, VTup, kof, bl, it, nC, imp0, cK, retP, rmKs, frzD, usOk, expR, expE, exp0]; exact ⟨rfl, rfl⟩) rfl rfl (by simp (disch := omega) [VE, VXR, VP, VB, VTup, kof, bl, it, nC, imp0, cK, retP, rmKs, frzD, usOk, expR, expE, exp0]; exact ⟨rfl, rfl⟩) (by simp (disch := omega) [VE, VXR, VP, VB, VTup, kof, bl, it, nC, imp0, cK, retP, rmKs, frzD, usOk, expR, expE, exp0]) (by simp (disch := omega) [VE, VXR, VP, VB, VTup, kof, bl, it, nC, imp0, cK, retP, rmKs, frzD, usOk, expR, expE, exp0]) (by simp (disch := omega) [VE, VXR, VP, VB, VTup, kof, bl, it, nC, imp0, cK, retP, rmKs, frzD, usOk, expR, expE, exp0]) (by omega) (by simp (disch := omega) [VE, VXR, VP, VB, VTup, kof, bl, it, nC, imp0, cK, retP, rmKs, frzD, usOk, expR, expE, exp0]) ?_
  · (try simp only [List.length_append]); omega
  simp (disch := omega) [VE, VXR, VP, VB, VTup, kof, bl, it, nC, imp0, cK, retP, rmKs, frzD, usOk, expR, expE, exp0]
  refine VXC_p (writer_raw_ok _ h.root (by omega) ?_) (by simp (disch := omega) [VE, VXR, VP, VB, VTup, kof, bl, it, nC, imp0, cK, retP, rmKs, frzD, usOk, expR, expE, exp0]; exact ⟨rfl, rfl⟩) rfl rfl (by simp (disch := omega) [VE, VXR, VP, VB, VTup, kof, bl, it, nC, imp0, cK, retP, rmKs, frzD, usOk, expR, expE, exp0]; exact ⟨rfl, rfl⟩) (by simp (disch := omega) [VE, VXR, VP, VB, VTup, kof, bl, it, nC, imp0, cK, retP, rmKs, frzD, usOk, expR, expE, exp0]) (by simp (disch := omega) [VE, VXR, VP, VB, VTup, kof, bl, it, nC, imp0, cK, retP, rmKs, frzD, usOk, expR, expE, exp0]) (by simp (disch := omega) [VE, VXR, VP, VB, VTup, kof, bl, it, nC, imp0, cK, retP, rmKs, frzD, usOk, expR, expE, exp0]) (by omega) (by simp (disch := omega) [VE, VXR, VP, VB, VTup, kof, bl, it, nC, imp0, cK, retP, rmKs, frzD, usOk, expR, expE, exp0]) ?_
  · (try simp only [List.length_append]); omega
  simp (disch := omega) [VE, VXR, VP, VB, VTup, kof, bl, it, nC, imp0, cK, retP, rmKs, frzD, usOk, expR, expE, exp0]
  refine VXC_p (writer_qc_ok _ h.qc hs.qc ?_) (by simp (disch := omega) [VE, VXR, VP, VB, VTup, kof, bl, it, nC, imp0, cK, retP, rmKs, frzD, usOk, expR, expE, exp0]; exact ⟨rfl, rfl⟩) rfl rfl (by simp (disch := omega) [VE, VXR, VP, VB, VTup, kof, bl, it, nC, imp0, cK, retP, rmKs, frzD, usOk, expR, expE, exp0]; exact ⟨rfl, rfl⟩) (by simp (disch := omega) [VE, VXR, VP, VB, VTup, kof, bl, it, nC, imp0, cK, retP, rmKs, frzD, usOk, expR, expE, exp0]) (by simp (disch := omega) [VE, VXR, VP, VB, VTup, kof, bl, it, nC, imp0, cK, retP, rmKs, frzD, usOk, expR, expE, exp0]) (by simp (disch := omega) [VE, VXR, VP, VB, VTup, kof, bl, it, nC, imp0, cK, retP, rmKs, frzD, usOk, expR, expE, exp0]) (by omega) (by simp (disch := omega) [VE, VXR, VP, VB, VTup, kof, bl, it, nC, imp0, cK, retP, rmKs, frzD, usOk, expR, expE, exp0]) ?_
  · (try simp only [List.length_append]); omega
  simp (disch := omega) [headB, VE, VXR, VP, VB, VTup, kof, bl, it, nC, imp0, cK, retP, rmKs, frzD, usOk, expR, expE, exp0]
abbrev n_impl_PutHead : Nat := 158
def c_impl_PutHead : AF := ⟨3, 5, [.tmp 6, .tmp 7], (.seq (.ops [.i (.lbox 3 (.s 0)), .i (.lbox 5 (.s 2)), .i (.mov 6 (.c (.val false [.nils]))), .i (.mov 7 (.c (.val false [.bool false])))]) (.seq (.seq (.ops [.i (.ldl 9 3 (.s 3) 5 true), .i (.ldl 10 5 (.s 5) 10 true), .i (.call 12 139 false [(.s 9), (.s 10)]), .i (.not 12 (.s 11))]) (.cond (.s 12) (.seq (.ops [.i (.mov 6 (.c (.val false [.nils]))), .i (.mov 7 (.c (.val false [.bool false])))]) .ret) .skip)) (.seq (.ops [.i (.mov 13 (.s 1)), .i (.call 15 133 false [(.s 13)]), .i (.bld 15 [.nils] [(0, 1, (.s 14))]), .i (.hbox 16 204 (.s 15)), .i (.mov 8 (.s 16))]) (.seq (.ops [.i (.mov 17 (.s 8)), .i (.ldl 18 5 (.s 5) 10 true), .i (.call 20 182 false [(.s 17), (.s 18)])]) (.seq (.ops [.i (.mov 20 (.s 8)), .i (.nch 21 (.s 20)), .i (.fad 22 (.s 21) 0), .i (.ldh 23 (.s 22) 1 false), .i (.mov 6 (.s 23)), .i (.mov 7 (.c (.val false [.bool true])))]) .ret)))))⟩
theorem k_impl_PutHead : cd n_impl_PutHead = some c_impl_PutHead := by kernel_rfl
theorem impl_PutHead_ok (l : Lim) (b : Bytes) (h : Head) (hw : h.wf) (hb : b.length ≤ 900000000) : VC cd n_impl_PutHead (mkP [(true, l.c), (false, [.sl (bytes b)]), (true, h.c)]) (fun rs _ => rs = putE (headOk l h) (b ++ headB h)) := by
  refine VC_enter k_impl_PutHead rfl ?_
  simp (disch := omega) [c_impl_PutHead, Head.c, Lim.c, VE, VXR, VP, VB, VTup, kof, bl, it]
  refine VXC_e (impl_HeadOk_ok l h hw) rfl rfl ?_
  simp (disch := omega) [VE, VXR, VP, VB, VTup, kof, bl, it]
  refine VXB_b (fun h0 => ?_) (fun h0 => ?_)
  case refine_2 => simp (disch := omega) [h0, putE, VE, VXR, VP, VB, VTup, kof, bl, it]
  have hs := headOk_sz h0
  simp (disch := omega) [h0, VE, VXR, VP, VB, VTup, kof, bl, it]
  refine VXC_e (copyBytes_ok b (by omega)) rfl rfl ?_
  simp (disch := omega) [VE, VXR, VP, VB, VTup, kof, bl, it, nC, imp0, cK, retP, rmKs, frzD, usOk, expR, expE, exp0]
  refine VXC_p (writer_head_ok _ h hs ?_) (by simp (disch := omega) [VE, VXR, VP, VB, VTup, kof, bl, it, nC, imp0, cK, retP, rmKs, frzD, usOk, expR, expE, exp0]; exact ⟨rfl, rfl⟩) rfl rfl (by simp (disch := omega) [VE, VXR, VP, VB, VTup, kof, bl, it, nC, imp0, cK, retP, rmKs, frzD, usOk, expR, expE, exp0]; exact ⟨rfl, rfl⟩) (by simp (disch := omega) [VE, VXR, VP, VB, VTup, kof, bl, it, nC, imp0, cK, retP, rmKs, frzD, usOk, expR, expE, exp0]) (by simp (disch := omega) [VE, VXR, VP, VB, VTup, kof, bl, it, nC, imp0, cK, retP, rmKs, frzD, usOk, expR, expE, exp0]) (by simp (disch := omega) [VE, VXR, VP, VB, VTup, kof, bl, it, nC, imp0, cK, retP, rmKs, frzD, usOk, expR, expE, exp0]) (by omega) (by simp (disch := omega) [VE, VXR, VP, VB, VTup, kof, bl, it, nC, imp0, cK, retP, rmKs, frzD, usOk, expR, expE, exp0]) ?_
  · (try simp only [List.length_append]); omega
  simp (disch := omega) [putE, h0, VE, VXR, VP, VB, VTup, kof, bl, it, nC, imp0, cK, retP, rmKs, frzD, usOk, expR, expE, exp0]
abbrev n_spec_PutHead : Nat := 157
def c_spec_PutHead : AF := ⟨3, 6, [.tmp 6, .tmp 7], (.seq (.ops [.i (.lbox 3 (.s 0)), .i (.lbox 5 (.s 2)), .i (.mov 6 (.c (.val false [.nils]))), .i (.mov 7 (.c (.val false [.bool false])))]) (.seq (.seq (.ops [.i (.ldl 9 3 (.s 3) 5 true), .i (.ldl 10 5 (.s 5) 10 true), .i (.call 12 99 false [(.s 9), (.s 10)]), .i (.not 12 (.s 11))]) (.cond (.s 12) (.seq (.ops [.i (.mov 6 (.c (.val false [.nils]))), .i (.mov 7 (.c (.val false [.bool false])))]) .ret) .skip)) (.seq (.ops [.i (.mov 13 (.s 1)), .i (.fad 14 (.s 5) 0), .i (.ldl 15 5 (.s 14) 1 false), .i (.call 17 180 false [(.s 13), (.s 15)]), .i (.fad 17 (.s 5) 1), .i (.ldl 18 5 (.s 17) 1 false), .i (.call 20 180 false [(.s 16), (.s 18)]), .i (.fad 20 (.s 5) 2), .i (.ldl 21 5 (.s 20) 1 false), .i (.call 23 180 false [(.s 19), (.s 21)]), .i (.mov 8 (.s 22))]) (.seq (.ops [.i (.mov 23 (.s 8)), .i (.fad 24 (.s 5) 3), .i (.ldl 25 5 (.s 24) 1 false), .i (.app 26 5 1 1 (.s 23) (.s 25)), .i (.fad 27 (.s 5) 4), .i (.ldl 28 5 (.s 27) 1 false), .i (.app 29 5 1 1 (.s 26) (.s 28)), .i (.mov 8 (.s 29))]) (.seq (.ops [.i (.ldl 30 3 (.s 3) 5 true), .i (.mov 31 (.s 8)), .i (.fad 32 (.s 5) 5), .i (.ldl 33 5 (.s 32) 5 true), .i (.call 35 181 false [(.s 30), (.s 31), (.s 33)]), .i (.ext 35 (.s 34) 0), .i (.ext 36 (.s 34) 1), .i (.mov 6 (.s 35)), .i (.mov 7 (.s 36))]) .ret)))))⟩
theorem k_spec_PutHead : cd n_spec_PutHead = some c_spec_PutHead := by kernel_rfl
theorem spec_PutHead_ok (l : Lim) (b : Bytes) (h : Head) (hw : h.wf) (hb : b.length ≤ 900000000) : VC cd n_spec_PutHead (mkP [(true, l.c), (false, [.sl (bytes b)]), (true, h.c)]) (fun rs _ => rs = putE (headOk l h) (b ++ headB h)) := by
  refine VC_enter k_spec_PutHead rfl ?_
  simp (disch := omega) [c_spec_PutHead, Head.c, Lim.c, VE, VXR, VP, VB, VTup, kof, bl, it]
  refine VXC_e (spec_HeadOk_ok l h hw) rfl rfl ?_
  simp (disch := omega) [VE, VXR, VP, VB, VTup, kof, bl, it]
  refine VXB_b (fun h0 => ?_) (fun h0 => ?_)
  case refine_2 => simp (disch := omega) [h0, putE, VE, VXR, VP, VB, VTup, kof, bl, it]
  have hs := headOk_sz h0
  have h1 := varB_num hs.view
  have h2 := varB_num hs.height
  have h3 := varB_num hs.proposer
  have h4 := hs.parent
  have h5 := hs.root
  simp (disch := omega) [h0, VE, VXR, VP, VB, VTup, kof, bl, it]
  refine VXC_e (l11Num_ok b h.view hs.view (by omega)) rfl rfl ?_
  simp (disch := omega) [VE, VXR, VP, VB, VTup, kof, bl, it]
  refine VXC_e (l11Num_ok (b ++ varB h.view.toNat) h.height hs.height (by simp only [List.length_append]; omega)) rfl rfl ?_
  simp (disch := omega) [VE, VXR, VP, VB, VTup, kof, bl, it]
  refine VXC_e (l11Num_ok (b ++ (varB h.view.toNat ++ varB h.height.toNat)) h.proposer hs.proposer (by simp only [List.length_append]; omega)) rfl rfl ?_
  simp (disch := omega) [bytes_app, bytes_len, VE, VXR, VP, VB, VTup, kof, bl, it]
  refine VXC_e ((spec_PutQc_ok l (b ++ (varB h.view.toNat ++ (varB h.height.toNat ++ (varB h.proposer.toNat ++ (h.parent ++ h.root))))) h.qc hw.2.2.2.2.2 (by simp only [List.length_append]; omega)).re (putE_t (headOk_qc h0))) (by simp [argsD, argDs, argD, St.slc, lk_cons, lk] <;> first | rfl | exact ⟨rfl, rfl⟩ | exact ⟨rfl, rfl, rfl⟩) rfl ?_
  simp (disch := omega) [putE, h0, headB, VE, VXR, VP, VB, VTup, kof, bl, it]
/-! ### The hash of a header -/
def hhash (l : Lim) (h : Head) : Bytes := if headOk l h then sha (72 :: headB h) else []
def hhashE (l : Lim) (h : Head) : List (Bool × List E) := if headOk l h then [(false, [.o true (some (5, 1)) (bytes (sha (72 :: headB h)))])] else [(false, [.p .nils])]
abbrev n_impl_HeadHash : Nat := 115
def c_impl_HeadHash : AF := ⟨2, 5, [.tmp 4], (.seq (.ops [.i (.lbox 2 (.s 0)), .i (.lbox 3 (.s 1)), .i (.mov 4 (.c (.val false [.nils])))]) (.seq (.ops [.i (.ldl 8 2 (.s 2) 5 true), .i (.bsl 9 5 1 1 [.int .u8 0] [(0, 1, (.c (.val false [.int .u8 72])))]), .i (.ldl 10 3 (.s 3) 10 true), .i (.call 12 158 false [(.s 8), (.s 9), (.s 10)]), .i (.mov 7 (.s 11)), .i (.ext 12 (.s 7) 0), .i (.ext 13 (.s 7) 1), .i (.mov 5 (.s 12)), .i (.mov 6 (.s 13))]) (.seq (.seq (.ops [.i (.mov 14 (.s 6)), .i (.not 15 (.s 14))]) (.cond (.s 15) (.seq (.ops [.i (.mov 4 (.c (.val false [.nils])))]) .ret) .skip)) (.seq (.ops [.i (.mov 16 (.s 5)), .i (.call 18 135 false [(.s 16)]), .i (.mov 4 (.s 17))]) .ret))))⟩
theorem k_impl_HeadHash : cd n_impl_HeadHash = some c_impl_HeadHash := by kernel_rfl
theorem impl_HeadHash_ok (l : Lim) (h : Head) (hw : h.wf) : VC cd n_impl_HeadHash (mkP [(true, l.c), (true, h.c)]) (fun rs _ => rs = hhashE l h) := by
  have e : [[D.int .u8 72]] = bytes [72] := rfl
  refine VC_enter k_impl_HeadHash rfl ?_
  simp (disch := omega) [c_impl_HeadHash, Head.c, Lim.c, e, VE, VXR, VP, VB, VTup, kof, bl, it]
  cases h0 : headOk l h with
  | false =>
    refine VXC_e ((impl_PutHead_ok l [72] h hw (by simp)).re (putE_f h0)) (by simp [argsD, argDs, argD, St.slc, lk_cons, lk] <;> first | rfl | exact ⟨rfl, rfl⟩ | exact ⟨rfl, rfl, rfl⟩) rfl ?_
    simp (disch := omega) [hhashE, h0, VE, VXR, VP, VB, VTup, kof, bl, it]
  | true =>
    have hs := headB_len (headOk_sz h0)
    refine VXC_e ((impl_PutHead_ok l [72] h hw (by simp)).re (putE_t h0)) (by simp [argsD, argDs, argD, St.slc, lk_cons, lk] <;> first | rfl | exact ⟨rfl, rfl⟩ | exact ⟨rfl, rfl, rfl⟩) rfl ?_
    simp (disch := omega) [VE, VXR, VP, VB, VTup, kof, bl, it]
    refine VXC_e (impl_Sha_ok (72 :: headB h) (by simp; omega)) (by simp [argsD, argDs, argD, St.slc, lk_cons, lk] <;> first | rfl | exact ⟨rfl, rfl⟩ | exact ⟨rfl, rfl, rfl⟩) rfl ?_
    simp (disch := omega) [hhashE, h0, VE, VXR, VP, VB, VTup, kof, bl, it]
abbrev n_spec_HeadHash : Nat := 113
def c_spec_HeadHash : AF := ⟨2, 5, [.tmp 4], (.seq (.ops [.i (.lbox 2 (.s 0)), .i (.lbox 3 (.s 1)), .i (.mov 4 (.c (.val false [.nils])))]) (.seq (.ops [.i (.ldl 8 2 (.s 2) 5 true), .i (.bsl 9 5 1 1 [.int .u8 0] [(0, 1, (.c (.val false [.int .u8 72])))]), .i (.ldl 10 3 (.s 3) 10 true), .i (.call 12 157 false [(.s 8), (.s 9), (.s 10)]), .i (.mov 7 (.s 11)), .i (.ext 12 (.s 7) 0), .i (.ext 13 (.s 7) 1), .i (.mov 5 (.s 12)), .i (.mov 6 (.s 13))]) (.seq (.seq (.ops [.i (.mov 14 (.s 6)), .i (.not 15 (.s 14))]) (.cond (.s 15) (.seq (.ops [.i (.mov 4 (.c (.val false [.nils])))]) .ret) .skip)) (.seq (.ops [.i (.mov 16 (.s 5)), .i (.call 18 129 false [(.s 16)]), .i (.mov 4 (.s 17))]) .ret))))⟩
theorem k_spec_HeadHash : cd n_spec_HeadHash = some c_spec_HeadHash := by kernel_rfl
theorem spec_HeadHash_ok (l : Lim) (h : Head) (hw : h.wf) : VC cd n_spec_HeadHash (mkP [(true, l.c), (true, h.c)]) (fun rs _ => rs = hhashE l h) := by
  have e : [[D.int .u8 72]] = bytes [72] := rfl
  refine VC_enter k_spec_HeadHash rfl ?_
  simp (disch := omega) [c_spec_HeadHash, Head.c, Lim.c, e, VE, VXR, VP, VB, VTup, kof, bl, it]
  cases h0 : headOk l h with
  | false =>
    refine VXC_e ((spec_PutHead_ok l [72] h hw (by simp)).re (putE_f h0)) (by simp [argsD, argDs, argD, St.slc, lk_cons, lk] <;> first | rfl | exact ⟨rfl, rfl⟩ | exact ⟨rfl, rfl, rfl⟩) rfl ?_
    simp (disch := omega) [hhashE, h0, VE, VXR, VP, VB, VTup, kof, bl, it]
  | true =>
    have hs := headB_len (headOk_sz h0)
    refine VXC_e ((spec_PutHead_ok l [72] h hw (by simp)).re (putE_t h0)) (by simp [argsD, argDs, argD, St.slc, lk_cons, lk] <;> first | rfl | exact ⟨rfl, rfl⟩ | exact ⟨rfl, rfl, rfl⟩) rfl ?_
    simp (disch := omega) [VE, VXR, VP, VB, VTup, kof, bl, it]
    refine VXC_e (spec_Sha_ok (72 :: headB h) (by simp; omega)) (by simp [argsD, argDs, argD, St.slc, lk_cons, lk] <;> first | rfl | exact ⟨rfl, rfl⟩ | exact ⟨rfl, rfl, rfl⟩) rfl ?_
    simp (disch := omega) [hhashE, h0, VE, VXR, VP, VB, VTup, kof, bl, it]
end Go.Eng.F
/-
  Functions: links, forests.
-/
set_option maxRecDepth 100000
set_option linter.unusedSimpArgs false
set_option linter.unusedVariables false
namespace Go.Eng.F
theorem hhashE_t {l : Lim} {h : Head} (e : headOk l h = true) : hhashE l h = [(false, [.o true (some (5, 1)) (bytes (sha (72 :: headB h)))])] := by unfold hhashE; rw [e]; rfl
theorem hhashE_f {l : Lim} {h : Head} (e : headOk l h = false) : hhashE l h = [(false, [.p .nils])] := by unfold hhashE; rw [e]; rfl
theorem hhash_t {l : Lim} {h : Head} (e : headOk l h = true) : hhash l h = sha (72 :: headB h) := by unfold hhash; rw [e]; rfl
def links (l : Lim) (a b : Head) : Bool := headOk l a && headOk l b && decide (b.parent = hhash l a) && decide (b.qc.view = a.view) && decide (b.qc.height = a.height)
abbrev n_impl_Links : Nat := 123
def c_impl_Links : AF := ⟨3, 6, [.tmp 6], (.seq (.ops [.i (.lbox 3 (.s 0)), .i (.lbox 4 (.s 1)), .i (.lbox 5 (.s 2)), .i (.mov 6 (.c (.val false [.bool false])))]) (.seq (.ops [.i (.ldl 7 3 (.s 3) 5 true), .i (.ldl 8 4 (.s 4) 10 true), .i (.call 10 139 false [(.s 7), (.s 8)]), .i (.mov 10 (.s 9)), .g 10 true 12 (.ldl 11 3 (.s 3) 5 true), .g 10 true 13 (.ldl 12 5 (.s 5) 10 true), .g 10 true 14 (.call 14 139 false [(.s 11), (.s 12)]), .i (.pick 14 (.s 10) (.s 13) (.c (.val false [.bool false]))), .i (.mov 15 (.s 14)), .g 15 true 17 (.fad 16 (.s 5) 3), .g 15 true 18 (.ldl 17 5 (.s 16) 1 false), .g 15 true 19 (.ldl 18 3 (.s 3) 5 true), .g 15 true 20 (.ldl 19 4 (.s 4) 10 true), .g 15 true 21 (.call 21 115 false [(.s 18), (.s 19)]), .g 15 true 22 (.call 22 114 false [(.s 17), (.s 20)]), .i (.pick 22 (.s 15) (.s 21) (.c (.val false [.bool false]))), .i (.mov 23 (.s 22)), .g 23 true 25 (.fad 24 (.s 5) 5), .g 23 true 26 (.fad 25 (.s 24) 0), .g 23 true 27 (.ldl 26 5 (.s 25) 1 false), .g 23 true 28 (.fad 27 (.s 4) 0), .g 23 true 29 (.ldl 28 4 (.s 27) 1 false), .g 23 true 30 (.bin 29 .eql (.s 26) (.s 28)), .i (.pick 30 (.s 23) (.s 29) (.c (.val false [.bool false]))), .i (.mov 31 (.s 30)), .g 31 true 33 (.fad 32 (.s 5) 5), .g 31 true 34 (.fad 33 (.s 32) 1), .g 31 true 35 (.ldl 34 5 (.s 33) 1 false), .g 31 true 36 (.fad 35 (.s 4) 1), .g 31 true 37 (.ldl 36 4 (.s 35) 1 false), .g 31 true 38 (.bin 37 .eql (.s 34) (.s 36)), .i (.pick 38 (.s 31) (.s 37) (.c (.val false [.bool false]))), .i (.mov 6 (.s 38))]) .ret))⟩
theorem k_impl_Links : cd n_impl_Links = some c_impl_Links := by kernel_rfl
theorem impl_Links_ok (l : Lim) (a b : Head) (ha : a.wf) (hb : b.wf) : VC cd n_impl_Links (mkP [(true, l.c), (true, a.c), (true, b.c)]) (fun rs _ => rs = bl (links l a b)) := by
  refine VC_enter k_impl_Links rfl ?_
  simp (disch := omega) [c_impl_Links, Head.c, Lim.c, VE, VXR, VP, VB, VTup, kof, bl, it]
  refine VXC_e (impl_HeadOk_ok l a ha) (by simp [argsD, argDs, argD, St.slc, lk_cons, lk] <;> first | rfl | exact ⟨rfl, rfl⟩ | exact ⟨rfl, rfl, rfl⟩) rfl ?_
  simp (disch := omega) [VE, VXR, VP, VB, VTup, kof, bl, it]
  refine VXB_b (fun h1 => ?_) (fun h1 => ?_) <;> simp (disch := omega) [h1, links, VE, VXR, VP, VB, VTup, kof, bl, it]
  refine VXC_e (impl_HeadOk_ok l b hb) (by simp [argsD, argDs, argD, St.slc, lk_cons, lk] <;> first | rfl | exact ⟨rfl, rfl⟩ | exact ⟨rfl, rfl, rfl⟩) rfl ?_
  simp (disch := omega) [VE, VXR, VP, VB, VTup, kof, bl, it]
  refine VXB_b (fun h2 => ?_) (fun h2 => ?_) <;> simp (disch := omega) [h1, h2, VE, VXR, VP, VB, VTup, kof, bl, it]
  refine VXC_e ((impl_HeadHash_ok l a ha).re (hhashE_t h1)) (by simp [argsD, argDs, argD, St.slc, lk_cons, lk] <;> first | rfl | exact ⟨rfl, rfl⟩ | exact ⟨rfl, rfl, rfl⟩) rfl ?_
  simp (disch := omega) [VE, VXR, VP, VB, VTup, kof, bl, it]
  refine VXC_e (impl_SameBytes_ok b.parent (sha (72 :: headB a))) (by simp [argsD, argDs, argD, St.slc, lk_cons, lk] <;> first | rfl | exact ⟨rfl, rfl⟩ | exact ⟨rfl, rfl, rfl⟩) rfl ?_
  simp (disch := omega) [VE, VXR, VP, VB, VTup, kof, bl, it]
  rw [hhash_t h1]
  refine VXB_dec (fun h3 => ?_) (fun h3 => ?_) <;> simp (disch := omega) [h1, h2, h3, VE, VXR, VP, VB, VTup, kof, bl, it]
  refine VXB_dec (fun h4 => ?_) (fun h4 => ?_) <;> simp (disch := omega) [h1, h2, h3, h4, VE, VXR, VP, VB, VTup, kof, bl, it]
abbrev n_spec_Links : Nat := 122
def c_spec_Links : AF := ⟨3, 6, [.tmp 6], (.seq (.ops [.i (.lbox 3 (.s 0)), .i (.lbox 4 (.s 1)), .i (.lbox 5 (.s 2)), .i (.mov 6 (.c (.val false [.bool false])))]) (.seq (.ops [.i (.ldl 7 3 (.s 3) 5 true), .i (.ldl 8 4 (.s 4) 10 true), .i (.call 10 99 false [(.s 7), (.s 8)]), .i (.mov 10 (.s 9)), .g 10 true 12 (.ldl 11 3 (.s 3) 5 true), .g 10 true 13 (.ldl 12 5 (.s 5) 10 true), .g 10 true 14 (.call 14 99 false [(.s 11), (.s 12)]), .i (.pick 14 (.s 10) (.s 13) (.c (.val false [.bool false]))), .i (.mov 15 (.s 14)), .g 15 true 17 (.fad 16 (.s 5) 3), .g 15 true 18 (.ldl 17 5 (.s 16) 1 false), .g 15 true 19 (.ldl 18 3 (.s 3) 5 true), .g 15 true 20 (.ldl 19 4 (.s 4) 10 true), .g 15 true 21 (.call 21 113 false [(.s 18), (.s 19)]), .g 15 true 22 (.call 22 112 false [(.s 17), (.s 20)]), .i (.pick 22 (.s 15) (.s 21) (.c (.val false [.bool false]))), .i (.mov 23 (.s 22)), .g 23 true 25 (.fad 24 (.s 5) 5), .g 23 true 26 (.fad 25 (.s 24) 0), .g 23 true 27 (.ldl 26 5 (.s 25) 1 false), .g 23 true 28 (.fad 27 (.s 4) 0), .g 23 true 29 (.ldl 28 4 (.s 27) 1 false), .g 23 true 30 (.bin 29 .eql (.s 26) (.s 28)), .i (.pick 30 (.s 23) (.s 29) (.c (.val false [.bool false]))), .i (.mov 31 (.s 30)), .g 31 true 33 (.fad 32 (.s 5) 5), .g 31 true 34 (.fad 33 (.s 32) 1), .g 31 true 35 (.ldl 34 5 (.s 33) 1 false), .g 31 true 36 (.fad 35 (.s 4) 1), .g 31 true 37 (.ldl 36 4 (.s 35) 1 false), .g 31 true 38 (.bin 37 .eql (.s 34) (.s 36)), .i (.pick 38 (.s 31) (.s 37) (.c (.val false [.bool false]))), .i (.mov 6 (.s 38))]) .ret))⟩
theorem k_spec_Links : cd n_spec_Links = some c_spec_Links := by kernel_rfl
theorem spec_Links_ok (l : Lim) (a b : Head) (ha : a.wf) (hb : b.wf) : VC cd n_spec_Links (mkP [(true, l.c), (true, a.c), (true, b.c)]) (fun rs _ => rs = bl (links l a b)) := by
  refine VC_enter k_spec_Links rfl ?_
  simp (disch := omega) [c_spec_Links, Head.c, Lim.c, VE, VXR, VP, VB, VTup, kof, bl, it]
  refine VXC_e (spec_HeadOk_ok l a ha) (by simp [argsD, argDs, argD, St.slc, lk_cons, lk] <;> first | rfl | exact ⟨rfl, rfl⟩ | exact ⟨rfl, rfl, rfl⟩) rfl ?_
  simp (disch := omega) [VE, VXR, VP, VB, VTup, kof, bl, it]
  refine VXB_b (fun h1 => ?_) (fun h1 => ?_) <;> simp (disch := omega) [h1, links, VE, VXR, VP, VB, VTup, kof, bl, it]
  refine VXC_e (spec_HeadOk_ok l b hb) (by simp [argsD, argDs, argD, St.slc, lk_cons, lk] <;> first | rfl | exact ⟨rfl, rfl⟩ | exact ⟨rfl, rfl, rfl⟩) rfl ?_
  simp (disch := omega) [VE, VXR, VP, VB, VTup, kof, bl, it]
  refine VXB_b (fun h2 => ?_) (fun h2 => ?_) <;> simp (disch := omega) [h1, h2, VE, VXR, VP, VB, VTup, kof, bl, it]
  refine VXC_e ((spec_HeadHash_ok l a ha).re (hhashE_t h1)) (by simp [argsD, argDs, argD, St.slc, lk_cons, lk] <;> first | rfl | exact ⟨rfl, rfl⟩ | exact ⟨rfl, rfl, rfl⟩) rfl ?_
  simp (disch := omega) [VE, VXR, VP, VB, VTup, kof, bl, it]
  refine VXC_e (spec_SameBytes_ok b.parent (sha (72 :: headB a))) (by simp [argsD, argDs, argD, St.slc, lk_cons, lk] <;> first | rfl | exact ⟨rfl, rfl⟩ | exact ⟨rfl, rfl, rfl⟩) rfl ?_
  simp (disch := omega) [VE, VXR, VP, VB, VTup, kof, bl, it]
  rw [hhash_t h1]
  refine VXB_dec (fun h3 => ?_) (fun h3 => ?_) <;> simp (disch := omega) [h1, h2, h3, VE, VXR, VP, VB, VTup, kof, bl, it]
  refine VXB_dec (fun h4 => ?_) (fun h4 => ?_) <;> simp (disch := omega) [h1, h2, h3, h4, VE, VXR, VP, VB, VTup, kof, bl, it]
/-! ### Forests -/
structure Forest where
  l : Lim
  heads : List Head
def Forest.c (f : Forest) : List D := f.l.c ++ [.sl (hds f.heads)]
def Forest.wf (f : Forest) : Prop := HeadsWf f.heads
def Forest.wc (f : Forest) : Prop := Sz f.heads.length ∧ ∀ h ∈ f.heads, h.wc
theorem Forest.wc.wf {f : Forest} (h : f.wc) : f.wf := ⟨h.1, fun x hx => (h.2 x hx).1⟩
def hh (l : Lim) (hs : List Head) (i : Nat) : Bytes := match hs[i]? with | some h => hhash l h | none => []
theorem hh_get {l : Lim} {hs : List Head} {i : Nat} (h : i < hs.length) : hh l hs i = hhash l hs[i] := by simp [hh, h]
def Dist (l : Lim) (hs : List Head) : Prop := ∀ i, i < hs.length → ∀ j, j < i → hh l hs i ≠ hh l hs j
noncomputable def dist (l : Lim) (hs : List Head) : Bool := @decide (Dist l hs) (Classical.propDecidable _)
theorem dist_t {l : Lim} {hs : List Head} (h : Dist l hs) : dist l hs = true := by unfold dist; exact @decide_eq_true _ (Classical.propDecidable _) h
theorem dist_f {l : Lim} {hs : List Head} {i j : Nat} (hi : i < hs.length) (hj : j < i) (h : hh l hs i = hh l hs j) : dist l hs = false := by unfold dist; exact @decide_eq_false _ (Classical.propDecidable _) (fun hd => hd i hi j hj h)
noncomputable def forestOk (f : Forest) : Bool := f.l.ok && decide ((f.heads.length : Int) ≤ 10) && headsOk f.l f.heads && dist f.l f.heads
theorem hds_take (hs : List Head) (i : Nat) : (hds hs).take i = hds (hs.take i) := by simp [hds]
theorem hds_tget {hs : List Head} {i j : Nat} (h : j < i) (hi : i < hs.length) : (hds (hs.take i))[j]? = some hs[j].c := by
  have : j < (hs.take i).length := by simp; omega
  rw [hds_get this]
  simp
theorem bytes_nil : bytes [] = [] := rfl
theorem ne_next {l : Lim} {hs : List Head} {i j : Nat} (h : ∀ b, b < j → hh l hs i ≠ hh l hs b) (hn : hh l hs i ≠ hh l hs j) : ∀ b, b < j + 1 → hh l hs i ≠ hh l hs b := fun b hb => by
  rcases Nat.lt_or_ge b j with hl | hl
  · exact h b hl
  · obtain rfl : b = j := by omega
    exact hn
theorem dist_next {l : Lim} {hs : List Head} {i : Nat} (h : ∀ a, a < i → ∀ b, b < a → hh l hs a ≠ hh l hs b) (hn : ∀ b, b < i → hh l hs i ≠ hh l hs b) : ∀ a, a < i + 1 → ∀ b, b < a → hh l hs a ≠ hh l hs b := fun a ha b hb => by
  rcases Nat.lt_or_ge a i with hl | hl
  · exact h a hl b hb
  · obtain rfl : a = i := by omega
    exact hn b hb
theorem mem_take {α : Type} {l : List α} {i j : Nat} (h : j < l.length) (hj : j < i) : l[j] ∈ l.take i := by
  have : j < (l.take i).length := by simp; omega
  have e : (l.take i)[j] = l[j] := by simp
  rw [← e]
  exact List.getElem_mem this
abbrev n_impl_ForestOk : Nat := 118
def c_impl_ForestOk : AF := ⟨1, 6, [.tmp 2], (.seq (.ops [.i (.lbox 1 (.s 0)), .i (.mov 2 (.c (.val false [.bool false])))]) (.seq (.seq (.ops [.i (.fad 7 (.s 1) 5), .i (.ldl 8 1 (.s 7) 1 false), .i (.len 9 false (.s 8)), .i (.mov 10 (.c (.val false [.int .i64 0])))]) (.block 0 (.loop [34, 33, 32, 31, 30, 29, 28, 27, 26, 25, 24, 23, 22, 21, 20, 19, 18, 17, 16, 15, 14, 13, 12, 11, 6, 4, 3] (.seq (.ops [.i (.bin 11 .lss (.s 10) (.s 9))]) (.seq (.cond (.s 11) .skip (.exit 0)) (.seq (.block 1 (.seq (.ops [.i (.mov 12 (.s 10)), .i (.iad 13 (.s 8) (.s 10) 10), .i (.ldh 14 (.s 13) 10 true), .i (.lal 4 [.int .i64 0, .int .i64 0, .int .i64 0, .nils, .nils, .int .i64 0, .int .i64 0, .nils, .nils, .nils]), .i (.mov 3 (.s 12)), .i (.stl 4 (.s 4) (.s 14) 10)]) (.seq (.ops [.i (.fad 15 (.s 1) 5), .i (.ldl 16 1 (.s 15) 1 false), .i (.mov 17 (.s 3)), .i (.slc 18 10 (.s 16) none (some (.s 17))), .i (.len 19 false (.s 18)), .i (.mov 20 (.c (.val false [.int .i64 0])))]) (.block 2 (.loop [33, 32, 31, 30, 29, 28, 27, 26, 25, 24, 23, 22, 21, 6] (.seq (.ops [.i (.bin 21 .lss (.s 20) (.s 19))]) (.seq (.cond (.s 21) .skip (.exit 2)) (.seq (.block 3 (.seq (.ops [.i (.iad 22 (.s 18) (.s 20) 10), .i (.ldh 23 (.s 22) 10 true), .i (.lal 6 [.int .i64 0, .int .i64 0, .int .i64 0, .nils, .nils, .int .i64 0, .int .i64 0, .nils, .nils, .nils]), .i (.stl 6 (.s 6) (.s 23) 10)]) (.seq (.ops [.i (.fad 24 (.s 1) 0), .i (.ldl 25 1 (.s 24) 5 true), .i (.ldl 26 4 (.s 4) 10 true), .i (.call 28 115 false [(.s 25), (.s 26)]), .i (.fad 28 (.s 1) 0), .i (.ldl 29 1 (.s 28) 5 true), .i (.ldl 30 6 (.s 6) 10 true), .i (.call 32 115 false [(.s 29), (.s 30)]), .i (.call 33 114 false [(.s 27), (.s 31)])]) (.cond (.s 32) (.seq (.ops [.i (.mov 2 (.c (.val false [.bool false])))]) .ret) .skip)))) (.ops [.i (.bin 33 .add (.s 20) (.c (.val false [.int .i64 1]))), .i (.mov 20 (.s 33))]))))))))) (.ops [.i (.bin 34 .add (.s 10) (.c (.val false [.int .i64 1]))), .i (.mov 10 (.s 34))]))))))) (.seq (.ops [.i (.fad 35 (.s 1) 0), .i (.ldl 36 1 (.s 35) 5 true), .i (.call 38 152 false [(.s 36)]), .i (.mov 38 (.s 37)), .g 38 true 40 (.fad 39 (.s 1) 5), .g 38 true 41 (.ldl 40 1 (.s 39) 1 false), .g 38 true 42 (.len 41 false (.s 40)), .g 38 true 43 (.bin 42 .leq (.s 41) (.c (.val false [.int .i64 10]))), .i (.pick 43 (.s 38) (.s 42) (.c (.val false [.bool false]))), .i (.mov 44 (.s 43)), .g 44 true 46 (.fad 45 (.s 1) 0), .g 44 true 47 (.ldl 46 1 (.s 45) 5 true), .g 44 true 48 (.fad 47 (.s 1) 5), .g 44 true 49 (.ldl 48 1 (.s 47) 1 false), .g 44 true 50 (.call 50 108 false [(.s 46), (.s 48)]), .i (.pick 50 (.s 44) (.s 49) (.c (.val false [.bool false]))), .i (.mov 2 (.s 50))]) .ret)))⟩
theorem k_impl_ForestOk : cd n_impl_ForestOk = some c_impl_ForestOk := by kernel_rfl
theorem impl_ForestOk_ok (f : Forest) (hw : f.wf) : VC cd n_impl_ForestOk (mkP [(true, f.c)]) (fun rs _ => rs = bl (forestOk f)) := by
  obtain ⟨w1, w2⟩ := hw
  simp only [Sz] at w1
  refine VC_enter k_impl_ForestOk rfl ?_
  simp (disch := omega) [c_impl_ForestOk, Forest.c, Lim.c, hds_len, VE, VXR, VP, VB, VTup, kof, bl, it]
  refine VX_loop3 (σ := Nat) (f1 := _) (es0 := _) (by simp (disch := omega) [VE, VXR, VP, VB, VTup, kof, bl, it]; rfl) (by simp (disch := omega) [VE, VXR, VP, VB, VTup, kof, bl, it]; rfl) (fun i => [(10, .val false [.int .i64 (i : Int)])]) (fun _ => []) (fun i g => g + i = f.heads.length ∧ ∀ a, a < i → ∀ b, b < a → hh f.l f.heads a ≠ hh f.l f.heads b) 0 f.heads.length (by simp (disch := omega) [VE, VXR, VP, VB, VTup, kof, bl, it]) (by simp (disch := omega) [VE, VXR, VP, VB, VTup, kof, bl, it]) ⟨by omega, fun a ha => by omega⟩ ?_
  rintro i n g ⟨hg, hd⟩
  simp (disch := omega) [VE, VXR, VP, VB, VTup, kof, bl, it]
  refine VXB_dec (fun h1 => ?_) (fun h1 => ?_)
  · have hi : i < f.heads.length := by omega
    have w3 := w2 _ (List.getElem_mem hi)
    have hle : i ≤ f.heads.length := by omega
    simp (disch := omega) [hds_get hi, Head.c, hds_len, wid_hds, hds_take, hle, VE, VXR, VP, VB, VTup, kof, bl, it]
    refine VX_loop3 (σ := Nat) (f1 := _) (es0 := _) (by simp (disch := omega) [VE, VXR, VP, VB, VTup, kof, bl, it]; rfl) (by simp (disch := omega) [VE, VXR, VP, VB, VTup, kof, bl, it]; rfl) (fun j => [(20, .val false [.int .i64 (j : Int)])]) (fun _ => []) (fun j g => g + j = i ∧ ∀ b, b < j → hh f.l f.heads i ≠ hh f.l f.heads b) 0 i (by simp (disch := omega) [VE, VXR, VP, VB, VTup, kof, bl, it]) (by simp (disch := omega) [VE, VXR, VP, VB, VTup, kof, bl, it]) ⟨by omega, fun b hb => by omega⟩ ?_
    rintro j n2 g2 ⟨hg2, hd2⟩
    simp (disch := omega) [VE, VXR, VP, VB, VTup, kof, bl, it]
    refine VXB_dec (fun h2 => ?_) (fun h2 => ?_)
    · have hj : j < i := by omega
      have hj2 : j < f.heads.length := by omega
      have w4 := w2 _ (List.getElem_mem hj2)
      simp (disch := omega) [hds_tget hj hi, Head.c, VE, VXR, VP, VB, VTup, kof, bl, it]
      cases h3 : headOk f.l f.heads[i] <;> cases h4 : headOk f.l f.heads[j]
      all_goals
        first | refine VXC_e ((impl_HeadHash_ok f.l f.heads[i] w3).re (hhashE_t h3)) (by simp [argsD, argDs, argD, St.slc, lk_cons, lk] <;> first | rfl | exact ⟨rfl, rfl⟩ | exact ⟨rfl, rfl, rfl⟩) rfl ?_ | refine VXC_e ((impl_HeadHash_ok f.l f.heads[i] w3).re (hhashE_f h3)) (by simp [argsD, argDs, argD, St.slc, lk_cons, lk] <;> first | rfl | exact ⟨rfl, rfl⟩ | exact ⟨rfl, rfl, rfl⟩) rfl ?_
        simp (disch := omega) [VE, VXR, VP, VB, VTup, kof, bl, it]
        first | refine VXC_e ((impl_HeadHash_ok f.l f.heads[j] w4).re (hhashE_t h4)) (by simp [argsD, argDs, argD, St.slc, lk_cons, lk] <;> first | rfl | exact ⟨rfl, rfl⟩ | exact ⟨rfl, rfl, rfl⟩) rfl ?_ | refine VXC_e ((impl_HeadHash_ok f.l f.heads[j] w4).re (hhashE_f h4)) (by simp [argsD, argDs, argD, St.slc, lk_cons, lk] <;> first | rfl | exact ⟨rfl, rfl⟩ | exact ⟨rfl, rfl, rfl⟩) rfl ?_
        simp (disch := omega) [VE, VXR, VP, VB, VTup, kof, bl, it]
        refine VXC_e (impl_SameBytes_ok (hh f.l f.heads i) (hh f.l f.heads j)) (by simp [hh_get hi, hh_get hj2, hhash, h3, h4, bytes_nil, argsD, argDs, argD, St.slc, lk_cons, lk] <;> first | rfl | exact ⟨rfl, rfl⟩ | exact ⟨rfl, rfl, rfl⟩) rfl ?_
        simp (disch := omega) [VE, VXR, VP, VB, VTup, kof, bl, it]
        refine VXB_dec (fun h5 => ?_) (fun h5 => ?_)
        · simp (disch := omega) [forestOk, dist_f hi hj h5, VE, VXR, VP, VB, VTup, kof, bl, it]
        · simp (disch := omega) [VE, VXR, VP, VB, VTup, kof, bl, it]
          exact ⟨j + 1, g2 - 1, by omega, ⟨by omega, ne_next hd2 h5⟩, by simp⟩
    · have hj : j = i := by omega
      subst hj
      simp (disch := omega) [VE, VXR, VP, VB, VTup, kof, bl, it]
      exact ⟨j + 1, g - 1, by omega, ⟨by omega, dist_next hd hd2⟩, by simp⟩
  · have hi : i = f.heads.length := by omega
    subst hi
    have h5 := dist_t hd
    simp (disch := omega) [VE, VXR, VP, VB, VTup, kof, bl, it]
    refine VXC_e (impl_LimitsOk_ok f.l) rfl rfl ?_
    simp (disch := omega) [hds_len, VE, VXR, VP, VB, VTup, kof, bl, it]
    refine VXB_b (fun h2 => ?_) (fun h2 => ?_) <;> simp (disch := omega) [h2, forestOk, h5, hds_len, VE, VXR, VP, VB, VTup, kof, bl, it]
    refine VXB_dec (fun h3 => ?_) (fun h3 => ?_) <;> simp (disch := omega) [h2, h3, h5, hds_len, VE, VXR, VP, VB, VTup, kof, bl, it]
    refine VXC_e (areHeads_ok f.l f.heads ⟨w1, w2⟩) (by simp [argsD, argDs, argD, St.slc, lk_cons, lk] <;> first | rfl | exact ⟨rfl, rfl⟩ | exact ⟨rfl, rfl, rfl⟩) rfl ?_
    simp (disch := omega) [h2, h3, h5, VE, VXR, VP, VB, VTup, kof, bl, it]
abbrev n_spec_ForestOk : Nat := 117
def c_spec_ForestOk : AF := ⟨1, 6, [.tmp 2], (.seq (.ops [.i (.lbox 1 (.s 0)), .i (.mov 2 (.c (.val false [.bool false])))]) (.seq (.seq (.ops [.i (.fad 7 (.s 1) 0), .i (.ldl 8 1 (.s 7) 5 true), .i (.call 10 142 false [(.s 8)]), .i (.not 10 (.s 9)), .i (.mov 11 (.s 10)), .g 11 false 13 (.fad 12 (.s 1) 5), .g 11 false 14 (.ldl 13 1 (.s 12) 1 false), .g 11 false 15 (.len 14 false (.s 13)), .g 11 false 16 (.bin 15 .gtr (.s 14) (.c (.val false [.int .i64 10]))), .i (.pick 16 (.s 11) (.c (.val false [.bool true])) (.s 15))]) (.cond (.s 16) (.seq (.ops [.i (.mov 2 (.c (.val false [.bool false])))]) .ret) .skip)) (.seq (.seq (.ops [.i (.fad 17 (.s 1) 5), .i (.ldl 18 1 (.s 17) 1 false), .i (.len 19 false (.s 18)), .i (.mov 20 (.c (.val false [.int .i64 0])))]) (.block 0 (.loop [49, 48, 47, 46, 45, 44, 43, 42, 41, 40, 39, 38, 37, 36, 35, 34, 33, 32, 31, 30, 29, 28, 27, 26, 25, 24, 23, 22, 21, 6, 4, 3] (.seq (.ops [.i (.bin 21 .lss (.s 20) (.s 19))]) (.seq (.cond (.s 21) .skip (.exit 0)) (.seq (.block 1 (.seq (.ops [.i (.mov 22 (.s 20)), .i (.iad 23 (.s 18) (.s 20) 10), .i (.ldh 24 (.s 23) 10 true), .i (.lal 4 [.int .i64 0, .int .i64 0, .int .i64 0, .nils, .nils, .int .i64 0, .int .i64 0, .nils, .nils, .nils]), .i (.mov 3 (.s 22)), .i (.stl 4 (.s 4) (.s 24) 10)]) (.seq (.seq (.ops [.i (.fad 25 (.s 1) 0), .i (.ldl 26 1 (.s 25) 5 true), .i (.ldl 27 4 (.s 4) 10 true), .i (.call 29 99 false [(.s 26), (.s 27)]), .i (.not 29 (.s 28))]) (.cond (.s 29) (.seq (.ops [.i (.mov 2 (.c (.val false [.bool false])))]) .ret) .skip)) (.seq (.ops [.i (.fad 30 (.s 1) 5), .i (.ldl 31 1 (.s 30) 1 false), .i (.mov 32 (.s 3)), .i (.slc 33 10 (.s 31) none (some (.s 32))), .i (.len 34 false (.s 33)), .i (.mov 35 (.c (.val false [.int .i64 0])))]) (.block 2 (.loop [48, 47, 46, 45, 44, 43, 42, 41, 40, 39, 38, 37, 36, 6] (.seq (.ops [.i (.bin 36 .lss (.s 35) (.s 34))]) (.seq (.cond (.s 36) .skip (.exit 2)) (.seq (.block 3 (.seq (.ops [.i (.iad 37 (.s 33) (.s 35) 10), .i (.ldh 38 (.s 37) 10 true), .i (.lal 6 [.int .i64 0, .int .i64 0, .int .i64 0, .nils, .nils, .int .i64 0, .int .i64 0, .nils, .nils, .nils]), .i (.stl 6 (.s 6) (.s 38) 10)]) (.seq (.ops [.i (.fad 39 (.s 1) 0), .i (.ldl 40 1 (.s 39) 5 true), .i (.ldl 41 6 (.s 6) 10 true), .i (.call 43 113 false [(.s 40), (.s 41)]), .i (.fad 43 (.s 1) 0), .i (.ldl 44 1 (.s 43) 5 true), .i (.ldl 45 4 (.s 4) 10 true), .i (.call 47 113 false [(.s 44), (.s 45)]), .i (.call 48 112 false [(.s 42), (.s 46)])]) (.cond (.s 47) (.seq (.ops [.i (.mov 2 (.c (.val false [.bool false])))]) .ret) .skip)))) (.ops [.i (.bin 48 .add (.s 35) (.c (.val false [.int .i64 1]))), .i (.mov 35 (.s 48))])))))))))) (.ops [.i (.bin 49 .add (.s 20) (.c (.val false [.int .i64 1]))), .i (.mov 20 (.s 49))]))))))) (.seq (.ops [.i (.mov 2 (.c (.val false [.bool true])))]) .ret))))⟩
theorem k_spec_ForestOk : cd n_spec_ForestOk = some c_spec_ForestOk := by kernel_rfl
theorem spec_ForestOk_ok (f : Forest) (hw : f.wf) : VC cd n_spec_ForestOk (mkP [(true, f.c)]) (fun rs _ => rs = bl (forestOk f)) := by
  obtain ⟨w1, w2⟩ := hw
  simp only [Sz] at w1
  refine VC_enter k_spec_ForestOk rfl ?_
  simp (disch := omega) [c_spec_ForestOk, Forest.c, Lim.c, hds_len, VE, VXR, VP, VB, VTup, kof, bl, it]
  refine VXC_e (spec_LimitsOk_ok f.l) rfl rfl ?_
  simp (disch := omega) [hds_len, VE, VXR, VP, VB, VTup, kof, bl, it]
  refine VXB_b (fun h2 => ?_) (fun h2 => ?_)
  case refine_2 => simp (disch := omega) [h2, forestOk, VE, VXR, VP, VB, VTup, kof, bl, it]
  simp (disch := omega) [h2, hds_len, VE, VXR, VP, VB, VTup, kof, bl, it]
  refine VXB_dec (fun h3 => ?_) (fun h3 => ?_)
  · simp (disch := omega) [h2, h3, forestOk, show ¬ (f.heads.length : Int) ≤ 10 by omega, VE, VXR, VP, VB, VTup, kof, bl, it]
  simp (disch := omega) [h2, h3, hds_len, VE, VXR, VP, VB, VTup, kof, bl, it]
  refine VX_loop3 (σ := Nat) (f1 := _) (es0 := _) (by simp (disch := omega) [VE, VXR, VP, VB, VTup, kof, bl, it]; rfl) (by simp (disch := omega) [VE, VXR, VP, VB, VTup, kof, bl, it]; rfl) (fun i => [(20, .val false [.int .i64 (i : Int)])]) (fun _ => []) (fun i g => g + i = f.heads.length ∧ (∀ x ∈ f.heads.take i, headOk f.l x = true) ∧ ∀ a, a < i → ∀ b, b < a → hh f.l f.heads a ≠ hh f.l f.heads b) 0 f.heads.length (by simp (disch := omega) [VE, VXR, VP, VB, VTup, kof, bl, it]) (by simp (disch := omega) [VE, VXR, VP, VB, VTup, kof, bl, it]) ⟨by omega, by simp, fun a ha => by omega⟩ ?_
  rintro i n g ⟨hg, hk, hd⟩
  simp (disch := omega) [VE, VXR, VP, VB, VTup, kof, bl, it]
  refine VXB_dec (fun h1 => ?_) (fun h1 => ?_)
  · have hi : i < f.heads.length := by omega
    have w3 := w2 _ (List.getElem_mem hi)
    have hle : i ≤ f.heads.length := by omega
    simp (disch := omega) [hds_get hi, Head.c, hds_len, VE, VXR, VP, VB, VTup, kof, bl, it]
    refine VXC_e (spec_HeadOk_ok f.l f.heads[i] w3) (by simp [argsD, argDs, argD, St.slc, lk_cons, lk] <;> first | rfl | exact ⟨rfl, rfl⟩ | exact ⟨rfl, rfl, rfl⟩) rfl ?_
    simp (disch := omega) [VE, VXR, VP, VB, VTup, kof, bl, it]
    refine VXB_b (fun h4 => ?_) (fun h4 => ?_)
    case refine_2 => simp (disch := omega) [forestOk, headsOk_no hi h4, VE, VXR, VP, VB, VTup, kof, bl, it]
    simp (disch := omega) [hds_len, wid_hds, hds_take, hle, VE, VXR, VP, VB, VTup, kof, bl, it]
    refine VX_loop3 (σ := Nat) (f1 := _) (es0 := _) (by simp (disch := omega) [VE, VXR, VP, VB, VTup, kof, bl, it]; rfl) (by simp (disch := omega) [VE, VXR, VP, VB, VTup, kof, bl, it]; rfl) (fun j => [(35, .val false [.int .i64 (j : Int)])]) (fun _ => []) (fun j g => g + j = i ∧ ∀ b, b < j → hh f.l f.heads i ≠ hh f.l f.heads b) 0 i (by simp (disch := omega) [VE, VXR, VP, VB, VTup, kof, bl, it]) (by simp (disch := omega) [VE, VXR, VP, VB, VTup, kof, bl, it]) ⟨by omega, fun b hb => by omega⟩ ?_
    rintro j n2 g2 ⟨hg2, hd2⟩
    simp (disch := omega) [VE, VXR, VP, VB, VTup, kof, bl, it]
    refine VXB_dec (fun h5 => ?_) (fun h5 => ?_)
    · have hj : j < i := by omega
      have hj2 : j < f.heads.length := by omega
      have w4 := w2 _ (List.getElem_mem hj2)
      have h6 := hk _ (mem_take hj2 hj)
      simp (disch := omega) [hds_tget hj hi, Head.c, VE, VXR, VP, VB, VTup, kof, bl, it]
      refine VXC_e ((spec_HeadHash_ok f.l f.heads[j] w4).re (hhashE_t h6)) (by simp [argsD, argDs, argD, St.slc, lk_cons, lk] <;> first | rfl | exact ⟨rfl, rfl⟩ | exact ⟨rfl, rfl, rfl⟩) rfl ?_
      simp (disch := omega) [VE, VXR, VP, VB, VTup, kof, bl, it]
      refine VXC_e ((spec_HeadHash_ok f.l f.heads[i] w3).re (hhashE_t h4)) (by simp [argsD, argDs, argD, St.slc, lk_cons, lk] <;> first | rfl | exact ⟨rfl, rfl⟩ | exact ⟨rfl, rfl, rfl⟩) rfl ?_
      simp (disch := omega) [VE, VXR, VP, VB, VTup, kof, bl, it]
      refine VXC_e (spec_SameBytes_ok (hh f.l f.heads j) (hh f.l f.heads i)) (by simp [hh_get hi, hh_get hj2, hhash, h4, h6, argsD, argDs, argD, St.slc, lk_cons, lk] <;> first | rfl | exact ⟨rfl, rfl⟩ | exact ⟨rfl, rfl, rfl⟩) rfl ?_
      simp (disch := omega) [VE, VXR, VP, VB, VTup, kof, bl, it]
      refine VXB_dec (fun h7 => ?_) (fun h7 => ?_)
      · simp (disch := omega) [forestOk, dist_f hi hj h7.symm, VE, VXR, VP, VB, VTup, kof, bl, it]
      · simp (disch := omega) [VE, VXR, VP, VB, VTup, kof, bl, it]
        exact ⟨j + 1, g2 - 1, by omega, ⟨by omega, ne_next hd2 (fun e => h7 e.symm)⟩, by simp⟩
    · have hj : j = i := by omega
      subst hj
      simp (disch := omega) [VE, VXR, VP, VB, VTup, kof, bl, it]
      exact ⟨j + 1, g - 1, by omega, ⟨by omega, take_all hk hi h4, dist_next hd hd2⟩, by simp⟩
  · have hi : i = f.heads.length := by omega
    subst hi
    simp (disch := omega) [forestOk, h2, dist_t hd, headsOk_of hk, show (f.heads.length : Int) ≤ 10 by omega, VE, VXR, VP, VB, VTup, kof, bl, it]
/-! ### A header by its hash -/
def findIx (f : Forest) (x : Bytes) : Int := match f.heads.findIdx? (fun h => decide (hhash f.l h = x)) with | some i => (i : Int) | none => -1
noncomputable def findHead (f : Forest) (x : Bytes) : Option Head := if forestOk f then f.heads.find? (fun h => decide (hhash f.l h = x)) else none
theorem find_some {α : Type} {p : α → Bool} {l : List α} {i : Nat} (hi : i < l.length) (hb : ∀ a ∈ l.take i, p a = false) (hp : p l[i] = true) : l.find? p = some l[i] ∧ l.findIdx? p = some i := by
  induction l generalizing i with
  | nil => simp at hi
  | cons a l ih =>
    cases i with
    | zero => simp at hp; simp [hp, List.findIdx?_cons]
    | succ i =>
      have ha : p a = false := hb a (by simp)
      have := ih (i := i) (by simpa using hi) (fun x hx => hb x (by simp [hx])) (by simpa using hp)
      simp [ha, this, List.findIdx?_cons]
theorem find_none {α : Type} {p : α → Bool} {l : List α} (hb : ∀ a ∈ l.take l.length, p a = false) : l.find? p = none ∧ l.findIdx? p = none := by
  rw [List.take_length] at hb
  simp only [List.find?_eq_none, List.findIdx?_eq_none_iff]
  exact ⟨fun x hx => by simp [hb x hx], fun x hx => by simp [hb x hx]⟩
theorem findS {q : Head → Prop} [DecidablePred q] {l : List Head} {i : Nat} (hi : i < l.length) (hb : ∀ a ∈ l.take i, ¬ q a) (hp : q l[i]) : l.find? (fun h => decide (q h)) = some l[i] ∧ l.findIdx? (fun h => decide (q h)) = some i :=
  find_some hi (fun a ha => by simpa using hb a ha) (by simpa using hp)
theorem findN {q : Head → Prop} [DecidablePred q] {l : List Head} (hb : ∀ a ∈ l.take l.length, ¬ q a) : l.find? (fun h => decide (q h)) = none ∧ l.findIdx? (fun h => decide (q h)) = none :=
  find_none (fun a ha => by simpa using hb a ha)
def optHeadE (o : Option Head) : List (Bool × List E) := match o with
  | some h => [(true, h.o), (false, [.p (.bool true)])]
  | none => [(true, zeroHeadE), (false, [.p (.bool false)])]
abbrev n_spec_l27Find : Nat := 116
def c_spec_l27Find : AF := ⟨2, 5, [.tmp 4], (.seq (.ops [.i (.lbox 2 (.s 0)), .i (.mov 4 (.c (.val false [.int .i64 0])))]) (.seq (.seq (.ops [.i (.fad 7 (.s 2) 5), .i (.ldl 8 2 (.s 7) 1 false), .i (.len 9 false (.s 8)), .i (.mov 10 (.c (.val false [.int .i64 0])))]) (.block 0 (.loop [22, 21, 20, 19, 18, 17, 16, 15, 14, 13, 12, 11, 6, 5] (.seq (.ops [.i (.bin 11 .lss (.s 10) (.s 9))]) (.seq (.cond (.s 11) .skip (.exit 0)) (.seq (.block 1 (.seq (.ops [.i (.mov 12 (.s 10)), .i (.iad 13 (.s 8) (.s 10) 10), .i (.ldh 14 (.s 13) 10 true), .i (.lal 6 [.int .i64 0, .int .i64 0, .int .i64 0, .nils, .nils, .int .i64 0, .int .i64 0, .nils, .nils, .nils]), .i (.mov 5 (.s 12)), .i (.stl 6 (.s 6) (.s 14) 10)]) (.seq (.ops [.i (.fad 15 (.s 2) 0), .i (.ldl 16 2 (.s 15) 5 true), .i (.ldl 17 6 (.s 6) 10 true), .i (.call 19 113 false [(.s 16), (.s 17)]), .i (.mov 19 (.s 1)), .i (.call 21 112 false [(.s 18), (.s 19)])]) (.cond (.s 20) (.seq (.ops [.i (.mov 21 (.s 5)), .i (.mov 4 (.s 21))]) .ret) .skip)))) (.ops [.i (.bin 22 .add (.s 10) (.c (.val false [.int .i64 1]))), .i (.mov 10 (.s 22))]))))))) (.seq (.ops [.i (.mov 4 (.c (.val false [.int .i64 (-1)])))]) .ret)))⟩
theorem k_spec_l27Find : cd n_spec_l27Find = some c_spec_l27Find := by kernel_rfl
theorem l27Find_ok (f : Forest) (x : Bytes) (hw : f.wf) : VC cd n_spec_l27Find (mkP [(true, f.c), (false, [.sl (bytes x)])]) (fun rs _ => rs = it (findIx f x)) := by
  obtain ⟨w1, w2⟩ := hw
  simp only [Sz] at w1
  refine VC_enter k_spec_l27Find rfl ?_
  simp (disch := omega) [c_spec_l27Find, Forest.c, Lim.c, hds_len, VE, VXR, VP, VB, VTup, kof, bl, it]
  refine VX_loop3 (σ := Nat) (f1 := _) (es0 := _) (by simp (disch := omega) [VE, VXR, VP, VB, VTup, kof, bl, it]; rfl) (by simp (disch := omega) [VE, VXR, VP, VB, VTup, kof, bl, it]; rfl) (fun i => [(10, .val false [.int .i64 (i : Int)])]) (fun _ => []) (fun i g => g + i = f.heads.length ∧ ∀ h ∈ f.heads.take i, ¬ hhash f.l h = x) 0 f.heads.length (by simp (disch := omega) [VE, VXR, VP, VB, VTup, kof, bl, it]) (by simp (disch := omega) [VE, VXR, VP, VB, VTup, kof, bl, it]) ⟨by omega, by simp⟩ ?_
  rintro i n g ⟨hg, hd⟩
  simp (disch := omega) [VE, VXR, VP, VB, VTup, kof, bl, it]
  refine VXB_dec (fun h1 => ?_) (fun h1 => ?_)
  · have hi : i < f.heads.length := by omega
    have w3 := w2 _ (List.getElem_mem hi)
    simp (disch := omega) [hds_get hi, Head.c, VE, VXR, VP, VB, VTup, kof, bl, it]
    cases h3 : headOk f.l f.heads[i]
    all_goals
      first | refine VXC_e ((spec_HeadHash_ok f.l f.heads[i] w3).re (hhashE_t h3)) (by simp [argsD, argDs, argD, St.slc, lk_cons, lk] <;> first | rfl | exact ⟨rfl, rfl⟩ | exact ⟨rfl, rfl, rfl⟩) rfl ?_ | refine VXC_e ((spec_HeadHash_ok f.l f.heads[i] w3).re (hhashE_f h3)) (by simp [argsD, argDs, argD, St.slc, lk_cons, lk] <;> first | rfl | exact ⟨rfl, rfl⟩ | exact ⟨rfl, rfl, rfl⟩) rfl ?_
      simp (disch := omega) [VE, VXR, VP, VB, VTup, kof, bl, it]
      refine VXC_e (spec_SameBytes_ok (hhash f.l f.heads[i]) x) (by simp [hhash, h3, bytes_nil, argsD, argDs, argD, St.slc, lk_cons, lk] <;> first | rfl | exact ⟨rfl, rfl⟩ | exact ⟨rfl, rfl, rfl⟩) rfl ?_
      simp (disch := omega) [VE, VXR, VP, VB, VTup, kof, bl, it]
      refine VXB_dec (fun h5 => ?_) (fun h5 => ?_)
      · have := (findS hi hd h5).2
        simp (disch := omega) [findIx, this, VE, VXR, VP, VB, VTup, kof, bl, it]
      · simp (disch := omega) [VE, VXR, VP, VB, VTup, kof, bl, it]
        exact ⟨i + 1, g - 1, by omega, ⟨by omega, take_all (p := fun h => ¬ hhash f.l h = x) hd hi h5⟩, by simp⟩
  · have hi : i = f.heads.length := by omega
    subst hi
    have := (findN hd).2
    simp (disch := omega) [findIx, this, VE, VXR, VP, VB, VTup, kof, bl, it]
abbrev n_impl_FindHead : Nat := 54
def c_impl_FindHead : AF := ⟨2, 5, [.cell 4 10 true, .tmp 5], (.seq (.ops [.i (.lbox 2 (.s 0)), .i (.lal 4 [.int .i64 0, .int .i64 0, .int .i64 0, .nils, .nils, .int .i64 0, .int .i64 0, .nils, .nils, .nils]), .i (.mov 5 (.c (.val false [.bool false])))]) (.seq (.seq (.ops [.i (.ldl 8 2 (.s 2) 6 true), .i (.call 10 118 false [(.s 8)]), .i (.not 10 (.s 9))]) (.cond (.s 10) (.seq (.ops [.i (.bld 11 [.int .i64 0, .int .i64 0, .int .i64 0, .nils, .nils, .int .i64 0, .int .i64 0, .nils, .nils, .nils] []), .i (.stl 4 (.s 4) (.s 11) 10), .i (.mov 5 (.c (.val false [.bool false])))]) .ret) .skip)) (.seq (.seq (.ops [.i (.fad 12 (.s 2) 5), .i (.ldl 13 2 (.s 12) 1 false), .i (.len 14 false (.s 13)), .i (.mov 15 (.c (.val false [.int .i64 0])))]) (.block 0 (.loop [27, 26, 25, 24, 23, 22, 21, 20, 19, 18, 17, 16, 7] (.seq (.ops [.i (.bin 16 .lss (.s 15) (.s 14))]) (.seq (.cond (.s 16) .skip (.exit 0)) (.seq (.block 1 (.seq (.ops [.i (.iad 17 (.s 13) (.s 15) 10), .i (.ldh 18 (.s 17) 10 true), .i (.lal 7 [.int .i64 0, .int .i64 0, .int .i64 0, .nils, .nils, .int .i64 0, .int .i64 0, .nils, .nils, .nils]), .i (.stl 7 (.s 7) (.s 18) 10)]) (.seq (.ops [.i (.fad 19 (.s 2) 0), .i (.ldl 20 2 (.s 19) 5 true), .i (.ldl 21 7 (.s 7) 10 true), .i (.call 23 115 false [(.s 20), (.s 21)]), .i (.mov 23 (.s 1)), .i (.call 25 114 false [(.s 22), (.s 23)])]) (.cond (.s 24) (.seq (.ops [.i (.ldl 25 7 (.s 7) 10 true), .i (.call 27 88 false [(.s 25)]), .i (.stl 4 (.s 4) (.s 26) 10), .i (.mov 5 (.c (.val false [.bool true])))]) .ret) .skip)))) (.ops [.i (.bin 27 .add (.s 15) (.c (.val false [.int .i64 1]))), .i (.mov 15 (.s 27))]))))))) (.seq (.ops [.i (.bld 28 [.int .i64 0, .int .i64 0, .int .i64 0, .nils, .nils, .int .i64 0, .int .i64 0, .nils, .nils, .nils] []), .i (.stl 4 (.s 4) (.s 28) 10), .i (.mov 5 (.c (.val false [.bool false])))]) .ret))))⟩
theorem k_impl_FindHead : cd n_impl_FindHead = some c_impl_FindHead := by kernel_rfl
theorem impl_FindHead_ok (f : Forest) (x : Bytes) (hw : f.wc) : VC cd n_impl_FindHead (mkP [(true, f.c), (false, [.sl (bytes x)])]) (fun rs _ => rs = optHeadE (findHead f x)) := by
  obtain ⟨w1, w2⟩ := hw.wf
  have w4 := hw.2
  simp only [Sz] at w1
  refine VC_enter k_impl_FindHead rfl ?_
  simp (disch := omega) [c_impl_FindHead, Forest.c, Lim.c, VE, VXR, VP, VB, VTup, kof, bl, it]
  refine VXC_e (impl_ForestOk_ok f hw.wf) (by simp [Forest.c, Lim.c, argsD, argDs, argD, St.slc, lk_cons, lk] <;> first | rfl | exact ⟨rfl, rfl⟩ | exact ⟨rfl, rfl, rfl⟩) rfl ?_
  simp (disch := omega) [VE, VXR, VP, VB, VTup, kof, bl, it]
  refine VXB_b (fun h0 => ?_) (fun h0 => ?_)
  case refine_2 => simp (disch := omega) [h0, findHead, optHeadE, zeroHeadE, VE, VXR, VP, VB, VTup, kof, bl, it]
  simp (disch := omega) [h0, hds_len, VE, VXR, VP, VB, VTup, kof, bl, it]
  refine VX_loop3 (σ := Nat) (f1 := _) (es0 := _) (by simp (disch := omega) [VE, VXR, VP, VB, VTup, kof, bl, it]; rfl) (by simp (disch := omega) [VE, VXR, VP, VB, VTup, kof, bl, it]; rfl) (fun i => [(15, .val false [.int .i64 (i : Int)])]) (fun _ => []) (fun i g => g + i = f.heads.length ∧ ∀ h ∈ f.heads.take i, ¬ hhash f.l h = x) 0 f.heads.length (by simp (disch := omega) [VE, VXR, VP, VB, VTup, kof, bl, it]) (by simp (disch := omega) [VE, VXR, VP, VB, VTup, kof, bl, it]) ⟨by omega, by simp⟩ ?_
  rintro i n g ⟨hg, hd⟩
  simp (disch := omega) [VE, VXR, VP, VB, VTup, kof, bl, it]
  refine VXB_dec (fun h1 => ?_) (fun h1 => ?_)
  · have hi : i < f.heads.length := by omega
    have w3 := w2 _ (List.getElem_mem hi)
    have w5 := w4 _ (List.getElem_mem hi)
    simp (disch := omega) [hds_get hi, Head.c, VE, VXR, VP, VB, VTup, kof, bl, it]
    cases h3 : headOk f.l f.heads[i]
    all_goals
      first | refine VXC_e ((impl_HeadHash_ok f.l f.heads[i] w3).re (hhashE_t h3)) (by simp [argsD, argDs, argD, St.slc, lk_cons, lk] <;> first | rfl | exact ⟨rfl, rfl⟩ | exact ⟨rfl, rfl, rfl⟩) rfl ?_ | refine VXC_e ((impl_HeadHash_ok f.l f.heads[i] w3).re (hhashE_f h3)) (by simp [argsD, argDs, argD, St.slc, lk_cons, lk] <;> first | rfl | exact ⟨rfl, rfl⟩ | exact ⟨rfl, rfl, rfl⟩) rfl ?_
      simp (disch := omega) [VE, VXR, VP, VB, VTup, kof, bl, it]
      refine VXC_e (impl_SameBytes_ok (hhash f.l f.heads[i]) x) (by simp [hhash, h3, bytes_nil, argsD, argDs, argD, St.slc, lk_cons, lk] <;> first | rfl | exact ⟨rfl, rfl⟩ | exact ⟨rfl, rfl, rfl⟩) rfl ?_
      simp (disch := omega) [VE, VXR, VP, VB, VTup, kof, bl, it]
      refine VXB_dec (fun h5 => ?_) (fun h5 => ?_)
      · have := (findS hi hd h5).1
        simp (disch := omega) [VE, VXR, VP, VB, VTup, kof, bl, it]
        refine VXC_e (Head_copied_ok f.heads[i] w5) (by simp [argsD, argDs, argD, St.slc, lk_cons, lk] <;> first | rfl | exact ⟨rfl, rfl⟩ | exact ⟨rfl, rfl, rfl⟩) rfl ?_
        simp (disch := omega) [findHead, h0, this, optHeadE, Head.o, VE, VXR, VP, VB, VTup, kof, bl, it]
      · simp (disch := omega) [VE, VXR, VP, VB, VTup, kof, bl, it]
        exact ⟨i + 1, g - 1, by omega, ⟨by omega, take_all (p := fun h => ¬ hhash f.l h = x) hd hi h5⟩, by simp⟩
  · have hi : i = f.heads.length := by omega
    subst hi
    have := (findN hd).1
    simp (disch := omega) [findHead, h0, this, optHeadE, zeroHeadE, VE, VXR, VP, VB, VTup, kof, bl, it]
theorem findIx_some {f : Forest} {x : Bytes} (h : 0 ≤ findIx f x) : ∃ i, ∃ hi : i < f.heads.length, findIx f x = (i : Int) ∧ f.heads.find? (fun h => decide (hhash f.l h = x)) = some f.heads[i] := by
  unfold findIx at h ⊢
  split at h
  · rename_i i hx
    obtain ⟨hi, hp, hm⟩ := List.findIdx?_eq_some_iff_getElem.1 hx
    refine ⟨i, hi, rfl, ?_⟩
    refine (find_some (p := fun h => decide (hhash f.l h = x)) hi (fun a ha => ?_) hp).1
    obtain ⟨j, hj, rfl⟩ := List.getElem_of_mem ha
    have h1 : j < i := by simp at hj; omega
    have := hm j h1
    simpa using this
  · omega
theorem findIx_none {f : Forest} {x : Bytes} (h : findIx f x < 0) : f.heads.find? (fun h => decide (hhash f.l h = x)) = none := by
  unfold findIx at h
  split at h
  · omega
  · rename_i hx
    rw [List.findIdx?_eq_none_iff] at hx
    rw [List.find?_eq_none]
    intro a ha
    simpa using hx a ha
abbrev n_spec_FindHead : Nat := 53
def c_spec_FindHead : AF := ⟨2, 5, [.cell 4 10 true, .tmp 5], (.seq (.ops [.i (.lbox 2 (.s 0)), .i (.lal 4 [.int .i64 0, .int .i64 0, .int .i64 0, .nils, .nils, .int .i64 0, .int .i64 0, .nils, .nils, .nils]), .i (.mov 5 (.c (.val false [.bool false])))]) (.seq (.ops [.i (.ldl 7 2 (.s 2) 6 true), .i (.mov 8 (.s 1)), .i (.call 10 116 false [(.s 7), (.s 8)]), .i (.mov 6 (.s 9))]) (.seq (.seq (.ops [.i (.ldl 10 2 (.s 2) 6 true), .i (.call 12 117 false [(.s 10)]), .i (.not 12 (.s 11)), .i (.mov 13 (.s 12)), .g 13 false 15 (.mov 14 (.s 6)), .g 13 false 16 (.bin 15 .lss (.s 14) (.c (.val false [.int .i64 0]))), .i (.pick 16 (.s 13) (.c (.val false [.bool true])) (.s 15))]) (.cond (.s 16) (.seq (.ops [.i (.bld 17 [.int .i64 0, .int .i64 0, .int .i64 0, .nils, .nils, .int .i64 0, .int .i64 0, .nils, .nils, .nils] []), .i (.stl 4 (.s 4) (.s 17) 10), .i (.mov 5 (.c (.val false [.bool false])))]) .ret) .skip)) (.seq (.ops [.i (.fad 18 (.s 2) 5), .i (.ldl 19 2 (.s 18) 1 false), .i (.mov 20 (.s 6)), .i (.iad 21 (.s 19) (.s 20) 10), .i (.ldh 22 (.s 21) 10 true), .i (.call 24 83 false [(.s 22)]), .i (.stl 4 (.s 4) (.s 23) 10), .i (.mov 5 (.c (.val false [.bool true])))]) .ret))))⟩
theorem k_spec_FindHead : cd n_spec_FindHead = some c_spec_FindHead := by kernel_rfl
theorem spec_FindHead_ok (f : Forest) (x : Bytes) (hw : f.wc) : VC cd n_spec_FindHead (mkP [(true, f.c), (false, [.sl (bytes x)])]) (fun rs _ => rs = optHeadE (findHead f x)) := by
  have w4 := hw.2
  have w1 := hw.1
  simp only [Sz] at w1
  refine VC_enter k_spec_FindHead rfl ?_
  simp (disch := omega) [c_spec_FindHead, Forest.c, Lim.c, VE, VXR, VP, VB, VTup, kof, bl, it]
  refine VXC_e (l27Find_ok f x hw.wf) (by simp [Forest.c, Lim.c, argsD, argDs, argD, St.slc, lk_cons, lk] <;> first | rfl | exact ⟨rfl, rfl⟩ | exact ⟨rfl, rfl, rfl⟩) rfl ?_
  simp (disch := omega) [VE, VXR, VP, VB, VTup, kof, bl, it]
  refine VXC_e (spec_ForestOk_ok f hw.wf) (by simp [Forest.c, Lim.c, argsD, argDs, argD, St.slc, lk_cons, lk] <;> first | rfl | exact ⟨rfl, rfl⟩ | exact ⟨rfl, rfl, rfl⟩) rfl ?_
  simp (disch := omega) [VE, VXR, VP, VB, VTup, kof, bl, it]
  refine VXB_b (fun h0 => ?_) (fun h0 => ?_)
  case refine_2 => simp (disch := omega) [h0, findHead, optHeadE, zeroHeadE, VE, VXR, VP, VB, VTup, kof, bl, it]
  simp (disch := omega) [h0, VE, VXR, VP, VB, VTup, kof, bl, it]
  refine VXB_dec (fun h1 => ?_) (fun h1 => ?_)
  · have := findIx_none h1
    simp (disch := omega) [h0, h1, findHead, this, optHeadE, zeroHeadE, VE, VXR, VP, VB, VTup, kof, bl, it]
  · obtain ⟨i, hi, e1, e2⟩ := findIx_some (f := f) (x := x) (by omega)
    have w5 := w4 _ (List.getElem_mem hi)
    simp (disch := omega) [h0, h1, e1, hds_get hi, Head.c, VE, VXR, VP, VB, VTup, kof, bl, it]
    refine VXC_e (l13Copy_ok f.heads[i] w5) (by simp [argsD, argDs, argD, St.slc, lk_cons, lk] <;> first | rfl | exact ⟨rfl, rfl⟩ | exact ⟨rfl, rfl, rfl⟩) rfl ?_
    simp (disch := omega) [findHead, h0, e2, optHeadE, Head.o, VE, VXR, VP, VB, VTup, kof, bl, it]
/-! ### A header more -/
def Forest.o (f : Forest) : List E := [.p (.int .i64 f.l.n), .p (.int .i64 f.l.tx), .p (.int .i64 f.l.txs), .p (.int .i64 f.l.frame), .p (.int .i64 f.l.heads), .o true (some (35, 10)) (hds f.heads)]
theorem hds_app (l : List Head) (h : Head) : hds l ++ [h.c] = hds (l ++ [h]) := by simp [hds]
end Go.Eng.F
/-
  Functions: upward.
-/
set_option maxRecDepth 100000
set_option linter.unusedSimpArgs false
set_option linter.unusedVariables false
namespace Go.Eng.F
def upL (f : Forest) : Nat → Option Head → List Head
  | 0, _ => []
  | _ + 1, none => []
  | n + 1, some h => h :: upL f n (f.heads.find? (fun a => decide (links f.l a h = true)))
theorem upL_none (f : Forest) (n : Nat) : upL f n none = [] := by cases n <;> rfl
noncomputable def upward (f : Forest) (x : Bytes) : List Head := upL f 10 (findHead f x)
def hdD (h : Head) (K b : Nat) : List D := [.int .i64 h.view, .int .i64 h.height, .int .i64 h.proposer, .ow (K + 3) (b + 3), .ow (K + 4) (b + 4), .int .i64 h.qc.view, .int .i64 h.qc.height, .ow (K + 7) (b + 7), .ow (K + 8) (b + 8), .ow (K + 9) (b + 9)]
def hdS (h : Head) (K b : Nat) (o : Bool) : List (Nat × En) := [(K + 3, .sl (b + 3) o o (some (5, 1)) (bytes h.parent)), (K + 4, .sl (b + 4) o o (some (5, 1)) (bytes h.root)), (K + 7, .sl (b + 7) o o (some (5, 1)) (bytes h.qc.block)), (K + 8, .sl (b + 8) o o (some (5, 1)) (bytes h.qc.bits)), (K + 9, .sl (b + 9) o o (some (22, 1)) (bss h.qc.tags))]
theorem findHead_wc {f : Forest} {x : Bytes} {h : Head} (hw : f.wc) (e : findHead f x = some h) : h.wc := by
  unfold findHead at e
  split at e
  · exact hw.2 h (List.mem_of_find?_eq_some e)
  · cases e
theorem oh_s {o : Option Head} {h : Head} (e : o = some h) : optHeadE o = [(true, h.o), (false, [.p (.bool true)])] := by subst e; rfl
theorem oh_n {o : Option Head} (e : o = none) : optHeadE o = [(true, zeroHeadE), (false, [.p (.bool false)])] := by subst e; rfl
abbrev n_impl_Upward : Nat := 62
def c_impl_Upward : AF := ⟨2, 6, [.tmp 4], (.seq (.ops [.i (.lbox 2 (.s 0)), .i (.mov 4 (.c (.val false [.nils])))]) (.seq (.ops [.i (.ldl 11 2 (.s 2) 6 true), .i (.mov 12 (.s 1)), .i (.call 14 54 false [(.s 11), (.s 12)]), .i (.mov 10 (.s 13)), .i (.ext 14 (.s 10) 0), .i (.ext 15 (.s 10) 1), .i (.lal 5 [.int .i64 0, .int .i64 0, .int .i64 0, .nils, .nils, .int .i64 0, .int .i64 0, .nils, .nils, .nils]), .i (.stl 5 (.s 5) (.s 14) 10), .i (.mov 6 (.s 15))]) (.seq (.ops [.i (.bse 16), .i (.mov 7 (.s 16))]) (.seq (.block 0 (.loop [41, 40, 39, 38, 37, 36, 35, 34, 33, 32, 31, 30, 29, 28, 27, 26, 25, 24, 23, 22, 21, 20, 19, 18, 17, 9] (.seq (.seq (.ops [.i (.mov 17 (.s 6)), .i (.mov 18 (.s 17)), .g 18 true 20 (.mov 19 (.s 7)), .g 18 true 21 (.len 20 false (.s 19)), .g 18 true 22 (.bin 21 .lss (.s 20) (.c (.val false [.int .i64 10]))), .i (.pick 22 (.s 18) (.s 21) (.c (.val false [.bool false])))]) (.cond (.s 22) .skip (.exit 0))) (.block 1 (.seq (.ops [.i (.mov 23 (.s 7)), .i (.ldl 24 5 (.s 5) 10 true), .i (.lsl 25 10 1 [.int .i64 0, .int .i64 0, .int .i64 0, .nils, .nils, .int .i64 0, .int .i64 0, .nils, .nils, .nils] [(0, 10, (.s 24))]), .i (.app 26 35 10 160 (.s 23) (.s 25)), .i (.mov 7 (.s 26))]) (.seq (.ops [.i (.mov 6 (.c (.val false [.bool false])))]) (.seq (.ops [.i (.fad 27 (.s 2) 5), .i (.ldl 28 2 (.s 27) 1 false), .i (.len 29 false (.s 28)), .i (.mov 30 (.c (.val false [.int .i64 0])))]) (.block 2 (.loop [41, 40, 39, 38, 37, 36, 35, 34, 33, 32, 31, 9] (.seq (.ops [.i (.bin 31 .lss (.s 30) (.s 29))]) (.seq (.cond (.s 31) .skip (.exit 2)) (.seq (.block 3 (.seq (.ops [.i (.iad 32 (.s 28) (.s 30) 10), .i (.ldh 33 (.s 32) 10 true), .i (.lal 9 [.int .i64 0, .int .i64 0, .int .i64 0, .nils, .nils, .int .i64 0, .int .i64 0, .nils, .nils, .nils]), .i (.stl 9 (.s 9) (.s 33) 10)]) (.seq (.ops [.i (.fad 34 (.s 2) 0), .i (.ldl 35 2 (.s 34) 5 true), .i (.ldl 36 9 (.s 9) 10 true), .i (.ldl 37 5 (.s 5) 10 true), .i (.call 39 123 false [(.s 35), (.s 36), (.s 37)])]) (.cond (.s 38) (.seq (.ops [.i (.ldl 39 9 (.s 9) 10 true), .i (.call 41 88 false [(.s 39)]), .i (.stl 5 (.s 5) (.s 40) 10), .i (.mov 6 (.c (.val false [.bool true])))]) (.exit 2)) .skip)))) (.ops [.i (.bin 41 .add (.s 30) (.c (.val false [.int .i64 1]))), .i (.mov 30 (.s 41))]))))))))))))) (.seq (.ops [.i (.mov 42 (.s 7)), .i (.mov 4 (.s 42))]) .ret)))))⟩
theorem k_impl_Upward : cd n_impl_Upward = some c_impl_Upward := by kernel_rfl
theorem impl_Upward_ok (f : Forest) (x : Bytes) (hw : f.wc) : VC cd n_impl_Upward (mkP [(true, f.c), (false, [.sl (bytes x)])]) (fun rs _ => rs = [(false, [.o true (some (35, 10)) (hds (upward f x))])]) := by
  have w1 := hw.1
  have w2 := hw.2
  simp only [Sz] at w1
  refine VC_enter k_impl_Upward rfl ?_
  simp (disch := omega) [c_impl_Upward, Forest.c, Lim.c, VE, VXR, VP, VB, VTup, kof, bl, it]
  cases hf : findHead f x with
  | none =>
    refine VXC_e ((impl_FindHead_ok f x hw).re (oh_n hf)) (by simp [Forest.c, Lim.c, argsD, argDs, argD, St.slc, lk_cons, lk] <;> first | rfl | exact ⟨rfl, rfl⟩ | exact ⟨rfl, rfl, rfl⟩) rfl ?_
    simp (disch := omega) [zeroHeadE, VE, VXR, VP, VB, VTup, kof, bl, it]
    refine VX_loopP (σ := Nat) (f1 := _) (by simp (disch := omega) [VE, VXR, VP, VB, VTup, kof, bl, it]; rfl) (fun v => [(7, .val false [.ow 16 v])]) (fun v => [(16, .sl v true true (some (35, 10)) [])]) (fun _ _ => True) _ 0 (by simp (disch := omega) [VE, VXR, VP, VB, VTup, kof, bl, it]; rfl) (by simp (disch := omega) [VE, VXR, VP, VB, VTup, kof, bl, it]) trivial ?_
    rintro v n g _ P hP
    simp (disch := omega) [VE, VXR, VP, VB, VTup, kof, bl, it]
    simp only [upward, hf, upL_none]
    rfl
  | some h0 =>
    have hw0 := findHead_wc hw hf
    refine VXC_e ((impl_FindHead_ok f x hw).re (oh_s hf)) (by simp [Forest.c, Lim.c, argsD, argDs, argD, St.slc, lk_cons, lk] <;> first | rfl | exact ⟨rfl, rfl⟩ | exact ⟨rfl, rfl, rfl⟩) rfl ?_
    simp (disch := omega) [Head.o, VE, VXR, VP, VB, VTup, kof, bl, it]
    refine VX_loopP (σ := List Head × Nat × Bool × List D × List (Nat × En)) (f1 := _) (by simp (disch := omega) [VE, VXR, VP, VB, VTup, kof, bl, it]; rfl) (fun s => [(5, .box s.2.2.2.1), (6, .val false [.bool s.2.2.1]), (7, .val false [.ow 16 s.2.1])]) (fun s => (16, .sl s.2.1 true true (some (35, 10)) (hds s.1)) :: s.2.2.2.2)
      (fun s g => g = 10 - s.1.length ∧ s.1.length ≤ 10 ∧ (s.2.2.1 = false → s.1 = upward f x) ∧ (s.2.2.1 = true → ∃ h b, h.wc ∧ s.1 ++ upL f (10 - s.1.length) (some h) = upward f x ∧ ((s.2.2.2.1 = hdD h 122880 b ∧ s.2.2.2.2 = hdS h 122880 b true) ∨ (s.2.2.2.1 = hdD h 344064 b ∧ s.2.2.2.2 = hdS h 344064 b true)))) ([], 18, true, hdD h0 122880 7, hdS h0 122880 7 true) 10 (by simp (disch := omega) [hdD, VE, VXR, VP, VB, VTup, kof, bl, it]) (by simp (disch := omega) [hdS, hds, VE, VXR, VP, VB, VTup, kof, bl, it]) ⟨rfl, by simp, by simp, fun _ => ⟨h0, 7, hw0, by simp [upward, hf], .inl ⟨rfl, rfl⟩⟩⟩ ?_
    rintro ⟨acc, v, ok, ds, es⟩ n g ⟨hg, hl, ha1, ha2⟩ P hP
    simp only at hg hl ha1 ha2
    cases ok with
    | false =>
      simp (disch := omega) [VE, VXR, VP, VB, VTup, kof, bl, it]
      rw [ha1 rfl]
    | true =>
      obtain ⟨h, b, hh, ha, hK⟩ := ha2 rfl
      have e := hds_app acc h
      simp only [Head.c] at e
      rcases hK with ⟨rfl, rfl⟩ | ⟨rfl, rfl⟩
      all_goals
        simp (disch := omega) [hdD, hdS, hds_len, VE, VXR, VP, VB, VTup, kof, bl, it]
        refine VXB_dec (fun h1 => ?_) (fun h1 => ?_)
        · obtain ⟨m, hm⟩ : ∃ m, 10 - acc.length = m + 1 := ⟨9 - acc.length, by omega⟩
          rw [hm] at ha
          simp only [upL] at ha
          simp (disch := omega) [hds_len, e, VE, VXR, VP, VB, VTup, kof, bl, it]
          refine VX_loopO (σ := Nat) (f1 := _) (es0 := _) (by simp (disch := omega) [VE, VXR, VP, VB, VTup, kof, bl, it]; rfl) (by simp (disch := omega) [VE, VXR, VP, VB, VTup, kof, bl, it]; rfl) (fun j => [(30, .val false [.int .i64 (j : Int)])]) (fun _ => []) (fun j g => g + j = f.heads.length ∧ ∀ a ∈ f.heads.take j, ¬ links f.l a h = true) 0 f.heads.length (by simp (disch := omega) [VE, VXR, VP, VB, VTup, kof, bl, it]) (by simp (disch := omega) [VE, VXR, VP, VB, VTup, kof, bl, it]) ⟨by omega, by simp⟩ ?_
          rintro j n2 g2 ⟨hg2, hd2⟩ P2 hP2
          simp (disch := omega) [VE, VXR, VP, VB, VTup, kof, bl, it]
          refine VXB_dec (fun h2 => ?_) (fun h2 => ?_)
          · have hj : j < f.heads.length := by omega
            have w3 := w2 _ (List.getElem_mem hj)
            simp (disch := omega) [hds_get hj, Head.c, VE, VXR, VP, VB, VTup, kof, bl, it]
            refine VXC_e (impl_Links_ok f.l f.heads[j] h w3.1 hh.1) (by simp [Lim.c, Head.c, argsD, argDs, argD, St.slc, lk_cons, lk] <;> first | rfl | exact ⟨rfl, rfl⟩ | exact ⟨rfl, rfl, rfl⟩) rfl ?_
            simp (disch := omega) [VE, VXR, VP, VB, VTup, kof, bl, it]
            refine VXB_b (fun h3 => ?_) (fun h3 => ?_)
            · simp (disch := omega) [VE, VXR, VP, VB, VTup, kof, bl, it]
              refine VXC_e (Head_copied_ok f.heads[j] w3) (by simp [argsD, argDs, argD, St.slc, lk_cons, lk] <;> first | rfl | exact ⟨rfl, rfl⟩ | exact ⟨rfl, rfl, rfl⟩) rfl ?_
              simp (disch := omega) [Head.o, VE, VXR, VP, VB, VTup, kof, bl, it]
              rw [(findS hj hd2 h3).1] at ha
              refine hP (acc ++ [h], n, true, hdD f.heads[j] 344064 (n2 + 1), hdS f.heads[j] 344064 (n2 + 1) true) m _ _ (by omega) ⟨by simp; omega, by simp; omega, by simp, fun _ => ⟨f.heads[j], n2 + 1, w3, ?_, .inr ⟨rfl, rfl⟩⟩⟩ (by simp (disch := omega) [hdD, VE, VXR, VP, VB, VTup, kof, bl, it]) (by simp (disch := omega) [hdS, VE, VXR, VP, VB, VTup, kof, bl, it])
              simp only [List.length_append, List.length_singleton, show 10 - (acc.length + 1) = m by omega]
              rw [← ha, List.append_assoc]
              rfl
            · simp (disch := omega) [VE, VXR, VP, VB, VTup, kof, bl, it]
              exact hP2 (j + 1) (g2 - 1) _ _ (by omega) ⟨by omega, take_all (p := fun a => ¬ links f.l a h = true) hd2 hj (by rw [h3]; simp)⟩ (by simp (disch := omega) [VE, VXR, VP, VB, VTup, kof, bl, it]) (by simp (disch := omega) [VE, VXR, VP, VB, VTup, kof, bl, it])
          · have hj : j = f.heads.length := by omega
            subst hj
            rw [(findN hd2).1] at ha
            simp (disch := omega) [VE, VXR, VP, VB, VTup, kof, bl, it]
            refine hP (acc ++ [h], n, false, _, []) m _ _ (by omega) ⟨by simp; omega, by simp; omega, fun _ => ?_, by simp⟩ (by simp (disch := omega) [VE, VXR, VP, VB, VTup, kof, bl, it]; rfl) (by simp (disch := omega) [VE, VXR, VP, VB, VTup, kof, bl, it])
            rw [← ha, upL_none]
        · have : acc.length = 10 := by omega
          simp only [this, Nat.sub_self, upL, List.append_nil] at ha
          simp (disch := omega) [VE, VXR, VP, VB, VTup, kof, bl, it]
          rw [ha]
abbrev n_spec_Upward : Nat := 61
def c_spec_Upward : AF := ⟨2, 6, [.tmp 4], (.seq (.ops [.i (.lbox 2 (.s 0)), .i (.mov 4 (.c (.val false [.nils])))]) (.seq (.ops [.i (.bse 10), .i (.mov 5 (.s 10))]) (.seq (.ops [.i (.ldl 12 2 (.s 2) 6 true), .i (.mov 13 (.s 1)), .i (.call 15 53 false [(.s 12), (.s 13)]), .i (.mov 11 (.s 14)), .i (.ext 15 (.s 11) 0), .i (.ext 16 (.s 11) 1), .i (.lal 6 [.int .i64 0, .int .i64 0, .int .i64 0, .nils, .nils, .int .i64 0, .int .i64 0, .nils, .nils, .nils]), .i (.stl 6 (.s 6) (.s 15) 10), .i (.mov 7 (.s 16))]) (.seq (.block 0 (.loop [41, 40, 39, 38, 37, 36, 35, 34, 33, 32, 31, 30, 29, 28, 27, 26, 25, 24, 23, 22, 21, 20, 19, 18, 17, 9] (.seq (.seq (.ops [.i (.mov 17 (.s 7)), .i (.mov 18 (.s 17)), .g 18 true 20 (.mov 19 (.s 5)), .g 18 true 21 (.len 20 false (.s 19)), .g 18 true 22 (.bin 21 .lss (.s 20) (.c (.val false [.int .i64 10]))), .i (.pick 22 (.s 18) (.s 21) (.c (.val false [.bool false])))]) (.cond (.s 22) .skip (.exit 0))) (.block 1 (.seq (.ops [.i (.mov 23 (.s 5)), .i (.ldl 24 6 (.s 6) 10 true), .i (.lsl 25 10 1 [.int .i64 0, .int .i64 0, .int .i64 0, .nils, .nils, .int .i64 0, .int .i64 0, .nils, .nils, .nils] [(0, 10, (.s 24))]), .i (.app 26 35 10 160 (.s 23) (.s 25)), .i (.mov 5 (.s 26))]) (.seq (.ops [.i (.mov 7 (.c (.val false [.bool false])))]) (.seq (.ops [.i (.fad 27 (.s 2) 5), .i (.ldl 28 2 (.s 27) 1 false), .i (.len 29 false (.s 28)), .i (.mov 30 (.c (.val false [.int .i64 0])))]) (.block 2 (.loop [41, 40, 39, 38, 37, 36, 35, 34, 33, 32, 31, 9] (.seq (.ops [.i (.bin 31 .lss (.s 30) (.s 29))]) (.seq (.cond (.s 31) .skip (.exit 2)) (.seq (.block 3 (.seq (.ops [.i (.iad 32 (.s 28) (.s 30) 10), .i (.ldh 33 (.s 32) 10 true), .i (.lal 9 [.int .i64 0, .int .i64 0, .int .i64 0, .nils, .nils, .int .i64 0, .int .i64 0, .nils, .nils, .nils]), .i (.stl 9 (.s 9) (.s 33) 10)]) (.seq (.ops [.i (.fad 34 (.s 2) 0), .i (.ldl 35 2 (.s 34) 5 true), .i (.ldl 36 9 (.s 9) 10 true), .i (.ldl 37 6 (.s 6) 10 true), .i (.call 39 122 false [(.s 35), (.s 36), (.s 37)])]) (.cond (.s 38) (.seq (.ops [.i (.ldl 39 9 (.s 9) 10 true), .i (.call 41 83 false [(.s 39)]), .i (.stl 6 (.s 6) (.s 40) 10)]) (.seq (.ops [.i (.mov 7 (.c (.val false [.bool true])))]) (.exit 2))) .skip)))) (.ops [.i (.bin 41 .add (.s 30) (.c (.val false [.int .i64 1]))), .i (.mov 30 (.s 41))]))))))))))))) (.seq (.ops [.i (.mov 42 (.s 5)), .i (.mov 4 (.s 42))]) .ret)))))⟩
theorem k_spec_Upward : cd n_spec_Upward = some c_spec_Upward := by kernel_rfl
theorem spec_Upward_ok (f : Forest) (x : Bytes) (hw : f.wc) : VC cd n_spec_Upward (mkP [(true, f.c), (false, [.sl (bytes x)])]) (fun rs _ => rs = [(false, [.o true (some (35, 10)) (hds (upward f x))])]) := by
  have w1 := hw.1
  have w2 := hw.2
  simp only [Sz] at w1
  refine VC_enter k_spec_Upward rfl ?_
  simp (disch := omega) [c_spec_Upward, Forest.c, Lim.c, VE, VXR, VP, VB, VTup, kof, bl, it]
  cases hf : findHead f x with
  | none =>
    refine VXC_e ((spec_FindHead_ok f x hw).re (oh_n hf)) (by simp [Forest.c, Lim.c, argsD, argDs, argD, St.slc, lk_cons, lk] <;> first | rfl | exact ⟨rfl, rfl⟩ | exact ⟨rfl, rfl, rfl⟩) rfl ?_
    simp (disch := omega) [zeroHeadE, VE, VXR, VP, VB, VTup, kof, bl, it]
    refine VX_loopP (σ := Nat) (f1 := _) (by simp (disch := omega) [VE, VXR, VP, VB, VTup, kof, bl, it]; rfl) (fun v => [(5, .val false [.ow 10 v])]) (fun v => [(10, .sl v true true (some (35, 10)) [])]) (fun _ _ => True) _ 0 (by simp (disch := omega) [VE, VXR, VP, VB, VTup, kof, bl, it]; rfl) (by simp (disch := omega) [VE, VXR, VP, VB, VTup, kof, bl, it]) trivial ?_
    rintro v n g _ P hP
    simp (disch := omega) [VE, VXR, VP, VB, VTup, kof, bl, it]
    simp only [upward, hf, upL_none]
    rfl
  | some h0 =>
    have hw0 := findHead_wc hw hf
    refine VXC_e ((spec_FindHead_ok f x hw).re (oh_s hf)) (by simp [Forest.c, Lim.c, argsD, argDs, argD, St.slc, lk_cons, lk] <;> first | rfl | exact ⟨rfl, rfl⟩ | exact ⟨rfl, rfl, rfl⟩) rfl ?_
    simp (disch := omega) [Head.o, VE, VXR, VP, VB, VTup, kof, bl, it]
    refine VX_loopP (σ := List Head × Nat × Bool × List D × List (Nat × En)) (f1 := _) (by simp (disch := omega) [VE, VXR, VP, VB, VTup, kof, bl, it]; rfl) (fun s => [(6, .box s.2.2.2.1), (7, .val false [.bool s.2.2.1]), (5, .val false [.ow 10 s.2.1])]) (fun s => (10, .sl s.2.1 true true (some (35, 10)) (hds s.1)) :: s.2.2.2.2)
      (fun s g => g = 10 - s.1.length ∧ s.1.length ≤ 10 ∧ (s.2.2.1 = false → s.1 = upward f x) ∧ (s.2.2.1 = true → ∃ h b, h.wc ∧ s.1 ++ upL f (10 - s.1.length) (some h) = upward f x ∧ ((s.2.2.2.1 = hdD h 131072 b ∧ s.2.2.2.2 = hdS h 131072 b true) ∨ (s.2.2.2.1 = hdD h 344064 b ∧ s.2.2.2.2 = hdS h 344064 b true)))) ([], 7, true, hdD h0 131072 8, hdS h0 131072 8 true) 10 (by simp (disch := omega) [hdD, VE, VXR, VP, VB, VTup, kof, bl, it]) (by simp (disch := omega) [hdS, hds, VE, VXR, VP, VB, VTup, kof, bl, it]) ⟨rfl, by simp, by simp, fun _ => ⟨h0, 8, hw0, by simp [upward, hf], .inl ⟨rfl, rfl⟩⟩⟩ ?_
    rintro ⟨acc, v, ok, ds, es⟩ n g ⟨hg, hl, ha1, ha2⟩ P hP
    simp only at hg hl ha1 ha2
    cases ok with
    | false =>
      simp (disch := omega) [VE, VXR, VP, VB, VTup, kof, bl, it]
      rw [ha1 rfl]
    | true =>
      obtain ⟨h, b, hh, ha, hK⟩ := ha2 rfl
      have e := hds_app acc h
      simp only [Head.c] at e
      rcases hK with ⟨rfl, rfl⟩ | ⟨rfl, rfl⟩
      all_goals
        simp (disch := omega) [hdD, hdS, hds_len, VE, VXR, VP, VB, VTup, kof, bl, it]
        refine VXB_dec (fun h1 => ?_) (fun h1 => ?_)
        · obtain ⟨m, hm⟩ : ∃ m, 10 - acc.length = m + 1 := ⟨9 - acc.length, by omega⟩
          rw [hm] at ha
          simp only [upL] at ha
          simp (disch := omega) [hds_len, e, VE, VXR, VP, VB, VTup, kof, bl, it]
          refine VX_loopO (σ := Nat) (f1 := _) (es0 := _) (by simp (disch := omega) [VE, VXR, VP, VB, VTup, kof, bl, it]; rfl) (by simp (disch := omega) [VE, VXR, VP, VB, VTup, kof, bl, it]; rfl) (fun j => [(30, .val false [.int .i64 (j : Int)])]) (fun _ => []) (fun j g => g + j = f.heads.length ∧ ∀ a ∈ f.heads.take j, ¬ links f.l a h = true) 0 f.heads.length (by simp (disch := omega) [VE, VXR, VP, VB, VTup, kof, bl, it]) (by simp (disch := omega) [VE, VXR, VP, VB, VTup, kof, bl, it]) ⟨by omega, by simp⟩ ?_
          rintro j n2 g2 ⟨hg2, hd2⟩ P2 hP2
          simp (disch := omega) [VE, VXR, VP, VB, VTup, kof, bl, it]
          refine VXB_dec (fun h2 => ?_) (fun h2 => ?_)
          · have hj : j < f.heads.length := by omega
            have w3 := w2 _ (List.getElem_mem hj)
            simp (disch := omega) [hds_get hj, Head.c, VE, VXR, VP, VB, VTup, kof, bl, it]
            refine VXC_e (spec_Links_ok f.l f.heads[j] h w3.1 hh.1) (by simp [Lim.c, Head.c, argsD, argDs, argD, St.slc, lk_cons, lk] <;> first | rfl | exact ⟨rfl, rfl⟩ | exact ⟨rfl, rfl, rfl⟩) rfl ?_
            simp (disch := omega) [VE, VXR, VP, VB, VTup, kof, bl, it]
            refine VXB_b (fun h3 => ?_) (fun h3 => ?_)
            · simp (disch := omega) [VE, VXR, VP, VB, VTup, kof, bl, it]
              refine VXC_e (l13Copy_ok f.heads[j] w3) (by simp [argsD, argDs, argD, St.slc, lk_cons, lk] <;> first | rfl | exact ⟨rfl, rfl⟩ | exact ⟨rfl, rfl, rfl⟩) rfl ?_
              simp (disch := omega) [Head.o, VE, VXR, VP, VB, VTup, kof, bl, it]
              rw [(findS hj hd2 h3).1] at ha
              refine hP (acc ++ [h], n, true, hdD f.heads[j] 344064 (n2 + 1), hdS f.heads[j] 344064 (n2 + 1) true) m _ _ (by omega) ⟨by simp; omega, by simp; omega, by simp, fun _ => ⟨f.heads[j], n2 + 1, w3, ?_, .inr ⟨rfl, rfl⟩⟩⟩ (by simp (disch := omega) [hdD, VE, VXR, VP, VB, VTup, kof, bl, it]) (by simp (disch := omega) [hdS, VE, VXR, VP, VB, VTup, kof, bl, it])
              simp only [List.length_append, List.length_singleton, show 10 - (acc.length + 1) = m by omega]
              rw [← ha, List.append_assoc]
              rfl
            · simp (disch := omega) [VE, VXR, VP, VB, VTup, kof, bl, it]
              exact hP2 (j + 1) (g2 - 1) _ _ (by omega) ⟨by omega, take_all (p := fun a => ¬ links f.l a h = true) hd2 hj (by rw [h3]; simp)⟩ (by simp (disch := omega) [VE, VXR, VP, VB, VTup, kof, bl, it]) (by simp (disch := omega) [VE, VXR, VP, VB, VTup, kof, bl, it])
          · have hj : j = f.heads.length := by omega
            subst hj
            rw [(findN hd2).1] at ha
            simp (disch := omega) [VE, VXR, VP, VB, VTup, kof, bl, it]
            refine hP (acc ++ [h], n, false, _, []) m _ _ (by omega) ⟨by simp; omega, by simp; omega, fun _ => ?_, by simp⟩ (by simp (disch := omega) [VE, VXR, VP, VB, VTup, kof, bl, it]; rfl) (by simp (disch := omega) [VE, VXR, VP, VB, VTup, kof, bl, it])
            rw [← ha, upL_none]
        · have : acc.length = 10 := by omega
          simp only [this, Nat.sub_self, upL, List.append_nil] at ha
          simp (disch := omega) [VE, VXR, VP, VB, VTup, kof, bl, it]
          rw [ha]
/-! ### What stands on what -/
noncomputable def stands (f : Forest) (a b : Bytes) : Bool := (upward f b).any fun h => decide (hhash f.l h = a)
theorem upL_wc {f : Forest} (hw : f.wc) : ∀ (n : Nat) (o : Option Head), (∀ h, o = some h → h.wc) → ∀ h ∈ upL f n o, h.wc
  | 0, _, _, h, hh => by simp [upL] at hh
  | _ + 1, none, _, h, hh => by simp [upL] at hh
  | n + 1, some a, ho, h, hh => by
    simp only [upL, List.mem_cons] at hh
    rcases hh with rfl | hh
    · exact ho _ rfl
    · exact upL_wc hw n _ (fun b hb => hw.2 b (List.mem_of_find?_eq_some hb)) h hh
theorem upward_wc {f : Forest} {x : Bytes} (hw : f.wc) : ∀ h ∈ upward f x, h.wc := upL_wc hw 10 _ fun _ e => findHead_wc hw e
theorem upL_len (f : Forest) : ∀ (n : Nat) (o : Option Head), (upL f n o).length ≤ n
  | 0, _ => by simp [upL]
  | _ + 1, none => by simp [upL]
  | n + 1, some a => by have := upL_len f n (f.heads.find? (fun b => decide (links f.l b a = true))); simp only [upL, List.length_cons]; omega
theorem any_hit {q : Head → Prop} [DecidablePred q] {l : List Head} {i : Nat} (hi : i < l.length) (hp : q l[i]) : (l.any fun h => decide (q h)) = true := by
  rw [List.any_eq_true]
  exact ⟨_, List.getElem_mem hi, by simpa using hp⟩
theorem any_miss {q : Head → Prop} [DecidablePred q] {l : List Head} (h : ∀ a ∈ l.take l.length, ¬ q a) : (l.any fun h => decide (q h)) = false := by
  rw [List.take_length] at h
  rw [List.any_eq_false]
  intro a ha
  simpa using h a ha
abbrev n_impl_Stands : Nat := 48
def c_impl_Stands : AF := ⟨3, 5, [.tmp 6], (.seq (.ops [.i (.lbox 3 (.s 0)), .i (.mov 6 (.c (.val false [.bool false])))]) (.seq (.seq (.ops [.i (.ldl 9 3 (.s 3) 6 true), .i (.mov 10 (.s 2)), .i (.call 12 62 false [(.s 9), (.s 10)]), .i (.len 12 false (.s 11)), .i (.mov 13 (.c (.val false [.int .i64 0])))]) (.block 0 (.loop [23, 22, 21, 20, 19, 18, 17, 16, 15, 14, 8] (.seq (.ops [.i (.bin 14 .lss (.s 13) (.s 12))]) (.seq (.cond (.s 14) .skip (.exit 0)) (.seq (.block 1 (.seq (.ops [.i (.iad 15 (.s 11) (.s 13) 10), .i (.ldh 16 (.s 15) 10 true), .i (.lal 8 [.int .i64 0, .int .i64 0, .int .i64 0, .nils, .nils, .int .i64 0, .int .i64 0, .nils, .nils, .nils]), .i (.stl 8 (.s 8) (.s 16) 10)]) (.seq (.ops [.i (.fad 17 (.s 3) 0), .i (.ldl 18 3 (.s 17) 5 true), .i (.ldl 19 8 (.s 8) 10 true), .i (.call 21 115 false [(.s 18), (.s 19)]), .i (.mov 21 (.s 1)), .i (.call 23 114 false [(.s 20), (.s 21)])]) (.cond (.s 22) (.seq (.ops [.i (.mov 6 (.c (.val false [.bool true])))]) .ret) .skip)))) (.ops [.i (.bin 23 .add (.s 13) (.c (.val false [.int .i64 1]))), .i (.mov 13 (.s 23))]))))))) (.seq (.ops [.i (.mov 6 (.c (.val false [.bool false])))]) .ret)))⟩
theorem k_impl_Stands : cd n_impl_Stands = some c_impl_Stands := by kernel_rfl
theorem impl_Stands_ok (f : Forest) (a b : Bytes) (hw : f.wc) : VC cd n_impl_Stands (mkP [(true, f.c), (false, [.sl (bytes a)]), (false, [.sl (bytes b)])]) (fun rs _ => rs = bl (stands f a b)) := by
  have w2 := upward_wc (x := b) hw
  have w3 := upL_len f 10 (findHead f b)
  change (upward f b).length ≤ 10 at w3
  refine VC_enter k_impl_Stands rfl ?_
  simp (disch := omega) [c_impl_Stands, Forest.c, Lim.c, VE, VXR, VP, VB, VTup, kof, bl, it]
  refine VXC_e (impl_Upward_ok f b hw) (by simp [Forest.c, Lim.c, argsD, argDs, argD, St.slc, lk_cons, lk] <;> first | rfl | exact ⟨rfl, rfl⟩ | exact ⟨rfl, rfl, rfl⟩) rfl ?_
  simp (disch := omega) [hds_len, VE, VXR, VP, VB, VTup, kof, bl, it]
  refine VX_loopO (σ := Nat) (f1 := _) (es0 := _) (by simp (disch := omega) [VE, VXR, VP, VB, VTup, kof, bl, it]; rfl) (by simp (disch := omega) [VE, VXR, VP, VB, VTup, kof, bl, it]; rfl) (fun i => [(13, .val false [.int .i64 (i : Int)])]) (fun _ => []) (fun i g => g + i = (upward f b).length ∧ ∀ h ∈ (upward f b).take i, ¬ hhash f.l h = a) 0 (upward f b).length (by simp (disch := omega) [VE, VXR, VP, VB, VTup, kof, bl, it]) (by simp (disch := omega) [VE, VXR, VP, VB, VTup, kof, bl, it]) ⟨by omega, by simp⟩ ?_
  rintro i n g ⟨hg, hd⟩ P hP
  simp (disch := omega) [VE, VXR, VP, VB, VTup, kof, bl, it]
  refine VXB_dec (fun h1 => ?_) (fun h1 => ?_)
  · have hi : i < (upward f b).length := by omega
    have w4 := (w2 _ (List.getElem_mem hi)).1
    simp (disch := omega) [hds_get hi, Head.c, VE, VXR, VP, VB, VTup, kof, bl, it]
    cases h3 : headOk f.l (upward f b)[i]
    all_goals
      first | refine VXC_e ((impl_HeadHash_ok f.l (upward f b)[i] w4).re (hhashE_t h3)) (by simp [argsD, argDs, argD, St.slc, lk_cons, lk] <;> first | rfl | exact ⟨rfl, rfl⟩ | exact ⟨rfl, rfl, rfl⟩) rfl ?_ | refine VXC_e ((impl_HeadHash_ok f.l (upward f b)[i] w4).re (hhashE_f h3)) (by simp [argsD, argDs, argD, St.slc, lk_cons, lk] <;> first | rfl | exact ⟨rfl, rfl⟩ | exact ⟨rfl, rfl, rfl⟩) rfl ?_
      simp (disch := omega) [VE, VXR, VP, VB, VTup, kof, bl, it]
      refine VXC_e (impl_SameBytes_ok (hhash f.l (upward f b)[i]) a) (by simp [hhash, h3, bytes_nil, argsD, argDs, argD, St.slc, lk_cons, lk] <;> first | rfl | exact ⟨rfl, rfl⟩ | exact ⟨rfl, rfl, rfl⟩) rfl ?_
      simp (disch := omega) [VE, VXR, VP, VB, VTup, kof, bl, it]
      refine VXB_dec (fun h5 => ?_) (fun h5 => ?_)
      · have := any_hit (q := fun h => hhash f.l h = a) hi h5
        simp (disch := omega) [stands, this, VE, VXR, VP, VB, VTup, kof, bl, it]
      · simp (disch := omega) [VE, VXR, VP, VB, VTup, kof, bl, it]
        exact hP (i + 1) (g - 1) _ _ (by omega) ⟨by omega, take_all (p := fun h => ¬ hhash f.l h = a) hd hi h5⟩ (by simp (disch := omega) [VE, VXR, VP, VB, VTup, kof, bl, it]) (by simp (disch := omega) [VE, VXR, VP, VB, VTup, kof, bl, it])
  · have hi : i = (upward f b).length := by omega
    subst hi
    have := any_miss hd
    simp (disch := omega) [stands, this, VE, VXR, VP, VB, VTup, kof, bl, it]
abbrev n_spec_Stands : Nat := 45
def c_spec_Stands : AF := ⟨3, 5, [.tmp 6], (.seq (.ops [.i (.lbox 3 (.s 0)), .i (.mov 6 (.c (.val false [.bool false])))]) (.seq (.seq (.ops [.i (.ldl 9 3 (.s 3) 6 true), .i (.mov 10 (.s 2)), .i (.call 12 61 false [(.s 9), (.s 10)]), .i (.len 12 false (.s 11)), .i (.mov 13 (.c (.val false [.int .i64 0])))]) (.block 0 (.loop [23, 22, 21, 20, 19, 18, 17, 16, 15, 14, 8] (.seq (.ops [.i (.bin 14 .lss (.s 13) (.s 12))]) (.seq (.cond (.s 14) .skip (.exit 0)) (.seq (.block 1 (.seq (.ops [.i (.iad 15 (.s 11) (.s 13) 10), .i (.ldh 16 (.s 15) 10 true), .i (.lal 8 [.int .i64 0, .int .i64 0, .int .i64 0, .nils, .nils, .int .i64 0, .int .i64 0, .nils, .nils, .nils]), .i (.stl 8 (.s 8) (.s 16) 10)]) (.seq (.ops [.i (.fad 17 (.s 3) 0), .i (.ldl 18 3 (.s 17) 5 true), .i (.ldl 19 8 (.s 8) 10 true), .i (.call 21 113 false [(.s 18), (.s 19)]), .i (.mov 21 (.s 1)), .i (.call 23 112 false [(.s 20), (.s 21)])]) (.cond (.s 22) (.seq (.ops [.i (.mov 6 (.c (.val false [.bool true])))]) .ret) .skip)))) (.ops [.i (.bin 23 .add (.s 13) (.c (.val false [.int .i64 1]))), .i (.mov 13 (.s 23))]))))))) (.seq (.ops [.i (.mov 6 (.c (.val false [.bool false])))]) .ret)))⟩
theorem k_spec_Stands : cd n_spec_Stands = some c_spec_Stands := by kernel_rfl
theorem spec_Stands_ok (f : Forest) (a b : Bytes) (hw : f.wc) : VC cd n_spec_Stands (mkP [(true, f.c), (false, [.sl (bytes a)]), (false, [.sl (bytes b)])]) (fun rs _ => rs = bl (stands f a b)) := by
  have w2 := upward_wc (x := b) hw
  have w3 := upL_len f 10 (findHead f b)
  change (upward f b).length ≤ 10 at w3
  refine VC_enter k_spec_Stands rfl ?_
  simp (disch := omega) [c_spec_Stands, Forest.c, Lim.c, VE, VXR, VP, VB, VTup, kof, bl, it]
  refine VXC_e (spec_Upward_ok f b hw) (by simp [Forest.c, Lim.c, argsD, argDs, argD, St.slc, lk_cons, lk] <;> first | rfl | exact ⟨rfl, rfl⟩ | exact ⟨rfl, rfl, rfl⟩) rfl ?_
  simp (disch := omega) [hds_len, VE, VXR, VP, VB, VTup, kof, bl, it]
  refine VX_loopO (σ := Nat) (f1 := _) (es0 := _) (by simp (disch := omega) [VE, VXR, VP, VB, VTup, kof, bl, it]; rfl) (by simp (disch := omega) [VE, VXR, VP, VB, VTup, kof, bl, it]; rfl) (fun i => [(13, .val false [.int .i64 (i : Int)])]) (fun _ => []) (fun i g => g + i = (upward f b).length ∧ ∀ h ∈ (upward f b).take i, ¬ hhash f.l h = a) 0 (upward f b).length (by simp (disch := omega) [VE, VXR, VP, VB, VTup, kof, bl, it]) (by simp (disch := omega) [VE, VXR, VP, VB, VTup, kof, bl, it]) ⟨by omega, by simp⟩ ?_
  rintro i n g ⟨hg, hd⟩ P hP
  simp (disch := omega) [VE, VXR, VP, VB, VTup, kof, bl, it]
  refine VXB_dec (fun h1 => ?_) (fun h1 => ?_)
  · have hi : i < (upward f b).length := by omega
    have w4 := (w2 _ (List.getElem_mem hi)).1
    simp (disch := omega) [hds_get hi, Head.c, VE, VXR, VP, VB, VTup, kof, bl, it]
    cases h3 : headOk f.l (upward f b)[i]
    all_goals
      first | refine VXC_e ((spec_HeadHash_ok f.l (upward f b)[i] w4).re (hhashE_t h3)) (by simp [argsD, argDs, argD, St.slc, lk_cons, lk] <;> first | rfl | exact ⟨rfl, rfl⟩ | exact ⟨rfl, rfl, rfl⟩) rfl ?_ | refine VXC_e ((spec_HeadHash_ok f.l (upward f b)[i] w4).re (hhashE_f h3)) (by simp [argsD, argDs, argD, St.slc, lk_cons, lk] <;> first | rfl | exact ⟨rfl, rfl⟩ | exact ⟨rfl, rfl, rfl⟩) rfl ?_
      simp (disch := omega) [VE, VXR, VP, VB, VTup, kof, bl, it]
      refine VXC_e (spec_SameBytes_ok (hhash f.l (upward f b)[i]) a) (by simp [hhash, h3, bytes_nil, argsD, argDs, argD, St.slc, lk_cons, lk] <;> first | rfl | exact ⟨rfl, rfl⟩ | exact ⟨rfl, rfl, rfl⟩) rfl ?_
      simp (disch := omega) [VE, VXR, VP, VB, VTup, kof, bl, it]
      refine VXB_dec (fun h5 => ?_) (fun h5 => ?_)
      · have := any_hit (q := fun h => hhash f.l h = a) hi h5
        simp (disch := omega) [stands, this, VE, VXR, VP, VB, VTup, kof, bl, it]
      · simp (disch := omega) [VE, VXR, VP, VB, VTup, kof, bl, it]
        exact hP (i + 1) (g - 1) _ _ (by omega) ⟨by omega, take_all (p := fun h => ¬ hhash f.l h = a) hd hi h5⟩ (by simp (disch := omega) [VE, VXR, VP, VB, VTup, kof, bl, it]) (by simp (disch := omega) [VE, VXR, VP, VB, VTup, kof, bl, it])
  · have hi : i = (upward f b).length := by omega
    subst hi
    have := any_miss hd
    simp (disch := omega) [stands, this, VE, VXR, VP, VB, VTup, kof, bl, it]
noncomputable def clashing (f : Forest) (a b : Bytes) : Bool := (findHead f a).isSome && (findHead f b).isSome && !stands f a b && !stands f b a
abbrev n_impl_Clashing : Nat := 52
def c_impl_Clashing : AF := ⟨3, 6, [.tmp 6], (.seq (.ops [.i (.lbox 3 (.s 0)), .i (.mov 6 (.c (.val false [.bool false])))]) (.seq (.ops [.i (.ldl 12 3 (.s 3) 6 true), .i (.mov 13 (.s 1)), .i (.call 15 54 false [(.s 12), (.s 13)]), .i (.mov 11 (.s 14)), .i (.ext 15 (.s 11) 0), .i (.ext 16 (.s 11) 1), .i (.lal 7 [.int .i64 0, .int .i64 0, .int .i64 0, .nils, .nils, .int .i64 0, .int .i64 0, .nils, .nils, .nils]), .i (.stl 7 (.s 7) (.s 15) 10), .i (.mov 8 (.s 16))]) (.seq (.ops [.i (.ldl 18 3 (.s 3) 6 true), .i (.mov 19 (.s 2)), .i (.call 21 54 false [(.s 18), (.s 19)]), .i (.mov 17 (.s 20)), .i (.ext 21 (.s 17) 0), .i (.ext 22 (.s 17) 1), .i (.lal 9 [.int .i64 0, .int .i64 0, .int .i64 0, .nils, .nils, .int .i64 0, .int .i64 0, .nils, .nils, .nils]), .i (.stl 9 (.s 9) (.s 21) 10), .i (.mov 10 (.s 22))]) (.seq (.ops [.i (.mov 23 (.s 8)), .i (.mov 24 (.s 23)), .g 24 true 26 (.mov 25 (.s 10)), .i (.pick 26 (.s 24) (.s 25) (.c (.val false [.bool false]))), .i (.mov 27 (.s 26)), .g 27 true 29 (.ldl 28 3 (.s 3) 6 true), .g 27 true 30 (.mov 29 (.s 1)), .g 27 true 31 (.mov 30 (.s 2)), .g 27 true 32 (.call 32 48 false [(.s 28), (.s 29), (.s 30)]), .g 27 true 33 (.not 32 (.s 31)), .i (.pick 33 (.s 27) (.s 32) (.c (.val false [.bool false]))), .i (.mov 34 (.s 33)), .g 34 true 36 (.ldl 35 3 (.s 3) 6 true), .g 34 true 37 (.mov 36 (.s 2)), .g 34 true 38 (.mov 37 (.s 1)), .g 34 true 39 (.call 39 48 false [(.s 35), (.s 36), (.s 37)]), .g 34 true 40 (.not 39 (.s 38)), .i (.pick 40 (.s 34) (.s 39) (.c (.val false [.bool false]))), .i (.mov 6 (.s 40))]) .ret))))⟩
theorem k_impl_Clashing : cd n_impl_Clashing = some c_impl_Clashing := by kernel_rfl
theorem impl_Clashing_ok (f : Forest) (a b : Bytes) (hw : f.wc) : VC cd n_impl_Clashing (mkP [(true, f.c), (false, [.sl (bytes a)]), (false, [.sl (bytes b)])]) (fun rs _ => rs = bl (clashing f a b)) := by
  refine VC_enter k_impl_Clashing rfl ?_
  simp (disch := omega) [c_impl_Clashing, Forest.c, Lim.c, VE, VXR, VP, VB, VTup, kof, bl, it]
  cases h1 : findHead f a <;> cases h2 : findHead f b
  all_goals
    first | refine VXC_e ((impl_FindHead_ok f a hw).re (oh_n h1)) (by simp [Forest.c, Lim.c, argsD, argDs, argD, St.slc, lk_cons, lk] <;> first | rfl | exact ⟨rfl, rfl⟩ | exact ⟨rfl, rfl, rfl⟩) rfl ?_ | refine VXC_e ((impl_FindHead_ok f a hw).re (oh_s h1)) (by simp [Forest.c, Lim.c, argsD, argDs, argD, St.slc, lk_cons, lk] <;> first | rfl | exact ⟨rfl, rfl⟩ | exact ⟨rfl, rfl, rfl⟩) rfl ?_
    simp (disch := omega) [zeroHeadE, Head.o, VE, VXR, VP, VB, VTup, kof, bl, it]
    first | refine VXC_e ((impl_FindHead_ok f b hw).re (oh_n h2)) (by simp [Forest.c, Lim.c, argsD, argDs, argD, St.slc, lk_cons, lk] <;> first | rfl | exact ⟨rfl, rfl⟩ | exact ⟨rfl, rfl, rfl⟩) rfl ?_ | refine VXC_e ((impl_FindHead_ok f b hw).re (oh_s h2)) (by simp [Forest.c, Lim.c, argsD, argDs, argD, St.slc, lk_cons, lk] <;> first | rfl | exact ⟨rfl, rfl⟩ | exact ⟨rfl, rfl, rfl⟩) rfl ?_
    simp (disch := omega) [zeroHeadE, Head.o, VE, VXR, VP, VB, VTup, kof, bl, it]
  · simp (disch := omega) [clashing, h1, h2, VE, VXR, VP, VB, VTup, kof, bl, it]
  · simp (disch := omega) [clashing, h1, h2, VE, VXR, VP, VB, VTup, kof, bl, it]
  · simp (disch := omega) [clashing, h1, h2, VE, VXR, VP, VB, VTup, kof, bl, it]
  · refine VXC_e (impl_Stands_ok f a b hw) (by simp [Forest.c, Lim.c, argsD, argDs, argD, St.slc, lk_cons, lk] <;> first | rfl | exact ⟨rfl, rfl⟩ | exact ⟨rfl, rfl, rfl⟩) rfl ?_
    simp (disch := omega) [VE, VXR, VP, VB, VTup, kof, bl, it]
    refine VXB_b (fun h3 => ?_) (fun h3 => ?_) <;> simp (disch := omega) [h3, clashing, h1, h2, VE, VXR, VP, VB, VTup, kof, bl, it]
    refine VXC_e (impl_Stands_ok f b a hw) (by simp [Forest.c, Lim.c, argsD, argDs, argD, St.slc, lk_cons, lk] <;> first | rfl | exact ⟨rfl, rfl⟩ | exact ⟨rfl, rfl, rfl⟩) rfl ?_
    simp (disch := omega) [h3, VE, VXR, VP, VB, VTup, kof, bl, it]
abbrev n_spec_Clashing : Nat := 51
def c_spec_Clashing : AF := ⟨3, 6, [.tmp 6], (.seq (.ops [.i (.lbox 3 (.s 0)), .i (.mov 6 (.c (.val false [.bool false])))]) (.seq (.ops [.i (.ldl 12 3 (.s 3) 6 true), .i (.mov 13 (.s 1)), .i (.call 15 53 false [(.s 12), (.s 13)]), .i (.mov 11 (.s 14)), .i (.ext 15 (.s 11) 0), .i (.ext 16 (.s 11) 1), .i (.lal 7 [.int .i64 0, .int .i64 0, .int .i64 0, .nils, .nils, .int .i64 0, .int .i64 0, .nils, .nils, .nils]), .i (.stl 7 (.s 7) (.s 15) 10), .i (.mov 8 (.s 16))]) (.seq (.ops [.i (.ldl 18 3 (.s 3) 6 true), .i (.mov 19 (.s 2)), .i (.call 21 53 false [(.s 18), (.s 19)]), .i (.mov 17 (.s 20)), .i (.ext 21 (.s 17) 0), .i (.ext 22 (.s 17) 1), .i (.lal 9 [.int .i64 0, .int .i64 0, .int .i64 0, .nils, .nils, .int .i64 0, .int .i64 0, .nils, .nils, .nils]), .i (.stl 9 (.s 9) (.s 21) 10), .i (.mov 10 (.s 22))]) (.seq (.ops [.i (.mov 23 (.s 8)), .i (.mov 24 (.s 23)), .g 24 true 26 (.mov 25 (.s 10)), .i (.pick 26 (.s 24) (.s 25) (.c (.val false [.bool false]))), .i (.mov 27 (.s 26)), .g 27 true 29 (.ldl 28 3 (.s 3) 6 true), .g 27 true 30 (.mov 29 (.s 1)), .g 27 true 31 (.mov 30 (.s 2)), .g 27 true 32 (.call 32 45 false [(.s 28), (.s 29), (.s 30)]), .g 27 true 33 (.not 32 (.s 31)), .i (.pick 33 (.s 27) (.s 32) (.c (.val false [.bool false]))), .i (.mov 34 (.s 33)), .g 34 true 36 (.ldl 35 3 (.s 3) 6 true), .g 34 true 37 (.mov 36 (.s 2)), .g 34 true 38 (.mov 37 (.s 1)), .g 34 true 39 (.call 39 45 false [(.s 35), (.s 36), (.s 37)]), .g 34 true 40 (.not 39 (.s 38)), .i (.pick 40 (.s 34) (.s 39) (.c (.val false [.bool false]))), .i (.mov 6 (.s 40))]) .ret))))⟩
theorem k_spec_Clashing : cd n_spec_Clashing = some c_spec_Clashing := by kernel_rfl
theorem spec_Clashing_ok (f : Forest) (a b : Bytes) (hw : f.wc) : VC cd n_spec_Clashing (mkP [(true, f.c), (false, [.sl (bytes a)]), (false, [.sl (bytes b)])]) (fun rs _ => rs = bl (clashing f a b)) := by
  refine VC_enter k_spec_Clashing rfl ?_
  simp (disch := omega) [c_spec_Clashing, Forest.c, Lim.c, VE, VXR, VP, VB, VTup, kof, bl, it]
  cases h1 : findHead f a <;> cases h2 : findHead f b
  all_goals
    first | refine VXC_e ((spec_FindHead_ok f a hw).re (oh_n h1)) (by simp [Forest.c, Lim.c, argsD, argDs, argD, St.slc, lk_cons, lk] <;> first | rfl | exact ⟨rfl, rfl⟩ | exact ⟨rfl, rfl, rfl⟩) rfl ?_ | refine VXC_e ((spec_FindHead_ok f a hw).re (oh_s h1)) (by simp [Forest.c, Lim.c, argsD, argDs, argD, St.slc, lk_cons, lk] <;> first | rfl | exact ⟨rfl, rfl⟩ | exact ⟨rfl, rfl, rfl⟩) rfl ?_
    simp (disch := omega) [zeroHeadE, Head.o, VE, VXR, VP, VB, VTup, kof, bl, it]
    first | refine VXC_e ((spec_FindHead_ok f b hw).re (oh_n h2)) (by simp [Forest.c, Lim.c, argsD, argDs, argD, St.slc, lk_cons, lk] <;> first | rfl | exact ⟨rfl, rfl⟩ | exact ⟨rfl, rfl, rfl⟩) rfl ?_ | refine VXC_e ((spec_FindHead_ok f b hw).re (oh_s h2)) (by simp [Forest.c, Lim.c, argsD, argDs, argD, St.slc, lk_cons, lk] <;> first | rfl | exact ⟨rfl, rfl⟩ | exact ⟨rfl, rfl, rfl⟩) rfl ?_
    simp (disch := omega) [zeroHeadE, Head.o, VE, VXR, VP, VB, VTup, kof, bl, it]
  · simp (disch := omega) [clashing, h1, h2, VE, VXR, VP, VB, VTup, kof, bl, it]
  · simp (disch := omega) [clashing, h1, h2, VE, VXR, VP, VB, VTup, kof, bl, it]
  · simp (disch := omega) [clashing, h1, h2, VE, VXR, VP, VB, VTup, kof, bl, it]
  · refine VXC_e (spec_Stands_ok f a b hw) (by simp [Forest.c, Lim.c, argsD, argDs, argD, St.slc, lk_cons, lk] <;> first | rfl | exact ⟨rfl, rfl⟩ | exact ⟨rfl, rfl, rfl⟩) rfl ?_
    simp (disch := omega) [VE, VXR, VP, VB, VTup, kof, bl, it]
    refine VXB_b (fun h3 => ?_) (fun h3 => ?_) <;> simp (disch := omega) [h3, clashing, h1, h2, VE, VXR, VP, VB, VTup, kof, bl, it]
    refine VXC_e (spec_Stands_ok f b a hw) (by simp [Forest.c, Lim.c, argsD, argDs, argD, St.slc, lk_cons, lk] <;> first | rfl | exact ⟨rfl, rfl⟩ | exact ⟨rfl, rfl, rfl⟩) rfl ?_
    simp (disch := omega) [h3, VE, VXR, VP, VB, VTup, kof, bl, it]
end Go.Eng.F
/-
  Functions: forests at the program's types.
-/
set_option maxRecDepth 100000
set_option linter.unusedSimpArgs false
set_option linter.unusedVariables false
namespace Go.Eng.F
open Go.Eng.U (TQc THead TLimits TForest)
def Forest.tv (f : Forest) : Tv := .r [f.l.tv, hdsT f.heads]
theorem Forest.enc (f : Forest) : enc TForest f.tv = f.c := by simp only [Forest.tv, enc_hds, enc_st, encS_cons, encS_nil, Lim.enc, Forest.c, List.append_nil]
theorem Forest.ex {v : Tv} (h : TvOk TForest v) : ∃ q : Forest, v = q.tv := by
  obtain ⟨vs, rfl, h⟩ := h.st
  obtain ⟨v0, _, rfl, h0, h⟩ := h.step
  obtain ⟨v1, _, rfl, h1, h⟩ := h.step
  obtain rfl := h.fin
  obtain ⟨n0, rfl⟩ := Lim.ex h0
  obtain ⟨n1, rfl⟩ := hdsT_ex h1
  exact ⟨⟨n0, n1⟩, rfl⟩
theorem Forest.of {f : Forest} (h : TvOk TForest f.tv) (hw : wt f.tv ≤ 1048576) : f.wc ∧ TvOk TLimits f.l.tv ∧ f.heads.length ≤ 1048576 := by
  simp only [Forest.tv, ok_st, okS_cons] at h
  simp only [Forest.tv, wt, wts] at hw
  obtain ⟨h0, h1, _⟩ := h
  have h5 := hds_of h1 (by omega)
  have h6 : f.heads.length ≤ wt (hdsT f.heads) := by unfold hdsT; rw [wt_l, List.length_map]; omega
  exact ⟨⟨h5.1, h5.2⟩, ok_st.2 (ok_st.1 h0), by omega⟩
theorem bl_rs (b : Bool) : RsE (bl b) [(.bool, .b b)] := ⟨rfl, by simp only [enc_bool, EEq, D.leaf, and_self], trivial, trivial⟩
theorem io_impl_Clashing {h0 : H} {f : Forest} {a b : Bytes} {ms : List (Bool × List C)} (ha : ArgsRp h0 [(TForest, f.tv), ((.sl (.int .u8)), bsT a), ((.sl (.int .u8)), bsT b)] ms) (hp0 : wt f.tv ≤ 1048576) (hp1 : wt (bsT a) ≤ 1048576) (hp2 : wt (bsT b) ≤ 1048576) :
    WC cd n_impl_Clashing ms h0 (Ans h0 [(.bool, .b (clashing f a b))]) := by
  obtain ⟨k0, mr0, ha0⟩ := ArgsRp.ok1 ha
  obtain ⟨k1, mr1, ha1⟩ := ArgsRp.ok1 ha0
  obtain ⟨k2, mr2, ha2⟩ := ArgsRp.ok1 ha1
  obtain ⟨w1, w2, w3⟩ := Forest.of k0 hp0
  have hc := impl_Clashing_ok f a b w1
  have e : encA [(TForest, f.tv), ((.sl (.int .u8)), bsT a), ((.sl (.int .u8)), bsT b)] = [(true, f.c), (false, [.sl (bytes a)]), (false, [.sl (bytes b)])] := by simp only [encA, List.map, Lim.enc, Head.enc, Qc.enc, enc_bss', enc_bs, enc_int, enc_bool, enc_str, enc_hds, Forest.enc, Ty.agg]
  rw [← e] at hc
  exact hc.wc ha fun rs q => by rw [q]; exact bl_rs _
theorem io_spec_Clashing {h0 : H} {f : Forest} {a b : Bytes} {ms : List (Bool × List C)} (ha : ArgsRp h0 [(TForest, f.tv), ((.sl (.int .u8)), bsT a), ((.sl (.int .u8)), bsT b)] ms) (hp0 : wt f.tv ≤ 1048576) (hp1 : wt (bsT a) ≤ 1048576) (hp2 : wt (bsT b) ≤ 1048576) :
    WC cd n_spec_Clashing ms h0 (Ans h0 [(.bool, .b (clashing f a b))]) := by
  obtain ⟨k0, mr0, ha0⟩ := ArgsRp.ok1 ha
  obtain ⟨k1, mr1, ha1⟩ := ArgsRp.ok1 ha0
  obtain ⟨k2, mr2, ha2⟩ := ArgsRp.ok1 ha1
  obtain ⟨w1, w2, w3⟩ := Forest.of k0 hp0
  have hc := spec_Clashing_ok f a b w1
  have e : encA [(TForest, f.tv), ((.sl (.int .u8)), bsT a), ((.sl (.int .u8)), bsT b)] = [(true, f.c), (false, [.sl (bytes a)]), (false, [.sl (bytes b)])] := by simp only [encA, List.map, Lim.enc, Head.enc, Qc.enc, enc_bss', enc_bs, enc_int, enc_bool, enc_str, enc_hds, Forest.enc, Ty.agg]
  rw [← e] at hc
  exact hc.wc ha fun rs q => by rw [q]; exact bl_rs _
theorem wts_le {α : Type} {f : α → Tv} {B : Nat} : ∀ {l : List α}, (∀ x ∈ l, wt (f x) ≤ B) → wts (l.map f) ≤ l.length * B
  | [], _ => by simp [wts]
  | a :: l, h => by
    have h1 := h a (by simp)
    have h2 := wts_le (l := l) fun x hx => h x (by simp [hx])
    simp only [List.map_cons, wts, List.length_cons, Nat.succ_mul]
    omega
end Go.Eng.F
