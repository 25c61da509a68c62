import Derived.Test.YtaicdpancmfhnaaGreatGg
/-
  Functions: numbers in bytes; what is put.
-/
set_option maxRecDepth 100000
set_option linter.unusedSimpArgs false
set_option linter.unusedVariables false
namespace Go.Eng.F
def varB (n : Nat) : Bytes := if n < 128 then [UInt8.ofNat n] else UInt8.ofNat (n % 128 + 128) :: varB (n / 128)
termination_by n
decreasing_by omega
theorem varB_lo {n : Nat} (h : n < 128) : varB n = [UInt8.ofNat n] := by rw [varB, if_pos h]
theorem varB_hi {n : Nat} (h : ¬ n < 128) : varB n = UInt8.ofNat (n % 128 + 128) :: varB (n / 128) := by rw [varB, if_neg h]
theorem varB_len : ∀ (k n : Nat), n < 128 ^ (k + 1) → (varB n).length ≤ k + 1
  | 0, n, h => by rw [varB_lo (by simpa using h)]; simp
  | k + 1, n, h => by
    by_cases h1 : n < 128
    · rw [varB_lo h1]; simp
    · rw [varB_hi h1]
      have := varB_len k (n / 128) (by rw [Nat.div_lt_iff_lt_mul (by omega)]; rw [Nat.pow_succ] at h; exact h)
      simp only [List.length_cons]; omega
theorem varB_nine {n : Nat} (h : n ≤ 1152921504606846975) : (varB n).length ≤ 9 := varB_len 8 n (by simp; omega)
theorem u8n {k : Nat} (h : k < 256) : IntKind.u8.wrap (k : Int) = ((UInt8.ofNat k).toNat : Int) := by
  simp only [UInt8.toNat_ofNat', IntKind.wrap, IntKind.bits, IntKind.signed]
  simp
def putVarE (b : Bytes) (n : Int) : List (Bool × List E) :=
  if isNum n then [(false, [.o true (some (5, 1)) (bytes (b ++ varB n.toNat))]), (false, [.p (.bool true)])] else [(false, [.p .nils]), (false, [.p (.bool false)])]
theorem isNum_nat {n : Int} (h : isNum n = true) : ∃ m : Nat, n = (m : Int) ∧ m ≤ 1152921504606846975 := ⟨n.toNat, by have := inn_t h; omega⟩
abbrev n_impl_PutVar : Nat := 162
def c_impl_PutVar : AF := ⟨2, 5, [.tmp 4, .tmp 5], (.seq (.ops [.i (.mov 4 (.c (.val false [.nils]))), .i (.mov 5 (.c (.val false [.bool false])))]) (.seq (.seq (.ops [.i (.mov 7 (.s 1)), .i (.call 9 112 false [(.s 7)]), .i (.not 9 (.s 8))]) (.cond (.s 9) (.seq (.ops [.i (.mov 4 (.c (.val false [.nils]))), .i (.mov 5 (.c (.val false [.bool false])))]) .ret) .skip)) (.seq (.ops [.i (.mov 10 (.s 0)), .i (.call 12 61 false [(.s 10)]), .i (.mov 6 (.s 11))]) (.seq (.block 0 (.loop [22, 21, 20, 19, 18, 17, 16, 15, 14, 13, 12] (.seq (.seq (.ops [.i (.mov 12 (.s 1)), .i (.bin 13 .geq (.s 12) (.c (.val false [.int .i64 128])))]) (.cond (.s 13) .skip (.exit 0))) (.block 1 (.seq (.ops [.i (.mov 14 (.s 6)), .i (.mov 15 (.s 1)), .i (.bin 16 .rem (.s 15) (.c (.val false [.int .i64 128]))), .i (.bin 17 .add (.s 16) (.c (.val false [.int .i64 128]))), .i (.cvi 18 .u8 (.s 17)), .i (.lsl 19 1 1 [.int .u8 0] [(0, 1, (.s 18))]), .i (.app 20 5 1 1 (.s 14) (.s 19)), .i (.mov 6 (.s 20))]) (.ops [.i (.mov 21 (.s 1)), .i (.bin 22 .quo (.s 21) (.c (.val false [.int .i64 128]))), .i (.mov 1 (.s 22))])))))) (.seq (.ops [.i (.mov 23 (.s 6)), .i (.mov 24 (.s 1)), .i (.cvi 25 .u8 (.s 24)), .i (.lsl 26 1 1 [.int .u8 0] [(0, 1, (.s 25))]), .i (.app 27 5 1 1 (.s 23) (.s 26)), .i (.mov 4 (.s 27)), .i (.mov 5 (.c (.val false [.bool true])))]) .ret)))))⟩
theorem k_impl_PutVar : cd n_impl_PutVar = some c_impl_PutVar := by kernel_rfl
theorem impl_PutVar_ok (b : Bytes) (n : Int) (hb : b.length ≤ 1073741824) : VC cd n_impl_PutVar (mkP [(false, [.sl (bytes b)]), (false, [.int .i64 n])]) (fun rs _ => rs = putVarE b n) := by
  refine VC_enter k_impl_PutVar rfl ?_
  simp (disch := omega) [c_impl_PutVar, VE, VXR, VP, VB, VTup, kof, bl, it]
  refine VXC_e (isNum_ok n) rfl rfl ?_
  simp (disch := omega) [VE, VXR, VP, VB, VTup, kof, bl, it]
  refine VXB_b (fun h1 => ?_) (fun h1 => ?_)
  case refine_2 => simp (disch := omega) [putVarE, h1, VE, VXR, VP, VB, VTup, kof, bl, it]
  simp (disch := omega) [h1, VE, VXR, VP, VB, VTup, kof, bl, it]
  refine VXC_e (copyBytes_ok b (by omega)) rfl rfl ?_
  obtain ⟨m, rfl, hm⟩ := isNum_nat h1
  have hl := varB_nine hm
  simp (disch := omega) [VE, VXR, VP, VB, VTup, kof, bl, it]
  refine VX_loop3 (σ := Nat × Bytes × Nat) (f1 := _) (es0 := _) (by simp (disch := omega) [VE, VXR, VP, VB, VTup, kof, bl, it]; rfl) (by simp (disch := omega) [VE, VXR, VP, VB, VTup, kof, bl, it]; rfl) (fun p => [(1, .val false [.int .i64 (p.1 : Int)]), (6, .val false [.ow 106496 p.2.2])]) (fun p => [(106496, .sl p.2.2 true true (some (5, 1)) (bytes p.2.1))])
    (fun p g => g = p.1 ∧ p.1 ≤ m ∧ p.2.1 ++ varB p.1 = b ++ varB m) (m, b, _) m (by simp (disch := omega) [VE, VXR, VP, VB, VTup, kof, bl, it]; rfl) (by simp (disch := omega) [VE, VXR, VP, VB, VTup, kof, bl, it]) ⟨rfl, Nat.le_refl _, rfl⟩ ?_
  rintro ⟨k, a, v⟩ n g ⟨hg, hk, ha⟩
  simp only at hg hk ha
  have hla : a.length ≤ b.length + 9 := by
    have := congrArg List.length ha
    simp only [List.length_append] at this
    omega
  simp (disch := omega) [VE, VXR, VP, VB, VTup, kof, bl, it]
  refine VXB_dec (fun h2 => ?_) (fun h2 => ?_)
  · have e1 : Int.tmod (k : Int) 128 = (k : Int) % 128 := Int.tmod_eq_emod_of_nonneg (by omega)
    have e2 : Int.tdiv (k : Int) 128 = (k : Int) / 128 := Int.tdiv_eq_ediv_of_nonneg (by omega)
    have e3 : IntKind.u8.wrap ((k : Int) % 128 + 128) = ((UInt8.ofNat (k % 128 + 128)).toNat : Int) := by rw [← u8n (by omega)]; congr 1
    have e4 : bytes a ++ [[.int .u8 ((UInt8.ofNat (k % 128 + 128)).toNat : Int)]] = bytes (a ++ [UInt8.ofNat (k % 128 + 128)]) := by simp [bytes]
    simp (disch := omega) [e1, e2, e3, e4, bytes_len, VE, VXR, VP, VB, VTup, kof, bl, it]
    refine ⟨k / 128, a ++ [UInt8.ofNat (k % 128 + 128)], _, k / 128, by omega, ⟨rfl, by omega, ?_⟩, ⟨rfl, by omega⟩, rfl, by simp [bytes]⟩
    rw [← ha, varB_hi (n := k) (by omega)]
    simp
  · have e3 : IntKind.u8.wrap (k : Int) = ((UInt8.ofNat k).toNat : Int) := u8n (by omega)
    have e4 : bytes a ++ [[.int .u8 ((UInt8.ofNat k).toNat : Int)]] = bytes (a ++ [UInt8.ofNat k]) := by simp [bytes]
    rw [varB_lo (n := k) (by omega)] at ha
    simp (disch := omega) [e3, e4, bytes_len, putVarE, h1, VE, VXR, VP, VB, VTup, kof, bl, it]
    rw [← ha]
    simp [bytes]
abbrev n_spec_PutVar : Nat := 144
def c_spec_PutVar : AF := ⟨2, 5, [.tmp 4, .tmp 5], (.seq (.ops [.i (.mov 4 (.c (.val false [.nils]))), .i (.mov 5 (.c (.val false [.bool false])))]) (.seq (.seq (.ops [.i (.mov 7 (.s 1)), .i (.call 9 107 false [(.s 7)]), .i (.not 9 (.s 8))]) (.cond (.s 9) (.seq (.ops [.i (.mov 4 (.c (.val false [.nils]))), .i (.mov 5 (.c (.val false [.bool false])))]) .ret) .skip)) (.seq (.ops [.i (.mov 10 (.s 0)), .i (.call 12 54 false [(.s 10)]), .i (.mov 6 (.s 11))]) (.seq (.block 0 (.loop [22, 21, 20, 19, 18, 17, 16, 15, 14, 13, 12] (.seq (.seq (.ops [.i (.mov 12 (.s 1)), .i (.bin 13 .gtr (.s 12) (.c (.val false [.int .i64 127])))]) (.cond (.s 13) .skip (.exit 0))) (.block 1 (.seq (.ops [.i (.mov 14 (.s 6)), .i (.mov 15 (.s 1)), .i (.bin 16 .rem (.s 15) (.c (.val false [.int .i64 128]))), .i (.bin 17 .add (.c (.val false [.int .i64 128])) (.s 16)), .i (.cvi 18 .u8 (.s 17)), .i (.lsl 19 1 1 [.int .u8 0] [(0, 1, (.s 18))]), .i (.app 20 5 1 1 (.s 14) (.s 19)), .i (.mov 6 (.s 20))]) (.ops [.i (.mov 21 (.s 1)), .i (.bin 22 .quo (.s 21) (.c (.val false [.int .i64 128]))), .i (.mov 1 (.s 22))])))))) (.seq (.ops [.i (.mov 23 (.s 6)), .i (.mov 24 (.s 1)), .i (.cvi 25 .u8 (.s 24)), .i (.lsl 26 1 1 [.int .u8 0] [(0, 1, (.s 25))]), .i (.app 27 5 1 1 (.s 23) (.s 26)), .i (.mov 4 (.s 27)), .i (.mov 5 (.c (.val false [.bool true])))]) .ret)))))⟩
theorem k_spec_PutVar : cd n_spec_PutVar = some c_spec_PutVar := by kernel_rfl
theorem spec_PutVar_ok (b : Bytes) (n : Int) (hb : b.length ≤ 1073741824) : VC cd n_spec_PutVar (mkP [(false, [.sl (bytes b)]), (false, [.int .i64 n])]) (fun rs _ => rs = putVarE b n) := by
  refine VC_enter k_spec_PutVar rfl ?_
  simp (disch := omega) [c_spec_PutVar, VE, VXR, VP, VB, VTup, kof, bl, it]
  refine VXC_e (l01Num_ok n) rfl rfl ?_
  simp (disch := omega) [VE, VXR, VP, VB, VTup, kof, bl, it]
  refine VXB_b (fun h1 => ?_) (fun h1 => ?_)
  case refine_2 => simp (disch := omega) [putVarE, h1, VE, VXR, VP, VB, VTup, kof, bl, it]
  simp (disch := omega) [h1, VE, VXR, VP, VB, VTup, kof, bl, it]
  refine VXC_e (l01Copy_ok b (by omega)) rfl rfl ?_
  obtain ⟨m, rfl, hm⟩ := isNum_nat h1
  have hl := varB_nine hm
  simp (disch := omega) [VE, VXR, VP, VB, VTup, kof, bl, it]
  refine VX_loop3 (σ := Nat × Bytes × Nat) (f1 := _) (es0 := _) (by simp (disch := omega) [VE, VXR, VP, VB, VTup, kof, bl, it]; rfl) (by simp (disch := omega) [VE, VXR, VP, VB, VTup, kof, bl, it]; rfl) (fun p => [(1, .val false [.int .i64 (p.1 : Int)]), (6, .val false [.ow 106496 p.2.2])]) (fun p => [(106496, .sl p.2.2 true true (some (5, 1)) (bytes p.2.1))])
    (fun p g => g = p.1 ∧ p.1 ≤ m ∧ p.2.1 ++ varB p.1 = b ++ varB m) (m, b, _) m (by simp (disch := omega) [VE, VXR, VP, VB, VTup, kof, bl, it]; rfl) (by simp (disch := omega) [VE, VXR, VP, VB, VTup, kof, bl, it]) ⟨rfl, Nat.le_refl _, rfl⟩ ?_
  rintro ⟨k, a, v⟩ n g ⟨hg, hk, ha⟩
  simp only at hg hk ha
  have hla : a.length ≤ b.length + 9 := by
    have := congrArg List.length ha
    simp only [List.length_append] at this
    omega
  simp (disch := omega) [VE, VXR, VP, VB, VTup, kof, bl, it]
  refine VXB_dec (fun h2 => ?_) (fun h2 => ?_)
  · have e1 : Int.tmod (k : Int) 128 = (k : Int) % 128 := Int.tmod_eq_emod_of_nonneg (by omega)
    have e2 : Int.tdiv (k : Int) 128 = (k : Int) / 128 := Int.tdiv_eq_ediv_of_nonneg (by omega)
    have e3 : IntKind.u8.wrap (128 + (k : Int) % 128) = ((UInt8.ofNat (k % 128 + 128)).toNat : Int) := by rw [← u8n (by omega)]; congr 1; omega
    have e4 : bytes a ++ [[.int .u8 ((UInt8.ofNat (k % 128 + 128)).toNat : Int)]] = bytes (a ++ [UInt8.ofNat (k % 128 + 128)]) := by simp [bytes]
    simp (disch := omega) [e1, e2, e3, e4, bytes_len, VE, VXR, VP, VB, VTup, kof, bl, it]
    refine ⟨k / 128, a ++ [UInt8.ofNat (k % 128 + 128)], _, k / 128, by omega, ⟨rfl, by omega, ?_⟩, ⟨rfl, by omega⟩, rfl, by simp [bytes]⟩
    rw [← ha, varB_hi (n := k) (by omega)]
    simp
  · have e3 : IntKind.u8.wrap (k : Int) = ((UInt8.ofNat k).toNat : Int) := u8n (by omega)
    have e4 : bytes a ++ [[.int .u8 ((UInt8.ofNat k).toNat : Int)]] = bytes (a ++ [UInt8.ofNat k]) := by simp [bytes]
    rw [varB_lo (n := k) (by omega)] at ha
    simp (disch := omega) [e3, e4, bytes_len, putVarE, h1, VE, VXR, VP, VB, VTup, kof, bl, it]
    rw [← ha]
    simp [bytes]


theorem isNum_of {n : Nat} (h : n ≤ 1152921504606846975) : isNum (n : Int) = true := by simp [isNum, inn]; omega
theorem impl_PutVar_t (b : Bytes) (n : Nat) (hn : n ≤ 1152921504606846975) (hb : b.length ≤ 1073741824) : VC cd n_impl_PutVar (mkP [(false, [.sl (bytes b)]), (false, [.int .i64 (n : Int)])]) (fun rs _ => rs = [(false, [.o true (some (5, 1)) (bytes (b ++ varB n))]), (false, [.p (.bool true)])]) :=
  (impl_PutVar_ok b n hb).mono fun rs ps h => by rw [h, putVarE, if_pos (isNum_of hn)]; rfl
theorem spec_PutVar_t (b : Bytes) (n : Nat) (hn : n ≤ 1152921504606846975) (hb : b.length ≤ 1073741824) : VC cd n_spec_PutVar (mkP [(false, [.sl (bytes b)]), (false, [.int .i64 (n : Int)])]) (fun rs _ => rs = [(false, [.o true (some (5, 1)) (bytes (b ++ varB n))]), (false, [.p (.bool true)])]) :=
  (spec_PutVar_ok b n hb).mono fun rs ps h => by rw [h, putVarE, if_pos (isNum_of hn)]; rfl
abbrev n_spec_l11Num : Nat := 119
def c_spec_l11Num : AF := ⟨2, 4, [.tmp 4], (.seq (.ops [.i (.mov 4 (.c (.val false [.nils])))]) (.seq (.ops [.i (.mov 8 (.s 0)), .i (.mov 9 (.s 1)), .i (.call 11 144 false [(.s 8), (.s 9)]), .i (.mov 7 (.s 10)), .i (.ext 11 (.s 7) 0), .i (.ext 12 (.s 7) 1), .i (.mov 5 (.s 11)), .i (.mov 6 (.s 12))]) (.seq (.ops [.i (.mov 13 (.s 5)), .i (.mov 4 (.s 13))]) .ret)))⟩
theorem k_spec_l11Num : cd n_spec_l11Num = some c_spec_l11Num := by kernel_rfl
theorem l11Num_ok (b : Bytes) (n : Int) (hn : isNum n = true) (hb : b.length ≤ 1073741824) : VC cd n_spec_l11Num (mkP [(false, [.sl (bytes b)]), (false, [.int .i64 n])]) (fun rs _ => rs = [(false, [.o true (some (5, 1)) (bytes (b ++ varB n.toNat))])]) := by
  obtain ⟨m, rfl, hm⟩ := isNum_nat hn
  refine VC_enter k_spec_l11Num rfl ?_
  simp (disch := omega) [c_spec_l11Num, VE, VXR, VP, VB, VTup, kof, bl, it]
  refine VXC_e (spec_PutVar_t b m hm hb) rfl rfl ?_
  simp (disch := omega) [VE, VXR, VP, VB, VTup, kof, bl, it]
abbrev n_impl_writer_num : Nat := 149
def c_impl_writer_num : AF := ⟨2, 5, [], (.ops [.i (.mov 5 (.s 0)), .i (.mov 6 (.s 0)), .i (.nch 7 (.s 6)), .i (.fad 8 (.s 7) 0), .i (.ldh 9 (.s 8) 1 false), .i (.mov 10 (.s 1)), .i (.call 12 162 false [(.s 9), (.s 10)]), .i (.mov 4 (.s 11)), .i (.ext 12 (.s 4) 0), .i (.ext 13 (.s 4) 1), .i (.nch 14 (.s 5)), .i (.fad 15 (.s 14) 0), .i (.sth (.s 15) (.s 12) 1)])⟩
theorem k_impl_writer_num : cd n_impl_writer_num = some c_impl_writer_num := by kernel_rfl
theorem writer_num_ok (b : Bytes) (n : Int) (hn : isNum n = true) (hb : b.length ≤ 1073741824) : VC cd n_impl_writer_num (mkQ [] 151 [.o true (some (5, 1)) (bytes b)] [(false, [.int .i64 n])]) (fun r p => r = [] ∧ p = [.pt 151 [.o true (some (5, 1)) (bytes (b ++ varB n.toNat))]]) := by
  obtain ⟨m, rfl, hm⟩ := isNum_nat hn
  refine VC_enterQ k_impl_writer_num rfl ?_
  simp (disch := omega) [c_impl_writer_num, VE, VXR, VP, VB, VTup, kof, bl, it, VQ, expR, expE, exp0]
  refine VXC_e (impl_PutVar_t b m hm hb) rfl rfl ?_
  simp (disch := omega) [VE, VXR, VP, VB, VTup, kof, bl, it, VQ, expR, expE, exp0]
abbrev n_impl_writer_raw : Nat := 150
def c_impl_writer_raw : AF := ⟨2, 4, [], (.ops [.i (.mov 4 (.s 0)), .i (.mov 5 (.s 0)), .i (.nch 6 (.s 5)), .i (.fad 7 (.s 6) 0), .i (.ldh 8 (.s 7) 1 false), .i (.mov 9 (.s 1)), .i (.app 10 5 1 1 (.s 8) (.s 9)), .i (.nch 11 (.s 4)), .i (.fad 12 (.s 11) 0), .i (.sth (.s 12) (.s 10) 1)])⟩
theorem k_impl_writer_raw : cd n_impl_writer_raw = some c_impl_writer_raw := by kernel_rfl
theorem writer_raw_ok (b x : Bytes) (hx : x.length ≤ 1073741824) (hb : b.length ≤ 1073741824) : VC cd n_impl_writer_raw (mkQ [] 151 [.o true (some (5, 1)) (bytes b)] [(false, [.sl (bytes x)])]) (fun r p => r = [] ∧ p = [.pt 151 [.o true (some (5, 1)) (bytes (b ++ x))]]) := by
  refine VC_enterQ k_impl_writer_raw rfl ?_
  simp (disch := omega) [c_impl_writer_raw, bytes_len, bytes_app, VE, VXR, VP, VB, VTup, kof, bl, it, VQ, expR, expE, exp0]
/-! ### Certificates, headers -/
def qcB (q : Qc) : Bytes := varB q.view.toNat ++ varB q.height.toNat ++ q.block ++ q.bits ++ q.tags.flatten
def headB (h : Head) : Bytes := varB h.view.toNat ++ varB h.height.toNat ++ varB h.proposer.toNat ++ h.parent ++ h.root ++ qcB h.qc
theorem varB_num {n : Int} (h : isNum n = true) : (varB n.toNat).length ≤ 9 := by
  obtain ⟨m, rfl, hm⟩ := isNum_nat h
  simpa using varB_nine hm
theorem bsz_ten {n : Int} (h : 1 ≤ n ∧ n ≤ 10) : bsz n ≤ 2 := by unfold bsz; split <;> omega
structure QcSz (q : Qc) : Prop where
  view : isNum q.view = true
  height : isNum q.height = true
  block : q.block.length = 32
  bits : q.bits.length ≤ 2
  tags : q.tags.length ≤ 16
  tag : ∀ t ∈ q.tags, t.length = 32
theorem qcOk_sz {l : Lim} {q : Qc} (h : qcOk l q = true) : QcSz q := by
  simp only [qcOk, Bool.and_eq_true, decide_eq_true_eq] at h
  obtain ⟨⟨⟨⟨⟨⟨h0, h1⟩, h2⟩, h3⟩, h4⟩, h5⟩, h6⟩ := h
  simp only [bitsOk, Bool.and_eq_true, decide_eq_true_eq] at h4
  have hb := bsz_ten (inn_t h4.1.1)
  have hl := bitsList_len q.bits
  refine ⟨h1, h2, by simpa [hash] using h3, by omega, by omega, fun t ht => ?_⟩
  simp only [hashes, List.all_eq_true] at h6
  simpa [hash] using h6 t ht
theorem flat_take {l : List Bytes} (h : ∀ t ∈ l, t.length = 32) {i : Nat} (hi : i ≤ l.length) : (l.take i).flatten.length = 32 * i := by
  induction i generalizing l with
  | zero => simp
  | succ i ih =>
    cases l with
    | nil => simp at hi
    | cons a l =>
      simp only [List.take_succ_cons, List.flatten_cons, List.length_append]
      rw [ih (fun t ht => h t (by simp [ht])) (by simpa using hi), h a (by simp)]
      omega
theorem flat_next {l : List Bytes} {i : Nat} (h : i < l.length) : (l.take (i + 1)).flatten = (l.take i).flatten ++ l[i] := by
  rw [List.take_add_one, List.getElem?_eq_getElem h, List.flatten_append]
  simp only [Option.toList_some, List.flatten_cons, List.flatten_nil, List.append_nil]
theorem qcB_len {q : Qc} (h : QcSz q) : (qcB q).length ≤ 600 := by
  have h1 := varB_num h.view
  have h2 := varB_num h.height
  have h3 := flat_take h.tag (Nat.le_refl _)
  rw [List.take_length] at h3
  have := h.block
  have := h.bits
  have := h.tags
  simp only [qcB, List.length_append]
  omega
abbrev n_impl_writer_qc : Nat := 151
def c_impl_writer_qc : AF := ⟨2, 6, [], (.seq (.ops [.i (.lbox 3 (.s 1))]) (.seq (.ops [.i (.mov 6 (.s 0)), .i (.fad 7 (.s 3) 0), .i (.ldl 8 3 (.s 7) 1 false), .i (.call 10 149 false [(.s 6), (.s 8)])]) (.seq (.ops [.i (.mov 10 (.s 0)), .i (.fad 11 (.s 3) 1), .i (.ldl 12 3 (.s 11) 1 false), .i (.call 14 149 false [(.s 10), (.s 12)])]) (.seq (.ops [.i (.mov 14 (.s 0)), .i (.fad 15 (.s 3) 2), .i (.ldl 16 3 (.s 15) 1 false), .i (.call 18 150 false [(.s 14), (.s 16)])]) (.seq (.ops [.i (.mov 18 (.s 0)), .i (.fad 19 (.s 3) 3), .i (.ldl 20 3 (.s 19) 1 false), .i (.call 22 150 false [(.s 18), (.s 20)])]) (.seq (.ops [.i (.fad 22 (.s 3) 4), .i (.ldl 23 3 (.s 22) 1 false), .i (.len 24 false (.s 23)), .i (.mov 25 (.c (.val false [.int .i64 0])))]) (.block 0 (.loop [32, 31, 30, 29, 28, 27, 26, 5] (.seq (.ops [.i (.bin 26 .lss (.s 25) (.s 24))]) (.seq (.cond (.s 26) .skip (.exit 0)) (.seq (.block 1 (.seq (.ops [.i (.iad 27 (.s 23) (.s 25) 1), .i (.ldh 28 (.s 27) 1 false), .i (.mov 5 (.s 28))]) (.ops [.i (.mov 29 (.s 0)), .i (.mov 30 (.s 5)), .i (.call 32 150 false [(.s 29), (.s 30)])]))) (.ops [.i (.bin 32 .add (.s 25) (.c (.val false [.int .i64 1]))), .i (.mov 25 (.s 32))]))))))))))))⟩
theorem k_impl_writer_qc : cd n_impl_writer_qc = some c_impl_writer_qc := by kernel_rfl
theorem writer_qc_ok (b : Bytes) (q : Qc) (hq : QcSz q) (hb : b.length ≤ 1000000000) : VC cd n_impl_writer_qc (mkQ [] 151 [.o true (some (5, 1)) (bytes b)] [(true, q.c)]) (fun r p => r = [] ∧ p = [.pt 151 [.o true (some (5, 1)) (bytes (b ++ qcB q))]]) := by
  have h1 := varB_num hq.view
  have h2 := varB_num hq.height
  have h4 := hq.block
  have h5 := hq.bits
  have h6 := hq.tags
  refine VC_enterQ k_impl_writer_qc rfl ?_
  simp (disch := omega) [c_impl_writer_qc, Qc.c, VE, VXR, VP, VB, VTup, kof, bl, it, VQ, expR, expE, exp0]
  refine VXC_p (writer_num_ok _ q.view hq.view ?_) (by simp (disch := omega) [VE, VXR, VP, VB, VTup, kof, bl, it, VQ, expR, expE, exp0]; exact ⟨rfl, rfl⟩) rfl rfl (by simp (disch := omega) [VE, VXR, VP, VB, VTup, kof, bl, it, VQ, expR, expE, exp0]; exact ⟨rfl, rfl⟩) (by simp (disch := omega) [VE, VXR, VP, VB, VTup, kof, bl, it, VQ, expR, expE, exp0]) (by simp (disch := omega) [VE, VXR, VP, VB, VTup, kof, bl, it, VQ, expR, expE, exp0]) (by simp (disch := omega) [VE, VXR, VP, VB, VTup, kof, bl, it, VQ, expR, expE, exp0]) (by omega) (by simp (disch := omega) [VE, VXR, VP, VB, VTup, kof, bl, it, VQ, expR, expE, exp0]) ?_
  · (try simp only [List.length_append]); omega
  simp (disch := omega) [VE, VXR, VP, VB, VTup, kof, bl, it, VQ, expR, expE, exp0]
  refine VXC_p (writer_num_ok _ q.height hq.height ?_) (by simp (disch := omega) [VE, VXR, VP, VB, VTup, kof, bl, it, VQ, expR, expE, exp0]; exact ⟨rfl, rfl⟩) rfl rfl (by simp (disch := omega) [VE, VXR, VP, VB, VTup, kof, bl, it, VQ, expR, expE, exp0]; exact ⟨rfl, rfl⟩) (by simp (disch := omega) [VE, VXR, VP, VB, VTup, kof, bl, it, VQ, expR, expE, exp0]) (by simp (disch := omega) [VE, VXR, VP, VB, VTup, kof, bl, it, VQ, expR, expE, exp0]) (by simp (disch := omega) [VE, VXR, VP, VB, VTup, kof, bl, it, VQ, expR, expE, exp0]) (by omega) (by simp (disch := omega) [VE, VXR, VP, VB, VTup, kof, bl, it, VQ, expR, expE, exp0]) ?_
  · (try simp only [List.length_append]); omega
  simp (disch := omega) [VE, VXR, VP, VB, VTup, kof, bl, it, VQ, expR, expE, exp0]
  refine VXC_p (writer_raw_ok _ q.block (by omega) ?_) (by simp (disch := omega) [VE, VXR, VP, VB, VTup, kof, bl, it, VQ, expR, expE, exp0]; exact ⟨rfl, rfl⟩) rfl rfl (by simp (disch := omega) [VE, VXR, VP, VB, VTup, kof, bl, it, VQ, expR, expE, exp0]; exact ⟨rfl, rfl⟩) (by simp (disch := omega) [VE, VXR, VP, VB, VTup, kof, bl, it, VQ, expR, expE, exp0]) (by simp (disch := omega) [VE, VXR, VP, VB, VTup, kof, bl, it, VQ, expR, expE, exp0]) (by simp (disch := omega) [VE, VXR, VP, VB, VTup, kof, bl, it, VQ, expR, expE, exp0]) (by omega) (by simp (disch := omega) [VE, VXR, VP, VB, VTup, kof, bl, it, VQ, expR, expE, exp0]) ?_
  · (try simp only [List.length_append]); omega
  simp (disch := omega) [VE, VXR, VP, VB, VTup, kof, bl, it, VQ, expR, expE, exp0]
  refine VXC_p (writer_raw_ok _ q.bits (by omega) ?_) (by simp (disch := omega) [VE, VXR, VP, VB, VTup, kof, bl, it, VQ, expR, expE, exp0]; exact ⟨rfl, rfl⟩) rfl rfl (by simp (disch := omega) [VE, VXR, VP, VB, VTup, kof, bl, it, VQ, expR, expE, exp0]; exact ⟨rfl, rfl⟩) (by simp (disch := omega) [VE, VXR, VP, VB, VTup, kof, bl, it, VQ, expR, expE, exp0]) (by simp (disch := omega) [VE, VXR, VP, VB, VTup, kof, bl, it, VQ, expR, expE, exp0]) (by simp (disch := omega) [VE, VXR, VP, VB, VTup, kof, bl, it, VQ, expR, expE, exp0]) (by omega) (by simp (disch := omega) [VE, VXR, VP, VB, VTup, kof, bl, it, VQ, expR, expE, exp0]) ?_
  · (try simp only [List.length_append]); omega
  simp (disch := omega) [bss_len, VE, VXR, VP, VB, VTup, kof, bl, it, VQ, expR, expE, exp0]
  refine VX_loop3 (σ := Nat × Nat) (f1 := _) (es0 := _) (by simp (disch := omega) [VE, VXR, VP, VB, VTup, kof, bl, it, VQ, expR, expE, exp0]; rfl) (by simp (disch := omega) [VE, VXR, VP, VB, VTup, kof, bl, it, VQ, expR, expE, exp0]; rfl) (fun p => [(25, .val false [.int .i64 (p.1 : Int)])]) (fun p => [(4096, .pt 0 151 [.ow 1099528404992 p.2]), (1099528404992, .sl p.2 true true (some (5, 1)) (bytes (b ++ (varB q.view.toNat ++ (varB q.height.toNat ++ (q.block ++ (q.bits ++ (q.tags.take p.1).flatten)))))))])
    (fun p g => g + p.1 = q.tags.length) (0, 14) q.tags.length (by simp (disch := omega) [VE, VXR, VP, VB, VTup, kof, bl, it, VQ, expR, expE, exp0]) (by simp (disch := omega) [VE, VXR, VP, VB, VTup, kof, bl, it, VQ, expR, expE, exp0]) (by omega) ?_
  rintro ⟨i, v⟩ n g hg
  simp only at hg
  simp (disch := omega) [VE, VXR, VP, VB, VTup, kof, bl, it, VQ, expR, expE, exp0]
  refine VXB_dec (fun h7 => ?_) (fun h7 => ?_)
  · have hi : i < q.tags.length := by omega
    have hx := hq.tag _ (List.getElem_mem hi)
    have hf := flat_take hq.tag (i := i) (by omega)
    simp (disch := omega) [bss_get hi, VE, VXR, VP, VB, VTup, kof, bl, it, VQ, expR, expE, exp0]
    refine VXC_p (writer_raw_ok _ q.tags[i] (by omega) ?_) (by simp (disch := omega) [VE, VXR, VP, VB, VTup, kof, bl, it, VQ, expR, expE, exp0]; exact ⟨rfl, rfl⟩) rfl rfl (by simp (disch := omega) [VE, VXR, VP, VB, VTup, kof, bl, it, VQ, expR, expE, exp0]; exact ⟨rfl, rfl⟩) (by simp (disch := omega) [VE, VXR, VP, VB, VTup, kof, bl, it, VQ, expR, expE, exp0]) (by simp (disch := omega) [VE, VXR, VP, VB, VTup, kof, bl, it, VQ, expR, expE, exp0]) (by simp (disch := omega) [VE, VXR, VP, VB, VTup, kof, bl, it, VQ, expR, expE, exp0]) (by omega) (by simp (disch := omega) [VE, VXR, VP, VB, VTup, kof, bl, it, VQ, expR, expE, exp0]) ?_
    · (try simp only [List.length_append]); omega
    simp (disch := omega) [VE, VXR, VP, VB, VTup, kof, bl, it, VQ, expR, expE, exp0]
    exact ⟨i + 1, _, g - 1, by omega, by omega, rfl, rfl, by rw [flat_next hi]⟩
  · have hi : i = q.tags.length := by omega
    subst hi
    rw [List.take_length]
    simp (disch := omega) [qcB, VE, VXR, VP, VB, VTup, kof, bl, it, VQ, expR, expE, exp0]
def putE (ok : Bool) (b : Bytes) : List (Bool × List E) :=
  if ok then [(false, [.o true (some (5, 1)) (bytes b)]), (false, [.p (.bool true)])] else [(false, [.p .nils]), (false, [.p (.bool false)])]
theorem putE_t {ok : Bool} {b : Bytes} (h : ok = true) : putE ok b = [(false, [.o true (some (5, 1)) (bytes b)]), (false, [.p (.bool true)])] := by subst h; rfl
theorem putE_f {ok : Bool} {b : Bytes} (h : ok = false) : putE ok b = [(false, [.p .nils]), (false, [.p (.bool false)])] := by subst h; rfl
theorem _root_.Go.Eng.VC.re {cd : Nat → Option AF} {g : Nat} {al : List (Bool × List E)} {rs rt : List (Bool × List E)} (h : VC cd g al (fun r _ => r = rs)) (e : rs = rt) : VC cd g al (fun r _ => r = rt) := by subst e; exact h
abbrev n_spec_PutQc : Nat := 120
def c_spec_PutQc : AF := ⟨3, 6, [.tmp 6, .tmp 7], (.seq (.ops [.i (.lbox 3 (.s 0)), .i (.lbox 5 (.s 2)), .i (.mov 6 (.c (.val false [.nils]))), .i (.mov 7 (.c (.val false [.bool false])))]) (.seq (.seq (.ops [.i (.ldl 11 3 (.s 3) 5 true), .i (.ldl 12 5 (.s 5) 5 true), .i (.call 14 88 false [(.s 11), (.s 12)]), .i (.not 14 (.s 13))]) (.cond (.s 14) (.seq (.ops [.i (.mov 6 (.c (.val false [.nils]))), .i (.mov 7 (.c (.val false [.bool false])))]) .ret) .skip)) (.seq (.ops [.i (.mov 15 (.s 1)), .i (.fad 16 (.s 5) 0), .i (.ldl 17 5 (.s 16) 1 false), .i (.call 19 119 false [(.s 15), (.s 17)]), .i (.fad 19 (.s 5) 1), .i (.ldl 20 5 (.s 19) 1 false), .i (.call 22 119 false [(.s 18), (.s 20)]), .i (.fad 22 (.s 5) 2), .i (.ldl 23 5 (.s 22) 1 false), .i (.app 24 5 1 1 (.s 21) (.s 23)), .i (.mov 8 (.s 24))]) (.seq (.ops [.i (.mov 25 (.s 8)), .i (.fad 26 (.s 5) 3), .i (.ldl 27 5 (.s 26) 1 false), .i (.app 28 5 1 1 (.s 25) (.s 27)), .i (.mov 8 (.s 28))]) (.seq (.seq (.ops [.i (.fad 29 (.s 5) 4), .i (.ldl 30 5 (.s 29) 1 false), .i (.len 31 false (.s 30)), .i (.mov 32 (.c (.val false [.int .i64 0])))]) (.block 0 (.loop [39, 38, 37, 36, 35, 34, 33, 10] (.seq (.ops [.i (.bin 33 .lss (.s 32) (.s 31))]) (.seq (.cond (.s 33) .skip (.exit 0)) (.seq (.block 1 (.seq (.ops [.i (.iad 34 (.s 30) (.s 32) 1), .i (.ldh 35 (.s 34) 1 false), .i (.mov 10 (.s 35))]) (.ops [.i (.mov 36 (.s 8)), .i (.mov 37 (.s 10)), .i (.app 38 5 1 1 (.s 36) (.s 37)), .i (.mov 8 (.s 38))]))) (.ops [.i (.bin 39 .add (.s 32) (.c (.val false [.int .i64 1]))), .i (.mov 32 (.s 39))]))))))) (.seq (.ops [.i (.mov 40 (.s 8)), .i (.mov 6 (.s 40)), .i (.mov 7 (.c (.val false [.bool true])))]) .ret))))))⟩
theorem k_spec_PutQc : cd n_spec_PutQc = some c_spec_PutQc := by kernel_rfl
theorem spec_PutQc_ok (l : Lim) (b : Bytes) (q : Qc) (hw : q.wf) (hb : b.length ≤ 1000000000) : VC cd n_spec_PutQc (mkP [(true, l.c), (false, [.sl (bytes b)]), (true, q.c)]) (fun rs _ => rs = putE (qcOk l q) (b ++ qcB q)) := by
  refine VC_enter k_spec_PutQc rfl ?_
  simp (disch := omega) [c_spec_PutQc, Qc.c, Lim.c, VE, VXR, VP, VB, VTup, kof, bl, it]
  refine VXC_e (spec_QcOk_ok l q hw) rfl rfl ?_
  simp (disch := omega) [VE, VXR, VP, VB, VTup, kof, bl, it]
  refine VXB_b (fun h0 => ?_) (fun h0 => ?_)
  case refine_2 => simp (disch := omega) [h0, putE, VE, VXR, VP, VB, VTup, kof, bl, it]
  have hq := qcOk_sz h0
  have h1 := varB_num hq.view
  have h2 := varB_num hq.height
  have h4 := hq.block
  have h5 := hq.bits
  have h6 := hq.tags
  simp (disch := omega) [h0, VE, VXR, VP, VB, VTup, kof, bl, it]
  refine VXC_e (l11Num_ok b q.view hq.view (by omega)) rfl rfl ?_
  simp (disch := omega) [VE, VXR, VP, VB, VTup, kof, bl, it]
  refine VXC_e (l11Num_ok (b ++ varB q.view.toNat) q.height hq.height (by simp only [List.length_append]; omega)) rfl rfl ?_
  simp (disch := omega) [bytes_app, bytes_len, VE, VXR, VP, VB, VTup, kof, bl, it]
  have e1 : List.length b + (List.length (varB q.view.toNat) + (List.length (varB q.height.toNat) + List.length q.block)) ≤ 1073741824 := by omega
  simp (disch := omega) [bytes_app, bytes_len, bss_len, VE, VXR, VP, VB, VTup, kof, bl, it]
  refine VX_loop3 (σ := Nat × Nat) (f1 := _) (es0 := _) (by simp (disch := omega) [VE, VXR, VP, VB, VTup, kof, bl, it]; rfl) (by simp (disch := omega) [VE, VXR, VP, VB, VTup, kof, bl, it]; rfl) (fun p => [(32, .val false [.int .i64 (p.1 : Int)]), (8, .val false [.ow 188416 p.2])]) (fun p => [(188416, .sl p.2 true true (some (5, 1)) (bytes (b ++ (varB q.view.toNat ++ (varB q.height.toNat ++ (q.block ++ (q.bits ++ (q.tags.take p.1).flatten)))))))])
    (fun p g => g + p.1 = q.tags.length) (0, _) q.tags.length (by simp (disch := omega) [VE, VXR, VP, VB, VTup, kof, bl, it]; rfl) (by simp (disch := omega) [VE, VXR, VP, VB, VTup, kof, bl, it]) (by omega) ?_
  rintro ⟨i, v⟩ n g hg
  simp only at hg
  simp (disch := omega) [VE, VXR, VP, VB, VTup, kof, bl, it]
  refine VXB_dec (fun h7 => ?_) (fun h7 => ?_)
  · have hi : i < q.tags.length := by omega
    have hx := hq.tag _ (List.getElem_mem hi)
    have hf := flat_take hq.tag (i := i) (by omega)
    simp (disch := omega) [bss_get hi, bytes_app, bytes_len, hf, VE, VXR, VP, VB, VTup, kof, bl, it]
    exact ⟨i + 1, _, g - 1, by omega, by omega, ⟨by omega, rfl⟩, rfl, by rw [flat_next hi]⟩
  · have hi : i = q.tags.length := by omega
    subst hi
    rw [List.take_length]
    simp (disch := omega) [qcB, putE, h0, VE, VXR, VP, VB, VTup, kof, bl, it]
structure HeadSz (h : Head) : Prop where
  view : isNum h.view = true
  height : isNum h.height = true
  proposer : isNum h.proposer = true
  parent : h.parent.length = 32
  root : h.root.length = 32
  qc : QcSz h.qc
theorem headOk_qc {l : Lim} {h : Head} (hk : headOk l h = true) : qcOk l h.qc = true := by
  simp only [headOk, Bool.and_eq_true] at hk
  exact hk.1.1.1.1.1.1
theorem headOk_sz {l : Lim} {h : Head} (hk : headOk l h = true) : HeadSz h := by
  have hq := headOk_qc hk
  have hn := lim_n (qcOk_lim hq)
  simp only [headOk, Bool.and_eq_true, decide_eq_true_eq] at hk
  obtain ⟨⟨⟨⟨⟨⟨h0, h1⟩, h2⟩, h3⟩, h4⟩, h5⟩, h6⟩ := hk
  have h2' := inn_t h2
  have h3' := inn_t h3
  exact ⟨h1, by simp [isNum, inn]; omega, by simp [isNum, inn]; omega, by simpa [hash] using h4, by simpa [hash] using h5, qcOk_sz hq⟩
theorem headB_len {h : Head} (hs : HeadSz h) : (headB h).length ≤ 1000 := by
  have h1 := varB_num hs.view
  have h2 := varB_num hs.height
  have h3 := varB_num hs.proposer
  have h4 := hs.parent
  have h5 := hs.root
  have h6 := qcB_len hs.qc
  simp only [headB, List.length_append]
  omega
abbrev n_impl_writer_head : Nat := 131
def c_impl_writer_head : AF := ⟨2, 5, [], (.seq (.ops [.i (.lbox 3 (.s 1))]) (.seq (.ops [.i (.mov 4 (.s 0)), .i (.fad 5 (.s 3) 0), .i (.ldl 6 3 (.s 5) 1 false), .i (.call 8 149 false [(.s 4), (.s 6)])]) (.seq (.ops [.i (.mov 8 (.s 0)), .i (.fad 9 (.s 3) 1), .i (.ldl 10 3 (.s 9) 1 false), .i (.call 12 149 false [(.s 8), (.s 10)])]) (.seq (.ops [.i (.mov 12 (.s 0)), .i (.fad 13 (.s 3) 2), .i (.ldl 14 3 (.s 13) 1 false), .i (.call 16 149 false [(.s 12), (.s 14)])]) (.seq (.ops [.i (.mov 16 (.s 0)), .i (.fad 17 (.s 3) 3), .i (.ldl 18 3 (.s 17) 1 false), .i (.call 20 150 false [(.s 16), (.s 18)])]) (.seq (.ops [.i (.mov 20 (.s 0)), .i (.fad 21 (.s 3) 4), .i (.ldl 22 3 (.s 21) 1 false), .i (.call 24 150 false [(.s 20), (.s 22)])]) (.ops [.i (.mov 24 (.s 0)), .i (.fad 25 (.s 3) 5), .i (.ldl 26 3 (.s 25) 5 true), .i (.call 28 151 false [(.s 24), (.s 26)])])))))))⟩
theorem k_impl_writer_head : cd n_impl_writer_head = some c_impl_writer_head := by kernel_rfl
theorem writer_head_ok (b : Bytes) (h : Head) (hs : HeadSz h) (hb : b.length ≤ 900000000) : VC cd n_impl_writer_head (mkQ [] 151 [.o true (some (5, 1)) (bytes b)] [(true, h.c)]) (fun r p => r = [] ∧ p = [.pt 151 [.o true (some (5, 1)) (bytes (b ++ headB h))]]) := by
  have h1 := varB_num hs.view
  have h2 := varB_num hs.height
  have h3 := varB_num hs.proposer
  have h4 := hs.parent
  have h5 := hs.root
  refine VC_enterQ k_impl_writer_head rfl ?_
  simp (disch := omega) [c_impl_writer_head, Head.c, VE, VXR, VP, VB, VTup, kof, bl, it, VQ, expR, expE, exp0]
  refine VXC_p (writer_num_ok _ h.view hs.view ?_) (by simp (disch := omega) [VE, VXR, VP, VB, VTup, kof, bl, it, VQ, expR, expE, exp0]; exact ⟨rfl, rfl⟩) rfl rfl (by simp (disch := omega) [VE, VXR, VP, VB, VTup, kof, bl, it, VQ, expR, expE, exp0]; exact ⟨rfl, rfl⟩) (by simp (disch := omega) [VE, VXR, VP, VB, VTup, kof, bl, it, VQ, expR, expE, exp0]) (by simp (disch := omega) [VE, VXR, VP, VB, VTup, kof, bl, it, VQ, expR, expE, exp0]) (by simp (disch := omega) [VE, VXR, VP, VB, VTup, kof, bl, it, VQ, expR, expE, exp0]) (by omega) (by simp (disch := omega) [VE, VXR, VP, VB, VTup, kof, bl, it, VQ, expR, expE, exp0]) ?_
  · (try simp only [List.length_append]); omega
  simp (disch := omega) [VE, VXR, VP, VB, VTup, kof, bl, it, VQ, expR, expE, exp0]
  refine VXC_p (writer_num_ok _ h.height hs.height ?_) (by simp (disch := omega) [VE, VXR, VP, VB, VTup, kof, bl, it, VQ, expR, expE, exp0]; exact ⟨rfl, rfl⟩) rfl rfl (by simp (disch := omega) [VE, VXR, VP, VB, VTup, kof, bl, it, VQ, expR, expE, exp0]; exact ⟨rfl, rfl⟩) (by simp (disch := omega) [VE, VXR, VP, VB, VTup, kof, bl, it, VQ, expR, expE, exp0]) (by simp (disch := omega) [VE, VXR, VP, VB, VTup, kof, bl, it, VQ, expR, expE, exp0]) (by simp (disch := omega) [VE, VXR, VP, VB, VTup, kof, bl, it, VQ, expR, expE, exp0]) (by omega) (by simp (disch := omega) [VE, VXR, VP, VB, VTup, kof, bl, it, VQ, expR, expE, exp0]) ?_
  · (try simp only [List.length_append]); omega
  simp (disch := omega) [VE, VXR, VP, VB, VTup, kof, bl, it, VQ, expR, expE, exp0]
  refine VXC_p (writer_num_ok _ h.proposer hs.proposer ?_) (by simp (disch := omega) [VE, VXR, VP, VB, VTup, kof, bl, it, VQ, expR, expE, exp0]; exact ⟨rfl, rfl⟩) rfl rfl (by simp (disch := omega) [VE, VXR, VP, VB, VTup, kof, bl, it, VQ, expR, expE, exp0]; exact ⟨rfl, rfl⟩) (by simp (disch := omega) [VE, VXR, VP, VB, VTup, kof, bl, it, VQ, expR, expE, exp0]) (by simp (disch := omega) [VE, VXR, VP, VB, VTup, kof, bl, it, VQ, expR, expE, exp0]) (by simp (disch := omega) [VE, VXR, VP, VB, VTup, kof, bl, it, VQ, expR, expE, exp0]) (by omega) (by simp (disch := omega) [VE, VXR, VP, VB, VTup, kof, bl, it, VQ, expR, expE, exp0]) ?_
  · (try simp only [List.length_append]); omega
  simp (disch := omega) [VE, VXR, VP, VB, VTup, kof, bl, it, VQ, expR, expE, exp0]
  refine VXC_p (writer_raw_ok _ h.parent (by omega) ?_) (by simp (disch := omega) [VE, VXR, VP, VB, VTup, kof, bl, it, VQ, expR, expE, exp0]; exact ⟨rfl, rfl⟩) rfl rfl (by simp (disch := omega) [VE, VXR, VP, VB, VTup, kof, bl, it, VQ, expR, expE, exp0]; exact ⟨rfl, rfl⟩) (by simp (disch := omega) [VE, VXR, VP, VB, VTup, kof, bl, it, VQ, expR, expE, exp0]) (by simp (disch := omega) [VE, VXR, VP, VB, VTup, kof, bl, it, VQ, expR, expE, exp0]) (by simp (disch := omega) [VE, VXR, VP, VB, VTup, kof, bl, it, VQ, expR, expE, exp0]) (by omega) (by simp (disch := omega) [VE, VXR, VP, VB, VTup, kof, bl, it, VQ, expR, expE, exp0]) ?_
  · (try simp only [List.length_append]); omega
  simp (disch := omega) [VE, VXR, VP, VB, VTup, kof, bl, it, VQ, expR, expE, exp0]
  refine VXC_p (writer_raw_ok _ h.root (by omega) ?_) (by simp (disch := omega) [VE, VXR, VP, VB, VTup, kof, bl, it, VQ, expR, expE, exp0]; exact ⟨rfl, rfl⟩) rfl rfl (by simp (disch := omega) [VE, VXR, VP, VB, VTup, kof, bl, it, VQ, expR, expE, exp0]; exact ⟨rfl, rfl⟩) (by simp (disch := omega) [VE, VXR, VP, VB, VTup, kof, bl, it, VQ, expR, expE, exp0]) (by simp (disch := omega) [VE, VXR, VP, VB, VTup, kof, bl, it, VQ, expR, expE, exp0]) (by simp (disch := omega) [VE, VXR, VP, VB, VTup, kof, bl, it, VQ, expR, expE, exp0]) (by omega) (by simp (disch := omega) [VE, VXR, VP, VB, VTup, kof, bl, it, VQ, expR, expE, exp0]) ?_
  · (try simp only [List.length_append]); omega
  simp (disch := omega) [VE, VXR, VP, VB, VTup, kof, bl, it, VQ, expR, expE, exp0]
  refine VXC_p (writer_qc_ok _ h.qc hs.qc ?_) (by simp (disch := omega) [VE, VXR, VP, VB, VTup, kof, bl, it, VQ, expR, expE, exp0]; exact ⟨rfl, rfl⟩) rfl rfl (by simp (disch := omega) [VE, VXR, VP, VB, VTup, kof, bl, it, VQ, expR, expE, exp0]; exact ⟨rfl, rfl⟩) (by simp (disch := omega) [VE, VXR, VP, VB, VTup, kof, bl, it, VQ, expR, expE, exp0]) (by simp (disch := omega) [VE, VXR, VP, VB, VTup, kof, bl, it, VQ, expR, expE, exp0]) (by simp (disch := omega) [VE, VXR, VP, VB, VTup, kof, bl, it, VQ, expR, expE, exp0]) (by omega) (by simp (disch := omega) [VE, VXR, VP, VB, VTup, kof, bl, it, VQ, expR, expE, exp0]) ?_
  · (try simp only [List.length_append]); omega
  simp (disch := omega) [headB, VE, VXR, VP, VB, VTup, kof, bl, it, VQ, expR, expE, exp0]
abbrev n_impl_PutHead : Nat := 92
def c_impl_PutHead : AF := ⟨3, 5, [.tmp 6, .tmp 7], (.seq (.ops [.i (.lbox 3 (.s 0)), .i (.lbox 5 (.s 2)), .i (.mov 6 (.c (.val false [.nils]))), .i (.mov 7 (.c (.val false [.bool false])))]) (.seq (.seq (.ops [.i (.ldl 9 3 (.s 3) 5 true), .i (.ldl 10 5 (.s 5) 10 true), .i (.call 12 75 false [(.s 9), (.s 10)]), .i (.not 12 (.s 11))]) (.cond (.s 12) (.seq (.ops [.i (.mov 6 (.c (.val false [.nils]))), .i (.mov 7 (.c (.val false [.bool false])))]) .ret) .skip)) (.seq (.ops [.i (.mov 13 (.s 1)), .i (.call 15 61 false [(.s 13)]), .i (.bld 15 [.nils] [(0, 1, (.s 14))]), .i (.hbox 16 151 (.s 15)), .i (.mov 8 (.s 16))]) (.seq (.ops [.i (.mov 17 (.s 8)), .i (.ldl 18 5 (.s 5) 10 true), .i (.call 20 131 false [(.s 17), (.s 18)])]) (.seq (.ops [.i (.mov 20 (.s 8)), .i (.nch 21 (.s 20)), .i (.fad 22 (.s 21) 0), .i (.ldh 23 (.s 22) 1 false), .i (.mov 6 (.s 23)), .i (.mov 7 (.c (.val false [.bool true])))]) .ret)))))⟩
theorem k_impl_PutHead : cd n_impl_PutHead = some c_impl_PutHead := by kernel_rfl
theorem impl_PutHead_ok (l : Lim) (b : Bytes) (h : Head) (hw : h.wf) (hb : b.length ≤ 900000000) : VC cd n_impl_PutHead (mkP [(true, l.c), (false, [.sl (bytes b)]), (true, h.c)]) (fun rs _ => rs = putE (headOk l h) (b ++ headB h)) := by
  refine VC_enter k_impl_PutHead rfl ?_
  simp (disch := omega) [c_impl_PutHead, Head.c, Lim.c, VE, VXR, VP, VB, VTup, kof, bl, it]
  refine VXC_e (impl_HeadOk_ok l h hw) rfl rfl ?_
  simp (disch := omega) [VE, VXR, VP, VB, VTup, kof, bl, it]
  refine VXB_b (fun h0 => ?_) (fun h0 => ?_)
  case refine_2 => simp (disch := omega) [h0, putE, VE, VXR, VP, VB, VTup, kof, bl, it]
  have hs := headOk_sz h0
  simp (disch := omega) [h0, VE, VXR, VP, VB, VTup, kof, bl, it]
  refine VXC_e (copyBytes_ok b (by omega)) rfl rfl ?_
  simp (disch := omega) [VE, VXR, VP, VB, VTup, kof, bl, it, VQ, expR, expE, exp0]
  refine VXC_p (writer_head_ok _ h hs ?_) (by simp (disch := omega) [VE, VXR, VP, VB, VTup, kof, bl, it, VQ, expR, expE, exp0]; exact ⟨rfl, rfl⟩) rfl rfl (by simp (disch := omega) [VE, VXR, VP, VB, VTup, kof, bl, it, VQ, expR, expE, exp0]; exact ⟨rfl, rfl⟩) (by simp (disch := omega) [VE, VXR, VP, VB, VTup, kof, bl, it, VQ, expR, expE, exp0]) (by simp (disch := omega) [VE, VXR, VP, VB, VTup, kof, bl, it, VQ, expR, expE, exp0]) (by simp (disch := omega) [VE, VXR, VP, VB, VTup, kof, bl, it, VQ, expR, expE, exp0]) (by omega) (by simp (disch := omega) [VE, VXR, VP, VB, VTup, kof, bl, it, VQ, expR, expE, exp0]) ?_
  · (try simp only [List.length_append]); omega
  simp (disch := omega) [putE, h0, VE, VXR, VP, VB, VTup, kof, bl, it, VQ, expR, expE, exp0]
abbrev n_spec_PutHead : Nat := 83
def c_spec_PutHead : AF := ⟨3, 6, [.tmp 6, .tmp 7], (.seq (.ops [.i (.lbox 3 (.s 0)), .i (.lbox 5 (.s 2)), .i (.mov 6 (.c (.val false [.nils]))), .i (.mov 7 (.c (.val false [.bool false])))]) (.seq (.seq (.ops [.i (.ldl 9 3 (.s 3) 5 true), .i (.ldl 10 5 (.s 5) 10 true), .i (.call 12 73 false [(.s 9), (.s 10)]), .i (.not 12 (.s 11))]) (.cond (.s 12) (.seq (.ops [.i (.mov 6 (.c (.val false [.nils]))), .i (.mov 7 (.c (.val false [.bool false])))]) .ret) .skip)) (.seq (.ops [.i (.mov 13 (.s 1)), .i (.fad 14 (.s 5) 0), .i (.ldl 15 5 (.s 14) 1 false), .i (.call 17 119 false [(.s 13), (.s 15)]), .i (.fad 17 (.s 5) 1), .i (.ldl 18 5 (.s 17) 1 false), .i (.call 20 119 false [(.s 16), (.s 18)]), .i (.fad 20 (.s 5) 2), .i (.ldl 21 5 (.s 20) 1 false), .i (.call 23 119 false [(.s 19), (.s 21)]), .i (.mov 8 (.s 22))]) (.seq (.ops [.i (.mov 23 (.s 8)), .i (.fad 24 (.s 5) 3), .i (.ldl 25 5 (.s 24) 1 false), .i (.app 26 5 1 1 (.s 23) (.s 25)), .i (.fad 27 (.s 5) 4), .i (.ldl 28 5 (.s 27) 1 false), .i (.app 29 5 1 1 (.s 26) (.s 28)), .i (.mov 8 (.s 29))]) (.seq (.ops [.i (.ldl 30 3 (.s 3) 5 true), .i (.mov 31 (.s 8)), .i (.fad 32 (.s 5) 5), .i (.ldl 33 5 (.s 32) 5 true), .i (.call 35 120 false [(.s 30), (.s 31), (.s 33)]), .i (.ext 35 (.s 34) 0), .i (.ext 36 (.s 34) 1), .i (.mov 6 (.s 35)), .i (.mov 7 (.s 36))]) .ret)))))⟩
theorem k_spec_PutHead : cd n_spec_PutHead = some c_spec_PutHead := by kernel_rfl
theorem spec_PutHead_ok (l : Lim) (b : Bytes) (h : Head) (hw : h.wf) (hb : b.length ≤ 900000000) : VC cd n_spec_PutHead (mkP [(true, l.c), (false, [.sl (bytes b)]), (true, h.c)]) (fun rs _ => rs = putE (headOk l h) (b ++ headB h)) := by
  refine VC_enter k_spec_PutHead rfl ?_
  simp (disch := omega) [c_spec_PutHead, Head.c, Lim.c, VE, VXR, VP, VB, VTup, kof, bl, it]
  refine VXC_e (spec_HeadOk_ok l h hw) rfl rfl ?_
  simp (disch := omega) [VE, VXR, VP, VB, VTup, kof, bl, it]
  refine VXB_b (fun h0 => ?_) (fun h0 => ?_)
  case refine_2 => simp (disch := omega) [h0, putE, VE, VXR, VP, VB, VTup, kof, bl, it]
  have hs := headOk_sz h0
  have h1 := varB_num hs.view
  have h2 := varB_num hs.height
  have h3 := varB_num hs.proposer
  have h4 := hs.parent
  have h5 := hs.root
  simp (disch := omega) [h0, VE, VXR, VP, VB, VTup, kof, bl, it]
  refine VXC_e (l11Num_ok b h.view hs.view (by omega)) rfl rfl ?_
  simp (disch := omega) [VE, VXR, VP, VB, VTup, kof, bl, it]
  refine VXC_e (l11Num_ok (b ++ varB h.view.toNat) h.height hs.height (by simp only [List.length_append]; omega)) rfl rfl ?_
  simp (disch := omega) [VE, VXR, VP, VB, VTup, kof, bl, it]
  refine VXC_e (l11Num_ok (b ++ (varB h.view.toNat ++ varB h.height.toNat)) h.proposer hs.proposer (by simp only [List.length_append]; omega)) rfl rfl ?_
  simp (disch := omega) [bytes_app, bytes_len, VE, VXR, VP, VB, VTup, kof, bl, it]
  refine VXC_e ((spec_PutQc_ok l (b ++ (varB h.view.toNat ++ (varB h.height.toNat ++ (varB h.proposer.toNat ++ (h.parent ++ h.root))))) h.qc hw.2.2.2.2.2 (by simp only [List.length_append]; omega)).re (putE_t (headOk_qc h0))) (by first | rfl | (simp [argsD, argDs, argD, St.slc, lk_cons, lk] <;> first | rfl | exact ⟨rfl, rfl⟩ | exact ⟨rfl, rfl, rfl⟩)) rfl ?_
  simp (disch := omega) [putE, h0, headB, VE, VXR, VP, VB, VTup, kof, bl, it]
/-! ### The hash of a header -/
def hhash (l : Lim) (h : Head) : Bytes := if headOk l h then sha (72 :: headB h) else []
def hhashE (l : Lim) (h : Head) : List (Bool × List E) := if headOk l h then [(false, [.o true (some (5, 1)) (bytes (sha (72 :: headB h)))])] else [(false, [.p .nils])]
abbrev n_impl_HeadHash : Nat := 59
def c_impl_HeadHash : AF := ⟨2, 5, [.tmp 4], (.seq (.ops [.i (.lbox 2 (.s 0)), .i (.lbox 3 (.s 1)), .i (.mov 4 (.c (.val false [.nils])))]) (.seq (.ops [.i (.ldl 8 2 (.s 2) 5 true), .i (.bsl 9 5 1 1 [.int .u8 0] [(0, 1, (.c (.val false [.int .u8 72])))]), .i (.ldl 10 3 (.s 3) 10 true), .i (.call 12 92 false [(.s 8), (.s 9), (.s 10)]), .i (.mov 7 (.s 11)), .i (.ext 12 (.s 7) 0), .i (.ext 13 (.s 7) 1), .i (.mov 5 (.s 12)), .i (.mov 6 (.s 13))]) (.seq (.seq (.ops [.i (.mov 14 (.s 6)), .i (.not 15 (.s 14))]) (.cond (.s 15) (.seq (.ops [.i (.mov 4 (.c (.val false [.nils])))]) .ret) .skip)) (.seq (.ops [.i (.mov 16 (.s 5)), .i (.call 18 93 false [(.s 16)]), .i (.mov 4 (.s 17))]) .ret))))⟩
theorem k_impl_HeadHash : cd n_impl_HeadHash = some c_impl_HeadHash := by kernel_rfl
theorem impl_HeadHash_ok (l : Lim) (h : Head) (hw : h.wf) : VC cd n_impl_HeadHash (mkP [(true, l.c), (true, h.c)]) (fun rs _ => rs = hhashE l h) := by
  have e : [[D.int .u8 72]] = bytes [72] := rfl
  refine VC_enter k_impl_HeadHash rfl ?_
  simp (disch := omega) [c_impl_HeadHash, Head.c, Lim.c, e, VE, VXR, VP, VB, VTup, kof, bl, it]
  cases h0 : headOk l h with
  | false =>
    refine VXC_e ((impl_PutHead_ok l [72] h hw (by simp)).re (putE_f h0)) (by first | rfl | (simp [argsD, argDs, argD, St.slc, lk_cons, lk] <;> first | rfl | exact ⟨rfl, rfl⟩ | exact ⟨rfl, rfl, rfl⟩)) rfl ?_
    simp (disch := omega) [hhashE, h0, VE, VXR, VP, VB, VTup, kof, bl, it]
  | true =>
    have hs := headB_len (headOk_sz h0)
    refine VXC_e ((impl_PutHead_ok l [72] h hw (by simp)).re (putE_t h0)) (by first | rfl | (simp [argsD, argDs, argD, St.slc, lk_cons, lk] <;> first | rfl | exact ⟨rfl, rfl⟩ | exact ⟨rfl, rfl, rfl⟩)) rfl ?_
    simp (disch := omega) [VE, VXR, VP, VB, VTup, kof, bl, it]
    refine VXC_e (impl_Sha_ok (72 :: headB h) (by simp; omega)) (by first | rfl | (simp [argsD, argDs, argD, St.slc, lk_cons, lk] <;> first | rfl | exact ⟨rfl, rfl⟩ | exact ⟨rfl, rfl, rfl⟩)) rfl ?_
    simp (disch := omega) [hhashE, h0, VE, VXR, VP, VB, VTup, kof, bl, it]
abbrev n_spec_HeadHash : Nat := 53
def c_spec_HeadHash : AF := ⟨2, 5, [.tmp 4], (.seq (.ops [.i (.lbox 2 (.s 0)), .i (.lbox 3 (.s 1)), .i (.mov 4 (.c (.val false [.nils])))]) (.seq (.ops [.i (.ldl 8 2 (.s 2) 5 true), .i (.bsl 9 5 1 1 [.int .u8 0] [(0, 1, (.c (.val false [.int .u8 72])))]), .i (.ldl 10 3 (.s 3) 10 true), .i (.call 12 83 false [(.s 8), (.s 9), (.s 10)]), .i (.mov 7 (.s 11)), .i (.ext 12 (.s 7) 0), .i (.ext 13 (.s 7) 1), .i (.mov 5 (.s 12)), .i (.mov 6 (.s 13))]) (.seq (.seq (.ops [.i (.mov 14 (.s 6)), .i (.not 15 (.s 14))]) (.cond (.s 15) (.seq (.ops [.i (.mov 4 (.c (.val false [.nils])))]) .ret) .skip)) (.seq (.ops [.i (.mov 16 (.s 5)), .i (.call 18 84 false [(.s 16)]), .i (.mov 4 (.s 17))]) .ret))))⟩
theorem k_spec_HeadHash : cd n_spec_HeadHash = some c_spec_HeadHash := by kernel_rfl
theorem spec_HeadHash_ok (l : Lim) (h : Head) (hw : h.wf) : VC cd n_spec_HeadHash (mkP [(true, l.c), (true, h.c)]) (fun rs _ => rs = hhashE l h) := by
  have e : [[D.int .u8 72]] = bytes [72] := rfl
  refine VC_enter k_spec_HeadHash rfl ?_
  simp (disch := omega) [c_spec_HeadHash, Head.c, Lim.c, e, VE, VXR, VP, VB, VTup, kof, bl, it]
  cases h0 : headOk l h with
  | false =>
    refine VXC_e ((spec_PutHead_ok l [72] h hw (by simp)).re (putE_f h0)) (by first | rfl | (simp [argsD, argDs, argD, St.slc, lk_cons, lk] <;> first | rfl | exact ⟨rfl, rfl⟩ | exact ⟨rfl, rfl, rfl⟩)) rfl ?_
    simp (disch := omega) [hhashE, h0, VE, VXR, VP, VB, VTup, kof, bl, it]
  | true =>
    have hs := headB_len (headOk_sz h0)
    refine VXC_e ((spec_PutHead_ok l [72] h hw (by simp)).re (putE_t h0)) (by first | rfl | (simp [argsD, argDs, argD, St.slc, lk_cons, lk] <;> first | rfl | exact ⟨rfl, rfl⟩ | exact ⟨rfl, rfl, rfl⟩)) rfl ?_
    simp (disch := omega) [VE, VXR, VP, VB, VTup, kof, bl, it]
    refine VXC_e (spec_Sha_ok (72 :: headB h) (by simp; omega)) (by first | rfl | (simp [argsD, argDs, argD, St.slc, lk_cons, lk] <;> first | rfl | exact ⟨rfl, rfl⟩ | exact ⟨rfl, rfl, rfl⟩)) rfl ?_
    simp (disch := omega) [hhashE, h0, VE, VXR, VP, VB, VTup, kof, bl, it]
end Go.Eng.F
/-
  Functions: links, forests.
-/
set_option maxRecDepth 100000
set_option linter.unusedSimpArgs false
set_option linter.unusedVariables false
namespace Go.Eng.F
theorem hhashE_t {l : Lim} {h : Head} (e : headOk l h = true) : hhashE l h = [(false, [.o true (some (5, 1)) (bytes (sha (72 :: headB h)))])] := by unfold hhashE; rw [e]; rfl
theorem hhashE_f {l : Lim} {h : Head} (e : headOk l h = false) : hhashE l h = [(false, [.p .nils])] := by unfold hhashE; rw [e]; rfl
theorem hhash_t {l : Lim} {h : Head} (e : headOk l h = true) : hhash l h = sha (72 :: headB h) := by unfold hhash; rw [e]; rfl
theorem hhash_f {l : Lim} {h : Head} (e : headOk l h = false) : hhash l h = [] := by unfold hhash; rw [e]; rfl
def links (l : Lim) (a b : Head) : Bool := headOk l a && headOk l b && decide (b.parent = hhash l a) && decide (b.qc.view = a.view) && decide (b.qc.height = a.height)
abbrev n_impl_Links : Nat := 62
def c_impl_Links : AF := ⟨3, 6, [.tmp 6], (.seq (.ops [.i (.lbox 3 (.s 0)), .i (.lbox 4 (.s 1)), .i (.lbox 5 (.s 2)), .i (.mov 6 (.c (.val false [.bool false])))]) (.seq (.ops [.i (.ldl 7 3 (.s 3) 5 true), .i (.ldl 8 4 (.s 4) 10 true), .i (.call 10 75 false [(.s 7), (.s 8)]), .i (.mov 10 (.s 9)), .g 10 true 12 (.ldl 11 3 (.s 3) 5 true), .g 10 true 13 (.ldl 12 5 (.s 5) 10 true), .g 10 true 14 (.call 14 75 false [(.s 11), (.s 12)]), .i (.pick 14 (.s 10) (.s 13) (.c (.val false [.bool false]))), .i (.mov 15 (.s 14)), .g 15 true 17 (.fad 16 (.s 5) 3), .g 15 true 18 (.ldl 17 5 (.s 16) 1 false), .g 15 true 19 (.ldl 18 3 (.s 3) 5 true), .g 15 true 20 (.ldl 19 4 (.s 4) 10 true), .g 15 true 21 (.call 21 59 false [(.s 18), (.s 19)]), .g 15 true 22 (.call 22 98 false [(.s 17), (.s 20)]), .i (.pick 22 (.s 15) (.s 21) (.c (.val false [.bool false]))), .i (.mov 23 (.s 22)), .g 23 true 25 (.fad 24 (.s 5) 5), .g 23 true 26 (.fad 25 (.s 24) 0), .g 23 true 27 (.ldl 26 5 (.s 25) 1 false), .g 23 true 28 (.fad 27 (.s 4) 0), .g 23 true 29 (.ldl 28 4 (.s 27) 1 false), .g 23 true 30 (.bin 29 .eql (.s 26) (.s 28)), .i (.pick 30 (.s 23) (.s 29) (.c (.val false [.bool false]))), .i (.mov 31 (.s 30)), .g 31 true 33 (.fad 32 (.s 5) 5), .g 31 true 34 (.fad 33 (.s 32) 1), .g 31 true 35 (.ldl 34 5 (.s 33) 1 false), .g 31 true 36 (.fad 35 (.s 4) 1), .g 31 true 37 (.ldl 36 4 (.s 35) 1 false), .g 31 true 38 (.bin 37 .eql (.s 34) (.s 36)), .i (.pick 38 (.s 31) (.s 37) (.c (.val false [.bool false]))), .i (.mov 6 (.s 38))]) .ret))⟩
theorem k_impl_Links : cd n_impl_Links = some c_impl_Links := by kernel_rfl
theorem impl_Links_ok (l : Lim) (a b : Head) (ha : a.wf) (hb : b.wf) : VC cd n_impl_Links (mkP [(true, l.c), (true, a.c), (true, b.c)]) (fun rs _ => rs = bl (links l a b)) := by
  refine VC_enter k_impl_Links rfl ?_
  simp (disch := omega) [c_impl_Links, Head.c, Lim.c, VE, VXR, VP, VB, VTup, kof, bl, it]
  refine VXC_e (impl_HeadOk_ok l a ha) (by first | rfl | (simp [argsD, argDs, argD, St.slc, lk_cons, lk] <;> first | rfl | exact ⟨rfl, rfl⟩ | exact ⟨rfl, rfl, rfl⟩)) rfl ?_
  simp (disch := omega) [VE, VXR, VP, VB, VTup, kof, bl, it]
  refine VXB_b (fun h1 => ?_) (fun h1 => ?_) <;> simp (disch := omega) [h1, links, VE, VXR, VP, VB, VTup, kof, bl, it]
  refine VXC_e (impl_HeadOk_ok l b hb) (by first | rfl | (simp [argsD, argDs, argD, St.slc, lk_cons, lk] <;> first | rfl | exact ⟨rfl, rfl⟩ | exact ⟨rfl, rfl, rfl⟩)) rfl ?_
  simp (disch := omega) [VE, VXR, VP, VB, VTup, kof, bl, it]
  refine VXB_b (fun h2 => ?_) (fun h2 => ?_) <;> simp (disch := omega) [h1, h2, VE, VXR, VP, VB, VTup, kof, bl, it]
  refine VXC_e ((impl_HeadHash_ok l a ha).re (hhashE_t h1)) (by first | rfl | (simp [argsD, argDs, argD, St.slc, lk_cons, lk] <;> first | rfl | exact ⟨rfl, rfl⟩ | exact ⟨rfl, rfl, rfl⟩)) rfl ?_
  simp (disch := omega) [VE, VXR, VP, VB, VTup, kof, bl, it]
  refine VXC_e (impl_SameBytes_ok b.parent (sha (72 :: headB a))) (by first | rfl | (simp [argsD, argDs, argD, St.slc, lk_cons, lk] <;> first | rfl | exact ⟨rfl, rfl⟩ | exact ⟨rfl, rfl, rfl⟩)) rfl ?_
  simp (disch := omega) [VE, VXR, VP, VB, VTup, kof, bl, it]
  rw [hhash_t h1]
  refine VXB_dec (fun h3 => ?_) (fun h3 => ?_) <;> simp (disch := omega) [h1, h2, h3, VE, VXR, VP, VB, VTup, kof, bl, it]
  refine VXB_dec (fun h4 => ?_) (fun h4 => ?_) <;> simp (disch := omega) [h1, h2, h3, h4, VE, VXR, VP, VB, VTup, kof, bl, it]
abbrev n_spec_Links : Nat := 56
def c_spec_Links : AF := ⟨3, 6, [.tmp 6], (.seq (.ops [.i (.lbox 3 (.s 0)), .i (.lbox 4 (.s 1)), .i (.lbox 5 (.s 2)), .i (.mov 6 (.c (.val false [.bool false])))]) (.seq (.ops [.i (.ldl 7 3 (.s 3) 5 true), .i (.ldl 8 4 (.s 4) 10 true), .i (.call 10 73 false [(.s 7), (.s 8)]), .i (.mov 10 (.s 9)), .g 10 true 12 (.ldl 11 3 (.s 3) 5 true), .g 10 true 13 (.ldl 12 5 (.s 5) 10 true), .g 10 true 14 (.call 14 73 false [(.s 11), (.s 12)]), .i (.pick 14 (.s 10) (.s 13) (.c (.val false [.bool false]))), .i (.mov 15 (.s 14)), .g 15 true 17 (.fad 16 (.s 5) 3), .g 15 true 18 (.ldl 17 5 (.s 16) 1 false), .g 15 true 19 (.ldl 18 3 (.s 3) 5 true), .g 15 true 20 (.ldl 19 4 (.s 4) 10 true), .g 15 true 21 (.call 21 53 false [(.s 18), (.s 19)]), .g 15 true 22 (.call 22 89 false [(.s 17), (.s 20)]), .i (.pick 22 (.s 15) (.s 21) (.c (.val false [.bool false]))), .i (.mov 23 (.s 22)), .g 23 true 25 (.fad 24 (.s 5) 5), .g 23 true 26 (.fad 25 (.s 24) 0), .g 23 true 27 (.ldl 26 5 (.s 25) 1 false), .g 23 true 28 (.fad 27 (.s 4) 0), .g 23 true 29 (.ldl 28 4 (.s 27) 1 false), .g 23 true 30 (.bin 29 .eql (.s 26) (.s 28)), .i (.pick 30 (.s 23) (.s 29) (.c (.val false [.bool false]))), .i (.mov 31 (.s 30)), .g 31 true 33 (.fad 32 (.s 5) 5), .g 31 true 34 (.fad 33 (.s 32) 1), .g 31 true 35 (.ldl 34 5 (.s 33) 1 false), .g 31 true 36 (.fad 35 (.s 4) 1), .g 31 true 37 (.ldl 36 4 (.s 35) 1 false), .g 31 true 38 (.bin 37 .eql (.s 34) (.s 36)), .i (.pick 38 (.s 31) (.s 37) (.c (.val false [.bool false]))), .i (.mov 6 (.s 38))]) .ret))⟩
theorem k_spec_Links : cd n_spec_Links = some c_spec_Links := by kernel_rfl
theorem spec_Links_ok (l : Lim) (a b : Head) (ha : a.wf) (hb : b.wf) : VC cd n_spec_Links (mkP [(true, l.c), (true, a.c), (true, b.c)]) (fun rs _ => rs = bl (links l a b)) := by
  refine VC_enter k_spec_Links rfl ?_
  simp (disch := omega) [c_spec_Links, Head.c, Lim.c, VE, VXR, VP, VB, VTup, kof, bl, it]
  refine VXC_e (spec_HeadOk_ok l a ha) (by first | rfl | (simp [argsD, argDs, argD, St.slc, lk_cons, lk] <;> first | rfl | exact ⟨rfl, rfl⟩ | exact ⟨rfl, rfl, rfl⟩)) rfl ?_
  simp (disch := omega) [VE, VXR, VP, VB, VTup, kof, bl, it]
  refine VXB_b (fun h1 => ?_) (fun h1 => ?_) <;> simp (disch := omega) [h1, links, VE, VXR, VP, VB, VTup, kof, bl, it]
  refine VXC_e (spec_HeadOk_ok l b hb) (by first | rfl | (simp [argsD, argDs, argD, St.slc, lk_cons, lk] <;> first | rfl | exact ⟨rfl, rfl⟩ | exact ⟨rfl, rfl, rfl⟩)) rfl ?_
  simp (disch := omega) [VE, VXR, VP, VB, VTup, kof, bl, it]
  refine VXB_b (fun h2 => ?_) (fun h2 => ?_) <;> simp (disch := omega) [h1, h2, VE, VXR, VP, VB, VTup, kof, bl, it]
  refine VXC_e ((spec_HeadHash_ok l a ha).re (hhashE_t h1)) (by first | rfl | (simp [argsD, argDs, argD, St.slc, lk_cons, lk] <;> first | rfl | exact ⟨rfl, rfl⟩ | exact ⟨rfl, rfl, rfl⟩)) rfl ?_
  simp (disch := omega) [VE, VXR, VP, VB, VTup, kof, bl, it]
  refine VXC_e (spec_SameBytes_ok b.parent (sha (72 :: headB a))) (by first | rfl | (simp [argsD, argDs, argD, St.slc, lk_cons, lk] <;> first | rfl | exact ⟨rfl, rfl⟩ | exact ⟨rfl, rfl, rfl⟩)) rfl ?_
  simp (disch := omega) [VE, VXR, VP, VB, VTup, kof, bl, it]
  rw [hhash_t h1]
  refine VXB_dec (fun h3 => ?_) (fun h3 => ?_) <;> simp (disch := omega) [h1, h2, h3, VE, VXR, VP, VB, VTup, kof, bl, it]
  refine VXB_dec (fun h4 => ?_) (fun h4 => ?_) <;> simp (disch := omega) [h1, h2, h3, h4, VE, VXR, VP, VB, VTup, kof, bl, it]
/-! ### Forests -/
structure Forest where
  l : Lim
  heads : List Head
def Forest.c (f : Forest) : List D := f.l.c ++ [.sl (hds f.heads)]
def Forest.wf (f : Forest) : Prop := HeadsWf f.heads
def Forest.wc (f : Forest) : Prop := Sz f.heads.length ∧ ∀ h ∈ f.heads, h.wc
theorem Forest.wc.wf {f : Forest} (h : f.wc) : f.wf := ⟨h.1, fun x hx => (h.2 x hx).1⟩
def hh (l : Lim) (hs : List Head) (i : Nat) : Bytes := match hs[i]? with | some h => hhash l h | none => []
theorem bytes_nil : bytes [] = [] := rfl
/-! ### A header by its hash -/
def optHeadE (o : Option Head) : List (Bool × List E) := match o with
  | some h => [(true, h.o), (false, [.p (.bool true)])]
  | none => [(true, zeroHeadE), (false, [.p (.bool false)])]
/-! ### A header more -/
def Forest.o (f : Forest) : List E := [.p (.int .i64 f.l.n), .p (.int .i64 f.l.tx), .p (.int .i64 f.l.txs), .p (.int .i64 f.l.frame), .p (.int .i64 f.l.heads), .o true (some (38, 10)) (hds f.heads)]
end Go.Eng.F
/-
  Functions: upward.
-/
set_option maxRecDepth 100000
set_option linter.unusedSimpArgs false
set_option linter.unusedVariables false
namespace Go.Eng.F
/-! ### What stands on what -/
end Go.Eng.F
/-
  Functions: forests at the program's types.
-/
set_option maxRecDepth 100000
set_option linter.unusedSimpArgs false
set_option linter.unusedVariables false
namespace Go.Eng.F
open Go.Eng.U (TQc THead TLimits TForest)
def Forest.tv (f : Forest) : Tv := .r [f.l.tv, hdsT f.heads]
theorem Forest.enc (f : Forest) : enc TForest f.tv = f.c := by simp only [Forest.tv, enc_hds, enc_st, encS_cons, encS_nil, Lim.enc, Forest.c, List.append_nil]
theorem Forest.ex {v : Tv} (h : TvOk TForest v) : ∃ q : Forest, v = q.tv := by
  obtain ⟨vs, rfl, h⟩ := h.st
  obtain ⟨v0, _, rfl, h0, h⟩ := h.step
  obtain ⟨v1, _, rfl, h1, h⟩ := h.step
  obtain rfl := h.fin
  obtain ⟨n0, rfl⟩ := Lim.ex h0
  obtain ⟨n1, rfl⟩ := hdsT_ex h1
  exact ⟨⟨n0, n1⟩, rfl⟩
theorem Forest.of {f : Forest} (h : TvOk TForest f.tv) (hw : wt f.tv ≤ 1048576) : f.wc ∧ TvOk TLimits f.l.tv ∧ f.heads.length ≤ 1048576 := by
  simp only [Forest.tv, ok_st, okS_cons] at h
  simp only [Forest.tv, wt, wts] at hw
  obtain ⟨h0, h1, _⟩ := h
  have h5 := hds_of h1 (by omega)
  have h6 : f.heads.length ≤ wt (hdsT f.heads) := by unfold hdsT; rw [wt_l, List.length_map]; omega
  exact ⟨⟨h5.1, h5.2⟩, ok_st.2 (ok_st.1 h0), by omega⟩
theorem zeroHead_wc : zeroHead.wc := by simp [Head.wc, Head.wf, Qc.wf, zeroHead, I64, Sz]
theorem optHead_rs {o : Option Head} (h : ∀ h, o = some h → h.wc) : RsE (optHeadE o) [(THead, (o.getD zeroHead).tv), (.bool, .b o.isSome)] := by
  cases o with
  | none =>
    refine ⟨rfl, ?_, zeroHead_wc.tok, rfl, ?_, trivial, trivial⟩
    · rw [Head.enc]; simp only [zeroHeadE, zeroHead, Option.getD_none, Head.c, EEq, D.leaf, and_self, bytes, bss, List.map_nil]
    · simp only [enc_bool, EEq, D.leaf, and_self, Option.isSome]
  | some x => exact ⟨rfl, Head.rs x, (h x rfl).tok, rfl, by simp only [enc_bool, EEq, D.leaf, and_self, Option.isSome], trivial, trivial⟩
theorem zeroHead_wt : wt zeroHead.tv = 0 := by simp [Head.tv, Qc.tv, zeroHead, wt, wts, bsT, bssT]
theorem wts_le {α : Type} {f : α → Tv} {B : Nat} : ∀ {l : List α}, (∀ x ∈ l, wt (f x) ≤ B) → wts (l.map f) ≤ l.length * B
  | [], _ => by simp [wts]
  | a :: l, h => by
    have h1 := h a (by simp)
    have h2 := wts_le (l := l) fun x hx => h x (by simp [hx])
    simp only [List.map_cons, wts, List.length_cons, Nat.succ_mul]
    omega
end Go.Eng.F
/-
  Functions: checksums, frames.
-/
set_option maxRecDepth 100000
set_option linter.unusedSimpArgs false
set_option linter.unusedVariables false
namespace Go.Eng.F
/-! ### Checksums -/
end Go.Eng.F
/-
  Functions: numbers of a width, frames.
-/
set_option maxRecDepth 100000
set_option linter.unusedSimpArgs false
set_option linter.unusedVariables false
namespace Go.Eng.F
/-! ### Frames -/
/-! ### Scans -/
structure Push where
  skip : Int
  buf : Bytes
def Push.c (p : Push) : List D := [.int .i64 p.skip, .sl (bytes p.buf)]
end Go.Eng.F
/-
  Functions: light clients, desks.
-/
set_option maxRecDepth 100000
set_option linter.unusedSimpArgs false
set_option linter.unusedVariables false
namespace Go.Eng.F
structure Light where
  l : Lim
  t : Table
  push : Push
  chain : List Head
def Light.c (x : Light) : List D := [.int .i64 x.l.n, .int .i64 x.l.tx, .int .i64 x.l.txs, .int .i64 x.l.frame, .int .i64 x.l.heads, .sl (rws x.t.rows), .int .i64 x.push.skip, .sl (bytes x.push.buf), .sl (hds x.chain)]
def Light.wc (x : Light) : Prop := x.t.wf ∧ x.push.buf.length ≤ 1073741824 ∧ Sz x.chain.length ∧ ∀ h ∈ x.chain, h.wc
def ht (hs : List Head) (i : Nat) : Int := match hs[i]? with | some h => h.height | none => 0
/-! ### Tables that are the same -/
/-! ### Desks -/
structure Desk where
  l : Lim
  t : Table
  x : Light
  own : List Head
def Desk.c (d : Desk) : List D := [.int .i64 d.l.n, .int .i64 d.l.tx, .int .i64 d.l.txs, .int .i64 d.l.frame, .int .i64 d.l.heads, .sl (rws d.t.rows), .int .i64 d.x.l.n, .int .i64 d.x.l.tx, .int .i64 d.x.l.txs, .int .i64 d.x.l.frame, .int .i64 d.x.l.heads, .sl (rws d.x.t.rows), .int .i64 d.x.push.skip, .sl (bytes d.x.push.buf), .sl (hds d.x.chain), .sl (hds d.own)]
def Desk.wc (d : Desk) : Prop := d.t.wf ∧ d.x.wc ∧ Sz d.own.length ∧ ∀ h ∈ d.own, h.wc
end Go.Eng.F
/-
  Functions: light clients and desks at the program's types.
-/
set_option maxRecDepth 100000
set_option linter.unusedSimpArgs false
set_option linter.unusedVariables false
namespace Go.Eng.F
open Go.Eng.U (TQc THead TLimits TTable TPush TLight TDesk)
def Push.wf (p : Push) : Prop := I64 p.skip ∧ Sz p.buf.length
def Push.tv (x : Push) : Tv := .r [.i x.skip, bsT x.buf]
theorem Push.enc (x : Push) : enc TPush x.tv = x.c := by simp only [Push.tv, enc_st, encS_cons, encS_nil, enc_int, enc_bool, enc_str, enc_bs, enc_bss', enc_ints, Push.c, List.cons_append, List.nil_append, List.append_assoc]
theorem Push.ex {v : Tv} (h : TvOk TPush v) : ∃ x : Push, v = x.tv := by
  obtain ⟨vs, rfl, h⟩ := h.st
  obtain ⟨v0, _, rfl, h0, h⟩ := h.step
  obtain ⟨v1, _, rfl, h1, h⟩ := h.step
  obtain rfl := h.fin
  obtain ⟨n0, rfl, _⟩ := h0.int
  obtain ⟨n1, rfl⟩ := bsT_ex h1
  exact ⟨⟨n0, n1⟩, rfl⟩
theorem Push.of {x : Push} (h : TvOk TPush x.tv) (hw : wt x.tv ≤ 1048576) : x.wf := by
  simp only [Push.tv, ok_st, okS_cons] at h
  simp only [Push.tv, wt, wts] at hw
  obtain ⟨h0, h1, _⟩ := h
  exact ⟨i64_of (ok_int.1 h0), bs_of (by omega)⟩
theorem Push.wf.tok {x : Push} (h : x.wf) : TvOk TPush x.tv := by
  simp only [Push.tv, ok_st, okS_cons]
  obtain ⟨h0, h1⟩ := h
  exact ⟨i64_ok h0, sz_bs h1, okS_nil.2 trivial⟩
def Light.tv (x : Light) : Tv := .r [x.l.tv, x.t.tv, x.push.tv, hdsT x.chain]
theorem Light.enc (x : Light) : enc TLight x.tv = x.c := by simp only [Light.tv, enc_hds, enc_st, encS_cons, encS_nil, Lim.enc, Table.enc, Push.enc, Light.c, Lim.c, Table.c, Push.c, List.cons_append, List.nil_append, List.append_nil]
theorem Light.ex {v : Tv} (h : TvOk TLight v) : ∃ q : Light, v = q.tv := by
  obtain ⟨vs, rfl, h⟩ := h.st
  obtain ⟨v0, _, rfl, h0, h⟩ := h.step
  obtain ⟨v1, _, rfl, h1, h⟩ := h.step
  obtain ⟨v2, _, rfl, h2, h⟩ := h.step
  obtain ⟨v3, _, rfl, h3, h⟩ := h.step
  obtain rfl := h.fin
  obtain ⟨n0, rfl⟩ := Lim.ex h0
  obtain ⟨n1, rfl⟩ := Table.ex h1
  obtain ⟨n2, rfl⟩ := Push.ex h2
  obtain ⟨n3, rfl⟩ := hdsT_ex h3
  exact ⟨⟨n0, n1, n2, n3⟩, rfl⟩
theorem Light.of {x : Light} (h : TvOk TLight x.tv) (hw : wt x.tv ≤ 1048576) : x.wc := by
  simp only [Light.tv, ok_st, okS_cons] at h
  simp only [Light.tv, wt, wts] at hw
  obtain ⟨h0, h1, h2, h3, _⟩ := h
  have k1 := Table.of h1 (by omega)
  have k2 := Push.of h2 (by omega)
  have k3 := hds_of h3 (by omega)
  exact ⟨k1, k2.2, k3.1, k3.2⟩
def Desk.tv (x : Desk) : Tv := .r [x.l.tv, x.t.tv, x.x.tv, hdsT x.own]
theorem Desk.enc (x : Desk) : enc TDesk x.tv = x.c := by simp only [Desk.tv, enc_hds, enc_st, encS_cons, encS_nil, Lim.enc, Table.enc, Light.enc, Desk.c, Light.c, Lim.c, Table.c, List.cons_append, List.nil_append, List.append_nil]
theorem Desk.ex {v : Tv} (h : TvOk TDesk v) : ∃ q : Desk, v = q.tv := by
  obtain ⟨vs, rfl, h⟩ := h.st
  obtain ⟨v0, _, rfl, h0, h⟩ := h.step
  obtain ⟨v1, _, rfl, h1, h⟩ := h.step
  obtain ⟨v2, _, rfl, h2, h⟩ := h.step
  obtain ⟨v3, _, rfl, h3, h⟩ := h.step
  obtain rfl := h.fin
  obtain ⟨n0, rfl⟩ := Lim.ex h0
  obtain ⟨n1, rfl⟩ := Table.ex h1
  obtain ⟨n2, rfl⟩ := Light.ex h2
  obtain ⟨n3, rfl⟩ := hdsT_ex h3
  exact ⟨⟨n0, n1, n2, n3⟩, rfl⟩
theorem Desk.of {x : Desk} (h : TvOk TDesk x.tv) (hw : wt x.tv ≤ 1048576) : x.wc := by
  simp only [Desk.tv, ok_st, okS_cons] at h
  simp only [Desk.tv, wt, wts] at hw
  obtain ⟨h0, h1, h2, h3, _⟩ := h
  have k1 := Table.of h1 (by omega)
  have k2 := Light.of h2 (by omega)
  have k3 := hds_of h3 (by omega)
  exact ⟨k1, k2, k3.1, k3.2⟩
end Go.Eng.F
/-
  Functions: tags, signatures.
-/
set_option maxRecDepth 100000
set_option linter.unusedSimpArgs false
set_option linter.unusedVariables false
namespace Go.Eng.F
theorem xor8 (a b : UInt8) : bits2 .xor .u8 (a.toNat : Int) (b.toNat : Int) = ((a ^^^ b).toNat : Int) := by
  have h1 := u8lt a
  have h2 := u8lt b
  have h3 := u8lt (a ^^^ b)
  show IntKind.u8.wrap ((BitVec.ofInt 8 (a.toNat : Int) ^^^ BitVec.ofInt 8 (b.toNat : Int)).toNat : Int) = _
  rw [BitVec.toNat_xor, show BitVec.ofInt 8 (a.toNat : Int) = BitVec.ofNat 8 a.toNat from rfl, show BitVec.ofInt 8 (b.toNat : Int) = BitVec.ofNat 8 b.toNat from rfl, BitVec.toNat_ofNat, BitVec.toNat_ofNat, Nat.mod_eq_of_lt (by omega), Nat.mod_eq_of_lt (by omega), ← UInt8.toNat_xor]
  rw [u8n h3]
  simp
def mkey (k : Bytes) : Bytes := if 64 < k.length then sha k else k
def macKey (k : Bytes) : Bytes := mkey k ++ List.replicate (64 - (mkey k).length) 0
def masked (b : Bytes) (x : UInt8) : Bytes := b.map (· ^^^ x)
def mac (k b : Bytes) : Bytes := sha (masked (macKey k) 92 ++ sha (masked (macKey k) 54 ++ b))
theorem mkey_len (k : Bytes) : (mkey k).length ≤ 64 := by
  unfold mkey
  split
  · rw [sha_len]; omega
  · omega
theorem macKey_len (k : Bytes) : (macKey k).length = 64 := by have := mkey_len k; simp [macKey]; omega
theorem masked_len (b : Bytes) (x : UInt8) : (masked b x).length = b.length := by simp [masked]
theorem mac_len (k b : Bytes) : (mac k b).length = 32 := sha_len _
theorem bytes_zero (n : Nat) : List.replicate n [D.int .u8 0] = bytes (List.replicate n 0) := by simp [bytes]
theorem cpy_key {k : Bytes} (h : k.length ≤ 64) : (bytes k).take (min k.length 64) ++ (bytes (List.replicate 64 0)).drop (min k.length 64) = bytes (k ++ List.replicate (64 - k.length) 0) := by
  have h3 : min k.length 64 = k.length := by omega
  rw [h3]
  rw [List.take_of_length_le (by rw [bytes_len]; exact Nat.le_refl _)]
  simp [bytes, -List.reduceReplicate]
theorem zeros_len (n : Nat) : (bytes (List.replicate n 0)).length = n := by simp [bytes]
theorem zeros_ne {n : Nat} (h : 0 < n) : (bytes (List.replicate n 0)).isEmpty = false := by
  cases n with
  | zero => omega
  | succ n => rfl
abbrev n_impl_MacKey : Nat := 156
def c_impl_MacKey : AF := ⟨1, 4, [.tmp 2], (.seq (.ops [.i (.mov 2 (.c (.val false [.nils])))]) (.seq (.seq (.ops [.i (.mov 4 (.s 0)), .i (.len 5 false (.s 4)), .i (.bin 6 .gtr (.s 5) (.c (.val false [.int .i64 64])))]) (.cond (.s 6) (.ops [.i (.mov 7 (.s 0)), .i (.call 9 93 false [(.s 7)]), .i (.mov 0 (.s 8))]) .skip)) (.seq (.ops [.i (.mks 9 5 1 1 [.int .u8 0] (.c (.val false [.int .i64 64]))), .i (.mov 3 (.s 9))]) (.seq (.ops [.i (.mov 10 (.s 3)), .i (.mov 11 (.s 0)), .i (.cpy 12 1 (.s 10) (.s 11))]) (.seq (.ops [.i (.mov 13 (.s 3)), .i (.mov 2 (.s 13))]) .ret)))))⟩
theorem k_impl_MacKey : cd n_impl_MacKey = some c_impl_MacKey := by kernel_rfl
theorem impl_MacKey_ok (k : Bytes) (hk : k.length ≤ 1073741824) : VC cd n_impl_MacKey (mkP [(false, [.sl (bytes k)])]) (fun rs _ => rs = [(false, [.o true (some (5, 1)) (bytes (macKey k))])]) := by
  refine VC_enter k_impl_MacKey rfl ?_
  simp (disch := omega) [c_impl_MacKey, VE, VXR, VP, VB, VTup, kof, bl, it]
  refine VXB_dec (fun h1 => ?_) (fun h1 => ?_)
  · have h2 : mkey k = sha k := by unfold mkey; rw [if_pos (by omega)]
    have e := cpy_key (k := sha k) (by rw [sha_len]; omega)
    simp (disch := omega) [VE, VXR, VP, VB, VTup, kof, bl, it]
    refine VXC_e (impl_Sha_ok k hk) (by first | rfl | (simp [argsD, argDs, argD, St.slc, lk_cons, lk] <;> first | rfl | exact ⟨rfl, rfl⟩ | exact ⟨rfl, rfl, rfl⟩)) rfl ?_
    rw [sha_len] at e
    simp (disch := omega) [bytes_zero, bytes_len, zeros_len, zeros_ne, sha_len, -List.reduceReplicate, VE, VXR, VP, VB, VTup, kof, bl, it]
    rw [show min 32 64 = 32 from rfl] at e
    rw [e, macKey, h2, sha_len]
  · have h2 : mkey k = k := by unfold mkey; rw [if_neg (by omega)]
    have e := cpy_key (k := k) (by omega)
    rw [Nat.min_eq_left (by omega)] at e
    simp (disch := omega) [bytes_zero, bytes_len, zeros_len, zeros_ne, -List.reduceReplicate, VE, VXR, VP, VB, VTup, kof, bl, it]
    rw [e, macKey, h2]
abbrev n_spec_MacKey : Nat := 148
def c_spec_MacKey : AF := ⟨1, 5, [.tmp 2], (.seq (.ops [.i (.mov 2 (.c (.val false [.nils])))]) (.seq (.ops [.i (.mov 4 (.s 0)), .i (.call 6 54 false [(.s 4)]), .i (.mov 3 (.s 5))]) (.seq (.seq (.ops [.i (.mov 6 (.s 3)), .i (.len 7 false (.s 6)), .i (.bin 8 .gtr (.s 7) (.c (.val false [.int .i64 64])))]) (.cond (.s 8) (.ops [.i (.mov 9 (.s 3)), .i (.call 11 84 false [(.s 9)]), .i (.mov 3 (.s 10))]) .skip)) (.seq (.block 0 (.loop [16, 15, 14, 13, 12, 11] (.seq (.seq (.ops [.i (.mov 11 (.s 3)), .i (.len 12 false (.s 11)), .i (.bin 13 .lss (.s 12) (.c (.val false [.int .i64 64])))]) (.cond (.s 13) .skip (.exit 0))) (.block 1 (.ops [.i (.mov 14 (.s 3)), .i (.lsl 15 1 1 [.int .u8 0] [(0, 1, (.c (.val false [.int .u8 0])))]), .i (.app 16 5 1 1 (.s 14) (.s 15)), .i (.mov 3 (.s 16))]))))) (.seq (.ops [.i (.mov 17 (.s 3)), .i (.mov 2 (.s 17))]) .ret)))))⟩
theorem k_spec_MacKey : cd n_spec_MacKey = some c_spec_MacKey := by kernel_rfl
theorem spec_MacKey_ok (k : Bytes) (hk : k.length ≤ 1073741824) : VC cd n_spec_MacKey (mkP [(false, [.sl (bytes k)])]) (fun rs _ => rs = [(false, [.o true (some (5, 1)) (bytes (macKey k))])]) := by
  refine VC_enter k_spec_MacKey rfl ?_
  simp (disch := omega) [c_spec_MacKey, VE, VXR, VP, VB, VTup, kof, bl, it]
  refine VXC_e (l01Copy_ok k (by omega)) (by first | rfl | (simp [argsD, argDs, argD, St.slc, lk_cons, lk] <;> first | rfl | exact ⟨rfl, rfl⟩ | exact ⟨rfl, rfl, rfl⟩)) rfl ?_
  simp (disch := omega) [bytes_len, VE, VXR, VP, VB, VTup, kof, bl, it]
  refine VXB_dec (fun h1 => ?_) (fun h1 => ?_)
  · have h2 : mkey k = sha k := by unfold mkey; rw [if_pos (by omega)]
    simp (disch := omega) [VE, VXR, VP, VB, VTup, kof, bl, it]
    refine VXC_e (spec_Sha_ok k hk) (by first | rfl | (simp [argsD, argDs, argD, St.slc, lk_cons, lk] <;> first | rfl | exact ⟨rfl, rfl⟩ | exact ⟨rfl, rfl, rfl⟩)) rfl ?_
    simp (disch := omega) [VE, VXR, VP, VB, VTup, kof, bl, it]
    refine VX_loopP (σ := Nat × Nat) (f1 := _) (by simp (disch := omega) [VE, VXR, VP, VB, VTup, kof, bl, it]; rfl) (fun p => [(3, .val false [.ow 98304 p.2])]) (fun p => [(98304, .sl p.2 true true (some (5, 1)) (bytes (sha k ++ List.replicate p.1 0)))]) (fun p g => g + p.1 = 32) (0, _) 32 (by simp (disch := omega) [VE, VXR, VP, VB, VTup, kof, bl, it]; rfl) (by simp (disch := omega) [VE, VXR, VP, VB, VTup, kof, bl, it]) (by omega) ?_
    rintro ⟨j, v⟩ n g hg P hP
    simp only at hg
    have e0 : bytes (sha k ++ List.replicate j 0) ++ [[.int .u8 0]] = bytes (sha k ++ List.replicate (j + 1) 0) := by simp [bytes, List.replicate_succ']
    have hl : (sha k ++ List.replicate j (0 : UInt8)).length = 32 + j := by simp [sha_len]
    simp (disch := omega) [bytes_len, hl, VE, VXR, VP, VB, VTup, kof, bl, it]
    refine VXB_dec (fun h3 => ?_) (fun h3 => ?_)
    · simp (disch := omega) [e0, sha_len, -List.reduceReplicate, VE, VXR, VP, VB, VTup, kof, bl, it]
      exact hP (j + 1, _) (g - 1) _ _ (by omega) (by simp only; omega) (by simp (disch := omega) [VE, VXR, VP, VB, VTup, kof, bl, it]; rfl) (by simp (disch := omega) [VE, VXR, VP, VB, VTup, kof, bl, it])
    · have hj : j = 32 := by omega
      simp (disch := omega) [macKey, h2, sha_len, hj, VE, VXR, VP, VB, VTup, kof, bl, it]
  · have h2 : mkey k = k := by unfold mkey; rw [if_neg (by omega)]
    simp (disch := omega) [VE, VXR, VP, VB, VTup, kof, bl, it]
    refine VX_loopP (σ := Nat × Nat) (f1 := _) (by simp (disch := omega) [VE, VXR, VP, VB, VTup, kof, bl, it]; rfl) (fun p => [(3, .val false [.ow 57344 p.2])]) (fun p => [(57344, .sl p.2 true true (some (5, 1)) (bytes (k ++ List.replicate p.1 0)))]) (fun p g => g + p.1 = 64 - k.length) (0, _) (64 - k.length) (by simp (disch := omega) [VE, VXR, VP, VB, VTup, kof, bl, it]; rfl) (by simp (disch := omega) [VE, VXR, VP, VB, VTup, kof, bl, it]) (by omega) ?_
    rintro ⟨j, v⟩ n g hg P hP
    simp only at hg
    have e0 : bytes (k ++ List.replicate j 0) ++ [[.int .u8 0]] = bytes (k ++ List.replicate (j + 1) 0) := by simp [bytes, List.replicate_succ']
    have hl : (k ++ List.replicate j (0 : UInt8)).length = k.length + j := by simp
    simp (disch := omega) [bytes_len, hl, VE, VXR, VP, VB, VTup, kof, bl, it]
    refine VXB_dec (fun h3 => ?_) (fun h3 => ?_)
    · simp (disch := omega) [e0, -List.reduceReplicate, VE, VXR, VP, VB, VTup, kof, bl, it]
      exact hP (j + 1, _) (g - 1) _ _ (by omega) (by simp only; omega) (by simp (disch := omega) [VE, VXR, VP, VB, VTup, kof, bl, it]; rfl) (by simp (disch := omega) [VE, VXR, VP, VB, VTup, kof, bl, it])
    · have hj : j = 64 - k.length := by omega
      simp (disch := omega) [macKey, h2, hj, VE, VXR, VP, VB, VTup, kof, bl, it]
abbrev n_impl_masked : Nat := 157
def c_impl_masked : AF := ⟨2, 5, [.tmp 4], (.seq (.ops [.i (.mov 4 (.c (.val false [.nils])))]) (.seq (.ops [.i (.bse 8), .i (.mov 5 (.s 8))]) (.seq (.seq (.ops [.i (.mov 9 (.s 0)), .i (.len 10 false (.s 9)), .i (.mov 11 (.c (.val false [.int .i64 0])))]) (.block 0 (.loop [21, 20, 19, 18, 17, 16, 15, 14, 13, 12, 7] (.seq (.ops [.i (.bin 12 .lss (.s 11) (.s 10))]) (.seq (.cond (.s 12) .skip (.exit 0)) (.seq (.block 1 (.seq (.ops [.i (.iad 13 (.s 9) (.s 11) 1), .i (.ldh 14 (.s 13) 1 false), .i (.mov 7 (.s 14))]) (.ops [.i (.mov 15 (.s 5)), .i (.mov 16 (.s 7)), .i (.mov 17 (.s 1)), .i (.bin 18 .xor (.s 16) (.s 17)), .i (.lsl 19 1 1 [.int .u8 0] [(0, 1, (.s 18))]), .i (.app 20 5 1 1 (.s 15) (.s 19)), .i (.mov 5 (.s 20))]))) (.ops [.i (.bin 21 .add (.s 11) (.c (.val false [.int .i64 1]))), .i (.mov 11 (.s 21))]))))))) (.seq (.ops [.i (.mov 22 (.s 5)), .i (.mov 4 (.s 22))]) .ret))))⟩
theorem k_impl_masked : cd n_impl_masked = some c_impl_masked := by kernel_rfl
theorem impl_masked_ok (k : Bytes) (x : UInt8) (hk : k.length ≤ 1073741824) : VC cd n_impl_masked (mkP [(false, [.sl (bytes k)]), (false, [.int .u8 (x.toNat : Int)])]) (fun rs _ => rs = [(false, [.o true (some (5, 1)) (bytes (masked k x))])]) := by
  refine VC_enter k_impl_masked rfl ?_
  simp (disch := omega) [c_impl_masked, bytes_len, VE, VXR, VP, VB, VTup, kof, bl, it]
  refine VX_loopP (σ := Nat × Nat) (f1 := _) (by simp (disch := omega) [VE, VXR, VP, VB, VTup, kof, bl, it]; rfl) (fun p => [(11, .val false [.int .i64 (p.1 : Int)]), (5, .val false [.ow 8 p.2])]) (fun p => [(8, .sl p.2 true true (some (5, 1)) (bytes (masked (k.take p.1) x)))]) (fun p g => g + p.1 = k.length) (0, _) k.length (by simp (disch := omega) [VE, VXR, VP, VB, VTup, kof, bl, it]; rfl) (by simp (disch := omega) [masked, bytes_nil, VE, VXR, VP, VB, VTup, kof, bl, it]) (by omega) ?_
  rintro ⟨i, v⟩ n g hg P hP
  simp only at hg
  have hl : (masked (k.take i) x).length = i := by rw [masked_len, List.length_take]; omega
  simp (disch := omega) [bytes_len, VE, VXR, VP, VB, VTup, kof, bl, it]
  refine VXB_dec (fun h1 => ?_) (fun h1 => ?_)
  · have hi : i < k.length := by omega
    have e : bytes (masked (k.take i) x) ++ [[.int .u8 ((k[i].toNat ^^^ x.toNat : Nat) : Int)]] = bytes (masked (k.take (i + 1)) x) := by rw [← UInt8.toNat_xor, List.take_succ_eq_append_getElem hi]; simp only [masked, bytes, List.map_append, List.map_cons, List.map_nil]
    simp (disch := omega) [bytes_get hi, xor8, bytes_len, hl, e, VE, VXR, VP, VB, VTup, kof, bl, it]
    exact hP (i + 1, _) (g - 1) _ _ (by omega) (by simp only; omega) (by simp (disch := omega) [VE, VXR, VP, VB, VTup, kof, bl, it]; rfl) (by simp (disch := omega) [VE, VXR, VP, VB, VTup, kof, bl, it])
  · have hi : i = k.length := by omega
    subst hi
    simp (disch := omega) [List.take_length, VE, VXR, VP, VB, VTup, kof, bl, it]
abbrev n_impl_Mac : Nat := 138
def c_impl_Mac : AF := ⟨2, 5, [.tmp 4], (.seq (.ops [.i (.mov 4 (.c (.val false [.nils])))]) (.seq (.ops [.i (.mov 6 (.s 0)), .i (.call 8 156 false [(.s 6)]), .i (.mov 5 (.s 7))]) (.seq (.ops [.i (.mov 8 (.s 5)), .i (.call 10 157 false [(.s 8), (.c (.val false [.int .u8 92]))]), .i (.mov 10 (.s 5)), .i (.call 12 157 false [(.s 10), (.c (.val false [.int .u8 54]))]), .i (.mov 12 (.s 1)), .i (.app 13 5 1 1 (.s 11) (.s 12)), .i (.call 15 93 false [(.s 13)]), .i (.app 15 5 1 1 (.s 9) (.s 14)), .i (.call 17 93 false [(.s 15)]), .i (.mov 4 (.s 16))]) .ret)))⟩
theorem k_impl_Mac : cd n_impl_Mac = some c_impl_Mac := by kernel_rfl
theorem impl_Mac_ok (k b : Bytes) (hk : k.length ≤ 1073741824) (hb : b.length ≤ 1073741760) : VC cd n_impl_Mac (mkP [(false, [.sl (bytes k)]), (false, [.sl (bytes b)])]) (fun rs _ => rs = [(false, [.o true (some (5, 1)) (bytes (mac k b))])]) := by
  have e9 : ((92 : UInt8).toNat : Int) = 92 := rfl
  have e5 : ((54 : UInt8).toNat : Int) = 54 := rfl
  have h1 := macKey_len k
  refine VC_enter k_impl_Mac rfl ?_
  simp (disch := omega) [c_impl_Mac, VE, VXR, VP, VB, VTup, kof, bl, it]
  refine VXC_e (impl_MacKey_ok k hk) (by first | rfl | (simp [argsD, argDs, argD, St.slc, lk_cons, lk] <;> first | rfl | exact ⟨rfl, rfl⟩ | exact ⟨rfl, rfl, rfl⟩)) rfl ?_
  simp (disch := omega) [VE, VXR, VP, VB, VTup, kof, bl, it]
  refine VXC_e (impl_masked_ok (macKey k) 92 (by omega)) (by first | rfl | (simp [e9, argsD, argDs, argD, St.slc, lk_cons, lk] <;> first | rfl | exact ⟨rfl, rfl⟩ | exact ⟨rfl, rfl, rfl⟩)) rfl ?_
  simp (disch := omega) [VE, VXR, VP, VB, VTup, kof, bl, it]
  refine VXC_e (impl_masked_ok (macKey k) 54 (by omega)) (by first | rfl | (simp [e5, argsD, argDs, argD, St.slc, lk_cons, lk] <;> first | rfl | exact ⟨rfl, rfl⟩ | exact ⟨rfl, rfl, rfl⟩)) rfl ?_
  simp (disch := omega) [bytes_len, masked_len, h1, ← bytes_app, VE, VXR, VP, VB, VTup, kof, bl, it]
  refine VXC_e (impl_Sha_ok (masked (macKey k) 54 ++ b) (by rw [List.length_append, masked_len]; omega)) (by first | rfl | (simp [← bytes_app, argsD, argDs, argD, St.slc, lk_cons, lk] <;> first | rfl | exact ⟨rfl, rfl⟩ | exact ⟨rfl, rfl, rfl⟩)) rfl ?_
  simp (disch := omega) [bytes_len, masked_len, h1, sha_len, ← bytes_app, VE, VXR, VP, VB, VTup, kof, bl, it]
  refine VXC_e (impl_Sha_ok (masked (macKey k) 92 ++ sha (masked (macKey k) 54 ++ b)) (by rw [List.length_append, masked_len, sha_len]; omega)) (by first | rfl | (simp [← bytes_app, argsD, argDs, argD, St.slc, lk_cons, lk] <;> first | rfl | exact ⟨rfl, rfl⟩ | exact ⟨rfl, rfl, rfl⟩)) rfl ?_
  simp (disch := omega) [mac, VE, VXR, VP, VB, VTup, kof, bl, it]
abbrev n_spec_Mac : Nat := 128
def c_spec_Mac : AF := ⟨2, 6, [.tmp 4], (.seq (.ops [.i (.mov 4 (.c (.val false [.nils])))]) (.seq (.ops [.i (.bse 9), .i (.mov 5 (.s 9))]) (.seq (.ops [.i (.bse 10), .i (.mov 6 (.s 10))]) (.seq (.seq (.ops [.i (.mov 11 (.s 0)), .i (.call 13 148 false [(.s 11)]), .i (.len 13 false (.s 12)), .i (.mov 14 (.c (.val false [.int .i64 0])))]) (.block 0 (.loop [28, 27, 26, 25, 24, 23, 22, 21, 20, 19, 18, 17, 16, 15, 8] (.seq (.ops [.i (.bin 15 .lss (.s 14) (.s 13))]) (.seq (.cond (.s 15) .skip (.exit 0)) (.seq (.block 1 (.seq (.ops [.i (.iad 16 (.s 12) (.s 14) 1), .i (.ldh 17 (.s 16) 1 false), .i (.mov 8 (.s 17))]) (.seq (.ops [.i (.mov 18 (.s 5)), .i (.mov 19 (.s 8)), .i (.bin 20 .xor (.s 19) (.c (.val false [.int .u8 54]))), .i (.lsl 21 1 1 [.int .u8 0] [(0, 1, (.s 20))]), .i (.app 22 5 1 1 (.s 18) (.s 21)), .i (.mov 5 (.s 22))]) (.ops [.i (.mov 23 (.s 6)), .i (.mov 24 (.s 8)), .i (.bin 25 .xor (.s 24) (.c (.val false [.int .u8 92]))), .i (.lsl 26 1 1 [.int .u8 0] [(0, 1, (.s 25))]), .i (.app 27 5 1 1 (.s 23) (.s 26)), .i (.mov 6 (.s 27))])))) (.ops [.i (.bin 28 .add (.s 14) (.c (.val false [.int .i64 1]))), .i (.mov 14 (.s 28))]))))))) (.seq (.ops [.i (.mov 29 (.s 6)), .i (.mov 30 (.s 5)), .i (.mov 31 (.s 1)), .i (.app 32 5 1 1 (.s 30) (.s 31)), .i (.call 34 84 false [(.s 32)]), .i (.app 34 5 1 1 (.s 29) (.s 33)), .i (.call 36 84 false [(.s 34)]), .i (.mov 4 (.s 35))]) .ret)))))⟩
theorem k_spec_Mac : cd n_spec_Mac = some c_spec_Mac := by kernel_rfl
theorem spec_Mac_ok (k b : Bytes) (hk : k.length ≤ 1073741824) (hb : b.length ≤ 1073741760) : VC cd n_spec_Mac (mkP [(false, [.sl (bytes k)]), (false, [.sl (bytes b)])]) (fun rs _ => rs = [(false, [.o true (some (5, 1)) (bytes (mac k b))])]) := by
  have h1 := macKey_len k
  have c5 : ((54 : UInt8).toNat) = 54 := rfl
  have c9 : ((92 : UInt8).toNat) = 92 := rfl
  refine VC_enter k_spec_Mac rfl ?_
  simp (disch := omega) [c_spec_Mac, VE, VXR, VP, VB, VTup, kof, bl, it]
  refine VXC_e (spec_MacKey_ok k hk) (by first | rfl | (simp [argsD, argDs, argD, St.slc, lk_cons, lk] <;> first | rfl | exact ⟨rfl, rfl⟩ | exact ⟨rfl, rfl, rfl⟩)) rfl ?_
  simp (disch := omega) [bytes_len, h1, VE, VXR, VP, VB, VTup, kof, bl, it]
  refine VX_loopO (σ := Nat × Nat × Nat) (f1 := _) (es0 := _) (by simp (disch := omega) [VE, VXR, VP, VB, VTup, kof, bl, it]; rfl) (by simp (disch := omega) [VE, VXR, VP, VB, VTup, kof, bl, it]; rfl) (fun p => [(14, .val false [.int .i64 (p.1 : Int)]), (5, .val false [.ow 9 p.2.1]), (6, .val false [.ow 10 p.2.2])]) (fun p => [(9, .sl p.2.1 true true (some (5, 1)) (bytes (masked ((macKey k).take p.1) 54))), (10, .sl p.2.2 true true (some (5, 1)) (bytes (masked ((macKey k).take p.1) 92)))]) (fun p g => g + p.1 = 64) (0, _, _) 64 (by simp (disch := omega) [VE, VXR, VP, VB, VTup, kof, bl, it]; exact ⟨rfl, rfl⟩) (by simp (disch := omega) [masked, bytes_nil, VE, VXR, VP, VB, VTup, kof, bl, it]) (by omega) ?_
  rintro ⟨i, v, w⟩ n g hg P hP
  simp only at hg
  have hl : (masked ((macKey k).take i) 54).length = i := by rw [masked_len, List.length_take]; omega
  have hl2 : (masked ((macKey k).take i) 92).length = i := by rw [masked_len, List.length_take]; omega
  simp (disch := omega) [bytes_len, VE, VXR, VP, VB, VTup, kof, bl, it]
  refine VXB_dec (fun h2 => ?_) (fun h2 => ?_)
  · have hi : i < (macKey k).length := by omega
    have e5 : bytes (masked ((macKey k).take i) 54) ++ [[.int .u8 (((macKey k)[i].toNat ^^^ 54 : Nat) : Int)]] = bytes (masked ((macKey k).take (i + 1)) 54) := by rw [← c5, ← UInt8.toNat_xor, List.take_succ_eq_append_getElem hi]; simp only [masked, bytes, List.map_append, List.map_cons, List.map_nil]
    have e9 : bytes (masked ((macKey k).take i) 92) ++ [[.int .u8 (((macKey k)[i].toNat ^^^ 92 : Nat) : Int)]] = bytes (masked ((macKey k).take (i + 1)) 92) := by rw [← c9, ← UInt8.toNat_xor, List.take_succ_eq_append_getElem hi]; simp only [masked, bytes, List.map_append, List.map_cons, List.map_nil]
    have x5 : bits2 .xor .u8 ((macKey k)[i].toNat : Int) 54 = (((macKey k)[i].toNat ^^^ 54 : Nat) : Int) := by have x := xor8 (macKey k)[i] 54; rw [UInt8.toNat_xor, c5] at x; exact x
    have x9 : bits2 .xor .u8 ((macKey k)[i].toNat : Int) 92 = (((macKey k)[i].toNat ^^^ 92 : Nat) : Int) := by have x := xor8 (macKey k)[i] 92; rw [UInt8.toNat_xor, c9] at x; exact x
    simp (disch := omega) [bytes_get hi, x5, x9, bytes_len, hl, hl2, e5, e9, VE, VXR, VP, VB, VTup, kof, bl, it]
    exact hP (i + 1, _, _) (g - 1) _ _ (by omega) (by simp only; omega) (by simp (disch := omega) [VE, VXR, VP, VB, VTup, kof, bl, it]; exact ⟨rfl, rfl⟩) (by simp (disch := omega) [VE, VXR, VP, VB, VTup, kof, bl, it])
  · have hi : i = 64 := by omega
    subst hi
    have ht : (macKey k).take 64 = macKey k := List.take_of_length_le (by omega)
    simp (disch := omega) [ht, bytes_len, masked_len, h1, ← bytes_app, VE, VXR, VP, VB, VTup, kof, bl, it]
    refine VXC_e (spec_Sha_ok (masked (macKey k) 54 ++ b) (by rw [List.length_append, masked_len]; omega)) (by first | rfl | (simp [← bytes_app, argsD, argDs, argD, St.slc, lk_cons, lk] <;> first | rfl | exact ⟨rfl, rfl⟩ | exact ⟨rfl, rfl, rfl⟩)) rfl ?_
    simp (disch := omega) [bytes_len, masked_len, h1, sha_len, ← bytes_app, VE, VXR, VP, VB, VTup, kof, bl, it]
    refine VXC_e (spec_Sha_ok (masked (macKey k) 92 ++ sha (masked (macKey k) 54 ++ b)) (by rw [List.length_append, masked_len, sha_len]; omega)) (by first | rfl | (simp [← bytes_app, argsD, argDs, argD, St.slc, lk_cons, lk] <;> first | rfl | exact ⟨rfl, rfl⟩ | exact ⟨rfl, rfl, rfl⟩)) rfl ?_
    simp (disch := omega) [mac, VE, VXR, VP, VB, VTup, kof, bl, it]
/-! ### What is signed -/
def allNum (l : List Int) : Bool := l.all isNum
def numsB (l : List Int) : Bytes := (l.map fun n => varB n.toNat).flatten
theorem allNum_of {l : List Int} (h : ∀ x ∈ l.take l.length, isNum x = true) : allNum l = true := by
  rw [List.take_length] at h
  simpa [allNum] using h
theorem allNum_no {l : List Int} {i : Nat} (hi : i < l.length) (h : isNum l[i] = false) : allNum l = false := by
  simp only [allNum, List.all_eq_false]
  exact ⟨l[i], List.getElem_mem hi, by simp [h]⟩
theorem numsB_len : ∀ {l : List Int}, (∀ x ∈ l, isNum x = true) → (numsB l).length ≤ 9 * l.length
  | [], _ => by simp [numsB]
  | a :: l, h => by
    have h1 := numsB_len (l := l) fun x hx => h x (by simp [hx])
    have h2 := varB_nine (n := a.toNat) (by have := inn_t (h a (by simp)); omega)
    simp only [numsB, List.map_cons, List.flatten_cons, List.length_append, List.length_cons] at h1 ⊢
    omega
def numbersE (k : UInt8) (l : List Int) : List (Bool × List E) := if allNum l then [(false, [.o true (some (5, 1)) (bytes (k :: numsB l))])] else [(false, [.p .nils])]
theorem putVarE_t {b : Bytes} {n : Int} (h : isNum n = true) : putVarE b n = [(false, [.o true (some (5, 1)) (bytes (b ++ varB n.toNat))]), (false, [.p (.bool true)])] := by unfold putVarE; rw [if_pos h]
theorem putVarE_f {b : Bytes} {n : Int} (h : isNum n = false) : putVarE b n = [(false, [.p .nils]), (false, [.p (.bool false)])] := by unfold putVarE; rw [if_neg (by simp [h])]
abbrev n_impl_numbers : Nat := 155
def c_impl_numbers : AF := ⟨2, 5, [.tmp 4], (.seq (.ops [.i (.mov 4 (.c (.val false [.nils])))]) (.seq (.ops [.i (.mov 10 (.s 0)), .i (.bsl 11 5 1 1 [.int .u8 0] [(0, 1, (.s 10))]), .i (.mov 5 (.s 11))]) (.seq (.seq (.ops [.i (.mov 12 (.s 1)), .i (.len 13 false (.s 12)), .i (.mov 14 (.c (.val false [.int .i64 0])))]) (.block 0 (.loop [27, 26, 25, 24, 23, 22, 21, 20, 19, 18, 17, 16, 15, 9, 8, 7] (.seq (.ops [.i (.bin 15 .lss (.s 14) (.s 13))]) (.seq (.cond (.s 15) .skip (.exit 0)) (.seq (.block 1 (.seq (.ops [.i (.iad 16 (.s 12) (.s 14) 1), .i (.ldh 17 (.s 16) 1 false), .i (.mov 7 (.s 17))]) (.seq (.ops [.i (.mov 19 (.s 5)), .i (.mov 20 (.s 7)), .i (.call 22 162 false [(.s 19), (.s 20)]), .i (.mov 18 (.s 21)), .i (.ext 22 (.s 18) 0), .i (.ext 23 (.s 18) 1), .i (.mov 8 (.s 22)), .i (.mov 9 (.s 23))]) (.seq (.seq (.ops [.i (.mov 24 (.s 9)), .i (.not 25 (.s 24))]) (.cond (.s 25) (.seq (.ops [.i (.mov 4 (.c (.val false [.nils])))]) .ret) .skip)) (.ops [.i (.mov 26 (.s 8)), .i (.mov 5 (.s 26))]))))) (.ops [.i (.bin 27 .add (.s 14) (.c (.val false [.int .i64 1]))), .i (.mov 14 (.s 27))]))))))) (.seq (.ops [.i (.mov 28 (.s 5)), .i (.mov 4 (.s 28))]) .ret))))⟩
theorem k_impl_numbers : cd n_impl_numbers = some c_impl_numbers := by kernel_rfl
theorem numbers_ok (k : UInt8) (l : List Int) (hl : l.length ≤ 1000) : VC cd n_impl_numbers (mkP [(false, [.int .u8 (k.toNat : Int)]), (false, [.sl (ints l)])]) (fun rs _ => rs = numbersE k l) := by
  have e0 : [[D.int .u8 (k.toNat : Int)]] = bytes (k :: numsB (l.take 0)) := rfl
  refine VC_enter k_impl_numbers rfl ?_
  simp (disch := omega) [c_impl_numbers, ints_len, VE, VXR, VP, VB, VTup, kof, bl, it]
  refine VX_loopP (σ := Nat × Nat × Nat) (f1 := _) (by simp (disch := omega) [VE, VXR, VP, VB, VTup, kof, bl, it]; rfl) (fun p => [(14, .val false [.int .i64 (p.1 : Int)]), (5, .val false [.ow p.2.1 p.2.2])]) (fun p => [(p.2.1, .sl p.2.2 true true (some (5, 1)) (bytes (k :: numsB (l.take p.1))))]) (fun p g => g + p.1 = l.length ∧ (p.2.1 = 11 ∨ p.2.1 = 188416) ∧ ∀ x ∈ l.take p.1, isNum x = true) (0, 11, _) l.length (by simp (disch := omega) [VE, VXR, VP, VB, VTup, kof, bl, it]; rfl) (by simp (disch := omega) [e0, VE, VXR, VP, VB, VTup, kof, bl, it]) ⟨by omega, .inl rfl, by simp⟩ ?_
  rintro ⟨i, key, v⟩ n g ⟨hg, hk, hd⟩ P hP
  simp only at hg hk hd
  have hn := numsB_len hd
  have hl2 : (l.take i).length ≤ l.length := by rw [List.length_take]; omega
  rcases hk with rfl | rfl
  all_goals
    simp (disch := omega) [VE, VXR, VP, VB, VTup, kof, bl, it]
    refine VXB_dec (fun h1 => ?_) (fun h1 => ?_)
    · have hi : i < l.length := by omega
      have hgi : gi l i = l[i] := by simp [gi, hi]
      simp (disch := omega) [ints_get hi, hgi, VE, VXR, VP, VB, VTup, kof, bl, it]
      cases h2 : isNum l[i] with
      | true =>
        have e1 : k :: (numsB (l.take i) ++ varB l[i].toNat) = k :: numsB (l.take (i + 1)) := by rw [List.take_succ_eq_append_getElem hi]; simp only [numsB, List.map_append, List.map_cons, List.map_nil, List.flatten_append, List.flatten_cons, List.flatten_nil, List.append_nil]
        refine VXC_e ((impl_PutVar_ok (k :: numsB (l.take i)) l[i] (by rw [List.length_cons]; omega)).re (putVarE_t h2)) (by first | rfl | (simp [argsD, argDs, argD, St.slc, lk_cons, lk] <;> first | rfl | exact ⟨rfl, rfl⟩ | exact ⟨rfl, rfl, rfl⟩)) rfl ?_
        simp (disch := omega) [List.cons_append, e1, VE, VXR, VP, VB, VTup, kof, bl, it]
        exact hP (i + 1, 188416, _) (g - 1) _ _ (by omega) ⟨by simp only; omega, .inr rfl, take_all hd hi h2⟩ (by simp (disch := omega) [VE, VXR, VP, VB, VTup, kof, bl, it]; rfl) (by simp (disch := omega) [VE, VXR, VP, VB, VTup, kof, bl, it])
      | false =>
        refine VXC_e ((impl_PutVar_ok (k :: numsB (l.take i)) l[i] (by rw [List.length_cons]; omega)).re (putVarE_f h2)) (by first | rfl | (simp [argsD, argDs, argD, St.slc, lk_cons, lk] <;> first | rfl | exact ⟨rfl, rfl⟩ | exact ⟨rfl, rfl, rfl⟩)) rfl ?_
        simp (disch := omega) [numbersE, allNum_no hi h2, VE, VXR, VP, VB, VTup, kof, bl, it]
    · have hi : i = l.length := by omega
      subst hi
      simp (disch := omega) [numbersE, allNum_of hd, List.take_length, VE, VXR, VP, VB, VTup, kof, bl, it]
def voteOk (v h : Int) (b : Bytes) : Bool := isNum v && isNum h && hash b
def voteB (v h : Int) (b : Bytes) : Bytes := 86 :: (varB v.toNat ++ (varB h.toNat ++ b))
def voteBE (v h : Int) (b : Bytes) : List (Bool × List E) := if voteOk v h b then [(false, [.o true (some (5, 1)) (bytes (voteB v h b))])] else [(false, [.p .nils])]
theorem voteBE_t {v h : Int} {b : Bytes} (e : voteOk v h b = true) : voteBE v h b = [(false, [.o true (some (5, 1)) (bytes (voteB v h b))])] := by unfold voteBE; rw [if_pos e]
theorem voteBE_f {v h : Int} {b : Bytes} (e : voteOk v h b = false) : voteBE v h b = [(false, [.p .nils])] := by unfold voteBE; rw [if_neg (by simp [e])]
theorem hash_len {b : Bytes} (h : hash b = true) : b.length = 32 := by simpa [hash] using h
theorem voteB_len {v h : Int} {b : Bytes} (e : voteOk v h b = true) : (voteB v h b).length ≤ 51 := by
  simp only [voteOk, Bool.and_eq_true] at e
  have h1 := varB_nine (n := v.toNat) (by have := inn_t e.1.1; omega)
  have h2 := varB_nine (n := h.toNat) (by have := inn_t e.1.2; omega)
  have h3 := hash_len e.2
  simp only [voteB, List.length_cons, List.length_append]
  omega
theorem numbersE_t {k : UInt8} {l : List Int} (h : allNum l = true) : numbersE k l = [(false, [.o true (some (5, 1)) (bytes (k :: numsB l))])] := by unfold numbersE; rw [if_pos h]
theorem numbersE_f {k : UInt8} {l : List Int} (h : allNum l = false) : numbersE k l = [(false, [.p .nils])] := by unfold numbersE; rw [if_neg (by simp [h])]
theorem bytes_ne (a : UInt8) (l : Bytes) : (bytes (a :: l) = []) = False := by simp [bytes]
abbrev n_impl_VoteBytes : Nat := 137
def c_impl_VoteBytes : AF := ⟨3, 5, [.tmp 6], (.seq (.ops [.i (.mov 6 (.c (.val false [.nils])))]) (.seq (.ops [.i (.mov 8 (.s 0)), .i (.mov 9 (.s 1)), .i (.bsl 10 3 1 2 [.int .i64 0] [(0, 1, (.s 8)), (1, 1, (.s 9))]), .i (.call 12 155 false [(.c (.val false [.int .u8 86])), (.s 10)]), .i (.mov 7 (.s 11))]) (.seq (.seq (.ops [.i (.mov 12 (.s 7)), .i (.snil 13 false (.s 12)), .i (.mov 14 (.s 13)), .g 14 false 16 (.mov 15 (.s 2)), .g 14 false 17 (.bsl 16 27 1 1 [.nils] [(0, 1, (.s 15))]), .g 14 false 18 (.call 18 113 false [(.s 16)]), .g 14 false 19 (.not 18 (.s 17)), .i (.pick 19 (.s 14) (.c (.val false [.bool true])) (.s 18))]) (.cond (.s 19) (.seq (.ops [.i (.mov 6 (.c (.val false [.nils])))]) .ret) .skip)) (.seq (.ops [.i (.mov 20 (.s 7)), .i (.mov 21 (.s 2)), .i (.app 22 5 1 1 (.s 20) (.s 21)), .i (.mov 6 (.s 22))]) .ret))))⟩
theorem k_impl_VoteBytes : cd n_impl_VoteBytes = some c_impl_VoteBytes := by kernel_rfl
theorem impl_VoteBytes_ok (v h : Int) (b : Bytes) : VC cd n_impl_VoteBytes (mkP [(false, [.int .i64 v]), (false, [.int .i64 h]), (false, [.sl (bytes b)])]) (fun rs _ => rs = voteBE v h b) := by
  have e0 : ((86 : UInt8).toNat : Int) = 86 := rfl
  refine VC_enter k_impl_VoteBytes rfl ?_
  simp (disch := omega) [c_impl_VoteBytes, VE, VXR, VP, VB, VTup, kof, bl, it]
  cases h1 : allNum [v, h] with
  | false =>
    have h2 : (isNum v && isNum h) = false := by simpa [allNum] using h1
    refine VXC_e ((numbers_ok 86 [v, h] (by simp)).re (numbersE_f h1)) (by first | rfl | (simp [ints, e0, argsD, argDs, argD, St.slc, lk_cons, lk] <;> first | rfl | exact ⟨rfl, rfl⟩ | exact ⟨rfl, rfl, rfl⟩)) rfl ?_
    simp (disch := omega) [voteBE, voteOk, h2, VE, VXR, VP, VB, VTup, kof, bl, it]
  | true =>
    have h2 : isNum v = true ∧ isNum h = true := by simpa [allNum] using h1
    have h3 : (numsB [v, h]).length ≤ 18 := by simpa using numsB_len (l := [v, h]) (by simpa [allNum] using h1)
    refine VXC_e ((numbers_ok 86 [v, h] (by simp)).re (numbersE_t h1)) (by first | rfl | (simp [ints, e0, argsD, argDs, argD, St.slc, lk_cons, lk] <;> first | rfl | exact ⟨rfl, rfl⟩ | exact ⟨rfl, rfl, rfl⟩)) rfl ?_
    simp (disch := omega) [bytes_ne, VE, VXR, VP, VB, VTup, kof, bl, it]
    refine VXC_e (areHashes_ok [b] (by simp)) (by first | rfl | (simp [bss, argsD, argDs, argD, St.slc, lk_cons, lk] <;> first | rfl | exact ⟨rfl, rfl⟩ | exact ⟨rfl, rfl, rfl⟩)) rfl ?_
    simp (disch := omega) [hashes_one, bytes_ne, VE, VXR, VP, VB, VTup, kof, bl, it]
    refine VXB_b (fun h4 => ?_) (fun h4 => ?_)
    · have h5 := hash_len h4
      simp (disch := omega) [h4, bytes_ne, bytes_len, h5, voteBE, voteOk, h2.1, h2.2, VE, VXR, VP, VB, VTup, kof, bl, it]
      rw [bytes_app]
      simp [voteB, numsB]
    · simp (disch := omega) [h4, voteBE, voteOk, bytes_ne, VE, VXR, VP, VB, VTup, kof, bl, it]
abbrev n_spec_VoteBytes : Nat := 127
def c_spec_VoteBytes : AF := ⟨3, 5, [.tmp 6], (.seq (.ops [.i (.mov 6 (.c (.val false [.nils])))]) (.seq (.seq (.ops [.i (.mov 7 (.s 0)), .i (.call 9 107 false [(.s 7)]), .i (.not 9 (.s 8)), .i (.mov 10 (.s 9)), .g 10 false 12 (.mov 11 (.s 1)), .g 10 false 13 (.call 13 107 false [(.s 11)]), .g 10 false 14 (.not 13 (.s 12)), .i (.pick 14 (.s 10) (.c (.val false [.bool true])) (.s 13)), .i (.mov 15 (.s 14)), .g 15 false 17 (.mov 16 (.s 2)), .g 15 false 18 (.call 18 109 false [(.s 16)]), .g 15 false 19 (.not 18 (.s 17)), .i (.pick 19 (.s 15) (.c (.val false [.bool true])) (.s 18))]) (.cond (.s 19) (.seq (.ops [.i (.mov 6 (.c (.val false [.nils])))]) .ret) .skip)) (.seq (.ops [.i (.bsl 20 5 1 1 [.int .u8 0] [(0, 1, (.c (.val false [.int .u8 86])))]), .i (.mov 21 (.s 0)), .i (.call 23 119 false [(.s 20), (.s 21)]), .i (.mov 23 (.s 1)), .i (.call 25 119 false [(.s 22), (.s 23)]), .i (.mov 25 (.s 2)), .i (.app 26 5 1 1 (.s 24) (.s 25)), .i (.mov 6 (.s 26))]) .ret)))⟩
theorem k_spec_VoteBytes : cd n_spec_VoteBytes = some c_spec_VoteBytes := by kernel_rfl
theorem spec_VoteBytes_ok (v h : Int) (b : Bytes) : VC cd n_spec_VoteBytes (mkP [(false, [.int .i64 v]), (false, [.int .i64 h]), (false, [.sl (bytes b)])]) (fun rs _ => rs = voteBE v h b) := by
  have e0 : [[D.int .u8 86]] = bytes [86] := rfl
  refine VC_enter k_spec_VoteBytes rfl ?_
  simp (disch := omega) [c_spec_VoteBytes, VE, VXR, VP, VB, VTup, kof, bl, it]
  refine VXC_e (l01Num_ok v) (by first | rfl | (simp [argsD, argDs, argD, St.slc, lk_cons, lk] <;> first | rfl | exact ⟨rfl, rfl⟩ | exact ⟨rfl, rfl, rfl⟩)) rfl ?_
  simp (disch := omega) [VE, VXR, VP, VB, VTup, kof, bl, it]
  refine VXB_b (fun h1 => ?_) (fun h1 => ?_) <;> simp (disch := omega) [h1, voteBE, voteOk, VE, VXR, VP, VB, VTup, kof, bl, it]
  refine VXC_e (l01Num_ok h) (by first | rfl | (simp [argsD, argDs, argD, St.slc, lk_cons, lk] <;> first | rfl | exact ⟨rfl, rfl⟩ | exact ⟨rfl, rfl, rfl⟩)) rfl ?_
  simp (disch := omega) [h1, VE, VXR, VP, VB, VTup, kof, bl, it]
  refine VXB_b (fun h2 => ?_) (fun h2 => ?_) <;> simp (disch := omega) [h1, h2, VE, VXR, VP, VB, VTup, kof, bl, it]
  refine VXC_e (l07Hash_ok b) (by first | rfl | (simp [argsD, argDs, argD, St.slc, lk_cons, lk] <;> first | rfl | exact ⟨rfl, rfl⟩ | exact ⟨rfl, rfl, rfl⟩)) rfl ?_
  simp (disch := omega) [h1, h2, VE, VXR, VP, VB, VTup, kof, bl, it]
  refine VXB_b (fun h3 => ?_) (fun h3 => ?_) <;> simp (disch := omega) [h1, h2, h3, VE, VXR, VP, VB, VTup, kof, bl, it]
  have h4 := varB_nine (n := v.toNat) (by have := inn_t h1; omega)
  have h5 := varB_nine (n := h.toNat) (by have := inn_t h2; omega)
  have h6 := hash_len h3
  refine VXC_e (l11Num_ok [86] v h1 (by simp)) (by first | rfl | (simp [e0, argsD, argDs, argD, St.slc, lk_cons, lk] <;> first | rfl | exact ⟨rfl, rfl⟩ | exact ⟨rfl, rfl, rfl⟩)) rfl ?_
  simp (disch := omega) [h1, h2, h3, VE, VXR, VP, VB, VTup, kof, bl, it]
  refine VXC_e (l11Num_ok ([86] ++ varB v.toNat) h h2 (by simp; omega)) (by first | rfl | (simp [argsD, argDs, argD, St.slc, lk_cons, lk] <;> first | rfl | exact ⟨rfl, rfl⟩ | exact ⟨rfl, rfl, rfl⟩)) rfl ?_
  simp (disch := omega) [h1, h2, h3, VE, VXR, VP, VB, VTup, kof, bl, it]
  rw [bytes_app]
  simp [voteB]
/-! ### Votes -/
def keyAt (t : Table) (i : Nat) : Bytes := match t.rows[i]? with
  | some r => r.key
  | none => []
theorem keyAt_get {t : Table} {i : Nat} (h : i < t.rows.length) : keyAt t i = t.rows[i].key := by simp [keyAt, h]
def voteTag (t : Table) (v h : Int) (b : Bytes) (w : Int) : Bytes := mac (keyAt t w.toNat) (voteB v h b)
def signOk (t : Table) (v h : Int) (b : Bytes) (w : Int) : Bool := tableOk t && voteOk v h b && inn w 0 ((t.rows.length : Int) - 1)
def signE (t : Table) (v h : Int) (b : Bytes) (w : Int) : List (Bool × List E) :=
  if signOk t v h b w then [(true, [.p (.int .i64 v), .p (.int .i64 h), .o true (some (5, 1)) (bytes b), .p (.int .i64 w), .o true (some (5, 1)) (bytes (voteTag t v h b w))]), (false, [.p (.bool true)])]
  else [(true, [.p (.int .i64 0), .p (.int .i64 0), .p .nils, .p (.int .i64 0), .p .nils]), (false, [.p (.bool false)])]
theorem inn_of {n a b : Int} (h : inn n a b = true) : a ≤ n ∧ n ≤ b := by simpa [inn] using h
abbrev n_impl_SignVote : Nat := 96
def c_impl_SignVote : AF := ⟨5, 6, [.cell 10 5 true, .tmp 11], (.seq (.ops [.i (.lbox 5 (.s 0)), .i (.lal 10 [.int .i64 0, .int .i64 0, .nils, .int .i64 0, .nils]), .i (.mov 11 (.c (.val false [.bool false])))]) (.seq (.ops [.i (.mov 13 (.s 1)), .i (.mov 14 (.s 2)), .i (.mov 15 (.s 3)), .i (.call 17 137 false [(.s 13), (.s 14), (.s 15)]), .i (.mov 12 (.s 16))]) (.seq (.seq (.ops [.i (.ldl 17 5 (.s 5) 1 true), .i (.call 19 116 false [(.s 17)]), .i (.not 19 (.s 18)), .i (.mov 20 (.s 19)), .g 20 false 22 (.mov 21 (.s 12)), .g 20 false 23 (.snil 22 false (.s 21)), .i (.pick 23 (.s 20) (.c (.val false [.bool true])) (.s 22)), .i (.mov 24 (.s 23)), .g 24 false 26 (.mov 25 (.s 4)), .g 24 false 27 (.fad 26 (.s 5) 0), .g 24 false 28 (.ldl 27 5 (.s 26) 1 false), .g 24 false 29 (.len 28 false (.s 27)), .g 24 false 30 (.bin 29 .sub (.s 28) (.c (.val false [.int .i64 1]))), .g 24 false 31 (.call 31 103 false [(.s 25), (.c (.val false [.int .i64 0])), (.s 29)]), .g 24 false 32 (.not 31 (.s 30)), .i (.pick 32 (.s 24) (.c (.val false [.bool true])) (.s 31))]) (.cond (.s 32) (.seq (.ops [.i (.bld 33 [.int .i64 0, .int .i64 0, .nils, .int .i64 0, .nils] []), .i (.stl 10 (.s 10) (.s 33) 5), .i (.mov 11 (.c (.val false [.bool false])))]) .ret) .skip)) (.seq (.ops [.i (.mov 34 (.s 1)), .i (.mov 35 (.s 2)), .i (.mov 36 (.s 3)), .i (.call 38 61 true [(.s 36)]), .i (.mov 38 (.s 4)), .i (.fad 39 (.s 5) 0), .i (.ldl 40 5 (.s 39) 1 false), .i (.mov 41 (.s 4)), .i (.iad 42 (.s 40) (.s 41) 2), .i (.fad 43 (.s 42) 1), .i (.ldh 44 (.s 43) 1 false), .i (.mov 45 (.s 12)), .i (.call 47 138 true [(.s 44), (.s 45)]), .i (.bld 47 [.int .i64 0, .int .i64 0, .nils, .int .i64 0, .nils] [(0, 1, (.s 34)), (1, 1, (.s 35)), (2, 1, (.s 37)), (3, 1, (.s 38)), (4, 1, (.s 46))]), .i (.stl 10 (.s 10) (.s 47) 5), .i (.mov 11 (.c (.val false [.bool true])))]) .ret))))⟩
theorem k_impl_SignVote : cd n_impl_SignVote = some c_impl_SignVote := by kernel_rfl
theorem impl_SignVote_ok (t : Table) (v h : Int) (b : Bytes) (w : Int) (ht : t.wf) (hb : Sz b.length) : VC cd n_impl_SignVote (mkP [(true, t.c), (false, [.int .i64 v]), (false, [.int .i64 h]), (false, [.sl (bytes b)]), (false, [.int .i64 w])]) (fun rs _ => rs = signE t v h b w) := by
  have w1 := ht.1
  simp only [Sz] at hb w1
  refine VC_enter k_impl_SignVote rfl ?_
  simp (disch := omega) [c_impl_SignVote, Table.c, VE, VXR, VP, VB, VTup, kof, bl, it]
  cases h1 : voteOk v h b with
  | false =>
    refine VXC_e ((impl_VoteBytes_ok v h b).re (voteBE_f h1)) (by first | rfl | (simp [argsD, argDs, argD, St.slc, lk_cons, lk] <;> first | rfl | exact ⟨rfl, rfl⟩ | exact ⟨rfl, rfl, rfl⟩)) rfl ?_
    simp (disch := omega) [VE, VXR, VP, VB, VTup, kof, bl, it]
    refine VXC_e (impl_TableOk_ok t ht) (by first | rfl | (simp [Table.c, argsD, argDs, argD, St.slc, lk_cons, lk] <;> first | rfl | exact ⟨rfl, rfl⟩ | exact ⟨rfl, rfl, rfl⟩)) rfl ?_
    simp (disch := omega) [VE, VXR, VP, VB, VTup, kof, bl, it]
    refine VXB_b (fun h2 => ?_) (fun h2 => ?_) <;> simp (disch := omega) [h2, signE, signOk, h1, VE, VXR, VP, VB, VTup, kof, bl, it]
  | true =>
    have h9 := voteB_len h1
    refine VXC_e ((impl_VoteBytes_ok v h b).re (voteBE_t h1)) (by first | rfl | (simp [argsD, argDs, argD, St.slc, lk_cons, lk] <;> first | rfl | exact ⟨rfl, rfl⟩ | exact ⟨rfl, rfl, rfl⟩)) rfl ?_
    simp (disch := omega) [VE, VXR, VP, VB, VTup, kof, bl, it]
    refine VXC_e (impl_TableOk_ok t ht) (by first | rfl | (simp [Table.c, argsD, argDs, argD, St.slc, lk_cons, lk] <;> first | rfl | exact ⟨rfl, rfl⟩ | exact ⟨rfl, rfl, rfl⟩)) rfl ?_
    simp (disch := omega) [VE, VXR, VP, VB, VTup, kof, bl, it]
    refine VXB_b (fun h2 => ?_) (fun h2 => ?_)
    case refine_2 => simp (disch := omega) [h2, signE, signOk, h1, VE, VXR, VP, VB, VTup, kof, bl, it]
    simp (disch := omega) [h2, rws_len, bytes_ne, voteB, VE, VXR, VP, VB, VTup, kof, bl, it]
    refine VXC_e (within_ok w 0 ((t.rows.length : Int) - 1)) (by first | rfl | (simp [argsD, argDs, argD, St.slc, lk_cons, lk] <;> first | rfl | exact ⟨rfl, rfl⟩ | exact ⟨rfl, rfl, rfl⟩)) rfl ?_
    simp (disch := omega) [h2, VE, VXR, VP, VB, VTup, kof, bl, it]
    refine VXB_b (fun h3 => ?_) (fun h3 => ?_)
    case refine_2 => simp (disch := omega) [h2, h3, signE, signOk, h1, VE, VXR, VP, VB, VTup, kof, bl, it]
    obtain ⟨hw1, hw2⟩ := inn_of h3
    obtain ⟨i, rfl⟩ : ∃ i : Nat, w = (i : Int) := ⟨w.toNat, by omega⟩
    have hi : i < t.rows.length := by omega
    have w3 := (ht.2 _ (List.getElem_mem hi)).2
    simp only [Sz] at w3
    simp (disch := omega) [h2, h3, VE, VXR, VP, VB, VTup, kof, bl, it]
    refine VXC_e (copyBytes_ok b (by omega)) (by first | rfl | (simp [argsD, argDs, argD, St.slc, lk_cons, lk] <;> first | rfl | exact ⟨rfl, rfl⟩ | exact ⟨rfl, rfl, rfl⟩)) rfl ?_
    simp (disch := omega) [h2, h3, rws_len, rws_get hi, VE, VXR, VP, VB, VTup, kof, bl, it]
    refine VXC_e (impl_Mac_ok t.rows[i].key (voteB v h b) (by omega) (by omega)) (by first | rfl | (simp [voteB, argsD, argDs, argD, St.slc, lk_cons, lk] <;> first | rfl | exact ⟨rfl, rfl⟩ | exact ⟨rfl, rfl, rfl⟩)) rfl ?_
    simp (disch := omega) [h2, h3, signE, signOk, h1, voteTag, keyAt_get hi, VE, VXR, VP, VB, VTup, kof, bl, it]
abbrev n_spec_SignVote : Nat := 87
def c_spec_SignVote : AF := ⟨5, 6, [.cell 10 5 true, .tmp 11], (.seq (.ops [.i (.lbox 5 (.s 0)), .i (.lal 10 [.int .i64 0, .int .i64 0, .nils, .int .i64 0, .nils]), .i (.mov 11 (.c (.val false [.bool false])))]) (.seq (.ops [.i (.mov 13 (.s 1)), .i (.mov 14 (.s 2)), .i (.mov 15 (.s 3)), .i (.call 17 127 false [(.s 13), (.s 14), (.s 15)]), .i (.mov 12 (.s 16))]) (.seq (.seq (.ops [.i (.ldl 17 5 (.s 5) 1 true), .i (.call 19 106 false [(.s 17)]), .i (.not 19 (.s 18)), .i (.mov 20 (.s 19)), .g 20 false 22 (.mov 21 (.s 12)), .g 20 false 23 (.len 22 false (.s 21)), .g 20 false 24 (.bin 23 .eql (.s 22) (.c (.val false [.int .i64 0]))), .i (.pick 24 (.s 20) (.c (.val false [.bool true])) (.s 23)), .i (.mov 25 (.s 24)), .g 25 false 27 (.mov 26 (.s 4)), .g 25 false 28 (.fad 27 (.s 5) 0), .g 25 false 29 (.ldl 28 5 (.s 27) 1 false), .g 25 false 30 (.len 29 false (.s 28)), .g 25 false 31 (.bin 30 .sub (.s 29) (.c (.val false [.int .i64 1]))), .g 25 false 32 (.call 32 101 false [(.s 26), (.c (.val false [.int .i64 0])), (.s 30)]), .g 25 false 33 (.not 32 (.s 31)), .i (.pick 33 (.s 25) (.c (.val false [.bool true])) (.s 32))]) (.cond (.s 33) (.seq (.ops [.i (.bld 34 [.int .i64 0, .int .i64 0, .nils, .int .i64 0, .nils] []), .i (.stl 10 (.s 10) (.s 34) 5), .i (.mov 11 (.c (.val false [.bool false])))]) .ret) .skip)) (.seq (.ops [.i (.mov 35 (.s 1)), .i (.mov 36 (.s 2)), .i (.mov 37 (.s 3)), .i (.call 39 54 true [(.s 37)]), .i (.mov 39 (.s 4)), .i (.fad 40 (.s 5) 0), .i (.ldl 41 5 (.s 40) 1 false), .i (.mov 42 (.s 4)), .i (.iad 43 (.s 41) (.s 42) 2), .i (.fad 44 (.s 43) 1), .i (.ldh 45 (.s 44) 1 false), .i (.mov 46 (.s 12)), .i (.call 48 128 true [(.s 45), (.s 46)]), .i (.bld 48 [.int .i64 0, .int .i64 0, .nils, .int .i64 0, .nils] [(0, 1, (.s 35)), (1, 1, (.s 36)), (2, 1, (.s 38)), (3, 1, (.s 39)), (4, 1, (.s 47))]), .i (.stl 10 (.s 10) (.s 48) 5), .i (.mov 11 (.c (.val false [.bool true])))]) .ret))))⟩
theorem k_spec_SignVote : cd n_spec_SignVote = some c_spec_SignVote := by kernel_rfl
theorem spec_SignVote_ok (t : Table) (v h : Int) (b : Bytes) (w : Int) (ht : t.wf) (hb : Sz b.length) : VC cd n_spec_SignVote (mkP [(true, t.c), (false, [.int .i64 v]), (false, [.int .i64 h]), (false, [.sl (bytes b)]), (false, [.int .i64 w])]) (fun rs _ => rs = signE t v h b w) := by
  have w1 := ht.1
  simp only [Sz] at hb w1
  refine VC_enter k_spec_SignVote rfl ?_
  simp (disch := omega) [c_spec_SignVote, Table.c, VE, VXR, VP, VB, VTup, kof, bl, it]
  cases h1 : voteOk v h b with
  | false =>
    refine VXC_e ((spec_VoteBytes_ok v h b).re (voteBE_f h1)) (by first | rfl | (simp [argsD, argDs, argD, St.slc, lk_cons, lk] <;> first | rfl | exact ⟨rfl, rfl⟩ | exact ⟨rfl, rfl, rfl⟩)) rfl ?_
    simp (disch := omega) [VE, VXR, VP, VB, VTup, kof, bl, it]
    refine VXC_e (spec_TableOk_ok t ht) (by first | rfl | (simp [Table.c, argsD, argDs, argD, St.slc, lk_cons, lk] <;> first | rfl | exact ⟨rfl, rfl⟩ | exact ⟨rfl, rfl, rfl⟩)) rfl ?_
    simp (disch := omega) [VE, VXR, VP, VB, VTup, kof, bl, it]
    refine VXB_b (fun h2 => ?_) (fun h2 => ?_) <;> simp (disch := omega) [h2, signE, signOk, h1, VE, VXR, VP, VB, VTup, kof, bl, it]
  | true =>
    have h9 := voteB_len h1
    have h8 : 0 < (voteB v h b).length := by simp [voteB]
    refine VXC_e ((spec_VoteBytes_ok v h b).re (voteBE_t h1)) (by first | rfl | (simp [argsD, argDs, argD, St.slc, lk_cons, lk] <;> first | rfl | exact ⟨rfl, rfl⟩ | exact ⟨rfl, rfl, rfl⟩)) rfl ?_
    simp (disch := omega) [VE, VXR, VP, VB, VTup, kof, bl, it]
    refine VXC_e (spec_TableOk_ok t ht) (by first | rfl | (simp [Table.c, argsD, argDs, argD, St.slc, lk_cons, lk] <;> first | rfl | exact ⟨rfl, rfl⟩ | exact ⟨rfl, rfl, rfl⟩)) rfl ?_
    simp (disch := omega) [VE, VXR, VP, VB, VTup, kof, bl, it]
    refine VXB_b (fun h2 => ?_) (fun h2 => ?_)
    case refine_2 => simp (disch := omega) [h2, signE, signOk, h1, VE, VXR, VP, VB, VTup, kof, bl, it]
    simp (disch := omega) [h2, rws_len, bytes_len, VE, VXR, VP, VB, VTup, kof, bl, it]
    refine VXB_dec (fun h7 => ?_) (fun h7 => ?_)
    case refine_1 => exact absurd h7 (by simp [voteB])
    simp (disch := omega) [h2, h7, rws_len, bytes_len, VE, VXR, VP, VB, VTup, kof, bl, it]
    refine VXC_e (l01In_ok w 0 ((t.rows.length : Int) - 1)) (by first | rfl | (simp [argsD, argDs, argD, St.slc, lk_cons, lk] <;> first | rfl | exact ⟨rfl, rfl⟩ | exact ⟨rfl, rfl, rfl⟩)) rfl ?_
    simp (disch := omega) [h2, VE, VXR, VP, VB, VTup, kof, bl, it]
    refine VXB_b (fun h3 => ?_) (fun h3 => ?_)
    case refine_2 => simp (disch := omega) [h2, h3, h7, signE, signOk, h1, VE, VXR, VP, VB, VTup, kof, bl, it]
    obtain ⟨hw1, hw2⟩ := inn_of h3
    obtain ⟨i, rfl⟩ : ∃ i : Nat, w = (i : Int) := ⟨w.toNat, by omega⟩
    have hi : i < t.rows.length := by omega
    have w3 := (ht.2 _ (List.getElem_mem hi)).2
    simp only [Sz] at w3
    simp (disch := omega) [h2, h3, h7, VE, VXR, VP, VB, VTup, kof, bl, it]
    refine VXC_e (l01Copy_ok b (by omega)) (by first | rfl | (simp [argsD, argDs, argD, St.slc, lk_cons, lk] <;> first | rfl | exact ⟨rfl, rfl⟩ | exact ⟨rfl, rfl, rfl⟩)) rfl ?_
    simp (disch := omega) [h2, h3, h7, rws_len, rws_get hi, VE, VXR, VP, VB, VTup, kof, bl, it]
    refine VXC_e (spec_Mac_ok t.rows[i].key (voteB v h b) (by omega) (by omega)) (by first | rfl | (simp [argsD, argDs, argD, St.slc, lk_cons, lk] <;> first | rfl | exact ⟨rfl, rfl⟩ | exact ⟨rfl, rfl, rfl⟩)) rfl ?_
    simp (disch := omega) [h2, h3, h7, signE, signOk, h1, voteTag, keyAt_get hi, VE, VXR, VP, VB, VTup, kof, bl, it]
end Go.Eng.F
/-
  Functions: what a light client knows.
-/
set_option maxRecDepth 100000
set_option linter.unusedSimpArgs false
set_option linter.unusedVariables false
namespace Go.Eng.F
open Go.Eng.U (TQc THead TLimits TTable TPush TLight)
end Go.Eng.F
/-
  Functions: certificates, heads and proofs that are built.
-/
set_option maxRecDepth 100000
set_option linter.unusedSimpArgs false
set_option linter.unusedVariables false
namespace Go.Eng.F
open Go.Eng.U (TQc THead TLimits TTable TProof)
theorem VX_loop4P {cd : Nat → Option AF} {pd : List (Nat × Nat)} {R : List RV} {Q : List (Bool × List E) → List E → Prop} {k : List VK} {f : UT} {st : St} {ds : List Nat} {b : AC} {σ : Type} (f0 : UT) (hf : forgetU f ds = f0) {f2 : UT} {st2 : St} (hw : Weak f0 st f2 st2) (f1 : UT) (es0 : List (Nat × En)) (h2 : f2 = f1) (he : cln st2.es = es0)
    (upd : σ → List (Nat × U)) (ue : σ → List (Nat × En)) (J : σ → Nat → Prop) (s0 : σ) (g0 : Nat) (hu : f1 = setAllU f1 (upd s0)) (hs : subS st2 (ovr es0 (ue s0))) (h0 : J s0 g0)
    (round : ∀ s n g, J s g → ∀ P : UT → St → Prop, (∀ (s' : σ) (g' : Nat) (f' : UT) (st' : St), g' < g → J s' g' → forgetU f' ds = setAllU f1 (upd s') → subS st' (ovr es0 (ue s')) → P f' st') → VX cd pd R Q (.c b :: .stop P :: k) (setAllU f1 (upd s)) ⟨n, ovr es0 (ue s)⟩) :
    VX cd pd R Q (.c (.loop ds b) :: k) f st :=
  VX_loop4 f0 hf hw f1 es0 h2 he upd ue J s0 g0 hu hs h0 fun s n g h => round s n g h _ fun s' g' f' st' a b c d => ⟨s', g', a, b, c, d⟩
def tagOf (t : Table) (v h : Int) (b : Bytes) (w : Int) : Bytes := if voteOk v h b then voteTag t v h b w else []
def tagsOf (t : Table) (v h : Int) (b : Bytes) (l : List Nat) : List Bytes := l.map fun (i : Nat) => tagOf t v h b i
theorem tagsOf_len (t : Table) (v h : Int) (b : Bytes) (l : List Nat) : (tagsOf t v h b l).length = l.length := by simp [tagsOf]
theorem tagsOf_nil (t : Table) (v h : Int) (b : Bytes) : tagsOf t v h b [] = [] := rfl
def buildQ (t : Table) (v h : Int) (b bits : Bytes) : Qc := ⟨v, h, b, bits, tagsOf t v h b (bitsList bits)⟩
def buildOk (l : Lim) (t : Table) (v h : Int) (b bits : Bytes) : Bool := belongs l t && bitsOk bits l.n && qcOk l (buildQ t v h b bits)
def buildE (l : Lim) (t : Table) (v h : Int) (b bits : Bytes) : List (Bool × List E) :=
  if buildOk l t v h b bits then [(true, [.p (.int .i64 v), .p (.int .i64 h), .o true (some (5, 1)) (bytes b), .o true (some (5, 1)) (bytes bits), .o true (some (27, 1)) (bss (buildQ t v h b bits).tags)]), (false, [.p (.bool true)])]
  else [(true, [.p (.int .i64 0), .p (.int .i64 0), .p .nils, .p .nils, .p .nils]), (false, [.p (.bool false)])]
theorem buildE_t {l : Lim} {t : Table} {v h : Int} {b bits : Bytes} (e : buildOk l t v h b bits = true) : buildE l t v h b bits = [(true, [.p (.int .i64 v), .p (.int .i64 h), .o true (some (5, 1)) (bytes b), .o true (some (5, 1)) (bytes bits), .o true (some (27, 1)) (bss (buildQ t v h b bits).tags)]), (false, [.p (.bool true)])] := by unfold buildE; rw [if_pos e]
theorem buildE_f {l : Lim} {t : Table} {v h : Int} {b bits : Bytes} (e : buildOk l t v h b bits = false) : buildE l t v h b bits = [(true, [.p (.int .i64 0), .p (.int .i64 0), .p .nils, .p .nils, .p .nils]), (false, [.p (.bool false)])] := by unfold buildE; rw [if_neg (by simp [e])]
theorem signE_t {t : Table} {v h : Int} {b : Bytes} {w : Int} (e : signOk t v h b w = true) : signE t v h b w = [(true, [.p (.int .i64 v), .p (.int .i64 h), .o true (some (5, 1)) (bytes b), .p (.int .i64 w), .o true (some (5, 1)) (bytes (voteTag t v h b w))]), (false, [.p (.bool true)])] := by unfold signE; rw [if_pos e]
theorem signE_f {t : Table} {v h : Int} {b : Bytes} {w : Int} (e : signOk t v h b w = false) : signE t v h b w = [(true, [.p (.int .i64 0), .p (.int .i64 0), .p .nils, .p (.int .i64 0), .p .nils]), (false, [.p (.bool false)])] := by unfold signE; rw [if_neg (by simp [e])]
theorem qcOk_vote {l : Lim} {q : Qc} (h : qcOk l q = true) : voteOk q.view q.height q.block = true := by
  simp only [qcOk, Bool.and_eq_true] at h
  simp only [voteOk, h.1.1.1.1.1.2, h.1.1.1.1.2, h.1.1.1.2, Bool.and_self]
theorem sign_all {l : Lim} {t : Table} {v h : Int} {b bits : Bytes} (h1 : belongs l t = true) (h2 : bitsOk bits l.n = true) (h3 : voteOk v h b = true) {i : Nat} (hi : i < (bitsList bits).length) : signOk t v h b ((bitsList bits)[i] : Int) = true := by
  simp only [belongs, Bool.and_eq_true, decide_eq_true_eq] at h1
  simp only [bitsOk, Bool.and_eq_true, allBelow, List.all_eq_true, decide_eq_true_eq] at h2
  have h4 := h2.2 _ (List.getElem_mem hi)
  have h5 : inn ((bitsList bits)[i] : Int) 0 ((t.rows.length : Int) - 1) = true := by simp only [inn, decide_eq_true_eq]; omega
  simp only [signOk, h1.1.2, h3, h5, Bool.and_self]
theorem sign_none {t : Table} {v h : Int} {b : Bytes} {w : Int} (h3 : voteOk v h b = false) : signOk t v h b w = false := by simp [signOk, h3]
theorem tags_snoc {t : Table} {v h : Int} {b : Bytes} {l : List Nat} {i : Nat} (hi : i < l.length) : bss (tagsOf t v h b (l.take i)) ++ [[.sl (bytes (tagOf t v h b (l[i] : Int)))]] = bss (tagsOf t v h b (l.take (i + 1))) := by
  rw [List.take_succ_eq_append_getElem hi]
  simp only [tagsOf, bss, List.map_append, List.map_cons, List.map_nil]
theorem voteTag_len (t : Table) (v h : Int) (b : Bytes) (w : Int) : (voteTag t v h b w).length = 32 := mac_len _ _
theorem buildQ_wf {t : Table} {v h : Int} {b bits : Bytes} (hv : I64 v) (hh : I64 h) (hb : Sz b.length) (hi : Sz bits.length) (hx : 8 * bits.length ≤ 1073741824) : (buildQ t v h b bits).wf := by
  have hl := bitsList_len bits
  refine ⟨hv, hh, hb, hi, ?_⟩
  simp only [buildQ, tagsOf_len, Sz]
  omega
theorem bits_few {bits : Bytes} {n : Int} (h : bitsOk bits n = true) : bits.length ≤ 2 := by
  simp only [bitsOk, Bool.and_eq_true, decide_eq_true_eq] at h
  have h1 := inn_t h.1.1
  have h2 := h.1.2
  rw [bsz] at h2
  omega
abbrev n_impl_BuildQc : Nat := 60
def c_impl_BuildQc : AF := ⟨6, 7, [.cell 12 5 true, .tmp 13], (.seq (.ops [.i (.lbox 6 (.s 0)), .i (.lbox 7 (.s 1)), .i (.lal 12 [.int .i64 0, .int .i64 0, .nils, .nils, .nils]), .i (.mov 13 (.c (.val false [.bool false])))]) (.seq (.seq (.ops [.i (.ldl 19 6 (.s 6) 5 true), .i (.ldl 20 7 (.s 7) 1 true), .i (.call 22 76 false [(.s 19), (.s 20)]), .i (.not 22 (.s 21)), .i (.mov 23 (.s 22)), .g 23 false 25 (.mov 24 (.s 5)), .g 23 false 26 (.fad 25 (.s 6) 0), .g 23 false 27 (.ldl 26 6 (.s 25) 1 false), .g 23 false 28 (.call 28 94 false [(.s 24), (.s 26)]), .g 23 false 29 (.not 28 (.s 27)), .i (.pick 29 (.s 23) (.c (.val false [.bool true])) (.s 28))]) (.cond (.s 29) (.seq (.ops [.i (.bld 30 [.int .i64 0, .int .i64 0, .nils, .nils, .nils] []), .i (.stl 12 (.s 12) (.s 30) 5), .i (.mov 13 (.c (.val false [.bool false])))]) .ret) .skip)) (.seq (.ops [.i (.mov 31 (.s 2)), .i (.mov 32 (.s 3)), .i (.mov 33 (.s 4)), .i (.call 35 61 false [(.s 33)]), .i (.mov 35 (.s 5)), .i (.call 37 61 false [(.s 35)]), .i (.bld 37 [.int .i64 0, .int .i64 0, .nils, .nils, .nils] [(0, 1, (.s 31)), (1, 1, (.s 32)), (2, 1, (.s 34)), (3, 1, (.s 36))]), .i (.lal 14 [.int .i64 0, .int .i64 0, .nils, .nils, .nils]), .i (.stl 14 (.s 14) (.s 37) 5)]) (.seq (.seq (.ops [.i (.mov 38 (.s 5)), .i (.call 40 95 false [(.s 38)]), .i (.len 40 false (.s 39)), .i (.mov 41 (.c (.val false [.int .i64 0])))]) (.block 0 (.loop [61, 60, 59, 58, 57, 56, 55, 54, 53, 52, 51, 50, 49, 48, 47, 46, 45, 44, 43, 42, 18, 17, 16] (.seq (.ops [.i (.bin 42 .lss (.s 41) (.s 40))]) (.seq (.cond (.s 42) .skip (.exit 0)) (.seq (.block 1 (.seq (.ops [.i (.iad 43 (.s 39) (.s 41) 1), .i (.ldh 44 (.s 43) 1 false), .i (.mov 16 (.s 44))]) (.seq (.ops [.i (.ldl 46 7 (.s 7) 1 true), .i (.mov 47 (.s 2)), .i (.mov 48 (.s 3)), .i (.mov 49 (.s 4)), .i (.mov 50 (.s 16)), .i (.call 52 96 false [(.s 46), (.s 47), (.s 48), (.s 49), (.s 50)]), .i (.mov 45 (.s 51)), .i (.ext 52 (.s 45) 0), .i (.ext 53 (.s 45) 1), .i (.lal 17 [.int .i64 0, .int .i64 0, .nils, .int .i64 0, .nils]), .i (.stl 17 (.s 17) (.s 52) 5), .i (.mov 18 (.s 53))]) (.ops [.i (.fad 54 (.s 14) 4), .i (.ldl 55 14 (.s 54) 1 false), .i (.fad 56 (.s 17) 4), .i (.ldl 57 17 (.s 56) 1 false), .i (.lsl 58 1 1 [.nils] [(0, 1, (.s 57))]), .i (.app 59 27 1 24 (.s 55) (.s 58)), .i (.fad 60 (.s 14) 4), .i (.stl 14 (.s 60) (.s 59) 1)])))) (.ops [.i (.bin 61 .add (.s 41) (.c (.val false [.int .i64 1]))), .i (.mov 41 (.s 61))]))))))) (.seq (.seq (.ops [.i (.ldl 62 6 (.s 6) 5 true), .i (.ldl 63 14 (.s 14) 5 true), .i (.call 65 97 false [(.s 62), (.s 63)]), .i (.not 65 (.s 64))]) (.cond (.s 65) (.seq (.ops [.i (.bld 66 [.int .i64 0, .int .i64 0, .nils, .nils, .nils] []), .i (.stl 12 (.s 12) (.s 66) 5), .i (.mov 13 (.c (.val false [.bool false])))]) .ret) .skip)) (.seq (.ops [.i (.ldl 67 14 (.s 14) 5 true), .i (.stl 12 (.s 12) (.s 67) 5), .i (.mov 13 (.c (.val false [.bool true])))]) .ret))))))⟩
theorem k_impl_BuildQc : cd n_impl_BuildQc = some c_impl_BuildQc := by kernel_rfl
theorem impl_BuildQc_ok (l : Lim) (t : Table) (v h : Int) (b bits : Bytes) (ht : t.wf) (hv : I64 v) (hh : I64 h) (hn : I64 l.n) (hb : Sz b.length) (hi : Sz bits.length) : VC cd n_impl_BuildQc (mkP [(true, l.c), (true, t.c), (false, [.int .i64 v]), (false, [.int .i64 h]), (false, [.sl (bytes b)]), (false, [.sl (bytes bits)])]) (fun rs _ => rs = buildE l t v h b bits) := by
  have hb' := hb
  simp only [I64, Sz] at hb hi hv hh hn
  refine VC_enter k_impl_BuildQc rfl ?_
  simp (disch := omega) [c_impl_BuildQc, Lim.c, Table.c, VE, VXR, VP, VB, VTup, kof, bl, it]
  refine VXC_e (belongs_ok l t ht) (by first | rfl | (simp [Lim.c, Table.c, argsD, argDs, argD, St.slc, lk_cons, lk] <;> first | rfl | exact ⟨rfl, rfl⟩ | exact ⟨rfl, rfl, rfl⟩)) rfl ?_
  simp (disch := omega) [VE, VXR, VP, VB, VTup, kof, bl, it]
  refine VXB_b (fun h1 => ?_) (fun h1 => ?_)
  case refine_2 => simp (disch := omega) [h1, buildE, buildOk, VE, VXR, VP, VB, VTup, kof, bl, it]
  simp (disch := omega) [h1, VE, VXR, VP, VB, VTup, kof, bl, it]
  refine VXC_e (impl_BitsOk_ok bits l.n (by omega) (by omega)) (by first | rfl | (simp [argsD, argDs, argD, St.slc, lk_cons, lk] <;> first | rfl | exact ⟨rfl, rfl⟩ | exact ⟨rfl, rfl, rfl⟩)) rfl ?_
  simp (disch := omega) [h1, VE, VXR, VP, VB, VTup, kof, bl, it]
  refine VXB_b (fun h2 => ?_) (fun h2 => ?_)
  case refine_2 => simp (disch := omega) [h1, h2, buildE, buildOk, VE, VXR, VP, VB, VTup, kof, bl, it]
  simp (disch := omega) [h1, h2, VE, VXR, VP, VB, VTup, kof, bl, it]
  refine VXC_e (copyBytes_ok b (by omega)) (by first | rfl | (simp [argsD, argDs, argD, St.slc, lk_cons, lk] <;> first | rfl | exact ⟨rfl, rfl⟩ | exact ⟨rfl, rfl, rfl⟩)) rfl ?_
  simp (disch := omega) [h1, h2, VE, VXR, VP, VB, VTup, kof, bl, it]
  refine VXC_e (copyBytes_ok bits (by omega)) (by first | rfl | (simp [argsD, argDs, argD, St.slc, lk_cons, lk] <;> first | rfl | exact ⟨rfl, rfl⟩ | exact ⟨rfl, rfl, rfl⟩)) rfl ?_
  simp (disch := omega) [h1, h2, VE, VXR, VP, VB, VTup, kof, bl, it]
  refine VXC_e (impl_BitsList_ok bits (by omega)) (by first | rfl | (simp [argsD, argDs, argD, St.slc, lk_cons, lk] <;> first | rfl | exact ⟨rfl, rfl⟩ | exact ⟨rfl, rfl, rfl⟩)) rfl ?_
  simp (disch := omega) [h1, h2, nats_len, VE, VXR, VP, VB, VTup, kof, bl, it]
  have hfew := bits_few h2
  have hl := bitsList_len bits
  refine VX_loop4P (σ := Nat × Nat) (f0 := _) (by simp (disch := omega) [VE, VXR, VP, VB, VTup, kof, bl, it]; rfl) (Weak.matB (s := 14) (k := 14) (i := 4) rfl rfl) (f1 := _) (es0 := _) (by simp (disch := omega) [VE, VXR, VP, VB, VTup, kof, bl, it]; rfl) (by simp (disch := omega) [VE, VXR, VP, VB, VTup, kof, bl, it]; rfl) (fun p => [(41, .val false [.int .i64 (p.1 : Int)]), (14, .box [.int .i64 v, .int .i64 h, .ow 294912 12, .ow 311296 13, .ow 14 p.2])]) (fun p => [(14, .sl p.2 true true (some (27, 1)) (bss (tagsOf t v h b ((bitsList bits).take p.1))))])
    (fun p g => g + p.1 = (bitsList bits).length) (0, _) (bitsList bits).length (by simp (disch := omega) [VE, VXR, VP, VB, VTup, kof, bl, it]; rfl) (by simp (disch := omega) [tagsOf_nil, bss, VE, VXR, VP, VB, VTup, kof, bl, it]) (by omega) ?_
  rintro ⟨i, w⟩ n g hg P hP
  simp only at hg
  simp (disch := omega) [VE, VXR, VP, VB, VTup, kof, bl, it]
  refine VXB_dec (fun h4 => ?_) (fun h4 => ?_)
  · have hx : i < (bitsList bits).length := by omega
    have hl2 : (bss (tagsOf t v h b ((bitsList bits).take i))).length = i := by rw [bss_len, tagsOf_len, List.length_take]; omega
    have hs := tags_snoc (t := t) (v := v) (h := h) (b := b) hx
    simp (disch := omega) [nats_get hx, VE, VXR, VP, VB, VTup, kof, bl, it]
    cases h3 : voteOk v h b with
    | true =>
      have ht : tagOf t v h b ((bitsList bits)[i] : Int) = voteTag t v h b ((bitsList bits)[i] : Int) := by unfold tagOf; rw [if_pos h3]
      rw [ht] at hs
      refine VXC_e ((impl_SignVote_ok t v h b ((bitsList bits)[i] : Int) ‹_› hb').re (signE_t (sign_all h1 h2 h3 hx))) (by first | rfl | (simp [Table.c, argsD, argDs, argD, St.slc, lk_cons, lk] <;> first | rfl | exact ⟨rfl, rfl⟩ | exact ⟨rfl, rfl, rfl⟩)) rfl ?_
      simp (disch := omega) [hl2, hs, VE, VXR, VP, VB, VTup, kof, bl, it]
      exact hP (i + 1, _) (g - 1) _ _ (by omega) (by simp only; omega) (by simp (disch := omega) [VE, VXR, VP, VB, VTup, kof, bl, it]; rfl) (by simp (disch := omega) [VE, VXR, VP, VB, VTup, kof, bl, it])
    | false =>
      have ht : tagOf t v h b ((bitsList bits)[i] : Int) = [] := by unfold tagOf; rw [if_neg (by simp [h3])]
      rw [ht, bytes_nil] at hs
      refine VXC_e ((impl_SignVote_ok t v h b ((bitsList bits)[i] : Int) ‹_› hb').re (signE_f (sign_none h3))) (by first | rfl | (simp [Table.c, argsD, argDs, argD, St.slc, lk_cons, lk] <;> first | rfl | exact ⟨rfl, rfl⟩ | exact ⟨rfl, rfl, rfl⟩)) rfl ?_
      simp (disch := omega) [hl2, hs, VE, VXR, VP, VB, VTup, kof, bl, it]
      exact hP (i + 1, _) (g - 1) _ _ (by omega) (by simp only; omega) (by simp (disch := omega) [VE, VXR, VP, VB, VTup, kof, bl, it]; rfl) (by simp (disch := omega) [VE, VXR, VP, VB, VTup, kof, bl, it])
  · have hx : i = (bitsList bits).length := by omega
    subst hx
    simp (disch := omega) [List.take_length, VE, VXR, VP, VB, VTup, kof, bl, it]
    refine VXC_e (impl_QcOk_ok l (buildQ t v h b bits) (buildQ_wf hv hh hb hi (by omega))) (by first | rfl | (simp [Lim.c, Qc.c, buildQ, argsD, argDs, argD, St.slc, lk_cons, lk] <;> first | rfl | exact ⟨rfl, rfl⟩ | exact ⟨rfl, rfl, rfl⟩)) rfl ?_
    simp (disch := omega) [List.take_length, VE, VXR, VP, VB, VTup, kof, bl, it]
    refine VXB_b (fun h5 => ?_) (fun h5 => ?_)
    · simp (disch := omega) [h5, buildE, buildOk, h1, h2, buildQ, VE, VXR, VP, VB, VTup, kof, bl, it]
      exact h5
    · simp (disch := omega) [h5, buildE, buildOk, h1, h2, VE, VXR, VP, VB, VTup, kof, bl, it]
abbrev n_spec_BuildQc : Nat := 55
def c_spec_BuildQc : AF := ⟨6, 7, [.cell 12 5 true, .tmp 13], (.seq (.ops [.i (.lbox 6 (.s 0)), .i (.lbox 7 (.s 1)), .i (.lal 12 [.int .i64 0, .int .i64 0, .nils, .nils, .nils]), .i (.mov 13 (.c (.val false [.bool false])))]) (.seq (.seq (.ops [.i (.ldl 19 6 (.s 6) 5 true), .i (.ldl 20 7 (.s 7) 1 true), .i (.call 22 71 false [(.s 19), (.s 20)]), .i (.not 22 (.s 21)), .i (.mov 23 (.s 22)), .g 23 false 25 (.mov 24 (.s 5)), .g 23 false 26 (.fad 25 (.s 6) 0), .g 23 false 27 (.ldl 26 6 (.s 25) 1 false), .g 23 false 28 (.call 28 85 false [(.s 24), (.s 26)]), .g 23 false 29 (.not 28 (.s 27)), .i (.pick 29 (.s 23) (.c (.val false [.bool true])) (.s 28))]) (.cond (.s 29) (.seq (.ops [.i (.bld 30 [.int .i64 0, .int .i64 0, .nils, .nils, .nils] []), .i (.stl 12 (.s 12) (.s 30) 5), .i (.mov 13 (.c (.val false [.bool false])))]) .ret) .skip)) (.seq (.ops [.i (.mov 31 (.s 2)), .i (.mov 32 (.s 3)), .i (.mov 33 (.s 4)), .i (.call 35 54 false [(.s 33)]), .i (.mov 35 (.s 5)), .i (.call 37 54 false [(.s 35)]), .i (.bld 37 [.int .i64 0, .int .i64 0, .nils, .nils, .nils] [(0, 1, (.s 31)), (1, 1, (.s 32)), (2, 1, (.s 34)), (3, 1, (.s 36))]), .i (.lal 14 [.int .i64 0, .int .i64 0, .nils, .nils, .nils]), .i (.stl 14 (.s 14) (.s 37) 5)]) (.seq (.seq (.ops [.i (.mov 38 (.s 5)), .i (.call 40 86 false [(.s 38)]), .i (.len 40 false (.s 39)), .i (.mov 41 (.c (.val false [.int .i64 0])))]) (.block 0 (.loop [61, 60, 59, 58, 57, 56, 55, 54, 53, 52, 51, 50, 49, 48, 47, 46, 45, 44, 43, 42, 18, 17, 16] (.seq (.ops [.i (.bin 42 .lss (.s 41) (.s 40))]) (.seq (.cond (.s 42) .skip (.exit 0)) (.seq (.block 1 (.seq (.ops [.i (.iad 43 (.s 39) (.s 41) 1), .i (.ldh 44 (.s 43) 1 false), .i (.mov 16 (.s 44))]) (.seq (.ops [.i (.ldl 46 7 (.s 7) 1 true), .i (.mov 47 (.s 2)), .i (.mov 48 (.s 3)), .i (.mov 49 (.s 4)), .i (.mov 50 (.s 16)), .i (.call 52 87 false [(.s 46), (.s 47), (.s 48), (.s 49), (.s 50)]), .i (.mov 45 (.s 51)), .i (.ext 52 (.s 45) 0), .i (.ext 53 (.s 45) 1), .i (.lal 17 [.int .i64 0, .int .i64 0, .nils, .int .i64 0, .nils]), .i (.stl 17 (.s 17) (.s 52) 5), .i (.mov 18 (.s 53))]) (.ops [.i (.fad 54 (.s 14) 4), .i (.ldl 55 14 (.s 54) 1 false), .i (.fad 56 (.s 17) 4), .i (.ldl 57 17 (.s 56) 1 false), .i (.lsl 58 1 1 [.nils] [(0, 1, (.s 57))]), .i (.app 59 27 1 24 (.s 55) (.s 58)), .i (.fad 60 (.s 14) 4), .i (.stl 14 (.s 60) (.s 59) 1)])))) (.ops [.i (.bin 61 .add (.s 41) (.c (.val false [.int .i64 1]))), .i (.mov 41 (.s 61))]))))))) (.seq (.seq (.ops [.i (.ldl 62 6 (.s 6) 5 true), .i (.ldl 63 14 (.s 14) 5 true), .i (.call 65 88 false [(.s 62), (.s 63)]), .i (.not 65 (.s 64))]) (.cond (.s 65) (.seq (.ops [.i (.bld 66 [.int .i64 0, .int .i64 0, .nils, .nils, .nils] []), .i (.stl 12 (.s 12) (.s 66) 5), .i (.mov 13 (.c (.val false [.bool false])))]) .ret) .skip)) (.seq (.ops [.i (.ldl 67 14 (.s 14) 5 true), .i (.stl 12 (.s 12) (.s 67) 5), .i (.mov 13 (.c (.val false [.bool true])))]) .ret))))))⟩
theorem k_spec_BuildQc : cd n_spec_BuildQc = some c_spec_BuildQc := by kernel_rfl
theorem spec_BuildQc_ok (l : Lim) (t : Table) (v h : Int) (b bits : Bytes) (ht : t.wf) (hv : I64 v) (hh : I64 h) (hn : I64 l.n) (hb : Sz b.length) (hi : Sz bits.length) : VC cd n_spec_BuildQc (mkP [(true, l.c), (true, t.c), (false, [.int .i64 v]), (false, [.int .i64 h]), (false, [.sl (bytes b)]), (false, [.sl (bytes bits)])]) (fun rs _ => rs = buildE l t v h b bits) := by
  have hb' := hb
  simp only [I64, Sz] at hb hi hv hh hn
  refine VC_enter k_spec_BuildQc rfl ?_
  simp (disch := omega) [c_spec_BuildQc, Lim.c, Table.c, VE, VXR, VP, VB, VTup, kof, bl, it]
  refine VXC_e (l23Goes_ok l t ht) (by first | rfl | (simp [Lim.c, Table.c, argsD, argDs, argD, St.slc, lk_cons, lk] <;> first | rfl | exact ⟨rfl, rfl⟩ | exact ⟨rfl, rfl, rfl⟩)) rfl ?_
  simp (disch := omega) [VE, VXR, VP, VB, VTup, kof, bl, it]
  refine VXB_b (fun h1 => ?_) (fun h1 => ?_)
  case refine_2 => simp (disch := omega) [h1, buildE, buildOk, VE, VXR, VP, VB, VTup, kof, bl, it]
  simp (disch := omega) [h1, VE, VXR, VP, VB, VTup, kof, bl, it]
  refine VXC_e (spec_BitsOk_ok bits l.n (by omega) (by omega)) (by first | rfl | (simp [argsD, argDs, argD, St.slc, lk_cons, lk] <;> first | rfl | exact ⟨rfl, rfl⟩ | exact ⟨rfl, rfl, rfl⟩)) rfl ?_
  simp (disch := omega) [h1, VE, VXR, VP, VB, VTup, kof, bl, it]
  refine VXB_b (fun h2 => ?_) (fun h2 => ?_)
  case refine_2 => simp (disch := omega) [h1, h2, buildE, buildOk, VE, VXR, VP, VB, VTup, kof, bl, it]
  simp (disch := omega) [h1, h2, VE, VXR, VP, VB, VTup, kof, bl, it]
  refine VXC_e (l01Copy_ok b (by omega)) (by first | rfl | (simp [argsD, argDs, argD, St.slc, lk_cons, lk] <;> first | rfl | exact ⟨rfl, rfl⟩ | exact ⟨rfl, rfl, rfl⟩)) rfl ?_
  simp (disch := omega) [h1, h2, VE, VXR, VP, VB, VTup, kof, bl, it]
  refine VXC_e (l01Copy_ok bits (by omega)) (by first | rfl | (simp [argsD, argDs, argD, St.slc, lk_cons, lk] <;> first | rfl | exact ⟨rfl, rfl⟩ | exact ⟨rfl, rfl, rfl⟩)) rfl ?_
  simp (disch := omega) [h1, h2, VE, VXR, VP, VB, VTup, kof, bl, it]
  refine VXC_e (spec_BitsList_ok bits (by omega)) (by first | rfl | (simp [argsD, argDs, argD, St.slc, lk_cons, lk] <;> first | rfl | exact ⟨rfl, rfl⟩ | exact ⟨rfl, rfl, rfl⟩)) rfl ?_
  simp (disch := omega) [h1, h2, nats_len, VE, VXR, VP, VB, VTup, kof, bl, it]
  have hfew := bits_few h2
  have hl := bitsList_len bits
  refine VX_loop4P (σ := Nat × Nat) (f0 := _) (by simp (disch := omega) [VE, VXR, VP, VB, VTup, kof, bl, it]; rfl) (Weak.matB (s := 14) (k := 14) (i := 4) rfl rfl) (f1 := _) (es0 := _) (by simp (disch := omega) [VE, VXR, VP, VB, VTup, kof, bl, it]; rfl) (by simp (disch := omega) [VE, VXR, VP, VB, VTup, kof, bl, it]; rfl) (fun p => [(41, .val false [.int .i64 (p.1 : Int)]), (14, .box [.int .i64 v, .int .i64 h, .ow 294912 12, .ow 311296 13, .ow 14 p.2])]) (fun p => [(14, .sl p.2 true true (some (27, 1)) (bss (tagsOf t v h b ((bitsList bits).take p.1))))])
    (fun p g => g + p.1 = (bitsList bits).length) (0, _) (bitsList bits).length (by simp (disch := omega) [VE, VXR, VP, VB, VTup, kof, bl, it]; rfl) (by simp (disch := omega) [tagsOf_nil, bss, VE, VXR, VP, VB, VTup, kof, bl, it]) (by omega) ?_
  rintro ⟨i, w⟩ n g hg P hP
  simp only at hg
  simp (disch := omega) [VE, VXR, VP, VB, VTup, kof, bl, it]
  refine VXB_dec (fun h4 => ?_) (fun h4 => ?_)
  · have hx : i < (bitsList bits).length := by omega
    have hl2 : (bss (tagsOf t v h b ((bitsList bits).take i))).length = i := by rw [bss_len, tagsOf_len, List.length_take]; omega
    have hs := tags_snoc (t := t) (v := v) (h := h) (b := b) hx
    simp (disch := omega) [nats_get hx, VE, VXR, VP, VB, VTup, kof, bl, it]
    cases h3 : voteOk v h b with
    | true =>
      have ht : tagOf t v h b ((bitsList bits)[i] : Int) = voteTag t v h b ((bitsList bits)[i] : Int) := by unfold tagOf; rw [if_pos h3]
      rw [ht] at hs
      refine VXC_e ((spec_SignVote_ok t v h b ((bitsList bits)[i] : Int) ‹_› hb').re (signE_t (sign_all h1 h2 h3 hx))) (by first | rfl | (simp [Table.c, argsD, argDs, argD, St.slc, lk_cons, lk] <;> first | rfl | exact ⟨rfl, rfl⟩ | exact ⟨rfl, rfl, rfl⟩)) rfl ?_
      simp (disch := omega) [hl2, hs, VE, VXR, VP, VB, VTup, kof, bl, it]
      exact hP (i + 1, _) (g - 1) _ _ (by omega) (by simp only; omega) (by simp (disch := omega) [VE, VXR, VP, VB, VTup, kof, bl, it]; rfl) (by simp (disch := omega) [VE, VXR, VP, VB, VTup, kof, bl, it])
    | false =>
      have ht : tagOf t v h b ((bitsList bits)[i] : Int) = [] := by unfold tagOf; rw [if_neg (by simp [h3])]
      rw [ht, bytes_nil] at hs
      refine VXC_e ((spec_SignVote_ok t v h b ((bitsList bits)[i] : Int) ‹_› hb').re (signE_f (sign_none h3))) (by first | rfl | (simp [Table.c, argsD, argDs, argD, St.slc, lk_cons, lk] <;> first | rfl | exact ⟨rfl, rfl⟩ | exact ⟨rfl, rfl, rfl⟩)) rfl ?_
      simp (disch := omega) [hl2, hs, VE, VXR, VP, VB, VTup, kof, bl, it]
      exact hP (i + 1, _) (g - 1) _ _ (by omega) (by simp only; omega) (by simp (disch := omega) [VE, VXR, VP, VB, VTup, kof, bl, it]; rfl) (by simp (disch := omega) [VE, VXR, VP, VB, VTup, kof, bl, it])
  · have hx : i = (bitsList bits).length := by omega
    subst hx
    simp (disch := omega) [List.take_length, VE, VXR, VP, VB, VTup, kof, bl, it]
    refine VXC_e (spec_QcOk_ok l (buildQ t v h b bits) (buildQ_wf hv hh hb hi (by omega))) (by first | rfl | (simp [Lim.c, Qc.c, buildQ, argsD, argDs, argD, St.slc, lk_cons, lk] <;> first | rfl | exact ⟨rfl, rfl⟩ | exact ⟨rfl, rfl, rfl⟩)) rfl ?_
    simp (disch := omega) [List.take_length, VE, VXR, VP, VB, VTup, kof, bl, it]
    refine VXB_b (fun h5 => ?_) (fun h5 => ?_)
    · simp (disch := omega) [h5, buildE, buildOk, h1, h2, buildQ, VE, VXR, VP, VB, VTup, kof, bl, it]
      exact h5
    · simp (disch := omega) [h5, buildE, buildOk, h1, h2, VE, VXR, VP, VB, VTup, kof, bl, it]
/-! ### The next head -/
def nextP (t : Table) (a : Head) (p : Bytes) (view by_ : Int) (root bits : Bytes) : Head := ⟨view, IntKind.i64.wrap (a.height + 1), by_, p, root, buildQ t a.view a.height p bits⟩
def nextPOk (l : Lim) (t : Table) (a : Head) (p : Bytes) (view by_ : Int) (root bits : Bytes) : Bool := buildOk l t a.view a.height p bits && links l a (nextP t a p view by_ root bits)
def nextH (l : Lim) (t : Table) (a : Head) (view by_ : Int) (root bits : Bytes) : Option Head := if nextPOk l t a (hhash l a) view by_ root bits then some (nextP t a (hhash l a) view by_ root bits) else none
theorem build_bits {l : Lim} {t : Table} {v h : Int} {b bits : Bytes} (e : buildOk l t v h b bits = true) : bits.length ≤ 2 := by
  simp only [buildOk, Bool.and_eq_true] at e
  exact bits_few e.1.2
theorem build_nil {l : Lim} {t : Table} {v h : Int} {bits : Bytes} : buildOk l t v h [] bits = false := by
  cases hq : buildOk l t v h [] bits with
  | false => rfl
  | true =>
    simp only [buildOk, Bool.and_eq_true] at hq
    have := qcOk_vote hq.2
    simp [voteOk, buildQ, hash] at this
theorem i64w (n : Int) : I64 (IntKind.i64.wrap n) := by
  simp only [I64, IntKind.wrap, IntKind.bits, IntKind.signed]
  simp
  omega
theorem nextP_wf {l : Lim} {t : Table} {a : Head} {p : Bytes} {view by_ : Int} {root bits : Bytes} (ha : a.wf) (hv : I64 view) (hp : I64 by_) (hl : Sz p.length) (hr : Sz root.length) (e : buildOk l t a.view a.height p bits = true) : (nextP t a p view by_ root bits).wf := by
  have h1 := build_bits e
  exact ⟨hv, i64w _, hp, hl, hr, buildQ_wf ha.1 ha.2.1 hl (by simp only [Sz]; omega) (by omega)⟩
theorem tagOf_len (t : Table) (v h : Int) (b : Bytes) (w : Int) : (tagOf t v h b w).length ≤ 32 := by
  unfold tagOf
  split
  · rw [voteTag_len]; exact Nat.le_refl _
  · simp
theorem tagsOf_mem {t : Table} {v h : Int} {b : Bytes} {l : List Nat} : ∀ x ∈ tagsOf t v h b l, x.length ≤ 32 := fun x hx => by
  simp only [tagsOf, List.mem_map] at hx
  obtain ⟨i, _, rfl⟩ := hx
  exact tagOf_len ..
theorem nextP_wc {t : Table} {a : Head} {p : Bytes} {view by_ : Int} {root bits : Bytes} (h : (nextP t a p view by_ root bits).wf) : (nextP t a p view by_ root bits).wc :=
  ⟨h, fun x hx => by have := tagsOf_mem x hx; simp only [Sz]; omega⟩
abbrev n_impl_NextHead : Nat := 22
def c_impl_NextHead : AF := ⟨7, 6, [.cell 14 10 true, .tmp 15], (.seq (.ops [.i (.lbox 7 (.s 0)), .i (.lbox 8 (.s 1)), .i (.lbox 9 (.s 2)), .i (.lal 14 [.int .i64 0, .int .i64 0, .int .i64 0, .nils, .nils, .int .i64 0, .int .i64 0, .nils, .nils, .nils]), .i (.mov 15 (.c (.val false [.bool false])))]) (.seq (.ops [.i (.ldl 20 7 (.s 7) 5 true), .i (.ldl 21 9 (.s 9) 10 true), .i (.call 23 59 false [(.s 20), (.s 21)]), .i (.mov 16 (.s 22))]) (.seq (.ops [.i (.ldl 24 7 (.s 7) 5 true), .i (.ldl 25 8 (.s 8) 1 true), .i (.fad 26 (.s 9) 0), .i (.ldl 27 9 (.s 26) 1 false), .i (.fad 28 (.s 9) 1), .i (.ldl 29 9 (.s 28) 1 false), .i (.mov 30 (.s 16)), .i (.mov 31 (.s 6)), .i (.call 33 60 false [(.s 24), (.s 25), (.s 27), (.s 29), (.s 30), (.s 31)]), .i (.mov 23 (.s 32)), .i (.ext 33 (.s 23) 0), .i (.ext 34 (.s 23) 1), .i (.lal 17 [.int .i64 0, .int .i64 0, .nils, .nils, .nils]), .i (.stl 17 (.s 17) (.s 33) 5), .i (.mov 18 (.s 34))]) (.seq (.ops [.i (.mov 35 (.s 3)), .i (.fad 36 (.s 9) 1), .i (.ldl 37 9 (.s 36) 1 false), .i (.bin 38 .add (.s 37) (.c (.val false [.int .i64 1]))), .i (.mov 39 (.s 4)), .i (.mov 40 (.s 16)), .i (.mov 41 (.s 5)), .i (.call 43 61 false [(.s 41)]), .i (.ldl 43 17 (.s 17) 5 true), .i (.bld 44 [.int .i64 0, .int .i64 0, .int .i64 0, .nils, .nils, .int .i64 0, .int .i64 0, .nils, .nils, .nils] [(0, 1, (.s 35)), (1, 1, (.s 38)), (2, 1, (.s 39)), (3, 1, (.s 40)), (4, 1, (.s 42)), (5, 5, (.s 43))]), .i (.lal 19 [.int .i64 0, .int .i64 0, .int .i64 0, .nils, .nils, .int .i64 0, .int .i64 0, .nils, .nils, .nils]), .i (.stl 19 (.s 19) (.s 44) 10)]) (.seq (.seq (.ops [.i (.mov 45 (.s 18)), .i (.not 46 (.s 45)), .i (.mov 47 (.s 46)), .g 47 false 49 (.ldl 48 7 (.s 7) 5 true), .g 47 false 50 (.ldl 49 9 (.s 9) 10 true), .g 47 false 51 (.ldl 50 19 (.s 19) 10 true), .g 47 false 52 (.call 52 62 false [(.s 48), (.s 49), (.s 50)]), .g 47 false 53 (.not 52 (.s 51)), .i (.pick 53 (.s 47) (.c (.val false [.bool true])) (.s 52))]) (.cond (.s 53) (.seq (.ops [.i (.bld 54 [.int .i64 0, .int .i64 0, .int .i64 0, .nils, .nils, .int .i64 0, .int .i64 0, .nils, .nils, .nils] []), .i (.stl 14 (.s 14) (.s 54) 10), .i (.mov 15 (.c (.val false [.bool false])))]) .ret) .skip)) (.seq (.ops [.i (.ldl 55 19 (.s 19) 10 true), .i (.call 57 42 false [(.s 55)]), .i (.stl 14 (.s 14) (.s 56) 10), .i (.mov 15 (.c (.val false [.bool true])))]) .ret))))))⟩
theorem k_impl_NextHead : cd n_impl_NextHead = some c_impl_NextHead := by kernel_rfl
theorem impl_NextHead_ok (l : Lim) (t : Table) (a : Head) (view by_ : Int) (root bits : Bytes) (ht : t.wf) (ha : a.wc) (hn : I64 l.n) (hv : I64 view) (hp : I64 by_) (hr : Sz root.length) (hi : Sz bits.length) : VC cd n_impl_NextHead (mkP [(true, l.c), (true, t.c), (true, a.c), (false, [.int .i64 view]), (false, [.int .i64 by_]), (false, [.sl (bytes root)]), (false, [.sl (bytes bits)])]) (fun rs _ => rs = optHeadE (nextH l t a view by_ root bits)) := by
  have hr' := hr
  simp only [Sz] at hr
  have hs : Sz (sha (72 :: headB a)).length := by rw [sha_len]; simp [Sz]
  refine VC_enter k_impl_NextHead rfl ?_
  simp (disch := omega) [c_impl_NextHead, Lim.c, Table.c, Head.c, VE, VXR, VP, VB, VTup, kof, bl, it]
  cases hk : headOk l a with
  | false =>
    have hb : buildOk l t a.view a.height [] bits = false := build_nil
    have hz : nextH l t a view by_ root bits = none := by unfold nextH nextPOk; rw [hhash_f hk, hb]; rfl
    refine VXC_e ((impl_HeadHash_ok l a ha.1).re (hhashE_f hk)) (by first | rfl | (simp [Lim.c, Head.c, argsD, argDs, argD, St.slc, lk_cons, lk] <;> first | rfl | exact ⟨rfl, rfl⟩ | exact ⟨rfl, rfl, rfl⟩)) rfl ?_
    simp (disch := omega) [VE, VXR, VP, VB, VTup, kof, bl, it]
    refine VXC_e ((impl_BuildQc_ok l t a.view a.height [] bits ht ha.1.1 ha.1.2.1 hn (by simp [Sz]) hi).re (buildE_f hb)) (by first | rfl | (simp [Lim.c, Table.c, bytes_nil, argsD, argDs, argD, St.slc, lk_cons, lk] <;> first | rfl | exact ⟨rfl, rfl⟩ | exact ⟨rfl, rfl, rfl⟩)) rfl ?_
    simp (disch := omega) [VE, VXR, VP, VB, VTup, kof, bl, it]
    refine VXC_e (copyBytes_ok root (by omega)) (by first | rfl | (simp [argsD, argDs, argD, St.slc, lk_cons, lk] <;> first | rfl | exact ⟨rfl, rfl⟩ | exact ⟨rfl, rfl, rfl⟩)) rfl ?_
    simp (disch := omega) [hz, optHeadE, zeroHeadE, VE, VXR, VP, VB, VTup, kof, bl, it]
  | true =>
    refine VXC_e ((impl_HeadHash_ok l a ha.1).re (hhashE_t hk)) (by first | rfl | (simp [Lim.c, Head.c, argsD, argDs, argD, St.slc, lk_cons, lk] <;> first | rfl | exact ⟨rfl, rfl⟩ | exact ⟨rfl, rfl, rfl⟩)) rfl ?_
    simp (disch := omega) [VE, VXR, VP, VB, VTup, kof, bl, it]
    cases hb : buildOk l t a.view a.height (sha (72 :: headB a)) bits with
    | false =>
      have hz : nextH l t a view by_ root bits = none := by unfold nextH nextPOk; rw [hhash_t hk, hb]; rfl
      refine VXC_e ((impl_BuildQc_ok l t a.view a.height (sha (72 :: headB a)) bits ht ha.1.1 ha.1.2.1 hn hs hi).re (buildE_f hb)) (by first | rfl | (simp [Lim.c, Table.c, argsD, argDs, argD, St.slc, lk_cons, lk] <;> first | rfl | exact ⟨rfl, rfl⟩ | exact ⟨rfl, rfl, rfl⟩)) rfl ?_
      simp (disch := omega) [VE, VXR, VP, VB, VTup, kof, bl, it]
      refine VXC_e (copyBytes_ok root (by omega)) (by first | rfl | (simp [argsD, argDs, argD, St.slc, lk_cons, lk] <;> first | rfl | exact ⟨rfl, rfl⟩ | exact ⟨rfl, rfl, rfl⟩)) rfl ?_
      simp (disch := omega) [hz, optHeadE, zeroHeadE, VE, VXR, VP, VB, VTup, kof, bl, it]
    | true =>
      have hw := nextP_wf (l := l) ha.1 hv hp hs hr' hb
      refine VXC_e ((impl_BuildQc_ok l t a.view a.height (sha (72 :: headB a)) bits ht ha.1.1 ha.1.2.1 hn hs hi).re (buildE_t hb)) (by first | rfl | (simp [Lim.c, Table.c, argsD, argDs, argD, St.slc, lk_cons, lk] <;> first | rfl | exact ⟨rfl, rfl⟩ | exact ⟨rfl, rfl, rfl⟩)) rfl ?_
      simp (disch := omega) [VE, VXR, VP, VB, VTup, kof, bl, it]
      refine VXC_e (copyBytes_ok root (by omega)) (by first | rfl | (simp [argsD, argDs, argD, St.slc, lk_cons, lk] <;> first | rfl | exact ⟨rfl, rfl⟩ | exact ⟨rfl, rfl, rfl⟩)) rfl ?_
      simp (disch := omega) [VE, VXR, VP, VB, VTup, kof, bl, it]
      refine VXC_e (impl_Links_ok l a (nextP t a (sha (72 :: headB a)) view by_ root bits) ha.1 hw) (by first | rfl | (simp [Lim.c, Head.c, nextP, buildQ, argsD, argDs, argD, St.slc, lk_cons, lk] <;> first | rfl | exact ⟨rfl, rfl⟩ | exact ⟨rfl, rfl, rfl⟩)) rfl ?_
      simp (disch := omega) [VE, VXR, VP, VB, VTup, kof, bl, it]
      refine VXB_b (fun h1 => ?_) (fun h1 => ?_)
      · have hz : nextH l t a view by_ root bits = some (nextP t a (sha (72 :: headB a)) view by_ root bits) := by unfold nextH nextPOk; rw [hhash_t hk, hb, h1]; rfl
        simp (disch := omega) [h1, VE, VXR, VP, VB, VTup, kof, bl, it]
        refine VXC_e (Head_copied_ok (nextP t a (sha (72 :: headB a)) view by_ root bits) (nextP_wc hw)) (by first | rfl | (simp [Head.c, nextP, buildQ, argsD, argDs, argD, St.slc, lk_cons, lk] <;> first | rfl | exact ⟨rfl, rfl⟩ | exact ⟨rfl, rfl, rfl⟩)) rfl ?_
        simp (disch := omega) [hz, optHeadE, Head.o, VE, VXR, VP, VB, VTup, kof, bl, it]
      · have hz : nextH l t a view by_ root bits = none := by unfold nextH nextPOk; rw [hhash_t hk, hb, h1]; rfl
        simp (disch := omega) [h1, hz, optHeadE, zeroHeadE, VE, VXR, VP, VB, VTup, kof, bl, it]
abbrev n_spec_NextHead : Nat := 17
def c_spec_NextHead : AF := ⟨7, 6, [.cell 14 10 true, .tmp 15], (.seq (.ops [.i (.lbox 7 (.s 0)), .i (.lbox 8 (.s 1)), .i (.lbox 9 (.s 2)), .i (.lal 14 [.int .i64 0, .int .i64 0, .int .i64 0, .nils, .nils, .int .i64 0, .int .i64 0, .nils, .nils, .nils]), .i (.mov 15 (.c (.val false [.bool false])))]) (.seq (.ops [.i (.mov 19 (.s 3)), .i (.fad 20 (.s 9) 1), .i (.ldl 21 9 (.s 20) 1 false), .i (.bin 22 .add (.s 21) (.c (.val false [.int .i64 1]))), .i (.mov 23 (.s 4)), .i (.ldl 24 7 (.s 7) 5 true), .i (.ldl 25 9 (.s 9) 10 true), .i (.call 27 53 false [(.s 24), (.s 25)]), .i (.mov 27 (.s 5)), .i (.call 29 54 false [(.s 27)]), .i (.bld 29 [.int .i64 0, .int .i64 0, .int .i64 0, .nils, .nils, .int .i64 0, .int .i64 0, .nils, .nils, .nils] [(0, 1, (.s 19)), (1, 1, (.s 22)), (2, 1, (.s 23)), (3, 1, (.s 26)), (4, 1, (.s 28))]), .i (.lal 16 [.int .i64 0, .int .i64 0, .int .i64 0, .nils, .nils, .int .i64 0, .int .i64 0, .nils, .nils, .nils]), .i (.stl 16 (.s 16) (.s 29) 10)]) (.seq (.ops [.i (.ldl 31 7 (.s 7) 5 true), .i (.ldl 32 8 (.s 8) 1 true), .i (.fad 33 (.s 9) 0), .i (.ldl 34 9 (.s 33) 1 false), .i (.fad 35 (.s 9) 1), .i (.ldl 36 9 (.s 35) 1 false), .i (.fad 37 (.s 16) 3), .i (.ldl 38 16 (.s 37) 1 false), .i (.mov 39 (.s 6)), .i (.call 41 55 false [(.s 31), (.s 32), (.s 34), (.s 36), (.s 38), (.s 39)]), .i (.mov 30 (.s 40)), .i (.ext 41 (.s 30) 0), .i (.ext 42 (.s 30) 1), .i (.lal 17 [.int .i64 0, .int .i64 0, .nils, .nils, .nils]), .i (.stl 17 (.s 17) (.s 41) 5), .i (.mov 18 (.s 42))]) (.seq (.ops [.i (.ldl 43 17 (.s 17) 5 true), .i (.fad 44 (.s 16) 5), .i (.stl 16 (.s 44) (.s 43) 5)]) (.seq (.seq (.ops [.i (.mov 45 (.s 18)), .i (.not 46 (.s 45)), .i (.mov 47 (.s 46)), .g 47 false 49 (.ldl 48 7 (.s 7) 5 true), .g 47 false 50 (.ldl 49 9 (.s 9) 10 true), .g 47 false 51 (.ldl 50 16 (.s 16) 10 true), .g 47 false 52 (.call 52 56 false [(.s 48), (.s 49), (.s 50)]), .g 47 false 53 (.not 52 (.s 51)), .i (.pick 53 (.s 47) (.c (.val false [.bool true])) (.s 52))]) (.cond (.s 53) (.seq (.ops [.i (.bld 54 [.int .i64 0, .int .i64 0, .int .i64 0, .nils, .nils, .int .i64 0, .int .i64 0, .nils, .nils, .nils] []), .i (.stl 14 (.s 14) (.s 54) 10), .i (.mov 15 (.c (.val false [.bool false])))]) .ret) .skip)) (.seq (.ops [.i (.ldl 55 16 (.s 16) 10 true), .i (.stl 14 (.s 14) (.s 55) 10), .i (.mov 15 (.c (.val false [.bool true])))]) .ret))))))⟩
theorem k_spec_NextHead : cd n_spec_NextHead = some c_spec_NextHead := by kernel_rfl
theorem spec_NextHead_ok (l : Lim) (t : Table) (a : Head) (view by_ : Int) (root bits : Bytes) (ht : t.wf) (ha : a.wc) (hn : I64 l.n) (hv : I64 view) (hp : I64 by_) (hr : Sz root.length) (hi : Sz bits.length) : VC cd n_spec_NextHead (mkP [(true, l.c), (true, t.c), (true, a.c), (false, [.int .i64 view]), (false, [.int .i64 by_]), (false, [.sl (bytes root)]), (false, [.sl (bytes bits)])]) (fun rs _ => rs = optHeadE (nextH l t a view by_ root bits)) := by
  have hr' := hr
  simp only [Sz] at hr
  have hs : Sz (sha (72 :: headB a)).length := by rw [sha_len]; simp [Sz]
  refine VC_enter k_spec_NextHead rfl ?_
  simp (disch := omega) [c_spec_NextHead, Lim.c, Table.c, Head.c, VE, VXR, VP, VB, VTup, kof, bl, it]
  cases hk : headOk l a with
  | false =>
    have hb : buildOk l t a.view a.height [] bits = false := build_nil
    have hz : nextH l t a view by_ root bits = none := by unfold nextH nextPOk; rw [hhash_f hk, hb]; rfl
    refine VXC_e ((spec_HeadHash_ok l a ha.1).re (hhashE_f hk)) (by first | rfl | (simp [Lim.c, Head.c, argsD, argDs, argD, St.slc, lk_cons, lk] <;> first | rfl | exact ⟨rfl, rfl⟩ | exact ⟨rfl, rfl, rfl⟩)) rfl ?_
    simp (disch := omega) [VE, VXR, VP, VB, VTup, kof, bl, it]
    refine VXC_e (l01Copy_ok root (by omega)) (by first | rfl | (simp [argsD, argDs, argD, St.slc, lk_cons, lk] <;> first | rfl | exact ⟨rfl, rfl⟩ | exact ⟨rfl, rfl, rfl⟩)) rfl ?_
    simp (disch := omega) [VE, VXR, VP, VB, VTup, kof, bl, it]
    refine VXC_e ((spec_BuildQc_ok l t a.view a.height [] bits ht ha.1.1 ha.1.2.1 hn (by simp [Sz]) hi).re (buildE_f hb)) (by first | rfl | (simp [Lim.c, Table.c, bytes_nil, argsD, argDs, argD, St.slc, lk_cons, lk] <;> first | rfl | exact ⟨rfl, rfl⟩ | exact ⟨rfl, rfl, rfl⟩)) rfl ?_
    simp (disch := omega) [hz, optHeadE, zeroHeadE, VE, VXR, VP, VB, VTup, kof, bl, it]
  | true =>
    refine VXC_e ((spec_HeadHash_ok l a ha.1).re (hhashE_t hk)) (by first | rfl | (simp [Lim.c, Head.c, argsD, argDs, argD, St.slc, lk_cons, lk] <;> first | rfl | exact ⟨rfl, rfl⟩ | exact ⟨rfl, rfl, rfl⟩)) rfl ?_
    simp (disch := omega) [VE, VXR, VP, VB, VTup, kof, bl, it]
    refine VXC_e (l01Copy_ok root (by omega)) (by first | rfl | (simp [argsD, argDs, argD, St.slc, lk_cons, lk] <;> first | rfl | exact ⟨rfl, rfl⟩ | exact ⟨rfl, rfl, rfl⟩)) rfl ?_
    simp (disch := omega) [VE, VXR, VP, VB, VTup, kof, bl, it]
    cases hb : buildOk l t a.view a.height (sha (72 :: headB a)) bits with
    | false =>
      have hz : nextH l t a view by_ root bits = none := by unfold nextH nextPOk; rw [hhash_t hk, hb]; rfl
      refine VXC_e ((spec_BuildQc_ok l t a.view a.height (sha (72 :: headB a)) bits ht ha.1.1 ha.1.2.1 hn hs hi).re (buildE_f hb)) (by first | rfl | (simp [Lim.c, Table.c, argsD, argDs, argD, St.slc, lk_cons, lk] <;> first | rfl | exact ⟨rfl, rfl⟩ | exact ⟨rfl, rfl, rfl⟩)) rfl ?_
      simp (disch := omega) [hz, optHeadE, zeroHeadE, VE, VXR, VP, VB, VTup, kof, bl, it]
    | true =>
      have hw := nextP_wf (l := l) ha.1 hv hp hs hr' hb
      refine VXC_e ((spec_BuildQc_ok l t a.view a.height (sha (72 :: headB a)) bits ht ha.1.1 ha.1.2.1 hn hs hi).re (buildE_t hb)) (by first | rfl | (simp [Lim.c, Table.c, argsD, argDs, argD, St.slc, lk_cons, lk] <;> first | rfl | exact ⟨rfl, rfl⟩ | exact ⟨rfl, rfl, rfl⟩)) rfl ?_
      simp (disch := omega) [VE, VXR, VP, VB, VTup, kof, bl, it]
      refine VXC_e (spec_Links_ok l a (nextP t a (sha (72 :: headB a)) view by_ root bits) ha.1 hw) (by first | rfl | (simp [Lim.c, Head.c, nextP, buildQ, argsD, argDs, argD, St.slc, lk_cons, lk] <;> first | rfl | exact ⟨rfl, rfl⟩ | exact ⟨rfl, rfl, rfl⟩)) rfl ?_
      simp (disch := omega) [VE, VXR, VP, VB, VTup, kof, bl, it]
      refine VXB_b (fun h1 => ?_) (fun h1 => ?_)
      · have hz : nextH l t a view by_ root bits = some (nextP t a (sha (72 :: headB a)) view by_ root bits) := by unfold nextH nextPOk; rw [hhash_t hk, hb, h1]; rfl
        simp (disch := omega) [h1, hz, optHeadE, Head.o, nextP, buildQ, VE, VXR, VP, VB, VTup, kof, bl, it]
      · have hz : nextH l t a view by_ root bits = none := by unfold nextH nextPOk; rw [hhash_t hk, hb, h1]; rfl
        simp (disch := omega) [h1, hz, optHeadE, zeroHeadE, VE, VXR, VP, VB, VTup, kof, bl, it]
/-! ### Proofs that are built -/
end Go.Eng.F
/-
  Functions: what is built, at the program's types.
-/
set_option maxRecDepth 100000
set_option linter.unusedSimpArgs false
set_option linter.unusedVariables false
namespace Go.Eng.F
open Go.Eng.U (TQc THead TLimits TTable TProof)
theorem ok_i64 {n : Int} (h : TvOk (.int .i64) (.i n)) : I64 n := by
  rw [ok_int] at h
  have h1 : IntKind.i64.min = -9223372036854775808 := rfl
  have h2 : IntKind.i64.max = 9223372036854775807 := rfl
  unfold I64
  omega
theorem Lim.n64 {l : Lim} (h : TvOk TLimits l.tv) : I64 l.n := by
  simp only [Lim.tv, ok_st, okS_cons] at h
  exact ok_i64 h.1
theorem Proof.rs (p : Proof) : EEq p.o (Go.Eng.enc TProof p.tv) := by rw [Proof.enc]; simp only [Proof.o, Proof.c, EEq, D.leaf, and_self]
theorem hhash_len (l : Lim) (h : Head) : (hhash l h).length ≤ 32 := by
  cases e : headOk l h with
  | true => rw [hhash_t e, sha_len]; exact Nat.le_refl _
  | false => rw [hhash_f e]; simp
theorem bss_wt {l : List Bytes} (h : ∀ x ∈ l, x.length ≤ 32) : wt (bssT l) ≤ 33 * l.length := by
  have h1 := wts_le (f := bsT) (B := 32) (l := l) fun x hx => by rw [wt_bs]; exact h x hx
  unfold bssT
  rw [wt_l, List.length_map]
  omega
theorem buildQ_wt {l : Lim} {t : Table} {v h : Int} {b bits : Bytes} (e : buildOk l t v h b bits = true) : wt (buildQ t v h b bits).tv ≤ b.length + 600 := by
  have h1 := build_bits e
  have h2 := bitsList_len bits
  have h3 := bss_wt (l := tagsOf t v h b (bitsList bits)) tagsOf_mem
  rw [tagsOf_len] at h3
  simp only [buildQ, Qc.tv, wt, wts, wt_bs]
  omega
theorem nextH_eq {l : Lim} {t : Table} {a h : Head} {view by_ : Int} {root bits : Bytes} (e : nextH l t a view by_ root bits = some h) : h = nextP t a (hhash l a) view by_ root bits ∧ buildOk l t a.view a.height (hhash l a) bits = true := by
  unfold nextH at e
  split at e
  · rename_i h1
    simp only [nextPOk, Bool.and_eq_true] at h1
    exact ⟨(Option.some.inj e).symm, h1.1⟩
  · cases e
theorem nextH_wc {l : Lim} {t : Table} {a : Head} {view by_ : Int} {root bits : Bytes} (ha : a.wc) (hv : I64 view) (hp : I64 by_) (hr : Sz root.length) : ∀ h, nextH l t a view by_ root bits = some h → h.wc := fun h e => by
  obtain ⟨rfl, h1⟩ := nextH_eq e
  exact nextP_wc (nextP_wf (l := l) ha.1 hv hp (by have := hhash_len l a; simp only [Sz]; omega) hr h1)
theorem nextH_wt (l : Lim) (t : Table) (a : Head) (view by_ : Int) (root bits : Bytes) : wt ((nextH l t a view by_ root bits).getD zeroHead).tv ≤ 1000 + wt (bsT root) := by
  cases e : nextH l t a view by_ root bits with
  | none => simp [zeroHead_wt]
  | some h =>
    obtain ⟨rfl, h1⟩ := nextH_eq e
    have h2 := buildQ_wt h1
    have h3 := hhash_len l a
    simp only [Option.getD_some, nextP, Head.tv, wt, wts, wt_bs]
    omega
theorem io_impl_NextHead {h0 : H} {l : Lim} {t : Table} {a : Head} {view by_ : Int} {root bits : Bytes} {ms : List (Bool × List C)} (ha : ArgsRp h0 [(TLimits, l.tv), (TTable, t.tv), (THead, a.tv), ((.int .i64), .i view), ((.int .i64), .i by_), ((.sl (.int .u8)), bsT root), ((.sl (.int .u8)), bsT bits)] ms) (hp1 : wt t.tv ≤ 1048576) (hp2 : wt a.tv ≤ 1048576) (hp5 : wt (bsT root) ≤ 1048576) (hp6 : wt (bsT bits) ≤ 1048576) :
    WC cd n_impl_NextHead ms h0 (Ans h0 [(THead, ((nextH l t a view by_ root bits).getD zeroHead).tv), (.bool, .b (nextH l t a view by_ root bits).isSome)]) := by
  obtain ⟨k0, mr0, ha0⟩ := ArgsRp.ok1 ha
  obtain ⟨k1, mr1, ha1⟩ := ArgsRp.ok1 ha0
  obtain ⟨k2, mr2, ha2⟩ := ArgsRp.ok1 ha1
  obtain ⟨k3, mr3, ha3⟩ := ArgsRp.ok1 ha2
  obtain ⟨k4, mr4, ha4⟩ := ArgsRp.ok1 ha3
  obtain ⟨k5, mr5, ha5⟩ := ArgsRp.ok1 ha4
  obtain ⟨k6, mr6, ha6⟩ := ArgsRp.ok1 ha5
  have w1 := Table.of k1 hp1
  have w2 := Head.of k2 hp2
  have w5 := bs_of hp5
  have w6 := bs_of hp6
  have hc := impl_NextHead_ok l t a view by_ root bits w1 w2 (Lim.n64 k0) (ok_i64 k3) (ok_i64 k4) w5 w6
  have e : encA [(TLimits, l.tv), (TTable, t.tv), (THead, a.tv), ((.int .i64), .i view), ((.int .i64), .i by_), ((.sl (.int .u8)), bsT root), ((.sl (.int .u8)), bsT bits)] = [(true, l.c), (true, t.c), (true, a.c), (false, [.int .i64 view]), (false, [.int .i64 by_]), (false, [.sl (bytes root)]), (false, [.sl (bytes bits)])] := by simp only [encA, List.map, Lim.enc, Head.enc, Qc.enc, enc_bss', enc_bs, enc_int, enc_bool, enc_str, enc_hds, Table.enc, Ty.agg]
  rw [← e] at hc
  exact hc.wc ha fun rs q => by rw [q]; exact optHead_rs (nextH_wc w2 (ok_i64 k3) (ok_i64 k4) w5)
theorem io_spec_NextHead {h0 : H} {l : Lim} {t : Table} {a : Head} {view by_ : Int} {root bits : Bytes} {ms : List (Bool × List C)} (ha : ArgsRp h0 [(TLimits, l.tv), (TTable, t.tv), (THead, a.tv), ((.int .i64), .i view), ((.int .i64), .i by_), ((.sl (.int .u8)), bsT root), ((.sl (.int .u8)), bsT bits)] ms) (hp1 : wt t.tv ≤ 1048576) (hp2 : wt a.tv ≤ 1048576) (hp5 : wt (bsT root) ≤ 1048576) (hp6 : wt (bsT bits) ≤ 1048576) :
    WC cd n_spec_NextHead ms h0 (Ans h0 [(THead, ((nextH l t a view by_ root bits).getD zeroHead).tv), (.bool, .b (nextH l t a view by_ root bits).isSome)]) := by
  obtain ⟨k0, mr0, ha0⟩ := ArgsRp.ok1 ha
  obtain ⟨k1, mr1, ha1⟩ := ArgsRp.ok1 ha0
  obtain ⟨k2, mr2, ha2⟩ := ArgsRp.ok1 ha1
  obtain ⟨k3, mr3, ha3⟩ := ArgsRp.ok1 ha2
  obtain ⟨k4, mr4, ha4⟩ := ArgsRp.ok1 ha3
  obtain ⟨k5, mr5, ha5⟩ := ArgsRp.ok1 ha4
  obtain ⟨k6, mr6, ha6⟩ := ArgsRp.ok1 ha5
  have w1 := Table.of k1 hp1
  have w2 := Head.of k2 hp2
  have w5 := bs_of hp5
  have w6 := bs_of hp6
  have hc := spec_NextHead_ok l t a view by_ root bits w1 w2 (Lim.n64 k0) (ok_i64 k3) (ok_i64 k4) w5 w6
  have e : encA [(TLimits, l.tv), (TTable, t.tv), (THead, a.tv), ((.int .i64), .i view), ((.int .i64), .i by_), ((.sl (.int .u8)), bsT root), ((.sl (.int .u8)), bsT bits)] = [(true, l.c), (true, t.c), (true, a.c), (false, [.int .i64 view]), (false, [.int .i64 by_]), (false, [.sl (bytes root)]), (false, [.sl (bytes bits)])] := by simp only [encA, List.map, Lim.enc, Head.enc, Qc.enc, enc_bss', enc_bs, enc_int, enc_bool, enc_str, enc_hds, Table.enc, Ty.agg]
  rw [← e] at hc
  exact hc.wc ha fun rs q => by rw [q]; exact optHead_rs (nextH_wc w2 (ok_i64 k3) (ok_i64 k4) w5)
end Go.Eng.F
