import Derived.Test.YtaicdpancmfhnaaGreatProg
import Derived.KernelRfl
import Derived.Test.YtaicdpancmfhnaaGreatGe
import Derived.Test.YtaicdpancmfhnaaGreatGf
/-
  Functions: limits, hashes, bitmaps.
-/
set_option maxRecDepth 100000
set_option linter.unusedSimpArgs false
set_option linter.unusedVariables false
namespace Go.Eng.F
noncomputable abbrev cd := code Proofs.Tryz.prog
def bss (l : List Bytes) : List (List D) := l.map fun x => [.sl (bytes x)]
theorem bss_len (l : List Bytes) : (bss l).length = l.length := by simp [bss]
theorem bss_get {l : List Bytes} {i : Nat} (h : i < l.length) : (bss l)[i]? = some [.sl (bytes l[i])] := by simp [bss, h]
theorem bytes_get {x : Bytes} {i : Nat} (h : i < x.length) : (bytes x)[i]? = some [.int .u8 (x[i].toNat : Int)] := by simp [bytes, h]
theorem take_all {α : Type} {p : α → Prop} {l : List α} {i : Nat} (h : ∀ x ∈ l.take i, p x) (hi : i < l.length) (hx : p l[i]) : ∀ x ∈ l.take (i + 1), p x := by
  intro x hm
  rw [List.take_add_one, List.getElem?_eq_getElem hi] at hm
  rcases List.mem_append.1 hm with hm | hm
  · exact h x hm
  · simp at hm; subst hm; exact hx
def inn (n lo hi : Int) : Bool := decide (lo ≤ n ∧ n ≤ hi)
abbrev n_impl_within : Nat := 103
def c_impl_within : AF := ⟨3, 4, [.tmp 6], (.seq (.ops [.i (.mov 6 (.c (.val false [.bool false])))]) (.seq (.ops [.i (.mov 7 (.s 1)), .i (.mov 8 (.s 0)), .i (.bin 9 .leq (.s 7) (.s 8)), .i (.mov 10 (.s 9)), .g 10 true 12 (.mov 11 (.s 0)), .g 10 true 13 (.mov 12 (.s 2)), .g 10 true 14 (.bin 13 .leq (.s 11) (.s 12)), .i (.pick 14 (.s 10) (.s 13) (.c (.val false [.bool false]))), .i (.mov 6 (.s 14))]) .ret))⟩
theorem k_impl_within : cd n_impl_within = some c_impl_within := by kernel_rfl
theorem within_ok (n lo hi : Int) : VC cd n_impl_within (mkP [(false, [.int .i64 n]), (false, [.int .i64 lo]), (false, [.int .i64 hi])]) (fun rs _ => rs = bl (inn n lo hi)) := by
  refine VC_enter k_impl_within rfl ?_
  simp (disch := omega) [c_impl_within, VE, VXR, VP, VB, VTup, kof, bl, it]
  refine VXB_dec (fun h1 => ?_) (fun h1 => ?_) <;> simp (disch := omega) [h1, inn, VE, VXR, VP, VB, VTup, kof, bl, it]
abbrev n_spec_l01In : Nat := 101
def c_spec_l01In : AF := ⟨3, 4, [.tmp 6], (.seq (.ops [.i (.mov 6 (.c (.val false [.bool false])))]) (.seq (.ops [.i (.mov 7 (.s 0)), .i (.mov 8 (.s 1)), .i (.bin 9 .geq (.s 7) (.s 8)), .i (.mov 10 (.s 9)), .g 10 true 12 (.mov 11 (.s 0)), .g 10 true 13 (.mov 12 (.s 2)), .g 10 true 14 (.bin 13 .leq (.s 11) (.s 12)), .i (.pick 14 (.s 10) (.s 13) (.c (.val false [.bool false]))), .i (.mov 6 (.s 14))]) .ret))⟩
theorem k_spec_l01In : cd n_spec_l01In = some c_spec_l01In := by kernel_rfl
theorem l01In_ok (n lo hi : Int) : VC cd n_spec_l01In (mkP [(false, [.int .i64 n]), (false, [.int .i64 lo]), (false, [.int .i64 hi])]) (fun rs _ => rs = bl (inn n lo hi)) := by
  refine VC_enter k_spec_l01In rfl ?_
  simp (disch := omega) [c_spec_l01In, VE, VXR, VP, VB, VTup, kof, bl, it]
  refine VXB_dec (fun h1 => ?_) (fun h1 => ?_) <;> simp (disch := omega) [h1, inn, VE, VXR, VP, VB, VTup, kof, bl, it]
structure Lim where
  n : Int
  tx : Int
  txs : Int
  frame : Int
  heads : Int
def Lim.c (l : Lim) : List D := [.int .i64 l.n, .int .i64 l.tx, .int .i64 l.txs, .int .i64 l.frame, .int .i64 l.heads]
def Lim.ok (l : Lim) : Bool := inn l.n 1 10 && inn l.tx 0 40 && inn l.txs 0 8 && inn l.frame 1 4000 && inn l.heads 3 5
abbrev n_impl_LimitsOk : Nat := 115
def c_impl_LimitsOk : AF := ⟨1, 5, [.tmp 2], (.seq (.ops [.i (.lbox 1 (.s 0)), .i (.mov 2 (.c (.val false [.bool false])))]) (.seq (.ops [.i (.fad 3 (.s 1) 0), .i (.ldl 4 1 (.s 3) 1 false), .i (.call 6 103 false [(.s 4), (.c (.val false [.int .i64 1])), (.c (.val false [.int .i64 10]))]), .i (.mov 6 (.s 5)), .g 6 true 8 (.fad 7 (.s 1) 1), .g 6 true 9 (.ldl 8 1 (.s 7) 1 false), .g 6 true 10 (.call 10 103 false [(.s 8), (.c (.val false [.int .i64 0])), (.c (.val false [.int .i64 40]))]), .i (.pick 10 (.s 6) (.s 9) (.c (.val false [.bool false]))), .i (.mov 11 (.s 10)), .g 11 true 13 (.fad 12 (.s 1) 2), .g 11 true 14 (.ldl 13 1 (.s 12) 1 false), .g 11 true 15 (.call 15 103 false [(.s 13), (.c (.val false [.int .i64 0])), (.c (.val false [.int .i64 8]))]), .i (.pick 15 (.s 11) (.s 14) (.c (.val false [.bool false]))), .i (.mov 16 (.s 15)), .g 16 true 18 (.fad 17 (.s 1) 3), .g 16 true 19 (.ldl 18 1 (.s 17) 1 false), .g 16 true 20 (.call 20 103 false [(.s 18), (.c (.val false [.int .i64 1])), (.c (.val false [.int .i64 4000]))]), .i (.pick 20 (.s 16) (.s 19) (.c (.val false [.bool false]))), .i (.mov 21 (.s 20)), .g 21 true 23 (.fad 22 (.s 1) 4), .g 21 true 24 (.ldl 23 1 (.s 22) 1 false), .g 21 true 25 (.call 25 103 false [(.s 23), (.c (.val false [.int .i64 3])), (.c (.val false [.int .i64 5]))]), .i (.pick 25 (.s 21) (.s 24) (.c (.val false [.bool false]))), .i (.mov 2 (.s 25))]) .ret))⟩
theorem k_impl_LimitsOk : cd n_impl_LimitsOk = some c_impl_LimitsOk := by kernel_rfl
theorem impl_LimitsOk_ok (l : Lim) : VC cd n_impl_LimitsOk (mkP [(true, l.c)]) (fun rs _ => rs = bl l.ok) := by
  refine VC_enter k_impl_LimitsOk rfl ?_
  simp (disch := omega) [c_impl_LimitsOk, Lim.c, VE, VXR, VP, VB, VTup, kof, bl, it]
  refine VXC_e (within_ok _ _ _) rfl rfl ?_
  simp (disch := omega) [VE, VXR, VP, VB, VTup, kof, bl, it]
  refine VXB_b (fun h1 => ?_) (fun h1 => ?_) <;> simp (disch := omega) [h1, Lim.ok, VE, VXR, VP, VB, VTup, kof, bl, it]
  refine VXC_e (within_ok _ _ _) rfl rfl ?_
  simp (disch := omega) [h1, VE, VXR, VP, VB, VTup, kof, bl, it]
  refine VXB_b (fun h2 => ?_) (fun h2 => ?_) <;> simp (disch := omega) [h1, h2, VE, VXR, VP, VB, VTup, kof, bl, it]
  refine VXC_e (within_ok _ _ _) rfl rfl ?_
  simp (disch := omega) [h1, h2, VE, VXR, VP, VB, VTup, kof, bl, it]
  refine VXB_b (fun h3 => ?_) (fun h3 => ?_) <;> simp (disch := omega) [h1, h2, h3, VE, VXR, VP, VB, VTup, kof, bl, it]
  refine VXC_e (within_ok _ _ _) rfl rfl ?_
  simp (disch := omega) [h1, h2, h3, VE, VXR, VP, VB, VTup, kof, bl, it]
  refine VXB_b (fun h4 => ?_) (fun h4 => ?_) <;> simp (disch := omega) [h1, h2, h3, h4, VE, VXR, VP, VB, VTup, kof, bl, it]
  refine VXC_e (within_ok _ _ _) rfl rfl ?_
  simp (disch := omega) [h1, h2, h3, h4, VE, VXR, VP, VB, VTup, kof, bl, it]
abbrev n_spec_l02Signers : Nat := 124
def c_spec_l02Signers : AF := ⟨1, 3, [.tmp 2], (.seq (.ops [.i (.mov 2 (.c (.val false [.bool false])))]) (.seq (.ops [.i (.mov 3 (.s 0)), .i (.call 5 101 false [(.s 3), (.c (.val false [.int .i64 1])), (.c (.val false [.int .i64 10]))]), .i (.mov 2 (.s 4))]) .ret))⟩
theorem k_spec_l02Signers : cd n_spec_l02Signers = some c_spec_l02Signers := by kernel_rfl
theorem spec_l02Signers_ok (n : Int) : VC cd n_spec_l02Signers (mkP [(false, [.int .i64 n])]) (fun rs _ => rs = bl (inn n 1 10)) := by
  refine VC_enter k_spec_l02Signers rfl ?_
  simp (disch := omega) [c_spec_l02Signers, VE, VXR, VP, VB, VTup, kof, bl, it]
  refine VXC_e (l01In_ok _ _ _) rfl rfl ?_
  simp (disch := omega) [VE, VXR, VP, VB, VTup, kof, bl, it]
abbrev n_spec_LimitsOk : Nat := 100
def c_spec_LimitsOk : AF := ⟨1, 5, [.tmp 2], (.seq (.ops [.i (.lbox 1 (.s 0)), .i (.mov 2 (.c (.val false [.bool false])))]) (.seq (.ops [.i (.fad 3 (.s 1) 0), .i (.ldl 4 1 (.s 3) 1 false), .i (.call 6 124 false [(.s 4)]), .i (.mov 6 (.s 5)), .g 6 true 8 (.fad 7 (.s 1) 1), .g 6 true 9 (.ldl 8 1 (.s 7) 1 false), .g 6 true 10 (.call 10 101 false [(.s 8), (.c (.val false [.int .i64 0])), (.c (.val false [.int .i64 40]))]), .i (.pick 10 (.s 6) (.s 9) (.c (.val false [.bool false]))), .i (.mov 11 (.s 10)), .g 11 true 13 (.fad 12 (.s 1) 2), .g 11 true 14 (.ldl 13 1 (.s 12) 1 false), .g 11 true 15 (.call 15 101 false [(.s 13), (.c (.val false [.int .i64 0])), (.c (.val false [.int .i64 8]))]), .i (.pick 15 (.s 11) (.s 14) (.c (.val false [.bool false]))), .i (.mov 16 (.s 15)), .g 16 true 18 (.fad 17 (.s 1) 3), .g 16 true 19 (.ldl 18 1 (.s 17) 1 false), .g 16 true 20 (.call 20 101 false [(.s 18), (.c (.val false [.int .i64 1])), (.c (.val false [.int .i64 4000]))]), .i (.pick 20 (.s 16) (.s 19) (.c (.val false [.bool false]))), .i (.mov 21 (.s 20)), .g 21 true 23 (.fad 22 (.s 1) 4), .g 21 true 24 (.ldl 23 1 (.s 22) 1 false), .g 21 true 25 (.call 25 101 false [(.s 23), (.c (.val false [.int .i64 3])), (.c (.val false [.int .i64 5]))]), .i (.pick 25 (.s 21) (.s 24) (.c (.val false [.bool false]))), .i (.mov 2 (.s 25))]) .ret))⟩
theorem k_spec_LimitsOk : cd n_spec_LimitsOk = some c_spec_LimitsOk := by kernel_rfl
theorem spec_LimitsOk_ok (l : Lim) : VC cd n_spec_LimitsOk (mkP [(true, l.c)]) (fun rs _ => rs = bl l.ok) := by
  refine VC_enter k_spec_LimitsOk rfl ?_
  simp (disch := omega) [c_spec_LimitsOk, Lim.c, VE, VXR, VP, VB, VTup, kof, bl, it]
  refine VXC_e (spec_l02Signers_ok _) rfl rfl ?_
  simp (disch := omega) [VE, VXR, VP, VB, VTup, kof, bl, it]
  refine VXB_b (fun h1 => ?_) (fun h1 => ?_) <;> simp (disch := omega) [h1, Lim.ok, VE, VXR, VP, VB, VTup, kof, bl, it]
  refine VXC_e (l01In_ok _ _ _) rfl rfl ?_
  simp (disch := omega) [h1, VE, VXR, VP, VB, VTup, kof, bl, it]
  refine VXB_b (fun h2 => ?_) (fun h2 => ?_) <;> simp (disch := omega) [h1, h2, VE, VXR, VP, VB, VTup, kof, bl, it]
  refine VXC_e (l01In_ok _ _ _) rfl rfl ?_
  simp (disch := omega) [h1, h2, VE, VXR, VP, VB, VTup, kof, bl, it]
  refine VXB_b (fun h3 => ?_) (fun h3 => ?_) <;> simp (disch := omega) [h1, h2, h3, VE, VXR, VP, VB, VTup, kof, bl, it]
  refine VXC_e (l01In_ok _ _ _) rfl rfl ?_
  simp (disch := omega) [h1, h2, h3, VE, VXR, VP, VB, VTup, kof, bl, it]
  refine VXB_b (fun h4 => ?_) (fun h4 => ?_) <;> simp (disch := omega) [h1, h2, h3, h4, VE, VXR, VP, VB, VTup, kof, bl, it]
  refine VXC_e (l01In_ok _ _ _) rfl rfl ?_
  simp (disch := omega) [h1, h2, h3, h4, VE, VXR, VP, VB, VTup, kof, bl, it]
def isNum (n : Int) : Bool := inn n 0 1152921504606846975
abbrev n_impl_isNum : Nat := 112
def c_impl_isNum : AF := ⟨1, 3, [.tmp 2], (.seq (.ops [.i (.mov 2 (.c (.val false [.bool false])))]) (.seq (.ops [.i (.mov 3 (.s 0)), .i (.call 5 103 false [(.s 3), (.c (.val false [.int .i64 0])), (.c (.val false [.int .i64 1152921504606846975]))]), .i (.mov 2 (.s 4))]) .ret))⟩
theorem k_impl_isNum : cd n_impl_isNum = some c_impl_isNum := by kernel_rfl
theorem isNum_ok (n : Int) : VC cd n_impl_isNum (mkP [(false, [.int .i64 n])]) (fun rs _ => rs = bl (isNum n)) := by
  refine VC_enter k_impl_isNum rfl ?_
  simp (disch := omega) [c_impl_isNum, VE, VXR, VP, VB, VTup, kof, bl, it]
  refine VXC_e (within_ok _ _ _) rfl rfl ?_
  simp (disch := omega) [isNum, VE, VXR, VP, VB, VTup, kof, bl, it]
abbrev n_spec_l01Num : Nat := 107
def c_spec_l01Num : AF := ⟨1, 3, [.tmp 2], (.seq (.ops [.i (.mov 2 (.c (.val false [.bool false])))]) (.seq (.ops [.i (.mov 3 (.s 0)), .i (.call 5 101 false [(.s 3), (.c (.val false [.int .i64 0])), (.c (.val false [.int .i64 1152921504606846975]))]), .i (.mov 2 (.s 4))]) .ret))⟩
theorem k_spec_l01Num : cd n_spec_l01Num = some c_spec_l01Num := by kernel_rfl
theorem l01Num_ok (n : Int) : VC cd n_spec_l01Num (mkP [(false, [.int .i64 n])]) (fun rs _ => rs = bl (isNum n)) := by
  refine VC_enter k_spec_l01Num rfl ?_
  simp (disch := omega) [c_spec_l01Num, VE, VXR, VP, VB, VTup, kof, bl, it]
  refine VXC_e (l01In_ok _ _ _) rfl rfl ?_
  simp (disch := omega) [isNum, VE, VXR, VP, VB, VTup, kof, bl, it]
def hash (x : Bytes) : Bool := x.length == 32
def hashes (l : List Bytes) : Bool := l.all hash
theorem hashes_of {l : List Bytes} (h : ∀ x ∈ l.take l.length, hash x = true) : hashes l = true := by
  rw [List.take_length] at h
  simpa [hashes] using h
theorem hashes_no {l : List Bytes} {i : Nat} (hi : i < l.length) (h : hash l[i] = false) : hashes l = false := by
  simp only [hashes, List.all_eq_false]
  exact ⟨l[i], List.getElem_mem hi, by simp [h]⟩
abbrev n_impl_areHashes : Nat := 113
def c_impl_areHashes : AF := ⟨1, 4, [.tmp 2], (.seq (.ops [.i (.mov 2 (.c (.val false [.bool false])))]) (.seq (.seq (.ops [.i (.mov 5 (.s 0)), .i (.len 6 false (.s 5)), .i (.mov 7 (.c (.val false [.int .i64 0])))]) (.block 0 (.loop [14, 13, 12, 11, 10, 9, 8, 4] (.seq (.ops [.i (.bin 8 .lss (.s 7) (.s 6))]) (.seq (.cond (.s 8) .skip (.exit 0)) (.seq (.block 1 (.seq (.ops [.i (.iad 9 (.s 5) (.s 7) 1), .i (.ldh 10 (.s 9) 1 false), .i (.mov 4 (.s 10))]) (.seq (.ops [.i (.mov 11 (.s 4)), .i (.len 12 false (.s 11)), .i (.bin 13 .neq (.s 12) (.c (.val false [.int .i64 32])))]) (.cond (.s 13) (.seq (.ops [.i (.mov 2 (.c (.val false [.bool false])))]) .ret) .skip)))) (.ops [.i (.bin 14 .add (.s 7) (.c (.val false [.int .i64 1]))), .i (.mov 7 (.s 14))]))))))) (.seq (.ops [.i (.mov 2 (.c (.val false [.bool true])))]) .ret)))⟩
theorem k_impl_areHashes : cd n_impl_areHashes = some c_impl_areHashes := by kernel_rfl
theorem areHashes_ok (l : List Bytes) (hl : l.length ≤ 1099511627776) : VC cd n_impl_areHashes (mkP [(false, [.sl (bss l)])]) (fun rs _ => rs = bl (hashes l)) := by
  refine VC_enter k_impl_areHashes rfl ?_
  simp (disch := omega) [c_impl_areHashes, bss_len, VE, VXR, VP, VB, VTup, kof, bl, it]
  refine VX_loop2 (σ := Nat) (f1 := _) (by simp (disch := omega) [VE, VXR, VP, VB, VTup, kof, bl, it]; rfl) (fun i => [(7, .val false [.int .i64 i])]) (fun _ => []) (fun i g => g + i = l.length ∧ ∀ x ∈ l.take i, hash x = true) 0 l.length (by simp (disch := omega) [VE, VXR, VP, VB, VTup, kof, bl, it]) trivial ⟨by omega, by simp⟩ ?_
  rintro i n g ⟨hg, hi⟩
  simp (disch := omega) [bss_len, VE, VXR, VP, VB, VTup, kof, bl, it]
  refine VXB_dec (fun h1 => ?_) (fun h1 => ?_)
  · simp (disch := omega) [bss_get h1, VE, VXR, VP, VB, VTup, kof, bl, it]
    refine VXB_dec (fun h2 => ?_) (fun h2 => ?_)
    · simp (disch := omega) [VE, VXR, VP, VB, VTup, kof, bl, it]
      exact ⟨i + 1, g - 1, by omega, ⟨by omega, take_all hi h1 (by simp [hash]; omega)⟩, by simp⟩
    · simp (disch := omega) [VE, VXR, VP, VB, VTup, kof, bl, it]
      exact hashes_no h1 (by simp [hash]; omega)
  · simp (disch := omega) [VE, VXR, VP, VB, VTup, kof, bl, it]
    have : i = l.length := by omega
    subst this
    exact hashes_of hi
abbrev n_spec_l07Hash : Nat := 109
def c_spec_l07Hash : AF := ⟨1, 3, [.tmp 2], (.seq (.ops [.i (.mov 2 (.c (.val false [.bool false])))]) (.seq (.ops [.i (.mov 3 (.s 0)), .i (.len 4 false (.s 3)), .i (.bin 5 .eql (.s 4) (.c (.val false [.int .i64 32]))), .i (.mov 2 (.s 5))]) .ret))⟩
theorem k_spec_l07Hash : cd n_spec_l07Hash = some c_spec_l07Hash := by kernel_rfl
theorem l07Hash_ok (x : Bytes) : VC cd n_spec_l07Hash (mkP [(false, [.sl (bytes x)])]) (fun rs _ => rs = bl (hash x)) := by
  refine VC_enter k_spec_l07Hash rfl ?_
  simp (disch := omega) [c_spec_l07Hash, hash, VE, VXR, VP, VB, VTup, kof, bl, it]
  rw [Bool.eq_iff_iff]
  simp only [decide_eq_true_eq, beq_iff_eq]
  omega
abbrev n_spec_l08Hashes : Nat := 130
def c_spec_l08Hashes : AF := ⟨1, 4, [.tmp 2], (.seq (.ops [.i (.mov 2 (.c (.val false [.bool false])))]) (.seq (.seq (.ops [.i (.mov 5 (.s 0)), .i (.len 6 false (.s 5)), .i (.mov 7 (.c (.val false [.int .i64 0])))]) (.block 0 (.loop [14, 13, 12, 11, 10, 9, 8, 4] (.seq (.ops [.i (.bin 8 .lss (.s 7) (.s 6))]) (.seq (.cond (.s 8) .skip (.exit 0)) (.seq (.block 1 (.seq (.ops [.i (.iad 9 (.s 5) (.s 7) 1), .i (.ldh 10 (.s 9) 1 false), .i (.mov 4 (.s 10))]) (.seq (.ops [.i (.mov 11 (.s 4)), .i (.call 13 109 false [(.s 11)]), .i (.not 13 (.s 12))]) (.cond (.s 13) (.seq (.ops [.i (.mov 2 (.c (.val false [.bool false])))]) .ret) .skip)))) (.ops [.i (.bin 14 .add (.s 7) (.c (.val false [.int .i64 1]))), .i (.mov 7 (.s 14))]))))))) (.seq (.ops [.i (.mov 2 (.c (.val false [.bool true])))]) .ret)))⟩
theorem k_spec_l08Hashes : cd n_spec_l08Hashes = some c_spec_l08Hashes := by kernel_rfl
theorem l08Hashes_ok (l : List Bytes) (hl : l.length ≤ 1099511627776) : VC cd n_spec_l08Hashes (mkP [(false, [.sl (bss l)])]) (fun rs _ => rs = bl (hashes l)) := by
  refine VC_enter k_spec_l08Hashes rfl ?_
  simp (disch := omega) [c_spec_l08Hashes, bss_len, VE, VXR, VP, VB, VTup, kof, bl, it]
  refine VX_loop2 (σ := Nat) (f1 := _) (by simp (disch := omega) [VE, VXR, VP, VB, VTup, kof, bl, it]; rfl) (fun i => [(7, .val false [.int .i64 i])]) (fun _ => []) (fun i g => g + i = l.length ∧ ∀ x ∈ l.take i, hash x = true) 0 l.length (by simp (disch := omega) [VE, VXR, VP, VB, VTup, kof, bl, it]) trivial ⟨by omega, by simp⟩ ?_
  rintro i n g ⟨hg, hi⟩
  simp (disch := omega) [bss_len, VE, VXR, VP, VB, VTup, kof, bl, it]
  refine VXB_dec (fun h1 => ?_) (fun h1 => ?_)
  · simp (disch := omega) [bss_get h1, VE, VXR, VP, VB, VTup, kof, bl, it]
    refine VXC_e (l07Hash_ok _) rfl rfl ?_
    simp (disch := omega) [VE, VXR, VP, VB, VTup, kof, bl, it]
    refine VXB_b (fun h2 => ?_) (fun h2 => ?_)
    · simp (disch := omega) [VE, VXR, VP, VB, VTup, kof, bl, it]
      exact ⟨i + 1, g - 1, by omega, ⟨by omega, take_all hi h1 h2⟩, by simp⟩
    · simp (disch := omega) [VE, VXR, VP, VB, VTup, kof, bl, it]
      exact hashes_no h1 h2
  · simp (disch := omega) [VE, VXR, VP, VB, VTup, kof, bl, it]
    have : i = l.length := by omega
    subst this
    exact hashes_of hi
/-! ### Bitmaps -/
def bsz (n : Int) : Int := if n < 1 then 0 else (n - 1) / 8 + 1
abbrev n_impl_BitsSize : Nat := 135
def c_impl_BitsSize : AF := ⟨1, 4, [.tmp 2], (.seq (.ops [.i (.mov 2 (.c (.val false [.int .i64 0])))]) (.seq (.seq (.ops [.i (.mov 3 (.s 0)), .i (.bin 4 .lss (.s 3) (.c (.val false [.int .i64 1])))]) (.cond (.s 4) (.seq (.ops [.i (.mov 2 (.c (.val false [.int .i64 0])))]) .ret) .skip)) (.seq (.ops [.i (.mov 5 (.s 0)), .i (.bin 6 .sub (.s 5) (.c (.val false [.int .i64 1]))), .i (.bin 7 .quo (.s 6) (.c (.val false [.int .i64 8]))), .i (.bin 8 .add (.s 7) (.c (.val false [.int .i64 1]))), .i (.mov 2 (.s 8))]) .ret)))⟩
theorem k_impl_BitsSize : cd n_impl_BitsSize = some c_impl_BitsSize := by kernel_rfl
theorem impl_BitsSize_ok (n : Int) (h1 : -9223372036854775808 ≤ n) (h2 : n < 9223372036854775808) : VC cd n_impl_BitsSize (mkP [(false, [.int .i64 n])]) (fun rs _ => rs = it (bsz n)) := by
  refine VC_enter k_impl_BitsSize rfl ?_
  simp (disch := omega) [c_impl_BitsSize, VE, VXR, VP, VB, VTup, kof, bl, it]
  refine VXB_dec (fun h3 => ?_) (fun h3 => ?_)
  · simp (disch := omega) [bsz, h3, VE, VXR, VP, VB, VTup, kof, bl, it]
  · have e : (n - 1).tdiv 8 = (n - 1) / 8 := Int.tdiv_eq_ediv_of_nonneg (by omega)
    simp (disch := omega) [bsz, e, VE, VXR, VP, VB, VTup, kof, bl, it]
    omega
abbrev n_spec_BitsSize : Nat := 125
def c_spec_BitsSize : AF := ⟨1, 4, [.tmp 2], (.seq (.ops [.i (.mov 2 (.c (.val false [.int .i64 0])))]) (.seq (.seq (.ops [.i (.mov 3 (.s 0)), .i (.bin 4 .lss (.s 3) (.c (.val false [.int .i64 1])))]) (.cond (.s 4) (.seq (.ops [.i (.mov 2 (.c (.val false [.int .i64 0])))]) .ret) .skip)) (.seq (.ops [.i (.mov 5 (.s 0)), .i (.bin 6 .sub (.s 5) (.c (.val false [.int .i64 1]))), .i (.bin 7 .quo (.s 6) (.c (.val false [.int .i64 8]))), .i (.bin 8 .add (.s 7) (.c (.val false [.int .i64 1]))), .i (.mov 2 (.s 8))]) .ret)))⟩
theorem k_spec_BitsSize : cd n_spec_BitsSize = some c_spec_BitsSize := by kernel_rfl
theorem spec_BitsSize_ok (n : Int) (h1 : -9223372036854775808 ≤ n) (h2 : n < 9223372036854775808) : VC cd n_spec_BitsSize (mkP [(false, [.int .i64 n])]) (fun rs _ => rs = it (bsz n)) := by
  refine VC_enter k_spec_BitsSize rfl ?_
  simp (disch := omega) [c_spec_BitsSize, VE, VXR, VP, VB, VTup, kof, bl, it]
  refine VXB_dec (fun h3 => ?_) (fun h3 => ?_)
  · simp (disch := omega) [bsz, h3, VE, VXR, VP, VB, VTup, kof, bl, it]
  · have e : (n - 1).tdiv 8 = (n - 1) / 8 := Int.tdiv_eq_ediv_of_nonneg (by omega)
    simp (disch := omega) [bsz, e, VE, VXR, VP, VB, VTup, kof, bl, it]
    omega
/-- Is bit i set? -/
def hasBit (b : Bytes) (i : Nat) : Bool := match b[i / 8]? with | some x => x.toNat.testBit (i % 8) | none => false
theorem bit_impl : ∀ x < 256, ∀ s < 8, decide (bits2 .and .u8 (Int.fdiv (x : Nat) (2 ^ (min s 8))) 1 = 1) = Nat.testBit x s := by decide +kernel
theorem bit_spec : ∀ x < 256, ∀ s < 8, decide (Int.tmod (Int.fdiv (x : Nat) (2 ^ (min s 64))) 2 = 1) = Nat.testBit x s := by decide +kernel
theorem tdiv8 (i : Nat) : Int.tdiv (i : Int) 8 = ((i / 8 : Nat) : Int) := by rw [Int.tdiv_eq_ediv_of_nonneg (by omega)]; omega
theorem tmod8 (i : Nat) : Int.tmod (i : Int) 8 = ((i % 8 : Nat) : Int) := by rw [Int.tmod_eq_emod_of_nonneg (by omega)]; omega
theorem u8lt (x : UInt8) : x.toNat < 256 := x.toNat_lt
theorem hasBit_in {b : Bytes} {i : Nat} (h : i / 8 < b.length) : hasBit b i = b[i / 8].toNat.testBit (i % 8) := by simp [hasBit, h]
theorem hasBit_out {b : Bytes} {i : Nat} (h : ¬ i / 8 < b.length) : hasBit b i = false := by
  unfold hasBit
  rw [List.getElem?_eq_none (by omega)]
theorem nat8 (i : Nat) : (0 : Int) ≤ (i : Int) / 8 ∧ ((i : Int) / 8).toNat = i / 8 ∧ ¬ (i : Int) % 8 < 0 ∧ ((i : Int) % 8).toNat = i % 8 := by omega
abbrev n_impl_BitsHas : Nat := 136
def c_impl_BitsHas : AF := ⟨2, 5, [.tmp 4], (.seq (.ops [.i (.mov 4 (.c (.val false [.bool false])))]) (.seq (.ops [.i (.mov 5 (.s 1)), .i (.mov 6 (.s 0)), .i (.len 7 false (.s 6)), .i (.bin 8 .mul (.c (.val false [.int .i64 8])) (.s 7)), .i (.bin 9 .sub (.s 8) (.c (.val false [.int .i64 1]))), .i (.call 11 103 false [(.s 5), (.c (.val false [.int .i64 0])), (.s 9)]), .i (.mov 11 (.s 10)), .g 11 true 13 (.mov 12 (.s 0)), .g 11 true 14 (.mov 13 (.s 1)), .g 11 true 15 (.bin 14 .quo (.s 13) (.c (.val false [.int .i64 8]))), .g 11 true 16 (.iad 15 (.s 12) (.s 14) 1), .g 11 true 17 (.ldh 16 (.s 15) 1 false), .g 11 true 18 (.mov 17 (.s 1)), .g 11 true 19 (.bin 18 .rem (.s 17) (.c (.val false [.int .i64 8]))), .g 11 true 20 (.bin 19 .shr (.s 16) (.s 18)), .g 11 true 21 (.bin 20 .and (.s 19) (.c (.val false [.int .u8 1]))), .g 11 true 22 (.bin 21 .eql (.s 20) (.c (.val false [.int .u8 1]))), .i (.pick 22 (.s 11) (.s 21) (.c (.val false [.bool false]))), .i (.mov 4 (.s 22))]) .ret))⟩
theorem k_impl_BitsHas : cd n_impl_BitsHas = some c_impl_BitsHas := by kernel_rfl
theorem impl_BitsHas_ok (b : Bytes) (i : Nat) (hb : b.length ≤ 1099511627776) (hi : i ≤ 1099511627776) : VC cd n_impl_BitsHas (mkP [(false, [.sl (bytes b)]), (false, [.int .i64 i])]) (fun rs _ => rs = bl (hasBit b i)) := by
  refine VC_enter k_impl_BitsHas rfl ?_
  simp (disch := omega) [c_impl_BitsHas, VE, VXR, VP, VB, VTup, kof, bl, it]
  refine VXC_e (within_ok _ _ _) rfl rfl ?_
  simp (disch := omega) [VE, VXR, VP, VB, VTup, kof, bl, it]
  refine VXB_b (fun h1 => ?_) (fun h1 => ?_)
  · have hx : i / 8 < b.length := by simp [inn] at h1; omega
    have e := bit_impl b[i / 8].toNat (u8lt _) (i % 8) (Nat.mod_lt _ (by omega))
    rw [hasBit_in hx, ← e]
    simp (disch := omega) [h1, tdiv8, tmod8, bytes_get hx, nat8 i, IntKind.bits, VE, VXR, VP, VB, VTup, kof, bl, it]
  · simp (disch := omega) [h1, VE, VXR, VP, VB, VTup, kof, bl, it]
    refine hasBit_out ?_
    simp [inn] at h1
    omega
abbrev n_spec_BitsHas : Nat := 126
def c_spec_BitsHas : AF := ⟨2, 5, [.tmp 4], (.seq (.ops [.i (.mov 4 (.c (.val false [.bool false])))]) (.seq (.ops [.i (.mov 5 (.s 1)), .i (.bin 6 .geq (.s 5) (.c (.val false [.int .i64 0]))), .i (.mov 7 (.s 6)), .g 7 true 9 (.mov 8 (.s 1)), .g 7 true 10 (.bin 9 .quo (.s 8) (.c (.val false [.int .i64 8]))), .g 7 true 11 (.mov 10 (.s 0)), .g 7 true 12 (.len 11 false (.s 10)), .g 7 true 13 (.bin 12 .lss (.s 9) (.s 11)), .i (.pick 13 (.s 7) (.s 12) (.c (.val false [.bool false]))), .i (.mov 14 (.s 13)), .g 14 true 16 (.mov 15 (.s 0)), .g 14 true 17 (.mov 16 (.s 1)), .g 14 true 18 (.bin 17 .quo (.s 16) (.c (.val false [.int .i64 8]))), .g 14 true 19 (.iad 18 (.s 15) (.s 17) 1), .g 14 true 20 (.ldh 19 (.s 18) 1 false), .g 14 true 21 (.cvi 20 .i64 (.s 19)), .g 14 true 22 (.mov 21 (.s 1)), .g 14 true 23 (.bin 22 .rem (.s 21) (.c (.val false [.int .i64 8]))), .g 14 true 24 (.bin 23 .shr (.s 20) (.s 22)), .g 14 true 25 (.bin 24 .rem (.s 23) (.c (.val false [.int .i64 2]))), .g 14 true 26 (.bin 25 .eql (.s 24) (.c (.val false [.int .i64 1]))), .i (.pick 26 (.s 14) (.s 25) (.c (.val false [.bool false]))), .i (.mov 4 (.s 26))]) .ret))⟩
theorem k_spec_BitsHas : cd n_spec_BitsHas = some c_spec_BitsHas := by kernel_rfl
theorem spec_BitsHas_ok (b : Bytes) (i : Nat) (hb : b.length ≤ 1099511627776) (hi : i ≤ 1099511627776) : VC cd n_spec_BitsHas (mkP [(false, [.sl (bytes b)]), (false, [.int .i64 i])]) (fun rs _ => rs = bl (hasBit b i)) := by
  refine VC_enter k_spec_BitsHas rfl ?_
  simp (disch := omega) [c_spec_BitsHas, tdiv8, VE, VXR, VP, VB, VTup, kof, bl, it]
  refine VXB_dec (fun h1 => ?_) (fun h1 => ?_)
  · have hx : i / 8 < b.length := by omega
    have e := bit_spec b[i / 8].toNat (u8lt _) (i % 8) (Nat.mod_lt _ (by omega))
    have hw : IntKind.i64.wrap (b[i / 8].toNat : Int) = b[i / 8].toNat := w64 (by omega) (by have := u8lt b[i / 8]; omega)
    rw [hasBit_in hx, ← e]
    simp (disch := omega) [h1, tdiv8, tmod8, bytes_get hx, nat8 i, hw, IntKind.bits, VE, VXR, VP, VB, VTup, kof, bl, it]
  · simp (disch := omega) [h1, VE, VXR, VP, VB, VTup, kof, bl, it]
    exact hasBit_out (by omega)
/-! ### The set bits -/
def bitsList (b : Bytes) : List Nat := (List.range (8 * b.length)).filter (hasBit b)
def nats (l : List Nat) : List (List D) := l.map fun (n : Nat) => [.int .i64 (n : Int)]
theorem nats_len (l : List Nat) : (nats l).length = l.length := by simp [nats]
theorem flat_nats (l : List Nat) : flat (nats l) = true := by
  induction l with
  | nil => rfl
  | cons n l ih => simp only [nats, List.map_cons, flat, leafs, D.leaf] at ih ⊢; simpa using ih
theorem wid_nats (l : List Nat) : wid 1 (nats l) = true := by
  induction l with
  | nil => rfl
  | cons n l ih => simp only [nats, List.map_cons, wid] at ih ⊢; simpa using ih
theorem nats_snoc (l : List Nat) (n : Nat) : nats l ++ [[.int .i64 (n : Int)]] = nats (l ++ [n]) := by simp [nats]
theorem nats_get {l : List Nat} {i : Nat} (h : i < l.length) : (nats l)[i]? = some [.int .i64 (l[i] : Int)] := by simp [nats, h]
theorem filter_succ (p : Nat → Bool) (i : Nat) : (List.range (i + 1)).filter p = (List.range i).filter p ++ (if p i = true then [i] else []) := by
  rw [List.range_succ, List.filter_append]
  congr 1
  cases h : p i <;> simp [h]
theorem filter_le (p : Nat → Bool) (i : Nat) : ((List.range i).filter p).length ≤ i := by
  have := List.length_filter_le p (List.range i)
  simpa using this
abbrev n_impl_BitsList : Nat := 95
def c_impl_BitsList : AF := ⟨1, 5, [.tmp 2], (.seq (.ops [.i (.mov 2 (.c (.val false [.nils])))]) (.seq (.ops [.i (.bse 5), .i (.mov 3 (.s 5))]) (.seq (.seq (.ops [.i (.mov 6 (.s 0)), .i (.len 7 false (.s 6)), .i (.bin 8 .mul (.c (.val false [.int .i64 8])) (.s 7)), .i (.mov 9 (.c (.val false [.int .i64 0])))]) (.block 0 (.loop [19, 18, 17, 16, 15, 14, 13, 12, 11, 10, 4] (.seq (.ops [.i (.bin 10 .lss (.s 9) (.s 8))]) (.seq (.cond (.s 10) .skip (.exit 0)) (.seq (.block 1 (.seq (.ops [.i (.mov 11 (.s 9)), .i (.mov 4 (.s 11))]) (.seq (.ops [.i (.mov 12 (.s 0)), .i (.mov 13 (.s 4)), .i (.call 15 136 false [(.s 12), (.s 13)])]) (.cond (.s 14) (.ops [.i (.mov 15 (.s 3)), .i (.mov 16 (.s 4)), .i (.lsl 17 1 1 [.int .i64 0] [(0, 1, (.s 16))]), .i (.app 18 3 1 8 (.s 15) (.s 17)), .i (.mov 3 (.s 18))]) .skip)))) (.ops [.i (.bin 19 .add (.s 9) (.c (.val false [.int .i64 1]))), .i (.mov 9 (.s 19))]))))))) (.seq (.ops [.i (.mov 20 (.s 3)), .i (.mov 2 (.s 20))]) .ret))))⟩
theorem k_impl_BitsList : cd n_impl_BitsList = some c_impl_BitsList := by kernel_rfl
theorem impl_BitsList_ok (b : Bytes) (hb : b.length ≤ 1073741824) : VC cd n_impl_BitsList (mkP [(false, [.sl (bytes b)])]) (fun rs _ => rs = [(false, [.o true (some (3, 1)) (nats (bitsList b))])]) := by
  refine VC_enter k_impl_BitsList rfl ?_
  simp (disch := omega) [c_impl_BitsList, VE, VXR, VP, VB, VTup, kof, bl, it]
  refine VX_loop2 (σ := Nat × Nat) (f1 := _) (by simp (disch := omega) [VE, VXR, VP, VB, VTup, kof, bl, it]; rfl) (fun p => [(9, .val false [.int .i64 p.1]), (3, .val false [.ow 5 p.2])]) (fun p => [(5, .sl p.2 true true (some (3, 1)) (nats ((List.range p.1).filter (hasBit b))))])
    (fun p g => g + p.1 = 8 * b.length) (0, 1) (8 * b.length) (by simp (disch := omega) [VE, VXR, VP, VB, VTup, kof, bl, it]) (by simp (disch := omega) [nats, VE, VXR, VP, VB, VTup, kof, bl, it]) (by omega) ?_
  rintro ⟨i, v⟩ n g hg
  simp only at hg
  simp (disch := omega) [VE, VXR, VP, VB, VTup, kof, bl, it]
  refine VXB_dec (fun h1 => ?_) (fun h1 => ?_)
  · simp (disch := omega) [VE, VXR, VP, VB, VTup, kof, bl, it]
    refine VXC_e (impl_BitsHas_ok b i (by omega) (by omega)) rfl rfl ?_
    simp (disch := omega) [VE, VXR, VP, VB, VTup, kof, bl, it]
    refine VXB_b (fun h2 => ?_) (fun h2 => ?_)
    · have hl := filter_le (hasBit b) i
      simp (disch := omega) [nats_len, wid_nats, flat_nats, VE, VXR, VP, VB, VTup, kof, bl, it]
      exact ⟨i + 1, n + 1, g - 1, by omega, by omega, ⟨rfl, by omega⟩, rfl, by rw [filter_succ, h2, if_pos rfl, ← nats_snoc]⟩
    · simp (disch := omega) [VE, VXR, VP, VB, VTup, kof, bl, it]
      exact ⟨i + 1, v, g - 1, by omega, by omega, ⟨rfl, by omega⟩, rfl, by rw [filter_succ, h2]; simp⟩
  · simp (disch := omega) [VE, VXR, VP, VB, VTup, kof, bl, it]
    have : i = 8 * b.length := by omega
    subst this
    rfl
abbrev n_spec_BitsList : Nat := 86
def c_spec_BitsList : AF := ⟨1, 5, [.tmp 2], (.seq (.ops [.i (.mov 2 (.c (.val false [.nils])))]) (.seq (.ops [.i (.bse 5), .i (.mov 3 (.s 5))]) (.seq (.seq (.ops [.i (.mov 4 (.c (.val false [.int .i64 0])))]) (.block 0 (.loop [19, 18, 17, 16, 15, 14, 13, 12, 11, 10, 9, 8, 7, 6] (.seq (.seq (.ops [.i (.mov 6 (.s 4)), .i (.mov 7 (.s 0)), .i (.len 8 false (.s 7)), .i (.bin 9 .mul (.c (.val false [.int .i64 8])) (.s 8)), .i (.bin 10 .lss (.s 6) (.s 9))]) (.cond (.s 10) .skip (.exit 0))) (.seq (.block 1 (.seq (.ops [.i (.mov 13 (.s 0)), .i (.mov 14 (.s 4)), .i (.call 16 126 false [(.s 13), (.s 14)])]) (.cond (.s 15) (.ops [.i (.mov 16 (.s 3)), .i (.mov 17 (.s 4)), .i (.lsl 18 1 1 [.int .i64 0] [(0, 1, (.s 17))]), .i (.app 19 3 1 8 (.s 16) (.s 18)), .i (.mov 3 (.s 19))]) .skip))) (.ops [.i (.mov 11 (.s 4)), .i (.bin 12 .add (.s 11) (.c (.val false [.int .i64 1]))), .i (.mov 4 (.s 12))])))))) (.seq (.ops [.i (.mov 20 (.s 3)), .i (.mov 2 (.s 20))]) .ret))))⟩
theorem k_spec_BitsList : cd n_spec_BitsList = some c_spec_BitsList := by kernel_rfl
theorem spec_BitsList_ok (b : Bytes) (hb : b.length ≤ 1073741824) : VC cd n_spec_BitsList (mkP [(false, [.sl (bytes b)])]) (fun rs _ => rs = [(false, [.o true (some (3, 1)) (nats (bitsList b))])]) := by
  refine VC_enter k_spec_BitsList rfl ?_
  simp (disch := omega) [c_spec_BitsList, VE, VXR, VP, VB, VTup, kof, bl, it]
  refine VX_loop2 (σ := Nat × Nat) (f1 := _) (by simp (disch := omega) [VE, VXR, VP, VB, VTup, kof, bl, it]; rfl) (fun p => [(4, .val false [.int .i64 p.1]), (3, .val false [.ow 5 p.2])]) (fun p => [(5, .sl p.2 true true (some (3, 1)) (nats ((List.range p.1).filter (hasBit b))))])
    (fun p g => g + p.1 = 8 * b.length) (0, 1) (8 * b.length) (by simp (disch := omega) [VE, VXR, VP, VB, VTup, kof, bl, it]) (by simp (disch := omega) [nats, VE, VXR, VP, VB, VTup, kof, bl, it]) (by omega) ?_
  rintro ⟨i, v⟩ n g hg
  simp only at hg
  simp (disch := omega) [VE, VXR, VP, VB, VTup, kof, bl, it]
  refine VXB_dec (fun h1 => ?_) (fun h1 => ?_)
  · simp (disch := omega) [VE, VXR, VP, VB, VTup, kof, bl, it]
    refine VXC_e (spec_BitsHas_ok b i (by omega) (by omega)) rfl rfl ?_
    simp (disch := omega) [VE, VXR, VP, VB, VTup, kof, bl, it]
    refine VXB_b (fun h2 => ?_) (fun h2 => ?_)
    · have hl := filter_le (hasBit b) i
      simp (disch := omega) [nats_len, wid_nats, flat_nats, VE, VXR, VP, VB, VTup, kof, bl, it]
      exact ⟨i + 1, n + 1, g - 1, by omega, by omega, ⟨by omega, rfl⟩, rfl, by rw [filter_succ, h2, if_pos rfl, ← nats_snoc]⟩
    · simp (disch := omega) [VE, VXR, VP, VB, VTup, kof, bl, it]
      exact ⟨i + 1, v, g - 1, by omega, by omega, ⟨by omega, rfl⟩, rfl, by rw [filter_succ, h2]; simp⟩
  · simp (disch := omega) [VE, VXR, VP, VB, VTup, kof, bl, it]
    have : i = 8 * b.length := by omega
    subst this
    rfl
def allBelow (l : List Nat) (n : Int) : Bool := l.all fun i => decide ((i : Int) < n)
def bitsOk (b : Bytes) (n : Int) : Bool := inn n 1 10 && decide ((b.length : Int) = bsz n) && allBelow (bitsList b) n
theorem bitsList_len (b : Bytes) : (bitsList b).length ≤ 8 * b.length := filter_le _ _
theorem inn_t {n lo hi : Int} (h : inn n lo hi = true) : lo ≤ n ∧ n ≤ hi := by simpa [inn] using h
theorem inn_f {n lo hi : Int} (h : inn n lo hi = false) : n < lo ∨ hi < n := by simp [inn] at h; omega
theorem below_of {l : List Nat} {n : Int} (h : ∀ x ∈ l.take l.length, (x : Int) < n) : allBelow l n = true := by
  rw [List.take_length] at h
  simpa [allBelow] using h
theorem below_no {l : List Nat} {n : Int} {i : Nat} (hi : i < l.length) (h : n ≤ (l[i] : Int)) : allBelow l n = false := by
  simp only [allBelow, List.all_eq_false]
  exact ⟨l[i], List.getElem_mem hi, by simpa using h⟩
abbrev n_impl_BitsOk : Nat := 94
def c_impl_BitsOk : AF := ⟨2, 5, [.tmp 4], (.seq (.ops [.i (.mov 4 (.c (.val false [.bool false])))]) (.seq (.seq (.ops [.i (.mov 7 (.s 1)), .i (.call 9 103 false [(.s 7), (.c (.val false [.int .i64 1])), (.c (.val false [.int .i64 10]))]), .i (.not 9 (.s 8)), .i (.mov 10 (.s 9)), .g 10 false 12 (.mov 11 (.s 0)), .g 10 false 13 (.len 12 false (.s 11)), .g 10 false 14 (.mov 13 (.s 1)), .g 10 false 15 (.call 15 135 false [(.s 13)]), .g 10 false 16 (.bin 15 .neq (.s 12) (.s 14)), .i (.pick 16 (.s 10) (.c (.val false [.bool true])) (.s 15))]) (.cond (.s 16) (.seq (.ops [.i (.mov 4 (.c (.val false [.bool false])))]) .ret) .skip)) (.seq (.seq (.ops [.i (.mov 17 (.s 0)), .i (.call 19 95 false [(.s 17)]), .i (.len 19 false (.s 18)), .i (.mov 20 (.c (.val false [.int .i64 0])))]) (.block 0 (.loop [27, 26, 25, 24, 23, 22, 21, 6] (.seq (.ops [.i (.bin 21 .lss (.s 20) (.s 19))]) (.seq (.cond (.s 21) .skip (.exit 0)) (.seq (.block 1 (.seq (.ops [.i (.iad 22 (.s 18) (.s 20) 1), .i (.ldh 23 (.s 22) 1 false), .i (.mov 6 (.s 23))]) (.seq (.ops [.i (.mov 24 (.s 6)), .i (.mov 25 (.s 1)), .i (.bin 26 .geq (.s 24) (.s 25))]) (.cond (.s 26) (.seq (.ops [.i (.mov 4 (.c (.val false [.bool false])))]) .ret) .skip)))) (.ops [.i (.bin 27 .add (.s 20) (.c (.val false [.int .i64 1]))), .i (.mov 20 (.s 27))]))))))) (.seq (.ops [.i (.mov 4 (.c (.val false [.bool true])))]) .ret))))⟩
theorem k_impl_BitsOk : cd n_impl_BitsOk = some c_impl_BitsOk := by kernel_rfl
theorem impl_BitsOk_ok (b : Bytes) (n : Int) (hb : b.length ≤ 1073741824) (hn : -9223372036854775808 ≤ n ∧ n < 9223372036854775808) : VC cd n_impl_BitsOk (mkP [(false, [.sl (bytes b)]), (false, [.int .i64 n])]) (fun rs _ => rs = bl (bitsOk b n)) := by
  refine VC_enter k_impl_BitsOk rfl ?_
  simp (disch := omega) [c_impl_BitsOk, VE, VXR, VP, VB, VTup, kof, bl, it]
  refine VXC_e (within_ok _ _ _) rfl rfl ?_
  simp (disch := omega) [VE, VXR, VP, VB, VTup, kof, bl, it]
  refine VXB_b (fun h1 => ?_) (fun h1 => ?_)
  · simp (disch := omega) [h1, VE, VXR, VP, VB, VTup, kof, bl, it]
    refine VXC_e (impl_BitsSize_ok _ hn.1 hn.2) rfl rfl ?_
    simp (disch := omega) [h1, VE, VXR, VP, VB, VTup, kof, bl, it]
    refine VXB_dec (fun h2 => ?_) (fun h2 => ?_)
    · simp (disch := omega) [h1, h2, VE, VXR, VP, VB, VTup, kof, bl, it]
      refine VXC_e (impl_BitsList_ok b hb) rfl rfl ?_
      simp (disch := omega) [nats_len, VE, VXR, VP, VB, VTup, kof, bl, it]
      have hl := bitsList_len b
      refine VX_loop3 (σ := Nat) (f1 := _) (es0 := _) (by simp (disch := omega) [VE, VXR, VP, VB, VTup, kof, bl, it]; rfl) (by simp (disch := omega) [VE, VXR, VP, VB, VTup, kof, bl, it]; rfl) (fun i => [(20, .val false [.int .i64 i])]) (fun _ => []) (fun i g => g + i = (bitsList b).length ∧ ∀ x ∈ (bitsList b).take i, (x : Int) < n) 0 (bitsList b).length (by simp (disch := omega) [VE, VXR, VP, VB, VTup, kof, bl, it]) (by simp (disch := omega) [VE, VXR, VP, VB, VTup, kof, bl, it]) ⟨by omega, by simp⟩ ?_
      rintro i m g ⟨hg, hi⟩
      simp (disch := omega) [VE, VXR, VP, VB, VTup, kof, bl, it]
      refine VXB_dec (fun h3 => ?_) (fun h3 => ?_)
      · have hx : i < (bitsList b).length := by omega
        simp (disch := omega) [nats_get hx, VE, VXR, VP, VB, VTup, kof, bl, it]
        refine VXB_dec (fun h4 => ?_) (fun h4 => ?_)
        · simp (disch := omega) [VE, VXR, VP, VB, VTup, kof, bl, it]
          simp [bitsOk, h1, h2, below_no hx h4]
        · simp (disch := omega) [VE, VXR, VP, VB, VTup, kof, bl, it]
          exact ⟨i + 1, g - 1, by omega, ⟨by omega, take_all hi hx (by omega)⟩, by simp⟩
      · simp (disch := omega) [VE, VXR, VP, VB, VTup, kof, bl, it]
        have : i = (bitsList b).length := by omega
        subst this
        simp [bitsOk, h1, h2, below_of hi]
    · simp (disch := omega) [h1, h2, bitsOk, VE, VXR, VP, VB, VTup, kof, bl, it]
  · simp (disch := omega) [h1, bitsOk, VE, VXR, VP, VB, VTup, kof, bl, it]
theorem pairwise_last {l : List Nat} {n : Int} (hp : l.Pairwise (· < ·)) (hl : 0 < l.length) : allBelow l n = decide ((l[l.length - 1] : Int) < n) := by
  rw [Bool.eq_iff_iff]
  simp only [allBelow, List.all_eq_true, decide_eq_true_eq]
  constructor
  · intro h; exact h _ (List.getElem_mem _)
  · intro h x hx
    obtain ⟨i, hi, rfl⟩ := List.getElem_of_mem hx
    by_cases he : i = l.length - 1
    · subst he; exact h
    · have := List.pairwise_iff_getElem.1 hp i (l.length - 1) hi (by omega) (by omega)
      omega
theorem bitsList_sorted (b : Bytes) : (bitsList b).Pairwise (· < ·) := List.Pairwise.filter _ List.pairwise_lt_range
abbrev n_spec_BitsOk : Nat := 85
def c_spec_BitsOk : AF := ⟨2, 5, [.tmp 4], (.seq (.ops [.i (.mov 4 (.c (.val false [.bool false])))]) (.seq (.seq (.ops [.i (.mov 6 (.s 1)), .i (.call 8 124 false [(.s 6)]), .i (.not 8 (.s 7)), .i (.mov 9 (.s 8)), .g 9 false 11 (.mov 10 (.s 0)), .g 9 false 12 (.len 11 false (.s 10)), .g 9 false 13 (.mov 12 (.s 1)), .g 9 false 14 (.call 14 125 false [(.s 12)]), .g 9 false 15 (.bin 14 .neq (.s 11) (.s 13)), .i (.pick 15 (.s 9) (.c (.val false [.bool true])) (.s 14))]) (.cond (.s 15) (.seq (.ops [.i (.mov 4 (.c (.val false [.bool false])))]) .ret) .skip)) (.seq (.ops [.i (.mov 16 (.s 0)), .i (.call 18 86 false [(.s 16)]), .i (.mov 5 (.s 17))]) (.seq (.ops [.i (.mov 18 (.s 5)), .i (.len 19 false (.s 18)), .i (.bin 20 .eql (.s 19) (.c (.val false [.int .i64 0]))), .i (.mov 21 (.s 20)), .g 21 false 23 (.mov 22 (.s 5)), .g 21 false 24 (.mov 23 (.s 5)), .g 21 false 25 (.len 24 false (.s 23)), .g 21 false 26 (.bin 25 .sub (.s 24) (.c (.val false [.int .i64 1]))), .g 21 false 27 (.iad 26 (.s 22) (.s 25) 1), .g 21 false 28 (.ldh 27 (.s 26) 1 false), .g 21 false 29 (.mov 28 (.s 1)), .g 21 false 30 (.bin 29 .lss (.s 27) (.s 28)), .i (.pick 30 (.s 21) (.c (.val false [.bool true])) (.s 29)), .i (.mov 4 (.s 30))]) .ret))))⟩
theorem k_spec_BitsOk : cd n_spec_BitsOk = some c_spec_BitsOk := by kernel_rfl
theorem spec_BitsOk_ok (b : Bytes) (n : Int) (hb : b.length ≤ 1073741824) (hn : -9223372036854775808 ≤ n ∧ n < 9223372036854775808) : VC cd n_spec_BitsOk (mkP [(false, [.sl (bytes b)]), (false, [.int .i64 n])]) (fun rs _ => rs = bl (bitsOk b n)) := by
  refine VC_enter k_spec_BitsOk rfl ?_
  simp (disch := omega) [c_spec_BitsOk, VE, VXR, VP, VB, VTup, kof, bl, it]
  refine VXC_e (spec_l02Signers_ok _) rfl rfl ?_
  simp (disch := omega) [VE, VXR, VP, VB, VTup, kof, bl, it]
  refine VXB_b (fun h1 => ?_) (fun h1 => ?_)
  · simp (disch := omega) [h1, VE, VXR, VP, VB, VTup, kof, bl, it]
    refine VXC_e (spec_BitsSize_ok _ hn.1 hn.2) rfl rfl ?_
    simp (disch := omega) [h1, VE, VXR, VP, VB, VTup, kof, bl, it]
    refine VXB_dec (fun h2 => ?_) (fun h2 => ?_)
    · simp (disch := omega) [h1, h2, VE, VXR, VP, VB, VTup, kof, bl, it]
      refine VXC_e (spec_BitsList_ok b hb) rfl rfl ?_
      have hl := bitsList_len b
      simp (disch := omega) [nats_len, VE, VXR, VP, VB, VTup, kof, bl, it]
      refine VXB_dec (fun h3 => ?_) (fun h3 => ?_)
      · simp (disch := omega) [h3, VE, VXR, VP, VB, VTup, kof, bl, it]
        simp [bitsOk, h1, h2, h3, allBelow]
      · have h4 := List.length_pos_iff.2 h3
        have e3 : (1 : Int) ≤ ((bitsList b).length : Int) := by omega
        have hx : (bitsList b).length - 1 < (bitsList b).length := by omega
        have e1 : ((bitsList b).length - 1 : Int).toNat = (bitsList b).length - 1 := by omega
        have e2 : (0 : Int) ≤ ((bitsList b).length : Int) - 1 := by omega
        simp (disch := omega) [h3, nats_len, e1, e2, e3, nats_get hx, VE, VXR, VP, VB, VTup, kof, bl, it]
        simp [bitsOk, h1, h2, pairwise_last (bitsList_sorted b) h4]
    · simp (disch := omega) [h1, h2, bitsOk, VE, VXR, VP, VB, VTup, kof, bl, it]
  · simp (disch := omega) [h1, bitsOk, VE, VXR, VP, VB, VTup, kof, bl, it]
/-! ### How many -/
def ones (x : Nat) : Nat := ((List.range 8).filter (x.testBit)).length
theorem ones_tbl : ∀ x < 256, ((⟨#[0, 1, 1, 2, 1, 2, 2, 3, 1, 2, 2, 3, 2, 3, 3, 4, 1, 2, 2, 3, 2, 3, 3, 4, 2, 3, 3, 4, 3, 4, 4, 5, 1, 2, 2, 3, 2, 3, 3, 4, 2, 3, 3, 4, 3, 4, 4, 5, 2, 3, 3, 4, 3, 4, 4, 5, 3, 4, 4, 5, 4, 5, 5, 6, 1, 2, 2, 3, 2, 3, 3, 4, 2, 3, 3, 4, 3, 4, 4, 5, 2, 3, 3, 4, 3, 4, 4, 5, 3, 4, 4, 5, 4, 5, 5, 6, 2, 3, 3, 4, 3, 4, 4, 5, 3, 4, 4, 5, 4, 5, 5, 6, 3, 4, 4, 5, 4, 5, 5, 6, 4, 5, 5, 6, 5, 6, 6, 7, 1, 2, 2, 3, 2, 3, 3, 4, 2, 3, 3, 4, 3, 4, 4, 5, 2, 3, 3, 4, 3, 4, 4, 5, 3, 4, 4, 5, 4, 5, 5, 6, 2, 3, 3, 4, 3, 4, 4, 5, 3, 4, 4, 5, 4, 5, 5, 6, 3, 4, 4, 5, 4, 5, 5, 6, 4, 5, 5, 6, 5, 6, 6, 7, 2, 3, 3, 4, 3, 4, 4, 5, 3, 4, 4, 5, 4, 5, 5, 6, 3, 4, 4, 5, 4, 5, 5, 6, 4, 5, 5, 6, 5, 6, 6, 7, 3, 4, 4, 5, 4, 5, 5, 6, 4, 5, 5, 6, 5, 6, 6, 7, 4, 5, 5, 6, 5, 6, 6, 7, 5, 6, 6, 7, 6, 7, 7, 8]⟩ : ByteArray).data.toList)[x]? = some (UInt8.ofNat (ones x)) ∧ ones x ≤ 8 := by decide +kernel
abbrev n_math_bits_OnesCount8 : Nat := 158
def c_math_bits_OnesCount8 : AF := ⟨1, 3, [.tmp 2], (.seq (.ops [.i (.mov 2 (.c (.val false [.int .i64 0])))]) (.seq (.ops [.i (.mov 3 (.s 0)), .i (.ids 4 (.c (.val false [.str ⟨#[0, 1, 1, 2, 1, 2, 2, 3, 1, 2, 2, 3, 2, 3, 3, 4, 1, 2, 2, 3, 2, 3, 3, 4, 2, 3, 3, 4, 3, 4, 4, 5, 1, 2, 2, 3, 2, 3, 3, 4, 2, 3, 3, 4, 3, 4, 4, 5, 2, 3, 3, 4, 3, 4, 4, 5, 3, 4, 4, 5, 4, 5, 5, 6, 1, 2, 2, 3, 2, 3, 3, 4, 2, 3, 3, 4, 3, 4, 4, 5, 2, 3, 3, 4, 3, 4, 4, 5, 3, 4, 4, 5, 4, 5, 5, 6, 2, 3, 3, 4, 3, 4, 4, 5, 3, 4, 4, 5, 4, 5, 5, 6, 3, 4, 4, 5, 4, 5, 5, 6, 4, 5, 5, 6, 5, 6, 6, 7, 1, 2, 2, 3, 2, 3, 3, 4, 2, 3, 3, 4, 3, 4, 4, 5, 2, 3, 3, 4, 3, 4, 4, 5, 3, 4, 4, 5, 4, 5, 5, 6, 2, 3, 3, 4, 3, 4, 4, 5, 3, 4, 4, 5, 4, 5, 5, 6, 3, 4, 4, 5, 4, 5, 5, 6, 4, 5, 5, 6, 5, 6, 6, 7, 2, 3, 3, 4, 3, 4, 4, 5, 3, 4, 4, 5, 4, 5, 5, 6, 3, 4, 4, 5, 4, 5, 5, 6, 4, 5, 5, 6, 5, 6, 6, 7, 3, 4, 4, 5, 4, 5, 5, 6, 4, 5, 5, 6, 5, 6, 6, 7, 4, 5, 5, 6, 5, 6, 6, 7, 5, 6, 6, 7, 6, 7, 7, 8]⟩])) (.s 3)), .i (.cvi 5 .i64 (.s 4)), .i (.mov 2 (.s 5))]) .ret))⟩
theorem k_math_bits_OnesCount8 : cd n_math_bits_OnesCount8 = some c_math_bits_OnesCount8 := by kernel_rfl
theorem OnesCount8_ok (x : UInt8) : VC cd n_math_bits_OnesCount8 (mkP [(false, [.int .u8 x.toNat])]) (fun rs _ => rs = it (ones x.toNat)) := by
  obtain ⟨e1, e2⟩ := ones_tbl x.toNat (u8lt x)
  have e3 : (UInt8.ofNat (ones x.toNat)).toNat = ones x.toNat := by simp; omega
  refine VC_enter k_math_bits_OnesCount8 rfl ?_
  simp (disch := omega) only [c_math_bits_OnesCount8, VE, VXR, VP, VB, kof, List.map_cons, List.map_nil, Int.toNat_natCast, e1, e3, simprocAttr, Int.natCast_nonneg, if_true, it]
theorem count_byte (b : Bytes) (i : Nat) (hi : i < b.length) : ((List.range (8 * (i + 1))).filter (hasBit b)).length = ((List.range (8 * i)).filter (hasBit b)).length + ones b[i].toNat := by
  have h8 : ∀ j < 8, hasBit b (8 * i + j) = b[i].toNat.testBit j := by
    intro j hj
    have e : (8 * i + j) / 8 = i := by omega
    have e2 : (8 * i + j) % 8 = j := by omega
    have := hasBit_in (b := b) (i := 8 * i + j) (by rw [e]; exact hi)
    rw [this, e2]
    simp only [e]
  have e : 8 * (i + 1) = 8 * i + 8 := by omega
  rw [e, List.range_add, List.filter_append, List.length_append]
  congr 1
  unfold ones
  rw [List.filter_map, List.length_map]
  congr 1
  refine List.filter_congr fun j hj => ?_
  simp only [List.mem_range] at hj
  exact h8 j hj
abbrev n_impl_BitsCount : Nat := 139
def c_impl_BitsCount : AF := ⟨1, 5, [.tmp 2], (.seq (.ops [.i (.mov 2 (.c (.val false [.int .i64 0])))]) (.seq (.ops [.i (.mov 3 (.c (.val false [.int .i64 0])))]) (.seq (.seq (.ops [.i (.mov 6 (.s 0)), .i (.len 7 false (.s 6)), .i (.mov 8 (.c (.val false [.int .i64 0])))]) (.block 0 (.loop [16, 15, 14, 13, 12, 11, 10, 9, 5] (.seq (.ops [.i (.bin 9 .lss (.s 8) (.s 7))]) (.seq (.cond (.s 9) .skip (.exit 0)) (.seq (.block 1 (.seq (.ops [.i (.iad 10 (.s 6) (.s 8) 1), .i (.ldh 11 (.s 10) 1 false), .i (.mov 5 (.s 11))]) (.ops [.i (.mov 12 (.s 3)), .i (.mov 13 (.s 5)), .i (.call 15 158 false [(.s 13)]), .i (.bin 15 .add (.s 12) (.s 14)), .i (.mov 3 (.s 15))]))) (.ops [.i (.bin 16 .add (.s 8) (.c (.val false [.int .i64 1]))), .i (.mov 8 (.s 16))]))))))) (.seq (.ops [.i (.mov 17 (.s 3)), .i (.mov 2 (.s 17))]) .ret))))⟩
theorem k_impl_BitsCount : cd n_impl_BitsCount = some c_impl_BitsCount := by kernel_rfl
theorem impl_BitsCount_ok (b : Bytes) (hb : b.length ≤ 1073741824) : VC cd n_impl_BitsCount (mkP [(false, [.sl (bytes b)])]) (fun rs _ => rs = it (bitsList b).length) := by
  refine VC_enter k_impl_BitsCount rfl ?_
  simp (disch := omega) [c_impl_BitsCount, VE, VXR, VP, VB, VTup, kof, bl, it]
  refine VX_loop3 (σ := Nat) (f1 := _) (es0 := _) (by simp (disch := omega) [VE, VXR, VP, VB, VTup, kof, bl, it]; rfl) (by simp (disch := omega) [VE, VXR, VP, VB, VTup, kof, bl, it]; rfl) (fun i => [(8, .val false [.int .i64 i]), (3, .val false [.int .i64 ((List.range (8 * i)).filter (hasBit b)).length])]) (fun _ => []) (fun i g => g + i = b.length) 0 b.length (by simp (disch := omega) [VE, VXR, VP, VB, VTup, kof, bl, it]) (by simp (disch := omega) [VE, VXR, VP, VB, VTup, kof, bl, it]) (by omega) ?_
  rintro i n g hg
  simp (disch := omega) [VE, VXR, VP, VB, VTup, kof, bl, it]
  refine VXB_dec (fun h1 => ?_) (fun h1 => ?_)
  · have hx : i < b.length := by omega
    simp (disch := omega) [bytes_get hx, VE, VXR, VP, VB, VTup, kof, bl, it]
    refine VXC_e (OnesCount8_ok _) rfl rfl ?_
    have hl := filter_le (hasBit b) (8 * i)
    have ho := (ones_tbl b[i].toNat (u8lt _)).2
    simp (disch := omega) [VE, VXR, VP, VB, VTup, kof, bl, it]
    exact ⟨i + 1, g - 1, by omega, by omega, by rw [count_byte b i hx]; omega, by omega⟩
  · simp (disch := omega) [VE, VXR, VP, VB, VTup, kof, bl, it]
    have : i = b.length := by omega
    subst this
    rfl
abbrev n_spec_BitsCount : Nat := 129
def c_spec_BitsCount : AF := ⟨1, 3, [.tmp 2], (.seq (.ops [.i (.mov 2 (.c (.val false [.int .i64 0])))]) (.seq (.ops [.i (.mov 3 (.s 0)), .i (.call 5 86 false [(.s 3)]), .i (.len 5 false (.s 4)), .i (.mov 2 (.s 5))]) .ret))⟩
theorem k_spec_BitsCount : cd n_spec_BitsCount = some c_spec_BitsCount := by kernel_rfl
theorem spec_BitsCount_ok (b : Bytes) (hb : b.length ≤ 1073741824) : VC cd n_spec_BitsCount (mkP [(false, [.sl (bytes b)])]) (fun rs _ => rs = it (bitsList b).length) := by
  refine VC_enter k_spec_BitsCount rfl ?_
  simp (disch := omega) [c_spec_BitsCount, VE, VXR, VP, VB, VTup, kof, bl, it]
  refine VXC_e (spec_BitsList_ok b hb) rfl rfl ?_
  simp (disch := omega) [nats_len, VE, VXR, VP, VB, VTup, kof, bl, it]
end Go.Eng.F
/-
  Functions: certificates, headers.
-/
set_option maxRecDepth 100000
set_option linter.unusedSimpArgs false
set_option linter.unusedVariables false
namespace Go.Eng.F
def I64 (n : Int) : Prop := -9223372036854775808 ≤ n ∧ n < 9223372036854775808
def Sz (n : Nat) : Prop := n ≤ 1073741824
theorem bytD_bytes (x : Bytes) : bytD (bytes x) = some ⟨x.toArray⟩ := by
  induction x with
  | nil => rfl
  | cons b x ih =>
    have : bytes (b :: x) = [.int .u8 (b.toNat : Int)] :: bytes x := rfl
    rw [this]
    simp only [bytD, ih, Int.toNat_natCast]
    congr 1
    simp
theorem str_eq (a b : Bytes) : ((⟨a.toArray⟩ : ByteArray) = ⟨b.toArray⟩) = (a = b) := by
  apply propext
  constructor
  · intro h; injection h with h; exact Array.toList_inj.2 h |> fun h => by simpa using h
  · rintro rfl; rfl
abbrev n_impl_SameBytes : Nat := 98
def c_impl_SameBytes : AF := ⟨2, 4, [.tmp 4], (.seq (.ops [.i (.mov 4 (.c (.val false [.bool false])))]) (.seq (.ops [.i (.mov 5 (.s 0)), .i (.cbs 6 (.s 5)), .i (.mov 7 (.s 1)), .i (.cbs 8 (.s 7)), .i (.bin 9 .eql (.s 6) (.s 8)), .i (.mov 4 (.s 9))]) .ret))⟩
theorem k_impl_SameBytes : cd n_impl_SameBytes = some c_impl_SameBytes := by kernel_rfl
theorem impl_SameBytes_ok (a b : Bytes) : VC cd n_impl_SameBytes (mkP [(false, [.sl (bytes a)]), (false, [.sl (bytes b)])]) (fun rs _ => rs = bl (decide (a = b))) := by
  refine VC_enter k_impl_SameBytes rfl ?_
  simp (disch := omega) [c_impl_SameBytes, bytD_bytes, str_eq, VE, VXR, VP, VB, VTup, kof, bl, it]
abbrev n_spec_SameBytes : Nat := 89
def c_spec_SameBytes : AF := ⟨2, 4, [.tmp 4], (.seq (.ops [.i (.mov 4 (.c (.val false [.bool false])))]) (.seq (.ops [.i (.mov 5 (.s 0)), .i (.cbs 6 (.s 5)), .i (.mov 7 (.s 1)), .i (.cbs 8 (.s 7)), .i (.bin 9 .eql (.s 6) (.s 8)), .i (.mov 4 (.s 9))]) .ret))⟩
theorem k_spec_SameBytes : cd n_spec_SameBytes = some c_spec_SameBytes := by kernel_rfl
theorem spec_SameBytes_ok (a b : Bytes) : VC cd n_spec_SameBytes (mkP [(false, [.sl (bytes a)]), (false, [.sl (bytes b)])]) (fun rs _ => rs = bl (decide (a = b))) := by
  refine VC_enter k_spec_SameBytes rfl ?_
  simp (disch := omega) [c_spec_SameBytes, bytD_bytes, str_eq, VE, VXR, VP, VB, VTup, kof, bl, it]
structure Qc where
  view : Int
  height : Int
  block : Bytes
  bits : Bytes
  tags : List Bytes
def Qc.c (q : Qc) : List D := [.int .i64 q.view, .int .i64 q.height, .sl (bytes q.block), .sl (bytes q.bits), .sl (bss q.tags)]
def Qc.wf (q : Qc) : Prop := I64 q.view ∧ I64 q.height ∧ Sz q.block.length ∧ Sz q.bits.length ∧ Sz q.tags.length
def qcOk (l : Lim) (q : Qc) : Bool := l.ok && isNum q.view && isNum q.height && hash q.block && bitsOk q.bits l.n && decide (q.tags.length = (bitsList q.bits).length) && hashes q.tags
theorem lim_n {l : Lim} (h : l.ok = true) : 1 ≤ l.n ∧ l.n ≤ 10 := by
  simp only [Lim.ok, Bool.and_eq_true] at h
  exact inn_t h.1.1.1.1
theorem hashes_one (x : Bytes) : hashes [x] = hash x := by simp [hashes]
abbrev n_impl_QcOk : Nat := 97
def c_impl_QcOk : AF := ⟨2, 6, [.tmp 4], (.seq (.ops [.i (.lbox 2 (.s 0)), .i (.lbox 3 (.s 1)), .i (.mov 4 (.c (.val false [.bool false])))]) (.seq (.ops [.i (.ldl 5 2 (.s 2) 5 true), .i (.call 7 115 false [(.s 5)]), .i (.mov 7 (.s 6)), .g 7 true 9 (.fad 8 (.s 3) 0), .g 7 true 10 (.ldl 9 3 (.s 8) 1 false), .g 7 true 11 (.call 11 112 false [(.s 9)]), .i (.pick 11 (.s 7) (.s 10) (.c (.val false [.bool false]))), .i (.mov 12 (.s 11)), .g 12 true 14 (.fad 13 (.s 3) 1), .g 12 true 15 (.ldl 14 3 (.s 13) 1 false), .g 12 true 16 (.call 16 112 false [(.s 14)]), .i (.pick 16 (.s 12) (.s 15) (.c (.val false [.bool false]))), .i (.mov 17 (.s 16)), .g 17 true 19 (.fad 18 (.s 3) 2), .g 17 true 20 (.ldl 19 3 (.s 18) 1 false), .g 17 true 21 (.bsl 20 27 1 1 [.nils] [(0, 1, (.s 19))]), .g 17 true 22 (.call 22 113 false [(.s 20)]), .i (.pick 22 (.s 17) (.s 21) (.c (.val false [.bool false]))), .i (.mov 23 (.s 22)), .g 23 true 25 (.fad 24 (.s 3) 3), .g 23 true 26 (.ldl 25 3 (.s 24) 1 false), .g 23 true 27 (.fad 26 (.s 2) 0), .g 23 true 28 (.ldl 27 2 (.s 26) 1 false), .g 23 true 29 (.call 29 94 false [(.s 25), (.s 27)]), .i (.pick 29 (.s 23) (.s 28) (.c (.val false [.bool false]))), .i (.mov 30 (.s 29)), .g 30 true 32 (.fad 31 (.s 3) 4), .g 30 true 33 (.ldl 32 3 (.s 31) 1 false), .g 30 true 34 (.len 33 false (.s 32)), .g 30 true 35 (.fad 34 (.s 3) 3), .g 30 true 36 (.ldl 35 3 (.s 34) 1 false), .g 30 true 37 (.call 37 139 false [(.s 35)]), .g 30 true 38 (.bin 37 .eql (.s 33) (.s 36)), .i (.pick 38 (.s 30) (.s 37) (.c (.val false [.bool false]))), .i (.mov 39 (.s 38)), .g 39 true 41 (.fad 40 (.s 3) 4), .g 39 true 42 (.ldl 41 3 (.s 40) 1 false), .g 39 true 43 (.call 43 113 false [(.s 41)]), .i (.pick 43 (.s 39) (.s 42) (.c (.val false [.bool false]))), .i (.mov 4 (.s 43))]) .ret))⟩
theorem k_impl_QcOk : cd n_impl_QcOk = some c_impl_QcOk := by kernel_rfl
theorem impl_QcOk_ok (l : Lim) (q : Qc) (hq : q.wf) : VC cd n_impl_QcOk (mkP [(true, l.c), (true, q.c)]) (fun rs _ => rs = bl (qcOk l q)) := by
  obtain ⟨w1, w2, w3, w4, w5⟩ := hq
  simp only [I64, Sz] at w1 w2 w3 w4 w5
  refine VC_enter k_impl_QcOk rfl ?_
  simp (disch := omega) [c_impl_QcOk, Lim.c, Qc.c, VE, VXR, VP, VB, VTup, kof, bl, it]
  refine VXC_e (impl_LimitsOk_ok l) rfl rfl ?_
  simp (disch := omega) [VE, VXR, VP, VB, VTup, kof, bl, it]
  refine VXB_b (fun h1 => ?_) (fun h1 => ?_) <;> simp (disch := omega) [h1, qcOk, VE, VXR, VP, VB, VTup, kof, bl, it]
  have hn := lim_n h1
  refine VXC_e (isNum_ok _) rfl rfl ?_
  simp (disch := omega) [h1, VE, VXR, VP, VB, VTup, kof, bl, it]
  refine VXB_b (fun h2 => ?_) (fun h2 => ?_) <;> simp (disch := omega) [h1, h2, VE, VXR, VP, VB, VTup, kof, bl, it]
  refine VXC_e (isNum_ok _) rfl rfl ?_
  simp (disch := omega) [h1, h2, VE, VXR, VP, VB, VTup, kof, bl, it]
  refine VXB_b (fun h3 => ?_) (fun h3 => ?_) <;> simp (disch := omega) [h1, h2, h3, VE, VXR, VP, VB, VTup, kof, bl, it]
  refine VXC_e (areHashes_ok [q.block] (by simp)) rfl rfl ?_
  simp (disch := omega) [h1, h2, h3, hashes_one, VE, VXR, VP, VB, VTup, kof, bl, it]
  refine VXB_b (fun h4 => ?_) (fun h4 => ?_) <;> simp (disch := omega) [h1, h2, h3, h4, VE, VXR, VP, VB, VTup, kof, bl, it]
  refine VXC_e (impl_BitsOk_ok q.bits l.n (by omega) (by omega)) rfl rfl ?_
  simp (disch := omega) [h1, h2, h3, h4, VE, VXR, VP, VB, VTup, kof, bl, it]
  refine VXB_b (fun h5 => ?_) (fun h5 => ?_) <;> simp (disch := omega) [h1, h2, h3, h4, h5, VE, VXR, VP, VB, VTup, kof, bl, it]
  refine VXC_e (impl_BitsCount_ok q.bits (by omega)) rfl rfl ?_
  have hl := bitsList_len q.bits
  simp (disch := omega) [h1, h2, h3, h4, h5, bss_len, VE, VXR, VP, VB, VTup, kof, bl, it]
  refine VXB_dec (fun h6 => ?_) (fun h6 => ?_)
  · simp (disch := omega) [h1, h2, h3, h4, h5, h6, bss_len, VE, VXR, VP, VB, VTup, kof, bl, it]
    refine VXC_e (areHashes_ok q.tags (by omega)) rfl rfl ?_
    have h7 : q.tags.length = (bitsList q.bits).length := by omega
    simp (disch := omega) [h1, h2, h3, h4, h5, h6, h7, VE, VXR, VP, VB, VTup, kof, bl, it]
  · have h7 : ¬ q.tags.length = (bitsList q.bits).length := by omega
    simp (disch := omega) [h1, h2, h3, h4, h5, h6, h7, bss_len, VE, VXR, VP, VB, VTup, kof, bl, it]
abbrev n_spec_QcOk : Nat := 88
def c_spec_QcOk : AF := ⟨2, 6, [.tmp 4], (.seq (.ops [.i (.lbox 2 (.s 0)), .i (.lbox 3 (.s 1)), .i (.mov 4 (.c (.val false [.bool false])))]) (.seq (.ops [.i (.ldl 5 2 (.s 2) 5 true), .i (.call 7 100 false [(.s 5)]), .i (.mov 7 (.s 6)), .g 7 true 9 (.fad 8 (.s 3) 0), .g 7 true 10 (.ldl 9 3 (.s 8) 1 false), .g 7 true 11 (.call 11 107 false [(.s 9)]), .i (.pick 11 (.s 7) (.s 10) (.c (.val false [.bool false]))), .i (.mov 12 (.s 11)), .g 12 true 14 (.fad 13 (.s 3) 1), .g 12 true 15 (.ldl 14 3 (.s 13) 1 false), .g 12 true 16 (.call 16 107 false [(.s 14)]), .i (.pick 16 (.s 12) (.s 15) (.c (.val false [.bool false]))), .i (.mov 17 (.s 16)), .g 17 true 19 (.fad 18 (.s 3) 2), .g 17 true 20 (.ldl 19 3 (.s 18) 1 false), .g 17 true 21 (.call 21 109 false [(.s 19)]), .i (.pick 21 (.s 17) (.s 20) (.c (.val false [.bool false]))), .i (.mov 22 (.s 21)), .g 22 true 24 (.fad 23 (.s 3) 3), .g 22 true 25 (.ldl 24 3 (.s 23) 1 false), .g 22 true 26 (.fad 25 (.s 2) 0), .g 22 true 27 (.ldl 26 2 (.s 25) 1 false), .g 22 true 28 (.call 28 85 false [(.s 24), (.s 26)]), .i (.pick 28 (.s 22) (.s 27) (.c (.val false [.bool false]))), .i (.mov 29 (.s 28)), .g 29 true 31 (.fad 30 (.s 3) 4), .g 29 true 32 (.ldl 31 3 (.s 30) 1 false), .g 29 true 33 (.len 32 false (.s 31)), .g 29 true 34 (.fad 33 (.s 3) 3), .g 29 true 35 (.ldl 34 3 (.s 33) 1 false), .g 29 true 36 (.call 36 129 false [(.s 34)]), .g 29 true 37 (.bin 36 .eql (.s 32) (.s 35)), .i (.pick 37 (.s 29) (.s 36) (.c (.val false [.bool false]))), .i (.mov 38 (.s 37)), .g 38 true 40 (.fad 39 (.s 3) 4), .g 38 true 41 (.ldl 40 3 (.s 39) 1 false), .g 38 true 42 (.call 42 130 false [(.s 40)]), .i (.pick 42 (.s 38) (.s 41) (.c (.val false [.bool false]))), .i (.mov 4 (.s 42))]) .ret))⟩
theorem k_spec_QcOk : cd n_spec_QcOk = some c_spec_QcOk := by kernel_rfl
theorem spec_QcOk_ok (l : Lim) (q : Qc) (hq : q.wf) : VC cd n_spec_QcOk (mkP [(true, l.c), (true, q.c)]) (fun rs _ => rs = bl (qcOk l q)) := by
  obtain ⟨w1, w2, w3, w4, w5⟩ := hq
  simp only [I64, Sz] at w1 w2 w3 w4 w5
  refine VC_enter k_spec_QcOk rfl ?_
  simp (disch := omega) [c_spec_QcOk, Lim.c, Qc.c, VE, VXR, VP, VB, VTup, kof, bl, it]
  refine VXC_e (spec_LimitsOk_ok l) rfl rfl ?_
  simp (disch := omega) [VE, VXR, VP, VB, VTup, kof, bl, it]
  refine VXB_b (fun h1 => ?_) (fun h1 => ?_) <;> simp (disch := omega) [h1, qcOk, VE, VXR, VP, VB, VTup, kof, bl, it]
  have hn := lim_n h1
  refine VXC_e (l01Num_ok _) rfl rfl ?_
  simp (disch := omega) [h1, VE, VXR, VP, VB, VTup, kof, bl, it]
  refine VXB_b (fun h2 => ?_) (fun h2 => ?_) <;> simp (disch := omega) [h1, h2, VE, VXR, VP, VB, VTup, kof, bl, it]
  refine VXC_e (l01Num_ok _) rfl rfl ?_
  simp (disch := omega) [h1, h2, VE, VXR, VP, VB, VTup, kof, bl, it]
  refine VXB_b (fun h3 => ?_) (fun h3 => ?_) <;> simp (disch := omega) [h1, h2, h3, VE, VXR, VP, VB, VTup, kof, bl, it]
  refine VXC_e (l07Hash_ok _) rfl rfl ?_
  simp (disch := omega) [h1, h2, h3, VE, VXR, VP, VB, VTup, kof, bl, it]
  refine VXB_b (fun h4 => ?_) (fun h4 => ?_) <;> simp (disch := omega) [h1, h2, h3, h4, VE, VXR, VP, VB, VTup, kof, bl, it]
  refine VXC_e (spec_BitsOk_ok q.bits l.n (by omega) (by omega)) rfl rfl ?_
  simp (disch := omega) [h1, h2, h3, h4, VE, VXR, VP, VB, VTup, kof, bl, it]
  refine VXB_b (fun h5 => ?_) (fun h5 => ?_) <;> simp (disch := omega) [h1, h2, h3, h4, h5, VE, VXR, VP, VB, VTup, kof, bl, it]
  refine VXC_e (spec_BitsCount_ok q.bits (by omega)) rfl rfl ?_
  have hl := bitsList_len q.bits
  simp (disch := omega) [h1, h2, h3, h4, h5, bss_len, VE, VXR, VP, VB, VTup, kof, bl, it]
  refine VXB_dec (fun h6 => ?_) (fun h6 => ?_)
  · simp (disch := omega) [h1, h2, h3, h4, h5, h6, bss_len, VE, VXR, VP, VB, VTup, kof, bl, it]
    refine VXC_e (l08Hashes_ok q.tags (by omega)) rfl rfl ?_
    have h7 : q.tags.length = (bitsList q.bits).length := by omega
    simp (disch := omega) [h1, h2, h3, h4, h5, h6, h7, VE, VXR, VP, VB, VTup, kof, bl, it]
  · have h7 : ¬ q.tags.length = (bitsList q.bits).length := by omega
    simp (disch := omega) [h1, h2, h3, h4, h5, h6, h7, bss_len, VE, VXR, VP, VB, VTup, kof, bl, it]
structure Head where
  view : Int
  height : Int
  proposer : Int
  parent : Bytes
  root : Bytes
  qc : Qc
def Head.c (h : Head) : List D := [.int .i64 h.view, .int .i64 h.height, .int .i64 h.proposer, .sl (bytes h.parent), .sl (bytes h.root), .int .i64 h.qc.view, .int .i64 h.qc.height, .sl (bytes h.qc.block), .sl (bytes h.qc.bits), .sl (bss h.qc.tags)]
def Head.wf (h : Head) : Prop := I64 h.view ∧ I64 h.height ∧ I64 h.proposer ∧ Sz h.parent.length ∧ Sz h.root.length ∧ h.qc.wf
def fits (h : Head) : Bool := decide (h.qc.view < h.view) && decide (h.qc.height = h.height - 1) && decide (h.qc.block = h.parent)
abbrev n_impl_Head_matches : Nat := 114
def c_impl_Head_matches : AF := ⟨1, 5, [.tmp 2], (.seq (.ops [.i (.lbox 1 (.s 0)), .i (.mov 2 (.c (.val false [.bool false])))]) (.seq (.ops [.i (.fad 3 (.s 1) 5), .i (.fad 4 (.s 3) 0), .i (.ldl 5 1 (.s 4) 1 false), .i (.fad 6 (.s 1) 0), .i (.ldl 7 1 (.s 6) 1 false), .i (.bin 8 .lss (.s 5) (.s 7)), .i (.mov 9 (.s 8)), .g 9 true 11 (.fad 10 (.s 1) 5), .g 9 true 12 (.fad 11 (.s 10) 1), .g 9 true 13 (.ldl 12 1 (.s 11) 1 false), .g 9 true 14 (.fad 13 (.s 1) 1), .g 9 true 15 (.ldl 14 1 (.s 13) 1 false), .g 9 true 16 (.bin 15 .sub (.s 14) (.c (.val false [.int .i64 1]))), .g 9 true 17 (.bin 16 .eql (.s 12) (.s 15)), .i (.pick 17 (.s 9) (.s 16) (.c (.val false [.bool false]))), .i (.mov 18 (.s 17)), .g 18 true 20 (.fad 19 (.s 1) 5), .g 18 true 21 (.fad 20 (.s 19) 2), .g 18 true 22 (.ldl 21 1 (.s 20) 1 false), .g 18 true 23 (.fad 22 (.s 1) 3), .g 18 true 24 (.ldl 23 1 (.s 22) 1 false), .g 18 true 25 (.call 25 98 false [(.s 21), (.s 23)]), .i (.pick 25 (.s 18) (.s 24) (.c (.val false [.bool false]))), .i (.mov 2 (.s 25))]) .ret))⟩
theorem k_impl_Head_matches : cd n_impl_Head_matches = some c_impl_Head_matches := by kernel_rfl
theorem matches_ok (h : Head) (h1 : 1 ≤ h.height) (h2 : I64 h.height) : VC cd n_impl_Head_matches (mkP [(true, h.c)]) (fun rs _ => rs = bl (fits h)) := by
  simp only [I64] at h2
  refine VC_enter k_impl_Head_matches rfl ?_
  simp (disch := omega) [c_impl_Head_matches, Head.c, VE, VXR, VP, VB, VTup, kof, bl, it]
  refine VXB_dec (fun g1 => ?_) (fun g1 => ?_) <;> simp (disch := omega) [g1, fits, VE, VXR, VP, VB, VTup, kof, bl, it]
  refine VXB_dec (fun g2 => ?_) (fun g2 => ?_) <;> simp (disch := omega) [g1, g2, VE, VXR, VP, VB, VTup, kof, bl, it]
  refine VXC_e (impl_SameBytes_ok _ _) rfl rfl ?_
  simp (disch := omega) [g1, g2, VE, VXR, VP, VB, VTup, kof, bl, it]
abbrev n_spec_l13Fits : Nat := 110
def c_spec_l13Fits : AF := ⟨1, 5, [.tmp 2], (.seq (.ops [.i (.lbox 1 (.s 0)), .i (.mov 2 (.c (.val false [.bool false])))]) (.seq (.ops [.i (.fad 3 (.s 1) 5), .i (.fad 4 (.s 3) 0), .i (.ldl 5 1 (.s 4) 1 false), .i (.fad 6 (.s 1) 0), .i (.ldl 7 1 (.s 6) 1 false), .i (.bin 8 .lss (.s 5) (.s 7)), .i (.mov 9 (.s 8)), .g 9 true 11 (.fad 10 (.s 1) 5), .g 9 true 12 (.fad 11 (.s 10) 1), .g 9 true 13 (.ldl 12 1 (.s 11) 1 false), .g 9 true 14 (.fad 13 (.s 1) 1), .g 9 true 15 (.ldl 14 1 (.s 13) 1 false), .g 9 true 16 (.bin 15 .sub (.s 14) (.c (.val false [.int .i64 1]))), .g 9 true 17 (.bin 16 .eql (.s 12) (.s 15)), .i (.pick 17 (.s 9) (.s 16) (.c (.val false [.bool false]))), .i (.mov 18 (.s 17)), .g 18 true 20 (.fad 19 (.s 1) 5), .g 18 true 21 (.fad 20 (.s 19) 2), .g 18 true 22 (.ldl 21 1 (.s 20) 1 false), .g 18 true 23 (.fad 22 (.s 1) 3), .g 18 true 24 (.ldl 23 1 (.s 22) 1 false), .g 18 true 25 (.call 25 89 false [(.s 21), (.s 23)]), .i (.pick 25 (.s 18) (.s 24) (.c (.val false [.bool false]))), .i (.mov 2 (.s 25))]) .ret))⟩
theorem k_spec_l13Fits : cd n_spec_l13Fits = some c_spec_l13Fits := by kernel_rfl
theorem l13Fits_ok (h : Head) (h1 : 1 ≤ h.height) (h2 : I64 h.height) : VC cd n_spec_l13Fits (mkP [(true, h.c)]) (fun rs _ => rs = bl (fits h)) := by
  simp only [I64] at h2
  refine VC_enter k_spec_l13Fits rfl ?_
  simp (disch := omega) [c_spec_l13Fits, Head.c, VE, VXR, VP, VB, VTup, kof, bl, it]
  refine VXB_dec (fun g1 => ?_) (fun g1 => ?_) <;> simp (disch := omega) [g1, fits, VE, VXR, VP, VB, VTup, kof, bl, it]
  refine VXB_dec (fun g2 => ?_) (fun g2 => ?_) <;> simp (disch := omega) [g1, g2, VE, VXR, VP, VB, VTup, kof, bl, it]
  refine VXC_e (spec_SameBytes_ok _ _) rfl rfl ?_
  simp (disch := omega) [g1, g2, VE, VXR, VP, VB, VTup, kof, bl, it]
def headOk (l : Lim) (h : Head) : Bool := qcOk l h.qc && isNum h.view && inn h.height 1 1152921504606846975 && inn h.proposer 0 (l.n - 1) && hash h.parent && hash h.root && fits h
theorem qcOk_lim {l : Lim} {q : Qc} (h : qcOk l q = true) : l.ok = true := by
  simp only [qcOk, Bool.and_eq_true] at h
  exact h.1.1.1.1.1.1
theorem hashes_two (x y : Bytes) : hashes [x, y] = (hash x && hash y) := by simp [hashes]
abbrev n_impl_HeadOk : Nat := 75
def c_impl_HeadOk : AF := ⟨2, 6, [.tmp 4], (.seq (.ops [.i (.lbox 2 (.s 0)), .i (.lbox 3 (.s 1)), .i (.mov 4 (.c (.val false [.bool false])))]) (.seq (.ops [.i (.ldl 5 2 (.s 2) 5 true), .i (.fad 6 (.s 3) 5), .i (.ldl 7 3 (.s 6) 5 true), .i (.call 9 97 false [(.s 5), (.s 7)]), .i (.mov 9 (.s 8)), .g 9 true 11 (.fad 10 (.s 3) 0), .g 9 true 12 (.ldl 11 3 (.s 10) 1 false), .g 9 true 13 (.call 13 112 false [(.s 11)]), .i (.pick 13 (.s 9) (.s 12) (.c (.val false [.bool false]))), .i (.mov 14 (.s 13)), .g 14 true 16 (.fad 15 (.s 3) 1), .g 14 true 17 (.ldl 16 3 (.s 15) 1 false), .g 14 true 18 (.call 18 103 false [(.s 16), (.c (.val false [.int .i64 1])), (.c (.val false [.int .i64 1152921504606846975]))]), .i (.pick 18 (.s 14) (.s 17) (.c (.val false [.bool false]))), .i (.mov 19 (.s 18)), .g 19 true 21 (.fad 20 (.s 3) 2), .g 19 true 22 (.ldl 21 3 (.s 20) 1 false), .g 19 true 23 (.fad 22 (.s 2) 0), .g 19 true 24 (.ldl 23 2 (.s 22) 1 false), .g 19 true 25 (.bin 24 .sub (.s 23) (.c (.val false [.int .i64 1]))), .g 19 true 26 (.call 26 103 false [(.s 21), (.c (.val false [.int .i64 0])), (.s 24)]), .i (.pick 26 (.s 19) (.s 25) (.c (.val false [.bool false]))), .i (.mov 27 (.s 26)), .g 27 true 29 (.fad 28 (.s 3) 3), .g 27 true 30 (.ldl 29 3 (.s 28) 1 false), .g 27 true 31 (.fad 30 (.s 3) 4), .g 27 true 32 (.ldl 31 3 (.s 30) 1 false), .g 27 true 33 (.bsl 32 27 1 2 [.nils] [(0, 1, (.s 29)), (1, 1, (.s 31))]), .g 27 true 34 (.call 34 113 false [(.s 32)]), .i (.pick 34 (.s 27) (.s 33) (.c (.val false [.bool false]))), .i (.mov 35 (.s 34)), .g 35 true 37 (.ldl 36 3 (.s 3) 10 true), .g 35 true 38 (.call 38 114 false [(.s 36)]), .i (.pick 38 (.s 35) (.s 37) (.c (.val false [.bool false]))), .i (.mov 4 (.s 38))]) .ret))⟩
theorem k_impl_HeadOk : cd n_impl_HeadOk = some c_impl_HeadOk := by kernel_rfl
theorem impl_HeadOk_ok (l : Lim) (h : Head) (hw : h.wf) : VC cd n_impl_HeadOk (mkP [(true, l.c), (true, h.c)]) (fun rs _ => rs = bl (headOk l h)) := by
  obtain ⟨w1, w2, w3, w4, w5, w6⟩ := hw
  have w2' := w2
  simp only [I64, Sz] at w1 w2 w3 w4 w5
  refine VC_enter k_impl_HeadOk rfl ?_
  simp (disch := omega) [c_impl_HeadOk, Lim.c, Head.c, VE, VXR, VP, VB, VTup, kof, bl, it]
  refine VXC_e (impl_QcOk_ok l h.qc w6) rfl rfl ?_
  simp (disch := omega) [VE, VXR, VP, VB, VTup, kof, bl, it]
  refine VXB_b (fun h1 => ?_) (fun h1 => ?_) <;> simp (disch := omega) [h1, headOk, VE, VXR, VP, VB, VTup, kof, bl, it]
  have hn := lim_n (qcOk_lim h1)
  refine VXC_e (isNum_ok _) rfl rfl ?_
  simp (disch := omega) [h1, VE, VXR, VP, VB, VTup, kof, bl, it]
  refine VXB_b (fun h2 => ?_) (fun h2 => ?_) <;> simp (disch := omega) [h1, h2, VE, VXR, VP, VB, VTup, kof, bl, it]
  refine VXC_e (within_ok _ _ _) rfl rfl ?_
  simp (disch := omega) [h1, h2, VE, VXR, VP, VB, VTup, kof, bl, it]
  refine VXB_b (fun h3 => ?_) (fun h3 => ?_) <;> simp (disch := omega) [h1, h2, h3, VE, VXR, VP, VB, VTup, kof, bl, it]
  refine VXC_e (within_ok _ _ _) rfl rfl ?_
  simp (disch := omega) [h1, h2, h3, VE, VXR, VP, VB, VTup, kof, bl, it]
  refine VXB_b (fun h4 => ?_) (fun h4 => ?_) <;> simp (disch := omega) [h1, h2, h3, h4, VE, VXR, VP, VB, VTup, kof, bl, it]
  refine VXC_e (areHashes_ok [h.parent, h.root] (by simp)) rfl rfl ?_
  simp (disch := omega) [h1, h2, h3, h4, VE, VXR, VP, VB, VTup, kof, bl, it]
  refine VXB_b (fun h5 => ?_) (fun h5 => ?_)
  · have h6 : hash h.parent = true ∧ hash h.root = true := by simpa [hashes_two] using h5
    simp (disch := omega) [h1, h2, h3, h4, h5, VE, VXR, VP, VB, VTup, kof, bl, it]
    refine VXC_e (matches_ok h (inn_t h3).1 w2') rfl rfl ?_
    simp (disch := omega) [h1, h2, h3, h4, h5, h6, VE, VXR, VP, VB, VTup, kof, bl, it]
  · simp (disch := omega) [h1, h2, h3, h4, h5, VE, VXR, VP, VB, VTup, kof, bl, it]
    rw [hashes_two] at h5
    simp only [Bool.and_eq_false_iff] at h5
    rcases h5 with h5 | h5 <;> simp [h5]
abbrev n_spec_HeadOk : Nat := 73
def c_spec_HeadOk : AF := ⟨2, 6, [.tmp 4], (.seq (.ops [.i (.lbox 2 (.s 0)), .i (.lbox 3 (.s 1)), .i (.mov 4 (.c (.val false [.bool false])))]) (.seq (.ops [.i (.ldl 5 2 (.s 2) 5 true), .i (.call 7 100 false [(.s 5)]), .i (.mov 7 (.s 6)), .g 7 true 9 (.fad 8 (.s 3) 0), .g 7 true 10 (.ldl 9 3 (.s 8) 1 false), .g 7 true 11 (.call 11 107 false [(.s 9)]), .i (.pick 11 (.s 7) (.s 10) (.c (.val false [.bool false]))), .i (.mov 12 (.s 11)), .g 12 true 14 (.fad 13 (.s 3) 1), .g 12 true 15 (.ldl 14 3 (.s 13) 1 false), .g 12 true 16 (.call 16 101 false [(.s 14), (.c (.val false [.int .i64 1])), (.c (.val false [.int .i64 1152921504606846975]))]), .i (.pick 16 (.s 12) (.s 15) (.c (.val false [.bool false]))), .i (.mov 17 (.s 16)), .g 17 true 19 (.fad 18 (.s 3) 2), .g 17 true 20 (.ldl 19 3 (.s 18) 1 false), .g 17 true 21 (.fad 20 (.s 2) 0), .g 17 true 22 (.ldl 21 2 (.s 20) 1 false), .g 17 true 23 (.bin 22 .sub (.s 21) (.c (.val false [.int .i64 1]))), .g 17 true 24 (.call 24 101 false [(.s 19), (.c (.val false [.int .i64 0])), (.s 22)]), .i (.pick 24 (.s 17) (.s 23) (.c (.val false [.bool false]))), .i (.mov 25 (.s 24)), .g 25 true 27 (.fad 26 (.s 3) 3), .g 25 true 28 (.ldl 27 3 (.s 26) 1 false), .g 25 true 29 (.call 29 109 false [(.s 27)]), .i (.pick 29 (.s 25) (.s 28) (.c (.val false [.bool false]))), .i (.mov 30 (.s 29)), .g 30 true 32 (.fad 31 (.s 3) 4), .g 30 true 33 (.ldl 32 3 (.s 31) 1 false), .g 30 true 34 (.call 34 109 false [(.s 32)]), .i (.pick 34 (.s 30) (.s 33) (.c (.val false [.bool false]))), .i (.mov 35 (.s 34)), .g 35 true 37 (.ldl 36 2 (.s 2) 5 true), .g 35 true 38 (.fad 37 (.s 3) 5), .g 35 true 39 (.ldl 38 3 (.s 37) 5 true), .g 35 true 40 (.call 40 88 false [(.s 36), (.s 38)]), .i (.pick 40 (.s 35) (.s 39) (.c (.val false [.bool false]))), .i (.mov 41 (.s 40)), .g 41 true 43 (.ldl 42 3 (.s 3) 10 true), .g 41 true 44 (.call 44 110 false [(.s 42)]), .i (.pick 44 (.s 41) (.s 43) (.c (.val false [.bool false]))), .i (.mov 4 (.s 44))]) .ret))⟩
theorem k_spec_HeadOk : cd n_spec_HeadOk = some c_spec_HeadOk := by kernel_rfl
theorem spec_HeadOk_ok (l : Lim) (h : Head) (hw : h.wf) : VC cd n_spec_HeadOk (mkP [(true, l.c), (true, h.c)]) (fun rs _ => rs = bl (headOk l h)) := by
  obtain ⟨w1, w2, w3, w4, w5, w6⟩ := hw
  have w2' := w2
  simp only [I64, Sz] at w1 w2 w3 w4 w5
  have hlim : l.ok = false → qcOk l h.qc = false := fun e => by simp [qcOk, e]
  refine VC_enter k_spec_HeadOk rfl ?_
  simp (disch := omega) [c_spec_HeadOk, Lim.c, Head.c, VE, VXR, VP, VB, VTup, kof, bl, it]
  refine VXC_e (spec_LimitsOk_ok l) rfl rfl ?_
  simp (disch := omega) [VE, VXR, VP, VB, VTup, kof, bl, it]
  refine VXB_b (fun h0 => ?_) (fun h0 => ?_)
  case refine_2 => simp (disch := omega) [h0, headOk, hlim h0, VE, VXR, VP, VB, VTup, kof, bl, it]
  simp (disch := omega) [h0, VE, VXR, VP, VB, VTup, kof, bl, it]
  have hn := lim_n h0
  refine VXC_e (l01Num_ok _) rfl rfl ?_
  simp (disch := omega) [h0, VE, VXR, VP, VB, VTup, kof, bl, it]
  refine VXB_b (fun h2 => ?_) (fun h2 => ?_) <;> simp (disch := omega) [h0, h2, headOk, VE, VXR, VP, VB, VTup, kof, bl, it]
  refine VXC_e (l01In_ok _ _ _) rfl rfl ?_
  simp (disch := omega) [h0, h2, VE, VXR, VP, VB, VTup, kof, bl, it]
  refine VXB_b (fun h3 => ?_) (fun h3 => ?_) <;> simp (disch := omega) [h0, h2, h3, VE, VXR, VP, VB, VTup, kof, bl, it]
  refine VXC_e (l01In_ok _ _ _) rfl rfl ?_
  simp (disch := omega) [h0, h2, h3, VE, VXR, VP, VB, VTup, kof, bl, it]
  refine VXB_b (fun h4 => ?_) (fun h4 => ?_) <;> simp (disch := omega) [h0, h2, h3, h4, VE, VXR, VP, VB, VTup, kof, bl, it]
  refine VXC_e (l07Hash_ok _) rfl rfl ?_
  simp (disch := omega) [h0, h2, h3, h4, VE, VXR, VP, VB, VTup, kof, bl, it]
  refine VXB_b (fun h5 => ?_) (fun h5 => ?_) <;> simp (disch := omega) [h0, h2, h3, h4, h5, VE, VXR, VP, VB, VTup, kof, bl, it]
  refine VXC_e (l07Hash_ok _) rfl rfl ?_
  simp (disch := omega) [h0, h2, h3, h4, h5, VE, VXR, VP, VB, VTup, kof, bl, it]
  refine VXB_b (fun h6 => ?_) (fun h6 => ?_) <;> simp (disch := omega) [h0, h2, h3, h4, h5, h6, VE, VXR, VP, VB, VTup, kof, bl, it]
  refine VXC_e (spec_QcOk_ok l h.qc w6) rfl rfl ?_
  simp (disch := omega) [h0, h2, h3, h4, h5, h6, VE, VXR, VP, VB, VTup, kof, bl, it]
  refine VXB_b (fun h1 => ?_) (fun h1 => ?_) <;> simp (disch := omega) [h0, h1, h2, h3, h4, h5, h6, VE, VXR, VP, VB, VTup, kof, bl, it]
  refine VXC_e (l13Fits_ok h (inn_t h3).1 w2') rfl rfl ?_
  simp (disch := omega) [h0, h1, h2, h3, h4, h5, h6, VE, VXR, VP, VB, VTup, kof, bl, it]
/-! ### Lists of headers -/
def hds (l : List Head) : List (List D) := l.map Head.c
theorem hds_len (l : List Head) : (hds l).length = l.length := by simp [hds]
theorem hds_get {l : List Head} {i : Nat} (h : i < l.length) : (hds l)[i]? = some l[i].c := by simp [hds, h]
def headsOk (l : Lim) (hs : List Head) : Bool := hs.all (headOk l)
theorem headsOk_of {l : Lim} {hs : List Head} (h : ∀ x ∈ hs.take hs.length, headOk l x = true) : headsOk l hs = true := by
  rw [List.take_length] at h
  simpa [headsOk] using h
theorem headsOk_no {l : Lim} {hs : List Head} {i : Nat} (hi : i < hs.length) (h : headOk l hs[i] = false) : headsOk l hs = false := by
  simp only [headsOk, List.all_eq_false]
  exact ⟨hs[i], List.getElem_mem hi, by simp [h]⟩
def HeadsWf (hs : List Head) : Prop := Sz hs.length ∧ ∀ h ∈ hs, h.wf
end Go.Eng.F
/-
  Functions: proofs, copies.
-/
set_option maxRecDepth 100000
set_option linter.unusedSimpArgs false
set_option linter.unusedVariables false
namespace Go.Eng.F
structure Proof where
  heads : List Head
  qc : Qc
def Proof.c (p : Proof) : List D := [.sl (hds p.heads), .int .i64 p.qc.view, .int .i64 p.qc.height, .sl (bytes p.qc.block), .sl (bytes p.qc.bits), .sl (bss p.qc.tags)]
def Proof.wf (p : Proof) : Prop := HeadsWf p.heads ∧ p.qc.wf
/-! ### Copies -/
abbrev n_impl_copyBytes : Nat := 61
def c_impl_copyBytes : AF := ⟨1, 3, [.tmp 2], (.seq (.ops [.i (.mov 2 (.c (.val false [.nils])))]) (.seq (.ops [.i (.bse 3), .i (.mov 4 (.s 0)), .i (.app 5 5 1 1 (.s 3) (.s 4)), .i (.mov 2 (.s 5))]) .ret))⟩
theorem k_impl_copyBytes : cd n_impl_copyBytes = some c_impl_copyBytes := by kernel_rfl
theorem copyBytes_ok (x : Bytes) (hx : x.length ≤ 1099511627776) : VC cd n_impl_copyBytes (mkP [(false, [.sl (bytes x)])]) (fun rs _ => rs = [(false, [.o true (some (5, 1)) (bytes x)])]) := by
  refine VC_enter k_impl_copyBytes rfl ?_
  simp (disch := omega) [c_impl_copyBytes, VE, VXR, VP, VB, VTup, kof, bl, it]
abbrev n_spec_l01Copy : Nat := 54
def c_spec_l01Copy : AF := ⟨1, 3, [.tmp 2], (.seq (.ops [.i (.mov 2 (.c (.val false [.nils])))]) (.seq (.ops [.i (.bse 3), .i (.mov 4 (.s 0)), .i (.app 5 5 1 1 (.s 3) (.s 4)), .i (.mov 2 (.s 5))]) .ret))⟩
theorem k_spec_l01Copy : cd n_spec_l01Copy = some c_spec_l01Copy := by kernel_rfl
theorem l01Copy_ok (x : Bytes) (hx : x.length ≤ 1099511627776) : VC cd n_spec_l01Copy (mkP [(false, [.sl (bytes x)])]) (fun rs _ => rs = [(false, [.o true (some (5, 1)) (bytes x)])]) := by
  refine VC_enter k_spec_l01Copy rfl ?_
  simp (disch := omega) [c_spec_l01Copy, VE, VXR, VP, VB, VTup, kof, bl, it]
def BssWf (l : List Bytes) : Prop := Sz l.length ∧ ∀ x ∈ l, Sz x.length
theorem bss_snoc {l : List Bytes} {i : Nat} (h : i < l.length) : bss (l.take i) ++ [[.sl (bytes l[i])]] = bss (l.take (i + 1)) := by
  have e : bss (l.take (i + 1)) = bss (l.take i) ++ bss [l[i]] := by
    rw [List.take_add_one, List.getElem?_eq_getElem h]; exact List.map_append
  rw [e]; rfl
abbrev n_impl_copyList : Nat := 118
def c_impl_copyList : AF := ⟨1, 5, [.tmp 2], (.seq (.ops [.i (.mov 2 (.c (.val false [.nils])))]) (.seq (.ops [.i (.bse 6), .i (.mov 3 (.s 6))]) (.seq (.seq (.ops [.i (.mov 7 (.s 0)), .i (.len 8 false (.s 7)), .i (.mov 9 (.c (.val false [.int .i64 0])))]) (.block 0 (.loop [18, 17, 16, 15, 14, 13, 12, 11, 10, 5] (.seq (.ops [.i (.bin 10 .lss (.s 9) (.s 8))]) (.seq (.cond (.s 10) .skip (.exit 0)) (.seq (.block 1 (.seq (.ops [.i (.iad 11 (.s 7) (.s 9) 1), .i (.ldh 12 (.s 11) 1 false), .i (.mov 5 (.s 12))]) (.ops [.i (.mov 13 (.s 3)), .i (.mov 14 (.s 5)), .i (.call 16 61 false [(.s 14)]), .i (.lsl 16 1 1 [.nils] [(0, 1, (.s 15))]), .i (.app 17 27 1 24 (.s 13) (.s 16)), .i (.mov 3 (.s 17))]))) (.ops [.i (.bin 18 .add (.s 9) (.c (.val false [.int .i64 1]))), .i (.mov 9 (.s 18))]))))))) (.seq (.ops [.i (.mov 19 (.s 3)), .i (.mov 2 (.s 19))]) .ret))))⟩
theorem k_impl_copyList : cd n_impl_copyList = some c_impl_copyList := by kernel_rfl
theorem copyList_ok (l : List Bytes) (hw : BssWf l) : VC cd n_impl_copyList (mkP [(false, [.sl (bss l)])]) (fun rs _ => rs = [(false, [.o true (some (27, 1)) (bss l)])]) := by
  obtain ⟨w1, w2⟩ := hw
  simp only [Sz] at w1 w2
  refine VC_enter k_impl_copyList rfl ?_
  simp (disch := omega) [c_impl_copyList, bss_len, VE, VXR, VP, VB, VTup, kof, bl, it]
  refine VX_loop3 (σ := Nat × Nat) (f1 := _) (es0 := _) (by simp (disch := omega) [VE, VXR, VP, VB, VTup, kof, bl, it]; rfl) (by simp (disch := omega) [VE, VXR, VP, VB, VTup, kof, bl, it]; rfl) (fun p => [(9, .val false [.int .i64 p.1]), (3, .val false [.ow 6 p.2])]) (fun p => [(6, .sl p.2 true true (some (27, 1)) (bss (l.take p.1)))])
    (fun p g => g + p.1 = l.length) (0, 1) l.length (by simp (disch := omega) [VE, VXR, VP, VB, VTup, kof, bl, it]) (by simp (disch := omega) [bss, VE, VXR, VP, VB, VTup, kof, bl, it]) (by omega) ?_
  rintro ⟨i, v⟩ n g hg
  simp only at hg
  simp (disch := omega) [VE, VXR, VP, VB, VTup, kof, bl, it]
  refine VXB_dec (fun h1 => ?_) (fun h1 => ?_)
  · have hx : i < l.length := by omega
    simp (disch := omega) [bss_get hx, VE, VXR, VP, VB, VTup, kof, bl, it]
    refine VXC_e (copyBytes_ok l[i] (by have := w2 _ (List.getElem_mem hx); omega)) rfl rfl ?_
    have hl : (bss (l.take i)).length = i := by rw [bss_len]; simp; omega
    simp (disch := omega) [hl, bss_snoc hx, VE, VXR, VP, VB, VTup, kof, bl, it]
    exact ⟨i + 1, n + 1, g - 1, by omega, by omega, ⟨by omega, by omega⟩, by omega, rfl⟩
  · simp (disch := omega) [VE, VXR, VP, VB, VTup, kof, bl, it]
    have : i = l.length := by omega
    subst this
    rw [List.take_length]
abbrev n_spec_l06Copy : Nat := 111
def c_spec_l06Copy : AF := ⟨1, 5, [.tmp 2], (.seq (.ops [.i (.mov 2 (.c (.val false [.nils])))]) (.seq (.ops [.i (.bse 6), .i (.mov 3 (.s 6))]) (.seq (.seq (.ops [.i (.mov 7 (.s 0)), .i (.len 8 false (.s 7)), .i (.mov 9 (.c (.val false [.int .i64 0])))]) (.block 0 (.loop [18, 17, 16, 15, 14, 13, 12, 11, 10, 5] (.seq (.ops [.i (.bin 10 .lss (.s 9) (.s 8))]) (.seq (.cond (.s 10) .skip (.exit 0)) (.seq (.block 1 (.seq (.ops [.i (.iad 11 (.s 7) (.s 9) 1), .i (.ldh 12 (.s 11) 1 false), .i (.mov 5 (.s 12))]) (.ops [.i (.mov 13 (.s 3)), .i (.mov 14 (.s 5)), .i (.call 16 54 false [(.s 14)]), .i (.lsl 16 1 1 [.nils] [(0, 1, (.s 15))]), .i (.app 17 27 1 24 (.s 13) (.s 16)), .i (.mov 3 (.s 17))]))) (.ops [.i (.bin 18 .add (.s 9) (.c (.val false [.int .i64 1]))), .i (.mov 9 (.s 18))]))))))) (.seq (.ops [.i (.mov 19 (.s 3)), .i (.mov 2 (.s 19))]) .ret))))⟩
theorem k_spec_l06Copy : cd n_spec_l06Copy = some c_spec_l06Copy := by kernel_rfl
theorem l06Copy_ok (l : List Bytes) (hw : BssWf l) : VC cd n_spec_l06Copy (mkP [(false, [.sl (bss l)])]) (fun rs _ => rs = [(false, [.o true (some (27, 1)) (bss l)])]) := by
  obtain ⟨w1, w2⟩ := hw
  simp only [Sz] at w1 w2
  refine VC_enter k_spec_l06Copy rfl ?_
  simp (disch := omega) [c_spec_l06Copy, bss_len, VE, VXR, VP, VB, VTup, kof, bl, it]
  refine VX_loop3 (σ := Nat × Nat) (f1 := _) (es0 := _) (by simp (disch := omega) [VE, VXR, VP, VB, VTup, kof, bl, it]; rfl) (by simp (disch := omega) [VE, VXR, VP, VB, VTup, kof, bl, it]; rfl) (fun p => [(9, .val false [.int .i64 p.1]), (3, .val false [.ow 6 p.2])]) (fun p => [(6, .sl p.2 true true (some (27, 1)) (bss (l.take p.1)))])
    (fun p g => g + p.1 = l.length) (0, 1) l.length (by simp (disch := omega) [VE, VXR, VP, VB, VTup, kof, bl, it]) (by simp (disch := omega) [bss, VE, VXR, VP, VB, VTup, kof, bl, it]) (by omega) ?_
  rintro ⟨i, v⟩ n g hg
  simp only at hg
  simp (disch := omega) [VE, VXR, VP, VB, VTup, kof, bl, it]
  refine VXB_dec (fun h1 => ?_) (fun h1 => ?_)
  · have hx : i < l.length := by omega
    simp (disch := omega) [bss_get hx, VE, VXR, VP, VB, VTup, kof, bl, it]
    refine VXC_e (l01Copy_ok l[i] (by have := w2 _ (List.getElem_mem hx); omega)) rfl rfl ?_
    have hl : (bss (l.take i)).length = i := by rw [bss_len]; simp; omega
    simp (disch := omega) [hl, bss_snoc hx, VE, VXR, VP, VB, VTup, kof, bl, it]
    exact ⟨i + 1, n + 1, g - 1, by omega, by omega, ⟨by omega, by omega⟩, by omega, rfl⟩
  · simp (disch := omega) [VE, VXR, VP, VB, VTup, kof, bl, it]
    have : i = l.length := by omega
    subst this
    rw [List.take_length]
def Qc.o (q : Qc) : List E := [.p (.int .i64 q.view), .p (.int .i64 q.height), .o true (some (5, 1)) (bytes q.block), .o true (some (5, 1)) (bytes q.bits), .o true (some (27, 1)) (bss q.tags)]
def Qc.wc (q : Qc) : Prop := q.wf ∧ ∀ x ∈ q.tags, Sz x.length
theorem Qc.wc.t {q : Qc} (h : q.wc) : BssWf q.tags := ⟨h.1.2.2.2.2, h.2⟩
abbrev n_impl_Qc_copied : Nat := 78
def c_impl_Qc_copied : AF := ⟨1, 5, [.cell 2 5 true], (.seq (.ops [.i (.lbox 1 (.s 0)), .i (.lal 2 [.int .i64 0, .int .i64 0, .nils, .nils, .nils])]) (.seq (.ops [.i (.fad 3 (.s 1) 0), .i (.ldl 4 1 (.s 3) 1 false), .i (.fad 5 (.s 1) 1), .i (.ldl 6 1 (.s 5) 1 false), .i (.fad 7 (.s 1) 2), .i (.ldl 8 1 (.s 7) 1 false), .i (.call 10 61 false [(.s 8)]), .i (.fad 10 (.s 1) 3), .i (.ldl 11 1 (.s 10) 1 false), .i (.call 13 61 false [(.s 11)]), .i (.fad 13 (.s 1) 4), .i (.ldl 14 1 (.s 13) 1 false), .i (.call 16 118 false [(.s 14)]), .i (.bld 16 [.int .i64 0, .int .i64 0, .nils, .nils, .nils] [(0, 1, (.s 4)), (1, 1, (.s 6)), (2, 1, (.s 9)), (3, 1, (.s 12)), (4, 1, (.s 15))]), .i (.stl 2 (.s 2) (.s 16) 5)]) .ret))⟩
theorem k_impl_Qc_copied : cd n_impl_Qc_copied = some c_impl_Qc_copied := by kernel_rfl
theorem Qc_copied_ok (q : Qc) (hw : q.wc) : VC cd n_impl_Qc_copied (mkP [(true, q.c)]) (fun rs _ => rs = [(true, q.o)]) := by
  have ht := hw.t
  obtain ⟨⟨w1, w2, w3, w4, w5⟩, w6⟩ := hw
  simp only [Sz] at w3 w4
  refine VC_enter k_impl_Qc_copied rfl ?_
  simp (disch := omega) [c_impl_Qc_copied, Qc.c, VE, VXR, VP, VB, VTup, kof, bl, it]
  refine VXC_e (copyBytes_ok _ (by omega)) rfl rfl ?_
  simp (disch := omega) [VE, VXR, VP, VB, VTup, kof, bl, it]
  refine VXC_e (copyBytes_ok _ (by omega)) rfl rfl ?_
  simp (disch := omega) [VE, VXR, VP, VB, VTup, kof, bl, it]
  refine VXC_e (copyList_ok _ ht) rfl rfl ?_
  simp (disch := omega) [Qc.o, VE, VXR, VP, VB, VTup, kof, bl, it]
abbrev n_spec_l12Copy : Nat := 74
def c_spec_l12Copy : AF := ⟨1, 5, [.cell 2 5 true], (.seq (.ops [.i (.lbox 1 (.s 0)), .i (.lal 2 [.int .i64 0, .int .i64 0, .nils, .nils, .nils])]) (.seq (.ops [.i (.fad 3 (.s 1) 0), .i (.ldl 4 1 (.s 3) 1 false), .i (.fad 5 (.s 1) 1), .i (.ldl 6 1 (.s 5) 1 false), .i (.fad 7 (.s 1) 2), .i (.ldl 8 1 (.s 7) 1 false), .i (.call 10 54 false [(.s 8)]), .i (.fad 10 (.s 1) 3), .i (.ldl 11 1 (.s 10) 1 false), .i (.call 13 54 false [(.s 11)]), .i (.fad 13 (.s 1) 4), .i (.ldl 14 1 (.s 13) 1 false), .i (.call 16 111 false [(.s 14)]), .i (.bld 16 [.int .i64 0, .int .i64 0, .nils, .nils, .nils] [(0, 1, (.s 4)), (1, 1, (.s 6)), (2, 1, (.s 9)), (3, 1, (.s 12)), (4, 1, (.s 15))]), .i (.stl 2 (.s 2) (.s 16) 5)]) .ret))⟩
theorem k_spec_l12Copy : cd n_spec_l12Copy = some c_spec_l12Copy := by kernel_rfl
theorem l12Copy_ok (q : Qc) (hw : q.wc) : VC cd n_spec_l12Copy (mkP [(true, q.c)]) (fun rs _ => rs = [(true, q.o)]) := by
  have ht := hw.t
  obtain ⟨⟨w1, w2, w3, w4, w5⟩, w6⟩ := hw
  simp only [Sz] at w3 w4
  refine VC_enter k_spec_l12Copy rfl ?_
  simp (disch := omega) [c_spec_l12Copy, Qc.c, VE, VXR, VP, VB, VTup, kof, bl, it]
  refine VXC_e (l01Copy_ok _ (by omega)) rfl rfl ?_
  simp (disch := omega) [VE, VXR, VP, VB, VTup, kof, bl, it]
  refine VXC_e (l01Copy_ok _ (by omega)) rfl rfl ?_
  simp (disch := omega) [VE, VXR, VP, VB, VTup, kof, bl, it]
  refine VXC_e (l06Copy_ok _ ht) rfl rfl ?_
  simp (disch := omega) [Qc.o, VE, VXR, VP, VB, VTup, kof, bl, it]
def Head.o (h : Head) : List E := [.p (.int .i64 h.view), .p (.int .i64 h.height), .p (.int .i64 h.proposer), .o true (some (5, 1)) (bytes h.parent), .o true (some (5, 1)) (bytes h.root), .p (.int .i64 h.qc.view), .p (.int .i64 h.qc.height), .o true (some (5, 1)) (bytes h.qc.block), .o true (some (5, 1)) (bytes h.qc.bits), .o true (some (27, 1)) (bss h.qc.tags)]
def Head.wc (h : Head) : Prop := h.wf ∧ ∀ x ∈ h.qc.tags, Sz x.length
abbrev n_impl_Head_copied : Nat := 42
def c_impl_Head_copied : AF := ⟨1, 5, [.cell 2 10 true], (.seq (.ops [.i (.lbox 1 (.s 0)), .i (.lal 2 [.int .i64 0, .int .i64 0, .int .i64 0, .nils, .nils, .int .i64 0, .int .i64 0, .nils, .nils, .nils])]) (.seq (.ops [.i (.fad 3 (.s 1) 0), .i (.ldl 4 1 (.s 3) 1 false), .i (.fad 5 (.s 1) 1), .i (.ldl 6 1 (.s 5) 1 false), .i (.fad 7 (.s 1) 2), .i (.ldl 8 1 (.s 7) 1 false), .i (.fad 9 (.s 1) 3), .i (.ldl 10 1 (.s 9) 1 false), .i (.call 12 61 false [(.s 10)]), .i (.fad 12 (.s 1) 4), .i (.ldl 13 1 (.s 12) 1 false), .i (.call 15 61 false [(.s 13)]), .i (.fad 15 (.s 1) 5), .i (.ldl 16 1 (.s 15) 5 true), .i (.call 18 78 false [(.s 16)]), .i (.bld 18 [.int .i64 0, .int .i64 0, .int .i64 0, .nils, .nils, .int .i64 0, .int .i64 0, .nils, .nils, .nils] [(0, 1, (.s 4)), (1, 1, (.s 6)), (2, 1, (.s 8)), (3, 1, (.s 11)), (4, 1, (.s 14)), (5, 5, (.s 17))]), .i (.stl 2 (.s 2) (.s 18) 10)]) .ret))⟩
theorem k_impl_Head_copied : cd n_impl_Head_copied = some c_impl_Head_copied := by kernel_rfl
theorem Head_copied_ok (h : Head) (hw : h.wc) : VC cd n_impl_Head_copied (mkP [(true, h.c)]) (fun rs _ => rs = [(true, h.o)]) := by
  obtain ⟨⟨w1, w2, w3, w4, w5, w6⟩, w7⟩ := hw
  simp only [Sz] at w4 w5
  refine VC_enter k_impl_Head_copied rfl ?_
  simp (disch := omega) [c_impl_Head_copied, Head.c, VE, VXR, VP, VB, VTup, kof, bl, it]
  refine VXC_e (copyBytes_ok _ (by omega)) rfl rfl ?_
  simp (disch := omega) [VE, VXR, VP, VB, VTup, kof, bl, it]
  refine VXC_e (copyBytes_ok _ (by omega)) rfl rfl ?_
  simp (disch := omega) [VE, VXR, VP, VB, VTup, kof, bl, it]
  refine VXC_e (Qc_copied_ok h.qc ⟨w6, w7⟩) rfl rfl ?_
  simp (disch := omega) [Head.o, Qc.o, VE, VXR, VP, VB, VTup, kof, bl, it]
abbrev n_spec_l13Copy : Nat := 39
def c_spec_l13Copy : AF := ⟨1, 5, [.cell 2 10 true], (.seq (.ops [.i (.lbox 1 (.s 0)), .i (.lal 2 [.int .i64 0, .int .i64 0, .int .i64 0, .nils, .nils, .int .i64 0, .int .i64 0, .nils, .nils, .nils])]) (.seq (.ops [.i (.fad 3 (.s 1) 0), .i (.ldl 4 1 (.s 3) 1 false), .i (.fad 5 (.s 1) 1), .i (.ldl 6 1 (.s 5) 1 false), .i (.fad 7 (.s 1) 2), .i (.ldl 8 1 (.s 7) 1 false), .i (.fad 9 (.s 1) 3), .i (.ldl 10 1 (.s 9) 1 false), .i (.call 12 54 false [(.s 10)]), .i (.fad 12 (.s 1) 4), .i (.ldl 13 1 (.s 12) 1 false), .i (.call 15 54 false [(.s 13)]), .i (.fad 15 (.s 1) 5), .i (.ldl 16 1 (.s 15) 5 true), .i (.call 18 74 false [(.s 16)]), .i (.bld 18 [.int .i64 0, .int .i64 0, .int .i64 0, .nils, .nils, .int .i64 0, .int .i64 0, .nils, .nils, .nils] [(0, 1, (.s 4)), (1, 1, (.s 6)), (2, 1, (.s 8)), (3, 1, (.s 11)), (4, 1, (.s 14)), (5, 5, (.s 17))]), .i (.stl 2 (.s 2) (.s 18) 10)]) .ret))⟩
theorem k_spec_l13Copy : cd n_spec_l13Copy = some c_spec_l13Copy := by kernel_rfl
theorem l13Copy_ok (h : Head) (hw : h.wc) : VC cd n_spec_l13Copy (mkP [(true, h.c)]) (fun rs _ => rs = [(true, h.o)]) := by
  obtain ⟨⟨w1, w2, w3, w4, w5, w6⟩, w7⟩ := hw
  simp only [Sz] at w4 w5
  refine VC_enter k_spec_l13Copy rfl ?_
  simp (disch := omega) [c_spec_l13Copy, Head.c, VE, VXR, VP, VB, VTup, kof, bl, it]
  refine VXC_e (l01Copy_ok _ (by omega)) rfl rfl ?_
  simp (disch := omega) [VE, VXR, VP, VB, VTup, kof, bl, it]
  refine VXC_e (l01Copy_ok _ (by omega)) rfl rfl ?_
  simp (disch := omega) [VE, VXR, VP, VB, VTup, kof, bl, it]
  refine VXC_e (l12Copy_ok h.qc ⟨w6, w7⟩) rfl rfl ?_
  simp (disch := omega) [Head.o, Qc.o, VE, VXR, VP, VB, VTup, kof, bl, it]
/-! ### Commits -/
def zeroHead : Head := ⟨0, 0, 0, [], [], ⟨0, 0, [], [], []⟩⟩
def zeroHeadE : List E := [.p (.int .i64 0), .p (.int .i64 0), .p (.int .i64 0), .p .nils, .p .nils, .p (.int .i64 0), .p (.int .i64 0), .p .nils, .p .nils, .p .nils]
end Go.Eng.F
/-
  The structs as values of the program's types; Commits at those types.
-/
set_option maxRecDepth 100000
set_option linter.unusedSimpArgs false
set_option linter.unusedVariables false
namespace Go.Eng.F
open Go.Eng.U (TQc THead TLimits TProof)
theorem i64_of {n : Int} (h : IntKind.i64.min ≤ n ∧ n ≤ IntKind.i64.max) : I64 n := by
  have h1 : IntKind.i64.min = -9223372036854775808 := rfl
  have h2 : IntKind.i64.max = 9223372036854775807 := rfl
  unfold I64
  omega
theorem i64_ok {n : Int} (h : I64 n) : TvOk (.int .i64) (.i n) := by
  have h1 : IntKind.i64.min = -9223372036854775808 := rfl
  have h2 : IntKind.i64.max = 9223372036854775807 := rfl
  unfold I64 at h
  simp only [TvOk]
  omega
theorem maxLen_eq : maxLen = 9223372036854775807 := rfl
theorem enc_bss' (l : List Bytes) : enc (.sl (.sl (.int .u8))) (bssT l) = [.sl (bss l)] := enc_bss l
theorem enc_int (k : IntKind) (n : Int) : enc (.int k) (.i n) = [.int k n] := rfl
theorem enc_bool (b : Bool) : enc .bool (.b b) = [.bool b] := rfl
theorem enc_st (ts : List Ty) (vs : List Tv) : enc (.st ts) (.r vs) = encS ts vs := rfl
theorem encS_cons (t : Ty) (ts : List Ty) (v : Tv) (vs : List Tv) : encS (t :: ts) (v :: vs) = enc t v ++ encS ts vs := rfl
theorem encS_nil : encS [] [] = [] := rfl
theorem enc_sl (t : Ty) (xs : List Tv) : enc (.sl t) (.l xs) = [.sl (xs.map (enc t))] := rfl
theorem okS_cons {t : Ty} {ts : List Ty} {v : Tv} {vs : List Tv} : TvOkS (t :: ts) (v :: vs) ↔ TvOk t v ∧ TvOkS ts vs := by simp only [TvOkS]
theorem okS_nil : TvOkS [] [] ↔ True := by simp only [TvOkS]
theorem ok_st {ts : List Ty} {vs : List Tv} : TvOk (.st ts) (.r vs) ↔ TvOkS ts vs := by simp only [TvOk]
theorem ok_int {k : IntKind} {n : Int} : TvOk (.int k) (.i n) ↔ k.min ≤ n ∧ n ≤ k.max := by simp only [TvOk]
theorem ok_sl {t : Ty} {xs : List Tv} : TvOk (.sl t) (.l xs) ↔ xs.length ≤ maxLen ∧ ∀ x ∈ xs, TvOk t x := by simp only [TvOk]
theorem bs_of {x : Bytes} (h : wt (bsT x) ≤ 1048576) : Sz x.length := by rw [wt_bs] at h; unfold Sz; omega
theorem bss_of {l : List Bytes} (h : wt (bssT l) ≤ 1048576) : Sz l.length ∧ ∀ x ∈ l, Sz x.length := by
  obtain ⟨h1, h2⟩ := wt_bss l
  unfold Sz
  exact ⟨by omega, fun x hx => by have := h2 x hx; omega⟩
theorem sz_bs {x : Bytes} (h : Sz x.length) : TvOk (.sl (.int .u8)) (bsT x) := ok_bs (by unfold Sz at h; rw [maxLen_eq]; omega)
theorem sz_bss {l : List Bytes} (h : Sz l.length) (h2 : ∀ x ∈ l, Sz x.length) : TvOk (.sl (.sl (.int .u8))) (bssT l) := ok_bss (by unfold Sz at h; rw [maxLen_eq]; omega) fun x hx => by have := h2 x hx; unfold Sz at this; rw [maxLen_eq]; omega
theorem enc_ints (l : List Int) : enc (.sl (.int .i64)) (intsT l) = [.sl (l.map fun n => [.int .i64 n])] := by
  simp only [intsT, enc_sl, List.map_map]
  congr 2
theorem enc_str (s : ByteArray) : enc .str (.s s) = [.str s] := rfl
/-! ### Limits -/
def Lim.tv (l : Lim) : Tv := .r [.i l.n, .i l.tx, .i l.txs, .i l.frame, .i l.heads]
theorem Lim.enc (l : Lim) : enc TLimits l.tv = l.c := rfl
theorem Lim.ex {v : Tv} (h : TvOk TLimits v) : ∃ l : Lim, v = l.tv := by
  obtain ⟨vs, rfl, h⟩ := h.st
  obtain ⟨v0, _, rfl, h0, h⟩ := h.step
  obtain ⟨v1, _, rfl, h1, h⟩ := h.step
  obtain ⟨v2, _, rfl, h2, h⟩ := h.step
  obtain ⟨v3, _, rfl, h3, h⟩ := h.step
  obtain ⟨v4, _, rfl, h4, h⟩ := h.step
  obtain rfl := h.fin
  obtain ⟨n0, rfl, _⟩ := h0.int
  obtain ⟨n1, rfl, _⟩ := h1.int
  obtain ⟨n2, rfl, _⟩ := h2.int
  obtain ⟨n3, rfl, _⟩ := h3.int
  obtain ⟨n4, rfl, _⟩ := h4.int
  exact ⟨⟨n0, n1, n2, n3, n4⟩, rfl⟩
/-! ### Certificates -/
def Qc.tv (q : Qc) : Tv := .r [.i q.view, .i q.height, bsT q.block, bsT q.bits, bssT q.tags]
theorem Qc.enc (q : Qc) : enc TQc q.tv = q.c := by simp only [Qc.tv, enc_st, encS_cons, encS_nil, enc_int, enc_bs, enc_bss', Qc.c, List.cons_append, List.nil_append]
theorem Qc.ex {v : Tv} (h : TvOk TQc v) : ∃ q : Qc, v = q.tv := by
  obtain ⟨vs, rfl, h⟩ := h.st
  obtain ⟨v0, _, rfl, h0, h⟩ := h.step
  obtain ⟨v1, _, rfl, h1, h⟩ := h.step
  obtain ⟨v2, _, rfl, h2, h⟩ := h.step
  obtain ⟨v3, _, rfl, h3, h⟩ := h.step
  obtain ⟨v4, _, rfl, h4, h⟩ := h.step
  obtain rfl := h.fin
  obtain ⟨n0, rfl, _⟩ := h0.int
  obtain ⟨n1, rfl, _⟩ := h1.int
  obtain ⟨n2, rfl⟩ := bsT_ex h2
  obtain ⟨n3, rfl⟩ := bsT_ex h3
  obtain ⟨n4, rfl⟩ := bssT_ex h4
  exact ⟨⟨n0, n1, n2, n3, n4⟩, rfl⟩
theorem Qc.of {q : Qc} (h : TvOk TQc q.tv) (hw : wt q.tv ≤ 1048576) : q.wc := by
  simp only [Qc.tv, ok_st, okS_cons, ok_int] at h
  simp only [Qc.tv, wt, wts] at hw
  obtain ⟨h0, h1, _⟩ := h
  have h4 := bss_of (l := q.tags) (by omega)
  exact ⟨⟨i64_of h0, i64_of h1, bs_of (by omega), bs_of (by omega), h4.1⟩, h4.2⟩
theorem Qc.wc.tok {q : Qc} (h : q.wc) : TvOk TQc q.tv := by
  obtain ⟨⟨h0, h1, h2, h3, h4⟩, h5⟩ := h
  simp only [Qc.tv, ok_st, okS_cons]
  exact ⟨i64_ok h0, i64_ok h1, sz_bs h2, sz_bs h3, sz_bss h4 h5, okS_nil.2 trivial⟩
theorem Qc.rs (q : Qc) : EEq q.o (Go.Eng.enc TQc q.tv) := by
  rw [Qc.enc]
  simp only [Qc.o, Qc.c, EEq, D.leaf, and_self]
/-! ### Headers -/
def Head.tv (h : Head) : Tv := .r [.i h.view, .i h.height, .i h.proposer, bsT h.parent, bsT h.root, h.qc.tv]
theorem Head.enc (h : Head) : enc THead h.tv = h.c := by simp only [Head.tv, Qc.enc, enc_st, encS_cons, encS_nil, enc_int, enc_bs, enc_bss', Head.c, Qc.c, List.cons_append, List.nil_append]
theorem Head.ex {v : Tv} (h : TvOk THead v) : ∃ q : Head, v = q.tv := by
  obtain ⟨vs, rfl, h⟩ := h.st
  obtain ⟨v0, _, rfl, h0, h⟩ := h.step
  obtain ⟨v1, _, rfl, h1, h⟩ := h.step
  obtain ⟨v2, _, rfl, h2, h⟩ := h.step
  obtain ⟨v3, _, rfl, h3, h⟩ := h.step
  obtain ⟨v4, _, rfl, h4, h⟩ := h.step
  obtain ⟨v5, _, rfl, h5, h⟩ := h.step
  obtain rfl := h.fin
  obtain ⟨n0, rfl, _⟩ := h0.int
  obtain ⟨n1, rfl, _⟩ := h1.int
  obtain ⟨n2, rfl, _⟩ := h2.int
  obtain ⟨n3, rfl⟩ := bsT_ex h3
  obtain ⟨n4, rfl⟩ := bsT_ex h4
  obtain ⟨n5, rfl⟩ := Qc.ex h5
  exact ⟨⟨n0, n1, n2, n3, n4, n5⟩, rfl⟩
theorem Head.of {q : Head} (h : TvOk THead q.tv) (hw : wt q.tv ≤ 1048576) : q.wc := by
  simp only [Head.tv, ok_st, okS_cons] at h
  simp only [Head.tv, wt, wts] at hw
  obtain ⟨h0, h1, h2, _, _, h5, _⟩ := h
  have h4 := Qc.of h5 (by omega)
  exact ⟨⟨i64_of (ok_int.1 h0), i64_of (ok_int.1 h1), i64_of (ok_int.1 h2), bs_of (by omega), bs_of (by omega), h4.1⟩, h4.2⟩
theorem Head.wc.tok {q : Head} (h : q.wc) : TvOk THead q.tv := by
  obtain ⟨⟨h0, h1, h2, h3, h4, h5⟩, h6⟩ := h
  simp only [Head.tv, ok_st, okS_cons]
  exact ⟨i64_ok h0, i64_ok h1, i64_ok h2, sz_bs h3, sz_bs h4, Qc.wc.tok ⟨h5, h6⟩, okS_nil.2 trivial⟩
theorem Head.rs (q : Head) : EEq q.o (Go.Eng.enc THead q.tv) := by
  rw [Head.enc]
  simp only [Head.o, Head.c, EEq, D.leaf, and_self]
def hdsT (l : List Head) : Tv := .l (l.map Head.tv)
theorem enc_hds (l : List Head) : enc (.sl THead) (hdsT l) = [.sl (hds l)] := by
  simp only [hdsT, enc_sl, List.map_map, hds]
  congr 2
  exact List.map_congr_left fun x _ => Head.enc x
theorem hdsT_ex {v : Tv} (h : TvOk (.sl THead) v) : ∃ l, v = hdsT l := by
  obtain ⟨xs, rfl, _, h2⟩ := h.sl
  obtain ⟨ys, rfl⟩ := list_ex (f := Head.tv) (P := TvOk THead) (fun v hv => Head.ex hv) h2
  exact ⟨ys, rfl⟩
theorem hds_of {l : List Head} (h : TvOk (.sl THead) (hdsT l)) (hw : wt (hdsT l) ≤ 1048576) : Sz l.length ∧ ∀ x ∈ l, x.wc := by
  unfold hdsT at h hw
  rw [wt_l] at hw
  have h2 := (ok_sl.1 h).2
  simp only [List.length_map] at hw
  refine ⟨by unfold Sz; omega, fun x hx => Head.of (h2 _ (List.mem_map_of_mem hx)) ?_⟩
  have := wts_mem (f := Head.tv) hx
  omega
/-! ### Proofs -/
def Proof.tv (p : Proof) : Tv := .r [hdsT p.heads, p.qc.tv]
theorem Proof.enc (p : Proof) : enc TProof p.tv = p.c := by simp only [Proof.tv, Qc.enc, enc_hds, enc_st, encS_cons, encS_nil, enc_int, Proof.c, Qc.c, List.cons_append, List.nil_append]
theorem Proof.ex {v : Tv} (h : TvOk TProof v) : ∃ q : Proof, v = q.tv := by
  obtain ⟨vs, rfl, h⟩ := h.st
  obtain ⟨v0, _, rfl, h0, h⟩ := h.step
  obtain ⟨v1, _, rfl, h1, h⟩ := h.step
  obtain rfl := h.fin
  obtain ⟨n0, rfl⟩ := hdsT_ex h0
  obtain ⟨n1, rfl⟩ := Qc.ex h1
  exact ⟨⟨n0, n1⟩, rfl⟩
theorem Proof.of {q : Proof} (h : TvOk TProof q.tv) (hw : wt q.tv ≤ 1048576) : q.wf ∧ (∀ h ∈ q.heads, h.wc) ∧ q.qc.wc := by
  simp only [Proof.tv, ok_st, okS_cons] at h
  simp only [Proof.tv, wt, wts] at hw
  obtain ⟨h0, h1, _⟩ := h
  have h4 := Qc.of h1 (by omega)
  have h5 := hds_of h0 (by omega)
  exact ⟨⟨⟨h5.1, fun h hh => (h5.2 h hh).1⟩, h4.1⟩, h5.2, h4⟩
/-! ### Commits -/
theorem _root_.Go.Eng.ArgsRp.ok1 {h : H} {T : Ty} {v : Tv} {al : List (Ty × Tv)} {ms : List (Bool × List C)} (ha : ArgsRp h ((T, v) :: al) ms) : TvOk T v ∧ ∃ mr, ArgsRp h al mr := by
  obtain ⟨cs, mr, rfl, ⟨S, h1⟩, h2⟩ := ha
  exact ⟨h1.ok, mr, h2⟩
/-- What a call answers, at the program's types. -/
def Ans (h : H) (ts : List (Ty × Tv)) (r : V) (h' : H) : Prop := ∃ t css S, h' = h ++ t ∧ r = valR css ∧ ResRp h' ts css S ∧ Ownd h' S ∧ ∀ i ∈ S, h.length ≤ i
end Go.Eng.F
/-
  Functions: tables of validators, a new light client.
-/
set_option maxRecDepth 100000
set_option linter.unusedSimpArgs false
set_option linter.unusedVariables false
namespace Go.Eng.F
open Go.Eng.U (TQc THead TLimits TProof TRow TTable TLight TPush)
structure Row where
  weight : Int
  key : Bytes
def Row.c (r : Row) : List D := [.int .i64 r.weight, .sl (bytes r.key)]
def Row.wf (r : Row) : Prop := I64 r.weight ∧ Sz r.key.length
structure Table where
  rows : List Row
def rws (l : List Row) : List (List D) := l.map Row.c
theorem rws_len (l : List Row) : (rws l).length = l.length := by simp [rws]
theorem rws_get {l : List Row} {i : Nat} (h : i < l.length) : (rws l)[i]? = some [.int .i64 l[i].weight, .sl (bytes l[i].key)] := by simp [rws, h, Row.c]
def Table.c (t : Table) : List D := [.sl (rws t.rows)]
def Table.wf (t : Table) : Prop := Sz t.rows.length ∧ ∀ r ∈ t.rows, r.wf
def rowOk (r : Row) : Bool := inn r.weight 1 1099511627776 && inn r.key.length 1 64
def tableOk (t : Table) : Bool := t.rows.all rowOk && inn t.rows.length 1 10
theorem rows_of {t : Table} (h : ∀ x ∈ t.rows.take t.rows.length, rowOk x = true) : tableOk t = inn t.rows.length 1 10 := by
  rw [List.take_length] at h
  simp only [tableOk, List.all_eq_true.2 h, Bool.true_and]
theorem rows_no {t : Table} {i : Nat} (hi : i < t.rows.length) (h : rowOk t.rows[i] = false) : tableOk t = false := by
  have : t.rows.all rowOk = false := List.all_eq_false.2 ⟨t.rows[i], List.getElem_mem hi, by simp [h]⟩
  simp [tableOk, this]
abbrev n_impl_TableOk : Nat := 116
def c_impl_TableOk : AF := ⟨1, 5, [.tmp 2], (.seq (.ops [.i (.lbox 1 (.s 0)), .i (.mov 2 (.c (.val false [.bool false])))]) (.seq (.seq (.ops [.i (.fad 5 (.s 1) 0), .i (.ldl 6 1 (.s 5) 1 false), .i (.len 7 false (.s 6)), .i (.mov 8 (.c (.val false [.int .i64 0])))]) (.block 0 (.loop [23, 22, 21, 20, 19, 18, 17, 16, 15, 14, 13, 12, 11, 10, 9, 4] (.seq (.ops [.i (.bin 9 .lss (.s 8) (.s 7))]) (.seq (.cond (.s 9) .skip (.exit 0)) (.seq (.block 1 (.seq (.ops [.i (.iad 10 (.s 6) (.s 8) 2), .i (.ldh 11 (.s 10) 2 true), .i (.lal 4 [.int .i64 0, .nils]), .i (.stl 4 (.s 4) (.s 11) 2)]) (.seq (.ops [.i (.fad 12 (.s 4) 0), .i (.ldl 13 4 (.s 12) 1 false), .i (.call 15 103 false [(.s 13), (.c (.val false [.int .i64 1])), (.c (.val false [.int .i64 1099511627776]))]), .i (.not 15 (.s 14)), .i (.mov 16 (.s 15)), .g 16 false 18 (.fad 17 (.s 4) 1), .g 16 false 19 (.ldl 18 4 (.s 17) 1 false), .g 16 false 20 (.len 19 false (.s 18)), .g 16 false 21 (.call 21 103 false [(.s 19), (.c (.val false [.int .i64 1])), (.c (.val false [.int .i64 64]))]), .g 16 false 22 (.not 21 (.s 20)), .i (.pick 22 (.s 16) (.c (.val false [.bool true])) (.s 21))]) (.cond (.s 22) (.seq (.ops [.i (.mov 2 (.c (.val false [.bool false])))]) .ret) .skip)))) (.ops [.i (.bin 23 .add (.s 8) (.c (.val false [.int .i64 1]))), .i (.mov 8 (.s 23))]))))))) (.seq (.ops [.i (.fad 24 (.s 1) 0), .i (.ldl 25 1 (.s 24) 1 false), .i (.len 26 false (.s 25)), .i (.call 28 103 false [(.s 26), (.c (.val false [.int .i64 1])), (.c (.val false [.int .i64 10]))]), .i (.mov 2 (.s 27))]) .ret)))⟩
theorem k_impl_TableOk : cd n_impl_TableOk = some c_impl_TableOk := by kernel_rfl
theorem impl_TableOk_ok (t : Table) (hw : t.wf) : VC cd n_impl_TableOk (mkP [(true, t.c)]) (fun rs _ => rs = bl (tableOk t)) := by
  obtain ⟨w1, w2⟩ := hw
  simp only [Sz] at w1
  refine VC_enter k_impl_TableOk rfl ?_
  simp (disch := omega) [c_impl_TableOk, Table.c, rws_len, VE, VXR, VP, VB, VTup, kof, bl, it]
  refine VX_loop3 (σ := Nat) (f1 := _) (es0 := _) (by simp (disch := omega) [VE, VXR, VP, VB, VTup, kof, bl, it]; rfl) (by simp (disch := omega) [VE, VXR, VP, VB, VTup, kof, bl, it]; rfl) (fun i => [(8, .val false [.int .i64 i])]) (fun _ => []) (fun i g => g + i = t.rows.length ∧ ∀ x ∈ t.rows.take i, rowOk x = true) 0 t.rows.length (by simp (disch := omega) [VE, VXR, VP, VB, VTup, kof, bl, it]) (by simp (disch := omega) [VE, VXR, VP, VB, VTup, kof, bl, it]) ⟨by omega, by simp⟩ ?_
  rintro i n g ⟨hg, hi⟩
  simp (disch := omega) [VE, VXR, VP, VB, VTup, kof, bl, it]
  refine VXB_dec (fun h1 => ?_) (fun h1 => ?_)
  · have hx : i < t.rows.length := by omega
    have w3 := (w2 _ (List.getElem_mem hx)).2
    simp only [Sz] at w3
    simp (disch := omega) [rws_get hx, VE, VXR, VP, VB, VTup, kof, bl, it]
    refine VXC_e (within_ok _ _ _) rfl rfl ?_
    simp (disch := omega) [VE, VXR, VP, VB, VTup, kof, bl, it]
    refine VXB_b (fun h2 => ?_) (fun h2 => ?_)
    · simp (disch := omega) [h2, VE, VXR, VP, VB, VTup, kof, bl, it]
      refine VXC_e (within_ok _ _ _) rfl rfl ?_
      simp (disch := omega) [h2, VE, VXR, VP, VB, VTup, kof, bl, it]
      refine VXB_b (fun h3 => ?_) (fun h3 => ?_)
      · simp (disch := omega) [h2, h3, VE, VXR, VP, VB, VTup, kof, bl, it]
        exact ⟨i + 1, g - 1, by omega, ⟨by omega, take_all hi hx (by simp [rowOk, h2, h3])⟩, by simp⟩
      · simp (disch := omega) [h2, h3, VE, VXR, VP, VB, VTup, kof, bl, it]
        exact rows_no hx (by simp [rowOk, h2, h3])
    · simp (disch := omega) [h2, VE, VXR, VP, VB, VTup, kof, bl, it]
      exact rows_no hx (by simp [rowOk, h2])
  · simp (disch := omega) [rws_len, VE, VXR, VP, VB, VTup, kof, bl, it]
    have : i = t.rows.length := by omega
    subst this
    refine VXC_e (within_ok _ _ _) rfl rfl ?_
    simp (disch := omega) [rows_of hi, VE, VXR, VP, VB, VTup, kof, bl, it]
abbrev n_spec_TableOk : Nat := 106
def c_spec_TableOk : AF := ⟨1, 5, [.tmp 2], (.seq (.ops [.i (.lbox 1 (.s 0)), .i (.mov 2 (.c (.val false [.bool false])))]) (.seq (.seq (.ops [.i (.fad 5 (.s 1) 0), .i (.ldl 6 1 (.s 5) 1 false), .i (.len 7 false (.s 6)), .i (.mov 8 (.c (.val false [.int .i64 0])))]) (.block 0 (.loop [23, 22, 21, 20, 19, 18, 17, 16, 15, 14, 13, 12, 11, 10, 9, 4] (.seq (.ops [.i (.bin 9 .lss (.s 8) (.s 7))]) (.seq (.cond (.s 9) .skip (.exit 0)) (.seq (.block 1 (.seq (.ops [.i (.iad 10 (.s 6) (.s 8) 2), .i (.ldh 11 (.s 10) 2 true), .i (.lal 4 [.int .i64 0, .nils]), .i (.stl 4 (.s 4) (.s 11) 2)]) (.seq (.ops [.i (.fad 12 (.s 4) 0), .i (.ldl 13 4 (.s 12) 1 false), .i (.call 15 101 false [(.s 13), (.c (.val false [.int .i64 1])), (.c (.val false [.int .i64 1099511627776]))]), .i (.not 15 (.s 14)), .i (.mov 16 (.s 15)), .g 16 false 18 (.fad 17 (.s 4) 1), .g 16 false 19 (.ldl 18 4 (.s 17) 1 false), .g 16 false 20 (.len 19 false (.s 18)), .g 16 false 21 (.call 21 101 false [(.s 19), (.c (.val false [.int .i64 1])), (.c (.val false [.int .i64 64]))]), .g 16 false 22 (.not 21 (.s 20)), .i (.pick 22 (.s 16) (.c (.val false [.bool true])) (.s 21))]) (.cond (.s 22) (.seq (.ops [.i (.mov 2 (.c (.val false [.bool false])))]) .ret) .skip)))) (.ops [.i (.bin 23 .add (.s 8) (.c (.val false [.int .i64 1]))), .i (.mov 8 (.s 23))]))))))) (.seq (.ops [.i (.fad 24 (.s 1) 0), .i (.ldl 25 1 (.s 24) 1 false), .i (.len 26 false (.s 25)), .i (.call 28 124 false [(.s 26)]), .i (.mov 2 (.s 27))]) .ret)))⟩
theorem k_spec_TableOk : cd n_spec_TableOk = some c_spec_TableOk := by kernel_rfl
theorem spec_TableOk_ok (t : Table) (hw : t.wf) : VC cd n_spec_TableOk (mkP [(true, t.c)]) (fun rs _ => rs = bl (tableOk t)) := by
  obtain ⟨w1, w2⟩ := hw
  simp only [Sz] at w1
  refine VC_enter k_spec_TableOk rfl ?_
  simp (disch := omega) [c_spec_TableOk, Table.c, rws_len, VE, VXR, VP, VB, VTup, kof, bl, it]
  refine VX_loop3 (σ := Nat) (f1 := _) (es0 := _) (by simp (disch := omega) [VE, VXR, VP, VB, VTup, kof, bl, it]; rfl) (by simp (disch := omega) [VE, VXR, VP, VB, VTup, kof, bl, it]; rfl) (fun i => [(8, .val false [.int .i64 i])]) (fun _ => []) (fun i g => g + i = t.rows.length ∧ ∀ x ∈ t.rows.take i, rowOk x = true) 0 t.rows.length (by simp (disch := omega) [VE, VXR, VP, VB, VTup, kof, bl, it]) (by simp (disch := omega) [VE, VXR, VP, VB, VTup, kof, bl, it]) ⟨by omega, by simp⟩ ?_
  rintro i n g ⟨hg, hi⟩
  simp (disch := omega) [VE, VXR, VP, VB, VTup, kof, bl, it]
  refine VXB_dec (fun h1 => ?_) (fun h1 => ?_)
  · have hx : i < t.rows.length := by omega
    have w3 := (w2 _ (List.getElem_mem hx)).2
    simp only [Sz] at w3
    simp (disch := omega) [rws_get hx, VE, VXR, VP, VB, VTup, kof, bl, it]
    refine VXC_e (l01In_ok _ _ _) rfl rfl ?_
    simp (disch := omega) [VE, VXR, VP, VB, VTup, kof, bl, it]
    refine VXB_b (fun h2 => ?_) (fun h2 => ?_)
    · simp (disch := omega) [h2, VE, VXR, VP, VB, VTup, kof, bl, it]
      refine VXC_e (l01In_ok _ _ _) rfl rfl ?_
      simp (disch := omega) [h2, VE, VXR, VP, VB, VTup, kof, bl, it]
      refine VXB_b (fun h3 => ?_) (fun h3 => ?_)
      · simp (disch := omega) [h2, h3, VE, VXR, VP, VB, VTup, kof, bl, it]
        exact ⟨i + 1, g - 1, by omega, ⟨by omega, take_all hi hx (by simp [rowOk, h2, h3])⟩, by simp⟩
      · simp (disch := omega) [h2, h3, VE, VXR, VP, VB, VTup, kof, bl, it]
        exact rows_no hx (by simp [rowOk, h2, h3])
    · simp (disch := omega) [h2, VE, VXR, VP, VB, VTup, kof, bl, it]
      exact rows_no hx (by simp [rowOk, h2])
  · simp (disch := omega) [rws_len, VE, VXR, VP, VB, VTup, kof, bl, it]
    have : i = t.rows.length := by omega
    subst this
    refine VXC_e (spec_l02Signers_ok _) rfl rfl ?_
    simp (disch := omega) [rows_of hi, VE, VXR, VP, VB, VTup, kof, bl, it]
def belongs (l : Lim) (t : Table) : Bool := l.ok && tableOk t && decide ((t.rows.length : Int) = l.n)
abbrev n_impl_belongs : Nat := 76
def c_impl_belongs : AF := ⟨2, 5, [.tmp 4], (.seq (.ops [.i (.lbox 2 (.s 0)), .i (.lbox 3 (.s 1)), .i (.mov 4 (.c (.val false [.bool false])))]) (.seq (.ops [.i (.ldl 5 2 (.s 2) 5 true), .i (.call 7 115 false [(.s 5)]), .i (.mov 7 (.s 6)), .g 7 true 9 (.ldl 8 3 (.s 3) 1 true), .g 7 true 10 (.call 10 116 false [(.s 8)]), .i (.pick 10 (.s 7) (.s 9) (.c (.val false [.bool false]))), .i (.mov 11 (.s 10)), .g 11 true 13 (.fad 12 (.s 3) 0), .g 11 true 14 (.ldl 13 3 (.s 12) 1 false), .g 11 true 15 (.len 14 false (.s 13)), .g 11 true 16 (.fad 15 (.s 2) 0), .g 11 true 17 (.ldl 16 2 (.s 15) 1 false), .g 11 true 18 (.bin 17 .eql (.s 14) (.s 16)), .i (.pick 18 (.s 11) (.s 17) (.c (.val false [.bool false]))), .i (.mov 4 (.s 18))]) .ret))⟩
theorem k_impl_belongs : cd n_impl_belongs = some c_impl_belongs := by kernel_rfl
theorem belongs_ok (l : Lim) (t : Table) (hw : t.wf) : VC cd n_impl_belongs (mkP [(true, l.c), (true, t.c)]) (fun rs _ => rs = bl (belongs l t)) := by
  have w1 := hw.1
  simp only [Sz] at w1
  refine VC_enter k_impl_belongs rfl ?_
  simp (disch := omega) [c_impl_belongs, Lim.c, Table.c, VE, VXR, VP, VB, VTup, kof, bl, it]
  refine VXC_e (impl_LimitsOk_ok l) rfl rfl ?_
  simp (disch := omega) [VE, VXR, VP, VB, VTup, kof, bl, it]
  refine VXB_b (fun h1 => ?_) (fun h1 => ?_) <;> simp (disch := omega) [h1, belongs, VE, VXR, VP, VB, VTup, kof, bl, it]
  refine VXC_e (impl_TableOk_ok t hw) rfl rfl ?_
  simp (disch := omega) [h1, VE, VXR, VP, VB, VTup, kof, bl, it]
  refine VXB_b (fun h2 => ?_) (fun h2 => ?_) <;> simp (disch := omega) [h1, h2, rws_len, VE, VXR, VP, VB, VTup, kof, bl, it]
abbrev n_spec_l23Goes : Nat := 71
def c_spec_l23Goes : AF := ⟨2, 5, [.tmp 4], (.seq (.ops [.i (.lbox 2 (.s 0)), .i (.lbox 3 (.s 1)), .i (.mov 4 (.c (.val false [.bool false])))]) (.seq (.ops [.i (.ldl 5 2 (.s 2) 5 true), .i (.call 7 100 false [(.s 5)]), .i (.mov 7 (.s 6)), .g 7 true 9 (.ldl 8 3 (.s 3) 1 true), .g 7 true 10 (.call 10 106 false [(.s 8)]), .i (.pick 10 (.s 7) (.s 9) (.c (.val false [.bool false]))), .i (.mov 11 (.s 10)), .g 11 true 13 (.fad 12 (.s 2) 0), .g 11 true 14 (.ldl 13 2 (.s 12) 1 false), .g 11 true 15 (.fad 14 (.s 3) 0), .g 11 true 16 (.ldl 15 3 (.s 14) 1 false), .g 11 true 17 (.len 16 false (.s 15)), .g 11 true 18 (.bin 17 .eql (.s 13) (.s 16)), .i (.pick 18 (.s 11) (.s 17) (.c (.val false [.bool false]))), .i (.mov 4 (.s 18))]) .ret))⟩
theorem k_spec_l23Goes : cd n_spec_l23Goes = some c_spec_l23Goes := by kernel_rfl
theorem l23Goes_ok (l : Lim) (t : Table) (hw : t.wf) : VC cd n_spec_l23Goes (mkP [(true, l.c), (true, t.c)]) (fun rs _ => rs = bl (belongs l t)) := by
  have w1 := hw.1
  simp only [Sz] at w1
  refine VC_enter k_spec_l23Goes rfl ?_
  simp (disch := omega) [c_spec_l23Goes, Lim.c, Table.c, VE, VXR, VP, VB, VTup, kof, bl, it]
  refine VXC_e (spec_LimitsOk_ok l) rfl rfl ?_
  simp (disch := omega) [VE, VXR, VP, VB, VTup, kof, bl, it]
  refine VXB_b (fun h1 => ?_) (fun h1 => ?_) <;> simp (disch := omega) [h1, belongs, VE, VXR, VP, VB, VTup, kof, bl, it]
  refine VXC_e (spec_TableOk_ok t hw) rfl rfl ?_
  simp (disch := omega) [h1, VE, VXR, VP, VB, VTup, kof, bl, it]
  refine VXB_b (fun h2 => ?_) (fun h2 => ?_) <;> simp (disch := omega) [h1, h2, rws_len, eq_comm, VE, VXR, VP, VB, VTup, kof, bl, it]
/-! ### Copies -/
/-! ### A new light client -/
/-! ### At the program's types -/
def Row.tv (x : Row) : Tv := .r [.i x.weight, bsT x.key]
theorem Row.enc (x : Row) : enc TRow x.tv = x.c := by simp only [Row.tv, enc_st, encS_cons, encS_nil, enc_int, enc_bool, enc_str, enc_bs, enc_bss', enc_ints, Row.c, List.cons_append, List.nil_append, List.append_assoc]
theorem Row.ex {v : Tv} (h : TvOk TRow v) : ∃ x : Row, v = x.tv := by
  obtain ⟨vs, rfl, h⟩ := h.st
  obtain ⟨v0, _, rfl, h0, h⟩ := h.step
  obtain ⟨v1, _, rfl, h1, h⟩ := h.step
  obtain rfl := h.fin
  obtain ⟨n0, rfl, _⟩ := h0.int
  obtain ⟨n1, rfl⟩ := bsT_ex h1
  exact ⟨⟨n0, n1⟩, rfl⟩
theorem Row.of {x : Row} (h : TvOk TRow x.tv) (hw : wt x.tv ≤ 1048576) : x.wf := by
  simp only [Row.tv, ok_st, okS_cons] at h
  simp only [Row.tv, wt, wts] at hw
  obtain ⟨h0, h1, _⟩ := h
  exact ⟨i64_of (ok_int.1 h0), bs_of (by omega)⟩
theorem Row.wf.tok {x : Row} (h : x.wf) : TvOk TRow x.tv := by
  simp only [Row.tv, ok_st, okS_cons]
  obtain ⟨h0, h1⟩ := h
  exact ⟨i64_ok h0, sz_bs h1, okS_nil.2 trivial⟩
def rwsT (l : List Row) : Tv := .l (l.map Row.tv)
theorem enc_rws (l : List Row) : enc (.sl TRow) (rwsT l) = [.sl (rws l)] := by
  simp only [rwsT, enc_sl, List.map_map, rws]
  congr 2
  exact List.map_congr_left fun x _ => Row.enc x
theorem rwsT_ex {v : Tv} (h : TvOk (.sl TRow) v) : ∃ l, v = rwsT l := by
  obtain ⟨xs, rfl, _, h2⟩ := h.sl
  obtain ⟨ys, rfl⟩ := list_ex (f := Row.tv) (P := TvOk TRow) (fun v hv => Row.ex hv) h2
  exact ⟨ys, rfl⟩
theorem rws_of {l : List Row} (h : TvOk (.sl TRow) (rwsT l)) (hw : wt (rwsT l) ≤ 1048576) : Sz l.length ∧ ∀ x ∈ l, x.wf := by
  unfold rwsT at h hw
  rw [wt_l] at hw
  have h2 := (ok_sl.1 h).2
  simp only [List.length_map] at hw
  refine ⟨by unfold Sz; omega, fun x hx => Row.of (h2 _ (List.mem_map_of_mem hx)) ?_⟩
  have := wts_mem (f := Row.tv) hx
  omega
theorem rws_tok {l : List Row} (h : Sz l.length ∧ ∀ x ∈ l, x.wf) : TvOk (.sl TRow) (rwsT l) := by
  unfold rwsT
  refine ok_sl.2 ⟨by have := h.1; unfold Sz at this; rw [List.length_map, maxLen_eq]; omega, fun v hv => ?_⟩
  obtain ⟨x, hx, rfl⟩ := List.mem_map.1 hv
  exact (h.2 x hx).tok
def Table.tv (x : Table) : Tv := .r [rwsT x.rows]
theorem Table.enc (x : Table) : enc TTable x.tv = x.c := by simp only [Table.tv, enc_rws, enc_st, encS_cons, encS_nil, enc_int, enc_bool, enc_str, enc_bs, enc_bss', enc_ints, Table.c, List.cons_append, List.nil_append, List.append_assoc]
theorem Table.ex {v : Tv} (h : TvOk TTable v) : ∃ x : Table, v = x.tv := by
  obtain ⟨vs, rfl, h⟩ := h.st
  obtain ⟨v0, _, rfl, h0, h⟩ := h.step
  obtain rfl := h.fin
  obtain ⟨n0, rfl⟩ := rwsT_ex h0
  exact ⟨⟨n0⟩, rfl⟩
theorem Table.of {x : Table} (h : TvOk TTable x.tv) (hw : wt x.tv ≤ 1048576) : x.wf := by
  simp only [Table.tv, ok_st, okS_cons] at h
  simp only [Table.tv, wt, wts] at hw
  obtain ⟨h0, _⟩ := h
  exact rws_of h0 (by omega)
theorem Table.wf.tok {x : Table} (h : x.wf) : TvOk TTable x.tv := by
  simp only [Table.tv, ok_st, okS_cons]
  have h0 := h
  exact ⟨rws_tok h0, okS_nil.2 trivial⟩
end Go.Eng.F
/-
  Functions: blocks and proofs as messages.
-/
set_option maxRecDepth 100000
set_option linter.unusedSimpArgs false
set_option linter.unusedVariables false
namespace Go.Eng.F
open Go.Eng.U (TQc THead TLimits TProof TMsg TBlock)
/-! ### Lists of headers -/
/-! ### Proofs -/
def Proof.wc (p : Proof) : Prop := p.wf ∧ (∀ h ∈ p.heads, h.wc) ∧ p.qc.wc
def Proof.o (p : Proof) : List E := [.o true (some (38, 10)) (hds p.heads), .p (.int .i64 p.qc.view), .p (.int .i64 p.qc.height), .o true (some (5, 1)) (bytes p.qc.block), .o true (some (5, 1)) (bytes p.qc.bits), .o true (some (27, 1)) (bss p.qc.tags)]
theorem hdsT_tok {l : List Head} (h : Sz l.length) (h2 : ∀ x ∈ l, x.wc) : TvOk (.sl THead) (hdsT l) := by
  unfold hdsT
  refine ok_sl.2 ⟨by unfold Sz at h; rw [List.length_map, maxLen_eq]; omega, fun v hv => ?_⟩
  obtain ⟨x, hx, rfl⟩ := List.mem_map.1 hv
  exact (h2 x hx).tok
theorem Proof.wc.tok {q : Proof} (h : q.wc) : TvOk TProof q.tv := by
  simp only [Proof.tv, ok_st, okS_cons]
  exact ⟨hdsT_tok h.1.1.1 h.2.1, h.2.2.tok, okS_nil.2 trivial⟩
/-! ### Blocks -/
structure Block where
  head : Head
  txs : List Bytes
def Block.c (x : Block) : List D := x.head.c ++ [.sl (bss x.txs)]
def Block.wc (x : Block) : Prop := x.head.wc ∧ BssWf x.txs
def Block.o (x : Block) : List E := [.p (.int .i64 x.head.view), .p (.int .i64 x.head.height), .p (.int .i64 x.head.proposer), .o true (some (5, 1)) (bytes x.head.parent), .o true (some (5, 1)) (bytes x.head.root), .p (.int .i64 x.head.qc.view), .p (.int .i64 x.head.qc.height), .o true (some (5, 1)) (bytes x.head.qc.block), .o true (some (5, 1)) (bytes x.head.qc.bits), .o true (some (27, 1)) (bss x.head.qc.tags), .o true (some (27, 1)) (bss x.txs)]
def Block.tv (x : Block) : Tv := .r [x.head.tv, bssT x.txs]
theorem Block.enc (x : Block) : enc TBlock x.tv = x.c := by simp only [Block.tv, Head.enc, enc_st, encS_cons, encS_nil, enc_int, enc_bool, enc_str, enc_bs, enc_bss', enc_ints, Block.c, Head.c, Head.c, Qc.c, List.cons_append, List.nil_append, List.append_assoc]
theorem Block.ex {v : Tv} (h : TvOk TBlock v) : ∃ x : Block, v = x.tv := by
  obtain ⟨vs, rfl, h⟩ := h.st
  obtain ⟨v0, _, rfl, h0, h⟩ := h.step
  obtain ⟨v1, _, rfl, h1, h⟩ := h.step
  obtain rfl := h.fin
  obtain ⟨n0, rfl⟩ := Head.ex h0
  obtain ⟨n1, rfl⟩ := bssT_ex h1
  exact ⟨⟨n0, n1⟩, rfl⟩
theorem Block.of {x : Block} (h : TvOk TBlock x.tv) (hw : wt x.tv ≤ 1048576) : x.wc := by
  simp only [Block.tv, ok_st, okS_cons] at h
  simp only [Block.tv, wt, wts] at hw
  obtain ⟨h0, h1, _⟩ := h
  exact ⟨Head.of h0 (by omega), bss_of (by omega)⟩
theorem Block.wc.tok {x : Block} (h : x.wc) : TvOk TBlock x.tv := by
  simp only [Block.tv, ok_st, okS_cons]
  obtain ⟨h0, h1⟩ := h
  exact ⟨h0.tok, sz_bss h1.1 h1.2, okS_nil.2 trivial⟩
end Go.Eng.F
/-
  Functions: the hash.
-/
set_option maxRecDepth 100000
set_option linter.unusedSimpArgs false
set_option linter.unusedVariables false
namespace Go.Eng.F
def word (x : Int) : Bool := inn x 0 4294967295
abbrev n_impl_isWord : Nat := 152
def c_impl_isWord : AF := ⟨1, 3, [.tmp 2], (.seq (.ops [.i (.mov 2 (.c (.val false [.bool false])))]) (.seq (.ops [.i (.mov 3 (.s 0)), .i (.call 5 103 false [(.s 3), (.c (.val false [.int .i64 0])), (.c (.val false [.int .i64 4294967295]))]), .i (.mov 2 (.s 4))]) .ret))⟩
theorem k_impl_isWord : cd n_impl_isWord = some c_impl_isWord := by kernel_rfl
theorem isWord_ok (x : Int) : VC cd n_impl_isWord (mkP [(false, [.int .i64 x])]) (fun rs _ => rs = bl (word x)) := by
  refine VC_enter k_impl_isWord rfl ?_
  simp (disch := omega) [c_impl_isWord, VE, VXR, VP, VB, VTup, kof, bl, it]
  refine VXC_e (within_ok _ _ _) rfl rfl ?_
  simp (disch := omega) [word, VE, VXR, VP, VB, VTup, kof, bl, it]
def turn (x : Int) (n : Nat) : Int := bits2 .and .i64 (bits2 .or .i64 (x.fdiv (2 ^ n)) (IntKind.i64.wrap (x * 2 ^ (32 - n)))) 4294967295
/-! ### Padding -/
def zc (n : Nat) : Nat := (119 - n % 64) % 64
def lenb (n : Nat) : Bytes := (List.range 8).map fun k => UInt8.ofNat (n / 2 ^ (8 * (7 - k)))
def pad (b : Bytes) : Bytes := b ++ [128] ++ List.replicate (zc b.length) 0 ++ lenb (8 * b.length)
/-! ### Words -/
def gi (l : List Int) (i : Nat) : Int := l.getD i 0
def init : List Int := [1779033703, 3144134277, 1013904242, 2773480762, 1359893119, 2600822924, 528734635, 1541459225]
def kk : List Int := [1116352408, 1899447441, 3049323471, 3921009573, 961987163, 1508970993, 2453635748, 2870763221, 3624381080, 310598401, 607225278, 1426881987, 1925078388, 2162078206, 2614888103, 3248222580, 3835390401, 4022224774, 264347078, 604807628, 770255983, 1249150122, 1555081692, 1996064986, 2554220882, 2821834349, 2952996808, 3210313671, 3336571891, 3584528711, 113926993, 338241895, 666307205, 773529912, 1294757372, 1396182291, 1695183700, 1986661051, 2177026350, 2456956037, 2730485921, 2820302411, 3259730800, 3345764771, 3516065817, 3600352804, 4094571909, 275423344, 430227734, 506948616, 659060556, 883997877, 958139571, 1322822218, 1537002063, 1747873779, 1955562222, 2024104815, 2227730452, 2361852424, 2428436474, 2756734187, 3204031479, 3329325298]
/-! ### A block -/
def gb (b : Bytes) (i : Nat) : Int := ((b.getD i 0).toNat : Int)
def bw (b : Bytes) (i : Nat) : Int := bits2 .or .i64 (bits2 .or .i64 (bits2 .or .i64 (IntKind.i64.wrap (gb b i * 2 ^ min 24 IntKind.i64.bits)) (IntKind.i64.wrap (gb b (i + 1) * 2 ^ min 16 IntKind.i64.bits))) (IntKind.i64.wrap (gb b (i + 2) * 2 ^ min 8 IntKind.i64.bits))) (gb b (i + 3))
def sg0 (x : Int) : Int := bits2 .xor .i64 (bits2 .xor .i64 (turn x 7) (turn x 18)) (x.fdiv (2 ^ min 3 IntKind.i64.bits))
def sg1 (x : Int) : Int := bits2 .xor .i64 (bits2 .xor .i64 (turn x 17) (turn x 19)) (x.fdiv (2 ^ min 10 IntKind.i64.bits))
def wnext (a x c y : Int) : Int := bits2 .and .i64 (IntKind.i64.wrap (IntKind.i64.wrap (IntKind.i64.wrap (a + sg0 x) + c) + sg1 y)) 4294967295
def wsch (b : Bytes) : Nat → List Int
  | 0 => []
  | n + 1 => wsch b n ++ [if n < 16 then bw b (4 * n) else wnext (gi (wsch b n) (n - 16)) (gi (wsch b n) (n - 15)) (gi (wsch b n) (n - 7)) (gi (wsch b n) (n - 2))]
def sT (v : List Int) (k w : Int) : Int := IntKind.i64.wrap (IntKind.i64.wrap (IntKind.i64.wrap (IntKind.i64.wrap (gi v 7 + bits2 .xor .i64 (bits2 .xor .i64 (turn (gi v 4) 6) (turn (gi v 4) 11)) (turn (gi v 4) 25)) + bits2 .xor .i64 (bits2 .and .i64 (gi v 4) (gi v 5)) (bits2 .and .i64 (bits2 .xor .i64 4294967295 (gi v 4)) (gi v 6))) + k) + w)
def sU (v : List Int) : Int := IntKind.i64.wrap (bits2 .xor .i64 (bits2 .xor .i64 (turn (gi v 0) 2) (turn (gi v 0) 13)) (turn (gi v 0) 22) + bits2 .xor .i64 (bits2 .xor .i64 (bits2 .and .i64 (gi v 0) (gi v 1)) (bits2 .and .i64 (gi v 0) (gi v 2))) (bits2 .and .i64 (gi v 1) (gi v 2)))
def rnd (v : List Int) (k w : Int) : List Int := [bits2 .and .i64 (IntKind.i64.wrap (sT v k w + sU v)) 4294967295, gi v 0, gi v 1, gi v 2, bits2 .and .i64 (IntKind.i64.wrap (gi v 3 + sT v k w)) 4294967295, gi v 4, gi v 5, gi v 6]
def rnds (h : List Int) (b : Bytes) : Nat → List Int
  | 0 => h
  | n + 1 => rnd (rnds h b n) (gi kk n) (gi (wsch b 64) n)
def shaB (h : List Int) (b : Bytes) : List Int := (List.range 8).map fun i => bits2 .and .i64 (IntKind.i64.wrap (gi h i + gi (rnds h b 64) i)) 4294967295
end Go.Eng.F
/-
  Functions: the hash of a block.
-/
set_option maxRecDepth 100000
set_option linter.unusedSimpArgs false
set_option linter.unusedVariables false
namespace Go.Eng.F
end Go.Eng.F
/-
  Functions: the hash of a block, with arrays.
-/
set_option maxRecDepth 100000
set_option linter.unusedSimpArgs false
set_option linter.unusedVariables false
namespace Go.Eng.F
theorem word_iff {x : Int} : word x = true ↔ 0 ≤ x ∧ x ≤ 4294967295 := by simp [word, inn]
def arr (b : Bytes) (k : Nat) : List Int := wsch b k ++ List.replicate (64 - k) 0
end Go.Eng.F
/-
  Functions: the program's hash of a block.
-/
set_option maxRecDepth 100000
set_option linter.unusedSimpArgs false
set_option linter.unusedVariables false
namespace Go.Eng.F
end Go.Eng.F
/-
  Functions: the hash, trees.
-/
set_option maxRecDepth 100000
set_option linter.unusedSimpArgs false
set_option linter.unusedVariables false
namespace Go.Eng.F
def hs (b : Bytes) : Nat → List Int
  | 0 => init
  | n + 1 => shaB (hs b n) (((pad b).drop (64 * n)).take 64)
def b8 (y : Int) : UInt8 := UInt8.ofNat (IntKind.u8.wrap y).toNat
def w4 (x : Int) : Bytes := [b8 (x.fdiv (2 ^ min 24 IntKind.i64.bits)), b8 (x.fdiv (2 ^ min 16 IntKind.i64.bits)), b8 (x.fdiv (2 ^ min 8 IntKind.i64.bits)), b8 x]
def sha (b : Bytes) : Bytes := (hs b ((pad b).length / 64)).flatMap w4
end Go.Eng.F
/-
  Functions: trees.
-/
set_option maxRecDepth 100000
set_option linter.unusedSimpArgs false
set_option linter.unusedVariables false
namespace Go.Eng.F
/-! ### Where a tree is split -/
/-! ### The root -/
end Go.Eng.F
/-
  Functions: numbers in bytes; what is put.
-/
set_option maxRecDepth 100000
set_option linter.unusedSimpArgs false
set_option linter.unusedVariables false
namespace Go.Eng.F
def varB (n : Nat) : Bytes := if n < 128 then [UInt8.ofNat n] else UInt8.ofNat (n % 128 + 128) :: varB (n / 128)
termination_by n
decreasing_by omega
/-! ### Certificates, headers -/
def qcB (q : Qc) : Bytes := varB q.view.toNat ++ varB q.height.toNat ++ q.block ++ q.bits ++ q.tags.flatten
def headB (h : Head) : Bytes := varB h.view.toNat ++ varB h.height.toNat ++ varB h.proposer.toNat ++ h.parent ++ h.root ++ qcB h.qc
/-! ### The hash of a header -/
def hhash (l : Lim) (h : Head) : Bytes := if headOk l h then sha (72 :: headB h) else []
end Go.Eng.F
/-
  Functions: links, forests.
-/
set_option maxRecDepth 100000
set_option linter.unusedSimpArgs false
set_option linter.unusedVariables false
namespace Go.Eng.F
/-! ### Forests -/
structure Forest where
  l : Lim
  heads : List Head
def Forest.c (f : Forest) : List D := f.l.c ++ [.sl (hds f.heads)]
def Forest.wf (f : Forest) : Prop := HeadsWf f.heads
def Forest.wc (f : Forest) : Prop := Sz f.heads.length ∧ ∀ h ∈ f.heads, h.wc
theorem Forest.wc.wf {f : Forest} (h : f.wc) : f.wf := ⟨h.1, fun x hx => (h.2 x hx).1⟩
def hh (l : Lim) (hs : List Head) (i : Nat) : Bytes := match hs[i]? with | some h => hhash l h | none => []
/-! ### A header by its hash -/
theorem find_some {α : Type} {p : α → Bool} {l : List α} {i : Nat} (hi : i < l.length) (hb : ∀ a ∈ l.take i, p a = false) (hp : p l[i] = true) : l.find? p = some l[i] ∧ l.findIdx? p = some i := by
  induction l generalizing i with
  | nil => simp at hi
  | cons a l ih =>
    cases i with
    | zero => simp at hp; simp [hp, List.findIdx?_cons]
    | succ i =>
      have ha : p a = false := hb a (by simp)
      have := ih (i := i) (by simpa using hi) (fun x hx => hb x (by simp [hx])) (by simpa using hp)
      simp [ha, this, List.findIdx?_cons]
theorem find_none {α : Type} {p : α → Bool} {l : List α} (hb : ∀ a ∈ l.take l.length, p a = false) : l.find? p = none ∧ l.findIdx? p = none := by
  rw [List.take_length] at hb
  simp only [List.find?_eq_none, List.findIdx?_eq_none_iff]
  exact ⟨fun x hx => by simp [hb x hx], fun x hx => by simp [hb x hx]⟩
theorem findS {q : Head → Prop} [DecidablePred q] {l : List Head} {i : Nat} (hi : i < l.length) (hb : ∀ a ∈ l.take i, ¬ q a) (hp : q l[i]) : l.find? (fun h => decide (q h)) = some l[i] ∧ l.findIdx? (fun h => decide (q h)) = some i :=
  find_some hi (fun a ha => by simpa using hb a ha) (by simpa using hp)
theorem findN {q : Head → Prop} [DecidablePred q] {l : List Head} (hb : ∀ a ∈ l.take l.length, ¬ q a) : l.find? (fun h => decide (q h)) = none ∧ l.findIdx? (fun h => decide (q h)) = none :=
  find_none (fun a ha => by simpa using hb a ha)
def optHeadE (o : Option Head) : List (Bool × List E) := match o with
  | some h => [(true, h.o), (false, [.p (.bool true)])]
  | none => [(true, zeroHeadE), (false, [.p (.bool false)])]
/-! ### A header more -/
def Forest.o (f : Forest) : List E := [.p (.int .i64 f.l.n), .p (.int .i64 f.l.tx), .p (.int .i64 f.l.txs), .p (.int .i64 f.l.frame), .p (.int .i64 f.l.heads), .o true (some (38, 10)) (hds f.heads)]
end Go.Eng.F
/-
  Functions: upward.
-/
set_option maxRecDepth 100000
set_option linter.unusedSimpArgs false
set_option linter.unusedVariables false
namespace Go.Eng.F
/-! ### What stands on what -/
end Go.Eng.F
/-
  Functions: forests at the program's types.
-/
set_option maxRecDepth 100000
set_option linter.unusedSimpArgs false
set_option linter.unusedVariables false
namespace Go.Eng.F
open Go.Eng.U (TQc THead TLimits TForest)
def Forest.tv (f : Forest) : Tv := .r [f.l.tv, hdsT f.heads]
theorem Forest.enc (f : Forest) : enc TForest f.tv = f.c := by simp only [Forest.tv, enc_hds, enc_st, encS_cons, encS_nil, Lim.enc, Forest.c, List.append_nil]
theorem Forest.ex {v : Tv} (h : TvOk TForest v) : ∃ q : Forest, v = q.tv := by
  obtain ⟨vs, rfl, h⟩ := h.st
  obtain ⟨v0, _, rfl, h0, h⟩ := h.step
  obtain ⟨v1, _, rfl, h1, h⟩ := h.step
  obtain rfl := h.fin
  obtain ⟨n0, rfl⟩ := Lim.ex h0
  obtain ⟨n1, rfl⟩ := hdsT_ex h1
  exact ⟨⟨n0, n1⟩, rfl⟩
theorem Forest.of {f : Forest} (h : TvOk TForest f.tv) (hw : wt f.tv ≤ 1048576) : f.wc ∧ TvOk TLimits f.l.tv ∧ f.heads.length ≤ 1048576 := by
  simp only [Forest.tv, ok_st, okS_cons] at h
  simp only [Forest.tv, wt, wts] at hw
  obtain ⟨h0, h1, _⟩ := h
  have h5 := hds_of h1 (by omega)
  have h6 : f.heads.length ≤ wt (hdsT f.heads) := by unfold hdsT; rw [wt_l, List.length_map]; omega
  exact ⟨⟨h5.1, h5.2⟩, ok_st.2 (ok_st.1 h0), by omega⟩
theorem zeroHead_wc : zeroHead.wc := by simp [Head.wc, Head.wf, Qc.wf, zeroHead, I64, Sz]
theorem optHead_rs {o : Option Head} (h : ∀ h, o = some h → h.wc) : RsE (optHeadE o) [(THead, (o.getD zeroHead).tv), (.bool, .b o.isSome)] := by
  cases o with
  | none =>
    refine ⟨rfl, ?_, zeroHead_wc.tok, rfl, ?_, trivial, trivial⟩
    · rw [Head.enc]; simp only [zeroHeadE, zeroHead, Option.getD_none, Head.c, EEq, D.leaf, and_self, bytes, bss, List.map_nil]
    · simp only [enc_bool, EEq, D.leaf, and_self, Option.isSome]
  | some x => exact ⟨rfl, Head.rs x, (h x rfl).tok, rfl, by simp only [enc_bool, EEq, D.leaf, and_self, Option.isSome], trivial, trivial⟩
theorem hds_mem_wt {l : List Head} {h : Head} (hh : h ∈ l) : wt h.tv ≤ wt (hdsT l) := by
  have := wts_mem (f := Head.tv) hh
  unfold hdsT
  rw [wt_l]
  omega
theorem zeroHead_wt : wt zeroHead.tv = 0 := by simp [Head.tv, Qc.tv, zeroHead, wt, wts, bsT, bssT]
theorem wts_le {α : Type} {f : α → Tv} {B : Nat} : ∀ {l : List α}, (∀ x ∈ l, wt (f x) ≤ B) → wts (l.map f) ≤ l.length * B
  | [], _ => by simp [wts]
  | a :: l, h => by
    have h1 := h a (by simp)
    have h2 := wts_le (l := l) fun x hx => h x (by simp [hx])
    simp only [List.map_cons, wts, List.length_cons, Nat.succ_mul]
    omega
end Go.Eng.F
/-
  Functions: checksums, frames.
-/
set_option maxRecDepth 100000
set_option linter.unusedSimpArgs false
set_option linter.unusedVariables false
namespace Go.Eng.F
/-! ### Checksums -/
def ct (c : Nat) : Nat := if c % 2 = 1 then (c / 2) ^^^ 3988292384 else c / 2
def ctn : Nat → Nat → Nat
  | 0, c => c
  | n + 1, c => ct (ctn n c)
def crcM (c : Nat) (b : Bytes) : Nat := b.foldl (fun c x => ctn 8 (c ^^^ x.toNat)) c
def crcMore (c : Nat) (b : Bytes) : Nat := crcM (c ^^^ 4294967295) b ^^^ 4294967295
def crc (b : Bytes) : Nat := crcMore 0 b
theorem ct_lt {c : Nat} (h : c < 4294967296) : ct c < 4294967296 := by
  unfold ct
  split
  · exact Nat.xor_lt_two_pow (n := 32) (by omega) (by omega)
  · omega
theorem ctn_lt {c : Nat} (h : c < 4294967296) : ∀ n, ctn n c < 4294967296
  | 0 => h
  | n + 1 => ct_lt (ctn_lt h n)
theorem xor_int {a b : Nat} (ha : a < 4294967296) (hb : b < 4294967296) : bits2 .xor .i64 (a : Int) (b : Int) = ((a ^^^ b : Nat) : Int) := by
  have h := Nat.xor_lt_two_pow (n := 32) (x := a) (y := b) (by omega) (by omega)
  show IntKind.i64.wrap ((BitVec.ofInt 64 (a : Int) ^^^ BitVec.ofInt 64 (b : Int)).toNat : Int) = _
  rw [BitVec.toNat_xor, show BitVec.ofInt 64 (a : Int) = BitVec.ofNat 64 a from rfl, show BitVec.ofInt 64 (b : Int) = BitVec.ofNat 64 b from rfl, BitVec.toNat_ofNat, BitVec.toNat_ofNat, Nat.mod_eq_of_lt (by omega), Nat.mod_eq_of_lt (by omega)]
  exact w64 (by omega) (by omega)
theorem xor_i {x y : Int} {a b : Nat} (hx : x = (a : Int)) (hy : y = (b : Int)) (ha : a < 4294967296) (hb : b < 4294967296) : bits2 .xor .i64 x y = ((a ^^^ b : Nat) : Int) := by
  rw [hx, hy]
  exact xor_int ha hb
theorem xor_lt {a b : Nat} (ha : a < 4294967296) (hb : b < 4294967296) : a ^^^ b < 4294967296 := Nat.xor_lt_two_pow (n := 32) (by omega) (by omega)
theorem and_one {c : Nat} (h : c < 4294967296) : bits2 .and .i64 (c : Int) 1 = ((c % 2 : Nat) : Int) := by
  show IntKind.i64.wrap ((BitVec.ofInt 64 (c : Int) &&& BitVec.ofInt 64 1).toNat : Int) = _
  rw [BitVec.toNat_and, show BitVec.ofInt 64 (c : Int) = BitVec.ofNat 64 c from rfl, BitVec.toNat_ofNat, Nat.mod_eq_of_lt (by omega), show (BitVec.ofInt 64 1).toNat = 2 ^ 1 - 1 from rfl, Nat.and_two_pow_sub_one_eq_mod]
  exact w64 (by omega) (by omega)
theorem word_of {c : Nat} (h : c < 4294967296) : word (c : Int) = true := by rw [word_iff]; omega
abbrev n_spec_l03Sum : Nat := 163
def c_spec_l03Sum : AF := ⟨1, 3, [.tmp 2], (.seq (.ops [.i (.mov 2 (.c (.val false [.bool false])))]) (.seq (.ops [.i (.mov 3 (.s 0)), .i (.call 5 101 false [(.s 3), (.c (.val false [.int .i64 0])), (.c (.val false [.int .i64 4294967295]))]), .i (.mov 2 (.s 4))]) .ret))⟩
theorem k_spec_l03Sum : cd n_spec_l03Sum = some c_spec_l03Sum := by kernel_rfl
theorem l03Sum_ok (x : Int) : VC cd n_spec_l03Sum (mkP [(false, [.int .i64 x])]) (fun rs _ => rs = bl (word x)) := by
  refine VC_enter k_spec_l03Sum rfl ?_
  simp (disch := omega) [c_spec_l03Sum, VE, VXR, VP, VB, VTup, kof, bl, it]
  refine VXC_e (l01In_ok _ _ _) rfl rfl ?_
  simp (disch := omega) [word, VE, VXR, VP, VB, VTup, kof, bl, it]
abbrev n_spec_l03Turn : Nat := 164
def c_spec_l03Turn : AF := ⟨1, 4, [.tmp 2], (.seq (.ops [.i (.mov 2 (.c (.val false [.int .i64 0])))]) (.seq (.seq (.ops [.i (.mov 3 (.s 0)), .i (.bin 4 .rem (.s 3) (.c (.val false [.int .i64 2]))), .i (.bin 5 .eql (.s 4) (.c (.val false [.int .i64 1])))]) (.cond (.s 5) (.seq (.ops [.i (.mov 6 (.s 0)), .i (.bin 7 .quo (.s 6) (.c (.val false [.int .i64 2]))), .i (.bin 8 .xor (.s 7) (.c (.val false [.int .i64 3988292384]))), .i (.mov 2 (.s 8))]) .ret) .skip)) (.seq (.ops [.i (.mov 9 (.s 0)), .i (.bin 10 .quo (.s 9) (.c (.val false [.int .i64 2]))), .i (.mov 2 (.s 10))]) .ret)))⟩
theorem k_spec_l03Turn : cd n_spec_l03Turn = some c_spec_l03Turn := by kernel_rfl
theorem l03Turn_ok (c : Nat) (h : c < 4294967296) : VC cd n_spec_l03Turn (mkP [(false, [.int .i64 (c : Int)])]) (fun rs _ => rs = it (ct c)) := by
  have e1 : Int.tmod (c : Int) 2 = (c : Int) % 2 := Int.tmod_eq_emod_of_nonneg (by omega)
  have e2 : Int.tdiv (c : Int) 2 = (c : Int) / 2 := Int.tdiv_eq_ediv_of_nonneg (by omega)
  have e3 : bits2 .xor .i64 ((c : Int) / 2) 3988292384 = ((c / 2 ^^^ 3988292384 : Nat) : Int) := xor_i (by omega) rfl (by omega) (by omega)
  have e4 := xor_lt (a := c / 2) (b := 3988292384) (by omega) (by omega)
  refine VC_enter k_spec_l03Turn rfl ?_
  simp (disch := omega) [c_spec_l03Turn, e1, VE, VXR, VP, VB, VTup, kof, bl, it]
  refine VXB_dec (fun h1 => ?_) (fun h1 => ?_)
  · have : c % 2 = 1 := by omega
    simp (disch := omega) [e2, e3, ct, this, VE, VXR, VP, VB, VTup, kof, bl, it]
  · have : ¬ c % 2 = 1 := by omega
    simp (disch := omega) [e2, ct, this, VE, VXR, VP, VB, VTup, kof, bl, it]
abbrev n_impl_steps : Nat := 165
def c_impl_steps : AF := ⟨1, 5, [.tmp 2], (.seq (.ops [.i (.mov 2 (.c (.val false [.int .i64 0])))]) (.seq (.seq (.ops [.i (.mov 4 (.c (.val false [.int .i64 0])))]) (.block 0 (.loop [14, 13, 12, 11, 10, 9, 8, 7, 6, 5, 3] (.seq (.ops [.i (.bin 5 .lss (.s 4) (.c (.val false [.int .i64 8])))]) (.seq (.cond (.s 5) .skip (.exit 0)) (.seq (.block 1 (.seq (.ops [.i (.mov 6 (.s 0)), .i (.bin 7 .and (.s 6) (.c (.val false [.int .i64 1]))), .i (.mov 3 (.s 7))]) (.seq (.ops [.i (.mov 8 (.s 0)), .i (.bin 9 .shr (.s 8) (.c (.val false [.int .u64 1]))), .i (.mov 0 (.s 9))]) (.seq (.ops [.i (.mov 10 (.s 3)), .i (.bin 11 .eql (.s 10) (.c (.val false [.int .i64 1])))]) (.cond (.s 11) (.ops [.i (.mov 12 (.s 0)), .i (.bin 13 .xor (.s 12) (.c (.val false [.int .i64 3988292384]))), .i (.mov 0 (.s 13))]) .skip))))) (.ops [.i (.bin 14 .add (.s 4) (.c (.val false [.int .i64 1]))), .i (.mov 4 (.s 14))]))))))) (.seq (.ops [.i (.mov 15 (.s 0)), .i (.mov 2 (.s 15))]) .ret)))⟩
theorem k_impl_steps : cd n_impl_steps = some c_impl_steps := by kernel_rfl
theorem steps_ok (c : Nat) (h : c < 4294967296) : VC cd n_impl_steps (mkP [(false, [.int .i64 (c : Int)])]) (fun rs _ => rs = it (ctn 8 c)) := by
  refine VC_enter k_impl_steps rfl ?_
  simp (disch := omega) [c_impl_steps, VE, VXR, VP, VB, VTup, kof, bl, it]
  refine VX_loopO (σ := Nat) (f1 := _) (es0 := _) (by simp (disch := omega) [VE, VXR, VP, VB, VTup, kof, bl, it]; rfl) (by simp (disch := omega) [VE, VXR, VP, VB, VTup, kof, bl, it]; rfl) (fun i => [(0, .val false [.int .i64 (ctn i c : Int)]), (4, .val false [.int .i64 (i : Int)])]) (fun _ => []) (fun i g => g + i = 8) 0 8 (by simp (disch := omega) [ctn, VE, VXR, VP, VB, VTup, kof, bl, it]) (by simp (disch := omega) [VE, VXR, VP, VB, VTup, kof, bl, it]) (by omega) ?_
  rintro i n g hg P hP
  simp (disch := omega) [VE, VXR, VP, VB, VTup, kof, bl, it]
  refine VXB_dec (fun h1 => ?_) (fun h1 => ?_)
  · have hl := ctn_lt h i
    have e0 : bits2 .and .i64 (ctn i c : Int) 1 = (ctn i c : Int) % 2 := (and_one hl).trans (by omega)
    have e1 : Int.fdiv (ctn i c : Int) 2 = (ctn i c : Int) / 2 := Int.fdiv_eq_ediv_of_nonneg _ (by omega)
    have e3 : bits2 .xor .i64 ((ctn i c : Int) / 2) 3988292384 = ((ctn i c / 2 ^^^ 3988292384 : Nat) : Int) := xor_i (by omega) rfl (by omega) (by omega)
    simp (disch := omega) [e0, e1, e3, IntKind.bits, VE, VXR, VP, VB, VTup, kof, bl, it]
    refine VXB_dec (fun h2 => ?_) (fun h2 => ?_)
    · have h3 : ctn i c % 2 = 1 := by omega
      simp (disch := omega) [e3, VE, VXR, VP, VB, VTup, kof, bl, it]
      exact hP (i + 1) (g - 1) _ _ (by omega) (by omega) (by simp (disch := omega) [ctn, ct, h3, e3, VE, VXR, VP, VB, VTup, kof, bl, it]) (by simp (disch := omega) [VE, VXR, VP, VB, VTup, kof, bl, it])
    · have h3 : ¬ ctn i c % 2 = 1 := by omega
      simp (disch := omega) [VE, VXR, VP, VB, VTup, kof, bl, it]
      exact hP (i + 1) (g - 1) _ _ (by omega) (by omega) (by simp (disch := omega) [ctn, ct, h3, VE, VXR, VP, VB, VTup, kof, bl, it]) (by simp (disch := omega) [VE, VXR, VP, VB, VTup, kof, bl, it])
  · have : i = 8 := by omega
    subst this
    simp (disch := omega) [VE, VXR, VP, VB, VTup, kof, bl, it]
theorem crcM_lt (b : Bytes) : ∀ {c : Nat}, c < 4294967296 → crcM c b < 4294967296 := by
  unfold crcM
  induction b with
  | nil => exact fun h => h
  | cons x r ih =>
    refine fun {c} h => ?_
    have hx : x.toNat < 4294967296 := by have := u8lt x; omega
    rw [List.foldl_cons]
    exact ih (ctn_lt (xor_lt h hx) 8)
theorem crcM_snoc (b : Bytes) (x : UInt8) (c : Nat) : crcM c (b ++ [x]) = ctn 8 (crcM c b ^^^ x.toNat) := by
  unfold crcM
  rw [List.foldl_append]
  rfl
theorem crcM_take {b : Bytes} {i : Nat} (h : i < b.length) (c : Nat) : crcM c (b.take (i + 1)) = ctn 8 (crcM c (b.take i) ^^^ b[i].toNat) := by
  rw [List.take_add_one, List.getElem?_eq_getElem h]
  exact crcM_snoc _ _ _
abbrev n_impl_CrcMore : Nat := 161
def c_impl_CrcMore : AF := ⟨2, 5, [.tmp 4], (.seq (.ops [.i (.mov 4 (.c (.val false [.int .i64 0])))]) (.seq (.seq (.ops [.i (.mov 7 (.s 0)), .i (.call 9 152 false [(.s 7)]), .i (.not 9 (.s 8))]) (.cond (.s 9) (.seq (.ops [.i (.mov 4 (.c (.val false [.int .i64 0])))]) .ret) .skip)) (.seq (.ops [.i (.mov 10 (.s 0)), .i (.bin 11 .xor (.s 10) (.c (.val false [.int .i64 4294967295]))), .i (.mov 0 (.s 11))]) (.seq (.seq (.ops [.i (.mov 12 (.s 1)), .i (.len 13 false (.s 12)), .i (.mov 14 (.c (.val false [.int .i64 0])))]) (.block 0 (.loop [23, 22, 21, 20, 19, 18, 17, 16, 15, 6] (.seq (.ops [.i (.bin 15 .lss (.s 14) (.s 13))]) (.seq (.cond (.s 15) .skip (.exit 0)) (.seq (.block 1 (.seq (.ops [.i (.iad 16 (.s 12) (.s 14) 1), .i (.ldh 17 (.s 16) 1 false), .i (.mov 6 (.s 17))]) (.ops [.i (.mov 18 (.s 0)), .i (.mov 19 (.s 6)), .i (.cvi 20 .i64 (.s 19)), .i (.bin 21 .xor (.s 18) (.s 20)), .i (.call 23 165 false [(.s 21)]), .i (.mov 0 (.s 22))]))) (.ops [.i (.bin 23 .add (.s 14) (.c (.val false [.int .i64 1]))), .i (.mov 14 (.s 23))]))))))) (.seq (.ops [.i (.mov 24 (.s 0)), .i (.bin 25 .xor (.s 24) (.c (.val false [.int .i64 4294967295]))), .i (.mov 4 (.s 25))]) .ret)))))⟩
theorem k_impl_CrcMore : cd n_impl_CrcMore = some c_impl_CrcMore := by kernel_rfl
theorem impl_CrcMore_ok (c : Nat) (b : Bytes) (h : c < 4294967296) (hb : b.length ≤ 1073741824) : VC cd n_impl_CrcMore (mkP [(false, [.int .i64 (c : Int)]), (false, [.sl (bytes b)])]) (fun rs _ => rs = it (crcMore c b)) := by
  have h0 := xor_lt (a := c) (b := 4294967295) h (by omega)
  have e0 : bits2 .xor .i64 (c : Int) 4294967295 = ((c ^^^ 4294967295 : Nat) : Int) := xor_i rfl rfl h (by omega)
  refine VC_enter k_impl_CrcMore rfl ?_
  simp (disch := omega) [c_impl_CrcMore, VE, VXR, VP, VB, VTup, kof, bl, it]
  refine VXC_e (isWord_ok c) rfl rfl ?_
  simp (disch := omega) [word_of h, e0, VE, VXR, VP, VB, VTup, kof, bl, it]
  refine VX_loopO (σ := Nat) (f1 := _) (es0 := _) (by simp (disch := omega) [VE, VXR, VP, VB, VTup, kof, bl, it]; rfl) (by simp (disch := omega) [VE, VXR, VP, VB, VTup, kof, bl, it]; rfl) (fun i => [(0, .val false [.int .i64 (crcM (c ^^^ 4294967295) (b.take i) : Int)]), (14, .val false [.int .i64 (i : Int)])]) (fun _ => []) (fun i g => g + i = b.length) 0 b.length (by simp (disch := omega) [crcM, VE, VXR, VP, VB, VTup, kof, bl, it]) (by simp (disch := omega) [VE, VXR, VP, VB, VTup, kof, bl, it]) (by omega) ?_
  rintro i n g hg P hP
  simp (disch := omega) [VE, VXR, VP, VB, VTup, kof, bl, it]
  refine VXB_dec (fun h1 => ?_) (fun h1 => ?_)
  · have hi : i < b.length := by omega
    have hl := crcM_lt (b.take i) h0
    have hx := u8lt b[i]
    have e1 := w64 (n := (b[i].toNat : Int)) (by omega) (by omega)
    have e2 := xor_int hl (b := b[i].toNat) (by omega)
    simp (disch := omega) [bytes_get hi, e1, e2, VE, VXR, VP, VB, VTup, kof, bl, it]
    refine VXC_e (steps_ok (crcM (c ^^^ 4294967295) (b.take i) ^^^ b[i].toNat) (xor_lt hl (by omega))) (by first | rfl | (simp [argsD, argDs, argD, St.slc, lk_cons, lk] <;> first | rfl | exact ⟨rfl, rfl⟩ | exact ⟨rfl, rfl, rfl⟩)) rfl ?_
    simp (disch := omega) [VE, VXR, VP, VB, VTup, kof, bl, it]
    exact hP (i + 1) (g - 1) _ _ (by omega) (by omega) (by simp (disch := omega) [crcM_take hi, VE, VXR, VP, VB, VTup, kof, bl, it]) (by simp (disch := omega) [VE, VXR, VP, VB, VTup, kof, bl, it])
  · have : i = b.length := by omega
    subst this
    have hl := crcM_lt b h0
    have e2 : bits2 .xor .i64 (crcM (c ^^^ 4294967295) b : Int) 4294967295 = ((crcM (c ^^^ 4294967295) b ^^^ 4294967295 : Nat) : Int) := xor_i rfl rfl hl (by omega)
    simp (disch := omega) [e2, crcMore, VE, VXR, VP, VB, VTup, kof, bl, it]
abbrev n_spec_CrcMore : Nat := 159
def c_spec_CrcMore : AF := ⟨2, 6, [.tmp 4], (.seq (.ops [.i (.mov 4 (.c (.val false [.int .i64 0])))]) (.seq (.seq (.ops [.i (.mov 9 (.s 0)), .i (.call 11 163 false [(.s 9)]), .i (.not 11 (.s 10))]) (.cond (.s 11) (.seq (.ops [.i (.mov 4 (.c (.val false [.int .i64 0])))]) .ret) .skip)) (.seq (.ops [.i (.mov 12 (.s 0)), .i (.bin 13 .xor (.s 12) (.c (.val false [.int .i64 4294967295]))), .i (.mov 5 (.s 13))]) (.seq (.seq (.ops [.i (.mov 14 (.s 1)), .i (.len 15 false (.s 14)), .i (.mov 16 (.c (.val false [.int .i64 0])))]) (.block 0 (.loop [30, 29, 28, 27, 26, 25, 24, 23, 22, 21, 20, 19, 18, 17, 8, 7] (.seq (.ops [.i (.bin 17 .lss (.s 16) (.s 15))]) (.seq (.cond (.s 17) .skip (.exit 0)) (.seq (.block 1 (.seq (.ops [.i (.iad 18 (.s 14) (.s 16) 1), .i (.ldh 19 (.s 18) 1 false), .i (.mov 7 (.s 19))]) (.seq (.ops [.i (.mov 20 (.s 5)), .i (.mov 21 (.s 7)), .i (.cvi 22 .i64 (.s 21)), .i (.bin 23 .xor (.s 20) (.s 22)), .i (.mov 5 (.s 23))]) (.seq (.ops [.i (.mov 8 (.c (.val false [.int .i64 0])))]) (.block 2 (.loop [29, 28, 27, 26, 25, 24] (.seq (.seq (.ops [.i (.mov 24 (.s 8)), .i (.bin 25 .lss (.s 24) (.c (.val false [.int .i64 8])))]) (.cond (.s 25) .skip (.exit 2))) (.seq (.block 3 (.ops [.i (.mov 28 (.s 5)), .i (.call 30 164 false [(.s 28)]), .i (.mov 5 (.s 29))])) (.ops [.i (.mov 26 (.s 8)), .i (.bin 27 .add (.s 26) (.c (.val false [.int .i64 1]))), .i (.mov 8 (.s 27))]))))))))) (.ops [.i (.bin 30 .add (.s 16) (.c (.val false [.int .i64 1]))), .i (.mov 16 (.s 30))]))))))) (.seq (.ops [.i (.mov 31 (.s 5)), .i (.bin 32 .xor (.s 31) (.c (.val false [.int .i64 4294967295]))), .i (.mov 4 (.s 32))]) .ret)))))⟩
theorem k_spec_CrcMore : cd n_spec_CrcMore = some c_spec_CrcMore := by kernel_rfl
theorem spec_CrcMore_ok (c : Nat) (b : Bytes) (h : c < 4294967296) (hb : b.length ≤ 1073741824) : VC cd n_spec_CrcMore (mkP [(false, [.int .i64 (c : Int)]), (false, [.sl (bytes b)])]) (fun rs _ => rs = it (crcMore c b)) := by
  have h0 := xor_lt (a := c) (b := 4294967295) h (by omega)
  have e0 : bits2 .xor .i64 (c : Int) 4294967295 = ((c ^^^ 4294967295 : Nat) : Int) := xor_i rfl rfl h (by omega)
  refine VC_enter k_spec_CrcMore rfl ?_
  simp (disch := omega) [c_spec_CrcMore, VE, VXR, VP, VB, VTup, kof, bl, it]
  refine VXC_e (l03Sum_ok c) rfl rfl ?_
  simp (disch := omega) [word_of h, e0, VE, VXR, VP, VB, VTup, kof, bl, it]
  refine VX_loopO (σ := Nat) (f1 := _) (es0 := _) (by simp (disch := omega) [VE, VXR, VP, VB, VTup, kof, bl, it]; rfl) (by simp (disch := omega) [VE, VXR, VP, VB, VTup, kof, bl, it]; rfl) (fun i => [(5, .val false [.int .i64 (crcM (c ^^^ 4294967295) (b.take i) : Int)]), (16, .val false [.int .i64 (i : Int)])]) (fun _ => []) (fun i g => g + i = b.length) 0 b.length (by simp (disch := omega) [crcM, VE, VXR, VP, VB, VTup, kof, bl, it]) (by simp (disch := omega) [VE, VXR, VP, VB, VTup, kof, bl, it]) (by omega) ?_
  rintro i n g hg P hP
  simp (disch := omega) [VE, VXR, VP, VB, VTup, kof, bl, it]
  refine VXB_dec (fun h1 => ?_) (fun h1 => ?_)
  · have hi : i < b.length := by omega
    have hl := crcM_lt (b.take i) h0
    have hx := u8lt b[i]
    have e1 := w64 (n := (b[i].toNat : Int)) (by omega) (by omega)
    have e2 := xor_int hl (b := b[i].toNat) (by omega)
    have hy := xor_lt hl (b := b[i].toNat) (by omega)
    simp (disch := omega) [bytes_get hi, e1, e2, VE, VXR, VP, VB, VTup, kof, bl, it]
    refine VX_loopO (σ := Nat) (f1 := _) (es0 := _) (by simp (disch := omega) [VE, VXR, VP, VB, VTup, kof, bl, it]; rfl) (by simp (disch := omega) [VE, VXR, VP, VB, VTup, kof, bl, it]; rfl) (fun j => [(5, .val false [.int .i64 (ctn j (crcM (c ^^^ 4294967295) (b.take i) ^^^ b[i].toNat) : Int)]), (8, .val false [.int .i64 (j : Int)])]) (fun _ => []) (fun j g => g + j = 8) 0 8 (by simp (disch := omega) [ctn, VE, VXR, VP, VB, VTup, kof, bl, it]) (by simp (disch := omega) [VE, VXR, VP, VB, VTup, kof, bl, it]) (by omega) ?_
    rintro j n2 g2 hg2 P2 hP2
    simp (disch := omega) [VE, VXR, VP, VB, VTup, kof, bl, it]
    refine VXB_dec (fun h2 => ?_) (fun h2 => ?_)
    · simp (disch := omega) [VE, VXR, VP, VB, VTup, kof, bl, it]
      refine VXC_e (l03Turn_ok (ctn j (crcM (c ^^^ 4294967295) (b.take i) ^^^ b[i].toNat)) (ctn_lt hy j)) (by first | rfl | (simp [argsD, argDs, argD, St.slc, lk_cons, lk] <;> first | rfl | exact ⟨rfl, rfl⟩ | exact ⟨rfl, rfl, rfl⟩)) rfl ?_
      simp (disch := omega) [VE, VXR, VP, VB, VTup, kof, bl, it]
      exact hP2 (j + 1) (g2 - 1) _ _ (by omega) (by omega) (by simp (disch := omega) [ctn, VE, VXR, VP, VB, VTup, kof, bl, it]) (by simp (disch := omega) [VE, VXR, VP, VB, VTup, kof, bl, it])
    · have : j = 8 := by omega
      subst this
      simp (disch := omega) [VE, VXR, VP, VB, VTup, kof, bl, it]
      exact hP (i + 1) (g - 1) _ _ (by omega) (by omega) (by simp (disch := omega) [crcM_take hi, VE, VXR, VP, VB, VTup, kof, bl, it]) (by simp (disch := omega) [VE, VXR, VP, VB, VTup, kof, bl, it])
  · have : i = b.length := by omega
    subst this
    have hl := crcM_lt b h0
    have e2 : bits2 .xor .i64 (crcM (c ^^^ 4294967295) b : Int) 4294967295 = ((crcM (c ^^^ 4294967295) b ^^^ 4294967295 : Nat) : Int) := xor_i rfl rfl hl (by omega)
    simp (disch := omega) [e2, crcMore, VE, VXR, VP, VB, VTup, kof, bl, it]
abbrev n_impl_Crc : Nat := 143
def c_impl_Crc : AF := ⟨1, 3, [.tmp 2], (.seq (.ops [.i (.mov 2 (.c (.val false [.int .i64 0])))]) (.seq (.ops [.i (.mov 3 (.s 0)), .i (.call 5 161 false [(.c (.val false [.int .i64 0])), (.s 3)]), .i (.mov 2 (.s 4))]) .ret))⟩
theorem k_impl_Crc : cd n_impl_Crc = some c_impl_Crc := by kernel_rfl
theorem impl_Crc_ok (b : Bytes) (hb : b.length ≤ 1073741824) : VC cd n_impl_Crc (mkP [(false, [.sl (bytes b)])]) (fun rs _ => rs = it (crc b)) := by
  refine VC_enter k_impl_Crc rfl ?_
  simp (disch := omega) [c_impl_Crc, VE, VXR, VP, VB, VTup, kof, bl, it]
  refine VXC_e (impl_CrcMore_ok 0 b (by omega) hb) (by first | rfl | (simp [argsD, argDs, argD, St.slc, lk_cons, lk] <;> first | rfl | exact ⟨rfl, rfl⟩ | exact ⟨rfl, rfl, rfl⟩)) rfl ?_
  simp (disch := omega) [crc, VE, VXR, VP, VB, VTup, kof, bl, it]
abbrev n_spec_Crc : Nat := 141
def c_spec_Crc : AF := ⟨1, 3, [.tmp 2], (.seq (.ops [.i (.mov 2 (.c (.val false [.int .i64 0])))]) (.seq (.ops [.i (.mov 3 (.s 0)), .i (.call 5 159 false [(.c (.val false [.int .i64 0])), (.s 3)]), .i (.mov 2 (.s 4))]) .ret))⟩
theorem k_spec_Crc : cd n_spec_Crc = some c_spec_Crc := by kernel_rfl
theorem spec_Crc_ok (b : Bytes) (hb : b.length ≤ 1073741824) : VC cd n_spec_Crc (mkP [(false, [.sl (bytes b)])]) (fun rs _ => rs = it (crc b)) := by
  refine VC_enter k_spec_Crc rfl ?_
  simp (disch := omega) [c_spec_Crc, VE, VXR, VP, VB, VTup, kof, bl, it]
  refine VXC_e (spec_CrcMore_ok 0 b (by omega) hb) (by first | rfl | (simp [argsD, argDs, argD, St.slc, lk_cons, lk] <;> first | rfl | exact ⟨rfl, rfl⟩ | exact ⟨rfl, rfl, rfl⟩)) rfl ?_
  simp (disch := omega) [crc, VE, VXR, VP, VB, VTup, kof, bl, it]
end Go.Eng.F
/-
  Functions: numbers of a width, frames.
-/
set_option maxRecDepth 100000
set_option linter.unusedSimpArgs false
set_option linter.unusedVariables false
namespace Go.Eng.F
def fixV : Bytes → Nat
  | [] => 0
  | x :: r => x.toNat + 256 * fixV r
theorem fixV_lt : ∀ (b : Bytes), fixV b < 256 ^ b.length
  | [] => by simp [fixV]
  | x :: r => by
    have h := fixV_lt r
    have hx := u8lt x
    simp only [fixV, List.length_cons, Nat.pow_succ]
    omega
theorem fixV_snoc (x : UInt8) : ∀ (b : Bytes), fixV (b ++ [x]) = fixV b + x.toNat * 256 ^ b.length
  | [] => by simp [fixV]
  | y :: b => by
    have h := fixV_snoc x b
    simp only [List.cons_append, fixV, List.length_cons, Nat.pow_succ, h]
    have : 256 * (fixV b + x.toNat * 256 ^ b.length) = 256 * fixV b + x.toNat * (256 ^ b.length * 256) := by
      rw [Nat.mul_add, Nat.mul_left_comm, Nat.mul_comm 256 (256 ^ b.length)]
    omega
theorem pow8 (k : Nat) : (256 : Nat) ^ k = 2 ^ (8 * k) := by rw [Nat.pow_mul]
theorem or_int {a b k : Nat} (ha : a < 2 ^ k) (hk : 2 ^ k ∣ b) (hb : b < 2 ^ 56) (hk2 : k ≤ 56) : bits2 .or .i64 (a : Int) (b : Int) = ((a + b : Nat) : Int) := by
  have h2 : (2 : Nat) ^ k ≤ 2 ^ 56 := Nat.pow_le_pow_right (by omega) hk2
  show IntKind.i64.wrap ((BitVec.ofInt 64 (a : Int) ||| BitVec.ofInt 64 (b : Int)).toNat : Int) = _
  rw [BitVec.toNat_or, show BitVec.ofInt 64 (a : Int) = BitVec.ofNat 64 a from rfl, show BitVec.ofInt 64 (b : Int) = BitVec.ofNat 64 b from rfl, BitVec.toNat_ofNat, BitVec.toNat_ofNat, Nat.mod_eq_of_lt (by omega), Nat.mod_eq_of_lt (by omega)]
  obtain ⟨q, rfl⟩ := hk
  rw [Nat.or_comm, ← Nat.two_pow_add_eq_or_of_lt ha, Nat.add_comm]
  exact w64 (by omega) (by omega)
abbrev n_impl_GetRaw : Nat := 160
def c_impl_GetRaw : AF := ⟨3, 6, [.tmp 6, .tmp 7, .tmp 8], (.seq (.ops [.i (.mov 6 (.c (.val false [.nils]))), .i (.mov 7 (.c (.val false [.int .i64 0]))), .i (.mov 8 (.c (.val false [.int .i64 0])))]) (.seq (.seq (.ops [.i (.mov 9 (.s 1)), .i (.mov 10 (.s 0)), .i (.len 11 false (.s 10)), .i (.call 13 103 false [(.s 9), (.c (.val false [.int .i64 0])), (.s 11)]), .i (.not 13 (.s 12)), .i (.mov 14 (.s 13)), .g 14 false 16 (.mov 15 (.s 2)), .g 14 false 17 (.mov 16 (.s 0)), .g 14 false 18 (.len 17 false (.s 16)), .g 14 false 19 (.mov 18 (.s 1)), .g 14 false 20 (.bin 19 .sub (.s 17) (.s 18)), .g 14 false 21 (.call 21 103 false [(.s 15), (.c (.val false [.int .i64 0])), (.s 19)]), .g 14 false 22 (.not 21 (.s 20)), .i (.pick 22 (.s 14) (.c (.val false [.bool true])) (.s 21))]) (.cond (.s 22) (.seq (.ops [.i (.mov 6 (.c (.val false [.nils]))), .i (.mov 7 (.c (.val false [.int .i64 0]))), .i (.mov 8 (.c (.val false [.int .i64 1])))]) .ret) .skip)) (.seq (.ops [.i (.mov 23 (.s 0)), .i (.mov 24 (.s 1)), .i (.mov 25 (.s 1)), .i (.mov 26 (.s 2)), .i (.bin 27 .add (.s 25) (.s 26)), .i (.slc 28 1 (.s 23) (some (.s 24)) (some (.s 27))), .i (.call 30 61 false [(.s 28)]), .i (.mov 30 (.s 1)), .i (.mov 31 (.s 2)), .i (.bin 32 .add (.s 30) (.s 31)), .i (.mov 6 (.s 29)), .i (.mov 7 (.s 32)), .i (.mov 8 (.c (.val false [.int .i64 0])))]) .ret)))⟩
theorem k_impl_GetRaw : cd n_impl_GetRaw = some c_impl_GetRaw := by kernel_rfl
theorem impl_GetRaw_ok (b : Bytes) (a n : Nat) (h : a + n ≤ b.length) (hb : b.length ≤ 1073741824) : VC cd n_impl_GetRaw (mkP [(false, [.sl (bytes b)]), (false, [.int .i64 (a : Int)]), (false, [.int .i64 (n : Int)])]) (fun rs _ => rs = [(false, [.o true (some (5, 1)) (bytes ((b.drop a).take n))]), (false, [.p (.int .i64 ((a + n : Nat) : Int))]), (false, [.p (.int .i64 0)])]) := by
  have e1 : inn (a : Int) 0 (b.length : Int) = true := by simp [inn]; omega
  have e2 : inn (n : Int) 0 ((b.length : Int) - (a : Int)) = true := by simp [inn]; omega
  have e3 : ((bytes b).drop a).take n = bytes ((b.drop a).take n) := by simp [bytes]
  have e4 : ((a : Int) + (n : Int) - (a : Int)).toNat = n := by omega
  have e5 : (a : Int) + (n : Int) ≤ (b.length : Int) := by omega
  have e6 : (a : Int) ≤ (a : Int) + (n : Int) := by omega
  refine VC_enter k_impl_GetRaw rfl ?_
  simp (disch := omega) [c_impl_GetRaw, VE, VXR, VP, VB, VTup, kof, bl, it]
  refine VXC_e (within_ok _ _ _) rfl rfl ?_
  simp (disch := omega) [e1, VE, VXR, VP, VB, VTup, kof, bl, it]
  refine VXC_e (within_ok _ _ _) rfl rfl ?_
  simp (disch := omega) [e2, e3, e4, e5, e6, VE, VXR, VP, VB, VTup, kof, bl, it]
  refine VXC_e (copyBytes_ok ((b.drop a).take n) (by simp; omega)) (by first | rfl | (simp [argsD, argDs, argD, St.slc, lk_cons, lk] <;> first | rfl | exact ⟨rfl, rfl⟩ | exact ⟨rfl, rfl, rfl⟩)) rfl ?_
  simp (disch := omega) [VE, VXR, VP, VB, VTup, kof, bl, it]
theorem win_len {b : Bytes} {a w : Nat} (h : a + w ≤ b.length) : ((b.drop a).take w).length = w := by simp; omega
theorem win_get {b : Bytes} {a w i : Nat} (h : a + w ≤ b.length) (hi : i < w) : ((b.drop a).take w)[i]'(by simp; omega) = b[a + i] := by simp
abbrev n_impl_GetFix : Nat := 142
def c_impl_GetFix : AF := ⟨3, 6, [.tmp 6, .tmp 7, .tmp 8], (.seq (.ops [.i (.mov 6 (.c (.val false [.int .i64 0]))), .i (.mov 7 (.c (.val false [.int .i64 0]))), .i (.mov 8 (.c (.val false [.int .i64 0])))]) (.seq (.seq (.ops [.i (.mov 15 (.s 2)), .i (.call 17 103 false [(.s 15), (.c (.val false [.int .i64 1])), (.c (.val false [.int .i64 7]))]), .i (.not 17 (.s 16))]) (.cond (.s 17) (.seq (.ops [.i (.mov 6 (.c (.val false [.int .i64 0]))), .i (.mov 7 (.c (.val false [.int .i64 0]))), .i (.mov 8 (.c (.val false [.int .i64 5])))]) .ret) .skip)) (.seq (.ops [.i (.mov 19 (.s 0)), .i (.mov 20 (.s 1)), .i (.mov 21 (.s 2)), .i (.call 23 160 false [(.s 19), (.s 20), (.s 21)]), .i (.mov 18 (.s 22)), .i (.ext 23 (.s 18) 0), .i (.ext 24 (.s 18) 1), .i (.ext 25 (.s 18) 2), .i (.mov 9 (.s 23)), .i (.mov 10 (.s 24)), .i (.mov 11 (.s 25))]) (.seq (.ops [.i (.mov 12 (.c (.val false [.int .i64 0])))]) (.seq (.seq (.ops [.i (.mov 26 (.s 9)), .i (.len 27 false (.s 26)), .i (.mov 28 (.c (.val false [.int .i64 0])))]) (.block 0 (.loop [40, 39, 38, 37, 36, 35, 34, 33, 32, 31, 30, 29, 14, 13] (.seq (.ops [.i (.bin 29 .lss (.s 28) (.s 27))]) (.seq (.cond (.s 29) .skip (.exit 0)) (.seq (.block 1 (.seq (.ops [.i (.mov 30 (.s 28)), .i (.iad 31 (.s 26) (.s 28) 1), .i (.ldh 32 (.s 31) 1 false), .i (.mov 13 (.s 30)), .i (.mov 14 (.s 32))]) (.ops [.i (.mov 33 (.s 12)), .i (.mov 34 (.s 14)), .i (.cvi 35 .i64 (.s 34)), .i (.mov 36 (.s 13)), .i (.bin 37 .mul (.c (.val false [.int .i64 8])) (.s 36)), .i (.bin 38 .shl (.s 35) (.s 37)), .i (.bin 39 .or (.s 33) (.s 38)), .i (.mov 12 (.s 39))]))) (.ops [.i (.bin 40 .add (.s 28) (.c (.val false [.int .i64 1]))), .i (.mov 28 (.s 40))]))))))) (.seq (.ops [.i (.mov 41 (.s 12)), .i (.mov 42 (.s 10)), .i (.mov 43 (.s 11)), .i (.mov 6 (.s 41)), .i (.mov 7 (.s 42)), .i (.mov 8 (.s 43))]) .ret))))))⟩
theorem k_impl_GetFix : cd n_impl_GetFix = some c_impl_GetFix := by kernel_rfl
theorem impl_GetFix_ok (b : Bytes) (a w : Nat) (h : a + w ≤ b.length) (hw : 1 ≤ w ∧ w ≤ 7) (hb : b.length ≤ 1073741824) : VC cd n_impl_GetFix (mkP [(false, [.sl (bytes b)]), (false, [.int .i64 (a : Int)]), (false, [.int .i64 (w : Int)])]) (fun rs _ => rs = [(false, [.p (.int .i64 (fixV ((b.drop a).take w) : Int))]), (false, [.p (.int .i64 ((a + w : Nat) : Int))]), (false, [.p (.int .i64 0)])]) := by
  have e1 : inn (w : Int) 1 7 = true := by simp [inn]; omega
  have hl := win_len h
  refine VC_enter k_impl_GetFix rfl ?_
  simp (disch := omega) [c_impl_GetFix, VE, VXR, VP, VB, VTup, kof, bl, it]
  refine VXC_e (within_ok _ _ _) rfl rfl ?_
  simp (disch := omega) [e1, VE, VXR, VP, VB, VTup, kof, bl, it]
  refine VXC_e (impl_GetRaw_ok b a w h hb) rfl rfl ?_
  simp (disch := omega) [bytes_len, hl, VE, VXR, VP, VB, VTup, kof, bl, it]
  generalize hx : (b.drop a).take w = x at *
  refine VX_loopO (σ := Nat) (f1 := _) (es0 := _) (by simp (disch := omega) [VE, VXR, VP, VB, VTup, kof, bl, it]; rfl) (by simp (disch := omega) [VE, VXR, VP, VB, VTup, kof, bl, it]; rfl) (fun i => [(12, .val false [.int .i64 (fixV (x.take i) : Int)]), (28, .val false [.int .i64 (i : Int)])]) (fun _ => []) (fun i g => g + i = w) 0 w (by simp (disch := omega) [fixV, VE, VXR, VP, VB, VTup, kof, bl, it]) (by simp (disch := omega) [VE, VXR, VP, VB, VTup, kof, bl, it]) (by omega) ?_
  rintro i n g hg P hP
  simp (disch := omega) [VE, VXR, VP, VB, VTup, kof, bl, it]
  refine VXB_dec (fun h1 => ?_) (fun h1 => ?_)
  · have hi : i < x.length := by omega
    have hq := u8lt x[i]
    have e2 := w64 (n := (x[i].toNat : Int)) (by omega) (by omega)
    have e3 : ¬ (8 : Int) * (i : Int) < 0 := by omega
    have e4 : ((8 : Int) * (i : Int)).toNat = 8 * i := by omega
    have e5 : min (8 * i) 64 = 8 * i := by omega
    have hp : x[i].toNat * 2 ^ (8 * i) < 2 ^ 56 := by
      have : (2 : Nat) ^ (8 * i) ≤ 2 ^ 48 := Nat.pow_le_pow_right (by omega) (by omega)
      calc x[i].toNat * 2 ^ (8 * i) ≤ x[i].toNat * 2 ^ 48 := Nat.mul_le_mul_left _ this
        _ < 2 ^ 56 := by omega
    have e6 : IntKind.i64.wrap ((x[i].toNat : Int) * 2 ^ (8 * i)) = ((x[i].toNat * 2 ^ (8 * i) : Nat) : Int) := by
      rw [show ((x[i].toNat : Int) * 2 ^ (8 * i)) = ((x[i].toNat * 2 ^ (8 * i) : Nat) : Int) by simp]
      exact w64 (by omega) (by omega)
    have hf := fixV_lt (x.take i)
    rw [List.length_take, Nat.min_eq_left (by omega), pow8] at hf
    have e7 := or_int hf (Nat.dvd_mul_left _ _) hp (by omega)
    have e8 : fixV (x.take (i + 1)) = fixV (x.take i) + x[i].toNat * 2 ^ (8 * i) := by
      rw [List.take_add_one, List.getElem?_eq_getElem hi]
      show fixV (x.take i ++ [x[i]]) = _
      rw [fixV_snoc, List.length_take, Nat.min_eq_left (by omega), pow8]
    simp (disch := omega) [bytes_get hi, e2, e3, e4, e5, IntKind.bits, VE, VXR, VP, VB, VTup, kof, bl, it]
    rw [e6, e7, ← e8]
    simp (disch := omega) [VE, VXR, VP, VB, VTup, kof, bl, it]
    exact hP (i + 1) (g - 1) _ _ (by omega) (by omega) (by simp (disch := omega) [VE, VXR, VP, VB, VTup, kof, bl, it]) (by simp (disch := omega) [VE, VXR, VP, VB, VTup, kof, bl, it])
  · have : i = w := by omega
    subst this
    rw [List.take_of_length_le (by omega)]
    simp (disch := omega) [VE, VXR, VP, VB, VTup, kof, bl, it]
theorem fixV_drop {x : Bytes} {i : Nat} (h : i < x.length) : fixV (x.drop i) = x[i].toNat + 256 * fixV (x.drop (i + 1)) := by
  rw [List.drop_eq_getElem_cons h]
  rfl
abbrev n_spec_GetFix : Nat := 140
def c_spec_GetFix : AF := ⟨3, 6, [.tmp 6, .tmp 7, .tmp 8], (.seq (.ops [.i (.mov 6 (.c (.val false [.int .i64 0]))), .i (.mov 7 (.c (.val false [.int .i64 0]))), .i (.mov 8 (.c (.val false [.int .i64 0])))]) (.seq (.seq (.ops [.i (.mov 11 (.s 2)), .i (.call 13 101 false [(.s 11), (.c (.val false [.int .i64 1])), (.c (.val false [.int .i64 7]))]), .i (.not 13 (.s 12))]) (.cond (.s 13) (.seq (.ops [.i (.mov 6 (.c (.val false [.int .i64 0]))), .i (.mov 7 (.c (.val false [.int .i64 0]))), .i (.mov 8 (.c (.val false [.int .i64 5])))]) .ret) .skip)) (.seq (.seq (.ops [.i (.mov 14 (.s 1)), .i (.bin 15 .lss (.s 14) (.c (.val false [.int .i64 0]))), .i (.mov 16 (.s 15)), .g 16 false 18 (.mov 17 (.s 1)), .g 16 false 19 (.mov 18 (.s 0)), .g 16 false 20 (.len 19 false (.s 18)), .g 16 false 21 (.mov 20 (.s 2)), .g 16 false 22 (.bin 21 .sub (.s 19) (.s 20)), .g 16 false 23 (.bin 22 .gtr (.s 17) (.s 21)), .i (.pick 23 (.s 16) (.c (.val false [.bool true])) (.s 22))]) (.cond (.s 23) (.seq (.ops [.i (.mov 6 (.c (.val false [.int .i64 0]))), .i (.mov 7 (.c (.val false [.int .i64 0]))), .i (.mov 8 (.c (.val false [.int .i64 1])))]) .ret) .skip)) (.seq (.ops [.i (.mov 9 (.c (.val false [.int .i64 0])))]) (.seq (.seq (.ops [.i (.mov 24 (.s 2)), .i (.bin 25 .sub (.s 24) (.c (.val false [.int .i64 1]))), .i (.mov 10 (.s 25))]) (.block 0 (.loop [39, 38, 37, 36, 35, 34, 33, 32, 31, 30, 29, 28, 27, 26] (.seq (.seq (.ops [.i (.mov 26 (.s 10)), .i (.bin 27 .geq (.s 26) (.c (.val false [.int .i64 0])))]) (.cond (.s 27) .skip (.exit 0))) (.seq (.block 1 (.ops [.i (.mov 30 (.s 9)), .i (.bin 31 .mul (.s 30) (.c (.val false [.int .i64 256]))), .i (.mov 32 (.s 0)), .i (.mov 33 (.s 1)), .i (.mov 34 (.s 10)), .i (.bin 35 .add (.s 33) (.s 34)), .i (.iad 36 (.s 32) (.s 35) 1), .i (.ldh 37 (.s 36) 1 false), .i (.cvi 38 .i64 (.s 37)), .i (.bin 39 .add (.s 31) (.s 38)), .i (.mov 9 (.s 39))])) (.ops [.i (.mov 28 (.s 10)), .i (.bin 29 .sub (.s 28) (.c (.val false [.int .i64 1]))), .i (.mov 10 (.s 29))])))))) (.seq (.ops [.i (.mov 40 (.s 9)), .i (.mov 41 (.s 1)), .i (.mov 42 (.s 2)), .i (.bin 43 .add (.s 41) (.s 42)), .i (.mov 6 (.s 40)), .i (.mov 7 (.s 43)), .i (.mov 8 (.c (.val false [.int .i64 0])))]) .ret))))))⟩
theorem k_spec_GetFix : cd n_spec_GetFix = some c_spec_GetFix := by kernel_rfl
theorem spec_GetFix_ok (b : Bytes) (a w : Nat) (h : a + w ≤ b.length) (hw : 1 ≤ w ∧ w ≤ 7) (hb : b.length ≤ 1073741824) : VC cd n_spec_GetFix (mkP [(false, [.sl (bytes b)]), (false, [.int .i64 (a : Int)]), (false, [.int .i64 (w : Int)])]) (fun rs _ => rs = [(false, [.p (.int .i64 (fixV ((b.drop a).take w) : Int))]), (false, [.p (.int .i64 ((a + w : Nat) : Int))]), (false, [.p (.int .i64 0)])]) := by
  have e1 : inn (w : Int) 1 7 = true := by simp [inn]; omega
  have hl := win_len h
  refine VC_enter k_spec_GetFix rfl ?_
  simp (disch := omega) [c_spec_GetFix, VE, VXR, VP, VB, VTup, kof, bl, it]
  refine VXC_e (l01In_ok _ _ _) rfl rfl ?_
  simp (disch := omega) [e1, VE, VXR, VP, VB, VTup, kof, bl, it]
  refine VXB_dec (fun h0 => ?_) (fun h0 => ?_)
  · omega
  simp (disch := omega) [h0, VE, VXR, VP, VB, VTup, kof, bl, it]
  refine VXB_dec (fun h0b => ?_) (fun h0b => ?_)
  · omega
  simp (disch := omega) [h0, h0b, VE, VXR, VP, VB, VTup, kof, bl, it]
  refine VX_loopO (σ := Nat) (f1 := _) (es0 := _) (by simp (disch := omega) [VE, VXR, VP, VB, VTup, kof, bl, it]; rfl) (by simp (disch := omega) [VE, VXR, VP, VB, VTup, kof, bl, it]; rfl) (fun i => [(9, .val false [.int .i64 (fixV (((b.drop a).take w).drop (w - i)) : Int)]), (10, .val false [.int .i64 ((w : Int) - 1 - (i : Int))])]) (fun _ => []) (fun i g => g + i = w) 0 w (by simp (disch := omega) [hl, fixV, VE, VXR, VP, VB, VTup, kof, bl, it]) (by simp (disch := omega) [VE, VXR, VP, VB, VTup, kof, bl, it]) (by omega) ?_
  rintro i n g hg P hP
  simp (disch := omega) [VE, VXR, VP, VB, VTup, kof, bl, it]
  refine VXB_dec (fun h1 => ?_) (fun h1 => ?_)
  · have hi : w - (i + 1) < ((b.drop a).take w).length := by omega
    have hd := fixV_drop hi
    rw [win_get h (by omega), show w - (i + 1) + 1 = w - i by omega] at hd
    have hf := fixV_lt (((b.drop a).take w).drop (w - i))
    have hf2 : (256 : Nat) ^ (((b.drop a).take w).drop (w - i)).length ≤ 256 ^ 6 := Nat.pow_le_pow_right (by omega) (by rw [List.length_drop, hl]; omega)
    have hq := u8lt (b[a + (w - (i + 1))]'(by omega))
    have e2 : ((a : Int) + ((w : Int) - 1 - (i : Int))).toNat = a + (w - (i + 1)) := by omega
    have e3 : (0 : Int) ≤ (a : Int) + ((w : Int) - 1 - (i : Int)) := by omega
    have e4 := w64 (n := ((b[a + (w - (i + 1))]'(by omega)).toNat : Int)) (by omega) (by omega)
    have hj2 : a + (w - (i + 1)) < b.length := by omega
    have e5 : ((fixV (((b.drop a).take w).drop (w - (i + 1))) : Nat) : Int) = (fixV (((b.drop a).take w).drop (w - i)) : Int) * 256 + ((b[a + (w - (i + 1))]'(by omega)).toNat : Int) := by omega
    simp (disch := omega) [e2, e3, bytes_get hj2, e4, VE, VXR, VP, VB, VTup, kof, bl, it]
    exact hP (i + 1) (g - 1) _ _ (by omega) (by omega) (by simp (disch := omega) [e5, VE, VXR, VP, VB, VTup, kof, bl, it]; omega) (by simp (disch := omega) [VE, VXR, VP, VB, VTup, kof, bl, it])
  · have : i = w := by omega
    subst this
    simp (disch := omega) [VE, VXR, VP, VB, VTup, kof, bl, it]
/-! ### Frames -/
def frN (s : Bytes) (a : Nat) : Nat := fixV ((s.drop (a + 2)).take 2)
def frS (s : Bytes) (a : Nat) : Nat := fixV ((s.drop (a + 4)).take 4)
def frB (s : Bytes) (a : Nat) : Bytes := (s.drop (a + 8)).take (frN s a)
def frameAt (l : Lim) (s : Bytes) (a : Nat) : Int × Int :=
  if l.ok = true ∧ a < s.length then
    if (s.getD a 0).toNat = 181 then
      if a + 1 < s.length ∧ ¬ (s.getD (a + 1) 0).toNat = 70 then (0, 0) else
      if s.length - a < 4 then (1, 0) else if ¬ inn (frN s a) 1 l.frame = true then (0, 0) else if s.length - a < 8 + frN s a then (1, 8 + frN s a) else if frS s a = crc (frB s a) then (3, 8 + frN s a) else (2, 8 + frN s a)
    else (0, 0)
  else (0, 0)
def frameE (p : Int × Int) : List (Bool × List E) := [(false, [.p (.int .i64 p.1)]), (false, [.p (.int .i64 p.2)])]
abbrev n_impl_FrameAt : Nat := 117
def c_impl_FrameAt : AF := ⟨3, 7, [.tmp 6, .tmp 7], (.seq (.ops [.i (.lbox 3 (.s 0)), .i (.mov 6 (.c (.val false [.int .i64 0]))), .i (.mov 7 (.c (.val false [.int .i64 0])))]) (.seq (.seq (.ops [.i (.ldl 15 3 (.s 3) 5 true), .i (.call 17 115 false [(.s 15)]), .i (.not 17 (.s 16)), .i (.mov 18 (.s 17)), .g 18 false 20 (.mov 19 (.s 2)), .g 18 false 21 (.mov 20 (.s 1)), .g 18 false 22 (.len 21 false (.s 20)), .g 18 false 23 (.bin 22 .sub (.s 21) (.c (.val false [.int .i64 1]))), .g 18 false 24 (.call 24 103 false [(.s 19), (.c (.val false [.int .i64 0])), (.s 22)]), .g 18 false 25 (.not 24 (.s 23)), .i (.pick 25 (.s 18) (.c (.val false [.bool true])) (.s 24)), .i (.mov 26 (.s 25)), .g 26 false 28 (.mov 27 (.s 1)), .g 26 false 29 (.mov 28 (.s 2)), .g 26 false 30 (.iad 29 (.s 27) (.s 28) 1), .g 26 false 31 (.ldh 30 (.s 29) 1 false), .g 26 false 32 (.bin 31 .neq (.s 30) (.c (.val false [.int .u8 181]))), .i (.pick 32 (.s 26) (.c (.val false [.bool true])) (.s 31)), .i (.mov 33 (.s 32)), .g 33 false 35 (.mov 34 (.s 1)), .g 33 false 36 (.len 35 false (.s 34)), .g 33 false 37 (.mov 36 (.s 2)), .g 33 false 38 (.bin 37 .sub (.s 35) (.s 36)), .g 33 false 39 (.bin 38 .gtr (.s 37) (.c (.val false [.int .i64 1]))), .g 33 false 40 (.mov 39 (.s 38)), .g 39 true 41 (.mov 40 (.s 1)), .g 39 true 42 (.mov 41 (.s 2)), .g 39 true 43 (.bin 42 .add (.s 41) (.c (.val false [.int .i64 1]))), .g 39 true 44 (.iad 43 (.s 40) (.s 42) 1), .g 39 true 45 (.ldh 44 (.s 43) 1 false), .g 39 true 46 (.bin 45 .neq (.s 44) (.c (.val false [.int .u8 70]))), .g 33 false 47 (.pick 46 (.s 39) (.s 45) (.c (.val false [.bool false]))), .i (.pick 47 (.s 33) (.c (.val false [.bool true])) (.s 46))]) (.cond (.s 47) (.seq (.ops [.i (.mov 6 (.c (.val false [.int .i64 0]))), .i (.mov 7 (.c (.val false [.int .i64 0])))]) .ret) .skip)) (.seq (.ops [.i (.mov 48 (.s 1)), .i (.len 49 false (.s 48)), .i (.mov 50 (.s 2)), .i (.bin 51 .sub (.s 49) (.s 50)), .i (.mov 8 (.s 51))]) (.seq (.seq (.ops [.i (.mov 52 (.s 8)), .i (.bin 53 .lss (.s 52) (.c (.val false [.int .i64 4])))]) (.cond (.s 53) (.seq (.ops [.i (.mov 6 (.c (.val false [.int .i64 1]))), .i (.mov 7 (.c (.val false [.int .i64 0])))]) .ret) .skip)) (.seq (.ops [.i (.mov 55 (.s 1)), .i (.mov 56 (.s 2)), .i (.bin 57 .add (.s 56) (.c (.val false [.int .i64 2]))), .i (.call 59 142 false [(.s 55), (.s 57), (.c (.val false [.int .i64 2]))]), .i (.mov 54 (.s 58)), .i (.ext 59 (.s 54) 0), .i (.ext 60 (.s 54) 1), .i (.ext 61 (.s 54) 2), .i (.mov 9 (.s 59)), .i (.mov 10 (.s 60)), .i (.mov 11 (.s 61))]) (.seq (.block 0 (.seq (.ops [.i (.mov 63 (.s 9)), .i (.fad 64 (.s 3) 3), .i (.ldl 65 3 (.s 64) 1 false), .i (.call 67 103 false [(.s 63), (.c (.val false [.int .i64 1])), (.s 65)]), .i (.not 67 (.s 66)), .i (.mov 62 (.s 67))]) (.cond (.s 62) (.seq (.ops [.i (.mov 6 (.c (.val false [.int .i64 0]))), .i (.mov 7 (.c (.val false [.int .i64 0])))]) .ret) (.seq (.ops [.i (.mov 69 (.s 8)), .i (.mov 70 (.s 9)), .i (.bin 71 .add (.c (.val false [.int .i64 8])) (.s 70)), .i (.bin 72 .lss (.s 69) (.s 71)), .i (.mov 68 (.s 72))]) (.cond (.s 68) (.seq (.ops [.i (.mov 73 (.s 9)), .i (.bin 74 .add (.c (.val false [.int .i64 8])) (.s 73)), .i (.mov 6 (.c (.val false [.int .i64 1]))), .i (.mov 7 (.s 74))]) .ret) .skip))))) (.seq (.ops [.i (.mov 76 (.s 1)), .i (.mov 77 (.s 2)), .i (.bin 78 .add (.s 77) (.c (.val false [.int .i64 4]))), .i (.call 80 142 false [(.s 76), (.s 78), (.c (.val false [.int .i64 4]))]), .i (.mov 75 (.s 79)), .i (.ext 80 (.s 75) 0), .i (.ext 81 (.s 75) 1), .i (.ext 82 (.s 75) 2), .i (.mov 12 (.s 80)), .i (.mov 13 (.s 81)), .i (.mov 14 (.s 82))]) (.seq (.seq (.ops [.i (.mov 83 (.s 12)), .i (.mov 84 (.s 1)), .i (.mov 85 (.s 2)), .i (.bin 86 .add (.s 85) (.c (.val false [.int .i64 8]))), .i (.mov 87 (.s 2)), .i (.bin 88 .add (.s 87) (.c (.val false [.int .i64 8]))), .i (.mov 89 (.s 9)), .i (.bin 90 .add (.s 88) (.s 89)), .i (.slc 91 1 (.s 84) (some (.s 86)) (some (.s 90))), .i (.call 93 143 false [(.s 91)]), .i (.bin 93 .neq (.s 83) (.s 92))]) (.cond (.s 93) (.seq (.ops [.i (.mov 94 (.s 9)), .i (.bin 95 .add (.c (.val false [.int .i64 8])) (.s 94)), .i (.mov 6 (.c (.val false [.int .i64 2]))), .i (.mov 7 (.s 95))]) .ret) .skip)) (.seq (.ops [.i (.mov 96 (.s 9)), .i (.bin 97 .add (.c (.val false [.int .i64 8])) (.s 96)), .i (.mov 6 (.c (.val false [.int .i64 3]))), .i (.mov 7 (.s 97))]) .ret)))))))))⟩
theorem k_impl_FrameAt : cd n_impl_FrameAt = some c_impl_FrameAt := by kernel_rfl
theorem impl_FrameAt_ok (l : Lim) (s : Bytes) (a : Nat) (hs : s.length ≤ 1073741824) (ha : a ≤ 1073741824) : VC cd n_impl_FrameAt (mkP [(true, l.c), (false, [.sl (bytes s)]), (false, [.int .i64 (a : Int)])]) (fun rs _ => rs = frameE (frameAt l s a)) := by
  refine VC_enter k_impl_FrameAt rfl ?_
  simp (disch := omega) [c_impl_FrameAt, Lim.c, VE, VXR, VP, VB, VTup, kof, bl, it]
  refine VXC_e (impl_LimitsOk_ok l) rfl rfl ?_
  simp (disch := omega) [VE, VXR, VP, VB, VTup, kof, bl, it]
  refine VXB_b (fun h0 => ?_) (fun h0 => ?_)
  case refine_2 => simp (disch := omega) [h0, frameAt, frameE, VE, VXR, VP, VB, VTup, kof, bl, it]
  simp (disch := omega) [h0, VE, VXR, VP, VB, VTup, kof, bl, it]
  refine VXC_e (within_ok _ _ _) rfl rfl ?_
  simp (disch := omega) [VE, VXR, VP, VB, VTup, kof, bl, it]
  cases h1 : inn (a : Int) 0 ((s.length : Int) - 1) with
  | false =>
    have h2 := inn_f h1
    have h3 : ¬ a < s.length := by omega
    simp (disch := omega) [h0, h3, frameAt, frameE, VE, VXR, VP, VB, VTup, kof, bl, it]
  | true =>
    have h2 := inn_t h1
    have h3 : a < s.length := by omega
    simp (disch := omega) [bytes_get h3, VE, VXR, VP, VB, VTup, kof, bl, it]
    refine VXB_dec (fun h4 => ?_) (fun h4 => ?_)
    case refine_2 =>
      have h4n : ¬ s[a].toNat = 181 := by omega
      simp (disch := omega) [h4, h4n, h0, h3, frameAt, frameE, VE, VXR, VP, VB, VTup, kof, bl, it]
    have h4n : s[a].toNat = 181 := by omega
    have key : ∀ (hc : a + 1 < s.length → s[a + 1]?.getD 0 = 70), frameAt l s a = if s.length - a < 4 then (1, 0) else if ¬ inn (frN s a) 1 l.frame = true then (0, 0) else if s.length - a < 8 + frN s a then (1, 8 + (frN s a : Int)) else if frS s a = crc (frB s a) then (3, 8 + (frN s a : Int)) else (2, 8 + (frN s a : Int)) := by
      intro hc
      have : ¬ (a + 1 < s.length ∧ ¬ (s.getD (a + 1) 0).toNat = 70) := fun h => by
        refine h.2 ?_
        rw [List.getD_eq_getElem?_getD, hc h.1]
        rfl
      unfold frameAt
      have hg : s.getD a 0 = s[a] := by simp [List.getD, h3]
      rw [if_pos ⟨h0, h3⟩, hg, if_pos h4n, if_neg this]
    simp (disch := omega) [h4, VE, VXR, VP, VB, VTup, kof, bl, it]
    refine VXB_dec (fun h5 => ?_) (fun h5 => ?_)
    · have h5n : a + 1 < s.length := by omega
      have e5 : ((a : Int) + 1).toNat = a + 1 := by omega
      have e50 : (0 : Int) ≤ (a : Int) + 1 := by omega
      simp (disch := omega) [h4, h5, e5, e50, bytes_get h5n, VE, VXR, VP, VB, VTup, kof, bl, it]
      refine VXB_dec (fun h6 => ?_) (fun h6 => ?_)
      case refine_2 =>
        have h6n : ¬ s[a + 1].toNat = 70 := by omega
        simp (disch := omega) [h4, h5, h6, h6n, h5n, h0, h3, h4n, frameAt, frameE, VE, VXR, VP, VB, VTup, kof, bl, it]
      have h6n : s[a + 1]?.getD 0 = 70 := by
        simp only [List.getElem?_eq_getElem h5n, Option.getD_some]
        exact UInt8.toNat_inj.1 (by have : (70 : UInt8).toNat = 70 := rfl; omega)
      rw [key (fun _ => h6n)]
      simp (disch := omega) [h4, h5, h6, VE, VXR, VP, VB, VTup, kof, bl, it]
      refine VXB_dec (fun h8 => ?_) (fun h8 => ?_)
      · have h8n : s.length - a < 4 := by omega
        simp (disch := omega) [h8, h8n, frameE, VE, VXR, VP, VB, VTup, kof, bl, it]
      have h8n : ¬ s.length - a < 4 := by omega
      have hl : fixV ((s.drop (a + 2)).take 2) < 65536 := by
        have := fixV_lt ((s.drop (a + 2)).take 2)
        rw [win_len (by omega)] at this
        exact this
      simp (disch := omega) [h8, VE, VXR, VP, VB, VTup, kof, bl, it]
      refine VXC_e (impl_GetFix_ok s (a + 2) 2 (by omega) (by omega) (by omega)) (by first | rfl | (simp [argsD, argDs, argD, St.slc, lk_cons, lk] <;> first | rfl | exact ⟨rfl, rfl⟩ | exact ⟨rfl, rfl, rfl⟩)) rfl ?_
      simp (disch := omega) [VE, VXR, VP, VB, VTup, kof, bl, it]
      refine VXC_e (within_ok _ _ _) rfl rfl ?_
      simp (disch := omega) [VE, VXR, VP, VB, VTup, kof, bl, it]
      refine VXB_b (fun h9 => ?_) (fun h9 => ?_)
      case refine_2 => simp (disch := omega) [h8n, frN, h9, frameE, VE, VXR, VP, VB, VTup, kof, bl, it]
      have h9t := inn_t h9
      simp (disch := omega) [h9, VE, VXR, VP, VB, VTup, kof, bl, it]
      refine VXB_dec (fun h10 => ?_) (fun h10 => ?_)
      · have h10n : s.length - a < 8 + fixV ((s.drop (a + 2)).take 2) := by omega
        simp (disch := omega) [h8n, frN, h9, h10, h10n, frameE, VE, VXR, VP, VB, VTup, kof, bl, it]
      have h10n : ¬ s.length - a < 8 + fixV ((s.drop (a + 2)).take 2) := by omega
      simp (disch := omega) [h10, VE, VXR, VP, VB, VTup, kof, bl, it]
      refine VXC_e (impl_GetFix_ok s (a + 4) 4 (by omega) (by omega) (by omega)) (by first | rfl | (simp [argsD, argDs, argD, St.slc, lk_cons, lk] <;> first | rfl | exact ⟨rfl, rfl⟩ | exact ⟨rfl, rfl, rfl⟩)) rfl ?_
      have e6 : ((bytes s).drop (a + 8)).take (fixV ((s.drop (a + 2)).take 2)) = bytes (frB s a) := by simp [bytes, frB, frN]
      have e7 : ((a : Int) + 8).toNat = a + 8 := by omega
      have e8 : ((a : Int) + 8 + (fixV ((s.drop (a + 2)).take 2) : Int) - ((a : Int) + 8)).toNat = fixV ((s.drop (a + 2)).take 2) := by omega
      have e9 : (a : Int) + 8 ≤ (a : Int) + 8 + (fixV ((s.drop (a + 2)).take 2) : Int) := by omega
      have e10 : (a : Int) + 8 + (fixV ((s.drop (a + 2)).take 2) : Int) ≤ (s.length : Int) := by omega
      have e11 : (0 : Int) ≤ (a : Int) + 8 := by omega
      simp (disch := omega) [e6, e7, e8, e9, e10, e11, wid_bytes, VE, VXR, VP, VB, VTup, kof, bl, it]
      refine VXC_e (impl_Crc_ok (frB s a) (by simp [frB]; omega)) (by first | rfl | (simp [argsD, argDs, argD, St.slc, lk_cons, lk] <;> first | rfl | exact ⟨rfl, rfl⟩ | exact ⟨rfl, rfl, rfl⟩)) rfl ?_
      simp (disch := omega) [VE, VXR, VP, VB, VTup, kof, bl, it]
      refine VXB_dec (fun h11 => ?_) (fun h11 => ?_)
      · have h11n : frS s a = crc (frB s a) := by unfold frS; omega
        simp (disch := omega) [h11, h8n, frN, h9, h10n, h11n, frameE, VE, VXR, VP, VB, VTup, kof, bl, it]
      · have h11n : ¬ frS s a = crc (frB s a) := by unfold frS; omega
        simp (disch := omega) [h11, h8n, frN, h9, h10n, h11n, frameE, VE, VXR, VP, VB, VTup, kof, bl, it]
    · rw [key (fun h => by omega)]
      have h7 : s.length - a < 4 := by omega
      have h7i : (s.length : Int) - (a : Int) < 4 := by omega
      simp (disch := omega) [h4, h5, h7, h7i, frameE, VE, VXR, VP, VB, VTup, kof, bl, it]
abbrev n_spec_FrameAt : Nat := 108
def c_spec_FrameAt : AF := ⟨3, 7, [.tmp 6, .tmp 7], (.seq (.ops [.i (.lbox 3 (.s 0)), .i (.mov 6 (.c (.val false [.int .i64 0]))), .i (.mov 7 (.c (.val false [.int .i64 0])))]) (.seq (.seq (.ops [.i (.ldl 14 3 (.s 3) 5 true), .i (.call 16 100 false [(.s 14)]), .i (.not 16 (.s 15)), .i (.mov 17 (.s 16)), .g 17 false 19 (.mov 18 (.s 2)), .g 17 false 20 (.mov 19 (.s 1)), .g 17 false 21 (.len 20 false (.s 19)), .g 17 false 22 (.bin 21 .sub (.s 20) (.c (.val false [.int .i64 1]))), .g 17 false 23 (.call 23 101 false [(.s 18), (.c (.val false [.int .i64 0])), (.s 21)]), .g 17 false 24 (.not 23 (.s 22)), .i (.pick 24 (.s 17) (.c (.val false [.bool true])) (.s 23)), .i (.mov 25 (.s 24)), .g 25 false 27 (.mov 26 (.s 1)), .g 25 false 28 (.mov 27 (.s 2)), .g 25 false 29 (.iad 28 (.s 26) (.s 27) 1), .g 25 false 30 (.ldh 29 (.s 28) 1 false), .g 25 false 31 (.bin 30 .neq (.s 29) (.c (.val false [.int .u8 181]))), .i (.pick 31 (.s 25) (.c (.val false [.bool true])) (.s 30)), .i (.mov 32 (.s 31)), .g 32 false 34 (.mov 33 (.s 2)), .g 32 false 35 (.bin 34 .add (.s 33) (.c (.val false [.int .i64 1]))), .g 32 false 36 (.mov 35 (.s 1)), .g 32 false 37 (.len 36 false (.s 35)), .g 32 false 38 (.bin 37 .lss (.s 34) (.s 36)), .g 32 false 39 (.mov 38 (.s 37)), .g 38 true 40 (.mov 39 (.s 1)), .g 38 true 41 (.mov 40 (.s 2)), .g 38 true 42 (.bin 41 .add (.s 40) (.c (.val false [.int .i64 1]))), .g 38 true 43 (.iad 42 (.s 39) (.s 41) 1), .g 38 true 44 (.ldh 43 (.s 42) 1 false), .g 38 true 45 (.bin 44 .neq (.s 43) (.c (.val false [.int .u8 70]))), .g 32 false 46 (.pick 45 (.s 38) (.s 44) (.c (.val false [.bool false]))), .i (.pick 46 (.s 32) (.c (.val false [.bool true])) (.s 45))]) (.cond (.s 46) (.seq (.ops [.i (.mov 6 (.c (.val false [.int .i64 0]))), .i (.mov 7 (.c (.val false [.int .i64 0])))]) .ret) .skip)) (.seq (.seq (.ops [.i (.mov 47 (.s 1)), .i (.len 48 false (.s 47)), .i (.mov 49 (.s 2)), .i (.bin 50 .sub (.s 48) (.s 49)), .i (.bin 51 .lss (.s 50) (.c (.val false [.int .i64 4])))]) (.cond (.s 51) (.seq (.ops [.i (.mov 6 (.c (.val false [.int .i64 1]))), .i (.mov 7 (.c (.val false [.int .i64 0])))]) .ret) .skip)) (.seq (.ops [.i (.mov 53 (.s 1)), .i (.mov 54 (.s 2)), .i (.bin 55 .add (.s 54) (.c (.val false [.int .i64 2]))), .i (.call 57 140 false [(.s 53), (.s 55), (.c (.val false [.int .i64 2]))]), .i (.mov 52 (.s 56)), .i (.ext 57 (.s 52) 0), .i (.ext 58 (.s 52) 1), .i (.ext 59 (.s 52) 2), .i (.mov 8 (.s 57)), .i (.mov 9 (.s 58)), .i (.mov 10 (.s 59))]) (.seq (.seq (.ops [.i (.mov 60 (.s 8)), .i (.fad 61 (.s 3) 3), .i (.ldl 62 3 (.s 61) 1 false), .i (.call 64 101 false [(.s 60), (.c (.val false [.int .i64 1])), (.s 62)]), .i (.not 64 (.s 63))]) (.cond (.s 64) (.seq (.ops [.i (.mov 6 (.c (.val false [.int .i64 0]))), .i (.mov 7 (.c (.val false [.int .i64 0])))]) .ret) .skip)) (.seq (.seq (.ops [.i (.mov 65 (.s 1)), .i (.len 66 false (.s 65)), .i (.mov 67 (.s 2)), .i (.bin 68 .sub (.s 66) (.s 67)), .i (.mov 69 (.s 8)), .i (.bin 70 .add (.c (.val false [.int .i64 8])) (.s 69)), .i (.bin 71 .lss (.s 68) (.s 70))]) (.cond (.s 71) (.seq (.ops [.i (.mov 72 (.s 8)), .i (.bin 73 .add (.c (.val false [.int .i64 8])) (.s 72)), .i (.mov 6 (.c (.val false [.int .i64 1]))), .i (.mov 7 (.s 73))]) .ret) .skip)) (.seq (.ops [.i (.mov 75 (.s 1)), .i (.mov 76 (.s 2)), .i (.bin 77 .add (.s 76) (.c (.val false [.int .i64 4]))), .i (.call 79 140 false [(.s 75), (.s 77), (.c (.val false [.int .i64 4]))]), .i (.mov 74 (.s 78)), .i (.ext 79 (.s 74) 0), .i (.ext 80 (.s 74) 1), .i (.ext 81 (.s 74) 2), .i (.mov 11 (.s 79)), .i (.mov 12 (.s 80)), .i (.mov 13 (.s 81))]) (.seq (.seq (.ops [.i (.mov 82 (.s 11)), .i (.mov 83 (.s 1)), .i (.mov 84 (.s 2)), .i (.bin 85 .add (.s 84) (.c (.val false [.int .i64 8]))), .i (.mov 86 (.s 2)), .i (.bin 87 .add (.s 86) (.c (.val false [.int .i64 8]))), .i (.mov 88 (.s 8)), .i (.bin 89 .add (.s 87) (.s 88)), .i (.slc 90 1 (.s 83) (some (.s 85)) (some (.s 89))), .i (.call 92 141 false [(.s 90)]), .i (.bin 92 .neq (.s 82) (.s 91))]) (.cond (.s 92) (.seq (.ops [.i (.mov 93 (.s 8)), .i (.bin 94 .add (.c (.val false [.int .i64 8])) (.s 93)), .i (.mov 6 (.c (.val false [.int .i64 2]))), .i (.mov 7 (.s 94))]) .ret) .skip)) (.seq (.ops [.i (.mov 95 (.s 8)), .i (.bin 96 .add (.c (.val false [.int .i64 8])) (.s 95)), .i (.mov 6 (.c (.val false [.int .i64 3]))), .i (.mov 7 (.s 96))]) .ret)))))))))⟩
theorem k_spec_FrameAt : cd n_spec_FrameAt = some c_spec_FrameAt := by kernel_rfl
theorem spec_FrameAt_ok (l : Lim) (s : Bytes) (a : Nat) (hs : s.length ≤ 1073741824) (ha : a ≤ 1073741824) : VC cd n_spec_FrameAt (mkP [(true, l.c), (false, [.sl (bytes s)]), (false, [.int .i64 (a : Int)])]) (fun rs _ => rs = frameE (frameAt l s a)) := by
  refine VC_enter k_spec_FrameAt rfl ?_
  simp (disch := omega) [c_spec_FrameAt, Lim.c, VE, VXR, VP, VB, VTup, kof, bl, it]
  refine VXC_e (spec_LimitsOk_ok l) rfl rfl ?_
  simp (disch := omega) [VE, VXR, VP, VB, VTup, kof, bl, it]
  refine VXB_b (fun h0 => ?_) (fun h0 => ?_)
  case refine_2 => simp (disch := omega) [h0, frameAt, frameE, VE, VXR, VP, VB, VTup, kof, bl, it]
  simp (disch := omega) [h0, VE, VXR, VP, VB, VTup, kof, bl, it]
  refine VXC_e (l01In_ok _ _ _) rfl rfl ?_
  simp (disch := omega) [VE, VXR, VP, VB, VTup, kof, bl, it]
  cases h1 : inn (a : Int) 0 ((s.length : Int) - 1) with
  | false =>
    have h2 := inn_f h1
    have h3 : ¬ a < s.length := by omega
    simp (disch := omega) [h0, h3, frameAt, frameE, VE, VXR, VP, VB, VTup, kof, bl, it]
  | true =>
    have h2 := inn_t h1
    have h3 : a < s.length := by omega
    simp (disch := omega) [bytes_get h3, VE, VXR, VP, VB, VTup, kof, bl, it]
    refine VXB_dec (fun h4 => ?_) (fun h4 => ?_)
    case refine_2 =>
      have h4n : ¬ s[a].toNat = 181 := by omega
      simp (disch := omega) [h4, h4n, h0, h3, frameAt, frameE, VE, VXR, VP, VB, VTup, kof, bl, it]
    have h4n : s[a].toNat = 181 := by omega
    have key : ∀ (hc : a + 1 < s.length → s[a + 1]?.getD 0 = 70), frameAt l s a = if s.length - a < 4 then (1, 0) else if ¬ inn (frN s a) 1 l.frame = true then (0, 0) else if s.length - a < 8 + frN s a then (1, 8 + (frN s a : Int)) else if frS s a = crc (frB s a) then (3, 8 + (frN s a : Int)) else (2, 8 + (frN s a : Int)) := by
      intro hc
      have : ¬ (a + 1 < s.length ∧ ¬ (s.getD (a + 1) 0).toNat = 70) := fun h => by
        refine h.2 ?_
        rw [List.getD_eq_getElem?_getD, hc h.1]
        rfl
      unfold frameAt
      have hg : s.getD a 0 = s[a] := by simp [List.getD, h3]
      rw [if_pos ⟨h0, h3⟩, hg, if_pos h4n, if_neg this]
    simp (disch := omega) [h4, VE, VXR, VP, VB, VTup, kof, bl, it]
    refine VXB_dec (fun h5 => ?_) (fun h5 => ?_)
    · have h5n : a + 1 < s.length := by omega
      have e5 : ((a : Int) + 1).toNat = a + 1 := by omega
      have e50 : (0 : Int) ≤ (a : Int) + 1 := by omega
      simp (disch := omega) [h4, h5, e5, e50, bytes_get h5n, VE, VXR, VP, VB, VTup, kof, bl, it]
      refine VXB_dec (fun h6 => ?_) (fun h6 => ?_)
      case refine_2 =>
        have h6n : ¬ s[a + 1].toNat = 70 := by omega
        simp (disch := omega) [h4, h5, h6, h6n, h5n, h0, h3, h4n, frameAt, frameE, VE, VXR, VP, VB, VTup, kof, bl, it]
      have h6n : s[a + 1]?.getD 0 = 70 := by
        simp only [List.getElem?_eq_getElem h5n, Option.getD_some]
        exact UInt8.toNat_inj.1 (by have : (70 : UInt8).toNat = 70 := rfl; omega)
      rw [key (fun _ => h6n)]
      simp (disch := omega) [h4, h5, h6, VE, VXR, VP, VB, VTup, kof, bl, it]
      refine VXB_dec (fun h8 => ?_) (fun h8 => ?_)
      · have h8n : s.length - a < 4 := by omega
        simp (disch := omega) [h8, h8n, frameE, VE, VXR, VP, VB, VTup, kof, bl, it]
      have h8n : ¬ s.length - a < 4 := by omega
      have hl : fixV ((s.drop (a + 2)).take 2) < 65536 := by
        have := fixV_lt ((s.drop (a + 2)).take 2)
        rw [win_len (by omega)] at this
        exact this
      simp (disch := omega) [h8, VE, VXR, VP, VB, VTup, kof, bl, it]
      refine VXC_e (spec_GetFix_ok s (a + 2) 2 (by omega) (by omega) (by omega)) (by first | rfl | (simp [argsD, argDs, argD, St.slc, lk_cons, lk] <;> first | rfl | exact ⟨rfl, rfl⟩ | exact ⟨rfl, rfl, rfl⟩)) rfl ?_
      simp (disch := omega) [VE, VXR, VP, VB, VTup, kof, bl, it]
      refine VXC_e (l01In_ok _ _ _) rfl rfl ?_
      simp (disch := omega) [VE, VXR, VP, VB, VTup, kof, bl, it]
      refine VXB_b (fun h9 => ?_) (fun h9 => ?_)
      case refine_2 => simp (disch := omega) [h8n, frN, h9, frameE, VE, VXR, VP, VB, VTup, kof, bl, it]
      have h9t := inn_t h9
      simp (disch := omega) [h9, VE, VXR, VP, VB, VTup, kof, bl, it]
      refine VXB_dec (fun h10 => ?_) (fun h10 => ?_)
      · have h10n : s.length - a < 8 + fixV ((s.drop (a + 2)).take 2) := by omega
        simp (disch := omega) [h8n, frN, h9, h10, h10n, frameE, VE, VXR, VP, VB, VTup, kof, bl, it]
      have h10n : ¬ s.length - a < 8 + fixV ((s.drop (a + 2)).take 2) := by omega
      simp (disch := omega) [h10, VE, VXR, VP, VB, VTup, kof, bl, it]
      refine VXC_e (spec_GetFix_ok s (a + 4) 4 (by omega) (by omega) (by omega)) (by first | rfl | (simp [argsD, argDs, argD, St.slc, lk_cons, lk] <;> first | rfl | exact ⟨rfl, rfl⟩ | exact ⟨rfl, rfl, rfl⟩)) rfl ?_
      have e6 : ((bytes s).drop (a + 8)).take (fixV ((s.drop (a + 2)).take 2)) = bytes (frB s a) := by simp [bytes, frB, frN]
      have e7 : ((a : Int) + 8).toNat = a + 8 := by omega
      have e8 : ((a : Int) + 8 + (fixV ((s.drop (a + 2)).take 2) : Int) - ((a : Int) + 8)).toNat = fixV ((s.drop (a + 2)).take 2) := by omega
      have e9 : (a : Int) + 8 ≤ (a : Int) + 8 + (fixV ((s.drop (a + 2)).take 2) : Int) := by omega
      have e10 : (a : Int) + 8 + (fixV ((s.drop (a + 2)).take 2) : Int) ≤ (s.length : Int) := by omega
      have e11 : (0 : Int) ≤ (a : Int) + 8 := by omega
      simp (disch := omega) [e6, e7, e8, e9, e10, e11, wid_bytes, VE, VXR, VP, VB, VTup, kof, bl, it]
      refine VXC_e (spec_Crc_ok (frB s a) (by simp [frB]; omega)) (by first | rfl | (simp [argsD, argDs, argD, St.slc, lk_cons, lk] <;> first | rfl | exact ⟨rfl, rfl⟩ | exact ⟨rfl, rfl, rfl⟩)) rfl ?_
      simp (disch := omega) [VE, VXR, VP, VB, VTup, kof, bl, it]
      refine VXB_dec (fun h11 => ?_) (fun h11 => ?_)
      · have h11n : frS s a = crc (frB s a) := by unfold frS; omega
        simp (disch := omega) [h11, h8n, frN, h9, h10n, h11n, frameE, VE, VXR, VP, VB, VTup, kof, bl, it]
      · have h11n : ¬ frS s a = crc (frB s a) := by unfold frS; omega
        simp (disch := omega) [h11, h8n, frN, h9, h10n, h11n, frameE, VE, VXR, VP, VB, VTup, kof, bl, it]
    · rw [key (fun h => by omega)]
      have h7 : s.length - a < 4 := by omega
      have h7i : (s.length : Int) - (a : Int) < 4 := by omega
      simp (disch := omega) [h4, h5, h7, h7i, frameE, VE, VXR, VP, VB, VTup, kof, bl, it]
/-! ### Scans -/
structure Push where
  skip : Int
  buf : Bytes
def Push.c (p : Push) : List D := [.int .i64 p.skip, .sl (bytes p.buf)]
def pushOk (l : Lim) (p : Push) : Bool := l.ok && isNum p.skip && (decide (p.buf = []) || decide ((frameAt l p.buf 0).1 = 1))
abbrev n_impl_PushOk : Nat := 77
def c_impl_PushOk : AF := ⟨2, 5, [.tmp 4], (.seq (.ops [.i (.lbox 2 (.s 0)), .i (.lbox 3 (.s 1)), .i (.mov 4 (.c (.val false [.bool false])))]) (.seq (.ops [.i (.ldl 8 2 (.s 2) 5 true), .i (.fad 9 (.s 3) 1), .i (.ldl 10 3 (.s 9) 1 false), .i (.call 12 117 false [(.s 8), (.s 10), (.c (.val false [.int .i64 0]))]), .i (.mov 7 (.s 11)), .i (.ext 12 (.s 7) 0), .i (.ext 13 (.s 7) 1), .i (.mov 5 (.s 12)), .i (.mov 6 (.s 13))]) (.seq (.ops [.i (.ldl 14 2 (.s 2) 5 true), .i (.call 16 115 false [(.s 14)]), .i (.mov 16 (.s 15)), .g 16 true 18 (.fad 17 (.s 3) 0), .g 16 true 19 (.ldl 18 3 (.s 17) 1 false), .g 16 true 20 (.call 20 112 false [(.s 18)]), .i (.pick 20 (.s 16) (.s 19) (.c (.val false [.bool false]))), .i (.mov 21 (.s 20)), .g 21 true 23 (.fad 22 (.s 3) 1), .g 21 true 24 (.ldl 23 3 (.s 22) 1 false), .g 21 true 25 (.len 24 false (.s 23)), .g 21 true 26 (.bin 25 .eql (.s 24) (.c (.val false [.int .i64 0]))), .g 21 true 27 (.mov 26 (.s 25)), .g 26 false 28 (.mov 27 (.s 5)), .g 26 false 29 (.bin 28 .eql (.s 27) (.c (.val false [.int .i64 1]))), .g 21 true 30 (.pick 29 (.s 26) (.c (.val false [.bool true])) (.s 28)), .i (.pick 30 (.s 21) (.s 29) (.c (.val false [.bool false]))), .i (.mov 4 (.s 30))]) .ret)))⟩
theorem k_impl_PushOk : cd n_impl_PushOk = some c_impl_PushOk := by kernel_rfl
theorem impl_PushOk_ok (l : Lim) (p : Push) (hb : p.buf.length ≤ 1073741824) : VC cd n_impl_PushOk (mkP [(true, l.c), (true, p.c)]) (fun rs _ => rs = bl (pushOk l p)) := by
  refine VC_enter k_impl_PushOk rfl ?_
  simp (disch := omega) [c_impl_PushOk, Lim.c, Push.c, VE, VXR, VP, VB, VTup, kof, bl, it]
  refine VXC_e (impl_FrameAt_ok l p.buf 0 hb (by omega)) (by first | rfl | (simp [argsD, argDs, argD, St.slc, lk_cons, lk] <;> first | rfl | exact ⟨rfl, rfl⟩ | exact ⟨rfl, rfl, rfl⟩)) rfl ?_
  simp (disch := omega) [frameE, VE, VXR, VP, VB, VTup, kof, bl, it]
  refine VXC_e (impl_LimitsOk_ok l) rfl rfl ?_
  simp (disch := omega) [VE, VXR, VP, VB, VTup, kof, bl, it]
  refine VXB_b (fun h0 => ?_) (fun h0 => ?_) <;> simp (disch := omega) [h0, pushOk, VE, VXR, VP, VB, VTup, kof, bl, it]
  refine VXC_e (isNum_ok _) rfl rfl ?_
  simp (disch := omega) [h0, VE, VXR, VP, VB, VTup, kof, bl, it]
  refine VXB_b (fun h1 => ?_) (fun h1 => ?_) <;> simp (disch := omega) [h0, h1, VE, VXR, VP, VB, VTup, kof, bl, it]
  refine VXB_dec (fun h2 => ?_) (fun h2 => ?_)
  · simp (disch := omega) [h0, h1, h2, VE, VXR, VP, VB, VTup, kof, bl, it]
  · simp (disch := omega) [h0, h1, h2, VE, VXR, VP, VB, VTup, kof, bl, it]
abbrev n_spec_PushOk : Nat := 72
def c_spec_PushOk : AF := ⟨2, 5, [.tmp 4], (.seq (.ops [.i (.lbox 2 (.s 0)), .i (.lbox 3 (.s 1)), .i (.mov 4 (.c (.val false [.bool false])))]) (.seq (.seq (.ops [.i (.ldl 7 2 (.s 2) 5 true), .i (.call 9 100 false [(.s 7)]), .i (.not 9 (.s 8)), .i (.mov 10 (.s 9)), .g 10 false 12 (.fad 11 (.s 3) 0), .g 10 false 13 (.ldl 12 3 (.s 11) 1 false), .g 10 false 14 (.call 14 107 false [(.s 12)]), .g 10 false 15 (.not 14 (.s 13)), .i (.pick 15 (.s 10) (.c (.val false [.bool true])) (.s 14))]) (.cond (.s 15) (.seq (.ops [.i (.mov 4 (.c (.val false [.bool false])))]) .ret) .skip)) (.seq (.ops [.i (.ldl 17 2 (.s 2) 5 true), .i (.fad 18 (.s 3) 1), .i (.ldl 19 3 (.s 18) 1 false), .i (.call 21 108 false [(.s 17), (.s 19), (.c (.val false [.int .i64 0]))]), .i (.mov 16 (.s 20)), .i (.ext 21 (.s 16) 0), .i (.ext 22 (.s 16) 1), .i (.mov 5 (.s 21)), .i (.mov 6 (.s 22))]) (.seq (.ops [.i (.fad 23 (.s 3) 1), .i (.ldl 24 3 (.s 23) 1 false), .i (.len 25 false (.s 24)), .i (.bin 26 .eql (.s 25) (.c (.val false [.int .i64 0]))), .i (.mov 27 (.s 26)), .g 27 false 29 (.mov 28 (.s 5)), .g 27 false 30 (.bin 29 .eql (.s 28) (.c (.val false [.int .i64 1]))), .i (.pick 30 (.s 27) (.c (.val false [.bool true])) (.s 29)), .i (.mov 4 (.s 30))]) .ret))))⟩
theorem k_spec_PushOk : cd n_spec_PushOk = some c_spec_PushOk := by kernel_rfl
theorem spec_PushOk_ok (l : Lim) (p : Push) (hb : p.buf.length ≤ 1073741824) : VC cd n_spec_PushOk (mkP [(true, l.c), (true, p.c)]) (fun rs _ => rs = bl (pushOk l p)) := by
  refine VC_enter k_spec_PushOk rfl ?_
  simp (disch := omega) [c_spec_PushOk, Lim.c, Push.c, VE, VXR, VP, VB, VTup, kof, bl, it]
  refine VXC_e (spec_LimitsOk_ok l) rfl rfl ?_
  simp (disch := omega) [VE, VXR, VP, VB, VTup, kof, bl, it]
  refine VXB_b (fun h0 => ?_) (fun h0 => ?_)
  case refine_2 => simp (disch := omega) [h0, pushOk, VE, VXR, VP, VB, VTup, kof, bl, it]
  simp (disch := omega) [h0, VE, VXR, VP, VB, VTup, kof, bl, it]
  refine VXC_e (l01Num_ok _) rfl rfl ?_
  simp (disch := omega) [h0, VE, VXR, VP, VB, VTup, kof, bl, it]
  refine VXB_b (fun h1 => ?_) (fun h1 => ?_)
  case refine_2 => simp (disch := omega) [h0, h1, pushOk, VE, VXR, VP, VB, VTup, kof, bl, it]
  simp (disch := omega) [h0, h1, VE, VXR, VP, VB, VTup, kof, bl, it]
  refine VXC_e (spec_FrameAt_ok l p.buf 0 hb (by omega)) (by first | rfl | (simp [argsD, argDs, argD, St.slc, lk_cons, lk] <;> first | rfl | exact ⟨rfl, rfl⟩ | exact ⟨rfl, rfl, rfl⟩)) rfl ?_
  simp (disch := omega) [frameE, VE, VXR, VP, VB, VTup, kof, bl, it]
  refine VXB_dec (fun h2 => ?_) (fun h2 => ?_)
  · simp (disch := omega) [h0, h1, h2, pushOk, VE, VXR, VP, VB, VTup, kof, bl, it]
  · simp (disch := omega) [h0, h1, h2, pushOk, VE, VXR, VP, VB, VTup, kof, bl, it]
end Go.Eng.F
/-
  Functions: light clients, desks.
-/
set_option maxRecDepth 100000
set_option linter.unusedSimpArgs false
set_option linter.unusedVariables false
namespace Go.Eng.F
structure Light where
  l : Lim
  t : Table
  push : Push
  chain : List Head
def Light.c (x : Light) : List D := [.int .i64 x.l.n, .int .i64 x.l.tx, .int .i64 x.l.txs, .int .i64 x.l.frame, .int .i64 x.l.heads, .sl (rws x.t.rows), .int .i64 x.push.skip, .sl (bytes x.push.buf), .sl (hds x.chain)]
def Light.wc (x : Light) : Prop := x.t.wf ∧ x.push.buf.length ≤ 1073741824 ∧ Sz x.chain.length ∧ ∀ h ∈ x.chain, h.wc
def ht (hs : List Head) (i : Nat) : Int := match hs[i]? with | some h => h.height | none => 0
theorem ht_get {hs : List Head} {i : Nat} (h : i < hs.length) : ht hs i = hs[i].height := by simp [ht, h]
def Incr (hs : List Head) : Prop := ∀ i, i + 1 < hs.length → ht hs i < ht hs (i + 1)
noncomputable def incr (hs : List Head) : Bool := @decide (Incr hs) (Classical.propDecidable _)
theorem incr_t {hs : List Head} (h : Incr hs) : incr hs = true := by unfold incr; exact @decide_eq_true _ (Classical.propDecidable _) h
theorem incr_f {hs : List Head} {i : Nat} (hi : i + 1 < hs.length) (h : ht hs (i + 1) ≤ ht hs i) : incr hs = false := by unfold incr; exact @decide_eq_false _ (Classical.propDecidable _) (fun hd => by have := hd i hi; omega)
noncomputable def lightOk (x : Light) : Bool := belongs x.l x.t && pushOk x.l x.push && decide ((x.chain.length : Int) ≤ 8) && headsOk x.l x.chain && incr x.chain
theorem incr_next {hs : List Head} {i : Nat} (h : ∀ j, j + 1 < i → ht hs j < ht hs (j + 1)) (hn : 0 < i → ht hs (i - 1) < ht hs i) : ∀ j, j + 1 < i + 1 → ht hs j < ht hs (j + 1) := fun j hj => by
  rcases Nat.lt_or_ge (j + 1) i with hl | hl
  · exact h j hl
  · obtain rfl : i = j + 1 := by omega
    exact hn (by omega)
abbrev n_impl_LightOk : Nat := 41
def c_impl_LightOk : AF := ⟨1, 6, [.tmp 2], (.seq (.ops [.i (.lbox 1 (.s 0)), .i (.mov 2 (.c (.val false [.bool false])))]) (.seq (.seq (.ops [.i (.fad 5 (.s 1) 8), .i (.ldl 6 1 (.s 5) 1 false), .i (.len 7 false (.s 6)), .i (.mov 8 (.c (.val false [.int .i64 0])))]) (.block 0 (.loop [34, 33, 32, 31, 30, 29, 28, 27, 26, 25, 24, 23, 22, 21, 20, 19, 18, 17, 16, 15, 14, 13, 12, 11, 10, 9, 4, 3] (.seq (.ops [.i (.bin 9 .lss (.s 8) (.s 7))]) (.seq (.cond (.s 9) .skip (.exit 0)) (.seq (.block 1 (.seq (.ops [.i (.mov 10 (.s 8)), .i (.iad 11 (.s 6) (.s 8) 10), .i (.ldh 12 (.s 11) 10 true), .i (.lal 4 [.int .i64 0, .int .i64 0, .int .i64 0, .nils, .nils, .int .i64 0, .int .i64 0, .nils, .nils, .nils]), .i (.mov 3 (.s 10)), .i (.stl 4 (.s 4) (.s 12) 10)]) (.seq (.ops [.i (.fad 13 (.s 1) 0), .i (.ldl 14 1 (.s 13) 5 true), .i (.ldl 15 4 (.s 4) 10 true), .i (.call 17 75 false [(.s 14), (.s 15)]), .i (.not 17 (.s 16)), .i (.mov 18 (.s 17)), .g 18 false 20 (.mov 19 (.s 3)), .g 18 false 21 (.bin 20 .gtr (.s 19) (.c (.val false [.int .i64 0]))), .g 18 false 22 (.mov 21 (.s 20)), .g 21 true 23 (.fad 22 (.s 4) 1), .g 21 true 24 (.ldl 23 4 (.s 22) 1 false), .g 21 true 25 (.fad 24 (.s 1) 8), .g 21 true 26 (.ldl 25 1 (.s 24) 1 false), .g 21 true 27 (.mov 26 (.s 3)), .g 21 true 28 (.bin 27 .sub (.s 26) (.c (.val false [.int .i64 1]))), .g 21 true 29 (.iad 28 (.s 25) (.s 27) 10), .g 21 true 30 (.fad 29 (.s 28) 1), .g 21 true 31 (.ldh 30 (.s 29) 1 false), .g 21 true 32 (.bin 31 .leq (.s 23) (.s 30)), .g 18 false 33 (.pick 32 (.s 21) (.s 31) (.c (.val false [.bool false]))), .i (.pick 33 (.s 18) (.c (.val false [.bool true])) (.s 32))]) (.cond (.s 33) (.seq (.ops [.i (.mov 2 (.c (.val false [.bool false])))]) .ret) .skip)))) (.ops [.i (.bin 34 .add (.s 8) (.c (.val false [.int .i64 1]))), .i (.mov 8 (.s 34))]))))))) (.seq (.ops [.i (.fad 35 (.s 1) 0), .i (.ldl 36 1 (.s 35) 5 true), .i (.fad 37 (.s 1) 5), .i (.ldl 38 1 (.s 37) 1 true), .i (.call 40 76 false [(.s 36), (.s 38)]), .i (.mov 40 (.s 39)), .g 40 true 42 (.fad 41 (.s 1) 0), .g 40 true 43 (.ldl 42 1 (.s 41) 5 true), .g 40 true 44 (.fad 43 (.s 1) 6), .g 40 true 45 (.ldl 44 1 (.s 43) 2 true), .g 40 true 46 (.call 46 77 false [(.s 42), (.s 44)]), .i (.pick 46 (.s 40) (.s 45) (.c (.val false [.bool false]))), .i (.mov 47 (.s 46)), .g 47 true 49 (.fad 48 (.s 1) 8), .g 47 true 50 (.ldl 49 1 (.s 48) 1 false), .g 47 true 51 (.len 50 false (.s 49)), .g 47 true 52 (.bin 51 .leq (.s 50) (.c (.val false [.int .i64 8]))), .i (.pick 52 (.s 47) (.s 51) (.c (.val false [.bool false]))), .i (.mov 2 (.s 52))]) .ret)))⟩
theorem k_impl_LightOk : cd n_impl_LightOk = some c_impl_LightOk := by kernel_rfl
theorem impl_LightOk_ok (x : Light) (hw : x.wc) : VC cd n_impl_LightOk (mkP [(true, x.c)]) (fun rs _ => rs = bl (lightOk x)) := by
  obtain ⟨w1, w2, w3, w4⟩ := hw
  simp only [Sz] at w3
  refine VC_enter k_impl_LightOk rfl ?_
  simp (disch := omega) [c_impl_LightOk, Light.c, hds_len, VE, VXR, VP, VB, VTup, kof, bl, it]
  refine VX_loopO (σ := Nat) (f1 := _) (es0 := _) (by simp (disch := omega) [VE, VXR, VP, VB, VTup, kof, bl, it]; rfl) (by simp (disch := omega) [VE, VXR, VP, VB, VTup, kof, bl, it]; rfl) (fun i => [(8, .val false [.int .i64 (i : Int)])]) (fun _ => []) (fun i g => g + i = x.chain.length ∧ (∀ h ∈ x.chain.take i, headOk x.l h = true) ∧ ∀ j, j + 1 < i → ht x.chain j < ht x.chain (j + 1)) 0 x.chain.length (by simp (disch := omega) [VE, VXR, VP, VB, VTup, kof, bl, it]) (by simp (disch := omega) [VE, VXR, VP, VB, VTup, kof, bl, it]) ⟨by omega, by simp, fun j hj => by omega⟩ ?_
  rintro i n g ⟨hg, hk, hd⟩ P hP
  simp (disch := omega) [VE, VXR, VP, VB, VTup, kof, bl, it]
  refine VXB_dec (fun h1 => ?_) (fun h1 => ?_)
  · have hi : i < x.chain.length := by omega
    have w5 := w4 _ (List.getElem_mem hi)
    simp (disch := omega) [hds_get hi, Head.c, VE, VXR, VP, VB, VTup, kof, bl, it]
    refine VXC_e (impl_HeadOk_ok x.l x.chain[i] w5.1) (by first | rfl | (simp [Lim.c, Head.c, argsD, argDs, argD, St.slc, lk_cons, lk] <;> first | rfl | exact ⟨rfl, rfl⟩ | exact ⟨rfl, rfl, rfl⟩)) rfl ?_
    simp (disch := omega) [VE, VXR, VP, VB, VTup, kof, bl, it]
    refine VXB_b (fun h2 => ?_) (fun h2 => ?_)
    case refine_2 => simp (disch := omega) [h2, lightOk, headsOk_no hi h2, VE, VXR, VP, VB, VTup, kof, bl, it]
    simp (disch := omega) [h2, VE, VXR, VP, VB, VTup, kof, bl, it]
    refine VXB_dec (fun h3 => ?_) (fun h3 => ?_)
    · have hj : i - 1 < x.chain.length := by omega
      have e1 : ((i : Int) - 1).toNat = i - 1 := by omega
      have e2 : (1 : Int) ≤ (i : Int) := by omega
      simp (disch := omega) [h2, h3, e1, e2, hds_get hj, Head.c, VE, VXR, VP, VB, VTup, kof, bl, it]
      refine VXB_dec (fun h4 => ?_) (fun h4 => ?_)
      · have hn := incr_f (hs := x.chain) (i := i - 1) (by omega) (by rw [ht_get (by omega), ht_get (by omega)]; simpa only [show i - 1 + 1 = i by omega] using h4)
        simp (disch := omega) [h2, h3, h4, lightOk, hn, VE, VXR, VP, VB, VTup, kof, bl, it]
      · simp (disch := omega) [h2, h3, h4, VE, VXR, VP, VB, VTup, kof, bl, it]
        exact hP (i + 1) (g - 1) _ _ (by omega) ⟨by omega, take_all hk hi h2, incr_next hd (fun _ => by rw [ht_get hi, ht_get hj]; omega)⟩ (by simp (disch := omega) [VE, VXR, VP, VB, VTup, kof, bl, it]) (by simp (disch := omega) [VE, VXR, VP, VB, VTup, kof, bl, it])
    · simp (disch := omega) [h2, h3, VE, VXR, VP, VB, VTup, kof, bl, it]
      exact hP (i + 1) (g - 1) _ _ (by omega) ⟨by omega, take_all hk hi h2, incr_next hd (fun h => by omega)⟩ (by simp (disch := omega) [VE, VXR, VP, VB, VTup, kof, bl, it]) (by simp (disch := omega) [VE, VXR, VP, VB, VTup, kof, bl, it])
  · have hi : i = x.chain.length := by omega
    subst hi
    have h5 := headsOk_of hk
    have h6 := incr_t (hs := x.chain) hd
    simp (disch := omega) [VE, VXR, VP, VB, VTup, kof, bl, it]
    refine VXC_e (belongs_ok x.l x.t w1) (by first | rfl | (simp [Lim.c, Table.c, argsD, argDs, argD, St.slc, lk_cons, lk] <;> first | rfl | exact ⟨rfl, rfl⟩ | exact ⟨rfl, rfl, rfl⟩)) rfl ?_
    simp (disch := omega) [VE, VXR, VP, VB, VTup, kof, bl, it]
    refine VXB_b (fun h2 => ?_) (fun h2 => ?_) <;> simp (disch := omega) [h2, lightOk, VE, VXR, VP, VB, VTup, kof, bl, it]
    refine VXC_e (impl_PushOk_ok x.l x.push w2) (by first | rfl | (simp [Lim.c, Push.c, argsD, argDs, argD, St.slc, lk_cons, lk] <;> first | rfl | exact ⟨rfl, rfl⟩ | exact ⟨rfl, rfl, rfl⟩)) rfl ?_
    simp (disch := omega) [h2, VE, VXR, VP, VB, VTup, kof, bl, it]
    refine VXB_b (fun h3 => ?_) (fun h3 => ?_) <;> simp (disch := omega) [h2, h3, h5, h6, hds_len, VE, VXR, VP, VB, VTup, kof, bl, it]
abbrev n_spec_LightOk : Nat := 38
def c_spec_LightOk : AF := ⟨1, 6, [.tmp 2], (.seq (.ops [.i (.lbox 1 (.s 0)), .i (.mov 2 (.c (.val false [.bool false])))]) (.seq (.seq (.ops [.i (.fad 5 (.s 1) 0), .i (.ldl 6 1 (.s 5) 5 true), .i (.fad 7 (.s 1) 5), .i (.ldl 8 1 (.s 7) 1 true), .i (.call 10 71 false [(.s 6), (.s 8)]), .i (.not 10 (.s 9)), .i (.mov 11 (.s 10)), .g 11 false 13 (.fad 12 (.s 1) 0), .g 11 false 14 (.ldl 13 1 (.s 12) 5 true), .g 11 false 15 (.fad 14 (.s 1) 6), .g 11 false 16 (.ldl 15 1 (.s 14) 2 true), .g 11 false 17 (.call 17 72 false [(.s 13), (.s 15)]), .g 11 false 18 (.not 17 (.s 16)), .i (.pick 18 (.s 11) (.c (.val false [.bool true])) (.s 17)), .i (.mov 19 (.s 18)), .g 19 false 21 (.fad 20 (.s 1) 8), .g 19 false 22 (.ldl 21 1 (.s 20) 1 false), .g 19 false 23 (.len 22 false (.s 21)), .g 19 false 24 (.bin 23 .gtr (.s 22) (.c (.val false [.int .i64 8]))), .i (.pick 24 (.s 19) (.c (.val false [.bool true])) (.s 23))]) (.cond (.s 24) (.seq (.ops [.i (.mov 2 (.c (.val false [.bool false])))]) .ret) .skip)) (.seq (.seq (.ops [.i (.fad 25 (.s 1) 8), .i (.ldl 26 1 (.s 25) 1 false), .i (.len 27 false (.s 26)), .i (.mov 28 (.c (.val false [.int .i64 0])))]) (.block 0 (.loop [54, 53, 52, 51, 50, 49, 48, 47, 46, 45, 44, 43, 42, 41, 40, 39, 38, 37, 36, 35, 34, 33, 32, 31, 30, 29, 4, 3] (.seq (.ops [.i (.bin 29 .lss (.s 28) (.s 27))]) (.seq (.cond (.s 29) .skip (.exit 0)) (.seq (.block 1 (.seq (.ops [.i (.mov 30 (.s 28)), .i (.iad 31 (.s 26) (.s 28) 10), .i (.ldh 32 (.s 31) 10 true), .i (.lal 4 [.int .i64 0, .int .i64 0, .int .i64 0, .nils, .nils, .int .i64 0, .int .i64 0, .nils, .nils, .nils]), .i (.mov 3 (.s 30)), .i (.stl 4 (.s 4) (.s 32) 10)]) (.seq (.ops [.i (.fad 33 (.s 1) 0), .i (.ldl 34 1 (.s 33) 5 true), .i (.ldl 35 4 (.s 4) 10 true), .i (.call 37 73 false [(.s 34), (.s 35)]), .i (.not 37 (.s 36)), .i (.mov 38 (.s 37)), .g 38 false 40 (.mov 39 (.s 3)), .g 38 false 41 (.bin 40 .gtr (.s 39) (.c (.val false [.int .i64 0]))), .g 38 false 42 (.mov 41 (.s 40)), .g 41 true 43 (.fad 42 (.s 1) 8), .g 41 true 44 (.ldl 43 1 (.s 42) 1 false), .g 41 true 45 (.mov 44 (.s 3)), .g 41 true 46 (.bin 45 .sub (.s 44) (.c (.val false [.int .i64 1]))), .g 41 true 47 (.iad 46 (.s 43) (.s 45) 10), .g 41 true 48 (.fad 47 (.s 46) 1), .g 41 true 49 (.ldh 48 (.s 47) 1 false), .g 41 true 50 (.fad 49 (.s 4) 1), .g 41 true 51 (.ldl 50 4 (.s 49) 1 false), .g 41 true 52 (.bin 51 .geq (.s 48) (.s 50)), .g 38 false 53 (.pick 52 (.s 41) (.s 51) (.c (.val false [.bool false]))), .i (.pick 53 (.s 38) (.c (.val false [.bool true])) (.s 52))]) (.cond (.s 53) (.seq (.ops [.i (.mov 2 (.c (.val false [.bool false])))]) .ret) .skip)))) (.ops [.i (.bin 54 .add (.s 28) (.c (.val false [.int .i64 1]))), .i (.mov 28 (.s 54))]))))))) (.seq (.ops [.i (.mov 2 (.c (.val false [.bool true])))]) .ret))))⟩
theorem k_spec_LightOk : cd n_spec_LightOk = some c_spec_LightOk := by kernel_rfl
theorem spec_LightOk_ok (x : Light) (hw : x.wc) : VC cd n_spec_LightOk (mkP [(true, x.c)]) (fun rs _ => rs = bl (lightOk x)) := by
  obtain ⟨w1, w2, w3, w4⟩ := hw
  simp only [Sz] at w3
  refine VC_enter k_spec_LightOk rfl ?_
  simp (disch := omega) [c_spec_LightOk, Light.c, VE, VXR, VP, VB, VTup, kof, bl, it]
  refine VXC_e (l23Goes_ok x.l x.t w1) (by first | rfl | (simp [Lim.c, Table.c, argsD, argDs, argD, St.slc, lk_cons, lk] <;> first | rfl | exact ⟨rfl, rfl⟩ | exact ⟨rfl, rfl, rfl⟩)) rfl ?_
  simp (disch := omega) [VE, VXR, VP, VB, VTup, kof, bl, it]
  refine VXB_b (fun h2 => ?_) (fun h2 => ?_)
  case refine_2 => simp (disch := omega) [h2, lightOk, VE, VXR, VP, VB, VTup, kof, bl, it]
  simp (disch := omega) [h2, VE, VXR, VP, VB, VTup, kof, bl, it]
  refine VXC_e (spec_PushOk_ok x.l x.push w2) (by first | rfl | (simp [Lim.c, Push.c, argsD, argDs, argD, St.slc, lk_cons, lk] <;> first | rfl | exact ⟨rfl, rfl⟩ | exact ⟨rfl, rfl, rfl⟩)) rfl ?_
  simp (disch := omega) [h2, VE, VXR, VP, VB, VTup, kof, bl, it]
  refine VXB_b (fun h3 => ?_) (fun h3 => ?_)
  case refine_2 => simp (disch := omega) [h2, h3, lightOk, VE, VXR, VP, VB, VTup, kof, bl, it]
  simp (disch := omega) [h2, h3, hds_len, VE, VXR, VP, VB, VTup, kof, bl, it]
  refine VXB_dec (fun h4 => ?_) (fun h4 => ?_)
  · simp (disch := omega) [h2, h3, h4, lightOk, show ¬ (x.chain.length : Int) ≤ 8 by omega, VE, VXR, VP, VB, VTup, kof, bl, it]
  have h4n : (x.chain.length : Int) ≤ 8 := by omega
  simp (disch := omega) [h2, h3, h4, hds_len, VE, VXR, VP, VB, VTup, kof, bl, it]
  refine VX_loopO (σ := Nat) (f1 := _) (es0 := _) (by simp (disch := omega) [VE, VXR, VP, VB, VTup, kof, bl, it]; rfl) (by simp (disch := omega) [VE, VXR, VP, VB, VTup, kof, bl, it]; rfl) (fun i => [(28, .val false [.int .i64 (i : Int)])]) (fun _ => []) (fun i g => g + i = x.chain.length ∧ (∀ h ∈ x.chain.take i, headOk x.l h = true) ∧ ∀ j, j + 1 < i → ht x.chain j < ht x.chain (j + 1)) 0 x.chain.length (by simp (disch := omega) [VE, VXR, VP, VB, VTup, kof, bl, it]) (by simp (disch := omega) [VE, VXR, VP, VB, VTup, kof, bl, it]) ⟨by omega, by simp, fun j hj => by omega⟩ ?_
  rintro i n g ⟨hg, hk, hd⟩ P hP
  simp (disch := omega) [VE, VXR, VP, VB, VTup, kof, bl, it]
  refine VXB_dec (fun h1 => ?_) (fun h1 => ?_)
  · have hi : i < x.chain.length := by omega
    have w5 := w4 _ (List.getElem_mem hi)
    simp (disch := omega) [hds_get hi, Head.c, VE, VXR, VP, VB, VTup, kof, bl, it]
    refine VXC_e (spec_HeadOk_ok x.l x.chain[i] w5.1) (by first | rfl | (simp [Lim.c, Head.c, argsD, argDs, argD, St.slc, lk_cons, lk] <;> first | rfl | exact ⟨rfl, rfl⟩ | exact ⟨rfl, rfl, rfl⟩)) rfl ?_
    simp (disch := omega) [VE, VXR, VP, VB, VTup, kof, bl, it]
    refine VXB_b (fun h5 => ?_) (fun h5 => ?_)
    case refine_2 => simp (disch := omega) [h5, lightOk, headsOk_no hi h5, VE, VXR, VP, VB, VTup, kof, bl, it]
    simp (disch := omega) [h5, VE, VXR, VP, VB, VTup, kof, bl, it]
    refine VXB_dec (fun h6 => ?_) (fun h6 => ?_)
    · have hj : i - 1 < x.chain.length := by omega
      have e1 : ((i : Int) - 1).toNat = i - 1 := by omega
      have e2 : (1 : Int) ≤ (i : Int) := by omega
      simp (disch := omega) [h5, h6, e1, e2, hds_get hj, Head.c, VE, VXR, VP, VB, VTup, kof, bl, it]
      refine VXB_dec (fun h7 => ?_) (fun h7 => ?_)
      · have hn := incr_f (hs := x.chain) (i := i - 1) (by omega) (by rw [ht_get (by omega), ht_get (by omega)]; simpa only [show i - 1 + 1 = i by omega] using h7)
        simp (disch := omega) [h5, h6, h7, lightOk, hn, VE, VXR, VP, VB, VTup, kof, bl, it]
      · simp (disch := omega) [h5, h6, h7, VE, VXR, VP, VB, VTup, kof, bl, it]
        exact hP (i + 1) (g - 1) _ _ (by omega) ⟨by omega, take_all hk hi h5, incr_next hd (fun _ => by rw [ht_get hi, ht_get hj]; omega)⟩ (by simp (disch := omega) [VE, VXR, VP, VB, VTup, kof, bl, it]) (by simp (disch := omega) [VE, VXR, VP, VB, VTup, kof, bl, it])
    · simp (disch := omega) [h5, h6, VE, VXR, VP, VB, VTup, kof, bl, it]
      exact hP (i + 1) (g - 1) _ _ (by omega) ⟨by omega, take_all hk hi h5, incr_next hd (fun h => by omega)⟩ (by simp (disch := omega) [VE, VXR, VP, VB, VTup, kof, bl, it]) (by simp (disch := omega) [VE, VXR, VP, VB, VTup, kof, bl, it])
  · have hi : i = x.chain.length := by omega
    subst hi
    have h5 := headsOk_of hk
    have h6 := incr_t (hs := x.chain) hd
    simp (disch := omega) [h2, h3, h4n, h5, h6, lightOk, VE, VXR, VP, VB, VTup, kof, bl, it]
/-! ### Tables that are the same -/
/-! ### Desks -/
structure Desk where
  l : Lim
  t : Table
  x : Light
  own : List Head
def Desk.c (d : Desk) : List D := [.int .i64 d.l.n, .int .i64 d.l.tx, .int .i64 d.l.txs, .int .i64 d.l.frame, .int .i64 d.l.heads, .sl (rws d.t.rows), .int .i64 d.x.l.n, .int .i64 d.x.l.tx, .int .i64 d.x.l.txs, .int .i64 d.x.l.frame, .int .i64 d.x.l.heads, .sl (rws d.x.t.rows), .int .i64 d.x.push.skip, .sl (bytes d.x.push.buf), .sl (hds d.x.chain), .sl (hds d.own)]
def Desk.wc (d : Desk) : Prop := d.t.wf ∧ d.x.wc ∧ Sz d.own.length ∧ ∀ h ∈ d.own, h.wc
end Go.Eng.F
/-
  Functions: light clients and desks at the program's types.
-/
set_option maxRecDepth 100000
set_option linter.unusedSimpArgs false
set_option linter.unusedVariables false
namespace Go.Eng.F
open Go.Eng.U (TQc THead TLimits TTable TPush TLight TDesk)
def Push.wf (p : Push) : Prop := I64 p.skip ∧ Sz p.buf.length
def Push.tv (x : Push) : Tv := .r [.i x.skip, bsT x.buf]
theorem Push.enc (x : Push) : enc TPush x.tv = x.c := by simp only [Push.tv, enc_st, encS_cons, encS_nil, enc_int, enc_bool, enc_str, enc_bs, enc_bss', enc_ints, Push.c, List.cons_append, List.nil_append, List.append_assoc]
theorem Push.ex {v : Tv} (h : TvOk TPush v) : ∃ x : Push, v = x.tv := by
  obtain ⟨vs, rfl, h⟩ := h.st
  obtain ⟨v0, _, rfl, h0, h⟩ := h.step
  obtain ⟨v1, _, rfl, h1, h⟩ := h.step
  obtain rfl := h.fin
  obtain ⟨n0, rfl, _⟩ := h0.int
  obtain ⟨n1, rfl⟩ := bsT_ex h1
  exact ⟨⟨n0, n1⟩, rfl⟩
theorem Push.of {x : Push} (h : TvOk TPush x.tv) (hw : wt x.tv ≤ 1048576) : x.wf := by
  simp only [Push.tv, ok_st, okS_cons] at h
  simp only [Push.tv, wt, wts] at hw
  obtain ⟨h0, h1, _⟩ := h
  exact ⟨i64_of (ok_int.1 h0), bs_of (by omega)⟩
theorem Push.wf.tok {x : Push} (h : x.wf) : TvOk TPush x.tv := by
  simp only [Push.tv, ok_st, okS_cons]
  obtain ⟨h0, h1⟩ := h
  exact ⟨i64_ok h0, sz_bs h1, okS_nil.2 trivial⟩
def Light.tv (x : Light) : Tv := .r [x.l.tv, x.t.tv, x.push.tv, hdsT x.chain]
theorem Light.enc (x : Light) : enc TLight x.tv = x.c := by simp only [Light.tv, enc_hds, enc_st, encS_cons, encS_nil, Lim.enc, Table.enc, Push.enc, Light.c, Lim.c, Table.c, Push.c, List.cons_append, List.nil_append, List.append_nil]
theorem Light.ex {v : Tv} (h : TvOk TLight v) : ∃ q : Light, v = q.tv := by
  obtain ⟨vs, rfl, h⟩ := h.st
  obtain ⟨v0, _, rfl, h0, h⟩ := h.step
  obtain ⟨v1, _, rfl, h1, h⟩ := h.step
  obtain ⟨v2, _, rfl, h2, h⟩ := h.step
  obtain ⟨v3, _, rfl, h3, h⟩ := h.step
  obtain rfl := h.fin
  obtain ⟨n0, rfl⟩ := Lim.ex h0
  obtain ⟨n1, rfl⟩ := Table.ex h1
  obtain ⟨n2, rfl⟩ := Push.ex h2
  obtain ⟨n3, rfl⟩ := hdsT_ex h3
  exact ⟨⟨n0, n1, n2, n3⟩, rfl⟩
theorem Light.of {x : Light} (h : TvOk TLight x.tv) (hw : wt x.tv ≤ 1048576) : x.wc := by
  simp only [Light.tv, ok_st, okS_cons] at h
  simp only [Light.tv, wt, wts] at hw
  obtain ⟨h0, h1, h2, h3, _⟩ := h
  have k1 := Table.of h1 (by omega)
  have k2 := Push.of h2 (by omega)
  have k3 := hds_of h3 (by omega)
  exact ⟨k1, k2.2, k3.1, k3.2⟩
def Desk.tv (x : Desk) : Tv := .r [x.l.tv, x.t.tv, x.x.tv, hdsT x.own]
theorem Desk.enc (x : Desk) : enc TDesk x.tv = x.c := by simp only [Desk.tv, enc_hds, enc_st, encS_cons, encS_nil, Lim.enc, Table.enc, Light.enc, Desk.c, Light.c, Lim.c, Table.c, List.cons_append, List.nil_append, List.append_nil]
theorem Desk.ex {v : Tv} (h : TvOk TDesk v) : ∃ q : Desk, v = q.tv := by
  obtain ⟨vs, rfl, h⟩ := h.st
  obtain ⟨v0, _, rfl, h0, h⟩ := h.step
  obtain ⟨v1, _, rfl, h1, h⟩ := h.step
  obtain ⟨v2, _, rfl, h2, h⟩ := h.step
  obtain ⟨v3, _, rfl, h3, h⟩ := h.step
  obtain rfl := h.fin
  obtain ⟨n0, rfl⟩ := Lim.ex h0
  obtain ⟨n1, rfl⟩ := Table.ex h1
  obtain ⟨n2, rfl⟩ := Light.ex h2
  obtain ⟨n3, rfl⟩ := hdsT_ex h3
  exact ⟨⟨n0, n1, n2, n3⟩, rfl⟩
theorem Desk.of {x : Desk} (h : TvOk TDesk x.tv) (hw : wt x.tv ≤ 1048576) : x.wc := by
  simp only [Desk.tv, ok_st, okS_cons] at h
  simp only [Desk.tv, wt, wts] at hw
  obtain ⟨h0, h1, h2, h3, _⟩ := h
  have k1 := Table.of h1 (by omega)
  have k2 := Light.of h2 (by omega)
  have k3 := hds_of h3 (by omega)
  exact ⟨k1, k2, k3.1, k3.2⟩
end Go.Eng.F
/-
  Functions: what a light client knows.
-/
set_option maxRecDepth 100000
set_option linter.unusedSimpArgs false
set_option linter.unusedVariables false
namespace Go.Eng.F
open Go.Eng.U (TQc THead TLimits TTable TPush TLight)
noncomputable def known (x : Light) (n : Int) : Option Head := if lightOk x then x.chain.find? (fun h => decide (h.height = n)) else none
def hAt (hs : List Head) (n : Int) : Int := match hs.findIdx? (fun h => decide (h.height = n)) with
  | some i => (i : Int)
  | none => -1
theorem known_wc {x : Light} {n : Int} {h : Head} (hw : x.wc) (e : known x n = some h) : h.wc := by
  unfold known at e
  split at e
  · exact hw.2.2.2 h (List.mem_of_find?_eq_some e)
  · cases e
theorem hAt_some {hs : List Head} {n : Int} (h : 0 ≤ hAt hs n) : ∃ i, ∃ hi : i < hs.length, hAt hs n = (i : Int) ∧ hs.find? (fun h => decide (h.height = n)) = some hs[i] := by
  unfold hAt at h ⊢
  split at h
  · rename_i i hx
    obtain ⟨hi, hp, hm⟩ := List.findIdx?_eq_some_iff_getElem.1 hx
    refine ⟨i, hi, rfl, ?_⟩
    refine (findS (q := fun h => h.height = n) hi (fun a ha => ?_) (by simpa using hp)).1
    obtain ⟨j, hj, rfl⟩ := List.mem_iff_getElem.1 ha
    have := hm j (by simp at hj; omega)
    simpa using this
  · omega
theorem hAt_none {hs : List Head} {n : Int} (h : hAt hs n < 0) : hs.find? (fun h => decide (h.height = n)) = none := by
  unfold hAt at h
  split at h
  · omega
  · rename_i hx
    rw [List.findIdx?_eq_none_iff] at hx
    rw [List.find?_eq_none]
    intro a ha
    simpa using hx a ha
abbrev n_spec_l25At : Nat := 37
def c_spec_l25At : AF := ⟨2, 5, [.tmp 4], (.seq (.ops [.i (.mov 4 (.c (.val false [.int .i64 0])))]) (.seq (.seq (.ops [.i (.mov 7 (.s 0)), .i (.len 8 false (.s 7)), .i (.mov 9 (.c (.val false [.int .i64 0])))]) (.block 0 (.loop [19, 18, 17, 16, 15, 14, 13, 12, 11, 10, 6, 5] (.seq (.ops [.i (.bin 10 .lss (.s 9) (.s 8))]) (.seq (.cond (.s 10) .skip (.exit 0)) (.seq (.block 1 (.seq (.ops [.i (.mov 11 (.s 9)), .i (.iad 12 (.s 7) (.s 9) 10), .i (.ldh 13 (.s 12) 10 true), .i (.lal 6 [.int .i64 0, .int .i64 0, .int .i64 0, .nils, .nils, .int .i64 0, .int .i64 0, .nils, .nils, .nils]), .i (.mov 5 (.s 11)), .i (.stl 6 (.s 6) (.s 13) 10)]) (.seq (.ops [.i (.fad 14 (.s 6) 1), .i (.ldl 15 6 (.s 14) 1 false), .i (.mov 16 (.s 1)), .i (.bin 17 .eql (.s 15) (.s 16))]) (.cond (.s 17) (.seq (.ops [.i (.mov 18 (.s 5)), .i (.mov 4 (.s 18))]) .ret) .skip)))) (.ops [.i (.bin 19 .add (.s 9) (.c (.val false [.int .i64 1]))), .i (.mov 9 (.s 19))]))))))) (.seq (.ops [.i (.mov 4 (.c (.val false [.int .i64 (-1)])))]) .ret)))⟩
theorem k_spec_l25At : cd n_spec_l25At = some c_spec_l25At := by kernel_rfl
theorem l25At_ok (hs : List Head) (n : Int) (hw : HeadsWf hs) : VC cd n_spec_l25At (mkP [(false, [.sl (hds hs)]), (false, [.int .i64 n])]) (fun rs _ => rs = it (hAt hs n)) := by
  obtain ⟨w1, w2⟩ := hw
  simp only [Sz] at w1
  refine VC_enter k_spec_l25At rfl ?_
  simp (disch := omega) [c_spec_l25At, hds_len, VE, VXR, VP, VB, VTup, kof, bl, it]
  refine VX_loopO (σ := Nat) (f1 := _) (es0 := _) (by simp (disch := omega) [VE, VXR, VP, VB, VTup, kof, bl, it]; rfl) (by simp (disch := omega) [VE, VXR, VP, VB, VTup, kof, bl, it]; rfl) (fun i => [(9, .val false [.int .i64 (i : Int)])]) (fun _ => []) (fun i g => g + i = hs.length ∧ ∀ a ∈ hs.take i, ¬ a.height = n) 0 hs.length (by simp (disch := omega) [VE, VXR, VP, VB, VTup, kof, bl, it]) (by simp (disch := omega) [VE, VXR, VP, VB, VTup, kof, bl, it]) ⟨by omega, by simp⟩ ?_
  rintro i n2 g ⟨hg, hd⟩ P hP
  simp (disch := omega) [VE, VXR, VP, VB, VTup, kof, bl, it]
  refine VXB_dec (fun h1 => ?_) (fun h1 => ?_)
  · have hi : i < hs.length := by omega
    simp (disch := omega) [hds_get hi, Head.c, VE, VXR, VP, VB, VTup, kof, bl, it]
    refine VXB_dec (fun h2 => ?_) (fun h2 => ?_)
    · have := (findS (q := fun h => h.height = n) hi hd h2).2
      simp (disch := omega) [hAt, this, VE, VXR, VP, VB, VTup, kof, bl, it]
    · simp (disch := omega) [VE, VXR, VP, VB, VTup, kof, bl, it]
      exact hP (i + 1) (g - 1) _ _ (by omega) ⟨by omega, take_all (p := fun h => ¬ h.height = n) hd hi h2⟩ (by simp (disch := omega) [VE, VXR, VP, VB, VTup, kof, bl, it]) (by simp (disch := omega) [VE, VXR, VP, VB, VTup, kof, bl, it])
  · have hi : i = hs.length := by omega
    subst hi
    have := (findN (q := fun h => h.height = n) hd).2
    simp (disch := omega) [hAt, this, VE, VXR, VP, VB, VTup, kof, bl, it]
abbrev n_spec_Known : Nat := 7
def c_spec_Known : AF := ⟨2, 5, [.cell 4 10 true, .tmp 5], (.seq (.ops [.i (.lbox 2 (.s 0)), .i (.lal 4 [.int .i64 0, .int .i64 0, .int .i64 0, .nils, .nils, .int .i64 0, .int .i64 0, .nils, .nils, .nils]), .i (.mov 5 (.c (.val false [.bool false])))]) (.seq (.ops [.i (.fad 7 (.s 2) 8), .i (.ldl 8 2 (.s 7) 1 false), .i (.mov 9 (.s 1)), .i (.call 11 37 false [(.s 8), (.s 9)]), .i (.mov 6 (.s 10))]) (.seq (.seq (.ops [.i (.ldl 11 2 (.s 2) 9 true), .i (.call 13 38 false [(.s 11)]), .i (.not 13 (.s 12)), .i (.mov 14 (.s 13)), .g 14 false 16 (.mov 15 (.s 6)), .g 14 false 17 (.bin 16 .lss (.s 15) (.c (.val false [.int .i64 0]))), .i (.pick 17 (.s 14) (.c (.val false [.bool true])) (.s 16))]) (.cond (.s 17) (.seq (.ops [.i (.bld 18 [.int .i64 0, .int .i64 0, .int .i64 0, .nils, .nils, .int .i64 0, .int .i64 0, .nils, .nils, .nils] []), .i (.stl 4 (.s 4) (.s 18) 10), .i (.mov 5 (.c (.val false [.bool false])))]) .ret) .skip)) (.seq (.ops [.i (.fad 19 (.s 2) 8), .i (.ldl 20 2 (.s 19) 1 false), .i (.mov 21 (.s 6)), .i (.iad 22 (.s 20) (.s 21) 10), .i (.ldh 23 (.s 22) 10 true), .i (.call 25 39 false [(.s 23)]), .i (.stl 4 (.s 4) (.s 24) 10), .i (.mov 5 (.c (.val false [.bool true])))]) .ret))))⟩
theorem k_spec_Known : cd n_spec_Known = some c_spec_Known := by kernel_rfl
theorem spec_Known_ok (x : Light) (n : Int) (hw : x.wc) : VC cd n_spec_Known (mkP [(true, x.c), (false, [.int .i64 n])]) (fun rs _ => rs = optHeadE (known x n)) := by
  have w1 := hw.2.2.1
  have w4 := hw.2.2.2
  refine VC_enter k_spec_Known rfl ?_
  simp (disch := omega) [c_spec_Known, Light.c, VE, VXR, VP, VB, VTup, kof, bl, it]
  refine VXC_e (l25At_ok x.chain n ⟨w1, fun h hh => (w4 h hh).1⟩) (by first | rfl | (simp [argsD, argDs, argD, St.slc, lk_cons, lk] <;> first | rfl | exact ⟨rfl, rfl⟩ | exact ⟨rfl, rfl, rfl⟩)) rfl ?_
  simp only [Sz] at w1
  simp (disch := omega) [VE, VXR, VP, VB, VTup, kof, bl, it]
  refine VXC_e (spec_LightOk_ok x hw) (by first | rfl | (simp [Light.c, argsD, argDs, argD, St.slc, lk_cons, lk] <;> first | rfl | exact ⟨rfl, rfl⟩ | exact ⟨rfl, rfl, rfl⟩)) rfl ?_
  simp (disch := omega) [VE, VXR, VP, VB, VTup, kof, bl, it]
  refine VXB_b (fun h1 => ?_) (fun h1 => ?_)
  case refine_2 => simp (disch := omega) [h1, known, optHeadE, zeroHeadE, VE, VXR, VP, VB, VTup, kof, bl, it]
  simp (disch := omega) [h1, VE, VXR, VP, VB, VTup, kof, bl, it]
  refine VXB_dec (fun h2 => ?_) (fun h2 => ?_)
  · have := hAt_none h2
    simp (disch := omega) [h1, known, this, optHeadE, zeroHeadE, VE, VXR, VP, VB, VTup, kof, bl, it]
  · obtain ⟨i, hi, e1, e2⟩ := hAt_some (hs := x.chain) (n := n) (by omega)
    simp (disch := omega) [e1, hds_len, hds_get hi, Head.c, VE, VXR, VP, VB, VTup, kof, bl, it]
    refine VXC_e (l13Copy_ok x.chain[i] (w4 _ (List.getElem_mem hi))) (by first | rfl | (simp [argsD, argDs, argD, St.slc, lk_cons, lk] <;> first | rfl | exact ⟨rfl, rfl⟩ | exact ⟨rfl, rfl, rfl⟩)) rfl ?_
    simp (disch := omega) [known, h1, e2, optHeadE, Head.o, VE, VXR, VP, VB, VTup, kof, bl, it]
abbrev n_impl_Known : Nat := 9
def c_impl_Known : AF := ⟨2, 5, [.cell 4 10 true, .tmp 5], (.seq (.ops [.i (.lbox 2 (.s 0)), .i (.lal 4 [.int .i64 0, .int .i64 0, .int .i64 0, .nils, .nils, .int .i64 0, .int .i64 0, .nils, .nils, .nils]), .i (.mov 5 (.c (.val false [.bool false])))]) (.seq (.seq (.ops [.i (.fad 8 (.s 2) 8), .i (.ldl 9 2 (.s 8) 1 false), .i (.len 10 false (.s 9)), .i (.mov 11 (.c (.val false [.int .i64 0])))]) (.block 0 (.loop [25, 24, 23, 22, 21, 20, 19, 18, 17, 16, 15, 14, 13, 12, 7] (.seq (.ops [.i (.bin 12 .lss (.s 11) (.s 10))]) (.seq (.cond (.s 12) .skip (.exit 0)) (.seq (.block 1 (.seq (.ops [.i (.iad 13 (.s 9) (.s 11) 10), .i (.ldh 14 (.s 13) 10 true), .i (.lal 7 [.int .i64 0, .int .i64 0, .int .i64 0, .nils, .nils, .int .i64 0, .int .i64 0, .nils, .nils, .nils]), .i (.stl 7 (.s 7) (.s 14) 10)]) (.seq (.ops [.i (.fad 15 (.s 7) 1), .i (.ldl 16 7 (.s 15) 1 false), .i (.mov 17 (.s 1)), .i (.bin 18 .eql (.s 16) (.s 17)), .i (.mov 19 (.s 18)), .g 19 true 21 (.ldl 20 2 (.s 2) 9 true), .g 19 true 22 (.call 22 41 false [(.s 20)]), .i (.pick 22 (.s 19) (.s 21) (.c (.val false [.bool false])))]) (.cond (.s 22) (.seq (.ops [.i (.ldl 23 7 (.s 7) 10 true), .i (.call 25 42 false [(.s 23)]), .i (.stl 4 (.s 4) (.s 24) 10), .i (.mov 5 (.c (.val false [.bool true])))]) .ret) .skip)))) (.ops [.i (.bin 25 .add (.s 11) (.c (.val false [.int .i64 1]))), .i (.mov 11 (.s 25))]))))))) (.seq (.ops [.i (.bld 26 [.int .i64 0, .int .i64 0, .int .i64 0, .nils, .nils, .int .i64 0, .int .i64 0, .nils, .nils, .nils] []), .i (.stl 4 (.s 4) (.s 26) 10), .i (.mov 5 (.c (.val false [.bool false])))]) .ret)))⟩
theorem k_impl_Known : cd n_impl_Known = some c_impl_Known := by kernel_rfl
theorem impl_Known_ok (x : Light) (n : Int) (hw : x.wc) : VC cd n_impl_Known (mkP [(true, x.c), (false, [.int .i64 n])]) (fun rs _ => rs = optHeadE (known x n)) := by
  have w1 := hw.2.2.1
  have w4 := hw.2.2.2
  simp only [Sz] at w1
  refine VC_enter k_impl_Known rfl ?_
  simp (disch := omega) [c_impl_Known, Light.c, hds_len, VE, VXR, VP, VB, VTup, kof, bl, it]
  refine VX_loopO (σ := Nat) (f1 := _) (es0 := _) (by simp (disch := omega) [VE, VXR, VP, VB, VTup, kof, bl, it]; rfl) (by simp (disch := omega) [VE, VXR, VP, VB, VTup, kof, bl, it]; rfl) (fun i => [(11, .val false [.int .i64 (i : Int)])]) (fun _ => []) (fun i g => g + i = x.chain.length ∧ ∀ a ∈ x.chain.take i, ¬ (lightOk x = true ∧ a.height = n)) 0 x.chain.length (by simp (disch := omega) [VE, VXR, VP, VB, VTup, kof, bl, it]) (by simp (disch := omega) [VE, VXR, VP, VB, VTup, kof, bl, it]) ⟨by omega, by simp⟩ ?_
  rintro i n2 g ⟨hg, hd⟩ P hP
  simp (disch := omega) [VE, VXR, VP, VB, VTup, kof, bl, it]
  refine VXB_dec (fun h1 => ?_) (fun h1 => ?_)
  · have hi : i < x.chain.length := by omega
    simp (disch := omega) [hds_get hi, Head.c, VE, VXR, VP, VB, VTup, kof, bl, it]
    refine VXB_dec (fun h2 => ?_) (fun h2 => ?_)
    · simp (disch := omega) [h2, VE, VXR, VP, VB, VTup, kof, bl, it]
      refine VXC_e (impl_LightOk_ok x hw) (by first | rfl | (simp [Light.c, argsD, argDs, argD, St.slc, lk_cons, lk] <;> first | rfl | exact ⟨rfl, rfl⟩ | exact ⟨rfl, rfl, rfl⟩)) rfl ?_
      simp (disch := omega) [h2, VE, VXR, VP, VB, VTup, kof, bl, it]
      refine VXB_b (fun h3 => ?_) (fun h3 => ?_)
      · have := (findS (q := fun h => h.height = n) hi (fun a ha hb => hd a ha ⟨h3, hb⟩) h2).1
        simp (disch := omega) [h2, h3, VE, VXR, VP, VB, VTup, kof, bl, it]
        refine VXC_e (Head_copied_ok x.chain[i] (w4 _ (List.getElem_mem hi))) (by first | rfl | (simp [Head.c, h2, argsD, argDs, argD, St.slc, lk_cons, lk] <;> first | rfl | exact ⟨rfl, rfl⟩ | exact ⟨rfl, rfl, rfl⟩)) rfl ?_
        simp (disch := omega) [known, h2, h3, this, optHeadE, Head.o, VE, VXR, VP, VB, VTup, kof, bl, it]
      · simp (disch := omega) [h2, h3, VE, VXR, VP, VB, VTup, kof, bl, it]
        exact hP (i + 1) (g - 1) _ _ (by omega) ⟨by omega, take_all (p := fun h => ¬ (lightOk x = true ∧ h.height = n)) hd hi (by simp [h3])⟩ (by simp (disch := omega) [VE, VXR, VP, VB, VTup, kof, bl, it]) (by simp (disch := omega) [VE, VXR, VP, VB, VTup, kof, bl, it])
    · simp (disch := omega) [h2, VE, VXR, VP, VB, VTup, kof, bl, it]
      exact hP (i + 1) (g - 1) _ _ (by omega) ⟨by omega, take_all (p := fun h => ¬ (lightOk x = true ∧ h.height = n)) hd hi (by simp [h2])⟩ (by simp (disch := omega) [VE, VXR, VP, VB, VTup, kof, bl, it]) (by simp (disch := omega) [VE, VXR, VP, VB, VTup, kof, bl, it])
  · have hi : i = x.chain.length := by omega
    subst hi
    have : known x n = none := by
      unfold known
      split
      · rename_i h3
        exact (findN (q := fun h => h.height = n) (fun a ha hb => hd a ha ⟨h3, hb⟩)).1
      · rfl
    simp (disch := omega) [this, optHeadE, zeroHeadE, VE, VXR, VP, VB, VTup, kof, bl, it]
theorem known_wt (x : Light) (n : Int) : wt ((known x n).getD zeroHead).tv ≤ wt x.tv := by
  cases e : known x n with
  | none => simp [zeroHead_wt]
  | some h =>
    have hm : h ∈ x.chain := by
      unfold known at e
      split at e
      · exact List.mem_of_find?_eq_some e
      · cases e
    have := hds_mem_wt hm
    simp only [Option.getD_some, Light.tv, wt, wts]
    omega
theorem io_impl_Known {h0 : H} {x : Light} {n : Int} {ms : List (Bool × List C)} (ha : ArgsRp h0 [(TLight, x.tv), ((.int .i64), .i n)] ms) (hp0 : wt x.tv ≤ 1048576) :
    WC cd n_impl_Known ms h0 (Ans h0 [(THead, ((known x n).getD zeroHead).tv), (.bool, .b (known x n).isSome)]) := by
  obtain ⟨k0, mr0, ha0⟩ := ArgsRp.ok1 ha
  obtain ⟨k1, mr1, ha1⟩ := ArgsRp.ok1 ha0
  have w1 := Light.of k0 hp0
  have hc := impl_Known_ok x n w1
  have e : encA [(TLight, x.tv), ((.int .i64), .i n)] = [(true, x.c), (false, [.int .i64 n])] := by simp only [encA, List.map, Lim.enc, Head.enc, Qc.enc, enc_bss', enc_bs, enc_int, enc_bool, enc_str, enc_hds, Light.enc, Ty.agg]
  rw [← e] at hc
  exact hc.wc ha fun rs q => by rw [q]; exact optHead_rs (fun h e => known_wc w1 e)
theorem io_spec_Known {h0 : H} {x : Light} {n : Int} {ms : List (Bool × List C)} (ha : ArgsRp h0 [(TLight, x.tv), ((.int .i64), .i n)] ms) (hp0 : wt x.tv ≤ 1048576) :
    WC cd n_spec_Known ms h0 (Ans h0 [(THead, ((known x n).getD zeroHead).tv), (.bool, .b (known x n).isSome)]) := by
  obtain ⟨k0, mr0, ha0⟩ := ArgsRp.ok1 ha
  obtain ⟨k1, mr1, ha1⟩ := ArgsRp.ok1 ha0
  have w1 := Light.of k0 hp0
  have hc := spec_Known_ok x n w1
  have e : encA [(TLight, x.tv), ((.int .i64), .i n)] = [(true, x.c), (false, [.int .i64 n])] := by simp only [encA, List.map, Lim.enc, Head.enc, Qc.enc, enc_bss', enc_bs, enc_int, enc_bool, enc_str, enc_hds, Light.enc, Ty.agg]
  rw [← e] at hc
  exact hc.wc ha fun rs q => by rw [q]; exact optHead_rs (fun h e => known_wc w1 e)
end Go.Eng.F
