/-
  Functions: limits, hashes, bitmaps.
-/
import Derived.Test.YtaicdpancmfhnaaVmP
import Derived.Test.YtaicdpancmfhnaaProg
import Derived.KernelRfl
set_option maxRecDepth 100000
set_option linter.unusedSimpArgs false
set_option linter.unusedVariables false
namespace Go.Eng.F
noncomputable abbrev cd := code Proofs.Try.prog
def bss (l : List Bytes) : List (List D) := l.map fun x => [.sl (bytes x)]
theorem bss_len (l : List Bytes) : (bss l).length = l.length := by simp [bss]
theorem bss_get {l : List Bytes} {i : Nat} (h : i < l.length) : (bss l)[i]? = some [.sl (bytes l[i])] := by simp [bss, h]
theorem bytes_get {x : Bytes} {i : Nat} (h : i < x.length) : (bytes x)[i]? = some [.int .u8 (x[i].toNat : Int)] := by simp [bytes, h]
theorem take_all {α : Type} {p : α → Prop} {l : List α} {i : Nat} (h : ∀ x ∈ l.take i, p x) (hi : i < l.length) (hx : p l[i]) : ∀ x ∈ l.take (i + 1), p x := by
  intro x hm
  rw [List.take_add_one, List.getElem?_eq_getElem hi] at hm
  rcases List.mem_append.1 hm with hm | hm
  · exact h x hm
  · simp at hm; subst hm; exact hx
def inn (n lo hi : Int) : Bool := decide (lo ≤ n ∧ n ≤ hi)
abbrev n_impl_within : Nat := 168
def c_impl_within : AF := ⟨3, 4, [.tmp 6], (.seq (.ops [.i (.mov 6 (.c (.val false [.bool false])))]) (.seq (.ops [.i (.mov 7 (.s 1)), .i (.mov 8 (.s 0)), .i (.bin 9 .leq (.s 7) (.s 8)), .i (.mov 10 (.s 9)), .g 10 true 12 (.mov 11 (.s 0)), .g 10 true 13 (.mov 12 (.s 2)), .g 10 true 14 (.bin 13 .leq (.s 11) (.s 12)), .i (.pick 14 (.s 10) (.s 13) (.c (.val false [.bool false]))), .i (.mov 6 (.s 14))]) .ret))⟩
theorem k_impl_within : cd n_impl_within = some c_impl_within := by kernel_rfl
theorem within_ok (n lo hi : Int) : VC cd n_impl_within (mkP [(false, [.int .i64 n]), (false, [.int .i64 lo]), (false, [.int .i64 hi])]) (fun rs _ => rs = bl (inn n lo hi)) := by
  refine VC_enter k_impl_within rfl ?_
  simp (disch := omega) [c_impl_within, VE, VXR, VP, VB, kof, bl, it]
  refine VXB_dec (fun h1 => ?_) (fun h1 => ?_) <;> simp (disch := omega) [h1, inn, VE, VXR, VP, VB, kof, bl, it]
abbrev n_spec_l01In : Nat := 144
def c_spec_l01In : AF := ⟨3, 4, [.tmp 6], (.seq (.ops [.i (.mov 6 (.c (.val false [.bool false])))]) (.seq (.ops [.i (.mov 7 (.s 0)), .i (.mov 8 (.s 1)), .i (.bin 9 .geq (.s 7) (.s 8)), .i (.mov 10 (.s 9)), .g 10 true 12 (.mov 11 (.s 0)), .g 10 true 13 (.mov 12 (.s 2)), .g 10 true 14 (.bin 13 .leq (.s 11) (.s 12)), .i (.pick 14 (.s 10) (.s 13) (.c (.val false [.bool false]))), .i (.mov 6 (.s 14))]) .ret))⟩
theorem k_spec_l01In : cd n_spec_l01In = some c_spec_l01In := by kernel_rfl
theorem l01In_ok (n lo hi : Int) : VC cd n_spec_l01In (mkP [(false, [.int .i64 n]), (false, [.int .i64 lo]), (false, [.int .i64 hi])]) (fun rs _ => rs = bl (inn n lo hi)) := by
  refine VC_enter k_spec_l01In rfl ?_
  simp (disch := omega) [c_spec_l01In, VE, VXR, VP, VB, kof, bl, it]
  refine VXB_dec (fun h1 => ?_) (fun h1 => ?_) <;> simp (disch := omega) [h1, inn, VE, VXR, VP, VB, kof, bl, it]
structure Lim where
  n : Int
  tx : Int
  txs : Int
  frame : Int
  heads : Int
def Lim.c (l : Lim) : List D := [.int .i64 l.n, .int .i64 l.tx, .int .i64 l.txs, .int .i64 l.frame, .int .i64 l.heads]
def Lim.ok (l : Lim) : Bool := inn l.n 1 10 && inn l.tx 0 40 && inn l.txs 0 8 && inn l.frame 1 4000 && inn l.heads 3 5
abbrev n_impl_LimitsOk : Nat := 152
def c_impl_LimitsOk : AF := ⟨1, 5, [.tmp 2], (.seq (.ops [.i (.lbox 1 (.s 0)), .i (.mov 2 (.c (.val false [.bool false])))]) (.seq (.ops [.i (.fad 3 (.s 1) 0), .i (.ldl 4 1 (.s 3) 1 false), .i (.call 6 168 false [(.s 4), (.c (.val false [.int .i64 1])), (.c (.val false [.int .i64 10]))]), .i (.mov 6 (.s 5)), .g 6 true 8 (.fad 7 (.s 1) 1), .g 6 true 9 (.ldl 8 1 (.s 7) 1 false), .g 6 true 10 (.call 10 168 false [(.s 8), (.c (.val false [.int .i64 0])), (.c (.val false [.int .i64 40]))]), .i (.pick 10 (.s 6) (.s 9) (.c (.val false [.bool false]))), .i (.mov 11 (.s 10)), .g 11 true 13 (.fad 12 (.s 1) 2), .g 11 true 14 (.ldl 13 1 (.s 12) 1 false), .g 11 true 15 (.call 15 168 false [(.s 13), (.c (.val false [.int .i64 0])), (.c (.val false [.int .i64 8]))]), .i (.pick 15 (.s 11) (.s 14) (.c (.val false [.bool false]))), .i (.mov 16 (.s 15)), .g 16 true 18 (.fad 17 (.s 1) 3), .g 16 true 19 (.ldl 18 1 (.s 17) 1 false), .g 16 true 20 (.call 20 168 false [(.s 18), (.c (.val false [.int .i64 1])), (.c (.val false [.int .i64 4000]))]), .i (.pick 20 (.s 16) (.s 19) (.c (.val false [.bool false]))), .i (.mov 21 (.s 20)), .g 21 true 23 (.fad 22 (.s 1) 4), .g 21 true 24 (.ldl 23 1 (.s 22) 1 false), .g 21 true 25 (.call 25 168 false [(.s 23), (.c (.val false [.int .i64 3])), (.c (.val false [.int .i64 5]))]), .i (.pick 25 (.s 21) (.s 24) (.c (.val false [.bool false]))), .i (.mov 2 (.s 25))]) .ret))⟩
theorem k_impl_LimitsOk : cd n_impl_LimitsOk = some c_impl_LimitsOk := by kernel_rfl
theorem impl_LimitsOk_ok (l : Lim) : VC cd n_impl_LimitsOk (mkP [(true, l.c)]) (fun rs _ => rs = bl l.ok) := by
  refine VC_enter k_impl_LimitsOk rfl ?_
  simp (disch := omega) [c_impl_LimitsOk, Lim.c, VE, VXR, VP, VB, kof, bl, it]
  refine VXC_e (within_ok _ _ _) rfl rfl ?_
  simp (disch := omega) [VE, VXR, VP, VB, kof, bl, it]
  refine VXB_b (fun h1 => ?_) (fun h1 => ?_) <;> simp (disch := omega) [h1, Lim.ok, VE, VXR, VP, VB, kof, bl, it]
  refine VXC_e (within_ok _ _ _) rfl rfl ?_
  simp (disch := omega) [h1, VE, VXR, VP, VB, kof, bl, it]
  refine VXB_b (fun h2 => ?_) (fun h2 => ?_) <;> simp (disch := omega) [h1, h2, VE, VXR, VP, VB, kof, bl, it]
  refine VXC_e (within_ok _ _ _) rfl rfl ?_
  simp (disch := omega) [h1, h2, VE, VXR, VP, VB, kof, bl, it]
  refine VXB_b (fun h3 => ?_) (fun h3 => ?_) <;> simp (disch := omega) [h1, h2, h3, VE, VXR, VP, VB, kof, bl, it]
  refine VXC_e (within_ok _ _ _) rfl rfl ?_
  simp (disch := omega) [h1, h2, h3, VE, VXR, VP, VB, kof, bl, it]
  refine VXB_b (fun h4 => ?_) (fun h4 => ?_) <;> simp (disch := omega) [h1, h2, h3, h4, VE, VXR, VP, VB, kof, bl, it]
  refine VXC_e (within_ok _ _ _) rfl rfl ?_
  simp (disch := omega) [h1, h2, h3, h4, VE, VXR, VP, VB, kof, bl, it]
abbrev n_spec_l02Signers : Nat := 172
def c_spec_l02Signers : AF := ⟨1, 3, [.tmp 2], (.seq (.ops [.i (.mov 2 (.c (.val false [.bool false])))]) (.seq (.ops [.i (.mov 3 (.s 0)), .i (.call 5 144 false [(.s 3), (.c (.val false [.int .i64 1])), (.c (.val false [.int .i64 10]))]), .i (.mov 2 (.s 4))]) .ret))⟩
theorem k_spec_l02Signers : cd n_spec_l02Signers = some c_spec_l02Signers := by kernel_rfl
theorem spec_l02Signers_ok (n : Int) : VC cd n_spec_l02Signers (mkP [(false, [.int .i64 n])]) (fun rs _ => rs = bl (inn n 1 10)) := by
  refine VC_enter k_spec_l02Signers rfl ?_
  simp (disch := omega) [c_spec_l02Signers, VE, VXR, VP, VB, kof, bl, it]
  refine VXC_e (l01In_ok _ _ _) rfl rfl ?_
  simp (disch := omega) [VE, VXR, VP, VB, kof, bl, it]
abbrev n_spec_LimitsOk : Nat := 142
def c_spec_LimitsOk : AF := ⟨1, 5, [.tmp 2], (.seq (.ops [.i (.lbox 1 (.s 0)), .i (.mov 2 (.c (.val false [.bool false])))]) (.seq (.ops [.i (.fad 3 (.s 1) 0), .i (.ldl 4 1 (.s 3) 1 false), .i (.call 6 172 false [(.s 4)]), .i (.mov 6 (.s 5)), .g 6 true 8 (.fad 7 (.s 1) 1), .g 6 true 9 (.ldl 8 1 (.s 7) 1 false), .g 6 true 10 (.call 10 144 false [(.s 8), (.c (.val false [.int .i64 0])), (.c (.val false [.int .i64 40]))]), .i (.pick 10 (.s 6) (.s 9) (.c (.val false [.bool false]))), .i (.mov 11 (.s 10)), .g 11 true 13 (.fad 12 (.s 1) 2), .g 11 true 14 (.ldl 13 1 (.s 12) 1 false), .g 11 true 15 (.call 15 144 false [(.s 13), (.c (.val false [.int .i64 0])), (.c (.val false [.int .i64 8]))]), .i (.pick 15 (.s 11) (.s 14) (.c (.val false [.bool false]))), .i (.mov 16 (.s 15)), .g 16 true 18 (.fad 17 (.s 1) 3), .g 16 true 19 (.ldl 18 1 (.s 17) 1 false), .g 16 true 20 (.call 20 144 false [(.s 18), (.c (.val false [.int .i64 1])), (.c (.val false [.int .i64 4000]))]), .i (.pick 20 (.s 16) (.s 19) (.c (.val false [.bool false]))), .i (.mov 21 (.s 20)), .g 21 true 23 (.fad 22 (.s 1) 4), .g 21 true 24 (.ldl 23 1 (.s 22) 1 false), .g 21 true 25 (.call 25 144 false [(.s 23), (.c (.val false [.int .i64 3])), (.c (.val false [.int .i64 5]))]), .i (.pick 25 (.s 21) (.s 24) (.c (.val false [.bool false]))), .i (.mov 2 (.s 25))]) .ret))⟩
theorem k_spec_LimitsOk : cd n_spec_LimitsOk = some c_spec_LimitsOk := by kernel_rfl
theorem spec_LimitsOk_ok (l : Lim) : VC cd n_spec_LimitsOk (mkP [(true, l.c)]) (fun rs _ => rs = bl l.ok) := by
  refine VC_enter k_spec_LimitsOk rfl ?_
  simp (disch := omega) [c_spec_LimitsOk, Lim.c, VE, VXR, VP, VB, kof, bl, it]
  refine VXC_e (spec_l02Signers_ok _) rfl rfl ?_
  simp (disch := omega) [VE, VXR, VP, VB, kof, bl, it]
  refine VXB_b (fun h1 => ?_) (fun h1 => ?_) <;> simp (disch := omega) [h1, Lim.ok, VE, VXR, VP, VB, kof, bl, it]
  refine VXC_e (l01In_ok _ _ _) rfl rfl ?_
  simp (disch := omega) [h1, VE, VXR, VP, VB, kof, bl, it]
  refine VXB_b (fun h2 => ?_) (fun h2 => ?_) <;> simp (disch := omega) [h1, h2, VE, VXR, VP, VB, kof, bl, it]
  refine VXC_e (l01In_ok _ _ _) rfl rfl ?_
  simp (disch := omega) [h1, h2, VE, VXR, VP, VB, kof, bl, it]
  refine VXB_b (fun h3 => ?_) (fun h3 => ?_) <;> simp (disch := omega) [h1, h2, h3, VE, VXR, VP, VB, kof, bl, it]
  refine VXC_e (l01In_ok _ _ _) rfl rfl ?_
  simp (disch := omega) [h1, h2, h3, VE, VXR, VP, VB, kof, bl, it]
  refine VXB_b (fun h4 => ?_) (fun h4 => ?_) <;> simp (disch := omega) [h1, h2, h3, h4, VE, VXR, VP, VB, kof, bl, it]
  refine VXC_e (l01In_ok _ _ _) rfl rfl ?_
  simp (disch := omega) [h1, h2, h3, h4, VE, VXR, VP, VB, kof, bl, it]
def isNum (n : Int) : Bool := inn n 0 1152921504606846975
abbrev n_impl_isNum : Nat := 167
def c_impl_isNum : AF := ⟨1, 3, [.tmp 2], (.seq (.ops [.i (.mov 2 (.c (.val false [.bool false])))]) (.seq (.ops [.i (.mov 3 (.s 0)), .i (.call 5 168 false [(.s 3), (.c (.val false [.int .i64 0])), (.c (.val false [.int .i64 1152921504606846975]))]), .i (.mov 2 (.s 4))]) .ret))⟩
theorem k_impl_isNum : cd n_impl_isNum = some c_impl_isNum := by kernel_rfl
theorem isNum_ok (n : Int) : VC cd n_impl_isNum (mkP [(false, [.int .i64 n])]) (fun rs _ => rs = bl (isNum n)) := by
  refine VC_enter k_impl_isNum rfl ?_
  simp (disch := omega) [c_impl_isNum, VE, VXR, VP, VB, kof, bl, it]
  refine VXC_e (within_ok _ _ _) rfl rfl ?_
  simp (disch := omega) [isNum, VE, VXR, VP, VB, kof, bl, it]
abbrev n_spec_l01Num : Nat := 143
def c_spec_l01Num : AF := ⟨1, 3, [.tmp 2], (.seq (.ops [.i (.mov 2 (.c (.val false [.bool false])))]) (.seq (.ops [.i (.mov 3 (.s 0)), .i (.call 5 144 false [(.s 3), (.c (.val false [.int .i64 0])), (.c (.val false [.int .i64 1152921504606846975]))]), .i (.mov 2 (.s 4))]) .ret))⟩
theorem k_spec_l01Num : cd n_spec_l01Num = some c_spec_l01Num := by kernel_rfl
theorem l01Num_ok (n : Int) : VC cd n_spec_l01Num (mkP [(false, [.int .i64 n])]) (fun rs _ => rs = bl (isNum n)) := by
  refine VC_enter k_spec_l01Num rfl ?_
  simp (disch := omega) [c_spec_l01Num, VE, VXR, VP, VB, kof, bl, it]
  refine VXC_e (l01In_ok _ _ _) rfl rfl ?_
  simp (disch := omega) [isNum, VE, VXR, VP, VB, kof, bl, it]
def hash (x : Bytes) : Bool := x.length == 32
def hashes (l : List Bytes) : Bool := l.all hash
theorem hashes_of {l : List Bytes} (h : ∀ x ∈ l.take l.length, hash x = true) : hashes l = true := by
  rw [List.take_length] at h
  simpa [hashes] using h
theorem hashes_no {l : List Bytes} {i : Nat} (hi : i < l.length) (h : hash l[i] = false) : hashes l = false := by
  simp only [hashes, List.all_eq_false]
  exact ⟨l[i], List.getElem_mem hi, by simp [h]⟩
abbrev n_impl_areHashes : Nat := 169
def c_impl_areHashes : AF := ⟨1, 4, [.tmp 2], (.seq (.ops [.i (.mov 2 (.c (.val false [.bool false])))]) (.seq (.seq (.ops [.i (.mov 5 (.s 0)), .i (.len 6 false (.s 5)), .i (.mov 7 (.c (.val false [.int .i64 0])))]) (.block 0 (.loop [14, 13, 12, 11, 10, 9, 8, 4] (.seq (.ops [.i (.bin 8 .lss (.s 7) (.s 6))]) (.seq (.cond (.s 8) .skip (.exit 0)) (.seq (.block 1 (.seq (.ops [.i (.iad 9 (.s 5) (.s 7) 1), .i (.ldh 10 (.s 9) 1 false), .i (.mov 4 (.s 10))]) (.seq (.ops [.i (.mov 11 (.s 4)), .i (.len 12 false (.s 11)), .i (.bin 13 .neq (.s 12) (.c (.val false [.int .i64 32])))]) (.cond (.s 13) (.seq (.ops [.i (.mov 2 (.c (.val false [.bool false])))]) .ret) .skip)))) (.ops [.i (.bin 14 .add (.s 7) (.c (.val false [.int .i64 1]))), .i (.mov 7 (.s 14))]))))))) (.seq (.ops [.i (.mov 2 (.c (.val false [.bool true])))]) .ret)))⟩
theorem k_impl_areHashes : cd n_impl_areHashes = some c_impl_areHashes := by kernel_rfl
theorem areHashes_ok (l : List Bytes) (hl : l.length ≤ 1099511627776) : VC cd n_impl_areHashes (mkP [(false, [.sl (bss l)])]) (fun rs _ => rs = bl (hashes l)) := by
  refine VC_enter k_impl_areHashes rfl ?_
  simp (disch := omega) [c_impl_areHashes, bss_len, VE, VXR, VP, VB, kof, bl, it]
  refine VX_loop2 (σ := Nat) (f1 := _) (by simp (disch := omega) [VE, VXR, VP, VB, kof, bl, it]; rfl) (fun i => [(7, .val false [.int .i64 i])]) (fun _ => []) (fun i g => g + i = l.length ∧ ∀ x ∈ l.take i, hash x = true) 0 l.length (by simp (disch := omega) [VE, VXR, VP, VB, kof, bl, it]) trivial ⟨by omega, by simp⟩ ?_
  rintro i n g ⟨hg, hi⟩
  simp (disch := omega) [bss_len, VE, VXR, VP, VB, kof, bl, it]
  refine VXB_dec (fun h1 => ?_) (fun h1 => ?_)
  · simp (disch := omega) [bss_get h1, VE, VXR, VP, VB, kof, bl, it]
    refine VXB_dec (fun h2 => ?_) (fun h2 => ?_)
    · simp (disch := omega) [VE, VXR, VP, VB, kof, bl, it]
      exact ⟨i + 1, g - 1, by omega, ⟨by omega, take_all hi h1 (by simp [hash]; omega)⟩, by simp⟩
    · simp (disch := omega) [VE, VXR, VP, VB, kof, bl, it]
      exact hashes_no h1 (by simp [hash]; omega)
  · simp (disch := omega) [VE, VXR, VP, VB, kof, bl, it]
    have : i = l.length := by omega
    subst this
    exact hashes_of hi
abbrev n_spec_l07Hash : Nat := 145
def c_spec_l07Hash : AF := ⟨1, 3, [.tmp 2], (.seq (.ops [.i (.mov 2 (.c (.val false [.bool false])))]) (.seq (.ops [.i (.mov 3 (.s 0)), .i (.len 4 false (.s 3)), .i (.bin 5 .eql (.s 4) (.c (.val false [.int .i64 32]))), .i (.mov 2 (.s 5))]) .ret))⟩
theorem k_spec_l07Hash : cd n_spec_l07Hash = some c_spec_l07Hash := by kernel_rfl
theorem l07Hash_ok (x : Bytes) : VC cd n_spec_l07Hash (mkP [(false, [.sl (bytes x)])]) (fun rs _ => rs = bl (hash x)) := by
  refine VC_enter k_spec_l07Hash rfl ?_
  simp (disch := omega) [c_spec_l07Hash, hash, VE, VXR, VP, VB, kof, bl, it]
  rw [Bool.eq_iff_iff]
  simp only [decide_eq_true_eq, beq_iff_eq]
  omega
abbrev n_spec_l08Hashes : Nat := 175
def c_spec_l08Hashes : AF := ⟨1, 4, [.tmp 2], (.seq (.ops [.i (.mov 2 (.c (.val false [.bool false])))]) (.seq (.seq (.ops [.i (.mov 5 (.s 0)), .i (.len 6 false (.s 5)), .i (.mov 7 (.c (.val false [.int .i64 0])))]) (.block 0 (.loop [14, 13, 12, 11, 10, 9, 8, 4] (.seq (.ops [.i (.bin 8 .lss (.s 7) (.s 6))]) (.seq (.cond (.s 8) .skip (.exit 0)) (.seq (.block 1 (.seq (.ops [.i (.iad 9 (.s 5) (.s 7) 1), .i (.ldh 10 (.s 9) 1 false), .i (.mov 4 (.s 10))]) (.seq (.ops [.i (.mov 11 (.s 4)), .i (.call 13 145 false [(.s 11)]), .i (.not 13 (.s 12))]) (.cond (.s 13) (.seq (.ops [.i (.mov 2 (.c (.val false [.bool false])))]) .ret) .skip)))) (.ops [.i (.bin 14 .add (.s 7) (.c (.val false [.int .i64 1]))), .i (.mov 7 (.s 14))]))))))) (.seq (.ops [.i (.mov 2 (.c (.val false [.bool true])))]) .ret)))⟩
theorem k_spec_l08Hashes : cd n_spec_l08Hashes = some c_spec_l08Hashes := by kernel_rfl
theorem l08Hashes_ok (l : List Bytes) (hl : l.length ≤ 1099511627776) : VC cd n_spec_l08Hashes (mkP [(false, [.sl (bss l)])]) (fun rs _ => rs = bl (hashes l)) := by
  refine VC_enter k_spec_l08Hashes rfl ?_
  simp (disch := omega) [c_spec_l08Hashes, bss_len, VE, VXR, VP, VB, kof, bl, it]
  refine VX_loop2 (σ := Nat) (f1 := _) (by simp (disch := omega) [VE, VXR, VP, VB, kof, bl, it]; rfl) (fun i => [(7, .val false [.int .i64 i])]) (fun _ => []) (fun i g => g + i = l.length ∧ ∀ x ∈ l.take i, hash x = true) 0 l.length (by simp (disch := omega) [VE, VXR, VP, VB, kof, bl, it]) trivial ⟨by omega, by simp⟩ ?_
  rintro i n g ⟨hg, hi⟩
  simp (disch := omega) [bss_len, VE, VXR, VP, VB, kof, bl, it]
  refine VXB_dec (fun h1 => ?_) (fun h1 => ?_)
  · simp (disch := omega) [bss_get h1, VE, VXR, VP, VB, kof, bl, it]
    refine VXC_e (l07Hash_ok _) rfl rfl ?_
    simp (disch := omega) [VE, VXR, VP, VB, kof, bl, it]
    refine VXB_b (fun h2 => ?_) (fun h2 => ?_)
    · simp (disch := omega) [VE, VXR, VP, VB, kof, bl, it]
      exact ⟨i + 1, g - 1, by omega, ⟨by omega, take_all hi h1 h2⟩, by simp⟩
    · simp (disch := omega) [VE, VXR, VP, VB, kof, bl, it]
      exact hashes_no h1 h2
  · simp (disch := omega) [VE, VXR, VP, VB, kof, bl, it]
    have : i = l.length := by omega
    subst this
    exact hashes_of hi
/-! ### Bitmaps -/
def bsz (n : Int) : Int := if n < 1 then 0 else (n - 1) / 8 + 1
abbrev n_impl_BitsSize : Nat := 201
def c_impl_BitsSize : AF := ⟨1, 4, [.tmp 2], (.seq (.ops [.i (.mov 2 (.c (.val false [.int .i64 0])))]) (.seq (.seq (.ops [.i (.mov 3 (.s 0)), .i (.bin 4 .lss (.s 3) (.c (.val false [.int .i64 1])))]) (.cond (.s 4) (.seq (.ops [.i (.mov 2 (.c (.val false [.int .i64 0])))]) .ret) .skip)) (.seq (.ops [.i (.mov 5 (.s 0)), .i (.bin 6 .sub (.s 5) (.c (.val false [.int .i64 1]))), .i (.bin 7 .quo (.s 6) (.c (.val false [.int .i64 8]))), .i (.bin 8 .add (.s 7) (.c (.val false [.int .i64 1]))), .i (.mov 2 (.s 8))]) .ret)))⟩
theorem k_impl_BitsSize : cd n_impl_BitsSize = some c_impl_BitsSize := by kernel_rfl
theorem impl_BitsSize_ok (n : Int) (h1 : -9223372036854775808 ≤ n) (h2 : n < 9223372036854775808) : VC cd n_impl_BitsSize (mkP [(false, [.int .i64 n])]) (fun rs _ => rs = it (bsz n)) := by
  refine VC_enter k_impl_BitsSize rfl ?_
  simp (disch := omega) [c_impl_BitsSize, VE, VXR, VP, VB, kof, bl, it]
  refine VXB_dec (fun h3 => ?_) (fun h3 => ?_)
  · simp (disch := omega) [bsz, h3, VE, VXR, VP, VB, kof, bl, it]
  · have e : (n - 1).tdiv 8 = (n - 1) / 8 := Int.tdiv_eq_ediv_of_nonneg (by omega)
    simp (disch := omega) [bsz, e, VE, VXR, VP, VB, kof, bl, it]
    omega
abbrev n_spec_BitsSize : Nat := 191
def c_spec_BitsSize : AF := ⟨1, 4, [.tmp 2], (.seq (.ops [.i (.mov 2 (.c (.val false [.int .i64 0])))]) (.seq (.seq (.ops [.i (.mov 3 (.s 0)), .i (.bin 4 .lss (.s 3) (.c (.val false [.int .i64 1])))]) (.cond (.s 4) (.seq (.ops [.i (.mov 2 (.c (.val false [.int .i64 0])))]) .ret) .skip)) (.seq (.ops [.i (.mov 5 (.s 0)), .i (.bin 6 .sub (.s 5) (.c (.val false [.int .i64 1]))), .i (.bin 7 .quo (.s 6) (.c (.val false [.int .i64 8]))), .i (.bin 8 .add (.s 7) (.c (.val false [.int .i64 1]))), .i (.mov 2 (.s 8))]) .ret)))⟩
theorem k_spec_BitsSize : cd n_spec_BitsSize = some c_spec_BitsSize := by kernel_rfl
theorem spec_BitsSize_ok (n : Int) (h1 : -9223372036854775808 ≤ n) (h2 : n < 9223372036854775808) : VC cd n_spec_BitsSize (mkP [(false, [.int .i64 n])]) (fun rs _ => rs = it (bsz n)) := by
  refine VC_enter k_spec_BitsSize rfl ?_
  simp (disch := omega) [c_spec_BitsSize, VE, VXR, VP, VB, kof, bl, it]
  refine VXB_dec (fun h3 => ?_) (fun h3 => ?_)
  · simp (disch := omega) [bsz, h3, VE, VXR, VP, VB, kof, bl, it]
  · have e : (n - 1).tdiv 8 = (n - 1) / 8 := Int.tdiv_eq_ediv_of_nonneg (by omega)
    simp (disch := omega) [bsz, e, VE, VXR, VP, VB, kof, bl, it]
    omega
/-- Is bit i set? -/
def hasBit (b : Bytes) (i : Nat) : Bool := match b[i / 8]? with | some x => x.toNat.testBit (i % 8) | none => false
theorem bit_impl : ∀ x < 256, ∀ s < 8, decide (bits2 .and .u8 (Int.fdiv (x : Nat) (2 ^ (min s 8))) 1 = 1) = Nat.testBit x s := by decide +kernel
theorem bit_spec : ∀ x < 256, ∀ s < 8, decide (Int.tmod (Int.fdiv (x : Nat) (2 ^ (min s 64))) 2 = 1) = Nat.testBit x s := by decide +kernel
theorem tdiv8 (i : Nat) : Int.tdiv (i : Int) 8 = ((i / 8 : Nat) : Int) := by rw [Int.tdiv_eq_ediv_of_nonneg (by omega)]; omega
theorem tmod8 (i : Nat) : Int.tmod (i : Int) 8 = ((i % 8 : Nat) : Int) := by rw [Int.tmod_eq_emod_of_nonneg (by omega)]; omega
theorem u8lt (x : UInt8) : x.toNat < 256 := x.toNat_lt
theorem hasBit_in {b : Bytes} {i : Nat} (h : i / 8 < b.length) : hasBit b i = b[i / 8].toNat.testBit (i % 8) := by simp [hasBit, h]
theorem hasBit_out {b : Bytes} {i : Nat} (h : ¬ i / 8 < b.length) : hasBit b i = false := by
  unfold hasBit
  rw [List.getElem?_eq_none (by omega)]
theorem nat8 (i : Nat) : (0 : Int) ≤ (i : Int) / 8 ∧ ((i : Int) / 8).toNat = i / 8 ∧ ¬ (i : Int) % 8 < 0 ∧ ((i : Int) % 8).toNat = i % 8 := by omega
abbrev n_impl_BitsHas : Nat := 209
def c_impl_BitsHas : AF := ⟨2, 5, [.tmp 4], (.seq (.ops [.i (.mov 4 (.c (.val false [.bool false])))]) (.seq (.ops [.i (.mov 5 (.s 1)), .i (.mov 6 (.s 0)), .i (.len 7 false (.s 6)), .i (.bin 8 .mul (.c (.val false [.int .i64 8])) (.s 7)), .i (.bin 9 .sub (.s 8) (.c (.val false [.int .i64 1]))), .i (.call 11 168 false [(.s 5), (.c (.val false [.int .i64 0])), (.s 9)]), .i (.mov 11 (.s 10)), .g 11 true 13 (.mov 12 (.s 0)), .g 11 true 14 (.mov 13 (.s 1)), .g 11 true 15 (.bin 14 .quo (.s 13) (.c (.val false [.int .i64 8]))), .g 11 true 16 (.iad 15 (.s 12) (.s 14) 1), .g 11 true 17 (.ldh 16 (.s 15) 1 false), .g 11 true 18 (.mov 17 (.s 1)), .g 11 true 19 (.bin 18 .rem (.s 17) (.c (.val false [.int .i64 8]))), .g 11 true 20 (.bin 19 .shr (.s 16) (.s 18)), .g 11 true 21 (.bin 20 .and (.s 19) (.c (.val false [.int .u8 1]))), .g 11 true 22 (.bin 21 .eql (.s 20) (.c (.val false [.int .u8 1]))), .i (.pick 22 (.s 11) (.s 21) (.c (.val false [.bool false]))), .i (.mov 4 (.s 22))]) .ret))⟩
theorem k_impl_BitsHas : cd n_impl_BitsHas = some c_impl_BitsHas := by kernel_rfl
theorem impl_BitsHas_ok (b : Bytes) (i : Nat) (hb : b.length ≤ 1099511627776) (hi : i ≤ 1099511627776) : VC cd n_impl_BitsHas (mkP [(false, [.sl (bytes b)]), (false, [.int .i64 i])]) (fun rs _ => rs = bl (hasBit b i)) := by
  refine VC_enter k_impl_BitsHas rfl ?_
  simp (disch := omega) [c_impl_BitsHas, VE, VXR, VP, VB, kof, bl, it]
  refine VXC_e (within_ok _ _ _) rfl rfl ?_
  simp (disch := omega) [VE, VXR, VP, VB, kof, bl, it]
  refine VXB_b (fun h1 => ?_) (fun h1 => ?_)
  · have hx : i / 8 < b.length := by simp [inn] at h1; omega
    have e := bit_impl b[i / 8].toNat (u8lt _) (i % 8) (Nat.mod_lt _ (by omega))
    rw [hasBit_in hx, ← e]
    simp (disch := omega) [h1, tdiv8, tmod8, bytes_get hx, nat8 i, IntKind.bits, VE, VXR, VP, VB, kof, bl, it]
  · simp (disch := omega) [h1, VE, VXR, VP, VB, kof, bl, it]
    refine hasBit_out ?_
    simp [inn] at h1
    omega
abbrev n_spec_BitsHas : Nat := 204
def c_spec_BitsHas : AF := ⟨2, 5, [.tmp 4], (.seq (.ops [.i (.mov 4 (.c (.val false [.bool false])))]) (.seq (.ops [.i (.mov 5 (.s 1)), .i (.bin 6 .geq (.s 5) (.c (.val false [.int .i64 0]))), .i (.mov 7 (.s 6)), .g 7 true 9 (.mov 8 (.s 1)), .g 7 true 10 (.bin 9 .quo (.s 8) (.c (.val false [.int .i64 8]))), .g 7 true 11 (.mov 10 (.s 0)), .g 7 true 12 (.len 11 false (.s 10)), .g 7 true 13 (.bin 12 .lss (.s 9) (.s 11)), .i (.pick 13 (.s 7) (.s 12) (.c (.val false [.bool false]))), .i (.mov 14 (.s 13)), .g 14 true 16 (.mov 15 (.s 0)), .g 14 true 17 (.mov 16 (.s 1)), .g 14 true 18 (.bin 17 .quo (.s 16) (.c (.val false [.int .i64 8]))), .g 14 true 19 (.iad 18 (.s 15) (.s 17) 1), .g 14 true 20 (.ldh 19 (.s 18) 1 false), .g 14 true 21 (.cvi 20 .i64 (.s 19)), .g 14 true 22 (.mov 21 (.s 1)), .g 14 true 23 (.bin 22 .rem (.s 21) (.c (.val false [.int .i64 8]))), .g 14 true 24 (.bin 23 .shr (.s 20) (.s 22)), .g 14 true 25 (.bin 24 .rem (.s 23) (.c (.val false [.int .i64 2]))), .g 14 true 26 (.bin 25 .eql (.s 24) (.c (.val false [.int .i64 1]))), .i (.pick 26 (.s 14) (.s 25) (.c (.val false [.bool false]))), .i (.mov 4 (.s 26))]) .ret))⟩
theorem k_spec_BitsHas : cd n_spec_BitsHas = some c_spec_BitsHas := by kernel_rfl
theorem spec_BitsHas_ok (b : Bytes) (i : Nat) (hb : b.length ≤ 1099511627776) (hi : i ≤ 1099511627776) : VC cd n_spec_BitsHas (mkP [(false, [.sl (bytes b)]), (false, [.int .i64 i])]) (fun rs _ => rs = bl (hasBit b i)) := by
  refine VC_enter k_spec_BitsHas rfl ?_
  simp (disch := omega) [c_spec_BitsHas, tdiv8, VE, VXR, VP, VB, kof, bl, it]
  refine VXB_dec (fun h1 => ?_) (fun h1 => ?_)
  · have hx : i / 8 < b.length := by omega
    have e := bit_spec b[i / 8].toNat (u8lt _) (i % 8) (Nat.mod_lt _ (by omega))
    have hw : IntKind.i64.wrap (b[i / 8].toNat : Int) = b[i / 8].toNat := w64 (by omega) (by have := u8lt b[i / 8]; omega)
    rw [hasBit_in hx, ← e]
    simp (disch := omega) [h1, tdiv8, tmod8, bytes_get hx, nat8 i, hw, IntKind.bits, VE, VXR, VP, VB, kof, bl, it]
  · simp (disch := omega) [h1, VE, VXR, VP, VB, kof, bl, it]
    exact hasBit_out (by omega)
/-! ### The set bits -/
def bitsList (b : Bytes) : List Nat := (List.range (8 * b.length)).filter (hasBit b)
def nats (l : List Nat) : List (List D) := l.map fun (n : Nat) => [.int .i64 (n : Int)]
theorem nats_len (l : List Nat) : (nats l).length = l.length := by simp [nats]
theorem flat_nats (l : List Nat) : flat (nats l) = true := by
  induction l with
  | nil => rfl
  | cons n l ih => simp only [nats, List.map_cons, flat, leafs, D.leaf] at ih ⊢; simpa using ih
theorem wid_nats (l : List Nat) : wid 1 (nats l) = true := by
  induction l with
  | nil => rfl
  | cons n l ih => simp only [nats, List.map_cons, wid] at ih ⊢; simpa using ih
theorem nats_snoc (l : List Nat) (n : Nat) : nats l ++ [[.int .i64 (n : Int)]] = nats (l ++ [n]) := by simp [nats]
theorem nats_get {l : List Nat} {i : Nat} (h : i < l.length) : (nats l)[i]? = some [.int .i64 (l[i] : Int)] := by simp [nats, h]
theorem filter_succ (p : Nat → Bool) (i : Nat) : (List.range (i + 1)).filter p = (List.range i).filter p ++ (if p i = true then [i] else []) := by
  rw [List.range_succ, List.filter_append]
  congr 1
  cases h : p i <;> simp [h]
theorem filter_le (p : Nat → Bool) (i : Nat) : ((List.range i).filter p).length ≤ i := by
  have := List.length_filter_le p (List.range i)
  simpa using this
abbrev n_impl_BitsList : Nat := 202
def c_impl_BitsList : AF := ⟨1, 5, [.tmp 2], (.seq (.ops [.i (.mov 2 (.c (.val false [.nils])))]) (.seq (.ops [.i (.bse 5), .i (.mov 3 (.s 5))]) (.seq (.seq (.ops [.i (.mov 6 (.s 0)), .i (.len 7 false (.s 6)), .i (.bin 8 .mul (.c (.val false [.int .i64 8])) (.s 7)), .i (.mov 9 (.c (.val false [.int .i64 0])))]) (.block 0 (.loop [19, 18, 17, 16, 15, 14, 13, 12, 11, 10, 4] (.seq (.ops [.i (.bin 10 .lss (.s 9) (.s 8))]) (.seq (.cond (.s 10) .skip (.exit 0)) (.seq (.block 1 (.seq (.ops [.i (.mov 11 (.s 9)), .i (.mov 4 (.s 11))]) (.seq (.ops [.i (.mov 12 (.s 0)), .i (.mov 13 (.s 4)), .i (.call 15 209 false [(.s 12), (.s 13)])]) (.cond (.s 14) (.ops [.i (.mov 15 (.s 3)), .i (.mov 16 (.s 4)), .i (.lsl 17 1 1 [.int .i64 0] [(0, 1, (.s 16))]), .i (.app 18 3 1 8 (.s 15) (.s 17)), .i (.mov 3 (.s 18))]) .skip)))) (.ops [.i (.bin 19 .add (.s 9) (.c (.val false [.int .i64 1]))), .i (.mov 9 (.s 19))]))))))) (.seq (.ops [.i (.mov 20 (.s 3)), .i (.mov 2 (.s 20))]) .ret))))⟩
theorem k_impl_BitsList : cd n_impl_BitsList = some c_impl_BitsList := by kernel_rfl
theorem impl_BitsList_ok (b : Bytes) (hb : b.length ≤ 1073741824) : VC cd n_impl_BitsList (mkP [(false, [.sl (bytes b)])]) (fun rs _ => rs = [(false, [.o true (some (3, 1)) (nats (bitsList b))])]) := by
  refine VC_enter k_impl_BitsList rfl ?_
  simp (disch := omega) [c_impl_BitsList, VE, VXR, VP, VB, kof, bl, it]
  refine VX_loop2 (σ := Nat × Nat) (f1 := _) (by simp (disch := omega) [VE, VXR, VP, VB, kof, bl, it]; rfl) (fun p => [(9, .val false [.int .i64 p.1]), (3, .val false [.ow 5 p.2])]) (fun p => [(5, .sl p.2 true true (some (3, 1)) (nats ((List.range p.1).filter (hasBit b))))])
    (fun p g => g + p.1 = 8 * b.length) (0, 1) (8 * b.length) (by simp (disch := omega) [VE, VXR, VP, VB, kof, bl, it]) (by simp (disch := omega) [nats, VE, VXR, VP, VB, kof, bl, it]) (by omega) ?_
  rintro ⟨i, v⟩ n g hg
  simp only at hg
  simp (disch := omega) [VE, VXR, VP, VB, kof, bl, it]
  refine VXB_dec (fun h1 => ?_) (fun h1 => ?_)
  · simp (disch := omega) [VE, VXR, VP, VB, kof, bl, it]
    refine VXC_e (impl_BitsHas_ok b i (by omega) (by omega)) rfl rfl ?_
    simp (disch := omega) [VE, VXR, VP, VB, kof, bl, it]
    refine VXB_b (fun h2 => ?_) (fun h2 => ?_)
    · have hl := filter_le (hasBit b) i
      simp (disch := omega) [nats_len, wid_nats, flat_nats, VE, VXR, VP, VB, kof, bl, it]
      exact ⟨i + 1, n + 1, g - 1, by omega, by omega, ⟨rfl, by omega⟩, rfl, by rw [filter_succ, h2, if_pos rfl, ← nats_snoc]⟩
    · simp (disch := omega) [VE, VXR, VP, VB, kof, bl, it]
      exact ⟨i + 1, v, g - 1, by omega, by omega, ⟨rfl, by omega⟩, rfl, by rw [filter_succ, h2]; simp⟩
  · simp (disch := omega) [VE, VXR, VP, VB, kof, bl, it]
    have : i = 8 * b.length := by omega
    subst this
    rfl
abbrev n_spec_BitsList : Nat := 192
def c_spec_BitsList : AF := ⟨1, 5, [.tmp 2], (.seq (.ops [.i (.mov 2 (.c (.val false [.nils])))]) (.seq (.ops [.i (.bse 5), .i (.mov 3 (.s 5))]) (.seq (.seq (.ops [.i (.mov 4 (.c (.val false [.int .i64 0])))]) (.block 0 (.loop [19, 18, 17, 16, 15, 14, 13, 12, 11, 10, 9, 8, 7, 6] (.seq (.seq (.ops [.i (.mov 6 (.s 4)), .i (.mov 7 (.s 0)), .i (.len 8 false (.s 7)), .i (.bin 9 .mul (.c (.val false [.int .i64 8])) (.s 8)), .i (.bin 10 .lss (.s 6) (.s 9))]) (.cond (.s 10) .skip (.exit 0))) (.seq (.block 1 (.seq (.ops [.i (.mov 13 (.s 0)), .i (.mov 14 (.s 4)), .i (.call 16 204 false [(.s 13), (.s 14)])]) (.cond (.s 15) (.ops [.i (.mov 16 (.s 3)), .i (.mov 17 (.s 4)), .i (.lsl 18 1 1 [.int .i64 0] [(0, 1, (.s 17))]), .i (.app 19 3 1 8 (.s 16) (.s 18)), .i (.mov 3 (.s 19))]) .skip))) (.ops [.i (.mov 11 (.s 4)), .i (.bin 12 .add (.s 11) (.c (.val false [.int .i64 1]))), .i (.mov 4 (.s 12))])))))) (.seq (.ops [.i (.mov 20 (.s 3)), .i (.mov 2 (.s 20))]) .ret))))⟩
theorem k_spec_BitsList : cd n_spec_BitsList = some c_spec_BitsList := by kernel_rfl
theorem spec_BitsList_ok (b : Bytes) (hb : b.length ≤ 1073741824) : VC cd n_spec_BitsList (mkP [(false, [.sl (bytes b)])]) (fun rs _ => rs = [(false, [.o true (some (3, 1)) (nats (bitsList b))])]) := by
  refine VC_enter k_spec_BitsList rfl ?_
  simp (disch := omega) [c_spec_BitsList, VE, VXR, VP, VB, kof, bl, it]
  refine VX_loop2 (σ := Nat × Nat) (f1 := _) (by simp (disch := omega) [VE, VXR, VP, VB, kof, bl, it]; rfl) (fun p => [(4, .val false [.int .i64 p.1]), (3, .val false [.ow 5 p.2])]) (fun p => [(5, .sl p.2 true true (some (3, 1)) (nats ((List.range p.1).filter (hasBit b))))])
    (fun p g => g + p.1 = 8 * b.length) (0, 1) (8 * b.length) (by simp (disch := omega) [VE, VXR, VP, VB, kof, bl, it]) (by simp (disch := omega) [nats, VE, VXR, VP, VB, kof, bl, it]) (by omega) ?_
  rintro ⟨i, v⟩ n g hg
  simp only at hg
  simp (disch := omega) [VE, VXR, VP, VB, kof, bl, it]
  refine VXB_dec (fun h1 => ?_) (fun h1 => ?_)
  · simp (disch := omega) [VE, VXR, VP, VB, kof, bl, it]
    refine VXC_e (spec_BitsHas_ok b i (by omega) (by omega)) rfl rfl ?_
    simp (disch := omega) [VE, VXR, VP, VB, kof, bl, it]
    refine VXB_b (fun h2 => ?_) (fun h2 => ?_)
    · have hl := filter_le (hasBit b) i
      simp (disch := omega) [nats_len, wid_nats, flat_nats, VE, VXR, VP, VB, kof, bl, it]
      exact ⟨i + 1, n + 1, g - 1, by omega, by omega, ⟨by omega, rfl⟩, rfl, by rw [filter_succ, h2, if_pos rfl, ← nats_snoc]⟩
    · simp (disch := omega) [VE, VXR, VP, VB, kof, bl, it]
      exact ⟨i + 1, v, g - 1, by omega, by omega, ⟨by omega, rfl⟩, rfl, by rw [filter_succ, h2]; simp⟩
  · simp (disch := omega) [VE, VXR, VP, VB, kof, bl, it]
    have : i = 8 * b.length := by omega
    subst this
    rfl
def allBelow (l : List Nat) (n : Int) : Bool := l.all fun i => decide ((i : Int) < n)
def bitsOk (b : Bytes) (n : Int) : Bool := inn n 1 10 && decide ((b.length : Int) = bsz n) && allBelow (bitsList b) n
theorem bitsList_len (b : Bytes) : (bitsList b).length ≤ 8 * b.length := filter_le _ _
theorem inn_t {n lo hi : Int} (h : inn n lo hi = true) : lo ≤ n ∧ n ≤ hi := by simpa [inn] using h
theorem below_of {l : List Nat} {n : Int} (h : ∀ x ∈ l.take l.length, (x : Int) < n) : allBelow l n = true := by
  rw [List.take_length] at h
  simpa [allBelow] using h
theorem below_no {l : List Nat} {n : Int} {i : Nat} (hi : i < l.length) (h : n ≤ (l[i] : Int)) : allBelow l n = false := by
  simp only [allBelow, List.all_eq_false]
  exact ⟨l[i], List.getElem_mem hi, by simpa using h⟩
abbrev n_impl_BitsOk : Nat := 189
def c_impl_BitsOk : AF := ⟨2, 5, [.tmp 4], (.seq (.ops [.i (.mov 4 (.c (.val false [.bool false])))]) (.seq (.seq (.ops [.i (.mov 7 (.s 1)), .i (.call 9 168 false [(.s 7), (.c (.val false [.int .i64 1])), (.c (.val false [.int .i64 10]))]), .i (.not 9 (.s 8)), .i (.mov 10 (.s 9)), .g 10 false 12 (.mov 11 (.s 0)), .g 10 false 13 (.len 12 false (.s 11)), .g 10 false 14 (.mov 13 (.s 1)), .g 10 false 15 (.call 15 201 false [(.s 13)]), .g 10 false 16 (.bin 15 .neq (.s 12) (.s 14)), .i (.pick 16 (.s 10) (.c (.val false [.bool true])) (.s 15))]) (.cond (.s 16) (.seq (.ops [.i (.mov 4 (.c (.val false [.bool false])))]) .ret) .skip)) (.seq (.seq (.ops [.i (.mov 17 (.s 0)), .i (.call 19 202 false [(.s 17)]), .i (.len 19 false (.s 18)), .i (.mov 20 (.c (.val false [.int .i64 0])))]) (.block 0 (.loop [27, 26, 25, 24, 23, 22, 21, 6] (.seq (.ops [.i (.bin 21 .lss (.s 20) (.s 19))]) (.seq (.cond (.s 21) .skip (.exit 0)) (.seq (.block 1 (.seq (.ops [.i (.iad 22 (.s 18) (.s 20) 1), .i (.ldh 23 (.s 22) 1 false), .i (.mov 6 (.s 23))]) (.seq (.ops [.i (.mov 24 (.s 6)), .i (.mov 25 (.s 1)), .i (.bin 26 .geq (.s 24) (.s 25))]) (.cond (.s 26) (.seq (.ops [.i (.mov 4 (.c (.val false [.bool false])))]) .ret) .skip)))) (.ops [.i (.bin 27 .add (.s 20) (.c (.val false [.int .i64 1]))), .i (.mov 20 (.s 27))]))))))) (.seq (.ops [.i (.mov 4 (.c (.val false [.bool true])))]) .ret))))⟩
theorem k_impl_BitsOk : cd n_impl_BitsOk = some c_impl_BitsOk := by kernel_rfl
theorem impl_BitsOk_ok (b : Bytes) (n : Int) (hb : b.length ≤ 1073741824) (hn : -9223372036854775808 ≤ n ∧ n < 9223372036854775808) : VC cd n_impl_BitsOk (mkP [(false, [.sl (bytes b)]), (false, [.int .i64 n])]) (fun rs _ => rs = bl (bitsOk b n)) := by
  refine VC_enter k_impl_BitsOk rfl ?_
  simp (disch := omega) [c_impl_BitsOk, VE, VXR, VP, VB, kof, bl, it]
  refine VXC_e (within_ok _ _ _) rfl rfl ?_
  simp (disch := omega) [VE, VXR, VP, VB, kof, bl, it]
  refine VXB_b (fun h1 => ?_) (fun h1 => ?_)
  · simp (disch := omega) [h1, VE, VXR, VP, VB, kof, bl, it]
    refine VXC_e (impl_BitsSize_ok _ hn.1 hn.2) rfl rfl ?_
    simp (disch := omega) [h1, VE, VXR, VP, VB, kof, bl, it]
    refine VXB_dec (fun h2 => ?_) (fun h2 => ?_)
    · simp (disch := omega) [h1, h2, VE, VXR, VP, VB, kof, bl, it]
      refine VXC_e (impl_BitsList_ok b hb) rfl rfl ?_
      simp (disch := omega) [nats_len, VE, VXR, VP, VB, kof, bl, it]
      have hl := bitsList_len b
      refine VX_loop3 (σ := Nat) (f1 := _) (es0 := _) (by simp (disch := omega) [VE, VXR, VP, VB, kof, bl, it]; rfl) (by simp (disch := omega) [VE, VXR, VP, VB, kof, bl, it]; rfl) (fun i => [(20, .val false [.int .i64 i])]) (fun _ => []) (fun i g => g + i = (bitsList b).length ∧ ∀ x ∈ (bitsList b).take i, (x : Int) < n) 0 (bitsList b).length (by simp (disch := omega) [VE, VXR, VP, VB, kof, bl, it]) (by simp (disch := omega) [VE, VXR, VP, VB, kof, bl, it]) ⟨by omega, by simp⟩ ?_
      rintro i m g ⟨hg, hi⟩
      simp (disch := omega) [VE, VXR, VP, VB, kof, bl, it]
      refine VXB_dec (fun h3 => ?_) (fun h3 => ?_)
      · have hx : i < (bitsList b).length := by omega
        simp (disch := omega) [nats_get hx, VE, VXR, VP, VB, kof, bl, it]
        refine VXB_dec (fun h4 => ?_) (fun h4 => ?_)
        · simp (disch := omega) [VE, VXR, VP, VB, kof, bl, it]
          simp [bitsOk, h1, h2, below_no hx h4]
        · simp (disch := omega) [VE, VXR, VP, VB, kof, bl, it]
          exact ⟨i + 1, g - 1, by omega, ⟨by omega, take_all hi hx (by omega)⟩, by simp⟩
      · simp (disch := omega) [VE, VXR, VP, VB, kof, bl, it]
        have : i = (bitsList b).length := by omega
        subst this
        simp [bitsOk, h1, h2, below_of hi]
    · simp (disch := omega) [h1, h2, bitsOk, VE, VXR, VP, VB, kof, bl, it]
  · simp (disch := omega) [h1, bitsOk, VE, VXR, VP, VB, kof, bl, it]
theorem pairwise_last {l : List Nat} {n : Int} (hp : l.Pairwise (· < ·)) (hl : 0 < l.length) : allBelow l n = decide ((l[l.length - 1] : Int) < n) := by
  rw [Bool.eq_iff_iff]
  simp only [allBelow, List.all_eq_true, decide_eq_true_eq]
  constructor
  · intro h; exact h _ (List.getElem_mem _)
  · intro h x hx
    obtain ⟨i, hi, rfl⟩ := List.getElem_of_mem hx
    by_cases he : i = l.length - 1
    · subst he; exact h
    · have := List.pairwise_iff_getElem.1 hp i (l.length - 1) hi (by omega) (by omega)
      omega
theorem bitsList_sorted (b : Bytes) : (bitsList b).Pairwise (· < ·) := List.Pairwise.filter _ List.pairwise_lt_range
abbrev n_spec_BitsOk : Nat := 173
def c_spec_BitsOk : AF := ⟨2, 5, [.tmp 4], (.seq (.ops [.i (.mov 4 (.c (.val false [.bool false])))]) (.seq (.seq (.ops [.i (.mov 6 (.s 1)), .i (.call 8 172 false [(.s 6)]), .i (.not 8 (.s 7)), .i (.mov 9 (.s 8)), .g 9 false 11 (.mov 10 (.s 0)), .g 9 false 12 (.len 11 false (.s 10)), .g 9 false 13 (.mov 12 (.s 1)), .g 9 false 14 (.call 14 191 false [(.s 12)]), .g 9 false 15 (.bin 14 .neq (.s 11) (.s 13)), .i (.pick 15 (.s 9) (.c (.val false [.bool true])) (.s 14))]) (.cond (.s 15) (.seq (.ops [.i (.mov 4 (.c (.val false [.bool false])))]) .ret) .skip)) (.seq (.ops [.i (.mov 16 (.s 0)), .i (.call 18 192 false [(.s 16)]), .i (.mov 5 (.s 17))]) (.seq (.ops [.i (.mov 18 (.s 5)), .i (.len 19 false (.s 18)), .i (.bin 20 .eql (.s 19) (.c (.val false [.int .i64 0]))), .i (.mov 21 (.s 20)), .g 21 false 23 (.mov 22 (.s 5)), .g 21 false 24 (.mov 23 (.s 5)), .g 21 false 25 (.len 24 false (.s 23)), .g 21 false 26 (.bin 25 .sub (.s 24) (.c (.val false [.int .i64 1]))), .g 21 false 27 (.iad 26 (.s 22) (.s 25) 1), .g 21 false 28 (.ldh 27 (.s 26) 1 false), .g 21 false 29 (.mov 28 (.s 1)), .g 21 false 30 (.bin 29 .lss (.s 27) (.s 28)), .i (.pick 30 (.s 21) (.c (.val false [.bool true])) (.s 29)), .i (.mov 4 (.s 30))]) .ret))))⟩
theorem k_spec_BitsOk : cd n_spec_BitsOk = some c_spec_BitsOk := by kernel_rfl
theorem spec_BitsOk_ok (b : Bytes) (n : Int) (hb : b.length ≤ 1073741824) (hn : -9223372036854775808 ≤ n ∧ n < 9223372036854775808) : VC cd n_spec_BitsOk (mkP [(false, [.sl (bytes b)]), (false, [.int .i64 n])]) (fun rs _ => rs = bl (bitsOk b n)) := by
  refine VC_enter k_spec_BitsOk rfl ?_
  simp (disch := omega) [c_spec_BitsOk, VE, VXR, VP, VB, kof, bl, it]
  refine VXC_e (spec_l02Signers_ok _) rfl rfl ?_
  simp (disch := omega) [VE, VXR, VP, VB, kof, bl, it]
  refine VXB_b (fun h1 => ?_) (fun h1 => ?_)
  · simp (disch := omega) [h1, VE, VXR, VP, VB, kof, bl, it]
    refine VXC_e (spec_BitsSize_ok _ hn.1 hn.2) rfl rfl ?_
    simp (disch := omega) [h1, VE, VXR, VP, VB, kof, bl, it]
    refine VXB_dec (fun h2 => ?_) (fun h2 => ?_)
    · simp (disch := omega) [h1, h2, VE, VXR, VP, VB, kof, bl, it]
      refine VXC_e (spec_BitsList_ok b hb) rfl rfl ?_
      have hl := bitsList_len b
      simp (disch := omega) [nats_len, VE, VXR, VP, VB, kof, bl, it]
      refine VXB_dec (fun h3 => ?_) (fun h3 => ?_)
      · simp (disch := omega) [h3, VE, VXR, VP, VB, kof, bl, it]
        simp [bitsOk, h1, h2, h3, allBelow]
      · have h4 := List.length_pos_iff.2 h3
        have e3 : (1 : Int) ≤ ((bitsList b).length : Int) := by omega
        have hx : (bitsList b).length - 1 < (bitsList b).length := by omega
        have e1 : ((bitsList b).length - 1 : Int).toNat = (bitsList b).length - 1 := by omega
        have e2 : (0 : Int) ≤ ((bitsList b).length : Int) - 1 := by omega
        simp (disch := omega) [h3, nats_len, e1, e2, e3, nats_get hx, VE, VXR, VP, VB, kof, bl, it]
        simp [bitsOk, h1, h2, pairwise_last (bitsList_sorted b) h4]
    · simp (disch := omega) [h1, h2, bitsOk, VE, VXR, VP, VB, kof, bl, it]
  · simp (disch := omega) [h1, bitsOk, VE, VXR, VP, VB, kof, bl, it]
/-! ### How many -/
def ones (x : Nat) : Nat := ((List.range 8).filter (x.testBit)).length
theorem ones_tbl : ∀ x < 256, ((⟨#[0, 1, 1, 2, 1, 2, 2, 3, 1, 2, 2, 3, 2, 3, 3, 4, 1, 2, 2, 3, 2, 3, 3, 4, 2, 3, 3, 4, 3, 4, 4, 5, 1, 2, 2, 3, 2, 3, 3, 4, 2, 3, 3, 4, 3, 4, 4, 5, 2, 3, 3, 4, 3, 4, 4, 5, 3, 4, 4, 5, 4, 5, 5, 6, 1, 2, 2, 3, 2, 3, 3, 4, 2, 3, 3, 4, 3, 4, 4, 5, 2, 3, 3, 4, 3, 4, 4, 5, 3, 4, 4, 5, 4, 5, 5, 6, 2, 3, 3, 4, 3, 4, 4, 5, 3, 4, 4, 5, 4, 5, 5, 6, 3, 4, 4, 5, 4, 5, 5, 6, 4, 5, 5, 6, 5, 6, 6, 7, 1, 2, 2, 3, 2, 3, 3, 4, 2, 3, 3, 4, 3, 4, 4, 5, 2, 3, 3, 4, 3, 4, 4, 5, 3, 4, 4, 5, 4, 5, 5, 6, 2, 3, 3, 4, 3, 4, 4, 5, 3, 4, 4, 5, 4, 5, 5, 6, 3, 4, 4, 5, 4, 5, 5, 6, 4, 5, 5, 6, 5, 6, 6, 7, 2, 3, 3, 4, 3, 4, 4, 5, 3, 4, 4, 5, 4, 5, 5, 6, 3, 4, 4, 5, 4, 5, 5, 6, 4, 5, 5, 6, 5, 6, 6, 7, 3, 4, 4, 5, 4, 5, 5, 6, 4, 5, 5, 6, 5, 6, 6, 7, 4, 5, 5, 6, 5, 6, 6, 7, 5, 6, 6, 7, 6, 7, 7, 8]⟩ : ByteArray).data.toList)[x]? = some (UInt8.ofNat (ones x)) ∧ ones x ≤ 8 := by decide +kernel
abbrev n_math_bits_OnesCount8 : Nat := 203
def c_math_bits_OnesCount8 : AF := ⟨1, 3, [.tmp 2], (.seq (.ops [.i (.mov 2 (.c (.val false [.int .i64 0])))]) (.seq (.ops [.i (.mov 3 (.s 0)), .i (.ids 4 (.c (.val false [.str ⟨#[0, 1, 1, 2, 1, 2, 2, 3, 1, 2, 2, 3, 2, 3, 3, 4, 1, 2, 2, 3, 2, 3, 3, 4, 2, 3, 3, 4, 3, 4, 4, 5, 1, 2, 2, 3, 2, 3, 3, 4, 2, 3, 3, 4, 3, 4, 4, 5, 2, 3, 3, 4, 3, 4, 4, 5, 3, 4, 4, 5, 4, 5, 5, 6, 1, 2, 2, 3, 2, 3, 3, 4, 2, 3, 3, 4, 3, 4, 4, 5, 2, 3, 3, 4, 3, 4, 4, 5, 3, 4, 4, 5, 4, 5, 5, 6, 2, 3, 3, 4, 3, 4, 4, 5, 3, 4, 4, 5, 4, 5, 5, 6, 3, 4, 4, 5, 4, 5, 5, 6, 4, 5, 5, 6, 5, 6, 6, 7, 1, 2, 2, 3, 2, 3, 3, 4, 2, 3, 3, 4, 3, 4, 4, 5, 2, 3, 3, 4, 3, 4, 4, 5, 3, 4, 4, 5, 4, 5, 5, 6, 2, 3, 3, 4, 3, 4, 4, 5, 3, 4, 4, 5, 4, 5, 5, 6, 3, 4, 4, 5, 4, 5, 5, 6, 4, 5, 5, 6, 5, 6, 6, 7, 2, 3, 3, 4, 3, 4, 4, 5, 3, 4, 4, 5, 4, 5, 5, 6, 3, 4, 4, 5, 4, 5, 5, 6, 4, 5, 5, 6, 5, 6, 6, 7, 3, 4, 4, 5, 4, 5, 5, 6, 4, 5, 5, 6, 5, 6, 6, 7, 4, 5, 5, 6, 5, 6, 6, 7, 5, 6, 6, 7, 6, 7, 7, 8]⟩])) (.s 3)), .i (.cvi 5 .i64 (.s 4)), .i (.mov 2 (.s 5))]) .ret))⟩
theorem k_math_bits_OnesCount8 : cd n_math_bits_OnesCount8 = some c_math_bits_OnesCount8 := by kernel_rfl
theorem OnesCount8_ok (x : UInt8) : VC cd n_math_bits_OnesCount8 (mkP [(false, [.int .u8 x.toNat])]) (fun rs _ => rs = it (ones x.toNat)) := by
  obtain ⟨e1, e2⟩ := ones_tbl x.toNat (u8lt x)
  have e3 : (UInt8.ofNat (ones x.toNat)).toNat = ones x.toNat := by simp; omega
  refine VC_enter k_math_bits_OnesCount8 rfl ?_
  simp (disch := omega) only [c_math_bits_OnesCount8, VE, VXR, VP, VB, kof, List.map_cons, List.map_nil, Int.toNat_natCast, e1, e3, simprocAttr, Int.natCast_nonneg, if_true, it]
theorem count_byte (b : Bytes) (i : Nat) (hi : i < b.length) : ((List.range (8 * (i + 1))).filter (hasBit b)).length = ((List.range (8 * i)).filter (hasBit b)).length + ones b[i].toNat := by
  have h8 : ∀ j < 8, hasBit b (8 * i + j) = b[i].toNat.testBit j := by
    intro j hj
    have e : (8 * i + j) / 8 = i := by omega
    have e2 : (8 * i + j) % 8 = j := by omega
    have := hasBit_in (b := b) (i := 8 * i + j) (by rw [e]; exact hi)
    rw [this, e2]
    simp only [e]
  have e : 8 * (i + 1) = 8 * i + 8 := by omega
  rw [e, List.range_add, List.filter_append, List.length_append]
  congr 1
  unfold ones
  rw [List.filter_map, List.length_map]
  congr 1
  refine List.filter_congr fun j hj => ?_
  simp only [List.mem_range] at hj
  exact h8 j hj
abbrev n_impl_BitsCount : Nat := 190
def c_impl_BitsCount : AF := ⟨1, 5, [.tmp 2], (.seq (.ops [.i (.mov 2 (.c (.val false [.int .i64 0])))]) (.seq (.ops [.i (.mov 3 (.c (.val false [.int .i64 0])))]) (.seq (.seq (.ops [.i (.mov 6 (.s 0)), .i (.len 7 false (.s 6)), .i (.mov 8 (.c (.val false [.int .i64 0])))]) (.block 0 (.loop [16, 15, 14, 13, 12, 11, 10, 9, 5] (.seq (.ops [.i (.bin 9 .lss (.s 8) (.s 7))]) (.seq (.cond (.s 9) .skip (.exit 0)) (.seq (.block 1 (.seq (.ops [.i (.iad 10 (.s 6) (.s 8) 1), .i (.ldh 11 (.s 10) 1 false), .i (.mov 5 (.s 11))]) (.ops [.i (.mov 12 (.s 3)), .i (.mov 13 (.s 5)), .i (.call 15 203 false [(.s 13)]), .i (.bin 15 .add (.s 12) (.s 14)), .i (.mov 3 (.s 15))]))) (.ops [.i (.bin 16 .add (.s 8) (.c (.val false [.int .i64 1]))), .i (.mov 8 (.s 16))]))))))) (.seq (.ops [.i (.mov 17 (.s 3)), .i (.mov 2 (.s 17))]) .ret))))⟩
theorem k_impl_BitsCount : cd n_impl_BitsCount = some c_impl_BitsCount := by kernel_rfl
theorem impl_BitsCount_ok (b : Bytes) (hb : b.length ≤ 1073741824) : VC cd n_impl_BitsCount (mkP [(false, [.sl (bytes b)])]) (fun rs _ => rs = it (bitsList b).length) := by
  refine VC_enter k_impl_BitsCount rfl ?_
  simp (disch := omega) [c_impl_BitsCount, VE, VXR, VP, VB, kof, bl, it]
  refine VX_loop3 (σ := Nat) (f1 := _) (es0 := _) (by simp (disch := omega) [VE, VXR, VP, VB, kof, bl, it]; rfl) (by simp (disch := omega) [VE, VXR, VP, VB, kof, bl, it]; rfl) (fun i => [(8, .val false [.int .i64 i]), (3, .val false [.int .i64 ((List.range (8 * i)).filter (hasBit b)).length])]) (fun _ => []) (fun i g => g + i = b.length) 0 b.length (by simp (disch := omega) [VE, VXR, VP, VB, kof, bl, it]) (by simp (disch := omega) [VE, VXR, VP, VB, kof, bl, it]) (by omega) ?_
  rintro i n g hg
  simp (disch := omega) [VE, VXR, VP, VB, kof, bl, it]
  refine VXB_dec (fun h1 => ?_) (fun h1 => ?_)
  · have hx : i < b.length := by omega
    simp (disch := omega) [bytes_get hx, VE, VXR, VP, VB, kof, bl, it]
    refine VXC_e (OnesCount8_ok _) rfl rfl ?_
    have hl := filter_le (hasBit b) (8 * i)
    have ho := (ones_tbl b[i].toNat (u8lt _)).2
    simp (disch := omega) [VE, VXR, VP, VB, kof, bl, it]
    exact ⟨i + 1, g - 1, by omega, by omega, by rw [count_byte b i hx]; omega, by omega⟩
  · simp (disch := omega) [VE, VXR, VP, VB, kof, bl, it]
    have : i = b.length := by omega
    subst this
    rfl
abbrev n_spec_BitsCount : Nat := 174
def c_spec_BitsCount : AF := ⟨1, 3, [.tmp 2], (.seq (.ops [.i (.mov 2 (.c (.val false [.int .i64 0])))]) (.seq (.ops [.i (.mov 3 (.s 0)), .i (.call 5 192 false [(.s 3)]), .i (.len 5 false (.s 4)), .i (.mov 2 (.s 5))]) .ret))⟩
theorem k_spec_BitsCount : cd n_spec_BitsCount = some c_spec_BitsCount := by kernel_rfl
theorem spec_BitsCount_ok (b : Bytes) (hb : b.length ≤ 1073741824) : VC cd n_spec_BitsCount (mkP [(false, [.sl (bytes b)])]) (fun rs _ => rs = it (bitsList b).length) := by
  refine VC_enter k_spec_BitsCount rfl ?_
  simp (disch := omega) [c_spec_BitsCount, VE, VXR, VP, VB, kof, bl, it]
  refine VXC_e (spec_BitsList_ok b hb) rfl rfl ?_
  simp (disch := omega) [nats_len, VE, VXR, VP, VB, kof, bl, it]
end Go.Eng.F
