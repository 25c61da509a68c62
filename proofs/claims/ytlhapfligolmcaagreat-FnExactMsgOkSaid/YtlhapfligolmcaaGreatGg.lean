import Derived.Test.YtlhapfligolmcaaGreatProg
import Derived.KernelRfl
import Derived.Test.YtlhapfligolmcaaGreatGe
import Derived.Test.YtlhapfligolmcaaGreatGf
set_option maxRecDepth 100000
set_option linter.unusedSimpArgs false
set_option linter.unusedVariables false
namespace Go.Eng.F
def qi (n : Int) : X := .c (.val false [.int .i64 n])
def qb (b : Bool) : X := .c (.val false [.bool b])
def qm (a b : Nat) : IT := .i (.mov a (.s b))
def qf (a b n : Nat) : IT := .i (.fad a (.s b) n)
def ql (a b c n : Nat) (g : Bool) : IT := .i (.ldl a b (.s c) n g)
def qz : List C := [.int .i64 0, .int .i64 0, .int .i64 0, .nils, .nils, .int .i64 0, .int .i64 0, .nils, .nils, .nils]
theorem VY : type_of% (And.intro @VW (And.intro @qi.eq_1 (And.intro @qb.eq_1 (And.intro @qm.eq_1 (And.intro @qf.eq_1 (And.intro @ql.eq_1 @qz.eq_1)))))) := And.intro @VW (And.intro @qi.eq_1 (And.intro @qb.eq_1 (And.intro @qm.eq_1 (And.intro @qf.eq_1 (And.intro @ql.eq_1 @qz.eq_1)))))
noncomputable abbrev cd := code Proofs.Tryz.prog
def bss (l : List Bytes) : List (List D) := l.map fun x => [.sl (bytes x)]
theorem bss_len (l : List Bytes) : (bss l).length = l.length := by simp [bss]
theorem bss_get {l : List Bytes} {i : Nat} (h : i < l.length) : (bss l)[i]? = some [.sl (bytes l[i])] := by simp [bss, h]
theorem bytes_get {x : Bytes} {i : Nat} (h : i < x.length) : (bytes x)[i]? = some [.int .u8 (x[i].toNat : Int)] := by simp [bytes, h]
theorem take_all {α : Type} {p : α → Prop} {l : List α} {i : Nat} (h : ∀ x ∈ l.take i, p x) (hi : i < l.length) (hx : p l[i]) : ∀ x ∈ l.take (i + 1), p x := by
 intro x hm
 rw [List.take_add_one, List.getElem?_eq_getElem hi] at hm
 rcases List.mem_append.1 hm with hm | hm
 ·exact h x hm
 ·simp at hm; subst hm; exact hx
def inn (n lo hi : Int) : Bool := decide (lo ≤ n ∧ n ≤ hi)
abbrev n_impl_within : Nat := 62
def c_impl_within : AF := ⟨3, 4, [.tmp 6], (.seq (.ops [.i (.mov 6 (qb false))]) (.seq (.ops [qm 7 1, qm 8 0, .i (.bin 9 .leq (.s 7) (.s 8)), qm 10 9, .g 10 true 12 (.mov 11 (.s 0)), .g 10 true 13 (.mov 12 (.s 2)), .g 10 true 14 (.bin 13 .leq (.s 11) (.s 12)), .i (.pick 14 (.s 10) (.s 13) (qb false)), qm 6 14]) .ret))⟩
theorem k_impl_within : cd n_impl_within = some c_impl_within := by kernel_rfl
theorem within_ok (n lo hi : Int) : VC cd n_impl_within (mkP [(false, [.int .i64 n]), (false, [.int .i64 lo]), (false, [.int .i64 hi])]) (fun rs _ => rs = bl (inn n lo hi)) := by
 refine VC_enter k_impl_within rfl ?_
 simp (disch := omega) [c_impl_within, VY]
 refine VXB_dec (fun h1 => ?_) (fun h1 => ?_) <;> simp (disch := omega) [h1, inn, VY]
abbrev n_spec_l01In : Nat := 152
def c_spec_l01In : AF := ⟨3, 4, [.tmp 6], (.seq (.ops [.i (.mov 6 (qb false))]) (.seq (.ops [qm 7 0, qm 8 1, .i (.bin 9 .geq (.s 7) (.s 8)), qm 10 9, .g 10 true 12 (.mov 11 (.s 0)), .g 10 true 13 (.mov 12 (.s 2)), .g 10 true 14 (.bin 13 .leq (.s 11) (.s 12)), .i (.pick 14 (.s 10) (.s 13) (qb false)), qm 6 14]) .ret))⟩
theorem k_spec_l01In : cd n_spec_l01In = some c_spec_l01In := by kernel_rfl
theorem l01In_ok (n lo hi : Int) : VC cd n_spec_l01In (mkP [(false, [.int .i64 n]), (false, [.int .i64 lo]), (false, [.int .i64 hi])]) (fun rs _ => rs = bl (inn n lo hi)) := by
 refine VC_enter k_spec_l01In rfl ?_
 simp (disch := omega) [c_spec_l01In, VY]
 refine VXB_dec (fun h1 => ?_) (fun h1 => ?_) <;> simp (disch := omega) [h1, inn, VY]
structure Lim where
 n : Int
 tx : Int
 txs : Int
 frame : Int
 heads : Int
def Lim.c (l : Lim) : List D := [.int .i64 l.n, .int .i64 l.tx, .int .i64 l.txs, .int .i64 l.frame, .int .i64 l.heads]
def Lim.ok (l : Lim) : Bool := inn l.n 1 10 && inn l.tx 0 40 && inn l.txs 0 8 && inn l.frame 1 4000 && inn l.heads 3 5
abbrev n_impl_LimitsOk : Nat := 134
def c_impl_LimitsOk : AF := ⟨1, 5, [.tmp 2], (.seq (.ops [.i (.lbox 1 (.s 0)), .i (.mov 2 (qb false))]) (.seq (.ops [qf 3 1 0, ql 4 1 3 1 false, .i (.call 6 62 false [(.s 4), (qi 1), (qi 10)]), qm 6 5, .g 6 true 8 (.fad 7 (.s 1) 1), .g 6 true 9 (.ldl 8 1 (.s 7) 1 false), .g 6 true 10 (.call 10 62 false [(.s 8), (qi 0), (qi 40)]), .i (.pick 10 (.s 6) (.s 9) (qb false)), qm 11 10, .g 11 true 13 (.fad 12 (.s 1) 2), .g 11 true 14 (.ldl 13 1 (.s 12) 1 false), .g 11 true 15 (.call 15 62 false [(.s 13), (qi 0), (qi 8)]), .i (.pick 15 (.s 11) (.s 14) (qb false)), qm 16 15, .g 16 true 18 (.fad 17 (.s 1) 3), .g 16 true 19 (.ldl 18 1 (.s 17) 1 false), .g 16 true 20 (.call 20 62 false [(.s 18), (qi 1), (qi 4000)]), .i (.pick 20 (.s 16) (.s 19) (qb false)), qm 21 20, .g 21 true 23 (.fad 22 (.s 1) 4), .g 21 true 24 (.ldl 23 1 (.s 22) 1 false), .g 21 true 25 (.call 25 62 false [(.s 23), (qi 3), (qi 5)]), .i (.pick 25 (.s 21) (.s 24) (qb false)), qm 2 25]) .ret))⟩
theorem k_impl_LimitsOk : cd n_impl_LimitsOk = some c_impl_LimitsOk := by kernel_rfl
theorem impl_LimitsOk_ok (l : Lim) : VC cd n_impl_LimitsOk (mkP [(true, l.c)]) (fun rs _ => rs = bl l.ok) := by
 refine VC_enter k_impl_LimitsOk rfl ?_
 simp (disch := omega) [c_impl_LimitsOk, Lim.c, VY]
 refine VXC_e (within_ok _ _ _) rfl rfl ?_
 simp (disch := omega) [VY]
 refine VXB_b (fun h1 => ?_) (fun h1 => ?_) <;> simp (disch := omega) [h1, Lim.ok, VY]
 refine VXC_e (within_ok _ _ _) rfl rfl ?_
 simp (disch := omega) [h1, VY]
 refine VXB_b (fun h2 => ?_) (fun h2 => ?_) <;> simp (disch := omega) [h1, h2, VY]
 refine VXC_e (within_ok _ _ _) rfl rfl ?_
 simp (disch := omega) [h1, h2, VY]
 refine VXB_b (fun h3 => ?_) (fun h3 => ?_) <;> simp (disch := omega) [h1, h2, h3, VY]
 refine VXC_e (within_ok _ _ _) rfl rfl ?_
 simp (disch := omega) [h1, h2, h3, VY]
 refine VXB_b (fun h4 => ?_) (fun h4 => ?_) <;> simp (disch := omega) [h1, h2, h3, h4, VY]
 refine VXC_e (within_ok _ _ _) rfl rfl ?_
 simp (disch := omega) [h1, h2, h3, h4, VY]
abbrev n_spec_l02Signers : Nat := 199
def c_spec_l02Signers : AF := ⟨1, 3, [.tmp 2], (.seq (.ops [.i (.mov 2 (qb false))]) (.seq (.ops [qm 3 0, .i (.call 5 152 false [(.s 3), (qi 1), (qi 10)]), qm 2 4]) .ret))⟩
theorem k_spec_l02Signers : cd n_spec_l02Signers = some c_spec_l02Signers := by kernel_rfl
theorem spec_l02Signers_ok (n : Int) : VC cd n_spec_l02Signers (mkP [(false, [.int .i64 n])]) (fun rs _ => rs = bl (inn n 1 10)) := by
 refine VC_enter k_spec_l02Signers rfl ?_
 simp (disch := omega) [c_spec_l02Signers, VY]
 refine VXC_e (l01In_ok _ _ _) rfl rfl ?_
 simp (disch := omega) [VY]
abbrev n_spec_LimitsOk : Nat := 142
def c_spec_LimitsOk : AF := ⟨1, 5, [.tmp 2], (.seq (.ops [.i (.lbox 1 (.s 0)), .i (.mov 2 (qb false))]) (.seq (.ops [qf 3 1 0, ql 4 1 3 1 false, .i (.call 6 199 false [(.s 4)]), qm 6 5, .g 6 true 8 (.fad 7 (.s 1) 1), .g 6 true 9 (.ldl 8 1 (.s 7) 1 false), .g 6 true 10 (.call 10 152 false [(.s 8), (qi 0), (qi 40)]), .i (.pick 10 (.s 6) (.s 9) (qb false)), qm 11 10, .g 11 true 13 (.fad 12 (.s 1) 2), .g 11 true 14 (.ldl 13 1 (.s 12) 1 false), .g 11 true 15 (.call 15 152 false [(.s 13), (qi 0), (qi 8)]), .i (.pick 15 (.s 11) (.s 14) (qb false)), qm 16 15, .g 16 true 18 (.fad 17 (.s 1) 3), .g 16 true 19 (.ldl 18 1 (.s 17) 1 false), .g 16 true 20 (.call 20 152 false [(.s 18), (qi 1), (qi 4000)]), .i (.pick 20 (.s 16) (.s 19) (qb false)), qm 21 20, .g 21 true 23 (.fad 22 (.s 1) 4), .g 21 true 24 (.ldl 23 1 (.s 22) 1 false), .g 21 true 25 (.call 25 152 false [(.s 23), (qi 3), (qi 5)]), .i (.pick 25 (.s 21) (.s 24) (qb false)), qm 2 25]) .ret))⟩
theorem k_spec_LimitsOk : cd n_spec_LimitsOk = some c_spec_LimitsOk := by kernel_rfl
theorem spec_LimitsOk_ok (l : Lim) : VC cd n_spec_LimitsOk (mkP [(true, l.c)]) (fun rs _ => rs = bl l.ok) := by
 refine VC_enter k_spec_LimitsOk rfl ?_
 simp (disch := omega) [c_spec_LimitsOk, Lim.c, VY]
 refine VXC_e (spec_l02Signers_ok _) rfl rfl ?_
 simp (disch := omega) [VY]
 refine VXB_b (fun h1 => ?_) (fun h1 => ?_) <;> simp (disch := omega) [h1, Lim.ok, VY]
 refine VXC_e (l01In_ok _ _ _) rfl rfl ?_
 simp (disch := omega) [h1, VY]
 refine VXB_b (fun h2 => ?_) (fun h2 => ?_) <;> simp (disch := omega) [h1, h2, VY]
 refine VXC_e (l01In_ok _ _ _) rfl rfl ?_
 simp (disch := omega) [h1, h2, VY]
 refine VXB_b (fun h3 => ?_) (fun h3 => ?_) <;> simp (disch := omega) [h1, h2, h3, VY]
 refine VXC_e (l01In_ok _ _ _) rfl rfl ?_
 simp (disch := omega) [h1, h2, h3, VY]
 refine VXB_b (fun h4 => ?_) (fun h4 => ?_) <;> simp (disch := omega) [h1, h2, h3, h4, VY]
 refine VXC_e (l01In_ok _ _ _) rfl rfl ?_
 simp (disch := omega) [h1, h2, h3, h4, VY]
def isNum (n : Int) : Bool := inn n 0 1152921504606846975
abbrev n_impl_isNum : Nat := 213
def c_impl_isNum : AF := ⟨1, 3, [.tmp 2], (.seq (.ops [.i (.mov 2 (qb false))]) (.seq (.ops [qm 3 0, .i (.call 5 62 false [(.s 3), (qi 0), (qi 1152921504606846975)]), qm 2 4]) .ret))⟩
theorem k_impl_isNum : cd n_impl_isNum = some c_impl_isNum := by kernel_rfl
theorem isNum_ok (n : Int) : VC cd n_impl_isNum (mkP [(false, [.int .i64 n])]) (fun rs _ => rs = bl (isNum n)) := by
 refine VC_enter k_impl_isNum rfl ?_
 simp (disch := omega) [c_impl_isNum, VY]
 refine VXC_e (within_ok _ _ _) rfl rfl ?_
 simp (disch := omega) [isNum, VY]
abbrev n_spec_l01Num : Nat := 201
def c_spec_l01Num : AF := ⟨1, 3, [.tmp 2], (.seq (.ops [.i (.mov 2 (qb false))]) (.seq (.ops [qm 3 0, .i (.call 5 152 false [(.s 3), (qi 0), (qi 1152921504606846975)]), qm 2 4]) .ret))⟩
theorem k_spec_l01Num : cd n_spec_l01Num = some c_spec_l01Num := by kernel_rfl
theorem l01Num_ok (n : Int) : VC cd n_spec_l01Num (mkP [(false, [.int .i64 n])]) (fun rs _ => rs = bl (isNum n)) := by
 refine VC_enter k_spec_l01Num rfl ?_
 simp (disch := omega) [c_spec_l01Num, VY]
 refine VXC_e (l01In_ok _ _ _) rfl rfl ?_
 simp (disch := omega) [isNum, VY]
def hash (x : Bytes) : Bool := x.length == 32
def hashes (l : List Bytes) : Bool := l.all hash
theorem hashes_of {l : List Bytes} (h : ∀ x ∈ l.take l.length, hash x = true) : hashes l = true := by
 rw [List.take_length] at h
 simpa [hashes] using h
theorem hashes_no {l : List Bytes} {i : Nat} (hi : i < l.length) (h : hash l[i] = false) : hashes l = false := by
 simp only [hashes, List.all_eq_false]
 exact ⟨l[i], List.getElem_mem hi, by simp [h]⟩
abbrev n_impl_areHashes : Nat := 214
def c_impl_areHashes : AF := ⟨1, 4, [.tmp 2], (.seq (.ops [.i (.mov 2 (qb false))]) (.seq (.seq (.ops [qm 5 0, .i (.len 6 false (.s 5)), .i (.mov 7 (qi 0))]) (.block 0 (.loop [14, 13, 12, 11, 10, 9, 8, 4] (.seq (.ops [.i (.bin 8 .lss (.s 7) (.s 6))]) (.seq (.cond (.s 8) .skip (.exit 0)) (.seq (.block 1 (.seq (.ops [.i (.iad 9 (.s 5) (.s 7) 1), .i (.ldh 10 (.s 9) 1 false), qm 4 10]) (.seq (.ops [qm 11 4, .i (.len 12 false (.s 11)), .i (.bin 13 .neq (.s 12) (qi 32))]) (.cond (.s 13) (.seq (.ops [.i (.mov 2 (qb false))]) .ret) .skip)))) (.ops [.i (.bin 14 .add (.s 7) (qi 1)), qm 7 14]))))))) (.seq (.ops [.i (.mov 2 (qb true))]) .ret)))⟩
theorem k_impl_areHashes : cd n_impl_areHashes = some c_impl_areHashes := by kernel_rfl
theorem areHashes_ok (l : List Bytes) (hl : l.length ≤ 1099511627776) : VC cd n_impl_areHashes (mkP [(false, [.sl (bss l)])]) (fun rs _ => rs = bl (hashes l)) := by
 refine VC_enter k_impl_areHashes rfl ?_
 simp (disch := omega) [c_impl_areHashes, bss_len, VY]
 refine VX_loop2 (σ := Nat) (f1 := _) (by simp (disch := omega) [VY]; rfl) (fun i => [(7, .val false [.int .i64 i])]) (fun _ => []) (fun i g => g + i = l.length ∧ ∀ x ∈ l.take i, hash x = true) 0 l.length (by simp (disch := omega) [VY]) trivial ⟨by omega, by simp⟩ ?_
 rintro i n g ⟨hg, hi⟩
 simp (disch := omega) [bss_len, VY]
 refine VXB_dec (fun h1 => ?_) (fun h1 => ?_)
 ·simp (disch := omega) [bss_get h1, VY]
  refine VXB_dec (fun h2 => ?_) (fun h2 => ?_)
  ·simp (disch := omega) [VY]
   exact ⟨i + 1, g - 1, by omega, ⟨by omega, take_all hi h1 (by simp [hash]; omega)⟩, by simp⟩
  ·simp (disch := omega) [VY]
   exact hashes_no h1 (by simp [hash]; omega)
 ·simp (disch := omega) [VY]
  have : i = l.length := by omega
  subst this
  exact hashes_of hi
abbrev n_spec_l07Hash : Nat := 202
def c_spec_l07Hash : AF := ⟨1, 3, [.tmp 2], (.seq (.ops [.i (.mov 2 (qb false))]) (.seq (.ops [qm 3 0, .i (.len 4 false (.s 3)), .i (.bin 5 .eql (.s 4) (qi 32)), qm 2 5]) .ret))⟩
theorem k_spec_l07Hash : cd n_spec_l07Hash = some c_spec_l07Hash := by kernel_rfl
theorem l07Hash_ok (x : Bytes) : VC cd n_spec_l07Hash (mkP [(false, [.sl (bytes x)])]) (fun rs _ => rs = bl (hash x)) := by
 refine VC_enter k_spec_l07Hash rfl ?_
 simp (disch := omega) [c_spec_l07Hash, hash, VY]
 rw [Bool.eq_iff_iff]
 simp only [decide_eq_true_eq, beq_iff_eq]
 omega
abbrev n_spec_l08Hashes : Nat := 256
def c_spec_l08Hashes : AF := ⟨1, 4, [.tmp 2], (.seq (.ops [.i (.mov 2 (qb false))]) (.seq (.seq (.ops [qm 5 0, .i (.len 6 false (.s 5)), .i (.mov 7 (qi 0))]) (.block 0 (.loop [14, 13, 12, 11, 10, 9, 8, 4] (.seq (.ops [.i (.bin 8 .lss (.s 7) (.s 6))]) (.seq (.cond (.s 8) .skip (.exit 0)) (.seq (.block 1 (.seq (.ops [.i (.iad 9 (.s 5) (.s 7) 1), .i (.ldh 10 (.s 9) 1 false), qm 4 10]) (.seq (.ops [qm 11 4, .i (.call 13 202 false [(.s 11)]), .i (.not 13 (.s 12))]) (.cond (.s 13) (.seq (.ops [.i (.mov 2 (qb false))]) .ret) .skip)))) (.ops [.i (.bin 14 .add (.s 7) (qi 1)), qm 7 14]))))))) (.seq (.ops [.i (.mov 2 (qb true))]) .ret)))⟩
theorem k_spec_l08Hashes : cd n_spec_l08Hashes = some c_spec_l08Hashes := by kernel_rfl
theorem l08Hashes_ok (l : List Bytes) (hl : l.length ≤ 1099511627776) : VC cd n_spec_l08Hashes (mkP [(false, [.sl (bss l)])]) (fun rs _ => rs = bl (hashes l)) := by
 refine VC_enter k_spec_l08Hashes rfl ?_
 simp (disch := omega) [c_spec_l08Hashes, bss_len, VY]
 refine VX_loop2 (σ := Nat) (f1 := _) (by simp (disch := omega) [VY]; rfl) (fun i => [(7, .val false [.int .i64 i])]) (fun _ => []) (fun i g => g + i = l.length ∧ ∀ x ∈ l.take i, hash x = true) 0 l.length (by simp (disch := omega) [VY]) trivial ⟨by omega, by simp⟩ ?_
 rintro i n g ⟨hg, hi⟩
 simp (disch := omega) [bss_len, VY]
 refine VXB_dec (fun h1 => ?_) (fun h1 => ?_)
 ·simp (disch := omega) [bss_get h1, VY]
  refine VXC_e (l07Hash_ok _) rfl rfl ?_
  simp (disch := omega) [VY]
  refine VXB_b (fun h2 => ?_) (fun h2 => ?_)
  ·simp (disch := omega) [VY]
   exact ⟨i + 1, g - 1, by omega, ⟨by omega, take_all hi h1 h2⟩, by simp⟩
  ·simp (disch := omega) [VY]
   exact hashes_no h1 h2
 ·simp (disch := omega) [VY]
  have : i = l.length := by omega
  subst this
  exact hashes_of hi
def bsz (n : Int) : Int := if n < 1 then 0 else (n - 1) / 8 + 1
abbrev n_impl_BitsSize : Nat := 63
def c_impl_BitsSize : AF := ⟨1, 4, [.tmp 2], (.seq (.ops [.i (.mov 2 (qi 0))]) (.seq (.seq (.ops [qm 3 0, .i (.bin 4 .lss (.s 3) (qi 1))]) (.cond (.s 4) (.seq (.ops [.i (.mov 2 (qi 0))]) .ret) .skip)) (.seq (.ops [qm 5 0, .i (.bin 6 .sub (.s 5) (qi 1)), .i (.bin 7 .quo (.s 6) (qi 8)), .i (.bin 8 .add (.s 7) (qi 1)), qm 2 8]) .ret)))⟩
theorem k_impl_BitsSize : cd n_impl_BitsSize = some c_impl_BitsSize := by kernel_rfl
theorem impl_BitsSize_ok (n : Int) (h1 : -9223372036854775808 ≤ n) (h2 : n < 9223372036854775808) : VC cd n_impl_BitsSize (mkP [(false, [.int .i64 n])]) (fun rs _ => rs = it (bsz n)) := by
 refine VC_enter k_impl_BitsSize rfl ?_
 simp (disch := omega) [c_impl_BitsSize, VY]
 refine VXB_dec (fun h3 => ?_) (fun h3 => ?_)
 ·simp (disch := omega) [bsz, h3, VY]
 ·have e : (n - 1).tdiv 8 = (n - 1) / 8 := Int.tdiv_eq_ediv_of_nonneg (by omega)
  simp (disch := omega) [bsz, e, VY]
  omega
abbrev n_spec_BitsSize : Nat := 124
def c_spec_BitsSize : AF := ⟨1, 4, [.tmp 2], (.seq (.ops [.i (.mov 2 (qi 0))]) (.seq (.seq (.ops [qm 3 0, .i (.bin 4 .lss (.s 3) (qi 1))]) (.cond (.s 4) (.seq (.ops [.i (.mov 2 (qi 0))]) .ret) .skip)) (.seq (.ops [qm 5 0, .i (.bin 6 .sub (.s 5) (qi 1)), .i (.bin 7 .quo (.s 6) (qi 8)), .i (.bin 8 .add (.s 7) (qi 1)), qm 2 8]) .ret)))⟩
theorem k_spec_BitsSize : cd n_spec_BitsSize = some c_spec_BitsSize := by kernel_rfl
theorem spec_BitsSize_ok (n : Int) (h1 : -9223372036854775808 ≤ n) (h2 : n < 9223372036854775808) : VC cd n_spec_BitsSize (mkP [(false, [.int .i64 n])]) (fun rs _ => rs = it (bsz n)) := by
 refine VC_enter k_spec_BitsSize rfl ?_
 simp (disch := omega) [c_spec_BitsSize, VY]
 refine VXB_dec (fun h3 => ?_) (fun h3 => ?_)
 ·simp (disch := omega) [bsz, h3, VY]
 ·have e : (n - 1).tdiv 8 = (n - 1) / 8 := Int.tdiv_eq_ediv_of_nonneg (by omega)
  simp (disch := omega) [bsz, e, VY]
  omega
def hasBit (b : Bytes) (i : Nat) : Bool := match b[i / 8]? with | some x => x.toNat.testBit (i % 8) | none => false
theorem bit_impl : ∀ x < 256, ∀ s < 8, decide (bits2 .and .u8 (Int.fdiv (x : Nat) (2 ^ (min s 8))) 1 = 1) = Nat.testBit x s := by decide +kernel
theorem bit_spec : ∀ x < 256, ∀ s < 8, decide (Int.tmod (Int.fdiv (x : Nat) (2 ^ (min s 64))) 2 = 1) = Nat.testBit x s := by decide +kernel
theorem tdiv8 (i : Nat) : Int.tdiv (i : Int) 8 = ((i / 8 : Nat) : Int) := by rw [Int.tdiv_eq_ediv_of_nonneg (by omega)]; omega
theorem tmod8 (i : Nat) : Int.tmod (i : Int) 8 = ((i % 8 : Nat) : Int) := by rw [Int.tmod_eq_emod_of_nonneg (by omega)]; omega
theorem u8lt (x : UInt8) : x.toNat < 256 := x.toNat_lt
theorem hasBit_in {b : Bytes} {i : Nat} (h : i / 8 < b.length) : hasBit b i = b[i / 8].toNat.testBit (i % 8) := by simp [hasBit, h]
theorem hasBit_out {b : Bytes} {i : Nat} (h : ¬ i / 8 < b.length) : hasBit b i = false := by
 unfold hasBit
 rw [List.getElem?_eq_none (by omega)]
theorem nat8 (i : Nat) : (0 : Int) ≤ (i : Int) / 8 ∧ ((i : Int) / 8).toNat = i / 8 ∧ ¬ (i : Int) % 8 < 0 ∧ ((i : Int) % 8).toNat = i % 8 := by omega
abbrev n_impl_BitsHas : Nat := 210
def c_impl_BitsHas : AF := ⟨2, 5, [.tmp 4], (.seq (.ops [.i (.mov 4 (qb false))]) (.seq (.ops [qm 5 1, qm 6 0, .i (.len 7 false (.s 6)), .i (.bin 8 .mul (qi 8) (.s 7)), .i (.bin 9 .sub (.s 8) (qi 1)), .i (.call 11 62 false [(.s 5), (qi 0), (.s 9)]), qm 11 10, .g 11 true 13 (.mov 12 (.s 0)), .g 11 true 14 (.mov 13 (.s 1)), .g 11 true 15 (.bin 14 .quo (.s 13) (qi 8)), .g 11 true 16 (.iad 15 (.s 12) (.s 14) 1), .g 11 true 17 (.ldh 16 (.s 15) 1 false), .g 11 true 18 (.mov 17 (.s 1)), .g 11 true 19 (.bin 18 .rem (.s 17) (qi 8)), .g 11 true 20 (.bin 19 .shr (.s 16) (.s 18)), .g 11 true 21 (.bin 20 .and (.s 19) (.c (.val false [.int .u8 1]))), .g 11 true 22 (.bin 21 .eql (.s 20) (.c (.val false [.int .u8 1]))), .i (.pick 22 (.s 11) (.s 21) (qb false)), qm 4 22]) .ret))⟩
theorem k_impl_BitsHas : cd n_impl_BitsHas = some c_impl_BitsHas := by kernel_rfl
theorem impl_BitsHas_ok (b : Bytes) (i : Nat) (hb : b.length ≤ 1099511627776) (hi : i ≤ 1099511627776) : VC cd n_impl_BitsHas (mkP [(false, [.sl (bytes b)]), (false, [.int .i64 i])]) (fun rs _ => rs = bl (hasBit b i)) := by
 refine VC_enter k_impl_BitsHas rfl ?_
 simp (disch := omega) [c_impl_BitsHas, VY]
 refine VXC_e (within_ok _ _ _) rfl rfl ?_
 simp (disch := omega) [VY]
 refine VXB_b (fun h1 => ?_) (fun h1 => ?_)
 ·have hx : i / 8 < b.length := by simp [inn] at h1; omega
  have e := bit_impl b[i / 8].toNat (u8lt _) (i % 8) (Nat.mod_lt _ (by omega))
  rw [hasBit_in hx, ← e]
  simp (disch := omega) [h1, tdiv8, tmod8, bytes_get hx, nat8 i, IntKind.bits, VY]
 ·simp (disch := omega) [h1, VY]
  refine hasBit_out ?_
  simp [inn] at h1
  omega
abbrev n_spec_BitsHas : Nat := 260
def c_spec_BitsHas : AF := ⟨2, 5, [.tmp 4], (.seq (.ops [.i (.mov 4 (qb false))]) (.seq (.ops [qm 5 1, .i (.bin 6 .geq (.s 5) (qi 0)), qm 7 6, .g 7 true 9 (.mov 8 (.s 1)), .g 7 true 10 (.bin 9 .quo (.s 8) (qi 8)), .g 7 true 11 (.mov 10 (.s 0)), .g 7 true 12 (.len 11 false (.s 10)), .g 7 true 13 (.bin 12 .lss (.s 9) (.s 11)), .i (.pick 13 (.s 7) (.s 12) (qb false)), qm 14 13, .g 14 true 16 (.mov 15 (.s 0)), .g 14 true 17 (.mov 16 (.s 1)), .g 14 true 18 (.bin 17 .quo (.s 16) (qi 8)), .g 14 true 19 (.iad 18 (.s 15) (.s 17) 1), .g 14 true 20 (.ldh 19 (.s 18) 1 false), .g 14 true 21 (.cvi 20 .i64 (.s 19)), .g 14 true 22 (.mov 21 (.s 1)), .g 14 true 23 (.bin 22 .rem (.s 21) (qi 8)), .g 14 true 24 (.bin 23 .shr (.s 20) (.s 22)), .g 14 true 25 (.bin 24 .rem (.s 23) (qi 2)), .g 14 true 26 (.bin 25 .eql (.s 24) (qi 1)), .i (.pick 26 (.s 14) (.s 25) (qb false)), qm 4 26]) .ret))⟩
theorem k_spec_BitsHas : cd n_spec_BitsHas = some c_spec_BitsHas := by kernel_rfl
theorem spec_BitsHas_ok (b : Bytes) (i : Nat) (hb : b.length ≤ 1099511627776) (hi : i ≤ 1099511627776) : VC cd n_spec_BitsHas (mkP [(false, [.sl (bytes b)]), (false, [.int .i64 i])]) (fun rs _ => rs = bl (hasBit b i)) := by
 refine VC_enter k_spec_BitsHas rfl ?_
 simp (disch := omega) [c_spec_BitsHas, tdiv8, VY]
 refine VXB_dec (fun h1 => ?_) (fun h1 => ?_)
 ·have hx : i / 8 < b.length := by omega
  have e := bit_spec b[i / 8].toNat (u8lt _) (i % 8) (Nat.mod_lt _ (by omega))
  have hw : IntKind.i64.wrap (b[i / 8].toNat : Int) = b[i / 8].toNat := w64 (by omega) (by have := u8lt b[i / 8]; omega)
  rw [hasBit_in hx, ← e]
  simp (disch := omega) [h1, tdiv8, tmod8, bytes_get hx, nat8 i, hw, IntKind.bits, VY]
 ·simp (disch := omega) [h1, VY]
  exact hasBit_out (by omega)
def bitsList (b : Bytes) : List Nat := (List.range (8 * b.length)).filter (hasBit b)
def nats (l : List Nat) : List (List D) := l.map fun (n : Nat) => [.int .i64 (n : Int)]
theorem nats_len (l : List Nat) : (nats l).length = l.length := by simp [nats]
theorem flat_nats (l : List Nat) : flat (nats l) = true := by
 induction l with
 | nil => rfl
 | cons n l ih => simp only [nats, List.map_cons, flat, leafs, D.leaf] at ih ⊢; simpa using ih
theorem wid_nats (l : List Nat) : wid 1 (nats l) = true := by
 induction l with
 | nil => rfl
 | cons n l ih => simp only [nats, List.map_cons, wid] at ih ⊢; simpa using ih
theorem nats_snoc (l : List Nat) (n : Nat) : nats l ++ [[.int .i64 (n : Int)]] = nats (l ++ [n]) := by simp [nats]
theorem nats_get {l : List Nat} {i : Nat} (h : i < l.length) : (nats l)[i]? = some [.int .i64 (l[i] : Int)] := by simp [nats, h]
theorem filter_succ (p : Nat → Bool) (i : Nat) : (List.range (i + 1)).filter p = (List.range i).filter p ++ (if p i = true then [i] else []) := by
 rw [List.range_succ, List.filter_append]
 congr 1
 cases h : p i <;> simp [h]
theorem filter_le (p : Nat → Bool) (i : Nat) : ((List.range i).filter p).length ≤ i := by
 have := List.length_filter_le p (List.range i)
 simpa using this
abbrev n_impl_BitsList : Nat := 126
def c_impl_BitsList : AF := ⟨1, 5, [.tmp 2], (.seq (.ops [.i (.mov 2 (.c (.val false [.nils])))]) (.seq (.ops [.i (.bse 5), qm 3 5]) (.seq (.seq (.ops [qm 6 0, .i (.len 7 false (.s 6)), .i (.bin 8 .mul (qi 8) (.s 7)), .i (.mov 9 (qi 0))]) (.block 0 (.loop [19, 18, 17, 16, 15, 14, 13, 12, 11, 10, 4] (.seq (.ops [.i (.bin 10 .lss (.s 9) (.s 8))]) (.seq (.cond (.s 10) .skip (.exit 0)) (.seq (.block 1 (.seq (.ops [qm 11 9, qm 4 11]) (.seq (.ops [qm 12 0, qm 13 4, .i (.call 15 210 false [(.s 12), (.s 13)])]) (.cond (.s 14) (.ops [qm 15 3, qm 16 4, .i (.lsl 17 1 1 [.int .i64 0] [(0, 1, (.s 16))]), .i (.app 18 3 1 8 (.s 15) (.s 17)), qm 3 18]) .skip)))) (.ops [.i (.bin 19 .add (.s 9) (qi 1)), qm 9 19]))))))) (.seq (.ops [qm 20 3, qm 2 20]) .ret))))⟩
theorem k_impl_BitsList : cd n_impl_BitsList = some c_impl_BitsList := by kernel_rfl
theorem impl_BitsList_ok (b : Bytes) (hb : b.length ≤ 1073741824) : VC cd n_impl_BitsList (mkP [(false, [.sl (bytes b)])]) (fun rs _ => rs = [(false, [.o true (some (3, 1)) (nats (bitsList b))])]) := by
 refine VC_enter k_impl_BitsList rfl ?_
 simp (disch := omega) [c_impl_BitsList, VY]
 refine VX_loop2 (σ := Nat × Nat) (f1 := _) (by simp (disch := omega) [VY]; rfl) (fun p => [(9, .val false [.int .i64 p.1]), (3, .val false [.ow 5 p.2])]) (fun p => [(5, .sl p.2 true true (some (3, 1)) (nats ((List.range p.1).filter (hasBit b))))])
  (fun p g => g + p.1 = 8 * b.length) (0, 1) (8 * b.length) (by simp (disch := omega) [VY]) (by simp (disch := omega) [nats, VY]) (by omega) ?_
 rintro ⟨i, v⟩ n g hg
 simp only at hg
 simp (disch := omega) [VY]
 refine VXB_dec (fun h1 => ?_) (fun h1 => ?_)
 ·simp (disch := omega) [VY]
  refine VXC_e (impl_BitsHas_ok b i (by omega) (by omega)) rfl rfl ?_
  simp (disch := omega) [VY]
  refine VXB_b (fun h2 => ?_) (fun h2 => ?_)
  ·have hl := filter_le (hasBit b) i
   simp (disch := omega) [nats_len, wid_nats, flat_nats, VY]
   exact ⟨i + 1, n + 1, g - 1, by omega, by omega, ⟨rfl, by omega⟩, rfl, by rw [filter_succ, h2, if_pos rfl, ← nats_snoc]⟩
  ·simp (disch := omega) [VY]
   exact ⟨i + 1, v, g - 1, by omega, by omega, ⟨rfl, by omega⟩, rfl, by rw [filter_succ, h2]; simp⟩
 ·simp (disch := omega) [VY]
  have : i = 8 * b.length := by omega
  subst this
  rfl
abbrev n_spec_BitsList : Nat := 207
def c_spec_BitsList : AF := ⟨1, 5, [.tmp 2], (.seq (.ops [.i (.mov 2 (.c (.val false [.nils])))]) (.seq (.ops [.i (.bse 5), qm 3 5]) (.seq (.seq (.ops [.i (.mov 4 (qi 0))]) (.block 0 (.loop [19, 18, 17, 16, 15, 14, 13, 12, 11, 10, 9, 8, 7, 6] (.seq (.seq (.ops [qm 6 4, qm 7 0, .i (.len 8 false (.s 7)), .i (.bin 9 .mul (qi 8) (.s 8)), .i (.bin 10 .lss (.s 6) (.s 9))]) (.cond (.s 10) .skip (.exit 0))) (.seq (.block 1 (.seq (.ops [qm 13 0, qm 14 4, .i (.call 16 260 false [(.s 13), (.s 14)])]) (.cond (.s 15) (.ops [qm 16 3, qm 17 4, .i (.lsl 18 1 1 [.int .i64 0] [(0, 1, (.s 17))]), .i (.app 19 3 1 8 (.s 16) (.s 18)), qm 3 19]) .skip))) (.ops [qm 11 4, .i (.bin 12 .add (.s 11) (qi 1)), qm 4 12])))))) (.seq (.ops [qm 20 3, qm 2 20]) .ret))))⟩
theorem k_spec_BitsList : cd n_spec_BitsList = some c_spec_BitsList := by kernel_rfl
theorem spec_BitsList_ok (b : Bytes) (hb : b.length ≤ 1073741824) : VC cd n_spec_BitsList (mkP [(false, [.sl (bytes b)])]) (fun rs _ => rs = [(false, [.o true (some (3, 1)) (nats (bitsList b))])]) := by
 refine VC_enter k_spec_BitsList rfl ?_
 simp (disch := omega) [c_spec_BitsList, VY]
 refine VX_loop2 (σ := Nat × Nat) (f1 := _) (by simp (disch := omega) [VY]; rfl) (fun p => [(4, .val false [.int .i64 p.1]), (3, .val false [.ow 5 p.2])]) (fun p => [(5, .sl p.2 true true (some (3, 1)) (nats ((List.range p.1).filter (hasBit b))))])
  (fun p g => g + p.1 = 8 * b.length) (0, 1) (8 * b.length) (by simp (disch := omega) [VY]) (by simp (disch := omega) [nats, VY]) (by omega) ?_
 rintro ⟨i, v⟩ n g hg
 simp only at hg
 simp (disch := omega) [VY]
 refine VXB_dec (fun h1 => ?_) (fun h1 => ?_)
 ·simp (disch := omega) [VY]
  refine VXC_e (spec_BitsHas_ok b i (by omega) (by omega)) rfl rfl ?_
  simp (disch := omega) [VY]
  refine VXB_b (fun h2 => ?_) (fun h2 => ?_)
  ·have hl := filter_le (hasBit b) i
   simp (disch := omega) [nats_len, wid_nats, flat_nats, VY]
   exact ⟨i + 1, n + 1, g - 1, by omega, by omega, ⟨by omega, rfl⟩, rfl, by rw [filter_succ, h2, if_pos rfl, ← nats_snoc]⟩
  ·simp (disch := omega) [VY]
   exact ⟨i + 1, v, g - 1, by omega, by omega, ⟨by omega, rfl⟩, rfl, by rw [filter_succ, h2]; simp⟩
 ·simp (disch := omega) [VY]
  have : i = 8 * b.length := by omega
  subst this
  rfl
def allBelow (l : List Nat) (n : Int) : Bool := l.all fun i => decide ((i : Int) < n)
def bitsOk (b : Bytes) (n : Int) : Bool := inn n 1 10 && decide ((b.length : Int) = bsz n) && allBelow (bitsList b) n
theorem bitsList_len (b : Bytes) : (bitsList b).length ≤ 8 * b.length := filter_le _ _
theorem inn_t {n lo hi : Int} (h : inn n lo hi = true) : lo ≤ n ∧ n ≤ hi := by simpa [inn] using h
theorem below_of {l : List Nat} {n : Int} (h : ∀ x ∈ l.take l.length, (x : Int) < n) : allBelow l n = true := by
 rw [List.take_length] at h
 simpa [allBelow] using h
theorem below_no {l : List Nat} {n : Int} {i : Nat} (hi : i < l.length) (h : n ≤ (l[i] : Int)) : allBelow l n = false := by
 simp only [allBelow, List.all_eq_false]
 exact ⟨l[i], List.getElem_mem hi, by simpa using h⟩
abbrev n_impl_BitsOk : Nat := 125
def c_impl_BitsOk : AF := ⟨2, 5, [.tmp 4], (.seq (.ops [.i (.mov 4 (qb false))]) (.seq (.seq (.ops [qm 7 1, .i (.call 9 62 false [(.s 7), (qi 1), (qi 10)]), .i (.not 9 (.s 8)), qm 10 9, .g 10 false 12 (.mov 11 (.s 0)), .g 10 false 13 (.len 12 false (.s 11)), .g 10 false 14 (.mov 13 (.s 1)), .g 10 false 15 (.call 15 63 false [(.s 13)]), .g 10 false 16 (.bin 15 .neq (.s 12) (.s 14)), .i (.pick 16 (.s 10) (qb true) (.s 15))]) (.cond (.s 16) (.seq (.ops [.i (.mov 4 (qb false))]) .ret) .skip)) (.seq (.seq (.ops [qm 17 0, .i (.call 19 126 false [(.s 17)]), .i (.len 19 false (.s 18)), .i (.mov 20 (qi 0))]) (.block 0 (.loop [27, 26, 25, 24, 23, 22, 21, 6] (.seq (.ops [.i (.bin 21 .lss (.s 20) (.s 19))]) (.seq (.cond (.s 21) .skip (.exit 0)) (.seq (.block 1 (.seq (.ops [.i (.iad 22 (.s 18) (.s 20) 1), .i (.ldh 23 (.s 22) 1 false), qm 6 23]) (.seq (.ops [qm 24 6, qm 25 1, .i (.bin 26 .geq (.s 24) (.s 25))]) (.cond (.s 26) (.seq (.ops [.i (.mov 4 (qb false))]) .ret) .skip)))) (.ops [.i (.bin 27 .add (.s 20) (qi 1)), qm 20 27]))))))) (.seq (.ops [.i (.mov 4 (qb true))]) .ret))))⟩
theorem k_impl_BitsOk : cd n_impl_BitsOk = some c_impl_BitsOk := by kernel_rfl
theorem impl_BitsOk_ok (b : Bytes) (n : Int) (hb : b.length ≤ 1073741824) (hn : -9223372036854775808 ≤ n ∧ n < 9223372036854775808) : VC cd n_impl_BitsOk (mkP [(false, [.sl (bytes b)]), (false, [.int .i64 n])]) (fun rs _ => rs = bl (bitsOk b n)) := by
 refine VC_enter k_impl_BitsOk rfl ?_
 simp (disch := omega) [c_impl_BitsOk, VY]
 refine VXC_e (within_ok _ _ _) rfl rfl ?_
 simp (disch := omega) [VY]
 refine VXB_b (fun h1 => ?_) (fun h1 => ?_)
 ·simp (disch := omega) [h1, VY]
  refine VXC_e (impl_BitsSize_ok _ hn.1 hn.2) rfl rfl ?_
  simp (disch := omega) [h1, VY]
  refine VXB_dec (fun h2 => ?_) (fun h2 => ?_)
  ·simp (disch := omega) [h1, h2, VY]
   refine VXC_e (impl_BitsList_ok b hb) rfl rfl ?_
   simp (disch := omega) [nats_len, VY]
   have hl := bitsList_len b
   refine VX_loop3 (σ := Nat) (f1 := _) (es0 := _) (by simp (disch := omega) [VY]; rfl) (by simp (disch := omega) [VY]; rfl) (fun i => [(20, .val false [.int .i64 i])]) (fun _ => []) (fun i g => g + i = (bitsList b).length ∧ ∀ x ∈ (bitsList b).take i, (x : Int) < n) 0 (bitsList b).length (by simp (disch := omega) [VY]) (by simp (disch := omega) [VY]) ⟨by omega, by simp⟩ ?_
   rintro i m g ⟨hg, hi⟩
   simp (disch := omega) [VY]
   refine VXB_dec (fun h3 => ?_) (fun h3 => ?_)
   ·have hx : i < (bitsList b).length := by omega
    simp (disch := omega) [nats_get hx, VY]
    refine VXB_dec (fun h4 => ?_) (fun h4 => ?_)
    ·simp (disch := omega) [VY]
     simp [bitsOk, h1, h2, below_no hx h4]
    ·simp (disch := omega) [VY]
     exact ⟨i + 1, g - 1, by omega, ⟨by omega, take_all hi hx (by omega)⟩, by simp⟩
   ·simp (disch := omega) [VY]
    have : i = (bitsList b).length := by omega
    subst this
    simp [bitsOk, h1, h2, below_of hi]
  ·simp (disch := omega) [h1, h2, bitsOk, VY]
 ·simp (disch := omega) [h1, bitsOk, VY]
theorem pairwise_last {l : List Nat} {n : Int} (hp : l.Pairwise (· < ·)) (hl : 0 < l.length) : allBelow l n = decide ((l[l.length - 1] : Int) < n) := by
 rw [Bool.eq_iff_iff]
 simp only [allBelow, List.all_eq_true, decide_eq_true_eq]
 constructor
 ·intro h; exact h _ (List.getElem_mem _)
 ·intro h x hx
  obtain ⟨i, hi, rfl⟩ := List.getElem_of_mem hx
  by_cases he : i = l.length - 1
  ·subst he; exact h
  ·have := List.pairwise_iff_getElem.1 hp i (l.length - 1) hi (by omega) (by omega)
   omega
theorem bitsList_sorted (b : Bytes) : (bitsList b).Pairwise (· < ·) := List.Pairwise.filter _ List.pairwise_lt_range
abbrev n_spec_BitsOk : Nat := 206
def c_spec_BitsOk : AF := ⟨2, 5, [.tmp 4], (.seq (.ops [.i (.mov 4 (qb false))]) (.seq (.seq (.ops [qm 6 1, .i (.call 8 199 false [(.s 6)]), .i (.not 8 (.s 7)), qm 9 8, .g 9 false 11 (.mov 10 (.s 0)), .g 9 false 12 (.len 11 false (.s 10)), .g 9 false 13 (.mov 12 (.s 1)), .g 9 false 14 (.call 14 124 false [(.s 12)]), .g 9 false 15 (.bin 14 .neq (.s 11) (.s 13)), .i (.pick 15 (.s 9) (qb true) (.s 14))]) (.cond (.s 15) (.seq (.ops [.i (.mov 4 (qb false))]) .ret) .skip)) (.seq (.ops [qm 16 0, .i (.call 18 207 false [(.s 16)]), qm 5 17]) (.seq (.ops [qm 18 5, .i (.len 19 false (.s 18)), .i (.bin 20 .eql (.s 19) (qi 0)), qm 21 20, .g 21 false 23 (.mov 22 (.s 5)), .g 21 false 24 (.mov 23 (.s 5)), .g 21 false 25 (.len 24 false (.s 23)), .g 21 false 26 (.bin 25 .sub (.s 24) (qi 1)), .g 21 false 27 (.iad 26 (.s 22) (.s 25) 1), .g 21 false 28 (.ldh 27 (.s 26) 1 false), .g 21 false 29 (.mov 28 (.s 1)), .g 21 false 30 (.bin 29 .lss (.s 27) (.s 28)), .i (.pick 30 (.s 21) (qb true) (.s 29)), qm 4 30]) .ret))))⟩
theorem k_spec_BitsOk : cd n_spec_BitsOk = some c_spec_BitsOk := by kernel_rfl
theorem spec_BitsOk_ok (b : Bytes) (n : Int) (hb : b.length ≤ 1073741824) (hn : -9223372036854775808 ≤ n ∧ n < 9223372036854775808) : VC cd n_spec_BitsOk (mkP [(false, [.sl (bytes b)]), (false, [.int .i64 n])]) (fun rs _ => rs = bl (bitsOk b n)) := by
 refine VC_enter k_spec_BitsOk rfl ?_
 simp (disch := omega) [c_spec_BitsOk, VY]
 refine VXC_e (spec_l02Signers_ok _) rfl rfl ?_
 simp (disch := omega) [VY]
 refine VXB_b (fun h1 => ?_) (fun h1 => ?_)
 ·simp (disch := omega) [h1, VY]
  refine VXC_e (spec_BitsSize_ok _ hn.1 hn.2) rfl rfl ?_
  simp (disch := omega) [h1, VY]
  refine VXB_dec (fun h2 => ?_) (fun h2 => ?_)
  ·simp (disch := omega) [h1, h2, VY]
   refine VXC_e (spec_BitsList_ok b hb) rfl rfl ?_
   have hl := bitsList_len b
   simp (disch := omega) [nats_len, VY]
   refine VXB_dec (fun h3 => ?_) (fun h3 => ?_)
   ·simp (disch := omega) [h3, VY]
    simp [bitsOk, h1, h2, h3, allBelow]
   ·have h4 := List.length_pos_iff.2 h3
    have e3 : (1 : Int) ≤ ((bitsList b).length : Int) := by omega
    have hx : (bitsList b).length - 1 < (bitsList b).length := by omega
    have e1 : ((bitsList b).length - 1 : Int).toNat = (bitsList b).length - 1 := by omega
    have e2 : (0 : Int) ≤ ((bitsList b).length : Int) - 1 := by omega
    simp (disch := omega) [h3, nats_len, e1, e2, e3, nats_get hx, VY]
    simp [bitsOk, h1, h2, pairwise_last (bitsList_sorted b) h4]
  ·simp (disch := omega) [h1, h2, bitsOk, VY]
 ·simp (disch := omega) [h1, bitsOk, VY]
def ones (x : Nat) : Nat := ((List.range 8).filter (x.testBit)).length
theorem ones_tbl : ∀ x < 256, ((⟨#[0, 1, 1, 2, 1, 2, 2, 3, 1, 2, 2, 3, 2, 3, 3, 4, 1, 2, 2, 3, 2, 3, 3, 4, 2, 3, 3, 4, 3, 4, 4, 5, 1, 2, 2, 3, 2, 3, 3, 4, 2, 3, 3, 4, 3, 4, 4, 5, 2, 3, 3, 4, 3, 4, 4, 5, 3, 4, 4, 5, 4, 5, 5, 6, 1, 2, 2, 3, 2, 3, 3, 4, 2, 3, 3, 4, 3, 4, 4, 5, 2, 3, 3, 4, 3, 4, 4, 5, 3, 4, 4, 5, 4, 5, 5, 6, 2, 3, 3, 4, 3, 4, 4, 5, 3, 4, 4, 5, 4, 5, 5, 6, 3, 4, 4, 5, 4, 5, 5, 6, 4, 5, 5, 6, 5, 6, 6, 7, 1, 2, 2, 3, 2, 3, 3, 4, 2, 3, 3, 4, 3, 4, 4, 5, 2, 3, 3, 4, 3, 4, 4, 5, 3, 4, 4, 5, 4, 5, 5, 6, 2, 3, 3, 4, 3, 4, 4, 5, 3, 4, 4, 5, 4, 5, 5, 6, 3, 4, 4, 5, 4, 5, 5, 6, 4, 5, 5, 6, 5, 6, 6, 7, 2, 3, 3, 4, 3, 4, 4, 5, 3, 4, 4, 5, 4, 5, 5, 6, 3, 4, 4, 5, 4, 5, 5, 6, 4, 5, 5, 6, 5, 6, 6, 7, 3, 4, 4, 5, 4, 5, 5, 6, 4, 5, 5, 6, 5, 6, 6, 7, 4, 5, 5, 6, 5, 6, 6, 7, 5, 6, 6, 7, 6, 7, 7, 8]⟩ : ByteArray).data.toList)[x]? = some (UInt8.ofNat (ones x)) ∧ ones x ≤ 8 := by decide +kernel
abbrev n_math_bits_OnesCount8 : Nat := 266
def c_math_bits_OnesCount8 : AF := ⟨1, 3, [.tmp 2], (.seq (.ops [.i (.mov 2 (.c (.val false [.int .i64 0])))]) (.seq (.ops [.i (.mov 3 (.s 0)), .i (.ids 4 (.c (.val false [.str ⟨#[0, 1, 1, 2, 1, 2, 2, 3, 1, 2, 2, 3, 2, 3, 3, 4, 1, 2, 2, 3, 2, 3, 3, 4, 2, 3, 3, 4, 3, 4, 4, 5, 1, 2, 2, 3, 2, 3, 3, 4, 2, 3, 3, 4, 3, 4, 4, 5, 2, 3, 3, 4, 3, 4, 4, 5, 3, 4, 4, 5, 4, 5, 5, 6, 1, 2, 2, 3, 2, 3, 3, 4, 2, 3, 3, 4, 3, 4, 4, 5, 2, 3, 3, 4, 3, 4, 4, 5, 3, 4, 4, 5, 4, 5, 5, 6, 2, 3, 3, 4, 3, 4, 4, 5, 3, 4, 4, 5, 4, 5, 5, 6, 3, 4, 4, 5, 4, 5, 5, 6, 4, 5, 5, 6, 5, 6, 6, 7, 1, 2, 2, 3, 2, 3, 3, 4, 2, 3, 3, 4, 3, 4, 4, 5, 2, 3, 3, 4, 3, 4, 4, 5, 3, 4, 4, 5, 4, 5, 5, 6, 2, 3, 3, 4, 3, 4, 4, 5, 3, 4, 4, 5, 4, 5, 5, 6, 3, 4, 4, 5, 4, 5, 5, 6, 4, 5, 5, 6, 5, 6, 6, 7, 2, 3, 3, 4, 3, 4, 4, 5, 3, 4, 4, 5, 4, 5, 5, 6, 3, 4, 4, 5, 4, 5, 5, 6, 4, 5, 5, 6, 5, 6, 6, 7, 3, 4, 4, 5, 4, 5, 5, 6, 4, 5, 5, 6, 5, 6, 6, 7, 4, 5, 5, 6, 5, 6, 6, 7, 5, 6, 6, 7, 6, 7, 7, 8]⟩])) (.s 3)), .i (.cvi 5 .i64 (.s 4)), .i (.mov 2 (.s 5))]) .ret))⟩
theorem k_math_bits_OnesCount8 : cd n_math_bits_OnesCount8 = some c_math_bits_OnesCount8 := by kernel_rfl
theorem OnesCount8_ok (x : UInt8) : VC cd n_math_bits_OnesCount8 (mkP [(false, [.int .u8 x.toNat])]) (fun rs _ => rs = it (ones x.toNat)) := by
 obtain ⟨e1, e2⟩ := ones_tbl x.toNat (u8lt x)
 have e3 : (UInt8.ofNat (ones x.toNat)).toNat = ones x.toNat := by simp; omega
 refine VC_enter k_math_bits_OnesCount8 rfl ?_
 simp (disch := omega) only [c_math_bits_OnesCount8, VE, VXR, VP, VB, kof, List.map_cons, List.map_nil, Int.toNat_natCast, e1, e3, simprocAttr, Int.natCast_nonneg, if_true, it]
theorem count_byte (b : Bytes) (i : Nat) (hi : i < b.length) : ((List.range (8 * (i + 1))).filter (hasBit b)).length = ((List.range (8 * i)).filter (hasBit b)).length + ones b[i].toNat := by
 have h8 : ∀ j < 8, hasBit b (8 * i + j) = b[i].toNat.testBit j := by
  intro j hj
  have e : (8 * i + j) / 8 = i := by omega
  have e2 : (8 * i + j) % 8 = j := by omega
  have := hasBit_in (b := b) (i := 8 * i + j) (by rw [e]; exact hi)
  rw [this, e2]
  simp only [e]
 have e : 8 * (i + 1) = 8 * i + 8 := by omega
 rw [e, List.range_add, List.filter_append, List.length_append]
 congr 1
 unfold ones
 rw [List.filter_map, List.length_map]
 congr 1
 refine List.filter_congr fun j hj => ?_
 simp only [List.mem_range] at hj
 exact h8 j hj
abbrev n_impl_BitsCount : Nat := 215
def c_impl_BitsCount : AF := ⟨1, 5, [.tmp 2], (.seq (.ops [.i (.mov 2 (qi 0))]) (.seq (.ops [.i (.mov 3 (qi 0))]) (.seq (.seq (.ops [qm 6 0, .i (.len 7 false (.s 6)), .i (.mov 8 (qi 0))]) (.block 0 (.loop [16, 15, 14, 13, 12, 11, 10, 9, 5] (.seq (.ops [.i (.bin 9 .lss (.s 8) (.s 7))]) (.seq (.cond (.s 9) .skip (.exit 0)) (.seq (.block 1 (.seq (.ops [.i (.iad 10 (.s 6) (.s 8) 1), .i (.ldh 11 (.s 10) 1 false), qm 5 11]) (.ops [qm 12 3, qm 13 5, .i (.call 15 266 false [(.s 13)]), .i (.bin 15 .add (.s 12) (.s 14)), qm 3 15]))) (.ops [.i (.bin 16 .add (.s 8) (qi 1)), qm 8 16]))))))) (.seq (.ops [qm 17 3, qm 2 17]) .ret))))⟩
theorem k_impl_BitsCount : cd n_impl_BitsCount = some c_impl_BitsCount := by kernel_rfl
theorem impl_BitsCount_ok (b : Bytes) (hb : b.length ≤ 1073741824) : VC cd n_impl_BitsCount (mkP [(false, [.sl (bytes b)])]) (fun rs _ => rs = it (bitsList b).length) := by
 refine VC_enter k_impl_BitsCount rfl ?_
 simp (disch := omega) [c_impl_BitsCount, VY]
 refine VX_loop3 (σ := Nat) (f1 := _) (es0 := _) (by simp (disch := omega) [VY]; rfl) (by simp (disch := omega) [VY]; rfl) (fun i => [(8, .val false [.int .i64 i]), (3, .val false [.int .i64 ((List.range (8 * i)).filter (hasBit b)).length])]) (fun _ => []) (fun i g => g + i = b.length) 0 b.length (by simp (disch := omega) [VY]) (by simp (disch := omega) [VY]) (by omega) ?_
 rintro i n g hg
 simp (disch := omega) [VY]
 refine VXB_dec (fun h1 => ?_) (fun h1 => ?_)
 ·have hx : i < b.length := by omega
  simp (disch := omega) [bytes_get hx, VY]
  refine VXC_e (OnesCount8_ok _) rfl rfl ?_
  have hl := filter_le (hasBit b) (8 * i)
  have ho := (ones_tbl b[i].toNat (u8lt _)).2
  simp (disch := omega) [VY]
  exact ⟨i + 1, g - 1, by omega, by omega, by rw [count_byte b i hx]; omega, by omega⟩
 ·simp (disch := omega) [VY]
  have : i = b.length := by omega
  subst this
  rfl
abbrev n_spec_BitsCount : Nat := 255
def c_spec_BitsCount : AF := ⟨1, 3, [.tmp 2], (.seq (.ops [.i (.mov 2 (qi 0))]) (.seq (.ops [qm 3 0, .i (.call 5 207 false [(.s 3)]), .i (.len 5 false (.s 4)), qm 2 5]) .ret))⟩
theorem k_spec_BitsCount : cd n_spec_BitsCount = some c_spec_BitsCount := by kernel_rfl
theorem spec_BitsCount_ok (b : Bytes) (hb : b.length ≤ 1073741824) : VC cd n_spec_BitsCount (mkP [(false, [.sl (bytes b)])]) (fun rs _ => rs = it (bitsList b).length) := by
 refine VC_enter k_spec_BitsCount rfl ?_
 simp (disch := omega) [c_spec_BitsCount, VY]
 refine VXC_e (spec_BitsList_ok b hb) rfl rfl ?_
 simp (disch := omega) [nats_len, VY]
end Go.Eng.F
namespace Go.Eng.F
def I64 (n : Int) : Prop := -9223372036854775808 ≤ n ∧ n < 9223372036854775808
def Sz (n : Nat) : Prop := n ≤ 1073741824
theorem bytD_bytes (x : Bytes) : bytD (bytes x) = some ⟨x.toArray⟩ := by
 induction x with
 | nil => rfl
 | cons b x ih =>
  have : bytes (b :: x) = [.int .u8 (b.toNat : Int)] :: bytes x := rfl
  rw [this]
  simp only [bytD, ih, Int.toNat_natCast]
  congr 1
  simp
theorem str_eq (a b : Bytes) : ((⟨a.toArray⟩ : ByteArray) = ⟨b.toArray⟩) = (a = b) := by
 apply propext
 constructor
 ·intro h; injection h with h; exact Array.toList_inj.2 h |> fun h => by simpa using h
 ·rintro rfl; rfl
abbrev n_impl_SameBytes : Nat := 57
def c_impl_SameBytes : AF := ⟨2, 4, [.tmp 4], (.seq (.ops [.i (.mov 4 (qb false))]) (.seq (.ops [qm 5 0, .i (.cbs 6 (.s 5)), qm 7 1, .i (.cbs 8 (.s 7)), .i (.bin 9 .eql (.s 6) (.s 8)), qm 4 9]) .ret))⟩
theorem k_impl_SameBytes : cd n_impl_SameBytes = some c_impl_SameBytes := by kernel_rfl
theorem impl_SameBytes_ok (a b : Bytes) : VC cd n_impl_SameBytes (mkP [(false, [.sl (bytes a)]), (false, [.sl (bytes b)])]) (fun rs _ => rs = bl (decide (a = b))) := by
 refine VC_enter k_impl_SameBytes rfl ?_
 simp (disch := omega) [c_impl_SameBytes, bytD_bytes, str_eq, VY]
abbrev n_spec_SameBytes : Nat := 143
def c_spec_SameBytes : AF := ⟨2, 4, [.tmp 4], (.seq (.ops [.i (.mov 4 (qb false))]) (.seq (.ops [qm 5 0, .i (.cbs 6 (.s 5)), qm 7 1, .i (.cbs 8 (.s 7)), .i (.bin 9 .eql (.s 6) (.s 8)), qm 4 9]) .ret))⟩
theorem k_spec_SameBytes : cd n_spec_SameBytes = some c_spec_SameBytes := by kernel_rfl
theorem spec_SameBytes_ok (a b : Bytes) : VC cd n_spec_SameBytes (mkP [(false, [.sl (bytes a)]), (false, [.sl (bytes b)])]) (fun rs _ => rs = bl (decide (a = b))) := by
 refine VC_enter k_spec_SameBytes rfl ?_
 simp (disch := omega) [c_spec_SameBytes, bytD_bytes, str_eq, VY]
structure Qc where
 view : Int
 height : Int
 block : Bytes
 bits : Bytes
 tags : List Bytes
def Qc.c (q : Qc) : List D := [.int .i64 q.view, .int .i64 q.height, .sl (bytes q.block), .sl (bytes q.bits), .sl (bss q.tags)]
def Qc.wf (q : Qc) : Prop := I64 q.view ∧ I64 q.height ∧ Sz q.block.length ∧ Sz q.bits.length ∧ Sz q.tags.length
def qcOk (l : Lim) (q : Qc) : Bool := l.ok && isNum q.view && isNum q.height && hash q.block && bitsOk q.bits l.n && decide (q.tags.length = (bitsList q.bits).length) && hashes q.tags
theorem lim_n {l : Lim} (h : l.ok = true) : 1 ≤ l.n ∧ l.n ≤ 10 := by
 simp only [Lim.ok, Bool.and_eq_true] at h
 exact inn_t h.1.1.1.1
theorem hashes_one (x : Bytes) : hashes [x] = hash x := by simp [hashes]
abbrev n_impl_QcOk : Nat := 128
def c_impl_QcOk : AF := ⟨2, 6, [.tmp 4], (.seq (.ops [.i (.lbox 2 (.s 0)), .i (.lbox 3 (.s 1)), .i (.mov 4 (qb false))]) (.seq (.ops [ql 5 2 2 5 true, .i (.call 7 134 false [(.s 5)]), qm 7 6, .g 7 true 9 (.fad 8 (.s 3) 0), .g 7 true 10 (.ldl 9 3 (.s 8) 1 false), .g 7 true 11 (.call 11 213 false [(.s 9)]), .i (.pick 11 (.s 7) (.s 10) (qb false)), qm 12 11, .g 12 true 14 (.fad 13 (.s 3) 1), .g 12 true 15 (.ldl 14 3 (.s 13) 1 false), .g 12 true 16 (.call 16 213 false [(.s 14)]), .i (.pick 16 (.s 12) (.s 15) (qb false)), qm 17 16, .g 17 true 19 (.fad 18 (.s 3) 2), .g 17 true 20 (.ldl 19 3 (.s 18) 1 false), .g 17 true 21 (.bsl 20 22 1 1 [.nils] [(0, 1, (.s 19))]), .g 17 true 22 (.call 22 214 false [(.s 20)]), .i (.pick 22 (.s 17) (.s 21) (qb false)), qm 23 22, .g 23 true 25 (.fad 24 (.s 3) 3), .g 23 true 26 (.ldl 25 3 (.s 24) 1 false), .g 23 true 27 (.fad 26 (.s 2) 0), .g 23 true 28 (.ldl 27 2 (.s 26) 1 false), .g 23 true 29 (.call 29 125 false [(.s 25), (.s 27)]), .i (.pick 29 (.s 23) (.s 28) (qb false)), qm 30 29, .g 30 true 32 (.fad 31 (.s 3) 4), .g 30 true 33 (.ldl 32 3 (.s 31) 1 false), .g 30 true 34 (.len 33 false (.s 32)), .g 30 true 35 (.fad 34 (.s 3) 3), .g 30 true 36 (.ldl 35 3 (.s 34) 1 false), .g 30 true 37 (.call 37 215 false [(.s 35)]), .g 30 true 38 (.bin 37 .eql (.s 33) (.s 36)), .i (.pick 38 (.s 30) (.s 37) (qb false)), qm 39 38, .g 39 true 41 (.fad 40 (.s 3) 4), .g 39 true 42 (.ldl 41 3 (.s 40) 1 false), .g 39 true 43 (.call 43 214 false [(.s 41)]), .i (.pick 43 (.s 39) (.s 42) (qb false)), qm 4 43]) .ret))⟩
theorem k_impl_QcOk : cd n_impl_QcOk = some c_impl_QcOk := by kernel_rfl
theorem impl_QcOk_ok (l : Lim) (q : Qc) (hq : q.wf) : VC cd n_impl_QcOk (mkP [(true, l.c), (true, q.c)]) (fun rs _ => rs = bl (qcOk l q)) := by
 obtain ⟨w1, w2, w3, w4, w5⟩ := hq
 simp only [I64, Sz] at w1 w2 w3 w4 w5
 refine VC_enter k_impl_QcOk rfl ?_
 simp (disch := omega) [c_impl_QcOk, Lim.c, Qc.c, VY]
 refine VXC_e (impl_LimitsOk_ok l) rfl rfl ?_
 simp (disch := omega) [VY]
 refine VXB_b (fun h1 => ?_) (fun h1 => ?_) <;> simp (disch := omega) [h1, qcOk, VY]
 have hn := lim_n h1
 refine VXC_e (isNum_ok _) rfl rfl ?_
 simp (disch := omega) [h1, VY]
 refine VXB_b (fun h2 => ?_) (fun h2 => ?_) <;> simp (disch := omega) [h1, h2, VY]
 refine VXC_e (isNum_ok _) rfl rfl ?_
 simp (disch := omega) [h1, h2, VY]
 refine VXB_b (fun h3 => ?_) (fun h3 => ?_) <;> simp (disch := omega) [h1, h2, h3, VY]
 refine VXC_e (areHashes_ok [q.block] (by simp)) rfl rfl ?_
 simp (disch := omega) [h1, h2, h3, hashes_one, VY]
 refine VXB_b (fun h4 => ?_) (fun h4 => ?_) <;> simp (disch := omega) [h1, h2, h3, h4, VY]
 refine VXC_e (impl_BitsOk_ok q.bits l.n (by omega) (by omega)) rfl rfl ?_
 simp (disch := omega) [h1, h2, h3, h4, VY]
 refine VXB_b (fun h5 => ?_) (fun h5 => ?_) <;> simp (disch := omega) [h1, h2, h3, h4, h5, VY]
 refine VXC_e (impl_BitsCount_ok q.bits (by omega)) rfl rfl ?_
 have hl := bitsList_len q.bits
 simp (disch := omega) [h1, h2, h3, h4, h5, bss_len, VY]
 refine VXB_dec (fun h6 => ?_) (fun h6 => ?_)
 ·simp (disch := omega) [h1, h2, h3, h4, h5, h6, bss_len, VY]
  refine VXC_e (areHashes_ok q.tags (by omega)) rfl rfl ?_
  have h7 : q.tags.length = (bitsList q.bits).length := by omega
  simp (disch := omega) [h1, h2, h3, h4, h5, h6, h7, VY]
 ·have h7 : ¬ q.tags.length = (bitsList q.bits).length := by omega
  simp (disch := omega) [h1, h2, h3, h4, h5, h6, h7, bss_len, VY]
abbrev n_spec_QcOk : Nat := 203
def c_spec_QcOk : AF := ⟨2, 6, [.tmp 4], (.seq (.ops [.i (.lbox 2 (.s 0)), .i (.lbox 3 (.s 1)), .i (.mov 4 (qb false))]) (.seq (.ops [ql 5 2 2 5 true, .i (.call 7 142 false [(.s 5)]), qm 7 6, .g 7 true 9 (.fad 8 (.s 3) 0), .g 7 true 10 (.ldl 9 3 (.s 8) 1 false), .g 7 true 11 (.call 11 201 false [(.s 9)]), .i (.pick 11 (.s 7) (.s 10) (qb false)), qm 12 11, .g 12 true 14 (.fad 13 (.s 3) 1), .g 12 true 15 (.ldl 14 3 (.s 13) 1 false), .g 12 true 16 (.call 16 201 false [(.s 14)]), .i (.pick 16 (.s 12) (.s 15) (qb false)), qm 17 16, .g 17 true 19 (.fad 18 (.s 3) 2), .g 17 true 20 (.ldl 19 3 (.s 18) 1 false), .g 17 true 21 (.call 21 202 false [(.s 19)]), .i (.pick 21 (.s 17) (.s 20) (qb false)), qm 22 21, .g 22 true 24 (.fad 23 (.s 3) 3), .g 22 true 25 (.ldl 24 3 (.s 23) 1 false), .g 22 true 26 (.fad 25 (.s 2) 0), .g 22 true 27 (.ldl 26 2 (.s 25) 1 false), .g 22 true 28 (.call 28 206 false [(.s 24), (.s 26)]), .i (.pick 28 (.s 22) (.s 27) (qb false)), qm 29 28, .g 29 true 31 (.fad 30 (.s 3) 4), .g 29 true 32 (.ldl 31 3 (.s 30) 1 false), .g 29 true 33 (.len 32 false (.s 31)), .g 29 true 34 (.fad 33 (.s 3) 3), .g 29 true 35 (.ldl 34 3 (.s 33) 1 false), .g 29 true 36 (.call 36 255 false [(.s 34)]), .g 29 true 37 (.bin 36 .eql (.s 32) (.s 35)), .i (.pick 37 (.s 29) (.s 36) (qb false)), qm 38 37, .g 38 true 40 (.fad 39 (.s 3) 4), .g 38 true 41 (.ldl 40 3 (.s 39) 1 false), .g 38 true 42 (.call 42 256 false [(.s 40)]), .i (.pick 42 (.s 38) (.s 41) (qb false)), qm 4 42]) .ret))⟩
theorem k_spec_QcOk : cd n_spec_QcOk = some c_spec_QcOk := by kernel_rfl
theorem spec_QcOk_ok (l : Lim) (q : Qc) (hq : q.wf) : VC cd n_spec_QcOk (mkP [(true, l.c), (true, q.c)]) (fun rs _ => rs = bl (qcOk l q)) := by
 obtain ⟨w1, w2, w3, w4, w5⟩ := hq
 simp only [I64, Sz] at w1 w2 w3 w4 w5
 refine VC_enter k_spec_QcOk rfl ?_
 simp (disch := omega) [c_spec_QcOk, Lim.c, Qc.c, VY]
 refine VXC_e (spec_LimitsOk_ok l) rfl rfl ?_
 simp (disch := omega) [VY]
 refine VXB_b (fun h1 => ?_) (fun h1 => ?_) <;> simp (disch := omega) [h1, qcOk, VY]
 have hn := lim_n h1
 refine VXC_e (l01Num_ok _) rfl rfl ?_
 simp (disch := omega) [h1, VY]
 refine VXB_b (fun h2 => ?_) (fun h2 => ?_) <;> simp (disch := omega) [h1, h2, VY]
 refine VXC_e (l01Num_ok _) rfl rfl ?_
 simp (disch := omega) [h1, h2, VY]
 refine VXB_b (fun h3 => ?_) (fun h3 => ?_) <;> simp (disch := omega) [h1, h2, h3, VY]
 refine VXC_e (l07Hash_ok _) rfl rfl ?_
 simp (disch := omega) [h1, h2, h3, VY]
 refine VXB_b (fun h4 => ?_) (fun h4 => ?_) <;> simp (disch := omega) [h1, h2, h3, h4, VY]
 refine VXC_e (spec_BitsOk_ok q.bits l.n (by omega) (by omega)) rfl rfl ?_
 simp (disch := omega) [h1, h2, h3, h4, VY]
 refine VXB_b (fun h5 => ?_) (fun h5 => ?_) <;> simp (disch := omega) [h1, h2, h3, h4, h5, VY]
 refine VXC_e (spec_BitsCount_ok q.bits (by omega)) rfl rfl ?_
 have hl := bitsList_len q.bits
 simp (disch := omega) [h1, h2, h3, h4, h5, bss_len, VY]
 refine VXB_dec (fun h6 => ?_) (fun h6 => ?_)
 ·simp (disch := omega) [h1, h2, h3, h4, h5, h6, bss_len, VY]
  refine VXC_e (l08Hashes_ok q.tags (by omega)) rfl rfl ?_
  have h7 : q.tags.length = (bitsList q.bits).length := by omega
  simp (disch := omega) [h1, h2, h3, h4, h5, h6, h7, VY]
 ·have h7 : ¬ q.tags.length = (bitsList q.bits).length := by omega
  simp (disch := omega) [h1, h2, h3, h4, h5, h6, h7, bss_len, VY]
structure Head where
 view : Int
 height : Int
 proposer : Int
 parent : Bytes
 root : Bytes
 qc : Qc
def Head.c (h : Head) : List D := [.int .i64 h.view, .int .i64 h.height, .int .i64 h.proposer, .sl (bytes h.parent), .sl (bytes h.root), .int .i64 h.qc.view, .int .i64 h.qc.height, .sl (bytes h.qc.block), .sl (bytes h.qc.bits), .sl (bss h.qc.tags)]
def Head.wf (h : Head) : Prop := I64 h.view ∧ I64 h.height ∧ I64 h.proposer ∧ Sz h.parent.length ∧ Sz h.root.length ∧ h.qc.wf
def fits (h : Head) : Bool := decide (h.qc.view < h.view) && decide (h.qc.height = h.height - 1) && decide (h.qc.block = h.parent)
abbrev n_impl_Head_matches : Nat := 223
def c_impl_Head_matches : AF := ⟨1, 5, [.tmp 2], (.seq (.ops [.i (.lbox 1 (.s 0)), .i (.mov 2 (qb false))]) (.seq (.ops [qf 3 1 5, qf 4 3 0, ql 5 1 4 1 false, qf 6 1 0, ql 7 1 6 1 false, .i (.bin 8 .lss (.s 5) (.s 7)), qm 9 8, .g 9 true 11 (.fad 10 (.s 1) 5), .g 9 true 12 (.fad 11 (.s 10) 1), .g 9 true 13 (.ldl 12 1 (.s 11) 1 false), .g 9 true 14 (.fad 13 (.s 1) 1), .g 9 true 15 (.ldl 14 1 (.s 13) 1 false), .g 9 true 16 (.bin 15 .sub (.s 14) (qi 1)), .g 9 true 17 (.bin 16 .eql (.s 12) (.s 15)), .i (.pick 17 (.s 9) (.s 16) (qb false)), qm 18 17, .g 18 true 20 (.fad 19 (.s 1) 5), .g 18 true 21 (.fad 20 (.s 19) 2), .g 18 true 22 (.ldl 21 1 (.s 20) 1 false), .g 18 true 23 (.fad 22 (.s 1) 3), .g 18 true 24 (.ldl 23 1 (.s 22) 1 false), .g 18 true 25 (.call 25 57 false [(.s 21), (.s 23)]), .i (.pick 25 (.s 18) (.s 24) (qb false)), qm 2 25]) .ret))⟩
theorem k_impl_Head_matches : cd n_impl_Head_matches = some c_impl_Head_matches := by kernel_rfl
theorem matches_ok (h : Head) (h1 : 1 ≤ h.height) (h2 : I64 h.height) : VC cd n_impl_Head_matches (mkP [(true, h.c)]) (fun rs _ => rs = bl (fits h)) := by
 simp only [I64] at h2
 refine VC_enter k_impl_Head_matches rfl ?_
 simp (disch := omega) [c_impl_Head_matches, Head.c, VY]
 refine VXB_dec (fun g1 => ?_) (fun g1 => ?_) <;> simp (disch := omega) [g1, fits, VY]
 refine VXB_dec (fun g2 => ?_) (fun g2 => ?_) <;> simp (disch := omega) [g1, g2, VY]
 refine VXC_e (impl_SameBytes_ok _ _) rfl rfl ?_
 simp (disch := omega) [g1, g2, VY]
abbrev n_spec_l13Fits : Nat := 204
def c_spec_l13Fits : AF := ⟨1, 5, [.tmp 2], (.seq (.ops [.i (.lbox 1 (.s 0)), .i (.mov 2 (qb false))]) (.seq (.ops [qf 3 1 5, qf 4 3 0, ql 5 1 4 1 false, qf 6 1 0, ql 7 1 6 1 false, .i (.bin 8 .lss (.s 5) (.s 7)), qm 9 8, .g 9 true 11 (.fad 10 (.s 1) 5), .g 9 true 12 (.fad 11 (.s 10) 1), .g 9 true 13 (.ldl 12 1 (.s 11) 1 false), .g 9 true 14 (.fad 13 (.s 1) 1), .g 9 true 15 (.ldl 14 1 (.s 13) 1 false), .g 9 true 16 (.bin 15 .sub (.s 14) (qi 1)), .g 9 true 17 (.bin 16 .eql (.s 12) (.s 15)), .i (.pick 17 (.s 9) (.s 16) (qb false)), qm 18 17, .g 18 true 20 (.fad 19 (.s 1) 5), .g 18 true 21 (.fad 20 (.s 19) 2), .g 18 true 22 (.ldl 21 1 (.s 20) 1 false), .g 18 true 23 (.fad 22 (.s 1) 3), .g 18 true 24 (.ldl 23 1 (.s 22) 1 false), .g 18 true 25 (.call 25 143 false [(.s 21), (.s 23)]), .i (.pick 25 (.s 18) (.s 24) (qb false)), qm 2 25]) .ret))⟩
theorem k_spec_l13Fits : cd n_spec_l13Fits = some c_spec_l13Fits := by kernel_rfl
theorem l13Fits_ok (h : Head) (h1 : 1 ≤ h.height) (h2 : I64 h.height) : VC cd n_spec_l13Fits (mkP [(true, h.c)]) (fun rs _ => rs = bl (fits h)) := by
 simp only [I64] at h2
 refine VC_enter k_spec_l13Fits rfl ?_
 simp (disch := omega) [c_spec_l13Fits, Head.c, VY]
 refine VXB_dec (fun g1 => ?_) (fun g1 => ?_) <;> simp (disch := omega) [g1, fits, VY]
 refine VXB_dec (fun g2 => ?_) (fun g2 => ?_) <;> simp (disch := omega) [g1, g2, VY]
 refine VXC_e (spec_SameBytes_ok _ _) rfl rfl ?_
 simp (disch := omega) [g1, g2, VY]
def headOk (l : Lim) (h : Head) : Bool := qcOk l h.qc && isNum h.view && inn h.height 1 1152921504606846975 && inn h.proposer 0 (l.n - 1) && hash h.parent && hash h.root && fits h
theorem qcOk_lim {l : Lim} {q : Qc} (h : qcOk l q = true) : l.ok = true := by
 simp only [qcOk, Bool.and_eq_true] at h
 exact h.1.1.1.1.1.1
theorem hashes_two (x y : Bytes) : hashes [x, y] = (hash x && hash y) := by simp [hashes]
abbrev n_impl_HeadOk : Nat := 140
def c_impl_HeadOk : AF := ⟨2, 6, [.tmp 4], (.seq (.ops [.i (.lbox 2 (.s 0)), .i (.lbox 3 (.s 1)), .i (.mov 4 (qb false))]) (.seq (.ops [ql 5 2 2 5 true, qf 6 3 5, ql 7 3 6 5 true, .i (.call 9 128 false [(.s 5), (.s 7)]), qm 9 8, .g 9 true 11 (.fad 10 (.s 3) 0), .g 9 true 12 (.ldl 11 3 (.s 10) 1 false), .g 9 true 13 (.call 13 213 false [(.s 11)]), .i (.pick 13 (.s 9) (.s 12) (qb false)), qm 14 13, .g 14 true 16 (.fad 15 (.s 3) 1), .g 14 true 17 (.ldl 16 3 (.s 15) 1 false), .g 14 true 18 (.call 18 62 false [(.s 16), (qi 1), (qi 1152921504606846975)]), .i (.pick 18 (.s 14) (.s 17) (qb false)), qm 19 18, .g 19 true 21 (.fad 20 (.s 3) 2), .g 19 true 22 (.ldl 21 3 (.s 20) 1 false), .g 19 true 23 (.fad 22 (.s 2) 0), .g 19 true 24 (.ldl 23 2 (.s 22) 1 false), .g 19 true 25 (.bin 24 .sub (.s 23) (qi 1)), .g 19 true 26 (.call 26 62 false [(.s 21), (qi 0), (.s 24)]), .i (.pick 26 (.s 19) (.s 25) (qb false)), qm 27 26, .g 27 true 29 (.fad 28 (.s 3) 3), .g 27 true 30 (.ldl 29 3 (.s 28) 1 false), .g 27 true 31 (.fad 30 (.s 3) 4), .g 27 true 32 (.ldl 31 3 (.s 30) 1 false), .g 27 true 33 (.bsl 32 22 1 2 [.nils] [(0, 1, (.s 29)), (1, 1, (.s 31))]), .g 27 true 34 (.call 34 214 false [(.s 32)]), .i (.pick 34 (.s 27) (.s 33) (qb false)), qm 35 34, .g 35 true 37 (.ldl 36 3 (.s 3) 10 true), .g 35 true 38 (.call 38 223 false [(.s 36)]), .i (.pick 38 (.s 35) (.s 37) (qb false)), qm 4 38]) .ret))⟩
theorem k_impl_HeadOk : cd n_impl_HeadOk = some c_impl_HeadOk := by kernel_rfl
theorem impl_HeadOk_ok (l : Lim) (h : Head) (hw : h.wf) : VC cd n_impl_HeadOk (mkP [(true, l.c), (true, h.c)]) (fun rs _ => rs = bl (headOk l h)) := by
 obtain ⟨w1, w2, w3, w4, w5, w6⟩ := hw
 have w2' := w2
 simp only [I64, Sz] at w1 w2 w3 w4 w5
 refine VC_enter k_impl_HeadOk rfl ?_
 simp (disch := omega) [c_impl_HeadOk, Lim.c, Head.c, VY]
 refine VXC_e (impl_QcOk_ok l h.qc w6) rfl rfl ?_
 simp (disch := omega) [VY]
 refine VXB_b (fun h1 => ?_) (fun h1 => ?_) <;> simp (disch := omega) [h1, headOk, VY]
 have hn := lim_n (qcOk_lim h1)
 refine VXC_e (isNum_ok _) rfl rfl ?_
 simp (disch := omega) [h1, VY]
 refine VXB_b (fun h2 => ?_) (fun h2 => ?_) <;> simp (disch := omega) [h1, h2, VY]
 refine VXC_e (within_ok _ _ _) rfl rfl ?_
 simp (disch := omega) [h1, h2, VY]
 refine VXB_b (fun h3 => ?_) (fun h3 => ?_) <;> simp (disch := omega) [h1, h2, h3, VY]
 refine VXC_e (within_ok _ _ _) rfl rfl ?_
 simp (disch := omega) [h1, h2, h3, VY]
 refine VXB_b (fun h4 => ?_) (fun h4 => ?_) <;> simp (disch := omega) [h1, h2, h3, h4, VY]
 refine VXC_e (areHashes_ok [h.parent, h.root] (by simp)) rfl rfl ?_
 simp (disch := omega) [h1, h2, h3, h4, VY]
 refine VXB_b (fun h5 => ?_) (fun h5 => ?_)
 ·have h6 : hash h.parent = true ∧ hash h.root = true := by simpa [hashes_two] using h5
  simp (disch := omega) [h1, h2, h3, h4, h5, VY]
  refine VXC_e (matches_ok h (inn_t h3).1 w2') rfl rfl ?_
  simp (disch := omega) [h1, h2, h3, h4, h5, h6, VY]
 ·simp (disch := omega) [h1, h2, h3, h4, h5, VY]
  rw [hashes_two] at h5
  simp only [Bool.and_eq_false_iff] at h5
  rcases h5 with h5 | h5 <;> simp [h5]
abbrev n_spec_HeadOk : Nat := 118
def c_spec_HeadOk : AF := ⟨2, 6, [.tmp 4], (.seq (.ops [.i (.lbox 2 (.s 0)), .i (.lbox 3 (.s 1)), .i (.mov 4 (qb false))]) (.seq (.ops [ql 5 2 2 5 true, .i (.call 7 142 false [(.s 5)]), qm 7 6, .g 7 true 9 (.fad 8 (.s 3) 0), .g 7 true 10 (.ldl 9 3 (.s 8) 1 false), .g 7 true 11 (.call 11 201 false [(.s 9)]), .i (.pick 11 (.s 7) (.s 10) (qb false)), qm 12 11, .g 12 true 14 (.fad 13 (.s 3) 1), .g 12 true 15 (.ldl 14 3 (.s 13) 1 false), .g 12 true 16 (.call 16 152 false [(.s 14), (qi 1), (qi 1152921504606846975)]), .i (.pick 16 (.s 12) (.s 15) (qb false)), qm 17 16, .g 17 true 19 (.fad 18 (.s 3) 2), .g 17 true 20 (.ldl 19 3 (.s 18) 1 false), .g 17 true 21 (.fad 20 (.s 2) 0), .g 17 true 22 (.ldl 21 2 (.s 20) 1 false), .g 17 true 23 (.bin 22 .sub (.s 21) (qi 1)), .g 17 true 24 (.call 24 152 false [(.s 19), (qi 0), (.s 22)]), .i (.pick 24 (.s 17) (.s 23) (qb false)), qm 25 24, .g 25 true 27 (.fad 26 (.s 3) 3), .g 25 true 28 (.ldl 27 3 (.s 26) 1 false), .g 25 true 29 (.call 29 202 false [(.s 27)]), .i (.pick 29 (.s 25) (.s 28) (qb false)), qm 30 29, .g 30 true 32 (.fad 31 (.s 3) 4), .g 30 true 33 (.ldl 32 3 (.s 31) 1 false), .g 30 true 34 (.call 34 202 false [(.s 32)]), .i (.pick 34 (.s 30) (.s 33) (qb false)), qm 35 34, .g 35 true 37 (.ldl 36 2 (.s 2) 5 true), .g 35 true 38 (.fad 37 (.s 3) 5), .g 35 true 39 (.ldl 38 3 (.s 37) 5 true), .g 35 true 40 (.call 40 203 false [(.s 36), (.s 38)]), .i (.pick 40 (.s 35) (.s 39) (qb false)), qm 41 40, .g 41 true 43 (.ldl 42 3 (.s 3) 10 true), .g 41 true 44 (.call 44 204 false [(.s 42)]), .i (.pick 44 (.s 41) (.s 43) (qb false)), qm 4 44]) .ret))⟩
theorem k_spec_HeadOk : cd n_spec_HeadOk = some c_spec_HeadOk := by kernel_rfl
theorem spec_HeadOk_ok (l : Lim) (h : Head) (hw : h.wf) : VC cd n_spec_HeadOk (mkP [(true, l.c), (true, h.c)]) (fun rs _ => rs = bl (headOk l h)) := by
 obtain ⟨w1, w2, w3, w4, w5, w6⟩ := hw
 have w2' := w2
 simp only [I64, Sz] at w1 w2 w3 w4 w5
 have hlim : l.ok = false → qcOk l h.qc = false := fun e => by simp [qcOk, e]
 refine VC_enter k_spec_HeadOk rfl ?_
 simp (disch := omega) [c_spec_HeadOk, Lim.c, Head.c, VY]
 refine VXC_e (spec_LimitsOk_ok l) rfl rfl ?_
 simp (disch := omega) [VY]
 refine VXB_b (fun h0 => ?_) (fun h0 => ?_)
 case refine_2 => simp (disch := omega) [h0, headOk, hlim h0, VY]
 simp (disch := omega) [h0, VY]
 have hn := lim_n h0
 refine VXC_e (l01Num_ok _) rfl rfl ?_
 simp (disch := omega) [h0, VY]
 refine VXB_b (fun h2 => ?_) (fun h2 => ?_) <;> simp (disch := omega) [h0, h2, headOk, VY]
 refine VXC_e (l01In_ok _ _ _) rfl rfl ?_
 simp (disch := omega) [h0, h2, VY]
 refine VXB_b (fun h3 => ?_) (fun h3 => ?_) <;> simp (disch := omega) [h0, h2, h3, VY]
 refine VXC_e (l01In_ok _ _ _) rfl rfl ?_
 simp (disch := omega) [h0, h2, h3, VY]
 refine VXB_b (fun h4 => ?_) (fun h4 => ?_) <;> simp (disch := omega) [h0, h2, h3, h4, VY]
 refine VXC_e (l07Hash_ok _) rfl rfl ?_
 simp (disch := omega) [h0, h2, h3, h4, VY]
 refine VXB_b (fun h5 => ?_) (fun h5 => ?_) <;> simp (disch := omega) [h0, h2, h3, h4, h5, VY]
 refine VXC_e (l07Hash_ok _) rfl rfl ?_
 simp (disch := omega) [h0, h2, h3, h4, h5, VY]
 refine VXB_b (fun h6 => ?_) (fun h6 => ?_) <;> simp (disch := omega) [h0, h2, h3, h4, h5, h6, VY]
 refine VXC_e (spec_QcOk_ok l h.qc w6) rfl rfl ?_
 simp (disch := omega) [h0, h2, h3, h4, h5, h6, VY]
 refine VXB_b (fun h1 => ?_) (fun h1 => ?_) <;> simp (disch := omega) [h0, h1, h2, h3, h4, h5, h6, VY]
 refine VXC_e (l13Fits_ok h (inn_t h3).1 w2') rfl rfl ?_
 simp (disch := omega) [h0, h1, h2, h3, h4, h5, h6, VY]
def hds (l : List Head) : List (List D) := l.map Head.c
theorem hds_len (l : List Head) : (hds l).length = l.length := by simp [hds]
theorem hds_get {l : List Head} {i : Nat} (h : i < l.length) : (hds l)[i]? = some l[i].c := by simp [hds, h]
def headsOk (l : Lim) (hs : List Head) : Bool := hs.all (headOk l)
theorem headsOk_of {l : Lim} {hs : List Head} (h : ∀ x ∈ hs.take hs.length, headOk l x = true) : headsOk l hs = true := by
 rw [List.take_length] at h
 simpa [headsOk] using h
theorem headsOk_no {l : Lim} {hs : List Head} {i : Nat} (hi : i < hs.length) (h : headOk l hs[i] = false) : headsOk l hs = false := by
 simp only [headsOk, List.all_eq_false]
 exact ⟨hs[i], List.getElem_mem hi, by simp [h]⟩
def HeadsWf (hs : List Head) : Prop := Sz hs.length ∧ ∀ h ∈ hs, h.wf
abbrev n_impl_areHeads : Nat := 131
def c_impl_areHeads : AF := ⟨2, 5, [.tmp 4], (.seq (.ops [.i (.lbox 2 (.s 0)), .i (.mov 4 (qb false))]) (.seq (.seq (.ops [qm 7 1, .i (.len 8 false (.s 7)), .i (.mov 9 (qi 0))]) (.block 0 (.loop [17, 16, 15, 14, 13, 12, 11, 10, 6] (.seq (.ops [.i (.bin 10 .lss (.s 9) (.s 8))]) (.seq (.cond (.s 10) .skip (.exit 0)) (.seq (.block 1 (.seq (.ops [.i (.iad 11 (.s 7) (.s 9) 10), .i (.ldh 12 (.s 11) 10 true), .i (.lal 6 qz), .i (.stl 6 (.s 6) (.s 12) 10)]) (.seq (.ops [ql 13 2 2 5 true, ql 14 6 6 10 true, .i (.call 16 140 false [(.s 13), (.s 14)]), .i (.not 16 (.s 15))]) (.cond (.s 16) (.seq (.ops [.i (.mov 4 (qb false))]) .ret) .skip)))) (.ops [.i (.bin 17 .add (.s 9) (qi 1)), qm 9 17]))))))) (.seq (.ops [.i (.mov 4 (qb true))]) .ret)))⟩
theorem k_impl_areHeads : cd n_impl_areHeads = some c_impl_areHeads := by kernel_rfl
theorem areHeads_ok (l : Lim) (hs : List Head) (hw : HeadsWf hs) : VC cd n_impl_areHeads (mkP [(true, l.c), (false, [.sl (hds hs)])]) (fun rs _ => rs = bl (headsOk l hs)) := by
 obtain ⟨w1, w2⟩ := hw
 simp only [Sz] at w1
 refine VC_enter k_impl_areHeads rfl ?_
 simp (disch := omega) [c_impl_areHeads, Lim.c, hds_len, VY]
 refine VX_loop3 (σ := Nat) (f1 := _) (es0 := _) (by simp (disch := omega) [VY]; rfl) (by simp (disch := omega) [VY]; rfl) (fun i => [(9, .val false [.int .i64 i])]) (fun _ => []) (fun i g => g + i = hs.length ∧ ∀ x ∈ hs.take i, headOk l x = true) 0 hs.length (by simp (disch := omega) [VY]) (by simp (disch := omega) [VY]) ⟨by omega, by simp⟩ ?_
 rintro i n g ⟨hg, hi⟩
 simp (disch := omega) [VY]
 refine VXB_dec (fun h1 => ?_) (fun h1 => ?_)
 ·have hx : i < hs.length := by omega
  simp (disch := omega) [hds_get hx, Head.c, VY]
  refine VXC_e (impl_HeadOk_ok l hs[i] (w2 _ (List.getElem_mem hx))) rfl rfl ?_
  simp (disch := omega) [VY]
  refine VXB_b (fun h2 => ?_) (fun h2 => ?_)
  ·simp (disch := omega) [VY]
   exact ⟨i + 1, g - 1, by omega, ⟨by omega, take_all hi hx h2⟩, by simp⟩
  ·simp (disch := omega) [VY]
   exact headsOk_no hx h2
 ·simp (disch := omega) [VY]
  have : i = hs.length := by omega
  subst this
  exact headsOk_of hi
end Go.Eng.F
namespace Go.Eng.F
structure Proof where
 heads : List Head
 qc : Qc
def Proof.c (p : Proof) : List D := [.sl (hds p.heads), .int .i64 p.qc.view, .int .i64 p.qc.height, .sl (bytes p.qc.block), .sl (bytes p.qc.bits), .sl (bss p.qc.tags)]
def Proof.wf (p : Proof) : Prop := HeadsWf p.heads ∧ p.qc.wf
def closes (p : Proof) : Bool := match p.heads[p.heads.length - 1]? with | some h => decide (p.qc.view = h.view) && decide (p.qc.height = h.height) | none => false
theorem closes_at {p : Proof} (h : p.heads.length - 1 < p.heads.length) : closes p = (decide (p.qc.view = p.heads[p.heads.length - 1].view) && decide (p.qc.height = p.heads[p.heads.length - 1].height)) := by simp [closes, h]
abbrev n_impl_Proof_closes : Nat := 132
def c_impl_Proof_closes : AF := ⟨1, 5, [.tmp 2], (.seq (.ops [.i (.lbox 1 (.s 0)), .i (.mov 2 (qb false))]) (.seq (.ops [qf 4 1 0, ql 5 1 4 1 false, qf 6 1 0, ql 7 1 6 1 false, .i (.len 8 false (.s 7)), .i (.bin 9 .sub (.s 8) (qi 1)), .i (.iad 10 (.s 5) (.s 9) 10), .i (.ldh 11 (.s 10) 10 true), .i (.lal 3 qz), .i (.stl 3 (.s 3) (.s 11) 10)]) (.seq (.ops [qf 12 1 1, qf 13 12 0, ql 14 1 13 1 false, qf 15 3 0, ql 16 3 15 1 false, .i (.bin 17 .eql (.s 14) (.s 16)), qm 18 17, .g 18 true 20 (.fad 19 (.s 1) 1), .g 18 true 21 (.fad 20 (.s 19) 1), .g 18 true 22 (.ldl 21 1 (.s 20) 1 false), .g 18 true 23 (.fad 22 (.s 3) 1), .g 18 true 24 (.ldl 23 3 (.s 22) 1 false), .g 18 true 25 (.bin 24 .eql (.s 21) (.s 23)), .i (.pick 25 (.s 18) (.s 24) (qb false)), qm 2 25]) .ret)))⟩
theorem k_impl_Proof_closes : cd n_impl_Proof_closes = some c_impl_Proof_closes := by kernel_rfl
theorem closes_ok (p : Proof) (h0 : 0 < p.heads.length) (hw : p.wf) : VC cd n_impl_Proof_closes (mkP [(true, p.c)]) (fun rs _ => rs = bl (closes p)) := by
 have w1 : p.heads.length ≤ 1073741824 := hw.1.1
 have hx : p.heads.length - 1 < p.heads.length := by omega
 have e1 : ((p.heads.length : Int) - 1).toNat = p.heads.length - 1 := by omega
 have e2 : (1 : Int) ≤ (p.heads.length : Int) := by omega
 rw [closes_at hx]
 refine VC_enter k_impl_Proof_closes rfl ?_
 simp (disch := omega) [c_impl_Proof_closes, Proof.c, hds_len, e1, e2, hds_get hx, Head.c, VY]
 refine VXB_dec (fun h1 => ?_) (fun h1 => ?_) <;> simp (disch := omega) [h1, VY]
abbrev n_spec_l16Fits : Nat := 276
def c_spec_l16Fits : AF := ⟨1, 5, [.tmp 2], (.seq (.ops [.i (.lbox 1 (.s 0)), .i (.mov 2 (qb false))]) (.seq (.ops [qf 4 1 0, ql 5 1 4 1 false, qf 6 1 0, ql 7 1 6 1 false, .i (.len 8 false (.s 7)), .i (.bin 9 .sub (.s 8) (qi 1)), .i (.iad 10 (.s 5) (.s 9) 10), .i (.ldh 11 (.s 10) 10 true), .i (.lal 3 qz), .i (.stl 3 (.s 3) (.s 11) 10)]) (.seq (.ops [qf 12 1 1, qf 13 12 0, ql 14 1 13 1 false, qf 15 3 0, ql 16 3 15 1 false, .i (.bin 17 .eql (.s 14) (.s 16)), qm 18 17, .g 18 true 20 (.fad 19 (.s 1) 1), .g 18 true 21 (.fad 20 (.s 19) 1), .g 18 true 22 (.ldl 21 1 (.s 20) 1 false), .g 18 true 23 (.fad 22 (.s 3) 1), .g 18 true 24 (.ldl 23 3 (.s 22) 1 false), .g 18 true 25 (.bin 24 .eql (.s 21) (.s 23)), .i (.pick 25 (.s 18) (.s 24) (qb false)), qm 2 25]) .ret)))⟩
theorem k_spec_l16Fits : cd n_spec_l16Fits = some c_spec_l16Fits := by kernel_rfl
theorem l16Fits_ok (p : Proof) (h0 : 0 < p.heads.length) (hw : p.wf) : VC cd n_spec_l16Fits (mkP [(true, p.c)]) (fun rs _ => rs = bl (closes p)) := by
 have w1 : p.heads.length ≤ 1073741824 := hw.1.1
 have hx : p.heads.length - 1 < p.heads.length := by omega
 have e1 : ((p.heads.length : Int) - 1).toNat = p.heads.length - 1 := by omega
 have e2 : (1 : Int) ≤ (p.heads.length : Int) := by omega
 rw [closes_at hx]
 refine VC_enter k_spec_l16Fits rfl ?_
 simp (disch := omega) [c_spec_l16Fits, Proof.c, hds_len, e1, e2, hds_get hx, Head.c, VY]
 refine VXB_dec (fun h1 => ?_) (fun h1 => ?_) <;> simp (disch := omega) [h1, VY]
def proofOk (l : Lim) (p : Proof) : Bool := inn p.heads.length 3 l.heads && headsOk l p.heads && qcOk l p.qc && closes p
abbrev n_impl_ProofOk : Nat := 53
def c_impl_ProofOk : AF := ⟨2, 5, [.tmp 4], (.seq (.ops [.i (.lbox 2 (.s 0)), .i (.lbox 3 (.s 1)), .i (.mov 4 (qb false))]) (.seq (.ops [qf 5 3 0, ql 6 3 5 1 false, .i (.len 7 false (.s 6)), qf 8 2 4, ql 9 2 8 1 false, .i (.call 11 62 false [(.s 7), (qi 3), (.s 9)]), qm 11 10, .g 11 true 13 (.ldl 12 2 (.s 2) 5 true), .g 11 true 14 (.fad 13 (.s 3) 0), .g 11 true 15 (.ldl 14 3 (.s 13) 1 false), .g 11 true 16 (.call 16 131 false [(.s 12), (.s 14)]), .i (.pick 16 (.s 11) (.s 15) (qb false)), qm 17 16, .g 17 true 19 (.ldl 18 2 (.s 2) 5 true), .g 17 true 20 (.fad 19 (.s 3) 1), .g 17 true 21 (.ldl 20 3 (.s 19) 5 true), .g 17 true 22 (.call 22 128 false [(.s 18), (.s 20)]), .i (.pick 22 (.s 17) (.s 21) (qb false)), qm 23 22, .g 23 true 25 (.ldl 24 3 (.s 3) 6 true), .g 23 true 26 (.call 26 132 false [(.s 24)]), .i (.pick 26 (.s 23) (.s 25) (qb false)), qm 4 26]) .ret))⟩
theorem k_impl_ProofOk : cd n_impl_ProofOk = some c_impl_ProofOk := by kernel_rfl
theorem impl_ProofOk_ok (l : Lim) (p : Proof) (hw : p.wf) : VC cd n_impl_ProofOk (mkP [(true, l.c), (true, p.c)]) (fun rs _ => rs = bl (proofOk l p)) := by
 have w1 : p.heads.length ≤ 1073741824 := hw.1.1
 refine VC_enter k_impl_ProofOk rfl ?_
 simp (disch := omega) [c_impl_ProofOk, Lim.c, Proof.c, hds_len, VY]
 refine VXC_e (within_ok _ _ _) rfl rfl ?_
 simp (disch := omega) [VY]
 refine VXB_b (fun h1 => ?_) (fun h1 => ?_) <;> simp (disch := omega) [h1, proofOk, VY]
 refine VXC_e (areHeads_ok l p.heads hw.1) rfl rfl ?_
 simp (disch := omega) [h1, VY]
 refine VXB_b (fun h2 => ?_) (fun h2 => ?_) <;> simp (disch := omega) [h1, h2, VY]
 refine VXC_e (impl_QcOk_ok l p.qc hw.2) rfl rfl ?_
 simp (disch := omega) [h1, h2, VY]
 refine VXB_b (fun h3 => ?_) (fun h3 => ?_) <;> simp (disch := omega) [h1, h2, h3, VY]
 refine VXC_e (closes_ok p (by have := inn_t h1; omega) hw) rfl rfl ?_
 simp (disch := omega) [h1, h2, h3, VY]
abbrev n_spec_ProofOk : Nat := 237
def c_spec_ProofOk : AF := ⟨2, 6, [.tmp 4], (.seq (.ops [.i (.lbox 2 (.s 0)), .i (.lbox 3 (.s 1)), .i (.mov 4 (qb false))]) (.seq (.seq (.ops [ql 7 2 2 5 true, .i (.call 9 142 false [(.s 7)]), .i (.not 9 (.s 8)), qm 10 9, .g 10 false 12 (.fad 11 (.s 3) 0), .g 10 false 13 (.ldl 12 3 (.s 11) 1 false), .g 10 false 14 (.len 13 false (.s 12)), .g 10 false 15 (.fad 14 (.s 2) 4), .g 10 false 16 (.ldl 15 2 (.s 14) 1 false), .g 10 false 17 (.call 17 152 false [(.s 13), (qi 3), (.s 15)]), .g 10 false 18 (.not 17 (.s 16)), .i (.pick 18 (.s 10) (qb true) (.s 17))]) (.cond (.s 18) (.seq (.ops [.i (.mov 4 (qb false))]) .ret) .skip)) (.seq (.seq (.ops [qf 19 3 0, ql 20 3 19 1 false, .i (.len 21 false (.s 20)), .i (.mov 22 (qi 0))]) (.block 0 (.loop [30, 29, 28, 27, 26, 25, 24, 23, 6] (.seq (.ops [.i (.bin 23 .lss (.s 22) (.s 21))]) (.seq (.cond (.s 23) .skip (.exit 0)) (.seq (.block 1 (.seq (.ops [.i (.iad 24 (.s 20) (.s 22) 10), .i (.ldh 25 (.s 24) 10 true), .i (.lal 6 qz), .i (.stl 6 (.s 6) (.s 25) 10)]) (.seq (.ops [ql 26 2 2 5 true, ql 27 6 6 10 true, .i (.call 29 118 false [(.s 26), (.s 27)]), .i (.not 29 (.s 28))]) (.cond (.s 29) (.seq (.ops [.i (.mov 4 (qb false))]) .ret) .skip)))) (.ops [.i (.bin 30 .add (.s 22) (qi 1)), qm 22 30]))))))) (.seq (.ops [ql 31 2 2 5 true, qf 32 3 1, ql 33 3 32 5 true, .i (.call 35 203 false [(.s 31), (.s 33)]), qm 35 34, .g 35 true 37 (.ldl 36 3 (.s 3) 6 true), .g 35 true 38 (.call 38 276 false [(.s 36)]), .i (.pick 38 (.s 35) (.s 37) (qb false)), qm 4 38]) .ret))))⟩
theorem k_spec_ProofOk : cd n_spec_ProofOk = some c_spec_ProofOk := by kernel_rfl
theorem spec_ProofOk_ok (l : Lim) (p : Proof) (hw : p.wf) : VC cd n_spec_ProofOk (mkP [(true, l.c), (true, p.c)]) (fun rs _ => rs = bl (proofOk l p)) := by
 have w1 : p.heads.length ≤ 1073741824 := hw.1.1
 have hlim : l.ok = false → qcOk l p.qc = false := fun e => by simp [qcOk, e]
 refine VC_enter k_spec_ProofOk rfl ?_
 simp (disch := omega) [c_spec_ProofOk, Lim.c, Proof.c, hds_len, VY]
 refine VXC_e (spec_LimitsOk_ok l) rfl rfl ?_
 simp (disch := omega) [VY]
 refine VXB_b (fun h0 => ?_) (fun h0 => ?_)
 case refine_2 => simp (disch := omega) [h0, proofOk, hlim h0, VY]
 simp (disch := omega) [h0, hds_len, VY]
 refine VXC_e (l01In_ok _ _ _) rfl rfl ?_
 simp (disch := omega) [h0, VY]
 refine VXB_b (fun h1 => ?_) (fun h1 => ?_)
 case refine_2 => simp (disch := omega) [h0, h1, proofOk, VY]
 simp (disch := omega) [h0, h1, hds_len, VY]
 refine VX_loop3 (σ := Nat) (f1 := _) (es0 := _) (by simp (disch := omega) [VY]; rfl) (by simp (disch := omega) [VY]; rfl) (fun i => [(22, .val false [.int .i64 i])]) (fun _ => []) (fun i g => g + i = p.heads.length ∧ ∀ x ∈ p.heads.take i, headOk l x = true) 0 p.heads.length (by simp (disch := omega) [VY]) (by simp (disch := omega) [VY]) ⟨by omega, by simp⟩ ?_
 rintro i n g ⟨hg, hi⟩
 simp (disch := omega) [VY]
 refine VXB_dec (fun h2 => ?_) (fun h2 => ?_)
 ·have hx : i < p.heads.length := by omega
  simp (disch := omega) [hds_get hx, Head.c, VY]
  refine VXC_e (spec_HeadOk_ok l p.heads[i] (hw.1.2 _ (List.getElem_mem hx))) rfl rfl ?_
  simp (disch := omega) [VY]
  refine VXB_b (fun h3 => ?_) (fun h3 => ?_)
  ·simp (disch := omega) [VY]
   exact ⟨i + 1, g - 1, by omega, ⟨by omega, take_all hi hx h3⟩, by simp⟩
  ·simp (disch := omega) [proofOk, headsOk_no hx h3, VY]
 ·have hl : i = p.heads.length := by omega
  subst hl
  have h4 := headsOk_of hi
  simp (disch := omega) [VY]
  refine VXC_e (spec_QcOk_ok l p.qc hw.2) rfl rfl ?_
  simp (disch := omega) [VY]
  refine VXB_b (fun h5 => ?_) (fun h5 => ?_) <;> simp (disch := omega) [h5, h4, h1, proofOk, VY]
  refine VXC_e (l16Fits_ok p (by have := inn_t h1; omega) hw) rfl rfl ?_
  simp (disch := omega) [h5, h4, h1, VY]
abbrev n_impl_copyBytes : Nat := 60
def c_impl_copyBytes : AF := ⟨1, 3, [.tmp 2], (.seq (.ops [.i (.mov 2 (.c (.val false [.nils])))]) (.seq (.ops [.i (.bse 3), qm 4 0, .i (.app 5 5 1 1 (.s 3) (.s 4)), qm 2 5]) .ret))⟩
theorem k_impl_copyBytes : cd n_impl_copyBytes = some c_impl_copyBytes := by kernel_rfl
theorem copyBytes_ok (x : Bytes) (hx : x.length ≤ 1099511627776) : VC cd n_impl_copyBytes (mkP [(false, [.sl (bytes x)])]) (fun rs _ => rs = [(false, [.o true (some (5, 1)) (bytes x)])]) := by
 refine VC_enter k_impl_copyBytes rfl ?_
 simp (disch := omega) [c_impl_copyBytes, VY]
abbrev n_spec_l01Copy : Nat := 115
def c_spec_l01Copy : AF := ⟨1, 3, [.tmp 2], (.seq (.ops [.i (.mov 2 (.c (.val false [.nils])))]) (.seq (.ops [.i (.bse 3), qm 4 0, .i (.app 5 5 1 1 (.s 3) (.s 4)), qm 2 5]) .ret))⟩
theorem k_spec_l01Copy : cd n_spec_l01Copy = some c_spec_l01Copy := by kernel_rfl
theorem l01Copy_ok (x : Bytes) (hx : x.length ≤ 1099511627776) : VC cd n_spec_l01Copy (mkP [(false, [.sl (bytes x)])]) (fun rs _ => rs = [(false, [.o true (some (5, 1)) (bytes x)])]) := by
 refine VC_enter k_spec_l01Copy rfl ?_
 simp (disch := omega) [c_spec_l01Copy, VY]
def BssWf (l : List Bytes) : Prop := Sz l.length ∧ ∀ x ∈ l, Sz x.length
theorem wid_bss (l : List Bytes) : wid 1 (bss l) = true := by
 induction l with
 | nil => rfl
 | cons b x ih => simp only [bss, List.map_cons, wid] at ih ⊢; simpa using ih
theorem bss_snoc {l : List Bytes} {i : Nat} (h : i < l.length) : bss (l.take i) ++ [[.sl (bytes l[i])]] = bss (l.take (i + 1)) := by
 have e : bss (l.take (i + 1)) = bss (l.take i) ++ bss [l[i]] := by
  rw [List.take_add_one, List.getElem?_eq_getElem h]; exact List.map_append
 rw [e]; rfl
abbrev n_impl_copyList : Nat := 220
def c_impl_copyList : AF := ⟨1, 5, [.tmp 2], (.seq (.ops [.i (.mov 2 (.c (.val false [.nils])))]) (.seq (.ops [.i (.bse 6), qm 3 6]) (.seq (.seq (.ops [qm 7 0, .i (.len 8 false (.s 7)), .i (.mov 9 (qi 0))]) (.block 0 (.loop [18, 17, 16, 15, 14, 13, 12, 11, 10, 5] (.seq (.ops [.i (.bin 10 .lss (.s 9) (.s 8))]) (.seq (.cond (.s 10) .skip (.exit 0)) (.seq (.block 1 (.seq (.ops [.i (.iad 11 (.s 7) (.s 9) 1), .i (.ldh 12 (.s 11) 1 false), qm 5 12]) (.ops [qm 13 3, qm 14 5, .i (.call 16 60 false [(.s 14)]), .i (.lsl 16 1 1 [.nils] [(0, 1, (.s 15))]), .i (.app 17 22 1 24 (.s 13) (.s 16)), qm 3 17]))) (.ops [.i (.bin 18 .add (.s 9) (qi 1)), qm 9 18]))))))) (.seq (.ops [qm 19 3, qm 2 19]) .ret))))⟩
theorem k_impl_copyList : cd n_impl_copyList = some c_impl_copyList := by kernel_rfl
theorem copyList_ok (l : List Bytes) (hw : BssWf l) : VC cd n_impl_copyList (mkP [(false, [.sl (bss l)])]) (fun rs _ => rs = [(false, [.o true (some (22, 1)) (bss l)])]) := by
 obtain ⟨w1, w2⟩ := hw
 simp only [Sz] at w1 w2
 refine VC_enter k_impl_copyList rfl ?_
 simp (disch := omega) [c_impl_copyList, bss_len, VY]
 refine VX_loop3 (σ := Nat × Nat) (f1 := _) (es0 := _) (by simp (disch := omega) [VY]; rfl) (by simp (disch := omega) [VY]; rfl) (fun p => [(9, .val false [.int .i64 p.1]), (3, .val false [.ow 6 p.2])]) (fun p => [(6, .sl p.2 true true (some (22, 1)) (bss (l.take p.1)))])
  (fun p g => g + p.1 = l.length) (0, 1) l.length (by simp (disch := omega) [VY]) (by simp (disch := omega) [bss, VY]) (by omega) ?_
 rintro ⟨i, v⟩ n g hg
 simp only at hg
 simp (disch := omega) [VY]
 refine VXB_dec (fun h1 => ?_) (fun h1 => ?_)
 ·have hx : i < l.length := by omega
  simp (disch := omega) [bss_get hx, VY]
  refine VXC_e (copyBytes_ok l[i] (by have := w2 _ (List.getElem_mem hx); omega)) rfl rfl ?_
  have hl : (bss (l.take i)).length = i := by rw [bss_len]; simp; omega
  simp (disch := omega) [hl, bss_snoc hx, VY]
  exact ⟨i + 1, n + 1, g - 1, by omega, by omega, ⟨by omega, by omega⟩, by omega, rfl⟩
 ·simp (disch := omega) [VY]
  have : i = l.length := by omega
  subst this
  rw [List.take_length]
abbrev n_spec_l06Copy : Nat := 225
def c_spec_l06Copy : AF := ⟨1, 5, [.tmp 2], (.seq (.ops [.i (.mov 2 (.c (.val false [.nils])))]) (.seq (.ops [.i (.bse 6), qm 3 6]) (.seq (.seq (.ops [qm 7 0, .i (.len 8 false (.s 7)), .i (.mov 9 (qi 0))]) (.block 0 (.loop [18, 17, 16, 15, 14, 13, 12, 11, 10, 5] (.seq (.ops [.i (.bin 10 .lss (.s 9) (.s 8))]) (.seq (.cond (.s 10) .skip (.exit 0)) (.seq (.block 1 (.seq (.ops [.i (.iad 11 (.s 7) (.s 9) 1), .i (.ldh 12 (.s 11) 1 false), qm 5 12]) (.ops [qm 13 3, qm 14 5, .i (.call 16 115 false [(.s 14)]), .i (.lsl 16 1 1 [.nils] [(0, 1, (.s 15))]), .i (.app 17 22 1 24 (.s 13) (.s 16)), qm 3 17]))) (.ops [.i (.bin 18 .add (.s 9) (qi 1)), qm 9 18]))))))) (.seq (.ops [qm 19 3, qm 2 19]) .ret))))⟩
theorem k_spec_l06Copy : cd n_spec_l06Copy = some c_spec_l06Copy := by kernel_rfl
theorem l06Copy_ok (l : List Bytes) (hw : BssWf l) : VC cd n_spec_l06Copy (mkP [(false, [.sl (bss l)])]) (fun rs _ => rs = [(false, [.o true (some (22, 1)) (bss l)])]) := by
 obtain ⟨w1, w2⟩ := hw
 simp only [Sz] at w1 w2
 refine VC_enter k_spec_l06Copy rfl ?_
 simp (disch := omega) [c_spec_l06Copy, bss_len, VY]
 refine VX_loop3 (σ := Nat × Nat) (f1 := _) (es0 := _) (by simp (disch := omega) [VY]; rfl) (by simp (disch := omega) [VY]; rfl) (fun p => [(9, .val false [.int .i64 p.1]), (3, .val false [.ow 6 p.2])]) (fun p => [(6, .sl p.2 true true (some (22, 1)) (bss (l.take p.1)))])
  (fun p g => g + p.1 = l.length) (0, 1) l.length (by simp (disch := omega) [VY]) (by simp (disch := omega) [bss, VY]) (by omega) ?_
 rintro ⟨i, v⟩ n g hg
 simp only at hg
 simp (disch := omega) [VY]
 refine VXB_dec (fun h1 => ?_) (fun h1 => ?_)
 ·have hx : i < l.length := by omega
  simp (disch := omega) [bss_get hx, VY]
  refine VXC_e (l01Copy_ok l[i] (by have := w2 _ (List.getElem_mem hx); omega)) rfl rfl ?_
  have hl : (bss (l.take i)).length = i := by rw [bss_len]; simp; omega
  simp (disch := omega) [hl, bss_snoc hx, VY]
  exact ⟨i + 1, n + 1, g - 1, by omega, by omega, ⟨by omega, by omega⟩, by omega, rfl⟩
 ·simp (disch := omega) [VY]
  have : i = l.length := by omega
  subst this
  rw [List.take_length]
def Qc.o (q : Qc) : List E := [.p (.int .i64 q.view), .p (.int .i64 q.height), .o true (some (5, 1)) (bytes q.block), .o true (some (5, 1)) (bytes q.bits), .o true (some (22, 1)) (bss q.tags)]
def Qc.wc (q : Qc) : Prop := q.wf ∧ ∀ x ∈ q.tags, Sz x.length
theorem Qc.wc.t {q : Qc} (h : q.wc) : BssWf q.tags := ⟨h.1.2.2.2.2, h.2⟩
abbrev n_impl_Qc_copied : Nat := 133
def c_impl_Qc_copied : AF := ⟨1, 5, [.cell 2 5 true], (.seq (.ops [.i (.lbox 1 (.s 0)), .i (.lal 2 [.int .i64 0, .int .i64 0, .nils, .nils, .nils])]) (.seq (.ops [qf 3 1 0, ql 4 1 3 1 false, qf 5 1 1, ql 6 1 5 1 false, qf 7 1 2, ql 8 1 7 1 false, .i (.call 10 60 false [(.s 8)]), qf 10 1 3, ql 11 1 10 1 false, .i (.call 13 60 false [(.s 11)]), qf 13 1 4, ql 14 1 13 1 false, .i (.call 16 220 false [(.s 14)]), .i (.bld 16 [.int .i64 0, .int .i64 0, .nils, .nils, .nils] [(0, 1, (.s 4)), (1, 1, (.s 6)), (2, 1, (.s 9)), (3, 1, (.s 12)), (4, 1, (.s 15))]), .i (.stl 2 (.s 2) (.s 16) 5)]) .ret))⟩
theorem k_impl_Qc_copied : cd n_impl_Qc_copied = some c_impl_Qc_copied := by kernel_rfl
theorem Qc_copied_ok (q : Qc) (hw : q.wc) : VC cd n_impl_Qc_copied (mkP [(true, q.c)]) (fun rs _ => rs = [(true, q.o)]) := by
 have ht := hw.t
 obtain ⟨⟨w1, w2, w3, w4, w5⟩, w6⟩ := hw
 simp only [Sz] at w3 w4
 refine VC_enter k_impl_Qc_copied rfl ?_
 simp (disch := omega) [c_impl_Qc_copied, Qc.c, VY]
 refine VXC_e (copyBytes_ok _ (by omega)) rfl rfl ?_
 simp (disch := omega) [VY]
 refine VXC_e (copyBytes_ok _ (by omega)) rfl rfl ?_
 simp (disch := omega) [VY]
 refine VXC_e (copyList_ok _ ht) rfl rfl ?_
 simp (disch := omega) [Qc.o, VY]
abbrev n_spec_l12Copy : Nat := 145
def c_spec_l12Copy : AF := ⟨1, 5, [.cell 2 5 true], (.seq (.ops [.i (.lbox 1 (.s 0)), .i (.lal 2 [.int .i64 0, .int .i64 0, .nils, .nils, .nils])]) (.seq (.ops [qf 3 1 0, ql 4 1 3 1 false, qf 5 1 1, ql 6 1 5 1 false, qf 7 1 2, ql 8 1 7 1 false, .i (.call 10 115 false [(.s 8)]), qf 10 1 3, ql 11 1 10 1 false, .i (.call 13 115 false [(.s 11)]), qf 13 1 4, ql 14 1 13 1 false, .i (.call 16 225 false [(.s 14)]), .i (.bld 16 [.int .i64 0, .int .i64 0, .nils, .nils, .nils] [(0, 1, (.s 4)), (1, 1, (.s 6)), (2, 1, (.s 9)), (3, 1, (.s 12)), (4, 1, (.s 15))]), .i (.stl 2 (.s 2) (.s 16) 5)]) .ret))⟩
theorem k_spec_l12Copy : cd n_spec_l12Copy = some c_spec_l12Copy := by kernel_rfl
theorem l12Copy_ok (q : Qc) (hw : q.wc) : VC cd n_spec_l12Copy (mkP [(true, q.c)]) (fun rs _ => rs = [(true, q.o)]) := by
 have ht := hw.t
 obtain ⟨⟨w1, w2, w3, w4, w5⟩, w6⟩ := hw
 simp only [Sz] at w3 w4
 refine VC_enter k_spec_l12Copy rfl ?_
 simp (disch := omega) [c_spec_l12Copy, Qc.c, VY]
 refine VXC_e (l01Copy_ok _ (by omega)) rfl rfl ?_
 simp (disch := omega) [VY]
 refine VXC_e (l01Copy_ok _ (by omega)) rfl rfl ?_
 simp (disch := omega) [VY]
 refine VXC_e (l06Copy_ok _ ht) rfl rfl ?_
 simp (disch := omega) [Qc.o, VY]
def Head.o (h : Head) : List E := [.p (.int .i64 h.view), .p (.int .i64 h.height), .p (.int .i64 h.proposer), .o true (some (5, 1)) (bytes h.parent), .o true (some (5, 1)) (bytes h.root), .p (.int .i64 h.qc.view), .p (.int .i64 h.qc.height), .o true (some (5, 1)) (bytes h.qc.block), .o true (some (5, 1)) (bytes h.qc.bits), .o true (some (22, 1)) (bss h.qc.tags)]
def Head.wc (h : Head) : Prop := h.wf ∧ ∀ x ∈ h.qc.tags, Sz x.length
abbrev n_impl_Head_copied : Nat := 54
def c_impl_Head_copied : AF := ⟨1, 5, [.cell 2 10 true], (.seq (.ops [.i (.lbox 1 (.s 0)), .i (.lal 2 qz)]) (.seq (.ops [qf 3 1 0, ql 4 1 3 1 false, qf 5 1 1, ql 6 1 5 1 false, qf 7 1 2, ql 8 1 7 1 false, qf 9 1 3, ql 10 1 9 1 false, .i (.call 12 60 false [(.s 10)]), qf 12 1 4, ql 13 1 12 1 false, .i (.call 15 60 false [(.s 13)]), qf 15 1 5, ql 16 1 15 5 true, .i (.call 18 133 false [(.s 16)]), .i (.bld 18 qz [(0, 1, (.s 4)), (1, 1, (.s 6)), (2, 1, (.s 8)), (3, 1, (.s 11)), (4, 1, (.s 14)), (5, 5, (.s 17))]), .i (.stl 2 (.s 2) (.s 18) 10)]) .ret))⟩
theorem k_impl_Head_copied : cd n_impl_Head_copied = some c_impl_Head_copied := by kernel_rfl
theorem Head_copied_ok (h : Head) (hw : h.wc) : VC cd n_impl_Head_copied (mkP [(true, h.c)]) (fun rs _ => rs = [(true, h.o)]) := by
 obtain ⟨⟨w1, w2, w3, w4, w5, w6⟩, w7⟩ := hw
 simp only [Sz] at w4 w5
 refine VC_enter k_impl_Head_copied rfl ?_
 simp (disch := omega) [c_impl_Head_copied, Head.c, VY]
 refine VXC_e (copyBytes_ok _ (by omega)) rfl rfl ?_
 simp (disch := omega) [VY]
 refine VXC_e (copyBytes_ok _ (by omega)) rfl rfl ?_
 simp (disch := omega) [VY]
 refine VXC_e (Qc_copied_ok h.qc ⟨w6, w7⟩) rfl rfl ?_
 simp (disch := omega) [Head.o, Qc.o, VY]
abbrev n_spec_l13Copy : Nat := 68
def c_spec_l13Copy : AF := ⟨1, 5, [.cell 2 10 true], (.seq (.ops [.i (.lbox 1 (.s 0)), .i (.lal 2 qz)]) (.seq (.ops [qf 3 1 0, ql 4 1 3 1 false, qf 5 1 1, ql 6 1 5 1 false, qf 7 1 2, ql 8 1 7 1 false, qf 9 1 3, ql 10 1 9 1 false, .i (.call 12 115 false [(.s 10)]), qf 12 1 4, ql 13 1 12 1 false, .i (.call 15 115 false [(.s 13)]), qf 15 1 5, ql 16 1 15 5 true, .i (.call 18 145 false [(.s 16)]), .i (.bld 18 qz [(0, 1, (.s 4)), (1, 1, (.s 6)), (2, 1, (.s 8)), (3, 1, (.s 11)), (4, 1, (.s 14)), (5, 5, (.s 17))]), .i (.stl 2 (.s 2) (.s 18) 10)]) .ret))⟩
theorem k_spec_l13Copy : cd n_spec_l13Copy = some c_spec_l13Copy := by kernel_rfl
theorem l13Copy_ok (h : Head) (hw : h.wc) : VC cd n_spec_l13Copy (mkP [(true, h.c)]) (fun rs _ => rs = [(true, h.o)]) := by
 obtain ⟨⟨w1, w2, w3, w4, w5, w6⟩, w7⟩ := hw
 simp only [Sz] at w4 w5
 refine VC_enter k_spec_l13Copy rfl ?_
 simp (disch := omega) [c_spec_l13Copy, Head.c, VY]
 refine VXC_e (l01Copy_ok _ (by omega)) rfl rfl ?_
 simp (disch := omega) [VY]
 refine VXC_e (l01Copy_ok _ (by omega)) rfl rfl ?_
 simp (disch := omega) [VY]
 refine VXC_e (l12Copy_ok h.qc ⟨w6, w7⟩) rfl rfl ?_
 simp (disch := omega) [Head.o, Qc.o, VY]
end Go.Eng.F
namespace Go.Eng.F
open Go.Eng.U (TQc THead TLimits TProof)
theorem i64_of {n : Int} (h : IntKind.i64.min ≤ n ∧ n ≤ IntKind.i64.max) : I64 n := by
 have h1 : IntKind.i64.min = -9223372036854775808 := rfl
 have h2 : IntKind.i64.max = 9223372036854775807 := rfl
 unfold I64
 omega
theorem enc_bss' (l : List Bytes) : enc (.sl (.sl (.int .u8))) (bssT l) = [.sl (bss l)] := enc_bss l
theorem enc_int (k : IntKind) (n : Int) : enc (.int k) (.i n) = [.int k n] := rfl
theorem enc_bool (b : Bool) : enc .bool (.b b) = [.bool b] := rfl
theorem enc_st (ts : List Ty) (vs : List Tv) : enc (.st ts) (.r vs) = encS ts vs := rfl
theorem encS_cons (t : Ty) (ts : List Ty) (v : Tv) (vs : List Tv) : encS (t :: ts) (v :: vs) = enc t v ++ encS ts vs := rfl
theorem encS_nil : encS [] [] = [] := rfl
theorem enc_sl (t : Ty) (xs : List Tv) : enc (.sl t) (.l xs) = [.sl (xs.map (enc t))] := rfl
theorem okS_cons {t : Ty} {ts : List Ty} {v : Tv} {vs : List Tv} : TvOkS (t :: ts) (v :: vs) ↔ TvOk t v ∧ TvOkS ts vs := by simp only [TvOkS]
theorem ok_st {ts : List Ty} {vs : List Tv} : TvOk (.st ts) (.r vs) ↔ TvOkS ts vs := by simp only [TvOk]
theorem ok_int {k : IntKind} {n : Int} : TvOk (.int k) (.i n) ↔ k.min ≤ n ∧ n ≤ k.max := by simp only [TvOk]
theorem ok_sl {t : Ty} {xs : List Tv} : TvOk (.sl t) (.l xs) ↔ xs.length ≤ maxLen ∧ ∀ x ∈ xs, TvOk t x := by simp only [TvOk]
theorem bs_of {x : Bytes} (h : wt (bsT x) ≤ 1048576) : Sz x.length := by rw [wt_bs] at h; unfold Sz; omega
theorem bss_of {l : List Bytes} (h : wt (bssT l) ≤ 1048576) : Sz l.length ∧ ∀ x ∈ l, Sz x.length := by
 obtain ⟨h1, h2⟩ := wt_bss l
 unfold Sz
 exact ⟨by omega, fun x hx => by have := h2 x hx; omega⟩
theorem enc_ints (l : List Int) : enc (.sl (.int .i64)) (intsT l) = [.sl (l.map fun n => [.int .i64 n])] := by
 simp only [intsT, enc_sl, List.map_map]
 congr 2
theorem enc_str (s : ByteArray) : enc .str (.s s) = [.str s] := rfl
def Lim.tv (l : Lim) : Tv := .r [.i l.n, .i l.tx, .i l.txs, .i l.frame, .i l.heads]
theorem Lim.enc (l : Lim) : enc TLimits l.tv = l.c := rfl
theorem Lim.ex {v : Tv} (h : TvOk TLimits v) : ∃ l : Lim, v = l.tv := by
 obtain ⟨vs, rfl, h⟩ := h.st
 obtain ⟨v0, _, rfl, h0, h⟩ := h.step
 obtain ⟨v1, _, rfl, h1, h⟩ := h.step
 obtain ⟨v2, _, rfl, h2, h⟩ := h.step
 obtain ⟨v3, _, rfl, h3, h⟩ := h.step
 obtain ⟨v4, _, rfl, h4, h⟩ := h.step
 obtain rfl := h.fin
 obtain ⟨n0, rfl, _⟩ := h0.int
 obtain ⟨n1, rfl, _⟩ := h1.int
 obtain ⟨n2, rfl, _⟩ := h2.int
 obtain ⟨n3, rfl, _⟩ := h3.int
 obtain ⟨n4, rfl, _⟩ := h4.int
 exact ⟨⟨n0, n1, n2, n3, n4⟩, rfl⟩
def Qc.tv (q : Qc) : Tv := .r [.i q.view, .i q.height, bsT q.block, bsT q.bits, bssT q.tags]
theorem Qc.enc (q : Qc) : enc TQc q.tv = q.c := by simp only [Qc.tv, enc_st, encS_cons, encS_nil, enc_int, enc_bs, enc_bss', Qc.c, List.cons_append, List.nil_append]
theorem Qc.ex {v : Tv} (h : TvOk TQc v) : ∃ q : Qc, v = q.tv := by
 obtain ⟨vs, rfl, h⟩ := h.st
 obtain ⟨v0, _, rfl, h0, h⟩ := h.step
 obtain ⟨v1, _, rfl, h1, h⟩ := h.step
 obtain ⟨v2, _, rfl, h2, h⟩ := h.step
 obtain ⟨v3, _, rfl, h3, h⟩ := h.step
 obtain ⟨v4, _, rfl, h4, h⟩ := h.step
 obtain rfl := h.fin
 obtain ⟨n0, rfl, _⟩ := h0.int
 obtain ⟨n1, rfl, _⟩ := h1.int
 obtain ⟨n2, rfl⟩ := bsT_ex h2
 obtain ⟨n3, rfl⟩ := bsT_ex h3
 obtain ⟨n4, rfl⟩ := bssT_ex h4
 exact ⟨⟨n0, n1, n2, n3, n4⟩, rfl⟩
theorem Qc.of {q : Qc} (h : TvOk TQc q.tv) (hw : wt q.tv ≤ 1048576) : q.wc := by
 simp only [Qc.tv, ok_st, okS_cons, ok_int] at h
 simp only [Qc.tv, wt, wts] at hw
 obtain ⟨h0, h1, _⟩ := h
 have h4 := bss_of (l := q.tags) (by omega)
 exact ⟨⟨i64_of h0, i64_of h1, bs_of (by omega), bs_of (by omega), h4.1⟩, h4.2⟩
theorem Qc.rs (q : Qc) : EEq q.o (Go.Eng.enc TQc q.tv) := by
 rw [Qc.enc]
 simp only [Qc.o, Qc.c, EEq, D.leaf, and_self]
def Head.tv (h : Head) : Tv := .r [.i h.view, .i h.height, .i h.proposer, bsT h.parent, bsT h.root, h.qc.tv]
theorem Head.enc (h : Head) : enc THead h.tv = h.c := by simp only [Head.tv, Qc.enc, enc_st, encS_cons, encS_nil, enc_int, enc_bs, enc_bss', Head.c, Qc.c, List.cons_append, List.nil_append]
theorem Head.ex {v : Tv} (h : TvOk THead v) : ∃ q : Head, v = q.tv := by
 obtain ⟨vs, rfl, h⟩ := h.st
 obtain ⟨v0, _, rfl, h0, h⟩ := h.step
 obtain ⟨v1, _, rfl, h1, h⟩ := h.step
 obtain ⟨v2, _, rfl, h2, h⟩ := h.step
 obtain ⟨v3, _, rfl, h3, h⟩ := h.step
 obtain ⟨v4, _, rfl, h4, h⟩ := h.step
 obtain ⟨v5, _, rfl, h5, h⟩ := h.step
 obtain rfl := h.fin
 obtain ⟨n0, rfl, _⟩ := h0.int
 obtain ⟨n1, rfl, _⟩ := h1.int
 obtain ⟨n2, rfl, _⟩ := h2.int
 obtain ⟨n3, rfl⟩ := bsT_ex h3
 obtain ⟨n4, rfl⟩ := bsT_ex h4
 obtain ⟨n5, rfl⟩ := Qc.ex h5
 exact ⟨⟨n0, n1, n2, n3, n4, n5⟩, rfl⟩
theorem Head.of {q : Head} (h : TvOk THead q.tv) (hw : wt q.tv ≤ 1048576) : q.wc := by
 simp only [Head.tv, ok_st, okS_cons] at h
 simp only [Head.tv, wt, wts] at hw
 obtain ⟨h0, h1, h2, _, _, h5, _⟩ := h
 have h4 := Qc.of h5 (by omega)
 exact ⟨⟨i64_of (ok_int.1 h0), i64_of (ok_int.1 h1), i64_of (ok_int.1 h2), bs_of (by omega), bs_of (by omega), h4.1⟩, h4.2⟩
theorem Head.rs (q : Head) : EEq q.o (Go.Eng.enc THead q.tv) := by
 rw [Head.enc]
 simp only [Head.o, Head.c, EEq, D.leaf, and_self]
def hdsT (l : List Head) : Tv := .l (l.map Head.tv)
theorem enc_hds (l : List Head) : enc (.sl THead) (hdsT l) = [.sl (hds l)] := by
 simp only [hdsT, enc_sl, List.map_map, hds]
 congr 2
 exact List.map_congr_left fun x _ => Head.enc x
theorem hdsT_ex {v : Tv} (h : TvOk (.sl THead) v) : ∃ l, v = hdsT l := by
 obtain ⟨xs, rfl, _, h2⟩ := h.sl
 obtain ⟨ys, rfl⟩ := list_ex (f := Head.tv) (P := TvOk THead) (fun v hv => Head.ex hv) h2
 exact ⟨ys, rfl⟩
theorem hds_of {l : List Head} (h : TvOk (.sl THead) (hdsT l)) (hw : wt (hdsT l) ≤ 1048576) : Sz l.length ∧ ∀ x ∈ l, x.wc := by
 unfold hdsT at h hw
 rw [wt_l] at hw
 have h2 := (ok_sl.1 h).2
 simp only [List.length_map] at hw
 refine ⟨by unfold Sz; omega, fun x hx => Head.of (h2 _ (List.mem_map_of_mem hx)) ?_⟩
 have := wts_mem (f := Head.tv) hx
 omega
def Proof.tv (p : Proof) : Tv := .r [hdsT p.heads, p.qc.tv]
theorem Proof.enc (p : Proof) : enc TProof p.tv = p.c := by simp only [Proof.tv, Qc.enc, enc_hds, enc_st, encS_cons, encS_nil, enc_int, Proof.c, Qc.c, List.cons_append, List.nil_append]
theorem Proof.ex {v : Tv} (h : TvOk TProof v) : ∃ q : Proof, v = q.tv := by
 obtain ⟨vs, rfl, h⟩ := h.st
 obtain ⟨v0, _, rfl, h0, h⟩ := h.step
 obtain ⟨v1, _, rfl, h1, h⟩ := h.step
 obtain rfl := h.fin
 obtain ⟨n0, rfl⟩ := hdsT_ex h0
 obtain ⟨n1, rfl⟩ := Qc.ex h1
 exact ⟨⟨n0, n1⟩, rfl⟩
theorem Proof.of {q : Proof} (h : TvOk TProof q.tv) (hw : wt q.tv ≤ 1048576) : q.wf ∧ (∀ h ∈ q.heads, h.wc) ∧ q.qc.wc := by
 simp only [Proof.tv, ok_st, okS_cons] at h
 simp only [Proof.tv, wt, wts] at hw
 obtain ⟨h0, h1, _⟩ := h
 have h4 := Qc.of h1 (by omega)
 have h5 := hds_of h0 (by omega)
 exact ⟨⟨⟨h5.1, fun h hh => (h5.2 h hh).1⟩, h4.1⟩, h5.2, h4⟩
theorem _root_.Go.Eng.ArgsRp.ok1 {h : H} {T : Ty} {v : Tv} {al : List (Ty × Tv)} {ms : List (Bool × List C)} (ha : ArgsRp h ((T, v) :: al) ms) : TvOk T v ∧ ∃ mr, ArgsRp h al mr := by
 obtain ⟨cs, mr, rfl, ⟨S, h1⟩, h2⟩ := ha
 exact ⟨h1.ok, mr, h2⟩
def Ans (h : H) (ts : List (Ty × Tv)) (r : V) (h' : H) : Prop := ∃ t css S, h' = h ++ t ∧ r = valR css ∧ ResRp h' ts css S ∧ Ownd h' S ∧ ∀ i ∈ S, h.length ≤ i
end Go.Eng.F
namespace Go.Eng.F
open Go.Eng.U (TQc THead TLimits TProof TRow TTable TLight TPush)
structure Row where
 weight : Int
 key : Bytes
def Row.c (r : Row) : List D := [.int .i64 r.weight, .sl (bytes r.key)]
def Row.wf (r : Row) : Prop := I64 r.weight ∧ Sz r.key.length
structure Table where
 rows : List Row
def rws (l : List Row) : List (List D) := l.map Row.c
def Table.c (t : Table) : List D := [.sl (rws t.rows)]
def Table.wf (t : Table) : Prop := Sz t.rows.length ∧ ∀ r ∈ t.rows, r.wf
def Row.tv (x : Row) : Tv := .r [.i x.weight, bsT x.key]
theorem Row.enc (x : Row) : enc TRow x.tv = x.c := by simp only [Row.tv, enc_st, encS_cons, encS_nil, enc_int, enc_bool, enc_str, enc_bs, enc_bss', enc_ints, Row.c, List.cons_append, List.nil_append, List.append_assoc]
theorem Row.ex {v : Tv} (h : TvOk TRow v) : ∃ x : Row, v = x.tv := by
 obtain ⟨vs, rfl, h⟩ := h.st
 obtain ⟨v0, _, rfl, h0, h⟩ := h.step
 obtain ⟨v1, _, rfl, h1, h⟩ := h.step
 obtain rfl := h.fin
 obtain ⟨n0, rfl, _⟩ := h0.int
 obtain ⟨n1, rfl⟩ := bsT_ex h1
 exact ⟨⟨n0, n1⟩, rfl⟩
theorem Row.of {x : Row} (h : TvOk TRow x.tv) (hw : wt x.tv ≤ 1048576) : x.wf := by
 simp only [Row.tv, ok_st, okS_cons] at h
 simp only [Row.tv, wt, wts] at hw
 obtain ⟨h0, h1, _⟩ := h
 exact ⟨i64_of (ok_int.1 h0), bs_of (by omega)⟩
def rwsT (l : List Row) : Tv := .l (l.map Row.tv)
theorem enc_rws (l : List Row) : enc (.sl TRow) (rwsT l) = [.sl (rws l)] := by
 simp only [rwsT, enc_sl, List.map_map, rws]
 congr 2
 exact List.map_congr_left fun x _ => Row.enc x
theorem rwsT_ex {v : Tv} (h : TvOk (.sl TRow) v) : ∃ l, v = rwsT l := by
 obtain ⟨xs, rfl, _, h2⟩ := h.sl
 obtain ⟨ys, rfl⟩ := list_ex (f := Row.tv) (P := TvOk TRow) (fun v hv => Row.ex hv) h2
 exact ⟨ys, rfl⟩
theorem rws_of {l : List Row} (h : TvOk (.sl TRow) (rwsT l)) (hw : wt (rwsT l) ≤ 1048576) : Sz l.length ∧ ∀ x ∈ l, x.wf := by
 unfold rwsT at h hw
 rw [wt_l] at hw
 have h2 := (ok_sl.1 h).2
 simp only [List.length_map] at hw
 refine ⟨by unfold Sz; omega, fun x hx => Row.of (h2 _ (List.mem_map_of_mem hx)) ?_⟩
 have := wts_mem (f := Row.tv) hx
 omega
def Table.tv (x : Table) : Tv := .r [rwsT x.rows]
theorem Table.enc (x : Table) : enc TTable x.tv = x.c := by simp only [Table.tv, enc_rws, enc_st, encS_cons, encS_nil, enc_int, enc_bool, enc_str, enc_bs, enc_bss', enc_ints, Table.c, List.cons_append, List.nil_append, List.append_assoc]
theorem Table.ex {v : Tv} (h : TvOk TTable v) : ∃ x : Table, v = x.tv := by
 obtain ⟨vs, rfl, h⟩ := h.st
 obtain ⟨v0, _, rfl, h0, h⟩ := h.step
 obtain rfl := h.fin
 obtain ⟨n0, rfl⟩ := rwsT_ex h0
 exact ⟨⟨n0⟩, rfl⟩
theorem Table.of {x : Table} (h : TvOk TTable x.tv) (hw : wt x.tv ≤ 1048576) : x.wf := by
 simp only [Table.tv, ok_st, okS_cons] at h
 simp only [Table.tv, wt, wts] at hw
 obtain ⟨h0, _⟩ := h
 exact rws_of h0 (by omega)
end Go.Eng.F
namespace Go.Eng.F
open Go.Eng.U (TQc THead TLimits TProof TRow TTable TLight TPush TTc TEntry TMsg)
structure Entry where
 who : Int
 high : Int
 tag : Bytes
def Entry.c (r : Entry) : List D := [.int .i64 r.who, .int .i64 r.high, .sl (bytes r.tag)]
def Entry.wf (r : Entry) : Prop := I64 r.who ∧ I64 r.high ∧ Sz r.tag.length
structure Tc where
 view : Int
 entries : List Entry
def ens (l : List Entry) : List (List D) := l.map Entry.c
theorem ens_len (l : List Entry) : (ens l).length = l.length := by simp [ens]
theorem ens_get {l : List Entry} {i : Nat} (h : i < l.length) : (ens l)[i]? = some [.int .i64 l[i].who, .int .i64 l[i].high, .sl (bytes l[i].tag)] := by simp [ens, h, Entry.c]
theorem ens_snoc {l : List Entry} {i : Nat} (h : i < l.length) : ens (l.take i) ++ [[.int .i64 l[i].who, .int .i64 l[i].high, .sl (bytes l[i].tag)]] = ens (l.take (i + 1)) := by
 have e : ens (l.take (i + 1)) = ens (l.take i) ++ ens [l[i]] := by
  rw [List.take_add_one, List.getElem?_eq_getElem h]; exact List.map_append
 rw [e]; rfl
def Tc.c (t : Tc) : List D := [.int .i64 t.view, .sl (ens t.entries)]
def Tc.wf (t : Tc) : Prop := I64 t.view ∧ Sz t.entries.length ∧ ∀ r ∈ t.entries, r.wf
abbrev n_impl_Tc_copied : Nat := 251
def c_impl_Tc_copied : AF := ⟨1, 5, [.cell 2 2 true], (.seq (.ops [.i (.lbox 1 (.s 0)), .i (.lal 2 [.int .i64 0, .nils])]) (.seq (.ops [qf 6 1 0, ql 7 1 6 1 false, .i (.bld 8 [.int .i64 0, .nils] [(0, 1, (.s 7))]), .i (.lal 3 [.int .i64 0, .nils]), .i (.stl 3 (.s 3) (.s 8) 2)]) (.seq (.seq (.ops [qf 9 1 1, ql 10 1 9 1 false, .i (.len 11 false (.s 10)), .i (.mov 12 (qi 0))]) (.block 0 (.loop [29, 28, 27, 26, 25, 24, 23, 22, 21, 20, 19, 18, 17, 16, 15, 14, 13, 5] (.seq (.ops [.i (.bin 13 .lss (.s 12) (.s 11))]) (.seq (.cond (.s 13) .skip (.exit 0)) (.seq (.block 1 (.seq (.ops [.i (.iad 14 (.s 10) (.s 12) 3), .i (.ldh 15 (.s 14) 3 true), .i (.lal 5 [.int .i64 0, .int .i64 0, .nils]), .i (.stl 5 (.s 5) (.s 15) 3)]) (.ops [qf 16 3 1, ql 17 3 16 1 false, qf 18 5 0, ql 19 5 18 1 false, qf 20 5 1, ql 21 5 20 1 false, qf 22 5 2, ql 23 5 22 1 false, .i (.call 25 60 false [(.s 23)]), .i (.bld 25 [.int .i64 0, .int .i64 0, .nils] [(0, 1, (.s 19)), (1, 1, (.s 21)), (2, 1, (.s 24))]), .i (.lsl 26 3 1 [.int .i64 0, .int .i64 0, .nils] [(0, 3, (.s 25))]), .i (.app 27 237 3 40 (.s 17) (.s 26)), qf 28 3 1, .i (.stl 3 (.s 28) (.s 27) 1)]))) (.ops [.i (.bin 29 .add (.s 12) (qi 1)), qm 12 29]))))))) (.seq (.ops [ql 30 3 3 2 true, .i (.stl 2 (.s 2) (.s 30) 2)]) .ret))))⟩
theorem k_impl_Tc_copied : cd n_impl_Tc_copied = some c_impl_Tc_copied := by kernel_rfl
theorem Tc_copied_ok (t : Tc) (hw : t.wf) : VC cd n_impl_Tc_copied (mkP [(true, t.c)]) (fun rs _ => rs = [(true, [.p (.int .i64 t.view), .o true (some (237, 3)) (ens t.entries)])]) := by
 obtain ⟨w0, w1, w2⟩ := hw
 simp only [Sz] at w1
 refine VC_enter k_impl_Tc_copied rfl ?_
 simp (disch := omega) [c_impl_Tc_copied, Tc.c, ens_len, VY]
 refine VX_loop4 (σ := Nat × Nat) (f0 := _) (by simp (disch := omega) [VY]; rfl) (Weak.matB (s := 3) (k := 3) (i := 1) rfl rfl) (f1 := _) (es0 := _) (by simp (disch := omega) [VY]; rfl) (by simp (disch := omega) [VY]; rfl) (fun p => [(12, .val false [.int .i64 p.1]), (3, .box [.int .i64 t.view, .ow 3 p.2])]) (fun p => [(3, .sl p.2 true true (some (237, 3)) (ens (t.entries.take p.1)))])
  (fun p g => g + p.1 = t.entries.length) (0, _) t.entries.length (by simp (disch := omega) [VY]; rfl) (by simp (disch := omega) [ens, VY]) (by omega) ?_
 rintro ⟨i, v⟩ n g hg
 simp only at hg
 simp (disch := omega) [VY]
 refine VXB_dec (fun h1 => ?_) (fun h1 => ?_)
 ·have hx : i < t.entries.length := by omega
  have w3 := (w2 _ (List.getElem_mem hx)).2.2
  simp only [Sz] at w3
  simp (disch := omega) [ens_get hx, VY]
  refine VXC_e (copyBytes_ok t.entries[i].tag (by omega)) rfl rfl ?_
  have hl : (ens (t.entries.take i)).length = i := by rw [ens_len]; simp; omega
  simp (disch := omega) [hl, ens_snoc hx, VY]
  exact ⟨i + 1, n + 1, g - 1, by omega, by omega, ⟨by omega, by omega⟩, by omega, rfl⟩
 ·simp (disch := omega) [VY]
  have : i = t.entries.length := by omega
  subst this
  rw [List.take_length]
abbrev n_spec_l15Copy : Nat := 229
def c_spec_l15Copy : AF := ⟨1, 5, [.cell 2 2 true], (.seq (.ops [.i (.lbox 1 (.s 0)), .i (.lal 2 [.int .i64 0, .nils])]) (.seq (.ops [qf 6 1 0, ql 7 1 6 1 false, .i (.bld 8 [.int .i64 0, .nils] [(0, 1, (.s 7))]), .i (.lal 3 [.int .i64 0, .nils]), .i (.stl 3 (.s 3) (.s 8) 2)]) (.seq (.seq (.ops [qf 9 1 1, ql 10 1 9 1 false, .i (.len 11 false (.s 10)), .i (.mov 12 (qi 0))]) (.block 0 (.loop [29, 28, 27, 26, 25, 24, 23, 22, 21, 20, 19, 18, 17, 16, 15, 14, 13, 5] (.seq (.ops [.i (.bin 13 .lss (.s 12) (.s 11))]) (.seq (.cond (.s 13) .skip (.exit 0)) (.seq (.block 1 (.seq (.ops [.i (.iad 14 (.s 10) (.s 12) 3), .i (.ldh 15 (.s 14) 3 true), .i (.lal 5 [.int .i64 0, .int .i64 0, .nils]), .i (.stl 5 (.s 5) (.s 15) 3)]) (.ops [qf 16 3 1, ql 17 3 16 1 false, qf 18 5 0, ql 19 5 18 1 false, qf 20 5 1, ql 21 5 20 1 false, qf 22 5 2, ql 23 5 22 1 false, .i (.call 25 115 false [(.s 23)]), .i (.bld 25 [.int .i64 0, .int .i64 0, .nils] [(0, 1, (.s 19)), (1, 1, (.s 21)), (2, 1, (.s 24))]), .i (.lsl 26 3 1 [.int .i64 0, .int .i64 0, .nils] [(0, 3, (.s 25))]), .i (.app 27 237 3 40 (.s 17) (.s 26)), qf 28 3 1, .i (.stl 3 (.s 28) (.s 27) 1)]))) (.ops [.i (.bin 29 .add (.s 12) (qi 1)), qm 12 29]))))))) (.seq (.ops [ql 30 3 3 2 true, .i (.stl 2 (.s 2) (.s 30) 2)]) .ret))))⟩
theorem k_spec_l15Copy : cd n_spec_l15Copy = some c_spec_l15Copy := by kernel_rfl
theorem l15Copy_ok (t : Tc) (hw : t.wf) : VC cd n_spec_l15Copy (mkP [(true, t.c)]) (fun rs _ => rs = [(true, [.p (.int .i64 t.view), .o true (some (237, 3)) (ens t.entries)])]) := by
 obtain ⟨w0, w1, w2⟩ := hw
 simp only [Sz] at w1
 refine VC_enter k_spec_l15Copy rfl ?_
 simp (disch := omega) [c_spec_l15Copy, Tc.c, ens_len, VY]
 refine VX_loop4 (σ := Nat × Nat) (f0 := _) (by simp (disch := omega) [VY]; rfl) (Weak.matB (s := 3) (k := 3) (i := 1) rfl rfl) (f1 := _) (es0 := _) (by simp (disch := omega) [VY]; rfl) (by simp (disch := omega) [VY]; rfl) (fun p => [(12, .val false [.int .i64 p.1]), (3, .box [.int .i64 t.view, .ow 3 p.2])]) (fun p => [(3, .sl p.2 true true (some (237, 3)) (ens (t.entries.take p.1)))])
  (fun p g => g + p.1 = t.entries.length) (0, _) t.entries.length (by simp (disch := omega) [VY]; rfl) (by simp (disch := omega) [ens, VY]) (by omega) ?_
 rintro ⟨i, v⟩ n g hg
 simp only at hg
 simp (disch := omega) [VY]
 refine VXB_dec (fun h1 => ?_) (fun h1 => ?_)
 ·have hx : i < t.entries.length := by omega
  have w3 := (w2 _ (List.getElem_mem hx)).2.2
  simp only [Sz] at w3
  simp (disch := omega) [ens_get hx, VY]
  refine VXC_e (l01Copy_ok t.entries[i].tag (by omega)) rfl rfl ?_
  have hl : (ens (t.entries.take i)).length = i := by rw [ens_len]; simp; omega
  simp (disch := omega) [hl, ens_snoc hx, VY]
  exact ⟨i + 1, n + 1, g - 1, by omega, by omega, ⟨by omega, by omega⟩, by omega, rfl⟩
 ·simp (disch := omega) [VY]
  have : i = t.entries.length := by omega
  subst this
  rw [List.take_length]
def ofTcE (t : Tc) : List (Bool × List E) := [(true, [.p (.int .i64 5), .p (.int .i64 0), .p (.int .i64 0), .p .nils, .p (.int .i64 0), .p .nils, .p (.int .i64 0), .p (.int .i64 0), .p .nils, .p .nils, .p .nils, .p (.int .i64 0), .p (.int .i64 0), .p (.int .i64 0), .p .nils, .p .nils, .p (.int .i64 0), .p (.int .i64 0), .p .nils, .p .nils, .p .nils, .p (.int .i64 0), .p (.int .i64 0), .p (.int .i64 0), .p .nils, .p .nils, .p (.int .i64 0), .p (.int .i64 0), .p .nils, .p .nils, .p .nils, .p .nils, .p (.int .i64 t.view), .o true (some (237, 3)) (ens t.entries), .p .nils, .p (.int .i64 0), .p (.int .i64 0), .p .nils, .p .nils, .p .nils, .p (.int .i64 0), .p (.int .i64 0), .p (.int .i64 0), .p .nils, .p .nils])]
abbrev n_impl_OfTc : Nat := 192
def c_impl_OfTc : AF := ⟨1, 3, [.cell 2 45 true], (.seq (.ops [.i (.lbox 1 (.s 0)), .i (.lal 2 [.int .i64 0, .int .i64 0, .int .i64 0, .nils, .int .i64 0, .nils, .int .i64 0, .int .i64 0, .nils, .nils, .nils, .int .i64 0, .int .i64 0, .int .i64 0, .nils, .nils, .int .i64 0, .int .i64 0, .nils, .nils, .nils, .int .i64 0, .int .i64 0, .int .i64 0, .nils, .nils, .int .i64 0, .int .i64 0, .nils, .nils, .nils, .nils, .int .i64 0, .nils, .nils, .int .i64 0, .int .i64 0, .nils, .nils, .nils, .int .i64 0, .int .i64 0, .int .i64 0, .nils, .nils])]) (.seq (.ops [ql 3 1 1 2 true, .i (.call 5 251 false [(.s 3)]), .i (.bld 5 [.int .i64 0, .int .i64 0, .int .i64 0, .nils, .int .i64 0, .nils, .int .i64 0, .int .i64 0, .nils, .nils, .nils, .int .i64 0, .int .i64 0, .int .i64 0, .nils, .nils, .int .i64 0, .int .i64 0, .nils, .nils, .nils, .int .i64 0, .int .i64 0, .int .i64 0, .nils, .nils, .int .i64 0, .int .i64 0, .nils, .nils, .nils, .nils, .int .i64 0, .nils, .nils, .int .i64 0, .int .i64 0, .nils, .nils, .nils, .int .i64 0, .int .i64 0, .int .i64 0, .nils, .nils] [(0, 1, (qi 5)), (32, 2, (.s 4))]), .i (.stl 2 (.s 2) (.s 5) 45)]) .ret))⟩
theorem k_impl_OfTc : cd n_impl_OfTc = some c_impl_OfTc := by kernel_rfl
theorem impl_OfTc_ok (t : Tc) (hw : t.wf) : VC cd n_impl_OfTc (mkP [(true, t.c)]) (fun rs _ => rs = ofTcE t) := by
 refine VC_enter k_impl_OfTc rfl ?_
 simp (disch := omega) [c_impl_OfTc, Tc.c, VY]
 refine VXC_e (Tc_copied_ok t hw) rfl rfl ?_
 simp (disch := omega) [ofTcE, VY]
abbrev n_spec_OfTc : Nat := 164
def c_spec_OfTc : AF := ⟨1, 3, [.cell 2 45 true], (.seq (.ops [.i (.lbox 1 (.s 0)), .i (.lal 2 [.int .i64 0, .int .i64 0, .int .i64 0, .nils, .int .i64 0, .nils, .int .i64 0, .int .i64 0, .nils, .nils, .nils, .int .i64 0, .int .i64 0, .int .i64 0, .nils, .nils, .int .i64 0, .int .i64 0, .nils, .nils, .nils, .int .i64 0, .int .i64 0, .int .i64 0, .nils, .nils, .int .i64 0, .int .i64 0, .nils, .nils, .nils, .nils, .int .i64 0, .nils, .nils, .int .i64 0, .int .i64 0, .nils, .nils, .nils, .int .i64 0, .int .i64 0, .int .i64 0, .nils, .nils])]) (.seq (.ops [ql 3 1 1 2 true, .i (.call 5 229 false [(.s 3)]), .i (.bld 5 [.int .i64 0, .int .i64 0, .int .i64 0, .nils, .int .i64 0, .nils, .int .i64 0, .int .i64 0, .nils, .nils, .nils, .int .i64 0, .int .i64 0, .int .i64 0, .nils, .nils, .int .i64 0, .int .i64 0, .nils, .nils, .nils, .int .i64 0, .int .i64 0, .int .i64 0, .nils, .nils, .int .i64 0, .int .i64 0, .nils, .nils, .nils, .nils, .int .i64 0, .nils, .nils, .int .i64 0, .int .i64 0, .nils, .nils, .nils, .int .i64 0, .int .i64 0, .int .i64 0, .nils, .nils] [(0, 1, (qi 5)), (32, 2, (.s 4))]), .i (.stl 2 (.s 2) (.s 5) 45)]) .ret))⟩
theorem k_spec_OfTc : cd n_spec_OfTc = some c_spec_OfTc := by kernel_rfl
theorem spec_OfTc_ok (t : Tc) (hw : t.wf) : VC cd n_spec_OfTc (mkP [(true, t.c)]) (fun rs _ => rs = ofTcE t) := by
 refine VC_enter k_spec_OfTc rfl ?_
 simp (disch := omega) [c_spec_OfTc, Tc.c, VY]
 refine VXC_e (l15Copy_ok t hw) rfl rfl ?_
 simp (disch := omega) [ofTcE, VY]
def Entry.tv (x : Entry) : Tv := .r [.i x.who, .i x.high, bsT x.tag]
theorem Entry.enc (x : Entry) : enc TEntry x.tv = x.c := by simp only [Entry.tv, enc_st, encS_cons, encS_nil, enc_int, enc_bool, enc_str, enc_bs, enc_bss', enc_ints, Entry.c, List.cons_append, List.nil_append, List.append_assoc]
theorem Entry.ex {v : Tv} (h : TvOk TEntry v) : ∃ x : Entry, v = x.tv := by
 obtain ⟨vs, rfl, h⟩ := h.st
 obtain ⟨v0, _, rfl, h0, h⟩ := h.step
 obtain ⟨v1, _, rfl, h1, h⟩ := h.step
 obtain ⟨v2, _, rfl, h2, h⟩ := h.step
 obtain rfl := h.fin
 obtain ⟨n0, rfl, _⟩ := h0.int
 obtain ⟨n1, rfl, _⟩ := h1.int
 obtain ⟨n2, rfl⟩ := bsT_ex h2
 exact ⟨⟨n0, n1, n2⟩, rfl⟩
theorem Entry.of {x : Entry} (h : TvOk TEntry x.tv) (hw : wt x.tv ≤ 1048576) : x.wf := by
 simp only [Entry.tv, ok_st, okS_cons] at h
 simp only [Entry.tv, wt, wts] at hw
 obtain ⟨h0, h1, h2, _⟩ := h
 exact ⟨i64_of (ok_int.1 h0), i64_of (ok_int.1 h1), bs_of (by omega)⟩
def ensT (l : List Entry) : Tv := .l (l.map Entry.tv)
theorem enc_ens (l : List Entry) : enc (.sl TEntry) (ensT l) = [.sl (ens l)] := by
 simp only [ensT, enc_sl, List.map_map, ens]
 congr 2
 exact List.map_congr_left fun x _ => Entry.enc x
theorem ensT_ex {v : Tv} (h : TvOk (.sl TEntry) v) : ∃ l, v = ensT l := by
 obtain ⟨xs, rfl, _, h2⟩ := h.sl
 obtain ⟨ys, rfl⟩ := list_ex (f := Entry.tv) (P := TvOk TEntry) (fun v hv => Entry.ex hv) h2
 exact ⟨ys, rfl⟩
theorem ens_of {l : List Entry} (h : TvOk (.sl TEntry) (ensT l)) (hw : wt (ensT l) ≤ 1048576) : Sz l.length ∧ ∀ x ∈ l, x.wf := by
 unfold ensT at h hw
 rw [wt_l] at hw
 have h2 := (ok_sl.1 h).2
 simp only [List.length_map] at hw
 refine ⟨by unfold Sz; omega, fun x hx => Entry.of (h2 _ (List.mem_map_of_mem hx)) ?_⟩
 have := wts_mem (f := Entry.tv) hx
 omega
def Tc.tv (x : Tc) : Tv := .r [.i x.view, ensT x.entries]
theorem Tc.enc (x : Tc) : enc TTc x.tv = x.c := by simp only [Tc.tv, enc_ens, enc_st, encS_cons, encS_nil, enc_int, enc_bool, enc_str, enc_bs, enc_bss', enc_ints, Tc.c, List.cons_append, List.nil_append, List.append_assoc]
theorem Tc.ex {v : Tv} (h : TvOk TTc v) : ∃ x : Tc, v = x.tv := by
 obtain ⟨vs, rfl, h⟩ := h.st
 obtain ⟨v0, _, rfl, h0, h⟩ := h.step
 obtain ⟨v1, _, rfl, h1, h⟩ := h.step
 obtain rfl := h.fin
 obtain ⟨n0, rfl, _⟩ := h0.int
 obtain ⟨n1, rfl⟩ := ensT_ex h1
 exact ⟨⟨n0, n1⟩, rfl⟩
theorem Tc.of {x : Tc} (h : TvOk TTc x.tv) (hw : wt x.tv ≤ 1048576) : x.wf := by
 simp only [Tc.tv, ok_st, okS_cons] at h
 simp only [Tc.tv, wt, wts] at hw
 obtain ⟨h0, h1, _⟩ := h
 exact ⟨i64_of (ok_int.1 h0), ens_of h1 (by omega)⟩
end Go.Eng.F
namespace Go.Eng.F
open Go.Eng.U (TQc THead TLimits TProof TMsg TBlock)
theorem hds_snoc {l : List Head} {i : Nat} (h : i < l.length) : hds (l.take i) ++ [l[i].c] = hds (l.take (i + 1)) := by
 have e : hds (l.take (i + 1)) = hds (l.take i) ++ hds [l[i]] := by
  rw [List.take_add_one, List.getElem?_eq_getElem h]; exact List.map_append
 rw [e]; rfl
abbrev n_impl_copyHeads : Nat := 52
def c_impl_copyHeads : AF := ⟨1, 5, [.tmp 2], (.seq (.ops [.i (.mov 2 (.c (.val false [.nils])))]) (.seq (.ops [.i (.bse 6), qm 3 6]) (.seq (.seq (.ops [qm 7 0, .i (.len 8 false (.s 7)), .i (.mov 9 (qi 0))]) (.block 0 (.loop [18, 17, 16, 15, 14, 13, 12, 11, 10, 5] (.seq (.ops [.i (.bin 10 .lss (.s 9) (.s 8))]) (.seq (.cond (.s 10) .skip (.exit 0)) (.seq (.block 1 (.seq (.ops [.i (.iad 11 (.s 7) (.s 9) 10), .i (.ldh 12 (.s 11) 10 true), .i (.lal 5 qz), .i (.stl 5 (.s 5) (.s 12) 10)]) (.ops [qm 13 3, ql 14 5 5 10 true, .i (.call 16 54 false [(.s 14)]), .i (.lsl 16 10 1 qz [(0, 10, (.s 15))]), .i (.app 17 40 10 160 (.s 13) (.s 16)), qm 3 17]))) (.ops [.i (.bin 18 .add (.s 9) (qi 1)), qm 9 18]))))))) (.seq (.ops [qm 19 3, qm 2 19]) .ret))))⟩
theorem k_impl_copyHeads : cd n_impl_copyHeads = some c_impl_copyHeads := by kernel_rfl
theorem copyHeads_ok (l : List Head) (h0 : Sz l.length) (hw : ∀ h ∈ l, h.wc) : VC cd n_impl_copyHeads (mkP [(false, [.sl (hds l)])]) (fun rs _ => rs = [(false, [.o true (some (40, 10)) (hds l)])]) := by
 simp only [Sz] at h0
 refine VC_enter k_impl_copyHeads rfl ?_
 simp (disch := omega) [c_impl_copyHeads, hds_len, VY]
 refine VX_loop3 (σ := Nat × Nat) (f1 := _) (es0 := _) (by simp (disch := omega) [VY]; rfl) (by simp (disch := omega) [VY]; rfl) (fun p => [(9, .val false [.int .i64 p.1]), (3, .val false [.ow 6 p.2])]) (fun p => [(6, .sl p.2 true true (some (40, 10)) (hds (l.take p.1)))])
  (fun p g => g + p.1 = l.length) (0, 1) l.length (by simp (disch := omega) [VY]) (by simp (disch := omega) [hds, VY]) (by omega) ?_
 rintro ⟨i, v⟩ n g hg
 simp only at hg
 simp (disch := omega) [VY]
 refine VXB_dec (fun h1 => ?_) (fun h1 => ?_)
 ·have hx : i < l.length := by omega
  simp (disch := omega) [hds_get hx, Head.c, VY]
  refine VXC_e (Head_copied_ok l[i] (hw _ (List.getElem_mem hx))) rfl rfl ?_
  have hl : (hds (l.take i)).length = i := by rw [hds_len]; simp; omega
  have hs := hds_snoc hx
  simp only [Head.c] at hs
  simp (disch := omega) [hl, Head.o, hs, VY]
  exact ⟨i + 1, n + 10, g - 1, by omega, by omega, ⟨by omega, by omega⟩, by omega, rfl⟩
 ·simp (disch := omega) [VY]
  have : i = l.length := by omega
  subst this
  rw [List.take_length]
abbrev n_spec_l16Heads : Nat := 273
def c_spec_l16Heads : AF := ⟨1, 5, [.tmp 2], (.seq (.ops [.i (.mov 2 (.c (.val false [.nils])))]) (.seq (.ops [.i (.bse 6), qm 3 6]) (.seq (.seq (.ops [qm 7 0, .i (.len 8 false (.s 7)), .i (.mov 9 (qi 0))]) (.block 0 (.loop [18, 17, 16, 15, 14, 13, 12, 11, 10, 5] (.seq (.ops [.i (.bin 10 .lss (.s 9) (.s 8))]) (.seq (.cond (.s 10) .skip (.exit 0)) (.seq (.block 1 (.seq (.ops [.i (.iad 11 (.s 7) (.s 9) 10), .i (.ldh 12 (.s 11) 10 true), .i (.lal 5 qz), .i (.stl 5 (.s 5) (.s 12) 10)]) (.ops [qm 13 3, ql 14 5 5 10 true, .i (.call 16 68 false [(.s 14)]), .i (.lsl 16 10 1 qz [(0, 10, (.s 15))]), .i (.app 17 40 10 160 (.s 13) (.s 16)), qm 3 17]))) (.ops [.i (.bin 18 .add (.s 9) (qi 1)), qm 9 18]))))))) (.seq (.ops [qm 19 3, qm 2 19]) .ret))))⟩
theorem k_spec_l16Heads : cd n_spec_l16Heads = some c_spec_l16Heads := by kernel_rfl
theorem l16Heads_ok (l : List Head) (h0 : Sz l.length) (hw : ∀ h ∈ l, h.wc) : VC cd n_spec_l16Heads (mkP [(false, [.sl (hds l)])]) (fun rs _ => rs = [(false, [.o true (some (40, 10)) (hds l)])]) := by
 simp only [Sz] at h0
 refine VC_enter k_spec_l16Heads rfl ?_
 simp (disch := omega) [c_spec_l16Heads, hds_len, VY]
 refine VX_loop3 (σ := Nat × Nat) (f1 := _) (es0 := _) (by simp (disch := omega) [VY]; rfl) (by simp (disch := omega) [VY]; rfl) (fun p => [(9, .val false [.int .i64 p.1]), (3, .val false [.ow 6 p.2])]) (fun p => [(6, .sl p.2 true true (some (40, 10)) (hds (l.take p.1)))])
  (fun p g => g + p.1 = l.length) (0, 1) l.length (by simp (disch := omega) [VY]) (by simp (disch := omega) [hds, VY]) (by omega) ?_
 rintro ⟨i, v⟩ n g hg
 simp only at hg
 simp (disch := omega) [VY]
 refine VXB_dec (fun h1 => ?_) (fun h1 => ?_)
 ·have hx : i < l.length := by omega
  simp (disch := omega) [hds_get hx, Head.c, VY]
  refine VXC_e (l13Copy_ok l[i] (hw _ (List.getElem_mem hx))) rfl rfl ?_
  have hl : (hds (l.take i)).length = i := by rw [hds_len]; simp; omega
  have hs := hds_snoc hx
  simp only [Head.c] at hs
  simp (disch := omega) [hl, Head.o, hs, VY]
  exact ⟨i + 1, n + 10, g - 1, by omega, by omega, ⟨by omega, by omega⟩, by omega, rfl⟩
 ·simp (disch := omega) [VY]
  have : i = l.length := by omega
  subst this
  rw [List.take_length]
def Proof.wc (p : Proof) : Prop := p.wf ∧ (∀ h ∈ p.heads, h.wc) ∧ p.qc.wc
def Proof.o (p : Proof) : List E := [.o true (some (40, 10)) (hds p.heads), .p (.int .i64 p.qc.view), .p (.int .i64 p.qc.height), .o true (some (5, 1)) (bytes p.qc.block), .o true (some (5, 1)) (bytes p.qc.bits), .o true (some (22, 1)) (bss p.qc.tags)]
abbrev n_impl_Proof_copied : Nat := 252
def c_impl_Proof_copied : AF := ⟨1, 4, [.cell 2 6 true], (.seq (.ops [.i (.lbox 1 (.s 0)), .i (.lal 2 [.nils, .int .i64 0, .int .i64 0, .nils, .nils, .nils])]) (.seq (.ops [qf 3 1 0, ql 4 1 3 1 false, .i (.call 6 52 false [(.s 4)]), qf 6 1 1, ql 7 1 6 5 true, .i (.call 9 133 false [(.s 7)]), .i (.bld 9 [.nils, .int .i64 0, .int .i64 0, .nils, .nils, .nils] [(0, 1, (.s 5)), (1, 5, (.s 8))]), .i (.stl 2 (.s 2) (.s 9) 6)]) .ret))⟩
theorem k_impl_Proof_copied : cd n_impl_Proof_copied = some c_impl_Proof_copied := by kernel_rfl
theorem Proof_copied_ok (p : Proof) (hw : p.wc) : VC cd n_impl_Proof_copied (mkP [(true, p.c)]) (fun rs _ => rs = [(true, p.o)]) := by
 refine VC_enter k_impl_Proof_copied rfl ?_
 simp (disch := omega) [c_impl_Proof_copied, Proof.c, VY]
 refine VXC_e (copyHeads_ok p.heads hw.1.1.1 hw.2.1) rfl rfl ?_
 simp (disch := omega) [VY]
 refine VXC_e (Qc_copied_ok p.qc hw.2.2) rfl rfl ?_
 simp (disch := omega) [Proof.o, Qc.o, VY]
abbrev n_spec_l16Copy : Nat := 230
def c_spec_l16Copy : AF := ⟨1, 4, [.cell 2 6 true], (.seq (.ops [.i (.lbox 1 (.s 0)), .i (.lal 2 [.nils, .int .i64 0, .int .i64 0, .nils, .nils, .nils])]) (.seq (.ops [qf 3 1 0, ql 4 1 3 1 false, .i (.call 6 273 false [(.s 4)]), qf 6 1 1, ql 7 1 6 5 true, .i (.call 9 145 false [(.s 7)]), .i (.bld 9 [.nils, .int .i64 0, .int .i64 0, .nils, .nils, .nils] [(0, 1, (.s 5)), (1, 5, (.s 8))]), .i (.stl 2 (.s 2) (.s 9) 6)]) .ret))⟩
theorem k_spec_l16Copy : cd n_spec_l16Copy = some c_spec_l16Copy := by kernel_rfl
theorem l16Copy_ok (p : Proof) (hw : p.wc) : VC cd n_spec_l16Copy (mkP [(true, p.c)]) (fun rs _ => rs = [(true, p.o)]) := by
 refine VC_enter k_spec_l16Copy rfl ?_
 simp (disch := omega) [c_spec_l16Copy, Proof.c, VY]
 refine VXC_e (l16Heads_ok p.heads hw.1.1.1 hw.2.1) rfl rfl ?_
 simp (disch := omega) [VY]
 refine VXC_e (l12Copy_ok p.qc hw.2.2) rfl rfl ?_
 simp (disch := omega) [Proof.o, Qc.o, VY]
def ofProofE (p : Proof) : List (Bool × List E) := [(true, [.p (.int .i64 6), .p (.int .i64 0), .p (.int .i64 0), .p .nils, .p (.int .i64 0), .p .nils, .p (.int .i64 0), .p (.int .i64 0), .p .nils, .p .nils, .p .nils, .p (.int .i64 0), .p (.int .i64 0), .p (.int .i64 0), .p .nils, .p .nils, .p (.int .i64 0), .p (.int .i64 0), .p .nils, .p .nils, .p .nils, .p (.int .i64 0), .p (.int .i64 0), .p (.int .i64 0), .p .nils, .p .nils, .p (.int .i64 0), .p (.int .i64 0), .p .nils, .p .nils, .p .nils, .p .nils, .p (.int .i64 0), .p .nils, .o true (some (40, 10)) (hds p.heads), .p (.int .i64 p.qc.view), .p (.int .i64 p.qc.height), .o true (some (5, 1)) (bytes p.qc.block), .o true (some (5, 1)) (bytes p.qc.bits), .o true (some (22, 1)) (bss p.qc.tags), .p (.int .i64 0), .p (.int .i64 0), .p (.int .i64 0), .p .nils, .p .nils])]
abbrev n_impl_OfProof : Nat := 193
def c_impl_OfProof : AF := ⟨1, 3, [.cell 2 45 true], (.seq (.ops [.i (.lbox 1 (.s 0)), .i (.lal 2 [.int .i64 0, .int .i64 0, .int .i64 0, .nils, .int .i64 0, .nils, .int .i64 0, .int .i64 0, .nils, .nils, .nils, .int .i64 0, .int .i64 0, .int .i64 0, .nils, .nils, .int .i64 0, .int .i64 0, .nils, .nils, .nils, .int .i64 0, .int .i64 0, .int .i64 0, .nils, .nils, .int .i64 0, .int .i64 0, .nils, .nils, .nils, .nils, .int .i64 0, .nils, .nils, .int .i64 0, .int .i64 0, .nils, .nils, .nils, .int .i64 0, .int .i64 0, .int .i64 0, .nils, .nils])]) (.seq (.ops [ql 3 1 1 6 true, .i (.call 5 252 false [(.s 3)]), .i (.bld 5 [.int .i64 0, .int .i64 0, .int .i64 0, .nils, .int .i64 0, .nils, .int .i64 0, .int .i64 0, .nils, .nils, .nils, .int .i64 0, .int .i64 0, .int .i64 0, .nils, .nils, .int .i64 0, .int .i64 0, .nils, .nils, .nils, .int .i64 0, .int .i64 0, .int .i64 0, .nils, .nils, .int .i64 0, .int .i64 0, .nils, .nils, .nils, .nils, .int .i64 0, .nils, .nils, .int .i64 0, .int .i64 0, .nils, .nils, .nils, .int .i64 0, .int .i64 0, .int .i64 0, .nils, .nils] [(0, 1, (qi 6)), (34, 6, (.s 4))]), .i (.stl 2 (.s 2) (.s 5) 45)]) .ret))⟩
theorem k_impl_OfProof : cd n_impl_OfProof = some c_impl_OfProof := by kernel_rfl
theorem impl_OfProof_ok (p : Proof) (hw : p.wc) : VC cd n_impl_OfProof (mkP [(true, p.c)]) (fun rs _ => rs = ofProofE p) := by
 refine VC_enter k_impl_OfProof rfl ?_
 simp (disch := omega) [c_impl_OfProof, Proof.c, VY]
 refine VXC_e (Proof_copied_ok p hw) rfl rfl ?_
 simp (disch := omega) [ofProofE, Proof.o, VY]
abbrev n_spec_OfProof : Nat := 165
def c_spec_OfProof : AF := ⟨1, 3, [.cell 2 45 true], (.seq (.ops [.i (.lbox 1 (.s 0)), .i (.lal 2 [.int .i64 0, .int .i64 0, .int .i64 0, .nils, .int .i64 0, .nils, .int .i64 0, .int .i64 0, .nils, .nils, .nils, .int .i64 0, .int .i64 0, .int .i64 0, .nils, .nils, .int .i64 0, .int .i64 0, .nils, .nils, .nils, .int .i64 0, .int .i64 0, .int .i64 0, .nils, .nils, .int .i64 0, .int .i64 0, .nils, .nils, .nils, .nils, .int .i64 0, .nils, .nils, .int .i64 0, .int .i64 0, .nils, .nils, .nils, .int .i64 0, .int .i64 0, .int .i64 0, .nils, .nils])]) (.seq (.ops [ql 3 1 1 6 true, .i (.call 5 230 false [(.s 3)]), .i (.bld 5 [.int .i64 0, .int .i64 0, .int .i64 0, .nils, .int .i64 0, .nils, .int .i64 0, .int .i64 0, .nils, .nils, .nils, .int .i64 0, .int .i64 0, .int .i64 0, .nils, .nils, .int .i64 0, .int .i64 0, .nils, .nils, .nils, .int .i64 0, .int .i64 0, .int .i64 0, .nils, .nils, .int .i64 0, .int .i64 0, .nils, .nils, .nils, .nils, .int .i64 0, .nils, .nils, .int .i64 0, .int .i64 0, .nils, .nils, .nils, .int .i64 0, .int .i64 0, .int .i64 0, .nils, .nils] [(0, 1, (qi 6)), (34, 6, (.s 4))]), .i (.stl 2 (.s 2) (.s 5) 45)]) .ret))⟩
theorem k_spec_OfProof : cd n_spec_OfProof = some c_spec_OfProof := by kernel_rfl
theorem spec_OfProof_ok (p : Proof) (hw : p.wc) : VC cd n_spec_OfProof (mkP [(true, p.c)]) (fun rs _ => rs = ofProofE p) := by
 refine VC_enter k_spec_OfProof rfl ?_
 simp (disch := omega) [c_spec_OfProof, Proof.c, VY]
 refine VXC_e (l16Copy_ok p hw) rfl rfl ?_
 simp (disch := omega) [ofProofE, Proof.o, VY]
theorem Proof.of' {q : Proof} (h : TvOk TProof q.tv) (hw : wt q.tv ≤ 1048576) : q.wc := Proof.of h hw
structure Block where
 head : Head
 txs : List Bytes
def Block.c (x : Block) : List D := x.head.c ++ [.sl (bss x.txs)]
def Block.wc (x : Block) : Prop := x.head.wc ∧ BssWf x.txs
def Block.o (x : Block) : List E := [.p (.int .i64 x.head.view), .p (.int .i64 x.head.height), .p (.int .i64 x.head.proposer), .o true (some (5, 1)) (bytes x.head.parent), .o true (some (5, 1)) (bytes x.head.root), .p (.int .i64 x.head.qc.view), .p (.int .i64 x.head.qc.height), .o true (some (5, 1)) (bytes x.head.qc.block), .o true (some (5, 1)) (bytes x.head.qc.bits), .o true (some (22, 1)) (bss x.head.qc.tags), .o true (some (22, 1)) (bss x.txs)]
abbrev n_impl_Block_copied : Nat := 250
def c_impl_Block_copied : AF := ⟨1, 4, [.cell 2 11 true], (.seq (.ops [.i (.lbox 1 (.s 0)), .i (.lal 2 [.int .i64 0, .int .i64 0, .int .i64 0, .nils, .nils, .int .i64 0, .int .i64 0, .nils, .nils, .nils, .nils])]) (.seq (.ops [qf 3 1 0, ql 4 1 3 10 true, .i (.call 6 54 false [(.s 4)]), qf 6 1 10, ql 7 1 6 1 false, .i (.call 9 220 false [(.s 7)]), .i (.bld 9 [.int .i64 0, .int .i64 0, .int .i64 0, .nils, .nils, .int .i64 0, .int .i64 0, .nils, .nils, .nils, .nils] [(0, 10, (.s 5)), (10, 1, (.s 8))]), .i (.stl 2 (.s 2) (.s 9) 11)]) .ret))⟩
theorem k_impl_Block_copied : cd n_impl_Block_copied = some c_impl_Block_copied := by kernel_rfl
theorem Block_copied_ok (x : Block) (hw : x.wc) : VC cd n_impl_Block_copied (mkP [(true, x.c)]) (fun rs _ => rs = [(true, x.o)]) := by
 refine VC_enter k_impl_Block_copied rfl ?_
 simp (disch := omega) [c_impl_Block_copied, Block.c, Head.c, List.cons_append, List.nil_append, VY]
 refine VXC_e (Head_copied_ok x.head hw.1) rfl rfl ?_
 simp (disch := omega) [Head.o, VY]
 refine VXC_e (copyList_ok x.txs hw.2) rfl rfl ?_
 simp (disch := omega) [Block.o, VY]
abbrev n_spec_l14Copy : Nat := 228
def c_spec_l14Copy : AF := ⟨1, 4, [.cell 2 11 true], (.seq (.ops [.i (.lbox 1 (.s 0)), .i (.lal 2 [.int .i64 0, .int .i64 0, .int .i64 0, .nils, .nils, .int .i64 0, .int .i64 0, .nils, .nils, .nils, .nils])]) (.seq (.ops [qf 3 1 0, ql 4 1 3 10 true, .i (.call 6 68 false [(.s 4)]), qf 6 1 10, ql 7 1 6 1 false, .i (.call 9 225 false [(.s 7)]), .i (.bld 9 [.int .i64 0, .int .i64 0, .int .i64 0, .nils, .nils, .int .i64 0, .int .i64 0, .nils, .nils, .nils, .nils] [(0, 10, (.s 5)), (10, 1, (.s 8))]), .i (.stl 2 (.s 2) (.s 9) 11)]) .ret))⟩
theorem k_spec_l14Copy : cd n_spec_l14Copy = some c_spec_l14Copy := by kernel_rfl
theorem l14Copy_ok (x : Block) (hw : x.wc) : VC cd n_spec_l14Copy (mkP [(true, x.c)]) (fun rs _ => rs = [(true, x.o)]) := by
 refine VC_enter k_spec_l14Copy rfl ?_
 simp (disch := omega) [c_spec_l14Copy, Block.c, Head.c, List.cons_append, List.nil_append, VY]
 refine VXC_e (l13Copy_ok x.head hw.1) rfl rfl ?_
 simp (disch := omega) [Head.o, VY]
 refine VXC_e (l06Copy_ok x.txs hw.2) rfl rfl ?_
 simp (disch := omega) [Block.o, VY]
def ofBlockE (x : Block) : List (Bool × List E) := [(true, [.p (.int .i64 4), .p (.int .i64 0), .p (.int .i64 0), .p .nils, .p (.int .i64 0), .p .nils, .p (.int .i64 0), .p (.int .i64 0), .p .nils, .p .nils, .p .nils, .p (.int .i64 0), .p (.int .i64 0), .p (.int .i64 0), .p .nils, .p .nils, .p (.int .i64 0), .p (.int .i64 0), .p .nils, .p .nils, .p .nils, .p (.int .i64 x.head.view), .p (.int .i64 x.head.height), .p (.int .i64 x.head.proposer), .o true (some (5, 1)) (bytes x.head.parent), .o true (some (5, 1)) (bytes x.head.root), .p (.int .i64 x.head.qc.view), .p (.int .i64 x.head.qc.height), .o true (some (5, 1)) (bytes x.head.qc.block), .o true (some (5, 1)) (bytes x.head.qc.bits), .o true (some (22, 1)) (bss x.head.qc.tags), .o true (some (22, 1)) (bss x.txs), .p (.int .i64 0), .p .nils, .p .nils, .p (.int .i64 0), .p (.int .i64 0), .p .nils, .p .nils, .p .nils, .p (.int .i64 0), .p (.int .i64 0), .p (.int .i64 0), .p .nils, .p .nils])]
abbrev n_impl_OfBlock : Nat := 191
def c_impl_OfBlock : AF := ⟨1, 3, [.cell 2 45 true], (.seq (.ops [.i (.lbox 1 (.s 0)), .i (.lal 2 [.int .i64 0, .int .i64 0, .int .i64 0, .nils, .int .i64 0, .nils, .int .i64 0, .int .i64 0, .nils, .nils, .nils, .int .i64 0, .int .i64 0, .int .i64 0, .nils, .nils, .int .i64 0, .int .i64 0, .nils, .nils, .nils, .int .i64 0, .int .i64 0, .int .i64 0, .nils, .nils, .int .i64 0, .int .i64 0, .nils, .nils, .nils, .nils, .int .i64 0, .nils, .nils, .int .i64 0, .int .i64 0, .nils, .nils, .nils, .int .i64 0, .int .i64 0, .int .i64 0, .nils, .nils])]) (.seq (.ops [ql 3 1 1 11 true, .i (.call 5 250 false [(.s 3)]), .i (.bld 5 [.int .i64 0, .int .i64 0, .int .i64 0, .nils, .int .i64 0, .nils, .int .i64 0, .int .i64 0, .nils, .nils, .nils, .int .i64 0, .int .i64 0, .int .i64 0, .nils, .nils, .int .i64 0, .int .i64 0, .nils, .nils, .nils, .int .i64 0, .int .i64 0, .int .i64 0, .nils, .nils, .int .i64 0, .int .i64 0, .nils, .nils, .nils, .nils, .int .i64 0, .nils, .nils, .int .i64 0, .int .i64 0, .nils, .nils, .nils, .int .i64 0, .int .i64 0, .int .i64 0, .nils, .nils] [(0, 1, (qi 4)), (21, 11, (.s 4))]), .i (.stl 2 (.s 2) (.s 5) 45)]) .ret))⟩
theorem k_impl_OfBlock : cd n_impl_OfBlock = some c_impl_OfBlock := by kernel_rfl
theorem impl_OfBlock_ok (x : Block) (hw : x.wc) : VC cd n_impl_OfBlock (mkP [(true, x.c)]) (fun rs _ => rs = ofBlockE x) := by
 refine VC_enter k_impl_OfBlock rfl ?_
 simp (disch := omega) [c_impl_OfBlock, Block.c, Head.c, List.cons_append, List.nil_append, VY]
 refine VXC_e (Block_copied_ok x hw) rfl rfl ?_
 simp (disch := omega) [ofBlockE, Block.o, VY]
abbrev n_spec_OfBlock : Nat := 163
def c_spec_OfBlock : AF := ⟨1, 3, [.cell 2 45 true], (.seq (.ops [.i (.lbox 1 (.s 0)), .i (.lal 2 [.int .i64 0, .int .i64 0, .int .i64 0, .nils, .int .i64 0, .nils, .int .i64 0, .int .i64 0, .nils, .nils, .nils, .int .i64 0, .int .i64 0, .int .i64 0, .nils, .nils, .int .i64 0, .int .i64 0, .nils, .nils, .nils, .int .i64 0, .int .i64 0, .int .i64 0, .nils, .nils, .int .i64 0, .int .i64 0, .nils, .nils, .nils, .nils, .int .i64 0, .nils, .nils, .int .i64 0, .int .i64 0, .nils, .nils, .nils, .int .i64 0, .int .i64 0, .int .i64 0, .nils, .nils])]) (.seq (.ops [ql 3 1 1 11 true, .i (.call 5 228 false [(.s 3)]), .i (.bld 5 [.int .i64 0, .int .i64 0, .int .i64 0, .nils, .int .i64 0, .nils, .int .i64 0, .int .i64 0, .nils, .nils, .nils, .int .i64 0, .int .i64 0, .int .i64 0, .nils, .nils, .int .i64 0, .int .i64 0, .nils, .nils, .nils, .int .i64 0, .int .i64 0, .int .i64 0, .nils, .nils, .int .i64 0, .int .i64 0, .nils, .nils, .nils, .nils, .int .i64 0, .nils, .nils, .int .i64 0, .int .i64 0, .nils, .nils, .nils, .int .i64 0, .int .i64 0, .int .i64 0, .nils, .nils] [(0, 1, (qi 4)), (21, 11, (.s 4))]), .i (.stl 2 (.s 2) (.s 5) 45)]) .ret))⟩
theorem k_spec_OfBlock : cd n_spec_OfBlock = some c_spec_OfBlock := by kernel_rfl
theorem spec_OfBlock_ok (x : Block) (hw : x.wc) : VC cd n_spec_OfBlock (mkP [(true, x.c)]) (fun rs _ => rs = ofBlockE x) := by
 refine VC_enter k_spec_OfBlock rfl ?_
 simp (disch := omega) [c_spec_OfBlock, Block.c, Head.c, List.cons_append, List.nil_append, VY]
 refine VXC_e (l14Copy_ok x hw) rfl rfl ?_
 simp (disch := omega) [ofBlockE, Block.o, VY]
def Block.tv (x : Block) : Tv := .r [x.head.tv, bssT x.txs]
theorem Block.enc (x : Block) : enc TBlock x.tv = x.c := by simp only [Block.tv, Head.enc, enc_st, encS_cons, encS_nil, enc_int, enc_bool, enc_str, enc_bs, enc_bss', enc_ints, Block.c, Head.c, Head.c, Qc.c, List.cons_append, List.nil_append, List.append_assoc]
theorem Block.ex {v : Tv} (h : TvOk TBlock v) : ∃ x : Block, v = x.tv := by
 obtain ⟨vs, rfl, h⟩ := h.st
 obtain ⟨v0, _, rfl, h0, h⟩ := h.step
 obtain ⟨v1, _, rfl, h1, h⟩ := h.step
 obtain rfl := h.fin
 obtain ⟨n0, rfl⟩ := Head.ex h0
 obtain ⟨n1, rfl⟩ := bssT_ex h1
 exact ⟨⟨n0, n1⟩, rfl⟩
theorem Block.of {x : Block} (h : TvOk TBlock x.tv) (hw : wt x.tv ≤ 1048576) : x.wc := by
 simp only [Block.tv, ok_st, okS_cons] at h
 simp only [Block.tv, wt, wts] at hw
 obtain ⟨h0, h1, _⟩ := h
 exact ⟨Head.of h0 (by omega), bss_of (by omega)⟩
theorem Block.of' {q : Block} (h : TvOk TBlock q.tv) (hw : wt q.tv ≤ 1048576) : q.wc := Block.of h hw
end Go.Eng.F
namespace Go.Eng.F
def word (x : Int) : Bool := inn x 0 4294967295
abbrev n_impl_isWord : Nat := 267
def c_impl_isWord : AF := ⟨1, 3, [.tmp 2], (.seq (.ops [.i (.mov 2 (qb false))]) (.seq (.ops [qm 3 0, .i (.call 5 62 false [(.s 3), (qi 0), (qi 4294967295)]), qm 2 4]) .ret))⟩
theorem k_impl_isWord : cd n_impl_isWord = some c_impl_isWord := by kernel_rfl
theorem isWord_ok (x : Int) : VC cd n_impl_isWord (mkP [(false, [.int .i64 x])]) (fun rs _ => rs = bl (word x)) := by
 refine VC_enter k_impl_isWord rfl ?_
 simp (disch := omega) [c_impl_isWord, VY]
 refine VXC_e (within_ok _ _ _) rfl rfl ?_
 simp (disch := omega) [word, VY]
abbrev n_spec_l04Word : Nat := 281
def c_spec_l04Word : AF := ⟨1, 3, [.tmp 2], (.seq (.ops [.i (.mov 2 (qb false))]) (.seq (.ops [qm 3 0, .i (.call 5 152 false [(.s 3), (qi 0), (qi 4294967295)]), qm 2 4]) .ret))⟩
theorem k_spec_l04Word : cd n_spec_l04Word = some c_spec_l04Word := by kernel_rfl
theorem l04Word_ok (x : Int) : VC cd n_spec_l04Word (mkP [(false, [.int .i64 x])]) (fun rs _ => rs = bl (word x)) := by
 refine VC_enter k_spec_l04Word rfl ?_
 simp (disch := omega) [c_spec_l04Word, VY]
 refine VXC_e (l01In_ok _ _ _) rfl rfl ?_
 simp (disch := omega) [word, VY]
def turn (x : Int) (n : Nat) : Int := bits2 .and .i64 (bits2 .or .i64 (x.fdiv (2 ^ n)) (IntKind.i64.wrap (x * 2 ^ (32 - n)))) 4294967295
abbrev n_spec_l04Turn : Nat := 282
def c_spec_l04Turn : AF := ⟨2, 4, [.tmp 4], (.seq (.ops [.i (.mov 4 (qi 0))]) (.seq (.ops [qm 5 0, qm 6 1, .i (.bin 7 .shr (.s 5) (.s 6)), qm 8 0, qm 9 1, .i (.bin 10 .sub (qi 32) (.s 9)), .i (.bin 11 .shl (.s 8) (.s 10)), .i (.bin 12 .or (.s 7) (.s 11)), .i (.bin 13 .and (.s 12) (qi 4294967295)), qm 4 13]) .ret))⟩
theorem k_spec_l04Turn : cd n_spec_l04Turn = some c_spec_l04Turn := by kernel_rfl
theorem l04Turn_ok (x : Int) (n : Nat) (hn : n ≤ 31) : VC cd n_spec_l04Turn (mkP [(false, [.int .i64 x]), (false, [.int .i64 (n : Int)])]) (fun rs _ => rs = it (turn x n)) := by
 have e0 : ¬ (n : Int) < 0 := by omega
 have e1 : min n 64 = n := by omega
 have e2 : ¬ (32 : Int) - (n : Int) < 0 := by omega
 have e3 : ((32 : Int) - (n : Int)).toNat = 32 - n := by omega
 have e4 : min (32 - n) 64 = 32 - n := by omega
 refine VC_enter k_spec_l04Turn rfl ?_
 simp (disch := omega) [c_spec_l04Turn, turn, e0, e1, e2, e3, e4, IntKind.bits, VY]
abbrev n_impl_TurnRight : Nat := 269
def c_impl_TurnRight : AF := ⟨2, 5, [.tmp 4], (.seq (.ops [.i (.mov 4 (qi 0))]) (.seq (.seq (.ops [qm 5 0, .i (.call 7 267 false [(.s 5)]), .i (.not 7 (.s 6)), qm 8 7, .g 8 false 10 (.mov 9 (.s 1)), .g 8 false 11 (.call 11 62 false [(.s 9), (qi 0), (qi 31)]), .g 8 false 12 (.not 11 (.s 10)), .i (.pick 12 (.s 8) (qb true) (.s 11))]) (.cond (.s 12) (.seq (.ops [.i (.mov 4 (qi 0))]) .ret) .skip)) (.seq (.ops [qm 13 0, qm 14 1, .i (.bin 15 .shr (.s 13) (.s 14)), qm 16 0, qm 17 1, .i (.bin 18 .sub (qi 32) (.s 17)), .i (.bin 19 .shl (.s 16) (.s 18)), .i (.bin 20 .or (.s 15) (.s 19)), .i (.bin 21 .and (.s 20) (qi 4294967295)), qm 4 21]) .ret)))⟩
theorem k_impl_TurnRight : cd n_impl_TurnRight = some c_impl_TurnRight := by kernel_rfl
theorem TurnRight_ok (x : Int) (n : Nat) (hn : n ≤ 31) (hx : word x = true) : VC cd n_impl_TurnRight (mkP [(false, [.int .i64 x]), (false, [.int .i64 (n : Int)])]) (fun rs _ => rs = it (turn x n)) := by
 have e0 : ¬ (n : Int) < 0 := by omega
 have e1 : min n 64 = n := by omega
 have e2 : ¬ (32 : Int) - (n : Int) < 0 := by omega
 have e3 : ((32 : Int) - (n : Int)).toNat = 32 - n := by omega
 have e4 : min (32 - n) 64 = 32 - n := by omega
 have e5 : inn (n : Int) 0 31 = true := by simp [inn]; omega
 refine VC_enter k_impl_TurnRight rfl ?_
 simp (disch := omega) [c_impl_TurnRight, VY]
 refine VXC_e (isWord_ok x) rfl rfl ?_
 simp (disch := omega) [hx, VY]
 refine VXC_e (within_ok _ _ _) rfl rfl ?_
 simp (disch := omega) [hx, e5, turn, e0, e1, e2, e3, e4, IntKind.bits, VY]
def zc (n : Nat) : Nat := (119 - n % 64) % 64
theorem zc_spec (n : Nat) : zc n < 64 ∧ (n + 1 + zc n) % 64 = 56 := by unfold zc; omega
def lenb (n : Nat) : Bytes := (List.range 8).map fun k => UInt8.ofNat (n / 2 ^ (8 * (7 - k)))
theorem lenb_take (n : Nat) {k : Nat} (h : k < 8) : (lenb n).take (k + 1) = (lenb n).take k ++ [UInt8.ofNat (n / 2 ^ (8 * (7 - k)))] := by
 rw [List.take_add_one]
 simp [lenb, h]
theorem u8w (n k : Nat) : IntKind.u8.wrap (Int.fdiv (n : Int) (2 ^ k)) = ((UInt8.ofNat (n / 2 ^ k)).toNat : Int) := by
 have e : Int.fdiv (n : Int) (2 ^ k) = ((n / 2 ^ k : Nat) : Int) := by
  rw [Int.fdiv_eq_ediv_of_nonneg _ (Int.pow_nonneg (by omega))]
  simp [Int.natCast_ediv, Int.natCast_pow]
 rw [e]
 simp only [UInt8.toNat_ofNat', Nat.reducePow]
 simp [IntKind.wrap, IntKind.bits, IntKind.signed]
def pad (b : Bytes) : Bytes := b ++ [128] ++ List.replicate (zc b.length) 0 ++ lenb (8 * b.length)
abbrev n_impl_ShaPad : Nat := 218
def c_impl_ShaPad : AF := ⟨1, 5, [.tmp 2], (.seq (.ops [.i (.mov 2 (.c (.val false [.nils])))]) (.seq (.ops [qm 5 0, .i (.call 7 60 false [(.s 5)]), .i (.lsl 7 1 1 [.int .u8 0] [(0, 1, (.c (.val false [.int .u8 128])))]), .i (.app 8 5 1 1 (.s 6) (.s 7)), qm 3 8]) (.seq (.block 0 (.loop [15, 14, 13, 12, 11, 10, 9] (.seq (.seq (.ops [qm 9 3, .i (.len 10 false (.s 9)), .i (.bin 11 .rem (.s 10) (qi 64)), .i (.bin 12 .neq (.s 11) (qi 56))]) (.cond (.s 12) .skip (.exit 0))) (.block 1 (.ops [qm 13 3, .i (.lsl 14 1 1 [.int .u8 0] [(0, 1, (.c (.val false [.int .u8 0])))]), .i (.app 15 5 1 1 (.s 13) (.s 14)), qm 3 15]))))) (.seq (.seq (.ops [.i (.mov 4 (qi 7))]) (.block 2 (.loop [29, 28, 27, 26, 25, 24, 23, 22, 21, 20, 19, 18, 17, 16] (.seq (.seq (.ops [qm 16 4, .i (.bin 17 .geq (.s 16) (qi 0))]) (.cond (.s 17) .skip (.exit 2))) (.seq (.block 3 (.ops [qm 20 3, qm 21 0, .i (.len 22 false (.s 21)), .i (.bin 23 .mul (qi 8) (.s 22)), qm 24 4, .i (.bin 25 .mul (qi 8) (.s 24)), .i (.bin 26 .shr (.s 23) (.s 25)), .i (.cvi 27 .u8 (.s 26)), .i (.lsl 28 1 1 [.int .u8 0] [(0, 1, (.s 27))]), .i (.app 29 5 1 1 (.s 20) (.s 28)), qm 3 29])) (.ops [qm 18 4, .i (.bin 19 .sub (.s 18) (qi 1)), qm 4 19])))))) (.seq (.ops [qm 30 3, qm 2 30]) .ret)))))⟩
theorem k_impl_ShaPad : cd n_impl_ShaPad = some c_impl_ShaPad := by kernel_rfl
theorem impl_ShaPad_ok (b : Bytes) (hb : b.length ≤ 1073741824) : VC cd n_impl_ShaPad (mkP [(false, [.sl (bytes b)])]) (fun rs _ => rs = [(false, [.o true (some (5, 1)) (bytes (pad b))])]) := by
 refine VC_enter k_impl_ShaPad rfl ?_
 simp (disch := omega) [c_impl_ShaPad, VY]
 refine VXC_e (copyBytes_ok b (by omega)) rfl rfl ?_
 have e0 : bytes b ++ [[.int .u8 128]] = bytes (b ++ [128]) := by simp [bytes]
 simp (disch := omega) [e0, bytes_len, VY]
 refine VX_loop3 (σ := Nat × Nat) (f1 := _) (es0 := _) (by simp (disch := omega) [VY]; rfl) (by simp (disch := omega) [VY]; rfl) (fun p => [(3, .val false [.ow 65536 p.2])]) (fun p => [(65536, .sl p.2 true true (some (5, 1)) (bytes (b ++ [128] ++ List.replicate p.1 0)))])
  (fun p g => g + p.1 = zc b.length) (0, _) (zc b.length) (by simp (disch := omega) [VY]; rfl) (by simp (disch := omega) [VY]) (by omega) ?_
 rintro ⟨j, v⟩ n g hg
 simp only at hg
 have hz := zc_spec b.length
 have hl : (b ++ [128] ++ List.replicate j (0 : UInt8)).length = b.length + 1 + j := by simp; omega
 have e1 : Int.tmod ((b.length : Int) + ((j : Int) + 1)) 64 = (((b.length + 1 + j) % 64 : Nat) : Int) := by rw [Int.tmod_eq_emod_of_nonneg (by omega)]; omega
 simp only [] at *
 simp (disch := omega) [bytes_len, hl, e1, VY]
 refine VXB_dec (fun h1 => ?_) (fun h1 => ?_)
 ·have hj : j = zc b.length := by omega
  subst hj
  simp (disch := omega) [bytes_len, VY]
  refine VX_loop3 (σ := Nat × Nat) (f1 := _) (es0 := _) (by simp (disch := omega) [VY]; rfl) (by simp (disch := omega) [VY]; rfl) (fun p => [(4, .val false [.int .i64 (7 - (p.1 : Int))]), (3, .val false [.ow 65536 p.2])]) (fun p => [(65536, .sl p.2 true true (some (5, 1)) (bytes (b ++ [128] ++ List.replicate (zc b.length) 0 ++ (lenb (8 * b.length)).take p.1)))])
   (fun p g => g + p.1 = 8) (0, _) 8 (by simp (disch := omega) [VY]; rfl) (by simp (disch := omega) [VY]) (by omega) ?_
  rintro ⟨k, w⟩ n g hg
  simp only at hg
  simp (disch := omega) [VY]
  refine VXB_dec (fun h2 => ?_) (fun h2 => ?_)
  ·have hk : k < 8 := by omega
   have q1 : ¬ (8 : Int) * (7 - (k : Int)) < 0 := by omega
   have q2 : ((8 : Int) * (7 - (k : Int))).toNat = 8 * (7 - k) := by omega
   have q3 : min (8 * (7 - k)) 64 = 8 * (7 - k) := by omega
   have q4 := u8w (8 * b.length) (8 * (7 - k))
   have q5 : ((8 * b.length : Nat) : Int) = 8 * (b.length : Int) := by omega
   rw [q5] at q4
   have q6 : bytes (b ++ [128] ++ List.replicate (zc b.length) 0 ++ (lenb (8 * b.length)).take k) ++ [[.int .u8 ((UInt8.ofNat (8 * b.length / 2 ^ (8 * (7 - k)))).toNat : Int)]] = bytes (b ++ [128] ++ List.replicate (zc b.length) 0 ++ (lenb (8 * b.length)).take (k + 1)) := by
    rw [lenb_take _ hk, ← List.append_assoc]; simp only [bytes, List.map_append, List.map_cons, List.map_nil]
   have q7 : (bytes (b ++ [128] ++ List.replicate (zc b.length) 0 ++ (lenb (8 * b.length)).take k)).length = b.length + 1 + zc b.length + k := by
    rw [bytes_len]; simp [lenb]; omega
   simp (disch := omega) [bytes_len, q1, q2, q3, q4, q6, q7, IntKind.bits, VY]
   have q8 : ((UInt8.ofNat (8 * b.length / 2 ^ (8 * (7 - k)))).toNat : Int) = 8 * (b.length : Int) / 2 ^ (8 * (7 - k)) % 256 := by simp [UInt8.toNat_ofNat']
   exact ⟨k + 1, _, g - 1, by omega, by omega, ⟨rfl, by omega⟩, rfl, by rw [lenb_take _ hk]; simp [bytes, q8]⟩
  ·have hk : k = 8 := by omega
   subst hk
   simp (disch := omega) [pad, VY]
   rw [List.take_of_length_le (by simp [lenb])]
 ·have e2 : bytes (b ++ [128] ++ List.replicate j (0 : UInt8)) ++ [[.int .u8 0]] = bytes (b ++ [128] ++ List.replicate (j + 1) 0) := by rw [List.replicate_succ', ← List.append_assoc]; simp [bytes]
  have e3 : (bytes (b ++ [128] ++ List.replicate j (0 : UInt8))).length = b.length + 1 + j := by rw [bytes_len, hl]
  simp (disch := omega) [e2, e3, VY]
  exact ⟨j + 1, _, g - 1, by omega, by omega, rfl, rfl, by rw [List.replicate_succ']; simp [bytes]⟩
abbrev n_spec_ShaPad : Nat := 258
def c_spec_ShaPad : AF := ⟨1, 6, [.tmp 2], (.seq (.ops [.i (.mov 2 (.c (.val false [.nils])))]) (.seq (.ops [qm 6 0, .i (.call 8 115 false [(.s 6)]), .i (.lsl 8 1 1 [.int .u8 0] [(0, 1, (.c (.val false [.int .u8 128])))]), .i (.app 9 5 1 1 (.s 7) (.s 8)), qm 3 9]) (.seq (.block 0 (.loop [16, 15, 14, 13, 12, 11, 10] (.seq (.seq (.ops [qm 10 3, .i (.len 11 false (.s 10)), .i (.bin 12 .rem (.s 11) (qi 64)), .i (.bin 13 .neq (.s 12) (qi 56))]) (.cond (.s 13) .skip (.exit 0))) (.block 1 (.ops [qm 14 3, .i (.lsl 15 1 1 [.int .u8 0] [(0, 1, (.c (.val false [.int .u8 0])))]), .i (.app 16 5 1 1 (.s 14) (.s 15)), qm 3 16]))))) (.seq (.ops [qm 17 0, .i (.len 18 false (.s 17)), .i (.bin 19 .mul (qi 8) (.s 18)), qm 4 19]) (.seq (.seq (.ops [.i (.mov 5 (qi 7))]) (.block 2 (.loop [31, 30, 29, 28, 27, 26, 25, 24, 23, 22, 21, 20] (.seq (.seq (.ops [qm 20 5, .i (.bin 21 .geq (.s 20) (qi 0))]) (.cond (.s 21) .skip (.exit 2))) (.seq (.block 3 (.ops [qm 24 3, qm 25 4, qm 26 5, .i (.bin 27 .mul (qi 8) (.s 26)), .i (.bin 28 .shr (.s 25) (.s 27)), .i (.cvi 29 .u8 (.s 28)), .i (.lsl 30 1 1 [.int .u8 0] [(0, 1, (.s 29))]), .i (.app 31 5 1 1 (.s 24) (.s 30)), qm 3 31])) (.ops [qm 22 5, .i (.bin 23 .sub (.s 22) (qi 1)), qm 5 23])))))) (.seq (.ops [qm 32 3, qm 2 32]) .ret))))))⟩
theorem k_spec_ShaPad : cd n_spec_ShaPad = some c_spec_ShaPad := by kernel_rfl
theorem spec_ShaPad_ok (b : Bytes) (hb : b.length ≤ 1073741824) : VC cd n_spec_ShaPad (mkP [(false, [.sl (bytes b)])]) (fun rs _ => rs = [(false, [.o true (some (5, 1)) (bytes (pad b))])]) := by
 refine VC_enter k_spec_ShaPad rfl ?_
 simp (disch := omega) [c_spec_ShaPad, VY]
 refine VXC_e (l01Copy_ok b (by omega)) rfl rfl ?_
 have e0 : bytes b ++ [[.int .u8 128]] = bytes (b ++ [128]) := by simp [bytes]
 simp (disch := omega) [e0, bytes_len, VY]
 refine VX_loop3 (σ := Nat × Nat) (f1 := _) (es0 := _) (by simp (disch := omega) [VY]; rfl) (by simp (disch := omega) [VY]; rfl) (fun p => [(3, .val false [.ow 73728 p.2])]) (fun p => [(73728, .sl p.2 true true (some (5, 1)) (bytes (b ++ [128] ++ List.replicate p.1 0)))])
  (fun p g => g + p.1 = zc b.length) (0, _) (zc b.length) (by simp (disch := omega) [VY]; rfl) (by simp (disch := omega) [VY]) (by omega) ?_
 rintro ⟨j, v⟩ n g hg
 simp only at hg
 have hz := zc_spec b.length
 have hl : (b ++ [128] ++ List.replicate j (0 : UInt8)).length = b.length + 1 + j := by simp; omega
 have e1 : Int.tmod ((b.length : Int) + ((j : Int) + 1)) 64 = (((b.length + 1 + j) % 64 : Nat) : Int) := by rw [Int.tmod_eq_emod_of_nonneg (by omega)]; omega
 simp only [] at *
 simp (disch := omega) [bytes_len, hl, e1, VY]
 refine VXB_dec (fun h1 => ?_) (fun h1 => ?_)
 ·have hj : j = zc b.length := by omega
  subst hj
  simp (disch := omega) [bytes_len, VY]
  refine VX_loop3 (σ := Nat × Nat) (f1 := _) (es0 := _) (by simp (disch := omega) [VY]; rfl) (by simp (disch := omega) [VY]; rfl) (fun p => [(5, .val false [.int .i64 (7 - (p.1 : Int))]), (3, .val false [.ow 73728 p.2])]) (fun p => [(73728, .sl p.2 true true (some (5, 1)) (bytes (b ++ [128] ++ List.replicate (zc b.length) 0 ++ (lenb (8 * b.length)).take p.1)))])
   (fun p g => g + p.1 = 8) (0, _) 8 (by simp (disch := omega) [VY]; rfl) (by simp (disch := omega) [VY]) (by omega) ?_
  rintro ⟨k, w⟩ n g hg
  simp only at hg
  simp (disch := omega) [VY]
  refine VXB_dec (fun h2 => ?_) (fun h2 => ?_)
  ·have hk : k < 8 := by omega
   have q1 : ¬ (8 : Int) * (7 - (k : Int)) < 0 := by omega
   have q2 : ((8 : Int) * (7 - (k : Int))).toNat = 8 * (7 - k) := by omega
   have q3 : min (8 * (7 - k)) 64 = 8 * (7 - k) := by omega
   have q4 := u8w (8 * b.length) (8 * (7 - k))
   have q5 : ((8 * b.length : Nat) : Int) = 8 * (b.length : Int) := by omega
   rw [q5] at q4
   have q6 : bytes (b ++ [128] ++ List.replicate (zc b.length) 0 ++ (lenb (8 * b.length)).take k) ++ [[.int .u8 ((UInt8.ofNat (8 * b.length / 2 ^ (8 * (7 - k)))).toNat : Int)]] = bytes (b ++ [128] ++ List.replicate (zc b.length) 0 ++ (lenb (8 * b.length)).take (k + 1)) := by
    rw [lenb_take _ hk, ← List.append_assoc]; simp only [bytes, List.map_append, List.map_cons, List.map_nil]
   have q7 : (bytes (b ++ [128] ++ List.replicate (zc b.length) 0 ++ (lenb (8 * b.length)).take k)).length = b.length + 1 + zc b.length + k := by
    rw [bytes_len]; simp [lenb]; omega
   simp (disch := omega) [bytes_len, q1, q2, q3, q4, q6, q7, IntKind.bits, VY]
   have q8 : ((UInt8.ofNat (8 * b.length / 2 ^ (8 * (7 - k)))).toNat : Int) = 8 * (b.length : Int) / 2 ^ (8 * (7 - k)) % 256 := by simp [UInt8.toNat_ofNat']
   exact ⟨k + 1, _, g - 1, by omega, by omega, ⟨rfl, by omega⟩, rfl, by rw [lenb_take _ hk]; simp [bytes, q8]⟩
  ·have hk : k = 8 := by omega
   subst hk
   simp (disch := omega) [pad, VY]
   rw [List.take_of_length_le (by simp [lenb])]
 ·have e2 : bytes (b ++ [128] ++ List.replicate j (0 : UInt8)) ++ [[.int .u8 0]] = bytes (b ++ [128] ++ List.replicate (j + 1) 0) := by rw [List.replicate_succ', ← List.append_assoc]; simp [bytes]
  have e3 : (bytes (b ++ [128] ++ List.replicate j (0 : UInt8))).length = b.length + 1 + j := by rw [bytes_len, hl]
  simp (disch := omega) [e2, e3, VY]
  exact ⟨j + 1, _, g - 1, by omega, by omega, rfl, rfl, by rw [List.replicate_succ']; simp [bytes]⟩
def gi (l : List Int) (i : Nat) : Int := l.getD i 0
def ints (l : List Int) : List (List D) := l.map fun n => [.int .i64 n]
theorem ints_len (l : List Int) : (ints l).length = l.length := by simp [ints]
theorem ints_get {l : List Int} {i : Nat} (h : i < l.length) : (ints l)[i]? = some [.int .i64 (gi l i)] := by simp [ints, gi, h]
theorem flat_ints (l : List Int) : flat (ints l) = true := by
 induction l with
 | nil => rfl
 | cons n l ih => simp only [ints, List.map_cons, flat] at ih ⊢; simpa [leafs, D.leaf] using ih
theorem wid_ints (l : List Int) : wid 1 (ints l) = true := by
 induction l with
 | nil => rfl
 | cons n l ih => simp only [ints, List.map_cons, wid] at ih ⊢; simpa using ih
theorem ints_ge {l : List Int} {i : Nat} (h : i < (ints l).length) : (ints l)[i] = [.int .i64 (gi l i)] := by simp [ints, gi] at h ⊢; simp [h]
def ivs (l : List Int) : List D := l.map (.int .i64)
theorem ivs_len (l : List Int) : (ivs l).length = l.length := by simp [ivs]
theorem ivs_get {l : List Int} {i : Nat} (h : i < l.length) : ((ivs l).drop i).take 1 = [.int .i64 (gi l i)] := by
 have e : (ivs l).drop i = .int .i64 (gi l i) :: (ivs l).drop (i + 1) := by
  rw [List.drop_eq_getElem_cons (by simpa [ivs] using h)]
  simp [ivs, gi, h]
 rw [e]; rfl
def init : List Int := [1779033703, 3144134277, 1013904242, 2773480762, 1359893119, 2600822924, 528734635, 1541459225]
abbrev n_impl_ShaInit : Nat := 217
def c_impl_ShaInit : AF := ⟨0, 2, [.tmp 0], (.seq (.ops [.i (.mov 0 (.c (.val false [.nils])))]) (.seq (.ops [.i (.bsl 1 3 1 8 [.int .i64 0] [(0, 1, (qi 1779033703)), (1, 1, (qi 3144134277)), (2, 1, (qi 1013904242)), (3, 1, (qi 2773480762)), (4, 1, (qi 1359893119)), (5, 1, (qi 2600822924)), (6, 1, (qi 528734635)), (7, 1, (qi 1541459225))]), qm 0 1]) .ret))⟩
theorem k_impl_ShaInit : cd n_impl_ShaInit = some c_impl_ShaInit := by kernel_rfl
theorem impl_ShaInit_ok : VC cd n_impl_ShaInit (mkP []) (fun rs _ => rs = [(false, [.o true (some (3, 1)) (ints init)])]) := by
 refine VC_enter k_impl_ShaInit rfl ?_
 simp (disch := omega) [c_impl_ShaInit, ints, init, VY]
abbrev n_spec_ShaInit : Nat := 257
def c_spec_ShaInit : AF := ⟨0, 2, [.tmp 0], (.seq (.ops [.i (.mov 0 (.c (.val false [.nils])))]) (.seq (.ops [.i (.bsl 1 3 1 8 [.int .i64 0] [(0, 1, (qi 1779033703)), (1, 1, (qi 3144134277)), (2, 1, (qi 1013904242)), (3, 1, (qi 2773480762)), (4, 1, (qi 1359893119)), (5, 1, (qi 2600822924)), (6, 1, (qi 528734635)), (7, 1, (qi 1541459225))]), qm 0 1]) .ret))⟩
theorem k_spec_ShaInit : cd n_spec_ShaInit = some c_spec_ShaInit := by kernel_rfl
theorem spec_ShaInit_ok : VC cd n_spec_ShaInit (mkP []) (fun rs _ => rs = [(false, [.o true (some (3, 1)) (ints init)])]) := by
 refine VC_enter k_spec_ShaInit rfl ?_
 simp (disch := omega) [c_spec_ShaInit, ints, init, VY]
def kk : List Int := [1116352408, 1899447441, 3049323471, 3921009573, 961987163, 1508970993, 2453635748, 2870763221, 3624381080, 310598401, 607225278, 1426881987, 1925078388, 2162078206, 2614888103, 3248222580, 3835390401, 4022224774, 264347078, 604807628, 770255983, 1249150122, 1555081692, 1996064986, 2554220882, 2821834349, 2952996808, 3210313671, 3336571891, 3584528711, 113926993, 338241895, 666307205, 773529912, 1294757372, 1396182291, 1695183700, 1986661051, 2177026350, 2456956037, 2730485921, 2820302411, 3259730800, 3345764771, 3516065817, 3600352804, 4094571909, 275423344, 430227734, 506948616, 659060556, 883997877, 958139571, 1322822218, 1537002063, 1747873779, 1955562222, 2024104815, 2227730452, 2361852424, 2428436474, 2756734187, 3204031479, 3329325298]
abbrev n_impl_rounds : Nat := 268
def c_impl_rounds : AF := ⟨0, 2, [.tmp 0], (.seq (.ops [.i (.mov 0 (.c (.val false [.nils])))]) (.seq (.ops [.i (.bsl 1 3 1 64 [.int .i64 0] [(0, 1, (qi 1116352408)), (1, 1, (qi 1899447441)), (2, 1, (qi 3049323471)), (3, 1, (qi 3921009573)), (4, 1, (qi 961987163)), (5, 1, (qi 1508970993)), (6, 1, (qi 2453635748)), (7, 1, (qi 2870763221)), (8, 1, (qi 3624381080)), (9, 1, (qi 310598401)), (10, 1, (qi 607225278)), (11, 1, (qi 1426881987)), (12, 1, (qi 1925078388)), (13, 1, (qi 2162078206)), (14, 1, (qi 2614888103)), (15, 1, (qi 3248222580)), (16, 1, (qi 3835390401)), (17, 1, (qi 4022224774)), (18, 1, (qi 264347078)), (19, 1, (qi 604807628)), (20, 1, (qi 770255983)), (21, 1, (qi 1249150122)), (22, 1, (qi 1555081692)), (23, 1, (qi 1996064986)), (24, 1, (qi 2554220882)), (25, 1, (qi 2821834349)), (26, 1, (qi 2952996808)), (27, 1, (qi 3210313671)), (28, 1, (qi 3336571891)), (29, 1, (qi 3584528711)), (30, 1, (qi 113926993)), (31, 1, (qi 338241895)), (32, 1, (qi 666307205)), (33, 1, (qi 773529912)), (34, 1, (qi 1294757372)), (35, 1, (qi 1396182291)), (36, 1, (qi 1695183700)), (37, 1, (qi 1986661051)), (38, 1, (qi 2177026350)), (39, 1, (qi 2456956037)), (40, 1, (qi 2730485921)), (41, 1, (qi 2820302411)), (42, 1, (qi 3259730800)), (43, 1, (qi 3345764771)), (44, 1, (qi 3516065817)), (45, 1, (qi 3600352804)), (46, 1, (qi 4094571909)), (47, 1, (qi 275423344)), (48, 1, (qi 430227734)), (49, 1, (qi 506948616)), (50, 1, (qi 659060556)), (51, 1, (qi 883997877)), (52, 1, (qi 958139571)), (53, 1, (qi 1322822218)), (54, 1, (qi 1537002063)), (55, 1, (qi 1747873779)), (56, 1, (qi 1955562222)), (57, 1, (qi 2024104815)), (58, 1, (qi 2227730452)), (59, 1, (qi 2361852424)), (60, 1, (qi 2428436474)), (61, 1, (qi 2756734187)), (62, 1, (qi 3204031479)), (63, 1, (qi 3329325298))]), qm 0 1]) .ret))⟩
theorem k_impl_rounds : cd n_impl_rounds = some c_impl_rounds := by kernel_rfl
theorem rounds_ok : VC cd n_impl_rounds (mkP []) (fun rs _ => rs = [(false, [.o true (some (3, 1)) (ints kk)])]) := by
 refine VC_enter k_impl_rounds rfl ?_
 simp (disch := omega) [c_impl_rounds, ints, kk, VY]
abbrev n_spec_l04K : Nat := 283
def c_spec_l04K : AF := ⟨0, 2, [.tmp 0], (.seq (.ops [.i (.mov 0 (.c (.val false [.nils])))]) (.seq (.ops [.i (.bsl 1 3 1 64 [.int .i64 0] [(0, 1, (qi 1116352408)), (1, 1, (qi 1899447441)), (2, 1, (qi 3049323471)), (3, 1, (qi 3921009573)), (4, 1, (qi 961987163)), (5, 1, (qi 1508970993)), (6, 1, (qi 2453635748)), (7, 1, (qi 2870763221)), (8, 1, (qi 3624381080)), (9, 1, (qi 310598401)), (10, 1, (qi 607225278)), (11, 1, (qi 1426881987)), (12, 1, (qi 1925078388)), (13, 1, (qi 2162078206)), (14, 1, (qi 2614888103)), (15, 1, (qi 3248222580)), (16, 1, (qi 3835390401)), (17, 1, (qi 4022224774)), (18, 1, (qi 264347078)), (19, 1, (qi 604807628)), (20, 1, (qi 770255983)), (21, 1, (qi 1249150122)), (22, 1, (qi 1555081692)), (23, 1, (qi 1996064986)), (24, 1, (qi 2554220882)), (25, 1, (qi 2821834349)), (26, 1, (qi 2952996808)), (27, 1, (qi 3210313671)), (28, 1, (qi 3336571891)), (29, 1, (qi 3584528711)), (30, 1, (qi 113926993)), (31, 1, (qi 338241895)), (32, 1, (qi 666307205)), (33, 1, (qi 773529912)), (34, 1, (qi 1294757372)), (35, 1, (qi 1396182291)), (36, 1, (qi 1695183700)), (37, 1, (qi 1986661051)), (38, 1, (qi 2177026350)), (39, 1, (qi 2456956037)), (40, 1, (qi 2730485921)), (41, 1, (qi 2820302411)), (42, 1, (qi 3259730800)), (43, 1, (qi 3345764771)), (44, 1, (qi 3516065817)), (45, 1, (qi 3600352804)), (46, 1, (qi 4094571909)), (47, 1, (qi 275423344)), (48, 1, (qi 430227734)), (49, 1, (qi 506948616)), (50, 1, (qi 659060556)), (51, 1, (qi 883997877)), (52, 1, (qi 958139571)), (53, 1, (qi 1322822218)), (54, 1, (qi 1537002063)), (55, 1, (qi 1747873779)), (56, 1, (qi 1955562222)), (57, 1, (qi 2024104815)), (58, 1, (qi 2227730452)), (59, 1, (qi 2361852424)), (60, 1, (qi 2428436474)), (61, 1, (qi 2756734187)), (62, 1, (qi 3204031479)), (63, 1, (qi 3329325298))]), qm 0 1]) .ret))⟩
theorem k_spec_l04K : cd n_spec_l04K = some c_spec_l04K := by kernel_rfl
theorem l04K_ok : VC cd n_spec_l04K (mkP []) (fun rs _ => rs = [(false, [.o true (some (3, 1)) (ints kk)])]) := by
 refine VC_enter k_spec_l04K rfl ?_
 simp (disch := omega) [c_spec_l04K, ints, kk, VY]
def gb (b : Bytes) (i : Nat) : Int := ((b.getD i 0).toNat : Int)
def bw (b : Bytes) (i : Nat) : Int := bits2 .or .i64 (bits2 .or .i64 (bits2 .or .i64 (IntKind.i64.wrap (gb b i * 2 ^ min 24 IntKind.i64.bits)) (IntKind.i64.wrap (gb b (i + 1) * 2 ^ min 16 IntKind.i64.bits))) (IntKind.i64.wrap (gb b (i + 2) * 2 ^ min 8 IntKind.i64.bits))) (gb b (i + 3))
def sg0 (x : Int) : Int := bits2 .xor .i64 (bits2 .xor .i64 (turn x 7) (turn x 18)) (x.fdiv (2 ^ min 3 IntKind.i64.bits))
def sg1 (x : Int) : Int := bits2 .xor .i64 (bits2 .xor .i64 (turn x 17) (turn x 19)) (x.fdiv (2 ^ min 10 IntKind.i64.bits))
def wnext (a x c y : Int) : Int := bits2 .and .i64 (IntKind.i64.wrap (IntKind.i64.wrap (IntKind.i64.wrap (a + sg0 x) + c) + sg1 y)) 4294967295
def wsch (b : Bytes) : Nat → List Int
 | 0 => []
 | n + 1 => wsch b n ++ [if n < 16 then bw b (4 * n) else wnext (gi (wsch b n) (n - 16)) (gi (wsch b n) (n - 15)) (gi (wsch b n) (n - 7)) (gi (wsch b n) (n - 2))]
theorem wsch_len (b : Bytes) : ∀ n, (wsch b n).length = n
 | 0 => rfl
 | n + 1 => by simp [wsch, wsch_len b n]
def sT (v : List Int) (k w : Int) : Int := IntKind.i64.wrap (IntKind.i64.wrap (IntKind.i64.wrap (IntKind.i64.wrap (gi v 7 + bits2 .xor .i64 (bits2 .xor .i64 (turn (gi v 4) 6) (turn (gi v 4) 11)) (turn (gi v 4) 25)) + bits2 .xor .i64 (bits2 .and .i64 (gi v 4) (gi v 5)) (bits2 .and .i64 (bits2 .xor .i64 4294967295 (gi v 4)) (gi v 6))) + k) + w)
def sU (v : List Int) : Int := IntKind.i64.wrap (bits2 .xor .i64 (bits2 .xor .i64 (turn (gi v 0) 2) (turn (gi v 0) 13)) (turn (gi v 0) 22) + bits2 .xor .i64 (bits2 .xor .i64 (bits2 .and .i64 (gi v 0) (gi v 1)) (bits2 .and .i64 (gi v 0) (gi v 2))) (bits2 .and .i64 (gi v 1) (gi v 2)))
def rnd (v : List Int) (k w : Int) : List Int := [bits2 .and .i64 (IntKind.i64.wrap (sT v k w + sU v)) 4294967295, gi v 0, gi v 1, gi v 2, bits2 .and .i64 (IntKind.i64.wrap (gi v 3 + sT v k w)) 4294967295, gi v 4, gi v 5, gi v 6]
def rnds (h : List Int) (b : Bytes) : Nat → List Int
 | 0 => h
 | n + 1 => rnd (rnds h b n) (gi kk n) (gi (wsch b 64) n)
theorem rnds_len {h : List Int} (hl : h.length = 8) (b : Bytes) : ∀ n, (rnds h b n).length = 8
 | 0 => hl
 | n + 1 => rfl
def shaB (h : List Int) (b : Bytes) : List Int := (List.range 8).map fun i => bits2 .and .i64 (IntKind.i64.wrap (gi h i + gi (rnds h b 64) i)) 4294967295
theorem gb_get {b : Bytes} {i : Nat} (h : i < b.length) : (bytes b)[i]? = some [.int .u8 (gb b i)] := by simp [bytes, gb, h]
theorem gb_range (b : Bytes) (i : Nat) : 0 ≤ gb b i ∧ gb b i < 256 := by unfold gb; have := (b.getD i 0).toNat_lt; omega
end Go.Eng.F
namespace Go.Eng.F
theorem shaB_take (h : List Int) (b : Bytes) {k : Nat} (hk : k < 8) : ints ((shaB h b).take (k + 1)) = ints ((shaB h b).take k) ++ [[.int .i64 (bits2 .and .i64 (IntKind.i64.wrap (gi h k + gi (rnds h b 64) k)) 4294967295)]] := by
 rw [List.take_add_one]
 simp only [ints, List.map_append]
 congr 1
 simp [shaB, hk]
abbrev n_spec_ShaBlock : Nat := 259
def c_spec_ShaBlock : AF := ⟨2, 8, [.tmp 4], (.seq (.ops [.i (.mov 4 (.c (.val false [.nils])))]) (.seq (.seq (.ops [qm 23 0, .i (.len 24 false (.s 23)), .i (.bin 25 .neq (.s 24) (qi 8)), qm 26 25, .g 26 false 28 (.mov 27 (.s 1)), .g 26 false 29 (.len 28 false (.s 27)), .g 26 false 30 (.bin 29 .neq (.s 28) (qi 64)), .i (.pick 30 (.s 26) (qb true) (.s 29))]) (.cond (.s 30) (.seq (.ops [.i (.mov 4 (.c (.val false [.nils])))]) .ret) .skip)) (.seq (.seq (.ops [qm 31 0, .i (.len 32 false (.s 31)), .i (.mov 33 (qi 0))]) (.block 0 (.loop [40, 39, 38, 37, 36, 35, 34, 6] (.seq (.ops [.i (.bin 34 .lss (.s 33) (.s 32))]) (.seq (.cond (.s 34) .skip (.exit 0)) (.seq (.block 1 (.seq (.ops [.i (.iad 35 (.s 31) (.s 33) 1), .i (.ldh 36 (.s 35) 1 false), qm 6 36]) (.seq (.ops [qm 37 6, .i (.call 39 281 false [(.s 37)]), .i (.not 39 (.s 38))]) (.cond (.s 39) (.seq (.ops [.i (.mov 4 (.c (.val false [.nils])))]) .ret) .skip)))) (.ops [.i (.bin 40 .add (.s 33) (qi 1)), qm 33 40]))))))) (.seq (.ops [.i (.bse 41), qm 7 41]) (.seq (.seq (.ops [.i (.mov 8 (qi 0))]) (.block 2 (.loop [77, 76, 75, 74, 73, 72, 71, 70, 69, 68, 67, 66, 65, 64, 63, 62, 61, 60, 59, 58, 57, 56, 55, 54, 53, 52, 51, 50, 49, 48, 47, 46, 45, 44, 43, 42] (.seq (.seq (.ops [qm 42 8, .i (.bin 43 .lss (.s 42) (qi 64))]) (.cond (.s 43) .skip (.exit 2))) (.seq (.block 3 (.ops [qm 46 7, qm 47 1, qm 48 8, .i (.iad 49 (.s 47) (.s 48) 1), .i (.ldh 50 (.s 49) 1 false), .i (.cvi 51 .i64 (.s 50)), .i (.bin 52 .shl (.s 51) (.c (.val false [.int .u64 24]))), qm 53 1, qm 54 8, .i (.bin 55 .add (.s 54) (qi 1)), .i (.iad 56 (.s 53) (.s 55) 1), .i (.ldh 57 (.s 56) 1 false), .i (.cvi 58 .i64 (.s 57)), .i (.bin 59 .shl (.s 58) (.c (.val false [.int .u64 16]))), .i (.bin 60 .or (.s 52) (.s 59)), qm 61 1, qm 62 8, .i (.bin 63 .add (.s 62) (qi 2)), .i (.iad 64 (.s 61) (.s 63) 1), .i (.ldh 65 (.s 64) 1 false), .i (.cvi 66 .i64 (.s 65)), .i (.bin 67 .shl (.s 66) (.c (.val false [.int .u64 8]))), .i (.bin 68 .or (.s 60) (.s 67)), qm 69 1, qm 70 8, .i (.bin 71 .add (.s 70) (qi 3)), .i (.iad 72 (.s 69) (.s 71) 1), .i (.ldh 73 (.s 72) 1 false), .i (.cvi 74 .i64 (.s 73)), .i (.bin 75 .or (.s 68) (.s 74)), .i (.lsl 76 1 1 [.int .i64 0] [(0, 1, (.s 75))]), .i (.app 77 3 1 8 (.s 46) (.s 76)), qm 7 77])) (.ops [qm 44 8, .i (.bin 45 .add (.s 44) (qi 4)), qm 8 45])))))) (.seq (.seq (.ops [.i (.mov 9 (qi 16))]) (.block 4 (.loop [126, 125, 124, 123, 122, 121, 120, 119, 118, 117, 116, 115, 114, 113, 112, 111, 110, 109, 108, 107, 106, 105, 104, 103, 102, 101, 100, 99, 98, 97, 96, 95, 94, 93, 92, 91, 90, 89, 88, 87, 86, 85, 84, 83, 82, 81, 80, 79, 78, 13, 12, 11, 10] (.seq (.seq (.ops [qm 78 9, .i (.bin 79 .lss (.s 78) (qi 64))]) (.cond (.s 79) .skip (.exit 4))) (.seq (.block 5 (.seq (.ops [qm 82 7, qm 83 9, .i (.bin 84 .sub (.s 83) (qi 15)), .i (.iad 85 (.s 82) (.s 84) 1), .i (.ldh 86 (.s 85) 1 false), qm 10 86]) (.seq (.ops [qm 87 7, qm 88 9, .i (.bin 89 .sub (.s 88) (qi 2)), .i (.iad 90 (.s 87) (.s 89) 1), .i (.ldh 91 (.s 90) 1 false), qm 11 91]) (.seq (.ops [qm 92 10, .i (.call 94 282 false [(.s 92), (qi 7)]), qm 94 10, .i (.call 96 282 false [(.s 94), (qi 18)]), .i (.bin 96 .xor (.s 93) (.s 95)), qm 97 10, .i (.bin 98 .shr (.s 97) (.c (.val false [.int .u64 3]))), .i (.bin 99 .xor (.s 96) (.s 98)), qm 12 99]) (.seq (.ops [qm 100 11, .i (.call 102 282 false [(.s 100), (qi 17)]), qm 102 11, .i (.call 104 282 false [(.s 102), (qi 19)]), .i (.bin 104 .xor (.s 101) (.s 103)), qm 105 11, .i (.bin 106 .shr (.s 105) (.c (.val false [.int .u64 10]))), .i (.bin 107 .xor (.s 104) (.s 106)), qm 13 107]) (.ops [qm 108 7, qm 109 7, qm 110 9, .i (.bin 111 .sub (.s 110) (qi 16)), .i (.iad 112 (.s 109) (.s 111) 1), .i (.ldh 113 (.s 112) 1 false), qm 114 12, .i (.bin 115 .add (.s 113) (.s 114)), qm 116 7, qm 117 9, .i (.bin 118 .sub (.s 117) (qi 7)), .i (.iad 119 (.s 116) (.s 118) 1), .i (.ldh 120 (.s 119) 1 false), .i (.bin 121 .add (.s 115) (.s 120)), qm 122 13, .i (.bin 123 .add (.s 121) (.s 122)), .i (.bin 124 .and (.s 123) (qi 4294967295)), .i (.lsl 125 1 1 [.int .i64 0] [(0, 1, (.s 124))]), .i (.app 126 3 1 8 (.s 108) (.s 125)), qm 7 126])))))) (.ops [qm 80 9, .i (.bin 81 .add (.s 80) (qi 1)), qm 9 81])))))) (.seq (.ops [.i (.call 128 283 false []), qm 14 127]) (.seq (.ops [.i (.bse 128), qm 129 0, .i (.app 130 3 1 8 (.s 128) (.s 129)), qm 15 130]) (.seq (.seq (.ops [.i (.mov 16 (qi 0))]) (.block 6 (.loop [232, 231, 230, 229, 228, 227, 226, 225, 224, 223, 222, 221, 220, 219, 218, 217, 216, 215, 214, 213, 212, 211, 210, 209, 208, 207, 206, 205, 204, 203, 202, 201, 200, 199, 198, 197, 196, 195, 194, 193, 192, 191, 190, 189, 188, 187, 186, 185, 184, 183, 182, 181, 180, 179, 178, 177, 176, 175, 174, 173, 172, 171, 170, 169, 168, 167, 166, 165, 164, 163, 162, 161, 160, 159, 158, 157, 156, 155, 154, 153, 152, 151, 150, 149, 148, 147, 146, 145, 144, 143, 142, 141, 140, 139, 138, 137, 136, 135, 134, 133, 132, 131, 20, 19, 18, 17] (.seq (.seq (.ops [qm 131 16, .i (.bin 132 .lss (.s 131) (qi 64))]) (.cond (.s 132) .skip (.exit 6))) (.seq (.block 7 (.seq (.ops [qm 135 15, .i (.iad 136 (.s 135) (qi 4) 1), .i (.ldh 137 (.s 136) 1 false), qm 17 137]) (.seq (.ops [qm 138 15, .i (.iad 139 (.s 138) (qi 0) 1), .i (.ldh 140 (.s 139) 1 false), qm 18 140]) (.seq (.ops [qm 141 15, .i (.iad 142 (.s 141) (qi 7) 1), .i (.ldh 143 (.s 142) 1 false), qm 144 17, .i (.call 146 282 true [(.s 144), (qi 6)]), qm 146 17, .i (.call 148 282 true [(.s 146), (qi 11)]), .i (.bin 148 .xor (.s 145) (.s 147)), qm 149 17, .i (.call 151 282 true [(.s 149), (qi 25)]), .i (.bin 151 .xor (.s 148) (.s 150)), .i (.bin 152 .add (.s 143) (.s 151)), qm 153 17, qm 154 15, .i (.iad 155 (.s 154) (qi 5) 1), .i (.ldh 156 (.s 155) 1 false), .i (.bin 157 .and (.s 153) (.s 156)), qm 158 17, .i (.bin 159 .xor (qi 4294967295) (.s 158)), qm 160 15, .i (.iad 161 (.s 160) (qi 6) 1), .i (.ldh 162 (.s 161) 1 false), .i (.bin 163 .and (.s 159) (.s 162)), .i (.bin 164 .xor (.s 157) (.s 163)), .i (.bin 165 .add (.s 152) (.s 164)), qm 166 14, qm 167 16, .i (.iad 168 (.s 166) (.s 167) 1), .i (.ldh 169 (.s 168) 1 false), .i (.bin 170 .add (.s 165) (.s 169)), qm 171 7, qm 172 16, .i (.iad 173 (.s 171) (.s 172) 1), .i (.ldh 174 (.s 173) 1 false), .i (.bin 175 .add (.s 170) (.s 174)), qm 19 175]) (.seq (.ops [qm 176 18, .i (.call 178 282 true [(.s 176), (qi 2)]), qm 178 18, .i (.call 180 282 true [(.s 178), (qi 13)]), .i (.bin 180 .xor (.s 177) (.s 179)), qm 181 18, .i (.call 183 282 true [(.s 181), (qi 22)]), .i (.bin 183 .xor (.s 180) (.s 182)), qm 184 18, qm 185 15, .i (.iad 186 (.s 185) (qi 1) 1), .i (.ldh 187 (.s 186) 1 false), .i (.bin 188 .and (.s 184) (.s 187)), qm 189 18, qm 190 15, .i (.iad 191 (.s 190) (qi 2) 1), .i (.ldh 192 (.s 191) 1 false), .i (.bin 193 .and (.s 189) (.s 192)), .i (.bin 194 .xor (.s 188) (.s 193)), qm 195 15, .i (.iad 196 (.s 195) (qi 1) 1), .i (.ldh 197 (.s 196) 1 false), qm 198 15, .i (.iad 199 (.s 198) (qi 2) 1), .i (.ldh 200 (.s 199) 1 false), .i (.bin 201 .and (.s 197) (.s 200)), .i (.bin 202 .xor (.s 194) (.s 201)), .i (.bin 203 .add (.s 183) (.s 202)), qm 20 203]) (.ops [qm 204 19, qm 205 20, .i (.bin 206 .add (.s 204) (.s 205)), .i (.bin 207 .and (.s 206) (qi 4294967295)), qm 208 15, .i (.iad 209 (.s 208) (qi 0) 1), .i (.ldh 210 (.s 209) 1 false), qm 211 15, .i (.iad 212 (.s 211) (qi 1) 1), .i (.ldh 213 (.s 212) 1 false), qm 214 15, .i (.iad 215 (.s 214) (qi 2) 1), .i (.ldh 216 (.s 215) 1 false), qm 217 15, .i (.iad 218 (.s 217) (qi 3) 1), .i (.ldh 219 (.s 218) 1 false), qm 220 19, .i (.bin 221 .add (.s 219) (.s 220)), .i (.bin 222 .and (.s 221) (qi 4294967295)), qm 223 15, .i (.iad 224 (.s 223) (qi 4) 1), .i (.ldh 225 (.s 224) 1 false), qm 226 15, .i (.iad 227 (.s 226) (qi 5) 1), .i (.ldh 228 (.s 227) 1 false), qm 229 15, .i (.iad 230 (.s 229) (qi 6) 1), .i (.ldh 231 (.s 230) 1 false), .i (.bsl 232 3 1 8 [.int .i64 0] [(0, 1, (.s 207)), (1, 1, (.s 210)), (2, 1, (.s 213)), (3, 1, (.s 216)), (4, 1, (.s 222)), (5, 1, (.s 225)), (6, 1, (.s 228)), (7, 1, (.s 231))]), qm 15 232])))))) (.ops [qm 133 16, .i (.bin 134 .add (.s 133) (qi 1)), qm 16 134])))))) (.seq (.ops [.i (.bse 233), qm 21 233]) (.seq (.seq (.ops [qm 234 0, .i (.len 235 false (.s 234)), .i (.mov 236 (qi 0))]) (.block 8 (.loop [252, 251, 250, 249, 248, 247, 246, 245, 244, 243, 242, 241, 240, 239, 238, 237, 22] (.seq (.ops [.i (.bin 237 .lss (.s 236) (.s 235))]) (.seq (.cond (.s 237) .skip (.exit 8)) (.seq (.block 9 (.seq (.ops [qm 238 236, qm 22 238]) (.ops [qm 239 21, qm 240 0, qm 241 22, .i (.iad 242 (.s 240) (.s 241) 1), .i (.ldh 243 (.s 242) 1 false), qm 244 15, qm 245 22, .i (.iad 246 (.s 244) (.s 245) 1), .i (.ldh 247 (.s 246) 1 false), .i (.bin 248 .add (.s 243) (.s 247)), .i (.bin 249 .and (.s 248) (qi 4294967295)), .i (.lsl 250 1 1 [.int .i64 0] [(0, 1, (.s 249))]), .i (.app 251 3 1 8 (.s 239) (.s 250)), qm 21 251]))) (.ops [.i (.bin 252 .add (.s 236) (qi 1)), qm 236 252]))))))) (.seq (.ops [qm 253 21, qm 4 253]) .ret))))))))))))⟩
theorem k_spec_ShaBlock : cd n_spec_ShaBlock = some c_spec_ShaBlock := by kernel_rfl
theorem spec_ShaBlock_ok (h : List Int) (b : Bytes) (hl : h.length = 8) (hw : ∀ x ∈ h, word x = true) (hb : b.length = 64) : VC cd n_spec_ShaBlock (mkP [(false, [.sl (ints h)]), (false, [.sl (bytes b)])]) (fun rs _ => rs = [(false, [.o true (some (3, 1)) (ints (shaB h b))])]) := by
 refine VC_enter k_spec_ShaBlock rfl ?_
 simp (disch := omega) [c_spec_ShaBlock, ints_len, bytes_len, hl, hb, VY]
 refine VX_loop3 (σ := Nat) (f1 := _) (es0 := _) (by simp (disch := omega) [VY]; rfl) (by simp (disch := omega) [VY]; rfl) (fun i => [(33, .val false [.int .i64 i])]) (fun _ => []) (fun i g => g + i = 8) 0 8 (by simp (disch := omega) [VY]) (by simp (disch := omega) [VY]) (by omega) ?_
 rintro i n g hg
 simp (disch := omega) [VY]
 refine VXB_dec (fun h1 => ?_) (fun h1 => ?_)
 ·have hx : i < h.length := by omega
  simp (disch := omega) [ints_get hx, VY]
  refine VXC_e (l04Word_ok _) rfl rfl ?_
  have hq : word (gi h i) = true := hw _ (by simp [gi, hx])
  simp (disch := omega) [hq, VY]
  exact ⟨i + 1, g - 1, by omega, by omega, by omega⟩
 have hi : i = 8 := by omega
 subst hi
 simp (disch := omega) [VY]
 refine VX_loop3 (σ := Nat × Nat) (f1 := _) (es0 := _) (by simp (disch := omega) [VY]; rfl) (by simp (disch := omega) [VY]; rfl) (fun p => [(8, .val false [.int .i64 (4 * (p.1 : Int))]), (7, .val false [.ow 41 p.2])]) (fun p => [(41, .sl p.2 true true (some (3, 1)) (ints (wsch b p.1)))])
  (fun p g => g + p.1 = 16) (0, _) 16 (by simp (disch := omega) [VY]; rfl) (by simp (disch := omega) [ints, wsch, VY]) (by omega) ?_
 rintro ⟨k, v⟩ n g hg
 simp only at hg
 simp (disch := omega) [VY]
 refine VXB_dec (fun h2 => ?_) (fun h2 => ?_)
 ·have hk : k < 16 := by omega
  have q1 : ((4 : Int) * (k : Int)).toNat = 4 * k := by omega
  have q2 : ((4 : Int) * (k : Int) + 1).toNat = 4 * k + 1 := by omega
  have q3 : ((4 : Int) * (k : Int) + 2).toNat = 4 * k + 2 := by omega
  have q4 : ((4 : Int) * (k : Int) + 3).toNat = 4 * k + 3 := by omega
  have p1 : (0 : Int) ≤ (4 : Int) * (k : Int) ∧ (0 : Int) ≤ (4 : Int) * (k : Int) + 1 ∧ (0 : Int) ≤ (4 : Int) * (k : Int) + 2 ∧ (0 : Int) ≤ (4 : Int) * (k : Int) + 3 := by omega
  obtain ⟨p1, p2, p3, p4⟩ := p1
  have r1 := gb_range b (4 * k)
  have r2 := gb_range b (4 * k + 1)
  have r3 := gb_range b (4 * k + 2)
  have r4 := gb_range b (4 * k + 3)
  have e1 : (ints (wsch b k)).length = k := by rw [ints_len, wsch_len]
  simp (disch := omega) [bytes_len, hb, q1, q2, q3, q4, p1, p2, p3, p4, e1, flat_ints, wid_ints, gb_get (show 4 * k < b.length by omega), gb_get (show 4 * k + 1 < b.length by omega), gb_get (show 4 * k + 2 < b.length by omega), gb_get (show 4 * k + 3 < b.length by omega), VY]
  exact ⟨k + 1, _, g - 1, by omega, by omega, ⟨rfl, by omega⟩, rfl, by rw [wsch, if_pos hk]; simp only [ints, List.map_append, List.map_cons, List.map_nil, bw]⟩
 have hk : k = 16 := by omega
 subst hk
 simp (disch := omega) [VY]
 refine VX_loop3 (σ := Nat × Nat) (f1 := _) (es0 := _) (by simp (disch := omega) [VY]; rfl) (by simp (disch := omega) [VY]; rfl) (fun p => [(9, .val false [.int .i64 p.1]), (7, .val false [.ow 41 p.2])]) (fun p => [(41, .sl p.2 true true (some (3, 1)) (ints (wsch b p.1)))])
  (fun p g => g + p.1 = 64 ∧ 16 ≤ p.1) (16, _) 48 (by simp (disch := omega) [VY]; rfl) (by simp (disch := omega) [VY]) (by omega) ?_
 rintro ⟨k, v⟩ n g hg
 simp only at hg
 simp (disch := omega) [VY]
 refine VXB_dec (fun h3 => ?_) (fun h3 => ?_)
 ·have hk : k < 64 := by omega
  obtain ⟨p1, p2, p3⟩ : (15 : Int) ≤ (k : Int) ∧ ((k : Int) - 15).toNat = k - 15 ∧ (k : Int) - 15 < k := by omega
  obtain ⟨p4, p5, p6⟩ : (2 : Int) ≤ (k : Int) ∧ ((k : Int) - 2).toNat = k - 2 ∧ (k : Int) - 2 < k := by omega
  obtain ⟨p7, p8, p9⟩ : (16 : Int) ≤ (k : Int) ∧ ((k : Int) - 16).toNat = k - 16 ∧ (k : Int) - 16 < k := by omega
  obtain ⟨q1, q2, q3⟩ : (7 : Int) ≤ (k : Int) ∧ ((k : Int) - 7).toNat = k - 7 ∧ (k : Int) - 7 < k := by omega
  have e1 : (ints (wsch b k)).length = k := by rw [ints_len, wsch_len]
  have hwl := wsch_len b k
  simp (disch := omega) [e1, p1, p2, p3, p4, p5, p6, ints_ge, VY]
  refine VXC_e (l04Turn_ok _ 7 (by omega)) rfl rfl ?_
  simp (disch := omega) [VY]
  refine VXC_e (l04Turn_ok _ 18 (by omega)) rfl rfl ?_
  simp (disch := omega) [VY]
  refine VXC_e (l04Turn_ok _ 17 (by omega)) rfl rfl ?_
  simp (disch := omega) [VY]
  refine VXC_e (l04Turn_ok _ 19 (by omega)) rfl rfl ?_
  simp (disch := omega) [e1, p7, p8, p9, q1, q2, q3, ints_ge, flat_ints, wid_ints, VY]
  exact ⟨k + 1, _, g - 1, by omega, by omega, ⟨rfl, by omega⟩, rfl, by rw [wsch, if_neg (by omega)]; simp only [ints, List.map_append, List.map_cons, List.map_nil, wnext, sg0, sg1]⟩
 have hk : k = 64 := by omega
 subst hk
 simp (disch := omega) [VY]
 refine VXC_e (l04K_ok) rfl rfl ?_
 simp (disch := omega) [ints_len, hl, flat_ints, wid_ints, VY]
 refine VX_loop4 (σ := Nat × Nat) (f0 := _) (by simp (disch := omega) [VY]; rfl) (Weak.ren (s := 15) (k := 128) (k' := 232) (by simp (disch := omega) [VY]) rfl (by omega)) (f1 := _) (es0 := _) (by simp (disch := omega) [VY]; rfl) (by simp (disch := omega) [renS, rmKs, VY]; rfl) (fun p => [(16, .val false [.int .i64 p.1]), (15, .val false [.ow 232 p.2])]) (fun p => [(232, .sl p.2 true true (some (3, 1)) (ints (rnds h b p.1)))])
  (fun p g => g + p.1 = 64) (0, _) 64 (by simp (disch := omega) [VY]; rfl) (by simp (disch := omega) [rnds, renS, rmKs, VY]) (by omega) ?_
 rintro ⟨k, v⟩ n g hg
 simp only at hg
 simp (disch := omega) [VY]
 refine VXB_dec (fun h4 => ?_) (fun h4 => ?_)
 ·have hk : k < 64 := by omega
  have hv := rnds_len hl b k
  have e1 : (ints (rnds h b k)).length = 8 := by rw [ints_len, hv]
  have e2 : (ints kk).length = 64 := rfl
  have e3 : (ints (wsch b 64)).length = 64 := by rw [ints_len, wsch_len]
  simp (disch := omega) [e1, e2, e3, ints_ge, VY]
  refine VXC_e (l04Turn_ok _ 6 (by omega)) rfl rfl ?_
  simp (disch := omega) [VY]
  refine VXC_e (l04Turn_ok _ 11 (by omega)) rfl rfl ?_
  simp (disch := omega) [VY]
  refine VXC_e (l04Turn_ok _ 25 (by omega)) rfl rfl ?_
  simp (disch := omega) [e1, e2, e3, ints_ge, VY]
  refine VXC_e (l04Turn_ok _ 2 (by omega)) rfl rfl ?_
  simp (disch := omega) [VY]
  refine VXC_e (l04Turn_ok _ 13 (by omega)) rfl rfl ?_
  simp (disch := omega) [VY]
  refine VXC_e (l04Turn_ok _ 22 (by omega)) rfl rfl ?_
  simp (disch := omega) [e1, e2, e3, ints_ge, VY]
  exact ⟨k + 1, _, g - 1, by omega, by omega, ⟨rfl, by omega⟩, rfl, rfl⟩
 have hk : k = 64 := by omega
 subst hk
 simp (disch := omega) [ints_len, hl, VY]
 refine VX_loop3 (σ := Nat × Nat) (f1 := _) (es0 := _) (by simp (disch := omega) [VY]; rfl) (by simp (disch := omega) [VY]; rfl) (fun p => [(236, .val false [.int .i64 p.1]), (21, .val false [.ow 233 p.2])]) (fun p => [(233, .sl p.2 true true (some (3, 1)) (ints ((shaB h b).take p.1)))])
  (fun p g => g + p.1 = 8) (0, _) 8 (by simp (disch := omega) [VY]; rfl) (by simp (disch := omega) [ints, VY]) (by omega) ?_
 rintro ⟨k, w⟩ n g hg
 simp only at hg
 simp (disch := omega) [VY]
 refine VXB_dec (fun h5 => ?_) (fun h5 => ?_)
 ·have hk : k < 8 := by omega
  have hv := rnds_len hl b 64
  have e1 : (ints (rnds h b 64)).length = 8 := by rw [ints_len, hv]
  have e2 : (ints h).length = 8 := by rw [ints_len, hl]
  have e3 : (ints ((shaB h b).take k)).length = k := by rw [ints_len]; simp [shaB]; omega
  simp (disch := omega) [e1, e2, e3, ints_ge, flat_ints, wid_ints, VY]
  exact ⟨k + 1, _, g - 1, by omega, by omega, ⟨rfl, by omega⟩, rfl, shaB_take h b hk⟩
 ·have hk : k = 8 := by omega
  subst hk
  simp (disch := omega) [VY]
  rw [List.take_of_length_le (by simp [shaB])]
end Go.Eng.F
namespace Go.Eng.F
theorem ofInt_wrap (n : Int) : BitVec.ofInt 64 (IntKind.i64.wrap n) = BitVec.ofInt 64 n := by
 apply BitVec.eq_of_toNat_eq
 rw [IntKind.wrap_i64]
 simp only [BitVec.toNat_ofInt]
 congr 1
 omega
theorem ofInt_nat (v : BitVec 64) : BitVec.ofInt 64 (v.toNat : Int) = v := by
 apply BitVec.eq_of_toNat_eq
 simp
theorem b2_and (x y : Int) : BitVec.ofInt 64 (bits2 .and .i64 x y) = BitVec.ofInt 64 x &&& BitVec.ofInt 64 y := by
 show BitVec.ofInt 64 (IntKind.i64.wrap ((BitVec.ofInt 64 x &&& BitVec.ofInt 64 y).toNat : Int)) = _
 rw [ofInt_wrap, ofInt_nat]
theorem b2_or (x y : Int) : BitVec.ofInt 64 (bits2 .or .i64 x y) = BitVec.ofInt 64 x ||| BitVec.ofInt 64 y := by
 show BitVec.ofInt 64 (IntKind.i64.wrap ((BitVec.ofInt 64 x ||| BitVec.ofInt 64 y).toNat : Int)) = _
 rw [ofInt_wrap, ofInt_nat]
theorem b2_xor (x y : Int) : BitVec.ofInt 64 (bits2 .xor .i64 x y) = BitVec.ofInt 64 x ^^^ BitVec.ofInt 64 y := by
 show BitVec.ofInt 64 (IntKind.i64.wrap ((BitVec.ofInt 64 x ^^^ BitVec.ofInt 64 y).toNat : Int)) = _
 rw [ofInt_wrap, ofInt_nat]
theorem word_iff {x : Int} : word x = true ↔ 0 ≤ x ∧ x ≤ 4294967295 := by simp [word, inn]
theorem word_nat {x : Int} (h : word x = true) : (BitVec.ofInt 64 x).toNat = x.toNat ∧ x.toNat < 4294967296 := by
 have h := word_iff.1 h
 rw [BitVec.toNat_ofInt]
 omega
theorem word_mask {x : Int} (h : word x = true) : BitVec.ofInt 64 x &&& BitVec.ofInt 64 4294967295 = BitVec.ofInt 64 x := by
 obtain ⟨h1, h2⟩ := word_nat h
 apply BitVec.eq_of_toNat_eq
 rw [BitVec.toNat_and, h1]
 have : (BitVec.ofInt 64 4294967295).toNat = 2 ^ 32 - 1 := rfl
 rw [this, Nat.and_two_pow_sub_one_eq_mod]
 omega
theorem wrap_small {n : Nat} (h : n < 4294967296) : word (IntKind.i64.wrap (n : Int)) = true := by
 rw [word_iff, w64 (by omega) (by omega)]
 omega
theorem and_word (x : Int) : word (bits2 .and .i64 x 4294967295) = true := by
 show word (IntKind.i64.wrap ((BitVec.ofInt 64 x &&& BitVec.ofInt 64 4294967295).toNat : Int)) = true
 refine wrap_small ?_
 rw [BitVec.toNat_and]
 have : (BitVec.ofInt 64 4294967295).toNat = 2 ^ 32 - 1 := rfl
 rw [this, Nat.and_two_pow_sub_one_eq_mod]
 omega
theorem or_word {x y : Int} (hx : word x = true) (hy : word y = true) : word (bits2 .or .i64 x y) = true := by
 show word (IntKind.i64.wrap ((BitVec.ofInt 64 x ||| BitVec.ofInt 64 y).toNat : Int)) = true
 refine wrap_small ?_
 rw [BitVec.toNat_or, (word_nat hx).1, (word_nat hy).1]
 exact Nat.or_lt_two_pow (n := 32) (word_nat hx).2 (word_nat hy).2
theorem ch_eq {e p q : Int} (he : word e = true) : bits2 .or .i64 (bits2 .and .i64 e p) (bits2 .and .i64 (bits2 .xor .i64 e 4294967295) q) = bits2 .xor .i64 (bits2 .and .i64 e p) (bits2 .and .i64 (bits2 .xor .i64 4294967295 e) q) := by
 show IntKind.i64.wrap ((BitVec.ofInt 64 _ ||| BitVec.ofInt 64 _).toNat : Int) = IntKind.i64.wrap ((BitVec.ofInt 64 _ ^^^ BitVec.ofInt 64 _).toNat : Int)
 congr 2
 apply congrArg BitVec.toNat
 simp only [b2_and, b2_xor]
 have hm := word_mask he
 generalize BitVec.ofInt 64 e = a at *
 generalize BitVec.ofInt 64 p = b
 generalize BitVec.ofInt 64 q = c
 generalize BitVec.ofInt 64 4294967295 = m at *
 apply BitVec.eq_of_getLsbD_eq
 intro i hi
 have h1 := congrArg (fun v => v.getLsbD i) hm
 simp only [BitVec.getLsbD_and] at h1
 simp only [BitVec.getLsbD_or, BitVec.getLsbD_xor, BitVec.getLsbD_and]
 revert h1
 cases a.getLsbD i <;> cases b.getLsbD i <;> cases c.getLsbD i <;> cases m.getLsbD i <;> simp
theorem maj_eq (a p q : Int) : bits2 .or .i64 (bits2 .or .i64 (bits2 .and .i64 a p) (bits2 .and .i64 a q)) (bits2 .and .i64 p q) = bits2 .xor .i64 (bits2 .xor .i64 (bits2 .and .i64 a p) (bits2 .and .i64 a q)) (bits2 .and .i64 p q) := by
 show IntKind.i64.wrap ((BitVec.ofInt 64 _ ||| BitVec.ofInt 64 _).toNat : Int) = IntKind.i64.wrap ((BitVec.ofInt 64 _ ^^^ BitVec.ofInt 64 _).toNat : Int)
 congr 2
 apply congrArg BitVec.toNat
 simp only [b2_and, b2_xor, b2_or]
 generalize BitVec.ofInt 64 a = a
 generalize BitVec.ofInt 64 p = b
 generalize BitVec.ofInt 64 q = c
 apply BitVec.eq_of_getLsbD_eq
 intro i hi
 simp only [BitVec.getLsbD_or, BitVec.getLsbD_xor, BitVec.getLsbD_and]
 cases a.getLsbD i <;> cases b.getLsbD i <;> cases c.getLsbD i <;> rfl
theorem bw_word (b : Bytes) (i : Nat) : word (bw b i) = true := by
 have h1 := gb_range b i
 have h2 := gb_range b (i + 1)
 have h3 := gb_range b (i + 2)
 have h4 := gb_range b (i + 3)
 have e1 : min 24 IntKind.i64.bits = 24 := rfl
 have e2 : min 16 IntKind.i64.bits = 16 := rfl
 have e3 : min 8 IntKind.i64.bits = 8 := rfl
 unfold bw
 rw [e1, e2, e3]
 refine or_word (or_word (or_word ?_ ?_) ?_) ?_ <;> rw [word_iff]
 ·rw [w64 (by omega) (by omega)]; omega
 ·rw [w64 (by omega) (by omega)]; omega
 ·rw [w64 (by omega) (by omega)]; omega
 ·omega
theorem wsch_word (b : Bytes) : ∀ n, ∀ x ∈ wsch b n, word x = true
 | 0, x, hx => by cases hx
 | n + 1, x, hx => by
  simp only [wsch] at hx
  rcases List.mem_append.1 hx with hx | hx
  ·exact wsch_word b n x hx
  ·simp only [List.mem_singleton] at hx
   subst hx
   split
   ·exact bw_word _ _
   ·exact and_word _
theorem gi_mem {l : List Int} {i : Nat} (h : i < l.length) : gi l i ∈ l := by simp [gi, h]
theorem rnds_word {h : List Int} (hl : h.length = 8) (hw : ∀ x ∈ h, word x = true) (b : Bytes) : ∀ n, ∀ x ∈ rnds h b n, word x = true
 | 0, x, hx => hw x hx
 | n + 1, x, hx => by
  have ih := rnds_word hl hw b n
  have hv := rnds_len hl b n
  have hm : ∀ i, i < 8 → word (gi (rnds h b n) i) = true := fun i hi => ih _ (gi_mem (by omega))
  simp only [rnds, rnd, List.mem_cons, List.not_mem_nil, or_false] at hx
  rcases hx with rfl | rfl | rfl | rfl | rfl | rfl | rfl | rfl
  ·exact and_word _
  ·exact hm 0 (by omega)
  ·exact hm 1 (by omega)
  ·exact hm 2 (by omega)
  ·exact and_word _
  ·exact hm 4 (by omega)
  ·exact hm 5 (by omega)
  ·exact hm 6 (by omega)
def arr (b : Bytes) (k : Nat) : List Int := wsch b k ++ List.replicate (64 - k) 0
theorem arr_len (b : Bytes) {k : Nat} (h : k ≤ 64) : (ivs (arr b k)).length = 64 := by simp [ivs, arr, wsch_len]; omega
theorem arr_get (b : Bytes) {k i : Nat} (hk : k ≤ 64) (h : i < k) : ((ivs (arr b k)).drop i).take 1 = [.int .i64 (gi (wsch b k) i)] := by
 rw [ivs_get (by simp [arr, wsch_len]; omega)]
 simp [gi, arr, List.getD_eq_getElem?_getD, List.getElem?_append_left (show i < (wsch b k).length by rw [wsch_len]; exact h)]
theorem arr_set (b : Bytes) {k : Nat} (h : k < 64) (x : Int) : (ivs (arr b k)).set k (.int .i64 x) = ivs (wsch b k ++ [x] ++ List.replicate (64 - (k + 1)) 0) := by
 have e : 64 - k = (64 - (k + 1)) + 1 := by omega
 have h2 := wsch_len b k
 simp only [ivs, arr, e, List.replicate_succ, List.map_append, List.map_cons]
 rw [List.set_append_right _ _ (by simp [h2])]
 simp [h2]
end Go.Eng.F
namespace Go.Eng.F
theorem arr_next1 (b : Bytes) {k : Nat} (hk : k < 16) : ivs (wsch b k ++ bw b (4 * k) :: List.replicate (63 - k) 0) = ivs (arr b (k + 1)) := by
 unfold arr
 rw [wsch, if_pos hk, show 64 - (k + 1) = 63 - k by omega]
 simp
theorem arr_next2 (b : Bytes) {k : Nat} (hk : 16 ≤ k) : ivs (wsch b k ++ wnext (gi (wsch b k) (k - 16)) (gi (wsch b k) (k - 15)) (gi (wsch b k) (k - 7)) (gi (wsch b k) (k - 2)) :: List.replicate (63 - k) 0) = ivs (arr b (k + 1)) := by
 unfold arr
 rw [wsch, if_neg (by omega), show 64 - (k + 1) = 63 - k by omega]
 simp
theorem flat_one (l : List Int) : (ints l).flatten = ivs l := by
 induction l with
 | nil => rfl
 | cons n l ih => simp only [ints, ivs, List.map_cons, List.flatten_cons] at ih ⊢; rw [ih]; rfl
theorem setL_allD {α : Type} {cs vs : List α} (h : vs.length = cs.length) : setL cs 0 vs = vs := by rw [setL_eq _ _ _ (by omega)]; simp [h]
abbrev n_impl_ShaBlock : Nat := 219
def c_impl_ShaBlock : AF := ⟨2, 8, [.tmp 4], (.seq (.ops [.i (.mov 4 (.c (.val false [.nils])))]) (.seq (.seq (.ops [qm 25 0, .i (.len 26 false (.s 25)), .i (.bin 27 .neq (.s 26) (qi 8)), qm 28 27, .g 28 false 30 (.mov 29 (.s 1)), .g 28 false 31 (.len 30 false (.s 29)), .g 28 false 32 (.bin 31 .neq (.s 30) (qi 64)), .i (.pick 32 (.s 28) (qb true) (.s 31))]) (.cond (.s 32) (.seq (.ops [.i (.mov 4 (.c (.val false [.nils])))]) .ret) .skip)) (.seq (.seq (.ops [qm 33 0, .i (.len 34 false (.s 33)), .i (.mov 35 (qi 0))]) (.block 0 (.loop [42, 41, 40, 39, 38, 37, 36, 6] (.seq (.ops [.i (.bin 36 .lss (.s 35) (.s 34))]) (.seq (.cond (.s 36) .skip (.exit 0)) (.seq (.block 1 (.seq (.ops [.i (.iad 37 (.s 33) (.s 35) 1), .i (.ldh 38 (.s 37) 1 false), qm 6 38]) (.seq (.ops [qm 39 6, .i (.call 41 267 false [(.s 39)]), .i (.not 41 (.s 40))]) (.cond (.s 41) (.seq (.ops [.i (.mov 4 (.c (.val false [.nils])))]) .ret) .skip)))) (.ops [.i (.bin 42 .add (.s 35) (qi 1)), qm 35 42]))))))) (.seq (.ops [.i (.bld 43 [.int .i64 0, .int .i64 0, .int .i64 0, .int .i64 0, .int .i64 0, .int .i64 0, .int .i64 0, .int .i64 0, .int .i64 0, .int .i64 0, .int .i64 0, .int .i64 0, .int .i64 0, .int .i64 0, .int .i64 0, .int .i64 0, .int .i64 0, .int .i64 0, .int .i64 0, .int .i64 0, .int .i64 0, .int .i64 0, .int .i64 0, .int .i64 0, .int .i64 0, .int .i64 0, .int .i64 0, .int .i64 0, .int .i64 0, .int .i64 0, .int .i64 0, .int .i64 0, .int .i64 0, .int .i64 0, .int .i64 0, .int .i64 0, .int .i64 0, .int .i64 0, .int .i64 0, .int .i64 0, .int .i64 0, .int .i64 0, .int .i64 0, .int .i64 0, .int .i64 0, .int .i64 0, .int .i64 0, .int .i64 0, .int .i64 0, .int .i64 0, .int .i64 0, .int .i64 0, .int .i64 0, .int .i64 0, .int .i64 0, .int .i64 0, .int .i64 0, .int .i64 0, .int .i64 0, .int .i64 0, .int .i64 0, .int .i64 0, .int .i64 0, .int .i64 0] []), .i (.call 45 268 false []), .i (.bld 45 [.int .i64 0, .int .i64 0, .int .i64 0, .int .i64 0, .int .i64 0, .int .i64 0, .int .i64 0, .int .i64 0] []), .i (.lal 7 [.int .i64 0, .int .i64 0, .int .i64 0, .int .i64 0, .int .i64 0, .int .i64 0, .int .i64 0, .int .i64 0, .int .i64 0, .int .i64 0, .int .i64 0, .int .i64 0, .int .i64 0, .int .i64 0, .int .i64 0, .int .i64 0, .int .i64 0, .int .i64 0, .int .i64 0, .int .i64 0, .int .i64 0, .int .i64 0, .int .i64 0, .int .i64 0, .int .i64 0, .int .i64 0, .int .i64 0, .int .i64 0, .int .i64 0, .int .i64 0, .int .i64 0, .int .i64 0, .int .i64 0, .int .i64 0, .int .i64 0, .int .i64 0, .int .i64 0, .int .i64 0, .int .i64 0, .int .i64 0, .int .i64 0, .int .i64 0, .int .i64 0, .int .i64 0, .int .i64 0, .int .i64 0, .int .i64 0, .int .i64 0, .int .i64 0, .int .i64 0, .int .i64 0, .int .i64 0, .int .i64 0, .int .i64 0, .int .i64 0, .int .i64 0, .int .i64 0, .int .i64 0, .int .i64 0, .int .i64 0, .int .i64 0, .int .i64 0, .int .i64 0, .int .i64 0]), .i (.hal 9 261 [.int .i64 0, .int .i64 0, .int .i64 0, .int .i64 0, .int .i64 0, .int .i64 0, .int .i64 0, .int .i64 0]), .i (.stl 7 (.s 7) (.s 43) 64), qm 8 44, .i (.sth (.s 9) (.s 45) 8)]) (.seq (.seq (.ops [.i (.mov 46 (qi 0))]) (.block 2 (.loop [84, 83, 82, 81, 80, 79, 78, 77, 76, 75, 74, 73, 72, 71, 70, 69, 68, 67, 66, 65, 64, 63, 62, 61, 60, 59, 58, 57, 56, 55, 54, 53, 52, 51, 50, 49, 48, 47, 10] (.seq (.ops [.i (.bin 47 .lss (.s 46) (qi 16))]) (.seq (.cond (.s 47) .skip (.exit 2)) (.seq (.block 3 (.seq (.ops [qm 48 46, qm 10 48]) (.ops [qm 49 10, qm 50 1, qm 51 10, .i (.bin 52 .mul (qi 4) (.s 51)), .i (.iad 53 (.s 50) (.s 52) 1), .i (.ldh 54 (.s 53) 1 false), .i (.cvi 55 .i64 (.s 54)), .i (.bin 56 .shl (.s 55) (.c (.val false [.int .u64 24]))), qm 57 1, qm 58 10, .i (.bin 59 .mul (qi 4) (.s 58)), .i (.bin 60 .add (.s 59) (qi 1)), .i (.iad 61 (.s 57) (.s 60) 1), .i (.ldh 62 (.s 61) 1 false), .i (.cvi 63 .i64 (.s 62)), .i (.bin 64 .shl (.s 63) (.c (.val false [.int .u64 16]))), .i (.bin 65 .or (.s 56) (.s 64)), qm 66 1, qm 67 10, .i (.bin 68 .mul (qi 4) (.s 67)), .i (.bin 69 .add (.s 68) (qi 2)), .i (.iad 70 (.s 66) (.s 69) 1), .i (.ldh 71 (.s 70) 1 false), .i (.cvi 72 .i64 (.s 71)), .i (.bin 73 .shl (.s 72) (.c (.val false [.int .u64 8]))), .i (.bin 74 .or (.s 65) (.s 73)), qm 75 1, qm 76 10, .i (.bin 77 .mul (qi 4) (.s 76)), .i (.bin 78 .add (.s 77) (qi 3)), .i (.iad 79 (.s 75) (.s 78) 1), .i (.ldh 80 (.s 79) 1 false), .i (.cvi 81 .i64 (.s 80)), .i (.bin 82 .or (.s 74) (.s 81)), .i (.iaa 83 (.s 7) (.s 49) 1 64), .i (.stl 7 (.s 83) (.s 82) 1)]))) (.ops [.i (.bin 84 .add (.s 46) (qi 1)), qm 46 84]))))))) (.seq (.seq (.ops [.i (.mov 11 (qi 16))]) (.block 4 (.loop [128, 127, 126, 125, 124, 123, 122, 121, 120, 119, 118, 117, 116, 115, 114, 113, 112, 111, 110, 109, 108, 107, 106, 105, 104, 103, 102, 101, 100, 99, 98, 97, 96, 95, 94, 93, 92, 91, 90, 89, 88, 87, 86, 85, 15, 14, 13, 12] (.seq (.seq (.ops [qm 85 11, .i (.bin 86 .lss (.s 85) (qi 64))]) (.cond (.s 86) .skip (.exit 4))) (.seq (.block 5 (.seq (.ops [qm 89 11, .i (.bin 90 .sub (.s 89) (qi 15)), .i (.iaa 91 (.s 7) (.s 90) 1 64), ql 92 7 91 1 false, qm 93 11, .i (.bin 94 .sub (.s 93) (qi 2)), .i (.iaa 95 (.s 7) (.s 94) 1 64), ql 96 7 95 1 false, qm 12 92, qm 13 96]) (.seq (.ops [qm 97 12, .i (.call 99 269 false [(.s 97), (qi 7)]), qm 99 12, .i (.call 101 269 false [(.s 99), (qi 18)]), .i (.bin 101 .xor (.s 98) (.s 100)), qm 102 12, .i (.bin 103 .shr (.s 102) (.c (.val false [.int .u64 3]))), .i (.bin 104 .xor (.s 101) (.s 103)), qm 14 104]) (.seq (.ops [qm 105 13, .i (.call 107 269 false [(.s 105), (qi 17)]), qm 107 13, .i (.call 109 269 false [(.s 107), (qi 19)]), .i (.bin 109 .xor (.s 106) (.s 108)), qm 110 13, .i (.bin 111 .shr (.s 110) (.c (.val false [.int .u64 10]))), .i (.bin 112 .xor (.s 109) (.s 111)), qm 15 112]) (.ops [qm 113 11, qm 114 11, .i (.bin 115 .sub (.s 114) (qi 16)), .i (.iaa 116 (.s 7) (.s 115) 1 64), ql 117 7 116 1 false, qm 118 14, .i (.bin 119 .add (.s 117) (.s 118)), qm 120 11, .i (.bin 121 .sub (.s 120) (qi 7)), .i (.iaa 122 (.s 7) (.s 121) 1 64), ql 123 7 122 1 false, .i (.bin 124 .add (.s 119) (.s 123)), qm 125 15, .i (.bin 126 .add (.s 124) (.s 125)), .i (.bin 127 .and (.s 126) (qi 4294967295)), .i (.iaa 128 (.s 7) (.s 113) 1 64), .i (.stl 7 (.s 128) (.s 127) 1)]))))) (.ops [qm 87 11, .i (.bin 88 .add (.s 87) (qi 1)), qm 11 88])))))) (.seq (.ops [.i (.sla 129 (.s 9) 8 1), qm 130 0, .i (.cpy 131 1 (.s 129) (.s 130))]) (.seq (.seq (.ops [.i (.mov 132 (qi 0))]) (.block 6 (.loop [216, 215, 214, 213, 212, 211, 210, 209, 208, 207, 206, 205, 204, 203, 202, 201, 200, 199, 198, 197, 196, 195, 194, 193, 192, 191, 190, 189, 188, 187, 186, 185, 184, 183, 182, 181, 180, 179, 178, 177, 176, 175, 174, 173, 172, 171, 170, 169, 168, 167, 166, 165, 164, 163, 162, 161, 160, 159, 158, 157, 156, 155, 154, 153, 152, 151, 150, 149, 148, 147, 146, 145, 144, 143, 142, 141, 140, 139, 138, 137, 136, 135, 134, 133, 22, 21, 20, 19, 18, 17, 16] (.seq (.ops [.i (.bin 133 .lss (.s 132) (qi 64))]) (.seq (.cond (.s 133) .skip (.exit 6)) (.seq (.block 7 (.seq (.ops [qm 134 132, qm 16 134]) (.seq (.ops [.i (.iaa 135 (.s 9) (qi 4) 1 8), .i (.ldh 136 (.s 135) 1 false), .i (.iaa 137 (.s 9) (qi 0) 1 8), .i (.ldh 138 (.s 137) 1 false), qm 17 136, qm 18 138]) (.seq (.ops [qm 139 17, .i (.iaa 140 (.s 9) (qi 5) 1 8), .i (.ldh 141 (.s 140) 1 false), .i (.bin 142 .and (.s 139) (.s 141)), qm 143 17, .i (.bin 144 .xor (.s 143) (qi 4294967295)), .i (.iaa 145 (.s 9) (qi 6) 1 8), .i (.ldh 146 (.s 145) 1 false), .i (.bin 147 .and (.s 144) (.s 146)), .i (.bin 148 .or (.s 142) (.s 147)), qm 19 148]) (.seq (.ops [qm 149 18, .i (.iaa 150 (.s 9) (qi 1) 1 8), .i (.ldh 151 (.s 150) 1 false), .i (.bin 152 .and (.s 149) (.s 151)), qm 153 18, .i (.iaa 154 (.s 9) (qi 2) 1 8), .i (.ldh 155 (.s 154) 1 false), .i (.bin 156 .and (.s 153) (.s 155)), .i (.bin 157 .or (.s 152) (.s 156)), .i (.iaa 158 (.s 9) (qi 1) 1 8), .i (.ldh 159 (.s 158) 1 false), .i (.iaa 160 (.s 9) (qi 2) 1 8), .i (.ldh 161 (.s 160) 1 false), .i (.bin 162 .and (.s 159) (.s 161)), .i (.bin 163 .or (.s 157) (.s 162)), qm 20 163]) (.seq (.ops [.i (.iaa 164 (.s 9) (qi 7) 1 8), .i (.ldh 165 (.s 164) 1 false), qm 166 17, .i (.call 168 269 true [(.s 166), (qi 6)]), qm 168 17, .i (.call 170 269 true [(.s 168), (qi 11)]), .i (.bin 170 .xor (.s 167) (.s 169)), qm 171 17, .i (.call 173 269 true [(.s 171), (qi 25)]), .i (.bin 173 .xor (.s 170) (.s 172)), .i (.bin 174 .add (.s 165) (.s 173)), qm 175 19, .i (.bin 176 .add (.s 174) (.s 175)), qm 177 8, qm 178 16, .i (.iad 179 (.s 177) (.s 178) 1), .i (.ldh 180 (.s 179) 1 false), .i (.bin 181 .add (.s 176) (.s 180)), qm 182 16, .i (.iaa 183 (.s 7) (.s 182) 1 64), ql 184 7 183 1 false, .i (.bin 185 .add (.s 181) (.s 184)), qm 21 185]) (.seq (.ops [qm 186 18, .i (.call 188 269 false [(.s 186), (qi 2)]), qm 188 18, .i (.call 190 269 false [(.s 188), (qi 13)]), .i (.bin 190 .xor (.s 187) (.s 189)), qm 191 18, .i (.call 193 269 false [(.s 191), (qi 22)]), .i (.bin 193 .xor (.s 190) (.s 192)), qm 194 20, .i (.bin 195 .add (.s 193) (.s 194)), qm 22 195]) (.ops [qm 196 21, qm 197 22, .i (.bin 198 .add (.s 196) (.s 197)), .i (.bin 199 .and (.s 198) (qi 4294967295)), qm 200 18, .i (.iaa 201 (.s 9) (qi 1) 1 8), .i (.ldh 202 (.s 201) 1 false), .i (.iaa 203 (.s 9) (qi 2) 1 8), .i (.ldh 204 (.s 203) 1 false), .i (.iaa 205 (.s 9) (qi 3) 1 8), .i (.ldh 206 (.s 205) 1 false), qm 207 21, .i (.bin 208 .add (.s 206) (.s 207)), .i (.bin 209 .and (.s 208) (qi 4294967295)), qm 210 17, .i (.iaa 211 (.s 9) (qi 5) 1 8), .i (.ldh 212 (.s 211) 1 false), .i (.iaa 213 (.s 9) (qi 6) 1 8), .i (.ldh 214 (.s 213) 1 false), .i (.bld 215 [.int .i64 0, .int .i64 0, .int .i64 0, .int .i64 0, .int .i64 0, .int .i64 0, .int .i64 0, .int .i64 0] [(0, 1, (.s 199)), (1, 1, (.s 200)), (2, 1, (.s 202)), (3, 1, (.s 204)), (4, 1, (.s 209)), (5, 1, (.s 210)), (6, 1, (.s 212)), (7, 1, (.s 214))]), .i (.sth (.s 9) (.s 215) 8)])))))))) (.ops [.i (.bin 216 .add (.s 132) (qi 1)), qm 132 216]))))))) (.seq (.ops [.i (.bse 217), qm 23 217]) (.seq (.seq (.ops [.i (.mov 218 (qi 0))]) (.block 8 (.loop [233, 232, 231, 230, 229, 228, 227, 226, 225, 224, 223, 222, 221, 220, 219, 24] (.seq (.ops [.i (.bin 219 .lss (.s 218) (qi 8))]) (.seq (.cond (.s 219) .skip (.exit 8)) (.seq (.block 9 (.seq (.ops [qm 220 218, qm 24 220]) (.ops [qm 221 23, qm 222 0, qm 223 24, .i (.iad 224 (.s 222) (.s 223) 1), .i (.ldh 225 (.s 224) 1 false), qm 226 24, .i (.iaa 227 (.s 9) (.s 226) 1 8), .i (.ldh 228 (.s 227) 1 false), .i (.bin 229 .add (.s 225) (.s 228)), .i (.bin 230 .and (.s 229) (qi 4294967295)), .i (.lsl 231 1 1 [.int .i64 0] [(0, 1, (.s 230))]), .i (.app 232 3 1 8 (.s 221) (.s 231)), qm 23 232]))) (.ops [.i (.bin 233 .add (.s 218) (qi 1)), qm 218 233]))))))) (.seq (.ops [qm 234 23, qm 4 234]) .ret)))))))))))⟩
theorem k_impl_ShaBlock : cd n_impl_ShaBlock = some c_impl_ShaBlock := by kernel_rfl
theorem impl_ShaBlock_ok (h : List Int) (b : Bytes) (hl : h.length = 8) (hw : ∀ x ∈ h, word x = true) (hb : b.length = 64) : VC cd n_impl_ShaBlock (mkP [(false, [.sl (ints h)]), (false, [.sl (bytes b)])]) (fun rs _ => rs = [(false, [.o true (some (3, 1)) (ints (shaB h b))])]) := by
 refine VC_enter k_impl_ShaBlock rfl ?_
 simp (disch := omega) [c_impl_ShaBlock, ints_len, bytes_len, hl, hb, VY]
 refine VX_loop3 (σ := Nat) (f1 := _) (es0 := _) (by simp (disch := omega) [VY]; rfl) (by simp (disch := omega) [VY]; rfl) (fun i => [(35, .val false [.int .i64 i])]) (fun _ => []) (fun i g => g + i = 8) 0 8 (by simp (disch := omega) [VY]) (by simp (disch := omega) [VY]) (by omega) ?_
 rintro i n g hg
 simp (disch := omega) [VY]
 refine VXB_dec (fun h1 => ?_) (fun h1 => ?_)
 ·have hx : i < h.length := by omega
  simp (disch := omega) [ints_get hx, VY]
  refine VXC_e (isWord_ok _) rfl rfl ?_
  have hq : word (gi h i) = true := hw _ (gi_mem hx)
  simp (disch := omega) [hq, VY]
  exact ⟨i + 1, g - 1, by omega, by omega, by omega⟩
 have hi : i = 8 := by omega
 subst hi
 simp (disch := omega) [VY]
 refine VXC_e (rounds_ok) rfl rfl ?_
 simp (disch := omega) [VY]
 refine VX_loop3 (σ := Nat) (f1 := _) (es0 := _) (by simp (disch := omega) [VY]; rfl) (by simp (disch := omega) [VY]; rfl) (fun k => [(46, .val false [.int .i64 k]), (7, .box (ivs (arr b k)))]) (fun _ => []) (fun k g => g + k = 16) 0 16 (by simp (disch := omega) [ivs, arr, wsch, VY]) (by simp (disch := omega) [VY]) (by omega) ?_
 rintro k n g hg
 simp (disch := omega) [VY]
 refine VXB_dec (fun h2 => ?_) (fun h2 => ?_)
 ·have hk : k < 16 := by omega
  have q1 : ((4 : Int) * (k : Int)).toNat = 4 * k := by omega
  have q2 : ((4 : Int) * (k : Int) + 1).toNat = 4 * k + 1 := by omega
  have q3 : ((4 : Int) * (k : Int) + 2).toNat = 4 * k + 2 := by omega
  have q4 : ((4 : Int) * (k : Int) + 3).toNat = 4 * k + 3 := by omega
  have p1 : (0 : Int) ≤ (4 : Int) * (k : Int) ∧ (0 : Int) ≤ (4 : Int) * (k : Int) + 1 ∧ (0 : Int) ≤ (4 : Int) * (k : Int) + 2 ∧ (0 : Int) ≤ (4 : Int) * (k : Int) + 3 := by omega
  obtain ⟨p1, p2, p3, p4⟩ := p1
  have r1 := gb_range b (4 * k)
  have r2 := gb_range b (4 * k + 1)
  have r3 := gb_range b (4 * k + 2)
  have r4 := gb_range b (4 * k + 3)
  have p5 : (k : Int) < 64 := by omega
  have p6 : k ≤ 63 := by omega
  have e1 := arr_len b (show k ≤ 64 by omega)
  have e2 := fun x => arr_set b (show k < 64 by omega) x
  simp (disch := omega) [bytes_len, hb, q1, q2, q3, q4, p1, p2, p3, p4, p5, p6, e1, e2, gb_get (show 4 * k < b.length by omega), gb_get (show 4 * k + 1 < b.length by omega), gb_get (show 4 * k + 2 < b.length by omega), gb_get (show 4 * k + 3 < b.length by omega), VY]
  exact ⟨k + 1, g - 1, by omega, by omega, ⟨arr_next1 b hk, by omega⟩⟩
 have hk : k = 16 := by omega
 subst hk
 simp (disch := omega) [VY]
 refine VX_loop3 (σ := Nat) (f1 := _) (es0 := _) (by simp (disch := omega) [VY]; rfl) (by simp (disch := omega) [VY]; rfl) (fun k => [(11, .val false [.int .i64 k]), (7, .box (ivs (arr b k)))]) (fun _ => []) (fun k g => g + k = 64 ∧ 16 ≤ k) 16 48 (by simp (disch := omega) [VY]) (by simp (disch := omega) [VY]) (by omega) ?_
 rintro k n g hg
 simp (disch := omega) [VY]
 refine VXB_dec (fun h3 => ?_) (fun h3 => ?_)
 ·have hk : k < 64 := by omega
  obtain ⟨p1, p2, p3⟩ : (15 : Int) ≤ (k : Int) ∧ ((k : Int) - 15).toNat = k - 15 ∧ (k : Int) - 15 < 64 := by omega
  obtain ⟨p4, p5, p6⟩ : (2 : Int) ≤ (k : Int) ∧ ((k : Int) - 2).toNat = k - 2 ∧ (k : Int) - 2 < 64 := by omega
  obtain ⟨p7, p8, p9⟩ : (16 : Int) ≤ (k : Int) ∧ ((k : Int) - 16).toNat = k - 16 ∧ (k : Int) - 16 < 64 := by omega
  obtain ⟨q1, q2, q3⟩ : (7 : Int) ≤ (k : Int) ∧ ((k : Int) - 7).toNat = k - 7 ∧ (k : Int) - 7 < 64 := by omega
  have p10 : (k : Int) < 64 := by omega
  have p11 : k ≤ 63 := by omega
  obtain ⟨t1, t2, t3, t4⟩ : k ≤ 78 ∧ k ≤ 65 ∧ k ≤ 79 ∧ k ≤ 70 := by omega
  have e1 := arr_len b (show k ≤ 64 by omega)
  have e2 := fun x => arr_set b (show k < 64 by omega) x
  have g1 := arr_get b (show k ≤ 64 by omega) (show k - 15 < k by omega)
  have g2 := arr_get b (show k ≤ 64 by omega) (show k - 2 < k by omega)
  have g3 := arr_get b (show k ≤ 64 by omega) (show k - 16 < k by omega)
  have g4 := arr_get b (show k ≤ 64 by omega) (show k - 7 < k by omega)
  have hwl := wsch_len b k
  have w1 := wsch_word b k _ (gi_mem (show k - 15 < (wsch b k).length by omega))
  have w2 := wsch_word b k _ (gi_mem (show k - 2 < (wsch b k).length by omega))
  simp (disch := omega) [e1, p1, p2, p3, p4, p5, p6, g1, g2, t1, t2, VY]
  refine VXC_e (TurnRight_ok _ 7 (by omega) w1) rfl rfl ?_
  simp (disch := omega) [VY]
  refine VXC_e (TurnRight_ok _ 18 (by omega) w1) rfl rfl ?_
  simp (disch := omega) [VY]
  refine VXC_e (TurnRight_ok _ 17 (by omega) w2) rfl rfl ?_
  simp (disch := omega) [VY]
  refine VXC_e (TurnRight_ok _ 19 (by omega) w2) rfl rfl ?_
  simp (disch := omega) [e1, e2, p7, p8, p9, q1, q2, q3, p10, p11, g3, g4, t3, t4, VY]
  exact ⟨k + 1, g - 1, by omega, by omega, arr_next2 b (by omega), by omega⟩
 have hk : k = 64 := by omega
 subst hk
 have c1 : ((ints h).take 8).flatten = ivs h := by rw [List.take_of_length_le (by rw [ints_len]; omega)]; exact flat_one h
 have c2 : setL [.int .i64 0, .int .i64 0, .int .i64 0, .int .i64 0, .int .i64 0, .int .i64 0, .int .i64 0, .int .i64 0] 0 (ivs h) = ivs h := setL_allD (by rw [ivs_len, hl]; rfl)
 simp (disch := omega) [ints_len, hl, flat_ints, wid_ints, c1, c2, VY]
 refine VX_loop3 (σ := Nat × Nat) (f1 := _) (es0 := _) (by simp (disch := omega) [VY]; rfl) (by simp (disch := omega) [VY]; rfl) (fun p => [(132, .val false [.int .i64 p.1]), (9, .val false [.pt 9 p.2 0])]) (fun p => [(9, .pt p.2 261 (ivs (rnds h b p.1)))]) (fun p g => g + p.1 = 64) (0, _) 64 (by simp (disch := omega) [VY]; rfl) (by simp (disch := omega) [rnds, VY]) (by omega) ?_
 rintro ⟨k, v⟩ n g hg
 simp only at hg
 simp (disch := omega) [VY]
 refine VXB_dec (fun h4 => ?_) (fun h4 => ?_)
 ·have hk : k < 64 := by omega
  have hv := rnds_len hl b k
  have e1 : (ivs (rnds h b k)).length = 8 := by rw [ivs_len, hv]
  have e2 : (ints kk).length = 64 := rfl
  have e3 := arr_len b (show 64 ≤ 64 by omega)
  have p1 : (k : Int) < 64 := by omega
  have p2 : k ≤ 63 := by omega
  have g1 : ∀ i, i < 8 → ((ivs (rnds h b k)).drop i).take 1 = [.int .i64 (gi (rnds h b k) i)] := fun i hi => ivs_get (by omega)
  have g2 := arr_get b (show 64 ≤ 64 by omega) hk
  have g0 : (ivs (rnds h b k)).take 1 = [.int .i64 (gi (rnds h b k) 0)] := g1 0 (by omega)
  have w1 := rnds_word hl hw b k _ (gi_mem (show 4 < (rnds h b k).length by omega))
  have w2 := rnds_word hl hw b k _ (gi_mem (show 0 < (rnds h b k).length by omega))
  have g01 : (ivs (rnds h b k)).tail.take 1 = [.int .i64 (gi (rnds h b k) 1)] := by have := g1 1 (by omega); simpa using this
  simp (disch := omega) [e1, e2, e3, g0, g01, g1, g2, ints_ge, p1, p2, VY]
  refine VXC_e (TurnRight_ok _ 6 (by omega) w1) rfl rfl ?_
  simp (disch := omega) [VY]
  refine VXC_e (TurnRight_ok _ 11 (by omega) w1) rfl rfl ?_
  simp (disch := omega) [VY]
  refine VXC_e (TurnRight_ok _ 25 (by omega) w1) rfl rfl ?_
  simp (disch := omega) [e1, e2, e3, g0, g01, g1, g2, ints_ge, p1, p2, VY]
  refine VXC_e (TurnRight_ok _ 2 (by omega) w2) rfl rfl ?_
  simp (disch := omega) [VY]
  refine VXC_e (TurnRight_ok _ 13 (by omega) w2) rfl rfl ?_
  simp (disch := omega) [VY]
  refine VXC_e (TurnRight_ok _ 22 (by omega) w2) rfl rfl ?_
  have hset : ∀ a b' c d e f g' h', setL (ivs (rnds h b k)) 0 [a, b', c, d, e, f, g', h'] = [a, b', c, d, e, f, g', h'] := fun _ _ _ _ _ _ _ _ => setL_allD (by rw [e1]; rfl)
  simp (disch := omega) [e1, e2, e3, g0, g01, g1, g2, ints_ge, p1, p2, hset, VY]
  simp only [ch_eq w1, maj_eq]
  exact ⟨k + 1, _, g - 1, by omega, by omega, ⟨rfl, by omega⟩, rfl, rfl⟩
 have hk : k = 64 := by omega
 subst hk
 simp (disch := omega) [VY]
 refine VX_loop3 (σ := Nat × Nat) (f1 := _) (es0 := _) (by simp (disch := omega) [VY]; rfl) (by simp (disch := omega) [VY]; rfl) (fun p => [(218, .val false [.int .i64 p.1]), (23, .val false [.ow 217 p.2])]) (fun p => [(217, .sl p.2 true true (some (3, 1)) (ints ((shaB h b).take p.1)))])
  (fun p g => g + p.1 = 8) (0, _) 8 (by simp (disch := omega) [VY]; rfl) (by simp (disch := omega) [ints, VY]) (by omega) ?_
 rintro ⟨k, w⟩ n g hg
 simp only at hg
 simp (disch := omega) [VY]
 refine VXB_dec (fun h5 => ?_) (fun h5 => ?_)
 ·have hk : k < 8 := by omega
  have hv := rnds_len hl b 64
  have e1 : (ivs (rnds h b 64)).length = 8 := by rw [ivs_len, hv]
  have e2 : (ints h).length = 8 := by rw [ints_len, hl]
  have e3 : (ints ((shaB h b).take k)).length = k := by rw [ints_len]; simp [shaB]; omega
  have p1 : (k : Int) < 8 := by omega
  have p2 : k ≤ 7 := by omega
  have g1 : ((ivs (rnds h b 64)).drop k).take 1 = [.int .i64 (gi (rnds h b 64) k)] := ivs_get (by omega)
  simp (disch := omega) [e1, e2, e3, g1, p1, p2, ints_ge, flat_ints, wid_ints, VY]
  exact ⟨k + 1, _, g - 1, by omega, by omega, ⟨rfl, by omega⟩, rfl, shaB_take h b hk⟩
 ·have hk : k = 8 := by omega
  subst hk
  simp (disch := omega) [VY]
  rw [List.take_of_length_le (by simp [shaB])]
end Go.Eng.F
