/-
  Functions: limits, hashes, bitmaps.
-/
import Derived.Test.YtkhciaoemhfhbaaFnA
set_option maxRecDepth 100000
set_option linter.unusedSimpArgs false
set_option linter.unusedVariables false
namespace Go.Eng.F
def bss (l : List Bytes) : List (List D) := l.map fun x => [.sl (bytes x)]
theorem bss_len (l : List Bytes) : (bss l).length = l.length := by simp [bss]
theorem bss_get {l : List Bytes} {i : Nat} (h : i < l.length) : (bss l)[i]? = some [.sl (bytes l[i])] := by simp [bss, h]
theorem bytes_get {x : Bytes} {i : Nat} (h : i < x.length) : (bytes x)[i]? = some [.int .u8 (x[i].toNat : Int)] := by simp [bytes, h]
theorem take_all {α : Type} {p : α → Prop} {l : List α} {i : Nat} (h : ∀ x ∈ l.take i, p x) (hi : i < l.length) (hx : p l[i]) : ∀ x ∈ l.take (i + 1), p x := by
  intro x hm
  rw [List.take_add_one, List.getElem?_eq_getElem hi] at hm
  rcases List.mem_append.1 hm with hm | hm
  · exact h x hm
  · simp at hm; subst hm; exact hx
def inn (n lo hi : Int) : Bool := decide (lo ≤ n ∧ n ≤ hi)
theorem within_ok (n lo hi : Int) : VC cd n_impl_within (mkP [(false, [.int .i64 n]), (false, [.int .i64 lo]), (false, [.int .i64 hi])]) (fun rs _ => rs = bl (inn n lo hi)) := by
  refine VC_enter k_impl_within rfl ?_
  simp (disch := omega) [c_impl_within, VE, VXR, VP, VB, kof, bl, it]
  refine VXB_dec (fun h1 => ?_) (fun h1 => ?_) <;> simp (disch := omega) [h1, inn, VE, VXR, VP, VB, kof, bl, it]
theorem l01In_ok (n lo hi : Int) : VC cd n_spec_l01In (mkP [(false, [.int .i64 n]), (false, [.int .i64 lo]), (false, [.int .i64 hi])]) (fun rs _ => rs = bl (inn n lo hi)) := by
  refine VC_enter k_spec_l01In rfl ?_
  simp (disch := omega) [c_spec_l01In, VE, VXR, VP, VB, kof, bl, it]
  refine VXB_dec (fun h1 => ?_) (fun h1 => ?_) <;> simp (disch := omega) [h1, inn, VE, VXR, VP, VB, kof, bl, it]
structure Lim where
  n : Int
  tx : Int
  txs : Int
  frame : Int
  heads : Int
def Lim.c (l : Lim) : List D := [.int .i64 l.n, .int .i64 l.tx, .int .i64 l.txs, .int .i64 l.frame, .int .i64 l.heads]
def Lim.ok (l : Lim) : Bool := inn l.n 1 10 && inn l.tx 0 40 && inn l.txs 0 8 && inn l.frame 1 4000 && inn l.heads 3 5
theorem impl_LimitsOk_ok (l : Lim) : VC cd n_impl_LimitsOk (mkP [(true, l.c)]) (fun rs _ => rs = bl l.ok) := by
  refine VC_enter k_impl_LimitsOk rfl ?_
  simp (disch := omega) [c_impl_LimitsOk, Lim.c, VE, VXR, VP, VB, kof, bl, it]
  refine VXC_e (within_ok _ _ _) rfl rfl ?_
  simp (disch := omega) [VE, VXR, VP, VB, kof, bl, it]
  refine VXB_b (fun h1 => ?_) (fun h1 => ?_) <;> simp (disch := omega) [h1, Lim.ok, VE, VXR, VP, VB, kof, bl, it]
  refine VXC_e (within_ok _ _ _) rfl rfl ?_
  simp (disch := omega) [h1, VE, VXR, VP, VB, kof, bl, it]
  refine VXB_b (fun h2 => ?_) (fun h2 => ?_) <;> simp (disch := omega) [h1, h2, VE, VXR, VP, VB, kof, bl, it]
  refine VXC_e (within_ok _ _ _) rfl rfl ?_
  simp (disch := omega) [h1, h2, VE, VXR, VP, VB, kof, bl, it]
  refine VXB_b (fun h3 => ?_) (fun h3 => ?_) <;> simp (disch := omega) [h1, h2, h3, VE, VXR, VP, VB, kof, bl, it]
  refine VXC_e (within_ok _ _ _) rfl rfl ?_
  simp (disch := omega) [h1, h2, h3, VE, VXR, VP, VB, kof, bl, it]
  refine VXB_b (fun h4 => ?_) (fun h4 => ?_) <;> simp (disch := omega) [h1, h2, h3, h4, VE, VXR, VP, VB, kof, bl, it]
  refine VXC_e (within_ok _ _ _) rfl rfl ?_
  simp (disch := omega) [h1, h2, h3, h4, VE, VXR, VP, VB, kof, bl, it]
theorem spec_l02Signers_ok (n : Int) : VC cd n_spec_l02Signers (mkP [(false, [.int .i64 n])]) (fun rs _ => rs = bl (inn n 1 10)) := by
  refine VC_enter k_spec_l02Signers rfl ?_
  simp (disch := omega) [c_spec_l02Signers, VE, VXR, VP, VB, kof, bl, it]
  refine VXC_e (l01In_ok _ _ _) rfl rfl ?_
  simp (disch := omega) [VE, VXR, VP, VB, kof, bl, it]
theorem spec_LimitsOk_ok (l : Lim) : VC cd n_spec_LimitsOk (mkP [(true, l.c)]) (fun rs _ => rs = bl l.ok) := by
  refine VC_enter k_spec_LimitsOk rfl ?_
  simp (disch := omega) [c_spec_LimitsOk, Lim.c, VE, VXR, VP, VB, kof, bl, it]
  refine VXC_e (spec_l02Signers_ok _) rfl rfl ?_
  simp (disch := omega) [VE, VXR, VP, VB, kof, bl, it]
  refine VXB_b (fun h1 => ?_) (fun h1 => ?_) <;> simp (disch := omega) [h1, Lim.ok, VE, VXR, VP, VB, kof, bl, it]
  refine VXC_e (l01In_ok _ _ _) rfl rfl ?_
  simp (disch := omega) [h1, VE, VXR, VP, VB, kof, bl, it]
  refine VXB_b (fun h2 => ?_) (fun h2 => ?_) <;> simp (disch := omega) [h1, h2, VE, VXR, VP, VB, kof, bl, it]
  refine VXC_e (l01In_ok _ _ _) rfl rfl ?_
  simp (disch := omega) [h1, h2, VE, VXR, VP, VB, kof, bl, it]
  refine VXB_b (fun h3 => ?_) (fun h3 => ?_) <;> simp (disch := omega) [h1, h2, h3, VE, VXR, VP, VB, kof, bl, it]
  refine VXC_e (l01In_ok _ _ _) rfl rfl ?_
  simp (disch := omega) [h1, h2, h3, VE, VXR, VP, VB, kof, bl, it]
  refine VXB_b (fun h4 => ?_) (fun h4 => ?_) <;> simp (disch := omega) [h1, h2, h3, h4, VE, VXR, VP, VB, kof, bl, it]
  refine VXC_e (l01In_ok _ _ _) rfl rfl ?_
  simp (disch := omega) [h1, h2, h3, h4, VE, VXR, VP, VB, kof, bl, it]
def isNum (n : Int) : Bool := inn n 0 1152921504606846975
theorem isNum_ok (n : Int) : VC cd n_impl_isNum (mkP [(false, [.int .i64 n])]) (fun rs _ => rs = bl (isNum n)) := by
  refine VC_enter k_impl_isNum rfl ?_
  simp (disch := omega) [c_impl_isNum, VE, VXR, VP, VB, kof, bl, it]
  refine VXC_e (within_ok _ _ _) rfl rfl ?_
  simp (disch := omega) [isNum, VE, VXR, VP, VB, kof, bl, it]
theorem l01Num_ok (n : Int) : VC cd n_spec_l01Num (mkP [(false, [.int .i64 n])]) (fun rs _ => rs = bl (isNum n)) := by
  refine VC_enter k_spec_l01Num rfl ?_
  simp (disch := omega) [c_spec_l01Num, VE, VXR, VP, VB, kof, bl, it]
  refine VXC_e (l01In_ok _ _ _) rfl rfl ?_
  simp (disch := omega) [isNum, VE, VXR, VP, VB, kof, bl, it]
def hash (x : Bytes) : Bool := x.length == 32
def hashes (l : List Bytes) : Bool := l.all hash
theorem hashes_of {l : List Bytes} (h : ∀ x ∈ l.take l.length, hash x = true) : hashes l = true := by
  rw [List.take_length] at h
  simpa [hashes] using h
theorem hashes_no {l : List Bytes} {i : Nat} (hi : i < l.length) (h : hash l[i] = false) : hashes l = false := by
  simp only [hashes, List.all_eq_false]
  exact ⟨l[i], List.getElem_mem hi, by simp [h]⟩
theorem areHashes_ok (l : List Bytes) (hl : l.length ≤ 1099511627776) : VC cd n_impl_areHashes (mkP [(false, [.sl (bss l)])]) (fun rs _ => rs = bl (hashes l)) := by
  refine VC_enter k_impl_areHashes rfl ?_
  simp (disch := omega) [c_impl_areHashes, bss_len, VE, VXR, VP, VB, kof, bl, it]
  refine VX_loop2 (σ := Nat) (f1 := _) (by simp (disch := omega) [VE, VXR, VP, VB, kof, bl, it]; rfl) (fun i => [(7, .val false [.int .i64 i])]) (fun _ => []) (fun i g => g + i = l.length ∧ ∀ x ∈ l.take i, hash x = true) 0 l.length (by simp (disch := omega) [VE, VXR, VP, VB, kof, bl, it]) trivial ⟨by omega, by simp⟩ ?_
  rintro i n g ⟨hg, hi⟩
  simp (disch := omega) [bss_len, VE, VXR, VP, VB, kof, bl, it]
  refine VXB_dec (fun h1 => ?_) (fun h1 => ?_)
  · simp (disch := omega) [bss_get h1, VE, VXR, VP, VB, kof, bl, it]
    refine VXB_dec (fun h2 => ?_) (fun h2 => ?_)
    · simp (disch := omega) [VE, VXR, VP, VB, kof, bl, it]
      exact ⟨i + 1, g - 1, by omega, ⟨by omega, take_all hi h1 (by simp [hash]; omega)⟩, by simp⟩
    · simp (disch := omega) [VE, VXR, VP, VB, kof, bl, it]
      exact hashes_no h1 (by simp [hash]; omega)
  · simp (disch := omega) [VE, VXR, VP, VB, kof, bl, it]
    have : i = l.length := by omega
    subst this
    exact hashes_of hi
theorem l07Hash_ok (x : Bytes) : VC cd n_spec_l07Hash (mkP [(false, [.sl (bytes x)])]) (fun rs _ => rs = bl (hash x)) := by
  refine VC_enter k_spec_l07Hash rfl ?_
  simp (disch := omega) [c_spec_l07Hash, hash, VE, VXR, VP, VB, kof, bl, it]
  rw [Bool.eq_iff_iff]
  simp only [decide_eq_true_eq, beq_iff_eq]
  omega
theorem l08Hashes_ok (l : List Bytes) (hl : l.length ≤ 1099511627776) : VC cd n_spec_l08Hashes (mkP [(false, [.sl (bss l)])]) (fun rs _ => rs = bl (hashes l)) := by
  refine VC_enter k_spec_l08Hashes rfl ?_
  simp (disch := omega) [c_spec_l08Hashes, bss_len, VE, VXR, VP, VB, kof, bl, it]
  refine VX_loop2 (σ := Nat) (f1 := _) (by simp (disch := omega) [VE, VXR, VP, VB, kof, bl, it]; rfl) (fun i => [(7, .val false [.int .i64 i])]) (fun _ => []) (fun i g => g + i = l.length ∧ ∀ x ∈ l.take i, hash x = true) 0 l.length (by simp (disch := omega) [VE, VXR, VP, VB, kof, bl, it]) trivial ⟨by omega, by simp⟩ ?_
  rintro i n g ⟨hg, hi⟩
  simp (disch := omega) [bss_len, VE, VXR, VP, VB, kof, bl, it]
  refine VXB_dec (fun h1 => ?_) (fun h1 => ?_)
  · simp (disch := omega) [bss_get h1, VE, VXR, VP, VB, kof, bl, it]
    refine VXC_e (l07Hash_ok _) rfl rfl ?_
    simp (disch := omega) [VE, VXR, VP, VB, kof, bl, it]
    refine VXB_b (fun h2 => ?_) (fun h2 => ?_)
    · simp (disch := omega) [VE, VXR, VP, VB, kof, bl, it]
      exact ⟨i + 1, g - 1, by omega, ⟨by omega, take_all hi h1 h2⟩, by simp⟩
    · simp (disch := omega) [VE, VXR, VP, VB, kof, bl, it]
      exact hashes_no h1 h2
  · simp (disch := omega) [VE, VXR, VP, VB, kof, bl, it]
    have : i = l.length := by omega
    subst this
    exact hashes_of hi
/-! ### Bitmaps -/
def bsz (n : Int) : Int := if n < 1 then 0 else (n - 1) / 8 + 1
theorem impl_BitsSize_ok (n : Int) (h1 : -9223372036854775808 ≤ n) (h2 : n < 9223372036854775808) : VC cd n_impl_BitsSize (mkP [(false, [.int .i64 n])]) (fun rs _ => rs = it (bsz n)) := by
  refine VC_enter k_impl_BitsSize rfl ?_
  simp (disch := omega) [c_impl_BitsSize, VE, VXR, VP, VB, kof, bl, it]
  refine VXB_dec (fun h3 => ?_) (fun h3 => ?_)
  · simp (disch := omega) [bsz, h3, VE, VXR, VP, VB, kof, bl, it]
  · have e : (n - 1).tdiv 8 = (n - 1) / 8 := Int.tdiv_eq_ediv_of_nonneg (by omega)
    simp (disch := omega) [bsz, e, VE, VXR, VP, VB, kof, bl, it]
    omega
theorem spec_BitsSize_ok (n : Int) (h1 : -9223372036854775808 ≤ n) (h2 : n < 9223372036854775808) : VC cd n_spec_BitsSize (mkP [(false, [.int .i64 n])]) (fun rs _ => rs = it (bsz n)) := by
  refine VC_enter k_spec_BitsSize rfl ?_
  simp (disch := omega) [c_spec_BitsSize, VE, VXR, VP, VB, kof, bl, it]
  refine VXB_dec (fun h3 => ?_) (fun h3 => ?_)
  · simp (disch := omega) [bsz, h3, VE, VXR, VP, VB, kof, bl, it]
  · have e : (n - 1).tdiv 8 = (n - 1) / 8 := Int.tdiv_eq_ediv_of_nonneg (by omega)
    simp (disch := omega) [bsz, e, VE, VXR, VP, VB, kof, bl, it]
    omega
/-- Is bit i set? -/
def hasBit (b : Bytes) (i : Nat) : Bool := match b[i / 8]? with | some x => x.toNat.testBit (i % 8) | none => false
theorem bit_impl : ∀ x < 256, ∀ s < 8, decide (bits2 .and .u8 (Int.fdiv (x : Nat) (2 ^ (min s 8))) 1 = 1) = Nat.testBit x s := by decide +kernel
theorem bit_spec : ∀ x < 256, ∀ s < 8, decide (Int.tmod (Int.fdiv (x : Nat) (2 ^ (min s 64))) 2 = 1) = Nat.testBit x s := by decide +kernel
theorem tdiv8 (i : Nat) : Int.tdiv (i : Int) 8 = ((i / 8 : Nat) : Int) := by rw [Int.tdiv_eq_ediv_of_nonneg (by omega)]; omega
theorem tmod8 (i : Nat) : Int.tmod (i : Int) 8 = ((i % 8 : Nat) : Int) := by rw [Int.tmod_eq_emod_of_nonneg (by omega)]; omega
theorem u8lt (x : UInt8) : x.toNat < 256 := x.toNat_lt
theorem hasBit_in {b : Bytes} {i : Nat} (h : i / 8 < b.length) : hasBit b i = b[i / 8].toNat.testBit (i % 8) := by simp [hasBit, h]
theorem hasBit_out {b : Bytes} {i : Nat} (h : ¬ i / 8 < b.length) : hasBit b i = false := by
  unfold hasBit
  rw [List.getElem?_eq_none (by omega)]
theorem nat8 (i : Nat) : (0 : Int) ≤ (i : Int) / 8 ∧ ((i : Int) / 8).toNat = i / 8 ∧ ¬ (i : Int) % 8 < 0 ∧ ((i : Int) % 8).toNat = i % 8 := by omega
theorem impl_BitsHas_ok (b : Bytes) (i : Nat) (hb : b.length ≤ 1099511627776) (hi : i ≤ 1099511627776) : VC cd n_impl_BitsHas (mkP [(false, [.sl (bytes b)]), (false, [.int .i64 i])]) (fun rs _ => rs = bl (hasBit b i)) := by
  refine VC_enter k_impl_BitsHas rfl ?_
  simp (disch := omega) [c_impl_BitsHas, VE, VXR, VP, VB, kof, bl, it]
  refine VXC_e (within_ok _ _ _) rfl rfl ?_
  simp (disch := omega) [VE, VXR, VP, VB, kof, bl, it]
  refine VXB_b (fun h1 => ?_) (fun h1 => ?_)
  · have hx : i / 8 < b.length := by simp [inn] at h1; omega
    have e := bit_impl b[i / 8].toNat (u8lt _) (i % 8) (Nat.mod_lt _ (by omega))
    rw [hasBit_in hx, ← e]
    simp (disch := omega) [h1, tdiv8, tmod8, bytes_get hx, nat8 i, IntKind.bits, VE, VXR, VP, VB, kof, bl, it]
  · simp (disch := omega) [h1, VE, VXR, VP, VB, kof, bl, it]
    refine hasBit_out ?_
    simp [inn] at h1
    omega
theorem spec_BitsHas_ok (b : Bytes) (i : Nat) (hb : b.length ≤ 1099511627776) (hi : i ≤ 1099511627776) : VC cd n_spec_BitsHas (mkP [(false, [.sl (bytes b)]), (false, [.int .i64 i])]) (fun rs _ => rs = bl (hasBit b i)) := by
  refine VC_enter k_spec_BitsHas rfl ?_
  simp (disch := omega) [c_spec_BitsHas, tdiv8, VE, VXR, VP, VB, kof, bl, it]
  refine VXB_dec (fun h1 => ?_) (fun h1 => ?_)
  · have hx : i / 8 < b.length := by omega
    have e := bit_spec b[i / 8].toNat (u8lt _) (i % 8) (Nat.mod_lt _ (by omega))
    have hw : IntKind.i64.wrap (b[i / 8].toNat : Int) = b[i / 8].toNat := w64 (by omega) (by have := u8lt b[i / 8]; omega)
    rw [hasBit_in hx, ← e]
    simp (disch := omega) [h1, tdiv8, tmod8, bytes_get hx, nat8 i, hw, IntKind.bits, VE, VXR, VP, VB, kof, bl, it]
  · simp (disch := omega) [h1, VE, VXR, VP, VB, kof, bl, it]
    exact hasBit_out (by omega)
/-! ### The set bits -/
def bitsList (b : Bytes) : List Nat := (List.range (8 * b.length)).filter (hasBit b)
def nats (l : List Nat) : List (List D) := l.map fun (n : Nat) => [.int .i64 (n : Int)]
theorem nats_len (l : List Nat) : (nats l).length = l.length := by simp [nats]
theorem flat_nats (l : List Nat) : flat (nats l) = true := by
  induction l with
  | nil => rfl
  | cons n l ih => simp only [nats, List.map_cons, flat, leafs, D.leaf] at ih ⊢; simpa using ih
theorem wid_nats (l : List Nat) : wid 1 (nats l) = true := by
  induction l with
  | nil => rfl
  | cons n l ih => simp only [nats, List.map_cons, wid] at ih ⊢; simpa using ih
theorem nats_snoc (l : List Nat) (n : Nat) : nats l ++ [[.int .i64 (n : Int)]] = nats (l ++ [n]) := by simp [nats]
theorem nats_get {l : List Nat} {i : Nat} (h : i < l.length) : (nats l)[i]? = some [.int .i64 (l[i] : Int)] := by simp [nats, h]
theorem filter_succ (p : Nat → Bool) (i : Nat) : (List.range (i + 1)).filter p = (List.range i).filter p ++ (if p i = true then [i] else []) := by
  rw [List.range_succ, List.filter_append]
  congr 1
  cases h : p i <;> simp [h]
theorem filter_le (p : Nat → Bool) (i : Nat) : ((List.range i).filter p).length ≤ i := by
  have := List.length_filter_le p (List.range i)
  simpa using this
theorem impl_BitsList_ok (b : Bytes) (hb : b.length ≤ 1073741824) : VC cd n_impl_BitsList (mkP [(false, [.sl (bytes b)])]) (fun rs _ => rs = [(false, [.o true (some (3, 1)) (nats (bitsList b))])]) := by
  refine VC_enter k_impl_BitsList rfl ?_
  simp (disch := omega) [c_impl_BitsList, VE, VXR, VP, VB, kof, bl, it]
  refine VX_loop2 (σ := Nat × Nat) (f1 := _) (by simp (disch := omega) [VE, VXR, VP, VB, kof, bl, it]; rfl) (fun p => [(9, .val false [.int .i64 p.1]), (3, .val false [.ow 5 p.2])]) (fun p => [(5, .sl p.2 true true (some (3, 1)) (nats ((List.range p.1).filter (hasBit b))))])
    (fun p g => g + p.1 = 8 * b.length) (0, 1) (8 * b.length) (by simp (disch := omega) [VE, VXR, VP, VB, kof, bl, it]) (by simp (disch := omega) [nats, VE, VXR, VP, VB, kof, bl, it]) (by omega) ?_
  rintro ⟨i, v⟩ n g hg
  simp only at hg
  simp (disch := omega) [VE, VXR, VP, VB, kof, bl, it]
  refine VXB_dec (fun h1 => ?_) (fun h1 => ?_)
  · simp (disch := omega) [VE, VXR, VP, VB, kof, bl, it]
    refine VXC_e (impl_BitsHas_ok b i (by omega) (by omega)) rfl rfl ?_
    simp (disch := omega) [VE, VXR, VP, VB, kof, bl, it]
    refine VXB_b (fun h2 => ?_) (fun h2 => ?_)
    · have hl := filter_le (hasBit b) i
      simp (disch := omega) [nats_len, wid_nats, flat_nats, VE, VXR, VP, VB, kof, bl, it]
      exact ⟨i + 1, n + 1, g - 1, by omega, by omega, ⟨rfl, by omega⟩, rfl, by rw [filter_succ, h2, if_pos rfl, ← nats_snoc]⟩
    · simp (disch := omega) [VE, VXR, VP, VB, kof, bl, it]
      exact ⟨i + 1, v, g - 1, by omega, by omega, ⟨rfl, by omega⟩, rfl, by rw [filter_succ, h2]; simp⟩
  · simp (disch := omega) [VE, VXR, VP, VB, kof, bl, it]
    have : i = 8 * b.length := by omega
    subst this
    rfl
theorem spec_BitsList_ok (b : Bytes) (hb : b.length ≤ 1073741824) : VC cd n_spec_BitsList (mkP [(false, [.sl (bytes b)])]) (fun rs _ => rs = [(false, [.o true (some (3, 1)) (nats (bitsList b))])]) := by
  refine VC_enter k_spec_BitsList rfl ?_
  simp (disch := omega) [c_spec_BitsList, VE, VXR, VP, VB, kof, bl, it]
  refine VX_loop2 (σ := Nat × Nat) (f1 := _) (by simp (disch := omega) [VE, VXR, VP, VB, kof, bl, it]; rfl) (fun p => [(4, .val false [.int .i64 p.1]), (3, .val false [.ow 5 p.2])]) (fun p => [(5, .sl p.2 true true (some (3, 1)) (nats ((List.range p.1).filter (hasBit b))))])
    (fun p g => g + p.1 = 8 * b.length) (0, 1) (8 * b.length) (by simp (disch := omega) [VE, VXR, VP, VB, kof, bl, it]) (by simp (disch := omega) [nats, VE, VXR, VP, VB, kof, bl, it]) (by omega) ?_
  rintro ⟨i, v⟩ n g hg
  simp only at hg
  simp (disch := omega) [VE, VXR, VP, VB, kof, bl, it]
  refine VXB_dec (fun h1 => ?_) (fun h1 => ?_)
  · simp (disch := omega) [VE, VXR, VP, VB, kof, bl, it]
    refine VXC_e (spec_BitsHas_ok b i (by omega) (by omega)) rfl rfl ?_
    simp (disch := omega) [VE, VXR, VP, VB, kof, bl, it]
    refine VXB_b (fun h2 => ?_) (fun h2 => ?_)
    · have hl := filter_le (hasBit b) i
      simp (disch := omega) [nats_len, wid_nats, flat_nats, VE, VXR, VP, VB, kof, bl, it]
      exact ⟨i + 1, n + 1, g - 1, by omega, by omega, ⟨by omega, rfl⟩, rfl, by rw [filter_succ, h2, if_pos rfl, ← nats_snoc]⟩
    · simp (disch := omega) [VE, VXR, VP, VB, kof, bl, it]
      exact ⟨i + 1, v, g - 1, by omega, by omega, ⟨by omega, rfl⟩, rfl, by rw [filter_succ, h2]; simp⟩
  · simp (disch := omega) [VE, VXR, VP, VB, kof, bl, it]
    have : i = 8 * b.length := by omega
    subst this
    rfl
def allBelow (l : List Nat) (n : Int) : Bool := l.all fun i => decide ((i : Int) < n)
def bitsOk (b : Bytes) (n : Int) : Bool := inn n 1 10 && decide ((b.length : Int) = bsz n) && allBelow (bitsList b) n
theorem bitsList_len (b : Bytes) : (bitsList b).length ≤ 8 * b.length := filter_le _ _
theorem inn_t {n lo hi : Int} (h : inn n lo hi = true) : lo ≤ n ∧ n ≤ hi := by simpa [inn] using h
theorem inn_f {n lo hi : Int} (h : inn n lo hi = false) : n < lo ∨ hi < n := by simp [inn] at h; omega
theorem below_of {l : List Nat} {n : Int} (h : ∀ x ∈ l.take l.length, (x : Int) < n) : allBelow l n = true := by
  rw [List.take_length] at h
  simpa [allBelow] using h
theorem below_no {l : List Nat} {n : Int} {i : Nat} (hi : i < l.length) (h : n ≤ (l[i] : Int)) : allBelow l n = false := by
  simp only [allBelow, List.all_eq_false]
  exact ⟨l[i], List.getElem_mem hi, by simpa using h⟩
theorem impl_BitsOk_ok (b : Bytes) (n : Int) (hb : b.length ≤ 1073741824) (hn : -9223372036854775808 ≤ n ∧ n < 9223372036854775808) : VC cd n_impl_BitsOk (mkP [(false, [.sl (bytes b)]), (false, [.int .i64 n])]) (fun rs _ => rs = bl (bitsOk b n)) := by
  refine VC_enter k_impl_BitsOk rfl ?_
  simp (disch := omega) [c_impl_BitsOk, VE, VXR, VP, VB, kof, bl, it]
  refine VXC_e (within_ok _ _ _) rfl rfl ?_
  simp (disch := omega) [VE, VXR, VP, VB, kof, bl, it]
  refine VXB_b (fun h1 => ?_) (fun h1 => ?_)
  · simp (disch := omega) [h1, VE, VXR, VP, VB, kof, bl, it]
    refine VXC_e (impl_BitsSize_ok _ hn.1 hn.2) rfl rfl ?_
    simp (disch := omega) [h1, VE, VXR, VP, VB, kof, bl, it]
    refine VXB_dec (fun h2 => ?_) (fun h2 => ?_)
    · simp (disch := omega) [h1, h2, VE, VXR, VP, VB, kof, bl, it]
      refine VXC_e (impl_BitsList_ok b hb) rfl rfl ?_
      simp (disch := omega) [nats_len, VE, VXR, VP, VB, kof, bl, it]
      have hl := bitsList_len b
      refine VX_loop3 (σ := Nat) (f1 := _) (es0 := _) (by simp (disch := omega) [VE, VXR, VP, VB, kof, bl, it]; rfl) (by simp (disch := omega) [VE, VXR, VP, VB, kof, bl, it]; rfl) (fun i => [(20, .val false [.int .i64 i])]) (fun _ => []) (fun i g => g + i = (bitsList b).length ∧ ∀ x ∈ (bitsList b).take i, (x : Int) < n) 0 (bitsList b).length (by simp (disch := omega) [VE, VXR, VP, VB, kof, bl, it]) (by simp (disch := omega) [VE, VXR, VP, VB, kof, bl, it]) ⟨by omega, by simp⟩ ?_
      rintro i m g ⟨hg, hi⟩
      simp (disch := omega) [VE, VXR, VP, VB, kof, bl, it]
      refine VXB_dec (fun h3 => ?_) (fun h3 => ?_)
      · have hx : i < (bitsList b).length := by omega
        simp (disch := omega) [nats_get hx, VE, VXR, VP, VB, kof, bl, it]
        refine VXB_dec (fun h4 => ?_) (fun h4 => ?_)
        · simp (disch := omega) [VE, VXR, VP, VB, kof, bl, it]
          simp [bitsOk, h1, h2, below_no hx h4]
        · simp (disch := omega) [VE, VXR, VP, VB, kof, bl, it]
          exact ⟨i + 1, g - 1, by omega, ⟨by omega, take_all hi hx (by omega)⟩, by simp⟩
      · simp (disch := omega) [VE, VXR, VP, VB, kof, bl, it]
        have : i = (bitsList b).length := by omega
        subst this
        simp [bitsOk, h1, h2, below_of hi]
    · simp (disch := omega) [h1, h2, bitsOk, VE, VXR, VP, VB, kof, bl, it]
  · simp (disch := omega) [h1, bitsOk, VE, VXR, VP, VB, kof, bl, it]
theorem pairwise_last {l : List Nat} {n : Int} (hp : l.Pairwise (· < ·)) (hl : 0 < l.length) : allBelow l n = decide ((l[l.length - 1] : Int) < n) := by
  rw [Bool.eq_iff_iff]
  simp only [allBelow, List.all_eq_true, decide_eq_true_eq]
  constructor
  · intro h; exact h _ (List.getElem_mem _)
  · intro h x hx
    obtain ⟨i, hi, rfl⟩ := List.getElem_of_mem hx
    by_cases he : i = l.length - 1
    · subst he; exact h
    · have := List.pairwise_iff_getElem.1 hp i (l.length - 1) hi (by omega) (by omega)
      omega
theorem bitsList_sorted (b : Bytes) : (bitsList b).Pairwise (· < ·) := List.Pairwise.filter _ List.pairwise_lt_range
theorem spec_BitsOk_ok (b : Bytes) (n : Int) (hb : b.length ≤ 1073741824) (hn : -9223372036854775808 ≤ n ∧ n < 9223372036854775808) : VC cd n_spec_BitsOk (mkP [(false, [.sl (bytes b)]), (false, [.int .i64 n])]) (fun rs _ => rs = bl (bitsOk b n)) := by
  refine VC_enter k_spec_BitsOk rfl ?_
  simp (disch := omega) [c_spec_BitsOk, VE, VXR, VP, VB, kof, bl, it]
  refine VXC_e (spec_l02Signers_ok _) rfl rfl ?_
  simp (disch := omega) [VE, VXR, VP, VB, kof, bl, it]
  refine VXB_b (fun h1 => ?_) (fun h1 => ?_)
  · simp (disch := omega) [h1, VE, VXR, VP, VB, kof, bl, it]
    refine VXC_e (spec_BitsSize_ok _ hn.1 hn.2) rfl rfl ?_
    simp (disch := omega) [h1, VE, VXR, VP, VB, kof, bl, it]
    refine VXB_dec (fun h2 => ?_) (fun h2 => ?_)
    · simp (disch := omega) [h1, h2, VE, VXR, VP, VB, kof, bl, it]
      refine VXC_e (spec_BitsList_ok b hb) rfl rfl ?_
      have hl := bitsList_len b
      simp (disch := omega) [nats_len, VE, VXR, VP, VB, kof, bl, it]
      refine VXB_dec (fun h3 => ?_) (fun h3 => ?_)
      · simp (disch := omega) [h3, VE, VXR, VP, VB, kof, bl, it]
        simp [bitsOk, h1, h2, h3, allBelow]
      · have h4 := List.length_pos_iff.2 h3
        have e3 : (1 : Int) ≤ ((bitsList b).length : Int) := by omega
        have hx : (bitsList b).length - 1 < (bitsList b).length := by omega
        have e1 : ((bitsList b).length - 1 : Int).toNat = (bitsList b).length - 1 := by omega
        have e2 : (0 : Int) ≤ ((bitsList b).length : Int) - 1 := by omega
        simp (disch := omega) [h3, nats_len, e1, e2, e3, nats_get hx, VE, VXR, VP, VB, kof, bl, it]
        simp [bitsOk, h1, h2, pairwise_last (bitsList_sorted b) h4]
    · simp (disch := omega) [h1, h2, bitsOk, VE, VXR, VP, VB, kof, bl, it]
  · simp (disch := omega) [h1, bitsOk, VE, VXR, VP, VB, kof, bl, it]
/-! ### How many -/
def ones (x : Nat) : Nat := ((List.range 8).filter (x.testBit)).length
theorem ones_tbl : ∀ x < 256, ((⟨#[0, 1, 1, 2, 1, 2, 2, 3, 1, 2, 2, 3, 2, 3, 3, 4, 1, 2, 2, 3, 2, 3, 3, 4, 2, 3, 3, 4, 3, 4, 4, 5, 1, 2, 2, 3, 2, 3, 3, 4, 2, 3, 3, 4, 3, 4, 4, 5, 2, 3, 3, 4, 3, 4, 4, 5, 3, 4, 4, 5, 4, 5, 5, 6, 1, 2, 2, 3, 2, 3, 3, 4, 2, 3, 3, 4, 3, 4, 4, 5, 2, 3, 3, 4, 3, 4, 4, 5, 3, 4, 4, 5, 4, 5, 5, 6, 2, 3, 3, 4, 3, 4, 4, 5, 3, 4, 4, 5, 4, 5, 5, 6, 3, 4, 4, 5, 4, 5, 5, 6, 4, 5, 5, 6, 5, 6, 6, 7, 1, 2, 2, 3, 2, 3, 3, 4, 2, 3, 3, 4, 3, 4, 4, 5, 2, 3, 3, 4, 3, 4, 4, 5, 3, 4, 4, 5, 4, 5, 5, 6, 2, 3, 3, 4, 3, 4, 4, 5, 3, 4, 4, 5, 4, 5, 5, 6, 3, 4, 4, 5, 4, 5, 5, 6, 4, 5, 5, 6, 5, 6, 6, 7, 2, 3, 3, 4, 3, 4, 4, 5, 3, 4, 4, 5, 4, 5, 5, 6, 3, 4, 4, 5, 4, 5, 5, 6, 4, 5, 5, 6, 5, 6, 6, 7, 3, 4, 4, 5, 4, 5, 5, 6, 4, 5, 5, 6, 5, 6, 6, 7, 4, 5, 5, 6, 5, 6, 6, 7, 5, 6, 6, 7, 6, 7, 7, 8]⟩ : ByteArray).data.toList)[x]? = some (UInt8.ofNat (ones x)) ∧ ones x ≤ 8 := by decide +kernel
theorem OnesCount8_ok (x : UInt8) : VC cd n_math_bits_OnesCount8 (mkP [(false, [.int .u8 x.toNat])]) (fun rs _ => rs = it (ones x.toNat)) := by
  obtain ⟨e1, e2⟩ := ones_tbl x.toNat (u8lt x)
  have e3 : (UInt8.ofNat (ones x.toNat)).toNat = ones x.toNat := by simp; omega
  refine VC_enter k_math_bits_OnesCount8 rfl ?_
  simp (disch := omega) only [c_math_bits_OnesCount8, VE, VXR, VP, VB, kof, List.map_cons, List.map_nil, Int.toNat_natCast, e1, e3, simprocAttr, Int.natCast_nonneg, if_true, it]
theorem count_byte (b : Bytes) (i : Nat) (hi : i < b.length) : ((List.range (8 * (i + 1))).filter (hasBit b)).length = ((List.range (8 * i)).filter (hasBit b)).length + ones b[i].toNat := by
  have h8 : ∀ j < 8, hasBit b (8 * i + j) = b[i].toNat.testBit j := by
    intro j hj
    have e : (8 * i + j) / 8 = i := by omega
    have e2 : (8 * i + j) % 8 = j := by omega
    have := hasBit_in (b := b) (i := 8 * i + j) (by rw [e]; exact hi)
    rw [this, e2]
    simp only [e]
  have e : 8 * (i + 1) = 8 * i + 8 := by omega
  rw [e, List.range_add, List.filter_append, List.length_append]
  congr 1
  unfold ones
  rw [List.filter_map, List.length_map]
  congr 1
  refine List.filter_congr fun j hj => ?_
  simp only [List.mem_range] at hj
  exact h8 j hj
theorem impl_BitsCount_ok (b : Bytes) (hb : b.length ≤ 1073741824) : VC cd n_impl_BitsCount (mkP [(false, [.sl (bytes b)])]) (fun rs _ => rs = it (bitsList b).length) := by
  refine VC_enter k_impl_BitsCount rfl ?_
  simp (disch := omega) [c_impl_BitsCount, VE, VXR, VP, VB, kof, bl, it]
  refine VX_loop3 (σ := Nat) (f1 := _) (es0 := _) (by simp (disch := omega) [VE, VXR, VP, VB, kof, bl, it]; rfl) (by simp (disch := omega) [VE, VXR, VP, VB, kof, bl, it]; rfl) (fun i => [(8, .val false [.int .i64 i]), (3, .val false [.int .i64 ((List.range (8 * i)).filter (hasBit b)).length])]) (fun _ => []) (fun i g => g + i = b.length) 0 b.length (by simp (disch := omega) [VE, VXR, VP, VB, kof, bl, it]) (by simp (disch := omega) [VE, VXR, VP, VB, kof, bl, it]) (by omega) ?_
  rintro i n g hg
  simp (disch := omega) [VE, VXR, VP, VB, kof, bl, it]
  refine VXB_dec (fun h1 => ?_) (fun h1 => ?_)
  · have hx : i < b.length := by omega
    simp (disch := omega) [bytes_get hx, VE, VXR, VP, VB, kof, bl, it]
    refine VXC_e (OnesCount8_ok _) rfl rfl ?_
    have hl := filter_le (hasBit b) (8 * i)
    have ho := (ones_tbl b[i].toNat (u8lt _)).2
    simp (disch := omega) [VE, VXR, VP, VB, kof, bl, it]
    exact ⟨i + 1, g - 1, by omega, by omega, by rw [count_byte b i hx]; omega, by omega⟩
  · simp (disch := omega) [VE, VXR, VP, VB, kof, bl, it]
    have : i = b.length := by omega
    subst this
    rfl
theorem spec_BitsCount_ok (b : Bytes) (hb : b.length ≤ 1073741824) : VC cd n_spec_BitsCount (mkP [(false, [.sl (bytes b)])]) (fun rs _ => rs = it (bitsList b).length) := by
  refine VC_enter k_spec_BitsCount rfl ?_
  simp (disch := omega) [c_spec_BitsCount, VE, VXR, VP, VB, kof, bl, it]
  refine VXC_e (spec_BitsList_ok b hb) rfl rfl ?_
  simp (disch := omega) [nats_len, VE, VXR, VP, VB, kof, bl, it]
end Go.Eng.F
