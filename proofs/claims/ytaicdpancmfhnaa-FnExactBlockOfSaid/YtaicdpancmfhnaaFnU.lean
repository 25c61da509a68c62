/-
  Functions: the hash of a block, with arrays.
-/
import Derived.Test.YtaicdpancmfhnaaFnT
set_option maxRecDepth 100000
set_option linter.unusedSimpArgs false
set_option linter.unusedVariables false
namespace Go.Eng.F
theorem ofInt_wrap (n : Int) : BitVec.ofInt 64 (IntKind.i64.wrap n) = BitVec.ofInt 64 n := by
  apply BitVec.eq_of_toNat_eq
  rw [IntKind.wrap_i64]
  simp only [BitVec.toNat_ofInt]
  congr 1
  omega
theorem ofInt_nat (v : BitVec 64) : BitVec.ofInt 64 (v.toNat : Int) = v := by
  apply BitVec.eq_of_toNat_eq
  simp
theorem b2_and (x y : Int) : BitVec.ofInt 64 (bits2 .and .i64 x y) = BitVec.ofInt 64 x &&& BitVec.ofInt 64 y := by
  show BitVec.ofInt 64 (IntKind.i64.wrap ((BitVec.ofInt 64 x &&& BitVec.ofInt 64 y).toNat : Int)) = _
  rw [ofInt_wrap, ofInt_nat]
theorem b2_or (x y : Int) : BitVec.ofInt 64 (bits2 .or .i64 x y) = BitVec.ofInt 64 x ||| BitVec.ofInt 64 y := by
  show BitVec.ofInt 64 (IntKind.i64.wrap ((BitVec.ofInt 64 x ||| BitVec.ofInt 64 y).toNat : Int)) = _
  rw [ofInt_wrap, ofInt_nat]
theorem b2_xor (x y : Int) : BitVec.ofInt 64 (bits2 .xor .i64 x y) = BitVec.ofInt 64 x ^^^ BitVec.ofInt 64 y := by
  show BitVec.ofInt 64 (IntKind.i64.wrap ((BitVec.ofInt 64 x ^^^ BitVec.ofInt 64 y).toNat : Int)) = _
  rw [ofInt_wrap, ofInt_nat]
theorem word_iff {x : Int} : word x = true ↔ 0 ≤ x ∧ x ≤ 4294967295 := by simp [word, inn]
theorem word_nat {x : Int} (h : word x = true) : (BitVec.ofInt 64 x).toNat = x.toNat ∧ x.toNat < 4294967296 := by
  have h := word_iff.1 h
  rw [BitVec.toNat_ofInt]
  omega
theorem word_mask {x : Int} (h : word x = true) : BitVec.ofInt 64 x &&& BitVec.ofInt 64 4294967295 = BitVec.ofInt 64 x := by
  obtain ⟨h1, h2⟩ := word_nat h
  apply BitVec.eq_of_toNat_eq
  rw [BitVec.toNat_and, h1]
  have : (BitVec.ofInt 64 4294967295).toNat = 2 ^ 32 - 1 := rfl
  rw [this, Nat.and_two_pow_sub_one_eq_mod]
  omega
theorem wrap_small {n : Nat} (h : n < 4294967296) : word (IntKind.i64.wrap (n : Int)) = true := by
  rw [word_iff, w64 (by omega) (by omega)]
  omega
theorem and_word (x : Int) : word (bits2 .and .i64 x 4294967295) = true := by
  show word (IntKind.i64.wrap ((BitVec.ofInt 64 x &&& BitVec.ofInt 64 4294967295).toNat : Int)) = true
  refine wrap_small ?_
  rw [BitVec.toNat_and]
  have : (BitVec.ofInt 64 4294967295).toNat = 2 ^ 32 - 1 := rfl
  rw [this, Nat.and_two_pow_sub_one_eq_mod]
  omega
theorem or_word {x y : Int} (hx : word x = true) (hy : word y = true) : word (bits2 .or .i64 x y) = true := by
  show word (IntKind.i64.wrap ((BitVec.ofInt 64 x ||| BitVec.ofInt 64 y).toNat : Int)) = true
  refine wrap_small ?_
  rw [BitVec.toNat_or, (word_nat hx).1, (word_nat hy).1]
  exact Nat.or_lt_two_pow (n := 32) (word_nat hx).2 (word_nat hy).2
theorem ch_eq {e p q : Int} (he : word e = true) : bits2 .or .i64 (bits2 .and .i64 e p) (bits2 .and .i64 (bits2 .xor .i64 e 4294967295) q) = bits2 .xor .i64 (bits2 .and .i64 e p) (bits2 .and .i64 (bits2 .xor .i64 4294967295 e) q) := by
  show IntKind.i64.wrap ((BitVec.ofInt 64 _ ||| BitVec.ofInt 64 _).toNat : Int) = IntKind.i64.wrap ((BitVec.ofInt 64 _ ^^^ BitVec.ofInt 64 _).toNat : Int)
  congr 2
  apply congrArg BitVec.toNat
  simp only [b2_and, b2_xor]
  have hm := word_mask he
  generalize BitVec.ofInt 64 e = a at *
  generalize BitVec.ofInt 64 p = b
  generalize BitVec.ofInt 64 q = c
  generalize BitVec.ofInt 64 4294967295 = m at *
  apply BitVec.eq_of_getLsbD_eq
  intro i hi
  have h1 := congrArg (fun v => v.getLsbD i) hm
  simp only [BitVec.getLsbD_and] at h1
  simp only [BitVec.getLsbD_or, BitVec.getLsbD_xor, BitVec.getLsbD_and]
  revert h1
  cases a.getLsbD i <;> cases b.getLsbD i <;> cases c.getLsbD i <;> cases m.getLsbD i <;> simp
theorem maj_eq (a p q : Int) : bits2 .or .i64 (bits2 .or .i64 (bits2 .and .i64 a p) (bits2 .and .i64 a q)) (bits2 .and .i64 p q) = bits2 .xor .i64 (bits2 .xor .i64 (bits2 .and .i64 a p) (bits2 .and .i64 a q)) (bits2 .and .i64 p q) := by
  show IntKind.i64.wrap ((BitVec.ofInt 64 _ ||| BitVec.ofInt 64 _).toNat : Int) = IntKind.i64.wrap ((BitVec.ofInt 64 _ ^^^ BitVec.ofInt 64 _).toNat : Int)
  congr 2
  apply congrArg BitVec.toNat
  simp only [b2_and, b2_xor, b2_or]
  generalize BitVec.ofInt 64 a = a
  generalize BitVec.ofInt 64 p = b
  generalize BitVec.ofInt 64 q = c
  apply BitVec.eq_of_getLsbD_eq
  intro i hi
  simp only [BitVec.getLsbD_or, BitVec.getLsbD_xor, BitVec.getLsbD_and]
  cases a.getLsbD i <;> cases b.getLsbD i <;> cases c.getLsbD i <;> rfl
theorem bw_word (b : Bytes) (i : Nat) : word (bw b i) = true := by
  have h1 := gb_range b i
  have h2 := gb_range b (i + 1)
  have h3 := gb_range b (i + 2)
  have h4 := gb_range b (i + 3)
  have e1 : min 24 IntKind.i64.bits = 24 := rfl
  have e2 : min 16 IntKind.i64.bits = 16 := rfl
  have e3 : min 8 IntKind.i64.bits = 8 := rfl
  unfold bw
  rw [e1, e2, e3]
  refine or_word (or_word (or_word ?_ ?_) ?_) ?_ <;> rw [word_iff]
  · rw [w64 (by omega) (by omega)]; omega
  · rw [w64 (by omega) (by omega)]; omega
  · rw [w64 (by omega) (by omega)]; omega
  · omega
theorem wsch_word (b : Bytes) : ∀ n, ∀ x ∈ wsch b n, word x = true
  | 0, x, hx => by cases hx
  | n + 1, x, hx => by
    simp only [wsch] at hx
    rcases List.mem_append.1 hx with hx | hx
    · exact wsch_word b n x hx
    · simp only [List.mem_singleton] at hx
      subst hx
      split
      · exact bw_word _ _
      · exact and_word _
theorem gi_mem {l : List Int} {i : Nat} (h : i < l.length) : gi l i ∈ l := by simp [gi, h]
theorem rnds_word {h : List Int} (hl : h.length = 8) (hw : ∀ x ∈ h, word x = true) (b : Bytes) : ∀ n, ∀ x ∈ rnds h b n, word x = true
  | 0, x, hx => hw x hx
  | n + 1, x, hx => by
    have ih := rnds_word hl hw b n
    have hv := rnds_len hl b n
    have hm : ∀ i, i < 8 → word (gi (rnds h b n) i) = true := fun i hi => ih _ (gi_mem (by omega))
    simp only [rnds, rnd, List.mem_cons, List.not_mem_nil, or_false] at hx
    rcases hx with rfl | rfl | rfl | rfl | rfl | rfl | rfl | rfl
    · exact and_word _
    · exact hm 0 (by omega)
    · exact hm 1 (by omega)
    · exact hm 2 (by omega)
    · exact and_word _
    · exact hm 4 (by omega)
    · exact hm 5 (by omega)
    · exact hm 6 (by omega)
def arr (b : Bytes) (k : Nat) : List Int := wsch b k ++ List.replicate (64 - k) 0
theorem arr_len (b : Bytes) {k : Nat} (h : k ≤ 64) : (ivs (arr b k)).length = 64 := by simp [ivs, arr, wsch_len]; omega
theorem arr_get (b : Bytes) {k i : Nat} (hk : k ≤ 64) (h : i < k) : ((ivs (arr b k)).drop i).take 1 = [.int .i64 (gi (wsch b k) i)] := by
  rw [ivs_get (by simp [arr, wsch_len]; omega)]
  simp [gi, arr, List.getD_eq_getElem?_getD, List.getElem?_append_left (show i < (wsch b k).length by rw [wsch_len]; exact h)]
theorem arr_set (b : Bytes) {k : Nat} (h : k < 64) (x : Int) : (ivs (arr b k)).set k (.int .i64 x) = ivs (wsch b k ++ [x] ++ List.replicate (64 - (k + 1)) 0) := by
  have e : 64 - k = (64 - (k + 1)) + 1 := by omega
  have h2 := wsch_len b k
  simp only [ivs, arr, e, List.replicate_succ, List.map_append, List.map_cons]
  rw [List.set_append_right _ _ (by simp [h2])]
  simp [h2]
end Go.Eng.F
