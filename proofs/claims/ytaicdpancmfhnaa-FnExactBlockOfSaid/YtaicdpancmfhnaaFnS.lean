/-
  Functions: the hash.
-/
import Derived.Test.YtaicdpancmfhnaaFnD
import Derived.Test.YtaicdpancmfhnaaVmS
set_option maxRecDepth 100000
set_option linter.unusedSimpArgs false
set_option linter.unusedVariables false
namespace Go.Eng.F
def word (x : Int) : Bool := inn x 0 4294967295
abbrev n_impl_isWord : Nat := 186
def c_impl_isWord : AF := ⟨1, 3, [.tmp 2], (.seq (.ops [.i (.mov 2 (.c (.val false [.bool false])))]) (.seq (.ops [.i (.mov 3 (.s 0)), .i (.call 5 168 false [(.s 3), (.c (.val false [.int .i64 0])), (.c (.val false [.int .i64 4294967295]))]), .i (.mov 2 (.s 4))]) .ret))⟩
theorem k_impl_isWord : cd n_impl_isWord = some c_impl_isWord := by kernel_rfl
theorem isWord_ok (x : Int) : VC cd n_impl_isWord (mkP [(false, [.int .i64 x])]) (fun rs _ => rs = bl (word x)) := by
  refine VC_enter k_impl_isWord rfl ?_
  simp (disch := omega) [c_impl_isWord, VE, VXR, VP, VB, kof, bl, it]
  refine VXC_e (within_ok _ _ _) rfl rfl ?_
  simp (disch := omega) [word, VE, VXR, VP, VB, kof, bl, it]
abbrev n_spec_l04Word : Nat := 183
def c_spec_l04Word : AF := ⟨1, 3, [.tmp 2], (.seq (.ops [.i (.mov 2 (.c (.val false [.bool false])))]) (.seq (.ops [.i (.mov 3 (.s 0)), .i (.call 5 144 false [(.s 3), (.c (.val false [.int .i64 0])), (.c (.val false [.int .i64 4294967295]))]), .i (.mov 2 (.s 4))]) .ret))⟩
theorem k_spec_l04Word : cd n_spec_l04Word = some c_spec_l04Word := by kernel_rfl
theorem l04Word_ok (x : Int) : VC cd n_spec_l04Word (mkP [(false, [.int .i64 x])]) (fun rs _ => rs = bl (word x)) := by
  refine VC_enter k_spec_l04Word rfl ?_
  simp (disch := omega) [c_spec_l04Word, VE, VXR, VP, VB, kof, bl, it]
  refine VXC_e (l01In_ok _ _ _) rfl rfl ?_
  simp (disch := omega) [word, VE, VXR, VP, VB, kof, bl, it]
def turn (x : Int) (n : Nat) : Int := bits2 .and .i64 (bits2 .or .i64 (x.fdiv (2 ^ n)) (IntKind.i64.wrap (x * 2 ^ (32 - n)))) 4294967295
abbrev n_spec_l04Turn : Nat := 184
def c_spec_l04Turn : AF := ⟨2, 4, [.tmp 4], (.seq (.ops [.i (.mov 4 (.c (.val false [.int .i64 0])))]) (.seq (.ops [.i (.mov 5 (.s 0)), .i (.mov 6 (.s 1)), .i (.bin 7 .shr (.s 5) (.s 6)), .i (.mov 8 (.s 0)), .i (.mov 9 (.s 1)), .i (.bin 10 .sub (.c (.val false [.int .i64 32])) (.s 9)), .i (.bin 11 .shl (.s 8) (.s 10)), .i (.bin 12 .or (.s 7) (.s 11)), .i (.bin 13 .and (.s 12) (.c (.val false [.int .i64 4294967295]))), .i (.mov 4 (.s 13))]) .ret))⟩
theorem k_spec_l04Turn : cd n_spec_l04Turn = some c_spec_l04Turn := by kernel_rfl
theorem l04Turn_ok (x : Int) (n : Nat) (hn : n ≤ 31) : VC cd n_spec_l04Turn (mkP [(false, [.int .i64 x]), (false, [.int .i64 (n : Int)])]) (fun rs _ => rs = it (turn x n)) := by
  have e0 : ¬ (n : Int) < 0 := by omega
  have e1 : min n 64 = n := by omega
  have e2 : ¬ (32 : Int) - (n : Int) < 0 := by omega
  have e3 : ((32 : Int) - (n : Int)).toNat = 32 - n := by omega
  have e4 : min (32 - n) 64 = 32 - n := by omega
  refine VC_enter k_spec_l04Turn rfl ?_
  simp (disch := omega) [c_spec_l04Turn, turn, e0, e1, e2, e3, e4, IntKind.bits, VE, VXR, VP, VB, kof, bl, it]
abbrev n_impl_TurnRight : Nat := 188
def c_impl_TurnRight : AF := ⟨2, 5, [.tmp 4], (.seq (.ops [.i (.mov 4 (.c (.val false [.int .i64 0])))]) (.seq (.seq (.ops [.i (.mov 5 (.s 0)), .i (.call 7 186 false [(.s 5)]), .i (.not 7 (.s 6)), .i (.mov 8 (.s 7)), .g 8 false 10 (.mov 9 (.s 1)), .g 8 false 11 (.call 11 168 false [(.s 9), (.c (.val false [.int .i64 0])), (.c (.val false [.int .i64 31]))]), .g 8 false 12 (.not 11 (.s 10)), .i (.pick 12 (.s 8) (.c (.val false [.bool true])) (.s 11))]) (.cond (.s 12) (.seq (.ops [.i (.mov 4 (.c (.val false [.int .i64 0])))]) .ret) .skip)) (.seq (.ops [.i (.mov 13 (.s 0)), .i (.mov 14 (.s 1)), .i (.bin 15 .shr (.s 13) (.s 14)), .i (.mov 16 (.s 0)), .i (.mov 17 (.s 1)), .i (.bin 18 .sub (.c (.val false [.int .i64 32])) (.s 17)), .i (.bin 19 .shl (.s 16) (.s 18)), .i (.bin 20 .or (.s 15) (.s 19)), .i (.bin 21 .and (.s 20) (.c (.val false [.int .i64 4294967295]))), .i (.mov 4 (.s 21))]) .ret)))⟩
theorem k_impl_TurnRight : cd n_impl_TurnRight = some c_impl_TurnRight := by kernel_rfl
theorem TurnRight_ok (x : Int) (n : Nat) (hn : n ≤ 31) (hx : word x = true) : VC cd n_impl_TurnRight (mkP [(false, [.int .i64 x]), (false, [.int .i64 (n : Int)])]) (fun rs _ => rs = it (turn x n)) := by
  have e0 : ¬ (n : Int) < 0 := by omega
  have e1 : min n 64 = n := by omega
  have e2 : ¬ (32 : Int) - (n : Int) < 0 := by omega
  have e3 : ((32 : Int) - (n : Int)).toNat = 32 - n := by omega
  have e4 : min (32 - n) 64 = 32 - n := by omega
  have e5 : inn (n : Int) 0 31 = true := by simp [inn]; omega
  refine VC_enter k_impl_TurnRight rfl ?_
  simp (disch := omega) [c_impl_TurnRight, VE, VXR, VP, VB, kof, bl, it]
  refine VXC_e (isWord_ok x) rfl rfl ?_
  simp (disch := omega) [hx, VE, VXR, VP, VB, kof, bl, it]
  refine VXC_e (within_ok _ _ _) rfl rfl ?_
  simp (disch := omega) [hx, e5, turn, e0, e1, e2, e3, e4, IntKind.bits, VE, VXR, VP, VB, kof, bl, it]
/-! ### Padding -/
def zc (n : Nat) : Nat := (119 - n % 64) % 64
theorem zc_spec (n : Nat) : zc n < 64 ∧ (n + 1 + zc n) % 64 = 56 := by unfold zc; omega
def lenb (n : Nat) : Bytes := (List.range 8).map fun k => UInt8.ofNat (n / 2 ^ (8 * (7 - k)))
theorem lenb_take (n : Nat) {k : Nat} (h : k < 8) : (lenb n).take (k + 1) = (lenb n).take k ++ [UInt8.ofNat (n / 2 ^ (8 * (7 - k)))] := by
  rw [List.take_add_one]
  simp [lenb, h]
theorem u8w (n k : Nat) : IntKind.u8.wrap (Int.fdiv (n : Int) (2 ^ k)) = ((UInt8.ofNat (n / 2 ^ k)).toNat : Int) := by
  have e : Int.fdiv (n : Int) (2 ^ k) = ((n / 2 ^ k : Nat) : Int) := by
    rw [Int.fdiv_eq_ediv_of_nonneg _ (Int.pow_nonneg (by omega))]
    simp [Int.natCast_ediv, Int.natCast_pow]
  rw [e]
  simp only [UInt8.toNat_ofNat', Nat.reducePow]
  simp [IntKind.wrap, IntKind.bits, IntKind.signed]
def pad (b : Bytes) : Bytes := b ++ [128] ++ List.replicate (zc b.length) 0 ++ lenb (8 * b.length)
abbrev n_impl_ShaPad : Nat := 164
def c_impl_ShaPad : AF := ⟨1, 5, [.tmp 2], (.seq (.ops [.i (.mov 2 (.c (.val false [.nils])))]) (.seq (.ops [.i (.mov 5 (.s 0)), .i (.call 7 133 false [(.s 5)]), .i (.lsl 7 1 1 [.int .u8 0] [(0, 1, (.c (.val false [.int .u8 128])))]), .i (.app 8 5 1 1 (.s 6) (.s 7)), .i (.mov 3 (.s 8))]) (.seq (.block 0 (.loop [15, 14, 13, 12, 11, 10, 9] (.seq (.seq (.ops [.i (.mov 9 (.s 3)), .i (.len 10 false (.s 9)), .i (.bin 11 .rem (.s 10) (.c (.val false [.int .i64 64]))), .i (.bin 12 .neq (.s 11) (.c (.val false [.int .i64 56])))]) (.cond (.s 12) .skip (.exit 0))) (.block 1 (.ops [.i (.mov 13 (.s 3)), .i (.lsl 14 1 1 [.int .u8 0] [(0, 1, (.c (.val false [.int .u8 0])))]), .i (.app 15 5 1 1 (.s 13) (.s 14)), .i (.mov 3 (.s 15))]))))) (.seq (.seq (.ops [.i (.mov 4 (.c (.val false [.int .i64 7])))]) (.block 2 (.loop [29, 28, 27, 26, 25, 24, 23, 22, 21, 20, 19, 18, 17, 16] (.seq (.seq (.ops [.i (.mov 16 (.s 4)), .i (.bin 17 .geq (.s 16) (.c (.val false [.int .i64 0])))]) (.cond (.s 17) .skip (.exit 2))) (.seq (.block 3 (.ops [.i (.mov 20 (.s 3)), .i (.mov 21 (.s 0)), .i (.len 22 false (.s 21)), .i (.bin 23 .mul (.c (.val false [.int .i64 8])) (.s 22)), .i (.mov 24 (.s 4)), .i (.bin 25 .mul (.c (.val false [.int .i64 8])) (.s 24)), .i (.bin 26 .shr (.s 23) (.s 25)), .i (.cvi 27 .u8 (.s 26)), .i (.lsl 28 1 1 [.int .u8 0] [(0, 1, (.s 27))]), .i (.app 29 5 1 1 (.s 20) (.s 28)), .i (.mov 3 (.s 29))])) (.ops [.i (.mov 18 (.s 4)), .i (.bin 19 .sub (.s 18) (.c (.val false [.int .i64 1]))), .i (.mov 4 (.s 19))])))))) (.seq (.ops [.i (.mov 30 (.s 3)), .i (.mov 2 (.s 30))]) .ret)))))⟩
theorem k_impl_ShaPad : cd n_impl_ShaPad = some c_impl_ShaPad := by kernel_rfl
theorem impl_ShaPad_ok (b : Bytes) (hb : b.length ≤ 1073741824) : VC cd n_impl_ShaPad (mkP [(false, [.sl (bytes b)])]) (fun rs _ => rs = [(false, [.o true (some (5, 1)) (bytes (pad b))])]) := by
  refine VC_enter k_impl_ShaPad rfl ?_
  simp (disch := omega) [c_impl_ShaPad, VE, VXR, VP, VB, kof, bl, it]
  refine VXC_e (copyBytes_ok b (by omega)) rfl rfl ?_
  have e0 : bytes b ++ [[.int .u8 128]] = bytes (b ++ [128]) := by simp [bytes]
  simp (disch := omega) [e0, bytes_len, VE, VXR, VP, VB, kof, bl, it]
  refine VX_loop3 (σ := Nat × Nat) (f1 := _) (es0 := _) (by simp (disch := omega) [VE, VXR, VP, VB, kof, bl, it]; rfl) (by simp (disch := omega) [VE, VXR, VP, VB, kof, bl, it]; rfl) (fun p => [(3, .val false [.ow 65536 p.2])]) (fun p => [(65536, .sl p.2 true true (some (5, 1)) (bytes (b ++ [128] ++ List.replicate p.1 0)))])
    (fun p g => g + p.1 = zc b.length) (0, _) (zc b.length) (by simp (disch := omega) [VE, VXR, VP, VB, kof, bl, it]; rfl) (by simp (disch := omega) [VE, VXR, VP, VB, kof, bl, it]) (by omega) ?_
  rintro ⟨j, v⟩ n g hg
  simp only at hg
  have hz := zc_spec b.length
  have hl : (b ++ [128] ++ List.replicate j (0 : UInt8)).length = b.length + 1 + j := by simp; omega
  have e1 : Int.tmod ((b.length : Int) + ((j : Int) + 1)) 64 = (((b.length + 1 + j) % 64 : Nat) : Int) := by rw [Int.tmod_eq_emod_of_nonneg (by omega)]; omega
  simp only [] at *
  simp (disch := omega) [bytes_len, hl, e1, VE, VXR, VP, VB, kof, bl, it]
  refine VXB_dec (fun h1 => ?_) (fun h1 => ?_)
  · have hj : j = zc b.length := by omega
    subst hj
    simp (disch := omega) [bytes_len, VE, VXR, VP, VB, kof, bl, it]
    refine VX_loop3 (σ := Nat × Nat) (f1 := _) (es0 := _) (by simp (disch := omega) [VE, VXR, VP, VB, kof, bl, it]; rfl) (by simp (disch := omega) [VE, VXR, VP, VB, kof, bl, it]; rfl) (fun p => [(4, .val false [.int .i64 (7 - (p.1 : Int))]), (3, .val false [.ow 65536 p.2])]) (fun p => [(65536, .sl p.2 true true (some (5, 1)) (bytes (b ++ [128] ++ List.replicate (zc b.length) 0 ++ (lenb (8 * b.length)).take p.1)))])
      (fun p g => g + p.1 = 8) (0, _) 8 (by simp (disch := omega) [VE, VXR, VP, VB, kof, bl, it]; rfl) (by simp (disch := omega) [VE, VXR, VP, VB, kof, bl, it]) (by omega) ?_
    rintro ⟨k, w⟩ n g hg
    simp only at hg
    simp (disch := omega) [VE, VXR, VP, VB, kof, bl, it]
    refine VXB_dec (fun h2 => ?_) (fun h2 => ?_)
    · have hk : k < 8 := by omega
      have q1 : ¬ (8 : Int) * (7 - (k : Int)) < 0 := by omega
      have q2 : ((8 : Int) * (7 - (k : Int))).toNat = 8 * (7 - k) := by omega
      have q3 : min (8 * (7 - k)) 64 = 8 * (7 - k) := by omega
      have q4 := u8w (8 * b.length) (8 * (7 - k))
      have q5 : ((8 * b.length : Nat) : Int) = 8 * (b.length : Int) := by omega
      rw [q5] at q4
      have q6 : bytes (b ++ [128] ++ List.replicate (zc b.length) 0 ++ (lenb (8 * b.length)).take k) ++ [[.int .u8 ((UInt8.ofNat (8 * b.length / 2 ^ (8 * (7 - k)))).toNat : Int)]] = bytes (b ++ [128] ++ List.replicate (zc b.length) 0 ++ (lenb (8 * b.length)).take (k + 1)) := by
        rw [lenb_take _ hk, ← List.append_assoc]; simp only [bytes, List.map_append, List.map_cons, List.map_nil]
      have q7 : (bytes (b ++ [128] ++ List.replicate (zc b.length) 0 ++ (lenb (8 * b.length)).take k)).length = b.length + 1 + zc b.length + k := by
        rw [bytes_len]; simp [lenb]; omega
      simp (disch := omega) [bytes_len, q1, q2, q3, q4, q6, q7, IntKind.bits, VE, VXR, VP, VB, kof, bl, it]
      have q8 : ((UInt8.ofNat (8 * b.length / 2 ^ (8 * (7 - k)))).toNat : Int) = 8 * (b.length : Int) / 2 ^ (8 * (7 - k)) % 256 := by simp [UInt8.toNat_ofNat']
      exact ⟨k + 1, _, g - 1, by omega, by omega, ⟨rfl, by omega⟩, rfl, by rw [lenb_take _ hk]; simp [bytes, q8]⟩
    · have hk : k = 8 := by omega
      subst hk
      simp (disch := omega) [pad, VE, VXR, VP, VB, kof, bl, it]
      rw [List.take_of_length_le (by simp [lenb])]
  · have e2 : bytes (b ++ [128] ++ List.replicate j (0 : UInt8)) ++ [[.int .u8 0]] = bytes (b ++ [128] ++ List.replicate (j + 1) 0) := by rw [List.replicate_succ', ← List.append_assoc]; simp [bytes]
    have e3 : (bytes (b ++ [128] ++ List.replicate j (0 : UInt8))).length = b.length + 1 + j := by rw [bytes_len, hl]
    simp (disch := omega) [e2, e3, VE, VXR, VP, VB, kof, bl, it]
    exact ⟨j + 1, _, g - 1, by omega, by omega, rfl, rfl, by rw [List.replicate_succ']; simp [bytes]⟩
abbrev n_spec_ShaPad : Nat := 161
def c_spec_ShaPad : AF := ⟨1, 6, [.tmp 2], (.seq (.ops [.i (.mov 2 (.c (.val false [.nils])))]) (.seq (.ops [.i (.mov 6 (.s 0)), .i (.call 8 127 false [(.s 6)]), .i (.lsl 8 1 1 [.int .u8 0] [(0, 1, (.c (.val false [.int .u8 128])))]), .i (.app 9 5 1 1 (.s 7) (.s 8)), .i (.mov 3 (.s 9))]) (.seq (.block 0 (.loop [16, 15, 14, 13, 12, 11, 10] (.seq (.seq (.ops [.i (.mov 10 (.s 3)), .i (.len 11 false (.s 10)), .i (.bin 12 .rem (.s 11) (.c (.val false [.int .i64 64]))), .i (.bin 13 .neq (.s 12) (.c (.val false [.int .i64 56])))]) (.cond (.s 13) .skip (.exit 0))) (.block 1 (.ops [.i (.mov 14 (.s 3)), .i (.lsl 15 1 1 [.int .u8 0] [(0, 1, (.c (.val false [.int .u8 0])))]), .i (.app 16 5 1 1 (.s 14) (.s 15)), .i (.mov 3 (.s 16))]))))) (.seq (.ops [.i (.mov 17 (.s 0)), .i (.len 18 false (.s 17)), .i (.bin 19 .mul (.c (.val false [.int .i64 8])) (.s 18)), .i (.mov 4 (.s 19))]) (.seq (.seq (.ops [.i (.mov 5 (.c (.val false [.int .i64 7])))]) (.block 2 (.loop [31, 30, 29, 28, 27, 26, 25, 24, 23, 22, 21, 20] (.seq (.seq (.ops [.i (.mov 20 (.s 5)), .i (.bin 21 .geq (.s 20) (.c (.val false [.int .i64 0])))]) (.cond (.s 21) .skip (.exit 2))) (.seq (.block 3 (.ops [.i (.mov 24 (.s 3)), .i (.mov 25 (.s 4)), .i (.mov 26 (.s 5)), .i (.bin 27 .mul (.c (.val false [.int .i64 8])) (.s 26)), .i (.bin 28 .shr (.s 25) (.s 27)), .i (.cvi 29 .u8 (.s 28)), .i (.lsl 30 1 1 [.int .u8 0] [(0, 1, (.s 29))]), .i (.app 31 5 1 1 (.s 24) (.s 30)), .i (.mov 3 (.s 31))])) (.ops [.i (.mov 22 (.s 5)), .i (.bin 23 .sub (.s 22) (.c (.val false [.int .i64 1]))), .i (.mov 5 (.s 23))])))))) (.seq (.ops [.i (.mov 32 (.s 3)), .i (.mov 2 (.s 32))]) .ret))))))⟩
theorem k_spec_ShaPad : cd n_spec_ShaPad = some c_spec_ShaPad := by kernel_rfl
theorem spec_ShaPad_ok (b : Bytes) (hb : b.length ≤ 1073741824) : VC cd n_spec_ShaPad (mkP [(false, [.sl (bytes b)])]) (fun rs _ => rs = [(false, [.o true (some (5, 1)) (bytes (pad b))])]) := by
  refine VC_enter k_spec_ShaPad rfl ?_
  simp (disch := omega) [c_spec_ShaPad, VE, VXR, VP, VB, kof, bl, it]
  refine VXC_e (l01Copy_ok b (by omega)) rfl rfl ?_
  have e0 : bytes b ++ [[.int .u8 128]] = bytes (b ++ [128]) := by simp [bytes]
  simp (disch := omega) [e0, bytes_len, VE, VXR, VP, VB, kof, bl, it]
  refine VX_loop3 (σ := Nat × Nat) (f1 := _) (es0 := _) (by simp (disch := omega) [VE, VXR, VP, VB, kof, bl, it]; rfl) (by simp (disch := omega) [VE, VXR, VP, VB, kof, bl, it]; rfl) (fun p => [(3, .val false [.ow 73728 p.2])]) (fun p => [(73728, .sl p.2 true true (some (5, 1)) (bytes (b ++ [128] ++ List.replicate p.1 0)))])
    (fun p g => g + p.1 = zc b.length) (0, _) (zc b.length) (by simp (disch := omega) [VE, VXR, VP, VB, kof, bl, it]; rfl) (by simp (disch := omega) [VE, VXR, VP, VB, kof, bl, it]) (by omega) ?_
  rintro ⟨j, v⟩ n g hg
  simp only at hg
  have hz := zc_spec b.length
  have hl : (b ++ [128] ++ List.replicate j (0 : UInt8)).length = b.length + 1 + j := by simp; omega
  have e1 : Int.tmod ((b.length : Int) + ((j : Int) + 1)) 64 = (((b.length + 1 + j) % 64 : Nat) : Int) := by rw [Int.tmod_eq_emod_of_nonneg (by omega)]; omega
  simp only [] at *
  simp (disch := omega) [bytes_len, hl, e1, VE, VXR, VP, VB, kof, bl, it]
  refine VXB_dec (fun h1 => ?_) (fun h1 => ?_)
  · have hj : j = zc b.length := by omega
    subst hj
    simp (disch := omega) [bytes_len, VE, VXR, VP, VB, kof, bl, it]
    refine VX_loop3 (σ := Nat × Nat) (f1 := _) (es0 := _) (by simp (disch := omega) [VE, VXR, VP, VB, kof, bl, it]; rfl) (by simp (disch := omega) [VE, VXR, VP, VB, kof, bl, it]; rfl) (fun p => [(5, .val false [.int .i64 (7 - (p.1 : Int))]), (3, .val false [.ow 73728 p.2])]) (fun p => [(73728, .sl p.2 true true (some (5, 1)) (bytes (b ++ [128] ++ List.replicate (zc b.length) 0 ++ (lenb (8 * b.length)).take p.1)))])
      (fun p g => g + p.1 = 8) (0, _) 8 (by simp (disch := omega) [VE, VXR, VP, VB, kof, bl, it]; rfl) (by simp (disch := omega) [VE, VXR, VP, VB, kof, bl, it]) (by omega) ?_
    rintro ⟨k, w⟩ n g hg
    simp only at hg
    simp (disch := omega) [VE, VXR, VP, VB, kof, bl, it]
    refine VXB_dec (fun h2 => ?_) (fun h2 => ?_)
    · have hk : k < 8 := by omega
      have q1 : ¬ (8 : Int) * (7 - (k : Int)) < 0 := by omega
      have q2 : ((8 : Int) * (7 - (k : Int))).toNat = 8 * (7 - k) := by omega
      have q3 : min (8 * (7 - k)) 64 = 8 * (7 - k) := by omega
      have q4 := u8w (8 * b.length) (8 * (7 - k))
      have q5 : ((8 * b.length : Nat) : Int) = 8 * (b.length : Int) := by omega
      rw [q5] at q4
      have q6 : bytes (b ++ [128] ++ List.replicate (zc b.length) 0 ++ (lenb (8 * b.length)).take k) ++ [[.int .u8 ((UInt8.ofNat (8 * b.length / 2 ^ (8 * (7 - k)))).toNat : Int)]] = bytes (b ++ [128] ++ List.replicate (zc b.length) 0 ++ (lenb (8 * b.length)).take (k + 1)) := by
        rw [lenb_take _ hk, ← List.append_assoc]; simp only [bytes, List.map_append, List.map_cons, List.map_nil]
      have q7 : (bytes (b ++ [128] ++ List.replicate (zc b.length) 0 ++ (lenb (8 * b.length)).take k)).length = b.length + 1 + zc b.length + k := by
        rw [bytes_len]; simp [lenb]; omega
      simp (disch := omega) [bytes_len, q1, q2, q3, q4, q6, q7, IntKind.bits, VE, VXR, VP, VB, kof, bl, it]
      have q8 : ((UInt8.ofNat (8 * b.length / 2 ^ (8 * (7 - k)))).toNat : Int) = 8 * (b.length : Int) / 2 ^ (8 * (7 - k)) % 256 := by simp [UInt8.toNat_ofNat']
      exact ⟨k + 1, _, g - 1, by omega, by omega, ⟨rfl, by omega⟩, rfl, by rw [lenb_take _ hk]; simp [bytes, q8]⟩
    · have hk : k = 8 := by omega
      subst hk
      simp (disch := omega) [pad, VE, VXR, VP, VB, kof, bl, it]
      rw [List.take_of_length_le (by simp [lenb])]
  · have e2 : bytes (b ++ [128] ++ List.replicate j (0 : UInt8)) ++ [[.int .u8 0]] = bytes (b ++ [128] ++ List.replicate (j + 1) 0) := by rw [List.replicate_succ', ← List.append_assoc]; simp [bytes]
    have e3 : (bytes (b ++ [128] ++ List.replicate j (0 : UInt8))).length = b.length + 1 + j := by rw [bytes_len, hl]
    simp (disch := omega) [e2, e3, VE, VXR, VP, VB, kof, bl, it]
    exact ⟨j + 1, _, g - 1, by omega, by omega, rfl, rfl, by rw [List.replicate_succ']; simp [bytes]⟩
/-! ### Words -/
def gi (l : List Int) (i : Nat) : Int := l.getD i 0
def ints (l : List Int) : List (List D) := l.map fun n => [.int .i64 n]
theorem ints_len (l : List Int) : (ints l).length = l.length := by simp [ints]
theorem ints_get {l : List Int} {i : Nat} (h : i < l.length) : (ints l)[i]? = some [.int .i64 (gi l i)] := by simp [ints, gi, h]
theorem flat_ints (l : List Int) : flat (ints l) = true := by
  induction l with
  | nil => rfl
  | cons n l ih => simp only [ints, List.map_cons, flat] at ih ⊢; simpa [leafs, D.leaf] using ih
theorem wid_ints (l : List Int) : wid 1 (ints l) = true := by
  induction l with
  | nil => rfl
  | cons n l ih => simp only [ints, List.map_cons, wid] at ih ⊢; simpa using ih
theorem ints_ge {l : List Int} {i : Nat} (h : i < (ints l).length) : (ints l)[i] = [.int .i64 (gi l i)] := by simp [ints, gi] at h ⊢; simp [h]
def ivs (l : List Int) : List D := l.map (.int .i64)
theorem ivs_len (l : List Int) : (ivs l).length = l.length := by simp [ivs]
theorem ivs_get {l : List Int} {i : Nat} (h : i < l.length) : ((ivs l).drop i).take 1 = [.int .i64 (gi l i)] := by
  have e : (ivs l).drop i = .int .i64 (gi l i) :: (ivs l).drop (i + 1) := by
    rw [List.drop_eq_getElem_cons (by simpa [ivs] using h)]
    simp [ivs, gi, h]
  rw [e]; rfl
def init : List Int := [1779033703, 3144134277, 1013904242, 2773480762, 1359893119, 2600822924, 528734635, 1541459225]
abbrev n_impl_ShaInit : Nat := 163
def c_impl_ShaInit : AF := ⟨0, 2, [.tmp 0], (.seq (.ops [.i (.mov 0 (.c (.val false [.nils])))]) (.seq (.ops [.i (.bsl 1 3 1 8 [.int .i64 0] [(0, 1, (.c (.val false [.int .i64 1779033703]))), (1, 1, (.c (.val false [.int .i64 3144134277]))), (2, 1, (.c (.val false [.int .i64 1013904242]))), (3, 1, (.c (.val false [.int .i64 2773480762]))), (4, 1, (.c (.val false [.int .i64 1359893119]))), (5, 1, (.c (.val false [.int .i64 2600822924]))), (6, 1, (.c (.val false [.int .i64 528734635]))), (7, 1, (.c (.val false [.int .i64 1541459225])))]), .i (.mov 0 (.s 1))]) .ret))⟩
theorem k_impl_ShaInit : cd n_impl_ShaInit = some c_impl_ShaInit := by kernel_rfl
theorem impl_ShaInit_ok : VC cd n_impl_ShaInit (mkP []) (fun rs _ => rs = [(false, [.o true (some (3, 1)) (ints init)])]) := by
  refine VC_enter k_impl_ShaInit rfl ?_
  simp (disch := omega) [c_impl_ShaInit, ints, init, VE, VXR, VP, VB, kof, bl, it]
abbrev n_spec_ShaInit : Nat := 160
def c_spec_ShaInit : AF := ⟨0, 2, [.tmp 0], (.seq (.ops [.i (.mov 0 (.c (.val false [.nils])))]) (.seq (.ops [.i (.bsl 1 3 1 8 [.int .i64 0] [(0, 1, (.c (.val false [.int .i64 1779033703]))), (1, 1, (.c (.val false [.int .i64 3144134277]))), (2, 1, (.c (.val false [.int .i64 1013904242]))), (3, 1, (.c (.val false [.int .i64 2773480762]))), (4, 1, (.c (.val false [.int .i64 1359893119]))), (5, 1, (.c (.val false [.int .i64 2600822924]))), (6, 1, (.c (.val false [.int .i64 528734635]))), (7, 1, (.c (.val false [.int .i64 1541459225])))]), .i (.mov 0 (.s 1))]) .ret))⟩
theorem k_spec_ShaInit : cd n_spec_ShaInit = some c_spec_ShaInit := by kernel_rfl
theorem spec_ShaInit_ok : VC cd n_spec_ShaInit (mkP []) (fun rs _ => rs = [(false, [.o true (some (3, 1)) (ints init)])]) := by
  refine VC_enter k_spec_ShaInit rfl ?_
  simp (disch := omega) [c_spec_ShaInit, ints, init, VE, VXR, VP, VB, kof, bl, it]
def kk : List Int := [1116352408, 1899447441, 3049323471, 3921009573, 961987163, 1508970993, 2453635748, 2870763221, 3624381080, 310598401, 607225278, 1426881987, 1925078388, 2162078206, 2614888103, 3248222580, 3835390401, 4022224774, 264347078, 604807628, 770255983, 1249150122, 1555081692, 1996064986, 2554220882, 2821834349, 2952996808, 3210313671, 3336571891, 3584528711, 113926993, 338241895, 666307205, 773529912, 1294757372, 1396182291, 1695183700, 1986661051, 2177026350, 2456956037, 2730485921, 2820302411, 3259730800, 3345764771, 3516065817, 3600352804, 4094571909, 275423344, 430227734, 506948616, 659060556, 883997877, 958139571, 1322822218, 1537002063, 1747873779, 1955562222, 2024104815, 2227730452, 2361852424, 2428436474, 2756734187, 3204031479, 3329325298]
abbrev n_impl_rounds : Nat := 187
def c_impl_rounds : AF := ⟨0, 2, [.tmp 0], (.seq (.ops [.i (.mov 0 (.c (.val false [.nils])))]) (.seq (.ops [.i (.bsl 1 3 1 64 [.int .i64 0] [(0, 1, (.c (.val false [.int .i64 1116352408]))), (1, 1, (.c (.val false [.int .i64 1899447441]))), (2, 1, (.c (.val false [.int .i64 3049323471]))), (3, 1, (.c (.val false [.int .i64 3921009573]))), (4, 1, (.c (.val false [.int .i64 961987163]))), (5, 1, (.c (.val false [.int .i64 1508970993]))), (6, 1, (.c (.val false [.int .i64 2453635748]))), (7, 1, (.c (.val false [.int .i64 2870763221]))), (8, 1, (.c (.val false [.int .i64 3624381080]))), (9, 1, (.c (.val false [.int .i64 310598401]))), (10, 1, (.c (.val false [.int .i64 607225278]))), (11, 1, (.c (.val false [.int .i64 1426881987]))), (12, 1, (.c (.val false [.int .i64 1925078388]))), (13, 1, (.c (.val false [.int .i64 2162078206]))), (14, 1, (.c (.val false [.int .i64 2614888103]))), (15, 1, (.c (.val false [.int .i64 3248222580]))), (16, 1, (.c (.val false [.int .i64 3835390401]))), (17, 1, (.c (.val false [.int .i64 4022224774]))), (18, 1, (.c (.val false [.int .i64 264347078]))), (19, 1, (.c (.val false [.int .i64 604807628]))), (20, 1, (.c (.val false [.int .i64 770255983]))), (21, 1, (.c (.val false [.int .i64 1249150122]))), (22, 1, (.c (.val false [.int .i64 1555081692]))), (23, 1, (.c (.val false [.int .i64 1996064986]))), (24, 1, (.c (.val false [.int .i64 2554220882]))), (25, 1, (.c (.val false [.int .i64 2821834349]))), (26, 1, (.c (.val false [.int .i64 2952996808]))), (27, 1, (.c (.val false [.int .i64 3210313671]))), (28, 1, (.c (.val false [.int .i64 3336571891]))), (29, 1, (.c (.val false [.int .i64 3584528711]))), (30, 1, (.c (.val false [.int .i64 113926993]))), (31, 1, (.c (.val false [.int .i64 338241895]))), (32, 1, (.c (.val false [.int .i64 666307205]))), (33, 1, (.c (.val false [.int .i64 773529912]))), (34, 1, (.c (.val false [.int .i64 1294757372]))), (35, 1, (.c (.val false [.int .i64 1396182291]))), (36, 1, (.c (.val false [.int .i64 1695183700]))), (37, 1, (.c (.val false [.int .i64 1986661051]))), (38, 1, (.c (.val false [.int .i64 2177026350]))), (39, 1, (.c (.val false [.int .i64 2456956037]))), (40, 1, (.c (.val false [.int .i64 2730485921]))), (41, 1, (.c (.val false [.int .i64 2820302411]))), (42, 1, (.c (.val false [.int .i64 3259730800]))), (43, 1, (.c (.val false [.int .i64 3345764771]))), (44, 1, (.c (.val false [.int .i64 3516065817]))), (45, 1, (.c (.val false [.int .i64 3600352804]))), (46, 1, (.c (.val false [.int .i64 4094571909]))), (47, 1, (.c (.val false [.int .i64 275423344]))), (48, 1, (.c (.val false [.int .i64 430227734]))), (49, 1, (.c (.val false [.int .i64 506948616]))), (50, 1, (.c (.val false [.int .i64 659060556]))), (51, 1, (.c (.val false [.int .i64 883997877]))), (52, 1, (.c (.val false [.int .i64 958139571]))), (53, 1, (.c (.val false [.int .i64 1322822218]))), (54, 1, (.c (.val false [.int .i64 1537002063]))), (55, 1, (.c (.val false [.int .i64 1747873779]))), (56, 1, (.c (.val false [.int .i64 1955562222]))), (57, 1, (.c (.val false [.int .i64 2024104815]))), (58, 1, (.c (.val false [.int .i64 2227730452]))), (59, 1, (.c (.val false [.int .i64 2361852424]))), (60, 1, (.c (.val false [.int .i64 2428436474]))), (61, 1, (.c (.val false [.int .i64 2756734187]))), (62, 1, (.c (.val false [.int .i64 3204031479]))), (63, 1, (.c (.val false [.int .i64 3329325298])))]), .i (.mov 0 (.s 1))]) .ret))⟩
theorem k_impl_rounds : cd n_impl_rounds = some c_impl_rounds := by kernel_rfl
theorem rounds_ok : VC cd n_impl_rounds (mkP []) (fun rs _ => rs = [(false, [.o true (some (3, 1)) (ints kk)])]) := by
  refine VC_enter k_impl_rounds rfl ?_
  simp (disch := omega) [c_impl_rounds, ints, kk, VE, VXR, VP, VB, kof, bl, it]
abbrev n_spec_l04K : Nat := 185
def c_spec_l04K : AF := ⟨0, 2, [.tmp 0], (.seq (.ops [.i (.mov 0 (.c (.val false [.nils])))]) (.seq (.ops [.i (.bsl 1 3 1 64 [.int .i64 0] [(0, 1, (.c (.val false [.int .i64 1116352408]))), (1, 1, (.c (.val false [.int .i64 1899447441]))), (2, 1, (.c (.val false [.int .i64 3049323471]))), (3, 1, (.c (.val false [.int .i64 3921009573]))), (4, 1, (.c (.val false [.int .i64 961987163]))), (5, 1, (.c (.val false [.int .i64 1508970993]))), (6, 1, (.c (.val false [.int .i64 2453635748]))), (7, 1, (.c (.val false [.int .i64 2870763221]))), (8, 1, (.c (.val false [.int .i64 3624381080]))), (9, 1, (.c (.val false [.int .i64 310598401]))), (10, 1, (.c (.val false [.int .i64 607225278]))), (11, 1, (.c (.val false [.int .i64 1426881987]))), (12, 1, (.c (.val false [.int .i64 1925078388]))), (13, 1, (.c (.val false [.int .i64 2162078206]))), (14, 1, (.c (.val false [.int .i64 2614888103]))), (15, 1, (.c (.val false [.int .i64 3248222580]))), (16, 1, (.c (.val false [.int .i64 3835390401]))), (17, 1, (.c (.val false [.int .i64 4022224774]))), (18, 1, (.c (.val false [.int .i64 264347078]))), (19, 1, (.c (.val false [.int .i64 604807628]))), (20, 1, (.c (.val false [.int .i64 770255983]))), (21, 1, (.c (.val false [.int .i64 1249150122]))), (22, 1, (.c (.val false [.int .i64 1555081692]))), (23, 1, (.c (.val false [.int .i64 1996064986]))), (24, 1, (.c (.val false [.int .i64 2554220882]))), (25, 1, (.c (.val false [.int .i64 2821834349]))), (26, 1, (.c (.val false [.int .i64 2952996808]))), (27, 1, (.c (.val false [.int .i64 3210313671]))), (28, 1, (.c (.val false [.int .i64 3336571891]))), (29, 1, (.c (.val false [.int .i64 3584528711]))), (30, 1, (.c (.val false [.int .i64 113926993]))), (31, 1, (.c (.val false [.int .i64 338241895]))), (32, 1, (.c (.val false [.int .i64 666307205]))), (33, 1, (.c (.val false [.int .i64 773529912]))), (34, 1, (.c (.val false [.int .i64 1294757372]))), (35, 1, (.c (.val false [.int .i64 1396182291]))), (36, 1, (.c (.val false [.int .i64 1695183700]))), (37, 1, (.c (.val false [.int .i64 1986661051]))), (38, 1, (.c (.val false [.int .i64 2177026350]))), (39, 1, (.c (.val false [.int .i64 2456956037]))), (40, 1, (.c (.val false [.int .i64 2730485921]))), (41, 1, (.c (.val false [.int .i64 2820302411]))), (42, 1, (.c (.val false [.int .i64 3259730800]))), (43, 1, (.c (.val false [.int .i64 3345764771]))), (44, 1, (.c (.val false [.int .i64 3516065817]))), (45, 1, (.c (.val false [.int .i64 3600352804]))), (46, 1, (.c (.val false [.int .i64 4094571909]))), (47, 1, (.c (.val false [.int .i64 275423344]))), (48, 1, (.c (.val false [.int .i64 430227734]))), (49, 1, (.c (.val false [.int .i64 506948616]))), (50, 1, (.c (.val false [.int .i64 659060556]))), (51, 1, (.c (.val false [.int .i64 883997877]))), (52, 1, (.c (.val false [.int .i64 958139571]))), (53, 1, (.c (.val false [.int .i64 1322822218]))), (54, 1, (.c (.val false [.int .i64 1537002063]))), (55, 1, (.c (.val false [.int .i64 1747873779]))), (56, 1, (.c (.val false [.int .i64 1955562222]))), (57, 1, (.c (.val false [.int .i64 2024104815]))), (58, 1, (.c (.val false [.int .i64 2227730452]))), (59, 1, (.c (.val false [.int .i64 2361852424]))), (60, 1, (.c (.val false [.int .i64 2428436474]))), (61, 1, (.c (.val false [.int .i64 2756734187]))), (62, 1, (.c (.val false [.int .i64 3204031479]))), (63, 1, (.c (.val false [.int .i64 3329325298])))]), .i (.mov 0 (.s 1))]) .ret))⟩
theorem k_spec_l04K : cd n_spec_l04K = some c_spec_l04K := by kernel_rfl
theorem l04K_ok : VC cd n_spec_l04K (mkP []) (fun rs _ => rs = [(false, [.o true (some (3, 1)) (ints kk)])]) := by
  refine VC_enter k_spec_l04K rfl ?_
  simp (disch := omega) [c_spec_l04K, ints, kk, VE, VXR, VP, VB, kof, bl, it]
/-! ### A block -/
def gb (b : Bytes) (i : Nat) : Int := ((b.getD i 0).toNat : Int)
def bw (b : Bytes) (i : Nat) : Int := bits2 .or .i64 (bits2 .or .i64 (bits2 .or .i64 (IntKind.i64.wrap (gb b i * 2 ^ min 24 IntKind.i64.bits)) (IntKind.i64.wrap (gb b (i + 1) * 2 ^ min 16 IntKind.i64.bits))) (IntKind.i64.wrap (gb b (i + 2) * 2 ^ min 8 IntKind.i64.bits))) (gb b (i + 3))
def sg0 (x : Int) : Int := bits2 .xor .i64 (bits2 .xor .i64 (turn x 7) (turn x 18)) (x.fdiv (2 ^ min 3 IntKind.i64.bits))
def sg1 (x : Int) : Int := bits2 .xor .i64 (bits2 .xor .i64 (turn x 17) (turn x 19)) (x.fdiv (2 ^ min 10 IntKind.i64.bits))
def wnext (a x c y : Int) : Int := bits2 .and .i64 (IntKind.i64.wrap (IntKind.i64.wrap (IntKind.i64.wrap (a + sg0 x) + c) + sg1 y)) 4294967295
def wsch (b : Bytes) : Nat → List Int
  | 0 => []
  | n + 1 => wsch b n ++ [if n < 16 then bw b (4 * n) else wnext (gi (wsch b n) (n - 16)) (gi (wsch b n) (n - 15)) (gi (wsch b n) (n - 7)) (gi (wsch b n) (n - 2))]
theorem wsch_len (b : Bytes) : ∀ n, (wsch b n).length = n
  | 0 => rfl
  | n + 1 => by simp [wsch, wsch_len b n]
def sT (v : List Int) (k w : Int) : Int := IntKind.i64.wrap (IntKind.i64.wrap (IntKind.i64.wrap (IntKind.i64.wrap (gi v 7 + bits2 .xor .i64 (bits2 .xor .i64 (turn (gi v 4) 6) (turn (gi v 4) 11)) (turn (gi v 4) 25)) + bits2 .xor .i64 (bits2 .and .i64 (gi v 4) (gi v 5)) (bits2 .and .i64 (bits2 .xor .i64 4294967295 (gi v 4)) (gi v 6))) + k) + w)
def sU (v : List Int) : Int := IntKind.i64.wrap (bits2 .xor .i64 (bits2 .xor .i64 (turn (gi v 0) 2) (turn (gi v 0) 13)) (turn (gi v 0) 22) + bits2 .xor .i64 (bits2 .xor .i64 (bits2 .and .i64 (gi v 0) (gi v 1)) (bits2 .and .i64 (gi v 0) (gi v 2))) (bits2 .and .i64 (gi v 1) (gi v 2)))
def rnd (v : List Int) (k w : Int) : List Int := [bits2 .and .i64 (IntKind.i64.wrap (sT v k w + sU v)) 4294967295, gi v 0, gi v 1, gi v 2, bits2 .and .i64 (IntKind.i64.wrap (gi v 3 + sT v k w)) 4294967295, gi v 4, gi v 5, gi v 6]
def rnds (h : List Int) (b : Bytes) : Nat → List Int
  | 0 => h
  | n + 1 => rnd (rnds h b n) (gi kk n) (gi (wsch b 64) n)
theorem rnds_len {h : List Int} (hl : h.length = 8) (b : Bytes) : ∀ n, (rnds h b n).length = 8
  | 0 => hl
  | n + 1 => rfl
def shaB (h : List Int) (b : Bytes) : List Int := (List.range 8).map fun i => bits2 .and .i64 (IntKind.i64.wrap (gi h i + gi (rnds h b 64) i)) 4294967295
theorem gb_get {b : Bytes} {i : Nat} (h : i < b.length) : (bytes b)[i]? = some [.int .u8 (gb b i)] := by simp [bytes, gb, h]
theorem gb_range (b : Bytes) (i : Nat) : 0 ≤ gb b i ∧ gb b i < 256 := by unfold gb; have := (b.getD i 0).toNat_lt; omega
end Go.Eng.F
