/-
  Functions: the hash, trees.
-/
import Derived.Test.YtaicdpancmfhnaaFnV
set_option maxRecDepth 100000
set_option linter.unusedSimpArgs false
set_option linter.unusedVariables false
namespace Go.Eng.F
theorem pad_len (b : Bytes) : (pad b).length = b.length + 1 + zc b.length + 8 ∧ (pad b).length % 64 = 0 := by
  have h := zc_spec b.length
  have e : (pad b).length = b.length + 1 + zc b.length + 8 := by simp [pad, lenb]; omega
  omega
def hs (b : Bytes) : Nat → List Int
  | 0 => init
  | n + 1 => shaB (hs b n) (((pad b).drop (64 * n)).take 64)
theorem hs_len (b : Bytes) : ∀ n, (hs b n).length = 8
  | 0 => rfl
  | n + 1 => by simp [hs, shaB]
theorem hs_word (b : Bytes) : ∀ n, ∀ x ∈ hs b n, word x = true
  | 0, x, hx => by
    have h : ∀ x ∈ init, word x = true := by decide
    exact h x hx
  | n + 1, x, hx => by
    simp only [hs, shaB, List.mem_map] at hx
    obtain ⟨i, _, rfl⟩ := hx
    exact and_word _
def b8 (y : Int) : UInt8 := UInt8.ofNat (IntKind.u8.wrap y).toNat
theorem b8_nat (y : Int) : ((b8 y).toNat : Int) = IntKind.u8.wrap y := by
  obtain ⟨h1, h2⟩ := wrap_in .u8 y
  have e1 : IntKind.u8.min = 0 := rfl
  have e2 : IntKind.u8.max = 255 := rfl
  unfold b8
  rw [UInt8.toNat_ofNat']
  omega
def w4 (x : Int) : Bytes := [b8 (x.fdiv (2 ^ min 24 IntKind.i64.bits)), b8 (x.fdiv (2 ^ min 16 IntKind.i64.bits)), b8 (x.fdiv (2 ^ min 8 IntKind.i64.bits)), b8 x]
theorem w4_take {l : List Int} {k : Nat} (h : k < l.length) : bytes ((l.take (k + 1)).flatMap w4) = bytes ((l.take k).flatMap w4) ++ [[.int .u8 (IntKind.u8.wrap ((gi l k).fdiv (2 ^ min 24 IntKind.i64.bits)))], [.int .u8 (IntKind.u8.wrap ((gi l k).fdiv (2 ^ min 16 IntKind.i64.bits)))], [.int .u8 (IntKind.u8.wrap ((gi l k).fdiv (2 ^ min 8 IntKind.i64.bits)))], [.int .u8 (IntKind.u8.wrap (gi l k))]] := by
  have e : gi l k = l[k] := by simp [gi, h]
  rw [List.take_add_one, List.getElem?_eq_getElem h, e]
  simp only [List.flatMap_append, Option.toList_some, List.flatMap_cons, List.flatMap_nil, List.append_nil, bytes, List.map_append, w4, List.map_cons, List.map_nil, b8_nat]
theorem fm_len : ∀ (l : List Int) (k : Nat), k ≤ l.length → ((l.take k).flatMap w4).length = 4 * k
  | _, 0, _ => by simp
  | [], k + 1, h => by simp at h
  | x :: l, k + 1, h => by
    have := fm_len l k (by simpa using h)
    simp only [List.take_succ_cons, List.flatMap_cons, List.length_append, this]
    simp only [w4, List.length_cons, List.length_nil]
    omega
def sha (b : Bytes) : Bytes := (hs b ((pad b).length / 64)).flatMap w4
abbrev n_impl_Sha : Nat := 135
def c_impl_Sha : AF := ⟨1, 6, [.tmp 2], (.seq (.ops [.i (.mov 2 (.c (.val false [.nils])))]) (.seq (.ops [.i (.call 10 163 false []), .i (.mov 10 (.s 0)), .i (.call 12 164 false [(.s 10)]), .i (.mov 3 (.s 9)), .i (.mov 4 (.s 11))]) (.seq (.seq (.ops [.i (.mov 5 (.c (.val false [.int .i64 0])))]) (.block 0 (.loop [24, 23, 22, 21, 20, 19, 18, 17, 16, 15, 14, 13, 12] (.seq (.seq (.ops [.i (.mov 12 (.s 5)), .i (.mov 13 (.s 4)), .i (.len 14 false (.s 13)), .i (.bin 15 .lss (.s 12) (.s 14))]) (.cond (.s 15) .skip (.exit 0))) (.seq (.block 1 (.ops [.i (.mov 18 (.s 3)), .i (.mov 19 (.s 4)), .i (.mov 20 (.s 5)), .i (.mov 21 (.s 5)), .i (.bin 22 .add (.s 21) (.c (.val false [.int .i64 64]))), .i (.slc 23 1 (.s 19) (some (.s 20)) (some (.s 22))), .i (.call 25 165 false [(.s 18), (.s 23)]), .i (.mov 3 (.s 24))])) (.ops [.i (.mov 16 (.s 5)), .i (.bin 17 .add (.s 16) (.c (.val false [.int .i64 64]))), .i (.mov 5 (.s 17))])))))) (.seq (.ops [.i (.bse 25), .i (.mov 6 (.s 25))]) (.seq (.seq (.ops [.i (.mov 26 (.s 3)), .i (.len 27 false (.s 26)), .i (.mov 28 (.c (.val false [.int .i64 0])))]) (.block 2 (.loop [46, 45, 44, 43, 42, 41, 40, 39, 38, 37, 36, 35, 34, 33, 32, 31, 30, 29, 8] (.seq (.ops [.i (.bin 29 .lss (.s 28) (.s 27))]) (.seq (.cond (.s 29) .skip (.exit 2)) (.seq (.block 3 (.seq (.ops [.i (.iad 30 (.s 26) (.s 28) 1), .i (.ldh 31 (.s 30) 1 false), .i (.mov 8 (.s 31))]) (.ops [.i (.mov 32 (.s 6)), .i (.mov 33 (.s 8)), .i (.bin 34 .shr (.s 33) (.c (.val false [.int .u64 24]))), .i (.cvi 35 .u8 (.s 34)), .i (.mov 36 (.s 8)), .i (.bin 37 .shr (.s 36) (.c (.val false [.int .u64 16]))), .i (.cvi 38 .u8 (.s 37)), .i (.mov 39 (.s 8)), .i (.bin 40 .shr (.s 39) (.c (.val false [.int .u64 8]))), .i (.cvi 41 .u8 (.s 40)), .i (.mov 42 (.s 8)), .i (.cvi 43 .u8 (.s 42)), .i (.lsl 44 1 4 [.int .u8 0] [(0, 1, (.s 35)), (1, 1, (.s 38)), (2, 1, (.s 41)), (3, 1, (.s 43))]), .i (.app 45 5 1 1 (.s 32) (.s 44)), .i (.mov 6 (.s 45))]))) (.ops [.i (.bin 46 .add (.s 28) (.c (.val false [.int .i64 1]))), .i (.mov 28 (.s 46))]))))))) (.seq (.ops [.i (.mov 47 (.s 6)), .i (.mov 2 (.s 47))]) .ret))))))⟩
theorem k_impl_Sha : cd n_impl_Sha = some c_impl_Sha := by kernel_rfl
theorem impl_Sha_ok (b : Bytes) (hb : b.length ≤ 1073741824) : VC cd n_impl_Sha (mkP [(false, [.sl (bytes b)])]) (fun rs _ => rs = [(false, [.o true (some (5, 1)) (bytes (sha b))])]) := by
  have hp := pad_len b
  have hz := zc_spec b.length
  refine VC_enter k_impl_Sha rfl ?_
  simp (disch := omega) [c_impl_Sha, VE, VXR, VP, VB, kof, bl, it]
  refine VXC_e (impl_ShaInit_ok) rfl rfl ?_
  simp (disch := omega) [VE, VXR, VP, VB, kof, bl, it]
  refine VXC_e (impl_ShaPad_ok b hb) rfl rfl ?_
  simp (disch := omega) [VE, VXR, VP, VB, kof, bl, it]
  refine VX_loop4 (σ := Nat × Nat) (f0 := _) (by simp (disch := omega) [VE, VXR, VP, VB, kof, bl, it]; rfl) ((Weak.frz (.ow 106496 2)).trans (Weak.ren (s := 3) (k := 90112) (k' := 212992) (by simp (disch := omega) [VE, VXR, VP, VB, kof, bl, it]) rfl (by omega))) (f1 := _) (es0 := _) (by simp (disch := omega) [VE, VXR, VP, VB, kof, bl, it]; rfl) (by simp (disch := omega) [renS, rmKs, frzD, St.put, VE, VXR, VP, VB, kof, bl, it]; rfl) (fun p => [(5, .val false [.int .i64 (64 * (p.1 : Int))]), (3, .val false [.ow 212992 p.2])]) (fun p => [(212992, .sl p.2 true true (some (3, 1)) (ints (hs b p.1)))])
    (fun p g => g + p.1 = (pad b).length / 64) (0, _) ((pad b).length / 64) (by simp (disch := omega) [renS, frzD, St.put, VE, VXR, VP, VB, kof, bl, it]; rfl) (by simp (disch := omega) [hs, renS, rmKs, frzD, St.put, VE, VXR, VP, VB, kof, bl, it]) (by omega) ?_
  rintro ⟨k, v⟩ n g hg
  simp only at hg
  simp (disch := omega) [bytes_len, VE, VXR, VP, VB, kof, bl, it]
  refine VXB_dec (fun h1 => ?_) (fun h1 => ?_)
  · have hk : 64 * k + 64 ≤ (pad b).length := by omega
    have p1 : (64 : Int) * (k : Int) + 64 ≤ ((pad b).length : Int) := by omega
    have p2 : ((64 : Int) * (k : Int)).toNat = 64 * k := by omega
    have p3 : (0 : Int) ≤ 64 * (k : Int) := by omega
    have p4 : ((64 : Int) * (k : Int) + 64 - 64 * (k : Int)).toNat = 64 := by omega
    have p5 : (64 : Int) * (k : Int) ≤ 64 * (k : Int) + 64 := by omega
    have hx : ((bytes (pad b)).drop (64 * k)).take 64 = bytes (((pad b).drop (64 * k)).take 64) := by simp [bytes]
    simp (disch := omega) [bytes_len, p1, p2, p3, p4, p5, hx, wid_bytes, VE, VXR, VP, VB, kof, bl, it]
    refine VXC_e (impl_ShaBlock_ok (hs b k) (((pad b).drop (64 * k)).take 64) (hs_len b k) (hs_word b k) (by simp; omega)) (by simp [argsD, argDs, argD, St.slc, lk_cons, lk] <;> first | rfl | exact ⟨rfl, rfl⟩ | exact ⟨rfl, rfl, rfl⟩) rfl ?_
    simp (disch := omega) [VE, VXR, VP, VB, kof, bl, it]
    exact ⟨k + 1, _, g - 1, by omega, by omega, ⟨rfl, by omega⟩, rfl, rfl⟩
  have hk : k = (pad b).length / 64 := by omega
  subst hk
  have hl := hs_len b ((pad b).length / 64)
  simp (disch := omega) [ints_len, hl, VE, VXR, VP, VB, kof, bl, it]
  refine VX_loop3 (σ := Nat × Nat) (f1 := _) (es0 := _) (by simp (disch := omega) [VE, VXR, VP, VB, kof, bl, it]; rfl) (by simp (disch := omega) [VE, VXR, VP, VB, kof, bl, it]; rfl) (fun p => [(28, .val false [.int .i64 p.1]), (6, .val false [.ow 25 p.2])]) (fun p => [(25, .sl p.2 true true (some (5, 1)) (bytes (((hs b ((pad b).length / 64)).take p.1).flatMap w4)))])
    (fun p g => g + p.1 = 8) (0, _) 8 (by simp (disch := omega) [VE, VXR, VP, VB, kof, bl, it]; rfl) (by simp (disch := omega) [bytes, VE, VXR, VP, VB, kof, bl, it]) (by omega) ?_
  rintro ⟨k, w⟩ n g hg
  simp only at hg
  simp (disch := omega) [VE, VXR, VP, VB, kof, bl, it]
  refine VXB_dec (fun h2 => ?_) (fun h2 => ?_)
  · have hk : k < 8 := by omega
    have e1 : (ints (hs b ((pad b).length / 64))).length = 8 := by rw [ints_len, hl]
    have e2 : (bytes (((hs b ((pad b).length / 64)).take k).flatMap w4)).length = 4 * k := by rw [bytes_len]; exact fm_len _ _ (by omega)
    simp (disch := omega) [e1, e2, ints_ge, VE, VXR, VP, VB, kof, bl, it]
    exact ⟨k + 1, _, g - 1, by omega, by omega, ⟨by omega, rfl⟩, rfl, w4_take (by omega)⟩
  · have hk : k = 8 := by omega
    subst hk
    simp (disch := omega) [VE, VXR, VP, VB, kof, bl, it]
    rw [List.take_of_length_le (by omega)]
    rfl
abbrev n_spec_Sha : Nat := 129
def c_spec_Sha : AF := ⟨1, 6, [.tmp 2], (.seq (.ops [.i (.mov 2 (.c (.val false [.nils])))]) (.seq (.ops [.i (.call 10 160 false []), .i (.mov 3 (.s 9))]) (.seq (.ops [.i (.mov 10 (.s 0)), .i (.call 12 161 false [(.s 10)]), .i (.mov 4 (.s 11))]) (.seq (.seq (.ops [.i (.mov 5 (.c (.val false [.int .i64 0])))]) (.block 0 (.loop [24, 23, 22, 21, 20, 19, 18, 17, 16, 15, 14, 13, 12] (.seq (.seq (.ops [.i (.mov 12 (.s 5)), .i (.mov 13 (.s 4)), .i (.len 14 false (.s 13)), .i (.bin 15 .lss (.s 12) (.s 14))]) (.cond (.s 15) .skip (.exit 0))) (.seq (.block 1 (.ops [.i (.mov 18 (.s 3)), .i (.mov 19 (.s 4)), .i (.mov 20 (.s 5)), .i (.mov 21 (.s 5)), .i (.bin 22 .add (.s 21) (.c (.val false [.int .i64 64]))), .i (.slc 23 1 (.s 19) (some (.s 20)) (some (.s 22))), .i (.call 25 162 false [(.s 18), (.s 23)]), .i (.mov 3 (.s 24))])) (.ops [.i (.mov 16 (.s 5)), .i (.bin 17 .add (.s 16) (.c (.val false [.int .i64 64]))), .i (.mov 5 (.s 17))])))))) (.seq (.ops [.i (.bse 25), .i (.mov 6 (.s 25))]) (.seq (.seq (.ops [.i (.mov 26 (.s 3)), .i (.len 27 false (.s 26)), .i (.mov 28 (.c (.val false [.int .i64 0])))]) (.block 2 (.loop [46, 45, 44, 43, 42, 41, 40, 39, 38, 37, 36, 35, 34, 33, 32, 31, 30, 29, 8] (.seq (.ops [.i (.bin 29 .lss (.s 28) (.s 27))]) (.seq (.cond (.s 29) .skip (.exit 2)) (.seq (.block 3 (.seq (.ops [.i (.iad 30 (.s 26) (.s 28) 1), .i (.ldh 31 (.s 30) 1 false), .i (.mov 8 (.s 31))]) (.ops [.i (.mov 32 (.s 6)), .i (.mov 33 (.s 8)), .i (.bin 34 .shr (.s 33) (.c (.val false [.int .u64 24]))), .i (.cvi 35 .u8 (.s 34)), .i (.mov 36 (.s 8)), .i (.bin 37 .shr (.s 36) (.c (.val false [.int .u64 16]))), .i (.cvi 38 .u8 (.s 37)), .i (.mov 39 (.s 8)), .i (.bin 40 .shr (.s 39) (.c (.val false [.int .u64 8]))), .i (.cvi 41 .u8 (.s 40)), .i (.mov 42 (.s 8)), .i (.cvi 43 .u8 (.s 42)), .i (.lsl 44 1 4 [.int .u8 0] [(0, 1, (.s 35)), (1, 1, (.s 38)), (2, 1, (.s 41)), (3, 1, (.s 43))]), .i (.app 45 5 1 1 (.s 32) (.s 44)), .i (.mov 6 (.s 45))]))) (.ops [.i (.bin 46 .add (.s 28) (.c (.val false [.int .i64 1]))), .i (.mov 28 (.s 46))]))))))) (.seq (.ops [.i (.mov 47 (.s 6)), .i (.mov 2 (.s 47))]) .ret)))))))⟩
theorem k_spec_Sha : cd n_spec_Sha = some c_spec_Sha := by kernel_rfl
theorem spec_Sha_ok (b : Bytes) (hb : b.length ≤ 1073741824) : VC cd n_spec_Sha (mkP [(false, [.sl (bytes b)])]) (fun rs _ => rs = [(false, [.o true (some (5, 1)) (bytes (sha b))])]) := by
  have hp := pad_len b
  have hz := zc_spec b.length
  refine VC_enter k_spec_Sha rfl ?_
  simp (disch := omega) [c_spec_Sha, VE, VXR, VP, VB, kof, bl, it]
  refine VXC_e (spec_ShaInit_ok) rfl rfl ?_
  simp (disch := omega) [VE, VXR, VP, VB, kof, bl, it]
  refine VXC_e (spec_ShaPad_ok b hb) rfl rfl ?_
  simp (disch := omega) [VE, VXR, VP, VB, kof, bl, it]
  refine VX_loop4 (σ := Nat × Nat) (f0 := _) (by simp (disch := omega) [VE, VXR, VP, VB, kof, bl, it]; rfl) ((Weak.frz (.ow 106496 2)).trans (Weak.ren (s := 3) (k := 90112) (k' := 212992) (by simp (disch := omega) [VE, VXR, VP, VB, kof, bl, it]) rfl (by omega))) (f1 := _) (es0 := _) (by simp (disch := omega) [VE, VXR, VP, VB, kof, bl, it]; rfl) (by simp (disch := omega) [renS, rmKs, frzD, St.put, VE, VXR, VP, VB, kof, bl, it]; rfl) (fun p => [(5, .val false [.int .i64 (64 * (p.1 : Int))]), (3, .val false [.ow 212992 p.2])]) (fun p => [(212992, .sl p.2 true true (some (3, 1)) (ints (hs b p.1)))])
    (fun p g => g + p.1 = (pad b).length / 64) (0, _) ((pad b).length / 64) (by simp (disch := omega) [renS, frzD, St.put, VE, VXR, VP, VB, kof, bl, it]; rfl) (by simp (disch := omega) [hs, renS, rmKs, frzD, St.put, VE, VXR, VP, VB, kof, bl, it]) (by omega) ?_
  rintro ⟨k, v⟩ n g hg
  simp only at hg
  simp (disch := omega) [bytes_len, VE, VXR, VP, VB, kof, bl, it]
  refine VXB_dec (fun h1 => ?_) (fun h1 => ?_)
  · have hk : 64 * k + 64 ≤ (pad b).length := by omega
    have p1 : (64 : Int) * (k : Int) + 64 ≤ ((pad b).length : Int) := by omega
    have p2 : ((64 : Int) * (k : Int)).toNat = 64 * k := by omega
    have p3 : (0 : Int) ≤ 64 * (k : Int) := by omega
    have p4 : ((64 : Int) * (k : Int) + 64 - 64 * (k : Int)).toNat = 64 := by omega
    have p5 : (64 : Int) * (k : Int) ≤ 64 * (k : Int) + 64 := by omega
    have hx : ((bytes (pad b)).drop (64 * k)).take 64 = bytes (((pad b).drop (64 * k)).take 64) := by simp [bytes]
    simp (disch := omega) [bytes_len, p1, p2, p3, p4, p5, hx, wid_bytes, VE, VXR, VP, VB, kof, bl, it]
    refine VXC_e (spec_ShaBlock_ok (hs b k) (((pad b).drop (64 * k)).take 64) (hs_len b k) (hs_word b k) (by simp; omega)) (by simp [argsD, argDs, argD, St.slc, lk_cons, lk] <;> first | rfl | exact ⟨rfl, rfl⟩ | exact ⟨rfl, rfl, rfl⟩) rfl ?_
    simp (disch := omega) [VE, VXR, VP, VB, kof, bl, it]
    exact ⟨k + 1, _, g - 1, by omega, by omega, ⟨rfl, by omega⟩, rfl, rfl⟩
  have hk : k = (pad b).length / 64 := by omega
  subst hk
  have hl := hs_len b ((pad b).length / 64)
  simp (disch := omega) [ints_len, hl, VE, VXR, VP, VB, kof, bl, it]
  refine VX_loop3 (σ := Nat × Nat) (f1 := _) (es0 := _) (by simp (disch := omega) [VE, VXR, VP, VB, kof, bl, it]; rfl) (by simp (disch := omega) [VE, VXR, VP, VB, kof, bl, it]; rfl) (fun p => [(28, .val false [.int .i64 p.1]), (6, .val false [.ow 25 p.2])]) (fun p => [(25, .sl p.2 true true (some (5, 1)) (bytes (((hs b ((pad b).length / 64)).take p.1).flatMap w4)))])
    (fun p g => g + p.1 = 8) (0, _) 8 (by simp (disch := omega) [VE, VXR, VP, VB, kof, bl, it]; rfl) (by simp (disch := omega) [bytes, VE, VXR, VP, VB, kof, bl, it]) (by omega) ?_
  rintro ⟨k, w⟩ n g hg
  simp only at hg
  simp (disch := omega) [VE, VXR, VP, VB, kof, bl, it]
  refine VXB_dec (fun h2 => ?_) (fun h2 => ?_)
  · have hk : k < 8 := by omega
    have e1 : (ints (hs b ((pad b).length / 64))).length = 8 := by rw [ints_len, hl]
    have e2 : (bytes (((hs b ((pad b).length / 64)).take k).flatMap w4)).length = 4 * k := by rw [bytes_len]; exact fm_len _ _ (by omega)
    simp (disch := omega) [e1, e2, ints_ge, VE, VXR, VP, VB, kof, bl, it]
    exact ⟨k + 1, _, g - 1, by omega, by omega, ⟨by omega, rfl⟩, rfl, w4_take (by omega)⟩
  · have hk : k = 8 := by omega
    subst hk
    simp (disch := omega) [VE, VXR, VP, VB, kof, bl, it]
    rw [List.take_of_length_le (by omega)]
    rfl
end Go.Eng.F
