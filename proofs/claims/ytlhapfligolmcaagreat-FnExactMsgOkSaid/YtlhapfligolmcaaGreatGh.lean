import Derived.Test.YtlhapfligolmcaaGreatGg
set_option maxRecDepth 100000
set_option linter.unusedSimpArgs false
set_option linter.unusedVariables false
namespace Go.Eng.F
theorem pad_len (b : Bytes) : (pad b).length = b.length + 1 + zc b.length + 8 ∧ (pad b).length % 64 = 0 := by
 have h := zc_spec b.length
 have e : (pad b).length = b.length + 1 + zc b.length + 8 := by simp [pad, lenb]; omega
 omega
def hs (b : Bytes) : Nat → List Int
 | 0 => init
 | n + 1 => shaB (hs b n) (((pad b).drop (64 * n)).take 64)
theorem hs_len (b : Bytes) : ∀ n, (hs b n).length = 8
 | 0 => rfl
 | n + 1 => by simp [hs, shaB]
theorem hs_word (b : Bytes) : ∀ n, ∀ x ∈ hs b n, word x = true
 | 0, x, hx => by
  have h : ∀ x ∈ init, word x = true := by decide
  exact h x hx
 | n + 1, x, hx => by
  simp only [hs, shaB, List.mem_map] at hx
  obtain ⟨i, _, rfl⟩ := hx
  exact and_word _
def b8 (y : Int) : UInt8 := UInt8.ofNat (IntKind.u8.wrap y).toNat
theorem b8_nat (y : Int) : ((b8 y).toNat : Int) = IntKind.u8.wrap y := by
 obtain ⟨h1, h2⟩ := wrap_in .u8 y
 have e1 : IntKind.u8.min = 0 := rfl
 have e2 : IntKind.u8.max = 255 := rfl
 unfold b8
 rw [UInt8.toNat_ofNat']
 omega
def w4 (x : Int) : Bytes := [b8 (x.fdiv (2 ^ min 24 IntKind.i64.bits)), b8 (x.fdiv (2 ^ min 16 IntKind.i64.bits)), b8 (x.fdiv (2 ^ min 8 IntKind.i64.bits)), b8 x]
theorem w4_take {l : List Int} {k : Nat} (h : k < l.length) : bytes ((l.take (k + 1)).flatMap w4) = bytes ((l.take k).flatMap w4) ++ [[.int .u8 (IntKind.u8.wrap ((gi l k).fdiv (2 ^ min 24 IntKind.i64.bits)))], [.int .u8 (IntKind.u8.wrap ((gi l k).fdiv (2 ^ min 16 IntKind.i64.bits)))], [.int .u8 (IntKind.u8.wrap ((gi l k).fdiv (2 ^ min 8 IntKind.i64.bits)))], [.int .u8 (IntKind.u8.wrap (gi l k))]] := by
 have e : gi l k = l[k] := by simp [gi, h]
 rw [List.take_add_one, List.getElem?_eq_getElem h, e]
 simp only [List.flatMap_append, Option.toList_some, List.flatMap_cons, List.flatMap_nil, List.append_nil, bytes, List.map_append, w4, List.map_cons, List.map_nil, b8_nat]
theorem fm_len : ∀ (l : List Int) (k : Nat), k ≤ l.length → ((l.take k).flatMap w4).length = 4 * k
 | _, 0, _ => by simp
 | [], k + 1, h => by simp at h
 | x :: l, k + 1, h => by
  have := fm_len l k (by simpa using h)
  simp only [List.take_succ_cons, List.flatMap_cons, List.length_append, this]
  simp only [w4, List.length_cons, List.length_nil]
  omega
def sha (b : Bytes) : Bytes := (hs b ((pad b).length / 64)).flatMap w4
abbrev n_impl_Sha : Nat := 130
def c_impl_Sha : AF := ⟨1, 6, [.tmp 2], (.seq (.ops [.i (.mov 2 (.c (.val false [.nils])))]) (.seq (.ops [.i (.call 10 217 false []), qm 10 0, .i (.call 12 218 false [(.s 10)]), qm 3 9, qm 4 11]) (.seq (.seq (.ops [.i (.mov 5 (qi 0))]) (.block 0 (.loop [24, 23, 22, 21, 20, 19, 18, 17, 16, 15, 14, 13, 12] (.seq (.seq (.ops [qm 12 5, qm 13 4, .i (.len 14 false (.s 13)), .i (.bin 15 .lss (.s 12) (.s 14))]) (.cond (.s 15) .skip (.exit 0))) (.seq (.block 1 (.ops [qm 18 3, qm 19 4, qm 20 5, qm 21 5, .i (.bin 22 .add (.s 21) (qi 64)), .i (.slc 23 1 (.s 19) (some (.s 20)) (some (.s 22))), .i (.call 25 219 false [(.s 18), (.s 23)]), qm 3 24])) (.ops [qm 16 5, .i (.bin 17 .add (.s 16) (qi 64)), qm 5 17])))))) (.seq (.ops [.i (.bse 25), qm 6 25]) (.seq (.seq (.ops [qm 26 3, .i (.len 27 false (.s 26)), .i (.mov 28 (qi 0))]) (.block 2 (.loop [46, 45, 44, 43, 42, 41, 40, 39, 38, 37, 36, 35, 34, 33, 32, 31, 30, 29, 8] (.seq (.ops [.i (.bin 29 .lss (.s 28) (.s 27))]) (.seq (.cond (.s 29) .skip (.exit 2)) (.seq (.block 3 (.seq (.ops [.i (.iad 30 (.s 26) (.s 28) 1), .i (.ldh 31 (.s 30) 1 false), qm 8 31]) (.ops [qm 32 6, qm 33 8, .i (.bin 34 .shr (.s 33) (.c (.val false [.int .u64 24]))), .i (.cvi 35 .u8 (.s 34)), qm 36 8, .i (.bin 37 .shr (.s 36) (.c (.val false [.int .u64 16]))), .i (.cvi 38 .u8 (.s 37)), qm 39 8, .i (.bin 40 .shr (.s 39) (.c (.val false [.int .u64 8]))), .i (.cvi 41 .u8 (.s 40)), qm 42 8, .i (.cvi 43 .u8 (.s 42)), .i (.lsl 44 1 4 [.int .u8 0] [(0, 1, (.s 35)), (1, 1, (.s 38)), (2, 1, (.s 41)), (3, 1, (.s 43))]), .i (.app 45 5 1 1 (.s 32) (.s 44)), qm 6 45]))) (.ops [.i (.bin 46 .add (.s 28) (qi 1)), qm 28 46]))))))) (.seq (.ops [qm 47 6, qm 2 47]) .ret))))))⟩
theorem k_impl_Sha : cd n_impl_Sha = some c_impl_Sha := by kernel_rfl
theorem impl_Sha_ok (b : Bytes) (hb : b.length ≤ 1073741824) : VC cd n_impl_Sha (mkP [(false, [.sl (bytes b)])]) (fun rs _ => rs = [(false, [.o true (some (5, 1)) (bytes (sha b))])]) := by
 have hp := pad_len b
 have hz := zc_spec b.length
 refine VC_enter k_impl_Sha rfl ?_
 simp (disch := omega) [c_impl_Sha, VY]
 refine VXC_e (impl_ShaInit_ok) rfl rfl ?_
 simp (disch := omega) [VY]
 refine VXC_e (impl_ShaPad_ok b hb) rfl rfl ?_
 simp (disch := omega) [VY]
 refine VX_loop4 (σ := Nat × Nat) (f0 := _) (by simp (disch := omega) [VY]; rfl) ((Weak.frz (.ow 106496 2)).trans (Weak.ren (s := 3) (k := 90112) (k' := 212992) (by simp (disch := omega) [VY]) rfl (by omega))) (f1 := _) (es0 := _) (by simp (disch := omega) [VY]; rfl) (by simp (disch := omega) [renS, rmKs, frzD, St.put, VY]; rfl) (fun p => [(5, .val false [.int .i64 (64 * (p.1 : Int))]), (3, .val false [.ow 212992 p.2])]) (fun p => [(212992, .sl p.2 true true (some (3, 1)) (ints (hs b p.1)))])
  (fun p g => g + p.1 = (pad b).length / 64) (0, _) ((pad b).length / 64) (by simp (disch := omega) [renS, frzD, St.put, VY]; rfl) (by simp (disch := omega) [hs, renS, rmKs, frzD, St.put, VY]) (by omega) ?_
 rintro ⟨k, v⟩ n g hg
 simp only at hg
 simp (disch := omega) [bytes_len, VY]
 refine VXB_dec (fun h1 => ?_) (fun h1 => ?_)
 ·have hk : 64 * k + 64 ≤ (pad b).length := by omega
  have p1 : (64 : Int) * (k : Int) + 64 ≤ ((pad b).length : Int) := by omega
  have p2 : ((64 : Int) * (k : Int)).toNat = 64 * k := by omega
  have p3 : (0 : Int) ≤ 64 * (k : Int) := by omega
  have p4 : ((64 : Int) * (k : Int) + 64 - 64 * (k : Int)).toNat = 64 := by omega
  have p5 : (64 : Int) * (k : Int) ≤ 64 * (k : Int) + 64 := by omega
  have hx : ((bytes (pad b)).drop (64 * k)).take 64 = bytes (((pad b).drop (64 * k)).take 64) := by simp [bytes]
  simp (disch := omega) [bytes_len, p1, p2, p3, p4, p5, hx, wid_bytes, VY]
  refine VXC_e (impl_ShaBlock_ok (hs b k) (((pad b).drop (64 * k)).take 64) (hs_len b k) (hs_word b k) (by simp; omega)) (by first | rfl | (simp [argsD, argDs, argD, St.slc, lk_cons, lk] <;> repeat' constructor)) rfl ?_
  simp (disch := omega) [VY]
  exact ⟨k + 1, _, g - 1, by omega, by omega, ⟨rfl, by omega⟩, rfl, rfl⟩
 have hk : k = (pad b).length / 64 := by omega
 subst hk
 have hl := hs_len b ((pad b).length / 64)
 simp (disch := omega) [ints_len, hl, VY]
 refine VX_loop3 (σ := Nat × Nat) (f1 := _) (es0 := _) (by simp (disch := omega) [VY]; rfl) (by simp (disch := omega) [VY]; rfl) (fun p => [(28, .val false [.int .i64 p.1]), (6, .val false [.ow 25 p.2])]) (fun p => [(25, .sl p.2 true true (some (5, 1)) (bytes (((hs b ((pad b).length / 64)).take p.1).flatMap w4)))])
  (fun p g => g + p.1 = 8) (0, _) 8 (by simp (disch := omega) [VY]; rfl) (by simp (disch := omega) [bytes, VY]) (by omega) ?_
 rintro ⟨k, w⟩ n g hg
 simp only at hg
 simp (disch := omega) [VY]
 refine VXB_dec (fun h2 => ?_) (fun h2 => ?_)
 ·have hk : k < 8 := by omega
  have e1 : (ints (hs b ((pad b).length / 64))).length = 8 := by rw [ints_len, hl]
  have e2 : (bytes (((hs b ((pad b).length / 64)).take k).flatMap w4)).length = 4 * k := by rw [bytes_len]; exact fm_len _ _ (by omega)
  simp (disch := omega) [e1, e2, ints_ge, VY]
  exact ⟨k + 1, _, g - 1, by omega, by omega, ⟨by omega, rfl⟩, rfl, w4_take (by omega)⟩
 ·have hk : k = 8 := by omega
  subst hk
  simp (disch := omega) [VY]
  rw [List.take_of_length_le (by omega)]
  rfl
abbrev n_spec_Sha : Nat := 205
def c_spec_Sha : AF := ⟨1, 6, [.tmp 2], (.seq (.ops [.i (.mov 2 (.c (.val false [.nils])))]) (.seq (.ops [.i (.call 10 257 false []), qm 3 9]) (.seq (.ops [qm 10 0, .i (.call 12 258 false [(.s 10)]), qm 4 11]) (.seq (.seq (.ops [.i (.mov 5 (qi 0))]) (.block 0 (.loop [24, 23, 22, 21, 20, 19, 18, 17, 16, 15, 14, 13, 12] (.seq (.seq (.ops [qm 12 5, qm 13 4, .i (.len 14 false (.s 13)), .i (.bin 15 .lss (.s 12) (.s 14))]) (.cond (.s 15) .skip (.exit 0))) (.seq (.block 1 (.ops [qm 18 3, qm 19 4, qm 20 5, qm 21 5, .i (.bin 22 .add (.s 21) (qi 64)), .i (.slc 23 1 (.s 19) (some (.s 20)) (some (.s 22))), .i (.call 25 259 false [(.s 18), (.s 23)]), qm 3 24])) (.ops [qm 16 5, .i (.bin 17 .add (.s 16) (qi 64)), qm 5 17])))))) (.seq (.ops [.i (.bse 25), qm 6 25]) (.seq (.seq (.ops [qm 26 3, .i (.len 27 false (.s 26)), .i (.mov 28 (qi 0))]) (.block 2 (.loop [46, 45, 44, 43, 42, 41, 40, 39, 38, 37, 36, 35, 34, 33, 32, 31, 30, 29, 8] (.seq (.ops [.i (.bin 29 .lss (.s 28) (.s 27))]) (.seq (.cond (.s 29) .skip (.exit 2)) (.seq (.block 3 (.seq (.ops [.i (.iad 30 (.s 26) (.s 28) 1), .i (.ldh 31 (.s 30) 1 false), qm 8 31]) (.ops [qm 32 6, qm 33 8, .i (.bin 34 .shr (.s 33) (.c (.val false [.int .u64 24]))), .i (.cvi 35 .u8 (.s 34)), qm 36 8, .i (.bin 37 .shr (.s 36) (.c (.val false [.int .u64 16]))), .i (.cvi 38 .u8 (.s 37)), qm 39 8, .i (.bin 40 .shr (.s 39) (.c (.val false [.int .u64 8]))), .i (.cvi 41 .u8 (.s 40)), qm 42 8, .i (.cvi 43 .u8 (.s 42)), .i (.lsl 44 1 4 [.int .u8 0] [(0, 1, (.s 35)), (1, 1, (.s 38)), (2, 1, (.s 41)), (3, 1, (.s 43))]), .i (.app 45 5 1 1 (.s 32) (.s 44)), qm 6 45]))) (.ops [.i (.bin 46 .add (.s 28) (qi 1)), qm 28 46]))))))) (.seq (.ops [qm 47 6, qm 2 47]) .ret)))))))⟩
theorem k_spec_Sha : cd n_spec_Sha = some c_spec_Sha := by kernel_rfl
theorem spec_Sha_ok (b : Bytes) (hb : b.length ≤ 1073741824) : VC cd n_spec_Sha (mkP [(false, [.sl (bytes b)])]) (fun rs _ => rs = [(false, [.o true (some (5, 1)) (bytes (sha b))])]) := by
 have hp := pad_len b
 have hz := zc_spec b.length
 refine VC_enter k_spec_Sha rfl ?_
 simp (disch := omega) [c_spec_Sha, VY]
 refine VXC_e (spec_ShaInit_ok) rfl rfl ?_
 simp (disch := omega) [VY]
 refine VXC_e (spec_ShaPad_ok b hb) rfl rfl ?_
 simp (disch := omega) [VY]
 refine VX_loop4 (σ := Nat × Nat) (f0 := _) (by simp (disch := omega) [VY]; rfl) ((Weak.frz (.ow 106496 2)).trans (Weak.ren (s := 3) (k := 90112) (k' := 212992) (by simp (disch := omega) [VY]) rfl (by omega))) (f1 := _) (es0 := _) (by simp (disch := omega) [VY]; rfl) (by simp (disch := omega) [renS, rmKs, frzD, St.put, VY]; rfl) (fun p => [(5, .val false [.int .i64 (64 * (p.1 : Int))]), (3, .val false [.ow 212992 p.2])]) (fun p => [(212992, .sl p.2 true true (some (3, 1)) (ints (hs b p.1)))])
  (fun p g => g + p.1 = (pad b).length / 64) (0, _) ((pad b).length / 64) (by simp (disch := omega) [renS, frzD, St.put, VY]; rfl) (by simp (disch := omega) [hs, renS, rmKs, frzD, St.put, VY]) (by omega) ?_
 rintro ⟨k, v⟩ n g hg
 simp only at hg
 simp (disch := omega) [bytes_len, VY]
 refine VXB_dec (fun h1 => ?_) (fun h1 => ?_)
 ·have hk : 64 * k + 64 ≤ (pad b).length := by omega
  have p1 : (64 : Int) * (k : Int) + 64 ≤ ((pad b).length : Int) := by omega
  have p2 : ((64 : Int) * (k : Int)).toNat = 64 * k := by omega
  have p3 : (0 : Int) ≤ 64 * (k : Int) := by omega
  have p4 : ((64 : Int) * (k : Int) + 64 - 64 * (k : Int)).toNat = 64 := by omega
  have p5 : (64 : Int) * (k : Int) ≤ 64 * (k : Int) + 64 := by omega
  have hx : ((bytes (pad b)).drop (64 * k)).take 64 = bytes (((pad b).drop (64 * k)).take 64) := by simp [bytes]
  simp (disch := omega) [bytes_len, p1, p2, p3, p4, p5, hx, wid_bytes, VY]
  refine VXC_e (spec_ShaBlock_ok (hs b k) (((pad b).drop (64 * k)).take 64) (hs_len b k) (hs_word b k) (by simp; omega)) (by first | rfl | (simp [argsD, argDs, argD, St.slc, lk_cons, lk] <;> repeat' constructor)) rfl ?_
  simp (disch := omega) [VY]
  exact ⟨k + 1, _, g - 1, by omega, by omega, ⟨rfl, by omega⟩, rfl, rfl⟩
 have hk : k = (pad b).length / 64 := by omega
 subst hk
 have hl := hs_len b ((pad b).length / 64)
 simp (disch := omega) [ints_len, hl, VY]
 refine VX_loop3 (σ := Nat × Nat) (f1 := _) (es0 := _) (by simp (disch := omega) [VY]; rfl) (by simp (disch := omega) [VY]; rfl) (fun p => [(28, .val false [.int .i64 p.1]), (6, .val false [.ow 25 p.2])]) (fun p => [(25, .sl p.2 true true (some (5, 1)) (bytes (((hs b ((pad b).length / 64)).take p.1).flatMap w4)))])
  (fun p g => g + p.1 = 8) (0, _) 8 (by simp (disch := omega) [VY]; rfl) (by simp (disch := omega) [bytes, VY]) (by omega) ?_
 rintro ⟨k, w⟩ n g hg
 simp only at hg
 simp (disch := omega) [VY]
 refine VXB_dec (fun h2 => ?_) (fun h2 => ?_)
 ·have hk : k < 8 := by omega
  have e1 : (ints (hs b ((pad b).length / 64))).length = 8 := by rw [ints_len, hl]
  have e2 : (bytes (((hs b ((pad b).length / 64)).take k).flatMap w4)).length = 4 * k := by rw [bytes_len]; exact fm_len _ _ (by omega)
  simp (disch := omega) [e1, e2, ints_ge, VY]
  exact ⟨k + 1, _, g - 1, by omega, by omega, ⟨by omega, rfl⟩, rfl, w4_take (by omega)⟩
 ·have hk : k = 8 := by omega
  subst hk
  simp (disch := omega) [VY]
  rw [List.take_of_length_le (by omega)]
  rfl
end Go.Eng.F
namespace Go.Eng.F
abbrev n_impl_LeafHash : Nat := 291
def c_impl_LeafHash : AF := ⟨1, 3, [.tmp 2], (.seq (.ops [.i (.mov 2 (.c (.val false [.nils])))]) (.seq (.ops [.i (.bsl 3 5 1 1 [.int .u8 0] [(0, 1, (.c (.val false [.int .u8 0])))]), qm 4 0, .i (.app 5 5 1 1 (.s 3) (.s 4)), .i (.call 7 130 false [(.s 5)]), qm 2 6]) .ret))⟩
theorem k_impl_LeafHash : cd n_impl_LeafHash = some c_impl_LeafHash := by kernel_rfl
theorem impl_LeafHash_ok (x : Bytes) (hx : x.length ≤ 1073741823) : VC cd n_impl_LeafHash (mkP [(false, [.sl (bytes x)])]) (fun rs _ => rs = [(false, [.o true (some (5, 1)) (bytes (sha (0 :: x)))])]) := by
 have e : [[D.int .u8 0]] ++ bytes x = bytes (0 :: x) := rfl
 refine VC_enter k_impl_LeafHash rfl ?_
 simp (disch := omega) [c_impl_LeafHash, e, bytes_len, VY]
 refine VXC_e (impl_Sha_ok (0 :: x) (by simp; omega)) rfl rfl ?_
 simp (disch := omega) [VY]
abbrev n_spec_LeafHash : Nat := 287
def c_spec_LeafHash : AF := ⟨1, 3, [.tmp 2], (.seq (.ops [.i (.mov 2 (.c (.val false [.nils])))]) (.seq (.ops [.i (.bsl 3 5 1 1 [.int .u8 0] [(0, 1, (.c (.val false [.int .u8 0])))]), qm 4 0, .i (.app 5 5 1 1 (.s 3) (.s 4)), .i (.call 7 205 false [(.s 5)]), qm 2 6]) .ret))⟩
theorem k_spec_LeafHash : cd n_spec_LeafHash = some c_spec_LeafHash := by kernel_rfl
theorem spec_LeafHash_ok (x : Bytes) (hx : x.length ≤ 1073741823) : VC cd n_spec_LeafHash (mkP [(false, [.sl (bytes x)])]) (fun rs _ => rs = [(false, [.o true (some (5, 1)) (bytes (sha (0 :: x)))])]) := by
 have e : [[D.int .u8 0]] ++ bytes x = bytes (0 :: x) := rfl
 refine VC_enter k_spec_LeafHash rfl ?_
 simp (disch := omega) [c_spec_LeafHash, e, bytes_len, VY]
 refine VXC_e (spec_Sha_ok (0 :: x) (by simp; omega)) rfl rfl ?_
 simp (disch := omega) [VY]
abbrev n_impl_NodeHash : Nat := 293
def c_impl_NodeHash : AF := ⟨2, 4, [.tmp 4], (.seq (.ops [.i (.mov 4 (.c (.val false [.nils])))]) (.seq (.ops [.i (.bsl 5 5 1 1 [.int .u8 0] [(0, 1, (.c (.val false [.int .u8 1])))]), qm 6 0, .i (.app 7 5 1 1 (.s 5) (.s 6)), qm 8 1, .i (.app 9 5 1 1 (.s 7) (.s 8)), .i (.call 11 130 false [(.s 9)]), qm 4 10]) .ret))⟩
theorem k_impl_NodeHash : cd n_impl_NodeHash = some c_impl_NodeHash := by kernel_rfl
theorem impl_NodeHash_ok (x y : Bytes) (hx : x.length ≤ 1000) (hy : y.length ≤ 1000) : VC cd n_impl_NodeHash (mkP [(false, [.sl (bytes x)]), (false, [.sl (bytes y)])]) (fun rs _ => rs = [(false, [.o true (some (5, 1)) (bytes (sha (1 :: x ++ y)))])]) := by
 have e : [[D.int .u8 1]] ++ bytes x = bytes (1 :: x) := rfl
 have e2 : bytes (1 :: x) ++ bytes y = bytes (1 :: x ++ y) := by simp [bytes]
 refine VC_enter k_impl_NodeHash rfl ?_
 simp (disch := omega) [c_impl_NodeHash, e, e2, bytes_len, VY]
 refine VXC_e (impl_Sha_ok (1 :: x ++ y) (by simp; omega)) rfl rfl ?_
 simp (disch := omega) [VY]
abbrev n_spec_NodeHash : Nat := 289
def c_spec_NodeHash : AF := ⟨2, 4, [.tmp 4], (.seq (.ops [.i (.mov 4 (.c (.val false [.nils])))]) (.seq (.ops [.i (.bsl 6 5 1 1 [.int .u8 0] [(0, 1, (.c (.val false [.int .u8 1])))]), qm 7 0, .i (.app 8 5 1 1 (.s 6) (.s 7)), qm 5 8]) (.seq (.ops [qm 9 5, qm 10 1, .i (.app 11 5 1 1 (.s 9) (.s 10)), .i (.call 13 205 false [(.s 11)]), qm 4 12]) .ret)))⟩
theorem k_spec_NodeHash : cd n_spec_NodeHash = some c_spec_NodeHash := by kernel_rfl
theorem spec_NodeHash_ok (x y : Bytes) (hx : x.length ≤ 1000) (hy : y.length ≤ 1000) : VC cd n_spec_NodeHash (mkP [(false, [.sl (bytes x)]), (false, [.sl (bytes y)])]) (fun rs _ => rs = [(false, [.o true (some (5, 1)) (bytes (sha (1 :: x ++ y)))])]) := by
 have e : [[D.int .u8 1]] ++ bytes x = bytes (1 :: x) := rfl
 have e2 : bytes (1 :: x) ++ bytes y = bytes (1 :: x ++ y) := by simp [bytes]
 refine VC_enter k_spec_NodeHash rfl ?_
 simp (disch := omega) [c_spec_NodeHash, e, e2, bytes_len, VY]
 refine VXC_e (spec_Sha_ok (1 :: x ++ y) (by simp; omega)) rfl rfl ?_
 simp (disch := omega) [VY]
def spl (n k : Nat) : Nat := if h : 0 < k ∧ k < n - k then spl n (2 * k) else k
termination_by n - k
decreasing_by omega
def splitAt (n : Nat) : Nat := if n < 2 then 0 else spl n 1
abbrev n_impl_SplitAt : Nat := 292
def c_impl_SplitAt : AF := ⟨1, 4, [.tmp 2], (.seq (.ops [.i (.mov 2 (qi 0))]) (.seq (.seq (.ops [qm 4 0, .i (.bin 5 .lss (.s 4) (qi 2))]) (.cond (.s 5) (.seq (.ops [.i (.mov 2 (qi 0))]) .ret) .skip)) (.seq (.ops [.i (.mov 3 (qi 1))]) (.seq (.block 0 (.loop [12, 11, 10, 9, 8, 7, 6] (.seq (.seq (.ops [qm 6 3, qm 7 0, qm 8 3, .i (.bin 9 .sub (.s 7) (.s 8)), .i (.bin 10 .lss (.s 6) (.s 9))]) (.cond (.s 10) .skip (.exit 0))) (.block 1 (.ops [qm 11 3, .i (.bin 12 .mul (.s 11) (qi 2)), qm 3 12]))))) (.seq (.ops [qm 13 3, qm 2 13]) .ret)))))⟩
theorem k_impl_SplitAt : cd n_impl_SplitAt = some c_impl_SplitAt := by kernel_rfl
theorem impl_SplitAt_ok (n : Nat) (hn : n ≤ 1073741824) : VC cd n_impl_SplitAt (mkP [(false, [.int .i64 (n : Int)])]) (fun rs _ => rs = it (splitAt n)) := by
 refine VC_enter k_impl_SplitAt rfl ?_
 simp (disch := omega) [c_impl_SplitAt, VY]
 refine VXB_dec (fun h1 => ?_) (fun h1 => ?_)
 ·have h2 : n < 2 := by omega
  simp (disch := omega) [splitAt, h2, VY]
 ·have h2 : ¬ n < 2 := by omega
  simp (disch := omega) [VY]
  refine VX_loop3 (σ := Nat) (f1 := _) (es0 := _) (by simp (disch := omega) [VY]; rfl) (by simp (disch := omega) [VY]; rfl) (fun k => [(3, .val false [.int .i64 k])]) (fun _ => []) (fun k g => g + k = n ∧ 0 < k ∧ spl n k = splitAt n) 1 (n - 1) (by simp (disch := omega) [VY]) (by simp (disch := omega) [VY]) ⟨by omega, by omega, by rw [splitAt, if_neg h2]⟩ ?_
  rintro k v g ⟨hg, h0, hk⟩
  simp (disch := omega) [VY]
  refine VXB_dec (fun h3 => ?_) (fun h3 => ?_)
  ·simp (disch := omega) [VY]
   exact ⟨2 * k, n - 2 * k, by omega, ⟨by omega, by omega, by rw [← hk]; conv => rhs; rw [spl, dif_pos ⟨h0, by omega⟩]⟩, by omega⟩
  ·simp (disch := omega) [VY]
   rw [spl, dif_neg (by omega)] at hk
   rw [hk]
abbrev n_spec_SplitAt : Nat := 288
def c_spec_SplitAt : AF := ⟨1, 4, [.tmp 2], (.seq (.ops [.i (.mov 2 (qi 0))]) (.seq (.seq (.ops [qm 4 0, .i (.bin 5 .lss (.s 4) (qi 2))]) (.cond (.s 5) (.seq (.ops [.i (.mov 2 (qi 0))]) .ret) .skip)) (.seq (.ops [.i (.mov 3 (qi 1))]) (.seq (.block 0 (.loop [12, 11, 10, 9, 8, 7, 6] (.seq (.seq (.ops [qm 6 3, qm 7 0, qm 8 3, .i (.bin 9 .sub (.s 7) (.s 8)), .i (.bin 10 .lss (.s 6) (.s 9))]) (.cond (.s 10) .skip (.exit 0))) (.block 1 (.ops [qm 11 3, .i (.bin 12 .mul (qi 2) (.s 11)), qm 3 12]))))) (.seq (.ops [qm 13 3, qm 2 13]) .ret)))))⟩
theorem k_spec_SplitAt : cd n_spec_SplitAt = some c_spec_SplitAt := by kernel_rfl
theorem spec_SplitAt_ok (n : Nat) (hn : n ≤ 1073741824) : VC cd n_spec_SplitAt (mkP [(false, [.int .i64 (n : Int)])]) (fun rs _ => rs = it (splitAt n)) := by
 refine VC_enter k_spec_SplitAt rfl ?_
 simp (disch := omega) [c_spec_SplitAt, VY]
 refine VXB_dec (fun h1 => ?_) (fun h1 => ?_)
 ·have h2 : n < 2 := by omega
  simp (disch := omega) [splitAt, h2, VY]
 ·have h2 : ¬ n < 2 := by omega
  simp (disch := omega) [VY]
  refine VX_loop3 (σ := Nat) (f1 := _) (es0 := _) (by simp (disch := omega) [VY]; rfl) (by simp (disch := omega) [VY]; rfl) (fun k => [(3, .val false [.int .i64 k])]) (fun _ => []) (fun k g => g + k = n ∧ 0 < k ∧ spl n k = splitAt n) 1 (n - 1) (by simp (disch := omega) [VY]) (by simp (disch := omega) [VY]) ⟨by omega, by omega, by rw [splitAt, if_neg h2]⟩ ?_
  rintro k v g ⟨hg, h0, hk⟩
  simp (disch := omega) [VY]
  refine VXB_dec (fun h3 => ?_) (fun h3 => ?_)
  ·simp (disch := omega) [VY]
   exact ⟨2 * k, n - 2 * k, by omega, ⟨by omega, by omega, by rw [← hk]; conv => rhs; rw [spl, dif_pos ⟨h0, by omega⟩]⟩, by omega⟩
  ·simp (disch := omega) [VY]
   rw [spl, dif_neg (by omega)] at hk
   rw [hk]
theorem spl_in (n : Nat) : ∀ (g k : Nat), g = n - k → 0 < k → k < n → k ≤ spl n k ∧ spl n k < n := by
 intro g
 induction g using Nat.strongRecOn with
 | ind g ih =>
 intro k hg h0 hk
 rw [spl]
 split
 ·rename_i h
  have := ih (n - 2 * k) (by omega) (2 * k) rfl (by omega) (by omega)
  omega
 ·omega
theorem splitAt_in {n : Nat} (h : 2 ≤ n) : 0 < splitAt n ∧ splitAt n < n := by
 rw [splitAt, if_neg (by omega)]
 have := spl_in n _ 1 rfl (by omega) (by omega)
 omega
def treeRoot (l : List Bytes) : Bytes := match l with
 | [] => sha []
 | [x] => sha (0 :: x)
 | a :: b :: r => sha (1 :: treeRoot ((a :: b :: r).take (splitAt (a :: b :: r).length)) ++ treeRoot ((a :: b :: r).drop (splitAt (a :: b :: r).length)))
termination_by l.length
decreasing_by
 all_goals
  have := splitAt_in (n := (a :: b :: r).length) (by simp)
  simp only [List.length_take, List.length_drop, List.length_cons] at *
  omega
theorem sha_len (b : Bytes) : (sha b).length = 32 := by
 have h := fm_len (hs b ((pad b).length / 64)) 8 (by rw [hs_len]; omega)
 rw [List.take_of_length_le (by rw [hs_len]; omega)] at h
 exact h
theorem treeRoot_nil : treeRoot [] = sha [] := by rw [treeRoot]
theorem treeRoot_one {l : List Bytes} (h : l.length = 1) : treeRoot l = sha (0 :: l[0]) := by
 match l, h with
 | [x], _ => rw [treeRoot]; rfl
theorem treeRoot_more {l : List Bytes} (h : 2 ≤ l.length) : treeRoot l = sha (1 :: treeRoot (l.take (splitAt l.length)) ++ treeRoot (l.drop (splitAt l.length))) := by
 match l, h with
 | a :: b :: r, _ => rw [treeRoot]
theorem treeRoot_len (l : List Bytes) : (treeRoot l).length = 32 := by
 match l with
 | [] => rw [treeRoot]; exact sha_len _
 | [x] => rw [treeRoot]; exact sha_len _
 | a :: b :: r => rw [treeRoot]; exact sha_len _
abbrev n_impl_TreeRoot : Nat := 279
def c_impl_TreeRoot : AF := ⟨1, 5, [.tmp 2], (.seq (.ops [.i (.mov 2 (.c (.val false [.nils])))]) (.seq (.seq (.ops [qm 4 0, .i (.len 5 false (.s 4))]) (.block 0 (.seq (.ops [.i (.bin 7 .eql (.s 5) (qi 0)), qm 6 7]) (.cond (.s 6) (.seq (.ops [.i (.call 9 130 false [(.c (.val false [.nils]))]), qm 2 8]) .ret) (.seq (.ops [.i (.bin 10 .eql (.s 5) (qi 1)), qm 9 10]) (.cond (.s 9) (.seq (.ops [qm 11 0, .i (.iad 12 (.s 11) (qi 0) 1), .i (.ldh 13 (.s 12) 1 false), .i (.call 15 291 false [(.s 13)]), qm 2 14]) .ret) .skip)))))) (.seq (.ops [qm 15 0, .i (.len 16 false (.s 15)), .i (.call 18 292 false [(.s 16)]), qm 3 17]) (.seq (.ops [qm 18 0, qm 19 3, .i (.slc 20 1 (.s 18) none (some (.s 19))), .i (.call 22 279 false [(.s 20)]), qm 22 0, qm 23 3, .i (.slc 24 1 (.s 22) (some (.s 23)) none), .i (.call 26 279 false [(.s 24)]), .i (.call 27 293 false [(.s 21), (.s 25)]), qm 2 26]) .ret))))⟩
theorem k_impl_TreeRoot : cd n_impl_TreeRoot = some c_impl_TreeRoot := by kernel_rfl
theorem impl_TreeRoot_ok : ∀ (n : Nat) (l : List Bytes), l.length = n → l.length ≤ 1073741824 → (∀ x ∈ l, x.length ≤ 1073741823) → VC cd n_impl_TreeRoot (mkP [(false, [.sl (bss l)])]) (fun rs _ => rs = [(false, [.o true (some (5, 1)) (bytes (treeRoot l))])]) := by
 intro n
 induction n using Nat.strongRecOn with
 | ind n ih =>
 intro l hn hl hx
 refine VC_enter k_impl_TreeRoot rfl ?_
 simp (disch := omega) [c_impl_TreeRoot, bss_len, VY]
 refine VXB_dec (fun h1 => ?_) (fun h1 => ?_)
 ·have h2 : l = [] := h1
  subst h2
  simp (disch := omega) [VY]
  refine VXC_e (impl_Sha_ok [] (by simp)) rfl rfl ?_
  simp (disch := omega) [treeRoot_nil, VY]
 ·have h0 : 0 < l.length := List.length_pos_iff.2 h1
  simp (disch := omega) [bss_len, VY]
  refine VXB_dec (fun h2 => ?_) (fun h2 => ?_)
  ·have h3 : 0 < l.length := by omega
   simp (disch := omega) [bss_get h3, bss_len, VY]
   refine VXC_e (impl_LeafHash_ok l[0] (hx _ (List.getElem_mem h3))) rfl rfl ?_
   simp (disch := omega) [VY]
   rw [treeRoot_one (by omega)]
  ·have h3 : 2 ≤ l.length := by omega
   obtain ⟨k1, k2⟩ := splitAt_in h3
   simp (disch := omega) [bss_len, VY]
   refine VXC_e (impl_SplitAt_ok l.length (by omega)) rfl rfl ?_
   have t1 : (bss l).take (splitAt l.length) = bss (l.take (splitAt l.length)) := by simp [bss]
   have t2 : (bss l).drop (splitAt l.length) = bss (l.drop (splitAt l.length)) := by simp [bss]
   have t3 : ((splitAt l.length : Nat) : Int) ≤ (l.length : Int) := by omega
   have t4 : splitAt l.length ≤ l.length := by omega
   have t5 : ((l.length : Int) - (splitAt l.length : Int)).toNat = l.length - splitAt l.length := by omega
   have t6 : (bss (l.drop (splitAt l.length))).take (l.length - splitAt l.length) = bss (l.drop (splitAt l.length)) := List.take_of_length_le (by rw [bss_len]; simp)
   simp (disch := omega) [bss_len, wid_bss, t1, t2, t3, t4, t5, t6, VY]
   refine VXC_e (ih (splitAt l.length) (by omega) (l.take (splitAt l.length)) (by simp; omega) (by simp; omega) (fun x h => hx x (List.mem_of_mem_take h))) rfl rfl ?_
   simp (disch := omega) [bss_len, wid_bss, t1, t2, t3, t4, t5, t6, VY]
   refine VXC_e (ih (l.length - splitAt l.length) (by omega) (l.drop (splitAt l.length)) (by simp) (by simp; omega) (fun x h => hx x (List.mem_of_mem_drop h))) rfl rfl ?_
   simp (disch := omega) [VY]
   refine VXC_e (impl_NodeHash_ok (treeRoot (l.take (splitAt l.length))) (treeRoot (l.drop (splitAt l.length))) (by rw [treeRoot_len]; omega) (by rw [treeRoot_len]; omega)) rfl rfl ?_
   simp (disch := omega) [VY]
   rw [treeRoot_more h3]
   rfl
abbrev n_spec_TreeRoot : Nat := 275
def c_spec_TreeRoot : AF := ⟨1, 5, [.tmp 2], (.seq (.ops [.i (.mov 2 (.c (.val false [.nils])))]) (.seq (.seq (.ops [qm 4 0, .i (.len 5 false (.s 4)), .i (.bin 6 .eql (.s 5) (qi 0))]) (.cond (.s 6) (.seq (.ops [.i (.call 8 205 false [(.c (.val false [.nils]))]), qm 2 7]) .ret) .skip)) (.seq (.seq (.ops [qm 8 0, .i (.len 9 false (.s 8)), .i (.bin 10 .eql (.s 9) (qi 1))]) (.cond (.s 10) (.seq (.ops [qm 11 0, .i (.iad 12 (.s 11) (qi 0) 1), .i (.ldh 13 (.s 12) 1 false), .i (.call 15 287 false [(.s 13)]), qm 2 14]) .ret) .skip)) (.seq (.ops [qm 15 0, .i (.len 16 false (.s 15)), .i (.call 18 288 false [(.s 16)]), qm 3 17]) (.seq (.ops [qm 18 0, qm 19 3, .i (.slc 20 1 (.s 18) none (some (.s 19))), .i (.call 22 275 false [(.s 20)]), qm 22 0, qm 23 3, .i (.slc 24 1 (.s 22) (some (.s 23)) none), .i (.call 26 275 false [(.s 24)]), .i (.call 27 289 false [(.s 21), (.s 25)]), qm 2 26]) .ret)))))⟩
theorem k_spec_TreeRoot : cd n_spec_TreeRoot = some c_spec_TreeRoot := by kernel_rfl
theorem spec_TreeRoot_ok : ∀ (n : Nat) (l : List Bytes), l.length = n → l.length ≤ 1073741824 → (∀ x ∈ l, x.length ≤ 1073741823) → VC cd n_spec_TreeRoot (mkP [(false, [.sl (bss l)])]) (fun rs _ => rs = [(false, [.o true (some (5, 1)) (bytes (treeRoot l))])]) := by
 intro n
 induction n using Nat.strongRecOn with
 | ind n ih =>
 intro l hn hl hx
 refine VC_enter k_spec_TreeRoot rfl ?_
 simp (disch := omega) [c_spec_TreeRoot, bss_len, VY]
 refine VXB_dec (fun h1 => ?_) (fun h1 => ?_)
 ·have h2 : l = [] := h1
  subst h2
  simp (disch := omega) [VY]
  refine VXC_e (spec_Sha_ok [] (by simp)) rfl rfl ?_
  simp (disch := omega) [treeRoot_nil, VY]
 ·have h0 : 0 < l.length := List.length_pos_iff.2 h1
  simp (disch := omega) [bss_len, VY]
  refine VXB_dec (fun h2 => ?_) (fun h2 => ?_)
  ·have h3 : 0 < l.length := by omega
   simp (disch := omega) [bss_get h3, bss_len, VY]
   refine VXC_e (spec_LeafHash_ok l[0] (hx _ (List.getElem_mem h3))) rfl rfl ?_
   simp (disch := omega) [VY]
   rw [treeRoot_one (by omega)]
  ·have h3 : 2 ≤ l.length := by omega
   obtain ⟨k1, k2⟩ := splitAt_in h3
   simp (disch := omega) [bss_len, VY]
   refine VXC_e (spec_SplitAt_ok l.length (by omega)) rfl rfl ?_
   have t1 : (bss l).take (splitAt l.length) = bss (l.take (splitAt l.length)) := by simp [bss]
   have t2 : (bss l).drop (splitAt l.length) = bss (l.drop (splitAt l.length)) := by simp [bss]
   have t3 : ((splitAt l.length : Nat) : Int) ≤ (l.length : Int) := by omega
   have t4 : splitAt l.length ≤ l.length := by omega
   have t5 : ((l.length : Int) - (splitAt l.length : Int)).toNat = l.length - splitAt l.length := by omega
   have t6 : (bss (l.drop (splitAt l.length))).take (l.length - splitAt l.length) = bss (l.drop (splitAt l.length)) := List.take_of_length_le (by rw [bss_len]; simp)
   simp (disch := omega) [bss_len, wid_bss, t1, t2, t3, t4, t5, t6, VY]
   refine VXC_e (ih (splitAt l.length) (by omega) (l.take (splitAt l.length)) (by simp; omega) (by simp; omega) (fun x h => hx x (List.mem_of_mem_take h))) rfl rfl ?_
   simp (disch := omega) [bss_len, wid_bss, t1, t2, t3, t4, t5, t6, VY]
   refine VXC_e (ih (l.length - splitAt l.length) (by omega) (l.drop (splitAt l.length)) (by simp) (by simp; omega) (fun x h => hx x (List.mem_of_mem_drop h))) rfl rfl ?_
   simp (disch := omega) [VY]
   refine VXC_e (spec_NodeHash_ok (treeRoot (l.take (splitAt l.length))) (treeRoot (l.drop (splitAt l.length))) (by rw [treeRoot_len]; omega) (by rw [treeRoot_len]; omega)) rfl rfl ?_
   simp (disch := omega) [VY]
   rw [treeRoot_more h3]
   rfl
end Go.Eng.F
namespace Go.Eng.F
open Go.Eng.U (TQc THead TLimits TProof TMsg TBlock)
def txsOk (l : Lim) (t : List Bytes) : Bool := t.all fun x => decide ((x.length : Int) ≤ l.tx)
theorem txsOk_of {l : Lim} {t : List Bytes} (h : ∀ x ∈ t.take t.length, (x.length : Int) ≤ l.tx) : txsOk l t = true := by
 rw [List.take_length] at h
 simpa [txsOk] using h
theorem txsOk_no {l : Lim} {t : List Bytes} {i : Nat} (hi : i < t.length) (h : l.tx < (t[i].length : Int)) : txsOk l t = false := by
 simp only [txsOk, List.all_eq_false]
 exact ⟨t[i], List.getElem_mem hi, by simp; omega⟩
def blockOk (l : Lim) (x : Block) : Bool := headOk l x.head && decide ((x.txs.length : Int) ≤ l.txs) && txsOk l x.txs && decide (x.head.root = treeRoot x.txs)
abbrev n_impl_BlockOk : Nat := 244
def c_impl_BlockOk : AF := ⟨2, 6, [.tmp 4], (.seq (.ops [.i (.lbox 2 (.s 0)), .i (.lbox 3 (.s 1)), .i (.mov 4 (qb false))]) (.seq (.seq (.ops [qf 7 3 10, ql 8 3 7 1 false, .i (.len 9 false (.s 8)), .i (.mov 10 (qi 0))]) (.block 0 (.loop [19, 18, 17, 16, 15, 14, 13, 12, 11, 6] (.seq (.ops [.i (.bin 11 .lss (.s 10) (.s 9))]) (.seq (.cond (.s 11) .skip (.exit 0)) (.seq (.block 1 (.seq (.ops [.i (.iad 12 (.s 8) (.s 10) 1), .i (.ldh 13 (.s 12) 1 false), qm 6 13]) (.seq (.ops [qm 14 6, .i (.len 15 false (.s 14)), qf 16 2 1, ql 17 2 16 1 false, .i (.bin 18 .gtr (.s 15) (.s 17))]) (.cond (.s 18) (.seq (.ops [.i (.mov 4 (qb false))]) .ret) .skip)))) (.ops [.i (.bin 19 .add (.s 10) (qi 1)), qm 10 19]))))))) (.seq (.ops [ql 20 2 2 5 true, qf 21 3 0, ql 22 3 21 10 true, .i (.call 24 140 false [(.s 20), (.s 22)]), qm 24 23, .g 24 true 26 (.fad 25 (.s 3) 10), .g 24 true 27 (.ldl 26 3 (.s 25) 1 false), .g 24 true 28 (.len 27 false (.s 26)), .g 24 true 29 (.fad 28 (.s 2) 2), .g 24 true 30 (.ldl 29 2 (.s 28) 1 false), .g 24 true 31 (.bin 30 .leq (.s 27) (.s 29)), .i (.pick 31 (.s 24) (.s 30) (qb false)), qm 32 31, .g 32 true 34 (.fad 33 (.s 3) 0), .g 32 true 35 (.fad 34 (.s 33) 4), .g 32 true 36 (.ldl 35 3 (.s 34) 1 false), .g 32 true 37 (.fad 36 (.s 3) 10), .g 32 true 38 (.ldl 37 3 (.s 36) 1 false), .g 32 true 39 (.call 39 279 false [(.s 37)]), .g 32 true 40 (.call 40 57 false [(.s 35), (.s 38)]), .i (.pick 40 (.s 32) (.s 39) (qb false)), qm 4 40]) .ret)))⟩
theorem k_impl_BlockOk : cd n_impl_BlockOk = some c_impl_BlockOk := by kernel_rfl
theorem impl_BlockOk_ok (l : Lim) (x : Block) (hw : x.wc) (hx : ∀ t ∈ x.txs, t.length ≤ 1073741823) : VC cd n_impl_BlockOk (mkP [(true, l.c), (true, x.c)]) (fun rs _ => rs = bl (blockOk l x)) := by
 obtain ⟨⟨w1, _⟩, w2, w3⟩ := hw
 simp only [Sz] at w2
 refine VC_enter k_impl_BlockOk rfl ?_
 simp (disch := omega) [c_impl_BlockOk, Lim.c, Block.c, Head.c, bss_len, VY]
 refine VX_loop3 (σ := Nat) (f1 := _) (es0 := _) (by simp (disch := omega) [VY]; rfl) (by simp (disch := omega) [VY]; rfl) (fun i => [(10, .val false [.int .i64 i])]) (fun _ => []) (fun i g => g + i = x.txs.length ∧ ∀ t ∈ x.txs.take i, (t.length : Int) ≤ l.tx) 0 x.txs.length (by simp (disch := omega) [VY]) (by simp (disch := omega) [VY]) ⟨by omega, by simp⟩ ?_
 rintro i n g ⟨hg, hi⟩
 simp (disch := omega) [VY]
 refine VXB_dec (fun h1 => ?_) (fun h1 => ?_)
 ·have hix : i < x.txs.length := by omega
  have w4 := hx _ (List.getElem_mem hix)
  simp (disch := omega) [bss_get hix, bytes_len, VY]
  refine VXB_dec (fun h2 => ?_) (fun h2 => ?_)
  ·simp (disch := omega) [VY]
   simp [blockOk, txsOk_no hix (by omega)]
  ·simp (disch := omega) [VY]
   exact ⟨i + 1, g - 1, by omega, ⟨by omega, take_all hi hix (by omega)⟩, by simp⟩
 ·have hl : i = x.txs.length := by omega
  subst hl
  have ht := txsOk_of hi
  simp (disch := omega) [VY]
  refine VXC_e (impl_HeadOk_ok l x.head w1) rfl rfl ?_
  simp (disch := omega) [bss_len, VY]
  refine VXB_b (fun h2 => ?_) (fun h2 => ?_) <;> simp (disch := omega) [h2, bss_len, blockOk, VY]
  refine VXB_dec (fun h3 => ?_) (fun h3 => ?_) <;> simp (disch := omega) [h2, h3, ht, bss_len, VY]
  refine VXC_e (impl_TreeRoot_ok _ x.txs rfl (by omega) hx) rfl rfl ?_
  simp (disch := omega) [h2, h3, ht, VY]
  refine VXC_e (impl_SameBytes_ok x.head.root (treeRoot x.txs)) (by first | rfl | (simp [argsD, argDs, argD, St.slc, lk_cons, lk] <;> repeat' constructor)) rfl ?_
  simp (disch := omega) [h2, h3, ht, VY]
abbrev n_spec_BlockOk : Nat := 234
def c_spec_BlockOk : AF := ⟨2, 6, [.tmp 4], (.seq (.ops [.i (.lbox 2 (.s 0)), .i (.lbox 3 (.s 1)), .i (.mov 4 (qb false))]) (.seq (.seq (.ops [ql 7 2 2 5 true, qf 8 3 0, ql 9 3 8 10 true, .i (.call 11 118 false [(.s 7), (.s 9)]), .i (.not 11 (.s 10)), qm 12 11, .g 12 false 14 (.fad 13 (.s 3) 10), .g 12 false 15 (.ldl 14 3 (.s 13) 1 false), .g 12 false 16 (.len 15 false (.s 14)), .g 12 false 17 (.fad 16 (.s 2) 2), .g 12 false 18 (.ldl 17 2 (.s 16) 1 false), .g 12 false 19 (.bin 18 .gtr (.s 15) (.s 17)), .i (.pick 19 (.s 12) (qb true) (.s 18))]) (.cond (.s 19) (.seq (.ops [.i (.mov 4 (qb false))]) .ret) .skip)) (.seq (.seq (.ops [qf 20 3 10, ql 21 3 20 1 false, .i (.len 22 false (.s 21)), .i (.mov 23 (qi 0))]) (.block 0 (.loop [32, 31, 30, 29, 28, 27, 26, 25, 24, 6] (.seq (.ops [.i (.bin 24 .lss (.s 23) (.s 22))]) (.seq (.cond (.s 24) .skip (.exit 0)) (.seq (.block 1 (.seq (.ops [.i (.iad 25 (.s 21) (.s 23) 1), .i (.ldh 26 (.s 25) 1 false), qm 6 26]) (.seq (.ops [qm 27 6, .i (.len 28 false (.s 27)), qf 29 2 1, ql 30 2 29 1 false, .i (.bin 31 .gtr (.s 28) (.s 30))]) (.cond (.s 31) (.seq (.ops [.i (.mov 4 (qb false))]) .ret) .skip)))) (.ops [.i (.bin 32 .add (.s 23) (qi 1)), qm 23 32]))))))) (.seq (.ops [qf 33 3 0, qf 34 33 4, ql 35 3 34 1 false, qf 36 3 10, ql 37 3 36 1 false, .i (.call 39 275 false [(.s 37)]), .i (.call 40 143 false [(.s 35), (.s 38)]), qm 4 39]) .ret))))⟩
theorem k_spec_BlockOk : cd n_spec_BlockOk = some c_spec_BlockOk := by kernel_rfl
theorem spec_BlockOk_ok (l : Lim) (x : Block) (hw : x.wc) (hx : ∀ t ∈ x.txs, t.length ≤ 1073741823) : VC cd n_spec_BlockOk (mkP [(true, l.c), (true, x.c)]) (fun rs _ => rs = bl (blockOk l x)) := by
 obtain ⟨⟨w1, _⟩, w2, w3⟩ := hw
 simp only [Sz] at w2
 refine VC_enter k_spec_BlockOk rfl ?_
 simp (disch := omega) [c_spec_BlockOk, Lim.c, Block.c, Head.c, VY]
 refine VXC_e (spec_HeadOk_ok l x.head w1) rfl rfl ?_
 simp (disch := omega) [bss_len, VY]
 refine VXB_b (fun h2 => ?_) (fun h2 => ?_)
 case refine_2 => simp (disch := omega) [h2, blockOk, VY]
 simp (disch := omega) [h2, bss_len, VY]
 refine VXB_dec (fun h3 => ?_) (fun h3 => ?_)
 ·simp (disch := omega) [h2, h3, blockOk, show ¬ (x.txs.length : Int) ≤ l.txs by omega, VY]
 simp (disch := omega) [h2, h3, bss_len, VY]
 refine VX_loop3 (σ := Nat) (f1 := _) (es0 := _) (by simp (disch := omega) [VY]; rfl) (by simp (disch := omega) [VY]; rfl) (fun i => [(23, .val false [.int .i64 i])]) (fun _ => []) (fun i g => g + i = x.txs.length ∧ ∀ t ∈ x.txs.take i, (t.length : Int) ≤ l.tx) 0 x.txs.length (by simp (disch := omega) [VY]) (by simp (disch := omega) [VY]) ⟨by omega, by simp⟩ ?_
 rintro i n g ⟨hg, hi⟩
 simp (disch := omega) [VY]
 refine VXB_dec (fun h1 => ?_) (fun h1 => ?_)
 ·have hix : i < x.txs.length := by omega
  have w4 := hx _ (List.getElem_mem hix)
  simp (disch := omega) [bss_get hix, bytes_len, VY]
  refine VXB_dec (fun h4 => ?_) (fun h4 => ?_)
  ·simp (disch := omega) [VY]
   simp [blockOk, txsOk_no hix (by omega)]
  ·simp (disch := omega) [VY]
   exact ⟨i + 1, g - 1, by omega, ⟨by omega, take_all hi hix (by omega)⟩, by simp⟩
 ·have hl : i = x.txs.length := by omega
  subst hl
  have ht := txsOk_of hi
  simp (disch := omega) [VY]
  refine VXC_e (spec_TreeRoot_ok _ x.txs rfl (by omega) hx) rfl rfl ?_
  simp (disch := omega) [h2, h3, ht, VY]
  refine VXC_e (spec_SameBytes_ok x.head.root (treeRoot x.txs)) (by first | rfl | (simp [argsD, argDs, argD, St.slc, lk_cons, lk] <;> repeat' constructor)) rfl ?_
  simp (disch := omega) [h2, h3, ht, blockOk, show (x.txs.length : Int) ≤ l.txs by omega, VY]
theorem blockOk_few {l : Lim} {x : Block} (h : blockOk l x = true) : x.txs.length ≤ 8 := by
 simp only [blockOk, Bool.and_eq_true, decide_eq_true_eq] at h
 have h1 := h.1.1.1
 simp only [headOk, Bool.and_eq_true] at h1
 have h2 := qcOk_lim h1.1.1.1.1.1.1
 simp only [Lim.ok, Bool.and_eq_true] at h2
 have h3 := inn_t h2.1.1.2
 omega
end Go.Eng.F
namespace Go.Eng.F
def varB (n : Nat) : Bytes := if n < 128 then [UInt8.ofNat n] else UInt8.ofNat (n % 128 + 128) :: varB (n / 128)
termination_by n
decreasing_by omega
theorem varB_lo {n : Nat} (h : n < 128) : varB n = [UInt8.ofNat n] := by rw [varB, if_pos h]
theorem varB_hi {n : Nat} (h : ¬ n < 128) : varB n = UInt8.ofNat (n % 128 + 128) :: varB (n / 128) := by rw [varB, if_neg h]
theorem varB_len : ∀ (k n : Nat), n < 128 ^ (k + 1) → (varB n).length ≤ k + 1
 | 0, n, h => by rw [varB_lo (by simpa using h)]; simp
 | k + 1, n, h => by
  by_cases h1 : n < 128
  ·rw [varB_lo h1]; simp
  ·rw [varB_hi h1]
   have := varB_len k (n / 128) (by rw [Nat.div_lt_iff_lt_mul (by omega)]; rw [Nat.pow_succ] at h; exact h)
   simp only [List.length_cons]; omega
theorem varB_nine {n : Nat} (h : n ≤ 1152921504606846975) : (varB n).length ≤ 9 := varB_len 8 n (by simp; omega)
theorem u8n {k : Nat} (h : k < 256) : IntKind.u8.wrap (k : Int) = ((UInt8.ofNat k).toNat : Int) := by
 simp only [UInt8.toNat_ofNat', IntKind.wrap, IntKind.bits, IntKind.signed]
 simp
def putVarE (b : Bytes) (n : Int) : List (Bool × List E) :=
 if isNum n then [(false, [.o true (some (5, 1)) (bytes (b ++ varB n.toNat))]), (false, [.p (.bool true)])] else [(false, [.p .nils]), (false, [.p (.bool false)])]
theorem isNum_nat {n : Int} (h : isNum n = true) : ∃ m : Nat, n = (m : Int) ∧ m ≤ 1152921504606846975 := ⟨n.toNat, by have := inn_t h; omega⟩
abbrev n_impl_PutVar : Nat := 278
def c_impl_PutVar : AF := ⟨2, 5, [.tmp 4, .tmp 5], (.seq (.ops [.i (.mov 4 (.c (.val false [.nils]))), .i (.mov 5 (qb false))]) (.seq (.seq (.ops [qm 7 1, .i (.call 9 213 false [(.s 7)]), .i (.not 9 (.s 8))]) (.cond (.s 9) (.seq (.ops [.i (.mov 4 (.c (.val false [.nils]))), .i (.mov 5 (qb false))]) .ret) .skip)) (.seq (.ops [qm 10 0, .i (.call 12 60 false [(.s 10)]), qm 6 11]) (.seq (.block 0 (.loop [22, 21, 20, 19, 18, 17, 16, 15, 14, 13, 12] (.seq (.seq (.ops [qm 12 1, .i (.bin 13 .geq (.s 12) (qi 128))]) (.cond (.s 13) .skip (.exit 0))) (.block 1 (.seq (.ops [qm 14 6, qm 15 1, .i (.bin 16 .rem (.s 15) (qi 128)), .i (.bin 17 .add (.s 16) (qi 128)), .i (.cvi 18 .u8 (.s 17)), .i (.lsl 19 1 1 [.int .u8 0] [(0, 1, (.s 18))]), .i (.app 20 5 1 1 (.s 14) (.s 19)), qm 6 20]) (.ops [qm 21 1, .i (.bin 22 .quo (.s 21) (qi 128)), qm 1 22])))))) (.seq (.ops [qm 23 6, qm 24 1, .i (.cvi 25 .u8 (.s 24)), .i (.lsl 26 1 1 [.int .u8 0] [(0, 1, (.s 25))]), .i (.app 27 5 1 1 (.s 23) (.s 26)), qm 4 27, .i (.mov 5 (qb true))]) .ret)))))⟩
theorem k_impl_PutVar : cd n_impl_PutVar = some c_impl_PutVar := by kernel_rfl
theorem impl_PutVar_ok (b : Bytes) (n : Int) (hb : b.length ≤ 1073741824) : VC cd n_impl_PutVar (mkP [(false, [.sl (bytes b)]), (false, [.int .i64 n])]) (fun rs _ => rs = putVarE b n) := by
 refine VC_enter k_impl_PutVar rfl ?_
 simp (disch := omega) [c_impl_PutVar, VY]
 refine VXC_e (isNum_ok n) rfl rfl ?_
 simp (disch := omega) [VY]
 refine VXB_b (fun h1 => ?_) (fun h1 => ?_)
 case refine_2 => simp (disch := omega) [putVarE, h1, VY]
 simp (disch := omega) [h1, VY]
 refine VXC_e (copyBytes_ok b (by omega)) rfl rfl ?_
 obtain ⟨m, rfl, hm⟩ := isNum_nat h1
 have hl := varB_nine hm
 simp (disch := omega) [VY]
 refine VX_loop3 (σ := Nat × Bytes × Nat) (f1 := _) (es0 := _) (by simp (disch := omega) [VY]; rfl) (by simp (disch := omega) [VY]; rfl) (fun p => [(1, .val false [.int .i64 (p.1 : Int)]), (6, .val false [.ow 106496 p.2.2])]) (fun p => [(106496, .sl p.2.2 true true (some (5, 1)) (bytes p.2.1))])
  (fun p g => g = p.1 ∧ p.1 ≤ m ∧ p.2.1 ++ varB p.1 = b ++ varB m) (m, b, _) m (by simp (disch := omega) [VY]; rfl) (by simp (disch := omega) [VY]) ⟨rfl, Nat.le_refl _, rfl⟩ ?_
 rintro ⟨k, a, v⟩ n g ⟨hg, hk, ha⟩
 simp only at hg hk ha
 have hla : a.length ≤ b.length + 9 := by
  have := congrArg List.length ha
  simp only [List.length_append] at this
  omega
 simp (disch := omega) [VY]
 refine VXB_dec (fun h2 => ?_) (fun h2 => ?_)
 ·have e1 : Int.tmod (k : Int) 128 = (k : Int) % 128 := Int.tmod_eq_emod_of_nonneg (by omega)
  have e2 : Int.tdiv (k : Int) 128 = (k : Int) / 128 := Int.tdiv_eq_ediv_of_nonneg (by omega)
  have e3 : IntKind.u8.wrap ((k : Int) % 128 + 128) = ((UInt8.ofNat (k % 128 + 128)).toNat : Int) := by rw [← u8n (by omega)]; congr 1
  have e4 : bytes a ++ [[.int .u8 ((UInt8.ofNat (k % 128 + 128)).toNat : Int)]] = bytes (a ++ [UInt8.ofNat (k % 128 + 128)]) := by simp [bytes]
  simp (disch := omega) [e1, e2, e3, e4, bytes_len, VY]
  refine ⟨k / 128, a ++ [UInt8.ofNat (k % 128 + 128)], _, k / 128, by omega, ⟨rfl, by omega, ?_⟩, ⟨rfl, by omega⟩, rfl, by simp [bytes]⟩
  rw [← ha, varB_hi (n := k) (by omega)]
  simp
 ·have e3 : IntKind.u8.wrap (k : Int) = ((UInt8.ofNat k).toNat : Int) := u8n (by omega)
  have e4 : bytes a ++ [[.int .u8 ((UInt8.ofNat k).toNat : Int)]] = bytes (a ++ [UInt8.ofNat k]) := by simp [bytes]
  rw [varB_lo (n := k) (by omega)] at ha
  simp (disch := omega) [e3, e4, bytes_len, putVarE, h1, VY]
  rw [← ha]
  simp [bytes]
abbrev n_spec_PutVar : Nat := 274
def c_spec_PutVar : AF := ⟨2, 5, [.tmp 4, .tmp 5], (.seq (.ops [.i (.mov 4 (.c (.val false [.nils]))), .i (.mov 5 (qb false))]) (.seq (.seq (.ops [qm 7 1, .i (.call 9 201 false [(.s 7)]), .i (.not 9 (.s 8))]) (.cond (.s 9) (.seq (.ops [.i (.mov 4 (.c (.val false [.nils]))), .i (.mov 5 (qb false))]) .ret) .skip)) (.seq (.ops [qm 10 0, .i (.call 12 115 false [(.s 10)]), qm 6 11]) (.seq (.block 0 (.loop [22, 21, 20, 19, 18, 17, 16, 15, 14, 13, 12] (.seq (.seq (.ops [qm 12 1, .i (.bin 13 .gtr (.s 12) (qi 127))]) (.cond (.s 13) .skip (.exit 0))) (.block 1 (.seq (.ops [qm 14 6, qm 15 1, .i (.bin 16 .rem (.s 15) (qi 128)), .i (.bin 17 .add (qi 128) (.s 16)), .i (.cvi 18 .u8 (.s 17)), .i (.lsl 19 1 1 [.int .u8 0] [(0, 1, (.s 18))]), .i (.app 20 5 1 1 (.s 14) (.s 19)), qm 6 20]) (.ops [qm 21 1, .i (.bin 22 .quo (.s 21) (qi 128)), qm 1 22])))))) (.seq (.ops [qm 23 6, qm 24 1, .i (.cvi 25 .u8 (.s 24)), .i (.lsl 26 1 1 [.int .u8 0] [(0, 1, (.s 25))]), .i (.app 27 5 1 1 (.s 23) (.s 26)), qm 4 27, .i (.mov 5 (qb true))]) .ret)))))⟩
theorem k_spec_PutVar : cd n_spec_PutVar = some c_spec_PutVar := by kernel_rfl
theorem spec_PutVar_ok (b : Bytes) (n : Int) (hb : b.length ≤ 1073741824) : VC cd n_spec_PutVar (mkP [(false, [.sl (bytes b)]), (false, [.int .i64 n])]) (fun rs _ => rs = putVarE b n) := by
 refine VC_enter k_spec_PutVar rfl ?_
 simp (disch := omega) [c_spec_PutVar, VY]
 refine VXC_e (l01Num_ok n) rfl rfl ?_
 simp (disch := omega) [VY]
 refine VXB_b (fun h1 => ?_) (fun h1 => ?_)
 case refine_2 => simp (disch := omega) [putVarE, h1, VY]
 simp (disch := omega) [h1, VY]
 refine VXC_e (l01Copy_ok b (by omega)) rfl rfl ?_
 obtain ⟨m, rfl, hm⟩ := isNum_nat h1
 have hl := varB_nine hm
 simp (disch := omega) [VY]
 refine VX_loop3 (σ := Nat × Bytes × Nat) (f1 := _) (es0 := _) (by simp (disch := omega) [VY]; rfl) (by simp (disch := omega) [VY]; rfl) (fun p => [(1, .val false [.int .i64 (p.1 : Int)]), (6, .val false [.ow 106496 p.2.2])]) (fun p => [(106496, .sl p.2.2 true true (some (5, 1)) (bytes p.2.1))])
  (fun p g => g = p.1 ∧ p.1 ≤ m ∧ p.2.1 ++ varB p.1 = b ++ varB m) (m, b, _) m (by simp (disch := omega) [VY]; rfl) (by simp (disch := omega) [VY]) ⟨rfl, Nat.le_refl _, rfl⟩ ?_
 rintro ⟨k, a, v⟩ n g ⟨hg, hk, ha⟩
 simp only at hg hk ha
 have hla : a.length ≤ b.length + 9 := by
  have := congrArg List.length ha
  simp only [List.length_append] at this
  omega
 simp (disch := omega) [VY]
 refine VXB_dec (fun h2 => ?_) (fun h2 => ?_)
 ·have e1 : Int.tmod (k : Int) 128 = (k : Int) % 128 := Int.tmod_eq_emod_of_nonneg (by omega)
  have e2 : Int.tdiv (k : Int) 128 = (k : Int) / 128 := Int.tdiv_eq_ediv_of_nonneg (by omega)
  have e3 : IntKind.u8.wrap (128 + (k : Int) % 128) = ((UInt8.ofNat (k % 128 + 128)).toNat : Int) := by rw [← u8n (by omega)]; congr 1; omega
  have e4 : bytes a ++ [[.int .u8 ((UInt8.ofNat (k % 128 + 128)).toNat : Int)]] = bytes (a ++ [UInt8.ofNat (k % 128 + 128)]) := by simp [bytes]
  simp (disch := omega) [e1, e2, e3, e4, bytes_len, VY]
  refine ⟨k / 128, a ++ [UInt8.ofNat (k % 128 + 128)], _, k / 128, by omega, ⟨rfl, by omega, ?_⟩, ⟨rfl, by omega⟩, rfl, by simp [bytes]⟩
  rw [← ha, varB_hi (n := k) (by omega)]
  simp
 ·have e3 : IntKind.u8.wrap (k : Int) = ((UInt8.ofNat k).toNat : Int) := u8n (by omega)
  have e4 : bytes a ++ [[.int .u8 ((UInt8.ofNat k).toNat : Int)]] = bytes (a ++ [UInt8.ofNat k]) := by simp [bytes]
  rw [varB_lo (n := k) (by omega)] at ha
  simp (disch := omega) [e3, e4, bytes_len, putVarE, h1, VY]
  rw [← ha]
  simp [bytes]


theorem isNum_of {n : Nat} (h : n ≤ 1152921504606846975) : isNum (n : Int) = true := by simp [isNum, inn]; omega
theorem impl_PutVar_t (b : Bytes) (n : Nat) (hn : n ≤ 1152921504606846975) (hb : b.length ≤ 1073741824) : VC cd n_impl_PutVar (mkP [(false, [.sl (bytes b)]), (false, [.int .i64 (n : Int)])]) (fun rs _ => rs = [(false, [.o true (some (5, 1)) (bytes (b ++ varB n))]), (false, [.p (.bool true)])]) :=
 (impl_PutVar_ok b n hb).mono fun rs ps h => by rw [h, putVarE, if_pos (isNum_of hn)]; rfl
theorem spec_PutVar_t (b : Bytes) (n : Nat) (hn : n ≤ 1152921504606846975) (hb : b.length ≤ 1073741824) : VC cd n_spec_PutVar (mkP [(false, [.sl (bytes b)]), (false, [.int .i64 (n : Int)])]) (fun rs _ => rs = [(false, [.o true (some (5, 1)) (bytes (b ++ varB n))]), (false, [.p (.bool true)])]) :=
 (spec_PutVar_ok b n hb).mono fun rs ps h => by rw [h, putVarE, if_pos (isNum_of hn)]; rfl
abbrev n_spec_l11Num : Nat := 233
def c_spec_l11Num : AF := ⟨2, 4, [.tmp 4], (.seq (.ops [.i (.mov 4 (.c (.val false [.nils])))]) (.seq (.ops [qm 8 0, qm 9 1, .i (.call 11 274 false [(.s 8), (.s 9)]), qm 7 10, .i (.ext 11 (.s 7) 0), .i (.ext 12 (.s 7) 1), qm 5 11, qm 6 12]) (.seq (.ops [qm 13 5, qm 4 13]) .ret)))⟩
theorem k_spec_l11Num : cd n_spec_l11Num = some c_spec_l11Num := by kernel_rfl
theorem l11Num_ok (b : Bytes) (n : Int) (hn : isNum n = true) (hb : b.length ≤ 1073741824) : VC cd n_spec_l11Num (mkP [(false, [.sl (bytes b)]), (false, [.int .i64 n])]) (fun rs _ => rs = [(false, [.o true (some (5, 1)) (bytes (b ++ varB n.toNat))])]) := by
 obtain ⟨m, rfl, hm⟩ := isNum_nat hn
 refine VC_enter k_spec_l11Num rfl ?_
 simp (disch := omega) [c_spec_l11Num, VY]
 refine VXC_e (spec_PutVar_t b m hm hb) rfl rfl ?_
 simp (disch := omega) [VY]
abbrev n_impl_writer_num : Nat := 241
def c_impl_writer_num : AF := ⟨2, 5, [], (.ops [qm 5 0, qm 6 0, .i (.nch 7 (.s 6)), qf 8 7 0, .i (.ldh 9 (.s 8) 1 false), qm 10 1, .i (.call 12 278 false [(.s 9), (.s 10)]), qm 4 11, .i (.ext 12 (.s 4) 0), .i (.ext 13 (.s 4) 1), .i (.nch 14 (.s 5)), qf 15 14 0, .i (.sth (.s 15) (.s 12) 1)])⟩
theorem k_impl_writer_num : cd n_impl_writer_num = some c_impl_writer_num := by kernel_rfl
theorem writer_num_ok (b : Bytes) (n : Int) (hn : isNum n = true) (hb : b.length ≤ 1073741824) : VC cd n_impl_writer_num (mkQ [] 228 [.o true (some (5, 1)) (bytes b)] [(false, [.int .i64 n])]) (fun r p => r = [] ∧ p = [.pt 228 [.o true (some (5, 1)) (bytes (b ++ varB n.toNat))]]) := by
 obtain ⟨m, rfl, hm⟩ := isNum_nat hn
 refine VC_enterQ k_impl_writer_num rfl ?_
 simp (disch := omega) [c_impl_writer_num, VY, VQ, expR, expE, exp0]
 refine VXC_e (impl_PutVar_t b m hm hb) rfl rfl ?_
 simp (disch := omega) [VY, VQ, expR, expE, exp0]
abbrev n_impl_writer_raw : Nat := 242
def c_impl_writer_raw : AF := ⟨2, 4, [], (.ops [qm 4 0, qm 5 0, .i (.nch 6 (.s 5)), qf 7 6 0, .i (.ldh 8 (.s 7) 1 false), qm 9 1, .i (.app 10 5 1 1 (.s 8) (.s 9)), .i (.nch 11 (.s 4)), qf 12 11 0, .i (.sth (.s 12) (.s 10) 1)])⟩
theorem k_impl_writer_raw : cd n_impl_writer_raw = some c_impl_writer_raw := by kernel_rfl
theorem writer_raw_ok (b x : Bytes) (hx : x.length ≤ 1073741824) (hb : b.length ≤ 1073741824) : VC cd n_impl_writer_raw (mkQ [] 228 [.o true (some (5, 1)) (bytes b)] [(false, [.sl (bytes x)])]) (fun r p => r = [] ∧ p = [.pt 228 [.o true (some (5, 1)) (bytes (b ++ x))]]) := by
 refine VC_enterQ k_impl_writer_raw rfl ?_
 simp (disch := omega) [c_impl_writer_raw, bytes_len, bytes_app, VY, VQ, expR, expE, exp0]
def qcB (q : Qc) : Bytes := varB q.view.toNat ++ varB q.height.toNat ++ q.block ++ q.bits ++ q.tags.flatten
def headB (h : Head) : Bytes := varB h.view.toNat ++ varB h.height.toNat ++ varB h.proposer.toNat ++ h.parent ++ h.root ++ qcB h.qc
theorem varB_num {n : Int} (h : isNum n = true) : (varB n.toNat).length ≤ 9 := by
 obtain ⟨m, rfl, hm⟩ := isNum_nat h
 simpa using varB_nine hm
theorem bsz_ten {n : Int} (h : 1 ≤ n ∧ n ≤ 10) : bsz n ≤ 2 := by unfold bsz; split <;> omega
structure QcSz (q : Qc) : Prop where
 view : isNum q.view = true
 height : isNum q.height = true
 block : q.block.length = 32
 bits : q.bits.length ≤ 2
 tags : q.tags.length ≤ 16
 tag : ∀ t ∈ q.tags, t.length = 32
theorem qcOk_sz {l : Lim} {q : Qc} (h : qcOk l q = true) : QcSz q := by
 simp only [qcOk, Bool.and_eq_true, decide_eq_true_eq] at h
 obtain ⟨⟨⟨⟨⟨⟨h0, h1⟩, h2⟩, h3⟩, h4⟩, h5⟩, h6⟩ := h
 simp only [bitsOk, Bool.and_eq_true, decide_eq_true_eq] at h4
 have hb := bsz_ten (inn_t h4.1.1)
 have hl := bitsList_len q.bits
 refine ⟨h1, h2, by simpa [hash] using h3, by omega, by omega, fun t ht => ?_⟩
 simp only [hashes, List.all_eq_true] at h6
 simpa [hash] using h6 t ht
theorem flat_take {l : List Bytes} (h : ∀ t ∈ l, t.length = 32) {i : Nat} (hi : i ≤ l.length) : (l.take i).flatten.length = 32 * i := by
 induction i generalizing l with
 | zero => simp
 | succ i ih =>
  cases l with
  | nil => simp at hi
  | cons a l =>
   simp only [List.take_succ_cons, List.flatten_cons, List.length_append]
   rw [ih (fun t ht => h t (by simp [ht])) (by simpa using hi), h a (by simp)]
   omega
theorem flat_next {l : List Bytes} {i : Nat} (h : i < l.length) : (l.take (i + 1)).flatten = (l.take i).flatten ++ l[i] := by
 rw [List.take_add_one, List.getElem?_eq_getElem h, List.flatten_append]
 simp only [Option.toList_some, List.flatten_cons, List.flatten_nil, List.append_nil]
theorem qcB_len {q : Qc} (h : QcSz q) : (qcB q).length ≤ 600 := by
 have h1 := varB_num h.view
 have h2 := varB_num h.height
 have h3 := flat_take h.tag (Nat.le_refl _)
 rw [List.take_length] at h3
 have := h.block
 have := h.bits
 have := h.tags
 simp only [qcB, List.length_append]
 omega
abbrev n_impl_writer_qc : Nat := 243
def c_impl_writer_qc : AF := ⟨2, 6, [], (.seq (.ops [.i (.lbox 3 (.s 1))]) (.seq (.ops [qm 6 0, qf 7 3 0, ql 8 3 7 1 false, .i (.call 10 241 false [(.s 6), (.s 8)])]) (.seq (.ops [qm 10 0, qf 11 3 1, ql 12 3 11 1 false, .i (.call 14 241 false [(.s 10), (.s 12)])]) (.seq (.ops [qm 14 0, qf 15 3 2, ql 16 3 15 1 false, .i (.call 18 242 false [(.s 14), (.s 16)])]) (.seq (.ops [qm 18 0, qf 19 3 3, ql 20 3 19 1 false, .i (.call 22 242 false [(.s 18), (.s 20)])]) (.seq (.ops [qf 22 3 4, ql 23 3 22 1 false, .i (.len 24 false (.s 23)), .i (.mov 25 (qi 0))]) (.block 0 (.loop [32, 31, 30, 29, 28, 27, 26, 5] (.seq (.ops [.i (.bin 26 .lss (.s 25) (.s 24))]) (.seq (.cond (.s 26) .skip (.exit 0)) (.seq (.block 1 (.seq (.ops [.i (.iad 27 (.s 23) (.s 25) 1), .i (.ldh 28 (.s 27) 1 false), qm 5 28]) (.ops [qm 29 0, qm 30 5, .i (.call 32 242 false [(.s 29), (.s 30)])]))) (.ops [.i (.bin 32 .add (.s 25) (qi 1)), qm 25 32]))))))))))))⟩
theorem k_impl_writer_qc : cd n_impl_writer_qc = some c_impl_writer_qc := by kernel_rfl
theorem writer_qc_ok (b : Bytes) (q : Qc) (hq : QcSz q) (hb : b.length ≤ 1000000000) : VC cd n_impl_writer_qc (mkQ [] 228 [.o true (some (5, 1)) (bytes b)] [(true, q.c)]) (fun r p => r = [] ∧ p = [.pt 228 [.o true (some (5, 1)) (bytes (b ++ qcB q))]]) := by
 have h1 := varB_num hq.view
 have h2 := varB_num hq.height
 have h4 := hq.block
 have h5 := hq.bits
 have h6 := hq.tags
 refine VC_enterQ k_impl_writer_qc rfl ?_
 simp (disch := omega) [c_impl_writer_qc, Qc.c, VY, VQ, expR, expE, exp0]
 refine VXC_p (writer_num_ok _ q.view hq.view ?_) (by simp (disch := omega) [VY, VQ, expR, expE, exp0]; exact ⟨rfl, rfl⟩) rfl rfl (by simp (disch := omega) [VY, VQ, expR, expE, exp0]; exact ⟨rfl, rfl⟩) (by simp (disch := omega) [VY, VQ, expR, expE, exp0]) (by simp (disch := omega) [VY, VQ, expR, expE, exp0]) (by simp (disch := omega) [VY, VQ, expR, expE, exp0]) (by omega) (by simp (disch := omega) [VY, VQ, expR, expE, exp0]) ?_
 ·(try simp only [List.length_append]); omega
 simp (disch := omega) [VY, VQ, expR, expE, exp0]
 refine VXC_p (writer_num_ok _ q.height hq.height ?_) (by simp (disch := omega) [VY, VQ, expR, expE, exp0]; exact ⟨rfl, rfl⟩) rfl rfl (by simp (disch := omega) [VY, VQ, expR, expE, exp0]; exact ⟨rfl, rfl⟩) (by simp (disch := omega) [VY, VQ, expR, expE, exp0]) (by simp (disch := omega) [VY, VQ, expR, expE, exp0]) (by simp (disch := omega) [VY, VQ, expR, expE, exp0]) (by omega) (by simp (disch := omega) [VY, VQ, expR, expE, exp0]) ?_
 ·(try simp only [List.length_append]); omega
 simp (disch := omega) [VY, VQ, expR, expE, exp0]
 refine VXC_p (writer_raw_ok _ q.block (by omega) ?_) (by simp (disch := omega) [VY, VQ, expR, expE, exp0]; exact ⟨rfl, rfl⟩) rfl rfl (by simp (disch := omega) [VY, VQ, expR, expE, exp0]; exact ⟨rfl, rfl⟩) (by simp (disch := omega) [VY, VQ, expR, expE, exp0]) (by simp (disch := omega) [VY, VQ, expR, expE, exp0]) (by simp (disch := omega) [VY, VQ, expR, expE, exp0]) (by omega) (by simp (disch := omega) [VY, VQ, expR, expE, exp0]) ?_
 ·(try simp only [List.length_append]); omega
 simp (disch := omega) [VY, VQ, expR, expE, exp0]
 refine VXC_p (writer_raw_ok _ q.bits (by omega) ?_) (by simp (disch := omega) [VY, VQ, expR, expE, exp0]; exact ⟨rfl, rfl⟩) rfl rfl (by simp (disch := omega) [VY, VQ, expR, expE, exp0]; exact ⟨rfl, rfl⟩) (by simp (disch := omega) [VY, VQ, expR, expE, exp0]) (by simp (disch := omega) [VY, VQ, expR, expE, exp0]) (by simp (disch := omega) [VY, VQ, expR, expE, exp0]) (by omega) (by simp (disch := omega) [VY, VQ, expR, expE, exp0]) ?_
 ·(try simp only [List.length_append]); omega
 simp (disch := omega) [bss_len, VY, VQ, expR, expE, exp0]
 refine VX_loop3 (σ := Nat × Nat) (f1 := _) (es0 := _) (by simp (disch := omega) [VY, VQ, expR, expE, exp0]; rfl) (by simp (disch := omega) [VY, VQ, expR, expE, exp0]; rfl) (fun p => [(25, .val false [.int .i64 (p.1 : Int)])]) (fun p => [(4096, .pt 0 228 [.ow 1099528404992 p.2]), (1099528404992, .sl p.2 true true (some (5, 1)) (bytes (b ++ (varB q.view.toNat ++ (varB q.height.toNat ++ (q.block ++ (q.bits ++ (q.tags.take p.1).flatten)))))))])
  (fun p g => g + p.1 = q.tags.length) (0, 14) q.tags.length (by simp (disch := omega) [VY, VQ, expR, expE, exp0]) (by simp (disch := omega) [VY, VQ, expR, expE, exp0]) (by omega) ?_
 rintro ⟨i, v⟩ n g hg
 simp only at hg
 simp (disch := omega) [VY, VQ, expR, expE, exp0]
 refine VXB_dec (fun h7 => ?_) (fun h7 => ?_)
 ·have hi : i < q.tags.length := by omega
  have hx := hq.tag _ (List.getElem_mem hi)
  have hf := flat_take hq.tag (i := i) (by omega)
  simp (disch := omega) [bss_get hi, VY, VQ, expR, expE, exp0]
  refine VXC_p (writer_raw_ok _ q.tags[i] (by omega) ?_) (by simp (disch := omega) [VY, VQ, expR, expE, exp0]; exact ⟨rfl, rfl⟩) rfl rfl (by simp (disch := omega) [VY, VQ, expR, expE, exp0]; exact ⟨rfl, rfl⟩) (by simp (disch := omega) [VY, VQ, expR, expE, exp0]) (by simp (disch := omega) [VY, VQ, expR, expE, exp0]) (by simp (disch := omega) [VY, VQ, expR, expE, exp0]) (by omega) (by simp (disch := omega) [VY, VQ, expR, expE, exp0]) ?_
  ·(try simp only [List.length_append]); omega
  simp (disch := omega) [VY, VQ, expR, expE, exp0]
  exact ⟨i + 1, _, g - 1, by omega, by omega, rfl, rfl, by rw [flat_next hi]⟩
 ·have hi : i = q.tags.length := by omega
  subst hi
  rw [List.take_length]
  simp (disch := omega) [qcB, VY, VQ, expR, expE, exp0]
def putE (ok : Bool) (b : Bytes) : List (Bool × List E) :=
 if ok then [(false, [.o true (some (5, 1)) (bytes b)]), (false, [.p (.bool true)])] else [(false, [.p .nils]), (false, [.p (.bool false)])]
theorem putE_t {ok : Bool} {b : Bytes} (h : ok = true) : putE ok b = [(false, [.o true (some (5, 1)) (bytes b)]), (false, [.p (.bool true)])] := by subst h; rfl
theorem putE_f {ok : Bool} {b : Bytes} (h : ok = false) : putE ok b = [(false, [.p .nils]), (false, [.p (.bool false)])] := by subst h; rfl
theorem _root_.Go.Eng.VC.re {cd : Nat → Option AF} {g : Nat} {al : List (Bool × List E)} {rs rt : List (Bool × List E)} (h : VC cd g al (fun r _ => r = rs)) (e : rs = rt) : VC cd g al (fun r _ => r = rt) := by subst e; exact h
abbrev n_spec_PutQc : Nat := 168
def c_spec_PutQc : AF := ⟨3, 6, [.tmp 6, .tmp 7], (.seq (.ops [.i (.lbox 3 (.s 0)), .i (.lbox 5 (.s 2)), .i (.mov 6 (.c (.val false [.nils]))), .i (.mov 7 (qb false))]) (.seq (.seq (.ops [ql 11 3 3 5 true, ql 12 5 5 5 true, .i (.call 14 203 false [(.s 11), (.s 12)]), .i (.not 14 (.s 13))]) (.cond (.s 14) (.seq (.ops [.i (.mov 6 (.c (.val false [.nils]))), .i (.mov 7 (qb false))]) .ret) .skip)) (.seq (.ops [qm 15 1, qf 16 5 0, ql 17 5 16 1 false, .i (.call 19 233 false [(.s 15), (.s 17)]), qf 19 5 1, ql 20 5 19 1 false, .i (.call 22 233 false [(.s 18), (.s 20)]), qf 22 5 2, ql 23 5 22 1 false, .i (.app 24 5 1 1 (.s 21) (.s 23)), qm 8 24]) (.seq (.ops [qm 25 8, qf 26 5 3, ql 27 5 26 1 false, .i (.app 28 5 1 1 (.s 25) (.s 27)), qm 8 28]) (.seq (.seq (.ops [qf 29 5 4, ql 30 5 29 1 false, .i (.len 31 false (.s 30)), .i (.mov 32 (qi 0))]) (.block 0 (.loop [39, 38, 37, 36, 35, 34, 33, 10] (.seq (.ops [.i (.bin 33 .lss (.s 32) (.s 31))]) (.seq (.cond (.s 33) .skip (.exit 0)) (.seq (.block 1 (.seq (.ops [.i (.iad 34 (.s 30) (.s 32) 1), .i (.ldh 35 (.s 34) 1 false), qm 10 35]) (.ops [qm 36 8, qm 37 10, .i (.app 38 5 1 1 (.s 36) (.s 37)), qm 8 38]))) (.ops [.i (.bin 39 .add (.s 32) (qi 1)), qm 32 39]))))))) (.seq (.ops [qm 40 8, qm 6 40, .i (.mov 7 (qb true))]) .ret))))))⟩
theorem k_spec_PutQc : cd n_spec_PutQc = some c_spec_PutQc := by kernel_rfl
theorem spec_PutQc_ok (l : Lim) (b : Bytes) (q : Qc) (hw : q.wf) (hb : b.length ≤ 1000000000) : VC cd n_spec_PutQc (mkP [(true, l.c), (false, [.sl (bytes b)]), (true, q.c)]) (fun rs _ => rs = putE (qcOk l q) (b ++ qcB q)) := by
 refine VC_enter k_spec_PutQc rfl ?_
 simp (disch := omega) [c_spec_PutQc, Qc.c, Lim.c, VY]
 refine VXC_e (spec_QcOk_ok l q hw) rfl rfl ?_
 simp (disch := omega) [VY]
 refine VXB_b (fun h0 => ?_) (fun h0 => ?_)
 case refine_2 => simp (disch := omega) [h0, putE, VY]
 have hq := qcOk_sz h0
 have h1 := varB_num hq.view
 have h2 := varB_num hq.height
 have h4 := hq.block
 have h5 := hq.bits
 have h6 := hq.tags
 simp (disch := omega) [h0, VY]
 refine VXC_e (l11Num_ok b q.view hq.view (by omega)) rfl rfl ?_
 simp (disch := omega) [VY]
 refine VXC_e (l11Num_ok (b ++ varB q.view.toNat) q.height hq.height (by simp only [List.length_append]; omega)) rfl rfl ?_
 simp (disch := omega) [bytes_app, bytes_len, VY]
 have e1 : List.length b + (List.length (varB q.view.toNat) + (List.length (varB q.height.toNat) + List.length q.block)) ≤ 1073741824 := by omega
 simp (disch := omega) [bytes_app, bytes_len, bss_len, VY]
 refine VX_loop3 (σ := Nat × Nat) (f1 := _) (es0 := _) (by simp (disch := omega) [VY]; rfl) (by simp (disch := omega) [VY]; rfl) (fun p => [(32, .val false [.int .i64 (p.1 : Int)]), (8, .val false [.ow 188416 p.2])]) (fun p => [(188416, .sl p.2 true true (some (5, 1)) (bytes (b ++ (varB q.view.toNat ++ (varB q.height.toNat ++ (q.block ++ (q.bits ++ (q.tags.take p.1).flatten)))))))])
  (fun p g => g + p.1 = q.tags.length) (0, _) q.tags.length (by simp (disch := omega) [VY]; rfl) (by simp (disch := omega) [VY]) (by omega) ?_
 rintro ⟨i, v⟩ n g hg
 simp only at hg
 simp (disch := omega) [VY]
 refine VXB_dec (fun h7 => ?_) (fun h7 => ?_)
 ·have hi : i < q.tags.length := by omega
  have hx := hq.tag _ (List.getElem_mem hi)
  have hf := flat_take hq.tag (i := i) (by omega)
  simp (disch := omega) [bss_get hi, bytes_app, bytes_len, hf, VY]
  exact ⟨i + 1, _, g - 1, by omega, by omega, ⟨by omega, rfl⟩, rfl, by rw [flat_next hi]⟩
 ·have hi : i = q.tags.length := by omega
  subst hi
  rw [List.take_length]
  simp (disch := omega) [qcB, putE, h0, VY]
structure HeadSz (h : Head) : Prop where
 view : isNum h.view = true
 height : isNum h.height = true
 proposer : isNum h.proposer = true
 parent : h.parent.length = 32
 root : h.root.length = 32
 qc : QcSz h.qc
theorem headOk_qc {l : Lim} {h : Head} (hk : headOk l h = true) : qcOk l h.qc = true := by
 simp only [headOk, Bool.and_eq_true] at hk
 exact hk.1.1.1.1.1.1
theorem headOk_sz {l : Lim} {h : Head} (hk : headOk l h = true) : HeadSz h := by
 have hq := headOk_qc hk
 have hn := lim_n (qcOk_lim hq)
 simp only [headOk, Bool.and_eq_true, decide_eq_true_eq] at hk
 obtain ⟨⟨⟨⟨⟨⟨h0, h1⟩, h2⟩, h3⟩, h4⟩, h5⟩, h6⟩ := hk
 have h2' := inn_t h2
 have h3' := inn_t h3
 exact ⟨h1, by simp [isNum, inn]; omega, by simp [isNum, inn]; omega, by simpa [hash] using h4, by simpa [hash] using h5, qcOk_sz hq⟩
theorem headB_len {h : Head} (hs : HeadSz h) : (headB h).length ≤ 1000 := by
 have h1 := varB_num hs.view
 have h2 := varB_num hs.height
 have h3 := varB_num hs.proposer
 have h4 := hs.parent
 have h5 := hs.root
 have h6 := qcB_len hs.qc
 simp only [headB, List.length_append]
 omega
abbrev n_impl_writer_head : Nat := 216
def c_impl_writer_head : AF := ⟨2, 5, [], (.seq (.ops [.i (.lbox 3 (.s 1))]) (.seq (.ops [qm 4 0, qf 5 3 0, ql 6 3 5 1 false, .i (.call 8 241 false [(.s 4), (.s 6)])]) (.seq (.ops [qm 8 0, qf 9 3 1, ql 10 3 9 1 false, .i (.call 12 241 false [(.s 8), (.s 10)])]) (.seq (.ops [qm 12 0, qf 13 3 2, ql 14 3 13 1 false, .i (.call 16 241 false [(.s 12), (.s 14)])]) (.seq (.ops [qm 16 0, qf 17 3 3, ql 18 3 17 1 false, .i (.call 20 242 false [(.s 16), (.s 18)])]) (.seq (.ops [qm 20 0, qf 21 3 4, ql 22 3 21 1 false, .i (.call 24 242 false [(.s 20), (.s 22)])]) (.ops [qm 24 0, qf 25 3 5, ql 26 3 25 5 true, .i (.call 28 243 false [(.s 24), (.s 26)])])))))))⟩
theorem k_impl_writer_head : cd n_impl_writer_head = some c_impl_writer_head := by kernel_rfl
theorem writer_head_ok (b : Bytes) (h : Head) (hs : HeadSz h) (hb : b.length ≤ 900000000) : VC cd n_impl_writer_head (mkQ [] 228 [.o true (some (5, 1)) (bytes b)] [(true, h.c)]) (fun r p => r = [] ∧ p = [.pt 228 [.o true (some (5, 1)) (bytes (b ++ headB h))]]) := by
 have h1 := varB_num hs.view
 have h2 := varB_num hs.height
 have h3 := varB_num hs.proposer
 have h4 := hs.parent
 have h5 := hs.root
 refine VC_enterQ k_impl_writer_head rfl ?_
 simp (disch := omega) [c_impl_writer_head, Head.c, VY, VQ, expR, expE, exp0]
 refine VXC_p (writer_num_ok _ h.view hs.view ?_) (by simp (disch := omega) [VY, VQ, expR, expE, exp0]; exact ⟨rfl, rfl⟩) rfl rfl (by simp (disch := omega) [VY, VQ, expR, expE, exp0]; exact ⟨rfl, rfl⟩) (by simp (disch := omega) [VY, VQ, expR, expE, exp0]) (by simp (disch := omega) [VY, VQ, expR, expE, exp0]) (by simp (disch := omega) [VY, VQ, expR, expE, exp0]) (by omega) (by simp (disch := omega) [VY, VQ, expR, expE, exp0]) ?_
 ·(try simp only [List.length_append]); omega
 simp (disch := omega) [VY, VQ, expR, expE, exp0]
 refine VXC_p (writer_num_ok _ h.height hs.height ?_) (by simp (disch := omega) [VY, VQ, expR, expE, exp0]; exact ⟨rfl, rfl⟩) rfl rfl (by simp (disch := omega) [VY, VQ, expR, expE, exp0]; exact ⟨rfl, rfl⟩) (by simp (disch := omega) [VY, VQ, expR, expE, exp0]) (by simp (disch := omega) [VY, VQ, expR, expE, exp0]) (by simp (disch := omega) [VY, VQ, expR, expE, exp0]) (by omega) (by simp (disch := omega) [VY, VQ, expR, expE, exp0]) ?_
 ·(try simp only [List.length_append]); omega
 simp (disch := omega) [VY, VQ, expR, expE, exp0]
 refine VXC_p (writer_num_ok _ h.proposer hs.proposer ?_) (by simp (disch := omega) [VY, VQ, expR, expE, exp0]; exact ⟨rfl, rfl⟩) rfl rfl (by simp (disch := omega) [VY, VQ, expR, expE, exp0]; exact ⟨rfl, rfl⟩) (by simp (disch := omega) [VY, VQ, expR, expE, exp0]) (by simp (disch := omega) [VY, VQ, expR, expE, exp0]) (by simp (disch := omega) [VY, VQ, expR, expE, exp0]) (by omega) (by simp (disch := omega) [VY, VQ, expR, expE, exp0]) ?_
 ·(try simp only [List.length_append]); omega
 simp (disch := omega) [VY, VQ, expR, expE, exp0]
 refine VXC_p (writer_raw_ok _ h.parent (by omega) ?_) (by simp (disch := omega) [VY, VQ, expR, expE, exp0]; exact ⟨rfl, rfl⟩) rfl rfl (by simp (disch := omega) [VY, VQ, expR, expE, exp0]; exact ⟨rfl, rfl⟩) (by simp (disch := omega) [VY, VQ, expR, expE, exp0]) (by simp (disch := omega) [VY, VQ, expR, expE, exp0]) (by simp (disch := omega) [VY, VQ, expR, expE, exp0]) (by omega) (by simp (disch := omega) [VY, VQ, expR, expE, exp0]) ?_
 ·(try simp only [List.length_append]); omega
 simp (disch := omega) [VY, VQ, expR, expE, exp0]
 refine VXC_p (writer_raw_ok _ h.root (by omega) ?_) (by simp (disch := omega) [VY, VQ, expR, expE, exp0]; exact ⟨rfl, rfl⟩) rfl rfl (by simp (disch := omega) [VY, VQ, expR, expE, exp0]; exact ⟨rfl, rfl⟩) (by simp (disch := omega) [VY, VQ, expR, expE, exp0]) (by simp (disch := omega) [VY, VQ, expR, expE, exp0]) (by simp (disch := omega) [VY, VQ, expR, expE, exp0]) (by omega) (by simp (disch := omega) [VY, VQ, expR, expE, exp0]) ?_
 ·(try simp only [List.length_append]); omega
 simp (disch := omega) [VY, VQ, expR, expE, exp0]
 refine VXC_p (writer_qc_ok _ h.qc hs.qc ?_) (by simp (disch := omega) [VY, VQ, expR, expE, exp0]; exact ⟨rfl, rfl⟩) rfl rfl (by simp (disch := omega) [VY, VQ, expR, expE, exp0]; exact ⟨rfl, rfl⟩) (by simp (disch := omega) [VY, VQ, expR, expE, exp0]) (by simp (disch := omega) [VY, VQ, expR, expE, exp0]) (by simp (disch := omega) [VY, VQ, expR, expE, exp0]) (by omega) (by simp (disch := omega) [VY, VQ, expR, expE, exp0]) ?_
 ·(try simp only [List.length_append]); omega
 simp (disch := omega) [headB, VY, VQ, expR, expE, exp0]
abbrev n_impl_PutHead : Nat := 129
def c_impl_PutHead : AF := ⟨3, 5, [.tmp 6, .tmp 7], (.seq (.ops [.i (.lbox 3 (.s 0)), .i (.lbox 5 (.s 2)), .i (.mov 6 (.c (.val false [.nils]))), .i (.mov 7 (qb false))]) (.seq (.seq (.ops [ql 9 3 3 5 true, ql 10 5 5 10 true, .i (.call 12 140 false [(.s 9), (.s 10)]), .i (.not 12 (.s 11))]) (.cond (.s 12) (.seq (.ops [.i (.mov 6 (.c (.val false [.nils]))), .i (.mov 7 (qb false))]) .ret) .skip)) (.seq (.ops [qm 13 1, .i (.call 15 60 false [(.s 13)]), .i (.bld 15 [.nils] [(0, 1, (.s 14))]), .i (.hbox 16 228 (.s 15)), qm 8 16]) (.seq (.ops [qm 17 8, ql 18 5 5 10 true, .i (.call 20 216 false [(.s 17), (.s 18)])]) (.seq (.ops [qm 20 8, .i (.nch 21 (.s 20)), qf 22 21 0, .i (.ldh 23 (.s 22) 1 false), qm 6 23, .i (.mov 7 (qb true))]) .ret)))))⟩
theorem k_impl_PutHead : cd n_impl_PutHead = some c_impl_PutHead := by kernel_rfl
theorem impl_PutHead_ok (l : Lim) (b : Bytes) (h : Head) (hw : h.wf) (hb : b.length ≤ 900000000) : VC cd n_impl_PutHead (mkP [(true, l.c), (false, [.sl (bytes b)]), (true, h.c)]) (fun rs _ => rs = putE (headOk l h) (b ++ headB h)) := by
 refine VC_enter k_impl_PutHead rfl ?_
 simp (disch := omega) [c_impl_PutHead, Head.c, Lim.c, VY]
 refine VXC_e (impl_HeadOk_ok l h hw) rfl rfl ?_
 simp (disch := omega) [VY]
 refine VXB_b (fun h0 => ?_) (fun h0 => ?_)
 case refine_2 => simp (disch := omega) [h0, putE, VY]
 have hs := headOk_sz h0
 simp (disch := omega) [h0, VY]
 refine VXC_e (copyBytes_ok b (by omega)) rfl rfl ?_
 simp (disch := omega) [VY, VQ, expR, expE, exp0]
 refine VXC_p (writer_head_ok _ h hs ?_) (by simp (disch := omega) [VY, VQ, expR, expE, exp0]; exact ⟨rfl, rfl⟩) rfl rfl (by simp (disch := omega) [VY, VQ, expR, expE, exp0]; exact ⟨rfl, rfl⟩) (by simp (disch := omega) [VY, VQ, expR, expE, exp0]) (by simp (disch := omega) [VY, VQ, expR, expE, exp0]) (by simp (disch := omega) [VY, VQ, expR, expE, exp0]) (by omega) (by simp (disch := omega) [VY, VQ, expR, expE, exp0]) ?_
 ·(try simp only [List.length_append]); omega
 simp (disch := omega) [putE, h0, VY, VQ, expR, expE, exp0]
abbrev n_spec_PutHead : Nat := 169
def c_spec_PutHead : AF := ⟨3, 6, [.tmp 6, .tmp 7], (.seq (.ops [.i (.lbox 3 (.s 0)), .i (.lbox 5 (.s 2)), .i (.mov 6 (.c (.val false [.nils]))), .i (.mov 7 (qb false))]) (.seq (.seq (.ops [ql 9 3 3 5 true, ql 10 5 5 10 true, .i (.call 12 118 false [(.s 9), (.s 10)]), .i (.not 12 (.s 11))]) (.cond (.s 12) (.seq (.ops [.i (.mov 6 (.c (.val false [.nils]))), .i (.mov 7 (qb false))]) .ret) .skip)) (.seq (.ops [qm 13 1, qf 14 5 0, ql 15 5 14 1 false, .i (.call 17 233 false [(.s 13), (.s 15)]), qf 17 5 1, ql 18 5 17 1 false, .i (.call 20 233 false [(.s 16), (.s 18)]), qf 20 5 2, ql 21 5 20 1 false, .i (.call 23 233 false [(.s 19), (.s 21)]), qm 8 22]) (.seq (.ops [qm 23 8, qf 24 5 3, ql 25 5 24 1 false, .i (.app 26 5 1 1 (.s 23) (.s 25)), qf 27 5 4, ql 28 5 27 1 false, .i (.app 29 5 1 1 (.s 26) (.s 28)), qm 8 29]) (.seq (.ops [ql 30 3 3 5 true, qm 31 8, qf 32 5 5, ql 33 5 32 5 true, .i (.call 35 168 false [(.s 30), (.s 31), (.s 33)]), .i (.ext 35 (.s 34) 0), .i (.ext 36 (.s 34) 1), qm 6 35, qm 7 36]) .ret)))))⟩
theorem k_spec_PutHead : cd n_spec_PutHead = some c_spec_PutHead := by kernel_rfl
theorem spec_PutHead_ok (l : Lim) (b : Bytes) (h : Head) (hw : h.wf) (hb : b.length ≤ 900000000) : VC cd n_spec_PutHead (mkP [(true, l.c), (false, [.sl (bytes b)]), (true, h.c)]) (fun rs _ => rs = putE (headOk l h) (b ++ headB h)) := by
 refine VC_enter k_spec_PutHead rfl ?_
 simp (disch := omega) [c_spec_PutHead, Head.c, Lim.c, VY]
 refine VXC_e (spec_HeadOk_ok l h hw) rfl rfl ?_
 simp (disch := omega) [VY]
 refine VXB_b (fun h0 => ?_) (fun h0 => ?_)
 case refine_2 => simp (disch := omega) [h0, putE, VY]
 have hs := headOk_sz h0
 have h1 := varB_num hs.view
 have h2 := varB_num hs.height
 have h3 := varB_num hs.proposer
 have h4 := hs.parent
 have h5 := hs.root
 simp (disch := omega) [h0, VY]
 refine VXC_e (l11Num_ok b h.view hs.view (by omega)) rfl rfl ?_
 simp (disch := omega) [VY]
 refine VXC_e (l11Num_ok (b ++ varB h.view.toNat) h.height hs.height (by simp only [List.length_append]; omega)) rfl rfl ?_
 simp (disch := omega) [VY]
 refine VXC_e (l11Num_ok (b ++ (varB h.view.toNat ++ varB h.height.toNat)) h.proposer hs.proposer (by simp only [List.length_append]; omega)) rfl rfl ?_
 simp (disch := omega) [bytes_app, bytes_len, VY]
 refine VXC_e ((spec_PutQc_ok l (b ++ (varB h.view.toNat ++ (varB h.height.toNat ++ (varB h.proposer.toNat ++ (h.parent ++ h.root))))) h.qc hw.2.2.2.2.2 (by simp only [List.length_append]; omega)).re (putE_t (headOk_qc h0))) (by first | rfl | (simp [argsD, argDs, argD, St.slc, lk_cons, lk] <;> repeat' constructor)) rfl ?_
 simp (disch := omega) [putE, h0, headB, VY]
def hhash (l : Lim) (h : Head) : Bytes := if headOk l h then sha (72 :: headB h) else []
end Go.Eng.F
namespace Go.Eng.F
structure Forest where
 l : Lim
 heads : List Head
def Forest.c (f : Forest) : List D := f.l.c ++ [.sl (hds f.heads)]
def Forest.wf (f : Forest) : Prop := HeadsWf f.heads
def Forest.wc (f : Forest) : Prop := Sz f.heads.length ∧ ∀ h ∈ f.heads, h.wc
theorem Forest.wc.wf {f : Forest} (h : f.wc) : f.wf := ⟨h.1, fun x hx => (h.2 x hx).1⟩
def hh (l : Lim) (hs : List Head) (i : Nat) : Bytes := match hs[i]? with | some h => hhash l h | none => []
theorem bytes_nil : bytes [] = [] := rfl
def Forest.o (f : Forest) : List E := [.p (.int .i64 f.l.n), .p (.int .i64 f.l.tx), .p (.int .i64 f.l.txs), .p (.int .i64 f.l.frame), .p (.int .i64 f.l.heads), .o true (some (40, 10)) (hds f.heads)]
end Go.Eng.F
namespace Go.Eng.F
end Go.Eng.F
namespace Go.Eng.F
open Go.Eng.U (TQc THead TLimits TForest)
def Forest.tv (f : Forest) : Tv := .r [f.l.tv, hdsT f.heads]
theorem Forest.enc (f : Forest) : enc TForest f.tv = f.c := by simp only [Forest.tv, enc_hds, enc_st, encS_cons, encS_nil, Lim.enc, Forest.c, List.append_nil]
theorem Forest.ex {v : Tv} (h : TvOk TForest v) : ∃ q : Forest, v = q.tv := by
 obtain ⟨vs, rfl, h⟩ := h.st
 obtain ⟨v0, _, rfl, h0, h⟩ := h.step
 obtain ⟨v1, _, rfl, h1, h⟩ := h.step
 obtain rfl := h.fin
 obtain ⟨n0, rfl⟩ := Lim.ex h0
 obtain ⟨n1, rfl⟩ := hdsT_ex h1
 exact ⟨⟨n0, n1⟩, rfl⟩
theorem Forest.of {f : Forest} (h : TvOk TForest f.tv) (hw : wt f.tv ≤ 1048576) : f.wc ∧ TvOk TLimits f.l.tv ∧ f.heads.length ≤ 1048576 := by
 simp only [Forest.tv, ok_st, okS_cons] at h
 simp only [Forest.tv, wt, wts] at hw
 obtain ⟨h0, h1, _⟩ := h
 have h5 := hds_of h1 (by omega)
 have h6 : f.heads.length ≤ wt (hdsT f.heads) := by unfold hdsT; rw [wt_l, List.length_map]; omega
 exact ⟨⟨h5.1, h5.2⟩, ok_st.2 (ok_st.1 h0), by omega⟩
theorem bl_rs (b : Bool) : RsE (bl b) [(.bool, .b b)] := ⟨rfl, by simp only [enc_bool, EEq, D.leaf, and_self], trivial, trivial⟩
theorem wts_le {α : Type} {f : α → Tv} {B : Nat} : ∀ {l : List α}, (∀ x ∈ l, wt (f x) ≤ B) → wts (l.map f) ≤ l.length * B
 | [], _ => by simp [wts]
 | a :: l, h => by
  have h1 := h a (by simp)
  have h2 := wts_le (l := l) fun x hx => h x (by simp [hx])
  simp only [List.map_cons, wts, List.length_cons, Nat.succ_mul]
  omega
end Go.Eng.F
namespace Go.Eng.F
end Go.Eng.F
namespace Go.Eng.F
structure Push where
 skip : Int
 buf : Bytes
def Push.c (p : Push) : List D := [.int .i64 p.skip, .sl (bytes p.buf)]
end Go.Eng.F
namespace Go.Eng.F
structure Light where
 l : Lim
 t : Table
 push : Push
 chain : List Head
def Light.c (x : Light) : List D := [.int .i64 x.l.n, .int .i64 x.l.tx, .int .i64 x.l.txs, .int .i64 x.l.frame, .int .i64 x.l.heads, .sl (rws x.t.rows), .int .i64 x.push.skip, .sl (bytes x.push.buf), .sl (hds x.chain)]
def Light.wc (x : Light) : Prop := x.t.wf ∧ x.push.buf.length ≤ 1073741824 ∧ Sz x.chain.length ∧ ∀ h ∈ x.chain, h.wc
def ht (hs : List Head) (i : Nat) : Int := match hs[i]? with | some h => h.height | none => 0
structure Desk where
 l : Lim
 t : Table
 x : Light
 own : List Head
def Desk.c (d : Desk) : List D := [.int .i64 d.l.n, .int .i64 d.l.tx, .int .i64 d.l.txs, .int .i64 d.l.frame, .int .i64 d.l.heads, .sl (rws d.t.rows), .int .i64 d.x.l.n, .int .i64 d.x.l.tx, .int .i64 d.x.l.txs, .int .i64 d.x.l.frame, .int .i64 d.x.l.heads, .sl (rws d.x.t.rows), .int .i64 d.x.push.skip, .sl (bytes d.x.push.buf), .sl (hds d.x.chain), .sl (hds d.own)]
def Desk.wc (d : Desk) : Prop := d.t.wf ∧ d.x.wc ∧ Sz d.own.length ∧ ∀ h ∈ d.own, h.wc
end Go.Eng.F
namespace Go.Eng.F
open Go.Eng.U (TQc THead TLimits TTable TPush TLight TDesk)
def Push.wf (p : Push) : Prop := I64 p.skip ∧ Sz p.buf.length
def Push.tv (x : Push) : Tv := .r [.i x.skip, bsT x.buf]
theorem Push.enc (x : Push) : enc TPush x.tv = x.c := by simp only [Push.tv, enc_st, encS_cons, encS_nil, enc_int, enc_bool, enc_str, enc_bs, enc_bss', enc_ints, Push.c, List.cons_append, List.nil_append, List.append_assoc]
theorem Push.ex {v : Tv} (h : TvOk TPush v) : ∃ x : Push, v = x.tv := by
 obtain ⟨vs, rfl, h⟩ := h.st
 obtain ⟨v0, _, rfl, h0, h⟩ := h.step
 obtain ⟨v1, _, rfl, h1, h⟩ := h.step
 obtain rfl := h.fin
 obtain ⟨n0, rfl, _⟩ := h0.int
 obtain ⟨n1, rfl⟩ := bsT_ex h1
 exact ⟨⟨n0, n1⟩, rfl⟩
theorem Push.of {x : Push} (h : TvOk TPush x.tv) (hw : wt x.tv ≤ 1048576) : x.wf := by
 simp only [Push.tv, ok_st, okS_cons] at h
 simp only [Push.tv, wt, wts] at hw
 obtain ⟨h0, h1, _⟩ := h
 exact ⟨i64_of (ok_int.1 h0), bs_of (by omega)⟩
def Light.tv (x : Light) : Tv := .r [x.l.tv, x.t.tv, x.push.tv, hdsT x.chain]
theorem Light.enc (x : Light) : enc TLight x.tv = x.c := by simp only [Light.tv, enc_hds, enc_st, encS_cons, encS_nil, Lim.enc, Table.enc, Push.enc, Light.c, Lim.c, Table.c, Push.c, List.cons_append, List.nil_append, List.append_nil]
theorem Light.ex {v : Tv} (h : TvOk TLight v) : ∃ q : Light, v = q.tv := by
 obtain ⟨vs, rfl, h⟩ := h.st
 obtain ⟨v0, _, rfl, h0, h⟩ := h.step
 obtain ⟨v1, _, rfl, h1, h⟩ := h.step
 obtain ⟨v2, _, rfl, h2, h⟩ := h.step
 obtain ⟨v3, _, rfl, h3, h⟩ := h.step
 obtain rfl := h.fin
 obtain ⟨n0, rfl⟩ := Lim.ex h0
 obtain ⟨n1, rfl⟩ := Table.ex h1
 obtain ⟨n2, rfl⟩ := Push.ex h2
 obtain ⟨n3, rfl⟩ := hdsT_ex h3
 exact ⟨⟨n0, n1, n2, n3⟩, rfl⟩
theorem Light.of {x : Light} (h : TvOk TLight x.tv) (hw : wt x.tv ≤ 1048576) : x.wc := by
 simp only [Light.tv, ok_st, okS_cons] at h
 simp only [Light.tv, wt, wts] at hw
 obtain ⟨h0, h1, h2, h3, _⟩ := h
 have k1 := Table.of h1 (by omega)
 have k2 := Push.of h2 (by omega)
 have k3 := hds_of h3 (by omega)
 exact ⟨k1, k2.2, k3.1, k3.2⟩
def Desk.tv (x : Desk) : Tv := .r [x.l.tv, x.t.tv, x.x.tv, hdsT x.own]
theorem Desk.enc (x : Desk) : enc TDesk x.tv = x.c := by simp only [Desk.tv, enc_hds, enc_st, encS_cons, encS_nil, Lim.enc, Table.enc, Light.enc, Desk.c, Light.c, Lim.c, Table.c, List.cons_append, List.nil_append, List.append_nil]
theorem Desk.ex {v : Tv} (h : TvOk TDesk v) : ∃ q : Desk, v = q.tv := by
 obtain ⟨vs, rfl, h⟩ := h.st
 obtain ⟨v0, _, rfl, h0, h⟩ := h.step
 obtain ⟨v1, _, rfl, h1, h⟩ := h.step
 obtain ⟨v2, _, rfl, h2, h⟩ := h.step
 obtain ⟨v3, _, rfl, h3, h⟩ := h.step
 obtain rfl := h.fin
 obtain ⟨n0, rfl⟩ := Lim.ex h0
 obtain ⟨n1, rfl⟩ := Table.ex h1
 obtain ⟨n2, rfl⟩ := Light.ex h2
 obtain ⟨n3, rfl⟩ := hdsT_ex h3
 exact ⟨⟨n0, n1, n2, n3⟩, rfl⟩
theorem Desk.of {x : Desk} (h : TvOk TDesk x.tv) (hw : wt x.tv ≤ 1048576) : x.wc := by
 simp only [Desk.tv, ok_st, okS_cons] at h
 simp only [Desk.tv, wt, wts] at hw
 obtain ⟨h0, h1, h2, h3, _⟩ := h
 have k1 := Table.of h1 (by omega)
 have k2 := Light.of h2 (by omega)
 have k3 := hds_of h3 (by omega)
 exact ⟨k1, k2, k3.1, k3.2⟩
end Go.Eng.F
namespace Go.Eng.F
theorem hash_len {b : Bytes} (h : hash b = true) : b.length = 32 := by simpa [hash] using h
theorem inn_of {n a b : Int} (h : inn n a b = true) : a ≤ n ∧ n ≤ b := by simpa [inn] using h
end Go.Eng.F
namespace Go.Eng.F
open Go.Eng.U (TQc THead TLimits TTable TPush TLight)
end Go.Eng.F
namespace Go.Eng.F
open Go.Eng.U (TQc THead TLimits TTable TProof)
end Go.Eng.F
namespace Go.Eng.F
structure Vote where
 view : Int
 height : Int
 block : Bytes
 who : Int
 tag : Bytes
def Vote.c (v : Vote) : List D := [.int .i64 v.view, .int .i64 v.height, .sl (bytes v.block), .int .i64 v.who, .sl (bytes v.tag)]
def Vote.wf (v : Vote) : Prop := I64 v.view ∧ I64 v.height ∧ Sz v.block.length ∧ I64 v.who ∧ Sz v.tag.length
def voteSame (a b : Vote) : Bool := decide (a.view = b.view) && decide (a.height = b.height) && decide (a.block = b.block) && decide (a.who = b.who) && decide (a.tag = b.tag)
abbrev n_impl_VoteSame : Nat := 183
def c_impl_VoteSame : AF := ⟨2, 6, [.tmp 4], (.seq (.ops [.i (.lbox 2 (.s 0)), .i (.lbox 3 (.s 1)), .i (.mov 4 (qb false))]) (.seq (.ops [qf 5 2 0, ql 6 2 5 1 false, qf 7 3 0, ql 8 3 7 1 false, .i (.bin 9 .eql (.s 6) (.s 8)), qm 10 9, .g 10 true 12 (.fad 11 (.s 2) 1), .g 10 true 13 (.ldl 12 2 (.s 11) 1 false), .g 10 true 14 (.fad 13 (.s 3) 1), .g 10 true 15 (.ldl 14 3 (.s 13) 1 false), .g 10 true 16 (.bin 15 .eql (.s 12) (.s 14)), .i (.pick 16 (.s 10) (.s 15) (qb false)), qm 17 16, .g 17 true 19 (.fad 18 (.s 2) 3), .g 17 true 20 (.ldl 19 2 (.s 18) 1 false), .g 17 true 21 (.fad 20 (.s 3) 3), .g 17 true 22 (.ldl 21 3 (.s 20) 1 false), .g 17 true 23 (.bin 22 .eql (.s 19) (.s 21)), .i (.pick 23 (.s 17) (.s 22) (qb false)), qm 24 23, .g 24 true 26 (.fad 25 (.s 2) 2), .g 24 true 27 (.ldl 26 2 (.s 25) 1 false), .g 24 true 28 (.fad 27 (.s 3) 2), .g 24 true 29 (.ldl 28 3 (.s 27) 1 false), .g 24 true 30 (.call 30 57 false [(.s 26), (.s 28)]), .i (.pick 30 (.s 24) (.s 29) (qb false)), qm 31 30, .g 31 true 33 (.fad 32 (.s 2) 4), .g 31 true 34 (.ldl 33 2 (.s 32) 1 false), .g 31 true 35 (.fad 34 (.s 3) 4), .g 31 true 36 (.ldl 35 3 (.s 34) 1 false), .g 31 true 37 (.call 37 57 false [(.s 33), (.s 35)]), .i (.pick 37 (.s 31) (.s 36) (qb false)), qm 4 37]) .ret))⟩
theorem k_impl_VoteSame : cd n_impl_VoteSame = some c_impl_VoteSame := by kernel_rfl
theorem impl_VoteSame_ok (a b : Vote) : VC cd n_impl_VoteSame (mkP [(true, a.c), (true, b.c)]) (fun rs _ => rs = bl (voteSame a b)) := by
 refine VC_enter k_impl_VoteSame rfl ?_
 simp (disch := omega) [c_impl_VoteSame, Vote.c, VY]
 refine VXB_dec (fun h1 => ?_) (fun h1 => ?_) <;> simp (disch := omega) [h1, voteSame, VY]
 refine VXB_dec (fun h2 => ?_) (fun h2 => ?_) <;> simp (disch := omega) [h1, h2, VY]
 refine VXB_dec (fun h3 => ?_) (fun h3 => ?_) <;> simp (disch := omega) [h1, h2, h3, VY]
 refine VXC_e (impl_SameBytes_ok a.block b.block) (by first | rfl | (simp [argsD, argDs, argD, St.slc, lk_cons, lk] <;> repeat' constructor)) rfl ?_
 simp (disch := omega) [h1, h2, h3, VY]
 refine VXB_dec (fun h4 => ?_) (fun h4 => ?_) <;> simp (disch := omega) [h1, h2, h3, h4, VY]
 refine VXC_e (impl_SameBytes_ok a.tag b.tag) (by first | rfl | (simp [argsD, argDs, argD, St.slc, lk_cons, lk] <;> repeat' constructor)) rfl ?_
 simp (disch := omega) [h1, h2, h3, h4, VY]
abbrev n_spec_VoteSame : Nat := 153
def c_spec_VoteSame : AF := ⟨2, 6, [.tmp 4], (.seq (.ops [.i (.lbox 2 (.s 0)), .i (.lbox 3 (.s 1)), .i (.mov 4 (qb false))]) (.seq (.ops [qf 5 2 0, ql 6 2 5 1 false, qf 7 3 0, ql 8 3 7 1 false, .i (.bin 9 .eql (.s 6) (.s 8)), qm 10 9, .g 10 true 12 (.fad 11 (.s 2) 1), .g 10 true 13 (.ldl 12 2 (.s 11) 1 false), .g 10 true 14 (.fad 13 (.s 3) 1), .g 10 true 15 (.ldl 14 3 (.s 13) 1 false), .g 10 true 16 (.bin 15 .eql (.s 12) (.s 14)), .i (.pick 16 (.s 10) (.s 15) (qb false)), qm 17 16, .g 17 true 19 (.fad 18 (.s 2) 2), .g 17 true 20 (.ldl 19 2 (.s 18) 1 false), .g 17 true 21 (.fad 20 (.s 3) 2), .g 17 true 22 (.ldl 21 3 (.s 20) 1 false), .g 17 true 23 (.call 23 143 false [(.s 19), (.s 21)]), .i (.pick 23 (.s 17) (.s 22) (qb false)), qm 24 23, .g 24 true 26 (.fad 25 (.s 2) 3), .g 24 true 27 (.ldl 26 2 (.s 25) 1 false), .g 24 true 28 (.fad 27 (.s 3) 3), .g 24 true 29 (.ldl 28 3 (.s 27) 1 false), .g 24 true 30 (.bin 29 .eql (.s 26) (.s 28)), .i (.pick 30 (.s 24) (.s 29) (qb false)), qm 31 30, .g 31 true 33 (.fad 32 (.s 2) 4), .g 31 true 34 (.ldl 33 2 (.s 32) 1 false), .g 31 true 35 (.fad 34 (.s 3) 4), .g 31 true 36 (.ldl 35 3 (.s 34) 1 false), .g 31 true 37 (.call 37 143 false [(.s 33), (.s 35)]), .i (.pick 37 (.s 31) (.s 36) (qb false)), qm 4 37]) .ret))⟩
theorem k_spec_VoteSame : cd n_spec_VoteSame = some c_spec_VoteSame := by kernel_rfl
theorem spec_VoteSame_ok (a b : Vote) : VC cd n_spec_VoteSame (mkP [(true, a.c), (true, b.c)]) (fun rs _ => rs = bl (voteSame a b)) := by
 refine VC_enter k_spec_VoteSame rfl ?_
 simp (disch := omega) [c_spec_VoteSame, Vote.c, VY]
 refine VXB_dec (fun h1 => ?_) (fun h1 => ?_) <;> simp (disch := omega) [h1, voteSame, VY]
 refine VXB_dec (fun h2 => ?_) (fun h2 => ?_) <;> simp (disch := omega) [h1, h2, VY]
 refine VXC_e (spec_SameBytes_ok a.block b.block) (by first | rfl | (simp [argsD, argDs, argD, St.slc, lk_cons, lk] <;> repeat' constructor)) rfl ?_
 simp (disch := omega) [h1, h2, VY]
 refine VXB_dec (fun h3 => ?_) (fun h3 => ?_) <;> simp (disch := omega) [h1, h2, h3, VY]
 refine VXB_dec (fun h4 => ?_) (fun h4 => ?_) <;> simp (disch := omega) [h1, h2, h3, h4, VY]
 refine VXC_e (spec_SameBytes_ok a.tag b.tag) (by first | rfl | (simp [argsD, argDs, argD, St.slc, lk_cons, lk] <;> repeat' constructor)) rfl ?_
 simp (disch := omega) [h1, h2, h3, h4, VY]
end Go.Eng.F
namespace Go.Eng.F
theorem lists_next {α : Type} {a b : List α} {i : Nat} (hd : ∀ j, j < i → a[j]? = b[j]?) (h : a[i]? = b[i]?) : ∀ j, j < i + 1 → a[j]? = b[j]? := fun j hj => by
 rcases Nat.lt_or_ge j i with hl | hl
 ·exact hd j hl
 ·obtain rfl : j = i := by omega
  exact h
theorem lists_eq {α : Type} {a b : List α} (hl : a.length = b.length) (hd : ∀ j, j < b.length → a[j]? = b[j]?) : a = b := by
 apply List.ext_getElem?
 intro j
 rcases Nat.lt_or_ge j b.length with h | h
 ·exact hd j h
 ·rw [List.getElem?_eq_none_iff.2 h, List.getElem?_eq_none_iff.2 (by omega)]
abbrev n_impl_TreeSame : Nat := 139
def c_impl_TreeSame : AF := ⟨2, 5, [.tmp 4], (.seq (.ops [.i (.mov 4 (qb false))]) (.seq (.seq (.ops [qm 6 0, .i (.len 7 false (.s 6)), qm 8 1, .i (.len 9 false (.s 8)), .i (.bin 10 .neq (.s 7) (.s 9))]) (.cond (.s 10) (.seq (.ops [.i (.mov 4 (qb false))]) .ret) .skip)) (.seq (.seq (.ops [qm 11 0, .i (.len 12 false (.s 11)), .i (.mov 13 (qi 0))]) (.block 0 (.loop [26, 25, 24, 23, 22, 21, 20, 19, 18, 17, 16, 15, 14, 5] (.seq (.ops [.i (.bin 14 .lss (.s 13) (.s 12))]) (.seq (.cond (.s 14) .skip (.exit 0)) (.seq (.block 1 (.seq (.ops [qm 15 13, qm 5 15]) (.seq (.ops [qm 16 0, qm 17 5, .i (.iad 18 (.s 16) (.s 17) 1), .i (.ldh 19 (.s 18) 1 false), qm 20 1, qm 21 5, .i (.iad 22 (.s 20) (.s 21) 1), .i (.ldh 23 (.s 22) 1 false), .i (.call 25 57 false [(.s 19), (.s 23)]), .i (.not 25 (.s 24))]) (.cond (.s 25) (.seq (.ops [.i (.mov 4 (qb false))]) .ret) .skip)))) (.ops [.i (.bin 26 .add (.s 13) (qi 1)), qm 13 26]))))))) (.seq (.ops [.i (.mov 4 (qb true))]) .ret))))⟩
theorem k_impl_TreeSame : cd n_impl_TreeSame = some c_impl_TreeSame := by kernel_rfl
theorem impl_TreeSame_ok (a b : List Bytes) (ha : Sz a.length) (hb : Sz b.length) : VC cd n_impl_TreeSame (mkP [(false, [.sl (bss a)]), (false, [.sl (bss b)])]) (fun rs _ => rs = bl (decide (a = b))) := by
 simp only [Sz] at ha hb
 refine VC_enter k_impl_TreeSame rfl ?_
 simp (disch := omega) [c_impl_TreeSame, bss_len, VY]
 refine VXB_dec (fun h1 => ?_) (fun h1 => ?_)
 case refine_2 =>
  have hn : ¬ a = b := fun e => h1 (by rw [e])
  simp (disch := omega) [h1, hn, VY]
 simp (disch := omega) [h1, bss_len, VY]
 refine VX_loopO (σ := Nat) (f1 := _) (es0 := _) (by simp (disch := omega) [VY]; rfl) (by simp (disch := omega) [VY]; rfl) (fun i => [(13, .val false [.int .i64 (i : Int)])]) (fun _ => []) (fun i g => g + i = b.length ∧ ∀ j, j < i → a[j]? = b[j]?) 0 b.length (by simp (disch := omega) [h1, VY]) (by simp (disch := omega) [VY]) ⟨by omega, fun j hj => by omega⟩ ?_
 rintro i n g ⟨hg, hd⟩ P hP
 simp (disch := omega) [h1, VY]
 refine VXB_dec (fun h2 => ?_) (fun h2 => ?_)
 ·have hi : i < a.length := by omega
  have hj : i < b.length := by omega
  simp (disch := omega) [bss_get hi, bss_get hj, VY]
  refine VXC_e (impl_SameBytes_ok a[i] b[i]) (by first | rfl | (simp [argsD, argDs, argD, St.slc, lk_cons, lk] <;> repeat' constructor)) rfl ?_
  simp (disch := omega) [VY]
  refine VXB_dec (fun h3 => ?_) (fun h3 => ?_)
  ·simp (disch := omega) [h3, VY]
   exact hP (i + 1) (g - 1) _ _ (by omega) ⟨by omega, lists_next hd (by simp [hi, hj, h3])⟩ (by simp (disch := omega) [VY]) (by simp (disch := omega) [VY])
  ·have hn : ¬ a = b := fun e => h3 (by subst e; rfl)
   simp (disch := omega) [h3, hn, VY]
 ·have he : a = b := lists_eq (by omega) (fun j hj => hd j (by omega))
  simp (disch := omega) [he, VY]
abbrev n_spec_TreeSame : Nat := 227
def c_spec_TreeSame : AF := ⟨2, 5, [.tmp 4], (.seq (.ops [.i (.mov 4 (qb false))]) (.seq (.seq (.ops [qm 6 0, .i (.len 7 false (.s 6)), qm 8 1, .i (.len 9 false (.s 8)), .i (.bin 10 .neq (.s 7) (.s 9))]) (.cond (.s 10) (.seq (.ops [.i (.mov 4 (qb false))]) .ret) .skip)) (.seq (.seq (.ops [qm 11 0, .i (.len 12 false (.s 11)), .i (.mov 13 (qi 0))]) (.block 0 (.loop [26, 25, 24, 23, 22, 21, 20, 19, 18, 17, 16, 15, 14, 5] (.seq (.ops [.i (.bin 14 .lss (.s 13) (.s 12))]) (.seq (.cond (.s 14) .skip (.exit 0)) (.seq (.block 1 (.seq (.ops [qm 15 13, qm 5 15]) (.seq (.ops [qm 16 0, qm 17 5, .i (.iad 18 (.s 16) (.s 17) 1), .i (.ldh 19 (.s 18) 1 false), qm 20 1, qm 21 5, .i (.iad 22 (.s 20) (.s 21) 1), .i (.ldh 23 (.s 22) 1 false), .i (.call 25 143 false [(.s 19), (.s 23)]), .i (.not 25 (.s 24))]) (.cond (.s 25) (.seq (.ops [.i (.mov 4 (qb false))]) .ret) .skip)))) (.ops [.i (.bin 26 .add (.s 13) (qi 1)), qm 13 26]))))))) (.seq (.ops [.i (.mov 4 (qb true))]) .ret))))⟩
theorem k_spec_TreeSame : cd n_spec_TreeSame = some c_spec_TreeSame := by kernel_rfl
theorem spec_TreeSame_ok (a b : List Bytes) (ha : Sz a.length) (hb : Sz b.length) : VC cd n_spec_TreeSame (mkP [(false, [.sl (bss a)]), (false, [.sl (bss b)])]) (fun rs _ => rs = bl (decide (a = b))) := by
 simp only [Sz] at ha hb
 refine VC_enter k_spec_TreeSame rfl ?_
 simp (disch := omega) [c_spec_TreeSame, bss_len, VY]
 refine VXB_dec (fun h1 => ?_) (fun h1 => ?_)
 case refine_2 =>
  have hn : ¬ a = b := fun e => h1 (by rw [e])
  simp (disch := omega) [h1, hn, VY]
 simp (disch := omega) [h1, bss_len, VY]
 refine VX_loopO (σ := Nat) (f1 := _) (es0 := _) (by simp (disch := omega) [VY]; rfl) (by simp (disch := omega) [VY]; rfl) (fun i => [(13, .val false [.int .i64 (i : Int)])]) (fun _ => []) (fun i g => g + i = b.length ∧ ∀ j, j < i → a[j]? = b[j]?) 0 b.length (by simp (disch := omega) [h1, VY]) (by simp (disch := omega) [VY]) ⟨by omega, fun j hj => by omega⟩ ?_
 rintro i n g ⟨hg, hd⟩ P hP
 simp (disch := omega) [h1, VY]
 refine VXB_dec (fun h2 => ?_) (fun h2 => ?_)
 ·have hi : i < a.length := by omega
  have hj : i < b.length := by omega
  simp (disch := omega) [bss_get hi, bss_get hj, VY]
  refine VXC_e (spec_SameBytes_ok a[i] b[i]) (by first | rfl | (simp [argsD, argDs, argD, St.slc, lk_cons, lk] <;> repeat' constructor)) rfl ?_
  simp (disch := omega) [VY]
  refine VXB_dec (fun h3 => ?_) (fun h3 => ?_)
  ·simp (disch := omega) [h3, VY]
   exact hP (i + 1) (g - 1) _ _ (by omega) ⟨by omega, lists_next hd (by simp [hi, hj, h3])⟩ (by simp (disch := omega) [VY]) (by simp (disch := omega) [VY])
  ·have hn : ¬ a = b := fun e => h3 (by subst e; rfl)
   simp (disch := omega) [h3, hn, VY]
 ·have he : a = b := lists_eq (by omega) (fun j hj => hd j (by omega))
  simp (disch := omega) [he, VY]
def qcSame (a b : Qc) : Bool := decide (a.view = b.view) && decide (a.height = b.height) && decide (a.block = b.block) && decide (a.bits = b.bits) && decide (a.tags = b.tags)
abbrev n_impl_QcSame : Nat := 59
def c_impl_QcSame : AF := ⟨2, 6, [.tmp 4], (.seq (.ops [.i (.lbox 2 (.s 0)), .i (.lbox 3 (.s 1)), .i (.mov 4 (qb false))]) (.seq (.ops [qf 5 2 0, ql 6 2 5 1 false, qf 7 3 0, ql 8 3 7 1 false, .i (.bin 9 .eql (.s 6) (.s 8)), qm 10 9, .g 10 true 12 (.fad 11 (.s 2) 1), .g 10 true 13 (.ldl 12 2 (.s 11) 1 false), .g 10 true 14 (.fad 13 (.s 3) 1), .g 10 true 15 (.ldl 14 3 (.s 13) 1 false), .g 10 true 16 (.bin 15 .eql (.s 12) (.s 14)), .i (.pick 16 (.s 10) (.s 15) (qb false)), qm 17 16, .g 17 true 19 (.fad 18 (.s 2) 2), .g 17 true 20 (.ldl 19 2 (.s 18) 1 false), .g 17 true 21 (.fad 20 (.s 3) 2), .g 17 true 22 (.ldl 21 3 (.s 20) 1 false), .g 17 true 23 (.call 23 57 false [(.s 19), (.s 21)]), .i (.pick 23 (.s 17) (.s 22) (qb false)), qm 24 23, .g 24 true 26 (.fad 25 (.s 2) 3), .g 24 true 27 (.ldl 26 2 (.s 25) 1 false), .g 24 true 28 (.fad 27 (.s 3) 3), .g 24 true 29 (.ldl 28 3 (.s 27) 1 false), .g 24 true 30 (.call 30 57 false [(.s 26), (.s 28)]), .i (.pick 30 (.s 24) (.s 29) (qb false)), qm 31 30, .g 31 true 33 (.fad 32 (.s 2) 4), .g 31 true 34 (.ldl 33 2 (.s 32) 1 false), .g 31 true 35 (.fad 34 (.s 3) 4), .g 31 true 36 (.ldl 35 3 (.s 34) 1 false), .g 31 true 37 (.call 37 139 false [(.s 33), (.s 35)]), .i (.pick 37 (.s 31) (.s 36) (qb false)), qm 4 37]) .ret))⟩
theorem k_impl_QcSame : cd n_impl_QcSame = some c_impl_QcSame := by kernel_rfl
theorem impl_QcSame_ok (a b : Qc) (ha : a.wf) (hb : b.wf) : VC cd n_impl_QcSame (mkP [(true, a.c), (true, b.c)]) (fun rs _ => rs = bl (qcSame a b)) := by
 refine VC_enter k_impl_QcSame rfl ?_
 simp (disch := omega) [c_impl_QcSame, Qc.c, VY]
 refine VXB_dec (fun h1 => ?_) (fun h1 => ?_) <;> simp (disch := omega) [h1, qcSame, VY]
 refine VXB_dec (fun h2 => ?_) (fun h2 => ?_) <;> simp (disch := omega) [h1, h2, VY]
 refine VXC_e (impl_SameBytes_ok a.block b.block) (by first | rfl | (simp [argsD, argDs, argD, St.slc, lk_cons, lk] <;> repeat' constructor)) rfl ?_
 simp (disch := omega) [h1, h2, VY]
 refine VXB_dec (fun h3 => ?_) (fun h3 => ?_) <;> simp (disch := omega) [h1, h2, h3, VY]
 refine VXC_e (impl_SameBytes_ok a.bits b.bits) (by first | rfl | (simp [argsD, argDs, argD, St.slc, lk_cons, lk] <;> repeat' constructor)) rfl ?_
 simp (disch := omega) [h1, h2, h3, VY]
 refine VXB_dec (fun h4 => ?_) (fun h4 => ?_) <;> simp (disch := omega) [h1, h2, h3, h4, VY]
 refine VXC_e (impl_TreeSame_ok a.tags b.tags ha.2.2.2.2 hb.2.2.2.2) (by first | rfl | (simp [argsD, argDs, argD, St.slc, lk_cons, lk] <;> repeat' constructor)) rfl ?_
 simp (disch := omega) [h1, h2, h3, h4, VY]
abbrev n_spec_QcSame : Nat := 154
def c_spec_QcSame : AF := ⟨2, 6, [.tmp 4], (.seq (.ops [.i (.lbox 2 (.s 0)), .i (.lbox 3 (.s 1)), .i (.mov 4 (qb false))]) (.seq (.ops [qf 5 2 0, ql 6 2 5 1 false, qf 7 3 0, ql 8 3 7 1 false, .i (.bin 9 .eql (.s 6) (.s 8)), qm 10 9, .g 10 true 12 (.fad 11 (.s 2) 1), .g 10 true 13 (.ldl 12 2 (.s 11) 1 false), .g 10 true 14 (.fad 13 (.s 3) 1), .g 10 true 15 (.ldl 14 3 (.s 13) 1 false), .g 10 true 16 (.bin 15 .eql (.s 12) (.s 14)), .i (.pick 16 (.s 10) (.s 15) (qb false)), qm 17 16, .g 17 true 19 (.fad 18 (.s 2) 2), .g 17 true 20 (.ldl 19 2 (.s 18) 1 false), .g 17 true 21 (.fad 20 (.s 3) 2), .g 17 true 22 (.ldl 21 3 (.s 20) 1 false), .g 17 true 23 (.call 23 143 false [(.s 19), (.s 21)]), .i (.pick 23 (.s 17) (.s 22) (qb false)), qm 24 23, .g 24 true 26 (.fad 25 (.s 2) 3), .g 24 true 27 (.ldl 26 2 (.s 25) 1 false), .g 24 true 28 (.fad 27 (.s 3) 3), .g 24 true 29 (.ldl 28 3 (.s 27) 1 false), .g 24 true 30 (.call 30 143 false [(.s 26), (.s 28)]), .i (.pick 30 (.s 24) (.s 29) (qb false)), qm 31 30, .g 31 true 33 (.fad 32 (.s 2) 4), .g 31 true 34 (.ldl 33 2 (.s 32) 1 false), .g 31 true 35 (.fad 34 (.s 3) 4), .g 31 true 36 (.ldl 35 3 (.s 34) 1 false), .g 31 true 37 (.call 37 227 false [(.s 33), (.s 35)]), .i (.pick 37 (.s 31) (.s 36) (qb false)), qm 4 37]) .ret))⟩
theorem k_spec_QcSame : cd n_spec_QcSame = some c_spec_QcSame := by kernel_rfl
theorem spec_QcSame_ok (a b : Qc) (ha : a.wf) (hb : b.wf) : VC cd n_spec_QcSame (mkP [(true, a.c), (true, b.c)]) (fun rs _ => rs = bl (qcSame a b)) := by
 refine VC_enter k_spec_QcSame rfl ?_
 simp (disch := omega) [c_spec_QcSame, Qc.c, VY]
 refine VXB_dec (fun h1 => ?_) (fun h1 => ?_) <;> simp (disch := omega) [h1, qcSame, VY]
 refine VXB_dec (fun h2 => ?_) (fun h2 => ?_) <;> simp (disch := omega) [h1, h2, VY]
 refine VXC_e (spec_SameBytes_ok a.block b.block) (by first | rfl | (simp [argsD, argDs, argD, St.slc, lk_cons, lk] <;> repeat' constructor)) rfl ?_
 simp (disch := omega) [h1, h2, VY]
 refine VXB_dec (fun h3 => ?_) (fun h3 => ?_) <;> simp (disch := omega) [h1, h2, h3, VY]
 refine VXC_e (spec_SameBytes_ok a.bits b.bits) (by first | rfl | (simp [argsD, argDs, argD, St.slc, lk_cons, lk] <;> repeat' constructor)) rfl ?_
 simp (disch := omega) [h1, h2, h3, VY]
 refine VXB_dec (fun h4 => ?_) (fun h4 => ?_) <;> simp (disch := omega) [h1, h2, h3, h4, VY]
 refine VXC_e (spec_TreeSame_ok a.tags b.tags ha.2.2.2.2 hb.2.2.2.2) (by first | rfl | (simp [argsD, argDs, argD, St.slc, lk_cons, lk] <;> repeat' constructor)) rfl ?_
 simp (disch := omega) [h1, h2, h3, h4, VY]
def headSame (a b : Head) : Bool := decide (a.view = b.view) && decide (a.height = b.height) && decide (a.proposer = b.proposer) && decide (a.parent = b.parent) && decide (a.root = b.root) && qcSame a.qc b.qc
abbrev n_impl_HeadSame : Nat := 13
def c_impl_HeadSame : AF := ⟨2, 6, [.tmp 4], (.seq (.ops [.i (.lbox 2 (.s 0)), .i (.lbox 3 (.s 1)), .i (.mov 4 (qb false))]) (.seq (.ops [qf 5 2 0, ql 6 2 5 1 false, qf 7 3 0, ql 8 3 7 1 false, .i (.bin 9 .eql (.s 6) (.s 8)), qm 10 9, .g 10 true 12 (.fad 11 (.s 2) 1), .g 10 true 13 (.ldl 12 2 (.s 11) 1 false), .g 10 true 14 (.fad 13 (.s 3) 1), .g 10 true 15 (.ldl 14 3 (.s 13) 1 false), .g 10 true 16 (.bin 15 .eql (.s 12) (.s 14)), .i (.pick 16 (.s 10) (.s 15) (qb false)), qm 17 16, .g 17 true 19 (.fad 18 (.s 2) 2), .g 17 true 20 (.ldl 19 2 (.s 18) 1 false), .g 17 true 21 (.fad 20 (.s 3) 2), .g 17 true 22 (.ldl 21 3 (.s 20) 1 false), .g 17 true 23 (.bin 22 .eql (.s 19) (.s 21)), .i (.pick 23 (.s 17) (.s 22) (qb false)), qm 24 23, .g 24 true 26 (.fad 25 (.s 2) 3), .g 24 true 27 (.ldl 26 2 (.s 25) 1 false), .g 24 true 28 (.fad 27 (.s 3) 3), .g 24 true 29 (.ldl 28 3 (.s 27) 1 false), .g 24 true 30 (.call 30 57 false [(.s 26), (.s 28)]), .i (.pick 30 (.s 24) (.s 29) (qb false)), qm 31 30, .g 31 true 33 (.fad 32 (.s 2) 4), .g 31 true 34 (.ldl 33 2 (.s 32) 1 false), .g 31 true 35 (.fad 34 (.s 3) 4), .g 31 true 36 (.ldl 35 3 (.s 34) 1 false), .g 31 true 37 (.call 37 57 false [(.s 33), (.s 35)]), .i (.pick 37 (.s 31) (.s 36) (qb false)), qm 38 37, .g 38 true 40 (.fad 39 (.s 2) 5), .g 38 true 41 (.ldl 40 2 (.s 39) 5 true), .g 38 true 42 (.fad 41 (.s 3) 5), .g 38 true 43 (.ldl 42 3 (.s 41) 5 true), .g 38 true 44 (.call 44 59 false [(.s 40), (.s 42)]), .i (.pick 44 (.s 38) (.s 43) (qb false)), qm 4 44]) .ret))⟩
theorem k_impl_HeadSame : cd n_impl_HeadSame = some c_impl_HeadSame := by kernel_rfl
theorem impl_HeadSame_ok (a b : Head) (ha : a.wf) (hb : b.wf) : VC cd n_impl_HeadSame (mkP [(true, a.c), (true, b.c)]) (fun rs _ => rs = bl (headSame a b)) := by
 refine VC_enter k_impl_HeadSame rfl ?_
 simp (disch := omega) [c_impl_HeadSame, Head.c, VY]
 refine VXB_dec (fun h1 => ?_) (fun h1 => ?_) <;> simp (disch := omega) [h1, headSame, VY]
 refine VXB_dec (fun h2 => ?_) (fun h2 => ?_) <;> simp (disch := omega) [h1, h2, VY]
 refine VXB_dec (fun h3 => ?_) (fun h3 => ?_) <;> simp (disch := omega) [h1, h2, h3, VY]
 refine VXC_e (impl_SameBytes_ok a.parent b.parent) (by first | rfl | (simp [argsD, argDs, argD, St.slc, lk_cons, lk] <;> repeat' constructor)) rfl ?_
 simp (disch := omega) [h1, h2, h3, VY]
 refine VXB_dec (fun h4 => ?_) (fun h4 => ?_) <;> simp (disch := omega) [h1, h2, h3, h4, VY]
 refine VXC_e (impl_SameBytes_ok a.root b.root) (by first | rfl | (simp [argsD, argDs, argD, St.slc, lk_cons, lk] <;> repeat' constructor)) rfl ?_
 simp (disch := omega) [h1, h2, h3, h4, VY]
 refine VXB_dec (fun h5 => ?_) (fun h5 => ?_) <;> simp (disch := omega) [h1, h2, h3, h4, h5, VY]
 refine VXC_e (impl_QcSame_ok a.qc b.qc ha.2.2.2.2.2 hb.2.2.2.2.2) (by first | rfl | (simp [Qc.c, argsD, argDs, argD, St.slc, lk_cons, lk] <;> repeat' constructor)) rfl ?_
 simp (disch := omega) [h1, h2, h3, h4, h5, VY]
abbrev n_spec_HeadSame : Nat := 155
def c_spec_HeadSame : AF := ⟨2, 6, [.tmp 4], (.seq (.ops [.i (.lbox 2 (.s 0)), .i (.lbox 3 (.s 1)), .i (.mov 4 (qb false))]) (.seq (.ops [qf 5 2 0, ql 6 2 5 1 false, qf 7 3 0, ql 8 3 7 1 false, .i (.bin 9 .eql (.s 6) (.s 8)), qm 10 9, .g 10 true 12 (.fad 11 (.s 2) 1), .g 10 true 13 (.ldl 12 2 (.s 11) 1 false), .g 10 true 14 (.fad 13 (.s 3) 1), .g 10 true 15 (.ldl 14 3 (.s 13) 1 false), .g 10 true 16 (.bin 15 .eql (.s 12) (.s 14)), .i (.pick 16 (.s 10) (.s 15) (qb false)), qm 17 16, .g 17 true 19 (.fad 18 (.s 2) 2), .g 17 true 20 (.ldl 19 2 (.s 18) 1 false), .g 17 true 21 (.fad 20 (.s 3) 2), .g 17 true 22 (.ldl 21 3 (.s 20) 1 false), .g 17 true 23 (.bin 22 .eql (.s 19) (.s 21)), .i (.pick 23 (.s 17) (.s 22) (qb false)), qm 24 23, .g 24 true 26 (.fad 25 (.s 2) 3), .g 24 true 27 (.ldl 26 2 (.s 25) 1 false), .g 24 true 28 (.fad 27 (.s 3) 3), .g 24 true 29 (.ldl 28 3 (.s 27) 1 false), .g 24 true 30 (.call 30 143 false [(.s 26), (.s 28)]), .i (.pick 30 (.s 24) (.s 29) (qb false)), qm 31 30, .g 31 true 33 (.fad 32 (.s 2) 4), .g 31 true 34 (.ldl 33 2 (.s 32) 1 false), .g 31 true 35 (.fad 34 (.s 3) 4), .g 31 true 36 (.ldl 35 3 (.s 34) 1 false), .g 31 true 37 (.call 37 143 false [(.s 33), (.s 35)]), .i (.pick 37 (.s 31) (.s 36) (qb false)), qm 38 37, .g 38 true 40 (.fad 39 (.s 2) 5), .g 38 true 41 (.ldl 40 2 (.s 39) 5 true), .g 38 true 42 (.fad 41 (.s 3) 5), .g 38 true 43 (.ldl 42 3 (.s 41) 5 true), .g 38 true 44 (.call 44 154 false [(.s 40), (.s 42)]), .i (.pick 44 (.s 38) (.s 43) (qb false)), qm 4 44]) .ret))⟩
theorem k_spec_HeadSame : cd n_spec_HeadSame = some c_spec_HeadSame := by kernel_rfl
theorem spec_HeadSame_ok (a b : Head) (ha : a.wf) (hb : b.wf) : VC cd n_spec_HeadSame (mkP [(true, a.c), (true, b.c)]) (fun rs _ => rs = bl (headSame a b)) := by
 refine VC_enter k_spec_HeadSame rfl ?_
 simp (disch := omega) [c_spec_HeadSame, Head.c, VY]
 refine VXB_dec (fun h1 => ?_) (fun h1 => ?_) <;> simp (disch := omega) [h1, headSame, VY]
 refine VXB_dec (fun h2 => ?_) (fun h2 => ?_) <;> simp (disch := omega) [h1, h2, VY]
 refine VXB_dec (fun h3 => ?_) (fun h3 => ?_) <;> simp (disch := omega) [h1, h2, h3, VY]
 refine VXC_e (spec_SameBytes_ok a.parent b.parent) (by first | rfl | (simp [argsD, argDs, argD, St.slc, lk_cons, lk] <;> repeat' constructor)) rfl ?_
 simp (disch := omega) [h1, h2, h3, VY]
 refine VXB_dec (fun h4 => ?_) (fun h4 => ?_) <;> simp (disch := omega) [h1, h2, h3, h4, VY]
 refine VXC_e (spec_SameBytes_ok a.root b.root) (by first | rfl | (simp [argsD, argDs, argD, St.slc, lk_cons, lk] <;> repeat' constructor)) rfl ?_
 simp (disch := omega) [h1, h2, h3, h4, VY]
 refine VXB_dec (fun h5 => ?_) (fun h5 => ?_) <;> simp (disch := omega) [h1, h2, h3, h4, h5, VY]
 refine VXC_e (spec_QcSame_ok a.qc b.qc ha.2.2.2.2.2 hb.2.2.2.2.2) (by first | rfl | (simp [Qc.c, argsD, argDs, argD, St.slc, lk_cons, lk] <;> repeat' constructor)) rfl ?_
 simp (disch := omega) [h1, h2, h3, h4, h5, VY]
def blockSame (a b : Block) : Bool := headSame a.head b.head && decide (a.txs = b.txs)
abbrev n_impl_BlockSame : Nat := 184
def c_impl_BlockSame : AF := ⟨2, 5, [.tmp 4], (.seq (.ops [.i (.lbox 2 (.s 0)), .i (.lbox 3 (.s 1)), .i (.mov 4 (qb false))]) (.seq (.ops [qf 5 2 0, ql 6 2 5 10 true, qf 7 3 0, ql 8 3 7 10 true, .i (.call 10 13 false [(.s 6), (.s 8)]), qm 10 9, .g 10 true 12 (.fad 11 (.s 2) 10), .g 10 true 13 (.ldl 12 2 (.s 11) 1 false), .g 10 true 14 (.fad 13 (.s 3) 10), .g 10 true 15 (.ldl 14 3 (.s 13) 1 false), .g 10 true 16 (.call 16 139 false [(.s 12), (.s 14)]), .i (.pick 16 (.s 10) (.s 15) (qb false)), qm 4 16]) .ret))⟩
theorem k_impl_BlockSame : cd n_impl_BlockSame = some c_impl_BlockSame := by kernel_rfl
theorem impl_BlockSame_ok (a b : Block) (ha : a.wc) (hb : b.wc) : VC cd n_impl_BlockSame (mkP [(true, a.c), (true, b.c)]) (fun rs _ => rs = bl (blockSame a b)) := by
 refine VC_enter k_impl_BlockSame rfl ?_
 simp (disch := omega) [c_impl_BlockSame, Block.c, Head.c, VY]
 refine VXC_e (impl_HeadSame_ok a.head b.head ha.1.1 hb.1.1) (by first | rfl | (simp [Head.c, argsD, argDs, argD, St.slc, lk_cons, lk] <;> repeat' constructor)) rfl ?_
 simp (disch := omega) [VY]
 refine VXB_b (fun h1 => ?_) (fun h1 => ?_) <;> simp (disch := omega) [h1, blockSame, VY]
 refine VXC_e (impl_TreeSame_ok a.txs b.txs ha.2.1 hb.2.1) (by first | rfl | (simp [argsD, argDs, argD, St.slc, lk_cons, lk] <;> repeat' constructor)) rfl ?_
 simp (disch := omega) [h1, VY]
abbrev n_spec_BlockSame : Nat := 156
def c_spec_BlockSame : AF := ⟨2, 5, [.tmp 4], (.seq (.ops [.i (.lbox 2 (.s 0)), .i (.lbox 3 (.s 1)), .i (.mov 4 (qb false))]) (.seq (.ops [qf 5 2 0, ql 6 2 5 10 true, qf 7 3 0, ql 8 3 7 10 true, .i (.call 10 155 false [(.s 6), (.s 8)]), qm 10 9, .g 10 true 12 (.fad 11 (.s 2) 10), .g 10 true 13 (.ldl 12 2 (.s 11) 1 false), .g 10 true 14 (.fad 13 (.s 3) 10), .g 10 true 15 (.ldl 14 3 (.s 13) 1 false), .g 10 true 16 (.call 16 227 false [(.s 12), (.s 14)]), .i (.pick 16 (.s 10) (.s 15) (qb false)), qm 4 16]) .ret))⟩
theorem k_spec_BlockSame : cd n_spec_BlockSame = some c_spec_BlockSame := by kernel_rfl
theorem spec_BlockSame_ok (a b : Block) (ha : a.wc) (hb : b.wc) : VC cd n_spec_BlockSame (mkP [(true, a.c), (true, b.c)]) (fun rs _ => rs = bl (blockSame a b)) := by
 refine VC_enter k_spec_BlockSame rfl ?_
 simp (disch := omega) [c_spec_BlockSame, Block.c, Head.c, VY]
 refine VXC_e (spec_HeadSame_ok a.head b.head ha.1.1 hb.1.1) (by first | rfl | (simp [Head.c, argsD, argDs, argD, St.slc, lk_cons, lk] <;> repeat' constructor)) rfl ?_
 simp (disch := omega) [VY]
 refine VXB_b (fun h1 => ?_) (fun h1 => ?_) <;> simp (disch := omega) [h1, blockSame, VY]
 refine VXC_e (spec_TreeSame_ok a.txs b.txs ha.2.1 hb.2.1) (by first | rfl | (simp [argsD, argDs, argD, St.slc, lk_cons, lk] <;> repeat' constructor)) rfl ?_
 simp (disch := omega) [h1, VY]
structure Incl where
 height : Int
 n : Int
 idx : Int
 tx : Bytes
 path : List Bytes
def Incl.c (x : Incl) : List D := [.int .i64 x.height, .int .i64 x.n, .int .i64 x.idx, .sl (bytes x.tx), .sl (bss x.path)]
def Incl.wc (x : Incl) : Prop := I64 x.height ∧ I64 x.n ∧ I64 x.idx ∧ Sz x.tx.length ∧ BssWf x.path
def Incl.o (x : Incl) : List E := [.p (.int .i64 x.height), .p (.int .i64 x.n), .p (.int .i64 x.idx), .o true (some (5, 1)) (bytes x.tx), .o true (some (22, 1)) (bss x.path)]
def inclSame (a b : Incl) : Bool := decide (a.height = b.height) && decide (a.n = b.n) && decide (a.idx = b.idx) && decide (a.tx = b.tx) && decide (a.path = b.path)
abbrev n_impl_InclSame : Nat := 187
def c_impl_InclSame : AF := ⟨2, 6, [.tmp 4], (.seq (.ops [.i (.lbox 2 (.s 0)), .i (.lbox 3 (.s 1)), .i (.mov 4 (qb false))]) (.seq (.ops [qf 5 2 0, ql 6 2 5 1 false, qf 7 3 0, ql 8 3 7 1 false, .i (.bin 9 .eql (.s 6) (.s 8)), qm 10 9, .g 10 true 12 (.fad 11 (.s 2) 1), .g 10 true 13 (.ldl 12 2 (.s 11) 1 false), .g 10 true 14 (.fad 13 (.s 3) 1), .g 10 true 15 (.ldl 14 3 (.s 13) 1 false), .g 10 true 16 (.bin 15 .eql (.s 12) (.s 14)), .i (.pick 16 (.s 10) (.s 15) (qb false)), qm 17 16, .g 17 true 19 (.fad 18 (.s 2) 2), .g 17 true 20 (.ldl 19 2 (.s 18) 1 false), .g 17 true 21 (.fad 20 (.s 3) 2), .g 17 true 22 (.ldl 21 3 (.s 20) 1 false), .g 17 true 23 (.bin 22 .eql (.s 19) (.s 21)), .i (.pick 23 (.s 17) (.s 22) (qb false)), qm 24 23, .g 24 true 26 (.fad 25 (.s 2) 3), .g 24 true 27 (.ldl 26 2 (.s 25) 1 false), .g 24 true 28 (.fad 27 (.s 3) 3), .g 24 true 29 (.ldl 28 3 (.s 27) 1 false), .g 24 true 30 (.call 30 57 false [(.s 26), (.s 28)]), .i (.pick 30 (.s 24) (.s 29) (qb false)), qm 31 30, .g 31 true 33 (.fad 32 (.s 2) 4), .g 31 true 34 (.ldl 33 2 (.s 32) 1 false), .g 31 true 35 (.fad 34 (.s 3) 4), .g 31 true 36 (.ldl 35 3 (.s 34) 1 false), .g 31 true 37 (.call 37 139 false [(.s 33), (.s 35)]), .i (.pick 37 (.s 31) (.s 36) (qb false)), qm 4 37]) .ret))⟩
theorem k_impl_InclSame : cd n_impl_InclSame = some c_impl_InclSame := by kernel_rfl
theorem impl_InclSame_ok (a b : Incl) (ha : a.wc) (hb : b.wc) : VC cd n_impl_InclSame (mkP [(true, a.c), (true, b.c)]) (fun rs _ => rs = bl (inclSame a b)) := by
 refine VC_enter k_impl_InclSame rfl ?_
 simp (disch := omega) [c_impl_InclSame, Incl.c, VY]
 refine VXB_dec (fun h1 => ?_) (fun h1 => ?_) <;> simp (disch := omega) [h1, inclSame, VY]
 refine VXB_dec (fun h2 => ?_) (fun h2 => ?_) <;> simp (disch := omega) [h1, h2, VY]
 refine VXB_dec (fun h3 => ?_) (fun h3 => ?_) <;> simp (disch := omega) [h1, h2, h3, VY]
 refine VXC_e (impl_SameBytes_ok a.tx b.tx) (by first | rfl | (simp [argsD, argDs, argD, St.slc, lk_cons, lk] <;> repeat' constructor)) rfl ?_
 simp (disch := omega) [h1, h2, h3, VY]
 refine VXB_dec (fun h4 => ?_) (fun h4 => ?_) <;> simp (disch := omega) [h1, h2, h3, h4, VY]
 refine VXC_e (impl_TreeSame_ok a.path b.path ha.2.2.2.2.1 hb.2.2.2.2.1) (by first | rfl | (simp [argsD, argDs, argD, St.slc, lk_cons, lk] <;> repeat' constructor)) rfl ?_
 simp (disch := omega) [h1, h2, h3, h4, VY]
abbrev n_spec_InclSame : Nat := 159
def c_spec_InclSame : AF := ⟨2, 6, [.tmp 4], (.seq (.ops [.i (.lbox 2 (.s 0)), .i (.lbox 3 (.s 1)), .i (.mov 4 (qb false))]) (.seq (.ops [qf 5 2 0, ql 6 2 5 1 false, qf 7 3 0, ql 8 3 7 1 false, .i (.bin 9 .eql (.s 6) (.s 8)), qm 10 9, .g 10 true 12 (.fad 11 (.s 2) 1), .g 10 true 13 (.ldl 12 2 (.s 11) 1 false), .g 10 true 14 (.fad 13 (.s 3) 1), .g 10 true 15 (.ldl 14 3 (.s 13) 1 false), .g 10 true 16 (.bin 15 .eql (.s 12) (.s 14)), .i (.pick 16 (.s 10) (.s 15) (qb false)), qm 17 16, .g 17 true 19 (.fad 18 (.s 2) 2), .g 17 true 20 (.ldl 19 2 (.s 18) 1 false), .g 17 true 21 (.fad 20 (.s 3) 2), .g 17 true 22 (.ldl 21 3 (.s 20) 1 false), .g 17 true 23 (.bin 22 .eql (.s 19) (.s 21)), .i (.pick 23 (.s 17) (.s 22) (qb false)), qm 24 23, .g 24 true 26 (.fad 25 (.s 2) 3), .g 24 true 27 (.ldl 26 2 (.s 25) 1 false), .g 24 true 28 (.fad 27 (.s 3) 3), .g 24 true 29 (.ldl 28 3 (.s 27) 1 false), .g 24 true 30 (.call 30 143 false [(.s 26), (.s 28)]), .i (.pick 30 (.s 24) (.s 29) (qb false)), qm 31 30, .g 31 true 33 (.fad 32 (.s 2) 4), .g 31 true 34 (.ldl 33 2 (.s 32) 1 false), .g 31 true 35 (.fad 34 (.s 3) 4), .g 31 true 36 (.ldl 35 3 (.s 34) 1 false), .g 31 true 37 (.call 37 227 false [(.s 33), (.s 35)]), .i (.pick 37 (.s 31) (.s 36) (qb false)), qm 4 37]) .ret))⟩
theorem k_spec_InclSame : cd n_spec_InclSame = some c_spec_InclSame := by kernel_rfl
theorem spec_InclSame_ok (a b : Incl) (ha : a.wc) (hb : b.wc) : VC cd n_spec_InclSame (mkP [(true, a.c), (true, b.c)]) (fun rs _ => rs = bl (inclSame a b)) := by
 refine VC_enter k_spec_InclSame rfl ?_
 simp (disch := omega) [c_spec_InclSame, Incl.c, VY]
 refine VXB_dec (fun h1 => ?_) (fun h1 => ?_) <;> simp (disch := omega) [h1, inclSame, VY]
 refine VXB_dec (fun h2 => ?_) (fun h2 => ?_) <;> simp (disch := omega) [h1, h2, VY]
 refine VXB_dec (fun h3 => ?_) (fun h3 => ?_) <;> simp (disch := omega) [h1, h2, h3, VY]
 refine VXC_e (spec_SameBytes_ok a.tx b.tx) (by first | rfl | (simp [argsD, argDs, argD, St.slc, lk_cons, lk] <;> repeat' constructor)) rfl ?_
 simp (disch := omega) [h1, h2, h3, VY]
 refine VXB_dec (fun h4 => ?_) (fun h4 => ?_) <;> simp (disch := omega) [h1, h2, h3, h4, VY]
 refine VXC_e (spec_TreeSame_ok a.path b.path ha.2.2.2.2.1 hb.2.2.2.2.1) (by first | rfl | (simp [argsD, argDs, argD, St.slc, lk_cons, lk] <;> repeat' constructor)) rfl ?_
 simp (disch := omega) [h1, h2, h3, h4, VY]
abbrev n_impl_Incl_copied : Nat := 253
def c_impl_Incl_copied : AF := ⟨1, 5, [.cell 2 5 true], (.seq (.ops [.i (.lbox 1 (.s 0)), .i (.lal 2 [.int .i64 0, .int .i64 0, .int .i64 0, .nils, .nils])]) (.seq (.ops [qf 3 1 0, ql 4 1 3 1 false, qf 5 1 1, ql 6 1 5 1 false, qf 7 1 2, ql 8 1 7 1 false, qf 9 1 3, ql 10 1 9 1 false, .i (.call 12 60 false [(.s 10)]), qf 12 1 4, ql 13 1 12 1 false, .i (.call 15 220 false [(.s 13)]), .i (.bld 15 [.int .i64 0, .int .i64 0, .int .i64 0, .nils, .nils] [(0, 1, (.s 4)), (1, 1, (.s 6)), (2, 1, (.s 8)), (3, 1, (.s 11)), (4, 1, (.s 14))]), .i (.stl 2 (.s 2) (.s 15) 5)]) .ret))⟩
theorem k_impl_Incl_copied : cd n_impl_Incl_copied = some c_impl_Incl_copied := by kernel_rfl
theorem Incl_copied_ok (x : Incl) (hw : x.wc) : VC cd n_impl_Incl_copied (mkP [(true, x.c)]) (fun rs _ => rs = [(true, x.o)]) := by
 have w := hw.2.2.2.1
 simp only [Sz] at w
 refine VC_enter k_impl_Incl_copied rfl ?_
 simp (disch := omega) [c_impl_Incl_copied, Incl.c, VY]
 refine VXC_e (copyBytes_ok x.tx (by omega)) (by first | rfl | (simp [argsD, argDs, argD, St.slc, lk_cons, lk] <;> repeat' constructor)) rfl ?_
 simp (disch := omega) [VY]
 refine VXC_e (copyList_ok x.path hw.2.2.2.2) (by first | rfl | (simp [argsD, argDs, argD, St.slc, lk_cons, lk] <;> repeat' constructor)) rfl ?_
 simp (disch := omega) [Incl.o, VY]
abbrev n_spec_l16Incl : Nat := 231
def c_spec_l16Incl : AF := ⟨1, 5, [.cell 2 5 true], (.seq (.ops [.i (.lbox 1 (.s 0)), .i (.lal 2 [.int .i64 0, .int .i64 0, .int .i64 0, .nils, .nils])]) (.seq (.ops [qf 3 1 0, ql 4 1 3 1 false, qf 5 1 1, ql 6 1 5 1 false, qf 7 1 2, ql 8 1 7 1 false, qf 9 1 3, ql 10 1 9 1 false, .i (.call 12 115 false [(.s 10)]), qf 12 1 4, ql 13 1 12 1 false, .i (.call 15 225 false [(.s 13)]), .i (.bld 15 [.int .i64 0, .int .i64 0, .int .i64 0, .nils, .nils] [(0, 1, (.s 4)), (1, 1, (.s 6)), (2, 1, (.s 8)), (3, 1, (.s 11)), (4, 1, (.s 14))]), .i (.stl 2 (.s 2) (.s 15) 5)]) .ret))⟩
theorem k_spec_l16Incl : cd n_spec_l16Incl = some c_spec_l16Incl := by kernel_rfl
theorem l16Incl_ok (x : Incl) (hw : x.wc) : VC cd n_spec_l16Incl (mkP [(true, x.c)]) (fun rs _ => rs = [(true, x.o)]) := by
 have w := hw.2.2.2.1
 simp only [Sz] at w
 refine VC_enter k_spec_l16Incl rfl ?_
 simp (disch := omega) [c_spec_l16Incl, Incl.c, VY]
 refine VXC_e (l01Copy_ok x.tx (by omega)) (by first | rfl | (simp [argsD, argDs, argD, St.slc, lk_cons, lk] <;> repeat' constructor)) rfl ?_
 simp (disch := omega) [VY]
 refine VXC_e (l06Copy_ok x.path hw.2.2.2.2) (by first | rfl | (simp [argsD, argDs, argD, St.slc, lk_cons, lk] <;> repeat' constructor)) rfl ?_
 simp (disch := omega) [Incl.o, VY]
def allSame {α : Type} (f : α → α → Bool) (a b : List α) : Bool := decide (a.length = b.length) && (List.range b.length).all fun i => match a[i]?, b[i]? with | some x, some y => f x y | _, _ => false
theorem allSame_len {α : Type} {f : α → α → Bool} {a b : List α} (h : ¬ a.length = b.length) : allSame f a b = false := by unfold allSame; rw [decide_eq_false h]; rfl
theorem allSame_no {α : Type} {f : α → α → Bool} {a b : List α} {i : Nat} (hi : i < a.length) (hj : i < b.length) (h : f a[i] b[i] = false) : allSame f a b = false := by
 unfold allSame
 rw [Bool.and_eq_false_iff]
 right
 rw [List.all_eq_false]
 exact ⟨i, by simp [hj], by simp [hi, hj, h]⟩
theorem allSame_yes {α : Type} {f : α → α → Bool} {a b : List α} (hl : a.length = b.length) (h : ∀ i, i < b.length → (hi : i < a.length) → (hj : i < b.length) → f a[i] b[i] = true) : allSame f a b = true := by
 unfold allSame
 rw [Bool.and_eq_true, List.all_eq_true]
 refine ⟨by simp [hl], fun i hi => ?_⟩
 have hj : i < b.length := by simpa using hi
 have hi2 : i < a.length := by omega
 simp [hi2, hj, h i hj hi2 hj]
theorem all_next {α : Type} {f : α → α → Bool} {a b : List α} {i : Nat} (hd : ∀ j, j < i → (hi : j < a.length) → (hj : j < b.length) → f a[j] b[j] = true) {hi : i < a.length} {hj : i < b.length} (h : f a[i] b[i] = true) : ∀ j, j < i + 1 → (hi : j < a.length) → (hj : j < b.length) → f a[j] b[j] = true := fun j h2 hx hy => by
 rcases Nat.lt_or_ge j i with hl | hl
 ·exact hd j hl hx hy
 ·obtain rfl : j = i := by omega
  exact h
def headsSame (a b : List Head) : Bool := allSame headSame a b
def proofSame (a b : Proof) : Bool := headsSame a.heads b.heads && qcSame a.qc b.qc
abbrev n_impl_headsSame : Nat := 249
def c_impl_headsSame : AF := ⟨2, 5, [.tmp 4], (.seq (.ops [.i (.mov 4 (qb false))]) (.seq (.seq (.ops [qm 6 0, .i (.len 7 false (.s 6)), qm 8 1, .i (.len 9 false (.s 8)), .i (.bin 10 .neq (.s 7) (.s 9))]) (.cond (.s 10) (.seq (.ops [.i (.mov 4 (qb false))]) .ret) .skip)) (.seq (.seq (.ops [qm 11 0, .i (.len 12 false (.s 11)), .i (.mov 13 (qi 0))]) (.block 0 (.loop [26, 25, 24, 23, 22, 21, 20, 19, 18, 17, 16, 15, 14, 5] (.seq (.ops [.i (.bin 14 .lss (.s 13) (.s 12))]) (.seq (.cond (.s 14) .skip (.exit 0)) (.seq (.block 1 (.seq (.ops [qm 15 13, qm 5 15]) (.seq (.ops [qm 16 0, qm 17 5, .i (.iad 18 (.s 16) (.s 17) 10), .i (.ldh 19 (.s 18) 10 true), qm 20 1, qm 21 5, .i (.iad 22 (.s 20) (.s 21) 10), .i (.ldh 23 (.s 22) 10 true), .i (.call 25 13 false [(.s 19), (.s 23)]), .i (.not 25 (.s 24))]) (.cond (.s 25) (.seq (.ops [.i (.mov 4 (qb false))]) .ret) .skip)))) (.ops [.i (.bin 26 .add (.s 13) (qi 1)), qm 13 26]))))))) (.seq (.ops [.i (.mov 4 (qb true))]) .ret))))⟩
theorem k_impl_headsSame : cd n_impl_headsSame = some c_impl_headsSame := by kernel_rfl
theorem impl_headsSame_ok (a b : List Head) (ha : HeadsWf a) (hb : HeadsWf b) : VC cd n_impl_headsSame (mkP [(false, [.sl (hds a)]), (false, [.sl (hds b)])]) (fun rs _ => rs = bl (headsSame a b)) := by
 obtain ⟨w1, w2⟩ := ha
 obtain ⟨w3, w4⟩ := hb
 simp only [Sz] at w1 w3
 refine VC_enter k_impl_headsSame rfl ?_
 simp (disch := omega) [c_impl_headsSame, hds_len, VY]
 refine VXB_dec (fun h1 => ?_) (fun h1 => ?_)
 case refine_2 =>
  have hn : headsSame a b = false := allSame_len (fun e => h1 (by omega))
  simp (disch := omega) [h1, hn, VY]
 simp (disch := omega) [h1, hds_len, VY]
 refine VX_loopO (σ := Nat) (f1 := _) (es0 := _) (by simp (disch := omega) [VY]; rfl) (by simp (disch := omega) [VY]; rfl) (fun i => [(13, .val false [.int .i64 (i : Int)])]) (fun _ => []) (fun i g => g + i = b.length ∧ ∀ j, j < i → (hi : j < a.length) → (hj : j < b.length) → headSame a[j] b[j] = true) 0 b.length (by simp (disch := omega) [h1, VY]) (by simp (disch := omega) [VY]) ⟨by omega, fun j hj => by omega⟩ ?_
 rintro i n g ⟨hg, hd⟩ P hP
 simp (disch := omega) [h1, VY]
 refine VXB_dec (fun h2 => ?_) (fun h2 => ?_)
 ·have hi : i < a.length := by omega
  have hj : i < b.length := by omega
  simp (disch := omega) [hds_get hi, hds_get hj, Head.c, VY]
  refine VXC_e (impl_HeadSame_ok a[i] b[i] (w2 _ (List.getElem_mem hi)) (w4 _ (List.getElem_mem hj))) (by first | rfl | (simp [Head.c, argsD, argDs, argD, St.slc, lk_cons, lk] <;> repeat' constructor)) rfl ?_
  simp (disch := omega) [VY]
  refine VXB_b (fun h3 => ?_) (fun h3 => ?_)
  ·simp (disch := omega) [h3, VY]
   exact hP (i + 1) (g - 1) _ _ (by omega) ⟨by omega, all_next hd h3⟩ (by simp (disch := omega) [VY]) (by simp (disch := omega) [VY])
  ·simp (disch := omega) [h3, show headsSame a b = false from allSame_no hi hj h3, VY]
 ·have he : headsSame a b = true := allSame_yes (by omega) (fun i h hi hj => hd i (by omega) hi hj)
  simp (disch := omega) [he, VY]
abbrev n_impl_ProofSame : Nat := 186
def c_impl_ProofSame : AF := ⟨2, 5, [.tmp 4], (.seq (.ops [.i (.lbox 2 (.s 0)), .i (.lbox 3 (.s 1)), .i (.mov 4 (qb false))]) (.seq (.ops [qf 5 2 0, ql 6 2 5 1 false, qf 7 3 0, ql 8 3 7 1 false, .i (.call 10 249 false [(.s 6), (.s 8)]), qm 10 9, .g 10 true 12 (.fad 11 (.s 2) 1), .g 10 true 13 (.ldl 12 2 (.s 11) 5 true), .g 10 true 14 (.fad 13 (.s 3) 1), .g 10 true 15 (.ldl 14 3 (.s 13) 5 true), .g 10 true 16 (.call 16 59 false [(.s 12), (.s 14)]), .i (.pick 16 (.s 10) (.s 15) (qb false)), qm 4 16]) .ret))⟩
theorem k_impl_ProofSame : cd n_impl_ProofSame = some c_impl_ProofSame := by kernel_rfl
theorem impl_ProofSame_ok (a b : Proof) (ha : a.wf) (hb : b.wf) : VC cd n_impl_ProofSame (mkP [(true, a.c), (true, b.c)]) (fun rs _ => rs = bl (proofSame a b)) := by
 refine VC_enter k_impl_ProofSame rfl ?_
 simp (disch := omega) [c_impl_ProofSame, Proof.c, VY]
 refine VXC_e (impl_headsSame_ok a.heads b.heads ha.1 hb.1) (by first | rfl | (simp [argsD, argDs, argD, St.slc, lk_cons, lk] <;> repeat' constructor)) rfl ?_
 simp (disch := omega) [VY]
 refine VXB_b (fun h1 => ?_) (fun h1 => ?_) <;> simp (disch := omega) [h1, proofSame, VY]
 refine VXC_e (impl_QcSame_ok a.qc b.qc ha.2 hb.2) (by first | rfl | (simp [Qc.c, argsD, argDs, argD, St.slc, lk_cons, lk] <;> repeat' constructor)) rfl ?_
 simp (disch := omega) [h1, VY]
abbrev n_spec_ProofSame : Nat := 158
def c_spec_ProofSame : AF := ⟨2, 6, [.tmp 4], (.seq (.ops [.i (.lbox 2 (.s 0)), .i (.lbox 3 (.s 1)), .i (.mov 4 (qb false))]) (.seq (.seq (.ops [qf 6 2 0, ql 7 2 6 1 false, .i (.len 8 false (.s 7)), qf 9 3 0, ql 10 3 9 1 false, .i (.len 11 false (.s 10)), .i (.bin 12 .neq (.s 8) (.s 11))]) (.cond (.s 12) (.seq (.ops [.i (.mov 4 (qb false))]) .ret) .skip)) (.seq (.seq (.ops [qf 13 2 0, ql 14 2 13 1 false, .i (.len 15 false (.s 14)), .i (.mov 16 (qi 0))]) (.block 0 (.loop [31, 30, 29, 28, 27, 26, 25, 24, 23, 22, 21, 20, 19, 18, 17, 5] (.seq (.ops [.i (.bin 17 .lss (.s 16) (.s 15))]) (.seq (.cond (.s 17) .skip (.exit 0)) (.seq (.block 1 (.seq (.ops [qm 18 16, qm 5 18]) (.seq (.ops [qf 19 2 0, ql 20 2 19 1 false, qm 21 5, .i (.iad 22 (.s 20) (.s 21) 10), .i (.ldh 23 (.s 22) 10 true), qf 24 3 0, ql 25 3 24 1 false, qm 26 5, .i (.iad 27 (.s 25) (.s 26) 10), .i (.ldh 28 (.s 27) 10 true), .i (.call 30 155 false [(.s 23), (.s 28)]), .i (.not 30 (.s 29))]) (.cond (.s 30) (.seq (.ops [.i (.mov 4 (qb false))]) .ret) .skip)))) (.ops [.i (.bin 31 .add (.s 16) (qi 1)), qm 16 31]))))))) (.seq (.ops [qf 32 2 1, ql 33 2 32 5 true, qf 34 3 1, ql 35 3 34 5 true, .i (.call 37 154 false [(.s 33), (.s 35)]), qm 4 36]) .ret))))⟩
theorem k_spec_ProofSame : cd n_spec_ProofSame = some c_spec_ProofSame := by kernel_rfl
theorem spec_ProofSame_ok (a b : Proof) (ha : a.wf) (hb : b.wf) : VC cd n_spec_ProofSame (mkP [(true, a.c), (true, b.c)]) (fun rs _ => rs = bl (proofSame a b)) := by
 obtain ⟨⟨w1, w2⟩, wa⟩ := ha
 obtain ⟨⟨w3, w4⟩, wb⟩ := hb
 simp only [Sz] at w1 w3
 refine VC_enter k_spec_ProofSame rfl ?_
 simp (disch := omega) [c_spec_ProofSame, Proof.c, hds_len, VY]
 refine VXB_dec (fun h1 => ?_) (fun h1 => ?_)
 case refine_2 =>
  have hn : headsSame a.heads b.heads = false := allSame_len (fun e => h1 (by omega))
  simp (disch := omega) [h1, hn, proofSame, VY]
 simp (disch := omega) [h1, hds_len, VY]
 refine VX_loopO (σ := Nat) (f1 := _) (es0 := _) (by simp (disch := omega) [VY]; rfl) (by simp (disch := omega) [VY]; rfl) (fun i => [(16, .val false [.int .i64 (i : Int)])]) (fun _ => []) (fun i g => g + i = b.heads.length ∧ ∀ j, j < i → (hi : j < a.heads.length) → (hj : j < b.heads.length) → headSame a.heads[j] b.heads[j] = true) 0 b.heads.length (by simp (disch := omega) [h1, VY]) (by simp (disch := omega) [VY]) ⟨by omega, fun j hj => by omega⟩ ?_
 rintro i n g ⟨hg, hd⟩ P hP
 simp (disch := omega) [h1, VY]
 refine VXB_dec (fun h2 => ?_) (fun h2 => ?_)
 ·have hi : i < a.heads.length := by omega
  have hj : i < b.heads.length := by omega
  simp (disch := omega) [hds_get hi, hds_get hj, Head.c, VY]
  refine VXC_e (spec_HeadSame_ok a.heads[i] b.heads[i] (w2 _ (List.getElem_mem hi)) (w4 _ (List.getElem_mem hj))) (by first | rfl | (simp [Head.c, argsD, argDs, argD, St.slc, lk_cons, lk] <;> repeat' constructor)) rfl ?_
  simp (disch := omega) [VY]
  refine VXB_b (fun h3 => ?_) (fun h3 => ?_)
  ·simp (disch := omega) [h3, VY]
   exact hP (i + 1) (g - 1) _ _ (by omega) ⟨by omega, all_next hd h3⟩ (by simp (disch := omega) [VY]) (by simp (disch := omega) [VY])
  ·simp (disch := omega) [h3, show headsSame a.heads b.heads = false from allSame_no hi hj h3, proofSame, VY]
 ·have he : headsSame a.heads b.heads = true := allSame_yes (by omega) (fun i h hi hj => hd i (by omega) hi hj)
  simp (disch := omega) [VY]
  refine VXC_e (spec_QcSame_ok a.qc b.qc wa wb) (by first | rfl | (simp [Qc.c, argsD, argDs, argD, St.slc, lk_cons, lk] <;> repeat' constructor)) rfl ?_
  simp (disch := omega) [he, proofSame, VY]
def entSame (a b : Entry) : Bool := decide (a.who = b.who) && decide (a.high = b.high) && decide (a.tag = b.tag)
def tcSame (a b : Tc) : Bool := decide (a.view = b.view) && allSame entSame a.entries b.entries
abbrev n_impl_entrySame : Nat := 248
def c_impl_entrySame : AF := ⟨2, 5, [.tmp 4], (.seq (.ops [.i (.lbox 2 (.s 0)), .i (.lbox 3 (.s 1)), .i (.mov 4 (qb false))]) (.seq (.ops [qf 5 2 0, ql 6 2 5 1 false, qf 7 3 0, ql 8 3 7 1 false, .i (.bin 9 .eql (.s 6) (.s 8)), qm 10 9, .g 10 true 12 (.fad 11 (.s 2) 1), .g 10 true 13 (.ldl 12 2 (.s 11) 1 false), .g 10 true 14 (.fad 13 (.s 3) 1), .g 10 true 15 (.ldl 14 3 (.s 13) 1 false), .g 10 true 16 (.bin 15 .eql (.s 12) (.s 14)), .i (.pick 16 (.s 10) (.s 15) (qb false)), qm 17 16, .g 17 true 19 (.fad 18 (.s 2) 2), .g 17 true 20 (.ldl 19 2 (.s 18) 1 false), .g 17 true 21 (.fad 20 (.s 3) 2), .g 17 true 22 (.ldl 21 3 (.s 20) 1 false), .g 17 true 23 (.call 23 57 false [(.s 19), (.s 21)]), .i (.pick 23 (.s 17) (.s 22) (qb false)), qm 4 23]) .ret))⟩
theorem k_impl_entrySame : cd n_impl_entrySame = some c_impl_entrySame := by kernel_rfl
theorem impl_entrySame_ok (a b : Entry) : VC cd n_impl_entrySame (mkP [(true, a.c), (true, b.c)]) (fun rs _ => rs = bl (entSame a b)) := by
 refine VC_enter k_impl_entrySame rfl ?_
 simp (disch := omega) [c_impl_entrySame, Entry.c, VY]
 refine VXB_dec (fun h1 => ?_) (fun h1 => ?_) <;> simp (disch := omega) [h1, entSame, VY]
 refine VXB_dec (fun h2 => ?_) (fun h2 => ?_) <;> simp (disch := omega) [h1, h2, VY]
 refine VXC_e (impl_SameBytes_ok a.tag b.tag) (by first | rfl | (simp [argsD, argDs, argD, St.slc, lk_cons, lk] <;> repeat' constructor)) rfl ?_
 simp (disch := omega) [h1, h2, VY]
abbrev n_impl_TcSame : Nat := 185
def c_impl_TcSame : AF := ⟨2, 6, [.tmp 4], (.seq (.ops [.i (.lbox 2 (.s 0)), .i (.lbox 3 (.s 1)), .i (.mov 4 (qb false))]) (.seq (.seq (.ops [qf 6 2 0, ql 7 2 6 1 false, qf 8 3 0, ql 9 3 8 1 false, .i (.bin 10 .neq (.s 7) (.s 9)), qm 11 10, .g 11 false 13 (.fad 12 (.s 2) 1), .g 11 false 14 (.ldl 13 2 (.s 12) 1 false), .g 11 false 15 (.len 14 false (.s 13)), .g 11 false 16 (.fad 15 (.s 3) 1), .g 11 false 17 (.ldl 16 3 (.s 15) 1 false), .g 11 false 18 (.len 17 false (.s 16)), .g 11 false 19 (.bin 18 .neq (.s 14) (.s 17)), .i (.pick 19 (.s 11) (qb true) (.s 18))]) (.cond (.s 19) (.seq (.ops [.i (.mov 4 (qb false))]) .ret) .skip)) (.seq (.seq (.ops [qf 20 2 1, ql 21 2 20 1 false, .i (.len 22 false (.s 21)), .i (.mov 23 (qi 0))]) (.block 0 (.loop [38, 37, 36, 35, 34, 33, 32, 31, 30, 29, 28, 27, 26, 25, 24, 5] (.seq (.ops [.i (.bin 24 .lss (.s 23) (.s 22))]) (.seq (.cond (.s 24) .skip (.exit 0)) (.seq (.block 1 (.seq (.ops [qm 25 23, qm 5 25]) (.seq (.ops [qf 26 2 1, ql 27 2 26 1 false, qm 28 5, .i (.iad 29 (.s 27) (.s 28) 3), .i (.ldh 30 (.s 29) 3 true), qf 31 3 1, ql 32 3 31 1 false, qm 33 5, .i (.iad 34 (.s 32) (.s 33) 3), .i (.ldh 35 (.s 34) 3 true), .i (.call 37 248 false [(.s 30), (.s 35)]), .i (.not 37 (.s 36))]) (.cond (.s 37) (.seq (.ops [.i (.mov 4 (qb false))]) .ret) .skip)))) (.ops [.i (.bin 38 .add (.s 23) (qi 1)), qm 23 38]))))))) (.seq (.ops [.i (.mov 4 (qb true))]) .ret))))⟩
theorem k_impl_TcSame : cd n_impl_TcSame = some c_impl_TcSame := by kernel_rfl
theorem impl_TcSame_ok (a b : Tc) (ha : a.wf) (hb : b.wf) : VC cd n_impl_TcSame (mkP [(true, a.c), (true, b.c)]) (fun rs _ => rs = bl (tcSame a b)) := by
 have w1 := ha.2.1
 have w3 := hb.2.1
 simp only [Sz] at w1 w3
 refine VC_enter k_impl_TcSame rfl ?_
 simp (disch := omega) [c_impl_TcSame, Tc.c, ens_len, VY]
 refine VXB_dec (fun h0 => ?_) (fun h0 => ?_)
 case refine_2 => simp (disch := omega) [h0, tcSame, VY]
 simp (disch := omega) [h0, ens_len, VY]
 refine VXB_dec (fun h1 => ?_) (fun h1 => ?_)
 case refine_2 =>
  have hn : allSame entSame a.entries b.entries = false := allSame_len (fun e => h1 (by omega))
  simp (disch := omega) [h0, h1, hn, tcSame, VY]
 simp (disch := omega) [h0, h1, ens_len, VY]
 refine VX_loopO (σ := Nat) (f1 := _) (es0 := _) (by simp (disch := omega) [VY]; rfl) (by simp (disch := omega) [VY]; rfl) (fun i => [(23, .val false [.int .i64 (i : Int)])]) (fun _ => []) (fun i g => g + i = b.entries.length ∧ ∀ j, j < i → (hi : j < a.entries.length) → (hj : j < b.entries.length) → entSame a.entries[j] b.entries[j] = true) 0 b.entries.length (by simp (disch := omega) [h1, VY]) (by simp (disch := omega) [VY]) ⟨by omega, fun j hj => by omega⟩ ?_
 rintro i n g ⟨hg, hd⟩ P hP
 simp (disch := omega) [h1, VY]
 refine VXB_dec (fun h2 => ?_) (fun h2 => ?_)
 ·have hi : i < a.entries.length := by omega
  have hj : i < b.entries.length := by omega
  simp (disch := omega) [ens_get hi, ens_get hj, VY]
  refine VXC_e (impl_entrySame_ok a.entries[i] b.entries[i]) (by first | rfl | (simp [Entry.c, argsD, argDs, argD, St.slc, lk_cons, lk] <;> repeat' constructor)) rfl ?_
  simp (disch := omega) [VY]
  refine VXB_b (fun h3 => ?_) (fun h3 => ?_)
  ·simp (disch := omega) [h3, VY]
   exact hP (i + 1) (g - 1) _ _ (by omega) ⟨by omega, all_next hd h3⟩ (by simp (disch := omega) [VY]) (by simp (disch := omega) [VY])
  ·simp (disch := omega) [h3, show allSame entSame a.entries b.entries = false from allSame_no hi hj h3, tcSame, h0, VY]
 ·have he : allSame entSame a.entries b.entries = true := allSame_yes (by omega) (fun i h hi hj => hd i (by omega) hi hj)
  simp (disch := omega) [he, h0, tcSame, VY]
abbrev n_spec_TcSame : Nat := 157
def c_spec_TcSame : AF := ⟨2, 6, [.tmp 4], (.seq (.ops [.i (.lbox 2 (.s 0)), .i (.lbox 3 (.s 1)), .i (.mov 4 (qb false))]) (.seq (.seq (.ops [qf 8 2 0, ql 9 2 8 1 false, qf 10 3 0, ql 11 3 10 1 false, .i (.bin 12 .neq (.s 9) (.s 11)), qm 13 12, .g 13 false 15 (.fad 14 (.s 2) 1), .g 13 false 16 (.ldl 15 2 (.s 14) 1 false), .g 13 false 17 (.len 16 false (.s 15)), .g 13 false 18 (.fad 17 (.s 3) 1), .g 13 false 19 (.ldl 18 3 (.s 17) 1 false), .g 13 false 20 (.len 19 false (.s 18)), .g 13 false 21 (.bin 20 .neq (.s 16) (.s 19)), .i (.pick 21 (.s 13) (qb true) (.s 20))]) (.cond (.s 21) (.seq (.ops [.i (.mov 4 (qb false))]) .ret) .skip)) (.seq (.seq (.ops [qf 22 2 1, ql 23 2 22 1 false, .i (.len 24 false (.s 23)), .i (.mov 25 (qi 0))]) (.block 0 (.loop [55, 54, 53, 52, 51, 50, 49, 48, 47, 46, 45, 44, 43, 42, 41, 40, 39, 38, 37, 36, 35, 34, 33, 32, 31, 30, 29, 28, 27, 26, 7, 6, 5] (.seq (.ops [.i (.bin 26 .lss (.s 25) (.s 24))]) (.seq (.cond (.s 26) .skip (.exit 0)) (.seq (.block 1 (.seq (.ops [qm 27 25, .i (.iad 28 (.s 23) (.s 25) 3), .i (.ldh 29 (.s 28) 3 true), .i (.lal 6 [.int .i64 0, .int .i64 0, .nils]), qm 5 27, .i (.stl 6 (.s 6) (.s 29) 3)]) (.seq (.ops [qf 30 3 1, ql 31 3 30 1 false, qm 32 5, .i (.iad 33 (.s 31) (.s 32) 3), .i (.ldh 34 (.s 33) 3 true), .i (.lal 7 [.int .i64 0, .int .i64 0, .nils]), .i (.stl 7 (.s 7) (.s 34) 3)]) (.seq (.ops [qf 35 6 0, ql 36 6 35 1 false, qf 37 7 0, ql 38 7 37 1 false, .i (.bin 39 .neq (.s 36) (.s 38)), qm 40 39, .g 40 false 42 (.fad 41 (.s 6) 1), .g 40 false 43 (.ldl 42 6 (.s 41) 1 false), .g 40 false 44 (.fad 43 (.s 7) 1), .g 40 false 45 (.ldl 44 7 (.s 43) 1 false), .g 40 false 46 (.bin 45 .neq (.s 42) (.s 44)), .i (.pick 46 (.s 40) (qb true) (.s 45)), qm 47 46, .g 47 false 49 (.fad 48 (.s 6) 2), .g 47 false 50 (.ldl 49 6 (.s 48) 1 false), .g 47 false 51 (.fad 50 (.s 7) 2), .g 47 false 52 (.ldl 51 7 (.s 50) 1 false), .g 47 false 53 (.call 53 143 false [(.s 49), (.s 51)]), .g 47 false 54 (.not 53 (.s 52)), .i (.pick 54 (.s 47) (qb true) (.s 53))]) (.cond (.s 54) (.seq (.ops [.i (.mov 4 (qb false))]) .ret) .skip))))) (.ops [.i (.bin 55 .add (.s 25) (qi 1)), qm 25 55]))))))) (.seq (.ops [.i (.mov 4 (qb true))]) .ret))))⟩
theorem k_spec_TcSame : cd n_spec_TcSame = some c_spec_TcSame := by kernel_rfl
theorem spec_TcSame_ok (a b : Tc) (ha : a.wf) (hb : b.wf) : VC cd n_spec_TcSame (mkP [(true, a.c), (true, b.c)]) (fun rs _ => rs = bl (tcSame a b)) := by
 have w1 := ha.2.1
 have w3 := hb.2.1
 simp only [Sz] at w1 w3
 refine VC_enter k_spec_TcSame rfl ?_
 simp (disch := omega) [c_spec_TcSame, Tc.c, ens_len, VY]
 refine VXB_dec (fun h0 => ?_) (fun h0 => ?_)
 case refine_2 => simp (disch := omega) [h0, tcSame, VY]
 simp (disch := omega) [h0, ens_len, VY]
 refine VXB_dec (fun h1 => ?_) (fun h1 => ?_)
 case refine_2 =>
  have hn : allSame entSame a.entries b.entries = false := allSame_len (fun e => h1 (by omega))
  simp (disch := omega) [h0, h1, hn, tcSame, VY]
 simp (disch := omega) [h0, h1, ens_len, VY]
 refine VX_loopO (σ := Nat) (f1 := _) (es0 := _) (by simp (disch := omega) [VY]; rfl) (by simp (disch := omega) [VY]; rfl) (fun i => [(25, .val false [.int .i64 (i : Int)])]) (fun _ => []) (fun i g => g + i = b.entries.length ∧ ∀ j, j < i → (hi : j < a.entries.length) → (hj : j < b.entries.length) → entSame a.entries[j] b.entries[j] = true) 0 b.entries.length (by simp (disch := omega) [h1, VY]) (by simp (disch := omega) [VY]) ⟨by omega, fun j hj => by omega⟩ ?_
 rintro i n g ⟨hg, hd⟩ P hP
 simp (disch := omega) [h1, VY]
 refine VXB_dec (fun h2 => ?_) (fun h2 => ?_)
 ·have hi : i < a.entries.length := by omega
  have hj : i < b.entries.length := by omega
  simp (disch := omega) [ens_get hi, ens_get hj, VY]
  refine VXB_dec (fun h3 => ?_) (fun h3 => ?_)
  case refine_2 =>
   have hn : allSame entSame a.entries b.entries = false := allSame_no hi hj (by simp [entSame, h3])
   simp (disch := omega) [h3, hn, tcSame, h0, VY]
  simp (disch := omega) [h3, VY]
  refine VXB_dec (fun h4 => ?_) (fun h4 => ?_)
  case refine_2 =>
   have hn : allSame entSame a.entries b.entries = false := allSame_no hi hj (by simp [entSame, h4])
   simp (disch := omega) [h3, h4, hn, tcSame, h0, VY]
  simp (disch := omega) [h3, h4, VY]
  refine VXC_e (spec_SameBytes_ok a.entries[i].tag b.entries[i].tag) (by first | rfl | (simp [argsD, argDs, argD, St.slc, lk_cons, lk] <;> repeat' constructor)) rfl ?_
  simp (disch := omega) [h3, h4, VY]
  refine VXB_dec (fun h5 => ?_) (fun h5 => ?_)
  ·simp (disch := omega) [h3, h4, h5, VY]
   exact hP (i + 1) (g - 1) _ _ (by omega) ⟨by omega, all_next hd (hi := hi) (hj := hj) (by simp [entSame, h3, h4, h5])⟩ (by simp (disch := omega) [VY]) (by simp (disch := omega) [VY])
  ·have hn : allSame entSame a.entries b.entries = false := allSame_no hi hj (by simp [entSame, h5])
   simp (disch := omega) [h3, h4, h5, hn, tcSame, h0, VY]
 ·have he : allSame entSame a.entries b.entries = true := allSame_yes (by omega) (fun i h hi hj => hd i (by omega) hi hj)
  simp (disch := omega) [he, h0, tcSame, VY]
end Go.Eng.F
