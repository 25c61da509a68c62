/-
  Functions: the program's hash of a block.
-/
import Derived.Test.YtaicdpancmfhnaaFnU
set_option maxRecDepth 100000
set_option linter.unusedSimpArgs false
set_option linter.unusedVariables false
namespace Go.Eng.F
theorem arr_next1 (b : Bytes) {k : Nat} (hk : k < 16) : ivs (wsch b k ++ bw b (4 * k) :: List.replicate (63 - k) 0) = ivs (arr b (k + 1)) := by
  unfold arr
  rw [wsch, if_pos hk, show 64 - (k + 1) = 63 - k by omega]
  simp
theorem arr_next2 (b : Bytes) {k : Nat} (hk : 16 ≤ k) : ivs (wsch b k ++ wnext (gi (wsch b k) (k - 16)) (gi (wsch b k) (k - 15)) (gi (wsch b k) (k - 7)) (gi (wsch b k) (k - 2)) :: List.replicate (63 - k) 0) = ivs (arr b (k + 1)) := by
  unfold arr
  rw [wsch, if_neg (by omega), show 64 - (k + 1) = 63 - k by omega]
  simp
theorem flat_one (l : List Int) : (ints l).flatten = ivs l := by
  induction l with
  | nil => rfl
  | cons n l ih => simp only [ints, ivs, List.map_cons, List.flatten_cons] at ih ⊢; rw [ih]; rfl
theorem setL_allD {α : Type} {cs vs : List α} (h : vs.length = cs.length) : setL cs 0 vs = vs := by rw [setL_eq _ _ _ (by omega)]; simp [h]
abbrev n_impl_ShaBlock : Nat := 165
def c_impl_ShaBlock : AF := ⟨2, 8, [.tmp 4], (.seq (.ops [.i (.mov 4 (.c (.val false [.nils])))]) (.seq (.seq (.ops [.i (.mov 25 (.s 0)), .i (.len 26 false (.s 25)), .i (.bin 27 .neq (.s 26) (.c (.val false [.int .i64 8]))), .i (.mov 28 (.s 27)), .g 28 false 30 (.mov 29 (.s 1)), .g 28 false 31 (.len 30 false (.s 29)), .g 28 false 32 (.bin 31 .neq (.s 30) (.c (.val false [.int .i64 64]))), .i (.pick 32 (.s 28) (.c (.val false [.bool true])) (.s 31))]) (.cond (.s 32) (.seq (.ops [.i (.mov 4 (.c (.val false [.nils])))]) .ret) .skip)) (.seq (.seq (.ops [.i (.mov 33 (.s 0)), .i (.len 34 false (.s 33)), .i (.mov 35 (.c (.val false [.int .i64 0])))]) (.block 0 (.loop [42, 41, 40, 39, 38, 37, 36, 6] (.seq (.ops [.i (.bin 36 .lss (.s 35) (.s 34))]) (.seq (.cond (.s 36) .skip (.exit 0)) (.seq (.block 1 (.seq (.ops [.i (.iad 37 (.s 33) (.s 35) 1), .i (.ldh 38 (.s 37) 1 false), .i (.mov 6 (.s 38))]) (.seq (.ops [.i (.mov 39 (.s 6)), .i (.call 41 186 false [(.s 39)]), .i (.not 41 (.s 40))]) (.cond (.s 41) (.seq (.ops [.i (.mov 4 (.c (.val false [.nils])))]) .ret) .skip)))) (.ops [.i (.bin 42 .add (.s 35) (.c (.val false [.int .i64 1]))), .i (.mov 35 (.s 42))]))))))) (.seq (.ops [.i (.bld 43 [.int .i64 0, .int .i64 0, .int .i64 0, .int .i64 0, .int .i64 0, .int .i64 0, .int .i64 0, .int .i64 0, .int .i64 0, .int .i64 0, .int .i64 0, .int .i64 0, .int .i64 0, .int .i64 0, .int .i64 0, .int .i64 0, .int .i64 0, .int .i64 0, .int .i64 0, .int .i64 0, .int .i64 0, .int .i64 0, .int .i64 0, .int .i64 0, .int .i64 0, .int .i64 0, .int .i64 0, .int .i64 0, .int .i64 0, .int .i64 0, .int .i64 0, .int .i64 0, .int .i64 0, .int .i64 0, .int .i64 0, .int .i64 0, .int .i64 0, .int .i64 0, .int .i64 0, .int .i64 0, .int .i64 0, .int .i64 0, .int .i64 0, .int .i64 0, .int .i64 0, .int .i64 0, .int .i64 0, .int .i64 0, .int .i64 0, .int .i64 0, .int .i64 0, .int .i64 0, .int .i64 0, .int .i64 0, .int .i64 0, .int .i64 0, .int .i64 0, .int .i64 0, .int .i64 0, .int .i64 0, .int .i64 0, .int .i64 0, .int .i64 0, .int .i64 0] []), .i (.call 45 187 false []), .i (.bld 45 [.int .i64 0, .int .i64 0, .int .i64 0, .int .i64 0, .int .i64 0, .int .i64 0, .int .i64 0, .int .i64 0] []), .i (.lal 7 [.int .i64 0, .int .i64 0, .int .i64 0, .int .i64 0, .int .i64 0, .int .i64 0, .int .i64 0, .int .i64 0, .int .i64 0, .int .i64 0, .int .i64 0, .int .i64 0, .int .i64 0, .int .i64 0, .int .i64 0, .int .i64 0, .int .i64 0, .int .i64 0, .int .i64 0, .int .i64 0, .int .i64 0, .int .i64 0, .int .i64 0, .int .i64 0, .int .i64 0, .int .i64 0, .int .i64 0, .int .i64 0, .int .i64 0, .int .i64 0, .int .i64 0, .int .i64 0, .int .i64 0, .int .i64 0, .int .i64 0, .int .i64 0, .int .i64 0, .int .i64 0, .int .i64 0, .int .i64 0, .int .i64 0, .int .i64 0, .int .i64 0, .int .i64 0, .int .i64 0, .int .i64 0, .int .i64 0, .int .i64 0, .int .i64 0, .int .i64 0, .int .i64 0, .int .i64 0, .int .i64 0, .int .i64 0, .int .i64 0, .int .i64 0, .int .i64 0, .int .i64 0, .int .i64 0, .int .i64 0, .int .i64 0, .int .i64 0, .int .i64 0, .int .i64 0]), .i (.hal 9 208 [.int .i64 0, .int .i64 0, .int .i64 0, .int .i64 0, .int .i64 0, .int .i64 0, .int .i64 0, .int .i64 0]), .i (.stl 7 (.s 7) (.s 43) 64), .i (.mov 8 (.s 44)), .i (.sth (.s 9) (.s 45) 8)]) (.seq (.seq (.ops [.i (.mov 46 (.c (.val false [.int .i64 0])))]) (.block 2 (.loop [84, 83, 82, 81, 80, 79, 78, 77, 76, 75, 74, 73, 72, 71, 70, 69, 68, 67, 66, 65, 64, 63, 62, 61, 60, 59, 58, 57, 56, 55, 54, 53, 52, 51, 50, 49, 48, 47, 10] (.seq (.ops [.i (.bin 47 .lss (.s 46) (.c (.val false [.int .i64 16])))]) (.seq (.cond (.s 47) .skip (.exit 2)) (.seq (.block 3 (.seq (.ops [.i (.mov 48 (.s 46)), .i (.mov 10 (.s 48))]) (.ops [.i (.mov 49 (.s 10)), .i (.mov 50 (.s 1)), .i (.mov 51 (.s 10)), .i (.bin 52 .mul (.c (.val false [.int .i64 4])) (.s 51)), .i (.iad 53 (.s 50) (.s 52) 1), .i (.ldh 54 (.s 53) 1 false), .i (.cvi 55 .i64 (.s 54)), .i (.bin 56 .shl (.s 55) (.c (.val false [.int .u64 24]))), .i (.mov 57 (.s 1)), .i (.mov 58 (.s 10)), .i (.bin 59 .mul (.c (.val false [.int .i64 4])) (.s 58)), .i (.bin 60 .add (.s 59) (.c (.val false [.int .i64 1]))), .i (.iad 61 (.s 57) (.s 60) 1), .i (.ldh 62 (.s 61) 1 false), .i (.cvi 63 .i64 (.s 62)), .i (.bin 64 .shl (.s 63) (.c (.val false [.int .u64 16]))), .i (.bin 65 .or (.s 56) (.s 64)), .i (.mov 66 (.s 1)), .i (.mov 67 (.s 10)), .i (.bin 68 .mul (.c (.val false [.int .i64 4])) (.s 67)), .i (.bin 69 .add (.s 68) (.c (.val false [.int .i64 2]))), .i (.iad 70 (.s 66) (.s 69) 1), .i (.ldh 71 (.s 70) 1 false), .i (.cvi 72 .i64 (.s 71)), .i (.bin 73 .shl (.s 72) (.c (.val false [.int .u64 8]))), .i (.bin 74 .or (.s 65) (.s 73)), .i (.mov 75 (.s 1)), .i (.mov 76 (.s 10)), .i (.bin 77 .mul (.c (.val false [.int .i64 4])) (.s 76)), .i (.bin 78 .add (.s 77) (.c (.val false [.int .i64 3]))), .i (.iad 79 (.s 75) (.s 78) 1), .i (.ldh 80 (.s 79) 1 false), .i (.cvi 81 .i64 (.s 80)), .i (.bin 82 .or (.s 74) (.s 81)), .i (.iaa 83 (.s 7) (.s 49) 1 64), .i (.stl 7 (.s 83) (.s 82) 1)]))) (.ops [.i (.bin 84 .add (.s 46) (.c (.val false [.int .i64 1]))), .i (.mov 46 (.s 84))]))))))) (.seq (.seq (.ops [.i (.mov 11 (.c (.val false [.int .i64 16])))]) (.block 4 (.loop [128, 127, 126, 125, 124, 123, 122, 121, 120, 119, 118, 117, 116, 115, 114, 113, 112, 111, 110, 109, 108, 107, 106, 105, 104, 103, 102, 101, 100, 99, 98, 97, 96, 95, 94, 93, 92, 91, 90, 89, 88, 87, 86, 85, 15, 14, 13, 12] (.seq (.seq (.ops [.i (.mov 85 (.s 11)), .i (.bin 86 .lss (.s 85) (.c (.val false [.int .i64 64])))]) (.cond (.s 86) .skip (.exit 4))) (.seq (.block 5 (.seq (.ops [.i (.mov 89 (.s 11)), .i (.bin 90 .sub (.s 89) (.c (.val false [.int .i64 15]))), .i (.iaa 91 (.s 7) (.s 90) 1 64), .i (.ldl 92 7 (.s 91) 1 false), .i (.mov 93 (.s 11)), .i (.bin 94 .sub (.s 93) (.c (.val false [.int .i64 2]))), .i (.iaa 95 (.s 7) (.s 94) 1 64), .i (.ldl 96 7 (.s 95) 1 false), .i (.mov 12 (.s 92)), .i (.mov 13 (.s 96))]) (.seq (.ops [.i (.mov 97 (.s 12)), .i (.call 99 188 false [(.s 97), (.c (.val false [.int .i64 7]))]), .i (.mov 99 (.s 12)), .i (.call 101 188 false [(.s 99), (.c (.val false [.int .i64 18]))]), .i (.bin 101 .xor (.s 98) (.s 100)), .i (.mov 102 (.s 12)), .i (.bin 103 .shr (.s 102) (.c (.val false [.int .u64 3]))), .i (.bin 104 .xor (.s 101) (.s 103)), .i (.mov 14 (.s 104))]) (.seq (.ops [.i (.mov 105 (.s 13)), .i (.call 107 188 false [(.s 105), (.c (.val false [.int .i64 17]))]), .i (.mov 107 (.s 13)), .i (.call 109 188 false [(.s 107), (.c (.val false [.int .i64 19]))]), .i (.bin 109 .xor (.s 106) (.s 108)), .i (.mov 110 (.s 13)), .i (.bin 111 .shr (.s 110) (.c (.val false [.int .u64 10]))), .i (.bin 112 .xor (.s 109) (.s 111)), .i (.mov 15 (.s 112))]) (.ops [.i (.mov 113 (.s 11)), .i (.mov 114 (.s 11)), .i (.bin 115 .sub (.s 114) (.c (.val false [.int .i64 16]))), .i (.iaa 116 (.s 7) (.s 115) 1 64), .i (.ldl 117 7 (.s 116) 1 false), .i (.mov 118 (.s 14)), .i (.bin 119 .add (.s 117) (.s 118)), .i (.mov 120 (.s 11)), .i (.bin 121 .sub (.s 120) (.c (.val false [.int .i64 7]))), .i (.iaa 122 (.s 7) (.s 121) 1 64), .i (.ldl 123 7 (.s 122) 1 false), .i (.bin 124 .add (.s 119) (.s 123)), .i (.mov 125 (.s 15)), .i (.bin 126 .add (.s 124) (.s 125)), .i (.bin 127 .and (.s 126) (.c (.val false [.int .i64 4294967295]))), .i (.iaa 128 (.s 7) (.s 113) 1 64), .i (.stl 7 (.s 128) (.s 127) 1)]))))) (.ops [.i (.mov 87 (.s 11)), .i (.bin 88 .add (.s 87) (.c (.val false [.int .i64 1]))), .i (.mov 11 (.s 88))])))))) (.seq (.ops [.i (.sla 129 (.s 9) 8 1), .i (.mov 130 (.s 0)), .i (.cpy 131 1 (.s 129) (.s 130))]) (.seq (.seq (.ops [.i (.mov 132 (.c (.val false [.int .i64 0])))]) (.block 6 (.loop [216, 215, 214, 213, 212, 211, 210, 209, 208, 207, 206, 205, 204, 203, 202, 201, 200, 199, 198, 197, 196, 195, 194, 193, 192, 191, 190, 189, 188, 187, 186, 185, 184, 183, 182, 181, 180, 179, 178, 177, 176, 175, 174, 173, 172, 171, 170, 169, 168, 167, 166, 165, 164, 163, 162, 161, 160, 159, 158, 157, 156, 155, 154, 153, 152, 151, 150, 149, 148, 147, 146, 145, 144, 143, 142, 141, 140, 139, 138, 137, 136, 135, 134, 133, 22, 21, 20, 19, 18, 17, 16] (.seq (.ops [.i (.bin 133 .lss (.s 132) (.c (.val false [.int .i64 64])))]) (.seq (.cond (.s 133) .skip (.exit 6)) (.seq (.block 7 (.seq (.ops [.i (.mov 134 (.s 132)), .i (.mov 16 (.s 134))]) (.seq (.ops [.i (.iaa 135 (.s 9) (.c (.val false [.int .i64 4])) 1 8), .i (.ldh 136 (.s 135) 1 false), .i (.iaa 137 (.s 9) (.c (.val false [.int .i64 0])) 1 8), .i (.ldh 138 (.s 137) 1 false), .i (.mov 17 (.s 136)), .i (.mov 18 (.s 138))]) (.seq (.ops [.i (.mov 139 (.s 17)), .i (.iaa 140 (.s 9) (.c (.val false [.int .i64 5])) 1 8), .i (.ldh 141 (.s 140) 1 false), .i (.bin 142 .and (.s 139) (.s 141)), .i (.mov 143 (.s 17)), .i (.bin 144 .xor (.s 143) (.c (.val false [.int .i64 4294967295]))), .i (.iaa 145 (.s 9) (.c (.val false [.int .i64 6])) 1 8), .i (.ldh 146 (.s 145) 1 false), .i (.bin 147 .and (.s 144) (.s 146)), .i (.bin 148 .or (.s 142) (.s 147)), .i (.mov 19 (.s 148))]) (.seq (.ops [.i (.mov 149 (.s 18)), .i (.iaa 150 (.s 9) (.c (.val false [.int .i64 1])) 1 8), .i (.ldh 151 (.s 150) 1 false), .i (.bin 152 .and (.s 149) (.s 151)), .i (.mov 153 (.s 18)), .i (.iaa 154 (.s 9) (.c (.val false [.int .i64 2])) 1 8), .i (.ldh 155 (.s 154) 1 false), .i (.bin 156 .and (.s 153) (.s 155)), .i (.bin 157 .or (.s 152) (.s 156)), .i (.iaa 158 (.s 9) (.c (.val false [.int .i64 1])) 1 8), .i (.ldh 159 (.s 158) 1 false), .i (.iaa 160 (.s 9) (.c (.val false [.int .i64 2])) 1 8), .i (.ldh 161 (.s 160) 1 false), .i (.bin 162 .and (.s 159) (.s 161)), .i (.bin 163 .or (.s 157) (.s 162)), .i (.mov 20 (.s 163))]) (.seq (.ops [.i (.iaa 164 (.s 9) (.c (.val false [.int .i64 7])) 1 8), .i (.ldh 165 (.s 164) 1 false), .i (.mov 166 (.s 17)), .i (.call 168 188 true [(.s 166), (.c (.val false [.int .i64 6]))]), .i (.mov 168 (.s 17)), .i (.call 170 188 true [(.s 168), (.c (.val false [.int .i64 11]))]), .i (.bin 170 .xor (.s 167) (.s 169)), .i (.mov 171 (.s 17)), .i (.call 173 188 true [(.s 171), (.c (.val false [.int .i64 25]))]), .i (.bin 173 .xor (.s 170) (.s 172)), .i (.bin 174 .add (.s 165) (.s 173)), .i (.mov 175 (.s 19)), .i (.bin 176 .add (.s 174) (.s 175)), .i (.mov 177 (.s 8)), .i (.mov 178 (.s 16)), .i (.iad 179 (.s 177) (.s 178) 1), .i (.ldh 180 (.s 179) 1 false), .i (.bin 181 .add (.s 176) (.s 180)), .i (.mov 182 (.s 16)), .i (.iaa 183 (.s 7) (.s 182) 1 64), .i (.ldl 184 7 (.s 183) 1 false), .i (.bin 185 .add (.s 181) (.s 184)), .i (.mov 21 (.s 185))]) (.seq (.ops [.i (.mov 186 (.s 18)), .i (.call 188 188 false [(.s 186), (.c (.val false [.int .i64 2]))]), .i (.mov 188 (.s 18)), .i (.call 190 188 false [(.s 188), (.c (.val false [.int .i64 13]))]), .i (.bin 190 .xor (.s 187) (.s 189)), .i (.mov 191 (.s 18)), .i (.call 193 188 false [(.s 191), (.c (.val false [.int .i64 22]))]), .i (.bin 193 .xor (.s 190) (.s 192)), .i (.mov 194 (.s 20)), .i (.bin 195 .add (.s 193) (.s 194)), .i (.mov 22 (.s 195))]) (.ops [.i (.mov 196 (.s 21)), .i (.mov 197 (.s 22)), .i (.bin 198 .add (.s 196) (.s 197)), .i (.bin 199 .and (.s 198) (.c (.val false [.int .i64 4294967295]))), .i (.mov 200 (.s 18)), .i (.iaa 201 (.s 9) (.c (.val false [.int .i64 1])) 1 8), .i (.ldh 202 (.s 201) 1 false), .i (.iaa 203 (.s 9) (.c (.val false [.int .i64 2])) 1 8), .i (.ldh 204 (.s 203) 1 false), .i (.iaa 205 (.s 9) (.c (.val false [.int .i64 3])) 1 8), .i (.ldh 206 (.s 205) 1 false), .i (.mov 207 (.s 21)), .i (.bin 208 .add (.s 206) (.s 207)), .i (.bin 209 .and (.s 208) (.c (.val false [.int .i64 4294967295]))), .i (.mov 210 (.s 17)), .i (.iaa 211 (.s 9) (.c (.val false [.int .i64 5])) 1 8), .i (.ldh 212 (.s 211) 1 false), .i (.iaa 213 (.s 9) (.c (.val false [.int .i64 6])) 1 8), .i (.ldh 214 (.s 213) 1 false), .i (.bld 215 [.int .i64 0, .int .i64 0, .int .i64 0, .int .i64 0, .int .i64 0, .int .i64 0, .int .i64 0, .int .i64 0] [(0, 1, (.s 199)), (1, 1, (.s 200)), (2, 1, (.s 202)), (3, 1, (.s 204)), (4, 1, (.s 209)), (5, 1, (.s 210)), (6, 1, (.s 212)), (7, 1, (.s 214))]), .i (.sth (.s 9) (.s 215) 8)])))))))) (.ops [.i (.bin 216 .add (.s 132) (.c (.val false [.int .i64 1]))), .i (.mov 132 (.s 216))]))))))) (.seq (.ops [.i (.bse 217), .i (.mov 23 (.s 217))]) (.seq (.seq (.ops [.i (.mov 218 (.c (.val false [.int .i64 0])))]) (.block 8 (.loop [233, 232, 231, 230, 229, 228, 227, 226, 225, 224, 223, 222, 221, 220, 219, 24] (.seq (.ops [.i (.bin 219 .lss (.s 218) (.c (.val false [.int .i64 8])))]) (.seq (.cond (.s 219) .skip (.exit 8)) (.seq (.block 9 (.seq (.ops [.i (.mov 220 (.s 218)), .i (.mov 24 (.s 220))]) (.ops [.i (.mov 221 (.s 23)), .i (.mov 222 (.s 0)), .i (.mov 223 (.s 24)), .i (.iad 224 (.s 222) (.s 223) 1), .i (.ldh 225 (.s 224) 1 false), .i (.mov 226 (.s 24)), .i (.iaa 227 (.s 9) (.s 226) 1 8), .i (.ldh 228 (.s 227) 1 false), .i (.bin 229 .add (.s 225) (.s 228)), .i (.bin 230 .and (.s 229) (.c (.val false [.int .i64 4294967295]))), .i (.lsl 231 1 1 [.int .i64 0] [(0, 1, (.s 230))]), .i (.app 232 3 1 8 (.s 221) (.s 231)), .i (.mov 23 (.s 232))]))) (.ops [.i (.bin 233 .add (.s 218) (.c (.val false [.int .i64 1]))), .i (.mov 218 (.s 233))]))))))) (.seq (.ops [.i (.mov 234 (.s 23)), .i (.mov 4 (.s 234))]) .ret)))))))))))⟩
theorem k_impl_ShaBlock : cd n_impl_ShaBlock = some c_impl_ShaBlock := by kernel_rfl
theorem impl_ShaBlock_ok (h : List Int) (b : Bytes) (hl : h.length = 8) (hw : ∀ x ∈ h, word x = true) (hb : b.length = 64) : VC cd n_impl_ShaBlock (mkP [(false, [.sl (ints h)]), (false, [.sl (bytes b)])]) (fun rs _ => rs = [(false, [.o true (some (3, 1)) (ints (shaB h b))])]) := by
  refine VC_enter k_impl_ShaBlock rfl ?_
  simp (disch := omega) [c_impl_ShaBlock, ints_len, bytes_len, hl, hb, VE, VXR, VP, VB, kof, bl, it]
  refine VX_loop3 (σ := Nat) (f1 := _) (es0 := _) (by simp (disch := omega) [VE, VXR, VP, VB, kof, bl, it]; rfl) (by simp (disch := omega) [VE, VXR, VP, VB, kof, bl, it]; rfl) (fun i => [(35, .val false [.int .i64 i])]) (fun _ => []) (fun i g => g + i = 8) 0 8 (by simp (disch := omega) [VE, VXR, VP, VB, kof, bl, it]) (by simp (disch := omega) [VE, VXR, VP, VB, kof, bl, it]) (by omega) ?_
  rintro i n g hg
  simp (disch := omega) [VE, VXR, VP, VB, kof, bl, it]
  refine VXB_dec (fun h1 => ?_) (fun h1 => ?_)
  · have hx : i < h.length := by omega
    simp (disch := omega) [ints_get hx, VE, VXR, VP, VB, kof, bl, it]
    refine VXC_e (isWord_ok _) rfl rfl ?_
    have hq : word (gi h i) = true := hw _ (gi_mem hx)
    simp (disch := omega) [hq, VE, VXR, VP, VB, kof, bl, it]
    exact ⟨i + 1, g - 1, by omega, by omega, by omega⟩
  have hi : i = 8 := by omega
  subst hi
  simp (disch := omega) [VE, VXR, VP, VB, kof, bl, it]
  refine VXC_e (rounds_ok) rfl rfl ?_
  simp (disch := omega) [VE, VXR, VP, VB, kof, bl, it]
  refine VX_loop3 (σ := Nat) (f1 := _) (es0 := _) (by simp (disch := omega) [VE, VXR, VP, VB, kof, bl, it]; rfl) (by simp (disch := omega) [VE, VXR, VP, VB, kof, bl, it]; rfl) (fun k => [(46, .val false [.int .i64 k]), (7, .box (ivs (arr b k)))]) (fun _ => []) (fun k g => g + k = 16) 0 16 (by simp (disch := omega) [ivs, arr, wsch, VE, VXR, VP, VB, kof, bl, it]) (by simp (disch := omega) [VE, VXR, VP, VB, kof, bl, it]) (by omega) ?_
  rintro k n g hg
  simp (disch := omega) [VE, VXR, VP, VB, kof, bl, it]
  refine VXB_dec (fun h2 => ?_) (fun h2 => ?_)
  · have hk : k < 16 := by omega
    have q1 : ((4 : Int) * (k : Int)).toNat = 4 * k := by omega
    have q2 : ((4 : Int) * (k : Int) + 1).toNat = 4 * k + 1 := by omega
    have q3 : ((4 : Int) * (k : Int) + 2).toNat = 4 * k + 2 := by omega
    have q4 : ((4 : Int) * (k : Int) + 3).toNat = 4 * k + 3 := by omega
    have p1 : (0 : Int) ≤ (4 : Int) * (k : Int) ∧ (0 : Int) ≤ (4 : Int) * (k : Int) + 1 ∧ (0 : Int) ≤ (4 : Int) * (k : Int) + 2 ∧ (0 : Int) ≤ (4 : Int) * (k : Int) + 3 := by omega
    obtain ⟨p1, p2, p3, p4⟩ := p1
    have r1 := gb_range b (4 * k)
    have r2 := gb_range b (4 * k + 1)
    have r3 := gb_range b (4 * k + 2)
    have r4 := gb_range b (4 * k + 3)
    have p5 : (k : Int) < 64 := by omega
    have p6 : k ≤ 63 := by omega
    have e1 := arr_len b (show k ≤ 64 by omega)
    have e2 := fun x => arr_set b (show k < 64 by omega) x
    simp (disch := omega) [bytes_len, hb, q1, q2, q3, q4, p1, p2, p3, p4, p5, p6, e1, e2, gb_get (show 4 * k < b.length by omega), gb_get (show 4 * k + 1 < b.length by omega), gb_get (show 4 * k + 2 < b.length by omega), gb_get (show 4 * k + 3 < b.length by omega), VE, VXR, VP, VB, kof, bl, it]
    exact ⟨k + 1, g - 1, by omega, by omega, ⟨arr_next1 b hk, by omega⟩⟩
  have hk : k = 16 := by omega
  subst hk
  simp (disch := omega) [VE, VXR, VP, VB, kof, bl, it]
  refine VX_loop3 (σ := Nat) (f1 := _) (es0 := _) (by simp (disch := omega) [VE, VXR, VP, VB, kof, bl, it]; rfl) (by simp (disch := omega) [VE, VXR, VP, VB, kof, bl, it]; rfl) (fun k => [(11, .val false [.int .i64 k]), (7, .box (ivs (arr b k)))]) (fun _ => []) (fun k g => g + k = 64 ∧ 16 ≤ k) 16 48 (by simp (disch := omega) [VE, VXR, VP, VB, kof, bl, it]) (by simp (disch := omega) [VE, VXR, VP, VB, kof, bl, it]) (by omega) ?_
  rintro k n g hg
  simp (disch := omega) [VE, VXR, VP, VB, kof, bl, it]
  refine VXB_dec (fun h3 => ?_) (fun h3 => ?_)
  · have hk : k < 64 := by omega
    obtain ⟨p1, p2, p3⟩ : (15 : Int) ≤ (k : Int) ∧ ((k : Int) - 15).toNat = k - 15 ∧ (k : Int) - 15 < 64 := by omega
    obtain ⟨p4, p5, p6⟩ : (2 : Int) ≤ (k : Int) ∧ ((k : Int) - 2).toNat = k - 2 ∧ (k : Int) - 2 < 64 := by omega
    obtain ⟨p7, p8, p9⟩ : (16 : Int) ≤ (k : Int) ∧ ((k : Int) - 16).toNat = k - 16 ∧ (k : Int) - 16 < 64 := by omega
    obtain ⟨q1, q2, q3⟩ : (7 : Int) ≤ (k : Int) ∧ ((k : Int) - 7).toNat = k - 7 ∧ (k : Int) - 7 < 64 := by omega
    have p10 : (k : Int) < 64 := by omega
    have p11 : k ≤ 63 := by omega
    obtain ⟨t1, t2, t3, t4⟩ : k ≤ 78 ∧ k ≤ 65 ∧ k ≤ 79 ∧ k ≤ 70 := by omega
    have e1 := arr_len b (show k ≤ 64 by omega)
    have e2 := fun x => arr_set b (show k < 64 by omega) x
    have g1 := arr_get b (show k ≤ 64 by omega) (show k - 15 < k by omega)
    have g2 := arr_get b (show k ≤ 64 by omega) (show k - 2 < k by omega)
    have g3 := arr_get b (show k ≤ 64 by omega) (show k - 16 < k by omega)
    have g4 := arr_get b (show k ≤ 64 by omega) (show k - 7 < k by omega)
    have hwl := wsch_len b k
    have w1 := wsch_word b k _ (gi_mem (show k - 15 < (wsch b k).length by omega))
    have w2 := wsch_word b k _ (gi_mem (show k - 2 < (wsch b k).length by omega))
    simp (disch := omega) [e1, p1, p2, p3, p4, p5, p6, g1, g2, t1, t2, VE, VXR, VP, VB, kof, bl, it]
    refine VXC_e (TurnRight_ok _ 7 (by omega) w1) rfl rfl ?_
    simp (disch := omega) [VE, VXR, VP, VB, kof, bl, it]
    refine VXC_e (TurnRight_ok _ 18 (by omega) w1) rfl rfl ?_
    simp (disch := omega) [VE, VXR, VP, VB, kof, bl, it]
    refine VXC_e (TurnRight_ok _ 17 (by omega) w2) rfl rfl ?_
    simp (disch := omega) [VE, VXR, VP, VB, kof, bl, it]
    refine VXC_e (TurnRight_ok _ 19 (by omega) w2) rfl rfl ?_
    simp (disch := omega) [e1, e2, p7, p8, p9, q1, q2, q3, p10, p11, g3, g4, t3, t4, VE, VXR, VP, VB, kof, bl, it]
    exact ⟨k + 1, g - 1, by omega, by omega, arr_next2 b (by omega), by omega⟩
  have hk : k = 64 := by omega
  subst hk
  have c1 : ((ints h).take 8).flatten = ivs h := by rw [List.take_of_length_le (by rw [ints_len]; omega)]; exact flat_one h
  have c2 : setL [.int .i64 0, .int .i64 0, .int .i64 0, .int .i64 0, .int .i64 0, .int .i64 0, .int .i64 0, .int .i64 0] 0 (ivs h) = ivs h := setL_allD (by rw [ivs_len, hl]; rfl)
  simp (disch := omega) [ints_len, hl, flat_ints, wid_ints, c1, c2, VE, VXR, VP, VB, kof, bl, it]
  refine VX_loop3 (σ := Nat × Nat) (f1 := _) (es0 := _) (by simp (disch := omega) [VE, VXR, VP, VB, kof, bl, it]; rfl) (by simp (disch := omega) [VE, VXR, VP, VB, kof, bl, it]; rfl) (fun p => [(132, .val false [.int .i64 p.1]), (9, .val false [.pt 9 p.2 0])]) (fun p => [(9, .pt p.2 208 (ivs (rnds h b p.1)))]) (fun p g => g + p.1 = 64) (0, _) 64 (by simp (disch := omega) [VE, VXR, VP, VB, kof, bl, it]; rfl) (by simp (disch := omega) [rnds, VE, VXR, VP, VB, kof, bl, it]) (by omega) ?_
  rintro ⟨k, v⟩ n g hg
  simp only at hg
  simp (disch := omega) [VE, VXR, VP, VB, kof, bl, it]
  refine VXB_dec (fun h4 => ?_) (fun h4 => ?_)
  · have hk : k < 64 := by omega
    have hv := rnds_len hl b k
    have e1 : (ivs (rnds h b k)).length = 8 := by rw [ivs_len, hv]
    have e2 : (ints kk).length = 64 := rfl
    have e3 := arr_len b (show 64 ≤ 64 by omega)
    have p1 : (k : Int) < 64 := by omega
    have p2 : k ≤ 63 := by omega
    have g1 : ∀ i, i < 8 → ((ivs (rnds h b k)).drop i).take 1 = [.int .i64 (gi (rnds h b k) i)] := fun i hi => ivs_get (by omega)
    have g2 := arr_get b (show 64 ≤ 64 by omega) hk
    have g0 : (ivs (rnds h b k)).take 1 = [.int .i64 (gi (rnds h b k) 0)] := g1 0 (by omega)
    have w1 := rnds_word hl hw b k _ (gi_mem (show 4 < (rnds h b k).length by omega))
    have w2 := rnds_word hl hw b k _ (gi_mem (show 0 < (rnds h b k).length by omega))
    have g01 : (ivs (rnds h b k)).tail.take 1 = [.int .i64 (gi (rnds h b k) 1)] := by have := g1 1 (by omega); simpa using this
    simp (disch := omega) [e1, e2, e3, g0, g01, g1, g2, ints_ge, p1, p2, VE, VXR, VP, VB, kof, bl, it]
    refine VXC_e (TurnRight_ok _ 6 (by omega) w1) rfl rfl ?_
    simp (disch := omega) [VE, VXR, VP, VB, kof, bl, it]
    refine VXC_e (TurnRight_ok _ 11 (by omega) w1) rfl rfl ?_
    simp (disch := omega) [VE, VXR, VP, VB, kof, bl, it]
    refine VXC_e (TurnRight_ok _ 25 (by omega) w1) rfl rfl ?_
    simp (disch := omega) [e1, e2, e3, g0, g01, g1, g2, ints_ge, p1, p2, VE, VXR, VP, VB, kof, bl, it]
    refine VXC_e (TurnRight_ok _ 2 (by omega) w2) rfl rfl ?_
    simp (disch := omega) [VE, VXR, VP, VB, kof, bl, it]
    refine VXC_e (TurnRight_ok _ 13 (by omega) w2) rfl rfl ?_
    simp (disch := omega) [VE, VXR, VP, VB, kof, bl, it]
    refine VXC_e (TurnRight_ok _ 22 (by omega) w2) rfl rfl ?_
    have hset : ∀ a b' c d e f g' h', setL (ivs (rnds h b k)) 0 [a, b', c, d, e, f, g', h'] = [a, b', c, d, e, f, g', h'] := fun _ _ _ _ _ _ _ _ => setL_allD (by rw [e1]; rfl)
    simp (disch := omega) [e1, e2, e3, g0, g01, g1, g2, ints_ge, p1, p2, hset, VE, VXR, VP, VB, kof, bl, it]
    simp only [ch_eq w1, maj_eq]
    exact ⟨k + 1, _, g - 1, by omega, by omega, ⟨rfl, by omega⟩, rfl, rfl⟩
  have hk : k = 64 := by omega
  subst hk
  simp (disch := omega) [VE, VXR, VP, VB, kof, bl, it]
  refine VX_loop3 (σ := Nat × Nat) (f1 := _) (es0 := _) (by simp (disch := omega) [VE, VXR, VP, VB, kof, bl, it]; rfl) (by simp (disch := omega) [VE, VXR, VP, VB, kof, bl, it]; rfl) (fun p => [(218, .val false [.int .i64 p.1]), (23, .val false [.ow 217 p.2])]) (fun p => [(217, .sl p.2 true true (some (3, 1)) (ints ((shaB h b).take p.1)))])
    (fun p g => g + p.1 = 8) (0, _) 8 (by simp (disch := omega) [VE, VXR, VP, VB, kof, bl, it]; rfl) (by simp (disch := omega) [ints, VE, VXR, VP, VB, kof, bl, it]) (by omega) ?_
  rintro ⟨k, w⟩ n g hg
  simp only at hg
  simp (disch := omega) [VE, VXR, VP, VB, kof, bl, it]
  refine VXB_dec (fun h5 => ?_) (fun h5 => ?_)
  · have hk : k < 8 := by omega
    have hv := rnds_len hl b 64
    have e1 : (ivs (rnds h b 64)).length = 8 := by rw [ivs_len, hv]
    have e2 : (ints h).length = 8 := by rw [ints_len, hl]
    have e3 : (ints ((shaB h b).take k)).length = k := by rw [ints_len]; simp [shaB]; omega
    have p1 : (k : Int) < 8 := by omega
    have p2 : k ≤ 7 := by omega
    have g1 : ((ivs (rnds h b 64)).drop k).take 1 = [.int .i64 (gi (rnds h b 64) k)] := ivs_get (by omega)
    simp (disch := omega) [e1, e2, e3, g1, p1, p2, ints_ge, flat_ints, wid_ints, VE, VXR, VP, VB, kof, bl, it]
    exact ⟨k + 1, _, g - 1, by omega, by omega, ⟨rfl, by omega⟩, rfl, shaB_take h b hk⟩
  · have hk : k = 8 := by omega
    subst hk
    simp (disch := omega) [VE, VXR, VP, VB, kof, bl, it]
    rw [List.take_of_length_le (by simp [shaB])]
end Go.Eng.F
