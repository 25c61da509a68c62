/-
  Functions: the hash of a block.
-/
import Derived.Test.YtaicdpancmfhnaaFnS
set_option maxRecDepth 100000
set_option linter.unusedSimpArgs false
set_option linter.unusedVariables false
namespace Go.Eng.F
theorem shaB_take (h : List Int) (b : Bytes) {k : Nat} (hk : k < 8) : ints ((shaB h b).take (k + 1)) = ints ((shaB h b).take k) ++ [[.int .i64 (bits2 .and .i64 (IntKind.i64.wrap (gi h k + gi (rnds h b 64) k)) 4294967295)]] := by
  rw [List.take_add_one]
  simp only [ints, List.map_append]
  congr 1
  simp [shaB, hk]
abbrev n_spec_ShaBlock : Nat := 162
def c_spec_ShaBlock : AF := ⟨2, 8, [.tmp 4], (.seq (.ops [.i (.mov 4 (.c (.val false [.nils])))]) (.seq (.seq (.ops [.i (.mov 23 (.s 0)), .i (.len 24 false (.s 23)), .i (.bin 25 .neq (.s 24) (.c (.val false [.int .i64 8]))), .i (.mov 26 (.s 25)), .g 26 false 28 (.mov 27 (.s 1)), .g 26 false 29 (.len 28 false (.s 27)), .g 26 false 30 (.bin 29 .neq (.s 28) (.c (.val false [.int .i64 64]))), .i (.pick 30 (.s 26) (.c (.val false [.bool true])) (.s 29))]) (.cond (.s 30) (.seq (.ops [.i (.mov 4 (.c (.val false [.nils])))]) .ret) .skip)) (.seq (.seq (.ops [.i (.mov 31 (.s 0)), .i (.len 32 false (.s 31)), .i (.mov 33 (.c (.val false [.int .i64 0])))]) (.block 0 (.loop [40, 39, 38, 37, 36, 35, 34, 6] (.seq (.ops [.i (.bin 34 .lss (.s 33) (.s 32))]) (.seq (.cond (.s 34) .skip (.exit 0)) (.seq (.block 1 (.seq (.ops [.i (.iad 35 (.s 31) (.s 33) 1), .i (.ldh 36 (.s 35) 1 false), .i (.mov 6 (.s 36))]) (.seq (.ops [.i (.mov 37 (.s 6)), .i (.call 39 183 false [(.s 37)]), .i (.not 39 (.s 38))]) (.cond (.s 39) (.seq (.ops [.i (.mov 4 (.c (.val false [.nils])))]) .ret) .skip)))) (.ops [.i (.bin 40 .add (.s 33) (.c (.val false [.int .i64 1]))), .i (.mov 33 (.s 40))]))))))) (.seq (.ops [.i (.bse 41), .i (.mov 7 (.s 41))]) (.seq (.seq (.ops [.i (.mov 8 (.c (.val false [.int .i64 0])))]) (.block 2 (.loop [77, 76, 75, 74, 73, 72, 71, 70, 69, 68, 67, 66, 65, 64, 63, 62, 61, 60, 59, 58, 57, 56, 55, 54, 53, 52, 51, 50, 49, 48, 47, 46, 45, 44, 43, 42] (.seq (.seq (.ops [.i (.mov 42 (.s 8)), .i (.bin 43 .lss (.s 42) (.c (.val false [.int .i64 64])))]) (.cond (.s 43) .skip (.exit 2))) (.seq (.block 3 (.ops [.i (.mov 46 (.s 7)), .i (.mov 47 (.s 1)), .i (.mov 48 (.s 8)), .i (.iad 49 (.s 47) (.s 48) 1), .i (.ldh 50 (.s 49) 1 false), .i (.cvi 51 .i64 (.s 50)), .i (.bin 52 .shl (.s 51) (.c (.val false [.int .u64 24]))), .i (.mov 53 (.s 1)), .i (.mov 54 (.s 8)), .i (.bin 55 .add (.s 54) (.c (.val false [.int .i64 1]))), .i (.iad 56 (.s 53) (.s 55) 1), .i (.ldh 57 (.s 56) 1 false), .i (.cvi 58 .i64 (.s 57)), .i (.bin 59 .shl (.s 58) (.c (.val false [.int .u64 16]))), .i (.bin 60 .or (.s 52) (.s 59)), .i (.mov 61 (.s 1)), .i (.mov 62 (.s 8)), .i (.bin 63 .add (.s 62) (.c (.val false [.int .i64 2]))), .i (.iad 64 (.s 61) (.s 63) 1), .i (.ldh 65 (.s 64) 1 false), .i (.cvi 66 .i64 (.s 65)), .i (.bin 67 .shl (.s 66) (.c (.val false [.int .u64 8]))), .i (.bin 68 .or (.s 60) (.s 67)), .i (.mov 69 (.s 1)), .i (.mov 70 (.s 8)), .i (.bin 71 .add (.s 70) (.c (.val false [.int .i64 3]))), .i (.iad 72 (.s 69) (.s 71) 1), .i (.ldh 73 (.s 72) 1 false), .i (.cvi 74 .i64 (.s 73)), .i (.bin 75 .or (.s 68) (.s 74)), .i (.lsl 76 1 1 [.int .i64 0] [(0, 1, (.s 75))]), .i (.app 77 3 1 8 (.s 46) (.s 76)), .i (.mov 7 (.s 77))])) (.ops [.i (.mov 44 (.s 8)), .i (.bin 45 .add (.s 44) (.c (.val false [.int .i64 4]))), .i (.mov 8 (.s 45))])))))) (.seq (.seq (.ops [.i (.mov 9 (.c (.val false [.int .i64 16])))]) (.block 4 (.loop [126, 125, 124, 123, 122, 121, 120, 119, 118, 117, 116, 115, 114, 113, 112, 111, 110, 109, 108, 107, 106, 105, 104, 103, 102, 101, 100, 99, 98, 97, 96, 95, 94, 93, 92, 91, 90, 89, 88, 87, 86, 85, 84, 83, 82, 81, 80, 79, 78, 13, 12, 11, 10] (.seq (.seq (.ops [.i (.mov 78 (.s 9)), .i (.bin 79 .lss (.s 78) (.c (.val false [.int .i64 64])))]) (.cond (.s 79) .skip (.exit 4))) (.seq (.block 5 (.seq (.ops [.i (.mov 82 (.s 7)), .i (.mov 83 (.s 9)), .i (.bin 84 .sub (.s 83) (.c (.val false [.int .i64 15]))), .i (.iad 85 (.s 82) (.s 84) 1), .i (.ldh 86 (.s 85) 1 false), .i (.mov 10 (.s 86))]) (.seq (.ops [.i (.mov 87 (.s 7)), .i (.mov 88 (.s 9)), .i (.bin 89 .sub (.s 88) (.c (.val false [.int .i64 2]))), .i (.iad 90 (.s 87) (.s 89) 1), .i (.ldh 91 (.s 90) 1 false), .i (.mov 11 (.s 91))]) (.seq (.ops [.i (.mov 92 (.s 10)), .i (.call 94 184 false [(.s 92), (.c (.val false [.int .i64 7]))]), .i (.mov 94 (.s 10)), .i (.call 96 184 false [(.s 94), (.c (.val false [.int .i64 18]))]), .i (.bin 96 .xor (.s 93) (.s 95)), .i (.mov 97 (.s 10)), .i (.bin 98 .shr (.s 97) (.c (.val false [.int .u64 3]))), .i (.bin 99 .xor (.s 96) (.s 98)), .i (.mov 12 (.s 99))]) (.seq (.ops [.i (.mov 100 (.s 11)), .i (.call 102 184 false [(.s 100), (.c (.val false [.int .i64 17]))]), .i (.mov 102 (.s 11)), .i (.call 104 184 false [(.s 102), (.c (.val false [.int .i64 19]))]), .i (.bin 104 .xor (.s 101) (.s 103)), .i (.mov 105 (.s 11)), .i (.bin 106 .shr (.s 105) (.c (.val false [.int .u64 10]))), .i (.bin 107 .xor (.s 104) (.s 106)), .i (.mov 13 (.s 107))]) (.ops [.i (.mov 108 (.s 7)), .i (.mov 109 (.s 7)), .i (.mov 110 (.s 9)), .i (.bin 111 .sub (.s 110) (.c (.val false [.int .i64 16]))), .i (.iad 112 (.s 109) (.s 111) 1), .i (.ldh 113 (.s 112) 1 false), .i (.mov 114 (.s 12)), .i (.bin 115 .add (.s 113) (.s 114)), .i (.mov 116 (.s 7)), .i (.mov 117 (.s 9)), .i (.bin 118 .sub (.s 117) (.c (.val false [.int .i64 7]))), .i (.iad 119 (.s 116) (.s 118) 1), .i (.ldh 120 (.s 119) 1 false), .i (.bin 121 .add (.s 115) (.s 120)), .i (.mov 122 (.s 13)), .i (.bin 123 .add (.s 121) (.s 122)), .i (.bin 124 .and (.s 123) (.c (.val false [.int .i64 4294967295]))), .i (.lsl 125 1 1 [.int .i64 0] [(0, 1, (.s 124))]), .i (.app 126 3 1 8 (.s 108) (.s 125)), .i (.mov 7 (.s 126))])))))) (.ops [.i (.mov 80 (.s 9)), .i (.bin 81 .add (.s 80) (.c (.val false [.int .i64 1]))), .i (.mov 9 (.s 81))])))))) (.seq (.ops [.i (.call 128 185 false []), .i (.mov 14 (.s 127))]) (.seq (.ops [.i (.bse 128), .i (.mov 129 (.s 0)), .i (.app 130 3 1 8 (.s 128) (.s 129)), .i (.mov 15 (.s 130))]) (.seq (.seq (.ops [.i (.mov 16 (.c (.val false [.int .i64 0])))]) (.block 6 (.loop [232, 231, 230, 229, 228, 227, 226, 225, 224, 223, 222, 221, 220, 219, 218, 217, 216, 215, 214, 213, 212, 211, 210, 209, 208, 207, 206, 205, 204, 203, 202, 201, 200, 199, 198, 197, 196, 195, 194, 193, 192, 191, 190, 189, 188, 187, 186, 185, 184, 183, 182, 181, 180, 179, 178, 177, 176, 175, 174, 173, 172, 171, 170, 169, 168, 167, 166, 165, 164, 163, 162, 161, 160, 159, 158, 157, 156, 155, 154, 153, 152, 151, 150, 149, 148, 147, 146, 145, 144, 143, 142, 141, 140, 139, 138, 137, 136, 135, 134, 133, 132, 131, 20, 19, 18, 17] (.seq (.seq (.ops [.i (.mov 131 (.s 16)), .i (.bin 132 .lss (.s 131) (.c (.val false [.int .i64 64])))]) (.cond (.s 132) .skip (.exit 6))) (.seq (.block 7 (.seq (.ops [.i (.mov 135 (.s 15)), .i (.iad 136 (.s 135) (.c (.val false [.int .i64 4])) 1), .i (.ldh 137 (.s 136) 1 false), .i (.mov 17 (.s 137))]) (.seq (.ops [.i (.mov 138 (.s 15)), .i (.iad 139 (.s 138) (.c (.val false [.int .i64 0])) 1), .i (.ldh 140 (.s 139) 1 false), .i (.mov 18 (.s 140))]) (.seq (.ops [.i (.mov 141 (.s 15)), .i (.iad 142 (.s 141) (.c (.val false [.int .i64 7])) 1), .i (.ldh 143 (.s 142) 1 false), .i (.mov 144 (.s 17)), .i (.call 146 184 true [(.s 144), (.c (.val false [.int .i64 6]))]), .i (.mov 146 (.s 17)), .i (.call 148 184 true [(.s 146), (.c (.val false [.int .i64 11]))]), .i (.bin 148 .xor (.s 145) (.s 147)), .i (.mov 149 (.s 17)), .i (.call 151 184 true [(.s 149), (.c (.val false [.int .i64 25]))]), .i (.bin 151 .xor (.s 148) (.s 150)), .i (.bin 152 .add (.s 143) (.s 151)), .i (.mov 153 (.s 17)), .i (.mov 154 (.s 15)), .i (.iad 155 (.s 154) (.c (.val false [.int .i64 5])) 1), .i (.ldh 156 (.s 155) 1 false), .i (.bin 157 .and (.s 153) (.s 156)), .i (.mov 158 (.s 17)), .i (.bin 159 .xor (.c (.val false [.int .i64 4294967295])) (.s 158)), .i (.mov 160 (.s 15)), .i (.iad 161 (.s 160) (.c (.val false [.int .i64 6])) 1), .i (.ldh 162 (.s 161) 1 false), .i (.bin 163 .and (.s 159) (.s 162)), .i (.bin 164 .xor (.s 157) (.s 163)), .i (.bin 165 .add (.s 152) (.s 164)), .i (.mov 166 (.s 14)), .i (.mov 167 (.s 16)), .i (.iad 168 (.s 166) (.s 167) 1), .i (.ldh 169 (.s 168) 1 false), .i (.bin 170 .add (.s 165) (.s 169)), .i (.mov 171 (.s 7)), .i (.mov 172 (.s 16)), .i (.iad 173 (.s 171) (.s 172) 1), .i (.ldh 174 (.s 173) 1 false), .i (.bin 175 .add (.s 170) (.s 174)), .i (.mov 19 (.s 175))]) (.seq (.ops [.i (.mov 176 (.s 18)), .i (.call 178 184 true [(.s 176), (.c (.val false [.int .i64 2]))]), .i (.mov 178 (.s 18)), .i (.call 180 184 true [(.s 178), (.c (.val false [.int .i64 13]))]), .i (.bin 180 .xor (.s 177) (.s 179)), .i (.mov 181 (.s 18)), .i (.call 183 184 true [(.s 181), (.c (.val false [.int .i64 22]))]), .i (.bin 183 .xor (.s 180) (.s 182)), .i (.mov 184 (.s 18)), .i (.mov 185 (.s 15)), .i (.iad 186 (.s 185) (.c (.val false [.int .i64 1])) 1), .i (.ldh 187 (.s 186) 1 false), .i (.bin 188 .and (.s 184) (.s 187)), .i (.mov 189 (.s 18)), .i (.mov 190 (.s 15)), .i (.iad 191 (.s 190) (.c (.val false [.int .i64 2])) 1), .i (.ldh 192 (.s 191) 1 false), .i (.bin 193 .and (.s 189) (.s 192)), .i (.bin 194 .xor (.s 188) (.s 193)), .i (.mov 195 (.s 15)), .i (.iad 196 (.s 195) (.c (.val false [.int .i64 1])) 1), .i (.ldh 197 (.s 196) 1 false), .i (.mov 198 (.s 15)), .i (.iad 199 (.s 198) (.c (.val false [.int .i64 2])) 1), .i (.ldh 200 (.s 199) 1 false), .i (.bin 201 .and (.s 197) (.s 200)), .i (.bin 202 .xor (.s 194) (.s 201)), .i (.bin 203 .add (.s 183) (.s 202)), .i (.mov 20 (.s 203))]) (.ops [.i (.mov 204 (.s 19)), .i (.mov 205 (.s 20)), .i (.bin 206 .add (.s 204) (.s 205)), .i (.bin 207 .and (.s 206) (.c (.val false [.int .i64 4294967295]))), .i (.mov 208 (.s 15)), .i (.iad 209 (.s 208) (.c (.val false [.int .i64 0])) 1), .i (.ldh 210 (.s 209) 1 false), .i (.mov 211 (.s 15)), .i (.iad 212 (.s 211) (.c (.val false [.int .i64 1])) 1), .i (.ldh 213 (.s 212) 1 false), .i (.mov 214 (.s 15)), .i (.iad 215 (.s 214) (.c (.val false [.int .i64 2])) 1), .i (.ldh 216 (.s 215) 1 false), .i (.mov 217 (.s 15)), .i (.iad 218 (.s 217) (.c (.val false [.int .i64 3])) 1), .i (.ldh 219 (.s 218) 1 false), .i (.mov 220 (.s 19)), .i (.bin 221 .add (.s 219) (.s 220)), .i (.bin 222 .and (.s 221) (.c (.val false [.int .i64 4294967295]))), .i (.mov 223 (.s 15)), .i (.iad 224 (.s 223) (.c (.val false [.int .i64 4])) 1), .i (.ldh 225 (.s 224) 1 false), .i (.mov 226 (.s 15)), .i (.iad 227 (.s 226) (.c (.val false [.int .i64 5])) 1), .i (.ldh 228 (.s 227) 1 false), .i (.mov 229 (.s 15)), .i (.iad 230 (.s 229) (.c (.val false [.int .i64 6])) 1), .i (.ldh 231 (.s 230) 1 false), .i (.bsl 232 3 1 8 [.int .i64 0] [(0, 1, (.s 207)), (1, 1, (.s 210)), (2, 1, (.s 213)), (3, 1, (.s 216)), (4, 1, (.s 222)), (5, 1, (.s 225)), (6, 1, (.s 228)), (7, 1, (.s 231))]), .i (.mov 15 (.s 232))])))))) (.ops [.i (.mov 133 (.s 16)), .i (.bin 134 .add (.s 133) (.c (.val false [.int .i64 1]))), .i (.mov 16 (.s 134))])))))) (.seq (.ops [.i (.bse 233), .i (.mov 21 (.s 233))]) (.seq (.seq (.ops [.i (.mov 234 (.s 0)), .i (.len 235 false (.s 234)), .i (.mov 236 (.c (.val false [.int .i64 0])))]) (.block 8 (.loop [252, 251, 250, 249, 248, 247, 246, 245, 244, 243, 242, 241, 240, 239, 238, 237, 22] (.seq (.ops [.i (.bin 237 .lss (.s 236) (.s 235))]) (.seq (.cond (.s 237) .skip (.exit 8)) (.seq (.block 9 (.seq (.ops [.i (.mov 238 (.s 236)), .i (.mov 22 (.s 238))]) (.ops [.i (.mov 239 (.s 21)), .i (.mov 240 (.s 0)), .i (.mov 241 (.s 22)), .i (.iad 242 (.s 240) (.s 241) 1), .i (.ldh 243 (.s 242) 1 false), .i (.mov 244 (.s 15)), .i (.mov 245 (.s 22)), .i (.iad 246 (.s 244) (.s 245) 1), .i (.ldh 247 (.s 246) 1 false), .i (.bin 248 .add (.s 243) (.s 247)), .i (.bin 249 .and (.s 248) (.c (.val false [.int .i64 4294967295]))), .i (.lsl 250 1 1 [.int .i64 0] [(0, 1, (.s 249))]), .i (.app 251 3 1 8 (.s 239) (.s 250)), .i (.mov 21 (.s 251))]))) (.ops [.i (.bin 252 .add (.s 236) (.c (.val false [.int .i64 1]))), .i (.mov 236 (.s 252))]))))))) (.seq (.ops [.i (.mov 253 (.s 21)), .i (.mov 4 (.s 253))]) .ret))))))))))))⟩
theorem k_spec_ShaBlock : cd n_spec_ShaBlock = some c_spec_ShaBlock := by kernel_rfl
theorem spec_ShaBlock_ok (h : List Int) (b : Bytes) (hl : h.length = 8) (hw : ∀ x ∈ h, word x = true) (hb : b.length = 64) : VC cd n_spec_ShaBlock (mkP [(false, [.sl (ints h)]), (false, [.sl (bytes b)])]) (fun rs _ => rs = [(false, [.o true (some (3, 1)) (ints (shaB h b))])]) := by
  refine VC_enter k_spec_ShaBlock rfl ?_
  simp (disch := omega) [c_spec_ShaBlock, ints_len, bytes_len, hl, hb, VE, VXR, VP, VB, kof, bl, it]
  refine VX_loop3 (σ := Nat) (f1 := _) (es0 := _) (by simp (disch := omega) [VE, VXR, VP, VB, kof, bl, it]; rfl) (by simp (disch := omega) [VE, VXR, VP, VB, kof, bl, it]; rfl) (fun i => [(33, .val false [.int .i64 i])]) (fun _ => []) (fun i g => g + i = 8) 0 8 (by simp (disch := omega) [VE, VXR, VP, VB, kof, bl, it]) (by simp (disch := omega) [VE, VXR, VP, VB, kof, bl, it]) (by omega) ?_
  rintro i n g hg
  simp (disch := omega) [VE, VXR, VP, VB, kof, bl, it]
  refine VXB_dec (fun h1 => ?_) (fun h1 => ?_)
  · have hx : i < h.length := by omega
    simp (disch := omega) [ints_get hx, VE, VXR, VP, VB, kof, bl, it]
    refine VXC_e (l04Word_ok _) rfl rfl ?_
    have hq : word (gi h i) = true := hw _ (by simp [gi, hx])
    simp (disch := omega) [hq, VE, VXR, VP, VB, kof, bl, it]
    exact ⟨i + 1, g - 1, by omega, by omega, by omega⟩
  have hi : i = 8 := by omega
  subst hi
  simp (disch := omega) [VE, VXR, VP, VB, kof, bl, it]
  refine VX_loop3 (σ := Nat × Nat) (f1 := _) (es0 := _) (by simp (disch := omega) [VE, VXR, VP, VB, kof, bl, it]; rfl) (by simp (disch := omega) [VE, VXR, VP, VB, kof, bl, it]; rfl) (fun p => [(8, .val false [.int .i64 (4 * (p.1 : Int))]), (7, .val false [.ow 41 p.2])]) (fun p => [(41, .sl p.2 true true (some (3, 1)) (ints (wsch b p.1)))])
    (fun p g => g + p.1 = 16) (0, _) 16 (by simp (disch := omega) [VE, VXR, VP, VB, kof, bl, it]; rfl) (by simp (disch := omega) [ints, wsch, VE, VXR, VP, VB, kof, bl, it]) (by omega) ?_
  rintro ⟨k, v⟩ n g hg
  simp only at hg
  simp (disch := omega) [VE, VXR, VP, VB, kof, bl, it]
  refine VXB_dec (fun h2 => ?_) (fun h2 => ?_)
  · have hk : k < 16 := by omega
    have q1 : ((4 : Int) * (k : Int)).toNat = 4 * k := by omega
    have q2 : ((4 : Int) * (k : Int) + 1).toNat = 4 * k + 1 := by omega
    have q3 : ((4 : Int) * (k : Int) + 2).toNat = 4 * k + 2 := by omega
    have q4 : ((4 : Int) * (k : Int) + 3).toNat = 4 * k + 3 := by omega
    have p1 : (0 : Int) ≤ (4 : Int) * (k : Int) ∧ (0 : Int) ≤ (4 : Int) * (k : Int) + 1 ∧ (0 : Int) ≤ (4 : Int) * (k : Int) + 2 ∧ (0 : Int) ≤ (4 : Int) * (k : Int) + 3 := by omega
    obtain ⟨p1, p2, p3, p4⟩ := p1
    have r1 := gb_range b (4 * k)
    have r2 := gb_range b (4 * k + 1)
    have r3 := gb_range b (4 * k + 2)
    have r4 := gb_range b (4 * k + 3)
    have e1 : (ints (wsch b k)).length = k := by rw [ints_len, wsch_len]
    simp (disch := omega) [bytes_len, hb, q1, q2, q3, q4, p1, p2, p3, p4, e1, flat_ints, wid_ints, gb_get (show 4 * k < b.length by omega), gb_get (show 4 * k + 1 < b.length by omega), gb_get (show 4 * k + 2 < b.length by omega), gb_get (show 4 * k + 3 < b.length by omega), VE, VXR, VP, VB, kof, bl, it]
    exact ⟨k + 1, _, g - 1, by omega, by omega, ⟨rfl, by omega⟩, rfl, by rw [wsch, if_pos hk]; simp only [ints, List.map_append, List.map_cons, List.map_nil, bw]⟩
  have hk : k = 16 := by omega
  subst hk
  simp (disch := omega) [VE, VXR, VP, VB, kof, bl, it]
  refine VX_loop3 (σ := Nat × Nat) (f1 := _) (es0 := _) (by simp (disch := omega) [VE, VXR, VP, VB, kof, bl, it]; rfl) (by simp (disch := omega) [VE, VXR, VP, VB, kof, bl, it]; rfl) (fun p => [(9, .val false [.int .i64 p.1]), (7, .val false [.ow 41 p.2])]) (fun p => [(41, .sl p.2 true true (some (3, 1)) (ints (wsch b p.1)))])
    (fun p g => g + p.1 = 64 ∧ 16 ≤ p.1) (16, _) 48 (by simp (disch := omega) [VE, VXR, VP, VB, kof, bl, it]; rfl) (by simp (disch := omega) [VE, VXR, VP, VB, kof, bl, it]) (by omega) ?_
  rintro ⟨k, v⟩ n g hg
  simp only at hg
  simp (disch := omega) [VE, VXR, VP, VB, kof, bl, it]
  refine VXB_dec (fun h3 => ?_) (fun h3 => ?_)
  · have hk : k < 64 := by omega
    obtain ⟨p1, p2, p3⟩ : (15 : Int) ≤ (k : Int) ∧ ((k : Int) - 15).toNat = k - 15 ∧ (k : Int) - 15 < k := by omega
    obtain ⟨p4, p5, p6⟩ : (2 : Int) ≤ (k : Int) ∧ ((k : Int) - 2).toNat = k - 2 ∧ (k : Int) - 2 < k := by omega
    obtain ⟨p7, p8, p9⟩ : (16 : Int) ≤ (k : Int) ∧ ((k : Int) - 16).toNat = k - 16 ∧ (k : Int) - 16 < k := by omega
    obtain ⟨q1, q2, q3⟩ : (7 : Int) ≤ (k : Int) ∧ ((k : Int) - 7).toNat = k - 7 ∧ (k : Int) - 7 < k := by omega
    have e1 : (ints (wsch b k)).length = k := by rw [ints_len, wsch_len]
    have hwl := wsch_len b k
    simp (disch := omega) [e1, p1, p2, p3, p4, p5, p6, ints_ge, VE, VXR, VP, VB, kof, bl, it]
    refine VXC_e (l04Turn_ok _ 7 (by omega)) rfl rfl ?_
    simp (disch := omega) [VE, VXR, VP, VB, kof, bl, it]
    refine VXC_e (l04Turn_ok _ 18 (by omega)) rfl rfl ?_
    simp (disch := omega) [VE, VXR, VP, VB, kof, bl, it]
    refine VXC_e (l04Turn_ok _ 17 (by omega)) rfl rfl ?_
    simp (disch := omega) [VE, VXR, VP, VB, kof, bl, it]
    refine VXC_e (l04Turn_ok _ 19 (by omega)) rfl rfl ?_
    simp (disch := omega) [e1, p7, p8, p9, q1, q2, q3, ints_ge, flat_ints, wid_ints, VE, VXR, VP, VB, kof, bl, it]
    exact ⟨k + 1, _, g - 1, by omega, by omega, ⟨rfl, by omega⟩, rfl, by rw [wsch, if_neg (by omega)]; simp only [ints, List.map_append, List.map_cons, List.map_nil, wnext, sg0, sg1]⟩
  have hk : k = 64 := by omega
  subst hk
  simp (disch := omega) [VE, VXR, VP, VB, kof, bl, it]
  refine VXC_e (l04K_ok) rfl rfl ?_
  simp (disch := omega) [ints_len, hl, flat_ints, wid_ints, VE, VXR, VP, VB, kof, bl, it]
  refine VX_loop4 (σ := Nat × Nat) (f0 := _) (by simp (disch := omega) [VE, VXR, VP, VB, kof, bl, it]; rfl) (Weak.ren (s := 15) (k := 128) (k' := 232) (by simp (disch := omega) [VE, VXR, VP, VB, kof, bl, it]) rfl (by omega)) (f1 := _) (es0 := _) (by simp (disch := omega) [VE, VXR, VP, VB, kof, bl, it]; rfl) (by simp (disch := omega) [renS, rmKs, VE, VXR, VP, VB, kof, bl, it]; rfl) (fun p => [(16, .val false [.int .i64 p.1]), (15, .val false [.ow 232 p.2])]) (fun p => [(232, .sl p.2 true true (some (3, 1)) (ints (rnds h b p.1)))])
    (fun p g => g + p.1 = 64) (0, _) 64 (by simp (disch := omega) [VE, VXR, VP, VB, kof, bl, it]; rfl) (by simp (disch := omega) [rnds, renS, rmKs, VE, VXR, VP, VB, kof, bl, it]) (by omega) ?_
  rintro ⟨k, v⟩ n g hg
  simp only at hg
  simp (disch := omega) [VE, VXR, VP, VB, kof, bl, it]
  refine VXB_dec (fun h4 => ?_) (fun h4 => ?_)
  · have hk : k < 64 := by omega
    have hv := rnds_len hl b k
    have e1 : (ints (rnds h b k)).length = 8 := by rw [ints_len, hv]
    have e2 : (ints kk).length = 64 := rfl
    have e3 : (ints (wsch b 64)).length = 64 := by rw [ints_len, wsch_len]
    simp (disch := omega) [e1, e2, e3, ints_ge, VE, VXR, VP, VB, kof, bl, it]
    refine VXC_e (l04Turn_ok _ 6 (by omega)) rfl rfl ?_
    simp (disch := omega) [VE, VXR, VP, VB, kof, bl, it]
    refine VXC_e (l04Turn_ok _ 11 (by omega)) rfl rfl ?_
    simp (disch := omega) [VE, VXR, VP, VB, kof, bl, it]
    refine VXC_e (l04Turn_ok _ 25 (by omega)) rfl rfl ?_
    simp (disch := omega) [e1, e2, e3, ints_ge, VE, VXR, VP, VB, kof, bl, it]
    refine VXC_e (l04Turn_ok _ 2 (by omega)) rfl rfl ?_
    simp (disch := omega) [VE, VXR, VP, VB, kof, bl, it]
    refine VXC_e (l04Turn_ok _ 13 (by omega)) rfl rfl ?_
    simp (disch := omega) [VE, VXR, VP, VB, kof, bl, it]
    refine VXC_e (l04Turn_ok _ 22 (by omega)) rfl rfl ?_
    simp (disch := omega) [e1, e2, e3, ints_ge, VE, VXR, VP, VB, kof, bl, it]
    exact ⟨k + 1, _, g - 1, by omega, by omega, ⟨rfl, by omega⟩, rfl, rfl⟩
  have hk : k = 64 := by omega
  subst hk
  simp (disch := omega) [ints_len, hl, VE, VXR, VP, VB, kof, bl, it]
  refine VX_loop3 (σ := Nat × Nat) (f1 := _) (es0 := _) (by simp (disch := omega) [VE, VXR, VP, VB, kof, bl, it]; rfl) (by simp (disch := omega) [VE, VXR, VP, VB, kof, bl, it]; rfl) (fun p => [(236, .val false [.int .i64 p.1]), (21, .val false [.ow 233 p.2])]) (fun p => [(233, .sl p.2 true true (some (3, 1)) (ints ((shaB h b).take p.1)))])
    (fun p g => g + p.1 = 8) (0, _) 8 (by simp (disch := omega) [VE, VXR, VP, VB, kof, bl, it]; rfl) (by simp (disch := omega) [ints, VE, VXR, VP, VB, kof, bl, it]) (by omega) ?_
  rintro ⟨k, w⟩ n g hg
  simp only at hg
  simp (disch := omega) [VE, VXR, VP, VB, kof, bl, it]
  refine VXB_dec (fun h5 => ?_) (fun h5 => ?_)
  · have hk : k < 8 := by omega
    have hv := rnds_len hl b 64
    have e1 : (ints (rnds h b 64)).length = 8 := by rw [ints_len, hv]
    have e2 : (ints h).length = 8 := by rw [ints_len, hl]
    have e3 : (ints ((shaB h b).take k)).length = k := by rw [ints_len]; simp [shaB]; omega
    simp (disch := omega) [e1, e2, e3, ints_ge, flat_ints, wid_ints, VE, VXR, VP, VB, kof, bl, it]
    exact ⟨k + 1, _, g - 1, by omega, by omega, ⟨rfl, by omega⟩, rfl, shaB_take h b hk⟩
  · have hk : k = 8 := by omega
    subst hk
    simp (disch := omega) [VE, VXR, VP, VB, kof, bl, it]
    rw [List.take_of_length_le (by simp [shaB])]
end Go.Eng.F
