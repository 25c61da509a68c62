import Derived.Test.YtkhciaoemhfhbaaEngY
set_option maxRecDepth 100000
set_option linter.unusedSimpArgs false
set_option linter.unusedVariables false
namespace Go.Eng.U

/-- laws.eqEntry -/
def c172 : AF := ⟨2, 5, [.tmp 4], (.seq (.ops [.i (.lbox 2 (.s 0)), .i (.lbox 3 (.s 1)), .i (.mov 4 (.c (.val false [.bool false])))]) (.seq (.seq (.ops [.i (.fad 5 (.s 2) 0), .i (.ldl 6 2 (.s 5) 1 false), .i (.fad 7 (.s 3) 0), .i (.ldl 8 3 (.s 7) 1 false), .i (.bin 9 .neq (.s 6) (.s 8))]) (.cond (.s 9) (.seq (.ops [.i (.mov 4 (.c (.val false [.bool false])))]) .ret) .skip)) (.seq (.seq (.ops [.i (.fad 10 (.s 2) 1), .i (.ldl 11 2 (.s 10) 1 false), .i (.fad 12 (.s 3) 1), .i (.ldl 13 3 (.s 12) 1 false), .i (.bin 14 .neq (.s 11) (.s 13))]) (.cond (.s 14) (.seq (.ops [.i (.mov 4 (.c (.val false [.bool false])))]) .ret) .skip)) (.seq (.seq (.ops [.i (.fad 15 (.s 2) 2), .i (.ldl 16 2 (.s 15) 1 false), .i (.fad 17 (.s 3) 2), .i (.ldl 18 3 (.s 17) 1 false), .i (.call 20 105 false [(.s 16), (.s 18)]), .i (.not 20 (.s 19))]) (.cond (.s 20) (.seq (.ops [.i (.mov 4 (.c (.val false [.bool false])))]) .ret) .skip)) (.seq (.ops [.i (.mov 4 (.c (.val false [.bool true])))]) .ret)))))⟩
theorem k172 : cd 172 = some c172 := by kernel_rfl
/-- laws.eqEntryS -/
def c130 : AF := ⟨2, 5, [.tmp 4], (.seq (.ops [.i (.mov 4 (.c (.val false [.bool false])))]) (.seq (.seq (.ops [.i (.mov 6 (.s 0)), .i (.len 7 false (.s 6)), .i (.mov 8 (.s 1)), .i (.len 9 false (.s 8)), .i (.bin 10 .neq (.s 7) (.s 9))]) (.cond (.s 10) (.seq (.ops [.i (.mov 4 (.c (.val false [.bool false])))]) .ret) .skip)) (.seq (.seq (.ops [.i (.mov 5 (.c (.val false [.int .i64 0])))]) (.block 0 (.loop [26, 25, 24, 23, 22, 21, 20, 19, 18, 17, 16, 15, 14, 13, 12, 11] (.seq (.seq (.ops [.i (.mov 11 (.s 5)), .i (.mov 12 (.s 0)), .i (.len 13 false (.s 12)), .i (.bin 14 .lss (.s 11) (.s 13))]) (.cond (.s 14) .skip (.exit 0))) (.seq (.block 1 (.seq (.ops [.i (.mov 17 (.s 0)), .i (.mov 18 (.s 5)), .i (.iad 19 (.s 17) (.s 18) 3), .i (.ldh 20 (.s 19) 3 true), .i (.mov 21 (.s 1)), .i (.mov 22 (.s 5)), .i (.iad 23 (.s 21) (.s 22) 3), .i (.ldh 24 (.s 23) 3 true), .i (.call 26 172 false [(.s 20), (.s 24)]), .i (.not 26 (.s 25))]) (.cond (.s 26) (.seq (.ops [.i (.mov 4 (.c (.val false [.bool false])))]) .ret) .skip))) (.ops [.i (.mov 15 (.s 5)), .i (.bin 16 .add (.s 15) (.c (.val false [.int .i64 1]))), .i (.mov 5 (.s 16))])))))) (.seq (.ops [.i (.mov 4 (.c (.val false [.bool true])))]) .ret))))⟩
theorem k130 : cd 130 = some c130 := by kernel_rfl
/-- laws.eqHeadS -/
def c92 : AF := ⟨2, 5, [.tmp 4], (.seq (.ops [.i (.mov 4 (.c (.val false [.bool false])))]) (.seq (.seq (.ops [.i (.mov 6 (.s 0)), .i (.len 7 false (.s 6)), .i (.mov 8 (.s 1)), .i (.len 9 false (.s 8)), .i (.bin 10 .neq (.s 7) (.s 9))]) (.cond (.s 10) (.seq (.ops [.i (.mov 4 (.c (.val false [.bool false])))]) .ret) .skip)) (.seq (.seq (.ops [.i (.mov 5 (.c (.val false [.int .i64 0])))]) (.block 0 (.loop [26, 25, 24, 23, 22, 21, 20, 19, 18, 17, 16, 15, 14, 13, 12, 11] (.seq (.seq (.ops [.i (.mov 11 (.s 5)), .i (.mov 12 (.s 0)), .i (.len 13 false (.s 12)), .i (.bin 14 .lss (.s 11) (.s 13))]) (.cond (.s 14) .skip (.exit 0))) (.seq (.block 1 (.seq (.ops [.i (.mov 17 (.s 0)), .i (.mov 18 (.s 5)), .i (.iad 19 (.s 17) (.s 18) 10), .i (.ldh 20 (.s 19) 10 true), .i (.mov 21 (.s 1)), .i (.mov 22 (.s 5)), .i (.iad 23 (.s 21) (.s 22) 10), .i (.ldh 24 (.s 23) 10 true), .i (.call 26 36 false [(.s 20), (.s 24)]), .i (.not 26 (.s 25))]) (.cond (.s 26) (.seq (.ops [.i (.mov 4 (.c (.val false [.bool false])))]) .ret) .skip))) (.ops [.i (.mov 15 (.s 5)), .i (.bin 16 .add (.s 15) (.c (.val false [.int .i64 1]))), .i (.mov 5 (.s 16))])))))) (.seq (.ops [.i (.mov 4 (.c (.val false [.bool true])))]) .ret))))⟩
theorem k92 : cd 92 = some c92 := by kernel_rfl
/-- laws.eqVote -/
def c115 : AF := ⟨2, 6, [.tmp 4], (.seq (.ops [.i (.lbox 2 (.s 0)), .i (.lbox 3 (.s 1)), .i (.mov 4 (.c (.val false [.bool false])))]) (.seq (.seq (.ops [.i (.fad 5 (.s 2) 0), .i (.ldl 6 2 (.s 5) 1 false), .i (.fad 7 (.s 3) 0), .i (.ldl 8 3 (.s 7) 1 false), .i (.bin 9 .neq (.s 6) (.s 8))]) (.cond (.s 9) (.seq (.ops [.i (.mov 4 (.c (.val false [.bool false])))]) .ret) .skip)) (.seq (.seq (.ops [.i (.fad 10 (.s 2) 1), .i (.ldl 11 2 (.s 10) 1 false), .i (.fad 12 (.s 3) 1), .i (.ldl 13 3 (.s 12) 1 false), .i (.bin 14 .neq (.s 11) (.s 13))]) (.cond (.s 14) (.seq (.ops [.i (.mov 4 (.c (.val false [.bool false])))]) .ret) .skip)) (.seq (.seq (.ops [.i (.fad 15 (.s 2) 2), .i (.ldl 16 2 (.s 15) 1 false), .i (.fad 17 (.s 3) 2), .i (.ldl 18 3 (.s 17) 1 false), .i (.call 20 105 false [(.s 16), (.s 18)]), .i (.not 20 (.s 19))]) (.cond (.s 20) (.seq (.ops [.i (.mov 4 (.c (.val false [.bool false])))]) .ret) .skip)) (.seq (.seq (.ops [.i (.fad 21 (.s 2) 3), .i (.ldl 22 2 (.s 21) 1 false), .i (.fad 23 (.s 3) 3), .i (.ldl 24 3 (.s 23) 1 false), .i (.bin 25 .neq (.s 22) (.s 24))]) (.cond (.s 25) (.seq (.ops [.i (.mov 4 (.c (.val false [.bool false])))]) .ret) .skip)) (.seq (.seq (.ops [.i (.fad 26 (.s 2) 4), .i (.ldl 27 2 (.s 26) 1 false), .i (.fad 28 (.s 3) 4), .i (.ldl 29 3 (.s 28) 1 false), .i (.call 31 105 false [(.s 27), (.s 29)]), .i (.not 31 (.s 30))]) (.cond (.s 31) (.seq (.ops [.i (.mov 4 (.c (.val false [.bool false])))]) .ret) .skip)) (.seq (.ops [.i (.mov 4 (.c (.val false [.bool true])))]) .ret)))))))⟩
theorem k115 : cd 115 = some c115 := by kernel_rfl
/-- laws.markVote -/
def c119 : AF := ⟨2, 4, [.tmp 4], (.seq (.ops [.i (.lbox 2 (.s 0)), .i (.mov 4 (.c (.val false [.int .i64 0])))]) (.seq (.ops [.i (.fad 5 (.s 2) 2), .i (.ldl 6 2 (.s 5) 1 false), .i (.mov 7 (.s 1)), .i (.call 9 106 false [(.s 6), (.s 7)]), .i (.mov 1 (.s 8))]) (.seq (.ops [.i (.fad 9 (.s 2) 4), .i (.ldl 10 2 (.s 9) 1 false), .i (.mov 11 (.s 1)), .i (.call 13 106 false [(.s 10), (.s 11)]), .i (.mov 1 (.s 12))]) (.seq (.ops [.i (.mov 13 (.s 1)), .i (.mov 4 (.s 13))]) .ret))))⟩
theorem k119 : cd 119 = some c119 := by kernel_rfl
/-- laws.heldVote -/
def c121 : AF := ⟨2, 5, [.tmp 4], (.seq (.ops [.i (.lbox 2 (.s 0)), .i (.mov 4 (.c (.val false [.int .i64 0])))]) (.seq (.ops [.i (.fad 5 (.s 2) 2), .i (.ldl 6 2 (.s 5) 1 false), .i (.mov 7 (.s 1)), .i (.call 9 107 false [(.s 6), (.s 7)]), .i (.mov 1 (.s 8))]) (.seq (.seq (.ops [.i (.mov 9 (.s 1)), .i (.bin 10 .lss (.s 9) (.c (.val false [.int .i64 0])))]) (.cond (.s 10) (.seq (.ops [.i (.mov 4 (.c (.val false [.int .i64 (-1)])))]) .ret) .skip)) (.seq (.ops [.i (.fad 11 (.s 2) 4), .i (.ldl 12 2 (.s 11) 1 false), .i (.mov 13 (.s 1)), .i (.call 15 107 false [(.s 12), (.s 13)]), .i (.mov 1 (.s 14))]) (.seq (.seq (.ops [.i (.mov 15 (.s 1)), .i (.bin 16 .lss (.s 15) (.c (.val false [.int .i64 0])))]) (.cond (.s 16) (.seq (.ops [.i (.mov 4 (.c (.val false [.int .i64 (-1)])))]) .ret) .skip)) (.seq (.ops [.i (.mov 17 (.s 1)), .i (.mov 4 (.s 17))]) .ret))))))⟩
theorem k121 : cd 121 = some c121 := by kernel_rfl
/-- laws.eqBlock -/
def c116 : AF := ⟨2, 5, [.tmp 4], (.seq (.ops [.i (.lbox 2 (.s 0)), .i (.lbox 3 (.s 1)), .i (.mov 4 (.c (.val false [.bool false])))]) (.seq (.seq (.ops [.i (.fad 5 (.s 2) 0), .i (.ldl 6 2 (.s 5) 10 true), .i (.fad 7 (.s 3) 0), .i (.ldl 8 3 (.s 7) 10 true), .i (.call 10 36 false [(.s 6), (.s 8)]), .i (.not 10 (.s 9))]) (.cond (.s 10) (.seq (.ops [.i (.mov 4 (.c (.val false [.bool false])))]) .ret) .skip)) (.seq (.seq (.ops [.i (.fad 11 (.s 2) 10), .i (.ldl 12 2 (.s 11) 1 false), .i (.fad 13 (.s 3) 10), .i (.ldl 14 3 (.s 13) 1 false), .i (.call 16 117 false [(.s 12), (.s 14)]), .i (.not 16 (.s 15))]) (.cond (.s 16) (.seq (.ops [.i (.mov 4 (.c (.val false [.bool false])))]) .ret) .skip)) (.seq (.ops [.i (.mov 4 (.c (.val false [.bool true])))]) .ret))))⟩
theorem k116 : cd 116 = some c116 := by kernel_rfl
/-- laws.markBlock -/
def c120 : AF := ⟨2, 4, [.tmp 4], (.seq (.ops [.i (.lbox 2 (.s 0)), .i (.mov 4 (.c (.val false [.int .i64 0])))]) (.seq (.ops [.i (.fad 5 (.s 2) 0), .i (.ldl 6 2 (.s 5) 10 true), .i (.mov 7 (.s 1)), .i (.call 9 39 false [(.s 6), (.s 7)]), .i (.mov 1 (.s 8))]) (.seq (.ops [.i (.fad 9 (.s 2) 10), .i (.ldl 10 2 (.s 9) 1 false), .i (.mov 11 (.s 1)), .i (.call 13 118 false [(.s 10), (.s 11)]), .i (.mov 1 (.s 12))]) (.seq (.ops [.i (.mov 13 (.s 1)), .i (.mov 4 (.s 13))]) .ret))))⟩
theorem k120 : cd 120 = some c120 := by kernel_rfl
/-- laws.heldBlock -/
def c122 : AF := ⟨2, 5, [.tmp 4], (.seq (.ops [.i (.lbox 2 (.s 0)), .i (.mov 4 (.c (.val false [.int .i64 0])))]) (.seq (.ops [.i (.fad 5 (.s 2) 0), .i (.ldl 6 2 (.s 5) 10 true), .i (.mov 7 (.s 1)), .i (.call 9 40 false [(.s 6), (.s 7)]), .i (.mov 1 (.s 8))]) (.seq (.seq (.ops [.i (.mov 9 (.s 1)), .i (.bin 10 .lss (.s 9) (.c (.val false [.int .i64 0])))]) (.cond (.s 10) (.seq (.ops [.i (.mov 4 (.c (.val false [.int .i64 (-1)])))]) .ret) .skip)) (.seq (.ops [.i (.fad 11 (.s 2) 10), .i (.ldl 12 2 (.s 11) 1 false), .i (.mov 13 (.s 1)), .i (.call 15 161 false [(.s 12), (.s 13)]), .i (.mov 1 (.s 14))]) (.seq (.seq (.ops [.i (.mov 15 (.s 1)), .i (.bin 16 .lss (.s 15) (.c (.val false [.int .i64 0])))]) (.cond (.s 16) (.seq (.ops [.i (.mov 4 (.c (.val false [.int .i64 (-1)])))]) .ret) .skip)) (.seq (.ops [.i (.mov 17 (.s 1)), .i (.mov 4 (.s 17))]) .ret))))))⟩
theorem k122 : cd 122 = some c122 := by kernel_rfl
/-- laws.eqTc -/
def c54 : AF := ⟨2, 5, [.tmp 4], (.seq (.ops [.i (.lbox 2 (.s 0)), .i (.lbox 3 (.s 1)), .i (.mov 4 (.c (.val false [.bool false])))]) (.seq (.seq (.ops [.i (.fad 5 (.s 2) 0), .i (.ldl 6 2 (.s 5) 1 false), .i (.fad 7 (.s 3) 0), .i (.ldl 8 3 (.s 7) 1 false), .i (.bin 9 .neq (.s 6) (.s 8))]) (.cond (.s 9) (.seq (.ops [.i (.mov 4 (.c (.val false [.bool false])))]) .ret) .skip)) (.seq (.seq (.ops [.i (.fad 10 (.s 2) 1), .i (.ldl 11 2 (.s 10) 1 false), .i (.fad 12 (.s 3) 1), .i (.ldl 13 3 (.s 12) 1 false), .i (.call 15 130 false [(.s 11), (.s 13)]), .i (.not 15 (.s 14))]) (.cond (.s 15) (.seq (.ops [.i (.mov 4 (.c (.val false [.bool false])))]) .ret) .skip)) (.seq (.ops [.i (.mov 4 (.c (.val false [.bool true])))]) .ret))))⟩
theorem k54 : cd 54 = some c54 := by kernel_rfl
/-- laws.markTc -/
def c55 : AF := ⟨2, 4, [.tmp 4], (.seq (.ops [.i (.lbox 2 (.s 0)), .i (.mov 4 (.c (.val false [.int .i64 0])))]) (.seq (.ops [.i (.fad 5 (.s 2) 1), .i (.ldl 6 2 (.s 5) 1 false), .i (.mov 7 (.s 1)), .i (.call 9 131 false [(.s 6), (.s 7)]), .i (.mov 1 (.s 8))]) (.seq (.ops [.i (.mov 9 (.s 1)), .i (.mov 4 (.s 9))]) .ret)))⟩
theorem k55 : cd 55 = some c55 := by kernel_rfl
/-- laws.heldTc -/
def c123 : AF := ⟨2, 4, [.tmp 4], (.seq (.ops [.i (.lbox 2 (.s 0)), .i (.mov 4 (.c (.val false [.int .i64 0])))]) (.seq (.ops [.i (.fad 5 (.s 2) 1), .i (.ldl 6 2 (.s 5) 1 false), .i (.mov 7 (.s 1)), .i (.call 9 169 false [(.s 6), (.s 7)]), .i (.mov 1 (.s 8))]) (.seq (.seq (.ops [.i (.mov 9 (.s 1)), .i (.bin 10 .lss (.s 9) (.c (.val false [.int .i64 0])))]) (.cond (.s 10) (.seq (.ops [.i (.mov 4 (.c (.val false [.int .i64 (-1)])))]) .ret) .skip)) (.seq (.ops [.i (.mov 11 (.s 1)), .i (.mov 4 (.s 11))]) .ret))))⟩
theorem k123 : cd 123 = some c123 := by kernel_rfl
/-- laws.eqProof -/
def c37 : AF := ⟨2, 5, [.tmp 4], (.seq (.ops [.i (.lbox 2 (.s 0)), .i (.lbox 3 (.s 1)), .i (.mov 4 (.c (.val false [.bool false])))]) (.seq (.seq (.ops [.i (.fad 5 (.s 2) 0), .i (.ldl 6 2 (.s 5) 1 false), .i (.fad 7 (.s 3) 0), .i (.ldl 8 3 (.s 7) 1 false), .i (.call 10 92 false [(.s 6), (.s 8)]), .i (.not 10 (.s 9))]) (.cond (.s 10) (.seq (.ops [.i (.mov 4 (.c (.val false [.bool false])))]) .ret) .skip)) (.seq (.seq (.ops [.i (.fad 11 (.s 2) 1), .i (.ldl 12 2 (.s 11) 5 true), .i (.fad 13 (.s 3) 1), .i (.ldl 14 3 (.s 13) 5 true), .i (.call 16 60 false [(.s 12), (.s 14)]), .i (.not 16 (.s 15))]) (.cond (.s 16) (.seq (.ops [.i (.mov 4 (.c (.val false [.bool false])))]) .ret) .skip)) (.seq (.ops [.i (.mov 4 (.c (.val false [.bool true])))]) .ret))))⟩
theorem k37 : cd 37 = some c37 := by kernel_rfl
/-- laws.markProof -/
def c38 : AF := ⟨2, 4, [.tmp 4], (.seq (.ops [.i (.lbox 2 (.s 0)), .i (.mov 4 (.c (.val false [.int .i64 0])))]) (.seq (.ops [.i (.fad 5 (.s 2) 0), .i (.ldl 6 2 (.s 5) 1 false), .i (.mov 7 (.s 1)), .i (.call 9 96 false [(.s 6), (.s 7)]), .i (.mov 1 (.s 8))]) (.seq (.ops [.i (.fad 9 (.s 2) 1), .i (.ldl 10 2 (.s 9) 5 true), .i (.mov 11 (.s 1)), .i (.call 13 61 false [(.s 10), (.s 11)]), .i (.mov 1 (.s 12))]) (.seq (.ops [.i (.mov 13 (.s 1)), .i (.mov 4 (.s 13))]) .ret))))⟩
theorem k38 : cd 38 = some c38 := by kernel_rfl
/-- laws.heldProof -/
def c124 : AF := ⟨2, 5, [.tmp 4], (.seq (.ops [.i (.lbox 2 (.s 0)), .i (.mov 4 (.c (.val false [.int .i64 0])))]) (.seq (.ops [.i (.fad 5 (.s 2) 0), .i (.ldl 6 2 (.s 5) 1 false), .i (.mov 7 (.s 1)), .i (.call 9 99 false [(.s 6), (.s 7)]), .i (.mov 1 (.s 8))]) (.seq (.seq (.ops [.i (.mov 9 (.s 1)), .i (.bin 10 .lss (.s 9) (.c (.val false [.int .i64 0])))]) (.cond (.s 10) (.seq (.ops [.i (.mov 4 (.c (.val false [.int .i64 (-1)])))]) .ret) .skip)) (.seq (.ops [.i (.fad 11 (.s 2) 1), .i (.ldl 12 2 (.s 11) 5 true), .i (.mov 13 (.s 1)), .i (.call 15 108 false [(.s 12), (.s 13)]), .i (.mov 1 (.s 14))]) (.seq (.seq (.ops [.i (.mov 15 (.s 1)), .i (.bin 16 .lss (.s 15) (.c (.val false [.int .i64 0])))]) (.cond (.s 16) (.seq (.ops [.i (.mov 4 (.c (.val false [.int .i64 (-1)])))]) .ret) .skip)) (.seq (.ops [.i (.mov 17 (.s 1)), .i (.mov 4 (.s 17))]) .ret))))))⟩
theorem k124 : cd 124 = some c124 := by kernel_rfl
/-- laws.eqIncl -/
def c46 : AF := ⟨2, 6, [.tmp 4], (.seq (.ops [.i (.lbox 2 (.s 0)), .i (.lbox 3 (.s 1)), .i (.mov 4 (.c (.val false [.bool false])))]) (.seq (.seq (.ops [.i (.fad 5 (.s 2) 0), .i (.ldl 6 2 (.s 5) 1 false), .i (.fad 7 (.s 3) 0), .i (.ldl 8 3 (.s 7) 1 false), .i (.bin 9 .neq (.s 6) (.s 8))]) (.cond (.s 9) (.seq (.ops [.i (.mov 4 (.c (.val false [.bool false])))]) .ret) .skip)) (.seq (.seq (.ops [.i (.fad 10 (.s 2) 1), .i (.ldl 11 2 (.s 10) 1 false), .i (.fad 12 (.s 3) 1), .i (.ldl 13 3 (.s 12) 1 false), .i (.bin 14 .neq (.s 11) (.s 13))]) (.cond (.s 14) (.seq (.ops [.i (.mov 4 (.c (.val false [.bool false])))]) .ret) .skip)) (.seq (.seq (.ops [.i (.fad 15 (.s 2) 2), .i (.ldl 16 2 (.s 15) 1 false), .i (.fad 17 (.s 3) 2), .i (.ldl 18 3 (.s 17) 1 false), .i (.bin 19 .neq (.s 16) (.s 18))]) (.cond (.s 19) (.seq (.ops [.i (.mov 4 (.c (.val false [.bool false])))]) .ret) .skip)) (.seq (.seq (.ops [.i (.fad 20 (.s 2) 3), .i (.ldl 21 2 (.s 20) 1 false), .i (.fad 22 (.s 3) 3), .i (.ldl 23 3 (.s 22) 1 false), .i (.call 25 105 false [(.s 21), (.s 23)]), .i (.not 25 (.s 24))]) (.cond (.s 25) (.seq (.ops [.i (.mov 4 (.c (.val false [.bool false])))]) .ret) .skip)) (.seq (.seq (.ops [.i (.fad 26 (.s 2) 4), .i (.ldl 27 2 (.s 26) 1 false), .i (.fad 28 (.s 3) 4), .i (.ldl 29 3 (.s 28) 1 false), .i (.call 31 117 false [(.s 27), (.s 29)]), .i (.not 31 (.s 30))]) (.cond (.s 31) (.seq (.ops [.i (.mov 4 (.c (.val false [.bool false])))]) .ret) .skip)) (.seq (.ops [.i (.mov 4 (.c (.val false [.bool true])))]) .ret)))))))⟩
theorem k46 : cd 46 = some c46 := by kernel_rfl
/-- laws.markIncl -/
def c47 : AF := ⟨2, 4, [.tmp 4], (.seq (.ops [.i (.lbox 2 (.s 0)), .i (.mov 4 (.c (.val false [.int .i64 0])))]) (.seq (.ops [.i (.fad 5 (.s 2) 3), .i (.ldl 6 2 (.s 5) 1 false), .i (.mov 7 (.s 1)), .i (.call 9 106 false [(.s 6), (.s 7)]), .i (.mov 1 (.s 8))]) (.seq (.ops [.i (.fad 9 (.s 2) 4), .i (.ldl 10 2 (.s 9) 1 false), .i (.mov 11 (.s 1)), .i (.call 13 118 false [(.s 10), (.s 11)]), .i (.mov 1 (.s 12))]) (.seq (.ops [.i (.mov 13 (.s 1)), .i (.mov 4 (.s 13))]) .ret))))⟩
theorem k47 : cd 47 = some c47 := by kernel_rfl
/-- laws.heldIncl -/
def c125 : AF := ⟨2, 5, [.tmp 4], (.seq (.ops [.i (.lbox 2 (.s 0)), .i (.mov 4 (.c (.val false [.int .i64 0])))]) (.seq (.ops [.i (.fad 5 (.s 2) 3), .i (.ldl 6 2 (.s 5) 1 false), .i (.mov 7 (.s 1)), .i (.call 9 107 false [(.s 6), (.s 7)]), .i (.mov 1 (.s 8))]) (.seq (.seq (.ops [.i (.mov 9 (.s 1)), .i (.bin 10 .lss (.s 9) (.c (.val false [.int .i64 0])))]) (.cond (.s 10) (.seq (.ops [.i (.mov 4 (.c (.val false [.int .i64 (-1)])))]) .ret) .skip)) (.seq (.ops [.i (.fad 11 (.s 2) 4), .i (.ldl 12 2 (.s 11) 1 false), .i (.mov 13 (.s 1)), .i (.call 15 161 false [(.s 12), (.s 13)]), .i (.mov 1 (.s 14))]) (.seq (.seq (.ops [.i (.mov 15 (.s 1)), .i (.bin 16 .lss (.s 15) (.c (.val false [.int .i64 0])))]) (.cond (.s 16) (.seq (.ops [.i (.mov 4 (.c (.val false [.int .i64 (-1)])))]) .ret) .skip)) (.seq (.ops [.i (.mov 17 (.s 1)), .i (.mov 4 (.s 17))]) .ret))))))⟩
theorem k125 : cd 125 = some c125 := by kernel_rfl
/-- laws.eqMsg -/
def c45 : AF := ⟨2, 6, [.tmp 4], (.seq (.ops [.i (.lbox 2 (.s 0)), .i (.lbox 3 (.s 1)), .i (.mov 4 (.c (.val false [.bool false])))]) (.seq (.seq (.ops [.i (.fad 5 (.s 2) 0), .i (.ldl 6 2 (.s 5) 1 false), .i (.fad 7 (.s 3) 0), .i (.ldl 8 3 (.s 7) 1 false), .i (.bin 9 .neq (.s 6) (.s 8))]) (.cond (.s 9) (.seq (.ops [.i (.mov 4 (.c (.val false [.bool false])))]) .ret) .skip)) (.seq (.seq (.ops [.i (.fad 10 (.s 2) 1), .i (.ldl 11 2 (.s 10) 5 true), .i (.fad 12 (.s 3) 1), .i (.ldl 13 3 (.s 12) 5 true), .i (.call 15 115 false [(.s 11), (.s 13)]), .i (.not 15 (.s 14))]) (.cond (.s 15) (.seq (.ops [.i (.mov 4 (.c (.val false [.bool false])))]) .ret) .skip)) (.seq (.seq (.ops [.i (.fad 16 (.s 2) 6), .i (.ldl 17 2 (.s 16) 5 true), .i (.fad 18 (.s 3) 6), .i (.ldl 19 3 (.s 18) 5 true), .i (.call 21 60 false [(.s 17), (.s 19)]), .i (.not 21 (.s 20))]) (.cond (.s 21) (.seq (.ops [.i (.mov 4 (.c (.val false [.bool false])))]) .ret) .skip)) (.seq (.seq (.ops [.i (.fad 22 (.s 2) 11), .i (.ldl 23 2 (.s 22) 10 true), .i (.fad 24 (.s 3) 11), .i (.ldl 25 3 (.s 24) 10 true), .i (.call 27 36 false [(.s 23), (.s 25)]), .i (.not 27 (.s 26))]) (.cond (.s 27) (.seq (.ops [.i (.mov 4 (.c (.val false [.bool false])))]) .ret) .skip)) (.seq (.seq (.ops [.i (.fad 28 (.s 2) 21), .i (.ldl 29 2 (.s 28) 11 true), .i (.fad 30 (.s 3) 21), .i (.ldl 31 3 (.s 30) 11 true), .i (.call 33 116 false [(.s 29), (.s 31)]), .i (.not 33 (.s 32))]) (.cond (.s 33) (.seq (.ops [.i (.mov 4 (.c (.val false [.bool false])))]) .ret) .skip)) (.seq (.seq (.ops [.i (.fad 34 (.s 2) 32), .i (.ldl 35 2 (.s 34) 2 true), .i (.fad 36 (.s 3) 32), .i (.ldl 37 3 (.s 36) 2 true), .i (.call 39 54 false [(.s 35), (.s 37)]), .i (.not 39 (.s 38))]) (.cond (.s 39) (.seq (.ops [.i (.mov 4 (.c (.val false [.bool false])))]) .ret) .skip)) (.seq (.seq (.ops [.i (.fad 40 (.s 2) 34), .i (.ldl 41 2 (.s 40) 6 true), .i (.fad 42 (.s 3) 34), .i (.ldl 43 3 (.s 42) 6 true), .i (.call 45 37 false [(.s 41), (.s 43)]), .i (.not 45 (.s 44))]) (.cond (.s 45) (.seq (.ops [.i (.mov 4 (.c (.val false [.bool false])))]) .ret) .skip)) (.seq (.seq (.ops [.i (.fad 46 (.s 2) 40), .i (.ldl 47 2 (.s 46) 5 true), .i (.fad 48 (.s 3) 40), .i (.ldl 49 3 (.s 48) 5 true), .i (.call 51 46 false [(.s 47), (.s 49)]), .i (.not 51 (.s 50))]) (.cond (.s 51) (.seq (.ops [.i (.mov 4 (.c (.val false [.bool false])))]) .ret) .skip)) (.seq (.ops [.i (.mov 4 (.c (.val false [.bool true])))]) .ret))))))))))⟩
theorem k45 : cd 45 = some c45 := by kernel_rfl
/-- laws.markMsg -/
def c48 : AF := ⟨2, 6, [.tmp 4], (.seq (.ops [.i (.lbox 2 (.s 0)), .i (.mov 4 (.c (.val false [.int .i64 0])))]) (.seq (.ops [.i (.fad 5 (.s 2) 1), .i (.ldl 6 2 (.s 5) 5 true), .i (.mov 7 (.s 1)), .i (.call 9 119 false [(.s 6), (.s 7)]), .i (.mov 1 (.s 8))]) (.seq (.ops [.i (.fad 9 (.s 2) 6), .i (.ldl 10 2 (.s 9) 5 true), .i (.mov 11 (.s 1)), .i (.call 13 61 false [(.s 10), (.s 11)]), .i (.mov 1 (.s 12))]) (.seq (.ops [.i (.fad 13 (.s 2) 11), .i (.ldl 14 2 (.s 13) 10 true), .i (.mov 15 (.s 1)), .i (.call 17 39 false [(.s 14), (.s 15)]), .i (.mov 1 (.s 16))]) (.seq (.ops [.i (.fad 17 (.s 2) 21), .i (.ldl 18 2 (.s 17) 11 true), .i (.mov 19 (.s 1)), .i (.call 21 120 false [(.s 18), (.s 19)]), .i (.mov 1 (.s 20))]) (.seq (.ops [.i (.fad 21 (.s 2) 32), .i (.ldl 22 2 (.s 21) 2 true), .i (.mov 23 (.s 1)), .i (.call 25 55 false [(.s 22), (.s 23)]), .i (.mov 1 (.s 24))]) (.seq (.ops [.i (.fad 25 (.s 2) 34), .i (.ldl 26 2 (.s 25) 6 true), .i (.mov 27 (.s 1)), .i (.call 29 38 false [(.s 26), (.s 27)]), .i (.mov 1 (.s 28))]) (.seq (.ops [.i (.fad 29 (.s 2) 40), .i (.ldl 30 2 (.s 29) 5 true), .i (.mov 31 (.s 1)), .i (.call 33 47 false [(.s 30), (.s 31)]), .i (.mov 1 (.s 32))]) (.seq (.ops [.i (.mov 33 (.s 1)), .i (.mov 4 (.s 33))]) .ret)))))))))⟩
theorem k48 : cd 48 = some c48 := by kernel_rfl
/-- laws.heldMsg -/
def c49 : AF := ⟨2, 6, [.tmp 4], (.seq (.ops [.i (.lbox 2 (.s 0)), .i (.mov 4 (.c (.val false [.int .i64 0])))]) (.seq (.ops [.i (.fad 5 (.s 2) 1), .i (.ldl 6 2 (.s 5) 5 true), .i (.mov 7 (.s 1)), .i (.call 9 121 false [(.s 6), (.s 7)]), .i (.mov 1 (.s 8))]) (.seq (.seq (.ops [.i (.mov 9 (.s 1)), .i (.bin 10 .lss (.s 9) (.c (.val false [.int .i64 0])))]) (.cond (.s 10) (.seq (.ops [.i (.mov 4 (.c (.val false [.int .i64 (-1)])))]) .ret) .skip)) (.seq (.ops [.i (.fad 11 (.s 2) 6), .i (.ldl 12 2 (.s 11) 5 true), .i (.mov 13 (.s 1)), .i (.call 15 108 false [(.s 12), (.s 13)]), .i (.mov 1 (.s 14))]) (.seq (.seq (.ops [.i (.mov 15 (.s 1)), .i (.bin 16 .lss (.s 15) (.c (.val false [.int .i64 0])))]) (.cond (.s 16) (.seq (.ops [.i (.mov 4 (.c (.val false [.int .i64 (-1)])))]) .ret) .skip)) (.seq (.ops [.i (.fad 17 (.s 2) 11), .i (.ldl 18 2 (.s 17) 10 true), .i (.mov 19 (.s 1)), .i (.call 21 40 false [(.s 18), (.s 19)]), .i (.mov 1 (.s 20))]) (.seq (.seq (.ops [.i (.mov 21 (.s 1)), .i (.bin 22 .lss (.s 21) (.c (.val false [.int .i64 0])))]) (.cond (.s 22) (.seq (.ops [.i (.mov 4 (.c (.val false [.int .i64 (-1)])))]) .ret) .skip)) (.seq (.ops [.i (.fad 23 (.s 2) 21), .i (.ldl 24 2 (.s 23) 11 true), .i (.mov 25 (.s 1)), .i (.call 27 122 false [(.s 24), (.s 25)]), .i (.mov 1 (.s 26))]) (.seq (.seq (.ops [.i (.mov 27 (.s 1)), .i (.bin 28 .lss (.s 27) (.c (.val false [.int .i64 0])))]) (.cond (.s 28) (.seq (.ops [.i (.mov 4 (.c (.val false [.int .i64 (-1)])))]) .ret) .skip)) (.seq (.ops [.i (.fad 29 (.s 2) 32), .i (.ldl 30 2 (.s 29) 2 true), .i (.mov 31 (.s 1)), .i (.call 33 123 false [(.s 30), (.s 31)]), .i (.mov 1 (.s 32))]) (.seq (.seq (.ops [.i (.mov 33 (.s 1)), .i (.bin 34 .lss (.s 33) (.c (.val false [.int .i64 0])))]) (.cond (.s 34) (.seq (.ops [.i (.mov 4 (.c (.val false [.int .i64 (-1)])))]) .ret) .skip)) (.seq (.ops [.i (.fad 35 (.s 2) 34), .i (.ldl 36 2 (.s 35) 6 true), .i (.mov 37 (.s 1)), .i (.call 39 124 false [(.s 36), (.s 37)]), .i (.mov 1 (.s 38))]) (.seq (.seq (.ops [.i (.mov 39 (.s 1)), .i (.bin 40 .lss (.s 39) (.c (.val false [.int .i64 0])))]) (.cond (.s 40) (.seq (.ops [.i (.mov 4 (.c (.val false [.int .i64 (-1)])))]) .ret) .skip)) (.seq (.ops [.i (.fad 41 (.s 2) 40), .i (.ldl 42 2 (.s 41) 5 true), .i (.mov 43 (.s 1)), .i (.call 45 125 false [(.s 42), (.s 43)]), .i (.mov 1 (.s 44))]) (.seq (.seq (.ops [.i (.mov 45 (.s 1)), .i (.bin 46 .lss (.s 45) (.c (.val false [.int .i64 0])))]) (.cond (.s 46) (.seq (.ops [.i (.mov 4 (.c (.val false [.int .i64 (-1)])))]) .ret) .skip)) (.seq (.ops [.i (.mov 47 (.s 1)), .i (.mov 4 (.s 47))]) .ret))))))))))))))))⟩
theorem k49 : cd 49 = some c49 := by kernel_rfl
theorem eq_Entry : EqOk cd 172 TEntry := by
  intro h ca cb va vb Sa Sb ha hb
  obtain ⟨avs, rfl, aq0⟩ := ha.st
  obtain ⟨av0, ar0, aS0, aT0, rfl, rfl, ah0, aq1⟩ := aq0.step
  obtain ⟨an0, ae0, rfl, rfl, alo0, ahi0⟩ := ah0.int
  obtain ⟨av1, ar1, aS1, aT1, rfl, rfl, ah1, aq2⟩ := aq1.step
  obtain ⟨an1, ae1, rfl, rfl, alo1, ahi1⟩ := ah1.int
  obtain ⟨av2, ar2, aS2, aT2, rfl, rfl, ah2, aq3⟩ := aq2.step
  obtain ⟨ac2, ae2⟩ := ah2.one rfl
  rw [ae2] at ah2
  obtain ⟨_, rfl, rfl⟩ := aq3
  have ahsz : ca.length = 3 := ha.size
  obtain ⟨bvs, rfl, bq0⟩ := hb.st
  obtain ⟨bv0, br0, bS0, bT0, rfl, rfl, bh0, bq1⟩ := bq0.step
  obtain ⟨bn0, be0, rfl, rfl, blo0, bhi0⟩ := bh0.int
  obtain ⟨bv1, br1, bS1, bT1, rfl, rfl, bh1, bq2⟩ := bq1.step
  obtain ⟨bn1, be1, rfl, rfl, blo1, bhi1⟩ := bh1.int
  obtain ⟨bv2, br2, bS2, bT2, rfl, rfl, bh2, bq3⟩ := bq2.step
  obtain ⟨bc2, be2⟩ := bh2.one rfl
  rw [be2] at bh2
  obtain ⟨_, rfl, rfl⟩ := bq3
  have bhsz : cb.length = 3 := hb.size
  simp only [Ty.size, Ty.sizes, Nat.reduceAdd, Nat.zero_add, List.drop_zero] at ae0 ae1 ae2 ahsz be0 be1 be2 bhsz
  refine WS_enter k172 rfl ?_
  simp (disch := omega) only [KC_eq, c172, ae0, ae1, ae2, ahsz, be0, be1, be2, bhsz, ifT, w64, RR, RP, Ty.agg, Ty.size, Ty.sizes, eq_self, ne_eq, not_true, not_false_iff, reduceCtorEq, List.length_cons, List.length_nil, decide_true, decide_false, true_and, and_true, ite_true, ite_false, PT.full, enter0, setAll, forget, Fr.set, Fr.get, PT.get, PT.set, kof, ai, ev, ev1, evp, b_add, b_sub, b_mul, b_quo, b_rem, b_eql, b_neq, b_lss, b_leq, b_gtr, b_geq, b_seql, b_sneq, setD, resV, resL, res1, args, List.take_zero, List.drop_zero, List.take_nil, List.take_succ_cons, List.drop_succ_cons, Nat.reduceAdd, Nat.reduceLeDiff, reduceIte, Bool.not_true, Bool.not_false, Bool.false_eq_true, CA_some, Option.some.injEq, Nat.zero_add, Nat.mul_one, Nat.add_zero, setL, List.set_cons_zero, List.set_cons_succ, fillC]
  refine BR_dec (fun hn => ?_) (fun hn => ?_)
  case refine_1 =>
    simp (disch := omega) only [KC_eq, c172, ae0, ae1, ae2, ahsz, be0, be1, be2, bhsz, ifT, w64, RR, RP, Ty.agg, Ty.size, Ty.sizes, eq_self, ne_eq, not_true, not_false_iff, reduceCtorEq, List.length_cons, List.length_nil, decide_true, decide_false, true_and, and_true, ite_true, ite_false, PT.full, enter0, setAll, forget, Fr.set, Fr.get, PT.get, PT.set, kof, ai, ev, ev1, evp, b_add, b_sub, b_mul, b_quo, b_rem, b_eql, b_neq, b_lss, b_leq, b_gtr, b_geq, b_seql, b_sneq, setD, resV, resL, res1, args, List.take_zero, List.drop_zero, List.take_nil, List.take_succ_cons, List.drop_succ_cons, Nat.reduceAdd, Nat.reduceLeDiff, reduceIte, Bool.not_true, Bool.not_false, Bool.false_eq_true, CA_some, Option.some.injEq, Nat.zero_add, Nat.mul_one, Nat.add_zero, setL, List.set_cons_zero, List.set_cons_succ, fillC]
    simp [hn]
  have d0 : an0 = bn0 := by omega
  subst d0
  simp (disch := omega) only [KC_eq, c172, ae0, ae1, ae2, ahsz, be0, be1, be2, bhsz, ifT, w64, RR, RP, Ty.agg, Ty.size, Ty.sizes, eq_self, ne_eq, not_true, not_false_iff, reduceCtorEq, List.length_cons, List.length_nil, decide_true, decide_false, true_and, and_true, ite_true, ite_false, PT.full, enter0, setAll, forget, Fr.set, Fr.get, PT.get, PT.set, kof, ai, ev, ev1, evp, b_add, b_sub, b_mul, b_quo, b_rem, b_eql, b_neq, b_lss, b_leq, b_gtr, b_geq, b_seql, b_sneq, setD, resV, resL, res1, args, List.take_zero, List.drop_zero, List.take_nil, List.take_succ_cons, List.drop_succ_cons, Nat.reduceAdd, Nat.reduceLeDiff, reduceIte, Bool.not_true, Bool.not_false, Bool.false_eq_true, CA_some, Option.some.injEq, Nat.zero_add, Nat.mul_one, Nat.add_zero, setL, List.set_cons_zero, List.set_cons_succ, fillC]
  refine BR_dec (fun hn => ?_) (fun hn => ?_)
  case refine_1 =>
    simp (disch := omega) only [KC_eq, c172, ae0, ae1, ae2, ahsz, be0, be1, be2, bhsz, ifT, w64, RR, RP, Ty.agg, Ty.size, Ty.sizes, eq_self, ne_eq, not_true, not_false_iff, reduceCtorEq, List.length_cons, List.length_nil, decide_true, decide_false, true_and, and_true, ite_true, ite_false, PT.full, enter0, setAll, forget, Fr.set, Fr.get, PT.get, PT.set, kof, ai, ev, ev1, evp, b_add, b_sub, b_mul, b_quo, b_rem, b_eql, b_neq, b_lss, b_leq, b_gtr, b_geq, b_seql, b_sneq, setD, resV, resL, res1, args, List.take_zero, List.drop_zero, List.take_nil, List.take_succ_cons, List.drop_succ_cons, Nat.reduceAdd, Nat.reduceLeDiff, reduceIte, Bool.not_true, Bool.not_false, Bool.false_eq_true, CA_some, Option.some.injEq, Nat.zero_add, Nat.mul_one, Nat.add_zero, setL, List.set_cons_zero, List.set_cons_succ, fillC]
    simp [hn]
  have d1 : an1 = bn1 := by omega
  subst d1
  simp (disch := omega) only [KC_eq, c172, ae0, ae1, ae2, ahsz, be0, be1, be2, bhsz, ifT, w64, RR, RP, Ty.agg, Ty.size, Ty.sizes, eq_self, ne_eq, not_true, not_false_iff, reduceCtorEq, List.length_cons, List.length_nil, decide_true, decide_false, true_and, and_true, ite_true, ite_false, PT.full, enter0, setAll, forget, Fr.set, Fr.get, PT.get, PT.set, kof, ai, ev, ev1, evp, b_add, b_sub, b_mul, b_quo, b_rem, b_eql, b_neq, b_lss, b_leq, b_gtr, b_geq, b_seql, b_sneq, setD, resV, resL, res1, args, List.take_zero, List.drop_zero, List.take_nil, List.take_succ_cons, List.drop_succ_cons, Nat.reduceAdd, Nat.reduceLeDiff, reduceIte, Bool.not_true, Bool.not_false, Bool.false_eq_true, CA_some, Option.some.injEq, Nat.zero_add, Nat.mul_one, Nat.add_zero, setL, List.set_cons_zero, List.set_cons_succ, fillC]
  refine EqOk.go eq_ByteS ah2 bh2 (fun d2 => ?_) (fun d2 => ?_)
  case refine_2 =>
    simp (disch := omega) only [KC_eq, c172, ae0, ae1, ae2, ahsz, be0, be1, be2, bhsz, ifT, w64, RR, RP, Ty.agg, Ty.size, Ty.sizes, eq_self, ne_eq, not_true, not_false_iff, reduceCtorEq, List.length_cons, List.length_nil, decide_true, decide_false, true_and, and_true, ite_true, ite_false, PT.full, enter0, setAll, forget, Fr.set, Fr.get, PT.get, PT.set, kof, ai, ev, ev1, evp, b_add, b_sub, b_mul, b_quo, b_rem, b_eql, b_neq, b_lss, b_leq, b_gtr, b_geq, b_seql, b_sneq, setD, resV, resL, res1, args, List.take_zero, List.drop_zero, List.take_nil, List.take_succ_cons, List.drop_succ_cons, Nat.reduceAdd, Nat.reduceLeDiff, reduceIte, Bool.not_true, Bool.not_false, Bool.false_eq_true, CA_some, Option.some.injEq, Nat.zero_add, Nat.mul_one, Nat.add_zero, setL, List.set_cons_zero, List.set_cons_succ, fillC]
    simp [d2]
  subst d2
  simp (disch := omega) only [KC_eq, c172, ae0, ae1, ae2, ahsz, be0, be1, be2, bhsz, ifT, w64, RR, RP, Ty.agg, Ty.size, Ty.sizes, eq_self, ne_eq, not_true, not_false_iff, reduceCtorEq, List.length_cons, List.length_nil, decide_true, decide_false, true_and, and_true, ite_true, ite_false, PT.full, enter0, setAll, forget, Fr.set, Fr.get, PT.get, PT.set, kof, ai, ev, ev1, evp, b_add, b_sub, b_mul, b_quo, b_rem, b_eql, b_neq, b_lss, b_leq, b_gtr, b_geq, b_seql, b_sneq, setD, resV, resL, res1, args, List.take_zero, List.drop_zero, List.take_nil, List.take_succ_cons, List.drop_succ_cons, Nat.reduceAdd, Nat.reduceLeDiff, reduceIte, Bool.not_true, Bool.not_false, Bool.false_eq_true, CA_some, Option.some.injEq, Nat.zero_add, Nat.mul_one, Nat.add_zero, setL, List.set_cons_zero, List.set_cons_succ, fillC]
theorem eq_EntryS : EqOk cd 130 (.sl TEntry) := eq_sl k130 eq_Entry
theorem eq_HeadS : EqOk cd 92 (.sl THead) := eq_sl k92 eq_Head
theorem eq_Vote : EqOk cd 115 TVote := by
  intro h ca cb va vb Sa Sb ha hb
  obtain ⟨avs, rfl, aq0⟩ := ha.st
  obtain ⟨av0, ar0, aS0, aT0, rfl, rfl, ah0, aq1⟩ := aq0.step
  obtain ⟨an0, ae0, rfl, rfl, alo0, ahi0⟩ := ah0.int
  obtain ⟨av1, ar1, aS1, aT1, rfl, rfl, ah1, aq2⟩ := aq1.step
  obtain ⟨an1, ae1, rfl, rfl, alo1, ahi1⟩ := ah1.int
  obtain ⟨av2, ar2, aS2, aT2, rfl, rfl, ah2, aq3⟩ := aq2.step
  obtain ⟨ac2, ae2⟩ := ah2.one rfl
  rw [ae2] at ah2
  obtain ⟨av3, ar3, aS3, aT3, rfl, rfl, ah3, aq4⟩ := aq3.step
  obtain ⟨an3, ae3, rfl, rfl, alo3, ahi3⟩ := ah3.int
  obtain ⟨av4, ar4, aS4, aT4, rfl, rfl, ah4, aq5⟩ := aq4.step
  obtain ⟨ac4, ae4⟩ := ah4.one rfl
  rw [ae4] at ah4
  obtain ⟨_, rfl, rfl⟩ := aq5
  have ahsz : ca.length = 5 := ha.size
  obtain ⟨bvs, rfl, bq0⟩ := hb.st
  obtain ⟨bv0, br0, bS0, bT0, rfl, rfl, bh0, bq1⟩ := bq0.step
  obtain ⟨bn0, be0, rfl, rfl, blo0, bhi0⟩ := bh0.int
  obtain ⟨bv1, br1, bS1, bT1, rfl, rfl, bh1, bq2⟩ := bq1.step
  obtain ⟨bn1, be1, rfl, rfl, blo1, bhi1⟩ := bh1.int
  obtain ⟨bv2, br2, bS2, bT2, rfl, rfl, bh2, bq3⟩ := bq2.step
  obtain ⟨bc2, be2⟩ := bh2.one rfl
  rw [be2] at bh2
  obtain ⟨bv3, br3, bS3, bT3, rfl, rfl, bh3, bq4⟩ := bq3.step
  obtain ⟨bn3, be3, rfl, rfl, blo3, bhi3⟩ := bh3.int
  obtain ⟨bv4, br4, bS4, bT4, rfl, rfl, bh4, bq5⟩ := bq4.step
  obtain ⟨bc4, be4⟩ := bh4.one rfl
  rw [be4] at bh4
  obtain ⟨_, rfl, rfl⟩ := bq5
  have bhsz : cb.length = 5 := hb.size
  simp only [Ty.size, Ty.sizes, Nat.reduceAdd, Nat.zero_add, List.drop_zero] at ae0 ae1 ae2 ae3 ae4 ahsz be0 be1 be2 be3 be4 bhsz
  refine WS_enter k115 rfl ?_
  simp (disch := omega) only [KC_eq, c115, ae0, ae1, ae2, ae3, ae4, ahsz, be0, be1, be2, be3, be4, bhsz, ifT, w64, RR, RP, Ty.agg, Ty.size, Ty.sizes, eq_self, ne_eq, not_true, not_false_iff, reduceCtorEq, List.length_cons, List.length_nil, decide_true, decide_false, true_and, and_true, ite_true, ite_false, PT.full, enter0, setAll, forget, Fr.set, Fr.get, PT.get, PT.set, kof, ai, ev, ev1, evp, b_add, b_sub, b_mul, b_quo, b_rem, b_eql, b_neq, b_lss, b_leq, b_gtr, b_geq, b_seql, b_sneq, setD, resV, resL, res1, args, List.take_zero, List.drop_zero, List.take_nil, List.take_succ_cons, List.drop_succ_cons, Nat.reduceAdd, Nat.reduceLeDiff, reduceIte, Bool.not_true, Bool.not_false, Bool.false_eq_true, CA_some, Option.some.injEq, Nat.zero_add, Nat.mul_one, Nat.add_zero, setL, List.set_cons_zero, List.set_cons_succ, fillC]
  refine BR_dec (fun hn => ?_) (fun hn => ?_)
  case refine_1 =>
    simp (disch := omega) only [KC_eq, c115, ae0, ae1, ae2, ae3, ae4, ahsz, be0, be1, be2, be3, be4, bhsz, ifT, w64, RR, RP, Ty.agg, Ty.size, Ty.sizes, eq_self, ne_eq, not_true, not_false_iff, reduceCtorEq, List.length_cons, List.length_nil, decide_true, decide_false, true_and, and_true, ite_true, ite_false, PT.full, enter0, setAll, forget, Fr.set, Fr.get, PT.get, PT.set, kof, ai, ev, ev1, evp, b_add, b_sub, b_mul, b_quo, b_rem, b_eql, b_neq, b_lss, b_leq, b_gtr, b_geq, b_seql, b_sneq, setD, resV, resL, res1, args, List.take_zero, List.drop_zero, List.take_nil, List.take_succ_cons, List.drop_succ_cons, Nat.reduceAdd, Nat.reduceLeDiff, reduceIte, Bool.not_true, Bool.not_false, Bool.false_eq_true, CA_some, Option.some.injEq, Nat.zero_add, Nat.mul_one, Nat.add_zero, setL, List.set_cons_zero, List.set_cons_succ, fillC]
    simp [hn]
  have d0 : an0 = bn0 := by omega
  subst d0
  simp (disch := omega) only [KC_eq, c115, ae0, ae1, ae2, ae3, ae4, ahsz, be0, be1, be2, be3, be4, bhsz, ifT, w64, RR, RP, Ty.agg, Ty.size, Ty.sizes, eq_self, ne_eq, not_true, not_false_iff, reduceCtorEq, List.length_cons, List.length_nil, decide_true, decide_false, true_and, and_true, ite_true, ite_false, PT.full, enter0, setAll, forget, Fr.set, Fr.get, PT.get, PT.set, kof, ai, ev, ev1, evp, b_add, b_sub, b_mul, b_quo, b_rem, b_eql, b_neq, b_lss, b_leq, b_gtr, b_geq, b_seql, b_sneq, setD, resV, resL, res1, args, List.take_zero, List.drop_zero, List.take_nil, List.take_succ_cons, List.drop_succ_cons, Nat.reduceAdd, Nat.reduceLeDiff, reduceIte, Bool.not_true, Bool.not_false, Bool.false_eq_true, CA_some, Option.some.injEq, Nat.zero_add, Nat.mul_one, Nat.add_zero, setL, List.set_cons_zero, List.set_cons_succ, fillC]
  refine BR_dec (fun hn => ?_) (fun hn => ?_)
  case refine_1 =>
    simp (disch := omega) only [KC_eq, c115, ae0, ae1, ae2, ae3, ae4, ahsz, be0, be1, be2, be3, be4, bhsz, ifT, w64, RR, RP, Ty.agg, Ty.size, Ty.sizes, eq_self, ne_eq, not_true, not_false_iff, reduceCtorEq, List.length_cons, List.length_nil, decide_true, decide_false, true_and, and_true, ite_true, ite_false, PT.full, enter0, setAll, forget, Fr.set, Fr.get, PT.get, PT.set, kof, ai, ev, ev1, evp, b_add, b_sub, b_mul, b_quo, b_rem, b_eql, b_neq, b_lss, b_leq, b_gtr, b_geq, b_seql, b_sneq, setD, resV, resL, res1, args, List.take_zero, List.drop_zero, List.take_nil, List.take_succ_cons, List.drop_succ_cons, Nat.reduceAdd, Nat.reduceLeDiff, reduceIte, Bool.not_true, Bool.not_false, Bool.false_eq_true, CA_some, Option.some.injEq, Nat.zero_add, Nat.mul_one, Nat.add_zero, setL, List.set_cons_zero, List.set_cons_succ, fillC]
    simp [hn]
  have d1 : an1 = bn1 := by omega
  subst d1
  simp (disch := omega) only [KC_eq, c115, ae0, ae1, ae2, ae3, ae4, ahsz, be0, be1, be2, be3, be4, bhsz, ifT, w64, RR, RP, Ty.agg, Ty.size, Ty.sizes, eq_self, ne_eq, not_true, not_false_iff, reduceCtorEq, List.length_cons, List.length_nil, decide_true, decide_false, true_and, and_true, ite_true, ite_false, PT.full, enter0, setAll, forget, Fr.set, Fr.get, PT.get, PT.set, kof, ai, ev, ev1, evp, b_add, b_sub, b_mul, b_quo, b_rem, b_eql, b_neq, b_lss, b_leq, b_gtr, b_geq, b_seql, b_sneq, setD, resV, resL, res1, args, List.take_zero, List.drop_zero, List.take_nil, List.take_succ_cons, List.drop_succ_cons, Nat.reduceAdd, Nat.reduceLeDiff, reduceIte, Bool.not_true, Bool.not_false, Bool.false_eq_true, CA_some, Option.some.injEq, Nat.zero_add, Nat.mul_one, Nat.add_zero, setL, List.set_cons_zero, List.set_cons_succ, fillC]
  refine EqOk.go eq_ByteS ah2 bh2 (fun d2 => ?_) (fun d2 => ?_)
  case refine_2 =>
    simp (disch := omega) only [KC_eq, c115, ae0, ae1, ae2, ae3, ae4, ahsz, be0, be1, be2, be3, be4, bhsz, ifT, w64, RR, RP, Ty.agg, Ty.size, Ty.sizes, eq_self, ne_eq, not_true, not_false_iff, reduceCtorEq, List.length_cons, List.length_nil, decide_true, decide_false, true_and, and_true, ite_true, ite_false, PT.full, enter0, setAll, forget, Fr.set, Fr.get, PT.get, PT.set, kof, ai, ev, ev1, evp, b_add, b_sub, b_mul, b_quo, b_rem, b_eql, b_neq, b_lss, b_leq, b_gtr, b_geq, b_seql, b_sneq, setD, resV, resL, res1, args, List.take_zero, List.drop_zero, List.take_nil, List.take_succ_cons, List.drop_succ_cons, Nat.reduceAdd, Nat.reduceLeDiff, reduceIte, Bool.not_true, Bool.not_false, Bool.false_eq_true, CA_some, Option.some.injEq, Nat.zero_add, Nat.mul_one, Nat.add_zero, setL, List.set_cons_zero, List.set_cons_succ, fillC]
    simp [d2]
  subst d2
  simp (disch := omega) only [KC_eq, c115, ae0, ae1, ae2, ae3, ae4, ahsz, be0, be1, be2, be3, be4, bhsz, ifT, w64, RR, RP, Ty.agg, Ty.size, Ty.sizes, eq_self, ne_eq, not_true, not_false_iff, reduceCtorEq, List.length_cons, List.length_nil, decide_true, decide_false, true_and, and_true, ite_true, ite_false, PT.full, enter0, setAll, forget, Fr.set, Fr.get, PT.get, PT.set, kof, ai, ev, ev1, evp, b_add, b_sub, b_mul, b_quo, b_rem, b_eql, b_neq, b_lss, b_leq, b_gtr, b_geq, b_seql, b_sneq, setD, resV, resL, res1, args, List.take_zero, List.drop_zero, List.take_nil, List.take_succ_cons, List.drop_succ_cons, Nat.reduceAdd, Nat.reduceLeDiff, reduceIte, Bool.not_true, Bool.not_false, Bool.false_eq_true, CA_some, Option.some.injEq, Nat.zero_add, Nat.mul_one, Nat.add_zero, setL, List.set_cons_zero, List.set_cons_succ, fillC]
  refine BR_dec (fun hn => ?_) (fun hn => ?_)
  case refine_1 =>
    simp (disch := omega) only [KC_eq, c115, ae0, ae1, ae2, ae3, ae4, ahsz, be0, be1, be2, be3, be4, bhsz, ifT, w64, RR, RP, Ty.agg, Ty.size, Ty.sizes, eq_self, ne_eq, not_true, not_false_iff, reduceCtorEq, List.length_cons, List.length_nil, decide_true, decide_false, true_and, and_true, ite_true, ite_false, PT.full, enter0, setAll, forget, Fr.set, Fr.get, PT.get, PT.set, kof, ai, ev, ev1, evp, b_add, b_sub, b_mul, b_quo, b_rem, b_eql, b_neq, b_lss, b_leq, b_gtr, b_geq, b_seql, b_sneq, setD, resV, resL, res1, args, List.take_zero, List.drop_zero, List.take_nil, List.take_succ_cons, List.drop_succ_cons, Nat.reduceAdd, Nat.reduceLeDiff, reduceIte, Bool.not_true, Bool.not_false, Bool.false_eq_true, CA_some, Option.some.injEq, Nat.zero_add, Nat.mul_one, Nat.add_zero, setL, List.set_cons_zero, List.set_cons_succ, fillC]
    simp [hn]
  have d3 : an3 = bn3 := by omega
  subst d3
  simp (disch := omega) only [KC_eq, c115, ae0, ae1, ae2, ae3, ae4, ahsz, be0, be1, be2, be3, be4, bhsz, ifT, w64, RR, RP, Ty.agg, Ty.size, Ty.sizes, eq_self, ne_eq, not_true, not_false_iff, reduceCtorEq, List.length_cons, List.length_nil, decide_true, decide_false, true_and, and_true, ite_true, ite_false, PT.full, enter0, setAll, forget, Fr.set, Fr.get, PT.get, PT.set, kof, ai, ev, ev1, evp, b_add, b_sub, b_mul, b_quo, b_rem, b_eql, b_neq, b_lss, b_leq, b_gtr, b_geq, b_seql, b_sneq, setD, resV, resL, res1, args, List.take_zero, List.drop_zero, List.take_nil, List.take_succ_cons, List.drop_succ_cons, Nat.reduceAdd, Nat.reduceLeDiff, reduceIte, Bool.not_true, Bool.not_false, Bool.false_eq_true, CA_some, Option.some.injEq, Nat.zero_add, Nat.mul_one, Nat.add_zero, setL, List.set_cons_zero, List.set_cons_succ, fillC]
  refine EqOk.go eq_ByteS ah4 bh4 (fun d4 => ?_) (fun d4 => ?_)
  case refine_2 =>
    simp (disch := omega) only [KC_eq, c115, ae0, ae1, ae2, ae3, ae4, ahsz, be0, be1, be2, be3, be4, bhsz, ifT, w64, RR, RP, Ty.agg, Ty.size, Ty.sizes, eq_self, ne_eq, not_true, not_false_iff, reduceCtorEq, List.length_cons, List.length_nil, decide_true, decide_false, true_and, and_true, ite_true, ite_false, PT.full, enter0, setAll, forget, Fr.set, Fr.get, PT.get, PT.set, kof, ai, ev, ev1, evp, b_add, b_sub, b_mul, b_quo, b_rem, b_eql, b_neq, b_lss, b_leq, b_gtr, b_geq, b_seql, b_sneq, setD, resV, resL, res1, args, List.take_zero, List.drop_zero, List.take_nil, List.take_succ_cons, List.drop_succ_cons, Nat.reduceAdd, Nat.reduceLeDiff, reduceIte, Bool.not_true, Bool.not_false, Bool.false_eq_true, CA_some, Option.some.injEq, Nat.zero_add, Nat.mul_one, Nat.add_zero, setL, List.set_cons_zero, List.set_cons_succ, fillC]
    simp [d4]
  subst d4
  simp (disch := omega) only [KC_eq, c115, ae0, ae1, ae2, ae3, ae4, ahsz, be0, be1, be2, be3, be4, bhsz, ifT, w64, RR, RP, Ty.agg, Ty.size, Ty.sizes, eq_self, ne_eq, not_true, not_false_iff, reduceCtorEq, List.length_cons, List.length_nil, decide_true, decide_false, true_and, and_true, ite_true, ite_false, PT.full, enter0, setAll, forget, Fr.set, Fr.get, PT.get, PT.set, kof, ai, ev, ev1, evp, b_add, b_sub, b_mul, b_quo, b_rem, b_eql, b_neq, b_lss, b_leq, b_gtr, b_geq, b_seql, b_sneq, setD, resV, resL, res1, args, List.take_zero, List.drop_zero, List.take_nil, List.take_succ_cons, List.drop_succ_cons, Nat.reduceAdd, Nat.reduceLeDiff, reduceIte, Bool.not_true, Bool.not_false, Bool.false_eq_true, CA_some, Option.some.injEq, Nat.zero_add, Nat.mul_one, Nat.add_zero, setL, List.set_cons_zero, List.set_cons_succ, fillC]
theorem mk_Vote : MkOk cd 119 TVote := by
  intro h cs v S k hv ho hk
  obtain ⟨vs, rfl, q0⟩ := hv.st
  obtain ⟨v0, r0, S0, T0, rfl, rfl, h0, q1⟩ := q0.step
  obtain ⟨n0, e0, rfl, rfl, lo0, hi0⟩ := h0.int
  obtain ⟨v1, r1, S1, T1, rfl, rfl, h1, q2⟩ := q1.step
  obtain ⟨n1, e1, rfl, rfl, lo1, hi1⟩ := h1.int
  obtain ⟨v2, r2, S2, T2, rfl, rfl, h2, q3⟩ := q2.step
  obtain ⟨c2, e2⟩ := h2.one rfl
  rw [e2] at h2
  obtain ⟨v3, r3, S3, T3, rfl, rfl, h3, q4⟩ := q3.step
  obtain ⟨n3, e3, rfl, rfl, lo3, hi3⟩ := h3.int
  obtain ⟨v4, r4, S4, T4, rfl, rfl, h4, q5⟩ := q4.step
  obtain ⟨c4, e4⟩ := h4.one rfl
  rw [e4] at h4
  obtain ⟨_, rfl, rfl⟩ := q5
  have hsz : cs.length = 5 := hv.size
  simp only [Ty.size, Ty.sizes, Nat.reduceAdd, Nat.zero_add, List.drop_zero] at e0 e1 e2 e3 e4 hsz
  have hcn : cnT TVote (.r [.i n0, .i n1, v2, .i n3, v4]) = (0 + (0 + (cnT (.sl (.int .u8)) v2 + (0 + (cnT (.sl (.int .u8)) v4 + 0))))) := rfl
  have hmk : mkT TVote (.r [.i n0, .i n1, v2, .i n3, v4]) k = .r [.i n0, .i n1, mkT (.sl (.int .u8)) v2 (k), .i n3, mkT (.sl (.int .u8)) v4 (k + cnT (.sl (.int .u8)) v2)] := rfl
  rw [hmk]
  rw [hcn] at hk ⊢
  simp only [List.nil_append, List.append_nil] at ho ⊢
  obtain ⟨o2, ho2, x2, xx2⟩ := ho.split
  have o4 := ho2
  refine WS_enter k119 rfl ?_
  simp (disch := omega) only [KC_eq, c119, e0, e1, e2, e3, e4, hsz, ifT, w64, RR, RP, Ty.agg, Ty.size, Ty.sizes, eq_self, ne_eq, not_true, not_false_iff, reduceCtorEq, List.length_cons, List.length_nil, decide_true, decide_false, true_and, and_true, ite_true, ite_false, PT.full, enter0, setAll, forget, Fr.set, Fr.get, PT.get, PT.set, kof, ai, ev, ev1, evp, b_add, b_sub, b_mul, b_quo, b_rem, b_eql, b_neq, b_lss, b_leq, b_gtr, b_geq, b_seql, b_sneq, setD, resV, resL, res1, args, List.take_zero, List.drop_zero, List.take_nil, List.take_succ_cons, List.drop_succ_cons, Nat.reduceAdd, Nat.reduceLeDiff, reduceIte, Bool.not_true, Bool.not_false, Bool.false_eq_true, CA_some, Option.some.injEq, Nat.zero_add, Nat.mul_one, Nat.add_zero, setL, List.set_cons_zero, List.set_cons_succ, fillC]
  refine MkOk.go mk_ByteS h2 o2 (k := k) (by omega) (fun g2 w2 z2 => ?_)
  simp (disch := omega) only [KC_eq, c119, e0, e1, e2, e3, e4, hsz, ifT, w64, RR, RP, Ty.agg, Ty.size, Ty.sizes, eq_self, ne_eq, not_true, not_false_iff, reduceCtorEq, List.length_cons, List.length_nil, decide_true, decide_false, true_and, and_true, ite_true, ite_false, PT.full, enter0, setAll, forget, Fr.set, Fr.get, PT.get, PT.set, kof, ai, ev, ev1, evp, b_add, b_sub, b_mul, b_quo, b_rem, b_eql, b_neq, b_lss, b_leq, b_gtr, b_geq, b_seql, b_sneq, setD, resV, resL, res1, args, List.take_zero, List.drop_zero, List.take_nil, List.take_succ_cons, List.drop_succ_cons, Nat.reduceAdd, Nat.reduceLeDiff, reduceIte, Bool.not_true, Bool.not_false, Bool.false_eq_true, CA_some, Option.some.injEq, Nat.zero_add, Nat.mul_one, Nat.add_zero, setL, List.set_cons_zero, List.set_cons_succ, fillC]
  refine MkOk.go mk_ByteS (h4.wrote w2 (fun i hi => xx2 i (by simp [hi]))) (w2.ownd o4) (k := k + cnT (.sl (.int .u8)) v2) (by omega) (fun g4 w4 z4 => ?_)
  simp (disch := omega) only [KC_eq, c119, e0, e1, e2, e3, e4, hsz, ifT, w64, RR, RP, Ty.agg, Ty.size, Ty.sizes, eq_self, ne_eq, not_true, not_false_iff, reduceCtorEq, List.length_cons, List.length_nil, decide_true, decide_false, true_and, and_true, ite_true, ite_false, PT.full, enter0, setAll, forget, Fr.set, Fr.get, PT.get, PT.set, kof, ai, ev, ev1, evp, b_add, b_sub, b_mul, b_quo, b_rem, b_eql, b_neq, b_lss, b_leq, b_gtr, b_geq, b_seql, b_sneq, setD, resV, resL, res1, args, List.take_zero, List.drop_zero, List.take_nil, List.take_succ_cons, List.drop_succ_cons, Nat.reduceAdd, Nat.reduceLeDiff, reduceIte, Bool.not_true, Bool.not_false, Bool.false_eq_true, CA_some, Option.some.injEq, Nat.zero_add, Nat.mul_one, Nat.add_zero, setL, List.set_cons_zero, List.set_cons_succ, fillC]
  have fin : Rs g4 [(.int .i64), (.int .i64), (.sl (.int .u8)), (.int .i64), (.sl (.int .u8))] (cs.drop 0) [.i n0, .i n1, mkT (.sl (.int .u8)) v2 (k), .i n3, mkT (.sl (.int .u8)) v4 (k + cnT (.sl (.int .u8)) v2)] _ := (Rs.unstep (o := 0) (Rp.int_at e0 lo0 hi0) (Rs.unstep (o := 1) (Rp.int_at e1 lo1 hi1) (Rs.unstep (o := 2) (Rp.cs_at e2 (z2.wrote w4 (fun i hi hn => x2 i hi (by simp [hn])))) (Rs.unstep (o := 3) (Rp.int_at e3 lo3 hi3) (Rs.unstep (o := 4) (Rp.cs_at e4 z4) (Rs.fin (Nat.le_of_eq hsz)))))))
  simp only [List.nil_append, List.append_nil, List.drop_zero] at fin
  have wr := (((Wrote.refl ho.2).more w2 (fun i hi => by simp [hi])).more w4 (fun i hi => by simp [hi]))
  first
    | exact ⟨wr, _, rfl, fin⟩
    | (refine ⟨?_, wr, _, rfl, fin⟩
       congr 3
       omega)
theorem hd_Vote : HdOk cd 121 TVote := by
  intro h cs v S k hT hv hk
  obtain ⟨h0_, cs0, S0_, hT⟩ := hT
  obtain ⟨wvs, rfl, wq0⟩ := hT.st
  obtain ⟨wv0, wr0, wS0, wT0, rfl, rfl, wh0, wq1⟩ := wq0.step
  obtain ⟨wn0, we0, rfl, rfl, wlo0, whi0⟩ := wh0.int
  obtain ⟨wv1, wr1, wS1, wT1, rfl, rfl, wh1, wq2⟩ := wq1.step
  obtain ⟨wn1, we1, rfl, rfl, wlo1, whi1⟩ := wh1.int
  obtain ⟨wv2, wr2, wS2, wT2, rfl, rfl, wh2, wq3⟩ := wq2.step
  obtain ⟨wc2, we2⟩ := wh2.one rfl
  rw [we2] at wh2
  obtain ⟨wv3, wr3, wS3, wT3, rfl, rfl, wh3, wq4⟩ := wq3.step
  obtain ⟨wn3, we3, rfl, rfl, wlo3, whi3⟩ := wh3.int
  obtain ⟨wv4, wr4, wS4, wT4, rfl, rfl, wh4, wq5⟩ := wq4.step
  obtain ⟨wc4, we4⟩ := wh4.one rfl
  rw [we4] at wh4
  obtain ⟨_, rfl, rfl⟩ := wq5
  have whsz : cs0.length = 5 := hT.size
  have hcn : cnT TVote (.r [.i wn0, .i wn1, wv2, .i wn3, wv4]) = (0 + (0 + (cnT (.sl (.int .u8)) wv2 + (0 + (cnT (.sl (.int .u8)) wv4 + 0))))) := rfl
  have hmk : mkT TVote (.r [.i wn0, .i wn1, wv2, .i wn3, wv4]) k = .r [.i wn0, .i wn1, mkT (.sl (.int .u8)) wv2 (k), .i wn3, mkT (.sl (.int .u8)) wv4 (k + cnT (.sl (.int .u8)) wv2)] := rfl
  rw [hmk] at hv
  rw [hcn] at hk ⊢
  obtain ⟨vs, hvs, q0⟩ := hv.st
  simp only [Tv.r.injEq] at hvs
  subst hvs
  obtain ⟨v0, r0, S0, T0, hv0, hS0, h0, q1⟩ := q0.step
  obtain ⟨rfl, rfl⟩ := List.cons.inj hv0
  obtain ⟨n0, e0, _, _, _, _⟩ := h0.int
  obtain ⟨v1, r1, S1, T1, hv1, hS1, h1, q2⟩ := q1.step
  obtain ⟨rfl, rfl⟩ := List.cons.inj hv1
  obtain ⟨n1, e1, _, _, _, _⟩ := h1.int
  obtain ⟨v2, r2, S2, T2, hv2, hS2, h2, q3⟩ := q2.step
  obtain ⟨rfl, rfl⟩ := List.cons.inj hv2
  obtain ⟨c2, e2⟩ := h2.one rfl
  rw [e2] at h2
  obtain ⟨v3, r3, S3, T3, hv3, hS3, h3, q4⟩ := q3.step
  obtain ⟨rfl, rfl⟩ := List.cons.inj hv3
  obtain ⟨n3, e3, _, _, _, _⟩ := h3.int
  obtain ⟨v4, r4, S4, T4, hv4, hS4, h4, q5⟩ := q4.step
  obtain ⟨rfl, rfl⟩ := List.cons.inj hv4
  obtain ⟨c4, e4⟩ := h4.one rfl
  rw [e4] at h4
  have hsz : cs.length = 5 := hv.size
  simp only [Ty.size, Ty.sizes, Nat.reduceAdd, Nat.zero_add, List.drop_zero] at e0 e1 e2 e3 e4 hsz
  refine WS_enter k121 rfl ?_
  simp (disch := omega) only [KC_eq, c121, e0, e1, e2, e3, e4, hsz, ifT, w64, RR, RP, Ty.agg, Ty.size, Ty.sizes, eq_self, ne_eq, not_true, not_false_iff, reduceCtorEq, List.length_cons, List.length_nil, decide_true, decide_false, true_and, and_true, ite_true, ite_false, PT.full, enter0, setAll, forget, Fr.set, Fr.get, PT.get, PT.set, kof, ai, ev, ev1, evp, b_add, b_sub, b_mul, b_quo, b_rem, b_eql, b_neq, b_lss, b_leq, b_gtr, b_geq, b_seql, b_sneq, setD, resV, resL, res1, args, List.take_zero, List.drop_zero, List.take_nil, List.take_succ_cons, List.drop_succ_cons, Nat.reduceAdd, Nat.reduceLeDiff, reduceIte, Bool.not_true, Bool.not_false, Bool.false_eq_true, CA_some, Option.some.injEq, Nat.zero_add, Nat.mul_one, Nat.add_zero, setL, List.set_cons_zero, List.set_cons_succ, fillC]
  refine HdOk.go hd_ByteS ⟨_, _, _, wh2⟩ h2 (k := k) (by omega) ?_
  simp (disch := omega) only [KC_eq, c121, e0, e1, e2, e3, e4, hsz, ifT, w64, RR, RP, Ty.agg, Ty.size, Ty.sizes, eq_self, ne_eq, not_true, not_false_iff, reduceCtorEq, List.length_cons, List.length_nil, decide_true, decide_false, true_and, and_true, ite_true, ite_false, PT.full, enter0, setAll, forget, Fr.set, Fr.get, PT.get, PT.set, kof, ai, ev, ev1, evp, b_add, b_sub, b_mul, b_quo, b_rem, b_eql, b_neq, b_lss, b_leq, b_gtr, b_geq, b_seql, b_sneq, setD, resV, resL, res1, args, List.take_zero, List.drop_zero, List.take_nil, List.take_succ_cons, List.drop_succ_cons, Nat.reduceAdd, Nat.reduceLeDiff, reduceIte, Bool.not_true, Bool.not_false, Bool.false_eq_true, CA_some, Option.some.injEq, Nat.zero_add, Nat.mul_one, Nat.add_zero, setL, List.set_cons_zero, List.set_cons_succ, fillC]
  refine BR_dec (fun hn => absurd hn (by omega)) (fun hn => ?_)
  simp (disch := omega) only [KC_eq, c121, e0, e1, e2, e3, e4, hsz, ifT, w64, RR, RP, Ty.agg, Ty.size, Ty.sizes, eq_self, ne_eq, not_true, not_false_iff, reduceCtorEq, List.length_cons, List.length_nil, decide_true, decide_false, true_and, and_true, ite_true, ite_false, PT.full, enter0, setAll, forget, Fr.set, Fr.get, PT.get, PT.set, kof, ai, ev, ev1, evp, b_add, b_sub, b_mul, b_quo, b_rem, b_eql, b_neq, b_lss, b_leq, b_gtr, b_geq, b_seql, b_sneq, setD, resV, resL, res1, args, List.take_zero, List.drop_zero, List.take_nil, List.take_succ_cons, List.drop_succ_cons, Nat.reduceAdd, Nat.reduceLeDiff, reduceIte, Bool.not_true, Bool.not_false, Bool.false_eq_true, CA_some, Option.some.injEq, Nat.zero_add, Nat.mul_one, Nat.add_zero, setL, List.set_cons_zero, List.set_cons_succ, fillC]
  refine HdOk.go hd_ByteS ⟨_, _, _, wh4⟩ h4 (k := k + cnT (.sl (.int .u8)) wv2) (by omega) ?_
  simp (disch := omega) only [KC_eq, c121, e0, e1, e2, e3, e4, hsz, ifT, w64, RR, RP, Ty.agg, Ty.size, Ty.sizes, eq_self, ne_eq, not_true, not_false_iff, reduceCtorEq, List.length_cons, List.length_nil, decide_true, decide_false, true_and, and_true, ite_true, ite_false, PT.full, enter0, setAll, forget, Fr.set, Fr.get, PT.get, PT.set, kof, ai, ev, ev1, evp, b_add, b_sub, b_mul, b_quo, b_rem, b_eql, b_neq, b_lss, b_leq, b_gtr, b_geq, b_seql, b_sneq, setD, resV, resL, res1, args, List.take_zero, List.drop_zero, List.take_nil, List.take_succ_cons, List.drop_succ_cons, Nat.reduceAdd, Nat.reduceLeDiff, reduceIte, Bool.not_true, Bool.not_false, Bool.false_eq_true, CA_some, Option.some.injEq, Nat.zero_add, Nat.mul_one, Nat.add_zero, setL, List.set_cons_zero, List.set_cons_succ, fillC]
  refine BR_dec (fun hn => absurd hn (by omega)) (fun hn => ?_)
  simp (disch := omega) only [KC_eq, c121, e0, e1, e2, e3, e4, hsz, ifT, w64, RR, RP, Ty.agg, Ty.size, Ty.sizes, eq_self, ne_eq, not_true, not_false_iff, reduceCtorEq, List.length_cons, List.length_nil, decide_true, decide_false, true_and, and_true, ite_true, ite_false, PT.full, enter0, setAll, forget, Fr.set, Fr.get, PT.get, PT.set, kof, ai, ev, ev1, evp, b_add, b_sub, b_mul, b_quo, b_rem, b_eql, b_neq, b_lss, b_leq, b_gtr, b_geq, b_seql, b_sneq, setD, resV, resL, res1, args, List.take_zero, List.drop_zero, List.take_nil, List.take_succ_cons, List.drop_succ_cons, Nat.reduceAdd, Nat.reduceLeDiff, reduceIte, Bool.not_true, Bool.not_false, Bool.false_eq_true, CA_some, Option.some.injEq, Nat.zero_add, Nat.mul_one, Nat.add_zero, setL, List.set_cons_zero, List.set_cons_succ, fillC]
  all_goals congr 3
  all_goals omega
theorem eq_Block : EqOk cd 116 TBlock := by
  intro h ca cb va vb Sa Sb ha hb
  obtain ⟨avs, rfl, aq0⟩ := ha.st
  obtain ⟨av0, ar0, aS0, aT0, rfl, rfl, ah0, aq1⟩ := aq0.step
  obtain ⟨av1, ar1, aS1, aT1, rfl, rfl, ah1, aq2⟩ := aq1.step
  obtain ⟨ac1, ae1⟩ := ah1.one rfl
  rw [ae1] at ah1
  obtain ⟨_, rfl, rfl⟩ := aq2
  have ahsz : ca.length = 11 := ha.size
  obtain ⟨bvs, rfl, bq0⟩ := hb.st
  obtain ⟨bv0, br0, bS0, bT0, rfl, rfl, bh0, bq1⟩ := bq0.step
  obtain ⟨bv1, br1, bS1, bT1, rfl, rfl, bh1, bq2⟩ := bq1.step
  obtain ⟨bc1, be1⟩ := bh1.one rfl
  rw [be1] at bh1
  obtain ⟨_, rfl, rfl⟩ := bq2
  have bhsz : cb.length = 11 := hb.size
  simp only [Ty.size, Ty.sizes, Nat.reduceAdd, Nat.zero_add, List.drop_zero] at ae1 ahsz be1 bhsz ah0 bh0
  refine WS_enter k116 rfl ?_
  simp (disch := omega) only [KC_eq, c116, ae1, ahsz, be1, bhsz, ifT, w64, RR, RP, Ty.agg, Ty.size, Ty.sizes, eq_self, ne_eq, not_true, not_false_iff, reduceCtorEq, List.length_cons, List.length_nil, decide_true, decide_false, true_and, and_true, ite_true, ite_false, PT.full, enter0, setAll, forget, Fr.set, Fr.get, PT.get, PT.set, kof, ai, ev, ev1, evp, b_add, b_sub, b_mul, b_quo, b_rem, b_eql, b_neq, b_lss, b_leq, b_gtr, b_geq, b_seql, b_sneq, setD, resV, resL, res1, args, List.take_zero, List.drop_zero, List.take_nil, List.take_succ_cons, List.drop_succ_cons, Nat.reduceAdd, Nat.reduceLeDiff, reduceIte, Bool.not_true, Bool.not_false, Bool.false_eq_true, CA_some, Option.some.injEq, Nat.zero_add, Nat.mul_one, Nat.add_zero, setL, List.set_cons_zero, List.set_cons_succ, fillC]
  refine EqOk.go eq_Head ah0 bh0 (fun d0 => ?_) (fun d0 => ?_)
  case refine_2 =>
    simp (disch := omega) only [KC_eq, c116, ae1, ahsz, be1, bhsz, ifT, w64, RR, RP, Ty.agg, Ty.size, Ty.sizes, eq_self, ne_eq, not_true, not_false_iff, reduceCtorEq, List.length_cons, List.length_nil, decide_true, decide_false, true_and, and_true, ite_true, ite_false, PT.full, enter0, setAll, forget, Fr.set, Fr.get, PT.get, PT.set, kof, ai, ev, ev1, evp, b_add, b_sub, b_mul, b_quo, b_rem, b_eql, b_neq, b_lss, b_leq, b_gtr, b_geq, b_seql, b_sneq, setD, resV, resL, res1, args, List.take_zero, List.drop_zero, List.take_nil, List.take_succ_cons, List.drop_succ_cons, Nat.reduceAdd, Nat.reduceLeDiff, reduceIte, Bool.not_true, Bool.not_false, Bool.false_eq_true, CA_some, Option.some.injEq, Nat.zero_add, Nat.mul_one, Nat.add_zero, setL, List.set_cons_zero, List.set_cons_succ, fillC]
    simp [d0]
  subst d0
  simp (disch := omega) only [KC_eq, c116, ae1, ahsz, be1, bhsz, ifT, w64, RR, RP, Ty.agg, Ty.size, Ty.sizes, eq_self, ne_eq, not_true, not_false_iff, reduceCtorEq, List.length_cons, List.length_nil, decide_true, decide_false, true_and, and_true, ite_true, ite_false, PT.full, enter0, setAll, forget, Fr.set, Fr.get, PT.get, PT.set, kof, ai, ev, ev1, evp, b_add, b_sub, b_mul, b_quo, b_rem, b_eql, b_neq, b_lss, b_leq, b_gtr, b_geq, b_seql, b_sneq, setD, resV, resL, res1, args, List.take_zero, List.drop_zero, List.take_nil, List.take_succ_cons, List.drop_succ_cons, Nat.reduceAdd, Nat.reduceLeDiff, reduceIte, Bool.not_true, Bool.not_false, Bool.false_eq_true, CA_some, Option.some.injEq, Nat.zero_add, Nat.mul_one, Nat.add_zero, setL, List.set_cons_zero, List.set_cons_succ, fillC]
  refine EqOk.go eq_ByteSS ah1 bh1 (fun d1 => ?_) (fun d1 => ?_)
  case refine_2 =>
    simp (disch := omega) only [KC_eq, c116, ae1, ahsz, be1, bhsz, ifT, w64, RR, RP, Ty.agg, Ty.size, Ty.sizes, eq_self, ne_eq, not_true, not_false_iff, reduceCtorEq, List.length_cons, List.length_nil, decide_true, decide_false, true_and, and_true, ite_true, ite_false, PT.full, enter0, setAll, forget, Fr.set, Fr.get, PT.get, PT.set, kof, ai, ev, ev1, evp, b_add, b_sub, b_mul, b_quo, b_rem, b_eql, b_neq, b_lss, b_leq, b_gtr, b_geq, b_seql, b_sneq, setD, resV, resL, res1, args, List.take_zero, List.drop_zero, List.take_nil, List.take_succ_cons, List.drop_succ_cons, Nat.reduceAdd, Nat.reduceLeDiff, reduceIte, Bool.not_true, Bool.not_false, Bool.false_eq_true, CA_some, Option.some.injEq, Nat.zero_add, Nat.mul_one, Nat.add_zero, setL, List.set_cons_zero, List.set_cons_succ, fillC]
    simp [d1]
  subst d1
  simp (disch := omega) only [KC_eq, c116, ae1, ahsz, be1, bhsz, ifT, w64, RR, RP, Ty.agg, Ty.size, Ty.sizes, eq_self, ne_eq, not_true, not_false_iff, reduceCtorEq, List.length_cons, List.length_nil, decide_true, decide_false, true_and, and_true, ite_true, ite_false, PT.full, enter0, setAll, forget, Fr.set, Fr.get, PT.get, PT.set, kof, ai, ev, ev1, evp, b_add, b_sub, b_mul, b_quo, b_rem, b_eql, b_neq, b_lss, b_leq, b_gtr, b_geq, b_seql, b_sneq, setD, resV, resL, res1, args, List.take_zero, List.drop_zero, List.take_nil, List.take_succ_cons, List.drop_succ_cons, Nat.reduceAdd, Nat.reduceLeDiff, reduceIte, Bool.not_true, Bool.not_false, Bool.false_eq_true, CA_some, Option.some.injEq, Nat.zero_add, Nat.mul_one, Nat.add_zero, setL, List.set_cons_zero, List.set_cons_succ, fillC]
theorem mk_Block : MkOk cd 120 TBlock := by
  intro h cs v S k hv ho hk
  obtain ⟨vs, rfl, q0⟩ := hv.st
  obtain ⟨v0, r0, S0, T0, rfl, rfl, h0, q1⟩ := q0.step
  obtain ⟨v1, r1, S1, T1, rfl, rfl, h1, q2⟩ := q1.step
  obtain ⟨c1, e1⟩ := h1.one rfl
  rw [e1] at h1
  obtain ⟨_, rfl, rfl⟩ := q2
  have hsz : cs.length = 11 := hv.size
  simp only [Ty.size, Ty.sizes, Nat.reduceAdd, Nat.zero_add, List.drop_zero] at e1 hsz h0
  have hcn : cnT TBlock (.r [v0, v1]) = (cnT THead v0 + (cnT (.sl (.sl (.int .u8))) v1 + 0)) := rfl
  have hmk : mkT TBlock (.r [v0, v1]) k = .r [mkT THead v0 (k), mkT (.sl (.sl (.int .u8))) v1 (k + cnT THead v0)] := rfl
  rw [hmk]
  rw [hcn] at hk ⊢
  simp only [List.nil_append, List.append_nil] at ho ⊢
  obtain ⟨o0, ho0, x0, xx0⟩ := ho.split
  have o1 := ho0
  refine WS_enter k120 rfl ?_
  simp (disch := omega) only [KC_eq, c120, e1, hsz, ifT, w64, RR, RP, Ty.agg, Ty.size, Ty.sizes, eq_self, ne_eq, not_true, not_false_iff, reduceCtorEq, List.length_cons, List.length_nil, decide_true, decide_false, true_and, and_true, ite_true, ite_false, PT.full, enter0, setAll, forget, Fr.set, Fr.get, PT.get, PT.set, kof, ai, ev, ev1, evp, b_add, b_sub, b_mul, b_quo, b_rem, b_eql, b_neq, b_lss, b_leq, b_gtr, b_geq, b_seql, b_sneq, setD, resV, resL, res1, args, List.take_zero, List.drop_zero, List.take_nil, List.take_succ_cons, List.drop_succ_cons, Nat.reduceAdd, Nat.reduceLeDiff, reduceIte, Bool.not_true, Bool.not_false, Bool.false_eq_true, CA_some, Option.some.injEq, Nat.zero_add, Nat.mul_one, Nat.add_zero, setL, List.set_cons_zero, List.set_cons_succ, fillC]
  refine MkOk.go mk_Head h0 o0 (k := k) (by omega) (fun g0 w0 z0 => ?_)
  simp (disch := omega) only [KC_eq, c120, e1, hsz, ifT, w64, RR, RP, Ty.agg, Ty.size, Ty.sizes, eq_self, ne_eq, not_true, not_false_iff, reduceCtorEq, List.length_cons, List.length_nil, decide_true, decide_false, true_and, and_true, ite_true, ite_false, PT.full, enter0, setAll, forget, Fr.set, Fr.get, PT.get, PT.set, kof, ai, ev, ev1, evp, b_add, b_sub, b_mul, b_quo, b_rem, b_eql, b_neq, b_lss, b_leq, b_gtr, b_geq, b_seql, b_sneq, setD, resV, resL, res1, args, List.take_zero, List.drop_zero, List.take_nil, List.take_succ_cons, List.drop_succ_cons, Nat.reduceAdd, Nat.reduceLeDiff, reduceIte, Bool.not_true, Bool.not_false, Bool.false_eq_true, CA_some, Option.some.injEq, Nat.zero_add, Nat.mul_one, Nat.add_zero, setL, List.set_cons_zero, List.set_cons_succ, fillC]
  refine MkOk.go mk_ByteSS (h1.wrote w0 (fun i hi => xx0 i (by simp [hi]))) (w0.ownd o1) (k := k + cnT THead v0) (by omega) (fun g1 w1 z1 => ?_)
  simp (disch := omega) only [KC_eq, c120, e1, hsz, ifT, w64, RR, RP, Ty.agg, Ty.size, Ty.sizes, eq_self, ne_eq, not_true, not_false_iff, reduceCtorEq, List.length_cons, List.length_nil, decide_true, decide_false, true_and, and_true, ite_true, ite_false, PT.full, enter0, setAll, forget, Fr.set, Fr.get, PT.get, PT.set, kof, ai, ev, ev1, evp, b_add, b_sub, b_mul, b_quo, b_rem, b_eql, b_neq, b_lss, b_leq, b_gtr, b_geq, b_seql, b_sneq, setD, resV, resL, res1, args, List.take_zero, List.drop_zero, List.take_nil, List.take_succ_cons, List.drop_succ_cons, Nat.reduceAdd, Nat.reduceLeDiff, reduceIte, Bool.not_true, Bool.not_false, Bool.false_eq_true, CA_some, Option.some.injEq, Nat.zero_add, Nat.mul_one, Nat.add_zero, setL, List.set_cons_zero, List.set_cons_succ, fillC]
  have fin : Rs g1 [THead, (.sl (.sl (.int .u8)))] (cs.drop 0) [mkT THead v0 (k), mkT (.sl (.sl (.int .u8))) v1 (k + cnT THead v0)] _ := (Rs.unstep (o := 0) (z0.wrote w1 (fun i hi hn => x0 i hi (by simp [hn]))) (Rs.unstep (o := 10) (Rp.cs_at e1 z1) (Rs.fin (Nat.le_of_eq hsz))))
  simp only [List.nil_append, List.append_nil, List.drop_zero] at fin
  have wr := (((Wrote.refl ho.2).more w0 (fun i hi => by simp [hi])).more w1 (fun i hi => by simp [hi]))
  first
    | exact ⟨wr, _, rfl, fin⟩
    | (refine ⟨?_, wr, _, rfl, fin⟩
       congr 3
       omega)
theorem hd_Block : HdOk cd 122 TBlock := by
  intro h cs v S k hT hv hk
  obtain ⟨h0_, cs0, S0_, hT⟩ := hT
  obtain ⟨wvs, rfl, wq0⟩ := hT.st
  obtain ⟨wv0, wr0, wS0, wT0, rfl, rfl, wh0, wq1⟩ := wq0.step
  obtain ⟨wv1, wr1, wS1, wT1, rfl, rfl, wh1, wq2⟩ := wq1.step
  obtain ⟨wc1, we1⟩ := wh1.one rfl
  rw [we1] at wh1
  obtain ⟨_, rfl, rfl⟩ := wq2
  have whsz : cs0.length = 11 := hT.size
  have hcn : cnT TBlock (.r [wv0, wv1]) = (cnT THead wv0 + (cnT (.sl (.sl (.int .u8))) wv1 + 0)) := rfl
  have hmk : mkT TBlock (.r [wv0, wv1]) k = .r [mkT THead wv0 (k), mkT (.sl (.sl (.int .u8))) wv1 (k + cnT THead wv0)] := rfl
  rw [hmk] at hv
  rw [hcn] at hk ⊢
  obtain ⟨vs, hvs, q0⟩ := hv.st
  simp only [Tv.r.injEq] at hvs
  subst hvs
  obtain ⟨v0, r0, S0, T0, hv0, hS0, h0, q1⟩ := q0.step
  obtain ⟨rfl, rfl⟩ := List.cons.inj hv0
  obtain ⟨v1, r1, S1, T1, hv1, hS1, h1, q2⟩ := q1.step
  obtain ⟨rfl, rfl⟩ := List.cons.inj hv1
  obtain ⟨c1, e1⟩ := h1.one rfl
  rw [e1] at h1
  have hsz : cs.length = 11 := hv.size
  simp only [Ty.size, Ty.sizes, Nat.reduceAdd, Nat.zero_add, List.drop_zero] at e1 hsz h0
  refine WS_enter k122 rfl ?_
  simp (disch := omega) only [KC_eq, c122, e1, hsz, ifT, w64, RR, RP, Ty.agg, Ty.size, Ty.sizes, eq_self, ne_eq, not_true, not_false_iff, reduceCtorEq, List.length_cons, List.length_nil, decide_true, decide_false, true_and, and_true, ite_true, ite_false, PT.full, enter0, setAll, forget, Fr.set, Fr.get, PT.get, PT.set, kof, ai, ev, ev1, evp, b_add, b_sub, b_mul, b_quo, b_rem, b_eql, b_neq, b_lss, b_leq, b_gtr, b_geq, b_seql, b_sneq, setD, resV, resL, res1, args, List.take_zero, List.drop_zero, List.take_nil, List.take_succ_cons, List.drop_succ_cons, Nat.reduceAdd, Nat.reduceLeDiff, reduceIte, Bool.not_true, Bool.not_false, Bool.false_eq_true, CA_some, Option.some.injEq, Nat.zero_add, Nat.mul_one, Nat.add_zero, setL, List.set_cons_zero, List.set_cons_succ, fillC]
  refine HdOk.go hd_Head ⟨_, _, _, wh0⟩ h0 (k := k) (by omega) ?_
  simp (disch := omega) only [KC_eq, c122, e1, hsz, ifT, w64, RR, RP, Ty.agg, Ty.size, Ty.sizes, eq_self, ne_eq, not_true, not_false_iff, reduceCtorEq, List.length_cons, List.length_nil, decide_true, decide_false, true_and, and_true, ite_true, ite_false, PT.full, enter0, setAll, forget, Fr.set, Fr.get, PT.get, PT.set, kof, ai, ev, ev1, evp, b_add, b_sub, b_mul, b_quo, b_rem, b_eql, b_neq, b_lss, b_leq, b_gtr, b_geq, b_seql, b_sneq, setD, resV, resL, res1, args, List.take_zero, List.drop_zero, List.take_nil, List.take_succ_cons, List.drop_succ_cons, Nat.reduceAdd, Nat.reduceLeDiff, reduceIte, Bool.not_true, Bool.not_false, Bool.false_eq_true, CA_some, Option.some.injEq, Nat.zero_add, Nat.mul_one, Nat.add_zero, setL, List.set_cons_zero, List.set_cons_succ, fillC]
  refine BR_dec (fun hn => absurd hn (by omega)) (fun hn => ?_)
  simp (disch := omega) only [KC_eq, c122, e1, hsz, ifT, w64, RR, RP, Ty.agg, Ty.size, Ty.sizes, eq_self, ne_eq, not_true, not_false_iff, reduceCtorEq, List.length_cons, List.length_nil, decide_true, decide_false, true_and, and_true, ite_true, ite_false, PT.full, enter0, setAll, forget, Fr.set, Fr.get, PT.get, PT.set, kof, ai, ev, ev1, evp, b_add, b_sub, b_mul, b_quo, b_rem, b_eql, b_neq, b_lss, b_leq, b_gtr, b_geq, b_seql, b_sneq, setD, resV, resL, res1, args, List.take_zero, List.drop_zero, List.take_nil, List.take_succ_cons, List.drop_succ_cons, Nat.reduceAdd, Nat.reduceLeDiff, reduceIte, Bool.not_true, Bool.not_false, Bool.false_eq_true, CA_some, Option.some.injEq, Nat.zero_add, Nat.mul_one, Nat.add_zero, setL, List.set_cons_zero, List.set_cons_succ, fillC]
  refine HdOk.go hd_ByteSS ⟨_, _, _, wh1⟩ h1 (k := k + cnT THead wv0) (by omega) ?_
  simp (disch := omega) only [KC_eq, c122, e1, hsz, ifT, w64, RR, RP, Ty.agg, Ty.size, Ty.sizes, eq_self, ne_eq, not_true, not_false_iff, reduceCtorEq, List.length_cons, List.length_nil, decide_true, decide_false, true_and, and_true, ite_true, ite_false, PT.full, enter0, setAll, forget, Fr.set, Fr.get, PT.get, PT.set, kof, ai, ev, ev1, evp, b_add, b_sub, b_mul, b_quo, b_rem, b_eql, b_neq, b_lss, b_leq, b_gtr, b_geq, b_seql, b_sneq, setD, resV, resL, res1, args, List.take_zero, List.drop_zero, List.take_nil, List.take_succ_cons, List.drop_succ_cons, Nat.reduceAdd, Nat.reduceLeDiff, reduceIte, Bool.not_true, Bool.not_false, Bool.false_eq_true, CA_some, Option.some.injEq, Nat.zero_add, Nat.mul_one, Nat.add_zero, setL, List.set_cons_zero, List.set_cons_succ, fillC]
  refine BR_dec (fun hn => absurd hn (by omega)) (fun hn => ?_)
  simp (disch := omega) only [KC_eq, c122, e1, hsz, ifT, w64, RR, RP, Ty.agg, Ty.size, Ty.sizes, eq_self, ne_eq, not_true, not_false_iff, reduceCtorEq, List.length_cons, List.length_nil, decide_true, decide_false, true_and, and_true, ite_true, ite_false, PT.full, enter0, setAll, forget, Fr.set, Fr.get, PT.get, PT.set, kof, ai, ev, ev1, evp, b_add, b_sub, b_mul, b_quo, b_rem, b_eql, b_neq, b_lss, b_leq, b_gtr, b_geq, b_seql, b_sneq, setD, resV, resL, res1, args, List.take_zero, List.drop_zero, List.take_nil, List.take_succ_cons, List.drop_succ_cons, Nat.reduceAdd, Nat.reduceLeDiff, reduceIte, Bool.not_true, Bool.not_false, Bool.false_eq_true, CA_some, Option.some.injEq, Nat.zero_add, Nat.mul_one, Nat.add_zero, setL, List.set_cons_zero, List.set_cons_succ, fillC]
  all_goals congr 3
  all_goals omega
theorem eq_Tc : EqOk cd 54 TTc := by
  intro h ca cb va vb Sa Sb ha hb
  obtain ⟨avs, rfl, aq0⟩ := ha.st
  obtain ⟨av0, ar0, aS0, aT0, rfl, rfl, ah0, aq1⟩ := aq0.step
  obtain ⟨an0, ae0, rfl, rfl, alo0, ahi0⟩ := ah0.int
  obtain ⟨av1, ar1, aS1, aT1, rfl, rfl, ah1, aq2⟩ := aq1.step
  obtain ⟨ac1, ae1⟩ := ah1.one rfl
  rw [ae1] at ah1
  obtain ⟨_, rfl, rfl⟩ := aq2
  have ahsz : ca.length = 2 := ha.size
  obtain ⟨bvs, rfl, bq0⟩ := hb.st
  obtain ⟨bv0, br0, bS0, bT0, rfl, rfl, bh0, bq1⟩ := bq0.step
  obtain ⟨bn0, be0, rfl, rfl, blo0, bhi0⟩ := bh0.int
  obtain ⟨bv1, br1, bS1, bT1, rfl, rfl, bh1, bq2⟩ := bq1.step
  obtain ⟨bc1, be1⟩ := bh1.one rfl
  rw [be1] at bh1
  obtain ⟨_, rfl, rfl⟩ := bq2
  have bhsz : cb.length = 2 := hb.size
  simp only [Ty.size, Ty.sizes, Nat.reduceAdd, Nat.zero_add, List.drop_zero] at ae0 ae1 ahsz be0 be1 bhsz
  refine WS_enter k54 rfl ?_
  simp (disch := omega) only [KC_eq, c54, ae0, ae1, ahsz, be0, be1, bhsz, ifT, w64, RR, RP, Ty.agg, Ty.size, Ty.sizes, eq_self, ne_eq, not_true, not_false_iff, reduceCtorEq, List.length_cons, List.length_nil, decide_true, decide_false, true_and, and_true, ite_true, ite_false, PT.full, enter0, setAll, forget, Fr.set, Fr.get, PT.get, PT.set, kof, ai, ev, ev1, evp, b_add, b_sub, b_mul, b_quo, b_rem, b_eql, b_neq, b_lss, b_leq, b_gtr, b_geq, b_seql, b_sneq, setD, resV, resL, res1, args, List.take_zero, List.drop_zero, List.take_nil, List.take_succ_cons, List.drop_succ_cons, Nat.reduceAdd, Nat.reduceLeDiff, reduceIte, Bool.not_true, Bool.not_false, Bool.false_eq_true, CA_some, Option.some.injEq, Nat.zero_add, Nat.mul_one, Nat.add_zero, setL, List.set_cons_zero, List.set_cons_succ, fillC]
  refine BR_dec (fun hn => ?_) (fun hn => ?_)
  case refine_1 =>
    simp (disch := omega) only [KC_eq, c54, ae0, ae1, ahsz, be0, be1, bhsz, ifT, w64, RR, RP, Ty.agg, Ty.size, Ty.sizes, eq_self, ne_eq, not_true, not_false_iff, reduceCtorEq, List.length_cons, List.length_nil, decide_true, decide_false, true_and, and_true, ite_true, ite_false, PT.full, enter0, setAll, forget, Fr.set, Fr.get, PT.get, PT.set, kof, ai, ev, ev1, evp, b_add, b_sub, b_mul, b_quo, b_rem, b_eql, b_neq, b_lss, b_leq, b_gtr, b_geq, b_seql, b_sneq, setD, resV, resL, res1, args, List.take_zero, List.drop_zero, List.take_nil, List.take_succ_cons, List.drop_succ_cons, Nat.reduceAdd, Nat.reduceLeDiff, reduceIte, Bool.not_true, Bool.not_false, Bool.false_eq_true, CA_some, Option.some.injEq, Nat.zero_add, Nat.mul_one, Nat.add_zero, setL, List.set_cons_zero, List.set_cons_succ, fillC]
    simp [hn]
  have d0 : an0 = bn0 := by omega
  subst d0
  simp (disch := omega) only [KC_eq, c54, ae0, ae1, ahsz, be0, be1, bhsz, ifT, w64, RR, RP, Ty.agg, Ty.size, Ty.sizes, eq_self, ne_eq, not_true, not_false_iff, reduceCtorEq, List.length_cons, List.length_nil, decide_true, decide_false, true_and, and_true, ite_true, ite_false, PT.full, enter0, setAll, forget, Fr.set, Fr.get, PT.get, PT.set, kof, ai, ev, ev1, evp, b_add, b_sub, b_mul, b_quo, b_rem, b_eql, b_neq, b_lss, b_leq, b_gtr, b_geq, b_seql, b_sneq, setD, resV, resL, res1, args, List.take_zero, List.drop_zero, List.take_nil, List.take_succ_cons, List.drop_succ_cons, Nat.reduceAdd, Nat.reduceLeDiff, reduceIte, Bool.not_true, Bool.not_false, Bool.false_eq_true, CA_some, Option.some.injEq, Nat.zero_add, Nat.mul_one, Nat.add_zero, setL, List.set_cons_zero, List.set_cons_succ, fillC]
  refine EqOk.go eq_EntryS ah1 bh1 (fun d1 => ?_) (fun d1 => ?_)
  case refine_2 =>
    simp (disch := omega) only [KC_eq, c54, ae0, ae1, ahsz, be0, be1, bhsz, ifT, w64, RR, RP, Ty.agg, Ty.size, Ty.sizes, eq_self, ne_eq, not_true, not_false_iff, reduceCtorEq, List.length_cons, List.length_nil, decide_true, decide_false, true_and, and_true, ite_true, ite_false, PT.full, enter0, setAll, forget, Fr.set, Fr.get, PT.get, PT.set, kof, ai, ev, ev1, evp, b_add, b_sub, b_mul, b_quo, b_rem, b_eql, b_neq, b_lss, b_leq, b_gtr, b_geq, b_seql, b_sneq, setD, resV, resL, res1, args, List.take_zero, List.drop_zero, List.take_nil, List.take_succ_cons, List.drop_succ_cons, Nat.reduceAdd, Nat.reduceLeDiff, reduceIte, Bool.not_true, Bool.not_false, Bool.false_eq_true, CA_some, Option.some.injEq, Nat.zero_add, Nat.mul_one, Nat.add_zero, setL, List.set_cons_zero, List.set_cons_succ, fillC]
    simp [d1]
  subst d1
  simp (disch := omega) only [KC_eq, c54, ae0, ae1, ahsz, be0, be1, bhsz, ifT, w64, RR, RP, Ty.agg, Ty.size, Ty.sizes, eq_self, ne_eq, not_true, not_false_iff, reduceCtorEq, List.length_cons, List.length_nil, decide_true, decide_false, true_and, and_true, ite_true, ite_false, PT.full, enter0, setAll, forget, Fr.set, Fr.get, PT.get, PT.set, kof, ai, ev, ev1, evp, b_add, b_sub, b_mul, b_quo, b_rem, b_eql, b_neq, b_lss, b_leq, b_gtr, b_geq, b_seql, b_sneq, setD, resV, resL, res1, args, List.take_zero, List.drop_zero, List.take_nil, List.take_succ_cons, List.drop_succ_cons, Nat.reduceAdd, Nat.reduceLeDiff, reduceIte, Bool.not_true, Bool.not_false, Bool.false_eq_true, CA_some, Option.some.injEq, Nat.zero_add, Nat.mul_one, Nat.add_zero, setL, List.set_cons_zero, List.set_cons_succ, fillC]
theorem mk_Tc : MkOk cd 55 TTc := by
  intro h cs v S k hv ho hk
  obtain ⟨vs, rfl, q0⟩ := hv.st
  obtain ⟨v0, r0, S0, T0, rfl, rfl, h0, q1⟩ := q0.step
  obtain ⟨n0, e0, rfl, rfl, lo0, hi0⟩ := h0.int
  obtain ⟨v1, r1, S1, T1, rfl, rfl, h1, q2⟩ := q1.step
  obtain ⟨c1, e1⟩ := h1.one rfl
  rw [e1] at h1
  obtain ⟨_, rfl, rfl⟩ := q2
  have hsz : cs.length = 2 := hv.size
  simp only [Ty.size, Ty.sizes, Nat.reduceAdd, Nat.zero_add, List.drop_zero] at e0 e1 hsz
  have hcn : cnT TTc (.r [.i n0, v1]) = (0 + (cnT (.sl TEntry) v1 + 0)) := rfl
  have hmk : mkT TTc (.r [.i n0, v1]) k = .r [.i n0, mkT (.sl TEntry) v1 (k)] := rfl
  rw [hmk]
  rw [hcn] at hk ⊢
  simp only [List.nil_append, List.append_nil] at ho ⊢
  have o1 := ho
  refine WS_enter k55 rfl ?_
  simp (disch := omega) only [KC_eq, c55, e0, e1, hsz, ifT, w64, RR, RP, Ty.agg, Ty.size, Ty.sizes, eq_self, ne_eq, not_true, not_false_iff, reduceCtorEq, List.length_cons, List.length_nil, decide_true, decide_false, true_and, and_true, ite_true, ite_false, PT.full, enter0, setAll, forget, Fr.set, Fr.get, PT.get, PT.set, kof, ai, ev, ev1, evp, b_add, b_sub, b_mul, b_quo, b_rem, b_eql, b_neq, b_lss, b_leq, b_gtr, b_geq, b_seql, b_sneq, setD, resV, resL, res1, args, List.take_zero, List.drop_zero, List.take_nil, List.take_succ_cons, List.drop_succ_cons, Nat.reduceAdd, Nat.reduceLeDiff, reduceIte, Bool.not_true, Bool.not_false, Bool.false_eq_true, CA_some, Option.some.injEq, Nat.zero_add, Nat.mul_one, Nat.add_zero, setL, List.set_cons_zero, List.set_cons_succ, fillC]
  refine MkOk.go mk_EntryS h1 o1 (k := k) (by omega) (fun g1 w1 z1 => ?_)
  simp (disch := omega) only [KC_eq, c55, e0, e1, hsz, ifT, w64, RR, RP, Ty.agg, Ty.size, Ty.sizes, eq_self, ne_eq, not_true, not_false_iff, reduceCtorEq, List.length_cons, List.length_nil, decide_true, decide_false, true_and, and_true, ite_true, ite_false, PT.full, enter0, setAll, forget, Fr.set, Fr.get, PT.get, PT.set, kof, ai, ev, ev1, evp, b_add, b_sub, b_mul, b_quo, b_rem, b_eql, b_neq, b_lss, b_leq, b_gtr, b_geq, b_seql, b_sneq, setD, resV, resL, res1, args, List.take_zero, List.drop_zero, List.take_nil, List.take_succ_cons, List.drop_succ_cons, Nat.reduceAdd, Nat.reduceLeDiff, reduceIte, Bool.not_true, Bool.not_false, Bool.false_eq_true, CA_some, Option.some.injEq, Nat.zero_add, Nat.mul_one, Nat.add_zero, setL, List.set_cons_zero, List.set_cons_succ, fillC]
  have fin : Rs g1 [(.int .i64), (.sl TEntry)] (cs.drop 0) [.i n0, mkT (.sl TEntry) v1 (k)] _ := (Rs.unstep (o := 0) (Rp.int_at e0 lo0 hi0) (Rs.unstep (o := 1) (Rp.cs_at e1 z1) (Rs.fin (Nat.le_of_eq hsz))))
  simp only [List.nil_append, List.append_nil, List.drop_zero] at fin
  have wr := ((Wrote.refl ho.2).more w1 (fun i hi => by simp [hi]))
  first
    | exact ⟨wr, _, rfl, fin⟩
    | (refine ⟨?_, wr, _, rfl, fin⟩
       congr 3
       omega)
theorem hd_Tc : HdOk cd 123 TTc := by
  intro h cs v S k hT hv hk
  obtain ⟨h0_, cs0, S0_, hT⟩ := hT
  obtain ⟨wvs, rfl, wq0⟩ := hT.st
  obtain ⟨wv0, wr0, wS0, wT0, rfl, rfl, wh0, wq1⟩ := wq0.step
  obtain ⟨wn0, we0, rfl, rfl, wlo0, whi0⟩ := wh0.int
  obtain ⟨wv1, wr1, wS1, wT1, rfl, rfl, wh1, wq2⟩ := wq1.step
  obtain ⟨wc1, we1⟩ := wh1.one rfl
  rw [we1] at wh1
  obtain ⟨_, rfl, rfl⟩ := wq2
  have whsz : cs0.length = 2 := hT.size
  have hcn : cnT TTc (.r [.i wn0, wv1]) = (0 + (cnT (.sl TEntry) wv1 + 0)) := rfl
  have hmk : mkT TTc (.r [.i wn0, wv1]) k = .r [.i wn0, mkT (.sl TEntry) wv1 (k)] := rfl
  rw [hmk] at hv
  rw [hcn] at hk ⊢
  obtain ⟨vs, hvs, q0⟩ := hv.st
  simp only [Tv.r.injEq] at hvs
  subst hvs
  obtain ⟨v0, r0, S0, T0, hv0, hS0, h0, q1⟩ := q0.step
  obtain ⟨rfl, rfl⟩ := List.cons.inj hv0
  obtain ⟨n0, e0, _, _, _, _⟩ := h0.int
  obtain ⟨v1, r1, S1, T1, hv1, hS1, h1, q2⟩ := q1.step
  obtain ⟨rfl, rfl⟩ := List.cons.inj hv1
  obtain ⟨c1, e1⟩ := h1.one rfl
  rw [e1] at h1
  have hsz : cs.length = 2 := hv.size
  simp only [Ty.size, Ty.sizes, Nat.reduceAdd, Nat.zero_add, List.drop_zero] at e0 e1 hsz
  refine WS_enter k123 rfl ?_
  simp (disch := omega) only [KC_eq, c123, e0, e1, hsz, ifT, w64, RR, RP, Ty.agg, Ty.size, Ty.sizes, eq_self, ne_eq, not_true, not_false_iff, reduceCtorEq, List.length_cons, List.length_nil, decide_true, decide_false, true_and, and_true, ite_true, ite_false, PT.full, enter0, setAll, forget, Fr.set, Fr.get, PT.get, PT.set, kof, ai, ev, ev1, evp, b_add, b_sub, b_mul, b_quo, b_rem, b_eql, b_neq, b_lss, b_leq, b_gtr, b_geq, b_seql, b_sneq, setD, resV, resL, res1, args, List.take_zero, List.drop_zero, List.take_nil, List.take_succ_cons, List.drop_succ_cons, Nat.reduceAdd, Nat.reduceLeDiff, reduceIte, Bool.not_true, Bool.not_false, Bool.false_eq_true, CA_some, Option.some.injEq, Nat.zero_add, Nat.mul_one, Nat.add_zero, setL, List.set_cons_zero, List.set_cons_succ, fillC]
  refine HdOk.go hd_EntryS ⟨_, _, _, wh1⟩ h1 (k := k) (by omega) ?_
  simp (disch := omega) only [KC_eq, c123, e0, e1, hsz, ifT, w64, RR, RP, Ty.agg, Ty.size, Ty.sizes, eq_self, ne_eq, not_true, not_false_iff, reduceCtorEq, List.length_cons, List.length_nil, decide_true, decide_false, true_and, and_true, ite_true, ite_false, PT.full, enter0, setAll, forget, Fr.set, Fr.get, PT.get, PT.set, kof, ai, ev, ev1, evp, b_add, b_sub, b_mul, b_quo, b_rem, b_eql, b_neq, b_lss, b_leq, b_gtr, b_geq, b_seql, b_sneq, setD, resV, resL, res1, args, List.take_zero, List.drop_zero, List.take_nil, List.take_succ_cons, List.drop_succ_cons, Nat.reduceAdd, Nat.reduceLeDiff, reduceIte, Bool.not_true, Bool.not_false, Bool.false_eq_true, CA_some, Option.some.injEq, Nat.zero_add, Nat.mul_one, Nat.add_zero, setL, List.set_cons_zero, List.set_cons_succ, fillC]
  refine BR_dec (fun hn => absurd hn (by omega)) (fun hn => ?_)
  simp (disch := omega) only [KC_eq, c123, e0, e1, hsz, ifT, w64, RR, RP, Ty.agg, Ty.size, Ty.sizes, eq_self, ne_eq, not_true, not_false_iff, reduceCtorEq, List.length_cons, List.length_nil, decide_true, decide_false, true_and, and_true, ite_true, ite_false, PT.full, enter0, setAll, forget, Fr.set, Fr.get, PT.get, PT.set, kof, ai, ev, ev1, evp, b_add, b_sub, b_mul, b_quo, b_rem, b_eql, b_neq, b_lss, b_leq, b_gtr, b_geq, b_seql, b_sneq, setD, resV, resL, res1, args, List.take_zero, List.drop_zero, List.take_nil, List.take_succ_cons, List.drop_succ_cons, Nat.reduceAdd, Nat.reduceLeDiff, reduceIte, Bool.not_true, Bool.not_false, Bool.false_eq_true, CA_some, Option.some.injEq, Nat.zero_add, Nat.mul_one, Nat.add_zero, setL, List.set_cons_zero, List.set_cons_succ, fillC]
  all_goals congr 3
  all_goals omega
theorem eq_Proof : EqOk cd 37 TProof := by
  intro h ca cb va vb Sa Sb ha hb
  obtain ⟨avs, rfl, aq0⟩ := ha.st
  obtain ⟨av0, ar0, aS0, aT0, rfl, rfl, ah0, aq1⟩ := aq0.step
  obtain ⟨ac0, ae0⟩ := ah0.one rfl
  rw [ae0] at ah0
  obtain ⟨av1, ar1, aS1, aT1, rfl, rfl, ah1, aq2⟩ := aq1.step
  obtain ⟨_, rfl, rfl⟩ := aq2
  have ahsz : ca.length = 6 := ha.size
  obtain ⟨bvs, rfl, bq0⟩ := hb.st
  obtain ⟨bv0, br0, bS0, bT0, rfl, rfl, bh0, bq1⟩ := bq0.step
  obtain ⟨bc0, be0⟩ := bh0.one rfl
  rw [be0] at bh0
  obtain ⟨bv1, br1, bS1, bT1, rfl, rfl, bh1, bq2⟩ := bq1.step
  obtain ⟨_, rfl, rfl⟩ := bq2
  have bhsz : cb.length = 6 := hb.size
  simp only [Ty.size, Ty.sizes, Nat.reduceAdd, Nat.zero_add, List.drop_zero] at ae0 ahsz be0 bhsz ah1 bh1
  refine WS_enter k37 rfl ?_
  simp (disch := omega) only [KC_eq, c37, ae0, ahsz, be0, bhsz, ifT, w64, RR, RP, Ty.agg, Ty.size, Ty.sizes, eq_self, ne_eq, not_true, not_false_iff, reduceCtorEq, List.length_cons, List.length_nil, decide_true, decide_false, true_and, and_true, ite_true, ite_false, PT.full, enter0, setAll, forget, Fr.set, Fr.get, PT.get, PT.set, kof, ai, ev, ev1, evp, b_add, b_sub, b_mul, b_quo, b_rem, b_eql, b_neq, b_lss, b_leq, b_gtr, b_geq, b_seql, b_sneq, setD, resV, resL, res1, args, List.take_zero, List.drop_zero, List.take_nil, List.take_succ_cons, List.drop_succ_cons, Nat.reduceAdd, Nat.reduceLeDiff, reduceIte, Bool.not_true, Bool.not_false, Bool.false_eq_true, CA_some, Option.some.injEq, Nat.zero_add, Nat.mul_one, Nat.add_zero, setL, List.set_cons_zero, List.set_cons_succ, fillC]
  refine EqOk.go eq_HeadS ah0 bh0 (fun d0 => ?_) (fun d0 => ?_)
  case refine_2 =>
    simp (disch := omega) only [KC_eq, c37, ae0, ahsz, be0, bhsz, ifT, w64, RR, RP, Ty.agg, Ty.size, Ty.sizes, eq_self, ne_eq, not_true, not_false_iff, reduceCtorEq, List.length_cons, List.length_nil, decide_true, decide_false, true_and, and_true, ite_true, ite_false, PT.full, enter0, setAll, forget, Fr.set, Fr.get, PT.get, PT.set, kof, ai, ev, ev1, evp, b_add, b_sub, b_mul, b_quo, b_rem, b_eql, b_neq, b_lss, b_leq, b_gtr, b_geq, b_seql, b_sneq, setD, resV, resL, res1, args, List.take_zero, List.drop_zero, List.take_nil, List.take_succ_cons, List.drop_succ_cons, Nat.reduceAdd, Nat.reduceLeDiff, reduceIte, Bool.not_true, Bool.not_false, Bool.false_eq_true, CA_some, Option.some.injEq, Nat.zero_add, Nat.mul_one, Nat.add_zero, setL, List.set_cons_zero, List.set_cons_succ, fillC]
    simp [d0]
  subst d0
  simp (disch := omega) only [KC_eq, c37, ae0, ahsz, be0, bhsz, ifT, w64, RR, RP, Ty.agg, Ty.size, Ty.sizes, eq_self, ne_eq, not_true, not_false_iff, reduceCtorEq, List.length_cons, List.length_nil, decide_true, decide_false, true_and, and_true, ite_true, ite_false, PT.full, enter0, setAll, forget, Fr.set, Fr.get, PT.get, PT.set, kof, ai, ev, ev1, evp, b_add, b_sub, b_mul, b_quo, b_rem, b_eql, b_neq, b_lss, b_leq, b_gtr, b_geq, b_seql, b_sneq, setD, resV, resL, res1, args, List.take_zero, List.drop_zero, List.take_nil, List.take_succ_cons, List.drop_succ_cons, Nat.reduceAdd, Nat.reduceLeDiff, reduceIte, Bool.not_true, Bool.not_false, Bool.false_eq_true, CA_some, Option.some.injEq, Nat.zero_add, Nat.mul_one, Nat.add_zero, setL, List.set_cons_zero, List.set_cons_succ, fillC]
  refine EqOk.go eq_Qc ah1 bh1 (fun d1 => ?_) (fun d1 => ?_)
  case refine_2 =>
    simp (disch := omega) only [KC_eq, c37, ae0, ahsz, be0, bhsz, ifT, w64, RR, RP, Ty.agg, Ty.size, Ty.sizes, eq_self, ne_eq, not_true, not_false_iff, reduceCtorEq, List.length_cons, List.length_nil, decide_true, decide_false, true_and, and_true, ite_true, ite_false, PT.full, enter0, setAll, forget, Fr.set, Fr.get, PT.get, PT.set, kof, ai, ev, ev1, evp, b_add, b_sub, b_mul, b_quo, b_rem, b_eql, b_neq, b_lss, b_leq, b_gtr, b_geq, b_seql, b_sneq, setD, resV, resL, res1, args, List.take_zero, List.drop_zero, List.take_nil, List.take_succ_cons, List.drop_succ_cons, Nat.reduceAdd, Nat.reduceLeDiff, reduceIte, Bool.not_true, Bool.not_false, Bool.false_eq_true, CA_some, Option.some.injEq, Nat.zero_add, Nat.mul_one, Nat.add_zero, setL, List.set_cons_zero, List.set_cons_succ, fillC]
    simp [d1]
  subst d1
  simp (disch := omega) only [KC_eq, c37, ae0, ahsz, be0, bhsz, ifT, w64, RR, RP, Ty.agg, Ty.size, Ty.sizes, eq_self, ne_eq, not_true, not_false_iff, reduceCtorEq, List.length_cons, List.length_nil, decide_true, decide_false, true_and, and_true, ite_true, ite_false, PT.full, enter0, setAll, forget, Fr.set, Fr.get, PT.get, PT.set, kof, ai, ev, ev1, evp, b_add, b_sub, b_mul, b_quo, b_rem, b_eql, b_neq, b_lss, b_leq, b_gtr, b_geq, b_seql, b_sneq, setD, resV, resL, res1, args, List.take_zero, List.drop_zero, List.take_nil, List.take_succ_cons, List.drop_succ_cons, Nat.reduceAdd, Nat.reduceLeDiff, reduceIte, Bool.not_true, Bool.not_false, Bool.false_eq_true, CA_some, Option.some.injEq, Nat.zero_add, Nat.mul_one, Nat.add_zero, setL, List.set_cons_zero, List.set_cons_succ, fillC]
theorem mk_Proof : MkOk cd 38 TProof := by
  intro h cs v S k hv ho hk
  obtain ⟨vs, rfl, q0⟩ := hv.st
  obtain ⟨v0, r0, S0, T0, rfl, rfl, h0, q1⟩ := q0.step
  obtain ⟨c0, e0⟩ := h0.one rfl
  rw [e0] at h0
  obtain ⟨v1, r1, S1, T1, rfl, rfl, h1, q2⟩ := q1.step
  obtain ⟨_, rfl, rfl⟩ := q2
  have hsz : cs.length = 6 := hv.size
  simp only [Ty.size, Ty.sizes, Nat.reduceAdd, Nat.zero_add, List.drop_zero] at e0 hsz h1
  have hcn : cnT TProof (.r [v0, v1]) = (cnT (.sl THead) v0 + (cnT TQc v1 + 0)) := rfl
  have hmk : mkT TProof (.r [v0, v1]) k = .r [mkT (.sl THead) v0 (k), mkT TQc v1 (k + cnT (.sl THead) v0)] := rfl
  rw [hmk]
  rw [hcn] at hk ⊢
  simp only [List.nil_append, List.append_nil] at ho ⊢
  obtain ⟨o0, ho0, x0, xx0⟩ := ho.split
  have o1 := ho0
  refine WS_enter k38 rfl ?_
  simp (disch := omega) only [KC_eq, c38, e0, hsz, ifT, w64, RR, RP, Ty.agg, Ty.size, Ty.sizes, eq_self, ne_eq, not_true, not_false_iff, reduceCtorEq, List.length_cons, List.length_nil, decide_true, decide_false, true_and, and_true, ite_true, ite_false, PT.full, enter0, setAll, forget, Fr.set, Fr.get, PT.get, PT.set, kof, ai, ev, ev1, evp, b_add, b_sub, b_mul, b_quo, b_rem, b_eql, b_neq, b_lss, b_leq, b_gtr, b_geq, b_seql, b_sneq, setD, resV, resL, res1, args, List.take_zero, List.drop_zero, List.take_nil, List.take_succ_cons, List.drop_succ_cons, Nat.reduceAdd, Nat.reduceLeDiff, reduceIte, Bool.not_true, Bool.not_false, Bool.false_eq_true, CA_some, Option.some.injEq, Nat.zero_add, Nat.mul_one, Nat.add_zero, setL, List.set_cons_zero, List.set_cons_succ, fillC]
  refine MkOk.go mk_HeadS h0 o0 (k := k) (by omega) (fun g0 w0 z0 => ?_)
  simp (disch := omega) only [KC_eq, c38, e0, hsz, ifT, w64, RR, RP, Ty.agg, Ty.size, Ty.sizes, eq_self, ne_eq, not_true, not_false_iff, reduceCtorEq, List.length_cons, List.length_nil, decide_true, decide_false, true_and, and_true, ite_true, ite_false, PT.full, enter0, setAll, forget, Fr.set, Fr.get, PT.get, PT.set, kof, ai, ev, ev1, evp, b_add, b_sub, b_mul, b_quo, b_rem, b_eql, b_neq, b_lss, b_leq, b_gtr, b_geq, b_seql, b_sneq, setD, resV, resL, res1, args, List.take_zero, List.drop_zero, List.take_nil, List.take_succ_cons, List.drop_succ_cons, Nat.reduceAdd, Nat.reduceLeDiff, reduceIte, Bool.not_true, Bool.not_false, Bool.false_eq_true, CA_some, Option.some.injEq, Nat.zero_add, Nat.mul_one, Nat.add_zero, setL, List.set_cons_zero, List.set_cons_succ, fillC]
  refine MkOk.go mk_Qc (h1.wrote w0 (fun i hi => xx0 i (by simp [hi]))) (w0.ownd o1) (k := k + cnT (.sl THead) v0) (by omega) (fun g1 w1 z1 => ?_)
  simp (disch := omega) only [KC_eq, c38, e0, hsz, ifT, w64, RR, RP, Ty.agg, Ty.size, Ty.sizes, eq_self, ne_eq, not_true, not_false_iff, reduceCtorEq, List.length_cons, List.length_nil, decide_true, decide_false, true_and, and_true, ite_true, ite_false, PT.full, enter0, setAll, forget, Fr.set, Fr.get, PT.get, PT.set, kof, ai, ev, ev1, evp, b_add, b_sub, b_mul, b_quo, b_rem, b_eql, b_neq, b_lss, b_leq, b_gtr, b_geq, b_seql, b_sneq, setD, resV, resL, res1, args, List.take_zero, List.drop_zero, List.take_nil, List.take_succ_cons, List.drop_succ_cons, Nat.reduceAdd, Nat.reduceLeDiff, reduceIte, Bool.not_true, Bool.not_false, Bool.false_eq_true, CA_some, Option.some.injEq, Nat.zero_add, Nat.mul_one, Nat.add_zero, setL, List.set_cons_zero, List.set_cons_succ, fillC]
  have fin : Rs g1 [(.sl THead), TQc] (cs.drop 0) [mkT (.sl THead) v0 (k), mkT TQc v1 (k + cnT (.sl THead) v0)] _ := (Rs.unstep (o := 0) (Rp.cs_at e0 (z0.wrote w1 (fun i hi hn => x0 i hi (by simp [hn])))) (Rs.unstep (o := 1) z1 (Rs.fin (Nat.le_of_eq hsz))))
  simp only [List.nil_append, List.append_nil, List.drop_zero] at fin
  have wr := (((Wrote.refl ho.2).more w0 (fun i hi => by simp [hi])).more w1 (fun i hi => by simp [hi]))
  first
    | exact ⟨wr, _, rfl, fin⟩
    | (refine ⟨?_, wr, _, rfl, fin⟩
       congr 3
       omega)
theorem hd_Proof : HdOk cd 124 TProof := by
  intro h cs v S k hT hv hk
  obtain ⟨h0_, cs0, S0_, hT⟩ := hT
  obtain ⟨wvs, rfl, wq0⟩ := hT.st
  obtain ⟨wv0, wr0, wS0, wT0, rfl, rfl, wh0, wq1⟩ := wq0.step
  obtain ⟨wc0, we0⟩ := wh0.one rfl
  rw [we0] at wh0
  obtain ⟨wv1, wr1, wS1, wT1, rfl, rfl, wh1, wq2⟩ := wq1.step
  obtain ⟨_, rfl, rfl⟩ := wq2
  have whsz : cs0.length = 6 := hT.size
  have hcn : cnT TProof (.r [wv0, wv1]) = (cnT (.sl THead) wv0 + (cnT TQc wv1 + 0)) := rfl
  have hmk : mkT TProof (.r [wv0, wv1]) k = .r [mkT (.sl THead) wv0 (k), mkT TQc wv1 (k + cnT (.sl THead) wv0)] := rfl
  rw [hmk] at hv
  rw [hcn] at hk ⊢
  obtain ⟨vs, hvs, q0⟩ := hv.st
  simp only [Tv.r.injEq] at hvs
  subst hvs
  obtain ⟨v0, r0, S0, T0, hv0, hS0, h0, q1⟩ := q0.step
  obtain ⟨rfl, rfl⟩ := List.cons.inj hv0
  obtain ⟨c0, e0⟩ := h0.one rfl
  rw [e0] at h0
  obtain ⟨v1, r1, S1, T1, hv1, hS1, h1, q2⟩ := q1.step
  obtain ⟨rfl, rfl⟩ := List.cons.inj hv1
  have hsz : cs.length = 6 := hv.size
  simp only [Ty.size, Ty.sizes, Nat.reduceAdd, Nat.zero_add, List.drop_zero] at e0 hsz h1
  refine WS_enter k124 rfl ?_
  simp (disch := omega) only [KC_eq, c124, e0, hsz, ifT, w64, RR, RP, Ty.agg, Ty.size, Ty.sizes, eq_self, ne_eq, not_true, not_false_iff, reduceCtorEq, List.length_cons, List.length_nil, decide_true, decide_false, true_and, and_true, ite_true, ite_false, PT.full, enter0, setAll, forget, Fr.set, Fr.get, PT.get, PT.set, kof, ai, ev, ev1, evp, b_add, b_sub, b_mul, b_quo, b_rem, b_eql, b_neq, b_lss, b_leq, b_gtr, b_geq, b_seql, b_sneq, setD, resV, resL, res1, args, List.take_zero, List.drop_zero, List.take_nil, List.take_succ_cons, List.drop_succ_cons, Nat.reduceAdd, Nat.reduceLeDiff, reduceIte, Bool.not_true, Bool.not_false, Bool.false_eq_true, CA_some, Option.some.injEq, Nat.zero_add, Nat.mul_one, Nat.add_zero, setL, List.set_cons_zero, List.set_cons_succ, fillC]
  refine HdOk.go hd_HeadS ⟨_, _, _, wh0⟩ h0 (k := k) (by omega) ?_
  simp (disch := omega) only [KC_eq, c124, e0, hsz, ifT, w64, RR, RP, Ty.agg, Ty.size, Ty.sizes, eq_self, ne_eq, not_true, not_false_iff, reduceCtorEq, List.length_cons, List.length_nil, decide_true, decide_false, true_and, and_true, ite_true, ite_false, PT.full, enter0, setAll, forget, Fr.set, Fr.get, PT.get, PT.set, kof, ai, ev, ev1, evp, b_add, b_sub, b_mul, b_quo, b_rem, b_eql, b_neq, b_lss, b_leq, b_gtr, b_geq, b_seql, b_sneq, setD, resV, resL, res1, args, List.take_zero, List.drop_zero, List.take_nil, List.take_succ_cons, List.drop_succ_cons, Nat.reduceAdd, Nat.reduceLeDiff, reduceIte, Bool.not_true, Bool.not_false, Bool.false_eq_true, CA_some, Option.some.injEq, Nat.zero_add, Nat.mul_one, Nat.add_zero, setL, List.set_cons_zero, List.set_cons_succ, fillC]
  refine BR_dec (fun hn => absurd hn (by omega)) (fun hn => ?_)
  simp (disch := omega) only [KC_eq, c124, e0, hsz, ifT, w64, RR, RP, Ty.agg, Ty.size, Ty.sizes, eq_self, ne_eq, not_true, not_false_iff, reduceCtorEq, List.length_cons, List.length_nil, decide_true, decide_false, true_and, and_true, ite_true, ite_false, PT.full, enter0, setAll, forget, Fr.set, Fr.get, PT.get, PT.set, kof, ai, ev, ev1, evp, b_add, b_sub, b_mul, b_quo, b_rem, b_eql, b_neq, b_lss, b_leq, b_gtr, b_geq, b_seql, b_sneq, setD, resV, resL, res1, args, List.take_zero, List.drop_zero, List.take_nil, List.take_succ_cons, List.drop_succ_cons, Nat.reduceAdd, Nat.reduceLeDiff, reduceIte, Bool.not_true, Bool.not_false, Bool.false_eq_true, CA_some, Option.some.injEq, Nat.zero_add, Nat.mul_one, Nat.add_zero, setL, List.set_cons_zero, List.set_cons_succ, fillC]
  refine HdOk.go hd_Qc ⟨_, _, _, wh1⟩ h1 (k := k + cnT (.sl THead) wv0) (by omega) ?_
  simp (disch := omega) only [KC_eq, c124, e0, hsz, ifT, w64, RR, RP, Ty.agg, Ty.size, Ty.sizes, eq_self, ne_eq, not_true, not_false_iff, reduceCtorEq, List.length_cons, List.length_nil, decide_true, decide_false, true_and, and_true, ite_true, ite_false, PT.full, enter0, setAll, forget, Fr.set, Fr.get, PT.get, PT.set, kof, ai, ev, ev1, evp, b_add, b_sub, b_mul, b_quo, b_rem, b_eql, b_neq, b_lss, b_leq, b_gtr, b_geq, b_seql, b_sneq, setD, resV, resL, res1, args, List.take_zero, List.drop_zero, List.take_nil, List.take_succ_cons, List.drop_succ_cons, Nat.reduceAdd, Nat.reduceLeDiff, reduceIte, Bool.not_true, Bool.not_false, Bool.false_eq_true, CA_some, Option.some.injEq, Nat.zero_add, Nat.mul_one, Nat.add_zero, setL, List.set_cons_zero, List.set_cons_succ, fillC]
  refine BR_dec (fun hn => absurd hn (by omega)) (fun hn => ?_)
  simp (disch := omega) only [KC_eq, c124, e0, hsz, ifT, w64, RR, RP, Ty.agg, Ty.size, Ty.sizes, eq_self, ne_eq, not_true, not_false_iff, reduceCtorEq, List.length_cons, List.length_nil, decide_true, decide_false, true_and, and_true, ite_true, ite_false, PT.full, enter0, setAll, forget, Fr.set, Fr.get, PT.get, PT.set, kof, ai, ev, ev1, evp, b_add, b_sub, b_mul, b_quo, b_rem, b_eql, b_neq, b_lss, b_leq, b_gtr, b_geq, b_seql, b_sneq, setD, resV, resL, res1, args, List.take_zero, List.drop_zero, List.take_nil, List.take_succ_cons, List.drop_succ_cons, Nat.reduceAdd, Nat.reduceLeDiff, reduceIte, Bool.not_true, Bool.not_false, Bool.false_eq_true, CA_some, Option.some.injEq, Nat.zero_add, Nat.mul_one, Nat.add_zero, setL, List.set_cons_zero, List.set_cons_succ, fillC]
  all_goals congr 3
  all_goals omega
theorem eq_Incl : EqOk cd 46 TIncl := by
  intro h ca cb va vb Sa Sb ha hb
  obtain ⟨avs, rfl, aq0⟩ := ha.st
  obtain ⟨av0, ar0, aS0, aT0, rfl, rfl, ah0, aq1⟩ := aq0.step
  obtain ⟨an0, ae0, rfl, rfl, alo0, ahi0⟩ := ah0.int
  obtain ⟨av1, ar1, aS1, aT1, rfl, rfl, ah1, aq2⟩ := aq1.step
  obtain ⟨an1, ae1, rfl, rfl, alo1, ahi1⟩ := ah1.int
  obtain ⟨av2, ar2, aS2, aT2, rfl, rfl, ah2, aq3⟩ := aq2.step
  obtain ⟨an2, ae2, rfl, rfl, alo2, ahi2⟩ := ah2.int
  obtain ⟨av3, ar3, aS3, aT3, rfl, rfl, ah3, aq4⟩ := aq3.step
  obtain ⟨ac3, ae3⟩ := ah3.one rfl
  rw [ae3] at ah3
  obtain ⟨av4, ar4, aS4, aT4, rfl, rfl, ah4, aq5⟩ := aq4.step
  obtain ⟨ac4, ae4⟩ := ah4.one rfl
  rw [ae4] at ah4
  obtain ⟨_, rfl, rfl⟩ := aq5
  have ahsz : ca.length = 5 := ha.size
  obtain ⟨bvs, rfl, bq0⟩ := hb.st
  obtain ⟨bv0, br0, bS0, bT0, rfl, rfl, bh0, bq1⟩ := bq0.step
  obtain ⟨bn0, be0, rfl, rfl, blo0, bhi0⟩ := bh0.int
  obtain ⟨bv1, br1, bS1, bT1, rfl, rfl, bh1, bq2⟩ := bq1.step
  obtain ⟨bn1, be1, rfl, rfl, blo1, bhi1⟩ := bh1.int
  obtain ⟨bv2, br2, bS2, bT2, rfl, rfl, bh2, bq3⟩ := bq2.step
  obtain ⟨bn2, be2, rfl, rfl, blo2, bhi2⟩ := bh2.int
  obtain ⟨bv3, br3, bS3, bT3, rfl, rfl, bh3, bq4⟩ := bq3.step
  obtain ⟨bc3, be3⟩ := bh3.one rfl
  rw [be3] at bh3
  obtain ⟨bv4, br4, bS4, bT4, rfl, rfl, bh4, bq5⟩ := bq4.step
  obtain ⟨bc4, be4⟩ := bh4.one rfl
  rw [be4] at bh4
  obtain ⟨_, rfl, rfl⟩ := bq5
  have bhsz : cb.length = 5 := hb.size
  simp only [Ty.size, Ty.sizes, Nat.reduceAdd, Nat.zero_add, List.drop_zero] at ae0 ae1 ae2 ae3 ae4 ahsz be0 be1 be2 be3 be4 bhsz
  refine WS_enter k46 rfl ?_
  simp (disch := omega) only [KC_eq, c46, ae0, ae1, ae2, ae3, ae4, ahsz, be0, be1, be2, be3, be4, bhsz, ifT, w64, RR, RP, Ty.agg, Ty.size, Ty.sizes, eq_self, ne_eq, not_true, not_false_iff, reduceCtorEq, List.length_cons, List.length_nil, decide_true, decide_false, true_and, and_true, ite_true, ite_false, PT.full, enter0, setAll, forget, Fr.set, Fr.get, PT.get, PT.set, kof, ai, ev, ev1, evp, b_add, b_sub, b_mul, b_quo, b_rem, b_eql, b_neq, b_lss, b_leq, b_gtr, b_geq, b_seql, b_sneq, setD, resV, resL, res1, args, List.take_zero, List.drop_zero, List.take_nil, List.take_succ_cons, List.drop_succ_cons, Nat.reduceAdd, Nat.reduceLeDiff, reduceIte, Bool.not_true, Bool.not_false, Bool.false_eq_true, CA_some, Option.some.injEq, Nat.zero_add, Nat.mul_one, Nat.add_zero, setL, List.set_cons_zero, List.set_cons_succ, fillC]
  refine BR_dec (fun hn => ?_) (fun hn => ?_)
  case refine_1 =>
    simp (disch := omega) only [KC_eq, c46, ae0, ae1, ae2, ae3, ae4, ahsz, be0, be1, be2, be3, be4, bhsz, ifT, w64, RR, RP, Ty.agg, Ty.size, Ty.sizes, eq_self, ne_eq, not_true, not_false_iff, reduceCtorEq, List.length_cons, List.length_nil, decide_true, decide_false, true_and, and_true, ite_true, ite_false, PT.full, enter0, setAll, forget, Fr.set, Fr.get, PT.get, PT.set, kof, ai, ev, ev1, evp, b_add, b_sub, b_mul, b_quo, b_rem, b_eql, b_neq, b_lss, b_leq, b_gtr, b_geq, b_seql, b_sneq, setD, resV, resL, res1, args, List.take_zero, List.drop_zero, List.take_nil, List.take_succ_cons, List.drop_succ_cons, Nat.reduceAdd, Nat.reduceLeDiff, reduceIte, Bool.not_true, Bool.not_false, Bool.false_eq_true, CA_some, Option.some.injEq, Nat.zero_add, Nat.mul_one, Nat.add_zero, setL, List.set_cons_zero, List.set_cons_succ, fillC]
    simp [hn]
  have d0 : an0 = bn0 := by omega
  subst d0
  simp (disch := omega) only [KC_eq, c46, ae0, ae1, ae2, ae3, ae4, ahsz, be0, be1, be2, be3, be4, bhsz, ifT, w64, RR, RP, Ty.agg, Ty.size, Ty.sizes, eq_self, ne_eq, not_true, not_false_iff, reduceCtorEq, List.length_cons, List.length_nil, decide_true, decide_false, true_and, and_true, ite_true, ite_false, PT.full, enter0, setAll, forget, Fr.set, Fr.get, PT.get, PT.set, kof, ai, ev, ev1, evp, b_add, b_sub, b_mul, b_quo, b_rem, b_eql, b_neq, b_lss, b_leq, b_gtr, b_geq, b_seql, b_sneq, setD, resV, resL, res1, args, List.take_zero, List.drop_zero, List.take_nil, List.take_succ_cons, List.drop_succ_cons, Nat.reduceAdd, Nat.reduceLeDiff, reduceIte, Bool.not_true, Bool.not_false, Bool.false_eq_true, CA_some, Option.some.injEq, Nat.zero_add, Nat.mul_one, Nat.add_zero, setL, List.set_cons_zero, List.set_cons_succ, fillC]
  refine BR_dec (fun hn => ?_) (fun hn => ?_)
  case refine_1 =>
    simp (disch := omega) only [KC_eq, c46, ae0, ae1, ae2, ae3, ae4, ahsz, be0, be1, be2, be3, be4, bhsz, ifT, w64, RR, RP, Ty.agg, Ty.size, Ty.sizes, eq_self, ne_eq, not_true, not_false_iff, reduceCtorEq, List.length_cons, List.length_nil, decide_true, decide_false, true_and, and_true, ite_true, ite_false, PT.full, enter0, setAll, forget, Fr.set, Fr.get, PT.get, PT.set, kof, ai, ev, ev1, evp, b_add, b_sub, b_mul, b_quo, b_rem, b_eql, b_neq, b_lss, b_leq, b_gtr, b_geq, b_seql, b_sneq, setD, resV, resL, res1, args, List.take_zero, List.drop_zero, List.take_nil, List.take_succ_cons, List.drop_succ_cons, Nat.reduceAdd, Nat.reduceLeDiff, reduceIte, Bool.not_true, Bool.not_false, Bool.false_eq_true, CA_some, Option.some.injEq, Nat.zero_add, Nat.mul_one, Nat.add_zero, setL, List.set_cons_zero, List.set_cons_succ, fillC]
    simp [hn]
  have d1 : an1 = bn1 := by omega
  subst d1
  simp (disch := omega) only [KC_eq, c46, ae0, ae1, ae2, ae3, ae4, ahsz, be0, be1, be2, be3, be4, bhsz, ifT, w64, RR, RP, Ty.agg, Ty.size, Ty.sizes, eq_self, ne_eq, not_true, not_false_iff, reduceCtorEq, List.length_cons, List.length_nil, decide_true, decide_false, true_and, and_true, ite_true, ite_false, PT.full, enter0, setAll, forget, Fr.set, Fr.get, PT.get, PT.set, kof, ai, ev, ev1, evp, b_add, b_sub, b_mul, b_quo, b_rem, b_eql, b_neq, b_lss, b_leq, b_gtr, b_geq, b_seql, b_sneq, setD, resV, resL, res1, args, List.take_zero, List.drop_zero, List.take_nil, List.take_succ_cons, List.drop_succ_cons, Nat.reduceAdd, Nat.reduceLeDiff, reduceIte, Bool.not_true, Bool.not_false, Bool.false_eq_true, CA_some, Option.some.injEq, Nat.zero_add, Nat.mul_one, Nat.add_zero, setL, List.set_cons_zero, List.set_cons_succ, fillC]
  refine BR_dec (fun hn => ?_) (fun hn => ?_)
  case refine_1 =>
    simp (disch := omega) only [KC_eq, c46, ae0, ae1, ae2, ae3, ae4, ahsz, be0, be1, be2, be3, be4, bhsz, ifT, w64, RR, RP, Ty.agg, Ty.size, Ty.sizes, eq_self, ne_eq, not_true, not_false_iff, reduceCtorEq, List.length_cons, List.length_nil, decide_true, decide_false, true_and, and_true, ite_true, ite_false, PT.full, enter0, setAll, forget, Fr.set, Fr.get, PT.get, PT.set, kof, ai, ev, ev1, evp, b_add, b_sub, b_mul, b_quo, b_rem, b_eql, b_neq, b_lss, b_leq, b_gtr, b_geq, b_seql, b_sneq, setD, resV, resL, res1, args, List.take_zero, List.drop_zero, List.take_nil, List.take_succ_cons, List.drop_succ_cons, Nat.reduceAdd, Nat.reduceLeDiff, reduceIte, Bool.not_true, Bool.not_false, Bool.false_eq_true, CA_some, Option.some.injEq, Nat.zero_add, Nat.mul_one, Nat.add_zero, setL, List.set_cons_zero, List.set_cons_succ, fillC]
    simp [hn]
  have d2 : an2 = bn2 := by omega
  subst d2
  simp (disch := omega) only [KC_eq, c46, ae0, ae1, ae2, ae3, ae4, ahsz, be0, be1, be2, be3, be4, bhsz, ifT, w64, RR, RP, Ty.agg, Ty.size, Ty.sizes, eq_self, ne_eq, not_true, not_false_iff, reduceCtorEq, List.length_cons, List.length_nil, decide_true, decide_false, true_and, and_true, ite_true, ite_false, PT.full, enter0, setAll, forget, Fr.set, Fr.get, PT.get, PT.set, kof, ai, ev, ev1, evp, b_add, b_sub, b_mul, b_quo, b_rem, b_eql, b_neq, b_lss, b_leq, b_gtr, b_geq, b_seql, b_sneq, setD, resV, resL, res1, args, List.take_zero, List.drop_zero, List.take_nil, List.take_succ_cons, List.drop_succ_cons, Nat.reduceAdd, Nat.reduceLeDiff, reduceIte, Bool.not_true, Bool.not_false, Bool.false_eq_true, CA_some, Option.some.injEq, Nat.zero_add, Nat.mul_one, Nat.add_zero, setL, List.set_cons_zero, List.set_cons_succ, fillC]
  refine EqOk.go eq_ByteS ah3 bh3 (fun d3 => ?_) (fun d3 => ?_)
  case refine_2 =>
    simp (disch := omega) only [KC_eq, c46, ae0, ae1, ae2, ae3, ae4, ahsz, be0, be1, be2, be3, be4, bhsz, ifT, w64, RR, RP, Ty.agg, Ty.size, Ty.sizes, eq_self, ne_eq, not_true, not_false_iff, reduceCtorEq, List.length_cons, List.length_nil, decide_true, decide_false, true_and, and_true, ite_true, ite_false, PT.full, enter0, setAll, forget, Fr.set, Fr.get, PT.get, PT.set, kof, ai, ev, ev1, evp, b_add, b_sub, b_mul, b_quo, b_rem, b_eql, b_neq, b_lss, b_leq, b_gtr, b_geq, b_seql, b_sneq, setD, resV, resL, res1, args, List.take_zero, List.drop_zero, List.take_nil, List.take_succ_cons, List.drop_succ_cons, Nat.reduceAdd, Nat.reduceLeDiff, reduceIte, Bool.not_true, Bool.not_false, Bool.false_eq_true, CA_some, Option.some.injEq, Nat.zero_add, Nat.mul_one, Nat.add_zero, setL, List.set_cons_zero, List.set_cons_succ, fillC]
    simp [d3]
  subst d3
  simp (disch := omega) only [KC_eq, c46, ae0, ae1, ae2, ae3, ae4, ahsz, be0, be1, be2, be3, be4, bhsz, ifT, w64, RR, RP, Ty.agg, Ty.size, Ty.sizes, eq_self, ne_eq, not_true, not_false_iff, reduceCtorEq, List.length_cons, List.length_nil, decide_true, decide_false, true_and, and_true, ite_true, ite_false, PT.full, enter0, setAll, forget, Fr.set, Fr.get, PT.get, PT.set, kof, ai, ev, ev1, evp, b_add, b_sub, b_mul, b_quo, b_rem, b_eql, b_neq, b_lss, b_leq, b_gtr, b_geq, b_seql, b_sneq, setD, resV, resL, res1, args, List.take_zero, List.drop_zero, List.take_nil, List.take_succ_cons, List.drop_succ_cons, Nat.reduceAdd, Nat.reduceLeDiff, reduceIte, Bool.not_true, Bool.not_false, Bool.false_eq_true, CA_some, Option.some.injEq, Nat.zero_add, Nat.mul_one, Nat.add_zero, setL, List.set_cons_zero, List.set_cons_succ, fillC]
  refine EqOk.go eq_ByteSS ah4 bh4 (fun d4 => ?_) (fun d4 => ?_)
  case refine_2 =>
    simp (disch := omega) only [KC_eq, c46, ae0, ae1, ae2, ae3, ae4, ahsz, be0, be1, be2, be3, be4, bhsz, ifT, w64, RR, RP, Ty.agg, Ty.size, Ty.sizes, eq_self, ne_eq, not_true, not_false_iff, reduceCtorEq, List.length_cons, List.length_nil, decide_true, decide_false, true_and, and_true, ite_true, ite_false, PT.full, enter0, setAll, forget, Fr.set, Fr.get, PT.get, PT.set, kof, ai, ev, ev1, evp, b_add, b_sub, b_mul, b_quo, b_rem, b_eql, b_neq, b_lss, b_leq, b_gtr, b_geq, b_seql, b_sneq, setD, resV, resL, res1, args, List.take_zero, List.drop_zero, List.take_nil, List.take_succ_cons, List.drop_succ_cons, Nat.reduceAdd, Nat.reduceLeDiff, reduceIte, Bool.not_true, Bool.not_false, Bool.false_eq_true, CA_some, Option.some.injEq, Nat.zero_add, Nat.mul_one, Nat.add_zero, setL, List.set_cons_zero, List.set_cons_succ, fillC]
    simp [d4]
  subst d4
  simp (disch := omega) only [KC_eq, c46, ae0, ae1, ae2, ae3, ae4, ahsz, be0, be1, be2, be3, be4, bhsz, ifT, w64, RR, RP, Ty.agg, Ty.size, Ty.sizes, eq_self, ne_eq, not_true, not_false_iff, reduceCtorEq, List.length_cons, List.length_nil, decide_true, decide_false, true_and, and_true, ite_true, ite_false, PT.full, enter0, setAll, forget, Fr.set, Fr.get, PT.get, PT.set, kof, ai, ev, ev1, evp, b_add, b_sub, b_mul, b_quo, b_rem, b_eql, b_neq, b_lss, b_leq, b_gtr, b_geq, b_seql, b_sneq, setD, resV, resL, res1, args, List.take_zero, List.drop_zero, List.take_nil, List.take_succ_cons, List.drop_succ_cons, Nat.reduceAdd, Nat.reduceLeDiff, reduceIte, Bool.not_true, Bool.not_false, Bool.false_eq_true, CA_some, Option.some.injEq, Nat.zero_add, Nat.mul_one, Nat.add_zero, setL, List.set_cons_zero, List.set_cons_succ, fillC]
theorem mk_Incl : MkOk cd 47 TIncl := by
  intro h cs v S k hv ho hk
  obtain ⟨vs, rfl, q0⟩ := hv.st
  obtain ⟨v0, r0, S0, T0, rfl, rfl, h0, q1⟩ := q0.step
  obtain ⟨n0, e0, rfl, rfl, lo0, hi0⟩ := h0.int
  obtain ⟨v1, r1, S1, T1, rfl, rfl, h1, q2⟩ := q1.step
  obtain ⟨n1, e1, rfl, rfl, lo1, hi1⟩ := h1.int
  obtain ⟨v2, r2, S2, T2, rfl, rfl, h2, q3⟩ := q2.step
  obtain ⟨n2, e2, rfl, rfl, lo2, hi2⟩ := h2.int
  obtain ⟨v3, r3, S3, T3, rfl, rfl, h3, q4⟩ := q3.step
  obtain ⟨c3, e3⟩ := h3.one rfl
  rw [e3] at h3
  obtain ⟨v4, r4, S4, T4, rfl, rfl, h4, q5⟩ := q4.step
  obtain ⟨c4, e4⟩ := h4.one rfl
  rw [e4] at h4
  obtain ⟨_, rfl, rfl⟩ := q5
  have hsz : cs.length = 5 := hv.size
  simp only [Ty.size, Ty.sizes, Nat.reduceAdd, Nat.zero_add, List.drop_zero] at e0 e1 e2 e3 e4 hsz
  have hcn : cnT TIncl (.r [.i n0, .i n1, .i n2, v3, v4]) = (0 + (0 + (0 + (cnT (.sl (.int .u8)) v3 + (cnT (.sl (.sl (.int .u8))) v4 + 0))))) := rfl
  have hmk : mkT TIncl (.r [.i n0, .i n1, .i n2, v3, v4]) k = .r [.i n0, .i n1, .i n2, mkT (.sl (.int .u8)) v3 (k), mkT (.sl (.sl (.int .u8))) v4 (k + cnT (.sl (.int .u8)) v3)] := rfl
  rw [hmk]
  rw [hcn] at hk ⊢
  simp only [List.nil_append, List.append_nil] at ho ⊢
  obtain ⟨o3, ho3, x3, xx3⟩ := ho.split
  have o4 := ho3
  refine WS_enter k47 rfl ?_
  simp (disch := omega) only [KC_eq, c47, e0, e1, e2, e3, e4, hsz, ifT, w64, RR, RP, Ty.agg, Ty.size, Ty.sizes, eq_self, ne_eq, not_true, not_false_iff, reduceCtorEq, List.length_cons, List.length_nil, decide_true, decide_false, true_and, and_true, ite_true, ite_false, PT.full, enter0, setAll, forget, Fr.set, Fr.get, PT.get, PT.set, kof, ai, ev, ev1, evp, b_add, b_sub, b_mul, b_quo, b_rem, b_eql, b_neq, b_lss, b_leq, b_gtr, b_geq, b_seql, b_sneq, setD, resV, resL, res1, args, List.take_zero, List.drop_zero, List.take_nil, List.take_succ_cons, List.drop_succ_cons, Nat.reduceAdd, Nat.reduceLeDiff, reduceIte, Bool.not_true, Bool.not_false, Bool.false_eq_true, CA_some, Option.some.injEq, Nat.zero_add, Nat.mul_one, Nat.add_zero, setL, List.set_cons_zero, List.set_cons_succ, fillC]
  refine MkOk.go mk_ByteS h3 o3 (k := k) (by omega) (fun g3 w3 z3 => ?_)
  simp (disch := omega) only [KC_eq, c47, e0, e1, e2, e3, e4, hsz, ifT, w64, RR, RP, Ty.agg, Ty.size, Ty.sizes, eq_self, ne_eq, not_true, not_false_iff, reduceCtorEq, List.length_cons, List.length_nil, decide_true, decide_false, true_and, and_true, ite_true, ite_false, PT.full, enter0, setAll, forget, Fr.set, Fr.get, PT.get, PT.set, kof, ai, ev, ev1, evp, b_add, b_sub, b_mul, b_quo, b_rem, b_eql, b_neq, b_lss, b_leq, b_gtr, b_geq, b_seql, b_sneq, setD, resV, resL, res1, args, List.take_zero, List.drop_zero, List.take_nil, List.take_succ_cons, List.drop_succ_cons, Nat.reduceAdd, Nat.reduceLeDiff, reduceIte, Bool.not_true, Bool.not_false, Bool.false_eq_true, CA_some, Option.some.injEq, Nat.zero_add, Nat.mul_one, Nat.add_zero, setL, List.set_cons_zero, List.set_cons_succ, fillC]
  refine MkOk.go mk_ByteSS (h4.wrote w3 (fun i hi => xx3 i (by simp [hi]))) (w3.ownd o4) (k := k + cnT (.sl (.int .u8)) v3) (by omega) (fun g4 w4 z4 => ?_)
  simp (disch := omega) only [KC_eq, c47, e0, e1, e2, e3, e4, hsz, ifT, w64, RR, RP, Ty.agg, Ty.size, Ty.sizes, eq_self, ne_eq, not_true, not_false_iff, reduceCtorEq, List.length_cons, List.length_nil, decide_true, decide_false, true_and, and_true, ite_true, ite_false, PT.full, enter0, setAll, forget, Fr.set, Fr.get, PT.get, PT.set, kof, ai, ev, ev1, evp, b_add, b_sub, b_mul, b_quo, b_rem, b_eql, b_neq, b_lss, b_leq, b_gtr, b_geq, b_seql, b_sneq, setD, resV, resL, res1, args, List.take_zero, List.drop_zero, List.take_nil, List.take_succ_cons, List.drop_succ_cons, Nat.reduceAdd, Nat.reduceLeDiff, reduceIte, Bool.not_true, Bool.not_false, Bool.false_eq_true, CA_some, Option.some.injEq, Nat.zero_add, Nat.mul_one, Nat.add_zero, setL, List.set_cons_zero, List.set_cons_succ, fillC]
  have fin : Rs g4 [(.int .i64), (.int .i64), (.int .i64), (.sl (.int .u8)), (.sl (.sl (.int .u8)))] (cs.drop 0) [.i n0, .i n1, .i n2, mkT (.sl (.int .u8)) v3 (k), mkT (.sl (.sl (.int .u8))) v4 (k + cnT (.sl (.int .u8)) v3)] _ := (Rs.unstep (o := 0) (Rp.int_at e0 lo0 hi0) (Rs.unstep (o := 1) (Rp.int_at e1 lo1 hi1) (Rs.unstep (o := 2) (Rp.int_at e2 lo2 hi2) (Rs.unstep (o := 3) (Rp.cs_at e3 (z3.wrote w4 (fun i hi hn => x3 i hi (by simp [hn])))) (Rs.unstep (o := 4) (Rp.cs_at e4 z4) (Rs.fin (Nat.le_of_eq hsz)))))))
  simp only [List.nil_append, List.append_nil, List.drop_zero] at fin
  have wr := (((Wrote.refl ho.2).more w3 (fun i hi => by simp [hi])).more w4 (fun i hi => by simp [hi]))
  first
    | exact ⟨wr, _, rfl, fin⟩
    | (refine ⟨?_, wr, _, rfl, fin⟩
       congr 3
       omega)
theorem hd_Incl : HdOk cd 125 TIncl := by
  intro h cs v S k hT hv hk
  obtain ⟨h0_, cs0, S0_, hT⟩ := hT
  obtain ⟨wvs, rfl, wq0⟩ := hT.st
  obtain ⟨wv0, wr0, wS0, wT0, rfl, rfl, wh0, wq1⟩ := wq0.step
  obtain ⟨wn0, we0, rfl, rfl, wlo0, whi0⟩ := wh0.int
  obtain ⟨wv1, wr1, wS1, wT1, rfl, rfl, wh1, wq2⟩ := wq1.step
  obtain ⟨wn1, we1, rfl, rfl, wlo1, whi1⟩ := wh1.int
  obtain ⟨wv2, wr2, wS2, wT2, rfl, rfl, wh2, wq3⟩ := wq2.step
  obtain ⟨wn2, we2, rfl, rfl, wlo2, whi2⟩ := wh2.int
  obtain ⟨wv3, wr3, wS3, wT3, rfl, rfl, wh3, wq4⟩ := wq3.step
  obtain ⟨wc3, we3⟩ := wh3.one rfl
  rw [we3] at wh3
  obtain ⟨wv4, wr4, wS4, wT4, rfl, rfl, wh4, wq5⟩ := wq4.step
  obtain ⟨wc4, we4⟩ := wh4.one rfl
  rw [we4] at wh4
  obtain ⟨_, rfl, rfl⟩ := wq5
  have whsz : cs0.length = 5 := hT.size
  have hcn : cnT TIncl (.r [.i wn0, .i wn1, .i wn2, wv3, wv4]) = (0 + (0 + (0 + (cnT (.sl (.int .u8)) wv3 + (cnT (.sl (.sl (.int .u8))) wv4 + 0))))) := rfl
  have hmk : mkT TIncl (.r [.i wn0, .i wn1, .i wn2, wv3, wv4]) k = .r [.i wn0, .i wn1, .i wn2, mkT (.sl (.int .u8)) wv3 (k), mkT (.sl (.sl (.int .u8))) wv4 (k + cnT (.sl (.int .u8)) wv3)] := rfl
  rw [hmk] at hv
  rw [hcn] at hk ⊢
  obtain ⟨vs, hvs, q0⟩ := hv.st
  simp only [Tv.r.injEq] at hvs
  subst hvs
  obtain ⟨v0, r0, S0, T0, hv0, hS0, h0, q1⟩ := q0.step
  obtain ⟨rfl, rfl⟩ := List.cons.inj hv0
  obtain ⟨n0, e0, _, _, _, _⟩ := h0.int
  obtain ⟨v1, r1, S1, T1, hv1, hS1, h1, q2⟩ := q1.step
  obtain ⟨rfl, rfl⟩ := List.cons.inj hv1
  obtain ⟨n1, e1, _, _, _, _⟩ := h1.int
  obtain ⟨v2, r2, S2, T2, hv2, hS2, h2, q3⟩ := q2.step
  obtain ⟨rfl, rfl⟩ := List.cons.inj hv2
  obtain ⟨n2, e2, _, _, _, _⟩ := h2.int
  obtain ⟨v3, r3, S3, T3, hv3, hS3, h3, q4⟩ := q3.step
  obtain ⟨rfl, rfl⟩ := List.cons.inj hv3
  obtain ⟨c3, e3⟩ := h3.one rfl
  rw [e3] at h3
  obtain ⟨v4, r4, S4, T4, hv4, hS4, h4, q5⟩ := q4.step
  obtain ⟨rfl, rfl⟩ := List.cons.inj hv4
  obtain ⟨c4, e4⟩ := h4.one rfl
  rw [e4] at h4
  have hsz : cs.length = 5 := hv.size
  simp only [Ty.size, Ty.sizes, Nat.reduceAdd, Nat.zero_add, List.drop_zero] at e0 e1 e2 e3 e4 hsz
  refine WS_enter k125 rfl ?_
  simp (disch := omega) only [KC_eq, c125, e0, e1, e2, e3, e4, hsz, ifT, w64, RR, RP, Ty.agg, Ty.size, Ty.sizes, eq_self, ne_eq, not_true, not_false_iff, reduceCtorEq, List.length_cons, List.length_nil, decide_true, decide_false, true_and, and_true, ite_true, ite_false, PT.full, enter0, setAll, forget, Fr.set, Fr.get, PT.get, PT.set, kof, ai, ev, ev1, evp, b_add, b_sub, b_mul, b_quo, b_rem, b_eql, b_neq, b_lss, b_leq, b_gtr, b_geq, b_seql, b_sneq, setD, resV, resL, res1, args, List.take_zero, List.drop_zero, List.take_nil, List.take_succ_cons, List.drop_succ_cons, Nat.reduceAdd, Nat.reduceLeDiff, reduceIte, Bool.not_true, Bool.not_false, Bool.false_eq_true, CA_some, Option.some.injEq, Nat.zero_add, Nat.mul_one, Nat.add_zero, setL, List.set_cons_zero, List.set_cons_succ, fillC]
  refine HdOk.go hd_ByteS ⟨_, _, _, wh3⟩ h3 (k := k) (by omega) ?_
  simp (disch := omega) only [KC_eq, c125, e0, e1, e2, e3, e4, hsz, ifT, w64, RR, RP, Ty.agg, Ty.size, Ty.sizes, eq_self, ne_eq, not_true, not_false_iff, reduceCtorEq, List.length_cons, List.length_nil, decide_true, decide_false, true_and, and_true, ite_true, ite_false, PT.full, enter0, setAll, forget, Fr.set, Fr.get, PT.get, PT.set, kof, ai, ev, ev1, evp, b_add, b_sub, b_mul, b_quo, b_rem, b_eql, b_neq, b_lss, b_leq, b_gtr, b_geq, b_seql, b_sneq, setD, resV, resL, res1, args, List.take_zero, List.drop_zero, List.take_nil, List.take_succ_cons, List.drop_succ_cons, Nat.reduceAdd, Nat.reduceLeDiff, reduceIte, Bool.not_true, Bool.not_false, Bool.false_eq_true, CA_some, Option.some.injEq, Nat.zero_add, Nat.mul_one, Nat.add_zero, setL, List.set_cons_zero, List.set_cons_succ, fillC]
  refine BR_dec (fun hn => absurd hn (by omega)) (fun hn => ?_)
  simp (disch := omega) only [KC_eq, c125, e0, e1, e2, e3, e4, hsz, ifT, w64, RR, RP, Ty.agg, Ty.size, Ty.sizes, eq_self, ne_eq, not_true, not_false_iff, reduceCtorEq, List.length_cons, List.length_nil, decide_true, decide_false, true_and, and_true, ite_true, ite_false, PT.full, enter0, setAll, forget, Fr.set, Fr.get, PT.get, PT.set, kof, ai, ev, ev1, evp, b_add, b_sub, b_mul, b_quo, b_rem, b_eql, b_neq, b_lss, b_leq, b_gtr, b_geq, b_seql, b_sneq, setD, resV, resL, res1, args, List.take_zero, List.drop_zero, List.take_nil, List.take_succ_cons, List.drop_succ_cons, Nat.reduceAdd, Nat.reduceLeDiff, reduceIte, Bool.not_true, Bool.not_false, Bool.false_eq_true, CA_some, Option.some.injEq, Nat.zero_add, Nat.mul_one, Nat.add_zero, setL, List.set_cons_zero, List.set_cons_succ, fillC]
  refine HdOk.go hd_ByteSS ⟨_, _, _, wh4⟩ h4 (k := k + cnT (.sl (.int .u8)) wv3) (by omega) ?_
  simp (disch := omega) only [KC_eq, c125, e0, e1, e2, e3, e4, hsz, ifT, w64, RR, RP, Ty.agg, Ty.size, Ty.sizes, eq_self, ne_eq, not_true, not_false_iff, reduceCtorEq, List.length_cons, List.length_nil, decide_true, decide_false, true_and, and_true, ite_true, ite_false, PT.full, enter0, setAll, forget, Fr.set, Fr.get, PT.get, PT.set, kof, ai, ev, ev1, evp, b_add, b_sub, b_mul, b_quo, b_rem, b_eql, b_neq, b_lss, b_leq, b_gtr, b_geq, b_seql, b_sneq, setD, resV, resL, res1, args, List.take_zero, List.drop_zero, List.take_nil, List.take_succ_cons, List.drop_succ_cons, Nat.reduceAdd, Nat.reduceLeDiff, reduceIte, Bool.not_true, Bool.not_false, Bool.false_eq_true, CA_some, Option.some.injEq, Nat.zero_add, Nat.mul_one, Nat.add_zero, setL, List.set_cons_zero, List.set_cons_succ, fillC]
  refine BR_dec (fun hn => absurd hn (by omega)) (fun hn => ?_)
  simp (disch := omega) only [KC_eq, c125, e0, e1, e2, e3, e4, hsz, ifT, w64, RR, RP, Ty.agg, Ty.size, Ty.sizes, eq_self, ne_eq, not_true, not_false_iff, reduceCtorEq, List.length_cons, List.length_nil, decide_true, decide_false, true_and, and_true, ite_true, ite_false, PT.full, enter0, setAll, forget, Fr.set, Fr.get, PT.get, PT.set, kof, ai, ev, ev1, evp, b_add, b_sub, b_mul, b_quo, b_rem, b_eql, b_neq, b_lss, b_leq, b_gtr, b_geq, b_seql, b_sneq, setD, resV, resL, res1, args, List.take_zero, List.drop_zero, List.take_nil, List.take_succ_cons, List.drop_succ_cons, Nat.reduceAdd, Nat.reduceLeDiff, reduceIte, Bool.not_true, Bool.not_false, Bool.false_eq_true, CA_some, Option.some.injEq, Nat.zero_add, Nat.mul_one, Nat.add_zero, setL, List.set_cons_zero, List.set_cons_succ, fillC]
  all_goals congr 3
  all_goals omega
theorem eq_Msg : EqOk cd 45 TMsg := by
  intro h ca cb va vb Sa Sb ha hb
  obtain ⟨avs, rfl, aq0⟩ := ha.st
  obtain ⟨av0, ar0, aS0, aT0, rfl, rfl, ah0, aq1⟩ := aq0.step
  obtain ⟨an0, ae0, rfl, rfl, alo0, ahi0⟩ := ah0.int
  obtain ⟨av1, ar1, aS1, aT1, rfl, rfl, ah1, aq2⟩ := aq1.step
  obtain ⟨av2, ar2, aS2, aT2, rfl, rfl, ah2, aq3⟩ := aq2.step
  obtain ⟨av3, ar3, aS3, aT3, rfl, rfl, ah3, aq4⟩ := aq3.step
  obtain ⟨av4, ar4, aS4, aT4, rfl, rfl, ah4, aq5⟩ := aq4.step
  obtain ⟨av5, ar5, aS5, aT5, rfl, rfl, ah5, aq6⟩ := aq5.step
  obtain ⟨av6, ar6, aS6, aT6, rfl, rfl, ah6, aq7⟩ := aq6.step
  obtain ⟨av7, ar7, aS7, aT7, rfl, rfl, ah7, aq8⟩ := aq7.step
  obtain ⟨_, rfl, rfl⟩ := aq8
  have ahsz : ca.length = 45 := ha.size
  obtain ⟨bvs, rfl, bq0⟩ := hb.st
  obtain ⟨bv0, br0, bS0, bT0, rfl, rfl, bh0, bq1⟩ := bq0.step
  obtain ⟨bn0, be0, rfl, rfl, blo0, bhi0⟩ := bh0.int
  obtain ⟨bv1, br1, bS1, bT1, rfl, rfl, bh1, bq2⟩ := bq1.step
  obtain ⟨bv2, br2, bS2, bT2, rfl, rfl, bh2, bq3⟩ := bq2.step
  obtain ⟨bv3, br3, bS3, bT3, rfl, rfl, bh3, bq4⟩ := bq3.step
  obtain ⟨bv4, br4, bS4, bT4, rfl, rfl, bh4, bq5⟩ := bq4.step
  obtain ⟨bv5, br5, bS5, bT5, rfl, rfl, bh5, bq6⟩ := bq5.step
  obtain ⟨bv6, br6, bS6, bT6, rfl, rfl, bh6, bq7⟩ := bq6.step
  obtain ⟨bv7, br7, bS7, bT7, rfl, rfl, bh7, bq8⟩ := bq7.step
  obtain ⟨_, rfl, rfl⟩ := bq8
  have bhsz : cb.length = 45 := hb.size
  simp only [Ty.size, Ty.sizes, Nat.reduceAdd, Nat.zero_add, List.drop_zero] at ae0 ahsz be0 bhsz ah1 ah2 ah3 ah4 ah5 ah6 ah7 bh1 bh2 bh3 bh4 bh5 bh6 bh7
  refine WS_enter k45 rfl ?_
  simp (disch := omega) only [KC_eq, c45, ae0, ahsz, be0, bhsz, ifT, w64, RR, RP, Ty.agg, Ty.size, Ty.sizes, eq_self, ne_eq, not_true, not_false_iff, reduceCtorEq, List.length_cons, List.length_nil, decide_true, decide_false, true_and, and_true, ite_true, ite_false, PT.full, enter0, setAll, forget, Fr.set, Fr.get, PT.get, PT.set, kof, ai, ev, ev1, evp, b_add, b_sub, b_mul, b_quo, b_rem, b_eql, b_neq, b_lss, b_leq, b_gtr, b_geq, b_seql, b_sneq, setD, resV, resL, res1, args, List.take_zero, List.drop_zero, List.take_nil, List.take_succ_cons, List.drop_succ_cons, Nat.reduceAdd, Nat.reduceLeDiff, reduceIte, Bool.not_true, Bool.not_false, Bool.false_eq_true, CA_some, Option.some.injEq, Nat.zero_add, Nat.mul_one, Nat.add_zero, setL, List.set_cons_zero, List.set_cons_succ, fillC]
  refine BR_dec (fun hn => ?_) (fun hn => ?_)
  case refine_1 =>
    simp (disch := omega) only [KC_eq, c45, ae0, ahsz, be0, bhsz, ifT, w64, RR, RP, Ty.agg, Ty.size, Ty.sizes, eq_self, ne_eq, not_true, not_false_iff, reduceCtorEq, List.length_cons, List.length_nil, decide_true, decide_false, true_and, and_true, ite_true, ite_false, PT.full, enter0, setAll, forget, Fr.set, Fr.get, PT.get, PT.set, kof, ai, ev, ev1, evp, b_add, b_sub, b_mul, b_quo, b_rem, b_eql, b_neq, b_lss, b_leq, b_gtr, b_geq, b_seql, b_sneq, setD, resV, resL, res1, args, List.take_zero, List.drop_zero, List.take_nil, List.take_succ_cons, List.drop_succ_cons, Nat.reduceAdd, Nat.reduceLeDiff, reduceIte, Bool.not_true, Bool.not_false, Bool.false_eq_true, CA_some, Option.some.injEq, Nat.zero_add, Nat.mul_one, Nat.add_zero, setL, List.set_cons_zero, List.set_cons_succ, fillC]
    simp [hn]
  have d0 : an0 = bn0 := by omega
  subst d0
  simp (disch := omega) only [KC_eq, c45, ae0, ahsz, be0, bhsz, ifT, w64, RR, RP, Ty.agg, Ty.size, Ty.sizes, eq_self, ne_eq, not_true, not_false_iff, reduceCtorEq, List.length_cons, List.length_nil, decide_true, decide_false, true_and, and_true, ite_true, ite_false, PT.full, enter0, setAll, forget, Fr.set, Fr.get, PT.get, PT.set, kof, ai, ev, ev1, evp, b_add, b_sub, b_mul, b_quo, b_rem, b_eql, b_neq, b_lss, b_leq, b_gtr, b_geq, b_seql, b_sneq, setD, resV, resL, res1, args, List.take_zero, List.drop_zero, List.take_nil, List.take_succ_cons, List.drop_succ_cons, Nat.reduceAdd, Nat.reduceLeDiff, reduceIte, Bool.not_true, Bool.not_false, Bool.false_eq_true, CA_some, Option.some.injEq, Nat.zero_add, Nat.mul_one, Nat.add_zero, setL, List.set_cons_zero, List.set_cons_succ, fillC]
  refine EqOk.go eq_Vote ah1 bh1 (fun d1 => ?_) (fun d1 => ?_)
  case refine_2 =>
    simp (disch := omega) only [KC_eq, c45, ae0, ahsz, be0, bhsz, ifT, w64, RR, RP, Ty.agg, Ty.size, Ty.sizes, eq_self, ne_eq, not_true, not_false_iff, reduceCtorEq, List.length_cons, List.length_nil, decide_true, decide_false, true_and, and_true, ite_true, ite_false, PT.full, enter0, setAll, forget, Fr.set, Fr.get, PT.get, PT.set, kof, ai, ev, ev1, evp, b_add, b_sub, b_mul, b_quo, b_rem, b_eql, b_neq, b_lss, b_leq, b_gtr, b_geq, b_seql, b_sneq, setD, resV, resL, res1, args, List.take_zero, List.drop_zero, List.take_nil, List.take_succ_cons, List.drop_succ_cons, Nat.reduceAdd, Nat.reduceLeDiff, reduceIte, Bool.not_true, Bool.not_false, Bool.false_eq_true, CA_some, Option.some.injEq, Nat.zero_add, Nat.mul_one, Nat.add_zero, setL, List.set_cons_zero, List.set_cons_succ, fillC]
    simp [d1]
  subst d1
  simp (disch := omega) only [KC_eq, c45, ae0, ahsz, be0, bhsz, ifT, w64, RR, RP, Ty.agg, Ty.size, Ty.sizes, eq_self, ne_eq, not_true, not_false_iff, reduceCtorEq, List.length_cons, List.length_nil, decide_true, decide_false, true_and, and_true, ite_true, ite_false, PT.full, enter0, setAll, forget, Fr.set, Fr.get, PT.get, PT.set, kof, ai, ev, ev1, evp, b_add, b_sub, b_mul, b_quo, b_rem, b_eql, b_neq, b_lss, b_leq, b_gtr, b_geq, b_seql, b_sneq, setD, resV, resL, res1, args, List.take_zero, List.drop_zero, List.take_nil, List.take_succ_cons, List.drop_succ_cons, Nat.reduceAdd, Nat.reduceLeDiff, reduceIte, Bool.not_true, Bool.not_false, Bool.false_eq_true, CA_some, Option.some.injEq, Nat.zero_add, Nat.mul_one, Nat.add_zero, setL, List.set_cons_zero, List.set_cons_succ, fillC]
  refine EqOk.go eq_Qc ah2 bh2 (fun d2 => ?_) (fun d2 => ?_)
  case refine_2 =>
    simp (disch := omega) only [KC_eq, c45, ae0, ahsz, be0, bhsz, ifT, w64, RR, RP, Ty.agg, Ty.size, Ty.sizes, eq_self, ne_eq, not_true, not_false_iff, reduceCtorEq, List.length_cons, List.length_nil, decide_true, decide_false, true_and, and_true, ite_true, ite_false, PT.full, enter0, setAll, forget, Fr.set, Fr.get, PT.get, PT.set, kof, ai, ev, ev1, evp, b_add, b_sub, b_mul, b_quo, b_rem, b_eql, b_neq, b_lss, b_leq, b_gtr, b_geq, b_seql, b_sneq, setD, resV, resL, res1, args, List.take_zero, List.drop_zero, List.take_nil, List.take_succ_cons, List.drop_succ_cons, Nat.reduceAdd, Nat.reduceLeDiff, reduceIte, Bool.not_true, Bool.not_false, Bool.false_eq_true, CA_some, Option.some.injEq, Nat.zero_add, Nat.mul_one, Nat.add_zero, setL, List.set_cons_zero, List.set_cons_succ, fillC]
    simp [d2]
  subst d2
  simp (disch := omega) only [KC_eq, c45, ae0, ahsz, be0, bhsz, ifT, w64, RR, RP, Ty.agg, Ty.size, Ty.sizes, eq_self, ne_eq, not_true, not_false_iff, reduceCtorEq, List.length_cons, List.length_nil, decide_true, decide_false, true_and, and_true, ite_true, ite_false, PT.full, enter0, setAll, forget, Fr.set, Fr.get, PT.get, PT.set, kof, ai, ev, ev1, evp, b_add, b_sub, b_mul, b_quo, b_rem, b_eql, b_neq, b_lss, b_leq, b_gtr, b_geq, b_seql, b_sneq, setD, resV, resL, res1, args, List.take_zero, List.drop_zero, List.take_nil, List.take_succ_cons, List.drop_succ_cons, Nat.reduceAdd, Nat.reduceLeDiff, reduceIte, Bool.not_true, Bool.not_false, Bool.false_eq_true, CA_some, Option.some.injEq, Nat.zero_add, Nat.mul_one, Nat.add_zero, setL, List.set_cons_zero, List.set_cons_succ, fillC]
  refine EqOk.go eq_Head ah3 bh3 (fun d3 => ?_) (fun d3 => ?_)
  case refine_2 =>
    simp (disch := omega) only [KC_eq, c45, ae0, ahsz, be0, bhsz, ifT, w64, RR, RP, Ty.agg, Ty.size, Ty.sizes, eq_self, ne_eq, not_true, not_false_iff, reduceCtorEq, List.length_cons, List.length_nil, decide_true, decide_false, true_and, and_true, ite_true, ite_false, PT.full, enter0, setAll, forget, Fr.set, Fr.get, PT.get, PT.set, kof, ai, ev, ev1, evp, b_add, b_sub, b_mul, b_quo, b_rem, b_eql, b_neq, b_lss, b_leq, b_gtr, b_geq, b_seql, b_sneq, setD, resV, resL, res1, args, List.take_zero, List.drop_zero, List.take_nil, List.take_succ_cons, List.drop_succ_cons, Nat.reduceAdd, Nat.reduceLeDiff, reduceIte, Bool.not_true, Bool.not_false, Bool.false_eq_true, CA_some, Option.some.injEq, Nat.zero_add, Nat.mul_one, Nat.add_zero, setL, List.set_cons_zero, List.set_cons_succ, fillC]
    simp [d3]
  subst d3
  simp (disch := omega) only [KC_eq, c45, ae0, ahsz, be0, bhsz, ifT, w64, RR, RP, Ty.agg, Ty.size, Ty.sizes, eq_self, ne_eq, not_true, not_false_iff, reduceCtorEq, List.length_cons, List.length_nil, decide_true, decide_false, true_and, and_true, ite_true, ite_false, PT.full, enter0, setAll, forget, Fr.set, Fr.get, PT.get, PT.set, kof, ai, ev, ev1, evp, b_add, b_sub, b_mul, b_quo, b_rem, b_eql, b_neq, b_lss, b_leq, b_gtr, b_geq, b_seql, b_sneq, setD, resV, resL, res1, args, List.take_zero, List.drop_zero, List.take_nil, List.take_succ_cons, List.drop_succ_cons, Nat.reduceAdd, Nat.reduceLeDiff, reduceIte, Bool.not_true, Bool.not_false, Bool.false_eq_true, CA_some, Option.some.injEq, Nat.zero_add, Nat.mul_one, Nat.add_zero, setL, List.set_cons_zero, List.set_cons_succ, fillC]
  refine EqOk.go eq_Block ah4 bh4 (fun d4 => ?_) (fun d4 => ?_)
  case refine_2 =>
    simp (disch := omega) only [KC_eq, c45, ae0, ahsz, be0, bhsz, ifT, w64, RR, RP, Ty.agg, Ty.size, Ty.sizes, eq_self, ne_eq, not_true, not_false_iff, reduceCtorEq, List.length_cons, List.length_nil, decide_true, decide_false, true_and, and_true, ite_true, ite_false, PT.full, enter0, setAll, forget, Fr.set, Fr.get, PT.get, PT.set, kof, ai, ev, ev1, evp, b_add, b_sub, b_mul, b_quo, b_rem, b_eql, b_neq, b_lss, b_leq, b_gtr, b_geq, b_seql, b_sneq, setD, resV, resL, res1, args, List.take_zero, List.drop_zero, List.take_nil, List.take_succ_cons, List.drop_succ_cons, Nat.reduceAdd, Nat.reduceLeDiff, reduceIte, Bool.not_true, Bool.not_false, Bool.false_eq_true, CA_some, Option.some.injEq, Nat.zero_add, Nat.mul_one, Nat.add_zero, setL, List.set_cons_zero, List.set_cons_succ, fillC]
    simp [d4]
  subst d4
  simp (disch := omega) only [KC_eq, c45, ae0, ahsz, be0, bhsz, ifT, w64, RR, RP, Ty.agg, Ty.size, Ty.sizes, eq_self, ne_eq, not_true, not_false_iff, reduceCtorEq, List.length_cons, List.length_nil, decide_true, decide_false, true_and, and_true, ite_true, ite_false, PT.full, enter0, setAll, forget, Fr.set, Fr.get, PT.get, PT.set, kof, ai, ev, ev1, evp, b_add, b_sub, b_mul, b_quo, b_rem, b_eql, b_neq, b_lss, b_leq, b_gtr, b_geq, b_seql, b_sneq, setD, resV, resL, res1, args, List.take_zero, List.drop_zero, List.take_nil, List.take_succ_cons, List.drop_succ_cons, Nat.reduceAdd, Nat.reduceLeDiff, reduceIte, Bool.not_true, Bool.not_false, Bool.false_eq_true, CA_some, Option.some.injEq, Nat.zero_add, Nat.mul_one, Nat.add_zero, setL, List.set_cons_zero, List.set_cons_succ, fillC]
  refine EqOk.go eq_Tc ah5 bh5 (fun d5 => ?_) (fun d5 => ?_)
  case refine_2 =>
    simp (disch := omega) only [KC_eq, c45, ae0, ahsz, be0, bhsz, ifT, w64, RR, RP, Ty.agg, Ty.size, Ty.sizes, eq_self, ne_eq, not_true, not_false_iff, reduceCtorEq, List.length_cons, List.length_nil, decide_true, decide_false, true_and, and_true, ite_true, ite_false, PT.full, enter0, setAll, forget, Fr.set, Fr.get, PT.get, PT.set, kof, ai, ev, ev1, evp, b_add, b_sub, b_mul, b_quo, b_rem, b_eql, b_neq, b_lss, b_leq, b_gtr, b_geq, b_seql, b_sneq, setD, resV, resL, res1, args, List.take_zero, List.drop_zero, List.take_nil, List.take_succ_cons, List.drop_succ_cons, Nat.reduceAdd, Nat.reduceLeDiff, reduceIte, Bool.not_true, Bool.not_false, Bool.false_eq_true, CA_some, Option.some.injEq, Nat.zero_add, Nat.mul_one, Nat.add_zero, setL, List.set_cons_zero, List.set_cons_succ, fillC]
    simp [d5]
  subst d5
  simp (disch := omega) only [KC_eq, c45, ae0, ahsz, be0, bhsz, ifT, w64, RR, RP, Ty.agg, Ty.size, Ty.sizes, eq_self, ne_eq, not_true, not_false_iff, reduceCtorEq, List.length_cons, List.length_nil, decide_true, decide_false, true_and, and_true, ite_true, ite_false, PT.full, enter0, setAll, forget, Fr.set, Fr.get, PT.get, PT.set, kof, ai, ev, ev1, evp, b_add, b_sub, b_mul, b_quo, b_rem, b_eql, b_neq, b_lss, b_leq, b_gtr, b_geq, b_seql, b_sneq, setD, resV, resL, res1, args, List.take_zero, List.drop_zero, List.take_nil, List.take_succ_cons, List.drop_succ_cons, Nat.reduceAdd, Nat.reduceLeDiff, reduceIte, Bool.not_true, Bool.not_false, Bool.false_eq_true, CA_some, Option.some.injEq, Nat.zero_add, Nat.mul_one, Nat.add_zero, setL, List.set_cons_zero, List.set_cons_succ, fillC]
  refine EqOk.go eq_Proof ah6 bh6 (fun d6 => ?_) (fun d6 => ?_)
  case refine_2 =>
    simp (disch := omega) only [KC_eq, c45, ae0, ahsz, be0, bhsz, ifT, w64, RR, RP, Ty.agg, Ty.size, Ty.sizes, eq_self, ne_eq, not_true, not_false_iff, reduceCtorEq, List.length_cons, List.length_nil, decide_true, decide_false, true_and, and_true, ite_true, ite_false, PT.full, enter0, setAll, forget, Fr.set, Fr.get, PT.get, PT.set, kof, ai, ev, ev1, evp, b_add, b_sub, b_mul, b_quo, b_rem, b_eql, b_neq, b_lss, b_leq, b_gtr, b_geq, b_seql, b_sneq, setD, resV, resL, res1, args, List.take_zero, List.drop_zero, List.take_nil, List.take_succ_cons, List.drop_succ_cons, Nat.reduceAdd, Nat.reduceLeDiff, reduceIte, Bool.not_true, Bool.not_false, Bool.false_eq_true, CA_some, Option.some.injEq, Nat.zero_add, Nat.mul_one, Nat.add_zero, setL, List.set_cons_zero, List.set_cons_succ, fillC]
    simp [d6]
  subst d6
  simp (disch := omega) only [KC_eq, c45, ae0, ahsz, be0, bhsz, ifT, w64, RR, RP, Ty.agg, Ty.size, Ty.sizes, eq_self, ne_eq, not_true, not_false_iff, reduceCtorEq, List.length_cons, List.length_nil, decide_true, decide_false, true_and, and_true, ite_true, ite_false, PT.full, enter0, setAll, forget, Fr.set, Fr.get, PT.get, PT.set, kof, ai, ev, ev1, evp, b_add, b_sub, b_mul, b_quo, b_rem, b_eql, b_neq, b_lss, b_leq, b_gtr, b_geq, b_seql, b_sneq, setD, resV, resL, res1, args, List.take_zero, List.drop_zero, List.take_nil, List.take_succ_cons, List.drop_succ_cons, Nat.reduceAdd, Nat.reduceLeDiff, reduceIte, Bool.not_true, Bool.not_false, Bool.false_eq_true, CA_some, Option.some.injEq, Nat.zero_add, Nat.mul_one, Nat.add_zero, setL, List.set_cons_zero, List.set_cons_succ, fillC]
  refine EqOk.go eq_Incl ah7 bh7 (fun d7 => ?_) (fun d7 => ?_)
  case refine_2 =>
    simp (disch := omega) only [KC_eq, c45, ae0, ahsz, be0, bhsz, ifT, w64, RR, RP, Ty.agg, Ty.size, Ty.sizes, eq_self, ne_eq, not_true, not_false_iff, reduceCtorEq, List.length_cons, List.length_nil, decide_true, decide_false, true_and, and_true, ite_true, ite_false, PT.full, enter0, setAll, forget, Fr.set, Fr.get, PT.get, PT.set, kof, ai, ev, ev1, evp, b_add, b_sub, b_mul, b_quo, b_rem, b_eql, b_neq, b_lss, b_leq, b_gtr, b_geq, b_seql, b_sneq, setD, resV, resL, res1, args, List.take_zero, List.drop_zero, List.take_nil, List.take_succ_cons, List.drop_succ_cons, Nat.reduceAdd, Nat.reduceLeDiff, reduceIte, Bool.not_true, Bool.not_false, Bool.false_eq_true, CA_some, Option.some.injEq, Nat.zero_add, Nat.mul_one, Nat.add_zero, setL, List.set_cons_zero, List.set_cons_succ, fillC]
    simp [d7]
  subst d7
  simp (disch := omega) only [KC_eq, c45, ae0, ahsz, be0, bhsz, ifT, w64, RR, RP, Ty.agg, Ty.size, Ty.sizes, eq_self, ne_eq, not_true, not_false_iff, reduceCtorEq, List.length_cons, List.length_nil, decide_true, decide_false, true_and, and_true, ite_true, ite_false, PT.full, enter0, setAll, forget, Fr.set, Fr.get, PT.get, PT.set, kof, ai, ev, ev1, evp, b_add, b_sub, b_mul, b_quo, b_rem, b_eql, b_neq, b_lss, b_leq, b_gtr, b_geq, b_seql, b_sneq, setD, resV, resL, res1, args, List.take_zero, List.drop_zero, List.take_nil, List.take_succ_cons, List.drop_succ_cons, Nat.reduceAdd, Nat.reduceLeDiff, reduceIte, Bool.not_true, Bool.not_false, Bool.false_eq_true, CA_some, Option.some.injEq, Nat.zero_add, Nat.mul_one, Nat.add_zero, setL, List.set_cons_zero, List.set_cons_succ, fillC]
theorem mk_Msg : MkOk cd 48 TMsg := by
  intro h cs v S k hv ho hk
  obtain ⟨vs, rfl, q0⟩ := hv.st
  obtain ⟨v0, r0, S0, T0, rfl, rfl, h0, q1⟩ := q0.step
  obtain ⟨n0, e0, rfl, rfl, lo0, hi0⟩ := h0.int
  obtain ⟨v1, r1, S1, T1, rfl, rfl, h1, q2⟩ := q1.step
  obtain ⟨v2, r2, S2, T2, rfl, rfl, h2, q3⟩ := q2.step
  obtain ⟨v3, r3, S3, T3, rfl, rfl, h3, q4⟩ := q3.step
  obtain ⟨v4, r4, S4, T4, rfl, rfl, h4, q5⟩ := q4.step
  obtain ⟨v5, r5, S5, T5, rfl, rfl, h5, q6⟩ := q5.step
  obtain ⟨v6, r6, S6, T6, rfl, rfl, h6, q7⟩ := q6.step
  obtain ⟨v7, r7, S7, T7, rfl, rfl, h7, q8⟩ := q7.step
  obtain ⟨_, rfl, rfl⟩ := q8
  have hsz : cs.length = 45 := hv.size
  simp only [Ty.size, Ty.sizes, Nat.reduceAdd, Nat.zero_add, List.drop_zero] at e0 hsz h1 h2 h3 h4 h5 h6 h7
  have hcn : cnT TMsg (.r [.i n0, v1, v2, v3, v4, v5, v6, v7]) = (0 + (cnT TVote v1 + (cnT TQc v2 + (cnT THead v3 + (cnT TBlock v4 + (cnT TTc v5 + (cnT TProof v6 + (cnT TIncl v7 + 0)))))))) := rfl
  have hmk : mkT TMsg (.r [.i n0, v1, v2, v3, v4, v5, v6, v7]) k = .r [.i n0, mkT TVote v1 (k), mkT TQc v2 (k + cnT TVote v1), mkT THead v3 (k + cnT TVote v1 + cnT TQc v2), mkT TBlock v4 (k + cnT TVote v1 + cnT TQc v2 + cnT THead v3), mkT TTc v5 (k + cnT TVote v1 + cnT TQc v2 + cnT THead v3 + cnT TBlock v4), mkT TProof v6 (k + cnT TVote v1 + cnT TQc v2 + cnT THead v3 + cnT TBlock v4 + cnT TTc v5), mkT TIncl v7 (k + cnT TVote v1 + cnT TQc v2 + cnT THead v3 + cnT TBlock v4 + cnT TTc v5 + cnT TProof v6)] := rfl
  rw [hmk]
  rw [hcn] at hk ⊢
  simp only [List.nil_append, List.append_nil] at ho ⊢
  obtain ⟨o1, ho1, x1, xx1⟩ := ho.split
  obtain ⟨o2, ho2, x2, xx2⟩ := ho1.split
  obtain ⟨o3, ho3, x3, xx3⟩ := ho2.split
  obtain ⟨o4, ho4, x4, xx4⟩ := ho3.split
  obtain ⟨o5, ho5, x5, xx5⟩ := ho4.split
  obtain ⟨o6, ho6, x6, xx6⟩ := ho5.split
  have o7 := ho6
  refine WS_enter k48 rfl ?_
  simp (disch := omega) only [KC_eq, c48, e0, hsz, ifT, w64, RR, RP, Ty.agg, Ty.size, Ty.sizes, eq_self, ne_eq, not_true, not_false_iff, reduceCtorEq, List.length_cons, List.length_nil, decide_true, decide_false, true_and, and_true, ite_true, ite_false, PT.full, enter0, setAll, forget, Fr.set, Fr.get, PT.get, PT.set, kof, ai, ev, ev1, evp, b_add, b_sub, b_mul, b_quo, b_rem, b_eql, b_neq, b_lss, b_leq, b_gtr, b_geq, b_seql, b_sneq, setD, resV, resL, res1, args, List.take_zero, List.drop_zero, List.take_nil, List.take_succ_cons, List.drop_succ_cons, Nat.reduceAdd, Nat.reduceLeDiff, reduceIte, Bool.not_true, Bool.not_false, Bool.false_eq_true, CA_some, Option.some.injEq, Nat.zero_add, Nat.mul_one, Nat.add_zero, setL, List.set_cons_zero, List.set_cons_succ, fillC]
  refine MkOk.go mk_Vote h1 o1 (k := k) (by omega) (fun g1 w1 z1 => ?_)
  simp (disch := omega) only [KC_eq, c48, e0, hsz, ifT, w64, RR, RP, Ty.agg, Ty.size, Ty.sizes, eq_self, ne_eq, not_true, not_false_iff, reduceCtorEq, List.length_cons, List.length_nil, decide_true, decide_false, true_and, and_true, ite_true, ite_false, PT.full, enter0, setAll, forget, Fr.set, Fr.get, PT.get, PT.set, kof, ai, ev, ev1, evp, b_add, b_sub, b_mul, b_quo, b_rem, b_eql, b_neq, b_lss, b_leq, b_gtr, b_geq, b_seql, b_sneq, setD, resV, resL, res1, args, List.take_zero, List.drop_zero, List.take_nil, List.take_succ_cons, List.drop_succ_cons, Nat.reduceAdd, Nat.reduceLeDiff, reduceIte, Bool.not_true, Bool.not_false, Bool.false_eq_true, CA_some, Option.some.injEq, Nat.zero_add, Nat.mul_one, Nat.add_zero, setL, List.set_cons_zero, List.set_cons_succ, fillC]
  refine MkOk.go mk_Qc (h2.wrote w1 (fun i hi => xx1 i (by simp [hi]))) (w1.ownd o2) (k := k + cnT TVote v1) (by omega) (fun g2 w2 z2 => ?_)
  simp (disch := omega) only [KC_eq, c48, e0, hsz, ifT, w64, RR, RP, Ty.agg, Ty.size, Ty.sizes, eq_self, ne_eq, not_true, not_false_iff, reduceCtorEq, List.length_cons, List.length_nil, decide_true, decide_false, true_and, and_true, ite_true, ite_false, PT.full, enter0, setAll, forget, Fr.set, Fr.get, PT.get, PT.set, kof, ai, ev, ev1, evp, b_add, b_sub, b_mul, b_quo, b_rem, b_eql, b_neq, b_lss, b_leq, b_gtr, b_geq, b_seql, b_sneq, setD, resV, resL, res1, args, List.take_zero, List.drop_zero, List.take_nil, List.take_succ_cons, List.drop_succ_cons, Nat.reduceAdd, Nat.reduceLeDiff, reduceIte, Bool.not_true, Bool.not_false, Bool.false_eq_true, CA_some, Option.some.injEq, Nat.zero_add, Nat.mul_one, Nat.add_zero, setL, List.set_cons_zero, List.set_cons_succ, fillC]
  refine MkOk.go mk_Head ((h3.wrote w1 (fun i hi => xx1 i (by simp [hi]))).wrote w2 (fun i hi => xx2 i (by simp [hi]))) (w2.ownd (w1.ownd o3)) (k := k + cnT TVote v1 + cnT TQc v2) (by omega) (fun g3 w3 z3 => ?_)
  simp (disch := omega) only [KC_eq, c48, e0, hsz, ifT, w64, RR, RP, Ty.agg, Ty.size, Ty.sizes, eq_self, ne_eq, not_true, not_false_iff, reduceCtorEq, List.length_cons, List.length_nil, decide_true, decide_false, true_and, and_true, ite_true, ite_false, PT.full, enter0, setAll, forget, Fr.set, Fr.get, PT.get, PT.set, kof, ai, ev, ev1, evp, b_add, b_sub, b_mul, b_quo, b_rem, b_eql, b_neq, b_lss, b_leq, b_gtr, b_geq, b_seql, b_sneq, setD, resV, resL, res1, args, List.take_zero, List.drop_zero, List.take_nil, List.take_succ_cons, List.drop_succ_cons, Nat.reduceAdd, Nat.reduceLeDiff, reduceIte, Bool.not_true, Bool.not_false, Bool.false_eq_true, CA_some, Option.some.injEq, Nat.zero_add, Nat.mul_one, Nat.add_zero, setL, List.set_cons_zero, List.set_cons_succ, fillC]
  refine MkOk.go mk_Block (((h4.wrote w1 (fun i hi => xx1 i (by simp [hi]))).wrote w2 (fun i hi => xx2 i (by simp [hi]))).wrote w3 (fun i hi => xx3 i (by simp [hi]))) (w3.ownd (w2.ownd (w1.ownd o4))) (k := k + cnT TVote v1 + cnT TQc v2 + cnT THead v3) (by omega) (fun g4 w4 z4 => ?_)
  simp (disch := omega) only [KC_eq, c48, e0, hsz, ifT, w64, RR, RP, Ty.agg, Ty.size, Ty.sizes, eq_self, ne_eq, not_true, not_false_iff, reduceCtorEq, List.length_cons, List.length_nil, decide_true, decide_false, true_and, and_true, ite_true, ite_false, PT.full, enter0, setAll, forget, Fr.set, Fr.get, PT.get, PT.set, kof, ai, ev, ev1, evp, b_add, b_sub, b_mul, b_quo, b_rem, b_eql, b_neq, b_lss, b_leq, b_gtr, b_geq, b_seql, b_sneq, setD, resV, resL, res1, args, List.take_zero, List.drop_zero, List.take_nil, List.take_succ_cons, List.drop_succ_cons, Nat.reduceAdd, Nat.reduceLeDiff, reduceIte, Bool.not_true, Bool.not_false, Bool.false_eq_true, CA_some, Option.some.injEq, Nat.zero_add, Nat.mul_one, Nat.add_zero, setL, List.set_cons_zero, List.set_cons_succ, fillC]
  refine MkOk.go mk_Tc ((((h5.wrote w1 (fun i hi => xx1 i (by simp [hi]))).wrote w2 (fun i hi => xx2 i (by simp [hi]))).wrote w3 (fun i hi => xx3 i (by simp [hi]))).wrote w4 (fun i hi => xx4 i (by simp [hi]))) (w4.ownd (w3.ownd (w2.ownd (w1.ownd o5)))) (k := k + cnT TVote v1 + cnT TQc v2 + cnT THead v3 + cnT TBlock v4) (by omega) (fun g5 w5 z5 => ?_)
  simp (disch := omega) only [KC_eq, c48, e0, hsz, ifT, w64, RR, RP, Ty.agg, Ty.size, Ty.sizes, eq_self, ne_eq, not_true, not_false_iff, reduceCtorEq, List.length_cons, List.length_nil, decide_true, decide_false, true_and, and_true, ite_true, ite_false, PT.full, enter0, setAll, forget, Fr.set, Fr.get, PT.get, PT.set, kof, ai, ev, ev1, evp, b_add, b_sub, b_mul, b_quo, b_rem, b_eql, b_neq, b_lss, b_leq, b_gtr, b_geq, b_seql, b_sneq, setD, resV, resL, res1, args, List.take_zero, List.drop_zero, List.take_nil, List.take_succ_cons, List.drop_succ_cons, Nat.reduceAdd, Nat.reduceLeDiff, reduceIte, Bool.not_true, Bool.not_false, Bool.false_eq_true, CA_some, Option.some.injEq, Nat.zero_add, Nat.mul_one, Nat.add_zero, setL, List.set_cons_zero, List.set_cons_succ, fillC]
  refine MkOk.go mk_Proof (((((h6.wrote w1 (fun i hi => xx1 i (by simp [hi]))).wrote w2 (fun i hi => xx2 i (by simp [hi]))).wrote w3 (fun i hi => xx3 i (by simp [hi]))).wrote w4 (fun i hi => xx4 i (by simp [hi]))).wrote w5 (fun i hi => xx5 i (by simp [hi]))) (w5.ownd (w4.ownd (w3.ownd (w2.ownd (w1.ownd o6))))) (k := k + cnT TVote v1 + cnT TQc v2 + cnT THead v3 + cnT TBlock v4 + cnT TTc v5) (by omega) (fun g6 w6 z6 => ?_)
  simp (disch := omega) only [KC_eq, c48, e0, hsz, ifT, w64, RR, RP, Ty.agg, Ty.size, Ty.sizes, eq_self, ne_eq, not_true, not_false_iff, reduceCtorEq, List.length_cons, List.length_nil, decide_true, decide_false, true_and, and_true, ite_true, ite_false, PT.full, enter0, setAll, forget, Fr.set, Fr.get, PT.get, PT.set, kof, ai, ev, ev1, evp, b_add, b_sub, b_mul, b_quo, b_rem, b_eql, b_neq, b_lss, b_leq, b_gtr, b_geq, b_seql, b_sneq, setD, resV, resL, res1, args, List.take_zero, List.drop_zero, List.take_nil, List.take_succ_cons, List.drop_succ_cons, Nat.reduceAdd, Nat.reduceLeDiff, reduceIte, Bool.not_true, Bool.not_false, Bool.false_eq_true, CA_some, Option.some.injEq, Nat.zero_add, Nat.mul_one, Nat.add_zero, setL, List.set_cons_zero, List.set_cons_succ, fillC]
  refine MkOk.go mk_Incl ((((((h7.wrote w1 (fun i hi => xx1 i (by simp [hi]))).wrote w2 (fun i hi => xx2 i (by simp [hi]))).wrote w3 (fun i hi => xx3 i (by simp [hi]))).wrote w4 (fun i hi => xx4 i (by simp [hi]))).wrote w5 (fun i hi => xx5 i (by simp [hi]))).wrote w6 (fun i hi => xx6 i (by simp [hi]))) (w6.ownd (w5.ownd (w4.ownd (w3.ownd (w2.ownd (w1.ownd o7)))))) (k := k + cnT TVote v1 + cnT TQc v2 + cnT THead v3 + cnT TBlock v4 + cnT TTc v5 + cnT TProof v6) (by omega) (fun g7 w7 z7 => ?_)
  simp (disch := omega) only [KC_eq, c48, e0, hsz, ifT, w64, RR, RP, Ty.agg, Ty.size, Ty.sizes, eq_self, ne_eq, not_true, not_false_iff, reduceCtorEq, List.length_cons, List.length_nil, decide_true, decide_false, true_and, and_true, ite_true, ite_false, PT.full, enter0, setAll, forget, Fr.set, Fr.get, PT.get, PT.set, kof, ai, ev, ev1, evp, b_add, b_sub, b_mul, b_quo, b_rem, b_eql, b_neq, b_lss, b_leq, b_gtr, b_geq, b_seql, b_sneq, setD, resV, resL, res1, args, List.take_zero, List.drop_zero, List.take_nil, List.take_succ_cons, List.drop_succ_cons, Nat.reduceAdd, Nat.reduceLeDiff, reduceIte, Bool.not_true, Bool.not_false, Bool.false_eq_true, CA_some, Option.some.injEq, Nat.zero_add, Nat.mul_one, Nat.add_zero, setL, List.set_cons_zero, List.set_cons_succ, fillC]
  have fin : Rs g7 [(.int .i64), TVote, TQc, THead, TBlock, TTc, TProof, TIncl] (cs.drop 0) [.i n0, mkT TVote v1 (k), mkT TQc v2 (k + cnT TVote v1), mkT THead v3 (k + cnT TVote v1 + cnT TQc v2), mkT TBlock v4 (k + cnT TVote v1 + cnT TQc v2 + cnT THead v3), mkT TTc v5 (k + cnT TVote v1 + cnT TQc v2 + cnT THead v3 + cnT TBlock v4), mkT TProof v6 (k + cnT TVote v1 + cnT TQc v2 + cnT THead v3 + cnT TBlock v4 + cnT TTc v5), mkT TIncl v7 (k + cnT TVote v1 + cnT TQc v2 + cnT THead v3 + cnT TBlock v4 + cnT TTc v5 + cnT TProof v6)] _ := (Rs.unstep (o := 0) (Rp.int_at e0 lo0 hi0) (Rs.unstep (o := 1) ((((((z1.wrote w2 (fun i hi hn => x1 i hi (by simp [hn]))).wrote w3 (fun i hi hn => x1 i hi (by simp [hn]))).wrote w4 (fun i hi hn => x1 i hi (by simp [hn]))).wrote w5 (fun i hi hn => x1 i hi (by simp [hn]))).wrote w6 (fun i hi hn => x1 i hi (by simp [hn]))).wrote w7 (fun i hi hn => x1 i hi (by simp [hn]))) (Rs.unstep (o := 6) (((((z2.wrote w3 (fun i hi hn => x2 i hi (by simp [hn]))).wrote w4 (fun i hi hn => x2 i hi (by simp [hn]))).wrote w5 (fun i hi hn => x2 i hi (by simp [hn]))).wrote w6 (fun i hi hn => x2 i hi (by simp [hn]))).wrote w7 (fun i hi hn => x2 i hi (by simp [hn]))) (Rs.unstep (o := 11) ((((z3.wrote w4 (fun i hi hn => x3 i hi (by simp [hn]))).wrote w5 (fun i hi hn => x3 i hi (by simp [hn]))).wrote w6 (fun i hi hn => x3 i hi (by simp [hn]))).wrote w7 (fun i hi hn => x3 i hi (by simp [hn]))) (Rs.unstep (o := 21) (((z4.wrote w5 (fun i hi hn => x4 i hi (by simp [hn]))).wrote w6 (fun i hi hn => x4 i hi (by simp [hn]))).wrote w7 (fun i hi hn => x4 i hi (by simp [hn]))) (Rs.unstep (o := 32) ((z5.wrote w6 (fun i hi hn => x5 i hi (by simp [hn]))).wrote w7 (fun i hi hn => x5 i hi (by simp [hn]))) (Rs.unstep (o := 34) (z6.wrote w7 (fun i hi hn => x6 i hi (by simp [hn]))) (Rs.unstep (o := 40) z7 (Rs.fin (Nat.le_of_eq hsz))))))))))
  simp only [List.nil_append, List.append_nil, List.drop_zero] at fin
  have wr := ((((((((Wrote.refl ho.2).more w1 (fun i hi => by simp [hi])).more w2 (fun i hi => by simp [hi])).more w3 (fun i hi => by simp [hi])).more w4 (fun i hi => by simp [hi])).more w5 (fun i hi => by simp [hi])).more w6 (fun i hi => by simp [hi])).more w7 (fun i hi => by simp [hi]))
  first
    | exact ⟨wr, _, rfl, fin⟩
    | (refine ⟨?_, wr, _, rfl, fin⟩
       congr 3
       omega)
theorem hd_Msg : HdOk cd 49 TMsg := by
  intro h cs v S k hT hv hk
  obtain ⟨h0_, cs0, S0_, hT⟩ := hT
  obtain ⟨wvs, rfl, wq0⟩ := hT.st
  obtain ⟨wv0, wr0, wS0, wT0, rfl, rfl, wh0, wq1⟩ := wq0.step
  obtain ⟨wn0, we0, rfl, rfl, wlo0, whi0⟩ := wh0.int
  obtain ⟨wv1, wr1, wS1, wT1, rfl, rfl, wh1, wq2⟩ := wq1.step
  obtain ⟨wv2, wr2, wS2, wT2, rfl, rfl, wh2, wq3⟩ := wq2.step
  obtain ⟨wv3, wr3, wS3, wT3, rfl, rfl, wh3, wq4⟩ := wq3.step
  obtain ⟨wv4, wr4, wS4, wT4, rfl, rfl, wh4, wq5⟩ := wq4.step
  obtain ⟨wv5, wr5, wS5, wT5, rfl, rfl, wh5, wq6⟩ := wq5.step
  obtain ⟨wv6, wr6, wS6, wT6, rfl, rfl, wh6, wq7⟩ := wq6.step
  obtain ⟨wv7, wr7, wS7, wT7, rfl, rfl, wh7, wq8⟩ := wq7.step
  obtain ⟨_, rfl, rfl⟩ := wq8
  have whsz : cs0.length = 45 := hT.size
  have hcn : cnT TMsg (.r [.i wn0, wv1, wv2, wv3, wv4, wv5, wv6, wv7]) = (0 + (cnT TVote wv1 + (cnT TQc wv2 + (cnT THead wv3 + (cnT TBlock wv4 + (cnT TTc wv5 + (cnT TProof wv6 + (cnT TIncl wv7 + 0)))))))) := rfl
  have hmk : mkT TMsg (.r [.i wn0, wv1, wv2, wv3, wv4, wv5, wv6, wv7]) k = .r [.i wn0, mkT TVote wv1 (k), mkT TQc wv2 (k + cnT TVote wv1), mkT THead wv3 (k + cnT TVote wv1 + cnT TQc wv2), mkT TBlock wv4 (k + cnT TVote wv1 + cnT TQc wv2 + cnT THead wv3), mkT TTc wv5 (k + cnT TVote wv1 + cnT TQc wv2 + cnT THead wv3 + cnT TBlock wv4), mkT TProof wv6 (k + cnT TVote wv1 + cnT TQc wv2 + cnT THead wv3 + cnT TBlock wv4 + cnT TTc wv5), mkT TIncl wv7 (k + cnT TVote wv1 + cnT TQc wv2 + cnT THead wv3 + cnT TBlock wv4 + cnT TTc wv5 + cnT TProof wv6)] := rfl
  rw [hmk] at hv
  rw [hcn] at hk ⊢
  obtain ⟨vs, hvs, q0⟩ := hv.st
  simp only [Tv.r.injEq] at hvs
  subst hvs
  obtain ⟨v0, r0, S0, T0, hv0, hS0, h0, q1⟩ := q0.step
  obtain ⟨rfl, rfl⟩ := List.cons.inj hv0
  obtain ⟨n0, e0, _, _, _, _⟩ := h0.int
  obtain ⟨v1, r1, S1, T1, hv1, hS1, h1, q2⟩ := q1.step
  obtain ⟨rfl, rfl⟩ := List.cons.inj hv1
  obtain ⟨v2, r2, S2, T2, hv2, hS2, h2, q3⟩ := q2.step
  obtain ⟨rfl, rfl⟩ := List.cons.inj hv2
  obtain ⟨v3, r3, S3, T3, hv3, hS3, h3, q4⟩ := q3.step
  obtain ⟨rfl, rfl⟩ := List.cons.inj hv3
  obtain ⟨v4, r4, S4, T4, hv4, hS4, h4, q5⟩ := q4.step
  obtain ⟨rfl, rfl⟩ := List.cons.inj hv4
  obtain ⟨v5, r5, S5, T5, hv5, hS5, h5, q6⟩ := q5.step
  obtain ⟨rfl, rfl⟩ := List.cons.inj hv5
  obtain ⟨v6, r6, S6, T6, hv6, hS6, h6, q7⟩ := q6.step
  obtain ⟨rfl, rfl⟩ := List.cons.inj hv6
  obtain ⟨v7, r7, S7, T7, hv7, hS7, h7, q8⟩ := q7.step
  obtain ⟨rfl, rfl⟩ := List.cons.inj hv7
  have hsz : cs.length = 45 := hv.size
  simp only [Ty.size, Ty.sizes, Nat.reduceAdd, Nat.zero_add, List.drop_zero] at e0 hsz h1 h2 h3 h4 h5 h6 h7
  refine WS_enter k49 rfl ?_
  simp (disch := omega) only [KC_eq, c49, e0, hsz, ifT, w64, RR, RP, Ty.agg, Ty.size, Ty.sizes, eq_self, ne_eq, not_true, not_false_iff, reduceCtorEq, List.length_cons, List.length_nil, decide_true, decide_false, true_and, and_true, ite_true, ite_false, PT.full, enter0, setAll, forget, Fr.set, Fr.get, PT.get, PT.set, kof, ai, ev, ev1, evp, b_add, b_sub, b_mul, b_quo, b_rem, b_eql, b_neq, b_lss, b_leq, b_gtr, b_geq, b_seql, b_sneq, setD, resV, resL, res1, args, List.take_zero, List.drop_zero, List.take_nil, List.take_succ_cons, List.drop_succ_cons, Nat.reduceAdd, Nat.reduceLeDiff, reduceIte, Bool.not_true, Bool.not_false, Bool.false_eq_true, CA_some, Option.some.injEq, Nat.zero_add, Nat.mul_one, Nat.add_zero, setL, List.set_cons_zero, List.set_cons_succ, fillC]
  refine HdOk.go hd_Vote ⟨_, _, _, wh1⟩ h1 (k := k) (by omega) ?_
  simp (disch := omega) only [KC_eq, c49, e0, hsz, ifT, w64, RR, RP, Ty.agg, Ty.size, Ty.sizes, eq_self, ne_eq, not_true, not_false_iff, reduceCtorEq, List.length_cons, List.length_nil, decide_true, decide_false, true_and, and_true, ite_true, ite_false, PT.full, enter0, setAll, forget, Fr.set, Fr.get, PT.get, PT.set, kof, ai, ev, ev1, evp, b_add, b_sub, b_mul, b_quo, b_rem, b_eql, b_neq, b_lss, b_leq, b_gtr, b_geq, b_seql, b_sneq, setD, resV, resL, res1, args, List.take_zero, List.drop_zero, List.take_nil, List.take_succ_cons, List.drop_succ_cons, Nat.reduceAdd, Nat.reduceLeDiff, reduceIte, Bool.not_true, Bool.not_false, Bool.false_eq_true, CA_some, Option.some.injEq, Nat.zero_add, Nat.mul_one, Nat.add_zero, setL, List.set_cons_zero, List.set_cons_succ, fillC]
  refine BR_dec (fun hn => absurd hn (by omega)) (fun hn => ?_)
  simp (disch := omega) only [KC_eq, c49, e0, hsz, ifT, w64, RR, RP, Ty.agg, Ty.size, Ty.sizes, eq_self, ne_eq, not_true, not_false_iff, reduceCtorEq, List.length_cons, List.length_nil, decide_true, decide_false, true_and, and_true, ite_true, ite_false, PT.full, enter0, setAll, forget, Fr.set, Fr.get, PT.get, PT.set, kof, ai, ev, ev1, evp, b_add, b_sub, b_mul, b_quo, b_rem, b_eql, b_neq, b_lss, b_leq, b_gtr, b_geq, b_seql, b_sneq, setD, resV, resL, res1, args, List.take_zero, List.drop_zero, List.take_nil, List.take_succ_cons, List.drop_succ_cons, Nat.reduceAdd, Nat.reduceLeDiff, reduceIte, Bool.not_true, Bool.not_false, Bool.false_eq_true, CA_some, Option.some.injEq, Nat.zero_add, Nat.mul_one, Nat.add_zero, setL, List.set_cons_zero, List.set_cons_succ, fillC]
  refine HdOk.go hd_Qc ⟨_, _, _, wh2⟩ h2 (k := k + cnT TVote wv1) (by omega) ?_
  simp (disch := omega) only [KC_eq, c49, e0, hsz, ifT, w64, RR, RP, Ty.agg, Ty.size, Ty.sizes, eq_self, ne_eq, not_true, not_false_iff, reduceCtorEq, List.length_cons, List.length_nil, decide_true, decide_false, true_and, and_true, ite_true, ite_false, PT.full, enter0, setAll, forget, Fr.set, Fr.get, PT.get, PT.set, kof, ai, ev, ev1, evp, b_add, b_sub, b_mul, b_quo, b_rem, b_eql, b_neq, b_lss, b_leq, b_gtr, b_geq, b_seql, b_sneq, setD, resV, resL, res1, args, List.take_zero, List.drop_zero, List.take_nil, List.take_succ_cons, List.drop_succ_cons, Nat.reduceAdd, Nat.reduceLeDiff, reduceIte, Bool.not_true, Bool.not_false, Bool.false_eq_true, CA_some, Option.some.injEq, Nat.zero_add, Nat.mul_one, Nat.add_zero, setL, List.set_cons_zero, List.set_cons_succ, fillC]
  refine BR_dec (fun hn => absurd hn (by omega)) (fun hn => ?_)
  simp (disch := omega) only [KC_eq, c49, e0, hsz, ifT, w64, RR, RP, Ty.agg, Ty.size, Ty.sizes, eq_self, ne_eq, not_true, not_false_iff, reduceCtorEq, List.length_cons, List.length_nil, decide_true, decide_false, true_and, and_true, ite_true, ite_false, PT.full, enter0, setAll, forget, Fr.set, Fr.get, PT.get, PT.set, kof, ai, ev, ev1, evp, b_add, b_sub, b_mul, b_quo, b_rem, b_eql, b_neq, b_lss, b_leq, b_gtr, b_geq, b_seql, b_sneq, setD, resV, resL, res1, args, List.take_zero, List.drop_zero, List.take_nil, List.take_succ_cons, List.drop_succ_cons, Nat.reduceAdd, Nat.reduceLeDiff, reduceIte, Bool.not_true, Bool.not_false, Bool.false_eq_true, CA_some, Option.some.injEq, Nat.zero_add, Nat.mul_one, Nat.add_zero, setL, List.set_cons_zero, List.set_cons_succ, fillC]
  refine HdOk.go hd_Head ⟨_, _, _, wh3⟩ h3 (k := k + cnT TVote wv1 + cnT TQc wv2) (by omega) ?_
  simp (disch := omega) only [KC_eq, c49, e0, hsz, ifT, w64, RR, RP, Ty.agg, Ty.size, Ty.sizes, eq_self, ne_eq, not_true, not_false_iff, reduceCtorEq, List.length_cons, List.length_nil, decide_true, decide_false, true_and, and_true, ite_true, ite_false, PT.full, enter0, setAll, forget, Fr.set, Fr.get, PT.get, PT.set, kof, ai, ev, ev1, evp, b_add, b_sub, b_mul, b_quo, b_rem, b_eql, b_neq, b_lss, b_leq, b_gtr, b_geq, b_seql, b_sneq, setD, resV, resL, res1, args, List.take_zero, List.drop_zero, List.take_nil, List.take_succ_cons, List.drop_succ_cons, Nat.reduceAdd, Nat.reduceLeDiff, reduceIte, Bool.not_true, Bool.not_false, Bool.false_eq_true, CA_some, Option.some.injEq, Nat.zero_add, Nat.mul_one, Nat.add_zero, setL, List.set_cons_zero, List.set_cons_succ, fillC]
  refine BR_dec (fun hn => absurd hn (by omega)) (fun hn => ?_)
  simp (disch := omega) only [KC_eq, c49, e0, hsz, ifT, w64, RR, RP, Ty.agg, Ty.size, Ty.sizes, eq_self, ne_eq, not_true, not_false_iff, reduceCtorEq, List.length_cons, List.length_nil, decide_true, decide_false, true_and, and_true, ite_true, ite_false, PT.full, enter0, setAll, forget, Fr.set, Fr.get, PT.get, PT.set, kof, ai, ev, ev1, evp, b_add, b_sub, b_mul, b_quo, b_rem, b_eql, b_neq, b_lss, b_leq, b_gtr, b_geq, b_seql, b_sneq, setD, resV, resL, res1, args, List.take_zero, List.drop_zero, List.take_nil, List.take_succ_cons, List.drop_succ_cons, Nat.reduceAdd, Nat.reduceLeDiff, reduceIte, Bool.not_true, Bool.not_false, Bool.false_eq_true, CA_some, Option.some.injEq, Nat.zero_add, Nat.mul_one, Nat.add_zero, setL, List.set_cons_zero, List.set_cons_succ, fillC]
  refine HdOk.go hd_Block ⟨_, _, _, wh4⟩ h4 (k := k + cnT TVote wv1 + cnT TQc wv2 + cnT THead wv3) (by omega) ?_
  simp (disch := omega) only [KC_eq, c49, e0, hsz, ifT, w64, RR, RP, Ty.agg, Ty.size, Ty.sizes, eq_self, ne_eq, not_true, not_false_iff, reduceCtorEq, List.length_cons, List.length_nil, decide_true, decide_false, true_and, and_true, ite_true, ite_false, PT.full, enter0, setAll, forget, Fr.set, Fr.get, PT.get, PT.set, kof, ai, ev, ev1, evp, b_add, b_sub, b_mul, b_quo, b_rem, b_eql, b_neq, b_lss, b_leq, b_gtr, b_geq, b_seql, b_sneq, setD, resV, resL, res1, args, List.take_zero, List.drop_zero, List.take_nil, List.take_succ_cons, List.drop_succ_cons, Nat.reduceAdd, Nat.reduceLeDiff, reduceIte, Bool.not_true, Bool.not_false, Bool.false_eq_true, CA_some, Option.some.injEq, Nat.zero_add, Nat.mul_one, Nat.add_zero, setL, List.set_cons_zero, List.set_cons_succ, fillC]
  refine BR_dec (fun hn => absurd hn (by omega)) (fun hn => ?_)
  simp (disch := omega) only [KC_eq, c49, e0, hsz, ifT, w64, RR, RP, Ty.agg, Ty.size, Ty.sizes, eq_self, ne_eq, not_true, not_false_iff, reduceCtorEq, List.length_cons, List.length_nil, decide_true, decide_false, true_and, and_true, ite_true, ite_false, PT.full, enter0, setAll, forget, Fr.set, Fr.get, PT.get, PT.set, kof, ai, ev, ev1, evp, b_add, b_sub, b_mul, b_quo, b_rem, b_eql, b_neq, b_lss, b_leq, b_gtr, b_geq, b_seql, b_sneq, setD, resV, resL, res1, args, List.take_zero, List.drop_zero, List.take_nil, List.take_succ_cons, List.drop_succ_cons, Nat.reduceAdd, Nat.reduceLeDiff, reduceIte, Bool.not_true, Bool.not_false, Bool.false_eq_true, CA_some, Option.some.injEq, Nat.zero_add, Nat.mul_one, Nat.add_zero, setL, List.set_cons_zero, List.set_cons_succ, fillC]
  refine HdOk.go hd_Tc ⟨_, _, _, wh5⟩ h5 (k := k + cnT TVote wv1 + cnT TQc wv2 + cnT THead wv3 + cnT TBlock wv4) (by omega) ?_
  simp (disch := omega) only [KC_eq, c49, e0, hsz, ifT, w64, RR, RP, Ty.agg, Ty.size, Ty.sizes, eq_self, ne_eq, not_true, not_false_iff, reduceCtorEq, List.length_cons, List.length_nil, decide_true, decide_false, true_and, and_true, ite_true, ite_false, PT.full, enter0, setAll, forget, Fr.set, Fr.get, PT.get, PT.set, kof, ai, ev, ev1, evp, b_add, b_sub, b_mul, b_quo, b_rem, b_eql, b_neq, b_lss, b_leq, b_gtr, b_geq, b_seql, b_sneq, setD, resV, resL, res1, args, List.take_zero, List.drop_zero, List.take_nil, List.take_succ_cons, List.drop_succ_cons, Nat.reduceAdd, Nat.reduceLeDiff, reduceIte, Bool.not_true, Bool.not_false, Bool.false_eq_true, CA_some, Option.some.injEq, Nat.zero_add, Nat.mul_one, Nat.add_zero, setL, List.set_cons_zero, List.set_cons_succ, fillC]
  refine BR_dec (fun hn => absurd hn (by omega)) (fun hn => ?_)
  simp (disch := omega) only [KC_eq, c49, e0, hsz, ifT, w64, RR, RP, Ty.agg, Ty.size, Ty.sizes, eq_self, ne_eq, not_true, not_false_iff, reduceCtorEq, List.length_cons, List.length_nil, decide_true, decide_false, true_and, and_true, ite_true, ite_false, PT.full, enter0, setAll, forget, Fr.set, Fr.get, PT.get, PT.set, kof, ai, ev, ev1, evp, b_add, b_sub, b_mul, b_quo, b_rem, b_eql, b_neq, b_lss, b_leq, b_gtr, b_geq, b_seql, b_sneq, setD, resV, resL, res1, args, List.take_zero, List.drop_zero, List.take_nil, List.take_succ_cons, List.drop_succ_cons, Nat.reduceAdd, Nat.reduceLeDiff, reduceIte, Bool.not_true, Bool.not_false, Bool.false_eq_true, CA_some, Option.some.injEq, Nat.zero_add, Nat.mul_one, Nat.add_zero, setL, List.set_cons_zero, List.set_cons_succ, fillC]
  refine HdOk.go hd_Proof ⟨_, _, _, wh6⟩ h6 (k := k + cnT TVote wv1 + cnT TQc wv2 + cnT THead wv3 + cnT TBlock wv4 + cnT TTc wv5) (by omega) ?_
  simp (disch := omega) only [KC_eq, c49, e0, hsz, ifT, w64, RR, RP, Ty.agg, Ty.size, Ty.sizes, eq_self, ne_eq, not_true, not_false_iff, reduceCtorEq, List.length_cons, List.length_nil, decide_true, decide_false, true_and, and_true, ite_true, ite_false, PT.full, enter0, setAll, forget, Fr.set, Fr.get, PT.get, PT.set, kof, ai, ev, ev1, evp, b_add, b_sub, b_mul, b_quo, b_rem, b_eql, b_neq, b_lss, b_leq, b_gtr, b_geq, b_seql, b_sneq, setD, resV, resL, res1, args, List.take_zero, List.drop_zero, List.take_nil, List.take_succ_cons, List.drop_succ_cons, Nat.reduceAdd, Nat.reduceLeDiff, reduceIte, Bool.not_true, Bool.not_false, Bool.false_eq_true, CA_some, Option.some.injEq, Nat.zero_add, Nat.mul_one, Nat.add_zero, setL, List.set_cons_zero, List.set_cons_succ, fillC]
  refine BR_dec (fun hn => absurd hn (by omega)) (fun hn => ?_)
  simp (disch := omega) only [KC_eq, c49, e0, hsz, ifT, w64, RR, RP, Ty.agg, Ty.size, Ty.sizes, eq_self, ne_eq, not_true, not_false_iff, reduceCtorEq, List.length_cons, List.length_nil, decide_true, decide_false, true_and, and_true, ite_true, ite_false, PT.full, enter0, setAll, forget, Fr.set, Fr.get, PT.get, PT.set, kof, ai, ev, ev1, evp, b_add, b_sub, b_mul, b_quo, b_rem, b_eql, b_neq, b_lss, b_leq, b_gtr, b_geq, b_seql, b_sneq, setD, resV, resL, res1, args, List.take_zero, List.drop_zero, List.take_nil, List.take_succ_cons, List.drop_succ_cons, Nat.reduceAdd, Nat.reduceLeDiff, reduceIte, Bool.not_true, Bool.not_false, Bool.false_eq_true, CA_some, Option.some.injEq, Nat.zero_add, Nat.mul_one, Nat.add_zero, setL, List.set_cons_zero, List.set_cons_succ, fillC]
  refine HdOk.go hd_Incl ⟨_, _, _, wh7⟩ h7 (k := k + cnT TVote wv1 + cnT TQc wv2 + cnT THead wv3 + cnT TBlock wv4 + cnT TTc wv5 + cnT TProof wv6) (by omega) ?_
  simp (disch := omega) only [KC_eq, c49, e0, hsz, ifT, w64, RR, RP, Ty.agg, Ty.size, Ty.sizes, eq_self, ne_eq, not_true, not_false_iff, reduceCtorEq, List.length_cons, List.length_nil, decide_true, decide_false, true_and, and_true, ite_true, ite_false, PT.full, enter0, setAll, forget, Fr.set, Fr.get, PT.get, PT.set, kof, ai, ev, ev1, evp, b_add, b_sub, b_mul, b_quo, b_rem, b_eql, b_neq, b_lss, b_leq, b_gtr, b_geq, b_seql, b_sneq, setD, resV, resL, res1, args, List.take_zero, List.drop_zero, List.take_nil, List.take_succ_cons, List.drop_succ_cons, Nat.reduceAdd, Nat.reduceLeDiff, reduceIte, Bool.not_true, Bool.not_false, Bool.false_eq_true, CA_some, Option.some.injEq, Nat.zero_add, Nat.mul_one, Nat.add_zero, setL, List.set_cons_zero, List.set_cons_succ, fillC]
  refine BR_dec (fun hn => absurd hn (by omega)) (fun hn => ?_)
  simp (disch := omega) only [KC_eq, c49, e0, hsz, ifT, w64, RR, RP, Ty.agg, Ty.size, Ty.sizes, eq_self, ne_eq, not_true, not_false_iff, reduceCtorEq, List.length_cons, List.length_nil, decide_true, decide_false, true_and, and_true, ite_true, ite_false, PT.full, enter0, setAll, forget, Fr.set, Fr.get, PT.get, PT.set, kof, ai, ev, ev1, evp, b_add, b_sub, b_mul, b_quo, b_rem, b_eql, b_neq, b_lss, b_leq, b_gtr, b_geq, b_seql, b_sneq, setD, resV, resL, res1, args, List.take_zero, List.drop_zero, List.take_nil, List.take_succ_cons, List.drop_succ_cons, Nat.reduceAdd, Nat.reduceLeDiff, reduceIte, Bool.not_true, Bool.not_false, Bool.false_eq_true, CA_some, Option.some.injEq, Nat.zero_add, Nat.mul_one, Nat.add_zero, setL, List.set_cons_zero, List.set_cons_succ, fillC]
  all_goals congr 3
  all_goals omega
end Go.Eng.U
