import Derived.Test.YtaicdpancmfhnaaGreatGb
import Derived.Test.YtaicdpancmfhnaaGreatGe
import Derived.Test.YtaicdpancmfhnaaGreatGf
import Derived.Test.YtaicdpancmfhnaaGreatGh
set_option maxRecDepth 100000
set_option linter.unusedSimpArgs false
set_option linter.unusedVariables false
namespace Go.Eng.U
theorem len_5 {l : List C} (h : l.length = 5) : ∃ x0 x1 x2 x3 x4, l = [x0, x1, x2, x3, x4] := by
  rcases l with _ | ⟨x0, l⟩
  · simp at h
  rcases l with _ | ⟨x1, l⟩
  · simp at h
  rcases l with _ | ⟨x2, l⟩
  · simp at h
  rcases l with _ | ⟨x3, l⟩
  · simp at h
  rcases l with _ | ⟨x4, l⟩
  · simp at h
  · simp at h; exact ⟨x0, x1, x2, x3, x4, by simp [h]⟩
/-- laws.toLimits -/
def c18 : AF := ⟨1, 5, [.cell 2 5 true], (.seq (.ops [.i (.lbox 1 (.s 0)), .i (.lal 2 [.int .i64 0, .int .i64 0, .int .i64 0, .int .i64 0, .int .i64 0])]) (.seq (.ops [.i (.lal 3 [.int .i64 0, .int .i64 0, .int .i64 0, .int .i64 0, .int .i64 0])]) (.seq (.ops [.i (.fad 4 (.s 1) 0), .i (.ldl 5 1 (.s 4) 1 false), .i (.fad 6 (.s 3) 0), .i (.stl 3 (.s 6) (.s 5) 1)]) (.seq (.ops [.i (.fad 7 (.s 1) 1), .i (.ldl 8 1 (.s 7) 1 false), .i (.fad 9 (.s 3) 1), .i (.stl 3 (.s 9) (.s 8) 1)]) (.seq (.ops [.i (.fad 10 (.s 1) 2), .i (.ldl 11 1 (.s 10) 1 false), .i (.fad 12 (.s 3) 2), .i (.stl 3 (.s 12) (.s 11) 1)]) (.seq (.ops [.i (.fad 13 (.s 1) 3), .i (.ldl 14 1 (.s 13) 1 false), .i (.fad 15 (.s 3) 3), .i (.stl 3 (.s 15) (.s 14) 1)]) (.seq (.ops [.i (.fad 16 (.s 1) 4), .i (.ldl 17 1 (.s 16) 1 false), .i (.fad 18 (.s 3) 4), .i (.stl 3 (.s 18) (.s 17) 1)]) (.seq (.ops [.i (.ldl 19 3 (.s 3) 5 true), .i (.stl 2 (.s 2) (.s 19) 5)]) .ret))))))))⟩
theorem k18 : cd 18 = some c18 := by kernel_rfl
theorem to_Limits : ToOk cd 18 TLimits := by
  intro h cs v S hv hw
  obtain ⟨vs, rfl, q0⟩ := hv.st
  obtain ⟨v0, r0, S0, T0, rfl, rfl, h0, q1⟩ := q0.step
  obtain ⟨n0, e0, rfl, rfl, lo0, hi0⟩ := h0.int
  obtain ⟨v1, r1, S1, T1, rfl, rfl, h1, q2⟩ := q1.step
  obtain ⟨n1, e1, rfl, rfl, lo1, hi1⟩ := h1.int
  obtain ⟨v2, r2, S2, T2, rfl, rfl, h2, q3⟩ := q2.step
  obtain ⟨n2, e2, rfl, rfl, lo2, hi2⟩ := h2.int
  obtain ⟨v3, r3, S3, T3, rfl, rfl, h3, q4⟩ := q3.step
  obtain ⟨n3, e3, rfl, rfl, lo3, hi3⟩ := h3.int
  obtain ⟨v4, r4, S4, T4, rfl, rfl, h4, q5⟩ := q4.step
  obtain ⟨n4, e4, rfl, rfl, lo4, hi4⟩ := h4.int
  obtain ⟨_, rfl, rfl⟩ := q5
  have hsz : cs.length = 5 := hv.size
  simp only [Ty.size, Ty.sizes, Nat.reduceAdd, Nat.zero_add, List.drop_zero] at e0 e1 e2 e3 e4 hsz
  simp only [wt, wts] at hw
  refine WS_enter k18 rfl ?_
  simp (disch := omega) only [KC_eq, c18, e0, e1, e2, e3, e4, hsz, ifT, w64, SQ, SU, SL, reduceCtorEq, Nat.reduceAdd, Nat.reduceLeDiff, reduceIte]
  exact ⟨[], _, _, by simp, rfl, ⟨_, rfl, (Rs.mk (Rp.mkInt lo0 hi0) (Rs.mk (Rp.mkInt lo1 hi1) (Rs.mk (Rp.mkInt lo2 hi2) (Rs.mk (Rp.mkInt lo3 hi3) (Rs.mk (Rp.mkInt lo4 hi4) Rs.nil)))))⟩, by simp [Ownd], by simp⟩
/-- laws.szByteS -/
def c51 : AF := ⟨2, 4, [.tmp 4], (.seq (.ops [.i (.mov 4 (.c (.val false [.int .i64 0])))]) (.seq (.ops [.i (.mov 5 (.s 1)), .i (.mov 6 (.s 0)), .i (.len 7 false (.s 6)), .i (.bin 8 .sub (.s 5) (.s 7)), .i (.mov 1 (.s 8))]) (.seq (.seq (.ops [.i (.mov 9 (.s 1)), .i (.bin 10 .lss (.s 9) (.c (.val false [.int .i64 0])))]) (.cond (.s 10) (.seq (.ops [.i (.mov 4 (.c (.val false [.int .i64 (-1)])))]) .ret) .skip)) (.seq (.ops [.i (.mov 11 (.s 1)), .i (.mov 4 (.s 11))]) .ret))))⟩
theorem k51 : cd 51 = some c51 := by kernel_rfl
theorem sz_ByteS : SzOk cd 51 (.sl (.int .u8)) := sz_leaf k51
theorem len_2 {l : List C} (h : l.length = 2) : ∃ x0 x1, l = [x0, x1] := by
  rcases l with _ | ⟨x0, l⟩
  · simp at h
  rcases l with _ | ⟨x1, l⟩
  · simp at h
  · simp at h; exact ⟨x0, x1, by simp [h]⟩
/-- laws.szRow -/
def c81 : AF := ⟨2, 4, [.tmp 4], (.seq (.ops [.i (.lbox 2 (.s 0)), .i (.mov 4 (.c (.val false [.int .i64 0])))]) (.seq (.ops [.i (.fad 5 (.s 2) 1), .i (.ldl 6 2 (.s 5) 1 false), .i (.mov 7 (.s 1)), .i (.call 9 51 false [(.s 6), (.s 7)]), .i (.mov 1 (.s 8))]) (.seq (.seq (.ops [.i (.mov 9 (.s 1)), .i (.bin 10 .lss (.s 9) (.c (.val false [.int .i64 0])))]) (.cond (.s 10) (.seq (.ops [.i (.mov 4 (.c (.val false [.int .i64 (-1)])))]) .ret) .skip)) (.seq (.ops [.i (.mov 11 (.s 1)), .i (.mov 4 (.s 11))]) .ret))))⟩
theorem k81 : cd 81 = some c81 := by kernel_rfl
theorem sz_Row : SzOk cd 81 TRow := by
  intro h cs v S k hv hk
  obtain ⟨vs, rfl, q0⟩ := hv.st
  obtain ⟨v0, r0, S0, T0, rfl, rfl, h0, q1⟩ := q0.step
  obtain ⟨n0, e0, rfl, rfl, lo0, hi0⟩ := h0.int
  obtain ⟨v1, r1, S1, T1, rfl, rfl, h1, q2⟩ := q1.step
  obtain ⟨c1, e1⟩ := h1.one rfl
  rw [e1] at h1
  obtain ⟨_, rfl, rfl⟩ := q2
  have hsz : cs.length = 2 := hv.size
  simp only [Ty.size, Ty.sizes, Nat.reduceAdd, Nat.zero_add, List.drop_zero] at e0 e1 hsz
  have hw : wt (.r [.i n0, v1]) = wt v1 := by simp only [wt, wts]; omega
  rw [hw]
  refine WS_enter k81 rfl ?_
  simp (disch := omega) only [c81, e0, e1, hsz, ifT, w64, SQ, SU, SL, reduceCtorEq, Nat.reduceAdd, Nat.reduceLeDiff, reduceIte]
  refine SzOk.go sz_ByteS h1 (k := k) (by omega) (fun hf0 => ?_) (fun hf0 => ?_)
  case refine_2 =>
    simp (disch := omega) only [KC_eq, c81, e0, e1, hsz, ifT, w64, SQ, SU, SL, reduceCtorEq, Nat.reduceAdd, Nat.reduceLeDiff, reduceIte]
    refine BR_dec (fun hn => ?_) (fun hn => absurd (show (-1 : Int) < 0 by omega) hn)
    simp (disch := omega) only [c81, e0, e1, hsz, ifT, w64, SQ, SU, SL, reduceCtorEq, Nat.reduceAdd, Nat.reduceLeDiff, reduceIte]
    rw [if_neg (by omega)]
  simp (disch := omega) only [KC_eq, c81, e0, e1, hsz, ifT, w64, SQ, SU, SL, reduceCtorEq, Nat.reduceAdd, Nat.reduceLeDiff, reduceIte]
  refine BR_dec (fun hn => absurd hn (by omega)) (fun hn => ?_)
  simp (disch := omega) only [c81, e0, e1, hsz, ifT, w64, SQ, SU, SL, reduceCtorEq, Nat.reduceAdd, Nat.reduceLeDiff, reduceIte]
  congr 3
  omega
/-- laws.szRowS -/
def c50 : AF := ⟨2, 5, [.tmp 4], (.seq (.ops [.i (.mov 4 (.c (.val false [.int .i64 0])))]) (.seq (.ops [.i (.mov 6 (.s 1)), .i (.mov 7 (.s 0)), .i (.len 8 false (.s 7)), .i (.bin 9 .sub (.s 6) (.s 8)), .i (.mov 1 (.s 9))]) (.seq (.seq (.ops [.i (.mov 10 (.s 1)), .i (.bin 11 .lss (.s 10) (.c (.val false [.int .i64 0])))]) (.cond (.s 11) (.seq (.ops [.i (.mov 4 (.c (.val false [.int .i64 (-1)])))]) .ret) .skip)) (.seq (.seq (.ops [.i (.mov 5 (.c (.val false [.int .i64 0])))]) (.block 0 (.loop [25, 24, 23, 22, 21, 20, 19, 18, 17, 16, 15, 14, 13, 12] (.seq (.seq (.ops [.i (.mov 12 (.s 5)), .i (.mov 13 (.s 0)), .i (.len 14 false (.s 13)), .i (.bin 15 .lss (.s 12) (.s 14))]) (.cond (.s 15) .skip (.exit 0))) (.seq (.block 1 (.seq (.ops [.i (.mov 18 (.s 0)), .i (.mov 19 (.s 5)), .i (.iad 20 (.s 18) (.s 19) 2), .i (.ldh 21 (.s 20) 2 true), .i (.mov 22 (.s 1)), .i (.call 24 81 false [(.s 21), (.s 22)]), .i (.mov 1 (.s 23))]) (.seq (.ops [.i (.mov 24 (.s 1)), .i (.bin 25 .lss (.s 24) (.c (.val false [.int .i64 0])))]) (.cond (.s 25) (.seq (.ops [.i (.mov 4 (.c (.val false [.int .i64 (-1)])))]) .ret) .skip)))) (.ops [.i (.mov 16 (.s 5)), .i (.bin 17 .add (.s 16) (.c (.val false [.int .i64 1]))), .i (.mov 5 (.s 17))])))))) (.seq (.ops [.i (.mov 26 (.s 1)), .i (.mov 4 (.s 26))]) .ret)))))⟩
theorem k50 : cd 50 = some c50 := by kernel_rfl
theorem sz_RowS : SzOk cd 50 (.sl TRow) := sz_sl k50 sz_Row
/-- laws.szTable -/
def c15 : AF := ⟨2, 4, [.tmp 4], (.seq (.ops [.i (.lbox 2 (.s 0)), .i (.mov 4 (.c (.val false [.int .i64 0])))]) (.seq (.ops [.i (.fad 5 (.s 2) 0), .i (.ldl 6 2 (.s 5) 1 false), .i (.mov 7 (.s 1)), .i (.call 9 50 false [(.s 6), (.s 7)]), .i (.mov 1 (.s 8))]) (.seq (.seq (.ops [.i (.mov 9 (.s 1)), .i (.bin 10 .lss (.s 9) (.c (.val false [.int .i64 0])))]) (.cond (.s 10) (.seq (.ops [.i (.mov 4 (.c (.val false [.int .i64 (-1)])))]) .ret) .skip)) (.seq (.ops [.i (.mov 11 (.s 1)), .i (.mov 4 (.s 11))]) .ret))))⟩
theorem k15 : cd 15 = some c15 := by kernel_rfl
theorem sz_Table : SzOk cd 15 TTable := by
  intro h cs v S k hv hk
  obtain ⟨vs, rfl, q0⟩ := hv.st
  obtain ⟨v0, r0, S0, T0, rfl, rfl, h0, q1⟩ := q0.step
  obtain ⟨c0, e0⟩ := h0.one rfl
  rw [e0] at h0
  obtain ⟨_, rfl, rfl⟩ := q1
  have hsz : cs.length = 1 := hv.size
  simp only [Ty.size, Ty.sizes, Nat.reduceAdd, Nat.zero_add, List.drop_zero] at e0 hsz
  have hw : wt (.r [v0]) = wt v0 := by simp only [wt, wts]; omega
  rw [hw]
  refine WS_enter k15 rfl ?_
  simp (disch := omega) only [c15, e0, hsz, ifT, w64, SQ, SU, SL, reduceCtorEq, Nat.reduceAdd, Nat.reduceLeDiff, reduceIte]
  refine SzOk.go sz_RowS h0 (k := k) (by omega) (fun hf0 => ?_) (fun hf0 => ?_)
  case refine_2 =>
    simp (disch := omega) only [KC_eq, c15, e0, hsz, ifT, w64, SQ, SU, SL, reduceCtorEq, Nat.reduceAdd, Nat.reduceLeDiff, reduceIte]
    refine BR_dec (fun hn => ?_) (fun hn => absurd (show (-1 : Int) < 0 by omega) hn)
    simp (disch := omega) only [c15, e0, hsz, ifT, w64, SQ, SU, SL, reduceCtorEq, Nat.reduceAdd, Nat.reduceLeDiff, reduceIte]
    rw [if_neg (by omega)]
  simp (disch := omega) only [KC_eq, c15, e0, hsz, ifT, w64, SQ, SU, SL, reduceCtorEq, Nat.reduceAdd, Nat.reduceLeDiff, reduceIte]
  refine BR_dec (fun hn => absurd hn (by omega)) (fun hn => ?_)
  simp (disch := omega) only [c15, e0, hsz, ifT, w64, SQ, SU, SL, reduceCtorEq, Nat.reduceAdd, Nat.reduceLeDiff, reduceIte]
  congr 3
  omega
/-- laws.toByteS -/
def c21 : AF := ⟨1, 5, [.tmp 2], (.seq (.ops [.i (.mov 2 (.c (.val false [.nils])))]) (.seq (.ops [.i (.mov 5 (.s 0)), .i (.len 6 false (.s 5)), .i (.mks 7 5 1 1 [.int .u8 0] (.s 6)), .i (.mov 3 (.s 7))]) (.seq (.seq (.ops [.i (.mov 4 (.c (.val false [.int .i64 0])))]) (.block 0 (.loop [20, 19, 18, 17, 16, 15, 14, 13, 12, 11, 10, 9, 8] (.seq (.seq (.ops [.i (.mov 8 (.s 4)), .i (.mov 9 (.s 0)), .i (.len 10 false (.s 9)), .i (.bin 11 .lss (.s 8) (.s 10))]) (.cond (.s 11) .skip (.exit 0))) (.seq (.block 1 (.ops [.i (.mov 14 (.s 3)), .i (.mov 15 (.s 4)), .i (.mov 16 (.s 0)), .i (.mov 17 (.s 4)), .i (.iad 18 (.s 16) (.s 17) 1), .i (.ldh 19 (.s 18) 1 false), .i (.iad 20 (.s 14) (.s 15) 1), .i (.sth (.s 20) (.s 19) 1)])) (.ops [.i (.mov 12 (.s 4)), .i (.bin 13 .add (.s 12) (.c (.val false [.int .i64 1]))), .i (.mov 4 (.s 13))])))))) (.seq (.ops [.i (.mov 21 (.s 3)), .i (.mov 2 (.s 21))]) .ret))))⟩
theorem k21 : cd 21 = some c21 := by kernel_rfl
theorem to_ByteS : ToOk cd 21 (.sl (.int .u8)) := to_leaf k21 (by omega)
/-- laws.toRow -/
def c90 : AF := ⟨1, 4, [.cell 2 2 true], (.seq (.ops [.i (.lbox 1 (.s 0)), .i (.lal 2 [.int .i64 0, .nils])]) (.seq (.ops [.i (.lal 3 [.int .i64 0, .nils])]) (.seq (.ops [.i (.fad 4 (.s 1) 0), .i (.ldl 5 1 (.s 4) 1 false), .i (.fad 6 (.s 3) 0), .i (.stl 3 (.s 6) (.s 5) 1)]) (.seq (.ops [.i (.fad 7 (.s 1) 1), .i (.ldl 8 1 (.s 7) 1 false), .i (.call 10 21 false [(.s 8)]), .i (.fad 10 (.s 3) 1), .i (.stl 3 (.s 10) (.s 9) 1)]) (.seq (.ops [.i (.ldl 11 3 (.s 3) 2 true), .i (.stl 2 (.s 2) (.s 11) 2)]) .ret)))))⟩
theorem k90 : cd 90 = some c90 := by kernel_rfl
theorem to_Row : ToOk cd 90 TRow := by
  intro h cs v S hv hw
  obtain ⟨vs, rfl, q0⟩ := hv.st
  obtain ⟨v0, r0, S0, T0, rfl, rfl, h0, q1⟩ := q0.step
  obtain ⟨n0, e0, rfl, rfl, lo0, hi0⟩ := h0.int
  obtain ⟨v1, r1, S1, T1, rfl, rfl, h1, q2⟩ := q1.step
  obtain ⟨c1, e1⟩ := h1.one rfl
  rw [e1] at h1
  obtain ⟨_, rfl, rfl⟩ := q2
  have hsz : cs.length = 2 := hv.size
  simp only [Ty.size, Ty.sizes, Nat.reduceAdd, Nat.zero_add, List.drop_zero] at e0 e1 hsz
  simp only [wt, wts] at hw
  refine WS_enter k90 rfl ?_
  simp (disch := omega) only [KC_eq, c90, e0, e1, hsz, ifT, w64, SQ, SU, SL, reduceCtorEq, Nat.reduceAdd, Nat.reduceLeDiff, reduceIte]
  refine WC_call (to_ByteS h1 (by omega)) ?_
  rintro r0 g0 ⟨t0, d0, U0, rfl, rfl, z0, o0, l0⟩
  obtain ⟨y0_0, rfl⟩ := z0.one rfl
  simp (disch := omega) only [KC_eq, c90, e0, e1, hsz, ifT, w64, SQ, SU, SL, reduceCtorEq, Nat.reduceAdd, Nat.reduceLeDiff, reduceIte]
  refine ⟨t0, _, _, by simp only [List.append_assoc], rfl, ⟨_, rfl, (Rs.mk (Rp.mkInt lo0 hi0) (Rs.mk z0 Rs.nil))⟩, ?_⟩
  have fr := (Fre.step (Fre.nil h) z0.lt o0 l0)
  simpa only [List.nil_append, List.append_nil, List.append_assoc] using fr.both
/-- laws.toRowS -/
def c57 : AF := ⟨1, 5, [.tmp 2], (.seq (.ops [.i (.mov 2 (.c (.val false [.nils])))]) (.seq (.ops [.i (.mov 5 (.s 0)), .i (.len 6 false (.s 5)), .i (.mks 7 123 2 32 [.int .i64 0, .nils] (.s 6)), .i (.mov 3 (.s 7))]) (.seq (.seq (.ops [.i (.mov 4 (.c (.val false [.int .i64 0])))]) (.block 0 (.loop [21, 20, 19, 18, 17, 16, 15, 14, 13, 12, 11, 10, 9, 8] (.seq (.seq (.ops [.i (.mov 8 (.s 4)), .i (.mov 9 (.s 0)), .i (.len 10 false (.s 9)), .i (.bin 11 .lss (.s 8) (.s 10))]) (.cond (.s 11) .skip (.exit 0))) (.seq (.block 1 (.ops [.i (.mov 14 (.s 3)), .i (.mov 15 (.s 4)), .i (.mov 16 (.s 0)), .i (.mov 17 (.s 4)), .i (.iad 18 (.s 16) (.s 17) 2), .i (.ldh 19 (.s 18) 2 true), .i (.call 21 90 false [(.s 19)]), .i (.iad 21 (.s 14) (.s 15) 2), .i (.sth (.s 21) (.s 20) 2)])) (.ops [.i (.mov 12 (.s 4)), .i (.bin 13 .add (.s 12) (.c (.val false [.int .i64 1]))), .i (.mov 4 (.s 13))])))))) (.seq (.ops [.i (.mov 22 (.s 3)), .i (.mov 2 (.s 22))]) .ret))))⟩
theorem k57 : cd 57 = some c57 := by kernel_rfl
theorem to_RowS : ToOk cd 57 (.sl TRow) := to_sl k57 (by omega) rfl to_Row
/-- laws.toTable -/
def c19 : AF := ⟨1, 4, [.cell 2 1 true], (.seq (.ops [.i (.lbox 1 (.s 0)), .i (.lal 2 [.nils])]) (.seq (.ops [.i (.lal 3 [.nils])]) (.seq (.ops [.i (.fad 4 (.s 1) 0), .i (.ldl 5 1 (.s 4) 1 false), .i (.call 7 57 false [(.s 5)]), .i (.fad 7 (.s 3) 0), .i (.stl 3 (.s 7) (.s 6) 1)]) (.seq (.ops [.i (.ldl 8 3 (.s 3) 1 true), .i (.stl 2 (.s 2) (.s 8) 1)]) .ret))))⟩
theorem k19 : cd 19 = some c19 := by kernel_rfl
theorem to_Table : ToOk cd 19 TTable := by
  intro h cs v S hv hw
  obtain ⟨vs, rfl, q0⟩ := hv.st
  obtain ⟨v0, r0, S0, T0, rfl, rfl, h0, q1⟩ := q0.step
  obtain ⟨c0, e0⟩ := h0.one rfl
  rw [e0] at h0
  obtain ⟨_, rfl, rfl⟩ := q1
  have hsz : cs.length = 1 := hv.size
  simp only [Ty.size, Ty.sizes, Nat.reduceAdd, Nat.zero_add, List.drop_zero] at e0 hsz
  simp only [wt, wts] at hw
  refine WS_enter k19 rfl ?_
  simp (disch := omega) only [KC_eq, c19, e0, hsz, ifT, w64, SQ, SU, SL, reduceCtorEq, Nat.reduceAdd, Nat.reduceLeDiff, reduceIte]
  refine WC_call (to_RowS h0 (by omega)) ?_
  rintro r0 g0 ⟨t0, d0, U0, rfl, rfl, z0, o0, l0⟩
  obtain ⟨y0_0, rfl⟩ := z0.one rfl
  simp (disch := omega) only [KC_eq, c19, e0, hsz, ifT, w64, SQ, SU, SL, reduceCtorEq, Nat.reduceAdd, Nat.reduceLeDiff, reduceIte]
  refine ⟨t0, _, _, by simp only [List.append_assoc], rfl, ⟨_, rfl, (Rs.mk z0 Rs.nil)⟩, ?_⟩
  have fr := (Fre.step (Fre.nil h) z0.lt o0 l0)
  simpa only [List.nil_append, List.append_nil, List.append_assoc] using fr.both
/-- laws.szByteSS -/
def c82 : AF := ⟨2, 5, [.tmp 4], (.seq (.ops [.i (.mov 4 (.c (.val false [.int .i64 0])))]) (.seq (.ops [.i (.mov 6 (.s 1)), .i (.mov 7 (.s 0)), .i (.len 8 false (.s 7)), .i (.bin 9 .sub (.s 6) (.s 8)), .i (.mov 1 (.s 9))]) (.seq (.seq (.ops [.i (.mov 10 (.s 1)), .i (.bin 11 .lss (.s 10) (.c (.val false [.int .i64 0])))]) (.cond (.s 11) (.seq (.ops [.i (.mov 4 (.c (.val false [.int .i64 (-1)])))]) .ret) .skip)) (.seq (.seq (.ops [.i (.mov 5 (.c (.val false [.int .i64 0])))]) (.block 0 (.loop [25, 24, 23, 22, 21, 20, 19, 18, 17, 16, 15, 14, 13, 12] (.seq (.seq (.ops [.i (.mov 12 (.s 5)), .i (.mov 13 (.s 0)), .i (.len 14 false (.s 13)), .i (.bin 15 .lss (.s 12) (.s 14))]) (.cond (.s 15) .skip (.exit 0))) (.seq (.block 1 (.seq (.ops [.i (.mov 18 (.s 0)), .i (.mov 19 (.s 5)), .i (.iad 20 (.s 18) (.s 19) 1), .i (.ldh 21 (.s 20) 1 false), .i (.mov 22 (.s 1)), .i (.call 24 51 false [(.s 21), (.s 22)]), .i (.mov 1 (.s 23))]) (.seq (.ops [.i (.mov 24 (.s 1)), .i (.bin 25 .lss (.s 24) (.c (.val false [.int .i64 0])))]) (.cond (.s 25) (.seq (.ops [.i (.mov 4 (.c (.val false [.int .i64 (-1)])))]) .ret) .skip)))) (.ops [.i (.mov 16 (.s 5)), .i (.bin 17 .add (.s 16) (.c (.val false [.int .i64 1]))), .i (.mov 5 (.s 17))])))))) (.seq (.ops [.i (.mov 26 (.s 1)), .i (.mov 4 (.s 26))]) .ret)))))⟩
theorem k82 : cd 82 = some c82 := by kernel_rfl
theorem sz_ByteSS : SzOk cd 82 (.sl (.sl (.int .u8))) := sz_sl k82 sz_ByteS
/-- laws.szQc -/
def c52 : AF := ⟨2, 5, [.tmp 4], (.seq (.ops [.i (.lbox 2 (.s 0)), .i (.mov 4 (.c (.val false [.int .i64 0])))]) (.seq (.ops [.i (.fad 5 (.s 2) 2), .i (.ldl 6 2 (.s 5) 1 false), .i (.mov 7 (.s 1)), .i (.call 9 51 false [(.s 6), (.s 7)]), .i (.mov 1 (.s 8))]) (.seq (.seq (.ops [.i (.mov 9 (.s 1)), .i (.bin 10 .lss (.s 9) (.c (.val false [.int .i64 0])))]) (.cond (.s 10) (.seq (.ops [.i (.mov 4 (.c (.val false [.int .i64 (-1)])))]) .ret) .skip)) (.seq (.ops [.i (.fad 11 (.s 2) 3), .i (.ldl 12 2 (.s 11) 1 false), .i (.mov 13 (.s 1)), .i (.call 15 51 false [(.s 12), (.s 13)]), .i (.mov 1 (.s 14))]) (.seq (.seq (.ops [.i (.mov 15 (.s 1)), .i (.bin 16 .lss (.s 15) (.c (.val false [.int .i64 0])))]) (.cond (.s 16) (.seq (.ops [.i (.mov 4 (.c (.val false [.int .i64 (-1)])))]) .ret) .skip)) (.seq (.ops [.i (.fad 17 (.s 2) 4), .i (.ldl 18 2 (.s 17) 1 false), .i (.mov 19 (.s 1)), .i (.call 21 82 false [(.s 18), (.s 19)]), .i (.mov 1 (.s 20))]) (.seq (.seq (.ops [.i (.mov 21 (.s 1)), .i (.bin 22 .lss (.s 21) (.c (.val false [.int .i64 0])))]) (.cond (.s 22) (.seq (.ops [.i (.mov 4 (.c (.val false [.int .i64 (-1)])))]) .ret) .skip)) (.seq (.ops [.i (.mov 23 (.s 1)), .i (.mov 4 (.s 23))]) .ret))))))))⟩
theorem k52 : cd 52 = some c52 := by kernel_rfl
theorem sz_Qc : SzOk cd 52 TQc := by
  intro h cs v S k hv hk
  obtain ⟨vs, rfl, q0⟩ := hv.st
  obtain ⟨v0, r0, S0, T0, rfl, rfl, h0, q1⟩ := q0.step
  obtain ⟨n0, e0, rfl, rfl, lo0, hi0⟩ := h0.int
  obtain ⟨v1, r1, S1, T1, rfl, rfl, h1, q2⟩ := q1.step
  obtain ⟨n1, e1, rfl, rfl, lo1, hi1⟩ := h1.int
  obtain ⟨v2, r2, S2, T2, rfl, rfl, h2, q3⟩ := q2.step
  obtain ⟨c2, e2⟩ := h2.one rfl
  rw [e2] at h2
  obtain ⟨v3, r3, S3, T3, rfl, rfl, h3, q4⟩ := q3.step
  obtain ⟨c3, e3⟩ := h3.one rfl
  rw [e3] at h3
  obtain ⟨v4, r4, S4, T4, rfl, rfl, h4, q5⟩ := q4.step
  obtain ⟨c4, e4⟩ := h4.one rfl
  rw [e4] at h4
  obtain ⟨_, rfl, rfl⟩ := q5
  have hsz : cs.length = 5 := hv.size
  simp only [Ty.size, Ty.sizes, Nat.reduceAdd, Nat.zero_add, List.drop_zero] at e0 e1 e2 e3 e4 hsz
  have hw : wt (.r [.i n0, .i n1, v2, v3, v4]) = wt v2 + wt v3 + wt v4 := by simp only [wt, wts]; omega
  rw [hw]
  refine WS_enter k52 rfl ?_
  simp (disch := omega) only [c52, e0, e1, e2, e3, e4, hsz, ifT, w64, SQ, SU, SL, reduceCtorEq, Nat.reduceAdd, Nat.reduceLeDiff, reduceIte]
  refine SzOk.go sz_ByteS h2 (k := k) (by omega) (fun hf0 => ?_) (fun hf0 => ?_)
  case refine_2 =>
    simp (disch := omega) only [KC_eq, c52, e0, e1, e2, e3, e4, hsz, ifT, w64, SQ, SU, SL, reduceCtorEq, Nat.reduceAdd, Nat.reduceLeDiff, reduceIte]
    refine BR_dec (fun hn => ?_) (fun hn => absurd (show (-1 : Int) < 0 by omega) hn)
    simp (disch := omega) only [c52, e0, e1, e2, e3, e4, hsz, ifT, w64, SQ, SU, SL, reduceCtorEq, Nat.reduceAdd, Nat.reduceLeDiff, reduceIte]
    rw [if_neg (by omega)]
  simp (disch := omega) only [KC_eq, c52, e0, e1, e2, e3, e4, hsz, ifT, w64, SQ, SU, SL, reduceCtorEq, Nat.reduceAdd, Nat.reduceLeDiff, reduceIte]
  refine BR_dec (fun hn => absurd hn (by omega)) (fun hn => ?_)
  simp (disch := omega) only [c52, e0, e1, e2, e3, e4, hsz, ifT, w64, SQ, SU, SL, reduceCtorEq, Nat.reduceAdd, Nat.reduceLeDiff, reduceIte]
  refine SzOk.go sz_ByteS h3 (k := k - wt v2) (by omega) (fun hf1 => ?_) (fun hf1 => ?_)
  case refine_2 =>
    simp (disch := omega) only [KC_eq, c52, e0, e1, e2, e3, e4, hsz, ifT, w64, SQ, SU, SL, reduceCtorEq, Nat.reduceAdd, Nat.reduceLeDiff, reduceIte]
    refine BR_dec (fun hn => ?_) (fun hn => absurd (show (-1 : Int) < 0 by omega) hn)
    simp (disch := omega) only [c52, e0, e1, e2, e3, e4, hsz, ifT, w64, SQ, SU, SL, reduceCtorEq, Nat.reduceAdd, Nat.reduceLeDiff, reduceIte]
    rw [if_neg (by omega)]
  simp (disch := omega) only [KC_eq, c52, e0, e1, e2, e3, e4, hsz, ifT, w64, SQ, SU, SL, reduceCtorEq, Nat.reduceAdd, Nat.reduceLeDiff, reduceIte]
  refine BR_dec (fun hn => absurd hn (by omega)) (fun hn => ?_)
  simp (disch := omega) only [c52, e0, e1, e2, e3, e4, hsz, ifT, w64, SQ, SU, SL, reduceCtorEq, Nat.reduceAdd, Nat.reduceLeDiff, reduceIte]
  refine SzOk.go sz_ByteSS h4 (k := k - wt v2 - wt v3) (by omega) (fun hf2 => ?_) (fun hf2 => ?_)
  case refine_2 =>
    simp (disch := omega) only [KC_eq, c52, e0, e1, e2, e3, e4, hsz, ifT, w64, SQ, SU, SL, reduceCtorEq, Nat.reduceAdd, Nat.reduceLeDiff, reduceIte]
    refine BR_dec (fun hn => ?_) (fun hn => absurd (show (-1 : Int) < 0 by omega) hn)
    simp (disch := omega) only [c52, e0, e1, e2, e3, e4, hsz, ifT, w64, SQ, SU, SL, reduceCtorEq, Nat.reduceAdd, Nat.reduceLeDiff, reduceIte]
    rw [if_neg (by omega)]
  simp (disch := omega) only [KC_eq, c52, e0, e1, e2, e3, e4, hsz, ifT, w64, SQ, SU, SL, reduceCtorEq, Nat.reduceAdd, Nat.reduceLeDiff, reduceIte]
  refine BR_dec (fun hn => absurd hn (by omega)) (fun hn => ?_)
  simp (disch := omega) only [c52, e0, e1, e2, e3, e4, hsz, ifT, w64, SQ, SU, SL, reduceCtorEq, Nat.reduceAdd, Nat.reduceLeDiff, reduceIte]
  congr 3
  omega
theorem len_10 {l : List C} (h : l.length = 10) : ∃ x0 x1 x2 x3 x4 x5 x6 x7 x8 x9, l = [x0, x1, x2, x3, x4, x5, x6, x7, x8, x9] := by
  rcases l with _ | ⟨x0, l⟩
  · simp at h
  rcases l with _ | ⟨x1, l⟩
  · simp at h
  rcases l with _ | ⟨x2, l⟩
  · simp at h
  rcases l with _ | ⟨x3, l⟩
  · simp at h
  rcases l with _ | ⟨x4, l⟩
  · simp at h
  rcases l with _ | ⟨x5, l⟩
  · simp at h
  rcases l with _ | ⟨x6, l⟩
  · simp at h
  rcases l with _ | ⟨x7, l⟩
  · simp at h
  rcases l with _ | ⟨x8, l⟩
  · simp at h
  rcases l with _ | ⟨x9, l⟩
  · simp at h
  · simp at h; exact ⟨x0, x1, x2, x3, x4, x5, x6, x7, x8, x9, by simp [h]⟩
/-- laws.szHead -/
def c16 : AF := ⟨2, 5, [.tmp 4], (.seq (.ops [.i (.lbox 2 (.s 0)), .i (.mov 4 (.c (.val false [.int .i64 0])))]) (.seq (.ops [.i (.fad 5 (.s 2) 3), .i (.ldl 6 2 (.s 5) 1 false), .i (.mov 7 (.s 1)), .i (.call 9 51 false [(.s 6), (.s 7)]), .i (.mov 1 (.s 8))]) (.seq (.seq (.ops [.i (.mov 9 (.s 1)), .i (.bin 10 .lss (.s 9) (.c (.val false [.int .i64 0])))]) (.cond (.s 10) (.seq (.ops [.i (.mov 4 (.c (.val false [.int .i64 (-1)])))]) .ret) .skip)) (.seq (.ops [.i (.fad 11 (.s 2) 4), .i (.ldl 12 2 (.s 11) 1 false), .i (.mov 13 (.s 1)), .i (.call 15 51 false [(.s 12), (.s 13)]), .i (.mov 1 (.s 14))]) (.seq (.seq (.ops [.i (.mov 15 (.s 1)), .i (.bin 16 .lss (.s 15) (.c (.val false [.int .i64 0])))]) (.cond (.s 16) (.seq (.ops [.i (.mov 4 (.c (.val false [.int .i64 (-1)])))]) .ret) .skip)) (.seq (.ops [.i (.fad 17 (.s 2) 5), .i (.ldl 18 2 (.s 17) 5 true), .i (.mov 19 (.s 1)), .i (.call 21 52 false [(.s 18), (.s 19)]), .i (.mov 1 (.s 20))]) (.seq (.seq (.ops [.i (.mov 21 (.s 1)), .i (.bin 22 .lss (.s 21) (.c (.val false [.int .i64 0])))]) (.cond (.s 22) (.seq (.ops [.i (.mov 4 (.c (.val false [.int .i64 (-1)])))]) .ret) .skip)) (.seq (.ops [.i (.mov 23 (.s 1)), .i (.mov 4 (.s 23))]) .ret))))))))⟩
theorem k16 : cd 16 = some c16 := by kernel_rfl
theorem sz_Head : SzOk cd 16 THead := by
  intro h cs v S k hv hk
  obtain ⟨vs, rfl, q0⟩ := hv.st
  obtain ⟨v0, r0, S0, T0, rfl, rfl, h0, q1⟩ := q0.step
  obtain ⟨n0, e0, rfl, rfl, lo0, hi0⟩ := h0.int
  obtain ⟨v1, r1, S1, T1, rfl, rfl, h1, q2⟩ := q1.step
  obtain ⟨n1, e1, rfl, rfl, lo1, hi1⟩ := h1.int
  obtain ⟨v2, r2, S2, T2, rfl, rfl, h2, q3⟩ := q2.step
  obtain ⟨n2, e2, rfl, rfl, lo2, hi2⟩ := h2.int
  obtain ⟨v3, r3, S3, T3, rfl, rfl, h3, q4⟩ := q3.step
  obtain ⟨c3, e3⟩ := h3.one rfl
  rw [e3] at h3
  obtain ⟨v4, r4, S4, T4, rfl, rfl, h4, q5⟩ := q4.step
  obtain ⟨c4, e4⟩ := h4.one rfl
  rw [e4] at h4
  obtain ⟨v5, r5, S5, T5, rfl, rfl, h5, q6⟩ := q5.step
  obtain ⟨_, rfl, rfl⟩ := q6
  have hsz : cs.length = 10 := hv.size
  simp only [Ty.size, Ty.sizes, Nat.reduceAdd, Nat.zero_add, List.drop_zero] at e0 e1 e2 e3 e4 hsz h5
  have hw : wt (.r [.i n0, .i n1, .i n2, v3, v4, v5]) = wt v3 + wt v4 + wt v5 := by simp only [wt, wts]; omega
  rw [hw]
  refine WS_enter k16 rfl ?_
  simp (disch := omega) only [c16, e0, e1, e2, e3, e4, hsz, ifT, w64, SQ, SU, SL, reduceCtorEq, Nat.reduceAdd, Nat.reduceLeDiff, reduceIte]
  refine SzOk.go sz_ByteS h3 (k := k) (by omega) (fun hf0 => ?_) (fun hf0 => ?_)
  case refine_2 =>
    simp (disch := omega) only [KC_eq, c16, e0, e1, e2, e3, e4, hsz, ifT, w64, SQ, SU, SL, reduceCtorEq, Nat.reduceAdd, Nat.reduceLeDiff, reduceIte]
    refine BR_dec (fun hn => ?_) (fun hn => absurd (show (-1 : Int) < 0 by omega) hn)
    simp (disch := omega) only [c16, e0, e1, e2, e3, e4, hsz, ifT, w64, SQ, SU, SL, reduceCtorEq, Nat.reduceAdd, Nat.reduceLeDiff, reduceIte]
    rw [if_neg (by omega)]
  simp (disch := omega) only [KC_eq, c16, e0, e1, e2, e3, e4, hsz, ifT, w64, SQ, SU, SL, reduceCtorEq, Nat.reduceAdd, Nat.reduceLeDiff, reduceIte]
  refine BR_dec (fun hn => absurd hn (by omega)) (fun hn => ?_)
  simp (disch := omega) only [c16, e0, e1, e2, e3, e4, hsz, ifT, w64, SQ, SU, SL, reduceCtorEq, Nat.reduceAdd, Nat.reduceLeDiff, reduceIte]
  refine SzOk.go sz_ByteS h4 (k := k - wt v3) (by omega) (fun hf1 => ?_) (fun hf1 => ?_)
  case refine_2 =>
    simp (disch := omega) only [KC_eq, c16, e0, e1, e2, e3, e4, hsz, ifT, w64, SQ, SU, SL, reduceCtorEq, Nat.reduceAdd, Nat.reduceLeDiff, reduceIte]
    refine BR_dec (fun hn => ?_) (fun hn => absurd (show (-1 : Int) < 0 by omega) hn)
    simp (disch := omega) only [c16, e0, e1, e2, e3, e4, hsz, ifT, w64, SQ, SU, SL, reduceCtorEq, Nat.reduceAdd, Nat.reduceLeDiff, reduceIte]
    rw [if_neg (by omega)]
  simp (disch := omega) only [KC_eq, c16, e0, e1, e2, e3, e4, hsz, ifT, w64, SQ, SU, SL, reduceCtorEq, Nat.reduceAdd, Nat.reduceLeDiff, reduceIte]
  refine BR_dec (fun hn => absurd hn (by omega)) (fun hn => ?_)
  simp (disch := omega) only [c16, e0, e1, e2, e3, e4, hsz, ifT, w64, SQ, SU, SL, reduceCtorEq, Nat.reduceAdd, Nat.reduceLeDiff, reduceIte]
  refine SzOk.go sz_Qc h5 (k := k - wt v3 - wt v4) (by omega) (fun hf2 => ?_) (fun hf2 => ?_)
  case refine_2 =>
    simp (disch := omega) only [KC_eq, c16, e0, e1, e2, e3, e4, hsz, ifT, w64, SQ, SU, SL, reduceCtorEq, Nat.reduceAdd, Nat.reduceLeDiff, reduceIte]
    refine BR_dec (fun hn => ?_) (fun hn => absurd (show (-1 : Int) < 0 by omega) hn)
    simp (disch := omega) only [c16, e0, e1, e2, e3, e4, hsz, ifT, w64, SQ, SU, SL, reduceCtorEq, Nat.reduceAdd, Nat.reduceLeDiff, reduceIte]
    rw [if_neg (by omega)]
  simp (disch := omega) only [KC_eq, c16, e0, e1, e2, e3, e4, hsz, ifT, w64, SQ, SU, SL, reduceCtorEq, Nat.reduceAdd, Nat.reduceLeDiff, reduceIte]
  refine BR_dec (fun hn => absurd hn (by omega)) (fun hn => ?_)
  simp (disch := omega) only [c16, e0, e1, e2, e3, e4, hsz, ifT, w64, SQ, SU, SL, reduceCtorEq, Nat.reduceAdd, Nat.reduceLeDiff, reduceIte]
  congr 3
  omega
/-- laws.szHeadS -/
def c27 : AF := ⟨2, 5, [.tmp 4], (.seq (.ops [.i (.mov 4 (.c (.val false [.int .i64 0])))]) (.seq (.ops [.i (.mov 6 (.s 1)), .i (.mov 7 (.s 0)), .i (.len 8 false (.s 7)), .i (.bin 9 .sub (.s 6) (.s 8)), .i (.mov 1 (.s 9))]) (.seq (.seq (.ops [.i (.mov 10 (.s 1)), .i (.bin 11 .lss (.s 10) (.c (.val false [.int .i64 0])))]) (.cond (.s 11) (.seq (.ops [.i (.mov 4 (.c (.val false [.int .i64 (-1)])))]) .ret) .skip)) (.seq (.seq (.ops [.i (.mov 5 (.c (.val false [.int .i64 0])))]) (.block 0 (.loop [25, 24, 23, 22, 21, 20, 19, 18, 17, 16, 15, 14, 13, 12] (.seq (.seq (.ops [.i (.mov 12 (.s 5)), .i (.mov 13 (.s 0)), .i (.len 14 false (.s 13)), .i (.bin 15 .lss (.s 12) (.s 14))]) (.cond (.s 15) .skip (.exit 0))) (.seq (.block 1 (.seq (.ops [.i (.mov 18 (.s 0)), .i (.mov 19 (.s 5)), .i (.iad 20 (.s 18) (.s 19) 10), .i (.ldh 21 (.s 20) 10 true), .i (.mov 22 (.s 1)), .i (.call 24 16 false [(.s 21), (.s 22)]), .i (.mov 1 (.s 23))]) (.seq (.ops [.i (.mov 24 (.s 1)), .i (.bin 25 .lss (.s 24) (.c (.val false [.int .i64 0])))]) (.cond (.s 25) (.seq (.ops [.i (.mov 4 (.c (.val false [.int .i64 (-1)])))]) .ret) .skip)))) (.ops [.i (.mov 16 (.s 5)), .i (.bin 17 .add (.s 16) (.c (.val false [.int .i64 1]))), .i (.mov 5 (.s 17))])))))) (.seq (.ops [.i (.mov 26 (.s 1)), .i (.mov 4 (.s 26))]) .ret)))))⟩
theorem k27 : cd 27 = some c27 := by kernel_rfl
theorem sz_HeadS : SzOk cd 27 (.sl THead) := sz_sl k27 sz_Head
/-- laws.toByteSS -/
def c91 : AF := ⟨1, 5, [.tmp 2], (.seq (.ops [.i (.mov 2 (.c (.val false [.nils])))]) (.seq (.ops [.i (.mov 5 (.s 0)), .i (.len 6 false (.s 5)), .i (.mks 7 27 1 24 [.nils] (.s 6)), .i (.mov 3 (.s 7))]) (.seq (.seq (.ops [.i (.mov 4 (.c (.val false [.int .i64 0])))]) (.block 0 (.loop [21, 20, 19, 18, 17, 16, 15, 14, 13, 12, 11, 10, 9, 8] (.seq (.seq (.ops [.i (.mov 8 (.s 4)), .i (.mov 9 (.s 0)), .i (.len 10 false (.s 9)), .i (.bin 11 .lss (.s 8) (.s 10))]) (.cond (.s 11) .skip (.exit 0))) (.seq (.block 1 (.ops [.i (.mov 14 (.s 3)), .i (.mov 15 (.s 4)), .i (.mov 16 (.s 0)), .i (.mov 17 (.s 4)), .i (.iad 18 (.s 16) (.s 17) 1), .i (.ldh 19 (.s 18) 1 false), .i (.call 21 21 false [(.s 19)]), .i (.iad 21 (.s 14) (.s 15) 1), .i (.sth (.s 21) (.s 20) 1)])) (.ops [.i (.mov 12 (.s 4)), .i (.bin 13 .add (.s 12) (.c (.val false [.int .i64 1]))), .i (.mov 4 (.s 13))])))))) (.seq (.ops [.i (.mov 22 (.s 3)), .i (.mov 2 (.s 22))]) .ret))))⟩
theorem k91 : cd 91 = some c91 := by kernel_rfl
theorem to_ByteSS : ToOk cd 91 (.sl (.sl (.int .u8))) := to_sl k91 (by omega) rfl to_ByteS
/-- laws.toQc -/
def c58 : AF := ⟨1, 5, [.cell 2 5 true], (.seq (.ops [.i (.lbox 1 (.s 0)), .i (.lal 2 [.int .i64 0, .int .i64 0, .nils, .nils, .nils])]) (.seq (.ops [.i (.lal 3 [.int .i64 0, .int .i64 0, .nils, .nils, .nils])]) (.seq (.ops [.i (.fad 4 (.s 1) 0), .i (.ldl 5 1 (.s 4) 1 false), .i (.fad 6 (.s 3) 0), .i (.stl 3 (.s 6) (.s 5) 1)]) (.seq (.ops [.i (.fad 7 (.s 1) 1), .i (.ldl 8 1 (.s 7) 1 false), .i (.fad 9 (.s 3) 1), .i (.stl 3 (.s 9) (.s 8) 1)]) (.seq (.ops [.i (.fad 10 (.s 1) 2), .i (.ldl 11 1 (.s 10) 1 false), .i (.call 13 21 false [(.s 11)]), .i (.fad 13 (.s 3) 2), .i (.stl 3 (.s 13) (.s 12) 1)]) (.seq (.ops [.i (.fad 14 (.s 1) 3), .i (.ldl 15 1 (.s 14) 1 false), .i (.call 17 21 false [(.s 15)]), .i (.fad 17 (.s 3) 3), .i (.stl 3 (.s 17) (.s 16) 1)]) (.seq (.ops [.i (.fad 18 (.s 1) 4), .i (.ldl 19 1 (.s 18) 1 false), .i (.call 21 91 false [(.s 19)]), .i (.fad 21 (.s 3) 4), .i (.stl 3 (.s 21) (.s 20) 1)]) (.seq (.ops [.i (.ldl 22 3 (.s 3) 5 true), .i (.stl 2 (.s 2) (.s 22) 5)]) .ret))))))))⟩
theorem k58 : cd 58 = some c58 := by kernel_rfl
theorem to_Qc : ToOk cd 58 TQc := by
  intro h cs v S hv hw
  obtain ⟨vs, rfl, q0⟩ := hv.st
  obtain ⟨v0, r0, S0, T0, rfl, rfl, h0, q1⟩ := q0.step
  obtain ⟨n0, e0, rfl, rfl, lo0, hi0⟩ := h0.int
  obtain ⟨v1, r1, S1, T1, rfl, rfl, h1, q2⟩ := q1.step
  obtain ⟨n1, e1, rfl, rfl, lo1, hi1⟩ := h1.int
  obtain ⟨v2, r2, S2, T2, rfl, rfl, h2, q3⟩ := q2.step
  obtain ⟨c2, e2⟩ := h2.one rfl
  rw [e2] at h2
  obtain ⟨v3, r3, S3, T3, rfl, rfl, h3, q4⟩ := q3.step
  obtain ⟨c3, e3⟩ := h3.one rfl
  rw [e3] at h3
  obtain ⟨v4, r4, S4, T4, rfl, rfl, h4, q5⟩ := q4.step
  obtain ⟨c4, e4⟩ := h4.one rfl
  rw [e4] at h4
  obtain ⟨_, rfl, rfl⟩ := q5
  have hsz : cs.length = 5 := hv.size
  simp only [Ty.size, Ty.sizes, Nat.reduceAdd, Nat.zero_add, List.drop_zero] at e0 e1 e2 e3 e4 hsz
  simp only [wt, wts] at hw
  refine WS_enter k58 rfl ?_
  simp (disch := omega) only [KC_eq, c58, e0, e1, e2, e3, e4, hsz, ifT, w64, SQ, SU, SL, reduceCtorEq, Nat.reduceAdd, Nat.reduceLeDiff, reduceIte]
  refine WC_call (to_ByteS h2 (by omega)) ?_
  rintro r0 g0 ⟨t0, d0, U0, rfl, rfl, z0, o0, l0⟩
  obtain ⟨y0_0, rfl⟩ := z0.one rfl
  simp (disch := omega) only [KC_eq, c58, e0, e1, e2, e3, e4, hsz, ifT, w64, SQ, SU, SL, reduceCtorEq, Nat.reduceAdd, Nat.reduceLeDiff, reduceIte]
  refine WC_call (to_ByteS (h3.app) (by omega)) ?_
  rintro r1 g1 ⟨t1, d1, U1, rfl, rfl, z1, o1, l1⟩
  obtain ⟨y1_0, rfl⟩ := z1.one rfl
  simp (disch := omega) only [KC_eq, c58, e0, e1, e2, e3, e4, hsz, ifT, w64, SQ, SU, SL, reduceCtorEq, Nat.reduceAdd, Nat.reduceLeDiff, reduceIte]
  refine WC_call (to_ByteSS ((h4.app).app) (by omega)) ?_
  rintro r2 g2 ⟨t2, d2, U2, rfl, rfl, z2, o2, l2⟩
  obtain ⟨y2_0, rfl⟩ := z2.one rfl
  simp (disch := omega) only [KC_eq, c58, e0, e1, e2, e3, e4, hsz, ifT, w64, SQ, SU, SL, reduceCtorEq, Nat.reduceAdd, Nat.reduceLeDiff, reduceIte]
  refine ⟨(t0 ++ (t1 ++ t2)), _, _, by simp only [List.append_assoc], rfl, ⟨_, rfl, (Rs.mk (Rp.mkInt lo0 hi0) (Rs.mk (Rp.mkInt lo1 hi1) (Rs.mk ((z0.app).app) (Rs.mk (z1.app) (Rs.mk z2 Rs.nil)))))⟩, ?_⟩
  have fr := (Fre.step (Fre.step (Fre.step (Fre.nil h) z0.lt o0 l0) z1.lt o1 l1) z2.lt o2 l2)
  simpa only [List.nil_append, List.append_nil, List.append_assoc] using fr.both
/-- laws.toHead -/
def c20 : AF := ⟨1, 5, [.cell 2 10 true], (.seq (.ops [.i (.lbox 1 (.s 0)), .i (.lal 2 [.int .i64 0, .int .i64 0, .int .i64 0, .nils, .nils, .int .i64 0, .int .i64 0, .nils, .nils, .nils])]) (.seq (.ops [.i (.lal 3 [.int .i64 0, .int .i64 0, .int .i64 0, .nils, .nils, .int .i64 0, .int .i64 0, .nils, .nils, .nils])]) (.seq (.ops [.i (.fad 4 (.s 1) 0), .i (.ldl 5 1 (.s 4) 1 false), .i (.fad 6 (.s 3) 0), .i (.stl 3 (.s 6) (.s 5) 1)]) (.seq (.ops [.i (.fad 7 (.s 1) 1), .i (.ldl 8 1 (.s 7) 1 false), .i (.fad 9 (.s 3) 1), .i (.stl 3 (.s 9) (.s 8) 1)]) (.seq (.ops [.i (.fad 10 (.s 1) 2), .i (.ldl 11 1 (.s 10) 1 false), .i (.fad 12 (.s 3) 2), .i (.stl 3 (.s 12) (.s 11) 1)]) (.seq (.ops [.i (.fad 13 (.s 1) 3), .i (.ldl 14 1 (.s 13) 1 false), .i (.call 16 21 false [(.s 14)]), .i (.fad 16 (.s 3) 3), .i (.stl 3 (.s 16) (.s 15) 1)]) (.seq (.ops [.i (.fad 17 (.s 1) 4), .i (.ldl 18 1 (.s 17) 1 false), .i (.call 20 21 false [(.s 18)]), .i (.fad 20 (.s 3) 4), .i (.stl 3 (.s 20) (.s 19) 1)]) (.seq (.ops [.i (.fad 21 (.s 1) 5), .i (.ldl 22 1 (.s 21) 5 true), .i (.call 24 58 false [(.s 22)]), .i (.fad 24 (.s 3) 5), .i (.stl 3 (.s 24) (.s 23) 5)]) (.seq (.ops [.i (.ldl 25 3 (.s 3) 10 true), .i (.stl 2 (.s 2) (.s 25) 10)]) .ret)))))))))⟩
theorem k20 : cd 20 = some c20 := by kernel_rfl
theorem to_Head : ToOk cd 20 THead := by
  intro h cs v S hv hw
  obtain ⟨vs, rfl, q0⟩ := hv.st
  obtain ⟨v0, r0, S0, T0, rfl, rfl, h0, q1⟩ := q0.step
  obtain ⟨n0, e0, rfl, rfl, lo0, hi0⟩ := h0.int
  obtain ⟨v1, r1, S1, T1, rfl, rfl, h1, q2⟩ := q1.step
  obtain ⟨n1, e1, rfl, rfl, lo1, hi1⟩ := h1.int
  obtain ⟨v2, r2, S2, T2, rfl, rfl, h2, q3⟩ := q2.step
  obtain ⟨n2, e2, rfl, rfl, lo2, hi2⟩ := h2.int
  obtain ⟨v3, r3, S3, T3, rfl, rfl, h3, q4⟩ := q3.step
  obtain ⟨c3, e3⟩ := h3.one rfl
  rw [e3] at h3
  obtain ⟨v4, r4, S4, T4, rfl, rfl, h4, q5⟩ := q4.step
  obtain ⟨c4, e4⟩ := h4.one rfl
  rw [e4] at h4
  obtain ⟨v5, r5, S5, T5, rfl, rfl, h5, q6⟩ := q5.step
  obtain ⟨_, rfl, rfl⟩ := q6
  have hsz : cs.length = 10 := hv.size
  simp only [Ty.size, Ty.sizes, Nat.reduceAdd, Nat.zero_add, List.drop_zero] at e0 e1 e2 e3 e4 hsz h5
  simp only [wt, wts] at hw
  refine WS_enter k20 rfl ?_
  simp (disch := omega) only [KC_eq, c20, e0, e1, e2, e3, e4, hsz, ifT, w64, SQ, SU, SL, reduceCtorEq, Nat.reduceAdd, Nat.reduceLeDiff, reduceIte]
  refine WC_call (to_ByteS h3 (by omega)) ?_
  rintro r0 g0 ⟨t0, d0, U0, rfl, rfl, z0, o0, l0⟩
  obtain ⟨y0_0, rfl⟩ := z0.one rfl
  simp (disch := omega) only [KC_eq, c20, e0, e1, e2, e3, e4, hsz, ifT, w64, SQ, SU, SL, reduceCtorEq, Nat.reduceAdd, Nat.reduceLeDiff, reduceIte]
  refine WC_call (to_ByteS (h4.app) (by omega)) ?_
  rintro r1 g1 ⟨t1, d1, U1, rfl, rfl, z1, o1, l1⟩
  obtain ⟨y1_0, rfl⟩ := z1.one rfl
  simp (disch := omega) only [KC_eq, c20, e0, e1, e2, e3, e4, hsz, ifT, w64, SQ, SU, SL, reduceCtorEq, Nat.reduceAdd, Nat.reduceLeDiff, reduceIte]
  refine WC_call (to_Qc ((h5.app).app) (by omega)) ?_
  rintro r2 g2 ⟨t2, d2, U2, rfl, rfl, z2, o2, l2⟩
  obtain ⟨y2_0, y2_1, y2_2, y2_3, y2_4, rfl⟩ := len_5 z2.size
  simp (disch := omega) only [KC_eq, c20, e0, e1, e2, e3, e4, hsz, ifT, w64, SQ, SU, SL, reduceCtorEq, Nat.reduceAdd, Nat.reduceLeDiff, reduceIte]
  refine ⟨(t0 ++ (t1 ++ t2)), _, _, by simp only [List.append_assoc], rfl, ⟨_, rfl, (Rs.mk (Rp.mkInt lo0 hi0) (Rs.mk (Rp.mkInt lo1 hi1) (Rs.mk (Rp.mkInt lo2 hi2) (Rs.mk ((z0.app).app) (Rs.mk (z1.app) (Rs.mk z2 Rs.nil))))))⟩, ?_⟩
  have fr := (Fre.step (Fre.step (Fre.step (Fre.nil h) z0.lt o0 l0) z1.lt o1 l1) z2.lt o2 l2)
  simpa only [List.nil_append, List.append_nil, List.append_assoc] using fr.both
/-- laws.toHeadS -/
def c29 : AF := ⟨1, 5, [.tmp 2], (.seq (.ops [.i (.mov 2 (.c (.val false [.nils])))]) (.seq (.ops [.i (.mov 5 (.s 0)), .i (.len 6 false (.s 5)), .i (.mks 7 38 10 160 [.int .i64 0, .int .i64 0, .int .i64 0, .nils, .nils, .int .i64 0, .int .i64 0, .nils, .nils, .nils] (.s 6)), .i (.mov 3 (.s 7))]) (.seq (.seq (.ops [.i (.mov 4 (.c (.val false [.int .i64 0])))]) (.block 0 (.loop [21, 20, 19, 18, 17, 16, 15, 14, 13, 12, 11, 10, 9, 8] (.seq (.seq (.ops [.i (.mov 8 (.s 4)), .i (.mov 9 (.s 0)), .i (.len 10 false (.s 9)), .i (.bin 11 .lss (.s 8) (.s 10))]) (.cond (.s 11) .skip (.exit 0))) (.seq (.block 1 (.ops [.i (.mov 14 (.s 3)), .i (.mov 15 (.s 4)), .i (.mov 16 (.s 0)), .i (.mov 17 (.s 4)), .i (.iad 18 (.s 16) (.s 17) 10), .i (.ldh 19 (.s 18) 10 true), .i (.call 21 20 false [(.s 19)]), .i (.iad 21 (.s 14) (.s 15) 10), .i (.sth (.s 21) (.s 20) 10)])) (.ops [.i (.mov 12 (.s 4)), .i (.bin 13 .add (.s 12) (.c (.val false [.int .i64 1]))), .i (.mov 4 (.s 13))])))))) (.seq (.ops [.i (.mov 22 (.s 3)), .i (.mov 2 (.s 22))]) .ret))))⟩
theorem k29 : cd 29 = some c29 := by kernel_rfl
theorem to_HeadS : ToOk cd 29 (.sl THead) := to_sl k29 (by omega) rfl to_Head
/-- laws.eqByteS -/
def c24 : AF := ⟨2, 5, [.tmp 4], (.seq (.ops [.i (.mov 4 (.c (.val false [.bool false])))]) (.seq (.seq (.ops [.i (.mov 6 (.s 0)), .i (.len 7 false (.s 6)), .i (.mov 8 (.s 1)), .i (.len 9 false (.s 8)), .i (.bin 10 .neq (.s 7) (.s 9))]) (.cond (.s 10) (.seq (.ops [.i (.mov 4 (.c (.val false [.bool false])))]) .ret) .skip)) (.seq (.seq (.ops [.i (.mov 5 (.c (.val false [.int .i64 0])))]) (.block 0 (.loop [25, 24, 23, 22, 21, 20, 19, 18, 17, 16, 15, 14, 13, 12, 11] (.seq (.seq (.ops [.i (.mov 11 (.s 5)), .i (.mov 12 (.s 0)), .i (.len 13 false (.s 12)), .i (.bin 14 .lss (.s 11) (.s 13))]) (.cond (.s 14) .skip (.exit 0))) (.seq (.block 1 (.seq (.ops [.i (.mov 17 (.s 0)), .i (.mov 18 (.s 5)), .i (.iad 19 (.s 17) (.s 18) 1), .i (.ldh 20 (.s 19) 1 false), .i (.mov 21 (.s 1)), .i (.mov 22 (.s 5)), .i (.iad 23 (.s 21) (.s 22) 1), .i (.ldh 24 (.s 23) 1 false), .i (.bin 25 .neq (.s 20) (.s 24))]) (.cond (.s 25) (.seq (.ops [.i (.mov 4 (.c (.val false [.bool false])))]) .ret) .skip))) (.ops [.i (.mov 15 (.s 5)), .i (.bin 16 .add (.s 15) (.c (.val false [.int .i64 1]))), .i (.mov 5 (.s 16))])))))) (.seq (.ops [.i (.mov 4 (.c (.val false [.bool true])))]) .ret))))⟩
theorem k24 : cd 24 = some c24 := by kernel_rfl
theorem eq_ByteS : EqOk cd 24 (.sl (.int .u8)) := eq_leaf k24
/-- laws.eqRow -/
def c99 : AF := ⟨2, 5, [.tmp 4], (.seq (.ops [.i (.lbox 2 (.s 0)), .i (.lbox 3 (.s 1)), .i (.mov 4 (.c (.val false [.bool false])))]) (.seq (.seq (.ops [.i (.fad 5 (.s 2) 0), .i (.ldl 6 2 (.s 5) 1 false), .i (.fad 7 (.s 3) 0), .i (.ldl 8 3 (.s 7) 1 false), .i (.bin 9 .neq (.s 6) (.s 8))]) (.cond (.s 9) (.seq (.ops [.i (.mov 4 (.c (.val false [.bool false])))]) .ret) .skip)) (.seq (.seq (.ops [.i (.fad 10 (.s 2) 1), .i (.ldl 11 2 (.s 10) 1 false), .i (.fad 12 (.s 3) 1), .i (.ldl 13 3 (.s 12) 1 false), .i (.call 15 24 false [(.s 11), (.s 13)]), .i (.not 15 (.s 14))]) (.cond (.s 15) (.seq (.ops [.i (.mov 4 (.c (.val false [.bool false])))]) .ret) .skip)) (.seq (.ops [.i (.mov 4 (.c (.val false [.bool true])))]) .ret))))⟩
theorem k99 : cd 99 = some c99 := by kernel_rfl
theorem eq_Row : EqOk cd 99 TRow := by
  intro h ca cb va vb Sa Sb ha hb
  obtain ⟨avs, rfl, aq0⟩ := ha.st
  obtain ⟨av0, ar0, aS0, aT0, rfl, rfl, ah0, aq1⟩ := aq0.step
  obtain ⟨an0, ae0, rfl, rfl, alo0, ahi0⟩ := ah0.int
  obtain ⟨av1, ar1, aS1, aT1, rfl, rfl, ah1, aq2⟩ := aq1.step
  obtain ⟨ac1, ae1⟩ := ah1.one rfl
  rw [ae1] at ah1
  obtain ⟨_, rfl, rfl⟩ := aq2
  have ahsz : ca.length = 2 := ha.size
  obtain ⟨bvs, rfl, bq0⟩ := hb.st
  obtain ⟨bv0, br0, bS0, bT0, rfl, rfl, bh0, bq1⟩ := bq0.step
  obtain ⟨bn0, be0, rfl, rfl, blo0, bhi0⟩ := bh0.int
  obtain ⟨bv1, br1, bS1, bT1, rfl, rfl, bh1, bq2⟩ := bq1.step
  obtain ⟨bc1, be1⟩ := bh1.one rfl
  rw [be1] at bh1
  obtain ⟨_, rfl, rfl⟩ := bq2
  have bhsz : cb.length = 2 := hb.size
  simp only [Ty.size, Ty.sizes, Nat.reduceAdd, Nat.zero_add, List.drop_zero] at ae0 ae1 ahsz be0 be1 bhsz
  refine WS_enter k99 rfl ?_
  simp (disch := omega) only [KC_eq, c99, ae0, ae1, ahsz, be0, be1, bhsz, ifT, w64, SQ, SU, SL, reduceCtorEq, Nat.reduceAdd, Nat.reduceLeDiff, reduceIte]
  refine BR_dec (fun hn => ?_) (fun hn => ?_)
  case refine_1 =>
    simp (disch := omega) only [KC_eq, c99, ae0, ae1, ahsz, be0, be1, bhsz, ifT, w64, SQ, SU, SL, reduceCtorEq, Nat.reduceAdd, Nat.reduceLeDiff, reduceIte]
    simp [hn]
  have d0 : an0 = bn0 := by omega
  subst d0
  simp (disch := omega) only [KC_eq, c99, ae0, ae1, ahsz, be0, be1, bhsz, ifT, w64, SQ, SU, SL, reduceCtorEq, Nat.reduceAdd, Nat.reduceLeDiff, reduceIte]
  refine EqOk.go eq_ByteS ah1 bh1 (fun d1 => ?_) (fun d1 => ?_)
  case refine_2 =>
    simp (disch := omega) only [KC_eq, c99, ae0, ae1, ahsz, be0, be1, bhsz, ifT, w64, SQ, SU, SL, reduceCtorEq, Nat.reduceAdd, Nat.reduceLeDiff, reduceIte]
    simp [d1]
  subst d1
  simp (disch := omega) only [KC_eq, c99, ae0, ae1, ahsz, be0, be1, bhsz, ifT, w64, SQ, SU, SL, reduceCtorEq, Nat.reduceAdd, Nat.reduceLeDiff, reduceIte]
/-- laws.eqRowS -/
def c63 : AF := ⟨2, 5, [.tmp 4], (.seq (.ops [.i (.mov 4 (.c (.val false [.bool false])))]) (.seq (.seq (.ops [.i (.mov 6 (.s 0)), .i (.len 7 false (.s 6)), .i (.mov 8 (.s 1)), .i (.len 9 false (.s 8)), .i (.bin 10 .neq (.s 7) (.s 9))]) (.cond (.s 10) (.seq (.ops [.i (.mov 4 (.c (.val false [.bool false])))]) .ret) .skip)) (.seq (.seq (.ops [.i (.mov 5 (.c (.val false [.int .i64 0])))]) (.block 0 (.loop [26, 25, 24, 23, 22, 21, 20, 19, 18, 17, 16, 15, 14, 13, 12, 11] (.seq (.seq (.ops [.i (.mov 11 (.s 5)), .i (.mov 12 (.s 0)), .i (.len 13 false (.s 12)), .i (.bin 14 .lss (.s 11) (.s 13))]) (.cond (.s 14) .skip (.exit 0))) (.seq (.block 1 (.seq (.ops [.i (.mov 17 (.s 0)), .i (.mov 18 (.s 5)), .i (.iad 19 (.s 17) (.s 18) 2), .i (.ldh 20 (.s 19) 2 true), .i (.mov 21 (.s 1)), .i (.mov 22 (.s 5)), .i (.iad 23 (.s 21) (.s 22) 2), .i (.ldh 24 (.s 23) 2 true), .i (.call 26 99 false [(.s 20), (.s 24)]), .i (.not 26 (.s 25))]) (.cond (.s 26) (.seq (.ops [.i (.mov 4 (.c (.val false [.bool false])))]) .ret) .skip))) (.ops [.i (.mov 15 (.s 5)), .i (.bin 16 .add (.s 15) (.c (.val false [.int .i64 1]))), .i (.mov 5 (.s 16))])))))) (.seq (.ops [.i (.mov 4 (.c (.val false [.bool true])))]) .ret))))⟩
theorem k63 : cd 63 = some c63 := by kernel_rfl
theorem eq_RowS : EqOk cd 63 (.sl TRow) := eq_sl k63 eq_Row
/-- laws.eqTable -/
def c23 : AF := ⟨2, 4, [.tmp 4], (.seq (.ops [.i (.lbox 2 (.s 0)), .i (.lbox 3 (.s 1)), .i (.mov 4 (.c (.val false [.bool false])))]) (.seq (.seq (.ops [.i (.fad 5 (.s 2) 0), .i (.ldl 6 2 (.s 5) 1 false), .i (.fad 7 (.s 3) 0), .i (.ldl 8 3 (.s 7) 1 false), .i (.call 10 63 false [(.s 6), (.s 8)]), .i (.not 10 (.s 9))]) (.cond (.s 10) (.seq (.ops [.i (.mov 4 (.c (.val false [.bool false])))]) .ret) .skip)) (.seq (.ops [.i (.mov 4 (.c (.val false [.bool true])))]) .ret)))⟩
theorem k23 : cd 23 = some c23 := by kernel_rfl
theorem eq_Table : EqOk cd 23 TTable := by
  intro h ca cb va vb Sa Sb ha hb
  obtain ⟨avs, rfl, aq0⟩ := ha.st
  obtain ⟨av0, ar0, aS0, aT0, rfl, rfl, ah0, aq1⟩ := aq0.step
  obtain ⟨ac0, ae0⟩ := ah0.one rfl
  rw [ae0] at ah0
  obtain ⟨_, rfl, rfl⟩ := aq1
  have ahsz : ca.length = 1 := ha.size
  obtain ⟨bvs, rfl, bq0⟩ := hb.st
  obtain ⟨bv0, br0, bS0, bT0, rfl, rfl, bh0, bq1⟩ := bq0.step
  obtain ⟨bc0, be0⟩ := bh0.one rfl
  rw [be0] at bh0
  obtain ⟨_, rfl, rfl⟩ := bq1
  have bhsz : cb.length = 1 := hb.size
  simp only [Ty.size, Ty.sizes, Nat.reduceAdd, Nat.zero_add, List.drop_zero] at ae0 ahsz be0 bhsz
  refine WS_enter k23 rfl ?_
  simp (disch := omega) only [KC_eq, c23, ae0, ahsz, be0, bhsz, ifT, w64, SQ, SU, SL, reduceCtorEq, Nat.reduceAdd, Nat.reduceLeDiff, reduceIte]
  refine EqOk.go eq_RowS ah0 bh0 (fun d0 => ?_) (fun d0 => ?_)
  case refine_2 =>
    simp (disch := omega) only [KC_eq, c23, ae0, ahsz, be0, bhsz, ifT, w64, SQ, SU, SL, reduceCtorEq, Nat.reduceAdd, Nat.reduceLeDiff, reduceIte]
    simp [d0]
  subst d0
  simp (disch := omega) only [KC_eq, c23, ae0, ahsz, be0, bhsz, ifT, w64, SQ, SU, SL, reduceCtorEq, Nat.reduceAdd, Nat.reduceLeDiff, reduceIte]
/-- laws.eqByteSS -/
def c79 : AF := ⟨2, 5, [.tmp 4], (.seq (.ops [.i (.mov 4 (.c (.val false [.bool false])))]) (.seq (.seq (.ops [.i (.mov 6 (.s 0)), .i (.len 7 false (.s 6)), .i (.mov 8 (.s 1)), .i (.len 9 false (.s 8)), .i (.bin 10 .neq (.s 7) (.s 9))]) (.cond (.s 10) (.seq (.ops [.i (.mov 4 (.c (.val false [.bool false])))]) .ret) .skip)) (.seq (.seq (.ops [.i (.mov 5 (.c (.val false [.int .i64 0])))]) (.block 0 (.loop [26, 25, 24, 23, 22, 21, 20, 19, 18, 17, 16, 15, 14, 13, 12, 11] (.seq (.seq (.ops [.i (.mov 11 (.s 5)), .i (.mov 12 (.s 0)), .i (.len 13 false (.s 12)), .i (.bin 14 .lss (.s 11) (.s 13))]) (.cond (.s 14) .skip (.exit 0))) (.seq (.block 1 (.seq (.ops [.i (.mov 17 (.s 0)), .i (.mov 18 (.s 5)), .i (.iad 19 (.s 17) (.s 18) 1), .i (.ldh 20 (.s 19) 1 false), .i (.mov 21 (.s 1)), .i (.mov 22 (.s 5)), .i (.iad 23 (.s 21) (.s 22) 1), .i (.ldh 24 (.s 23) 1 false), .i (.call 26 24 false [(.s 20), (.s 24)]), .i (.not 26 (.s 25))]) (.cond (.s 26) (.seq (.ops [.i (.mov 4 (.c (.val false [.bool false])))]) .ret) .skip))) (.ops [.i (.mov 15 (.s 5)), .i (.bin 16 .add (.s 15) (.c (.val false [.int .i64 1]))), .i (.mov 5 (.s 16))])))))) (.seq (.ops [.i (.mov 4 (.c (.val false [.bool true])))]) .ret))))⟩
theorem k79 : cd 79 = some c79 := by kernel_rfl
theorem eq_ByteSS : EqOk cd 79 (.sl (.sl (.int .u8))) := eq_sl k79 eq_ByteS
/-- laws.eqQc -/
def c43 : AF := ⟨2, 6, [.tmp 4], (.seq (.ops [.i (.lbox 2 (.s 0)), .i (.lbox 3 (.s 1)), .i (.mov 4 (.c (.val false [.bool false])))]) (.seq (.seq (.ops [.i (.fad 5 (.s 2) 0), .i (.ldl 6 2 (.s 5) 1 false), .i (.fad 7 (.s 3) 0), .i (.ldl 8 3 (.s 7) 1 false), .i (.bin 9 .neq (.s 6) (.s 8))]) (.cond (.s 9) (.seq (.ops [.i (.mov 4 (.c (.val false [.bool false])))]) .ret) .skip)) (.seq (.seq (.ops [.i (.fad 10 (.s 2) 1), .i (.ldl 11 2 (.s 10) 1 false), .i (.fad 12 (.s 3) 1), .i (.ldl 13 3 (.s 12) 1 false), .i (.bin 14 .neq (.s 11) (.s 13))]) (.cond (.s 14) (.seq (.ops [.i (.mov 4 (.c (.val false [.bool false])))]) .ret) .skip)) (.seq (.seq (.ops [.i (.fad 15 (.s 2) 2), .i (.ldl 16 2 (.s 15) 1 false), .i (.fad 17 (.s 3) 2), .i (.ldl 18 3 (.s 17) 1 false), .i (.call 20 24 false [(.s 16), (.s 18)]), .i (.not 20 (.s 19))]) (.cond (.s 20) (.seq (.ops [.i (.mov 4 (.c (.val false [.bool false])))]) .ret) .skip)) (.seq (.seq (.ops [.i (.fad 21 (.s 2) 3), .i (.ldl 22 2 (.s 21) 1 false), .i (.fad 23 (.s 3) 3), .i (.ldl 24 3 (.s 23) 1 false), .i (.call 26 24 false [(.s 22), (.s 24)]), .i (.not 26 (.s 25))]) (.cond (.s 26) (.seq (.ops [.i (.mov 4 (.c (.val false [.bool false])))]) .ret) .skip)) (.seq (.seq (.ops [.i (.fad 27 (.s 2) 4), .i (.ldl 28 2 (.s 27) 1 false), .i (.fad 29 (.s 3) 4), .i (.ldl 30 3 (.s 29) 1 false), .i (.call 32 79 false [(.s 28), (.s 30)]), .i (.not 32 (.s 31))]) (.cond (.s 32) (.seq (.ops [.i (.mov 4 (.c (.val false [.bool false])))]) .ret) .skip)) (.seq (.ops [.i (.mov 4 (.c (.val false [.bool true])))]) .ret)))))))⟩
theorem k43 : cd 43 = some c43 := by kernel_rfl
theorem eq_Qc : EqOk cd 43 TQc := by
  intro h ca cb va vb Sa Sb ha hb
  obtain ⟨avs, rfl, aq0⟩ := ha.st
  obtain ⟨av0, ar0, aS0, aT0, rfl, rfl, ah0, aq1⟩ := aq0.step
  obtain ⟨an0, ae0, rfl, rfl, alo0, ahi0⟩ := ah0.int
  obtain ⟨av1, ar1, aS1, aT1, rfl, rfl, ah1, aq2⟩ := aq1.step
  obtain ⟨an1, ae1, rfl, rfl, alo1, ahi1⟩ := ah1.int
  obtain ⟨av2, ar2, aS2, aT2, rfl, rfl, ah2, aq3⟩ := aq2.step
  obtain ⟨ac2, ae2⟩ := ah2.one rfl
  rw [ae2] at ah2
  obtain ⟨av3, ar3, aS3, aT3, rfl, rfl, ah3, aq4⟩ := aq3.step
  obtain ⟨ac3, ae3⟩ := ah3.one rfl
  rw [ae3] at ah3
  obtain ⟨av4, ar4, aS4, aT4, rfl, rfl, ah4, aq5⟩ := aq4.step
  obtain ⟨ac4, ae4⟩ := ah4.one rfl
  rw [ae4] at ah4
  obtain ⟨_, rfl, rfl⟩ := aq5
  have ahsz : ca.length = 5 := ha.size
  obtain ⟨bvs, rfl, bq0⟩ := hb.st
  obtain ⟨bv0, br0, bS0, bT0, rfl, rfl, bh0, bq1⟩ := bq0.step
  obtain ⟨bn0, be0, rfl, rfl, blo0, bhi0⟩ := bh0.int
  obtain ⟨bv1, br1, bS1, bT1, rfl, rfl, bh1, bq2⟩ := bq1.step
  obtain ⟨bn1, be1, rfl, rfl, blo1, bhi1⟩ := bh1.int
  obtain ⟨bv2, br2, bS2, bT2, rfl, rfl, bh2, bq3⟩ := bq2.step
  obtain ⟨bc2, be2⟩ := bh2.one rfl
  rw [be2] at bh2
  obtain ⟨bv3, br3, bS3, bT3, rfl, rfl, bh3, bq4⟩ := bq3.step
  obtain ⟨bc3, be3⟩ := bh3.one rfl
  rw [be3] at bh3
  obtain ⟨bv4, br4, bS4, bT4, rfl, rfl, bh4, bq5⟩ := bq4.step
  obtain ⟨bc4, be4⟩ := bh4.one rfl
  rw [be4] at bh4
  obtain ⟨_, rfl, rfl⟩ := bq5
  have bhsz : cb.length = 5 := hb.size
  simp only [Ty.size, Ty.sizes, Nat.reduceAdd, Nat.zero_add, List.drop_zero] at ae0 ae1 ae2 ae3 ae4 ahsz be0 be1 be2 be3 be4 bhsz
  refine WS_enter k43 rfl ?_
  simp (disch := omega) only [KC_eq, c43, ae0, ae1, ae2, ae3, ae4, ahsz, be0, be1, be2, be3, be4, bhsz, ifT, w64, SQ, SU, SL, reduceCtorEq, Nat.reduceAdd, Nat.reduceLeDiff, reduceIte]
  refine BR_dec (fun hn => ?_) (fun hn => ?_)
  case refine_1 =>
    simp (disch := omega) only [KC_eq, c43, ae0, ae1, ae2, ae3, ae4, ahsz, be0, be1, be2, be3, be4, bhsz, ifT, w64, SQ, SU, SL, reduceCtorEq, Nat.reduceAdd, Nat.reduceLeDiff, reduceIte]
    simp [hn]
  have d0 : an0 = bn0 := by omega
  subst d0
  simp (disch := omega) only [KC_eq, c43, ae0, ae1, ae2, ae3, ae4, ahsz, be0, be1, be2, be3, be4, bhsz, ifT, w64, SQ, SU, SL, reduceCtorEq, Nat.reduceAdd, Nat.reduceLeDiff, reduceIte]
  refine BR_dec (fun hn => ?_) (fun hn => ?_)
  case refine_1 =>
    simp (disch := omega) only [KC_eq, c43, ae0, ae1, ae2, ae3, ae4, ahsz, be0, be1, be2, be3, be4, bhsz, ifT, w64, SQ, SU, SL, reduceCtorEq, Nat.reduceAdd, Nat.reduceLeDiff, reduceIte]
    simp [hn]
  have d1 : an1 = bn1 := by omega
  subst d1
  simp (disch := omega) only [KC_eq, c43, ae0, ae1, ae2, ae3, ae4, ahsz, be0, be1, be2, be3, be4, bhsz, ifT, w64, SQ, SU, SL, reduceCtorEq, Nat.reduceAdd, Nat.reduceLeDiff, reduceIte]
  refine EqOk.go eq_ByteS ah2 bh2 (fun d2 => ?_) (fun d2 => ?_)
  case refine_2 =>
    simp (disch := omega) only [KC_eq, c43, ae0, ae1, ae2, ae3, ae4, ahsz, be0, be1, be2, be3, be4, bhsz, ifT, w64, SQ, SU, SL, reduceCtorEq, Nat.reduceAdd, Nat.reduceLeDiff, reduceIte]
    simp [d2]
  subst d2
  simp (disch := omega) only [KC_eq, c43, ae0, ae1, ae2, ae3, ae4, ahsz, be0, be1, be2, be3, be4, bhsz, ifT, w64, SQ, SU, SL, reduceCtorEq, Nat.reduceAdd, Nat.reduceLeDiff, reduceIte]
  refine EqOk.go eq_ByteS ah3 bh3 (fun d3 => ?_) (fun d3 => ?_)
  case refine_2 =>
    simp (disch := omega) only [KC_eq, c43, ae0, ae1, ae2, ae3, ae4, ahsz, be0, be1, be2, be3, be4, bhsz, ifT, w64, SQ, SU, SL, reduceCtorEq, Nat.reduceAdd, Nat.reduceLeDiff, reduceIte]
    simp [d3]
  subst d3
  simp (disch := omega) only [KC_eq, c43, ae0, ae1, ae2, ae3, ae4, ahsz, be0, be1, be2, be3, be4, bhsz, ifT, w64, SQ, SU, SL, reduceCtorEq, Nat.reduceAdd, Nat.reduceLeDiff, reduceIte]
  refine EqOk.go eq_ByteSS ah4 bh4 (fun d4 => ?_) (fun d4 => ?_)
  case refine_2 =>
    simp (disch := omega) only [KC_eq, c43, ae0, ae1, ae2, ae3, ae4, ahsz, be0, be1, be2, be3, be4, bhsz, ifT, w64, SQ, SU, SL, reduceCtorEq, Nat.reduceAdd, Nat.reduceLeDiff, reduceIte]
    simp [d4]
  subst d4
  simp (disch := omega) only [KC_eq, c43, ae0, ae1, ae2, ae3, ae4, ahsz, be0, be1, be2, be3, be4, bhsz, ifT, w64, SQ, SU, SL, reduceCtorEq, Nat.reduceAdd, Nat.reduceLeDiff, reduceIte]
/-- laws.eqHead -/
def c10 : AF := ⟨2, 6, [.tmp 4], (.seq (.ops [.i (.lbox 2 (.s 0)), .i (.lbox 3 (.s 1)), .i (.mov 4 (.c (.val false [.bool false])))]) (.seq (.seq (.ops [.i (.fad 5 (.s 2) 0), .i (.ldl 6 2 (.s 5) 1 false), .i (.fad 7 (.s 3) 0), .i (.ldl 8 3 (.s 7) 1 false), .i (.bin 9 .neq (.s 6) (.s 8))]) (.cond (.s 9) (.seq (.ops [.i (.mov 4 (.c (.val false [.bool false])))]) .ret) .skip)) (.seq (.seq (.ops [.i (.fad 10 (.s 2) 1), .i (.ldl 11 2 (.s 10) 1 false), .i (.fad 12 (.s 3) 1), .i (.ldl 13 3 (.s 12) 1 false), .i (.bin 14 .neq (.s 11) (.s 13))]) (.cond (.s 14) (.seq (.ops [.i (.mov 4 (.c (.val false [.bool false])))]) .ret) .skip)) (.seq (.seq (.ops [.i (.fad 15 (.s 2) 2), .i (.ldl 16 2 (.s 15) 1 false), .i (.fad 17 (.s 3) 2), .i (.ldl 18 3 (.s 17) 1 false), .i (.bin 19 .neq (.s 16) (.s 18))]) (.cond (.s 19) (.seq (.ops [.i (.mov 4 (.c (.val false [.bool false])))]) .ret) .skip)) (.seq (.seq (.ops [.i (.fad 20 (.s 2) 3), .i (.ldl 21 2 (.s 20) 1 false), .i (.fad 22 (.s 3) 3), .i (.ldl 23 3 (.s 22) 1 false), .i (.call 25 24 false [(.s 21), (.s 23)]), .i (.not 25 (.s 24))]) (.cond (.s 25) (.seq (.ops [.i (.mov 4 (.c (.val false [.bool false])))]) .ret) .skip)) (.seq (.seq (.ops [.i (.fad 26 (.s 2) 4), .i (.ldl 27 2 (.s 26) 1 false), .i (.fad 28 (.s 3) 4), .i (.ldl 29 3 (.s 28) 1 false), .i (.call 31 24 false [(.s 27), (.s 29)]), .i (.not 31 (.s 30))]) (.cond (.s 31) (.seq (.ops [.i (.mov 4 (.c (.val false [.bool false])))]) .ret) .skip)) (.seq (.seq (.ops [.i (.fad 32 (.s 2) 5), .i (.ldl 33 2 (.s 32) 5 true), .i (.fad 34 (.s 3) 5), .i (.ldl 35 3 (.s 34) 5 true), .i (.call 37 43 false [(.s 33), (.s 35)]), .i (.not 37 (.s 36))]) (.cond (.s 37) (.seq (.ops [.i (.mov 4 (.c (.val false [.bool false])))]) .ret) .skip)) (.seq (.ops [.i (.mov 4 (.c (.val false [.bool true])))]) .ret))))))))⟩
theorem k10 : cd 10 = some c10 := by kernel_rfl
theorem eq_Head : EqOk cd 10 THead := by
  intro h ca cb va vb Sa Sb ha hb
  obtain ⟨avs, rfl, aq0⟩ := ha.st
  obtain ⟨av0, ar0, aS0, aT0, rfl, rfl, ah0, aq1⟩ := aq0.step
  obtain ⟨an0, ae0, rfl, rfl, alo0, ahi0⟩ := ah0.int
  obtain ⟨av1, ar1, aS1, aT1, rfl, rfl, ah1, aq2⟩ := aq1.step
  obtain ⟨an1, ae1, rfl, rfl, alo1, ahi1⟩ := ah1.int
  obtain ⟨av2, ar2, aS2, aT2, rfl, rfl, ah2, aq3⟩ := aq2.step
  obtain ⟨an2, ae2, rfl, rfl, alo2, ahi2⟩ := ah2.int
  obtain ⟨av3, ar3, aS3, aT3, rfl, rfl, ah3, aq4⟩ := aq3.step
  obtain ⟨ac3, ae3⟩ := ah3.one rfl
  rw [ae3] at ah3
  obtain ⟨av4, ar4, aS4, aT4, rfl, rfl, ah4, aq5⟩ := aq4.step
  obtain ⟨ac4, ae4⟩ := ah4.one rfl
  rw [ae4] at ah4
  obtain ⟨av5, ar5, aS5, aT5, rfl, rfl, ah5, aq6⟩ := aq5.step
  obtain ⟨_, rfl, rfl⟩ := aq6
  have ahsz : ca.length = 10 := ha.size
  obtain ⟨bvs, rfl, bq0⟩ := hb.st
  obtain ⟨bv0, br0, bS0, bT0, rfl, rfl, bh0, bq1⟩ := bq0.step
  obtain ⟨bn0, be0, rfl, rfl, blo0, bhi0⟩ := bh0.int
  obtain ⟨bv1, br1, bS1, bT1, rfl, rfl, bh1, bq2⟩ := bq1.step
  obtain ⟨bn1, be1, rfl, rfl, blo1, bhi1⟩ := bh1.int
  obtain ⟨bv2, br2, bS2, bT2, rfl, rfl, bh2, bq3⟩ := bq2.step
  obtain ⟨bn2, be2, rfl, rfl, blo2, bhi2⟩ := bh2.int
  obtain ⟨bv3, br3, bS3, bT3, rfl, rfl, bh3, bq4⟩ := bq3.step
  obtain ⟨bc3, be3⟩ := bh3.one rfl
  rw [be3] at bh3
  obtain ⟨bv4, br4, bS4, bT4, rfl, rfl, bh4, bq5⟩ := bq4.step
  obtain ⟨bc4, be4⟩ := bh4.one rfl
  rw [be4] at bh4
  obtain ⟨bv5, br5, bS5, bT5, rfl, rfl, bh5, bq6⟩ := bq5.step
  obtain ⟨_, rfl, rfl⟩ := bq6
  have bhsz : cb.length = 10 := hb.size
  simp only [Ty.size, Ty.sizes, Nat.reduceAdd, Nat.zero_add, List.drop_zero] at ae0 ae1 ae2 ae3 ae4 ahsz be0 be1 be2 be3 be4 bhsz ah5 bh5
  refine WS_enter k10 rfl ?_
  simp (disch := omega) only [KC_eq, c10, ae0, ae1, ae2, ae3, ae4, ahsz, be0, be1, be2, be3, be4, bhsz, ifT, w64, SQ, SU, SL, reduceCtorEq, Nat.reduceAdd, Nat.reduceLeDiff, reduceIte]
  refine BR_dec (fun hn => ?_) (fun hn => ?_)
  case refine_1 =>
    simp (disch := omega) only [KC_eq, c10, ae0, ae1, ae2, ae3, ae4, ahsz, be0, be1, be2, be3, be4, bhsz, ifT, w64, SQ, SU, SL, reduceCtorEq, Nat.reduceAdd, Nat.reduceLeDiff, reduceIte]
    simp [hn]
  have d0 : an0 = bn0 := by omega
  subst d0
  simp (disch := omega) only [KC_eq, c10, ae0, ae1, ae2, ae3, ae4, ahsz, be0, be1, be2, be3, be4, bhsz, ifT, w64, SQ, SU, SL, reduceCtorEq, Nat.reduceAdd, Nat.reduceLeDiff, reduceIte]
  refine BR_dec (fun hn => ?_) (fun hn => ?_)
  case refine_1 =>
    simp (disch := omega) only [KC_eq, c10, ae0, ae1, ae2, ae3, ae4, ahsz, be0, be1, be2, be3, be4, bhsz, ifT, w64, SQ, SU, SL, reduceCtorEq, Nat.reduceAdd, Nat.reduceLeDiff, reduceIte]
    simp [hn]
  have d1 : an1 = bn1 := by omega
  subst d1
  simp (disch := omega) only [KC_eq, c10, ae0, ae1, ae2, ae3, ae4, ahsz, be0, be1, be2, be3, be4, bhsz, ifT, w64, SQ, SU, SL, reduceCtorEq, Nat.reduceAdd, Nat.reduceLeDiff, reduceIte]
  refine BR_dec (fun hn => ?_) (fun hn => ?_)
  case refine_1 =>
    simp (disch := omega) only [KC_eq, c10, ae0, ae1, ae2, ae3, ae4, ahsz, be0, be1, be2, be3, be4, bhsz, ifT, w64, SQ, SU, SL, reduceCtorEq, Nat.reduceAdd, Nat.reduceLeDiff, reduceIte]
    simp [hn]
  have d2 : an2 = bn2 := by omega
  subst d2
  simp (disch := omega) only [KC_eq, c10, ae0, ae1, ae2, ae3, ae4, ahsz, be0, be1, be2, be3, be4, bhsz, ifT, w64, SQ, SU, SL, reduceCtorEq, Nat.reduceAdd, Nat.reduceLeDiff, reduceIte]
  refine EqOk.go eq_ByteS ah3 bh3 (fun d3 => ?_) (fun d3 => ?_)
  case refine_2 =>
    simp (disch := omega) only [KC_eq, c10, ae0, ae1, ae2, ae3, ae4, ahsz, be0, be1, be2, be3, be4, bhsz, ifT, w64, SQ, SU, SL, reduceCtorEq, Nat.reduceAdd, Nat.reduceLeDiff, reduceIte]
    simp [d3]
  subst d3
  simp (disch := omega) only [KC_eq, c10, ae0, ae1, ae2, ae3, ae4, ahsz, be0, be1, be2, be3, be4, bhsz, ifT, w64, SQ, SU, SL, reduceCtorEq, Nat.reduceAdd, Nat.reduceLeDiff, reduceIte]
  refine EqOk.go eq_ByteS ah4 bh4 (fun d4 => ?_) (fun d4 => ?_)
  case refine_2 =>
    simp (disch := omega) only [KC_eq, c10, ae0, ae1, ae2, ae3, ae4, ahsz, be0, be1, be2, be3, be4, bhsz, ifT, w64, SQ, SU, SL, reduceCtorEq, Nat.reduceAdd, Nat.reduceLeDiff, reduceIte]
    simp [d4]
  subst d4
  simp (disch := omega) only [KC_eq, c10, ae0, ae1, ae2, ae3, ae4, ahsz, be0, be1, be2, be3, be4, bhsz, ifT, w64, SQ, SU, SL, reduceCtorEq, Nat.reduceAdd, Nat.reduceLeDiff, reduceIte]
  refine EqOk.go eq_Qc ah5 bh5 (fun d5 => ?_) (fun d5 => ?_)
  case refine_2 =>
    simp (disch := omega) only [KC_eq, c10, ae0, ae1, ae2, ae3, ae4, ahsz, be0, be1, be2, be3, be4, bhsz, ifT, w64, SQ, SU, SL, reduceCtorEq, Nat.reduceAdd, Nat.reduceLeDiff, reduceIte]
    simp [d5]
  subst d5
  simp (disch := omega) only [KC_eq, c10, ae0, ae1, ae2, ae3, ae4, ahsz, be0, be1, be2, be3, be4, bhsz, ifT, w64, SQ, SU, SL, reduceCtorEq, Nat.reduceAdd, Nat.reduceLeDiff, reduceIte]
/-- laws.eqHeadS -/
def c32 : AF := ⟨2, 5, [.tmp 4], (.seq (.ops [.i (.mov 4 (.c (.val false [.bool false])))]) (.seq (.seq (.ops [.i (.mov 6 (.s 0)), .i (.len 7 false (.s 6)), .i (.mov 8 (.s 1)), .i (.len 9 false (.s 8)), .i (.bin 10 .neq (.s 7) (.s 9))]) (.cond (.s 10) (.seq (.ops [.i (.mov 4 (.c (.val false [.bool false])))]) .ret) .skip)) (.seq (.seq (.ops [.i (.mov 5 (.c (.val false [.int .i64 0])))]) (.block 0 (.loop [26, 25, 24, 23, 22, 21, 20, 19, 18, 17, 16, 15, 14, 13, 12, 11] (.seq (.seq (.ops [.i (.mov 11 (.s 5)), .i (.mov 12 (.s 0)), .i (.len 13 false (.s 12)), .i (.bin 14 .lss (.s 11) (.s 13))]) (.cond (.s 14) .skip (.exit 0))) (.seq (.block 1 (.seq (.ops [.i (.mov 17 (.s 0)), .i (.mov 18 (.s 5)), .i (.iad 19 (.s 17) (.s 18) 10), .i (.ldh 20 (.s 19) 10 true), .i (.mov 21 (.s 1)), .i (.mov 22 (.s 5)), .i (.iad 23 (.s 21) (.s 22) 10), .i (.ldh 24 (.s 23) 10 true), .i (.call 26 10 false [(.s 20), (.s 24)]), .i (.not 26 (.s 25))]) (.cond (.s 26) (.seq (.ops [.i (.mov 4 (.c (.val false [.bool false])))]) .ret) .skip))) (.ops [.i (.mov 15 (.s 5)), .i (.bin 16 .add (.s 15) (.c (.val false [.int .i64 1]))), .i (.mov 5 (.s 16))])))))) (.seq (.ops [.i (.mov 4 (.c (.val false [.bool true])))]) .ret))))⟩
theorem k32 : cd 32 = some c32 := by kernel_rfl
theorem eq_HeadS : EqOk cd 32 (.sl THead) := eq_sl k32 eq_Head
/-- laws.eqProof -/
def c31 : AF := ⟨2, 5, [.tmp 4], (.seq (.ops [.i (.lbox 2 (.s 0)), .i (.lbox 3 (.s 1)), .i (.mov 4 (.c (.val false [.bool false])))]) (.seq (.seq (.ops [.i (.fad 5 (.s 2) 0), .i (.ldl 6 2 (.s 5) 1 false), .i (.fad 7 (.s 3) 0), .i (.ldl 8 3 (.s 7) 1 false), .i (.call 10 32 false [(.s 6), (.s 8)]), .i (.not 10 (.s 9))]) (.cond (.s 10) (.seq (.ops [.i (.mov 4 (.c (.val false [.bool false])))]) .ret) .skip)) (.seq (.seq (.ops [.i (.fad 11 (.s 2) 1), .i (.ldl 12 2 (.s 11) 5 true), .i (.fad 13 (.s 3) 1), .i (.ldl 14 3 (.s 13) 5 true), .i (.call 16 43 false [(.s 12), (.s 14)]), .i (.not 16 (.s 15))]) (.cond (.s 16) (.seq (.ops [.i (.mov 4 (.c (.val false [.bool false])))]) .ret) .skip)) (.seq (.ops [.i (.mov 4 (.c (.val false [.bool true])))]) .ret))))⟩
theorem k31 : cd 31 = some c31 := by kernel_rfl
theorem eq_Proof : EqOk cd 31 TProof := by
  intro h ca cb va vb Sa Sb ha hb
  obtain ⟨avs, rfl, aq0⟩ := ha.st
  obtain ⟨av0, ar0, aS0, aT0, rfl, rfl, ah0, aq1⟩ := aq0.step
  obtain ⟨ac0, ae0⟩ := ah0.one rfl
  rw [ae0] at ah0
  obtain ⟨av1, ar1, aS1, aT1, rfl, rfl, ah1, aq2⟩ := aq1.step
  obtain ⟨_, rfl, rfl⟩ := aq2
  have ahsz : ca.length = 6 := ha.size
  obtain ⟨bvs, rfl, bq0⟩ := hb.st
  obtain ⟨bv0, br0, bS0, bT0, rfl, rfl, bh0, bq1⟩ := bq0.step
  obtain ⟨bc0, be0⟩ := bh0.one rfl
  rw [be0] at bh0
  obtain ⟨bv1, br1, bS1, bT1, rfl, rfl, bh1, bq2⟩ := bq1.step
  obtain ⟨_, rfl, rfl⟩ := bq2
  have bhsz : cb.length = 6 := hb.size
  simp only [Ty.size, Ty.sizes, Nat.reduceAdd, Nat.zero_add, List.drop_zero] at ae0 ahsz be0 bhsz ah1 bh1
  refine WS_enter k31 rfl ?_
  simp (disch := omega) only [KC_eq, c31, ae0, ahsz, be0, bhsz, ifT, w64, SQ, SU, SL, reduceCtorEq, Nat.reduceAdd, Nat.reduceLeDiff, reduceIte]
  refine EqOk.go eq_HeadS ah0 bh0 (fun d0 => ?_) (fun d0 => ?_)
  case refine_2 =>
    simp (disch := omega) only [KC_eq, c31, ae0, ahsz, be0, bhsz, ifT, w64, SQ, SU, SL, reduceCtorEq, Nat.reduceAdd, Nat.reduceLeDiff, reduceIte]
    simp [d0]
  subst d0
  simp (disch := omega) only [KC_eq, c31, ae0, ahsz, be0, bhsz, ifT, w64, SQ, SU, SL, reduceCtorEq, Nat.reduceAdd, Nat.reduceLeDiff, reduceIte]
  refine EqOk.go eq_Qc ah1 bh1 (fun d1 => ?_) (fun d1 => ?_)
  case refine_2 =>
    simp (disch := omega) only [KC_eq, c31, ae0, ahsz, be0, bhsz, ifT, w64, SQ, SU, SL, reduceCtorEq, Nat.reduceAdd, Nat.reduceLeDiff, reduceIte]
    simp [d1]
  subst d1
  simp (disch := omega) only [KC_eq, c31, ae0, ahsz, be0, bhsz, ifT, w64, SQ, SU, SL, reduceCtorEq, Nat.reduceAdd, Nat.reduceLeDiff, reduceIte]
/-- laws.markByteS -/
def c26 : AF := ⟨2, 5, [.tmp 4], (.seq (.ops [.i (.mov 4 (.c (.val false [.int .i64 0])))]) (.seq (.seq (.ops [.i (.mov 5 (.c (.val false [.int .i64 0])))]) (.block 0 (.loop [18, 17, 16, 15, 14, 13, 12, 11, 10, 9, 8, 7, 6] (.seq (.seq (.ops [.i (.mov 6 (.s 5)), .i (.mov 7 (.s 0)), .i (.len 8 false (.s 7)), .i (.bin 9 .lss (.s 6) (.s 8))]) (.cond (.s 9) .skip (.exit 0))) (.seq (.block 1 (.seq (.ops [.i (.mov 12 (.s 0)), .i (.mov 13 (.s 5)), .i (.mov 14 (.s 1)), .i (.cvi 15 .u8 (.s 14)), .i (.iad 16 (.s 12) (.s 13) 1), .i (.sth (.s 16) (.s 15) 1)]) (.ops [.i (.mov 17 (.s 1)), .i (.bin 18 .add (.s 17) (.c (.val false [.int .i64 1]))), .i (.mov 1 (.s 18))]))) (.ops [.i (.mov 10 (.s 5)), .i (.bin 11 .add (.s 10) (.c (.val false [.int .i64 1]))), .i (.mov 5 (.s 11))])))))) (.seq (.ops [.i (.mov 19 (.s 1)), .i (.mov 4 (.s 19))]) .ret)))⟩
theorem k26 : cd 26 = some c26 := by kernel_rfl
theorem mk_ByteS : MkOk cd 26 (.sl (.int .u8)) := mk_leaf k26
/-- laws.markRowS -/
def c64 : AF := ⟨2, 5, [.tmp 4], (.seq (.ops [.i (.mov 4 (.c (.val false [.int .i64 0])))]) (.seq (.seq (.ops [.i (.mov 5 (.c (.val false [.int .i64 0])))]) (.block 0 (.loop [25, 24, 23, 22, 21, 20, 19, 18, 17, 16, 15, 14, 13, 12, 11, 10, 9, 8, 7, 6] (.seq (.seq (.ops [.i (.mov 6 (.s 5)), .i (.mov 7 (.s 0)), .i (.len 8 false (.s 7)), .i (.bin 9 .lss (.s 6) (.s 8))]) (.cond (.s 9) .skip (.exit 0))) (.seq (.block 1 (.seq (.ops [.i (.mov 12 (.s 0)), .i (.mov 13 (.s 5)), .i (.mov 14 (.s 1)), .i (.iad 15 (.s 12) (.s 13) 2), .i (.fad 16 (.s 15) 0), .i (.sth (.s 16) (.s 14) 1)]) (.seq (.ops [.i (.mov 17 (.s 1)), .i (.bin 18 .add (.s 17) (.c (.val false [.int .i64 1]))), .i (.mov 1 (.s 18))]) (.ops [.i (.mov 19 (.s 0)), .i (.mov 20 (.s 5)), .i (.iad 21 (.s 19) (.s 20) 2), .i (.fad 22 (.s 21) 1), .i (.ldh 23 (.s 22) 1 false), .i (.mov 24 (.s 1)), .i (.call 26 26 false [(.s 23), (.s 24)]), .i (.mov 1 (.s 25))])))) (.ops [.i (.mov 10 (.s 5)), .i (.bin 11 .add (.s 10) (.c (.val false [.int .i64 1]))), .i (.mov 5 (.s 11))])))))) (.seq (.ops [.i (.mov 26 (.s 1)), .i (.mov 4 (.s 26))]) .ret)))⟩
theorem k64 : cd 64 = some c64 := by kernel_rfl
theorem mk_RowS : MkOk cd 64 (.sl TRow) := by
  intro h cs v S k hv ho hk
  obtain ⟨c, xs, id, off, bs, S', rfl, rfl, hm, hl, hat, hce, hbs, hel, hS⟩ := hv.view
  have hcn : cnT (.sl TRow) (.l xs) = (xs.map (cnE TRow)).sum := rfl
  have hmk : mkT (.sl TRow) (.l xs) k = .l (mkL (mkE TRow) (cnE TRow) xs k) := rfl
  rw [hcn] at hk ⊢
  rw [hmk]
  have hsub : ∀ j ∈ S', j ∈ S := fun j hj => by
    rcases hS with e | ⟨_, _, e⟩
    · rw [e]; simp [hj]
    · rw [e] at hj; cases hj
  have hnd : S'.Nodup := by
    rcases hS with e | ⟨_, _, e⟩
    · have := ho.1
      rw [e] at this
      exact (List.nodup_cons.1 this).2
    · rw [e]; simp
  have hid : 0 < xs.length → id ∉ S' ∧ id ∈ S := fun hp => by
    rcases hS with e | ⟨e, _, _⟩
    · have := ho.1
      rw [e] at this
      exact ⟨(List.nodup_cons.1 this).1, by rw [e]; simp⟩
    · rw [e] at hp; simp at hp
  have hown : ∃ ty, 0 < xs.length → h[id]? = some (.own ty bs) := by
    by_cases hp : 0 < xs.length
    · obtain ⟨ty, cs, e⟩ := ho.2 id (hid hp).2
      have := (hce hp).1
      rw [cells_own e] at this
      cases this
      exact ⟨ty, fun _ => e⟩
    · exact ⟨0, fun e => absurd e hp⟩
  obtain ⟨ty, hty⟩ := hown
  have hs1 : TRow.size = 2 := rfl
  rw [hs1] at hat hbs
  refine WS_enter k64 rfl ?_
  simp (disch := omega) only [c64, SQ, SU, SL, reduceCtorEq, Nat.reduceAdd, Nat.reduceLeDiff, reduceIte]
  refine WS_loop2 (σ := Nat) (f1 := _) (by simp only [SQ, SU, SL, reduceCtorEq, Nat.reduceAdd, Nat.reduceLeDiff, reduceIte]; rfl) (fun i => [(5, .val false [.int .i64 i]), (1, .val false [.int .i64 ((k + ((xs.take i).map (cnE TRow)).sum : Nat) : Int)])])
    (fun i g h' => g = xs.length - i ∧ i ≤ xs.length ∧ Wrote h h' S ∧ (0 < xs.length → ∃ bs', h'[id]? = some (.own ty bs') ∧ bs'.length = bs.length ∧ Elems (Rp h' TRow) (mkd TRow xs k i) ((bs'.drop off).take (xs.length * TRow.size)) S') ∧ (i = 0 → h' = h)) 0 xs.length (by simp only [List.take_zero, List.map_nil, List.sum_nil, SQ, SU, SL, reduceCtorEq, Nat.reduceAdd, Nat.reduceLeDiff, reduceIte]; rfl)
    ⟨by omega, by omega, Wrote.refl ho.2, fun hp => ⟨bs, hty hp, rfl, by rw [mkd_zero]; exact hel⟩, fun _ => rfl⟩ ?_
  rintro i g h' ⟨hg, hi, hw, hblk, hz0⟩
  simp (disch := omega) only [c64, hl, w64, SQ, SU, SL, reduceCtorEq, Nat.reduceAdd, Nat.reduceLeDiff, reduceIte]
  refine BR_dec (fun hlt => ?_) (fun hlt => ?_)
  · have hix : i < xs.length := by omega
    obtain ⟨bs', hb1, hb2, he⟩ := hblk (by omega)
    clear hblk
    obtain ⟨hidS', hidS⟩ := hid (by omega)
    have hsi := sum_take (g := cnE TRow) (List.getElem?_eq_getElem hix)
    have hsl := sum_le (g := cnE TRow) xs (i + 1)
    have hfit : off + i * 2 + 2 ≤ bs'.length := by
      have := Nat.mul_le_mul_right 2 hix
      rw [Nat.succ_mul] at this
      omega
    have hme : i * 2 + 2 ≤ xs.length * 2 := by
      have := Nat.mul_le_mul_right 2 hix
      rw [Nat.succ_mul] at this
      exact this
    obtain ⟨Si, k1, k2, k3, k4⟩ := he.turn hnd (mkd_get hix)
    rw [part_part hix, hs1] at k1
    obtain ⟨x0, x1, hx⟩ := len_2 k1.size
    rw [hx] at k1
    obtain ⟨pre, post, hpl, rfl⟩ := around hx hfit
    have hat' := hat i hix
    rw [← hpl] at hat'
    have hidlt : id < h'.length := (List.getElem?_eq_some_iff.1 hb1).1
    have hset : ∀ b, (h'.set id b)[id]? = some b := fun b => set_get hidlt
    have hnid : id ∉ Si := fun hm => hidS' (k2 id hm)
    have hoi : Ownd h' Si := ⟨k3, fun j hj => (hw.ownd ho).2 j (hsub j (k2 j hj))⟩
    obtain ⟨p_vs, p_hv, p_q0⟩ := k1.st
    obtain ⟨p_v0, p_r0, p_S0, p_T0, rfl, rfl, p_h0, p_q1⟩ := p_q0.step
    simp only [Ty.size, Ty.sizes, Nat.reduceAdd, Nat.zero_add, List.drop_zero, List.drop_succ_cons, List.take_succ_cons, List.take_zero] at p_h0
    obtain ⟨n0, e0, rfl, rfl, lo0, hi0⟩ := p_h0.int
    simp only [List.cons.injEq, and_true] at e0
    subst e0
    obtain ⟨p_v1, p_r1, p_S1, p_T1, rfl, rfl, p_h1, p_q2⟩ := p_q1.step
    simp only [Ty.size, Ty.sizes, Nat.reduceAdd, Nat.zero_add, List.drop_zero, List.drop_succ_cons, List.take_succ_cons, List.take_zero] at p_h1
    have h1 := p_h1
    obtain ⟨_, rfl, rfl⟩ := p_q2
    have hxi : xs[i] = .r [.i n0, p_v1] := p_hv
    rw [hxi] at hsi
    simp only [List.nil_append, List.append_nil] at k2 k3 hnid hoi k4
    have hcne : cnE TRow (.r [.i n0, p_v1]) = (1 + (cnE (.sl (.int .u8)) p_v1 + 0)) := rfl
    rw [hcne] at hsi
    have o1 := hoi
    have hcs : ∀ ty b, H.cells (h'.set id (.own ty b)) id = some b := fun ty b => cells_own (hset _)
    have hcb : h'.cells id = _ := cells_own hb1
    simp (disch := omega) only [KC_eq, c64, hl, hat', hb1, hset, hcs, hcb, List.set_set, pre_get3, pre_set3, pre_get2, pre_set2, pre_get, pre_get0, pre_set, pre_set0, List.length_append, List.cons_append, List.nil_append, List.length_set, ifT, w64, cnE_sl, cast1, SQ, SU, SL, reduceCtorEq, Nat.reduceAdd, Nat.reduceLeDiff, reduceIte]
    have hn1 : id ∉ p_S1 := fun hm => hnid (by simp [hm])
    refine MkOk.go mk_ByteS (h1.set hn1) (Ownd.set o1 hidlt) (k := ((k + ((xs.take i).map (cnE TRow)).sum) + 1)) (by rw [cnE_sl]; omega) (fun g1 w1 z1 => ?_)
    have hb_1 := w1.2.1 id hn1
    simp only [hb1, hset, hcs, hcb] at hb_1
    have hlt_1 : id < g1.length := (List.getElem?_eq_some_iff.1 hb_1).1
    have hset_1 : ∀ b, (g1.set id b)[id]? = some b := fun b => set_get hlt_1
    have hcs_1 : ∀ ty b, H.cells (g1.set id (.own ty b)) id = some b := fun ty b => cells_own (hset_1 _)
    have hcb_1 : g1.cells id = _ := cells_own hb_1
    simp (disch := omega) only [KC_eq, c64, hl, hat', hb_1, hset_1, hcs_1, hcb_1, List.set_set, pre_get3, pre_set3, pre_get2, pre_set2, pre_get, pre_get0, pre_set, pre_set0, List.length_append, List.cons_append, List.nil_append, List.length_set, ifT, w64, cnE_sl, cast1, SQ, SU, SL, reduceCtorEq, Nat.reduceAdd, Nat.reduceLeDiff, reduceIte]
    have wF0 : Wrote h' h' (id :: (p_S1)) := Wrote.refl (fun j hj => by
      rcases List.mem_cons.1 hj with rfl | hj
      · exact ⟨_, _, hb1⟩
      · exact hoi.2 j hj)
    have hmkE : mkE TRow xs[i] (k + ((xs.take i).map (cnE TRow)).sum) = .r [.i (IntKind.i64.wrap (((k + ((xs.take i).map (cnE TRow)).sum) : Nat) : Int)), mkE (.sl (.int .u8)) p_v1 (((k + ((xs.take i).map (cnE TRow)).sum) + 1))] := by rw [hxi]; rfl
    simp only [mkE_sl] at z1
    have wF := ((wF0.set (by simp) hidlt).more w1 (fun i hi => by simp [hi]))
    have hnew := Rp.mkSt (Rs.mk (Rp.mkNat (n := (k + ((xs.take i).map (cnE TRow)).sum)) (by omega)) (Rs.mk z1 Rs.nil))
    simp only [List.cons_append, List.nil_append, List.append_nil] at hnew
    rw [← hmkE] at hnew
    have hE := k4 _ _ _ (fun j hj hn => cells_same (wF.2.1 j (fun hm => by
      rcases List.mem_cons.1 hm with rfl | hm
      · exact hidS' hj
      · exact hn hm))) hnew
    rw [mkd_next hix] at hE
    refine ⟨i + 1, xs.length - (i + 1), by omega, ?_, rfl, by omega, hw.more wF (fun j hj => ?_), fun _ => ⟨pre ++ C.int .i64 (((k + ((xs.take i).map (cnE TRow)).sum) : Nat) : Int) :: x1 :: post, by first | exact rfl | exact hb_1, ?_, ?_⟩, fun e => by omega⟩
    · have e1 : k + ((xs.take (i + 1)).map (cnE TRow)).sum = (((k + ((xs.take i).map (cnE TRow)).sum) + 1) + cnE (.sl (.int .u8)) p_v1) := by omega
      rw [e1]
    · rcases List.mem_cons.1 hj with rfl | hj
      · exact hidS
      · exact hsub j (k2 j hj)
    · rw [← hb2]; simp
    · have ht := turned (l := [C.int .i64 n0, x1]) (l' := [C.int .i64 (((k + ((xs.take i).map (cnE TRow)).sum) : Nat) : Int), x1]) (post := post) hpl rfl (m := xs.length * 2) (by simpa using hme)
      rw [hs1] at hE
      rw [← ht] at hE
      exact hE
  · simp (disch := omega) only [c64, SQ, SU, SL, reduceCtorEq, Nat.reduceAdd, Nat.reduceLeDiff, reduceIte]
    have hi' : i = xs.length := by omega
    subst hi'
    rw [List.take_length]
    refine ⟨rfl, hw, ?_⟩
    by_cases hp : 0 < xs.length
    · obtain ⟨bs', hb1, hb2, he⟩ := hblk hp
      rw [mkd_all] at he
      refine ⟨_, rfl, ?_, .inr ⟨id, off, bs', S', _, ?_, cells_own hb1, ?_, ?_, ?_, .inl rfl⟩⟩
      · rw [mkL_len]; simp only [maxLen]; omega
      · rw [mkL_len]; rw [(hce hp).2]
      · rw [mkL_len, hb2, hs1]; exact hbs
      · rcases hS with e | ⟨e, _⟩
        · exact e
        · rw [e] at hp; simp at hp
      · rw [mkL_len]; exact he
    · have hx : xs = [] := List.eq_nil_of_length_eq_zero (by omega)
      subst hx
      rw [hz0 rfl]
      exact hv
/-- laws.markTable -/
def c25 : AF := ⟨2, 4, [.tmp 4], (.seq (.ops [.i (.lbox 2 (.s 0)), .i (.mov 4 (.c (.val false [.int .i64 0])))]) (.seq (.ops [.i (.fad 5 (.s 2) 0), .i (.ldl 6 2 (.s 5) 1 false), .i (.mov 7 (.s 1)), .i (.call 9 64 false [(.s 6), (.s 7)]), .i (.mov 1 (.s 8))]) (.seq (.ops [.i (.mov 9 (.s 1)), .i (.mov 4 (.s 9))]) .ret)))⟩
theorem k25 : cd 25 = some c25 := by kernel_rfl
theorem mk_Table : MkOk cd 25 TTable := by
  intro h cs v S k hv ho hk
  obtain ⟨vs, rfl, q0⟩ := hv.st
  obtain ⟨v0, r0, S0, T0, rfl, rfl, h0, q1⟩ := q0.step
  obtain ⟨c0, e0⟩ := h0.one rfl
  rw [e0] at h0
  obtain ⟨_, rfl, rfl⟩ := q1
  have hsz : cs.length = 1 := hv.size
  simp only [Ty.size, Ty.sizes, Nat.reduceAdd, Nat.zero_add, List.drop_zero] at e0 hsz
  have hcn : cnT TTable (.r [v0]) = (cnT (.sl TRow) v0 + 0) := rfl
  have hmk : mkT TTable (.r [v0]) k = .r [mkT (.sl TRow) v0 (k)] := rfl
  rw [hmk]
  rw [hcn] at hk ⊢
  simp only [List.nil_append, List.append_nil] at ho ⊢
  have o0 := ho
  refine WS_enter k25 rfl ?_
  simp (disch := omega) only [KC_eq, c25, e0, hsz, ifT, w64, SQ, SU, SL, reduceCtorEq, Nat.reduceAdd, Nat.reduceLeDiff, reduceIte]
  refine MkOk.go mk_RowS h0 o0 (k := k) (by omega) (fun g0 w0 z0 => ?_)
  simp (disch := omega) only [KC_eq, c25, e0, hsz, ifT, w64, SQ, SU, SL, reduceCtorEq, Nat.reduceAdd, Nat.reduceLeDiff, reduceIte]
  have fin : Rs g0 [(.sl TRow)] (cs.drop 0) [mkT (.sl TRow) v0 (k)] _ := (Rs.unstep (o := 0) (Rp.cs_at e0 z0) (Rs.fin (Nat.le_of_eq hsz)))
  simp only [List.nil_append, List.append_nil, List.drop_zero] at fin
  have wr := ((Wrote.refl ho.2).more w0 (fun i hi => by simp [hi]))
  first
    | exact ⟨wr, _, rfl, fin⟩
    | (refine ⟨?_, wr, _, rfl, fin⟩
       congr 3
       omega)
/-- laws.markByteSS -/
def c69 : AF := ⟨2, 5, [.tmp 4], (.seq (.ops [.i (.mov 4 (.c (.val false [.int .i64 0])))]) (.seq (.seq (.ops [.i (.mov 5 (.c (.val false [.int .i64 0])))]) (.block 0 (.loop [17, 16, 15, 14, 13, 12, 11, 10, 9, 8, 7, 6] (.seq (.seq (.ops [.i (.mov 6 (.s 5)), .i (.mov 7 (.s 0)), .i (.len 8 false (.s 7)), .i (.bin 9 .lss (.s 6) (.s 8))]) (.cond (.s 9) .skip (.exit 0))) (.seq (.block 1 (.ops [.i (.mov 12 (.s 0)), .i (.mov 13 (.s 5)), .i (.iad 14 (.s 12) (.s 13) 1), .i (.ldh 15 (.s 14) 1 false), .i (.mov 16 (.s 1)), .i (.call 18 26 false [(.s 15), (.s 16)]), .i (.mov 1 (.s 17))])) (.ops [.i (.mov 10 (.s 5)), .i (.bin 11 .add (.s 10) (.c (.val false [.int .i64 1]))), .i (.mov 5 (.s 11))])))))) (.seq (.ops [.i (.mov 18 (.s 1)), .i (.mov 4 (.s 18))]) .ret)))⟩
theorem k69 : cd 69 = some c69 := by kernel_rfl
theorem mk_ByteSS : MkOk cd 69 (.sl (.sl (.int .u8))) := mk_sl k69 mk_ByteS
/-- laws.markHeadS -/
def c33 : AF := ⟨2, 7, [.tmp 4], (.seq (.ops [.i (.mov 4 (.c (.val false [.int .i64 0])))]) (.seq (.seq (.ops [.i (.mov 5 (.c (.val false [.int .i64 0])))]) (.block 0 (.loop [86, 85, 84, 83, 82, 81, 80, 79, 78, 77, 76, 75, 74, 73, 72, 71, 70, 69, 68, 67, 66, 65, 64, 63, 62, 61, 60, 59, 58, 57, 56, 55, 54, 53, 52, 51, 50, 49, 48, 47, 46, 45, 44, 43, 42, 41, 40, 39, 38, 37, 36, 35, 34, 33, 32, 31, 30, 29, 28, 27, 26, 25, 24, 23, 22, 21, 20, 19, 18, 17, 16, 15, 14, 13, 12, 11, 10, 9, 8, 7, 6] (.seq (.seq (.ops [.i (.mov 6 (.s 5)), .i (.mov 7 (.s 0)), .i (.len 8 false (.s 7)), .i (.bin 9 .lss (.s 6) (.s 8))]) (.cond (.s 9) .skip (.exit 0))) (.seq (.block 1 (.seq (.ops [.i (.mov 12 (.s 0)), .i (.mov 13 (.s 5)), .i (.mov 14 (.s 1)), .i (.iad 15 (.s 12) (.s 13) 10), .i (.fad 16 (.s 15) 0), .i (.sth (.s 16) (.s 14) 1)]) (.seq (.ops [.i (.mov 17 (.s 1)), .i (.bin 18 .add (.s 17) (.c (.val false [.int .i64 1]))), .i (.mov 1 (.s 18))]) (.seq (.ops [.i (.mov 19 (.s 0)), .i (.mov 20 (.s 5)), .i (.mov 21 (.s 1)), .i (.iad 22 (.s 19) (.s 20) 10), .i (.fad 23 (.s 22) 1), .i (.sth (.s 23) (.s 21) 1)]) (.seq (.ops [.i (.mov 24 (.s 1)), .i (.bin 25 .add (.s 24) (.c (.val false [.int .i64 1]))), .i (.mov 1 (.s 25))]) (.seq (.ops [.i (.mov 26 (.s 0)), .i (.mov 27 (.s 5)), .i (.mov 28 (.s 1)), .i (.iad 29 (.s 26) (.s 27) 10), .i (.fad 30 (.s 29) 2), .i (.sth (.s 30) (.s 28) 1)]) (.seq (.ops [.i (.mov 31 (.s 1)), .i (.bin 32 .add (.s 31) (.c (.val false [.int .i64 1]))), .i (.mov 1 (.s 32))]) (.seq (.ops [.i (.mov 33 (.s 0)), .i (.mov 34 (.s 5)), .i (.iad 35 (.s 33) (.s 34) 10), .i (.fad 36 (.s 35) 3), .i (.ldh 37 (.s 36) 1 false), .i (.mov 38 (.s 1)), .i (.call 40 26 false [(.s 37), (.s 38)]), .i (.mov 1 (.s 39))]) (.seq (.ops [.i (.mov 40 (.s 0)), .i (.mov 41 (.s 5)), .i (.iad 42 (.s 40) (.s 41) 10), .i (.fad 43 (.s 42) 4), .i (.ldh 44 (.s 43) 1 false), .i (.mov 45 (.s 1)), .i (.call 47 26 false [(.s 44), (.s 45)]), .i (.mov 1 (.s 46))]) (.seq (.ops [.i (.mov 47 (.s 0)), .i (.mov 48 (.s 5)), .i (.mov 49 (.s 1)), .i (.iad 50 (.s 47) (.s 48) 10), .i (.fad 51 (.s 50) 5), .i (.fad 52 (.s 51) 0), .i (.sth (.s 52) (.s 49) 1)]) (.seq (.ops [.i (.mov 53 (.s 1)), .i (.bin 54 .add (.s 53) (.c (.val false [.int .i64 1]))), .i (.mov 1 (.s 54))]) (.seq (.ops [.i (.mov 55 (.s 0)), .i (.mov 56 (.s 5)), .i (.mov 57 (.s 1)), .i (.iad 58 (.s 55) (.s 56) 10), .i (.fad 59 (.s 58) 5), .i (.fad 60 (.s 59) 1), .i (.sth (.s 60) (.s 57) 1)]) (.seq (.ops [.i (.mov 61 (.s 1)), .i (.bin 62 .add (.s 61) (.c (.val false [.int .i64 1]))), .i (.mov 1 (.s 62))]) (.seq (.ops [.i (.mov 63 (.s 0)), .i (.mov 64 (.s 5)), .i (.iad 65 (.s 63) (.s 64) 10), .i (.fad 66 (.s 65) 5), .i (.fad 67 (.s 66) 2), .i (.ldh 68 (.s 67) 1 false), .i (.mov 69 (.s 1)), .i (.call 71 26 false [(.s 68), (.s 69)]), .i (.mov 1 (.s 70))]) (.seq (.ops [.i (.mov 71 (.s 0)), .i (.mov 72 (.s 5)), .i (.iad 73 (.s 71) (.s 72) 10), .i (.fad 74 (.s 73) 5), .i (.fad 75 (.s 74) 3), .i (.ldh 76 (.s 75) 1 false), .i (.mov 77 (.s 1)), .i (.call 79 26 false [(.s 76), (.s 77)]), .i (.mov 1 (.s 78))]) (.ops [.i (.mov 79 (.s 0)), .i (.mov 80 (.s 5)), .i (.iad 81 (.s 79) (.s 80) 10), .i (.fad 82 (.s 81) 5), .i (.fad 83 (.s 82) 4), .i (.ldh 84 (.s 83) 1 false), .i (.mov 85 (.s 1)), .i (.call 87 69 false [(.s 84), (.s 85)]), .i (.mov 1 (.s 86))])))))))))))))))) (.ops [.i (.mov 10 (.s 5)), .i (.bin 11 .add (.s 10) (.c (.val false [.int .i64 1]))), .i (.mov 5 (.s 11))])))))) (.seq (.ops [.i (.mov 87 (.s 1)), .i (.mov 4 (.s 87))]) .ret)))⟩
theorem k33 : cd 33 = some c33 := by kernel_rfl
theorem mk_HeadS : MkOk cd 33 (.sl THead) := by
  intro h cs v S k hv ho hk
  obtain ⟨c, xs, id, off, bs, S', rfl, rfl, hm, hl, hat, hce, hbs, hel, hS⟩ := hv.view
  have hcn : cnT (.sl THead) (.l xs) = (xs.map (cnE THead)).sum := rfl
  have hmk : mkT (.sl THead) (.l xs) k = .l (mkL (mkE THead) (cnE THead) xs k) := rfl
  rw [hcn] at hk ⊢
  rw [hmk]
  have hsub : ∀ j ∈ S', j ∈ S := fun j hj => by
    rcases hS with e | ⟨_, _, e⟩
    · rw [e]; simp [hj]
    · rw [e] at hj; cases hj
  have hnd : S'.Nodup := by
    rcases hS with e | ⟨_, _, e⟩
    · have := ho.1
      rw [e] at this
      exact (List.nodup_cons.1 this).2
    · rw [e]; simp
  have hid : 0 < xs.length → id ∉ S' ∧ id ∈ S := fun hp => by
    rcases hS with e | ⟨e, _, _⟩
    · have := ho.1
      rw [e] at this
      exact ⟨(List.nodup_cons.1 this).1, by rw [e]; simp⟩
    · rw [e] at hp; simp at hp
  have hown : ∃ ty, 0 < xs.length → h[id]? = some (.own ty bs) := by
    by_cases hp : 0 < xs.length
    · obtain ⟨ty, cs, e⟩ := ho.2 id (hid hp).2
      have := (hce hp).1
      rw [cells_own e] at this
      cases this
      exact ⟨ty, fun _ => e⟩
    · exact ⟨0, fun e => absurd e hp⟩
  obtain ⟨ty, hty⟩ := hown
  have hs1 : THead.size = 10 := rfl
  rw [hs1] at hat hbs
  refine WS_enter k33 rfl ?_
  simp (disch := omega) only [c33, SQ, SU, SL, reduceCtorEq, Nat.reduceAdd, Nat.reduceLeDiff, reduceIte]
  refine WS_loop2 (σ := Nat) (f1 := _) (by simp only [SQ, SU, SL, reduceCtorEq, Nat.reduceAdd, Nat.reduceLeDiff, reduceIte]; rfl) (fun i => [(5, .val false [.int .i64 i]), (1, .val false [.int .i64 ((k + ((xs.take i).map (cnE THead)).sum : Nat) : Int)])])
    (fun i g h' => g = xs.length - i ∧ i ≤ xs.length ∧ Wrote h h' S ∧ (0 < xs.length → ∃ bs', h'[id]? = some (.own ty bs') ∧ bs'.length = bs.length ∧ Elems (Rp h' THead) (mkd THead xs k i) ((bs'.drop off).take (xs.length * THead.size)) S') ∧ (i = 0 → h' = h)) 0 xs.length (by simp only [List.take_zero, List.map_nil, List.sum_nil, SQ, SU, SL, reduceCtorEq, Nat.reduceAdd, Nat.reduceLeDiff, reduceIte]; rfl)
    ⟨by omega, by omega, Wrote.refl ho.2, fun hp => ⟨bs, hty hp, rfl, by rw [mkd_zero]; exact hel⟩, fun _ => rfl⟩ ?_
  rintro i g h' ⟨hg, hi, hw, hblk, hz0⟩
  simp (disch := omega) only [c33, hl, w64, SQ, SU, SL, reduceCtorEq, Nat.reduceAdd, Nat.reduceLeDiff, reduceIte]
  refine BR_dec (fun hlt => ?_) (fun hlt => ?_)
  · have hix : i < xs.length := by omega
    obtain ⟨bs', hb1, hb2, he⟩ := hblk (by omega)
    clear hblk
    obtain ⟨hidS', hidS⟩ := hid (by omega)
    have hsi := sum_take (g := cnE THead) (List.getElem?_eq_getElem hix)
    have hsl := sum_le (g := cnE THead) xs (i + 1)
    have hfit : off + i * 10 + 10 ≤ bs'.length := by
      have := Nat.mul_le_mul_right 10 hix
      rw [Nat.succ_mul] at this
      omega
    have hme : i * 10 + 10 ≤ xs.length * 10 := by
      have := Nat.mul_le_mul_right 10 hix
      rw [Nat.succ_mul] at this
      exact this
    obtain ⟨Si, k1, k2, k3, k4⟩ := he.turn hnd (mkd_get hix)
    rw [part_part hix, hs1] at k1
    obtain ⟨x0, x1, x2, x3, x4, x5, x6, x7, x8, x9, hx⟩ := len_10 k1.size
    rw [hx] at k1
    obtain ⟨pre, post, hpl, rfl⟩ := around hx hfit
    have hat' := hat i hix
    rw [← hpl] at hat'
    have hidlt : id < h'.length := (List.getElem?_eq_some_iff.1 hb1).1
    have hset : ∀ b, (h'.set id b)[id]? = some b := fun b => set_get hidlt
    have hnid : id ∉ Si := fun hm => hidS' (k2 id hm)
    have hoi : Ownd h' Si := ⟨k3, fun j hj => (hw.ownd ho).2 j (hsub j (k2 j hj))⟩
    obtain ⟨p_vs, p_hv, p_q0⟩ := k1.st
    obtain ⟨p_v0, p_r0, p_S0, p_T0, rfl, rfl, p_h0, p_q1⟩ := p_q0.step
    simp only [Ty.size, Ty.sizes, Nat.reduceAdd, Nat.zero_add, List.drop_zero, List.drop_succ_cons, List.take_succ_cons, List.take_zero] at p_h0
    obtain ⟨n0, e0, rfl, rfl, lo0, hi0⟩ := p_h0.int
    simp only [List.cons.injEq, and_true] at e0
    subst e0
    obtain ⟨p_v1, p_r1, p_S1, p_T1, rfl, rfl, p_h1, p_q2⟩ := p_q1.step
    simp only [Ty.size, Ty.sizes, Nat.reduceAdd, Nat.zero_add, List.drop_zero, List.drop_succ_cons, List.take_succ_cons, List.take_zero] at p_h1
    obtain ⟨n1, e1, rfl, rfl, lo1, hi1⟩ := p_h1.int
    simp only [List.cons.injEq, and_true] at e1
    subst e1
    obtain ⟨p_v2, p_r2, p_S2, p_T2, rfl, rfl, p_h2, p_q3⟩ := p_q2.step
    simp only [Ty.size, Ty.sizes, Nat.reduceAdd, Nat.zero_add, List.drop_zero, List.drop_succ_cons, List.take_succ_cons, List.take_zero] at p_h2
    obtain ⟨n2, e2, rfl, rfl, lo2, hi2⟩ := p_h2.int
    simp only [List.cons.injEq, and_true] at e2
    subst e2
    obtain ⟨p_v3, p_r3, p_S3, p_T3, rfl, rfl, p_h3, p_q4⟩ := p_q3.step
    simp only [Ty.size, Ty.sizes, Nat.reduceAdd, Nat.zero_add, List.drop_zero, List.drop_succ_cons, List.take_succ_cons, List.take_zero] at p_h3
    have h3 := p_h3
    obtain ⟨p_v4, p_r4, p_S4, p_T4, rfl, rfl, p_h4, p_q5⟩ := p_q4.step
    simp only [Ty.size, Ty.sizes, Nat.reduceAdd, Nat.zero_add, List.drop_zero, List.drop_succ_cons, List.take_succ_cons, List.take_zero] at p_h4
    have h4 := p_h4
    obtain ⟨p_v5, p_r5, p_S5, p_T5, rfl, rfl, p_h5, p_q6⟩ := p_q5.step
    simp only [Ty.size, Ty.sizes, Nat.reduceAdd, Nat.zero_add, List.drop_zero, List.drop_succ_cons, List.take_succ_cons, List.take_zero] at p_h5
    obtain ⟨p5_vs, p5_hv, p5_q0⟩ := p_h5.st
    obtain ⟨p5_v0, p5_r0, p5_S0, p5_T0, rfl, rfl, p5_h0, p5_q1⟩ := p5_q0.step
    simp only [Ty.size, Ty.sizes, Nat.reduceAdd, Nat.zero_add, List.drop_zero, List.drop_succ_cons, List.take_succ_cons, List.take_zero] at p5_h0
    obtain ⟨n5, e5, rfl, rfl, lo5, hi5⟩ := p5_h0.int
    simp only [List.cons.injEq, and_true] at e5
    subst e5
    obtain ⟨p5_v1, p5_r1, p5_S1, p5_T1, rfl, rfl, p5_h1, p5_q2⟩ := p5_q1.step
    simp only [Ty.size, Ty.sizes, Nat.reduceAdd, Nat.zero_add, List.drop_zero, List.drop_succ_cons, List.take_succ_cons, List.take_zero] at p5_h1
    obtain ⟨n6, e6, rfl, rfl, lo6, hi6⟩ := p5_h1.int
    simp only [List.cons.injEq, and_true] at e6
    subst e6
    obtain ⟨p5_v2, p5_r2, p5_S2, p5_T2, rfl, rfl, p5_h2, p5_q3⟩ := p5_q2.step
    simp only [Ty.size, Ty.sizes, Nat.reduceAdd, Nat.zero_add, List.drop_zero, List.drop_succ_cons, List.take_succ_cons, List.take_zero] at p5_h2
    have h7 := p5_h2
    obtain ⟨p5_v3, p5_r3, p5_S3, p5_T3, rfl, rfl, p5_h3, p5_q4⟩ := p5_q3.step
    simp only [Ty.size, Ty.sizes, Nat.reduceAdd, Nat.zero_add, List.drop_zero, List.drop_succ_cons, List.take_succ_cons, List.take_zero] at p5_h3
    have h8 := p5_h3
    obtain ⟨p5_v4, p5_r4, p5_S4, p5_T4, rfl, rfl, p5_h4, p5_q5⟩ := p5_q4.step
    simp only [Ty.size, Ty.sizes, Nat.reduceAdd, Nat.zero_add, List.drop_zero, List.drop_succ_cons, List.take_succ_cons, List.take_zero] at p5_h4
    have h9 := p5_h4
    obtain ⟨_, rfl, rfl⟩ := p5_q5
    subst p5_hv
    obtain ⟨_, rfl, rfl⟩ := p_q6
    have hxi : xs[i] = .r [.i n0, .i n1, .i n2, p_v3, p_v4, .r [.i n5, .i n6, p5_v2, p5_v3, p5_v4]] := p_hv
    rw [hxi] at hsi
    simp only [List.nil_append, List.append_nil] at k2 k3 hnid hoi k4
    have hcne : cnE THead (.r [.i n0, .i n1, .i n2, p_v3, p_v4, .r [.i n5, .i n6, p5_v2, p5_v3, p5_v4]]) = (1 + (1 + (1 + (cnE (.sl (.int .u8)) p_v3 + (cnE (.sl (.int .u8)) p_v4 + ((1 + (1 + (cnE (.sl (.int .u8)) p5_v2 + (cnE (.sl (.int .u8)) p5_v3 + (cnE (.sl (.sl (.int .u8))) p5_v4 + 0))))) + 0)))))) := rfl
    rw [hcne] at hsi
    obtain ⟨o3, ho3, y3, yy3⟩ := hoi.split
    obtain ⟨o4, ho4, y4, yy4⟩ := ho3.split
    obtain ⟨o7, ho7, y7, yy7⟩ := ho4.split
    obtain ⟨o8, ho8, y8, yy8⟩ := ho7.split
    have o9 := ho8
    have hcs : ∀ ty b, H.cells (h'.set id (.own ty b)) id = some b := fun ty b => cells_own (hset _)
    have hcb : h'.cells id = _ := cells_own hb1
    simp (disch := omega) only [KC_eq, c33, hl, hat', hb1, hset, hcs, hcb, List.set_set, pre_get3, pre_set3, pre_get2, pre_set2, pre_get, pre_get0, pre_set, pre_set0, List.length_append, List.cons_append, List.nil_append, List.length_set, ifT, w64, cnE_sl, cast1, SQ, SU, SL, reduceCtorEq, Nat.reduceAdd, Nat.reduceLeDiff, reduceIte]
    have hn3 : id ∉ p_S3 := fun hm => hnid (by simp [hm])
    have hn4 : id ∉ p_S4 := fun hm => hnid (by simp [hm])
    have hn7 : id ∉ p5_S2 := fun hm => hnid (by simp [hm])
    have hn8 : id ∉ p5_S3 := fun hm => hnid (by simp [hm])
    have hn9 : id ∉ p5_S4 := fun hm => hnid (by simp [hm])
    refine MkOk.go mk_ByteS (h3.set hn3) (Ownd.set o3 hidlt) (k := ((((k + ((xs.take i).map (cnE THead)).sum) + 1) + 1) + 1)) (by rw [cnE_sl]; omega) (fun g3 w3 z3 => ?_)
    have hb_3 := w3.2.1 id hn3
    simp only [hb1, hset, hcs, hcb] at hb_3
    have hlt_3 : id < g3.length := (List.getElem?_eq_some_iff.1 hb_3).1
    have hset_3 : ∀ b, (g3.set id b)[id]? = some b := fun b => set_get hlt_3
    have hcs_3 : ∀ ty b, H.cells (g3.set id (.own ty b)) id = some b := fun ty b => cells_own (hset_3 _)
    have hcb_3 : g3.cells id = _ := cells_own hb_3
    simp (disch := omega) only [KC_eq, c33, hl, hat', hb_3, hset_3, hcs_3, hcb_3, List.set_set, pre_get3, pre_set3, pre_get2, pre_set2, pre_get, pre_get0, pre_set, pre_set0, List.length_append, List.cons_append, List.nil_append, List.length_set, ifT, w64, cnE_sl, cast1, SQ, SU, SL, reduceCtorEq, Nat.reduceAdd, Nat.reduceLeDiff, reduceIte]
    refine MkOk.go mk_ByteS ((h4.set hn4).wrote w3 (fun i hi => yy3 i (by simp [hi]))) (w3.ownd (Ownd.set o4 hidlt)) (k := (((((k + ((xs.take i).map (cnE THead)).sum) + 1) + 1) + 1) + cnE (.sl (.int .u8)) p_v3)) (by rw [cnE_sl]; omega) (fun g4 w4 z4 => ?_)
    have hb_4 := w4.2.1 id hn4
    simp only [hb_3, hset_3, hcs_3, hcb_3] at hb_4
    have hlt_4 : id < g4.length := (List.getElem?_eq_some_iff.1 hb_4).1
    have hset_4 : ∀ b, (g4.set id b)[id]? = some b := fun b => set_get hlt_4
    have hcs_4 : ∀ ty b, H.cells (g4.set id (.own ty b)) id = some b := fun ty b => cells_own (hset_4 _)
    have hcb_4 : g4.cells id = _ := cells_own hb_4
    simp (disch := omega) only [KC_eq, c33, hl, hat', hb_4, hset_4, hcs_4, hcb_4, List.set_set, pre_get3, pre_set3, pre_get2, pre_set2, pre_get, pre_get0, pre_set, pre_set0, List.length_append, List.cons_append, List.nil_append, List.length_set, ifT, w64, cnE_sl, cast1, SQ, SU, SL, reduceCtorEq, Nat.reduceAdd, Nat.reduceLeDiff, reduceIte]
    refine MkOk.go mk_ByteS ((((h7.set hn7).wrote w3 (fun i hi => yy3 i (by simp [hi]))).wrote w4 (fun i hi => yy4 i (by simp [hi]))).set hn7) (Ownd.set (w4.ownd (w3.ownd (Ownd.set o7 hidlt))) hlt_4) (k := ((((((((k + ((xs.take i).map (cnE THead)).sum) + 1) + 1) + 1) + cnE (.sl (.int .u8)) p_v3) + cnE (.sl (.int .u8)) p_v4) + 1) + 1)) (by rw [cnE_sl]; omega) (fun g7 w7 z7 => ?_)
    have hb_7 := w7.2.1 id hn7
    simp only [hb_4, hset_4, hcs_4, hcb_4] at hb_7
    have hlt_7 : id < g7.length := (List.getElem?_eq_some_iff.1 hb_7).1
    have hset_7 : ∀ b, (g7.set id b)[id]? = some b := fun b => set_get hlt_7
    have hcs_7 : ∀ ty b, H.cells (g7.set id (.own ty b)) id = some b := fun ty b => cells_own (hset_7 _)
    have hcb_7 : g7.cells id = _ := cells_own hb_7
    simp (disch := omega) only [KC_eq, c33, hl, hat', hb_7, hset_7, hcs_7, hcb_7, List.set_set, pre_get3, pre_set3, pre_get2, pre_set2, pre_get, pre_get0, pre_set, pre_set0, List.length_append, List.cons_append, List.nil_append, List.length_set, ifT, w64, cnE_sl, cast1, SQ, SU, SL, reduceCtorEq, Nat.reduceAdd, Nat.reduceLeDiff, reduceIte]
    refine MkOk.go mk_ByteS (((((h8.set hn8).wrote w3 (fun i hi => yy3 i (by simp [hi]))).wrote w4 (fun i hi => yy4 i (by simp [hi]))).set hn8).wrote w7 (fun i hi => yy7 i (by simp [hi]))) (w7.ownd (Ownd.set (w4.ownd (w3.ownd (Ownd.set o8 hidlt))) hlt_4)) (k := (((((((((k + ((xs.take i).map (cnE THead)).sum) + 1) + 1) + 1) + cnE (.sl (.int .u8)) p_v3) + cnE (.sl (.int .u8)) p_v4) + 1) + 1) + cnE (.sl (.int .u8)) p5_v2)) (by rw [cnE_sl]; omega) (fun g8 w8 z8 => ?_)
    have hb_8 := w8.2.1 id hn8
    simp only [hb_7, hset_7, hcs_7, hcb_7] at hb_8
    have hlt_8 : id < g8.length := (List.getElem?_eq_some_iff.1 hb_8).1
    have hset_8 : ∀ b, (g8.set id b)[id]? = some b := fun b => set_get hlt_8
    have hcs_8 : ∀ ty b, H.cells (g8.set id (.own ty b)) id = some b := fun ty b => cells_own (hset_8 _)
    have hcb_8 : g8.cells id = _ := cells_own hb_8
    simp (disch := omega) only [KC_eq, c33, hl, hat', hb_8, hset_8, hcs_8, hcb_8, List.set_set, pre_get3, pre_set3, pre_get2, pre_set2, pre_get, pre_get0, pre_set, pre_set0, List.length_append, List.cons_append, List.nil_append, List.length_set, ifT, w64, cnE_sl, cast1, SQ, SU, SL, reduceCtorEq, Nat.reduceAdd, Nat.reduceLeDiff, reduceIte]
    refine MkOk.go mk_ByteSS ((((((h9.set hn9).wrote w3 (fun i hi => yy3 i (by simp [hi]))).wrote w4 (fun i hi => yy4 i (by simp [hi]))).set hn9).wrote w7 (fun i hi => yy7 i (by simp [hi]))).wrote w8 (fun i hi => yy8 i (by simp [hi]))) (w8.ownd (w7.ownd (Ownd.set (w4.ownd (w3.ownd (Ownd.set o9 hidlt))) hlt_4))) (k := ((((((((((k + ((xs.take i).map (cnE THead)).sum) + 1) + 1) + 1) + cnE (.sl (.int .u8)) p_v3) + cnE (.sl (.int .u8)) p_v4) + 1) + 1) + cnE (.sl (.int .u8)) p5_v2) + cnE (.sl (.int .u8)) p5_v3)) (by rw [cnE_sl]; omega) (fun g9 w9 z9 => ?_)
    have hb_9 := w9.2.1 id hn9
    simp only [hb_8, hset_8, hcs_8, hcb_8] at hb_9
    have hlt_9 : id < g9.length := (List.getElem?_eq_some_iff.1 hb_9).1
    have hset_9 : ∀ b, (g9.set id b)[id]? = some b := fun b => set_get hlt_9
    have hcs_9 : ∀ ty b, H.cells (g9.set id (.own ty b)) id = some b := fun ty b => cells_own (hset_9 _)
    have hcb_9 : g9.cells id = _ := cells_own hb_9
    simp (disch := omega) only [KC_eq, c33, hl, hat', hb_9, hset_9, hcs_9, hcb_9, List.set_set, pre_get3, pre_set3, pre_get2, pre_set2, pre_get, pre_get0, pre_set, pre_set0, List.length_append, List.cons_append, List.nil_append, List.length_set, ifT, w64, cnE_sl, cast1, SQ, SU, SL, reduceCtorEq, Nat.reduceAdd, Nat.reduceLeDiff, reduceIte]
    have wF0 : Wrote h' h' (id :: (p_S3 ++ (p_S4 ++ (p5_S2 ++ (p5_S3 ++ (p5_S4)))))) := Wrote.refl (fun j hj => by
      rcases List.mem_cons.1 hj with rfl | hj
      · exact ⟨_, _, hb1⟩
      · exact hoi.2 j hj)
    have hmkE : mkE THead xs[i] (k + ((xs.take i).map (cnE THead)).sum) = .r [.i (IntKind.i64.wrap (((k + ((xs.take i).map (cnE THead)).sum) : Nat) : Int)), .i (IntKind.i64.wrap ((((k + ((xs.take i).map (cnE THead)).sum) + 1) : Nat) : Int)), .i (IntKind.i64.wrap (((((k + ((xs.take i).map (cnE THead)).sum) + 1) + 1) : Nat) : Int)), mkE (.sl (.int .u8)) p_v3 (((((k + ((xs.take i).map (cnE THead)).sum) + 1) + 1) + 1)), mkE (.sl (.int .u8)) p_v4 ((((((k + ((xs.take i).map (cnE THead)).sum) + 1) + 1) + 1) + cnE (.sl (.int .u8)) p_v3)), .r [.i (IntKind.i64.wrap ((((((((k + ((xs.take i).map (cnE THead)).sum) + 1) + 1) + 1) + cnE (.sl (.int .u8)) p_v3) + cnE (.sl (.int .u8)) p_v4) : Nat) : Int)), .i (IntKind.i64.wrap (((((((((k + ((xs.take i).map (cnE THead)).sum) + 1) + 1) + 1) + cnE (.sl (.int .u8)) p_v3) + cnE (.sl (.int .u8)) p_v4) + 1) : Nat) : Int)), mkE (.sl (.int .u8)) p5_v2 (((((((((k + ((xs.take i).map (cnE THead)).sum) + 1) + 1) + 1) + cnE (.sl (.int .u8)) p_v3) + cnE (.sl (.int .u8)) p_v4) + 1) + 1)), mkE (.sl (.int .u8)) p5_v3 ((((((((((k + ((xs.take i).map (cnE THead)).sum) + 1) + 1) + 1) + cnE (.sl (.int .u8)) p_v3) + cnE (.sl (.int .u8)) p_v4) + 1) + 1) + cnE (.sl (.int .u8)) p5_v2)), mkE (.sl (.sl (.int .u8))) p5_v4 (((((((((((k + ((xs.take i).map (cnE THead)).sum) + 1) + 1) + 1) + cnE (.sl (.int .u8)) p_v3) + cnE (.sl (.int .u8)) p_v4) + 1) + 1) + cnE (.sl (.int .u8)) p5_v2) + cnE (.sl (.int .u8)) p5_v3))]] := by rw [hxi]; rfl
    simp only [mkE_sl] at z3 z4 z7 z8 z9
    have wF := (((((((wF0.set (by simp) hidlt).more w3 (fun i hi => by simp [hi])).more w4 (fun i hi => by simp [hi])).set (by simp) hlt_4).more w7 (fun i hi => by simp [hi])).more w8 (fun i hi => by simp [hi])).more w9 (fun i hi => by simp [hi]))
    have hnew := Rp.mkSt (Rs.mk (Rp.mkNat (n := (k + ((xs.take i).map (cnE THead)).sum)) (by omega)) (Rs.mk (Rp.mkNat (n := ((k + ((xs.take i).map (cnE THead)).sum) + 1)) (by omega)) (Rs.mk (Rp.mkNat (n := (((k + ((xs.take i).map (cnE THead)).sum) + 1) + 1)) (by omega)) (Rs.mk (((((z3.wrote w4 (fun i hi hn => y3 i hi (by simp [hn]))).set hn3).wrote w7 (fun i hi hn => y3 i hi (by simp [hn]))).wrote w8 (fun i hi hn => y3 i hi (by simp [hn]))).wrote w9 (fun i hi hn => y3 i hi (by simp [hn]))) (Rs.mk ((((z4.set hn4).wrote w7 (fun i hi hn => y4 i hi (by simp [hn]))).wrote w8 (fun i hi hn => y4 i hi (by simp [hn]))).wrote w9 (fun i hi hn => y4 i hi (by simp [hn]))) (Rs.mk (Rp.mkSt (Rs.mk (Rp.mkNat (n := ((((((k + ((xs.take i).map (cnE THead)).sum) + 1) + 1) + 1) + cnE (.sl (.int .u8)) p_v3) + cnE (.sl (.int .u8)) p_v4)) (by omega)) (Rs.mk (Rp.mkNat (n := (((((((k + ((xs.take i).map (cnE THead)).sum) + 1) + 1) + 1) + cnE (.sl (.int .u8)) p_v3) + cnE (.sl (.int .u8)) p_v4) + 1)) (by omega)) (Rs.mk ((z7.wrote w8 (fun i hi hn => y7 i hi (by simp [hn]))).wrote w9 (fun i hi hn => y7 i hi (by simp [hn]))) (Rs.mk (z8.wrote w9 (fun i hi hn => y8 i hi (by simp [hn]))) (Rs.mk z9 Rs.nil)))))) Rs.nil))))))
    simp only [List.cons_append, List.nil_append, List.append_nil] at hnew
    rw [← hmkE] at hnew
    have hE := k4 _ _ _ (fun j hj hn => cells_same (wF.2.1 j (fun hm => by
      rcases List.mem_cons.1 hm with rfl | hm
      · exact hidS' hj
      · exact hn hm))) hnew
    rw [mkd_next hix] at hE
    refine ⟨i + 1, xs.length - (i + 1), by omega, ?_, rfl, by omega, hw.more wF (fun j hj => ?_), fun _ => ⟨pre ++ C.int .i64 (((k + ((xs.take i).map (cnE THead)).sum) : Nat) : Int) :: C.int .i64 ((((k + ((xs.take i).map (cnE THead)).sum) + 1) : Nat) : Int) :: C.int .i64 (((((k + ((xs.take i).map (cnE THead)).sum) + 1) + 1) : Nat) : Int) :: x3 :: x4 :: C.int .i64 ((((((((k + ((xs.take i).map (cnE THead)).sum) + 1) + 1) + 1) + cnE (.sl (.int .u8)) p_v3) + cnE (.sl (.int .u8)) p_v4) : Nat) : Int) :: C.int .i64 (((((((((k + ((xs.take i).map (cnE THead)).sum) + 1) + 1) + 1) + cnE (.sl (.int .u8)) p_v3) + cnE (.sl (.int .u8)) p_v4) + 1) : Nat) : Int) :: x7 :: x8 :: x9 :: post, by first | exact rfl | exact hb_9, ?_, ?_⟩, fun e => by omega⟩
    · have e1 : k + ((xs.take (i + 1)).map (cnE THead)).sum = (((((((((((k + ((xs.take i).map (cnE THead)).sum) + 1) + 1) + 1) + cnE (.sl (.int .u8)) p_v3) + cnE (.sl (.int .u8)) p_v4) + 1) + 1) + cnE (.sl (.int .u8)) p5_v2) + cnE (.sl (.int .u8)) p5_v3) + cnE (.sl (.sl (.int .u8))) p5_v4) := by omega
      rw [e1]
    · rcases List.mem_cons.1 hj with rfl | hj
      · exact hidS
      · exact hsub j (k2 j hj)
    · rw [← hb2]; simp
    · have ht := turned (l := [C.int .i64 n0, C.int .i64 n1, C.int .i64 n2, x3, x4, C.int .i64 n5, C.int .i64 n6, x7, x8, x9]) (l' := [C.int .i64 (((k + ((xs.take i).map (cnE THead)).sum) : Nat) : Int), C.int .i64 ((((k + ((xs.take i).map (cnE THead)).sum) + 1) : Nat) : Int), C.int .i64 (((((k + ((xs.take i).map (cnE THead)).sum) + 1) + 1) : Nat) : Int), x3, x4, C.int .i64 ((((((((k + ((xs.take i).map (cnE THead)).sum) + 1) + 1) + 1) + cnE (.sl (.int .u8)) p_v3) + cnE (.sl (.int .u8)) p_v4) : Nat) : Int), C.int .i64 (((((((((k + ((xs.take i).map (cnE THead)).sum) + 1) + 1) + 1) + cnE (.sl (.int .u8)) p_v3) + cnE (.sl (.int .u8)) p_v4) + 1) : Nat) : Int), x7, x8, x9]) (post := post) hpl rfl (m := xs.length * 10) (by simpa using hme)
      rw [hs1] at hE
      rw [← ht] at hE
      exact hE
  · simp (disch := omega) only [c33, SQ, SU, SL, reduceCtorEq, Nat.reduceAdd, Nat.reduceLeDiff, reduceIte]
    have hi' : i = xs.length := by omega
    subst hi'
    rw [List.take_length]
    refine ⟨rfl, hw, ?_⟩
    by_cases hp : 0 < xs.length
    · obtain ⟨bs', hb1, hb2, he⟩ := hblk hp
      rw [mkd_all] at he
      refine ⟨_, rfl, ?_, .inr ⟨id, off, bs', S', _, ?_, cells_own hb1, ?_, ?_, ?_, .inl rfl⟩⟩
      · rw [mkL_len]; simp only [maxLen]; omega
      · rw [mkL_len]; rw [(hce hp).2]
      · rw [mkL_len, hb2, hs1]; exact hbs
      · rcases hS with e | ⟨e, _⟩
        · exact e
        · rw [e] at hp; simp at hp
      · rw [mkL_len]; exact he
    · have hx : xs = [] := List.eq_nil_of_length_eq_zero (by omega)
      subst hx
      rw [hz0 rfl]
      exact hv
/-- laws.markQc -/
def c47 : AF := ⟨2, 5, [.tmp 4], (.seq (.ops [.i (.lbox 2 (.s 0)), .i (.mov 4 (.c (.val false [.int .i64 0])))]) (.seq (.ops [.i (.fad 5 (.s 2) 2), .i (.ldl 6 2 (.s 5) 1 false), .i (.mov 7 (.s 1)), .i (.call 9 26 false [(.s 6), (.s 7)]), .i (.mov 1 (.s 8))]) (.seq (.ops [.i (.fad 9 (.s 2) 3), .i (.ldl 10 2 (.s 9) 1 false), .i (.mov 11 (.s 1)), .i (.call 13 26 false [(.s 10), (.s 11)]), .i (.mov 1 (.s 12))]) (.seq (.ops [.i (.fad 13 (.s 2) 4), .i (.ldl 14 2 (.s 13) 1 false), .i (.mov 15 (.s 1)), .i (.call 17 69 false [(.s 14), (.s 15)]), .i (.mov 1 (.s 16))]) (.seq (.ops [.i (.mov 17 (.s 1)), .i (.mov 4 (.s 17))]) .ret)))))⟩
theorem k47 : cd 47 = some c47 := by kernel_rfl
theorem mk_Qc : MkOk cd 47 TQc := by
  intro h cs v S k hv ho hk
  obtain ⟨vs, rfl, q0⟩ := hv.st
  obtain ⟨v0, r0, S0, T0, rfl, rfl, h0, q1⟩ := q0.step
  obtain ⟨n0, e0, rfl, rfl, lo0, hi0⟩ := h0.int
  obtain ⟨v1, r1, S1, T1, rfl, rfl, h1, q2⟩ := q1.step
  obtain ⟨n1, e1, rfl, rfl, lo1, hi1⟩ := h1.int
  obtain ⟨v2, r2, S2, T2, rfl, rfl, h2, q3⟩ := q2.step
  obtain ⟨c2, e2⟩ := h2.one rfl
  rw [e2] at h2
  obtain ⟨v3, r3, S3, T3, rfl, rfl, h3, q4⟩ := q3.step
  obtain ⟨c3, e3⟩ := h3.one rfl
  rw [e3] at h3
  obtain ⟨v4, r4, S4, T4, rfl, rfl, h4, q5⟩ := q4.step
  obtain ⟨c4, e4⟩ := h4.one rfl
  rw [e4] at h4
  obtain ⟨_, rfl, rfl⟩ := q5
  have hsz : cs.length = 5 := hv.size
  simp only [Ty.size, Ty.sizes, Nat.reduceAdd, Nat.zero_add, List.drop_zero] at e0 e1 e2 e3 e4 hsz
  have hcn : cnT TQc (.r [.i n0, .i n1, v2, v3, v4]) = (0 + (0 + (cnT (.sl (.int .u8)) v2 + (cnT (.sl (.int .u8)) v3 + (cnT (.sl (.sl (.int .u8))) v4 + 0))))) := rfl
  have hmk : mkT TQc (.r [.i n0, .i n1, v2, v3, v4]) k = .r [.i n0, .i n1, mkT (.sl (.int .u8)) v2 (k), mkT (.sl (.int .u8)) v3 (k + cnT (.sl (.int .u8)) v2), mkT (.sl (.sl (.int .u8))) v4 (k + cnT (.sl (.int .u8)) v2 + cnT (.sl (.int .u8)) v3)] := rfl
  rw [hmk]
  rw [hcn] at hk ⊢
  simp only [List.nil_append, List.append_nil] at ho ⊢
  obtain ⟨o2, ho2, x2, xx2⟩ := ho.split
  obtain ⟨o3, ho3, x3, xx3⟩ := ho2.split
  have o4 := ho3
  refine WS_enter k47 rfl ?_
  simp (disch := omega) only [KC_eq, c47, e0, e1, e2, e3, e4, hsz, ifT, w64, SQ, SU, SL, reduceCtorEq, Nat.reduceAdd, Nat.reduceLeDiff, reduceIte]
  refine MkOk.go mk_ByteS h2 o2 (k := k) (by omega) (fun g2 w2 z2 => ?_)
  simp (disch := omega) only [KC_eq, c47, e0, e1, e2, e3, e4, hsz, ifT, w64, SQ, SU, SL, reduceCtorEq, Nat.reduceAdd, Nat.reduceLeDiff, reduceIte]
  refine MkOk.go mk_ByteS (h3.wrote w2 (fun i hi => xx2 i (by simp [hi]))) (w2.ownd o3) (k := k + cnT (.sl (.int .u8)) v2) (by omega) (fun g3 w3 z3 => ?_)
  simp (disch := omega) only [KC_eq, c47, e0, e1, e2, e3, e4, hsz, ifT, w64, SQ, SU, SL, reduceCtorEq, Nat.reduceAdd, Nat.reduceLeDiff, reduceIte]
  refine MkOk.go mk_ByteSS ((h4.wrote w2 (fun i hi => xx2 i (by simp [hi]))).wrote w3 (fun i hi => xx3 i (by simp [hi]))) (w3.ownd (w2.ownd o4)) (k := k + cnT (.sl (.int .u8)) v2 + cnT (.sl (.int .u8)) v3) (by omega) (fun g4 w4 z4 => ?_)
  simp (disch := omega) only [KC_eq, c47, e0, e1, e2, e3, e4, hsz, ifT, w64, SQ, SU, SL, reduceCtorEq, Nat.reduceAdd, Nat.reduceLeDiff, reduceIte]
  have fin : Rs g4 [(.int .i64), (.int .i64), (.sl (.int .u8)), (.sl (.int .u8)), (.sl (.sl (.int .u8)))] (cs.drop 0) [.i n0, .i n1, mkT (.sl (.int .u8)) v2 (k), mkT (.sl (.int .u8)) v3 (k + cnT (.sl (.int .u8)) v2), mkT (.sl (.sl (.int .u8))) v4 (k + cnT (.sl (.int .u8)) v2 + cnT (.sl (.int .u8)) v3)] _ := (Rs.unstep (o := 0) (Rp.int_at e0 lo0 hi0) (Rs.unstep (o := 1) (Rp.int_at e1 lo1 hi1) (Rs.unstep (o := 2) (Rp.cs_at e2 ((z2.wrote w3 (fun i hi hn => x2 i hi (by simp [hn]))).wrote w4 (fun i hi hn => x2 i hi (by simp [hn])))) (Rs.unstep (o := 3) (Rp.cs_at e3 (z3.wrote w4 (fun i hi hn => x3 i hi (by simp [hn])))) (Rs.unstep (o := 4) (Rp.cs_at e4 z4) (Rs.fin (Nat.le_of_eq hsz)))))))
  simp only [List.nil_append, List.append_nil, List.drop_zero] at fin
  have wr := ((((Wrote.refl ho.2).more w2 (fun i hi => by simp [hi])).more w3 (fun i hi => by simp [hi])).more w4 (fun i hi => by simp [hi]))
  first
    | exact ⟨wr, _, rfl, fin⟩
    | (refine ⟨?_, wr, _, rfl, fin⟩
       congr 3
       omega)
/-- laws.markProof -/
def c34 : AF := ⟨2, 4, [.tmp 4], (.seq (.ops [.i (.lbox 2 (.s 0)), .i (.mov 4 (.c (.val false [.int .i64 0])))]) (.seq (.ops [.i (.fad 5 (.s 2) 0), .i (.ldl 6 2 (.s 5) 1 false), .i (.mov 7 (.s 1)), .i (.call 9 33 false [(.s 6), (.s 7)]), .i (.mov 1 (.s 8))]) (.seq (.ops [.i (.fad 9 (.s 2) 1), .i (.ldl 10 2 (.s 9) 5 true), .i (.mov 11 (.s 1)), .i (.call 13 47 false [(.s 10), (.s 11)]), .i (.mov 1 (.s 12))]) (.seq (.ops [.i (.mov 13 (.s 1)), .i (.mov 4 (.s 13))]) .ret))))⟩
theorem k34 : cd 34 = some c34 := by kernel_rfl
theorem mk_Proof : MkOk cd 34 TProof := by
  intro h cs v S k hv ho hk
  obtain ⟨vs, rfl, q0⟩ := hv.st
  obtain ⟨v0, r0, S0, T0, rfl, rfl, h0, q1⟩ := q0.step
  obtain ⟨c0, e0⟩ := h0.one rfl
  rw [e0] at h0
  obtain ⟨v1, r1, S1, T1, rfl, rfl, h1, q2⟩ := q1.step
  obtain ⟨_, rfl, rfl⟩ := q2
  have hsz : cs.length = 6 := hv.size
  simp only [Ty.size, Ty.sizes, Nat.reduceAdd, Nat.zero_add, List.drop_zero] at e0 hsz h1
  have hcn : cnT TProof (.r [v0, v1]) = (cnT (.sl THead) v0 + (cnT TQc v1 + 0)) := rfl
  have hmk : mkT TProof (.r [v0, v1]) k = .r [mkT (.sl THead) v0 (k), mkT TQc v1 (k + cnT (.sl THead) v0)] := rfl
  rw [hmk]
  rw [hcn] at hk ⊢
  simp only [List.nil_append, List.append_nil] at ho ⊢
  obtain ⟨o0, ho0, x0, xx0⟩ := ho.split
  have o1 := ho0
  refine WS_enter k34 rfl ?_
  simp (disch := omega) only [KC_eq, c34, e0, hsz, ifT, w64, SQ, SU, SL, reduceCtorEq, Nat.reduceAdd, Nat.reduceLeDiff, reduceIte]
  refine MkOk.go mk_HeadS h0 o0 (k := k) (by omega) (fun g0 w0 z0 => ?_)
  simp (disch := omega) only [KC_eq, c34, e0, hsz, ifT, w64, SQ, SU, SL, reduceCtorEq, Nat.reduceAdd, Nat.reduceLeDiff, reduceIte]
  refine MkOk.go mk_Qc (h1.wrote w0 (fun i hi => xx0 i (by simp [hi]))) (w0.ownd o1) (k := k + cnT (.sl THead) v0) (by omega) (fun g1 w1 z1 => ?_)
  simp (disch := omega) only [KC_eq, c34, e0, hsz, ifT, w64, SQ, SU, SL, reduceCtorEq, Nat.reduceAdd, Nat.reduceLeDiff, reduceIte]
  have fin : Rs g1 [(.sl THead), TQc] (cs.drop 0) [mkT (.sl THead) v0 (k), mkT TQc v1 (k + cnT (.sl THead) v0)] _ := (Rs.unstep (o := 0) (Rp.cs_at e0 (z0.wrote w1 (fun i hi hn => x0 i hi (by simp [hn])))) (Rs.unstep (o := 1) z1 (Rs.fin (Nat.le_of_eq hsz))))
  simp only [List.nil_append, List.append_nil, List.drop_zero] at fin
  have wr := (((Wrote.refl ho.2).more w0 (fun i hi => by simp [hi])).more w1 (fun i hi => by simp [hi]))
  first
    | exact ⟨wr, _, rfl, fin⟩
    | (refine ⟨?_, wr, _, rfl, fin⟩
       congr 3
       omega)
/-- laws.heldByteS -/
def c48 : AF := ⟨2, 5, [.tmp 4], (.seq (.ops [.i (.mov 4 (.c (.val false [.int .i64 0])))]) (.seq (.seq (.ops [.i (.mov 5 (.c (.val false [.int .i64 0])))]) (.block 0 (.loop [20, 19, 18, 17, 16, 15, 14, 13, 12, 11, 10, 9, 8, 7, 6] (.seq (.seq (.ops [.i (.mov 6 (.s 5)), .i (.mov 7 (.s 0)), .i (.len 8 false (.s 7)), .i (.bin 9 .lss (.s 6) (.s 8))]) (.cond (.s 9) .skip (.exit 0))) (.seq (.block 1 (.seq (.seq (.ops [.i (.mov 12 (.s 0)), .i (.mov 13 (.s 5)), .i (.iad 14 (.s 12) (.s 13) 1), .i (.ldh 15 (.s 14) 1 false), .i (.mov 16 (.s 1)), .i (.cvi 17 .u8 (.s 16)), .i (.bin 18 .neq (.s 15) (.s 17))]) (.cond (.s 18) (.seq (.ops [.i (.mov 4 (.c (.val false [.int .i64 (-1)])))]) .ret) .skip)) (.ops [.i (.mov 19 (.s 1)), .i (.bin 20 .add (.s 19) (.c (.val false [.int .i64 1]))), .i (.mov 1 (.s 20))]))) (.ops [.i (.mov 10 (.s 5)), .i (.bin 11 .add (.s 10) (.c (.val false [.int .i64 1]))), .i (.mov 5 (.s 11))])))))) (.seq (.ops [.i (.mov 21 (.s 1)), .i (.mov 4 (.s 21))]) .ret)))⟩
theorem k48 : cd 48 = some c48 := by kernel_rfl
theorem hd_ByteS : HdOk cd 48 (.sl (.int .u8)) := hd_leaf k48
/-- laws.heldByteSS -/
def c80 : AF := ⟨2, 5, [.tmp 4], (.seq (.ops [.i (.mov 4 (.c (.val false [.int .i64 0])))]) (.seq (.seq (.ops [.i (.mov 5 (.c (.val false [.int .i64 0])))]) (.block 0 (.loop [19, 18, 17, 16, 15, 14, 13, 12, 11, 10, 9, 8, 7, 6] (.seq (.seq (.ops [.i (.mov 6 (.s 5)), .i (.mov 7 (.s 0)), .i (.len 8 false (.s 7)), .i (.bin 9 .lss (.s 6) (.s 8))]) (.cond (.s 9) .skip (.exit 0))) (.seq (.block 1 (.seq (.ops [.i (.mov 12 (.s 0)), .i (.mov 13 (.s 5)), .i (.iad 14 (.s 12) (.s 13) 1), .i (.ldh 15 (.s 14) 1 false), .i (.mov 16 (.s 1)), .i (.call 18 48 false [(.s 15), (.s 16)]), .i (.mov 1 (.s 17))]) (.seq (.ops [.i (.mov 18 (.s 1)), .i (.bin 19 .lss (.s 18) (.c (.val false [.int .i64 0])))]) (.cond (.s 19) (.seq (.ops [.i (.mov 4 (.c (.val false [.int .i64 (-1)])))]) .ret) .skip)))) (.ops [.i (.mov 10 (.s 5)), .i (.bin 11 .add (.s 10) (.c (.val false [.int .i64 1]))), .i (.mov 5 (.s 11))])))))) (.seq (.ops [.i (.mov 20 (.s 1)), .i (.mov 4 (.s 20))]) .ret)))⟩
theorem k80 : cd 80 = some c80 := by kernel_rfl
theorem hd_ByteSS : HdOk cd 80 (.sl (.sl (.int .u8))) := hd_sl k80 hd_ByteS
/-- laws.heldHeadS -/
def c70 : AF := ⟨2, 7, [.tmp 4], (.seq (.ops [.i (.mov 4 (.c (.val false [.int .i64 0])))]) (.seq (.seq (.ops [.i (.mov 5 (.c (.val false [.int .i64 0])))]) (.block 0 (.loop [106, 105, 104, 103, 102, 101, 100, 99, 98, 97, 96, 95, 94, 93, 92, 91, 90, 89, 88, 87, 86, 85, 84, 83, 82, 81, 80, 79, 78, 77, 76, 75, 74, 73, 72, 71, 70, 69, 68, 67, 66, 65, 64, 63, 62, 61, 60, 59, 58, 57, 56, 55, 54, 53, 52, 51, 50, 49, 48, 47, 46, 45, 44, 43, 42, 41, 40, 39, 38, 37, 36, 35, 34, 33, 32, 31, 30, 29, 28, 27, 26, 25, 24, 23, 22, 21, 20, 19, 18, 17, 16, 15, 14, 13, 12, 11, 10, 9, 8, 7, 6] (.seq (.seq (.ops [.i (.mov 6 (.s 5)), .i (.mov 7 (.s 0)), .i (.len 8 false (.s 7)), .i (.bin 9 .lss (.s 6) (.s 8))]) (.cond (.s 9) .skip (.exit 0))) (.seq (.block 1 (.seq (.seq (.ops [.i (.mov 12 (.s 0)), .i (.mov 13 (.s 5)), .i (.iad 14 (.s 12) (.s 13) 10), .i (.fad 15 (.s 14) 0), .i (.ldh 16 (.s 15) 1 false), .i (.mov 17 (.s 1)), .i (.bin 18 .neq (.s 16) (.s 17))]) (.cond (.s 18) (.seq (.ops [.i (.mov 4 (.c (.val false [.int .i64 (-1)])))]) .ret) .skip)) (.seq (.ops [.i (.mov 19 (.s 1)), .i (.bin 20 .add (.s 19) (.c (.val false [.int .i64 1]))), .i (.mov 1 (.s 20))]) (.seq (.seq (.ops [.i (.mov 21 (.s 0)), .i (.mov 22 (.s 5)), .i (.iad 23 (.s 21) (.s 22) 10), .i (.fad 24 (.s 23) 1), .i (.ldh 25 (.s 24) 1 false), .i (.mov 26 (.s 1)), .i (.bin 27 .neq (.s 25) (.s 26))]) (.cond (.s 27) (.seq (.ops [.i (.mov 4 (.c (.val false [.int .i64 (-1)])))]) .ret) .skip)) (.seq (.ops [.i (.mov 28 (.s 1)), .i (.bin 29 .add (.s 28) (.c (.val false [.int .i64 1]))), .i (.mov 1 (.s 29))]) (.seq (.seq (.ops [.i (.mov 30 (.s 0)), .i (.mov 31 (.s 5)), .i (.iad 32 (.s 30) (.s 31) 10), .i (.fad 33 (.s 32) 2), .i (.ldh 34 (.s 33) 1 false), .i (.mov 35 (.s 1)), .i (.bin 36 .neq (.s 34) (.s 35))]) (.cond (.s 36) (.seq (.ops [.i (.mov 4 (.c (.val false [.int .i64 (-1)])))]) .ret) .skip)) (.seq (.ops [.i (.mov 37 (.s 1)), .i (.bin 38 .add (.s 37) (.c (.val false [.int .i64 1]))), .i (.mov 1 (.s 38))]) (.seq (.ops [.i (.mov 39 (.s 0)), .i (.mov 40 (.s 5)), .i (.iad 41 (.s 39) (.s 40) 10), .i (.fad 42 (.s 41) 3), .i (.ldh 43 (.s 42) 1 false), .i (.mov 44 (.s 1)), .i (.call 46 48 false [(.s 43), (.s 44)]), .i (.mov 1 (.s 45))]) (.seq (.seq (.ops [.i (.mov 46 (.s 1)), .i (.bin 47 .lss (.s 46) (.c (.val false [.int .i64 0])))]) (.cond (.s 47) (.seq (.ops [.i (.mov 4 (.c (.val false [.int .i64 (-1)])))]) .ret) .skip)) (.seq (.ops [.i (.mov 48 (.s 0)), .i (.mov 49 (.s 5)), .i (.iad 50 (.s 48) (.s 49) 10), .i (.fad 51 (.s 50) 4), .i (.ldh 52 (.s 51) 1 false), .i (.mov 53 (.s 1)), .i (.call 55 48 false [(.s 52), (.s 53)]), .i (.mov 1 (.s 54))]) (.seq (.seq (.ops [.i (.mov 55 (.s 1)), .i (.bin 56 .lss (.s 55) (.c (.val false [.int .i64 0])))]) (.cond (.s 56) (.seq (.ops [.i (.mov 4 (.c (.val false [.int .i64 (-1)])))]) .ret) .skip)) (.seq (.seq (.ops [.i (.mov 57 (.s 0)), .i (.mov 58 (.s 5)), .i (.iad 59 (.s 57) (.s 58) 10), .i (.fad 60 (.s 59) 5), .i (.fad 61 (.s 60) 0), .i (.ldh 62 (.s 61) 1 false), .i (.mov 63 (.s 1)), .i (.bin 64 .neq (.s 62) (.s 63))]) (.cond (.s 64) (.seq (.ops [.i (.mov 4 (.c (.val false [.int .i64 (-1)])))]) .ret) .skip)) (.seq (.ops [.i (.mov 65 (.s 1)), .i (.bin 66 .add (.s 65) (.c (.val false [.int .i64 1]))), .i (.mov 1 (.s 66))]) (.seq (.seq (.ops [.i (.mov 67 (.s 0)), .i (.mov 68 (.s 5)), .i (.iad 69 (.s 67) (.s 68) 10), .i (.fad 70 (.s 69) 5), .i (.fad 71 (.s 70) 1), .i (.ldh 72 (.s 71) 1 false), .i (.mov 73 (.s 1)), .i (.bin 74 .neq (.s 72) (.s 73))]) (.cond (.s 74) (.seq (.ops [.i (.mov 4 (.c (.val false [.int .i64 (-1)])))]) .ret) .skip)) (.seq (.ops [.i (.mov 75 (.s 1)), .i (.bin 76 .add (.s 75) (.c (.val false [.int .i64 1]))), .i (.mov 1 (.s 76))]) (.seq (.ops [.i (.mov 77 (.s 0)), .i (.mov 78 (.s 5)), .i (.iad 79 (.s 77) (.s 78) 10), .i (.fad 80 (.s 79) 5), .i (.fad 81 (.s 80) 2), .i (.ldh 82 (.s 81) 1 false), .i (.mov 83 (.s 1)), .i (.call 85 48 false [(.s 82), (.s 83)]), .i (.mov 1 (.s 84))]) (.seq (.seq (.ops [.i (.mov 85 (.s 1)), .i (.bin 86 .lss (.s 85) (.c (.val false [.int .i64 0])))]) (.cond (.s 86) (.seq (.ops [.i (.mov 4 (.c (.val false [.int .i64 (-1)])))]) .ret) .skip)) (.seq (.ops [.i (.mov 87 (.s 0)), .i (.mov 88 (.s 5)), .i (.iad 89 (.s 87) (.s 88) 10), .i (.fad 90 (.s 89) 5), .i (.fad 91 (.s 90) 3), .i (.ldh 92 (.s 91) 1 false), .i (.mov 93 (.s 1)), .i (.call 95 48 false [(.s 92), (.s 93)]), .i (.mov 1 (.s 94))]) (.seq (.seq (.ops [.i (.mov 95 (.s 1)), .i (.bin 96 .lss (.s 95) (.c (.val false [.int .i64 0])))]) (.cond (.s 96) (.seq (.ops [.i (.mov 4 (.c (.val false [.int .i64 (-1)])))]) .ret) .skip)) (.seq (.ops [.i (.mov 97 (.s 0)), .i (.mov 98 (.s 5)), .i (.iad 99 (.s 97) (.s 98) 10), .i (.fad 100 (.s 99) 5), .i (.fad 101 (.s 100) 4), .i (.ldh 102 (.s 101) 1 false), .i (.mov 103 (.s 1)), .i (.call 105 80 false [(.s 102), (.s 103)]), .i (.mov 1 (.s 104))]) (.seq (.ops [.i (.mov 105 (.s 1)), .i (.bin 106 .lss (.s 105) (.c (.val false [.int .i64 0])))]) (.cond (.s 106) (.seq (.ops [.i (.mov 4 (.c (.val false [.int .i64 (-1)])))]) .ret) .skip)))))))))))))))))))))) (.ops [.i (.mov 10 (.s 5)), .i (.bin 11 .add (.s 10) (.c (.val false [.int .i64 1]))), .i (.mov 5 (.s 11))])))))) (.seq (.ops [.i (.mov 107 (.s 1)), .i (.mov 4 (.s 107))]) .ret)))⟩
theorem k70 : cd 70 = some c70 := by kernel_rfl
end Go.Eng.U
set_option maxRecDepth 100000
set_option linter.unusedSimpArgs false
set_option linter.unusedVariables false
namespace Go.Eng.U
theorem hd_HeadS : HdOk cd 70 (.sl THead) := by
  intro h cs v S k hT hv hk
  by_cases hsl : ∃ xs, v = .l xs
  case neg =>
    obtain ⟨xs, e, _⟩ := hv.sl
    cases v <;> simp [mkT] at e
    exact absurd ⟨_, rfl⟩ hsl
  obtain ⟨zs, rfl⟩ := hsl
  have hTe : ∀ i (hi : i < zs.length), Tvd THead zs[i] := fun i hi => by
    obtain ⟨h0, cs0, S0, hT⟩ := hT
    obtain ⟨_, ys, _, _, _, _, _, e, _, _, _, _, _, hel0, _⟩ := hT.view
    simp at e
    subst e
    obtain ⟨Si, hx⟩ := hel0.at hi
    exact ⟨_, _, _, hx⟩
  obtain ⟨c, xs, id, off, bs, S', rfl, hxs, hm, hl, hat, hce, hbs, hel, hS⟩ := hv.view
  have hcn : cnT (.sl THead) (.l zs) = (zs.map (cnE THead)).sum := rfl
  rw [hcn] at hk ⊢
  have hxs' : xs = mkL (mkE THead) (cnE THead) zs k := by
    have e : mkT (.sl THead) (.l zs) k = .l (mkL (mkE THead) (cnE THead) zs k) := rfl
    rw [e] at hxs
    exact (by simpa using hxs.symm)
  have hlen : xs.length = zs.length := by rw [hxs', mkL_len]
  have hs1 : THead.size = 10 := rfl
  rw [hs1] at hat hbs
  refine WS_enter k70 rfl ?_
  simp (disch := omega) only [c70, SQ, SU, SL, reduceCtorEq, Nat.reduceAdd, Nat.reduceLeDiff, reduceIte]
  refine WS_loop2 (σ := Nat) (f1 := _) (by simp only [SQ, SU, SL, reduceCtorEq, Nat.reduceAdd, Nat.reduceLeDiff, reduceIte]; rfl) (fun i => [(5, .val false [.int .i64 i]), (1, .val false [.int .i64 ((k + ((zs.take i).map (cnE THead)).sum : Nat) : Int)])])
    (fun i g h' => g = xs.length - i ∧ i ≤ xs.length ∧ h' = h) 0 xs.length (by simp only [List.take_zero, List.map_nil, List.sum_nil, SQ, SU, SL, reduceCtorEq, Nat.reduceAdd, Nat.reduceLeDiff, reduceIte]; rfl) ⟨by omega, by omega, rfl⟩ ?_
  rintro i g h' ⟨hg, hi, rfl⟩
  simp (disch := omega) only [c70, hl, w64, SQ, SU, SL, reduceCtorEq, Nat.reduceAdd, Nat.reduceLeDiff, reduceIte]
  refine BR_dec (fun hlt => ?_) (fun hlt => ?_)
  · have hix : i < xs.length := by omega
    have hiz : i < zs.length := by omega
    have hsi := sum_take (g := cnE THead) (List.getElem?_eq_getElem hiz)
    have hsl := sum_le (g := cnE THead) zs (i + 1)
    have hfit : off + i * 10 + 10 ≤ bs.length := by
      have := Nat.mul_le_mul_right 10 hix
      rw [Nat.succ_mul] at this
      omega
    obtain ⟨Si, k1⟩ := hel.at hix
    have hxi : xs[i] = mkE THead zs[i] (k + ((zs.take i).map (cnE THead)).sum) := by
      have e1 : xs[i]? = some (mkE THead zs[i] (k + ((zs.take i).map (cnE THead)).sum)) := by
        rw [hxs']
        have e2 : zs = zs.take i ++ zs[i] :: zs.drop (i + 1) := by rw [← List.drop_eq_getElem_cons hiz, List.take_append_drop]
        conv => lhs; rw [e2, mkL_app, mkL]
        have hl2 : (mkL (mkE THead) (cnE THead) (zs.take i) k).length = i := by rw [mkL_len, List.length_take]; omega
        rw [List.getElem?_append_right (by omega), hl2, Nat.sub_self, List.getElem?_cons_zero]
      rw [List.getElem?_eq_getElem hix] at e1
      simpa using e1
    rw [hs1] at k1
    obtain ⟨x0, x1, x2, x3, x4, x5, x6, x7, x8, x9, hx⟩ := len_10 k1.size
    rw [hx] at k1
    obtain ⟨pre, post, hpl, rfl⟩ := around hx hfit
    have hat' := hat i hix
    rw [← hpl] at hat'
    have hcb := (hce (by omega)).1
    obtain ⟨h0_, cs0_, S0_, hTi⟩ := hTe i hiz
    obtain ⟨w_vs, w_hv, w_q0⟩ := hTi.st
    obtain ⟨w_v0, w_r0, w_S0, w_T0, rfl, w_e0, w_h0, w_q1⟩ := w_q0.step
    obtain ⟨m0, _, rfl, _, _, _⟩ := w_h0.int
    obtain ⟨w_v1, w_r1, w_S1, w_T1, rfl, w_e1, w_h1, w_q2⟩ := w_q1.step
    obtain ⟨m1, _, rfl, _, _, _⟩ := w_h1.int
    obtain ⟨w_v2, w_r2, w_S2, w_T2, rfl, w_e2, w_h2, w_q3⟩ := w_q2.step
    obtain ⟨m2, _, rfl, _, _, _⟩ := w_h2.int
    obtain ⟨w_v3, w_r3, w_S3, w_T3, rfl, w_e3, w_h3, w_q4⟩ := w_q3.step
    obtain ⟨w_v4, w_r4, w_S4, w_T4, rfl, w_e4, w_h4, w_q5⟩ := w_q4.step
    obtain ⟨w_v5, w_r5, w_S5, w_T5, rfl, w_e5, w_h5, w_q6⟩ := w_q5.step
    obtain ⟨w5_vs, w5_hv, w5_q0⟩ := w_h5.st
    obtain ⟨w5_v0, w5_r0, w5_S0, w5_T0, rfl, w5_e0, w5_h0, w5_q1⟩ := w5_q0.step
    obtain ⟨m5, _, rfl, _, _, _⟩ := w5_h0.int
    obtain ⟨w5_v1, w5_r1, w5_S1, w5_T1, rfl, w5_e1, w5_h1, w5_q2⟩ := w5_q1.step
    obtain ⟨m6, _, rfl, _, _, _⟩ := w5_h1.int
    obtain ⟨w5_v2, w5_r2, w5_S2, w5_T2, rfl, w5_e2, w5_h2, w5_q3⟩ := w5_q2.step
    obtain ⟨w5_v3, w5_r3, w5_S3, w5_T3, rfl, w5_e3, w5_h3, w5_q4⟩ := w5_q3.step
    obtain ⟨w5_v4, w5_r4, w5_S4, w5_T4, rfl, w5_e4, w5_h4, w5_q5⟩ := w5_q4.step
    obtain ⟨_, rfl, _⟩ := w5_q5
    subst w5_hv
    obtain ⟨_, rfl, _⟩ := w_q6
    have hzi : zs[i] = .r [.i m0, .i m1, .i m2, w_v3, w_v4, .r [.i m5, .i m6, w5_v2, w5_v3, w5_v4]] := w_hv
    have hmkE : xs[i] = .r [.i (IntKind.i64.wrap (((k + ((zs.take i).map (cnE THead)).sum) : Nat) : Int)), .i (IntKind.i64.wrap ((((k + ((zs.take i).map (cnE THead)).sum) + 1) : Nat) : Int)), .i (IntKind.i64.wrap (((((k + ((zs.take i).map (cnE THead)).sum) + 1) + 1) : Nat) : Int)), mkE (.sl (.int .u8)) w_v3 (((((k + ((zs.take i).map (cnE THead)).sum) + 1) + 1) + 1)), mkE (.sl (.int .u8)) w_v4 ((((((k + ((zs.take i).map (cnE THead)).sum) + 1) + 1) + 1) + cnE (.sl (.int .u8)) w_v3)), .r [.i (IntKind.i64.wrap ((((((((k + ((zs.take i).map (cnE THead)).sum) + 1) + 1) + 1) + cnE (.sl (.int .u8)) w_v3) + cnE (.sl (.int .u8)) w_v4) : Nat) : Int)), .i (IntKind.i64.wrap (((((((((k + ((zs.take i).map (cnE THead)).sum) + 1) + 1) + 1) + cnE (.sl (.int .u8)) w_v3) + cnE (.sl (.int .u8)) w_v4) + 1) : Nat) : Int)), mkE (.sl (.int .u8)) w5_v2 (((((((((k + ((zs.take i).map (cnE THead)).sum) + 1) + 1) + 1) + cnE (.sl (.int .u8)) w_v3) + cnE (.sl (.int .u8)) w_v4) + 1) + 1)), mkE (.sl (.int .u8)) w5_v3 ((((((((((k + ((zs.take i).map (cnE THead)).sum) + 1) + 1) + 1) + cnE (.sl (.int .u8)) w_v3) + cnE (.sl (.int .u8)) w_v4) + 1) + 1) + cnE (.sl (.int .u8)) w5_v2)), mkE (.sl (.sl (.int .u8))) w5_v4 (((((((((((k + ((zs.take i).map (cnE THead)).sum) + 1) + 1) + 1) + cnE (.sl (.int .u8)) w_v3) + cnE (.sl (.int .u8)) w_v4) + 1) + 1) + cnE (.sl (.int .u8)) w5_v2) + cnE (.sl (.int .u8)) w5_v3))]] := by rw [hxi, hzi]; rfl
    have hcne : cnE THead zs[i] = (1 + (1 + (1 + (cnE (.sl (.int .u8)) w_v3 + (cnE (.sl (.int .u8)) w_v4 + ((1 + (1 + (cnE (.sl (.int .u8)) w5_v2 + (cnE (.sl (.int .u8)) w5_v3 + (cnE (.sl (.sl (.int .u8))) w5_v4 + 0))))) + 0)))))) := by rw [hzi]; rfl
    rw [hcne] at hsi
    obtain ⟨p_vs, p_hv, p_q0⟩ := k1.st
    obtain ⟨p_v0, p_r0, p_S0, p_T0, rfl, rfl, p_h0, p_q1⟩ := p_q0.step
    simp only [Ty.size, Ty.sizes, Nat.reduceAdd, Nat.zero_add, List.drop_zero, List.drop_succ_cons, List.take_succ_cons, List.take_zero] at p_h0
    obtain ⟨n0, e0, rfl, rfl, lo0, hi0⟩ := p_h0.int
    simp only [List.cons.injEq, and_true] at e0
    subst e0
    obtain ⟨p_v1, p_r1, p_S1, p_T1, rfl, rfl, p_h1, p_q2⟩ := p_q1.step
    simp only [Ty.size, Ty.sizes, Nat.reduceAdd, Nat.zero_add, List.drop_zero, List.drop_succ_cons, List.take_succ_cons, List.take_zero] at p_h1
    obtain ⟨n1, e1, rfl, rfl, lo1, hi1⟩ := p_h1.int
    simp only [List.cons.injEq, and_true] at e1
    subst e1
    obtain ⟨p_v2, p_r2, p_S2, p_T2, rfl, rfl, p_h2, p_q3⟩ := p_q2.step
    simp only [Ty.size, Ty.sizes, Nat.reduceAdd, Nat.zero_add, List.drop_zero, List.drop_succ_cons, List.take_succ_cons, List.take_zero] at p_h2
    obtain ⟨n2, e2, rfl, rfl, lo2, hi2⟩ := p_h2.int
    simp only [List.cons.injEq, and_true] at e2
    subst e2
    obtain ⟨p_v3, p_r3, p_S3, p_T3, rfl, rfl, p_h3, p_q4⟩ := p_q3.step
    simp only [Ty.size, Ty.sizes, Nat.reduceAdd, Nat.zero_add, List.drop_zero, List.drop_succ_cons, List.take_succ_cons, List.take_zero] at p_h3
    have h3 := p_h3
    obtain ⟨p_v4, p_r4, p_S4, p_T4, rfl, rfl, p_h4, p_q5⟩ := p_q4.step
    simp only [Ty.size, Ty.sizes, Nat.reduceAdd, Nat.zero_add, List.drop_zero, List.drop_succ_cons, List.take_succ_cons, List.take_zero] at p_h4
    have h4 := p_h4
    obtain ⟨p_v5, p_r5, p_S5, p_T5, rfl, rfl, p_h5, p_q6⟩ := p_q5.step
    simp only [Ty.size, Ty.sizes, Nat.reduceAdd, Nat.zero_add, List.drop_zero, List.drop_succ_cons, List.take_succ_cons, List.take_zero] at p_h5
    obtain ⟨p5_vs, p5_hv, p5_q0⟩ := p_h5.st
    obtain ⟨p5_v0, p5_r0, p5_S0, p5_T0, rfl, rfl, p5_h0, p5_q1⟩ := p5_q0.step
    simp only [Ty.size, Ty.sizes, Nat.reduceAdd, Nat.zero_add, List.drop_zero, List.drop_succ_cons, List.take_succ_cons, List.take_zero] at p5_h0
    obtain ⟨n5, e5, rfl, rfl, lo5, hi5⟩ := p5_h0.int
    simp only [List.cons.injEq, and_true] at e5
    subst e5
    obtain ⟨p5_v1, p5_r1, p5_S1, p5_T1, rfl, rfl, p5_h1, p5_q2⟩ := p5_q1.step
    simp only [Ty.size, Ty.sizes, Nat.reduceAdd, Nat.zero_add, List.drop_zero, List.drop_succ_cons, List.take_succ_cons, List.take_zero] at p5_h1
    obtain ⟨n6, e6, rfl, rfl, lo6, hi6⟩ := p5_h1.int
    simp only [List.cons.injEq, and_true] at e6
    subst e6
    obtain ⟨p5_v2, p5_r2, p5_S2, p5_T2, rfl, rfl, p5_h2, p5_q3⟩ := p5_q2.step
    simp only [Ty.size, Ty.sizes, Nat.reduceAdd, Nat.zero_add, List.drop_zero, List.drop_succ_cons, List.take_succ_cons, List.take_zero] at p5_h2
    have h7 := p5_h2
    obtain ⟨p5_v3, p5_r3, p5_S3, p5_T3, rfl, rfl, p5_h3, p5_q4⟩ := p5_q3.step
    simp only [Ty.size, Ty.sizes, Nat.reduceAdd, Nat.zero_add, List.drop_zero, List.drop_succ_cons, List.take_succ_cons, List.take_zero] at p5_h3
    have h8 := p5_h3
    obtain ⟨p5_v4, p5_r4, p5_S4, p5_T4, rfl, rfl, p5_h4, p5_q5⟩ := p5_q4.step
    simp only [Ty.size, Ty.sizes, Nat.reduceAdd, Nat.zero_add, List.drop_zero, List.drop_succ_cons, List.take_succ_cons, List.take_zero] at p5_h4
    have h9 := p5_h4
    obtain ⟨_, rfl, rfl⟩ := p5_q5
    subst p5_hv
    obtain ⟨_, rfl, rfl⟩ := p_q6
    have heq := hmkE.symm.trans p_hv
    simp only [Tv.r.injEq, List.cons.injEq, Tv.i.injEq, and_true, and_assoc] at heq
    obtain ⟨a0, a1, a2, a3, a4, a5, a6, a7, a8, a9⟩ := heq
    rw [← a3] at h3
    rw [← a4] at h4
    rw [← a7] at h7
    rw [← a8] at h8
    rw [← a9] at h9
    simp (disch := omega) only [KC_eq, c70, hl, hat', hcb, pre_get3, pre_get2, pre_get, pre_get0, List.length_append, List.cons_append, List.nil_append, ifT, w64, cnE_sl, cast1, SQ, SU, SL, reduceCtorEq, Nat.reduceAdd, Nat.reduceLeDiff, reduceIte]
    refine BR_dec (fun hn => absurd (by rw [← a0, w64 (by omega) (by omega)]) hn) (fun hn => ?_)
    simp (disch := omega) only [KC_eq, c70, hl, hat', hcb, pre_get3, pre_get2, pre_get, pre_get0, List.length_append, List.cons_append, List.nil_append, ifT, w64, cnE_sl, cast1, SQ, SU, SL, reduceCtorEq, Nat.reduceAdd, Nat.reduceLeDiff, reduceIte]
    refine BR_dec (fun hn => absurd (by rw [← a1, w64 (by omega) (by omega)]) hn) (fun hn => ?_)
    simp (disch := omega) only [KC_eq, c70, hl, hat', hcb, pre_get3, pre_get2, pre_get, pre_get0, List.length_append, List.cons_append, List.nil_append, ifT, w64, cnE_sl, cast1, SQ, SU, SL, reduceCtorEq, Nat.reduceAdd, Nat.reduceLeDiff, reduceIte]
    refine BR_dec (fun hn => absurd (by rw [← a2, w64 (by omega) (by omega)]) hn) (fun hn => ?_)
    simp (disch := omega) only [KC_eq, c70, hl, hat', hcb, pre_get3, pre_get2, pre_get, pre_get0, List.length_append, List.cons_append, List.nil_append, ifT, w64, cnE_sl, cast1, SQ, SU, SL, reduceCtorEq, Nat.reduceAdd, Nat.reduceLeDiff, reduceIte]
    rw [← mkE_sl] at h3
    refine HdOk.go hd_ByteS ⟨_, _, _, w_h3⟩ h3 (k := ((((k + ((zs.take i).map (cnE THead)).sum) + 1) + 1) + 1)) (by rw [cnE_sl]; omega) ?_
    simp (disch := omega) only [KC_eq, c70, hl, hat', hcb, pre_get3, pre_get2, pre_get, pre_get0, List.length_append, List.cons_append, List.nil_append, ifT, w64, cnE_sl, cast1, SQ, SU, SL, reduceCtorEq, Nat.reduceAdd, Nat.reduceLeDiff, reduceIte]
    refine BR_dec (fun hn => absurd hn (by omega)) (fun hn => ?_)
    simp (disch := omega) only [KC_eq, c70, hl, hat', hcb, pre_get3, pre_get2, pre_get, pre_get0, List.length_append, List.cons_append, List.nil_append, ifT, w64, cnE_sl, cast1, SQ, SU, SL, reduceCtorEq, Nat.reduceAdd, Nat.reduceLeDiff, reduceIte]
    rw [← mkE_sl] at h4
    refine HdOk.go hd_ByteS ⟨_, _, _, w_h4⟩ h4 (k := (((((k + ((zs.take i).map (cnE THead)).sum) + 1) + 1) + 1) + cnE (.sl (.int .u8)) w_v3)) (by rw [cnE_sl]; omega) ?_
    simp (disch := omega) only [KC_eq, c70, hl, hat', hcb, pre_get3, pre_get2, pre_get, pre_get0, List.length_append, List.cons_append, List.nil_append, ifT, w64, cnE_sl, cast1, SQ, SU, SL, reduceCtorEq, Nat.reduceAdd, Nat.reduceLeDiff, reduceIte]
    refine BR_dec (fun hn => absurd hn (by omega)) (fun hn => ?_)
    simp (disch := omega) only [KC_eq, c70, hl, hat', hcb, pre_get3, pre_get2, pre_get, pre_get0, List.length_append, List.cons_append, List.nil_append, ifT, w64, cnE_sl, cast1, SQ, SU, SL, reduceCtorEq, Nat.reduceAdd, Nat.reduceLeDiff, reduceIte]
    refine BR_dec (fun hn => absurd (by rw [← a5, w64 (by omega) (by omega)]) hn) (fun hn => ?_)
    simp (disch := omega) only [KC_eq, c70, hl, hat', hcb, pre_get3, pre_get2, pre_get, pre_get0, List.length_append, List.cons_append, List.nil_append, ifT, w64, cnE_sl, cast1, SQ, SU, SL, reduceCtorEq, Nat.reduceAdd, Nat.reduceLeDiff, reduceIte]
    refine BR_dec (fun hn => absurd (by rw [← a6, w64 (by omega) (by omega)]) hn) (fun hn => ?_)
    simp (disch := omega) only [KC_eq, c70, hl, hat', hcb, pre_get3, pre_get2, pre_get, pre_get0, List.length_append, List.cons_append, List.nil_append, ifT, w64, cnE_sl, cast1, SQ, SU, SL, reduceCtorEq, Nat.reduceAdd, Nat.reduceLeDiff, reduceIte]
    rw [← mkE_sl] at h7
    refine HdOk.go hd_ByteS ⟨_, _, _, w5_h2⟩ h7 (k := ((((((((k + ((zs.take i).map (cnE THead)).sum) + 1) + 1) + 1) + cnE (.sl (.int .u8)) w_v3) + cnE (.sl (.int .u8)) w_v4) + 1) + 1)) (by rw [cnE_sl]; omega) ?_
    simp (disch := omega) only [KC_eq, c70, hl, hat', hcb, pre_get3, pre_get2, pre_get, pre_get0, List.length_append, List.cons_append, List.nil_append, ifT, w64, cnE_sl, cast1, SQ, SU, SL, reduceCtorEq, Nat.reduceAdd, Nat.reduceLeDiff, reduceIte]
    refine BR_dec (fun hn => absurd hn (by omega)) (fun hn => ?_)
    simp (disch := omega) only [KC_eq, c70, hl, hat', hcb, pre_get3, pre_get2, pre_get, pre_get0, List.length_append, List.cons_append, List.nil_append, ifT, w64, cnE_sl, cast1, SQ, SU, SL, reduceCtorEq, Nat.reduceAdd, Nat.reduceLeDiff, reduceIte]
    rw [← mkE_sl] at h8
    refine HdOk.go hd_ByteS ⟨_, _, _, w5_h3⟩ h8 (k := (((((((((k + ((zs.take i).map (cnE THead)).sum) + 1) + 1) + 1) + cnE (.sl (.int .u8)) w_v3) + cnE (.sl (.int .u8)) w_v4) + 1) + 1) + cnE (.sl (.int .u8)) w5_v2)) (by rw [cnE_sl]; omega) ?_
    simp (disch := omega) only [KC_eq, c70, hl, hat', hcb, pre_get3, pre_get2, pre_get, pre_get0, List.length_append, List.cons_append, List.nil_append, ifT, w64, cnE_sl, cast1, SQ, SU, SL, reduceCtorEq, Nat.reduceAdd, Nat.reduceLeDiff, reduceIte]
    refine BR_dec (fun hn => absurd hn (by omega)) (fun hn => ?_)
    simp (disch := omega) only [KC_eq, c70, hl, hat', hcb, pre_get3, pre_get2, pre_get, pre_get0, List.length_append, List.cons_append, List.nil_append, ifT, w64, cnE_sl, cast1, SQ, SU, SL, reduceCtorEq, Nat.reduceAdd, Nat.reduceLeDiff, reduceIte]
    rw [← mkE_sl] at h9
    refine HdOk.go hd_ByteSS ⟨_, _, _, w5_h4⟩ h9 (k := ((((((((((k + ((zs.take i).map (cnE THead)).sum) + 1) + 1) + 1) + cnE (.sl (.int .u8)) w_v3) + cnE (.sl (.int .u8)) w_v4) + 1) + 1) + cnE (.sl (.int .u8)) w5_v2) + cnE (.sl (.int .u8)) w5_v3)) (by rw [cnE_sl]; omega) ?_
    simp (disch := omega) only [KC_eq, c70, hl, hat', hcb, pre_get3, pre_get2, pre_get, pre_get0, List.length_append, List.cons_append, List.nil_append, ifT, w64, cnE_sl, cast1, SQ, SU, SL, reduceCtorEq, Nat.reduceAdd, Nat.reduceLeDiff, reduceIte]
    refine BR_dec (fun hn => absurd hn (by omega)) (fun hn => ?_)
    simp (disch := omega) only [KC_eq, c70, hl, hat', hcb, pre_get3, pre_get2, pre_get, pre_get0, List.length_append, List.cons_append, List.nil_append, ifT, w64, cnE_sl, cast1, SQ, SU, SL, reduceCtorEq, Nat.reduceAdd, Nat.reduceLeDiff, reduceIte]
    refine ⟨i + 1, xs.length - (i + 1), by omega, ?_, rfl, by omega⟩
    have e1 : k + ((zs.take (i + 1)).map (cnE THead)).sum = (((((((((((k + ((zs.take i).map (cnE THead)).sum) + 1) + 1) + 1) + cnE (.sl (.int .u8)) w_v3) + cnE (.sl (.int .u8)) w_v4) + 1) + 1) + cnE (.sl (.int .u8)) w5_v2) + cnE (.sl (.int .u8)) w5_v3) + cnE (.sl (.sl (.int .u8))) w5_v4) := by omega
    rw [e1]
  · simp (disch := omega) only [c70, SQ, SU, SL, reduceCtorEq, Nat.reduceAdd, Nat.reduceLeDiff, reduceIte]
    have : i = zs.length := by omega
    rw [this, List.take_length]
/-- laws.heldQc -/
def c49 : AF := ⟨2, 5, [.tmp 4], (.seq (.ops [.i (.lbox 2 (.s 0)), .i (.mov 4 (.c (.val false [.int .i64 0])))]) (.seq (.ops [.i (.fad 5 (.s 2) 2), .i (.ldl 6 2 (.s 5) 1 false), .i (.mov 7 (.s 1)), .i (.call 9 48 false [(.s 6), (.s 7)]), .i (.mov 1 (.s 8))]) (.seq (.seq (.ops [.i (.mov 9 (.s 1)), .i (.bin 10 .lss (.s 9) (.c (.val false [.int .i64 0])))]) (.cond (.s 10) (.seq (.ops [.i (.mov 4 (.c (.val false [.int .i64 (-1)])))]) .ret) .skip)) (.seq (.ops [.i (.fad 11 (.s 2) 3), .i (.ldl 12 2 (.s 11) 1 false), .i (.mov 13 (.s 1)), .i (.call 15 48 false [(.s 12), (.s 13)]), .i (.mov 1 (.s 14))]) (.seq (.seq (.ops [.i (.mov 15 (.s 1)), .i (.bin 16 .lss (.s 15) (.c (.val false [.int .i64 0])))]) (.cond (.s 16) (.seq (.ops [.i (.mov 4 (.c (.val false [.int .i64 (-1)])))]) .ret) .skip)) (.seq (.ops [.i (.fad 17 (.s 2) 4), .i (.ldl 18 2 (.s 17) 1 false), .i (.mov 19 (.s 1)), .i (.call 21 80 false [(.s 18), (.s 19)]), .i (.mov 1 (.s 20))]) (.seq (.seq (.ops [.i (.mov 21 (.s 1)), .i (.bin 22 .lss (.s 21) (.c (.val false [.int .i64 0])))]) (.cond (.s 22) (.seq (.ops [.i (.mov 4 (.c (.val false [.int .i64 (-1)])))]) .ret) .skip)) (.seq (.ops [.i (.mov 23 (.s 1)), .i (.mov 4 (.s 23))]) .ret))))))))⟩
theorem k49 : cd 49 = some c49 := by kernel_rfl
theorem hd_Qc : HdOk cd 49 TQc := by
  intro h cs v S k hT hv hk
  obtain ⟨h0_, cs0, S0_, hT⟩ := hT
  obtain ⟨wvs, rfl, wq0⟩ := hT.st
  obtain ⟨wv0, wr0, wS0, wT0, rfl, rfl, wh0, wq1⟩ := wq0.step
  obtain ⟨wn0, we0, rfl, rfl, wlo0, whi0⟩ := wh0.int
  obtain ⟨wv1, wr1, wS1, wT1, rfl, rfl, wh1, wq2⟩ := wq1.step
  obtain ⟨wn1, we1, rfl, rfl, wlo1, whi1⟩ := wh1.int
  obtain ⟨wv2, wr2, wS2, wT2, rfl, rfl, wh2, wq3⟩ := wq2.step
  obtain ⟨wc2, we2⟩ := wh2.one rfl
  rw [we2] at wh2
  obtain ⟨wv3, wr3, wS3, wT3, rfl, rfl, wh3, wq4⟩ := wq3.step
  obtain ⟨wc3, we3⟩ := wh3.one rfl
  rw [we3] at wh3
  obtain ⟨wv4, wr4, wS4, wT4, rfl, rfl, wh4, wq5⟩ := wq4.step
  obtain ⟨wc4, we4⟩ := wh4.one rfl
  rw [we4] at wh4
  obtain ⟨_, rfl, rfl⟩ := wq5
  have whsz : cs0.length = 5 := hT.size
  have hcn : cnT TQc (.r [.i wn0, .i wn1, wv2, wv3, wv4]) = (0 + (0 + (cnT (.sl (.int .u8)) wv2 + (cnT (.sl (.int .u8)) wv3 + (cnT (.sl (.sl (.int .u8))) wv4 + 0))))) := rfl
  have hmk : mkT TQc (.r [.i wn0, .i wn1, wv2, wv3, wv4]) k = .r [.i wn0, .i wn1, mkT (.sl (.int .u8)) wv2 (k), mkT (.sl (.int .u8)) wv3 (k + cnT (.sl (.int .u8)) wv2), mkT (.sl (.sl (.int .u8))) wv4 (k + cnT (.sl (.int .u8)) wv2 + cnT (.sl (.int .u8)) wv3)] := rfl
  rw [hmk] at hv
  rw [hcn] at hk ⊢
  obtain ⟨vs, hvs, q0⟩ := hv.st
  simp only [Tv.r.injEq] at hvs
  subst hvs
  obtain ⟨v0, r0, S0, T0, hv0, hS0, h0, q1⟩ := q0.step
  obtain ⟨rfl, rfl⟩ := List.cons.inj hv0
  obtain ⟨n0, e0, _, _, _, _⟩ := h0.int
  obtain ⟨v1, r1, S1, T1, hv1, hS1, h1, q2⟩ := q1.step
  obtain ⟨rfl, rfl⟩ := List.cons.inj hv1
  obtain ⟨n1, e1, _, _, _, _⟩ := h1.int
  obtain ⟨v2, r2, S2, T2, hv2, hS2, h2, q3⟩ := q2.step
  obtain ⟨rfl, rfl⟩ := List.cons.inj hv2
  obtain ⟨c2, e2⟩ := h2.one rfl
  rw [e2] at h2
  obtain ⟨v3, r3, S3, T3, hv3, hS3, h3, q4⟩ := q3.step
  obtain ⟨rfl, rfl⟩ := List.cons.inj hv3
  obtain ⟨c3, e3⟩ := h3.one rfl
  rw [e3] at h3
  obtain ⟨v4, r4, S4, T4, hv4, hS4, h4, q5⟩ := q4.step
  obtain ⟨rfl, rfl⟩ := List.cons.inj hv4
  obtain ⟨c4, e4⟩ := h4.one rfl
  rw [e4] at h4
  have hsz : cs.length = 5 := hv.size
  simp only [Ty.size, Ty.sizes, Nat.reduceAdd, Nat.zero_add, List.drop_zero] at e0 e1 e2 e3 e4 hsz
  refine WS_enter k49 rfl ?_
  simp (disch := omega) only [KC_eq, c49, e0, e1, e2, e3, e4, hsz, ifT, w64, SQ, SU, SL, reduceCtorEq, Nat.reduceAdd, Nat.reduceLeDiff, reduceIte]
  refine HdOk.go hd_ByteS ⟨_, _, _, wh2⟩ h2 (k := k) (by omega) ?_
  simp (disch := omega) only [KC_eq, c49, e0, e1, e2, e3, e4, hsz, ifT, w64, SQ, SU, SL, reduceCtorEq, Nat.reduceAdd, Nat.reduceLeDiff, reduceIte]
  refine BR_dec (fun hn => absurd hn (by omega)) (fun hn => ?_)
  simp (disch := omega) only [KC_eq, c49, e0, e1, e2, e3, e4, hsz, ifT, w64, SQ, SU, SL, reduceCtorEq, Nat.reduceAdd, Nat.reduceLeDiff, reduceIte]
  refine HdOk.go hd_ByteS ⟨_, _, _, wh3⟩ h3 (k := k + cnT (.sl (.int .u8)) wv2) (by omega) ?_
  simp (disch := omega) only [KC_eq, c49, e0, e1, e2, e3, e4, hsz, ifT, w64, SQ, SU, SL, reduceCtorEq, Nat.reduceAdd, Nat.reduceLeDiff, reduceIte]
  refine BR_dec (fun hn => absurd hn (by omega)) (fun hn => ?_)
  simp (disch := omega) only [KC_eq, c49, e0, e1, e2, e3, e4, hsz, ifT, w64, SQ, SU, SL, reduceCtorEq, Nat.reduceAdd, Nat.reduceLeDiff, reduceIte]
  refine HdOk.go hd_ByteSS ⟨_, _, _, wh4⟩ h4 (k := k + cnT (.sl (.int .u8)) wv2 + cnT (.sl (.int .u8)) wv3) (by omega) ?_
  simp (disch := omega) only [KC_eq, c49, e0, e1, e2, e3, e4, hsz, ifT, w64, SQ, SU, SL, reduceCtorEq, Nat.reduceAdd, Nat.reduceLeDiff, reduceIte]
  refine BR_dec (fun hn => absurd hn (by omega)) (fun hn => ?_)
  simp (disch := omega) only [KC_eq, c49, e0, e1, e2, e3, e4, hsz, ifT, w64, SQ, SU, SL, reduceCtorEq, Nat.reduceAdd, Nat.reduceLeDiff, reduceIte]
  all_goals congr 3
  all_goals omega
/-- laws.heldProof -/
def c35 : AF := ⟨2, 5, [.tmp 4], (.seq (.ops [.i (.lbox 2 (.s 0)), .i (.mov 4 (.c (.val false [.int .i64 0])))]) (.seq (.ops [.i (.fad 5 (.s 2) 0), .i (.ldl 6 2 (.s 5) 1 false), .i (.mov 7 (.s 1)), .i (.call 9 70 false [(.s 6), (.s 7)]), .i (.mov 1 (.s 8))]) (.seq (.seq (.ops [.i (.mov 9 (.s 1)), .i (.bin 10 .lss (.s 9) (.c (.val false [.int .i64 0])))]) (.cond (.s 10) (.seq (.ops [.i (.mov 4 (.c (.val false [.int .i64 (-1)])))]) .ret) .skip)) (.seq (.ops [.i (.fad 11 (.s 2) 1), .i (.ldl 12 2 (.s 11) 5 true), .i (.mov 13 (.s 1)), .i (.call 15 49 false [(.s 12), (.s 13)]), .i (.mov 1 (.s 14))]) (.seq (.seq (.ops [.i (.mov 15 (.s 1)), .i (.bin 16 .lss (.s 15) (.c (.val false [.int .i64 0])))]) (.cond (.s 16) (.seq (.ops [.i (.mov 4 (.c (.val false [.int .i64 (-1)])))]) .ret) .skip)) (.seq (.ops [.i (.mov 17 (.s 1)), .i (.mov 4 (.s 17))]) .ret))))))⟩
theorem k35 : cd 35 = some c35 := by kernel_rfl
theorem hd_Proof : HdOk cd 35 TProof := by
  intro h cs v S k hT hv hk
  obtain ⟨h0_, cs0, S0_, hT⟩ := hT
  obtain ⟨wvs, rfl, wq0⟩ := hT.st
  obtain ⟨wv0, wr0, wS0, wT0, rfl, rfl, wh0, wq1⟩ := wq0.step
  obtain ⟨wc0, we0⟩ := wh0.one rfl
  rw [we0] at wh0
  obtain ⟨wv1, wr1, wS1, wT1, rfl, rfl, wh1, wq2⟩ := wq1.step
  obtain ⟨_, rfl, rfl⟩ := wq2
  have whsz : cs0.length = 6 := hT.size
  have hcn : cnT TProof (.r [wv0, wv1]) = (cnT (.sl THead) wv0 + (cnT TQc wv1 + 0)) := rfl
  have hmk : mkT TProof (.r [wv0, wv1]) k = .r [mkT (.sl THead) wv0 (k), mkT TQc wv1 (k + cnT (.sl THead) wv0)] := rfl
  rw [hmk] at hv
  rw [hcn] at hk ⊢
  obtain ⟨vs, hvs, q0⟩ := hv.st
  simp only [Tv.r.injEq] at hvs
  subst hvs
  obtain ⟨v0, r0, S0, T0, hv0, hS0, h0, q1⟩ := q0.step
  obtain ⟨rfl, rfl⟩ := List.cons.inj hv0
  obtain ⟨c0, e0⟩ := h0.one rfl
  rw [e0] at h0
  obtain ⟨v1, r1, S1, T1, hv1, hS1, h1, q2⟩ := q1.step
  obtain ⟨rfl, rfl⟩ := List.cons.inj hv1
  have hsz : cs.length = 6 := hv.size
  simp only [Ty.size, Ty.sizes, Nat.reduceAdd, Nat.zero_add, List.drop_zero] at e0 hsz h1
  refine WS_enter k35 rfl ?_
  simp (disch := omega) only [KC_eq, c35, e0, hsz, ifT, w64, SQ, SU, SL, reduceCtorEq, Nat.reduceAdd, Nat.reduceLeDiff, reduceIte]
  refine HdOk.go hd_HeadS ⟨_, _, _, wh0⟩ h0 (k := k) (by omega) ?_
  simp (disch := omega) only [KC_eq, c35, e0, hsz, ifT, w64, SQ, SU, SL, reduceCtorEq, Nat.reduceAdd, Nat.reduceLeDiff, reduceIte]
  refine BR_dec (fun hn => absurd hn (by omega)) (fun hn => ?_)
  simp (disch := omega) only [KC_eq, c35, e0, hsz, ifT, w64, SQ, SU, SL, reduceCtorEq, Nat.reduceAdd, Nat.reduceLeDiff, reduceIte]
  refine HdOk.go hd_Qc ⟨_, _, _, wh1⟩ h1 (k := k + cnT (.sl THead) wv0) (by omega) ?_
  simp (disch := omega) only [KC_eq, c35, e0, hsz, ifT, w64, SQ, SU, SL, reduceCtorEq, Nat.reduceAdd, Nat.reduceLeDiff, reduceIte]
  refine BR_dec (fun hn => absurd hn (by omega)) (fun hn => ?_)
  simp (disch := omega) only [KC_eq, c35, e0, hsz, ifT, w64, SQ, SU, SL, reduceCtorEq, Nat.reduceAdd, Nat.reduceLeDiff, reduceIte]
  all_goals congr 3
  all_goals omega
end Go.Eng.U
set_option maxRecDepth 100000
set_option linter.unusedSimpArgs false
set_option linter.unusedVariables false
namespace Go.Eng.U
open Go.Eng.F (Lim Table Proof proofP zeroProof hdsT hdsT_ex)
/-- laws.FnExactBuildProof -/
def c5 : AF := ⟨4, 8, [.tmp 8], (.seq (.ops [.i (.lbox 4 (.s 0)), .i (.lbox 5 (.s 1)), .i (.mov 8 (.c (.val false [.bool false])))]) (.seq (.seq (.ops [.i (.mov 22 (.s 3)), .i (.len 23 false (.s 22)), .i (.bin 24 .gtr (.s 23) (.c (.val false [.int .i64 1048576])))]) (.cond (.s 24) (.seq (.ops [.i (.mov 8 (.c (.val false [.bool true])))]) .ret) .skip)) (.seq (.ops [.i (.mov 9 (.c (.val false [.int .i64 1048576])))]) (.seq (.ops [.i (.ldl 25 5 (.s 5) 1 true), .i (.mov 26 (.s 9)), .i (.call 28 15 false [(.s 25), (.s 26)]), .i (.mov 9 (.s 27))]) (.seq (.seq (.ops [.i (.mov 28 (.s 9)), .i (.bin 29 .lss (.s 28) (.c (.val false [.int .i64 0])))]) (.cond (.s 29) (.seq (.ops [.i (.mov 8 (.c (.val false [.bool true])))]) .ret) .skip)) (.seq (.ops [.i (.mov 30 (.s 2)), .i (.mov 31 (.s 9)), .i (.call 33 27 false [(.s 30), (.s 31)]), .i (.mov 9 (.s 32))]) (.seq (.seq (.ops [.i (.mov 33 (.s 9)), .i (.bin 34 .lss (.s 33) (.c (.val false [.int .i64 0])))]) (.cond (.s 34) (.seq (.ops [.i (.mov 8 (.c (.val false [.bool true])))]) .ret) .skip)) (.seq (.ops [.i (.ldl 36 4 (.s 4) 5 true), .i (.call 38 18 false [(.s 36)]), .i (.ldl 38 5 (.s 5) 1 true), .i (.call 40 19 false [(.s 38)]), .i (.mov 40 (.s 2)), .i (.call 42 29 false [(.s 40)]), .i (.mov 42 (.s 3)), .i (.call 44 21 false [(.s 42)]), .i (.call 45 28 false [(.s 37), (.s 39), (.s 41), (.s 43)]), .i (.mov 35 (.s 44)), .i (.ext 45 (.s 35) 0), .i (.ext 46 (.s 35) 1), .i (.lal 10 [.nils, .int .i64 0, .int .i64 0, .nils, .nils, .nils]), .i (.stl 10 (.s 10) (.s 45) 6), .i (.mov 11 (.s 46))]) (.seq (.ops [.i (.ldl 47 5 (.s 5) 1 true), .i (.call 49 19 false [(.s 47)]), .i (.lal 12 [.nils]), .i (.stl 12 (.s 12) (.s 48) 1)]) (.seq (.ops [.i (.mov 49 (.s 2)), .i (.call 51 29 false [(.s 49)]), .i (.mov 13 (.s 50))]) (.seq (.ops [.i (.mov 51 (.s 3)), .i (.call 53 21 false [(.s 51)]), .i (.mov 14 (.s 52))]) (.seq (.ops [.i (.ldl 54 4 (.s 4) 5 true), .i (.call 56 18 false [(.s 54)]), .i (.ldl 56 12 (.s 12) 1 true), .i (.mov 57 (.s 13)), .i (.mov 58 (.s 14)), .i (.call 60 30 false [(.s 55), (.s 56), (.s 57), (.s 58)]), .i (.mov 53 (.s 59)), .i (.ext 60 (.s 53) 0), .i (.ext 61 (.s 53) 1), .i (.lal 15 [.nils, .int .i64 0, .int .i64 0, .nils, .nils, .nils]), .i (.stl 15 (.s 15) (.s 60) 6), .i (.mov 16 (.s 61))]) (.seq (.seq (.ops [.i (.ldl 62 15 (.s 15) 6 true), .i (.ldl 63 10 (.s 10) 6 true), .i (.call 65 31 false [(.s 62), (.s 63)]), .i (.not 65 (.s 64)), .i (.mov 66 (.s 65)), .g 66 false 68 (.mov 67 (.s 16)), .g 66 false 69 (.mov 68 (.s 11)), .g 66 false 70 (.beq 69 true (.s 67) (.s 68)), .i (.pick 70 (.s 66) (.c (.val false [.bool true])) (.s 69))]) (.cond (.s 70) (.seq (.ops [.i (.mov 8 (.c (.val false [.bool false])))]) .ret) .skip)) (.seq (.seq (.ops [.i (.ldl 71 12 (.s 12) 1 true), .i (.ldl 72 5 (.s 5) 1 true), .i (.call 74 19 false [(.s 72)]), .i (.call 75 23 false [(.s 71), (.s 73)]), .i (.not 75 (.s 74))]) (.cond (.s 75) (.seq (.ops [.i (.mov 8 (.c (.val false [.bool false])))]) .ret) .skip)) (.seq (.seq (.ops [.i (.mov 76 (.s 13)), .i (.mov 77 (.s 2)), .i (.call 79 29 false [(.s 77)]), .i (.call 80 32 false [(.s 76), (.s 78)]), .i (.not 80 (.s 79))]) (.cond (.s 80) (.seq (.ops [.i (.mov 8 (.c (.val false [.bool false])))]) .ret) .skip)) (.seq (.seq (.ops [.i (.mov 81 (.s 14)), .i (.mov 82 (.s 3)), .i (.call 84 21 false [(.s 82)]), .i (.call 85 24 false [(.s 81), (.s 83)]), .i (.not 85 (.s 84))]) (.cond (.s 85) (.seq (.ops [.i (.mov 8 (.c (.val false [.bool false])))]) .ret) .skip)) (.seq (.ops [.i (.mov 17 (.c (.val false [.int .i64 1])))]) (.seq (.ops [.i (.ldl 86 12 (.s 12) 1 true), .i (.mov 87 (.s 17)), .i (.call 89 25 false [(.s 86), (.s 87)]), .i (.mov 17 (.s 88))]) (.seq (.ops [.i (.mov 89 (.s 13)), .i (.mov 90 (.s 17)), .i (.call 92 33 false [(.s 89), (.s 90)]), .i (.mov 17 (.s 91))]) (.seq (.ops [.i (.mov 92 (.s 14)), .i (.mov 93 (.s 17)), .i (.call 95 26 false [(.s 92), (.s 93)]), .i (.mov 17 (.s 94))]) (.seq (.seq (.ops [.i (.mov 95 (.s 17)), .i (.bin 96 .lss (.s 95) (.c (.val false [.int .i64 0]))), .i (.mov 97 (.s 96)), .g 97 false 99 (.ldl 98 15 (.s 15) 6 true), .g 97 false 100 (.ldl 99 10 (.s 10) 6 true), .g 97 false 101 (.call 101 31 false [(.s 98), (.s 99)]), .g 97 false 102 (.not 101 (.s 100)), .i (.pick 102 (.s 97) (.c (.val false [.bool true])) (.s 101)), .i (.mov 103 (.s 102)), .g 103 false 105 (.mov 104 (.s 16)), .g 103 false 106 (.mov 105 (.s 11)), .g 103 false 107 (.beq 106 true (.s 104) (.s 105)), .i (.pick 107 (.s 103) (.c (.val false [.bool true])) (.s 106))]) (.cond (.s 107) (.seq (.ops [.i (.mov 8 (.c (.val false [.bool false])))]) .ret) .skip)) (.seq (.ops [.i (.mov 18 (.c (.val false [.int .i64 1])))]) (.seq (.ops [.i (.ldl 108 15 (.s 15) 6 true), .i (.mov 109 (.s 18)), .i (.call 111 34 false [(.s 108), (.s 109)]), .i (.mov 18 (.s 110))]) (.seq (.ops [.i (.mov 19 (.c (.val false [.int .i64 1])))]) (.seq (.ops [.i (.ldl 111 15 (.s 15) 6 true), .i (.mov 112 (.s 19)), .i (.call 114 35 false [(.s 111), (.s 112)]), .i (.mov 19 (.s 113))]) (.seq (.seq (.ops [.i (.mov 114 (.s 19)), .i (.bin 115 .lss (.s 114) (.c (.val false [.int .i64 0])))]) (.cond (.s 115) (.seq (.ops [.i (.mov 8 (.c (.val false [.bool false])))]) .ret) .skip)) (.seq (.seq (.ops [.i (.mov 116 (.s 19)), .i (.mov 117 (.s 18)), .i (.bin 118 .neq (.s 116) (.s 117))]) (.cond (.s 118) (.seq (.ops [.i (.mov 8 (.c (.val false [.bool false])))]) .ret) .skip)) (.seq (.ops [.i (.ldl 120 4 (.s 4) 5 true), .i (.call 122 18 false [(.s 120)]), .i (.ldl 122 5 (.s 5) 1 true), .i (.call 124 19 false [(.s 122)]), .i (.mov 124 (.s 2)), .i (.call 126 29 false [(.s 124)]), .i (.mov 126 (.s 3)), .i (.call 128 21 false [(.s 126)]), .i (.call 129 30 false [(.s 121), (.s 123), (.s 125), (.s 127)]), .i (.mov 119 (.s 128)), .i (.ext 129 (.s 119) 0), .i (.ext 130 (.s 119) 1), .i (.lal 20 [.nils, .int .i64 0, .int .i64 0, .nils, .nils, .nils]), .i (.stl 20 (.s 20) (.s 129) 6), .i (.mov 21 (.s 130))]) (.seq (.seq (.ops [.i (.ldl 131 20 (.s 20) 6 true), .i (.ldl 132 10 (.s 10) 6 true), .i (.call 134 31 false [(.s 131), (.s 132)]), .i (.not 134 (.s 133)), .i (.mov 135 (.s 134)), .g 135 false 137 (.mov 136 (.s 21)), .g 135 false 138 (.mov 137 (.s 11)), .g 135 false 139 (.beq 138 true (.s 136) (.s 137)), .i (.pick 139 (.s 135) (.c (.val false [.bool true])) (.s 138))]) (.cond (.s 139) (.seq (.ops [.i (.mov 8 (.c (.val false [.bool false])))]) .ret) .skip)) (.seq (.ops [.i (.mov 19 (.c (.val false [.int .i64 1])))]) (.seq (.ops [.i (.ldl 140 15 (.s 15) 6 true), .i (.mov 141 (.s 19)), .i (.call 143 35 false [(.s 140), (.s 141)]), .i (.mov 19 (.s 142))]) (.seq (.seq (.ops [.i (.mov 143 (.s 19)), .i (.bin 144 .lss (.s 143) (.c (.val false [.int .i64 0])))]) (.cond (.s 144) (.seq (.ops [.i (.mov 8 (.c (.val false [.bool false])))]) .ret) .skip)) (.seq (.seq (.ops [.i (.mov 145 (.s 19)), .i (.mov 146 (.s 18)), .i (.bin 147 .neq (.s 145) (.s 146))]) (.cond (.s 147) (.seq (.ops [.i (.mov 8 (.c (.val false [.bool false])))]) .ret) .skip)) (.seq (.ops [.i (.mov 8 (.c (.val false [.bool true])))]) .ret))))))))))))))))))))))))))))))))))⟩
theorem k5 : cd 5 = some c5 := by kernel_rfl
theorem lenb {h : H} {kk : IntKind} {c : C} {v : Tv} {S : List Nat} (hv : Rp h (.sl (.int kk)) [c] v S) : lenC c = some (wt v) := by
  obtain ⟨c2, xs, id, off, bs, S', e, rfl, hm, hl, hat, hce, hbs, hel, hS⟩ := hv.view
  injection e with e
  subst e
  rw [hl]
  simp [wt, (wts_int hel).1]
theorem law_BuildProof : ∀ h vs, Argp h [TLimits, TTable, (.sl THead), (.sl (.int .u8))] vs → WC cd 5 vs h (fun r _ => r = .val false [.bool true]) := by
  intro h vs ha
  obtain ⟨cs0, v0, S0, r0, rfl, hv0, ha0⟩ := ha
  obtain ⟨cs1, v1, S1, r1, rfl, hv1, ha1⟩ := ha0
  obtain ⟨cs2, v2, S2, r2, rfl, hv2, ha2⟩ := ha1
  obtain ⟨cs3, v3, S3, r3, rfl, hv3, ha3⟩ := ha2
  have hr0 : r3 = [] := ha3
  subst hr0
  have hsz0 : cs0.length = 5 := hv0.size
  have hall0 : cs0.take 5 = cs0 := List.take_of_length_le (by omega)
  have hsz1 : cs1.length = 1 := hv1.size
  have hall1 : cs1.take 1 = cs1 := List.take_of_length_le (by omega)
  obtain ⟨cc2, rfl⟩ := hv2.one rfl
  obtain ⟨cc3, rfl⟩ := hv3.one rfl
  obtain ⟨l, rfl⟩ := Lim.ex hv0.ok
  obtain ⟨t, rfl⟩ := Table.ex hv1.ok
  obtain ⟨hs, rfl⟩ := hdsT_ex hv2.ok
  obtain ⟨bits, rfl⟩ := bsT_ex hv3.ok
  have hl0 : wt l.tv = 0 := by simp [Lim.tv, wt, wts]
  have hc1 : cnT TTable t.tv ≤ 2 * (1 + wt t.tv) := Nat.le_trans (cnT_le _ _) (cnE_le _ _)
  have hc2 : cnT (.sl THead) (hdsT hs) ≤ 10 * (1 + wt (hdsT hs)) := Nat.le_trans (cnT_le _ _) (cnE_le _ _)
  have hc3 : cnT (.sl (.int .u8)) (bsT bits) ≤ 1 * (1 + wt (bsT bits)) := Nat.le_trans (cnT_le _ _) (cnE_le _ _)
  have hr0 : cnT TProof ((proofP l t hs bits).getD zeroProof).tv ≤ 15 * (1 + wt ((proofP l t hs bits).getD zeroProof).tv) := Nat.le_trans (cnT_le _ _) (cnE_le _ _)
  have hw0 := F.proofP_wt l t hs bits
  refine WS_enter k5 rfl ?_
  simp (disch := omega) only [KC_eq, c5, hsz0, hall0, hsz1, hall1, ifT, w64, valR, beq_self_eq_true, bne_self_eq_false, List.getElem?_cons_zero, List.getElem?_cons_succ, Bool.or_false, Bool.false_or, Bool.or_self, SQ, SU, SL, reduceCtorEq, Nat.reduceAdd, Nat.reduceLeDiff, reduceIte]
  have hln3 : lenC cc3 = some (wt (bsT bits)) := lenb hv3
  simp (disch := omega) only [KC_eq, c5, hsz0, hall0, hsz1, hall1, hln3, ifT, w64, valR, beq_self_eq_true, bne_self_eq_false, List.getElem?_cons_zero, List.getElem?_cons_succ, Bool.or_false, Bool.false_or, Bool.or_self, SQ, SU, SL, reduceCtorEq, Nat.reduceAdd, Nat.reduceLeDiff, reduceIte]
  refine BR_dec (fun hbn3 => ?_) (fun hbn3 => ?_)
  · simp (disch := omega) only [KC_eq, c5, hsz0, hall0, hsz1, hall1, hln3, ifT, w64, valR, beq_self_eq_true, bne_self_eq_false, List.getElem?_cons_zero, List.getElem?_cons_succ, Bool.or_false, Bool.false_or, Bool.or_self, SQ, SU, SL, reduceCtorEq, Nat.reduceAdd, Nat.reduceLeDiff, reduceIte]
  simp (disch := omega) only [KC_eq, c5, hsz0, hall0, hsz1, hall1, hln3, ifT, w64, valR, beq_self_eq_true, bne_self_eq_false, List.getElem?_cons_zero, List.getElem?_cons_succ, Bool.or_false, Bool.false_or, Bool.or_self, SQ, SU, SL, reduceCtorEq, Nat.reduceAdd, Nat.reduceLeDiff, reduceIte]
  refine SzOk.go sz_Table hv1 (k := 1048576) (by omega) (fun hf1 => ?_) (fun hf1 => ?_)
  case refine_2 =>
    simp (disch := omega) only [KC_eq, c5, hsz0, hall0, hsz1, hall1, hln3, ifT, w64, valR, beq_self_eq_true, bne_self_eq_false, List.getElem?_cons_zero, List.getElem?_cons_succ, Bool.or_false, Bool.false_or, Bool.or_self, SQ, SU, SL, reduceCtorEq, Nat.reduceAdd, Nat.reduceLeDiff, reduceIte]
    refine BR_dec (fun hn => ?_) (fun hn => absurd (show (-1 : Int) < 0 by omega) hn)
    simp (disch := omega) only [KC_eq, c5, hsz0, hall0, hsz1, hall1, hln3, ifT, w64, valR, beq_self_eq_true, bne_self_eq_false, List.getElem?_cons_zero, List.getElem?_cons_succ, Bool.or_false, Bool.false_or, Bool.or_self, SQ, SU, SL, reduceCtorEq, Nat.reduceAdd, Nat.reduceLeDiff, reduceIte]
  simp (disch := omega) only [KC_eq, c5, hsz0, hall0, hsz1, hall1, hln3, ifT, w64, valR, beq_self_eq_true, bne_self_eq_false, List.getElem?_cons_zero, List.getElem?_cons_succ, Bool.or_false, Bool.false_or, Bool.or_self, SQ, SU, SL, reduceCtorEq, Nat.reduceAdd, Nat.reduceLeDiff, reduceIte]
  refine BR_dec (fun hn => absurd hn (by omega)) (fun hn => ?_)
  simp (disch := omega) only [KC_eq, c5, hsz0, hall0, hsz1, hall1, hln3, ifT, w64, valR, beq_self_eq_true, bne_self_eq_false, List.getElem?_cons_zero, List.getElem?_cons_succ, Bool.or_false, Bool.false_or, Bool.or_self, SQ, SU, SL, reduceCtorEq, Nat.reduceAdd, Nat.reduceLeDiff, reduceIte]
  refine SzOk.go sz_HeadS hv2 (k := 1048576 - wt t.tv) (by omega) (fun hf2 => ?_) (fun hf2 => ?_)
  case refine_2 =>
    simp (disch := omega) only [KC_eq, c5, hsz0, hall0, hsz1, hall1, hln3, ifT, w64, valR, beq_self_eq_true, bne_self_eq_false, List.getElem?_cons_zero, List.getElem?_cons_succ, Bool.or_false, Bool.false_or, Bool.or_self, SQ, SU, SL, reduceCtorEq, Nat.reduceAdd, Nat.reduceLeDiff, reduceIte]
    refine BR_dec (fun hn => ?_) (fun hn => absurd (show (-1 : Int) < 0 by omega) hn)
    simp (disch := omega) only [KC_eq, c5, hsz0, hall0, hsz1, hall1, hln3, ifT, w64, valR, beq_self_eq_true, bne_self_eq_false, List.getElem?_cons_zero, List.getElem?_cons_succ, Bool.or_false, Bool.false_or, Bool.or_self, SQ, SU, SL, reduceCtorEq, Nat.reduceAdd, Nat.reduceLeDiff, reduceIte]
  simp (disch := omega) only [KC_eq, c5, hsz0, hall0, hsz1, hall1, hln3, ifT, w64, valR, beq_self_eq_true, bne_self_eq_false, List.getElem?_cons_zero, List.getElem?_cons_succ, Bool.or_false, Bool.false_or, Bool.or_self, SQ, SU, SL, reduceCtorEq, Nat.reduceAdd, Nat.reduceLeDiff, reduceIte]
  refine BR_dec (fun hn => absurd hn (by omega)) (fun hn => ?_)
  simp (disch := omega) only [KC_eq, c5, hsz0, hall0, hsz1, hall1, hln3, ifT, w64, valR, beq_self_eq_true, bne_self_eq_false, List.getElem?_cons_zero, List.getElem?_cons_succ, Bool.or_false, Bool.false_or, Bool.or_self, SQ, SU, SL, reduceCtorEq, Nat.reduceAdd, Nat.reduceLeDiff, reduceIte]
  refine WC_call (to_Limits hv0 (by omega)) ?_
  rintro r0 g0 ⟨t0, d0, U0, hg0, rfl, z0, o0, l0⟩
  have n0 := len_app' hg0
  have b0 := z0.lt
  have hd0 : d0.length = 5 := z0.size
  have ht0 : d0.take 5 = d0 := List.take_of_length_le (by omega)
  simp (disch := omega) only [KC_eq, c5, hsz0, hall0, hsz1, hall1, hln3, hd0, ht0, ifT, w64, valR, beq_self_eq_true, bne_self_eq_false, List.getElem?_cons_zero, List.getElem?_cons_succ, Bool.or_false, Bool.false_or, Bool.or_self, SQ, SU, SL, reduceCtorEq, Nat.reduceAdd, Nat.reduceLeDiff, reduceIte]
  refine WC_call (to_Table (Rp.app' hg0 hv1) (by omega)) ?_
  rintro r1 g1 ⟨t1, d1, U1, hg1, rfl, z1, o1, l1⟩
  have n1 := len_app' hg1
  have b1 := z1.lt
  have hd1 : d1.length = 1 := z1.size
  have ht1 : d1.take 1 = d1 := List.take_of_length_le (by omega)
  have hs1_0 : setL [.nils] 0 d1 = d1 := setL_all (by rw [hd1]; rfl)
  simp (disch := omega) only [KC_eq, c5, hsz0, hall0, hsz1, hall1, hln3, hd0, ht0, hd1, ht1, hs1_0, ifT, w64, valR, beq_self_eq_true, bne_self_eq_false, List.getElem?_cons_zero, List.getElem?_cons_succ, Bool.or_false, Bool.false_or, Bool.or_self, SQ, SU, SL, reduceCtorEq, Nat.reduceAdd, Nat.reduceLeDiff, reduceIte]
  refine WC_call (to_HeadS (Rp.app' hg1 (Rp.app' hg0 hv2)) (by omega)) ?_
  rintro r2 g2 ⟨t2, d2, U2, hg2, rfl, z2, o2, l2⟩
  have n2 := len_app' hg2
  have b2 := z2.lt
  obtain ⟨e2, rfl⟩ := z2.one rfl
  simp (disch := omega) only [KC_eq, c5, hsz0, hall0, hsz1, hall1, hln3, hd0, ht0, hd1, ht1, hs1_0, ifT, w64, valR, beq_self_eq_true, bne_self_eq_false, List.getElem?_cons_zero, List.getElem?_cons_succ, Bool.or_false, Bool.false_or, Bool.or_self, SQ, SU, SL, reduceCtorEq, Nat.reduceAdd, Nat.reduceLeDiff, reduceIte]
  refine WC_call (to_ByteS (Rp.app' hg2 (Rp.app' hg1 (Rp.app' hg0 hv3))) (by omega)) ?_
  rintro r3 g3 ⟨t3, d3, U3, hg3, rfl, z3, o3, l3⟩
  have n3 := len_app' hg3
  have b3 := z3.lt
  obtain ⟨e3, rfl⟩ := z3.one rfl
  simp (disch := omega) only [KC_eq, c5, hsz0, hall0, hsz1, hall1, hln3, hd0, ht0, hd1, ht1, hs1_0, ifT, w64, valR, beq_self_eq_true, bne_self_eq_false, List.getElem?_cons_zero, List.getElem?_cons_succ, Bool.or_false, Bool.false_or, Bool.or_self, SQ, SU, SL, reduceCtorEq, Nat.reduceAdd, Nat.reduceLeDiff, reduceIte]
  refine WC_call (F.io_spec_BuildProof ⟨_, _, rfl, ⟨_, (Rp.app' hg3 (Rp.app' hg2 (Rp.app' hg1 z0)))⟩, ⟨_, _, rfl, ⟨_, (Rp.app' hg3 (Rp.app' hg2 z1))⟩, ⟨_, _, rfl, ⟨_, (Rp.app' hg3 z2)⟩, ⟨_, _, rfl, ⟨_, z3⟩, rfl⟩⟩⟩⟩ (by omega) (by omega) (by omega)) ?_
  rintro r4 g4 ⟨t4, css4, U4, hg4, rfl, zz4, o4, l4⟩
  have n4 := len_app' hg4
  obtain ⟨d4_0, cr4_0, U4_0, V4_0, rfl, rfl, z4_0, zz4_0⟩ := zz4
  obtain ⟨d4_1, cr4_1, U4_1, V4_1, rfl, rfl, z4_1, zz4_1⟩ := zz4_0
  obtain ⟨q4_1, rfl, hq4_1, rfl⟩ := z4_1.bool
  injection hq4_1 with hq4_1; subst hq4_1
  obtain ⟨rfl, rfl⟩ := zz4_1
  simp only [List.nil_append, List.append_nil] at o4 l4
  have o4_0 := o4
  have b4_0 := z4_0.lt
  have l4_0 := l4
  have hd4_0 : d4_0.length = 6 := z4_0.size
  have ht4_0 : d4_0.take 6 = d4_0 := List.take_of_length_le (by omega)
  have hs4_0_0 : setL [.nils, .int .i64 0, .int .i64 0, .nils, .nils, .nils] 0 d4_0 = d4_0 := setL_all (by rw [hd4_0]; rfl)
  simp (disch := omega) only [KC_eq, c5, hsz0, hall0, hsz1, hall1, hln3, hd0, ht0, hd1, ht1, hs1_0, hd4_0, ht4_0, hs4_0_0, ifT, w64, valR, beq_self_eq_true, bne_self_eq_false, List.getElem?_cons_zero, List.getElem?_cons_succ, Bool.or_false, Bool.false_or, Bool.or_self, SQ, SU, SL, reduceCtorEq, Nat.reduceAdd, Nat.reduceLeDiff, reduceIte]
  refine WC_call (to_Table (Rp.app' hg4 (Rp.app' hg3 (Rp.app' hg2 (Rp.app' hg1 (Rp.app' hg0 hv1))))) (by omega)) ?_
  rintro r5 g5 ⟨t5, d5, U5, hg5, rfl, z5, o5, l5⟩
  have n5 := len_app' hg5
  have b5 := z5.lt
  have hd5 : d5.length = 1 := z5.size
  have ht5 : d5.take 1 = d5 := List.take_of_length_le (by omega)
  have hs5_0 : setL [.nils] 0 d5 = d5 := setL_all (by rw [hd5]; rfl)
  simp (disch := omega) only [KC_eq, c5, hsz0, hall0, hsz1, hall1, hln3, hd0, ht0, hd1, ht1, hs1_0, hd4_0, ht4_0, hs4_0_0, hd5, ht5, hs5_0, ifT, w64, valR, beq_self_eq_true, bne_self_eq_false, List.getElem?_cons_zero, List.getElem?_cons_succ, Bool.or_false, Bool.false_or, Bool.or_self, SQ, SU, SL, reduceCtorEq, Nat.reduceAdd, Nat.reduceLeDiff, reduceIte]
  refine WC_call (to_HeadS (Rp.app' hg5 (Rp.app' hg4 (Rp.app' hg3 (Rp.app' hg2 (Rp.app' hg1 (Rp.app' hg0 hv2)))))) (by omega)) ?_
  rintro r6 g6 ⟨t6, d6, U6, hg6, rfl, z6, o6, l6⟩
  have n6 := len_app' hg6
  have b6 := z6.lt
  obtain ⟨e6, rfl⟩ := z6.one rfl
  simp (disch := omega) only [KC_eq, c5, hsz0, hall0, hsz1, hall1, hln3, hd0, ht0, hd1, ht1, hs1_0, hd4_0, ht4_0, hs4_0_0, hd5, ht5, hs5_0, ifT, w64, valR, beq_self_eq_true, bne_self_eq_false, List.getElem?_cons_zero, List.getElem?_cons_succ, Bool.or_false, Bool.false_or, Bool.or_self, SQ, SU, SL, reduceCtorEq, Nat.reduceAdd, Nat.reduceLeDiff, reduceIte]
  refine WC_call (to_ByteS (Rp.app' hg6 (Rp.app' hg5 (Rp.app' hg4 (Rp.app' hg3 (Rp.app' hg2 (Rp.app' hg1 (Rp.app' hg0 hv3))))))) (by omega)) ?_
  rintro r7 g7 ⟨t7, d7, U7, hg7, rfl, z7, o7, l7⟩
  have n7 := len_app' hg7
  have b7 := z7.lt
  obtain ⟨e7, rfl⟩ := z7.one rfl
  simp (disch := omega) only [KC_eq, c5, hsz0, hall0, hsz1, hall1, hln3, hd0, ht0, hd1, ht1, hs1_0, hd4_0, ht4_0, hs4_0_0, hd5, ht5, hs5_0, ifT, w64, valR, beq_self_eq_true, bne_self_eq_false, List.getElem?_cons_zero, List.getElem?_cons_succ, Bool.or_false, Bool.false_or, Bool.or_self, SQ, SU, SL, reduceCtorEq, Nat.reduceAdd, Nat.reduceLeDiff, reduceIte]
  refine WC_call (to_Limits (Rp.app' hg7 (Rp.app' hg6 (Rp.app' hg5 (Rp.app' hg4 (Rp.app' hg3 (Rp.app' hg2 (Rp.app' hg1 (Rp.app' hg0 hv0)))))))) (by omega)) ?_
  rintro r8 g8 ⟨t8, d8, U8, hg8, rfl, z8, o8, l8⟩
  have n8 := len_app' hg8
  have b8 := z8.lt
  have hd8 : d8.length = 5 := z8.size
  have ht8 : d8.take 5 = d8 := List.take_of_length_le (by omega)
  simp (disch := omega) only [KC_eq, c5, hsz0, hall0, hsz1, hall1, hln3, hd0, ht0, hd1, ht1, hs1_0, hd4_0, ht4_0, hs4_0_0, hd5, ht5, hs5_0, hd8, ht8, ifT, w64, valR, beq_self_eq_true, bne_self_eq_false, List.getElem?_cons_zero, List.getElem?_cons_succ, Bool.or_false, Bool.false_or, Bool.or_self, SQ, SU, SL, reduceCtorEq, Nat.reduceAdd, Nat.reduceLeDiff, reduceIte]
  refine WC_call (F.io_impl_BuildProof ⟨_, _, rfl, ⟨_, z8⟩, ⟨_, _, rfl, ⟨_, (Rp.app' hg8 (Rp.app' hg7 (Rp.app' hg6 z5)))⟩, ⟨_, _, rfl, ⟨_, (Rp.app' hg8 (Rp.app' hg7 z6))⟩, ⟨_, _, rfl, ⟨_, (Rp.app' hg8 z7)⟩, rfl⟩⟩⟩⟩ (by omega) (by omega) (by omega)) ?_
  rintro r9 g9 ⟨t9, css9, U9, hg9, rfl, zz9, o9, l9⟩
  have n9 := len_app' hg9
  obtain ⟨d9_0, cr9_0, U9_0, V9_0, rfl, rfl, z9_0, zz9_0⟩ := zz9
  obtain ⟨d9_1, cr9_1, U9_1, V9_1, rfl, rfl, z9_1, zz9_1⟩ := zz9_0
  obtain ⟨q9_1, rfl, hq9_1, rfl⟩ := z9_1.bool
  injection hq9_1 with hq9_1; subst hq9_1
  obtain ⟨rfl, rfl⟩ := zz9_1
  simp only [List.nil_append, List.append_nil] at o9 l9
  have o9_0 := o9
  have b9_0 := z9_0.lt
  have l9_0 := l9
  have hd9_0 : d9_0.length = 6 := z9_0.size
  have ht9_0 : d9_0.take 6 = d9_0 := List.take_of_length_le (by omega)
  have hs9_0_0 : setL [.nils, .int .i64 0, .int .i64 0, .nils, .nils, .nils] 0 d9_0 = d9_0 := setL_all (by rw [hd9_0]; rfl)
  simp (disch := omega) only [KC_eq, c5, hsz0, hall0, hsz1, hall1, hln3, hd0, ht0, hd1, ht1, hs1_0, hd4_0, ht4_0, hs4_0_0, hd5, ht5, hs5_0, hd8, ht8, hd9_0, ht9_0, hs9_0_0, ifT, w64, valR, beq_self_eq_true, bne_self_eq_false, List.getElem?_cons_zero, List.getElem?_cons_succ, Bool.or_false, Bool.false_or, Bool.or_self, SQ, SU, SL, reduceCtorEq, Nat.reduceAdd, Nat.reduceLeDiff, reduceIte]
  refine EqOk.go eq_Proof z9_0 (Rp.app' hg9 (Rp.app' hg8 (Rp.app' hg7 (Rp.app' hg6 (Rp.app' hg5 z4_0))))) (fun _ => ?_) (fun hne => absurd rfl hne)
  simp (disch := omega) only [KC_eq, c5, hsz0, hall0, hsz1, hall1, hln3, hd0, ht0, hd1, ht1, hs1_0, hd4_0, ht4_0, hs4_0_0, hd5, ht5, hs5_0, hd8, ht8, hd9_0, ht9_0, hs9_0_0, ifT, w64, valR, beq_self_eq_true, bne_self_eq_false, List.getElem?_cons_zero, List.getElem?_cons_succ, Bool.or_false, Bool.false_or, Bool.or_self, SQ, SU, SL, reduceCtorEq, Nat.reduceAdd, Nat.reduceLeDiff, reduceIte]
  refine WC_call (to_Table (Rp.app' hg9 (Rp.app' hg8 (Rp.app' hg7 (Rp.app' hg6 (Rp.app' hg5 (Rp.app' hg4 (Rp.app' hg3 (Rp.app' hg2 (Rp.app' hg1 (Rp.app' hg0 hv1)))))))))) (by omega)) ?_
  rintro r10 g10 ⟨t10, d10, U10, hg10, rfl, z10, o10, l10⟩
  have n10 := len_app' hg10
  have b10 := z10.lt
  have hd10 : d10.length = 1 := z10.size
  have ht10 : d10.take 1 = d10 := List.take_of_length_le (by omega)
  have hs10_0 : setL [.nils] 0 d10 = d10 := setL_all (by rw [hd10]; rfl)
  simp (disch := omega) only [KC_eq, c5, hsz0, hall0, hsz1, hall1, hln3, hd0, ht0, hd1, ht1, hs1_0, hd4_0, ht4_0, hs4_0_0, hd5, ht5, hs5_0, hd8, ht8, hd9_0, ht9_0, hs9_0_0, hd10, ht10, hs10_0, ifT, w64, valR, beq_self_eq_true, bne_self_eq_false, List.getElem?_cons_zero, List.getElem?_cons_succ, Bool.or_false, Bool.false_or, Bool.or_self, SQ, SU, SL, reduceCtorEq, Nat.reduceAdd, Nat.reduceLeDiff, reduceIte]
  refine EqOk.go eq_Table (Rp.app' hg10 (Rp.app' hg9 (Rp.app' hg8 (Rp.app' hg7 (Rp.app' hg6 z5))))) z10 (fun _ => ?_) (fun hne => absurd rfl hne)
  simp (disch := omega) only [KC_eq, c5, hsz0, hall0, hsz1, hall1, hln3, hd0, ht0, hd1, ht1, hs1_0, hd4_0, ht4_0, hs4_0_0, hd5, ht5, hs5_0, hd8, ht8, hd9_0, ht9_0, hs9_0_0, hd10, ht10, hs10_0, ifT, w64, valR, beq_self_eq_true, bne_self_eq_false, List.getElem?_cons_zero, List.getElem?_cons_succ, Bool.or_false, Bool.false_or, Bool.or_self, SQ, SU, SL, reduceCtorEq, Nat.reduceAdd, Nat.reduceLeDiff, reduceIte]
  refine WC_call (to_HeadS (Rp.app' hg10 (Rp.app' hg9 (Rp.app' hg8 (Rp.app' hg7 (Rp.app' hg6 (Rp.app' hg5 (Rp.app' hg4 (Rp.app' hg3 (Rp.app' hg2 (Rp.app' hg1 (Rp.app' hg0 hv2))))))))))) (by omega)) ?_
  rintro r11 g11 ⟨t11, d11, U11, hg11, rfl, z11, o11, l11⟩
  have n11 := len_app' hg11
  have b11 := z11.lt
  obtain ⟨e11, rfl⟩ := z11.one rfl
  simp (disch := omega) only [KC_eq, c5, hsz0, hall0, hsz1, hall1, hln3, hd0, ht0, hd1, ht1, hs1_0, hd4_0, ht4_0, hs4_0_0, hd5, ht5, hs5_0, hd8, ht8, hd9_0, ht9_0, hs9_0_0, hd10, ht10, hs10_0, ifT, w64, valR, beq_self_eq_true, bne_self_eq_false, List.getElem?_cons_zero, List.getElem?_cons_succ, Bool.or_false, Bool.false_or, Bool.or_self, SQ, SU, SL, reduceCtorEq, Nat.reduceAdd, Nat.reduceLeDiff, reduceIte]
  refine EqOk.go eq_HeadS (Rp.app' hg11 (Rp.app' hg10 (Rp.app' hg9 (Rp.app' hg8 (Rp.app' hg7 z6))))) z11 (fun _ => ?_) (fun hne => absurd rfl hne)
  simp (disch := omega) only [KC_eq, c5, hsz0, hall0, hsz1, hall1, hln3, hd0, ht0, hd1, ht1, hs1_0, hd4_0, ht4_0, hs4_0_0, hd5, ht5, hs5_0, hd8, ht8, hd9_0, ht9_0, hs9_0_0, hd10, ht10, hs10_0, ifT, w64, valR, beq_self_eq_true, bne_self_eq_false, List.getElem?_cons_zero, List.getElem?_cons_succ, Bool.or_false, Bool.false_or, Bool.or_self, SQ, SU, SL, reduceCtorEq, Nat.reduceAdd, Nat.reduceLeDiff, reduceIte]
  refine WC_call (to_ByteS (Rp.app' hg11 (Rp.app' hg10 (Rp.app' hg9 (Rp.app' hg8 (Rp.app' hg7 (Rp.app' hg6 (Rp.app' hg5 (Rp.app' hg4 (Rp.app' hg3 (Rp.app' hg2 (Rp.app' hg1 (Rp.app' hg0 hv3)))))))))))) (by omega)) ?_
  rintro r12 g12 ⟨t12, d12, U12, hg12, rfl, z12, o12, l12⟩
  have n12 := len_app' hg12
  have b12 := z12.lt
  obtain ⟨e12, rfl⟩ := z12.one rfl
  simp (disch := omega) only [KC_eq, c5, hsz0, hall0, hsz1, hall1, hln3, hd0, ht0, hd1, ht1, hs1_0, hd4_0, ht4_0, hs4_0_0, hd5, ht5, hs5_0, hd8, ht8, hd9_0, ht9_0, hs9_0_0, hd10, ht10, hs10_0, ifT, w64, valR, beq_self_eq_true, bne_self_eq_false, List.getElem?_cons_zero, List.getElem?_cons_succ, Bool.or_false, Bool.false_or, Bool.or_self, SQ, SU, SL, reduceCtorEq, Nat.reduceAdd, Nat.reduceLeDiff, reduceIte]
  refine EqOk.go eq_ByteS (Rp.app' hg12 (Rp.app' hg11 (Rp.app' hg10 (Rp.app' hg9 (Rp.app' hg8 z7))))) z12 (fun _ => ?_) (fun hne => absurd rfl hne)
  simp (disch := omega) only [KC_eq, c5, hsz0, hall0, hsz1, hall1, hln3, hd0, ht0, hd1, ht1, hs1_0, hd4_0, ht4_0, hs4_0_0, hd5, ht5, hs5_0, hd8, ht8, hd9_0, ht9_0, hs9_0_0, hd10, ht10, hs10_0, ifT, w64, valR, beq_self_eq_true, bne_self_eq_false, List.getElem?_cons_zero, List.getElem?_cons_succ, Bool.or_false, Bool.false_or, Bool.or_self, SQ, SU, SL, reduceCtorEq, Nat.reduceAdd, Nat.reduceLeDiff, reduceIte]
  refine MkOk.go mk_Table (Rp.app' hg12 (Rp.app' hg11 (Rp.app' hg10 (Rp.app' hg9 (Rp.app' hg8 (Rp.app' hg7 (Rp.app' hg6 z5))))))) (Ownd.app' hg12 (Ownd.app' hg11 (Ownd.app' hg10 (Ownd.app' hg9 (Ownd.app' hg8 (Ownd.app' hg7 (Ownd.app' hg6 o5))))))) (k := 1) (by omega) (fun gw1 w1 zw1 => ?_)
  have nw1 := w1.1
  simp (disch := omega) only [KC_eq, c5, hsz0, hall0, hsz1, hall1, hln3, hd0, ht0, hd1, ht1, hs1_0, hd4_0, ht4_0, hs4_0_0, hd5, ht5, hs5_0, hd8, ht8, hd9_0, ht9_0, hs9_0_0, hd10, ht10, hs10_0, ifT, w64, valR, beq_self_eq_true, bne_self_eq_false, List.getElem?_cons_zero, List.getElem?_cons_succ, Bool.or_false, Bool.false_or, Bool.or_self, SQ, SU, SL, reduceCtorEq, Nat.reduceAdd, Nat.reduceLeDiff, reduceIte]
  refine MkOk.go mk_HeadS ((Rp.app' hg12 (Rp.app' hg11 (Rp.app' hg10 (Rp.app' hg9 (Rp.app' hg8 (Rp.app' hg7 z6)))))).wrote w1 (fun i hi hn => by have := b6 i hi; have := l6 i hi; have := b5 i hn; have := l5 i hn; omega)) (w1.ownd (Ownd.app' hg12 (Ownd.app' hg11 (Ownd.app' hg10 (Ownd.app' hg9 (Ownd.app' hg8 (Ownd.app' hg7 o6))))))) (k := 1 + cnT TTable t.tv) (by omega) (fun gw2 w2 zw2 => ?_)
  have nw2 := w2.1
  simp (disch := omega) only [KC_eq, c5, hsz0, hall0, hsz1, hall1, hln3, hd0, ht0, hd1, ht1, hs1_0, hd4_0, ht4_0, hs4_0_0, hd5, ht5, hs5_0, hd8, ht8, hd9_0, ht9_0, hs9_0_0, hd10, ht10, hs10_0, ifT, w64, valR, beq_self_eq_true, bne_self_eq_false, List.getElem?_cons_zero, List.getElem?_cons_succ, Bool.or_false, Bool.false_or, Bool.or_self, SQ, SU, SL, reduceCtorEq, Nat.reduceAdd, Nat.reduceLeDiff, reduceIte]
  refine MkOk.go mk_ByteS (((Rp.app' hg12 (Rp.app' hg11 (Rp.app' hg10 (Rp.app' hg9 (Rp.app' hg8 z7))))).wrote w1 (fun i hi hn => by have := b7 i hi; have := l7 i hi; have := b5 i hn; have := l5 i hn; omega)).wrote w2 (fun i hi hn => by have := b7 i hi; have := l7 i hi; have := b6 i hn; have := l6 i hn; omega)) (w2.ownd (w1.ownd (Ownd.app' hg12 (Ownd.app' hg11 (Ownd.app' hg10 (Ownd.app' hg9 (Ownd.app' hg8 o7))))))) (k := 1 + cnT TTable t.tv + cnT (.sl THead) (hdsT hs)) (by omega) (fun gw3 w3 zw3 => ?_)
  have nw3 := w3.1
  have hneg : decide (((1 + cnT TTable t.tv + cnT (.sl THead) (hdsT hs) + cnT (.sl (.int .u8)) (bsT bits) : Nat) : Int) < 0) = false := by simp; omega
  simp (disch := omega) only [KC_eq, c5, hsz0, hall0, hsz1, hall1, hln3, hd0, ht0, hd1, ht1, hs1_0, hd4_0, ht4_0, hs4_0_0, hd5, ht5, hs5_0, hd8, ht8, hd9_0, ht9_0, hs9_0_0, hd10, ht10, hs10_0, hneg, ifT, w64, valR, beq_self_eq_true, bne_self_eq_false, List.getElem?_cons_zero, List.getElem?_cons_succ, Bool.or_false, Bool.false_or, Bool.or_self, SQ, SU, SL, reduceCtorEq, Nat.reduceAdd, Nat.reduceLeDiff, reduceIte]
  refine EqOk.go eq_Proof ((((Rp.app' hg12 (Rp.app' hg11 (Rp.app' hg10 z9_0))).wrote w1 (fun i hi hn => by have := b9_0 i hi; have := l9_0 i hi; have := b5 i hn; have := l5 i hn; omega)).wrote w2 (fun i hi hn => by have := b9_0 i hi; have := l9_0 i hi; have := b6 i hn; have := l6 i hn; omega)).wrote w3 (fun i hi hn => by have := b9_0 i hi; have := l9_0 i hi; have := b7 i hn; have := l7 i hn; omega)) ((((Rp.app' hg12 (Rp.app' hg11 (Rp.app' hg10 (Rp.app' hg9 (Rp.app' hg8 (Rp.app' hg7 (Rp.app' hg6 (Rp.app' hg5 z4_0)))))))).wrote w1 (fun i hi hn => by have := b4_0 i hi; have := l4_0 i hi; have := b5 i hn; have := l5 i hn; omega)).wrote w2 (fun i hi hn => by have := b4_0 i hi; have := l4_0 i hi; have := b6 i hn; have := l6 i hn; omega)).wrote w3 (fun i hi hn => by have := b4_0 i hi; have := l4_0 i hi; have := b7 i hn; have := l7 i hn; omega)) (fun _ => ?_) (fun hne => absurd rfl hne)
  simp (disch := omega) only [KC_eq, c5, hsz0, hall0, hsz1, hall1, hln3, hd0, ht0, hd1, ht1, hs1_0, hd4_0, ht4_0, hs4_0_0, hd5, ht5, hs5_0, hd8, ht8, hd9_0, ht9_0, hs9_0_0, hd10, ht10, hs10_0, hneg, ifT, w64, valR, beq_self_eq_true, bne_self_eq_false, List.getElem?_cons_zero, List.getElem?_cons_succ, Bool.or_false, Bool.false_or, Bool.or_self, SQ, SU, SL, reduceCtorEq, Nat.reduceAdd, Nat.reduceLeDiff, reduceIte]
  refine MkOk.go mk_Proof ((((Rp.app' hg12 (Rp.app' hg11 (Rp.app' hg10 z9_0))).wrote w1 (fun i hi hn => by have := b9_0 i hi; have := l9_0 i hi; have := b5 i hn; have := l5 i hn; omega)).wrote w2 (fun i hi hn => by have := b9_0 i hi; have := l9_0 i hi; have := b6 i hn; have := l6 i hn; omega)).wrote w3 (fun i hi hn => by have := b9_0 i hi; have := l9_0 i hi; have := b7 i hn; have := l7 i hn; omega)) (w3.ownd (w2.ownd (w1.ownd (Ownd.app' hg12 (Ownd.app' hg11 (Ownd.app' hg10 o9_0)))))) (k := 1) (by omega) (fun gm0 wm0 zm0 => ?_)
  have nm0 := wm0.1
  simp (disch := omega) only [KC_eq, c5, hsz0, hall0, hsz1, hall1, hln3, hd0, ht0, hd1, ht1, hs1_0, hd4_0, ht4_0, hs4_0_0, hd5, ht5, hs5_0, hd8, ht8, hd9_0, ht9_0, hs9_0_0, hd10, ht10, hs10_0, hneg, ifT, w64, valR, beq_self_eq_true, bne_self_eq_false, List.getElem?_cons_zero, List.getElem?_cons_succ, Bool.or_false, Bool.false_or, Bool.or_self, SQ, SU, SL, reduceCtorEq, Nat.reduceAdd, Nat.reduceLeDiff, reduceIte]
  refine HdOk.go hd_Proof ⟨_, _, _, z9_0⟩ zm0 (k := 1) (by omega) ?_
  simp (disch := omega) only [KC_eq, c5, hsz0, hall0, hsz1, hall1, hln3, hd0, ht0, hd1, ht1, hs1_0, hd4_0, ht4_0, hs4_0_0, hd5, ht5, hs5_0, hd8, ht8, hd9_0, ht9_0, hs9_0_0, hd10, ht10, hs10_0, hneg, ifT, w64, valR, beq_self_eq_true, bne_self_eq_false, List.getElem?_cons_zero, List.getElem?_cons_succ, Bool.or_false, Bool.false_or, Bool.or_self, SQ, SU, SL, reduceCtorEq, Nat.reduceAdd, Nat.reduceLeDiff, reduceIte]
  refine BR_dec (fun hn => absurd hn (by omega)) (fun hn => ?_)
  simp (disch := omega) only [KC_eq, c5, hsz0, hall0, hsz1, hall1, hln3, hd0, ht0, hd1, ht1, hs1_0, hd4_0, ht4_0, hs4_0_0, hd5, ht5, hs5_0, hd8, ht8, hd9_0, ht9_0, hs9_0_0, hd10, ht10, hs10_0, hneg, ifT, w64, valR, beq_self_eq_true, bne_self_eq_false, List.getElem?_cons_zero, List.getElem?_cons_succ, Bool.or_false, Bool.false_or, Bool.or_self, SQ, SU, SL, reduceCtorEq, Nat.reduceAdd, Nat.reduceLeDiff, reduceIte]
  refine WC_call (to_Limits (((((Rp.app' hg12 (Rp.app' hg11 (Rp.app' hg10 (Rp.app' hg9 (Rp.app' hg8 (Rp.app' hg7 (Rp.app' hg6 (Rp.app' hg5 (Rp.app' hg4 (Rp.app' hg3 (Rp.app' hg2 (Rp.app' hg1 (Rp.app' hg0 hv0))))))))))))).wrote w1 (fun i hi hn => by have := hv0.lt i hi; have := b5 i hn; have := l5 i hn; omega)).wrote w2 (fun i hi hn => by have := hv0.lt i hi; have := b6 i hn; have := l6 i hn; omega)).wrote w3 (fun i hi hn => by have := hv0.lt i hi; have := b7 i hn; have := l7 i hn; omega)).wrote wm0 (fun i hi hn => by have := hv0.lt i hi; have := b9_0 i hn; have := l9_0 i hn; omega)) (by omega)) ?_
  rintro r13 g13 ⟨t13, d13, U13, hg13, rfl, z13, o13, l13⟩
  have n13 := len_app' hg13
  have b13 := z13.lt
  have hd13 : d13.length = 5 := z13.size
  have ht13 : d13.take 5 = d13 := List.take_of_length_le (by omega)
  simp (disch := omega) only [KC_eq, c5, hsz0, hall0, hsz1, hall1, hln3, hd0, ht0, hd1, ht1, hs1_0, hd4_0, ht4_0, hs4_0_0, hd5, ht5, hs5_0, hd8, ht8, hd9_0, ht9_0, hs9_0_0, hd10, ht10, hs10_0, hneg, hd13, ht13, ifT, w64, valR, beq_self_eq_true, bne_self_eq_false, List.getElem?_cons_zero, List.getElem?_cons_succ, Bool.or_false, Bool.false_or, Bool.or_self, SQ, SU, SL, reduceCtorEq, Nat.reduceAdd, Nat.reduceLeDiff, reduceIte]
  refine WC_call (to_Table (Rp.app' hg13 (((((Rp.app' hg12 (Rp.app' hg11 (Rp.app' hg10 (Rp.app' hg9 (Rp.app' hg8 (Rp.app' hg7 (Rp.app' hg6 (Rp.app' hg5 (Rp.app' hg4 (Rp.app' hg3 (Rp.app' hg2 (Rp.app' hg1 (Rp.app' hg0 hv1))))))))))))).wrote w1 (fun i hi hn => by have := hv1.lt i hi; have := b5 i hn; have := l5 i hn; omega)).wrote w2 (fun i hi hn => by have := hv1.lt i hi; have := b6 i hn; have := l6 i hn; omega)).wrote w3 (fun i hi hn => by have := hv1.lt i hi; have := b7 i hn; have := l7 i hn; omega)).wrote wm0 (fun i hi hn => by have := hv1.lt i hi; have := b9_0 i hn; have := l9_0 i hn; omega))) (by omega)) ?_
  rintro r14 g14 ⟨t14, d14, U14, hg14, rfl, z14, o14, l14⟩
  have n14 := len_app' hg14
  have b14 := z14.lt
  have hd14 : d14.length = 1 := z14.size
  have ht14 : d14.take 1 = d14 := List.take_of_length_le (by omega)
  have hs14_0 : setL [.nils] 0 d14 = d14 := setL_all (by rw [hd14]; rfl)
  simp (disch := omega) only [KC_eq, c5, hsz0, hall0, hsz1, hall1, hln3, hd0, ht0, hd1, ht1, hs1_0, hd4_0, ht4_0, hs4_0_0, hd5, ht5, hs5_0, hd8, ht8, hd9_0, ht9_0, hs9_0_0, hd10, ht10, hs10_0, hneg, hd13, ht13, hd14, ht14, hs14_0, ifT, w64, valR, beq_self_eq_true, bne_self_eq_false, List.getElem?_cons_zero, List.getElem?_cons_succ, Bool.or_false, Bool.false_or, Bool.or_self, SQ, SU, SL, reduceCtorEq, Nat.reduceAdd, Nat.reduceLeDiff, reduceIte]
  refine WC_call (to_HeadS (Rp.app' hg14 (Rp.app' hg13 (((((Rp.app' hg12 (Rp.app' hg11 (Rp.app' hg10 (Rp.app' hg9 (Rp.app' hg8 (Rp.app' hg7 (Rp.app' hg6 (Rp.app' hg5 (Rp.app' hg4 (Rp.app' hg3 (Rp.app' hg2 (Rp.app' hg1 (Rp.app' hg0 hv2))))))))))))).wrote w1 (fun i hi hn => by have := hv2.lt i hi; have := b5 i hn; have := l5 i hn; omega)).wrote w2 (fun i hi hn => by have := hv2.lt i hi; have := b6 i hn; have := l6 i hn; omega)).wrote w3 (fun i hi hn => by have := hv2.lt i hi; have := b7 i hn; have := l7 i hn; omega)).wrote wm0 (fun i hi hn => by have := hv2.lt i hi; have := b9_0 i hn; have := l9_0 i hn; omega)))) (by omega)) ?_
  rintro r15 g15 ⟨t15, d15, U15, hg15, rfl, z15, o15, l15⟩
  have n15 := len_app' hg15
  have b15 := z15.lt
  obtain ⟨e15, rfl⟩ := z15.one rfl
  simp (disch := omega) only [KC_eq, c5, hsz0, hall0, hsz1, hall1, hln3, hd0, ht0, hd1, ht1, hs1_0, hd4_0, ht4_0, hs4_0_0, hd5, ht5, hs5_0, hd8, ht8, hd9_0, ht9_0, hs9_0_0, hd10, ht10, hs10_0, hneg, hd13, ht13, hd14, ht14, hs14_0, ifT, w64, valR, beq_self_eq_true, bne_self_eq_false, List.getElem?_cons_zero, List.getElem?_cons_succ, Bool.or_false, Bool.false_or, Bool.or_self, SQ, SU, SL, reduceCtorEq, Nat.reduceAdd, Nat.reduceLeDiff, reduceIte]
  refine WC_call (to_ByteS (Rp.app' hg15 (Rp.app' hg14 (Rp.app' hg13 (((((Rp.app' hg12 (Rp.app' hg11 (Rp.app' hg10 (Rp.app' hg9 (Rp.app' hg8 (Rp.app' hg7 (Rp.app' hg6 (Rp.app' hg5 (Rp.app' hg4 (Rp.app' hg3 (Rp.app' hg2 (Rp.app' hg1 (Rp.app' hg0 hv3))))))))))))).wrote w1 (fun i hi hn => by have := hv3.lt i hi; have := b5 i hn; have := l5 i hn; omega)).wrote w2 (fun i hi hn => by have := hv3.lt i hi; have := b6 i hn; have := l6 i hn; omega)).wrote w3 (fun i hi hn => by have := hv3.lt i hi; have := b7 i hn; have := l7 i hn; omega)).wrote wm0 (fun i hi hn => by have := hv3.lt i hi; have := b9_0 i hn; have := l9_0 i hn; omega))))) (by omega)) ?_
  rintro r16 g16 ⟨t16, d16, U16, hg16, rfl, z16, o16, l16⟩
  have n16 := len_app' hg16
  have b16 := z16.lt
  obtain ⟨e16, rfl⟩ := z16.one rfl
  simp (disch := omega) only [KC_eq, c5, hsz0, hall0, hsz1, hall1, hln3, hd0, ht0, hd1, ht1, hs1_0, hd4_0, ht4_0, hs4_0_0, hd5, ht5, hs5_0, hd8, ht8, hd9_0, ht9_0, hs9_0_0, hd10, ht10, hs10_0, hneg, hd13, ht13, hd14, ht14, hs14_0, ifT, w64, valR, beq_self_eq_true, bne_self_eq_false, List.getElem?_cons_zero, List.getElem?_cons_succ, Bool.or_false, Bool.false_or, Bool.or_self, SQ, SU, SL, reduceCtorEq, Nat.reduceAdd, Nat.reduceLeDiff, reduceIte]
  refine WC_call (F.io_impl_BuildProof ⟨_, _, rfl, ⟨_, (Rp.app' hg16 (Rp.app' hg15 (Rp.app' hg14 z13)))⟩, ⟨_, _, rfl, ⟨_, (Rp.app' hg16 (Rp.app' hg15 z14))⟩, ⟨_, _, rfl, ⟨_, (Rp.app' hg16 z15)⟩, ⟨_, _, rfl, ⟨_, z16⟩, rfl⟩⟩⟩⟩ (by omega) (by omega) (by omega)) ?_
  rintro r17 g17 ⟨t17, css17, U17, hg17, rfl, zz17, o17, l17⟩
  have n17 := len_app' hg17
  obtain ⟨d17_0, cr17_0, U17_0, V17_0, rfl, rfl, z17_0, zz17_0⟩ := zz17
  obtain ⟨d17_1, cr17_1, U17_1, V17_1, rfl, rfl, z17_1, zz17_1⟩ := zz17_0
  obtain ⟨q17_1, rfl, hq17_1, rfl⟩ := z17_1.bool
  injection hq17_1 with hq17_1; subst hq17_1
  obtain ⟨rfl, rfl⟩ := zz17_1
  simp only [List.nil_append, List.append_nil] at o17 l17
  have o17_0 := o17
  have b17_0 := z17_0.lt
  have l17_0 := l17
  have hd17_0 : d17_0.length = 6 := z17_0.size
  have ht17_0 : d17_0.take 6 = d17_0 := List.take_of_length_le (by omega)
  have hs17_0_0 : setL [.nils, .int .i64 0, .int .i64 0, .nils, .nils, .nils] 0 d17_0 = d17_0 := setL_all (by rw [hd17_0]; rfl)
  simp (disch := omega) only [KC_eq, c5, hsz0, hall0, hsz1, hall1, hln3, hd0, ht0, hd1, ht1, hs1_0, hd4_0, ht4_0, hs4_0_0, hd5, ht5, hs5_0, hd8, ht8, hd9_0, ht9_0, hs9_0_0, hd10, ht10, hs10_0, hneg, hd13, ht13, hd14, ht14, hs14_0, hd17_0, ht17_0, hs17_0_0, ifT, w64, valR, beq_self_eq_true, bne_self_eq_false, List.getElem?_cons_zero, List.getElem?_cons_succ, Bool.or_false, Bool.false_or, Bool.or_self, SQ, SU, SL, reduceCtorEq, Nat.reduceAdd, Nat.reduceLeDiff, reduceIte]
  refine EqOk.go eq_Proof z17_0 (Rp.app' hg17 (Rp.app' hg16 (Rp.app' hg15 (Rp.app' hg14 (Rp.app' hg13 (((((Rp.app' hg12 (Rp.app' hg11 (Rp.app' hg10 (Rp.app' hg9 (Rp.app' hg8 (Rp.app' hg7 (Rp.app' hg6 (Rp.app' hg5 z4_0)))))))).wrote w1 (fun i hi hn => by have := b4_0 i hi; have := l4_0 i hi; have := b5 i hn; have := l5 i hn; omega)).wrote w2 (fun i hi hn => by have := b4_0 i hi; have := l4_0 i hi; have := b6 i hn; have := l6 i hn; omega)).wrote w3 (fun i hi hn => by have := b4_0 i hi; have := l4_0 i hi; have := b7 i hn; have := l7 i hn; omega)).wrote wm0 (fun i hi hn => by have := b4_0 i hi; have := l4_0 i hi; have := b9_0 i hn; have := l9_0 i hn; omega))))))) (fun _ => ?_) (fun hne => absurd rfl hne)
  simp (disch := omega) only [KC_eq, c5, hsz0, hall0, hsz1, hall1, hln3, hd0, ht0, hd1, ht1, hs1_0, hd4_0, ht4_0, hs4_0_0, hd5, ht5, hs5_0, hd8, ht8, hd9_0, ht9_0, hs9_0_0, hd10, ht10, hs10_0, hneg, hd13, ht13, hd14, ht14, hs14_0, hd17_0, ht17_0, hs17_0_0, ifT, w64, valR, beq_self_eq_true, bne_self_eq_false, List.getElem?_cons_zero, List.getElem?_cons_succ, Bool.or_false, Bool.false_or, Bool.or_self, SQ, SU, SL, reduceCtorEq, Nat.reduceAdd, Nat.reduceLeDiff, reduceIte]
  refine HdOk.go hd_Proof ⟨_, _, _, z9_0⟩ (Rp.app' hg17 (Rp.app' hg16 (Rp.app' hg15 (Rp.app' hg14 (Rp.app' hg13 zm0))))) (k := 1) (by omega) ?_
  simp (disch := omega) only [KC_eq, c5, hsz0, hall0, hsz1, hall1, hln3, hd0, ht0, hd1, ht1, hs1_0, hd4_0, ht4_0, hs4_0_0, hd5, ht5, hs5_0, hd8, ht8, hd9_0, ht9_0, hs9_0_0, hd10, ht10, hs10_0, hneg, hd13, ht13, hd14, ht14, hs14_0, hd17_0, ht17_0, hs17_0_0, ifT, w64, valR, beq_self_eq_true, bne_self_eq_false, List.getElem?_cons_zero, List.getElem?_cons_succ, Bool.or_false, Bool.false_or, Bool.or_self, SQ, SU, SL, reduceCtorEq, Nat.reduceAdd, Nat.reduceLeDiff, reduceIte]
  refine BR_dec (fun hn => absurd hn (by omega)) (fun hn => ?_)
  simp (disch := omega) only [KC_eq, c5, hsz0, hall0, hsz1, hall1, hln3, hd0, ht0, hd1, ht1, hs1_0, hd4_0, ht4_0, hs4_0_0, hd5, ht5, hs5_0, hd8, ht8, hd9_0, ht9_0, hs9_0_0, hd10, ht10, hs10_0, hneg, hd13, ht13, hd14, ht14, hs14_0, hd17_0, ht17_0, hs17_0_0, ifT, w64, valR, beq_self_eq_true, bne_self_eq_false, List.getElem?_cons_zero, List.getElem?_cons_succ, Bool.or_false, Bool.false_or, Bool.or_self, SQ, SU, SL, reduceCtorEq, Nat.reduceAdd, Nat.reduceLeDiff, reduceIte]
end Go.Eng.U
