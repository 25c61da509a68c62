import Derived.Test.YtaicdpancmfhnaaGreatGb
import Derived.Test.YtaicdpancmfhnaaGreatGe
import Derived.Test.YtaicdpancmfhnaaGreatGf
import Derived.Test.YtaicdpancmfhnaaGreatGh
set_option maxRecDepth 100000
set_option linter.unusedSimpArgs false
set_option linter.unusedVariables false
namespace Go.Eng.U
theorem len_5 {l : List C} (h : l.length = 5) : ∃ x0 x1 x2 x3 x4, l = [x0, x1, x2, x3, x4] := by
  rcases l with _ | ⟨x0, l⟩
  · simp at h
  rcases l with _ | ⟨x1, l⟩
  · simp at h
  rcases l with _ | ⟨x2, l⟩
  · simp at h
  rcases l with _ | ⟨x3, l⟩
  · simp at h
  rcases l with _ | ⟨x4, l⟩
  · simp at h
  · simp at h; exact ⟨x0, x1, x2, x3, x4, by simp [h]⟩
/-- laws.toLimits -/
def c18 : AF := ⟨1, 5, [.cell 2 5 true], (.seq (.ops [.i (.lbox 1 (.s 0)), .i (.lal 2 [.int .i64 0, .int .i64 0, .int .i64 0, .int .i64 0, .int .i64 0])]) (.seq (.ops [.i (.lal 3 [.int .i64 0, .int .i64 0, .int .i64 0, .int .i64 0, .int .i64 0])]) (.seq (.ops [.i (.fad 4 (.s 1) 0), .i (.ldl 5 1 (.s 4) 1 false), .i (.fad 6 (.s 3) 0), .i (.stl 3 (.s 6) (.s 5) 1)]) (.seq (.ops [.i (.fad 7 (.s 1) 1), .i (.ldl 8 1 (.s 7) 1 false), .i (.fad 9 (.s 3) 1), .i (.stl 3 (.s 9) (.s 8) 1)]) (.seq (.ops [.i (.fad 10 (.s 1) 2), .i (.ldl 11 1 (.s 10) 1 false), .i (.fad 12 (.s 3) 2), .i (.stl 3 (.s 12) (.s 11) 1)]) (.seq (.ops [.i (.fad 13 (.s 1) 3), .i (.ldl 14 1 (.s 13) 1 false), .i (.fad 15 (.s 3) 3), .i (.stl 3 (.s 15) (.s 14) 1)]) (.seq (.ops [.i (.fad 16 (.s 1) 4), .i (.ldl 17 1 (.s 16) 1 false), .i (.fad 18 (.s 3) 4), .i (.stl 3 (.s 18) (.s 17) 1)]) (.seq (.ops [.i (.ldl 19 3 (.s 3) 5 true), .i (.stl 2 (.s 2) (.s 19) 5)]) .ret))))))))⟩
theorem k18 : cd 18 = some c18 := by kernel_rfl
theorem to_Limits : ToOk cd 18 TLimits := by
  intro h cs v S hv hw
  obtain ⟨vs, rfl, q0⟩ := hv.st
  obtain ⟨v0, r0, S0, T0, rfl, rfl, h0, q1⟩ := q0.step
  obtain ⟨n0, e0, rfl, rfl, lo0, hi0⟩ := h0.int
  obtain ⟨v1, r1, S1, T1, rfl, rfl, h1, q2⟩ := q1.step
  obtain ⟨n1, e1, rfl, rfl, lo1, hi1⟩ := h1.int
  obtain ⟨v2, r2, S2, T2, rfl, rfl, h2, q3⟩ := q2.step
  obtain ⟨n2, e2, rfl, rfl, lo2, hi2⟩ := h2.int
  obtain ⟨v3, r3, S3, T3, rfl, rfl, h3, q4⟩ := q3.step
  obtain ⟨n3, e3, rfl, rfl, lo3, hi3⟩ := h3.int
  obtain ⟨v4, r4, S4, T4, rfl, rfl, h4, q5⟩ := q4.step
  obtain ⟨n4, e4, rfl, rfl, lo4, hi4⟩ := h4.int
  obtain ⟨_, rfl, rfl⟩ := q5
  have hsz : cs.length = 5 := hv.size
  simp only [Ty.size, Ty.sizes, Nat.reduceAdd, Nat.zero_add, List.drop_zero] at e0 e1 e2 e3 e4 hsz
  simp only [wt, wts] at hw
  refine WS_enter k18 rfl ?_
  simp (disch := omega) only [KC_eq, c18, e0, e1, e2, e3, e4, hsz, ifT, w64, SQ, SU, SL, reduceCtorEq, Nat.reduceAdd, Nat.reduceLeDiff, reduceIte]
  exact ⟨[], _, _, by simp, rfl, ⟨_, rfl, (Rs.mk (Rp.mkInt lo0 hi0) (Rs.mk (Rp.mkInt lo1 hi1) (Rs.mk (Rp.mkInt lo2 hi2) (Rs.mk (Rp.mkInt lo3 hi3) (Rs.mk (Rp.mkInt lo4 hi4) Rs.nil)))))⟩, by simp [Ownd], by simp⟩
/-- laws.szByteS -/
def c51 : AF := ⟨2, 4, [.tmp 4], (.seq (.ops [.i (.mov 4 (.c (.val false [.int .i64 0])))]) (.seq (.ops [.i (.mov 5 (.s 1)), .i (.mov 6 (.s 0)), .i (.len 7 false (.s 6)), .i (.bin 8 .sub (.s 5) (.s 7)), .i (.mov 1 (.s 8))]) (.seq (.seq (.ops [.i (.mov 9 (.s 1)), .i (.bin 10 .lss (.s 9) (.c (.val false [.int .i64 0])))]) (.cond (.s 10) (.seq (.ops [.i (.mov 4 (.c (.val false [.int .i64 (-1)])))]) .ret) .skip)) (.seq (.ops [.i (.mov 11 (.s 1)), .i (.mov 4 (.s 11))]) .ret))))⟩
theorem k51 : cd 51 = some c51 := by kernel_rfl
theorem sz_ByteS : SzOk cd 51 (.sl (.int .u8)) := sz_leaf k51
theorem len_2 {l : List C} (h : l.length = 2) : ∃ x0 x1, l = [x0, x1] := by
  rcases l with _ | ⟨x0, l⟩
  · simp at h
  rcases l with _ | ⟨x1, l⟩
  · simp at h
  · simp at h; exact ⟨x0, x1, by simp [h]⟩
/-- laws.szRow -/
def c81 : AF := ⟨2, 4, [.tmp 4], (.seq (.ops [.i (.lbox 2 (.s 0)), .i (.mov 4 (.c (.val false [.int .i64 0])))]) (.seq (.ops [.i (.fad 5 (.s 2) 1), .i (.ldl 6 2 (.s 5) 1 false), .i (.mov 7 (.s 1)), .i (.call 9 51 false [(.s 6), (.s 7)]), .i (.mov 1 (.s 8))]) (.seq (.seq (.ops [.i (.mov 9 (.s 1)), .i (.bin 10 .lss (.s 9) (.c (.val false [.int .i64 0])))]) (.cond (.s 10) (.seq (.ops [.i (.mov 4 (.c (.val false [.int .i64 (-1)])))]) .ret) .skip)) (.seq (.ops [.i (.mov 11 (.s 1)), .i (.mov 4 (.s 11))]) .ret))))⟩
theorem k81 : cd 81 = some c81 := by kernel_rfl
theorem sz_Row : SzOk cd 81 TRow := by
  intro h cs v S k hv hk
  obtain ⟨vs, rfl, q0⟩ := hv.st
  obtain ⟨v0, r0, S0, T0, rfl, rfl, h0, q1⟩ := q0.step
  obtain ⟨n0, e0, rfl, rfl, lo0, hi0⟩ := h0.int
  obtain ⟨v1, r1, S1, T1, rfl, rfl, h1, q2⟩ := q1.step
  obtain ⟨c1, e1⟩ := h1.one rfl
  rw [e1] at h1
  obtain ⟨_, rfl, rfl⟩ := q2
  have hsz : cs.length = 2 := hv.size
  simp only [Ty.size, Ty.sizes, Nat.reduceAdd, Nat.zero_add, List.drop_zero] at e0 e1 hsz
  have hw : wt (.r [.i n0, v1]) = wt v1 := by simp only [wt, wts]; omega
  rw [hw]
  refine WS_enter k81 rfl ?_
  simp (disch := omega) only [c81, e0, e1, hsz, ifT, w64, SQ, SU, SL, reduceCtorEq, Nat.reduceAdd, Nat.reduceLeDiff, reduceIte]
  refine SzOk.go sz_ByteS h1 (k := k) (by omega) (fun hf0 => ?_) (fun hf0 => ?_)
  case refine_2 =>
    simp (disch := omega) only [KC_eq, c81, e0, e1, hsz, ifT, w64, SQ, SU, SL, reduceCtorEq, Nat.reduceAdd, Nat.reduceLeDiff, reduceIte]
    refine BR_dec (fun hn => ?_) (fun hn => absurd (show (-1 : Int) < 0 by omega) hn)
    simp (disch := omega) only [c81, e0, e1, hsz, ifT, w64, SQ, SU, SL, reduceCtorEq, Nat.reduceAdd, Nat.reduceLeDiff, reduceIte]
    rw [if_neg (by omega)]
  simp (disch := omega) only [KC_eq, c81, e0, e1, hsz, ifT, w64, SQ, SU, SL, reduceCtorEq, Nat.reduceAdd, Nat.reduceLeDiff, reduceIte]
  refine BR_dec (fun hn => absurd hn (by omega)) (fun hn => ?_)
  simp (disch := omega) only [c81, e0, e1, hsz, ifT, w64, SQ, SU, SL, reduceCtorEq, Nat.reduceAdd, Nat.reduceLeDiff, reduceIte]
  congr 3
  omega
/-- laws.szRowS -/
def c50 : AF := ⟨2, 5, [.tmp 4], (.seq (.ops [.i (.mov 4 (.c (.val false [.int .i64 0])))]) (.seq (.ops [.i (.mov 6 (.s 1)), .i (.mov 7 (.s 0)), .i (.len 8 false (.s 7)), .i (.bin 9 .sub (.s 6) (.s 8)), .i (.mov 1 (.s 9))]) (.seq (.seq (.ops [.i (.mov 10 (.s 1)), .i (.bin 11 .lss (.s 10) (.c (.val false [.int .i64 0])))]) (.cond (.s 11) (.seq (.ops [.i (.mov 4 (.c (.val false [.int .i64 (-1)])))]) .ret) .skip)) (.seq (.seq (.ops [.i (.mov 5 (.c (.val false [.int .i64 0])))]) (.block 0 (.loop [25, 24, 23, 22, 21, 20, 19, 18, 17, 16, 15, 14, 13, 12] (.seq (.seq (.ops [.i (.mov 12 (.s 5)), .i (.mov 13 (.s 0)), .i (.len 14 false (.s 13)), .i (.bin 15 .lss (.s 12) (.s 14))]) (.cond (.s 15) .skip (.exit 0))) (.seq (.block 1 (.seq (.ops [.i (.mov 18 (.s 0)), .i (.mov 19 (.s 5)), .i (.iad 20 (.s 18) (.s 19) 2), .i (.ldh 21 (.s 20) 2 true), .i (.mov 22 (.s 1)), .i (.call 24 81 false [(.s 21), (.s 22)]), .i (.mov 1 (.s 23))]) (.seq (.ops [.i (.mov 24 (.s 1)), .i (.bin 25 .lss (.s 24) (.c (.val false [.int .i64 0])))]) (.cond (.s 25) (.seq (.ops [.i (.mov 4 (.c (.val false [.int .i64 (-1)])))]) .ret) .skip)))) (.ops [.i (.mov 16 (.s 5)), .i (.bin 17 .add (.s 16) (.c (.val false [.int .i64 1]))), .i (.mov 5 (.s 17))])))))) (.seq (.ops [.i (.mov 26 (.s 1)), .i (.mov 4 (.s 26))]) .ret)))))⟩
theorem k50 : cd 50 = some c50 := by kernel_rfl
theorem sz_RowS : SzOk cd 50 (.sl TRow) := sz_sl k50 sz_Row
/-- laws.szTable -/
def c15 : AF := ⟨2, 4, [.tmp 4], (.seq (.ops [.i (.lbox 2 (.s 0)), .i (.mov 4 (.c (.val false [.int .i64 0])))]) (.seq (.ops [.i (.fad 5 (.s 2) 0), .i (.ldl 6 2 (.s 5) 1 false), .i (.mov 7 (.s 1)), .i (.call 9 50 false [(.s 6), (.s 7)]), .i (.mov 1 (.s 8))]) (.seq (.seq (.ops [.i (.mov 9 (.s 1)), .i (.bin 10 .lss (.s 9) (.c (.val false [.int .i64 0])))]) (.cond (.s 10) (.seq (.ops [.i (.mov 4 (.c (.val false [.int .i64 (-1)])))]) .ret) .skip)) (.seq (.ops [.i (.mov 11 (.s 1)), .i (.mov 4 (.s 11))]) .ret))))⟩
theorem k15 : cd 15 = some c15 := by kernel_rfl
theorem sz_Table : SzOk cd 15 TTable := by
  intro h cs v S k hv hk
  obtain ⟨vs, rfl, q0⟩ := hv.st
  obtain ⟨v0, r0, S0, T0, rfl, rfl, h0, q1⟩ := q0.step
  obtain ⟨c0, e0⟩ := h0.one rfl
  rw [e0] at h0
  obtain ⟨_, rfl, rfl⟩ := q1
  have hsz : cs.length = 1 := hv.size
  simp only [Ty.size, Ty.sizes, Nat.reduceAdd, Nat.zero_add, List.drop_zero] at e0 hsz
  have hw : wt (.r [v0]) = wt v0 := by simp only [wt, wts]; omega
  rw [hw]
  refine WS_enter k15 rfl ?_
  simp (disch := omega) only [c15, e0, hsz, ifT, w64, SQ, SU, SL, reduceCtorEq, Nat.reduceAdd, Nat.reduceLeDiff, reduceIte]
  refine SzOk.go sz_RowS h0 (k := k) (by omega) (fun hf0 => ?_) (fun hf0 => ?_)
  case refine_2 =>
    simp (disch := omega) only [KC_eq, c15, e0, hsz, ifT, w64, SQ, SU, SL, reduceCtorEq, Nat.reduceAdd, Nat.reduceLeDiff, reduceIte]
    refine BR_dec (fun hn => ?_) (fun hn => absurd (show (-1 : Int) < 0 by omega) hn)
    simp (disch := omega) only [c15, e0, hsz, ifT, w64, SQ, SU, SL, reduceCtorEq, Nat.reduceAdd, Nat.reduceLeDiff, reduceIte]
    rw [if_neg (by omega)]
  simp (disch := omega) only [KC_eq, c15, e0, hsz, ifT, w64, SQ, SU, SL, reduceCtorEq, Nat.reduceAdd, Nat.reduceLeDiff, reduceIte]
  refine BR_dec (fun hn => absurd hn (by omega)) (fun hn => ?_)
  simp (disch := omega) only [c15, e0, hsz, ifT, w64, SQ, SU, SL, reduceCtorEq, Nat.reduceAdd, Nat.reduceLeDiff, reduceIte]
  congr 3
  omega
/-- laws.toByteS -/
def c21 : AF := ⟨1, 5, [.tmp 2], (.seq (.ops [.i (.mov 2 (.c (.val false [.nils])))]) (.seq (.ops [.i (.mov 5 (.s 0)), .i (.len 6 false (.s 5)), .i (.mks 7 5 1 1 [.int .u8 0] (.s 6)), .i (.mov 3 (.s 7))]) (.seq (.seq (.ops [.i (.mov 4 (.c (.val false [.int .i64 0])))]) (.block 0 (.loop [20, 19, 18, 17, 16, 15, 14, 13, 12, 11, 10, 9, 8] (.seq (.seq (.ops [.i (.mov 8 (.s 4)), .i (.mov 9 (.s 0)), .i (.len 10 false (.s 9)), .i (.bin 11 .lss (.s 8) (.s 10))]) (.cond (.s 11) .skip (.exit 0))) (.seq (.block 1 (.ops [.i (.mov 14 (.s 3)), .i (.mov 15 (.s 4)), .i (.mov 16 (.s 0)), .i (.mov 17 (.s 4)), .i (.iad 18 (.s 16) (.s 17) 1), .i (.ldh 19 (.s 18) 1 false), .i (.iad 20 (.s 14) (.s 15) 1), .i (.sth (.s 20) (.s 19) 1)])) (.ops [.i (.mov 12 (.s 4)), .i (.bin 13 .add (.s 12) (.c (.val false [.int .i64 1]))), .i (.mov 4 (.s 13))])))))) (.seq (.ops [.i (.mov 21 (.s 3)), .i (.mov 2 (.s 21))]) .ret))))⟩
theorem k21 : cd 21 = some c21 := by kernel_rfl
theorem to_ByteS : ToOk cd 21 (.sl (.int .u8)) := to_leaf k21 (by omega)
/-- laws.toRow -/
def c90 : AF := ⟨1, 4, [.cell 2 2 true], (.seq (.ops [.i (.lbox 1 (.s 0)), .i (.lal 2 [.int .i64 0, .nils])]) (.seq (.ops [.i (.lal 3 [.int .i64 0, .nils])]) (.seq (.ops [.i (.fad 4 (.s 1) 0), .i (.ldl 5 1 (.s 4) 1 false), .i (.fad 6 (.s 3) 0), .i (.stl 3 (.s 6) (.s 5) 1)]) (.seq (.ops [.i (.fad 7 (.s 1) 1), .i (.ldl 8 1 (.s 7) 1 false), .i (.call 10 21 false [(.s 8)]), .i (.fad 10 (.s 3) 1), .i (.stl 3 (.s 10) (.s 9) 1)]) (.seq (.ops [.i (.ldl 11 3 (.s 3) 2 true), .i (.stl 2 (.s 2) (.s 11) 2)]) .ret)))))⟩
theorem k90 : cd 90 = some c90 := by kernel_rfl
theorem to_Row : ToOk cd 90 TRow := by
  intro h cs v S hv hw
  obtain ⟨vs, rfl, q0⟩ := hv.st
  obtain ⟨v0, r0, S0, T0, rfl, rfl, h0, q1⟩ := q0.step
  obtain ⟨n0, e0, rfl, rfl, lo0, hi0⟩ := h0.int
  obtain ⟨v1, r1, S1, T1, rfl, rfl, h1, q2⟩ := q1.step
  obtain ⟨c1, e1⟩ := h1.one rfl
  rw [e1] at h1
  obtain ⟨_, rfl, rfl⟩ := q2
  have hsz : cs.length = 2 := hv.size
  simp only [Ty.size, Ty.sizes, Nat.reduceAdd, Nat.zero_add, List.drop_zero] at e0 e1 hsz
  simp only [wt, wts] at hw
  refine WS_enter k90 rfl ?_
  simp (disch := omega) only [KC_eq, c90, e0, e1, hsz, ifT, w64, SQ, SU, SL, reduceCtorEq, Nat.reduceAdd, Nat.reduceLeDiff, reduceIte]
  refine WC_call (to_ByteS h1 (by omega)) ?_
  rintro r0 g0 ⟨t0, d0, U0, rfl, rfl, z0, o0, l0⟩
  obtain ⟨y0_0, rfl⟩ := z0.one rfl
  simp (disch := omega) only [KC_eq, c90, e0, e1, hsz, ifT, w64, SQ, SU, SL, reduceCtorEq, Nat.reduceAdd, Nat.reduceLeDiff, reduceIte]
  refine ⟨t0, _, _, by simp only [List.append_assoc], rfl, ⟨_, rfl, (Rs.mk (Rp.mkInt lo0 hi0) (Rs.mk z0 Rs.nil))⟩, ?_⟩
  have fr := (Fre.step (Fre.nil h) z0.lt o0 l0)
  simpa only [List.nil_append, List.append_nil, List.append_assoc] using fr.both
/-- laws.toRowS -/
def c57 : AF := ⟨1, 5, [.tmp 2], (.seq (.ops [.i (.mov 2 (.c (.val false [.nils])))]) (.seq (.ops [.i (.mov 5 (.s 0)), .i (.len 6 false (.s 5)), .i (.mks 7 123 2 32 [.int .i64 0, .nils] (.s 6)), .i (.mov 3 (.s 7))]) (.seq (.seq (.ops [.i (.mov 4 (.c (.val false [.int .i64 0])))]) (.block 0 (.loop [21, 20, 19, 18, 17, 16, 15, 14, 13, 12, 11, 10, 9, 8] (.seq (.seq (.ops [.i (.mov 8 (.s 4)), .i (.mov 9 (.s 0)), .i (.len 10 false (.s 9)), .i (.bin 11 .lss (.s 8) (.s 10))]) (.cond (.s 11) .skip (.exit 0))) (.seq (.block 1 (.ops [.i (.mov 14 (.s 3)), .i (.mov 15 (.s 4)), .i (.mov 16 (.s 0)), .i (.mov 17 (.s 4)), .i (.iad 18 (.s 16) (.s 17) 2), .i (.ldh 19 (.s 18) 2 true), .i (.call 21 90 false [(.s 19)]), .i (.iad 21 (.s 14) (.s 15) 2), .i (.sth (.s 21) (.s 20) 2)])) (.ops [.i (.mov 12 (.s 4)), .i (.bin 13 .add (.s 12) (.c (.val false [.int .i64 1]))), .i (.mov 4 (.s 13))])))))) (.seq (.ops [.i (.mov 22 (.s 3)), .i (.mov 2 (.s 22))]) .ret))))⟩
theorem k57 : cd 57 = some c57 := by kernel_rfl
theorem to_RowS : ToOk cd 57 (.sl TRow) := to_sl k57 (by omega) rfl to_Row
/-- laws.toTable -/
def c19 : AF := ⟨1, 4, [.cell 2 1 true], (.seq (.ops [.i (.lbox 1 (.s 0)), .i (.lal 2 [.nils])]) (.seq (.ops [.i (.lal 3 [.nils])]) (.seq (.ops [.i (.fad 4 (.s 1) 0), .i (.ldl 5 1 (.s 4) 1 false), .i (.call 7 57 false [(.s 5)]), .i (.fad 7 (.s 3) 0), .i (.stl 3 (.s 7) (.s 6) 1)]) (.seq (.ops [.i (.ldl 8 3 (.s 3) 1 true), .i (.stl 2 (.s 2) (.s 8) 1)]) .ret))))⟩
theorem k19 : cd 19 = some c19 := by kernel_rfl
theorem to_Table : ToOk cd 19 TTable := by
  intro h cs v S hv hw
  obtain ⟨vs, rfl, q0⟩ := hv.st
  obtain ⟨v0, r0, S0, T0, rfl, rfl, h0, q1⟩ := q0.step
  obtain ⟨c0, e0⟩ := h0.one rfl
  rw [e0] at h0
  obtain ⟨_, rfl, rfl⟩ := q1
  have hsz : cs.length = 1 := hv.size
  simp only [Ty.size, Ty.sizes, Nat.reduceAdd, Nat.zero_add, List.drop_zero] at e0 hsz
  simp only [wt, wts] at hw
  refine WS_enter k19 rfl ?_
  simp (disch := omega) only [KC_eq, c19, e0, hsz, ifT, w64, SQ, SU, SL, reduceCtorEq, Nat.reduceAdd, Nat.reduceLeDiff, reduceIte]
  refine WC_call (to_RowS h0 (by omega)) ?_
  rintro r0 g0 ⟨t0, d0, U0, rfl, rfl, z0, o0, l0⟩
  obtain ⟨y0_0, rfl⟩ := z0.one rfl
  simp (disch := omega) only [KC_eq, c19, e0, hsz, ifT, w64, SQ, SU, SL, reduceCtorEq, Nat.reduceAdd, Nat.reduceLeDiff, reduceIte]
  refine ⟨t0, _, _, by simp only [List.append_assoc], rfl, ⟨_, rfl, (Rs.mk z0 Rs.nil)⟩, ?_⟩
  have fr := (Fre.step (Fre.nil h) z0.lt o0 l0)
  simpa only [List.nil_append, List.append_nil, List.append_assoc] using fr.both
/-- laws.szByteSS -/
def c82 : AF := ⟨2, 5, [.tmp 4], (.seq (.ops [.i (.mov 4 (.c (.val false [.int .i64 0])))]) (.seq (.ops [.i (.mov 6 (.s 1)), .i (.mov 7 (.s 0)), .i (.len 8 false (.s 7)), .i (.bin 9 .sub (.s 6) (.s 8)), .i (.mov 1 (.s 9))]) (.seq (.seq (.ops [.i (.mov 10 (.s 1)), .i (.bin 11 .lss (.s 10) (.c (.val false [.int .i64 0])))]) (.cond (.s 11) (.seq (.ops [.i (.mov 4 (.c (.val false [.int .i64 (-1)])))]) .ret) .skip)) (.seq (.seq (.ops [.i (.mov 5 (.c (.val false [.int .i64 0])))]) (.block 0 (.loop [25, 24, 23, 22, 21, 20, 19, 18, 17, 16, 15, 14, 13, 12] (.seq (.seq (.ops [.i (.mov 12 (.s 5)), .i (.mov 13 (.s 0)), .i (.len 14 false (.s 13)), .i (.bin 15 .lss (.s 12) (.s 14))]) (.cond (.s 15) .skip (.exit 0))) (.seq (.block 1 (.seq (.ops [.i (.mov 18 (.s 0)), .i (.mov 19 (.s 5)), .i (.iad 20 (.s 18) (.s 19) 1), .i (.ldh 21 (.s 20) 1 false), .i (.mov 22 (.s 1)), .i (.call 24 51 false [(.s 21), (.s 22)]), .i (.mov 1 (.s 23))]) (.seq (.ops [.i (.mov 24 (.s 1)), .i (.bin 25 .lss (.s 24) (.c (.val false [.int .i64 0])))]) (.cond (.s 25) (.seq (.ops [.i (.mov 4 (.c (.val false [.int .i64 (-1)])))]) .ret) .skip)))) (.ops [.i (.mov 16 (.s 5)), .i (.bin 17 .add (.s 16) (.c (.val false [.int .i64 1]))), .i (.mov 5 (.s 17))])))))) (.seq (.ops [.i (.mov 26 (.s 1)), .i (.mov 4 (.s 26))]) .ret)))))⟩
theorem k82 : cd 82 = some c82 := by kernel_rfl
theorem sz_ByteSS : SzOk cd 82 (.sl (.sl (.int .u8))) := sz_sl k82 sz_ByteS
/-- laws.szQc -/
def c52 : AF := ⟨2, 5, [.tmp 4], (.seq (.ops [.i (.lbox 2 (.s 0)), .i (.mov 4 (.c (.val false [.int .i64 0])))]) (.seq (.ops [.i (.fad 5 (.s 2) 2), .i (.ldl 6 2 (.s 5) 1 false), .i (.mov 7 (.s 1)), .i (.call 9 51 false [(.s 6), (.s 7)]), .i (.mov 1 (.s 8))]) (.seq (.seq (.ops [.i (.mov 9 (.s 1)), .i (.bin 10 .lss (.s 9) (.c (.val false [.int .i64 0])))]) (.cond (.s 10) (.seq (.ops [.i (.mov 4 (.c (.val false [.int .i64 (-1)])))]) .ret) .skip)) (.seq (.ops [.i (.fad 11 (.s 2) 3), .i (.ldl 12 2 (.s 11) 1 false), .i (.mov 13 (.s 1)), .i (.call 15 51 false [(.s 12), (.s 13)]), .i (.mov 1 (.s 14))]) (.seq (.seq (.ops [.i (.mov 15 (.s 1)), .i (.bin 16 .lss (.s 15) (.c (.val false [.int .i64 0])))]) (.cond (.s 16) (.seq (.ops [.i (.mov 4 (.c (.val false [.int .i64 (-1)])))]) .ret) .skip)) (.seq (.ops [.i (.fad 17 (.s 2) 4), .i (.ldl 18 2 (.s 17) 1 false), .i (.mov 19 (.s 1)), .i (.call 21 82 false [(.s 18), (.s 19)]), .i (.mov 1 (.s 20))]) (.seq (.seq (.ops [.i (.mov 21 (.s 1)), .i (.bin 22 .lss (.s 21) (.c (.val false [.int .i64 0])))]) (.cond (.s 22) (.seq (.ops [.i (.mov 4 (.c (.val false [.int .i64 (-1)])))]) .ret) .skip)) (.seq (.ops [.i (.mov 23 (.s 1)), .i (.mov 4 (.s 23))]) .ret))))))))⟩
theorem k52 : cd 52 = some c52 := by kernel_rfl
theorem sz_Qc : SzOk cd 52 TQc := by
  intro h cs v S k hv hk
  obtain ⟨vs, rfl, q0⟩ := hv.st
  obtain ⟨v0, r0, S0, T0, rfl, rfl, h0, q1⟩ := q0.step
  obtain ⟨n0, e0, rfl, rfl, lo0, hi0⟩ := h0.int
  obtain ⟨v1, r1, S1, T1, rfl, rfl, h1, q2⟩ := q1.step
  obtain ⟨n1, e1, rfl, rfl, lo1, hi1⟩ := h1.int
  obtain ⟨v2, r2, S2, T2, rfl, rfl, h2, q3⟩ := q2.step
  obtain ⟨c2, e2⟩ := h2.one rfl
  rw [e2] at h2
  obtain ⟨v3, r3, S3, T3, rfl, rfl, h3, q4⟩ := q3.step
  obtain ⟨c3, e3⟩ := h3.one rfl
  rw [e3] at h3
  obtain ⟨v4, r4, S4, T4, rfl, rfl, h4, q5⟩ := q4.step
  obtain ⟨c4, e4⟩ := h4.one rfl
  rw [e4] at h4
  obtain ⟨_, rfl, rfl⟩ := q5
  have hsz : cs.length = 5 := hv.size
  simp only [Ty.size, Ty.sizes, Nat.reduceAdd, Nat.zero_add, List.drop_zero] at e0 e1 e2 e3 e4 hsz
  have hw : wt (.r [.i n0, .i n1, v2, v3, v4]) = wt v2 + wt v3 + wt v4 := by simp only [wt, wts]; omega
  rw [hw]
  refine WS_enter k52 rfl ?_
  simp (disch := omega) only [c52, e0, e1, e2, e3, e4, hsz, ifT, w64, SQ, SU, SL, reduceCtorEq, Nat.reduceAdd, Nat.reduceLeDiff, reduceIte]
  refine SzOk.go sz_ByteS h2 (k := k) (by omega) (fun hf0 => ?_) (fun hf0 => ?_)
  case refine_2 =>
    simp (disch := omega) only [KC_eq, c52, e0, e1, e2, e3, e4, hsz, ifT, w64, SQ, SU, SL, reduceCtorEq, Nat.reduceAdd, Nat.reduceLeDiff, reduceIte]
    refine BR_dec (fun hn => ?_) (fun hn => absurd (show (-1 : Int) < 0 by omega) hn)
    simp (disch := omega) only [c52, e0, e1, e2, e3, e4, hsz, ifT, w64, SQ, SU, SL, reduceCtorEq, Nat.reduceAdd, Nat.reduceLeDiff, reduceIte]
    rw [if_neg (by omega)]
  simp (disch := omega) only [KC_eq, c52, e0, e1, e2, e3, e4, hsz, ifT, w64, SQ, SU, SL, reduceCtorEq, Nat.reduceAdd, Nat.reduceLeDiff, reduceIte]
  refine BR_dec (fun hn => absurd hn (by omega)) (fun hn => ?_)
  simp (disch := omega) only [c52, e0, e1, e2, e3, e4, hsz, ifT, w64, SQ, SU, SL, reduceCtorEq, Nat.reduceAdd, Nat.reduceLeDiff, reduceIte]
  refine SzOk.go sz_ByteS h3 (k := k - wt v2) (by omega) (fun hf1 => ?_) (fun hf1 => ?_)
  case refine_2 =>
    simp (disch := omega) only [KC_eq, c52, e0, e1, e2, e3, e4, hsz, ifT, w64, SQ, SU, SL, reduceCtorEq, Nat.reduceAdd, Nat.reduceLeDiff, reduceIte]
    refine BR_dec (fun hn => ?_) (fun hn => absurd (show (-1 : Int) < 0 by omega) hn)
    simp (disch := omega) only [c52, e0, e1, e2, e3, e4, hsz, ifT, w64, SQ, SU, SL, reduceCtorEq, Nat.reduceAdd, Nat.reduceLeDiff, reduceIte]
    rw [if_neg (by omega)]
  simp (disch := omega) only [KC_eq, c52, e0, e1, e2, e3, e4, hsz, ifT, w64, SQ, SU, SL, reduceCtorEq, Nat.reduceAdd, Nat.reduceLeDiff, reduceIte]
  refine BR_dec (fun hn => absurd hn (by omega)) (fun hn => ?_)
  simp (disch := omega) only [c52, e0, e1, e2, e3, e4, hsz, ifT, w64, SQ, SU, SL, reduceCtorEq, Nat.reduceAdd, Nat.reduceLeDiff, reduceIte]
  refine SzOk.go sz_ByteSS h4 (k := k - wt v2 - wt v3) (by omega) (fun hf2 => ?_) (fun hf2 => ?_)
  case refine_2 =>
    simp (disch := omega) only [KC_eq, c52, e0, e1, e2, e3, e4, hsz, ifT, w64, SQ, SU, SL, reduceCtorEq, Nat.reduceAdd, Nat.reduceLeDiff, reduceIte]
    refine BR_dec (fun hn => ?_) (fun hn => absurd (show (-1 : Int) < 0 by omega) hn)
    simp (disch := omega) only [c52, e0, e1, e2, e3, e4, hsz, ifT, w64, SQ, SU, SL, reduceCtorEq, Nat.reduceAdd, Nat.reduceLeDiff, reduceIte]
    rw [if_neg (by omega)]
  simp (disch := omega) only [KC_eq, c52, e0, e1, e2, e3, e4, hsz, ifT, w64, SQ, SU, SL, reduceCtorEq, Nat.reduceAdd, Nat.reduceLeDiff, reduceIte]
  refine BR_dec (fun hn => absurd hn (by omega)) (fun hn => ?_)
  simp (disch := omega) only [c52, e0, e1, e2, e3, e4, hsz, ifT, w64, SQ, SU, SL, reduceCtorEq, Nat.reduceAdd, Nat.reduceLeDiff, reduceIte]
  congr 3
  omega
/-- laws.szHead -/
def c16 : AF := ⟨2, 5, [.tmp 4], (.seq (.ops [.i (.lbox 2 (.s 0)), .i (.mov 4 (.c (.val false [.int .i64 0])))]) (.seq (.ops [.i (.fad 5 (.s 2) 3), .i (.ldl 6 2 (.s 5) 1 false), .i (.mov 7 (.s 1)), .i (.call 9 51 false [(.s 6), (.s 7)]), .i (.mov 1 (.s 8))]) (.seq (.seq (.ops [.i (.mov 9 (.s 1)), .i (.bin 10 .lss (.s 9) (.c (.val false [.int .i64 0])))]) (.cond (.s 10) (.seq (.ops [.i (.mov 4 (.c (.val false [.int .i64 (-1)])))]) .ret) .skip)) (.seq (.ops [.i (.fad 11 (.s 2) 4), .i (.ldl 12 2 (.s 11) 1 false), .i (.mov 13 (.s 1)), .i (.call 15 51 false [(.s 12), (.s 13)]), .i (.mov 1 (.s 14))]) (.seq (.seq (.ops [.i (.mov 15 (.s 1)), .i (.bin 16 .lss (.s 15) (.c (.val false [.int .i64 0])))]) (.cond (.s 16) (.seq (.ops [.i (.mov 4 (.c (.val false [.int .i64 (-1)])))]) .ret) .skip)) (.seq (.ops [.i (.fad 17 (.s 2) 5), .i (.ldl 18 2 (.s 17) 5 true), .i (.mov 19 (.s 1)), .i (.call 21 52 false [(.s 18), (.s 19)]), .i (.mov 1 (.s 20))]) (.seq (.seq (.ops [.i (.mov 21 (.s 1)), .i (.bin 22 .lss (.s 21) (.c (.val false [.int .i64 0])))]) (.cond (.s 22) (.seq (.ops [.i (.mov 4 (.c (.val false [.int .i64 (-1)])))]) .ret) .skip)) (.seq (.ops [.i (.mov 23 (.s 1)), .i (.mov 4 (.s 23))]) .ret))))))))⟩
theorem k16 : cd 16 = some c16 := by kernel_rfl
theorem sz_Head : SzOk cd 16 THead := by
  intro h cs v S k hv hk
  obtain ⟨vs, rfl, q0⟩ := hv.st
  obtain ⟨v0, r0, S0, T0, rfl, rfl, h0, q1⟩ := q0.step
  obtain ⟨n0, e0, rfl, rfl, lo0, hi0⟩ := h0.int
  obtain ⟨v1, r1, S1, T1, rfl, rfl, h1, q2⟩ := q1.step
  obtain ⟨n1, e1, rfl, rfl, lo1, hi1⟩ := h1.int
  obtain ⟨v2, r2, S2, T2, rfl, rfl, h2, q3⟩ := q2.step
  obtain ⟨n2, e2, rfl, rfl, lo2, hi2⟩ := h2.int
  obtain ⟨v3, r3, S3, T3, rfl, rfl, h3, q4⟩ := q3.step
  obtain ⟨c3, e3⟩ := h3.one rfl
  rw [e3] at h3
  obtain ⟨v4, r4, S4, T4, rfl, rfl, h4, q5⟩ := q4.step
  obtain ⟨c4, e4⟩ := h4.one rfl
  rw [e4] at h4
  obtain ⟨v5, r5, S5, T5, rfl, rfl, h5, q6⟩ := q5.step
  obtain ⟨_, rfl, rfl⟩ := q6
  have hsz : cs.length = 10 := hv.size
  simp only [Ty.size, Ty.sizes, Nat.reduceAdd, Nat.zero_add, List.drop_zero] at e0 e1 e2 e3 e4 hsz h5
  have hw : wt (.r [.i n0, .i n1, .i n2, v3, v4, v5]) = wt v3 + wt v4 + wt v5 := by simp only [wt, wts]; omega
  rw [hw]
  refine WS_enter k16 rfl ?_
  simp (disch := omega) only [c16, e0, e1, e2, e3, e4, hsz, ifT, w64, SQ, SU, SL, reduceCtorEq, Nat.reduceAdd, Nat.reduceLeDiff, reduceIte]
  refine SzOk.go sz_ByteS h3 (k := k) (by omega) (fun hf0 => ?_) (fun hf0 => ?_)
  case refine_2 =>
    simp (disch := omega) only [KC_eq, c16, e0, e1, e2, e3, e4, hsz, ifT, w64, SQ, SU, SL, reduceCtorEq, Nat.reduceAdd, Nat.reduceLeDiff, reduceIte]
    refine BR_dec (fun hn => ?_) (fun hn => absurd (show (-1 : Int) < 0 by omega) hn)
    simp (disch := omega) only [c16, e0, e1, e2, e3, e4, hsz, ifT, w64, SQ, SU, SL, reduceCtorEq, Nat.reduceAdd, Nat.reduceLeDiff, reduceIte]
    rw [if_neg (by omega)]
  simp (disch := omega) only [KC_eq, c16, e0, e1, e2, e3, e4, hsz, ifT, w64, SQ, SU, SL, reduceCtorEq, Nat.reduceAdd, Nat.reduceLeDiff, reduceIte]
  refine BR_dec (fun hn => absurd hn (by omega)) (fun hn => ?_)
  simp (disch := omega) only [c16, e0, e1, e2, e3, e4, hsz, ifT, w64, SQ, SU, SL, reduceCtorEq, Nat.reduceAdd, Nat.reduceLeDiff, reduceIte]
  refine SzOk.go sz_ByteS h4 (k := k - wt v3) (by omega) (fun hf1 => ?_) (fun hf1 => ?_)
  case refine_2 =>
    simp (disch := omega) only [KC_eq, c16, e0, e1, e2, e3, e4, hsz, ifT, w64, SQ, SU, SL, reduceCtorEq, Nat.reduceAdd, Nat.reduceLeDiff, reduceIte]
    refine BR_dec (fun hn => ?_) (fun hn => absurd (show (-1 : Int) < 0 by omega) hn)
    simp (disch := omega) only [c16, e0, e1, e2, e3, e4, hsz, ifT, w64, SQ, SU, SL, reduceCtorEq, Nat.reduceAdd, Nat.reduceLeDiff, reduceIte]
    rw [if_neg (by omega)]
  simp (disch := omega) only [KC_eq, c16, e0, e1, e2, e3, e4, hsz, ifT, w64, SQ, SU, SL, reduceCtorEq, Nat.reduceAdd, Nat.reduceLeDiff, reduceIte]
  refine BR_dec (fun hn => absurd hn (by omega)) (fun hn => ?_)
  simp (disch := omega) only [c16, e0, e1, e2, e3, e4, hsz, ifT, w64, SQ, SU, SL, reduceCtorEq, Nat.reduceAdd, Nat.reduceLeDiff, reduceIte]
  refine SzOk.go sz_Qc h5 (k := k - wt v3 - wt v4) (by omega) (fun hf2 => ?_) (fun hf2 => ?_)
  case refine_2 =>
    simp (disch := omega) only [KC_eq, c16, e0, e1, e2, e3, e4, hsz, ifT, w64, SQ, SU, SL, reduceCtorEq, Nat.reduceAdd, Nat.reduceLeDiff, reduceIte]
    refine BR_dec (fun hn => ?_) (fun hn => absurd (show (-1 : Int) < 0 by omega) hn)
    simp (disch := omega) only [c16, e0, e1, e2, e3, e4, hsz, ifT, w64, SQ, SU, SL, reduceCtorEq, Nat.reduceAdd, Nat.reduceLeDiff, reduceIte]
    rw [if_neg (by omega)]
  simp (disch := omega) only [KC_eq, c16, e0, e1, e2, e3, e4, hsz, ifT, w64, SQ, SU, SL, reduceCtorEq, Nat.reduceAdd, Nat.reduceLeDiff, reduceIte]
  refine BR_dec (fun hn => absurd hn (by omega)) (fun hn => ?_)
  simp (disch := omega) only [c16, e0, e1, e2, e3, e4, hsz, ifT, w64, SQ, SU, SL, reduceCtorEq, Nat.reduceAdd, Nat.reduceLeDiff, reduceIte]
  congr 3
  omega
/-- laws.toByteSS -/
def c91 : AF := ⟨1, 5, [.tmp 2], (.seq (.ops [.i (.mov 2 (.c (.val false [.nils])))]) (.seq (.ops [.i (.mov 5 (.s 0)), .i (.len 6 false (.s 5)), .i (.mks 7 27 1 24 [.nils] (.s 6)), .i (.mov 3 (.s 7))]) (.seq (.seq (.ops [.i (.mov 4 (.c (.val false [.int .i64 0])))]) (.block 0 (.loop [21, 20, 19, 18, 17, 16, 15, 14, 13, 12, 11, 10, 9, 8] (.seq (.seq (.ops [.i (.mov 8 (.s 4)), .i (.mov 9 (.s 0)), .i (.len 10 false (.s 9)), .i (.bin 11 .lss (.s 8) (.s 10))]) (.cond (.s 11) .skip (.exit 0))) (.seq (.block 1 (.ops [.i (.mov 14 (.s 3)), .i (.mov 15 (.s 4)), .i (.mov 16 (.s 0)), .i (.mov 17 (.s 4)), .i (.iad 18 (.s 16) (.s 17) 1), .i (.ldh 19 (.s 18) 1 false), .i (.call 21 21 false [(.s 19)]), .i (.iad 21 (.s 14) (.s 15) 1), .i (.sth (.s 21) (.s 20) 1)])) (.ops [.i (.mov 12 (.s 4)), .i (.bin 13 .add (.s 12) (.c (.val false [.int .i64 1]))), .i (.mov 4 (.s 13))])))))) (.seq (.ops [.i (.mov 22 (.s 3)), .i (.mov 2 (.s 22))]) .ret))))⟩
theorem k91 : cd 91 = some c91 := by kernel_rfl
theorem to_ByteSS : ToOk cd 91 (.sl (.sl (.int .u8))) := to_sl k91 (by omega) rfl to_ByteS
/-- laws.toQc -/
def c58 : AF := ⟨1, 5, [.cell 2 5 true], (.seq (.ops [.i (.lbox 1 (.s 0)), .i (.lal 2 [.int .i64 0, .int .i64 0, .nils, .nils, .nils])]) (.seq (.ops [.i (.lal 3 [.int .i64 0, .int .i64 0, .nils, .nils, .nils])]) (.seq (.ops [.i (.fad 4 (.s 1) 0), .i (.ldl 5 1 (.s 4) 1 false), .i (.fad 6 (.s 3) 0), .i (.stl 3 (.s 6) (.s 5) 1)]) (.seq (.ops [.i (.fad 7 (.s 1) 1), .i (.ldl 8 1 (.s 7) 1 false), .i (.fad 9 (.s 3) 1), .i (.stl 3 (.s 9) (.s 8) 1)]) (.seq (.ops [.i (.fad 10 (.s 1) 2), .i (.ldl 11 1 (.s 10) 1 false), .i (.call 13 21 false [(.s 11)]), .i (.fad 13 (.s 3) 2), .i (.stl 3 (.s 13) (.s 12) 1)]) (.seq (.ops [.i (.fad 14 (.s 1) 3), .i (.ldl 15 1 (.s 14) 1 false), .i (.call 17 21 false [(.s 15)]), .i (.fad 17 (.s 3) 3), .i (.stl 3 (.s 17) (.s 16) 1)]) (.seq (.ops [.i (.fad 18 (.s 1) 4), .i (.ldl 19 1 (.s 18) 1 false), .i (.call 21 91 false [(.s 19)]), .i (.fad 21 (.s 3) 4), .i (.stl 3 (.s 21) (.s 20) 1)]) (.seq (.ops [.i (.ldl 22 3 (.s 3) 5 true), .i (.stl 2 (.s 2) (.s 22) 5)]) .ret))))))))⟩
theorem k58 : cd 58 = some c58 := by kernel_rfl
theorem to_Qc : ToOk cd 58 TQc := by
  intro h cs v S hv hw
  obtain ⟨vs, rfl, q0⟩ := hv.st
  obtain ⟨v0, r0, S0, T0, rfl, rfl, h0, q1⟩ := q0.step
  obtain ⟨n0, e0, rfl, rfl, lo0, hi0⟩ := h0.int
  obtain ⟨v1, r1, S1, T1, rfl, rfl, h1, q2⟩ := q1.step
  obtain ⟨n1, e1, rfl, rfl, lo1, hi1⟩ := h1.int
  obtain ⟨v2, r2, S2, T2, rfl, rfl, h2, q3⟩ := q2.step
  obtain ⟨c2, e2⟩ := h2.one rfl
  rw [e2] at h2
  obtain ⟨v3, r3, S3, T3, rfl, rfl, h3, q4⟩ := q3.step
  obtain ⟨c3, e3⟩ := h3.one rfl
  rw [e3] at h3
  obtain ⟨v4, r4, S4, T4, rfl, rfl, h4, q5⟩ := q4.step
  obtain ⟨c4, e4⟩ := h4.one rfl
  rw [e4] at h4
  obtain ⟨_, rfl, rfl⟩ := q5
  have hsz : cs.length = 5 := hv.size
  simp only [Ty.size, Ty.sizes, Nat.reduceAdd, Nat.zero_add, List.drop_zero] at e0 e1 e2 e3 e4 hsz
  simp only [wt, wts] at hw
  refine WS_enter k58 rfl ?_
  simp (disch := omega) only [KC_eq, c58, e0, e1, e2, e3, e4, hsz, ifT, w64, SQ, SU, SL, reduceCtorEq, Nat.reduceAdd, Nat.reduceLeDiff, reduceIte]
  refine WC_call (to_ByteS h2 (by omega)) ?_
  rintro r0 g0 ⟨t0, d0, U0, rfl, rfl, z0, o0, l0⟩
  obtain ⟨y0_0, rfl⟩ := z0.one rfl
  simp (disch := omega) only [KC_eq, c58, e0, e1, e2, e3, e4, hsz, ifT, w64, SQ, SU, SL, reduceCtorEq, Nat.reduceAdd, Nat.reduceLeDiff, reduceIte]
  refine WC_call (to_ByteS (h3.app) (by omega)) ?_
  rintro r1 g1 ⟨t1, d1, U1, rfl, rfl, z1, o1, l1⟩
  obtain ⟨y1_0, rfl⟩ := z1.one rfl
  simp (disch := omega) only [KC_eq, c58, e0, e1, e2, e3, e4, hsz, ifT, w64, SQ, SU, SL, reduceCtorEq, Nat.reduceAdd, Nat.reduceLeDiff, reduceIte]
  refine WC_call (to_ByteSS ((h4.app).app) (by omega)) ?_
  rintro r2 g2 ⟨t2, d2, U2, rfl, rfl, z2, o2, l2⟩
  obtain ⟨y2_0, rfl⟩ := z2.one rfl
  simp (disch := omega) only [KC_eq, c58, e0, e1, e2, e3, e4, hsz, ifT, w64, SQ, SU, SL, reduceCtorEq, Nat.reduceAdd, Nat.reduceLeDiff, reduceIte]
  refine ⟨(t0 ++ (t1 ++ t2)), _, _, by simp only [List.append_assoc], rfl, ⟨_, rfl, (Rs.mk (Rp.mkInt lo0 hi0) (Rs.mk (Rp.mkInt lo1 hi1) (Rs.mk ((z0.app).app) (Rs.mk (z1.app) (Rs.mk z2 Rs.nil)))))⟩, ?_⟩
  have fr := (Fre.step (Fre.step (Fre.step (Fre.nil h) z0.lt o0 l0) z1.lt o1 l1) z2.lt o2 l2)
  simpa only [List.nil_append, List.append_nil, List.append_assoc] using fr.both
/-- laws.toHead -/
def c20 : AF := ⟨1, 5, [.cell 2 10 true], (.seq (.ops [.i (.lbox 1 (.s 0)), .i (.lal 2 [.int .i64 0, .int .i64 0, .int .i64 0, .nils, .nils, .int .i64 0, .int .i64 0, .nils, .nils, .nils])]) (.seq (.ops [.i (.lal 3 [.int .i64 0, .int .i64 0, .int .i64 0, .nils, .nils, .int .i64 0, .int .i64 0, .nils, .nils, .nils])]) (.seq (.ops [.i (.fad 4 (.s 1) 0), .i (.ldl 5 1 (.s 4) 1 false), .i (.fad 6 (.s 3) 0), .i (.stl 3 (.s 6) (.s 5) 1)]) (.seq (.ops [.i (.fad 7 (.s 1) 1), .i (.ldl 8 1 (.s 7) 1 false), .i (.fad 9 (.s 3) 1), .i (.stl 3 (.s 9) (.s 8) 1)]) (.seq (.ops [.i (.fad 10 (.s 1) 2), .i (.ldl 11 1 (.s 10) 1 false), .i (.fad 12 (.s 3) 2), .i (.stl 3 (.s 12) (.s 11) 1)]) (.seq (.ops [.i (.fad 13 (.s 1) 3), .i (.ldl 14 1 (.s 13) 1 false), .i (.call 16 21 false [(.s 14)]), .i (.fad 16 (.s 3) 3), .i (.stl 3 (.s 16) (.s 15) 1)]) (.seq (.ops [.i (.fad 17 (.s 1) 4), .i (.ldl 18 1 (.s 17) 1 false), .i (.call 20 21 false [(.s 18)]), .i (.fad 20 (.s 3) 4), .i (.stl 3 (.s 20) (.s 19) 1)]) (.seq (.ops [.i (.fad 21 (.s 1) 5), .i (.ldl 22 1 (.s 21) 5 true), .i (.call 24 58 false [(.s 22)]), .i (.fad 24 (.s 3) 5), .i (.stl 3 (.s 24) (.s 23) 5)]) (.seq (.ops [.i (.ldl 25 3 (.s 3) 10 true), .i (.stl 2 (.s 2) (.s 25) 10)]) .ret)))))))))⟩
theorem k20 : cd 20 = some c20 := by kernel_rfl
theorem to_Head : ToOk cd 20 THead := by
  intro h cs v S hv hw
  obtain ⟨vs, rfl, q0⟩ := hv.st
  obtain ⟨v0, r0, S0, T0, rfl, rfl, h0, q1⟩ := q0.step
  obtain ⟨n0, e0, rfl, rfl, lo0, hi0⟩ := h0.int
  obtain ⟨v1, r1, S1, T1, rfl, rfl, h1, q2⟩ := q1.step
  obtain ⟨n1, e1, rfl, rfl, lo1, hi1⟩ := h1.int
  obtain ⟨v2, r2, S2, T2, rfl, rfl, h2, q3⟩ := q2.step
  obtain ⟨n2, e2, rfl, rfl, lo2, hi2⟩ := h2.int
  obtain ⟨v3, r3, S3, T3, rfl, rfl, h3, q4⟩ := q3.step
  obtain ⟨c3, e3⟩ := h3.one rfl
  rw [e3] at h3
  obtain ⟨v4, r4, S4, T4, rfl, rfl, h4, q5⟩ := q4.step
  obtain ⟨c4, e4⟩ := h4.one rfl
  rw [e4] at h4
  obtain ⟨v5, r5, S5, T5, rfl, rfl, h5, q6⟩ := q5.step
  obtain ⟨_, rfl, rfl⟩ := q6
  have hsz : cs.length = 10 := hv.size
  simp only [Ty.size, Ty.sizes, Nat.reduceAdd, Nat.zero_add, List.drop_zero] at e0 e1 e2 e3 e4 hsz h5
  simp only [wt, wts] at hw
  refine WS_enter k20 rfl ?_
  simp (disch := omega) only [KC_eq, c20, e0, e1, e2, e3, e4, hsz, ifT, w64, SQ, SU, SL, reduceCtorEq, Nat.reduceAdd, Nat.reduceLeDiff, reduceIte]
  refine WC_call (to_ByteS h3 (by omega)) ?_
  rintro r0 g0 ⟨t0, d0, U0, rfl, rfl, z0, o0, l0⟩
  obtain ⟨y0_0, rfl⟩ := z0.one rfl
  simp (disch := omega) only [KC_eq, c20, e0, e1, e2, e3, e4, hsz, ifT, w64, SQ, SU, SL, reduceCtorEq, Nat.reduceAdd, Nat.reduceLeDiff, reduceIte]
  refine WC_call (to_ByteS (h4.app) (by omega)) ?_
  rintro r1 g1 ⟨t1, d1, U1, rfl, rfl, z1, o1, l1⟩
  obtain ⟨y1_0, rfl⟩ := z1.one rfl
  simp (disch := omega) only [KC_eq, c20, e0, e1, e2, e3, e4, hsz, ifT, w64, SQ, SU, SL, reduceCtorEq, Nat.reduceAdd, Nat.reduceLeDiff, reduceIte]
  refine WC_call (to_Qc ((h5.app).app) (by omega)) ?_
  rintro r2 g2 ⟨t2, d2, U2, rfl, rfl, z2, o2, l2⟩
  obtain ⟨y2_0, y2_1, y2_2, y2_3, y2_4, rfl⟩ := len_5 z2.size
  simp (disch := omega) only [KC_eq, c20, e0, e1, e2, e3, e4, hsz, ifT, w64, SQ, SU, SL, reduceCtorEq, Nat.reduceAdd, Nat.reduceLeDiff, reduceIte]
  refine ⟨(t0 ++ (t1 ++ t2)), _, _, by simp only [List.append_assoc], rfl, ⟨_, rfl, (Rs.mk (Rp.mkInt lo0 hi0) (Rs.mk (Rp.mkInt lo1 hi1) (Rs.mk (Rp.mkInt lo2 hi2) (Rs.mk ((z0.app).app) (Rs.mk (z1.app) (Rs.mk z2 Rs.nil))))))⟩, ?_⟩
  have fr := (Fre.step (Fre.step (Fre.step (Fre.nil h) z0.lt o0 l0) z1.lt o1 l1) z2.lt o2 l2)
  simpa only [List.nil_append, List.append_nil, List.append_assoc] using fr.both
/-- laws.eqByteS -/
def c24 : AF := ⟨2, 5, [.tmp 4], (.seq (.ops [.i (.mov 4 (.c (.val false [.bool false])))]) (.seq (.seq (.ops [.i (.mov 6 (.s 0)), .i (.len 7 false (.s 6)), .i (.mov 8 (.s 1)), .i (.len 9 false (.s 8)), .i (.bin 10 .neq (.s 7) (.s 9))]) (.cond (.s 10) (.seq (.ops [.i (.mov 4 (.c (.val false [.bool false])))]) .ret) .skip)) (.seq (.seq (.ops [.i (.mov 5 (.c (.val false [.int .i64 0])))]) (.block 0 (.loop [25, 24, 23, 22, 21, 20, 19, 18, 17, 16, 15, 14, 13, 12, 11] (.seq (.seq (.ops [.i (.mov 11 (.s 5)), .i (.mov 12 (.s 0)), .i (.len 13 false (.s 12)), .i (.bin 14 .lss (.s 11) (.s 13))]) (.cond (.s 14) .skip (.exit 0))) (.seq (.block 1 (.seq (.ops [.i (.mov 17 (.s 0)), .i (.mov 18 (.s 5)), .i (.iad 19 (.s 17) (.s 18) 1), .i (.ldh 20 (.s 19) 1 false), .i (.mov 21 (.s 1)), .i (.mov 22 (.s 5)), .i (.iad 23 (.s 21) (.s 22) 1), .i (.ldh 24 (.s 23) 1 false), .i (.bin 25 .neq (.s 20) (.s 24))]) (.cond (.s 25) (.seq (.ops [.i (.mov 4 (.c (.val false [.bool false])))]) .ret) .skip))) (.ops [.i (.mov 15 (.s 5)), .i (.bin 16 .add (.s 15) (.c (.val false [.int .i64 1]))), .i (.mov 5 (.s 16))])))))) (.seq (.ops [.i (.mov 4 (.c (.val false [.bool true])))]) .ret))))⟩
theorem k24 : cd 24 = some c24 := by kernel_rfl
theorem eq_ByteS : EqOk cd 24 (.sl (.int .u8)) := eq_leaf k24
/-- laws.eqRow -/
def c99 : AF := ⟨2, 5, [.tmp 4], (.seq (.ops [.i (.lbox 2 (.s 0)), .i (.lbox 3 (.s 1)), .i (.mov 4 (.c (.val false [.bool false])))]) (.seq (.seq (.ops [.i (.fad 5 (.s 2) 0), .i (.ldl 6 2 (.s 5) 1 false), .i (.fad 7 (.s 3) 0), .i (.ldl 8 3 (.s 7) 1 false), .i (.bin 9 .neq (.s 6) (.s 8))]) (.cond (.s 9) (.seq (.ops [.i (.mov 4 (.c (.val false [.bool false])))]) .ret) .skip)) (.seq (.seq (.ops [.i (.fad 10 (.s 2) 1), .i (.ldl 11 2 (.s 10) 1 false), .i (.fad 12 (.s 3) 1), .i (.ldl 13 3 (.s 12) 1 false), .i (.call 15 24 false [(.s 11), (.s 13)]), .i (.not 15 (.s 14))]) (.cond (.s 15) (.seq (.ops [.i (.mov 4 (.c (.val false [.bool false])))]) .ret) .skip)) (.seq (.ops [.i (.mov 4 (.c (.val false [.bool true])))]) .ret))))⟩
theorem k99 : cd 99 = some c99 := by kernel_rfl
theorem eq_Row : EqOk cd 99 TRow := by
  intro h ca cb va vb Sa Sb ha hb
  obtain ⟨avs, rfl, aq0⟩ := ha.st
  obtain ⟨av0, ar0, aS0, aT0, rfl, rfl, ah0, aq1⟩ := aq0.step
  obtain ⟨an0, ae0, rfl, rfl, alo0, ahi0⟩ := ah0.int
  obtain ⟨av1, ar1, aS1, aT1, rfl, rfl, ah1, aq2⟩ := aq1.step
  obtain ⟨ac1, ae1⟩ := ah1.one rfl
  rw [ae1] at ah1
  obtain ⟨_, rfl, rfl⟩ := aq2
  have ahsz : ca.length = 2 := ha.size
  obtain ⟨bvs, rfl, bq0⟩ := hb.st
  obtain ⟨bv0, br0, bS0, bT0, rfl, rfl, bh0, bq1⟩ := bq0.step
  obtain ⟨bn0, be0, rfl, rfl, blo0, bhi0⟩ := bh0.int
  obtain ⟨bv1, br1, bS1, bT1, rfl, rfl, bh1, bq2⟩ := bq1.step
  obtain ⟨bc1, be1⟩ := bh1.one rfl
  rw [be1] at bh1
  obtain ⟨_, rfl, rfl⟩ := bq2
  have bhsz : cb.length = 2 := hb.size
  simp only [Ty.size, Ty.sizes, Nat.reduceAdd, Nat.zero_add, List.drop_zero] at ae0 ae1 ahsz be0 be1 bhsz
  refine WS_enter k99 rfl ?_
  simp (disch := omega) only [KC_eq, c99, ae0, ae1, ahsz, be0, be1, bhsz, ifT, w64, SQ, SU, SL, reduceCtorEq, Nat.reduceAdd, Nat.reduceLeDiff, reduceIte]
  refine BR_dec (fun hn => ?_) (fun hn => ?_)
  case refine_1 =>
    simp (disch := omega) only [KC_eq, c99, ae0, ae1, ahsz, be0, be1, bhsz, ifT, w64, SQ, SU, SL, reduceCtorEq, Nat.reduceAdd, Nat.reduceLeDiff, reduceIte]
    simp [hn]
  have d0 : an0 = bn0 := by omega
  subst d0
  simp (disch := omega) only [KC_eq, c99, ae0, ae1, ahsz, be0, be1, bhsz, ifT, w64, SQ, SU, SL, reduceCtorEq, Nat.reduceAdd, Nat.reduceLeDiff, reduceIte]
  refine EqOk.go eq_ByteS ah1 bh1 (fun d1 => ?_) (fun d1 => ?_)
  case refine_2 =>
    simp (disch := omega) only [KC_eq, c99, ae0, ae1, ahsz, be0, be1, bhsz, ifT, w64, SQ, SU, SL, reduceCtorEq, Nat.reduceAdd, Nat.reduceLeDiff, reduceIte]
    simp [d1]
  subst d1
  simp (disch := omega) only [KC_eq, c99, ae0, ae1, ahsz, be0, be1, bhsz, ifT, w64, SQ, SU, SL, reduceCtorEq, Nat.reduceAdd, Nat.reduceLeDiff, reduceIte]
/-- laws.eqRowS -/
def c63 : AF := ⟨2, 5, [.tmp 4], (.seq (.ops [.i (.mov 4 (.c (.val false [.bool false])))]) (.seq (.seq (.ops [.i (.mov 6 (.s 0)), .i (.len 7 false (.s 6)), .i (.mov 8 (.s 1)), .i (.len 9 false (.s 8)), .i (.bin 10 .neq (.s 7) (.s 9))]) (.cond (.s 10) (.seq (.ops [.i (.mov 4 (.c (.val false [.bool false])))]) .ret) .skip)) (.seq (.seq (.ops [.i (.mov 5 (.c (.val false [.int .i64 0])))]) (.block 0 (.loop [26, 25, 24, 23, 22, 21, 20, 19, 18, 17, 16, 15, 14, 13, 12, 11] (.seq (.seq (.ops [.i (.mov 11 (.s 5)), .i (.mov 12 (.s 0)), .i (.len 13 false (.s 12)), .i (.bin 14 .lss (.s 11) (.s 13))]) (.cond (.s 14) .skip (.exit 0))) (.seq (.block 1 (.seq (.ops [.i (.mov 17 (.s 0)), .i (.mov 18 (.s 5)), .i (.iad 19 (.s 17) (.s 18) 2), .i (.ldh 20 (.s 19) 2 true), .i (.mov 21 (.s 1)), .i (.mov 22 (.s 5)), .i (.iad 23 (.s 21) (.s 22) 2), .i (.ldh 24 (.s 23) 2 true), .i (.call 26 99 false [(.s 20), (.s 24)]), .i (.not 26 (.s 25))]) (.cond (.s 26) (.seq (.ops [.i (.mov 4 (.c (.val false [.bool false])))]) .ret) .skip))) (.ops [.i (.mov 15 (.s 5)), .i (.bin 16 .add (.s 15) (.c (.val false [.int .i64 1]))), .i (.mov 5 (.s 16))])))))) (.seq (.ops [.i (.mov 4 (.c (.val false [.bool true])))]) .ret))))⟩
theorem k63 : cd 63 = some c63 := by kernel_rfl
theorem eq_RowS : EqOk cd 63 (.sl TRow) := eq_sl k63 eq_Row
/-- laws.eqTable -/
def c23 : AF := ⟨2, 4, [.tmp 4], (.seq (.ops [.i (.lbox 2 (.s 0)), .i (.lbox 3 (.s 1)), .i (.mov 4 (.c (.val false [.bool false])))]) (.seq (.seq (.ops [.i (.fad 5 (.s 2) 0), .i (.ldl 6 2 (.s 5) 1 false), .i (.fad 7 (.s 3) 0), .i (.ldl 8 3 (.s 7) 1 false), .i (.call 10 63 false [(.s 6), (.s 8)]), .i (.not 10 (.s 9))]) (.cond (.s 10) (.seq (.ops [.i (.mov 4 (.c (.val false [.bool false])))]) .ret) .skip)) (.seq (.ops [.i (.mov 4 (.c (.val false [.bool true])))]) .ret)))⟩
theorem k23 : cd 23 = some c23 := by kernel_rfl
theorem eq_Table : EqOk cd 23 TTable := by
  intro h ca cb va vb Sa Sb ha hb
  obtain ⟨avs, rfl, aq0⟩ := ha.st
  obtain ⟨av0, ar0, aS0, aT0, rfl, rfl, ah0, aq1⟩ := aq0.step
  obtain ⟨ac0, ae0⟩ := ah0.one rfl
  rw [ae0] at ah0
  obtain ⟨_, rfl, rfl⟩ := aq1
  have ahsz : ca.length = 1 := ha.size
  obtain ⟨bvs, rfl, bq0⟩ := hb.st
  obtain ⟨bv0, br0, bS0, bT0, rfl, rfl, bh0, bq1⟩ := bq0.step
  obtain ⟨bc0, be0⟩ := bh0.one rfl
  rw [be0] at bh0
  obtain ⟨_, rfl, rfl⟩ := bq1
  have bhsz : cb.length = 1 := hb.size
  simp only [Ty.size, Ty.sizes, Nat.reduceAdd, Nat.zero_add, List.drop_zero] at ae0 ahsz be0 bhsz
  refine WS_enter k23 rfl ?_
  simp (disch := omega) only [KC_eq, c23, ae0, ahsz, be0, bhsz, ifT, w64, SQ, SU, SL, reduceCtorEq, Nat.reduceAdd, Nat.reduceLeDiff, reduceIte]
  refine EqOk.go eq_RowS ah0 bh0 (fun d0 => ?_) (fun d0 => ?_)
  case refine_2 =>
    simp (disch := omega) only [KC_eq, c23, ae0, ahsz, be0, bhsz, ifT, w64, SQ, SU, SL, reduceCtorEq, Nat.reduceAdd, Nat.reduceLeDiff, reduceIte]
    simp [d0]
  subst d0
  simp (disch := omega) only [KC_eq, c23, ae0, ahsz, be0, bhsz, ifT, w64, SQ, SU, SL, reduceCtorEq, Nat.reduceAdd, Nat.reduceLeDiff, reduceIte]
/-- laws.eqByteSS -/
def c79 : AF := ⟨2, 5, [.tmp 4], (.seq (.ops [.i (.mov 4 (.c (.val false [.bool false])))]) (.seq (.seq (.ops [.i (.mov 6 (.s 0)), .i (.len 7 false (.s 6)), .i (.mov 8 (.s 1)), .i (.len 9 false (.s 8)), .i (.bin 10 .neq (.s 7) (.s 9))]) (.cond (.s 10) (.seq (.ops [.i (.mov 4 (.c (.val false [.bool false])))]) .ret) .skip)) (.seq (.seq (.ops [.i (.mov 5 (.c (.val false [.int .i64 0])))]) (.block 0 (.loop [26, 25, 24, 23, 22, 21, 20, 19, 18, 17, 16, 15, 14, 13, 12, 11] (.seq (.seq (.ops [.i (.mov 11 (.s 5)), .i (.mov 12 (.s 0)), .i (.len 13 false (.s 12)), .i (.bin 14 .lss (.s 11) (.s 13))]) (.cond (.s 14) .skip (.exit 0))) (.seq (.block 1 (.seq (.ops [.i (.mov 17 (.s 0)), .i (.mov 18 (.s 5)), .i (.iad 19 (.s 17) (.s 18) 1), .i (.ldh 20 (.s 19) 1 false), .i (.mov 21 (.s 1)), .i (.mov 22 (.s 5)), .i (.iad 23 (.s 21) (.s 22) 1), .i (.ldh 24 (.s 23) 1 false), .i (.call 26 24 false [(.s 20), (.s 24)]), .i (.not 26 (.s 25))]) (.cond (.s 26) (.seq (.ops [.i (.mov 4 (.c (.val false [.bool false])))]) .ret) .skip))) (.ops [.i (.mov 15 (.s 5)), .i (.bin 16 .add (.s 15) (.c (.val false [.int .i64 1]))), .i (.mov 5 (.s 16))])))))) (.seq (.ops [.i (.mov 4 (.c (.val false [.bool true])))]) .ret))))⟩
theorem k79 : cd 79 = some c79 := by kernel_rfl
theorem eq_ByteSS : EqOk cd 79 (.sl (.sl (.int .u8))) := eq_sl k79 eq_ByteS
/-- laws.eqQc -/
def c43 : AF := ⟨2, 6, [.tmp 4], (.seq (.ops [.i (.lbox 2 (.s 0)), .i (.lbox 3 (.s 1)), .i (.mov 4 (.c (.val false [.bool false])))]) (.seq (.seq (.ops [.i (.fad 5 (.s 2) 0), .i (.ldl 6 2 (.s 5) 1 false), .i (.fad 7 (.s 3) 0), .i (.ldl 8 3 (.s 7) 1 false), .i (.bin 9 .neq (.s 6) (.s 8))]) (.cond (.s 9) (.seq (.ops [.i (.mov 4 (.c (.val false [.bool false])))]) .ret) .skip)) (.seq (.seq (.ops [.i (.fad 10 (.s 2) 1), .i (.ldl 11 2 (.s 10) 1 false), .i (.fad 12 (.s 3) 1), .i (.ldl 13 3 (.s 12) 1 false), .i (.bin 14 .neq (.s 11) (.s 13))]) (.cond (.s 14) (.seq (.ops [.i (.mov 4 (.c (.val false [.bool false])))]) .ret) .skip)) (.seq (.seq (.ops [.i (.fad 15 (.s 2) 2), .i (.ldl 16 2 (.s 15) 1 false), .i (.fad 17 (.s 3) 2), .i (.ldl 18 3 (.s 17) 1 false), .i (.call 20 24 false [(.s 16), (.s 18)]), .i (.not 20 (.s 19))]) (.cond (.s 20) (.seq (.ops [.i (.mov 4 (.c (.val false [.bool false])))]) .ret) .skip)) (.seq (.seq (.ops [.i (.fad 21 (.s 2) 3), .i (.ldl 22 2 (.s 21) 1 false), .i (.fad 23 (.s 3) 3), .i (.ldl 24 3 (.s 23) 1 false), .i (.call 26 24 false [(.s 22), (.s 24)]), .i (.not 26 (.s 25))]) (.cond (.s 26) (.seq (.ops [.i (.mov 4 (.c (.val false [.bool false])))]) .ret) .skip)) (.seq (.seq (.ops [.i (.fad 27 (.s 2) 4), .i (.ldl 28 2 (.s 27) 1 false), .i (.fad 29 (.s 3) 4), .i (.ldl 30 3 (.s 29) 1 false), .i (.call 32 79 false [(.s 28), (.s 30)]), .i (.not 32 (.s 31))]) (.cond (.s 32) (.seq (.ops [.i (.mov 4 (.c (.val false [.bool false])))]) .ret) .skip)) (.seq (.ops [.i (.mov 4 (.c (.val false [.bool true])))]) .ret)))))))⟩
theorem k43 : cd 43 = some c43 := by kernel_rfl
theorem eq_Qc : EqOk cd 43 TQc := by
  intro h ca cb va vb Sa Sb ha hb
  obtain ⟨avs, rfl, aq0⟩ := ha.st
  obtain ⟨av0, ar0, aS0, aT0, rfl, rfl, ah0, aq1⟩ := aq0.step
  obtain ⟨an0, ae0, rfl, rfl, alo0, ahi0⟩ := ah0.int
  obtain ⟨av1, ar1, aS1, aT1, rfl, rfl, ah1, aq2⟩ := aq1.step
  obtain ⟨an1, ae1, rfl, rfl, alo1, ahi1⟩ := ah1.int
  obtain ⟨av2, ar2, aS2, aT2, rfl, rfl, ah2, aq3⟩ := aq2.step
  obtain ⟨ac2, ae2⟩ := ah2.one rfl
  rw [ae2] at ah2
  obtain ⟨av3, ar3, aS3, aT3, rfl, rfl, ah3, aq4⟩ := aq3.step
  obtain ⟨ac3, ae3⟩ := ah3.one rfl
  rw [ae3] at ah3
  obtain ⟨av4, ar4, aS4, aT4, rfl, rfl, ah4, aq5⟩ := aq4.step
  obtain ⟨ac4, ae4⟩ := ah4.one rfl
  rw [ae4] at ah4
  obtain ⟨_, rfl, rfl⟩ := aq5
  have ahsz : ca.length = 5 := ha.size
  obtain ⟨bvs, rfl, bq0⟩ := hb.st
  obtain ⟨bv0, br0, bS0, bT0, rfl, rfl, bh0, bq1⟩ := bq0.step
  obtain ⟨bn0, be0, rfl, rfl, blo0, bhi0⟩ := bh0.int
  obtain ⟨bv1, br1, bS1, bT1, rfl, rfl, bh1, bq2⟩ := bq1.step
  obtain ⟨bn1, be1, rfl, rfl, blo1, bhi1⟩ := bh1.int
  obtain ⟨bv2, br2, bS2, bT2, rfl, rfl, bh2, bq3⟩ := bq2.step
  obtain ⟨bc2, be2⟩ := bh2.one rfl
  rw [be2] at bh2
  obtain ⟨bv3, br3, bS3, bT3, rfl, rfl, bh3, bq4⟩ := bq3.step
  obtain ⟨bc3, be3⟩ := bh3.one rfl
  rw [be3] at bh3
  obtain ⟨bv4, br4, bS4, bT4, rfl, rfl, bh4, bq5⟩ := bq4.step
  obtain ⟨bc4, be4⟩ := bh4.one rfl
  rw [be4] at bh4
  obtain ⟨_, rfl, rfl⟩ := bq5
  have bhsz : cb.length = 5 := hb.size
  simp only [Ty.size, Ty.sizes, Nat.reduceAdd, Nat.zero_add, List.drop_zero] at ae0 ae1 ae2 ae3 ae4 ahsz be0 be1 be2 be3 be4 bhsz
  refine WS_enter k43 rfl ?_
  simp (disch := omega) only [KC_eq, c43, ae0, ae1, ae2, ae3, ae4, ahsz, be0, be1, be2, be3, be4, bhsz, ifT, w64, SQ, SU, SL, reduceCtorEq, Nat.reduceAdd, Nat.reduceLeDiff, reduceIte]
  refine BR_dec (fun hn => ?_) (fun hn => ?_)
  case refine_1 =>
    simp (disch := omega) only [KC_eq, c43, ae0, ae1, ae2, ae3, ae4, ahsz, be0, be1, be2, be3, be4, bhsz, ifT, w64, SQ, SU, SL, reduceCtorEq, Nat.reduceAdd, Nat.reduceLeDiff, reduceIte]
    simp [hn]
  have d0 : an0 = bn0 := by omega
  subst d0
  simp (disch := omega) only [KC_eq, c43, ae0, ae1, ae2, ae3, ae4, ahsz, be0, be1, be2, be3, be4, bhsz, ifT, w64, SQ, SU, SL, reduceCtorEq, Nat.reduceAdd, Nat.reduceLeDiff, reduceIte]
  refine BR_dec (fun hn => ?_) (fun hn => ?_)
  case refine_1 =>
    simp (disch := omega) only [KC_eq, c43, ae0, ae1, ae2, ae3, ae4, ahsz, be0, be1, be2, be3, be4, bhsz, ifT, w64, SQ, SU, SL, reduceCtorEq, Nat.reduceAdd, Nat.reduceLeDiff, reduceIte]
    simp [hn]
  have d1 : an1 = bn1 := by omega
  subst d1
  simp (disch := omega) only [KC_eq, c43, ae0, ae1, ae2, ae3, ae4, ahsz, be0, be1, be2, be3, be4, bhsz, ifT, w64, SQ, SU, SL, reduceCtorEq, Nat.reduceAdd, Nat.reduceLeDiff, reduceIte]
  refine EqOk.go eq_ByteS ah2 bh2 (fun d2 => ?_) (fun d2 => ?_)
  case refine_2 =>
    simp (disch := omega) only [KC_eq, c43, ae0, ae1, ae2, ae3, ae4, ahsz, be0, be1, be2, be3, be4, bhsz, ifT, w64, SQ, SU, SL, reduceCtorEq, Nat.reduceAdd, Nat.reduceLeDiff, reduceIte]
    simp [d2]
  subst d2
  simp (disch := omega) only [KC_eq, c43, ae0, ae1, ae2, ae3, ae4, ahsz, be0, be1, be2, be3, be4, bhsz, ifT, w64, SQ, SU, SL, reduceCtorEq, Nat.reduceAdd, Nat.reduceLeDiff, reduceIte]
  refine EqOk.go eq_ByteS ah3 bh3 (fun d3 => ?_) (fun d3 => ?_)
  case refine_2 =>
    simp (disch := omega) only [KC_eq, c43, ae0, ae1, ae2, ae3, ae4, ahsz, be0, be1, be2, be3, be4, bhsz, ifT, w64, SQ, SU, SL, reduceCtorEq, Nat.reduceAdd, Nat.reduceLeDiff, reduceIte]
    simp [d3]
  subst d3
  simp (disch := omega) only [KC_eq, c43, ae0, ae1, ae2, ae3, ae4, ahsz, be0, be1, be2, be3, be4, bhsz, ifT, w64, SQ, SU, SL, reduceCtorEq, Nat.reduceAdd, Nat.reduceLeDiff, reduceIte]
  refine EqOk.go eq_ByteSS ah4 bh4 (fun d4 => ?_) (fun d4 => ?_)
  case refine_2 =>
    simp (disch := omega) only [KC_eq, c43, ae0, ae1, ae2, ae3, ae4, ahsz, be0, be1, be2, be3, be4, bhsz, ifT, w64, SQ, SU, SL, reduceCtorEq, Nat.reduceAdd, Nat.reduceLeDiff, reduceIte]
    simp [d4]
  subst d4
  simp (disch := omega) only [KC_eq, c43, ae0, ae1, ae2, ae3, ae4, ahsz, be0, be1, be2, be3, be4, bhsz, ifT, w64, SQ, SU, SL, reduceCtorEq, Nat.reduceAdd, Nat.reduceLeDiff, reduceIte]
/-- laws.eqHead -/
def c10 : AF := ⟨2, 6, [.tmp 4], (.seq (.ops [.i (.lbox 2 (.s 0)), .i (.lbox 3 (.s 1)), .i (.mov 4 (.c (.val false [.bool false])))]) (.seq (.seq (.ops [.i (.fad 5 (.s 2) 0), .i (.ldl 6 2 (.s 5) 1 false), .i (.fad 7 (.s 3) 0), .i (.ldl 8 3 (.s 7) 1 false), .i (.bin 9 .neq (.s 6) (.s 8))]) (.cond (.s 9) (.seq (.ops [.i (.mov 4 (.c (.val false [.bool false])))]) .ret) .skip)) (.seq (.seq (.ops [.i (.fad 10 (.s 2) 1), .i (.ldl 11 2 (.s 10) 1 false), .i (.fad 12 (.s 3) 1), .i (.ldl 13 3 (.s 12) 1 false), .i (.bin 14 .neq (.s 11) (.s 13))]) (.cond (.s 14) (.seq (.ops [.i (.mov 4 (.c (.val false [.bool false])))]) .ret) .skip)) (.seq (.seq (.ops [.i (.fad 15 (.s 2) 2), .i (.ldl 16 2 (.s 15) 1 false), .i (.fad 17 (.s 3) 2), .i (.ldl 18 3 (.s 17) 1 false), .i (.bin 19 .neq (.s 16) (.s 18))]) (.cond (.s 19) (.seq (.ops [.i (.mov 4 (.c (.val false [.bool false])))]) .ret) .skip)) (.seq (.seq (.ops [.i (.fad 20 (.s 2) 3), .i (.ldl 21 2 (.s 20) 1 false), .i (.fad 22 (.s 3) 3), .i (.ldl 23 3 (.s 22) 1 false), .i (.call 25 24 false [(.s 21), (.s 23)]), .i (.not 25 (.s 24))]) (.cond (.s 25) (.seq (.ops [.i (.mov 4 (.c (.val false [.bool false])))]) .ret) .skip)) (.seq (.seq (.ops [.i (.fad 26 (.s 2) 4), .i (.ldl 27 2 (.s 26) 1 false), .i (.fad 28 (.s 3) 4), .i (.ldl 29 3 (.s 28) 1 false), .i (.call 31 24 false [(.s 27), (.s 29)]), .i (.not 31 (.s 30))]) (.cond (.s 31) (.seq (.ops [.i (.mov 4 (.c (.val false [.bool false])))]) .ret) .skip)) (.seq (.seq (.ops [.i (.fad 32 (.s 2) 5), .i (.ldl 33 2 (.s 32) 5 true), .i (.fad 34 (.s 3) 5), .i (.ldl 35 3 (.s 34) 5 true), .i (.call 37 43 false [(.s 33), (.s 35)]), .i (.not 37 (.s 36))]) (.cond (.s 37) (.seq (.ops [.i (.mov 4 (.c (.val false [.bool false])))]) .ret) .skip)) (.seq (.ops [.i (.mov 4 (.c (.val false [.bool true])))]) .ret))))))))⟩
theorem k10 : cd 10 = some c10 := by kernel_rfl
theorem eq_Head : EqOk cd 10 THead := by
  intro h ca cb va vb Sa Sb ha hb
  obtain ⟨avs, rfl, aq0⟩ := ha.st
  obtain ⟨av0, ar0, aS0, aT0, rfl, rfl, ah0, aq1⟩ := aq0.step
  obtain ⟨an0, ae0, rfl, rfl, alo0, ahi0⟩ := ah0.int
  obtain ⟨av1, ar1, aS1, aT1, rfl, rfl, ah1, aq2⟩ := aq1.step
  obtain ⟨an1, ae1, rfl, rfl, alo1, ahi1⟩ := ah1.int
  obtain ⟨av2, ar2, aS2, aT2, rfl, rfl, ah2, aq3⟩ := aq2.step
  obtain ⟨an2, ae2, rfl, rfl, alo2, ahi2⟩ := ah2.int
  obtain ⟨av3, ar3, aS3, aT3, rfl, rfl, ah3, aq4⟩ := aq3.step
  obtain ⟨ac3, ae3⟩ := ah3.one rfl
  rw [ae3] at ah3
  obtain ⟨av4, ar4, aS4, aT4, rfl, rfl, ah4, aq5⟩ := aq4.step
  obtain ⟨ac4, ae4⟩ := ah4.one rfl
  rw [ae4] at ah4
  obtain ⟨av5, ar5, aS5, aT5, rfl, rfl, ah5, aq6⟩ := aq5.step
  obtain ⟨_, rfl, rfl⟩ := aq6
  have ahsz : ca.length = 10 := ha.size
  obtain ⟨bvs, rfl, bq0⟩ := hb.st
  obtain ⟨bv0, br0, bS0, bT0, rfl, rfl, bh0, bq1⟩ := bq0.step
  obtain ⟨bn0, be0, rfl, rfl, blo0, bhi0⟩ := bh0.int
  obtain ⟨bv1, br1, bS1, bT1, rfl, rfl, bh1, bq2⟩ := bq1.step
  obtain ⟨bn1, be1, rfl, rfl, blo1, bhi1⟩ := bh1.int
  obtain ⟨bv2, br2, bS2, bT2, rfl, rfl, bh2, bq3⟩ := bq2.step
  obtain ⟨bn2, be2, rfl, rfl, blo2, bhi2⟩ := bh2.int
  obtain ⟨bv3, br3, bS3, bT3, rfl, rfl, bh3, bq4⟩ := bq3.step
  obtain ⟨bc3, be3⟩ := bh3.one rfl
  rw [be3] at bh3
  obtain ⟨bv4, br4, bS4, bT4, rfl, rfl, bh4, bq5⟩ := bq4.step
  obtain ⟨bc4, be4⟩ := bh4.one rfl
  rw [be4] at bh4
  obtain ⟨bv5, br5, bS5, bT5, rfl, rfl, bh5, bq6⟩ := bq5.step
  obtain ⟨_, rfl, rfl⟩ := bq6
  have bhsz : cb.length = 10 := hb.size
  simp only [Ty.size, Ty.sizes, Nat.reduceAdd, Nat.zero_add, List.drop_zero] at ae0 ae1 ae2 ae3 ae4 ahsz be0 be1 be2 be3 be4 bhsz ah5 bh5
  refine WS_enter k10 rfl ?_
  simp (disch := omega) only [KC_eq, c10, ae0, ae1, ae2, ae3, ae4, ahsz, be0, be1, be2, be3, be4, bhsz, ifT, w64, SQ, SU, SL, reduceCtorEq, Nat.reduceAdd, Nat.reduceLeDiff, reduceIte]
  refine BR_dec (fun hn => ?_) (fun hn => ?_)
  case refine_1 =>
    simp (disch := omega) only [KC_eq, c10, ae0, ae1, ae2, ae3, ae4, ahsz, be0, be1, be2, be3, be4, bhsz, ifT, w64, SQ, SU, SL, reduceCtorEq, Nat.reduceAdd, Nat.reduceLeDiff, reduceIte]
    simp [hn]
  have d0 : an0 = bn0 := by omega
  subst d0
  simp (disch := omega) only [KC_eq, c10, ae0, ae1, ae2, ae3, ae4, ahsz, be0, be1, be2, be3, be4, bhsz, ifT, w64, SQ, SU, SL, reduceCtorEq, Nat.reduceAdd, Nat.reduceLeDiff, reduceIte]
  refine BR_dec (fun hn => ?_) (fun hn => ?_)
  case refine_1 =>
    simp (disch := omega) only [KC_eq, c10, ae0, ae1, ae2, ae3, ae4, ahsz, be0, be1, be2, be3, be4, bhsz, ifT, w64, SQ, SU, SL, reduceCtorEq, Nat.reduceAdd, Nat.reduceLeDiff, reduceIte]
    simp [hn]
  have d1 : an1 = bn1 := by omega
  subst d1
  simp (disch := omega) only [KC_eq, c10, ae0, ae1, ae2, ae3, ae4, ahsz, be0, be1, be2, be3, be4, bhsz, ifT, w64, SQ, SU, SL, reduceCtorEq, Nat.reduceAdd, Nat.reduceLeDiff, reduceIte]
  refine BR_dec (fun hn => ?_) (fun hn => ?_)
  case refine_1 =>
    simp (disch := omega) only [KC_eq, c10, ae0, ae1, ae2, ae3, ae4, ahsz, be0, be1, be2, be3, be4, bhsz, ifT, w64, SQ, SU, SL, reduceCtorEq, Nat.reduceAdd, Nat.reduceLeDiff, reduceIte]
    simp [hn]
  have d2 : an2 = bn2 := by omega
  subst d2
  simp (disch := omega) only [KC_eq, c10, ae0, ae1, ae2, ae3, ae4, ahsz, be0, be1, be2, be3, be4, bhsz, ifT, w64, SQ, SU, SL, reduceCtorEq, Nat.reduceAdd, Nat.reduceLeDiff, reduceIte]
  refine EqOk.go eq_ByteS ah3 bh3 (fun d3 => ?_) (fun d3 => ?_)
  case refine_2 =>
    simp (disch := omega) only [KC_eq, c10, ae0, ae1, ae2, ae3, ae4, ahsz, be0, be1, be2, be3, be4, bhsz, ifT, w64, SQ, SU, SL, reduceCtorEq, Nat.reduceAdd, Nat.reduceLeDiff, reduceIte]
    simp [d3]
  subst d3
  simp (disch := omega) only [KC_eq, c10, ae0, ae1, ae2, ae3, ae4, ahsz, be0, be1, be2, be3, be4, bhsz, ifT, w64, SQ, SU, SL, reduceCtorEq, Nat.reduceAdd, Nat.reduceLeDiff, reduceIte]
  refine EqOk.go eq_ByteS ah4 bh4 (fun d4 => ?_) (fun d4 => ?_)
  case refine_2 =>
    simp (disch := omega) only [KC_eq, c10, ae0, ae1, ae2, ae3, ae4, ahsz, be0, be1, be2, be3, be4, bhsz, ifT, w64, SQ, SU, SL, reduceCtorEq, Nat.reduceAdd, Nat.reduceLeDiff, reduceIte]
    simp [d4]
  subst d4
  simp (disch := omega) only [KC_eq, c10, ae0, ae1, ae2, ae3, ae4, ahsz, be0, be1, be2, be3, be4, bhsz, ifT, w64, SQ, SU, SL, reduceCtorEq, Nat.reduceAdd, Nat.reduceLeDiff, reduceIte]
  refine EqOk.go eq_Qc ah5 bh5 (fun d5 => ?_) (fun d5 => ?_)
  case refine_2 =>
    simp (disch := omega) only [KC_eq, c10, ae0, ae1, ae2, ae3, ae4, ahsz, be0, be1, be2, be3, be4, bhsz, ifT, w64, SQ, SU, SL, reduceCtorEq, Nat.reduceAdd, Nat.reduceLeDiff, reduceIte]
    simp [d5]
  subst d5
  simp (disch := omega) only [KC_eq, c10, ae0, ae1, ae2, ae3, ae4, ahsz, be0, be1, be2, be3, be4, bhsz, ifT, w64, SQ, SU, SL, reduceCtorEq, Nat.reduceAdd, Nat.reduceLeDiff, reduceIte]
/-- laws.markByteS -/
def c26 : AF := ⟨2, 5, [.tmp 4], (.seq (.ops [.i (.mov 4 (.c (.val false [.int .i64 0])))]) (.seq (.seq (.ops [.i (.mov 5 (.c (.val false [.int .i64 0])))]) (.block 0 (.loop [18, 17, 16, 15, 14, 13, 12, 11, 10, 9, 8, 7, 6] (.seq (.seq (.ops [.i (.mov 6 (.s 5)), .i (.mov 7 (.s 0)), .i (.len 8 false (.s 7)), .i (.bin 9 .lss (.s 6) (.s 8))]) (.cond (.s 9) .skip (.exit 0))) (.seq (.block 1 (.seq (.ops [.i (.mov 12 (.s 0)), .i (.mov 13 (.s 5)), .i (.mov 14 (.s 1)), .i (.cvi 15 .u8 (.s 14)), .i (.iad 16 (.s 12) (.s 13) 1), .i (.sth (.s 16) (.s 15) 1)]) (.ops [.i (.mov 17 (.s 1)), .i (.bin 18 .add (.s 17) (.c (.val false [.int .i64 1]))), .i (.mov 1 (.s 18))]))) (.ops [.i (.mov 10 (.s 5)), .i (.bin 11 .add (.s 10) (.c (.val false [.int .i64 1]))), .i (.mov 5 (.s 11))])))))) (.seq (.ops [.i (.mov 19 (.s 1)), .i (.mov 4 (.s 19))]) .ret)))⟩
theorem k26 : cd 26 = some c26 := by kernel_rfl
theorem mk_ByteS : MkOk cd 26 (.sl (.int .u8)) := mk_leaf k26
/-- laws.markRowS -/
def c64 : AF := ⟨2, 5, [.tmp 4], (.seq (.ops [.i (.mov 4 (.c (.val false [.int .i64 0])))]) (.seq (.seq (.ops [.i (.mov 5 (.c (.val false [.int .i64 0])))]) (.block 0 (.loop [25, 24, 23, 22, 21, 20, 19, 18, 17, 16, 15, 14, 13, 12, 11, 10, 9, 8, 7, 6] (.seq (.seq (.ops [.i (.mov 6 (.s 5)), .i (.mov 7 (.s 0)), .i (.len 8 false (.s 7)), .i (.bin 9 .lss (.s 6) (.s 8))]) (.cond (.s 9) .skip (.exit 0))) (.seq (.block 1 (.seq (.ops [.i (.mov 12 (.s 0)), .i (.mov 13 (.s 5)), .i (.mov 14 (.s 1)), .i (.iad 15 (.s 12) (.s 13) 2), .i (.fad 16 (.s 15) 0), .i (.sth (.s 16) (.s 14) 1)]) (.seq (.ops [.i (.mov 17 (.s 1)), .i (.bin 18 .add (.s 17) (.c (.val false [.int .i64 1]))), .i (.mov 1 (.s 18))]) (.ops [.i (.mov 19 (.s 0)), .i (.mov 20 (.s 5)), .i (.iad 21 (.s 19) (.s 20) 2), .i (.fad 22 (.s 21) 1), .i (.ldh 23 (.s 22) 1 false), .i (.mov 24 (.s 1)), .i (.call 26 26 false [(.s 23), (.s 24)]), .i (.mov 1 (.s 25))])))) (.ops [.i (.mov 10 (.s 5)), .i (.bin 11 .add (.s 10) (.c (.val false [.int .i64 1]))), .i (.mov 5 (.s 11))])))))) (.seq (.ops [.i (.mov 26 (.s 1)), .i (.mov 4 (.s 26))]) .ret)))⟩
theorem k64 : cd 64 = some c64 := by kernel_rfl
theorem mk_RowS : MkOk cd 64 (.sl TRow) := by
  intro h cs v S k hv ho hk
  obtain ⟨c, xs, id, off, bs, S', rfl, rfl, hm, hl, hat, hce, hbs, hel, hS⟩ := hv.view
  have hcn : cnT (.sl TRow) (.l xs) = (xs.map (cnE TRow)).sum := rfl
  have hmk : mkT (.sl TRow) (.l xs) k = .l (mkL (mkE TRow) (cnE TRow) xs k) := rfl
  rw [hcn] at hk ⊢
  rw [hmk]
  have hsub : ∀ j ∈ S', j ∈ S := fun j hj => by
    rcases hS with e | ⟨_, _, e⟩
    · rw [e]; simp [hj]
    · rw [e] at hj; cases hj
  have hnd : S'.Nodup := by
    rcases hS with e | ⟨_, _, e⟩
    · have := ho.1
      rw [e] at this
      exact (List.nodup_cons.1 this).2
    · rw [e]; simp
  have hid : 0 < xs.length → id ∉ S' ∧ id ∈ S := fun hp => by
    rcases hS with e | ⟨e, _, _⟩
    · have := ho.1
      rw [e] at this
      exact ⟨(List.nodup_cons.1 this).1, by rw [e]; simp⟩
    · rw [e] at hp; simp at hp
  have hown : ∃ ty, 0 < xs.length → h[id]? = some (.own ty bs) := by
    by_cases hp : 0 < xs.length
    · obtain ⟨ty, cs, e⟩ := ho.2 id (hid hp).2
      have := (hce hp).1
      rw [cells_own e] at this
      cases this
      exact ⟨ty, fun _ => e⟩
    · exact ⟨0, fun e => absurd e hp⟩
  obtain ⟨ty, hty⟩ := hown
  have hs1 : TRow.size = 2 := rfl
  rw [hs1] at hat hbs
  refine WS_enter k64 rfl ?_
  simp (disch := omega) only [c64, SQ, SU, SL, reduceCtorEq, Nat.reduceAdd, Nat.reduceLeDiff, reduceIte]
  refine WS_loop2 (σ := Nat) (f1 := _) (by simp only [SQ, SU, SL, reduceCtorEq, Nat.reduceAdd, Nat.reduceLeDiff, reduceIte]; rfl) (fun i => [(5, .val false [.int .i64 i]), (1, .val false [.int .i64 ((k + ((xs.take i).map (cnE TRow)).sum : Nat) : Int)])])
    (fun i g h' => g = xs.length - i ∧ i ≤ xs.length ∧ Wrote h h' S ∧ (0 < xs.length → ∃ bs', h'[id]? = some (.own ty bs') ∧ bs'.length = bs.length ∧ Elems (Rp h' TRow) (mkd TRow xs k i) ((bs'.drop off).take (xs.length * TRow.size)) S') ∧ (i = 0 → h' = h)) 0 xs.length (by simp only [List.take_zero, List.map_nil, List.sum_nil, SQ, SU, SL, reduceCtorEq, Nat.reduceAdd, Nat.reduceLeDiff, reduceIte]; rfl)
    ⟨by omega, by omega, Wrote.refl ho.2, fun hp => ⟨bs, hty hp, rfl, by rw [mkd_zero]; exact hel⟩, fun _ => rfl⟩ ?_
  rintro i g h' ⟨hg, hi, hw, hblk, hz0⟩
  simp (disch := omega) only [c64, hl, w64, SQ, SU, SL, reduceCtorEq, Nat.reduceAdd, Nat.reduceLeDiff, reduceIte]
  refine BR_dec (fun hlt => ?_) (fun hlt => ?_)
  · have hix : i < xs.length := by omega
    obtain ⟨bs', hb1, hb2, he⟩ := hblk (by omega)
    clear hblk
    obtain ⟨hidS', hidS⟩ := hid (by omega)
    have hsi := sum_take (g := cnE TRow) (List.getElem?_eq_getElem hix)
    have hsl := sum_le (g := cnE TRow) xs (i + 1)
    have hfit : off + i * 2 + 2 ≤ bs'.length := by
      have := Nat.mul_le_mul_right 2 hix
      rw [Nat.succ_mul] at this
      omega
    have hme : i * 2 + 2 ≤ xs.length * 2 := by
      have := Nat.mul_le_mul_right 2 hix
      rw [Nat.succ_mul] at this
      exact this
    obtain ⟨Si, k1, k2, k3, k4⟩ := he.turn hnd (mkd_get hix)
    rw [part_part hix, hs1] at k1
    obtain ⟨x0, x1, hx⟩ := len_2 k1.size
    rw [hx] at k1
    obtain ⟨pre, post, hpl, rfl⟩ := around hx hfit
    have hat' := hat i hix
    rw [← hpl] at hat'
    have hidlt : id < h'.length := (List.getElem?_eq_some_iff.1 hb1).1
    have hset : ∀ b, (h'.set id b)[id]? = some b := fun b => set_get hidlt
    have hnid : id ∉ Si := fun hm => hidS' (k2 id hm)
    have hoi : Ownd h' Si := ⟨k3, fun j hj => (hw.ownd ho).2 j (hsub j (k2 j hj))⟩
    obtain ⟨p_vs, p_hv, p_q0⟩ := k1.st
    obtain ⟨p_v0, p_r0, p_S0, p_T0, rfl, rfl, p_h0, p_q1⟩ := p_q0.step
    simp only [Ty.size, Ty.sizes, Nat.reduceAdd, Nat.zero_add, List.drop_zero, List.drop_succ_cons, List.take_succ_cons, List.take_zero] at p_h0
    obtain ⟨n0, e0, rfl, rfl, lo0, hi0⟩ := p_h0.int
    simp only [List.cons.injEq, and_true] at e0
    subst e0
    obtain ⟨p_v1, p_r1, p_S1, p_T1, rfl, rfl, p_h1, p_q2⟩ := p_q1.step
    simp only [Ty.size, Ty.sizes, Nat.reduceAdd, Nat.zero_add, List.drop_zero, List.drop_succ_cons, List.take_succ_cons, List.take_zero] at p_h1
    have h1 := p_h1
    obtain ⟨_, rfl, rfl⟩ := p_q2
    have hxi : xs[i] = .r [.i n0, p_v1] := p_hv
    rw [hxi] at hsi
    simp only [List.nil_append, List.append_nil] at k2 k3 hnid hoi k4
    have hcne : cnE TRow (.r [.i n0, p_v1]) = (1 + (cnE (.sl (.int .u8)) p_v1 + 0)) := rfl
    rw [hcne] at hsi
    have o1 := hoi
    have hcs : ∀ ty b, H.cells (h'.set id (.own ty b)) id = some b := fun ty b => cells_own (hset _)
    have hcb : h'.cells id = _ := cells_own hb1
    simp (disch := omega) only [KC_eq, c64, hl, hat', hb1, hset, hcs, hcb, List.set_set, pre_get3, pre_set3, pre_get2, pre_set2, pre_get, pre_get0, pre_set, pre_set0, List.length_append, List.cons_append, List.nil_append, List.length_set, ifT, w64, cnE_sl, cast1, SQ, SU, SL, reduceCtorEq, Nat.reduceAdd, Nat.reduceLeDiff, reduceIte]
    have hn1 : id ∉ p_S1 := fun hm => hnid (by simp [hm])
    refine MkOk.go mk_ByteS (h1.set hn1) (Ownd.set o1 hidlt) (k := ((k + ((xs.take i).map (cnE TRow)).sum) + 1)) (by rw [cnE_sl]; omega) (fun g1 w1 z1 => ?_)
    have hb_1 := w1.2.1 id hn1
    simp only [hb1, hset, hcs, hcb] at hb_1
    have hlt_1 : id < g1.length := (List.getElem?_eq_some_iff.1 hb_1).1
    have hset_1 : ∀ b, (g1.set id b)[id]? = some b := fun b => set_get hlt_1
    have hcs_1 : ∀ ty b, H.cells (g1.set id (.own ty b)) id = some b := fun ty b => cells_own (hset_1 _)
    have hcb_1 : g1.cells id = _ := cells_own hb_1
    simp (disch := omega) only [KC_eq, c64, hl, hat', hb_1, hset_1, hcs_1, hcb_1, List.set_set, pre_get3, pre_set3, pre_get2, pre_set2, pre_get, pre_get0, pre_set, pre_set0, List.length_append, List.cons_append, List.nil_append, List.length_set, ifT, w64, cnE_sl, cast1, SQ, SU, SL, reduceCtorEq, Nat.reduceAdd, Nat.reduceLeDiff, reduceIte]
    have wF0 : Wrote h' h' (id :: (p_S1)) := Wrote.refl (fun j hj => by
      rcases List.mem_cons.1 hj with rfl | hj
      · exact ⟨_, _, hb1⟩
      · exact hoi.2 j hj)
    have hmkE : mkE TRow xs[i] (k + ((xs.take i).map (cnE TRow)).sum) = .r [.i (IntKind.i64.wrap (((k + ((xs.take i).map (cnE TRow)).sum) : Nat) : Int)), mkE (.sl (.int .u8)) p_v1 (((k + ((xs.take i).map (cnE TRow)).sum) + 1))] := by rw [hxi]; rfl
    simp only [mkE_sl] at z1
    have wF := ((wF0.set (by simp) hidlt).more w1 (fun i hi => by simp [hi]))
    have hnew := Rp.mkSt (Rs.mk (Rp.mkNat (n := (k + ((xs.take i).map (cnE TRow)).sum)) (by omega)) (Rs.mk z1 Rs.nil))
    simp only [List.cons_append, List.nil_append, List.append_nil] at hnew
    rw [← hmkE] at hnew
    have hE := k4 _ _ _ (fun j hj hn => cells_same (wF.2.1 j (fun hm => by
      rcases List.mem_cons.1 hm with rfl | hm
      · exact hidS' hj
      · exact hn hm))) hnew
    rw [mkd_next hix] at hE
    refine ⟨i + 1, xs.length - (i + 1), by omega, ?_, rfl, by omega, hw.more wF (fun j hj => ?_), fun _ => ⟨pre ++ C.int .i64 (((k + ((xs.take i).map (cnE TRow)).sum) : Nat) : Int) :: x1 :: post, by first | exact rfl | exact hb_1, ?_, ?_⟩, fun e => by omega⟩
    · have e1 : k + ((xs.take (i + 1)).map (cnE TRow)).sum = (((k + ((xs.take i).map (cnE TRow)).sum) + 1) + cnE (.sl (.int .u8)) p_v1) := by omega
      rw [e1]
    · rcases List.mem_cons.1 hj with rfl | hj
      · exact hidS
      · exact hsub j (k2 j hj)
    · rw [← hb2]; simp
    · have ht := turned (l := [C.int .i64 n0, x1]) (l' := [C.int .i64 (((k + ((xs.take i).map (cnE TRow)).sum) : Nat) : Int), x1]) (post := post) hpl rfl (m := xs.length * 2) (by simpa using hme)
      rw [hs1] at hE
      rw [← ht] at hE
      exact hE
  · simp (disch := omega) only [c64, SQ, SU, SL, reduceCtorEq, Nat.reduceAdd, Nat.reduceLeDiff, reduceIte]
    have hi' : i = xs.length := by omega
    subst hi'
    rw [List.take_length]
    refine ⟨rfl, hw, ?_⟩
    by_cases hp : 0 < xs.length
    · obtain ⟨bs', hb1, hb2, he⟩ := hblk hp
      rw [mkd_all] at he
      refine ⟨_, rfl, ?_, .inr ⟨id, off, bs', S', _, ?_, cells_own hb1, ?_, ?_, ?_, .inl rfl⟩⟩
      · rw [mkL_len]; simp only [maxLen]; omega
      · rw [mkL_len]; rw [(hce hp).2]
      · rw [mkL_len, hb2, hs1]; exact hbs
      · rcases hS with e | ⟨e, _⟩
        · exact e
        · rw [e] at hp; simp at hp
      · rw [mkL_len]; exact he
    · have hx : xs = [] := List.eq_nil_of_length_eq_zero (by omega)
      subst hx
      rw [hz0 rfl]
      exact hv
/-- laws.markTable -/
def c25 : AF := ⟨2, 4, [.tmp 4], (.seq (.ops [.i (.lbox 2 (.s 0)), .i (.mov 4 (.c (.val false [.int .i64 0])))]) (.seq (.ops [.i (.fad 5 (.s 2) 0), .i (.ldl 6 2 (.s 5) 1 false), .i (.mov 7 (.s 1)), .i (.call 9 64 false [(.s 6), (.s 7)]), .i (.mov 1 (.s 8))]) (.seq (.ops [.i (.mov 9 (.s 1)), .i (.mov 4 (.s 9))]) .ret)))⟩
theorem k25 : cd 25 = some c25 := by kernel_rfl
theorem mk_Table : MkOk cd 25 TTable := by
  intro h cs v S k hv ho hk
  obtain ⟨vs, rfl, q0⟩ := hv.st
  obtain ⟨v0, r0, S0, T0, rfl, rfl, h0, q1⟩ := q0.step
  obtain ⟨c0, e0⟩ := h0.one rfl
  rw [e0] at h0
  obtain ⟨_, rfl, rfl⟩ := q1
  have hsz : cs.length = 1 := hv.size
  simp only [Ty.size, Ty.sizes, Nat.reduceAdd, Nat.zero_add, List.drop_zero] at e0 hsz
  have hcn : cnT TTable (.r [v0]) = (cnT (.sl TRow) v0 + 0) := rfl
  have hmk : mkT TTable (.r [v0]) k = .r [mkT (.sl TRow) v0 (k)] := rfl
  rw [hmk]
  rw [hcn] at hk ⊢
  simp only [List.nil_append, List.append_nil] at ho ⊢
  have o0 := ho
  refine WS_enter k25 rfl ?_
  simp (disch := omega) only [KC_eq, c25, e0, hsz, ifT, w64, SQ, SU, SL, reduceCtorEq, Nat.reduceAdd, Nat.reduceLeDiff, reduceIte]
  refine MkOk.go mk_RowS h0 o0 (k := k) (by omega) (fun g0 w0 z0 => ?_)
  simp (disch := omega) only [KC_eq, c25, e0, hsz, ifT, w64, SQ, SU, SL, reduceCtorEq, Nat.reduceAdd, Nat.reduceLeDiff, reduceIte]
  have fin : Rs g0 [(.sl TRow)] (cs.drop 0) [mkT (.sl TRow) v0 (k)] _ := (Rs.unstep (o := 0) (Rp.cs_at e0 z0) (Rs.fin (Nat.le_of_eq hsz)))
  simp only [List.nil_append, List.append_nil, List.drop_zero] at fin
  have wr := ((Wrote.refl ho.2).more w0 (fun i hi => by simp [hi]))
  first
    | exact ⟨wr, _, rfl, fin⟩
    | (refine ⟨?_, wr, _, rfl, fin⟩
       congr 3
       omega)
/-- laws.markByteSS -/
def c69 : AF := ⟨2, 5, [.tmp 4], (.seq (.ops [.i (.mov 4 (.c (.val false [.int .i64 0])))]) (.seq (.seq (.ops [.i (.mov 5 (.c (.val false [.int .i64 0])))]) (.block 0 (.loop [17, 16, 15, 14, 13, 12, 11, 10, 9, 8, 7, 6] (.seq (.seq (.ops [.i (.mov 6 (.s 5)), .i (.mov 7 (.s 0)), .i (.len 8 false (.s 7)), .i (.bin 9 .lss (.s 6) (.s 8))]) (.cond (.s 9) .skip (.exit 0))) (.seq (.block 1 (.ops [.i (.mov 12 (.s 0)), .i (.mov 13 (.s 5)), .i (.iad 14 (.s 12) (.s 13) 1), .i (.ldh 15 (.s 14) 1 false), .i (.mov 16 (.s 1)), .i (.call 18 26 false [(.s 15), (.s 16)]), .i (.mov 1 (.s 17))])) (.ops [.i (.mov 10 (.s 5)), .i (.bin 11 .add (.s 10) (.c (.val false [.int .i64 1]))), .i (.mov 5 (.s 11))])))))) (.seq (.ops [.i (.mov 18 (.s 1)), .i (.mov 4 (.s 18))]) .ret)))⟩
theorem k69 : cd 69 = some c69 := by kernel_rfl
theorem mk_ByteSS : MkOk cd 69 (.sl (.sl (.int .u8))) := mk_sl k69 mk_ByteS
/-- laws.markQc -/
def c47 : AF := ⟨2, 5, [.tmp 4], (.seq (.ops [.i (.lbox 2 (.s 0)), .i (.mov 4 (.c (.val false [.int .i64 0])))]) (.seq (.ops [.i (.fad 5 (.s 2) 2), .i (.ldl 6 2 (.s 5) 1 false), .i (.mov 7 (.s 1)), .i (.call 9 26 false [(.s 6), (.s 7)]), .i (.mov 1 (.s 8))]) (.seq (.ops [.i (.fad 9 (.s 2) 3), .i (.ldl 10 2 (.s 9) 1 false), .i (.mov 11 (.s 1)), .i (.call 13 26 false [(.s 10), (.s 11)]), .i (.mov 1 (.s 12))]) (.seq (.ops [.i (.fad 13 (.s 2) 4), .i (.ldl 14 2 (.s 13) 1 false), .i (.mov 15 (.s 1)), .i (.call 17 69 false [(.s 14), (.s 15)]), .i (.mov 1 (.s 16))]) (.seq (.ops [.i (.mov 17 (.s 1)), .i (.mov 4 (.s 17))]) .ret)))))⟩
theorem k47 : cd 47 = some c47 := by kernel_rfl
theorem mk_Qc : MkOk cd 47 TQc := by
  intro h cs v S k hv ho hk
  obtain ⟨vs, rfl, q0⟩ := hv.st
  obtain ⟨v0, r0, S0, T0, rfl, rfl, h0, q1⟩ := q0.step
  obtain ⟨n0, e0, rfl, rfl, lo0, hi0⟩ := h0.int
  obtain ⟨v1, r1, S1, T1, rfl, rfl, h1, q2⟩ := q1.step
  obtain ⟨n1, e1, rfl, rfl, lo1, hi1⟩ := h1.int
  obtain ⟨v2, r2, S2, T2, rfl, rfl, h2, q3⟩ := q2.step
  obtain ⟨c2, e2⟩ := h2.one rfl
  rw [e2] at h2
  obtain ⟨v3, r3, S3, T3, rfl, rfl, h3, q4⟩ := q3.step
  obtain ⟨c3, e3⟩ := h3.one rfl
  rw [e3] at h3
  obtain ⟨v4, r4, S4, T4, rfl, rfl, h4, q5⟩ := q4.step
  obtain ⟨c4, e4⟩ := h4.one rfl
  rw [e4] at h4
  obtain ⟨_, rfl, rfl⟩ := q5
  have hsz : cs.length = 5 := hv.size
  simp only [Ty.size, Ty.sizes, Nat.reduceAdd, Nat.zero_add, List.drop_zero] at e0 e1 e2 e3 e4 hsz
  have hcn : cnT TQc (.r [.i n0, .i n1, v2, v3, v4]) = (0 + (0 + (cnT (.sl (.int .u8)) v2 + (cnT (.sl (.int .u8)) v3 + (cnT (.sl (.sl (.int .u8))) v4 + 0))))) := rfl
  have hmk : mkT TQc (.r [.i n0, .i n1, v2, v3, v4]) k = .r [.i n0, .i n1, mkT (.sl (.int .u8)) v2 (k), mkT (.sl (.int .u8)) v3 (k + cnT (.sl (.int .u8)) v2), mkT (.sl (.sl (.int .u8))) v4 (k + cnT (.sl (.int .u8)) v2 + cnT (.sl (.int .u8)) v3)] := rfl
  rw [hmk]
  rw [hcn] at hk ⊢
  simp only [List.nil_append, List.append_nil] at ho ⊢
  obtain ⟨o2, ho2, x2, xx2⟩ := ho.split
  obtain ⟨o3, ho3, x3, xx3⟩ := ho2.split
  have o4 := ho3
  refine WS_enter k47 rfl ?_
  simp (disch := omega) only [KC_eq, c47, e0, e1, e2, e3, e4, hsz, ifT, w64, SQ, SU, SL, reduceCtorEq, Nat.reduceAdd, Nat.reduceLeDiff, reduceIte]
  refine MkOk.go mk_ByteS h2 o2 (k := k) (by omega) (fun g2 w2 z2 => ?_)
  simp (disch := omega) only [KC_eq, c47, e0, e1, e2, e3, e4, hsz, ifT, w64, SQ, SU, SL, reduceCtorEq, Nat.reduceAdd, Nat.reduceLeDiff, reduceIte]
  refine MkOk.go mk_ByteS (h3.wrote w2 (fun i hi => xx2 i (by simp [hi]))) (w2.ownd o3) (k := k + cnT (.sl (.int .u8)) v2) (by omega) (fun g3 w3 z3 => ?_)
  simp (disch := omega) only [KC_eq, c47, e0, e1, e2, e3, e4, hsz, ifT, w64, SQ, SU, SL, reduceCtorEq, Nat.reduceAdd, Nat.reduceLeDiff, reduceIte]
  refine MkOk.go mk_ByteSS ((h4.wrote w2 (fun i hi => xx2 i (by simp [hi]))).wrote w3 (fun i hi => xx3 i (by simp [hi]))) (w3.ownd (w2.ownd o4)) (k := k + cnT (.sl (.int .u8)) v2 + cnT (.sl (.int .u8)) v3) (by omega) (fun g4 w4 z4 => ?_)
  simp (disch := omega) only [KC_eq, c47, e0, e1, e2, e3, e4, hsz, ifT, w64, SQ, SU, SL, reduceCtorEq, Nat.reduceAdd, Nat.reduceLeDiff, reduceIte]
  have fin : Rs g4 [(.int .i64), (.int .i64), (.sl (.int .u8)), (.sl (.int .u8)), (.sl (.sl (.int .u8)))] (cs.drop 0) [.i n0, .i n1, mkT (.sl (.int .u8)) v2 (k), mkT (.sl (.int .u8)) v3 (k + cnT (.sl (.int .u8)) v2), mkT (.sl (.sl (.int .u8))) v4 (k + cnT (.sl (.int .u8)) v2 + cnT (.sl (.int .u8)) v3)] _ := (Rs.unstep (o := 0) (Rp.int_at e0 lo0 hi0) (Rs.unstep (o := 1) (Rp.int_at e1 lo1 hi1) (Rs.unstep (o := 2) (Rp.cs_at e2 ((z2.wrote w3 (fun i hi hn => x2 i hi (by simp [hn]))).wrote w4 (fun i hi hn => x2 i hi (by simp [hn])))) (Rs.unstep (o := 3) (Rp.cs_at e3 (z3.wrote w4 (fun i hi hn => x3 i hi (by simp [hn])))) (Rs.unstep (o := 4) (Rp.cs_at e4 z4) (Rs.fin (Nat.le_of_eq hsz)))))))
  simp only [List.nil_append, List.append_nil, List.drop_zero] at fin
  have wr := ((((Wrote.refl ho.2).more w2 (fun i hi => by simp [hi])).more w3 (fun i hi => by simp [hi])).more w4 (fun i hi => by simp [hi]))
  first
    | exact ⟨wr, _, rfl, fin⟩
    | (refine ⟨?_, wr, _, rfl, fin⟩
       congr 3
       omega)
/-- laws.markHead -/
def c13 : AF := ⟨2, 5, [.tmp 4], (.seq (.ops [.i (.lbox 2 (.s 0)), .i (.mov 4 (.c (.val false [.int .i64 0])))]) (.seq (.ops [.i (.fad 5 (.s 2) 3), .i (.ldl 6 2 (.s 5) 1 false), .i (.mov 7 (.s 1)), .i (.call 9 26 false [(.s 6), (.s 7)]), .i (.mov 1 (.s 8))]) (.seq (.ops [.i (.fad 9 (.s 2) 4), .i (.ldl 10 2 (.s 9) 1 false), .i (.mov 11 (.s 1)), .i (.call 13 26 false [(.s 10), (.s 11)]), .i (.mov 1 (.s 12))]) (.seq (.ops [.i (.fad 13 (.s 2) 5), .i (.ldl 14 2 (.s 13) 5 true), .i (.mov 15 (.s 1)), .i (.call 17 47 false [(.s 14), (.s 15)]), .i (.mov 1 (.s 16))]) (.seq (.ops [.i (.mov 17 (.s 1)), .i (.mov 4 (.s 17))]) .ret)))))⟩
theorem k13 : cd 13 = some c13 := by kernel_rfl
theorem mk_Head : MkOk cd 13 THead := by
  intro h cs v S k hv ho hk
  obtain ⟨vs, rfl, q0⟩ := hv.st
  obtain ⟨v0, r0, S0, T0, rfl, rfl, h0, q1⟩ := q0.step
  obtain ⟨n0, e0, rfl, rfl, lo0, hi0⟩ := h0.int
  obtain ⟨v1, r1, S1, T1, rfl, rfl, h1, q2⟩ := q1.step
  obtain ⟨n1, e1, rfl, rfl, lo1, hi1⟩ := h1.int
  obtain ⟨v2, r2, S2, T2, rfl, rfl, h2, q3⟩ := q2.step
  obtain ⟨n2, e2, rfl, rfl, lo2, hi2⟩ := h2.int
  obtain ⟨v3, r3, S3, T3, rfl, rfl, h3, q4⟩ := q3.step
  obtain ⟨c3, e3⟩ := h3.one rfl
  rw [e3] at h3
  obtain ⟨v4, r4, S4, T4, rfl, rfl, h4, q5⟩ := q4.step
  obtain ⟨c4, e4⟩ := h4.one rfl
  rw [e4] at h4
  obtain ⟨v5, r5, S5, T5, rfl, rfl, h5, q6⟩ := q5.step
  obtain ⟨_, rfl, rfl⟩ := q6
  have hsz : cs.length = 10 := hv.size
  simp only [Ty.size, Ty.sizes, Nat.reduceAdd, Nat.zero_add, List.drop_zero] at e0 e1 e2 e3 e4 hsz h5
  have hcn : cnT THead (.r [.i n0, .i n1, .i n2, v3, v4, v5]) = (0 + (0 + (0 + (cnT (.sl (.int .u8)) v3 + (cnT (.sl (.int .u8)) v4 + (cnT TQc v5 + 0)))))) := rfl
  have hmk : mkT THead (.r [.i n0, .i n1, .i n2, v3, v4, v5]) k = .r [.i n0, .i n1, .i n2, mkT (.sl (.int .u8)) v3 (k), mkT (.sl (.int .u8)) v4 (k + cnT (.sl (.int .u8)) v3), mkT TQc v5 (k + cnT (.sl (.int .u8)) v3 + cnT (.sl (.int .u8)) v4)] := rfl
  rw [hmk]
  rw [hcn] at hk ⊢
  simp only [List.nil_append, List.append_nil] at ho ⊢
  obtain ⟨o3, ho3, x3, xx3⟩ := ho.split
  obtain ⟨o4, ho4, x4, xx4⟩ := ho3.split
  have o5 := ho4
  refine WS_enter k13 rfl ?_
  simp (disch := omega) only [KC_eq, c13, e0, e1, e2, e3, e4, hsz, ifT, w64, SQ, SU, SL, reduceCtorEq, Nat.reduceAdd, Nat.reduceLeDiff, reduceIte]
  refine MkOk.go mk_ByteS h3 o3 (k := k) (by omega) (fun g3 w3 z3 => ?_)
  simp (disch := omega) only [KC_eq, c13, e0, e1, e2, e3, e4, hsz, ifT, w64, SQ, SU, SL, reduceCtorEq, Nat.reduceAdd, Nat.reduceLeDiff, reduceIte]
  refine MkOk.go mk_ByteS (h4.wrote w3 (fun i hi => xx3 i (by simp [hi]))) (w3.ownd o4) (k := k + cnT (.sl (.int .u8)) v3) (by omega) (fun g4 w4 z4 => ?_)
  simp (disch := omega) only [KC_eq, c13, e0, e1, e2, e3, e4, hsz, ifT, w64, SQ, SU, SL, reduceCtorEq, Nat.reduceAdd, Nat.reduceLeDiff, reduceIte]
  refine MkOk.go mk_Qc ((h5.wrote w3 (fun i hi => xx3 i (by simp [hi]))).wrote w4 (fun i hi => xx4 i (by simp [hi]))) (w4.ownd (w3.ownd o5)) (k := k + cnT (.sl (.int .u8)) v3 + cnT (.sl (.int .u8)) v4) (by omega) (fun g5 w5 z5 => ?_)
  simp (disch := omega) only [KC_eq, c13, e0, e1, e2, e3, e4, hsz, ifT, w64, SQ, SU, SL, reduceCtorEq, Nat.reduceAdd, Nat.reduceLeDiff, reduceIte]
  have fin : Rs g5 [(.int .i64), (.int .i64), (.int .i64), (.sl (.int .u8)), (.sl (.int .u8)), TQc] (cs.drop 0) [.i n0, .i n1, .i n2, mkT (.sl (.int .u8)) v3 (k), mkT (.sl (.int .u8)) v4 (k + cnT (.sl (.int .u8)) v3), mkT TQc v5 (k + cnT (.sl (.int .u8)) v3 + cnT (.sl (.int .u8)) v4)] _ := (Rs.unstep (o := 0) (Rp.int_at e0 lo0 hi0) (Rs.unstep (o := 1) (Rp.int_at e1 lo1 hi1) (Rs.unstep (o := 2) (Rp.int_at e2 lo2 hi2) (Rs.unstep (o := 3) (Rp.cs_at e3 ((z3.wrote w4 (fun i hi hn => x3 i hi (by simp [hn]))).wrote w5 (fun i hi hn => x3 i hi (by simp [hn])))) (Rs.unstep (o := 4) (Rp.cs_at e4 (z4.wrote w5 (fun i hi hn => x4 i hi (by simp [hn])))) (Rs.unstep (o := 5) z5 (Rs.fin (Nat.le_of_eq hsz))))))))
  simp only [List.nil_append, List.append_nil, List.drop_zero] at fin
  have wr := ((((Wrote.refl ho.2).more w3 (fun i hi => by simp [hi])).more w4 (fun i hi => by simp [hi])).more w5 (fun i hi => by simp [hi]))
  first
    | exact ⟨wr, _, rfl, fin⟩
    | (refine ⟨?_, wr, _, rfl, fin⟩
       congr 3
       omega)
/-- laws.heldByteS -/
def c48 : AF := ⟨2, 5, [.tmp 4], (.seq (.ops [.i (.mov 4 (.c (.val false [.int .i64 0])))]) (.seq (.seq (.ops [.i (.mov 5 (.c (.val false [.int .i64 0])))]) (.block 0 (.loop [20, 19, 18, 17, 16, 15, 14, 13, 12, 11, 10, 9, 8, 7, 6] (.seq (.seq (.ops [.i (.mov 6 (.s 5)), .i (.mov 7 (.s 0)), .i (.len 8 false (.s 7)), .i (.bin 9 .lss (.s 6) (.s 8))]) (.cond (.s 9) .skip (.exit 0))) (.seq (.block 1 (.seq (.seq (.ops [.i (.mov 12 (.s 0)), .i (.mov 13 (.s 5)), .i (.iad 14 (.s 12) (.s 13) 1), .i (.ldh 15 (.s 14) 1 false), .i (.mov 16 (.s 1)), .i (.cvi 17 .u8 (.s 16)), .i (.bin 18 .neq (.s 15) (.s 17))]) (.cond (.s 18) (.seq (.ops [.i (.mov 4 (.c (.val false [.int .i64 (-1)])))]) .ret) .skip)) (.ops [.i (.mov 19 (.s 1)), .i (.bin 20 .add (.s 19) (.c (.val false [.int .i64 1]))), .i (.mov 1 (.s 20))]))) (.ops [.i (.mov 10 (.s 5)), .i (.bin 11 .add (.s 10) (.c (.val false [.int .i64 1]))), .i (.mov 5 (.s 11))])))))) (.seq (.ops [.i (.mov 21 (.s 1)), .i (.mov 4 (.s 21))]) .ret)))⟩
theorem k48 : cd 48 = some c48 := by kernel_rfl
theorem hd_ByteS : HdOk cd 48 (.sl (.int .u8)) := hd_leaf k48
/-- laws.heldByteSS -/
def c80 : AF := ⟨2, 5, [.tmp 4], (.seq (.ops [.i (.mov 4 (.c (.val false [.int .i64 0])))]) (.seq (.seq (.ops [.i (.mov 5 (.c (.val false [.int .i64 0])))]) (.block 0 (.loop [19, 18, 17, 16, 15, 14, 13, 12, 11, 10, 9, 8, 7, 6] (.seq (.seq (.ops [.i (.mov 6 (.s 5)), .i (.mov 7 (.s 0)), .i (.len 8 false (.s 7)), .i (.bin 9 .lss (.s 6) (.s 8))]) (.cond (.s 9) .skip (.exit 0))) (.seq (.block 1 (.seq (.ops [.i (.mov 12 (.s 0)), .i (.mov 13 (.s 5)), .i (.iad 14 (.s 12) (.s 13) 1), .i (.ldh 15 (.s 14) 1 false), .i (.mov 16 (.s 1)), .i (.call 18 48 false [(.s 15), (.s 16)]), .i (.mov 1 (.s 17))]) (.seq (.ops [.i (.mov 18 (.s 1)), .i (.bin 19 .lss (.s 18) (.c (.val false [.int .i64 0])))]) (.cond (.s 19) (.seq (.ops [.i (.mov 4 (.c (.val false [.int .i64 (-1)])))]) .ret) .skip)))) (.ops [.i (.mov 10 (.s 5)), .i (.bin 11 .add (.s 10) (.c (.val false [.int .i64 1]))), .i (.mov 5 (.s 11))])))))) (.seq (.ops [.i (.mov 20 (.s 1)), .i (.mov 4 (.s 20))]) .ret)))⟩
theorem k80 : cd 80 = some c80 := by kernel_rfl
theorem hd_ByteSS : HdOk cd 80 (.sl (.sl (.int .u8))) := hd_sl k80 hd_ByteS
/-- laws.heldQc -/
def c49 : AF := ⟨2, 5, [.tmp 4], (.seq (.ops [.i (.lbox 2 (.s 0)), .i (.mov 4 (.c (.val false [.int .i64 0])))]) (.seq (.ops [.i (.fad 5 (.s 2) 2), .i (.ldl 6 2 (.s 5) 1 false), .i (.mov 7 (.s 1)), .i (.call 9 48 false [(.s 6), (.s 7)]), .i (.mov 1 (.s 8))]) (.seq (.seq (.ops [.i (.mov 9 (.s 1)), .i (.bin 10 .lss (.s 9) (.c (.val false [.int .i64 0])))]) (.cond (.s 10) (.seq (.ops [.i (.mov 4 (.c (.val false [.int .i64 (-1)])))]) .ret) .skip)) (.seq (.ops [.i (.fad 11 (.s 2) 3), .i (.ldl 12 2 (.s 11) 1 false), .i (.mov 13 (.s 1)), .i (.call 15 48 false [(.s 12), (.s 13)]), .i (.mov 1 (.s 14))]) (.seq (.seq (.ops [.i (.mov 15 (.s 1)), .i (.bin 16 .lss (.s 15) (.c (.val false [.int .i64 0])))]) (.cond (.s 16) (.seq (.ops [.i (.mov 4 (.c (.val false [.int .i64 (-1)])))]) .ret) .skip)) (.seq (.ops [.i (.fad 17 (.s 2) 4), .i (.ldl 18 2 (.s 17) 1 false), .i (.mov 19 (.s 1)), .i (.call 21 80 false [(.s 18), (.s 19)]), .i (.mov 1 (.s 20))]) (.seq (.seq (.ops [.i (.mov 21 (.s 1)), .i (.bin 22 .lss (.s 21) (.c (.val false [.int .i64 0])))]) (.cond (.s 22) (.seq (.ops [.i (.mov 4 (.c (.val false [.int .i64 (-1)])))]) .ret) .skip)) (.seq (.ops [.i (.mov 23 (.s 1)), .i (.mov 4 (.s 23))]) .ret))))))))⟩
theorem k49 : cd 49 = some c49 := by kernel_rfl
theorem hd_Qc : HdOk cd 49 TQc := by
  intro h cs v S k hT hv hk
  obtain ⟨h0_, cs0, S0_, hT⟩ := hT
  obtain ⟨wvs, rfl, wq0⟩ := hT.st
  obtain ⟨wv0, wr0, wS0, wT0, rfl, rfl, wh0, wq1⟩ := wq0.step
  obtain ⟨wn0, we0, rfl, rfl, wlo0, whi0⟩ := wh0.int
  obtain ⟨wv1, wr1, wS1, wT1, rfl, rfl, wh1, wq2⟩ := wq1.step
  obtain ⟨wn1, we1, rfl, rfl, wlo1, whi1⟩ := wh1.int
  obtain ⟨wv2, wr2, wS2, wT2, rfl, rfl, wh2, wq3⟩ := wq2.step
  obtain ⟨wc2, we2⟩ := wh2.one rfl
  rw [we2] at wh2
  obtain ⟨wv3, wr3, wS3, wT3, rfl, rfl, wh3, wq4⟩ := wq3.step
  obtain ⟨wc3, we3⟩ := wh3.one rfl
  rw [we3] at wh3
  obtain ⟨wv4, wr4, wS4, wT4, rfl, rfl, wh4, wq5⟩ := wq4.step
  obtain ⟨wc4, we4⟩ := wh4.one rfl
  rw [we4] at wh4
  obtain ⟨_, rfl, rfl⟩ := wq5
  have whsz : cs0.length = 5 := hT.size
  have hcn : cnT TQc (.r [.i wn0, .i wn1, wv2, wv3, wv4]) = (0 + (0 + (cnT (.sl (.int .u8)) wv2 + (cnT (.sl (.int .u8)) wv3 + (cnT (.sl (.sl (.int .u8))) wv4 + 0))))) := rfl
  have hmk : mkT TQc (.r [.i wn0, .i wn1, wv2, wv3, wv4]) k = .r [.i wn0, .i wn1, mkT (.sl (.int .u8)) wv2 (k), mkT (.sl (.int .u8)) wv3 (k + cnT (.sl (.int .u8)) wv2), mkT (.sl (.sl (.int .u8))) wv4 (k + cnT (.sl (.int .u8)) wv2 + cnT (.sl (.int .u8)) wv3)] := rfl
  rw [hmk] at hv
  rw [hcn] at hk ⊢
  obtain ⟨vs, hvs, q0⟩ := hv.st
  simp only [Tv.r.injEq] at hvs
  subst hvs
  obtain ⟨v0, r0, S0, T0, hv0, hS0, h0, q1⟩ := q0.step
  obtain ⟨rfl, rfl⟩ := List.cons.inj hv0
  obtain ⟨n0, e0, _, _, _, _⟩ := h0.int
  obtain ⟨v1, r1, S1, T1, hv1, hS1, h1, q2⟩ := q1.step
  obtain ⟨rfl, rfl⟩ := List.cons.inj hv1
  obtain ⟨n1, e1, _, _, _, _⟩ := h1.int
  obtain ⟨v2, r2, S2, T2, hv2, hS2, h2, q3⟩ := q2.step
  obtain ⟨rfl, rfl⟩ := List.cons.inj hv2
  obtain ⟨c2, e2⟩ := h2.one rfl
  rw [e2] at h2
  obtain ⟨v3, r3, S3, T3, hv3, hS3, h3, q4⟩ := q3.step
  obtain ⟨rfl, rfl⟩ := List.cons.inj hv3
  obtain ⟨c3, e3⟩ := h3.one rfl
  rw [e3] at h3
  obtain ⟨v4, r4, S4, T4, hv4, hS4, h4, q5⟩ := q4.step
  obtain ⟨rfl, rfl⟩ := List.cons.inj hv4
  obtain ⟨c4, e4⟩ := h4.one rfl
  rw [e4] at h4
  have hsz : cs.length = 5 := hv.size
  simp only [Ty.size, Ty.sizes, Nat.reduceAdd, Nat.zero_add, List.drop_zero] at e0 e1 e2 e3 e4 hsz
  refine WS_enter k49 rfl ?_
  simp (disch := omega) only [KC_eq, c49, e0, e1, e2, e3, e4, hsz, ifT, w64, SQ, SU, SL, reduceCtorEq, Nat.reduceAdd, Nat.reduceLeDiff, reduceIte]
  refine HdOk.go hd_ByteS ⟨_, _, _, wh2⟩ h2 (k := k) (by omega) ?_
  simp (disch := omega) only [KC_eq, c49, e0, e1, e2, e3, e4, hsz, ifT, w64, SQ, SU, SL, reduceCtorEq, Nat.reduceAdd, Nat.reduceLeDiff, reduceIte]
  refine BR_dec (fun hn => absurd hn (by omega)) (fun hn => ?_)
  simp (disch := omega) only [KC_eq, c49, e0, e1, e2, e3, e4, hsz, ifT, w64, SQ, SU, SL, reduceCtorEq, Nat.reduceAdd, Nat.reduceLeDiff, reduceIte]
  refine HdOk.go hd_ByteS ⟨_, _, _, wh3⟩ h3 (k := k + cnT (.sl (.int .u8)) wv2) (by omega) ?_
  simp (disch := omega) only [KC_eq, c49, e0, e1, e2, e3, e4, hsz, ifT, w64, SQ, SU, SL, reduceCtorEq, Nat.reduceAdd, Nat.reduceLeDiff, reduceIte]
  refine BR_dec (fun hn => absurd hn (by omega)) (fun hn => ?_)
  simp (disch := omega) only [KC_eq, c49, e0, e1, e2, e3, e4, hsz, ifT, w64, SQ, SU, SL, reduceCtorEq, Nat.reduceAdd, Nat.reduceLeDiff, reduceIte]
  refine HdOk.go hd_ByteSS ⟨_, _, _, wh4⟩ h4 (k := k + cnT (.sl (.int .u8)) wv2 + cnT (.sl (.int .u8)) wv3) (by omega) ?_
  simp (disch := omega) only [KC_eq, c49, e0, e1, e2, e3, e4, hsz, ifT, w64, SQ, SU, SL, reduceCtorEq, Nat.reduceAdd, Nat.reduceLeDiff, reduceIte]
  refine BR_dec (fun hn => absurd hn (by omega)) (fun hn => ?_)
  simp (disch := omega) only [KC_eq, c49, e0, e1, e2, e3, e4, hsz, ifT, w64, SQ, SU, SL, reduceCtorEq, Nat.reduceAdd, Nat.reduceLeDiff, reduceIte]
  all_goals congr 3
  all_goals omega
/-- laws.heldHead -/
def c14 : AF := ⟨2, 5, [.tmp 4], (.seq (.ops [.i (.lbox 2 (.s 0)), .i (.mov 4 (.c (.val false [.int .i64 0])))]) (.seq (.ops [.i (.fad 5 (.s 2) 3), .i (.ldl 6 2 (.s 5) 1 false), .i (.mov 7 (.s 1)), .i (.call 9 48 false [(.s 6), (.s 7)]), .i (.mov 1 (.s 8))]) (.seq (.seq (.ops [.i (.mov 9 (.s 1)), .i (.bin 10 .lss (.s 9) (.c (.val false [.int .i64 0])))]) (.cond (.s 10) (.seq (.ops [.i (.mov 4 (.c (.val false [.int .i64 (-1)])))]) .ret) .skip)) (.seq (.ops [.i (.fad 11 (.s 2) 4), .i (.ldl 12 2 (.s 11) 1 false), .i (.mov 13 (.s 1)), .i (.call 15 48 false [(.s 12), (.s 13)]), .i (.mov 1 (.s 14))]) (.seq (.seq (.ops [.i (.mov 15 (.s 1)), .i (.bin 16 .lss (.s 15) (.c (.val false [.int .i64 0])))]) (.cond (.s 16) (.seq (.ops [.i (.mov 4 (.c (.val false [.int .i64 (-1)])))]) .ret) .skip)) (.seq (.ops [.i (.fad 17 (.s 2) 5), .i (.ldl 18 2 (.s 17) 5 true), .i (.mov 19 (.s 1)), .i (.call 21 49 false [(.s 18), (.s 19)]), .i (.mov 1 (.s 20))]) (.seq (.seq (.ops [.i (.mov 21 (.s 1)), .i (.bin 22 .lss (.s 21) (.c (.val false [.int .i64 0])))]) (.cond (.s 22) (.seq (.ops [.i (.mov 4 (.c (.val false [.int .i64 (-1)])))]) .ret) .skip)) (.seq (.ops [.i (.mov 23 (.s 1)), .i (.mov 4 (.s 23))]) .ret))))))))⟩
theorem k14 : cd 14 = some c14 := by kernel_rfl
theorem hd_Head : HdOk cd 14 THead := by
  intro h cs v S k hT hv hk
  obtain ⟨h0_, cs0, S0_, hT⟩ := hT
  obtain ⟨wvs, rfl, wq0⟩ := hT.st
  obtain ⟨wv0, wr0, wS0, wT0, rfl, rfl, wh0, wq1⟩ := wq0.step
  obtain ⟨wn0, we0, rfl, rfl, wlo0, whi0⟩ := wh0.int
  obtain ⟨wv1, wr1, wS1, wT1, rfl, rfl, wh1, wq2⟩ := wq1.step
  obtain ⟨wn1, we1, rfl, rfl, wlo1, whi1⟩ := wh1.int
  obtain ⟨wv2, wr2, wS2, wT2, rfl, rfl, wh2, wq3⟩ := wq2.step
  obtain ⟨wn2, we2, rfl, rfl, wlo2, whi2⟩ := wh2.int
  obtain ⟨wv3, wr3, wS3, wT3, rfl, rfl, wh3, wq4⟩ := wq3.step
  obtain ⟨wc3, we3⟩ := wh3.one rfl
  rw [we3] at wh3
  obtain ⟨wv4, wr4, wS4, wT4, rfl, rfl, wh4, wq5⟩ := wq4.step
  obtain ⟨wc4, we4⟩ := wh4.one rfl
  rw [we4] at wh4
  obtain ⟨wv5, wr5, wS5, wT5, rfl, rfl, wh5, wq6⟩ := wq5.step
  obtain ⟨_, rfl, rfl⟩ := wq6
  have whsz : cs0.length = 10 := hT.size
  have hcn : cnT THead (.r [.i wn0, .i wn1, .i wn2, wv3, wv4, wv5]) = (0 + (0 + (0 + (cnT (.sl (.int .u8)) wv3 + (cnT (.sl (.int .u8)) wv4 + (cnT TQc wv5 + 0)))))) := rfl
  have hmk : mkT THead (.r [.i wn0, .i wn1, .i wn2, wv3, wv4, wv5]) k = .r [.i wn0, .i wn1, .i wn2, mkT (.sl (.int .u8)) wv3 (k), mkT (.sl (.int .u8)) wv4 (k + cnT (.sl (.int .u8)) wv3), mkT TQc wv5 (k + cnT (.sl (.int .u8)) wv3 + cnT (.sl (.int .u8)) wv4)] := rfl
  rw [hmk] at hv
  rw [hcn] at hk ⊢
  obtain ⟨vs, hvs, q0⟩ := hv.st
  simp only [Tv.r.injEq] at hvs
  subst hvs
  obtain ⟨v0, r0, S0, T0, hv0, hS0, h0, q1⟩ := q0.step
  obtain ⟨rfl, rfl⟩ := List.cons.inj hv0
  obtain ⟨n0, e0, _, _, _, _⟩ := h0.int
  obtain ⟨v1, r1, S1, T1, hv1, hS1, h1, q2⟩ := q1.step
  obtain ⟨rfl, rfl⟩ := List.cons.inj hv1
  obtain ⟨n1, e1, _, _, _, _⟩ := h1.int
  obtain ⟨v2, r2, S2, T2, hv2, hS2, h2, q3⟩ := q2.step
  obtain ⟨rfl, rfl⟩ := List.cons.inj hv2
  obtain ⟨n2, e2, _, _, _, _⟩ := h2.int
  obtain ⟨v3, r3, S3, T3, hv3, hS3, h3, q4⟩ := q3.step
  obtain ⟨rfl, rfl⟩ := List.cons.inj hv3
  obtain ⟨c3, e3⟩ := h3.one rfl
  rw [e3] at h3
  obtain ⟨v4, r4, S4, T4, hv4, hS4, h4, q5⟩ := q4.step
  obtain ⟨rfl, rfl⟩ := List.cons.inj hv4
  obtain ⟨c4, e4⟩ := h4.one rfl
  rw [e4] at h4
  obtain ⟨v5, r5, S5, T5, hv5, hS5, h5, q6⟩ := q5.step
  obtain ⟨rfl, rfl⟩ := List.cons.inj hv5
  have hsz : cs.length = 10 := hv.size
  simp only [Ty.size, Ty.sizes, Nat.reduceAdd, Nat.zero_add, List.drop_zero] at e0 e1 e2 e3 e4 hsz h5
  refine WS_enter k14 rfl ?_
  simp (disch := omega) only [KC_eq, c14, e0, e1, e2, e3, e4, hsz, ifT, w64, SQ, SU, SL, reduceCtorEq, Nat.reduceAdd, Nat.reduceLeDiff, reduceIte]
  refine HdOk.go hd_ByteS ⟨_, _, _, wh3⟩ h3 (k := k) (by omega) ?_
  simp (disch := omega) only [KC_eq, c14, e0, e1, e2, e3, e4, hsz, ifT, w64, SQ, SU, SL, reduceCtorEq, Nat.reduceAdd, Nat.reduceLeDiff, reduceIte]
  refine BR_dec (fun hn => absurd hn (by omega)) (fun hn => ?_)
  simp (disch := omega) only [KC_eq, c14, e0, e1, e2, e3, e4, hsz, ifT, w64, SQ, SU, SL, reduceCtorEq, Nat.reduceAdd, Nat.reduceLeDiff, reduceIte]
  refine HdOk.go hd_ByteS ⟨_, _, _, wh4⟩ h4 (k := k + cnT (.sl (.int .u8)) wv3) (by omega) ?_
  simp (disch := omega) only [KC_eq, c14, e0, e1, e2, e3, e4, hsz, ifT, w64, SQ, SU, SL, reduceCtorEq, Nat.reduceAdd, Nat.reduceLeDiff, reduceIte]
  refine BR_dec (fun hn => absurd hn (by omega)) (fun hn => ?_)
  simp (disch := omega) only [KC_eq, c14, e0, e1, e2, e3, e4, hsz, ifT, w64, SQ, SU, SL, reduceCtorEq, Nat.reduceAdd, Nat.reduceLeDiff, reduceIte]
  refine HdOk.go hd_Qc ⟨_, _, _, wh5⟩ h5 (k := k + cnT (.sl (.int .u8)) wv3 + cnT (.sl (.int .u8)) wv4) (by omega) ?_
  simp (disch := omega) only [KC_eq, c14, e0, e1, e2, e3, e4, hsz, ifT, w64, SQ, SU, SL, reduceCtorEq, Nat.reduceAdd, Nat.reduceLeDiff, reduceIte]
  refine BR_dec (fun hn => absurd hn (by omega)) (fun hn => ?_)
  simp (disch := omega) only [KC_eq, c14, e0, e1, e2, e3, e4, hsz, ifT, w64, SQ, SU, SL, reduceCtorEq, Nat.reduceAdd, Nat.reduceLeDiff, reduceIte]
  all_goals congr 3
  all_goals omega
end Go.Eng.U
set_option maxRecDepth 100000
set_option linter.unusedSimpArgs false
set_option linter.unusedVariables false
namespace Go.Eng.U
open Go.Eng.F (Lim Table Head nextH zeroHead)
/-- laws.FnExactNextHead -/
def c4 : AF := ⟨7, 8, [.tmp 14], (.seq (.ops [.i (.lbox 7 (.s 0)), .i (.lbox 8 (.s 1)), .i (.lbox 9 (.s 2)), .i (.mov 14 (.c (.val false [.bool false])))]) (.seq (.seq (.ops [.i (.mov 29 (.s 5)), .i (.len 30 false (.s 29)), .i (.bin 31 .gtr (.s 30) (.c (.val false [.int .i64 1048576])))]) (.cond (.s 31) (.seq (.ops [.i (.mov 14 (.c (.val false [.bool true])))]) .ret) .skip)) (.seq (.seq (.ops [.i (.mov 32 (.s 6)), .i (.len 33 false (.s 32)), .i (.bin 34 .gtr (.s 33) (.c (.val false [.int .i64 1048576])))]) (.cond (.s 34) (.seq (.ops [.i (.mov 14 (.c (.val false [.bool true])))]) .ret) .skip)) (.seq (.ops [.i (.mov 15 (.c (.val false [.int .i64 1048576])))]) (.seq (.ops [.i (.ldl 35 8 (.s 8) 1 true), .i (.mov 36 (.s 15)), .i (.call 38 15 false [(.s 35), (.s 36)]), .i (.mov 15 (.s 37))]) (.seq (.seq (.ops [.i (.mov 38 (.s 15)), .i (.bin 39 .lss (.s 38) (.c (.val false [.int .i64 0])))]) (.cond (.s 39) (.seq (.ops [.i (.mov 14 (.c (.val false [.bool true])))]) .ret) .skip)) (.seq (.ops [.i (.ldl 40 9 (.s 9) 10 true), .i (.mov 41 (.s 15)), .i (.call 43 16 false [(.s 40), (.s 41)]), .i (.mov 15 (.s 42))]) (.seq (.seq (.ops [.i (.mov 43 (.s 15)), .i (.bin 44 .lss (.s 43) (.c (.val false [.int .i64 0])))]) (.cond (.s 44) (.seq (.ops [.i (.mov 14 (.c (.val false [.bool true])))]) .ret) .skip)) (.seq (.ops [.i (.ldl 46 7 (.s 7) 5 true), .i (.call 48 18 false [(.s 46)]), .i (.ldl 48 8 (.s 8) 1 true), .i (.call 50 19 false [(.s 48)]), .i (.ldl 50 9 (.s 9) 10 true), .i (.call 52 20 false [(.s 50)]), .i (.mov 52 (.s 3)), .i (.mov 53 (.s 4)), .i (.mov 54 (.s 5)), .i (.call 56 21 false [(.s 54)]), .i (.mov 56 (.s 6)), .i (.call 58 21 false [(.s 56)]), .i (.call 59 17 false [(.s 47), (.s 49), (.s 51), (.s 52), (.s 53), (.s 55), (.s 57)]), .i (.mov 45 (.s 58)), .i (.ext 59 (.s 45) 0), .i (.ext 60 (.s 45) 1), .i (.lal 16 [.int .i64 0, .int .i64 0, .int .i64 0, .nils, .nils, .int .i64 0, .int .i64 0, .nils, .nils, .nils]), .i (.stl 16 (.s 16) (.s 59) 10), .i (.mov 17 (.s 60))]) (.seq (.ops [.i (.ldl 61 8 (.s 8) 1 true), .i (.call 63 19 false [(.s 61)]), .i (.lal 18 [.nils]), .i (.stl 18 (.s 18) (.s 62) 1)]) (.seq (.ops [.i (.ldl 63 9 (.s 9) 10 true), .i (.call 65 20 false [(.s 63)]), .i (.lal 19 [.int .i64 0, .int .i64 0, .int .i64 0, .nils, .nils, .int .i64 0, .int .i64 0, .nils, .nils, .nils]), .i (.stl 19 (.s 19) (.s 64) 10)]) (.seq (.ops [.i (.mov 65 (.s 5)), .i (.call 67 21 false [(.s 65)]), .i (.mov 20 (.s 66))]) (.seq (.ops [.i (.mov 67 (.s 6)), .i (.call 69 21 false [(.s 67)]), .i (.mov 21 (.s 68))]) (.seq (.ops [.i (.ldl 70 7 (.s 7) 5 true), .i (.call 72 18 false [(.s 70)]), .i (.ldl 72 18 (.s 18) 1 true), .i (.ldl 73 19 (.s 19) 10 true), .i (.mov 74 (.s 3)), .i (.mov 75 (.s 4)), .i (.mov 76 (.s 20)), .i (.mov 77 (.s 21)), .i (.call 79 22 false [(.s 71), (.s 72), (.s 73), (.s 74), (.s 75), (.s 76), (.s 77)]), .i (.mov 69 (.s 78)), .i (.ext 79 (.s 69) 0), .i (.ext 80 (.s 69) 1), .i (.lal 22 [.int .i64 0, .int .i64 0, .int .i64 0, .nils, .nils, .int .i64 0, .int .i64 0, .nils, .nils, .nils]), .i (.stl 22 (.s 22) (.s 79) 10), .i (.mov 23 (.s 80))]) (.seq (.seq (.ops [.i (.ldl 81 22 (.s 22) 10 true), .i (.ldl 82 16 (.s 16) 10 true), .i (.call 84 10 false [(.s 81), (.s 82)]), .i (.not 84 (.s 83)), .i (.mov 85 (.s 84)), .g 85 false 87 (.mov 86 (.s 23)), .g 85 false 88 (.mov 87 (.s 17)), .g 85 false 89 (.beq 88 true (.s 86) (.s 87)), .i (.pick 89 (.s 85) (.c (.val false [.bool true])) (.s 88))]) (.cond (.s 89) (.seq (.ops [.i (.mov 14 (.c (.val false [.bool false])))]) .ret) .skip)) (.seq (.seq (.ops [.i (.ldl 90 18 (.s 18) 1 true), .i (.ldl 91 8 (.s 8) 1 true), .i (.call 93 19 false [(.s 91)]), .i (.call 94 23 false [(.s 90), (.s 92)]), .i (.not 94 (.s 93))]) (.cond (.s 94) (.seq (.ops [.i (.mov 14 (.c (.val false [.bool false])))]) .ret) .skip)) (.seq (.seq (.ops [.i (.ldl 95 19 (.s 19) 10 true), .i (.ldl 96 9 (.s 9) 10 true), .i (.call 98 20 false [(.s 96)]), .i (.call 99 10 false [(.s 95), (.s 97)]), .i (.not 99 (.s 98))]) (.cond (.s 99) (.seq (.ops [.i (.mov 14 (.c (.val false [.bool false])))]) .ret) .skip)) (.seq (.seq (.ops [.i (.mov 100 (.s 20)), .i (.mov 101 (.s 5)), .i (.call 103 21 false [(.s 101)]), .i (.call 104 24 false [(.s 100), (.s 102)]), .i (.not 104 (.s 103))]) (.cond (.s 104) (.seq (.ops [.i (.mov 14 (.c (.val false [.bool false])))]) .ret) .skip)) (.seq (.seq (.ops [.i (.mov 105 (.s 21)), .i (.mov 106 (.s 6)), .i (.call 108 21 false [(.s 106)]), .i (.call 109 24 false [(.s 105), (.s 107)]), .i (.not 109 (.s 108))]) (.cond (.s 109) (.seq (.ops [.i (.mov 14 (.c (.val false [.bool false])))]) .ret) .skip)) (.seq (.ops [.i (.mov 24 (.c (.val false [.int .i64 1])))]) (.seq (.ops [.i (.ldl 110 18 (.s 18) 1 true), .i (.mov 111 (.s 24)), .i (.call 113 25 false [(.s 110), (.s 111)]), .i (.mov 24 (.s 112))]) (.seq (.ops [.i (.ldl 113 19 (.s 19) 10 true), .i (.mov 114 (.s 24)), .i (.call 116 13 false [(.s 113), (.s 114)]), .i (.mov 24 (.s 115))]) (.seq (.ops [.i (.mov 116 (.s 20)), .i (.mov 117 (.s 24)), .i (.call 119 26 false [(.s 116), (.s 117)]), .i (.mov 24 (.s 118))]) (.seq (.ops [.i (.mov 119 (.s 21)), .i (.mov 120 (.s 24)), .i (.call 122 26 false [(.s 119), (.s 120)]), .i (.mov 24 (.s 121))]) (.seq (.seq (.ops [.i (.mov 122 (.s 24)), .i (.bin 123 .lss (.s 122) (.c (.val false [.int .i64 0]))), .i (.mov 124 (.s 123)), .g 124 false 126 (.ldl 125 22 (.s 22) 10 true), .g 124 false 127 (.ldl 126 16 (.s 16) 10 true), .g 124 false 128 (.call 128 10 false [(.s 125), (.s 126)]), .g 124 false 129 (.not 128 (.s 127)), .i (.pick 129 (.s 124) (.c (.val false [.bool true])) (.s 128)), .i (.mov 130 (.s 129)), .g 130 false 132 (.mov 131 (.s 23)), .g 130 false 133 (.mov 132 (.s 17)), .g 130 false 134 (.beq 133 true (.s 131) (.s 132)), .i (.pick 134 (.s 130) (.c (.val false [.bool true])) (.s 133))]) (.cond (.s 134) (.seq (.ops [.i (.mov 14 (.c (.val false [.bool false])))]) .ret) .skip)) (.seq (.ops [.i (.mov 25 (.c (.val false [.int .i64 1])))]) (.seq (.ops [.i (.ldl 135 22 (.s 22) 10 true), .i (.mov 136 (.s 25)), .i (.call 138 13 false [(.s 135), (.s 136)]), .i (.mov 25 (.s 137))]) (.seq (.ops [.i (.mov 26 (.c (.val false [.int .i64 1])))]) (.seq (.ops [.i (.ldl 138 22 (.s 22) 10 true), .i (.mov 139 (.s 26)), .i (.call 141 14 false [(.s 138), (.s 139)]), .i (.mov 26 (.s 140))]) (.seq (.seq (.ops [.i (.mov 141 (.s 26)), .i (.bin 142 .lss (.s 141) (.c (.val false [.int .i64 0])))]) (.cond (.s 142) (.seq (.ops [.i (.mov 14 (.c (.val false [.bool false])))]) .ret) .skip)) (.seq (.seq (.ops [.i (.mov 143 (.s 26)), .i (.mov 144 (.s 25)), .i (.bin 145 .neq (.s 143) (.s 144))]) (.cond (.s 145) (.seq (.ops [.i (.mov 14 (.c (.val false [.bool false])))]) .ret) .skip)) (.seq (.ops [.i (.ldl 147 7 (.s 7) 5 true), .i (.call 149 18 false [(.s 147)]), .i (.ldl 149 8 (.s 8) 1 true), .i (.call 151 19 false [(.s 149)]), .i (.ldl 151 9 (.s 9) 10 true), .i (.call 153 20 false [(.s 151)]), .i (.mov 153 (.s 3)), .i (.mov 154 (.s 4)), .i (.mov 155 (.s 5)), .i (.call 157 21 false [(.s 155)]), .i (.mov 157 (.s 6)), .i (.call 159 21 false [(.s 157)]), .i (.call 160 22 false [(.s 148), (.s 150), (.s 152), (.s 153), (.s 154), (.s 156), (.s 158)]), .i (.mov 146 (.s 159)), .i (.ext 160 (.s 146) 0), .i (.ext 161 (.s 146) 1), .i (.lal 27 [.int .i64 0, .int .i64 0, .int .i64 0, .nils, .nils, .int .i64 0, .int .i64 0, .nils, .nils, .nils]), .i (.stl 27 (.s 27) (.s 160) 10), .i (.mov 28 (.s 161))]) (.seq (.seq (.ops [.i (.ldl 162 27 (.s 27) 10 true), .i (.ldl 163 16 (.s 16) 10 true), .i (.call 165 10 false [(.s 162), (.s 163)]), .i (.not 165 (.s 164)), .i (.mov 166 (.s 165)), .g 166 false 168 (.mov 167 (.s 28)), .g 166 false 169 (.mov 168 (.s 17)), .g 166 false 170 (.beq 169 true (.s 167) (.s 168)), .i (.pick 170 (.s 166) (.c (.val false [.bool true])) (.s 169))]) (.cond (.s 170) (.seq (.ops [.i (.mov 14 (.c (.val false [.bool false])))]) .ret) .skip)) (.seq (.ops [.i (.mov 26 (.c (.val false [.int .i64 1])))]) (.seq (.ops [.i (.ldl 171 22 (.s 22) 10 true), .i (.mov 172 (.s 26)), .i (.call 174 14 false [(.s 171), (.s 172)]), .i (.mov 26 (.s 173))]) (.seq (.seq (.ops [.i (.mov 174 (.s 26)), .i (.bin 175 .lss (.s 174) (.c (.val false [.int .i64 0])))]) (.cond (.s 175) (.seq (.ops [.i (.mov 14 (.c (.val false [.bool false])))]) .ret) .skip)) (.seq (.seq (.ops [.i (.mov 176 (.s 26)), .i (.mov 177 (.s 25)), .i (.bin 178 .neq (.s 176) (.s 177))]) (.cond (.s 178) (.seq (.ops [.i (.mov 14 (.c (.val false [.bool false])))]) .ret) .skip)) (.seq (.ops [.i (.mov 14 (.c (.val false [.bool true])))]) .ret))))))))))))))))))))))))))))))))))))))⟩
theorem k4 : cd 4 = some c4 := by kernel_rfl
theorem lenb {h : H} {kk : IntKind} {c : C} {v : Tv} {S : List Nat} (hv : Rp h (.sl (.int kk)) [c] v S) : lenC c = some (wt v) := by
  obtain ⟨c2, xs, id, off, bs, S', e, rfl, hm, hl, hat, hce, hbs, hel, hS⟩ := hv.view
  injection e with e
  subst e
  rw [hl]
  simp [wt, (wts_int hel).1]
theorem law_NextHead : ∀ h vs, Argp h [TLimits, TTable, THead, (.int .i64), (.int .i64), (.sl (.int .u8)), (.sl (.int .u8))] vs → WC cd 4 vs h (fun r _ => r = .val false [.bool true]) := by
  intro h vs ha
  obtain ⟨cs0, v0, S0, r0, rfl, hv0, ha0⟩ := ha
  obtain ⟨cs1, v1, S1, r1, rfl, hv1, ha1⟩ := ha0
  obtain ⟨cs2, v2, S2, r2, rfl, hv2, ha2⟩ := ha1
  obtain ⟨cs3, v3, S3, r3, rfl, hv3, ha3⟩ := ha2
  obtain ⟨cs4, v4, S4, r4, rfl, hv4, ha4⟩ := ha3
  obtain ⟨cs5, v5, S5, r5, rfl, hv5, ha5⟩ := ha4
  obtain ⟨cs6, v6, S6, r6, rfl, hv6, ha6⟩ := ha5
  have hr0 : r6 = [] := ha6
  subst hr0
  have hsz0 : cs0.length = 5 := hv0.size
  have hall0 : cs0.take 5 = cs0 := List.take_of_length_le (by omega)
  have hsz1 : cs1.length = 1 := hv1.size
  have hall1 : cs1.take 1 = cs1 := List.take_of_length_le (by omega)
  have hsz2 : cs2.length = 10 := hv2.size
  have hall2 : cs2.take 10 = cs2 := List.take_of_length_le (by omega)
  obtain ⟨n3, rfl, rfl, rfl, ilo3, ihi3⟩ := hv3.int
  have hv3 : Rp h (.int .i64) [.int .i64 n3] (.i n3) [] := Rp.mkInt ilo3 ihi3
  obtain ⟨n4, rfl, rfl, rfl, ilo4, ihi4⟩ := hv4.int
  have hv4 : Rp h (.int .i64) [.int .i64 n4] (.i n4) [] := Rp.mkInt ilo4 ihi4
  obtain ⟨cc5, rfl⟩ := hv5.one rfl
  obtain ⟨cc6, rfl⟩ := hv6.one rfl
  obtain ⟨l, rfl⟩ := Lim.ex hv0.ok
  obtain ⟨t, rfl⟩ := Table.ex hv1.ok
  obtain ⟨a, rfl⟩ := Head.ex hv2.ok
  obtain ⟨root, rfl⟩ := bsT_ex hv5.ok
  obtain ⟨bits, rfl⟩ := bsT_ex hv6.ok
  have hl0 : wt l.tv = 0 := by simp [Lim.tv, wt, wts]
  have hc1 : cnT TTable t.tv ≤ 2 * (1 + wt t.tv) := Nat.le_trans (cnT_le _ _) (cnE_le _ _)
  have hc2 : cnT THead a.tv ≤ 10 * (1 + wt a.tv) := Nat.le_trans (cnT_le _ _) (cnE_le _ _)
  have hc5 : cnT (.sl (.int .u8)) (bsT root) ≤ 1 * (1 + wt (bsT root)) := Nat.le_trans (cnT_le _ _) (cnE_le _ _)
  have hc6 : cnT (.sl (.int .u8)) (bsT bits) ≤ 1 * (1 + wt (bsT bits)) := Nat.le_trans (cnT_le _ _) (cnE_le _ _)
  have hr0 : cnT THead ((nextH l t a n3 n4 root bits).getD zeroHead).tv ≤ 10 * (1 + wt ((nextH l t a n3 n4 root bits).getD zeroHead).tv) := Nat.le_trans (cnT_le _ _) (cnE_le _ _)
  have hw0 := F.nextH_wt l t a n3 n4 root bits
  refine WS_enter k4 rfl ?_
  simp (disch := omega) only [KC_eq, c4, hsz0, hall0, hsz1, hall1, hsz2, hall2, ifT, w64, valR, beq_self_eq_true, bne_self_eq_false, List.getElem?_cons_zero, List.getElem?_cons_succ, Bool.or_false, Bool.false_or, Bool.or_self, SQ, SU, SL, reduceCtorEq, Nat.reduceAdd, Nat.reduceLeDiff, reduceIte]
  have hln5 : lenC cc5 = some (wt (bsT root)) := lenb hv5
  simp (disch := omega) only [KC_eq, c4, hsz0, hall0, hsz1, hall1, hsz2, hall2, hln5, ifT, w64, valR, beq_self_eq_true, bne_self_eq_false, List.getElem?_cons_zero, List.getElem?_cons_succ, Bool.or_false, Bool.false_or, Bool.or_self, SQ, SU, SL, reduceCtorEq, Nat.reduceAdd, Nat.reduceLeDiff, reduceIte]
  refine BR_dec (fun hbn5 => ?_) (fun hbn5 => ?_)
  · simp (disch := omega) only [KC_eq, c4, hsz0, hall0, hsz1, hall1, hsz2, hall2, hln5, ifT, w64, valR, beq_self_eq_true, bne_self_eq_false, List.getElem?_cons_zero, List.getElem?_cons_succ, Bool.or_false, Bool.false_or, Bool.or_self, SQ, SU, SL, reduceCtorEq, Nat.reduceAdd, Nat.reduceLeDiff, reduceIte]
  simp (disch := omega) only [KC_eq, c4, hsz0, hall0, hsz1, hall1, hsz2, hall2, hln5, ifT, w64, valR, beq_self_eq_true, bne_self_eq_false, List.getElem?_cons_zero, List.getElem?_cons_succ, Bool.or_false, Bool.false_or, Bool.or_self, SQ, SU, SL, reduceCtorEq, Nat.reduceAdd, Nat.reduceLeDiff, reduceIte]
  have hln6 : lenC cc6 = some (wt (bsT bits)) := lenb hv6
  simp (disch := omega) only [KC_eq, c4, hsz0, hall0, hsz1, hall1, hsz2, hall2, hln5, hln6, ifT, w64, valR, beq_self_eq_true, bne_self_eq_false, List.getElem?_cons_zero, List.getElem?_cons_succ, Bool.or_false, Bool.false_or, Bool.or_self, SQ, SU, SL, reduceCtorEq, Nat.reduceAdd, Nat.reduceLeDiff, reduceIte]
  refine BR_dec (fun hbn6 => ?_) (fun hbn6 => ?_)
  · simp (disch := omega) only [KC_eq, c4, hsz0, hall0, hsz1, hall1, hsz2, hall2, hln5, hln6, ifT, w64, valR, beq_self_eq_true, bne_self_eq_false, List.getElem?_cons_zero, List.getElem?_cons_succ, Bool.or_false, Bool.false_or, Bool.or_self, SQ, SU, SL, reduceCtorEq, Nat.reduceAdd, Nat.reduceLeDiff, reduceIte]
  simp (disch := omega) only [KC_eq, c4, hsz0, hall0, hsz1, hall1, hsz2, hall2, hln5, hln6, ifT, w64, valR, beq_self_eq_true, bne_self_eq_false, List.getElem?_cons_zero, List.getElem?_cons_succ, Bool.or_false, Bool.false_or, Bool.or_self, SQ, SU, SL, reduceCtorEq, Nat.reduceAdd, Nat.reduceLeDiff, reduceIte]
  refine SzOk.go sz_Table hv1 (k := 1048576) (by omega) (fun hf1 => ?_) (fun hf1 => ?_)
  case refine_2 =>
    simp (disch := omega) only [KC_eq, c4, hsz0, hall0, hsz1, hall1, hsz2, hall2, hln5, hln6, ifT, w64, valR, beq_self_eq_true, bne_self_eq_false, List.getElem?_cons_zero, List.getElem?_cons_succ, Bool.or_false, Bool.false_or, Bool.or_self, SQ, SU, SL, reduceCtorEq, Nat.reduceAdd, Nat.reduceLeDiff, reduceIte]
    refine BR_dec (fun hn => ?_) (fun hn => absurd (show (-1 : Int) < 0 by omega) hn)
    simp (disch := omega) only [KC_eq, c4, hsz0, hall0, hsz1, hall1, hsz2, hall2, hln5, hln6, ifT, w64, valR, beq_self_eq_true, bne_self_eq_false, List.getElem?_cons_zero, List.getElem?_cons_succ, Bool.or_false, Bool.false_or, Bool.or_self, SQ, SU, SL, reduceCtorEq, Nat.reduceAdd, Nat.reduceLeDiff, reduceIte]
  simp (disch := omega) only [KC_eq, c4, hsz0, hall0, hsz1, hall1, hsz2, hall2, hln5, hln6, ifT, w64, valR, beq_self_eq_true, bne_self_eq_false, List.getElem?_cons_zero, List.getElem?_cons_succ, Bool.or_false, Bool.false_or, Bool.or_self, SQ, SU, SL, reduceCtorEq, Nat.reduceAdd, Nat.reduceLeDiff, reduceIte]
  refine BR_dec (fun hn => absurd hn (by omega)) (fun hn => ?_)
  simp (disch := omega) only [KC_eq, c4, hsz0, hall0, hsz1, hall1, hsz2, hall2, hln5, hln6, ifT, w64, valR, beq_self_eq_true, bne_self_eq_false, List.getElem?_cons_zero, List.getElem?_cons_succ, Bool.or_false, Bool.false_or, Bool.or_self, SQ, SU, SL, reduceCtorEq, Nat.reduceAdd, Nat.reduceLeDiff, reduceIte]
  refine SzOk.go sz_Head hv2 (k := 1048576 - wt t.tv) (by omega) (fun hf2 => ?_) (fun hf2 => ?_)
  case refine_2 =>
    simp (disch := omega) only [KC_eq, c4, hsz0, hall0, hsz1, hall1, hsz2, hall2, hln5, hln6, ifT, w64, valR, beq_self_eq_true, bne_self_eq_false, List.getElem?_cons_zero, List.getElem?_cons_succ, Bool.or_false, Bool.false_or, Bool.or_self, SQ, SU, SL, reduceCtorEq, Nat.reduceAdd, Nat.reduceLeDiff, reduceIte]
    refine BR_dec (fun hn => ?_) (fun hn => absurd (show (-1 : Int) < 0 by omega) hn)
    simp (disch := omega) only [KC_eq, c4, hsz0, hall0, hsz1, hall1, hsz2, hall2, hln5, hln6, ifT, w64, valR, beq_self_eq_true, bne_self_eq_false, List.getElem?_cons_zero, List.getElem?_cons_succ, Bool.or_false, Bool.false_or, Bool.or_self, SQ, SU, SL, reduceCtorEq, Nat.reduceAdd, Nat.reduceLeDiff, reduceIte]
  simp (disch := omega) only [KC_eq, c4, hsz0, hall0, hsz1, hall1, hsz2, hall2, hln5, hln6, ifT, w64, valR, beq_self_eq_true, bne_self_eq_false, List.getElem?_cons_zero, List.getElem?_cons_succ, Bool.or_false, Bool.false_or, Bool.or_self, SQ, SU, SL, reduceCtorEq, Nat.reduceAdd, Nat.reduceLeDiff, reduceIte]
  refine BR_dec (fun hn => absurd hn (by omega)) (fun hn => ?_)
  simp (disch := omega) only [KC_eq, c4, hsz0, hall0, hsz1, hall1, hsz2, hall2, hln5, hln6, ifT, w64, valR, beq_self_eq_true, bne_self_eq_false, List.getElem?_cons_zero, List.getElem?_cons_succ, Bool.or_false, Bool.false_or, Bool.or_self, SQ, SU, SL, reduceCtorEq, Nat.reduceAdd, Nat.reduceLeDiff, reduceIte]
  refine WC_call (to_Limits hv0 (by omega)) ?_
  rintro r0 g0 ⟨t0, d0, U0, hg0, rfl, z0, o0, l0⟩
  have n0 := len_app' hg0
  have b0 := z0.lt
  have hd0 : d0.length = 5 := z0.size
  have ht0 : d0.take 5 = d0 := List.take_of_length_le (by omega)
  simp (disch := omega) only [KC_eq, c4, hsz0, hall0, hsz1, hall1, hsz2, hall2, hln5, hln6, hd0, ht0, ifT, w64, valR, beq_self_eq_true, bne_self_eq_false, List.getElem?_cons_zero, List.getElem?_cons_succ, Bool.or_false, Bool.false_or, Bool.or_self, SQ, SU, SL, reduceCtorEq, Nat.reduceAdd, Nat.reduceLeDiff, reduceIte]
  refine WC_call (to_Table (Rp.app' hg0 hv1) (by omega)) ?_
  rintro r1 g1 ⟨t1, d1, U1, hg1, rfl, z1, o1, l1⟩
  have n1 := len_app' hg1
  have b1 := z1.lt
  have hd1 : d1.length = 1 := z1.size
  have ht1 : d1.take 1 = d1 := List.take_of_length_le (by omega)
  have hs1_0 : setL [.nils] 0 d1 = d1 := setL_all (by rw [hd1]; rfl)
  simp (disch := omega) only [KC_eq, c4, hsz0, hall0, hsz1, hall1, hsz2, hall2, hln5, hln6, hd0, ht0, hd1, ht1, hs1_0, ifT, w64, valR, beq_self_eq_true, bne_self_eq_false, List.getElem?_cons_zero, List.getElem?_cons_succ, Bool.or_false, Bool.false_or, Bool.or_self, SQ, SU, SL, reduceCtorEq, Nat.reduceAdd, Nat.reduceLeDiff, reduceIte]
  refine WC_call (to_Head (Rp.app' hg1 (Rp.app' hg0 hv2)) (by omega)) ?_
  rintro r2 g2 ⟨t2, d2, U2, hg2, rfl, z2, o2, l2⟩
  have n2 := len_app' hg2
  have b2 := z2.lt
  have hd2 : d2.length = 10 := z2.size
  have ht2 : d2.take 10 = d2 := List.take_of_length_le (by omega)
  have hs2_0 : setL [.int .i64 0, .int .i64 0, .int .i64 0, .nils, .nils, .int .i64 0, .int .i64 0, .nils, .nils, .nils] 0 d2 = d2 := setL_all (by rw [hd2]; rfl)
  simp (disch := omega) only [KC_eq, c4, hsz0, hall0, hsz1, hall1, hsz2, hall2, hln5, hln6, hd0, ht0, hd1, ht1, hs1_0, hd2, ht2, hs2_0, ifT, w64, valR, beq_self_eq_true, bne_self_eq_false, List.getElem?_cons_zero, List.getElem?_cons_succ, Bool.or_false, Bool.false_or, Bool.or_self, SQ, SU, SL, reduceCtorEq, Nat.reduceAdd, Nat.reduceLeDiff, reduceIte]
  refine WC_call (to_ByteS (Rp.app' hg2 (Rp.app' hg1 (Rp.app' hg0 hv5))) (by omega)) ?_
  rintro r3 g3 ⟨t3, d3, U3, hg3, rfl, z3, o3, l3⟩
  have n3 := len_app' hg3
  have b3 := z3.lt
  obtain ⟨e3, rfl⟩ := z3.one rfl
  simp (disch := omega) only [KC_eq, c4, hsz0, hall0, hsz1, hall1, hsz2, hall2, hln5, hln6, hd0, ht0, hd1, ht1, hs1_0, hd2, ht2, hs2_0, ifT, w64, valR, beq_self_eq_true, bne_self_eq_false, List.getElem?_cons_zero, List.getElem?_cons_succ, Bool.or_false, Bool.false_or, Bool.or_self, SQ, SU, SL, reduceCtorEq, Nat.reduceAdd, Nat.reduceLeDiff, reduceIte]
  refine WC_call (to_ByteS (Rp.app' hg3 (Rp.app' hg2 (Rp.app' hg1 (Rp.app' hg0 hv6)))) (by omega)) ?_
  rintro r4 g4 ⟨t4, d4, U4, hg4, rfl, z4, o4, l4⟩
  have n4 := len_app' hg4
  have b4 := z4.lt
  obtain ⟨e4, rfl⟩ := z4.one rfl
  simp (disch := omega) only [KC_eq, c4, hsz0, hall0, hsz1, hall1, hsz2, hall2, hln5, hln6, hd0, ht0, hd1, ht1, hs1_0, hd2, ht2, hs2_0, ifT, w64, valR, beq_self_eq_true, bne_self_eq_false, List.getElem?_cons_zero, List.getElem?_cons_succ, Bool.or_false, Bool.false_or, Bool.or_self, SQ, SU, SL, reduceCtorEq, Nat.reduceAdd, Nat.reduceLeDiff, reduceIte]
  refine WC_call (F.io_spec_NextHead ⟨_, _, rfl, ⟨_, (Rp.app' hg4 (Rp.app' hg3 (Rp.app' hg2 (Rp.app' hg1 z0))))⟩, ⟨_, _, rfl, ⟨_, (Rp.app' hg4 (Rp.app' hg3 (Rp.app' hg2 z1)))⟩, ⟨_, _, rfl, ⟨_, (Rp.app' hg4 (Rp.app' hg3 z2))⟩, ⟨_, _, rfl, ⟨_, (Rp.app' hg4 (Rp.app' hg3 (Rp.app' hg2 (Rp.app' hg1 (Rp.app' hg0 hv3)))))⟩, ⟨_, _, rfl, ⟨_, (Rp.app' hg4 (Rp.app' hg3 (Rp.app' hg2 (Rp.app' hg1 (Rp.app' hg0 hv4)))))⟩, ⟨_, _, rfl, ⟨_, (Rp.app' hg4 z3)⟩, ⟨_, _, rfl, ⟨_, z4⟩, rfl⟩⟩⟩⟩⟩⟩⟩ (by omega) (by omega) (by omega) (by omega)) ?_
  rintro r5 g5 ⟨t5, css5, U5, hg5, rfl, zz5, o5, l5⟩
  have n5 := len_app' hg5
  obtain ⟨d5_0, cr5_0, U5_0, V5_0, rfl, rfl, z5_0, zz5_0⟩ := zz5
  obtain ⟨d5_1, cr5_1, U5_1, V5_1, rfl, rfl, z5_1, zz5_1⟩ := zz5_0
  obtain ⟨q5_1, rfl, hq5_1, rfl⟩ := z5_1.bool
  injection hq5_1 with hq5_1; subst hq5_1
  obtain ⟨rfl, rfl⟩ := zz5_1
  simp only [List.nil_append, List.append_nil] at o5 l5
  have o5_0 := o5
  have b5_0 := z5_0.lt
  have l5_0 := l5
  have hd5_0 : d5_0.length = 10 := z5_0.size
  have ht5_0 : d5_0.take 10 = d5_0 := List.take_of_length_le (by omega)
  have hs5_0_0 : setL [.int .i64 0, .int .i64 0, .int .i64 0, .nils, .nils, .int .i64 0, .int .i64 0, .nils, .nils, .nils] 0 d5_0 = d5_0 := setL_all (by rw [hd5_0]; rfl)
  simp (disch := omega) only [KC_eq, c4, hsz0, hall0, hsz1, hall1, hsz2, hall2, hln5, hln6, hd0, ht0, hd1, ht1, hs1_0, hd2, ht2, hs2_0, hd5_0, ht5_0, hs5_0_0, ifT, w64, valR, beq_self_eq_true, bne_self_eq_false, List.getElem?_cons_zero, List.getElem?_cons_succ, Bool.or_false, Bool.false_or, Bool.or_self, SQ, SU, SL, reduceCtorEq, Nat.reduceAdd, Nat.reduceLeDiff, reduceIte]
  refine WC_call (to_Table (Rp.app' hg5 (Rp.app' hg4 (Rp.app' hg3 (Rp.app' hg2 (Rp.app' hg1 (Rp.app' hg0 hv1)))))) (by omega)) ?_
  rintro r6 g6 ⟨t6, d6, U6, hg6, rfl, z6, o6, l6⟩
  have n6 := len_app' hg6
  have b6 := z6.lt
  have hd6 : d6.length = 1 := z6.size
  have ht6 : d6.take 1 = d6 := List.take_of_length_le (by omega)
  have hs6_0 : setL [.nils] 0 d6 = d6 := setL_all (by rw [hd6]; rfl)
  simp (disch := omega) only [KC_eq, c4, hsz0, hall0, hsz1, hall1, hsz2, hall2, hln5, hln6, hd0, ht0, hd1, ht1, hs1_0, hd2, ht2, hs2_0, hd5_0, ht5_0, hs5_0_0, hd6, ht6, hs6_0, ifT, w64, valR, beq_self_eq_true, bne_self_eq_false, List.getElem?_cons_zero, List.getElem?_cons_succ, Bool.or_false, Bool.false_or, Bool.or_self, SQ, SU, SL, reduceCtorEq, Nat.reduceAdd, Nat.reduceLeDiff, reduceIte]
  refine WC_call (to_Head (Rp.app' hg6 (Rp.app' hg5 (Rp.app' hg4 (Rp.app' hg3 (Rp.app' hg2 (Rp.app' hg1 (Rp.app' hg0 hv2))))))) (by omega)) ?_
  rintro r7 g7 ⟨t7, d7, U7, hg7, rfl, z7, o7, l7⟩
  have n7 := len_app' hg7
  have b7 := z7.lt
  have hd7 : d7.length = 10 := z7.size
  have ht7 : d7.take 10 = d7 := List.take_of_length_le (by omega)
  have hs7_0 : setL [.int .i64 0, .int .i64 0, .int .i64 0, .nils, .nils, .int .i64 0, .int .i64 0, .nils, .nils, .nils] 0 d7 = d7 := setL_all (by rw [hd7]; rfl)
  simp (disch := omega) only [KC_eq, c4, hsz0, hall0, hsz1, hall1, hsz2, hall2, hln5, hln6, hd0, ht0, hd1, ht1, hs1_0, hd2, ht2, hs2_0, hd5_0, ht5_0, hs5_0_0, hd6, ht6, hs6_0, hd7, ht7, hs7_0, ifT, w64, valR, beq_self_eq_true, bne_self_eq_false, List.getElem?_cons_zero, List.getElem?_cons_succ, Bool.or_false, Bool.false_or, Bool.or_self, SQ, SU, SL, reduceCtorEq, Nat.reduceAdd, Nat.reduceLeDiff, reduceIte]
  refine WC_call (to_ByteS (Rp.app' hg7 (Rp.app' hg6 (Rp.app' hg5 (Rp.app' hg4 (Rp.app' hg3 (Rp.app' hg2 (Rp.app' hg1 (Rp.app' hg0 hv5)))))))) (by omega)) ?_
  rintro r8 g8 ⟨t8, d8, U8, hg8, rfl, z8, o8, l8⟩
  have n8 := len_app' hg8
  have b8 := z8.lt
  obtain ⟨e8, rfl⟩ := z8.one rfl
  simp (disch := omega) only [KC_eq, c4, hsz0, hall0, hsz1, hall1, hsz2, hall2, hln5, hln6, hd0, ht0, hd1, ht1, hs1_0, hd2, ht2, hs2_0, hd5_0, ht5_0, hs5_0_0, hd6, ht6, hs6_0, hd7, ht7, hs7_0, ifT, w64, valR, beq_self_eq_true, bne_self_eq_false, List.getElem?_cons_zero, List.getElem?_cons_succ, Bool.or_false, Bool.false_or, Bool.or_self, SQ, SU, SL, reduceCtorEq, Nat.reduceAdd, Nat.reduceLeDiff, reduceIte]
  refine WC_call (to_ByteS (Rp.app' hg8 (Rp.app' hg7 (Rp.app' hg6 (Rp.app' hg5 (Rp.app' hg4 (Rp.app' hg3 (Rp.app' hg2 (Rp.app' hg1 (Rp.app' hg0 hv6))))))))) (by omega)) ?_
  rintro r9 g9 ⟨t9, d9, U9, hg9, rfl, z9, o9, l9⟩
  have n9 := len_app' hg9
  have b9 := z9.lt
  obtain ⟨e9, rfl⟩ := z9.one rfl
  simp (disch := omega) only [KC_eq, c4, hsz0, hall0, hsz1, hall1, hsz2, hall2, hln5, hln6, hd0, ht0, hd1, ht1, hs1_0, hd2, ht2, hs2_0, hd5_0, ht5_0, hs5_0_0, hd6, ht6, hs6_0, hd7, ht7, hs7_0, ifT, w64, valR, beq_self_eq_true, bne_self_eq_false, List.getElem?_cons_zero, List.getElem?_cons_succ, Bool.or_false, Bool.false_or, Bool.or_self, SQ, SU, SL, reduceCtorEq, Nat.reduceAdd, Nat.reduceLeDiff, reduceIte]
  refine WC_call (to_Limits (Rp.app' hg9 (Rp.app' hg8 (Rp.app' hg7 (Rp.app' hg6 (Rp.app' hg5 (Rp.app' hg4 (Rp.app' hg3 (Rp.app' hg2 (Rp.app' hg1 (Rp.app' hg0 hv0)))))))))) (by omega)) ?_
  rintro r10 g10 ⟨t10, d10, U10, hg10, rfl, z10, o10, l10⟩
  have n10 := len_app' hg10
  have b10 := z10.lt
  have hd10 : d10.length = 5 := z10.size
  have ht10 : d10.take 5 = d10 := List.take_of_length_le (by omega)
  simp (disch := omega) only [KC_eq, c4, hsz0, hall0, hsz1, hall1, hsz2, hall2, hln5, hln6, hd0, ht0, hd1, ht1, hs1_0, hd2, ht2, hs2_0, hd5_0, ht5_0, hs5_0_0, hd6, ht6, hs6_0, hd7, ht7, hs7_0, hd10, ht10, ifT, w64, valR, beq_self_eq_true, bne_self_eq_false, List.getElem?_cons_zero, List.getElem?_cons_succ, Bool.or_false, Bool.false_or, Bool.or_self, SQ, SU, SL, reduceCtorEq, Nat.reduceAdd, Nat.reduceLeDiff, reduceIte]
  refine WC_call (F.io_impl_NextHead ⟨_, _, rfl, ⟨_, z10⟩, ⟨_, _, rfl, ⟨_, (Rp.app' hg10 (Rp.app' hg9 (Rp.app' hg8 (Rp.app' hg7 z6))))⟩, ⟨_, _, rfl, ⟨_, (Rp.app' hg10 (Rp.app' hg9 (Rp.app' hg8 z7)))⟩, ⟨_, _, rfl, ⟨_, (Rp.app' hg10 (Rp.app' hg9 (Rp.app' hg8 (Rp.app' hg7 (Rp.app' hg6 (Rp.app' hg5 (Rp.app' hg4 (Rp.app' hg3 (Rp.app' hg2 (Rp.app' hg1 (Rp.app' hg0 hv3)))))))))))⟩, ⟨_, _, rfl, ⟨_, (Rp.app' hg10 (Rp.app' hg9 (Rp.app' hg8 (Rp.app' hg7 (Rp.app' hg6 (Rp.app' hg5 (Rp.app' hg4 (Rp.app' hg3 (Rp.app' hg2 (Rp.app' hg1 (Rp.app' hg0 hv4)))))))))))⟩, ⟨_, _, rfl, ⟨_, (Rp.app' hg10 (Rp.app' hg9 z8))⟩, ⟨_, _, rfl, ⟨_, (Rp.app' hg10 z9)⟩, rfl⟩⟩⟩⟩⟩⟩⟩ (by omega) (by omega) (by omega) (by omega)) ?_
  rintro r11 g11 ⟨t11, css11, U11, hg11, rfl, zz11, o11, l11⟩
  have n11 := len_app' hg11
  obtain ⟨d11_0, cr11_0, U11_0, V11_0, rfl, rfl, z11_0, zz11_0⟩ := zz11
  obtain ⟨d11_1, cr11_1, U11_1, V11_1, rfl, rfl, z11_1, zz11_1⟩ := zz11_0
  obtain ⟨q11_1, rfl, hq11_1, rfl⟩ := z11_1.bool
  injection hq11_1 with hq11_1; subst hq11_1
  obtain ⟨rfl, rfl⟩ := zz11_1
  simp only [List.nil_append, List.append_nil] at o11 l11
  have o11_0 := o11
  have b11_0 := z11_0.lt
  have l11_0 := l11
  have hd11_0 : d11_0.length = 10 := z11_0.size
  have ht11_0 : d11_0.take 10 = d11_0 := List.take_of_length_le (by omega)
  have hs11_0_0 : setL [.int .i64 0, .int .i64 0, .int .i64 0, .nils, .nils, .int .i64 0, .int .i64 0, .nils, .nils, .nils] 0 d11_0 = d11_0 := setL_all (by rw [hd11_0]; rfl)
  simp (disch := omega) only [KC_eq, c4, hsz0, hall0, hsz1, hall1, hsz2, hall2, hln5, hln6, hd0, ht0, hd1, ht1, hs1_0, hd2, ht2, hs2_0, hd5_0, ht5_0, hs5_0_0, hd6, ht6, hs6_0, hd7, ht7, hs7_0, hd10, ht10, hd11_0, ht11_0, hs11_0_0, ifT, w64, valR, beq_self_eq_true, bne_self_eq_false, List.getElem?_cons_zero, List.getElem?_cons_succ, Bool.or_false, Bool.false_or, Bool.or_self, SQ, SU, SL, reduceCtorEq, Nat.reduceAdd, Nat.reduceLeDiff, reduceIte]
  refine EqOk.go eq_Head z11_0 (Rp.app' hg11 (Rp.app' hg10 (Rp.app' hg9 (Rp.app' hg8 (Rp.app' hg7 (Rp.app' hg6 z5_0)))))) (fun _ => ?_) (fun hne => absurd rfl hne)
  simp (disch := omega) only [KC_eq, c4, hsz0, hall0, hsz1, hall1, hsz2, hall2, hln5, hln6, hd0, ht0, hd1, ht1, hs1_0, hd2, ht2, hs2_0, hd5_0, ht5_0, hs5_0_0, hd6, ht6, hs6_0, hd7, ht7, hs7_0, hd10, ht10, hd11_0, ht11_0, hs11_0_0, ifT, w64, valR, beq_self_eq_true, bne_self_eq_false, List.getElem?_cons_zero, List.getElem?_cons_succ, Bool.or_false, Bool.false_or, Bool.or_self, SQ, SU, SL, reduceCtorEq, Nat.reduceAdd, Nat.reduceLeDiff, reduceIte]
  refine WC_call (to_Table (Rp.app' hg11 (Rp.app' hg10 (Rp.app' hg9 (Rp.app' hg8 (Rp.app' hg7 (Rp.app' hg6 (Rp.app' hg5 (Rp.app' hg4 (Rp.app' hg3 (Rp.app' hg2 (Rp.app' hg1 (Rp.app' hg0 hv1)))))))))))) (by omega)) ?_
  rintro r12 g12 ⟨t12, d12, U12, hg12, rfl, z12, o12, l12⟩
  have n12 := len_app' hg12
  have b12 := z12.lt
  have hd12 : d12.length = 1 := z12.size
  have ht12 : d12.take 1 = d12 := List.take_of_length_le (by omega)
  have hs12_0 : setL [.nils] 0 d12 = d12 := setL_all (by rw [hd12]; rfl)
  simp (disch := omega) only [KC_eq, c4, hsz0, hall0, hsz1, hall1, hsz2, hall2, hln5, hln6, hd0, ht0, hd1, ht1, hs1_0, hd2, ht2, hs2_0, hd5_0, ht5_0, hs5_0_0, hd6, ht6, hs6_0, hd7, ht7, hs7_0, hd10, ht10, hd11_0, ht11_0, hs11_0_0, hd12, ht12, hs12_0, ifT, w64, valR, beq_self_eq_true, bne_self_eq_false, List.getElem?_cons_zero, List.getElem?_cons_succ, Bool.or_false, Bool.false_or, Bool.or_self, SQ, SU, SL, reduceCtorEq, Nat.reduceAdd, Nat.reduceLeDiff, reduceIte]
  refine EqOk.go eq_Table (Rp.app' hg12 (Rp.app' hg11 (Rp.app' hg10 (Rp.app' hg9 (Rp.app' hg8 (Rp.app' hg7 z6)))))) z12 (fun _ => ?_) (fun hne => absurd rfl hne)
  simp (disch := omega) only [KC_eq, c4, hsz0, hall0, hsz1, hall1, hsz2, hall2, hln5, hln6, hd0, ht0, hd1, ht1, hs1_0, hd2, ht2, hs2_0, hd5_0, ht5_0, hs5_0_0, hd6, ht6, hs6_0, hd7, ht7, hs7_0, hd10, ht10, hd11_0, ht11_0, hs11_0_0, hd12, ht12, hs12_0, ifT, w64, valR, beq_self_eq_true, bne_self_eq_false, List.getElem?_cons_zero, List.getElem?_cons_succ, Bool.or_false, Bool.false_or, Bool.or_self, SQ, SU, SL, reduceCtorEq, Nat.reduceAdd, Nat.reduceLeDiff, reduceIte]
  refine WC_call (to_Head (Rp.app' hg12 (Rp.app' hg11 (Rp.app' hg10 (Rp.app' hg9 (Rp.app' hg8 (Rp.app' hg7 (Rp.app' hg6 (Rp.app' hg5 (Rp.app' hg4 (Rp.app' hg3 (Rp.app' hg2 (Rp.app' hg1 (Rp.app' hg0 hv2))))))))))))) (by omega)) ?_
  rintro r13 g13 ⟨t13, d13, U13, hg13, rfl, z13, o13, l13⟩
  have n13 := len_app' hg13
  have b13 := z13.lt
  have hd13 : d13.length = 10 := z13.size
  have ht13 : d13.take 10 = d13 := List.take_of_length_le (by omega)
  have hs13_0 : setL [.int .i64 0, .int .i64 0, .int .i64 0, .nils, .nils, .int .i64 0, .int .i64 0, .nils, .nils, .nils] 0 d13 = d13 := setL_all (by rw [hd13]; rfl)
  simp (disch := omega) only [KC_eq, c4, hsz0, hall0, hsz1, hall1, hsz2, hall2, hln5, hln6, hd0, ht0, hd1, ht1, hs1_0, hd2, ht2, hs2_0, hd5_0, ht5_0, hs5_0_0, hd6, ht6, hs6_0, hd7, ht7, hs7_0, hd10, ht10, hd11_0, ht11_0, hs11_0_0, hd12, ht12, hs12_0, hd13, ht13, hs13_0, ifT, w64, valR, beq_self_eq_true, bne_self_eq_false, List.getElem?_cons_zero, List.getElem?_cons_succ, Bool.or_false, Bool.false_or, Bool.or_self, SQ, SU, SL, reduceCtorEq, Nat.reduceAdd, Nat.reduceLeDiff, reduceIte]
  refine EqOk.go eq_Head (Rp.app' hg13 (Rp.app' hg12 (Rp.app' hg11 (Rp.app' hg10 (Rp.app' hg9 (Rp.app' hg8 z7)))))) z13 (fun _ => ?_) (fun hne => absurd rfl hne)
  simp (disch := omega) only [KC_eq, c4, hsz0, hall0, hsz1, hall1, hsz2, hall2, hln5, hln6, hd0, ht0, hd1, ht1, hs1_0, hd2, ht2, hs2_0, hd5_0, ht5_0, hs5_0_0, hd6, ht6, hs6_0, hd7, ht7, hs7_0, hd10, ht10, hd11_0, ht11_0, hs11_0_0, hd12, ht12, hs12_0, hd13, ht13, hs13_0, ifT, w64, valR, beq_self_eq_true, bne_self_eq_false, List.getElem?_cons_zero, List.getElem?_cons_succ, Bool.or_false, Bool.false_or, Bool.or_self, SQ, SU, SL, reduceCtorEq, Nat.reduceAdd, Nat.reduceLeDiff, reduceIte]
  refine WC_call (to_ByteS (Rp.app' hg13 (Rp.app' hg12 (Rp.app' hg11 (Rp.app' hg10 (Rp.app' hg9 (Rp.app' hg8 (Rp.app' hg7 (Rp.app' hg6 (Rp.app' hg5 (Rp.app' hg4 (Rp.app' hg3 (Rp.app' hg2 (Rp.app' hg1 (Rp.app' hg0 hv5)))))))))))))) (by omega)) ?_
  rintro r14 g14 ⟨t14, d14, U14, hg14, rfl, z14, o14, l14⟩
  have n14 := len_app' hg14
  have b14 := z14.lt
  obtain ⟨e14, rfl⟩ := z14.one rfl
  simp (disch := omega) only [KC_eq, c4, hsz0, hall0, hsz1, hall1, hsz2, hall2, hln5, hln6, hd0, ht0, hd1, ht1, hs1_0, hd2, ht2, hs2_0, hd5_0, ht5_0, hs5_0_0, hd6, ht6, hs6_0, hd7, ht7, hs7_0, hd10, ht10, hd11_0, ht11_0, hs11_0_0, hd12, ht12, hs12_0, hd13, ht13, hs13_0, ifT, w64, valR, beq_self_eq_true, bne_self_eq_false, List.getElem?_cons_zero, List.getElem?_cons_succ, Bool.or_false, Bool.false_or, Bool.or_self, SQ, SU, SL, reduceCtorEq, Nat.reduceAdd, Nat.reduceLeDiff, reduceIte]
  refine EqOk.go eq_ByteS (Rp.app' hg14 (Rp.app' hg13 (Rp.app' hg12 (Rp.app' hg11 (Rp.app' hg10 (Rp.app' hg9 z8)))))) z14 (fun _ => ?_) (fun hne => absurd rfl hne)
  simp (disch := omega) only [KC_eq, c4, hsz0, hall0, hsz1, hall1, hsz2, hall2, hln5, hln6, hd0, ht0, hd1, ht1, hs1_0, hd2, ht2, hs2_0, hd5_0, ht5_0, hs5_0_0, hd6, ht6, hs6_0, hd7, ht7, hs7_0, hd10, ht10, hd11_0, ht11_0, hs11_0_0, hd12, ht12, hs12_0, hd13, ht13, hs13_0, ifT, w64, valR, beq_self_eq_true, bne_self_eq_false, List.getElem?_cons_zero, List.getElem?_cons_succ, Bool.or_false, Bool.false_or, Bool.or_self, SQ, SU, SL, reduceCtorEq, Nat.reduceAdd, Nat.reduceLeDiff, reduceIte]
  refine WC_call (to_ByteS (Rp.app' hg14 (Rp.app' hg13 (Rp.app' hg12 (Rp.app' hg11 (Rp.app' hg10 (Rp.app' hg9 (Rp.app' hg8 (Rp.app' hg7 (Rp.app' hg6 (Rp.app' hg5 (Rp.app' hg4 (Rp.app' hg3 (Rp.app' hg2 (Rp.app' hg1 (Rp.app' hg0 hv6))))))))))))))) (by omega)) ?_
  rintro r15 g15 ⟨t15, d15, U15, hg15, rfl, z15, o15, l15⟩
  have n15 := len_app' hg15
  have b15 := z15.lt
  obtain ⟨e15, rfl⟩ := z15.one rfl
  simp (disch := omega) only [KC_eq, c4, hsz0, hall0, hsz1, hall1, hsz2, hall2, hln5, hln6, hd0, ht0, hd1, ht1, hs1_0, hd2, ht2, hs2_0, hd5_0, ht5_0, hs5_0_0, hd6, ht6, hs6_0, hd7, ht7, hs7_0, hd10, ht10, hd11_0, ht11_0, hs11_0_0, hd12, ht12, hs12_0, hd13, ht13, hs13_0, ifT, w64, valR, beq_self_eq_true, bne_self_eq_false, List.getElem?_cons_zero, List.getElem?_cons_succ, Bool.or_false, Bool.false_or, Bool.or_self, SQ, SU, SL, reduceCtorEq, Nat.reduceAdd, Nat.reduceLeDiff, reduceIte]
  refine EqOk.go eq_ByteS (Rp.app' hg15 (Rp.app' hg14 (Rp.app' hg13 (Rp.app' hg12 (Rp.app' hg11 (Rp.app' hg10 z9)))))) z15 (fun _ => ?_) (fun hne => absurd rfl hne)
  simp (disch := omega) only [KC_eq, c4, hsz0, hall0, hsz1, hall1, hsz2, hall2, hln5, hln6, hd0, ht0, hd1, ht1, hs1_0, hd2, ht2, hs2_0, hd5_0, ht5_0, hs5_0_0, hd6, ht6, hs6_0, hd7, ht7, hs7_0, hd10, ht10, hd11_0, ht11_0, hs11_0_0, hd12, ht12, hs12_0, hd13, ht13, hs13_0, ifT, w64, valR, beq_self_eq_true, bne_self_eq_false, List.getElem?_cons_zero, List.getElem?_cons_succ, Bool.or_false, Bool.false_or, Bool.or_self, SQ, SU, SL, reduceCtorEq, Nat.reduceAdd, Nat.reduceLeDiff, reduceIte]
  refine MkOk.go mk_Table (Rp.app' hg15 (Rp.app' hg14 (Rp.app' hg13 (Rp.app' hg12 (Rp.app' hg11 (Rp.app' hg10 (Rp.app' hg9 (Rp.app' hg8 (Rp.app' hg7 z6))))))))) (Ownd.app' hg15 (Ownd.app' hg14 (Ownd.app' hg13 (Ownd.app' hg12 (Ownd.app' hg11 (Ownd.app' hg10 (Ownd.app' hg9 (Ownd.app' hg8 (Ownd.app' hg7 o6))))))))) (k := 1) (by omega) (fun gw1 w1 zw1 => ?_)
  have nw1 := w1.1
  simp (disch := omega) only [KC_eq, c4, hsz0, hall0, hsz1, hall1, hsz2, hall2, hln5, hln6, hd0, ht0, hd1, ht1, hs1_0, hd2, ht2, hs2_0, hd5_0, ht5_0, hs5_0_0, hd6, ht6, hs6_0, hd7, ht7, hs7_0, hd10, ht10, hd11_0, ht11_0, hs11_0_0, hd12, ht12, hs12_0, hd13, ht13, hs13_0, ifT, w64, valR, beq_self_eq_true, bne_self_eq_false, List.getElem?_cons_zero, List.getElem?_cons_succ, Bool.or_false, Bool.false_or, Bool.or_self, SQ, SU, SL, reduceCtorEq, Nat.reduceAdd, Nat.reduceLeDiff, reduceIte]
  refine MkOk.go mk_Head ((Rp.app' hg15 (Rp.app' hg14 (Rp.app' hg13 (Rp.app' hg12 (Rp.app' hg11 (Rp.app' hg10 (Rp.app' hg9 (Rp.app' hg8 z7)))))))).wrote w1 (fun i hi hn => by have := b7 i hi; have := l7 i hi; have := b6 i hn; have := l6 i hn; omega)) (w1.ownd (Ownd.app' hg15 (Ownd.app' hg14 (Ownd.app' hg13 (Ownd.app' hg12 (Ownd.app' hg11 (Ownd.app' hg10 (Ownd.app' hg9 (Ownd.app' hg8 o7))))))))) (k := 1 + cnT TTable t.tv) (by omega) (fun gw2 w2 zw2 => ?_)
  have nw2 := w2.1
  simp (disch := omega) only [KC_eq, c4, hsz0, hall0, hsz1, hall1, hsz2, hall2, hln5, hln6, hd0, ht0, hd1, ht1, hs1_0, hd2, ht2, hs2_0, hd5_0, ht5_0, hs5_0_0, hd6, ht6, hs6_0, hd7, ht7, hs7_0, hd10, ht10, hd11_0, ht11_0, hs11_0_0, hd12, ht12, hs12_0, hd13, ht13, hs13_0, ifT, w64, valR, beq_self_eq_true, bne_self_eq_false, List.getElem?_cons_zero, List.getElem?_cons_succ, Bool.or_false, Bool.false_or, Bool.or_self, SQ, SU, SL, reduceCtorEq, Nat.reduceAdd, Nat.reduceLeDiff, reduceIte]
  refine MkOk.go mk_ByteS (((Rp.app' hg15 (Rp.app' hg14 (Rp.app' hg13 (Rp.app' hg12 (Rp.app' hg11 (Rp.app' hg10 (Rp.app' hg9 z8))))))).wrote w1 (fun i hi hn => by have := b8 i hi; have := l8 i hi; have := b6 i hn; have := l6 i hn; omega)).wrote w2 (fun i hi hn => by have := b8 i hi; have := l8 i hi; have := b7 i hn; have := l7 i hn; omega)) (w2.ownd (w1.ownd (Ownd.app' hg15 (Ownd.app' hg14 (Ownd.app' hg13 (Ownd.app' hg12 (Ownd.app' hg11 (Ownd.app' hg10 (Ownd.app' hg9 o8))))))))) (k := 1 + cnT TTable t.tv + cnT THead a.tv) (by omega) (fun gw5 w5 zw5 => ?_)
  have nw5 := w5.1
  simp (disch := omega) only [KC_eq, c4, hsz0, hall0, hsz1, hall1, hsz2, hall2, hln5, hln6, hd0, ht0, hd1, ht1, hs1_0, hd2, ht2, hs2_0, hd5_0, ht5_0, hs5_0_0, hd6, ht6, hs6_0, hd7, ht7, hs7_0, hd10, ht10, hd11_0, ht11_0, hs11_0_0, hd12, ht12, hs12_0, hd13, ht13, hs13_0, ifT, w64, valR, beq_self_eq_true, bne_self_eq_false, List.getElem?_cons_zero, List.getElem?_cons_succ, Bool.or_false, Bool.false_or, Bool.or_self, SQ, SU, SL, reduceCtorEq, Nat.reduceAdd, Nat.reduceLeDiff, reduceIte]
  refine MkOk.go mk_ByteS ((((Rp.app' hg15 (Rp.app' hg14 (Rp.app' hg13 (Rp.app' hg12 (Rp.app' hg11 (Rp.app' hg10 z9)))))).wrote w1 (fun i hi hn => by have := b9 i hi; have := l9 i hi; have := b6 i hn; have := l6 i hn; omega)).wrote w2 (fun i hi hn => by have := b9 i hi; have := l9 i hi; have := b7 i hn; have := l7 i hn; omega)).wrote w5 (fun i hi hn => by have := b9 i hi; have := l9 i hi; have := b8 i hn; have := l8 i hn; omega)) (w5.ownd (w2.ownd (w1.ownd (Ownd.app' hg15 (Ownd.app' hg14 (Ownd.app' hg13 (Ownd.app' hg12 (Ownd.app' hg11 (Ownd.app' hg10 o9))))))))) (k := 1 + cnT TTable t.tv + cnT THead a.tv + cnT (.sl (.int .u8)) (bsT root)) (by omega) (fun gw6 w6 zw6 => ?_)
  have nw6 := w6.1
  have hneg : decide (((1 + cnT TTable t.tv + cnT THead a.tv + cnT (.sl (.int .u8)) (bsT root) + cnT (.sl (.int .u8)) (bsT bits) : Nat) : Int) < 0) = false := by simp; omega
  simp (disch := omega) only [KC_eq, c4, hsz0, hall0, hsz1, hall1, hsz2, hall2, hln5, hln6, hd0, ht0, hd1, ht1, hs1_0, hd2, ht2, hs2_0, hd5_0, ht5_0, hs5_0_0, hd6, ht6, hs6_0, hd7, ht7, hs7_0, hd10, ht10, hd11_0, ht11_0, hs11_0_0, hd12, ht12, hs12_0, hd13, ht13, hs13_0, hneg, ifT, w64, valR, beq_self_eq_true, bne_self_eq_false, List.getElem?_cons_zero, List.getElem?_cons_succ, Bool.or_false, Bool.false_or, Bool.or_self, SQ, SU, SL, reduceCtorEq, Nat.reduceAdd, Nat.reduceLeDiff, reduceIte]
  refine EqOk.go eq_Head (((((Rp.app' hg15 (Rp.app' hg14 (Rp.app' hg13 (Rp.app' hg12 z11_0)))).wrote w1 (fun i hi hn => by have := b11_0 i hi; have := l11_0 i hi; have := b6 i hn; have := l6 i hn; omega)).wrote w2 (fun i hi hn => by have := b11_0 i hi; have := l11_0 i hi; have := b7 i hn; have := l7 i hn; omega)).wrote w5 (fun i hi hn => by have := b11_0 i hi; have := l11_0 i hi; have := b8 i hn; have := l8 i hn; omega)).wrote w6 (fun i hi hn => by have := b11_0 i hi; have := l11_0 i hi; have := b9 i hn; have := l9 i hn; omega)) (((((Rp.app' hg15 (Rp.app' hg14 (Rp.app' hg13 (Rp.app' hg12 (Rp.app' hg11 (Rp.app' hg10 (Rp.app' hg9 (Rp.app' hg8 (Rp.app' hg7 (Rp.app' hg6 z5_0)))))))))).wrote w1 (fun i hi hn => by have := b5_0 i hi; have := l5_0 i hi; have := b6 i hn; have := l6 i hn; omega)).wrote w2 (fun i hi hn => by have := b5_0 i hi; have := l5_0 i hi; have := b7 i hn; have := l7 i hn; omega)).wrote w5 (fun i hi hn => by have := b5_0 i hi; have := l5_0 i hi; have := b8 i hn; have := l8 i hn; omega)).wrote w6 (fun i hi hn => by have := b5_0 i hi; have := l5_0 i hi; have := b9 i hn; have := l9 i hn; omega)) (fun _ => ?_) (fun hne => absurd rfl hne)
  simp (disch := omega) only [KC_eq, c4, hsz0, hall0, hsz1, hall1, hsz2, hall2, hln5, hln6, hd0, ht0, hd1, ht1, hs1_0, hd2, ht2, hs2_0, hd5_0, ht5_0, hs5_0_0, hd6, ht6, hs6_0, hd7, ht7, hs7_0, hd10, ht10, hd11_0, ht11_0, hs11_0_0, hd12, ht12, hs12_0, hd13, ht13, hs13_0, hneg, ifT, w64, valR, beq_self_eq_true, bne_self_eq_false, List.getElem?_cons_zero, List.getElem?_cons_succ, Bool.or_false, Bool.false_or, Bool.or_self, SQ, SU, SL, reduceCtorEq, Nat.reduceAdd, Nat.reduceLeDiff, reduceIte]
  refine MkOk.go mk_Head (((((Rp.app' hg15 (Rp.app' hg14 (Rp.app' hg13 (Rp.app' hg12 z11_0)))).wrote w1 (fun i hi hn => by have := b11_0 i hi; have := l11_0 i hi; have := b6 i hn; have := l6 i hn; omega)).wrote w2 (fun i hi hn => by have := b11_0 i hi; have := l11_0 i hi; have := b7 i hn; have := l7 i hn; omega)).wrote w5 (fun i hi hn => by have := b11_0 i hi; have := l11_0 i hi; have := b8 i hn; have := l8 i hn; omega)).wrote w6 (fun i hi hn => by have := b11_0 i hi; have := l11_0 i hi; have := b9 i hn; have := l9 i hn; omega)) (w6.ownd (w5.ownd (w2.ownd (w1.ownd (Ownd.app' hg15 (Ownd.app' hg14 (Ownd.app' hg13 (Ownd.app' hg12 o11_0)))))))) (k := 1) (by omega) (fun gm0 wm0 zm0 => ?_)
  have nm0 := wm0.1
  simp (disch := omega) only [KC_eq, c4, hsz0, hall0, hsz1, hall1, hsz2, hall2, hln5, hln6, hd0, ht0, hd1, ht1, hs1_0, hd2, ht2, hs2_0, hd5_0, ht5_0, hs5_0_0, hd6, ht6, hs6_0, hd7, ht7, hs7_0, hd10, ht10, hd11_0, ht11_0, hs11_0_0, hd12, ht12, hs12_0, hd13, ht13, hs13_0, hneg, ifT, w64, valR, beq_self_eq_true, bne_self_eq_false, List.getElem?_cons_zero, List.getElem?_cons_succ, Bool.or_false, Bool.false_or, Bool.or_self, SQ, SU, SL, reduceCtorEq, Nat.reduceAdd, Nat.reduceLeDiff, reduceIte]
  refine HdOk.go hd_Head ⟨_, _, _, z11_0⟩ zm0 (k := 1) (by omega) ?_
  simp (disch := omega) only [KC_eq, c4, hsz0, hall0, hsz1, hall1, hsz2, hall2, hln5, hln6, hd0, ht0, hd1, ht1, hs1_0, hd2, ht2, hs2_0, hd5_0, ht5_0, hs5_0_0, hd6, ht6, hs6_0, hd7, ht7, hs7_0, hd10, ht10, hd11_0, ht11_0, hs11_0_0, hd12, ht12, hs12_0, hd13, ht13, hs13_0, hneg, ifT, w64, valR, beq_self_eq_true, bne_self_eq_false, List.getElem?_cons_zero, List.getElem?_cons_succ, Bool.or_false, Bool.false_or, Bool.or_self, SQ, SU, SL, reduceCtorEq, Nat.reduceAdd, Nat.reduceLeDiff, reduceIte]
  refine BR_dec (fun hn => absurd hn (by omega)) (fun hn => ?_)
  simp (disch := omega) only [KC_eq, c4, hsz0, hall0, hsz1, hall1, hsz2, hall2, hln5, hln6, hd0, ht0, hd1, ht1, hs1_0, hd2, ht2, hs2_0, hd5_0, ht5_0, hs5_0_0, hd6, ht6, hs6_0, hd7, ht7, hs7_0, hd10, ht10, hd11_0, ht11_0, hs11_0_0, hd12, ht12, hs12_0, hd13, ht13, hs13_0, hneg, ifT, w64, valR, beq_self_eq_true, bne_self_eq_false, List.getElem?_cons_zero, List.getElem?_cons_succ, Bool.or_false, Bool.false_or, Bool.or_self, SQ, SU, SL, reduceCtorEq, Nat.reduceAdd, Nat.reduceLeDiff, reduceIte]
  refine WC_call (to_Limits ((((((Rp.app' hg15 (Rp.app' hg14 (Rp.app' hg13 (Rp.app' hg12 (Rp.app' hg11 (Rp.app' hg10 (Rp.app' hg9 (Rp.app' hg8 (Rp.app' hg7 (Rp.app' hg6 (Rp.app' hg5 (Rp.app' hg4 (Rp.app' hg3 (Rp.app' hg2 (Rp.app' hg1 (Rp.app' hg0 hv0)))))))))))))))).wrote w1 (fun i hi hn => by have := hv0.lt i hi; have := b6 i hn; have := l6 i hn; omega)).wrote w2 (fun i hi hn => by have := hv0.lt i hi; have := b7 i hn; have := l7 i hn; omega)).wrote w5 (fun i hi hn => by have := hv0.lt i hi; have := b8 i hn; have := l8 i hn; omega)).wrote w6 (fun i hi hn => by have := hv0.lt i hi; have := b9 i hn; have := l9 i hn; omega)).wrote wm0 (fun i hi hn => by have := hv0.lt i hi; have := b11_0 i hn; have := l11_0 i hn; omega)) (by omega)) ?_
  rintro r16 g16 ⟨t16, d16, U16, hg16, rfl, z16, o16, l16⟩
  have n16 := len_app' hg16
  have b16 := z16.lt
  have hd16 : d16.length = 5 := z16.size
  have ht16 : d16.take 5 = d16 := List.take_of_length_le (by omega)
  simp (disch := omega) only [KC_eq, c4, hsz0, hall0, hsz1, hall1, hsz2, hall2, hln5, hln6, hd0, ht0, hd1, ht1, hs1_0, hd2, ht2, hs2_0, hd5_0, ht5_0, hs5_0_0, hd6, ht6, hs6_0, hd7, ht7, hs7_0, hd10, ht10, hd11_0, ht11_0, hs11_0_0, hd12, ht12, hs12_0, hd13, ht13, hs13_0, hneg, hd16, ht16, ifT, w64, valR, beq_self_eq_true, bne_self_eq_false, List.getElem?_cons_zero, List.getElem?_cons_succ, Bool.or_false, Bool.false_or, Bool.or_self, SQ, SU, SL, reduceCtorEq, Nat.reduceAdd, Nat.reduceLeDiff, reduceIte]
  refine WC_call (to_Table (Rp.app' hg16 ((((((Rp.app' hg15 (Rp.app' hg14 (Rp.app' hg13 (Rp.app' hg12 (Rp.app' hg11 (Rp.app' hg10 (Rp.app' hg9 (Rp.app' hg8 (Rp.app' hg7 (Rp.app' hg6 (Rp.app' hg5 (Rp.app' hg4 (Rp.app' hg3 (Rp.app' hg2 (Rp.app' hg1 (Rp.app' hg0 hv1)))))))))))))))).wrote w1 (fun i hi hn => by have := hv1.lt i hi; have := b6 i hn; have := l6 i hn; omega)).wrote w2 (fun i hi hn => by have := hv1.lt i hi; have := b7 i hn; have := l7 i hn; omega)).wrote w5 (fun i hi hn => by have := hv1.lt i hi; have := b8 i hn; have := l8 i hn; omega)).wrote w6 (fun i hi hn => by have := hv1.lt i hi; have := b9 i hn; have := l9 i hn; omega)).wrote wm0 (fun i hi hn => by have := hv1.lt i hi; have := b11_0 i hn; have := l11_0 i hn; omega))) (by omega)) ?_
  rintro r17 g17 ⟨t17, d17, U17, hg17, rfl, z17, o17, l17⟩
  have n17 := len_app' hg17
  have b17 := z17.lt
  have hd17 : d17.length = 1 := z17.size
  have ht17 : d17.take 1 = d17 := List.take_of_length_le (by omega)
  have hs17_0 : setL [.nils] 0 d17 = d17 := setL_all (by rw [hd17]; rfl)
  simp (disch := omega) only [KC_eq, c4, hsz0, hall0, hsz1, hall1, hsz2, hall2, hln5, hln6, hd0, ht0, hd1, ht1, hs1_0, hd2, ht2, hs2_0, hd5_0, ht5_0, hs5_0_0, hd6, ht6, hs6_0, hd7, ht7, hs7_0, hd10, ht10, hd11_0, ht11_0, hs11_0_0, hd12, ht12, hs12_0, hd13, ht13, hs13_0, hneg, hd16, ht16, hd17, ht17, hs17_0, ifT, w64, valR, beq_self_eq_true, bne_self_eq_false, List.getElem?_cons_zero, List.getElem?_cons_succ, Bool.or_false, Bool.false_or, Bool.or_self, SQ, SU, SL, reduceCtorEq, Nat.reduceAdd, Nat.reduceLeDiff, reduceIte]
  refine WC_call (to_Head (Rp.app' hg17 (Rp.app' hg16 ((((((Rp.app' hg15 (Rp.app' hg14 (Rp.app' hg13 (Rp.app' hg12 (Rp.app' hg11 (Rp.app' hg10 (Rp.app' hg9 (Rp.app' hg8 (Rp.app' hg7 (Rp.app' hg6 (Rp.app' hg5 (Rp.app' hg4 (Rp.app' hg3 (Rp.app' hg2 (Rp.app' hg1 (Rp.app' hg0 hv2)))))))))))))))).wrote w1 (fun i hi hn => by have := hv2.lt i hi; have := b6 i hn; have := l6 i hn; omega)).wrote w2 (fun i hi hn => by have := hv2.lt i hi; have := b7 i hn; have := l7 i hn; omega)).wrote w5 (fun i hi hn => by have := hv2.lt i hi; have := b8 i hn; have := l8 i hn; omega)).wrote w6 (fun i hi hn => by have := hv2.lt i hi; have := b9 i hn; have := l9 i hn; omega)).wrote wm0 (fun i hi hn => by have := hv2.lt i hi; have := b11_0 i hn; have := l11_0 i hn; omega)))) (by omega)) ?_
  rintro r18 g18 ⟨t18, d18, U18, hg18, rfl, z18, o18, l18⟩
  have n18 := len_app' hg18
  have b18 := z18.lt
  have hd18 : d18.length = 10 := z18.size
  have ht18 : d18.take 10 = d18 := List.take_of_length_le (by omega)
  have hs18_0 : setL [.int .i64 0, .int .i64 0, .int .i64 0, .nils, .nils, .int .i64 0, .int .i64 0, .nils, .nils, .nils] 0 d18 = d18 := setL_all (by rw [hd18]; rfl)
  simp (disch := omega) only [KC_eq, c4, hsz0, hall0, hsz1, hall1, hsz2, hall2, hln5, hln6, hd0, ht0, hd1, ht1, hs1_0, hd2, ht2, hs2_0, hd5_0, ht5_0, hs5_0_0, hd6, ht6, hs6_0, hd7, ht7, hs7_0, hd10, ht10, hd11_0, ht11_0, hs11_0_0, hd12, ht12, hs12_0, hd13, ht13, hs13_0, hneg, hd16, ht16, hd17, ht17, hs17_0, hd18, ht18, hs18_0, ifT, w64, valR, beq_self_eq_true, bne_self_eq_false, List.getElem?_cons_zero, List.getElem?_cons_succ, Bool.or_false, Bool.false_or, Bool.or_self, SQ, SU, SL, reduceCtorEq, Nat.reduceAdd, Nat.reduceLeDiff, reduceIte]
  refine WC_call (to_ByteS (Rp.app' hg18 (Rp.app' hg17 (Rp.app' hg16 ((((((Rp.app' hg15 (Rp.app' hg14 (Rp.app' hg13 (Rp.app' hg12 (Rp.app' hg11 (Rp.app' hg10 (Rp.app' hg9 (Rp.app' hg8 (Rp.app' hg7 (Rp.app' hg6 (Rp.app' hg5 (Rp.app' hg4 (Rp.app' hg3 (Rp.app' hg2 (Rp.app' hg1 (Rp.app' hg0 hv5)))))))))))))))).wrote w1 (fun i hi hn => by have := hv5.lt i hi; have := b6 i hn; have := l6 i hn; omega)).wrote w2 (fun i hi hn => by have := hv5.lt i hi; have := b7 i hn; have := l7 i hn; omega)).wrote w5 (fun i hi hn => by have := hv5.lt i hi; have := b8 i hn; have := l8 i hn; omega)).wrote w6 (fun i hi hn => by have := hv5.lt i hi; have := b9 i hn; have := l9 i hn; omega)).wrote wm0 (fun i hi hn => by have := hv5.lt i hi; have := b11_0 i hn; have := l11_0 i hn; omega))))) (by omega)) ?_
  rintro r19 g19 ⟨t19, d19, U19, hg19, rfl, z19, o19, l19⟩
  have n19 := len_app' hg19
  have b19 := z19.lt
  obtain ⟨e19, rfl⟩ := z19.one rfl
  simp (disch := omega) only [KC_eq, c4, hsz0, hall0, hsz1, hall1, hsz2, hall2, hln5, hln6, hd0, ht0, hd1, ht1, hs1_0, hd2, ht2, hs2_0, hd5_0, ht5_0, hs5_0_0, hd6, ht6, hs6_0, hd7, ht7, hs7_0, hd10, ht10, hd11_0, ht11_0, hs11_0_0, hd12, ht12, hs12_0, hd13, ht13, hs13_0, hneg, hd16, ht16, hd17, ht17, hs17_0, hd18, ht18, hs18_0, ifT, w64, valR, beq_self_eq_true, bne_self_eq_false, List.getElem?_cons_zero, List.getElem?_cons_succ, Bool.or_false, Bool.false_or, Bool.or_self, SQ, SU, SL, reduceCtorEq, Nat.reduceAdd, Nat.reduceLeDiff, reduceIte]
  refine WC_call (to_ByteS (Rp.app' hg19 (Rp.app' hg18 (Rp.app' hg17 (Rp.app' hg16 ((((((Rp.app' hg15 (Rp.app' hg14 (Rp.app' hg13 (Rp.app' hg12 (Rp.app' hg11 (Rp.app' hg10 (Rp.app' hg9 (Rp.app' hg8 (Rp.app' hg7 (Rp.app' hg6 (Rp.app' hg5 (Rp.app' hg4 (Rp.app' hg3 (Rp.app' hg2 (Rp.app' hg1 (Rp.app' hg0 hv6)))))))))))))))).wrote w1 (fun i hi hn => by have := hv6.lt i hi; have := b6 i hn; have := l6 i hn; omega)).wrote w2 (fun i hi hn => by have := hv6.lt i hi; have := b7 i hn; have := l7 i hn; omega)).wrote w5 (fun i hi hn => by have := hv6.lt i hi; have := b8 i hn; have := l8 i hn; omega)).wrote w6 (fun i hi hn => by have := hv6.lt i hi; have := b9 i hn; have := l9 i hn; omega)).wrote wm0 (fun i hi hn => by have := hv6.lt i hi; have := b11_0 i hn; have := l11_0 i hn; omega)))))) (by omega)) ?_
  rintro r20 g20 ⟨t20, d20, U20, hg20, rfl, z20, o20, l20⟩
  have n20 := len_app' hg20
  have b20 := z20.lt
  obtain ⟨e20, rfl⟩ := z20.one rfl
  simp (disch := omega) only [KC_eq, c4, hsz0, hall0, hsz1, hall1, hsz2, hall2, hln5, hln6, hd0, ht0, hd1, ht1, hs1_0, hd2, ht2, hs2_0, hd5_0, ht5_0, hs5_0_0, hd6, ht6, hs6_0, hd7, ht7, hs7_0, hd10, ht10, hd11_0, ht11_0, hs11_0_0, hd12, ht12, hs12_0, hd13, ht13, hs13_0, hneg, hd16, ht16, hd17, ht17, hs17_0, hd18, ht18, hs18_0, ifT, w64, valR, beq_self_eq_true, bne_self_eq_false, List.getElem?_cons_zero, List.getElem?_cons_succ, Bool.or_false, Bool.false_or, Bool.or_self, SQ, SU, SL, reduceCtorEq, Nat.reduceAdd, Nat.reduceLeDiff, reduceIte]
  refine WC_call (F.io_impl_NextHead ⟨_, _, rfl, ⟨_, (Rp.app' hg20 (Rp.app' hg19 (Rp.app' hg18 (Rp.app' hg17 z16))))⟩, ⟨_, _, rfl, ⟨_, (Rp.app' hg20 (Rp.app' hg19 (Rp.app' hg18 z17)))⟩, ⟨_, _, rfl, ⟨_, (Rp.app' hg20 (Rp.app' hg19 z18))⟩, ⟨_, _, rfl, ⟨_, (Rp.app' hg20 (Rp.app' hg19 (Rp.app' hg18 (Rp.app' hg17 (Rp.app' hg16 ((((((Rp.app' hg15 (Rp.app' hg14 (Rp.app' hg13 (Rp.app' hg12 (Rp.app' hg11 (Rp.app' hg10 (Rp.app' hg9 (Rp.app' hg8 (Rp.app' hg7 (Rp.app' hg6 (Rp.app' hg5 (Rp.app' hg4 (Rp.app' hg3 (Rp.app' hg2 (Rp.app' hg1 (Rp.app' hg0 hv3)))))))))))))))).wrote w1 (fun i hi hn => by have := hv3.lt i hi; have := b6 i hn; have := l6 i hn; omega)).wrote w2 (fun i hi hn => by have := hv3.lt i hi; have := b7 i hn; have := l7 i hn; omega)).wrote w5 (fun i hi hn => by have := hv3.lt i hi; have := b8 i hn; have := l8 i hn; omega)).wrote w6 (fun i hi hn => by have := hv3.lt i hi; have := b9 i hn; have := l9 i hn; omega)).wrote wm0 (fun i hi hn => by have := hv3.lt i hi; have := b11_0 i hn; have := l11_0 i hn; omega)))))))⟩, ⟨_, _, rfl, ⟨_, (Rp.app' hg20 (Rp.app' hg19 (Rp.app' hg18 (Rp.app' hg17 (Rp.app' hg16 ((((((Rp.app' hg15 (Rp.app' hg14 (Rp.app' hg13 (Rp.app' hg12 (Rp.app' hg11 (Rp.app' hg10 (Rp.app' hg9 (Rp.app' hg8 (Rp.app' hg7 (Rp.app' hg6 (Rp.app' hg5 (Rp.app' hg4 (Rp.app' hg3 (Rp.app' hg2 (Rp.app' hg1 (Rp.app' hg0 hv4)))))))))))))))).wrote w1 (fun i hi hn => by have := hv4.lt i hi; have := b6 i hn; have := l6 i hn; omega)).wrote w2 (fun i hi hn => by have := hv4.lt i hi; have := b7 i hn; have := l7 i hn; omega)).wrote w5 (fun i hi hn => by have := hv4.lt i hi; have := b8 i hn; have := l8 i hn; omega)).wrote w6 (fun i hi hn => by have := hv4.lt i hi; have := b9 i hn; have := l9 i hn; omega)).wrote wm0 (fun i hi hn => by have := hv4.lt i hi; have := b11_0 i hn; have := l11_0 i hn; omega)))))))⟩, ⟨_, _, rfl, ⟨_, (Rp.app' hg20 z19)⟩, ⟨_, _, rfl, ⟨_, z20⟩, rfl⟩⟩⟩⟩⟩⟩⟩ (by omega) (by omega) (by omega) (by omega)) ?_
  rintro r21 g21 ⟨t21, css21, U21, hg21, rfl, zz21, o21, l21⟩
  have n21 := len_app' hg21
  obtain ⟨d21_0, cr21_0, U21_0, V21_0, rfl, rfl, z21_0, zz21_0⟩ := zz21
  obtain ⟨d21_1, cr21_1, U21_1, V21_1, rfl, rfl, z21_1, zz21_1⟩ := zz21_0
  obtain ⟨q21_1, rfl, hq21_1, rfl⟩ := z21_1.bool
  injection hq21_1 with hq21_1; subst hq21_1
  obtain ⟨rfl, rfl⟩ := zz21_1
  simp only [List.nil_append, List.append_nil] at o21 l21
  have o21_0 := o21
  have b21_0 := z21_0.lt
  have l21_0 := l21
  have hd21_0 : d21_0.length = 10 := z21_0.size
  have ht21_0 : d21_0.take 10 = d21_0 := List.take_of_length_le (by omega)
  have hs21_0_0 : setL [.int .i64 0, .int .i64 0, .int .i64 0, .nils, .nils, .int .i64 0, .int .i64 0, .nils, .nils, .nils] 0 d21_0 = d21_0 := setL_all (by rw [hd21_0]; rfl)
  simp (disch := omega) only [KC_eq, c4, hsz0, hall0, hsz1, hall1, hsz2, hall2, hln5, hln6, hd0, ht0, hd1, ht1, hs1_0, hd2, ht2, hs2_0, hd5_0, ht5_0, hs5_0_0, hd6, ht6, hs6_0, hd7, ht7, hs7_0, hd10, ht10, hd11_0, ht11_0, hs11_0_0, hd12, ht12, hs12_0, hd13, ht13, hs13_0, hneg, hd16, ht16, hd17, ht17, hs17_0, hd18, ht18, hs18_0, hd21_0, ht21_0, hs21_0_0, ifT, w64, valR, beq_self_eq_true, bne_self_eq_false, List.getElem?_cons_zero, List.getElem?_cons_succ, Bool.or_false, Bool.false_or, Bool.or_self, SQ, SU, SL, reduceCtorEq, Nat.reduceAdd, Nat.reduceLeDiff, reduceIte]
  refine EqOk.go eq_Head z21_0 (Rp.app' hg21 (Rp.app' hg20 (Rp.app' hg19 (Rp.app' hg18 (Rp.app' hg17 (Rp.app' hg16 ((((((Rp.app' hg15 (Rp.app' hg14 (Rp.app' hg13 (Rp.app' hg12 (Rp.app' hg11 (Rp.app' hg10 (Rp.app' hg9 (Rp.app' hg8 (Rp.app' hg7 (Rp.app' hg6 z5_0)))))))))).wrote w1 (fun i hi hn => by have := b5_0 i hi; have := l5_0 i hi; have := b6 i hn; have := l6 i hn; omega)).wrote w2 (fun i hi hn => by have := b5_0 i hi; have := l5_0 i hi; have := b7 i hn; have := l7 i hn; omega)).wrote w5 (fun i hi hn => by have := b5_0 i hi; have := l5_0 i hi; have := b8 i hn; have := l8 i hn; omega)).wrote w6 (fun i hi hn => by have := b5_0 i hi; have := l5_0 i hi; have := b9 i hn; have := l9 i hn; omega)).wrote wm0 (fun i hi hn => by have := b5_0 i hi; have := l5_0 i hi; have := b11_0 i hn; have := l11_0 i hn; omega)))))))) (fun _ => ?_) (fun hne => absurd rfl hne)
  simp (disch := omega) only [KC_eq, c4, hsz0, hall0, hsz1, hall1, hsz2, hall2, hln5, hln6, hd0, ht0, hd1, ht1, hs1_0, hd2, ht2, hs2_0, hd5_0, ht5_0, hs5_0_0, hd6, ht6, hs6_0, hd7, ht7, hs7_0, hd10, ht10, hd11_0, ht11_0, hs11_0_0, hd12, ht12, hs12_0, hd13, ht13, hs13_0, hneg, hd16, ht16, hd17, ht17, hs17_0, hd18, ht18, hs18_0, hd21_0, ht21_0, hs21_0_0, ifT, w64, valR, beq_self_eq_true, bne_self_eq_false, List.getElem?_cons_zero, List.getElem?_cons_succ, Bool.or_false, Bool.false_or, Bool.or_self, SQ, SU, SL, reduceCtorEq, Nat.reduceAdd, Nat.reduceLeDiff, reduceIte]
  refine HdOk.go hd_Head ⟨_, _, _, z11_0⟩ (Rp.app' hg21 (Rp.app' hg20 (Rp.app' hg19 (Rp.app' hg18 (Rp.app' hg17 (Rp.app' hg16 zm0)))))) (k := 1) (by omega) ?_
  simp (disch := omega) only [KC_eq, c4, hsz0, hall0, hsz1, hall1, hsz2, hall2, hln5, hln6, hd0, ht0, hd1, ht1, hs1_0, hd2, ht2, hs2_0, hd5_0, ht5_0, hs5_0_0, hd6, ht6, hs6_0, hd7, ht7, hs7_0, hd10, ht10, hd11_0, ht11_0, hs11_0_0, hd12, ht12, hs12_0, hd13, ht13, hs13_0, hneg, hd16, ht16, hd17, ht17, hs17_0, hd18, ht18, hs18_0, hd21_0, ht21_0, hs21_0_0, ifT, w64, valR, beq_self_eq_true, bne_self_eq_false, List.getElem?_cons_zero, List.getElem?_cons_succ, Bool.or_false, Bool.false_or, Bool.or_self, SQ, SU, SL, reduceCtorEq, Nat.reduceAdd, Nat.reduceLeDiff, reduceIte]
  refine BR_dec (fun hn => absurd hn (by omega)) (fun hn => ?_)
  simp (disch := omega) only [KC_eq, c4, hsz0, hall0, hsz1, hall1, hsz2, hall2, hln5, hln6, hd0, ht0, hd1, ht1, hs1_0, hd2, ht2, hs2_0, hd5_0, ht5_0, hs5_0_0, hd6, ht6, hs6_0, hd7, ht7, hs7_0, hd10, ht10, hd11_0, ht11_0, hs11_0_0, hd12, ht12, hs12_0, hd13, ht13, hs13_0, hneg, hd16, ht16, hd17, ht17, hs17_0, hd18, ht18, hs18_0, hd21_0, ht21_0, hs21_0_0, ifT, w64, valR, beq_self_eq_true, bne_self_eq_false, List.getElem?_cons_zero, List.getElem?_cons_succ, Bool.or_false, Bool.false_or, Bool.or_self, SQ, SU, SL, reduceCtorEq, Nat.reduceAdd, Nat.reduceLeDiff, reduceIte]
end Go.Eng.U
