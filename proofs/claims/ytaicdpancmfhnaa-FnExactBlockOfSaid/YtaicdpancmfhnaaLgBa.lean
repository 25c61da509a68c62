import Derived.Test.YtaicdpancmfhnaaLgT
import Derived.Test.YtaicdpancmfhnaaVmQ
set_option maxRecDepth 100000
set_option linter.unusedSimpArgs false
set_option linter.unusedVariables false
namespace Go.Eng.U
theorem len_5 {l : List C} (h : l.length = 5) : ∃ x0 x1 x2 x3 x4, l = [x0, x1, x2, x3, x4] := by
  rcases l with _ | ⟨x0, l⟩
  · simp at h
  rcases l with _ | ⟨x1, l⟩
  · simp at h
  rcases l with _ | ⟨x2, l⟩
  · simp at h
  rcases l with _ | ⟨x3, l⟩
  · simp at h
  rcases l with _ | ⟨x4, l⟩
  · simp at h
  · simp at h; exact ⟨x0, x1, x2, x3, x4, by simp [h]⟩
/-- laws.toLimits -/
def c24 : AF := ⟨1, 5, [.cell 2 5 true], (.seq (.ops [.i (.lbox 1 (.s 0)), .i (.lal 2 [.int .i64 0, .int .i64 0, .int .i64 0, .int .i64 0, .int .i64 0])]) (.seq (.ops [.i (.lal 3 [.int .i64 0, .int .i64 0, .int .i64 0, .int .i64 0, .int .i64 0])]) (.seq (.ops [.i (.fad 4 (.s 1) 0), .i (.ldl 5 1 (.s 4) 1 false), .i (.fad 6 (.s 3) 0), .i (.stl 3 (.s 6) (.s 5) 1)]) (.seq (.ops [.i (.fad 7 (.s 1) 1), .i (.ldl 8 1 (.s 7) 1 false), .i (.fad 9 (.s 3) 1), .i (.stl 3 (.s 9) (.s 8) 1)]) (.seq (.ops [.i (.fad 10 (.s 1) 2), .i (.ldl 11 1 (.s 10) 1 false), .i (.fad 12 (.s 3) 2), .i (.stl 3 (.s 12) (.s 11) 1)]) (.seq (.ops [.i (.fad 13 (.s 1) 3), .i (.ldl 14 1 (.s 13) 1 false), .i (.fad 15 (.s 3) 3), .i (.stl 3 (.s 15) (.s 14) 1)]) (.seq (.ops [.i (.fad 16 (.s 1) 4), .i (.ldl 17 1 (.s 16) 1 false), .i (.fad 18 (.s 3) 4), .i (.stl 3 (.s 18) (.s 17) 1)]) (.seq (.ops [.i (.ldl 19 3 (.s 3) 5 true), .i (.stl 2 (.s 2) (.s 19) 5)]) .ret))))))))⟩
theorem k24 : cd 24 = some c24 := by kernel_rfl
theorem to_Limits : ToOk cd 24 TLimits := by
  intro h cs v S hv hw
  obtain ⟨vs, rfl, q0⟩ := hv.st
  obtain ⟨v0, r0, S0, T0, rfl, rfl, h0, q1⟩ := q0.step
  obtain ⟨n0, e0, rfl, rfl, lo0, hi0⟩ := h0.int
  obtain ⟨v1, r1, S1, T1, rfl, rfl, h1, q2⟩ := q1.step
  obtain ⟨n1, e1, rfl, rfl, lo1, hi1⟩ := h1.int
  obtain ⟨v2, r2, S2, T2, rfl, rfl, h2, q3⟩ := q2.step
  obtain ⟨n2, e2, rfl, rfl, lo2, hi2⟩ := h2.int
  obtain ⟨v3, r3, S3, T3, rfl, rfl, h3, q4⟩ := q3.step
  obtain ⟨n3, e3, rfl, rfl, lo3, hi3⟩ := h3.int
  obtain ⟨v4, r4, S4, T4, rfl, rfl, h4, q5⟩ := q4.step
  obtain ⟨n4, e4, rfl, rfl, lo4, hi4⟩ := h4.int
  obtain ⟨_, rfl, rfl⟩ := q5
  have hsz : cs.length = 5 := hv.size
  simp only [Ty.size, Ty.sizes, Nat.reduceAdd, Nat.zero_add, List.drop_zero] at e0 e1 e2 e3 e4 hsz
  simp only [wt, wts] at hw
  refine WS_enter k24 rfl ?_
  simp (disch := omega) only [KC_eq, c24, e0, e1, e2, e3, e4, hsz, ifT, w64, RR, RP, Ty.agg, Ty.size, Ty.sizes, eq_self, ne_eq, not_true, not_false_iff, reduceCtorEq, List.length_cons, List.length_nil, decide_true, decide_false, true_and, and_true, ite_true, ite_false, PT.full, enter0, setAll, forget, Fr.set, Fr.get, PT.get, PT.set, kof, ai, ev, ev1, evp, b_add, b_sub, b_mul, b_quo, b_rem, b_eql, b_neq, b_lss, b_leq, b_gtr, b_geq, b_seql, b_sneq, setD, resV, resL, res1, args, List.take_zero, List.drop_zero, List.take_nil, List.take_succ_cons, List.drop_succ_cons, Nat.reduceAdd, Nat.reduceLeDiff, reduceIte, Bool.not_true, Bool.not_false, Bool.false_eq_true, CA_some, Option.some.injEq, Nat.zero_add, Nat.mul_one, Nat.add_zero, setL, List.set_cons_zero, List.set_cons_succ, fillC]
  exact ⟨[], _, _, by simp, rfl, ⟨_, rfl, (Rs.mk (Rp.mkInt lo0 hi0) (Rs.mk (Rp.mkInt lo1 hi1) (Rs.mk (Rp.mkInt lo2 hi2) (Rs.mk (Rp.mkInt lo3 hi3) (Rs.mk (Rp.mkInt lo4 hi4) Rs.nil)))))⟩, by simp [Ownd], by simp⟩
/-- laws.szByteS -/
def c81 : AF := ⟨2, 4, [.tmp 4], (.seq (.ops [.i (.mov 4 (.c (.val false [.int .i64 0])))]) (.seq (.ops [.i (.mov 5 (.s 1)), .i (.mov 6 (.s 0)), .i (.len 7 false (.s 6)), .i (.bin 8 .sub (.s 5) (.s 7)), .i (.mov 1 (.s 8))]) (.seq (.seq (.ops [.i (.mov 9 (.s 1)), .i (.bin 10 .lss (.s 9) (.c (.val false [.int .i64 0])))]) (.cond (.s 10) (.seq (.ops [.i (.mov 4 (.c (.val false [.int .i64 (-1)])))]) .ret) .skip)) (.seq (.ops [.i (.mov 11 (.s 1)), .i (.mov 4 (.s 11))]) .ret))))⟩
theorem k81 : cd 81 = some c81 := by kernel_rfl
theorem sz_ByteS : SzOk cd 81 (.sl (.int .u8)) := sz_leaf k81
/-- laws.szByteSS -/
def c22 : AF := ⟨2, 5, [.tmp 4], (.seq (.ops [.i (.mov 4 (.c (.val false [.int .i64 0])))]) (.seq (.ops [.i (.mov 6 (.s 1)), .i (.mov 7 (.s 0)), .i (.len 8 false (.s 7)), .i (.bin 9 .sub (.s 6) (.s 8)), .i (.mov 1 (.s 9))]) (.seq (.seq (.ops [.i (.mov 10 (.s 1)), .i (.bin 11 .lss (.s 10) (.c (.val false [.int .i64 0])))]) (.cond (.s 11) (.seq (.ops [.i (.mov 4 (.c (.val false [.int .i64 (-1)])))]) .ret) .skip)) (.seq (.seq (.ops [.i (.mov 5 (.c (.val false [.int .i64 0])))]) (.block 0 (.loop [25, 24, 23, 22, 21, 20, 19, 18, 17, 16, 15, 14, 13, 12] (.seq (.seq (.ops [.i (.mov 12 (.s 5)), .i (.mov 13 (.s 0)), .i (.len 14 false (.s 13)), .i (.bin 15 .lss (.s 12) (.s 14))]) (.cond (.s 15) .skip (.exit 0))) (.seq (.block 1 (.seq (.ops [.i (.mov 18 (.s 0)), .i (.mov 19 (.s 5)), .i (.iad 20 (.s 18) (.s 19) 1), .i (.ldh 21 (.s 20) 1 false), .i (.mov 22 (.s 1)), .i (.call 24 81 false [(.s 21), (.s 22)]), .i (.mov 1 (.s 23))]) (.seq (.ops [.i (.mov 24 (.s 1)), .i (.bin 25 .lss (.s 24) (.c (.val false [.int .i64 0])))]) (.cond (.s 25) (.seq (.ops [.i (.mov 4 (.c (.val false [.int .i64 (-1)])))]) .ret) .skip)))) (.ops [.i (.mov 16 (.s 5)), .i (.bin 17 .add (.s 16) (.c (.val false [.int .i64 1]))), .i (.mov 5 (.s 17))])))))) (.seq (.ops [.i (.mov 26 (.s 1)), .i (.mov 4 (.s 26))]) .ret)))))⟩
theorem k22 : cd 22 = some c22 := by kernel_rfl
theorem sz_ByteSS : SzOk cd 22 (.sl (.sl (.int .u8))) := sz_sl k22 sz_ByteS
/-- laws.szQc -/
def c82 : AF := ⟨2, 5, [.tmp 4], (.seq (.ops [.i (.lbox 2 (.s 0)), .i (.mov 4 (.c (.val false [.int .i64 0])))]) (.seq (.ops [.i (.fad 5 (.s 2) 2), .i (.ldl 6 2 (.s 5) 1 false), .i (.mov 7 (.s 1)), .i (.call 9 81 false [(.s 6), (.s 7)]), .i (.mov 1 (.s 8))]) (.seq (.seq (.ops [.i (.mov 9 (.s 1)), .i (.bin 10 .lss (.s 9) (.c (.val false [.int .i64 0])))]) (.cond (.s 10) (.seq (.ops [.i (.mov 4 (.c (.val false [.int .i64 (-1)])))]) .ret) .skip)) (.seq (.ops [.i (.fad 11 (.s 2) 3), .i (.ldl 12 2 (.s 11) 1 false), .i (.mov 13 (.s 1)), .i (.call 15 81 false [(.s 12), (.s 13)]), .i (.mov 1 (.s 14))]) (.seq (.seq (.ops [.i (.mov 15 (.s 1)), .i (.bin 16 .lss (.s 15) (.c (.val false [.int .i64 0])))]) (.cond (.s 16) (.seq (.ops [.i (.mov 4 (.c (.val false [.int .i64 (-1)])))]) .ret) .skip)) (.seq (.ops [.i (.fad 17 (.s 2) 4), .i (.ldl 18 2 (.s 17) 1 false), .i (.mov 19 (.s 1)), .i (.call 21 22 false [(.s 18), (.s 19)]), .i (.mov 1 (.s 20))]) (.seq (.seq (.ops [.i (.mov 21 (.s 1)), .i (.bin 22 .lss (.s 21) (.c (.val false [.int .i64 0])))]) (.cond (.s 22) (.seq (.ops [.i (.mov 4 (.c (.val false [.int .i64 (-1)])))]) .ret) .skip)) (.seq (.ops [.i (.mov 23 (.s 1)), .i (.mov 4 (.s 23))]) .ret))))))))⟩
theorem k82 : cd 82 = some c82 := by kernel_rfl
theorem sz_Qc : SzOk cd 82 TQc := by
  intro h cs v S k hv hk
  obtain ⟨vs, rfl, q0⟩ := hv.st
  obtain ⟨v0, r0, S0, T0, rfl, rfl, h0, q1⟩ := q0.step
  obtain ⟨n0, e0, rfl, rfl, lo0, hi0⟩ := h0.int
  obtain ⟨v1, r1, S1, T1, rfl, rfl, h1, q2⟩ := q1.step
  obtain ⟨n1, e1, rfl, rfl, lo1, hi1⟩ := h1.int
  obtain ⟨v2, r2, S2, T2, rfl, rfl, h2, q3⟩ := q2.step
  obtain ⟨c2, e2⟩ := h2.one rfl
  rw [e2] at h2
  obtain ⟨v3, r3, S3, T3, rfl, rfl, h3, q4⟩ := q3.step
  obtain ⟨c3, e3⟩ := h3.one rfl
  rw [e3] at h3
  obtain ⟨v4, r4, S4, T4, rfl, rfl, h4, q5⟩ := q4.step
  obtain ⟨c4, e4⟩ := h4.one rfl
  rw [e4] at h4
  obtain ⟨_, rfl, rfl⟩ := q5
  have hsz : cs.length = 5 := hv.size
  simp only [Ty.size, Ty.sizes, Nat.reduceAdd, Nat.zero_add, List.drop_zero] at e0 e1 e2 e3 e4 hsz
  have hw : wt (.r [.i n0, .i n1, v2, v3, v4]) = wt v2 + wt v3 + wt v4 := by simp only [wt, wts]; omega
  rw [hw]
  refine WS_enter k82 rfl ?_
  simp (disch := omega) only [c82, e0, e1, e2, e3, e4, hsz, ifT, w64, RR, RP, Ty.agg, Ty.size, Ty.sizes, eq_self, ne_eq, not_true, not_false_iff, reduceCtorEq, List.length_cons, List.length_nil, decide_true, decide_false, true_and, and_true, ite_true, ite_false, PT.full, enter0, setAll, forget, Fr.set, Fr.get, PT.get, PT.set, kof, ai, ev, ev1, evp, b_add, b_sub, b_mul, b_quo, b_rem, b_eql, b_neq, b_lss, b_leq, b_gtr, b_geq, b_seql, b_sneq, setD, resV, resL, res1, args, List.take_zero, List.drop_zero, List.take_nil, List.take_succ_cons, List.drop_succ_cons, Nat.reduceAdd, Nat.reduceLeDiff, reduceIte, Bool.not_true, Bool.not_false, Bool.false_eq_true, CA_some, Option.some.injEq, Nat.zero_add, Nat.mul_one, Nat.add_zero, setL, List.set_cons_zero, List.set_cons_succ, fillC]
  refine SzOk.go sz_ByteS h2 (k := k) (by omega) (fun hf0 => ?_) (fun hf0 => ?_)
  case refine_2 =>
    simp (disch := omega) only [KC_eq, c82, e0, e1, e2, e3, e4, hsz, ifT, w64, RR, RP, Ty.agg, Ty.size, Ty.sizes, eq_self, ne_eq, not_true, not_false_iff, reduceCtorEq, List.length_cons, List.length_nil, decide_true, decide_false, true_and, and_true, ite_true, ite_false, PT.full, enter0, setAll, forget, Fr.set, Fr.get, PT.get, PT.set, kof, ai, ev, ev1, evp, b_add, b_sub, b_mul, b_quo, b_rem, b_eql, b_neq, b_lss, b_leq, b_gtr, b_geq, b_seql, b_sneq, setD, resV, resL, res1, args, List.take_zero, List.drop_zero, List.take_nil, List.take_succ_cons, List.drop_succ_cons, Nat.reduceAdd, Nat.reduceLeDiff, reduceIte, Bool.not_true, Bool.not_false, Bool.false_eq_true, CA_some, Option.some.injEq, Nat.zero_add, Nat.mul_one, Nat.add_zero, setL, List.set_cons_zero, List.set_cons_succ, fillC]
    refine BR_dec (fun hn => ?_) (fun hn => absurd (show (-1 : Int) < 0 by omega) hn)
    simp (disch := omega) only [c82, e0, e1, e2, e3, e4, hsz, ifT, w64, RR, RP, Ty.agg, Ty.size, Ty.sizes, eq_self, ne_eq, not_true, not_false_iff, reduceCtorEq, List.length_cons, List.length_nil, decide_true, decide_false, true_and, and_true, ite_true, ite_false, PT.full, enter0, setAll, forget, Fr.set, Fr.get, PT.get, PT.set, kof, ai, ev, ev1, evp, b_add, b_sub, b_mul, b_quo, b_rem, b_eql, b_neq, b_lss, b_leq, b_gtr, b_geq, b_seql, b_sneq, setD, resV, resL, res1, args, List.take_zero, List.drop_zero, List.take_nil, List.take_succ_cons, List.drop_succ_cons, Nat.reduceAdd, Nat.reduceLeDiff, reduceIte, Bool.not_true, Bool.not_false, Bool.false_eq_true, CA_some, Option.some.injEq, Nat.zero_add, Nat.mul_one, Nat.add_zero, setL, List.set_cons_zero, List.set_cons_succ, fillC]
    rw [if_neg (by omega)]
  simp (disch := omega) only [KC_eq, c82, e0, e1, e2, e3, e4, hsz, ifT, w64, RR, RP, Ty.agg, Ty.size, Ty.sizes, eq_self, ne_eq, not_true, not_false_iff, reduceCtorEq, List.length_cons, List.length_nil, decide_true, decide_false, true_and, and_true, ite_true, ite_false, PT.full, enter0, setAll, forget, Fr.set, Fr.get, PT.get, PT.set, kof, ai, ev, ev1, evp, b_add, b_sub, b_mul, b_quo, b_rem, b_eql, b_neq, b_lss, b_leq, b_gtr, b_geq, b_seql, b_sneq, setD, resV, resL, res1, args, List.take_zero, List.drop_zero, List.take_nil, List.take_succ_cons, List.drop_succ_cons, Nat.reduceAdd, Nat.reduceLeDiff, reduceIte, Bool.not_true, Bool.not_false, Bool.false_eq_true, CA_some, Option.some.injEq, Nat.zero_add, Nat.mul_one, Nat.add_zero, setL, List.set_cons_zero, List.set_cons_succ, fillC]
  refine BR_dec (fun hn => absurd hn (by omega)) (fun hn => ?_)
  simp (disch := omega) only [c82, e0, e1, e2, e3, e4, hsz, ifT, w64, RR, RP, Ty.agg, Ty.size, Ty.sizes, eq_self, ne_eq, not_true, not_false_iff, reduceCtorEq, List.length_cons, List.length_nil, decide_true, decide_false, true_and, and_true, ite_true, ite_false, PT.full, enter0, setAll, forget, Fr.set, Fr.get, PT.get, PT.set, kof, ai, ev, ev1, evp, b_add, b_sub, b_mul, b_quo, b_rem, b_eql, b_neq, b_lss, b_leq, b_gtr, b_geq, b_seql, b_sneq, setD, resV, resL, res1, args, List.take_zero, List.drop_zero, List.take_nil, List.take_succ_cons, List.drop_succ_cons, Nat.reduceAdd, Nat.reduceLeDiff, reduceIte, Bool.not_true, Bool.not_false, Bool.false_eq_true, CA_some, Option.some.injEq, Nat.zero_add, Nat.mul_one, Nat.add_zero, setL, List.set_cons_zero, List.set_cons_succ, fillC]
  refine SzOk.go sz_ByteS h3 (k := k - wt v2) (by omega) (fun hf1 => ?_) (fun hf1 => ?_)
  case refine_2 =>
    simp (disch := omega) only [KC_eq, c82, e0, e1, e2, e3, e4, hsz, ifT, w64, RR, RP, Ty.agg, Ty.size, Ty.sizes, eq_self, ne_eq, not_true, not_false_iff, reduceCtorEq, List.length_cons, List.length_nil, decide_true, decide_false, true_and, and_true, ite_true, ite_false, PT.full, enter0, setAll, forget, Fr.set, Fr.get, PT.get, PT.set, kof, ai, ev, ev1, evp, b_add, b_sub, b_mul, b_quo, b_rem, b_eql, b_neq, b_lss, b_leq, b_gtr, b_geq, b_seql, b_sneq, setD, resV, resL, res1, args, List.take_zero, List.drop_zero, List.take_nil, List.take_succ_cons, List.drop_succ_cons, Nat.reduceAdd, Nat.reduceLeDiff, reduceIte, Bool.not_true, Bool.not_false, Bool.false_eq_true, CA_some, Option.some.injEq, Nat.zero_add, Nat.mul_one, Nat.add_zero, setL, List.set_cons_zero, List.set_cons_succ, fillC]
    refine BR_dec (fun hn => ?_) (fun hn => absurd (show (-1 : Int) < 0 by omega) hn)
    simp (disch := omega) only [c82, e0, e1, e2, e3, e4, hsz, ifT, w64, RR, RP, Ty.agg, Ty.size, Ty.sizes, eq_self, ne_eq, not_true, not_false_iff, reduceCtorEq, List.length_cons, List.length_nil, decide_true, decide_false, true_and, and_true, ite_true, ite_false, PT.full, enter0, setAll, forget, Fr.set, Fr.get, PT.get, PT.set, kof, ai, ev, ev1, evp, b_add, b_sub, b_mul, b_quo, b_rem, b_eql, b_neq, b_lss, b_leq, b_gtr, b_geq, b_seql, b_sneq, setD, resV, resL, res1, args, List.take_zero, List.drop_zero, List.take_nil, List.take_succ_cons, List.drop_succ_cons, Nat.reduceAdd, Nat.reduceLeDiff, reduceIte, Bool.not_true, Bool.not_false, Bool.false_eq_true, CA_some, Option.some.injEq, Nat.zero_add, Nat.mul_one, Nat.add_zero, setL, List.set_cons_zero, List.set_cons_succ, fillC]
    rw [if_neg (by omega)]
  simp (disch := omega) only [KC_eq, c82, e0, e1, e2, e3, e4, hsz, ifT, w64, RR, RP, Ty.agg, Ty.size, Ty.sizes, eq_self, ne_eq, not_true, not_false_iff, reduceCtorEq, List.length_cons, List.length_nil, decide_true, decide_false, true_and, and_true, ite_true, ite_false, PT.full, enter0, setAll, forget, Fr.set, Fr.get, PT.get, PT.set, kof, ai, ev, ev1, evp, b_add, b_sub, b_mul, b_quo, b_rem, b_eql, b_neq, b_lss, b_leq, b_gtr, b_geq, b_seql, b_sneq, setD, resV, resL, res1, args, List.take_zero, List.drop_zero, List.take_nil, List.take_succ_cons, List.drop_succ_cons, Nat.reduceAdd, Nat.reduceLeDiff, reduceIte, Bool.not_true, Bool.not_false, Bool.false_eq_true, CA_some, Option.some.injEq, Nat.zero_add, Nat.mul_one, Nat.add_zero, setL, List.set_cons_zero, List.set_cons_succ, fillC]
  refine BR_dec (fun hn => absurd hn (by omega)) (fun hn => ?_)
  simp (disch := omega) only [c82, e0, e1, e2, e3, e4, hsz, ifT, w64, RR, RP, Ty.agg, Ty.size, Ty.sizes, eq_self, ne_eq, not_true, not_false_iff, reduceCtorEq, List.length_cons, List.length_nil, decide_true, decide_false, true_and, and_true, ite_true, ite_false, PT.full, enter0, setAll, forget, Fr.set, Fr.get, PT.get, PT.set, kof, ai, ev, ev1, evp, b_add, b_sub, b_mul, b_quo, b_rem, b_eql, b_neq, b_lss, b_leq, b_gtr, b_geq, b_seql, b_sneq, setD, resV, resL, res1, args, List.take_zero, List.drop_zero, List.take_nil, List.take_succ_cons, List.drop_succ_cons, Nat.reduceAdd, Nat.reduceLeDiff, reduceIte, Bool.not_true, Bool.not_false, Bool.false_eq_true, CA_some, Option.some.injEq, Nat.zero_add, Nat.mul_one, Nat.add_zero, setL, List.set_cons_zero, List.set_cons_succ, fillC]
  refine SzOk.go sz_ByteSS h4 (k := k - wt v2 - wt v3) (by omega) (fun hf2 => ?_) (fun hf2 => ?_)
  case refine_2 =>
    simp (disch := omega) only [KC_eq, c82, e0, e1, e2, e3, e4, hsz, ifT, w64, RR, RP, Ty.agg, Ty.size, Ty.sizes, eq_self, ne_eq, not_true, not_false_iff, reduceCtorEq, List.length_cons, List.length_nil, decide_true, decide_false, true_and, and_true, ite_true, ite_false, PT.full, enter0, setAll, forget, Fr.set, Fr.get, PT.get, PT.set, kof, ai, ev, ev1, evp, b_add, b_sub, b_mul, b_quo, b_rem, b_eql, b_neq, b_lss, b_leq, b_gtr, b_geq, b_seql, b_sneq, setD, resV, resL, res1, args, List.take_zero, List.drop_zero, List.take_nil, List.take_succ_cons, List.drop_succ_cons, Nat.reduceAdd, Nat.reduceLeDiff, reduceIte, Bool.not_true, Bool.not_false, Bool.false_eq_true, CA_some, Option.some.injEq, Nat.zero_add, Nat.mul_one, Nat.add_zero, setL, List.set_cons_zero, List.set_cons_succ, fillC]
    refine BR_dec (fun hn => ?_) (fun hn => absurd (show (-1 : Int) < 0 by omega) hn)
    simp (disch := omega) only [c82, e0, e1, e2, e3, e4, hsz, ifT, w64, RR, RP, Ty.agg, Ty.size, Ty.sizes, eq_self, ne_eq, not_true, not_false_iff, reduceCtorEq, List.length_cons, List.length_nil, decide_true, decide_false, true_and, and_true, ite_true, ite_false, PT.full, enter0, setAll, forget, Fr.set, Fr.get, PT.get, PT.set, kof, ai, ev, ev1, evp, b_add, b_sub, b_mul, b_quo, b_rem, b_eql, b_neq, b_lss, b_leq, b_gtr, b_geq, b_seql, b_sneq, setD, resV, resL, res1, args, List.take_zero, List.drop_zero, List.take_nil, List.take_succ_cons, List.drop_succ_cons, Nat.reduceAdd, Nat.reduceLeDiff, reduceIte, Bool.not_true, Bool.not_false, Bool.false_eq_true, CA_some, Option.some.injEq, Nat.zero_add, Nat.mul_one, Nat.add_zero, setL, List.set_cons_zero, List.set_cons_succ, fillC]
    rw [if_neg (by omega)]
  simp (disch := omega) only [KC_eq, c82, e0, e1, e2, e3, e4, hsz, ifT, w64, RR, RP, Ty.agg, Ty.size, Ty.sizes, eq_self, ne_eq, not_true, not_false_iff, reduceCtorEq, List.length_cons, List.length_nil, decide_true, decide_false, true_and, and_true, ite_true, ite_false, PT.full, enter0, setAll, forget, Fr.set, Fr.get, PT.get, PT.set, kof, ai, ev, ev1, evp, b_add, b_sub, b_mul, b_quo, b_rem, b_eql, b_neq, b_lss, b_leq, b_gtr, b_geq, b_seql, b_sneq, setD, resV, resL, res1, args, List.take_zero, List.drop_zero, List.take_nil, List.take_succ_cons, List.drop_succ_cons, Nat.reduceAdd, Nat.reduceLeDiff, reduceIte, Bool.not_true, Bool.not_false, Bool.false_eq_true, CA_some, Option.some.injEq, Nat.zero_add, Nat.mul_one, Nat.add_zero, setL, List.set_cons_zero, List.set_cons_succ, fillC]
  refine BR_dec (fun hn => absurd hn (by omega)) (fun hn => ?_)
  simp (disch := omega) only [c82, e0, e1, e2, e3, e4, hsz, ifT, w64, RR, RP, Ty.agg, Ty.size, Ty.sizes, eq_self, ne_eq, not_true, not_false_iff, reduceCtorEq, List.length_cons, List.length_nil, decide_true, decide_false, true_and, and_true, ite_true, ite_false, PT.full, enter0, setAll, forget, Fr.set, Fr.get, PT.get, PT.set, kof, ai, ev, ev1, evp, b_add, b_sub, b_mul, b_quo, b_rem, b_eql, b_neq, b_lss, b_leq, b_gtr, b_geq, b_seql, b_sneq, setD, resV, resL, res1, args, List.take_zero, List.drop_zero, List.take_nil, List.take_succ_cons, List.drop_succ_cons, Nat.reduceAdd, Nat.reduceLeDiff, reduceIte, Bool.not_true, Bool.not_false, Bool.false_eq_true, CA_some, Option.some.injEq, Nat.zero_add, Nat.mul_one, Nat.add_zero, setL, List.set_cons_zero, List.set_cons_succ, fillC]
  congr 3
  omega
/-- laws.szHead -/
def c21 : AF := ⟨2, 5, [.tmp 4], (.seq (.ops [.i (.lbox 2 (.s 0)), .i (.mov 4 (.c (.val false [.int .i64 0])))]) (.seq (.ops [.i (.fad 5 (.s 2) 3), .i (.ldl 6 2 (.s 5) 1 false), .i (.mov 7 (.s 1)), .i (.call 9 81 false [(.s 6), (.s 7)]), .i (.mov 1 (.s 8))]) (.seq (.seq (.ops [.i (.mov 9 (.s 1)), .i (.bin 10 .lss (.s 9) (.c (.val false [.int .i64 0])))]) (.cond (.s 10) (.seq (.ops [.i (.mov 4 (.c (.val false [.int .i64 (-1)])))]) .ret) .skip)) (.seq (.ops [.i (.fad 11 (.s 2) 4), .i (.ldl 12 2 (.s 11) 1 false), .i (.mov 13 (.s 1)), .i (.call 15 81 false [(.s 12), (.s 13)]), .i (.mov 1 (.s 14))]) (.seq (.seq (.ops [.i (.mov 15 (.s 1)), .i (.bin 16 .lss (.s 15) (.c (.val false [.int .i64 0])))]) (.cond (.s 16) (.seq (.ops [.i (.mov 4 (.c (.val false [.int .i64 (-1)])))]) .ret) .skip)) (.seq (.ops [.i (.fad 17 (.s 2) 5), .i (.ldl 18 2 (.s 17) 5 true), .i (.mov 19 (.s 1)), .i (.call 21 82 false [(.s 18), (.s 19)]), .i (.mov 1 (.s 20))]) (.seq (.seq (.ops [.i (.mov 21 (.s 1)), .i (.bin 22 .lss (.s 21) (.c (.val false [.int .i64 0])))]) (.cond (.s 22) (.seq (.ops [.i (.mov 4 (.c (.val false [.int .i64 (-1)])))]) .ret) .skip)) (.seq (.ops [.i (.mov 23 (.s 1)), .i (.mov 4 (.s 23))]) .ret))))))))⟩
theorem k21 : cd 21 = some c21 := by kernel_rfl
theorem sz_Head : SzOk cd 21 THead := by
  intro h cs v S k hv hk
  obtain ⟨vs, rfl, q0⟩ := hv.st
  obtain ⟨v0, r0, S0, T0, rfl, rfl, h0, q1⟩ := q0.step
  obtain ⟨n0, e0, rfl, rfl, lo0, hi0⟩ := h0.int
  obtain ⟨v1, r1, S1, T1, rfl, rfl, h1, q2⟩ := q1.step
  obtain ⟨n1, e1, rfl, rfl, lo1, hi1⟩ := h1.int
  obtain ⟨v2, r2, S2, T2, rfl, rfl, h2, q3⟩ := q2.step
  obtain ⟨n2, e2, rfl, rfl, lo2, hi2⟩ := h2.int
  obtain ⟨v3, r3, S3, T3, rfl, rfl, h3, q4⟩ := q3.step
  obtain ⟨c3, e3⟩ := h3.one rfl
  rw [e3] at h3
  obtain ⟨v4, r4, S4, T4, rfl, rfl, h4, q5⟩ := q4.step
  obtain ⟨c4, e4⟩ := h4.one rfl
  rw [e4] at h4
  obtain ⟨v5, r5, S5, T5, rfl, rfl, h5, q6⟩ := q5.step
  obtain ⟨_, rfl, rfl⟩ := q6
  have hsz : cs.length = 10 := hv.size
  simp only [Ty.size, Ty.sizes, Nat.reduceAdd, Nat.zero_add, List.drop_zero] at e0 e1 e2 e3 e4 hsz h5
  have hw : wt (.r [.i n0, .i n1, .i n2, v3, v4, v5]) = wt v3 + wt v4 + wt v5 := by simp only [wt, wts]; omega
  rw [hw]
  refine WS_enter k21 rfl ?_
  simp (disch := omega) only [c21, e0, e1, e2, e3, e4, hsz, ifT, w64, RR, RP, Ty.agg, Ty.size, Ty.sizes, eq_self, ne_eq, not_true, not_false_iff, reduceCtorEq, List.length_cons, List.length_nil, decide_true, decide_false, true_and, and_true, ite_true, ite_false, PT.full, enter0, setAll, forget, Fr.set, Fr.get, PT.get, PT.set, kof, ai, ev, ev1, evp, b_add, b_sub, b_mul, b_quo, b_rem, b_eql, b_neq, b_lss, b_leq, b_gtr, b_geq, b_seql, b_sneq, setD, resV, resL, res1, args, List.take_zero, List.drop_zero, List.take_nil, List.take_succ_cons, List.drop_succ_cons, Nat.reduceAdd, Nat.reduceLeDiff, reduceIte, Bool.not_true, Bool.not_false, Bool.false_eq_true, CA_some, Option.some.injEq, Nat.zero_add, Nat.mul_one, Nat.add_zero, setL, List.set_cons_zero, List.set_cons_succ, fillC]
  refine SzOk.go sz_ByteS h3 (k := k) (by omega) (fun hf0 => ?_) (fun hf0 => ?_)
  case refine_2 =>
    simp (disch := omega) only [KC_eq, c21, e0, e1, e2, e3, e4, hsz, ifT, w64, RR, RP, Ty.agg, Ty.size, Ty.sizes, eq_self, ne_eq, not_true, not_false_iff, reduceCtorEq, List.length_cons, List.length_nil, decide_true, decide_false, true_and, and_true, ite_true, ite_false, PT.full, enter0, setAll, forget, Fr.set, Fr.get, PT.get, PT.set, kof, ai, ev, ev1, evp, b_add, b_sub, b_mul, b_quo, b_rem, b_eql, b_neq, b_lss, b_leq, b_gtr, b_geq, b_seql, b_sneq, setD, resV, resL, res1, args, List.take_zero, List.drop_zero, List.take_nil, List.take_succ_cons, List.drop_succ_cons, Nat.reduceAdd, Nat.reduceLeDiff, reduceIte, Bool.not_true, Bool.not_false, Bool.false_eq_true, CA_some, Option.some.injEq, Nat.zero_add, Nat.mul_one, Nat.add_zero, setL, List.set_cons_zero, List.set_cons_succ, fillC]
    refine BR_dec (fun hn => ?_) (fun hn => absurd (show (-1 : Int) < 0 by omega) hn)
    simp (disch := omega) only [c21, e0, e1, e2, e3, e4, hsz, ifT, w64, RR, RP, Ty.agg, Ty.size, Ty.sizes, eq_self, ne_eq, not_true, not_false_iff, reduceCtorEq, List.length_cons, List.length_nil, decide_true, decide_false, true_and, and_true, ite_true, ite_false, PT.full, enter0, setAll, forget, Fr.set, Fr.get, PT.get, PT.set, kof, ai, ev, ev1, evp, b_add, b_sub, b_mul, b_quo, b_rem, b_eql, b_neq, b_lss, b_leq, b_gtr, b_geq, b_seql, b_sneq, setD, resV, resL, res1, args, List.take_zero, List.drop_zero, List.take_nil, List.take_succ_cons, List.drop_succ_cons, Nat.reduceAdd, Nat.reduceLeDiff, reduceIte, Bool.not_true, Bool.not_false, Bool.false_eq_true, CA_some, Option.some.injEq, Nat.zero_add, Nat.mul_one, Nat.add_zero, setL, List.set_cons_zero, List.set_cons_succ, fillC]
    rw [if_neg (by omega)]
  simp (disch := omega) only [KC_eq, c21, e0, e1, e2, e3, e4, hsz, ifT, w64, RR, RP, Ty.agg, Ty.size, Ty.sizes, eq_self, ne_eq, not_true, not_false_iff, reduceCtorEq, List.length_cons, List.length_nil, decide_true, decide_false, true_and, and_true, ite_true, ite_false, PT.full, enter0, setAll, forget, Fr.set, Fr.get, PT.get, PT.set, kof, ai, ev, ev1, evp, b_add, b_sub, b_mul, b_quo, b_rem, b_eql, b_neq, b_lss, b_leq, b_gtr, b_geq, b_seql, b_sneq, setD, resV, resL, res1, args, List.take_zero, List.drop_zero, List.take_nil, List.take_succ_cons, List.drop_succ_cons, Nat.reduceAdd, Nat.reduceLeDiff, reduceIte, Bool.not_true, Bool.not_false, Bool.false_eq_true, CA_some, Option.some.injEq, Nat.zero_add, Nat.mul_one, Nat.add_zero, setL, List.set_cons_zero, List.set_cons_succ, fillC]
  refine BR_dec (fun hn => absurd hn (by omega)) (fun hn => ?_)
  simp (disch := omega) only [c21, e0, e1, e2, e3, e4, hsz, ifT, w64, RR, RP, Ty.agg, Ty.size, Ty.sizes, eq_self, ne_eq, not_true, not_false_iff, reduceCtorEq, List.length_cons, List.length_nil, decide_true, decide_false, true_and, and_true, ite_true, ite_false, PT.full, enter0, setAll, forget, Fr.set, Fr.get, PT.get, PT.set, kof, ai, ev, ev1, evp, b_add, b_sub, b_mul, b_quo, b_rem, b_eql, b_neq, b_lss, b_leq, b_gtr, b_geq, b_seql, b_sneq, setD, resV, resL, res1, args, List.take_zero, List.drop_zero, List.take_nil, List.take_succ_cons, List.drop_succ_cons, Nat.reduceAdd, Nat.reduceLeDiff, reduceIte, Bool.not_true, Bool.not_false, Bool.false_eq_true, CA_some, Option.some.injEq, Nat.zero_add, Nat.mul_one, Nat.add_zero, setL, List.set_cons_zero, List.set_cons_succ, fillC]
  refine SzOk.go sz_ByteS h4 (k := k - wt v3) (by omega) (fun hf1 => ?_) (fun hf1 => ?_)
  case refine_2 =>
    simp (disch := omega) only [KC_eq, c21, e0, e1, e2, e3, e4, hsz, ifT, w64, RR, RP, Ty.agg, Ty.size, Ty.sizes, eq_self, ne_eq, not_true, not_false_iff, reduceCtorEq, List.length_cons, List.length_nil, decide_true, decide_false, true_and, and_true, ite_true, ite_false, PT.full, enter0, setAll, forget, Fr.set, Fr.get, PT.get, PT.set, kof, ai, ev, ev1, evp, b_add, b_sub, b_mul, b_quo, b_rem, b_eql, b_neq, b_lss, b_leq, b_gtr, b_geq, b_seql, b_sneq, setD, resV, resL, res1, args, List.take_zero, List.drop_zero, List.take_nil, List.take_succ_cons, List.drop_succ_cons, Nat.reduceAdd, Nat.reduceLeDiff, reduceIte, Bool.not_true, Bool.not_false, Bool.false_eq_true, CA_some, Option.some.injEq, Nat.zero_add, Nat.mul_one, Nat.add_zero, setL, List.set_cons_zero, List.set_cons_succ, fillC]
    refine BR_dec (fun hn => ?_) (fun hn => absurd (show (-1 : Int) < 0 by omega) hn)
    simp (disch := omega) only [c21, e0, e1, e2, e3, e4, hsz, ifT, w64, RR, RP, Ty.agg, Ty.size, Ty.sizes, eq_self, ne_eq, not_true, not_false_iff, reduceCtorEq, List.length_cons, List.length_nil, decide_true, decide_false, true_and, and_true, ite_true, ite_false, PT.full, enter0, setAll, forget, Fr.set, Fr.get, PT.get, PT.set, kof, ai, ev, ev1, evp, b_add, b_sub, b_mul, b_quo, b_rem, b_eql, b_neq, b_lss, b_leq, b_gtr, b_geq, b_seql, b_sneq, setD, resV, resL, res1, args, List.take_zero, List.drop_zero, List.take_nil, List.take_succ_cons, List.drop_succ_cons, Nat.reduceAdd, Nat.reduceLeDiff, reduceIte, Bool.not_true, Bool.not_false, Bool.false_eq_true, CA_some, Option.some.injEq, Nat.zero_add, Nat.mul_one, Nat.add_zero, setL, List.set_cons_zero, List.set_cons_succ, fillC]
    rw [if_neg (by omega)]
  simp (disch := omega) only [KC_eq, c21, e0, e1, e2, e3, e4, hsz, ifT, w64, RR, RP, Ty.agg, Ty.size, Ty.sizes, eq_self, ne_eq, not_true, not_false_iff, reduceCtorEq, List.length_cons, List.length_nil, decide_true, decide_false, true_and, and_true, ite_true, ite_false, PT.full, enter0, setAll, forget, Fr.set, Fr.get, PT.get, PT.set, kof, ai, ev, ev1, evp, b_add, b_sub, b_mul, b_quo, b_rem, b_eql, b_neq, b_lss, b_leq, b_gtr, b_geq, b_seql, b_sneq, setD, resV, resL, res1, args, List.take_zero, List.drop_zero, List.take_nil, List.take_succ_cons, List.drop_succ_cons, Nat.reduceAdd, Nat.reduceLeDiff, reduceIte, Bool.not_true, Bool.not_false, Bool.false_eq_true, CA_some, Option.some.injEq, Nat.zero_add, Nat.mul_one, Nat.add_zero, setL, List.set_cons_zero, List.set_cons_succ, fillC]
  refine BR_dec (fun hn => absurd hn (by omega)) (fun hn => ?_)
  simp (disch := omega) only [c21, e0, e1, e2, e3, e4, hsz, ifT, w64, RR, RP, Ty.agg, Ty.size, Ty.sizes, eq_self, ne_eq, not_true, not_false_iff, reduceCtorEq, List.length_cons, List.length_nil, decide_true, decide_false, true_and, and_true, ite_true, ite_false, PT.full, enter0, setAll, forget, Fr.set, Fr.get, PT.get, PT.set, kof, ai, ev, ev1, evp, b_add, b_sub, b_mul, b_quo, b_rem, b_eql, b_neq, b_lss, b_leq, b_gtr, b_geq, b_seql, b_sneq, setD, resV, resL, res1, args, List.take_zero, List.drop_zero, List.take_nil, List.take_succ_cons, List.drop_succ_cons, Nat.reduceAdd, Nat.reduceLeDiff, reduceIte, Bool.not_true, Bool.not_false, Bool.false_eq_true, CA_some, Option.some.injEq, Nat.zero_add, Nat.mul_one, Nat.add_zero, setL, List.set_cons_zero, List.set_cons_succ, fillC]
  refine SzOk.go sz_Qc h5 (k := k - wt v3 - wt v4) (by omega) (fun hf2 => ?_) (fun hf2 => ?_)
  case refine_2 =>
    simp (disch := omega) only [KC_eq, c21, e0, e1, e2, e3, e4, hsz, ifT, w64, RR, RP, Ty.agg, Ty.size, Ty.sizes, eq_self, ne_eq, not_true, not_false_iff, reduceCtorEq, List.length_cons, List.length_nil, decide_true, decide_false, true_and, and_true, ite_true, ite_false, PT.full, enter0, setAll, forget, Fr.set, Fr.get, PT.get, PT.set, kof, ai, ev, ev1, evp, b_add, b_sub, b_mul, b_quo, b_rem, b_eql, b_neq, b_lss, b_leq, b_gtr, b_geq, b_seql, b_sneq, setD, resV, resL, res1, args, List.take_zero, List.drop_zero, List.take_nil, List.take_succ_cons, List.drop_succ_cons, Nat.reduceAdd, Nat.reduceLeDiff, reduceIte, Bool.not_true, Bool.not_false, Bool.false_eq_true, CA_some, Option.some.injEq, Nat.zero_add, Nat.mul_one, Nat.add_zero, setL, List.set_cons_zero, List.set_cons_succ, fillC]
    refine BR_dec (fun hn => ?_) (fun hn => absurd (show (-1 : Int) < 0 by omega) hn)
    simp (disch := omega) only [c21, e0, e1, e2, e3, e4, hsz, ifT, w64, RR, RP, Ty.agg, Ty.size, Ty.sizes, eq_self, ne_eq, not_true, not_false_iff, reduceCtorEq, List.length_cons, List.length_nil, decide_true, decide_false, true_and, and_true, ite_true, ite_false, PT.full, enter0, setAll, forget, Fr.set, Fr.get, PT.get, PT.set, kof, ai, ev, ev1, evp, b_add, b_sub, b_mul, b_quo, b_rem, b_eql, b_neq, b_lss, b_leq, b_gtr, b_geq, b_seql, b_sneq, setD, resV, resL, res1, args, List.take_zero, List.drop_zero, List.take_nil, List.take_succ_cons, List.drop_succ_cons, Nat.reduceAdd, Nat.reduceLeDiff, reduceIte, Bool.not_true, Bool.not_false, Bool.false_eq_true, CA_some, Option.some.injEq, Nat.zero_add, Nat.mul_one, Nat.add_zero, setL, List.set_cons_zero, List.set_cons_succ, fillC]
    rw [if_neg (by omega)]
  simp (disch := omega) only [KC_eq, c21, e0, e1, e2, e3, e4, hsz, ifT, w64, RR, RP, Ty.agg, Ty.size, Ty.sizes, eq_self, ne_eq, not_true, not_false_iff, reduceCtorEq, List.length_cons, List.length_nil, decide_true, decide_false, true_and, and_true, ite_true, ite_false, PT.full, enter0, setAll, forget, Fr.set, Fr.get, PT.get, PT.set, kof, ai, ev, ev1, evp, b_add, b_sub, b_mul, b_quo, b_rem, b_eql, b_neq, b_lss, b_leq, b_gtr, b_geq, b_seql, b_sneq, setD, resV, resL, res1, args, List.take_zero, List.drop_zero, List.take_nil, List.take_succ_cons, List.drop_succ_cons, Nat.reduceAdd, Nat.reduceLeDiff, reduceIte, Bool.not_true, Bool.not_false, Bool.false_eq_true, CA_some, Option.some.injEq, Nat.zero_add, Nat.mul_one, Nat.add_zero, setL, List.set_cons_zero, List.set_cons_succ, fillC]
  refine BR_dec (fun hn => absurd hn (by omega)) (fun hn => ?_)
  simp (disch := omega) only [c21, e0, e1, e2, e3, e4, hsz, ifT, w64, RR, RP, Ty.agg, Ty.size, Ty.sizes, eq_self, ne_eq, not_true, not_false_iff, reduceCtorEq, List.length_cons, List.length_nil, decide_true, decide_false, true_and, and_true, ite_true, ite_false, PT.full, enter0, setAll, forget, Fr.set, Fr.get, PT.get, PT.set, kof, ai, ev, ev1, evp, b_add, b_sub, b_mul, b_quo, b_rem, b_eql, b_neq, b_lss, b_leq, b_gtr, b_geq, b_seql, b_sneq, setD, resV, resL, res1, args, List.take_zero, List.drop_zero, List.take_nil, List.take_succ_cons, List.drop_succ_cons, Nat.reduceAdd, Nat.reduceLeDiff, reduceIte, Bool.not_true, Bool.not_false, Bool.false_eq_true, CA_some, Option.some.injEq, Nat.zero_add, Nat.mul_one, Nat.add_zero, setL, List.set_cons_zero, List.set_cons_succ, fillC]
  congr 3
  omega
/-- laws.toByteS -/
def c47 : AF := ⟨1, 5, [.tmp 2], (.seq (.ops [.i (.mov 2 (.c (.val false [.nils])))]) (.seq (.ops [.i (.mov 5 (.s 0)), .i (.len 6 false (.s 5)), .i (.mks 7 5 1 1 [.int .u8 0] (.s 6)), .i (.mov 3 (.s 7))]) (.seq (.seq (.ops [.i (.mov 4 (.c (.val false [.int .i64 0])))]) (.block 0 (.loop [20, 19, 18, 17, 16, 15, 14, 13, 12, 11, 10, 9, 8] (.seq (.seq (.ops [.i (.mov 8 (.s 4)), .i (.mov 9 (.s 0)), .i (.len 10 false (.s 9)), .i (.bin 11 .lss (.s 8) (.s 10))]) (.cond (.s 11) .skip (.exit 0))) (.seq (.block 1 (.ops [.i (.mov 14 (.s 3)), .i (.mov 15 (.s 4)), .i (.mov 16 (.s 0)), .i (.mov 17 (.s 4)), .i (.iad 18 (.s 16) (.s 17) 1), .i (.ldh 19 (.s 18) 1 false), .i (.iad 20 (.s 14) (.s 15) 1), .i (.sth (.s 20) (.s 19) 1)])) (.ops [.i (.mov 12 (.s 4)), .i (.bin 13 .add (.s 12) (.c (.val false [.int .i64 1]))), .i (.mov 4 (.s 13))])))))) (.seq (.ops [.i (.mov 21 (.s 3)), .i (.mov 2 (.s 21))]) .ret))))⟩
theorem k47 : cd 47 = some c47 := by kernel_rfl
theorem to_ByteS : ToOk cd 47 (.sl (.int .u8)) := to_leaf k47 (by omega)
/-- laws.toByteSS -/
def c26 : AF := ⟨1, 5, [.tmp 2], (.seq (.ops [.i (.mov 2 (.c (.val false [.nils])))]) (.seq (.ops [.i (.mov 5 (.s 0)), .i (.len 6 false (.s 5)), .i (.mks 7 22 1 24 [.nils] (.s 6)), .i (.mov 3 (.s 7))]) (.seq (.seq (.ops [.i (.mov 4 (.c (.val false [.int .i64 0])))]) (.block 0 (.loop [21, 20, 19, 18, 17, 16, 15, 14, 13, 12, 11, 10, 9, 8] (.seq (.seq (.ops [.i (.mov 8 (.s 4)), .i (.mov 9 (.s 0)), .i (.len 10 false (.s 9)), .i (.bin 11 .lss (.s 8) (.s 10))]) (.cond (.s 11) .skip (.exit 0))) (.seq (.block 1 (.ops [.i (.mov 14 (.s 3)), .i (.mov 15 (.s 4)), .i (.mov 16 (.s 0)), .i (.mov 17 (.s 4)), .i (.iad 18 (.s 16) (.s 17) 1), .i (.ldh 19 (.s 18) 1 false), .i (.call 21 47 false [(.s 19)]), .i (.iad 21 (.s 14) (.s 15) 1), .i (.sth (.s 21) (.s 20) 1)])) (.ops [.i (.mov 12 (.s 4)), .i (.bin 13 .add (.s 12) (.c (.val false [.int .i64 1]))), .i (.mov 4 (.s 13))])))))) (.seq (.ops [.i (.mov 22 (.s 3)), .i (.mov 2 (.s 22))]) .ret))))⟩
theorem k26 : cd 26 = some c26 := by kernel_rfl
theorem to_ByteSS : ToOk cd 26 (.sl (.sl (.int .u8))) := to_sl k26 (by omega) rfl to_ByteS
/-- laws.toQc -/
def c87 : AF := ⟨1, 5, [.cell 2 5 true], (.seq (.ops [.i (.lbox 1 (.s 0)), .i (.lal 2 [.int .i64 0, .int .i64 0, .nils, .nils, .nils])]) (.seq (.ops [.i (.lal 3 [.int .i64 0, .int .i64 0, .nils, .nils, .nils])]) (.seq (.ops [.i (.fad 4 (.s 1) 0), .i (.ldl 5 1 (.s 4) 1 false), .i (.fad 6 (.s 3) 0), .i (.stl 3 (.s 6) (.s 5) 1)]) (.seq (.ops [.i (.fad 7 (.s 1) 1), .i (.ldl 8 1 (.s 7) 1 false), .i (.fad 9 (.s 3) 1), .i (.stl 3 (.s 9) (.s 8) 1)]) (.seq (.ops [.i (.fad 10 (.s 1) 2), .i (.ldl 11 1 (.s 10) 1 false), .i (.call 13 47 false [(.s 11)]), .i (.fad 13 (.s 3) 2), .i (.stl 3 (.s 13) (.s 12) 1)]) (.seq (.ops [.i (.fad 14 (.s 1) 3), .i (.ldl 15 1 (.s 14) 1 false), .i (.call 17 47 false [(.s 15)]), .i (.fad 17 (.s 3) 3), .i (.stl 3 (.s 17) (.s 16) 1)]) (.seq (.ops [.i (.fad 18 (.s 1) 4), .i (.ldl 19 1 (.s 18) 1 false), .i (.call 21 26 false [(.s 19)]), .i (.fad 21 (.s 3) 4), .i (.stl 3 (.s 21) (.s 20) 1)]) (.seq (.ops [.i (.ldl 22 3 (.s 3) 5 true), .i (.stl 2 (.s 2) (.s 22) 5)]) .ret))))))))⟩
theorem k87 : cd 87 = some c87 := by kernel_rfl
theorem to_Qc : ToOk cd 87 TQc := by
  intro h cs v S hv hw
  obtain ⟨vs, rfl, q0⟩ := hv.st
  obtain ⟨v0, r0, S0, T0, rfl, rfl, h0, q1⟩ := q0.step
  obtain ⟨n0, e0, rfl, rfl, lo0, hi0⟩ := h0.int
  obtain ⟨v1, r1, S1, T1, rfl, rfl, h1, q2⟩ := q1.step
  obtain ⟨n1, e1, rfl, rfl, lo1, hi1⟩ := h1.int
  obtain ⟨v2, r2, S2, T2, rfl, rfl, h2, q3⟩ := q2.step
  obtain ⟨c2, e2⟩ := h2.one rfl
  rw [e2] at h2
  obtain ⟨v3, r3, S3, T3, rfl, rfl, h3, q4⟩ := q3.step
  obtain ⟨c3, e3⟩ := h3.one rfl
  rw [e3] at h3
  obtain ⟨v4, r4, S4, T4, rfl, rfl, h4, q5⟩ := q4.step
  obtain ⟨c4, e4⟩ := h4.one rfl
  rw [e4] at h4
  obtain ⟨_, rfl, rfl⟩ := q5
  have hsz : cs.length = 5 := hv.size
  simp only [Ty.size, Ty.sizes, Nat.reduceAdd, Nat.zero_add, List.drop_zero] at e0 e1 e2 e3 e4 hsz
  simp only [wt, wts] at hw
  refine WS_enter k87 rfl ?_
  simp (disch := omega) only [KC_eq, c87, e0, e1, e2, e3, e4, hsz, ifT, w64, RR, RP, Ty.agg, Ty.size, Ty.sizes, eq_self, ne_eq, not_true, not_false_iff, reduceCtorEq, List.length_cons, List.length_nil, decide_true, decide_false, true_and, and_true, ite_true, ite_false, PT.full, enter0, setAll, forget, Fr.set, Fr.get, PT.get, PT.set, kof, ai, ev, ev1, evp, b_add, b_sub, b_mul, b_quo, b_rem, b_eql, b_neq, b_lss, b_leq, b_gtr, b_geq, b_seql, b_sneq, setD, resV, resL, res1, args, List.take_zero, List.drop_zero, List.take_nil, List.take_succ_cons, List.drop_succ_cons, Nat.reduceAdd, Nat.reduceLeDiff, reduceIte, Bool.not_true, Bool.not_false, Bool.false_eq_true, CA_some, Option.some.injEq, Nat.zero_add, Nat.mul_one, Nat.add_zero, setL, List.set_cons_zero, List.set_cons_succ, fillC]
  refine WC_call (to_ByteS h2 (by omega)) ?_
  rintro r0 g0 ⟨t0, d0, U0, rfl, rfl, z0, o0, l0⟩
  obtain ⟨y0_0, rfl⟩ := z0.one rfl
  simp (disch := omega) only [KC_eq, c87, e0, e1, e2, e3, e4, hsz, ifT, w64, RR, RP, Ty.agg, Ty.size, Ty.sizes, eq_self, ne_eq, not_true, not_false_iff, reduceCtorEq, List.length_cons, List.length_nil, decide_true, decide_false, true_and, and_true, ite_true, ite_false, PT.full, enter0, setAll, forget, Fr.set, Fr.get, PT.get, PT.set, kof, ai, ev, ev1, evp, b_add, b_sub, b_mul, b_quo, b_rem, b_eql, b_neq, b_lss, b_leq, b_gtr, b_geq, b_seql, b_sneq, setD, resV, resL, res1, args, List.take_zero, List.drop_zero, List.take_nil, List.take_succ_cons, List.drop_succ_cons, Nat.reduceAdd, Nat.reduceLeDiff, reduceIte, Bool.not_true, Bool.not_false, Bool.false_eq_true, CA_some, Option.some.injEq, Nat.zero_add, Nat.mul_one, Nat.add_zero, setL, List.set_cons_zero, List.set_cons_succ, fillC]
  refine WC_call (to_ByteS (h3.app) (by omega)) ?_
  rintro r1 g1 ⟨t1, d1, U1, rfl, rfl, z1, o1, l1⟩
  obtain ⟨y1_0, rfl⟩ := z1.one rfl
  simp (disch := omega) only [KC_eq, c87, e0, e1, e2, e3, e4, hsz, ifT, w64, RR, RP, Ty.agg, Ty.size, Ty.sizes, eq_self, ne_eq, not_true, not_false_iff, reduceCtorEq, List.length_cons, List.length_nil, decide_true, decide_false, true_and, and_true, ite_true, ite_false, PT.full, enter0, setAll, forget, Fr.set, Fr.get, PT.get, PT.set, kof, ai, ev, ev1, evp, b_add, b_sub, b_mul, b_quo, b_rem, b_eql, b_neq, b_lss, b_leq, b_gtr, b_geq, b_seql, b_sneq, setD, resV, resL, res1, args, List.take_zero, List.drop_zero, List.take_nil, List.take_succ_cons, List.drop_succ_cons, Nat.reduceAdd, Nat.reduceLeDiff, reduceIte, Bool.not_true, Bool.not_false, Bool.false_eq_true, CA_some, Option.some.injEq, Nat.zero_add, Nat.mul_one, Nat.add_zero, setL, List.set_cons_zero, List.set_cons_succ, fillC]
  refine WC_call (to_ByteSS ((h4.app).app) (by omega)) ?_
  rintro r2 g2 ⟨t2, d2, U2, rfl, rfl, z2, o2, l2⟩
  obtain ⟨y2_0, rfl⟩ := z2.one rfl
  simp (disch := omega) only [KC_eq, c87, e0, e1, e2, e3, e4, hsz, ifT, w64, RR, RP, Ty.agg, Ty.size, Ty.sizes, eq_self, ne_eq, not_true, not_false_iff, reduceCtorEq, List.length_cons, List.length_nil, decide_true, decide_false, true_and, and_true, ite_true, ite_false, PT.full, enter0, setAll, forget, Fr.set, Fr.get, PT.get, PT.set, kof, ai, ev, ev1, evp, b_add, b_sub, b_mul, b_quo, b_rem, b_eql, b_neq, b_lss, b_leq, b_gtr, b_geq, b_seql, b_sneq, setD, resV, resL, res1, args, List.take_zero, List.drop_zero, List.take_nil, List.take_succ_cons, List.drop_succ_cons, Nat.reduceAdd, Nat.reduceLeDiff, reduceIte, Bool.not_true, Bool.not_false, Bool.false_eq_true, CA_some, Option.some.injEq, Nat.zero_add, Nat.mul_one, Nat.add_zero, setL, List.set_cons_zero, List.set_cons_succ, fillC]
  refine ⟨(t0 ++ (t1 ++ t2)), _, _, by simp only [List.append_assoc], rfl, ⟨_, rfl, (Rs.mk (Rp.mkInt lo0 hi0) (Rs.mk (Rp.mkInt lo1 hi1) (Rs.mk ((z0.app).app) (Rs.mk (z1.app) (Rs.mk z2 Rs.nil)))))⟩, ?_⟩
  have fr := (Fre.step (Fre.step (Fre.step (Fre.nil h) z0.lt o0 l0) z1.lt o1 l1) z2.lt o2 l2)
  simpa only [List.nil_append, List.append_nil, List.append_assoc] using fr.both
/-- laws.toHead -/
def c25 : AF := ⟨1, 5, [.cell 2 10 true], (.seq (.ops [.i (.lbox 1 (.s 0)), .i (.lal 2 [.int .i64 0, .int .i64 0, .int .i64 0, .nils, .nils, .int .i64 0, .int .i64 0, .nils, .nils, .nils])]) (.seq (.ops [.i (.lal 3 [.int .i64 0, .int .i64 0, .int .i64 0, .nils, .nils, .int .i64 0, .int .i64 0, .nils, .nils, .nils])]) (.seq (.ops [.i (.fad 4 (.s 1) 0), .i (.ldl 5 1 (.s 4) 1 false), .i (.fad 6 (.s 3) 0), .i (.stl 3 (.s 6) (.s 5) 1)]) (.seq (.ops [.i (.fad 7 (.s 1) 1), .i (.ldl 8 1 (.s 7) 1 false), .i (.fad 9 (.s 3) 1), .i (.stl 3 (.s 9) (.s 8) 1)]) (.seq (.ops [.i (.fad 10 (.s 1) 2), .i (.ldl 11 1 (.s 10) 1 false), .i (.fad 12 (.s 3) 2), .i (.stl 3 (.s 12) (.s 11) 1)]) (.seq (.ops [.i (.fad 13 (.s 1) 3), .i (.ldl 14 1 (.s 13) 1 false), .i (.call 16 47 false [(.s 14)]), .i (.fad 16 (.s 3) 3), .i (.stl 3 (.s 16) (.s 15) 1)]) (.seq (.ops [.i (.fad 17 (.s 1) 4), .i (.ldl 18 1 (.s 17) 1 false), .i (.call 20 47 false [(.s 18)]), .i (.fad 20 (.s 3) 4), .i (.stl 3 (.s 20) (.s 19) 1)]) (.seq (.ops [.i (.fad 21 (.s 1) 5), .i (.ldl 22 1 (.s 21) 5 true), .i (.call 24 87 false [(.s 22)]), .i (.fad 24 (.s 3) 5), .i (.stl 3 (.s 24) (.s 23) 5)]) (.seq (.ops [.i (.ldl 25 3 (.s 3) 10 true), .i (.stl 2 (.s 2) (.s 25) 10)]) .ret)))))))))⟩
theorem k25 : cd 25 = some c25 := by kernel_rfl
theorem to_Head : ToOk cd 25 THead := by
  intro h cs v S hv hw
  obtain ⟨vs, rfl, q0⟩ := hv.st
  obtain ⟨v0, r0, S0, T0, rfl, rfl, h0, q1⟩ := q0.step
  obtain ⟨n0, e0, rfl, rfl, lo0, hi0⟩ := h0.int
  obtain ⟨v1, r1, S1, T1, rfl, rfl, h1, q2⟩ := q1.step
  obtain ⟨n1, e1, rfl, rfl, lo1, hi1⟩ := h1.int
  obtain ⟨v2, r2, S2, T2, rfl, rfl, h2, q3⟩ := q2.step
  obtain ⟨n2, e2, rfl, rfl, lo2, hi2⟩ := h2.int
  obtain ⟨v3, r3, S3, T3, rfl, rfl, h3, q4⟩ := q3.step
  obtain ⟨c3, e3⟩ := h3.one rfl
  rw [e3] at h3
  obtain ⟨v4, r4, S4, T4, rfl, rfl, h4, q5⟩ := q4.step
  obtain ⟨c4, e4⟩ := h4.one rfl
  rw [e4] at h4
  obtain ⟨v5, r5, S5, T5, rfl, rfl, h5, q6⟩ := q5.step
  obtain ⟨_, rfl, rfl⟩ := q6
  have hsz : cs.length = 10 := hv.size
  simp only [Ty.size, Ty.sizes, Nat.reduceAdd, Nat.zero_add, List.drop_zero] at e0 e1 e2 e3 e4 hsz h5
  simp only [wt, wts] at hw
  refine WS_enter k25 rfl ?_
  simp (disch := omega) only [KC_eq, c25, e0, e1, e2, e3, e4, hsz, ifT, w64, RR, RP, Ty.agg, Ty.size, Ty.sizes, eq_self, ne_eq, not_true, not_false_iff, reduceCtorEq, List.length_cons, List.length_nil, decide_true, decide_false, true_and, and_true, ite_true, ite_false, PT.full, enter0, setAll, forget, Fr.set, Fr.get, PT.get, PT.set, kof, ai, ev, ev1, evp, b_add, b_sub, b_mul, b_quo, b_rem, b_eql, b_neq, b_lss, b_leq, b_gtr, b_geq, b_seql, b_sneq, setD, resV, resL, res1, args, List.take_zero, List.drop_zero, List.take_nil, List.take_succ_cons, List.drop_succ_cons, Nat.reduceAdd, Nat.reduceLeDiff, reduceIte, Bool.not_true, Bool.not_false, Bool.false_eq_true, CA_some, Option.some.injEq, Nat.zero_add, Nat.mul_one, Nat.add_zero, setL, List.set_cons_zero, List.set_cons_succ, fillC]
  refine WC_call (to_ByteS h3 (by omega)) ?_
  rintro r0 g0 ⟨t0, d0, U0, rfl, rfl, z0, o0, l0⟩
  obtain ⟨y0_0, rfl⟩ := z0.one rfl
  simp (disch := omega) only [KC_eq, c25, e0, e1, e2, e3, e4, hsz, ifT, w64, RR, RP, Ty.agg, Ty.size, Ty.sizes, eq_self, ne_eq, not_true, not_false_iff, reduceCtorEq, List.length_cons, List.length_nil, decide_true, decide_false, true_and, and_true, ite_true, ite_false, PT.full, enter0, setAll, forget, Fr.set, Fr.get, PT.get, PT.set, kof, ai, ev, ev1, evp, b_add, b_sub, b_mul, b_quo, b_rem, b_eql, b_neq, b_lss, b_leq, b_gtr, b_geq, b_seql, b_sneq, setD, resV, resL, res1, args, List.take_zero, List.drop_zero, List.take_nil, List.take_succ_cons, List.drop_succ_cons, Nat.reduceAdd, Nat.reduceLeDiff, reduceIte, Bool.not_true, Bool.not_false, Bool.false_eq_true, CA_some, Option.some.injEq, Nat.zero_add, Nat.mul_one, Nat.add_zero, setL, List.set_cons_zero, List.set_cons_succ, fillC]
  refine WC_call (to_ByteS (h4.app) (by omega)) ?_
  rintro r1 g1 ⟨t1, d1, U1, rfl, rfl, z1, o1, l1⟩
  obtain ⟨y1_0, rfl⟩ := z1.one rfl
  simp (disch := omega) only [KC_eq, c25, e0, e1, e2, e3, e4, hsz, ifT, w64, RR, RP, Ty.agg, Ty.size, Ty.sizes, eq_self, ne_eq, not_true, not_false_iff, reduceCtorEq, List.length_cons, List.length_nil, decide_true, decide_false, true_and, and_true, ite_true, ite_false, PT.full, enter0, setAll, forget, Fr.set, Fr.get, PT.get, PT.set, kof, ai, ev, ev1, evp, b_add, b_sub, b_mul, b_quo, b_rem, b_eql, b_neq, b_lss, b_leq, b_gtr, b_geq, b_seql, b_sneq, setD, resV, resL, res1, args, List.take_zero, List.drop_zero, List.take_nil, List.take_succ_cons, List.drop_succ_cons, Nat.reduceAdd, Nat.reduceLeDiff, reduceIte, Bool.not_true, Bool.not_false, Bool.false_eq_true, CA_some, Option.some.injEq, Nat.zero_add, Nat.mul_one, Nat.add_zero, setL, List.set_cons_zero, List.set_cons_succ, fillC]
  refine WC_call (to_Qc ((h5.app).app) (by omega)) ?_
  rintro r2 g2 ⟨t2, d2, U2, rfl, rfl, z2, o2, l2⟩
  obtain ⟨y2_0, y2_1, y2_2, y2_3, y2_4, rfl⟩ := len_5 z2.size
  simp (disch := omega) only [KC_eq, c25, e0, e1, e2, e3, e4, hsz, ifT, w64, RR, RP, Ty.agg, Ty.size, Ty.sizes, eq_self, ne_eq, not_true, not_false_iff, reduceCtorEq, List.length_cons, List.length_nil, decide_true, decide_false, true_and, and_true, ite_true, ite_false, PT.full, enter0, setAll, forget, Fr.set, Fr.get, PT.get, PT.set, kof, ai, ev, ev1, evp, b_add, b_sub, b_mul, b_quo, b_rem, b_eql, b_neq, b_lss, b_leq, b_gtr, b_geq, b_seql, b_sneq, setD, resV, resL, res1, args, List.take_zero, List.drop_zero, List.take_nil, List.take_succ_cons, List.drop_succ_cons, Nat.reduceAdd, Nat.reduceLeDiff, reduceIte, Bool.not_true, Bool.not_false, Bool.false_eq_true, CA_some, Option.some.injEq, Nat.zero_add, Nat.mul_one, Nat.add_zero, setL, List.set_cons_zero, List.set_cons_succ, fillC]
  refine ⟨(t0 ++ (t1 ++ t2)), _, _, by simp only [List.append_assoc], rfl, ⟨_, rfl, (Rs.mk (Rp.mkInt lo0 hi0) (Rs.mk (Rp.mkInt lo1 hi1) (Rs.mk (Rp.mkInt lo2 hi2) (Rs.mk ((z0.app).app) (Rs.mk (z1.app) (Rs.mk z2 Rs.nil))))))⟩, ?_⟩
  have fr := (Fre.step (Fre.step (Fre.step (Fre.nil h) z0.lt o0 l0) z1.lt o1 l1) z2.lt o2 l2)
  simpa only [List.nil_append, List.append_nil, List.append_assoc] using fr.both
/-- laws.eqByteS -/
def c50 : AF := ⟨2, 5, [.tmp 4], (.seq (.ops [.i (.mov 4 (.c (.val false [.bool false])))]) (.seq (.seq (.ops [.i (.mov 6 (.s 0)), .i (.len 7 false (.s 6)), .i (.mov 8 (.s 1)), .i (.len 9 false (.s 8)), .i (.bin 10 .neq (.s 7) (.s 9))]) (.cond (.s 10) (.seq (.ops [.i (.mov 4 (.c (.val false [.bool false])))]) .ret) .skip)) (.seq (.seq (.ops [.i (.mov 5 (.c (.val false [.int .i64 0])))]) (.block 0 (.loop [25, 24, 23, 22, 21, 20, 19, 18, 17, 16, 15, 14, 13, 12, 11] (.seq (.seq (.ops [.i (.mov 11 (.s 5)), .i (.mov 12 (.s 0)), .i (.len 13 false (.s 12)), .i (.bin 14 .lss (.s 11) (.s 13))]) (.cond (.s 14) .skip (.exit 0))) (.seq (.block 1 (.seq (.ops [.i (.mov 17 (.s 0)), .i (.mov 18 (.s 5)), .i (.iad 19 (.s 17) (.s 18) 1), .i (.ldh 20 (.s 19) 1 false), .i (.mov 21 (.s 1)), .i (.mov 22 (.s 5)), .i (.iad 23 (.s 21) (.s 22) 1), .i (.ldh 24 (.s 23) 1 false), .i (.bin 25 .neq (.s 20) (.s 24))]) (.cond (.s 25) (.seq (.ops [.i (.mov 4 (.c (.val false [.bool false])))]) .ret) .skip))) (.ops [.i (.mov 15 (.s 5)), .i (.bin 16 .add (.s 15) (.c (.val false [.int .i64 1]))), .i (.mov 5 (.s 16))])))))) (.seq (.ops [.i (.mov 4 (.c (.val false [.bool true])))]) .ret))))⟩
theorem k50 : cd 50 = some c50 := by kernel_rfl
theorem eq_ByteS : EqOk cd 50 (.sl (.int .u8)) := eq_leaf k50
/-- laws.eqByteSS -/
def c29 : AF := ⟨2, 5, [.tmp 4], (.seq (.ops [.i (.mov 4 (.c (.val false [.bool false])))]) (.seq (.seq (.ops [.i (.mov 6 (.s 0)), .i (.len 7 false (.s 6)), .i (.mov 8 (.s 1)), .i (.len 9 false (.s 8)), .i (.bin 10 .neq (.s 7) (.s 9))]) (.cond (.s 10) (.seq (.ops [.i (.mov 4 (.c (.val false [.bool false])))]) .ret) .skip)) (.seq (.seq (.ops [.i (.mov 5 (.c (.val false [.int .i64 0])))]) (.block 0 (.loop [26, 25, 24, 23, 22, 21, 20, 19, 18, 17, 16, 15, 14, 13, 12, 11] (.seq (.seq (.ops [.i (.mov 11 (.s 5)), .i (.mov 12 (.s 0)), .i (.len 13 false (.s 12)), .i (.bin 14 .lss (.s 11) (.s 13))]) (.cond (.s 14) .skip (.exit 0))) (.seq (.block 1 (.seq (.ops [.i (.mov 17 (.s 0)), .i (.mov 18 (.s 5)), .i (.iad 19 (.s 17) (.s 18) 1), .i (.ldh 20 (.s 19) 1 false), .i (.mov 21 (.s 1)), .i (.mov 22 (.s 5)), .i (.iad 23 (.s 21) (.s 22) 1), .i (.ldh 24 (.s 23) 1 false), .i (.call 26 50 false [(.s 20), (.s 24)]), .i (.not 26 (.s 25))]) (.cond (.s 26) (.seq (.ops [.i (.mov 4 (.c (.val false [.bool false])))]) .ret) .skip))) (.ops [.i (.mov 15 (.s 5)), .i (.bin 16 .add (.s 15) (.c (.val false [.int .i64 1]))), .i (.mov 5 (.s 16))])))))) (.seq (.ops [.i (.mov 4 (.c (.val false [.bool true])))]) .ret))))⟩
theorem k29 : cd 29 = some c29 := by kernel_rfl
theorem eq_ByteSS : EqOk cd 29 (.sl (.sl (.int .u8))) := eq_sl k29 eq_ByteS
/-- laws.eqQc -/
def c69 : AF := ⟨2, 6, [.tmp 4], (.seq (.ops [.i (.lbox 2 (.s 0)), .i (.lbox 3 (.s 1)), .i (.mov 4 (.c (.val false [.bool false])))]) (.seq (.seq (.ops [.i (.fad 5 (.s 2) 0), .i (.ldl 6 2 (.s 5) 1 false), .i (.fad 7 (.s 3) 0), .i (.ldl 8 3 (.s 7) 1 false), .i (.bin 9 .neq (.s 6) (.s 8))]) (.cond (.s 9) (.seq (.ops [.i (.mov 4 (.c (.val false [.bool false])))]) .ret) .skip)) (.seq (.seq (.ops [.i (.fad 10 (.s 2) 1), .i (.ldl 11 2 (.s 10) 1 false), .i (.fad 12 (.s 3) 1), .i (.ldl 13 3 (.s 12) 1 false), .i (.bin 14 .neq (.s 11) (.s 13))]) (.cond (.s 14) (.seq (.ops [.i (.mov 4 (.c (.val false [.bool false])))]) .ret) .skip)) (.seq (.seq (.ops [.i (.fad 15 (.s 2) 2), .i (.ldl 16 2 (.s 15) 1 false), .i (.fad 17 (.s 3) 2), .i (.ldl 18 3 (.s 17) 1 false), .i (.call 20 50 false [(.s 16), (.s 18)]), .i (.not 20 (.s 19))]) (.cond (.s 20) (.seq (.ops [.i (.mov 4 (.c (.val false [.bool false])))]) .ret) .skip)) (.seq (.seq (.ops [.i (.fad 21 (.s 2) 3), .i (.ldl 22 2 (.s 21) 1 false), .i (.fad 23 (.s 3) 3), .i (.ldl 24 3 (.s 23) 1 false), .i (.call 26 50 false [(.s 22), (.s 24)]), .i (.not 26 (.s 25))]) (.cond (.s 26) (.seq (.ops [.i (.mov 4 (.c (.val false [.bool false])))]) .ret) .skip)) (.seq (.seq (.ops [.i (.fad 27 (.s 2) 4), .i (.ldl 28 2 (.s 27) 1 false), .i (.fad 29 (.s 3) 4), .i (.ldl 30 3 (.s 29) 1 false), .i (.call 32 29 false [(.s 28), (.s 30)]), .i (.not 32 (.s 31))]) (.cond (.s 32) (.seq (.ops [.i (.mov 4 (.c (.val false [.bool false])))]) .ret) .skip)) (.seq (.ops [.i (.mov 4 (.c (.val false [.bool true])))]) .ret)))))))⟩
theorem k69 : cd 69 = some c69 := by kernel_rfl
theorem eq_Qc : EqOk cd 69 TQc := by
  intro h ca cb va vb Sa Sb ha hb
  obtain ⟨avs, rfl, aq0⟩ := ha.st
  obtain ⟨av0, ar0, aS0, aT0, rfl, rfl, ah0, aq1⟩ := aq0.step
  obtain ⟨an0, ae0, rfl, rfl, alo0, ahi0⟩ := ah0.int
  obtain ⟨av1, ar1, aS1, aT1, rfl, rfl, ah1, aq2⟩ := aq1.step
  obtain ⟨an1, ae1, rfl, rfl, alo1, ahi1⟩ := ah1.int
  obtain ⟨av2, ar2, aS2, aT2, rfl, rfl, ah2, aq3⟩ := aq2.step
  obtain ⟨ac2, ae2⟩ := ah2.one rfl
  rw [ae2] at ah2
  obtain ⟨av3, ar3, aS3, aT3, rfl, rfl, ah3, aq4⟩ := aq3.step
  obtain ⟨ac3, ae3⟩ := ah3.one rfl
  rw [ae3] at ah3
  obtain ⟨av4, ar4, aS4, aT4, rfl, rfl, ah4, aq5⟩ := aq4.step
  obtain ⟨ac4, ae4⟩ := ah4.one rfl
  rw [ae4] at ah4
  obtain ⟨_, rfl, rfl⟩ := aq5
  have ahsz : ca.length = 5 := ha.size
  obtain ⟨bvs, rfl, bq0⟩ := hb.st
  obtain ⟨bv0, br0, bS0, bT0, rfl, rfl, bh0, bq1⟩ := bq0.step
  obtain ⟨bn0, be0, rfl, rfl, blo0, bhi0⟩ := bh0.int
  obtain ⟨bv1, br1, bS1, bT1, rfl, rfl, bh1, bq2⟩ := bq1.step
  obtain ⟨bn1, be1, rfl, rfl, blo1, bhi1⟩ := bh1.int
  obtain ⟨bv2, br2, bS2, bT2, rfl, rfl, bh2, bq3⟩ := bq2.step
  obtain ⟨bc2, be2⟩ := bh2.one rfl
  rw [be2] at bh2
  obtain ⟨bv3, br3, bS3, bT3, rfl, rfl, bh3, bq4⟩ := bq3.step
  obtain ⟨bc3, be3⟩ := bh3.one rfl
  rw [be3] at bh3
  obtain ⟨bv4, br4, bS4, bT4, rfl, rfl, bh4, bq5⟩ := bq4.step
  obtain ⟨bc4, be4⟩ := bh4.one rfl
  rw [be4] at bh4
  obtain ⟨_, rfl, rfl⟩ := bq5
  have bhsz : cb.length = 5 := hb.size
  simp only [Ty.size, Ty.sizes, Nat.reduceAdd, Nat.zero_add, List.drop_zero] at ae0 ae1 ae2 ae3 ae4 ahsz be0 be1 be2 be3 be4 bhsz
  refine WS_enter k69 rfl ?_
  simp (disch := omega) only [KC_eq, c69, ae0, ae1, ae2, ae3, ae4, ahsz, be0, be1, be2, be3, be4, bhsz, ifT, w64, RR, RP, Ty.agg, Ty.size, Ty.sizes, eq_self, ne_eq, not_true, not_false_iff, reduceCtorEq, List.length_cons, List.length_nil, decide_true, decide_false, true_and, and_true, ite_true, ite_false, PT.full, enter0, setAll, forget, Fr.set, Fr.get, PT.get, PT.set, kof, ai, ev, ev1, evp, b_add, b_sub, b_mul, b_quo, b_rem, b_eql, b_neq, b_lss, b_leq, b_gtr, b_geq, b_seql, b_sneq, setD, resV, resL, res1, args, List.take_zero, List.drop_zero, List.take_nil, List.take_succ_cons, List.drop_succ_cons, Nat.reduceAdd, Nat.reduceLeDiff, reduceIte, Bool.not_true, Bool.not_false, Bool.false_eq_true, CA_some, Option.some.injEq, Nat.zero_add, Nat.mul_one, Nat.add_zero, setL, List.set_cons_zero, List.set_cons_succ, fillC]
  refine BR_dec (fun hn => ?_) (fun hn => ?_)
  case refine_1 =>
    simp (disch := omega) only [KC_eq, c69, ae0, ae1, ae2, ae3, ae4, ahsz, be0, be1, be2, be3, be4, bhsz, ifT, w64, RR, RP, Ty.agg, Ty.size, Ty.sizes, eq_self, ne_eq, not_true, not_false_iff, reduceCtorEq, List.length_cons, List.length_nil, decide_true, decide_false, true_and, and_true, ite_true, ite_false, PT.full, enter0, setAll, forget, Fr.set, Fr.get, PT.get, PT.set, kof, ai, ev, ev1, evp, b_add, b_sub, b_mul, b_quo, b_rem, b_eql, b_neq, b_lss, b_leq, b_gtr, b_geq, b_seql, b_sneq, setD, resV, resL, res1, args, List.take_zero, List.drop_zero, List.take_nil, List.take_succ_cons, List.drop_succ_cons, Nat.reduceAdd, Nat.reduceLeDiff, reduceIte, Bool.not_true, Bool.not_false, Bool.false_eq_true, CA_some, Option.some.injEq, Nat.zero_add, Nat.mul_one, Nat.add_zero, setL, List.set_cons_zero, List.set_cons_succ, fillC]
    simp [hn]
  have d0 : an0 = bn0 := by omega
  subst d0
  simp (disch := omega) only [KC_eq, c69, ae0, ae1, ae2, ae3, ae4, ahsz, be0, be1, be2, be3, be4, bhsz, ifT, w64, RR, RP, Ty.agg, Ty.size, Ty.sizes, eq_self, ne_eq, not_true, not_false_iff, reduceCtorEq, List.length_cons, List.length_nil, decide_true, decide_false, true_and, and_true, ite_true, ite_false, PT.full, enter0, setAll, forget, Fr.set, Fr.get, PT.get, PT.set, kof, ai, ev, ev1, evp, b_add, b_sub, b_mul, b_quo, b_rem, b_eql, b_neq, b_lss, b_leq, b_gtr, b_geq, b_seql, b_sneq, setD, resV, resL, res1, args, List.take_zero, List.drop_zero, List.take_nil, List.take_succ_cons, List.drop_succ_cons, Nat.reduceAdd, Nat.reduceLeDiff, reduceIte, Bool.not_true, Bool.not_false, Bool.false_eq_true, CA_some, Option.some.injEq, Nat.zero_add, Nat.mul_one, Nat.add_zero, setL, List.set_cons_zero, List.set_cons_succ, fillC]
  refine BR_dec (fun hn => ?_) (fun hn => ?_)
  case refine_1 =>
    simp (disch := omega) only [KC_eq, c69, ae0, ae1, ae2, ae3, ae4, ahsz, be0, be1, be2, be3, be4, bhsz, ifT, w64, RR, RP, Ty.agg, Ty.size, Ty.sizes, eq_self, ne_eq, not_true, not_false_iff, reduceCtorEq, List.length_cons, List.length_nil, decide_true, decide_false, true_and, and_true, ite_true, ite_false, PT.full, enter0, setAll, forget, Fr.set, Fr.get, PT.get, PT.set, kof, ai, ev, ev1, evp, b_add, b_sub, b_mul, b_quo, b_rem, b_eql, b_neq, b_lss, b_leq, b_gtr, b_geq, b_seql, b_sneq, setD, resV, resL, res1, args, List.take_zero, List.drop_zero, List.take_nil, List.take_succ_cons, List.drop_succ_cons, Nat.reduceAdd, Nat.reduceLeDiff, reduceIte, Bool.not_true, Bool.not_false, Bool.false_eq_true, CA_some, Option.some.injEq, Nat.zero_add, Nat.mul_one, Nat.add_zero, setL, List.set_cons_zero, List.set_cons_succ, fillC]
    simp [hn]
  have d1 : an1 = bn1 := by omega
  subst d1
  simp (disch := omega) only [KC_eq, c69, ae0, ae1, ae2, ae3, ae4, ahsz, be0, be1, be2, be3, be4, bhsz, ifT, w64, RR, RP, Ty.agg, Ty.size, Ty.sizes, eq_self, ne_eq, not_true, not_false_iff, reduceCtorEq, List.length_cons, List.length_nil, decide_true, decide_false, true_and, and_true, ite_true, ite_false, PT.full, enter0, setAll, forget, Fr.set, Fr.get, PT.get, PT.set, kof, ai, ev, ev1, evp, b_add, b_sub, b_mul, b_quo, b_rem, b_eql, b_neq, b_lss, b_leq, b_gtr, b_geq, b_seql, b_sneq, setD, resV, resL, res1, args, List.take_zero, List.drop_zero, List.take_nil, List.take_succ_cons, List.drop_succ_cons, Nat.reduceAdd, Nat.reduceLeDiff, reduceIte, Bool.not_true, Bool.not_false, Bool.false_eq_true, CA_some, Option.some.injEq, Nat.zero_add, Nat.mul_one, Nat.add_zero, setL, List.set_cons_zero, List.set_cons_succ, fillC]
  refine EqOk.go eq_ByteS ah2 bh2 (fun d2 => ?_) (fun d2 => ?_)
  case refine_2 =>
    simp (disch := omega) only [KC_eq, c69, ae0, ae1, ae2, ae3, ae4, ahsz, be0, be1, be2, be3, be4, bhsz, ifT, w64, RR, RP, Ty.agg, Ty.size, Ty.sizes, eq_self, ne_eq, not_true, not_false_iff, reduceCtorEq, List.length_cons, List.length_nil, decide_true, decide_false, true_and, and_true, ite_true, ite_false, PT.full, enter0, setAll, forget, Fr.set, Fr.get, PT.get, PT.set, kof, ai, ev, ev1, evp, b_add, b_sub, b_mul, b_quo, b_rem, b_eql, b_neq, b_lss, b_leq, b_gtr, b_geq, b_seql, b_sneq, setD, resV, resL, res1, args, List.take_zero, List.drop_zero, List.take_nil, List.take_succ_cons, List.drop_succ_cons, Nat.reduceAdd, Nat.reduceLeDiff, reduceIte, Bool.not_true, Bool.not_false, Bool.false_eq_true, CA_some, Option.some.injEq, Nat.zero_add, Nat.mul_one, Nat.add_zero, setL, List.set_cons_zero, List.set_cons_succ, fillC]
    simp [d2]
  subst d2
  simp (disch := omega) only [KC_eq, c69, ae0, ae1, ae2, ae3, ae4, ahsz, be0, be1, be2, be3, be4, bhsz, ifT, w64, RR, RP, Ty.agg, Ty.size, Ty.sizes, eq_self, ne_eq, not_true, not_false_iff, reduceCtorEq, List.length_cons, List.length_nil, decide_true, decide_false, true_and, and_true, ite_true, ite_false, PT.full, enter0, setAll, forget, Fr.set, Fr.get, PT.get, PT.set, kof, ai, ev, ev1, evp, b_add, b_sub, b_mul, b_quo, b_rem, b_eql, b_neq, b_lss, b_leq, b_gtr, b_geq, b_seql, b_sneq, setD, resV, resL, res1, args, List.take_zero, List.drop_zero, List.take_nil, List.take_succ_cons, List.drop_succ_cons, Nat.reduceAdd, Nat.reduceLeDiff, reduceIte, Bool.not_true, Bool.not_false, Bool.false_eq_true, CA_some, Option.some.injEq, Nat.zero_add, Nat.mul_one, Nat.add_zero, setL, List.set_cons_zero, List.set_cons_succ, fillC]
  refine EqOk.go eq_ByteS ah3 bh3 (fun d3 => ?_) (fun d3 => ?_)
  case refine_2 =>
    simp (disch := omega) only [KC_eq, c69, ae0, ae1, ae2, ae3, ae4, ahsz, be0, be1, be2, be3, be4, bhsz, ifT, w64, RR, RP, Ty.agg, Ty.size, Ty.sizes, eq_self, ne_eq, not_true, not_false_iff, reduceCtorEq, List.length_cons, List.length_nil, decide_true, decide_false, true_and, and_true, ite_true, ite_false, PT.full, enter0, setAll, forget, Fr.set, Fr.get, PT.get, PT.set, kof, ai, ev, ev1, evp, b_add, b_sub, b_mul, b_quo, b_rem, b_eql, b_neq, b_lss, b_leq, b_gtr, b_geq, b_seql, b_sneq, setD, resV, resL, res1, args, List.take_zero, List.drop_zero, List.take_nil, List.take_succ_cons, List.drop_succ_cons, Nat.reduceAdd, Nat.reduceLeDiff, reduceIte, Bool.not_true, Bool.not_false, Bool.false_eq_true, CA_some, Option.some.injEq, Nat.zero_add, Nat.mul_one, Nat.add_zero, setL, List.set_cons_zero, List.set_cons_succ, fillC]
    simp [d3]
  subst d3
  simp (disch := omega) only [KC_eq, c69, ae0, ae1, ae2, ae3, ae4, ahsz, be0, be1, be2, be3, be4, bhsz, ifT, w64, RR, RP, Ty.agg, Ty.size, Ty.sizes, eq_self, ne_eq, not_true, not_false_iff, reduceCtorEq, List.length_cons, List.length_nil, decide_true, decide_false, true_and, and_true, ite_true, ite_false, PT.full, enter0, setAll, forget, Fr.set, Fr.get, PT.get, PT.set, kof, ai, ev, ev1, evp, b_add, b_sub, b_mul, b_quo, b_rem, b_eql, b_neq, b_lss, b_leq, b_gtr, b_geq, b_seql, b_sneq, setD, resV, resL, res1, args, List.take_zero, List.drop_zero, List.take_nil, List.take_succ_cons, List.drop_succ_cons, Nat.reduceAdd, Nat.reduceLeDiff, reduceIte, Bool.not_true, Bool.not_false, Bool.false_eq_true, CA_some, Option.some.injEq, Nat.zero_add, Nat.mul_one, Nat.add_zero, setL, List.set_cons_zero, List.set_cons_succ, fillC]
  refine EqOk.go eq_ByteSS ah4 bh4 (fun d4 => ?_) (fun d4 => ?_)
  case refine_2 =>
    simp (disch := omega) only [KC_eq, c69, ae0, ae1, ae2, ae3, ae4, ahsz, be0, be1, be2, be3, be4, bhsz, ifT, w64, RR, RP, Ty.agg, Ty.size, Ty.sizes, eq_self, ne_eq, not_true, not_false_iff, reduceCtorEq, List.length_cons, List.length_nil, decide_true, decide_false, true_and, and_true, ite_true, ite_false, PT.full, enter0, setAll, forget, Fr.set, Fr.get, PT.get, PT.set, kof, ai, ev, ev1, evp, b_add, b_sub, b_mul, b_quo, b_rem, b_eql, b_neq, b_lss, b_leq, b_gtr, b_geq, b_seql, b_sneq, setD, resV, resL, res1, args, List.take_zero, List.drop_zero, List.take_nil, List.take_succ_cons, List.drop_succ_cons, Nat.reduceAdd, Nat.reduceLeDiff, reduceIte, Bool.not_true, Bool.not_false, Bool.false_eq_true, CA_some, Option.some.injEq, Nat.zero_add, Nat.mul_one, Nat.add_zero, setL, List.set_cons_zero, List.set_cons_succ, fillC]
    simp [d4]
  subst d4
  simp (disch := omega) only [KC_eq, c69, ae0, ae1, ae2, ae3, ae4, ahsz, be0, be1, be2, be3, be4, bhsz, ifT, w64, RR, RP, Ty.agg, Ty.size, Ty.sizes, eq_self, ne_eq, not_true, not_false_iff, reduceCtorEq, List.length_cons, List.length_nil, decide_true, decide_false, true_and, and_true, ite_true, ite_false, PT.full, enter0, setAll, forget, Fr.set, Fr.get, PT.get, PT.set, kof, ai, ev, ev1, evp, b_add, b_sub, b_mul, b_quo, b_rem, b_eql, b_neq, b_lss, b_leq, b_gtr, b_geq, b_seql, b_sneq, setD, resV, resL, res1, args, List.take_zero, List.drop_zero, List.take_nil, List.take_succ_cons, List.drop_succ_cons, Nat.reduceAdd, Nat.reduceLeDiff, reduceIte, Bool.not_true, Bool.not_false, Bool.false_eq_true, CA_some, Option.some.injEq, Nat.zero_add, Nat.mul_one, Nat.add_zero, setL, List.set_cons_zero, List.set_cons_succ, fillC]
/-- laws.eqHead -/
def c28 : AF := ⟨2, 6, [.tmp 4], (.seq (.ops [.i (.lbox 2 (.s 0)), .i (.lbox 3 (.s 1)), .i (.mov 4 (.c (.val false [.bool false])))]) (.seq (.seq (.ops [.i (.fad 5 (.s 2) 0), .i (.ldl 6 2 (.s 5) 1 false), .i (.fad 7 (.s 3) 0), .i (.ldl 8 3 (.s 7) 1 false), .i (.bin 9 .neq (.s 6) (.s 8))]) (.cond (.s 9) (.seq (.ops [.i (.mov 4 (.c (.val false [.bool false])))]) .ret) .skip)) (.seq (.seq (.ops [.i (.fad 10 (.s 2) 1), .i (.ldl 11 2 (.s 10) 1 false), .i (.fad 12 (.s 3) 1), .i (.ldl 13 3 (.s 12) 1 false), .i (.bin 14 .neq (.s 11) (.s 13))]) (.cond (.s 14) (.seq (.ops [.i (.mov 4 (.c (.val false [.bool false])))]) .ret) .skip)) (.seq (.seq (.ops [.i (.fad 15 (.s 2) 2), .i (.ldl 16 2 (.s 15) 1 false), .i (.fad 17 (.s 3) 2), .i (.ldl 18 3 (.s 17) 1 false), .i (.bin 19 .neq (.s 16) (.s 18))]) (.cond (.s 19) (.seq (.ops [.i (.mov 4 (.c (.val false [.bool false])))]) .ret) .skip)) (.seq (.seq (.ops [.i (.fad 20 (.s 2) 3), .i (.ldl 21 2 (.s 20) 1 false), .i (.fad 22 (.s 3) 3), .i (.ldl 23 3 (.s 22) 1 false), .i (.call 25 50 false [(.s 21), (.s 23)]), .i (.not 25 (.s 24))]) (.cond (.s 25) (.seq (.ops [.i (.mov 4 (.c (.val false [.bool false])))]) .ret) .skip)) (.seq (.seq (.ops [.i (.fad 26 (.s 2) 4), .i (.ldl 27 2 (.s 26) 1 false), .i (.fad 28 (.s 3) 4), .i (.ldl 29 3 (.s 28) 1 false), .i (.call 31 50 false [(.s 27), (.s 29)]), .i (.not 31 (.s 30))]) (.cond (.s 31) (.seq (.ops [.i (.mov 4 (.c (.val false [.bool false])))]) .ret) .skip)) (.seq (.seq (.ops [.i (.fad 32 (.s 2) 5), .i (.ldl 33 2 (.s 32) 5 true), .i (.fad 34 (.s 3) 5), .i (.ldl 35 3 (.s 34) 5 true), .i (.call 37 69 false [(.s 33), (.s 35)]), .i (.not 37 (.s 36))]) (.cond (.s 37) (.seq (.ops [.i (.mov 4 (.c (.val false [.bool false])))]) .ret) .skip)) (.seq (.ops [.i (.mov 4 (.c (.val false [.bool true])))]) .ret))))))))⟩
theorem k28 : cd 28 = some c28 := by kernel_rfl
theorem eq_Head : EqOk cd 28 THead := by
  intro h ca cb va vb Sa Sb ha hb
  obtain ⟨avs, rfl, aq0⟩ := ha.st
  obtain ⟨av0, ar0, aS0, aT0, rfl, rfl, ah0, aq1⟩ := aq0.step
  obtain ⟨an0, ae0, rfl, rfl, alo0, ahi0⟩ := ah0.int
  obtain ⟨av1, ar1, aS1, aT1, rfl, rfl, ah1, aq2⟩ := aq1.step
  obtain ⟨an1, ae1, rfl, rfl, alo1, ahi1⟩ := ah1.int
  obtain ⟨av2, ar2, aS2, aT2, rfl, rfl, ah2, aq3⟩ := aq2.step
  obtain ⟨an2, ae2, rfl, rfl, alo2, ahi2⟩ := ah2.int
  obtain ⟨av3, ar3, aS3, aT3, rfl, rfl, ah3, aq4⟩ := aq3.step
  obtain ⟨ac3, ae3⟩ := ah3.one rfl
  rw [ae3] at ah3
  obtain ⟨av4, ar4, aS4, aT4, rfl, rfl, ah4, aq5⟩ := aq4.step
  obtain ⟨ac4, ae4⟩ := ah4.one rfl
  rw [ae4] at ah4
  obtain ⟨av5, ar5, aS5, aT5, rfl, rfl, ah5, aq6⟩ := aq5.step
  obtain ⟨_, rfl, rfl⟩ := aq6
  have ahsz : ca.length = 10 := ha.size
  obtain ⟨bvs, rfl, bq0⟩ := hb.st
  obtain ⟨bv0, br0, bS0, bT0, rfl, rfl, bh0, bq1⟩ := bq0.step
  obtain ⟨bn0, be0, rfl, rfl, blo0, bhi0⟩ := bh0.int
  obtain ⟨bv1, br1, bS1, bT1, rfl, rfl, bh1, bq2⟩ := bq1.step
  obtain ⟨bn1, be1, rfl, rfl, blo1, bhi1⟩ := bh1.int
  obtain ⟨bv2, br2, bS2, bT2, rfl, rfl, bh2, bq3⟩ := bq2.step
  obtain ⟨bn2, be2, rfl, rfl, blo2, bhi2⟩ := bh2.int
  obtain ⟨bv3, br3, bS3, bT3, rfl, rfl, bh3, bq4⟩ := bq3.step
  obtain ⟨bc3, be3⟩ := bh3.one rfl
  rw [be3] at bh3
  obtain ⟨bv4, br4, bS4, bT4, rfl, rfl, bh4, bq5⟩ := bq4.step
  obtain ⟨bc4, be4⟩ := bh4.one rfl
  rw [be4] at bh4
  obtain ⟨bv5, br5, bS5, bT5, rfl, rfl, bh5, bq6⟩ := bq5.step
  obtain ⟨_, rfl, rfl⟩ := bq6
  have bhsz : cb.length = 10 := hb.size
  simp only [Ty.size, Ty.sizes, Nat.reduceAdd, Nat.zero_add, List.drop_zero] at ae0 ae1 ae2 ae3 ae4 ahsz be0 be1 be2 be3 be4 bhsz ah5 bh5
  refine WS_enter k28 rfl ?_
  simp (disch := omega) only [KC_eq, c28, ae0, ae1, ae2, ae3, ae4, ahsz, be0, be1, be2, be3, be4, bhsz, ifT, w64, RR, RP, Ty.agg, Ty.size, Ty.sizes, eq_self, ne_eq, not_true, not_false_iff, reduceCtorEq, List.length_cons, List.length_nil, decide_true, decide_false, true_and, and_true, ite_true, ite_false, PT.full, enter0, setAll, forget, Fr.set, Fr.get, PT.get, PT.set, kof, ai, ev, ev1, evp, b_add, b_sub, b_mul, b_quo, b_rem, b_eql, b_neq, b_lss, b_leq, b_gtr, b_geq, b_seql, b_sneq, setD, resV, resL, res1, args, List.take_zero, List.drop_zero, List.take_nil, List.take_succ_cons, List.drop_succ_cons, Nat.reduceAdd, Nat.reduceLeDiff, reduceIte, Bool.not_true, Bool.not_false, Bool.false_eq_true, CA_some, Option.some.injEq, Nat.zero_add, Nat.mul_one, Nat.add_zero, setL, List.set_cons_zero, List.set_cons_succ, fillC]
  refine BR_dec (fun hn => ?_) (fun hn => ?_)
  case refine_1 =>
    simp (disch := omega) only [KC_eq, c28, ae0, ae1, ae2, ae3, ae4, ahsz, be0, be1, be2, be3, be4, bhsz, ifT, w64, RR, RP, Ty.agg, Ty.size, Ty.sizes, eq_self, ne_eq, not_true, not_false_iff, reduceCtorEq, List.length_cons, List.length_nil, decide_true, decide_false, true_and, and_true, ite_true, ite_false, PT.full, enter0, setAll, forget, Fr.set, Fr.get, PT.get, PT.set, kof, ai, ev, ev1, evp, b_add, b_sub, b_mul, b_quo, b_rem, b_eql, b_neq, b_lss, b_leq, b_gtr, b_geq, b_seql, b_sneq, setD, resV, resL, res1, args, List.take_zero, List.drop_zero, List.take_nil, List.take_succ_cons, List.drop_succ_cons, Nat.reduceAdd, Nat.reduceLeDiff, reduceIte, Bool.not_true, Bool.not_false, Bool.false_eq_true, CA_some, Option.some.injEq, Nat.zero_add, Nat.mul_one, Nat.add_zero, setL, List.set_cons_zero, List.set_cons_succ, fillC]
    simp [hn]
  have d0 : an0 = bn0 := by omega
  subst d0
  simp (disch := omega) only [KC_eq, c28, ae0, ae1, ae2, ae3, ae4, ahsz, be0, be1, be2, be3, be4, bhsz, ifT, w64, RR, RP, Ty.agg, Ty.size, Ty.sizes, eq_self, ne_eq, not_true, not_false_iff, reduceCtorEq, List.length_cons, List.length_nil, decide_true, decide_false, true_and, and_true, ite_true, ite_false, PT.full, enter0, setAll, forget, Fr.set, Fr.get, PT.get, PT.set, kof, ai, ev, ev1, evp, b_add, b_sub, b_mul, b_quo, b_rem, b_eql, b_neq, b_lss, b_leq, b_gtr, b_geq, b_seql, b_sneq, setD, resV, resL, res1, args, List.take_zero, List.drop_zero, List.take_nil, List.take_succ_cons, List.drop_succ_cons, Nat.reduceAdd, Nat.reduceLeDiff, reduceIte, Bool.not_true, Bool.not_false, Bool.false_eq_true, CA_some, Option.some.injEq, Nat.zero_add, Nat.mul_one, Nat.add_zero, setL, List.set_cons_zero, List.set_cons_succ, fillC]
  refine BR_dec (fun hn => ?_) (fun hn => ?_)
  case refine_1 =>
    simp (disch := omega) only [KC_eq, c28, ae0, ae1, ae2, ae3, ae4, ahsz, be0, be1, be2, be3, be4, bhsz, ifT, w64, RR, RP, Ty.agg, Ty.size, Ty.sizes, eq_self, ne_eq, not_true, not_false_iff, reduceCtorEq, List.length_cons, List.length_nil, decide_true, decide_false, true_and, and_true, ite_true, ite_false, PT.full, enter0, setAll, forget, Fr.set, Fr.get, PT.get, PT.set, kof, ai, ev, ev1, evp, b_add, b_sub, b_mul, b_quo, b_rem, b_eql, b_neq, b_lss, b_leq, b_gtr, b_geq, b_seql, b_sneq, setD, resV, resL, res1, args, List.take_zero, List.drop_zero, List.take_nil, List.take_succ_cons, List.drop_succ_cons, Nat.reduceAdd, Nat.reduceLeDiff, reduceIte, Bool.not_true, Bool.not_false, Bool.false_eq_true, CA_some, Option.some.injEq, Nat.zero_add, Nat.mul_one, Nat.add_zero, setL, List.set_cons_zero, List.set_cons_succ, fillC]
    simp [hn]
  have d1 : an1 = bn1 := by omega
  subst d1
  simp (disch := omega) only [KC_eq, c28, ae0, ae1, ae2, ae3, ae4, ahsz, be0, be1, be2, be3, be4, bhsz, ifT, w64, RR, RP, Ty.agg, Ty.size, Ty.sizes, eq_self, ne_eq, not_true, not_false_iff, reduceCtorEq, List.length_cons, List.length_nil, decide_true, decide_false, true_and, and_true, ite_true, ite_false, PT.full, enter0, setAll, forget, Fr.set, Fr.get, PT.get, PT.set, kof, ai, ev, ev1, evp, b_add, b_sub, b_mul, b_quo, b_rem, b_eql, b_neq, b_lss, b_leq, b_gtr, b_geq, b_seql, b_sneq, setD, resV, resL, res1, args, List.take_zero, List.drop_zero, List.take_nil, List.take_succ_cons, List.drop_succ_cons, Nat.reduceAdd, Nat.reduceLeDiff, reduceIte, Bool.not_true, Bool.not_false, Bool.false_eq_true, CA_some, Option.some.injEq, Nat.zero_add, Nat.mul_one, Nat.add_zero, setL, List.set_cons_zero, List.set_cons_succ, fillC]
  refine BR_dec (fun hn => ?_) (fun hn => ?_)
  case refine_1 =>
    simp (disch := omega) only [KC_eq, c28, ae0, ae1, ae2, ae3, ae4, ahsz, be0, be1, be2, be3, be4, bhsz, ifT, w64, RR, RP, Ty.agg, Ty.size, Ty.sizes, eq_self, ne_eq, not_true, not_false_iff, reduceCtorEq, List.length_cons, List.length_nil, decide_true, decide_false, true_and, and_true, ite_true, ite_false, PT.full, enter0, setAll, forget, Fr.set, Fr.get, PT.get, PT.set, kof, ai, ev, ev1, evp, b_add, b_sub, b_mul, b_quo, b_rem, b_eql, b_neq, b_lss, b_leq, b_gtr, b_geq, b_seql, b_sneq, setD, resV, resL, res1, args, List.take_zero, List.drop_zero, List.take_nil, List.take_succ_cons, List.drop_succ_cons, Nat.reduceAdd, Nat.reduceLeDiff, reduceIte, Bool.not_true, Bool.not_false, Bool.false_eq_true, CA_some, Option.some.injEq, Nat.zero_add, Nat.mul_one, Nat.add_zero, setL, List.set_cons_zero, List.set_cons_succ, fillC]
    simp [hn]
  have d2 : an2 = bn2 := by omega
  subst d2
  simp (disch := omega) only [KC_eq, c28, ae0, ae1, ae2, ae3, ae4, ahsz, be0, be1, be2, be3, be4, bhsz, ifT, w64, RR, RP, Ty.agg, Ty.size, Ty.sizes, eq_self, ne_eq, not_true, not_false_iff, reduceCtorEq, List.length_cons, List.length_nil, decide_true, decide_false, true_and, and_true, ite_true, ite_false, PT.full, enter0, setAll, forget, Fr.set, Fr.get, PT.get, PT.set, kof, ai, ev, ev1, evp, b_add, b_sub, b_mul, b_quo, b_rem, b_eql, b_neq, b_lss, b_leq, b_gtr, b_geq, b_seql, b_sneq, setD, resV, resL, res1, args, List.take_zero, List.drop_zero, List.take_nil, List.take_succ_cons, List.drop_succ_cons, Nat.reduceAdd, Nat.reduceLeDiff, reduceIte, Bool.not_true, Bool.not_false, Bool.false_eq_true, CA_some, Option.some.injEq, Nat.zero_add, Nat.mul_one, Nat.add_zero, setL, List.set_cons_zero, List.set_cons_succ, fillC]
  refine EqOk.go eq_ByteS ah3 bh3 (fun d3 => ?_) (fun d3 => ?_)
  case refine_2 =>
    simp (disch := omega) only [KC_eq, c28, ae0, ae1, ae2, ae3, ae4, ahsz, be0, be1, be2, be3, be4, bhsz, ifT, w64, RR, RP, Ty.agg, Ty.size, Ty.sizes, eq_self, ne_eq, not_true, not_false_iff, reduceCtorEq, List.length_cons, List.length_nil, decide_true, decide_false, true_and, and_true, ite_true, ite_false, PT.full, enter0, setAll, forget, Fr.set, Fr.get, PT.get, PT.set, kof, ai, ev, ev1, evp, b_add, b_sub, b_mul, b_quo, b_rem, b_eql, b_neq, b_lss, b_leq, b_gtr, b_geq, b_seql, b_sneq, setD, resV, resL, res1, args, List.take_zero, List.drop_zero, List.take_nil, List.take_succ_cons, List.drop_succ_cons, Nat.reduceAdd, Nat.reduceLeDiff, reduceIte, Bool.not_true, Bool.not_false, Bool.false_eq_true, CA_some, Option.some.injEq, Nat.zero_add, Nat.mul_one, Nat.add_zero, setL, List.set_cons_zero, List.set_cons_succ, fillC]
    simp [d3]
  subst d3
  simp (disch := omega) only [KC_eq, c28, ae0, ae1, ae2, ae3, ae4, ahsz, be0, be1, be2, be3, be4, bhsz, ifT, w64, RR, RP, Ty.agg, Ty.size, Ty.sizes, eq_self, ne_eq, not_true, not_false_iff, reduceCtorEq, List.length_cons, List.length_nil, decide_true, decide_false, true_and, and_true, ite_true, ite_false, PT.full, enter0, setAll, forget, Fr.set, Fr.get, PT.get, PT.set, kof, ai, ev, ev1, evp, b_add, b_sub, b_mul, b_quo, b_rem, b_eql, b_neq, b_lss, b_leq, b_gtr, b_geq, b_seql, b_sneq, setD, resV, resL, res1, args, List.take_zero, List.drop_zero, List.take_nil, List.take_succ_cons, List.drop_succ_cons, Nat.reduceAdd, Nat.reduceLeDiff, reduceIte, Bool.not_true, Bool.not_false, Bool.false_eq_true, CA_some, Option.some.injEq, Nat.zero_add, Nat.mul_one, Nat.add_zero, setL, List.set_cons_zero, List.set_cons_succ, fillC]
  refine EqOk.go eq_ByteS ah4 bh4 (fun d4 => ?_) (fun d4 => ?_)
  case refine_2 =>
    simp (disch := omega) only [KC_eq, c28, ae0, ae1, ae2, ae3, ae4, ahsz, be0, be1, be2, be3, be4, bhsz, ifT, w64, RR, RP, Ty.agg, Ty.size, Ty.sizes, eq_self, ne_eq, not_true, not_false_iff, reduceCtorEq, List.length_cons, List.length_nil, decide_true, decide_false, true_and, and_true, ite_true, ite_false, PT.full, enter0, setAll, forget, Fr.set, Fr.get, PT.get, PT.set, kof, ai, ev, ev1, evp, b_add, b_sub, b_mul, b_quo, b_rem, b_eql, b_neq, b_lss, b_leq, b_gtr, b_geq, b_seql, b_sneq, setD, resV, resL, res1, args, List.take_zero, List.drop_zero, List.take_nil, List.take_succ_cons, List.drop_succ_cons, Nat.reduceAdd, Nat.reduceLeDiff, reduceIte, Bool.not_true, Bool.not_false, Bool.false_eq_true, CA_some, Option.some.injEq, Nat.zero_add, Nat.mul_one, Nat.add_zero, setL, List.set_cons_zero, List.set_cons_succ, fillC]
    simp [d4]
  subst d4
  simp (disch := omega) only [KC_eq, c28, ae0, ae1, ae2, ae3, ae4, ahsz, be0, be1, be2, be3, be4, bhsz, ifT, w64, RR, RP, Ty.agg, Ty.size, Ty.sizes, eq_self, ne_eq, not_true, not_false_iff, reduceCtorEq, List.length_cons, List.length_nil, decide_true, decide_false, true_and, and_true, ite_true, ite_false, PT.full, enter0, setAll, forget, Fr.set, Fr.get, PT.get, PT.set, kof, ai, ev, ev1, evp, b_add, b_sub, b_mul, b_quo, b_rem, b_eql, b_neq, b_lss, b_leq, b_gtr, b_geq, b_seql, b_sneq, setD, resV, resL, res1, args, List.take_zero, List.drop_zero, List.take_nil, List.take_succ_cons, List.drop_succ_cons, Nat.reduceAdd, Nat.reduceLeDiff, reduceIte, Bool.not_true, Bool.not_false, Bool.false_eq_true, CA_some, Option.some.injEq, Nat.zero_add, Nat.mul_one, Nat.add_zero, setL, List.set_cons_zero, List.set_cons_succ, fillC]
  refine EqOk.go eq_Qc ah5 bh5 (fun d5 => ?_) (fun d5 => ?_)
  case refine_2 =>
    simp (disch := omega) only [KC_eq, c28, ae0, ae1, ae2, ae3, ae4, ahsz, be0, be1, be2, be3, be4, bhsz, ifT, w64, RR, RP, Ty.agg, Ty.size, Ty.sizes, eq_self, ne_eq, not_true, not_false_iff, reduceCtorEq, List.length_cons, List.length_nil, decide_true, decide_false, true_and, and_true, ite_true, ite_false, PT.full, enter0, setAll, forget, Fr.set, Fr.get, PT.get, PT.set, kof, ai, ev, ev1, evp, b_add, b_sub, b_mul, b_quo, b_rem, b_eql, b_neq, b_lss, b_leq, b_gtr, b_geq, b_seql, b_sneq, setD, resV, resL, res1, args, List.take_zero, List.drop_zero, List.take_nil, List.take_succ_cons, List.drop_succ_cons, Nat.reduceAdd, Nat.reduceLeDiff, reduceIte, Bool.not_true, Bool.not_false, Bool.false_eq_true, CA_some, Option.some.injEq, Nat.zero_add, Nat.mul_one, Nat.add_zero, setL, List.set_cons_zero, List.set_cons_succ, fillC]
    simp [d5]
  subst d5
  simp (disch := omega) only [KC_eq, c28, ae0, ae1, ae2, ae3, ae4, ahsz, be0, be1, be2, be3, be4, bhsz, ifT, w64, RR, RP, Ty.agg, Ty.size, Ty.sizes, eq_self, ne_eq, not_true, not_false_iff, reduceCtorEq, List.length_cons, List.length_nil, decide_true, decide_false, true_and, and_true, ite_true, ite_false, PT.full, enter0, setAll, forget, Fr.set, Fr.get, PT.get, PT.set, kof, ai, ev, ev1, evp, b_add, b_sub, b_mul, b_quo, b_rem, b_eql, b_neq, b_lss, b_leq, b_gtr, b_geq, b_seql, b_sneq, setD, resV, resL, res1, args, List.take_zero, List.drop_zero, List.take_nil, List.take_succ_cons, List.drop_succ_cons, Nat.reduceAdd, Nat.reduceLeDiff, reduceIte, Bool.not_true, Bool.not_false, Bool.false_eq_true, CA_some, Option.some.injEq, Nat.zero_add, Nat.mul_one, Nat.add_zero, setL, List.set_cons_zero, List.set_cons_succ, fillC]
/-- laws.eqBlock -/
def c17 : AF := ⟨2, 5, [.tmp 4], (.seq (.ops [.i (.lbox 2 (.s 0)), .i (.lbox 3 (.s 1)), .i (.mov 4 (.c (.val false [.bool false])))]) (.seq (.seq (.ops [.i (.fad 5 (.s 2) 0), .i (.ldl 6 2 (.s 5) 10 true), .i (.fad 7 (.s 3) 0), .i (.ldl 8 3 (.s 7) 10 true), .i (.call 10 28 false [(.s 6), (.s 8)]), .i (.not 10 (.s 9))]) (.cond (.s 10) (.seq (.ops [.i (.mov 4 (.c (.val false [.bool false])))]) .ret) .skip)) (.seq (.seq (.ops [.i (.fad 11 (.s 2) 10), .i (.ldl 12 2 (.s 11) 1 false), .i (.fad 13 (.s 3) 10), .i (.ldl 14 3 (.s 13) 1 false), .i (.call 16 29 false [(.s 12), (.s 14)]), .i (.not 16 (.s 15))]) (.cond (.s 16) (.seq (.ops [.i (.mov 4 (.c (.val false [.bool false])))]) .ret) .skip)) (.seq (.ops [.i (.mov 4 (.c (.val false [.bool true])))]) .ret))))⟩
theorem k17 : cd 17 = some c17 := by kernel_rfl
theorem eq_Block : EqOk cd 17 TBlock := by
  intro h ca cb va vb Sa Sb ha hb
  obtain ⟨avs, rfl, aq0⟩ := ha.st
  obtain ⟨av0, ar0, aS0, aT0, rfl, rfl, ah0, aq1⟩ := aq0.step
  obtain ⟨av1, ar1, aS1, aT1, rfl, rfl, ah1, aq2⟩ := aq1.step
  obtain ⟨ac1, ae1⟩ := ah1.one rfl
  rw [ae1] at ah1
  obtain ⟨_, rfl, rfl⟩ := aq2
  have ahsz : ca.length = 11 := ha.size
  obtain ⟨bvs, rfl, bq0⟩ := hb.st
  obtain ⟨bv0, br0, bS0, bT0, rfl, rfl, bh0, bq1⟩ := bq0.step
  obtain ⟨bv1, br1, bS1, bT1, rfl, rfl, bh1, bq2⟩ := bq1.step
  obtain ⟨bc1, be1⟩ := bh1.one rfl
  rw [be1] at bh1
  obtain ⟨_, rfl, rfl⟩ := bq2
  have bhsz : cb.length = 11 := hb.size
  simp only [Ty.size, Ty.sizes, Nat.reduceAdd, Nat.zero_add, List.drop_zero] at ae1 ahsz be1 bhsz ah0 bh0
  refine WS_enter k17 rfl ?_
  simp (disch := omega) only [KC_eq, c17, ae1, ahsz, be1, bhsz, ifT, w64, RR, RP, Ty.agg, Ty.size, Ty.sizes, eq_self, ne_eq, not_true, not_false_iff, reduceCtorEq, List.length_cons, List.length_nil, decide_true, decide_false, true_and, and_true, ite_true, ite_false, PT.full, enter0, setAll, forget, Fr.set, Fr.get, PT.get, PT.set, kof, ai, ev, ev1, evp, b_add, b_sub, b_mul, b_quo, b_rem, b_eql, b_neq, b_lss, b_leq, b_gtr, b_geq, b_seql, b_sneq, setD, resV, resL, res1, args, List.take_zero, List.drop_zero, List.take_nil, List.take_succ_cons, List.drop_succ_cons, Nat.reduceAdd, Nat.reduceLeDiff, reduceIte, Bool.not_true, Bool.not_false, Bool.false_eq_true, CA_some, Option.some.injEq, Nat.zero_add, Nat.mul_one, Nat.add_zero, setL, List.set_cons_zero, List.set_cons_succ, fillC]
  refine EqOk.go eq_Head ah0 bh0 (fun d0 => ?_) (fun d0 => ?_)
  case refine_2 =>
    simp (disch := omega) only [KC_eq, c17, ae1, ahsz, be1, bhsz, ifT, w64, RR, RP, Ty.agg, Ty.size, Ty.sizes, eq_self, ne_eq, not_true, not_false_iff, reduceCtorEq, List.length_cons, List.length_nil, decide_true, decide_false, true_and, and_true, ite_true, ite_false, PT.full, enter0, setAll, forget, Fr.set, Fr.get, PT.get, PT.set, kof, ai, ev, ev1, evp, b_add, b_sub, b_mul, b_quo, b_rem, b_eql, b_neq, b_lss, b_leq, b_gtr, b_geq, b_seql, b_sneq, setD, resV, resL, res1, args, List.take_zero, List.drop_zero, List.take_nil, List.take_succ_cons, List.drop_succ_cons, Nat.reduceAdd, Nat.reduceLeDiff, reduceIte, Bool.not_true, Bool.not_false, Bool.false_eq_true, CA_some, Option.some.injEq, Nat.zero_add, Nat.mul_one, Nat.add_zero, setL, List.set_cons_zero, List.set_cons_succ, fillC]
    simp [d0]
  subst d0
  simp (disch := omega) only [KC_eq, c17, ae1, ahsz, be1, bhsz, ifT, w64, RR, RP, Ty.agg, Ty.size, Ty.sizes, eq_self, ne_eq, not_true, not_false_iff, reduceCtorEq, List.length_cons, List.length_nil, decide_true, decide_false, true_and, and_true, ite_true, ite_false, PT.full, enter0, setAll, forget, Fr.set, Fr.get, PT.get, PT.set, kof, ai, ev, ev1, evp, b_add, b_sub, b_mul, b_quo, b_rem, b_eql, b_neq, b_lss, b_leq, b_gtr, b_geq, b_seql, b_sneq, setD, resV, resL, res1, args, List.take_zero, List.drop_zero, List.take_nil, List.take_succ_cons, List.drop_succ_cons, Nat.reduceAdd, Nat.reduceLeDiff, reduceIte, Bool.not_true, Bool.not_false, Bool.false_eq_true, CA_some, Option.some.injEq, Nat.zero_add, Nat.mul_one, Nat.add_zero, setL, List.set_cons_zero, List.set_cons_succ, fillC]
  refine EqOk.go eq_ByteSS ah1 bh1 (fun d1 => ?_) (fun d1 => ?_)
  case refine_2 =>
    simp (disch := omega) only [KC_eq, c17, ae1, ahsz, be1, bhsz, ifT, w64, RR, RP, Ty.agg, Ty.size, Ty.sizes, eq_self, ne_eq, not_true, not_false_iff, reduceCtorEq, List.length_cons, List.length_nil, decide_true, decide_false, true_and, and_true, ite_true, ite_false, PT.full, enter0, setAll, forget, Fr.set, Fr.get, PT.get, PT.set, kof, ai, ev, ev1, evp, b_add, b_sub, b_mul, b_quo, b_rem, b_eql, b_neq, b_lss, b_leq, b_gtr, b_geq, b_seql, b_sneq, setD, resV, resL, res1, args, List.take_zero, List.drop_zero, List.take_nil, List.take_succ_cons, List.drop_succ_cons, Nat.reduceAdd, Nat.reduceLeDiff, reduceIte, Bool.not_true, Bool.not_false, Bool.false_eq_true, CA_some, Option.some.injEq, Nat.zero_add, Nat.mul_one, Nat.add_zero, setL, List.set_cons_zero, List.set_cons_succ, fillC]
    simp [d1]
  subst d1
  simp (disch := omega) only [KC_eq, c17, ae1, ahsz, be1, bhsz, ifT, w64, RR, RP, Ty.agg, Ty.size, Ty.sizes, eq_self, ne_eq, not_true, not_false_iff, reduceCtorEq, List.length_cons, List.length_nil, decide_true, decide_false, true_and, and_true, ite_true, ite_false, PT.full, enter0, setAll, forget, Fr.set, Fr.get, PT.get, PT.set, kof, ai, ev, ev1, evp, b_add, b_sub, b_mul, b_quo, b_rem, b_eql, b_neq, b_lss, b_leq, b_gtr, b_geq, b_seql, b_sneq, setD, resV, resL, res1, args, List.take_zero, List.drop_zero, List.take_nil, List.take_succ_cons, List.drop_succ_cons, Nat.reduceAdd, Nat.reduceLeDiff, reduceIte, Bool.not_true, Bool.not_false, Bool.false_eq_true, CA_some, Option.some.injEq, Nat.zero_add, Nat.mul_one, Nat.add_zero, setL, List.set_cons_zero, List.set_cons_succ, fillC]
/-- laws.markByteS -/
def c56 : AF := ⟨2, 5, [.tmp 4], (.seq (.ops [.i (.mov 4 (.c (.val false [.int .i64 0])))]) (.seq (.seq (.ops [.i (.mov 5 (.c (.val false [.int .i64 0])))]) (.block 0 (.loop [18, 17, 16, 15, 14, 13, 12, 11, 10, 9, 8, 7, 6] (.seq (.seq (.ops [.i (.mov 6 (.s 5)), .i (.mov 7 (.s 0)), .i (.len 8 false (.s 7)), .i (.bin 9 .lss (.s 6) (.s 8))]) (.cond (.s 9) .skip (.exit 0))) (.seq (.block 1 (.seq (.ops [.i (.mov 12 (.s 0)), .i (.mov 13 (.s 5)), .i (.mov 14 (.s 1)), .i (.cvi 15 .u8 (.s 14)), .i (.iad 16 (.s 12) (.s 13) 1), .i (.sth (.s 16) (.s 15) 1)]) (.ops [.i (.mov 17 (.s 1)), .i (.bin 18 .add (.s 17) (.c (.val false [.int .i64 1]))), .i (.mov 1 (.s 18))]))) (.ops [.i (.mov 10 (.s 5)), .i (.bin 11 .add (.s 10) (.c (.val false [.int .i64 1]))), .i (.mov 5 (.s 11))])))))) (.seq (.ops [.i (.mov 19 (.s 1)), .i (.mov 4 (.s 19))]) .ret)))⟩
theorem k56 : cd 56 = some c56 := by kernel_rfl
theorem mk_ByteS : MkOk cd 56 (.sl (.int .u8)) := mk_leaf k56
/-- laws.markByteSS -/
def c31 : AF := ⟨2, 5, [.tmp 4], (.seq (.ops [.i (.mov 4 (.c (.val false [.int .i64 0])))]) (.seq (.seq (.ops [.i (.mov 5 (.c (.val false [.int .i64 0])))]) (.block 0 (.loop [17, 16, 15, 14, 13, 12, 11, 10, 9, 8, 7, 6] (.seq (.seq (.ops [.i (.mov 6 (.s 5)), .i (.mov 7 (.s 0)), .i (.len 8 false (.s 7)), .i (.bin 9 .lss (.s 6) (.s 8))]) (.cond (.s 9) .skip (.exit 0))) (.seq (.block 1 (.ops [.i (.mov 12 (.s 0)), .i (.mov 13 (.s 5)), .i (.iad 14 (.s 12) (.s 13) 1), .i (.ldh 15 (.s 14) 1 false), .i (.mov 16 (.s 1)), .i (.call 18 56 false [(.s 15), (.s 16)]), .i (.mov 1 (.s 17))])) (.ops [.i (.mov 10 (.s 5)), .i (.bin 11 .add (.s 10) (.c (.val false [.int .i64 1]))), .i (.mov 5 (.s 11))])))))) (.seq (.ops [.i (.mov 18 (.s 1)), .i (.mov 4 (.s 18))]) .ret)))⟩
theorem k31 : cd 31 = some c31 := by kernel_rfl
theorem mk_ByteSS : MkOk cd 31 (.sl (.sl (.int .u8))) := mk_sl k31 mk_ByteS
/-- laws.markQc -/
def c73 : AF := ⟨2, 5, [.tmp 4], (.seq (.ops [.i (.lbox 2 (.s 0)), .i (.mov 4 (.c (.val false [.int .i64 0])))]) (.seq (.ops [.i (.fad 5 (.s 2) 2), .i (.ldl 6 2 (.s 5) 1 false), .i (.mov 7 (.s 1)), .i (.call 9 56 false [(.s 6), (.s 7)]), .i (.mov 1 (.s 8))]) (.seq (.ops [.i (.fad 9 (.s 2) 3), .i (.ldl 10 2 (.s 9) 1 false), .i (.mov 11 (.s 1)), .i (.call 13 56 false [(.s 10), (.s 11)]), .i (.mov 1 (.s 12))]) (.seq (.ops [.i (.fad 13 (.s 2) 4), .i (.ldl 14 2 (.s 13) 1 false), .i (.mov 15 (.s 1)), .i (.call 17 31 false [(.s 14), (.s 15)]), .i (.mov 1 (.s 16))]) (.seq (.ops [.i (.mov 17 (.s 1)), .i (.mov 4 (.s 17))]) .ret)))))⟩
theorem k73 : cd 73 = some c73 := by kernel_rfl
theorem mk_Qc : MkOk cd 73 TQc := by
  intro h cs v S k hv ho hk
  obtain ⟨vs, rfl, q0⟩ := hv.st
  obtain ⟨v0, r0, S0, T0, rfl, rfl, h0, q1⟩ := q0.step
  obtain ⟨n0, e0, rfl, rfl, lo0, hi0⟩ := h0.int
  obtain ⟨v1, r1, S1, T1, rfl, rfl, h1, q2⟩ := q1.step
  obtain ⟨n1, e1, rfl, rfl, lo1, hi1⟩ := h1.int
  obtain ⟨v2, r2, S2, T2, rfl, rfl, h2, q3⟩ := q2.step
  obtain ⟨c2, e2⟩ := h2.one rfl
  rw [e2] at h2
  obtain ⟨v3, r3, S3, T3, rfl, rfl, h3, q4⟩ := q3.step
  obtain ⟨c3, e3⟩ := h3.one rfl
  rw [e3] at h3
  obtain ⟨v4, r4, S4, T4, rfl, rfl, h4, q5⟩ := q4.step
  obtain ⟨c4, e4⟩ := h4.one rfl
  rw [e4] at h4
  obtain ⟨_, rfl, rfl⟩ := q5
  have hsz : cs.length = 5 := hv.size
  simp only [Ty.size, Ty.sizes, Nat.reduceAdd, Nat.zero_add, List.drop_zero] at e0 e1 e2 e3 e4 hsz
  have hcn : cnT TQc (.r [.i n0, .i n1, v2, v3, v4]) = (0 + (0 + (cnT (.sl (.int .u8)) v2 + (cnT (.sl (.int .u8)) v3 + (cnT (.sl (.sl (.int .u8))) v4 + 0))))) := rfl
  have hmk : mkT TQc (.r [.i n0, .i n1, v2, v3, v4]) k = .r [.i n0, .i n1, mkT (.sl (.int .u8)) v2 (k), mkT (.sl (.int .u8)) v3 (k + cnT (.sl (.int .u8)) v2), mkT (.sl (.sl (.int .u8))) v4 (k + cnT (.sl (.int .u8)) v2 + cnT (.sl (.int .u8)) v3)] := rfl
  rw [hmk]
  rw [hcn] at hk ⊢
  simp only [List.nil_append, List.append_nil] at ho ⊢
  obtain ⟨o2, ho2, x2, xx2⟩ := ho.split
  obtain ⟨o3, ho3, x3, xx3⟩ := ho2.split
  have o4 := ho3
  refine WS_enter k73 rfl ?_
  simp (disch := omega) only [KC_eq, c73, e0, e1, e2, e3, e4, hsz, ifT, w64, RR, RP, Ty.agg, Ty.size, Ty.sizes, eq_self, ne_eq, not_true, not_false_iff, reduceCtorEq, List.length_cons, List.length_nil, decide_true, decide_false, true_and, and_true, ite_true, ite_false, PT.full, enter0, setAll, forget, Fr.set, Fr.get, PT.get, PT.set, kof, ai, ev, ev1, evp, b_add, b_sub, b_mul, b_quo, b_rem, b_eql, b_neq, b_lss, b_leq, b_gtr, b_geq, b_seql, b_sneq, setD, resV, resL, res1, args, List.take_zero, List.drop_zero, List.take_nil, List.take_succ_cons, List.drop_succ_cons, Nat.reduceAdd, Nat.reduceLeDiff, reduceIte, Bool.not_true, Bool.not_false, Bool.false_eq_true, CA_some, Option.some.injEq, Nat.zero_add, Nat.mul_one, Nat.add_zero, setL, List.set_cons_zero, List.set_cons_succ, fillC]
  refine MkOk.go mk_ByteS h2 o2 (k := k) (by omega) (fun g2 w2 z2 => ?_)
  simp (disch := omega) only [KC_eq, c73, e0, e1, e2, e3, e4, hsz, ifT, w64, RR, RP, Ty.agg, Ty.size, Ty.sizes, eq_self, ne_eq, not_true, not_false_iff, reduceCtorEq, List.length_cons, List.length_nil, decide_true, decide_false, true_and, and_true, ite_true, ite_false, PT.full, enter0, setAll, forget, Fr.set, Fr.get, PT.get, PT.set, kof, ai, ev, ev1, evp, b_add, b_sub, b_mul, b_quo, b_rem, b_eql, b_neq, b_lss, b_leq, b_gtr, b_geq, b_seql, b_sneq, setD, resV, resL, res1, args, List.take_zero, List.drop_zero, List.take_nil, List.take_succ_cons, List.drop_succ_cons, Nat.reduceAdd, Nat.reduceLeDiff, reduceIte, Bool.not_true, Bool.not_false, Bool.false_eq_true, CA_some, Option.some.injEq, Nat.zero_add, Nat.mul_one, Nat.add_zero, setL, List.set_cons_zero, List.set_cons_succ, fillC]
  refine MkOk.go mk_ByteS (h3.wrote w2 (fun i hi => xx2 i (by simp [hi]))) (w2.ownd o3) (k := k + cnT (.sl (.int .u8)) v2) (by omega) (fun g3 w3 z3 => ?_)
  simp (disch := omega) only [KC_eq, c73, e0, e1, e2, e3, e4, hsz, ifT, w64, RR, RP, Ty.agg, Ty.size, Ty.sizes, eq_self, ne_eq, not_true, not_false_iff, reduceCtorEq, List.length_cons, List.length_nil, decide_true, decide_false, true_and, and_true, ite_true, ite_false, PT.full, enter0, setAll, forget, Fr.set, Fr.get, PT.get, PT.set, kof, ai, ev, ev1, evp, b_add, b_sub, b_mul, b_quo, b_rem, b_eql, b_neq, b_lss, b_leq, b_gtr, b_geq, b_seql, b_sneq, setD, resV, resL, res1, args, List.take_zero, List.drop_zero, List.take_nil, List.take_succ_cons, List.drop_succ_cons, Nat.reduceAdd, Nat.reduceLeDiff, reduceIte, Bool.not_true, Bool.not_false, Bool.false_eq_true, CA_some, Option.some.injEq, Nat.zero_add, Nat.mul_one, Nat.add_zero, setL, List.set_cons_zero, List.set_cons_succ, fillC]
  refine MkOk.go mk_ByteSS ((h4.wrote w2 (fun i hi => xx2 i (by simp [hi]))).wrote w3 (fun i hi => xx3 i (by simp [hi]))) (w3.ownd (w2.ownd o4)) (k := k + cnT (.sl (.int .u8)) v2 + cnT (.sl (.int .u8)) v3) (by omega) (fun g4 w4 z4 => ?_)
  simp (disch := omega) only [KC_eq, c73, e0, e1, e2, e3, e4, hsz, ifT, w64, RR, RP, Ty.agg, Ty.size, Ty.sizes, eq_self, ne_eq, not_true, not_false_iff, reduceCtorEq, List.length_cons, List.length_nil, decide_true, decide_false, true_and, and_true, ite_true, ite_false, PT.full, enter0, setAll, forget, Fr.set, Fr.get, PT.get, PT.set, kof, ai, ev, ev1, evp, b_add, b_sub, b_mul, b_quo, b_rem, b_eql, b_neq, b_lss, b_leq, b_gtr, b_geq, b_seql, b_sneq, setD, resV, resL, res1, args, List.take_zero, List.drop_zero, List.take_nil, List.take_succ_cons, List.drop_succ_cons, Nat.reduceAdd, Nat.reduceLeDiff, reduceIte, Bool.not_true, Bool.not_false, Bool.false_eq_true, CA_some, Option.some.injEq, Nat.zero_add, Nat.mul_one, Nat.add_zero, setL, List.set_cons_zero, List.set_cons_succ, fillC]
  have fin : Rs g4 [(.int .i64), (.int .i64), (.sl (.int .u8)), (.sl (.int .u8)), (.sl (.sl (.int .u8)))] (cs.drop 0) [.i n0, .i n1, mkT (.sl (.int .u8)) v2 (k), mkT (.sl (.int .u8)) v3 (k + cnT (.sl (.int .u8)) v2), mkT (.sl (.sl (.int .u8))) v4 (k + cnT (.sl (.int .u8)) v2 + cnT (.sl (.int .u8)) v3)] _ := (Rs.unstep (o := 0) (Rp.int_at e0 lo0 hi0) (Rs.unstep (o := 1) (Rp.int_at e1 lo1 hi1) (Rs.unstep (o := 2) (Rp.cs_at e2 ((z2.wrote w3 (fun i hi hn => x2 i hi (by simp [hn]))).wrote w4 (fun i hi hn => x2 i hi (by simp [hn])))) (Rs.unstep (o := 3) (Rp.cs_at e3 (z3.wrote w4 (fun i hi hn => x3 i hi (by simp [hn])))) (Rs.unstep (o := 4) (Rp.cs_at e4 z4) (Rs.fin (Nat.le_of_eq hsz)))))))
  simp only [List.nil_append, List.append_nil, List.drop_zero] at fin
  have wr := ((((Wrote.refl ho.2).more w2 (fun i hi => by simp [hi])).more w3 (fun i hi => by simp [hi])).more w4 (fun i hi => by simp [hi]))
  first
    | exact ⟨wr, _, rfl, fin⟩
    | (refine ⟨?_, wr, _, rfl, fin⟩
       congr 3
       omega)
/-- laws.markHead -/
def c30 : AF := ⟨2, 5, [.tmp 4], (.seq (.ops [.i (.lbox 2 (.s 0)), .i (.mov 4 (.c (.val false [.int .i64 0])))]) (.seq (.ops [.i (.fad 5 (.s 2) 3), .i (.ldl 6 2 (.s 5) 1 false), .i (.mov 7 (.s 1)), .i (.call 9 56 false [(.s 6), (.s 7)]), .i (.mov 1 (.s 8))]) (.seq (.ops [.i (.fad 9 (.s 2) 4), .i (.ldl 10 2 (.s 9) 1 false), .i (.mov 11 (.s 1)), .i (.call 13 56 false [(.s 10), (.s 11)]), .i (.mov 1 (.s 12))]) (.seq (.ops [.i (.fad 13 (.s 2) 5), .i (.ldl 14 2 (.s 13) 5 true), .i (.mov 15 (.s 1)), .i (.call 17 73 false [(.s 14), (.s 15)]), .i (.mov 1 (.s 16))]) (.seq (.ops [.i (.mov 17 (.s 1)), .i (.mov 4 (.s 17))]) .ret)))))⟩
theorem k30 : cd 30 = some c30 := by kernel_rfl
theorem mk_Head : MkOk cd 30 THead := by
  intro h cs v S k hv ho hk
  obtain ⟨vs, rfl, q0⟩ := hv.st
  obtain ⟨v0, r0, S0, T0, rfl, rfl, h0, q1⟩ := q0.step
  obtain ⟨n0, e0, rfl, rfl, lo0, hi0⟩ := h0.int
  obtain ⟨v1, r1, S1, T1, rfl, rfl, h1, q2⟩ := q1.step
  obtain ⟨n1, e1, rfl, rfl, lo1, hi1⟩ := h1.int
  obtain ⟨v2, r2, S2, T2, rfl, rfl, h2, q3⟩ := q2.step
  obtain ⟨n2, e2, rfl, rfl, lo2, hi2⟩ := h2.int
  obtain ⟨v3, r3, S3, T3, rfl, rfl, h3, q4⟩ := q3.step
  obtain ⟨c3, e3⟩ := h3.one rfl
  rw [e3] at h3
  obtain ⟨v4, r4, S4, T4, rfl, rfl, h4, q5⟩ := q4.step
  obtain ⟨c4, e4⟩ := h4.one rfl
  rw [e4] at h4
  obtain ⟨v5, r5, S5, T5, rfl, rfl, h5, q6⟩ := q5.step
  obtain ⟨_, rfl, rfl⟩ := q6
  have hsz : cs.length = 10 := hv.size
  simp only [Ty.size, Ty.sizes, Nat.reduceAdd, Nat.zero_add, List.drop_zero] at e0 e1 e2 e3 e4 hsz h5
  have hcn : cnT THead (.r [.i n0, .i n1, .i n2, v3, v4, v5]) = (0 + (0 + (0 + (cnT (.sl (.int .u8)) v3 + (cnT (.sl (.int .u8)) v4 + (cnT TQc v5 + 0)))))) := rfl
  have hmk : mkT THead (.r [.i n0, .i n1, .i n2, v3, v4, v5]) k = .r [.i n0, .i n1, .i n2, mkT (.sl (.int .u8)) v3 (k), mkT (.sl (.int .u8)) v4 (k + cnT (.sl (.int .u8)) v3), mkT TQc v5 (k + cnT (.sl (.int .u8)) v3 + cnT (.sl (.int .u8)) v4)] := rfl
  rw [hmk]
  rw [hcn] at hk ⊢
  simp only [List.nil_append, List.append_nil] at ho ⊢
  obtain ⟨o3, ho3, x3, xx3⟩ := ho.split
  obtain ⟨o4, ho4, x4, xx4⟩ := ho3.split
  have o5 := ho4
  refine WS_enter k30 rfl ?_
  simp (disch := omega) only [KC_eq, c30, e0, e1, e2, e3, e4, hsz, ifT, w64, RR, RP, Ty.agg, Ty.size, Ty.sizes, eq_self, ne_eq, not_true, not_false_iff, reduceCtorEq, List.length_cons, List.length_nil, decide_true, decide_false, true_and, and_true, ite_true, ite_false, PT.full, enter0, setAll, forget, Fr.set, Fr.get, PT.get, PT.set, kof, ai, ev, ev1, evp, b_add, b_sub, b_mul, b_quo, b_rem, b_eql, b_neq, b_lss, b_leq, b_gtr, b_geq, b_seql, b_sneq, setD, resV, resL, res1, args, List.take_zero, List.drop_zero, List.take_nil, List.take_succ_cons, List.drop_succ_cons, Nat.reduceAdd, Nat.reduceLeDiff, reduceIte, Bool.not_true, Bool.not_false, Bool.false_eq_true, CA_some, Option.some.injEq, Nat.zero_add, Nat.mul_one, Nat.add_zero, setL, List.set_cons_zero, List.set_cons_succ, fillC]
  refine MkOk.go mk_ByteS h3 o3 (k := k) (by omega) (fun g3 w3 z3 => ?_)
  simp (disch := omega) only [KC_eq, c30, e0, e1, e2, e3, e4, hsz, ifT, w64, RR, RP, Ty.agg, Ty.size, Ty.sizes, eq_self, ne_eq, not_true, not_false_iff, reduceCtorEq, List.length_cons, List.length_nil, decide_true, decide_false, true_and, and_true, ite_true, ite_false, PT.full, enter0, setAll, forget, Fr.set, Fr.get, PT.get, PT.set, kof, ai, ev, ev1, evp, b_add, b_sub, b_mul, b_quo, b_rem, b_eql, b_neq, b_lss, b_leq, b_gtr, b_geq, b_seql, b_sneq, setD, resV, resL, res1, args, List.take_zero, List.drop_zero, List.take_nil, List.take_succ_cons, List.drop_succ_cons, Nat.reduceAdd, Nat.reduceLeDiff, reduceIte, Bool.not_true, Bool.not_false, Bool.false_eq_true, CA_some, Option.some.injEq, Nat.zero_add, Nat.mul_one, Nat.add_zero, setL, List.set_cons_zero, List.set_cons_succ, fillC]
  refine MkOk.go mk_ByteS (h4.wrote w3 (fun i hi => xx3 i (by simp [hi]))) (w3.ownd o4) (k := k + cnT (.sl (.int .u8)) v3) (by omega) (fun g4 w4 z4 => ?_)
  simp (disch := omega) only [KC_eq, c30, e0, e1, e2, e3, e4, hsz, ifT, w64, RR, RP, Ty.agg, Ty.size, Ty.sizes, eq_self, ne_eq, not_true, not_false_iff, reduceCtorEq, List.length_cons, List.length_nil, decide_true, decide_false, true_and, and_true, ite_true, ite_false, PT.full, enter0, setAll, forget, Fr.set, Fr.get, PT.get, PT.set, kof, ai, ev, ev1, evp, b_add, b_sub, b_mul, b_quo, b_rem, b_eql, b_neq, b_lss, b_leq, b_gtr, b_geq, b_seql, b_sneq, setD, resV, resL, res1, args, List.take_zero, List.drop_zero, List.take_nil, List.take_succ_cons, List.drop_succ_cons, Nat.reduceAdd, Nat.reduceLeDiff, reduceIte, Bool.not_true, Bool.not_false, Bool.false_eq_true, CA_some, Option.some.injEq, Nat.zero_add, Nat.mul_one, Nat.add_zero, setL, List.set_cons_zero, List.set_cons_succ, fillC]
  refine MkOk.go mk_Qc ((h5.wrote w3 (fun i hi => xx3 i (by simp [hi]))).wrote w4 (fun i hi => xx4 i (by simp [hi]))) (w4.ownd (w3.ownd o5)) (k := k + cnT (.sl (.int .u8)) v3 + cnT (.sl (.int .u8)) v4) (by omega) (fun g5 w5 z5 => ?_)
  simp (disch := omega) only [KC_eq, c30, e0, e1, e2, e3, e4, hsz, ifT, w64, RR, RP, Ty.agg, Ty.size, Ty.sizes, eq_self, ne_eq, not_true, not_false_iff, reduceCtorEq, List.length_cons, List.length_nil, decide_true, decide_false, true_and, and_true, ite_true, ite_false, PT.full, enter0, setAll, forget, Fr.set, Fr.get, PT.get, PT.set, kof, ai, ev, ev1, evp, b_add, b_sub, b_mul, b_quo, b_rem, b_eql, b_neq, b_lss, b_leq, b_gtr, b_geq, b_seql, b_sneq, setD, resV, resL, res1, args, List.take_zero, List.drop_zero, List.take_nil, List.take_succ_cons, List.drop_succ_cons, Nat.reduceAdd, Nat.reduceLeDiff, reduceIte, Bool.not_true, Bool.not_false, Bool.false_eq_true, CA_some, Option.some.injEq, Nat.zero_add, Nat.mul_one, Nat.add_zero, setL, List.set_cons_zero, List.set_cons_succ, fillC]
  have fin : Rs g5 [(.int .i64), (.int .i64), (.int .i64), (.sl (.int .u8)), (.sl (.int .u8)), TQc] (cs.drop 0) [.i n0, .i n1, .i n2, mkT (.sl (.int .u8)) v3 (k), mkT (.sl (.int .u8)) v4 (k + cnT (.sl (.int .u8)) v3), mkT TQc v5 (k + cnT (.sl (.int .u8)) v3 + cnT (.sl (.int .u8)) v4)] _ := (Rs.unstep (o := 0) (Rp.int_at e0 lo0 hi0) (Rs.unstep (o := 1) (Rp.int_at e1 lo1 hi1) (Rs.unstep (o := 2) (Rp.int_at e2 lo2 hi2) (Rs.unstep (o := 3) (Rp.cs_at e3 ((z3.wrote w4 (fun i hi hn => x3 i hi (by simp [hn]))).wrote w5 (fun i hi hn => x3 i hi (by simp [hn])))) (Rs.unstep (o := 4) (Rp.cs_at e4 (z4.wrote w5 (fun i hi hn => x4 i hi (by simp [hn])))) (Rs.unstep (o := 5) z5 (Rs.fin (Nat.le_of_eq hsz))))))))
  simp only [List.nil_append, List.append_nil, List.drop_zero] at fin
  have wr := ((((Wrote.refl ho.2).more w3 (fun i hi => by simp [hi])).more w4 (fun i hi => by simp [hi])).more w5 (fun i hi => by simp [hi]))
  first
    | exact ⟨wr, _, rfl, fin⟩
    | (refine ⟨?_, wr, _, rfl, fin⟩
       congr 3
       omega)
/-- laws.markBlock -/
def c18 : AF := ⟨2, 4, [.tmp 4], (.seq (.ops [.i (.lbox 2 (.s 0)), .i (.mov 4 (.c (.val false [.int .i64 0])))]) (.seq (.ops [.i (.fad 5 (.s 2) 0), .i (.ldl 6 2 (.s 5) 10 true), .i (.mov 7 (.s 1)), .i (.call 9 30 false [(.s 6), (.s 7)]), .i (.mov 1 (.s 8))]) (.seq (.ops [.i (.fad 9 (.s 2) 10), .i (.ldl 10 2 (.s 9) 1 false), .i (.mov 11 (.s 1)), .i (.call 13 31 false [(.s 10), (.s 11)]), .i (.mov 1 (.s 12))]) (.seq (.ops [.i (.mov 13 (.s 1)), .i (.mov 4 (.s 13))]) .ret))))⟩
theorem k18 : cd 18 = some c18 := by kernel_rfl
theorem mk_Block : MkOk cd 18 TBlock := by
  intro h cs v S k hv ho hk
  obtain ⟨vs, rfl, q0⟩ := hv.st
  obtain ⟨v0, r0, S0, T0, rfl, rfl, h0, q1⟩ := q0.step
  obtain ⟨v1, r1, S1, T1, rfl, rfl, h1, q2⟩ := q1.step
  obtain ⟨c1, e1⟩ := h1.one rfl
  rw [e1] at h1
  obtain ⟨_, rfl, rfl⟩ := q2
  have hsz : cs.length = 11 := hv.size
  simp only [Ty.size, Ty.sizes, Nat.reduceAdd, Nat.zero_add, List.drop_zero] at e1 hsz h0
  have hcn : cnT TBlock (.r [v0, v1]) = (cnT THead v0 + (cnT (.sl (.sl (.int .u8))) v1 + 0)) := rfl
  have hmk : mkT TBlock (.r [v0, v1]) k = .r [mkT THead v0 (k), mkT (.sl (.sl (.int .u8))) v1 (k + cnT THead v0)] := rfl
  rw [hmk]
  rw [hcn] at hk ⊢
  simp only [List.nil_append, List.append_nil] at ho ⊢
  obtain ⟨o0, ho0, x0, xx0⟩ := ho.split
  have o1 := ho0
  refine WS_enter k18 rfl ?_
  simp (disch := omega) only [KC_eq, c18, e1, hsz, ifT, w64, RR, RP, Ty.agg, Ty.size, Ty.sizes, eq_self, ne_eq, not_true, not_false_iff, reduceCtorEq, List.length_cons, List.length_nil, decide_true, decide_false, true_and, and_true, ite_true, ite_false, PT.full, enter0, setAll, forget, Fr.set, Fr.get, PT.get, PT.set, kof, ai, ev, ev1, evp, b_add, b_sub, b_mul, b_quo, b_rem, b_eql, b_neq, b_lss, b_leq, b_gtr, b_geq, b_seql, b_sneq, setD, resV, resL, res1, args, List.take_zero, List.drop_zero, List.take_nil, List.take_succ_cons, List.drop_succ_cons, Nat.reduceAdd, Nat.reduceLeDiff, reduceIte, Bool.not_true, Bool.not_false, Bool.false_eq_true, CA_some, Option.some.injEq, Nat.zero_add, Nat.mul_one, Nat.add_zero, setL, List.set_cons_zero, List.set_cons_succ, fillC]
  refine MkOk.go mk_Head h0 o0 (k := k) (by omega) (fun g0 w0 z0 => ?_)
  simp (disch := omega) only [KC_eq, c18, e1, hsz, ifT, w64, RR, RP, Ty.agg, Ty.size, Ty.sizes, eq_self, ne_eq, not_true, not_false_iff, reduceCtorEq, List.length_cons, List.length_nil, decide_true, decide_false, true_and, and_true, ite_true, ite_false, PT.full, enter0, setAll, forget, Fr.set, Fr.get, PT.get, PT.set, kof, ai, ev, ev1, evp, b_add, b_sub, b_mul, b_quo, b_rem, b_eql, b_neq, b_lss, b_leq, b_gtr, b_geq, b_seql, b_sneq, setD, resV, resL, res1, args, List.take_zero, List.drop_zero, List.take_nil, List.take_succ_cons, List.drop_succ_cons, Nat.reduceAdd, Nat.reduceLeDiff, reduceIte, Bool.not_true, Bool.not_false, Bool.false_eq_true, CA_some, Option.some.injEq, Nat.zero_add, Nat.mul_one, Nat.add_zero, setL, List.set_cons_zero, List.set_cons_succ, fillC]
  refine MkOk.go mk_ByteSS (h1.wrote w0 (fun i hi => xx0 i (by simp [hi]))) (w0.ownd o1) (k := k + cnT THead v0) (by omega) (fun g1 w1 z1 => ?_)
  simp (disch := omega) only [KC_eq, c18, e1, hsz, ifT, w64, RR, RP, Ty.agg, Ty.size, Ty.sizes, eq_self, ne_eq, not_true, not_false_iff, reduceCtorEq, List.length_cons, List.length_nil, decide_true, decide_false, true_and, and_true, ite_true, ite_false, PT.full, enter0, setAll, forget, Fr.set, Fr.get, PT.get, PT.set, kof, ai, ev, ev1, evp, b_add, b_sub, b_mul, b_quo, b_rem, b_eql, b_neq, b_lss, b_leq, b_gtr, b_geq, b_seql, b_sneq, setD, resV, resL, res1, args, List.take_zero, List.drop_zero, List.take_nil, List.take_succ_cons, List.drop_succ_cons, Nat.reduceAdd, Nat.reduceLeDiff, reduceIte, Bool.not_true, Bool.not_false, Bool.false_eq_true, CA_some, Option.some.injEq, Nat.zero_add, Nat.mul_one, Nat.add_zero, setL, List.set_cons_zero, List.set_cons_succ, fillC]
  have fin : Rs g1 [THead, (.sl (.sl (.int .u8)))] (cs.drop 0) [mkT THead v0 (k), mkT (.sl (.sl (.int .u8))) v1 (k + cnT THead v0)] _ := (Rs.unstep (o := 0) (z0.wrote w1 (fun i hi hn => x0 i hi (by simp [hn]))) (Rs.unstep (o := 10) (Rp.cs_at e1 z1) (Rs.fin (Nat.le_of_eq hsz))))
  simp only [List.nil_append, List.append_nil, List.drop_zero] at fin
  have wr := (((Wrote.refl ho.2).more w0 (fun i hi => by simp [hi])).more w1 (fun i hi => by simp [hi]))
  first
    | exact ⟨wr, _, rfl, fin⟩
    | (refine ⟨?_, wr, _, rfl, fin⟩
       congr 3
       omega)
/-- laws.heldByteS -/
def c119 : AF := ⟨2, 5, [.tmp 4], (.seq (.ops [.i (.mov 4 (.c (.val false [.int .i64 0])))]) (.seq (.seq (.ops [.i (.mov 5 (.c (.val false [.int .i64 0])))]) (.block 0 (.loop [20, 19, 18, 17, 16, 15, 14, 13, 12, 11, 10, 9, 8, 7, 6] (.seq (.seq (.ops [.i (.mov 6 (.s 5)), .i (.mov 7 (.s 0)), .i (.len 8 false (.s 7)), .i (.bin 9 .lss (.s 6) (.s 8))]) (.cond (.s 9) .skip (.exit 0))) (.seq (.block 1 (.seq (.seq (.ops [.i (.mov 12 (.s 0)), .i (.mov 13 (.s 5)), .i (.iad 14 (.s 12) (.s 13) 1), .i (.ldh 15 (.s 14) 1 false), .i (.mov 16 (.s 1)), .i (.cvi 17 .u8 (.s 16)), .i (.bin 18 .neq (.s 15) (.s 17))]) (.cond (.s 18) (.seq (.ops [.i (.mov 4 (.c (.val false [.int .i64 (-1)])))]) .ret) .skip)) (.ops [.i (.mov 19 (.s 1)), .i (.bin 20 .add (.s 19) (.c (.val false [.int .i64 1]))), .i (.mov 1 (.s 20))]))) (.ops [.i (.mov 10 (.s 5)), .i (.bin 11 .add (.s 10) (.c (.val false [.int .i64 1]))), .i (.mov 5 (.s 11))])))))) (.seq (.ops [.i (.mov 21 (.s 1)), .i (.mov 4 (.s 21))]) .ret)))⟩
theorem k119 : cd 119 = some c119 := by kernel_rfl
theorem hd_ByteS : HdOk cd 119 (.sl (.int .u8)) := hd_leaf k119
/-- laws.heldByteSS -/
def c92 : AF := ⟨2, 5, [.tmp 4], (.seq (.ops [.i (.mov 4 (.c (.val false [.int .i64 0])))]) (.seq (.seq (.ops [.i (.mov 5 (.c (.val false [.int .i64 0])))]) (.block 0 (.loop [19, 18, 17, 16, 15, 14, 13, 12, 11, 10, 9, 8, 7, 6] (.seq (.seq (.ops [.i (.mov 6 (.s 5)), .i (.mov 7 (.s 0)), .i (.len 8 false (.s 7)), .i (.bin 9 .lss (.s 6) (.s 8))]) (.cond (.s 9) .skip (.exit 0))) (.seq (.block 1 (.seq (.ops [.i (.mov 12 (.s 0)), .i (.mov 13 (.s 5)), .i (.iad 14 (.s 12) (.s 13) 1), .i (.ldh 15 (.s 14) 1 false), .i (.mov 16 (.s 1)), .i (.call 18 119 false [(.s 15), (.s 16)]), .i (.mov 1 (.s 17))]) (.seq (.ops [.i (.mov 18 (.s 1)), .i (.bin 19 .lss (.s 18) (.c (.val false [.int .i64 0])))]) (.cond (.s 19) (.seq (.ops [.i (.mov 4 (.c (.val false [.int .i64 (-1)])))]) .ret) .skip)))) (.ops [.i (.mov 10 (.s 5)), .i (.bin 11 .add (.s 10) (.c (.val false [.int .i64 1]))), .i (.mov 5 (.s 11))])))))) (.seq (.ops [.i (.mov 20 (.s 1)), .i (.mov 4 (.s 20))]) .ret)))⟩
theorem k92 : cd 92 = some c92 := by kernel_rfl
theorem hd_ByteSS : HdOk cd 92 (.sl (.sl (.int .u8))) := hd_sl k92 hd_ByteS
/-- laws.heldQc -/
def c77 : AF := ⟨2, 5, [.tmp 4], (.seq (.ops [.i (.lbox 2 (.s 0)), .i (.mov 4 (.c (.val false [.int .i64 0])))]) (.seq (.ops [.i (.fad 5 (.s 2) 2), .i (.ldl 6 2 (.s 5) 1 false), .i (.mov 7 (.s 1)), .i (.call 9 119 false [(.s 6), (.s 7)]), .i (.mov 1 (.s 8))]) (.seq (.seq (.ops [.i (.mov 9 (.s 1)), .i (.bin 10 .lss (.s 9) (.c (.val false [.int .i64 0])))]) (.cond (.s 10) (.seq (.ops [.i (.mov 4 (.c (.val false [.int .i64 (-1)])))]) .ret) .skip)) (.seq (.ops [.i (.fad 11 (.s 2) 3), .i (.ldl 12 2 (.s 11) 1 false), .i (.mov 13 (.s 1)), .i (.call 15 119 false [(.s 12), (.s 13)]), .i (.mov 1 (.s 14))]) (.seq (.seq (.ops [.i (.mov 15 (.s 1)), .i (.bin 16 .lss (.s 15) (.c (.val false [.int .i64 0])))]) (.cond (.s 16) (.seq (.ops [.i (.mov 4 (.c (.val false [.int .i64 (-1)])))]) .ret) .skip)) (.seq (.ops [.i (.fad 17 (.s 2) 4), .i (.ldl 18 2 (.s 17) 1 false), .i (.mov 19 (.s 1)), .i (.call 21 92 false [(.s 18), (.s 19)]), .i (.mov 1 (.s 20))]) (.seq (.seq (.ops [.i (.mov 21 (.s 1)), .i (.bin 22 .lss (.s 21) (.c (.val false [.int .i64 0])))]) (.cond (.s 22) (.seq (.ops [.i (.mov 4 (.c (.val false [.int .i64 (-1)])))]) .ret) .skip)) (.seq (.ops [.i (.mov 23 (.s 1)), .i (.mov 4 (.s 23))]) .ret))))))))⟩
theorem k77 : cd 77 = some c77 := by kernel_rfl
theorem hd_Qc : HdOk cd 77 TQc := by
  intro h cs v S k hT hv hk
  obtain ⟨h0_, cs0, S0_, hT⟩ := hT
  obtain ⟨wvs, rfl, wq0⟩ := hT.st
  obtain ⟨wv0, wr0, wS0, wT0, rfl, rfl, wh0, wq1⟩ := wq0.step
  obtain ⟨wn0, we0, rfl, rfl, wlo0, whi0⟩ := wh0.int
  obtain ⟨wv1, wr1, wS1, wT1, rfl, rfl, wh1, wq2⟩ := wq1.step
  obtain ⟨wn1, we1, rfl, rfl, wlo1, whi1⟩ := wh1.int
  obtain ⟨wv2, wr2, wS2, wT2, rfl, rfl, wh2, wq3⟩ := wq2.step
  obtain ⟨wc2, we2⟩ := wh2.one rfl
  rw [we2] at wh2
  obtain ⟨wv3, wr3, wS3, wT3, rfl, rfl, wh3, wq4⟩ := wq3.step
  obtain ⟨wc3, we3⟩ := wh3.one rfl
  rw [we3] at wh3
  obtain ⟨wv4, wr4, wS4, wT4, rfl, rfl, wh4, wq5⟩ := wq4.step
  obtain ⟨wc4, we4⟩ := wh4.one rfl
  rw [we4] at wh4
  obtain ⟨_, rfl, rfl⟩ := wq5
  have whsz : cs0.length = 5 := hT.size
  have hcn : cnT TQc (.r [.i wn0, .i wn1, wv2, wv3, wv4]) = (0 + (0 + (cnT (.sl (.int .u8)) wv2 + (cnT (.sl (.int .u8)) wv3 + (cnT (.sl (.sl (.int .u8))) wv4 + 0))))) := rfl
  have hmk : mkT TQc (.r [.i wn0, .i wn1, wv2, wv3, wv4]) k = .r [.i wn0, .i wn1, mkT (.sl (.int .u8)) wv2 (k), mkT (.sl (.int .u8)) wv3 (k + cnT (.sl (.int .u8)) wv2), mkT (.sl (.sl (.int .u8))) wv4 (k + cnT (.sl (.int .u8)) wv2 + cnT (.sl (.int .u8)) wv3)] := rfl
  rw [hmk] at hv
  rw [hcn] at hk ⊢
  obtain ⟨vs, hvs, q0⟩ := hv.st
  simp only [Tv.r.injEq] at hvs
  subst hvs
  obtain ⟨v0, r0, S0, T0, hv0, hS0, h0, q1⟩ := q0.step
  obtain ⟨rfl, rfl⟩ := List.cons.inj hv0
  obtain ⟨n0, e0, _, _, _, _⟩ := h0.int
  obtain ⟨v1, r1, S1, T1, hv1, hS1, h1, q2⟩ := q1.step
  obtain ⟨rfl, rfl⟩ := List.cons.inj hv1
  obtain ⟨n1, e1, _, _, _, _⟩ := h1.int
  obtain ⟨v2, r2, S2, T2, hv2, hS2, h2, q3⟩ := q2.step
  obtain ⟨rfl, rfl⟩ := List.cons.inj hv2
  obtain ⟨c2, e2⟩ := h2.one rfl
  rw [e2] at h2
  obtain ⟨v3, r3, S3, T3, hv3, hS3, h3, q4⟩ := q3.step
  obtain ⟨rfl, rfl⟩ := List.cons.inj hv3
  obtain ⟨c3, e3⟩ := h3.one rfl
  rw [e3] at h3
  obtain ⟨v4, r4, S4, T4, hv4, hS4, h4, q5⟩ := q4.step
  obtain ⟨rfl, rfl⟩ := List.cons.inj hv4
  obtain ⟨c4, e4⟩ := h4.one rfl
  rw [e4] at h4
  have hsz : cs.length = 5 := hv.size
  simp only [Ty.size, Ty.sizes, Nat.reduceAdd, Nat.zero_add, List.drop_zero] at e0 e1 e2 e3 e4 hsz
  refine WS_enter k77 rfl ?_
  simp (disch := omega) only [KC_eq, c77, e0, e1, e2, e3, e4, hsz, ifT, w64, RR, RP, Ty.agg, Ty.size, Ty.sizes, eq_self, ne_eq, not_true, not_false_iff, reduceCtorEq, List.length_cons, List.length_nil, decide_true, decide_false, true_and, and_true, ite_true, ite_false, PT.full, enter0, setAll, forget, Fr.set, Fr.get, PT.get, PT.set, kof, ai, ev, ev1, evp, b_add, b_sub, b_mul, b_quo, b_rem, b_eql, b_neq, b_lss, b_leq, b_gtr, b_geq, b_seql, b_sneq, setD, resV, resL, res1, args, List.take_zero, List.drop_zero, List.take_nil, List.take_succ_cons, List.drop_succ_cons, Nat.reduceAdd, Nat.reduceLeDiff, reduceIte, Bool.not_true, Bool.not_false, Bool.false_eq_true, CA_some, Option.some.injEq, Nat.zero_add, Nat.mul_one, Nat.add_zero, setL, List.set_cons_zero, List.set_cons_succ, fillC]
  refine HdOk.go hd_ByteS ⟨_, _, _, wh2⟩ h2 (k := k) (by omega) ?_
  simp (disch := omega) only [KC_eq, c77, e0, e1, e2, e3, e4, hsz, ifT, w64, RR, RP, Ty.agg, Ty.size, Ty.sizes, eq_self, ne_eq, not_true, not_false_iff, reduceCtorEq, List.length_cons, List.length_nil, decide_true, decide_false, true_and, and_true, ite_true, ite_false, PT.full, enter0, setAll, forget, Fr.set, Fr.get, PT.get, PT.set, kof, ai, ev, ev1, evp, b_add, b_sub, b_mul, b_quo, b_rem, b_eql, b_neq, b_lss, b_leq, b_gtr, b_geq, b_seql, b_sneq, setD, resV, resL, res1, args, List.take_zero, List.drop_zero, List.take_nil, List.take_succ_cons, List.drop_succ_cons, Nat.reduceAdd, Nat.reduceLeDiff, reduceIte, Bool.not_true, Bool.not_false, Bool.false_eq_true, CA_some, Option.some.injEq, Nat.zero_add, Nat.mul_one, Nat.add_zero, setL, List.set_cons_zero, List.set_cons_succ, fillC]
  refine BR_dec (fun hn => absurd hn (by omega)) (fun hn => ?_)
  simp (disch := omega) only [KC_eq, c77, e0, e1, e2, e3, e4, hsz, ifT, w64, RR, RP, Ty.agg, Ty.size, Ty.sizes, eq_self, ne_eq, not_true, not_false_iff, reduceCtorEq, List.length_cons, List.length_nil, decide_true, decide_false, true_and, and_true, ite_true, ite_false, PT.full, enter0, setAll, forget, Fr.set, Fr.get, PT.get, PT.set, kof, ai, ev, ev1, evp, b_add, b_sub, b_mul, b_quo, b_rem, b_eql, b_neq, b_lss, b_leq, b_gtr, b_geq, b_seql, b_sneq, setD, resV, resL, res1, args, List.take_zero, List.drop_zero, List.take_nil, List.take_succ_cons, List.drop_succ_cons, Nat.reduceAdd, Nat.reduceLeDiff, reduceIte, Bool.not_true, Bool.not_false, Bool.false_eq_true, CA_some, Option.some.injEq, Nat.zero_add, Nat.mul_one, Nat.add_zero, setL, List.set_cons_zero, List.set_cons_succ, fillC]
  refine HdOk.go hd_ByteS ⟨_, _, _, wh3⟩ h3 (k := k + cnT (.sl (.int .u8)) wv2) (by omega) ?_
  simp (disch := omega) only [KC_eq, c77, e0, e1, e2, e3, e4, hsz, ifT, w64, RR, RP, Ty.agg, Ty.size, Ty.sizes, eq_self, ne_eq, not_true, not_false_iff, reduceCtorEq, List.length_cons, List.length_nil, decide_true, decide_false, true_and, and_true, ite_true, ite_false, PT.full, enter0, setAll, forget, Fr.set, Fr.get, PT.get, PT.set, kof, ai, ev, ev1, evp, b_add, b_sub, b_mul, b_quo, b_rem, b_eql, b_neq, b_lss, b_leq, b_gtr, b_geq, b_seql, b_sneq, setD, resV, resL, res1, args, List.take_zero, List.drop_zero, List.take_nil, List.take_succ_cons, List.drop_succ_cons, Nat.reduceAdd, Nat.reduceLeDiff, reduceIte, Bool.not_true, Bool.not_false, Bool.false_eq_true, CA_some, Option.some.injEq, Nat.zero_add, Nat.mul_one, Nat.add_zero, setL, List.set_cons_zero, List.set_cons_succ, fillC]
  refine BR_dec (fun hn => absurd hn (by omega)) (fun hn => ?_)
  simp (disch := omega) only [KC_eq, c77, e0, e1, e2, e3, e4, hsz, ifT, w64, RR, RP, Ty.agg, Ty.size, Ty.sizes, eq_self, ne_eq, not_true, not_false_iff, reduceCtorEq, List.length_cons, List.length_nil, decide_true, decide_false, true_and, and_true, ite_true, ite_false, PT.full, enter0, setAll, forget, Fr.set, Fr.get, PT.get, PT.set, kof, ai, ev, ev1, evp, b_add, b_sub, b_mul, b_quo, b_rem, b_eql, b_neq, b_lss, b_leq, b_gtr, b_geq, b_seql, b_sneq, setD, resV, resL, res1, args, List.take_zero, List.drop_zero, List.take_nil, List.take_succ_cons, List.drop_succ_cons, Nat.reduceAdd, Nat.reduceLeDiff, reduceIte, Bool.not_true, Bool.not_false, Bool.false_eq_true, CA_some, Option.some.injEq, Nat.zero_add, Nat.mul_one, Nat.add_zero, setL, List.set_cons_zero, List.set_cons_succ, fillC]
  refine HdOk.go hd_ByteSS ⟨_, _, _, wh4⟩ h4 (k := k + cnT (.sl (.int .u8)) wv2 + cnT (.sl (.int .u8)) wv3) (by omega) ?_
  simp (disch := omega) only [KC_eq, c77, e0, e1, e2, e3, e4, hsz, ifT, w64, RR, RP, Ty.agg, Ty.size, Ty.sizes, eq_self, ne_eq, not_true, not_false_iff, reduceCtorEq, List.length_cons, List.length_nil, decide_true, decide_false, true_and, and_true, ite_true, ite_false, PT.full, enter0, setAll, forget, Fr.set, Fr.get, PT.get, PT.set, kof, ai, ev, ev1, evp, b_add, b_sub, b_mul, b_quo, b_rem, b_eql, b_neq, b_lss, b_leq, b_gtr, b_geq, b_seql, b_sneq, setD, resV, resL, res1, args, List.take_zero, List.drop_zero, List.take_nil, List.take_succ_cons, List.drop_succ_cons, Nat.reduceAdd, Nat.reduceLeDiff, reduceIte, Bool.not_true, Bool.not_false, Bool.false_eq_true, CA_some, Option.some.injEq, Nat.zero_add, Nat.mul_one, Nat.add_zero, setL, List.set_cons_zero, List.set_cons_succ, fillC]
  refine BR_dec (fun hn => absurd hn (by omega)) (fun hn => ?_)
  simp (disch := omega) only [KC_eq, c77, e0, e1, e2, e3, e4, hsz, ifT, w64, RR, RP, Ty.agg, Ty.size, Ty.sizes, eq_self, ne_eq, not_true, not_false_iff, reduceCtorEq, List.length_cons, List.length_nil, decide_true, decide_false, true_and, and_true, ite_true, ite_false, PT.full, enter0, setAll, forget, Fr.set, Fr.get, PT.get, PT.set, kof, ai, ev, ev1, evp, b_add, b_sub, b_mul, b_quo, b_rem, b_eql, b_neq, b_lss, b_leq, b_gtr, b_geq, b_seql, b_sneq, setD, resV, resL, res1, args, List.take_zero, List.drop_zero, List.take_nil, List.take_succ_cons, List.drop_succ_cons, Nat.reduceAdd, Nat.reduceLeDiff, reduceIte, Bool.not_true, Bool.not_false, Bool.false_eq_true, CA_some, Option.some.injEq, Nat.zero_add, Nat.mul_one, Nat.add_zero, setL, List.set_cons_zero, List.set_cons_succ, fillC]
  all_goals congr 3
  all_goals omega
/-- laws.heldHead -/
def c57 : AF := ⟨2, 5, [.tmp 4], (.seq (.ops [.i (.lbox 2 (.s 0)), .i (.mov 4 (.c (.val false [.int .i64 0])))]) (.seq (.ops [.i (.fad 5 (.s 2) 3), .i (.ldl 6 2 (.s 5) 1 false), .i (.mov 7 (.s 1)), .i (.call 9 119 false [(.s 6), (.s 7)]), .i (.mov 1 (.s 8))]) (.seq (.seq (.ops [.i (.mov 9 (.s 1)), .i (.bin 10 .lss (.s 9) (.c (.val false [.int .i64 0])))]) (.cond (.s 10) (.seq (.ops [.i (.mov 4 (.c (.val false [.int .i64 (-1)])))]) .ret) .skip)) (.seq (.ops [.i (.fad 11 (.s 2) 4), .i (.ldl 12 2 (.s 11) 1 false), .i (.mov 13 (.s 1)), .i (.call 15 119 false [(.s 12), (.s 13)]), .i (.mov 1 (.s 14))]) (.seq (.seq (.ops [.i (.mov 15 (.s 1)), .i (.bin 16 .lss (.s 15) (.c (.val false [.int .i64 0])))]) (.cond (.s 16) (.seq (.ops [.i (.mov 4 (.c (.val false [.int .i64 (-1)])))]) .ret) .skip)) (.seq (.ops [.i (.fad 17 (.s 2) 5), .i (.ldl 18 2 (.s 17) 5 true), .i (.mov 19 (.s 1)), .i (.call 21 77 false [(.s 18), (.s 19)]), .i (.mov 1 (.s 20))]) (.seq (.seq (.ops [.i (.mov 21 (.s 1)), .i (.bin 22 .lss (.s 21) (.c (.val false [.int .i64 0])))]) (.cond (.s 22) (.seq (.ops [.i (.mov 4 (.c (.val false [.int .i64 (-1)])))]) .ret) .skip)) (.seq (.ops [.i (.mov 23 (.s 1)), .i (.mov 4 (.s 23))]) .ret))))))))⟩
theorem k57 : cd 57 = some c57 := by kernel_rfl
end Go.Eng.U
