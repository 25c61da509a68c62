import Derived.Test.YtkhciaoemhfhbaaEngZ
set_option maxRecDepth 100000
set_option linter.unusedSimpArgs false
set_option linter.unusedVariables false
namespace Go.Eng.U

/-- impl.copyBytes -/
def c70 : AF := ⟨1, 3, [.tmp 2], (.seq (.ops [.i (.mov 2 (.c (.val false [.nils])))]) (.seq (.ops [.i (.bse 3), .i (.mov 4 (.s 0)), .i (.app 5 5 1 1 (.s 3) (.s 4)), .i (.mov 2 (.s 5))]) .ret))⟩
theorem k70 : cd 70 = some c70 := by kernel_rfl
/-- spec.l01Copy -/
def c157 : AF := ⟨1, 3, [.tmp 2], (.seq (.ops [.i (.mov 2 (.c (.val false [.nils])))]) (.seq (.ops [.i (.bse 3), .i (.mov 4 (.s 0)), .i (.app 5 5 1 1 (.s 3) (.s 4)), .i (.mov 2 (.s 5))]) .ret))⟩
theorem k157 : cd 157 = some c157 := by kernel_rfl
/-- impl.copyList -/
def c76 : AF := ⟨1, 5, [.tmp 2], (.seq (.ops [.i (.mov 2 (.c (.val false [.nils])))]) (.seq (.ops [.i (.bse 6), .i (.mov 3 (.s 6))]) (.seq (.seq (.ops [.i (.mov 7 (.s 0)), .i (.len 8 false (.s 7)), .i (.mov 9 (.c (.val false [.int .i64 0])))]) (.block 0 (.loop [18, 17, 16, 15, 14, 13, 12, 11, 10, 5] (.seq (.ops [.i (.bin 10 .lss (.s 9) (.s 8))]) (.seq (.cond (.s 10) .skip (.exit 0)) (.seq (.block 1 (.seq (.ops [.i (.iad 11 (.s 7) (.s 9) 1), .i (.ldh 12 (.s 11) 1 false), .i (.mov 5 (.s 12))]) (.ops [.i (.mov 13 (.s 3)), .i (.mov 14 (.s 5)), .i (.call 16 70 false [(.s 14)]), .i (.lsl 16 1 1 [.nils] [(0, 1, (.s 15))]), .i (.app 17 22 1 24 (.s 13) (.s 16)), .i (.mov 3 (.s 17))]))) (.ops [.i (.bin 18 .add (.s 9) (.c (.val false [.int .i64 1]))), .i (.mov 9 (.s 18))]))))))) (.seq (.ops [.i (.mov 19 (.s 3)), .i (.mov 2 (.s 19))]) .ret))))⟩
theorem k76 : cd 76 = some c76 := by kernel_rfl
/-- spec.l06Copy -/
def c168 : AF := ⟨1, 5, [.tmp 2], (.seq (.ops [.i (.mov 2 (.c (.val false [.nils])))]) (.seq (.ops [.i (.bse 6), .i (.mov 3 (.s 6))]) (.seq (.seq (.ops [.i (.mov 7 (.s 0)), .i (.len 8 false (.s 7)), .i (.mov 9 (.c (.val false [.int .i64 0])))]) (.block 0 (.loop [18, 17, 16, 15, 14, 13, 12, 11, 10, 5] (.seq (.ops [.i (.bin 10 .lss (.s 9) (.s 8))]) (.seq (.cond (.s 10) .skip (.exit 0)) (.seq (.block 1 (.seq (.ops [.i (.iad 11 (.s 7) (.s 9) 1), .i (.ldh 12 (.s 11) 1 false), .i (.mov 5 (.s 12))]) (.ops [.i (.mov 13 (.s 3)), .i (.mov 14 (.s 5)), .i (.call 16 157 false [(.s 14)]), .i (.lsl 16 1 1 [.nils] [(0, 1, (.s 15))]), .i (.app 17 22 1 24 (.s 13) (.s 16)), .i (.mov 3 (.s 17))]))) (.ops [.i (.bin 18 .add (.s 9) (.c (.val false [.int .i64 1]))), .i (.mov 9 (.s 18))]))))))) (.seq (.ops [.i (.mov 19 (.s 3)), .i (.mov 2 (.s 19))]) .ret))))⟩
theorem k168 : cd 168 = some c168 := by kernel_rfl
/-- (impl.Qc).copied -/
def c133 : AF := ⟨1, 5, [.cell 2 5 true], (.seq (.ops [.i (.lbox 1 (.s 0)), .i (.lal 2 [.int .i64 0, .int .i64 0, .nils, .nils, .nils])]) (.seq (.ops [.i (.fad 3 (.s 1) 0), .i (.ldl 4 1 (.s 3) 1 false), .i (.fad 5 (.s 1) 1), .i (.ldl 6 1 (.s 5) 1 false), .i (.fad 7 (.s 1) 2), .i (.ldl 8 1 (.s 7) 1 false), .i (.call 10 70 false [(.s 8)]), .i (.fad 10 (.s 1) 3), .i (.ldl 11 1 (.s 10) 1 false), .i (.call 13 70 false [(.s 11)]), .i (.fad 13 (.s 1) 4), .i (.ldl 14 1 (.s 13) 1 false), .i (.call 16 76 false [(.s 14)]), .i (.bld 16 [.int .i64 0, .int .i64 0, .nils, .nils, .nils] [(0, 1, (.s 4)), (1, 1, (.s 6)), (2, 1, (.s 9)), (3, 1, (.s 12)), (4, 1, (.s 15))]), .i (.stl 2 (.s 2) (.s 16) 5)]) .ret))⟩
theorem k133 : cd 133 = some c133 := by kernel_rfl
/-- spec.l12Copy -/
def c132 : AF := ⟨1, 5, [.cell 2 5 true], (.seq (.ops [.i (.lbox 1 (.s 0)), .i (.lal 2 [.int .i64 0, .int .i64 0, .nils, .nils, .nils])]) (.seq (.ops [.i (.fad 3 (.s 1) 0), .i (.ldl 4 1 (.s 3) 1 false), .i (.fad 5 (.s 1) 1), .i (.ldl 6 1 (.s 5) 1 false), .i (.fad 7 (.s 1) 2), .i (.ldl 8 1 (.s 7) 1 false), .i (.call 10 157 false [(.s 8)]), .i (.fad 10 (.s 1) 3), .i (.ldl 11 1 (.s 10) 1 false), .i (.call 13 157 false [(.s 11)]), .i (.fad 13 (.s 1) 4), .i (.ldl 14 1 (.s 13) 1 false), .i (.call 16 168 false [(.s 14)]), .i (.bld 16 [.int .i64 0, .int .i64 0, .nils, .nils, .nils] [(0, 1, (.s 4)), (1, 1, (.s 6)), (2, 1, (.s 9)), (3, 1, (.s 12)), (4, 1, (.s 15))]), .i (.stl 2 (.s 2) (.s 16) 5)]) .ret))⟩
theorem k132 : cd 132 = some c132 := by kernel_rfl
/-- spec.OfQc -/
def c57 : AF := ⟨1, 3, [.cell 2 45 true], (.seq (.ops [.i (.lbox 1 (.s 0)), .i (.lal 2 [.int .i64 0, .int .i64 0, .int .i64 0, .nils, .int .i64 0, .nils, .int .i64 0, .int .i64 0, .nils, .nils, .nils, .int .i64 0, .int .i64 0, .int .i64 0, .nils, .nils, .int .i64 0, .int .i64 0, .nils, .nils, .nils, .int .i64 0, .int .i64 0, .int .i64 0, .nils, .nils, .int .i64 0, .int .i64 0, .nils, .nils, .nils, .nils, .int .i64 0, .nils, .nils, .int .i64 0, .int .i64 0, .nils, .nils, .nils, .int .i64 0, .int .i64 0, .int .i64 0, .nils, .nils])]) (.seq (.ops [.i (.ldl 3 1 (.s 1) 5 true), .i (.call 5 132 false [(.s 3)]), .i (.bld 5 [.int .i64 0, .int .i64 0, .int .i64 0, .nils, .int .i64 0, .nils, .int .i64 0, .int .i64 0, .nils, .nils, .nils, .int .i64 0, .int .i64 0, .int .i64 0, .nils, .nils, .int .i64 0, .int .i64 0, .nils, .nils, .nils, .int .i64 0, .int .i64 0, .int .i64 0, .nils, .nils, .int .i64 0, .int .i64 0, .nils, .nils, .nils, .nils, .int .i64 0, .nils, .nils, .int .i64 0, .int .i64 0, .nils, .nils, .nils, .int .i64 0, .int .i64 0, .int .i64 0, .nils, .nils] [(0, 1, (.c (.val false [.int .i64 2]))), (6, 5, (.s 4))]), .i (.stl 2 (.s 2) (.s 5) 45)]) .ret))⟩
theorem k57 : cd 57 = some c57 := by kernel_rfl
/-- impl.OfQc -/
def c59 : AF := ⟨1, 3, [.cell 2 45 true], (.seq (.ops [.i (.lbox 1 (.s 0)), .i (.lal 2 [.int .i64 0, .int .i64 0, .int .i64 0, .nils, .int .i64 0, .nils, .int .i64 0, .int .i64 0, .nils, .nils, .nils, .int .i64 0, .int .i64 0, .int .i64 0, .nils, .nils, .int .i64 0, .int .i64 0, .nils, .nils, .nils, .int .i64 0, .int .i64 0, .int .i64 0, .nils, .nils, .int .i64 0, .int .i64 0, .nils, .nils, .nils, .nils, .int .i64 0, .nils, .nils, .int .i64 0, .int .i64 0, .nils, .nils, .nils, .int .i64 0, .int .i64 0, .int .i64 0, .nils, .nils])]) (.seq (.ops [.i (.ldl 3 1 (.s 1) 5 true), .i (.call 5 133 false [(.s 3)]), .i (.bld 5 [.int .i64 0, .int .i64 0, .int .i64 0, .nils, .int .i64 0, .nils, .int .i64 0, .int .i64 0, .nils, .nils, .nils, .int .i64 0, .int .i64 0, .int .i64 0, .nils, .nils, .int .i64 0, .int .i64 0, .nils, .nils, .nils, .int .i64 0, .int .i64 0, .int .i64 0, .nils, .nils, .int .i64 0, .int .i64 0, .nils, .nils, .nils, .nils, .int .i64 0, .nils, .nils, .int .i64 0, .int .i64 0, .nils, .nils, .nils, .int .i64 0, .int .i64 0, .int .i64 0, .nils, .nils] [(0, 1, (.c (.val false [.int .i64 2]))), (6, 5, (.s 4))]), .i (.stl 2 (.s 2) (.s 5) 45)]) .ret))⟩
theorem k59 : cd 59 = some c59 := by kernel_rfl
theorem icp_ByteS : ToOk cd 70 (.sl (.int .u8)) := cp_leaf k70 (by omega)
theorem scp_ByteS : ToOk cd 157 (.sl (.int .u8)) := cp_leaf k157 (by omega)
theorem icp_ByteSS : ToOk cd 76 (.sl (.sl (.int .u8))) := cp_sl k76 (by omega) icp_ByteS
theorem scp_ByteSS : ToOk cd 168 (.sl (.sl (.int .u8))) := cp_sl k168 (by omega) scp_ByteS
theorem icp_Qc : ToOk cd 133 TQc := by
  intro h cs v S hv hw
  obtain ⟨vs, rfl, q0⟩ := hv.st
  obtain ⟨v0, r0, S0, T0, rfl, rfl, h0, q1⟩ := q0.step
  obtain ⟨n0, e0, rfl, rfl, lo0, hi0⟩ := h0.int
  obtain ⟨v1, r1, S1, T1, rfl, rfl, h1, q2⟩ := q1.step
  obtain ⟨n1, e1, rfl, rfl, lo1, hi1⟩ := h1.int
  obtain ⟨v2, r2, S2, T2, rfl, rfl, h2, q3⟩ := q2.step
  obtain ⟨c2, e2⟩ := h2.one rfl
  rw [e2] at h2
  obtain ⟨v3, r3, S3, T3, rfl, rfl, h3, q4⟩ := q3.step
  obtain ⟨c3, e3⟩ := h3.one rfl
  rw [e3] at h3
  obtain ⟨v4, r4, S4, T4, rfl, rfl, h4, q5⟩ := q4.step
  obtain ⟨c4, e4⟩ := h4.one rfl
  rw [e4] at h4
  obtain ⟨_, rfl, rfl⟩ := q5
  have hsz : cs.length = 5 := hv.size
  simp only [Ty.size, Ty.sizes, Nat.reduceAdd, Nat.zero_add, List.drop_zero] at e0 e1 e2 e3 e4 hsz
  simp only [wt, wts] at hw
  refine WS_enter k133 rfl ?_
  simp (disch := omega) only [KC_eq, c133, e0, e1, e2, e3, e4, hsz, ifT, w64, RR, RP, Ty.agg, Ty.size, Ty.sizes, eq_self, ne_eq, not_true, not_false_iff, reduceCtorEq, List.length_cons, List.length_nil, decide_true, decide_false, true_and, and_true, ite_true, ite_false, PT.full, enter0, setAll, forget, Fr.set, Fr.get, PT.get, PT.set, kof, ai, ev, ev1, evp, b_add, b_sub, b_mul, b_quo, b_rem, b_eql, b_neq, b_lss, b_leq, b_gtr, b_geq, b_seql, b_sneq, setD, resV, resL, res1, args, List.take_zero, List.drop_zero, List.take_nil, List.take_succ_cons, List.drop_succ_cons, Nat.reduceAdd, Nat.reduceLeDiff, reduceIte, Bool.not_true, Bool.not_false, Bool.false_eq_true, CA_some, Option.some.injEq, Nat.zero_add, Nat.mul_one, Nat.add_zero, setL, List.set_cons_zero, List.set_cons_succ, fillC]
  refine WC_call (icp_ByteS h2 (by omega)) ?_
  rintro r0 g0 ⟨t0, d0, U0, rfl, rfl, z0, o0, l0⟩
  obtain ⟨y0_0, rfl⟩ := z0.one rfl
  simp (disch := omega) only [KC_eq, c133, e0, e1, e2, e3, e4, hsz, ifT, w64, RR, RP, Ty.agg, Ty.size, Ty.sizes, eq_self, ne_eq, not_true, not_false_iff, reduceCtorEq, List.length_cons, List.length_nil, decide_true, decide_false, true_and, and_true, ite_true, ite_false, PT.full, enter0, setAll, forget, Fr.set, Fr.get, PT.get, PT.set, kof, ai, ev, ev1, evp, b_add, b_sub, b_mul, b_quo, b_rem, b_eql, b_neq, b_lss, b_leq, b_gtr, b_geq, b_seql, b_sneq, setD, resV, resL, res1, args, List.take_zero, List.drop_zero, List.take_nil, List.take_succ_cons, List.drop_succ_cons, Nat.reduceAdd, Nat.reduceLeDiff, reduceIte, Bool.not_true, Bool.not_false, Bool.false_eq_true, CA_some, Option.some.injEq, Nat.zero_add, Nat.mul_one, Nat.add_zero, setL, List.set_cons_zero, List.set_cons_succ, fillC]
  refine WC_call (icp_ByteS (h3.app) (by omega)) ?_
  rintro r1 g1 ⟨t1, d1, U1, rfl, rfl, z1, o1, l1⟩
  obtain ⟨y1_0, rfl⟩ := z1.one rfl
  simp (disch := omega) only [KC_eq, c133, e0, e1, e2, e3, e4, hsz, ifT, w64, RR, RP, Ty.agg, Ty.size, Ty.sizes, eq_self, ne_eq, not_true, not_false_iff, reduceCtorEq, List.length_cons, List.length_nil, decide_true, decide_false, true_and, and_true, ite_true, ite_false, PT.full, enter0, setAll, forget, Fr.set, Fr.get, PT.get, PT.set, kof, ai, ev, ev1, evp, b_add, b_sub, b_mul, b_quo, b_rem, b_eql, b_neq, b_lss, b_leq, b_gtr, b_geq, b_seql, b_sneq, setD, resV, resL, res1, args, List.take_zero, List.drop_zero, List.take_nil, List.take_succ_cons, List.drop_succ_cons, Nat.reduceAdd, Nat.reduceLeDiff, reduceIte, Bool.not_true, Bool.not_false, Bool.false_eq_true, CA_some, Option.some.injEq, Nat.zero_add, Nat.mul_one, Nat.add_zero, setL, List.set_cons_zero, List.set_cons_succ, fillC]
  refine WC_call (icp_ByteSS ((h4.app).app) (by omega)) ?_
  rintro r2 g2 ⟨t2, d2, U2, rfl, rfl, z2, o2, l2⟩
  obtain ⟨y2_0, rfl⟩ := z2.one rfl
  simp (disch := omega) only [KC_eq, c133, e0, e1, e2, e3, e4, hsz, ifT, w64, RR, RP, Ty.agg, Ty.size, Ty.sizes, eq_self, ne_eq, not_true, not_false_iff, reduceCtorEq, List.length_cons, List.length_nil, decide_true, decide_false, true_and, and_true, ite_true, ite_false, PT.full, enter0, setAll, forget, Fr.set, Fr.get, PT.get, PT.set, kof, ai, ev, ev1, evp, b_add, b_sub, b_mul, b_quo, b_rem, b_eql, b_neq, b_lss, b_leq, b_gtr, b_geq, b_seql, b_sneq, setD, resV, resL, res1, args, List.take_zero, List.drop_zero, List.take_nil, List.take_succ_cons, List.drop_succ_cons, Nat.reduceAdd, Nat.reduceLeDiff, reduceIte, Bool.not_true, Bool.not_false, Bool.false_eq_true, CA_some, Option.some.injEq, Nat.zero_add, Nat.mul_one, Nat.add_zero, setL, List.set_cons_zero, List.set_cons_succ, fillC]
  refine ⟨(t0 ++ (t1 ++ t2)), _, _, by simp only [List.append_assoc], rfl, ⟨_, rfl, (Rs.mk (Rp.mkInt lo0 hi0) (Rs.mk (Rp.mkInt lo1 hi1) (Rs.mk ((z0.app).app) (Rs.mk (z1.app) (Rs.mk z2 Rs.nil)))))⟩, ?_⟩
  have fr := (Fre.step (Fre.step (Fre.step (Fre.nil h) z0.lt o0 l0) z1.lt o1 l1) z2.lt o2 l2)
  simpa only [List.nil_append, List.append_nil, List.append_assoc] using fr.both
theorem scp_Qc : ToOk cd 132 TQc := by
  intro h cs v S hv hw
  obtain ⟨vs, rfl, q0⟩ := hv.st
  obtain ⟨v0, r0, S0, T0, rfl, rfl, h0, q1⟩ := q0.step
  obtain ⟨n0, e0, rfl, rfl, lo0, hi0⟩ := h0.int
  obtain ⟨v1, r1, S1, T1, rfl, rfl, h1, q2⟩ := q1.step
  obtain ⟨n1, e1, rfl, rfl, lo1, hi1⟩ := h1.int
  obtain ⟨v2, r2, S2, T2, rfl, rfl, h2, q3⟩ := q2.step
  obtain ⟨c2, e2⟩ := h2.one rfl
  rw [e2] at h2
  obtain ⟨v3, r3, S3, T3, rfl, rfl, h3, q4⟩ := q3.step
  obtain ⟨c3, e3⟩ := h3.one rfl
  rw [e3] at h3
  obtain ⟨v4, r4, S4, T4, rfl, rfl, h4, q5⟩ := q4.step
  obtain ⟨c4, e4⟩ := h4.one rfl
  rw [e4] at h4
  obtain ⟨_, rfl, rfl⟩ := q5
  have hsz : cs.length = 5 := hv.size
  simp only [Ty.size, Ty.sizes, Nat.reduceAdd, Nat.zero_add, List.drop_zero] at e0 e1 e2 e3 e4 hsz
  simp only [wt, wts] at hw
  refine WS_enter k132 rfl ?_
  simp (disch := omega) only [KC_eq, c132, e0, e1, e2, e3, e4, hsz, ifT, w64, RR, RP, Ty.agg, Ty.size, Ty.sizes, eq_self, ne_eq, not_true, not_false_iff, reduceCtorEq, List.length_cons, List.length_nil, decide_true, decide_false, true_and, and_true, ite_true, ite_false, PT.full, enter0, setAll, forget, Fr.set, Fr.get, PT.get, PT.set, kof, ai, ev, ev1, evp, b_add, b_sub, b_mul, b_quo, b_rem, b_eql, b_neq, b_lss, b_leq, b_gtr, b_geq, b_seql, b_sneq, setD, resV, resL, res1, args, List.take_zero, List.drop_zero, List.take_nil, List.take_succ_cons, List.drop_succ_cons, Nat.reduceAdd, Nat.reduceLeDiff, reduceIte, Bool.not_true, Bool.not_false, Bool.false_eq_true, CA_some, Option.some.injEq, Nat.zero_add, Nat.mul_one, Nat.add_zero, setL, List.set_cons_zero, List.set_cons_succ, fillC]
  refine WC_call (scp_ByteS h2 (by omega)) ?_
  rintro r0 g0 ⟨t0, d0, U0, rfl, rfl, z0, o0, l0⟩
  obtain ⟨y0_0, rfl⟩ := z0.one rfl
  simp (disch := omega) only [KC_eq, c132, e0, e1, e2, e3, e4, hsz, ifT, w64, RR, RP, Ty.agg, Ty.size, Ty.sizes, eq_self, ne_eq, not_true, not_false_iff, reduceCtorEq, List.length_cons, List.length_nil, decide_true, decide_false, true_and, and_true, ite_true, ite_false, PT.full, enter0, setAll, forget, Fr.set, Fr.get, PT.get, PT.set, kof, ai, ev, ev1, evp, b_add, b_sub, b_mul, b_quo, b_rem, b_eql, b_neq, b_lss, b_leq, b_gtr, b_geq, b_seql, b_sneq, setD, resV, resL, res1, args, List.take_zero, List.drop_zero, List.take_nil, List.take_succ_cons, List.drop_succ_cons, Nat.reduceAdd, Nat.reduceLeDiff, reduceIte, Bool.not_true, Bool.not_false, Bool.false_eq_true, CA_some, Option.some.injEq, Nat.zero_add, Nat.mul_one, Nat.add_zero, setL, List.set_cons_zero, List.set_cons_succ, fillC]
  refine WC_call (scp_ByteS (h3.app) (by omega)) ?_
  rintro r1 g1 ⟨t1, d1, U1, rfl, rfl, z1, o1, l1⟩
  obtain ⟨y1_0, rfl⟩ := z1.one rfl
  simp (disch := omega) only [KC_eq, c132, e0, e1, e2, e3, e4, hsz, ifT, w64, RR, RP, Ty.agg, Ty.size, Ty.sizes, eq_self, ne_eq, not_true, not_false_iff, reduceCtorEq, List.length_cons, List.length_nil, decide_true, decide_false, true_and, and_true, ite_true, ite_false, PT.full, enter0, setAll, forget, Fr.set, Fr.get, PT.get, PT.set, kof, ai, ev, ev1, evp, b_add, b_sub, b_mul, b_quo, b_rem, b_eql, b_neq, b_lss, b_leq, b_gtr, b_geq, b_seql, b_sneq, setD, resV, resL, res1, args, List.take_zero, List.drop_zero, List.take_nil, List.take_succ_cons, List.drop_succ_cons, Nat.reduceAdd, Nat.reduceLeDiff, reduceIte, Bool.not_true, Bool.not_false, Bool.false_eq_true, CA_some, Option.some.injEq, Nat.zero_add, Nat.mul_one, Nat.add_zero, setL, List.set_cons_zero, List.set_cons_succ, fillC]
  refine WC_call (scp_ByteSS ((h4.app).app) (by omega)) ?_
  rintro r2 g2 ⟨t2, d2, U2, rfl, rfl, z2, o2, l2⟩
  obtain ⟨y2_0, rfl⟩ := z2.one rfl
  simp (disch := omega) only [KC_eq, c132, e0, e1, e2, e3, e4, hsz, ifT, w64, RR, RP, Ty.agg, Ty.size, Ty.sizes, eq_self, ne_eq, not_true, not_false_iff, reduceCtorEq, List.length_cons, List.length_nil, decide_true, decide_false, true_and, and_true, ite_true, ite_false, PT.full, enter0, setAll, forget, Fr.set, Fr.get, PT.get, PT.set, kof, ai, ev, ev1, evp, b_add, b_sub, b_mul, b_quo, b_rem, b_eql, b_neq, b_lss, b_leq, b_gtr, b_geq, b_seql, b_sneq, setD, resV, resL, res1, args, List.take_zero, List.drop_zero, List.take_nil, List.take_succ_cons, List.drop_succ_cons, Nat.reduceAdd, Nat.reduceLeDiff, reduceIte, Bool.not_true, Bool.not_false, Bool.false_eq_true, CA_some, Option.some.injEq, Nat.zero_add, Nat.mul_one, Nat.add_zero, setL, List.set_cons_zero, List.set_cons_succ, fillC]
  refine ⟨(t0 ++ (t1 ++ t2)), _, _, by simp only [List.append_assoc], rfl, ⟨_, rfl, (Rs.mk (Rp.mkInt lo0 hi0) (Rs.mk (Rp.mkInt lo1 hi1) (Rs.mk ((z0.app).app) (Rs.mk (z1.app) (Rs.mk z2 Rs.nil)))))⟩, ?_⟩
  have fr := (Fre.step (Fre.step (Fre.step (Fre.nil h) z0.lt o0 l0) z1.lt o1 l1) z2.lt o2 l2)
  simpa only [List.nil_append, List.append_nil, List.append_assoc] using fr.both
def ofQc (v : Tv) : Tv := .r [.i 2, .r [.i 0, .i 0, .l [], .i 0, .l []], v, .r [.i 0, .i 0, .i 0, .l [], .l [], .r [.i 0, .i 0, .l [], .l [], .l []]], .r [.r [.i 0, .i 0, .i 0, .l [], .l [], .r [.i 0, .i 0, .l [], .l [], .l []]], .l []], .r [.i 0, .l []], .r [.l [], .r [.i 0, .i 0, .l [], .l [], .l []]], .r [.i 0, .i 0, .i 0, .l [], .l []]]
theorem spec_OfQc : OfOk cd 57 TQc TMsg ofQc := by
  intro h cs v S hv hw
  have hsz : cs.length = 5 := hv.size
  have hall : cs.take 5 = cs := List.take_of_length_le (by omega)
  refine WS_enter k57 rfl ?_
  simp (disch := omega) only [KC_eq, c57, hsz, hall, ifT, w64, RR, RP, Ty.agg, Ty.size, Ty.sizes, eq_self, ne_eq, not_true, not_false_iff, reduceCtorEq, List.length_cons, List.length_nil, decide_true, decide_false, true_and, and_true, ite_true, ite_false, PT.full, enter0, setAll, forget, Fr.set, Fr.get, PT.get, PT.set, kof, ai, ev, ev1, evp, b_add, b_sub, b_mul, b_quo, b_rem, b_eql, b_neq, b_lss, b_leq, b_gtr, b_geq, b_seql, b_sneq, setD, resV, resL, res1, args, List.take_zero, List.drop_zero, List.take_nil, List.take_succ_cons, List.drop_succ_cons, Nat.reduceAdd, Nat.reduceLeDiff, reduceIte, Bool.not_true, Bool.not_false, Bool.false_eq_true, CA_some, Option.some.injEq, Nat.zero_add, Nat.mul_one, Nat.add_zero, setL, List.set_cons_zero, List.set_cons_succ, fillC]
  refine WC_call (scp_Qc hv hw) ?_
  rintro r0 g0 ⟨t0, d0, U0, rfl, rfl, z0, o0, l0⟩
  obtain ⟨y0, y1, y2, y3, y4, rfl⟩ := len_5 z0.size
  simp (disch := omega) only [KC_eq, c57, hsz, hall, ifT, w64, RR, RP, Ty.agg, Ty.size, Ty.sizes, eq_self, ne_eq, not_true, not_false_iff, reduceCtorEq, List.length_cons, List.length_nil, decide_true, decide_false, true_and, and_true, ite_true, ite_false, PT.full, enter0, setAll, forget, Fr.set, Fr.get, PT.get, PT.set, kof, ai, ev, ev1, evp, b_add, b_sub, b_mul, b_quo, b_rem, b_eql, b_neq, b_lss, b_leq, b_gtr, b_geq, b_seql, b_sneq, setD, resV, resL, res1, args, List.take_zero, List.drop_zero, List.take_nil, List.take_succ_cons, List.drop_succ_cons, Nat.reduceAdd, Nat.reduceLeDiff, reduceIte, Bool.not_true, Bool.not_false, Bool.false_eq_true, CA_some, Option.some.injEq, Nat.zero_add, Nat.mul_one, Nat.add_zero, setL, List.set_cons_zero, List.set_cons_succ, fillC]
  refine ⟨t0, _, _, rfl, rfl, ⟨_, rfl, (Rs.mk (Rp.mkInt (by decide) (by decide)) (Rs.mk (Rp.mkSt (Rs.mk Rp.mk0 (Rs.mk Rp.mk0 (Rs.mk Rp.mkNil (Rs.mk Rp.mk0 (Rs.mk Rp.mkNil Rs.nil)))))) (Rs.mk z0 (Rs.mk (Rp.mkSt (Rs.mk Rp.mk0 (Rs.mk Rp.mk0 (Rs.mk Rp.mk0 (Rs.mk Rp.mkNil (Rs.mk Rp.mkNil (Rs.mk (Rp.mkSt (Rs.mk Rp.mk0 (Rs.mk Rp.mk0 (Rs.mk Rp.mkNil (Rs.mk Rp.mkNil (Rs.mk Rp.mkNil Rs.nil)))))) Rs.nil))))))) (Rs.mk (Rp.mkSt (Rs.mk (Rp.mkSt (Rs.mk Rp.mk0 (Rs.mk Rp.mk0 (Rs.mk Rp.mk0 (Rs.mk Rp.mkNil (Rs.mk Rp.mkNil (Rs.mk (Rp.mkSt (Rs.mk Rp.mk0 (Rs.mk Rp.mk0 (Rs.mk Rp.mkNil (Rs.mk Rp.mkNil (Rs.mk Rp.mkNil Rs.nil)))))) Rs.nil))))))) (Rs.mk Rp.mkNil Rs.nil))) (Rs.mk (Rp.mkSt (Rs.mk Rp.mk0 (Rs.mk Rp.mkNil Rs.nil))) (Rs.mk (Rp.mkSt (Rs.mk Rp.mkNil (Rs.mk (Rp.mkSt (Rs.mk Rp.mk0 (Rs.mk Rp.mk0 (Rs.mk Rp.mkNil (Rs.mk Rp.mkNil (Rs.mk Rp.mkNil Rs.nil)))))) Rs.nil))) (Rs.mk (Rp.mkSt (Rs.mk Rp.mk0 (Rs.mk Rp.mk0 (Rs.mk Rp.mk0 (Rs.mk Rp.mkNil (Rs.mk Rp.mkNil Rs.nil)))))) Rs.nil))))))))⟩, ?_⟩
  simpa only [List.nil_append, List.append_nil, List.append_assoc] using (⟨o0, l0⟩ : Ownd _ U0 ∧ _)
theorem impl_OfQc : OfOk cd 59 TQc TMsg ofQc := by
  intro h cs v S hv hw
  have hsz : cs.length = 5 := hv.size
  have hall : cs.take 5 = cs := List.take_of_length_le (by omega)
  refine WS_enter k59 rfl ?_
  simp (disch := omega) only [KC_eq, c59, hsz, hall, ifT, w64, RR, RP, Ty.agg, Ty.size, Ty.sizes, eq_self, ne_eq, not_true, not_false_iff, reduceCtorEq, List.length_cons, List.length_nil, decide_true, decide_false, true_and, and_true, ite_true, ite_false, PT.full, enter0, setAll, forget, Fr.set, Fr.get, PT.get, PT.set, kof, ai, ev, ev1, evp, b_add, b_sub, b_mul, b_quo, b_rem, b_eql, b_neq, b_lss, b_leq, b_gtr, b_geq, b_seql, b_sneq, setD, resV, resL, res1, args, List.take_zero, List.drop_zero, List.take_nil, List.take_succ_cons, List.drop_succ_cons, Nat.reduceAdd, Nat.reduceLeDiff, reduceIte, Bool.not_true, Bool.not_false, Bool.false_eq_true, CA_some, Option.some.injEq, Nat.zero_add, Nat.mul_one, Nat.add_zero, setL, List.set_cons_zero, List.set_cons_succ, fillC]
  refine WC_call (icp_Qc hv hw) ?_
  rintro r0 g0 ⟨t0, d0, U0, rfl, rfl, z0, o0, l0⟩
  obtain ⟨y0, y1, y2, y3, y4, rfl⟩ := len_5 z0.size
  simp (disch := omega) only [KC_eq, c59, hsz, hall, ifT, w64, RR, RP, Ty.agg, Ty.size, Ty.sizes, eq_self, ne_eq, not_true, not_false_iff, reduceCtorEq, List.length_cons, List.length_nil, decide_true, decide_false, true_and, and_true, ite_true, ite_false, PT.full, enter0, setAll, forget, Fr.set, Fr.get, PT.get, PT.set, kof, ai, ev, ev1, evp, b_add, b_sub, b_mul, b_quo, b_rem, b_eql, b_neq, b_lss, b_leq, b_gtr, b_geq, b_seql, b_sneq, setD, resV, resL, res1, args, List.take_zero, List.drop_zero, List.take_nil, List.take_succ_cons, List.drop_succ_cons, Nat.reduceAdd, Nat.reduceLeDiff, reduceIte, Bool.not_true, Bool.not_false, Bool.false_eq_true, CA_some, Option.some.injEq, Nat.zero_add, Nat.mul_one, Nat.add_zero, setL, List.set_cons_zero, List.set_cons_succ, fillC]
  refine ⟨t0, _, _, rfl, rfl, ⟨_, rfl, (Rs.mk (Rp.mkInt (by decide) (by decide)) (Rs.mk (Rp.mkSt (Rs.mk Rp.mk0 (Rs.mk Rp.mk0 (Rs.mk Rp.mkNil (Rs.mk Rp.mk0 (Rs.mk Rp.mkNil Rs.nil)))))) (Rs.mk z0 (Rs.mk (Rp.mkSt (Rs.mk Rp.mk0 (Rs.mk Rp.mk0 (Rs.mk Rp.mk0 (Rs.mk Rp.mkNil (Rs.mk Rp.mkNil (Rs.mk (Rp.mkSt (Rs.mk Rp.mk0 (Rs.mk Rp.mk0 (Rs.mk Rp.mkNil (Rs.mk Rp.mkNil (Rs.mk Rp.mkNil Rs.nil)))))) Rs.nil))))))) (Rs.mk (Rp.mkSt (Rs.mk (Rp.mkSt (Rs.mk Rp.mk0 (Rs.mk Rp.mk0 (Rs.mk Rp.mk0 (Rs.mk Rp.mkNil (Rs.mk Rp.mkNil (Rs.mk (Rp.mkSt (Rs.mk Rp.mk0 (Rs.mk Rp.mk0 (Rs.mk Rp.mkNil (Rs.mk Rp.mkNil (Rs.mk Rp.mkNil Rs.nil)))))) Rs.nil))))))) (Rs.mk Rp.mkNil Rs.nil))) (Rs.mk (Rp.mkSt (Rs.mk Rp.mk0 (Rs.mk Rp.mkNil Rs.nil))) (Rs.mk (Rp.mkSt (Rs.mk Rp.mkNil (Rs.mk (Rp.mkSt (Rs.mk Rp.mk0 (Rs.mk Rp.mk0 (Rs.mk Rp.mkNil (Rs.mk Rp.mkNil (Rs.mk Rp.mkNil Rs.nil)))))) Rs.nil))) (Rs.mk (Rp.mkSt (Rs.mk Rp.mk0 (Rs.mk Rp.mk0 (Rs.mk Rp.mk0 (Rs.mk Rp.mkNil (Rs.mk Rp.mkNil Rs.nil)))))) Rs.nil))))))))⟩, ?_⟩
  simpa only [List.nil_append, List.append_nil, List.append_assoc] using (⟨o0, l0⟩ : Ownd _ U0 ∧ _)
end Go.Eng.U
