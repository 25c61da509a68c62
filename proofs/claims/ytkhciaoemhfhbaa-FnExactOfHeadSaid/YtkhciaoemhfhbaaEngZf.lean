import Derived.Test.YtkhciaoemhfhbaaEngZa
set_option maxRecDepth 100000
set_option linter.unusedSimpArgs false
set_option linter.unusedVariables false
namespace Go.Eng.U
/-- (impl.Head).copied -/
def c75 : AF := ⟨1, 5, [.cell 2 10 true], (.seq (.ops [.i (.lbox 1 (.s 0)), .i (.lal 2 [.int .i64 0, .int .i64 0, .int .i64 0, .nils, .nils, .int .i64 0, .int .i64 0, .nils, .nils, .nils])]) (.seq (.ops [.i (.fad 3 (.s 1) 0), .i (.ldl 4 1 (.s 3) 1 false), .i (.fad 5 (.s 1) 1), .i (.ldl 6 1 (.s 5) 1 false), .i (.fad 7 (.s 1) 2), .i (.ldl 8 1 (.s 7) 1 false), .i (.fad 9 (.s 1) 3), .i (.ldl 10 1 (.s 9) 1 false), .i (.call 12 70 false [(.s 10)]), .i (.fad 12 (.s 1) 4), .i (.ldl 13 1 (.s 12) 1 false), .i (.call 15 70 false [(.s 13)]), .i (.fad 15 (.s 1) 5), .i (.ldl 16 1 (.s 15) 5 true), .i (.call 18 133 false [(.s 16)]), .i (.bld 18 [.int .i64 0, .int .i64 0, .int .i64 0, .nils, .nils, .int .i64 0, .int .i64 0, .nils, .nils, .nils] [(0, 1, (.s 4)), (1, 1, (.s 6)), (2, 1, (.s 8)), (3, 1, (.s 11)), (4, 1, (.s 14)), (5, 5, (.s 17))]), .i (.stl 2 (.s 2) (.s 18) 10)]) .ret))⟩
theorem k75 : cd 75 = some c75 := by kernel_rfl
/-- spec.l13Copy -/
def c102 : AF := ⟨1, 5, [.cell 2 10 true], (.seq (.ops [.i (.lbox 1 (.s 0)), .i (.lal 2 [.int .i64 0, .int .i64 0, .int .i64 0, .nils, .nils, .int .i64 0, .int .i64 0, .nils, .nils, .nils])]) (.seq (.ops [.i (.fad 3 (.s 1) 0), .i (.ldl 4 1 (.s 3) 1 false), .i (.fad 5 (.s 1) 1), .i (.ldl 6 1 (.s 5) 1 false), .i (.fad 7 (.s 1) 2), .i (.ldl 8 1 (.s 7) 1 false), .i (.fad 9 (.s 1) 3), .i (.ldl 10 1 (.s 9) 1 false), .i (.call 12 157 false [(.s 10)]), .i (.fad 12 (.s 1) 4), .i (.ldl 13 1 (.s 12) 1 false), .i (.call 15 157 false [(.s 13)]), .i (.fad 15 (.s 1) 5), .i (.ldl 16 1 (.s 15) 5 true), .i (.call 18 132 false [(.s 16)]), .i (.bld 18 [.int .i64 0, .int .i64 0, .int .i64 0, .nils, .nils, .int .i64 0, .int .i64 0, .nils, .nils, .nils] [(0, 1, (.s 4)), (1, 1, (.s 6)), (2, 1, (.s 8)), (3, 1, (.s 11)), (4, 1, (.s 14)), (5, 5, (.s 17))]), .i (.stl 2 (.s 2) (.s 18) 10)]) .ret))⟩
theorem k102 : cd 102 = some c102 := by kernel_rfl
/-- spec.OfHead -/
def c63 : AF := ⟨1, 3, [.cell 2 45 true], (.seq (.ops [.i (.lbox 1 (.s 0)), .i (.lal 2 [.int .i64 0, .int .i64 0, .int .i64 0, .nils, .int .i64 0, .nils, .int .i64 0, .int .i64 0, .nils, .nils, .nils, .int .i64 0, .int .i64 0, .int .i64 0, .nils, .nils, .int .i64 0, .int .i64 0, .nils, .nils, .nils, .int .i64 0, .int .i64 0, .int .i64 0, .nils, .nils, .int .i64 0, .int .i64 0, .nils, .nils, .nils, .nils, .int .i64 0, .nils, .nils, .int .i64 0, .int .i64 0, .nils, .nils, .nils, .int .i64 0, .int .i64 0, .int .i64 0, .nils, .nils])]) (.seq (.ops [.i (.ldl 3 1 (.s 1) 10 true), .i (.call 5 102 false [(.s 3)]), .i (.bld 5 [.int .i64 0, .int .i64 0, .int .i64 0, .nils, .int .i64 0, .nils, .int .i64 0, .int .i64 0, .nils, .nils, .nils, .int .i64 0, .int .i64 0, .int .i64 0, .nils, .nils, .int .i64 0, .int .i64 0, .nils, .nils, .nils, .int .i64 0, .int .i64 0, .int .i64 0, .nils, .nils, .int .i64 0, .int .i64 0, .nils, .nils, .nils, .nils, .int .i64 0, .nils, .nils, .int .i64 0, .int .i64 0, .nils, .nils, .nils, .int .i64 0, .int .i64 0, .int .i64 0, .nils, .nils] [(0, 1, (.c (.val false [.int .i64 3]))), (11, 10, (.s 4))]), .i (.stl 2 (.s 2) (.s 5) 45)]) .ret))⟩
theorem k63 : cd 63 = some c63 := by kernel_rfl
/-- impl.OfHead -/
def c65 : AF := ⟨1, 3, [.cell 2 45 true], (.seq (.ops [.i (.lbox 1 (.s 0)), .i (.lal 2 [.int .i64 0, .int .i64 0, .int .i64 0, .nils, .int .i64 0, .nils, .int .i64 0, .int .i64 0, .nils, .nils, .nils, .int .i64 0, .int .i64 0, .int .i64 0, .nils, .nils, .int .i64 0, .int .i64 0, .nils, .nils, .nils, .int .i64 0, .int .i64 0, .int .i64 0, .nils, .nils, .int .i64 0, .int .i64 0, .nils, .nils, .nils, .nils, .int .i64 0, .nils, .nils, .int .i64 0, .int .i64 0, .nils, .nils, .nils, .int .i64 0, .int .i64 0, .int .i64 0, .nils, .nils])]) (.seq (.ops [.i (.ldl 3 1 (.s 1) 10 true), .i (.call 5 75 false [(.s 3)]), .i (.bld 5 [.int .i64 0, .int .i64 0, .int .i64 0, .nils, .int .i64 0, .nils, .int .i64 0, .int .i64 0, .nils, .nils, .nils, .int .i64 0, .int .i64 0, .int .i64 0, .nils, .nils, .int .i64 0, .int .i64 0, .nils, .nils, .nils, .int .i64 0, .int .i64 0, .int .i64 0, .nils, .nils, .int .i64 0, .int .i64 0, .nils, .nils, .nils, .nils, .int .i64 0, .nils, .nils, .int .i64 0, .int .i64 0, .nils, .nils, .nils, .int .i64 0, .int .i64 0, .int .i64 0, .nils, .nils] [(0, 1, (.c (.val false [.int .i64 3]))), (11, 10, (.s 4))]), .i (.stl 2 (.s 2) (.s 5) 45)]) .ret))⟩
theorem k65 : cd 65 = some c65 := by kernel_rfl
theorem icp_Head : ToOk cd 75 THead := by
  intro h cs v S hv hw
  obtain ⟨vs, rfl, q0⟩ := hv.st
  obtain ⟨v0, r0, S0, T0, rfl, rfl, h0, q1⟩ := q0.step
  obtain ⟨n0, e0, rfl, rfl, lo0, hi0⟩ := h0.int
  obtain ⟨v1, r1, S1, T1, rfl, rfl, h1, q2⟩ := q1.step
  obtain ⟨n1, e1, rfl, rfl, lo1, hi1⟩ := h1.int
  obtain ⟨v2, r2, S2, T2, rfl, rfl, h2, q3⟩ := q2.step
  obtain ⟨n2, e2, rfl, rfl, lo2, hi2⟩ := h2.int
  obtain ⟨v3, r3, S3, T3, rfl, rfl, h3, q4⟩ := q3.step
  obtain ⟨c3, e3⟩ := h3.one rfl
  rw [e3] at h3
  obtain ⟨v4, r4, S4, T4, rfl, rfl, h4, q5⟩ := q4.step
  obtain ⟨c4, e4⟩ := h4.one rfl
  rw [e4] at h4
  obtain ⟨v5, r5, S5, T5, rfl, rfl, h5, q6⟩ := q5.step
  obtain ⟨_, rfl, rfl⟩ := q6
  have hsz : cs.length = 10 := hv.size
  simp only [Ty.size, Ty.sizes, Nat.reduceAdd, Nat.zero_add, List.drop_zero] at e0 e1 e2 e3 e4 hsz h5
  simp only [wt, wts] at hw
  refine WS_enter k75 rfl ?_
  simp (disch := omega) only [KC_eq, c75, e0, e1, e2, e3, e4, hsz, ifT, w64, RR, RP, Ty.agg, Ty.size, Ty.sizes, eq_self, ne_eq, not_true, not_false_iff, reduceCtorEq, List.length_cons, List.length_nil, decide_true, decide_false, true_and, and_true, ite_true, ite_false, PT.full, enter0, setAll, forget, Fr.set, Fr.get, PT.get, PT.set, kof, ai, ev, ev1, evp, b_add, b_sub, b_mul, b_quo, b_rem, b_eql, b_neq, b_lss, b_leq, b_gtr, b_geq, b_seql, b_sneq, setD, resV, resL, res1, args, List.take_zero, List.drop_zero, List.take_nil, List.take_succ_cons, List.drop_succ_cons, Nat.reduceAdd, Nat.reduceLeDiff, reduceIte, Bool.not_true, Bool.not_false, Bool.false_eq_true, CA_some, Option.some.injEq, Nat.zero_add, Nat.mul_one, Nat.add_zero, setL, List.set_cons_zero, List.set_cons_succ, fillC]
  refine WC_call (icp_ByteS h3 (by omega)) ?_
  rintro r0 g0 ⟨t0, d0, U0, rfl, rfl, z0, o0, l0⟩
  obtain ⟨y0_0, rfl⟩ := z0.one rfl
  simp (disch := omega) only [KC_eq, c75, e0, e1, e2, e3, e4, hsz, ifT, w64, RR, RP, Ty.agg, Ty.size, Ty.sizes, eq_self, ne_eq, not_true, not_false_iff, reduceCtorEq, List.length_cons, List.length_nil, decide_true, decide_false, true_and, and_true, ite_true, ite_false, PT.full, enter0, setAll, forget, Fr.set, Fr.get, PT.get, PT.set, kof, ai, ev, ev1, evp, b_add, b_sub, b_mul, b_quo, b_rem, b_eql, b_neq, b_lss, b_leq, b_gtr, b_geq, b_seql, b_sneq, setD, resV, resL, res1, args, List.take_zero, List.drop_zero, List.take_nil, List.take_succ_cons, List.drop_succ_cons, Nat.reduceAdd, Nat.reduceLeDiff, reduceIte, Bool.not_true, Bool.not_false, Bool.false_eq_true, CA_some, Option.some.injEq, Nat.zero_add, Nat.mul_one, Nat.add_zero, setL, List.set_cons_zero, List.set_cons_succ, fillC]
  refine WC_call (icp_ByteS (h4.app) (by omega)) ?_
  rintro r1 g1 ⟨t1, d1, U1, rfl, rfl, z1, o1, l1⟩
  obtain ⟨y1_0, rfl⟩ := z1.one rfl
  simp (disch := omega) only [KC_eq, c75, e0, e1, e2, e3, e4, hsz, ifT, w64, RR, RP, Ty.agg, Ty.size, Ty.sizes, eq_self, ne_eq, not_true, not_false_iff, reduceCtorEq, List.length_cons, List.length_nil, decide_true, decide_false, true_and, and_true, ite_true, ite_false, PT.full, enter0, setAll, forget, Fr.set, Fr.get, PT.get, PT.set, kof, ai, ev, ev1, evp, b_add, b_sub, b_mul, b_quo, b_rem, b_eql, b_neq, b_lss, b_leq, b_gtr, b_geq, b_seql, b_sneq, setD, resV, resL, res1, args, List.take_zero, List.drop_zero, List.take_nil, List.take_succ_cons, List.drop_succ_cons, Nat.reduceAdd, Nat.reduceLeDiff, reduceIte, Bool.not_true, Bool.not_false, Bool.false_eq_true, CA_some, Option.some.injEq, Nat.zero_add, Nat.mul_one, Nat.add_zero, setL, List.set_cons_zero, List.set_cons_succ, fillC]
  refine WC_call (icp_Qc ((h5.app).app) (by omega)) ?_
  rintro r2 g2 ⟨t2, d2, U2, rfl, rfl, z2, o2, l2⟩
  obtain ⟨y2_0, y2_1, y2_2, y2_3, y2_4, rfl⟩ := len_5 z2.size
  simp (disch := omega) only [KC_eq, c75, e0, e1, e2, e3, e4, hsz, ifT, w64, RR, RP, Ty.agg, Ty.size, Ty.sizes, eq_self, ne_eq, not_true, not_false_iff, reduceCtorEq, List.length_cons, List.length_nil, decide_true, decide_false, true_and, and_true, ite_true, ite_false, PT.full, enter0, setAll, forget, Fr.set, Fr.get, PT.get, PT.set, kof, ai, ev, ev1, evp, b_add, b_sub, b_mul, b_quo, b_rem, b_eql, b_neq, b_lss, b_leq, b_gtr, b_geq, b_seql, b_sneq, setD, resV, resL, res1, args, List.take_zero, List.drop_zero, List.take_nil, List.take_succ_cons, List.drop_succ_cons, Nat.reduceAdd, Nat.reduceLeDiff, reduceIte, Bool.not_true, Bool.not_false, Bool.false_eq_true, CA_some, Option.some.injEq, Nat.zero_add, Nat.mul_one, Nat.add_zero, setL, List.set_cons_zero, List.set_cons_succ, fillC]
  refine ⟨(t0 ++ (t1 ++ t2)), _, _, by simp only [List.append_assoc], rfl, ⟨_, rfl, (Rs.mk (Rp.mkInt lo0 hi0) (Rs.mk (Rp.mkInt lo1 hi1) (Rs.mk (Rp.mkInt lo2 hi2) (Rs.mk ((z0.app).app) (Rs.mk (z1.app) (Rs.mk z2 Rs.nil))))))⟩, ?_⟩
  have fr := (Fre.step (Fre.step (Fre.step (Fre.nil h) z0.lt o0 l0) z1.lt o1 l1) z2.lt o2 l2)
  simpa only [List.nil_append, List.append_nil, List.append_assoc] using fr.both
theorem scp_Head : ToOk cd 102 THead := by
  intro h cs v S hv hw
  obtain ⟨vs, rfl, q0⟩ := hv.st
  obtain ⟨v0, r0, S0, T0, rfl, rfl, h0, q1⟩ := q0.step
  obtain ⟨n0, e0, rfl, rfl, lo0, hi0⟩ := h0.int
  obtain ⟨v1, r1, S1, T1, rfl, rfl, h1, q2⟩ := q1.step
  obtain ⟨n1, e1, rfl, rfl, lo1, hi1⟩ := h1.int
  obtain ⟨v2, r2, S2, T2, rfl, rfl, h2, q3⟩ := q2.step
  obtain ⟨n2, e2, rfl, rfl, lo2, hi2⟩ := h2.int
  obtain ⟨v3, r3, S3, T3, rfl, rfl, h3, q4⟩ := q3.step
  obtain ⟨c3, e3⟩ := h3.one rfl
  rw [e3] at h3
  obtain ⟨v4, r4, S4, T4, rfl, rfl, h4, q5⟩ := q4.step
  obtain ⟨c4, e4⟩ := h4.one rfl
  rw [e4] at h4
  obtain ⟨v5, r5, S5, T5, rfl, rfl, h5, q6⟩ := q5.step
  obtain ⟨_, rfl, rfl⟩ := q6
  have hsz : cs.length = 10 := hv.size
  simp only [Ty.size, Ty.sizes, Nat.reduceAdd, Nat.zero_add, List.drop_zero] at e0 e1 e2 e3 e4 hsz h5
  simp only [wt, wts] at hw
  refine WS_enter k102 rfl ?_
  simp (disch := omega) only [KC_eq, c102, e0, e1, e2, e3, e4, hsz, ifT, w64, RR, RP, Ty.agg, Ty.size, Ty.sizes, eq_self, ne_eq, not_true, not_false_iff, reduceCtorEq, List.length_cons, List.length_nil, decide_true, decide_false, true_and, and_true, ite_true, ite_false, PT.full, enter0, setAll, forget, Fr.set, Fr.get, PT.get, PT.set, kof, ai, ev, ev1, evp, b_add, b_sub, b_mul, b_quo, b_rem, b_eql, b_neq, b_lss, b_leq, b_gtr, b_geq, b_seql, b_sneq, setD, resV, resL, res1, args, List.take_zero, List.drop_zero, List.take_nil, List.take_succ_cons, List.drop_succ_cons, Nat.reduceAdd, Nat.reduceLeDiff, reduceIte, Bool.not_true, Bool.not_false, Bool.false_eq_true, CA_some, Option.some.injEq, Nat.zero_add, Nat.mul_one, Nat.add_zero, setL, List.set_cons_zero, List.set_cons_succ, fillC]
  refine WC_call (scp_ByteS h3 (by omega)) ?_
  rintro r0 g0 ⟨t0, d0, U0, rfl, rfl, z0, o0, l0⟩
  obtain ⟨y0_0, rfl⟩ := z0.one rfl
  simp (disch := omega) only [KC_eq, c102, e0, e1, e2, e3, e4, hsz, ifT, w64, RR, RP, Ty.agg, Ty.size, Ty.sizes, eq_self, ne_eq, not_true, not_false_iff, reduceCtorEq, List.length_cons, List.length_nil, decide_true, decide_false, true_and, and_true, ite_true, ite_false, PT.full, enter0, setAll, forget, Fr.set, Fr.get, PT.get, PT.set, kof, ai, ev, ev1, evp, b_add, b_sub, b_mul, b_quo, b_rem, b_eql, b_neq, b_lss, b_leq, b_gtr, b_geq, b_seql, b_sneq, setD, resV, resL, res1, args, List.take_zero, List.drop_zero, List.take_nil, List.take_succ_cons, List.drop_succ_cons, Nat.reduceAdd, Nat.reduceLeDiff, reduceIte, Bool.not_true, Bool.not_false, Bool.false_eq_true, CA_some, Option.some.injEq, Nat.zero_add, Nat.mul_one, Nat.add_zero, setL, List.set_cons_zero, List.set_cons_succ, fillC]
  refine WC_call (scp_ByteS (h4.app) (by omega)) ?_
  rintro r1 g1 ⟨t1, d1, U1, rfl, rfl, z1, o1, l1⟩
  obtain ⟨y1_0, rfl⟩ := z1.one rfl
  simp (disch := omega) only [KC_eq, c102, e0, e1, e2, e3, e4, hsz, ifT, w64, RR, RP, Ty.agg, Ty.size, Ty.sizes, eq_self, ne_eq, not_true, not_false_iff, reduceCtorEq, List.length_cons, List.length_nil, decide_true, decide_false, true_and, and_true, ite_true, ite_false, PT.full, enter0, setAll, forget, Fr.set, Fr.get, PT.get, PT.set, kof, ai, ev, ev1, evp, b_add, b_sub, b_mul, b_quo, b_rem, b_eql, b_neq, b_lss, b_leq, b_gtr, b_geq, b_seql, b_sneq, setD, resV, resL, res1, args, List.take_zero, List.drop_zero, List.take_nil, List.take_succ_cons, List.drop_succ_cons, Nat.reduceAdd, Nat.reduceLeDiff, reduceIte, Bool.not_true, Bool.not_false, Bool.false_eq_true, CA_some, Option.some.injEq, Nat.zero_add, Nat.mul_one, Nat.add_zero, setL, List.set_cons_zero, List.set_cons_succ, fillC]
  refine WC_call (scp_Qc ((h5.app).app) (by omega)) ?_
  rintro r2 g2 ⟨t2, d2, U2, rfl, rfl, z2, o2, l2⟩
  obtain ⟨y2_0, y2_1, y2_2, y2_3, y2_4, rfl⟩ := len_5 z2.size
  simp (disch := omega) only [KC_eq, c102, e0, e1, e2, e3, e4, hsz, ifT, w64, RR, RP, Ty.agg, Ty.size, Ty.sizes, eq_self, ne_eq, not_true, not_false_iff, reduceCtorEq, List.length_cons, List.length_nil, decide_true, decide_false, true_and, and_true, ite_true, ite_false, PT.full, enter0, setAll, forget, Fr.set, Fr.get, PT.get, PT.set, kof, ai, ev, ev1, evp, b_add, b_sub, b_mul, b_quo, b_rem, b_eql, b_neq, b_lss, b_leq, b_gtr, b_geq, b_seql, b_sneq, setD, resV, resL, res1, args, List.take_zero, List.drop_zero, List.take_nil, List.take_succ_cons, List.drop_succ_cons, Nat.reduceAdd, Nat.reduceLeDiff, reduceIte, Bool.not_true, Bool.not_false, Bool.false_eq_true, CA_some, Option.some.injEq, Nat.zero_add, Nat.mul_one, Nat.add_zero, setL, List.set_cons_zero, List.set_cons_succ, fillC]
  refine ⟨(t0 ++ (t1 ++ t2)), _, _, by simp only [List.append_assoc], rfl, ⟨_, rfl, (Rs.mk (Rp.mkInt lo0 hi0) (Rs.mk (Rp.mkInt lo1 hi1) (Rs.mk (Rp.mkInt lo2 hi2) (Rs.mk ((z0.app).app) (Rs.mk (z1.app) (Rs.mk z2 Rs.nil))))))⟩, ?_⟩
  have fr := (Fre.step (Fre.step (Fre.step (Fre.nil h) z0.lt o0 l0) z1.lt o1 l1) z2.lt o2 l2)
  simpa only [List.nil_append, List.append_nil, List.append_assoc] using fr.both
def ofHead (v : Tv) : Tv := .r [.i 3, .r [.i 0, .i 0, .l [], .i 0, .l []], .r [.i 0, .i 0, .l [], .l [], .l []], v, .r [.r [.i 0, .i 0, .i 0, .l [], .l [], .r [.i 0, .i 0, .l [], .l [], .l []]], .l []], .r [.i 0, .l []], .r [.l [], .r [.i 0, .i 0, .l [], .l [], .l []]], .r [.i 0, .i 0, .i 0, .l [], .l []]]
theorem spec_OfHead : OfOk cd 63 THead TMsg ofHead := by
  intro h cs v S hv hw
  have hsz : cs.length = 10 := hv.size
  have hall : cs.take 10 = cs := List.take_of_length_le (by omega)
  refine WS_enter k63 rfl ?_
  simp (disch := omega) only [KC_eq, c63, hsz, hall, ifT, w64, RR, RP, Ty.agg, Ty.size, Ty.sizes, eq_self, ne_eq, not_true, not_false_iff, reduceCtorEq, List.length_cons, List.length_nil, decide_true, decide_false, true_and, and_true, ite_true, ite_false, PT.full, enter0, setAll, forget, Fr.set, Fr.get, PT.get, PT.set, kof, ai, ev, ev1, evp, b_add, b_sub, b_mul, b_quo, b_rem, b_eql, b_neq, b_lss, b_leq, b_gtr, b_geq, b_seql, b_sneq, setD, resV, resL, res1, args, List.take_zero, List.drop_zero, List.take_nil, List.take_succ_cons, List.drop_succ_cons, Nat.reduceAdd, Nat.reduceLeDiff, reduceIte, Bool.not_true, Bool.not_false, Bool.false_eq_true, CA_some, Option.some.injEq, Nat.zero_add, Nat.mul_one, Nat.add_zero, setL, List.set_cons_zero, List.set_cons_succ, fillC]
  refine WC_call (scp_Head hv hw) ?_
  rintro r0 g0 ⟨t0, d0, U0, rfl, rfl, z0, o0, l0⟩
  obtain ⟨y0, y1, y2, y3, y4, y5, y6, y7, y8, y9, rfl⟩ := len_10 z0.size
  simp (disch := omega) only [KC_eq, c63, hsz, hall, ifT, w64, RR, RP, Ty.agg, Ty.size, Ty.sizes, eq_self, ne_eq, not_true, not_false_iff, reduceCtorEq, List.length_cons, List.length_nil, decide_true, decide_false, true_and, and_true, ite_true, ite_false, PT.full, enter0, setAll, forget, Fr.set, Fr.get, PT.get, PT.set, kof, ai, ev, ev1, evp, b_add, b_sub, b_mul, b_quo, b_rem, b_eql, b_neq, b_lss, b_leq, b_gtr, b_geq, b_seql, b_sneq, setD, resV, resL, res1, args, List.take_zero, List.drop_zero, List.take_nil, List.take_succ_cons, List.drop_succ_cons, Nat.reduceAdd, Nat.reduceLeDiff, reduceIte, Bool.not_true, Bool.not_false, Bool.false_eq_true, CA_some, Option.some.injEq, Nat.zero_add, Nat.mul_one, Nat.add_zero, setL, List.set_cons_zero, List.set_cons_succ, fillC]
  refine ⟨t0, _, _, rfl, rfl, ⟨_, rfl, (Rs.mk (Rp.mkInt (by decide) (by decide)) (Rs.mk (Rp.mkSt (Rs.mk Rp.mk0 (Rs.mk Rp.mk0 (Rs.mk Rp.mkNil (Rs.mk Rp.mk0 (Rs.mk Rp.mkNil Rs.nil)))))) (Rs.mk (Rp.mkSt (Rs.mk Rp.mk0 (Rs.mk Rp.mk0 (Rs.mk Rp.mkNil (Rs.mk Rp.mkNil (Rs.mk Rp.mkNil Rs.nil)))))) (Rs.mk z0 (Rs.mk (Rp.mkSt (Rs.mk (Rp.mkSt (Rs.mk Rp.mk0 (Rs.mk Rp.mk0 (Rs.mk Rp.mk0 (Rs.mk Rp.mkNil (Rs.mk Rp.mkNil (Rs.mk (Rp.mkSt (Rs.mk Rp.mk0 (Rs.mk Rp.mk0 (Rs.mk Rp.mkNil (Rs.mk Rp.mkNil (Rs.mk Rp.mkNil Rs.nil)))))) Rs.nil))))))) (Rs.mk Rp.mkNil Rs.nil))) (Rs.mk (Rp.mkSt (Rs.mk Rp.mk0 (Rs.mk Rp.mkNil Rs.nil))) (Rs.mk (Rp.mkSt (Rs.mk Rp.mkNil (Rs.mk (Rp.mkSt (Rs.mk Rp.mk0 (Rs.mk Rp.mk0 (Rs.mk Rp.mkNil (Rs.mk Rp.mkNil (Rs.mk Rp.mkNil Rs.nil)))))) Rs.nil))) (Rs.mk (Rp.mkSt (Rs.mk Rp.mk0 (Rs.mk Rp.mk0 (Rs.mk Rp.mk0 (Rs.mk Rp.mkNil (Rs.mk Rp.mkNil Rs.nil)))))) Rs.nil))))))))⟩, ?_⟩
  simpa only [List.nil_append, List.append_nil, List.append_assoc] using (⟨o0, l0⟩ : Ownd _ U0 ∧ _)
theorem impl_OfHead : OfOk cd 65 THead TMsg ofHead := by
  intro h cs v S hv hw
  have hsz : cs.length = 10 := hv.size
  have hall : cs.take 10 = cs := List.take_of_length_le (by omega)
  refine WS_enter k65 rfl ?_
  simp (disch := omega) only [KC_eq, c65, hsz, hall, ifT, w64, RR, RP, Ty.agg, Ty.size, Ty.sizes, eq_self, ne_eq, not_true, not_false_iff, reduceCtorEq, List.length_cons, List.length_nil, decide_true, decide_false, true_and, and_true, ite_true, ite_false, PT.full, enter0, setAll, forget, Fr.set, Fr.get, PT.get, PT.set, kof, ai, ev, ev1, evp, b_add, b_sub, b_mul, b_quo, b_rem, b_eql, b_neq, b_lss, b_leq, b_gtr, b_geq, b_seql, b_sneq, setD, resV, resL, res1, args, List.take_zero, List.drop_zero, List.take_nil, List.take_succ_cons, List.drop_succ_cons, Nat.reduceAdd, Nat.reduceLeDiff, reduceIte, Bool.not_true, Bool.not_false, Bool.false_eq_true, CA_some, Option.some.injEq, Nat.zero_add, Nat.mul_one, Nat.add_zero, setL, List.set_cons_zero, List.set_cons_succ, fillC]
  refine WC_call (icp_Head hv hw) ?_
  rintro r0 g0 ⟨t0, d0, U0, rfl, rfl, z0, o0, l0⟩
  obtain ⟨y0, y1, y2, y3, y4, y5, y6, y7, y8, y9, rfl⟩ := len_10 z0.size
  simp (disch := omega) only [KC_eq, c65, hsz, hall, ifT, w64, RR, RP, Ty.agg, Ty.size, Ty.sizes, eq_self, ne_eq, not_true, not_false_iff, reduceCtorEq, List.length_cons, List.length_nil, decide_true, decide_false, true_and, and_true, ite_true, ite_false, PT.full, enter0, setAll, forget, Fr.set, Fr.get, PT.get, PT.set, kof, ai, ev, ev1, evp, b_add, b_sub, b_mul, b_quo, b_rem, b_eql, b_neq, b_lss, b_leq, b_gtr, b_geq, b_seql, b_sneq, setD, resV, resL, res1, args, List.take_zero, List.drop_zero, List.take_nil, List.take_succ_cons, List.drop_succ_cons, Nat.reduceAdd, Nat.reduceLeDiff, reduceIte, Bool.not_true, Bool.not_false, Bool.false_eq_true, CA_some, Option.some.injEq, Nat.zero_add, Nat.mul_one, Nat.add_zero, setL, List.set_cons_zero, List.set_cons_succ, fillC]
  refine ⟨t0, _, _, rfl, rfl, ⟨_, rfl, (Rs.mk (Rp.mkInt (by decide) (by decide)) (Rs.mk (Rp.mkSt (Rs.mk Rp.mk0 (Rs.mk Rp.mk0 (Rs.mk Rp.mkNil (Rs.mk Rp.mk0 (Rs.mk Rp.mkNil Rs.nil)))))) (Rs.mk (Rp.mkSt (Rs.mk Rp.mk0 (Rs.mk Rp.mk0 (Rs.mk Rp.mkNil (Rs.mk Rp.mkNil (Rs.mk Rp.mkNil Rs.nil)))))) (Rs.mk z0 (Rs.mk (Rp.mkSt (Rs.mk (Rp.mkSt (Rs.mk Rp.mk0 (Rs.mk Rp.mk0 (Rs.mk Rp.mk0 (Rs.mk Rp.mkNil (Rs.mk Rp.mkNil (Rs.mk (Rp.mkSt (Rs.mk Rp.mk0 (Rs.mk Rp.mk0 (Rs.mk Rp.mkNil (Rs.mk Rp.mkNil (Rs.mk Rp.mkNil Rs.nil)))))) Rs.nil))))))) (Rs.mk Rp.mkNil Rs.nil))) (Rs.mk (Rp.mkSt (Rs.mk Rp.mk0 (Rs.mk Rp.mkNil Rs.nil))) (Rs.mk (Rp.mkSt (Rs.mk Rp.mkNil (Rs.mk (Rp.mkSt (Rs.mk Rp.mk0 (Rs.mk Rp.mk0 (Rs.mk Rp.mkNil (Rs.mk Rp.mkNil (Rs.mk Rp.mkNil Rs.nil)))))) Rs.nil))) (Rs.mk (Rp.mkSt (Rs.mk Rp.mk0 (Rs.mk Rp.mk0 (Rs.mk Rp.mk0 (Rs.mk Rp.mkNil (Rs.mk Rp.mkNil Rs.nil)))))) Rs.nil))))))))⟩, ?_⟩
  simpa only [List.nil_append, List.append_nil, List.append_assoc] using (⟨o0, l0⟩ : Ownd _ U0 ∧ _)
end Go.Eng.U
