import Derived.Test.YtaicdpancmfhnaaLgBa
set_option maxRecDepth 100000
set_option linter.unusedSimpArgs false
set_option linter.unusedVariables false
namespace Go.Eng.U
theorem eq_Tc : EqOk cd 70 TTc := by
  intro h ca cb va vb Sa Sb ha hb
  obtain ⟨avs, rfl, aq0⟩ := ha.st
  obtain ⟨av0, ar0, aS0, aT0, rfl, rfl, ah0, aq1⟩ := aq0.step
  obtain ⟨an0, ae0, rfl, rfl, alo0, ahi0⟩ := ah0.int
  obtain ⟨av1, ar1, aS1, aT1, rfl, rfl, ah1, aq2⟩ := aq1.step
  obtain ⟨ac1, ae1⟩ := ah1.one rfl
  rw [ae1] at ah1
  obtain ⟨_, rfl, rfl⟩ := aq2
  have ahsz : ca.length = 2 := ha.size
  obtain ⟨bvs, rfl, bq0⟩ := hb.st
  obtain ⟨bv0, br0, bS0, bT0, rfl, rfl, bh0, bq1⟩ := bq0.step
  obtain ⟨bn0, be0, rfl, rfl, blo0, bhi0⟩ := bh0.int
  obtain ⟨bv1, br1, bS1, bT1, rfl, rfl, bh1, bq2⟩ := bq1.step
  obtain ⟨bc1, be1⟩ := bh1.one rfl
  rw [be1] at bh1
  obtain ⟨_, rfl, rfl⟩ := bq2
  have bhsz : cb.length = 2 := hb.size
  simp only [Ty.size, Ty.sizes, Nat.reduceAdd, Nat.zero_add, List.drop_zero] at ae0 ae1 ahsz be0 be1 bhsz
  refine WS_enter k70 rfl ?_
  simp (disch := omega) only [KC_eq, c70, ae0, ae1, ahsz, be0, be1, bhsz, ifT, w64, RR, RP, Ty.agg, Ty.size, Ty.sizes, eq_self, ne_eq, not_true, not_false_iff, reduceCtorEq, List.length_cons, List.length_nil, decide_true, decide_false, true_and, and_true, ite_true, ite_false, PT.full, enter0, setAll, forget, Fr.set, Fr.get, PT.get, PT.set, kof, ai, ev, ev1, evp, b_add, b_sub, b_mul, b_quo, b_rem, b_eql, b_neq, b_lss, b_leq, b_gtr, b_geq, b_seql, b_sneq, setD, resV, resL, res1, args, List.take_zero, List.drop_zero, List.take_nil, List.take_succ_cons, List.drop_succ_cons, Nat.reduceAdd, Nat.reduceLeDiff, reduceIte, Bool.not_true, Bool.not_false, Bool.false_eq_true, CA_some, Option.some.injEq, Nat.zero_add, Nat.mul_one, Nat.add_zero, setL, List.set_cons_zero, List.set_cons_succ, fillC]
  refine BR_dec (fun hn => ?_) (fun hn => ?_)
  case refine_1 =>
    simp (disch := omega) only [KC_eq, c70, ae0, ae1, ahsz, be0, be1, bhsz, ifT, w64, RR, RP, Ty.agg, Ty.size, Ty.sizes, eq_self, ne_eq, not_true, not_false_iff, reduceCtorEq, List.length_cons, List.length_nil, decide_true, decide_false, true_and, and_true, ite_true, ite_false, PT.full, enter0, setAll, forget, Fr.set, Fr.get, PT.get, PT.set, kof, ai, ev, ev1, evp, b_add, b_sub, b_mul, b_quo, b_rem, b_eql, b_neq, b_lss, b_leq, b_gtr, b_geq, b_seql, b_sneq, setD, resV, resL, res1, args, List.take_zero, List.drop_zero, List.take_nil, List.take_succ_cons, List.drop_succ_cons, Nat.reduceAdd, Nat.reduceLeDiff, reduceIte, Bool.not_true, Bool.not_false, Bool.false_eq_true, CA_some, Option.some.injEq, Nat.zero_add, Nat.mul_one, Nat.add_zero, setL, List.set_cons_zero, List.set_cons_succ, fillC]
    simp [hn]
  have d0 : an0 = bn0 := by omega
  subst d0
  simp (disch := omega) only [KC_eq, c70, ae0, ae1, ahsz, be0, be1, bhsz, ifT, w64, RR, RP, Ty.agg, Ty.size, Ty.sizes, eq_self, ne_eq, not_true, not_false_iff, reduceCtorEq, List.length_cons, List.length_nil, decide_true, decide_false, true_and, and_true, ite_true, ite_false, PT.full, enter0, setAll, forget, Fr.set, Fr.get, PT.get, PT.set, kof, ai, ev, ev1, evp, b_add, b_sub, b_mul, b_quo, b_rem, b_eql, b_neq, b_lss, b_leq, b_gtr, b_geq, b_seql, b_sneq, setD, resV, resL, res1, args, List.take_zero, List.drop_zero, List.take_nil, List.take_succ_cons, List.drop_succ_cons, Nat.reduceAdd, Nat.reduceLeDiff, reduceIte, Bool.not_true, Bool.not_false, Bool.false_eq_true, CA_some, Option.some.injEq, Nat.zero_add, Nat.mul_one, Nat.add_zero, setL, List.set_cons_zero, List.set_cons_succ, fillC]
  refine EqOk.go eq_EntryS ah1 bh1 (fun d1 => ?_) (fun d1 => ?_)
  case refine_2 =>
    simp (disch := omega) only [KC_eq, c70, ae0, ae1, ahsz, be0, be1, bhsz, ifT, w64, RR, RP, Ty.agg, Ty.size, Ty.sizes, eq_self, ne_eq, not_true, not_false_iff, reduceCtorEq, List.length_cons, List.length_nil, decide_true, decide_false, true_and, and_true, ite_true, ite_false, PT.full, enter0, setAll, forget, Fr.set, Fr.get, PT.get, PT.set, kof, ai, ev, ev1, evp, b_add, b_sub, b_mul, b_quo, b_rem, b_eql, b_neq, b_lss, b_leq, b_gtr, b_geq, b_seql, b_sneq, setD, resV, resL, res1, args, List.take_zero, List.drop_zero, List.take_nil, List.take_succ_cons, List.drop_succ_cons, Nat.reduceAdd, Nat.reduceLeDiff, reduceIte, Bool.not_true, Bool.not_false, Bool.false_eq_true, CA_some, Option.some.injEq, Nat.zero_add, Nat.mul_one, Nat.add_zero, setL, List.set_cons_zero, List.set_cons_succ, fillC]
    simp [d1]
  subst d1
  simp (disch := omega) only [KC_eq, c70, ae0, ae1, ahsz, be0, be1, bhsz, ifT, w64, RR, RP, Ty.agg, Ty.size, Ty.sizes, eq_self, ne_eq, not_true, not_false_iff, reduceCtorEq, List.length_cons, List.length_nil, decide_true, decide_false, true_and, and_true, ite_true, ite_false, PT.full, enter0, setAll, forget, Fr.set, Fr.get, PT.get, PT.set, kof, ai, ev, ev1, evp, b_add, b_sub, b_mul, b_quo, b_rem, b_eql, b_neq, b_lss, b_leq, b_gtr, b_geq, b_seql, b_sneq, setD, resV, resL, res1, args, List.take_zero, List.drop_zero, List.take_nil, List.take_succ_cons, List.drop_succ_cons, Nat.reduceAdd, Nat.reduceLeDiff, reduceIte, Bool.not_true, Bool.not_false, Bool.false_eq_true, CA_some, Option.some.injEq, Nat.zero_add, Nat.mul_one, Nat.add_zero, setL, List.set_cons_zero, List.set_cons_succ, fillC]
/-- laws.eqHeadS -/
def c63 : AF := ⟨2, 5, [.tmp 4], (.seq (.ops [.i (.mov 4 (.c (.val false [.bool false])))]) (.seq (.seq (.ops [.i (.mov 6 (.s 0)), .i (.len 7 false (.s 6)), .i (.mov 8 (.s 1)), .i (.len 9 false (.s 8)), .i (.bin 10 .neq (.s 7) (.s 9))]) (.cond (.s 10) (.seq (.ops [.i (.mov 4 (.c (.val false [.bool false])))]) .ret) .skip)) (.seq (.seq (.ops [.i (.mov 5 (.c (.val false [.int .i64 0])))]) (.block 0 (.loop [26, 25, 24, 23, 22, 21, 20, 19, 18, 17, 16, 15, 14, 13, 12, 11] (.seq (.seq (.ops [.i (.mov 11 (.s 5)), .i (.mov 12 (.s 0)), .i (.len 13 false (.s 12)), .i (.bin 14 .lss (.s 11) (.s 13))]) (.cond (.s 14) .skip (.exit 0))) (.seq (.block 1 (.seq (.ops [.i (.mov 17 (.s 0)), .i (.mov 18 (.s 5)), .i (.iad 19 (.s 17) (.s 18) 10), .i (.ldh 20 (.s 19) 10 true), .i (.mov 21 (.s 1)), .i (.mov 22 (.s 5)), .i (.iad 23 (.s 21) (.s 22) 10), .i (.ldh 24 (.s 23) 10 true), .i (.call 26 28 false [(.s 20), (.s 24)]), .i (.not 26 (.s 25))]) (.cond (.s 26) (.seq (.ops [.i (.mov 4 (.c (.val false [.bool false])))]) .ret) .skip))) (.ops [.i (.mov 15 (.s 5)), .i (.bin 16 .add (.s 15) (.c (.val false [.int .i64 1]))), .i (.mov 5 (.s 16))])))))) (.seq (.ops [.i (.mov 4 (.c (.val false [.bool true])))]) .ret))))⟩
theorem k63 : cd 63 = some c63 := by kernel_rfl
theorem eq_HeadS : EqOk cd 63 (.sl THead) := eq_sl k63 eq_Head
/-- laws.eqProof -/
def c37 : AF := ⟨2, 5, [.tmp 4], (.seq (.ops [.i (.lbox 2 (.s 0)), .i (.lbox 3 (.s 1)), .i (.mov 4 (.c (.val false [.bool false])))]) (.seq (.seq (.ops [.i (.fad 5 (.s 2) 0), .i (.ldl 6 2 (.s 5) 1 false), .i (.fad 7 (.s 3) 0), .i (.ldl 8 3 (.s 7) 1 false), .i (.call 10 63 false [(.s 6), (.s 8)]), .i (.not 10 (.s 9))]) (.cond (.s 10) (.seq (.ops [.i (.mov 4 (.c (.val false [.bool false])))]) .ret) .skip)) (.seq (.seq (.ops [.i (.fad 11 (.s 2) 1), .i (.ldl 12 2 (.s 11) 5 true), .i (.fad 13 (.s 3) 1), .i (.ldl 14 3 (.s 13) 5 true), .i (.call 16 69 false [(.s 12), (.s 14)]), .i (.not 16 (.s 15))]) (.cond (.s 16) (.seq (.ops [.i (.mov 4 (.c (.val false [.bool false])))]) .ret) .skip)) (.seq (.ops [.i (.mov 4 (.c (.val false [.bool true])))]) .ret))))⟩
theorem k37 : cd 37 = some c37 := by kernel_rfl
theorem eq_Proof : EqOk cd 37 TProof := by
  intro h ca cb va vb Sa Sb ha hb
  obtain ⟨avs, rfl, aq0⟩ := ha.st
  obtain ⟨av0, ar0, aS0, aT0, rfl, rfl, ah0, aq1⟩ := aq0.step
  obtain ⟨ac0, ae0⟩ := ah0.one rfl
  rw [ae0] at ah0
  obtain ⟨av1, ar1, aS1, aT1, rfl, rfl, ah1, aq2⟩ := aq1.step
  obtain ⟨_, rfl, rfl⟩ := aq2
  have ahsz : ca.length = 6 := ha.size
  obtain ⟨bvs, rfl, bq0⟩ := hb.st
  obtain ⟨bv0, br0, bS0, bT0, rfl, rfl, bh0, bq1⟩ := bq0.step
  obtain ⟨bc0, be0⟩ := bh0.one rfl
  rw [be0] at bh0
  obtain ⟨bv1, br1, bS1, bT1, rfl, rfl, bh1, bq2⟩ := bq1.step
  obtain ⟨_, rfl, rfl⟩ := bq2
  have bhsz : cb.length = 6 := hb.size
  simp only [Ty.size, Ty.sizes, Nat.reduceAdd, Nat.zero_add, List.drop_zero] at ae0 ahsz be0 bhsz ah1 bh1
  refine WS_enter k37 rfl ?_
  simp (disch := omega) only [KC_eq, c37, ae0, ahsz, be0, bhsz, ifT, w64, RR, RP, Ty.agg, Ty.size, Ty.sizes, eq_self, ne_eq, not_true, not_false_iff, reduceCtorEq, List.length_cons, List.length_nil, decide_true, decide_false, true_and, and_true, ite_true, ite_false, PT.full, enter0, setAll, forget, Fr.set, Fr.get, PT.get, PT.set, kof, ai, ev, ev1, evp, b_add, b_sub, b_mul, b_quo, b_rem, b_eql, b_neq, b_lss, b_leq, b_gtr, b_geq, b_seql, b_sneq, setD, resV, resL, res1, args, List.take_zero, List.drop_zero, List.take_nil, List.take_succ_cons, List.drop_succ_cons, Nat.reduceAdd, Nat.reduceLeDiff, reduceIte, Bool.not_true, Bool.not_false, Bool.false_eq_true, CA_some, Option.some.injEq, Nat.zero_add, Nat.mul_one, Nat.add_zero, setL, List.set_cons_zero, List.set_cons_succ, fillC]
  refine EqOk.go eq_HeadS ah0 bh0 (fun d0 => ?_) (fun d0 => ?_)
  case refine_2 =>
    simp (disch := omega) only [KC_eq, c37, ae0, ahsz, be0, bhsz, ifT, w64, RR, RP, Ty.agg, Ty.size, Ty.sizes, eq_self, ne_eq, not_true, not_false_iff, reduceCtorEq, List.length_cons, List.length_nil, decide_true, decide_false, true_and, and_true, ite_true, ite_false, PT.full, enter0, setAll, forget, Fr.set, Fr.get, PT.get, PT.set, kof, ai, ev, ev1, evp, b_add, b_sub, b_mul, b_quo, b_rem, b_eql, b_neq, b_lss, b_leq, b_gtr, b_geq, b_seql, b_sneq, setD, resV, resL, res1, args, List.take_zero, List.drop_zero, List.take_nil, List.take_succ_cons, List.drop_succ_cons, Nat.reduceAdd, Nat.reduceLeDiff, reduceIte, Bool.not_true, Bool.not_false, Bool.false_eq_true, CA_some, Option.some.injEq, Nat.zero_add, Nat.mul_one, Nat.add_zero, setL, List.set_cons_zero, List.set_cons_succ, fillC]
    simp [d0]
  subst d0
  simp (disch := omega) only [KC_eq, c37, ae0, ahsz, be0, bhsz, ifT, w64, RR, RP, Ty.agg, Ty.size, Ty.sizes, eq_self, ne_eq, not_true, not_false_iff, reduceCtorEq, List.length_cons, List.length_nil, decide_true, decide_false, true_and, and_true, ite_true, ite_false, PT.full, enter0, setAll, forget, Fr.set, Fr.get, PT.get, PT.set, kof, ai, ev, ev1, evp, b_add, b_sub, b_mul, b_quo, b_rem, b_eql, b_neq, b_lss, b_leq, b_gtr, b_geq, b_seql, b_sneq, setD, resV, resL, res1, args, List.take_zero, List.drop_zero, List.take_nil, List.take_succ_cons, List.drop_succ_cons, Nat.reduceAdd, Nat.reduceLeDiff, reduceIte, Bool.not_true, Bool.not_false, Bool.false_eq_true, CA_some, Option.some.injEq, Nat.zero_add, Nat.mul_one, Nat.add_zero, setL, List.set_cons_zero, List.set_cons_succ, fillC]
  refine EqOk.go eq_Qc ah1 bh1 (fun d1 => ?_) (fun d1 => ?_)
  case refine_2 =>
    simp (disch := omega) only [KC_eq, c37, ae0, ahsz, be0, bhsz, ifT, w64, RR, RP, Ty.agg, Ty.size, Ty.sizes, eq_self, ne_eq, not_true, not_false_iff, reduceCtorEq, List.length_cons, List.length_nil, decide_true, decide_false, true_and, and_true, ite_true, ite_false, PT.full, enter0, setAll, forget, Fr.set, Fr.get, PT.get, PT.set, kof, ai, ev, ev1, evp, b_add, b_sub, b_mul, b_quo, b_rem, b_eql, b_neq, b_lss, b_leq, b_gtr, b_geq, b_seql, b_sneq, setD, resV, resL, res1, args, List.take_zero, List.drop_zero, List.take_nil, List.take_succ_cons, List.drop_succ_cons, Nat.reduceAdd, Nat.reduceLeDiff, reduceIte, Bool.not_true, Bool.not_false, Bool.false_eq_true, CA_some, Option.some.injEq, Nat.zero_add, Nat.mul_one, Nat.add_zero, setL, List.set_cons_zero, List.set_cons_succ, fillC]
    simp [d1]
  subst d1
  simp (disch := omega) only [KC_eq, c37, ae0, ahsz, be0, bhsz, ifT, w64, RR, RP, Ty.agg, Ty.size, Ty.sizes, eq_self, ne_eq, not_true, not_false_iff, reduceCtorEq, List.length_cons, List.length_nil, decide_true, decide_false, true_and, and_true, ite_true, ite_false, PT.full, enter0, setAll, forget, Fr.set, Fr.get, PT.get, PT.set, kof, ai, ev, ev1, evp, b_add, b_sub, b_mul, b_quo, b_rem, b_eql, b_neq, b_lss, b_leq, b_gtr, b_geq, b_seql, b_sneq, setD, resV, resL, res1, args, List.take_zero, List.drop_zero, List.take_nil, List.take_succ_cons, List.drop_succ_cons, Nat.reduceAdd, Nat.reduceLeDiff, reduceIte, Bool.not_true, Bool.not_false, Bool.false_eq_true, CA_some, Option.some.injEq, Nat.zero_add, Nat.mul_one, Nat.add_zero, setL, List.set_cons_zero, List.set_cons_succ, fillC]
/-- laws.eqIncl -/
def c71 : AF := ⟨2, 6, [.tmp 4], (.seq (.ops [.i (.lbox 2 (.s 0)), .i (.lbox 3 (.s 1)), .i (.mov 4 (.c (.val false [.bool false])))]) (.seq (.seq (.ops [.i (.fad 5 (.s 2) 0), .i (.ldl 6 2 (.s 5) 1 false), .i (.fad 7 (.s 3) 0), .i (.ldl 8 3 (.s 7) 1 false), .i (.bin 9 .neq (.s 6) (.s 8))]) (.cond (.s 9) (.seq (.ops [.i (.mov 4 (.c (.val false [.bool false])))]) .ret) .skip)) (.seq (.seq (.ops [.i (.fad 10 (.s 2) 1), .i (.ldl 11 2 (.s 10) 1 false), .i (.fad 12 (.s 3) 1), .i (.ldl 13 3 (.s 12) 1 false), .i (.bin 14 .neq (.s 11) (.s 13))]) (.cond (.s 14) (.seq (.ops [.i (.mov 4 (.c (.val false [.bool false])))]) .ret) .skip)) (.seq (.seq (.ops [.i (.fad 15 (.s 2) 2), .i (.ldl 16 2 (.s 15) 1 false), .i (.fad 17 (.s 3) 2), .i (.ldl 18 3 (.s 17) 1 false), .i (.bin 19 .neq (.s 16) (.s 18))]) (.cond (.s 19) (.seq (.ops [.i (.mov 4 (.c (.val false [.bool false])))]) .ret) .skip)) (.seq (.seq (.ops [.i (.fad 20 (.s 2) 3), .i (.ldl 21 2 (.s 20) 1 false), .i (.fad 22 (.s 3) 3), .i (.ldl 23 3 (.s 22) 1 false), .i (.call 25 50 false [(.s 21), (.s 23)]), .i (.not 25 (.s 24))]) (.cond (.s 25) (.seq (.ops [.i (.mov 4 (.c (.val false [.bool false])))]) .ret) .skip)) (.seq (.seq (.ops [.i (.fad 26 (.s 2) 4), .i (.ldl 27 2 (.s 26) 1 false), .i (.fad 28 (.s 3) 4), .i (.ldl 29 3 (.s 28) 1 false), .i (.call 31 29 false [(.s 27), (.s 29)]), .i (.not 31 (.s 30))]) (.cond (.s 31) (.seq (.ops [.i (.mov 4 (.c (.val false [.bool false])))]) .ret) .skip)) (.seq (.ops [.i (.mov 4 (.c (.val false [.bool true])))]) .ret)))))))⟩
theorem k71 : cd 71 = some c71 := by kernel_rfl
theorem eq_Incl : EqOk cd 71 TIncl := by
  intro h ca cb va vb Sa Sb ha hb
  obtain ⟨avs, rfl, aq0⟩ := ha.st
  obtain ⟨av0, ar0, aS0, aT0, rfl, rfl, ah0, aq1⟩ := aq0.step
  obtain ⟨an0, ae0, rfl, rfl, alo0, ahi0⟩ := ah0.int
  obtain ⟨av1, ar1, aS1, aT1, rfl, rfl, ah1, aq2⟩ := aq1.step
  obtain ⟨an1, ae1, rfl, rfl, alo1, ahi1⟩ := ah1.int
  obtain ⟨av2, ar2, aS2, aT2, rfl, rfl, ah2, aq3⟩ := aq2.step
  obtain ⟨an2, ae2, rfl, rfl, alo2, ahi2⟩ := ah2.int
  obtain ⟨av3, ar3, aS3, aT3, rfl, rfl, ah3, aq4⟩ := aq3.step
  obtain ⟨ac3, ae3⟩ := ah3.one rfl
  rw [ae3] at ah3
  obtain ⟨av4, ar4, aS4, aT4, rfl, rfl, ah4, aq5⟩ := aq4.step
  obtain ⟨ac4, ae4⟩ := ah4.one rfl
  rw [ae4] at ah4
  obtain ⟨_, rfl, rfl⟩ := aq5
  have ahsz : ca.length = 5 := ha.size
  obtain ⟨bvs, rfl, bq0⟩ := hb.st
  obtain ⟨bv0, br0, bS0, bT0, rfl, rfl, bh0, bq1⟩ := bq0.step
  obtain ⟨bn0, be0, rfl, rfl, blo0, bhi0⟩ := bh0.int
  obtain ⟨bv1, br1, bS1, bT1, rfl, rfl, bh1, bq2⟩ := bq1.step
  obtain ⟨bn1, be1, rfl, rfl, blo1, bhi1⟩ := bh1.int
  obtain ⟨bv2, br2, bS2, bT2, rfl, rfl, bh2, bq3⟩ := bq2.step
  obtain ⟨bn2, be2, rfl, rfl, blo2, bhi2⟩ := bh2.int
  obtain ⟨bv3, br3, bS3, bT3, rfl, rfl, bh3, bq4⟩ := bq3.step
  obtain ⟨bc3, be3⟩ := bh3.one rfl
  rw [be3] at bh3
  obtain ⟨bv4, br4, bS4, bT4, rfl, rfl, bh4, bq5⟩ := bq4.step
  obtain ⟨bc4, be4⟩ := bh4.one rfl
  rw [be4] at bh4
  obtain ⟨_, rfl, rfl⟩ := bq5
  have bhsz : cb.length = 5 := hb.size
  simp only [Ty.size, Ty.sizes, Nat.reduceAdd, Nat.zero_add, List.drop_zero] at ae0 ae1 ae2 ae3 ae4 ahsz be0 be1 be2 be3 be4 bhsz
  refine WS_enter k71 rfl ?_
  simp (disch := omega) only [KC_eq, c71, ae0, ae1, ae2, ae3, ae4, ahsz, be0, be1, be2, be3, be4, bhsz, ifT, w64, RR, RP, Ty.agg, Ty.size, Ty.sizes, eq_self, ne_eq, not_true, not_false_iff, reduceCtorEq, List.length_cons, List.length_nil, decide_true, decide_false, true_and, and_true, ite_true, ite_false, PT.full, enter0, setAll, forget, Fr.set, Fr.get, PT.get, PT.set, kof, ai, ev, ev1, evp, b_add, b_sub, b_mul, b_quo, b_rem, b_eql, b_neq, b_lss, b_leq, b_gtr, b_geq, b_seql, b_sneq, setD, resV, resL, res1, args, List.take_zero, List.drop_zero, List.take_nil, List.take_succ_cons, List.drop_succ_cons, Nat.reduceAdd, Nat.reduceLeDiff, reduceIte, Bool.not_true, Bool.not_false, Bool.false_eq_true, CA_some, Option.some.injEq, Nat.zero_add, Nat.mul_one, Nat.add_zero, setL, List.set_cons_zero, List.set_cons_succ, fillC]
  refine BR_dec (fun hn => ?_) (fun hn => ?_)
  case refine_1 =>
    simp (disch := omega) only [KC_eq, c71, ae0, ae1, ae2, ae3, ae4, ahsz, be0, be1, be2, be3, be4, bhsz, ifT, w64, RR, RP, Ty.agg, Ty.size, Ty.sizes, eq_self, ne_eq, not_true, not_false_iff, reduceCtorEq, List.length_cons, List.length_nil, decide_true, decide_false, true_and, and_true, ite_true, ite_false, PT.full, enter0, setAll, forget, Fr.set, Fr.get, PT.get, PT.set, kof, ai, ev, ev1, evp, b_add, b_sub, b_mul, b_quo, b_rem, b_eql, b_neq, b_lss, b_leq, b_gtr, b_geq, b_seql, b_sneq, setD, resV, resL, res1, args, List.take_zero, List.drop_zero, List.take_nil, List.take_succ_cons, List.drop_succ_cons, Nat.reduceAdd, Nat.reduceLeDiff, reduceIte, Bool.not_true, Bool.not_false, Bool.false_eq_true, CA_some, Option.some.injEq, Nat.zero_add, Nat.mul_one, Nat.add_zero, setL, List.set_cons_zero, List.set_cons_succ, fillC]
    simp [hn]
  have d0 : an0 = bn0 := by omega
  subst d0
  simp (disch := omega) only [KC_eq, c71, ae0, ae1, ae2, ae3, ae4, ahsz, be0, be1, be2, be3, be4, bhsz, ifT, w64, RR, RP, Ty.agg, Ty.size, Ty.sizes, eq_self, ne_eq, not_true, not_false_iff, reduceCtorEq, List.length_cons, List.length_nil, decide_true, decide_false, true_and, and_true, ite_true, ite_false, PT.full, enter0, setAll, forget, Fr.set, Fr.get, PT.get, PT.set, kof, ai, ev, ev1, evp, b_add, b_sub, b_mul, b_quo, b_rem, b_eql, b_neq, b_lss, b_leq, b_gtr, b_geq, b_seql, b_sneq, setD, resV, resL, res1, args, List.take_zero, List.drop_zero, List.take_nil, List.take_succ_cons, List.drop_succ_cons, Nat.reduceAdd, Nat.reduceLeDiff, reduceIte, Bool.not_true, Bool.not_false, Bool.false_eq_true, CA_some, Option.some.injEq, Nat.zero_add, Nat.mul_one, Nat.add_zero, setL, List.set_cons_zero, List.set_cons_succ, fillC]
  refine BR_dec (fun hn => ?_) (fun hn => ?_)
  case refine_1 =>
    simp (disch := omega) only [KC_eq, c71, ae0, ae1, ae2, ae3, ae4, ahsz, be0, be1, be2, be3, be4, bhsz, ifT, w64, RR, RP, Ty.agg, Ty.size, Ty.sizes, eq_self, ne_eq, not_true, not_false_iff, reduceCtorEq, List.length_cons, List.length_nil, decide_true, decide_false, true_and, and_true, ite_true, ite_false, PT.full, enter0, setAll, forget, Fr.set, Fr.get, PT.get, PT.set, kof, ai, ev, ev1, evp, b_add, b_sub, b_mul, b_quo, b_rem, b_eql, b_neq, b_lss, b_leq, b_gtr, b_geq, b_seql, b_sneq, setD, resV, resL, res1, args, List.take_zero, List.drop_zero, List.take_nil, List.take_succ_cons, List.drop_succ_cons, Nat.reduceAdd, Nat.reduceLeDiff, reduceIte, Bool.not_true, Bool.not_false, Bool.false_eq_true, CA_some, Option.some.injEq, Nat.zero_add, Nat.mul_one, Nat.add_zero, setL, List.set_cons_zero, List.set_cons_succ, fillC]
    simp [hn]
  have d1 : an1 = bn1 := by omega
  subst d1
  simp (disch := omega) only [KC_eq, c71, ae0, ae1, ae2, ae3, ae4, ahsz, be0, be1, be2, be3, be4, bhsz, ifT, w64, RR, RP, Ty.agg, Ty.size, Ty.sizes, eq_self, ne_eq, not_true, not_false_iff, reduceCtorEq, List.length_cons, List.length_nil, decide_true, decide_false, true_and, and_true, ite_true, ite_false, PT.full, enter0, setAll, forget, Fr.set, Fr.get, PT.get, PT.set, kof, ai, ev, ev1, evp, b_add, b_sub, b_mul, b_quo, b_rem, b_eql, b_neq, b_lss, b_leq, b_gtr, b_geq, b_seql, b_sneq, setD, resV, resL, res1, args, List.take_zero, List.drop_zero, List.take_nil, List.take_succ_cons, List.drop_succ_cons, Nat.reduceAdd, Nat.reduceLeDiff, reduceIte, Bool.not_true, Bool.not_false, Bool.false_eq_true, CA_some, Option.some.injEq, Nat.zero_add, Nat.mul_one, Nat.add_zero, setL, List.set_cons_zero, List.set_cons_succ, fillC]
  refine BR_dec (fun hn => ?_) (fun hn => ?_)
  case refine_1 =>
    simp (disch := omega) only [KC_eq, c71, ae0, ae1, ae2, ae3, ae4, ahsz, be0, be1, be2, be3, be4, bhsz, ifT, w64, RR, RP, Ty.agg, Ty.size, Ty.sizes, eq_self, ne_eq, not_true, not_false_iff, reduceCtorEq, List.length_cons, List.length_nil, decide_true, decide_false, true_and, and_true, ite_true, ite_false, PT.full, enter0, setAll, forget, Fr.set, Fr.get, PT.get, PT.set, kof, ai, ev, ev1, evp, b_add, b_sub, b_mul, b_quo, b_rem, b_eql, b_neq, b_lss, b_leq, b_gtr, b_geq, b_seql, b_sneq, setD, resV, resL, res1, args, List.take_zero, List.drop_zero, List.take_nil, List.take_succ_cons, List.drop_succ_cons, Nat.reduceAdd, Nat.reduceLeDiff, reduceIte, Bool.not_true, Bool.not_false, Bool.false_eq_true, CA_some, Option.some.injEq, Nat.zero_add, Nat.mul_one, Nat.add_zero, setL, List.set_cons_zero, List.set_cons_succ, fillC]
    simp [hn]
  have d2 : an2 = bn2 := by omega
  subst d2
  simp (disch := omega) only [KC_eq, c71, ae0, ae1, ae2, ae3, ae4, ahsz, be0, be1, be2, be3, be4, bhsz, ifT, w64, RR, RP, Ty.agg, Ty.size, Ty.sizes, eq_self, ne_eq, not_true, not_false_iff, reduceCtorEq, List.length_cons, List.length_nil, decide_true, decide_false, true_and, and_true, ite_true, ite_false, PT.full, enter0, setAll, forget, Fr.set, Fr.get, PT.get, PT.set, kof, ai, ev, ev1, evp, b_add, b_sub, b_mul, b_quo, b_rem, b_eql, b_neq, b_lss, b_leq, b_gtr, b_geq, b_seql, b_sneq, setD, resV, resL, res1, args, List.take_zero, List.drop_zero, List.take_nil, List.take_succ_cons, List.drop_succ_cons, Nat.reduceAdd, Nat.reduceLeDiff, reduceIte, Bool.not_true, Bool.not_false, Bool.false_eq_true, CA_some, Option.some.injEq, Nat.zero_add, Nat.mul_one, Nat.add_zero, setL, List.set_cons_zero, List.set_cons_succ, fillC]
  refine EqOk.go eq_ByteS ah3 bh3 (fun d3 => ?_) (fun d3 => ?_)
  case refine_2 =>
    simp (disch := omega) only [KC_eq, c71, ae0, ae1, ae2, ae3, ae4, ahsz, be0, be1, be2, be3, be4, bhsz, ifT, w64, RR, RP, Ty.agg, Ty.size, Ty.sizes, eq_self, ne_eq, not_true, not_false_iff, reduceCtorEq, List.length_cons, List.length_nil, decide_true, decide_false, true_and, and_true, ite_true, ite_false, PT.full, enter0, setAll, forget, Fr.set, Fr.get, PT.get, PT.set, kof, ai, ev, ev1, evp, b_add, b_sub, b_mul, b_quo, b_rem, b_eql, b_neq, b_lss, b_leq, b_gtr, b_geq, b_seql, b_sneq, setD, resV, resL, res1, args, List.take_zero, List.drop_zero, List.take_nil, List.take_succ_cons, List.drop_succ_cons, Nat.reduceAdd, Nat.reduceLeDiff, reduceIte, Bool.not_true, Bool.not_false, Bool.false_eq_true, CA_some, Option.some.injEq, Nat.zero_add, Nat.mul_one, Nat.add_zero, setL, List.set_cons_zero, List.set_cons_succ, fillC]
    simp [d3]
  subst d3
  simp (disch := omega) only [KC_eq, c71, ae0, ae1, ae2, ae3, ae4, ahsz, be0, be1, be2, be3, be4, bhsz, ifT, w64, RR, RP, Ty.agg, Ty.size, Ty.sizes, eq_self, ne_eq, not_true, not_false_iff, reduceCtorEq, List.length_cons, List.length_nil, decide_true, decide_false, true_and, and_true, ite_true, ite_false, PT.full, enter0, setAll, forget, Fr.set, Fr.get, PT.get, PT.set, kof, ai, ev, ev1, evp, b_add, b_sub, b_mul, b_quo, b_rem, b_eql, b_neq, b_lss, b_leq, b_gtr, b_geq, b_seql, b_sneq, setD, resV, resL, res1, args, List.take_zero, List.drop_zero, List.take_nil, List.take_succ_cons, List.drop_succ_cons, Nat.reduceAdd, Nat.reduceLeDiff, reduceIte, Bool.not_true, Bool.not_false, Bool.false_eq_true, CA_some, Option.some.injEq, Nat.zero_add, Nat.mul_one, Nat.add_zero, setL, List.set_cons_zero, List.set_cons_succ, fillC]
  refine EqOk.go eq_ByteSS ah4 bh4 (fun d4 => ?_) (fun d4 => ?_)
  case refine_2 =>
    simp (disch := omega) only [KC_eq, c71, ae0, ae1, ae2, ae3, ae4, ahsz, be0, be1, be2, be3, be4, bhsz, ifT, w64, RR, RP, Ty.agg, Ty.size, Ty.sizes, eq_self, ne_eq, not_true, not_false_iff, reduceCtorEq, List.length_cons, List.length_nil, decide_true, decide_false, true_and, and_true, ite_true, ite_false, PT.full, enter0, setAll, forget, Fr.set, Fr.get, PT.get, PT.set, kof, ai, ev, ev1, evp, b_add, b_sub, b_mul, b_quo, b_rem, b_eql, b_neq, b_lss, b_leq, b_gtr, b_geq, b_seql, b_sneq, setD, resV, resL, res1, args, List.take_zero, List.drop_zero, List.take_nil, List.take_succ_cons, List.drop_succ_cons, Nat.reduceAdd, Nat.reduceLeDiff, reduceIte, Bool.not_true, Bool.not_false, Bool.false_eq_true, CA_some, Option.some.injEq, Nat.zero_add, Nat.mul_one, Nat.add_zero, setL, List.set_cons_zero, List.set_cons_succ, fillC]
    simp [d4]
  subst d4
  simp (disch := omega) only [KC_eq, c71, ae0, ae1, ae2, ae3, ae4, ahsz, be0, be1, be2, be3, be4, bhsz, ifT, w64, RR, RP, Ty.agg, Ty.size, Ty.sizes, eq_self, ne_eq, not_true, not_false_iff, reduceCtorEq, List.length_cons, List.length_nil, decide_true, decide_false, true_and, and_true, ite_true, ite_false, PT.full, enter0, setAll, forget, Fr.set, Fr.get, PT.get, PT.set, kof, ai, ev, ev1, evp, b_add, b_sub, b_mul, b_quo, b_rem, b_eql, b_neq, b_lss, b_leq, b_gtr, b_geq, b_seql, b_sneq, setD, resV, resL, res1, args, List.take_zero, List.drop_zero, List.take_nil, List.take_succ_cons, List.drop_succ_cons, Nat.reduceAdd, Nat.reduceLeDiff, reduceIte, Bool.not_true, Bool.not_false, Bool.false_eq_true, CA_some, Option.some.injEq, Nat.zero_add, Nat.mul_one, Nat.add_zero, setL, List.set_cons_zero, List.set_cons_succ, fillC]
/-- laws.eqMsg -/
def c16 : AF := ⟨2, 6, [.tmp 4], (.seq (.ops [.i (.lbox 2 (.s 0)), .i (.lbox 3 (.s 1)), .i (.mov 4 (.c (.val false [.bool false])))]) (.seq (.seq (.ops [.i (.fad 5 (.s 2) 0), .i (.ldl 6 2 (.s 5) 1 false), .i (.fad 7 (.s 3) 0), .i (.ldl 8 3 (.s 7) 1 false), .i (.bin 9 .neq (.s 6) (.s 8))]) (.cond (.s 9) (.seq (.ops [.i (.mov 4 (.c (.val false [.bool false])))]) .ret) .skip)) (.seq (.seq (.ops [.i (.fad 10 (.s 2) 1), .i (.ldl 11 2 (.s 10) 5 true), .i (.fad 12 (.s 3) 1), .i (.ldl 13 3 (.s 12) 5 true), .i (.call 15 68 false [(.s 11), (.s 13)]), .i (.not 15 (.s 14))]) (.cond (.s 15) (.seq (.ops [.i (.mov 4 (.c (.val false [.bool false])))]) .ret) .skip)) (.seq (.seq (.ops [.i (.fad 16 (.s 2) 6), .i (.ldl 17 2 (.s 16) 5 true), .i (.fad 18 (.s 3) 6), .i (.ldl 19 3 (.s 18) 5 true), .i (.call 21 69 false [(.s 17), (.s 19)]), .i (.not 21 (.s 20))]) (.cond (.s 21) (.seq (.ops [.i (.mov 4 (.c (.val false [.bool false])))]) .ret) .skip)) (.seq (.seq (.ops [.i (.fad 22 (.s 2) 11), .i (.ldl 23 2 (.s 22) 10 true), .i (.fad 24 (.s 3) 11), .i (.ldl 25 3 (.s 24) 10 true), .i (.call 27 28 false [(.s 23), (.s 25)]), .i (.not 27 (.s 26))]) (.cond (.s 27) (.seq (.ops [.i (.mov 4 (.c (.val false [.bool false])))]) .ret) .skip)) (.seq (.seq (.ops [.i (.fad 28 (.s 2) 21), .i (.ldl 29 2 (.s 28) 11 true), .i (.fad 30 (.s 3) 21), .i (.ldl 31 3 (.s 30) 11 true), .i (.call 33 17 false [(.s 29), (.s 31)]), .i (.not 33 (.s 32))]) (.cond (.s 33) (.seq (.ops [.i (.mov 4 (.c (.val false [.bool false])))]) .ret) .skip)) (.seq (.seq (.ops [.i (.fad 34 (.s 2) 32), .i (.ldl 35 2 (.s 34) 2 true), .i (.fad 36 (.s 3) 32), .i (.ldl 37 3 (.s 36) 2 true), .i (.call 39 70 false [(.s 35), (.s 37)]), .i (.not 39 (.s 38))]) (.cond (.s 39) (.seq (.ops [.i (.mov 4 (.c (.val false [.bool false])))]) .ret) .skip)) (.seq (.seq (.ops [.i (.fad 40 (.s 2) 34), .i (.ldl 41 2 (.s 40) 6 true), .i (.fad 42 (.s 3) 34), .i (.ldl 43 3 (.s 42) 6 true), .i (.call 45 37 false [(.s 41), (.s 43)]), .i (.not 45 (.s 44))]) (.cond (.s 45) (.seq (.ops [.i (.mov 4 (.c (.val false [.bool false])))]) .ret) .skip)) (.seq (.seq (.ops [.i (.fad 46 (.s 2) 40), .i (.ldl 47 2 (.s 46) 5 true), .i (.fad 48 (.s 3) 40), .i (.ldl 49 3 (.s 48) 5 true), .i (.call 51 71 false [(.s 47), (.s 49)]), .i (.not 51 (.s 50))]) (.cond (.s 51) (.seq (.ops [.i (.mov 4 (.c (.val false [.bool false])))]) .ret) .skip)) (.seq (.ops [.i (.mov 4 (.c (.val false [.bool true])))]) .ret))))))))))⟩
theorem k16 : cd 16 = some c16 := by kernel_rfl
theorem eq_Msg : EqOk cd 16 TMsg := by
  intro h ca cb va vb Sa Sb ha hb
  obtain ⟨avs, rfl, aq0⟩ := ha.st
  obtain ⟨av0, ar0, aS0, aT0, rfl, rfl, ah0, aq1⟩ := aq0.step
  obtain ⟨an0, ae0, rfl, rfl, alo0, ahi0⟩ := ah0.int
  obtain ⟨av1, ar1, aS1, aT1, rfl, rfl, ah1, aq2⟩ := aq1.step
  obtain ⟨av2, ar2, aS2, aT2, rfl, rfl, ah2, aq3⟩ := aq2.step
  obtain ⟨av3, ar3, aS3, aT3, rfl, rfl, ah3, aq4⟩ := aq3.step
  obtain ⟨av4, ar4, aS4, aT4, rfl, rfl, ah4, aq5⟩ := aq4.step
  obtain ⟨av5, ar5, aS5, aT5, rfl, rfl, ah5, aq6⟩ := aq5.step
  obtain ⟨av6, ar6, aS6, aT6, rfl, rfl, ah6, aq7⟩ := aq6.step
  obtain ⟨av7, ar7, aS7, aT7, rfl, rfl, ah7, aq8⟩ := aq7.step
  obtain ⟨_, rfl, rfl⟩ := aq8
  have ahsz : ca.length = 45 := ha.size
  obtain ⟨bvs, rfl, bq0⟩ := hb.st
  obtain ⟨bv0, br0, bS0, bT0, rfl, rfl, bh0, bq1⟩ := bq0.step
  obtain ⟨bn0, be0, rfl, rfl, blo0, bhi0⟩ := bh0.int
  obtain ⟨bv1, br1, bS1, bT1, rfl, rfl, bh1, bq2⟩ := bq1.step
  obtain ⟨bv2, br2, bS2, bT2, rfl, rfl, bh2, bq3⟩ := bq2.step
  obtain ⟨bv3, br3, bS3, bT3, rfl, rfl, bh3, bq4⟩ := bq3.step
  obtain ⟨bv4, br4, bS4, bT4, rfl, rfl, bh4, bq5⟩ := bq4.step
  obtain ⟨bv5, br5, bS5, bT5, rfl, rfl, bh5, bq6⟩ := bq5.step
  obtain ⟨bv6, br6, bS6, bT6, rfl, rfl, bh6, bq7⟩ := bq6.step
  obtain ⟨bv7, br7, bS7, bT7, rfl, rfl, bh7, bq8⟩ := bq7.step
  obtain ⟨_, rfl, rfl⟩ := bq8
  have bhsz : cb.length = 45 := hb.size
  simp only [Ty.size, Ty.sizes, Nat.reduceAdd, Nat.zero_add, List.drop_zero] at ae0 ahsz be0 bhsz ah1 ah2 ah3 ah4 ah5 ah6 ah7 bh1 bh2 bh3 bh4 bh5 bh6 bh7
  refine WS_enter k16 rfl ?_
  simp (disch := omega) only [KC_eq, c16, ae0, ahsz, be0, bhsz, ifT, w64, RR, RP, Ty.agg, Ty.size, Ty.sizes, eq_self, ne_eq, not_true, not_false_iff, reduceCtorEq, List.length_cons, List.length_nil, decide_true, decide_false, true_and, and_true, ite_true, ite_false, PT.full, enter0, setAll, forget, Fr.set, Fr.get, PT.get, PT.set, kof, ai, ev, ev1, evp, b_add, b_sub, b_mul, b_quo, b_rem, b_eql, b_neq, b_lss, b_leq, b_gtr, b_geq, b_seql, b_sneq, setD, resV, resL, res1, args, List.take_zero, List.drop_zero, List.take_nil, List.take_succ_cons, List.drop_succ_cons, Nat.reduceAdd, Nat.reduceLeDiff, reduceIte, Bool.not_true, Bool.not_false, Bool.false_eq_true, CA_some, Option.some.injEq, Nat.zero_add, Nat.mul_one, Nat.add_zero, setL, List.set_cons_zero, List.set_cons_succ, fillC]
  refine BR_dec (fun hn => ?_) (fun hn => ?_)
  case refine_1 =>
    simp (disch := omega) only [KC_eq, c16, ae0, ahsz, be0, bhsz, ifT, w64, RR, RP, Ty.agg, Ty.size, Ty.sizes, eq_self, ne_eq, not_true, not_false_iff, reduceCtorEq, List.length_cons, List.length_nil, decide_true, decide_false, true_and, and_true, ite_true, ite_false, PT.full, enter0, setAll, forget, Fr.set, Fr.get, PT.get, PT.set, kof, ai, ev, ev1, evp, b_add, b_sub, b_mul, b_quo, b_rem, b_eql, b_neq, b_lss, b_leq, b_gtr, b_geq, b_seql, b_sneq, setD, resV, resL, res1, args, List.take_zero, List.drop_zero, List.take_nil, List.take_succ_cons, List.drop_succ_cons, Nat.reduceAdd, Nat.reduceLeDiff, reduceIte, Bool.not_true, Bool.not_false, Bool.false_eq_true, CA_some, Option.some.injEq, Nat.zero_add, Nat.mul_one, Nat.add_zero, setL, List.set_cons_zero, List.set_cons_succ, fillC]
    simp [hn]
  have d0 : an0 = bn0 := by omega
  subst d0
  simp (disch := omega) only [KC_eq, c16, ae0, ahsz, be0, bhsz, ifT, w64, RR, RP, Ty.agg, Ty.size, Ty.sizes, eq_self, ne_eq, not_true, not_false_iff, reduceCtorEq, List.length_cons, List.length_nil, decide_true, decide_false, true_and, and_true, ite_true, ite_false, PT.full, enter0, setAll, forget, Fr.set, Fr.get, PT.get, PT.set, kof, ai, ev, ev1, evp, b_add, b_sub, b_mul, b_quo, b_rem, b_eql, b_neq, b_lss, b_leq, b_gtr, b_geq, b_seql, b_sneq, setD, resV, resL, res1, args, List.take_zero, List.drop_zero, List.take_nil, List.take_succ_cons, List.drop_succ_cons, Nat.reduceAdd, Nat.reduceLeDiff, reduceIte, Bool.not_true, Bool.not_false, Bool.false_eq_true, CA_some, Option.some.injEq, Nat.zero_add, Nat.mul_one, Nat.add_zero, setL, List.set_cons_zero, List.set_cons_succ, fillC]
  refine EqOk.go eq_Vote ah1 bh1 (fun d1 => ?_) (fun d1 => ?_)
  case refine_2 =>
    simp (disch := omega) only [KC_eq, c16, ae0, ahsz, be0, bhsz, ifT, w64, RR, RP, Ty.agg, Ty.size, Ty.sizes, eq_self, ne_eq, not_true, not_false_iff, reduceCtorEq, List.length_cons, List.length_nil, decide_true, decide_false, true_and, and_true, ite_true, ite_false, PT.full, enter0, setAll, forget, Fr.set, Fr.get, PT.get, PT.set, kof, ai, ev, ev1, evp, b_add, b_sub, b_mul, b_quo, b_rem, b_eql, b_neq, b_lss, b_leq, b_gtr, b_geq, b_seql, b_sneq, setD, resV, resL, res1, args, List.take_zero, List.drop_zero, List.take_nil, List.take_succ_cons, List.drop_succ_cons, Nat.reduceAdd, Nat.reduceLeDiff, reduceIte, Bool.not_true, Bool.not_false, Bool.false_eq_true, CA_some, Option.some.injEq, Nat.zero_add, Nat.mul_one, Nat.add_zero, setL, List.set_cons_zero, List.set_cons_succ, fillC]
    simp [d1]
  subst d1
  simp (disch := omega) only [KC_eq, c16, ae0, ahsz, be0, bhsz, ifT, w64, RR, RP, Ty.agg, Ty.size, Ty.sizes, eq_self, ne_eq, not_true, not_false_iff, reduceCtorEq, List.length_cons, List.length_nil, decide_true, decide_false, true_and, and_true, ite_true, ite_false, PT.full, enter0, setAll, forget, Fr.set, Fr.get, PT.get, PT.set, kof, ai, ev, ev1, evp, b_add, b_sub, b_mul, b_quo, b_rem, b_eql, b_neq, b_lss, b_leq, b_gtr, b_geq, b_seql, b_sneq, setD, resV, resL, res1, args, List.take_zero, List.drop_zero, List.take_nil, List.take_succ_cons, List.drop_succ_cons, Nat.reduceAdd, Nat.reduceLeDiff, reduceIte, Bool.not_true, Bool.not_false, Bool.false_eq_true, CA_some, Option.some.injEq, Nat.zero_add, Nat.mul_one, Nat.add_zero, setL, List.set_cons_zero, List.set_cons_succ, fillC]
  refine EqOk.go eq_Qc ah2 bh2 (fun d2 => ?_) (fun d2 => ?_)
  case refine_2 =>
    simp (disch := omega) only [KC_eq, c16, ae0, ahsz, be0, bhsz, ifT, w64, RR, RP, Ty.agg, Ty.size, Ty.sizes, eq_self, ne_eq, not_true, not_false_iff, reduceCtorEq, List.length_cons, List.length_nil, decide_true, decide_false, true_and, and_true, ite_true, ite_false, PT.full, enter0, setAll, forget, Fr.set, Fr.get, PT.get, PT.set, kof, ai, ev, ev1, evp, b_add, b_sub, b_mul, b_quo, b_rem, b_eql, b_neq, b_lss, b_leq, b_gtr, b_geq, b_seql, b_sneq, setD, resV, resL, res1, args, List.take_zero, List.drop_zero, List.take_nil, List.take_succ_cons, List.drop_succ_cons, Nat.reduceAdd, Nat.reduceLeDiff, reduceIte, Bool.not_true, Bool.not_false, Bool.false_eq_true, CA_some, Option.some.injEq, Nat.zero_add, Nat.mul_one, Nat.add_zero, setL, List.set_cons_zero, List.set_cons_succ, fillC]
    simp [d2]
  subst d2
  simp (disch := omega) only [KC_eq, c16, ae0, ahsz, be0, bhsz, ifT, w64, RR, RP, Ty.agg, Ty.size, Ty.sizes, eq_self, ne_eq, not_true, not_false_iff, reduceCtorEq, List.length_cons, List.length_nil, decide_true, decide_false, true_and, and_true, ite_true, ite_false, PT.full, enter0, setAll, forget, Fr.set, Fr.get, PT.get, PT.set, kof, ai, ev, ev1, evp, b_add, b_sub, b_mul, b_quo, b_rem, b_eql, b_neq, b_lss, b_leq, b_gtr, b_geq, b_seql, b_sneq, setD, resV, resL, res1, args, List.take_zero, List.drop_zero, List.take_nil, List.take_succ_cons, List.drop_succ_cons, Nat.reduceAdd, Nat.reduceLeDiff, reduceIte, Bool.not_true, Bool.not_false, Bool.false_eq_true, CA_some, Option.some.injEq, Nat.zero_add, Nat.mul_one, Nat.add_zero, setL, List.set_cons_zero, List.set_cons_succ, fillC]
  refine EqOk.go eq_Head ah3 bh3 (fun d3 => ?_) (fun d3 => ?_)
  case refine_2 =>
    simp (disch := omega) only [KC_eq, c16, ae0, ahsz, be0, bhsz, ifT, w64, RR, RP, Ty.agg, Ty.size, Ty.sizes, eq_self, ne_eq, not_true, not_false_iff, reduceCtorEq, List.length_cons, List.length_nil, decide_true, decide_false, true_and, and_true, ite_true, ite_false, PT.full, enter0, setAll, forget, Fr.set, Fr.get, PT.get, PT.set, kof, ai, ev, ev1, evp, b_add, b_sub, b_mul, b_quo, b_rem, b_eql, b_neq, b_lss, b_leq, b_gtr, b_geq, b_seql, b_sneq, setD, resV, resL, res1, args, List.take_zero, List.drop_zero, List.take_nil, List.take_succ_cons, List.drop_succ_cons, Nat.reduceAdd, Nat.reduceLeDiff, reduceIte, Bool.not_true, Bool.not_false, Bool.false_eq_true, CA_some, Option.some.injEq, Nat.zero_add, Nat.mul_one, Nat.add_zero, setL, List.set_cons_zero, List.set_cons_succ, fillC]
    simp [d3]
  subst d3
  simp (disch := omega) only [KC_eq, c16, ae0, ahsz, be0, bhsz, ifT, w64, RR, RP, Ty.agg, Ty.size, Ty.sizes, eq_self, ne_eq, not_true, not_false_iff, reduceCtorEq, List.length_cons, List.length_nil, decide_true, decide_false, true_and, and_true, ite_true, ite_false, PT.full, enter0, setAll, forget, Fr.set, Fr.get, PT.get, PT.set, kof, ai, ev, ev1, evp, b_add, b_sub, b_mul, b_quo, b_rem, b_eql, b_neq, b_lss, b_leq, b_gtr, b_geq, b_seql, b_sneq, setD, resV, resL, res1, args, List.take_zero, List.drop_zero, List.take_nil, List.take_succ_cons, List.drop_succ_cons, Nat.reduceAdd, Nat.reduceLeDiff, reduceIte, Bool.not_true, Bool.not_false, Bool.false_eq_true, CA_some, Option.some.injEq, Nat.zero_add, Nat.mul_one, Nat.add_zero, setL, List.set_cons_zero, List.set_cons_succ, fillC]
  refine EqOk.go eq_Block ah4 bh4 (fun d4 => ?_) (fun d4 => ?_)
  case refine_2 =>
    simp (disch := omega) only [KC_eq, c16, ae0, ahsz, be0, bhsz, ifT, w64, RR, RP, Ty.agg, Ty.size, Ty.sizes, eq_self, ne_eq, not_true, not_false_iff, reduceCtorEq, List.length_cons, List.length_nil, decide_true, decide_false, true_and, and_true, ite_true, ite_false, PT.full, enter0, setAll, forget, Fr.set, Fr.get, PT.get, PT.set, kof, ai, ev, ev1, evp, b_add, b_sub, b_mul, b_quo, b_rem, b_eql, b_neq, b_lss, b_leq, b_gtr, b_geq, b_seql, b_sneq, setD, resV, resL, res1, args, List.take_zero, List.drop_zero, List.take_nil, List.take_succ_cons, List.drop_succ_cons, Nat.reduceAdd, Nat.reduceLeDiff, reduceIte, Bool.not_true, Bool.not_false, Bool.false_eq_true, CA_some, Option.some.injEq, Nat.zero_add, Nat.mul_one, Nat.add_zero, setL, List.set_cons_zero, List.set_cons_succ, fillC]
    simp [d4]
  subst d4
  simp (disch := omega) only [KC_eq, c16, ae0, ahsz, be0, bhsz, ifT, w64, RR, RP, Ty.agg, Ty.size, Ty.sizes, eq_self, ne_eq, not_true, not_false_iff, reduceCtorEq, List.length_cons, List.length_nil, decide_true, decide_false, true_and, and_true, ite_true, ite_false, PT.full, enter0, setAll, forget, Fr.set, Fr.get, PT.get, PT.set, kof, ai, ev, ev1, evp, b_add, b_sub, b_mul, b_quo, b_rem, b_eql, b_neq, b_lss, b_leq, b_gtr, b_geq, b_seql, b_sneq, setD, resV, resL, res1, args, List.take_zero, List.drop_zero, List.take_nil, List.take_succ_cons, List.drop_succ_cons, Nat.reduceAdd, Nat.reduceLeDiff, reduceIte, Bool.not_true, Bool.not_false, Bool.false_eq_true, CA_some, Option.some.injEq, Nat.zero_add, Nat.mul_one, Nat.add_zero, setL, List.set_cons_zero, List.set_cons_succ, fillC]
  refine EqOk.go eq_Tc ah5 bh5 (fun d5 => ?_) (fun d5 => ?_)
  case refine_2 =>
    simp (disch := omega) only [KC_eq, c16, ae0, ahsz, be0, bhsz, ifT, w64, RR, RP, Ty.agg, Ty.size, Ty.sizes, eq_self, ne_eq, not_true, not_false_iff, reduceCtorEq, List.length_cons, List.length_nil, decide_true, decide_false, true_and, and_true, ite_true, ite_false, PT.full, enter0, setAll, forget, Fr.set, Fr.get, PT.get, PT.set, kof, ai, ev, ev1, evp, b_add, b_sub, b_mul, b_quo, b_rem, b_eql, b_neq, b_lss, b_leq, b_gtr, b_geq, b_seql, b_sneq, setD, resV, resL, res1, args, List.take_zero, List.drop_zero, List.take_nil, List.take_succ_cons, List.drop_succ_cons, Nat.reduceAdd, Nat.reduceLeDiff, reduceIte, Bool.not_true, Bool.not_false, Bool.false_eq_true, CA_some, Option.some.injEq, Nat.zero_add, Nat.mul_one, Nat.add_zero, setL, List.set_cons_zero, List.set_cons_succ, fillC]
    simp [d5]
  subst d5
  simp (disch := omega) only [KC_eq, c16, ae0, ahsz, be0, bhsz, ifT, w64, RR, RP, Ty.agg, Ty.size, Ty.sizes, eq_self, ne_eq, not_true, not_false_iff, reduceCtorEq, List.length_cons, List.length_nil, decide_true, decide_false, true_and, and_true, ite_true, ite_false, PT.full, enter0, setAll, forget, Fr.set, Fr.get, PT.get, PT.set, kof, ai, ev, ev1, evp, b_add, b_sub, b_mul, b_quo, b_rem, b_eql, b_neq, b_lss, b_leq, b_gtr, b_geq, b_seql, b_sneq, setD, resV, resL, res1, args, List.take_zero, List.drop_zero, List.take_nil, List.take_succ_cons, List.drop_succ_cons, Nat.reduceAdd, Nat.reduceLeDiff, reduceIte, Bool.not_true, Bool.not_false, Bool.false_eq_true, CA_some, Option.some.injEq, Nat.zero_add, Nat.mul_one, Nat.add_zero, setL, List.set_cons_zero, List.set_cons_succ, fillC]
  refine EqOk.go eq_Proof ah6 bh6 (fun d6 => ?_) (fun d6 => ?_)
  case refine_2 =>
    simp (disch := omega) only [KC_eq, c16, ae0, ahsz, be0, bhsz, ifT, w64, RR, RP, Ty.agg, Ty.size, Ty.sizes, eq_self, ne_eq, not_true, not_false_iff, reduceCtorEq, List.length_cons, List.length_nil, decide_true, decide_false, true_and, and_true, ite_true, ite_false, PT.full, enter0, setAll, forget, Fr.set, Fr.get, PT.get, PT.set, kof, ai, ev, ev1, evp, b_add, b_sub, b_mul, b_quo, b_rem, b_eql, b_neq, b_lss, b_leq, b_gtr, b_geq, b_seql, b_sneq, setD, resV, resL, res1, args, List.take_zero, List.drop_zero, List.take_nil, List.take_succ_cons, List.drop_succ_cons, Nat.reduceAdd, Nat.reduceLeDiff, reduceIte, Bool.not_true, Bool.not_false, Bool.false_eq_true, CA_some, Option.some.injEq, Nat.zero_add, Nat.mul_one, Nat.add_zero, setL, List.set_cons_zero, List.set_cons_succ, fillC]
    simp [d6]
  subst d6
  simp (disch := omega) only [KC_eq, c16, ae0, ahsz, be0, bhsz, ifT, w64, RR, RP, Ty.agg, Ty.size, Ty.sizes, eq_self, ne_eq, not_true, not_false_iff, reduceCtorEq, List.length_cons, List.length_nil, decide_true, decide_false, true_and, and_true, ite_true, ite_false, PT.full, enter0, setAll, forget, Fr.set, Fr.get, PT.get, PT.set, kof, ai, ev, ev1, evp, b_add, b_sub, b_mul, b_quo, b_rem, b_eql, b_neq, b_lss, b_leq, b_gtr, b_geq, b_seql, b_sneq, setD, resV, resL, res1, args, List.take_zero, List.drop_zero, List.take_nil, List.take_succ_cons, List.drop_succ_cons, Nat.reduceAdd, Nat.reduceLeDiff, reduceIte, Bool.not_true, Bool.not_false, Bool.false_eq_true, CA_some, Option.some.injEq, Nat.zero_add, Nat.mul_one, Nat.add_zero, setL, List.set_cons_zero, List.set_cons_succ, fillC]
  refine EqOk.go eq_Incl ah7 bh7 (fun d7 => ?_) (fun d7 => ?_)
  case refine_2 =>
    simp (disch := omega) only [KC_eq, c16, ae0, ahsz, be0, bhsz, ifT, w64, RR, RP, Ty.agg, Ty.size, Ty.sizes, eq_self, ne_eq, not_true, not_false_iff, reduceCtorEq, List.length_cons, List.length_nil, decide_true, decide_false, true_and, and_true, ite_true, ite_false, PT.full, enter0, setAll, forget, Fr.set, Fr.get, PT.get, PT.set, kof, ai, ev, ev1, evp, b_add, b_sub, b_mul, b_quo, b_rem, b_eql, b_neq, b_lss, b_leq, b_gtr, b_geq, b_seql, b_sneq, setD, resV, resL, res1, args, List.take_zero, List.drop_zero, List.take_nil, List.take_succ_cons, List.drop_succ_cons, Nat.reduceAdd, Nat.reduceLeDiff, reduceIte, Bool.not_true, Bool.not_false, Bool.false_eq_true, CA_some, Option.some.injEq, Nat.zero_add, Nat.mul_one, Nat.add_zero, setL, List.set_cons_zero, List.set_cons_succ, fillC]
    simp [d7]
  subst d7
  simp (disch := omega) only [KC_eq, c16, ae0, ahsz, be0, bhsz, ifT, w64, RR, RP, Ty.agg, Ty.size, Ty.sizes, eq_self, ne_eq, not_true, not_false_iff, reduceCtorEq, List.length_cons, List.length_nil, decide_true, decide_false, true_and, and_true, ite_true, ite_false, PT.full, enter0, setAll, forget, Fr.set, Fr.get, PT.get, PT.set, kof, ai, ev, ev1, evp, b_add, b_sub, b_mul, b_quo, b_rem, b_eql, b_neq, b_lss, b_leq, b_gtr, b_geq, b_seql, b_sneq, setD, resV, resL, res1, args, List.take_zero, List.drop_zero, List.take_nil, List.take_succ_cons, List.drop_succ_cons, Nat.reduceAdd, Nat.reduceLeDiff, reduceIte, Bool.not_true, Bool.not_false, Bool.false_eq_true, CA_some, Option.some.injEq, Nat.zero_add, Nat.mul_one, Nat.add_zero, setL, List.set_cons_zero, List.set_cons_succ, fillC]
/-- laws.markByteS -/
def c56 : AF := ⟨2, 5, [.tmp 4], (.seq (.ops [.i (.mov 4 (.c (.val false [.int .i64 0])))]) (.seq (.seq (.ops [.i (.mov 5 (.c (.val false [.int .i64 0])))]) (.block 0 (.loop [18, 17, 16, 15, 14, 13, 12, 11, 10, 9, 8, 7, 6] (.seq (.seq (.ops [.i (.mov 6 (.s 5)), .i (.mov 7 (.s 0)), .i (.len 8 false (.s 7)), .i (.bin 9 .lss (.s 6) (.s 8))]) (.cond (.s 9) .skip (.exit 0))) (.seq (.block 1 (.seq (.ops [.i (.mov 12 (.s 0)), .i (.mov 13 (.s 5)), .i (.mov 14 (.s 1)), .i (.cvi 15 .u8 (.s 14)), .i (.iad 16 (.s 12) (.s 13) 1), .i (.sth (.s 16) (.s 15) 1)]) (.ops [.i (.mov 17 (.s 1)), .i (.bin 18 .add (.s 17) (.c (.val false [.int .i64 1]))), .i (.mov 1 (.s 18))]))) (.ops [.i (.mov 10 (.s 5)), .i (.bin 11 .add (.s 10) (.c (.val false [.int .i64 1]))), .i (.mov 5 (.s 11))])))))) (.seq (.ops [.i (.mov 19 (.s 1)), .i (.mov 4 (.s 19))]) .ret)))⟩
theorem k56 : cd 56 = some c56 := by kernel_rfl
theorem mk_ByteS : MkOk cd 56 (.sl (.int .u8)) := mk_leaf k56
/-- laws.markByteSS -/
def c31 : AF := ⟨2, 5, [.tmp 4], (.seq (.ops [.i (.mov 4 (.c (.val false [.int .i64 0])))]) (.seq (.seq (.ops [.i (.mov 5 (.c (.val false [.int .i64 0])))]) (.block 0 (.loop [17, 16, 15, 14, 13, 12, 11, 10, 9, 8, 7, 6] (.seq (.seq (.ops [.i (.mov 6 (.s 5)), .i (.mov 7 (.s 0)), .i (.len 8 false (.s 7)), .i (.bin 9 .lss (.s 6) (.s 8))]) (.cond (.s 9) .skip (.exit 0))) (.seq (.block 1 (.ops [.i (.mov 12 (.s 0)), .i (.mov 13 (.s 5)), .i (.iad 14 (.s 12) (.s 13) 1), .i (.ldh 15 (.s 14) 1 false), .i (.mov 16 (.s 1)), .i (.call 18 56 false [(.s 15), (.s 16)]), .i (.mov 1 (.s 17))])) (.ops [.i (.mov 10 (.s 5)), .i (.bin 11 .add (.s 10) (.c (.val false [.int .i64 1]))), .i (.mov 5 (.s 11))])))))) (.seq (.ops [.i (.mov 18 (.s 1)), .i (.mov 4 (.s 18))]) .ret)))⟩
theorem k31 : cd 31 = some c31 := by kernel_rfl
theorem mk_ByteSS : MkOk cd 31 (.sl (.sl (.int .u8))) := mk_sl k31 mk_ByteS
/-- laws.markQc -/
def c73 : AF := ⟨2, 5, [.tmp 4], (.seq (.ops [.i (.lbox 2 (.s 0)), .i (.mov 4 (.c (.val false [.int .i64 0])))]) (.seq (.ops [.i (.fad 5 (.s 2) 2), .i (.ldl 6 2 (.s 5) 1 false), .i (.mov 7 (.s 1)), .i (.call 9 56 false [(.s 6), (.s 7)]), .i (.mov 1 (.s 8))]) (.seq (.ops [.i (.fad 9 (.s 2) 3), .i (.ldl 10 2 (.s 9) 1 false), .i (.mov 11 (.s 1)), .i (.call 13 56 false [(.s 10), (.s 11)]), .i (.mov 1 (.s 12))]) (.seq (.ops [.i (.fad 13 (.s 2) 4), .i (.ldl 14 2 (.s 13) 1 false), .i (.mov 15 (.s 1)), .i (.call 17 31 false [(.s 14), (.s 15)]), .i (.mov 1 (.s 16))]) (.seq (.ops [.i (.mov 17 (.s 1)), .i (.mov 4 (.s 17))]) .ret)))))⟩
theorem k73 : cd 73 = some c73 := by kernel_rfl
theorem mk_Qc : MkOk cd 73 TQc := by
  intro h cs v S k hv ho hk
  obtain ⟨vs, rfl, q0⟩ := hv.st
  obtain ⟨v0, r0, S0, T0, rfl, rfl, h0, q1⟩ := q0.step
  obtain ⟨n0, e0, rfl, rfl, lo0, hi0⟩ := h0.int
  obtain ⟨v1, r1, S1, T1, rfl, rfl, h1, q2⟩ := q1.step
  obtain ⟨n1, e1, rfl, rfl, lo1, hi1⟩ := h1.int
  obtain ⟨v2, r2, S2, T2, rfl, rfl, h2, q3⟩ := q2.step
  obtain ⟨c2, e2⟩ := h2.one rfl
  rw [e2] at h2
  obtain ⟨v3, r3, S3, T3, rfl, rfl, h3, q4⟩ := q3.step
  obtain ⟨c3, e3⟩ := h3.one rfl
  rw [e3] at h3
  obtain ⟨v4, r4, S4, T4, rfl, rfl, h4, q5⟩ := q4.step
  obtain ⟨c4, e4⟩ := h4.one rfl
  rw [e4] at h4
  obtain ⟨_, rfl, rfl⟩ := q5
  have hsz : cs.length = 5 := hv.size
  simp only [Ty.size, Ty.sizes, Nat.reduceAdd, Nat.zero_add, List.drop_zero] at e0 e1 e2 e3 e4 hsz
  have hcn : cnT TQc (.r [.i n0, .i n1, v2, v3, v4]) = (0 + (0 + (cnT (.sl (.int .u8)) v2 + (cnT (.sl (.int .u8)) v3 + (cnT (.sl (.sl (.int .u8))) v4 + 0))))) := rfl
  have hmk : mkT TQc (.r [.i n0, .i n1, v2, v3, v4]) k = .r [.i n0, .i n1, mkT (.sl (.int .u8)) v2 (k), mkT (.sl (.int .u8)) v3 (k + cnT (.sl (.int .u8)) v2), mkT (.sl (.sl (.int .u8))) v4 (k + cnT (.sl (.int .u8)) v2 + cnT (.sl (.int .u8)) v3)] := rfl
  rw [hmk]
  rw [hcn] at hk ⊢
  simp only [List.nil_append, List.append_nil] at ho ⊢
  obtain ⟨o2, ho2, x2, xx2⟩ := ho.split
  obtain ⟨o3, ho3, x3, xx3⟩ := ho2.split
  have o4 := ho3
  refine WS_enter k73 rfl ?_
  simp (disch := omega) only [KC_eq, c73, e0, e1, e2, e3, e4, hsz, ifT, w64, RR, RP, Ty.agg, Ty.size, Ty.sizes, eq_self, ne_eq, not_true, not_false_iff, reduceCtorEq, List.length_cons, List.length_nil, decide_true, decide_false, true_and, and_true, ite_true, ite_false, PT.full, enter0, setAll, forget, Fr.set, Fr.get, PT.get, PT.set, kof, ai, ev, ev1, evp, b_add, b_sub, b_mul, b_quo, b_rem, b_eql, b_neq, b_lss, b_leq, b_gtr, b_geq, b_seql, b_sneq, setD, resV, resL, res1, args, List.take_zero, List.drop_zero, List.take_nil, List.take_succ_cons, List.drop_succ_cons, Nat.reduceAdd, Nat.reduceLeDiff, reduceIte, Bool.not_true, Bool.not_false, Bool.false_eq_true, CA_some, Option.some.injEq, Nat.zero_add, Nat.mul_one, Nat.add_zero, setL, List.set_cons_zero, List.set_cons_succ, fillC]
  refine MkOk.go mk_ByteS h2 o2 (k := k) (by omega) (fun g2 w2 z2 => ?_)
  simp (disch := omega) only [KC_eq, c73, e0, e1, e2, e3, e4, hsz, ifT, w64, RR, RP, Ty.agg, Ty.size, Ty.sizes, eq_self, ne_eq, not_true, not_false_iff, reduceCtorEq, List.length_cons, List.length_nil, decide_true, decide_false, true_and, and_true, ite_true, ite_false, PT.full, enter0, setAll, forget, Fr.set, Fr.get, PT.get, PT.set, kof, ai, ev, ev1, evp, b_add, b_sub, b_mul, b_quo, b_rem, b_eql, b_neq, b_lss, b_leq, b_gtr, b_geq, b_seql, b_sneq, setD, resV, resL, res1, args, List.take_zero, List.drop_zero, List.take_nil, List.take_succ_cons, List.drop_succ_cons, Nat.reduceAdd, Nat.reduceLeDiff, reduceIte, Bool.not_true, Bool.not_false, Bool.false_eq_true, CA_some, Option.some.injEq, Nat.zero_add, Nat.mul_one, Nat.add_zero, setL, List.set_cons_zero, List.set_cons_succ, fillC]
  refine MkOk.go mk_ByteS (h3.wrote w2 (fun i hi => xx2 i (by simp [hi]))) (w2.ownd o3) (k := k + cnT (.sl (.int .u8)) v2) (by omega) (fun g3 w3 z3 => ?_)
  simp (disch := omega) only [KC_eq, c73, e0, e1, e2, e3, e4, hsz, ifT, w64, RR, RP, Ty.agg, Ty.size, Ty.sizes, eq_self, ne_eq, not_true, not_false_iff, reduceCtorEq, List.length_cons, List.length_nil, decide_true, decide_false, true_and, and_true, ite_true, ite_false, PT.full, enter0, setAll, forget, Fr.set, Fr.get, PT.get, PT.set, kof, ai, ev, ev1, evp, b_add, b_sub, b_mul, b_quo, b_rem, b_eql, b_neq, b_lss, b_leq, b_gtr, b_geq, b_seql, b_sneq, setD, resV, resL, res1, args, List.take_zero, List.drop_zero, List.take_nil, List.take_succ_cons, List.drop_succ_cons, Nat.reduceAdd, Nat.reduceLeDiff, reduceIte, Bool.not_true, Bool.not_false, Bool.false_eq_true, CA_some, Option.some.injEq, Nat.zero_add, Nat.mul_one, Nat.add_zero, setL, List.set_cons_zero, List.set_cons_succ, fillC]
  refine MkOk.go mk_ByteSS ((h4.wrote w2 (fun i hi => xx2 i (by simp [hi]))).wrote w3 (fun i hi => xx3 i (by simp [hi]))) (w3.ownd (w2.ownd o4)) (k := k + cnT (.sl (.int .u8)) v2 + cnT (.sl (.int .u8)) v3) (by omega) (fun g4 w4 z4 => ?_)
  simp (disch := omega) only [KC_eq, c73, e0, e1, e2, e3, e4, hsz, ifT, w64, RR, RP, Ty.agg, Ty.size, Ty.sizes, eq_self, ne_eq, not_true, not_false_iff, reduceCtorEq, List.length_cons, List.length_nil, decide_true, decide_false, true_and, and_true, ite_true, ite_false, PT.full, enter0, setAll, forget, Fr.set, Fr.get, PT.get, PT.set, kof, ai, ev, ev1, evp, b_add, b_sub, b_mul, b_quo, b_rem, b_eql, b_neq, b_lss, b_leq, b_gtr, b_geq, b_seql, b_sneq, setD, resV, resL, res1, args, List.take_zero, List.drop_zero, List.take_nil, List.take_succ_cons, List.drop_succ_cons, Nat.reduceAdd, Nat.reduceLeDiff, reduceIte, Bool.not_true, Bool.not_false, Bool.false_eq_true, CA_some, Option.some.injEq, Nat.zero_add, Nat.mul_one, Nat.add_zero, setL, List.set_cons_zero, List.set_cons_succ, fillC]
  have fin : Rs g4 [(.int .i64), (.int .i64), (.sl (.int .u8)), (.sl (.int .u8)), (.sl (.sl (.int .u8)))] (cs.drop 0) [.i n0, .i n1, mkT (.sl (.int .u8)) v2 (k), mkT (.sl (.int .u8)) v3 (k + cnT (.sl (.int .u8)) v2), mkT (.sl (.sl (.int .u8))) v4 (k + cnT (.sl (.int .u8)) v2 + cnT (.sl (.int .u8)) v3)] _ := (Rs.unstep (o := 0) (Rp.int_at e0 lo0 hi0) (Rs.unstep (o := 1) (Rp.int_at e1 lo1 hi1) (Rs.unstep (o := 2) (Rp.cs_at e2 ((z2.wrote w3 (fun i hi hn => x2 i hi (by simp [hn]))).wrote w4 (fun i hi hn => x2 i hi (by simp [hn])))) (Rs.unstep (o := 3) (Rp.cs_at e3 (z3.wrote w4 (fun i hi hn => x3 i hi (by simp [hn])))) (Rs.unstep (o := 4) (Rp.cs_at e4 z4) (Rs.fin (Nat.le_of_eq hsz)))))))
  simp only [List.nil_append, List.append_nil, List.drop_zero] at fin
  have wr := ((((Wrote.refl ho.2).more w2 (fun i hi => by simp [hi])).more w3 (fun i hi => by simp [hi])).more w4 (fun i hi => by simp [hi]))
  first
    | exact ⟨wr, _, rfl, fin⟩
    | (refine ⟨?_, wr, _, rfl, fin⟩
       congr 3
       omega)
/-- laws.markHead -/
def c30 : AF := ⟨2, 5, [.tmp 4], (.seq (.ops [.i (.lbox 2 (.s 0)), .i (.mov 4 (.c (.val false [.int .i64 0])))]) (.seq (.ops [.i (.fad 5 (.s 2) 3), .i (.ldl 6 2 (.s 5) 1 false), .i (.mov 7 (.s 1)), .i (.call 9 56 false [(.s 6), (.s 7)]), .i (.mov 1 (.s 8))]) (.seq (.ops [.i (.fad 9 (.s 2) 4), .i (.ldl 10 2 (.s 9) 1 false), .i (.mov 11 (.s 1)), .i (.call 13 56 false [(.s 10), (.s 11)]), .i (.mov 1 (.s 12))]) (.seq (.ops [.i (.fad 13 (.s 2) 5), .i (.ldl 14 2 (.s 13) 5 true), .i (.mov 15 (.s 1)), .i (.call 17 73 false [(.s 14), (.s 15)]), .i (.mov 1 (.s 16))]) (.seq (.ops [.i (.mov 17 (.s 1)), .i (.mov 4 (.s 17))]) .ret)))))⟩
theorem k30 : cd 30 = some c30 := by kernel_rfl
theorem mk_Head : MkOk cd 30 THead := by
  intro h cs v S k hv ho hk
  obtain ⟨vs, rfl, q0⟩ := hv.st
  obtain ⟨v0, r0, S0, T0, rfl, rfl, h0, q1⟩ := q0.step
  obtain ⟨n0, e0, rfl, rfl, lo0, hi0⟩ := h0.int
  obtain ⟨v1, r1, S1, T1, rfl, rfl, h1, q2⟩ := q1.step
  obtain ⟨n1, e1, rfl, rfl, lo1, hi1⟩ := h1.int
  obtain ⟨v2, r2, S2, T2, rfl, rfl, h2, q3⟩ := q2.step
  obtain ⟨n2, e2, rfl, rfl, lo2, hi2⟩ := h2.int
  obtain ⟨v3, r3, S3, T3, rfl, rfl, h3, q4⟩ := q3.step
  obtain ⟨c3, e3⟩ := h3.one rfl
  rw [e3] at h3
  obtain ⟨v4, r4, S4, T4, rfl, rfl, h4, q5⟩ := q4.step
  obtain ⟨c4, e4⟩ := h4.one rfl
  rw [e4] at h4
  obtain ⟨v5, r5, S5, T5, rfl, rfl, h5, q6⟩ := q5.step
  obtain ⟨_, rfl, rfl⟩ := q6
  have hsz : cs.length = 10 := hv.size
  simp only [Ty.size, Ty.sizes, Nat.reduceAdd, Nat.zero_add, List.drop_zero] at e0 e1 e2 e3 e4 hsz h5
  have hcn : cnT THead (.r [.i n0, .i n1, .i n2, v3, v4, v5]) = (0 + (0 + (0 + (cnT (.sl (.int .u8)) v3 + (cnT (.sl (.int .u8)) v4 + (cnT TQc v5 + 0)))))) := rfl
  have hmk : mkT THead (.r [.i n0, .i n1, .i n2, v3, v4, v5]) k = .r [.i n0, .i n1, .i n2, mkT (.sl (.int .u8)) v3 (k), mkT (.sl (.int .u8)) v4 (k + cnT (.sl (.int .u8)) v3), mkT TQc v5 (k + cnT (.sl (.int .u8)) v3 + cnT (.sl (.int .u8)) v4)] := rfl
  rw [hmk]
  rw [hcn] at hk ⊢
  simp only [List.nil_append, List.append_nil] at ho ⊢
  obtain ⟨o3, ho3, x3, xx3⟩ := ho.split
  obtain ⟨o4, ho4, x4, xx4⟩ := ho3.split
  have o5 := ho4
  refine WS_enter k30 rfl ?_
  simp (disch := omega) only [KC_eq, c30, e0, e1, e2, e3, e4, hsz, ifT, w64, RR, RP, Ty.agg, Ty.size, Ty.sizes, eq_self, ne_eq, not_true, not_false_iff, reduceCtorEq, List.length_cons, List.length_nil, decide_true, decide_false, true_and, and_true, ite_true, ite_false, PT.full, enter0, setAll, forget, Fr.set, Fr.get, PT.get, PT.set, kof, ai, ev, ev1, evp, b_add, b_sub, b_mul, b_quo, b_rem, b_eql, b_neq, b_lss, b_leq, b_gtr, b_geq, b_seql, b_sneq, setD, resV, resL, res1, args, List.take_zero, List.drop_zero, List.take_nil, List.take_succ_cons, List.drop_succ_cons, Nat.reduceAdd, Nat.reduceLeDiff, reduceIte, Bool.not_true, Bool.not_false, Bool.false_eq_true, CA_some, Option.some.injEq, Nat.zero_add, Nat.mul_one, Nat.add_zero, setL, List.set_cons_zero, List.set_cons_succ, fillC]
  refine MkOk.go mk_ByteS h3 o3 (k := k) (by omega) (fun g3 w3 z3 => ?_)
  simp (disch := omega) only [KC_eq, c30, e0, e1, e2, e3, e4, hsz, ifT, w64, RR, RP, Ty.agg, Ty.size, Ty.sizes, eq_self, ne_eq, not_true, not_false_iff, reduceCtorEq, List.length_cons, List.length_nil, decide_true, decide_false, true_and, and_true, ite_true, ite_false, PT.full, enter0, setAll, forget, Fr.set, Fr.get, PT.get, PT.set, kof, ai, ev, ev1, evp, b_add, b_sub, b_mul, b_quo, b_rem, b_eql, b_neq, b_lss, b_leq, b_gtr, b_geq, b_seql, b_sneq, setD, resV, resL, res1, args, List.take_zero, List.drop_zero, List.take_nil, List.take_succ_cons, List.drop_succ_cons, Nat.reduceAdd, Nat.reduceLeDiff, reduceIte, Bool.not_true, Bool.not_false, Bool.false_eq_true, CA_some, Option.some.injEq, Nat.zero_add, Nat.mul_one, Nat.add_zero, setL, List.set_cons_zero, List.set_cons_succ, fillC]
  refine MkOk.go mk_ByteS (h4.wrote w3 (fun i hi => xx3 i (by simp [hi]))) (w3.ownd o4) (k := k + cnT (.sl (.int .u8)) v3) (by omega) (fun g4 w4 z4 => ?_)
  simp (disch := omega) only [KC_eq, c30, e0, e1, e2, e3, e4, hsz, ifT, w64, RR, RP, Ty.agg, Ty.size, Ty.sizes, eq_self, ne_eq, not_true, not_false_iff, reduceCtorEq, List.length_cons, List.length_nil, decide_true, decide_false, true_and, and_true, ite_true, ite_false, PT.full, enter0, setAll, forget, Fr.set, Fr.get, PT.get, PT.set, kof, ai, ev, ev1, evp, b_add, b_sub, b_mul, b_quo, b_rem, b_eql, b_neq, b_lss, b_leq, b_gtr, b_geq, b_seql, b_sneq, setD, resV, resL, res1, args, List.take_zero, List.drop_zero, List.take_nil, List.take_succ_cons, List.drop_succ_cons, Nat.reduceAdd, Nat.reduceLeDiff, reduceIte, Bool.not_true, Bool.not_false, Bool.false_eq_true, CA_some, Option.some.injEq, Nat.zero_add, Nat.mul_one, Nat.add_zero, setL, List.set_cons_zero, List.set_cons_succ, fillC]
  refine MkOk.go mk_Qc ((h5.wrote w3 (fun i hi => xx3 i (by simp [hi]))).wrote w4 (fun i hi => xx4 i (by simp [hi]))) (w4.ownd (w3.ownd o5)) (k := k + cnT (.sl (.int .u8)) v3 + cnT (.sl (.int .u8)) v4) (by omega) (fun g5 w5 z5 => ?_)
  simp (disch := omega) only [KC_eq, c30, e0, e1, e2, e3, e4, hsz, ifT, w64, RR, RP, Ty.agg, Ty.size, Ty.sizes, eq_self, ne_eq, not_true, not_false_iff, reduceCtorEq, List.length_cons, List.length_nil, decide_true, decide_false, true_and, and_true, ite_true, ite_false, PT.full, enter0, setAll, forget, Fr.set, Fr.get, PT.get, PT.set, kof, ai, ev, ev1, evp, b_add, b_sub, b_mul, b_quo, b_rem, b_eql, b_neq, b_lss, b_leq, b_gtr, b_geq, b_seql, b_sneq, setD, resV, resL, res1, args, List.take_zero, List.drop_zero, List.take_nil, List.take_succ_cons, List.drop_succ_cons, Nat.reduceAdd, Nat.reduceLeDiff, reduceIte, Bool.not_true, Bool.not_false, Bool.false_eq_true, CA_some, Option.some.injEq, Nat.zero_add, Nat.mul_one, Nat.add_zero, setL, List.set_cons_zero, List.set_cons_succ, fillC]
  have fin : Rs g5 [(.int .i64), (.int .i64), (.int .i64), (.sl (.int .u8)), (.sl (.int .u8)), TQc] (cs.drop 0) [.i n0, .i n1, .i n2, mkT (.sl (.int .u8)) v3 (k), mkT (.sl (.int .u8)) v4 (k + cnT (.sl (.int .u8)) v3), mkT TQc v5 (k + cnT (.sl (.int .u8)) v3 + cnT (.sl (.int .u8)) v4)] _ := (Rs.unstep (o := 0) (Rp.int_at e0 lo0 hi0) (Rs.unstep (o := 1) (Rp.int_at e1 lo1 hi1) (Rs.unstep (o := 2) (Rp.int_at e2 lo2 hi2) (Rs.unstep (o := 3) (Rp.cs_at e3 ((z3.wrote w4 (fun i hi hn => x3 i hi (by simp [hn]))).wrote w5 (fun i hi hn => x3 i hi (by simp [hn])))) (Rs.unstep (o := 4) (Rp.cs_at e4 (z4.wrote w5 (fun i hi hn => x4 i hi (by simp [hn])))) (Rs.unstep (o := 5) z5 (Rs.fin (Nat.le_of_eq hsz))))))))
  simp only [List.nil_append, List.append_nil, List.drop_zero] at fin
  have wr := ((((Wrote.refl ho.2).more w3 (fun i hi => by simp [hi])).more w4 (fun i hi => by simp [hi])).more w5 (fun i hi => by simp [hi]))
  first
    | exact ⟨wr, _, rfl, fin⟩
    | (refine ⟨?_, wr, _, rfl, fin⟩
       congr 3
       omega)
/-- laws.markBlock -/
def c18 : AF := ⟨2, 4, [.tmp 4], (.seq (.ops [.i (.lbox 2 (.s 0)), .i (.mov 4 (.c (.val false [.int .i64 0])))]) (.seq (.ops [.i (.fad 5 (.s 2) 0), .i (.ldl 6 2 (.s 5) 10 true), .i (.mov 7 (.s 1)), .i (.call 9 30 false [(.s 6), (.s 7)]), .i (.mov 1 (.s 8))]) (.seq (.ops [.i (.fad 9 (.s 2) 10), .i (.ldl 10 2 (.s 9) 1 false), .i (.mov 11 (.s 1)), .i (.call 13 31 false [(.s 10), (.s 11)]), .i (.mov 1 (.s 12))]) (.seq (.ops [.i (.mov 13 (.s 1)), .i (.mov 4 (.s 13))]) .ret))))⟩
theorem k18 : cd 18 = some c18 := by kernel_rfl
theorem mk_Block : MkOk cd 18 TBlock := by
  intro h cs v S k hv ho hk
  obtain ⟨vs, rfl, q0⟩ := hv.st
  obtain ⟨v0, r0, S0, T0, rfl, rfl, h0, q1⟩ := q0.step
  obtain ⟨v1, r1, S1, T1, rfl, rfl, h1, q2⟩ := q1.step
  obtain ⟨c1, e1⟩ := h1.one rfl
  rw [e1] at h1
  obtain ⟨_, rfl, rfl⟩ := q2
  have hsz : cs.length = 11 := hv.size
  simp only [Ty.size, Ty.sizes, Nat.reduceAdd, Nat.zero_add, List.drop_zero] at e1 hsz h0
  have hcn : cnT TBlock (.r [v0, v1]) = (cnT THead v0 + (cnT (.sl (.sl (.int .u8))) v1 + 0)) := rfl
  have hmk : mkT TBlock (.r [v0, v1]) k = .r [mkT THead v0 (k), mkT (.sl (.sl (.int .u8))) v1 (k + cnT THead v0)] := rfl
  rw [hmk]
  rw [hcn] at hk ⊢
  simp only [List.nil_append, List.append_nil] at ho ⊢
  obtain ⟨o0, ho0, x0, xx0⟩ := ho.split
  have o1 := ho0
  refine WS_enter k18 rfl ?_
  simp (disch := omega) only [KC_eq, c18, e1, hsz, ifT, w64, RR, RP, Ty.agg, Ty.size, Ty.sizes, eq_self, ne_eq, not_true, not_false_iff, reduceCtorEq, List.length_cons, List.length_nil, decide_true, decide_false, true_and, and_true, ite_true, ite_false, PT.full, enter0, setAll, forget, Fr.set, Fr.get, PT.get, PT.set, kof, ai, ev, ev1, evp, b_add, b_sub, b_mul, b_quo, b_rem, b_eql, b_neq, b_lss, b_leq, b_gtr, b_geq, b_seql, b_sneq, setD, resV, resL, res1, args, List.take_zero, List.drop_zero, List.take_nil, List.take_succ_cons, List.drop_succ_cons, Nat.reduceAdd, Nat.reduceLeDiff, reduceIte, Bool.not_true, Bool.not_false, Bool.false_eq_true, CA_some, Option.some.injEq, Nat.zero_add, Nat.mul_one, Nat.add_zero, setL, List.set_cons_zero, List.set_cons_succ, fillC]
  refine MkOk.go mk_Head h0 o0 (k := k) (by omega) (fun g0 w0 z0 => ?_)
  simp (disch := omega) only [KC_eq, c18, e1, hsz, ifT, w64, RR, RP, Ty.agg, Ty.size, Ty.sizes, eq_self, ne_eq, not_true, not_false_iff, reduceCtorEq, List.length_cons, List.length_nil, decide_true, decide_false, true_and, and_true, ite_true, ite_false, PT.full, enter0, setAll, forget, Fr.set, Fr.get, PT.get, PT.set, kof, ai, ev, ev1, evp, b_add, b_sub, b_mul, b_quo, b_rem, b_eql, b_neq, b_lss, b_leq, b_gtr, b_geq, b_seql, b_sneq, setD, resV, resL, res1, args, List.take_zero, List.drop_zero, List.take_nil, List.take_succ_cons, List.drop_succ_cons, Nat.reduceAdd, Nat.reduceLeDiff, reduceIte, Bool.not_true, Bool.not_false, Bool.false_eq_true, CA_some, Option.some.injEq, Nat.zero_add, Nat.mul_one, Nat.add_zero, setL, List.set_cons_zero, List.set_cons_succ, fillC]
  refine MkOk.go mk_ByteSS (h1.wrote w0 (fun i hi => xx0 i (by simp [hi]))) (w0.ownd o1) (k := k + cnT THead v0) (by omega) (fun g1 w1 z1 => ?_)
  simp (disch := omega) only [KC_eq, c18, e1, hsz, ifT, w64, RR, RP, Ty.agg, Ty.size, Ty.sizes, eq_self, ne_eq, not_true, not_false_iff, reduceCtorEq, List.length_cons, List.length_nil, decide_true, decide_false, true_and, and_true, ite_true, ite_false, PT.full, enter0, setAll, forget, Fr.set, Fr.get, PT.get, PT.set, kof, ai, ev, ev1, evp, b_add, b_sub, b_mul, b_quo, b_rem, b_eql, b_neq, b_lss, b_leq, b_gtr, b_geq, b_seql, b_sneq, setD, resV, resL, res1, args, List.take_zero, List.drop_zero, List.take_nil, List.take_succ_cons, List.drop_succ_cons, Nat.reduceAdd, Nat.reduceLeDiff, reduceIte, Bool.not_true, Bool.not_false, Bool.false_eq_true, CA_some, Option.some.injEq, Nat.zero_add, Nat.mul_one, Nat.add_zero, setL, List.set_cons_zero, List.set_cons_succ, fillC]
  have fin : Rs g1 [THead, (.sl (.sl (.int .u8)))] (cs.drop 0) [mkT THead v0 (k), mkT (.sl (.sl (.int .u8))) v1 (k + cnT THead v0)] _ := (Rs.unstep (o := 0) (z0.wrote w1 (fun i hi hn => x0 i hi (by simp [hn]))) (Rs.unstep (o := 10) (Rp.cs_at e1 z1) (Rs.fin (Nat.le_of_eq hsz))))
  simp only [List.nil_append, List.append_nil, List.drop_zero] at fin
  have wr := (((Wrote.refl ho.2).more w0 (fun i hi => by simp [hi])).more w1 (fun i hi => by simp [hi]))
  first
    | exact ⟨wr, _, rfl, fin⟩
    | (refine ⟨?_, wr, _, rfl, fin⟩
       congr 3
       omega)
/-- laws.markVote -/
def c72 : AF := ⟨2, 4, [.tmp 4], (.seq (.ops [.i (.lbox 2 (.s 0)), .i (.mov 4 (.c (.val false [.int .i64 0])))]) (.seq (.ops [.i (.fad 5 (.s 2) 2), .i (.ldl 6 2 (.s 5) 1 false), .i (.mov 7 (.s 1)), .i (.call 9 56 false [(.s 6), (.s 7)]), .i (.mov 1 (.s 8))]) (.seq (.ops [.i (.fad 9 (.s 2) 4), .i (.ldl 10 2 (.s 9) 1 false), .i (.mov 11 (.s 1)), .i (.call 13 56 false [(.s 10), (.s 11)]), .i (.mov 1 (.s 12))]) (.seq (.ops [.i (.mov 13 (.s 1)), .i (.mov 4 (.s 13))]) .ret))))⟩
theorem k72 : cd 72 = some c72 := by kernel_rfl
theorem mk_Vote : MkOk cd 72 TVote := by
  intro h cs v S k hv ho hk
  obtain ⟨vs, rfl, q0⟩ := hv.st
  obtain ⟨v0, r0, S0, T0, rfl, rfl, h0, q1⟩ := q0.step
  obtain ⟨n0, e0, rfl, rfl, lo0, hi0⟩ := h0.int
  obtain ⟨v1, r1, S1, T1, rfl, rfl, h1, q2⟩ := q1.step
  obtain ⟨n1, e1, rfl, rfl, lo1, hi1⟩ := h1.int
  obtain ⟨v2, r2, S2, T2, rfl, rfl, h2, q3⟩ := q2.step
  obtain ⟨c2, e2⟩ := h2.one rfl
  rw [e2] at h2
  obtain ⟨v3, r3, S3, T3, rfl, rfl, h3, q4⟩ := q3.step
  obtain ⟨n3, e3, rfl, rfl, lo3, hi3⟩ := h3.int
  obtain ⟨v4, r4, S4, T4, rfl, rfl, h4, q5⟩ := q4.step
  obtain ⟨c4, e4⟩ := h4.one rfl
  rw [e4] at h4
  obtain ⟨_, rfl, rfl⟩ := q5
  have hsz : cs.length = 5 := hv.size
  simp only [Ty.size, Ty.sizes, Nat.reduceAdd, Nat.zero_add, List.drop_zero] at e0 e1 e2 e3 e4 hsz
  have hcn : cnT TVote (.r [.i n0, .i n1, v2, .i n3, v4]) = (0 + (0 + (cnT (.sl (.int .u8)) v2 + (0 + (cnT (.sl (.int .u8)) v4 + 0))))) := rfl
  have hmk : mkT TVote (.r [.i n0, .i n1, v2, .i n3, v4]) k = .r [.i n0, .i n1, mkT (.sl (.int .u8)) v2 (k), .i n3, mkT (.sl (.int .u8)) v4 (k + cnT (.sl (.int .u8)) v2)] := rfl
  rw [hmk]
  rw [hcn] at hk ⊢
  simp only [List.nil_append, List.append_nil] at ho ⊢
  obtain ⟨o2, ho2, x2, xx2⟩ := ho.split
  have o4 := ho2
  refine WS_enter k72 rfl ?_
  simp (disch := omega) only [KC_eq, c72, e0, e1, e2, e3, e4, hsz, ifT, w64, RR, RP, Ty.agg, Ty.size, Ty.sizes, eq_self, ne_eq, not_true, not_false_iff, reduceCtorEq, List.length_cons, List.length_nil, decide_true, decide_false, true_and, and_true, ite_true, ite_false, PT.full, enter0, setAll, forget, Fr.set, Fr.get, PT.get, PT.set, kof, ai, ev, ev1, evp, b_add, b_sub, b_mul, b_quo, b_rem, b_eql, b_neq, b_lss, b_leq, b_gtr, b_geq, b_seql, b_sneq, setD, resV, resL, res1, args, List.take_zero, List.drop_zero, List.take_nil, List.take_succ_cons, List.drop_succ_cons, Nat.reduceAdd, Nat.reduceLeDiff, reduceIte, Bool.not_true, Bool.not_false, Bool.false_eq_true, CA_some, Option.some.injEq, Nat.zero_add, Nat.mul_one, Nat.add_zero, setL, List.set_cons_zero, List.set_cons_succ, fillC]
  refine MkOk.go mk_ByteS h2 o2 (k := k) (by omega) (fun g2 w2 z2 => ?_)
  simp (disch := omega) only [KC_eq, c72, e0, e1, e2, e3, e4, hsz, ifT, w64, RR, RP, Ty.agg, Ty.size, Ty.sizes, eq_self, ne_eq, not_true, not_false_iff, reduceCtorEq, List.length_cons, List.length_nil, decide_true, decide_false, true_and, and_true, ite_true, ite_false, PT.full, enter0, setAll, forget, Fr.set, Fr.get, PT.get, PT.set, kof, ai, ev, ev1, evp, b_add, b_sub, b_mul, b_quo, b_rem, b_eql, b_neq, b_lss, b_leq, b_gtr, b_geq, b_seql, b_sneq, setD, resV, resL, res1, args, List.take_zero, List.drop_zero, List.take_nil, List.take_succ_cons, List.drop_succ_cons, Nat.reduceAdd, Nat.reduceLeDiff, reduceIte, Bool.not_true, Bool.not_false, Bool.false_eq_true, CA_some, Option.some.injEq, Nat.zero_add, Nat.mul_one, Nat.add_zero, setL, List.set_cons_zero, List.set_cons_succ, fillC]
  refine MkOk.go mk_ByteS (h4.wrote w2 (fun i hi => xx2 i (by simp [hi]))) (w2.ownd o4) (k := k + cnT (.sl (.int .u8)) v2) (by omega) (fun g4 w4 z4 => ?_)
  simp (disch := omega) only [KC_eq, c72, e0, e1, e2, e3, e4, hsz, ifT, w64, RR, RP, Ty.agg, Ty.size, Ty.sizes, eq_self, ne_eq, not_true, not_false_iff, reduceCtorEq, List.length_cons, List.length_nil, decide_true, decide_false, true_and, and_true, ite_true, ite_false, PT.full, enter0, setAll, forget, Fr.set, Fr.get, PT.get, PT.set, kof, ai, ev, ev1, evp, b_add, b_sub, b_mul, b_quo, b_rem, b_eql, b_neq, b_lss, b_leq, b_gtr, b_geq, b_seql, b_sneq, setD, resV, resL, res1, args, List.take_zero, List.drop_zero, List.take_nil, List.take_succ_cons, List.drop_succ_cons, Nat.reduceAdd, Nat.reduceLeDiff, reduceIte, Bool.not_true, Bool.not_false, Bool.false_eq_true, CA_some, Option.some.injEq, Nat.zero_add, Nat.mul_one, Nat.add_zero, setL, List.set_cons_zero, List.set_cons_succ, fillC]
  have fin : Rs g4 [(.int .i64), (.int .i64), (.sl (.int .u8)), (.int .i64), (.sl (.int .u8))] (cs.drop 0) [.i n0, .i n1, mkT (.sl (.int .u8)) v2 (k), .i n3, mkT (.sl (.int .u8)) v4 (k + cnT (.sl (.int .u8)) v2)] _ := (Rs.unstep (o := 0) (Rp.int_at e0 lo0 hi0) (Rs.unstep (o := 1) (Rp.int_at e1 lo1 hi1) (Rs.unstep (o := 2) (Rp.cs_at e2 (z2.wrote w4 (fun i hi hn => x2 i hi (by simp [hn])))) (Rs.unstep (o := 3) (Rp.int_at e3 lo3 hi3) (Rs.unstep (o := 4) (Rp.cs_at e4 z4) (Rs.fin (Nat.le_of_eq hsz)))))))
  simp only [List.nil_append, List.append_nil, List.drop_zero] at fin
  have wr := (((Wrote.refl ho.2).more w2 (fun i hi => by simp [hi])).more w4 (fun i hi => by simp [hi]))
  first
    | exact ⟨wr, _, rfl, fin⟩
    | (refine ⟨?_, wr, _, rfl, fin⟩
       congr 3
       omega)
/-- laws.markEntryS -/
def c125 : AF := ⟨2, 6, [.tmp 4], (.seq (.ops [.i (.mov 4 (.c (.val false [.int .i64 0])))]) (.seq (.seq (.ops [.i (.mov 5 (.c (.val false [.int .i64 0])))]) (.block 0 (.loop [32, 31, 30, 29, 28, 27, 26, 25, 24, 23, 22, 21, 20, 19, 18, 17, 16, 15, 14, 13, 12, 11, 10, 9, 8, 7, 6] (.seq (.seq (.ops [.i (.mov 6 (.s 5)), .i (.mov 7 (.s 0)), .i (.len 8 false (.s 7)), .i (.bin 9 .lss (.s 6) (.s 8))]) (.cond (.s 9) .skip (.exit 0))) (.seq (.block 1 (.seq (.ops [.i (.mov 12 (.s 0)), .i (.mov 13 (.s 5)), .i (.mov 14 (.s 1)), .i (.iad 15 (.s 12) (.s 13) 3), .i (.fad 16 (.s 15) 0), .i (.sth (.s 16) (.s 14) 1)]) (.seq (.ops [.i (.mov 17 (.s 1)), .i (.bin 18 .add (.s 17) (.c (.val false [.int .i64 1]))), .i (.mov 1 (.s 18))]) (.seq (.ops [.i (.mov 19 (.s 0)), .i (.mov 20 (.s 5)), .i (.mov 21 (.s 1)), .i (.iad 22 (.s 19) (.s 20) 3), .i (.fad 23 (.s 22) 1), .i (.sth (.s 23) (.s 21) 1)]) (.seq (.ops [.i (.mov 24 (.s 1)), .i (.bin 25 .add (.s 24) (.c (.val false [.int .i64 1]))), .i (.mov 1 (.s 25))]) (.ops [.i (.mov 26 (.s 0)), .i (.mov 27 (.s 5)), .i (.iad 28 (.s 26) (.s 27) 3), .i (.fad 29 (.s 28) 2), .i (.ldh 30 (.s 29) 1 false), .i (.mov 31 (.s 1)), .i (.call 33 56 false [(.s 30), (.s 31)]), .i (.mov 1 (.s 32))])))))) (.ops [.i (.mov 10 (.s 5)), .i (.bin 11 .add (.s 10) (.c (.val false [.int .i64 1]))), .i (.mov 5 (.s 11))])))))) (.seq (.ops [.i (.mov 33 (.s 1)), .i (.mov 4 (.s 33))]) .ret)))⟩
theorem k125 : cd 125 = some c125 := by kernel_rfl
theorem mk_EntryS : MkOk cd 125 (.sl TEntry) := by
  intro h cs v S k hv ho hk
  obtain ⟨c, xs, id, off, bs, S', rfl, rfl, hm, hl, hat, hce, hbs, hel, hS⟩ := hv.view
  have hcn : cnT (.sl TEntry) (.l xs) = (xs.map (cnE TEntry)).sum := rfl
  have hmk : mkT (.sl TEntry) (.l xs) k = .l (mkL (mkE TEntry) (cnE TEntry) xs k) := rfl
  rw [hcn] at hk ⊢
  rw [hmk]
  have hsub : ∀ j ∈ S', j ∈ S := fun j hj => by
    rcases hS with e | ⟨_, _, e⟩
    · rw [e]; simp [hj]
    · rw [e] at hj; cases hj
  have hnd : S'.Nodup := by
    rcases hS with e | ⟨_, _, e⟩
    · have := ho.1
      rw [e] at this
      exact (List.nodup_cons.1 this).2
    · rw [e]; simp
  have hid : 0 < xs.length → id ∉ S' ∧ id ∈ S := fun hp => by
    rcases hS with e | ⟨e, _, _⟩
    · have := ho.1
      rw [e] at this
      exact ⟨(List.nodup_cons.1 this).1, by rw [e]; simp⟩
    · rw [e] at hp; simp at hp
  have hown : ∃ ty, 0 < xs.length → h[id]? = some (.own ty bs) := by
    by_cases hp : 0 < xs.length
    · obtain ⟨ty, cs, e⟩ := ho.2 id (hid hp).2
      have := (hce hp).1
      rw [cells_own e] at this
      cases this
      exact ⟨ty, fun _ => e⟩
    · exact ⟨0, fun e => absurd e hp⟩
  obtain ⟨ty, hty⟩ := hown
  have hs1 : TEntry.size = 3 := rfl
  rw [hs1] at hat hbs
  refine WS_enter k125 rfl ?_
  simp (disch := omega) only [c125, RR, RP, Ty.agg, Ty.size, Ty.sizes, eq_self, ne_eq, not_true, not_false_iff, reduceCtorEq, List.length_cons, List.length_nil, decide_true, decide_false, true_and, and_true, ite_true, ite_false, PT.full, enter0, setAll, forget, Fr.set, Fr.get, PT.get, PT.set, kof, ai, ev, ev1, evp, b_add, b_sub, b_mul, b_quo, b_rem, b_eql, b_neq, b_lss, b_leq, b_gtr, b_geq, b_seql, b_sneq, setD, resV, resL, res1, args, List.take_zero, List.drop_zero, List.take_nil, List.take_succ_cons, List.drop_succ_cons, Nat.reduceAdd, Nat.reduceLeDiff, reduceIte, Bool.not_true, Bool.not_false, Bool.false_eq_true, CA_some, Option.some.injEq, Nat.zero_add, Nat.mul_one, Nat.add_zero, setL, List.set_cons_zero, List.set_cons_succ, fillC]
  refine WS_loop2 (σ := Nat) (f1 := _) (by simp only [RR, RP, Ty.agg, Ty.size, Ty.sizes, eq_self, ne_eq, not_true, not_false_iff, reduceCtorEq, List.length_cons, List.length_nil, decide_true, decide_false, true_and, and_true, ite_true, ite_false, PT.full, enter0, setAll, forget, Fr.set, Fr.get, PT.get, PT.set, kof, ai, ev, ev1, evp, b_add, b_sub, b_mul, b_quo, b_rem, b_eql, b_neq, b_lss, b_leq, b_gtr, b_geq, b_seql, b_sneq, setD, resV, resL, res1, args, List.take_zero, List.drop_zero, List.take_nil, List.take_succ_cons, List.drop_succ_cons, Nat.reduceAdd, Nat.reduceLeDiff, reduceIte, Bool.not_true, Bool.not_false, Bool.false_eq_true, CA_some, Option.some.injEq, Nat.zero_add, Nat.mul_one, Nat.add_zero, setL, List.set_cons_zero, List.set_cons_succ, fillC]; rfl) (fun i => [(5, .val false [.int .i64 i]), (1, .val false [.int .i64 ((k + ((xs.take i).map (cnE TEntry)).sum : Nat) : Int)])])
    (fun i g h' => g = xs.length - i ∧ i ≤ xs.length ∧ Wrote h h' S ∧ (0 < xs.length → ∃ bs', h'[id]? = some (.own ty bs') ∧ bs'.length = bs.length ∧ Elems (Rp h' TEntry) (mkd TEntry xs k i) ((bs'.drop off).take (xs.length * TEntry.size)) S') ∧ (i = 0 → h' = h)) 0 xs.length (by simp only [List.take_zero, List.map_nil, List.sum_nil, RR, RP, Ty.agg, Ty.size, Ty.sizes, eq_self, ne_eq, not_true, not_false_iff, reduceCtorEq, List.length_cons, List.length_nil, decide_true, decide_false, true_and, and_true, ite_true, ite_false, PT.full, enter0, setAll, forget, Fr.set, Fr.get, PT.get, PT.set, kof, ai, ev, ev1, evp, b_add, b_sub, b_mul, b_quo, b_rem, b_eql, b_neq, b_lss, b_leq, b_gtr, b_geq, b_seql, b_sneq, setD, resV, resL, res1, args, List.take_zero, List.drop_zero, List.take_nil, List.take_succ_cons, List.drop_succ_cons, Nat.reduceAdd, Nat.reduceLeDiff, reduceIte, Bool.not_true, Bool.not_false, Bool.false_eq_true, CA_some, Option.some.injEq, Nat.zero_add, Nat.mul_one, Nat.add_zero, setL, List.set_cons_zero, List.set_cons_succ, fillC]; rfl)
    ⟨by omega, by omega, Wrote.refl ho.2, fun hp => ⟨bs, hty hp, rfl, by rw [mkd_zero]; exact hel⟩, fun _ => rfl⟩ ?_
  rintro i g h' ⟨hg, hi, hw, hblk, hz0⟩
  simp (disch := omega) only [c125, hl, w64, RR, RP, Ty.agg, Ty.size, Ty.sizes, eq_self, ne_eq, not_true, not_false_iff, reduceCtorEq, List.length_cons, List.length_nil, decide_true, decide_false, true_and, and_true, ite_true, ite_false, PT.full, enter0, setAll, forget, Fr.set, Fr.get, PT.get, PT.set, kof, ai, ev, ev1, evp, b_add, b_sub, b_mul, b_quo, b_rem, b_eql, b_neq, b_lss, b_leq, b_gtr, b_geq, b_seql, b_sneq, setD, resV, resL, res1, args, List.take_zero, List.drop_zero, List.take_nil, List.take_succ_cons, List.drop_succ_cons, Nat.reduceAdd, Nat.reduceLeDiff, reduceIte, Bool.not_true, Bool.not_false, Bool.false_eq_true, CA_some, Option.some.injEq, Nat.zero_add, Nat.mul_one, Nat.add_zero, setL, List.set_cons_zero, List.set_cons_succ, fillC]
  refine BR_dec (fun hlt => ?_) (fun hlt => ?_)
  · have hix : i < xs.length := by omega
    obtain ⟨bs', hb1, hb2, he⟩ := hblk (by omega)
    clear hblk
    obtain ⟨hidS', hidS⟩ := hid (by omega)
    have hsi := sum_take (g := cnE TEntry) (List.getElem?_eq_getElem hix)
    have hsl := sum_le (g := cnE TEntry) xs (i + 1)
    have hfit : off + i * 3 + 3 ≤ bs'.length := by
      have := Nat.mul_le_mul_right 3 hix
      rw [Nat.succ_mul] at this
      omega
    have hme : i * 3 + 3 ≤ xs.length * 3 := by
      have := Nat.mul_le_mul_right 3 hix
      rw [Nat.succ_mul] at this
      exact this
    obtain ⟨Si, k1, k2, k3, k4⟩ := he.turn hnd (mkd_get hix)
    rw [part_part hix, hs1] at k1
    obtain ⟨x0, x1, x2, hx⟩ := len_3 k1.size
    rw [hx] at k1
    obtain ⟨pre, post, hpl, rfl⟩ := around hx hfit
    have hat' := hat i hix
    rw [← hpl] at hat'
    have hidlt : id < h'.length := (List.getElem?_eq_some_iff.1 hb1).1
    have hset : ∀ b, (h'.set id b)[id]? = some b := fun b => set_get hidlt
    have hnid : id ∉ Si := fun hm => hidS' (k2 id hm)
    have hoi : Ownd h' Si := ⟨k3, fun j hj => (hw.ownd ho).2 j (hsub j (k2 j hj))⟩
    obtain ⟨p_vs, p_hv, p_q0⟩ := k1.st
    obtain ⟨p_v0, p_r0, p_S0, p_T0, rfl, rfl, p_h0, p_q1⟩ := p_q0.step
    simp only [Ty.size, Ty.sizes, Nat.reduceAdd, Nat.zero_add, List.drop_zero, List.drop_succ_cons, List.take_succ_cons, List.take_zero] at p_h0
    obtain ⟨n0, e0, rfl, rfl, lo0, hi0⟩ := p_h0.int
    simp only [List.cons.injEq, and_true] at e0
    subst e0
    obtain ⟨p_v1, p_r1, p_S1, p_T1, rfl, rfl, p_h1, p_q2⟩ := p_q1.step
    simp only [Ty.size, Ty.sizes, Nat.reduceAdd, Nat.zero_add, List.drop_zero, List.drop_succ_cons, List.take_succ_cons, List.take_zero] at p_h1
    obtain ⟨n1, e1, rfl, rfl, lo1, hi1⟩ := p_h1.int
    simp only [List.cons.injEq, and_true] at e1
    subst e1
    obtain ⟨p_v2, p_r2, p_S2, p_T2, rfl, rfl, p_h2, p_q3⟩ := p_q2.step
    simp only [Ty.size, Ty.sizes, Nat.reduceAdd, Nat.zero_add, List.drop_zero, List.drop_succ_cons, List.take_succ_cons, List.take_zero] at p_h2
    have h2 := p_h2
    obtain ⟨_, rfl, rfl⟩ := p_q3
    have hxi : xs[i] = .r [.i n0, .i n1, p_v2] := p_hv
    rw [hxi] at hsi
    simp only [List.nil_append, List.append_nil] at k2 k3 hnid hoi k4
    have hcne : cnE TEntry (.r [.i n0, .i n1, p_v2]) = (1 + (1 + (cnE (.sl (.int .u8)) p_v2 + 0))) := rfl
    rw [hcne] at hsi
    have o2 := hoi
    have hcs : ∀ ty b, H.cells (h'.set id (.own ty b)) id = some b := fun ty b => cells_own (hset _)
    have hcb : h'.cells id = _ := cells_own hb1
    simp (disch := omega) only [KC_eq, c125, hl, hat', hb1, hset, hcs, hcb, List.set_set, pre_get3, pre_set3, pre_get2, pre_set2, pre_get, pre_get0, pre_set, pre_set0, List.length_append, List.cons_append, List.nil_append, List.length_set, ifT, w64, cnE_sl, cast1, RR, RP, Ty.agg, Ty.size, Ty.sizes, eq_self, ne_eq, not_true, not_false_iff, reduceCtorEq, List.length_cons, List.length_nil, decide_true, decide_false, true_and, and_true, ite_true, ite_false, PT.full, enter0, setAll, forget, Fr.set, Fr.get, PT.get, PT.set, kof, ai, ev, ev1, evp, b_add, b_sub, b_mul, b_quo, b_rem, b_eql, b_neq, b_lss, b_leq, b_gtr, b_geq, b_seql, b_sneq, setD, resV, resL, res1, args, List.take_zero, List.drop_zero, List.take_nil, List.take_succ_cons, List.drop_succ_cons, Nat.reduceAdd, Nat.reduceLeDiff, reduceIte, Bool.not_true, Bool.not_false, Bool.false_eq_true, CA_some, Option.some.injEq, Nat.zero_add, Nat.mul_one, Nat.add_zero, setL, List.set_cons_zero, List.set_cons_succ, fillC]
    have hn2 : id ∉ p_S2 := fun hm => hnid (by simp [hm])
    refine MkOk.go mk_ByteS (h2.set hn2) (Ownd.set o2 hidlt) (k := (((k + ((xs.take i).map (cnE TEntry)).sum) + 1) + 1)) (by rw [cnE_sl]; omega) (fun g2 w2 z2 => ?_)
    have hb_2 := w2.2.1 id hn2
    simp only [hb1, hset, hcs, hcb] at hb_2
    have hlt_2 : id < g2.length := (List.getElem?_eq_some_iff.1 hb_2).1
    have hset_2 : ∀ b, (g2.set id b)[id]? = some b := fun b => set_get hlt_2
    have hcs_2 : ∀ ty b, H.cells (g2.set id (.own ty b)) id = some b := fun ty b => cells_own (hset_2 _)
    have hcb_2 : g2.cells id = _ := cells_own hb_2
    simp (disch := omega) only [KC_eq, c125, hl, hat', hb_2, hset_2, hcs_2, hcb_2, List.set_set, pre_get3, pre_set3, pre_get2, pre_set2, pre_get, pre_get0, pre_set, pre_set0, List.length_append, List.cons_append, List.nil_append, List.length_set, ifT, w64, cnE_sl, cast1, RR, RP, Ty.agg, Ty.size, Ty.sizes, eq_self, ne_eq, not_true, not_false_iff, reduceCtorEq, List.length_cons, List.length_nil, decide_true, decide_false, true_and, and_true, ite_true, ite_false, PT.full, enter0, setAll, forget, Fr.set, Fr.get, PT.get, PT.set, kof, ai, ev, ev1, evp, b_add, b_sub, b_mul, b_quo, b_rem, b_eql, b_neq, b_lss, b_leq, b_gtr, b_geq, b_seql, b_sneq, setD, resV, resL, res1, args, List.take_zero, List.drop_zero, List.take_nil, List.take_succ_cons, List.drop_succ_cons, Nat.reduceAdd, Nat.reduceLeDiff, reduceIte, Bool.not_true, Bool.not_false, Bool.false_eq_true, CA_some, Option.some.injEq, Nat.zero_add, Nat.mul_one, Nat.add_zero, setL, List.set_cons_zero, List.set_cons_succ, fillC]
    have wF0 : Wrote h' h' (id :: (p_S2)) := Wrote.refl (fun j hj => by
      rcases List.mem_cons.1 hj with rfl | hj
      · exact ⟨_, _, hb1⟩
      · exact hoi.2 j hj)
    have hmkE : mkE TEntry xs[i] (k + ((xs.take i).map (cnE TEntry)).sum) = .r [.i (IntKind.i64.wrap (((k + ((xs.take i).map (cnE TEntry)).sum) : Nat) : Int)), .i (IntKind.i64.wrap ((((k + ((xs.take i).map (cnE TEntry)).sum) + 1) : Nat) : Int)), mkE (.sl (.int .u8)) p_v2 ((((k + ((xs.take i).map (cnE TEntry)).sum) + 1) + 1))] := by rw [hxi]; rfl
    simp only [mkE_sl] at z2
    have wF := ((wF0.set (by simp) hidlt).more w2 (fun i hi => by simp [hi]))
    have hnew := Rp.mkSt (Rs.mk (Rp.mkNat (n := (k + ((xs.take i).map (cnE TEntry)).sum)) (by omega)) (Rs.mk (Rp.mkNat (n := ((k + ((xs.take i).map (cnE TEntry)).sum) + 1)) (by omega)) (Rs.mk z2 Rs.nil)))
    simp only [List.cons_append, List.nil_append, List.append_nil] at hnew
    rw [← hmkE] at hnew
    have hE := k4 _ _ _ (fun j hj hn => cells_same (wF.2.1 j (fun hm => by
      rcases List.mem_cons.1 hm with rfl | hm
      · exact hidS' hj
      · exact hn hm))) hnew
    rw [mkd_next hix] at hE
    refine ⟨i + 1, xs.length - (i + 1), by omega, ?_, rfl, by omega, hw.more wF (fun j hj => ?_), fun _ => ⟨pre ++ C.int .i64 (((k + ((xs.take i).map (cnE TEntry)).sum) : Nat) : Int) :: C.int .i64 ((((k + ((xs.take i).map (cnE TEntry)).sum) + 1) : Nat) : Int) :: x2 :: post, by first | exact rfl | exact hb_2, ?_, ?_⟩, fun e => by omega⟩
    · have e1 : k + ((xs.take (i + 1)).map (cnE TEntry)).sum = ((((k + ((xs.take i).map (cnE TEntry)).sum) + 1) + 1) + cnE (.sl (.int .u8)) p_v2) := by omega
      rw [e1]
    · rcases List.mem_cons.1 hj with rfl | hj
      · exact hidS
      · exact hsub j (k2 j hj)
    · rw [← hb2]; simp
    · have ht := turned (l := [C.int .i64 n0, C.int .i64 n1, x2]) (l' := [C.int .i64 (((k + ((xs.take i).map (cnE TEntry)).sum) : Nat) : Int), C.int .i64 ((((k + ((xs.take i).map (cnE TEntry)).sum) + 1) : Nat) : Int), x2]) (post := post) hpl rfl (m := xs.length * 3) (by simpa using hme)
      rw [hs1] at hE
      rw [← ht] at hE
      exact hE
  · simp (disch := omega) only [c125, RR, RP, Ty.agg, Ty.size, Ty.sizes, eq_self, ne_eq, not_true, not_false_iff, reduceCtorEq, List.length_cons, List.length_nil, decide_true, decide_false, true_and, and_true, ite_true, ite_false, PT.full, enter0, setAll, forget, Fr.set, Fr.get, PT.get, PT.set, kof, ai, ev, ev1, evp, b_add, b_sub, b_mul, b_quo, b_rem, b_eql, b_neq, b_lss, b_leq, b_gtr, b_geq, b_seql, b_sneq, setD, resV, resL, res1, args, List.take_zero, List.drop_zero, List.take_nil, List.take_succ_cons, List.drop_succ_cons, Nat.reduceAdd, Nat.reduceLeDiff, reduceIte, Bool.not_true, Bool.not_false, Bool.false_eq_true, CA_some, Option.some.injEq, Nat.zero_add, Nat.mul_one, Nat.add_zero, setL, List.set_cons_zero, List.set_cons_succ, fillC]
    have hi' : i = xs.length := by omega
    subst hi'
    rw [List.take_length]
    refine ⟨rfl, hw, ?_⟩
    by_cases hp : 0 < xs.length
    · obtain ⟨bs', hb1, hb2, he⟩ := hblk hp
      rw [mkd_all] at he
      refine ⟨_, rfl, ?_, .inr ⟨id, off, bs', S', _, ?_, cells_own hb1, ?_, ?_, ?_, .inl rfl⟩⟩
      · rw [mkL_len]; simp only [maxLen]; omega
      · rw [mkL_len]; rw [(hce hp).2]
      · rw [mkL_len, hb2, hs1]; exact hbs
      · rcases hS with e | ⟨e, _⟩
        · exact e
        · rw [e] at hp; simp at hp
      · rw [mkL_len]; exact he
    · have hx : xs = [] := List.eq_nil_of_length_eq_zero (by omega)
      subst hx
      rw [hz0 rfl]
      exact hv
/-- laws.markTc -/
def c74 : AF := ⟨2, 4, [.tmp 4], (.seq (.ops [.i (.lbox 2 (.s 0)), .i (.mov 4 (.c (.val false [.int .i64 0])))]) (.seq (.ops [.i (.fad 5 (.s 2) 1), .i (.ldl 6 2 (.s 5) 1 false), .i (.mov 7 (.s 1)), .i (.call 9 125 false [(.s 6), (.s 7)]), .i (.mov 1 (.s 8))]) (.seq (.ops [.i (.mov 9 (.s 1)), .i (.mov 4 (.s 9))]) .ret)))⟩
theorem k74 : cd 74 = some c74 := by kernel_rfl
theorem mk_Tc : MkOk cd 74 TTc := by
  intro h cs v S k hv ho hk
  obtain ⟨vs, rfl, q0⟩ := hv.st
  obtain ⟨v0, r0, S0, T0, rfl, rfl, h0, q1⟩ := q0.step
  obtain ⟨n0, e0, rfl, rfl, lo0, hi0⟩ := h0.int
  obtain ⟨v1, r1, S1, T1, rfl, rfl, h1, q2⟩ := q1.step
  obtain ⟨c1, e1⟩ := h1.one rfl
  rw [e1] at h1
  obtain ⟨_, rfl, rfl⟩ := q2
  have hsz : cs.length = 2 := hv.size
  simp only [Ty.size, Ty.sizes, Nat.reduceAdd, Nat.zero_add, List.drop_zero] at e0 e1 hsz
  have hcn : cnT TTc (.r [.i n0, v1]) = (0 + (cnT (.sl TEntry) v1 + 0)) := rfl
  have hmk : mkT TTc (.r [.i n0, v1]) k = .r [.i n0, mkT (.sl TEntry) v1 (k)] := rfl
  rw [hmk]
  rw [hcn] at hk ⊢
  simp only [List.nil_append, List.append_nil] at ho ⊢
  have o1 := ho
  refine WS_enter k74 rfl ?_
  simp (disch := omega) only [KC_eq, c74, e0, e1, hsz, ifT, w64, RR, RP, Ty.agg, Ty.size, Ty.sizes, eq_self, ne_eq, not_true, not_false_iff, reduceCtorEq, List.length_cons, List.length_nil, decide_true, decide_false, true_and, and_true, ite_true, ite_false, PT.full, enter0, setAll, forget, Fr.set, Fr.get, PT.get, PT.set, kof, ai, ev, ev1, evp, b_add, b_sub, b_mul, b_quo, b_rem, b_eql, b_neq, b_lss, b_leq, b_gtr, b_geq, b_seql, b_sneq, setD, resV, resL, res1, args, List.take_zero, List.drop_zero, List.take_nil, List.take_succ_cons, List.drop_succ_cons, Nat.reduceAdd, Nat.reduceLeDiff, reduceIte, Bool.not_true, Bool.not_false, Bool.false_eq_true, CA_some, Option.some.injEq, Nat.zero_add, Nat.mul_one, Nat.add_zero, setL, List.set_cons_zero, List.set_cons_succ, fillC]
  refine MkOk.go mk_EntryS h1 o1 (k := k) (by omega) (fun g1 w1 z1 => ?_)
  simp (disch := omega) only [KC_eq, c74, e0, e1, hsz, ifT, w64, RR, RP, Ty.agg, Ty.size, Ty.sizes, eq_self, ne_eq, not_true, not_false_iff, reduceCtorEq, List.length_cons, List.length_nil, decide_true, decide_false, true_and, and_true, ite_true, ite_false, PT.full, enter0, setAll, forget, Fr.set, Fr.get, PT.get, PT.set, kof, ai, ev, ev1, evp, b_add, b_sub, b_mul, b_quo, b_rem, b_eql, b_neq, b_lss, b_leq, b_gtr, b_geq, b_seql, b_sneq, setD, resV, resL, res1, args, List.take_zero, List.drop_zero, List.take_nil, List.take_succ_cons, List.drop_succ_cons, Nat.reduceAdd, Nat.reduceLeDiff, reduceIte, Bool.not_true, Bool.not_false, Bool.false_eq_true, CA_some, Option.some.injEq, Nat.zero_add, Nat.mul_one, Nat.add_zero, setL, List.set_cons_zero, List.set_cons_succ, fillC]
  have fin : Rs g1 [(.int .i64), (.sl TEntry)] (cs.drop 0) [.i n0, mkT (.sl TEntry) v1 (k)] _ := (Rs.unstep (o := 0) (Rp.int_at e0 lo0 hi0) (Rs.unstep (o := 1) (Rp.cs_at e1 z1) (Rs.fin (Nat.le_of_eq hsz))))
  simp only [List.nil_append, List.append_nil, List.drop_zero] at fin
  have wr := ((Wrote.refl ho.2).more w1 (fun i hi => by simp [hi]))
  first
    | exact ⟨wr, _, rfl, fin⟩
    | (refine ⟨?_, wr, _, rfl, fin⟩
       congr 3
       omega)
/-- laws.markHeadS -/
def c64 : AF := ⟨2, 7, [.tmp 4], (.seq (.ops [.i (.mov 4 (.c (.val false [.int .i64 0])))]) (.seq (.seq (.ops [.i (.mov 5 (.c (.val false [.int .i64 0])))]) (.block 0 (.loop [86, 85, 84, 83, 82, 81, 80, 79, 78, 77, 76, 75, 74, 73, 72, 71, 70, 69, 68, 67, 66, 65, 64, 63, 62, 61, 60, 59, 58, 57, 56, 55, 54, 53, 52, 51, 50, 49, 48, 47, 46, 45, 44, 43, 42, 41, 40, 39, 38, 37, 36, 35, 34, 33, 32, 31, 30, 29, 28, 27, 26, 25, 24, 23, 22, 21, 20, 19, 18, 17, 16, 15, 14, 13, 12, 11, 10, 9, 8, 7, 6] (.seq (.seq (.ops [.i (.mov 6 (.s 5)), .i (.mov 7 (.s 0)), .i (.len 8 false (.s 7)), .i (.bin 9 .lss (.s 6) (.s 8))]) (.cond (.s 9) .skip (.exit 0))) (.seq (.block 1 (.seq (.ops [.i (.mov 12 (.s 0)), .i (.mov 13 (.s 5)), .i (.mov 14 (.s 1)), .i (.iad 15 (.s 12) (.s 13) 10), .i (.fad 16 (.s 15) 0), .i (.sth (.s 16) (.s 14) 1)]) (.seq (.ops [.i (.mov 17 (.s 1)), .i (.bin 18 .add (.s 17) (.c (.val false [.int .i64 1]))), .i (.mov 1 (.s 18))]) (.seq (.ops [.i (.mov 19 (.s 0)), .i (.mov 20 (.s 5)), .i (.mov 21 (.s 1)), .i (.iad 22 (.s 19) (.s 20) 10), .i (.fad 23 (.s 22) 1), .i (.sth (.s 23) (.s 21) 1)]) (.seq (.ops [.i (.mov 24 (.s 1)), .i (.bin 25 .add (.s 24) (.c (.val false [.int .i64 1]))), .i (.mov 1 (.s 25))]) (.seq (.ops [.i (.mov 26 (.s 0)), .i (.mov 27 (.s 5)), .i (.mov 28 (.s 1)), .i (.iad 29 (.s 26) (.s 27) 10), .i (.fad 30 (.s 29) 2), .i (.sth (.s 30) (.s 28) 1)]) (.seq (.ops [.i (.mov 31 (.s 1)), .i (.bin 32 .add (.s 31) (.c (.val false [.int .i64 1]))), .i (.mov 1 (.s 32))]) (.seq (.ops [.i (.mov 33 (.s 0)), .i (.mov 34 (.s 5)), .i (.iad 35 (.s 33) (.s 34) 10), .i (.fad 36 (.s 35) 3), .i (.ldh 37 (.s 36) 1 false), .i (.mov 38 (.s 1)), .i (.call 40 56 false [(.s 37), (.s 38)]), .i (.mov 1 (.s 39))]) (.seq (.ops [.i (.mov 40 (.s 0)), .i (.mov 41 (.s 5)), .i (.iad 42 (.s 40) (.s 41) 10), .i (.fad 43 (.s 42) 4), .i (.ldh 44 (.s 43) 1 false), .i (.mov 45 (.s 1)), .i (.call 47 56 false [(.s 44), (.s 45)]), .i (.mov 1 (.s 46))]) (.seq (.ops [.i (.mov 47 (.s 0)), .i (.mov 48 (.s 5)), .i (.mov 49 (.s 1)), .i (.iad 50 (.s 47) (.s 48) 10), .i (.fad 51 (.s 50) 5), .i (.fad 52 (.s 51) 0), .i (.sth (.s 52) (.s 49) 1)]) (.seq (.ops [.i (.mov 53 (.s 1)), .i (.bin 54 .add (.s 53) (.c (.val false [.int .i64 1]))), .i (.mov 1 (.s 54))]) (.seq (.ops [.i (.mov 55 (.s 0)), .i (.mov 56 (.s 5)), .i (.mov 57 (.s 1)), .i (.iad 58 (.s 55) (.s 56) 10), .i (.fad 59 (.s 58) 5), .i (.fad 60 (.s 59) 1), .i (.sth (.s 60) (.s 57) 1)]) (.seq (.ops [.i (.mov 61 (.s 1)), .i (.bin 62 .add (.s 61) (.c (.val false [.int .i64 1]))), .i (.mov 1 (.s 62))]) (.seq (.ops [.i (.mov 63 (.s 0)), .i (.mov 64 (.s 5)), .i (.iad 65 (.s 63) (.s 64) 10), .i (.fad 66 (.s 65) 5), .i (.fad 67 (.s 66) 2), .i (.ldh 68 (.s 67) 1 false), .i (.mov 69 (.s 1)), .i (.call 71 56 false [(.s 68), (.s 69)]), .i (.mov 1 (.s 70))]) (.seq (.ops [.i (.mov 71 (.s 0)), .i (.mov 72 (.s 5)), .i (.iad 73 (.s 71) (.s 72) 10), .i (.fad 74 (.s 73) 5), .i (.fad 75 (.s 74) 3), .i (.ldh 76 (.s 75) 1 false), .i (.mov 77 (.s 1)), .i (.call 79 56 false [(.s 76), (.s 77)]), .i (.mov 1 (.s 78))]) (.ops [.i (.mov 79 (.s 0)), .i (.mov 80 (.s 5)), .i (.iad 81 (.s 79) (.s 80) 10), .i (.fad 82 (.s 81) 5), .i (.fad 83 (.s 82) 4), .i (.ldh 84 (.s 83) 1 false), .i (.mov 85 (.s 1)), .i (.call 87 31 false [(.s 84), (.s 85)]), .i (.mov 1 (.s 86))])))))))))))))))) (.ops [.i (.mov 10 (.s 5)), .i (.bin 11 .add (.s 10) (.c (.val false [.int .i64 1]))), .i (.mov 5 (.s 11))])))))) (.seq (.ops [.i (.mov 87 (.s 1)), .i (.mov 4 (.s 87))]) .ret)))⟩
theorem k64 : cd 64 = some c64 := by kernel_rfl
end Go.Eng.U
