import Derived.Test.YtaicdpancmfhnaaGreatGb
import Derived.Test.YtaicdpancmfhnaaGreatGg
import Derived.Test.YtaicdpancmfhnaaGreatGh
set_option maxRecDepth 100000
set_option linter.unusedSimpArgs false
set_option linter.unusedVariables false
namespace Go.Eng.U
theorem eq_Table : EqOk cd 23 TTable := by
  intro h ca cb va vb Sa Sb ha hb
  obtain ⟨avs, rfl, aq0⟩ := ha.st
  obtain ⟨av0, ar0, aS0, aT0, rfl, rfl, ah0, aq1⟩ := aq0.step
  obtain ⟨ac0, ae0⟩ := ah0.one rfl
  rw [ae0] at ah0
  obtain ⟨_, rfl, rfl⟩ := aq1
  have ahsz : ca.length = 1 := ha.size
  obtain ⟨bvs, rfl, bq0⟩ := hb.st
  obtain ⟨bv0, br0, bS0, bT0, rfl, rfl, bh0, bq1⟩ := bq0.step
  obtain ⟨bc0, be0⟩ := bh0.one rfl
  rw [be0] at bh0
  obtain ⟨_, rfl, rfl⟩ := bq1
  have bhsz : cb.length = 1 := hb.size
  simp only [Ty.size, Ty.sizes, Nat.reduceAdd, Nat.zero_add, List.drop_zero] at ae0 ahsz be0 bhsz
  refine WS_enter k23 rfl ?_
  simp (disch := omega) only [KC_eq, c23, ae0, ahsz, be0, bhsz, ifT, w64, RR, RP, Ty.agg, Ty.size, Ty.sizes, eq_self, ne_eq, not_true, not_false_iff, reduceCtorEq, List.length_cons, List.length_nil, decide_true, decide_false, true_and, and_true, ite_true, ite_false, PT.full, enter0, setAll, forget, Fr.set, Fr.get, PT.get, PT.set, kof, ai, ev, ev1, evp, b_add, b_sub, b_mul, b_quo, b_rem, b_eql, b_neq, b_lss, b_leq, b_gtr, b_geq, b_seql, b_sneq, setD, resV, resL, res1, args, List.take_zero, List.drop_zero, List.take_nil, List.take_succ_cons, List.drop_succ_cons, Nat.reduceAdd, Nat.reduceLeDiff, reduceIte, Bool.not_true, Bool.not_false, Bool.false_eq_true, CA_some, Option.some.injEq, Nat.zero_add, Nat.mul_one, Nat.add_zero, setL, List.set_cons_zero, List.set_cons_succ, fillC]
  refine EqOk.go eq_RowS ah0 bh0 (fun d0 => ?_) (fun d0 => ?_)
  case refine_2 =>
    simp (disch := omega) only [KC_eq, c23, ae0, ahsz, be0, bhsz, ifT, w64, RR, RP, Ty.agg, Ty.size, Ty.sizes, eq_self, ne_eq, not_true, not_false_iff, reduceCtorEq, List.length_cons, List.length_nil, decide_true, decide_false, true_and, and_true, ite_true, ite_false, PT.full, enter0, setAll, forget, Fr.set, Fr.get, PT.get, PT.set, kof, ai, ev, ev1, evp, b_add, b_sub, b_mul, b_quo, b_rem, b_eql, b_neq, b_lss, b_leq, b_gtr, b_geq, b_seql, b_sneq, setD, resV, resL, res1, args, List.take_zero, List.drop_zero, List.take_nil, List.take_succ_cons, List.drop_succ_cons, Nat.reduceAdd, Nat.reduceLeDiff, reduceIte, Bool.not_true, Bool.not_false, Bool.false_eq_true, CA_some, Option.some.injEq, Nat.zero_add, Nat.mul_one, Nat.add_zero, setL, List.set_cons_zero, List.set_cons_succ, fillC]
    simp [d0]
  subst d0
  simp (disch := omega) only [KC_eq, c23, ae0, ahsz, be0, bhsz, ifT, w64, RR, RP, Ty.agg, Ty.size, Ty.sizes, eq_self, ne_eq, not_true, not_false_iff, reduceCtorEq, List.length_cons, List.length_nil, decide_true, decide_false, true_and, and_true, ite_true, ite_false, PT.full, enter0, setAll, forget, Fr.set, Fr.get, PT.get, PT.set, kof, ai, ev, ev1, evp, b_add, b_sub, b_mul, b_quo, b_rem, b_eql, b_neq, b_lss, b_leq, b_gtr, b_geq, b_seql, b_sneq, setD, resV, resL, res1, args, List.take_zero, List.drop_zero, List.take_nil, List.take_succ_cons, List.drop_succ_cons, Nat.reduceAdd, Nat.reduceLeDiff, reduceIte, Bool.not_true, Bool.not_false, Bool.false_eq_true, CA_some, Option.some.injEq, Nat.zero_add, Nat.mul_one, Nat.add_zero, setL, List.set_cons_zero, List.set_cons_succ, fillC]
/-- laws.eqPush -/
def c45 : AF := ⟨2, 5, [.tmp 4], (.seq (.ops [.i (.lbox 2 (.s 0)), .i (.lbox 3 (.s 1)), .i (.mov 4 (.c (.val false [.bool false])))]) (.seq (.seq (.ops [.i (.fad 5 (.s 2) 0), .i (.ldl 6 2 (.s 5) 1 false), .i (.fad 7 (.s 3) 0), .i (.ldl 8 3 (.s 7) 1 false), .i (.bin 9 .neq (.s 6) (.s 8))]) (.cond (.s 9) (.seq (.ops [.i (.mov 4 (.c (.val false [.bool false])))]) .ret) .skip)) (.seq (.seq (.ops [.i (.fad 10 (.s 2) 1), .i (.ldl 11 2 (.s 10) 1 false), .i (.fad 12 (.s 3) 1), .i (.ldl 13 3 (.s 12) 1 false), .i (.call 15 24 false [(.s 11), (.s 13)]), .i (.not 15 (.s 14))]) (.cond (.s 15) (.seq (.ops [.i (.mov 4 (.c (.val false [.bool false])))]) .ret) .skip)) (.seq (.ops [.i (.mov 4 (.c (.val false [.bool true])))]) .ret))))⟩
theorem k45 : cd 45 = some c45 := by kernel_rfl
theorem eq_Push : EqOk cd 45 TPush := by
  intro h ca cb va vb Sa Sb ha hb
  obtain ⟨avs, rfl, aq0⟩ := ha.st
  obtain ⟨av0, ar0, aS0, aT0, rfl, rfl, ah0, aq1⟩ := aq0.step
  obtain ⟨an0, ae0, rfl, rfl, alo0, ahi0⟩ := ah0.int
  obtain ⟨av1, ar1, aS1, aT1, rfl, rfl, ah1, aq2⟩ := aq1.step
  obtain ⟨ac1, ae1⟩ := ah1.one rfl
  rw [ae1] at ah1
  obtain ⟨_, rfl, rfl⟩ := aq2
  have ahsz : ca.length = 2 := ha.size
  obtain ⟨bvs, rfl, bq0⟩ := hb.st
  obtain ⟨bv0, br0, bS0, bT0, rfl, rfl, bh0, bq1⟩ := bq0.step
  obtain ⟨bn0, be0, rfl, rfl, blo0, bhi0⟩ := bh0.int
  obtain ⟨bv1, br1, bS1, bT1, rfl, rfl, bh1, bq2⟩ := bq1.step
  obtain ⟨bc1, be1⟩ := bh1.one rfl
  rw [be1] at bh1
  obtain ⟨_, rfl, rfl⟩ := bq2
  have bhsz : cb.length = 2 := hb.size
  simp only [Ty.size, Ty.sizes, Nat.reduceAdd, Nat.zero_add, List.drop_zero] at ae0 ae1 ahsz be0 be1 bhsz
  refine WS_enter k45 rfl ?_
  simp (disch := omega) only [KC_eq, c45, ae0, ae1, ahsz, be0, be1, bhsz, ifT, w64, RR, RP, Ty.agg, Ty.size, Ty.sizes, eq_self, ne_eq, not_true, not_false_iff, reduceCtorEq, List.length_cons, List.length_nil, decide_true, decide_false, true_and, and_true, ite_true, ite_false, PT.full, enter0, setAll, forget, Fr.set, Fr.get, PT.get, PT.set, kof, ai, ev, ev1, evp, b_add, b_sub, b_mul, b_quo, b_rem, b_eql, b_neq, b_lss, b_leq, b_gtr, b_geq, b_seql, b_sneq, setD, resV, resL, res1, args, List.take_zero, List.drop_zero, List.take_nil, List.take_succ_cons, List.drop_succ_cons, Nat.reduceAdd, Nat.reduceLeDiff, reduceIte, Bool.not_true, Bool.not_false, Bool.false_eq_true, CA_some, Option.some.injEq, Nat.zero_add, Nat.mul_one, Nat.add_zero, setL, List.set_cons_zero, List.set_cons_succ, fillC]
  refine BR_dec (fun hn => ?_) (fun hn => ?_)
  case refine_1 =>
    simp (disch := omega) only [KC_eq, c45, ae0, ae1, ahsz, be0, be1, bhsz, ifT, w64, RR, RP, Ty.agg, Ty.size, Ty.sizes, eq_self, ne_eq, not_true, not_false_iff, reduceCtorEq, List.length_cons, List.length_nil, decide_true, decide_false, true_and, and_true, ite_true, ite_false, PT.full, enter0, setAll, forget, Fr.set, Fr.get, PT.get, PT.set, kof, ai, ev, ev1, evp, b_add, b_sub, b_mul, b_quo, b_rem, b_eql, b_neq, b_lss, b_leq, b_gtr, b_geq, b_seql, b_sneq, setD, resV, resL, res1, args, List.take_zero, List.drop_zero, List.take_nil, List.take_succ_cons, List.drop_succ_cons, Nat.reduceAdd, Nat.reduceLeDiff, reduceIte, Bool.not_true, Bool.not_false, Bool.false_eq_true, CA_some, Option.some.injEq, Nat.zero_add, Nat.mul_one, Nat.add_zero, setL, List.set_cons_zero, List.set_cons_succ, fillC]
    simp [hn]
  have d0 : an0 = bn0 := by omega
  subst d0
  simp (disch := omega) only [KC_eq, c45, ae0, ae1, ahsz, be0, be1, bhsz, ifT, w64, RR, RP, Ty.agg, Ty.size, Ty.sizes, eq_self, ne_eq, not_true, not_false_iff, reduceCtorEq, List.length_cons, List.length_nil, decide_true, decide_false, true_and, and_true, ite_true, ite_false, PT.full, enter0, setAll, forget, Fr.set, Fr.get, PT.get, PT.set, kof, ai, ev, ev1, evp, b_add, b_sub, b_mul, b_quo, b_rem, b_eql, b_neq, b_lss, b_leq, b_gtr, b_geq, b_seql, b_sneq, setD, resV, resL, res1, args, List.take_zero, List.drop_zero, List.take_nil, List.take_succ_cons, List.drop_succ_cons, Nat.reduceAdd, Nat.reduceLeDiff, reduceIte, Bool.not_true, Bool.not_false, Bool.false_eq_true, CA_some, Option.some.injEq, Nat.zero_add, Nat.mul_one, Nat.add_zero, setL, List.set_cons_zero, List.set_cons_succ, fillC]
  refine EqOk.go eq_ByteS ah1 bh1 (fun d1 => ?_) (fun d1 => ?_)
  case refine_2 =>
    simp (disch := omega) only [KC_eq, c45, ae0, ae1, ahsz, be0, be1, bhsz, ifT, w64, RR, RP, Ty.agg, Ty.size, Ty.sizes, eq_self, ne_eq, not_true, not_false_iff, reduceCtorEq, List.length_cons, List.length_nil, decide_true, decide_false, true_and, and_true, ite_true, ite_false, PT.full, enter0, setAll, forget, Fr.set, Fr.get, PT.get, PT.set, kof, ai, ev, ev1, evp, b_add, b_sub, b_mul, b_quo, b_rem, b_eql, b_neq, b_lss, b_leq, b_gtr, b_geq, b_seql, b_sneq, setD, resV, resL, res1, args, List.take_zero, List.drop_zero, List.take_nil, List.take_succ_cons, List.drop_succ_cons, Nat.reduceAdd, Nat.reduceLeDiff, reduceIte, Bool.not_true, Bool.not_false, Bool.false_eq_true, CA_some, Option.some.injEq, Nat.zero_add, Nat.mul_one, Nat.add_zero, setL, List.set_cons_zero, List.set_cons_succ, fillC]
    simp [d1]
  subst d1
  simp (disch := omega) only [KC_eq, c45, ae0, ae1, ahsz, be0, be1, bhsz, ifT, w64, RR, RP, Ty.agg, Ty.size, Ty.sizes, eq_self, ne_eq, not_true, not_false_iff, reduceCtorEq, List.length_cons, List.length_nil, decide_true, decide_false, true_and, and_true, ite_true, ite_false, PT.full, enter0, setAll, forget, Fr.set, Fr.get, PT.get, PT.set, kof, ai, ev, ev1, evp, b_add, b_sub, b_mul, b_quo, b_rem, b_eql, b_neq, b_lss, b_leq, b_gtr, b_geq, b_seql, b_sneq, setD, resV, resL, res1, args, List.take_zero, List.drop_zero, List.take_nil, List.take_succ_cons, List.drop_succ_cons, Nat.reduceAdd, Nat.reduceLeDiff, reduceIte, Bool.not_true, Bool.not_false, Bool.false_eq_true, CA_some, Option.some.injEq, Nat.zero_add, Nat.mul_one, Nat.add_zero, setL, List.set_cons_zero, List.set_cons_succ, fillC]
/-- laws.eqByteSS -/
def c79 : AF := ⟨2, 5, [.tmp 4], (.seq (.ops [.i (.mov 4 (.c (.val false [.bool false])))]) (.seq (.seq (.ops [.i (.mov 6 (.s 0)), .i (.len 7 false (.s 6)), .i (.mov 8 (.s 1)), .i (.len 9 false (.s 8)), .i (.bin 10 .neq (.s 7) (.s 9))]) (.cond (.s 10) (.seq (.ops [.i (.mov 4 (.c (.val false [.bool false])))]) .ret) .skip)) (.seq (.seq (.ops [.i (.mov 5 (.c (.val false [.int .i64 0])))]) (.block 0 (.loop [26, 25, 24, 23, 22, 21, 20, 19, 18, 17, 16, 15, 14, 13, 12, 11] (.seq (.seq (.ops [.i (.mov 11 (.s 5)), .i (.mov 12 (.s 0)), .i (.len 13 false (.s 12)), .i (.bin 14 .lss (.s 11) (.s 13))]) (.cond (.s 14) .skip (.exit 0))) (.seq (.block 1 (.seq (.ops [.i (.mov 17 (.s 0)), .i (.mov 18 (.s 5)), .i (.iad 19 (.s 17) (.s 18) 1), .i (.ldh 20 (.s 19) 1 false), .i (.mov 21 (.s 1)), .i (.mov 22 (.s 5)), .i (.iad 23 (.s 21) (.s 22) 1), .i (.ldh 24 (.s 23) 1 false), .i (.call 26 24 false [(.s 20), (.s 24)]), .i (.not 26 (.s 25))]) (.cond (.s 26) (.seq (.ops [.i (.mov 4 (.c (.val false [.bool false])))]) .ret) .skip))) (.ops [.i (.mov 15 (.s 5)), .i (.bin 16 .add (.s 15) (.c (.val false [.int .i64 1]))), .i (.mov 5 (.s 16))])))))) (.seq (.ops [.i (.mov 4 (.c (.val false [.bool true])))]) .ret))))⟩
theorem k79 : cd 79 = some c79 := by kernel_rfl
theorem eq_ByteSS : EqOk cd 79 (.sl (.sl (.int .u8))) := eq_sl k79 eq_ByteS
/-- laws.eqQc -/
def c43 : AF := ⟨2, 6, [.tmp 4], (.seq (.ops [.i (.lbox 2 (.s 0)), .i (.lbox 3 (.s 1)), .i (.mov 4 (.c (.val false [.bool false])))]) (.seq (.seq (.ops [.i (.fad 5 (.s 2) 0), .i (.ldl 6 2 (.s 5) 1 false), .i (.fad 7 (.s 3) 0), .i (.ldl 8 3 (.s 7) 1 false), .i (.bin 9 .neq (.s 6) (.s 8))]) (.cond (.s 9) (.seq (.ops [.i (.mov 4 (.c (.val false [.bool false])))]) .ret) .skip)) (.seq (.seq (.ops [.i (.fad 10 (.s 2) 1), .i (.ldl 11 2 (.s 10) 1 false), .i (.fad 12 (.s 3) 1), .i (.ldl 13 3 (.s 12) 1 false), .i (.bin 14 .neq (.s 11) (.s 13))]) (.cond (.s 14) (.seq (.ops [.i (.mov 4 (.c (.val false [.bool false])))]) .ret) .skip)) (.seq (.seq (.ops [.i (.fad 15 (.s 2) 2), .i (.ldl 16 2 (.s 15) 1 false), .i (.fad 17 (.s 3) 2), .i (.ldl 18 3 (.s 17) 1 false), .i (.call 20 24 false [(.s 16), (.s 18)]), .i (.not 20 (.s 19))]) (.cond (.s 20) (.seq (.ops [.i (.mov 4 (.c (.val false [.bool false])))]) .ret) .skip)) (.seq (.seq (.ops [.i (.fad 21 (.s 2) 3), .i (.ldl 22 2 (.s 21) 1 false), .i (.fad 23 (.s 3) 3), .i (.ldl 24 3 (.s 23) 1 false), .i (.call 26 24 false [(.s 22), (.s 24)]), .i (.not 26 (.s 25))]) (.cond (.s 26) (.seq (.ops [.i (.mov 4 (.c (.val false [.bool false])))]) .ret) .skip)) (.seq (.seq (.ops [.i (.fad 27 (.s 2) 4), .i (.ldl 28 2 (.s 27) 1 false), .i (.fad 29 (.s 3) 4), .i (.ldl 30 3 (.s 29) 1 false), .i (.call 32 79 false [(.s 28), (.s 30)]), .i (.not 32 (.s 31))]) (.cond (.s 32) (.seq (.ops [.i (.mov 4 (.c (.val false [.bool false])))]) .ret) .skip)) (.seq (.ops [.i (.mov 4 (.c (.val false [.bool true])))]) .ret)))))))⟩
theorem k43 : cd 43 = some c43 := by kernel_rfl
theorem eq_Qc : EqOk cd 43 TQc := by
  intro h ca cb va vb Sa Sb ha hb
  obtain ⟨avs, rfl, aq0⟩ := ha.st
  obtain ⟨av0, ar0, aS0, aT0, rfl, rfl, ah0, aq1⟩ := aq0.step
  obtain ⟨an0, ae0, rfl, rfl, alo0, ahi0⟩ := ah0.int
  obtain ⟨av1, ar1, aS1, aT1, rfl, rfl, ah1, aq2⟩ := aq1.step
  obtain ⟨an1, ae1, rfl, rfl, alo1, ahi1⟩ := ah1.int
  obtain ⟨av2, ar2, aS2, aT2, rfl, rfl, ah2, aq3⟩ := aq2.step
  obtain ⟨ac2, ae2⟩ := ah2.one rfl
  rw [ae2] at ah2
  obtain ⟨av3, ar3, aS3, aT3, rfl, rfl, ah3, aq4⟩ := aq3.step
  obtain ⟨ac3, ae3⟩ := ah3.one rfl
  rw [ae3] at ah3
  obtain ⟨av4, ar4, aS4, aT4, rfl, rfl, ah4, aq5⟩ := aq4.step
  obtain ⟨ac4, ae4⟩ := ah4.one rfl
  rw [ae4] at ah4
  obtain ⟨_, rfl, rfl⟩ := aq5
  have ahsz : ca.length = 5 := ha.size
  obtain ⟨bvs, rfl, bq0⟩ := hb.st
  obtain ⟨bv0, br0, bS0, bT0, rfl, rfl, bh0, bq1⟩ := bq0.step
  obtain ⟨bn0, be0, rfl, rfl, blo0, bhi0⟩ := bh0.int
  obtain ⟨bv1, br1, bS1, bT1, rfl, rfl, bh1, bq2⟩ := bq1.step
  obtain ⟨bn1, be1, rfl, rfl, blo1, bhi1⟩ := bh1.int
  obtain ⟨bv2, br2, bS2, bT2, rfl, rfl, bh2, bq3⟩ := bq2.step
  obtain ⟨bc2, be2⟩ := bh2.one rfl
  rw [be2] at bh2
  obtain ⟨bv3, br3, bS3, bT3, rfl, rfl, bh3, bq4⟩ := bq3.step
  obtain ⟨bc3, be3⟩ := bh3.one rfl
  rw [be3] at bh3
  obtain ⟨bv4, br4, bS4, bT4, rfl, rfl, bh4, bq5⟩ := bq4.step
  obtain ⟨bc4, be4⟩ := bh4.one rfl
  rw [be4] at bh4
  obtain ⟨_, rfl, rfl⟩ := bq5
  have bhsz : cb.length = 5 := hb.size
  simp only [Ty.size, Ty.sizes, Nat.reduceAdd, Nat.zero_add, List.drop_zero] at ae0 ae1 ae2 ae3 ae4 ahsz be0 be1 be2 be3 be4 bhsz
  refine WS_enter k43 rfl ?_
  simp (disch := omega) only [KC_eq, c43, ae0, ae1, ae2, ae3, ae4, ahsz, be0, be1, be2, be3, be4, bhsz, ifT, w64, RR, RP, Ty.agg, Ty.size, Ty.sizes, eq_self, ne_eq, not_true, not_false_iff, reduceCtorEq, List.length_cons, List.length_nil, decide_true, decide_false, true_and, and_true, ite_true, ite_false, PT.full, enter0, setAll, forget, Fr.set, Fr.get, PT.get, PT.set, kof, ai, ev, ev1, evp, b_add, b_sub, b_mul, b_quo, b_rem, b_eql, b_neq, b_lss, b_leq, b_gtr, b_geq, b_seql, b_sneq, setD, resV, resL, res1, args, List.take_zero, List.drop_zero, List.take_nil, List.take_succ_cons, List.drop_succ_cons, Nat.reduceAdd, Nat.reduceLeDiff, reduceIte, Bool.not_true, Bool.not_false, Bool.false_eq_true, CA_some, Option.some.injEq, Nat.zero_add, Nat.mul_one, Nat.add_zero, setL, List.set_cons_zero, List.set_cons_succ, fillC]
  refine BR_dec (fun hn => ?_) (fun hn => ?_)
  case refine_1 =>
    simp (disch := omega) only [KC_eq, c43, ae0, ae1, ae2, ae3, ae4, ahsz, be0, be1, be2, be3, be4, bhsz, ifT, w64, RR, RP, Ty.agg, Ty.size, Ty.sizes, eq_self, ne_eq, not_true, not_false_iff, reduceCtorEq, List.length_cons, List.length_nil, decide_true, decide_false, true_and, and_true, ite_true, ite_false, PT.full, enter0, setAll, forget, Fr.set, Fr.get, PT.get, PT.set, kof, ai, ev, ev1, evp, b_add, b_sub, b_mul, b_quo, b_rem, b_eql, b_neq, b_lss, b_leq, b_gtr, b_geq, b_seql, b_sneq, setD, resV, resL, res1, args, List.take_zero, List.drop_zero, List.take_nil, List.take_succ_cons, List.drop_succ_cons, Nat.reduceAdd, Nat.reduceLeDiff, reduceIte, Bool.not_true, Bool.not_false, Bool.false_eq_true, CA_some, Option.some.injEq, Nat.zero_add, Nat.mul_one, Nat.add_zero, setL, List.set_cons_zero, List.set_cons_succ, fillC]
    simp [hn]
  have d0 : an0 = bn0 := by omega
  subst d0
  simp (disch := omega) only [KC_eq, c43, ae0, ae1, ae2, ae3, ae4, ahsz, be0, be1, be2, be3, be4, bhsz, ifT, w64, RR, RP, Ty.agg, Ty.size, Ty.sizes, eq_self, ne_eq, not_true, not_false_iff, reduceCtorEq, List.length_cons, List.length_nil, decide_true, decide_false, true_and, and_true, ite_true, ite_false, PT.full, enter0, setAll, forget, Fr.set, Fr.get, PT.get, PT.set, kof, ai, ev, ev1, evp, b_add, b_sub, b_mul, b_quo, b_rem, b_eql, b_neq, b_lss, b_leq, b_gtr, b_geq, b_seql, b_sneq, setD, resV, resL, res1, args, List.take_zero, List.drop_zero, List.take_nil, List.take_succ_cons, List.drop_succ_cons, Nat.reduceAdd, Nat.reduceLeDiff, reduceIte, Bool.not_true, Bool.not_false, Bool.false_eq_true, CA_some, Option.some.injEq, Nat.zero_add, Nat.mul_one, Nat.add_zero, setL, List.set_cons_zero, List.set_cons_succ, fillC]
  refine BR_dec (fun hn => ?_) (fun hn => ?_)
  case refine_1 =>
    simp (disch := omega) only [KC_eq, c43, ae0, ae1, ae2, ae3, ae4, ahsz, be0, be1, be2, be3, be4, bhsz, ifT, w64, RR, RP, Ty.agg, Ty.size, Ty.sizes, eq_self, ne_eq, not_true, not_false_iff, reduceCtorEq, List.length_cons, List.length_nil, decide_true, decide_false, true_and, and_true, ite_true, ite_false, PT.full, enter0, setAll, forget, Fr.set, Fr.get, PT.get, PT.set, kof, ai, ev, ev1, evp, b_add, b_sub, b_mul, b_quo, b_rem, b_eql, b_neq, b_lss, b_leq, b_gtr, b_geq, b_seql, b_sneq, setD, resV, resL, res1, args, List.take_zero, List.drop_zero, List.take_nil, List.take_succ_cons, List.drop_succ_cons, Nat.reduceAdd, Nat.reduceLeDiff, reduceIte, Bool.not_true, Bool.not_false, Bool.false_eq_true, CA_some, Option.some.injEq, Nat.zero_add, Nat.mul_one, Nat.add_zero, setL, List.set_cons_zero, List.set_cons_succ, fillC]
    simp [hn]
  have d1 : an1 = bn1 := by omega
  subst d1
  simp (disch := omega) only [KC_eq, c43, ae0, ae1, ae2, ae3, ae4, ahsz, be0, be1, be2, be3, be4, bhsz, ifT, w64, RR, RP, Ty.agg, Ty.size, Ty.sizes, eq_self, ne_eq, not_true, not_false_iff, reduceCtorEq, List.length_cons, List.length_nil, decide_true, decide_false, true_and, and_true, ite_true, ite_false, PT.full, enter0, setAll, forget, Fr.set, Fr.get, PT.get, PT.set, kof, ai, ev, ev1, evp, b_add, b_sub, b_mul, b_quo, b_rem, b_eql, b_neq, b_lss, b_leq, b_gtr, b_geq, b_seql, b_sneq, setD, resV, resL, res1, args, List.take_zero, List.drop_zero, List.take_nil, List.take_succ_cons, List.drop_succ_cons, Nat.reduceAdd, Nat.reduceLeDiff, reduceIte, Bool.not_true, Bool.not_false, Bool.false_eq_true, CA_some, Option.some.injEq, Nat.zero_add, Nat.mul_one, Nat.add_zero, setL, List.set_cons_zero, List.set_cons_succ, fillC]
  refine EqOk.go eq_ByteS ah2 bh2 (fun d2 => ?_) (fun d2 => ?_)
  case refine_2 =>
    simp (disch := omega) only [KC_eq, c43, ae0, ae1, ae2, ae3, ae4, ahsz, be0, be1, be2, be3, be4, bhsz, ifT, w64, RR, RP, Ty.agg, Ty.size, Ty.sizes, eq_self, ne_eq, not_true, not_false_iff, reduceCtorEq, List.length_cons, List.length_nil, decide_true, decide_false, true_and, and_true, ite_true, ite_false, PT.full, enter0, setAll, forget, Fr.set, Fr.get, PT.get, PT.set, kof, ai, ev, ev1, evp, b_add, b_sub, b_mul, b_quo, b_rem, b_eql, b_neq, b_lss, b_leq, b_gtr, b_geq, b_seql, b_sneq, setD, resV, resL, res1, args, List.take_zero, List.drop_zero, List.take_nil, List.take_succ_cons, List.drop_succ_cons, Nat.reduceAdd, Nat.reduceLeDiff, reduceIte, Bool.not_true, Bool.not_false, Bool.false_eq_true, CA_some, Option.some.injEq, Nat.zero_add, Nat.mul_one, Nat.add_zero, setL, List.set_cons_zero, List.set_cons_succ, fillC]
    simp [d2]
  subst d2
  simp (disch := omega) only [KC_eq, c43, ae0, ae1, ae2, ae3, ae4, ahsz, be0, be1, be2, be3, be4, bhsz, ifT, w64, RR, RP, Ty.agg, Ty.size, Ty.sizes, eq_self, ne_eq, not_true, not_false_iff, reduceCtorEq, List.length_cons, List.length_nil, decide_true, decide_false, true_and, and_true, ite_true, ite_false, PT.full, enter0, setAll, forget, Fr.set, Fr.get, PT.get, PT.set, kof, ai, ev, ev1, evp, b_add, b_sub, b_mul, b_quo, b_rem, b_eql, b_neq, b_lss, b_leq, b_gtr, b_geq, b_seql, b_sneq, setD, resV, resL, res1, args, List.take_zero, List.drop_zero, List.take_nil, List.take_succ_cons, List.drop_succ_cons, Nat.reduceAdd, Nat.reduceLeDiff, reduceIte, Bool.not_true, Bool.not_false, Bool.false_eq_true, CA_some, Option.some.injEq, Nat.zero_add, Nat.mul_one, Nat.add_zero, setL, List.set_cons_zero, List.set_cons_succ, fillC]
  refine EqOk.go eq_ByteS ah3 bh3 (fun d3 => ?_) (fun d3 => ?_)
  case refine_2 =>
    simp (disch := omega) only [KC_eq, c43, ae0, ae1, ae2, ae3, ae4, ahsz, be0, be1, be2, be3, be4, bhsz, ifT, w64, RR, RP, Ty.agg, Ty.size, Ty.sizes, eq_self, ne_eq, not_true, not_false_iff, reduceCtorEq, List.length_cons, List.length_nil, decide_true, decide_false, true_and, and_true, ite_true, ite_false, PT.full, enter0, setAll, forget, Fr.set, Fr.get, PT.get, PT.set, kof, ai, ev, ev1, evp, b_add, b_sub, b_mul, b_quo, b_rem, b_eql, b_neq, b_lss, b_leq, b_gtr, b_geq, b_seql, b_sneq, setD, resV, resL, res1, args, List.take_zero, List.drop_zero, List.take_nil, List.take_succ_cons, List.drop_succ_cons, Nat.reduceAdd, Nat.reduceLeDiff, reduceIte, Bool.not_true, Bool.not_false, Bool.false_eq_true, CA_some, Option.some.injEq, Nat.zero_add, Nat.mul_one, Nat.add_zero, setL, List.set_cons_zero, List.set_cons_succ, fillC]
    simp [d3]
  subst d3
  simp (disch := omega) only [KC_eq, c43, ae0, ae1, ae2, ae3, ae4, ahsz, be0, be1, be2, be3, be4, bhsz, ifT, w64, RR, RP, Ty.agg, Ty.size, Ty.sizes, eq_self, ne_eq, not_true, not_false_iff, reduceCtorEq, List.length_cons, List.length_nil, decide_true, decide_false, true_and, and_true, ite_true, ite_false, PT.full, enter0, setAll, forget, Fr.set, Fr.get, PT.get, PT.set, kof, ai, ev, ev1, evp, b_add, b_sub, b_mul, b_quo, b_rem, b_eql, b_neq, b_lss, b_leq, b_gtr, b_geq, b_seql, b_sneq, setD, resV, resL, res1, args, List.take_zero, List.drop_zero, List.take_nil, List.take_succ_cons, List.drop_succ_cons, Nat.reduceAdd, Nat.reduceLeDiff, reduceIte, Bool.not_true, Bool.not_false, Bool.false_eq_true, CA_some, Option.some.injEq, Nat.zero_add, Nat.mul_one, Nat.add_zero, setL, List.set_cons_zero, List.set_cons_succ, fillC]
  refine EqOk.go eq_ByteSS ah4 bh4 (fun d4 => ?_) (fun d4 => ?_)
  case refine_2 =>
    simp (disch := omega) only [KC_eq, c43, ae0, ae1, ae2, ae3, ae4, ahsz, be0, be1, be2, be3, be4, bhsz, ifT, w64, RR, RP, Ty.agg, Ty.size, Ty.sizes, eq_self, ne_eq, not_true, not_false_iff, reduceCtorEq, List.length_cons, List.length_nil, decide_true, decide_false, true_and, and_true, ite_true, ite_false, PT.full, enter0, setAll, forget, Fr.set, Fr.get, PT.get, PT.set, kof, ai, ev, ev1, evp, b_add, b_sub, b_mul, b_quo, b_rem, b_eql, b_neq, b_lss, b_leq, b_gtr, b_geq, b_seql, b_sneq, setD, resV, resL, res1, args, List.take_zero, List.drop_zero, List.take_nil, List.take_succ_cons, List.drop_succ_cons, Nat.reduceAdd, Nat.reduceLeDiff, reduceIte, Bool.not_true, Bool.not_false, Bool.false_eq_true, CA_some, Option.some.injEq, Nat.zero_add, Nat.mul_one, Nat.add_zero, setL, List.set_cons_zero, List.set_cons_succ, fillC]
    simp [d4]
  subst d4
  simp (disch := omega) only [KC_eq, c43, ae0, ae1, ae2, ae3, ae4, ahsz, be0, be1, be2, be3, be4, bhsz, ifT, w64, RR, RP, Ty.agg, Ty.size, Ty.sizes, eq_self, ne_eq, not_true, not_false_iff, reduceCtorEq, List.length_cons, List.length_nil, decide_true, decide_false, true_and, and_true, ite_true, ite_false, PT.full, enter0, setAll, forget, Fr.set, Fr.get, PT.get, PT.set, kof, ai, ev, ev1, evp, b_add, b_sub, b_mul, b_quo, b_rem, b_eql, b_neq, b_lss, b_leq, b_gtr, b_geq, b_seql, b_sneq, setD, resV, resL, res1, args, List.take_zero, List.drop_zero, List.take_nil, List.take_succ_cons, List.drop_succ_cons, Nat.reduceAdd, Nat.reduceLeDiff, reduceIte, Bool.not_true, Bool.not_false, Bool.false_eq_true, CA_some, Option.some.injEq, Nat.zero_add, Nat.mul_one, Nat.add_zero, setL, List.set_cons_zero, List.set_cons_succ, fillC]
/-- laws.eqHead -/
def c10 : AF := ⟨2, 6, [.tmp 4], (.seq (.ops [.i (.lbox 2 (.s 0)), .i (.lbox 3 (.s 1)), .i (.mov 4 (.c (.val false [.bool false])))]) (.seq (.seq (.ops [.i (.fad 5 (.s 2) 0), .i (.ldl 6 2 (.s 5) 1 false), .i (.fad 7 (.s 3) 0), .i (.ldl 8 3 (.s 7) 1 false), .i (.bin 9 .neq (.s 6) (.s 8))]) (.cond (.s 9) (.seq (.ops [.i (.mov 4 (.c (.val false [.bool false])))]) .ret) .skip)) (.seq (.seq (.ops [.i (.fad 10 (.s 2) 1), .i (.ldl 11 2 (.s 10) 1 false), .i (.fad 12 (.s 3) 1), .i (.ldl 13 3 (.s 12) 1 false), .i (.bin 14 .neq (.s 11) (.s 13))]) (.cond (.s 14) (.seq (.ops [.i (.mov 4 (.c (.val false [.bool false])))]) .ret) .skip)) (.seq (.seq (.ops [.i (.fad 15 (.s 2) 2), .i (.ldl 16 2 (.s 15) 1 false), .i (.fad 17 (.s 3) 2), .i (.ldl 18 3 (.s 17) 1 false), .i (.bin 19 .neq (.s 16) (.s 18))]) (.cond (.s 19) (.seq (.ops [.i (.mov 4 (.c (.val false [.bool false])))]) .ret) .skip)) (.seq (.seq (.ops [.i (.fad 20 (.s 2) 3), .i (.ldl 21 2 (.s 20) 1 false), .i (.fad 22 (.s 3) 3), .i (.ldl 23 3 (.s 22) 1 false), .i (.call 25 24 false [(.s 21), (.s 23)]), .i (.not 25 (.s 24))]) (.cond (.s 25) (.seq (.ops [.i (.mov 4 (.c (.val false [.bool false])))]) .ret) .skip)) (.seq (.seq (.ops [.i (.fad 26 (.s 2) 4), .i (.ldl 27 2 (.s 26) 1 false), .i (.fad 28 (.s 3) 4), .i (.ldl 29 3 (.s 28) 1 false), .i (.call 31 24 false [(.s 27), (.s 29)]), .i (.not 31 (.s 30))]) (.cond (.s 31) (.seq (.ops [.i (.mov 4 (.c (.val false [.bool false])))]) .ret) .skip)) (.seq (.seq (.ops [.i (.fad 32 (.s 2) 5), .i (.ldl 33 2 (.s 32) 5 true), .i (.fad 34 (.s 3) 5), .i (.ldl 35 3 (.s 34) 5 true), .i (.call 37 43 false [(.s 33), (.s 35)]), .i (.not 37 (.s 36))]) (.cond (.s 37) (.seq (.ops [.i (.mov 4 (.c (.val false [.bool false])))]) .ret) .skip)) (.seq (.ops [.i (.mov 4 (.c (.val false [.bool true])))]) .ret))))))))⟩
theorem k10 : cd 10 = some c10 := by kernel_rfl
theorem eq_Head : EqOk cd 10 THead := by
  intro h ca cb va vb Sa Sb ha hb
  obtain ⟨avs, rfl, aq0⟩ := ha.st
  obtain ⟨av0, ar0, aS0, aT0, rfl, rfl, ah0, aq1⟩ := aq0.step
  obtain ⟨an0, ae0, rfl, rfl, alo0, ahi0⟩ := ah0.int
  obtain ⟨av1, ar1, aS1, aT1, rfl, rfl, ah1, aq2⟩ := aq1.step
  obtain ⟨an1, ae1, rfl, rfl, alo1, ahi1⟩ := ah1.int
  obtain ⟨av2, ar2, aS2, aT2, rfl, rfl, ah2, aq3⟩ := aq2.step
  obtain ⟨an2, ae2, rfl, rfl, alo2, ahi2⟩ := ah2.int
  obtain ⟨av3, ar3, aS3, aT3, rfl, rfl, ah3, aq4⟩ := aq3.step
  obtain ⟨ac3, ae3⟩ := ah3.one rfl
  rw [ae3] at ah3
  obtain ⟨av4, ar4, aS4, aT4, rfl, rfl, ah4, aq5⟩ := aq4.step
  obtain ⟨ac4, ae4⟩ := ah4.one rfl
  rw [ae4] at ah4
  obtain ⟨av5, ar5, aS5, aT5, rfl, rfl, ah5, aq6⟩ := aq5.step
  obtain ⟨_, rfl, rfl⟩ := aq6
  have ahsz : ca.length = 10 := ha.size
  obtain ⟨bvs, rfl, bq0⟩ := hb.st
  obtain ⟨bv0, br0, bS0, bT0, rfl, rfl, bh0, bq1⟩ := bq0.step
  obtain ⟨bn0, be0, rfl, rfl, blo0, bhi0⟩ := bh0.int
  obtain ⟨bv1, br1, bS1, bT1, rfl, rfl, bh1, bq2⟩ := bq1.step
  obtain ⟨bn1, be1, rfl, rfl, blo1, bhi1⟩ := bh1.int
  obtain ⟨bv2, br2, bS2, bT2, rfl, rfl, bh2, bq3⟩ := bq2.step
  obtain ⟨bn2, be2, rfl, rfl, blo2, bhi2⟩ := bh2.int
  obtain ⟨bv3, br3, bS3, bT3, rfl, rfl, bh3, bq4⟩ := bq3.step
  obtain ⟨bc3, be3⟩ := bh3.one rfl
  rw [be3] at bh3
  obtain ⟨bv4, br4, bS4, bT4, rfl, rfl, bh4, bq5⟩ := bq4.step
  obtain ⟨bc4, be4⟩ := bh4.one rfl
  rw [be4] at bh4
  obtain ⟨bv5, br5, bS5, bT5, rfl, rfl, bh5, bq6⟩ := bq5.step
  obtain ⟨_, rfl, rfl⟩ := bq6
  have bhsz : cb.length = 10 := hb.size
  simp only [Ty.size, Ty.sizes, Nat.reduceAdd, Nat.zero_add, List.drop_zero] at ae0 ae1 ae2 ae3 ae4 ahsz be0 be1 be2 be3 be4 bhsz ah5 bh5
  refine WS_enter k10 rfl ?_
  simp (disch := omega) only [KC_eq, c10, ae0, ae1, ae2, ae3, ae4, ahsz, be0, be1, be2, be3, be4, bhsz, ifT, w64, RR, RP, Ty.agg, Ty.size, Ty.sizes, eq_self, ne_eq, not_true, not_false_iff, reduceCtorEq, List.length_cons, List.length_nil, decide_true, decide_false, true_and, and_true, ite_true, ite_false, PT.full, enter0, setAll, forget, Fr.set, Fr.get, PT.get, PT.set, kof, ai, ev, ev1, evp, b_add, b_sub, b_mul, b_quo, b_rem, b_eql, b_neq, b_lss, b_leq, b_gtr, b_geq, b_seql, b_sneq, setD, resV, resL, res1, args, List.take_zero, List.drop_zero, List.take_nil, List.take_succ_cons, List.drop_succ_cons, Nat.reduceAdd, Nat.reduceLeDiff, reduceIte, Bool.not_true, Bool.not_false, Bool.false_eq_true, CA_some, Option.some.injEq, Nat.zero_add, Nat.mul_one, Nat.add_zero, setL, List.set_cons_zero, List.set_cons_succ, fillC]
  refine BR_dec (fun hn => ?_) (fun hn => ?_)
  case refine_1 =>
    simp (disch := omega) only [KC_eq, c10, ae0, ae1, ae2, ae3, ae4, ahsz, be0, be1, be2, be3, be4, bhsz, ifT, w64, RR, RP, Ty.agg, Ty.size, Ty.sizes, eq_self, ne_eq, not_true, not_false_iff, reduceCtorEq, List.length_cons, List.length_nil, decide_true, decide_false, true_and, and_true, ite_true, ite_false, PT.full, enter0, setAll, forget, Fr.set, Fr.get, PT.get, PT.set, kof, ai, ev, ev1, evp, b_add, b_sub, b_mul, b_quo, b_rem, b_eql, b_neq, b_lss, b_leq, b_gtr, b_geq, b_seql, b_sneq, setD, resV, resL, res1, args, List.take_zero, List.drop_zero, List.take_nil, List.take_succ_cons, List.drop_succ_cons, Nat.reduceAdd, Nat.reduceLeDiff, reduceIte, Bool.not_true, Bool.not_false, Bool.false_eq_true, CA_some, Option.some.injEq, Nat.zero_add, Nat.mul_one, Nat.add_zero, setL, List.set_cons_zero, List.set_cons_succ, fillC]
    simp [hn]
  have d0 : an0 = bn0 := by omega
  subst d0
  simp (disch := omega) only [KC_eq, c10, ae0, ae1, ae2, ae3, ae4, ahsz, be0, be1, be2, be3, be4, bhsz, ifT, w64, RR, RP, Ty.agg, Ty.size, Ty.sizes, eq_self, ne_eq, not_true, not_false_iff, reduceCtorEq, List.length_cons, List.length_nil, decide_true, decide_false, true_and, and_true, ite_true, ite_false, PT.full, enter0, setAll, forget, Fr.set, Fr.get, PT.get, PT.set, kof, ai, ev, ev1, evp, b_add, b_sub, b_mul, b_quo, b_rem, b_eql, b_neq, b_lss, b_leq, b_gtr, b_geq, b_seql, b_sneq, setD, resV, resL, res1, args, List.take_zero, List.drop_zero, List.take_nil, List.take_succ_cons, List.drop_succ_cons, Nat.reduceAdd, Nat.reduceLeDiff, reduceIte, Bool.not_true, Bool.not_false, Bool.false_eq_true, CA_some, Option.some.injEq, Nat.zero_add, Nat.mul_one, Nat.add_zero, setL, List.set_cons_zero, List.set_cons_succ, fillC]
  refine BR_dec (fun hn => ?_) (fun hn => ?_)
  case refine_1 =>
    simp (disch := omega) only [KC_eq, c10, ae0, ae1, ae2, ae3, ae4, ahsz, be0, be1, be2, be3, be4, bhsz, ifT, w64, RR, RP, Ty.agg, Ty.size, Ty.sizes, eq_self, ne_eq, not_true, not_false_iff, reduceCtorEq, List.length_cons, List.length_nil, decide_true, decide_false, true_and, and_true, ite_true, ite_false, PT.full, enter0, setAll, forget, Fr.set, Fr.get, PT.get, PT.set, kof, ai, ev, ev1, evp, b_add, b_sub, b_mul, b_quo, b_rem, b_eql, b_neq, b_lss, b_leq, b_gtr, b_geq, b_seql, b_sneq, setD, resV, resL, res1, args, List.take_zero, List.drop_zero, List.take_nil, List.take_succ_cons, List.drop_succ_cons, Nat.reduceAdd, Nat.reduceLeDiff, reduceIte, Bool.not_true, Bool.not_false, Bool.false_eq_true, CA_some, Option.some.injEq, Nat.zero_add, Nat.mul_one, Nat.add_zero, setL, List.set_cons_zero, List.set_cons_succ, fillC]
    simp [hn]
  have d1 : an1 = bn1 := by omega
  subst d1
  simp (disch := omega) only [KC_eq, c10, ae0, ae1, ae2, ae3, ae4, ahsz, be0, be1, be2, be3, be4, bhsz, ifT, w64, RR, RP, Ty.agg, Ty.size, Ty.sizes, eq_self, ne_eq, not_true, not_false_iff, reduceCtorEq, List.length_cons, List.length_nil, decide_true, decide_false, true_and, and_true, ite_true, ite_false, PT.full, enter0, setAll, forget, Fr.set, Fr.get, PT.get, PT.set, kof, ai, ev, ev1, evp, b_add, b_sub, b_mul, b_quo, b_rem, b_eql, b_neq, b_lss, b_leq, b_gtr, b_geq, b_seql, b_sneq, setD, resV, resL, res1, args, List.take_zero, List.drop_zero, List.take_nil, List.take_succ_cons, List.drop_succ_cons, Nat.reduceAdd, Nat.reduceLeDiff, reduceIte, Bool.not_true, Bool.not_false, Bool.false_eq_true, CA_some, Option.some.injEq, Nat.zero_add, Nat.mul_one, Nat.add_zero, setL, List.set_cons_zero, List.set_cons_succ, fillC]
  refine BR_dec (fun hn => ?_) (fun hn => ?_)
  case refine_1 =>
    simp (disch := omega) only [KC_eq, c10, ae0, ae1, ae2, ae3, ae4, ahsz, be0, be1, be2, be3, be4, bhsz, ifT, w64, RR, RP, Ty.agg, Ty.size, Ty.sizes, eq_self, ne_eq, not_true, not_false_iff, reduceCtorEq, List.length_cons, List.length_nil, decide_true, decide_false, true_and, and_true, ite_true, ite_false, PT.full, enter0, setAll, forget, Fr.set, Fr.get, PT.get, PT.set, kof, ai, ev, ev1, evp, b_add, b_sub, b_mul, b_quo, b_rem, b_eql, b_neq, b_lss, b_leq, b_gtr, b_geq, b_seql, b_sneq, setD, resV, resL, res1, args, List.take_zero, List.drop_zero, List.take_nil, List.take_succ_cons, List.drop_succ_cons, Nat.reduceAdd, Nat.reduceLeDiff, reduceIte, Bool.not_true, Bool.not_false, Bool.false_eq_true, CA_some, Option.some.injEq, Nat.zero_add, Nat.mul_one, Nat.add_zero, setL, List.set_cons_zero, List.set_cons_succ, fillC]
    simp [hn]
  have d2 : an2 = bn2 := by omega
  subst d2
  simp (disch := omega) only [KC_eq, c10, ae0, ae1, ae2, ae3, ae4, ahsz, be0, be1, be2, be3, be4, bhsz, ifT, w64, RR, RP, Ty.agg, Ty.size, Ty.sizes, eq_self, ne_eq, not_true, not_false_iff, reduceCtorEq, List.length_cons, List.length_nil, decide_true, decide_false, true_and, and_true, ite_true, ite_false, PT.full, enter0, setAll, forget, Fr.set, Fr.get, PT.get, PT.set, kof, ai, ev, ev1, evp, b_add, b_sub, b_mul, b_quo, b_rem, b_eql, b_neq, b_lss, b_leq, b_gtr, b_geq, b_seql, b_sneq, setD, resV, resL, res1, args, List.take_zero, List.drop_zero, List.take_nil, List.take_succ_cons, List.drop_succ_cons, Nat.reduceAdd, Nat.reduceLeDiff, reduceIte, Bool.not_true, Bool.not_false, Bool.false_eq_true, CA_some, Option.some.injEq, Nat.zero_add, Nat.mul_one, Nat.add_zero, setL, List.set_cons_zero, List.set_cons_succ, fillC]
  refine EqOk.go eq_ByteS ah3 bh3 (fun d3 => ?_) (fun d3 => ?_)
  case refine_2 =>
    simp (disch := omega) only [KC_eq, c10, ae0, ae1, ae2, ae3, ae4, ahsz, be0, be1, be2, be3, be4, bhsz, ifT, w64, RR, RP, Ty.agg, Ty.size, Ty.sizes, eq_self, ne_eq, not_true, not_false_iff, reduceCtorEq, List.length_cons, List.length_nil, decide_true, decide_false, true_and, and_true, ite_true, ite_false, PT.full, enter0, setAll, forget, Fr.set, Fr.get, PT.get, PT.set, kof, ai, ev, ev1, evp, b_add, b_sub, b_mul, b_quo, b_rem, b_eql, b_neq, b_lss, b_leq, b_gtr, b_geq, b_seql, b_sneq, setD, resV, resL, res1, args, List.take_zero, List.drop_zero, List.take_nil, List.take_succ_cons, List.drop_succ_cons, Nat.reduceAdd, Nat.reduceLeDiff, reduceIte, Bool.not_true, Bool.not_false, Bool.false_eq_true, CA_some, Option.some.injEq, Nat.zero_add, Nat.mul_one, Nat.add_zero, setL, List.set_cons_zero, List.set_cons_succ, fillC]
    simp [d3]
  subst d3
  simp (disch := omega) only [KC_eq, c10, ae0, ae1, ae2, ae3, ae4, ahsz, be0, be1, be2, be3, be4, bhsz, ifT, w64, RR, RP, Ty.agg, Ty.size, Ty.sizes, eq_self, ne_eq, not_true, not_false_iff, reduceCtorEq, List.length_cons, List.length_nil, decide_true, decide_false, true_and, and_true, ite_true, ite_false, PT.full, enter0, setAll, forget, Fr.set, Fr.get, PT.get, PT.set, kof, ai, ev, ev1, evp, b_add, b_sub, b_mul, b_quo, b_rem, b_eql, b_neq, b_lss, b_leq, b_gtr, b_geq, b_seql, b_sneq, setD, resV, resL, res1, args, List.take_zero, List.drop_zero, List.take_nil, List.take_succ_cons, List.drop_succ_cons, Nat.reduceAdd, Nat.reduceLeDiff, reduceIte, Bool.not_true, Bool.not_false, Bool.false_eq_true, CA_some, Option.some.injEq, Nat.zero_add, Nat.mul_one, Nat.add_zero, setL, List.set_cons_zero, List.set_cons_succ, fillC]
  refine EqOk.go eq_ByteS ah4 bh4 (fun d4 => ?_) (fun d4 => ?_)
  case refine_2 =>
    simp (disch := omega) only [KC_eq, c10, ae0, ae1, ae2, ae3, ae4, ahsz, be0, be1, be2, be3, be4, bhsz, ifT, w64, RR, RP, Ty.agg, Ty.size, Ty.sizes, eq_self, ne_eq, not_true, not_false_iff, reduceCtorEq, List.length_cons, List.length_nil, decide_true, decide_false, true_and, and_true, ite_true, ite_false, PT.full, enter0, setAll, forget, Fr.set, Fr.get, PT.get, PT.set, kof, ai, ev, ev1, evp, b_add, b_sub, b_mul, b_quo, b_rem, b_eql, b_neq, b_lss, b_leq, b_gtr, b_geq, b_seql, b_sneq, setD, resV, resL, res1, args, List.take_zero, List.drop_zero, List.take_nil, List.take_succ_cons, List.drop_succ_cons, Nat.reduceAdd, Nat.reduceLeDiff, reduceIte, Bool.not_true, Bool.not_false, Bool.false_eq_true, CA_some, Option.some.injEq, Nat.zero_add, Nat.mul_one, Nat.add_zero, setL, List.set_cons_zero, List.set_cons_succ, fillC]
    simp [d4]
  subst d4
  simp (disch := omega) only [KC_eq, c10, ae0, ae1, ae2, ae3, ae4, ahsz, be0, be1, be2, be3, be4, bhsz, ifT, w64, RR, RP, Ty.agg, Ty.size, Ty.sizes, eq_self, ne_eq, not_true, not_false_iff, reduceCtorEq, List.length_cons, List.length_nil, decide_true, decide_false, true_and, and_true, ite_true, ite_false, PT.full, enter0, setAll, forget, Fr.set, Fr.get, PT.get, PT.set, kof, ai, ev, ev1, evp, b_add, b_sub, b_mul, b_quo, b_rem, b_eql, b_neq, b_lss, b_leq, b_gtr, b_geq, b_seql, b_sneq, setD, resV, resL, res1, args, List.take_zero, List.drop_zero, List.take_nil, List.take_succ_cons, List.drop_succ_cons, Nat.reduceAdd, Nat.reduceLeDiff, reduceIte, Bool.not_true, Bool.not_false, Bool.false_eq_true, CA_some, Option.some.injEq, Nat.zero_add, Nat.mul_one, Nat.add_zero, setL, List.set_cons_zero, List.set_cons_succ, fillC]
  refine EqOk.go eq_Qc ah5 bh5 (fun d5 => ?_) (fun d5 => ?_)
  case refine_2 =>
    simp (disch := omega) only [KC_eq, c10, ae0, ae1, ae2, ae3, ae4, ahsz, be0, be1, be2, be3, be4, bhsz, ifT, w64, RR, RP, Ty.agg, Ty.size, Ty.sizes, eq_self, ne_eq, not_true, not_false_iff, reduceCtorEq, List.length_cons, List.length_nil, decide_true, decide_false, true_and, and_true, ite_true, ite_false, PT.full, enter0, setAll, forget, Fr.set, Fr.get, PT.get, PT.set, kof, ai, ev, ev1, evp, b_add, b_sub, b_mul, b_quo, b_rem, b_eql, b_neq, b_lss, b_leq, b_gtr, b_geq, b_seql, b_sneq, setD, resV, resL, res1, args, List.take_zero, List.drop_zero, List.take_nil, List.take_succ_cons, List.drop_succ_cons, Nat.reduceAdd, Nat.reduceLeDiff, reduceIte, Bool.not_true, Bool.not_false, Bool.false_eq_true, CA_some, Option.some.injEq, Nat.zero_add, Nat.mul_one, Nat.add_zero, setL, List.set_cons_zero, List.set_cons_succ, fillC]
    simp [d5]
  subst d5
  simp (disch := omega) only [KC_eq, c10, ae0, ae1, ae2, ae3, ae4, ahsz, be0, be1, be2, be3, be4, bhsz, ifT, w64, RR, RP, Ty.agg, Ty.size, Ty.sizes, eq_self, ne_eq, not_true, not_false_iff, reduceCtorEq, List.length_cons, List.length_nil, decide_true, decide_false, true_and, and_true, ite_true, ite_false, PT.full, enter0, setAll, forget, Fr.set, Fr.get, PT.get, PT.set, kof, ai, ev, ev1, evp, b_add, b_sub, b_mul, b_quo, b_rem, b_eql, b_neq, b_lss, b_leq, b_gtr, b_geq, b_seql, b_sneq, setD, resV, resL, res1, args, List.take_zero, List.drop_zero, List.take_nil, List.take_succ_cons, List.drop_succ_cons, Nat.reduceAdd, Nat.reduceLeDiff, reduceIte, Bool.not_true, Bool.not_false, Bool.false_eq_true, CA_some, Option.some.injEq, Nat.zero_add, Nat.mul_one, Nat.add_zero, setL, List.set_cons_zero, List.set_cons_succ, fillC]
/-- laws.eqHeadS -/
def c32 : AF := ⟨2, 5, [.tmp 4], (.seq (.ops [.i (.mov 4 (.c (.val false [.bool false])))]) (.seq (.seq (.ops [.i (.mov 6 (.s 0)), .i (.len 7 false (.s 6)), .i (.mov 8 (.s 1)), .i (.len 9 false (.s 8)), .i (.bin 10 .neq (.s 7) (.s 9))]) (.cond (.s 10) (.seq (.ops [.i (.mov 4 (.c (.val false [.bool false])))]) .ret) .skip)) (.seq (.seq (.ops [.i (.mov 5 (.c (.val false [.int .i64 0])))]) (.block 0 (.loop [26, 25, 24, 23, 22, 21, 20, 19, 18, 17, 16, 15, 14, 13, 12, 11] (.seq (.seq (.ops [.i (.mov 11 (.s 5)), .i (.mov 12 (.s 0)), .i (.len 13 false (.s 12)), .i (.bin 14 .lss (.s 11) (.s 13))]) (.cond (.s 14) .skip (.exit 0))) (.seq (.block 1 (.seq (.ops [.i (.mov 17 (.s 0)), .i (.mov 18 (.s 5)), .i (.iad 19 (.s 17) (.s 18) 10), .i (.ldh 20 (.s 19) 10 true), .i (.mov 21 (.s 1)), .i (.mov 22 (.s 5)), .i (.iad 23 (.s 21) (.s 22) 10), .i (.ldh 24 (.s 23) 10 true), .i (.call 26 10 false [(.s 20), (.s 24)]), .i (.not 26 (.s 25))]) (.cond (.s 26) (.seq (.ops [.i (.mov 4 (.c (.val false [.bool false])))]) .ret) .skip))) (.ops [.i (.mov 15 (.s 5)), .i (.bin 16 .add (.s 15) (.c (.val false [.int .i64 1]))), .i (.mov 5 (.s 16))])))))) (.seq (.ops [.i (.mov 4 (.c (.val false [.bool true])))]) .ret))))⟩
theorem k32 : cd 32 = some c32 := by kernel_rfl
theorem eq_HeadS : EqOk cd 32 (.sl THead) := eq_sl k32 eq_Head
/-- laws.eqLight -/
def c11 : AF := ⟨2, 5, [.tmp 4], (.seq (.ops [.i (.lbox 2 (.s 0)), .i (.lbox 3 (.s 1)), .i (.mov 4 (.c (.val false [.bool false])))]) (.seq (.seq (.ops [.i (.fad 5 (.s 2) 0), .i (.ldl 6 2 (.s 5) 5 true), .i (.fad 7 (.s 3) 0), .i (.ldl 8 3 (.s 7) 5 true), .i (.call 10 44 false [(.s 6), (.s 8)]), .i (.not 10 (.s 9))]) (.cond (.s 10) (.seq (.ops [.i (.mov 4 (.c (.val false [.bool false])))]) .ret) .skip)) (.seq (.seq (.ops [.i (.fad 11 (.s 2) 5), .i (.ldl 12 2 (.s 11) 1 true), .i (.fad 13 (.s 3) 5), .i (.ldl 14 3 (.s 13) 1 true), .i (.call 16 23 false [(.s 12), (.s 14)]), .i (.not 16 (.s 15))]) (.cond (.s 16) (.seq (.ops [.i (.mov 4 (.c (.val false [.bool false])))]) .ret) .skip)) (.seq (.seq (.ops [.i (.fad 17 (.s 2) 6), .i (.ldl 18 2 (.s 17) 2 true), .i (.fad 19 (.s 3) 6), .i (.ldl 20 3 (.s 19) 2 true), .i (.call 22 45 false [(.s 18), (.s 20)]), .i (.not 22 (.s 21))]) (.cond (.s 22) (.seq (.ops [.i (.mov 4 (.c (.val false [.bool false])))]) .ret) .skip)) (.seq (.seq (.ops [.i (.fad 23 (.s 2) 8), .i (.ldl 24 2 (.s 23) 1 false), .i (.fad 25 (.s 3) 8), .i (.ldl 26 3 (.s 25) 1 false), .i (.call 28 32 false [(.s 24), (.s 26)]), .i (.not 28 (.s 27))]) (.cond (.s 28) (.seq (.ops [.i (.mov 4 (.c (.val false [.bool false])))]) .ret) .skip)) (.seq (.ops [.i (.mov 4 (.c (.val false [.bool true])))]) .ret))))))⟩
theorem k11 : cd 11 = some c11 := by kernel_rfl
theorem eq_Light : EqOk cd 11 TLight := by
  intro h ca cb va vb Sa Sb ha hb
  obtain ⟨avs, rfl, aq0⟩ := ha.st
  obtain ⟨av0, ar0, aS0, aT0, rfl, rfl, ah0, aq1⟩ := aq0.step
  obtain ⟨av1, ar1, aS1, aT1, rfl, rfl, ah1, aq2⟩ := aq1.step
  obtain ⟨av2, ar2, aS2, aT2, rfl, rfl, ah2, aq3⟩ := aq2.step
  obtain ⟨av3, ar3, aS3, aT3, rfl, rfl, ah3, aq4⟩ := aq3.step
  obtain ⟨ac3, ae3⟩ := ah3.one rfl
  rw [ae3] at ah3
  obtain ⟨_, rfl, rfl⟩ := aq4
  have ahsz : ca.length = 9 := ha.size
  obtain ⟨bvs, rfl, bq0⟩ := hb.st
  obtain ⟨bv0, br0, bS0, bT0, rfl, rfl, bh0, bq1⟩ := bq0.step
  obtain ⟨bv1, br1, bS1, bT1, rfl, rfl, bh1, bq2⟩ := bq1.step
  obtain ⟨bv2, br2, bS2, bT2, rfl, rfl, bh2, bq3⟩ := bq2.step
  obtain ⟨bv3, br3, bS3, bT3, rfl, rfl, bh3, bq4⟩ := bq3.step
  obtain ⟨bc3, be3⟩ := bh3.one rfl
  rw [be3] at bh3
  obtain ⟨_, rfl, rfl⟩ := bq4
  have bhsz : cb.length = 9 := hb.size
  simp only [Ty.size, Ty.sizes, Nat.reduceAdd, Nat.zero_add, List.drop_zero] at ae3 ahsz be3 bhsz ah0 ah1 ah2 bh0 bh1 bh2
  refine WS_enter k11 rfl ?_
  simp (disch := omega) only [KC_eq, c11, ae3, ahsz, be3, bhsz, ifT, w64, RR, RP, Ty.agg, Ty.size, Ty.sizes, eq_self, ne_eq, not_true, not_false_iff, reduceCtorEq, List.length_cons, List.length_nil, decide_true, decide_false, true_and, and_true, ite_true, ite_false, PT.full, enter0, setAll, forget, Fr.set, Fr.get, PT.get, PT.set, kof, ai, ev, ev1, evp, b_add, b_sub, b_mul, b_quo, b_rem, b_eql, b_neq, b_lss, b_leq, b_gtr, b_geq, b_seql, b_sneq, setD, resV, resL, res1, args, List.take_zero, List.drop_zero, List.take_nil, List.take_succ_cons, List.drop_succ_cons, Nat.reduceAdd, Nat.reduceLeDiff, reduceIte, Bool.not_true, Bool.not_false, Bool.false_eq_true, CA_some, Option.some.injEq, Nat.zero_add, Nat.mul_one, Nat.add_zero, setL, List.set_cons_zero, List.set_cons_succ, fillC]
  refine EqOk.go eq_Limits ah0 bh0 (fun d0 => ?_) (fun d0 => ?_)
  case refine_2 =>
    simp (disch := omega) only [KC_eq, c11, ae3, ahsz, be3, bhsz, ifT, w64, RR, RP, Ty.agg, Ty.size, Ty.sizes, eq_self, ne_eq, not_true, not_false_iff, reduceCtorEq, List.length_cons, List.length_nil, decide_true, decide_false, true_and, and_true, ite_true, ite_false, PT.full, enter0, setAll, forget, Fr.set, Fr.get, PT.get, PT.set, kof, ai, ev, ev1, evp, b_add, b_sub, b_mul, b_quo, b_rem, b_eql, b_neq, b_lss, b_leq, b_gtr, b_geq, b_seql, b_sneq, setD, resV, resL, res1, args, List.take_zero, List.drop_zero, List.take_nil, List.take_succ_cons, List.drop_succ_cons, Nat.reduceAdd, Nat.reduceLeDiff, reduceIte, Bool.not_true, Bool.not_false, Bool.false_eq_true, CA_some, Option.some.injEq, Nat.zero_add, Nat.mul_one, Nat.add_zero, setL, List.set_cons_zero, List.set_cons_succ, fillC]
    simp [d0]
  subst d0
  simp (disch := omega) only [KC_eq, c11, ae3, ahsz, be3, bhsz, ifT, w64, RR, RP, Ty.agg, Ty.size, Ty.sizes, eq_self, ne_eq, not_true, not_false_iff, reduceCtorEq, List.length_cons, List.length_nil, decide_true, decide_false, true_and, and_true, ite_true, ite_false, PT.full, enter0, setAll, forget, Fr.set, Fr.get, PT.get, PT.set, kof, ai, ev, ev1, evp, b_add, b_sub, b_mul, b_quo, b_rem, b_eql, b_neq, b_lss, b_leq, b_gtr, b_geq, b_seql, b_sneq, setD, resV, resL, res1, args, List.take_zero, List.drop_zero, List.take_nil, List.take_succ_cons, List.drop_succ_cons, Nat.reduceAdd, Nat.reduceLeDiff, reduceIte, Bool.not_true, Bool.not_false, Bool.false_eq_true, CA_some, Option.some.injEq, Nat.zero_add, Nat.mul_one, Nat.add_zero, setL, List.set_cons_zero, List.set_cons_succ, fillC]
  refine EqOk.go eq_Table ah1 bh1 (fun d1 => ?_) (fun d1 => ?_)
  case refine_2 =>
    simp (disch := omega) only [KC_eq, c11, ae3, ahsz, be3, bhsz, ifT, w64, RR, RP, Ty.agg, Ty.size, Ty.sizes, eq_self, ne_eq, not_true, not_false_iff, reduceCtorEq, List.length_cons, List.length_nil, decide_true, decide_false, true_and, and_true, ite_true, ite_false, PT.full, enter0, setAll, forget, Fr.set, Fr.get, PT.get, PT.set, kof, ai, ev, ev1, evp, b_add, b_sub, b_mul, b_quo, b_rem, b_eql, b_neq, b_lss, b_leq, b_gtr, b_geq, b_seql, b_sneq, setD, resV, resL, res1, args, List.take_zero, List.drop_zero, List.take_nil, List.take_succ_cons, List.drop_succ_cons, Nat.reduceAdd, Nat.reduceLeDiff, reduceIte, Bool.not_true, Bool.not_false, Bool.false_eq_true, CA_some, Option.some.injEq, Nat.zero_add, Nat.mul_one, Nat.add_zero, setL, List.set_cons_zero, List.set_cons_succ, fillC]
    simp [d1]
  subst d1
  simp (disch := omega) only [KC_eq, c11, ae3, ahsz, be3, bhsz, ifT, w64, RR, RP, Ty.agg, Ty.size, Ty.sizes, eq_self, ne_eq, not_true, not_false_iff, reduceCtorEq, List.length_cons, List.length_nil, decide_true, decide_false, true_and, and_true, ite_true, ite_false, PT.full, enter0, setAll, forget, Fr.set, Fr.get, PT.get, PT.set, kof, ai, ev, ev1, evp, b_add, b_sub, b_mul, b_quo, b_rem, b_eql, b_neq, b_lss, b_leq, b_gtr, b_geq, b_seql, b_sneq, setD, resV, resL, res1, args, List.take_zero, List.drop_zero, List.take_nil, List.take_succ_cons, List.drop_succ_cons, Nat.reduceAdd, Nat.reduceLeDiff, reduceIte, Bool.not_true, Bool.not_false, Bool.false_eq_true, CA_some, Option.some.injEq, Nat.zero_add, Nat.mul_one, Nat.add_zero, setL, List.set_cons_zero, List.set_cons_succ, fillC]
  refine EqOk.go eq_Push ah2 bh2 (fun d2 => ?_) (fun d2 => ?_)
  case refine_2 =>
    simp (disch := omega) only [KC_eq, c11, ae3, ahsz, be3, bhsz, ifT, w64, RR, RP, Ty.agg, Ty.size, Ty.sizes, eq_self, ne_eq, not_true, not_false_iff, reduceCtorEq, List.length_cons, List.length_nil, decide_true, decide_false, true_and, and_true, ite_true, ite_false, PT.full, enter0, setAll, forget, Fr.set, Fr.get, PT.get, PT.set, kof, ai, ev, ev1, evp, b_add, b_sub, b_mul, b_quo, b_rem, b_eql, b_neq, b_lss, b_leq, b_gtr, b_geq, b_seql, b_sneq, setD, resV, resL, res1, args, List.take_zero, List.drop_zero, List.take_nil, List.take_succ_cons, List.drop_succ_cons, Nat.reduceAdd, Nat.reduceLeDiff, reduceIte, Bool.not_true, Bool.not_false, Bool.false_eq_true, CA_some, Option.some.injEq, Nat.zero_add, Nat.mul_one, Nat.add_zero, setL, List.set_cons_zero, List.set_cons_succ, fillC]
    simp [d2]
  subst d2
  simp (disch := omega) only [KC_eq, c11, ae3, ahsz, be3, bhsz, ifT, w64, RR, RP, Ty.agg, Ty.size, Ty.sizes, eq_self, ne_eq, not_true, not_false_iff, reduceCtorEq, List.length_cons, List.length_nil, decide_true, decide_false, true_and, and_true, ite_true, ite_false, PT.full, enter0, setAll, forget, Fr.set, Fr.get, PT.get, PT.set, kof, ai, ev, ev1, evp, b_add, b_sub, b_mul, b_quo, b_rem, b_eql, b_neq, b_lss, b_leq, b_gtr, b_geq, b_seql, b_sneq, setD, resV, resL, res1, args, List.take_zero, List.drop_zero, List.take_nil, List.take_succ_cons, List.drop_succ_cons, Nat.reduceAdd, Nat.reduceLeDiff, reduceIte, Bool.not_true, Bool.not_false, Bool.false_eq_true, CA_some, Option.some.injEq, Nat.zero_add, Nat.mul_one, Nat.add_zero, setL, List.set_cons_zero, List.set_cons_succ, fillC]
  refine EqOk.go eq_HeadS ah3 bh3 (fun d3 => ?_) (fun d3 => ?_)
  case refine_2 =>
    simp (disch := omega) only [KC_eq, c11, ae3, ahsz, be3, bhsz, ifT, w64, RR, RP, Ty.agg, Ty.size, Ty.sizes, eq_self, ne_eq, not_true, not_false_iff, reduceCtorEq, List.length_cons, List.length_nil, decide_true, decide_false, true_and, and_true, ite_true, ite_false, PT.full, enter0, setAll, forget, Fr.set, Fr.get, PT.get, PT.set, kof, ai, ev, ev1, evp, b_add, b_sub, b_mul, b_quo, b_rem, b_eql, b_neq, b_lss, b_leq, b_gtr, b_geq, b_seql, b_sneq, setD, resV, resL, res1, args, List.take_zero, List.drop_zero, List.take_nil, List.take_succ_cons, List.drop_succ_cons, Nat.reduceAdd, Nat.reduceLeDiff, reduceIte, Bool.not_true, Bool.not_false, Bool.false_eq_true, CA_some, Option.some.injEq, Nat.zero_add, Nat.mul_one, Nat.add_zero, setL, List.set_cons_zero, List.set_cons_succ, fillC]
    simp [d3]
  subst d3
  simp (disch := omega) only [KC_eq, c11, ae3, ahsz, be3, bhsz, ifT, w64, RR, RP, Ty.agg, Ty.size, Ty.sizes, eq_self, ne_eq, not_true, not_false_iff, reduceCtorEq, List.length_cons, List.length_nil, decide_true, decide_false, true_and, and_true, ite_true, ite_false, PT.full, enter0, setAll, forget, Fr.set, Fr.get, PT.get, PT.set, kof, ai, ev, ev1, evp, b_add, b_sub, b_mul, b_quo, b_rem, b_eql, b_neq, b_lss, b_leq, b_gtr, b_geq, b_seql, b_sneq, setD, resV, resL, res1, args, List.take_zero, List.drop_zero, List.take_nil, List.take_succ_cons, List.drop_succ_cons, Nat.reduceAdd, Nat.reduceLeDiff, reduceIte, Bool.not_true, Bool.not_false, Bool.false_eq_true, CA_some, Option.some.injEq, Nat.zero_add, Nat.mul_one, Nat.add_zero, setL, List.set_cons_zero, List.set_cons_succ, fillC]
/-- laws.markByteS -/
def c26 : AF := ⟨2, 5, [.tmp 4], (.seq (.ops [.i (.mov 4 (.c (.val false [.int .i64 0])))]) (.seq (.seq (.ops [.i (.mov 5 (.c (.val false [.int .i64 0])))]) (.block 0 (.loop [18, 17, 16, 15, 14, 13, 12, 11, 10, 9, 8, 7, 6] (.seq (.seq (.ops [.i (.mov 6 (.s 5)), .i (.mov 7 (.s 0)), .i (.len 8 false (.s 7)), .i (.bin 9 .lss (.s 6) (.s 8))]) (.cond (.s 9) .skip (.exit 0))) (.seq (.block 1 (.seq (.ops [.i (.mov 12 (.s 0)), .i (.mov 13 (.s 5)), .i (.mov 14 (.s 1)), .i (.cvi 15 .u8 (.s 14)), .i (.iad 16 (.s 12) (.s 13) 1), .i (.sth (.s 16) (.s 15) 1)]) (.ops [.i (.mov 17 (.s 1)), .i (.bin 18 .add (.s 17) (.c (.val false [.int .i64 1]))), .i (.mov 1 (.s 18))]))) (.ops [.i (.mov 10 (.s 5)), .i (.bin 11 .add (.s 10) (.c (.val false [.int .i64 1]))), .i (.mov 5 (.s 11))])))))) (.seq (.ops [.i (.mov 19 (.s 1)), .i (.mov 4 (.s 19))]) .ret)))⟩
theorem k26 : cd 26 = some c26 := by kernel_rfl
theorem mk_ByteS : MkOk cd 26 (.sl (.int .u8)) := mk_leaf k26
/-- laws.markRowS -/
def c64 : AF := ⟨2, 5, [.tmp 4], (.seq (.ops [.i (.mov 4 (.c (.val false [.int .i64 0])))]) (.seq (.seq (.ops [.i (.mov 5 (.c (.val false [.int .i64 0])))]) (.block 0 (.loop [25, 24, 23, 22, 21, 20, 19, 18, 17, 16, 15, 14, 13, 12, 11, 10, 9, 8, 7, 6] (.seq (.seq (.ops [.i (.mov 6 (.s 5)), .i (.mov 7 (.s 0)), .i (.len 8 false (.s 7)), .i (.bin 9 .lss (.s 6) (.s 8))]) (.cond (.s 9) .skip (.exit 0))) (.seq (.block 1 (.seq (.ops [.i (.mov 12 (.s 0)), .i (.mov 13 (.s 5)), .i (.mov 14 (.s 1)), .i (.iad 15 (.s 12) (.s 13) 2), .i (.fad 16 (.s 15) 0), .i (.sth (.s 16) (.s 14) 1)]) (.seq (.ops [.i (.mov 17 (.s 1)), .i (.bin 18 .add (.s 17) (.c (.val false [.int .i64 1]))), .i (.mov 1 (.s 18))]) (.ops [.i (.mov 19 (.s 0)), .i (.mov 20 (.s 5)), .i (.iad 21 (.s 19) (.s 20) 2), .i (.fad 22 (.s 21) 1), .i (.ldh 23 (.s 22) 1 false), .i (.mov 24 (.s 1)), .i (.call 26 26 false [(.s 23), (.s 24)]), .i (.mov 1 (.s 25))])))) (.ops [.i (.mov 10 (.s 5)), .i (.bin 11 .add (.s 10) (.c (.val false [.int .i64 1]))), .i (.mov 5 (.s 11))])))))) (.seq (.ops [.i (.mov 26 (.s 1)), .i (.mov 4 (.s 26))]) .ret)))⟩
theorem k64 : cd 64 = some c64 := by kernel_rfl
theorem mk_RowS : MkOk cd 64 (.sl TRow) := by
  intro h cs v S k hv ho hk
  obtain ⟨c, xs, id, off, bs, S', rfl, rfl, hm, hl, hat, hce, hbs, hel, hS⟩ := hv.view
  have hcn : cnT (.sl TRow) (.l xs) = (xs.map (cnE TRow)).sum := rfl
  have hmk : mkT (.sl TRow) (.l xs) k = .l (mkL (mkE TRow) (cnE TRow) xs k) := rfl
  rw [hcn] at hk ⊢
  rw [hmk]
  have hsub : ∀ j ∈ S', j ∈ S := fun j hj => by
    rcases hS with e | ⟨_, _, e⟩
    · rw [e]; simp [hj]
    · rw [e] at hj; cases hj
  have hnd : S'.Nodup := by
    rcases hS with e | ⟨_, _, e⟩
    · have := ho.1
      rw [e] at this
      exact (List.nodup_cons.1 this).2
    · rw [e]; simp
  have hid : 0 < xs.length → id ∉ S' ∧ id ∈ S := fun hp => by
    rcases hS with e | ⟨e, _, _⟩
    · have := ho.1
      rw [e] at this
      exact ⟨(List.nodup_cons.1 this).1, by rw [e]; simp⟩
    · rw [e] at hp; simp at hp
  have hown : ∃ ty, 0 < xs.length → h[id]? = some (.own ty bs) := by
    by_cases hp : 0 < xs.length
    · obtain ⟨ty, cs, e⟩ := ho.2 id (hid hp).2
      have := (hce hp).1
      rw [cells_own e] at this
      cases this
      exact ⟨ty, fun _ => e⟩
    · exact ⟨0, fun e => absurd e hp⟩
  obtain ⟨ty, hty⟩ := hown
  have hs1 : TRow.size = 2 := rfl
  rw [hs1] at hat hbs
  refine WS_enter k64 rfl ?_
  simp (disch := omega) only [c64, RR, RP, Ty.agg, Ty.size, Ty.sizes, eq_self, ne_eq, not_true, not_false_iff, reduceCtorEq, List.length_cons, List.length_nil, decide_true, decide_false, true_and, and_true, ite_true, ite_false, PT.full, enter0, setAll, forget, Fr.set, Fr.get, PT.get, PT.set, kof, ai, ev, ev1, evp, b_add, b_sub, b_mul, b_quo, b_rem, b_eql, b_neq, b_lss, b_leq, b_gtr, b_geq, b_seql, b_sneq, setD, resV, resL, res1, args, List.take_zero, List.drop_zero, List.take_nil, List.take_succ_cons, List.drop_succ_cons, Nat.reduceAdd, Nat.reduceLeDiff, reduceIte, Bool.not_true, Bool.not_false, Bool.false_eq_true, CA_some, Option.some.injEq, Nat.zero_add, Nat.mul_one, Nat.add_zero, setL, List.set_cons_zero, List.set_cons_succ, fillC]
  refine WS_loop2 (σ := Nat) (f1 := _) (by simp only [RR, RP, Ty.agg, Ty.size, Ty.sizes, eq_self, ne_eq, not_true, not_false_iff, reduceCtorEq, List.length_cons, List.length_nil, decide_true, decide_false, true_and, and_true, ite_true, ite_false, PT.full, enter0, setAll, forget, Fr.set, Fr.get, PT.get, PT.set, kof, ai, ev, ev1, evp, b_add, b_sub, b_mul, b_quo, b_rem, b_eql, b_neq, b_lss, b_leq, b_gtr, b_geq, b_seql, b_sneq, setD, resV, resL, res1, args, List.take_zero, List.drop_zero, List.take_nil, List.take_succ_cons, List.drop_succ_cons, Nat.reduceAdd, Nat.reduceLeDiff, reduceIte, Bool.not_true, Bool.not_false, Bool.false_eq_true, CA_some, Option.some.injEq, Nat.zero_add, Nat.mul_one, Nat.add_zero, setL, List.set_cons_zero, List.set_cons_succ, fillC]; rfl) (fun i => [(5, .val false [.int .i64 i]), (1, .val false [.int .i64 ((k + ((xs.take i).map (cnE TRow)).sum : Nat) : Int)])])
    (fun i g h' => g = xs.length - i ∧ i ≤ xs.length ∧ Wrote h h' S ∧ (0 < xs.length → ∃ bs', h'[id]? = some (.own ty bs') ∧ bs'.length = bs.length ∧ Elems (Rp h' TRow) (mkd TRow xs k i) ((bs'.drop off).take (xs.length * TRow.size)) S') ∧ (i = 0 → h' = h)) 0 xs.length (by simp only [List.take_zero, List.map_nil, List.sum_nil, RR, RP, Ty.agg, Ty.size, Ty.sizes, eq_self, ne_eq, not_true, not_false_iff, reduceCtorEq, List.length_cons, List.length_nil, decide_true, decide_false, true_and, and_true, ite_true, ite_false, PT.full, enter0, setAll, forget, Fr.set, Fr.get, PT.get, PT.set, kof, ai, ev, ev1, evp, b_add, b_sub, b_mul, b_quo, b_rem, b_eql, b_neq, b_lss, b_leq, b_gtr, b_geq, b_seql, b_sneq, setD, resV, resL, res1, args, List.take_zero, List.drop_zero, List.take_nil, List.take_succ_cons, List.drop_succ_cons, Nat.reduceAdd, Nat.reduceLeDiff, reduceIte, Bool.not_true, Bool.not_false, Bool.false_eq_true, CA_some, Option.some.injEq, Nat.zero_add, Nat.mul_one, Nat.add_zero, setL, List.set_cons_zero, List.set_cons_succ, fillC]; rfl)
    ⟨by omega, by omega, Wrote.refl ho.2, fun hp => ⟨bs, hty hp, rfl, by rw [mkd_zero]; exact hel⟩, fun _ => rfl⟩ ?_
  rintro i g h' ⟨hg, hi, hw, hblk, hz0⟩
  simp (disch := omega) only [c64, hl, w64, RR, RP, Ty.agg, Ty.size, Ty.sizes, eq_self, ne_eq, not_true, not_false_iff, reduceCtorEq, List.length_cons, List.length_nil, decide_true, decide_false, true_and, and_true, ite_true, ite_false, PT.full, enter0, setAll, forget, Fr.set, Fr.get, PT.get, PT.set, kof, ai, ev, ev1, evp, b_add, b_sub, b_mul, b_quo, b_rem, b_eql, b_neq, b_lss, b_leq, b_gtr, b_geq, b_seql, b_sneq, setD, resV, resL, res1, args, List.take_zero, List.drop_zero, List.take_nil, List.take_succ_cons, List.drop_succ_cons, Nat.reduceAdd, Nat.reduceLeDiff, reduceIte, Bool.not_true, Bool.not_false, Bool.false_eq_true, CA_some, Option.some.injEq, Nat.zero_add, Nat.mul_one, Nat.add_zero, setL, List.set_cons_zero, List.set_cons_succ, fillC]
  refine BR_dec (fun hlt => ?_) (fun hlt => ?_)
  · have hix : i < xs.length := by omega
    obtain ⟨bs', hb1, hb2, he⟩ := hblk (by omega)
    clear hblk
    obtain ⟨hidS', hidS⟩ := hid (by omega)
    have hsi := sum_take (g := cnE TRow) (List.getElem?_eq_getElem hix)
    have hsl := sum_le (g := cnE TRow) xs (i + 1)
    have hfit : off + i * 2 + 2 ≤ bs'.length := by
      have := Nat.mul_le_mul_right 2 hix
      rw [Nat.succ_mul] at this
      omega
    have hme : i * 2 + 2 ≤ xs.length * 2 := by
      have := Nat.mul_le_mul_right 2 hix
      rw [Nat.succ_mul] at this
      exact this
    obtain ⟨Si, k1, k2, k3, k4⟩ := he.turn hnd (mkd_get hix)
    rw [part_part hix, hs1] at k1
    obtain ⟨x0, x1, hx⟩ := len_2 k1.size
    rw [hx] at k1
    obtain ⟨pre, post, hpl, rfl⟩ := around hx hfit
    have hat' := hat i hix
    rw [← hpl] at hat'
    have hidlt : id < h'.length := (List.getElem?_eq_some_iff.1 hb1).1
    have hset : ∀ b, (h'.set id b)[id]? = some b := fun b => set_get hidlt
    have hnid : id ∉ Si := fun hm => hidS' (k2 id hm)
    have hoi : Ownd h' Si := ⟨k3, fun j hj => (hw.ownd ho).2 j (hsub j (k2 j hj))⟩
    obtain ⟨p_vs, p_hv, p_q0⟩ := k1.st
    obtain ⟨p_v0, p_r0, p_S0, p_T0, rfl, rfl, p_h0, p_q1⟩ := p_q0.step
    simp only [Ty.size, Ty.sizes, Nat.reduceAdd, Nat.zero_add, List.drop_zero, List.drop_succ_cons, List.take_succ_cons, List.take_zero] at p_h0
    obtain ⟨n0, e0, rfl, rfl, lo0, hi0⟩ := p_h0.int
    simp only [List.cons.injEq, and_true] at e0
    subst e0
    obtain ⟨p_v1, p_r1, p_S1, p_T1, rfl, rfl, p_h1, p_q2⟩ := p_q1.step
    simp only [Ty.size, Ty.sizes, Nat.reduceAdd, Nat.zero_add, List.drop_zero, List.drop_succ_cons, List.take_succ_cons, List.take_zero] at p_h1
    have h1 := p_h1
    obtain ⟨_, rfl, rfl⟩ := p_q2
    have hxi : xs[i] = .r [.i n0, p_v1] := p_hv
    rw [hxi] at hsi
    simp only [List.nil_append, List.append_nil] at k2 k3 hnid hoi k4
    have hcne : cnE TRow (.r [.i n0, p_v1]) = (1 + (cnE (.sl (.int .u8)) p_v1 + 0)) := rfl
    rw [hcne] at hsi
    have o1 := hoi
    have hcs : ∀ ty b, H.cells (h'.set id (.own ty b)) id = some b := fun ty b => cells_own (hset _)
    have hcb : h'.cells id = _ := cells_own hb1
    simp (disch := omega) only [KC_eq, c64, hl, hat', hb1, hset, hcs, hcb, List.set_set, pre_get3, pre_set3, pre_get2, pre_set2, pre_get, pre_get0, pre_set, pre_set0, List.length_append, List.cons_append, List.nil_append, List.length_set, ifT, w64, cnE_sl, cast1, RR, RP, Ty.agg, Ty.size, Ty.sizes, eq_self, ne_eq, not_true, not_false_iff, reduceCtorEq, List.length_cons, List.length_nil, decide_true, decide_false, true_and, and_true, ite_true, ite_false, PT.full, enter0, setAll, forget, Fr.set, Fr.get, PT.get, PT.set, kof, ai, ev, ev1, evp, b_add, b_sub, b_mul, b_quo, b_rem, b_eql, b_neq, b_lss, b_leq, b_gtr, b_geq, b_seql, b_sneq, setD, resV, resL, res1, args, List.take_zero, List.drop_zero, List.take_nil, List.take_succ_cons, List.drop_succ_cons, Nat.reduceAdd, Nat.reduceLeDiff, reduceIte, Bool.not_true, Bool.not_false, Bool.false_eq_true, CA_some, Option.some.injEq, Nat.zero_add, Nat.mul_one, Nat.add_zero, setL, List.set_cons_zero, List.set_cons_succ, fillC]
    have hn1 : id ∉ p_S1 := fun hm => hnid (by simp [hm])
    refine MkOk.go mk_ByteS (h1.set hn1) (Ownd.set o1 hidlt) (k := ((k + ((xs.take i).map (cnE TRow)).sum) + 1)) (by rw [cnE_sl]; omega) (fun g1 w1 z1 => ?_)
    have hb_1 := w1.2.1 id hn1
    simp only [hb1, hset, hcs, hcb] at hb_1
    have hlt_1 : id < g1.length := (List.getElem?_eq_some_iff.1 hb_1).1
    have hset_1 : ∀ b, (g1.set id b)[id]? = some b := fun b => set_get hlt_1
    have hcs_1 : ∀ ty b, H.cells (g1.set id (.own ty b)) id = some b := fun ty b => cells_own (hset_1 _)
    have hcb_1 : g1.cells id = _ := cells_own hb_1
    simp (disch := omega) only [KC_eq, c64, hl, hat', hb_1, hset_1, hcs_1, hcb_1, List.set_set, pre_get3, pre_set3, pre_get2, pre_set2, pre_get, pre_get0, pre_set, pre_set0, List.length_append, List.cons_append, List.nil_append, List.length_set, ifT, w64, cnE_sl, cast1, RR, RP, Ty.agg, Ty.size, Ty.sizes, eq_self, ne_eq, not_true, not_false_iff, reduceCtorEq, List.length_cons, List.length_nil, decide_true, decide_false, true_and, and_true, ite_true, ite_false, PT.full, enter0, setAll, forget, Fr.set, Fr.get, PT.get, PT.set, kof, ai, ev, ev1, evp, b_add, b_sub, b_mul, b_quo, b_rem, b_eql, b_neq, b_lss, b_leq, b_gtr, b_geq, b_seql, b_sneq, setD, resV, resL, res1, args, List.take_zero, List.drop_zero, List.take_nil, List.take_succ_cons, List.drop_succ_cons, Nat.reduceAdd, Nat.reduceLeDiff, reduceIte, Bool.not_true, Bool.not_false, Bool.false_eq_true, CA_some, Option.some.injEq, Nat.zero_add, Nat.mul_one, Nat.add_zero, setL, List.set_cons_zero, List.set_cons_succ, fillC]
    have wF0 : Wrote h' h' (id :: (p_S1)) := Wrote.refl (fun j hj => by
      rcases List.mem_cons.1 hj with rfl | hj
      · exact ⟨_, _, hb1⟩
      · exact hoi.2 j hj)
    have hmkE : mkE TRow xs[i] (k + ((xs.take i).map (cnE TRow)).sum) = .r [.i (IntKind.i64.wrap (((k + ((xs.take i).map (cnE TRow)).sum) : Nat) : Int)), mkE (.sl (.int .u8)) p_v1 (((k + ((xs.take i).map (cnE TRow)).sum) + 1))] := by rw [hxi]; rfl
    simp only [mkE_sl] at z1
    have wF := ((wF0.set (by simp) hidlt).more w1 (fun i hi => by simp [hi]))
    have hnew := Rp.mkSt (Rs.mk (Rp.mkNat (n := (k + ((xs.take i).map (cnE TRow)).sum)) (by omega)) (Rs.mk z1 Rs.nil))
    simp only [List.cons_append, List.nil_append, List.append_nil] at hnew
    rw [← hmkE] at hnew
    have hE := k4 _ _ _ (fun j hj hn => cells_same (wF.2.1 j (fun hm => by
      rcases List.mem_cons.1 hm with rfl | hm
      · exact hidS' hj
      · exact hn hm))) hnew
    rw [mkd_next hix] at hE
    refine ⟨i + 1, xs.length - (i + 1), by omega, ?_, rfl, by omega, hw.more wF (fun j hj => ?_), fun _ => ⟨pre ++ C.int .i64 (((k + ((xs.take i).map (cnE TRow)).sum) : Nat) : Int) :: x1 :: post, by first | exact rfl | exact hb_1, ?_, ?_⟩, fun e => by omega⟩
    · have e1 : k + ((xs.take (i + 1)).map (cnE TRow)).sum = (((k + ((xs.take i).map (cnE TRow)).sum) + 1) + cnE (.sl (.int .u8)) p_v1) := by omega
      rw [e1]
    · rcases List.mem_cons.1 hj with rfl | hj
      · exact hidS
      · exact hsub j (k2 j hj)
    · rw [← hb2]; simp
    · have ht := turned (l := [C.int .i64 n0, x1]) (l' := [C.int .i64 (((k + ((xs.take i).map (cnE TRow)).sum) : Nat) : Int), x1]) (post := post) hpl rfl (m := xs.length * 2) (by simpa using hme)
      rw [hs1] at hE
      rw [← ht] at hE
      exact hE
  · simp (disch := omega) only [c64, RR, RP, Ty.agg, Ty.size, Ty.sizes, eq_self, ne_eq, not_true, not_false_iff, reduceCtorEq, List.length_cons, List.length_nil, decide_true, decide_false, true_and, and_true, ite_true, ite_false, PT.full, enter0, setAll, forget, Fr.set, Fr.get, PT.get, PT.set, kof, ai, ev, ev1, evp, b_add, b_sub, b_mul, b_quo, b_rem, b_eql, b_neq, b_lss, b_leq, b_gtr, b_geq, b_seql, b_sneq, setD, resV, resL, res1, args, List.take_zero, List.drop_zero, List.take_nil, List.take_succ_cons, List.drop_succ_cons, Nat.reduceAdd, Nat.reduceLeDiff, reduceIte, Bool.not_true, Bool.not_false, Bool.false_eq_true, CA_some, Option.some.injEq, Nat.zero_add, Nat.mul_one, Nat.add_zero, setL, List.set_cons_zero, List.set_cons_succ, fillC]
    have hi' : i = xs.length := by omega
    subst hi'
    rw [List.take_length]
    refine ⟨rfl, hw, ?_⟩
    by_cases hp : 0 < xs.length
    · obtain ⟨bs', hb1, hb2, he⟩ := hblk hp
      rw [mkd_all] at he
      refine ⟨_, rfl, ?_, .inr ⟨id, off, bs', S', _, ?_, cells_own hb1, ?_, ?_, ?_, .inl rfl⟩⟩
      · rw [mkL_len]; simp only [maxLen]; omega
      · rw [mkL_len]; rw [(hce hp).2]
      · rw [mkL_len, hb2, hs1]; exact hbs
      · rcases hS with e | ⟨e, _⟩
        · exact e
        · rw [e] at hp; simp at hp
      · rw [mkL_len]; exact he
    · have hx : xs = [] := List.eq_nil_of_length_eq_zero (by omega)
      subst hx
      rw [hz0 rfl]
      exact hv
/-- laws.markTable -/
def c25 : AF := ⟨2, 4, [.tmp 4], (.seq (.ops [.i (.lbox 2 (.s 0)), .i (.mov 4 (.c (.val false [.int .i64 0])))]) (.seq (.ops [.i (.fad 5 (.s 2) 0), .i (.ldl 6 2 (.s 5) 1 false), .i (.mov 7 (.s 1)), .i (.call 9 64 false [(.s 6), (.s 7)]), .i (.mov 1 (.s 8))]) (.seq (.ops [.i (.mov 9 (.s 1)), .i (.mov 4 (.s 9))]) .ret)))⟩
theorem k25 : cd 25 = some c25 := by kernel_rfl
theorem mk_Table : MkOk cd 25 TTable := by
  intro h cs v S k hv ho hk
  obtain ⟨vs, rfl, q0⟩ := hv.st
  obtain ⟨v0, r0, S0, T0, rfl, rfl, h0, q1⟩ := q0.step
  obtain ⟨c0, e0⟩ := h0.one rfl
  rw [e0] at h0
  obtain ⟨_, rfl, rfl⟩ := q1
  have hsz : cs.length = 1 := hv.size
  simp only [Ty.size, Ty.sizes, Nat.reduceAdd, Nat.zero_add, List.drop_zero] at e0 hsz
  have hcn : cnT TTable (.r [v0]) = (cnT (.sl TRow) v0 + 0) := rfl
  have hmk : mkT TTable (.r [v0]) k = .r [mkT (.sl TRow) v0 (k)] := rfl
  rw [hmk]
  rw [hcn] at hk ⊢
  simp only [List.nil_append, List.append_nil] at ho ⊢
  have o0 := ho
  refine WS_enter k25 rfl ?_
  simp (disch := omega) only [KC_eq, c25, e0, hsz, ifT, w64, RR, RP, Ty.agg, Ty.size, Ty.sizes, eq_self, ne_eq, not_true, not_false_iff, reduceCtorEq, List.length_cons, List.length_nil, decide_true, decide_false, true_and, and_true, ite_true, ite_false, PT.full, enter0, setAll, forget, Fr.set, Fr.get, PT.get, PT.set, kof, ai, ev, ev1, evp, b_add, b_sub, b_mul, b_quo, b_rem, b_eql, b_neq, b_lss, b_leq, b_gtr, b_geq, b_seql, b_sneq, setD, resV, resL, res1, args, List.take_zero, List.drop_zero, List.take_nil, List.take_succ_cons, List.drop_succ_cons, Nat.reduceAdd, Nat.reduceLeDiff, reduceIte, Bool.not_true, Bool.not_false, Bool.false_eq_true, CA_some, Option.some.injEq, Nat.zero_add, Nat.mul_one, Nat.add_zero, setL, List.set_cons_zero, List.set_cons_succ, fillC]
  refine MkOk.go mk_RowS h0 o0 (k := k) (by omega) (fun g0 w0 z0 => ?_)
  simp (disch := omega) only [KC_eq, c25, e0, hsz, ifT, w64, RR, RP, Ty.agg, Ty.size, Ty.sizes, eq_self, ne_eq, not_true, not_false_iff, reduceCtorEq, List.length_cons, List.length_nil, decide_true, decide_false, true_and, and_true, ite_true, ite_false, PT.full, enter0, setAll, forget, Fr.set, Fr.get, PT.get, PT.set, kof, ai, ev, ev1, evp, b_add, b_sub, b_mul, b_quo, b_rem, b_eql, b_neq, b_lss, b_leq, b_gtr, b_geq, b_seql, b_sneq, setD, resV, resL, res1, args, List.take_zero, List.drop_zero, List.take_nil, List.take_succ_cons, List.drop_succ_cons, Nat.reduceAdd, Nat.reduceLeDiff, reduceIte, Bool.not_true, Bool.not_false, Bool.false_eq_true, CA_some, Option.some.injEq, Nat.zero_add, Nat.mul_one, Nat.add_zero, setL, List.set_cons_zero, List.set_cons_succ, fillC]
  have fin : Rs g0 [(.sl TRow)] (cs.drop 0) [mkT (.sl TRow) v0 (k)] _ := (Rs.unstep (o := 0) (Rp.cs_at e0 z0) (Rs.fin (Nat.le_of_eq hsz)))
  simp only [List.nil_append, List.append_nil, List.drop_zero] at fin
  have wr := ((Wrote.refl ho.2).more w0 (fun i hi => by simp [hi]))
  first
    | exact ⟨wr, _, rfl, fin⟩
    | (refine ⟨?_, wr, _, rfl, fin⟩
       congr 3
       omega)
/-- laws.markPush -/
def c46 : AF := ⟨2, 4, [.tmp 4], (.seq (.ops [.i (.lbox 2 (.s 0)), .i (.mov 4 (.c (.val false [.int .i64 0])))]) (.seq (.ops [.i (.fad 5 (.s 2) 1), .i (.ldl 6 2 (.s 5) 1 false), .i (.mov 7 (.s 1)), .i (.call 9 26 false [(.s 6), (.s 7)]), .i (.mov 1 (.s 8))]) (.seq (.ops [.i (.mov 9 (.s 1)), .i (.mov 4 (.s 9))]) .ret)))⟩
theorem k46 : cd 46 = some c46 := by kernel_rfl
theorem mk_Push : MkOk cd 46 TPush := by
  intro h cs v S k hv ho hk
  obtain ⟨vs, rfl, q0⟩ := hv.st
  obtain ⟨v0, r0, S0, T0, rfl, rfl, h0, q1⟩ := q0.step
  obtain ⟨n0, e0, rfl, rfl, lo0, hi0⟩ := h0.int
  obtain ⟨v1, r1, S1, T1, rfl, rfl, h1, q2⟩ := q1.step
  obtain ⟨c1, e1⟩ := h1.one rfl
  rw [e1] at h1
  obtain ⟨_, rfl, rfl⟩ := q2
  have hsz : cs.length = 2 := hv.size
  simp only [Ty.size, Ty.sizes, Nat.reduceAdd, Nat.zero_add, List.drop_zero] at e0 e1 hsz
  have hcn : cnT TPush (.r [.i n0, v1]) = (0 + (cnT (.sl (.int .u8)) v1 + 0)) := rfl
  have hmk : mkT TPush (.r [.i n0, v1]) k = .r [.i n0, mkT (.sl (.int .u8)) v1 (k)] := rfl
  rw [hmk]
  rw [hcn] at hk ⊢
  simp only [List.nil_append, List.append_nil] at ho ⊢
  have o1 := ho
  refine WS_enter k46 rfl ?_
  simp (disch := omega) only [KC_eq, c46, e0, e1, hsz, ifT, w64, RR, RP, Ty.agg, Ty.size, Ty.sizes, eq_self, ne_eq, not_true, not_false_iff, reduceCtorEq, List.length_cons, List.length_nil, decide_true, decide_false, true_and, and_true, ite_true, ite_false, PT.full, enter0, setAll, forget, Fr.set, Fr.get, PT.get, PT.set, kof, ai, ev, ev1, evp, b_add, b_sub, b_mul, b_quo, b_rem, b_eql, b_neq, b_lss, b_leq, b_gtr, b_geq, b_seql, b_sneq, setD, resV, resL, res1, args, List.take_zero, List.drop_zero, List.take_nil, List.take_succ_cons, List.drop_succ_cons, Nat.reduceAdd, Nat.reduceLeDiff, reduceIte, Bool.not_true, Bool.not_false, Bool.false_eq_true, CA_some, Option.some.injEq, Nat.zero_add, Nat.mul_one, Nat.add_zero, setL, List.set_cons_zero, List.set_cons_succ, fillC]
  refine MkOk.go mk_ByteS h1 o1 (k := k) (by omega) (fun g1 w1 z1 => ?_)
  simp (disch := omega) only [KC_eq, c46, e0, e1, hsz, ifT, w64, RR, RP, Ty.agg, Ty.size, Ty.sizes, eq_self, ne_eq, not_true, not_false_iff, reduceCtorEq, List.length_cons, List.length_nil, decide_true, decide_false, true_and, and_true, ite_true, ite_false, PT.full, enter0, setAll, forget, Fr.set, Fr.get, PT.get, PT.set, kof, ai, ev, ev1, evp, b_add, b_sub, b_mul, b_quo, b_rem, b_eql, b_neq, b_lss, b_leq, b_gtr, b_geq, b_seql, b_sneq, setD, resV, resL, res1, args, List.take_zero, List.drop_zero, List.take_nil, List.take_succ_cons, List.drop_succ_cons, Nat.reduceAdd, Nat.reduceLeDiff, reduceIte, Bool.not_true, Bool.not_false, Bool.false_eq_true, CA_some, Option.some.injEq, Nat.zero_add, Nat.mul_one, Nat.add_zero, setL, List.set_cons_zero, List.set_cons_succ, fillC]
  have fin : Rs g1 [(.int .i64), (.sl (.int .u8))] (cs.drop 0) [.i n0, mkT (.sl (.int .u8)) v1 (k)] _ := (Rs.unstep (o := 0) (Rp.int_at e0 lo0 hi0) (Rs.unstep (o := 1) (Rp.cs_at e1 z1) (Rs.fin (Nat.le_of_eq hsz))))
  simp only [List.nil_append, List.append_nil, List.drop_zero] at fin
  have wr := ((Wrote.refl ho.2).more w1 (fun i hi => by simp [hi]))
  first
    | exact ⟨wr, _, rfl, fin⟩
    | (refine ⟨?_, wr, _, rfl, fin⟩
       congr 3
       omega)
/-- laws.markByteSS -/
def c69 : AF := ⟨2, 5, [.tmp 4], (.seq (.ops [.i (.mov 4 (.c (.val false [.int .i64 0])))]) (.seq (.seq (.ops [.i (.mov 5 (.c (.val false [.int .i64 0])))]) (.block 0 (.loop [17, 16, 15, 14, 13, 12, 11, 10, 9, 8, 7, 6] (.seq (.seq (.ops [.i (.mov 6 (.s 5)), .i (.mov 7 (.s 0)), .i (.len 8 false (.s 7)), .i (.bin 9 .lss (.s 6) (.s 8))]) (.cond (.s 9) .skip (.exit 0))) (.seq (.block 1 (.ops [.i (.mov 12 (.s 0)), .i (.mov 13 (.s 5)), .i (.iad 14 (.s 12) (.s 13) 1), .i (.ldh 15 (.s 14) 1 false), .i (.mov 16 (.s 1)), .i (.call 18 26 false [(.s 15), (.s 16)]), .i (.mov 1 (.s 17))])) (.ops [.i (.mov 10 (.s 5)), .i (.bin 11 .add (.s 10) (.c (.val false [.int .i64 1]))), .i (.mov 5 (.s 11))])))))) (.seq (.ops [.i (.mov 18 (.s 1)), .i (.mov 4 (.s 18))]) .ret)))⟩
theorem k69 : cd 69 = some c69 := by kernel_rfl
theorem mk_ByteSS : MkOk cd 69 (.sl (.sl (.int .u8))) := mk_sl k69 mk_ByteS
/-- laws.markHeadS -/
def c33 : AF := ⟨2, 7, [.tmp 4], (.seq (.ops [.i (.mov 4 (.c (.val false [.int .i64 0])))]) (.seq (.seq (.ops [.i (.mov 5 (.c (.val false [.int .i64 0])))]) (.block 0 (.loop [86, 85, 84, 83, 82, 81, 80, 79, 78, 77, 76, 75, 74, 73, 72, 71, 70, 69, 68, 67, 66, 65, 64, 63, 62, 61, 60, 59, 58, 57, 56, 55, 54, 53, 52, 51, 50, 49, 48, 47, 46, 45, 44, 43, 42, 41, 40, 39, 38, 37, 36, 35, 34, 33, 32, 31, 30, 29, 28, 27, 26, 25, 24, 23, 22, 21, 20, 19, 18, 17, 16, 15, 14, 13, 12, 11, 10, 9, 8, 7, 6] (.seq (.seq (.ops [.i (.mov 6 (.s 5)), .i (.mov 7 (.s 0)), .i (.len 8 false (.s 7)), .i (.bin 9 .lss (.s 6) (.s 8))]) (.cond (.s 9) .skip (.exit 0))) (.seq (.block 1 (.seq (.ops [.i (.mov 12 (.s 0)), .i (.mov 13 (.s 5)), .i (.mov 14 (.s 1)), .i (.iad 15 (.s 12) (.s 13) 10), .i (.fad 16 (.s 15) 0), .i (.sth (.s 16) (.s 14) 1)]) (.seq (.ops [.i (.mov 17 (.s 1)), .i (.bin 18 .add (.s 17) (.c (.val false [.int .i64 1]))), .i (.mov 1 (.s 18))]) (.seq (.ops [.i (.mov 19 (.s 0)), .i (.mov 20 (.s 5)), .i (.mov 21 (.s 1)), .i (.iad 22 (.s 19) (.s 20) 10), .i (.fad 23 (.s 22) 1), .i (.sth (.s 23) (.s 21) 1)]) (.seq (.ops [.i (.mov 24 (.s 1)), .i (.bin 25 .add (.s 24) (.c (.val false [.int .i64 1]))), .i (.mov 1 (.s 25))]) (.seq (.ops [.i (.mov 26 (.s 0)), .i (.mov 27 (.s 5)), .i (.mov 28 (.s 1)), .i (.iad 29 (.s 26) (.s 27) 10), .i (.fad 30 (.s 29) 2), .i (.sth (.s 30) (.s 28) 1)]) (.seq (.ops [.i (.mov 31 (.s 1)), .i (.bin 32 .add (.s 31) (.c (.val false [.int .i64 1]))), .i (.mov 1 (.s 32))]) (.seq (.ops [.i (.mov 33 (.s 0)), .i (.mov 34 (.s 5)), .i (.iad 35 (.s 33) (.s 34) 10), .i (.fad 36 (.s 35) 3), .i (.ldh 37 (.s 36) 1 false), .i (.mov 38 (.s 1)), .i (.call 40 26 false [(.s 37), (.s 38)]), .i (.mov 1 (.s 39))]) (.seq (.ops [.i (.mov 40 (.s 0)), .i (.mov 41 (.s 5)), .i (.iad 42 (.s 40) (.s 41) 10), .i (.fad 43 (.s 42) 4), .i (.ldh 44 (.s 43) 1 false), .i (.mov 45 (.s 1)), .i (.call 47 26 false [(.s 44), (.s 45)]), .i (.mov 1 (.s 46))]) (.seq (.ops [.i (.mov 47 (.s 0)), .i (.mov 48 (.s 5)), .i (.mov 49 (.s 1)), .i (.iad 50 (.s 47) (.s 48) 10), .i (.fad 51 (.s 50) 5), .i (.fad 52 (.s 51) 0), .i (.sth (.s 52) (.s 49) 1)]) (.seq (.ops [.i (.mov 53 (.s 1)), .i (.bin 54 .add (.s 53) (.c (.val false [.int .i64 1]))), .i (.mov 1 (.s 54))]) (.seq (.ops [.i (.mov 55 (.s 0)), .i (.mov 56 (.s 5)), .i (.mov 57 (.s 1)), .i (.iad 58 (.s 55) (.s 56) 10), .i (.fad 59 (.s 58) 5), .i (.fad 60 (.s 59) 1), .i (.sth (.s 60) (.s 57) 1)]) (.seq (.ops [.i (.mov 61 (.s 1)), .i (.bin 62 .add (.s 61) (.c (.val false [.int .i64 1]))), .i (.mov 1 (.s 62))]) (.seq (.ops [.i (.mov 63 (.s 0)), .i (.mov 64 (.s 5)), .i (.iad 65 (.s 63) (.s 64) 10), .i (.fad 66 (.s 65) 5), .i (.fad 67 (.s 66) 2), .i (.ldh 68 (.s 67) 1 false), .i (.mov 69 (.s 1)), .i (.call 71 26 false [(.s 68), (.s 69)]), .i (.mov 1 (.s 70))]) (.seq (.ops [.i (.mov 71 (.s 0)), .i (.mov 72 (.s 5)), .i (.iad 73 (.s 71) (.s 72) 10), .i (.fad 74 (.s 73) 5), .i (.fad 75 (.s 74) 3), .i (.ldh 76 (.s 75) 1 false), .i (.mov 77 (.s 1)), .i (.call 79 26 false [(.s 76), (.s 77)]), .i (.mov 1 (.s 78))]) (.ops [.i (.mov 79 (.s 0)), .i (.mov 80 (.s 5)), .i (.iad 81 (.s 79) (.s 80) 10), .i (.fad 82 (.s 81) 5), .i (.fad 83 (.s 82) 4), .i (.ldh 84 (.s 83) 1 false), .i (.mov 85 (.s 1)), .i (.call 87 69 false [(.s 84), (.s 85)]), .i (.mov 1 (.s 86))])))))))))))))))) (.ops [.i (.mov 10 (.s 5)), .i (.bin 11 .add (.s 10) (.c (.val false [.int .i64 1]))), .i (.mov 5 (.s 11))])))))) (.seq (.ops [.i (.mov 87 (.s 1)), .i (.mov 4 (.s 87))]) .ret)))⟩
theorem k33 : cd 33 = some c33 := by kernel_rfl
theorem mk_HeadS : MkOk cd 33 (.sl THead) := by
  intro h cs v S k hv ho hk
  obtain ⟨c, xs, id, off, bs, S', rfl, rfl, hm, hl, hat, hce, hbs, hel, hS⟩ := hv.view
  have hcn : cnT (.sl THead) (.l xs) = (xs.map (cnE THead)).sum := rfl
  have hmk : mkT (.sl THead) (.l xs) k = .l (mkL (mkE THead) (cnE THead) xs k) := rfl
  rw [hcn] at hk ⊢
  rw [hmk]
  have hsub : ∀ j ∈ S', j ∈ S := fun j hj => by
    rcases hS with e | ⟨_, _, e⟩
    · rw [e]; simp [hj]
    · rw [e] at hj; cases hj
  have hnd : S'.Nodup := by
    rcases hS with e | ⟨_, _, e⟩
    · have := ho.1
      rw [e] at this
      exact (List.nodup_cons.1 this).2
    · rw [e]; simp
  have hid : 0 < xs.length → id ∉ S' ∧ id ∈ S := fun hp => by
    rcases hS with e | ⟨e, _, _⟩
    · have := ho.1
      rw [e] at this
      exact ⟨(List.nodup_cons.1 this).1, by rw [e]; simp⟩
    · rw [e] at hp; simp at hp
  have hown : ∃ ty, 0 < xs.length → h[id]? = some (.own ty bs) := by
    by_cases hp : 0 < xs.length
    · obtain ⟨ty, cs, e⟩ := ho.2 id (hid hp).2
      have := (hce hp).1
      rw [cells_own e] at this
      cases this
      exact ⟨ty, fun _ => e⟩
    · exact ⟨0, fun e => absurd e hp⟩
  obtain ⟨ty, hty⟩ := hown
  have hs1 : THead.size = 10 := rfl
  rw [hs1] at hat hbs
  refine WS_enter k33 rfl ?_
  simp (disch := omega) only [c33, RR, RP, Ty.agg, Ty.size, Ty.sizes, eq_self, ne_eq, not_true, not_false_iff, reduceCtorEq, List.length_cons, List.length_nil, decide_true, decide_false, true_and, and_true, ite_true, ite_false, PT.full, enter0, setAll, forget, Fr.set, Fr.get, PT.get, PT.set, kof, ai, ev, ev1, evp, b_add, b_sub, b_mul, b_quo, b_rem, b_eql, b_neq, b_lss, b_leq, b_gtr, b_geq, b_seql, b_sneq, setD, resV, resL, res1, args, List.take_zero, List.drop_zero, List.take_nil, List.take_succ_cons, List.drop_succ_cons, Nat.reduceAdd, Nat.reduceLeDiff, reduceIte, Bool.not_true, Bool.not_false, Bool.false_eq_true, CA_some, Option.some.injEq, Nat.zero_add, Nat.mul_one, Nat.add_zero, setL, List.set_cons_zero, List.set_cons_succ, fillC]
  refine WS_loop2 (σ := Nat) (f1 := _) (by simp only [RR, RP, Ty.agg, Ty.size, Ty.sizes, eq_self, ne_eq, not_true, not_false_iff, reduceCtorEq, List.length_cons, List.length_nil, decide_true, decide_false, true_and, and_true, ite_true, ite_false, PT.full, enter0, setAll, forget, Fr.set, Fr.get, PT.get, PT.set, kof, ai, ev, ev1, evp, b_add, b_sub, b_mul, b_quo, b_rem, b_eql, b_neq, b_lss, b_leq, b_gtr, b_geq, b_seql, b_sneq, setD, resV, resL, res1, args, List.take_zero, List.drop_zero, List.take_nil, List.take_succ_cons, List.drop_succ_cons, Nat.reduceAdd, Nat.reduceLeDiff, reduceIte, Bool.not_true, Bool.not_false, Bool.false_eq_true, CA_some, Option.some.injEq, Nat.zero_add, Nat.mul_one, Nat.add_zero, setL, List.set_cons_zero, List.set_cons_succ, fillC]; rfl) (fun i => [(5, .val false [.int .i64 i]), (1, .val false [.int .i64 ((k + ((xs.take i).map (cnE THead)).sum : Nat) : Int)])])
    (fun i g h' => g = xs.length - i ∧ i ≤ xs.length ∧ Wrote h h' S ∧ (0 < xs.length → ∃ bs', h'[id]? = some (.own ty bs') ∧ bs'.length = bs.length ∧ Elems (Rp h' THead) (mkd THead xs k i) ((bs'.drop off).take (xs.length * THead.size)) S') ∧ (i = 0 → h' = h)) 0 xs.length (by simp only [List.take_zero, List.map_nil, List.sum_nil, RR, RP, Ty.agg, Ty.size, Ty.sizes, eq_self, ne_eq, not_true, not_false_iff, reduceCtorEq, List.length_cons, List.length_nil, decide_true, decide_false, true_and, and_true, ite_true, ite_false, PT.full, enter0, setAll, forget, Fr.set, Fr.get, PT.get, PT.set, kof, ai, ev, ev1, evp, b_add, b_sub, b_mul, b_quo, b_rem, b_eql, b_neq, b_lss, b_leq, b_gtr, b_geq, b_seql, b_sneq, setD, resV, resL, res1, args, List.take_zero, List.drop_zero, List.take_nil, List.take_succ_cons, List.drop_succ_cons, Nat.reduceAdd, Nat.reduceLeDiff, reduceIte, Bool.not_true, Bool.not_false, Bool.false_eq_true, CA_some, Option.some.injEq, Nat.zero_add, Nat.mul_one, Nat.add_zero, setL, List.set_cons_zero, List.set_cons_succ, fillC]; rfl)
    ⟨by omega, by omega, Wrote.refl ho.2, fun hp => ⟨bs, hty hp, rfl, by rw [mkd_zero]; exact hel⟩, fun _ => rfl⟩ ?_
  rintro i g h' ⟨hg, hi, hw, hblk, hz0⟩
  simp (disch := omega) only [c33, hl, w64, RR, RP, Ty.agg, Ty.size, Ty.sizes, eq_self, ne_eq, not_true, not_false_iff, reduceCtorEq, List.length_cons, List.length_nil, decide_true, decide_false, true_and, and_true, ite_true, ite_false, PT.full, enter0, setAll, forget, Fr.set, Fr.get, PT.get, PT.set, kof, ai, ev, ev1, evp, b_add, b_sub, b_mul, b_quo, b_rem, b_eql, b_neq, b_lss, b_leq, b_gtr, b_geq, b_seql, b_sneq, setD, resV, resL, res1, args, List.take_zero, List.drop_zero, List.take_nil, List.take_succ_cons, List.drop_succ_cons, Nat.reduceAdd, Nat.reduceLeDiff, reduceIte, Bool.not_true, Bool.not_false, Bool.false_eq_true, CA_some, Option.some.injEq, Nat.zero_add, Nat.mul_one, Nat.add_zero, setL, List.set_cons_zero, List.set_cons_succ, fillC]
  refine BR_dec (fun hlt => ?_) (fun hlt => ?_)
  · have hix : i < xs.length := by omega
    obtain ⟨bs', hb1, hb2, he⟩ := hblk (by omega)
    clear hblk
    obtain ⟨hidS', hidS⟩ := hid (by omega)
    have hsi := sum_take (g := cnE THead) (List.getElem?_eq_getElem hix)
    have hsl := sum_le (g := cnE THead) xs (i + 1)
    have hfit : off + i * 10 + 10 ≤ bs'.length := by
      have := Nat.mul_le_mul_right 10 hix
      rw [Nat.succ_mul] at this
      omega
    have hme : i * 10 + 10 ≤ xs.length * 10 := by
      have := Nat.mul_le_mul_right 10 hix
      rw [Nat.succ_mul] at this
      exact this
    obtain ⟨Si, k1, k2, k3, k4⟩ := he.turn hnd (mkd_get hix)
    rw [part_part hix, hs1] at k1
    obtain ⟨x0, x1, x2, x3, x4, x5, x6, x7, x8, x9, hx⟩ := len_10 k1.size
    rw [hx] at k1
    obtain ⟨pre, post, hpl, rfl⟩ := around hx hfit
    have hat' := hat i hix
    rw [← hpl] at hat'
    have hidlt : id < h'.length := (List.getElem?_eq_some_iff.1 hb1).1
    have hset : ∀ b, (h'.set id b)[id]? = some b := fun b => set_get hidlt
    have hnid : id ∉ Si := fun hm => hidS' (k2 id hm)
    have hoi : Ownd h' Si := ⟨k3, fun j hj => (hw.ownd ho).2 j (hsub j (k2 j hj))⟩
    obtain ⟨p_vs, p_hv, p_q0⟩ := k1.st
    obtain ⟨p_v0, p_r0, p_S0, p_T0, rfl, rfl, p_h0, p_q1⟩ := p_q0.step
    simp only [Ty.size, Ty.sizes, Nat.reduceAdd, Nat.zero_add, List.drop_zero, List.drop_succ_cons, List.take_succ_cons, List.take_zero] at p_h0
    obtain ⟨n0, e0, rfl, rfl, lo0, hi0⟩ := p_h0.int
    simp only [List.cons.injEq, and_true] at e0
    subst e0
    obtain ⟨p_v1, p_r1, p_S1, p_T1, rfl, rfl, p_h1, p_q2⟩ := p_q1.step
    simp only [Ty.size, Ty.sizes, Nat.reduceAdd, Nat.zero_add, List.drop_zero, List.drop_succ_cons, List.take_succ_cons, List.take_zero] at p_h1
    obtain ⟨n1, e1, rfl, rfl, lo1, hi1⟩ := p_h1.int
    simp only [List.cons.injEq, and_true] at e1
    subst e1
    obtain ⟨p_v2, p_r2, p_S2, p_T2, rfl, rfl, p_h2, p_q3⟩ := p_q2.step
    simp only [Ty.size, Ty.sizes, Nat.reduceAdd, Nat.zero_add, List.drop_zero, List.drop_succ_cons, List.take_succ_cons, List.take_zero] at p_h2
    obtain ⟨n2, e2, rfl, rfl, lo2, hi2⟩ := p_h2.int
    simp only [List.cons.injEq, and_true] at e2
    subst e2
    obtain ⟨p_v3, p_r3, p_S3, p_T3, rfl, rfl, p_h3, p_q4⟩ := p_q3.step
    simp only [Ty.size, Ty.sizes, Nat.reduceAdd, Nat.zero_add, List.drop_zero, List.drop_succ_cons, List.take_succ_cons, List.take_zero] at p_h3
    have h3 := p_h3
    obtain ⟨p_v4, p_r4, p_S4, p_T4, rfl, rfl, p_h4, p_q5⟩ := p_q4.step
    simp only [Ty.size, Ty.sizes, Nat.reduceAdd, Nat.zero_add, List.drop_zero, List.drop_succ_cons, List.take_succ_cons, List.take_zero] at p_h4
    have h4 := p_h4
    obtain ⟨p_v5, p_r5, p_S5, p_T5, rfl, rfl, p_h5, p_q6⟩ := p_q5.step
    simp only [Ty.size, Ty.sizes, Nat.reduceAdd, Nat.zero_add, List.drop_zero, List.drop_succ_cons, List.take_succ_cons, List.take_zero] at p_h5
    obtain ⟨p5_vs, p5_hv, p5_q0⟩ := p_h5.st
    obtain ⟨p5_v0, p5_r0, p5_S0, p5_T0, rfl, rfl, p5_h0, p5_q1⟩ := p5_q0.step
    simp only [Ty.size, Ty.sizes, Nat.reduceAdd, Nat.zero_add, List.drop_zero, List.drop_succ_cons, List.take_succ_cons, List.take_zero] at p5_h0
    obtain ⟨n5, e5, rfl, rfl, lo5, hi5⟩ := p5_h0.int
    simp only [List.cons.injEq, and_true] at e5
    subst e5
    obtain ⟨p5_v1, p5_r1, p5_S1, p5_T1, rfl, rfl, p5_h1, p5_q2⟩ := p5_q1.step
    simp only [Ty.size, Ty.sizes, Nat.reduceAdd, Nat.zero_add, List.drop_zero, List.drop_succ_cons, List.take_succ_cons, List.take_zero] at p5_h1
    obtain ⟨n6, e6, rfl, rfl, lo6, hi6⟩ := p5_h1.int
    simp only [List.cons.injEq, and_true] at e6
    subst e6
    obtain ⟨p5_v2, p5_r2, p5_S2, p5_T2, rfl, rfl, p5_h2, p5_q3⟩ := p5_q2.step
    simp only [Ty.size, Ty.sizes, Nat.reduceAdd, Nat.zero_add, List.drop_zero, List.drop_succ_cons, List.take_succ_cons, List.take_zero] at p5_h2
    have h7 := p5_h2
    obtain ⟨p5_v3, p5_r3, p5_S3, p5_T3, rfl, rfl, p5_h3, p5_q4⟩ := p5_q3.step
    simp only [Ty.size, Ty.sizes, Nat.reduceAdd, Nat.zero_add, List.drop_zero, List.drop_succ_cons, List.take_succ_cons, List.take_zero] at p5_h3
    have h8 := p5_h3
    obtain ⟨p5_v4, p5_r4, p5_S4, p5_T4, rfl, rfl, p5_h4, p5_q5⟩ := p5_q4.step
    simp only [Ty.size, Ty.sizes, Nat.reduceAdd, Nat.zero_add, List.drop_zero, List.drop_succ_cons, List.take_succ_cons, List.take_zero] at p5_h4
    have h9 := p5_h4
    obtain ⟨_, rfl, rfl⟩ := p5_q5
    subst p5_hv
    obtain ⟨_, rfl, rfl⟩ := p_q6
    have hxi : xs[i] = .r [.i n0, .i n1, .i n2, p_v3, p_v4, .r [.i n5, .i n6, p5_v2, p5_v3, p5_v4]] := p_hv
    rw [hxi] at hsi
    simp only [List.nil_append, List.append_nil] at k2 k3 hnid hoi k4
    have hcne : cnE THead (.r [.i n0, .i n1, .i n2, p_v3, p_v4, .r [.i n5, .i n6, p5_v2, p5_v3, p5_v4]]) = (1 + (1 + (1 + (cnE (.sl (.int .u8)) p_v3 + (cnE (.sl (.int .u8)) p_v4 + ((1 + (1 + (cnE (.sl (.int .u8)) p5_v2 + (cnE (.sl (.int .u8)) p5_v3 + (cnE (.sl (.sl (.int .u8))) p5_v4 + 0))))) + 0)))))) := rfl
    rw [hcne] at hsi
    obtain ⟨o3, ho3, y3, yy3⟩ := hoi.split
    obtain ⟨o4, ho4, y4, yy4⟩ := ho3.split
    obtain ⟨o7, ho7, y7, yy7⟩ := ho4.split
    obtain ⟨o8, ho8, y8, yy8⟩ := ho7.split
    have o9 := ho8
    have hcs : ∀ ty b, H.cells (h'.set id (.own ty b)) id = some b := fun ty b => cells_own (hset _)
    have hcb : h'.cells id = _ := cells_own hb1
    simp (disch := omega) only [KC_eq, c33, hl, hat', hb1, hset, hcs, hcb, List.set_set, pre_get3, pre_set3, pre_get2, pre_set2, pre_get, pre_get0, pre_set, pre_set0, List.length_append, List.cons_append, List.nil_append, List.length_set, ifT, w64, cnE_sl, cast1, RR, RP, Ty.agg, Ty.size, Ty.sizes, eq_self, ne_eq, not_true, not_false_iff, reduceCtorEq, List.length_cons, List.length_nil, decide_true, decide_false, true_and, and_true, ite_true, ite_false, PT.full, enter0, setAll, forget, Fr.set, Fr.get, PT.get, PT.set, kof, ai, ev, ev1, evp, b_add, b_sub, b_mul, b_quo, b_rem, b_eql, b_neq, b_lss, b_leq, b_gtr, b_geq, b_seql, b_sneq, setD, resV, resL, res1, args, List.take_zero, List.drop_zero, List.take_nil, List.take_succ_cons, List.drop_succ_cons, Nat.reduceAdd, Nat.reduceLeDiff, reduceIte, Bool.not_true, Bool.not_false, Bool.false_eq_true, CA_some, Option.some.injEq, Nat.zero_add, Nat.mul_one, Nat.add_zero, setL, List.set_cons_zero, List.set_cons_succ, fillC]
    have hn3 : id ∉ p_S3 := fun hm => hnid (by simp [hm])
    have hn4 : id ∉ p_S4 := fun hm => hnid (by simp [hm])
    have hn7 : id ∉ p5_S2 := fun hm => hnid (by simp [hm])
    have hn8 : id ∉ p5_S3 := fun hm => hnid (by simp [hm])
    have hn9 : id ∉ p5_S4 := fun hm => hnid (by simp [hm])
    refine MkOk.go mk_ByteS (h3.set hn3) (Ownd.set o3 hidlt) (k := ((((k + ((xs.take i).map (cnE THead)).sum) + 1) + 1) + 1)) (by rw [cnE_sl]; omega) (fun g3 w3 z3 => ?_)
    have hb_3 := w3.2.1 id hn3
    simp only [hb1, hset, hcs, hcb] at hb_3
    have hlt_3 : id < g3.length := (List.getElem?_eq_some_iff.1 hb_3).1
    have hset_3 : ∀ b, (g3.set id b)[id]? = some b := fun b => set_get hlt_3
    have hcs_3 : ∀ ty b, H.cells (g3.set id (.own ty b)) id = some b := fun ty b => cells_own (hset_3 _)
    have hcb_3 : g3.cells id = _ := cells_own hb_3
    simp (disch := omega) only [KC_eq, c33, hl, hat', hb_3, hset_3, hcs_3, hcb_3, List.set_set, pre_get3, pre_set3, pre_get2, pre_set2, pre_get, pre_get0, pre_set, pre_set0, List.length_append, List.cons_append, List.nil_append, List.length_set, ifT, w64, cnE_sl, cast1, RR, RP, Ty.agg, Ty.size, Ty.sizes, eq_self, ne_eq, not_true, not_false_iff, reduceCtorEq, List.length_cons, List.length_nil, decide_true, decide_false, true_and, and_true, ite_true, ite_false, PT.full, enter0, setAll, forget, Fr.set, Fr.get, PT.get, PT.set, kof, ai, ev, ev1, evp, b_add, b_sub, b_mul, b_quo, b_rem, b_eql, b_neq, b_lss, b_leq, b_gtr, b_geq, b_seql, b_sneq, setD, resV, resL, res1, args, List.take_zero, List.drop_zero, List.take_nil, List.take_succ_cons, List.drop_succ_cons, Nat.reduceAdd, Nat.reduceLeDiff, reduceIte, Bool.not_true, Bool.not_false, Bool.false_eq_true, CA_some, Option.some.injEq, Nat.zero_add, Nat.mul_one, Nat.add_zero, setL, List.set_cons_zero, List.set_cons_succ, fillC]
    refine MkOk.go mk_ByteS ((h4.set hn4).wrote w3 (fun i hi => yy3 i (by simp [hi]))) (w3.ownd (Ownd.set o4 hidlt)) (k := (((((k + ((xs.take i).map (cnE THead)).sum) + 1) + 1) + 1) + cnE (.sl (.int .u8)) p_v3)) (by rw [cnE_sl]; omega) (fun g4 w4 z4 => ?_)
    have hb_4 := w4.2.1 id hn4
    simp only [hb_3, hset_3, hcs_3, hcb_3] at hb_4
    have hlt_4 : id < g4.length := (List.getElem?_eq_some_iff.1 hb_4).1
    have hset_4 : ∀ b, (g4.set id b)[id]? = some b := fun b => set_get hlt_4
    have hcs_4 : ∀ ty b, H.cells (g4.set id (.own ty b)) id = some b := fun ty b => cells_own (hset_4 _)
    have hcb_4 : g4.cells id = _ := cells_own hb_4
    simp (disch := omega) only [KC_eq, c33, hl, hat', hb_4, hset_4, hcs_4, hcb_4, List.set_set, pre_get3, pre_set3, pre_get2, pre_set2, pre_get, pre_get0, pre_set, pre_set0, List.length_append, List.cons_append, List.nil_append, List.length_set, ifT, w64, cnE_sl, cast1, RR, RP, Ty.agg, Ty.size, Ty.sizes, eq_self, ne_eq, not_true, not_false_iff, reduceCtorEq, List.length_cons, List.length_nil, decide_true, decide_false, true_and, and_true, ite_true, ite_false, PT.full, enter0, setAll, forget, Fr.set, Fr.get, PT.get, PT.set, kof, ai, ev, ev1, evp, b_add, b_sub, b_mul, b_quo, b_rem, b_eql, b_neq, b_lss, b_leq, b_gtr, b_geq, b_seql, b_sneq, setD, resV, resL, res1, args, List.take_zero, List.drop_zero, List.take_nil, List.take_succ_cons, List.drop_succ_cons, Nat.reduceAdd, Nat.reduceLeDiff, reduceIte, Bool.not_true, Bool.not_false, Bool.false_eq_true, CA_some, Option.some.injEq, Nat.zero_add, Nat.mul_one, Nat.add_zero, setL, List.set_cons_zero, List.set_cons_succ, fillC]
    refine MkOk.go mk_ByteS ((((h7.set hn7).wrote w3 (fun i hi => yy3 i (by simp [hi]))).wrote w4 (fun i hi => yy4 i (by simp [hi]))).set hn7) (Ownd.set (w4.ownd (w3.ownd (Ownd.set o7 hidlt))) hlt_4) (k := ((((((((k + ((xs.take i).map (cnE THead)).sum) + 1) + 1) + 1) + cnE (.sl (.int .u8)) p_v3) + cnE (.sl (.int .u8)) p_v4) + 1) + 1)) (by rw [cnE_sl]; omega) (fun g7 w7 z7 => ?_)
    have hb_7 := w7.2.1 id hn7
    simp only [hb_4, hset_4, hcs_4, hcb_4] at hb_7
    have hlt_7 : id < g7.length := (List.getElem?_eq_some_iff.1 hb_7).1
    have hset_7 : ∀ b, (g7.set id b)[id]? = some b := fun b => set_get hlt_7
    have hcs_7 : ∀ ty b, H.cells (g7.set id (.own ty b)) id = some b := fun ty b => cells_own (hset_7 _)
    have hcb_7 : g7.cells id = _ := cells_own hb_7
    simp (disch := omega) only [KC_eq, c33, hl, hat', hb_7, hset_7, hcs_7, hcb_7, List.set_set, pre_get3, pre_set3, pre_get2, pre_set2, pre_get, pre_get0, pre_set, pre_set0, List.length_append, List.cons_append, List.nil_append, List.length_set, ifT, w64, cnE_sl, cast1, RR, RP, Ty.agg, Ty.size, Ty.sizes, eq_self, ne_eq, not_true, not_false_iff, reduceCtorEq, List.length_cons, List.length_nil, decide_true, decide_false, true_and, and_true, ite_true, ite_false, PT.full, enter0, setAll, forget, Fr.set, Fr.get, PT.get, PT.set, kof, ai, ev, ev1, evp, b_add, b_sub, b_mul, b_quo, b_rem, b_eql, b_neq, b_lss, b_leq, b_gtr, b_geq, b_seql, b_sneq, setD, resV, resL, res1, args, List.take_zero, List.drop_zero, List.take_nil, List.take_succ_cons, List.drop_succ_cons, Nat.reduceAdd, Nat.reduceLeDiff, reduceIte, Bool.not_true, Bool.not_false, Bool.false_eq_true, CA_some, Option.some.injEq, Nat.zero_add, Nat.mul_one, Nat.add_zero, setL, List.set_cons_zero, List.set_cons_succ, fillC]
    refine MkOk.go mk_ByteS (((((h8.set hn8).wrote w3 (fun i hi => yy3 i (by simp [hi]))).wrote w4 (fun i hi => yy4 i (by simp [hi]))).set hn8).wrote w7 (fun i hi => yy7 i (by simp [hi]))) (w7.ownd (Ownd.set (w4.ownd (w3.ownd (Ownd.set o8 hidlt))) hlt_4)) (k := (((((((((k + ((xs.take i).map (cnE THead)).sum) + 1) + 1) + 1) + cnE (.sl (.int .u8)) p_v3) + cnE (.sl (.int .u8)) p_v4) + 1) + 1) + cnE (.sl (.int .u8)) p5_v2)) (by rw [cnE_sl]; omega) (fun g8 w8 z8 => ?_)
    have hb_8 := w8.2.1 id hn8
    simp only [hb_7, hset_7, hcs_7, hcb_7] at hb_8
    have hlt_8 : id < g8.length := (List.getElem?_eq_some_iff.1 hb_8).1
    have hset_8 : ∀ b, (g8.set id b)[id]? = some b := fun b => set_get hlt_8
    have hcs_8 : ∀ ty b, H.cells (g8.set id (.own ty b)) id = some b := fun ty b => cells_own (hset_8 _)
    have hcb_8 : g8.cells id = _ := cells_own hb_8
    simp (disch := omega) only [KC_eq, c33, hl, hat', hb_8, hset_8, hcs_8, hcb_8, List.set_set, pre_get3, pre_set3, pre_get2, pre_set2, pre_get, pre_get0, pre_set, pre_set0, List.length_append, List.cons_append, List.nil_append, List.length_set, ifT, w64, cnE_sl, cast1, RR, RP, Ty.agg, Ty.size, Ty.sizes, eq_self, ne_eq, not_true, not_false_iff, reduceCtorEq, List.length_cons, List.length_nil, decide_true, decide_false, true_and, and_true, ite_true, ite_false, PT.full, enter0, setAll, forget, Fr.set, Fr.get, PT.get, PT.set, kof, ai, ev, ev1, evp, b_add, b_sub, b_mul, b_quo, b_rem, b_eql, b_neq, b_lss, b_leq, b_gtr, b_geq, b_seql, b_sneq, setD, resV, resL, res1, args, List.take_zero, List.drop_zero, List.take_nil, List.take_succ_cons, List.drop_succ_cons, Nat.reduceAdd, Nat.reduceLeDiff, reduceIte, Bool.not_true, Bool.not_false, Bool.false_eq_true, CA_some, Option.some.injEq, Nat.zero_add, Nat.mul_one, Nat.add_zero, setL, List.set_cons_zero, List.set_cons_succ, fillC]
    refine MkOk.go mk_ByteSS ((((((h9.set hn9).wrote w3 (fun i hi => yy3 i (by simp [hi]))).wrote w4 (fun i hi => yy4 i (by simp [hi]))).set hn9).wrote w7 (fun i hi => yy7 i (by simp [hi]))).wrote w8 (fun i hi => yy8 i (by simp [hi]))) (w8.ownd (w7.ownd (Ownd.set (w4.ownd (w3.ownd (Ownd.set o9 hidlt))) hlt_4))) (k := ((((((((((k + ((xs.take i).map (cnE THead)).sum) + 1) + 1) + 1) + cnE (.sl (.int .u8)) p_v3) + cnE (.sl (.int .u8)) p_v4) + 1) + 1) + cnE (.sl (.int .u8)) p5_v2) + cnE (.sl (.int .u8)) p5_v3)) (by rw [cnE_sl]; omega) (fun g9 w9 z9 => ?_)
    have hb_9 := w9.2.1 id hn9
    simp only [hb_8, hset_8, hcs_8, hcb_8] at hb_9
    have hlt_9 : id < g9.length := (List.getElem?_eq_some_iff.1 hb_9).1
    have hset_9 : ∀ b, (g9.set id b)[id]? = some b := fun b => set_get hlt_9
    have hcs_9 : ∀ ty b, H.cells (g9.set id (.own ty b)) id = some b := fun ty b => cells_own (hset_9 _)
    have hcb_9 : g9.cells id = _ := cells_own hb_9
    simp (disch := omega) only [KC_eq, c33, hl, hat', hb_9, hset_9, hcs_9, hcb_9, List.set_set, pre_get3, pre_set3, pre_get2, pre_set2, pre_get, pre_get0, pre_set, pre_set0, List.length_append, List.cons_append, List.nil_append, List.length_set, ifT, w64, cnE_sl, cast1, RR, RP, Ty.agg, Ty.size, Ty.sizes, eq_self, ne_eq, not_true, not_false_iff, reduceCtorEq, List.length_cons, List.length_nil, decide_true, decide_false, true_and, and_true, ite_true, ite_false, PT.full, enter0, setAll, forget, Fr.set, Fr.get, PT.get, PT.set, kof, ai, ev, ev1, evp, b_add, b_sub, b_mul, b_quo, b_rem, b_eql, b_neq, b_lss, b_leq, b_gtr, b_geq, b_seql, b_sneq, setD, resV, resL, res1, args, List.take_zero, List.drop_zero, List.take_nil, List.take_succ_cons, List.drop_succ_cons, Nat.reduceAdd, Nat.reduceLeDiff, reduceIte, Bool.not_true, Bool.not_false, Bool.false_eq_true, CA_some, Option.some.injEq, Nat.zero_add, Nat.mul_one, Nat.add_zero, setL, List.set_cons_zero, List.set_cons_succ, fillC]
    have wF0 : Wrote h' h' (id :: (p_S3 ++ (p_S4 ++ (p5_S2 ++ (p5_S3 ++ (p5_S4)))))) := Wrote.refl (fun j hj => by
      rcases List.mem_cons.1 hj with rfl | hj
      · exact ⟨_, _, hb1⟩
      · exact hoi.2 j hj)
    have hmkE : mkE THead xs[i] (k + ((xs.take i).map (cnE THead)).sum) = .r [.i (IntKind.i64.wrap (((k + ((xs.take i).map (cnE THead)).sum) : Nat) : Int)), .i (IntKind.i64.wrap ((((k + ((xs.take i).map (cnE THead)).sum) + 1) : Nat) : Int)), .i (IntKind.i64.wrap (((((k + ((xs.take i).map (cnE THead)).sum) + 1) + 1) : Nat) : Int)), mkE (.sl (.int .u8)) p_v3 (((((k + ((xs.take i).map (cnE THead)).sum) + 1) + 1) + 1)), mkE (.sl (.int .u8)) p_v4 ((((((k + ((xs.take i).map (cnE THead)).sum) + 1) + 1) + 1) + cnE (.sl (.int .u8)) p_v3)), .r [.i (IntKind.i64.wrap ((((((((k + ((xs.take i).map (cnE THead)).sum) + 1) + 1) + 1) + cnE (.sl (.int .u8)) p_v3) + cnE (.sl (.int .u8)) p_v4) : Nat) : Int)), .i (IntKind.i64.wrap (((((((((k + ((xs.take i).map (cnE THead)).sum) + 1) + 1) + 1) + cnE (.sl (.int .u8)) p_v3) + cnE (.sl (.int .u8)) p_v4) + 1) : Nat) : Int)), mkE (.sl (.int .u8)) p5_v2 (((((((((k + ((xs.take i).map (cnE THead)).sum) + 1) + 1) + 1) + cnE (.sl (.int .u8)) p_v3) + cnE (.sl (.int .u8)) p_v4) + 1) + 1)), mkE (.sl (.int .u8)) p5_v3 ((((((((((k + ((xs.take i).map (cnE THead)).sum) + 1) + 1) + 1) + cnE (.sl (.int .u8)) p_v3) + cnE (.sl (.int .u8)) p_v4) + 1) + 1) + cnE (.sl (.int .u8)) p5_v2)), mkE (.sl (.sl (.int .u8))) p5_v4 (((((((((((k + ((xs.take i).map (cnE THead)).sum) + 1) + 1) + 1) + cnE (.sl (.int .u8)) p_v3) + cnE (.sl (.int .u8)) p_v4) + 1) + 1) + cnE (.sl (.int .u8)) p5_v2) + cnE (.sl (.int .u8)) p5_v3))]] := by rw [hxi]; rfl
    simp only [mkE_sl] at z3 z4 z7 z8 z9
    have wF := (((((((wF0.set (by simp) hidlt).more w3 (fun i hi => by simp [hi])).more w4 (fun i hi => by simp [hi])).set (by simp) hlt_4).more w7 (fun i hi => by simp [hi])).more w8 (fun i hi => by simp [hi])).more w9 (fun i hi => by simp [hi]))
    have hnew := Rp.mkSt (Rs.mk (Rp.mkNat (n := (k + ((xs.take i).map (cnE THead)).sum)) (by omega)) (Rs.mk (Rp.mkNat (n := ((k + ((xs.take i).map (cnE THead)).sum) + 1)) (by omega)) (Rs.mk (Rp.mkNat (n := (((k + ((xs.take i).map (cnE THead)).sum) + 1) + 1)) (by omega)) (Rs.mk (((((z3.wrote w4 (fun i hi hn => y3 i hi (by simp [hn]))).set hn3).wrote w7 (fun i hi hn => y3 i hi (by simp [hn]))).wrote w8 (fun i hi hn => y3 i hi (by simp [hn]))).wrote w9 (fun i hi hn => y3 i hi (by simp [hn]))) (Rs.mk ((((z4.set hn4).wrote w7 (fun i hi hn => y4 i hi (by simp [hn]))).wrote w8 (fun i hi hn => y4 i hi (by simp [hn]))).wrote w9 (fun i hi hn => y4 i hi (by simp [hn]))) (Rs.mk (Rp.mkSt (Rs.mk (Rp.mkNat (n := ((((((k + ((xs.take i).map (cnE THead)).sum) + 1) + 1) + 1) + cnE (.sl (.int .u8)) p_v3) + cnE (.sl (.int .u8)) p_v4)) (by omega)) (Rs.mk (Rp.mkNat (n := (((((((k + ((xs.take i).map (cnE THead)).sum) + 1) + 1) + 1) + cnE (.sl (.int .u8)) p_v3) + cnE (.sl (.int .u8)) p_v4) + 1)) (by omega)) (Rs.mk ((z7.wrote w8 (fun i hi hn => y7 i hi (by simp [hn]))).wrote w9 (fun i hi hn => y7 i hi (by simp [hn]))) (Rs.mk (z8.wrote w9 (fun i hi hn => y8 i hi (by simp [hn]))) (Rs.mk z9 Rs.nil)))))) Rs.nil))))))
    simp only [List.cons_append, List.nil_append, List.append_nil] at hnew
    rw [← hmkE] at hnew
    have hE := k4 _ _ _ (fun j hj hn => cells_same (wF.2.1 j (fun hm => by
      rcases List.mem_cons.1 hm with rfl | hm
      · exact hidS' hj
      · exact hn hm))) hnew
    rw [mkd_next hix] at hE
    refine ⟨i + 1, xs.length - (i + 1), by omega, ?_, rfl, by omega, hw.more wF (fun j hj => ?_), fun _ => ⟨pre ++ C.int .i64 (((k + ((xs.take i).map (cnE THead)).sum) : Nat) : Int) :: C.int .i64 ((((k + ((xs.take i).map (cnE THead)).sum) + 1) : Nat) : Int) :: C.int .i64 (((((k + ((xs.take i).map (cnE THead)).sum) + 1) + 1) : Nat) : Int) :: x3 :: x4 :: C.int .i64 ((((((((k + ((xs.take i).map (cnE THead)).sum) + 1) + 1) + 1) + cnE (.sl (.int .u8)) p_v3) + cnE (.sl (.int .u8)) p_v4) : Nat) : Int) :: C.int .i64 (((((((((k + ((xs.take i).map (cnE THead)).sum) + 1) + 1) + 1) + cnE (.sl (.int .u8)) p_v3) + cnE (.sl (.int .u8)) p_v4) + 1) : Nat) : Int) :: x7 :: x8 :: x9 :: post, by first | exact rfl | exact hb_9, ?_, ?_⟩, fun e => by omega⟩
    · have e1 : k + ((xs.take (i + 1)).map (cnE THead)).sum = (((((((((((k + ((xs.take i).map (cnE THead)).sum) + 1) + 1) + 1) + cnE (.sl (.int .u8)) p_v3) + cnE (.sl (.int .u8)) p_v4) + 1) + 1) + cnE (.sl (.int .u8)) p5_v2) + cnE (.sl (.int .u8)) p5_v3) + cnE (.sl (.sl (.int .u8))) p5_v4) := by omega
      rw [e1]
    · rcases List.mem_cons.1 hj with rfl | hj
      · exact hidS
      · exact hsub j (k2 j hj)
    · rw [← hb2]; simp
    · have ht := turned (l := [C.int .i64 n0, C.int .i64 n1, C.int .i64 n2, x3, x4, C.int .i64 n5, C.int .i64 n6, x7, x8, x9]) (l' := [C.int .i64 (((k + ((xs.take i).map (cnE THead)).sum) : Nat) : Int), C.int .i64 ((((k + ((xs.take i).map (cnE THead)).sum) + 1) : Nat) : Int), C.int .i64 (((((k + ((xs.take i).map (cnE THead)).sum) + 1) + 1) : Nat) : Int), x3, x4, C.int .i64 ((((((((k + ((xs.take i).map (cnE THead)).sum) + 1) + 1) + 1) + cnE (.sl (.int .u8)) p_v3) + cnE (.sl (.int .u8)) p_v4) : Nat) : Int), C.int .i64 (((((((((k + ((xs.take i).map (cnE THead)).sum) + 1) + 1) + 1) + cnE (.sl (.int .u8)) p_v3) + cnE (.sl (.int .u8)) p_v4) + 1) : Nat) : Int), x7, x8, x9]) (post := post) hpl rfl (m := xs.length * 10) (by simpa using hme)
      rw [hs1] at hE
      rw [← ht] at hE
      exact hE
  · simp (disch := omega) only [c33, RR, RP, Ty.agg, Ty.size, Ty.sizes, eq_self, ne_eq, not_true, not_false_iff, reduceCtorEq, List.length_cons, List.length_nil, decide_true, decide_false, true_and, and_true, ite_true, ite_false, PT.full, enter0, setAll, forget, Fr.set, Fr.get, PT.get, PT.set, kof, ai, ev, ev1, evp, b_add, b_sub, b_mul, b_quo, b_rem, b_eql, b_neq, b_lss, b_leq, b_gtr, b_geq, b_seql, b_sneq, setD, resV, resL, res1, args, List.take_zero, List.drop_zero, List.take_nil, List.take_succ_cons, List.drop_succ_cons, Nat.reduceAdd, Nat.reduceLeDiff, reduceIte, Bool.not_true, Bool.not_false, Bool.false_eq_true, CA_some, Option.some.injEq, Nat.zero_add, Nat.mul_one, Nat.add_zero, setL, List.set_cons_zero, List.set_cons_succ, fillC]
    have hi' : i = xs.length := by omega
    subst hi'
    rw [List.take_length]
    refine ⟨rfl, hw, ?_⟩
    by_cases hp : 0 < xs.length
    · obtain ⟨bs', hb1, hb2, he⟩ := hblk hp
      rw [mkd_all] at he
      refine ⟨_, rfl, ?_, .inr ⟨id, off, bs', S', _, ?_, cells_own hb1, ?_, ?_, ?_, .inl rfl⟩⟩
      · rw [mkL_len]; simp only [maxLen]; omega
      · rw [mkL_len]; rw [(hce hp).2]
      · rw [mkL_len, hb2, hs1]; exact hbs
      · rcases hS with e | ⟨e, _⟩
        · exact e
        · rw [e] at hp; simp at hp
      · rw [mkL_len]; exact he
    · have hx : xs = [] := List.eq_nil_of_length_eq_zero (by omega)
      subst hx
      rw [hz0 rfl]
      exact hv
/-- laws.markLight -/
def c12 : AF := ⟨2, 5, [.tmp 4], (.seq (.ops [.i (.lbox 2 (.s 0)), .i (.mov 4 (.c (.val false [.int .i64 0])))]) (.seq (.ops [.i (.fad 5 (.s 2) 5), .i (.ldl 6 2 (.s 5) 1 true), .i (.mov 7 (.s 1)), .i (.call 9 25 false [(.s 6), (.s 7)]), .i (.mov 1 (.s 8))]) (.seq (.ops [.i (.fad 9 (.s 2) 6), .i (.ldl 10 2 (.s 9) 2 true), .i (.mov 11 (.s 1)), .i (.call 13 46 false [(.s 10), (.s 11)]), .i (.mov 1 (.s 12))]) (.seq (.ops [.i (.fad 13 (.s 2) 8), .i (.ldl 14 2 (.s 13) 1 false), .i (.mov 15 (.s 1)), .i (.call 17 33 false [(.s 14), (.s 15)]), .i (.mov 1 (.s 16))]) (.seq (.ops [.i (.mov 17 (.s 1)), .i (.mov 4 (.s 17))]) .ret)))))⟩
theorem k12 : cd 12 = some c12 := by kernel_rfl
theorem mk_Light : MkOk cd 12 TLight := by
  intro h cs v S k hv ho hk
  obtain ⟨vs, rfl, q0⟩ := hv.st
  obtain ⟨v0, r0, S0, T0, rfl, rfl, h0, q1⟩ := q0.step
  obtain ⟨v1, r1, S1, T1, rfl, rfl, h1, q2⟩ := q1.step
  obtain ⟨v2, r2, S2, T2, rfl, rfl, h2, q3⟩ := q2.step
  obtain ⟨v3, r3, S3, T3, rfl, rfl, h3, q4⟩ := q3.step
  obtain ⟨c3, e3⟩ := h3.one rfl
  rw [e3] at h3
  obtain ⟨_, rfl, rfl⟩ := q4
  have hsz : cs.length = 9 := hv.size
  simp only [Ty.size, Ty.sizes, Nat.reduceAdd, Nat.zero_add, List.drop_zero] at e3 hsz h0 h1 h2
  have f0 := cnT_fl TLimits v0 rfl
  have m0 := fun n => mkT_fl TLimits v0 n rfl
  have hcn : cnT TLight (.r [v0, v1, v2, v3]) = (0 + (cnT TTable v1 + (cnT TPush v2 + (cnT (.sl THead) v3 + 0)))) := by rw [show cnT TLight (.r [v0, v1, v2, v3]) = (cnT TLimits v0 + (cnT TTable v1 + (cnT TPush v2 + (cnT (.sl THead) v3 + 0)))) from rfl, f0]
  have hmk : mkT TLight (.r [v0, v1, v2, v3]) k = .r [v0, mkT TTable v1 (k), mkT TPush v2 (k + cnT TTable v1), mkT (.sl THead) v3 (k + cnT TTable v1 + cnT TPush v2)] := by rw [show mkT TLight (.r [v0, v1, v2, v3]) k = .r [mkT TLimits v0 (k), mkT TTable v1 (k + cnT TLimits v0), mkT TPush v2 (k + cnT TLimits v0 + cnT TTable v1), mkT (.sl THead) v3 (k + cnT TLimits v0 + cnT TTable v1 + cnT TPush v2)] from rfl, f0, m0]; rfl
  rw [hmk]
  rw [hcn] at hk ⊢
  obtain ⟨rfl, _⟩ := h0.flh (h' := h) _ rfl
  simp only [List.nil_append, List.append_nil] at ho ⊢
  obtain ⟨o1, ho1, x1, xx1⟩ := ho.split
  obtain ⟨o2, ho2, x2, xx2⟩ := ho1.split
  have o3 := ho2
  refine WS_enter k12 rfl ?_
  simp (disch := omega) only [KC_eq, c12, e3, hsz, ifT, w64, RR, RP, Ty.agg, Ty.size, Ty.sizes, eq_self, ne_eq, not_true, not_false_iff, reduceCtorEq, List.length_cons, List.length_nil, decide_true, decide_false, true_and, and_true, ite_true, ite_false, PT.full, enter0, setAll, forget, Fr.set, Fr.get, PT.get, PT.set, kof, ai, ev, ev1, evp, b_add, b_sub, b_mul, b_quo, b_rem, b_eql, b_neq, b_lss, b_leq, b_gtr, b_geq, b_seql, b_sneq, setD, resV, resL, res1, args, List.take_zero, List.drop_zero, List.take_nil, List.take_succ_cons, List.drop_succ_cons, Nat.reduceAdd, Nat.reduceLeDiff, reduceIte, Bool.not_true, Bool.not_false, Bool.false_eq_true, CA_some, Option.some.injEq, Nat.zero_add, Nat.mul_one, Nat.add_zero, setL, List.set_cons_zero, List.set_cons_succ, fillC]
  refine MkOk.go mk_Table h1 o1 (k := k) (by omega) (fun g1 w1 z1 => ?_)
  simp (disch := omega) only [KC_eq, c12, e3, hsz, ifT, w64, RR, RP, Ty.agg, Ty.size, Ty.sizes, eq_self, ne_eq, not_true, not_false_iff, reduceCtorEq, List.length_cons, List.length_nil, decide_true, decide_false, true_and, and_true, ite_true, ite_false, PT.full, enter0, setAll, forget, Fr.set, Fr.get, PT.get, PT.set, kof, ai, ev, ev1, evp, b_add, b_sub, b_mul, b_quo, b_rem, b_eql, b_neq, b_lss, b_leq, b_gtr, b_geq, b_seql, b_sneq, setD, resV, resL, res1, args, List.take_zero, List.drop_zero, List.take_nil, List.take_succ_cons, List.drop_succ_cons, Nat.reduceAdd, Nat.reduceLeDiff, reduceIte, Bool.not_true, Bool.not_false, Bool.false_eq_true, CA_some, Option.some.injEq, Nat.zero_add, Nat.mul_one, Nat.add_zero, setL, List.set_cons_zero, List.set_cons_succ, fillC]
  refine MkOk.go mk_Push (h2.wrote w1 (fun i hi => xx1 i (by simp [hi]))) (w1.ownd o2) (k := k + cnT TTable v1) (by omega) (fun g2 w2 z2 => ?_)
  simp (disch := omega) only [KC_eq, c12, e3, hsz, ifT, w64, RR, RP, Ty.agg, Ty.size, Ty.sizes, eq_self, ne_eq, not_true, not_false_iff, reduceCtorEq, List.length_cons, List.length_nil, decide_true, decide_false, true_and, and_true, ite_true, ite_false, PT.full, enter0, setAll, forget, Fr.set, Fr.get, PT.get, PT.set, kof, ai, ev, ev1, evp, b_add, b_sub, b_mul, b_quo, b_rem, b_eql, b_neq, b_lss, b_leq, b_gtr, b_geq, b_seql, b_sneq, setD, resV, resL, res1, args, List.take_zero, List.drop_zero, List.take_nil, List.take_succ_cons, List.drop_succ_cons, Nat.reduceAdd, Nat.reduceLeDiff, reduceIte, Bool.not_true, Bool.not_false, Bool.false_eq_true, CA_some, Option.some.injEq, Nat.zero_add, Nat.mul_one, Nat.add_zero, setL, List.set_cons_zero, List.set_cons_succ, fillC]
  refine MkOk.go mk_HeadS ((h3.wrote w1 (fun i hi => xx1 i (by simp [hi]))).wrote w2 (fun i hi => xx2 i (by simp [hi]))) (w2.ownd (w1.ownd o3)) (k := k + cnT TTable v1 + cnT TPush v2) (by omega) (fun g3 w3 z3 => ?_)
  simp (disch := omega) only [KC_eq, c12, e3, hsz, ifT, w64, RR, RP, Ty.agg, Ty.size, Ty.sizes, eq_self, ne_eq, not_true, not_false_iff, reduceCtorEq, List.length_cons, List.length_nil, decide_true, decide_false, true_and, and_true, ite_true, ite_false, PT.full, enter0, setAll, forget, Fr.set, Fr.get, PT.get, PT.set, kof, ai, ev, ev1, evp, b_add, b_sub, b_mul, b_quo, b_rem, b_eql, b_neq, b_lss, b_leq, b_gtr, b_geq, b_seql, b_sneq, setD, resV, resL, res1, args, List.take_zero, List.drop_zero, List.take_nil, List.take_succ_cons, List.drop_succ_cons, Nat.reduceAdd, Nat.reduceLeDiff, reduceIte, Bool.not_true, Bool.not_false, Bool.false_eq_true, CA_some, Option.some.injEq, Nat.zero_add, Nat.mul_one, Nat.add_zero, setL, List.set_cons_zero, List.set_cons_succ, fillC]
  have fin : Rs g3 [TLimits, TTable, TPush, (.sl THead)] (cs.drop 0) [v0, mkT TTable v1 (k), mkT TPush v2 (k + cnT TTable v1), mkT (.sl THead) v3 (k + cnT TTable v1 + cnT TPush v2)] _ := (Rs.unstep (o := 0) (h0.flh _ rfl).2 (Rs.unstep (o := 5) ((z1.wrote w2 (fun i hi hn => x1 i hi (by simp [hn]))).wrote w3 (fun i hi hn => x1 i hi (by simp [hn]))) (Rs.unstep (o := 6) (z2.wrote w3 (fun i hi hn => x2 i hi (by simp [hn]))) (Rs.unstep (o := 8) (Rp.cs_at e3 z3) (Rs.fin (Nat.le_of_eq hsz))))))
  simp only [List.nil_append, List.append_nil, List.drop_zero] at fin
  have wr := ((((Wrote.refl ho.2).more w1 (fun i hi => by simp [hi])).more w2 (fun i hi => by simp [hi])).more w3 (fun i hi => by simp [hi]))
  first
    | exact ⟨wr, _, rfl, fin⟩
    | (refine ⟨?_, wr, _, rfl, fin⟩
       congr 3
       omega)
/-- laws.markQc -/
def c47 : AF := ⟨2, 5, [.tmp 4], (.seq (.ops [.i (.lbox 2 (.s 0)), .i (.mov 4 (.c (.val false [.int .i64 0])))]) (.seq (.ops [.i (.fad 5 (.s 2) 2), .i (.ldl 6 2 (.s 5) 1 false), .i (.mov 7 (.s 1)), .i (.call 9 26 false [(.s 6), (.s 7)]), .i (.mov 1 (.s 8))]) (.seq (.ops [.i (.fad 9 (.s 2) 3), .i (.ldl 10 2 (.s 9) 1 false), .i (.mov 11 (.s 1)), .i (.call 13 26 false [(.s 10), (.s 11)]), .i (.mov 1 (.s 12))]) (.seq (.ops [.i (.fad 13 (.s 2) 4), .i (.ldl 14 2 (.s 13) 1 false), .i (.mov 15 (.s 1)), .i (.call 17 69 false [(.s 14), (.s 15)]), .i (.mov 1 (.s 16))]) (.seq (.ops [.i (.mov 17 (.s 1)), .i (.mov 4 (.s 17))]) .ret)))))⟩
theorem k47 : cd 47 = some c47 := by kernel_rfl
theorem mk_Qc : MkOk cd 47 TQc := by
  intro h cs v S k hv ho hk
  obtain ⟨vs, rfl, q0⟩ := hv.st
  obtain ⟨v0, r0, S0, T0, rfl, rfl, h0, q1⟩ := q0.step
  obtain ⟨n0, e0, rfl, rfl, lo0, hi0⟩ := h0.int
  obtain ⟨v1, r1, S1, T1, rfl, rfl, h1, q2⟩ := q1.step
  obtain ⟨n1, e1, rfl, rfl, lo1, hi1⟩ := h1.int
  obtain ⟨v2, r2, S2, T2, rfl, rfl, h2, q3⟩ := q2.step
  obtain ⟨c2, e2⟩ := h2.one rfl
  rw [e2] at h2
  obtain ⟨v3, r3, S3, T3, rfl, rfl, h3, q4⟩ := q3.step
  obtain ⟨c3, e3⟩ := h3.one rfl
  rw [e3] at h3
  obtain ⟨v4, r4, S4, T4, rfl, rfl, h4, q5⟩ := q4.step
  obtain ⟨c4, e4⟩ := h4.one rfl
  rw [e4] at h4
  obtain ⟨_, rfl, rfl⟩ := q5
  have hsz : cs.length = 5 := hv.size
  simp only [Ty.size, Ty.sizes, Nat.reduceAdd, Nat.zero_add, List.drop_zero] at e0 e1 e2 e3 e4 hsz
  have hcn : cnT TQc (.r [.i n0, .i n1, v2, v3, v4]) = (0 + (0 + (cnT (.sl (.int .u8)) v2 + (cnT (.sl (.int .u8)) v3 + (cnT (.sl (.sl (.int .u8))) v4 + 0))))) := rfl
  have hmk : mkT TQc (.r [.i n0, .i n1, v2, v3, v4]) k = .r [.i n0, .i n1, mkT (.sl (.int .u8)) v2 (k), mkT (.sl (.int .u8)) v3 (k + cnT (.sl (.int .u8)) v2), mkT (.sl (.sl (.int .u8))) v4 (k + cnT (.sl (.int .u8)) v2 + cnT (.sl (.int .u8)) v3)] := rfl
  rw [hmk]
  rw [hcn] at hk ⊢
  simp only [List.nil_append, List.append_nil] at ho ⊢
  obtain ⟨o2, ho2, x2, xx2⟩ := ho.split
  obtain ⟨o3, ho3, x3, xx3⟩ := ho2.split
  have o4 := ho3
  refine WS_enter k47 rfl ?_
  simp (disch := omega) only [KC_eq, c47, e0, e1, e2, e3, e4, hsz, ifT, w64, RR, RP, Ty.agg, Ty.size, Ty.sizes, eq_self, ne_eq, not_true, not_false_iff, reduceCtorEq, List.length_cons, List.length_nil, decide_true, decide_false, true_and, and_true, ite_true, ite_false, PT.full, enter0, setAll, forget, Fr.set, Fr.get, PT.get, PT.set, kof, ai, ev, ev1, evp, b_add, b_sub, b_mul, b_quo, b_rem, b_eql, b_neq, b_lss, b_leq, b_gtr, b_geq, b_seql, b_sneq, setD, resV, resL, res1, args, List.take_zero, List.drop_zero, List.take_nil, List.take_succ_cons, List.drop_succ_cons, Nat.reduceAdd, Nat.reduceLeDiff, reduceIte, Bool.not_true, Bool.not_false, Bool.false_eq_true, CA_some, Option.some.injEq, Nat.zero_add, Nat.mul_one, Nat.add_zero, setL, List.set_cons_zero, List.set_cons_succ, fillC]
  refine MkOk.go mk_ByteS h2 o2 (k := k) (by omega) (fun g2 w2 z2 => ?_)
  simp (disch := omega) only [KC_eq, c47, e0, e1, e2, e3, e4, hsz, ifT, w64, RR, RP, Ty.agg, Ty.size, Ty.sizes, eq_self, ne_eq, not_true, not_false_iff, reduceCtorEq, List.length_cons, List.length_nil, decide_true, decide_false, true_and, and_true, ite_true, ite_false, PT.full, enter0, setAll, forget, Fr.set, Fr.get, PT.get, PT.set, kof, ai, ev, ev1, evp, b_add, b_sub, b_mul, b_quo, b_rem, b_eql, b_neq, b_lss, b_leq, b_gtr, b_geq, b_seql, b_sneq, setD, resV, resL, res1, args, List.take_zero, List.drop_zero, List.take_nil, List.take_succ_cons, List.drop_succ_cons, Nat.reduceAdd, Nat.reduceLeDiff, reduceIte, Bool.not_true, Bool.not_false, Bool.false_eq_true, CA_some, Option.some.injEq, Nat.zero_add, Nat.mul_one, Nat.add_zero, setL, List.set_cons_zero, List.set_cons_succ, fillC]
  refine MkOk.go mk_ByteS (h3.wrote w2 (fun i hi => xx2 i (by simp [hi]))) (w2.ownd o3) (k := k + cnT (.sl (.int .u8)) v2) (by omega) (fun g3 w3 z3 => ?_)
  simp (disch := omega) only [KC_eq, c47, e0, e1, e2, e3, e4, hsz, ifT, w64, RR, RP, Ty.agg, Ty.size, Ty.sizes, eq_self, ne_eq, not_true, not_false_iff, reduceCtorEq, List.length_cons, List.length_nil, decide_true, decide_false, true_and, and_true, ite_true, ite_false, PT.full, enter0, setAll, forget, Fr.set, Fr.get, PT.get, PT.set, kof, ai, ev, ev1, evp, b_add, b_sub, b_mul, b_quo, b_rem, b_eql, b_neq, b_lss, b_leq, b_gtr, b_geq, b_seql, b_sneq, setD, resV, resL, res1, args, List.take_zero, List.drop_zero, List.take_nil, List.take_succ_cons, List.drop_succ_cons, Nat.reduceAdd, Nat.reduceLeDiff, reduceIte, Bool.not_true, Bool.not_false, Bool.false_eq_true, CA_some, Option.some.injEq, Nat.zero_add, Nat.mul_one, Nat.add_zero, setL, List.set_cons_zero, List.set_cons_succ, fillC]
  refine MkOk.go mk_ByteSS ((h4.wrote w2 (fun i hi => xx2 i (by simp [hi]))).wrote w3 (fun i hi => xx3 i (by simp [hi]))) (w3.ownd (w2.ownd o4)) (k := k + cnT (.sl (.int .u8)) v2 + cnT (.sl (.int .u8)) v3) (by omega) (fun g4 w4 z4 => ?_)
  simp (disch := omega) only [KC_eq, c47, e0, e1, e2, e3, e4, hsz, ifT, w64, RR, RP, Ty.agg, Ty.size, Ty.sizes, eq_self, ne_eq, not_true, not_false_iff, reduceCtorEq, List.length_cons, List.length_nil, decide_true, decide_false, true_and, and_true, ite_true, ite_false, PT.full, enter0, setAll, forget, Fr.set, Fr.get, PT.get, PT.set, kof, ai, ev, ev1, evp, b_add, b_sub, b_mul, b_quo, b_rem, b_eql, b_neq, b_lss, b_leq, b_gtr, b_geq, b_seql, b_sneq, setD, resV, resL, res1, args, List.take_zero, List.drop_zero, List.take_nil, List.take_succ_cons, List.drop_succ_cons, Nat.reduceAdd, Nat.reduceLeDiff, reduceIte, Bool.not_true, Bool.not_false, Bool.false_eq_true, CA_some, Option.some.injEq, Nat.zero_add, Nat.mul_one, Nat.add_zero, setL, List.set_cons_zero, List.set_cons_succ, fillC]
  have fin : Rs g4 [(.int .i64), (.int .i64), (.sl (.int .u8)), (.sl (.int .u8)), (.sl (.sl (.int .u8)))] (cs.drop 0) [.i n0, .i n1, mkT (.sl (.int .u8)) v2 (k), mkT (.sl (.int .u8)) v3 (k + cnT (.sl (.int .u8)) v2), mkT (.sl (.sl (.int .u8))) v4 (k + cnT (.sl (.int .u8)) v2 + cnT (.sl (.int .u8)) v3)] _ := (Rs.unstep (o := 0) (Rp.int_at e0 lo0 hi0) (Rs.unstep (o := 1) (Rp.int_at e1 lo1 hi1) (Rs.unstep (o := 2) (Rp.cs_at e2 ((z2.wrote w3 (fun i hi hn => x2 i hi (by simp [hn]))).wrote w4 (fun i hi hn => x2 i hi (by simp [hn])))) (Rs.unstep (o := 3) (Rp.cs_at e3 (z3.wrote w4 (fun i hi hn => x3 i hi (by simp [hn])))) (Rs.unstep (o := 4) (Rp.cs_at e4 z4) (Rs.fin (Nat.le_of_eq hsz)))))))
  simp only [List.nil_append, List.append_nil, List.drop_zero] at fin
  have wr := ((((Wrote.refl ho.2).more w2 (fun i hi => by simp [hi])).more w3 (fun i hi => by simp [hi])).more w4 (fun i hi => by simp [hi]))
  first
    | exact ⟨wr, _, rfl, fin⟩
    | (refine ⟨?_, wr, _, rfl, fin⟩
       congr 3
       omega)
/-- laws.markHead -/
def c13 : AF := ⟨2, 5, [.tmp 4], (.seq (.ops [.i (.lbox 2 (.s 0)), .i (.mov 4 (.c (.val false [.int .i64 0])))]) (.seq (.ops [.i (.fad 5 (.s 2) 3), .i (.ldl 6 2 (.s 5) 1 false), .i (.mov 7 (.s 1)), .i (.call 9 26 false [(.s 6), (.s 7)]), .i (.mov 1 (.s 8))]) (.seq (.ops [.i (.fad 9 (.s 2) 4), .i (.ldl 10 2 (.s 9) 1 false), .i (.mov 11 (.s 1)), .i (.call 13 26 false [(.s 10), (.s 11)]), .i (.mov 1 (.s 12))]) (.seq (.ops [.i (.fad 13 (.s 2) 5), .i (.ldl 14 2 (.s 13) 5 true), .i (.mov 15 (.s 1)), .i (.call 17 47 false [(.s 14), (.s 15)]), .i (.mov 1 (.s 16))]) (.seq (.ops [.i (.mov 17 (.s 1)), .i (.mov 4 (.s 17))]) .ret)))))⟩
theorem k13 : cd 13 = some c13 := by kernel_rfl
end Go.Eng.U
set_option maxRecDepth 100000
set_option linter.unusedSimpArgs false
set_option linter.unusedVariables false
namespace Go.Eng.U
theorem mk_Head : MkOk cd 13 THead := by
  intro h cs v S k hv ho hk
  obtain ⟨vs, rfl, q0⟩ := hv.st
  obtain ⟨v0, r0, S0, T0, rfl, rfl, h0, q1⟩ := q0.step
  obtain ⟨n0, e0, rfl, rfl, lo0, hi0⟩ := h0.int
  obtain ⟨v1, r1, S1, T1, rfl, rfl, h1, q2⟩ := q1.step
  obtain ⟨n1, e1, rfl, rfl, lo1, hi1⟩ := h1.int
  obtain ⟨v2, r2, S2, T2, rfl, rfl, h2, q3⟩ := q2.step
  obtain ⟨n2, e2, rfl, rfl, lo2, hi2⟩ := h2.int
  obtain ⟨v3, r3, S3, T3, rfl, rfl, h3, q4⟩ := q3.step
  obtain ⟨c3, e3⟩ := h3.one rfl
  rw [e3] at h3
  obtain ⟨v4, r4, S4, T4, rfl, rfl, h4, q5⟩ := q4.step
  obtain ⟨c4, e4⟩ := h4.one rfl
  rw [e4] at h4
  obtain ⟨v5, r5, S5, T5, rfl, rfl, h5, q6⟩ := q5.step
  obtain ⟨_, rfl, rfl⟩ := q6
  have hsz : cs.length = 10 := hv.size
  simp only [Ty.size, Ty.sizes, Nat.reduceAdd, Nat.zero_add, List.drop_zero] at e0 e1 e2 e3 e4 hsz h5
  have hcn : cnT THead (.r [.i n0, .i n1, .i n2, v3, v4, v5]) = (0 + (0 + (0 + (cnT (.sl (.int .u8)) v3 + (cnT (.sl (.int .u8)) v4 + (cnT TQc v5 + 0)))))) := rfl
  have hmk : mkT THead (.r [.i n0, .i n1, .i n2, v3, v4, v5]) k = .r [.i n0, .i n1, .i n2, mkT (.sl (.int .u8)) v3 (k), mkT (.sl (.int .u8)) v4 (k + cnT (.sl (.int .u8)) v3), mkT TQc v5 (k + cnT (.sl (.int .u8)) v3 + cnT (.sl (.int .u8)) v4)] := rfl
  rw [hmk]
  rw [hcn] at hk ⊢
  simp only [List.nil_append, List.append_nil] at ho ⊢
  obtain ⟨o3, ho3, x3, xx3⟩ := ho.split
  obtain ⟨o4, ho4, x4, xx4⟩ := ho3.split
  have o5 := ho4
  refine WS_enter k13 rfl ?_
  simp (disch := omega) only [KC_eq, c13, e0, e1, e2, e3, e4, hsz, ifT, w64, RR, RP, Ty.agg, Ty.size, Ty.sizes, eq_self, ne_eq, not_true, not_false_iff, reduceCtorEq, List.length_cons, List.length_nil, decide_true, decide_false, true_and, and_true, ite_true, ite_false, PT.full, enter0, setAll, forget, Fr.set, Fr.get, PT.get, PT.set, kof, ai, ev, ev1, evp, b_add, b_sub, b_mul, b_quo, b_rem, b_eql, b_neq, b_lss, b_leq, b_gtr, b_geq, b_seql, b_sneq, setD, resV, resL, res1, args, List.take_zero, List.drop_zero, List.take_nil, List.take_succ_cons, List.drop_succ_cons, Nat.reduceAdd, Nat.reduceLeDiff, reduceIte, Bool.not_true, Bool.not_false, Bool.false_eq_true, CA_some, Option.some.injEq, Nat.zero_add, Nat.mul_one, Nat.add_zero, setL, List.set_cons_zero, List.set_cons_succ, fillC]
  refine MkOk.go mk_ByteS h3 o3 (k := k) (by omega) (fun g3 w3 z3 => ?_)
  simp (disch := omega) only [KC_eq, c13, e0, e1, e2, e3, e4, hsz, ifT, w64, RR, RP, Ty.agg, Ty.size, Ty.sizes, eq_self, ne_eq, not_true, not_false_iff, reduceCtorEq, List.length_cons, List.length_nil, decide_true, decide_false, true_and, and_true, ite_true, ite_false, PT.full, enter0, setAll, forget, Fr.set, Fr.get, PT.get, PT.set, kof, ai, ev, ev1, evp, b_add, b_sub, b_mul, b_quo, b_rem, b_eql, b_neq, b_lss, b_leq, b_gtr, b_geq, b_seql, b_sneq, setD, resV, resL, res1, args, List.take_zero, List.drop_zero, List.take_nil, List.take_succ_cons, List.drop_succ_cons, Nat.reduceAdd, Nat.reduceLeDiff, reduceIte, Bool.not_true, Bool.not_false, Bool.false_eq_true, CA_some, Option.some.injEq, Nat.zero_add, Nat.mul_one, Nat.add_zero, setL, List.set_cons_zero, List.set_cons_succ, fillC]
  refine MkOk.go mk_ByteS (h4.wrote w3 (fun i hi => xx3 i (by simp [hi]))) (w3.ownd o4) (k := k + cnT (.sl (.int .u8)) v3) (by omega) (fun g4 w4 z4 => ?_)
  simp (disch := omega) only [KC_eq, c13, e0, e1, e2, e3, e4, hsz, ifT, w64, RR, RP, Ty.agg, Ty.size, Ty.sizes, eq_self, ne_eq, not_true, not_false_iff, reduceCtorEq, List.length_cons, List.length_nil, decide_true, decide_false, true_and, and_true, ite_true, ite_false, PT.full, enter0, setAll, forget, Fr.set, Fr.get, PT.get, PT.set, kof, ai, ev, ev1, evp, b_add, b_sub, b_mul, b_quo, b_rem, b_eql, b_neq, b_lss, b_leq, b_gtr, b_geq, b_seql, b_sneq, setD, resV, resL, res1, args, List.take_zero, List.drop_zero, List.take_nil, List.take_succ_cons, List.drop_succ_cons, Nat.reduceAdd, Nat.reduceLeDiff, reduceIte, Bool.not_true, Bool.not_false, Bool.false_eq_true, CA_some, Option.some.injEq, Nat.zero_add, Nat.mul_one, Nat.add_zero, setL, List.set_cons_zero, List.set_cons_succ, fillC]
  refine MkOk.go mk_Qc ((h5.wrote w3 (fun i hi => xx3 i (by simp [hi]))).wrote w4 (fun i hi => xx4 i (by simp [hi]))) (w4.ownd (w3.ownd o5)) (k := k + cnT (.sl (.int .u8)) v3 + cnT (.sl (.int .u8)) v4) (by omega) (fun g5 w5 z5 => ?_)
  simp (disch := omega) only [KC_eq, c13, e0, e1, e2, e3, e4, hsz, ifT, w64, RR, RP, Ty.agg, Ty.size, Ty.sizes, eq_self, ne_eq, not_true, not_false_iff, reduceCtorEq, List.length_cons, List.length_nil, decide_true, decide_false, true_and, and_true, ite_true, ite_false, PT.full, enter0, setAll, forget, Fr.set, Fr.get, PT.get, PT.set, kof, ai, ev, ev1, evp, b_add, b_sub, b_mul, b_quo, b_rem, b_eql, b_neq, b_lss, b_leq, b_gtr, b_geq, b_seql, b_sneq, setD, resV, resL, res1, args, List.take_zero, List.drop_zero, List.take_nil, List.take_succ_cons, List.drop_succ_cons, Nat.reduceAdd, Nat.reduceLeDiff, reduceIte, Bool.not_true, Bool.not_false, Bool.false_eq_true, CA_some, Option.some.injEq, Nat.zero_add, Nat.mul_one, Nat.add_zero, setL, List.set_cons_zero, List.set_cons_succ, fillC]
  have fin : Rs g5 [(.int .i64), (.int .i64), (.int .i64), (.sl (.int .u8)), (.sl (.int .u8)), TQc] (cs.drop 0) [.i n0, .i n1, .i n2, mkT (.sl (.int .u8)) v3 (k), mkT (.sl (.int .u8)) v4 (k + cnT (.sl (.int .u8)) v3), mkT TQc v5 (k + cnT (.sl (.int .u8)) v3 + cnT (.sl (.int .u8)) v4)] _ := (Rs.unstep (o := 0) (Rp.int_at e0 lo0 hi0) (Rs.unstep (o := 1) (Rp.int_at e1 lo1 hi1) (Rs.unstep (o := 2) (Rp.int_at e2 lo2 hi2) (Rs.unstep (o := 3) (Rp.cs_at e3 ((z3.wrote w4 (fun i hi hn => x3 i hi (by simp [hn]))).wrote w5 (fun i hi hn => x3 i hi (by simp [hn])))) (Rs.unstep (o := 4) (Rp.cs_at e4 (z4.wrote w5 (fun i hi hn => x4 i hi (by simp [hn])))) (Rs.unstep (o := 5) z5 (Rs.fin (Nat.le_of_eq hsz))))))))
  simp only [List.nil_append, List.append_nil, List.drop_zero] at fin
  have wr := ((((Wrote.refl ho.2).more w3 (fun i hi => by simp [hi])).more w4 (fun i hi => by simp [hi])).more w5 (fun i hi => by simp [hi]))
  first
    | exact ⟨wr, _, rfl, fin⟩
    | (refine ⟨?_, wr, _, rfl, fin⟩
       congr 3
       omega)
/-- laws.heldByteS -/
def c48 : AF := ⟨2, 5, [.tmp 4], (.seq (.ops [.i (.mov 4 (.c (.val false [.int .i64 0])))]) (.seq (.seq (.ops [.i (.mov 5 (.c (.val false [.int .i64 0])))]) (.block 0 (.loop [20, 19, 18, 17, 16, 15, 14, 13, 12, 11, 10, 9, 8, 7, 6] (.seq (.seq (.ops [.i (.mov 6 (.s 5)), .i (.mov 7 (.s 0)), .i (.len 8 false (.s 7)), .i (.bin 9 .lss (.s 6) (.s 8))]) (.cond (.s 9) .skip (.exit 0))) (.seq (.block 1 (.seq (.seq (.ops [.i (.mov 12 (.s 0)), .i (.mov 13 (.s 5)), .i (.iad 14 (.s 12) (.s 13) 1), .i (.ldh 15 (.s 14) 1 false), .i (.mov 16 (.s 1)), .i (.cvi 17 .u8 (.s 16)), .i (.bin 18 .neq (.s 15) (.s 17))]) (.cond (.s 18) (.seq (.ops [.i (.mov 4 (.c (.val false [.int .i64 (-1)])))]) .ret) .skip)) (.ops [.i (.mov 19 (.s 1)), .i (.bin 20 .add (.s 19) (.c (.val false [.int .i64 1]))), .i (.mov 1 (.s 20))]))) (.ops [.i (.mov 10 (.s 5)), .i (.bin 11 .add (.s 10) (.c (.val false [.int .i64 1]))), .i (.mov 5 (.s 11))])))))) (.seq (.ops [.i (.mov 21 (.s 1)), .i (.mov 4 (.s 21))]) .ret)))⟩
theorem k48 : cd 48 = some c48 := by kernel_rfl
theorem hd_ByteS : HdOk cd 48 (.sl (.int .u8)) := hd_leaf k48
/-- laws.heldByteSS -/
def c80 : AF := ⟨2, 5, [.tmp 4], (.seq (.ops [.i (.mov 4 (.c (.val false [.int .i64 0])))]) (.seq (.seq (.ops [.i (.mov 5 (.c (.val false [.int .i64 0])))]) (.block 0 (.loop [19, 18, 17, 16, 15, 14, 13, 12, 11, 10, 9, 8, 7, 6] (.seq (.seq (.ops [.i (.mov 6 (.s 5)), .i (.mov 7 (.s 0)), .i (.len 8 false (.s 7)), .i (.bin 9 .lss (.s 6) (.s 8))]) (.cond (.s 9) .skip (.exit 0))) (.seq (.block 1 (.seq (.ops [.i (.mov 12 (.s 0)), .i (.mov 13 (.s 5)), .i (.iad 14 (.s 12) (.s 13) 1), .i (.ldh 15 (.s 14) 1 false), .i (.mov 16 (.s 1)), .i (.call 18 48 false [(.s 15), (.s 16)]), .i (.mov 1 (.s 17))]) (.seq (.ops [.i (.mov 18 (.s 1)), .i (.bin 19 .lss (.s 18) (.c (.val false [.int .i64 0])))]) (.cond (.s 19) (.seq (.ops [.i (.mov 4 (.c (.val false [.int .i64 (-1)])))]) .ret) .skip)))) (.ops [.i (.mov 10 (.s 5)), .i (.bin 11 .add (.s 10) (.c (.val false [.int .i64 1]))), .i (.mov 5 (.s 11))])))))) (.seq (.ops [.i (.mov 20 (.s 1)), .i (.mov 4 (.s 20))]) .ret)))⟩
theorem k80 : cd 80 = some c80 := by kernel_rfl
theorem hd_ByteSS : HdOk cd 80 (.sl (.sl (.int .u8))) := hd_sl k80 hd_ByteS
/-- laws.heldQc -/
def c49 : AF := ⟨2, 5, [.tmp 4], (.seq (.ops [.i (.lbox 2 (.s 0)), .i (.mov 4 (.c (.val false [.int .i64 0])))]) (.seq (.ops [.i (.fad 5 (.s 2) 2), .i (.ldl 6 2 (.s 5) 1 false), .i (.mov 7 (.s 1)), .i (.call 9 48 false [(.s 6), (.s 7)]), .i (.mov 1 (.s 8))]) (.seq (.seq (.ops [.i (.mov 9 (.s 1)), .i (.bin 10 .lss (.s 9) (.c (.val false [.int .i64 0])))]) (.cond (.s 10) (.seq (.ops [.i (.mov 4 (.c (.val false [.int .i64 (-1)])))]) .ret) .skip)) (.seq (.ops [.i (.fad 11 (.s 2) 3), .i (.ldl 12 2 (.s 11) 1 false), .i (.mov 13 (.s 1)), .i (.call 15 48 false [(.s 12), (.s 13)]), .i (.mov 1 (.s 14))]) (.seq (.seq (.ops [.i (.mov 15 (.s 1)), .i (.bin 16 .lss (.s 15) (.c (.val false [.int .i64 0])))]) (.cond (.s 16) (.seq (.ops [.i (.mov 4 (.c (.val false [.int .i64 (-1)])))]) .ret) .skip)) (.seq (.ops [.i (.fad 17 (.s 2) 4), .i (.ldl 18 2 (.s 17) 1 false), .i (.mov 19 (.s 1)), .i (.call 21 80 false [(.s 18), (.s 19)]), .i (.mov 1 (.s 20))]) (.seq (.seq (.ops [.i (.mov 21 (.s 1)), .i (.bin 22 .lss (.s 21) (.c (.val false [.int .i64 0])))]) (.cond (.s 22) (.seq (.ops [.i (.mov 4 (.c (.val false [.int .i64 (-1)])))]) .ret) .skip)) (.seq (.ops [.i (.mov 23 (.s 1)), .i (.mov 4 (.s 23))]) .ret))))))))⟩
theorem k49 : cd 49 = some c49 := by kernel_rfl
theorem hd_Qc : HdOk cd 49 TQc := by
  intro h cs v S k hT hv hk
  obtain ⟨h0_, cs0, S0_, hT⟩ := hT
  obtain ⟨wvs, rfl, wq0⟩ := hT.st
  obtain ⟨wv0, wr0, wS0, wT0, rfl, rfl, wh0, wq1⟩ := wq0.step
  obtain ⟨wn0, we0, rfl, rfl, wlo0, whi0⟩ := wh0.int
  obtain ⟨wv1, wr1, wS1, wT1, rfl, rfl, wh1, wq2⟩ := wq1.step
  obtain ⟨wn1, we1, rfl, rfl, wlo1, whi1⟩ := wh1.int
  obtain ⟨wv2, wr2, wS2, wT2, rfl, rfl, wh2, wq3⟩ := wq2.step
  obtain ⟨wc2, we2⟩ := wh2.one rfl
  rw [we2] at wh2
  obtain ⟨wv3, wr3, wS3, wT3, rfl, rfl, wh3, wq4⟩ := wq3.step
  obtain ⟨wc3, we3⟩ := wh3.one rfl
  rw [we3] at wh3
  obtain ⟨wv4, wr4, wS4, wT4, rfl, rfl, wh4, wq5⟩ := wq4.step
  obtain ⟨wc4, we4⟩ := wh4.one rfl
  rw [we4] at wh4
  obtain ⟨_, rfl, rfl⟩ := wq5
  have whsz : cs0.length = 5 := hT.size
  have hcn : cnT TQc (.r [.i wn0, .i wn1, wv2, wv3, wv4]) = (0 + (0 + (cnT (.sl (.int .u8)) wv2 + (cnT (.sl (.int .u8)) wv3 + (cnT (.sl (.sl (.int .u8))) wv4 + 0))))) := rfl
  have hmk : mkT TQc (.r [.i wn0, .i wn1, wv2, wv3, wv4]) k = .r [.i wn0, .i wn1, mkT (.sl (.int .u8)) wv2 (k), mkT (.sl (.int .u8)) wv3 (k + cnT (.sl (.int .u8)) wv2), mkT (.sl (.sl (.int .u8))) wv4 (k + cnT (.sl (.int .u8)) wv2 + cnT (.sl (.int .u8)) wv3)] := rfl
  rw [hmk] at hv
  rw [hcn] at hk ⊢
  obtain ⟨vs, hvs, q0⟩ := hv.st
  simp only [Tv.r.injEq] at hvs
  subst hvs
  obtain ⟨v0, r0, S0, T0, hv0, hS0, h0, q1⟩ := q0.step
  obtain ⟨rfl, rfl⟩ := List.cons.inj hv0
  obtain ⟨n0, e0, _, _, _, _⟩ := h0.int
  obtain ⟨v1, r1, S1, T1, hv1, hS1, h1, q2⟩ := q1.step
  obtain ⟨rfl, rfl⟩ := List.cons.inj hv1
  obtain ⟨n1, e1, _, _, _, _⟩ := h1.int
  obtain ⟨v2, r2, S2, T2, hv2, hS2, h2, q3⟩ := q2.step
  obtain ⟨rfl, rfl⟩ := List.cons.inj hv2
  obtain ⟨c2, e2⟩ := h2.one rfl
  rw [e2] at h2
  obtain ⟨v3, r3, S3, T3, hv3, hS3, h3, q4⟩ := q3.step
  obtain ⟨rfl, rfl⟩ := List.cons.inj hv3
  obtain ⟨c3, e3⟩ := h3.one rfl
  rw [e3] at h3
  obtain ⟨v4, r4, S4, T4, hv4, hS4, h4, q5⟩ := q4.step
  obtain ⟨rfl, rfl⟩ := List.cons.inj hv4
  obtain ⟨c4, e4⟩ := h4.one rfl
  rw [e4] at h4
  have hsz : cs.length = 5 := hv.size
  simp only [Ty.size, Ty.sizes, Nat.reduceAdd, Nat.zero_add, List.drop_zero] at e0 e1 e2 e3 e4 hsz
  refine WS_enter k49 rfl ?_
  simp (disch := omega) only [KC_eq, c49, e0, e1, e2, e3, e4, hsz, ifT, w64, RR, RP, Ty.agg, Ty.size, Ty.sizes, eq_self, ne_eq, not_true, not_false_iff, reduceCtorEq, List.length_cons, List.length_nil, decide_true, decide_false, true_and, and_true, ite_true, ite_false, PT.full, enter0, setAll, forget, Fr.set, Fr.get, PT.get, PT.set, kof, ai, ev, ev1, evp, b_add, b_sub, b_mul, b_quo, b_rem, b_eql, b_neq, b_lss, b_leq, b_gtr, b_geq, b_seql, b_sneq, setD, resV, resL, res1, args, List.take_zero, List.drop_zero, List.take_nil, List.take_succ_cons, List.drop_succ_cons, Nat.reduceAdd, Nat.reduceLeDiff, reduceIte, Bool.not_true, Bool.not_false, Bool.false_eq_true, CA_some, Option.some.injEq, Nat.zero_add, Nat.mul_one, Nat.add_zero, setL, List.set_cons_zero, List.set_cons_succ, fillC]
  refine HdOk.go hd_ByteS ⟨_, _, _, wh2⟩ h2 (k := k) (by omega) ?_
  simp (disch := omega) only [KC_eq, c49, e0, e1, e2, e3, e4, hsz, ifT, w64, RR, RP, Ty.agg, Ty.size, Ty.sizes, eq_self, ne_eq, not_true, not_false_iff, reduceCtorEq, List.length_cons, List.length_nil, decide_true, decide_false, true_and, and_true, ite_true, ite_false, PT.full, enter0, setAll, forget, Fr.set, Fr.get, PT.get, PT.set, kof, ai, ev, ev1, evp, b_add, b_sub, b_mul, b_quo, b_rem, b_eql, b_neq, b_lss, b_leq, b_gtr, b_geq, b_seql, b_sneq, setD, resV, resL, res1, args, List.take_zero, List.drop_zero, List.take_nil, List.take_succ_cons, List.drop_succ_cons, Nat.reduceAdd, Nat.reduceLeDiff, reduceIte, Bool.not_true, Bool.not_false, Bool.false_eq_true, CA_some, Option.some.injEq, Nat.zero_add, Nat.mul_one, Nat.add_zero, setL, List.set_cons_zero, List.set_cons_succ, fillC]
  refine BR_dec (fun hn => absurd hn (by omega)) (fun hn => ?_)
  simp (disch := omega) only [KC_eq, c49, e0, e1, e2, e3, e4, hsz, ifT, w64, RR, RP, Ty.agg, Ty.size, Ty.sizes, eq_self, ne_eq, not_true, not_false_iff, reduceCtorEq, List.length_cons, List.length_nil, decide_true, decide_false, true_and, and_true, ite_true, ite_false, PT.full, enter0, setAll, forget, Fr.set, Fr.get, PT.get, PT.set, kof, ai, ev, ev1, evp, b_add, b_sub, b_mul, b_quo, b_rem, b_eql, b_neq, b_lss, b_leq, b_gtr, b_geq, b_seql, b_sneq, setD, resV, resL, res1, args, List.take_zero, List.drop_zero, List.take_nil, List.take_succ_cons, List.drop_succ_cons, Nat.reduceAdd, Nat.reduceLeDiff, reduceIte, Bool.not_true, Bool.not_false, Bool.false_eq_true, CA_some, Option.some.injEq, Nat.zero_add, Nat.mul_one, Nat.add_zero, setL, List.set_cons_zero, List.set_cons_succ, fillC]
  refine HdOk.go hd_ByteS ⟨_, _, _, wh3⟩ h3 (k := k + cnT (.sl (.int .u8)) wv2) (by omega) ?_
  simp (disch := omega) only [KC_eq, c49, e0, e1, e2, e3, e4, hsz, ifT, w64, RR, RP, Ty.agg, Ty.size, Ty.sizes, eq_self, ne_eq, not_true, not_false_iff, reduceCtorEq, List.length_cons, List.length_nil, decide_true, decide_false, true_and, and_true, ite_true, ite_false, PT.full, enter0, setAll, forget, Fr.set, Fr.get, PT.get, PT.set, kof, ai, ev, ev1, evp, b_add, b_sub, b_mul, b_quo, b_rem, b_eql, b_neq, b_lss, b_leq, b_gtr, b_geq, b_seql, b_sneq, setD, resV, resL, res1, args, List.take_zero, List.drop_zero, List.take_nil, List.take_succ_cons, List.drop_succ_cons, Nat.reduceAdd, Nat.reduceLeDiff, reduceIte, Bool.not_true, Bool.not_false, Bool.false_eq_true, CA_some, Option.some.injEq, Nat.zero_add, Nat.mul_one, Nat.add_zero, setL, List.set_cons_zero, List.set_cons_succ, fillC]
  refine BR_dec (fun hn => absurd hn (by omega)) (fun hn => ?_)
  simp (disch := omega) only [KC_eq, c49, e0, e1, e2, e3, e4, hsz, ifT, w64, RR, RP, Ty.agg, Ty.size, Ty.sizes, eq_self, ne_eq, not_true, not_false_iff, reduceCtorEq, List.length_cons, List.length_nil, decide_true, decide_false, true_and, and_true, ite_true, ite_false, PT.full, enter0, setAll, forget, Fr.set, Fr.get, PT.get, PT.set, kof, ai, ev, ev1, evp, b_add, b_sub, b_mul, b_quo, b_rem, b_eql, b_neq, b_lss, b_leq, b_gtr, b_geq, b_seql, b_sneq, setD, resV, resL, res1, args, List.take_zero, List.drop_zero, List.take_nil, List.take_succ_cons, List.drop_succ_cons, Nat.reduceAdd, Nat.reduceLeDiff, reduceIte, Bool.not_true, Bool.not_false, Bool.false_eq_true, CA_some, Option.some.injEq, Nat.zero_add, Nat.mul_one, Nat.add_zero, setL, List.set_cons_zero, List.set_cons_succ, fillC]
  refine HdOk.go hd_ByteSS ⟨_, _, _, wh4⟩ h4 (k := k + cnT (.sl (.int .u8)) wv2 + cnT (.sl (.int .u8)) wv3) (by omega) ?_
  simp (disch := omega) only [KC_eq, c49, e0, e1, e2, e3, e4, hsz, ifT, w64, RR, RP, Ty.agg, Ty.size, Ty.sizes, eq_self, ne_eq, not_true, not_false_iff, reduceCtorEq, List.length_cons, List.length_nil, decide_true, decide_false, true_and, and_true, ite_true, ite_false, PT.full, enter0, setAll, forget, Fr.set, Fr.get, PT.get, PT.set, kof, ai, ev, ev1, evp, b_add, b_sub, b_mul, b_quo, b_rem, b_eql, b_neq, b_lss, b_leq, b_gtr, b_geq, b_seql, b_sneq, setD, resV, resL, res1, args, List.take_zero, List.drop_zero, List.take_nil, List.take_succ_cons, List.drop_succ_cons, Nat.reduceAdd, Nat.reduceLeDiff, reduceIte, Bool.not_true, Bool.not_false, Bool.false_eq_true, CA_some, Option.some.injEq, Nat.zero_add, Nat.mul_one, Nat.add_zero, setL, List.set_cons_zero, List.set_cons_succ, fillC]
  refine BR_dec (fun hn => absurd hn (by omega)) (fun hn => ?_)
  simp (disch := omega) only [KC_eq, c49, e0, e1, e2, e3, e4, hsz, ifT, w64, RR, RP, Ty.agg, Ty.size, Ty.sizes, eq_self, ne_eq, not_true, not_false_iff, reduceCtorEq, List.length_cons, List.length_nil, decide_true, decide_false, true_and, and_true, ite_true, ite_false, PT.full, enter0, setAll, forget, Fr.set, Fr.get, PT.get, PT.set, kof, ai, ev, ev1, evp, b_add, b_sub, b_mul, b_quo, b_rem, b_eql, b_neq, b_lss, b_leq, b_gtr, b_geq, b_seql, b_sneq, setD, resV, resL, res1, args, List.take_zero, List.drop_zero, List.take_nil, List.take_succ_cons, List.drop_succ_cons, Nat.reduceAdd, Nat.reduceLeDiff, reduceIte, Bool.not_true, Bool.not_false, Bool.false_eq_true, CA_some, Option.some.injEq, Nat.zero_add, Nat.mul_one, Nat.add_zero, setL, List.set_cons_zero, List.set_cons_succ, fillC]
  all_goals congr 3
  all_goals omega
/-- laws.heldHead -/
def c14 : AF := ⟨2, 5, [.tmp 4], (.seq (.ops [.i (.lbox 2 (.s 0)), .i (.mov 4 (.c (.val false [.int .i64 0])))]) (.seq (.ops [.i (.fad 5 (.s 2) 3), .i (.ldl 6 2 (.s 5) 1 false), .i (.mov 7 (.s 1)), .i (.call 9 48 false [(.s 6), (.s 7)]), .i (.mov 1 (.s 8))]) (.seq (.seq (.ops [.i (.mov 9 (.s 1)), .i (.bin 10 .lss (.s 9) (.c (.val false [.int .i64 0])))]) (.cond (.s 10) (.seq (.ops [.i (.mov 4 (.c (.val false [.int .i64 (-1)])))]) .ret) .skip)) (.seq (.ops [.i (.fad 11 (.s 2) 4), .i (.ldl 12 2 (.s 11) 1 false), .i (.mov 13 (.s 1)), .i (.call 15 48 false [(.s 12), (.s 13)]), .i (.mov 1 (.s 14))]) (.seq (.seq (.ops [.i (.mov 15 (.s 1)), .i (.bin 16 .lss (.s 15) (.c (.val false [.int .i64 0])))]) (.cond (.s 16) (.seq (.ops [.i (.mov 4 (.c (.val false [.int .i64 (-1)])))]) .ret) .skip)) (.seq (.ops [.i (.fad 17 (.s 2) 5), .i (.ldl 18 2 (.s 17) 5 true), .i (.mov 19 (.s 1)), .i (.call 21 49 false [(.s 18), (.s 19)]), .i (.mov 1 (.s 20))]) (.seq (.seq (.ops [.i (.mov 21 (.s 1)), .i (.bin 22 .lss (.s 21) (.c (.val false [.int .i64 0])))]) (.cond (.s 22) (.seq (.ops [.i (.mov 4 (.c (.val false [.int .i64 (-1)])))]) .ret) .skip)) (.seq (.ops [.i (.mov 23 (.s 1)), .i (.mov 4 (.s 23))]) .ret))))))))⟩
theorem k14 : cd 14 = some c14 := by kernel_rfl
theorem hd_Head : HdOk cd 14 THead := by
  intro h cs v S k hT hv hk
  obtain ⟨h0_, cs0, S0_, hT⟩ := hT
  obtain ⟨wvs, rfl, wq0⟩ := hT.st
  obtain ⟨wv0, wr0, wS0, wT0, rfl, rfl, wh0, wq1⟩ := wq0.step
  obtain ⟨wn0, we0, rfl, rfl, wlo0, whi0⟩ := wh0.int
  obtain ⟨wv1, wr1, wS1, wT1, rfl, rfl, wh1, wq2⟩ := wq1.step
  obtain ⟨wn1, we1, rfl, rfl, wlo1, whi1⟩ := wh1.int
  obtain ⟨wv2, wr2, wS2, wT2, rfl, rfl, wh2, wq3⟩ := wq2.step
  obtain ⟨wn2, we2, rfl, rfl, wlo2, whi2⟩ := wh2.int
  obtain ⟨wv3, wr3, wS3, wT3, rfl, rfl, wh3, wq4⟩ := wq3.step
  obtain ⟨wc3, we3⟩ := wh3.one rfl
  rw [we3] at wh3
  obtain ⟨wv4, wr4, wS4, wT4, rfl, rfl, wh4, wq5⟩ := wq4.step
  obtain ⟨wc4, we4⟩ := wh4.one rfl
  rw [we4] at wh4
  obtain ⟨wv5, wr5, wS5, wT5, rfl, rfl, wh5, wq6⟩ := wq5.step
  obtain ⟨_, rfl, rfl⟩ := wq6
  have whsz : cs0.length = 10 := hT.size
  have hcn : cnT THead (.r [.i wn0, .i wn1, .i wn2, wv3, wv4, wv5]) = (0 + (0 + (0 + (cnT (.sl (.int .u8)) wv3 + (cnT (.sl (.int .u8)) wv4 + (cnT TQc wv5 + 0)))))) := rfl
  have hmk : mkT THead (.r [.i wn0, .i wn1, .i wn2, wv3, wv4, wv5]) k = .r [.i wn0, .i wn1, .i wn2, mkT (.sl (.int .u8)) wv3 (k), mkT (.sl (.int .u8)) wv4 (k + cnT (.sl (.int .u8)) wv3), mkT TQc wv5 (k + cnT (.sl (.int .u8)) wv3 + cnT (.sl (.int .u8)) wv4)] := rfl
  rw [hmk] at hv
  rw [hcn] at hk ⊢
  obtain ⟨vs, hvs, q0⟩ := hv.st
  simp only [Tv.r.injEq] at hvs
  subst hvs
  obtain ⟨v0, r0, S0, T0, hv0, hS0, h0, q1⟩ := q0.step
  obtain ⟨rfl, rfl⟩ := List.cons.inj hv0
  obtain ⟨n0, e0, _, _, _, _⟩ := h0.int
  obtain ⟨v1, r1, S1, T1, hv1, hS1, h1, q2⟩ := q1.step
  obtain ⟨rfl, rfl⟩ := List.cons.inj hv1
  obtain ⟨n1, e1, _, _, _, _⟩ := h1.int
  obtain ⟨v2, r2, S2, T2, hv2, hS2, h2, q3⟩ := q2.step
  obtain ⟨rfl, rfl⟩ := List.cons.inj hv2
  obtain ⟨n2, e2, _, _, _, _⟩ := h2.int
  obtain ⟨v3, r3, S3, T3, hv3, hS3, h3, q4⟩ := q3.step
  obtain ⟨rfl, rfl⟩ := List.cons.inj hv3
  obtain ⟨c3, e3⟩ := h3.one rfl
  rw [e3] at h3
  obtain ⟨v4, r4, S4, T4, hv4, hS4, h4, q5⟩ := q4.step
  obtain ⟨rfl, rfl⟩ := List.cons.inj hv4
  obtain ⟨c4, e4⟩ := h4.one rfl
  rw [e4] at h4
  obtain ⟨v5, r5, S5, T5, hv5, hS5, h5, q6⟩ := q5.step
  obtain ⟨rfl, rfl⟩ := List.cons.inj hv5
  have hsz : cs.length = 10 := hv.size
  simp only [Ty.size, Ty.sizes, Nat.reduceAdd, Nat.zero_add, List.drop_zero] at e0 e1 e2 e3 e4 hsz h5
  refine WS_enter k14 rfl ?_
  simp (disch := omega) only [KC_eq, c14, e0, e1, e2, e3, e4, hsz, ifT, w64, RR, RP, Ty.agg, Ty.size, Ty.sizes, eq_self, ne_eq, not_true, not_false_iff, reduceCtorEq, List.length_cons, List.length_nil, decide_true, decide_false, true_and, and_true, ite_true, ite_false, PT.full, enter0, setAll, forget, Fr.set, Fr.get, PT.get, PT.set, kof, ai, ev, ev1, evp, b_add, b_sub, b_mul, b_quo, b_rem, b_eql, b_neq, b_lss, b_leq, b_gtr, b_geq, b_seql, b_sneq, setD, resV, resL, res1, args, List.take_zero, List.drop_zero, List.take_nil, List.take_succ_cons, List.drop_succ_cons, Nat.reduceAdd, Nat.reduceLeDiff, reduceIte, Bool.not_true, Bool.not_false, Bool.false_eq_true, CA_some, Option.some.injEq, Nat.zero_add, Nat.mul_one, Nat.add_zero, setL, List.set_cons_zero, List.set_cons_succ, fillC]
  refine HdOk.go hd_ByteS ⟨_, _, _, wh3⟩ h3 (k := k) (by omega) ?_
  simp (disch := omega) only [KC_eq, c14, e0, e1, e2, e3, e4, hsz, ifT, w64, RR, RP, Ty.agg, Ty.size, Ty.sizes, eq_self, ne_eq, not_true, not_false_iff, reduceCtorEq, List.length_cons, List.length_nil, decide_true, decide_false, true_and, and_true, ite_true, ite_false, PT.full, enter0, setAll, forget, Fr.set, Fr.get, PT.get, PT.set, kof, ai, ev, ev1, evp, b_add, b_sub, b_mul, b_quo, b_rem, b_eql, b_neq, b_lss, b_leq, b_gtr, b_geq, b_seql, b_sneq, setD, resV, resL, res1, args, List.take_zero, List.drop_zero, List.take_nil, List.take_succ_cons, List.drop_succ_cons, Nat.reduceAdd, Nat.reduceLeDiff, reduceIte, Bool.not_true, Bool.not_false, Bool.false_eq_true, CA_some, Option.some.injEq, Nat.zero_add, Nat.mul_one, Nat.add_zero, setL, List.set_cons_zero, List.set_cons_succ, fillC]
  refine BR_dec (fun hn => absurd hn (by omega)) (fun hn => ?_)
  simp (disch := omega) only [KC_eq, c14, e0, e1, e2, e3, e4, hsz, ifT, w64, RR, RP, Ty.agg, Ty.size, Ty.sizes, eq_self, ne_eq, not_true, not_false_iff, reduceCtorEq, List.length_cons, List.length_nil, decide_true, decide_false, true_and, and_true, ite_true, ite_false, PT.full, enter0, setAll, forget, Fr.set, Fr.get, PT.get, PT.set, kof, ai, ev, ev1, evp, b_add, b_sub, b_mul, b_quo, b_rem, b_eql, b_neq, b_lss, b_leq, b_gtr, b_geq, b_seql, b_sneq, setD, resV, resL, res1, args, List.take_zero, List.drop_zero, List.take_nil, List.take_succ_cons, List.drop_succ_cons, Nat.reduceAdd, Nat.reduceLeDiff, reduceIte, Bool.not_true, Bool.not_false, Bool.false_eq_true, CA_some, Option.some.injEq, Nat.zero_add, Nat.mul_one, Nat.add_zero, setL, List.set_cons_zero, List.set_cons_succ, fillC]
  refine HdOk.go hd_ByteS ⟨_, _, _, wh4⟩ h4 (k := k + cnT (.sl (.int .u8)) wv3) (by omega) ?_
  simp (disch := omega) only [KC_eq, c14, e0, e1, e2, e3, e4, hsz, ifT, w64, RR, RP, Ty.agg, Ty.size, Ty.sizes, eq_self, ne_eq, not_true, not_false_iff, reduceCtorEq, List.length_cons, List.length_nil, decide_true, decide_false, true_and, and_true, ite_true, ite_false, PT.full, enter0, setAll, forget, Fr.set, Fr.get, PT.get, PT.set, kof, ai, ev, ev1, evp, b_add, b_sub, b_mul, b_quo, b_rem, b_eql, b_neq, b_lss, b_leq, b_gtr, b_geq, b_seql, b_sneq, setD, resV, resL, res1, args, List.take_zero, List.drop_zero, List.take_nil, List.take_succ_cons, List.drop_succ_cons, Nat.reduceAdd, Nat.reduceLeDiff, reduceIte, Bool.not_true, Bool.not_false, Bool.false_eq_true, CA_some, Option.some.injEq, Nat.zero_add, Nat.mul_one, Nat.add_zero, setL, List.set_cons_zero, List.set_cons_succ, fillC]
  refine BR_dec (fun hn => absurd hn (by omega)) (fun hn => ?_)
  simp (disch := omega) only [KC_eq, c14, e0, e1, e2, e3, e4, hsz, ifT, w64, RR, RP, Ty.agg, Ty.size, Ty.sizes, eq_self, ne_eq, not_true, not_false_iff, reduceCtorEq, List.length_cons, List.length_nil, decide_true, decide_false, true_and, and_true, ite_true, ite_false, PT.full, enter0, setAll, forget, Fr.set, Fr.get, PT.get, PT.set, kof, ai, ev, ev1, evp, b_add, b_sub, b_mul, b_quo, b_rem, b_eql, b_neq, b_lss, b_leq, b_gtr, b_geq, b_seql, b_sneq, setD, resV, resL, res1, args, List.take_zero, List.drop_zero, List.take_nil, List.take_succ_cons, List.drop_succ_cons, Nat.reduceAdd, Nat.reduceLeDiff, reduceIte, Bool.not_true, Bool.not_false, Bool.false_eq_true, CA_some, Option.some.injEq, Nat.zero_add, Nat.mul_one, Nat.add_zero, setL, List.set_cons_zero, List.set_cons_succ, fillC]
  refine HdOk.go hd_Qc ⟨_, _, _, wh5⟩ h5 (k := k + cnT (.sl (.int .u8)) wv3 + cnT (.sl (.int .u8)) wv4) (by omega) ?_
  simp (disch := omega) only [KC_eq, c14, e0, e1, e2, e3, e4, hsz, ifT, w64, RR, RP, Ty.agg, Ty.size, Ty.sizes, eq_self, ne_eq, not_true, not_false_iff, reduceCtorEq, List.length_cons, List.length_nil, decide_true, decide_false, true_and, and_true, ite_true, ite_false, PT.full, enter0, setAll, forget, Fr.set, Fr.get, PT.get, PT.set, kof, ai, ev, ev1, evp, b_add, b_sub, b_mul, b_quo, b_rem, b_eql, b_neq, b_lss, b_leq, b_gtr, b_geq, b_seql, b_sneq, setD, resV, resL, res1, args, List.take_zero, List.drop_zero, List.take_nil, List.take_succ_cons, List.drop_succ_cons, Nat.reduceAdd, Nat.reduceLeDiff, reduceIte, Bool.not_true, Bool.not_false, Bool.false_eq_true, CA_some, Option.some.injEq, Nat.zero_add, Nat.mul_one, Nat.add_zero, setL, List.set_cons_zero, List.set_cons_succ, fillC]
  refine BR_dec (fun hn => absurd hn (by omega)) (fun hn => ?_)
  simp (disch := omega) only [KC_eq, c14, e0, e1, e2, e3, e4, hsz, ifT, w64, RR, RP, Ty.agg, Ty.size, Ty.sizes, eq_self, ne_eq, not_true, not_false_iff, reduceCtorEq, List.length_cons, List.length_nil, decide_true, decide_false, true_and, and_true, ite_true, ite_false, PT.full, enter0, setAll, forget, Fr.set, Fr.get, PT.get, PT.set, kof, ai, ev, ev1, evp, b_add, b_sub, b_mul, b_quo, b_rem, b_eql, b_neq, b_lss, b_leq, b_gtr, b_geq, b_seql, b_sneq, setD, resV, resL, res1, args, List.take_zero, List.drop_zero, List.take_nil, List.take_succ_cons, List.drop_succ_cons, Nat.reduceAdd, Nat.reduceLeDiff, reduceIte, Bool.not_true, Bool.not_false, Bool.false_eq_true, CA_some, Option.some.injEq, Nat.zero_add, Nat.mul_one, Nat.add_zero, setL, List.set_cons_zero, List.set_cons_succ, fillC]
  all_goals congr 3
  all_goals omega
end Go.Eng.U
set_option maxRecDepth 100000
set_option linter.unusedSimpArgs false
set_option linter.unusedVariables false
namespace Go.Eng.U
open Go.Eng.F (Light Head known zeroHead)
/-- laws.FnExactKnown -/
def c3 : AF := ⟨2, 7, [.tmp 4], (.seq (.ops [.i (.lbox 2 (.s 0)), .i (.mov 4 (.c (.val false [.bool false])))]) (.seq (.ops [.i (.mov 5 (.c (.val false [.int .i64 1048576])))]) (.seq (.ops [.i (.ldl 16 2 (.s 2) 9 true), .i (.mov 17 (.s 5)), .i (.call 19 6 false [(.s 16), (.s 17)]), .i (.mov 5 (.s 18))]) (.seq (.seq (.ops [.i (.mov 19 (.s 5)), .i (.bin 20 .lss (.s 19) (.c (.val false [.int .i64 0])))]) (.cond (.s 20) (.seq (.ops [.i (.mov 4 (.c (.val false [.bool true])))]) .ret) .skip)) (.seq (.ops [.i (.ldl 22 2 (.s 2) 9 true), .i (.call 24 8 false [(.s 22)]), .i (.mov 24 (.s 1)), .i (.call 26 7 false [(.s 23), (.s 24)]), .i (.mov 21 (.s 25)), .i (.ext 26 (.s 21) 0), .i (.ext 27 (.s 21) 1), .i (.lal 6 [.int .i64 0, .int .i64 0, .int .i64 0, .nils, .nils, .int .i64 0, .int .i64 0, .nils, .nils, .nils]), .i (.stl 6 (.s 6) (.s 26) 10), .i (.mov 7 (.s 27))]) (.seq (.ops [.i (.ldl 28 2 (.s 2) 9 true), .i (.call 30 8 false [(.s 28)]), .i (.lal 8 [.int .i64 0, .int .i64 0, .int .i64 0, .int .i64 0, .int .i64 0, .nils, .int .i64 0, .nils, .nils]), .i (.stl 8 (.s 8) (.s 29) 9)]) (.seq (.ops [.i (.ldl 31 8 (.s 8) 9 true), .i (.mov 32 (.s 1)), .i (.call 34 9 false [(.s 31), (.s 32)]), .i (.mov 30 (.s 33)), .i (.ext 34 (.s 30) 0), .i (.ext 35 (.s 30) 1), .i (.lal 9 [.int .i64 0, .int .i64 0, .int .i64 0, .nils, .nils, .int .i64 0, .int .i64 0, .nils, .nils, .nils]), .i (.stl 9 (.s 9) (.s 34) 10), .i (.mov 10 (.s 35))]) (.seq (.seq (.ops [.i (.ldl 36 9 (.s 9) 10 true), .i (.ldl 37 6 (.s 6) 10 true), .i (.call 39 10 false [(.s 36), (.s 37)]), .i (.not 39 (.s 38)), .i (.mov 40 (.s 39)), .g 40 false 42 (.mov 41 (.s 10)), .g 40 false 43 (.mov 42 (.s 7)), .g 40 false 44 (.beq 43 true (.s 41) (.s 42)), .i (.pick 44 (.s 40) (.c (.val false [.bool true])) (.s 43))]) (.cond (.s 44) (.seq (.ops [.i (.mov 4 (.c (.val false [.bool false])))]) .ret) .skip)) (.seq (.seq (.ops [.i (.ldl 45 8 (.s 8) 9 true), .i (.ldl 46 2 (.s 2) 9 true), .i (.call 48 8 false [(.s 46)]), .i (.call 49 11 false [(.s 45), (.s 47)]), .i (.not 49 (.s 48))]) (.cond (.s 49) (.seq (.ops [.i (.mov 4 (.c (.val false [.bool false])))]) .ret) .skip)) (.seq (.ops [.i (.mov 11 (.c (.val false [.int .i64 1])))]) (.seq (.ops [.i (.ldl 50 8 (.s 8) 9 true), .i (.mov 51 (.s 11)), .i (.call 53 12 false [(.s 50), (.s 51)]), .i (.mov 11 (.s 52))]) (.seq (.seq (.ops [.i (.mov 53 (.s 11)), .i (.bin 54 .lss (.s 53) (.c (.val false [.int .i64 0]))), .i (.mov 55 (.s 54)), .g 55 false 57 (.ldl 56 9 (.s 9) 10 true), .g 55 false 58 (.ldl 57 6 (.s 6) 10 true), .g 55 false 59 (.call 59 10 false [(.s 56), (.s 57)]), .g 55 false 60 (.not 59 (.s 58)), .i (.pick 60 (.s 55) (.c (.val false [.bool true])) (.s 59)), .i (.mov 61 (.s 60)), .g 61 false 63 (.mov 62 (.s 10)), .g 61 false 64 (.mov 63 (.s 7)), .g 61 false 65 (.beq 64 true (.s 62) (.s 63)), .i (.pick 65 (.s 61) (.c (.val false [.bool true])) (.s 64))]) (.cond (.s 65) (.seq (.ops [.i (.mov 4 (.c (.val false [.bool false])))]) .ret) .skip)) (.seq (.ops [.i (.mov 12 (.c (.val false [.int .i64 1])))]) (.seq (.ops [.i (.ldl 66 9 (.s 9) 10 true), .i (.mov 67 (.s 12)), .i (.call 69 13 false [(.s 66), (.s 67)]), .i (.mov 12 (.s 68))]) (.seq (.ops [.i (.mov 13 (.c (.val false [.int .i64 1])))]) (.seq (.ops [.i (.ldl 69 9 (.s 9) 10 true), .i (.mov 70 (.s 13)), .i (.call 72 14 false [(.s 69), (.s 70)]), .i (.mov 13 (.s 71))]) (.seq (.seq (.ops [.i (.mov 72 (.s 13)), .i (.bin 73 .lss (.s 72) (.c (.val false [.int .i64 0])))]) (.cond (.s 73) (.seq (.ops [.i (.mov 4 (.c (.val false [.bool false])))]) .ret) .skip)) (.seq (.seq (.ops [.i (.mov 74 (.s 13)), .i (.mov 75 (.s 12)), .i (.bin 76 .neq (.s 74) (.s 75))]) (.cond (.s 76) (.seq (.ops [.i (.mov 4 (.c (.val false [.bool false])))]) .ret) .skip)) (.seq (.ops [.i (.ldl 78 2 (.s 2) 9 true), .i (.call 80 8 false [(.s 78)]), .i (.mov 80 (.s 1)), .i (.call 82 9 false [(.s 79), (.s 80)]), .i (.mov 77 (.s 81)), .i (.ext 82 (.s 77) 0), .i (.ext 83 (.s 77) 1), .i (.lal 14 [.int .i64 0, .int .i64 0, .int .i64 0, .nils, .nils, .int .i64 0, .int .i64 0, .nils, .nils, .nils]), .i (.stl 14 (.s 14) (.s 82) 10), .i (.mov 15 (.s 83))]) (.seq (.seq (.ops [.i (.ldl 84 14 (.s 14) 10 true), .i (.ldl 85 6 (.s 6) 10 true), .i (.call 87 10 false [(.s 84), (.s 85)]), .i (.not 87 (.s 86)), .i (.mov 88 (.s 87)), .g 88 false 90 (.mov 89 (.s 15)), .g 88 false 91 (.mov 90 (.s 7)), .g 88 false 92 (.beq 91 true (.s 89) (.s 90)), .i (.pick 92 (.s 88) (.c (.val false [.bool true])) (.s 91))]) (.cond (.s 92) (.seq (.ops [.i (.mov 4 (.c (.val false [.bool false])))]) .ret) .skip)) (.seq (.ops [.i (.mov 13 (.c (.val false [.int .i64 1])))]) (.seq (.ops [.i (.ldl 93 9 (.s 9) 10 true), .i (.mov 94 (.s 13)), .i (.call 96 14 false [(.s 93), (.s 94)]), .i (.mov 13 (.s 95))]) (.seq (.seq (.ops [.i (.mov 96 (.s 13)), .i (.bin 97 .lss (.s 96) (.c (.val false [.int .i64 0])))]) (.cond (.s 97) (.seq (.ops [.i (.mov 4 (.c (.val false [.bool false])))]) .ret) .skip)) (.seq (.seq (.ops [.i (.mov 98 (.s 13)), .i (.mov 99 (.s 12)), .i (.bin 100 .neq (.s 98) (.s 99))]) (.cond (.s 100) (.seq (.ops [.i (.mov 4 (.c (.val false [.bool false])))]) .ret) .skip)) (.seq (.ops [.i (.mov 4 (.c (.val false [.bool true])))]) .ret)))))))))))))))))))))))))⟩
theorem k3 : cd 3 = some c3 := by kernel_rfl
theorem lenb {h : H} {kk : IntKind} {c : C} {v : Tv} {S : List Nat} (hv : Rp h (.sl (.int kk)) [c] v S) : lenC c = some (wt v) := by
  obtain ⟨c2, xs, id, off, bs, S', e, rfl, hm, hl, hat, hce, hbs, hel, hS⟩ := hv.view
  injection e with e
  subst e
  rw [hl]
  simp [wt, (wts_int hel).1]
theorem law_Known : ∀ h vs, Argp h [TLight, (.int .i64)] vs → WC cd 3 vs h (fun r _ => r = .val false [.bool true]) := by
  intro h vs ha
  obtain ⟨cs0, v0, S0, r0, rfl, hv0, ha0⟩ := ha
  obtain ⟨cs1, v1, S1, r1, rfl, hv1, ha1⟩ := ha0
  have hr0 : r1 = [] := ha1
  subst hr0
  have hsz0 : cs0.length = 9 := hv0.size
  have hall0 : cs0.take 9 = cs0 := List.take_of_length_le (by omega)
  obtain ⟨n1, rfl, rfl, rfl, ilo1, ihi1⟩ := hv1.int
  have hv1 : Rp h (.int .i64) [.int .i64 n1] (.i n1) [] := Rp.mkInt ilo1 ihi1
  obtain ⟨x, rfl⟩ := Light.ex hv0.ok
  have hc0 : cnT TLight x.tv ≤ 19 * (1 + wt x.tv) := Nat.le_trans (cnT_le _ _) (cnE_le _ _)
  have hr0 : cnT THead ((known x n1).getD zeroHead).tv ≤ 10 * (1 + wt ((known x n1).getD zeroHead).tv) := Nat.le_trans (cnT_le _ _) (cnE_le _ _)
  have hw0 := F.known_wt x n1
  refine WS_enter k3 rfl ?_
  simp (disch := omega) only [KC_eq, c3, hsz0, hall0, ifT, w64, valR, beq_self_eq_true, bne_self_eq_false, List.getElem?_cons_zero, List.getElem?_cons_succ, Bool.or_false, Bool.false_or, Bool.or_self, RR, RP, Ty.agg, Ty.size, Ty.sizes, eq_self, ne_eq, not_true, not_false_iff, reduceCtorEq, List.length_cons, List.length_nil, decide_true, decide_false, true_and, and_true, ite_true, ite_false, PT.full, enter0, setAll, forget, Fr.set, Fr.get, PT.get, PT.set, kof, ai, ev, ev1, evp, b_add, b_sub, b_mul, b_quo, b_rem, b_eql, b_neq, b_lss, b_leq, b_gtr, b_geq, b_seql, b_sneq, setD, resV, resL, res1, args, List.take_zero, List.drop_zero, List.take_nil, List.take_succ_cons, List.drop_succ_cons, Nat.reduceAdd, Nat.reduceLeDiff, reduceIte, Bool.not_true, Bool.not_false, Bool.false_eq_true, CA_some, Option.some.injEq, Nat.zero_add, Nat.mul_one, Nat.add_zero, setL, List.set_cons_zero, List.set_cons_succ, fillC]
  refine SzOk.go sz_Light hv0 (k := 1048576) (by omega) (fun hf0 => ?_) (fun hf0 => ?_)
  case refine_2 =>
    simp (disch := omega) only [KC_eq, c3, hsz0, hall0, ifT, w64, valR, beq_self_eq_true, bne_self_eq_false, List.getElem?_cons_zero, List.getElem?_cons_succ, Bool.or_false, Bool.false_or, Bool.or_self, RR, RP, Ty.agg, Ty.size, Ty.sizes, eq_self, ne_eq, not_true, not_false_iff, reduceCtorEq, List.length_cons, List.length_nil, decide_true, decide_false, true_and, and_true, ite_true, ite_false, PT.full, enter0, setAll, forget, Fr.set, Fr.get, PT.get, PT.set, kof, ai, ev, ev1, evp, b_add, b_sub, b_mul, b_quo, b_rem, b_eql, b_neq, b_lss, b_leq, b_gtr, b_geq, b_seql, b_sneq, setD, resV, resL, res1, args, List.take_zero, List.drop_zero, List.take_nil, List.take_succ_cons, List.drop_succ_cons, Nat.reduceAdd, Nat.reduceLeDiff, reduceIte, Bool.not_true, Bool.not_false, Bool.false_eq_true, CA_some, Option.some.injEq, Nat.zero_add, Nat.mul_one, Nat.add_zero, setL, List.set_cons_zero, List.set_cons_succ, fillC]
    refine BR_dec (fun hn => ?_) (fun hn => absurd (show (-1 : Int) < 0 by omega) hn)
    simp (disch := omega) only [KC_eq, c3, hsz0, hall0, ifT, w64, valR, beq_self_eq_true, bne_self_eq_false, List.getElem?_cons_zero, List.getElem?_cons_succ, Bool.or_false, Bool.false_or, Bool.or_self, RR, RP, Ty.agg, Ty.size, Ty.sizes, eq_self, ne_eq, not_true, not_false_iff, reduceCtorEq, List.length_cons, List.length_nil, decide_true, decide_false, true_and, and_true, ite_true, ite_false, PT.full, enter0, setAll, forget, Fr.set, Fr.get, PT.get, PT.set, kof, ai, ev, ev1, evp, b_add, b_sub, b_mul, b_quo, b_rem, b_eql, b_neq, b_lss, b_leq, b_gtr, b_geq, b_seql, b_sneq, setD, resV, resL, res1, args, List.take_zero, List.drop_zero, List.take_nil, List.take_succ_cons, List.drop_succ_cons, Nat.reduceAdd, Nat.reduceLeDiff, reduceIte, Bool.not_true, Bool.not_false, Bool.false_eq_true, CA_some, Option.some.injEq, Nat.zero_add, Nat.mul_one, Nat.add_zero, setL, List.set_cons_zero, List.set_cons_succ, fillC]
  simp (disch := omega) only [KC_eq, c3, hsz0, hall0, ifT, w64, valR, beq_self_eq_true, bne_self_eq_false, List.getElem?_cons_zero, List.getElem?_cons_succ, Bool.or_false, Bool.false_or, Bool.or_self, RR, RP, Ty.agg, Ty.size, Ty.sizes, eq_self, ne_eq, not_true, not_false_iff, reduceCtorEq, List.length_cons, List.length_nil, decide_true, decide_false, true_and, and_true, ite_true, ite_false, PT.full, enter0, setAll, forget, Fr.set, Fr.get, PT.get, PT.set, kof, ai, ev, ev1, evp, b_add, b_sub, b_mul, b_quo, b_rem, b_eql, b_neq, b_lss, b_leq, b_gtr, b_geq, b_seql, b_sneq, setD, resV, resL, res1, args, List.take_zero, List.drop_zero, List.take_nil, List.take_succ_cons, List.drop_succ_cons, Nat.reduceAdd, Nat.reduceLeDiff, reduceIte, Bool.not_true, Bool.not_false, Bool.false_eq_true, CA_some, Option.some.injEq, Nat.zero_add, Nat.mul_one, Nat.add_zero, setL, List.set_cons_zero, List.set_cons_succ, fillC]
  refine BR_dec (fun hn => absurd hn (by omega)) (fun hn => ?_)
  simp (disch := omega) only [KC_eq, c3, hsz0, hall0, ifT, w64, valR, beq_self_eq_true, bne_self_eq_false, List.getElem?_cons_zero, List.getElem?_cons_succ, Bool.or_false, Bool.false_or, Bool.or_self, RR, RP, Ty.agg, Ty.size, Ty.sizes, eq_self, ne_eq, not_true, not_false_iff, reduceCtorEq, List.length_cons, List.length_nil, decide_true, decide_false, true_and, and_true, ite_true, ite_false, PT.full, enter0, setAll, forget, Fr.set, Fr.get, PT.get, PT.set, kof, ai, ev, ev1, evp, b_add, b_sub, b_mul, b_quo, b_rem, b_eql, b_neq, b_lss, b_leq, b_gtr, b_geq, b_seql, b_sneq, setD, resV, resL, res1, args, List.take_zero, List.drop_zero, List.take_nil, List.take_succ_cons, List.drop_succ_cons, Nat.reduceAdd, Nat.reduceLeDiff, reduceIte, Bool.not_true, Bool.not_false, Bool.false_eq_true, CA_some, Option.some.injEq, Nat.zero_add, Nat.mul_one, Nat.add_zero, setL, List.set_cons_zero, List.set_cons_succ, fillC]
  refine WC_call (to_Light hv0 (by omega)) ?_
  rintro r0 g0 ⟨t0, d0, U0, hg0, rfl, z0, o0, l0⟩
  have n0 := len_app' hg0
  have b0 := z0.lt
  have hd0 : d0.length = 9 := z0.size
  have ht0 : d0.take 9 = d0 := List.take_of_length_le (by omega)
  have hs0_0 : setL [.int .i64 0, .int .i64 0, .int .i64 0, .int .i64 0, .int .i64 0, .nils, .int .i64 0, .nils, .nils] 0 d0 = d0 := setL_all (by rw [hd0]; rfl)
  simp (disch := omega) only [KC_eq, c3, hsz0, hall0, hd0, ht0, hs0_0, ifT, w64, valR, beq_self_eq_true, bne_self_eq_false, List.getElem?_cons_zero, List.getElem?_cons_succ, Bool.or_false, Bool.false_or, Bool.or_self, RR, RP, Ty.agg, Ty.size, Ty.sizes, eq_self, ne_eq, not_true, not_false_iff, reduceCtorEq, List.length_cons, List.length_nil, decide_true, decide_false, true_and, and_true, ite_true, ite_false, PT.full, enter0, setAll, forget, Fr.set, Fr.get, PT.get, PT.set, kof, ai, ev, ev1, evp, b_add, b_sub, b_mul, b_quo, b_rem, b_eql, b_neq, b_lss, b_leq, b_gtr, b_geq, b_seql, b_sneq, setD, resV, resL, res1, args, List.take_zero, List.drop_zero, List.take_nil, List.take_succ_cons, List.drop_succ_cons, Nat.reduceAdd, Nat.reduceLeDiff, reduceIte, Bool.not_true, Bool.not_false, Bool.false_eq_true, CA_some, Option.some.injEq, Nat.zero_add, Nat.mul_one, Nat.add_zero, setL, List.set_cons_zero, List.set_cons_succ, fillC]
  refine WC_call (F.io_spec_Known ⟨_, _, rfl, ⟨_, z0⟩, ⟨_, _, rfl, ⟨_, (Rp.app' hg0 hv1)⟩, rfl⟩⟩ (by omega)) ?_
  rintro r1 g1 ⟨t1, css1, U1, hg1, rfl, zz1, o1, l1⟩
  have n1 := len_app' hg1
  obtain ⟨d1_0, cr1_0, U1_0, V1_0, rfl, rfl, z1_0, zz1_0⟩ := zz1
  obtain ⟨d1_1, cr1_1, U1_1, V1_1, rfl, rfl, z1_1, zz1_1⟩ := zz1_0
  obtain ⟨q1_1, rfl, hq1_1, rfl⟩ := z1_1.bool
  injection hq1_1 with hq1_1; subst hq1_1
  obtain ⟨rfl, rfl⟩ := zz1_1
  simp only [List.nil_append, List.append_nil] at o1 l1
  have o1_0 := o1
  have b1_0 := z1_0.lt
  have l1_0 := l1
  have hd1_0 : d1_0.length = 10 := z1_0.size
  have ht1_0 : d1_0.take 10 = d1_0 := List.take_of_length_le (by omega)
  have hs1_0_0 : setL [.int .i64 0, .int .i64 0, .int .i64 0, .nils, .nils, .int .i64 0, .int .i64 0, .nils, .nils, .nils] 0 d1_0 = d1_0 := setL_all (by rw [hd1_0]; rfl)
  simp (disch := omega) only [KC_eq, c3, hsz0, hall0, hd0, ht0, hs0_0, hd1_0, ht1_0, hs1_0_0, ifT, w64, valR, beq_self_eq_true, bne_self_eq_false, List.getElem?_cons_zero, List.getElem?_cons_succ, Bool.or_false, Bool.false_or, Bool.or_self, RR, RP, Ty.agg, Ty.size, Ty.sizes, eq_self, ne_eq, not_true, not_false_iff, reduceCtorEq, List.length_cons, List.length_nil, decide_true, decide_false, true_and, and_true, ite_true, ite_false, PT.full, enter0, setAll, forget, Fr.set, Fr.get, PT.get, PT.set, kof, ai, ev, ev1, evp, b_add, b_sub, b_mul, b_quo, b_rem, b_eql, b_neq, b_lss, b_leq, b_gtr, b_geq, b_seql, b_sneq, setD, resV, resL, res1, args, List.take_zero, List.drop_zero, List.take_nil, List.take_succ_cons, List.drop_succ_cons, Nat.reduceAdd, Nat.reduceLeDiff, reduceIte, Bool.not_true, Bool.not_false, Bool.false_eq_true, CA_some, Option.some.injEq, Nat.zero_add, Nat.mul_one, Nat.add_zero, setL, List.set_cons_zero, List.set_cons_succ, fillC]
  refine WC_call (to_Light (Rp.app' hg1 (Rp.app' hg0 hv0)) (by omega)) ?_
  rintro r2 g2 ⟨t2, d2, U2, hg2, rfl, z2, o2, l2⟩
  have n2 := len_app' hg2
  have b2 := z2.lt
  have hd2 : d2.length = 9 := z2.size
  have ht2 : d2.take 9 = d2 := List.take_of_length_le (by omega)
  have hs2_0 : setL [.int .i64 0, .int .i64 0, .int .i64 0, .int .i64 0, .int .i64 0, .nils, .int .i64 0, .nils, .nils] 0 d2 = d2 := setL_all (by rw [hd2]; rfl)
  simp (disch := omega) only [KC_eq, c3, hsz0, hall0, hd0, ht0, hs0_0, hd1_0, ht1_0, hs1_0_0, hd2, ht2, hs2_0, ifT, w64, valR, beq_self_eq_true, bne_self_eq_false, List.getElem?_cons_zero, List.getElem?_cons_succ, Bool.or_false, Bool.false_or, Bool.or_self, RR, RP, Ty.agg, Ty.size, Ty.sizes, eq_self, ne_eq, not_true, not_false_iff, reduceCtorEq, List.length_cons, List.length_nil, decide_true, decide_false, true_and, and_true, ite_true, ite_false, PT.full, enter0, setAll, forget, Fr.set, Fr.get, PT.get, PT.set, kof, ai, ev, ev1, evp, b_add, b_sub, b_mul, b_quo, b_rem, b_eql, b_neq, b_lss, b_leq, b_gtr, b_geq, b_seql, b_sneq, setD, resV, resL, res1, args, List.take_zero, List.drop_zero, List.take_nil, List.take_succ_cons, List.drop_succ_cons, Nat.reduceAdd, Nat.reduceLeDiff, reduceIte, Bool.not_true, Bool.not_false, Bool.false_eq_true, CA_some, Option.some.injEq, Nat.zero_add, Nat.mul_one, Nat.add_zero, setL, List.set_cons_zero, List.set_cons_succ, fillC]
  refine WC_call (F.io_impl_Known ⟨_, _, rfl, ⟨_, z2⟩, ⟨_, _, rfl, ⟨_, (Rp.app' hg2 (Rp.app' hg1 (Rp.app' hg0 hv1)))⟩, rfl⟩⟩ (by omega)) ?_
  rintro r3 g3 ⟨t3, css3, U3, hg3, rfl, zz3, o3, l3⟩
  have n3 := len_app' hg3
  obtain ⟨d3_0, cr3_0, U3_0, V3_0, rfl, rfl, z3_0, zz3_0⟩ := zz3
  obtain ⟨d3_1, cr3_1, U3_1, V3_1, rfl, rfl, z3_1, zz3_1⟩ := zz3_0
  obtain ⟨q3_1, rfl, hq3_1, rfl⟩ := z3_1.bool
  injection hq3_1 with hq3_1; subst hq3_1
  obtain ⟨rfl, rfl⟩ := zz3_1
  simp only [List.nil_append, List.append_nil] at o3 l3
  have o3_0 := o3
  have b3_0 := z3_0.lt
  have l3_0 := l3
  have hd3_0 : d3_0.length = 10 := z3_0.size
  have ht3_0 : d3_0.take 10 = d3_0 := List.take_of_length_le (by omega)
  have hs3_0_0 : setL [.int .i64 0, .int .i64 0, .int .i64 0, .nils, .nils, .int .i64 0, .int .i64 0, .nils, .nils, .nils] 0 d3_0 = d3_0 := setL_all (by rw [hd3_0]; rfl)
  simp (disch := omega) only [KC_eq, c3, hsz0, hall0, hd0, ht0, hs0_0, hd1_0, ht1_0, hs1_0_0, hd2, ht2, hs2_0, hd3_0, ht3_0, hs3_0_0, ifT, w64, valR, beq_self_eq_true, bne_self_eq_false, List.getElem?_cons_zero, List.getElem?_cons_succ, Bool.or_false, Bool.false_or, Bool.or_self, RR, RP, Ty.agg, Ty.size, Ty.sizes, eq_self, ne_eq, not_true, not_false_iff, reduceCtorEq, List.length_cons, List.length_nil, decide_true, decide_false, true_and, and_true, ite_true, ite_false, PT.full, enter0, setAll, forget, Fr.set, Fr.get, PT.get, PT.set, kof, ai, ev, ev1, evp, b_add, b_sub, b_mul, b_quo, b_rem, b_eql, b_neq, b_lss, b_leq, b_gtr, b_geq, b_seql, b_sneq, setD, resV, resL, res1, args, List.take_zero, List.drop_zero, List.take_nil, List.take_succ_cons, List.drop_succ_cons, Nat.reduceAdd, Nat.reduceLeDiff, reduceIte, Bool.not_true, Bool.not_false, Bool.false_eq_true, CA_some, Option.some.injEq, Nat.zero_add, Nat.mul_one, Nat.add_zero, setL, List.set_cons_zero, List.set_cons_succ, fillC]
  refine EqOk.go eq_Head z3_0 (Rp.app' hg3 (Rp.app' hg2 z1_0)) (fun _ => ?_) (fun hne => absurd rfl hne)
  simp (disch := omega) only [KC_eq, c3, hsz0, hall0, hd0, ht0, hs0_0, hd1_0, ht1_0, hs1_0_0, hd2, ht2, hs2_0, hd3_0, ht3_0, hs3_0_0, ifT, w64, valR, beq_self_eq_true, bne_self_eq_false, List.getElem?_cons_zero, List.getElem?_cons_succ, Bool.or_false, Bool.false_or, Bool.or_self, RR, RP, Ty.agg, Ty.size, Ty.sizes, eq_self, ne_eq, not_true, not_false_iff, reduceCtorEq, List.length_cons, List.length_nil, decide_true, decide_false, true_and, and_true, ite_true, ite_false, PT.full, enter0, setAll, forget, Fr.set, Fr.get, PT.get, PT.set, kof, ai, ev, ev1, evp, b_add, b_sub, b_mul, b_quo, b_rem, b_eql, b_neq, b_lss, b_leq, b_gtr, b_geq, b_seql, b_sneq, setD, resV, resL, res1, args, List.take_zero, List.drop_zero, List.take_nil, List.take_succ_cons, List.drop_succ_cons, Nat.reduceAdd, Nat.reduceLeDiff, reduceIte, Bool.not_true, Bool.not_false, Bool.false_eq_true, CA_some, Option.some.injEq, Nat.zero_add, Nat.mul_one, Nat.add_zero, setL, List.set_cons_zero, List.set_cons_succ, fillC]
  refine WC_call (to_Light (Rp.app' hg3 (Rp.app' hg2 (Rp.app' hg1 (Rp.app' hg0 hv0)))) (by omega)) ?_
  rintro r4 g4 ⟨t4, d4, U4, hg4, rfl, z4, o4, l4⟩
  have n4 := len_app' hg4
  have b4 := z4.lt
  have hd4 : d4.length = 9 := z4.size
  have ht4 : d4.take 9 = d4 := List.take_of_length_le (by omega)
  have hs4_0 : setL [.int .i64 0, .int .i64 0, .int .i64 0, .int .i64 0, .int .i64 0, .nils, .int .i64 0, .nils, .nils] 0 d4 = d4 := setL_all (by rw [hd4]; rfl)
  simp (disch := omega) only [KC_eq, c3, hsz0, hall0, hd0, ht0, hs0_0, hd1_0, ht1_0, hs1_0_0, hd2, ht2, hs2_0, hd3_0, ht3_0, hs3_0_0, hd4, ht4, hs4_0, ifT, w64, valR, beq_self_eq_true, bne_self_eq_false, List.getElem?_cons_zero, List.getElem?_cons_succ, Bool.or_false, Bool.false_or, Bool.or_self, RR, RP, Ty.agg, Ty.size, Ty.sizes, eq_self, ne_eq, not_true, not_false_iff, reduceCtorEq, List.length_cons, List.length_nil, decide_true, decide_false, true_and, and_true, ite_true, ite_false, PT.full, enter0, setAll, forget, Fr.set, Fr.get, PT.get, PT.set, kof, ai, ev, ev1, evp, b_add, b_sub, b_mul, b_quo, b_rem, b_eql, b_neq, b_lss, b_leq, b_gtr, b_geq, b_seql, b_sneq, setD, resV, resL, res1, args, List.take_zero, List.drop_zero, List.take_nil, List.take_succ_cons, List.drop_succ_cons, Nat.reduceAdd, Nat.reduceLeDiff, reduceIte, Bool.not_true, Bool.not_false, Bool.false_eq_true, CA_some, Option.some.injEq, Nat.zero_add, Nat.mul_one, Nat.add_zero, setL, List.set_cons_zero, List.set_cons_succ, fillC]
  refine EqOk.go eq_Light (Rp.app' hg4 (Rp.app' hg3 z2)) z4 (fun _ => ?_) (fun hne => absurd rfl hne)
  simp (disch := omega) only [KC_eq, c3, hsz0, hall0, hd0, ht0, hs0_0, hd1_0, ht1_0, hs1_0_0, hd2, ht2, hs2_0, hd3_0, ht3_0, hs3_0_0, hd4, ht4, hs4_0, ifT, w64, valR, beq_self_eq_true, bne_self_eq_false, List.getElem?_cons_zero, List.getElem?_cons_succ, Bool.or_false, Bool.false_or, Bool.or_self, RR, RP, Ty.agg, Ty.size, Ty.sizes, eq_self, ne_eq, not_true, not_false_iff, reduceCtorEq, List.length_cons, List.length_nil, decide_true, decide_false, true_and, and_true, ite_true, ite_false, PT.full, enter0, setAll, forget, Fr.set, Fr.get, PT.get, PT.set, kof, ai, ev, ev1, evp, b_add, b_sub, b_mul, b_quo, b_rem, b_eql, b_neq, b_lss, b_leq, b_gtr, b_geq, b_seql, b_sneq, setD, resV, resL, res1, args, List.take_zero, List.drop_zero, List.take_nil, List.take_succ_cons, List.drop_succ_cons, Nat.reduceAdd, Nat.reduceLeDiff, reduceIte, Bool.not_true, Bool.not_false, Bool.false_eq_true, CA_some, Option.some.injEq, Nat.zero_add, Nat.mul_one, Nat.add_zero, setL, List.set_cons_zero, List.set_cons_succ, fillC]
  refine MkOk.go mk_Light (Rp.app' hg4 (Rp.app' hg3 z2)) (Ownd.app' hg4 (Ownd.app' hg3 o2)) (k := 1) (by omega) (fun gw0 w0 zw0 => ?_)
  have nw0 := w0.1
  have hneg : decide (((1 + cnT TLight x.tv : Nat) : Int) < 0) = false := by simp; omega
  simp (disch := omega) only [KC_eq, c3, hsz0, hall0, hd0, ht0, hs0_0, hd1_0, ht1_0, hs1_0_0, hd2, ht2, hs2_0, hd3_0, ht3_0, hs3_0_0, hd4, ht4, hs4_0, hneg, ifT, w64, valR, beq_self_eq_true, bne_self_eq_false, List.getElem?_cons_zero, List.getElem?_cons_succ, Bool.or_false, Bool.false_or, Bool.or_self, RR, RP, Ty.agg, Ty.size, Ty.sizes, eq_self, ne_eq, not_true, not_false_iff, reduceCtorEq, List.length_cons, List.length_nil, decide_true, decide_false, true_and, and_true, ite_true, ite_false, PT.full, enter0, setAll, forget, Fr.set, Fr.get, PT.get, PT.set, kof, ai, ev, ev1, evp, b_add, b_sub, b_mul, b_quo, b_rem, b_eql, b_neq, b_lss, b_leq, b_gtr, b_geq, b_seql, b_sneq, setD, resV, resL, res1, args, List.take_zero, List.drop_zero, List.take_nil, List.take_succ_cons, List.drop_succ_cons, Nat.reduceAdd, Nat.reduceLeDiff, reduceIte, Bool.not_true, Bool.not_false, Bool.false_eq_true, CA_some, Option.some.injEq, Nat.zero_add, Nat.mul_one, Nat.add_zero, setL, List.set_cons_zero, List.set_cons_succ, fillC]
  refine EqOk.go eq_Head ((Rp.app' hg4 z3_0).wrote w0 (fun i hi hn => by have := b3_0 i hi; have := l3_0 i hi; have := b2 i hn; have := l2 i hn; omega)) ((Rp.app' hg4 (Rp.app' hg3 (Rp.app' hg2 z1_0))).wrote w0 (fun i hi hn => by have := b1_0 i hi; have := l1_0 i hi; have := b2 i hn; have := l2 i hn; omega)) (fun _ => ?_) (fun hne => absurd rfl hne)
  simp (disch := omega) only [KC_eq, c3, hsz0, hall0, hd0, ht0, hs0_0, hd1_0, ht1_0, hs1_0_0, hd2, ht2, hs2_0, hd3_0, ht3_0, hs3_0_0, hd4, ht4, hs4_0, hneg, ifT, w64, valR, beq_self_eq_true, bne_self_eq_false, List.getElem?_cons_zero, List.getElem?_cons_succ, Bool.or_false, Bool.false_or, Bool.or_self, RR, RP, Ty.agg, Ty.size, Ty.sizes, eq_self, ne_eq, not_true, not_false_iff, reduceCtorEq, List.length_cons, List.length_nil, decide_true, decide_false, true_and, and_true, ite_true, ite_false, PT.full, enter0, setAll, forget, Fr.set, Fr.get, PT.get, PT.set, kof, ai, ev, ev1, evp, b_add, b_sub, b_mul, b_quo, b_rem, b_eql, b_neq, b_lss, b_leq, b_gtr, b_geq, b_seql, b_sneq, setD, resV, resL, res1, args, List.take_zero, List.drop_zero, List.take_nil, List.take_succ_cons, List.drop_succ_cons, Nat.reduceAdd, Nat.reduceLeDiff, reduceIte, Bool.not_true, Bool.not_false, Bool.false_eq_true, CA_some, Option.some.injEq, Nat.zero_add, Nat.mul_one, Nat.add_zero, setL, List.set_cons_zero, List.set_cons_succ, fillC]
  refine MkOk.go mk_Head ((Rp.app' hg4 z3_0).wrote w0 (fun i hi hn => by have := b3_0 i hi; have := l3_0 i hi; have := b2 i hn; have := l2 i hn; omega)) (w0.ownd (Ownd.app' hg4 o3_0)) (k := 1) (by omega) (fun gm0 wm0 zm0 => ?_)
  have nm0 := wm0.1
  simp (disch := omega) only [KC_eq, c3, hsz0, hall0, hd0, ht0, hs0_0, hd1_0, ht1_0, hs1_0_0, hd2, ht2, hs2_0, hd3_0, ht3_0, hs3_0_0, hd4, ht4, hs4_0, hneg, ifT, w64, valR, beq_self_eq_true, bne_self_eq_false, List.getElem?_cons_zero, List.getElem?_cons_succ, Bool.or_false, Bool.false_or, Bool.or_self, RR, RP, Ty.agg, Ty.size, Ty.sizes, eq_self, ne_eq, not_true, not_false_iff, reduceCtorEq, List.length_cons, List.length_nil, decide_true, decide_false, true_and, and_true, ite_true, ite_false, PT.full, enter0, setAll, forget, Fr.set, Fr.get, PT.get, PT.set, kof, ai, ev, ev1, evp, b_add, b_sub, b_mul, b_quo, b_rem, b_eql, b_neq, b_lss, b_leq, b_gtr, b_geq, b_seql, b_sneq, setD, resV, resL, res1, args, List.take_zero, List.drop_zero, List.take_nil, List.take_succ_cons, List.drop_succ_cons, Nat.reduceAdd, Nat.reduceLeDiff, reduceIte, Bool.not_true, Bool.not_false, Bool.false_eq_true, CA_some, Option.some.injEq, Nat.zero_add, Nat.mul_one, Nat.add_zero, setL, List.set_cons_zero, List.set_cons_succ, fillC]
  refine HdOk.go hd_Head ⟨_, _, _, z3_0⟩ zm0 (k := 1) (by omega) ?_
  simp (disch := omega) only [KC_eq, c3, hsz0, hall0, hd0, ht0, hs0_0, hd1_0, ht1_0, hs1_0_0, hd2, ht2, hs2_0, hd3_0, ht3_0, hs3_0_0, hd4, ht4, hs4_0, hneg, ifT, w64, valR, beq_self_eq_true, bne_self_eq_false, List.getElem?_cons_zero, List.getElem?_cons_succ, Bool.or_false, Bool.false_or, Bool.or_self, RR, RP, Ty.agg, Ty.size, Ty.sizes, eq_self, ne_eq, not_true, not_false_iff, reduceCtorEq, List.length_cons, List.length_nil, decide_true, decide_false, true_and, and_true, ite_true, ite_false, PT.full, enter0, setAll, forget, Fr.set, Fr.get, PT.get, PT.set, kof, ai, ev, ev1, evp, b_add, b_sub, b_mul, b_quo, b_rem, b_eql, b_neq, b_lss, b_leq, b_gtr, b_geq, b_seql, b_sneq, setD, resV, resL, res1, args, List.take_zero, List.drop_zero, List.take_nil, List.take_succ_cons, List.drop_succ_cons, Nat.reduceAdd, Nat.reduceLeDiff, reduceIte, Bool.not_true, Bool.not_false, Bool.false_eq_true, CA_some, Option.some.injEq, Nat.zero_add, Nat.mul_one, Nat.add_zero, setL, List.set_cons_zero, List.set_cons_succ, fillC]
  refine BR_dec (fun hn => absurd hn (by omega)) (fun hn => ?_)
  simp (disch := omega) only [KC_eq, c3, hsz0, hall0, hd0, ht0, hs0_0, hd1_0, ht1_0, hs1_0_0, hd2, ht2, hs2_0, hd3_0, ht3_0, hs3_0_0, hd4, ht4, hs4_0, hneg, ifT, w64, valR, beq_self_eq_true, bne_self_eq_false, List.getElem?_cons_zero, List.getElem?_cons_succ, Bool.or_false, Bool.false_or, Bool.or_self, RR, RP, Ty.agg, Ty.size, Ty.sizes, eq_self, ne_eq, not_true, not_false_iff, reduceCtorEq, List.length_cons, List.length_nil, decide_true, decide_false, true_and, and_true, ite_true, ite_false, PT.full, enter0, setAll, forget, Fr.set, Fr.get, PT.get, PT.set, kof, ai, ev, ev1, evp, b_add, b_sub, b_mul, b_quo, b_rem, b_eql, b_neq, b_lss, b_leq, b_gtr, b_geq, b_seql, b_sneq, setD, resV, resL, res1, args, List.take_zero, List.drop_zero, List.take_nil, List.take_succ_cons, List.drop_succ_cons, Nat.reduceAdd, Nat.reduceLeDiff, reduceIte, Bool.not_true, Bool.not_false, Bool.false_eq_true, CA_some, Option.some.injEq, Nat.zero_add, Nat.mul_one, Nat.add_zero, setL, List.set_cons_zero, List.set_cons_succ, fillC]
  refine WC_call (to_Light (((Rp.app' hg4 (Rp.app' hg3 (Rp.app' hg2 (Rp.app' hg1 (Rp.app' hg0 hv0))))).wrote w0 (fun i hi hn => by have := hv0.lt i hi; have := b2 i hn; have := l2 i hn; omega)).wrote wm0 (fun i hi hn => by have := hv0.lt i hi; have := b3_0 i hn; have := l3_0 i hn; omega)) (by omega)) ?_
  rintro r5 g5 ⟨t5, d5, U5, hg5, rfl, z5, o5, l5⟩
  have n5 := len_app' hg5
  have b5 := z5.lt
  have hd5 : d5.length = 9 := z5.size
  have ht5 : d5.take 9 = d5 := List.take_of_length_le (by omega)
  have hs5_0 : setL [.int .i64 0, .int .i64 0, .int .i64 0, .int .i64 0, .int .i64 0, .nils, .int .i64 0, .nils, .nils] 0 d5 = d5 := setL_all (by rw [hd5]; rfl)
  simp (disch := omega) only [KC_eq, c3, hsz0, hall0, hd0, ht0, hs0_0, hd1_0, ht1_0, hs1_0_0, hd2, ht2, hs2_0, hd3_0, ht3_0, hs3_0_0, hd4, ht4, hs4_0, hneg, hd5, ht5, hs5_0, ifT, w64, valR, beq_self_eq_true, bne_self_eq_false, List.getElem?_cons_zero, List.getElem?_cons_succ, Bool.or_false, Bool.false_or, Bool.or_self, RR, RP, Ty.agg, Ty.size, Ty.sizes, eq_self, ne_eq, not_true, not_false_iff, reduceCtorEq, List.length_cons, List.length_nil, decide_true, decide_false, true_and, and_true, ite_true, ite_false, PT.full, enter0, setAll, forget, Fr.set, Fr.get, PT.get, PT.set, kof, ai, ev, ev1, evp, b_add, b_sub, b_mul, b_quo, b_rem, b_eql, b_neq, b_lss, b_leq, b_gtr, b_geq, b_seql, b_sneq, setD, resV, resL, res1, args, List.take_zero, List.drop_zero, List.take_nil, List.take_succ_cons, List.drop_succ_cons, Nat.reduceAdd, Nat.reduceLeDiff, reduceIte, Bool.not_true, Bool.not_false, Bool.false_eq_true, CA_some, Option.some.injEq, Nat.zero_add, Nat.mul_one, Nat.add_zero, setL, List.set_cons_zero, List.set_cons_succ, fillC]
  refine WC_call (F.io_impl_Known ⟨_, _, rfl, ⟨_, z5⟩, ⟨_, _, rfl, ⟨_, (Rp.app' hg5 (((Rp.app' hg4 (Rp.app' hg3 (Rp.app' hg2 (Rp.app' hg1 (Rp.app' hg0 hv1))))).wrote w0 (fun i hi hn => by have := hv1.lt i hi; have := b2 i hn; have := l2 i hn; omega)).wrote wm0 (fun i hi hn => by have := hv1.lt i hi; have := b3_0 i hn; have := l3_0 i hn; omega)))⟩, rfl⟩⟩ (by omega)) ?_
  rintro r6 g6 ⟨t6, css6, U6, hg6, rfl, zz6, o6, l6⟩
  have n6 := len_app' hg6
  obtain ⟨d6_0, cr6_0, U6_0, V6_0, rfl, rfl, z6_0, zz6_0⟩ := zz6
  obtain ⟨d6_1, cr6_1, U6_1, V6_1, rfl, rfl, z6_1, zz6_1⟩ := zz6_0
  obtain ⟨q6_1, rfl, hq6_1, rfl⟩ := z6_1.bool
  injection hq6_1 with hq6_1; subst hq6_1
  obtain ⟨rfl, rfl⟩ := zz6_1
  simp only [List.nil_append, List.append_nil] at o6 l6
  have o6_0 := o6
  have b6_0 := z6_0.lt
  have l6_0 := l6
  have hd6_0 : d6_0.length = 10 := z6_0.size
  have ht6_0 : d6_0.take 10 = d6_0 := List.take_of_length_le (by omega)
  have hs6_0_0 : setL [.int .i64 0, .int .i64 0, .int .i64 0, .nils, .nils, .int .i64 0, .int .i64 0, .nils, .nils, .nils] 0 d6_0 = d6_0 := setL_all (by rw [hd6_0]; rfl)
  simp (disch := omega) only [KC_eq, c3, hsz0, hall0, hd0, ht0, hs0_0, hd1_0, ht1_0, hs1_0_0, hd2, ht2, hs2_0, hd3_0, ht3_0, hs3_0_0, hd4, ht4, hs4_0, hneg, hd5, ht5, hs5_0, hd6_0, ht6_0, hs6_0_0, ifT, w64, valR, beq_self_eq_true, bne_self_eq_false, List.getElem?_cons_zero, List.getElem?_cons_succ, Bool.or_false, Bool.false_or, Bool.or_self, RR, RP, Ty.agg, Ty.size, Ty.sizes, eq_self, ne_eq, not_true, not_false_iff, reduceCtorEq, List.length_cons, List.length_nil, decide_true, decide_false, true_and, and_true, ite_true, ite_false, PT.full, enter0, setAll, forget, Fr.set, Fr.get, PT.get, PT.set, kof, ai, ev, ev1, evp, b_add, b_sub, b_mul, b_quo, b_rem, b_eql, b_neq, b_lss, b_leq, b_gtr, b_geq, b_seql, b_sneq, setD, resV, resL, res1, args, List.take_zero, List.drop_zero, List.take_nil, List.take_succ_cons, List.drop_succ_cons, Nat.reduceAdd, Nat.reduceLeDiff, reduceIte, Bool.not_true, Bool.not_false, Bool.false_eq_true, CA_some, Option.some.injEq, Nat.zero_add, Nat.mul_one, Nat.add_zero, setL, List.set_cons_zero, List.set_cons_succ, fillC]
  refine EqOk.go eq_Head z6_0 (Rp.app' hg6 (Rp.app' hg5 (((Rp.app' hg4 (Rp.app' hg3 (Rp.app' hg2 z1_0))).wrote w0 (fun i hi hn => by have := b1_0 i hi; have := l1_0 i hi; have := b2 i hn; have := l2 i hn; omega)).wrote wm0 (fun i hi hn => by have := b1_0 i hi; have := l1_0 i hi; have := b3_0 i hn; have := l3_0 i hn; omega)))) (fun _ => ?_) (fun hne => absurd rfl hne)
  simp (disch := omega) only [KC_eq, c3, hsz0, hall0, hd0, ht0, hs0_0, hd1_0, ht1_0, hs1_0_0, hd2, ht2, hs2_0, hd3_0, ht3_0, hs3_0_0, hd4, ht4, hs4_0, hneg, hd5, ht5, hs5_0, hd6_0, ht6_0, hs6_0_0, ifT, w64, valR, beq_self_eq_true, bne_self_eq_false, List.getElem?_cons_zero, List.getElem?_cons_succ, Bool.or_false, Bool.false_or, Bool.or_self, RR, RP, Ty.agg, Ty.size, Ty.sizes, eq_self, ne_eq, not_true, not_false_iff, reduceCtorEq, List.length_cons, List.length_nil, decide_true, decide_false, true_and, and_true, ite_true, ite_false, PT.full, enter0, setAll, forget, Fr.set, Fr.get, PT.get, PT.set, kof, ai, ev, ev1, evp, b_add, b_sub, b_mul, b_quo, b_rem, b_eql, b_neq, b_lss, b_leq, b_gtr, b_geq, b_seql, b_sneq, setD, resV, resL, res1, args, List.take_zero, List.drop_zero, List.take_nil, List.take_succ_cons, List.drop_succ_cons, Nat.reduceAdd, Nat.reduceLeDiff, reduceIte, Bool.not_true, Bool.not_false, Bool.false_eq_true, CA_some, Option.some.injEq, Nat.zero_add, Nat.mul_one, Nat.add_zero, setL, List.set_cons_zero, List.set_cons_succ, fillC]
  refine HdOk.go hd_Head ⟨_, _, _, z3_0⟩ (Rp.app' hg6 (Rp.app' hg5 zm0)) (k := 1) (by omega) ?_
  simp (disch := omega) only [KC_eq, c3, hsz0, hall0, hd0, ht0, hs0_0, hd1_0, ht1_0, hs1_0_0, hd2, ht2, hs2_0, hd3_0, ht3_0, hs3_0_0, hd4, ht4, hs4_0, hneg, hd5, ht5, hs5_0, hd6_0, ht6_0, hs6_0_0, ifT, w64, valR, beq_self_eq_true, bne_self_eq_false, List.getElem?_cons_zero, List.getElem?_cons_succ, Bool.or_false, Bool.false_or, Bool.or_self, RR, RP, Ty.agg, Ty.size, Ty.sizes, eq_self, ne_eq, not_true, not_false_iff, reduceCtorEq, List.length_cons, List.length_nil, decide_true, decide_false, true_and, and_true, ite_true, ite_false, PT.full, enter0, setAll, forget, Fr.set, Fr.get, PT.get, PT.set, kof, ai, ev, ev1, evp, b_add, b_sub, b_mul, b_quo, b_rem, b_eql, b_neq, b_lss, b_leq, b_gtr, b_geq, b_seql, b_sneq, setD, resV, resL, res1, args, List.take_zero, List.drop_zero, List.take_nil, List.take_succ_cons, List.drop_succ_cons, Nat.reduceAdd, Nat.reduceLeDiff, reduceIte, Bool.not_true, Bool.not_false, Bool.false_eq_true, CA_some, Option.some.injEq, Nat.zero_add, Nat.mul_one, Nat.add_zero, setL, List.set_cons_zero, List.set_cons_succ, fillC]
  refine BR_dec (fun hn => absurd hn (by omega)) (fun hn => ?_)
  simp (disch := omega) only [KC_eq, c3, hsz0, hall0, hd0, ht0, hs0_0, hd1_0, ht1_0, hs1_0_0, hd2, ht2, hs2_0, hd3_0, ht3_0, hs3_0_0, hd4, ht4, hs4_0, hneg, hd5, ht5, hs5_0, hd6_0, ht6_0, hs6_0_0, ifT, w64, valR, beq_self_eq_true, bne_self_eq_false, List.getElem?_cons_zero, List.getElem?_cons_succ, Bool.or_false, Bool.false_or, Bool.or_self, RR, RP, Ty.agg, Ty.size, Ty.sizes, eq_self, ne_eq, not_true, not_false_iff, reduceCtorEq, List.length_cons, List.length_nil, decide_true, decide_false, true_and, and_true, ite_true, ite_false, PT.full, enter0, setAll, forget, Fr.set, Fr.get, PT.get, PT.set, kof, ai, ev, ev1, evp, b_add, b_sub, b_mul, b_quo, b_rem, b_eql, b_neq, b_lss, b_leq, b_gtr, b_geq, b_seql, b_sneq, setD, resV, resL, res1, args, List.take_zero, List.drop_zero, List.take_nil, List.take_succ_cons, List.drop_succ_cons, Nat.reduceAdd, Nat.reduceLeDiff, reduceIte, Bool.not_true, Bool.not_false, Bool.false_eq_true, CA_some, Option.some.injEq, Nat.zero_add, Nat.mul_one, Nat.add_zero, setL, List.set_cons_zero, List.set_cons_succ, fillC]
end Go.Eng.U
