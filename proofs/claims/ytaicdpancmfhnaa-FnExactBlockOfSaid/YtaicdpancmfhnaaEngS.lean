/-
  The engine, part S: the functions over slices that a program wrote: their codes, their laws.
-/
import Derived.Test.YtaicdpancmfhnaaEngR
import Derived.OpenShut
set_option linter.unusedVariables false
set_option linter.unusedSimpArgs false
set_option maxRecDepth 100000
namespace Go.Eng
open Go.ChangeShapes Go.WideShapes Go.RowKit
def cSzLeaf : AF := ⟨2, 4, [.tmp 4], (.seq (.ops [.i (.mov 4 (.c (.val false [.int .i64 0])))]) (.seq (.ops [.i (.mov 5 (.s 1)), .i (.mov 6 (.s 0)), .i (.len 7 false (.s 6)), .i (.bin 8 .sub (.s 5) (.s 7)), .i (.mov 1 (.s 8))]) (.seq (.seq (.ops [.i (.mov 9 (.s 1)), .i (.bin 10 .lss (.s 9) (.c (.val false [.int .i64 0])))]) (.cond (.s 10) (.seq (.ops [.i (.mov 4 (.c (.val false [.int .i64 (-1)])))]) .ret) .skip)) (.seq (.ops [.i (.mov 11 (.s 1)), .i (.mov 4 (.s 11))]) .ret))))⟩
def cSzSl (e gE : Nat) (ag : Bool) : AF := ⟨2, 5, [.tmp 4], (.seq (.ops [.i (.mov 4 (.c (.val false [.int .i64 0])))]) (.seq (.ops [.i (.mov 6 (.s 1)), .i (.mov 7 (.s 0)), .i (.len 8 false (.s 7)), .i (.bin 9 .sub (.s 6) (.s 8)), .i (.mov 1 (.s 9))]) (.seq (.seq (.ops [.i (.mov 10 (.s 1)), .i (.bin 11 .lss (.s 10) (.c (.val false [.int .i64 0])))]) (.cond (.s 11) (.seq (.ops [.i (.mov 4 (.c (.val false [.int .i64 (-1)])))]) .ret) .skip)) (.seq (.seq (.ops [.i (.mov 5 (.c (.val false [.int .i64 0])))]) (.block 0 (.loop [25, 24, 23, 22, 21, 20, 19, 18, 17, 16, 15, 14, 13, 12] (.seq (.seq (.ops [.i (.mov 12 (.s 5)), .i (.mov 13 (.s 0)), .i (.len 14 false (.s 13)), .i (.bin 15 .lss (.s 12) (.s 14))]) (.cond (.s 15) .skip (.exit 0))) (.seq (.block 1 (.seq (.ops [.i (.mov 18 (.s 0)), .i (.mov 19 (.s 5)), .i (.iad 20 (.s 18) (.s 19) e), .i (.ldh 21 (.s 20) e ag), .i (.mov 22 (.s 1)), .i (.call 24 gE false [(.s 21), (.s 22)]), .i (.mov 1 (.s 23))]) (.seq (.ops [.i (.mov 24 (.s 1)), .i (.bin 25 .lss (.s 24) (.c (.val false [.int .i64 0])))]) (.cond (.s 25) (.seq (.ops [.i (.mov 4 (.c (.val false [.int .i64 (-1)])))]) .ret) .skip)))) (.ops [.i (.mov 16 (.s 5)), .i (.bin 17 .add (.s 16) (.c (.val false [.int .i64 1]))), .i (.mov 5 (.s 17))])))))) (.seq (.ops [.i (.mov 26 (.s 1)), .i (.mov 4 (.s 26))]) .ret)))))⟩
def cEqLeaf : AF := ⟨2, 5, [.tmp 4], (.seq (.ops [.i (.mov 4 (.c (.val false [.bool false])))]) (.seq (.seq (.ops [.i (.mov 6 (.s 0)), .i (.len 7 false (.s 6)), .i (.mov 8 (.s 1)), .i (.len 9 false (.s 8)), .i (.bin 10 .neq (.s 7) (.s 9))]) (.cond (.s 10) (.seq (.ops [.i (.mov 4 (.c (.val false [.bool false])))]) .ret) .skip)) (.seq (.seq (.ops [.i (.mov 5 (.c (.val false [.int .i64 0])))]) (.block 0 (.loop [25, 24, 23, 22, 21, 20, 19, 18, 17, 16, 15, 14, 13, 12, 11] (.seq (.seq (.ops [.i (.mov 11 (.s 5)), .i (.mov 12 (.s 0)), .i (.len 13 false (.s 12)), .i (.bin 14 .lss (.s 11) (.s 13))]) (.cond (.s 14) .skip (.exit 0))) (.seq (.block 1 (.seq (.ops [.i (.mov 17 (.s 0)), .i (.mov 18 (.s 5)), .i (.iad 19 (.s 17) (.s 18) 1), .i (.ldh 20 (.s 19) 1 false), .i (.mov 21 (.s 1)), .i (.mov 22 (.s 5)), .i (.iad 23 (.s 21) (.s 22) 1), .i (.ldh 24 (.s 23) 1 false), .i (.bin 25 .neq (.s 20) (.s 24))]) (.cond (.s 25) (.seq (.ops [.i (.mov 4 (.c (.val false [.bool false])))]) .ret) .skip))) (.ops [.i (.mov 15 (.s 5)), .i (.bin 16 .add (.s 15) (.c (.val false [.int .i64 1]))), .i (.mov 5 (.s 16))])))))) (.seq (.ops [.i (.mov 4 (.c (.val false [.bool true])))]) .ret))))⟩
def cEqSl (e gE : Nat) (ag : Bool) : AF := ⟨2, 5, [.tmp 4], (.seq (.ops [.i (.mov 4 (.c (.val false [.bool false])))]) (.seq (.seq (.ops [.i (.mov 6 (.s 0)), .i (.len 7 false (.s 6)), .i (.mov 8 (.s 1)), .i (.len 9 false (.s 8)), .i (.bin 10 .neq (.s 7) (.s 9))]) (.cond (.s 10) (.seq (.ops [.i (.mov 4 (.c (.val false [.bool false])))]) .ret) .skip)) (.seq (.seq (.ops [.i (.mov 5 (.c (.val false [.int .i64 0])))]) (.block 0 (.loop [26, 25, 24, 23, 22, 21, 20, 19, 18, 17, 16, 15, 14, 13, 12, 11] (.seq (.seq (.ops [.i (.mov 11 (.s 5)), .i (.mov 12 (.s 0)), .i (.len 13 false (.s 12)), .i (.bin 14 .lss (.s 11) (.s 13))]) (.cond (.s 14) .skip (.exit 0))) (.seq (.block 1 (.seq (.ops [.i (.mov 17 (.s 0)), .i (.mov 18 (.s 5)), .i (.iad 19 (.s 17) (.s 18) e), .i (.ldh 20 (.s 19) e ag), .i (.mov 21 (.s 1)), .i (.mov 22 (.s 5)), .i (.iad 23 (.s 21) (.s 22) e), .i (.ldh 24 (.s 23) e ag), .i (.call 26 gE false [(.s 20), (.s 24)]), .i (.not 26 (.s 25))]) (.cond (.s 26) (.seq (.ops [.i (.mov 4 (.c (.val false [.bool false])))]) .ret) .skip))) (.ops [.i (.mov 15 (.s 5)), .i (.bin 16 .add (.s 15) (.c (.val false [.int .i64 1]))), .i (.mov 5 (.s 16))])))))) (.seq (.ops [.i (.mov 4 (.c (.val false [.bool true])))]) .ret))))⟩
def cToLeaf (ty by_ : Nat) (z : C) : AF := ⟨1, 5, [.tmp 2], (.seq (.ops [.i (.mov 2 (.c (.val false [.nils])))]) (.seq (.ops [.i (.mov 5 (.s 0)), .i (.len 6 false (.s 5)), .i (.mks 7 ty 1 by_ [z] (.s 6)), .i (.mov 3 (.s 7))]) (.seq (.seq (.ops [.i (.mov 4 (.c (.val false [.int .i64 0])))]) (.block 0 (.loop [20, 19, 18, 17, 16, 15, 14, 13, 12, 11, 10, 9, 8] (.seq (.seq (.ops [.i (.mov 8 (.s 4)), .i (.mov 9 (.s 0)), .i (.len 10 false (.s 9)), .i (.bin 11 .lss (.s 8) (.s 10))]) (.cond (.s 11) .skip (.exit 0))) (.seq (.block 1 (.ops [.i (.mov 14 (.s 3)), .i (.mov 15 (.s 4)), .i (.mov 16 (.s 0)), .i (.mov 17 (.s 4)), .i (.iad 18 (.s 16) (.s 17) 1), .i (.ldh 19 (.s 18) 1 false), .i (.iad 20 (.s 14) (.s 15) 1), .i (.sth (.s 20) (.s 19) 1)])) (.ops [.i (.mov 12 (.s 4)), .i (.bin 13 .add (.s 12) (.c (.val false [.int .i64 1]))), .i (.mov 4 (.s 13))])))))) (.seq (.ops [.i (.mov 21 (.s 3)), .i (.mov 2 (.s 21))]) .ret))))⟩
def cToSl (ty e by_ gE : Nat) (z : List C) (ag : Bool) : AF := ⟨1, 5, [.tmp 2], (.seq (.ops [.i (.mov 2 (.c (.val false [.nils])))]) (.seq (.ops [.i (.mov 5 (.s 0)), .i (.len 6 false (.s 5)), .i (.mks 7 ty e by_ z (.s 6)), .i (.mov 3 (.s 7))]) (.seq (.seq (.ops [.i (.mov 4 (.c (.val false [.int .i64 0])))]) (.block 0 (.loop [21, 20, 19, 18, 17, 16, 15, 14, 13, 12, 11, 10, 9, 8] (.seq (.seq (.ops [.i (.mov 8 (.s 4)), .i (.mov 9 (.s 0)), .i (.len 10 false (.s 9)), .i (.bin 11 .lss (.s 8) (.s 10))]) (.cond (.s 11) .skip (.exit 0))) (.seq (.block 1 (.ops [.i (.mov 14 (.s 3)), .i (.mov 15 (.s 4)), .i (.mov 16 (.s 0)), .i (.mov 17 (.s 4)), .i (.iad 18 (.s 16) (.s 17) e), .i (.ldh 19 (.s 18) e ag), .i (.call 21 gE false [(.s 19)]), .i (.iad 21 (.s 14) (.s 15) e), .i (.sth (.s 21) (.s 20) e)])) (.ops [.i (.mov 12 (.s 4)), .i (.bin 13 .add (.s 12) (.c (.val false [.int .i64 1]))), .i (.mov 4 (.s 13))])))))) (.seq (.ops [.i (.mov 22 (.s 3)), .i (.mov 2 (.s 22))]) .ret))))⟩
def cMkLeaf (k : IntKind) : AF := ⟨2, 5, [.tmp 4], (.seq (.ops [.i (.mov 4 (.c (.val false [.int .i64 0])))]) (.seq (.seq (.ops [.i (.mov 5 (.c (.val false [.int .i64 0])))]) (.block 0 (.loop [18, 17, 16, 15, 14, 13, 12, 11, 10, 9, 8, 7, 6] (.seq (.seq (.ops [.i (.mov 6 (.s 5)), .i (.mov 7 (.s 0)), .i (.len 8 false (.s 7)), .i (.bin 9 .lss (.s 6) (.s 8))]) (.cond (.s 9) .skip (.exit 0))) (.seq (.block 1 (.seq (.ops [.i (.mov 12 (.s 0)), .i (.mov 13 (.s 5)), .i (.mov 14 (.s 1)), .i (.cvi 15 k (.s 14)), .i (.iad 16 (.s 12) (.s 13) 1), .i (.sth (.s 16) (.s 15) 1)]) (.ops [.i (.mov 17 (.s 1)), .i (.bin 18 .add (.s 17) (.c (.val false [.int .i64 1]))), .i (.mov 1 (.s 18))]))) (.ops [.i (.mov 10 (.s 5)), .i (.bin 11 .add (.s 10) (.c (.val false [.int .i64 1]))), .i (.mov 5 (.s 11))])))))) (.seq (.ops [.i (.mov 19 (.s 1)), .i (.mov 4 (.s 19))]) .ret)))⟩
def cHdLeaf (k : IntKind) : AF := ⟨2, 5, [.tmp 4], (.seq (.ops [.i (.mov 4 (.c (.val false [.int .i64 0])))]) (.seq (.seq (.ops [.i (.mov 5 (.c (.val false [.int .i64 0])))]) (.block 0 (.loop [20, 19, 18, 17, 16, 15, 14, 13, 12, 11, 10, 9, 8, 7, 6] (.seq (.seq (.ops [.i (.mov 6 (.s 5)), .i (.mov 7 (.s 0)), .i (.len 8 false (.s 7)), .i (.bin 9 .lss (.s 6) (.s 8))]) (.cond (.s 9) .skip (.exit 0))) (.seq (.block 1 (.seq (.seq (.ops [.i (.mov 12 (.s 0)), .i (.mov 13 (.s 5)), .i (.iad 14 (.s 12) (.s 13) 1), .i (.ldh 15 (.s 14) 1 false), .i (.mov 16 (.s 1)), .i (.cvi 17 k (.s 16)), .i (.bin 18 .neq (.s 15) (.s 17))]) (.cond (.s 18) (.seq (.ops [.i (.mov 4 (.c (.val false [.int .i64 (-1)])))]) .ret) .skip)) (.ops [.i (.mov 19 (.s 1)), .i (.bin 20 .add (.s 19) (.c (.val false [.int .i64 1]))), .i (.mov 1 (.s 20))]))) (.ops [.i (.mov 10 (.s 5)), .i (.bin 11 .add (.s 10) (.c (.val false [.int .i64 1]))), .i (.mov 5 (.s 11))])))))) (.seq (.ops [.i (.mov 21 (.s 1)), .i (.mov 4 (.s 21))]) .ret)))⟩
def cMkSl (gE : Nat) : AF := ⟨2, 5, [.tmp 4], (.seq (.ops [.i (.mov 4 (.c (.val false [.int .i64 0])))]) (.seq (.seq (.ops [.i (.mov 5 (.c (.val false [.int .i64 0])))]) (.block 0 (.loop [17, 16, 15, 14, 13, 12, 11, 10, 9, 8, 7, 6] (.seq (.seq (.ops [.i (.mov 6 (.s 5)), .i (.mov 7 (.s 0)), .i (.len 8 false (.s 7)), .i (.bin 9 .lss (.s 6) (.s 8))]) (.cond (.s 9) .skip (.exit 0))) (.seq (.block 1 (.ops [.i (.mov 12 (.s 0)), .i (.mov 13 (.s 5)), .i (.iad 14 (.s 12) (.s 13) 1), .i (.ldh 15 (.s 14) 1 false), .i (.mov 16 (.s 1)), .i (.call 18 gE false [(.s 15), (.s 16)]), .i (.mov 1 (.s 17))])) (.ops [.i (.mov 10 (.s 5)), .i (.bin 11 .add (.s 10) (.c (.val false [.int .i64 1]))), .i (.mov 5 (.s 11))])))))) (.seq (.ops [.i (.mov 18 (.s 1)), .i (.mov 4 (.s 18))]) .ret)))⟩
def cHdSl (gE : Nat) : AF := ⟨2, 5, [.tmp 4], (.seq (.ops [.i (.mov 4 (.c (.val false [.int .i64 0])))]) (.seq (.seq (.ops [.i (.mov 5 (.c (.val false [.int .i64 0])))]) (.block 0 (.loop [19, 18, 17, 16, 15, 14, 13, 12, 11, 10, 9, 8, 7, 6] (.seq (.seq (.ops [.i (.mov 6 (.s 5)), .i (.mov 7 (.s 0)), .i (.len 8 false (.s 7)), .i (.bin 9 .lss (.s 6) (.s 8))]) (.cond (.s 9) .skip (.exit 0))) (.seq (.block 1 (.seq (.ops [.i (.mov 12 (.s 0)), .i (.mov 13 (.s 5)), .i (.iad 14 (.s 12) (.s 13) 1), .i (.ldh 15 (.s 14) 1 false), .i (.mov 16 (.s 1)), .i (.call 18 gE false [(.s 15), (.s 16)]), .i (.mov 1 (.s 17))]) (.seq (.ops [.i (.mov 18 (.s 1)), .i (.bin 19 .lss (.s 18) (.c (.val false [.int .i64 0])))]) (.cond (.s 19) (.seq (.ops [.i (.mov 4 (.c (.val false [.int .i64 (-1)])))]) .ret) .skip)))) (.ops [.i (.mov 10 (.s 5)), .i (.bin 11 .add (.s 10) (.c (.val false [.int .i64 1]))), .i (.mov 5 (.s 11))])))))) (.seq (.ops [.i (.mov 20 (.s 1)), .i (.mov 4 (.s 20))]) .ret)))⟩
theorem wts_int {h : H} {k : IntKind} : ∀ {xs : List Tv} {cs : List C} {S : List Nat}, Elems (Rp h (.int k)) xs cs S → wts xs = 0 ∧ S = []
  | [], _, _, ⟨_, e⟩ => ⟨rfl, e⟩
  | x :: xs, _, _, ⟨c1, c2, S1, S2, _, h2, h3, h4⟩ => by
    obtain ⟨n, _, h5, h6, _⟩ := h3.int
    obtain ⟨h7, h8⟩ := wts_int h4
    exact ⟨by simp [wts, h5, wt, h7], by rw [h2, h6, h8]; rfl⟩
theorem sz_leaf {cd : Nat → Option AF} {g : Nat} (hg : cd g = some cSzLeaf) {kk : IntKind} : SzOk cd g (.sl (.int kk)) := by
  intro h cs v S k hv hk
  obtain ⟨c, xs, id, off, bs, S', rfl, rfl, hm, hl, hat, hce, hbs, hel, hS⟩ := hv.view
  have hw : wt (.l xs) = xs.length := by simp [wt, (wts_int hel).1]
  rw [hw]
  refine WS_enter hg rfl ?_
  simp (disch := omega) only [cSzLeaf, hl, w64, RR, RP, Ty.agg, Ty.size, eq_self, ne_eq, not_true, not_false_iff, reduceCtorEq, List.length_cons, List.length_nil, decide_true, decide_false, true_and, and_true, ite_true, ite_false, PT.full, enter0, setAll, forget, Fr.set, Fr.get, PT.get, PT.set, kof, ai, ev, ev1, evp, b_add, b_sub, b_mul, b_quo, b_rem, b_eql, b_neq, b_lss, b_leq, b_gtr, b_geq, b_seql, b_sneq, setD, resV, resL, res1, args, List.take_zero, List.drop_zero, List.take_nil, List.take_succ_cons, List.drop_succ_cons, Nat.reduceAdd, Nat.reduceLeDiff, reduceIte, Bool.not_true, Bool.not_false, Bool.false_eq_true, CA_some, Option.some.injEq, Nat.zero_add, Nat.mul_one, Nat.add_zero]
  refine BR_dec (fun hb => ?_) (fun hb => ?_)
  · simp (disch := omega) only [cSzLeaf, w64, RR, RP, Ty.agg, Ty.size, eq_self, ne_eq, not_true, not_false_iff, reduceCtorEq, List.length_cons, List.length_nil, decide_true, decide_false, true_and, and_true, ite_true, ite_false, PT.full, enter0, setAll, forget, Fr.set, Fr.get, PT.get, PT.set, kof, ai, ev, ev1, evp, b_add, b_sub, b_mul, b_quo, b_rem, b_eql, b_neq, b_lss, b_leq, b_gtr, b_geq, b_seql, b_sneq, setD, resV, resL, res1, args, List.take_zero, List.drop_zero, List.take_nil, List.take_succ_cons, List.drop_succ_cons, Nat.reduceAdd, Nat.reduceLeDiff, reduceIte, Bool.not_true, Bool.not_false, Bool.false_eq_true, CA_some, Option.some.injEq, Nat.zero_add, Nat.mul_one, Nat.add_zero]
    rw [if_neg (by omega)]
  · simp (disch := omega) only [cSzLeaf, w64, RR, RP, Ty.agg, Ty.size, eq_self, ne_eq, not_true, not_false_iff, reduceCtorEq, List.length_cons, List.length_nil, decide_true, decide_false, true_and, and_true, ite_true, ite_false, PT.full, enter0, setAll, forget, Fr.set, Fr.get, PT.get, PT.set, kof, ai, ev, ev1, evp, b_add, b_sub, b_mul, b_quo, b_rem, b_eql, b_neq, b_lss, b_leq, b_gtr, b_geq, b_seql, b_sneq, setD, resV, resL, res1, args, List.take_zero, List.drop_zero, List.take_nil, List.take_succ_cons, List.drop_succ_cons, Nat.reduceAdd, Nat.reduceLeDiff, reduceIte, Bool.not_true, Bool.not_false, Bool.false_eq_true, CA_some, Option.some.injEq, Nat.zero_add, Nat.mul_one, Nat.add_zero]
    rw [if_pos (by omega)]
theorem eq_leaf {cd : Nat → Option AF} {g : Nat} (hcd : cd g = some cEqLeaf) {kk : IntKind} : EqOk cd g (.sl (.int kk)) := by
  intro h ca cb va vb Sa Sb ha hb
  obtain ⟨c1, xs, id1, off1, bs1, S1, rfl, rfl, hm1, hl1, hat1, hce1, hbs1, hel1, hS1⟩ := ha.view
  obtain ⟨c2, ys, id2, off2, bs2, S2, rfl, rfl, hm2, hl2, hat2, hce2, hbs2, hel2, hS2⟩ := hb.view
  refine WS_enter hcd rfl ?_
  simp (disch := omega) only [cEqLeaf, hl1, hl2, w64, RR, RP, Ty.agg, Ty.size, eq_self, ne_eq, not_true, not_false_iff, reduceCtorEq, List.length_cons, List.length_nil, decide_true, decide_false, true_and, and_true, ite_true, ite_false, PT.full, enter0, setAll, forget, Fr.set, Fr.get, PT.get, PT.set, kof, ai, ev, ev1, evp, b_add, b_sub, b_mul, b_quo, b_rem, b_eql, b_neq, b_lss, b_leq, b_gtr, b_geq, b_seql, b_sneq, setD, resV, resL, res1, args, List.take_zero, List.drop_zero, List.take_nil, List.take_succ_cons, List.drop_succ_cons, Nat.reduceAdd, Nat.reduceLeDiff, reduceIte, Bool.not_true, Bool.not_false, Bool.false_eq_true, CA_some, Option.some.injEq, Nat.zero_add, Nat.mul_one, Nat.add_zero]
  refine BR_dec (fun hne => ?_) (fun hne => ?_)
  · simp (disch := omega) only [cEqLeaf, RR, RP, Ty.agg, Ty.size, eq_self, ne_eq, not_true, not_false_iff, reduceCtorEq, List.length_cons, List.length_nil, decide_true, decide_false, true_and, and_true, ite_true, ite_false, PT.full, enter0, setAll, forget, Fr.set, Fr.get, PT.get, PT.set, kof, ai, ev, ev1, evp, b_add, b_sub, b_mul, b_quo, b_rem, b_eql, b_neq, b_lss, b_leq, b_gtr, b_geq, b_seql, b_sneq, setD, resV, resL, res1, args, List.take_zero, List.drop_zero, List.take_nil, List.take_succ_cons, List.drop_succ_cons, Nat.reduceAdd, Nat.reduceLeDiff, reduceIte, Bool.not_true, Bool.not_false, Bool.false_eq_true, CA_some, Option.some.injEq, Nat.zero_add, Nat.mul_one, Nat.add_zero]
    have : ¬ xs = ys := fun e => hne (by rw [e])
    simp [this]
  · have hlen : xs.length = ys.length := by omega
    simp (disch := omega) only [cEqLeaf, RR, RP, Ty.agg, Ty.size, eq_self, ne_eq, not_true, not_false_iff, reduceCtorEq, List.length_cons, List.length_nil, decide_true, decide_false, true_and, and_true, ite_true, ite_false, PT.full, enter0, setAll, forget, Fr.set, Fr.get, PT.get, PT.set, kof, ai, ev, ev1, evp, b_add, b_sub, b_mul, b_quo, b_rem, b_eql, b_neq, b_lss, b_leq, b_gtr, b_geq, b_seql, b_sneq, setD, resV, resL, res1, args, List.take_zero, List.drop_zero, List.take_nil, List.take_succ_cons, List.drop_succ_cons, Nat.reduceAdd, Nat.reduceLeDiff, reduceIte, Bool.not_true, Bool.not_false, Bool.false_eq_true, CA_some, Option.some.injEq, Nat.zero_add, Nat.mul_one, Nat.add_zero]
    refine WS_loop2 (σ := Nat) (f1 := _) (by simp only [RR, RP, Ty.agg, Ty.size, eq_self, ne_eq, not_true, not_false_iff, reduceCtorEq, List.length_cons, List.length_nil, decide_true, decide_false, true_and, and_true, ite_true, ite_false, PT.full, enter0, setAll, forget, Fr.set, Fr.get, PT.get, PT.set, kof, ai, ev, ev1, evp, b_add, b_sub, b_mul, b_quo, b_rem, b_eql, b_neq, b_lss, b_leq, b_gtr, b_geq, b_seql, b_sneq, setD, resV, resL, res1, args, List.take_zero, List.drop_zero, List.take_nil, List.take_succ_cons, List.drop_succ_cons, Nat.reduceAdd, Nat.reduceLeDiff, reduceIte, Bool.not_true, Bool.not_false, Bool.false_eq_true, CA_some, Option.some.injEq, Nat.zero_add, Nat.mul_one, Nat.add_zero]; rfl) (fun i => [(5, .val false [.int .i64 i])]) (fun i g h' => g = xs.length - i ∧ i ≤ xs.length ∧ h' = h ∧ ∀ j, j < i → xs[j]? = ys[j]?) 0 xs.length (by simp only [RR, RP, Ty.agg, Ty.size, eq_self, ne_eq, not_true, not_false_iff, reduceCtorEq, List.length_cons, List.length_nil, decide_true, decide_false, true_and, and_true, ite_true, ite_false, PT.full, enter0, setAll, forget, Fr.set, Fr.get, PT.get, PT.set, kof, ai, ev, ev1, evp, b_add, b_sub, b_mul, b_quo, b_rem, b_eql, b_neq, b_lss, b_leq, b_gtr, b_geq, b_seql, b_sneq, setD, resV, resL, res1, args, List.take_zero, List.drop_zero, List.take_nil, List.take_succ_cons, List.drop_succ_cons, Nat.reduceAdd, Nat.reduceLeDiff, reduceIte, Bool.not_true, Bool.not_false, Bool.false_eq_true, CA_some, Option.some.injEq, Nat.zero_add, Nat.mul_one, Nat.add_zero]; rfl) ⟨by omega, by omega, rfl, fun j hj => by omega⟩ ?_
    rintro i g h' ⟨hg, hi, rfl, hall⟩
    simp (disch := omega) only [cEqLeaf, hl1, hl2, w64, RR, RP, Ty.agg, Ty.size, eq_self, ne_eq, not_true, not_false_iff, reduceCtorEq, List.length_cons, List.length_nil, decide_true, decide_false, true_and, and_true, ite_true, ite_false, PT.full, enter0, setAll, forget, Fr.set, Fr.get, PT.get, PT.set, kof, ai, ev, ev1, evp, b_add, b_sub, b_mul, b_quo, b_rem, b_eql, b_neq, b_lss, b_leq, b_gtr, b_geq, b_seql, b_sneq, setD, resV, resL, res1, args, List.take_zero, List.drop_zero, List.take_nil, List.take_succ_cons, List.drop_succ_cons, Nat.reduceAdd, Nat.reduceLeDiff, reduceIte, Bool.not_true, Bool.not_false, Bool.false_eq_true, CA_some, Option.some.injEq, Nat.zero_add, Nat.mul_one, Nat.add_zero]
    refine BR_dec (fun hlt => ?_) (fun hlt => ?_)
    · have hix : i < xs.length := by omega
      have hiy : i < ys.length := by omega
      obtain ⟨_, k1⟩ := hel1.at hix
      obtain ⟨a, k1, k2, _⟩ := k1.int
      obtain ⟨_, q1⟩ := hel2.at hiy
      obtain ⟨b, q1, q2, _⟩ := q1.int
      simp only [Ty.size, Nat.mul_one] at k1 q1 hat1 hat2 hbs1 hbs2
      simp (disch := omega) only [cEqLeaf, hl1, hl2, hat1 i hix, hat2 i hiy, (hce1 (by omega)).1, (hce2 (by omega)).1, k1, q1, ifT, w64, RR, RP, Ty.agg, Ty.size, eq_self, ne_eq, not_true, not_false_iff, reduceCtorEq, List.length_cons, List.length_nil, decide_true, decide_false, true_and, and_true, ite_true, ite_false, PT.full, enter0, setAll, forget, Fr.set, Fr.get, PT.get, PT.set, kof, ai, ev, ev1, evp, b_add, b_sub, b_mul, b_quo, b_rem, b_eql, b_neq, b_lss, b_leq, b_gtr, b_geq, b_seql, b_sneq, setD, resV, resL, res1, args, List.take_zero, List.drop_zero, List.take_nil, List.take_succ_cons, List.drop_succ_cons, Nat.reduceAdd, Nat.reduceLeDiff, reduceIte, Bool.not_true, Bool.not_false, Bool.false_eq_true, CA_some, Option.some.injEq, Nat.zero_add, Nat.mul_one, Nat.add_zero]
      refine BR_dec (fun hne => ?_) (fun hne => ?_)
      · simp (disch := omega) only [cEqLeaf, RR, RP, Ty.agg, Ty.size, eq_self, ne_eq, not_true, not_false_iff, reduceCtorEq, List.length_cons, List.length_nil, decide_true, decide_false, true_and, and_true, ite_true, ite_false, PT.full, enter0, setAll, forget, Fr.set, Fr.get, PT.get, PT.set, kof, ai, ev, ev1, evp, b_add, b_sub, b_mul, b_quo, b_rem, b_eql, b_neq, b_lss, b_leq, b_gtr, b_geq, b_seql, b_sneq, setD, resV, resL, res1, args, List.take_zero, List.drop_zero, List.take_nil, List.take_succ_cons, List.drop_succ_cons, Nat.reduceAdd, Nat.reduceLeDiff, reduceIte, Bool.not_true, Bool.not_false, Bool.false_eq_true, CA_some, Option.some.injEq, Nat.zero_add, Nat.mul_one, Nat.add_zero]
        have : ¬ xs = ys := fun e => by
          subst e
          rw [k2] at q2
          cases q2
          exact hne rfl
        simp [this]
      · simp (disch := omega) only [cEqLeaf, w64, RR, RP, Ty.agg, Ty.size, eq_self, ne_eq, not_true, not_false_iff, reduceCtorEq, List.length_cons, List.length_nil, decide_true, decide_false, true_and, and_true, ite_true, ite_false, PT.full, enter0, setAll, forget, Fr.set, Fr.get, PT.get, PT.set, kof, ai, ev, ev1, evp, b_add, b_sub, b_mul, b_quo, b_rem, b_eql, b_neq, b_lss, b_leq, b_gtr, b_geq, b_seql, b_sneq, setD, resV, resL, res1, args, List.take_zero, List.drop_zero, List.take_nil, List.take_succ_cons, List.drop_succ_cons, Nat.reduceAdd, Nat.reduceLeDiff, reduceIte, Bool.not_true, Bool.not_false, Bool.false_eq_true, CA_some, Option.some.injEq, Nat.zero_add, Nat.mul_one, Nat.add_zero]
        refine ⟨i + 1, xs.length - (i + 1), by omega, rfl, rfl, by omega, fun j hj => ?_⟩
        by_cases e : j = i
        · subst e
          rw [List.getElem?_eq_getElem hix, List.getElem?_eq_getElem hiy, k2, q2]
          have : a = b := by omega
          rw [this]
        · exact hall j (by omega)
    · simp (disch := omega) only [cEqLeaf, RR, RP, Ty.agg, Ty.size, eq_self, ne_eq, not_true, not_false_iff, reduceCtorEq, List.length_cons, List.length_nil, decide_true, decide_false, true_and, and_true, ite_true, ite_false, PT.full, enter0, setAll, forget, Fr.set, Fr.get, PT.get, PT.set, kof, ai, ev, ev1, evp, b_add, b_sub, b_mul, b_quo, b_rem, b_eql, b_neq, b_lss, b_leq, b_gtr, b_geq, b_seql, b_sneq, setD, resV, resL, res1, args, List.take_zero, List.drop_zero, List.take_nil, List.take_succ_cons, List.drop_succ_cons, Nat.reduceAdd, Nat.reduceLeDiff, reduceIte, Bool.not_true, Bool.not_false, Bool.false_eq_true, CA_some, Option.some.injEq, Nat.zero_add, Nat.mul_one, Nat.add_zero]
      have : xs = ys := List.ext_getElem? fun j => by
        by_cases hj : j < i
        · exact hall j hj
        · rw [List.getElem?_eq_none (by omega), List.getElem?_eq_none (by omega)]
      simp [this]
theorem to_leaf {cd : Nat → Option AF} {g ty by_ : Nat} {kk : IntKind} (hcd : cd g = some (cToLeaf ty by_ (.int kk 0))) (hby : by_ ≤ 8) : ToOk cd g (.sl (.int kk)) := by
  intro h cs v S hv hw
  obtain ⟨c, xs, id, off, bs, S', rfl, rfl, hm, hl, hat, hce, hbs, hel, hS⟩ := hv.view
  have hn : xs.length ≤ 1048576 := by simp only [wt] at hw; omega
  simp only [Ty.size, Nat.mul_one] at hat hbs hel
  have hsl : ((bs.drop off).take xs.length).length = xs.length := by simp; omega
  have hroom : inRoom (xs.length * by_ + xs.length) = true := room_of (by have := Nat.mul_le_mul hn hby; omega)
  refine WS_enter hcd rfl ?_
  simp (disch := omega) only [cToLeaf, hl, w64, Int.toNat_natCast, hroom, ifT, Int.natCast_nonneg, rep_one, RR, RP, Ty.agg, Ty.size, eq_self, ne_eq, not_true, not_false_iff, reduceCtorEq, List.length_cons, List.length_nil, decide_true, decide_false, true_and, and_true, ite_true, ite_false, PT.full, enter0, setAll, forget, Fr.set, Fr.get, PT.get, PT.set, kof, ai, ev, ev1, evp, b_add, b_sub, b_mul, b_quo, b_rem, b_eql, b_neq, b_lss, b_leq, b_gtr, b_geq, b_seql, b_sneq, setD, resV, resL, res1, args, List.take_zero, List.drop_zero, List.take_nil, List.take_succ_cons, List.drop_succ_cons, Nat.reduceAdd, Nat.reduceLeDiff, reduceIte, Bool.not_true, Bool.not_false, Bool.false_eq_true, CA_some, Option.some.injEq, Nat.zero_add, Nat.mul_one, Nat.add_zero]
  refine WS_loop2 (σ := Nat) (f1 := _) (by simp only [RR, RP, Ty.agg, Ty.size, eq_self, ne_eq, not_true, not_false_iff, reduceCtorEq, List.length_cons, List.length_nil, decide_true, decide_false, true_and, and_true, ite_true, ite_false, PT.full, enter0, setAll, forget, Fr.set, Fr.get, PT.get, PT.set, kof, ai, ev, ev1, evp, b_add, b_sub, b_mul, b_quo, b_rem, b_eql, b_neq, b_lss, b_leq, b_gtr, b_geq, b_seql, b_sneq, setD, resV, resL, res1, args, List.take_zero, List.drop_zero, List.take_nil, List.take_succ_cons, List.drop_succ_cons, Nat.reduceAdd, Nat.reduceLeDiff, reduceIte, Bool.not_true, Bool.not_false, Bool.false_eq_true, CA_some, Option.some.injEq, Nat.zero_add, Nat.mul_one, Nat.add_zero]; rfl) (fun i => [(4, .val false [.int .i64 i])])
    (fun i g h' => g = xs.length - i ∧ i ≤ xs.length ∧ h' = h ++ [.own ty (((bs.drop off).take xs.length).take i ++ List.replicate (xs.length - i) (.int kk 0))]) 0 xs.length (by simp only [RR, RP, Ty.agg, Ty.size, eq_self, ne_eq, not_true, not_false_iff, reduceCtorEq, List.length_cons, List.length_nil, decide_true, decide_false, true_and, and_true, ite_true, ite_false, PT.full, enter0, setAll, forget, Fr.set, Fr.get, PT.get, PT.set, kof, ai, ev, ev1, evp, b_add, b_sub, b_mul, b_quo, b_rem, b_eql, b_neq, b_lss, b_leq, b_gtr, b_geq, b_seql, b_sneq, setD, resV, resL, res1, args, List.take_zero, List.drop_zero, List.take_nil, List.take_succ_cons, List.drop_succ_cons, Nat.reduceAdd, Nat.reduceLeDiff, reduceIte, Bool.not_true, Bool.not_false, Bool.false_eq_true, CA_some, Option.some.injEq, Nat.zero_add, Nat.mul_one, Nat.add_zero]; rfl) ⟨by omega, by omega, by simp⟩ ?_
  rintro i g h' ⟨hg, hi, rfl⟩
  simp (disch := omega) only [cToLeaf, hl, w64, RR, RP, Ty.agg, Ty.size, eq_self, ne_eq, not_true, not_false_iff, reduceCtorEq, List.length_cons, List.length_nil, decide_true, decide_false, true_and, and_true, ite_true, ite_false, PT.full, enter0, setAll, forget, Fr.set, Fr.get, PT.get, PT.set, kof, ai, ev, ev1, evp, b_add, b_sub, b_mul, b_quo, b_rem, b_eql, b_neq, b_lss, b_leq, b_gtr, b_geq, b_seql, b_sneq, setD, resV, resL, res1, args, List.take_zero, List.drop_zero, List.take_nil, List.take_succ_cons, List.drop_succ_cons, Nat.reduceAdd, Nat.reduceLeDiff, reduceIte, Bool.not_true, Bool.not_false, Bool.false_eq_true, CA_some, Option.some.injEq, Nat.zero_add, Nat.mul_one, Nat.add_zero]
  refine BR_dec (fun hlt => ?_) (fun hlt => ?_)
  · have hix : i < xs.length := by omega
    have hcells := cells_more (hce (by omega)).1
    have hone := part_one (show off + i < bs.length by omega)
    have hset := set_next (l := (bs.drop off).take xs.length) (z := .int kk 0) hsl hix
    have hget : ((bs.drop off).take xs.length)[i]'(by omega) = bs[off + i]'(by omega) := by simp
    rw [hget] at hset
    simp (disch := omega) only [cToLeaf, hl, hat i hix, hcells, hone, hset, get_last, set_last, atC_sl, setL_one, ifT, w64, Int.toNat_natCast, List.length_append, List.length_take, List.length_replicate, List.length_drop, RR, RP, Ty.agg, Ty.size, eq_self, ne_eq, not_true, not_false_iff, reduceCtorEq, List.length_cons, List.length_nil, decide_true, decide_false, true_and, and_true, ite_true, ite_false, PT.full, enter0, setAll, forget, Fr.set, Fr.get, PT.get, PT.set, kof, ai, ev, ev1, evp, b_add, b_sub, b_mul, b_quo, b_rem, b_eql, b_neq, b_lss, b_leq, b_gtr, b_geq, b_seql, b_sneq, setD, resV, resL, res1, args, List.take_zero, List.drop_zero, List.take_nil, List.take_succ_cons, List.drop_succ_cons, Nat.reduceAdd, Nat.reduceLeDiff, reduceIte, Bool.not_true, Bool.not_false, Bool.false_eq_true, CA_some, Option.some.injEq, Nat.zero_add, Nat.mul_one, Nat.add_zero]
    exact ⟨i + 1, xs.length - (i + 1), by omega, rfl, rfl, by omega, rfl⟩
  · simp (disch := omega) only [cToLeaf, RR, RP, Ty.agg, Ty.size, eq_self, ne_eq, not_true, not_false_iff, reduceCtorEq, List.length_cons, List.length_nil, decide_true, decide_false, true_and, and_true, ite_true, ite_false, PT.full, enter0, setAll, forget, Fr.set, Fr.get, PT.get, PT.set, kof, ai, ev, ev1, evp, b_add, b_sub, b_mul, b_quo, b_rem, b_eql, b_neq, b_lss, b_leq, b_gtr, b_geq, b_seql, b_sneq, setD, resV, resL, res1, args, List.take_zero, List.drop_zero, List.take_nil, List.take_succ_cons, List.drop_succ_cons, Nat.reduceAdd, Nat.reduceLeDiff, reduceIte, Bool.not_true, Bool.not_false, Bool.false_eq_true, CA_some, Option.some.injEq, Nat.zero_add, Nat.mul_one, Nat.add_zero]
    have hi' : i = xs.length := by omega
    subst hi'
    refine ⟨_, [.sl h.length 0 xs.length 1], [h.length], rfl, rfl, ?_, ⟨by simp, fun j hj => ?_⟩, fun j hj => ?_⟩
    · refine ⟨xs, rfl, by simp only [maxLen]; omega, .inr ⟨h.length, 0, _, [], 1, rfl, cells_own (get_last h _ []), by simp [Ty.size]; omega, rfl, ?_, .inl rfl⟩⟩
      have e1 : (List.drop 0 (((bs.drop off).take xs.length).take xs.length ++ List.replicate (xs.length - xs.length) (C.int kk 0))).take (xs.length * (Ty.int kk).size) = (bs.drop off).take xs.length := by
        simp [Ty.size, List.take_take]
      rw [e1]
      have e2 := (wts_int hel).2
      subst e2
      exact hel.imp fun c x S' _ hx => hx.app
    · simp at hj
      subst hj
      exact ⟨_, _, get_last h _ []⟩
    · simp at hj; omega
theorem mkL_int {k : IntKind} : ∀ (xs : List Tv) (n : Nat), mkL (mkE (.int k)) (cnE (.int k)) xs n = (List.range xs.length).map fun j => Tv.i (k.wrap ((n + j : Nat) : Int))
  | [], n => rfl
  | x :: xs, n => by
    have e : mkL (mkE (.int k)) (cnE (.int k)) (x :: xs) n = Tv.i (k.wrap (n : Int)) :: mkL (mkE (.int k)) (cnE (.int k)) xs (n + 1) := rfl
    rw [e, mkL_int xs, List.length_cons, List.range_succ_eq_map, List.map_cons, List.map_map]
    congr 1
    apply List.map_congr_left
    intro j _
    simp only [Function.comp, Nat.succ_eq_add_one]
    congr 3
    omega
theorem cn_int {k : IntKind} : ∀ (xs : List Tv), (xs.map (cnE (.int k))).sum = xs.length
  | [] => rfl
  | x :: xs => by
    have e : ((x :: xs).map (cnE (.int k))).sum = 1 + (xs.map (cnE (.int k))).sum := rfl
    rw [e, cn_int xs, List.length_cons]
    omega
/-- Numbers side by side. -/
theorem elems_ints {h : H} {k : IntKind} : ∀ {ns : List Int} {cs : List C}, cs = ns.map (.int k) → (∀ n ∈ ns, k.min ≤ n ∧ n ≤ k.max) → Elems (Rp h (.int k)) (ns.map .i) cs []
  | [], cs, h, _ => ⟨by rw [h]; rfl, rfl⟩
  | n :: ns, cs, h, hr => ⟨[.int k n], ns.map (.int k), [], [], by rw [h]; rfl, rfl, ⟨n, rfl, rfl, rfl, (hr n (by simp)).1, (hr n (by simp)).2⟩, elems_ints rfl fun m hm => hr m (by simp [hm])⟩
theorem wrap_in (k : IntKind) (n : Int) : k.min ≤ k.wrap n ∧ k.wrap n ≤ k.max := by
  have := wf_wrap k n
  simpa [Lit.wf] using this
theorem mk_leaf {cd : Nat → Option AF} {g0 : Nat} {kk : IntKind} (hcd : cd g0 = some (cMkLeaf kk)) : MkOk cd g0 (.sl (.int kk)) := by
  intro h cs v S k hv ho hk
  obtain ⟨c, xs, id, off, bs, S', rfl, rfl, hm, hl, hat, hce, hbs, hel, hS⟩ := hv.view
  have hS' := (wts_int hel).2
  subst hS'
  have hcn : cnT (.sl (.int kk)) (.l xs) = xs.length := by simp only [cnT]; exact cn_int xs
  rw [hcn] at hk ⊢
  simp only [Ty.size, Nat.mul_one] at hat hbs hel
  -- the block, as it is at every round
  have hown : 0 < xs.length → ∃ ty, h[id]? = some (.own ty bs) := fun hp => by
    rcases hS with hS | ⟨e, _⟩
    · obtain ⟨ty, cs, e⟩ := ho.2 id (by rw [hS]; simp)
      have := (hce hp).1
      rw [cells_own e] at this
      cases this
      exact ⟨ty, e⟩
    · subst e; simp at hp
  obtain ⟨ty, hty⟩ : ∃ ty, 0 < xs.length → h[id]? = some (.own ty bs) := by
    by_cases hp : 0 < xs.length
    · obtain ⟨ty, e⟩ := hown hp
      exact ⟨ty, fun _ => e⟩
    · exact ⟨0, fun e => absurd e hp⟩
  refine WS_enter hcd rfl ?_
  simp (disch := omega) only [cMkLeaf, RR, RP, Ty.agg, Ty.size, eq_self, ne_eq, not_true, not_false_iff, reduceCtorEq, List.length_cons, List.length_nil, decide_true, decide_false, true_and, and_true, ite_true, ite_false, PT.full, enter0, setAll, forget, Fr.set, Fr.get, PT.get, PT.set, kof, ai, ev, ev1, evp, b_add, b_sub, b_mul, b_quo, b_rem, b_eql, b_neq, b_lss, b_leq, b_gtr, b_geq, b_seql, b_sneq, setD, resV, resL, res1, args, List.take_zero, List.drop_zero, List.take_nil, List.take_succ_cons, List.drop_succ_cons, Nat.reduceAdd, Nat.reduceLeDiff, reduceIte, Bool.not_true, Bool.not_false, Bool.false_eq_true, CA_some, Option.some.injEq, Nat.zero_add, Nat.mul_one, Nat.add_zero]
  refine WS_loop2 (σ := Nat) (f1 := _) (by simp only [RR, RP, Ty.agg, Ty.size, eq_self, ne_eq, not_true, not_false_iff, reduceCtorEq, List.length_cons, List.length_nil, decide_true, decide_false, true_and, and_true, ite_true, ite_false, PT.full, enter0, setAll, forget, Fr.set, Fr.get, PT.get, PT.set, kof, ai, ev, ev1, evp, b_add, b_sub, b_mul, b_quo, b_rem, b_eql, b_neq, b_lss, b_leq, b_gtr, b_geq, b_seql, b_sneq, setD, resV, resL, res1, args, List.take_zero, List.drop_zero, List.take_nil, List.take_succ_cons, List.drop_succ_cons, Nat.reduceAdd, Nat.reduceLeDiff, reduceIte, Bool.not_true, Bool.not_false, Bool.false_eq_true, CA_some, Option.some.injEq, Nat.zero_add, Nat.mul_one, Nat.add_zero]; rfl) (fun i => [(5, .val false [.int .i64 i]), (1, .val false [.int .i64 ((k + i : Nat) : Int)])])
    (fun i g h' => g = xs.length - i ∧ i ≤ xs.length ∧ (i = 0 → h' = h) ∧ (0 < i → h' = h.set id (.own ty (setL bs off ((List.range i).map fun j => C.int kk (kk.wrap ((k + j : Nat) : Int))))))) 0 xs.length (by simp only [RR, RP, Ty.agg, Ty.size, eq_self, ne_eq, not_true, not_false_iff, reduceCtorEq, List.length_cons, List.length_nil, decide_true, decide_false, true_and, and_true, ite_true, ite_false, PT.full, enter0, setAll, forget, Fr.set, Fr.get, PT.get, PT.set, kof, ai, ev, ev1, evp, b_add, b_sub, b_mul, b_quo, b_rem, b_eql, b_neq, b_lss, b_leq, b_gtr, b_geq, b_seql, b_sneq, setD, resV, resL, res1, args, List.take_zero, List.drop_zero, List.take_nil, List.take_succ_cons, List.drop_succ_cons, Nat.reduceAdd, Nat.reduceLeDiff, reduceIte, Bool.not_true, Bool.not_false, Bool.false_eq_true, CA_some, Option.some.injEq, Nat.zero_add, Nat.mul_one, Nat.add_zero]; rfl) ⟨by omega, by omega, fun _ => rfl, fun e => by omega⟩ ?_
  rintro i g h' ⟨hg, hi, h0, h1⟩
  simp (disch := omega) only [cMkLeaf, hl, w64, RR, RP, Ty.agg, Ty.size, eq_self, ne_eq, not_true, not_false_iff, reduceCtorEq, List.length_cons, List.length_nil, decide_true, decide_false, true_and, and_true, ite_true, ite_false, PT.full, enter0, setAll, forget, Fr.set, Fr.get, PT.get, PT.set, kof, ai, ev, ev1, evp, b_add, b_sub, b_mul, b_quo, b_rem, b_eql, b_neq, b_lss, b_leq, b_gtr, b_geq, b_seql, b_sneq, setD, resV, resL, res1, args, List.take_zero, List.drop_zero, List.take_nil, List.take_succ_cons, List.drop_succ_cons, Nat.reduceAdd, Nat.reduceLeDiff, reduceIte, Bool.not_true, Bool.not_false, Bool.false_eq_true, CA_some, Option.some.injEq, Nat.zero_add, Nat.mul_one, Nat.add_zero]
  refine BR_dec (fun hlt => ?_) (fun hlt => ?_)
  · have hix : i < xs.length := by omega
    have hidlt : id < h.length := lt_of_cells (hce (by omega)).1
    have hb : ∃ cs, h'[id]? = some (.own ty cs) ∧ cs = setL bs off ((List.range i).map fun j => C.int kk (kk.wrap ((k + j : Nat) : Int))) ∧ ∀ b, h'.set id b = h.set id b := by
      by_cases hi0 : i = 0
      · have := h0 hi0
        subst this
        subst hi0
        exact ⟨bs, hty (by omega), rfl, fun b => rfl⟩
      · have := h1 (by omega)
        subst this
        exact ⟨_, set_get hidlt, rfl, fun b => by rw [List.set_set]⟩
    obtain ⟨cs, hb1, hb2, hb3⟩ := hb
    have hcl : cs.length = bs.length := by rw [hb2, setL_length]
    simp (disch := omega) only [cMkLeaf, hl, hat i hix, hb1, hb3, setL_one, ifT, w64, hcl, RR, RP, Ty.agg, Ty.size, eq_self, ne_eq, not_true, not_false_iff, reduceCtorEq, List.length_cons, List.length_nil, decide_true, decide_false, true_and, and_true, ite_true, ite_false, PT.full, enter0, setAll, forget, Fr.set, Fr.get, PT.get, PT.set, kof, ai, ev, ev1, evp, b_add, b_sub, b_mul, b_quo, b_rem, b_eql, b_neq, b_lss, b_leq, b_gtr, b_geq, b_seql, b_sneq, setD, resV, resL, res1, args, List.take_zero, List.drop_zero, List.take_nil, List.take_succ_cons, List.drop_succ_cons, Nat.reduceAdd, Nat.reduceLeDiff, reduceIte, Bool.not_true, Bool.not_false, Bool.false_eq_true, CA_some, Option.some.injEq, Nat.zero_add, Nat.mul_one, Nat.add_zero]
    refine ⟨i + 1, xs.length - (i + 1), by omega, rfl, rfl, by omega, fun e => by omega, fun _ => ?_⟩
    have e1 := setL_snoc (C.int kk (kk.wrap ((k + i : Nat) : Int))) ((List.range i).map fun j => C.int kk (kk.wrap ((k + j : Nat) : Int))) bs off
    rw [List.length_map, List.length_range] at e1
    rw [hb2, List.range_succ, List.map_append, List.map_singleton, e1]
  · have hi' : i = xs.length := by omega
    subst hi'
    simp (disch := omega) only [cMkLeaf, RR, RP, Ty.agg, Ty.size, eq_self, ne_eq, not_true, not_false_iff, reduceCtorEq, List.length_cons, List.length_nil, decide_true, decide_false, true_and, and_true, ite_true, ite_false, PT.full, enter0, setAll, forget, Fr.set, Fr.get, PT.get, PT.set, kof, ai, ev, ev1, evp, b_add, b_sub, b_mul, b_quo, b_rem, b_eql, b_neq, b_lss, b_leq, b_gtr, b_geq, b_seql, b_sneq, setD, resV, resL, res1, args, List.take_zero, List.drop_zero, List.take_nil, List.take_succ_cons, List.drop_succ_cons, Nat.reduceAdd, Nat.reduceLeDiff, reduceIte, Bool.not_true, Bool.not_false, Bool.false_eq_true, CA_some, Option.some.injEq, Nat.zero_add, Nat.mul_one, Nat.add_zero]
    have hml : ((List.range xs.length).map fun j => C.int kk (kk.wrap ((k + j : Nat) : Int))).length = xs.length := by simp
    by_cases hp : 0 < xs.length
    · have hidlt : id < h.length := lt_of_cells (hce hp).1
      have hSid : S = [id] := by
        rcases hS with e | ⟨e, _⟩
        · exact e
        · subst e; simp at hp
      rw [h1 hp]
      subst hSid
      refine ⟨⟨by simp, fun j hj => set_get_ne (by simpa using hj), fun j hj => ?_⟩, ?_⟩
      · simp at hj
        subst hj
        exact ⟨_, _, set_get hidlt⟩
      · refine ⟨_, rfl, ?_, .inr ⟨id, off, _, [], 1, ?_, cells_own (set_get hidlt), ?_, rfl, ?_, .inl rfl⟩⟩
        · simp only [mkL_int, List.length_map, List.length_range, maxLen]; omega
        · rw [(hce hp).2]; simp [mkL_int, Ty.size]
        · simp only [mkL_int, List.length_map, List.length_range, setL_length, Ty.size]; omega
        · rw [mkL_int]
          simp only [List.length_map, List.length_range, Ty.size, Nat.mul_one]
          have e2 := setL_read (l := (List.range xs.length).map fun j => C.int kk (kk.wrap ((k + j : Nat) : Int))) (cs := bs) (o := off) (by rw [hml]; omega)
          rw [hml] at e2
          rw [e2]
          have e3 : ((List.range xs.length).map fun j => Tv.i (kk.wrap ((k + j : Nat) : Int))) = ((List.range xs.length).map fun j => kk.wrap ((k + j : Nat) : Int)).map .i := by rw [List.map_map]; rfl
          rw [e3]
          refine elems_ints (by rw [List.map_map]; rfl) fun n hn => ?_
          obtain ⟨j, _, rfl⟩ := List.mem_map.1 hn
          exact wrap_in _ _
    · have hx : xs = [] := List.eq_nil_of_length_eq_zero (by omega)
      subst hx
      rw [h0 rfl]
      exact ⟨⟨rfl, fun _ _ => rfl, ho.2⟩, hv⟩
theorem hd_leaf {cd : Nat → Option AF} {g0 : Nat} {kk : IntKind} (hcd : cd g0 = some (cHdLeaf kk)) : HdOk cd g0 (.sl (.int kk)) := by
  intro h cs v S k hT hv hk
  by_cases hsl : ∃ xs, v = .l xs
  case neg =>
    obtain ⟨xs, e, _⟩ := hv.sl
    cases v <;> simp [mkT] at e
    exact absurd ⟨_, rfl⟩ hsl
  obtain ⟨zs, rfl⟩ := hsl
  obtain ⟨c, xs, id, off, bs, S', rfl, hxs, hm, hl, hat, hce, hbs, hel, hS⟩ := hv.view
  have hcn : cnT (.sl (.int kk)) (.l zs) = zs.length := by simp only [cnT]; exact cn_int zs
  rw [hcn] at hk ⊢
  have hxs' : xs = (List.range zs.length).map fun j => Tv.i (kk.wrap ((k + j : Nat) : Int)) := by
    have e : mkT (.sl (.int kk)) (.l zs) k = .l (mkL (mkE (.int kk)) (cnE (.int kk)) zs k) := rfl
    rw [e, mkL_int] at hxs
    exact (by simpa using hxs.symm)
  have hlen : xs.length = zs.length := by rw [hxs']; simp
  have hel0 := hel
  simp only [Ty.size, Nat.mul_one] at hat hbs hel
  refine WS_enter hcd rfl ?_
  simp (disch := omega) only [cHdLeaf, RR, RP, Ty.agg, Ty.size, eq_self, ne_eq, not_true, not_false_iff, reduceCtorEq, List.length_cons, List.length_nil, decide_true, decide_false, true_and, and_true, ite_true, ite_false, PT.full, enter0, setAll, forget, Fr.set, Fr.get, PT.get, PT.set, kof, ai, ev, ev1, evp, b_add, b_sub, b_mul, b_quo, b_rem, b_eql, b_neq, b_lss, b_leq, b_gtr, b_geq, b_seql, b_sneq, setD, resV, resL, res1, args, List.take_zero, List.drop_zero, List.take_nil, List.take_succ_cons, List.drop_succ_cons, Nat.reduceAdd, Nat.reduceLeDiff, reduceIte, Bool.not_true, Bool.not_false, Bool.false_eq_true, CA_some, Option.some.injEq, Nat.zero_add, Nat.mul_one, Nat.add_zero]
  refine WS_loop2 (σ := Nat) (f1 := _) (by simp only [RR, RP, Ty.agg, Ty.size, eq_self, ne_eq, not_true, not_false_iff, reduceCtorEq, List.length_cons, List.length_nil, decide_true, decide_false, true_and, and_true, ite_true, ite_false, PT.full, enter0, setAll, forget, Fr.set, Fr.get, PT.get, PT.set, kof, ai, ev, ev1, evp, b_add, b_sub, b_mul, b_quo, b_rem, b_eql, b_neq, b_lss, b_leq, b_gtr, b_geq, b_seql, b_sneq, setD, resV, resL, res1, args, List.take_zero, List.drop_zero, List.take_nil, List.take_succ_cons, List.drop_succ_cons, Nat.reduceAdd, Nat.reduceLeDiff, reduceIte, Bool.not_true, Bool.not_false, Bool.false_eq_true, CA_some, Option.some.injEq, Nat.zero_add, Nat.mul_one, Nat.add_zero]; rfl) (fun i => [(5, .val false [.int .i64 i]), (1, .val false [.int .i64 ((k + i : Nat) : Int)])])
    (fun i g h' => g = xs.length - i ∧ i ≤ xs.length ∧ h' = h) 0 xs.length (by simp only [RR, RP, Ty.agg, Ty.size, eq_self, ne_eq, not_true, not_false_iff, reduceCtorEq, List.length_cons, List.length_nil, decide_true, decide_false, true_and, and_true, ite_true, ite_false, PT.full, enter0, setAll, forget, Fr.set, Fr.get, PT.get, PT.set, kof, ai, ev, ev1, evp, b_add, b_sub, b_mul, b_quo, b_rem, b_eql, b_neq, b_lss, b_leq, b_gtr, b_geq, b_seql, b_sneq, setD, resV, resL, res1, args, List.take_zero, List.drop_zero, List.take_nil, List.take_succ_cons, List.drop_succ_cons, Nat.reduceAdd, Nat.reduceLeDiff, reduceIte, Bool.not_true, Bool.not_false, Bool.false_eq_true, CA_some, Option.some.injEq, Nat.zero_add, Nat.mul_one, Nat.add_zero]; rfl) ⟨by omega, by omega, rfl⟩ ?_
  rintro i g h' ⟨hg, hi, rfl⟩
  simp (disch := omega) only [cHdLeaf, hl, w64, RR, RP, Ty.agg, Ty.size, eq_self, ne_eq, not_true, not_false_iff, reduceCtorEq, List.length_cons, List.length_nil, decide_true, decide_false, true_and, and_true, ite_true, ite_false, PT.full, enter0, setAll, forget, Fr.set, Fr.get, PT.get, PT.set, kof, ai, ev, ev1, evp, b_add, b_sub, b_mul, b_quo, b_rem, b_eql, b_neq, b_lss, b_leq, b_gtr, b_geq, b_seql, b_sneq, setD, resV, resL, res1, args, List.take_zero, List.drop_zero, List.take_nil, List.take_succ_cons, List.drop_succ_cons, Nat.reduceAdd, Nat.reduceLeDiff, reduceIte, Bool.not_true, Bool.not_false, Bool.false_eq_true, CA_some, Option.some.injEq, Nat.zero_add, Nat.mul_one, Nat.add_zero]
  refine BR_dec (fun hlt => ?_) (fun hlt => ?_)
  · have hix : i < xs.length := by omega
    obtain ⟨_, k1⟩ := hel0.at hix
    obtain ⟨a, k1, k2, _⟩ := k1.int
    have ha : a = kk.wrap ((k + i : Nat) : Int) := by
      have : xs[i]? = some (Tv.i (kk.wrap ((k + i : Nat) : Int))) := by
        rw [hxs', List.getElem?_map, List.getElem?_range (by omega)]; rfl
      rw [List.getElem?_eq_getElem hix, k2] at this
      simpa using this
    simp only [Ty.size, Nat.mul_one] at k1
    simp (disch := omega) only [cHdLeaf, hl, hat i hix, (hce (by omega)).1, k1, ifT, w64, RR, RP, Ty.agg, Ty.size, eq_self, ne_eq, not_true, not_false_iff, reduceCtorEq, List.length_cons, List.length_nil, decide_true, decide_false, true_and, and_true, ite_true, ite_false, PT.full, enter0, setAll, forget, Fr.set, Fr.get, PT.get, PT.set, kof, ai, ev, ev1, evp, b_add, b_sub, b_mul, b_quo, b_rem, b_eql, b_neq, b_lss, b_leq, b_gtr, b_geq, b_seql, b_sneq, setD, resV, resL, res1, args, List.take_zero, List.drop_zero, List.take_nil, List.take_succ_cons, List.drop_succ_cons, Nat.reduceAdd, Nat.reduceLeDiff, reduceIte, Bool.not_true, Bool.not_false, Bool.false_eq_true, CA_some, Option.some.injEq, Nat.zero_add, Nat.mul_one, Nat.add_zero]
    refine BR_dec (fun hne => ?_) (fun hne => ?_)
    · exact absurd ha hne
    · simp (disch := omega) only [cHdLeaf, w64, RR, RP, Ty.agg, Ty.size, eq_self, ne_eq, not_true, not_false_iff, reduceCtorEq, List.length_cons, List.length_nil, decide_true, decide_false, true_and, and_true, ite_true, ite_false, PT.full, enter0, setAll, forget, Fr.set, Fr.get, PT.get, PT.set, kof, ai, ev, ev1, evp, b_add, b_sub, b_mul, b_quo, b_rem, b_eql, b_neq, b_lss, b_leq, b_gtr, b_geq, b_seql, b_sneq, setD, resV, resL, res1, args, List.take_zero, List.drop_zero, List.take_nil, List.take_succ_cons, List.drop_succ_cons, Nat.reduceAdd, Nat.reduceLeDiff, reduceIte, Bool.not_true, Bool.not_false, Bool.false_eq_true, CA_some, Option.some.injEq, Nat.zero_add, Nat.mul_one, Nat.add_zero]
      exact ⟨i + 1, xs.length - (i + 1), by omega, rfl, rfl, by omega⟩
  · simp (disch := omega) only [cHdLeaf, RR, RP, Ty.agg, Ty.size, eq_self, ne_eq, not_true, not_false_iff, reduceCtorEq, List.length_cons, List.length_nil, decide_true, decide_false, true_and, and_true, ite_true, ite_false, PT.full, enter0, setAll, forget, Fr.set, Fr.get, PT.get, PT.set, kof, ai, ev, ev1, evp, b_add, b_sub, b_mul, b_quo, b_rem, b_eql, b_neq, b_lss, b_leq, b_gtr, b_geq, b_seql, b_sneq, setD, resV, resL, res1, args, List.take_zero, List.drop_zero, List.take_nil, List.take_succ_cons, List.drop_succ_cons, Nat.reduceAdd, Nat.reduceLeDiff, reduceIte, Bool.not_true, Bool.not_false, Bool.false_eq_true, CA_some, Option.some.injEq, Nat.zero_add, Nat.mul_one, Nat.add_zero]
    have : i = zs.length := by omega
    rw [this]

end Go.Eng
