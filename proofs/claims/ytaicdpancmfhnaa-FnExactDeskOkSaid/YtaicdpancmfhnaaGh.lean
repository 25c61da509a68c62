import Derived.Test.YtaicdpancmfhnaaGb
import Derived.Test.YtaicdpancmfhnaaGe
import Derived.Test.YtaicdpancmfhnaaGf
import Derived.Test.YtaicdpancmfhnaaGg
set_option maxRecDepth 100000
set_option linter.unusedSimpArgs false
set_option linter.unusedVariables false
namespace Go.Eng.U
mutual
def _root_.Go.Eng.Ty.f0 : Ty → Bool
  | .sl _ => false
  | .str => false
  | .st ts => Ty.f0s ts
  | _ => true
def _root_.Go.Eng.Ty.f0s : List Ty → Bool
  | [] => true
  | t :: ts => t.f0 && Ty.f0s ts
end
mutual
theorem _root_.Go.Eng.Rp.wt0 {h : H} : ∀ (T : Ty) {cs : List C} {v : Tv} {S : List Nat}, Rp h T cs v S → T.f0 = true → wt v = 0
  | .int _, cs, v, S, hr, _ => by obtain ⟨n, _, rfl, _⟩ := hr.int; simp [wt]
  | .bool, cs, v, S, hr, _ => by obtain ⟨n, _, rfl, _⟩ := hr.bool; simp [wt]
  | .str, _, _, _, _, h => by simp [Ty.f0] at h
  | .sl _, _, _, _, _, h => by simp [Ty.f0] at h
  | .st ts, cs, v, S, hr, h => by
    obtain ⟨vs, rfl, h2⟩ := hr.st
    simp only [wt]
    exact Rs.wt0 ts h2 (by simpa only [Ty.f0] using h)
theorem _root_.Go.Eng.Rs.wt0 {h : H} : ∀ (ts : List Ty) {cs : List C} {vs : List Tv} {S : List Nat}, Rs h ts cs vs S → Ty.f0s ts = true → wts vs = 0
  | [], cs, vs, S, hr, _ => by obtain ⟨rfl, rfl, rfl⟩ := hr; simp [wts]
  | t :: ts, cs, vs, S, hr, h => by
    simp only [Ty.f0s, Bool.and_eq_true] at h
    obtain ⟨c1, c2, v, vr, S1, S2, rfl, rfl, rfl, h4, h5⟩ := hr
    simp only [wts, Rp.wt0 t h4 h.1, Rs.wt0 ts h5 h.2]
end
/-- laws.szByteS -/
def c81 : AF := ⟨2, 4, [.tmp 4], (.seq (.ops [.i (.mov 4 (.c (.val false [.int .i64 0])))]) (.seq (.ops [.i (.mov 5 (.s 1)), .i (.mov 6 (.s 0)), .i (.len 7 false (.s 6)), .i (.bin 8 .sub (.s 5) (.s 7)), .i (.mov 1 (.s 8))]) (.seq (.seq (.ops [.i (.mov 9 (.s 1)), .i (.bin 10 .lss (.s 9) (.c (.val false [.int .i64 0])))]) (.cond (.s 10) (.seq (.ops [.i (.mov 4 (.c (.val false [.int .i64 (-1)])))]) .ret) .skip)) (.seq (.ops [.i (.mov 11 (.s 1)), .i (.mov 4 (.s 11))]) .ret))))⟩
theorem k81 : cd 81 = some c81 := by kernel_rfl
theorem sz_ByteS : SzOk cd 81 (.sl (.int .u8)) := sz_leaf k81
theorem len_2 {l : List C} (h : l.length = 2) : ∃ x0 x1, l = [x0, x1] := by
  rcases l with _ | ⟨x0, l⟩
  · simp at h
  rcases l with _ | ⟨x1, l⟩
  · simp at h
  · simp at h; exact ⟨x0, x1, by simp [h]⟩
/-- laws.szRow -/
def c171 : AF := ⟨2, 4, [.tmp 4], (.seq (.ops [.i (.lbox 2 (.s 0)), .i (.mov 4 (.c (.val false [.int .i64 0])))]) (.seq (.ops [.i (.fad 5 (.s 2) 1), .i (.ldl 6 2 (.s 5) 1 false), .i (.mov 7 (.s 1)), .i (.call 9 81 false [(.s 6), (.s 7)]), .i (.mov 1 (.s 8))]) (.seq (.seq (.ops [.i (.mov 9 (.s 1)), .i (.bin 10 .lss (.s 9) (.c (.val false [.int .i64 0])))]) (.cond (.s 10) (.seq (.ops [.i (.mov 4 (.c (.val false [.int .i64 (-1)])))]) .ret) .skip)) (.seq (.ops [.i (.mov 11 (.s 1)), .i (.mov 4 (.s 11))]) .ret))))⟩
theorem k171 : cd 171 = some c171 := by kernel_rfl
theorem sz_Row : SzOk cd 171 TRow := by
  intro h cs v S k hv hk
  obtain ⟨vs, rfl, q0⟩ := hv.st
  obtain ⟨v0, r0, S0, T0, rfl, rfl, h0, q1⟩ := q0.step
  obtain ⟨n0, e0, rfl, rfl, lo0, hi0⟩ := h0.int
  obtain ⟨v1, r1, S1, T1, rfl, rfl, h1, q2⟩ := q1.step
  obtain ⟨c1, e1⟩ := h1.one rfl
  rw [e1] at h1
  obtain ⟨_, rfl, rfl⟩ := q2
  have hsz : cs.length = 2 := hv.size
  simp only [Ty.size, Ty.sizes, Nat.reduceAdd, Nat.zero_add, List.drop_zero] at e0 e1 hsz
  have hw : wt (.r [.i n0, v1]) = wt v1 := by simp only [wt, wts]; omega
  rw [hw]
  refine WS_enter k171 rfl ?_
  simp (disch := omega) only [c171, e0, e1, hsz, ifT, w64, RR, RP, Ty.agg, Ty.size, Ty.sizes, eq_self, ne_eq, not_true, not_false_iff, reduceCtorEq, List.length_cons, List.length_nil, decide_true, decide_false, true_and, and_true, ite_true, ite_false, PT.full, enter0, setAll, forget, Fr.set, Fr.get, PT.get, PT.set, kof, ai, ev, ev1, evp, b_add, b_sub, b_mul, b_quo, b_rem, b_eql, b_neq, b_lss, b_leq, b_gtr, b_geq, b_seql, b_sneq, setD, resV, resL, res1, args, List.take_zero, List.drop_zero, List.take_nil, List.take_succ_cons, List.drop_succ_cons, Nat.reduceAdd, Nat.reduceLeDiff, reduceIte, Bool.not_true, Bool.not_false, Bool.false_eq_true, CA_some, Option.some.injEq, Nat.zero_add, Nat.mul_one, Nat.add_zero, setL, List.set_cons_zero, List.set_cons_succ, fillC]
  refine SzOk.go sz_ByteS h1 (k := k) (by omega) (fun hf0 => ?_) (fun hf0 => ?_)
  case refine_2 =>
    simp (disch := omega) only [KC_eq, c171, e0, e1, hsz, ifT, w64, RR, RP, Ty.agg, Ty.size, Ty.sizes, eq_self, ne_eq, not_true, not_false_iff, reduceCtorEq, List.length_cons, List.length_nil, decide_true, decide_false, true_and, and_true, ite_true, ite_false, PT.full, enter0, setAll, forget, Fr.set, Fr.get, PT.get, PT.set, kof, ai, ev, ev1, evp, b_add, b_sub, b_mul, b_quo, b_rem, b_eql, b_neq, b_lss, b_leq, b_gtr, b_geq, b_seql, b_sneq, setD, resV, resL, res1, args, List.take_zero, List.drop_zero, List.take_nil, List.take_succ_cons, List.drop_succ_cons, Nat.reduceAdd, Nat.reduceLeDiff, reduceIte, Bool.not_true, Bool.not_false, Bool.false_eq_true, CA_some, Option.some.injEq, Nat.zero_add, Nat.mul_one, Nat.add_zero, setL, List.set_cons_zero, List.set_cons_succ, fillC]
    refine BR_dec (fun hn => ?_) (fun hn => absurd (show (-1 : Int) < 0 by omega) hn)
    simp (disch := omega) only [c171, e0, e1, hsz, ifT, w64, RR, RP, Ty.agg, Ty.size, Ty.sizes, eq_self, ne_eq, not_true, not_false_iff, reduceCtorEq, List.length_cons, List.length_nil, decide_true, decide_false, true_and, and_true, ite_true, ite_false, PT.full, enter0, setAll, forget, Fr.set, Fr.get, PT.get, PT.set, kof, ai, ev, ev1, evp, b_add, b_sub, b_mul, b_quo, b_rem, b_eql, b_neq, b_lss, b_leq, b_gtr, b_geq, b_seql, b_sneq, setD, resV, resL, res1, args, List.take_zero, List.drop_zero, List.take_nil, List.take_succ_cons, List.drop_succ_cons, Nat.reduceAdd, Nat.reduceLeDiff, reduceIte, Bool.not_true, Bool.not_false, Bool.false_eq_true, CA_some, Option.some.injEq, Nat.zero_add, Nat.mul_one, Nat.add_zero, setL, List.set_cons_zero, List.set_cons_succ, fillC]
    rw [if_neg (by omega)]
  simp (disch := omega) only [KC_eq, c171, e0, e1, hsz, ifT, w64, RR, RP, Ty.agg, Ty.size, Ty.sizes, eq_self, ne_eq, not_true, not_false_iff, reduceCtorEq, List.length_cons, List.length_nil, decide_true, decide_false, true_and, and_true, ite_true, ite_false, PT.full, enter0, setAll, forget, Fr.set, Fr.get, PT.get, PT.set, kof, ai, ev, ev1, evp, b_add, b_sub, b_mul, b_quo, b_rem, b_eql, b_neq, b_lss, b_leq, b_gtr, b_geq, b_seql, b_sneq, setD, resV, resL, res1, args, List.take_zero, List.drop_zero, List.take_nil, List.take_succ_cons, List.drop_succ_cons, Nat.reduceAdd, Nat.reduceLeDiff, reduceIte, Bool.not_true, Bool.not_false, Bool.false_eq_true, CA_some, Option.some.injEq, Nat.zero_add, Nat.mul_one, Nat.add_zero, setL, List.set_cons_zero, List.set_cons_succ, fillC]
  refine BR_dec (fun hn => absurd hn (by omega)) (fun hn => ?_)
  simp (disch := omega) only [c171, e0, e1, hsz, ifT, w64, RR, RP, Ty.agg, Ty.size, Ty.sizes, eq_self, ne_eq, not_true, not_false_iff, reduceCtorEq, List.length_cons, List.length_nil, decide_true, decide_false, true_and, and_true, ite_true, ite_false, PT.full, enter0, setAll, forget, Fr.set, Fr.get, PT.get, PT.set, kof, ai, ev, ev1, evp, b_add, b_sub, b_mul, b_quo, b_rem, b_eql, b_neq, b_lss, b_leq, b_gtr, b_geq, b_seql, b_sneq, setD, resV, resL, res1, args, List.take_zero, List.drop_zero, List.take_nil, List.take_succ_cons, List.drop_succ_cons, Nat.reduceAdd, Nat.reduceLeDiff, reduceIte, Bool.not_true, Bool.not_false, Bool.false_eq_true, CA_some, Option.some.injEq, Nat.zero_add, Nat.mul_one, Nat.add_zero, setL, List.set_cons_zero, List.set_cons_succ, fillC]
  congr 3
  omega
/-- laws.szRowS -/
def c140 : AF := ⟨2, 5, [.tmp 4], (.seq (.ops [.i (.mov 4 (.c (.val false [.int .i64 0])))]) (.seq (.ops [.i (.mov 6 (.s 1)), .i (.mov 7 (.s 0)), .i (.len 8 false (.s 7)), .i (.bin 9 .sub (.s 6) (.s 8)), .i (.mov 1 (.s 9))]) (.seq (.seq (.ops [.i (.mov 10 (.s 1)), .i (.bin 11 .lss (.s 10) (.c (.val false [.int .i64 0])))]) (.cond (.s 11) (.seq (.ops [.i (.mov 4 (.c (.val false [.int .i64 (-1)])))]) .ret) .skip)) (.seq (.seq (.ops [.i (.mov 5 (.c (.val false [.int .i64 0])))]) (.block 0 (.loop [25, 24, 23, 22, 21, 20, 19, 18, 17, 16, 15, 14, 13, 12] (.seq (.seq (.ops [.i (.mov 12 (.s 5)), .i (.mov 13 (.s 0)), .i (.len 14 false (.s 13)), .i (.bin 15 .lss (.s 12) (.s 14))]) (.cond (.s 15) .skip (.exit 0))) (.seq (.block 1 (.seq (.ops [.i (.mov 18 (.s 0)), .i (.mov 19 (.s 5)), .i (.iad 20 (.s 18) (.s 19) 2), .i (.ldh 21 (.s 20) 2 true), .i (.mov 22 (.s 1)), .i (.call 24 171 false [(.s 21), (.s 22)]), .i (.mov 1 (.s 23))]) (.seq (.ops [.i (.mov 24 (.s 1)), .i (.bin 25 .lss (.s 24) (.c (.val false [.int .i64 0])))]) (.cond (.s 25) (.seq (.ops [.i (.mov 4 (.c (.val false [.int .i64 (-1)])))]) .ret) .skip)))) (.ops [.i (.mov 16 (.s 5)), .i (.bin 17 .add (.s 16) (.c (.val false [.int .i64 1]))), .i (.mov 5 (.s 17))])))))) (.seq (.ops [.i (.mov 26 (.s 1)), .i (.mov 4 (.s 26))]) .ret)))))⟩
theorem k140 : cd 140 = some c140 := by kernel_rfl
theorem sz_RowS : SzOk cd 140 (.sl TRow) := sz_sl k140 sz_Row
/-- laws.szTable -/
def c97 : AF := ⟨2, 4, [.tmp 4], (.seq (.ops [.i (.lbox 2 (.s 0)), .i (.mov 4 (.c (.val false [.int .i64 0])))]) (.seq (.ops [.i (.fad 5 (.s 2) 0), .i (.ldl 6 2 (.s 5) 1 false), .i (.mov 7 (.s 1)), .i (.call 9 140 false [(.s 6), (.s 7)]), .i (.mov 1 (.s 8))]) (.seq (.seq (.ops [.i (.mov 9 (.s 1)), .i (.bin 10 .lss (.s 9) (.c (.val false [.int .i64 0])))]) (.cond (.s 10) (.seq (.ops [.i (.mov 4 (.c (.val false [.int .i64 (-1)])))]) .ret) .skip)) (.seq (.ops [.i (.mov 11 (.s 1)), .i (.mov 4 (.s 11))]) .ret))))⟩
theorem k97 : cd 97 = some c97 := by kernel_rfl
theorem sz_Table : SzOk cd 97 TTable := by
  intro h cs v S k hv hk
  obtain ⟨vs, rfl, q0⟩ := hv.st
  obtain ⟨v0, r0, S0, T0, rfl, rfl, h0, q1⟩ := q0.step
  obtain ⟨c0, e0⟩ := h0.one rfl
  rw [e0] at h0
  obtain ⟨_, rfl, rfl⟩ := q1
  have hsz : cs.length = 1 := hv.size
  simp only [Ty.size, Ty.sizes, Nat.reduceAdd, Nat.zero_add, List.drop_zero] at e0 hsz
  have hw : wt (.r [v0]) = wt v0 := by simp only [wt, wts]; omega
  rw [hw]
  refine WS_enter k97 rfl ?_
  simp (disch := omega) only [c97, e0, hsz, ifT, w64, RR, RP, Ty.agg, Ty.size, Ty.sizes, eq_self, ne_eq, not_true, not_false_iff, reduceCtorEq, List.length_cons, List.length_nil, decide_true, decide_false, true_and, and_true, ite_true, ite_false, PT.full, enter0, setAll, forget, Fr.set, Fr.get, PT.get, PT.set, kof, ai, ev, ev1, evp, b_add, b_sub, b_mul, b_quo, b_rem, b_eql, b_neq, b_lss, b_leq, b_gtr, b_geq, b_seql, b_sneq, setD, resV, resL, res1, args, List.take_zero, List.drop_zero, List.take_nil, List.take_succ_cons, List.drop_succ_cons, Nat.reduceAdd, Nat.reduceLeDiff, reduceIte, Bool.not_true, Bool.not_false, Bool.false_eq_true, CA_some, Option.some.injEq, Nat.zero_add, Nat.mul_one, Nat.add_zero, setL, List.set_cons_zero, List.set_cons_succ, fillC]
  refine SzOk.go sz_RowS h0 (k := k) (by omega) (fun hf0 => ?_) (fun hf0 => ?_)
  case refine_2 =>
    simp (disch := omega) only [KC_eq, c97, e0, hsz, ifT, w64, RR, RP, Ty.agg, Ty.size, Ty.sizes, eq_self, ne_eq, not_true, not_false_iff, reduceCtorEq, List.length_cons, List.length_nil, decide_true, decide_false, true_and, and_true, ite_true, ite_false, PT.full, enter0, setAll, forget, Fr.set, Fr.get, PT.get, PT.set, kof, ai, ev, ev1, evp, b_add, b_sub, b_mul, b_quo, b_rem, b_eql, b_neq, b_lss, b_leq, b_gtr, b_geq, b_seql, b_sneq, setD, resV, resL, res1, args, List.take_zero, List.drop_zero, List.take_nil, List.take_succ_cons, List.drop_succ_cons, Nat.reduceAdd, Nat.reduceLeDiff, reduceIte, Bool.not_true, Bool.not_false, Bool.false_eq_true, CA_some, Option.some.injEq, Nat.zero_add, Nat.mul_one, Nat.add_zero, setL, List.set_cons_zero, List.set_cons_succ, fillC]
    refine BR_dec (fun hn => ?_) (fun hn => absurd (show (-1 : Int) < 0 by omega) hn)
    simp (disch := omega) only [c97, e0, hsz, ifT, w64, RR, RP, Ty.agg, Ty.size, Ty.sizes, eq_self, ne_eq, not_true, not_false_iff, reduceCtorEq, List.length_cons, List.length_nil, decide_true, decide_false, true_and, and_true, ite_true, ite_false, PT.full, enter0, setAll, forget, Fr.set, Fr.get, PT.get, PT.set, kof, ai, ev, ev1, evp, b_add, b_sub, b_mul, b_quo, b_rem, b_eql, b_neq, b_lss, b_leq, b_gtr, b_geq, b_seql, b_sneq, setD, resV, resL, res1, args, List.take_zero, List.drop_zero, List.take_nil, List.take_succ_cons, List.drop_succ_cons, Nat.reduceAdd, Nat.reduceLeDiff, reduceIte, Bool.not_true, Bool.not_false, Bool.false_eq_true, CA_some, Option.some.injEq, Nat.zero_add, Nat.mul_one, Nat.add_zero, setL, List.set_cons_zero, List.set_cons_succ, fillC]
    rw [if_neg (by omega)]
  simp (disch := omega) only [KC_eq, c97, e0, hsz, ifT, w64, RR, RP, Ty.agg, Ty.size, Ty.sizes, eq_self, ne_eq, not_true, not_false_iff, reduceCtorEq, List.length_cons, List.length_nil, decide_true, decide_false, true_and, and_true, ite_true, ite_false, PT.full, enter0, setAll, forget, Fr.set, Fr.get, PT.get, PT.set, kof, ai, ev, ev1, evp, b_add, b_sub, b_mul, b_quo, b_rem, b_eql, b_neq, b_lss, b_leq, b_gtr, b_geq, b_seql, b_sneq, setD, resV, resL, res1, args, List.take_zero, List.drop_zero, List.take_nil, List.take_succ_cons, List.drop_succ_cons, Nat.reduceAdd, Nat.reduceLeDiff, reduceIte, Bool.not_true, Bool.not_false, Bool.false_eq_true, CA_some, Option.some.injEq, Nat.zero_add, Nat.mul_one, Nat.add_zero, setL, List.set_cons_zero, List.set_cons_succ, fillC]
  refine BR_dec (fun hn => absurd hn (by omega)) (fun hn => ?_)
  simp (disch := omega) only [c97, e0, hsz, ifT, w64, RR, RP, Ty.agg, Ty.size, Ty.sizes, eq_self, ne_eq, not_true, not_false_iff, reduceCtorEq, List.length_cons, List.length_nil, decide_true, decide_false, true_and, and_true, ite_true, ite_false, PT.full, enter0, setAll, forget, Fr.set, Fr.get, PT.get, PT.set, kof, ai, ev, ev1, evp, b_add, b_sub, b_mul, b_quo, b_rem, b_eql, b_neq, b_lss, b_leq, b_gtr, b_geq, b_seql, b_sneq, setD, resV, resL, res1, args, List.take_zero, List.drop_zero, List.take_nil, List.take_succ_cons, List.drop_succ_cons, Nat.reduceAdd, Nat.reduceLeDiff, reduceIte, Bool.not_true, Bool.not_false, Bool.false_eq_true, CA_some, Option.some.injEq, Nat.zero_add, Nat.mul_one, Nat.add_zero, setL, List.set_cons_zero, List.set_cons_succ, fillC]
  congr 3
  omega
/-- laws.szPush -/
def c141 : AF := ⟨2, 4, [.tmp 4], (.seq (.ops [.i (.lbox 2 (.s 0)), .i (.mov 4 (.c (.val false [.int .i64 0])))]) (.seq (.ops [.i (.fad 5 (.s 2) 1), .i (.ldl 6 2 (.s 5) 1 false), .i (.mov 7 (.s 1)), .i (.call 9 81 false [(.s 6), (.s 7)]), .i (.mov 1 (.s 8))]) (.seq (.seq (.ops [.i (.mov 9 (.s 1)), .i (.bin 10 .lss (.s 9) (.c (.val false [.int .i64 0])))]) (.cond (.s 10) (.seq (.ops [.i (.mov 4 (.c (.val false [.int .i64 (-1)])))]) .ret) .skip)) (.seq (.ops [.i (.mov 11 (.s 1)), .i (.mov 4 (.s 11))]) .ret))))⟩
theorem k141 : cd 141 = some c141 := by kernel_rfl
theorem sz_Push : SzOk cd 141 TPush := by
  intro h cs v S k hv hk
  obtain ⟨vs, rfl, q0⟩ := hv.st
  obtain ⟨v0, r0, S0, T0, rfl, rfl, h0, q1⟩ := q0.step
  obtain ⟨n0, e0, rfl, rfl, lo0, hi0⟩ := h0.int
  obtain ⟨v1, r1, S1, T1, rfl, rfl, h1, q2⟩ := q1.step
  obtain ⟨c1, e1⟩ := h1.one rfl
  rw [e1] at h1
  obtain ⟨_, rfl, rfl⟩ := q2
  have hsz : cs.length = 2 := hv.size
  simp only [Ty.size, Ty.sizes, Nat.reduceAdd, Nat.zero_add, List.drop_zero] at e0 e1 hsz
  have hw : wt (.r [.i n0, v1]) = wt v1 := by simp only [wt, wts]; omega
  rw [hw]
  refine WS_enter k141 rfl ?_
  simp (disch := omega) only [c141, e0, e1, hsz, ifT, w64, RR, RP, Ty.agg, Ty.size, Ty.sizes, eq_self, ne_eq, not_true, not_false_iff, reduceCtorEq, List.length_cons, List.length_nil, decide_true, decide_false, true_and, and_true, ite_true, ite_false, PT.full, enter0, setAll, forget, Fr.set, Fr.get, PT.get, PT.set, kof, ai, ev, ev1, evp, b_add, b_sub, b_mul, b_quo, b_rem, b_eql, b_neq, b_lss, b_leq, b_gtr, b_geq, b_seql, b_sneq, setD, resV, resL, res1, args, List.take_zero, List.drop_zero, List.take_nil, List.take_succ_cons, List.drop_succ_cons, Nat.reduceAdd, Nat.reduceLeDiff, reduceIte, Bool.not_true, Bool.not_false, Bool.false_eq_true, CA_some, Option.some.injEq, Nat.zero_add, Nat.mul_one, Nat.add_zero, setL, List.set_cons_zero, List.set_cons_succ, fillC]
  refine SzOk.go sz_ByteS h1 (k := k) (by omega) (fun hf0 => ?_) (fun hf0 => ?_)
  case refine_2 =>
    simp (disch := omega) only [KC_eq, c141, e0, e1, hsz, ifT, w64, RR, RP, Ty.agg, Ty.size, Ty.sizes, eq_self, ne_eq, not_true, not_false_iff, reduceCtorEq, List.length_cons, List.length_nil, decide_true, decide_false, true_and, and_true, ite_true, ite_false, PT.full, enter0, setAll, forget, Fr.set, Fr.get, PT.get, PT.set, kof, ai, ev, ev1, evp, b_add, b_sub, b_mul, b_quo, b_rem, b_eql, b_neq, b_lss, b_leq, b_gtr, b_geq, b_seql, b_sneq, setD, resV, resL, res1, args, List.take_zero, List.drop_zero, List.take_nil, List.take_succ_cons, List.drop_succ_cons, Nat.reduceAdd, Nat.reduceLeDiff, reduceIte, Bool.not_true, Bool.not_false, Bool.false_eq_true, CA_some, Option.some.injEq, Nat.zero_add, Nat.mul_one, Nat.add_zero, setL, List.set_cons_zero, List.set_cons_succ, fillC]
    refine BR_dec (fun hn => ?_) (fun hn => absurd (show (-1 : Int) < 0 by omega) hn)
    simp (disch := omega) only [c141, e0, e1, hsz, ifT, w64, RR, RP, Ty.agg, Ty.size, Ty.sizes, eq_self, ne_eq, not_true, not_false_iff, reduceCtorEq, List.length_cons, List.length_nil, decide_true, decide_false, true_and, and_true, ite_true, ite_false, PT.full, enter0, setAll, forget, Fr.set, Fr.get, PT.get, PT.set, kof, ai, ev, ev1, evp, b_add, b_sub, b_mul, b_quo, b_rem, b_eql, b_neq, b_lss, b_leq, b_gtr, b_geq, b_seql, b_sneq, setD, resV, resL, res1, args, List.take_zero, List.drop_zero, List.take_nil, List.take_succ_cons, List.drop_succ_cons, Nat.reduceAdd, Nat.reduceLeDiff, reduceIte, Bool.not_true, Bool.not_false, Bool.false_eq_true, CA_some, Option.some.injEq, Nat.zero_add, Nat.mul_one, Nat.add_zero, setL, List.set_cons_zero, List.set_cons_succ, fillC]
    rw [if_neg (by omega)]
  simp (disch := omega) only [KC_eq, c141, e0, e1, hsz, ifT, w64, RR, RP, Ty.agg, Ty.size, Ty.sizes, eq_self, ne_eq, not_true, not_false_iff, reduceCtorEq, List.length_cons, List.length_nil, decide_true, decide_false, true_and, and_true, ite_true, ite_false, PT.full, enter0, setAll, forget, Fr.set, Fr.get, PT.get, PT.set, kof, ai, ev, ev1, evp, b_add, b_sub, b_mul, b_quo, b_rem, b_eql, b_neq, b_lss, b_leq, b_gtr, b_geq, b_seql, b_sneq, setD, resV, resL, res1, args, List.take_zero, List.drop_zero, List.take_nil, List.take_succ_cons, List.drop_succ_cons, Nat.reduceAdd, Nat.reduceLeDiff, reduceIte, Bool.not_true, Bool.not_false, Bool.false_eq_true, CA_some, Option.some.injEq, Nat.zero_add, Nat.mul_one, Nat.add_zero, setL, List.set_cons_zero, List.set_cons_succ, fillC]
  refine BR_dec (fun hn => absurd hn (by omega)) (fun hn => ?_)
  simp (disch := omega) only [c141, e0, e1, hsz, ifT, w64, RR, RP, Ty.agg, Ty.size, Ty.sizes, eq_self, ne_eq, not_true, not_false_iff, reduceCtorEq, List.length_cons, List.length_nil, decide_true, decide_false, true_and, and_true, ite_true, ite_false, PT.full, enter0, setAll, forget, Fr.set, Fr.get, PT.get, PT.set, kof, ai, ev, ev1, evp, b_add, b_sub, b_mul, b_quo, b_rem, b_eql, b_neq, b_lss, b_leq, b_gtr, b_geq, b_seql, b_sneq, setD, resV, resL, res1, args, List.take_zero, List.drop_zero, List.take_nil, List.take_succ_cons, List.drop_succ_cons, Nat.reduceAdd, Nat.reduceLeDiff, reduceIte, Bool.not_true, Bool.not_false, Bool.false_eq_true, CA_some, Option.some.injEq, Nat.zero_add, Nat.mul_one, Nat.add_zero, setL, List.set_cons_zero, List.set_cons_succ, fillC]
  congr 3
  omega
/-- laws.szByteSS -/
def c22 : AF := ⟨2, 5, [.tmp 4], (.seq (.ops [.i (.mov 4 (.c (.val false [.int .i64 0])))]) (.seq (.ops [.i (.mov 6 (.s 1)), .i (.mov 7 (.s 0)), .i (.len 8 false (.s 7)), .i (.bin 9 .sub (.s 6) (.s 8)), .i (.mov 1 (.s 9))]) (.seq (.seq (.ops [.i (.mov 10 (.s 1)), .i (.bin 11 .lss (.s 10) (.c (.val false [.int .i64 0])))]) (.cond (.s 11) (.seq (.ops [.i (.mov 4 (.c (.val false [.int .i64 (-1)])))]) .ret) .skip)) (.seq (.seq (.ops [.i (.mov 5 (.c (.val false [.int .i64 0])))]) (.block 0 (.loop [25, 24, 23, 22, 21, 20, 19, 18, 17, 16, 15, 14, 13, 12] (.seq (.seq (.ops [.i (.mov 12 (.s 5)), .i (.mov 13 (.s 0)), .i (.len 14 false (.s 13)), .i (.bin 15 .lss (.s 12) (.s 14))]) (.cond (.s 15) .skip (.exit 0))) (.seq (.block 1 (.seq (.ops [.i (.mov 18 (.s 0)), .i (.mov 19 (.s 5)), .i (.iad 20 (.s 18) (.s 19) 1), .i (.ldh 21 (.s 20) 1 false), .i (.mov 22 (.s 1)), .i (.call 24 81 false [(.s 21), (.s 22)]), .i (.mov 1 (.s 23))]) (.seq (.ops [.i (.mov 24 (.s 1)), .i (.bin 25 .lss (.s 24) (.c (.val false [.int .i64 0])))]) (.cond (.s 25) (.seq (.ops [.i (.mov 4 (.c (.val false [.int .i64 (-1)])))]) .ret) .skip)))) (.ops [.i (.mov 16 (.s 5)), .i (.bin 17 .add (.s 16) (.c (.val false [.int .i64 1]))), .i (.mov 5 (.s 17))])))))) (.seq (.ops [.i (.mov 26 (.s 1)), .i (.mov 4 (.s 26))]) .ret)))))⟩
theorem k22 : cd 22 = some c22 := by kernel_rfl
theorem sz_ByteSS : SzOk cd 22 (.sl (.sl (.int .u8))) := sz_sl k22 sz_ByteS
theorem len_5 {l : List C} (h : l.length = 5) : ∃ x0 x1 x2 x3 x4, l = [x0, x1, x2, x3, x4] := by
  rcases l with _ | ⟨x0, l⟩
  · simp at h
  rcases l with _ | ⟨x1, l⟩
  · simp at h
  rcases l with _ | ⟨x2, l⟩
  · simp at h
  rcases l with _ | ⟨x3, l⟩
  · simp at h
  rcases l with _ | ⟨x4, l⟩
  · simp at h
  · simp at h; exact ⟨x0, x1, x2, x3, x4, by simp [h]⟩
/-- laws.szQc -/
def c82 : AF := ⟨2, 5, [.tmp 4], (.seq (.ops [.i (.lbox 2 (.s 0)), .i (.mov 4 (.c (.val false [.int .i64 0])))]) (.seq (.ops [.i (.fad 5 (.s 2) 2), .i (.ldl 6 2 (.s 5) 1 false), .i (.mov 7 (.s 1)), .i (.call 9 81 false [(.s 6), (.s 7)]), .i (.mov 1 (.s 8))]) (.seq (.seq (.ops [.i (.mov 9 (.s 1)), .i (.bin 10 .lss (.s 9) (.c (.val false [.int .i64 0])))]) (.cond (.s 10) (.seq (.ops [.i (.mov 4 (.c (.val false [.int .i64 (-1)])))]) .ret) .skip)) (.seq (.ops [.i (.fad 11 (.s 2) 3), .i (.ldl 12 2 (.s 11) 1 false), .i (.mov 13 (.s 1)), .i (.call 15 81 false [(.s 12), (.s 13)]), .i (.mov 1 (.s 14))]) (.seq (.seq (.ops [.i (.mov 15 (.s 1)), .i (.bin 16 .lss (.s 15) (.c (.val false [.int .i64 0])))]) (.cond (.s 16) (.seq (.ops [.i (.mov 4 (.c (.val false [.int .i64 (-1)])))]) .ret) .skip)) (.seq (.ops [.i (.fad 17 (.s 2) 4), .i (.ldl 18 2 (.s 17) 1 false), .i (.mov 19 (.s 1)), .i (.call 21 22 false [(.s 18), (.s 19)]), .i (.mov 1 (.s 20))]) (.seq (.seq (.ops [.i (.mov 21 (.s 1)), .i (.bin 22 .lss (.s 21) (.c (.val false [.int .i64 0])))]) (.cond (.s 22) (.seq (.ops [.i (.mov 4 (.c (.val false [.int .i64 (-1)])))]) .ret) .skip)) (.seq (.ops [.i (.mov 23 (.s 1)), .i (.mov 4 (.s 23))]) .ret))))))))⟩
theorem k82 : cd 82 = some c82 := by kernel_rfl
theorem sz_Qc : SzOk cd 82 TQc := by
  intro h cs v S k hv hk
  obtain ⟨vs, rfl, q0⟩ := hv.st
  obtain ⟨v0, r0, S0, T0, rfl, rfl, h0, q1⟩ := q0.step
  obtain ⟨n0, e0, rfl, rfl, lo0, hi0⟩ := h0.int
  obtain ⟨v1, r1, S1, T1, rfl, rfl, h1, q2⟩ := q1.step
  obtain ⟨n1, e1, rfl, rfl, lo1, hi1⟩ := h1.int
  obtain ⟨v2, r2, S2, T2, rfl, rfl, h2, q3⟩ := q2.step
  obtain ⟨c2, e2⟩ := h2.one rfl
  rw [e2] at h2
  obtain ⟨v3, r3, S3, T3, rfl, rfl, h3, q4⟩ := q3.step
  obtain ⟨c3, e3⟩ := h3.one rfl
  rw [e3] at h3
  obtain ⟨v4, r4, S4, T4, rfl, rfl, h4, q5⟩ := q4.step
  obtain ⟨c4, e4⟩ := h4.one rfl
  rw [e4] at h4
  obtain ⟨_, rfl, rfl⟩ := q5
  have hsz : cs.length = 5 := hv.size
  simp only [Ty.size, Ty.sizes, Nat.reduceAdd, Nat.zero_add, List.drop_zero] at e0 e1 e2 e3 e4 hsz
  have hw : wt (.r [.i n0, .i n1, v2, v3, v4]) = wt v2 + wt v3 + wt v4 := by simp only [wt, wts]; omega
  rw [hw]
  refine WS_enter k82 rfl ?_
  simp (disch := omega) only [c82, e0, e1, e2, e3, e4, hsz, ifT, w64, RR, RP, Ty.agg, Ty.size, Ty.sizes, eq_self, ne_eq, not_true, not_false_iff, reduceCtorEq, List.length_cons, List.length_nil, decide_true, decide_false, true_and, and_true, ite_true, ite_false, PT.full, enter0, setAll, forget, Fr.set, Fr.get, PT.get, PT.set, kof, ai, ev, ev1, evp, b_add, b_sub, b_mul, b_quo, b_rem, b_eql, b_neq, b_lss, b_leq, b_gtr, b_geq, b_seql, b_sneq, setD, resV, resL, res1, args, List.take_zero, List.drop_zero, List.take_nil, List.take_succ_cons, List.drop_succ_cons, Nat.reduceAdd, Nat.reduceLeDiff, reduceIte, Bool.not_true, Bool.not_false, Bool.false_eq_true, CA_some, Option.some.injEq, Nat.zero_add, Nat.mul_one, Nat.add_zero, setL, List.set_cons_zero, List.set_cons_succ, fillC]
  refine SzOk.go sz_ByteS h2 (k := k) (by omega) (fun hf0 => ?_) (fun hf0 => ?_)
  case refine_2 =>
    simp (disch := omega) only [KC_eq, c82, e0, e1, e2, e3, e4, hsz, ifT, w64, RR, RP, Ty.agg, Ty.size, Ty.sizes, eq_self, ne_eq, not_true, not_false_iff, reduceCtorEq, List.length_cons, List.length_nil, decide_true, decide_false, true_and, and_true, ite_true, ite_false, PT.full, enter0, setAll, forget, Fr.set, Fr.get, PT.get, PT.set, kof, ai, ev, ev1, evp, b_add, b_sub, b_mul, b_quo, b_rem, b_eql, b_neq, b_lss, b_leq, b_gtr, b_geq, b_seql, b_sneq, setD, resV, resL, res1, args, List.take_zero, List.drop_zero, List.take_nil, List.take_succ_cons, List.drop_succ_cons, Nat.reduceAdd, Nat.reduceLeDiff, reduceIte, Bool.not_true, Bool.not_false, Bool.false_eq_true, CA_some, Option.some.injEq, Nat.zero_add, Nat.mul_one, Nat.add_zero, setL, List.set_cons_zero, List.set_cons_succ, fillC]
    refine BR_dec (fun hn => ?_) (fun hn => absurd (show (-1 : Int) < 0 by omega) hn)
    simp (disch := omega) only [c82, e0, e1, e2, e3, e4, hsz, ifT, w64, RR, RP, Ty.agg, Ty.size, Ty.sizes, eq_self, ne_eq, not_true, not_false_iff, reduceCtorEq, List.length_cons, List.length_nil, decide_true, decide_false, true_and, and_true, ite_true, ite_false, PT.full, enter0, setAll, forget, Fr.set, Fr.get, PT.get, PT.set, kof, ai, ev, ev1, evp, b_add, b_sub, b_mul, b_quo, b_rem, b_eql, b_neq, b_lss, b_leq, b_gtr, b_geq, b_seql, b_sneq, setD, resV, resL, res1, args, List.take_zero, List.drop_zero, List.take_nil, List.take_succ_cons, List.drop_succ_cons, Nat.reduceAdd, Nat.reduceLeDiff, reduceIte, Bool.not_true, Bool.not_false, Bool.false_eq_true, CA_some, Option.some.injEq, Nat.zero_add, Nat.mul_one, Nat.add_zero, setL, List.set_cons_zero, List.set_cons_succ, fillC]
    rw [if_neg (by omega)]
  simp (disch := omega) only [KC_eq, c82, e0, e1, e2, e3, e4, hsz, ifT, w64, RR, RP, Ty.agg, Ty.size, Ty.sizes, eq_self, ne_eq, not_true, not_false_iff, reduceCtorEq, List.length_cons, List.length_nil, decide_true, decide_false, true_and, and_true, ite_true, ite_false, PT.full, enter0, setAll, forget, Fr.set, Fr.get, PT.get, PT.set, kof, ai, ev, ev1, evp, b_add, b_sub, b_mul, b_quo, b_rem, b_eql, b_neq, b_lss, b_leq, b_gtr, b_geq, b_seql, b_sneq, setD, resV, resL, res1, args, List.take_zero, List.drop_zero, List.take_nil, List.take_succ_cons, List.drop_succ_cons, Nat.reduceAdd, Nat.reduceLeDiff, reduceIte, Bool.not_true, Bool.not_false, Bool.false_eq_true, CA_some, Option.some.injEq, Nat.zero_add, Nat.mul_one, Nat.add_zero, setL, List.set_cons_zero, List.set_cons_succ, fillC]
  refine BR_dec (fun hn => absurd hn (by omega)) (fun hn => ?_)
  simp (disch := omega) only [c82, e0, e1, e2, e3, e4, hsz, ifT, w64, RR, RP, Ty.agg, Ty.size, Ty.sizes, eq_self, ne_eq, not_true, not_false_iff, reduceCtorEq, List.length_cons, List.length_nil, decide_true, decide_false, true_and, and_true, ite_true, ite_false, PT.full, enter0, setAll, forget, Fr.set, Fr.get, PT.get, PT.set, kof, ai, ev, ev1, evp, b_add, b_sub, b_mul, b_quo, b_rem, b_eql, b_neq, b_lss, b_leq, b_gtr, b_geq, b_seql, b_sneq, setD, resV, resL, res1, args, List.take_zero, List.drop_zero, List.take_nil, List.take_succ_cons, List.drop_succ_cons, Nat.reduceAdd, Nat.reduceLeDiff, reduceIte, Bool.not_true, Bool.not_false, Bool.false_eq_true, CA_some, Option.some.injEq, Nat.zero_add, Nat.mul_one, Nat.add_zero, setL, List.set_cons_zero, List.set_cons_succ, fillC]
  refine SzOk.go sz_ByteS h3 (k := k - wt v2) (by omega) (fun hf1 => ?_) (fun hf1 => ?_)
  case refine_2 =>
    simp (disch := omega) only [KC_eq, c82, e0, e1, e2, e3, e4, hsz, ifT, w64, RR, RP, Ty.agg, Ty.size, Ty.sizes, eq_self, ne_eq, not_true, not_false_iff, reduceCtorEq, List.length_cons, List.length_nil, decide_true, decide_false, true_and, and_true, ite_true, ite_false, PT.full, enter0, setAll, forget, Fr.set, Fr.get, PT.get, PT.set, kof, ai, ev, ev1, evp, b_add, b_sub, b_mul, b_quo, b_rem, b_eql, b_neq, b_lss, b_leq, b_gtr, b_geq, b_seql, b_sneq, setD, resV, resL, res1, args, List.take_zero, List.drop_zero, List.take_nil, List.take_succ_cons, List.drop_succ_cons, Nat.reduceAdd, Nat.reduceLeDiff, reduceIte, Bool.not_true, Bool.not_false, Bool.false_eq_true, CA_some, Option.some.injEq, Nat.zero_add, Nat.mul_one, Nat.add_zero, setL, List.set_cons_zero, List.set_cons_succ, fillC]
    refine BR_dec (fun hn => ?_) (fun hn => absurd (show (-1 : Int) < 0 by omega) hn)
    simp (disch := omega) only [c82, e0, e1, e2, e3, e4, hsz, ifT, w64, RR, RP, Ty.agg, Ty.size, Ty.sizes, eq_self, ne_eq, not_true, not_false_iff, reduceCtorEq, List.length_cons, List.length_nil, decide_true, decide_false, true_and, and_true, ite_true, ite_false, PT.full, enter0, setAll, forget, Fr.set, Fr.get, PT.get, PT.set, kof, ai, ev, ev1, evp, b_add, b_sub, b_mul, b_quo, b_rem, b_eql, b_neq, b_lss, b_leq, b_gtr, b_geq, b_seql, b_sneq, setD, resV, resL, res1, args, List.take_zero, List.drop_zero, List.take_nil, List.take_succ_cons, List.drop_succ_cons, Nat.reduceAdd, Nat.reduceLeDiff, reduceIte, Bool.not_true, Bool.not_false, Bool.false_eq_true, CA_some, Option.some.injEq, Nat.zero_add, Nat.mul_one, Nat.add_zero, setL, List.set_cons_zero, List.set_cons_succ, fillC]
    rw [if_neg (by omega)]
  simp (disch := omega) only [KC_eq, c82, e0, e1, e2, e3, e4, hsz, ifT, w64, RR, RP, Ty.agg, Ty.size, Ty.sizes, eq_self, ne_eq, not_true, not_false_iff, reduceCtorEq, List.length_cons, List.length_nil, decide_true, decide_false, true_and, and_true, ite_true, ite_false, PT.full, enter0, setAll, forget, Fr.set, Fr.get, PT.get, PT.set, kof, ai, ev, ev1, evp, b_add, b_sub, b_mul, b_quo, b_rem, b_eql, b_neq, b_lss, b_leq, b_gtr, b_geq, b_seql, b_sneq, setD, resV, resL, res1, args, List.take_zero, List.drop_zero, List.take_nil, List.take_succ_cons, List.drop_succ_cons, Nat.reduceAdd, Nat.reduceLeDiff, reduceIte, Bool.not_true, Bool.not_false, Bool.false_eq_true, CA_some, Option.some.injEq, Nat.zero_add, Nat.mul_one, Nat.add_zero, setL, List.set_cons_zero, List.set_cons_succ, fillC]
  refine BR_dec (fun hn => absurd hn (by omega)) (fun hn => ?_)
  simp (disch := omega) only [c82, e0, e1, e2, e3, e4, hsz, ifT, w64, RR, RP, Ty.agg, Ty.size, Ty.sizes, eq_self, ne_eq, not_true, not_false_iff, reduceCtorEq, List.length_cons, List.length_nil, decide_true, decide_false, true_and, and_true, ite_true, ite_false, PT.full, enter0, setAll, forget, Fr.set, Fr.get, PT.get, PT.set, kof, ai, ev, ev1, evp, b_add, b_sub, b_mul, b_quo, b_rem, b_eql, b_neq, b_lss, b_leq, b_gtr, b_geq, b_seql, b_sneq, setD, resV, resL, res1, args, List.take_zero, List.drop_zero, List.take_nil, List.take_succ_cons, List.drop_succ_cons, Nat.reduceAdd, Nat.reduceLeDiff, reduceIte, Bool.not_true, Bool.not_false, Bool.false_eq_true, CA_some, Option.some.injEq, Nat.zero_add, Nat.mul_one, Nat.add_zero, setL, List.set_cons_zero, List.set_cons_succ, fillC]
  refine SzOk.go sz_ByteSS h4 (k := k - wt v2 - wt v3) (by omega) (fun hf2 => ?_) (fun hf2 => ?_)
  case refine_2 =>
    simp (disch := omega) only [KC_eq, c82, e0, e1, e2, e3, e4, hsz, ifT, w64, RR, RP, Ty.agg, Ty.size, Ty.sizes, eq_self, ne_eq, not_true, not_false_iff, reduceCtorEq, List.length_cons, List.length_nil, decide_true, decide_false, true_and, and_true, ite_true, ite_false, PT.full, enter0, setAll, forget, Fr.set, Fr.get, PT.get, PT.set, kof, ai, ev, ev1, evp, b_add, b_sub, b_mul, b_quo, b_rem, b_eql, b_neq, b_lss, b_leq, b_gtr, b_geq, b_seql, b_sneq, setD, resV, resL, res1, args, List.take_zero, List.drop_zero, List.take_nil, List.take_succ_cons, List.drop_succ_cons, Nat.reduceAdd, Nat.reduceLeDiff, reduceIte, Bool.not_true, Bool.not_false, Bool.false_eq_true, CA_some, Option.some.injEq, Nat.zero_add, Nat.mul_one, Nat.add_zero, setL, List.set_cons_zero, List.set_cons_succ, fillC]
    refine BR_dec (fun hn => ?_) (fun hn => absurd (show (-1 : Int) < 0 by omega) hn)
    simp (disch := omega) only [c82, e0, e1, e2, e3, e4, hsz, ifT, w64, RR, RP, Ty.agg, Ty.size, Ty.sizes, eq_self, ne_eq, not_true, not_false_iff, reduceCtorEq, List.length_cons, List.length_nil, decide_true, decide_false, true_and, and_true, ite_true, ite_false, PT.full, enter0, setAll, forget, Fr.set, Fr.get, PT.get, PT.set, kof, ai, ev, ev1, evp, b_add, b_sub, b_mul, b_quo, b_rem, b_eql, b_neq, b_lss, b_leq, b_gtr, b_geq, b_seql, b_sneq, setD, resV, resL, res1, args, List.take_zero, List.drop_zero, List.take_nil, List.take_succ_cons, List.drop_succ_cons, Nat.reduceAdd, Nat.reduceLeDiff, reduceIte, Bool.not_true, Bool.not_false, Bool.false_eq_true, CA_some, Option.some.injEq, Nat.zero_add, Nat.mul_one, Nat.add_zero, setL, List.set_cons_zero, List.set_cons_succ, fillC]
    rw [if_neg (by omega)]
  simp (disch := omega) only [KC_eq, c82, e0, e1, e2, e3, e4, hsz, ifT, w64, RR, RP, Ty.agg, Ty.size, Ty.sizes, eq_self, ne_eq, not_true, not_false_iff, reduceCtorEq, List.length_cons, List.length_nil, decide_true, decide_false, true_and, and_true, ite_true, ite_false, PT.full, enter0, setAll, forget, Fr.set, Fr.get, PT.get, PT.set, kof, ai, ev, ev1, evp, b_add, b_sub, b_mul, b_quo, b_rem, b_eql, b_neq, b_lss, b_leq, b_gtr, b_geq, b_seql, b_sneq, setD, resV, resL, res1, args, List.take_zero, List.drop_zero, List.take_nil, List.take_succ_cons, List.drop_succ_cons, Nat.reduceAdd, Nat.reduceLeDiff, reduceIte, Bool.not_true, Bool.not_false, Bool.false_eq_true, CA_some, Option.some.injEq, Nat.zero_add, Nat.mul_one, Nat.add_zero, setL, List.set_cons_zero, List.set_cons_succ, fillC]
  refine BR_dec (fun hn => absurd hn (by omega)) (fun hn => ?_)
  simp (disch := omega) only [c82, e0, e1, e2, e3, e4, hsz, ifT, w64, RR, RP, Ty.agg, Ty.size, Ty.sizes, eq_self, ne_eq, not_true, not_false_iff, reduceCtorEq, List.length_cons, List.length_nil, decide_true, decide_false, true_and, and_true, ite_true, ite_false, PT.full, enter0, setAll, forget, Fr.set, Fr.get, PT.get, PT.set, kof, ai, ev, ev1, evp, b_add, b_sub, b_mul, b_quo, b_rem, b_eql, b_neq, b_lss, b_leq, b_gtr, b_geq, b_seql, b_sneq, setD, resV, resL, res1, args, List.take_zero, List.drop_zero, List.take_nil, List.take_succ_cons, List.drop_succ_cons, Nat.reduceAdd, Nat.reduceLeDiff, reduceIte, Bool.not_true, Bool.not_false, Bool.false_eq_true, CA_some, Option.some.injEq, Nat.zero_add, Nat.mul_one, Nat.add_zero, setL, List.set_cons_zero, List.set_cons_succ, fillC]
  congr 3
  omega
/-- laws.szHead -/
def c21 : AF := ⟨2, 5, [.tmp 4], (.seq (.ops [.i (.lbox 2 (.s 0)), .i (.mov 4 (.c (.val false [.int .i64 0])))]) (.seq (.ops [.i (.fad 5 (.s 2) 3), .i (.ldl 6 2 (.s 5) 1 false), .i (.mov 7 (.s 1)), .i (.call 9 81 false [(.s 6), (.s 7)]), .i (.mov 1 (.s 8))]) (.seq (.seq (.ops [.i (.mov 9 (.s 1)), .i (.bin 10 .lss (.s 9) (.c (.val false [.int .i64 0])))]) (.cond (.s 10) (.seq (.ops [.i (.mov 4 (.c (.val false [.int .i64 (-1)])))]) .ret) .skip)) (.seq (.ops [.i (.fad 11 (.s 2) 4), .i (.ldl 12 2 (.s 11) 1 false), .i (.mov 13 (.s 1)), .i (.call 15 81 false [(.s 12), (.s 13)]), .i (.mov 1 (.s 14))]) (.seq (.seq (.ops [.i (.mov 15 (.s 1)), .i (.bin 16 .lss (.s 15) (.c (.val false [.int .i64 0])))]) (.cond (.s 16) (.seq (.ops [.i (.mov 4 (.c (.val false [.int .i64 (-1)])))]) .ret) .skip)) (.seq (.ops [.i (.fad 17 (.s 2) 5), .i (.ldl 18 2 (.s 17) 5 true), .i (.mov 19 (.s 1)), .i (.call 21 82 false [(.s 18), (.s 19)]), .i (.mov 1 (.s 20))]) (.seq (.seq (.ops [.i (.mov 21 (.s 1)), .i (.bin 22 .lss (.s 21) (.c (.val false [.int .i64 0])))]) (.cond (.s 22) (.seq (.ops [.i (.mov 4 (.c (.val false [.int .i64 (-1)])))]) .ret) .skip)) (.seq (.ops [.i (.mov 23 (.s 1)), .i (.mov 4 (.s 23))]) .ret))))))))⟩
theorem k21 : cd 21 = some c21 := by kernel_rfl
theorem sz_Head : SzOk cd 21 THead := by
  intro h cs v S k hv hk
  obtain ⟨vs, rfl, q0⟩ := hv.st
  obtain ⟨v0, r0, S0, T0, rfl, rfl, h0, q1⟩ := q0.step
  obtain ⟨n0, e0, rfl, rfl, lo0, hi0⟩ := h0.int
  obtain ⟨v1, r1, S1, T1, rfl, rfl, h1, q2⟩ := q1.step
  obtain ⟨n1, e1, rfl, rfl, lo1, hi1⟩ := h1.int
  obtain ⟨v2, r2, S2, T2, rfl, rfl, h2, q3⟩ := q2.step
  obtain ⟨n2, e2, rfl, rfl, lo2, hi2⟩ := h2.int
  obtain ⟨v3, r3, S3, T3, rfl, rfl, h3, q4⟩ := q3.step
  obtain ⟨c3, e3⟩ := h3.one rfl
  rw [e3] at h3
  obtain ⟨v4, r4, S4, T4, rfl, rfl, h4, q5⟩ := q4.step
  obtain ⟨c4, e4⟩ := h4.one rfl
  rw [e4] at h4
  obtain ⟨v5, r5, S5, T5, rfl, rfl, h5, q6⟩ := q5.step
  obtain ⟨_, rfl, rfl⟩ := q6
  have hsz : cs.length = 10 := hv.size
  simp only [Ty.size, Ty.sizes, Nat.reduceAdd, Nat.zero_add, List.drop_zero] at e0 e1 e2 e3 e4 hsz h5
  have hw : wt (.r [.i n0, .i n1, .i n2, v3, v4, v5]) = wt v3 + wt v4 + wt v5 := by simp only [wt, wts]; omega
  rw [hw]
  refine WS_enter k21 rfl ?_
  simp (disch := omega) only [c21, e0, e1, e2, e3, e4, hsz, ifT, w64, RR, RP, Ty.agg, Ty.size, Ty.sizes, eq_self, ne_eq, not_true, not_false_iff, reduceCtorEq, List.length_cons, List.length_nil, decide_true, decide_false, true_and, and_true, ite_true, ite_false, PT.full, enter0, setAll, forget, Fr.set, Fr.get, PT.get, PT.set, kof, ai, ev, ev1, evp, b_add, b_sub, b_mul, b_quo, b_rem, b_eql, b_neq, b_lss, b_leq, b_gtr, b_geq, b_seql, b_sneq, setD, resV, resL, res1, args, List.take_zero, List.drop_zero, List.take_nil, List.take_succ_cons, List.drop_succ_cons, Nat.reduceAdd, Nat.reduceLeDiff, reduceIte, Bool.not_true, Bool.not_false, Bool.false_eq_true, CA_some, Option.some.injEq, Nat.zero_add, Nat.mul_one, Nat.add_zero, setL, List.set_cons_zero, List.set_cons_succ, fillC]
  refine SzOk.go sz_ByteS h3 (k := k) (by omega) (fun hf0 => ?_) (fun hf0 => ?_)
  case refine_2 =>
    simp (disch := omega) only [KC_eq, c21, e0, e1, e2, e3, e4, hsz, ifT, w64, RR, RP, Ty.agg, Ty.size, Ty.sizes, eq_self, ne_eq, not_true, not_false_iff, reduceCtorEq, List.length_cons, List.length_nil, decide_true, decide_false, true_and, and_true, ite_true, ite_false, PT.full, enter0, setAll, forget, Fr.set, Fr.get, PT.get, PT.set, kof, ai, ev, ev1, evp, b_add, b_sub, b_mul, b_quo, b_rem, b_eql, b_neq, b_lss, b_leq, b_gtr, b_geq, b_seql, b_sneq, setD, resV, resL, res1, args, List.take_zero, List.drop_zero, List.take_nil, List.take_succ_cons, List.drop_succ_cons, Nat.reduceAdd, Nat.reduceLeDiff, reduceIte, Bool.not_true, Bool.not_false, Bool.false_eq_true, CA_some, Option.some.injEq, Nat.zero_add, Nat.mul_one, Nat.add_zero, setL, List.set_cons_zero, List.set_cons_succ, fillC]
    refine BR_dec (fun hn => ?_) (fun hn => absurd (show (-1 : Int) < 0 by omega) hn)
    simp (disch := omega) only [c21, e0, e1, e2, e3, e4, hsz, ifT, w64, RR, RP, Ty.agg, Ty.size, Ty.sizes, eq_self, ne_eq, not_true, not_false_iff, reduceCtorEq, List.length_cons, List.length_nil, decide_true, decide_false, true_and, and_true, ite_true, ite_false, PT.full, enter0, setAll, forget, Fr.set, Fr.get, PT.get, PT.set, kof, ai, ev, ev1, evp, b_add, b_sub, b_mul, b_quo, b_rem, b_eql, b_neq, b_lss, b_leq, b_gtr, b_geq, b_seql, b_sneq, setD, resV, resL, res1, args, List.take_zero, List.drop_zero, List.take_nil, List.take_succ_cons, List.drop_succ_cons, Nat.reduceAdd, Nat.reduceLeDiff, reduceIte, Bool.not_true, Bool.not_false, Bool.false_eq_true, CA_some, Option.some.injEq, Nat.zero_add, Nat.mul_one, Nat.add_zero, setL, List.set_cons_zero, List.set_cons_succ, fillC]
    rw [if_neg (by omega)]
  simp (disch := omega) only [KC_eq, c21, e0, e1, e2, e3, e4, hsz, ifT, w64, RR, RP, Ty.agg, Ty.size, Ty.sizes, eq_self, ne_eq, not_true, not_false_iff, reduceCtorEq, List.length_cons, List.length_nil, decide_true, decide_false, true_and, and_true, ite_true, ite_false, PT.full, enter0, setAll, forget, Fr.set, Fr.get, PT.get, PT.set, kof, ai, ev, ev1, evp, b_add, b_sub, b_mul, b_quo, b_rem, b_eql, b_neq, b_lss, b_leq, b_gtr, b_geq, b_seql, b_sneq, setD, resV, resL, res1, args, List.take_zero, List.drop_zero, List.take_nil, List.take_succ_cons, List.drop_succ_cons, Nat.reduceAdd, Nat.reduceLeDiff, reduceIte, Bool.not_true, Bool.not_false, Bool.false_eq_true, CA_some, Option.some.injEq, Nat.zero_add, Nat.mul_one, Nat.add_zero, setL, List.set_cons_zero, List.set_cons_succ, fillC]
  refine BR_dec (fun hn => absurd hn (by omega)) (fun hn => ?_)
  simp (disch := omega) only [c21, e0, e1, e2, e3, e4, hsz, ifT, w64, RR, RP, Ty.agg, Ty.size, Ty.sizes, eq_self, ne_eq, not_true, not_false_iff, reduceCtorEq, List.length_cons, List.length_nil, decide_true, decide_false, true_and, and_true, ite_true, ite_false, PT.full, enter0, setAll, forget, Fr.set, Fr.get, PT.get, PT.set, kof, ai, ev, ev1, evp, b_add, b_sub, b_mul, b_quo, b_rem, b_eql, b_neq, b_lss, b_leq, b_gtr, b_geq, b_seql, b_sneq, setD, resV, resL, res1, args, List.take_zero, List.drop_zero, List.take_nil, List.take_succ_cons, List.drop_succ_cons, Nat.reduceAdd, Nat.reduceLeDiff, reduceIte, Bool.not_true, Bool.not_false, Bool.false_eq_true, CA_some, Option.some.injEq, Nat.zero_add, Nat.mul_one, Nat.add_zero, setL, List.set_cons_zero, List.set_cons_succ, fillC]
  refine SzOk.go sz_ByteS h4 (k := k - wt v3) (by omega) (fun hf1 => ?_) (fun hf1 => ?_)
  case refine_2 =>
    simp (disch := omega) only [KC_eq, c21, e0, e1, e2, e3, e4, hsz, ifT, w64, RR, RP, Ty.agg, Ty.size, Ty.sizes, eq_self, ne_eq, not_true, not_false_iff, reduceCtorEq, List.length_cons, List.length_nil, decide_true, decide_false, true_and, and_true, ite_true, ite_false, PT.full, enter0, setAll, forget, Fr.set, Fr.get, PT.get, PT.set, kof, ai, ev, ev1, evp, b_add, b_sub, b_mul, b_quo, b_rem, b_eql, b_neq, b_lss, b_leq, b_gtr, b_geq, b_seql, b_sneq, setD, resV, resL, res1, args, List.take_zero, List.drop_zero, List.take_nil, List.take_succ_cons, List.drop_succ_cons, Nat.reduceAdd, Nat.reduceLeDiff, reduceIte, Bool.not_true, Bool.not_false, Bool.false_eq_true, CA_some, Option.some.injEq, Nat.zero_add, Nat.mul_one, Nat.add_zero, setL, List.set_cons_zero, List.set_cons_succ, fillC]
    refine BR_dec (fun hn => ?_) (fun hn => absurd (show (-1 : Int) < 0 by omega) hn)
    simp (disch := omega) only [c21, e0, e1, e2, e3, e4, hsz, ifT, w64, RR, RP, Ty.agg, Ty.size, Ty.sizes, eq_self, ne_eq, not_true, not_false_iff, reduceCtorEq, List.length_cons, List.length_nil, decide_true, decide_false, true_and, and_true, ite_true, ite_false, PT.full, enter0, setAll, forget, Fr.set, Fr.get, PT.get, PT.set, kof, ai, ev, ev1, evp, b_add, b_sub, b_mul, b_quo, b_rem, b_eql, b_neq, b_lss, b_leq, b_gtr, b_geq, b_seql, b_sneq, setD, resV, resL, res1, args, List.take_zero, List.drop_zero, List.take_nil, List.take_succ_cons, List.drop_succ_cons, Nat.reduceAdd, Nat.reduceLeDiff, reduceIte, Bool.not_true, Bool.not_false, Bool.false_eq_true, CA_some, Option.some.injEq, Nat.zero_add, Nat.mul_one, Nat.add_zero, setL, List.set_cons_zero, List.set_cons_succ, fillC]
    rw [if_neg (by omega)]
  simp (disch := omega) only [KC_eq, c21, e0, e1, e2, e3, e4, hsz, ifT, w64, RR, RP, Ty.agg, Ty.size, Ty.sizes, eq_self, ne_eq, not_true, not_false_iff, reduceCtorEq, List.length_cons, List.length_nil, decide_true, decide_false, true_and, and_true, ite_true, ite_false, PT.full, enter0, setAll, forget, Fr.set, Fr.get, PT.get, PT.set, kof, ai, ev, ev1, evp, b_add, b_sub, b_mul, b_quo, b_rem, b_eql, b_neq, b_lss, b_leq, b_gtr, b_geq, b_seql, b_sneq, setD, resV, resL, res1, args, List.take_zero, List.drop_zero, List.take_nil, List.take_succ_cons, List.drop_succ_cons, Nat.reduceAdd, Nat.reduceLeDiff, reduceIte, Bool.not_true, Bool.not_false, Bool.false_eq_true, CA_some, Option.some.injEq, Nat.zero_add, Nat.mul_one, Nat.add_zero, setL, List.set_cons_zero, List.set_cons_succ, fillC]
  refine BR_dec (fun hn => absurd hn (by omega)) (fun hn => ?_)
  simp (disch := omega) only [c21, e0, e1, e2, e3, e4, hsz, ifT, w64, RR, RP, Ty.agg, Ty.size, Ty.sizes, eq_self, ne_eq, not_true, not_false_iff, reduceCtorEq, List.length_cons, List.length_nil, decide_true, decide_false, true_and, and_true, ite_true, ite_false, PT.full, enter0, setAll, forget, Fr.set, Fr.get, PT.get, PT.set, kof, ai, ev, ev1, evp, b_add, b_sub, b_mul, b_quo, b_rem, b_eql, b_neq, b_lss, b_leq, b_gtr, b_geq, b_seql, b_sneq, setD, resV, resL, res1, args, List.take_zero, List.drop_zero, List.take_nil, List.take_succ_cons, List.drop_succ_cons, Nat.reduceAdd, Nat.reduceLeDiff, reduceIte, Bool.not_true, Bool.not_false, Bool.false_eq_true, CA_some, Option.some.injEq, Nat.zero_add, Nat.mul_one, Nat.add_zero, setL, List.set_cons_zero, List.set_cons_succ, fillC]
  refine SzOk.go sz_Qc h5 (k := k - wt v3 - wt v4) (by omega) (fun hf2 => ?_) (fun hf2 => ?_)
  case refine_2 =>
    simp (disch := omega) only [KC_eq, c21, e0, e1, e2, e3, e4, hsz, ifT, w64, RR, RP, Ty.agg, Ty.size, Ty.sizes, eq_self, ne_eq, not_true, not_false_iff, reduceCtorEq, List.length_cons, List.length_nil, decide_true, decide_false, true_and, and_true, ite_true, ite_false, PT.full, enter0, setAll, forget, Fr.set, Fr.get, PT.get, PT.set, kof, ai, ev, ev1, evp, b_add, b_sub, b_mul, b_quo, b_rem, b_eql, b_neq, b_lss, b_leq, b_gtr, b_geq, b_seql, b_sneq, setD, resV, resL, res1, args, List.take_zero, List.drop_zero, List.take_nil, List.take_succ_cons, List.drop_succ_cons, Nat.reduceAdd, Nat.reduceLeDiff, reduceIte, Bool.not_true, Bool.not_false, Bool.false_eq_true, CA_some, Option.some.injEq, Nat.zero_add, Nat.mul_one, Nat.add_zero, setL, List.set_cons_zero, List.set_cons_succ, fillC]
    refine BR_dec (fun hn => ?_) (fun hn => absurd (show (-1 : Int) < 0 by omega) hn)
    simp (disch := omega) only [c21, e0, e1, e2, e3, e4, hsz, ifT, w64, RR, RP, Ty.agg, Ty.size, Ty.sizes, eq_self, ne_eq, not_true, not_false_iff, reduceCtorEq, List.length_cons, List.length_nil, decide_true, decide_false, true_and, and_true, ite_true, ite_false, PT.full, enter0, setAll, forget, Fr.set, Fr.get, PT.get, PT.set, kof, ai, ev, ev1, evp, b_add, b_sub, b_mul, b_quo, b_rem, b_eql, b_neq, b_lss, b_leq, b_gtr, b_geq, b_seql, b_sneq, setD, resV, resL, res1, args, List.take_zero, List.drop_zero, List.take_nil, List.take_succ_cons, List.drop_succ_cons, Nat.reduceAdd, Nat.reduceLeDiff, reduceIte, Bool.not_true, Bool.not_false, Bool.false_eq_true, CA_some, Option.some.injEq, Nat.zero_add, Nat.mul_one, Nat.add_zero, setL, List.set_cons_zero, List.set_cons_succ, fillC]
    rw [if_neg (by omega)]
  simp (disch := omega) only [KC_eq, c21, e0, e1, e2, e3, e4, hsz, ifT, w64, RR, RP, Ty.agg, Ty.size, Ty.sizes, eq_self, ne_eq, not_true, not_false_iff, reduceCtorEq, List.length_cons, List.length_nil, decide_true, decide_false, true_and, and_true, ite_true, ite_false, PT.full, enter0, setAll, forget, Fr.set, Fr.get, PT.get, PT.set, kof, ai, ev, ev1, evp, b_add, b_sub, b_mul, b_quo, b_rem, b_eql, b_neq, b_lss, b_leq, b_gtr, b_geq, b_seql, b_sneq, setD, resV, resL, res1, args, List.take_zero, List.drop_zero, List.take_nil, List.take_succ_cons, List.drop_succ_cons, Nat.reduceAdd, Nat.reduceLeDiff, reduceIte, Bool.not_true, Bool.not_false, Bool.false_eq_true, CA_some, Option.some.injEq, Nat.zero_add, Nat.mul_one, Nat.add_zero, setL, List.set_cons_zero, List.set_cons_succ, fillC]
  refine BR_dec (fun hn => absurd hn (by omega)) (fun hn => ?_)
  simp (disch := omega) only [c21, e0, e1, e2, e3, e4, hsz, ifT, w64, RR, RP, Ty.agg, Ty.size, Ty.sizes, eq_self, ne_eq, not_true, not_false_iff, reduceCtorEq, List.length_cons, List.length_nil, decide_true, decide_false, true_and, and_true, ite_true, ite_false, PT.full, enter0, setAll, forget, Fr.set, Fr.get, PT.get, PT.set, kof, ai, ev, ev1, evp, b_add, b_sub, b_mul, b_quo, b_rem, b_eql, b_neq, b_lss, b_leq, b_gtr, b_geq, b_seql, b_sneq, setD, resV, resL, res1, args, List.take_zero, List.drop_zero, List.take_nil, List.take_succ_cons, List.drop_succ_cons, Nat.reduceAdd, Nat.reduceLeDiff, reduceIte, Bool.not_true, Bool.not_false, Bool.false_eq_true, CA_some, Option.some.injEq, Nat.zero_add, Nat.mul_one, Nat.add_zero, setL, List.set_cons_zero, List.set_cons_succ, fillC]
  congr 3
  omega
/-- laws.szHeadS -/
def c93 : AF := ⟨2, 5, [.tmp 4], (.seq (.ops [.i (.mov 4 (.c (.val false [.int .i64 0])))]) (.seq (.ops [.i (.mov 6 (.s 1)), .i (.mov 7 (.s 0)), .i (.len 8 false (.s 7)), .i (.bin 9 .sub (.s 6) (.s 8)), .i (.mov 1 (.s 9))]) (.seq (.seq (.ops [.i (.mov 10 (.s 1)), .i (.bin 11 .lss (.s 10) (.c (.val false [.int .i64 0])))]) (.cond (.s 11) (.seq (.ops [.i (.mov 4 (.c (.val false [.int .i64 (-1)])))]) .ret) .skip)) (.seq (.seq (.ops [.i (.mov 5 (.c (.val false [.int .i64 0])))]) (.block 0 (.loop [25, 24, 23, 22, 21, 20, 19, 18, 17, 16, 15, 14, 13, 12] (.seq (.seq (.ops [.i (.mov 12 (.s 5)), .i (.mov 13 (.s 0)), .i (.len 14 false (.s 13)), .i (.bin 15 .lss (.s 12) (.s 14))]) (.cond (.s 15) .skip (.exit 0))) (.seq (.block 1 (.seq (.ops [.i (.mov 18 (.s 0)), .i (.mov 19 (.s 5)), .i (.iad 20 (.s 18) (.s 19) 10), .i (.ldh 21 (.s 20) 10 true), .i (.mov 22 (.s 1)), .i (.call 24 21 false [(.s 21), (.s 22)]), .i (.mov 1 (.s 23))]) (.seq (.ops [.i (.mov 24 (.s 1)), .i (.bin 25 .lss (.s 24) (.c (.val false [.int .i64 0])))]) (.cond (.s 25) (.seq (.ops [.i (.mov 4 (.c (.val false [.int .i64 (-1)])))]) .ret) .skip)))) (.ops [.i (.mov 16 (.s 5)), .i (.bin 17 .add (.s 16) (.c (.val false [.int .i64 1]))), .i (.mov 5 (.s 17))])))))) (.seq (.ops [.i (.mov 26 (.s 1)), .i (.mov 4 (.s 26))]) .ret)))))⟩
theorem k93 : cd 93 = some c93 := by kernel_rfl
theorem sz_HeadS : SzOk cd 93 (.sl THead) := sz_sl k93 sz_Head
theorem len_9 {l : List C} (h : l.length = 9) : ∃ x0 x1 x2 x3 x4 x5 x6 x7 x8, l = [x0, x1, x2, x3, x4, x5, x6, x7, x8] := by
  rcases l with _ | ⟨x0, l⟩
  · simp at h
  rcases l with _ | ⟨x1, l⟩
  · simp at h
  rcases l with _ | ⟨x2, l⟩
  · simp at h
  rcases l with _ | ⟨x3, l⟩
  · simp at h
  rcases l with _ | ⟨x4, l⟩
  · simp at h
  rcases l with _ | ⟨x5, l⟩
  · simp at h
  rcases l with _ | ⟨x6, l⟩
  · simp at h
  rcases l with _ | ⟨x7, l⟩
  · simp at h
  rcases l with _ | ⟨x8, l⟩
  · simp at h
  · simp at h; exact ⟨x0, x1, x2, x3, x4, x5, x6, x7, x8, by simp [h]⟩
/-- laws.szLight -/
def c98 : AF := ⟨2, 5, [.tmp 4], (.seq (.ops [.i (.lbox 2 (.s 0)), .i (.mov 4 (.c (.val false [.int .i64 0])))]) (.seq (.ops [.i (.fad 5 (.s 2) 5), .i (.ldl 6 2 (.s 5) 1 true), .i (.mov 7 (.s 1)), .i (.call 9 97 false [(.s 6), (.s 7)]), .i (.mov 1 (.s 8))]) (.seq (.seq (.ops [.i (.mov 9 (.s 1)), .i (.bin 10 .lss (.s 9) (.c (.val false [.int .i64 0])))]) (.cond (.s 10) (.seq (.ops [.i (.mov 4 (.c (.val false [.int .i64 (-1)])))]) .ret) .skip)) (.seq (.ops [.i (.fad 11 (.s 2) 6), .i (.ldl 12 2 (.s 11) 2 true), .i (.mov 13 (.s 1)), .i (.call 15 141 false [(.s 12), (.s 13)]), .i (.mov 1 (.s 14))]) (.seq (.seq (.ops [.i (.mov 15 (.s 1)), .i (.bin 16 .lss (.s 15) (.c (.val false [.int .i64 0])))]) (.cond (.s 16) (.seq (.ops [.i (.mov 4 (.c (.val false [.int .i64 (-1)])))]) .ret) .skip)) (.seq (.ops [.i (.fad 17 (.s 2) 8), .i (.ldl 18 2 (.s 17) 1 false), .i (.mov 19 (.s 1)), .i (.call 21 93 false [(.s 18), (.s 19)]), .i (.mov 1 (.s 20))]) (.seq (.seq (.ops [.i (.mov 21 (.s 1)), .i (.bin 22 .lss (.s 21) (.c (.val false [.int .i64 0])))]) (.cond (.s 22) (.seq (.ops [.i (.mov 4 (.c (.val false [.int .i64 (-1)])))]) .ret) .skip)) (.seq (.ops [.i (.mov 23 (.s 1)), .i (.mov 4 (.s 23))]) .ret))))))))⟩
theorem k98 : cd 98 = some c98 := by kernel_rfl
theorem sz_Light : SzOk cd 98 TLight := by
  intro h cs v S k hv hk
  obtain ⟨vs, rfl, q0⟩ := hv.st
  obtain ⟨v0, r0, S0, T0, rfl, rfl, h0, q1⟩ := q0.step
  obtain ⟨v1, r1, S1, T1, rfl, rfl, h1, q2⟩ := q1.step
  obtain ⟨v2, r2, S2, T2, rfl, rfl, h2, q3⟩ := q2.step
  obtain ⟨v3, r3, S3, T3, rfl, rfl, h3, q4⟩ := q3.step
  obtain ⟨c3, e3⟩ := h3.one rfl
  rw [e3] at h3
  obtain ⟨_, rfl, rfl⟩ := q4
  have hsz : cs.length = 9 := hv.size
  simp only [Ty.size, Ty.sizes, Nat.reduceAdd, Nat.zero_add, List.drop_zero] at e3 hsz h0 h1 h2
  have fw0 := Rp.wt0 TLimits h0 rfl
  have hw : wt (.r [v0, v1, v2, v3]) = wt v1 + wt v2 + wt v3 := by simp only [wt, wts]; omega
  rw [hw]
  refine WS_enter k98 rfl ?_
  simp (disch := omega) only [c98, e3, hsz, ifT, w64, RR, RP, Ty.agg, Ty.size, Ty.sizes, eq_self, ne_eq, not_true, not_false_iff, reduceCtorEq, List.length_cons, List.length_nil, decide_true, decide_false, true_and, and_true, ite_true, ite_false, PT.full, enter0, setAll, forget, Fr.set, Fr.get, PT.get, PT.set, kof, ai, ev, ev1, evp, b_add, b_sub, b_mul, b_quo, b_rem, b_eql, b_neq, b_lss, b_leq, b_gtr, b_geq, b_seql, b_sneq, setD, resV, resL, res1, args, List.take_zero, List.drop_zero, List.take_nil, List.take_succ_cons, List.drop_succ_cons, Nat.reduceAdd, Nat.reduceLeDiff, reduceIte, Bool.not_true, Bool.not_false, Bool.false_eq_true, CA_some, Option.some.injEq, Nat.zero_add, Nat.mul_one, Nat.add_zero, setL, List.set_cons_zero, List.set_cons_succ, fillC]
  refine SzOk.go sz_Table h1 (k := k) (by omega) (fun hf0 => ?_) (fun hf0 => ?_)
  case refine_2 =>
    simp (disch := omega) only [KC_eq, c98, e3, hsz, ifT, w64, RR, RP, Ty.agg, Ty.size, Ty.sizes, eq_self, ne_eq, not_true, not_false_iff, reduceCtorEq, List.length_cons, List.length_nil, decide_true, decide_false, true_and, and_true, ite_true, ite_false, PT.full, enter0, setAll, forget, Fr.set, Fr.get, PT.get, PT.set, kof, ai, ev, ev1, evp, b_add, b_sub, b_mul, b_quo, b_rem, b_eql, b_neq, b_lss, b_leq, b_gtr, b_geq, b_seql, b_sneq, setD, resV, resL, res1, args, List.take_zero, List.drop_zero, List.take_nil, List.take_succ_cons, List.drop_succ_cons, Nat.reduceAdd, Nat.reduceLeDiff, reduceIte, Bool.not_true, Bool.not_false, Bool.false_eq_true, CA_some, Option.some.injEq, Nat.zero_add, Nat.mul_one, Nat.add_zero, setL, List.set_cons_zero, List.set_cons_succ, fillC]
    refine BR_dec (fun hn => ?_) (fun hn => absurd (show (-1 : Int) < 0 by omega) hn)
    simp (disch := omega) only [c98, e3, hsz, ifT, w64, RR, RP, Ty.agg, Ty.size, Ty.sizes, eq_self, ne_eq, not_true, not_false_iff, reduceCtorEq, List.length_cons, List.length_nil, decide_true, decide_false, true_and, and_true, ite_true, ite_false, PT.full, enter0, setAll, forget, Fr.set, Fr.get, PT.get, PT.set, kof, ai, ev, ev1, evp, b_add, b_sub, b_mul, b_quo, b_rem, b_eql, b_neq, b_lss, b_leq, b_gtr, b_geq, b_seql, b_sneq, setD, resV, resL, res1, args, List.take_zero, List.drop_zero, List.take_nil, List.take_succ_cons, List.drop_succ_cons, Nat.reduceAdd, Nat.reduceLeDiff, reduceIte, Bool.not_true, Bool.not_false, Bool.false_eq_true, CA_some, Option.some.injEq, Nat.zero_add, Nat.mul_one, Nat.add_zero, setL, List.set_cons_zero, List.set_cons_succ, fillC]
    rw [if_neg (by omega)]
  simp (disch := omega) only [KC_eq, c98, e3, hsz, ifT, w64, RR, RP, Ty.agg, Ty.size, Ty.sizes, eq_self, ne_eq, not_true, not_false_iff, reduceCtorEq, List.length_cons, List.length_nil, decide_true, decide_false, true_and, and_true, ite_true, ite_false, PT.full, enter0, setAll, forget, Fr.set, Fr.get, PT.get, PT.set, kof, ai, ev, ev1, evp, b_add, b_sub, b_mul, b_quo, b_rem, b_eql, b_neq, b_lss, b_leq, b_gtr, b_geq, b_seql, b_sneq, setD, resV, resL, res1, args, List.take_zero, List.drop_zero, List.take_nil, List.take_succ_cons, List.drop_succ_cons, Nat.reduceAdd, Nat.reduceLeDiff, reduceIte, Bool.not_true, Bool.not_false, Bool.false_eq_true, CA_some, Option.some.injEq, Nat.zero_add, Nat.mul_one, Nat.add_zero, setL, List.set_cons_zero, List.set_cons_succ, fillC]
  refine BR_dec (fun hn => absurd hn (by omega)) (fun hn => ?_)
  simp (disch := omega) only [c98, e3, hsz, ifT, w64, RR, RP, Ty.agg, Ty.size, Ty.sizes, eq_self, ne_eq, not_true, not_false_iff, reduceCtorEq, List.length_cons, List.length_nil, decide_true, decide_false, true_and, and_true, ite_true, ite_false, PT.full, enter0, setAll, forget, Fr.set, Fr.get, PT.get, PT.set, kof, ai, ev, ev1, evp, b_add, b_sub, b_mul, b_quo, b_rem, b_eql, b_neq, b_lss, b_leq, b_gtr, b_geq, b_seql, b_sneq, setD, resV, resL, res1, args, List.take_zero, List.drop_zero, List.take_nil, List.take_succ_cons, List.drop_succ_cons, Nat.reduceAdd, Nat.reduceLeDiff, reduceIte, Bool.not_true, Bool.not_false, Bool.false_eq_true, CA_some, Option.some.injEq, Nat.zero_add, Nat.mul_one, Nat.add_zero, setL, List.set_cons_zero, List.set_cons_succ, fillC]
  refine SzOk.go sz_Push h2 (k := k - wt v1) (by omega) (fun hf1 => ?_) (fun hf1 => ?_)
  case refine_2 =>
    simp (disch := omega) only [KC_eq, c98, e3, hsz, ifT, w64, RR, RP, Ty.agg, Ty.size, Ty.sizes, eq_self, ne_eq, not_true, not_false_iff, reduceCtorEq, List.length_cons, List.length_nil, decide_true, decide_false, true_and, and_true, ite_true, ite_false, PT.full, enter0, setAll, forget, Fr.set, Fr.get, PT.get, PT.set, kof, ai, ev, ev1, evp, b_add, b_sub, b_mul, b_quo, b_rem, b_eql, b_neq, b_lss, b_leq, b_gtr, b_geq, b_seql, b_sneq, setD, resV, resL, res1, args, List.take_zero, List.drop_zero, List.take_nil, List.take_succ_cons, List.drop_succ_cons, Nat.reduceAdd, Nat.reduceLeDiff, reduceIte, Bool.not_true, Bool.not_false, Bool.false_eq_true, CA_some, Option.some.injEq, Nat.zero_add, Nat.mul_one, Nat.add_zero, setL, List.set_cons_zero, List.set_cons_succ, fillC]
    refine BR_dec (fun hn => ?_) (fun hn => absurd (show (-1 : Int) < 0 by omega) hn)
    simp (disch := omega) only [c98, e3, hsz, ifT, w64, RR, RP, Ty.agg, Ty.size, Ty.sizes, eq_self, ne_eq, not_true, not_false_iff, reduceCtorEq, List.length_cons, List.length_nil, decide_true, decide_false, true_and, and_true, ite_true, ite_false, PT.full, enter0, setAll, forget, Fr.set, Fr.get, PT.get, PT.set, kof, ai, ev, ev1, evp, b_add, b_sub, b_mul, b_quo, b_rem, b_eql, b_neq, b_lss, b_leq, b_gtr, b_geq, b_seql, b_sneq, setD, resV, resL, res1, args, List.take_zero, List.drop_zero, List.take_nil, List.take_succ_cons, List.drop_succ_cons, Nat.reduceAdd, Nat.reduceLeDiff, reduceIte, Bool.not_true, Bool.not_false, Bool.false_eq_true, CA_some, Option.some.injEq, Nat.zero_add, Nat.mul_one, Nat.add_zero, setL, List.set_cons_zero, List.set_cons_succ, fillC]
    rw [if_neg (by omega)]
  simp (disch := omega) only [KC_eq, c98, e3, hsz, ifT, w64, RR, RP, Ty.agg, Ty.size, Ty.sizes, eq_self, ne_eq, not_true, not_false_iff, reduceCtorEq, List.length_cons, List.length_nil, decide_true, decide_false, true_and, and_true, ite_true, ite_false, PT.full, enter0, setAll, forget, Fr.set, Fr.get, PT.get, PT.set, kof, ai, ev, ev1, evp, b_add, b_sub, b_mul, b_quo, b_rem, b_eql, b_neq, b_lss, b_leq, b_gtr, b_geq, b_seql, b_sneq, setD, resV, resL, res1, args, List.take_zero, List.drop_zero, List.take_nil, List.take_succ_cons, List.drop_succ_cons, Nat.reduceAdd, Nat.reduceLeDiff, reduceIte, Bool.not_true, Bool.not_false, Bool.false_eq_true, CA_some, Option.some.injEq, Nat.zero_add, Nat.mul_one, Nat.add_zero, setL, List.set_cons_zero, List.set_cons_succ, fillC]
  refine BR_dec (fun hn => absurd hn (by omega)) (fun hn => ?_)
  simp (disch := omega) only [c98, e3, hsz, ifT, w64, RR, RP, Ty.agg, Ty.size, Ty.sizes, eq_self, ne_eq, not_true, not_false_iff, reduceCtorEq, List.length_cons, List.length_nil, decide_true, decide_false, true_and, and_true, ite_true, ite_false, PT.full, enter0, setAll, forget, Fr.set, Fr.get, PT.get, PT.set, kof, ai, ev, ev1, evp, b_add, b_sub, b_mul, b_quo, b_rem, b_eql, b_neq, b_lss, b_leq, b_gtr, b_geq, b_seql, b_sneq, setD, resV, resL, res1, args, List.take_zero, List.drop_zero, List.take_nil, List.take_succ_cons, List.drop_succ_cons, Nat.reduceAdd, Nat.reduceLeDiff, reduceIte, Bool.not_true, Bool.not_false, Bool.false_eq_true, CA_some, Option.some.injEq, Nat.zero_add, Nat.mul_one, Nat.add_zero, setL, List.set_cons_zero, List.set_cons_succ, fillC]
  refine SzOk.go sz_HeadS h3 (k := k - wt v1 - wt v2) (by omega) (fun hf2 => ?_) (fun hf2 => ?_)
  case refine_2 =>
    simp (disch := omega) only [KC_eq, c98, e3, hsz, ifT, w64, RR, RP, Ty.agg, Ty.size, Ty.sizes, eq_self, ne_eq, not_true, not_false_iff, reduceCtorEq, List.length_cons, List.length_nil, decide_true, decide_false, true_and, and_true, ite_true, ite_false, PT.full, enter0, setAll, forget, Fr.set, Fr.get, PT.get, PT.set, kof, ai, ev, ev1, evp, b_add, b_sub, b_mul, b_quo, b_rem, b_eql, b_neq, b_lss, b_leq, b_gtr, b_geq, b_seql, b_sneq, setD, resV, resL, res1, args, List.take_zero, List.drop_zero, List.take_nil, List.take_succ_cons, List.drop_succ_cons, Nat.reduceAdd, Nat.reduceLeDiff, reduceIte, Bool.not_true, Bool.not_false, Bool.false_eq_true, CA_some, Option.some.injEq, Nat.zero_add, Nat.mul_one, Nat.add_zero, setL, List.set_cons_zero, List.set_cons_succ, fillC]
    refine BR_dec (fun hn => ?_) (fun hn => absurd (show (-1 : Int) < 0 by omega) hn)
    simp (disch := omega) only [c98, e3, hsz, ifT, w64, RR, RP, Ty.agg, Ty.size, Ty.sizes, eq_self, ne_eq, not_true, not_false_iff, reduceCtorEq, List.length_cons, List.length_nil, decide_true, decide_false, true_and, and_true, ite_true, ite_false, PT.full, enter0, setAll, forget, Fr.set, Fr.get, PT.get, PT.set, kof, ai, ev, ev1, evp, b_add, b_sub, b_mul, b_quo, b_rem, b_eql, b_neq, b_lss, b_leq, b_gtr, b_geq, b_seql, b_sneq, setD, resV, resL, res1, args, List.take_zero, List.drop_zero, List.take_nil, List.take_succ_cons, List.drop_succ_cons, Nat.reduceAdd, Nat.reduceLeDiff, reduceIte, Bool.not_true, Bool.not_false, Bool.false_eq_true, CA_some, Option.some.injEq, Nat.zero_add, Nat.mul_one, Nat.add_zero, setL, List.set_cons_zero, List.set_cons_succ, fillC]
    rw [if_neg (by omega)]
  simp (disch := omega) only [KC_eq, c98, e3, hsz, ifT, w64, RR, RP, Ty.agg, Ty.size, Ty.sizes, eq_self, ne_eq, not_true, not_false_iff, reduceCtorEq, List.length_cons, List.length_nil, decide_true, decide_false, true_and, and_true, ite_true, ite_false, PT.full, enter0, setAll, forget, Fr.set, Fr.get, PT.get, PT.set, kof, ai, ev, ev1, evp, b_add, b_sub, b_mul, b_quo, b_rem, b_eql, b_neq, b_lss, b_leq, b_gtr, b_geq, b_seql, b_sneq, setD, resV, resL, res1, args, List.take_zero, List.drop_zero, List.take_nil, List.take_succ_cons, List.drop_succ_cons, Nat.reduceAdd, Nat.reduceLeDiff, reduceIte, Bool.not_true, Bool.not_false, Bool.false_eq_true, CA_some, Option.some.injEq, Nat.zero_add, Nat.mul_one, Nat.add_zero, setL, List.set_cons_zero, List.set_cons_succ, fillC]
  refine BR_dec (fun hn => absurd hn (by omega)) (fun hn => ?_)
  simp (disch := omega) only [c98, e3, hsz, ifT, w64, RR, RP, Ty.agg, Ty.size, Ty.sizes, eq_self, ne_eq, not_true, not_false_iff, reduceCtorEq, List.length_cons, List.length_nil, decide_true, decide_false, true_and, and_true, ite_true, ite_false, PT.full, enter0, setAll, forget, Fr.set, Fr.get, PT.get, PT.set, kof, ai, ev, ev1, evp, b_add, b_sub, b_mul, b_quo, b_rem, b_eql, b_neq, b_lss, b_leq, b_gtr, b_geq, b_seql, b_sneq, setD, resV, resL, res1, args, List.take_zero, List.drop_zero, List.take_nil, List.take_succ_cons, List.drop_succ_cons, Nat.reduceAdd, Nat.reduceLeDiff, reduceIte, Bool.not_true, Bool.not_false, Bool.false_eq_true, CA_some, Option.some.injEq, Nat.zero_add, Nat.mul_one, Nat.add_zero, setL, List.set_cons_zero, List.set_cons_succ, fillC]
  congr 3
  omega
/-- laws.szDesk -/
def c39 : AF := ⟨2, 5, [.tmp 4], (.seq (.ops [.i (.lbox 2 (.s 0)), .i (.mov 4 (.c (.val false [.int .i64 0])))]) (.seq (.ops [.i (.fad 5 (.s 2) 5), .i (.ldl 6 2 (.s 5) 1 true), .i (.mov 7 (.s 1)), .i (.call 9 97 false [(.s 6), (.s 7)]), .i (.mov 1 (.s 8))]) (.seq (.seq (.ops [.i (.mov 9 (.s 1)), .i (.bin 10 .lss (.s 9) (.c (.val false [.int .i64 0])))]) (.cond (.s 10) (.seq (.ops [.i (.mov 4 (.c (.val false [.int .i64 (-1)])))]) .ret) .skip)) (.seq (.ops [.i (.fad 11 (.s 2) 6), .i (.ldl 12 2 (.s 11) 9 true), .i (.mov 13 (.s 1)), .i (.call 15 98 false [(.s 12), (.s 13)]), .i (.mov 1 (.s 14))]) (.seq (.seq (.ops [.i (.mov 15 (.s 1)), .i (.bin 16 .lss (.s 15) (.c (.val false [.int .i64 0])))]) (.cond (.s 16) (.seq (.ops [.i (.mov 4 (.c (.val false [.int .i64 (-1)])))]) .ret) .skip)) (.seq (.ops [.i (.fad 17 (.s 2) 15), .i (.ldl 18 2 (.s 17) 1 false), .i (.mov 19 (.s 1)), .i (.call 21 93 false [(.s 18), (.s 19)]), .i (.mov 1 (.s 20))]) (.seq (.seq (.ops [.i (.mov 21 (.s 1)), .i (.bin 22 .lss (.s 21) (.c (.val false [.int .i64 0])))]) (.cond (.s 22) (.seq (.ops [.i (.mov 4 (.c (.val false [.int .i64 (-1)])))]) .ret) .skip)) (.seq (.ops [.i (.mov 23 (.s 1)), .i (.mov 4 (.s 23))]) .ret))))))))⟩
theorem k39 : cd 39 = some c39 := by kernel_rfl
theorem sz_Desk : SzOk cd 39 TDesk := by
  intro h cs v S k hv hk
  obtain ⟨vs, rfl, q0⟩ := hv.st
  obtain ⟨v0, r0, S0, T0, rfl, rfl, h0, q1⟩ := q0.step
  obtain ⟨v1, r1, S1, T1, rfl, rfl, h1, q2⟩ := q1.step
  obtain ⟨v2, r2, S2, T2, rfl, rfl, h2, q3⟩ := q2.step
  obtain ⟨v3, r3, S3, T3, rfl, rfl, h3, q4⟩ := q3.step
  obtain ⟨c3, e3⟩ := h3.one rfl
  rw [e3] at h3
  obtain ⟨_, rfl, rfl⟩ := q4
  have hsz : cs.length = 16 := hv.size
  simp only [Ty.size, Ty.sizes, Nat.reduceAdd, Nat.zero_add, List.drop_zero] at e3 hsz h0 h1 h2
  have fw0 := Rp.wt0 TLimits h0 rfl
  have hw : wt (.r [v0, v1, v2, v3]) = wt v1 + wt v2 + wt v3 := by simp only [wt, wts]; omega
  rw [hw]
  refine WS_enter k39 rfl ?_
  simp (disch := omega) only [c39, e3, hsz, ifT, w64, RR, RP, Ty.agg, Ty.size, Ty.sizes, eq_self, ne_eq, not_true, not_false_iff, reduceCtorEq, List.length_cons, List.length_nil, decide_true, decide_false, true_and, and_true, ite_true, ite_false, PT.full, enter0, setAll, forget, Fr.set, Fr.get, PT.get, PT.set, kof, ai, ev, ev1, evp, b_add, b_sub, b_mul, b_quo, b_rem, b_eql, b_neq, b_lss, b_leq, b_gtr, b_geq, b_seql, b_sneq, setD, resV, resL, res1, args, List.take_zero, List.drop_zero, List.take_nil, List.take_succ_cons, List.drop_succ_cons, Nat.reduceAdd, Nat.reduceLeDiff, reduceIte, Bool.not_true, Bool.not_false, Bool.false_eq_true, CA_some, Option.some.injEq, Nat.zero_add, Nat.mul_one, Nat.add_zero, setL, List.set_cons_zero, List.set_cons_succ, fillC]
  refine SzOk.go sz_Table h1 (k := k) (by omega) (fun hf0 => ?_) (fun hf0 => ?_)
  case refine_2 =>
    simp (disch := omega) only [KC_eq, c39, e3, hsz, ifT, w64, RR, RP, Ty.agg, Ty.size, Ty.sizes, eq_self, ne_eq, not_true, not_false_iff, reduceCtorEq, List.length_cons, List.length_nil, decide_true, decide_false, true_and, and_true, ite_true, ite_false, PT.full, enter0, setAll, forget, Fr.set, Fr.get, PT.get, PT.set, kof, ai, ev, ev1, evp, b_add, b_sub, b_mul, b_quo, b_rem, b_eql, b_neq, b_lss, b_leq, b_gtr, b_geq, b_seql, b_sneq, setD, resV, resL, res1, args, List.take_zero, List.drop_zero, List.take_nil, List.take_succ_cons, List.drop_succ_cons, Nat.reduceAdd, Nat.reduceLeDiff, reduceIte, Bool.not_true, Bool.not_false, Bool.false_eq_true, CA_some, Option.some.injEq, Nat.zero_add, Nat.mul_one, Nat.add_zero, setL, List.set_cons_zero, List.set_cons_succ, fillC]
    refine BR_dec (fun hn => ?_) (fun hn => absurd (show (-1 : Int) < 0 by omega) hn)
    simp (disch := omega) only [c39, e3, hsz, ifT, w64, RR, RP, Ty.agg, Ty.size, Ty.sizes, eq_self, ne_eq, not_true, not_false_iff, reduceCtorEq, List.length_cons, List.length_nil, decide_true, decide_false, true_and, and_true, ite_true, ite_false, PT.full, enter0, setAll, forget, Fr.set, Fr.get, PT.get, PT.set, kof, ai, ev, ev1, evp, b_add, b_sub, b_mul, b_quo, b_rem, b_eql, b_neq, b_lss, b_leq, b_gtr, b_geq, b_seql, b_sneq, setD, resV, resL, res1, args, List.take_zero, List.drop_zero, List.take_nil, List.take_succ_cons, List.drop_succ_cons, Nat.reduceAdd, Nat.reduceLeDiff, reduceIte, Bool.not_true, Bool.not_false, Bool.false_eq_true, CA_some, Option.some.injEq, Nat.zero_add, Nat.mul_one, Nat.add_zero, setL, List.set_cons_zero, List.set_cons_succ, fillC]
    rw [if_neg (by omega)]
  simp (disch := omega) only [KC_eq, c39, e3, hsz, ifT, w64, RR, RP, Ty.agg, Ty.size, Ty.sizes, eq_self, ne_eq, not_true, not_false_iff, reduceCtorEq, List.length_cons, List.length_nil, decide_true, decide_false, true_and, and_true, ite_true, ite_false, PT.full, enter0, setAll, forget, Fr.set, Fr.get, PT.get, PT.set, kof, ai, ev, ev1, evp, b_add, b_sub, b_mul, b_quo, b_rem, b_eql, b_neq, b_lss, b_leq, b_gtr, b_geq, b_seql, b_sneq, setD, resV, resL, res1, args, List.take_zero, List.drop_zero, List.take_nil, List.take_succ_cons, List.drop_succ_cons, Nat.reduceAdd, Nat.reduceLeDiff, reduceIte, Bool.not_true, Bool.not_false, Bool.false_eq_true, CA_some, Option.some.injEq, Nat.zero_add, Nat.mul_one, Nat.add_zero, setL, List.set_cons_zero, List.set_cons_succ, fillC]
  refine BR_dec (fun hn => absurd hn (by omega)) (fun hn => ?_)
  simp (disch := omega) only [c39, e3, hsz, ifT, w64, RR, RP, Ty.agg, Ty.size, Ty.sizes, eq_self, ne_eq, not_true, not_false_iff, reduceCtorEq, List.length_cons, List.length_nil, decide_true, decide_false, true_and, and_true, ite_true, ite_false, PT.full, enter0, setAll, forget, Fr.set, Fr.get, PT.get, PT.set, kof, ai, ev, ev1, evp, b_add, b_sub, b_mul, b_quo, b_rem, b_eql, b_neq, b_lss, b_leq, b_gtr, b_geq, b_seql, b_sneq, setD, resV, resL, res1, args, List.take_zero, List.drop_zero, List.take_nil, List.take_succ_cons, List.drop_succ_cons, Nat.reduceAdd, Nat.reduceLeDiff, reduceIte, Bool.not_true, Bool.not_false, Bool.false_eq_true, CA_some, Option.some.injEq, Nat.zero_add, Nat.mul_one, Nat.add_zero, setL, List.set_cons_zero, List.set_cons_succ, fillC]
  refine SzOk.go sz_Light h2 (k := k - wt v1) (by omega) (fun hf1 => ?_) (fun hf1 => ?_)
  case refine_2 =>
    simp (disch := omega) only [KC_eq, c39, e3, hsz, ifT, w64, RR, RP, Ty.agg, Ty.size, Ty.sizes, eq_self, ne_eq, not_true, not_false_iff, reduceCtorEq, List.length_cons, List.length_nil, decide_true, decide_false, true_and, and_true, ite_true, ite_false, PT.full, enter0, setAll, forget, Fr.set, Fr.get, PT.get, PT.set, kof, ai, ev, ev1, evp, b_add, b_sub, b_mul, b_quo, b_rem, b_eql, b_neq, b_lss, b_leq, b_gtr, b_geq, b_seql, b_sneq, setD, resV, resL, res1, args, List.take_zero, List.drop_zero, List.take_nil, List.take_succ_cons, List.drop_succ_cons, Nat.reduceAdd, Nat.reduceLeDiff, reduceIte, Bool.not_true, Bool.not_false, Bool.false_eq_true, CA_some, Option.some.injEq, Nat.zero_add, Nat.mul_one, Nat.add_zero, setL, List.set_cons_zero, List.set_cons_succ, fillC]
    refine BR_dec (fun hn => ?_) (fun hn => absurd (show (-1 : Int) < 0 by omega) hn)
    simp (disch := omega) only [c39, e3, hsz, ifT, w64, RR, RP, Ty.agg, Ty.size, Ty.sizes, eq_self, ne_eq, not_true, not_false_iff, reduceCtorEq, List.length_cons, List.length_nil, decide_true, decide_false, true_and, and_true, ite_true, ite_false, PT.full, enter0, setAll, forget, Fr.set, Fr.get, PT.get, PT.set, kof, ai, ev, ev1, evp, b_add, b_sub, b_mul, b_quo, b_rem, b_eql, b_neq, b_lss, b_leq, b_gtr, b_geq, b_seql, b_sneq, setD, resV, resL, res1, args, List.take_zero, List.drop_zero, List.take_nil, List.take_succ_cons, List.drop_succ_cons, Nat.reduceAdd, Nat.reduceLeDiff, reduceIte, Bool.not_true, Bool.not_false, Bool.false_eq_true, CA_some, Option.some.injEq, Nat.zero_add, Nat.mul_one, Nat.add_zero, setL, List.set_cons_zero, List.set_cons_succ, fillC]
    rw [if_neg (by omega)]
  simp (disch := omega) only [KC_eq, c39, e3, hsz, ifT, w64, RR, RP, Ty.agg, Ty.size, Ty.sizes, eq_self, ne_eq, not_true, not_false_iff, reduceCtorEq, List.length_cons, List.length_nil, decide_true, decide_false, true_and, and_true, ite_true, ite_false, PT.full, enter0, setAll, forget, Fr.set, Fr.get, PT.get, PT.set, kof, ai, ev, ev1, evp, b_add, b_sub, b_mul, b_quo, b_rem, b_eql, b_neq, b_lss, b_leq, b_gtr, b_geq, b_seql, b_sneq, setD, resV, resL, res1, args, List.take_zero, List.drop_zero, List.take_nil, List.take_succ_cons, List.drop_succ_cons, Nat.reduceAdd, Nat.reduceLeDiff, reduceIte, Bool.not_true, Bool.not_false, Bool.false_eq_true, CA_some, Option.some.injEq, Nat.zero_add, Nat.mul_one, Nat.add_zero, setL, List.set_cons_zero, List.set_cons_succ, fillC]
  refine BR_dec (fun hn => absurd hn (by omega)) (fun hn => ?_)
  simp (disch := omega) only [c39, e3, hsz, ifT, w64, RR, RP, Ty.agg, Ty.size, Ty.sizes, eq_self, ne_eq, not_true, not_false_iff, reduceCtorEq, List.length_cons, List.length_nil, decide_true, decide_false, true_and, and_true, ite_true, ite_false, PT.full, enter0, setAll, forget, Fr.set, Fr.get, PT.get, PT.set, kof, ai, ev, ev1, evp, b_add, b_sub, b_mul, b_quo, b_rem, b_eql, b_neq, b_lss, b_leq, b_gtr, b_geq, b_seql, b_sneq, setD, resV, resL, res1, args, List.take_zero, List.drop_zero, List.take_nil, List.take_succ_cons, List.drop_succ_cons, Nat.reduceAdd, Nat.reduceLeDiff, reduceIte, Bool.not_true, Bool.not_false, Bool.false_eq_true, CA_some, Option.some.injEq, Nat.zero_add, Nat.mul_one, Nat.add_zero, setL, List.set_cons_zero, List.set_cons_succ, fillC]
  refine SzOk.go sz_HeadS h3 (k := k - wt v1 - wt v2) (by omega) (fun hf2 => ?_) (fun hf2 => ?_)
  case refine_2 =>
    simp (disch := omega) only [KC_eq, c39, e3, hsz, ifT, w64, RR, RP, Ty.agg, Ty.size, Ty.sizes, eq_self, ne_eq, not_true, not_false_iff, reduceCtorEq, List.length_cons, List.length_nil, decide_true, decide_false, true_and, and_true, ite_true, ite_false, PT.full, enter0, setAll, forget, Fr.set, Fr.get, PT.get, PT.set, kof, ai, ev, ev1, evp, b_add, b_sub, b_mul, b_quo, b_rem, b_eql, b_neq, b_lss, b_leq, b_gtr, b_geq, b_seql, b_sneq, setD, resV, resL, res1, args, List.take_zero, List.drop_zero, List.take_nil, List.take_succ_cons, List.drop_succ_cons, Nat.reduceAdd, Nat.reduceLeDiff, reduceIte, Bool.not_true, Bool.not_false, Bool.false_eq_true, CA_some, Option.some.injEq, Nat.zero_add, Nat.mul_one, Nat.add_zero, setL, List.set_cons_zero, List.set_cons_succ, fillC]
    refine BR_dec (fun hn => ?_) (fun hn => absurd (show (-1 : Int) < 0 by omega) hn)
    simp (disch := omega) only [c39, e3, hsz, ifT, w64, RR, RP, Ty.agg, Ty.size, Ty.sizes, eq_self, ne_eq, not_true, not_false_iff, reduceCtorEq, List.length_cons, List.length_nil, decide_true, decide_false, true_and, and_true, ite_true, ite_false, PT.full, enter0, setAll, forget, Fr.set, Fr.get, PT.get, PT.set, kof, ai, ev, ev1, evp, b_add, b_sub, b_mul, b_quo, b_rem, b_eql, b_neq, b_lss, b_leq, b_gtr, b_geq, b_seql, b_sneq, setD, resV, resL, res1, args, List.take_zero, List.drop_zero, List.take_nil, List.take_succ_cons, List.drop_succ_cons, Nat.reduceAdd, Nat.reduceLeDiff, reduceIte, Bool.not_true, Bool.not_false, Bool.false_eq_true, CA_some, Option.some.injEq, Nat.zero_add, Nat.mul_one, Nat.add_zero, setL, List.set_cons_zero, List.set_cons_succ, fillC]
    rw [if_neg (by omega)]
  simp (disch := omega) only [KC_eq, c39, e3, hsz, ifT, w64, RR, RP, Ty.agg, Ty.size, Ty.sizes, eq_self, ne_eq, not_true, not_false_iff, reduceCtorEq, List.length_cons, List.length_nil, decide_true, decide_false, true_and, and_true, ite_true, ite_false, PT.full, enter0, setAll, forget, Fr.set, Fr.get, PT.get, PT.set, kof, ai, ev, ev1, evp, b_add, b_sub, b_mul, b_quo, b_rem, b_eql, b_neq, b_lss, b_leq, b_gtr, b_geq, b_seql, b_sneq, setD, resV, resL, res1, args, List.take_zero, List.drop_zero, List.take_nil, List.take_succ_cons, List.drop_succ_cons, Nat.reduceAdd, Nat.reduceLeDiff, reduceIte, Bool.not_true, Bool.not_false, Bool.false_eq_true, CA_some, Option.some.injEq, Nat.zero_add, Nat.mul_one, Nat.add_zero, setL, List.set_cons_zero, List.set_cons_succ, fillC]
  refine BR_dec (fun hn => absurd hn (by omega)) (fun hn => ?_)
  simp (disch := omega) only [c39, e3, hsz, ifT, w64, RR, RP, Ty.agg, Ty.size, Ty.sizes, eq_self, ne_eq, not_true, not_false_iff, reduceCtorEq, List.length_cons, List.length_nil, decide_true, decide_false, true_and, and_true, ite_true, ite_false, PT.full, enter0, setAll, forget, Fr.set, Fr.get, PT.get, PT.set, kof, ai, ev, ev1, evp, b_add, b_sub, b_mul, b_quo, b_rem, b_eql, b_neq, b_lss, b_leq, b_gtr, b_geq, b_seql, b_sneq, setD, resV, resL, res1, args, List.take_zero, List.drop_zero, List.take_nil, List.take_succ_cons, List.drop_succ_cons, Nat.reduceAdd, Nat.reduceLeDiff, reduceIte, Bool.not_true, Bool.not_false, Bool.false_eq_true, CA_some, Option.some.injEq, Nat.zero_add, Nat.mul_one, Nat.add_zero, setL, List.set_cons_zero, List.set_cons_succ, fillC]
  congr 3
  omega
/-- laws.toLimits -/
def c24 : AF := ⟨1, 5, [.cell 2 5 true], (.seq (.ops [.i (.lbox 1 (.s 0)), .i (.lal 2 [.int .i64 0, .int .i64 0, .int .i64 0, .int .i64 0, .int .i64 0])]) (.seq (.ops [.i (.lal 3 [.int .i64 0, .int .i64 0, .int .i64 0, .int .i64 0, .int .i64 0])]) (.seq (.ops [.i (.fad 4 (.s 1) 0), .i (.ldl 5 1 (.s 4) 1 false), .i (.fad 6 (.s 3) 0), .i (.stl 3 (.s 6) (.s 5) 1)]) (.seq (.ops [.i (.fad 7 (.s 1) 1), .i (.ldl 8 1 (.s 7) 1 false), .i (.fad 9 (.s 3) 1), .i (.stl 3 (.s 9) (.s 8) 1)]) (.seq (.ops [.i (.fad 10 (.s 1) 2), .i (.ldl 11 1 (.s 10) 1 false), .i (.fad 12 (.s 3) 2), .i (.stl 3 (.s 12) (.s 11) 1)]) (.seq (.ops [.i (.fad 13 (.s 1) 3), .i (.ldl 14 1 (.s 13) 1 false), .i (.fad 15 (.s 3) 3), .i (.stl 3 (.s 15) (.s 14) 1)]) (.seq (.ops [.i (.fad 16 (.s 1) 4), .i (.ldl 17 1 (.s 16) 1 false), .i (.fad 18 (.s 3) 4), .i (.stl 3 (.s 18) (.s 17) 1)]) (.seq (.ops [.i (.ldl 19 3 (.s 3) 5 true), .i (.stl 2 (.s 2) (.s 19) 5)]) .ret))))))))⟩
theorem k24 : cd 24 = some c24 := by kernel_rfl
theorem to_Limits : ToOk cd 24 TLimits := by
  intro h cs v S hv hw
  obtain ⟨vs, rfl, q0⟩ := hv.st
  obtain ⟨v0, r0, S0, T0, rfl, rfl, h0, q1⟩ := q0.step
  obtain ⟨n0, e0, rfl, rfl, lo0, hi0⟩ := h0.int
  obtain ⟨v1, r1, S1, T1, rfl, rfl, h1, q2⟩ := q1.step
  obtain ⟨n1, e1, rfl, rfl, lo1, hi1⟩ := h1.int
  obtain ⟨v2, r2, S2, T2, rfl, rfl, h2, q3⟩ := q2.step
  obtain ⟨n2, e2, rfl, rfl, lo2, hi2⟩ := h2.int
  obtain ⟨v3, r3, S3, T3, rfl, rfl, h3, q4⟩ := q3.step
  obtain ⟨n3, e3, rfl, rfl, lo3, hi3⟩ := h3.int
  obtain ⟨v4, r4, S4, T4, rfl, rfl, h4, q5⟩ := q4.step
  obtain ⟨n4, e4, rfl, rfl, lo4, hi4⟩ := h4.int
  obtain ⟨_, rfl, rfl⟩ := q5
  have hsz : cs.length = 5 := hv.size
  simp only [Ty.size, Ty.sizes, Nat.reduceAdd, Nat.zero_add, List.drop_zero] at e0 e1 e2 e3 e4 hsz
  simp only [wt, wts] at hw
  refine WS_enter k24 rfl ?_
  simp (disch := omega) only [KC_eq, c24, e0, e1, e2, e3, e4, hsz, ifT, w64, RR, RP, Ty.agg, Ty.size, Ty.sizes, eq_self, ne_eq, not_true, not_false_iff, reduceCtorEq, List.length_cons, List.length_nil, decide_true, decide_false, true_and, and_true, ite_true, ite_false, PT.full, enter0, setAll, forget, Fr.set, Fr.get, PT.get, PT.set, kof, ai, ev, ev1, evp, b_add, b_sub, b_mul, b_quo, b_rem, b_eql, b_neq, b_lss, b_leq, b_gtr, b_geq, b_seql, b_sneq, setD, resV, resL, res1, args, List.take_zero, List.drop_zero, List.take_nil, List.take_succ_cons, List.drop_succ_cons, Nat.reduceAdd, Nat.reduceLeDiff, reduceIte, Bool.not_true, Bool.not_false, Bool.false_eq_true, CA_some, Option.some.injEq, Nat.zero_add, Nat.mul_one, Nat.add_zero, setL, List.set_cons_zero, List.set_cons_succ, fillC]
  exact ⟨[], _, _, by simp, rfl, ⟨_, rfl, (Rs.mk (Rp.mkInt lo0 hi0) (Rs.mk (Rp.mkInt lo1 hi1) (Rs.mk (Rp.mkInt lo2 hi2) (Rs.mk (Rp.mkInt lo3 hi3) (Rs.mk (Rp.mkInt lo4 hi4) Rs.nil)))))⟩, by simp [Ownd], by simp⟩
/-- laws.toByteS -/
def c47 : AF := ⟨1, 5, [.tmp 2], (.seq (.ops [.i (.mov 2 (.c (.val false [.nils])))]) (.seq (.ops [.i (.mov 5 (.s 0)), .i (.len 6 false (.s 5)), .i (.mks 7 5 1 1 [.int .u8 0] (.s 6)), .i (.mov 3 (.s 7))]) (.seq (.seq (.ops [.i (.mov 4 (.c (.val false [.int .i64 0])))]) (.block 0 (.loop [20, 19, 18, 17, 16, 15, 14, 13, 12, 11, 10, 9, 8] (.seq (.seq (.ops [.i (.mov 8 (.s 4)), .i (.mov 9 (.s 0)), .i (.len 10 false (.s 9)), .i (.bin 11 .lss (.s 8) (.s 10))]) (.cond (.s 11) .skip (.exit 0))) (.seq (.block 1 (.ops [.i (.mov 14 (.s 3)), .i (.mov 15 (.s 4)), .i (.mov 16 (.s 0)), .i (.mov 17 (.s 4)), .i (.iad 18 (.s 16) (.s 17) 1), .i (.ldh 19 (.s 18) 1 false), .i (.iad 20 (.s 14) (.s 15) 1), .i (.sth (.s 20) (.s 19) 1)])) (.ops [.i (.mov 12 (.s 4)), .i (.bin 13 .add (.s 12) (.c (.val false [.int .i64 1]))), .i (.mov 4 (.s 13))])))))) (.seq (.ops [.i (.mov 21 (.s 3)), .i (.mov 2 (.s 21))]) .ret))))⟩
theorem k47 : cd 47 = some c47 := by kernel_rfl
theorem to_ByteS : ToOk cd 47 (.sl (.int .u8)) := to_leaf k47 (by omega)
/-- laws.toRow -/
def c177 : AF := ⟨1, 4, [.cell 2 2 true], (.seq (.ops [.i (.lbox 1 (.s 0)), .i (.lal 2 [.int .i64 0, .nils])]) (.seq (.ops [.i (.lal 3 [.int .i64 0, .nils])]) (.seq (.ops [.i (.fad 4 (.s 1) 0), .i (.ldl 5 1 (.s 4) 1 false), .i (.fad 6 (.s 3) 0), .i (.stl 3 (.s 6) (.s 5) 1)]) (.seq (.ops [.i (.fad 7 (.s 1) 1), .i (.ldl 8 1 (.s 7) 1 false), .i (.call 10 47 false [(.s 8)]), .i (.fad 10 (.s 3) 1), .i (.stl 3 (.s 10) (.s 9) 1)]) (.seq (.ops [.i (.ldl 11 3 (.s 3) 2 true), .i (.stl 2 (.s 2) (.s 11) 2)]) .ret)))))⟩
theorem k177 : cd 177 = some c177 := by kernel_rfl
theorem to_Row : ToOk cd 177 TRow := by
  intro h cs v S hv hw
  obtain ⟨vs, rfl, q0⟩ := hv.st
  obtain ⟨v0, r0, S0, T0, rfl, rfl, h0, q1⟩ := q0.step
  obtain ⟨n0, e0, rfl, rfl, lo0, hi0⟩ := h0.int
  obtain ⟨v1, r1, S1, T1, rfl, rfl, h1, q2⟩ := q1.step
  obtain ⟨c1, e1⟩ := h1.one rfl
  rw [e1] at h1
  obtain ⟨_, rfl, rfl⟩ := q2
  have hsz : cs.length = 2 := hv.size
  simp only [Ty.size, Ty.sizes, Nat.reduceAdd, Nat.zero_add, List.drop_zero] at e0 e1 hsz
  simp only [wt, wts] at hw
  refine WS_enter k177 rfl ?_
  simp (disch := omega) only [KC_eq, c177, e0, e1, hsz, ifT, w64, RR, RP, Ty.agg, Ty.size, Ty.sizes, eq_self, ne_eq, not_true, not_false_iff, reduceCtorEq, List.length_cons, List.length_nil, decide_true, decide_false, true_and, and_true, ite_true, ite_false, PT.full, enter0, setAll, forget, Fr.set, Fr.get, PT.get, PT.set, kof, ai, ev, ev1, evp, b_add, b_sub, b_mul, b_quo, b_rem, b_eql, b_neq, b_lss, b_leq, b_gtr, b_geq, b_seql, b_sneq, setD, resV, resL, res1, args, List.take_zero, List.drop_zero, List.take_nil, List.take_succ_cons, List.drop_succ_cons, Nat.reduceAdd, Nat.reduceLeDiff, reduceIte, Bool.not_true, Bool.not_false, Bool.false_eq_true, CA_some, Option.some.injEq, Nat.zero_add, Nat.mul_one, Nat.add_zero, setL, List.set_cons_zero, List.set_cons_succ, fillC]
  refine WC_call (to_ByteS h1 (by omega)) ?_
  rintro r0 g0 ⟨t0, d0, U0, rfl, rfl, z0, o0, l0⟩
  obtain ⟨y0_0, rfl⟩ := z0.one rfl
  simp (disch := omega) only [KC_eq, c177, e0, e1, hsz, ifT, w64, RR, RP, Ty.agg, Ty.size, Ty.sizes, eq_self, ne_eq, not_true, not_false_iff, reduceCtorEq, List.length_cons, List.length_nil, decide_true, decide_false, true_and, and_true, ite_true, ite_false, PT.full, enter0, setAll, forget, Fr.set, Fr.get, PT.get, PT.set, kof, ai, ev, ev1, evp, b_add, b_sub, b_mul, b_quo, b_rem, b_eql, b_neq, b_lss, b_leq, b_gtr, b_geq, b_seql, b_sneq, setD, resV, resL, res1, args, List.take_zero, List.drop_zero, List.take_nil, List.take_succ_cons, List.drop_succ_cons, Nat.reduceAdd, Nat.reduceLeDiff, reduceIte, Bool.not_true, Bool.not_false, Bool.false_eq_true, CA_some, Option.some.injEq, Nat.zero_add, Nat.mul_one, Nat.add_zero, setL, List.set_cons_zero, List.set_cons_succ, fillC]
  refine ⟨t0, _, _, by simp only [List.append_assoc], rfl, ⟨_, rfl, (Rs.mk (Rp.mkInt lo0 hi0) (Rs.mk z0 Rs.nil))⟩, ?_⟩
  have fr := (Fre.step (Fre.nil h) z0.lt o0 l0)
  simpa only [List.nil_append, List.append_nil, List.append_assoc] using fr.both
/-- laws.toRowS -/
def c150 : AF := ⟨1, 5, [.tmp 2], (.seq (.ops [.i (.mov 2 (.c (.val false [.nils])))]) (.seq (.ops [.i (.mov 5 (.s 0)), .i (.len 6 false (.s 5)), .i (.mks 7 175 2 32 [.int .i64 0, .nils] (.s 6)), .i (.mov 3 (.s 7))]) (.seq (.seq (.ops [.i (.mov 4 (.c (.val false [.int .i64 0])))]) (.block 0 (.loop [21, 20, 19, 18, 17, 16, 15, 14, 13, 12, 11, 10, 9, 8] (.seq (.seq (.ops [.i (.mov 8 (.s 4)), .i (.mov 9 (.s 0)), .i (.len 10 false (.s 9)), .i (.bin 11 .lss (.s 8) (.s 10))]) (.cond (.s 11) .skip (.exit 0))) (.seq (.block 1 (.ops [.i (.mov 14 (.s 3)), .i (.mov 15 (.s 4)), .i (.mov 16 (.s 0)), .i (.mov 17 (.s 4)), .i (.iad 18 (.s 16) (.s 17) 2), .i (.ldh 19 (.s 18) 2 true), .i (.call 21 177 false [(.s 19)]), .i (.iad 21 (.s 14) (.s 15) 2), .i (.sth (.s 21) (.s 20) 2)])) (.ops [.i (.mov 12 (.s 4)), .i (.bin 13 .add (.s 12) (.c (.val false [.int .i64 1]))), .i (.mov 4 (.s 13))])))))) (.seq (.ops [.i (.mov 22 (.s 3)), .i (.mov 2 (.s 22))]) .ret))))⟩
theorem k150 : cd 150 = some c150 := by kernel_rfl
theorem to_RowS : ToOk cd 150 (.sl TRow) := to_sl k150 (by omega) rfl to_Row
/-- laws.toTable -/
def c103 : AF := ⟨1, 4, [.cell 2 1 true], (.seq (.ops [.i (.lbox 1 (.s 0)), .i (.lal 2 [.nils])]) (.seq (.ops [.i (.lal 3 [.nils])]) (.seq (.ops [.i (.fad 4 (.s 1) 0), .i (.ldl 5 1 (.s 4) 1 false), .i (.call 7 150 false [(.s 5)]), .i (.fad 7 (.s 3) 0), .i (.stl 3 (.s 7) (.s 6) 1)]) (.seq (.ops [.i (.ldl 8 3 (.s 3) 1 true), .i (.stl 2 (.s 2) (.s 8) 1)]) .ret))))⟩
theorem k103 : cd 103 = some c103 := by kernel_rfl
theorem to_Table : ToOk cd 103 TTable := by
  intro h cs v S hv hw
  obtain ⟨vs, rfl, q0⟩ := hv.st
  obtain ⟨v0, r0, S0, T0, rfl, rfl, h0, q1⟩ := q0.step
  obtain ⟨c0, e0⟩ := h0.one rfl
  rw [e0] at h0
  obtain ⟨_, rfl, rfl⟩ := q1
  have hsz : cs.length = 1 := hv.size
  simp only [Ty.size, Ty.sizes, Nat.reduceAdd, Nat.zero_add, List.drop_zero] at e0 hsz
  simp only [wt, wts] at hw
  refine WS_enter k103 rfl ?_
  simp (disch := omega) only [KC_eq, c103, e0, hsz, ifT, w64, RR, RP, Ty.agg, Ty.size, Ty.sizes, eq_self, ne_eq, not_true, not_false_iff, reduceCtorEq, List.length_cons, List.length_nil, decide_true, decide_false, true_and, and_true, ite_true, ite_false, PT.full, enter0, setAll, forget, Fr.set, Fr.get, PT.get, PT.set, kof, ai, ev, ev1, evp, b_add, b_sub, b_mul, b_quo, b_rem, b_eql, b_neq, b_lss, b_leq, b_gtr, b_geq, b_seql, b_sneq, setD, resV, resL, res1, args, List.take_zero, List.drop_zero, List.take_nil, List.take_succ_cons, List.drop_succ_cons, Nat.reduceAdd, Nat.reduceLeDiff, reduceIte, Bool.not_true, Bool.not_false, Bool.false_eq_true, CA_some, Option.some.injEq, Nat.zero_add, Nat.mul_one, Nat.add_zero, setL, List.set_cons_zero, List.set_cons_succ, fillC]
  refine WC_call (to_RowS h0 (by omega)) ?_
  rintro r0 g0 ⟨t0, d0, U0, rfl, rfl, z0, o0, l0⟩
  obtain ⟨y0_0, rfl⟩ := z0.one rfl
  simp (disch := omega) only [KC_eq, c103, e0, hsz, ifT, w64, RR, RP, Ty.agg, Ty.size, Ty.sizes, eq_self, ne_eq, not_true, not_false_iff, reduceCtorEq, List.length_cons, List.length_nil, decide_true, decide_false, true_and, and_true, ite_true, ite_false, PT.full, enter0, setAll, forget, Fr.set, Fr.get, PT.get, PT.set, kof, ai, ev, ev1, evp, b_add, b_sub, b_mul, b_quo, b_rem, b_eql, b_neq, b_lss, b_leq, b_gtr, b_geq, b_seql, b_sneq, setD, resV, resL, res1, args, List.take_zero, List.drop_zero, List.take_nil, List.take_succ_cons, List.drop_succ_cons, Nat.reduceAdd, Nat.reduceLeDiff, reduceIte, Bool.not_true, Bool.not_false, Bool.false_eq_true, CA_some, Option.some.injEq, Nat.zero_add, Nat.mul_one, Nat.add_zero, setL, List.set_cons_zero, List.set_cons_succ, fillC]
  refine ⟨t0, _, _, by simp only [List.append_assoc], rfl, ⟨_, rfl, (Rs.mk z0 Rs.nil)⟩, ?_⟩
  have fr := (Fre.step (Fre.nil h) z0.lt o0 l0)
  simpa only [List.nil_append, List.append_nil, List.append_assoc] using fr.both
/-- laws.toPush -/
def c151 : AF := ⟨1, 4, [.cell 2 2 true], (.seq (.ops [.i (.lbox 1 (.s 0)), .i (.lal 2 [.int .i64 0, .nils])]) (.seq (.ops [.i (.lal 3 [.int .i64 0, .nils])]) (.seq (.ops [.i (.fad 4 (.s 1) 0), .i (.ldl 5 1 (.s 4) 1 false), .i (.fad 6 (.s 3) 0), .i (.stl 3 (.s 6) (.s 5) 1)]) (.seq (.ops [.i (.fad 7 (.s 1) 1), .i (.ldl 8 1 (.s 7) 1 false), .i (.call 10 47 false [(.s 8)]), .i (.fad 10 (.s 3) 1), .i (.stl 3 (.s 10) (.s 9) 1)]) (.seq (.ops [.i (.ldl 11 3 (.s 3) 2 true), .i (.stl 2 (.s 2) (.s 11) 2)]) .ret)))))⟩
theorem k151 : cd 151 = some c151 := by kernel_rfl
theorem to_Push : ToOk cd 151 TPush := by
  intro h cs v S hv hw
  obtain ⟨vs, rfl, q0⟩ := hv.st
  obtain ⟨v0, r0, S0, T0, rfl, rfl, h0, q1⟩ := q0.step
  obtain ⟨n0, e0, rfl, rfl, lo0, hi0⟩ := h0.int
  obtain ⟨v1, r1, S1, T1, rfl, rfl, h1, q2⟩ := q1.step
  obtain ⟨c1, e1⟩ := h1.one rfl
  rw [e1] at h1
  obtain ⟨_, rfl, rfl⟩ := q2
  have hsz : cs.length = 2 := hv.size
  simp only [Ty.size, Ty.sizes, Nat.reduceAdd, Nat.zero_add, List.drop_zero] at e0 e1 hsz
  simp only [wt, wts] at hw
  refine WS_enter k151 rfl ?_
  simp (disch := omega) only [KC_eq, c151, e0, e1, hsz, ifT, w64, RR, RP, Ty.agg, Ty.size, Ty.sizes, eq_self, ne_eq, not_true, not_false_iff, reduceCtorEq, List.length_cons, List.length_nil, decide_true, decide_false, true_and, and_true, ite_true, ite_false, PT.full, enter0, setAll, forget, Fr.set, Fr.get, PT.get, PT.set, kof, ai, ev, ev1, evp, b_add, b_sub, b_mul, b_quo, b_rem, b_eql, b_neq, b_lss, b_leq, b_gtr, b_geq, b_seql, b_sneq, setD, resV, resL, res1, args, List.take_zero, List.drop_zero, List.take_nil, List.take_succ_cons, List.drop_succ_cons, Nat.reduceAdd, Nat.reduceLeDiff, reduceIte, Bool.not_true, Bool.not_false, Bool.false_eq_true, CA_some, Option.some.injEq, Nat.zero_add, Nat.mul_one, Nat.add_zero, setL, List.set_cons_zero, List.set_cons_succ, fillC]
  refine WC_call (to_ByteS h1 (by omega)) ?_
  rintro r0 g0 ⟨t0, d0, U0, rfl, rfl, z0, o0, l0⟩
  obtain ⟨y0_0, rfl⟩ := z0.one rfl
  simp (disch := omega) only [KC_eq, c151, e0, e1, hsz, ifT, w64, RR, RP, Ty.agg, Ty.size, Ty.sizes, eq_self, ne_eq, not_true, not_false_iff, reduceCtorEq, List.length_cons, List.length_nil, decide_true, decide_false, true_and, and_true, ite_true, ite_false, PT.full, enter0, setAll, forget, Fr.set, Fr.get, PT.get, PT.set, kof, ai, ev, ev1, evp, b_add, b_sub, b_mul, b_quo, b_rem, b_eql, b_neq, b_lss, b_leq, b_gtr, b_geq, b_seql, b_sneq, setD, resV, resL, res1, args, List.take_zero, List.drop_zero, List.take_nil, List.take_succ_cons, List.drop_succ_cons, Nat.reduceAdd, Nat.reduceLeDiff, reduceIte, Bool.not_true, Bool.not_false, Bool.false_eq_true, CA_some, Option.some.injEq, Nat.zero_add, Nat.mul_one, Nat.add_zero, setL, List.set_cons_zero, List.set_cons_succ, fillC]
  refine ⟨t0, _, _, by simp only [List.append_assoc], rfl, ⟨_, rfl, (Rs.mk (Rp.mkInt lo0 hi0) (Rs.mk z0 Rs.nil))⟩, ?_⟩
  have fr := (Fre.step (Fre.nil h) z0.lt o0 l0)
  simpa only [List.nil_append, List.append_nil, List.append_assoc] using fr.both
/-- laws.toByteSS -/
def c26 : AF := ⟨1, 5, [.tmp 2], (.seq (.ops [.i (.mov 2 (.c (.val false [.nils])))]) (.seq (.ops [.i (.mov 5 (.s 0)), .i (.len 6 false (.s 5)), .i (.mks 7 22 1 24 [.nils] (.s 6)), .i (.mov 3 (.s 7))]) (.seq (.seq (.ops [.i (.mov 4 (.c (.val false [.int .i64 0])))]) (.block 0 (.loop [21, 20, 19, 18, 17, 16, 15, 14, 13, 12, 11, 10, 9, 8] (.seq (.seq (.ops [.i (.mov 8 (.s 4)), .i (.mov 9 (.s 0)), .i (.len 10 false (.s 9)), .i (.bin 11 .lss (.s 8) (.s 10))]) (.cond (.s 11) .skip (.exit 0))) (.seq (.block 1 (.ops [.i (.mov 14 (.s 3)), .i (.mov 15 (.s 4)), .i (.mov 16 (.s 0)), .i (.mov 17 (.s 4)), .i (.iad 18 (.s 16) (.s 17) 1), .i (.ldh 19 (.s 18) 1 false), .i (.call 21 47 false [(.s 19)]), .i (.iad 21 (.s 14) (.s 15) 1), .i (.sth (.s 21) (.s 20) 1)])) (.ops [.i (.mov 12 (.s 4)), .i (.bin 13 .add (.s 12) (.c (.val false [.int .i64 1]))), .i (.mov 4 (.s 13))])))))) (.seq (.ops [.i (.mov 22 (.s 3)), .i (.mov 2 (.s 22))]) .ret))))⟩
theorem k26 : cd 26 = some c26 := by kernel_rfl
theorem to_ByteSS : ToOk cd 26 (.sl (.sl (.int .u8))) := to_sl k26 (by omega) rfl to_ByteS
/-- laws.toQc -/
def c87 : AF := ⟨1, 5, [.cell 2 5 true], (.seq (.ops [.i (.lbox 1 (.s 0)), .i (.lal 2 [.int .i64 0, .int .i64 0, .nils, .nils, .nils])]) (.seq (.ops [.i (.lal 3 [.int .i64 0, .int .i64 0, .nils, .nils, .nils])]) (.seq (.ops [.i (.fad 4 (.s 1) 0), .i (.ldl 5 1 (.s 4) 1 false), .i (.fad 6 (.s 3) 0), .i (.stl 3 (.s 6) (.s 5) 1)]) (.seq (.ops [.i (.fad 7 (.s 1) 1), .i (.ldl 8 1 (.s 7) 1 false), .i (.fad 9 (.s 3) 1), .i (.stl 3 (.s 9) (.s 8) 1)]) (.seq (.ops [.i (.fad 10 (.s 1) 2), .i (.ldl 11 1 (.s 10) 1 false), .i (.call 13 47 false [(.s 11)]), .i (.fad 13 (.s 3) 2), .i (.stl 3 (.s 13) (.s 12) 1)]) (.seq (.ops [.i (.fad 14 (.s 1) 3), .i (.ldl 15 1 (.s 14) 1 false), .i (.call 17 47 false [(.s 15)]), .i (.fad 17 (.s 3) 3), .i (.stl 3 (.s 17) (.s 16) 1)]) (.seq (.ops [.i (.fad 18 (.s 1) 4), .i (.ldl 19 1 (.s 18) 1 false), .i (.call 21 26 false [(.s 19)]), .i (.fad 21 (.s 3) 4), .i (.stl 3 (.s 21) (.s 20) 1)]) (.seq (.ops [.i (.ldl 22 3 (.s 3) 5 true), .i (.stl 2 (.s 2) (.s 22) 5)]) .ret))))))))⟩
theorem k87 : cd 87 = some c87 := by kernel_rfl
theorem to_Qc : ToOk cd 87 TQc := by
  intro h cs v S hv hw
  obtain ⟨vs, rfl, q0⟩ := hv.st
  obtain ⟨v0, r0, S0, T0, rfl, rfl, h0, q1⟩ := q0.step
  obtain ⟨n0, e0, rfl, rfl, lo0, hi0⟩ := h0.int
  obtain ⟨v1, r1, S1, T1, rfl, rfl, h1, q2⟩ := q1.step
  obtain ⟨n1, e1, rfl, rfl, lo1, hi1⟩ := h1.int
  obtain ⟨v2, r2, S2, T2, rfl, rfl, h2, q3⟩ := q2.step
  obtain ⟨c2, e2⟩ := h2.one rfl
  rw [e2] at h2
  obtain ⟨v3, r3, S3, T3, rfl, rfl, h3, q4⟩ := q3.step
  obtain ⟨c3, e3⟩ := h3.one rfl
  rw [e3] at h3
  obtain ⟨v4, r4, S4, T4, rfl, rfl, h4, q5⟩ := q4.step
  obtain ⟨c4, e4⟩ := h4.one rfl
  rw [e4] at h4
  obtain ⟨_, rfl, rfl⟩ := q5
  have hsz : cs.length = 5 := hv.size
  simp only [Ty.size, Ty.sizes, Nat.reduceAdd, Nat.zero_add, List.drop_zero] at e0 e1 e2 e3 e4 hsz
  simp only [wt, wts] at hw
  refine WS_enter k87 rfl ?_
  simp (disch := omega) only [KC_eq, c87, e0, e1, e2, e3, e4, hsz, ifT, w64, RR, RP, Ty.agg, Ty.size, Ty.sizes, eq_self, ne_eq, not_true, not_false_iff, reduceCtorEq, List.length_cons, List.length_nil, decide_true, decide_false, true_and, and_true, ite_true, ite_false, PT.full, enter0, setAll, forget, Fr.set, Fr.get, PT.get, PT.set, kof, ai, ev, ev1, evp, b_add, b_sub, b_mul, b_quo, b_rem, b_eql, b_neq, b_lss, b_leq, b_gtr, b_geq, b_seql, b_sneq, setD, resV, resL, res1, args, List.take_zero, List.drop_zero, List.take_nil, List.take_succ_cons, List.drop_succ_cons, Nat.reduceAdd, Nat.reduceLeDiff, reduceIte, Bool.not_true, Bool.not_false, Bool.false_eq_true, CA_some, Option.some.injEq, Nat.zero_add, Nat.mul_one, Nat.add_zero, setL, List.set_cons_zero, List.set_cons_succ, fillC]
  refine WC_call (to_ByteS h2 (by omega)) ?_
  rintro r0 g0 ⟨t0, d0, U0, rfl, rfl, z0, o0, l0⟩
  obtain ⟨y0_0, rfl⟩ := z0.one rfl
  simp (disch := omega) only [KC_eq, c87, e0, e1, e2, e3, e4, hsz, ifT, w64, RR, RP, Ty.agg, Ty.size, Ty.sizes, eq_self, ne_eq, not_true, not_false_iff, reduceCtorEq, List.length_cons, List.length_nil, decide_true, decide_false, true_and, and_true, ite_true, ite_false, PT.full, enter0, setAll, forget, Fr.set, Fr.get, PT.get, PT.set, kof, ai, ev, ev1, evp, b_add, b_sub, b_mul, b_quo, b_rem, b_eql, b_neq, b_lss, b_leq, b_gtr, b_geq, b_seql, b_sneq, setD, resV, resL, res1, args, List.take_zero, List.drop_zero, List.take_nil, List.take_succ_cons, List.drop_succ_cons, Nat.reduceAdd, Nat.reduceLeDiff, reduceIte, Bool.not_true, Bool.not_false, Bool.false_eq_true, CA_some, Option.some.injEq, Nat.zero_add, Nat.mul_one, Nat.add_zero, setL, List.set_cons_zero, List.set_cons_succ, fillC]
  refine WC_call (to_ByteS (h3.app) (by omega)) ?_
  rintro r1 g1 ⟨t1, d1, U1, rfl, rfl, z1, o1, l1⟩
  obtain ⟨y1_0, rfl⟩ := z1.one rfl
  simp (disch := omega) only [KC_eq, c87, e0, e1, e2, e3, e4, hsz, ifT, w64, RR, RP, Ty.agg, Ty.size, Ty.sizes, eq_self, ne_eq, not_true, not_false_iff, reduceCtorEq, List.length_cons, List.length_nil, decide_true, decide_false, true_and, and_true, ite_true, ite_false, PT.full, enter0, setAll, forget, Fr.set, Fr.get, PT.get, PT.set, kof, ai, ev, ev1, evp, b_add, b_sub, b_mul, b_quo, b_rem, b_eql, b_neq, b_lss, b_leq, b_gtr, b_geq, b_seql, b_sneq, setD, resV, resL, res1, args, List.take_zero, List.drop_zero, List.take_nil, List.take_succ_cons, List.drop_succ_cons, Nat.reduceAdd, Nat.reduceLeDiff, reduceIte, Bool.not_true, Bool.not_false, Bool.false_eq_true, CA_some, Option.some.injEq, Nat.zero_add, Nat.mul_one, Nat.add_zero, setL, List.set_cons_zero, List.set_cons_succ, fillC]
  refine WC_call (to_ByteSS ((h4.app).app) (by omega)) ?_
  rintro r2 g2 ⟨t2, d2, U2, rfl, rfl, z2, o2, l2⟩
  obtain ⟨y2_0, rfl⟩ := z2.one rfl
  simp (disch := omega) only [KC_eq, c87, e0, e1, e2, e3, e4, hsz, ifT, w64, RR, RP, Ty.agg, Ty.size, Ty.sizes, eq_self, ne_eq, not_true, not_false_iff, reduceCtorEq, List.length_cons, List.length_nil, decide_true, decide_false, true_and, and_true, ite_true, ite_false, PT.full, enter0, setAll, forget, Fr.set, Fr.get, PT.get, PT.set, kof, ai, ev, ev1, evp, b_add, b_sub, b_mul, b_quo, b_rem, b_eql, b_neq, b_lss, b_leq, b_gtr, b_geq, b_seql, b_sneq, setD, resV, resL, res1, args, List.take_zero, List.drop_zero, List.take_nil, List.take_succ_cons, List.drop_succ_cons, Nat.reduceAdd, Nat.reduceLeDiff, reduceIte, Bool.not_true, Bool.not_false, Bool.false_eq_true, CA_some, Option.some.injEq, Nat.zero_add, Nat.mul_one, Nat.add_zero, setL, List.set_cons_zero, List.set_cons_succ, fillC]
  refine ⟨(t0 ++ (t1 ++ t2)), _, _, by simp only [List.append_assoc], rfl, ⟨_, rfl, (Rs.mk (Rp.mkInt lo0 hi0) (Rs.mk (Rp.mkInt lo1 hi1) (Rs.mk ((z0.app).app) (Rs.mk (z1.app) (Rs.mk z2 Rs.nil)))))⟩, ?_⟩
  have fr := (Fre.step (Fre.step (Fre.step (Fre.nil h) z0.lt o0 l0) z1.lt o1 l1) z2.lt o2 l2)
  simpa only [List.nil_append, List.append_nil, List.append_assoc] using fr.both
/-- laws.toHead -/
def c25 : AF := ⟨1, 5, [.cell 2 10 true], (.seq (.ops [.i (.lbox 1 (.s 0)), .i (.lal 2 [.int .i64 0, .int .i64 0, .int .i64 0, .nils, .nils, .int .i64 0, .int .i64 0, .nils, .nils, .nils])]) (.seq (.ops [.i (.lal 3 [.int .i64 0, .int .i64 0, .int .i64 0, .nils, .nils, .int .i64 0, .int .i64 0, .nils, .nils, .nils])]) (.seq (.ops [.i (.fad 4 (.s 1) 0), .i (.ldl 5 1 (.s 4) 1 false), .i (.fad 6 (.s 3) 0), .i (.stl 3 (.s 6) (.s 5) 1)]) (.seq (.ops [.i (.fad 7 (.s 1) 1), .i (.ldl 8 1 (.s 7) 1 false), .i (.fad 9 (.s 3) 1), .i (.stl 3 (.s 9) (.s 8) 1)]) (.seq (.ops [.i (.fad 10 (.s 1) 2), .i (.ldl 11 1 (.s 10) 1 false), .i (.fad 12 (.s 3) 2), .i (.stl 3 (.s 12) (.s 11) 1)]) (.seq (.ops [.i (.fad 13 (.s 1) 3), .i (.ldl 14 1 (.s 13) 1 false), .i (.call 16 47 false [(.s 14)]), .i (.fad 16 (.s 3) 3), .i (.stl 3 (.s 16) (.s 15) 1)]) (.seq (.ops [.i (.fad 17 (.s 1) 4), .i (.ldl 18 1 (.s 17) 1 false), .i (.call 20 47 false [(.s 18)]), .i (.fad 20 (.s 3) 4), .i (.stl 3 (.s 20) (.s 19) 1)]) (.seq (.ops [.i (.fad 21 (.s 1) 5), .i (.ldl 22 1 (.s 21) 5 true), .i (.call 24 87 false [(.s 22)]), .i (.fad 24 (.s 3) 5), .i (.stl 3 (.s 24) (.s 23) 5)]) (.seq (.ops [.i (.ldl 25 3 (.s 3) 10 true), .i (.stl 2 (.s 2) (.s 25) 10)]) .ret)))))))))⟩
theorem k25 : cd 25 = some c25 := by kernel_rfl
theorem to_Head : ToOk cd 25 THead := by
  intro h cs v S hv hw
  obtain ⟨vs, rfl, q0⟩ := hv.st
  obtain ⟨v0, r0, S0, T0, rfl, rfl, h0, q1⟩ := q0.step
  obtain ⟨n0, e0, rfl, rfl, lo0, hi0⟩ := h0.int
  obtain ⟨v1, r1, S1, T1, rfl, rfl, h1, q2⟩ := q1.step
  obtain ⟨n1, e1, rfl, rfl, lo1, hi1⟩ := h1.int
  obtain ⟨v2, r2, S2, T2, rfl, rfl, h2, q3⟩ := q2.step
  obtain ⟨n2, e2, rfl, rfl, lo2, hi2⟩ := h2.int
  obtain ⟨v3, r3, S3, T3, rfl, rfl, h3, q4⟩ := q3.step
  obtain ⟨c3, e3⟩ := h3.one rfl
  rw [e3] at h3
  obtain ⟨v4, r4, S4, T4, rfl, rfl, h4, q5⟩ := q4.step
  obtain ⟨c4, e4⟩ := h4.one rfl
  rw [e4] at h4
  obtain ⟨v5, r5, S5, T5, rfl, rfl, h5, q6⟩ := q5.step
  obtain ⟨_, rfl, rfl⟩ := q6
  have hsz : cs.length = 10 := hv.size
  simp only [Ty.size, Ty.sizes, Nat.reduceAdd, Nat.zero_add, List.drop_zero] at e0 e1 e2 e3 e4 hsz h5
  simp only [wt, wts] at hw
  refine WS_enter k25 rfl ?_
  simp (disch := omega) only [KC_eq, c25, e0, e1, e2, e3, e4, hsz, ifT, w64, RR, RP, Ty.agg, Ty.size, Ty.sizes, eq_self, ne_eq, not_true, not_false_iff, reduceCtorEq, List.length_cons, List.length_nil, decide_true, decide_false, true_and, and_true, ite_true, ite_false, PT.full, enter0, setAll, forget, Fr.set, Fr.get, PT.get, PT.set, kof, ai, ev, ev1, evp, b_add, b_sub, b_mul, b_quo, b_rem, b_eql, b_neq, b_lss, b_leq, b_gtr, b_geq, b_seql, b_sneq, setD, resV, resL, res1, args, List.take_zero, List.drop_zero, List.take_nil, List.take_succ_cons, List.drop_succ_cons, Nat.reduceAdd, Nat.reduceLeDiff, reduceIte, Bool.not_true, Bool.not_false, Bool.false_eq_true, CA_some, Option.some.injEq, Nat.zero_add, Nat.mul_one, Nat.add_zero, setL, List.set_cons_zero, List.set_cons_succ, fillC]
  refine WC_call (to_ByteS h3 (by omega)) ?_
  rintro r0 g0 ⟨t0, d0, U0, rfl, rfl, z0, o0, l0⟩
  obtain ⟨y0_0, rfl⟩ := z0.one rfl
  simp (disch := omega) only [KC_eq, c25, e0, e1, e2, e3, e4, hsz, ifT, w64, RR, RP, Ty.agg, Ty.size, Ty.sizes, eq_self, ne_eq, not_true, not_false_iff, reduceCtorEq, List.length_cons, List.length_nil, decide_true, decide_false, true_and, and_true, ite_true, ite_false, PT.full, enter0, setAll, forget, Fr.set, Fr.get, PT.get, PT.set, kof, ai, ev, ev1, evp, b_add, b_sub, b_mul, b_quo, b_rem, b_eql, b_neq, b_lss, b_leq, b_gtr, b_geq, b_seql, b_sneq, setD, resV, resL, res1, args, List.take_zero, List.drop_zero, List.take_nil, List.take_succ_cons, List.drop_succ_cons, Nat.reduceAdd, Nat.reduceLeDiff, reduceIte, Bool.not_true, Bool.not_false, Bool.false_eq_true, CA_some, Option.some.injEq, Nat.zero_add, Nat.mul_one, Nat.add_zero, setL, List.set_cons_zero, List.set_cons_succ, fillC]
  refine WC_call (to_ByteS (h4.app) (by omega)) ?_
  rintro r1 g1 ⟨t1, d1, U1, rfl, rfl, z1, o1, l1⟩
  obtain ⟨y1_0, rfl⟩ := z1.one rfl
  simp (disch := omega) only [KC_eq, c25, e0, e1, e2, e3, e4, hsz, ifT, w64, RR, RP, Ty.agg, Ty.size, Ty.sizes, eq_self, ne_eq, not_true, not_false_iff, reduceCtorEq, List.length_cons, List.length_nil, decide_true, decide_false, true_and, and_true, ite_true, ite_false, PT.full, enter0, setAll, forget, Fr.set, Fr.get, PT.get, PT.set, kof, ai, ev, ev1, evp, b_add, b_sub, b_mul, b_quo, b_rem, b_eql, b_neq, b_lss, b_leq, b_gtr, b_geq, b_seql, b_sneq, setD, resV, resL, res1, args, List.take_zero, List.drop_zero, List.take_nil, List.take_succ_cons, List.drop_succ_cons, Nat.reduceAdd, Nat.reduceLeDiff, reduceIte, Bool.not_true, Bool.not_false, Bool.false_eq_true, CA_some, Option.some.injEq, Nat.zero_add, Nat.mul_one, Nat.add_zero, setL, List.set_cons_zero, List.set_cons_succ, fillC]
  refine WC_call (to_Qc ((h5.app).app) (by omega)) ?_
  rintro r2 g2 ⟨t2, d2, U2, rfl, rfl, z2, o2, l2⟩
  obtain ⟨y2_0, y2_1, y2_2, y2_3, y2_4, rfl⟩ := len_5 z2.size
  simp (disch := omega) only [KC_eq, c25, e0, e1, e2, e3, e4, hsz, ifT, w64, RR, RP, Ty.agg, Ty.size, Ty.sizes, eq_self, ne_eq, not_true, not_false_iff, reduceCtorEq, List.length_cons, List.length_nil, decide_true, decide_false, true_and, and_true, ite_true, ite_false, PT.full, enter0, setAll, forget, Fr.set, Fr.get, PT.get, PT.set, kof, ai, ev, ev1, evp, b_add, b_sub, b_mul, b_quo, b_rem, b_eql, b_neq, b_lss, b_leq, b_gtr, b_geq, b_seql, b_sneq, setD, resV, resL, res1, args, List.take_zero, List.drop_zero, List.take_nil, List.take_succ_cons, List.drop_succ_cons, Nat.reduceAdd, Nat.reduceLeDiff, reduceIte, Bool.not_true, Bool.not_false, Bool.false_eq_true, CA_some, Option.some.injEq, Nat.zero_add, Nat.mul_one, Nat.add_zero, setL, List.set_cons_zero, List.set_cons_succ, fillC]
  refine ⟨(t0 ++ (t1 ++ t2)), _, _, by simp only [List.append_assoc], rfl, ⟨_, rfl, (Rs.mk (Rp.mkInt lo0 hi0) (Rs.mk (Rp.mkInt lo1 hi1) (Rs.mk (Rp.mkInt lo2 hi2) (Rs.mk ((z0.app).app) (Rs.mk (z1.app) (Rs.mk z2 Rs.nil))))))⟩, ?_⟩
  have fr := (Fre.step (Fre.step (Fre.step (Fre.nil h) z0.lt o0 l0) z1.lt o1 l1) z2.lt o2 l2)
  simpa only [List.nil_append, List.append_nil, List.append_assoc] using fr.both
/-- laws.toHeadS -/
def c95 : AF := ⟨1, 5, [.tmp 2], (.seq (.ops [.i (.mov 2 (.c (.val false [.nils])))]) (.seq (.ops [.i (.mov 5 (.s 0)), .i (.len 6 false (.s 5)), .i (.mks 7 35 10 160 [.int .i64 0, .int .i64 0, .int .i64 0, .nils, .nils, .int .i64 0, .int .i64 0, .nils, .nils, .nils] (.s 6)), .i (.mov 3 (.s 7))]) (.seq (.seq (.ops [.i (.mov 4 (.c (.val false [.int .i64 0])))]) (.block 0 (.loop [21, 20, 19, 18, 17, 16, 15, 14, 13, 12, 11, 10, 9, 8] (.seq (.seq (.ops [.i (.mov 8 (.s 4)), .i (.mov 9 (.s 0)), .i (.len 10 false (.s 9)), .i (.bin 11 .lss (.s 8) (.s 10))]) (.cond (.s 11) .skip (.exit 0))) (.seq (.block 1 (.ops [.i (.mov 14 (.s 3)), .i (.mov 15 (.s 4)), .i (.mov 16 (.s 0)), .i (.mov 17 (.s 4)), .i (.iad 18 (.s 16) (.s 17) 10), .i (.ldh 19 (.s 18) 10 true), .i (.call 21 25 false [(.s 19)]), .i (.iad 21 (.s 14) (.s 15) 10), .i (.sth (.s 21) (.s 20) 10)])) (.ops [.i (.mov 12 (.s 4)), .i (.bin 13 .add (.s 12) (.c (.val false [.int .i64 1]))), .i (.mov 4 (.s 13))])))))) (.seq (.ops [.i (.mov 22 (.s 3)), .i (.mov 2 (.s 22))]) .ret))))⟩
theorem k95 : cd 95 = some c95 := by kernel_rfl
theorem to_HeadS : ToOk cd 95 (.sl THead) := to_sl k95 (by omega) rfl to_Head
/-- laws.toLight -/
def c104 : AF := ⟨1, 5, [.cell 2 9 true], (.seq (.ops [.i (.lbox 1 (.s 0)), .i (.lal 2 [.int .i64 0, .int .i64 0, .int .i64 0, .int .i64 0, .int .i64 0, .nils, .int .i64 0, .nils, .nils])]) (.seq (.ops [.i (.lal 3 [.int .i64 0, .int .i64 0, .int .i64 0, .int .i64 0, .int .i64 0, .nils, .int .i64 0, .nils, .nils])]) (.seq (.ops [.i (.fad 4 (.s 1) 0), .i (.ldl 5 1 (.s 4) 5 true), .i (.call 7 24 false [(.s 5)]), .i (.fad 7 (.s 3) 0), .i (.stl 3 (.s 7) (.s 6) 5)]) (.seq (.ops [.i (.fad 8 (.s 1) 5), .i (.ldl 9 1 (.s 8) 1 true), .i (.call 11 103 false [(.s 9)]), .i (.fad 11 (.s 3) 5), .i (.stl 3 (.s 11) (.s 10) 1)]) (.seq (.ops [.i (.fad 12 (.s 1) 6), .i (.ldl 13 1 (.s 12) 2 true), .i (.call 15 151 false [(.s 13)]), .i (.fad 15 (.s 3) 6), .i (.stl 3 (.s 15) (.s 14) 2)]) (.seq (.ops [.i (.fad 16 (.s 1) 8), .i (.ldl 17 1 (.s 16) 1 false), .i (.call 19 95 false [(.s 17)]), .i (.fad 19 (.s 3) 8), .i (.stl 3 (.s 19) (.s 18) 1)]) (.seq (.ops [.i (.ldl 20 3 (.s 3) 9 true), .i (.stl 2 (.s 2) (.s 20) 9)]) .ret)))))))⟩
theorem k104 : cd 104 = some c104 := by kernel_rfl
theorem to_Light : ToOk cd 104 TLight := by
  intro h cs v S hv hw
  obtain ⟨vs, rfl, q0⟩ := hv.st
  obtain ⟨v0, r0, S0, T0, rfl, rfl, h0, q1⟩ := q0.step
  obtain ⟨v1, r1, S1, T1, rfl, rfl, h1, q2⟩ := q1.step
  obtain ⟨v2, r2, S2, T2, rfl, rfl, h2, q3⟩ := q2.step
  obtain ⟨v3, r3, S3, T3, rfl, rfl, h3, q4⟩ := q3.step
  obtain ⟨c3, e3⟩ := h3.one rfl
  rw [e3] at h3
  obtain ⟨_, rfl, rfl⟩ := q4
  have hsz : cs.length = 9 := hv.size
  simp only [Ty.size, Ty.sizes, Nat.reduceAdd, Nat.zero_add, List.drop_zero] at e3 hsz h0 h1 h2
  simp only [wt, wts] at hw
  refine WS_enter k104 rfl ?_
  simp (disch := omega) only [KC_eq, c104, e3, hsz, ifT, w64, RR, RP, Ty.agg, Ty.size, Ty.sizes, eq_self, ne_eq, not_true, not_false_iff, reduceCtorEq, List.length_cons, List.length_nil, decide_true, decide_false, true_and, and_true, ite_true, ite_false, PT.full, enter0, setAll, forget, Fr.set, Fr.get, PT.get, PT.set, kof, ai, ev, ev1, evp, b_add, b_sub, b_mul, b_quo, b_rem, b_eql, b_neq, b_lss, b_leq, b_gtr, b_geq, b_seql, b_sneq, setD, resV, resL, res1, args, List.take_zero, List.drop_zero, List.take_nil, List.take_succ_cons, List.drop_succ_cons, Nat.reduceAdd, Nat.reduceLeDiff, reduceIte, Bool.not_true, Bool.not_false, Bool.false_eq_true, CA_some, Option.some.injEq, Nat.zero_add, Nat.mul_one, Nat.add_zero, setL, List.set_cons_zero, List.set_cons_succ, fillC]
  refine WC_call (to_Limits h0 (by omega)) ?_
  rintro r0 g0 ⟨t0, d0, U0, rfl, rfl, z0, o0, l0⟩
  obtain ⟨y0_0, y0_1, y0_2, y0_3, y0_4, rfl⟩ := len_5 z0.size
  simp (disch := omega) only [KC_eq, c104, e3, hsz, ifT, w64, RR, RP, Ty.agg, Ty.size, Ty.sizes, eq_self, ne_eq, not_true, not_false_iff, reduceCtorEq, List.length_cons, List.length_nil, decide_true, decide_false, true_and, and_true, ite_true, ite_false, PT.full, enter0, setAll, forget, Fr.set, Fr.get, PT.get, PT.set, kof, ai, ev, ev1, evp, b_add, b_sub, b_mul, b_quo, b_rem, b_eql, b_neq, b_lss, b_leq, b_gtr, b_geq, b_seql, b_sneq, setD, resV, resL, res1, args, List.take_zero, List.drop_zero, List.take_nil, List.take_succ_cons, List.drop_succ_cons, Nat.reduceAdd, Nat.reduceLeDiff, reduceIte, Bool.not_true, Bool.not_false, Bool.false_eq_true, CA_some, Option.some.injEq, Nat.zero_add, Nat.mul_one, Nat.add_zero, setL, List.set_cons_zero, List.set_cons_succ, fillC]
  refine WC_call (to_Table (h1.app) (by omega)) ?_
  rintro r1 g1 ⟨t1, d1, U1, rfl, rfl, z1, o1, l1⟩
  obtain ⟨y1_0, rfl⟩ := z1.one rfl
  simp (disch := omega) only [KC_eq, c104, e3, hsz, ifT, w64, RR, RP, Ty.agg, Ty.size, Ty.sizes, eq_self, ne_eq, not_true, not_false_iff, reduceCtorEq, List.length_cons, List.length_nil, decide_true, decide_false, true_and, and_true, ite_true, ite_false, PT.full, enter0, setAll, forget, Fr.set, Fr.get, PT.get, PT.set, kof, ai, ev, ev1, evp, b_add, b_sub, b_mul, b_quo, b_rem, b_eql, b_neq, b_lss, b_leq, b_gtr, b_geq, b_seql, b_sneq, setD, resV, resL, res1, args, List.take_zero, List.drop_zero, List.take_nil, List.take_succ_cons, List.drop_succ_cons, Nat.reduceAdd, Nat.reduceLeDiff, reduceIte, Bool.not_true, Bool.not_false, Bool.false_eq_true, CA_some, Option.some.injEq, Nat.zero_add, Nat.mul_one, Nat.add_zero, setL, List.set_cons_zero, List.set_cons_succ, fillC]
  refine WC_call (to_Push ((h2.app).app) (by omega)) ?_
  rintro r2 g2 ⟨t2, d2, U2, rfl, rfl, z2, o2, l2⟩
  obtain ⟨y2_0, y2_1, rfl⟩ := len_2 z2.size
  simp (disch := omega) only [KC_eq, c104, e3, hsz, ifT, w64, RR, RP, Ty.agg, Ty.size, Ty.sizes, eq_self, ne_eq, not_true, not_false_iff, reduceCtorEq, List.length_cons, List.length_nil, decide_true, decide_false, true_and, and_true, ite_true, ite_false, PT.full, enter0, setAll, forget, Fr.set, Fr.get, PT.get, PT.set, kof, ai, ev, ev1, evp, b_add, b_sub, b_mul, b_quo, b_rem, b_eql, b_neq, b_lss, b_leq, b_gtr, b_geq, b_seql, b_sneq, setD, resV, resL, res1, args, List.take_zero, List.drop_zero, List.take_nil, List.take_succ_cons, List.drop_succ_cons, Nat.reduceAdd, Nat.reduceLeDiff, reduceIte, Bool.not_true, Bool.not_false, Bool.false_eq_true, CA_some, Option.some.injEq, Nat.zero_add, Nat.mul_one, Nat.add_zero, setL, List.set_cons_zero, List.set_cons_succ, fillC]
  refine WC_call (to_HeadS (((h3.app).app).app) (by omega)) ?_
  rintro r3 g3 ⟨t3, d3, U3, rfl, rfl, z3, o3, l3⟩
  obtain ⟨y3_0, rfl⟩ := z3.one rfl
  simp (disch := omega) only [KC_eq, c104, e3, hsz, ifT, w64, RR, RP, Ty.agg, Ty.size, Ty.sizes, eq_self, ne_eq, not_true, not_false_iff, reduceCtorEq, List.length_cons, List.length_nil, decide_true, decide_false, true_and, and_true, ite_true, ite_false, PT.full, enter0, setAll, forget, Fr.set, Fr.get, PT.get, PT.set, kof, ai, ev, ev1, evp, b_add, b_sub, b_mul, b_quo, b_rem, b_eql, b_neq, b_lss, b_leq, b_gtr, b_geq, b_seql, b_sneq, setD, resV, resL, res1, args, List.take_zero, List.drop_zero, List.take_nil, List.take_succ_cons, List.drop_succ_cons, Nat.reduceAdd, Nat.reduceLeDiff, reduceIte, Bool.not_true, Bool.not_false, Bool.false_eq_true, CA_some, Option.some.injEq, Nat.zero_add, Nat.mul_one, Nat.add_zero, setL, List.set_cons_zero, List.set_cons_succ, fillC]
  refine ⟨(t0 ++ (t1 ++ (t2 ++ t3))), _, _, by simp only [List.append_assoc], rfl, ⟨_, rfl, (Rs.mk (((z0.app).app).app) (Rs.mk ((z1.app).app) (Rs.mk (z2.app) (Rs.mk z3 Rs.nil))))⟩, ?_⟩
  have fr := (Fre.step (Fre.step (Fre.step (Fre.step (Fre.nil h) z0.lt o0 l0) z1.lt o1 l1) z2.lt o2 l2) z3.lt o3 l3)
  simpa only [List.nil_append, List.append_nil, List.append_assoc] using fr.both
/-- laws.toDesk -/
def c41 : AF := ⟨1, 5, [.cell 2 16 true], (.seq (.ops [.i (.lbox 1 (.s 0)), .i (.lal 2 [.int .i64 0, .int .i64 0, .int .i64 0, .int .i64 0, .int .i64 0, .nils, .int .i64 0, .int .i64 0, .int .i64 0, .int .i64 0, .int .i64 0, .nils, .int .i64 0, .nils, .nils, .nils])]) (.seq (.ops [.i (.lal 3 [.int .i64 0, .int .i64 0, .int .i64 0, .int .i64 0, .int .i64 0, .nils, .int .i64 0, .int .i64 0, .int .i64 0, .int .i64 0, .int .i64 0, .nils, .int .i64 0, .nils, .nils, .nils])]) (.seq (.ops [.i (.fad 4 (.s 1) 0), .i (.ldl 5 1 (.s 4) 5 true), .i (.call 7 24 false [(.s 5)]), .i (.fad 7 (.s 3) 0), .i (.stl 3 (.s 7) (.s 6) 5)]) (.seq (.ops [.i (.fad 8 (.s 1) 5), .i (.ldl 9 1 (.s 8) 1 true), .i (.call 11 103 false [(.s 9)]), .i (.fad 11 (.s 3) 5), .i (.stl 3 (.s 11) (.s 10) 1)]) (.seq (.ops [.i (.fad 12 (.s 1) 6), .i (.ldl 13 1 (.s 12) 9 true), .i (.call 15 104 false [(.s 13)]), .i (.fad 15 (.s 3) 6), .i (.stl 3 (.s 15) (.s 14) 9)]) (.seq (.ops [.i (.fad 16 (.s 1) 15), .i (.ldl 17 1 (.s 16) 1 false), .i (.call 19 95 false [(.s 17)]), .i (.fad 19 (.s 3) 15), .i (.stl 3 (.s 19) (.s 18) 1)]) (.seq (.ops [.i (.ldl 20 3 (.s 3) 16 true), .i (.stl 2 (.s 2) (.s 20) 16)]) .ret)))))))⟩
theorem k41 : cd 41 = some c41 := by kernel_rfl
theorem to_Desk : ToOk cd 41 TDesk := by
  intro h cs v S hv hw
  obtain ⟨vs, rfl, q0⟩ := hv.st
  obtain ⟨v0, r0, S0, T0, rfl, rfl, h0, q1⟩ := q0.step
  obtain ⟨v1, r1, S1, T1, rfl, rfl, h1, q2⟩ := q1.step
  obtain ⟨v2, r2, S2, T2, rfl, rfl, h2, q3⟩ := q2.step
  obtain ⟨v3, r3, S3, T3, rfl, rfl, h3, q4⟩ := q3.step
  obtain ⟨c3, e3⟩ := h3.one rfl
  rw [e3] at h3
  obtain ⟨_, rfl, rfl⟩ := q4
  have hsz : cs.length = 16 := hv.size
  simp only [Ty.size, Ty.sizes, Nat.reduceAdd, Nat.zero_add, List.drop_zero] at e3 hsz h0 h1 h2
  simp only [wt, wts] at hw
  refine WS_enter k41 rfl ?_
  simp (disch := omega) only [KC_eq, c41, e3, hsz, ifT, w64, RR, RP, Ty.agg, Ty.size, Ty.sizes, eq_self, ne_eq, not_true, not_false_iff, reduceCtorEq, List.length_cons, List.length_nil, decide_true, decide_false, true_and, and_true, ite_true, ite_false, PT.full, enter0, setAll, forget, Fr.set, Fr.get, PT.get, PT.set, kof, ai, ev, ev1, evp, b_add, b_sub, b_mul, b_quo, b_rem, b_eql, b_neq, b_lss, b_leq, b_gtr, b_geq, b_seql, b_sneq, setD, resV, resL, res1, args, List.take_zero, List.drop_zero, List.take_nil, List.take_succ_cons, List.drop_succ_cons, Nat.reduceAdd, Nat.reduceLeDiff, reduceIte, Bool.not_true, Bool.not_false, Bool.false_eq_true, CA_some, Option.some.injEq, Nat.zero_add, Nat.mul_one, Nat.add_zero, setL, List.set_cons_zero, List.set_cons_succ, fillC]
  refine WC_call (to_Limits h0 (by omega)) ?_
  rintro r0 g0 ⟨t0, d0, U0, rfl, rfl, z0, o0, l0⟩
  obtain ⟨y0_0, y0_1, y0_2, y0_3, y0_4, rfl⟩ := len_5 z0.size
  simp (disch := omega) only [KC_eq, c41, e3, hsz, ifT, w64, RR, RP, Ty.agg, Ty.size, Ty.sizes, eq_self, ne_eq, not_true, not_false_iff, reduceCtorEq, List.length_cons, List.length_nil, decide_true, decide_false, true_and, and_true, ite_true, ite_false, PT.full, enter0, setAll, forget, Fr.set, Fr.get, PT.get, PT.set, kof, ai, ev, ev1, evp, b_add, b_sub, b_mul, b_quo, b_rem, b_eql, b_neq, b_lss, b_leq, b_gtr, b_geq, b_seql, b_sneq, setD, resV, resL, res1, args, List.take_zero, List.drop_zero, List.take_nil, List.take_succ_cons, List.drop_succ_cons, Nat.reduceAdd, Nat.reduceLeDiff, reduceIte, Bool.not_true, Bool.not_false, Bool.false_eq_true, CA_some, Option.some.injEq, Nat.zero_add, Nat.mul_one, Nat.add_zero, setL, List.set_cons_zero, List.set_cons_succ, fillC]
  refine WC_call (to_Table (h1.app) (by omega)) ?_
  rintro r1 g1 ⟨t1, d1, U1, rfl, rfl, z1, o1, l1⟩
  obtain ⟨y1_0, rfl⟩ := z1.one rfl
  simp (disch := omega) only [KC_eq, c41, e3, hsz, ifT, w64, RR, RP, Ty.agg, Ty.size, Ty.sizes, eq_self, ne_eq, not_true, not_false_iff, reduceCtorEq, List.length_cons, List.length_nil, decide_true, decide_false, true_and, and_true, ite_true, ite_false, PT.full, enter0, setAll, forget, Fr.set, Fr.get, PT.get, PT.set, kof, ai, ev, ev1, evp, b_add, b_sub, b_mul, b_quo, b_rem, b_eql, b_neq, b_lss, b_leq, b_gtr, b_geq, b_seql, b_sneq, setD, resV, resL, res1, args, List.take_zero, List.drop_zero, List.take_nil, List.take_succ_cons, List.drop_succ_cons, Nat.reduceAdd, Nat.reduceLeDiff, reduceIte, Bool.not_true, Bool.not_false, Bool.false_eq_true, CA_some, Option.some.injEq, Nat.zero_add, Nat.mul_one, Nat.add_zero, setL, List.set_cons_zero, List.set_cons_succ, fillC]
  refine WC_call (to_Light ((h2.app).app) (by omega)) ?_
  rintro r2 g2 ⟨t2, d2, U2, rfl, rfl, z2, o2, l2⟩
  obtain ⟨y2_0, y2_1, y2_2, y2_3, y2_4, y2_5, y2_6, y2_7, y2_8, rfl⟩ := len_9 z2.size
  simp (disch := omega) only [KC_eq, c41, e3, hsz, ifT, w64, RR, RP, Ty.agg, Ty.size, Ty.sizes, eq_self, ne_eq, not_true, not_false_iff, reduceCtorEq, List.length_cons, List.length_nil, decide_true, decide_false, true_and, and_true, ite_true, ite_false, PT.full, enter0, setAll, forget, Fr.set, Fr.get, PT.get, PT.set, kof, ai, ev, ev1, evp, b_add, b_sub, b_mul, b_quo, b_rem, b_eql, b_neq, b_lss, b_leq, b_gtr, b_geq, b_seql, b_sneq, setD, resV, resL, res1, args, List.take_zero, List.drop_zero, List.take_nil, List.take_succ_cons, List.drop_succ_cons, Nat.reduceAdd, Nat.reduceLeDiff, reduceIte, Bool.not_true, Bool.not_false, Bool.false_eq_true, CA_some, Option.some.injEq, Nat.zero_add, Nat.mul_one, Nat.add_zero, setL, List.set_cons_zero, List.set_cons_succ, fillC]
  refine WC_call (to_HeadS (((h3.app).app).app) (by omega)) ?_
  rintro r3 g3 ⟨t3, d3, U3, rfl, rfl, z3, o3, l3⟩
  obtain ⟨y3_0, rfl⟩ := z3.one rfl
  simp (disch := omega) only [KC_eq, c41, e3, hsz, ifT, w64, RR, RP, Ty.agg, Ty.size, Ty.sizes, eq_self, ne_eq, not_true, not_false_iff, reduceCtorEq, List.length_cons, List.length_nil, decide_true, decide_false, true_and, and_true, ite_true, ite_false, PT.full, enter0, setAll, forget, Fr.set, Fr.get, PT.get, PT.set, kof, ai, ev, ev1, evp, b_add, b_sub, b_mul, b_quo, b_rem, b_eql, b_neq, b_lss, b_leq, b_gtr, b_geq, b_seql, b_sneq, setD, resV, resL, res1, args, List.take_zero, List.drop_zero, List.take_nil, List.take_succ_cons, List.drop_succ_cons, Nat.reduceAdd, Nat.reduceLeDiff, reduceIte, Bool.not_true, Bool.not_false, Bool.false_eq_true, CA_some, Option.some.injEq, Nat.zero_add, Nat.mul_one, Nat.add_zero, setL, List.set_cons_zero, List.set_cons_succ, fillC]
  refine ⟨(t0 ++ (t1 ++ (t2 ++ t3))), _, _, by simp only [List.append_assoc], rfl, ⟨_, rfl, (Rs.mk (((z0.app).app).app) (Rs.mk ((z1.app).app) (Rs.mk (z2.app) (Rs.mk z3 Rs.nil))))⟩, ?_⟩
  have fr := (Fre.step (Fre.step (Fre.step (Fre.step (Fre.nil h) z0.lt o0 l0) z1.lt o1 l1) z2.lt o2 l2) z3.lt o3 l3)
  simpa only [List.nil_append, List.append_nil, List.append_assoc] using fr.both
/-- laws.eqLimits -/
def c109 : AF := ⟨2, 5, [.tmp 4], (.seq (.ops [.i (.lbox 2 (.s 0)), .i (.lbox 3 (.s 1)), .i (.mov 4 (.c (.val false [.bool false])))]) (.seq (.seq (.ops [.i (.fad 5 (.s 2) 0), .i (.ldl 6 2 (.s 5) 1 false), .i (.fad 7 (.s 3) 0), .i (.ldl 8 3 (.s 7) 1 false), .i (.bin 9 .neq (.s 6) (.s 8))]) (.cond (.s 9) (.seq (.ops [.i (.mov 4 (.c (.val false [.bool false])))]) .ret) .skip)) (.seq (.seq (.ops [.i (.fad 10 (.s 2) 1), .i (.ldl 11 2 (.s 10) 1 false), .i (.fad 12 (.s 3) 1), .i (.ldl 13 3 (.s 12) 1 false), .i (.bin 14 .neq (.s 11) (.s 13))]) (.cond (.s 14) (.seq (.ops [.i (.mov 4 (.c (.val false [.bool false])))]) .ret) .skip)) (.seq (.seq (.ops [.i (.fad 15 (.s 2) 2), .i (.ldl 16 2 (.s 15) 1 false), .i (.fad 17 (.s 3) 2), .i (.ldl 18 3 (.s 17) 1 false), .i (.bin 19 .neq (.s 16) (.s 18))]) (.cond (.s 19) (.seq (.ops [.i (.mov 4 (.c (.val false [.bool false])))]) .ret) .skip)) (.seq (.seq (.ops [.i (.fad 20 (.s 2) 3), .i (.ldl 21 2 (.s 20) 1 false), .i (.fad 22 (.s 3) 3), .i (.ldl 23 3 (.s 22) 1 false), .i (.bin 24 .neq (.s 21) (.s 23))]) (.cond (.s 24) (.seq (.ops [.i (.mov 4 (.c (.val false [.bool false])))]) .ret) .skip)) (.seq (.seq (.ops [.i (.fad 25 (.s 2) 4), .i (.ldl 26 2 (.s 25) 1 false), .i (.fad 27 (.s 3) 4), .i (.ldl 28 3 (.s 27) 1 false), .i (.bin 29 .neq (.s 26) (.s 28))]) (.cond (.s 29) (.seq (.ops [.i (.mov 4 (.c (.val false [.bool false])))]) .ret) .skip)) (.seq (.ops [.i (.mov 4 (.c (.val false [.bool true])))]) .ret)))))))⟩
theorem k109 : cd 109 = some c109 := by kernel_rfl
end Go.Eng.U
set_option maxRecDepth 100000
set_option linter.unusedSimpArgs false
set_option linter.unusedVariables false
namespace Go.Eng.U
theorem eq_Limits : EqOk cd 109 TLimits := by
  intro h ca cb va vb Sa Sb ha hb
  obtain ⟨avs, rfl, aq0⟩ := ha.st
  obtain ⟨av0, ar0, aS0, aT0, rfl, rfl, ah0, aq1⟩ := aq0.step
  obtain ⟨an0, ae0, rfl, rfl, alo0, ahi0⟩ := ah0.int
  obtain ⟨av1, ar1, aS1, aT1, rfl, rfl, ah1, aq2⟩ := aq1.step
  obtain ⟨an1, ae1, rfl, rfl, alo1, ahi1⟩ := ah1.int
  obtain ⟨av2, ar2, aS2, aT2, rfl, rfl, ah2, aq3⟩ := aq2.step
  obtain ⟨an2, ae2, rfl, rfl, alo2, ahi2⟩ := ah2.int
  obtain ⟨av3, ar3, aS3, aT3, rfl, rfl, ah3, aq4⟩ := aq3.step
  obtain ⟨an3, ae3, rfl, rfl, alo3, ahi3⟩ := ah3.int
  obtain ⟨av4, ar4, aS4, aT4, rfl, rfl, ah4, aq5⟩ := aq4.step
  obtain ⟨an4, ae4, rfl, rfl, alo4, ahi4⟩ := ah4.int
  obtain ⟨_, rfl, rfl⟩ := aq5
  have ahsz : ca.length = 5 := ha.size
  obtain ⟨bvs, rfl, bq0⟩ := hb.st
  obtain ⟨bv0, br0, bS0, bT0, rfl, rfl, bh0, bq1⟩ := bq0.step
  obtain ⟨bn0, be0, rfl, rfl, blo0, bhi0⟩ := bh0.int
  obtain ⟨bv1, br1, bS1, bT1, rfl, rfl, bh1, bq2⟩ := bq1.step
  obtain ⟨bn1, be1, rfl, rfl, blo1, bhi1⟩ := bh1.int
  obtain ⟨bv2, br2, bS2, bT2, rfl, rfl, bh2, bq3⟩ := bq2.step
  obtain ⟨bn2, be2, rfl, rfl, blo2, bhi2⟩ := bh2.int
  obtain ⟨bv3, br3, bS3, bT3, rfl, rfl, bh3, bq4⟩ := bq3.step
  obtain ⟨bn3, be3, rfl, rfl, blo3, bhi3⟩ := bh3.int
  obtain ⟨bv4, br4, bS4, bT4, rfl, rfl, bh4, bq5⟩ := bq4.step
  obtain ⟨bn4, be4, rfl, rfl, blo4, bhi4⟩ := bh4.int
  obtain ⟨_, rfl, rfl⟩ := bq5
  have bhsz : cb.length = 5 := hb.size
  simp only [Ty.size, Ty.sizes, Nat.reduceAdd, Nat.zero_add, List.drop_zero] at ae0 ae1 ae2 ae3 ae4 ahsz be0 be1 be2 be3 be4 bhsz
  refine WS_enter k109 rfl ?_
  simp (disch := omega) only [KC_eq, c109, ae0, ae1, ae2, ae3, ae4, ahsz, be0, be1, be2, be3, be4, bhsz, ifT, w64, RR, RP, Ty.agg, Ty.size, Ty.sizes, eq_self, ne_eq, not_true, not_false_iff, reduceCtorEq, List.length_cons, List.length_nil, decide_true, decide_false, true_and, and_true, ite_true, ite_false, PT.full, enter0, setAll, forget, Fr.set, Fr.get, PT.get, PT.set, kof, ai, ev, ev1, evp, b_add, b_sub, b_mul, b_quo, b_rem, b_eql, b_neq, b_lss, b_leq, b_gtr, b_geq, b_seql, b_sneq, setD, resV, resL, res1, args, List.take_zero, List.drop_zero, List.take_nil, List.take_succ_cons, List.drop_succ_cons, Nat.reduceAdd, Nat.reduceLeDiff, reduceIte, Bool.not_true, Bool.not_false, Bool.false_eq_true, CA_some, Option.some.injEq, Nat.zero_add, Nat.mul_one, Nat.add_zero, setL, List.set_cons_zero, List.set_cons_succ, fillC]
  refine BR_dec (fun hn => ?_) (fun hn => ?_)
  case refine_1 =>
    simp (disch := omega) only [KC_eq, c109, ae0, ae1, ae2, ae3, ae4, ahsz, be0, be1, be2, be3, be4, bhsz, ifT, w64, RR, RP, Ty.agg, Ty.size, Ty.sizes, eq_self, ne_eq, not_true, not_false_iff, reduceCtorEq, List.length_cons, List.length_nil, decide_true, decide_false, true_and, and_true, ite_true, ite_false, PT.full, enter0, setAll, forget, Fr.set, Fr.get, PT.get, PT.set, kof, ai, ev, ev1, evp, b_add, b_sub, b_mul, b_quo, b_rem, b_eql, b_neq, b_lss, b_leq, b_gtr, b_geq, b_seql, b_sneq, setD, resV, resL, res1, args, List.take_zero, List.drop_zero, List.take_nil, List.take_succ_cons, List.drop_succ_cons, Nat.reduceAdd, Nat.reduceLeDiff, reduceIte, Bool.not_true, Bool.not_false, Bool.false_eq_true, CA_some, Option.some.injEq, Nat.zero_add, Nat.mul_one, Nat.add_zero, setL, List.set_cons_zero, List.set_cons_succ, fillC]
    simp [hn]
  have d0 : an0 = bn0 := by omega
  subst d0
  simp (disch := omega) only [KC_eq, c109, ae0, ae1, ae2, ae3, ae4, ahsz, be0, be1, be2, be3, be4, bhsz, ifT, w64, RR, RP, Ty.agg, Ty.size, Ty.sizes, eq_self, ne_eq, not_true, not_false_iff, reduceCtorEq, List.length_cons, List.length_nil, decide_true, decide_false, true_and, and_true, ite_true, ite_false, PT.full, enter0, setAll, forget, Fr.set, Fr.get, PT.get, PT.set, kof, ai, ev, ev1, evp, b_add, b_sub, b_mul, b_quo, b_rem, b_eql, b_neq, b_lss, b_leq, b_gtr, b_geq, b_seql, b_sneq, setD, resV, resL, res1, args, List.take_zero, List.drop_zero, List.take_nil, List.take_succ_cons, List.drop_succ_cons, Nat.reduceAdd, Nat.reduceLeDiff, reduceIte, Bool.not_true, Bool.not_false, Bool.false_eq_true, CA_some, Option.some.injEq, Nat.zero_add, Nat.mul_one, Nat.add_zero, setL, List.set_cons_zero, List.set_cons_succ, fillC]
  refine BR_dec (fun hn => ?_) (fun hn => ?_)
  case refine_1 =>
    simp (disch := omega) only [KC_eq, c109, ae0, ae1, ae2, ae3, ae4, ahsz, be0, be1, be2, be3, be4, bhsz, ifT, w64, RR, RP, Ty.agg, Ty.size, Ty.sizes, eq_self, ne_eq, not_true, not_false_iff, reduceCtorEq, List.length_cons, List.length_nil, decide_true, decide_false, true_and, and_true, ite_true, ite_false, PT.full, enter0, setAll, forget, Fr.set, Fr.get, PT.get, PT.set, kof, ai, ev, ev1, evp, b_add, b_sub, b_mul, b_quo, b_rem, b_eql, b_neq, b_lss, b_leq, b_gtr, b_geq, b_seql, b_sneq, setD, resV, resL, res1, args, List.take_zero, List.drop_zero, List.take_nil, List.take_succ_cons, List.drop_succ_cons, Nat.reduceAdd, Nat.reduceLeDiff, reduceIte, Bool.not_true, Bool.not_false, Bool.false_eq_true, CA_some, Option.some.injEq, Nat.zero_add, Nat.mul_one, Nat.add_zero, setL, List.set_cons_zero, List.set_cons_succ, fillC]
    simp [hn]
  have d1 : an1 = bn1 := by omega
  subst d1
  simp (disch := omega) only [KC_eq, c109, ae0, ae1, ae2, ae3, ae4, ahsz, be0, be1, be2, be3, be4, bhsz, ifT, w64, RR, RP, Ty.agg, Ty.size, Ty.sizes, eq_self, ne_eq, not_true, not_false_iff, reduceCtorEq, List.length_cons, List.length_nil, decide_true, decide_false, true_and, and_true, ite_true, ite_false, PT.full, enter0, setAll, forget, Fr.set, Fr.get, PT.get, PT.set, kof, ai, ev, ev1, evp, b_add, b_sub, b_mul, b_quo, b_rem, b_eql, b_neq, b_lss, b_leq, b_gtr, b_geq, b_seql, b_sneq, setD, resV, resL, res1, args, List.take_zero, List.drop_zero, List.take_nil, List.take_succ_cons, List.drop_succ_cons, Nat.reduceAdd, Nat.reduceLeDiff, reduceIte, Bool.not_true, Bool.not_false, Bool.false_eq_true, CA_some, Option.some.injEq, Nat.zero_add, Nat.mul_one, Nat.add_zero, setL, List.set_cons_zero, List.set_cons_succ, fillC]
  refine BR_dec (fun hn => ?_) (fun hn => ?_)
  case refine_1 =>
    simp (disch := omega) only [KC_eq, c109, ae0, ae1, ae2, ae3, ae4, ahsz, be0, be1, be2, be3, be4, bhsz, ifT, w64, RR, RP, Ty.agg, Ty.size, Ty.sizes, eq_self, ne_eq, not_true, not_false_iff, reduceCtorEq, List.length_cons, List.length_nil, decide_true, decide_false, true_and, and_true, ite_true, ite_false, PT.full, enter0, setAll, forget, Fr.set, Fr.get, PT.get, PT.set, kof, ai, ev, ev1, evp, b_add, b_sub, b_mul, b_quo, b_rem, b_eql, b_neq, b_lss, b_leq, b_gtr, b_geq, b_seql, b_sneq, setD, resV, resL, res1, args, List.take_zero, List.drop_zero, List.take_nil, List.take_succ_cons, List.drop_succ_cons, Nat.reduceAdd, Nat.reduceLeDiff, reduceIte, Bool.not_true, Bool.not_false, Bool.false_eq_true, CA_some, Option.some.injEq, Nat.zero_add, Nat.mul_one, Nat.add_zero, setL, List.set_cons_zero, List.set_cons_succ, fillC]
    simp [hn]
  have d2 : an2 = bn2 := by omega
  subst d2
  simp (disch := omega) only [KC_eq, c109, ae0, ae1, ae2, ae3, ae4, ahsz, be0, be1, be2, be3, be4, bhsz, ifT, w64, RR, RP, Ty.agg, Ty.size, Ty.sizes, eq_self, ne_eq, not_true, not_false_iff, reduceCtorEq, List.length_cons, List.length_nil, decide_true, decide_false, true_and, and_true, ite_true, ite_false, PT.full, enter0, setAll, forget, Fr.set, Fr.get, PT.get, PT.set, kof, ai, ev, ev1, evp, b_add, b_sub, b_mul, b_quo, b_rem, b_eql, b_neq, b_lss, b_leq, b_gtr, b_geq, b_seql, b_sneq, setD, resV, resL, res1, args, List.take_zero, List.drop_zero, List.take_nil, List.take_succ_cons, List.drop_succ_cons, Nat.reduceAdd, Nat.reduceLeDiff, reduceIte, Bool.not_true, Bool.not_false, Bool.false_eq_true, CA_some, Option.some.injEq, Nat.zero_add, Nat.mul_one, Nat.add_zero, setL, List.set_cons_zero, List.set_cons_succ, fillC]
  refine BR_dec (fun hn => ?_) (fun hn => ?_)
  case refine_1 =>
    simp (disch := omega) only [KC_eq, c109, ae0, ae1, ae2, ae3, ae4, ahsz, be0, be1, be2, be3, be4, bhsz, ifT, w64, RR, RP, Ty.agg, Ty.size, Ty.sizes, eq_self, ne_eq, not_true, not_false_iff, reduceCtorEq, List.length_cons, List.length_nil, decide_true, decide_false, true_and, and_true, ite_true, ite_false, PT.full, enter0, setAll, forget, Fr.set, Fr.get, PT.get, PT.set, kof, ai, ev, ev1, evp, b_add, b_sub, b_mul, b_quo, b_rem, b_eql, b_neq, b_lss, b_leq, b_gtr, b_geq, b_seql, b_sneq, setD, resV, resL, res1, args, List.take_zero, List.drop_zero, List.take_nil, List.take_succ_cons, List.drop_succ_cons, Nat.reduceAdd, Nat.reduceLeDiff, reduceIte, Bool.not_true, Bool.not_false, Bool.false_eq_true, CA_some, Option.some.injEq, Nat.zero_add, Nat.mul_one, Nat.add_zero, setL, List.set_cons_zero, List.set_cons_succ, fillC]
    simp [hn]
  have d3 : an3 = bn3 := by omega
  subst d3
  simp (disch := omega) only [KC_eq, c109, ae0, ae1, ae2, ae3, ae4, ahsz, be0, be1, be2, be3, be4, bhsz, ifT, w64, RR, RP, Ty.agg, Ty.size, Ty.sizes, eq_self, ne_eq, not_true, not_false_iff, reduceCtorEq, List.length_cons, List.length_nil, decide_true, decide_false, true_and, and_true, ite_true, ite_false, PT.full, enter0, setAll, forget, Fr.set, Fr.get, PT.get, PT.set, kof, ai, ev, ev1, evp, b_add, b_sub, b_mul, b_quo, b_rem, b_eql, b_neq, b_lss, b_leq, b_gtr, b_geq, b_seql, b_sneq, setD, resV, resL, res1, args, List.take_zero, List.drop_zero, List.take_nil, List.take_succ_cons, List.drop_succ_cons, Nat.reduceAdd, Nat.reduceLeDiff, reduceIte, Bool.not_true, Bool.not_false, Bool.false_eq_true, CA_some, Option.some.injEq, Nat.zero_add, Nat.mul_one, Nat.add_zero, setL, List.set_cons_zero, List.set_cons_succ, fillC]
  refine BR_dec (fun hn => ?_) (fun hn => ?_)
  case refine_1 =>
    simp (disch := omega) only [KC_eq, c109, ae0, ae1, ae2, ae3, ae4, ahsz, be0, be1, be2, be3, be4, bhsz, ifT, w64, RR, RP, Ty.agg, Ty.size, Ty.sizes, eq_self, ne_eq, not_true, not_false_iff, reduceCtorEq, List.length_cons, List.length_nil, decide_true, decide_false, true_and, and_true, ite_true, ite_false, PT.full, enter0, setAll, forget, Fr.set, Fr.get, PT.get, PT.set, kof, ai, ev, ev1, evp, b_add, b_sub, b_mul, b_quo, b_rem, b_eql, b_neq, b_lss, b_leq, b_gtr, b_geq, b_seql, b_sneq, setD, resV, resL, res1, args, List.take_zero, List.drop_zero, List.take_nil, List.take_succ_cons, List.drop_succ_cons, Nat.reduceAdd, Nat.reduceLeDiff, reduceIte, Bool.not_true, Bool.not_false, Bool.false_eq_true, CA_some, Option.some.injEq, Nat.zero_add, Nat.mul_one, Nat.add_zero, setL, List.set_cons_zero, List.set_cons_succ, fillC]
    simp [hn]
  have d4 : an4 = bn4 := by omega
  subst d4
  simp (disch := omega) only [KC_eq, c109, ae0, ae1, ae2, ae3, ae4, ahsz, be0, be1, be2, be3, be4, bhsz, ifT, w64, RR, RP, Ty.agg, Ty.size, Ty.sizes, eq_self, ne_eq, not_true, not_false_iff, reduceCtorEq, List.length_cons, List.length_nil, decide_true, decide_false, true_and, and_true, ite_true, ite_false, PT.full, enter0, setAll, forget, Fr.set, Fr.get, PT.get, PT.set, kof, ai, ev, ev1, evp, b_add, b_sub, b_mul, b_quo, b_rem, b_eql, b_neq, b_lss, b_leq, b_gtr, b_geq, b_seql, b_sneq, setD, resV, resL, res1, args, List.take_zero, List.drop_zero, List.take_nil, List.take_succ_cons, List.drop_succ_cons, Nat.reduceAdd, Nat.reduceLeDiff, reduceIte, Bool.not_true, Bool.not_false, Bool.false_eq_true, CA_some, Option.some.injEq, Nat.zero_add, Nat.mul_one, Nat.add_zero, setL, List.set_cons_zero, List.set_cons_succ, fillC]
/-- laws.eqByteS -/
def c50 : AF := ⟨2, 5, [.tmp 4], (.seq (.ops [.i (.mov 4 (.c (.val false [.bool false])))]) (.seq (.seq (.ops [.i (.mov 6 (.s 0)), .i (.len 7 false (.s 6)), .i (.mov 8 (.s 1)), .i (.len 9 false (.s 8)), .i (.bin 10 .neq (.s 7) (.s 9))]) (.cond (.s 10) (.seq (.ops [.i (.mov 4 (.c (.val false [.bool false])))]) .ret) .skip)) (.seq (.seq (.ops [.i (.mov 5 (.c (.val false [.int .i64 0])))]) (.block 0 (.loop [25, 24, 23, 22, 21, 20, 19, 18, 17, 16, 15, 14, 13, 12, 11] (.seq (.seq (.ops [.i (.mov 11 (.s 5)), .i (.mov 12 (.s 0)), .i (.len 13 false (.s 12)), .i (.bin 14 .lss (.s 11) (.s 13))]) (.cond (.s 14) .skip (.exit 0))) (.seq (.block 1 (.seq (.ops [.i (.mov 17 (.s 0)), .i (.mov 18 (.s 5)), .i (.iad 19 (.s 17) (.s 18) 1), .i (.ldh 20 (.s 19) 1 false), .i (.mov 21 (.s 1)), .i (.mov 22 (.s 5)), .i (.iad 23 (.s 21) (.s 22) 1), .i (.ldh 24 (.s 23) 1 false), .i (.bin 25 .neq (.s 20) (.s 24))]) (.cond (.s 25) (.seq (.ops [.i (.mov 4 (.c (.val false [.bool false])))]) .ret) .skip))) (.ops [.i (.mov 15 (.s 5)), .i (.bin 16 .add (.s 15) (.c (.val false [.int .i64 1]))), .i (.mov 5 (.s 16))])))))) (.seq (.ops [.i (.mov 4 (.c (.val false [.bool true])))]) .ret))))⟩
theorem k50 : cd 50 = some c50 := by kernel_rfl
theorem eq_ByteS : EqOk cd 50 (.sl (.int .u8)) := eq_leaf k50
/-- laws.eqRow -/
def c179 : AF := ⟨2, 5, [.tmp 4], (.seq (.ops [.i (.lbox 2 (.s 0)), .i (.lbox 3 (.s 1)), .i (.mov 4 (.c (.val false [.bool false])))]) (.seq (.seq (.ops [.i (.fad 5 (.s 2) 0), .i (.ldl 6 2 (.s 5) 1 false), .i (.fad 7 (.s 3) 0), .i (.ldl 8 3 (.s 7) 1 false), .i (.bin 9 .neq (.s 6) (.s 8))]) (.cond (.s 9) (.seq (.ops [.i (.mov 4 (.c (.val false [.bool false])))]) .ret) .skip)) (.seq (.seq (.ops [.i (.fad 10 (.s 2) 1), .i (.ldl 11 2 (.s 10) 1 false), .i (.fad 12 (.s 3) 1), .i (.ldl 13 3 (.s 12) 1 false), .i (.call 15 50 false [(.s 11), (.s 13)]), .i (.not 15 (.s 14))]) (.cond (.s 15) (.seq (.ops [.i (.mov 4 (.c (.val false [.bool false])))]) .ret) .skip)) (.seq (.ops [.i (.mov 4 (.c (.val false [.bool true])))]) .ret))))⟩
theorem k179 : cd 179 = some c179 := by kernel_rfl
theorem eq_Row : EqOk cd 179 TRow := by
  intro h ca cb va vb Sa Sb ha hb
  obtain ⟨avs, rfl, aq0⟩ := ha.st
  obtain ⟨av0, ar0, aS0, aT0, rfl, rfl, ah0, aq1⟩ := aq0.step
  obtain ⟨an0, ae0, rfl, rfl, alo0, ahi0⟩ := ah0.int
  obtain ⟨av1, ar1, aS1, aT1, rfl, rfl, ah1, aq2⟩ := aq1.step
  obtain ⟨ac1, ae1⟩ := ah1.one rfl
  rw [ae1] at ah1
  obtain ⟨_, rfl, rfl⟩ := aq2
  have ahsz : ca.length = 2 := ha.size
  obtain ⟨bvs, rfl, bq0⟩ := hb.st
  obtain ⟨bv0, br0, bS0, bT0, rfl, rfl, bh0, bq1⟩ := bq0.step
  obtain ⟨bn0, be0, rfl, rfl, blo0, bhi0⟩ := bh0.int
  obtain ⟨bv1, br1, bS1, bT1, rfl, rfl, bh1, bq2⟩ := bq1.step
  obtain ⟨bc1, be1⟩ := bh1.one rfl
  rw [be1] at bh1
  obtain ⟨_, rfl, rfl⟩ := bq2
  have bhsz : cb.length = 2 := hb.size
  simp only [Ty.size, Ty.sizes, Nat.reduceAdd, Nat.zero_add, List.drop_zero] at ae0 ae1 ahsz be0 be1 bhsz
  refine WS_enter k179 rfl ?_
  simp (disch := omega) only [KC_eq, c179, ae0, ae1, ahsz, be0, be1, bhsz, ifT, w64, RR, RP, Ty.agg, Ty.size, Ty.sizes, eq_self, ne_eq, not_true, not_false_iff, reduceCtorEq, List.length_cons, List.length_nil, decide_true, decide_false, true_and, and_true, ite_true, ite_false, PT.full, enter0, setAll, forget, Fr.set, Fr.get, PT.get, PT.set, kof, ai, ev, ev1, evp, b_add, b_sub, b_mul, b_quo, b_rem, b_eql, b_neq, b_lss, b_leq, b_gtr, b_geq, b_seql, b_sneq, setD, resV, resL, res1, args, List.take_zero, List.drop_zero, List.take_nil, List.take_succ_cons, List.drop_succ_cons, Nat.reduceAdd, Nat.reduceLeDiff, reduceIte, Bool.not_true, Bool.not_false, Bool.false_eq_true, CA_some, Option.some.injEq, Nat.zero_add, Nat.mul_one, Nat.add_zero, setL, List.set_cons_zero, List.set_cons_succ, fillC]
  refine BR_dec (fun hn => ?_) (fun hn => ?_)
  case refine_1 =>
    simp (disch := omega) only [KC_eq, c179, ae0, ae1, ahsz, be0, be1, bhsz, ifT, w64, RR, RP, Ty.agg, Ty.size, Ty.sizes, eq_self, ne_eq, not_true, not_false_iff, reduceCtorEq, List.length_cons, List.length_nil, decide_true, decide_false, true_and, and_true, ite_true, ite_false, PT.full, enter0, setAll, forget, Fr.set, Fr.get, PT.get, PT.set, kof, ai, ev, ev1, evp, b_add, b_sub, b_mul, b_quo, b_rem, b_eql, b_neq, b_lss, b_leq, b_gtr, b_geq, b_seql, b_sneq, setD, resV, resL, res1, args, List.take_zero, List.drop_zero, List.take_nil, List.take_succ_cons, List.drop_succ_cons, Nat.reduceAdd, Nat.reduceLeDiff, reduceIte, Bool.not_true, Bool.not_false, Bool.false_eq_true, CA_some, Option.some.injEq, Nat.zero_add, Nat.mul_one, Nat.add_zero, setL, List.set_cons_zero, List.set_cons_succ, fillC]
    simp [hn]
  have d0 : an0 = bn0 := by omega
  subst d0
  simp (disch := omega) only [KC_eq, c179, ae0, ae1, ahsz, be0, be1, bhsz, ifT, w64, RR, RP, Ty.agg, Ty.size, Ty.sizes, eq_self, ne_eq, not_true, not_false_iff, reduceCtorEq, List.length_cons, List.length_nil, decide_true, decide_false, true_and, and_true, ite_true, ite_false, PT.full, enter0, setAll, forget, Fr.set, Fr.get, PT.get, PT.set, kof, ai, ev, ev1, evp, b_add, b_sub, b_mul, b_quo, b_rem, b_eql, b_neq, b_lss, b_leq, b_gtr, b_geq, b_seql, b_sneq, setD, resV, resL, res1, args, List.take_zero, List.drop_zero, List.take_nil, List.take_succ_cons, List.drop_succ_cons, Nat.reduceAdd, Nat.reduceLeDiff, reduceIte, Bool.not_true, Bool.not_false, Bool.false_eq_true, CA_some, Option.some.injEq, Nat.zero_add, Nat.mul_one, Nat.add_zero, setL, List.set_cons_zero, List.set_cons_succ, fillC]
  refine EqOk.go eq_ByteS ah1 bh1 (fun d1 => ?_) (fun d1 => ?_)
  case refine_2 =>
    simp (disch := omega) only [KC_eq, c179, ae0, ae1, ahsz, be0, be1, bhsz, ifT, w64, RR, RP, Ty.agg, Ty.size, Ty.sizes, eq_self, ne_eq, not_true, not_false_iff, reduceCtorEq, List.length_cons, List.length_nil, decide_true, decide_false, true_and, and_true, ite_true, ite_false, PT.full, enter0, setAll, forget, Fr.set, Fr.get, PT.get, PT.set, kof, ai, ev, ev1, evp, b_add, b_sub, b_mul, b_quo, b_rem, b_eql, b_neq, b_lss, b_leq, b_gtr, b_geq, b_seql, b_sneq, setD, resV, resL, res1, args, List.take_zero, List.drop_zero, List.take_nil, List.take_succ_cons, List.drop_succ_cons, Nat.reduceAdd, Nat.reduceLeDiff, reduceIte, Bool.not_true, Bool.not_false, Bool.false_eq_true, CA_some, Option.some.injEq, Nat.zero_add, Nat.mul_one, Nat.add_zero, setL, List.set_cons_zero, List.set_cons_succ, fillC]
    simp [d1]
  subst d1
  simp (disch := omega) only [KC_eq, c179, ae0, ae1, ahsz, be0, be1, bhsz, ifT, w64, RR, RP, Ty.agg, Ty.size, Ty.sizes, eq_self, ne_eq, not_true, not_false_iff, reduceCtorEq, List.length_cons, List.length_nil, decide_true, decide_false, true_and, and_true, ite_true, ite_false, PT.full, enter0, setAll, forget, Fr.set, Fr.get, PT.get, PT.set, kof, ai, ev, ev1, evp, b_add, b_sub, b_mul, b_quo, b_rem, b_eql, b_neq, b_lss, b_leq, b_gtr, b_geq, b_seql, b_sneq, setD, resV, resL, res1, args, List.take_zero, List.drop_zero, List.take_nil, List.take_succ_cons, List.drop_succ_cons, Nat.reduceAdd, Nat.reduceLeDiff, reduceIte, Bool.not_true, Bool.not_false, Bool.false_eq_true, CA_some, Option.some.injEq, Nat.zero_add, Nat.mul_one, Nat.add_zero, setL, List.set_cons_zero, List.set_cons_succ, fillC]
/-- laws.eqRowS -/
def c155 : AF := ⟨2, 5, [.tmp 4], (.seq (.ops [.i (.mov 4 (.c (.val false [.bool false])))]) (.seq (.seq (.ops [.i (.mov 6 (.s 0)), .i (.len 7 false (.s 6)), .i (.mov 8 (.s 1)), .i (.len 9 false (.s 8)), .i (.bin 10 .neq (.s 7) (.s 9))]) (.cond (.s 10) (.seq (.ops [.i (.mov 4 (.c (.val false [.bool false])))]) .ret) .skip)) (.seq (.seq (.ops [.i (.mov 5 (.c (.val false [.int .i64 0])))]) (.block 0 (.loop [26, 25, 24, 23, 22, 21, 20, 19, 18, 17, 16, 15, 14, 13, 12, 11] (.seq (.seq (.ops [.i (.mov 11 (.s 5)), .i (.mov 12 (.s 0)), .i (.len 13 false (.s 12)), .i (.bin 14 .lss (.s 11) (.s 13))]) (.cond (.s 14) .skip (.exit 0))) (.seq (.block 1 (.seq (.ops [.i (.mov 17 (.s 0)), .i (.mov 18 (.s 5)), .i (.iad 19 (.s 17) (.s 18) 2), .i (.ldh 20 (.s 19) 2 true), .i (.mov 21 (.s 1)), .i (.mov 22 (.s 5)), .i (.iad 23 (.s 21) (.s 22) 2), .i (.ldh 24 (.s 23) 2 true), .i (.call 26 179 false [(.s 20), (.s 24)]), .i (.not 26 (.s 25))]) (.cond (.s 26) (.seq (.ops [.i (.mov 4 (.c (.val false [.bool false])))]) .ret) .skip))) (.ops [.i (.mov 15 (.s 5)), .i (.bin 16 .add (.s 15) (.c (.val false [.int .i64 1]))), .i (.mov 5 (.s 16))])))))) (.seq (.ops [.i (.mov 4 (.c (.val false [.bool true])))]) .ret))))⟩
theorem k155 : cd 155 = some c155 := by kernel_rfl
theorem eq_RowS : EqOk cd 155 (.sl TRow) := eq_sl k155 eq_Row
/-- laws.eqTable -/
def c110 : AF := ⟨2, 4, [.tmp 4], (.seq (.ops [.i (.lbox 2 (.s 0)), .i (.lbox 3 (.s 1)), .i (.mov 4 (.c (.val false [.bool false])))]) (.seq (.seq (.ops [.i (.fad 5 (.s 2) 0), .i (.ldl 6 2 (.s 5) 1 false), .i (.fad 7 (.s 3) 0), .i (.ldl 8 3 (.s 7) 1 false), .i (.call 10 155 false [(.s 6), (.s 8)]), .i (.not 10 (.s 9))]) (.cond (.s 10) (.seq (.ops [.i (.mov 4 (.c (.val false [.bool false])))]) .ret) .skip)) (.seq (.ops [.i (.mov 4 (.c (.val false [.bool true])))]) .ret)))⟩
theorem k110 : cd 110 = some c110 := by kernel_rfl
theorem eq_Table : EqOk cd 110 TTable := by
  intro h ca cb va vb Sa Sb ha hb
  obtain ⟨avs, rfl, aq0⟩ := ha.st
  obtain ⟨av0, ar0, aS0, aT0, rfl, rfl, ah0, aq1⟩ := aq0.step
  obtain ⟨ac0, ae0⟩ := ah0.one rfl
  rw [ae0] at ah0
  obtain ⟨_, rfl, rfl⟩ := aq1
  have ahsz : ca.length = 1 := ha.size
  obtain ⟨bvs, rfl, bq0⟩ := hb.st
  obtain ⟨bv0, br0, bS0, bT0, rfl, rfl, bh0, bq1⟩ := bq0.step
  obtain ⟨bc0, be0⟩ := bh0.one rfl
  rw [be0] at bh0
  obtain ⟨_, rfl, rfl⟩ := bq1
  have bhsz : cb.length = 1 := hb.size
  simp only [Ty.size, Ty.sizes, Nat.reduceAdd, Nat.zero_add, List.drop_zero] at ae0 ahsz be0 bhsz
  refine WS_enter k110 rfl ?_
  simp (disch := omega) only [KC_eq, c110, ae0, ahsz, be0, bhsz, ifT, w64, RR, RP, Ty.agg, Ty.size, Ty.sizes, eq_self, ne_eq, not_true, not_false_iff, reduceCtorEq, List.length_cons, List.length_nil, decide_true, decide_false, true_and, and_true, ite_true, ite_false, PT.full, enter0, setAll, forget, Fr.set, Fr.get, PT.get, PT.set, kof, ai, ev, ev1, evp, b_add, b_sub, b_mul, b_quo, b_rem, b_eql, b_neq, b_lss, b_leq, b_gtr, b_geq, b_seql, b_sneq, setD, resV, resL, res1, args, List.take_zero, List.drop_zero, List.take_nil, List.take_succ_cons, List.drop_succ_cons, Nat.reduceAdd, Nat.reduceLeDiff, reduceIte, Bool.not_true, Bool.not_false, Bool.false_eq_true, CA_some, Option.some.injEq, Nat.zero_add, Nat.mul_one, Nat.add_zero, setL, List.set_cons_zero, List.set_cons_succ, fillC]
  refine EqOk.go eq_RowS ah0 bh0 (fun d0 => ?_) (fun d0 => ?_)
  case refine_2 =>
    simp (disch := omega) only [KC_eq, c110, ae0, ahsz, be0, bhsz, ifT, w64, RR, RP, Ty.agg, Ty.size, Ty.sizes, eq_self, ne_eq, not_true, not_false_iff, reduceCtorEq, List.length_cons, List.length_nil, decide_true, decide_false, true_and, and_true, ite_true, ite_false, PT.full, enter0, setAll, forget, Fr.set, Fr.get, PT.get, PT.set, kof, ai, ev, ev1, evp, b_add, b_sub, b_mul, b_quo, b_rem, b_eql, b_neq, b_lss, b_leq, b_gtr, b_geq, b_seql, b_sneq, setD, resV, resL, res1, args, List.take_zero, List.drop_zero, List.take_nil, List.take_succ_cons, List.drop_succ_cons, Nat.reduceAdd, Nat.reduceLeDiff, reduceIte, Bool.not_true, Bool.not_false, Bool.false_eq_true, CA_some, Option.some.injEq, Nat.zero_add, Nat.mul_one, Nat.add_zero, setL, List.set_cons_zero, List.set_cons_succ, fillC]
    simp [d0]
  subst d0
  simp (disch := omega) only [KC_eq, c110, ae0, ahsz, be0, bhsz, ifT, w64, RR, RP, Ty.agg, Ty.size, Ty.sizes, eq_self, ne_eq, not_true, not_false_iff, reduceCtorEq, List.length_cons, List.length_nil, decide_true, decide_false, true_and, and_true, ite_true, ite_false, PT.full, enter0, setAll, forget, Fr.set, Fr.get, PT.get, PT.set, kof, ai, ev, ev1, evp, b_add, b_sub, b_mul, b_quo, b_rem, b_eql, b_neq, b_lss, b_leq, b_gtr, b_geq, b_seql, b_sneq, setD, resV, resL, res1, args, List.take_zero, List.drop_zero, List.take_nil, List.take_succ_cons, List.drop_succ_cons, Nat.reduceAdd, Nat.reduceLeDiff, reduceIte, Bool.not_true, Bool.not_false, Bool.false_eq_true, CA_some, Option.some.injEq, Nat.zero_add, Nat.mul_one, Nat.add_zero, setL, List.set_cons_zero, List.set_cons_succ, fillC]
/-- laws.eqPush -/
def c156 : AF := ⟨2, 5, [.tmp 4], (.seq (.ops [.i (.lbox 2 (.s 0)), .i (.lbox 3 (.s 1)), .i (.mov 4 (.c (.val false [.bool false])))]) (.seq (.seq (.ops [.i (.fad 5 (.s 2) 0), .i (.ldl 6 2 (.s 5) 1 false), .i (.fad 7 (.s 3) 0), .i (.ldl 8 3 (.s 7) 1 false), .i (.bin 9 .neq (.s 6) (.s 8))]) (.cond (.s 9) (.seq (.ops [.i (.mov 4 (.c (.val false [.bool false])))]) .ret) .skip)) (.seq (.seq (.ops [.i (.fad 10 (.s 2) 1), .i (.ldl 11 2 (.s 10) 1 false), .i (.fad 12 (.s 3) 1), .i (.ldl 13 3 (.s 12) 1 false), .i (.call 15 50 false [(.s 11), (.s 13)]), .i (.not 15 (.s 14))]) (.cond (.s 15) (.seq (.ops [.i (.mov 4 (.c (.val false [.bool false])))]) .ret) .skip)) (.seq (.ops [.i (.mov 4 (.c (.val false [.bool true])))]) .ret))))⟩
theorem k156 : cd 156 = some c156 := by kernel_rfl
theorem eq_Push : EqOk cd 156 TPush := by
  intro h ca cb va vb Sa Sb ha hb
  obtain ⟨avs, rfl, aq0⟩ := ha.st
  obtain ⟨av0, ar0, aS0, aT0, rfl, rfl, ah0, aq1⟩ := aq0.step
  obtain ⟨an0, ae0, rfl, rfl, alo0, ahi0⟩ := ah0.int
  obtain ⟨av1, ar1, aS1, aT1, rfl, rfl, ah1, aq2⟩ := aq1.step
  obtain ⟨ac1, ae1⟩ := ah1.one rfl
  rw [ae1] at ah1
  obtain ⟨_, rfl, rfl⟩ := aq2
  have ahsz : ca.length = 2 := ha.size
  obtain ⟨bvs, rfl, bq0⟩ := hb.st
  obtain ⟨bv0, br0, bS0, bT0, rfl, rfl, bh0, bq1⟩ := bq0.step
  obtain ⟨bn0, be0, rfl, rfl, blo0, bhi0⟩ := bh0.int
  obtain ⟨bv1, br1, bS1, bT1, rfl, rfl, bh1, bq2⟩ := bq1.step
  obtain ⟨bc1, be1⟩ := bh1.one rfl
  rw [be1] at bh1
  obtain ⟨_, rfl, rfl⟩ := bq2
  have bhsz : cb.length = 2 := hb.size
  simp only [Ty.size, Ty.sizes, Nat.reduceAdd, Nat.zero_add, List.drop_zero] at ae0 ae1 ahsz be0 be1 bhsz
  refine WS_enter k156 rfl ?_
  simp (disch := omega) only [KC_eq, c156, ae0, ae1, ahsz, be0, be1, bhsz, ifT, w64, RR, RP, Ty.agg, Ty.size, Ty.sizes, eq_self, ne_eq, not_true, not_false_iff, reduceCtorEq, List.length_cons, List.length_nil, decide_true, decide_false, true_and, and_true, ite_true, ite_false, PT.full, enter0, setAll, forget, Fr.set, Fr.get, PT.get, PT.set, kof, ai, ev, ev1, evp, b_add, b_sub, b_mul, b_quo, b_rem, b_eql, b_neq, b_lss, b_leq, b_gtr, b_geq, b_seql, b_sneq, setD, resV, resL, res1, args, List.take_zero, List.drop_zero, List.take_nil, List.take_succ_cons, List.drop_succ_cons, Nat.reduceAdd, Nat.reduceLeDiff, reduceIte, Bool.not_true, Bool.not_false, Bool.false_eq_true, CA_some, Option.some.injEq, Nat.zero_add, Nat.mul_one, Nat.add_zero, setL, List.set_cons_zero, List.set_cons_succ, fillC]
  refine BR_dec (fun hn => ?_) (fun hn => ?_)
  case refine_1 =>
    simp (disch := omega) only [KC_eq, c156, ae0, ae1, ahsz, be0, be1, bhsz, ifT, w64, RR, RP, Ty.agg, Ty.size, Ty.sizes, eq_self, ne_eq, not_true, not_false_iff, reduceCtorEq, List.length_cons, List.length_nil, decide_true, decide_false, true_and, and_true, ite_true, ite_false, PT.full, enter0, setAll, forget, Fr.set, Fr.get, PT.get, PT.set, kof, ai, ev, ev1, evp, b_add, b_sub, b_mul, b_quo, b_rem, b_eql, b_neq, b_lss, b_leq, b_gtr, b_geq, b_seql, b_sneq, setD, resV, resL, res1, args, List.take_zero, List.drop_zero, List.take_nil, List.take_succ_cons, List.drop_succ_cons, Nat.reduceAdd, Nat.reduceLeDiff, reduceIte, Bool.not_true, Bool.not_false, Bool.false_eq_true, CA_some, Option.some.injEq, Nat.zero_add, Nat.mul_one, Nat.add_zero, setL, List.set_cons_zero, List.set_cons_succ, fillC]
    simp [hn]
  have d0 : an0 = bn0 := by omega
  subst d0
  simp (disch := omega) only [KC_eq, c156, ae0, ae1, ahsz, be0, be1, bhsz, ifT, w64, RR, RP, Ty.agg, Ty.size, Ty.sizes, eq_self, ne_eq, not_true, not_false_iff, reduceCtorEq, List.length_cons, List.length_nil, decide_true, decide_false, true_and, and_true, ite_true, ite_false, PT.full, enter0, setAll, forget, Fr.set, Fr.get, PT.get, PT.set, kof, ai, ev, ev1, evp, b_add, b_sub, b_mul, b_quo, b_rem, b_eql, b_neq, b_lss, b_leq, b_gtr, b_geq, b_seql, b_sneq, setD, resV, resL, res1, args, List.take_zero, List.drop_zero, List.take_nil, List.take_succ_cons, List.drop_succ_cons, Nat.reduceAdd, Nat.reduceLeDiff, reduceIte, Bool.not_true, Bool.not_false, Bool.false_eq_true, CA_some, Option.some.injEq, Nat.zero_add, Nat.mul_one, Nat.add_zero, setL, List.set_cons_zero, List.set_cons_succ, fillC]
  refine EqOk.go eq_ByteS ah1 bh1 (fun d1 => ?_) (fun d1 => ?_)
  case refine_2 =>
    simp (disch := omega) only [KC_eq, c156, ae0, ae1, ahsz, be0, be1, bhsz, ifT, w64, RR, RP, Ty.agg, Ty.size, Ty.sizes, eq_self, ne_eq, not_true, not_false_iff, reduceCtorEq, List.length_cons, List.length_nil, decide_true, decide_false, true_and, and_true, ite_true, ite_false, PT.full, enter0, setAll, forget, Fr.set, Fr.get, PT.get, PT.set, kof, ai, ev, ev1, evp, b_add, b_sub, b_mul, b_quo, b_rem, b_eql, b_neq, b_lss, b_leq, b_gtr, b_geq, b_seql, b_sneq, setD, resV, resL, res1, args, List.take_zero, List.drop_zero, List.take_nil, List.take_succ_cons, List.drop_succ_cons, Nat.reduceAdd, Nat.reduceLeDiff, reduceIte, Bool.not_true, Bool.not_false, Bool.false_eq_true, CA_some, Option.some.injEq, Nat.zero_add, Nat.mul_one, Nat.add_zero, setL, List.set_cons_zero, List.set_cons_succ, fillC]
    simp [d1]
  subst d1
  simp (disch := omega) only [KC_eq, c156, ae0, ae1, ahsz, be0, be1, bhsz, ifT, w64, RR, RP, Ty.agg, Ty.size, Ty.sizes, eq_self, ne_eq, not_true, not_false_iff, reduceCtorEq, List.length_cons, List.length_nil, decide_true, decide_false, true_and, and_true, ite_true, ite_false, PT.full, enter0, setAll, forget, Fr.set, Fr.get, PT.get, PT.set, kof, ai, ev, ev1, evp, b_add, b_sub, b_mul, b_quo, b_rem, b_eql, b_neq, b_lss, b_leq, b_gtr, b_geq, b_seql, b_sneq, setD, resV, resL, res1, args, List.take_zero, List.drop_zero, List.take_nil, List.take_succ_cons, List.drop_succ_cons, Nat.reduceAdd, Nat.reduceLeDiff, reduceIte, Bool.not_true, Bool.not_false, Bool.false_eq_true, CA_some, Option.some.injEq, Nat.zero_add, Nat.mul_one, Nat.add_zero, setL, List.set_cons_zero, List.set_cons_succ, fillC]
/-- laws.eqByteSS -/
def c29 : AF := ⟨2, 5, [.tmp 4], (.seq (.ops [.i (.mov 4 (.c (.val false [.bool false])))]) (.seq (.seq (.ops [.i (.mov 6 (.s 0)), .i (.len 7 false (.s 6)), .i (.mov 8 (.s 1)), .i (.len 9 false (.s 8)), .i (.bin 10 .neq (.s 7) (.s 9))]) (.cond (.s 10) (.seq (.ops [.i (.mov 4 (.c (.val false [.bool false])))]) .ret) .skip)) (.seq (.seq (.ops [.i (.mov 5 (.c (.val false [.int .i64 0])))]) (.block 0 (.loop [26, 25, 24, 23, 22, 21, 20, 19, 18, 17, 16, 15, 14, 13, 12, 11] (.seq (.seq (.ops [.i (.mov 11 (.s 5)), .i (.mov 12 (.s 0)), .i (.len 13 false (.s 12)), .i (.bin 14 .lss (.s 11) (.s 13))]) (.cond (.s 14) .skip (.exit 0))) (.seq (.block 1 (.seq (.ops [.i (.mov 17 (.s 0)), .i (.mov 18 (.s 5)), .i (.iad 19 (.s 17) (.s 18) 1), .i (.ldh 20 (.s 19) 1 false), .i (.mov 21 (.s 1)), .i (.mov 22 (.s 5)), .i (.iad 23 (.s 21) (.s 22) 1), .i (.ldh 24 (.s 23) 1 false), .i (.call 26 50 false [(.s 20), (.s 24)]), .i (.not 26 (.s 25))]) (.cond (.s 26) (.seq (.ops [.i (.mov 4 (.c (.val false [.bool false])))]) .ret) .skip))) (.ops [.i (.mov 15 (.s 5)), .i (.bin 16 .add (.s 15) (.c (.val false [.int .i64 1]))), .i (.mov 5 (.s 16))])))))) (.seq (.ops [.i (.mov 4 (.c (.val false [.bool true])))]) .ret))))⟩
theorem k29 : cd 29 = some c29 := by kernel_rfl
theorem eq_ByteSS : EqOk cd 29 (.sl (.sl (.int .u8))) := eq_sl k29 eq_ByteS
/-- laws.eqQc -/
def c69 : AF := ⟨2, 6, [.tmp 4], (.seq (.ops [.i (.lbox 2 (.s 0)), .i (.lbox 3 (.s 1)), .i (.mov 4 (.c (.val false [.bool false])))]) (.seq (.seq (.ops [.i (.fad 5 (.s 2) 0), .i (.ldl 6 2 (.s 5) 1 false), .i (.fad 7 (.s 3) 0), .i (.ldl 8 3 (.s 7) 1 false), .i (.bin 9 .neq (.s 6) (.s 8))]) (.cond (.s 9) (.seq (.ops [.i (.mov 4 (.c (.val false [.bool false])))]) .ret) .skip)) (.seq (.seq (.ops [.i (.fad 10 (.s 2) 1), .i (.ldl 11 2 (.s 10) 1 false), .i (.fad 12 (.s 3) 1), .i (.ldl 13 3 (.s 12) 1 false), .i (.bin 14 .neq (.s 11) (.s 13))]) (.cond (.s 14) (.seq (.ops [.i (.mov 4 (.c (.val false [.bool false])))]) .ret) .skip)) (.seq (.seq (.ops [.i (.fad 15 (.s 2) 2), .i (.ldl 16 2 (.s 15) 1 false), .i (.fad 17 (.s 3) 2), .i (.ldl 18 3 (.s 17) 1 false), .i (.call 20 50 false [(.s 16), (.s 18)]), .i (.not 20 (.s 19))]) (.cond (.s 20) (.seq (.ops [.i (.mov 4 (.c (.val false [.bool false])))]) .ret) .skip)) (.seq (.seq (.ops [.i (.fad 21 (.s 2) 3), .i (.ldl 22 2 (.s 21) 1 false), .i (.fad 23 (.s 3) 3), .i (.ldl 24 3 (.s 23) 1 false), .i (.call 26 50 false [(.s 22), (.s 24)]), .i (.not 26 (.s 25))]) (.cond (.s 26) (.seq (.ops [.i (.mov 4 (.c (.val false [.bool false])))]) .ret) .skip)) (.seq (.seq (.ops [.i (.fad 27 (.s 2) 4), .i (.ldl 28 2 (.s 27) 1 false), .i (.fad 29 (.s 3) 4), .i (.ldl 30 3 (.s 29) 1 false), .i (.call 32 29 false [(.s 28), (.s 30)]), .i (.not 32 (.s 31))]) (.cond (.s 32) (.seq (.ops [.i (.mov 4 (.c (.val false [.bool false])))]) .ret) .skip)) (.seq (.ops [.i (.mov 4 (.c (.val false [.bool true])))]) .ret)))))))⟩
theorem k69 : cd 69 = some c69 := by kernel_rfl
theorem eq_Qc : EqOk cd 69 TQc := by
  intro h ca cb va vb Sa Sb ha hb
  obtain ⟨avs, rfl, aq0⟩ := ha.st
  obtain ⟨av0, ar0, aS0, aT0, rfl, rfl, ah0, aq1⟩ := aq0.step
  obtain ⟨an0, ae0, rfl, rfl, alo0, ahi0⟩ := ah0.int
  obtain ⟨av1, ar1, aS1, aT1, rfl, rfl, ah1, aq2⟩ := aq1.step
  obtain ⟨an1, ae1, rfl, rfl, alo1, ahi1⟩ := ah1.int
  obtain ⟨av2, ar2, aS2, aT2, rfl, rfl, ah2, aq3⟩ := aq2.step
  obtain ⟨ac2, ae2⟩ := ah2.one rfl
  rw [ae2] at ah2
  obtain ⟨av3, ar3, aS3, aT3, rfl, rfl, ah3, aq4⟩ := aq3.step
  obtain ⟨ac3, ae3⟩ := ah3.one rfl
  rw [ae3] at ah3
  obtain ⟨av4, ar4, aS4, aT4, rfl, rfl, ah4, aq5⟩ := aq4.step
  obtain ⟨ac4, ae4⟩ := ah4.one rfl
  rw [ae4] at ah4
  obtain ⟨_, rfl, rfl⟩ := aq5
  have ahsz : ca.length = 5 := ha.size
  obtain ⟨bvs, rfl, bq0⟩ := hb.st
  obtain ⟨bv0, br0, bS0, bT0, rfl, rfl, bh0, bq1⟩ := bq0.step
  obtain ⟨bn0, be0, rfl, rfl, blo0, bhi0⟩ := bh0.int
  obtain ⟨bv1, br1, bS1, bT1, rfl, rfl, bh1, bq2⟩ := bq1.step
  obtain ⟨bn1, be1, rfl, rfl, blo1, bhi1⟩ := bh1.int
  obtain ⟨bv2, br2, bS2, bT2, rfl, rfl, bh2, bq3⟩ := bq2.step
  obtain ⟨bc2, be2⟩ := bh2.one rfl
  rw [be2] at bh2
  obtain ⟨bv3, br3, bS3, bT3, rfl, rfl, bh3, bq4⟩ := bq3.step
  obtain ⟨bc3, be3⟩ := bh3.one rfl
  rw [be3] at bh3
  obtain ⟨bv4, br4, bS4, bT4, rfl, rfl, bh4, bq5⟩ := bq4.step
  obtain ⟨bc4, be4⟩ := bh4.one rfl
  rw [be4] at bh4
  obtain ⟨_, rfl, rfl⟩ := bq5
  have bhsz : cb.length = 5 := hb.size
  simp only [Ty.size, Ty.sizes, Nat.reduceAdd, Nat.zero_add, List.drop_zero] at ae0 ae1 ae2 ae3 ae4 ahsz be0 be1 be2 be3 be4 bhsz
  refine WS_enter k69 rfl ?_
  simp (disch := omega) only [KC_eq, c69, ae0, ae1, ae2, ae3, ae4, ahsz, be0, be1, be2, be3, be4, bhsz, ifT, w64, RR, RP, Ty.agg, Ty.size, Ty.sizes, eq_self, ne_eq, not_true, not_false_iff, reduceCtorEq, List.length_cons, List.length_nil, decide_true, decide_false, true_and, and_true, ite_true, ite_false, PT.full, enter0, setAll, forget, Fr.set, Fr.get, PT.get, PT.set, kof, ai, ev, ev1, evp, b_add, b_sub, b_mul, b_quo, b_rem, b_eql, b_neq, b_lss, b_leq, b_gtr, b_geq, b_seql, b_sneq, setD, resV, resL, res1, args, List.take_zero, List.drop_zero, List.take_nil, List.take_succ_cons, List.drop_succ_cons, Nat.reduceAdd, Nat.reduceLeDiff, reduceIte, Bool.not_true, Bool.not_false, Bool.false_eq_true, CA_some, Option.some.injEq, Nat.zero_add, Nat.mul_one, Nat.add_zero, setL, List.set_cons_zero, List.set_cons_succ, fillC]
  refine BR_dec (fun hn => ?_) (fun hn => ?_)
  case refine_1 =>
    simp (disch := omega) only [KC_eq, c69, ae0, ae1, ae2, ae3, ae4, ahsz, be0, be1, be2, be3, be4, bhsz, ifT, w64, RR, RP, Ty.agg, Ty.size, Ty.sizes, eq_self, ne_eq, not_true, not_false_iff, reduceCtorEq, List.length_cons, List.length_nil, decide_true, decide_false, true_and, and_true, ite_true, ite_false, PT.full, enter0, setAll, forget, Fr.set, Fr.get, PT.get, PT.set, kof, ai, ev, ev1, evp, b_add, b_sub, b_mul, b_quo, b_rem, b_eql, b_neq, b_lss, b_leq, b_gtr, b_geq, b_seql, b_sneq, setD, resV, resL, res1, args, List.take_zero, List.drop_zero, List.take_nil, List.take_succ_cons, List.drop_succ_cons, Nat.reduceAdd, Nat.reduceLeDiff, reduceIte, Bool.not_true, Bool.not_false, Bool.false_eq_true, CA_some, Option.some.injEq, Nat.zero_add, Nat.mul_one, Nat.add_zero, setL, List.set_cons_zero, List.set_cons_succ, fillC]
    simp [hn]
  have d0 : an0 = bn0 := by omega
  subst d0
  simp (disch := omega) only [KC_eq, c69, ae0, ae1, ae2, ae3, ae4, ahsz, be0, be1, be2, be3, be4, bhsz, ifT, w64, RR, RP, Ty.agg, Ty.size, Ty.sizes, eq_self, ne_eq, not_true, not_false_iff, reduceCtorEq, List.length_cons, List.length_nil, decide_true, decide_false, true_and, and_true, ite_true, ite_false, PT.full, enter0, setAll, forget, Fr.set, Fr.get, PT.get, PT.set, kof, ai, ev, ev1, evp, b_add, b_sub, b_mul, b_quo, b_rem, b_eql, b_neq, b_lss, b_leq, b_gtr, b_geq, b_seql, b_sneq, setD, resV, resL, res1, args, List.take_zero, List.drop_zero, List.take_nil, List.take_succ_cons, List.drop_succ_cons, Nat.reduceAdd, Nat.reduceLeDiff, reduceIte, Bool.not_true, Bool.not_false, Bool.false_eq_true, CA_some, Option.some.injEq, Nat.zero_add, Nat.mul_one, Nat.add_zero, setL, List.set_cons_zero, List.set_cons_succ, fillC]
  refine BR_dec (fun hn => ?_) (fun hn => ?_)
  case refine_1 =>
    simp (disch := omega) only [KC_eq, c69, ae0, ae1, ae2, ae3, ae4, ahsz, be0, be1, be2, be3, be4, bhsz, ifT, w64, RR, RP, Ty.agg, Ty.size, Ty.sizes, eq_self, ne_eq, not_true, not_false_iff, reduceCtorEq, List.length_cons, List.length_nil, decide_true, decide_false, true_and, and_true, ite_true, ite_false, PT.full, enter0, setAll, forget, Fr.set, Fr.get, PT.get, PT.set, kof, ai, ev, ev1, evp, b_add, b_sub, b_mul, b_quo, b_rem, b_eql, b_neq, b_lss, b_leq, b_gtr, b_geq, b_seql, b_sneq, setD, resV, resL, res1, args, List.take_zero, List.drop_zero, List.take_nil, List.take_succ_cons, List.drop_succ_cons, Nat.reduceAdd, Nat.reduceLeDiff, reduceIte, Bool.not_true, Bool.not_false, Bool.false_eq_true, CA_some, Option.some.injEq, Nat.zero_add, Nat.mul_one, Nat.add_zero, setL, List.set_cons_zero, List.set_cons_succ, fillC]
    simp [hn]
  have d1 : an1 = bn1 := by omega
  subst d1
  simp (disch := omega) only [KC_eq, c69, ae0, ae1, ae2, ae3, ae4, ahsz, be0, be1, be2, be3, be4, bhsz, ifT, w64, RR, RP, Ty.agg, Ty.size, Ty.sizes, eq_self, ne_eq, not_true, not_false_iff, reduceCtorEq, List.length_cons, List.length_nil, decide_true, decide_false, true_and, and_true, ite_true, ite_false, PT.full, enter0, setAll, forget, Fr.set, Fr.get, PT.get, PT.set, kof, ai, ev, ev1, evp, b_add, b_sub, b_mul, b_quo, b_rem, b_eql, b_neq, b_lss, b_leq, b_gtr, b_geq, b_seql, b_sneq, setD, resV, resL, res1, args, List.take_zero, List.drop_zero, List.take_nil, List.take_succ_cons, List.drop_succ_cons, Nat.reduceAdd, Nat.reduceLeDiff, reduceIte, Bool.not_true, Bool.not_false, Bool.false_eq_true, CA_some, Option.some.injEq, Nat.zero_add, Nat.mul_one, Nat.add_zero, setL, List.set_cons_zero, List.set_cons_succ, fillC]
  refine EqOk.go eq_ByteS ah2 bh2 (fun d2 => ?_) (fun d2 => ?_)
  case refine_2 =>
    simp (disch := omega) only [KC_eq, c69, ae0, ae1, ae2, ae3, ae4, ahsz, be0, be1, be2, be3, be4, bhsz, ifT, w64, RR, RP, Ty.agg, Ty.size, Ty.sizes, eq_self, ne_eq, not_true, not_false_iff, reduceCtorEq, List.length_cons, List.length_nil, decide_true, decide_false, true_and, and_true, ite_true, ite_false, PT.full, enter0, setAll, forget, Fr.set, Fr.get, PT.get, PT.set, kof, ai, ev, ev1, evp, b_add, b_sub, b_mul, b_quo, b_rem, b_eql, b_neq, b_lss, b_leq, b_gtr, b_geq, b_seql, b_sneq, setD, resV, resL, res1, args, List.take_zero, List.drop_zero, List.take_nil, List.take_succ_cons, List.drop_succ_cons, Nat.reduceAdd, Nat.reduceLeDiff, reduceIte, Bool.not_true, Bool.not_false, Bool.false_eq_true, CA_some, Option.some.injEq, Nat.zero_add, Nat.mul_one, Nat.add_zero, setL, List.set_cons_zero, List.set_cons_succ, fillC]
    simp [d2]
  subst d2
  simp (disch := omega) only [KC_eq, c69, ae0, ae1, ae2, ae3, ae4, ahsz, be0, be1, be2, be3, be4, bhsz, ifT, w64, RR, RP, Ty.agg, Ty.size, Ty.sizes, eq_self, ne_eq, not_true, not_false_iff, reduceCtorEq, List.length_cons, List.length_nil, decide_true, decide_false, true_and, and_true, ite_true, ite_false, PT.full, enter0, setAll, forget, Fr.set, Fr.get, PT.get, PT.set, kof, ai, ev, ev1, evp, b_add, b_sub, b_mul, b_quo, b_rem, b_eql, b_neq, b_lss, b_leq, b_gtr, b_geq, b_seql, b_sneq, setD, resV, resL, res1, args, List.take_zero, List.drop_zero, List.take_nil, List.take_succ_cons, List.drop_succ_cons, Nat.reduceAdd, Nat.reduceLeDiff, reduceIte, Bool.not_true, Bool.not_false, Bool.false_eq_true, CA_some, Option.some.injEq, Nat.zero_add, Nat.mul_one, Nat.add_zero, setL, List.set_cons_zero, List.set_cons_succ, fillC]
  refine EqOk.go eq_ByteS ah3 bh3 (fun d3 => ?_) (fun d3 => ?_)
  case refine_2 =>
    simp (disch := omega) only [KC_eq, c69, ae0, ae1, ae2, ae3, ae4, ahsz, be0, be1, be2, be3, be4, bhsz, ifT, w64, RR, RP, Ty.agg, Ty.size, Ty.sizes, eq_self, ne_eq, not_true, not_false_iff, reduceCtorEq, List.length_cons, List.length_nil, decide_true, decide_false, true_and, and_true, ite_true, ite_false, PT.full, enter0, setAll, forget, Fr.set, Fr.get, PT.get, PT.set, kof, ai, ev, ev1, evp, b_add, b_sub, b_mul, b_quo, b_rem, b_eql, b_neq, b_lss, b_leq, b_gtr, b_geq, b_seql, b_sneq, setD, resV, resL, res1, args, List.take_zero, List.drop_zero, List.take_nil, List.take_succ_cons, List.drop_succ_cons, Nat.reduceAdd, Nat.reduceLeDiff, reduceIte, Bool.not_true, Bool.not_false, Bool.false_eq_true, CA_some, Option.some.injEq, Nat.zero_add, Nat.mul_one, Nat.add_zero, setL, List.set_cons_zero, List.set_cons_succ, fillC]
    simp [d3]
  subst d3
  simp (disch := omega) only [KC_eq, c69, ae0, ae1, ae2, ae3, ae4, ahsz, be0, be1, be2, be3, be4, bhsz, ifT, w64, RR, RP, Ty.agg, Ty.size, Ty.sizes, eq_self, ne_eq, not_true, not_false_iff, reduceCtorEq, List.length_cons, List.length_nil, decide_true, decide_false, true_and, and_true, ite_true, ite_false, PT.full, enter0, setAll, forget, Fr.set, Fr.get, PT.get, PT.set, kof, ai, ev, ev1, evp, b_add, b_sub, b_mul, b_quo, b_rem, b_eql, b_neq, b_lss, b_leq, b_gtr, b_geq, b_seql, b_sneq, setD, resV, resL, res1, args, List.take_zero, List.drop_zero, List.take_nil, List.take_succ_cons, List.drop_succ_cons, Nat.reduceAdd, Nat.reduceLeDiff, reduceIte, Bool.not_true, Bool.not_false, Bool.false_eq_true, CA_some, Option.some.injEq, Nat.zero_add, Nat.mul_one, Nat.add_zero, setL, List.set_cons_zero, List.set_cons_succ, fillC]
  refine EqOk.go eq_ByteSS ah4 bh4 (fun d4 => ?_) (fun d4 => ?_)
  case refine_2 =>
    simp (disch := omega) only [KC_eq, c69, ae0, ae1, ae2, ae3, ae4, ahsz, be0, be1, be2, be3, be4, bhsz, ifT, w64, RR, RP, Ty.agg, Ty.size, Ty.sizes, eq_self, ne_eq, not_true, not_false_iff, reduceCtorEq, List.length_cons, List.length_nil, decide_true, decide_false, true_and, and_true, ite_true, ite_false, PT.full, enter0, setAll, forget, Fr.set, Fr.get, PT.get, PT.set, kof, ai, ev, ev1, evp, b_add, b_sub, b_mul, b_quo, b_rem, b_eql, b_neq, b_lss, b_leq, b_gtr, b_geq, b_seql, b_sneq, setD, resV, resL, res1, args, List.take_zero, List.drop_zero, List.take_nil, List.take_succ_cons, List.drop_succ_cons, Nat.reduceAdd, Nat.reduceLeDiff, reduceIte, Bool.not_true, Bool.not_false, Bool.false_eq_true, CA_some, Option.some.injEq, Nat.zero_add, Nat.mul_one, Nat.add_zero, setL, List.set_cons_zero, List.set_cons_succ, fillC]
    simp [d4]
  subst d4
  simp (disch := omega) only [KC_eq, c69, ae0, ae1, ae2, ae3, ae4, ahsz, be0, be1, be2, be3, be4, bhsz, ifT, w64, RR, RP, Ty.agg, Ty.size, Ty.sizes, eq_self, ne_eq, not_true, not_false_iff, reduceCtorEq, List.length_cons, List.length_nil, decide_true, decide_false, true_and, and_true, ite_true, ite_false, PT.full, enter0, setAll, forget, Fr.set, Fr.get, PT.get, PT.set, kof, ai, ev, ev1, evp, b_add, b_sub, b_mul, b_quo, b_rem, b_eql, b_neq, b_lss, b_leq, b_gtr, b_geq, b_seql, b_sneq, setD, resV, resL, res1, args, List.take_zero, List.drop_zero, List.take_nil, List.take_succ_cons, List.drop_succ_cons, Nat.reduceAdd, Nat.reduceLeDiff, reduceIte, Bool.not_true, Bool.not_false, Bool.false_eq_true, CA_some, Option.some.injEq, Nat.zero_add, Nat.mul_one, Nat.add_zero, setL, List.set_cons_zero, List.set_cons_succ, fillC]
/-- laws.eqHead -/
def c28 : AF := ⟨2, 6, [.tmp 4], (.seq (.ops [.i (.lbox 2 (.s 0)), .i (.lbox 3 (.s 1)), .i (.mov 4 (.c (.val false [.bool false])))]) (.seq (.seq (.ops [.i (.fad 5 (.s 2) 0), .i (.ldl 6 2 (.s 5) 1 false), .i (.fad 7 (.s 3) 0), .i (.ldl 8 3 (.s 7) 1 false), .i (.bin 9 .neq (.s 6) (.s 8))]) (.cond (.s 9) (.seq (.ops [.i (.mov 4 (.c (.val false [.bool false])))]) .ret) .skip)) (.seq (.seq (.ops [.i (.fad 10 (.s 2) 1), .i (.ldl 11 2 (.s 10) 1 false), .i (.fad 12 (.s 3) 1), .i (.ldl 13 3 (.s 12) 1 false), .i (.bin 14 .neq (.s 11) (.s 13))]) (.cond (.s 14) (.seq (.ops [.i (.mov 4 (.c (.val false [.bool false])))]) .ret) .skip)) (.seq (.seq (.ops [.i (.fad 15 (.s 2) 2), .i (.ldl 16 2 (.s 15) 1 false), .i (.fad 17 (.s 3) 2), .i (.ldl 18 3 (.s 17) 1 false), .i (.bin 19 .neq (.s 16) (.s 18))]) (.cond (.s 19) (.seq (.ops [.i (.mov 4 (.c (.val false [.bool false])))]) .ret) .skip)) (.seq (.seq (.ops [.i (.fad 20 (.s 2) 3), .i (.ldl 21 2 (.s 20) 1 false), .i (.fad 22 (.s 3) 3), .i (.ldl 23 3 (.s 22) 1 false), .i (.call 25 50 false [(.s 21), (.s 23)]), .i (.not 25 (.s 24))]) (.cond (.s 25) (.seq (.ops [.i (.mov 4 (.c (.val false [.bool false])))]) .ret) .skip)) (.seq (.seq (.ops [.i (.fad 26 (.s 2) 4), .i (.ldl 27 2 (.s 26) 1 false), .i (.fad 28 (.s 3) 4), .i (.ldl 29 3 (.s 28) 1 false), .i (.call 31 50 false [(.s 27), (.s 29)]), .i (.not 31 (.s 30))]) (.cond (.s 31) (.seq (.ops [.i (.mov 4 (.c (.val false [.bool false])))]) .ret) .skip)) (.seq (.seq (.ops [.i (.fad 32 (.s 2) 5), .i (.ldl 33 2 (.s 32) 5 true), .i (.fad 34 (.s 3) 5), .i (.ldl 35 3 (.s 34) 5 true), .i (.call 37 69 false [(.s 33), (.s 35)]), .i (.not 37 (.s 36))]) (.cond (.s 37) (.seq (.ops [.i (.mov 4 (.c (.val false [.bool false])))]) .ret) .skip)) (.seq (.ops [.i (.mov 4 (.c (.val false [.bool true])))]) .ret))))))))⟩
theorem k28 : cd 28 = some c28 := by kernel_rfl
theorem eq_Head : EqOk cd 28 THead := by
  intro h ca cb va vb Sa Sb ha hb
  obtain ⟨avs, rfl, aq0⟩ := ha.st
  obtain ⟨av0, ar0, aS0, aT0, rfl, rfl, ah0, aq1⟩ := aq0.step
  obtain ⟨an0, ae0, rfl, rfl, alo0, ahi0⟩ := ah0.int
  obtain ⟨av1, ar1, aS1, aT1, rfl, rfl, ah1, aq2⟩ := aq1.step
  obtain ⟨an1, ae1, rfl, rfl, alo1, ahi1⟩ := ah1.int
  obtain ⟨av2, ar2, aS2, aT2, rfl, rfl, ah2, aq3⟩ := aq2.step
  obtain ⟨an2, ae2, rfl, rfl, alo2, ahi2⟩ := ah2.int
  obtain ⟨av3, ar3, aS3, aT3, rfl, rfl, ah3, aq4⟩ := aq3.step
  obtain ⟨ac3, ae3⟩ := ah3.one rfl
  rw [ae3] at ah3
  obtain ⟨av4, ar4, aS4, aT4, rfl, rfl, ah4, aq5⟩ := aq4.step
  obtain ⟨ac4, ae4⟩ := ah4.one rfl
  rw [ae4] at ah4
  obtain ⟨av5, ar5, aS5, aT5, rfl, rfl, ah5, aq6⟩ := aq5.step
  obtain ⟨_, rfl, rfl⟩ := aq6
  have ahsz : ca.length = 10 := ha.size
  obtain ⟨bvs, rfl, bq0⟩ := hb.st
  obtain ⟨bv0, br0, bS0, bT0, rfl, rfl, bh0, bq1⟩ := bq0.step
  obtain ⟨bn0, be0, rfl, rfl, blo0, bhi0⟩ := bh0.int
  obtain ⟨bv1, br1, bS1, bT1, rfl, rfl, bh1, bq2⟩ := bq1.step
  obtain ⟨bn1, be1, rfl, rfl, blo1, bhi1⟩ := bh1.int
  obtain ⟨bv2, br2, bS2, bT2, rfl, rfl, bh2, bq3⟩ := bq2.step
  obtain ⟨bn2, be2, rfl, rfl, blo2, bhi2⟩ := bh2.int
  obtain ⟨bv3, br3, bS3, bT3, rfl, rfl, bh3, bq4⟩ := bq3.step
  obtain ⟨bc3, be3⟩ := bh3.one rfl
  rw [be3] at bh3
  obtain ⟨bv4, br4, bS4, bT4, rfl, rfl, bh4, bq5⟩ := bq4.step
  obtain ⟨bc4, be4⟩ := bh4.one rfl
  rw [be4] at bh4
  obtain ⟨bv5, br5, bS5, bT5, rfl, rfl, bh5, bq6⟩ := bq5.step
  obtain ⟨_, rfl, rfl⟩ := bq6
  have bhsz : cb.length = 10 := hb.size
  simp only [Ty.size, Ty.sizes, Nat.reduceAdd, Nat.zero_add, List.drop_zero] at ae0 ae1 ae2 ae3 ae4 ahsz be0 be1 be2 be3 be4 bhsz ah5 bh5
  refine WS_enter k28 rfl ?_
  simp (disch := omega) only [KC_eq, c28, ae0, ae1, ae2, ae3, ae4, ahsz, be0, be1, be2, be3, be4, bhsz, ifT, w64, RR, RP, Ty.agg, Ty.size, Ty.sizes, eq_self, ne_eq, not_true, not_false_iff, reduceCtorEq, List.length_cons, List.length_nil, decide_true, decide_false, true_and, and_true, ite_true, ite_false, PT.full, enter0, setAll, forget, Fr.set, Fr.get, PT.get, PT.set, kof, ai, ev, ev1, evp, b_add, b_sub, b_mul, b_quo, b_rem, b_eql, b_neq, b_lss, b_leq, b_gtr, b_geq, b_seql, b_sneq, setD, resV, resL, res1, args, List.take_zero, List.drop_zero, List.take_nil, List.take_succ_cons, List.drop_succ_cons, Nat.reduceAdd, Nat.reduceLeDiff, reduceIte, Bool.not_true, Bool.not_false, Bool.false_eq_true, CA_some, Option.some.injEq, Nat.zero_add, Nat.mul_one, Nat.add_zero, setL, List.set_cons_zero, List.set_cons_succ, fillC]
  refine BR_dec (fun hn => ?_) (fun hn => ?_)
  case refine_1 =>
    simp (disch := omega) only [KC_eq, c28, ae0, ae1, ae2, ae3, ae4, ahsz, be0, be1, be2, be3, be4, bhsz, ifT, w64, RR, RP, Ty.agg, Ty.size, Ty.sizes, eq_self, ne_eq, not_true, not_false_iff, reduceCtorEq, List.length_cons, List.length_nil, decide_true, decide_false, true_and, and_true, ite_true, ite_false, PT.full, enter0, setAll, forget, Fr.set, Fr.get, PT.get, PT.set, kof, ai, ev, ev1, evp, b_add, b_sub, b_mul, b_quo, b_rem, b_eql, b_neq, b_lss, b_leq, b_gtr, b_geq, b_seql, b_sneq, setD, resV, resL, res1, args, List.take_zero, List.drop_zero, List.take_nil, List.take_succ_cons, List.drop_succ_cons, Nat.reduceAdd, Nat.reduceLeDiff, reduceIte, Bool.not_true, Bool.not_false, Bool.false_eq_true, CA_some, Option.some.injEq, Nat.zero_add, Nat.mul_one, Nat.add_zero, setL, List.set_cons_zero, List.set_cons_succ, fillC]
    simp [hn]
  have d0 : an0 = bn0 := by omega
  subst d0
  simp (disch := omega) only [KC_eq, c28, ae0, ae1, ae2, ae3, ae4, ahsz, be0, be1, be2, be3, be4, bhsz, ifT, w64, RR, RP, Ty.agg, Ty.size, Ty.sizes, eq_self, ne_eq, not_true, not_false_iff, reduceCtorEq, List.length_cons, List.length_nil, decide_true, decide_false, true_and, and_true, ite_true, ite_false, PT.full, enter0, setAll, forget, Fr.set, Fr.get, PT.get, PT.set, kof, ai, ev, ev1, evp, b_add, b_sub, b_mul, b_quo, b_rem, b_eql, b_neq, b_lss, b_leq, b_gtr, b_geq, b_seql, b_sneq, setD, resV, resL, res1, args, List.take_zero, List.drop_zero, List.take_nil, List.take_succ_cons, List.drop_succ_cons, Nat.reduceAdd, Nat.reduceLeDiff, reduceIte, Bool.not_true, Bool.not_false, Bool.false_eq_true, CA_some, Option.some.injEq, Nat.zero_add, Nat.mul_one, Nat.add_zero, setL, List.set_cons_zero, List.set_cons_succ, fillC]
  refine BR_dec (fun hn => ?_) (fun hn => ?_)
  case refine_1 =>
    simp (disch := omega) only [KC_eq, c28, ae0, ae1, ae2, ae3, ae4, ahsz, be0, be1, be2, be3, be4, bhsz, ifT, w64, RR, RP, Ty.agg, Ty.size, Ty.sizes, eq_self, ne_eq, not_true, not_false_iff, reduceCtorEq, List.length_cons, List.length_nil, decide_true, decide_false, true_and, and_true, ite_true, ite_false, PT.full, enter0, setAll, forget, Fr.set, Fr.get, PT.get, PT.set, kof, ai, ev, ev1, evp, b_add, b_sub, b_mul, b_quo, b_rem, b_eql, b_neq, b_lss, b_leq, b_gtr, b_geq, b_seql, b_sneq, setD, resV, resL, res1, args, List.take_zero, List.drop_zero, List.take_nil, List.take_succ_cons, List.drop_succ_cons, Nat.reduceAdd, Nat.reduceLeDiff, reduceIte, Bool.not_true, Bool.not_false, Bool.false_eq_true, CA_some, Option.some.injEq, Nat.zero_add, Nat.mul_one, Nat.add_zero, setL, List.set_cons_zero, List.set_cons_succ, fillC]
    simp [hn]
  have d1 : an1 = bn1 := by omega
  subst d1
  simp (disch := omega) only [KC_eq, c28, ae0, ae1, ae2, ae3, ae4, ahsz, be0, be1, be2, be3, be4, bhsz, ifT, w64, RR, RP, Ty.agg, Ty.size, Ty.sizes, eq_self, ne_eq, not_true, not_false_iff, reduceCtorEq, List.length_cons, List.length_nil, decide_true, decide_false, true_and, and_true, ite_true, ite_false, PT.full, enter0, setAll, forget, Fr.set, Fr.get, PT.get, PT.set, kof, ai, ev, ev1, evp, b_add, b_sub, b_mul, b_quo, b_rem, b_eql, b_neq, b_lss, b_leq, b_gtr, b_geq, b_seql, b_sneq, setD, resV, resL, res1, args, List.take_zero, List.drop_zero, List.take_nil, List.take_succ_cons, List.drop_succ_cons, Nat.reduceAdd, Nat.reduceLeDiff, reduceIte, Bool.not_true, Bool.not_false, Bool.false_eq_true, CA_some, Option.some.injEq, Nat.zero_add, Nat.mul_one, Nat.add_zero, setL, List.set_cons_zero, List.set_cons_succ, fillC]
  refine BR_dec (fun hn => ?_) (fun hn => ?_)
  case refine_1 =>
    simp (disch := omega) only [KC_eq, c28, ae0, ae1, ae2, ae3, ae4, ahsz, be0, be1, be2, be3, be4, bhsz, ifT, w64, RR, RP, Ty.agg, Ty.size, Ty.sizes, eq_self, ne_eq, not_true, not_false_iff, reduceCtorEq, List.length_cons, List.length_nil, decide_true, decide_false, true_and, and_true, ite_true, ite_false, PT.full, enter0, setAll, forget, Fr.set, Fr.get, PT.get, PT.set, kof, ai, ev, ev1, evp, b_add, b_sub, b_mul, b_quo, b_rem, b_eql, b_neq, b_lss, b_leq, b_gtr, b_geq, b_seql, b_sneq, setD, resV, resL, res1, args, List.take_zero, List.drop_zero, List.take_nil, List.take_succ_cons, List.drop_succ_cons, Nat.reduceAdd, Nat.reduceLeDiff, reduceIte, Bool.not_true, Bool.not_false, Bool.false_eq_true, CA_some, Option.some.injEq, Nat.zero_add, Nat.mul_one, Nat.add_zero, setL, List.set_cons_zero, List.set_cons_succ, fillC]
    simp [hn]
  have d2 : an2 = bn2 := by omega
  subst d2
  simp (disch := omega) only [KC_eq, c28, ae0, ae1, ae2, ae3, ae4, ahsz, be0, be1, be2, be3, be4, bhsz, ifT, w64, RR, RP, Ty.agg, Ty.size, Ty.sizes, eq_self, ne_eq, not_true, not_false_iff, reduceCtorEq, List.length_cons, List.length_nil, decide_true, decide_false, true_and, and_true, ite_true, ite_false, PT.full, enter0, setAll, forget, Fr.set, Fr.get, PT.get, PT.set, kof, ai, ev, ev1, evp, b_add, b_sub, b_mul, b_quo, b_rem, b_eql, b_neq, b_lss, b_leq, b_gtr, b_geq, b_seql, b_sneq, setD, resV, resL, res1, args, List.take_zero, List.drop_zero, List.take_nil, List.take_succ_cons, List.drop_succ_cons, Nat.reduceAdd, Nat.reduceLeDiff, reduceIte, Bool.not_true, Bool.not_false, Bool.false_eq_true, CA_some, Option.some.injEq, Nat.zero_add, Nat.mul_one, Nat.add_zero, setL, List.set_cons_zero, List.set_cons_succ, fillC]
  refine EqOk.go eq_ByteS ah3 bh3 (fun d3 => ?_) (fun d3 => ?_)
  case refine_2 =>
    simp (disch := omega) only [KC_eq, c28, ae0, ae1, ae2, ae3, ae4, ahsz, be0, be1, be2, be3, be4, bhsz, ifT, w64, RR, RP, Ty.agg, Ty.size, Ty.sizes, eq_self, ne_eq, not_true, not_false_iff, reduceCtorEq, List.length_cons, List.length_nil, decide_true, decide_false, true_and, and_true, ite_true, ite_false, PT.full, enter0, setAll, forget, Fr.set, Fr.get, PT.get, PT.set, kof, ai, ev, ev1, evp, b_add, b_sub, b_mul, b_quo, b_rem, b_eql, b_neq, b_lss, b_leq, b_gtr, b_geq, b_seql, b_sneq, setD, resV, resL, res1, args, List.take_zero, List.drop_zero, List.take_nil, List.take_succ_cons, List.drop_succ_cons, Nat.reduceAdd, Nat.reduceLeDiff, reduceIte, Bool.not_true, Bool.not_false, Bool.false_eq_true, CA_some, Option.some.injEq, Nat.zero_add, Nat.mul_one, Nat.add_zero, setL, List.set_cons_zero, List.set_cons_succ, fillC]
    simp [d3]
  subst d3
  simp (disch := omega) only [KC_eq, c28, ae0, ae1, ae2, ae3, ae4, ahsz, be0, be1, be2, be3, be4, bhsz, ifT, w64, RR, RP, Ty.agg, Ty.size, Ty.sizes, eq_self, ne_eq, not_true, not_false_iff, reduceCtorEq, List.length_cons, List.length_nil, decide_true, decide_false, true_and, and_true, ite_true, ite_false, PT.full, enter0, setAll, forget, Fr.set, Fr.get, PT.get, PT.set, kof, ai, ev, ev1, evp, b_add, b_sub, b_mul, b_quo, b_rem, b_eql, b_neq, b_lss, b_leq, b_gtr, b_geq, b_seql, b_sneq, setD, resV, resL, res1, args, List.take_zero, List.drop_zero, List.take_nil, List.take_succ_cons, List.drop_succ_cons, Nat.reduceAdd, Nat.reduceLeDiff, reduceIte, Bool.not_true, Bool.not_false, Bool.false_eq_true, CA_some, Option.some.injEq, Nat.zero_add, Nat.mul_one, Nat.add_zero, setL, List.set_cons_zero, List.set_cons_succ, fillC]
  refine EqOk.go eq_ByteS ah4 bh4 (fun d4 => ?_) (fun d4 => ?_)
  case refine_2 =>
    simp (disch := omega) only [KC_eq, c28, ae0, ae1, ae2, ae3, ae4, ahsz, be0, be1, be2, be3, be4, bhsz, ifT, w64, RR, RP, Ty.agg, Ty.size, Ty.sizes, eq_self, ne_eq, not_true, not_false_iff, reduceCtorEq, List.length_cons, List.length_nil, decide_true, decide_false, true_and, and_true, ite_true, ite_false, PT.full, enter0, setAll, forget, Fr.set, Fr.get, PT.get, PT.set, kof, ai, ev, ev1, evp, b_add, b_sub, b_mul, b_quo, b_rem, b_eql, b_neq, b_lss, b_leq, b_gtr, b_geq, b_seql, b_sneq, setD, resV, resL, res1, args, List.take_zero, List.drop_zero, List.take_nil, List.take_succ_cons, List.drop_succ_cons, Nat.reduceAdd, Nat.reduceLeDiff, reduceIte, Bool.not_true, Bool.not_false, Bool.false_eq_true, CA_some, Option.some.injEq, Nat.zero_add, Nat.mul_one, Nat.add_zero, setL, List.set_cons_zero, List.set_cons_succ, fillC]
    simp [d4]
  subst d4
  simp (disch := omega) only [KC_eq, c28, ae0, ae1, ae2, ae3, ae4, ahsz, be0, be1, be2, be3, be4, bhsz, ifT, w64, RR, RP, Ty.agg, Ty.size, Ty.sizes, eq_self, ne_eq, not_true, not_false_iff, reduceCtorEq, List.length_cons, List.length_nil, decide_true, decide_false, true_and, and_true, ite_true, ite_false, PT.full, enter0, setAll, forget, Fr.set, Fr.get, PT.get, PT.set, kof, ai, ev, ev1, evp, b_add, b_sub, b_mul, b_quo, b_rem, b_eql, b_neq, b_lss, b_leq, b_gtr, b_geq, b_seql, b_sneq, setD, resV, resL, res1, args, List.take_zero, List.drop_zero, List.take_nil, List.take_succ_cons, List.drop_succ_cons, Nat.reduceAdd, Nat.reduceLeDiff, reduceIte, Bool.not_true, Bool.not_false, Bool.false_eq_true, CA_some, Option.some.injEq, Nat.zero_add, Nat.mul_one, Nat.add_zero, setL, List.set_cons_zero, List.set_cons_succ, fillC]
  refine EqOk.go eq_Qc ah5 bh5 (fun d5 => ?_) (fun d5 => ?_)
  case refine_2 =>
    simp (disch := omega) only [KC_eq, c28, ae0, ae1, ae2, ae3, ae4, ahsz, be0, be1, be2, be3, be4, bhsz, ifT, w64, RR, RP, Ty.agg, Ty.size, Ty.sizes, eq_self, ne_eq, not_true, not_false_iff, reduceCtorEq, List.length_cons, List.length_nil, decide_true, decide_false, true_and, and_true, ite_true, ite_false, PT.full, enter0, setAll, forget, Fr.set, Fr.get, PT.get, PT.set, kof, ai, ev, ev1, evp, b_add, b_sub, b_mul, b_quo, b_rem, b_eql, b_neq, b_lss, b_leq, b_gtr, b_geq, b_seql, b_sneq, setD, resV, resL, res1, args, List.take_zero, List.drop_zero, List.take_nil, List.take_succ_cons, List.drop_succ_cons, Nat.reduceAdd, Nat.reduceLeDiff, reduceIte, Bool.not_true, Bool.not_false, Bool.false_eq_true, CA_some, Option.some.injEq, Nat.zero_add, Nat.mul_one, Nat.add_zero, setL, List.set_cons_zero, List.set_cons_succ, fillC]
    simp [d5]
  subst d5
  simp (disch := omega) only [KC_eq, c28, ae0, ae1, ae2, ae3, ae4, ahsz, be0, be1, be2, be3, be4, bhsz, ifT, w64, RR, RP, Ty.agg, Ty.size, Ty.sizes, eq_self, ne_eq, not_true, not_false_iff, reduceCtorEq, List.length_cons, List.length_nil, decide_true, decide_false, true_and, and_true, ite_true, ite_false, PT.full, enter0, setAll, forget, Fr.set, Fr.get, PT.get, PT.set, kof, ai, ev, ev1, evp, b_add, b_sub, b_mul, b_quo, b_rem, b_eql, b_neq, b_lss, b_leq, b_gtr, b_geq, b_seql, b_sneq, setD, resV, resL, res1, args, List.take_zero, List.drop_zero, List.take_nil, List.take_succ_cons, List.drop_succ_cons, Nat.reduceAdd, Nat.reduceLeDiff, reduceIte, Bool.not_true, Bool.not_false, Bool.false_eq_true, CA_some, Option.some.injEq, Nat.zero_add, Nat.mul_one, Nat.add_zero, setL, List.set_cons_zero, List.set_cons_succ, fillC]
/-- laws.eqHeadS -/
def c63 : AF := ⟨2, 5, [.tmp 4], (.seq (.ops [.i (.mov 4 (.c (.val false [.bool false])))]) (.seq (.seq (.ops [.i (.mov 6 (.s 0)), .i (.len 7 false (.s 6)), .i (.mov 8 (.s 1)), .i (.len 9 false (.s 8)), .i (.bin 10 .neq (.s 7) (.s 9))]) (.cond (.s 10) (.seq (.ops [.i (.mov 4 (.c (.val false [.bool false])))]) .ret) .skip)) (.seq (.seq (.ops [.i (.mov 5 (.c (.val false [.int .i64 0])))]) (.block 0 (.loop [26, 25, 24, 23, 22, 21, 20, 19, 18, 17, 16, 15, 14, 13, 12, 11] (.seq (.seq (.ops [.i (.mov 11 (.s 5)), .i (.mov 12 (.s 0)), .i (.len 13 false (.s 12)), .i (.bin 14 .lss (.s 11) (.s 13))]) (.cond (.s 14) .skip (.exit 0))) (.seq (.block 1 (.seq (.ops [.i (.mov 17 (.s 0)), .i (.mov 18 (.s 5)), .i (.iad 19 (.s 17) (.s 18) 10), .i (.ldh 20 (.s 19) 10 true), .i (.mov 21 (.s 1)), .i (.mov 22 (.s 5)), .i (.iad 23 (.s 21) (.s 22) 10), .i (.ldh 24 (.s 23) 10 true), .i (.call 26 28 false [(.s 20), (.s 24)]), .i (.not 26 (.s 25))]) (.cond (.s 26) (.seq (.ops [.i (.mov 4 (.c (.val false [.bool false])))]) .ret) .skip))) (.ops [.i (.mov 15 (.s 5)), .i (.bin 16 .add (.s 15) (.c (.val false [.int .i64 1]))), .i (.mov 5 (.s 16))])))))) (.seq (.ops [.i (.mov 4 (.c (.val false [.bool true])))]) .ret))))⟩
theorem k63 : cd 63 = some c63 := by kernel_rfl
theorem eq_HeadS : EqOk cd 63 (.sl THead) := eq_sl k63 eq_Head
/-- laws.eqLight -/
def c111 : AF := ⟨2, 5, [.tmp 4], (.seq (.ops [.i (.lbox 2 (.s 0)), .i (.lbox 3 (.s 1)), .i (.mov 4 (.c (.val false [.bool false])))]) (.seq (.seq (.ops [.i (.fad 5 (.s 2) 0), .i (.ldl 6 2 (.s 5) 5 true), .i (.fad 7 (.s 3) 0), .i (.ldl 8 3 (.s 7) 5 true), .i (.call 10 109 false [(.s 6), (.s 8)]), .i (.not 10 (.s 9))]) (.cond (.s 10) (.seq (.ops [.i (.mov 4 (.c (.val false [.bool false])))]) .ret) .skip)) (.seq (.seq (.ops [.i (.fad 11 (.s 2) 5), .i (.ldl 12 2 (.s 11) 1 true), .i (.fad 13 (.s 3) 5), .i (.ldl 14 3 (.s 13) 1 true), .i (.call 16 110 false [(.s 12), (.s 14)]), .i (.not 16 (.s 15))]) (.cond (.s 16) (.seq (.ops [.i (.mov 4 (.c (.val false [.bool false])))]) .ret) .skip)) (.seq (.seq (.ops [.i (.fad 17 (.s 2) 6), .i (.ldl 18 2 (.s 17) 2 true), .i (.fad 19 (.s 3) 6), .i (.ldl 20 3 (.s 19) 2 true), .i (.call 22 156 false [(.s 18), (.s 20)]), .i (.not 22 (.s 21))]) (.cond (.s 22) (.seq (.ops [.i (.mov 4 (.c (.val false [.bool false])))]) .ret) .skip)) (.seq (.seq (.ops [.i (.fad 23 (.s 2) 8), .i (.ldl 24 2 (.s 23) 1 false), .i (.fad 25 (.s 3) 8), .i (.ldl 26 3 (.s 25) 1 false), .i (.call 28 63 false [(.s 24), (.s 26)]), .i (.not 28 (.s 27))]) (.cond (.s 28) (.seq (.ops [.i (.mov 4 (.c (.val false [.bool false])))]) .ret) .skip)) (.seq (.ops [.i (.mov 4 (.c (.val false [.bool true])))]) .ret))))))⟩
theorem k111 : cd 111 = some c111 := by kernel_rfl
theorem eq_Light : EqOk cd 111 TLight := by
  intro h ca cb va vb Sa Sb ha hb
  obtain ⟨avs, rfl, aq0⟩ := ha.st
  obtain ⟨av0, ar0, aS0, aT0, rfl, rfl, ah0, aq1⟩ := aq0.step
  obtain ⟨av1, ar1, aS1, aT1, rfl, rfl, ah1, aq2⟩ := aq1.step
  obtain ⟨av2, ar2, aS2, aT2, rfl, rfl, ah2, aq3⟩ := aq2.step
  obtain ⟨av3, ar3, aS3, aT3, rfl, rfl, ah3, aq4⟩ := aq3.step
  obtain ⟨ac3, ae3⟩ := ah3.one rfl
  rw [ae3] at ah3
  obtain ⟨_, rfl, rfl⟩ := aq4
  have ahsz : ca.length = 9 := ha.size
  obtain ⟨bvs, rfl, bq0⟩ := hb.st
  obtain ⟨bv0, br0, bS0, bT0, rfl, rfl, bh0, bq1⟩ := bq0.step
  obtain ⟨bv1, br1, bS1, bT1, rfl, rfl, bh1, bq2⟩ := bq1.step
  obtain ⟨bv2, br2, bS2, bT2, rfl, rfl, bh2, bq3⟩ := bq2.step
  obtain ⟨bv3, br3, bS3, bT3, rfl, rfl, bh3, bq4⟩ := bq3.step
  obtain ⟨bc3, be3⟩ := bh3.one rfl
  rw [be3] at bh3
  obtain ⟨_, rfl, rfl⟩ := bq4
  have bhsz : cb.length = 9 := hb.size
  simp only [Ty.size, Ty.sizes, Nat.reduceAdd, Nat.zero_add, List.drop_zero] at ae3 ahsz be3 bhsz ah0 ah1 ah2 bh0 bh1 bh2
  refine WS_enter k111 rfl ?_
  simp (disch := omega) only [KC_eq, c111, ae3, ahsz, be3, bhsz, ifT, w64, RR, RP, Ty.agg, Ty.size, Ty.sizes, eq_self, ne_eq, not_true, not_false_iff, reduceCtorEq, List.length_cons, List.length_nil, decide_true, decide_false, true_and, and_true, ite_true, ite_false, PT.full, enter0, setAll, forget, Fr.set, Fr.get, PT.get, PT.set, kof, ai, ev, ev1, evp, b_add, b_sub, b_mul, b_quo, b_rem, b_eql, b_neq, b_lss, b_leq, b_gtr, b_geq, b_seql, b_sneq, setD, resV, resL, res1, args, List.take_zero, List.drop_zero, List.take_nil, List.take_succ_cons, List.drop_succ_cons, Nat.reduceAdd, Nat.reduceLeDiff, reduceIte, Bool.not_true, Bool.not_false, Bool.false_eq_true, CA_some, Option.some.injEq, Nat.zero_add, Nat.mul_one, Nat.add_zero, setL, List.set_cons_zero, List.set_cons_succ, fillC]
  refine EqOk.go eq_Limits ah0 bh0 (fun d0 => ?_) (fun d0 => ?_)
  case refine_2 =>
    simp (disch := omega) only [KC_eq, c111, ae3, ahsz, be3, bhsz, ifT, w64, RR, RP, Ty.agg, Ty.size, Ty.sizes, eq_self, ne_eq, not_true, not_false_iff, reduceCtorEq, List.length_cons, List.length_nil, decide_true, decide_false, true_and, and_true, ite_true, ite_false, PT.full, enter0, setAll, forget, Fr.set, Fr.get, PT.get, PT.set, kof, ai, ev, ev1, evp, b_add, b_sub, b_mul, b_quo, b_rem, b_eql, b_neq, b_lss, b_leq, b_gtr, b_geq, b_seql, b_sneq, setD, resV, resL, res1, args, List.take_zero, List.drop_zero, List.take_nil, List.take_succ_cons, List.drop_succ_cons, Nat.reduceAdd, Nat.reduceLeDiff, reduceIte, Bool.not_true, Bool.not_false, Bool.false_eq_true, CA_some, Option.some.injEq, Nat.zero_add, Nat.mul_one, Nat.add_zero, setL, List.set_cons_zero, List.set_cons_succ, fillC]
    simp [d0]
  subst d0
  simp (disch := omega) only [KC_eq, c111, ae3, ahsz, be3, bhsz, ifT, w64, RR, RP, Ty.agg, Ty.size, Ty.sizes, eq_self, ne_eq, not_true, not_false_iff, reduceCtorEq, List.length_cons, List.length_nil, decide_true, decide_false, true_and, and_true, ite_true, ite_false, PT.full, enter0, setAll, forget, Fr.set, Fr.get, PT.get, PT.set, kof, ai, ev, ev1, evp, b_add, b_sub, b_mul, b_quo, b_rem, b_eql, b_neq, b_lss, b_leq, b_gtr, b_geq, b_seql, b_sneq, setD, resV, resL, res1, args, List.take_zero, List.drop_zero, List.take_nil, List.take_succ_cons, List.drop_succ_cons, Nat.reduceAdd, Nat.reduceLeDiff, reduceIte, Bool.not_true, Bool.not_false, Bool.false_eq_true, CA_some, Option.some.injEq, Nat.zero_add, Nat.mul_one, Nat.add_zero, setL, List.set_cons_zero, List.set_cons_succ, fillC]
  refine EqOk.go eq_Table ah1 bh1 (fun d1 => ?_) (fun d1 => ?_)
  case refine_2 =>
    simp (disch := omega) only [KC_eq, c111, ae3, ahsz, be3, bhsz, ifT, w64, RR, RP, Ty.agg, Ty.size, Ty.sizes, eq_self, ne_eq, not_true, not_false_iff, reduceCtorEq, List.length_cons, List.length_nil, decide_true, decide_false, true_and, and_true, ite_true, ite_false, PT.full, enter0, setAll, forget, Fr.set, Fr.get, PT.get, PT.set, kof, ai, ev, ev1, evp, b_add, b_sub, b_mul, b_quo, b_rem, b_eql, b_neq, b_lss, b_leq, b_gtr, b_geq, b_seql, b_sneq, setD, resV, resL, res1, args, List.take_zero, List.drop_zero, List.take_nil, List.take_succ_cons, List.drop_succ_cons, Nat.reduceAdd, Nat.reduceLeDiff, reduceIte, Bool.not_true, Bool.not_false, Bool.false_eq_true, CA_some, Option.some.injEq, Nat.zero_add, Nat.mul_one, Nat.add_zero, setL, List.set_cons_zero, List.set_cons_succ, fillC]
    simp [d1]
  subst d1
  simp (disch := omega) only [KC_eq, c111, ae3, ahsz, be3, bhsz, ifT, w64, RR, RP, Ty.agg, Ty.size, Ty.sizes, eq_self, ne_eq, not_true, not_false_iff, reduceCtorEq, List.length_cons, List.length_nil, decide_true, decide_false, true_and, and_true, ite_true, ite_false, PT.full, enter0, setAll, forget, Fr.set, Fr.get, PT.get, PT.set, kof, ai, ev, ev1, evp, b_add, b_sub, b_mul, b_quo, b_rem, b_eql, b_neq, b_lss, b_leq, b_gtr, b_geq, b_seql, b_sneq, setD, resV, resL, res1, args, List.take_zero, List.drop_zero, List.take_nil, List.take_succ_cons, List.drop_succ_cons, Nat.reduceAdd, Nat.reduceLeDiff, reduceIte, Bool.not_true, Bool.not_false, Bool.false_eq_true, CA_some, Option.some.injEq, Nat.zero_add, Nat.mul_one, Nat.add_zero, setL, List.set_cons_zero, List.set_cons_succ, fillC]
  refine EqOk.go eq_Push ah2 bh2 (fun d2 => ?_) (fun d2 => ?_)
  case refine_2 =>
    simp (disch := omega) only [KC_eq, c111, ae3, ahsz, be3, bhsz, ifT, w64, RR, RP, Ty.agg, Ty.size, Ty.sizes, eq_self, ne_eq, not_true, not_false_iff, reduceCtorEq, List.length_cons, List.length_nil, decide_true, decide_false, true_and, and_true, ite_true, ite_false, PT.full, enter0, setAll, forget, Fr.set, Fr.get, PT.get, PT.set, kof, ai, ev, ev1, evp, b_add, b_sub, b_mul, b_quo, b_rem, b_eql, b_neq, b_lss, b_leq, b_gtr, b_geq, b_seql, b_sneq, setD, resV, resL, res1, args, List.take_zero, List.drop_zero, List.take_nil, List.take_succ_cons, List.drop_succ_cons, Nat.reduceAdd, Nat.reduceLeDiff, reduceIte, Bool.not_true, Bool.not_false, Bool.false_eq_true, CA_some, Option.some.injEq, Nat.zero_add, Nat.mul_one, Nat.add_zero, setL, List.set_cons_zero, List.set_cons_succ, fillC]
    simp [d2]
  subst d2
  simp (disch := omega) only [KC_eq, c111, ae3, ahsz, be3, bhsz, ifT, w64, RR, RP, Ty.agg, Ty.size, Ty.sizes, eq_self, ne_eq, not_true, not_false_iff, reduceCtorEq, List.length_cons, List.length_nil, decide_true, decide_false, true_and, and_true, ite_true, ite_false, PT.full, enter0, setAll, forget, Fr.set, Fr.get, PT.get, PT.set, kof, ai, ev, ev1, evp, b_add, b_sub, b_mul, b_quo, b_rem, b_eql, b_neq, b_lss, b_leq, b_gtr, b_geq, b_seql, b_sneq, setD, resV, resL, res1, args, List.take_zero, List.drop_zero, List.take_nil, List.take_succ_cons, List.drop_succ_cons, Nat.reduceAdd, Nat.reduceLeDiff, reduceIte, Bool.not_true, Bool.not_false, Bool.false_eq_true, CA_some, Option.some.injEq, Nat.zero_add, Nat.mul_one, Nat.add_zero, setL, List.set_cons_zero, List.set_cons_succ, fillC]
  refine EqOk.go eq_HeadS ah3 bh3 (fun d3 => ?_) (fun d3 => ?_)
  case refine_2 =>
    simp (disch := omega) only [KC_eq, c111, ae3, ahsz, be3, bhsz, ifT, w64, RR, RP, Ty.agg, Ty.size, Ty.sizes, eq_self, ne_eq, not_true, not_false_iff, reduceCtorEq, List.length_cons, List.length_nil, decide_true, decide_false, true_and, and_true, ite_true, ite_false, PT.full, enter0, setAll, forget, Fr.set, Fr.get, PT.get, PT.set, kof, ai, ev, ev1, evp, b_add, b_sub, b_mul, b_quo, b_rem, b_eql, b_neq, b_lss, b_leq, b_gtr, b_geq, b_seql, b_sneq, setD, resV, resL, res1, args, List.take_zero, List.drop_zero, List.take_nil, List.take_succ_cons, List.drop_succ_cons, Nat.reduceAdd, Nat.reduceLeDiff, reduceIte, Bool.not_true, Bool.not_false, Bool.false_eq_true, CA_some, Option.some.injEq, Nat.zero_add, Nat.mul_one, Nat.add_zero, setL, List.set_cons_zero, List.set_cons_succ, fillC]
    simp [d3]
  subst d3
  simp (disch := omega) only [KC_eq, c111, ae3, ahsz, be3, bhsz, ifT, w64, RR, RP, Ty.agg, Ty.size, Ty.sizes, eq_self, ne_eq, not_true, not_false_iff, reduceCtorEq, List.length_cons, List.length_nil, decide_true, decide_false, true_and, and_true, ite_true, ite_false, PT.full, enter0, setAll, forget, Fr.set, Fr.get, PT.get, PT.set, kof, ai, ev, ev1, evp, b_add, b_sub, b_mul, b_quo, b_rem, b_eql, b_neq, b_lss, b_leq, b_gtr, b_geq, b_seql, b_sneq, setD, resV, resL, res1, args, List.take_zero, List.drop_zero, List.take_nil, List.take_succ_cons, List.drop_succ_cons, Nat.reduceAdd, Nat.reduceLeDiff, reduceIte, Bool.not_true, Bool.not_false, Bool.false_eq_true, CA_some, Option.some.injEq, Nat.zero_add, Nat.mul_one, Nat.add_zero, setL, List.set_cons_zero, List.set_cons_succ, fillC]
/-- laws.eqDesk -/
def c43 : AF := ⟨2, 5, [.tmp 4], (.seq (.ops [.i (.lbox 2 (.s 0)), .i (.lbox 3 (.s 1)), .i (.mov 4 (.c (.val false [.bool false])))]) (.seq (.seq (.ops [.i (.fad 5 (.s 2) 0), .i (.ldl 6 2 (.s 5) 5 true), .i (.fad 7 (.s 3) 0), .i (.ldl 8 3 (.s 7) 5 true), .i (.call 10 109 false [(.s 6), (.s 8)]), .i (.not 10 (.s 9))]) (.cond (.s 10) (.seq (.ops [.i (.mov 4 (.c (.val false [.bool false])))]) .ret) .skip)) (.seq (.seq (.ops [.i (.fad 11 (.s 2) 5), .i (.ldl 12 2 (.s 11) 1 true), .i (.fad 13 (.s 3) 5), .i (.ldl 14 3 (.s 13) 1 true), .i (.call 16 110 false [(.s 12), (.s 14)]), .i (.not 16 (.s 15))]) (.cond (.s 16) (.seq (.ops [.i (.mov 4 (.c (.val false [.bool false])))]) .ret) .skip)) (.seq (.seq (.ops [.i (.fad 17 (.s 2) 6), .i (.ldl 18 2 (.s 17) 9 true), .i (.fad 19 (.s 3) 6), .i (.ldl 20 3 (.s 19) 9 true), .i (.call 22 111 false [(.s 18), (.s 20)]), .i (.not 22 (.s 21))]) (.cond (.s 22) (.seq (.ops [.i (.mov 4 (.c (.val false [.bool false])))]) .ret) .skip)) (.seq (.seq (.ops [.i (.fad 23 (.s 2) 15), .i (.ldl 24 2 (.s 23) 1 false), .i (.fad 25 (.s 3) 15), .i (.ldl 26 3 (.s 25) 1 false), .i (.call 28 63 false [(.s 24), (.s 26)]), .i (.not 28 (.s 27))]) (.cond (.s 28) (.seq (.ops [.i (.mov 4 (.c (.val false [.bool false])))]) .ret) .skip)) (.seq (.ops [.i (.mov 4 (.c (.val false [.bool true])))]) .ret))))))⟩
theorem k43 : cd 43 = some c43 := by kernel_rfl
theorem eq_Desk : EqOk cd 43 TDesk := by
  intro h ca cb va vb Sa Sb ha hb
  obtain ⟨avs, rfl, aq0⟩ := ha.st
  obtain ⟨av0, ar0, aS0, aT0, rfl, rfl, ah0, aq1⟩ := aq0.step
  obtain ⟨av1, ar1, aS1, aT1, rfl, rfl, ah1, aq2⟩ := aq1.step
  obtain ⟨av2, ar2, aS2, aT2, rfl, rfl, ah2, aq3⟩ := aq2.step
  obtain ⟨av3, ar3, aS3, aT3, rfl, rfl, ah3, aq4⟩ := aq3.step
  obtain ⟨ac3, ae3⟩ := ah3.one rfl
  rw [ae3] at ah3
  obtain ⟨_, rfl, rfl⟩ := aq4
  have ahsz : ca.length = 16 := ha.size
  obtain ⟨bvs, rfl, bq0⟩ := hb.st
  obtain ⟨bv0, br0, bS0, bT0, rfl, rfl, bh0, bq1⟩ := bq0.step
  obtain ⟨bv1, br1, bS1, bT1, rfl, rfl, bh1, bq2⟩ := bq1.step
  obtain ⟨bv2, br2, bS2, bT2, rfl, rfl, bh2, bq3⟩ := bq2.step
  obtain ⟨bv3, br3, bS3, bT3, rfl, rfl, bh3, bq4⟩ := bq3.step
  obtain ⟨bc3, be3⟩ := bh3.one rfl
  rw [be3] at bh3
  obtain ⟨_, rfl, rfl⟩ := bq4
  have bhsz : cb.length = 16 := hb.size
  simp only [Ty.size, Ty.sizes, Nat.reduceAdd, Nat.zero_add, List.drop_zero] at ae3 ahsz be3 bhsz ah0 ah1 ah2 bh0 bh1 bh2
  refine WS_enter k43 rfl ?_
  simp (disch := omega) only [KC_eq, c43, ae3, ahsz, be3, bhsz, ifT, w64, RR, RP, Ty.agg, Ty.size, Ty.sizes, eq_self, ne_eq, not_true, not_false_iff, reduceCtorEq, List.length_cons, List.length_nil, decide_true, decide_false, true_and, and_true, ite_true, ite_false, PT.full, enter0, setAll, forget, Fr.set, Fr.get, PT.get, PT.set, kof, ai, ev, ev1, evp, b_add, b_sub, b_mul, b_quo, b_rem, b_eql, b_neq, b_lss, b_leq, b_gtr, b_geq, b_seql, b_sneq, setD, resV, resL, res1, args, List.take_zero, List.drop_zero, List.take_nil, List.take_succ_cons, List.drop_succ_cons, Nat.reduceAdd, Nat.reduceLeDiff, reduceIte, Bool.not_true, Bool.not_false, Bool.false_eq_true, CA_some, Option.some.injEq, Nat.zero_add, Nat.mul_one, Nat.add_zero, setL, List.set_cons_zero, List.set_cons_succ, fillC]
  refine EqOk.go eq_Limits ah0 bh0 (fun d0 => ?_) (fun d0 => ?_)
  case refine_2 =>
    simp (disch := omega) only [KC_eq, c43, ae3, ahsz, be3, bhsz, ifT, w64, RR, RP, Ty.agg, Ty.size, Ty.sizes, eq_self, ne_eq, not_true, not_false_iff, reduceCtorEq, List.length_cons, List.length_nil, decide_true, decide_false, true_and, and_true, ite_true, ite_false, PT.full, enter0, setAll, forget, Fr.set, Fr.get, PT.get, PT.set, kof, ai, ev, ev1, evp, b_add, b_sub, b_mul, b_quo, b_rem, b_eql, b_neq, b_lss, b_leq, b_gtr, b_geq, b_seql, b_sneq, setD, resV, resL, res1, args, List.take_zero, List.drop_zero, List.take_nil, List.take_succ_cons, List.drop_succ_cons, Nat.reduceAdd, Nat.reduceLeDiff, reduceIte, Bool.not_true, Bool.not_false, Bool.false_eq_true, CA_some, Option.some.injEq, Nat.zero_add, Nat.mul_one, Nat.add_zero, setL, List.set_cons_zero, List.set_cons_succ, fillC]
    simp [d0]
  subst d0
  simp (disch := omega) only [KC_eq, c43, ae3, ahsz, be3, bhsz, ifT, w64, RR, RP, Ty.agg, Ty.size, Ty.sizes, eq_self, ne_eq, not_true, not_false_iff, reduceCtorEq, List.length_cons, List.length_nil, decide_true, decide_false, true_and, and_true, ite_true, ite_false, PT.full, enter0, setAll, forget, Fr.set, Fr.get, PT.get, PT.set, kof, ai, ev, ev1, evp, b_add, b_sub, b_mul, b_quo, b_rem, b_eql, b_neq, b_lss, b_leq, b_gtr, b_geq, b_seql, b_sneq, setD, resV, resL, res1, args, List.take_zero, List.drop_zero, List.take_nil, List.take_succ_cons, List.drop_succ_cons, Nat.reduceAdd, Nat.reduceLeDiff, reduceIte, Bool.not_true, Bool.not_false, Bool.false_eq_true, CA_some, Option.some.injEq, Nat.zero_add, Nat.mul_one, Nat.add_zero, setL, List.set_cons_zero, List.set_cons_succ, fillC]
  refine EqOk.go eq_Table ah1 bh1 (fun d1 => ?_) (fun d1 => ?_)
  case refine_2 =>
    simp (disch := omega) only [KC_eq, c43, ae3, ahsz, be3, bhsz, ifT, w64, RR, RP, Ty.agg, Ty.size, Ty.sizes, eq_self, ne_eq, not_true, not_false_iff, reduceCtorEq, List.length_cons, List.length_nil, decide_true, decide_false, true_and, and_true, ite_true, ite_false, PT.full, enter0, setAll, forget, Fr.set, Fr.get, PT.get, PT.set, kof, ai, ev, ev1, evp, b_add, b_sub, b_mul, b_quo, b_rem, b_eql, b_neq, b_lss, b_leq, b_gtr, b_geq, b_seql, b_sneq, setD, resV, resL, res1, args, List.take_zero, List.drop_zero, List.take_nil, List.take_succ_cons, List.drop_succ_cons, Nat.reduceAdd, Nat.reduceLeDiff, reduceIte, Bool.not_true, Bool.not_false, Bool.false_eq_true, CA_some, Option.some.injEq, Nat.zero_add, Nat.mul_one, Nat.add_zero, setL, List.set_cons_zero, List.set_cons_succ, fillC]
    simp [d1]
  subst d1
  simp (disch := omega) only [KC_eq, c43, ae3, ahsz, be3, bhsz, ifT, w64, RR, RP, Ty.agg, Ty.size, Ty.sizes, eq_self, ne_eq, not_true, not_false_iff, reduceCtorEq, List.length_cons, List.length_nil, decide_true, decide_false, true_and, and_true, ite_true, ite_false, PT.full, enter0, setAll, forget, Fr.set, Fr.get, PT.get, PT.set, kof, ai, ev, ev1, evp, b_add, b_sub, b_mul, b_quo, b_rem, b_eql, b_neq, b_lss, b_leq, b_gtr, b_geq, b_seql, b_sneq, setD, resV, resL, res1, args, List.take_zero, List.drop_zero, List.take_nil, List.take_succ_cons, List.drop_succ_cons, Nat.reduceAdd, Nat.reduceLeDiff, reduceIte, Bool.not_true, Bool.not_false, Bool.false_eq_true, CA_some, Option.some.injEq, Nat.zero_add, Nat.mul_one, Nat.add_zero, setL, List.set_cons_zero, List.set_cons_succ, fillC]
  refine EqOk.go eq_Light ah2 bh2 (fun d2 => ?_) (fun d2 => ?_)
  case refine_2 =>
    simp (disch := omega) only [KC_eq, c43, ae3, ahsz, be3, bhsz, ifT, w64, RR, RP, Ty.agg, Ty.size, Ty.sizes, eq_self, ne_eq, not_true, not_false_iff, reduceCtorEq, List.length_cons, List.length_nil, decide_true, decide_false, true_and, and_true, ite_true, ite_false, PT.full, enter0, setAll, forget, Fr.set, Fr.get, PT.get, PT.set, kof, ai, ev, ev1, evp, b_add, b_sub, b_mul, b_quo, b_rem, b_eql, b_neq, b_lss, b_leq, b_gtr, b_geq, b_seql, b_sneq, setD, resV, resL, res1, args, List.take_zero, List.drop_zero, List.take_nil, List.take_succ_cons, List.drop_succ_cons, Nat.reduceAdd, Nat.reduceLeDiff, reduceIte, Bool.not_true, Bool.not_false, Bool.false_eq_true, CA_some, Option.some.injEq, Nat.zero_add, Nat.mul_one, Nat.add_zero, setL, List.set_cons_zero, List.set_cons_succ, fillC]
    simp [d2]
  subst d2
  simp (disch := omega) only [KC_eq, c43, ae3, ahsz, be3, bhsz, ifT, w64, RR, RP, Ty.agg, Ty.size, Ty.sizes, eq_self, ne_eq, not_true, not_false_iff, reduceCtorEq, List.length_cons, List.length_nil, decide_true, decide_false, true_and, and_true, ite_true, ite_false, PT.full, enter0, setAll, forget, Fr.set, Fr.get, PT.get, PT.set, kof, ai, ev, ev1, evp, b_add, b_sub, b_mul, b_quo, b_rem, b_eql, b_neq, b_lss, b_leq, b_gtr, b_geq, b_seql, b_sneq, setD, resV, resL, res1, args, List.take_zero, List.drop_zero, List.take_nil, List.take_succ_cons, List.drop_succ_cons, Nat.reduceAdd, Nat.reduceLeDiff, reduceIte, Bool.not_true, Bool.not_false, Bool.false_eq_true, CA_some, Option.some.injEq, Nat.zero_add, Nat.mul_one, Nat.add_zero, setL, List.set_cons_zero, List.set_cons_succ, fillC]
  refine EqOk.go eq_HeadS ah3 bh3 (fun d3 => ?_) (fun d3 => ?_)
  case refine_2 =>
    simp (disch := omega) only [KC_eq, c43, ae3, ahsz, be3, bhsz, ifT, w64, RR, RP, Ty.agg, Ty.size, Ty.sizes, eq_self, ne_eq, not_true, not_false_iff, reduceCtorEq, List.length_cons, List.length_nil, decide_true, decide_false, true_and, and_true, ite_true, ite_false, PT.full, enter0, setAll, forget, Fr.set, Fr.get, PT.get, PT.set, kof, ai, ev, ev1, evp, b_add, b_sub, b_mul, b_quo, b_rem, b_eql, b_neq, b_lss, b_leq, b_gtr, b_geq, b_seql, b_sneq, setD, resV, resL, res1, args, List.take_zero, List.drop_zero, List.take_nil, List.take_succ_cons, List.drop_succ_cons, Nat.reduceAdd, Nat.reduceLeDiff, reduceIte, Bool.not_true, Bool.not_false, Bool.false_eq_true, CA_some, Option.some.injEq, Nat.zero_add, Nat.mul_one, Nat.add_zero, setL, List.set_cons_zero, List.set_cons_succ, fillC]
    simp [d3]
  subst d3
  simp (disch := omega) only [KC_eq, c43, ae3, ahsz, be3, bhsz, ifT, w64, RR, RP, Ty.agg, Ty.size, Ty.sizes, eq_self, ne_eq, not_true, not_false_iff, reduceCtorEq, List.length_cons, List.length_nil, decide_true, decide_false, true_and, and_true, ite_true, ite_false, PT.full, enter0, setAll, forget, Fr.set, Fr.get, PT.get, PT.set, kof, ai, ev, ev1, evp, b_add, b_sub, b_mul, b_quo, b_rem, b_eql, b_neq, b_lss, b_leq, b_gtr, b_geq, b_seql, b_sneq, setD, resV, resL, res1, args, List.take_zero, List.drop_zero, List.take_nil, List.take_succ_cons, List.drop_succ_cons, Nat.reduceAdd, Nat.reduceLeDiff, reduceIte, Bool.not_true, Bool.not_false, Bool.false_eq_true, CA_some, Option.some.injEq, Nat.zero_add, Nat.mul_one, Nat.add_zero, setL, List.set_cons_zero, List.set_cons_succ, fillC]
end Go.Eng.U
set_option maxRecDepth 100000
set_option linter.unusedSimpArgs false
set_option linter.unusedVariables false
namespace Go.Eng.U
open Go.Eng.F (Desk deskOk)
/-- laws.FnExactDeskOk -/
def c6 : AF := ⟨1, 5, [.tmp 2], (.seq (.ops [.i (.lbox 1 (.s 0)), .i (.mov 2 (.c (.val false [.bool false])))]) (.seq (.ops [.i (.mov 3 (.c (.val false [.int .i64 1048576])))]) (.seq (.ops [.i (.ldl 7 1 (.s 1) 16 true), .i (.mov 8 (.s 3)), .i (.call 10 39 false [(.s 7), (.s 8)]), .i (.mov 3 (.s 9))]) (.seq (.seq (.ops [.i (.mov 10 (.s 3)), .i (.bin 11 .lss (.s 10) (.c (.val false [.int .i64 0])))]) (.cond (.s 11) (.seq (.ops [.i (.mov 2 (.c (.val false [.bool true])))]) .ret) .skip)) (.seq (.ops [.i (.ldl 12 1 (.s 1) 16 true), .i (.call 14 41 false [(.s 12)]), .i (.call 15 40 false [(.s 13)]), .i (.mov 4 (.s 14))]) (.seq (.ops [.i (.ldl 15 1 (.s 1) 16 true), .i (.call 17 41 false [(.s 15)]), .i (.lal 5 [.int .i64 0, .int .i64 0, .int .i64 0, .int .i64 0, .int .i64 0, .nils, .int .i64 0, .int .i64 0, .int .i64 0, .int .i64 0, .int .i64 0, .nils, .int .i64 0, .nils, .nils, .nils]), .i (.stl 5 (.s 5) (.s 16) 16)]) (.seq (.ops [.i (.ldl 17 5 (.s 5) 16 true), .i (.call 19 42 false [(.s 17)]), .i (.mov 6 (.s 18))]) (.seq (.seq (.ops [.i (.mov 19 (.s 6)), .i (.mov 20 (.s 4)), .i (.beq 21 true (.s 19) (.s 20))]) (.cond (.s 21) (.seq (.ops [.i (.mov 2 (.c (.val false [.bool false])))]) .ret) .skip)) (.seq (.seq (.ops [.i (.ldl 22 5 (.s 5) 16 true), .i (.ldl 23 1 (.s 1) 16 true), .i (.call 25 41 false [(.s 23)]), .i (.call 26 43 false [(.s 22), (.s 24)]), .i (.not 26 (.s 25))]) (.cond (.s 26) (.seq (.ops [.i (.mov 2 (.c (.val false [.bool false])))]) .ret) .skip)) (.seq (.ops [.i (.mov 2 (.c (.val false [.bool true])))]) .ret))))))))))⟩
theorem k6 : cd 6 = some c6 := by kernel_rfl
theorem lenb {h : H} {kk : IntKind} {c : C} {v : Tv} {S : List Nat} (hv : Rp h (.sl (.int kk)) [c] v S) : lenC c = some (wt v) := by
  obtain ⟨c2, xs, id, off, bs, S', e, rfl, hm, hl, hat, hce, hbs, hel, hS⟩ := hv.view
  injection e with e
  subst e
  rw [hl]
  simp [wt, (wts_int hel).1]
theorem law_DeskOk : ∀ h vs, Argp h [TDesk] vs → WC cd 6 vs h (fun r _ => r = .val false [.bool true]) := by
  intro h vs ha
  obtain ⟨cs0, v0, S0, r0, rfl, hv0, ha0⟩ := ha
  have hr0 : r0 = [] := ha0
  subst hr0
  have hsz0 : cs0.length = 16 := hv0.size
  have hall0 : cs0.take 16 = cs0 := List.take_of_length_le (by omega)
  obtain ⟨d, rfl⟩ := Desk.ex hv0.ok
  have hc0 : cnT TDesk d.tv ≤ 36 * (1 + wt d.tv) := Nat.le_trans (cnT_le _ _) (cnE_le _ _)
  refine WS_enter k6 rfl ?_
  simp (disch := omega) only [KC_eq, c6, hsz0, hall0, ifT, w64, valR, beq_self_eq_true, bne_self_eq_false, List.getElem?_cons_zero, List.getElem?_cons_succ, Bool.or_false, Bool.false_or, Bool.or_self, RR, RP, Ty.agg, Ty.size, Ty.sizes, eq_self, ne_eq, not_true, not_false_iff, reduceCtorEq, List.length_cons, List.length_nil, decide_true, decide_false, true_and, and_true, ite_true, ite_false, PT.full, enter0, setAll, forget, Fr.set, Fr.get, PT.get, PT.set, kof, ai, ev, ev1, evp, b_add, b_sub, b_mul, b_quo, b_rem, b_eql, b_neq, b_lss, b_leq, b_gtr, b_geq, b_seql, b_sneq, setD, resV, resL, res1, args, List.take_zero, List.drop_zero, List.take_nil, List.take_succ_cons, List.drop_succ_cons, Nat.reduceAdd, Nat.reduceLeDiff, reduceIte, Bool.not_true, Bool.not_false, Bool.false_eq_true, CA_some, Option.some.injEq, Nat.zero_add, Nat.mul_one, Nat.add_zero, setL, List.set_cons_zero, List.set_cons_succ, fillC]
  refine SzOk.go sz_Desk hv0 (k := 1048576) (by omega) (fun hf0 => ?_) (fun hf0 => ?_)
  case refine_2 =>
    simp (disch := omega) only [KC_eq, c6, hsz0, hall0, ifT, w64, valR, beq_self_eq_true, bne_self_eq_false, List.getElem?_cons_zero, List.getElem?_cons_succ, Bool.or_false, Bool.false_or, Bool.or_self, RR, RP, Ty.agg, Ty.size, Ty.sizes, eq_self, ne_eq, not_true, not_false_iff, reduceCtorEq, List.length_cons, List.length_nil, decide_true, decide_false, true_and, and_true, ite_true, ite_false, PT.full, enter0, setAll, forget, Fr.set, Fr.get, PT.get, PT.set, kof, ai, ev, ev1, evp, b_add, b_sub, b_mul, b_quo, b_rem, b_eql, b_neq, b_lss, b_leq, b_gtr, b_geq, b_seql, b_sneq, setD, resV, resL, res1, args, List.take_zero, List.drop_zero, List.take_nil, List.take_succ_cons, List.drop_succ_cons, Nat.reduceAdd, Nat.reduceLeDiff, reduceIte, Bool.not_true, Bool.not_false, Bool.false_eq_true, CA_some, Option.some.injEq, Nat.zero_add, Nat.mul_one, Nat.add_zero, setL, List.set_cons_zero, List.set_cons_succ, fillC]
    refine BR_dec (fun hn => ?_) (fun hn => absurd (show (-1 : Int) < 0 by omega) hn)
    simp (disch := omega) only [KC_eq, c6, hsz0, hall0, ifT, w64, valR, beq_self_eq_true, bne_self_eq_false, List.getElem?_cons_zero, List.getElem?_cons_succ, Bool.or_false, Bool.false_or, Bool.or_self, RR, RP, Ty.agg, Ty.size, Ty.sizes, eq_self, ne_eq, not_true, not_false_iff, reduceCtorEq, List.length_cons, List.length_nil, decide_true, decide_false, true_and, and_true, ite_true, ite_false, PT.full, enter0, setAll, forget, Fr.set, Fr.get, PT.get, PT.set, kof, ai, ev, ev1, evp, b_add, b_sub, b_mul, b_quo, b_rem, b_eql, b_neq, b_lss, b_leq, b_gtr, b_geq, b_seql, b_sneq, setD, resV, resL, res1, args, List.take_zero, List.drop_zero, List.take_nil, List.take_succ_cons, List.drop_succ_cons, Nat.reduceAdd, Nat.reduceLeDiff, reduceIte, Bool.not_true, Bool.not_false, Bool.false_eq_true, CA_some, Option.some.injEq, Nat.zero_add, Nat.mul_one, Nat.add_zero, setL, List.set_cons_zero, List.set_cons_succ, fillC]
  simp (disch := omega) only [KC_eq, c6, hsz0, hall0, ifT, w64, valR, beq_self_eq_true, bne_self_eq_false, List.getElem?_cons_zero, List.getElem?_cons_succ, Bool.or_false, Bool.false_or, Bool.or_self, RR, RP, Ty.agg, Ty.size, Ty.sizes, eq_self, ne_eq, not_true, not_false_iff, reduceCtorEq, List.length_cons, List.length_nil, decide_true, decide_false, true_and, and_true, ite_true, ite_false, PT.full, enter0, setAll, forget, Fr.set, Fr.get, PT.get, PT.set, kof, ai, ev, ev1, evp, b_add, b_sub, b_mul, b_quo, b_rem, b_eql, b_neq, b_lss, b_leq, b_gtr, b_geq, b_seql, b_sneq, setD, resV, resL, res1, args, List.take_zero, List.drop_zero, List.take_nil, List.take_succ_cons, List.drop_succ_cons, Nat.reduceAdd, Nat.reduceLeDiff, reduceIte, Bool.not_true, Bool.not_false, Bool.false_eq_true, CA_some, Option.some.injEq, Nat.zero_add, Nat.mul_one, Nat.add_zero, setL, List.set_cons_zero, List.set_cons_succ, fillC]
  refine BR_dec (fun hn => absurd hn (by omega)) (fun hn => ?_)
  simp (disch := omega) only [KC_eq, c6, hsz0, hall0, ifT, w64, valR, beq_self_eq_true, bne_self_eq_false, List.getElem?_cons_zero, List.getElem?_cons_succ, Bool.or_false, Bool.false_or, Bool.or_self, RR, RP, Ty.agg, Ty.size, Ty.sizes, eq_self, ne_eq, not_true, not_false_iff, reduceCtorEq, List.length_cons, List.length_nil, decide_true, decide_false, true_and, and_true, ite_true, ite_false, PT.full, enter0, setAll, forget, Fr.set, Fr.get, PT.get, PT.set, kof, ai, ev, ev1, evp, b_add, b_sub, b_mul, b_quo, b_rem, b_eql, b_neq, b_lss, b_leq, b_gtr, b_geq, b_seql, b_sneq, setD, resV, resL, res1, args, List.take_zero, List.drop_zero, List.take_nil, List.take_succ_cons, List.drop_succ_cons, Nat.reduceAdd, Nat.reduceLeDiff, reduceIte, Bool.not_true, Bool.not_false, Bool.false_eq_true, CA_some, Option.some.injEq, Nat.zero_add, Nat.mul_one, Nat.add_zero, setL, List.set_cons_zero, List.set_cons_succ, fillC]
  refine WC_call (to_Desk hv0 (by omega)) ?_
  rintro r0 g0 ⟨t0, d0, U0, hg0, rfl, z0, o0, l0⟩
  have n0 := len_app' hg0
  have b0 := z0.lt
  have hd0 : d0.length = 16 := z0.size
  have ht0 : d0.take 16 = d0 := List.take_of_length_le (by omega)
  have hs0_0 : setL [.int .i64 0, .int .i64 0, .int .i64 0, .int .i64 0, .int .i64 0, .nils, .int .i64 0, .int .i64 0, .int .i64 0, .int .i64 0, .int .i64 0, .nils, .int .i64 0, .nils, .nils, .nils] 0 d0 = d0 := setL_all (by rw [hd0]; rfl)
  simp (disch := omega) only [KC_eq, c6, hsz0, hall0, hd0, ht0, hs0_0, ifT, w64, valR, beq_self_eq_true, bne_self_eq_false, List.getElem?_cons_zero, List.getElem?_cons_succ, Bool.or_false, Bool.false_or, Bool.or_self, RR, RP, Ty.agg, Ty.size, Ty.sizes, eq_self, ne_eq, not_true, not_false_iff, reduceCtorEq, List.length_cons, List.length_nil, decide_true, decide_false, true_and, and_true, ite_true, ite_false, PT.full, enter0, setAll, forget, Fr.set, Fr.get, PT.get, PT.set, kof, ai, ev, ev1, evp, b_add, b_sub, b_mul, b_quo, b_rem, b_eql, b_neq, b_lss, b_leq, b_gtr, b_geq, b_seql, b_sneq, setD, resV, resL, res1, args, List.take_zero, List.drop_zero, List.take_nil, List.take_succ_cons, List.drop_succ_cons, Nat.reduceAdd, Nat.reduceLeDiff, reduceIte, Bool.not_true, Bool.not_false, Bool.false_eq_true, CA_some, Option.some.injEq, Nat.zero_add, Nat.mul_one, Nat.add_zero, setL, List.set_cons_zero, List.set_cons_succ, fillC]
  refine WC_call (F.io_spec_DeskOk ⟨_, _, rfl, ⟨_, z0⟩, rfl⟩ (by omega)) ?_
  rintro r1 g1 ⟨t1, css1, U1, hg1, rfl, zz1, o1, l1⟩
  have n1 := len_app' hg1
  obtain ⟨d1_0, cr1_0, U1_0, V1_0, rfl, rfl, z1_0, zz1_0⟩ := zz1
  obtain ⟨q1_0, rfl, hq1_0, rfl⟩ := z1_0.bool
  injection hq1_0 with hq1_0; subst hq1_0
  obtain ⟨rfl, rfl⟩ := zz1_0
  simp (disch := omega) only [KC_eq, c6, hsz0, hall0, hd0, ht0, hs0_0, ifT, w64, valR, beq_self_eq_true, bne_self_eq_false, List.getElem?_cons_zero, List.getElem?_cons_succ, Bool.or_false, Bool.false_or, Bool.or_self, RR, RP, Ty.agg, Ty.size, Ty.sizes, eq_self, ne_eq, not_true, not_false_iff, reduceCtorEq, List.length_cons, List.length_nil, decide_true, decide_false, true_and, and_true, ite_true, ite_false, PT.full, enter0, setAll, forget, Fr.set, Fr.get, PT.get, PT.set, kof, ai, ev, ev1, evp, b_add, b_sub, b_mul, b_quo, b_rem, b_eql, b_neq, b_lss, b_leq, b_gtr, b_geq, b_seql, b_sneq, setD, resV, resL, res1, args, List.take_zero, List.drop_zero, List.take_nil, List.take_succ_cons, List.drop_succ_cons, Nat.reduceAdd, Nat.reduceLeDiff, reduceIte, Bool.not_true, Bool.not_false, Bool.false_eq_true, CA_some, Option.some.injEq, Nat.zero_add, Nat.mul_one, Nat.add_zero, setL, List.set_cons_zero, List.set_cons_succ, fillC]
  refine WC_call (to_Desk (Rp.app' hg1 (Rp.app' hg0 hv0)) (by omega)) ?_
  rintro r2 g2 ⟨t2, d2, U2, hg2, rfl, z2, o2, l2⟩
  have n2 := len_app' hg2
  have b2 := z2.lt
  have hd2 : d2.length = 16 := z2.size
  have ht2 : d2.take 16 = d2 := List.take_of_length_le (by omega)
  have hs2_0 : setL [.int .i64 0, .int .i64 0, .int .i64 0, .int .i64 0, .int .i64 0, .nils, .int .i64 0, .int .i64 0, .int .i64 0, .int .i64 0, .int .i64 0, .nils, .int .i64 0, .nils, .nils, .nils] 0 d2 = d2 := setL_all (by rw [hd2]; rfl)
  simp (disch := omega) only [KC_eq, c6, hsz0, hall0, hd0, ht0, hs0_0, hd2, ht2, hs2_0, ifT, w64, valR, beq_self_eq_true, bne_self_eq_false, List.getElem?_cons_zero, List.getElem?_cons_succ, Bool.or_false, Bool.false_or, Bool.or_self, RR, RP, Ty.agg, Ty.size, Ty.sizes, eq_self, ne_eq, not_true, not_false_iff, reduceCtorEq, List.length_cons, List.length_nil, decide_true, decide_false, true_and, and_true, ite_true, ite_false, PT.full, enter0, setAll, forget, Fr.set, Fr.get, PT.get, PT.set, kof, ai, ev, ev1, evp, b_add, b_sub, b_mul, b_quo, b_rem, b_eql, b_neq, b_lss, b_leq, b_gtr, b_geq, b_seql, b_sneq, setD, resV, resL, res1, args, List.take_zero, List.drop_zero, List.take_nil, List.take_succ_cons, List.drop_succ_cons, Nat.reduceAdd, Nat.reduceLeDiff, reduceIte, Bool.not_true, Bool.not_false, Bool.false_eq_true, CA_some, Option.some.injEq, Nat.zero_add, Nat.mul_one, Nat.add_zero, setL, List.set_cons_zero, List.set_cons_succ, fillC]
  refine WC_call (F.io_impl_DeskOk ⟨_, _, rfl, ⟨_, z2⟩, rfl⟩ (by omega)) ?_
  rintro r3 g3 ⟨t3, css3, U3, hg3, rfl, zz3, o3, l3⟩
  have n3 := len_app' hg3
  obtain ⟨d3_0, cr3_0, U3_0, V3_0, rfl, rfl, z3_0, zz3_0⟩ := zz3
  obtain ⟨q3_0, rfl, hq3_0, rfl⟩ := z3_0.bool
  injection hq3_0 with hq3_0; subst hq3_0
  obtain ⟨rfl, rfl⟩ := zz3_0
  simp (disch := omega) only [KC_eq, c6, hsz0, hall0, hd0, ht0, hs0_0, hd2, ht2, hs2_0, ifT, w64, valR, beq_self_eq_true, bne_self_eq_false, List.getElem?_cons_zero, List.getElem?_cons_succ, Bool.or_false, Bool.false_or, Bool.or_self, RR, RP, Ty.agg, Ty.size, Ty.sizes, eq_self, ne_eq, not_true, not_false_iff, reduceCtorEq, List.length_cons, List.length_nil, decide_true, decide_false, true_and, and_true, ite_true, ite_false, PT.full, enter0, setAll, forget, Fr.set, Fr.get, PT.get, PT.set, kof, ai, ev, ev1, evp, b_add, b_sub, b_mul, b_quo, b_rem, b_eql, b_neq, b_lss, b_leq, b_gtr, b_geq, b_seql, b_sneq, setD, resV, resL, res1, args, List.take_zero, List.drop_zero, List.take_nil, List.take_succ_cons, List.drop_succ_cons, Nat.reduceAdd, Nat.reduceLeDiff, reduceIte, Bool.not_true, Bool.not_false, Bool.false_eq_true, CA_some, Option.some.injEq, Nat.zero_add, Nat.mul_one, Nat.add_zero, setL, List.set_cons_zero, List.set_cons_succ, fillC]
  refine WC_call (to_Desk (Rp.app' hg3 (Rp.app' hg2 (Rp.app' hg1 (Rp.app' hg0 hv0)))) (by omega)) ?_
  rintro r4 g4 ⟨t4, d4, U4, hg4, rfl, z4, o4, l4⟩
  have n4 := len_app' hg4
  have b4 := z4.lt
  have hd4 : d4.length = 16 := z4.size
  have ht4 : d4.take 16 = d4 := List.take_of_length_le (by omega)
  have hs4_0 : setL [.int .i64 0, .int .i64 0, .int .i64 0, .int .i64 0, .int .i64 0, .nils, .int .i64 0, .int .i64 0, .int .i64 0, .int .i64 0, .int .i64 0, .nils, .int .i64 0, .nils, .nils, .nils] 0 d4 = d4 := setL_all (by rw [hd4]; rfl)
  simp (disch := omega) only [KC_eq, c6, hsz0, hall0, hd0, ht0, hs0_0, hd2, ht2, hs2_0, hd4, ht4, hs4_0, ifT, w64, valR, beq_self_eq_true, bne_self_eq_false, List.getElem?_cons_zero, List.getElem?_cons_succ, Bool.or_false, Bool.false_or, Bool.or_self, RR, RP, Ty.agg, Ty.size, Ty.sizes, eq_self, ne_eq, not_true, not_false_iff, reduceCtorEq, List.length_cons, List.length_nil, decide_true, decide_false, true_and, and_true, ite_true, ite_false, PT.full, enter0, setAll, forget, Fr.set, Fr.get, PT.get, PT.set, kof, ai, ev, ev1, evp, b_add, b_sub, b_mul, b_quo, b_rem, b_eql, b_neq, b_lss, b_leq, b_gtr, b_geq, b_seql, b_sneq, setD, resV, resL, res1, args, List.take_zero, List.drop_zero, List.take_nil, List.take_succ_cons, List.drop_succ_cons, Nat.reduceAdd, Nat.reduceLeDiff, reduceIte, Bool.not_true, Bool.not_false, Bool.false_eq_true, CA_some, Option.some.injEq, Nat.zero_add, Nat.mul_one, Nat.add_zero, setL, List.set_cons_zero, List.set_cons_succ, fillC]
  refine EqOk.go eq_Desk (Rp.app' hg4 (Rp.app' hg3 z2)) z4 (fun _ => ?_) (fun hne => absurd rfl hne)
  simp (disch := omega) only [KC_eq, c6, hsz0, hall0, hd0, ht0, hs0_0, hd2, ht2, hs2_0, hd4, ht4, hs4_0, ifT, w64, valR, beq_self_eq_true, bne_self_eq_false, List.getElem?_cons_zero, List.getElem?_cons_succ, Bool.or_false, Bool.false_or, Bool.or_self, RR, RP, Ty.agg, Ty.size, Ty.sizes, eq_self, ne_eq, not_true, not_false_iff, reduceCtorEq, List.length_cons, List.length_nil, decide_true, decide_false, true_and, and_true, ite_true, ite_false, PT.full, enter0, setAll, forget, Fr.set, Fr.get, PT.get, PT.set, kof, ai, ev, ev1, evp, b_add, b_sub, b_mul, b_quo, b_rem, b_eql, b_neq, b_lss, b_leq, b_gtr, b_geq, b_seql, b_sneq, setD, resV, resL, res1, args, List.take_zero, List.drop_zero, List.take_nil, List.take_succ_cons, List.drop_succ_cons, Nat.reduceAdd, Nat.reduceLeDiff, reduceIte, Bool.not_true, Bool.not_false, Bool.false_eq_true, CA_some, Option.some.injEq, Nat.zero_add, Nat.mul_one, Nat.add_zero, setL, List.set_cons_zero, List.set_cons_succ, fillC]
end Go.Eng.U
