import Derived.Test.YtaicdpancmfhnaaLgBc
set_option maxRecDepth 100000
set_option linter.unusedSimpArgs false
set_option linter.unusedVariables false
namespace Go.Eng.U
theorem hd_HeadS : HdOk cd 65 (.sl THead) := by
  intro h cs v S k hT hv hk
  by_cases hsl : ∃ xs, v = .l xs
  case neg =>
    obtain ⟨xs, e, _⟩ := hv.sl
    cases v <;> simp [mkT] at e
    exact absurd ⟨_, rfl⟩ hsl
  obtain ⟨zs, rfl⟩ := hsl
  have hTe : ∀ i (hi : i < zs.length), Tvd THead zs[i] := fun i hi => by
    obtain ⟨h0, cs0, S0, hT⟩ := hT
    obtain ⟨_, ys, _, _, _, _, _, e, _, _, _, _, _, hel0, _⟩ := hT.view
    simp at e
    subst e
    obtain ⟨Si, hx⟩ := hel0.at hi
    exact ⟨_, _, _, hx⟩
  obtain ⟨c, xs, id, off, bs, S', rfl, hxs, hm, hl, hat, hce, hbs, hel, hS⟩ := hv.view
  have hcn : cnT (.sl THead) (.l zs) = (zs.map (cnE THead)).sum := rfl
  rw [hcn] at hk ⊢
  have hxs' : xs = mkL (mkE THead) (cnE THead) zs k := by
    have e : mkT (.sl THead) (.l zs) k = .l (mkL (mkE THead) (cnE THead) zs k) := rfl
    rw [e] at hxs
    exact (by simpa using hxs.symm)
  have hlen : xs.length = zs.length := by rw [hxs', mkL_len]
  have hs1 : THead.size = 10 := rfl
  rw [hs1] at hat hbs
  refine WS_enter k65 rfl ?_
  simp (disch := omega) only [c65, RR, RP, Ty.agg, Ty.size, Ty.sizes, eq_self, ne_eq, not_true, not_false_iff, reduceCtorEq, List.length_cons, List.length_nil, decide_true, decide_false, true_and, and_true, ite_true, ite_false, PT.full, enter0, setAll, forget, Fr.set, Fr.get, PT.get, PT.set, kof, ai, ev, ev1, evp, b_add, b_sub, b_mul, b_quo, b_rem, b_eql, b_neq, b_lss, b_leq, b_gtr, b_geq, b_seql, b_sneq, setD, resV, resL, res1, args, List.take_zero, List.drop_zero, List.take_nil, List.take_succ_cons, List.drop_succ_cons, Nat.reduceAdd, Nat.reduceLeDiff, reduceIte, Bool.not_true, Bool.not_false, Bool.false_eq_true, CA_some, Option.some.injEq, Nat.zero_add, Nat.mul_one, Nat.add_zero, setL, List.set_cons_zero, List.set_cons_succ, fillC]
  refine WS_loop2 (σ := Nat) (f1 := _) (by simp only [RR, RP, Ty.agg, Ty.size, Ty.sizes, eq_self, ne_eq, not_true, not_false_iff, reduceCtorEq, List.length_cons, List.length_nil, decide_true, decide_false, true_and, and_true, ite_true, ite_false, PT.full, enter0, setAll, forget, Fr.set, Fr.get, PT.get, PT.set, kof, ai, ev, ev1, evp, b_add, b_sub, b_mul, b_quo, b_rem, b_eql, b_neq, b_lss, b_leq, b_gtr, b_geq, b_seql, b_sneq, setD, resV, resL, res1, args, List.take_zero, List.drop_zero, List.take_nil, List.take_succ_cons, List.drop_succ_cons, Nat.reduceAdd, Nat.reduceLeDiff, reduceIte, Bool.not_true, Bool.not_false, Bool.false_eq_true, CA_some, Option.some.injEq, Nat.zero_add, Nat.mul_one, Nat.add_zero, setL, List.set_cons_zero, List.set_cons_succ, fillC]; rfl) (fun i => [(5, .val false [.int .i64 i]), (1, .val false [.int .i64 ((k + ((zs.take i).map (cnE THead)).sum : Nat) : Int)])])
    (fun i g h' => g = xs.length - i ∧ i ≤ xs.length ∧ h' = h) 0 xs.length (by simp only [List.take_zero, List.map_nil, List.sum_nil, RR, RP, Ty.agg, Ty.size, Ty.sizes, eq_self, ne_eq, not_true, not_false_iff, reduceCtorEq, List.length_cons, List.length_nil, decide_true, decide_false, true_and, and_true, ite_true, ite_false, PT.full, enter0, setAll, forget, Fr.set, Fr.get, PT.get, PT.set, kof, ai, ev, ev1, evp, b_add, b_sub, b_mul, b_quo, b_rem, b_eql, b_neq, b_lss, b_leq, b_gtr, b_geq, b_seql, b_sneq, setD, resV, resL, res1, args, List.take_zero, List.drop_zero, List.take_nil, List.take_succ_cons, List.drop_succ_cons, Nat.reduceAdd, Nat.reduceLeDiff, reduceIte, Bool.not_true, Bool.not_false, Bool.false_eq_true, CA_some, Option.some.injEq, Nat.zero_add, Nat.mul_one, Nat.add_zero, setL, List.set_cons_zero, List.set_cons_succ, fillC]; rfl) ⟨by omega, by omega, rfl⟩ ?_
  rintro i g h' ⟨hg, hi, rfl⟩
  simp (disch := omega) only [c65, hl, w64, RR, RP, Ty.agg, Ty.size, Ty.sizes, eq_self, ne_eq, not_true, not_false_iff, reduceCtorEq, List.length_cons, List.length_nil, decide_true, decide_false, true_and, and_true, ite_true, ite_false, PT.full, enter0, setAll, forget, Fr.set, Fr.get, PT.get, PT.set, kof, ai, ev, ev1, evp, b_add, b_sub, b_mul, b_quo, b_rem, b_eql, b_neq, b_lss, b_leq, b_gtr, b_geq, b_seql, b_sneq, setD, resV, resL, res1, args, List.take_zero, List.drop_zero, List.take_nil, List.take_succ_cons, List.drop_succ_cons, Nat.reduceAdd, Nat.reduceLeDiff, reduceIte, Bool.not_true, Bool.not_false, Bool.false_eq_true, CA_some, Option.some.injEq, Nat.zero_add, Nat.mul_one, Nat.add_zero, setL, List.set_cons_zero, List.set_cons_succ, fillC]
  refine BR_dec (fun hlt => ?_) (fun hlt => ?_)
  · have hix : i < xs.length := by omega
    have hiz : i < zs.length := by omega
    have hsi := sum_take (g := cnE THead) (List.getElem?_eq_getElem hiz)
    have hsl := sum_le (g := cnE THead) zs (i + 1)
    have hfit : off + i * 10 + 10 ≤ bs.length := by
      have := Nat.mul_le_mul_right 10 hix
      rw [Nat.succ_mul] at this
      omega
    obtain ⟨Si, k1⟩ := hel.at hix
    have hxi : xs[i] = mkE THead zs[i] (k + ((zs.take i).map (cnE THead)).sum) := by
      have e1 : xs[i]? = some (mkE THead zs[i] (k + ((zs.take i).map (cnE THead)).sum)) := by
        rw [hxs']
        have e2 : zs = zs.take i ++ zs[i] :: zs.drop (i + 1) := by rw [← List.drop_eq_getElem_cons hiz, List.take_append_drop]
        conv => lhs; rw [e2, mkL_app, mkL]
        have hl2 : (mkL (mkE THead) (cnE THead) (zs.take i) k).length = i := by rw [mkL_len, List.length_take]; omega
        rw [List.getElem?_append_right (by omega), hl2, Nat.sub_self, List.getElem?_cons_zero]
      rw [List.getElem?_eq_getElem hix] at e1
      simpa using e1
    rw [hs1] at k1
    obtain ⟨x0, x1, x2, x3, x4, x5, x6, x7, x8, x9, hx⟩ := len_10 k1.size
    rw [hx] at k1
    obtain ⟨pre, post, hpl, rfl⟩ := around hx hfit
    have hat' := hat i hix
    rw [← hpl] at hat'
    have hcb := (hce (by omega)).1
    obtain ⟨h0_, cs0_, S0_, hTi⟩ := hTe i hiz
    obtain ⟨w_vs, w_hv, w_q0⟩ := hTi.st
    obtain ⟨w_v0, w_r0, w_S0, w_T0, rfl, w_e0, w_h0, w_q1⟩ := w_q0.step
    obtain ⟨m0, _, rfl, _, _, _⟩ := w_h0.int
    obtain ⟨w_v1, w_r1, w_S1, w_T1, rfl, w_e1, w_h1, w_q2⟩ := w_q1.step
    obtain ⟨m1, _, rfl, _, _, _⟩ := w_h1.int
    obtain ⟨w_v2, w_r2, w_S2, w_T2, rfl, w_e2, w_h2, w_q3⟩ := w_q2.step
    obtain ⟨m2, _, rfl, _, _, _⟩ := w_h2.int
    obtain ⟨w_v3, w_r3, w_S3, w_T3, rfl, w_e3, w_h3, w_q4⟩ := w_q3.step
    obtain ⟨w_v4, w_r4, w_S4, w_T4, rfl, w_e4, w_h4, w_q5⟩ := w_q4.step
    obtain ⟨w_v5, w_r5, w_S5, w_T5, rfl, w_e5, w_h5, w_q6⟩ := w_q5.step
    obtain ⟨w5_vs, w5_hv, w5_q0⟩ := w_h5.st
    obtain ⟨w5_v0, w5_r0, w5_S0, w5_T0, rfl, w5_e0, w5_h0, w5_q1⟩ := w5_q0.step
    obtain ⟨m5, _, rfl, _, _, _⟩ := w5_h0.int
    obtain ⟨w5_v1, w5_r1, w5_S1, w5_T1, rfl, w5_e1, w5_h1, w5_q2⟩ := w5_q1.step
    obtain ⟨m6, _, rfl, _, _, _⟩ := w5_h1.int
    obtain ⟨w5_v2, w5_r2, w5_S2, w5_T2, rfl, w5_e2, w5_h2, w5_q3⟩ := w5_q2.step
    obtain ⟨w5_v3, w5_r3, w5_S3, w5_T3, rfl, w5_e3, w5_h3, w5_q4⟩ := w5_q3.step
    obtain ⟨w5_v4, w5_r4, w5_S4, w5_T4, rfl, w5_e4, w5_h4, w5_q5⟩ := w5_q4.step
    obtain ⟨_, rfl, _⟩ := w5_q5
    subst w5_hv
    obtain ⟨_, rfl, _⟩ := w_q6
    have hzi : zs[i] = .r [.i m0, .i m1, .i m2, w_v3, w_v4, .r [.i m5, .i m6, w5_v2, w5_v3, w5_v4]] := w_hv
    have hmkE : xs[i] = .r [.i (IntKind.i64.wrap (((k + ((zs.take i).map (cnE THead)).sum) : Nat) : Int)), .i (IntKind.i64.wrap ((((k + ((zs.take i).map (cnE THead)).sum) + 1) : Nat) : Int)), .i (IntKind.i64.wrap (((((k + ((zs.take i).map (cnE THead)).sum) + 1) + 1) : Nat) : Int)), mkE (.sl (.int .u8)) w_v3 (((((k + ((zs.take i).map (cnE THead)).sum) + 1) + 1) + 1)), mkE (.sl (.int .u8)) w_v4 ((((((k + ((zs.take i).map (cnE THead)).sum) + 1) + 1) + 1) + cnE (.sl (.int .u8)) w_v3)), .r [.i (IntKind.i64.wrap ((((((((k + ((zs.take i).map (cnE THead)).sum) + 1) + 1) + 1) + cnE (.sl (.int .u8)) w_v3) + cnE (.sl (.int .u8)) w_v4) : Nat) : Int)), .i (IntKind.i64.wrap (((((((((k + ((zs.take i).map (cnE THead)).sum) + 1) + 1) + 1) + cnE (.sl (.int .u8)) w_v3) + cnE (.sl (.int .u8)) w_v4) + 1) : Nat) : Int)), mkE (.sl (.int .u8)) w5_v2 (((((((((k + ((zs.take i).map (cnE THead)).sum) + 1) + 1) + 1) + cnE (.sl (.int .u8)) w_v3) + cnE (.sl (.int .u8)) w_v4) + 1) + 1)), mkE (.sl (.int .u8)) w5_v3 ((((((((((k + ((zs.take i).map (cnE THead)).sum) + 1) + 1) + 1) + cnE (.sl (.int .u8)) w_v3) + cnE (.sl (.int .u8)) w_v4) + 1) + 1) + cnE (.sl (.int .u8)) w5_v2)), mkE (.sl (.sl (.int .u8))) w5_v4 (((((((((((k + ((zs.take i).map (cnE THead)).sum) + 1) + 1) + 1) + cnE (.sl (.int .u8)) w_v3) + cnE (.sl (.int .u8)) w_v4) + 1) + 1) + cnE (.sl (.int .u8)) w5_v2) + cnE (.sl (.int .u8)) w5_v3))]] := by rw [hxi, hzi]; rfl
    have hcne : cnE THead zs[i] = (1 + (1 + (1 + (cnE (.sl (.int .u8)) w_v3 + (cnE (.sl (.int .u8)) w_v4 + ((1 + (1 + (cnE (.sl (.int .u8)) w5_v2 + (cnE (.sl (.int .u8)) w5_v3 + (cnE (.sl (.sl (.int .u8))) w5_v4 + 0))))) + 0)))))) := by rw [hzi]; rfl
    rw [hcne] at hsi
    obtain ⟨p_vs, p_hv, p_q0⟩ := k1.st
    obtain ⟨p_v0, p_r0, p_S0, p_T0, rfl, rfl, p_h0, p_q1⟩ := p_q0.step
    simp only [Ty.size, Ty.sizes, Nat.reduceAdd, Nat.zero_add, List.drop_zero, List.drop_succ_cons, List.take_succ_cons, List.take_zero] at p_h0
    obtain ⟨n0, e0, rfl, rfl, lo0, hi0⟩ := p_h0.int
    simp only [List.cons.injEq, and_true] at e0
    subst e0
    obtain ⟨p_v1, p_r1, p_S1, p_T1, rfl, rfl, p_h1, p_q2⟩ := p_q1.step
    simp only [Ty.size, Ty.sizes, Nat.reduceAdd, Nat.zero_add, List.drop_zero, List.drop_succ_cons, List.take_succ_cons, List.take_zero] at p_h1
    obtain ⟨n1, e1, rfl, rfl, lo1, hi1⟩ := p_h1.int
    simp only [List.cons.injEq, and_true] at e1
    subst e1
    obtain ⟨p_v2, p_r2, p_S2, p_T2, rfl, rfl, p_h2, p_q3⟩ := p_q2.step
    simp only [Ty.size, Ty.sizes, Nat.reduceAdd, Nat.zero_add, List.drop_zero, List.drop_succ_cons, List.take_succ_cons, List.take_zero] at p_h2
    obtain ⟨n2, e2, rfl, rfl, lo2, hi2⟩ := p_h2.int
    simp only [List.cons.injEq, and_true] at e2
    subst e2
    obtain ⟨p_v3, p_r3, p_S3, p_T3, rfl, rfl, p_h3, p_q4⟩ := p_q3.step
    simp only [Ty.size, Ty.sizes, Nat.reduceAdd, Nat.zero_add, List.drop_zero, List.drop_succ_cons, List.take_succ_cons, List.take_zero] at p_h3
    have h3 := p_h3
    obtain ⟨p_v4, p_r4, p_S4, p_T4, rfl, rfl, p_h4, p_q5⟩ := p_q4.step
    simp only [Ty.size, Ty.sizes, Nat.reduceAdd, Nat.zero_add, List.drop_zero, List.drop_succ_cons, List.take_succ_cons, List.take_zero] at p_h4
    have h4 := p_h4
    obtain ⟨p_v5, p_r5, p_S5, p_T5, rfl, rfl, p_h5, p_q6⟩ := p_q5.step
    simp only [Ty.size, Ty.sizes, Nat.reduceAdd, Nat.zero_add, List.drop_zero, List.drop_succ_cons, List.take_succ_cons, List.take_zero] at p_h5
    obtain ⟨p5_vs, p5_hv, p5_q0⟩ := p_h5.st
    obtain ⟨p5_v0, p5_r0, p5_S0, p5_T0, rfl, rfl, p5_h0, p5_q1⟩ := p5_q0.step
    simp only [Ty.size, Ty.sizes, Nat.reduceAdd, Nat.zero_add, List.drop_zero, List.drop_succ_cons, List.take_succ_cons, List.take_zero] at p5_h0
    obtain ⟨n5, e5, rfl, rfl, lo5, hi5⟩ := p5_h0.int
    simp only [List.cons.injEq, and_true] at e5
    subst e5
    obtain ⟨p5_v1, p5_r1, p5_S1, p5_T1, rfl, rfl, p5_h1, p5_q2⟩ := p5_q1.step
    simp only [Ty.size, Ty.sizes, Nat.reduceAdd, Nat.zero_add, List.drop_zero, List.drop_succ_cons, List.take_succ_cons, List.take_zero] at p5_h1
    obtain ⟨n6, e6, rfl, rfl, lo6, hi6⟩ := p5_h1.int
    simp only [List.cons.injEq, and_true] at e6
    subst e6
    obtain ⟨p5_v2, p5_r2, p5_S2, p5_T2, rfl, rfl, p5_h2, p5_q3⟩ := p5_q2.step
    simp only [Ty.size, Ty.sizes, Nat.reduceAdd, Nat.zero_add, List.drop_zero, List.drop_succ_cons, List.take_succ_cons, List.take_zero] at p5_h2
    have h7 := p5_h2
    obtain ⟨p5_v3, p5_r3, p5_S3, p5_T3, rfl, rfl, p5_h3, p5_q4⟩ := p5_q3.step
    simp only [Ty.size, Ty.sizes, Nat.reduceAdd, Nat.zero_add, List.drop_zero, List.drop_succ_cons, List.take_succ_cons, List.take_zero] at p5_h3
    have h8 := p5_h3
    obtain ⟨p5_v4, p5_r4, p5_S4, p5_T4, rfl, rfl, p5_h4, p5_q5⟩ := p5_q4.step
    simp only [Ty.size, Ty.sizes, Nat.reduceAdd, Nat.zero_add, List.drop_zero, List.drop_succ_cons, List.take_succ_cons, List.take_zero] at p5_h4
    have h9 := p5_h4
    obtain ⟨_, rfl, rfl⟩ := p5_q5
    subst p5_hv
    obtain ⟨_, rfl, rfl⟩ := p_q6
    have heq := hmkE.symm.trans p_hv
    simp only [Tv.r.injEq, List.cons.injEq, Tv.i.injEq, and_true, and_assoc] at heq
    obtain ⟨a0, a1, a2, a3, a4, a5, a6, a7, a8, a9⟩ := heq
    rw [← a3] at h3
    rw [← a4] at h4
    rw [← a7] at h7
    rw [← a8] at h8
    rw [← a9] at h9
    simp (disch := omega) only [KC_eq, c65, hl, hat', hcb, pre_get3, pre_get2, pre_get, pre_get0, List.length_append, List.cons_append, List.nil_append, ifT, w64, cnE_sl, cast1, RR, RP, Ty.agg, Ty.size, Ty.sizes, eq_self, ne_eq, not_true, not_false_iff, reduceCtorEq, List.length_cons, List.length_nil, decide_true, decide_false, true_and, and_true, ite_true, ite_false, PT.full, enter0, setAll, forget, Fr.set, Fr.get, PT.get, PT.set, kof, ai, ev, ev1, evp, b_add, b_sub, b_mul, b_quo, b_rem, b_eql, b_neq, b_lss, b_leq, b_gtr, b_geq, b_seql, b_sneq, setD, resV, resL, res1, args, List.take_zero, List.drop_zero, List.take_nil, List.take_succ_cons, List.drop_succ_cons, Nat.reduceAdd, Nat.reduceLeDiff, reduceIte, Bool.not_true, Bool.not_false, Bool.false_eq_true, CA_some, Option.some.injEq, Nat.zero_add, Nat.mul_one, Nat.add_zero, setL, List.set_cons_zero, List.set_cons_succ, fillC]
    refine BR_dec (fun hn => absurd (by rw [← a0, w64 (by omega) (by omega)]) hn) (fun hn => ?_)
    simp (disch := omega) only [KC_eq, c65, hl, hat', hcb, pre_get3, pre_get2, pre_get, pre_get0, List.length_append, List.cons_append, List.nil_append, ifT, w64, cnE_sl, cast1, RR, RP, Ty.agg, Ty.size, Ty.sizes, eq_self, ne_eq, not_true, not_false_iff, reduceCtorEq, List.length_cons, List.length_nil, decide_true, decide_false, true_and, and_true, ite_true, ite_false, PT.full, enter0, setAll, forget, Fr.set, Fr.get, PT.get, PT.set, kof, ai, ev, ev1, evp, b_add, b_sub, b_mul, b_quo, b_rem, b_eql, b_neq, b_lss, b_leq, b_gtr, b_geq, b_seql, b_sneq, setD, resV, resL, res1, args, List.take_zero, List.drop_zero, List.take_nil, List.take_succ_cons, List.drop_succ_cons, Nat.reduceAdd, Nat.reduceLeDiff, reduceIte, Bool.not_true, Bool.not_false, Bool.false_eq_true, CA_some, Option.some.injEq, Nat.zero_add, Nat.mul_one, Nat.add_zero, setL, List.set_cons_zero, List.set_cons_succ, fillC]
    refine BR_dec (fun hn => absurd (by rw [← a1, w64 (by omega) (by omega)]) hn) (fun hn => ?_)
    simp (disch := omega) only [KC_eq, c65, hl, hat', hcb, pre_get3, pre_get2, pre_get, pre_get0, List.length_append, List.cons_append, List.nil_append, ifT, w64, cnE_sl, cast1, RR, RP, Ty.agg, Ty.size, Ty.sizes, eq_self, ne_eq, not_true, not_false_iff, reduceCtorEq, List.length_cons, List.length_nil, decide_true, decide_false, true_and, and_true, ite_true, ite_false, PT.full, enter0, setAll, forget, Fr.set, Fr.get, PT.get, PT.set, kof, ai, ev, ev1, evp, b_add, b_sub, b_mul, b_quo, b_rem, b_eql, b_neq, b_lss, b_leq, b_gtr, b_geq, b_seql, b_sneq, setD, resV, resL, res1, args, List.take_zero, List.drop_zero, List.take_nil, List.take_succ_cons, List.drop_succ_cons, Nat.reduceAdd, Nat.reduceLeDiff, reduceIte, Bool.not_true, Bool.not_false, Bool.false_eq_true, CA_some, Option.some.injEq, Nat.zero_add, Nat.mul_one, Nat.add_zero, setL, List.set_cons_zero, List.set_cons_succ, fillC]
    refine BR_dec (fun hn => absurd (by rw [← a2, w64 (by omega) (by omega)]) hn) (fun hn => ?_)
    simp (disch := omega) only [KC_eq, c65, hl, hat', hcb, pre_get3, pre_get2, pre_get, pre_get0, List.length_append, List.cons_append, List.nil_append, ifT, w64, cnE_sl, cast1, RR, RP, Ty.agg, Ty.size, Ty.sizes, eq_self, ne_eq, not_true, not_false_iff, reduceCtorEq, List.length_cons, List.length_nil, decide_true, decide_false, true_and, and_true, ite_true, ite_false, PT.full, enter0, setAll, forget, Fr.set, Fr.get, PT.get, PT.set, kof, ai, ev, ev1, evp, b_add, b_sub, b_mul, b_quo, b_rem, b_eql, b_neq, b_lss, b_leq, b_gtr, b_geq, b_seql, b_sneq, setD, resV, resL, res1, args, List.take_zero, List.drop_zero, List.take_nil, List.take_succ_cons, List.drop_succ_cons, Nat.reduceAdd, Nat.reduceLeDiff, reduceIte, Bool.not_true, Bool.not_false, Bool.false_eq_true, CA_some, Option.some.injEq, Nat.zero_add, Nat.mul_one, Nat.add_zero, setL, List.set_cons_zero, List.set_cons_succ, fillC]
    rw [← mkE_sl] at h3
    refine HdOk.go hd_ByteS ⟨_, _, _, w_h3⟩ h3 (k := ((((k + ((zs.take i).map (cnE THead)).sum) + 1) + 1) + 1)) (by rw [cnE_sl]; omega) ?_
    simp (disch := omega) only [KC_eq, c65, hl, hat', hcb, pre_get3, pre_get2, pre_get, pre_get0, List.length_append, List.cons_append, List.nil_append, ifT, w64, cnE_sl, cast1, RR, RP, Ty.agg, Ty.size, Ty.sizes, eq_self, ne_eq, not_true, not_false_iff, reduceCtorEq, List.length_cons, List.length_nil, decide_true, decide_false, true_and, and_true, ite_true, ite_false, PT.full, enter0, setAll, forget, Fr.set, Fr.get, PT.get, PT.set, kof, ai, ev, ev1, evp, b_add, b_sub, b_mul, b_quo, b_rem, b_eql, b_neq, b_lss, b_leq, b_gtr, b_geq, b_seql, b_sneq, setD, resV, resL, res1, args, List.take_zero, List.drop_zero, List.take_nil, List.take_succ_cons, List.drop_succ_cons, Nat.reduceAdd, Nat.reduceLeDiff, reduceIte, Bool.not_true, Bool.not_false, Bool.false_eq_true, CA_some, Option.some.injEq, Nat.zero_add, Nat.mul_one, Nat.add_zero, setL, List.set_cons_zero, List.set_cons_succ, fillC]
    refine BR_dec (fun hn => absurd hn (by omega)) (fun hn => ?_)
    simp (disch := omega) only [KC_eq, c65, hl, hat', hcb, pre_get3, pre_get2, pre_get, pre_get0, List.length_append, List.cons_append, List.nil_append, ifT, w64, cnE_sl, cast1, RR, RP, Ty.agg, Ty.size, Ty.sizes, eq_self, ne_eq, not_true, not_false_iff, reduceCtorEq, List.length_cons, List.length_nil, decide_true, decide_false, true_and, and_true, ite_true, ite_false, PT.full, enter0, setAll, forget, Fr.set, Fr.get, PT.get, PT.set, kof, ai, ev, ev1, evp, b_add, b_sub, b_mul, b_quo, b_rem, b_eql, b_neq, b_lss, b_leq, b_gtr, b_geq, b_seql, b_sneq, setD, resV, resL, res1, args, List.take_zero, List.drop_zero, List.take_nil, List.take_succ_cons, List.drop_succ_cons, Nat.reduceAdd, Nat.reduceLeDiff, reduceIte, Bool.not_true, Bool.not_false, Bool.false_eq_true, CA_some, Option.some.injEq, Nat.zero_add, Nat.mul_one, Nat.add_zero, setL, List.set_cons_zero, List.set_cons_succ, fillC]
    rw [← mkE_sl] at h4
    refine HdOk.go hd_ByteS ⟨_, _, _, w_h4⟩ h4 (k := (((((k + ((zs.take i).map (cnE THead)).sum) + 1) + 1) + 1) + cnE (.sl (.int .u8)) w_v3)) (by rw [cnE_sl]; omega) ?_
    simp (disch := omega) only [KC_eq, c65, hl, hat', hcb, pre_get3, pre_get2, pre_get, pre_get0, List.length_append, List.cons_append, List.nil_append, ifT, w64, cnE_sl, cast1, RR, RP, Ty.agg, Ty.size, Ty.sizes, eq_self, ne_eq, not_true, not_false_iff, reduceCtorEq, List.length_cons, List.length_nil, decide_true, decide_false, true_and, and_true, ite_true, ite_false, PT.full, enter0, setAll, forget, Fr.set, Fr.get, PT.get, PT.set, kof, ai, ev, ev1, evp, b_add, b_sub, b_mul, b_quo, b_rem, b_eql, b_neq, b_lss, b_leq, b_gtr, b_geq, b_seql, b_sneq, setD, resV, resL, res1, args, List.take_zero, List.drop_zero, List.take_nil, List.take_succ_cons, List.drop_succ_cons, Nat.reduceAdd, Nat.reduceLeDiff, reduceIte, Bool.not_true, Bool.not_false, Bool.false_eq_true, CA_some, Option.some.injEq, Nat.zero_add, Nat.mul_one, Nat.add_zero, setL, List.set_cons_zero, List.set_cons_succ, fillC]
    refine BR_dec (fun hn => absurd hn (by omega)) (fun hn => ?_)
    simp (disch := omega) only [KC_eq, c65, hl, hat', hcb, pre_get3, pre_get2, pre_get, pre_get0, List.length_append, List.cons_append, List.nil_append, ifT, w64, cnE_sl, cast1, RR, RP, Ty.agg, Ty.size, Ty.sizes, eq_self, ne_eq, not_true, not_false_iff, reduceCtorEq, List.length_cons, List.length_nil, decide_true, decide_false, true_and, and_true, ite_true, ite_false, PT.full, enter0, setAll, forget, Fr.set, Fr.get, PT.get, PT.set, kof, ai, ev, ev1, evp, b_add, b_sub, b_mul, b_quo, b_rem, b_eql, b_neq, b_lss, b_leq, b_gtr, b_geq, b_seql, b_sneq, setD, resV, resL, res1, args, List.take_zero, List.drop_zero, List.take_nil, List.take_succ_cons, List.drop_succ_cons, Nat.reduceAdd, Nat.reduceLeDiff, reduceIte, Bool.not_true, Bool.not_false, Bool.false_eq_true, CA_some, Option.some.injEq, Nat.zero_add, Nat.mul_one, Nat.add_zero, setL, List.set_cons_zero, List.set_cons_succ, fillC]
    refine BR_dec (fun hn => absurd (by rw [← a5, w64 (by omega) (by omega)]) hn) (fun hn => ?_)
    simp (disch := omega) only [KC_eq, c65, hl, hat', hcb, pre_get3, pre_get2, pre_get, pre_get0, List.length_append, List.cons_append, List.nil_append, ifT, w64, cnE_sl, cast1, RR, RP, Ty.agg, Ty.size, Ty.sizes, eq_self, ne_eq, not_true, not_false_iff, reduceCtorEq, List.length_cons, List.length_nil, decide_true, decide_false, true_and, and_true, ite_true, ite_false, PT.full, enter0, setAll, forget, Fr.set, Fr.get, PT.get, PT.set, kof, ai, ev, ev1, evp, b_add, b_sub, b_mul, b_quo, b_rem, b_eql, b_neq, b_lss, b_leq, b_gtr, b_geq, b_seql, b_sneq, setD, resV, resL, res1, args, List.take_zero, List.drop_zero, List.take_nil, List.take_succ_cons, List.drop_succ_cons, Nat.reduceAdd, Nat.reduceLeDiff, reduceIte, Bool.not_true, Bool.not_false, Bool.false_eq_true, CA_some, Option.some.injEq, Nat.zero_add, Nat.mul_one, Nat.add_zero, setL, List.set_cons_zero, List.set_cons_succ, fillC]
    refine BR_dec (fun hn => absurd (by rw [← a6, w64 (by omega) (by omega)]) hn) (fun hn => ?_)
    simp (disch := omega) only [KC_eq, c65, hl, hat', hcb, pre_get3, pre_get2, pre_get, pre_get0, List.length_append, List.cons_append, List.nil_append, ifT, w64, cnE_sl, cast1, RR, RP, Ty.agg, Ty.size, Ty.sizes, eq_self, ne_eq, not_true, not_false_iff, reduceCtorEq, List.length_cons, List.length_nil, decide_true, decide_false, true_and, and_true, ite_true, ite_false, PT.full, enter0, setAll, forget, Fr.set, Fr.get, PT.get, PT.set, kof, ai, ev, ev1, evp, b_add, b_sub, b_mul, b_quo, b_rem, b_eql, b_neq, b_lss, b_leq, b_gtr, b_geq, b_seql, b_sneq, setD, resV, resL, res1, args, List.take_zero, List.drop_zero, List.take_nil, List.take_succ_cons, List.drop_succ_cons, Nat.reduceAdd, Nat.reduceLeDiff, reduceIte, Bool.not_true, Bool.not_false, Bool.false_eq_true, CA_some, Option.some.injEq, Nat.zero_add, Nat.mul_one, Nat.add_zero, setL, List.set_cons_zero, List.set_cons_succ, fillC]
    rw [← mkE_sl] at h7
    refine HdOk.go hd_ByteS ⟨_, _, _, w5_h2⟩ h7 (k := ((((((((k + ((zs.take i).map (cnE THead)).sum) + 1) + 1) + 1) + cnE (.sl (.int .u8)) w_v3) + cnE (.sl (.int .u8)) w_v4) + 1) + 1)) (by rw [cnE_sl]; omega) ?_
    simp (disch := omega) only [KC_eq, c65, hl, hat', hcb, pre_get3, pre_get2, pre_get, pre_get0, List.length_append, List.cons_append, List.nil_append, ifT, w64, cnE_sl, cast1, RR, RP, Ty.agg, Ty.size, Ty.sizes, eq_self, ne_eq, not_true, not_false_iff, reduceCtorEq, List.length_cons, List.length_nil, decide_true, decide_false, true_and, and_true, ite_true, ite_false, PT.full, enter0, setAll, forget, Fr.set, Fr.get, PT.get, PT.set, kof, ai, ev, ev1, evp, b_add, b_sub, b_mul, b_quo, b_rem, b_eql, b_neq, b_lss, b_leq, b_gtr, b_geq, b_seql, b_sneq, setD, resV, resL, res1, args, List.take_zero, List.drop_zero, List.take_nil, List.take_succ_cons, List.drop_succ_cons, Nat.reduceAdd, Nat.reduceLeDiff, reduceIte, Bool.not_true, Bool.not_false, Bool.false_eq_true, CA_some, Option.some.injEq, Nat.zero_add, Nat.mul_one, Nat.add_zero, setL, List.set_cons_zero, List.set_cons_succ, fillC]
    refine BR_dec (fun hn => absurd hn (by omega)) (fun hn => ?_)
    simp (disch := omega) only [KC_eq, c65, hl, hat', hcb, pre_get3, pre_get2, pre_get, pre_get0, List.length_append, List.cons_append, List.nil_append, ifT, w64, cnE_sl, cast1, RR, RP, Ty.agg, Ty.size, Ty.sizes, eq_self, ne_eq, not_true, not_false_iff, reduceCtorEq, List.length_cons, List.length_nil, decide_true, decide_false, true_and, and_true, ite_true, ite_false, PT.full, enter0, setAll, forget, Fr.set, Fr.get, PT.get, PT.set, kof, ai, ev, ev1, evp, b_add, b_sub, b_mul, b_quo, b_rem, b_eql, b_neq, b_lss, b_leq, b_gtr, b_geq, b_seql, b_sneq, setD, resV, resL, res1, args, List.take_zero, List.drop_zero, List.take_nil, List.take_succ_cons, List.drop_succ_cons, Nat.reduceAdd, Nat.reduceLeDiff, reduceIte, Bool.not_true, Bool.not_false, Bool.false_eq_true, CA_some, Option.some.injEq, Nat.zero_add, Nat.mul_one, Nat.add_zero, setL, List.set_cons_zero, List.set_cons_succ, fillC]
    rw [← mkE_sl] at h8
    refine HdOk.go hd_ByteS ⟨_, _, _, w5_h3⟩ h8 (k := (((((((((k + ((zs.take i).map (cnE THead)).sum) + 1) + 1) + 1) + cnE (.sl (.int .u8)) w_v3) + cnE (.sl (.int .u8)) w_v4) + 1) + 1) + cnE (.sl (.int .u8)) w5_v2)) (by rw [cnE_sl]; omega) ?_
    simp (disch := omega) only [KC_eq, c65, hl, hat', hcb, pre_get3, pre_get2, pre_get, pre_get0, List.length_append, List.cons_append, List.nil_append, ifT, w64, cnE_sl, cast1, RR, RP, Ty.agg, Ty.size, Ty.sizes, eq_self, ne_eq, not_true, not_false_iff, reduceCtorEq, List.length_cons, List.length_nil, decide_true, decide_false, true_and, and_true, ite_true, ite_false, PT.full, enter0, setAll, forget, Fr.set, Fr.get, PT.get, PT.set, kof, ai, ev, ev1, evp, b_add, b_sub, b_mul, b_quo, b_rem, b_eql, b_neq, b_lss, b_leq, b_gtr, b_geq, b_seql, b_sneq, setD, resV, resL, res1, args, List.take_zero, List.drop_zero, List.take_nil, List.take_succ_cons, List.drop_succ_cons, Nat.reduceAdd, Nat.reduceLeDiff, reduceIte, Bool.not_true, Bool.not_false, Bool.false_eq_true, CA_some, Option.some.injEq, Nat.zero_add, Nat.mul_one, Nat.add_zero, setL, List.set_cons_zero, List.set_cons_succ, fillC]
    refine BR_dec (fun hn => absurd hn (by omega)) (fun hn => ?_)
    simp (disch := omega) only [KC_eq, c65, hl, hat', hcb, pre_get3, pre_get2, pre_get, pre_get0, List.length_append, List.cons_append, List.nil_append, ifT, w64, cnE_sl, cast1, RR, RP, Ty.agg, Ty.size, Ty.sizes, eq_self, ne_eq, not_true, not_false_iff, reduceCtorEq, List.length_cons, List.length_nil, decide_true, decide_false, true_and, and_true, ite_true, ite_false, PT.full, enter0, setAll, forget, Fr.set, Fr.get, PT.get, PT.set, kof, ai, ev, ev1, evp, b_add, b_sub, b_mul, b_quo, b_rem, b_eql, b_neq, b_lss, b_leq, b_gtr, b_geq, b_seql, b_sneq, setD, resV, resL, res1, args, List.take_zero, List.drop_zero, List.take_nil, List.take_succ_cons, List.drop_succ_cons, Nat.reduceAdd, Nat.reduceLeDiff, reduceIte, Bool.not_true, Bool.not_false, Bool.false_eq_true, CA_some, Option.some.injEq, Nat.zero_add, Nat.mul_one, Nat.add_zero, setL, List.set_cons_zero, List.set_cons_succ, fillC]
    rw [← mkE_sl] at h9
    refine HdOk.go hd_ByteSS ⟨_, _, _, w5_h4⟩ h9 (k := ((((((((((k + ((zs.take i).map (cnE THead)).sum) + 1) + 1) + 1) + cnE (.sl (.int .u8)) w_v3) + cnE (.sl (.int .u8)) w_v4) + 1) + 1) + cnE (.sl (.int .u8)) w5_v2) + cnE (.sl (.int .u8)) w5_v3)) (by rw [cnE_sl]; omega) ?_
    simp (disch := omega) only [KC_eq, c65, hl, hat', hcb, pre_get3, pre_get2, pre_get, pre_get0, List.length_append, List.cons_append, List.nil_append, ifT, w64, cnE_sl, cast1, RR, RP, Ty.agg, Ty.size, Ty.sizes, eq_self, ne_eq, not_true, not_false_iff, reduceCtorEq, List.length_cons, List.length_nil, decide_true, decide_false, true_and, and_true, ite_true, ite_false, PT.full, enter0, setAll, forget, Fr.set, Fr.get, PT.get, PT.set, kof, ai, ev, ev1, evp, b_add, b_sub, b_mul, b_quo, b_rem, b_eql, b_neq, b_lss, b_leq, b_gtr, b_geq, b_seql, b_sneq, setD, resV, resL, res1, args, List.take_zero, List.drop_zero, List.take_nil, List.take_succ_cons, List.drop_succ_cons, Nat.reduceAdd, Nat.reduceLeDiff, reduceIte, Bool.not_true, Bool.not_false, Bool.false_eq_true, CA_some, Option.some.injEq, Nat.zero_add, Nat.mul_one, Nat.add_zero, setL, List.set_cons_zero, List.set_cons_succ, fillC]
    refine BR_dec (fun hn => absurd hn (by omega)) (fun hn => ?_)
    simp (disch := omega) only [KC_eq, c65, hl, hat', hcb, pre_get3, pre_get2, pre_get, pre_get0, List.length_append, List.cons_append, List.nil_append, ifT, w64, cnE_sl, cast1, RR, RP, Ty.agg, Ty.size, Ty.sizes, eq_self, ne_eq, not_true, not_false_iff, reduceCtorEq, List.length_cons, List.length_nil, decide_true, decide_false, true_and, and_true, ite_true, ite_false, PT.full, enter0, setAll, forget, Fr.set, Fr.get, PT.get, PT.set, kof, ai, ev, ev1, evp, b_add, b_sub, b_mul, b_quo, b_rem, b_eql, b_neq, b_lss, b_leq, b_gtr, b_geq, b_seql, b_sneq, setD, resV, resL, res1, args, List.take_zero, List.drop_zero, List.take_nil, List.take_succ_cons, List.drop_succ_cons, Nat.reduceAdd, Nat.reduceLeDiff, reduceIte, Bool.not_true, Bool.not_false, Bool.false_eq_true, CA_some, Option.some.injEq, Nat.zero_add, Nat.mul_one, Nat.add_zero, setL, List.set_cons_zero, List.set_cons_succ, fillC]
    refine ⟨i + 1, xs.length - (i + 1), by omega, ?_, rfl, by omega⟩
    have e1 : k + ((zs.take (i + 1)).map (cnE THead)).sum = (((((((((((k + ((zs.take i).map (cnE THead)).sum) + 1) + 1) + 1) + cnE (.sl (.int .u8)) w_v3) + cnE (.sl (.int .u8)) w_v4) + 1) + 1) + cnE (.sl (.int .u8)) w5_v2) + cnE (.sl (.int .u8)) w5_v3) + cnE (.sl (.sl (.int .u8))) w5_v4) := by omega
    rw [e1]
  · simp (disch := omega) only [c65, RR, RP, Ty.agg, Ty.size, Ty.sizes, eq_self, ne_eq, not_true, not_false_iff, reduceCtorEq, List.length_cons, List.length_nil, decide_true, decide_false, true_and, and_true, ite_true, ite_false, PT.full, enter0, setAll, forget, Fr.set, Fr.get, PT.get, PT.set, kof, ai, ev, ev1, evp, b_add, b_sub, b_mul, b_quo, b_rem, b_eql, b_neq, b_lss, b_leq, b_gtr, b_geq, b_seql, b_sneq, setD, resV, resL, res1, args, List.take_zero, List.drop_zero, List.take_nil, List.take_succ_cons, List.drop_succ_cons, Nat.reduceAdd, Nat.reduceLeDiff, reduceIte, Bool.not_true, Bool.not_false, Bool.false_eq_true, CA_some, Option.some.injEq, Nat.zero_add, Nat.mul_one, Nat.add_zero, setL, List.set_cons_zero, List.set_cons_succ, fillC]
    have : i = zs.length := by omega
    rw [this, List.take_length]
/-- laws.heldProof -/
def c79 : AF := ⟨2, 5, [.tmp 4], (.seq (.ops [.i (.lbox 2 (.s 0)), .i (.mov 4 (.c (.val false [.int .i64 0])))]) (.seq (.ops [.i (.fad 5 (.s 2) 0), .i (.ldl 6 2 (.s 5) 1 false), .i (.mov 7 (.s 1)), .i (.call 9 65 false [(.s 6), (.s 7)]), .i (.mov 1 (.s 8))]) (.seq (.seq (.ops [.i (.mov 9 (.s 1)), .i (.bin 10 .lss (.s 9) (.c (.val false [.int .i64 0])))]) (.cond (.s 10) (.seq (.ops [.i (.mov 4 (.c (.val false [.int .i64 (-1)])))]) .ret) .skip)) (.seq (.ops [.i (.fad 11 (.s 2) 1), .i (.ldl 12 2 (.s 11) 5 true), .i (.mov 13 (.s 1)), .i (.call 15 77 false [(.s 12), (.s 13)]), .i (.mov 1 (.s 14))]) (.seq (.seq (.ops [.i (.mov 15 (.s 1)), .i (.bin 16 .lss (.s 15) (.c (.val false [.int .i64 0])))]) (.cond (.s 16) (.seq (.ops [.i (.mov 4 (.c (.val false [.int .i64 (-1)])))]) .ret) .skip)) (.seq (.ops [.i (.mov 17 (.s 1)), .i (.mov 4 (.s 17))]) .ret))))))⟩
theorem k79 : cd 79 = some c79 := by kernel_rfl
theorem hd_Proof : HdOk cd 79 TProof := by
  intro h cs v S k hT hv hk
  obtain ⟨h0_, cs0, S0_, hT⟩ := hT
  obtain ⟨wvs, rfl, wq0⟩ := hT.st
  obtain ⟨wv0, wr0, wS0, wT0, rfl, rfl, wh0, wq1⟩ := wq0.step
  obtain ⟨wc0, we0⟩ := wh0.one rfl
  rw [we0] at wh0
  obtain ⟨wv1, wr1, wS1, wT1, rfl, rfl, wh1, wq2⟩ := wq1.step
  obtain ⟨_, rfl, rfl⟩ := wq2
  have whsz : cs0.length = 6 := hT.size
  have hcn : cnT TProof (.r [wv0, wv1]) = (cnT (.sl THead) wv0 + (cnT TQc wv1 + 0)) := rfl
  have hmk : mkT TProof (.r [wv0, wv1]) k = .r [mkT (.sl THead) wv0 (k), mkT TQc wv1 (k + cnT (.sl THead) wv0)] := rfl
  rw [hmk] at hv
  rw [hcn] at hk ⊢
  obtain ⟨vs, hvs, q0⟩ := hv.st
  simp only [Tv.r.injEq] at hvs
  subst hvs
  obtain ⟨v0, r0, S0, T0, hv0, hS0, h0, q1⟩ := q0.step
  obtain ⟨rfl, rfl⟩ := List.cons.inj hv0
  obtain ⟨c0, e0⟩ := h0.one rfl
  rw [e0] at h0
  obtain ⟨v1, r1, S1, T1, hv1, hS1, h1, q2⟩ := q1.step
  obtain ⟨rfl, rfl⟩ := List.cons.inj hv1
  have hsz : cs.length = 6 := hv.size
  simp only [Ty.size, Ty.sizes, Nat.reduceAdd, Nat.zero_add, List.drop_zero] at e0 hsz h1
  refine WS_enter k79 rfl ?_
  simp (disch := omega) only [KC_eq, c79, e0, hsz, ifT, w64, RR, RP, Ty.agg, Ty.size, Ty.sizes, eq_self, ne_eq, not_true, not_false_iff, reduceCtorEq, List.length_cons, List.length_nil, decide_true, decide_false, true_and, and_true, ite_true, ite_false, PT.full, enter0, setAll, forget, Fr.set, Fr.get, PT.get, PT.set, kof, ai, ev, ev1, evp, b_add, b_sub, b_mul, b_quo, b_rem, b_eql, b_neq, b_lss, b_leq, b_gtr, b_geq, b_seql, b_sneq, setD, resV, resL, res1, args, List.take_zero, List.drop_zero, List.take_nil, List.take_succ_cons, List.drop_succ_cons, Nat.reduceAdd, Nat.reduceLeDiff, reduceIte, Bool.not_true, Bool.not_false, Bool.false_eq_true, CA_some, Option.some.injEq, Nat.zero_add, Nat.mul_one, Nat.add_zero, setL, List.set_cons_zero, List.set_cons_succ, fillC]
  refine HdOk.go hd_HeadS ⟨_, _, _, wh0⟩ h0 (k := k) (by omega) ?_
  simp (disch := omega) only [KC_eq, c79, e0, hsz, ifT, w64, RR, RP, Ty.agg, Ty.size, Ty.sizes, eq_self, ne_eq, not_true, not_false_iff, reduceCtorEq, List.length_cons, List.length_nil, decide_true, decide_false, true_and, and_true, ite_true, ite_false, PT.full, enter0, setAll, forget, Fr.set, Fr.get, PT.get, PT.set, kof, ai, ev, ev1, evp, b_add, b_sub, b_mul, b_quo, b_rem, b_eql, b_neq, b_lss, b_leq, b_gtr, b_geq, b_seql, b_sneq, setD, resV, resL, res1, args, List.take_zero, List.drop_zero, List.take_nil, List.take_succ_cons, List.drop_succ_cons, Nat.reduceAdd, Nat.reduceLeDiff, reduceIte, Bool.not_true, Bool.not_false, Bool.false_eq_true, CA_some, Option.some.injEq, Nat.zero_add, Nat.mul_one, Nat.add_zero, setL, List.set_cons_zero, List.set_cons_succ, fillC]
  refine BR_dec (fun hn => absurd hn (by omega)) (fun hn => ?_)
  simp (disch := omega) only [KC_eq, c79, e0, hsz, ifT, w64, RR, RP, Ty.agg, Ty.size, Ty.sizes, eq_self, ne_eq, not_true, not_false_iff, reduceCtorEq, List.length_cons, List.length_nil, decide_true, decide_false, true_and, and_true, ite_true, ite_false, PT.full, enter0, setAll, forget, Fr.set, Fr.get, PT.get, PT.set, kof, ai, ev, ev1, evp, b_add, b_sub, b_mul, b_quo, b_rem, b_eql, b_neq, b_lss, b_leq, b_gtr, b_geq, b_seql, b_sneq, setD, resV, resL, res1, args, List.take_zero, List.drop_zero, List.take_nil, List.take_succ_cons, List.drop_succ_cons, Nat.reduceAdd, Nat.reduceLeDiff, reduceIte, Bool.not_true, Bool.not_false, Bool.false_eq_true, CA_some, Option.some.injEq, Nat.zero_add, Nat.mul_one, Nat.add_zero, setL, List.set_cons_zero, List.set_cons_succ, fillC]
  refine HdOk.go hd_Qc ⟨_, _, _, wh1⟩ h1 (k := k + cnT (.sl THead) wv0) (by omega) ?_
  simp (disch := omega) only [KC_eq, c79, e0, hsz, ifT, w64, RR, RP, Ty.agg, Ty.size, Ty.sizes, eq_self, ne_eq, not_true, not_false_iff, reduceCtorEq, List.length_cons, List.length_nil, decide_true, decide_false, true_and, and_true, ite_true, ite_false, PT.full, enter0, setAll, forget, Fr.set, Fr.get, PT.get, PT.set, kof, ai, ev, ev1, evp, b_add, b_sub, b_mul, b_quo, b_rem, b_eql, b_neq, b_lss, b_leq, b_gtr, b_geq, b_seql, b_sneq, setD, resV, resL, res1, args, List.take_zero, List.drop_zero, List.take_nil, List.take_succ_cons, List.drop_succ_cons, Nat.reduceAdd, Nat.reduceLeDiff, reduceIte, Bool.not_true, Bool.not_false, Bool.false_eq_true, CA_some, Option.some.injEq, Nat.zero_add, Nat.mul_one, Nat.add_zero, setL, List.set_cons_zero, List.set_cons_succ, fillC]
  refine BR_dec (fun hn => absurd hn (by omega)) (fun hn => ?_)
  simp (disch := omega) only [KC_eq, c79, e0, hsz, ifT, w64, RR, RP, Ty.agg, Ty.size, Ty.sizes, eq_self, ne_eq, not_true, not_false_iff, reduceCtorEq, List.length_cons, List.length_nil, decide_true, decide_false, true_and, and_true, ite_true, ite_false, PT.full, enter0, setAll, forget, Fr.set, Fr.get, PT.get, PT.set, kof, ai, ev, ev1, evp, b_add, b_sub, b_mul, b_quo, b_rem, b_eql, b_neq, b_lss, b_leq, b_gtr, b_geq, b_seql, b_sneq, setD, resV, resL, res1, args, List.take_zero, List.drop_zero, List.take_nil, List.take_succ_cons, List.drop_succ_cons, Nat.reduceAdd, Nat.reduceLeDiff, reduceIte, Bool.not_true, Bool.not_false, Bool.false_eq_true, CA_some, Option.some.injEq, Nat.zero_add, Nat.mul_one, Nat.add_zero, setL, List.set_cons_zero, List.set_cons_succ, fillC]
  all_goals congr 3
  all_goals omega
/-- laws.heldIncl -/
def c80 : AF := ⟨2, 5, [.tmp 4], (.seq (.ops [.i (.lbox 2 (.s 0)), .i (.mov 4 (.c (.val false [.int .i64 0])))]) (.seq (.ops [.i (.fad 5 (.s 2) 3), .i (.ldl 6 2 (.s 5) 1 false), .i (.mov 7 (.s 1)), .i (.call 9 119 false [(.s 6), (.s 7)]), .i (.mov 1 (.s 8))]) (.seq (.seq (.ops [.i (.mov 9 (.s 1)), .i (.bin 10 .lss (.s 9) (.c (.val false [.int .i64 0])))]) (.cond (.s 10) (.seq (.ops [.i (.mov 4 (.c (.val false [.int .i64 (-1)])))]) .ret) .skip)) (.seq (.ops [.i (.fad 11 (.s 2) 4), .i (.ldl 12 2 (.s 11) 1 false), .i (.mov 13 (.s 1)), .i (.call 15 92 false [(.s 12), (.s 13)]), .i (.mov 1 (.s 14))]) (.seq (.seq (.ops [.i (.mov 15 (.s 1)), .i (.bin 16 .lss (.s 15) (.c (.val false [.int .i64 0])))]) (.cond (.s 16) (.seq (.ops [.i (.mov 4 (.c (.val false [.int .i64 (-1)])))]) .ret) .skip)) (.seq (.ops [.i (.mov 17 (.s 1)), .i (.mov 4 (.s 17))]) .ret))))))⟩
theorem k80 : cd 80 = some c80 := by kernel_rfl
theorem hd_Incl : HdOk cd 80 TIncl := by
  intro h cs v S k hT hv hk
  obtain ⟨h0_, cs0, S0_, hT⟩ := hT
  obtain ⟨wvs, rfl, wq0⟩ := hT.st
  obtain ⟨wv0, wr0, wS0, wT0, rfl, rfl, wh0, wq1⟩ := wq0.step
  obtain ⟨wn0, we0, rfl, rfl, wlo0, whi0⟩ := wh0.int
  obtain ⟨wv1, wr1, wS1, wT1, rfl, rfl, wh1, wq2⟩ := wq1.step
  obtain ⟨wn1, we1, rfl, rfl, wlo1, whi1⟩ := wh1.int
  obtain ⟨wv2, wr2, wS2, wT2, rfl, rfl, wh2, wq3⟩ := wq2.step
  obtain ⟨wn2, we2, rfl, rfl, wlo2, whi2⟩ := wh2.int
  obtain ⟨wv3, wr3, wS3, wT3, rfl, rfl, wh3, wq4⟩ := wq3.step
  obtain ⟨wc3, we3⟩ := wh3.one rfl
  rw [we3] at wh3
  obtain ⟨wv4, wr4, wS4, wT4, rfl, rfl, wh4, wq5⟩ := wq4.step
  obtain ⟨wc4, we4⟩ := wh4.one rfl
  rw [we4] at wh4
  obtain ⟨_, rfl, rfl⟩ := wq5
  have whsz : cs0.length = 5 := hT.size
  have hcn : cnT TIncl (.r [.i wn0, .i wn1, .i wn2, wv3, wv4]) = (0 + (0 + (0 + (cnT (.sl (.int .u8)) wv3 + (cnT (.sl (.sl (.int .u8))) wv4 + 0))))) := rfl
  have hmk : mkT TIncl (.r [.i wn0, .i wn1, .i wn2, wv3, wv4]) k = .r [.i wn0, .i wn1, .i wn2, mkT (.sl (.int .u8)) wv3 (k), mkT (.sl (.sl (.int .u8))) wv4 (k + cnT (.sl (.int .u8)) wv3)] := rfl
  rw [hmk] at hv
  rw [hcn] at hk ⊢
  obtain ⟨vs, hvs, q0⟩ := hv.st
  simp only [Tv.r.injEq] at hvs
  subst hvs
  obtain ⟨v0, r0, S0, T0, hv0, hS0, h0, q1⟩ := q0.step
  obtain ⟨rfl, rfl⟩ := List.cons.inj hv0
  obtain ⟨n0, e0, _, _, _, _⟩ := h0.int
  obtain ⟨v1, r1, S1, T1, hv1, hS1, h1, q2⟩ := q1.step
  obtain ⟨rfl, rfl⟩ := List.cons.inj hv1
  obtain ⟨n1, e1, _, _, _, _⟩ := h1.int
  obtain ⟨v2, r2, S2, T2, hv2, hS2, h2, q3⟩ := q2.step
  obtain ⟨rfl, rfl⟩ := List.cons.inj hv2
  obtain ⟨n2, e2, _, _, _, _⟩ := h2.int
  obtain ⟨v3, r3, S3, T3, hv3, hS3, h3, q4⟩ := q3.step
  obtain ⟨rfl, rfl⟩ := List.cons.inj hv3
  obtain ⟨c3, e3⟩ := h3.one rfl
  rw [e3] at h3
  obtain ⟨v4, r4, S4, T4, hv4, hS4, h4, q5⟩ := q4.step
  obtain ⟨rfl, rfl⟩ := List.cons.inj hv4
  obtain ⟨c4, e4⟩ := h4.one rfl
  rw [e4] at h4
  have hsz : cs.length = 5 := hv.size
  simp only [Ty.size, Ty.sizes, Nat.reduceAdd, Nat.zero_add, List.drop_zero] at e0 e1 e2 e3 e4 hsz
  refine WS_enter k80 rfl ?_
  simp (disch := omega) only [KC_eq, c80, e0, e1, e2, e3, e4, hsz, ifT, w64, RR, RP, Ty.agg, Ty.size, Ty.sizes, eq_self, ne_eq, not_true, not_false_iff, reduceCtorEq, List.length_cons, List.length_nil, decide_true, decide_false, true_and, and_true, ite_true, ite_false, PT.full, enter0, setAll, forget, Fr.set, Fr.get, PT.get, PT.set, kof, ai, ev, ev1, evp, b_add, b_sub, b_mul, b_quo, b_rem, b_eql, b_neq, b_lss, b_leq, b_gtr, b_geq, b_seql, b_sneq, setD, resV, resL, res1, args, List.take_zero, List.drop_zero, List.take_nil, List.take_succ_cons, List.drop_succ_cons, Nat.reduceAdd, Nat.reduceLeDiff, reduceIte, Bool.not_true, Bool.not_false, Bool.false_eq_true, CA_some, Option.some.injEq, Nat.zero_add, Nat.mul_one, Nat.add_zero, setL, List.set_cons_zero, List.set_cons_succ, fillC]
  refine HdOk.go hd_ByteS ⟨_, _, _, wh3⟩ h3 (k := k) (by omega) ?_
  simp (disch := omega) only [KC_eq, c80, e0, e1, e2, e3, e4, hsz, ifT, w64, RR, RP, Ty.agg, Ty.size, Ty.sizes, eq_self, ne_eq, not_true, not_false_iff, reduceCtorEq, List.length_cons, List.length_nil, decide_true, decide_false, true_and, and_true, ite_true, ite_false, PT.full, enter0, setAll, forget, Fr.set, Fr.get, PT.get, PT.set, kof, ai, ev, ev1, evp, b_add, b_sub, b_mul, b_quo, b_rem, b_eql, b_neq, b_lss, b_leq, b_gtr, b_geq, b_seql, b_sneq, setD, resV, resL, res1, args, List.take_zero, List.drop_zero, List.take_nil, List.take_succ_cons, List.drop_succ_cons, Nat.reduceAdd, Nat.reduceLeDiff, reduceIte, Bool.not_true, Bool.not_false, Bool.false_eq_true, CA_some, Option.some.injEq, Nat.zero_add, Nat.mul_one, Nat.add_zero, setL, List.set_cons_zero, List.set_cons_succ, fillC]
  refine BR_dec (fun hn => absurd hn (by omega)) (fun hn => ?_)
  simp (disch := omega) only [KC_eq, c80, e0, e1, e2, e3, e4, hsz, ifT, w64, RR, RP, Ty.agg, Ty.size, Ty.sizes, eq_self, ne_eq, not_true, not_false_iff, reduceCtorEq, List.length_cons, List.length_nil, decide_true, decide_false, true_and, and_true, ite_true, ite_false, PT.full, enter0, setAll, forget, Fr.set, Fr.get, PT.get, PT.set, kof, ai, ev, ev1, evp, b_add, b_sub, b_mul, b_quo, b_rem, b_eql, b_neq, b_lss, b_leq, b_gtr, b_geq, b_seql, b_sneq, setD, resV, resL, res1, args, List.take_zero, List.drop_zero, List.take_nil, List.take_succ_cons, List.drop_succ_cons, Nat.reduceAdd, Nat.reduceLeDiff, reduceIte, Bool.not_true, Bool.not_false, Bool.false_eq_true, CA_some, Option.some.injEq, Nat.zero_add, Nat.mul_one, Nat.add_zero, setL, List.set_cons_zero, List.set_cons_succ, fillC]
  refine HdOk.go hd_ByteSS ⟨_, _, _, wh4⟩ h4 (k := k + cnT (.sl (.int .u8)) wv3) (by omega) ?_
  simp (disch := omega) only [KC_eq, c80, e0, e1, e2, e3, e4, hsz, ifT, w64, RR, RP, Ty.agg, Ty.size, Ty.sizes, eq_self, ne_eq, not_true, not_false_iff, reduceCtorEq, List.length_cons, List.length_nil, decide_true, decide_false, true_and, and_true, ite_true, ite_false, PT.full, enter0, setAll, forget, Fr.set, Fr.get, PT.get, PT.set, kof, ai, ev, ev1, evp, b_add, b_sub, b_mul, b_quo, b_rem, b_eql, b_neq, b_lss, b_leq, b_gtr, b_geq, b_seql, b_sneq, setD, resV, resL, res1, args, List.take_zero, List.drop_zero, List.take_nil, List.take_succ_cons, List.drop_succ_cons, Nat.reduceAdd, Nat.reduceLeDiff, reduceIte, Bool.not_true, Bool.not_false, Bool.false_eq_true, CA_some, Option.some.injEq, Nat.zero_add, Nat.mul_one, Nat.add_zero, setL, List.set_cons_zero, List.set_cons_succ, fillC]
  refine BR_dec (fun hn => absurd hn (by omega)) (fun hn => ?_)
  simp (disch := omega) only [KC_eq, c80, e0, e1, e2, e3, e4, hsz, ifT, w64, RR, RP, Ty.agg, Ty.size, Ty.sizes, eq_self, ne_eq, not_true, not_false_iff, reduceCtorEq, List.length_cons, List.length_nil, decide_true, decide_false, true_and, and_true, ite_true, ite_false, PT.full, enter0, setAll, forget, Fr.set, Fr.get, PT.get, PT.set, kof, ai, ev, ev1, evp, b_add, b_sub, b_mul, b_quo, b_rem, b_eql, b_neq, b_lss, b_leq, b_gtr, b_geq, b_seql, b_sneq, setD, resV, resL, res1, args, List.take_zero, List.drop_zero, List.take_nil, List.take_succ_cons, List.drop_succ_cons, Nat.reduceAdd, Nat.reduceLeDiff, reduceIte, Bool.not_true, Bool.not_false, Bool.false_eq_true, CA_some, Option.some.injEq, Nat.zero_add, Nat.mul_one, Nat.add_zero, setL, List.set_cons_zero, List.set_cons_succ, fillC]
  all_goals congr 3
  all_goals omega
/-- laws.heldMsg -/
def c20 : AF := ⟨2, 6, [.tmp 4], (.seq (.ops [.i (.lbox 2 (.s 0)), .i (.mov 4 (.c (.val false [.int .i64 0])))]) (.seq (.ops [.i (.fad 5 (.s 2) 1), .i (.ldl 6 2 (.s 5) 5 true), .i (.mov 7 (.s 1)), .i (.call 9 76 false [(.s 6), (.s 7)]), .i (.mov 1 (.s 8))]) (.seq (.seq (.ops [.i (.mov 9 (.s 1)), .i (.bin 10 .lss (.s 9) (.c (.val false [.int .i64 0])))]) (.cond (.s 10) (.seq (.ops [.i (.mov 4 (.c (.val false [.int .i64 (-1)])))]) .ret) .skip)) (.seq (.ops [.i (.fad 11 (.s 2) 6), .i (.ldl 12 2 (.s 11) 5 true), .i (.mov 13 (.s 1)), .i (.call 15 77 false [(.s 12), (.s 13)]), .i (.mov 1 (.s 14))]) (.seq (.seq (.ops [.i (.mov 15 (.s 1)), .i (.bin 16 .lss (.s 15) (.c (.val false [.int .i64 0])))]) (.cond (.s 16) (.seq (.ops [.i (.mov 4 (.c (.val false [.int .i64 (-1)])))]) .ret) .skip)) (.seq (.ops [.i (.fad 17 (.s 2) 11), .i (.ldl 18 2 (.s 17) 10 true), .i (.mov 19 (.s 1)), .i (.call 21 57 false [(.s 18), (.s 19)]), .i (.mov 1 (.s 20))]) (.seq (.seq (.ops [.i (.mov 21 (.s 1)), .i (.bin 22 .lss (.s 21) (.c (.val false [.int .i64 0])))]) (.cond (.s 22) (.seq (.ops [.i (.mov 4 (.c (.val false [.int .i64 (-1)])))]) .ret) .skip)) (.seq (.ops [.i (.fad 23 (.s 2) 21), .i (.ldl 24 2 (.s 23) 11 true), .i (.mov 25 (.s 1)), .i (.call 27 32 false [(.s 24), (.s 25)]), .i (.mov 1 (.s 26))]) (.seq (.seq (.ops [.i (.mov 27 (.s 1)), .i (.bin 28 .lss (.s 27) (.c (.val false [.int .i64 0])))]) (.cond (.s 28) (.seq (.ops [.i (.mov 4 (.c (.val false [.int .i64 (-1)])))]) .ret) .skip)) (.seq (.ops [.i (.fad 29 (.s 2) 32), .i (.ldl 30 2 (.s 29) 2 true), .i (.mov 31 (.s 1)), .i (.call 33 78 false [(.s 30), (.s 31)]), .i (.mov 1 (.s 32))]) (.seq (.seq (.ops [.i (.mov 33 (.s 1)), .i (.bin 34 .lss (.s 33) (.c (.val false [.int .i64 0])))]) (.cond (.s 34) (.seq (.ops [.i (.mov 4 (.c (.val false [.int .i64 (-1)])))]) .ret) .skip)) (.seq (.ops [.i (.fad 35 (.s 2) 34), .i (.ldl 36 2 (.s 35) 6 true), .i (.mov 37 (.s 1)), .i (.call 39 79 false [(.s 36), (.s 37)]), .i (.mov 1 (.s 38))]) (.seq (.seq (.ops [.i (.mov 39 (.s 1)), .i (.bin 40 .lss (.s 39) (.c (.val false [.int .i64 0])))]) (.cond (.s 40) (.seq (.ops [.i (.mov 4 (.c (.val false [.int .i64 (-1)])))]) .ret) .skip)) (.seq (.ops [.i (.fad 41 (.s 2) 40), .i (.ldl 42 2 (.s 41) 5 true), .i (.mov 43 (.s 1)), .i (.call 45 80 false [(.s 42), (.s 43)]), .i (.mov 1 (.s 44))]) (.seq (.seq (.ops [.i (.mov 45 (.s 1)), .i (.bin 46 .lss (.s 45) (.c (.val false [.int .i64 0])))]) (.cond (.s 46) (.seq (.ops [.i (.mov 4 (.c (.val false [.int .i64 (-1)])))]) .ret) .skip)) (.seq (.ops [.i (.mov 47 (.s 1)), .i (.mov 4 (.s 47))]) .ret))))))))))))))))⟩
theorem k20 : cd 20 = some c20 := by kernel_rfl
theorem hd_Msg : HdOk cd 20 TMsg := by
  intro h cs v S k hT hv hk
  obtain ⟨h0_, cs0, S0_, hT⟩ := hT
  obtain ⟨wvs, rfl, wq0⟩ := hT.st
  obtain ⟨wv0, wr0, wS0, wT0, rfl, rfl, wh0, wq1⟩ := wq0.step
  obtain ⟨wn0, we0, rfl, rfl, wlo0, whi0⟩ := wh0.int
  obtain ⟨wv1, wr1, wS1, wT1, rfl, rfl, wh1, wq2⟩ := wq1.step
  obtain ⟨wv2, wr2, wS2, wT2, rfl, rfl, wh2, wq3⟩ := wq2.step
  obtain ⟨wv3, wr3, wS3, wT3, rfl, rfl, wh3, wq4⟩ := wq3.step
  obtain ⟨wv4, wr4, wS4, wT4, rfl, rfl, wh4, wq5⟩ := wq4.step
  obtain ⟨wv5, wr5, wS5, wT5, rfl, rfl, wh5, wq6⟩ := wq5.step
  obtain ⟨wv6, wr6, wS6, wT6, rfl, rfl, wh6, wq7⟩ := wq6.step
  obtain ⟨wv7, wr7, wS7, wT7, rfl, rfl, wh7, wq8⟩ := wq7.step
  obtain ⟨_, rfl, rfl⟩ := wq8
  have whsz : cs0.length = 45 := hT.size
  have hcn : cnT TMsg (.r [.i wn0, wv1, wv2, wv3, wv4, wv5, wv6, wv7]) = (0 + (cnT TVote wv1 + (cnT TQc wv2 + (cnT THead wv3 + (cnT TBlock wv4 + (cnT TTc wv5 + (cnT TProof wv6 + (cnT TIncl wv7 + 0)))))))) := rfl
  have hmk : mkT TMsg (.r [.i wn0, wv1, wv2, wv3, wv4, wv5, wv6, wv7]) k = .r [.i wn0, mkT TVote wv1 (k), mkT TQc wv2 (k + cnT TVote wv1), mkT THead wv3 (k + cnT TVote wv1 + cnT TQc wv2), mkT TBlock wv4 (k + cnT TVote wv1 + cnT TQc wv2 + cnT THead wv3), mkT TTc wv5 (k + cnT TVote wv1 + cnT TQc wv2 + cnT THead wv3 + cnT TBlock wv4), mkT TProof wv6 (k + cnT TVote wv1 + cnT TQc wv2 + cnT THead wv3 + cnT TBlock wv4 + cnT TTc wv5), mkT TIncl wv7 (k + cnT TVote wv1 + cnT TQc wv2 + cnT THead wv3 + cnT TBlock wv4 + cnT TTc wv5 + cnT TProof wv6)] := rfl
  rw [hmk] at hv
  rw [hcn] at hk ⊢
  obtain ⟨vs, hvs, q0⟩ := hv.st
  simp only [Tv.r.injEq] at hvs
  subst hvs
  obtain ⟨v0, r0, S0, T0, hv0, hS0, h0, q1⟩ := q0.step
  obtain ⟨rfl, rfl⟩ := List.cons.inj hv0
  obtain ⟨n0, e0, _, _, _, _⟩ := h0.int
  obtain ⟨v1, r1, S1, T1, hv1, hS1, h1, q2⟩ := q1.step
  obtain ⟨rfl, rfl⟩ := List.cons.inj hv1
  obtain ⟨v2, r2, S2, T2, hv2, hS2, h2, q3⟩ := q2.step
  obtain ⟨rfl, rfl⟩ := List.cons.inj hv2
  obtain ⟨v3, r3, S3, T3, hv3, hS3, h3, q4⟩ := q3.step
  obtain ⟨rfl, rfl⟩ := List.cons.inj hv3
  obtain ⟨v4, r4, S4, T4, hv4, hS4, h4, q5⟩ := q4.step
  obtain ⟨rfl, rfl⟩ := List.cons.inj hv4
  obtain ⟨v5, r5, S5, T5, hv5, hS5, h5, q6⟩ := q5.step
  obtain ⟨rfl, rfl⟩ := List.cons.inj hv5
  obtain ⟨v6, r6, S6, T6, hv6, hS6, h6, q7⟩ := q6.step
  obtain ⟨rfl, rfl⟩ := List.cons.inj hv6
  obtain ⟨v7, r7, S7, T7, hv7, hS7, h7, q8⟩ := q7.step
  obtain ⟨rfl, rfl⟩ := List.cons.inj hv7
  have hsz : cs.length = 45 := hv.size
  simp only [Ty.size, Ty.sizes, Nat.reduceAdd, Nat.zero_add, List.drop_zero] at e0 hsz h1 h2 h3 h4 h5 h6 h7
  refine WS_enter k20 rfl ?_
  simp (disch := omega) only [KC_eq, c20, e0, hsz, ifT, w64, RR, RP, Ty.agg, Ty.size, Ty.sizes, eq_self, ne_eq, not_true, not_false_iff, reduceCtorEq, List.length_cons, List.length_nil, decide_true, decide_false, true_and, and_true, ite_true, ite_false, PT.full, enter0, setAll, forget, Fr.set, Fr.get, PT.get, PT.set, kof, ai, ev, ev1, evp, b_add, b_sub, b_mul, b_quo, b_rem, b_eql, b_neq, b_lss, b_leq, b_gtr, b_geq, b_seql, b_sneq, setD, resV, resL, res1, args, List.take_zero, List.drop_zero, List.take_nil, List.take_succ_cons, List.drop_succ_cons, Nat.reduceAdd, Nat.reduceLeDiff, reduceIte, Bool.not_true, Bool.not_false, Bool.false_eq_true, CA_some, Option.some.injEq, Nat.zero_add, Nat.mul_one, Nat.add_zero, setL, List.set_cons_zero, List.set_cons_succ, fillC]
  refine HdOk.go hd_Vote ⟨_, _, _, wh1⟩ h1 (k := k) (by omega) ?_
  simp (disch := omega) only [KC_eq, c20, e0, hsz, ifT, w64, RR, RP, Ty.agg, Ty.size, Ty.sizes, eq_self, ne_eq, not_true, not_false_iff, reduceCtorEq, List.length_cons, List.length_nil, decide_true, decide_false, true_and, and_true, ite_true, ite_false, PT.full, enter0, setAll, forget, Fr.set, Fr.get, PT.get, PT.set, kof, ai, ev, ev1, evp, b_add, b_sub, b_mul, b_quo, b_rem, b_eql, b_neq, b_lss, b_leq, b_gtr, b_geq, b_seql, b_sneq, setD, resV, resL, res1, args, List.take_zero, List.drop_zero, List.take_nil, List.take_succ_cons, List.drop_succ_cons, Nat.reduceAdd, Nat.reduceLeDiff, reduceIte, Bool.not_true, Bool.not_false, Bool.false_eq_true, CA_some, Option.some.injEq, Nat.zero_add, Nat.mul_one, Nat.add_zero, setL, List.set_cons_zero, List.set_cons_succ, fillC]
  refine BR_dec (fun hn => absurd hn (by omega)) (fun hn => ?_)
  simp (disch := omega) only [KC_eq, c20, e0, hsz, ifT, w64, RR, RP, Ty.agg, Ty.size, Ty.sizes, eq_self, ne_eq, not_true, not_false_iff, reduceCtorEq, List.length_cons, List.length_nil, decide_true, decide_false, true_and, and_true, ite_true, ite_false, PT.full, enter0, setAll, forget, Fr.set, Fr.get, PT.get, PT.set, kof, ai, ev, ev1, evp, b_add, b_sub, b_mul, b_quo, b_rem, b_eql, b_neq, b_lss, b_leq, b_gtr, b_geq, b_seql, b_sneq, setD, resV, resL, res1, args, List.take_zero, List.drop_zero, List.take_nil, List.take_succ_cons, List.drop_succ_cons, Nat.reduceAdd, Nat.reduceLeDiff, reduceIte, Bool.not_true, Bool.not_false, Bool.false_eq_true, CA_some, Option.some.injEq, Nat.zero_add, Nat.mul_one, Nat.add_zero, setL, List.set_cons_zero, List.set_cons_succ, fillC]
  refine HdOk.go hd_Qc ⟨_, _, _, wh2⟩ h2 (k := k + cnT TVote wv1) (by omega) ?_
  simp (disch := omega) only [KC_eq, c20, e0, hsz, ifT, w64, RR, RP, Ty.agg, Ty.size, Ty.sizes, eq_self, ne_eq, not_true, not_false_iff, reduceCtorEq, List.length_cons, List.length_nil, decide_true, decide_false, true_and, and_true, ite_true, ite_false, PT.full, enter0, setAll, forget, Fr.set, Fr.get, PT.get, PT.set, kof, ai, ev, ev1, evp, b_add, b_sub, b_mul, b_quo, b_rem, b_eql, b_neq, b_lss, b_leq, b_gtr, b_geq, b_seql, b_sneq, setD, resV, resL, res1, args, List.take_zero, List.drop_zero, List.take_nil, List.take_succ_cons, List.drop_succ_cons, Nat.reduceAdd, Nat.reduceLeDiff, reduceIte, Bool.not_true, Bool.not_false, Bool.false_eq_true, CA_some, Option.some.injEq, Nat.zero_add, Nat.mul_one, Nat.add_zero, setL, List.set_cons_zero, List.set_cons_succ, fillC]
  refine BR_dec (fun hn => absurd hn (by omega)) (fun hn => ?_)
  simp (disch := omega) only [KC_eq, c20, e0, hsz, ifT, w64, RR, RP, Ty.agg, Ty.size, Ty.sizes, eq_self, ne_eq, not_true, not_false_iff, reduceCtorEq, List.length_cons, List.length_nil, decide_true, decide_false, true_and, and_true, ite_true, ite_false, PT.full, enter0, setAll, forget, Fr.set, Fr.get, PT.get, PT.set, kof, ai, ev, ev1, evp, b_add, b_sub, b_mul, b_quo, b_rem, b_eql, b_neq, b_lss, b_leq, b_gtr, b_geq, b_seql, b_sneq, setD, resV, resL, res1, args, List.take_zero, List.drop_zero, List.take_nil, List.take_succ_cons, List.drop_succ_cons, Nat.reduceAdd, Nat.reduceLeDiff, reduceIte, Bool.not_true, Bool.not_false, Bool.false_eq_true, CA_some, Option.some.injEq, Nat.zero_add, Nat.mul_one, Nat.add_zero, setL, List.set_cons_zero, List.set_cons_succ, fillC]
  refine HdOk.go hd_Head ⟨_, _, _, wh3⟩ h3 (k := k + cnT TVote wv1 + cnT TQc wv2) (by omega) ?_
  simp (disch := omega) only [KC_eq, c20, e0, hsz, ifT, w64, RR, RP, Ty.agg, Ty.size, Ty.sizes, eq_self, ne_eq, not_true, not_false_iff, reduceCtorEq, List.length_cons, List.length_nil, decide_true, decide_false, true_and, and_true, ite_true, ite_false, PT.full, enter0, setAll, forget, Fr.set, Fr.get, PT.get, PT.set, kof, ai, ev, ev1, evp, b_add, b_sub, b_mul, b_quo, b_rem, b_eql, b_neq, b_lss, b_leq, b_gtr, b_geq, b_seql, b_sneq, setD, resV, resL, res1, args, List.take_zero, List.drop_zero, List.take_nil, List.take_succ_cons, List.drop_succ_cons, Nat.reduceAdd, Nat.reduceLeDiff, reduceIte, Bool.not_true, Bool.not_false, Bool.false_eq_true, CA_some, Option.some.injEq, Nat.zero_add, Nat.mul_one, Nat.add_zero, setL, List.set_cons_zero, List.set_cons_succ, fillC]
  refine BR_dec (fun hn => absurd hn (by omega)) (fun hn => ?_)
  simp (disch := omega) only [KC_eq, c20, e0, hsz, ifT, w64, RR, RP, Ty.agg, Ty.size, Ty.sizes, eq_self, ne_eq, not_true, not_false_iff, reduceCtorEq, List.length_cons, List.length_nil, decide_true, decide_false, true_and, and_true, ite_true, ite_false, PT.full, enter0, setAll, forget, Fr.set, Fr.get, PT.get, PT.set, kof, ai, ev, ev1, evp, b_add, b_sub, b_mul, b_quo, b_rem, b_eql, b_neq, b_lss, b_leq, b_gtr, b_geq, b_seql, b_sneq, setD, resV, resL, res1, args, List.take_zero, List.drop_zero, List.take_nil, List.take_succ_cons, List.drop_succ_cons, Nat.reduceAdd, Nat.reduceLeDiff, reduceIte, Bool.not_true, Bool.not_false, Bool.false_eq_true, CA_some, Option.some.injEq, Nat.zero_add, Nat.mul_one, Nat.add_zero, setL, List.set_cons_zero, List.set_cons_succ, fillC]
  refine HdOk.go hd_Block ⟨_, _, _, wh4⟩ h4 (k := k + cnT TVote wv1 + cnT TQc wv2 + cnT THead wv3) (by omega) ?_
  simp (disch := omega) only [KC_eq, c20, e0, hsz, ifT, w64, RR, RP, Ty.agg, Ty.size, Ty.sizes, eq_self, ne_eq, not_true, not_false_iff, reduceCtorEq, List.length_cons, List.length_nil, decide_true, decide_false, true_and, and_true, ite_true, ite_false, PT.full, enter0, setAll, forget, Fr.set, Fr.get, PT.get, PT.set, kof, ai, ev, ev1, evp, b_add, b_sub, b_mul, b_quo, b_rem, b_eql, b_neq, b_lss, b_leq, b_gtr, b_geq, b_seql, b_sneq, setD, resV, resL, res1, args, List.take_zero, List.drop_zero, List.take_nil, List.take_succ_cons, List.drop_succ_cons, Nat.reduceAdd, Nat.reduceLeDiff, reduceIte, Bool.not_true, Bool.not_false, Bool.false_eq_true, CA_some, Option.some.injEq, Nat.zero_add, Nat.mul_one, Nat.add_zero, setL, List.set_cons_zero, List.set_cons_succ, fillC]
  refine BR_dec (fun hn => absurd hn (by omega)) (fun hn => ?_)
  simp (disch := omega) only [KC_eq, c20, e0, hsz, ifT, w64, RR, RP, Ty.agg, Ty.size, Ty.sizes, eq_self, ne_eq, not_true, not_false_iff, reduceCtorEq, List.length_cons, List.length_nil, decide_true, decide_false, true_and, and_true, ite_true, ite_false, PT.full, enter0, setAll, forget, Fr.set, Fr.get, PT.get, PT.set, kof, ai, ev, ev1, evp, b_add, b_sub, b_mul, b_quo, b_rem, b_eql, b_neq, b_lss, b_leq, b_gtr, b_geq, b_seql, b_sneq, setD, resV, resL, res1, args, List.take_zero, List.drop_zero, List.take_nil, List.take_succ_cons, List.drop_succ_cons, Nat.reduceAdd, Nat.reduceLeDiff, reduceIte, Bool.not_true, Bool.not_false, Bool.false_eq_true, CA_some, Option.some.injEq, Nat.zero_add, Nat.mul_one, Nat.add_zero, setL, List.set_cons_zero, List.set_cons_succ, fillC]
  refine HdOk.go hd_Tc ⟨_, _, _, wh5⟩ h5 (k := k + cnT TVote wv1 + cnT TQc wv2 + cnT THead wv3 + cnT TBlock wv4) (by omega) ?_
  simp (disch := omega) only [KC_eq, c20, e0, hsz, ifT, w64, RR, RP, Ty.agg, Ty.size, Ty.sizes, eq_self, ne_eq, not_true, not_false_iff, reduceCtorEq, List.length_cons, List.length_nil, decide_true, decide_false, true_and, and_true, ite_true, ite_false, PT.full, enter0, setAll, forget, Fr.set, Fr.get, PT.get, PT.set, kof, ai, ev, ev1, evp, b_add, b_sub, b_mul, b_quo, b_rem, b_eql, b_neq, b_lss, b_leq, b_gtr, b_geq, b_seql, b_sneq, setD, resV, resL, res1, args, List.take_zero, List.drop_zero, List.take_nil, List.take_succ_cons, List.drop_succ_cons, Nat.reduceAdd, Nat.reduceLeDiff, reduceIte, Bool.not_true, Bool.not_false, Bool.false_eq_true, CA_some, Option.some.injEq, Nat.zero_add, Nat.mul_one, Nat.add_zero, setL, List.set_cons_zero, List.set_cons_succ, fillC]
  refine BR_dec (fun hn => absurd hn (by omega)) (fun hn => ?_)
  simp (disch := omega) only [KC_eq, c20, e0, hsz, ifT, w64, RR, RP, Ty.agg, Ty.size, Ty.sizes, eq_self, ne_eq, not_true, not_false_iff, reduceCtorEq, List.length_cons, List.length_nil, decide_true, decide_false, true_and, and_true, ite_true, ite_false, PT.full, enter0, setAll, forget, Fr.set, Fr.get, PT.get, PT.set, kof, ai, ev, ev1, evp, b_add, b_sub, b_mul, b_quo, b_rem, b_eql, b_neq, b_lss, b_leq, b_gtr, b_geq, b_seql, b_sneq, setD, resV, resL, res1, args, List.take_zero, List.drop_zero, List.take_nil, List.take_succ_cons, List.drop_succ_cons, Nat.reduceAdd, Nat.reduceLeDiff, reduceIte, Bool.not_true, Bool.not_false, Bool.false_eq_true, CA_some, Option.some.injEq, Nat.zero_add, Nat.mul_one, Nat.add_zero, setL, List.set_cons_zero, List.set_cons_succ, fillC]
  refine HdOk.go hd_Proof ⟨_, _, _, wh6⟩ h6 (k := k + cnT TVote wv1 + cnT TQc wv2 + cnT THead wv3 + cnT TBlock wv4 + cnT TTc wv5) (by omega) ?_
  simp (disch := omega) only [KC_eq, c20, e0, hsz, ifT, w64, RR, RP, Ty.agg, Ty.size, Ty.sizes, eq_self, ne_eq, not_true, not_false_iff, reduceCtorEq, List.length_cons, List.length_nil, decide_true, decide_false, true_and, and_true, ite_true, ite_false, PT.full, enter0, setAll, forget, Fr.set, Fr.get, PT.get, PT.set, kof, ai, ev, ev1, evp, b_add, b_sub, b_mul, b_quo, b_rem, b_eql, b_neq, b_lss, b_leq, b_gtr, b_geq, b_seql, b_sneq, setD, resV, resL, res1, args, List.take_zero, List.drop_zero, List.take_nil, List.take_succ_cons, List.drop_succ_cons, Nat.reduceAdd, Nat.reduceLeDiff, reduceIte, Bool.not_true, Bool.not_false, Bool.false_eq_true, CA_some, Option.some.injEq, Nat.zero_add, Nat.mul_one, Nat.add_zero, setL, List.set_cons_zero, List.set_cons_succ, fillC]
  refine BR_dec (fun hn => absurd hn (by omega)) (fun hn => ?_)
  simp (disch := omega) only [KC_eq, c20, e0, hsz, ifT, w64, RR, RP, Ty.agg, Ty.size, Ty.sizes, eq_self, ne_eq, not_true, not_false_iff, reduceCtorEq, List.length_cons, List.length_nil, decide_true, decide_false, true_and, and_true, ite_true, ite_false, PT.full, enter0, setAll, forget, Fr.set, Fr.get, PT.get, PT.set, kof, ai, ev, ev1, evp, b_add, b_sub, b_mul, b_quo, b_rem, b_eql, b_neq, b_lss, b_leq, b_gtr, b_geq, b_seql, b_sneq, setD, resV, resL, res1, args, List.take_zero, List.drop_zero, List.take_nil, List.take_succ_cons, List.drop_succ_cons, Nat.reduceAdd, Nat.reduceLeDiff, reduceIte, Bool.not_true, Bool.not_false, Bool.false_eq_true, CA_some, Option.some.injEq, Nat.zero_add, Nat.mul_one, Nat.add_zero, setL, List.set_cons_zero, List.set_cons_succ, fillC]
  refine HdOk.go hd_Incl ⟨_, _, _, wh7⟩ h7 (k := k + cnT TVote wv1 + cnT TQc wv2 + cnT THead wv3 + cnT TBlock wv4 + cnT TTc wv5 + cnT TProof wv6) (by omega) ?_
  simp (disch := omega) only [KC_eq, c20, e0, hsz, ifT, w64, RR, RP, Ty.agg, Ty.size, Ty.sizes, eq_self, ne_eq, not_true, not_false_iff, reduceCtorEq, List.length_cons, List.length_nil, decide_true, decide_false, true_and, and_true, ite_true, ite_false, PT.full, enter0, setAll, forget, Fr.set, Fr.get, PT.get, PT.set, kof, ai, ev, ev1, evp, b_add, b_sub, b_mul, b_quo, b_rem, b_eql, b_neq, b_lss, b_leq, b_gtr, b_geq, b_seql, b_sneq, setD, resV, resL, res1, args, List.take_zero, List.drop_zero, List.take_nil, List.take_succ_cons, List.drop_succ_cons, Nat.reduceAdd, Nat.reduceLeDiff, reduceIte, Bool.not_true, Bool.not_false, Bool.false_eq_true, CA_some, Option.some.injEq, Nat.zero_add, Nat.mul_one, Nat.add_zero, setL, List.set_cons_zero, List.set_cons_succ, fillC]
  refine BR_dec (fun hn => absurd hn (by omega)) (fun hn => ?_)
  simp (disch := omega) only [KC_eq, c20, e0, hsz, ifT, w64, RR, RP, Ty.agg, Ty.size, Ty.sizes, eq_self, ne_eq, not_true, not_false_iff, reduceCtorEq, List.length_cons, List.length_nil, decide_true, decide_false, true_and, and_true, ite_true, ite_false, PT.full, enter0, setAll, forget, Fr.set, Fr.get, PT.get, PT.set, kof, ai, ev, ev1, evp, b_add, b_sub, b_mul, b_quo, b_rem, b_eql, b_neq, b_lss, b_leq, b_gtr, b_geq, b_seql, b_sneq, setD, resV, resL, res1, args, List.take_zero, List.drop_zero, List.take_nil, List.take_succ_cons, List.drop_succ_cons, Nat.reduceAdd, Nat.reduceLeDiff, reduceIte, Bool.not_true, Bool.not_false, Bool.false_eq_true, CA_some, Option.some.injEq, Nat.zero_add, Nat.mul_one, Nat.add_zero, setL, List.set_cons_zero, List.set_cons_succ, fillC]
  all_goals congr 3
  all_goals omega
end Go.Eng.U
