import Derived.Test.YtkhciaoemhfhbaaEngX
set_option maxRecDepth 100000
set_option linter.unusedSimpArgs false
set_option linter.unusedVariables false
namespace Go.Eng.U

/-- laws.heldEntryS -/
def c169 : AF := ⟨2, 6, [.tmp 4], (.seq (.ops [.i (.mov 4 (.c (.val false [.int .i64 0])))]) (.seq (.seq (.ops [.i (.mov 5 (.c (.val false [.int .i64 0])))]) (.block 0 (.loop [38, 37, 36, 35, 34, 33, 32, 31, 30, 29, 28, 27, 26, 25, 24, 23, 22, 21, 20, 19, 18, 17, 16, 15, 14, 13, 12, 11, 10, 9, 8, 7, 6] (.seq (.seq (.ops [.i (.mov 6 (.s 5)), .i (.mov 7 (.s 0)), .i (.len 8 false (.s 7)), .i (.bin 9 .lss (.s 6) (.s 8))]) (.cond (.s 9) .skip (.exit 0))) (.seq (.block 1 (.seq (.seq (.ops [.i (.mov 12 (.s 0)), .i (.mov 13 (.s 5)), .i (.iad 14 (.s 12) (.s 13) 3), .i (.fad 15 (.s 14) 0), .i (.ldh 16 (.s 15) 1 false), .i (.mov 17 (.s 1)), .i (.bin 18 .neq (.s 16) (.s 17))]) (.cond (.s 18) (.seq (.ops [.i (.mov 4 (.c (.val false [.int .i64 (-1)])))]) .ret) .skip)) (.seq (.ops [.i (.mov 19 (.s 1)), .i (.bin 20 .add (.s 19) (.c (.val false [.int .i64 1]))), .i (.mov 1 (.s 20))]) (.seq (.seq (.ops [.i (.mov 21 (.s 0)), .i (.mov 22 (.s 5)), .i (.iad 23 (.s 21) (.s 22) 3), .i (.fad 24 (.s 23) 1), .i (.ldh 25 (.s 24) 1 false), .i (.mov 26 (.s 1)), .i (.bin 27 .neq (.s 25) (.s 26))]) (.cond (.s 27) (.seq (.ops [.i (.mov 4 (.c (.val false [.int .i64 (-1)])))]) .ret) .skip)) (.seq (.ops [.i (.mov 28 (.s 1)), .i (.bin 29 .add (.s 28) (.c (.val false [.int .i64 1]))), .i (.mov 1 (.s 29))]) (.seq (.ops [.i (.mov 30 (.s 0)), .i (.mov 31 (.s 5)), .i (.iad 32 (.s 30) (.s 31) 3), .i (.fad 33 (.s 32) 2), .i (.ldh 34 (.s 33) 1 false), .i (.mov 35 (.s 1)), .i (.call 37 107 false [(.s 34), (.s 35)]), .i (.mov 1 (.s 36))]) (.seq (.ops [.i (.mov 37 (.s 1)), .i (.bin 38 .lss (.s 37) (.c (.val false [.int .i64 0])))]) (.cond (.s 38) (.seq (.ops [.i (.mov 4 (.c (.val false [.int .i64 (-1)])))]) .ret) .skip)))))))) (.ops [.i (.mov 10 (.s 5)), .i (.bin 11 .add (.s 10) (.c (.val false [.int .i64 1]))), .i (.mov 5 (.s 11))])))))) (.seq (.ops [.i (.mov 39 (.s 1)), .i (.mov 4 (.s 39))]) .ret)))⟩
theorem k169 : cd 169 = some c169 := by kernel_rfl
/-- laws.heldHeadS -/
def c99 : AF := ⟨2, 7, [.tmp 4], (.seq (.ops [.i (.mov 4 (.c (.val false [.int .i64 0])))]) (.seq (.seq (.ops [.i (.mov 5 (.c (.val false [.int .i64 0])))]) (.block 0 (.loop [106, 105, 104, 103, 102, 101, 100, 99, 98, 97, 96, 95, 94, 93, 92, 91, 90, 89, 88, 87, 86, 85, 84, 83, 82, 81, 80, 79, 78, 77, 76, 75, 74, 73, 72, 71, 70, 69, 68, 67, 66, 65, 64, 63, 62, 61, 60, 59, 58, 57, 56, 55, 54, 53, 52, 51, 50, 49, 48, 47, 46, 45, 44, 43, 42, 41, 40, 39, 38, 37, 36, 35, 34, 33, 32, 31, 30, 29, 28, 27, 26, 25, 24, 23, 22, 21, 20, 19, 18, 17, 16, 15, 14, 13, 12, 11, 10, 9, 8, 7, 6] (.seq (.seq (.ops [.i (.mov 6 (.s 5)), .i (.mov 7 (.s 0)), .i (.len 8 false (.s 7)), .i (.bin 9 .lss (.s 6) (.s 8))]) (.cond (.s 9) .skip (.exit 0))) (.seq (.block 1 (.seq (.seq (.ops [.i (.mov 12 (.s 0)), .i (.mov 13 (.s 5)), .i (.iad 14 (.s 12) (.s 13) 10), .i (.fad 15 (.s 14) 0), .i (.ldh 16 (.s 15) 1 false), .i (.mov 17 (.s 1)), .i (.bin 18 .neq (.s 16) (.s 17))]) (.cond (.s 18) (.seq (.ops [.i (.mov 4 (.c (.val false [.int .i64 (-1)])))]) .ret) .skip)) (.seq (.ops [.i (.mov 19 (.s 1)), .i (.bin 20 .add (.s 19) (.c (.val false [.int .i64 1]))), .i (.mov 1 (.s 20))]) (.seq (.seq (.ops [.i (.mov 21 (.s 0)), .i (.mov 22 (.s 5)), .i (.iad 23 (.s 21) (.s 22) 10), .i (.fad 24 (.s 23) 1), .i (.ldh 25 (.s 24) 1 false), .i (.mov 26 (.s 1)), .i (.bin 27 .neq (.s 25) (.s 26))]) (.cond (.s 27) (.seq (.ops [.i (.mov 4 (.c (.val false [.int .i64 (-1)])))]) .ret) .skip)) (.seq (.ops [.i (.mov 28 (.s 1)), .i (.bin 29 .add (.s 28) (.c (.val false [.int .i64 1]))), .i (.mov 1 (.s 29))]) (.seq (.seq (.ops [.i (.mov 30 (.s 0)), .i (.mov 31 (.s 5)), .i (.iad 32 (.s 30) (.s 31) 10), .i (.fad 33 (.s 32) 2), .i (.ldh 34 (.s 33) 1 false), .i (.mov 35 (.s 1)), .i (.bin 36 .neq (.s 34) (.s 35))]) (.cond (.s 36) (.seq (.ops [.i (.mov 4 (.c (.val false [.int .i64 (-1)])))]) .ret) .skip)) (.seq (.ops [.i (.mov 37 (.s 1)), .i (.bin 38 .add (.s 37) (.c (.val false [.int .i64 1]))), .i (.mov 1 (.s 38))]) (.seq (.ops [.i (.mov 39 (.s 0)), .i (.mov 40 (.s 5)), .i (.iad 41 (.s 39) (.s 40) 10), .i (.fad 42 (.s 41) 3), .i (.ldh 43 (.s 42) 1 false), .i (.mov 44 (.s 1)), .i (.call 46 107 false [(.s 43), (.s 44)]), .i (.mov 1 (.s 45))]) (.seq (.seq (.ops [.i (.mov 46 (.s 1)), .i (.bin 47 .lss (.s 46) (.c (.val false [.int .i64 0])))]) (.cond (.s 47) (.seq (.ops [.i (.mov 4 (.c (.val false [.int .i64 (-1)])))]) .ret) .skip)) (.seq (.ops [.i (.mov 48 (.s 0)), .i (.mov 49 (.s 5)), .i (.iad 50 (.s 48) (.s 49) 10), .i (.fad 51 (.s 50) 4), .i (.ldh 52 (.s 51) 1 false), .i (.mov 53 (.s 1)), .i (.call 55 107 false [(.s 52), (.s 53)]), .i (.mov 1 (.s 54))]) (.seq (.seq (.ops [.i (.mov 55 (.s 1)), .i (.bin 56 .lss (.s 55) (.c (.val false [.int .i64 0])))]) (.cond (.s 56) (.seq (.ops [.i (.mov 4 (.c (.val false [.int .i64 (-1)])))]) .ret) .skip)) (.seq (.seq (.ops [.i (.mov 57 (.s 0)), .i (.mov 58 (.s 5)), .i (.iad 59 (.s 57) (.s 58) 10), .i (.fad 60 (.s 59) 5), .i (.fad 61 (.s 60) 0), .i (.ldh 62 (.s 61) 1 false), .i (.mov 63 (.s 1)), .i (.bin 64 .neq (.s 62) (.s 63))]) (.cond (.s 64) (.seq (.ops [.i (.mov 4 (.c (.val false [.int .i64 (-1)])))]) .ret) .skip)) (.seq (.ops [.i (.mov 65 (.s 1)), .i (.bin 66 .add (.s 65) (.c (.val false [.int .i64 1]))), .i (.mov 1 (.s 66))]) (.seq (.seq (.ops [.i (.mov 67 (.s 0)), .i (.mov 68 (.s 5)), .i (.iad 69 (.s 67) (.s 68) 10), .i (.fad 70 (.s 69) 5), .i (.fad 71 (.s 70) 1), .i (.ldh 72 (.s 71) 1 false), .i (.mov 73 (.s 1)), .i (.bin 74 .neq (.s 72) (.s 73))]) (.cond (.s 74) (.seq (.ops [.i (.mov 4 (.c (.val false [.int .i64 (-1)])))]) .ret) .skip)) (.seq (.ops [.i (.mov 75 (.s 1)), .i (.bin 76 .add (.s 75) (.c (.val false [.int .i64 1]))), .i (.mov 1 (.s 76))]) (.seq (.ops [.i (.mov 77 (.s 0)), .i (.mov 78 (.s 5)), .i (.iad 79 (.s 77) (.s 78) 10), .i (.fad 80 (.s 79) 5), .i (.fad 81 (.s 80) 2), .i (.ldh 82 (.s 81) 1 false), .i (.mov 83 (.s 1)), .i (.call 85 107 false [(.s 82), (.s 83)]), .i (.mov 1 (.s 84))]) (.seq (.seq (.ops [.i (.mov 85 (.s 1)), .i (.bin 86 .lss (.s 85) (.c (.val false [.int .i64 0])))]) (.cond (.s 86) (.seq (.ops [.i (.mov 4 (.c (.val false [.int .i64 (-1)])))]) .ret) .skip)) (.seq (.ops [.i (.mov 87 (.s 0)), .i (.mov 88 (.s 5)), .i (.iad 89 (.s 87) (.s 88) 10), .i (.fad 90 (.s 89) 5), .i (.fad 91 (.s 90) 3), .i (.ldh 92 (.s 91) 1 false), .i (.mov 93 (.s 1)), .i (.call 95 107 false [(.s 92), (.s 93)]), .i (.mov 1 (.s 94))]) (.seq (.seq (.ops [.i (.mov 95 (.s 1)), .i (.bin 96 .lss (.s 95) (.c (.val false [.int .i64 0])))]) (.cond (.s 96) (.seq (.ops [.i (.mov 4 (.c (.val false [.int .i64 (-1)])))]) .ret) .skip)) (.seq (.ops [.i (.mov 97 (.s 0)), .i (.mov 98 (.s 5)), .i (.iad 99 (.s 97) (.s 98) 10), .i (.fad 100 (.s 99) 5), .i (.fad 101 (.s 100) 4), .i (.ldh 102 (.s 101) 1 false), .i (.mov 103 (.s 1)), .i (.call 105 161 false [(.s 102), (.s 103)]), .i (.mov 1 (.s 104))]) (.seq (.ops [.i (.mov 105 (.s 1)), .i (.bin 106 .lss (.s 105) (.c (.val false [.int .i64 0])))]) (.cond (.s 106) (.seq (.ops [.i (.mov 4 (.c (.val false [.int .i64 (-1)])))]) .ret) .skip)))))))))))))))))))))) (.ops [.i (.mov 10 (.s 5)), .i (.bin 11 .add (.s 10) (.c (.val false [.int .i64 1]))), .i (.mov 5 (.s 11))])))))) (.seq (.ops [.i (.mov 107 (.s 1)), .i (.mov 4 (.s 107))]) .ret)))⟩
theorem k99 : cd 99 = some c99 := by kernel_rfl
theorem hd_EntryS : HdOk cd 169 (.sl TEntry) := by
  intro h cs v S k hT hv hk
  by_cases hsl : ∃ xs, v = .l xs
  case neg =>
    obtain ⟨xs, e, _⟩ := hv.sl
    cases v <;> simp [mkT] at e
    exact absurd ⟨_, rfl⟩ hsl
  obtain ⟨zs, rfl⟩ := hsl
  have hTe : ∀ i (hi : i < zs.length), Tvd TEntry zs[i] := fun i hi => by
    obtain ⟨h0, cs0, S0, hT⟩ := hT
    obtain ⟨_, ys, _, _, _, _, _, e, _, _, _, _, _, hel0, _⟩ := hT.view
    simp at e
    subst e
    obtain ⟨Si, hx⟩ := hel0.at hi
    exact ⟨_, _, _, hx⟩
  obtain ⟨c, xs, id, off, bs, S', rfl, hxs, hm, hl, hat, hce, hbs, hel, hS⟩ := hv.view
  have hcn : cnT (.sl TEntry) (.l zs) = (zs.map (cnE TEntry)).sum := rfl
  rw [hcn] at hk ⊢
  have hxs' : xs = mkL (mkE TEntry) (cnE TEntry) zs k := by
    have e : mkT (.sl TEntry) (.l zs) k = .l (mkL (mkE TEntry) (cnE TEntry) zs k) := rfl
    rw [e] at hxs
    exact (by simpa using hxs.symm)
  have hlen : xs.length = zs.length := by rw [hxs', mkL_len]
  have hs1 : TEntry.size = 3 := rfl
  rw [hs1] at hat hbs
  refine WS_enter k169 rfl ?_
  simp (disch := omega) only [c169, RR, RP, Ty.agg, Ty.size, Ty.sizes, eq_self, ne_eq, not_true, not_false_iff, reduceCtorEq, List.length_cons, List.length_nil, decide_true, decide_false, true_and, and_true, ite_true, ite_false, PT.full, enter0, setAll, forget, Fr.set, Fr.get, PT.get, PT.set, kof, ai, ev, ev1, evp, b_add, b_sub, b_mul, b_quo, b_rem, b_eql, b_neq, b_lss, b_leq, b_gtr, b_geq, b_seql, b_sneq, setD, resV, resL, res1, args, List.take_zero, List.drop_zero, List.take_nil, List.take_succ_cons, List.drop_succ_cons, Nat.reduceAdd, Nat.reduceLeDiff, reduceIte, Bool.not_true, Bool.not_false, Bool.false_eq_true, CA_some, Option.some.injEq, Nat.zero_add, Nat.mul_one, Nat.add_zero, setL, List.set_cons_zero, List.set_cons_succ, fillC]
  refine WS_loop2 (σ := Nat) (f1 := _) (by simp only [RR, RP, Ty.agg, Ty.size, Ty.sizes, eq_self, ne_eq, not_true, not_false_iff, reduceCtorEq, List.length_cons, List.length_nil, decide_true, decide_false, true_and, and_true, ite_true, ite_false, PT.full, enter0, setAll, forget, Fr.set, Fr.get, PT.get, PT.set, kof, ai, ev, ev1, evp, b_add, b_sub, b_mul, b_quo, b_rem, b_eql, b_neq, b_lss, b_leq, b_gtr, b_geq, b_seql, b_sneq, setD, resV, resL, res1, args, List.take_zero, List.drop_zero, List.take_nil, List.take_succ_cons, List.drop_succ_cons, Nat.reduceAdd, Nat.reduceLeDiff, reduceIte, Bool.not_true, Bool.not_false, Bool.false_eq_true, CA_some, Option.some.injEq, Nat.zero_add, Nat.mul_one, Nat.add_zero, setL, List.set_cons_zero, List.set_cons_succ, fillC]; rfl) (fun i => [(5, .val false [.int .i64 i]), (1, .val false [.int .i64 ((k + ((zs.take i).map (cnE TEntry)).sum : Nat) : Int)])])
    (fun i g h' => g = xs.length - i ∧ i ≤ xs.length ∧ h' = h) 0 xs.length (by simp only [List.take_zero, List.map_nil, List.sum_nil, RR, RP, Ty.agg, Ty.size, Ty.sizes, eq_self, ne_eq, not_true, not_false_iff, reduceCtorEq, List.length_cons, List.length_nil, decide_true, decide_false, true_and, and_true, ite_true, ite_false, PT.full, enter0, setAll, forget, Fr.set, Fr.get, PT.get, PT.set, kof, ai, ev, ev1, evp, b_add, b_sub, b_mul, b_quo, b_rem, b_eql, b_neq, b_lss, b_leq, b_gtr, b_geq, b_seql, b_sneq, setD, resV, resL, res1, args, List.take_zero, List.drop_zero, List.take_nil, List.take_succ_cons, List.drop_succ_cons, Nat.reduceAdd, Nat.reduceLeDiff, reduceIte, Bool.not_true, Bool.not_false, Bool.false_eq_true, CA_some, Option.some.injEq, Nat.zero_add, Nat.mul_one, Nat.add_zero, setL, List.set_cons_zero, List.set_cons_succ, fillC]; rfl) ⟨by omega, by omega, rfl⟩ ?_
  rintro i g h' ⟨hg, hi, rfl⟩
  simp (disch := omega) only [c169, hl, w64, RR, RP, Ty.agg, Ty.size, Ty.sizes, eq_self, ne_eq, not_true, not_false_iff, reduceCtorEq, List.length_cons, List.length_nil, decide_true, decide_false, true_and, and_true, ite_true, ite_false, PT.full, enter0, setAll, forget, Fr.set, Fr.get, PT.get, PT.set, kof, ai, ev, ev1, evp, b_add, b_sub, b_mul, b_quo, b_rem, b_eql, b_neq, b_lss, b_leq, b_gtr, b_geq, b_seql, b_sneq, setD, resV, resL, res1, args, List.take_zero, List.drop_zero, List.take_nil, List.take_succ_cons, List.drop_succ_cons, Nat.reduceAdd, Nat.reduceLeDiff, reduceIte, Bool.not_true, Bool.not_false, Bool.false_eq_true, CA_some, Option.some.injEq, Nat.zero_add, Nat.mul_one, Nat.add_zero, setL, List.set_cons_zero, List.set_cons_succ, fillC]
  refine BR_dec (fun hlt => ?_) (fun hlt => ?_)
  · have hix : i < xs.length := by omega
    have hiz : i < zs.length := by omega
    have hsi := sum_take (g := cnE TEntry) (List.getElem?_eq_getElem hiz)
    have hsl := sum_le (g := cnE TEntry) zs (i + 1)
    have hfit : off + i * 3 + 3 ≤ bs.length := by
      have := Nat.mul_le_mul_right 3 hix
      rw [Nat.succ_mul] at this
      omega
    obtain ⟨Si, k1⟩ := hel.at hix
    have hxi : xs[i] = mkE TEntry zs[i] (k + ((zs.take i).map (cnE TEntry)).sum) := by
      have e1 : xs[i]? = some (mkE TEntry zs[i] (k + ((zs.take i).map (cnE TEntry)).sum)) := by
        rw [hxs']
        have e2 : zs = zs.take i ++ zs[i] :: zs.drop (i + 1) := by rw [← List.drop_eq_getElem_cons hiz, List.take_append_drop]
        conv => lhs; rw [e2, mkL_app, mkL]
        have hl2 : (mkL (mkE TEntry) (cnE TEntry) (zs.take i) k).length = i := by rw [mkL_len, List.length_take]; omega
        rw [List.getElem?_append_right (by omega), hl2, Nat.sub_self, List.getElem?_cons_zero]
      rw [List.getElem?_eq_getElem hix] at e1
      simpa using e1
    rw [hs1] at k1
    obtain ⟨x0, x1, x2, hx⟩ := len_3 k1.size
    rw [hx] at k1
    obtain ⟨pre, post, hpl, rfl⟩ := around hx hfit
    have hat' := hat i hix
    rw [← hpl] at hat'
    have hcb := (hce (by omega)).1
    obtain ⟨h0_, cs0_, S0_, hTi⟩ := hTe i hiz
    obtain ⟨w_vs, w_hv, w_q0⟩ := hTi.st
    obtain ⟨w_v0, w_r0, w_S0, w_T0, rfl, w_e0, w_h0, w_q1⟩ := w_q0.step
    obtain ⟨m0, _, rfl, _, _, _⟩ := w_h0.int
    obtain ⟨w_v1, w_r1, w_S1, w_T1, rfl, w_e1, w_h1, w_q2⟩ := w_q1.step
    obtain ⟨m1, _, rfl, _, _, _⟩ := w_h1.int
    obtain ⟨w_v2, w_r2, w_S2, w_T2, rfl, w_e2, w_h2, w_q3⟩ := w_q2.step
    obtain ⟨_, rfl, _⟩ := w_q3
    have hzi : zs[i] = .r [.i m0, .i m1, w_v2] := w_hv
    have hmkE : xs[i] = .r [.i (IntKind.i64.wrap (((k + ((zs.take i).map (cnE TEntry)).sum) : Nat) : Int)), .i (IntKind.i64.wrap ((((k + ((zs.take i).map (cnE TEntry)).sum) + 1) : Nat) : Int)), mkE (.sl (.int .u8)) w_v2 ((((k + ((zs.take i).map (cnE TEntry)).sum) + 1) + 1))] := by rw [hxi, hzi]; rfl
    have hcne : cnE TEntry zs[i] = (1 + (1 + (cnE (.sl (.int .u8)) w_v2 + 0))) := by rw [hzi]; rfl
    rw [hcne] at hsi
    obtain ⟨p_vs, p_hv, p_q0⟩ := k1.st
    obtain ⟨p_v0, p_r0, p_S0, p_T0, rfl, rfl, p_h0, p_q1⟩ := p_q0.step
    simp only [Ty.size, Ty.sizes, Nat.reduceAdd, Nat.zero_add, List.drop_zero, List.drop_succ_cons, List.take_succ_cons, List.take_zero] at p_h0
    obtain ⟨n0, e0, rfl, rfl, lo0, hi0⟩ := p_h0.int
    simp only [List.cons.injEq, and_true] at e0
    subst e0
    obtain ⟨p_v1, p_r1, p_S1, p_T1, rfl, rfl, p_h1, p_q2⟩ := p_q1.step
    simp only [Ty.size, Ty.sizes, Nat.reduceAdd, Nat.zero_add, List.drop_zero, List.drop_succ_cons, List.take_succ_cons, List.take_zero] at p_h1
    obtain ⟨n1, e1, rfl, rfl, lo1, hi1⟩ := p_h1.int
    simp only [List.cons.injEq, and_true] at e1
    subst e1
    obtain ⟨p_v2, p_r2, p_S2, p_T2, rfl, rfl, p_h2, p_q3⟩ := p_q2.step
    simp only [Ty.size, Ty.sizes, Nat.reduceAdd, Nat.zero_add, List.drop_zero, List.drop_succ_cons, List.take_succ_cons, List.take_zero] at p_h2
    have h2 := p_h2
    obtain ⟨_, rfl, rfl⟩ := p_q3
    have heq := hmkE.symm.trans p_hv
    simp only [Tv.r.injEq, List.cons.injEq, Tv.i.injEq, and_true, and_assoc] at heq
    obtain ⟨a0, a1, a2⟩ := heq
    rw [← a2] at h2
    simp (disch := omega) only [KC_eq, c169, hl, hat', hcb, pre_get3, pre_get2, pre_get, pre_get0, List.length_append, List.cons_append, List.nil_append, ifT, w64, cnE_sl, cast1, RR, RP, Ty.agg, Ty.size, Ty.sizes, eq_self, ne_eq, not_true, not_false_iff, reduceCtorEq, List.length_cons, List.length_nil, decide_true, decide_false, true_and, and_true, ite_true, ite_false, PT.full, enter0, setAll, forget, Fr.set, Fr.get, PT.get, PT.set, kof, ai, ev, ev1, evp, b_add, b_sub, b_mul, b_quo, b_rem, b_eql, b_neq, b_lss, b_leq, b_gtr, b_geq, b_seql, b_sneq, setD, resV, resL, res1, args, List.take_zero, List.drop_zero, List.take_nil, List.take_succ_cons, List.drop_succ_cons, Nat.reduceAdd, Nat.reduceLeDiff, reduceIte, Bool.not_true, Bool.not_false, Bool.false_eq_true, CA_some, Option.some.injEq, Nat.zero_add, Nat.mul_one, Nat.add_zero, setL, List.set_cons_zero, List.set_cons_succ, fillC]
    refine BR_dec (fun hn => absurd (by rw [← a0, w64 (by omega) (by omega)]) hn) (fun hn => ?_)
    simp (disch := omega) only [KC_eq, c169, hl, hat', hcb, pre_get3, pre_get2, pre_get, pre_get0, List.length_append, List.cons_append, List.nil_append, ifT, w64, cnE_sl, cast1, RR, RP, Ty.agg, Ty.size, Ty.sizes, eq_self, ne_eq, not_true, not_false_iff, reduceCtorEq, List.length_cons, List.length_nil, decide_true, decide_false, true_and, and_true, ite_true, ite_false, PT.full, enter0, setAll, forget, Fr.set, Fr.get, PT.get, PT.set, kof, ai, ev, ev1, evp, b_add, b_sub, b_mul, b_quo, b_rem, b_eql, b_neq, b_lss, b_leq, b_gtr, b_geq, b_seql, b_sneq, setD, resV, resL, res1, args, List.take_zero, List.drop_zero, List.take_nil, List.take_succ_cons, List.drop_succ_cons, Nat.reduceAdd, Nat.reduceLeDiff, reduceIte, Bool.not_true, Bool.not_false, Bool.false_eq_true, CA_some, Option.some.injEq, Nat.zero_add, Nat.mul_one, Nat.add_zero, setL, List.set_cons_zero, List.set_cons_succ, fillC]
    refine BR_dec (fun hn => absurd (by rw [← a1, w64 (by omega) (by omega)]) hn) (fun hn => ?_)
    simp (disch := omega) only [KC_eq, c169, hl, hat', hcb, pre_get3, pre_get2, pre_get, pre_get0, List.length_append, List.cons_append, List.nil_append, ifT, w64, cnE_sl, cast1, RR, RP, Ty.agg, Ty.size, Ty.sizes, eq_self, ne_eq, not_true, not_false_iff, reduceCtorEq, List.length_cons, List.length_nil, decide_true, decide_false, true_and, and_true, ite_true, ite_false, PT.full, enter0, setAll, forget, Fr.set, Fr.get, PT.get, PT.set, kof, ai, ev, ev1, evp, b_add, b_sub, b_mul, b_quo, b_rem, b_eql, b_neq, b_lss, b_leq, b_gtr, b_geq, b_seql, b_sneq, setD, resV, resL, res1, args, List.take_zero, List.drop_zero, List.take_nil, List.take_succ_cons, List.drop_succ_cons, Nat.reduceAdd, Nat.reduceLeDiff, reduceIte, Bool.not_true, Bool.not_false, Bool.false_eq_true, CA_some, Option.some.injEq, Nat.zero_add, Nat.mul_one, Nat.add_zero, setL, List.set_cons_zero, List.set_cons_succ, fillC]
    rw [← mkE_sl] at h2
    refine HdOk.go hd_ByteS ⟨_, _, _, w_h2⟩ h2 (k := (((k + ((zs.take i).map (cnE TEntry)).sum) + 1) + 1)) (by rw [cnE_sl]; omega) ?_
    simp (disch := omega) only [KC_eq, c169, hl, hat', hcb, pre_get3, pre_get2, pre_get, pre_get0, List.length_append, List.cons_append, List.nil_append, ifT, w64, cnE_sl, cast1, RR, RP, Ty.agg, Ty.size, Ty.sizes, eq_self, ne_eq, not_true, not_false_iff, reduceCtorEq, List.length_cons, List.length_nil, decide_true, decide_false, true_and, and_true, ite_true, ite_false, PT.full, enter0, setAll, forget, Fr.set, Fr.get, PT.get, PT.set, kof, ai, ev, ev1, evp, b_add, b_sub, b_mul, b_quo, b_rem, b_eql, b_neq, b_lss, b_leq, b_gtr, b_geq, b_seql, b_sneq, setD, resV, resL, res1, args, List.take_zero, List.drop_zero, List.take_nil, List.take_succ_cons, List.drop_succ_cons, Nat.reduceAdd, Nat.reduceLeDiff, reduceIte, Bool.not_true, Bool.not_false, Bool.false_eq_true, CA_some, Option.some.injEq, Nat.zero_add, Nat.mul_one, Nat.add_zero, setL, List.set_cons_zero, List.set_cons_succ, fillC]
    refine BR_dec (fun hn => absurd hn (by omega)) (fun hn => ?_)
    simp (disch := omega) only [KC_eq, c169, hl, hat', hcb, pre_get3, pre_get2, pre_get, pre_get0, List.length_append, List.cons_append, List.nil_append, ifT, w64, cnE_sl, cast1, RR, RP, Ty.agg, Ty.size, Ty.sizes, eq_self, ne_eq, not_true, not_false_iff, reduceCtorEq, List.length_cons, List.length_nil, decide_true, decide_false, true_and, and_true, ite_true, ite_false, PT.full, enter0, setAll, forget, Fr.set, Fr.get, PT.get, PT.set, kof, ai, ev, ev1, evp, b_add, b_sub, b_mul, b_quo, b_rem, b_eql, b_neq, b_lss, b_leq, b_gtr, b_geq, b_seql, b_sneq, setD, resV, resL, res1, args, List.take_zero, List.drop_zero, List.take_nil, List.take_succ_cons, List.drop_succ_cons, Nat.reduceAdd, Nat.reduceLeDiff, reduceIte, Bool.not_true, Bool.not_false, Bool.false_eq_true, CA_some, Option.some.injEq, Nat.zero_add, Nat.mul_one, Nat.add_zero, setL, List.set_cons_zero, List.set_cons_succ, fillC]
    refine ⟨i + 1, xs.length - (i + 1), by omega, ?_, rfl, by omega⟩
    have e1 : k + ((zs.take (i + 1)).map (cnE TEntry)).sum = ((((k + ((zs.take i).map (cnE TEntry)).sum) + 1) + 1) + cnE (.sl (.int .u8)) w_v2) := by omega
    rw [e1]
  · simp (disch := omega) only [c169, RR, RP, Ty.agg, Ty.size, Ty.sizes, eq_self, ne_eq, not_true, not_false_iff, reduceCtorEq, List.length_cons, List.length_nil, decide_true, decide_false, true_and, and_true, ite_true, ite_false, PT.full, enter0, setAll, forget, Fr.set, Fr.get, PT.get, PT.set, kof, ai, ev, ev1, evp, b_add, b_sub, b_mul, b_quo, b_rem, b_eql, b_neq, b_lss, b_leq, b_gtr, b_geq, b_seql, b_sneq, setD, resV, resL, res1, args, List.take_zero, List.drop_zero, List.take_nil, List.take_succ_cons, List.drop_succ_cons, Nat.reduceAdd, Nat.reduceLeDiff, reduceIte, Bool.not_true, Bool.not_false, Bool.false_eq_true, CA_some, Option.some.injEq, Nat.zero_add, Nat.mul_one, Nat.add_zero, setL, List.set_cons_zero, List.set_cons_succ, fillC]
    have : i = zs.length := by omega
    rw [this, List.take_length]
theorem hd_HeadS : HdOk cd 99 (.sl THead) := by
  intro h cs v S k hT hv hk
  by_cases hsl : ∃ xs, v = .l xs
  case neg =>
    obtain ⟨xs, e, _⟩ := hv.sl
    cases v <;> simp [mkT] at e
    exact absurd ⟨_, rfl⟩ hsl
  obtain ⟨zs, rfl⟩ := hsl
  have hTe : ∀ i (hi : i < zs.length), Tvd THead zs[i] := fun i hi => by
    obtain ⟨h0, cs0, S0, hT⟩ := hT
    obtain ⟨_, ys, _, _, _, _, _, e, _, _, _, _, _, hel0, _⟩ := hT.view
    simp at e
    subst e
    obtain ⟨Si, hx⟩ := hel0.at hi
    exact ⟨_, _, _, hx⟩
  obtain ⟨c, xs, id, off, bs, S', rfl, hxs, hm, hl, hat, hce, hbs, hel, hS⟩ := hv.view
  have hcn : cnT (.sl THead) (.l zs) = (zs.map (cnE THead)).sum := rfl
  rw [hcn] at hk ⊢
  have hxs' : xs = mkL (mkE THead) (cnE THead) zs k := by
    have e : mkT (.sl THead) (.l zs) k = .l (mkL (mkE THead) (cnE THead) zs k) := rfl
    rw [e] at hxs
    exact (by simpa using hxs.symm)
  have hlen : xs.length = zs.length := by rw [hxs', mkL_len]
  have hs1 : THead.size = 10 := rfl
  rw [hs1] at hat hbs
  refine WS_enter k99 rfl ?_
  simp (disch := omega) only [c99, RR, RP, Ty.agg, Ty.size, Ty.sizes, eq_self, ne_eq, not_true, not_false_iff, reduceCtorEq, List.length_cons, List.length_nil, decide_true, decide_false, true_and, and_true, ite_true, ite_false, PT.full, enter0, setAll, forget, Fr.set, Fr.get, PT.get, PT.set, kof, ai, ev, ev1, evp, b_add, b_sub, b_mul, b_quo, b_rem, b_eql, b_neq, b_lss, b_leq, b_gtr, b_geq, b_seql, b_sneq, setD, resV, resL, res1, args, List.take_zero, List.drop_zero, List.take_nil, List.take_succ_cons, List.drop_succ_cons, Nat.reduceAdd, Nat.reduceLeDiff, reduceIte, Bool.not_true, Bool.not_false, Bool.false_eq_true, CA_some, Option.some.injEq, Nat.zero_add, Nat.mul_one, Nat.add_zero, setL, List.set_cons_zero, List.set_cons_succ, fillC]
  refine WS_loop2 (σ := Nat) (f1 := _) (by simp only [RR, RP, Ty.agg, Ty.size, Ty.sizes, eq_self, ne_eq, not_true, not_false_iff, reduceCtorEq, List.length_cons, List.length_nil, decide_true, decide_false, true_and, and_true, ite_true, ite_false, PT.full, enter0, setAll, forget, Fr.set, Fr.get, PT.get, PT.set, kof, ai, ev, ev1, evp, b_add, b_sub, b_mul, b_quo, b_rem, b_eql, b_neq, b_lss, b_leq, b_gtr, b_geq, b_seql, b_sneq, setD, resV, resL, res1, args, List.take_zero, List.drop_zero, List.take_nil, List.take_succ_cons, List.drop_succ_cons, Nat.reduceAdd, Nat.reduceLeDiff, reduceIte, Bool.not_true, Bool.not_false, Bool.false_eq_true, CA_some, Option.some.injEq, Nat.zero_add, Nat.mul_one, Nat.add_zero, setL, List.set_cons_zero, List.set_cons_succ, fillC]; rfl) (fun i => [(5, .val false [.int .i64 i]), (1, .val false [.int .i64 ((k + ((zs.take i).map (cnE THead)).sum : Nat) : Int)])])
    (fun i g h' => g = xs.length - i ∧ i ≤ xs.length ∧ h' = h) 0 xs.length (by simp only [List.take_zero, List.map_nil, List.sum_nil, RR, RP, Ty.agg, Ty.size, Ty.sizes, eq_self, ne_eq, not_true, not_false_iff, reduceCtorEq, List.length_cons, List.length_nil, decide_true, decide_false, true_and, and_true, ite_true, ite_false, PT.full, enter0, setAll, forget, Fr.set, Fr.get, PT.get, PT.set, kof, ai, ev, ev1, evp, b_add, b_sub, b_mul, b_quo, b_rem, b_eql, b_neq, b_lss, b_leq, b_gtr, b_geq, b_seql, b_sneq, setD, resV, resL, res1, args, List.take_zero, List.drop_zero, List.take_nil, List.take_succ_cons, List.drop_succ_cons, Nat.reduceAdd, Nat.reduceLeDiff, reduceIte, Bool.not_true, Bool.not_false, Bool.false_eq_true, CA_some, Option.some.injEq, Nat.zero_add, Nat.mul_one, Nat.add_zero, setL, List.set_cons_zero, List.set_cons_succ, fillC]; rfl) ⟨by omega, by omega, rfl⟩ ?_
  rintro i g h' ⟨hg, hi, rfl⟩
  simp (disch := omega) only [c99, hl, w64, RR, RP, Ty.agg, Ty.size, Ty.sizes, eq_self, ne_eq, not_true, not_false_iff, reduceCtorEq, List.length_cons, List.length_nil, decide_true, decide_false, true_and, and_true, ite_true, ite_false, PT.full, enter0, setAll, forget, Fr.set, Fr.get, PT.get, PT.set, kof, ai, ev, ev1, evp, b_add, b_sub, b_mul, b_quo, b_rem, b_eql, b_neq, b_lss, b_leq, b_gtr, b_geq, b_seql, b_sneq, setD, resV, resL, res1, args, List.take_zero, List.drop_zero, List.take_nil, List.take_succ_cons, List.drop_succ_cons, Nat.reduceAdd, Nat.reduceLeDiff, reduceIte, Bool.not_true, Bool.not_false, Bool.false_eq_true, CA_some, Option.some.injEq, Nat.zero_add, Nat.mul_one, Nat.add_zero, setL, List.set_cons_zero, List.set_cons_succ, fillC]
  refine BR_dec (fun hlt => ?_) (fun hlt => ?_)
  · have hix : i < xs.length := by omega
    have hiz : i < zs.length := by omega
    have hsi := sum_take (g := cnE THead) (List.getElem?_eq_getElem hiz)
    have hsl := sum_le (g := cnE THead) zs (i + 1)
    have hfit : off + i * 10 + 10 ≤ bs.length := by
      have := Nat.mul_le_mul_right 10 hix
      rw [Nat.succ_mul] at this
      omega
    obtain ⟨Si, k1⟩ := hel.at hix
    have hxi : xs[i] = mkE THead zs[i] (k + ((zs.take i).map (cnE THead)).sum) := by
      have e1 : xs[i]? = some (mkE THead zs[i] (k + ((zs.take i).map (cnE THead)).sum)) := by
        rw [hxs']
        have e2 : zs = zs.take i ++ zs[i] :: zs.drop (i + 1) := by rw [← List.drop_eq_getElem_cons hiz, List.take_append_drop]
        conv => lhs; rw [e2, mkL_app, mkL]
        have hl2 : (mkL (mkE THead) (cnE THead) (zs.take i) k).length = i := by rw [mkL_len, List.length_take]; omega
        rw [List.getElem?_append_right (by omega), hl2, Nat.sub_self, List.getElem?_cons_zero]
      rw [List.getElem?_eq_getElem hix] at e1
      simpa using e1
    rw [hs1] at k1
    obtain ⟨x0, x1, x2, x3, x4, x5, x6, x7, x8, x9, hx⟩ := len_10 k1.size
    rw [hx] at k1
    obtain ⟨pre, post, hpl, rfl⟩ := around hx hfit
    have hat' := hat i hix
    rw [← hpl] at hat'
    have hcb := (hce (by omega)).1
    obtain ⟨h0_, cs0_, S0_, hTi⟩ := hTe i hiz
    obtain ⟨w_vs, w_hv, w_q0⟩ := hTi.st
    obtain ⟨w_v0, w_r0, w_S0, w_T0, rfl, w_e0, w_h0, w_q1⟩ := w_q0.step
    obtain ⟨m0, _, rfl, _, _, _⟩ := w_h0.int
    obtain ⟨w_v1, w_r1, w_S1, w_T1, rfl, w_e1, w_h1, w_q2⟩ := w_q1.step
    obtain ⟨m1, _, rfl, _, _, _⟩ := w_h1.int
    obtain ⟨w_v2, w_r2, w_S2, w_T2, rfl, w_e2, w_h2, w_q3⟩ := w_q2.step
    obtain ⟨m2, _, rfl, _, _, _⟩ := w_h2.int
    obtain ⟨w_v3, w_r3, w_S3, w_T3, rfl, w_e3, w_h3, w_q4⟩ := w_q3.step
    obtain ⟨w_v4, w_r4, w_S4, w_T4, rfl, w_e4, w_h4, w_q5⟩ := w_q4.step
    obtain ⟨w_v5, w_r5, w_S5, w_T5, rfl, w_e5, w_h5, w_q6⟩ := w_q5.step
    obtain ⟨w5_vs, w5_hv, w5_q0⟩ := w_h5.st
    obtain ⟨w5_v0, w5_r0, w5_S0, w5_T0, rfl, w5_e0, w5_h0, w5_q1⟩ := w5_q0.step
    obtain ⟨m5, _, rfl, _, _, _⟩ := w5_h0.int
    obtain ⟨w5_v1, w5_r1, w5_S1, w5_T1, rfl, w5_e1, w5_h1, w5_q2⟩ := w5_q1.step
    obtain ⟨m6, _, rfl, _, _, _⟩ := w5_h1.int
    obtain ⟨w5_v2, w5_r2, w5_S2, w5_T2, rfl, w5_e2, w5_h2, w5_q3⟩ := w5_q2.step
    obtain ⟨w5_v3, w5_r3, w5_S3, w5_T3, rfl, w5_e3, w5_h3, w5_q4⟩ := w5_q3.step
    obtain ⟨w5_v4, w5_r4, w5_S4, w5_T4, rfl, w5_e4, w5_h4, w5_q5⟩ := w5_q4.step
    obtain ⟨_, rfl, _⟩ := w5_q5
    subst w5_hv
    obtain ⟨_, rfl, _⟩ := w_q6
    have hzi : zs[i] = .r [.i m0, .i m1, .i m2, w_v3, w_v4, .r [.i m5, .i m6, w5_v2, w5_v3, w5_v4]] := w_hv
    have hmkE : xs[i] = .r [.i (IntKind.i64.wrap (((k + ((zs.take i).map (cnE THead)).sum) : Nat) : Int)), .i (IntKind.i64.wrap ((((k + ((zs.take i).map (cnE THead)).sum) + 1) : Nat) : Int)), .i (IntKind.i64.wrap (((((k + ((zs.take i).map (cnE THead)).sum) + 1) + 1) : Nat) : Int)), mkE (.sl (.int .u8)) w_v3 (((((k + ((zs.take i).map (cnE THead)).sum) + 1) + 1) + 1)), mkE (.sl (.int .u8)) w_v4 ((((((k + ((zs.take i).map (cnE THead)).sum) + 1) + 1) + 1) + cnE (.sl (.int .u8)) w_v3)), .r [.i (IntKind.i64.wrap ((((((((k + ((zs.take i).map (cnE THead)).sum) + 1) + 1) + 1) + cnE (.sl (.int .u8)) w_v3) + cnE (.sl (.int .u8)) w_v4) : Nat) : Int)), .i (IntKind.i64.wrap (((((((((k + ((zs.take i).map (cnE THead)).sum) + 1) + 1) + 1) + cnE (.sl (.int .u8)) w_v3) + cnE (.sl (.int .u8)) w_v4) + 1) : Nat) : Int)), mkE (.sl (.int .u8)) w5_v2 (((((((((k + ((zs.take i).map (cnE THead)).sum) + 1) + 1) + 1) + cnE (.sl (.int .u8)) w_v3) + cnE (.sl (.int .u8)) w_v4) + 1) + 1)), mkE (.sl (.int .u8)) w5_v3 ((((((((((k + ((zs.take i).map (cnE THead)).sum) + 1) + 1) + 1) + cnE (.sl (.int .u8)) w_v3) + cnE (.sl (.int .u8)) w_v4) + 1) + 1) + cnE (.sl (.int .u8)) w5_v2)), mkE (.sl (.sl (.int .u8))) w5_v4 (((((((((((k + ((zs.take i).map (cnE THead)).sum) + 1) + 1) + 1) + cnE (.sl (.int .u8)) w_v3) + cnE (.sl (.int .u8)) w_v4) + 1) + 1) + cnE (.sl (.int .u8)) w5_v2) + cnE (.sl (.int .u8)) w5_v3))]] := by rw [hxi, hzi]; rfl
    have hcne : cnE THead zs[i] = (1 + (1 + (1 + (cnE (.sl (.int .u8)) w_v3 + (cnE (.sl (.int .u8)) w_v4 + ((1 + (1 + (cnE (.sl (.int .u8)) w5_v2 + (cnE (.sl (.int .u8)) w5_v3 + (cnE (.sl (.sl (.int .u8))) w5_v4 + 0))))) + 0)))))) := by rw [hzi]; rfl
    rw [hcne] at hsi
    obtain ⟨p_vs, p_hv, p_q0⟩ := k1.st
    obtain ⟨p_v0, p_r0, p_S0, p_T0, rfl, rfl, p_h0, p_q1⟩ := p_q0.step
    simp only [Ty.size, Ty.sizes, Nat.reduceAdd, Nat.zero_add, List.drop_zero, List.drop_succ_cons, List.take_succ_cons, List.take_zero] at p_h0
    obtain ⟨n0, e0, rfl, rfl, lo0, hi0⟩ := p_h0.int
    simp only [List.cons.injEq, and_true] at e0
    subst e0
    obtain ⟨p_v1, p_r1, p_S1, p_T1, rfl, rfl, p_h1, p_q2⟩ := p_q1.step
    simp only [Ty.size, Ty.sizes, Nat.reduceAdd, Nat.zero_add, List.drop_zero, List.drop_succ_cons, List.take_succ_cons, List.take_zero] at p_h1
    obtain ⟨n1, e1, rfl, rfl, lo1, hi1⟩ := p_h1.int
    simp only [List.cons.injEq, and_true] at e1
    subst e1
    obtain ⟨p_v2, p_r2, p_S2, p_T2, rfl, rfl, p_h2, p_q3⟩ := p_q2.step
    simp only [Ty.size, Ty.sizes, Nat.reduceAdd, Nat.zero_add, List.drop_zero, List.drop_succ_cons, List.take_succ_cons, List.take_zero] at p_h2
    obtain ⟨n2, e2, rfl, rfl, lo2, hi2⟩ := p_h2.int
    simp only [List.cons.injEq, and_true] at e2
    subst e2
    obtain ⟨p_v3, p_r3, p_S3, p_T3, rfl, rfl, p_h3, p_q4⟩ := p_q3.step
    simp only [Ty.size, Ty.sizes, Nat.reduceAdd, Nat.zero_add, List.drop_zero, List.drop_succ_cons, List.take_succ_cons, List.take_zero] at p_h3
    have h3 := p_h3
    obtain ⟨p_v4, p_r4, p_S4, p_T4, rfl, rfl, p_h4, p_q5⟩ := p_q4.step
    simp only [Ty.size, Ty.sizes, Nat.reduceAdd, Nat.zero_add, List.drop_zero, List.drop_succ_cons, List.take_succ_cons, List.take_zero] at p_h4
    have h4 := p_h4
    obtain ⟨p_v5, p_r5, p_S5, p_T5, rfl, rfl, p_h5, p_q6⟩ := p_q5.step
    simp only [Ty.size, Ty.sizes, Nat.reduceAdd, Nat.zero_add, List.drop_zero, List.drop_succ_cons, List.take_succ_cons, List.take_zero] at p_h5
    obtain ⟨p5_vs, p5_hv, p5_q0⟩ := p_h5.st
    obtain ⟨p5_v0, p5_r0, p5_S0, p5_T0, rfl, rfl, p5_h0, p5_q1⟩ := p5_q0.step
    simp only [Ty.size, Ty.sizes, Nat.reduceAdd, Nat.zero_add, List.drop_zero, List.drop_succ_cons, List.take_succ_cons, List.take_zero] at p5_h0
    obtain ⟨n5, e5, rfl, rfl, lo5, hi5⟩ := p5_h0.int
    simp only [List.cons.injEq, and_true] at e5
    subst e5
    obtain ⟨p5_v1, p5_r1, p5_S1, p5_T1, rfl, rfl, p5_h1, p5_q2⟩ := p5_q1.step
    simp only [Ty.size, Ty.sizes, Nat.reduceAdd, Nat.zero_add, List.drop_zero, List.drop_succ_cons, List.take_succ_cons, List.take_zero] at p5_h1
    obtain ⟨n6, e6, rfl, rfl, lo6, hi6⟩ := p5_h1.int
    simp only [List.cons.injEq, and_true] at e6
    subst e6
    obtain ⟨p5_v2, p5_r2, p5_S2, p5_T2, rfl, rfl, p5_h2, p5_q3⟩ := p5_q2.step
    simp only [Ty.size, Ty.sizes, Nat.reduceAdd, Nat.zero_add, List.drop_zero, List.drop_succ_cons, List.take_succ_cons, List.take_zero] at p5_h2
    have h7 := p5_h2
    obtain ⟨p5_v3, p5_r3, p5_S3, p5_T3, rfl, rfl, p5_h3, p5_q4⟩ := p5_q3.step
    simp only [Ty.size, Ty.sizes, Nat.reduceAdd, Nat.zero_add, List.drop_zero, List.drop_succ_cons, List.take_succ_cons, List.take_zero] at p5_h3
    have h8 := p5_h3
    obtain ⟨p5_v4, p5_r4, p5_S4, p5_T4, rfl, rfl, p5_h4, p5_q5⟩ := p5_q4.step
    simp only [Ty.size, Ty.sizes, Nat.reduceAdd, Nat.zero_add, List.drop_zero, List.drop_succ_cons, List.take_succ_cons, List.take_zero] at p5_h4
    have h9 := p5_h4
    obtain ⟨_, rfl, rfl⟩ := p5_q5
    subst p5_hv
    obtain ⟨_, rfl, rfl⟩ := p_q6
    have heq := hmkE.symm.trans p_hv
    simp only [Tv.r.injEq, List.cons.injEq, Tv.i.injEq, and_true, and_assoc] at heq
    obtain ⟨a0, a1, a2, a3, a4, a5, a6, a7, a8, a9⟩ := heq
    rw [← a3] at h3
    rw [← a4] at h4
    rw [← a7] at h7
    rw [← a8] at h8
    rw [← a9] at h9
    simp (disch := omega) only [KC_eq, c99, hl, hat', hcb, pre_get3, pre_get2, pre_get, pre_get0, List.length_append, List.cons_append, List.nil_append, ifT, w64, cnE_sl, cast1, RR, RP, Ty.agg, Ty.size, Ty.sizes, eq_self, ne_eq, not_true, not_false_iff, reduceCtorEq, List.length_cons, List.length_nil, decide_true, decide_false, true_and, and_true, ite_true, ite_false, PT.full, enter0, setAll, forget, Fr.set, Fr.get, PT.get, PT.set, kof, ai, ev, ev1, evp, b_add, b_sub, b_mul, b_quo, b_rem, b_eql, b_neq, b_lss, b_leq, b_gtr, b_geq, b_seql, b_sneq, setD, resV, resL, res1, args, List.take_zero, List.drop_zero, List.take_nil, List.take_succ_cons, List.drop_succ_cons, Nat.reduceAdd, Nat.reduceLeDiff, reduceIte, Bool.not_true, Bool.not_false, Bool.false_eq_true, CA_some, Option.some.injEq, Nat.zero_add, Nat.mul_one, Nat.add_zero, setL, List.set_cons_zero, List.set_cons_succ, fillC]
    refine BR_dec (fun hn => absurd (by rw [← a0, w64 (by omega) (by omega)]) hn) (fun hn => ?_)
    simp (disch := omega) only [KC_eq, c99, hl, hat', hcb, pre_get3, pre_get2, pre_get, pre_get0, List.length_append, List.cons_append, List.nil_append, ifT, w64, cnE_sl, cast1, RR, RP, Ty.agg, Ty.size, Ty.sizes, eq_self, ne_eq, not_true, not_false_iff, reduceCtorEq, List.length_cons, List.length_nil, decide_true, decide_false, true_and, and_true, ite_true, ite_false, PT.full, enter0, setAll, forget, Fr.set, Fr.get, PT.get, PT.set, kof, ai, ev, ev1, evp, b_add, b_sub, b_mul, b_quo, b_rem, b_eql, b_neq, b_lss, b_leq, b_gtr, b_geq, b_seql, b_sneq, setD, resV, resL, res1, args, List.take_zero, List.drop_zero, List.take_nil, List.take_succ_cons, List.drop_succ_cons, Nat.reduceAdd, Nat.reduceLeDiff, reduceIte, Bool.not_true, Bool.not_false, Bool.false_eq_true, CA_some, Option.some.injEq, Nat.zero_add, Nat.mul_one, Nat.add_zero, setL, List.set_cons_zero, List.set_cons_succ, fillC]
    refine BR_dec (fun hn => absurd (by rw [← a1, w64 (by omega) (by omega)]) hn) (fun hn => ?_)
    simp (disch := omega) only [KC_eq, c99, hl, hat', hcb, pre_get3, pre_get2, pre_get, pre_get0, List.length_append, List.cons_append, List.nil_append, ifT, w64, cnE_sl, cast1, RR, RP, Ty.agg, Ty.size, Ty.sizes, eq_self, ne_eq, not_true, not_false_iff, reduceCtorEq, List.length_cons, List.length_nil, decide_true, decide_false, true_and, and_true, ite_true, ite_false, PT.full, enter0, setAll, forget, Fr.set, Fr.get, PT.get, PT.set, kof, ai, ev, ev1, evp, b_add, b_sub, b_mul, b_quo, b_rem, b_eql, b_neq, b_lss, b_leq, b_gtr, b_geq, b_seql, b_sneq, setD, resV, resL, res1, args, List.take_zero, List.drop_zero, List.take_nil, List.take_succ_cons, List.drop_succ_cons, Nat.reduceAdd, Nat.reduceLeDiff, reduceIte, Bool.not_true, Bool.not_false, Bool.false_eq_true, CA_some, Option.some.injEq, Nat.zero_add, Nat.mul_one, Nat.add_zero, setL, List.set_cons_zero, List.set_cons_succ, fillC]
    refine BR_dec (fun hn => absurd (by rw [← a2, w64 (by omega) (by omega)]) hn) (fun hn => ?_)
    simp (disch := omega) only [KC_eq, c99, hl, hat', hcb, pre_get3, pre_get2, pre_get, pre_get0, List.length_append, List.cons_append, List.nil_append, ifT, w64, cnE_sl, cast1, RR, RP, Ty.agg, Ty.size, Ty.sizes, eq_self, ne_eq, not_true, not_false_iff, reduceCtorEq, List.length_cons, List.length_nil, decide_true, decide_false, true_and, and_true, ite_true, ite_false, PT.full, enter0, setAll, forget, Fr.set, Fr.get, PT.get, PT.set, kof, ai, ev, ev1, evp, b_add, b_sub, b_mul, b_quo, b_rem, b_eql, b_neq, b_lss, b_leq, b_gtr, b_geq, b_seql, b_sneq, setD, resV, resL, res1, args, List.take_zero, List.drop_zero, List.take_nil, List.take_succ_cons, List.drop_succ_cons, Nat.reduceAdd, Nat.reduceLeDiff, reduceIte, Bool.not_true, Bool.not_false, Bool.false_eq_true, CA_some, Option.some.injEq, Nat.zero_add, Nat.mul_one, Nat.add_zero, setL, List.set_cons_zero, List.set_cons_succ, fillC]
    rw [← mkE_sl] at h3
    refine HdOk.go hd_ByteS ⟨_, _, _, w_h3⟩ h3 (k := ((((k + ((zs.take i).map (cnE THead)).sum) + 1) + 1) + 1)) (by rw [cnE_sl]; omega) ?_
    simp (disch := omega) only [KC_eq, c99, hl, hat', hcb, pre_get3, pre_get2, pre_get, pre_get0, List.length_append, List.cons_append, List.nil_append, ifT, w64, cnE_sl, cast1, RR, RP, Ty.agg, Ty.size, Ty.sizes, eq_self, ne_eq, not_true, not_false_iff, reduceCtorEq, List.length_cons, List.length_nil, decide_true, decide_false, true_and, and_true, ite_true, ite_false, PT.full, enter0, setAll, forget, Fr.set, Fr.get, PT.get, PT.set, kof, ai, ev, ev1, evp, b_add, b_sub, b_mul, b_quo, b_rem, b_eql, b_neq, b_lss, b_leq, b_gtr, b_geq, b_seql, b_sneq, setD, resV, resL, res1, args, List.take_zero, List.drop_zero, List.take_nil, List.take_succ_cons, List.drop_succ_cons, Nat.reduceAdd, Nat.reduceLeDiff, reduceIte, Bool.not_true, Bool.not_false, Bool.false_eq_true, CA_some, Option.some.injEq, Nat.zero_add, Nat.mul_one, Nat.add_zero, setL, List.set_cons_zero, List.set_cons_succ, fillC]
    refine BR_dec (fun hn => absurd hn (by omega)) (fun hn => ?_)
    simp (disch := omega) only [KC_eq, c99, hl, hat', hcb, pre_get3, pre_get2, pre_get, pre_get0, List.length_append, List.cons_append, List.nil_append, ifT, w64, cnE_sl, cast1, RR, RP, Ty.agg, Ty.size, Ty.sizes, eq_self, ne_eq, not_true, not_false_iff, reduceCtorEq, List.length_cons, List.length_nil, decide_true, decide_false, true_and, and_true, ite_true, ite_false, PT.full, enter0, setAll, forget, Fr.set, Fr.get, PT.get, PT.set, kof, ai, ev, ev1, evp, b_add, b_sub, b_mul, b_quo, b_rem, b_eql, b_neq, b_lss, b_leq, b_gtr, b_geq, b_seql, b_sneq, setD, resV, resL, res1, args, List.take_zero, List.drop_zero, List.take_nil, List.take_succ_cons, List.drop_succ_cons, Nat.reduceAdd, Nat.reduceLeDiff, reduceIte, Bool.not_true, Bool.not_false, Bool.false_eq_true, CA_some, Option.some.injEq, Nat.zero_add, Nat.mul_one, Nat.add_zero, setL, List.set_cons_zero, List.set_cons_succ, fillC]
    rw [← mkE_sl] at h4
    refine HdOk.go hd_ByteS ⟨_, _, _, w_h4⟩ h4 (k := (((((k + ((zs.take i).map (cnE THead)).sum) + 1) + 1) + 1) + cnE (.sl (.int .u8)) w_v3)) (by rw [cnE_sl]; omega) ?_
    simp (disch := omega) only [KC_eq, c99, hl, hat', hcb, pre_get3, pre_get2, pre_get, pre_get0, List.length_append, List.cons_append, List.nil_append, ifT, w64, cnE_sl, cast1, RR, RP, Ty.agg, Ty.size, Ty.sizes, eq_self, ne_eq, not_true, not_false_iff, reduceCtorEq, List.length_cons, List.length_nil, decide_true, decide_false, true_and, and_true, ite_true, ite_false, PT.full, enter0, setAll, forget, Fr.set, Fr.get, PT.get, PT.set, kof, ai, ev, ev1, evp, b_add, b_sub, b_mul, b_quo, b_rem, b_eql, b_neq, b_lss, b_leq, b_gtr, b_geq, b_seql, b_sneq, setD, resV, resL, res1, args, List.take_zero, List.drop_zero, List.take_nil, List.take_succ_cons, List.drop_succ_cons, Nat.reduceAdd, Nat.reduceLeDiff, reduceIte, Bool.not_true, Bool.not_false, Bool.false_eq_true, CA_some, Option.some.injEq, Nat.zero_add, Nat.mul_one, Nat.add_zero, setL, List.set_cons_zero, List.set_cons_succ, fillC]
    refine BR_dec (fun hn => absurd hn (by omega)) (fun hn => ?_)
    simp (disch := omega) only [KC_eq, c99, hl, hat', hcb, pre_get3, pre_get2, pre_get, pre_get0, List.length_append, List.cons_append, List.nil_append, ifT, w64, cnE_sl, cast1, RR, RP, Ty.agg, Ty.size, Ty.sizes, eq_self, ne_eq, not_true, not_false_iff, reduceCtorEq, List.length_cons, List.length_nil, decide_true, decide_false, true_and, and_true, ite_true, ite_false, PT.full, enter0, setAll, forget, Fr.set, Fr.get, PT.get, PT.set, kof, ai, ev, ev1, evp, b_add, b_sub, b_mul, b_quo, b_rem, b_eql, b_neq, b_lss, b_leq, b_gtr, b_geq, b_seql, b_sneq, setD, resV, resL, res1, args, List.take_zero, List.drop_zero, List.take_nil, List.take_succ_cons, List.drop_succ_cons, Nat.reduceAdd, Nat.reduceLeDiff, reduceIte, Bool.not_true, Bool.not_false, Bool.false_eq_true, CA_some, Option.some.injEq, Nat.zero_add, Nat.mul_one, Nat.add_zero, setL, List.set_cons_zero, List.set_cons_succ, fillC]
    refine BR_dec (fun hn => absurd (by rw [← a5, w64 (by omega) (by omega)]) hn) (fun hn => ?_)
    simp (disch := omega) only [KC_eq, c99, hl, hat', hcb, pre_get3, pre_get2, pre_get, pre_get0, List.length_append, List.cons_append, List.nil_append, ifT, w64, cnE_sl, cast1, RR, RP, Ty.agg, Ty.size, Ty.sizes, eq_self, ne_eq, not_true, not_false_iff, reduceCtorEq, List.length_cons, List.length_nil, decide_true, decide_false, true_and, and_true, ite_true, ite_false, PT.full, enter0, setAll, forget, Fr.set, Fr.get, PT.get, PT.set, kof, ai, ev, ev1, evp, b_add, b_sub, b_mul, b_quo, b_rem, b_eql, b_neq, b_lss, b_leq, b_gtr, b_geq, b_seql, b_sneq, setD, resV, resL, res1, args, List.take_zero, List.drop_zero, List.take_nil, List.take_succ_cons, List.drop_succ_cons, Nat.reduceAdd, Nat.reduceLeDiff, reduceIte, Bool.not_true, Bool.not_false, Bool.false_eq_true, CA_some, Option.some.injEq, Nat.zero_add, Nat.mul_one, Nat.add_zero, setL, List.set_cons_zero, List.set_cons_succ, fillC]
    refine BR_dec (fun hn => absurd (by rw [← a6, w64 (by omega) (by omega)]) hn) (fun hn => ?_)
    simp (disch := omega) only [KC_eq, c99, hl, hat', hcb, pre_get3, pre_get2, pre_get, pre_get0, List.length_append, List.cons_append, List.nil_append, ifT, w64, cnE_sl, cast1, RR, RP, Ty.agg, Ty.size, Ty.sizes, eq_self, ne_eq, not_true, not_false_iff, reduceCtorEq, List.length_cons, List.length_nil, decide_true, decide_false, true_and, and_true, ite_true, ite_false, PT.full, enter0, setAll, forget, Fr.set, Fr.get, PT.get, PT.set, kof, ai, ev, ev1, evp, b_add, b_sub, b_mul, b_quo, b_rem, b_eql, b_neq, b_lss, b_leq, b_gtr, b_geq, b_seql, b_sneq, setD, resV, resL, res1, args, List.take_zero, List.drop_zero, List.take_nil, List.take_succ_cons, List.drop_succ_cons, Nat.reduceAdd, Nat.reduceLeDiff, reduceIte, Bool.not_true, Bool.not_false, Bool.false_eq_true, CA_some, Option.some.injEq, Nat.zero_add, Nat.mul_one, Nat.add_zero, setL, List.set_cons_zero, List.set_cons_succ, fillC]
    rw [← mkE_sl] at h7
    refine HdOk.go hd_ByteS ⟨_, _, _, w5_h2⟩ h7 (k := ((((((((k + ((zs.take i).map (cnE THead)).sum) + 1) + 1) + 1) + cnE (.sl (.int .u8)) w_v3) + cnE (.sl (.int .u8)) w_v4) + 1) + 1)) (by rw [cnE_sl]; omega) ?_
    simp (disch := omega) only [KC_eq, c99, hl, hat', hcb, pre_get3, pre_get2, pre_get, pre_get0, List.length_append, List.cons_append, List.nil_append, ifT, w64, cnE_sl, cast1, RR, RP, Ty.agg, Ty.size, Ty.sizes, eq_self, ne_eq, not_true, not_false_iff, reduceCtorEq, List.length_cons, List.length_nil, decide_true, decide_false, true_and, and_true, ite_true, ite_false, PT.full, enter0, setAll, forget, Fr.set, Fr.get, PT.get, PT.set, kof, ai, ev, ev1, evp, b_add, b_sub, b_mul, b_quo, b_rem, b_eql, b_neq, b_lss, b_leq, b_gtr, b_geq, b_seql, b_sneq, setD, resV, resL, res1, args, List.take_zero, List.drop_zero, List.take_nil, List.take_succ_cons, List.drop_succ_cons, Nat.reduceAdd, Nat.reduceLeDiff, reduceIte, Bool.not_true, Bool.not_false, Bool.false_eq_true, CA_some, Option.some.injEq, Nat.zero_add, Nat.mul_one, Nat.add_zero, setL, List.set_cons_zero, List.set_cons_succ, fillC]
    refine BR_dec (fun hn => absurd hn (by omega)) (fun hn => ?_)
    simp (disch := omega) only [KC_eq, c99, hl, hat', hcb, pre_get3, pre_get2, pre_get, pre_get0, List.length_append, List.cons_append, List.nil_append, ifT, w64, cnE_sl, cast1, RR, RP, Ty.agg, Ty.size, Ty.sizes, eq_self, ne_eq, not_true, not_false_iff, reduceCtorEq, List.length_cons, List.length_nil, decide_true, decide_false, true_and, and_true, ite_true, ite_false, PT.full, enter0, setAll, forget, Fr.set, Fr.get, PT.get, PT.set, kof, ai, ev, ev1, evp, b_add, b_sub, b_mul, b_quo, b_rem, b_eql, b_neq, b_lss, b_leq, b_gtr, b_geq, b_seql, b_sneq, setD, resV, resL, res1, args, List.take_zero, List.drop_zero, List.take_nil, List.take_succ_cons, List.drop_succ_cons, Nat.reduceAdd, Nat.reduceLeDiff, reduceIte, Bool.not_true, Bool.not_false, Bool.false_eq_true, CA_some, Option.some.injEq, Nat.zero_add, Nat.mul_one, Nat.add_zero, setL, List.set_cons_zero, List.set_cons_succ, fillC]
    rw [← mkE_sl] at h8
    refine HdOk.go hd_ByteS ⟨_, _, _, w5_h3⟩ h8 (k := (((((((((k + ((zs.take i).map (cnE THead)).sum) + 1) + 1) + 1) + cnE (.sl (.int .u8)) w_v3) + cnE (.sl (.int .u8)) w_v4) + 1) + 1) + cnE (.sl (.int .u8)) w5_v2)) (by rw [cnE_sl]; omega) ?_
    simp (disch := omega) only [KC_eq, c99, hl, hat', hcb, pre_get3, pre_get2, pre_get, pre_get0, List.length_append, List.cons_append, List.nil_append, ifT, w64, cnE_sl, cast1, RR, RP, Ty.agg, Ty.size, Ty.sizes, eq_self, ne_eq, not_true, not_false_iff, reduceCtorEq, List.length_cons, List.length_nil, decide_true, decide_false, true_and, and_true, ite_true, ite_false, PT.full, enter0, setAll, forget, Fr.set, Fr.get, PT.get, PT.set, kof, ai, ev, ev1, evp, b_add, b_sub, b_mul, b_quo, b_rem, b_eql, b_neq, b_lss, b_leq, b_gtr, b_geq, b_seql, b_sneq, setD, resV, resL, res1, args, List.take_zero, List.drop_zero, List.take_nil, List.take_succ_cons, List.drop_succ_cons, Nat.reduceAdd, Nat.reduceLeDiff, reduceIte, Bool.not_true, Bool.not_false, Bool.false_eq_true, CA_some, Option.some.injEq, Nat.zero_add, Nat.mul_one, Nat.add_zero, setL, List.set_cons_zero, List.set_cons_succ, fillC]
    refine BR_dec (fun hn => absurd hn (by omega)) (fun hn => ?_)
    simp (disch := omega) only [KC_eq, c99, hl, hat', hcb, pre_get3, pre_get2, pre_get, pre_get0, List.length_append, List.cons_append, List.nil_append, ifT, w64, cnE_sl, cast1, RR, RP, Ty.agg, Ty.size, Ty.sizes, eq_self, ne_eq, not_true, not_false_iff, reduceCtorEq, List.length_cons, List.length_nil, decide_true, decide_false, true_and, and_true, ite_true, ite_false, PT.full, enter0, setAll, forget, Fr.set, Fr.get, PT.get, PT.set, kof, ai, ev, ev1, evp, b_add, b_sub, b_mul, b_quo, b_rem, b_eql, b_neq, b_lss, b_leq, b_gtr, b_geq, b_seql, b_sneq, setD, resV, resL, res1, args, List.take_zero, List.drop_zero, List.take_nil, List.take_succ_cons, List.drop_succ_cons, Nat.reduceAdd, Nat.reduceLeDiff, reduceIte, Bool.not_true, Bool.not_false, Bool.false_eq_true, CA_some, Option.some.injEq, Nat.zero_add, Nat.mul_one, Nat.add_zero, setL, List.set_cons_zero, List.set_cons_succ, fillC]
    rw [← mkE_sl] at h9
    refine HdOk.go hd_ByteSS ⟨_, _, _, w5_h4⟩ h9 (k := ((((((((((k + ((zs.take i).map (cnE THead)).sum) + 1) + 1) + 1) + cnE (.sl (.int .u8)) w_v3) + cnE (.sl (.int .u8)) w_v4) + 1) + 1) + cnE (.sl (.int .u8)) w5_v2) + cnE (.sl (.int .u8)) w5_v3)) (by rw [cnE_sl]; omega) ?_
    simp (disch := omega) only [KC_eq, c99, hl, hat', hcb, pre_get3, pre_get2, pre_get, pre_get0, List.length_append, List.cons_append, List.nil_append, ifT, w64, cnE_sl, cast1, RR, RP, Ty.agg, Ty.size, Ty.sizes, eq_self, ne_eq, not_true, not_false_iff, reduceCtorEq, List.length_cons, List.length_nil, decide_true, decide_false, true_and, and_true, ite_true, ite_false, PT.full, enter0, setAll, forget, Fr.set, Fr.get, PT.get, PT.set, kof, ai, ev, ev1, evp, b_add, b_sub, b_mul, b_quo, b_rem, b_eql, b_neq, b_lss, b_leq, b_gtr, b_geq, b_seql, b_sneq, setD, resV, resL, res1, args, List.take_zero, List.drop_zero, List.take_nil, List.take_succ_cons, List.drop_succ_cons, Nat.reduceAdd, Nat.reduceLeDiff, reduceIte, Bool.not_true, Bool.not_false, Bool.false_eq_true, CA_some, Option.some.injEq, Nat.zero_add, Nat.mul_one, Nat.add_zero, setL, List.set_cons_zero, List.set_cons_succ, fillC]
    refine BR_dec (fun hn => absurd hn (by omega)) (fun hn => ?_)
    simp (disch := omega) only [KC_eq, c99, hl, hat', hcb, pre_get3, pre_get2, pre_get, pre_get0, List.length_append, List.cons_append, List.nil_append, ifT, w64, cnE_sl, cast1, RR, RP, Ty.agg, Ty.size, Ty.sizes, eq_self, ne_eq, not_true, not_false_iff, reduceCtorEq, List.length_cons, List.length_nil, decide_true, decide_false, true_and, and_true, ite_true, ite_false, PT.full, enter0, setAll, forget, Fr.set, Fr.get, PT.get, PT.set, kof, ai, ev, ev1, evp, b_add, b_sub, b_mul, b_quo, b_rem, b_eql, b_neq, b_lss, b_leq, b_gtr, b_geq, b_seql, b_sneq, setD, resV, resL, res1, args, List.take_zero, List.drop_zero, List.take_nil, List.take_succ_cons, List.drop_succ_cons, Nat.reduceAdd, Nat.reduceLeDiff, reduceIte, Bool.not_true, Bool.not_false, Bool.false_eq_true, CA_some, Option.some.injEq, Nat.zero_add, Nat.mul_one, Nat.add_zero, setL, List.set_cons_zero, List.set_cons_succ, fillC]
    refine ⟨i + 1, xs.length - (i + 1), by omega, ?_, rfl, by omega⟩
    have e1 : k + ((zs.take (i + 1)).map (cnE THead)).sum = (((((((((((k + ((zs.take i).map (cnE THead)).sum) + 1) + 1) + 1) + cnE (.sl (.int .u8)) w_v3) + cnE (.sl (.int .u8)) w_v4) + 1) + 1) + cnE (.sl (.int .u8)) w5_v2) + cnE (.sl (.int .u8)) w5_v3) + cnE (.sl (.sl (.int .u8))) w5_v4) := by omega
    rw [e1]
  · simp (disch := omega) only [c99, RR, RP, Ty.agg, Ty.size, Ty.sizes, eq_self, ne_eq, not_true, not_false_iff, reduceCtorEq, List.length_cons, List.length_nil, decide_true, decide_false, true_and, and_true, ite_true, ite_false, PT.full, enter0, setAll, forget, Fr.set, Fr.get, PT.get, PT.set, kof, ai, ev, ev1, evp, b_add, b_sub, b_mul, b_quo, b_rem, b_eql, b_neq, b_lss, b_leq, b_gtr, b_geq, b_seql, b_sneq, setD, resV, resL, res1, args, List.take_zero, List.drop_zero, List.take_nil, List.take_succ_cons, List.drop_succ_cons, Nat.reduceAdd, Nat.reduceLeDiff, reduceIte, Bool.not_true, Bool.not_false, Bool.false_eq_true, CA_some, Option.some.injEq, Nat.zero_add, Nat.mul_one, Nat.add_zero, setL, List.set_cons_zero, List.set_cons_succ, fillC]
    have : i = zs.length := by omega
    rw [this, List.take_length]
end Go.Eng.U
