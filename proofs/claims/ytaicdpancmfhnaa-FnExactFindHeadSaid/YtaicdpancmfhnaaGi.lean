import Derived.Test.YtaicdpancmfhnaaGb
import Derived.Test.YtaicdpancmfhnaaGh
set_option maxRecDepth 100000
set_option linter.unusedSimpArgs false
set_option linter.unusedVariables false
namespace Go.Eng.U
theorem mk_HeadS : MkOk cd 64 (.sl THead) := by
  intro h cs v S k hv ho hk
  obtain ⟨c, xs, id, off, bs, S', rfl, rfl, hm, hl, hat, hce, hbs, hel, hS⟩ := hv.view
  have hcn : cnT (.sl THead) (.l xs) = (xs.map (cnE THead)).sum := rfl
  have hmk : mkT (.sl THead) (.l xs) k = .l (mkL (mkE THead) (cnE THead) xs k) := rfl
  rw [hcn] at hk ⊢
  rw [hmk]
  have hsub : ∀ j ∈ S', j ∈ S := fun j hj => by
    rcases hS with e | ⟨_, _, e⟩
    · rw [e]; simp [hj]
    · rw [e] at hj; cases hj
  have hnd : S'.Nodup := by
    rcases hS with e | ⟨_, _, e⟩
    · have := ho.1
      rw [e] at this
      exact (List.nodup_cons.1 this).2
    · rw [e]; simp
  have hid : 0 < xs.length → id ∉ S' ∧ id ∈ S := fun hp => by
    rcases hS with e | ⟨e, _, _⟩
    · have := ho.1
      rw [e] at this
      exact ⟨(List.nodup_cons.1 this).1, by rw [e]; simp⟩
    · rw [e] at hp; simp at hp
  have hown : ∃ ty, 0 < xs.length → h[id]? = some (.own ty bs) := by
    by_cases hp : 0 < xs.length
    · obtain ⟨ty, cs, e⟩ := ho.2 id (hid hp).2
      have := (hce hp).1
      rw [cells_own e] at this
      cases this
      exact ⟨ty, fun _ => e⟩
    · exact ⟨0, fun e => absurd e hp⟩
  obtain ⟨ty, hty⟩ := hown
  have hs1 : THead.size = 10 := rfl
  rw [hs1] at hat hbs
  refine WS_enter k64 rfl ?_
  simp (disch := omega) only [c64, RR, RP, Ty.agg, Ty.size, Ty.sizes, eq_self, ne_eq, not_true, not_false_iff, reduceCtorEq, List.length_cons, List.length_nil, decide_true, decide_false, true_and, and_true, ite_true, ite_false, PT.full, enter0, setAll, forget, Fr.set, Fr.get, PT.get, PT.set, kof, ai, ev, ev1, evp, b_add, b_sub, b_mul, b_quo, b_rem, b_eql, b_neq, b_lss, b_leq, b_gtr, b_geq, b_seql, b_sneq, setD, resV, resL, res1, args, List.take_zero, List.drop_zero, List.take_nil, List.take_succ_cons, List.drop_succ_cons, Nat.reduceAdd, Nat.reduceLeDiff, reduceIte, Bool.not_true, Bool.not_false, Bool.false_eq_true, CA_some, Option.some.injEq, Nat.zero_add, Nat.mul_one, Nat.add_zero, setL, List.set_cons_zero, List.set_cons_succ, fillC]
  refine WS_loop2 (σ := Nat) (f1 := _) (by simp only [RR, RP, Ty.agg, Ty.size, Ty.sizes, eq_self, ne_eq, not_true, not_false_iff, reduceCtorEq, List.length_cons, List.length_nil, decide_true, decide_false, true_and, and_true, ite_true, ite_false, PT.full, enter0, setAll, forget, Fr.set, Fr.get, PT.get, PT.set, kof, ai, ev, ev1, evp, b_add, b_sub, b_mul, b_quo, b_rem, b_eql, b_neq, b_lss, b_leq, b_gtr, b_geq, b_seql, b_sneq, setD, resV, resL, res1, args, List.take_zero, List.drop_zero, List.take_nil, List.take_succ_cons, List.drop_succ_cons, Nat.reduceAdd, Nat.reduceLeDiff, reduceIte, Bool.not_true, Bool.not_false, Bool.false_eq_true, CA_some, Option.some.injEq, Nat.zero_add, Nat.mul_one, Nat.add_zero, setL, List.set_cons_zero, List.set_cons_succ, fillC]; rfl) (fun i => [(5, .val false [.int .i64 i]), (1, .val false [.int .i64 ((k + ((xs.take i).map (cnE THead)).sum : Nat) : Int)])])
    (fun i g h' => g = xs.length - i ∧ i ≤ xs.length ∧ Wrote h h' S ∧ (0 < xs.length → ∃ bs', h'[id]? = some (.own ty bs') ∧ bs'.length = bs.length ∧ Elems (Rp h' THead) (mkd THead xs k i) ((bs'.drop off).take (xs.length * THead.size)) S') ∧ (i = 0 → h' = h)) 0 xs.length (by simp only [List.take_zero, List.map_nil, List.sum_nil, RR, RP, Ty.agg, Ty.size, Ty.sizes, eq_self, ne_eq, not_true, not_false_iff, reduceCtorEq, List.length_cons, List.length_nil, decide_true, decide_false, true_and, and_true, ite_true, ite_false, PT.full, enter0, setAll, forget, Fr.set, Fr.get, PT.get, PT.set, kof, ai, ev, ev1, evp, b_add, b_sub, b_mul, b_quo, b_rem, b_eql, b_neq, b_lss, b_leq, b_gtr, b_geq, b_seql, b_sneq, setD, resV, resL, res1, args, List.take_zero, List.drop_zero, List.take_nil, List.take_succ_cons, List.drop_succ_cons, Nat.reduceAdd, Nat.reduceLeDiff, reduceIte, Bool.not_true, Bool.not_false, Bool.false_eq_true, CA_some, Option.some.injEq, Nat.zero_add, Nat.mul_one, Nat.add_zero, setL, List.set_cons_zero, List.set_cons_succ, fillC]; rfl)
    ⟨by omega, by omega, Wrote.refl ho.2, fun hp => ⟨bs, hty hp, rfl, by rw [mkd_zero]; exact hel⟩, fun _ => rfl⟩ ?_
  rintro i g h' ⟨hg, hi, hw, hblk, hz0⟩
  simp (disch := omega) only [c64, hl, w64, RR, RP, Ty.agg, Ty.size, Ty.sizes, eq_self, ne_eq, not_true, not_false_iff, reduceCtorEq, List.length_cons, List.length_nil, decide_true, decide_false, true_and, and_true, ite_true, ite_false, PT.full, enter0, setAll, forget, Fr.set, Fr.get, PT.get, PT.set, kof, ai, ev, ev1, evp, b_add, b_sub, b_mul, b_quo, b_rem, b_eql, b_neq, b_lss, b_leq, b_gtr, b_geq, b_seql, b_sneq, setD, resV, resL, res1, args, List.take_zero, List.drop_zero, List.take_nil, List.take_succ_cons, List.drop_succ_cons, Nat.reduceAdd, Nat.reduceLeDiff, reduceIte, Bool.not_true, Bool.not_false, Bool.false_eq_true, CA_some, Option.some.injEq, Nat.zero_add, Nat.mul_one, Nat.add_zero, setL, List.set_cons_zero, List.set_cons_succ, fillC]
  refine BR_dec (fun hlt => ?_) (fun hlt => ?_)
  · have hix : i < xs.length := by omega
    obtain ⟨bs', hb1, hb2, he⟩ := hblk (by omega)
    clear hblk
    obtain ⟨hidS', hidS⟩ := hid (by omega)
    have hsi := sum_take (g := cnE THead) (List.getElem?_eq_getElem hix)
    have hsl := sum_le (g := cnE THead) xs (i + 1)
    have hfit : off + i * 10 + 10 ≤ bs'.length := by
      have := Nat.mul_le_mul_right 10 hix
      rw [Nat.succ_mul] at this
      omega
    have hme : i * 10 + 10 ≤ xs.length * 10 := by
      have := Nat.mul_le_mul_right 10 hix
      rw [Nat.succ_mul] at this
      exact this
    obtain ⟨Si, k1, k2, k3, k4⟩ := he.turn hnd (mkd_get hix)
    rw [part_part hix, hs1] at k1
    obtain ⟨x0, x1, x2, x3, x4, x5, x6, x7, x8, x9, hx⟩ := len_10 k1.size
    rw [hx] at k1
    obtain ⟨pre, post, hpl, rfl⟩ := around hx hfit
    have hat' := hat i hix
    rw [← hpl] at hat'
    have hidlt : id < h'.length := (List.getElem?_eq_some_iff.1 hb1).1
    have hset : ∀ b, (h'.set id b)[id]? = some b := fun b => set_get hidlt
    have hnid : id ∉ Si := fun hm => hidS' (k2 id hm)
    have hoi : Ownd h' Si := ⟨k3, fun j hj => (hw.ownd ho).2 j (hsub j (k2 j hj))⟩
    obtain ⟨p_vs, p_hv, p_q0⟩ := k1.st
    obtain ⟨p_v0, p_r0, p_S0, p_T0, rfl, rfl, p_h0, p_q1⟩ := p_q0.step
    simp only [Ty.size, Ty.sizes, Nat.reduceAdd, Nat.zero_add, List.drop_zero, List.drop_succ_cons, List.take_succ_cons, List.take_zero] at p_h0
    obtain ⟨n0, e0, rfl, rfl, lo0, hi0⟩ := p_h0.int
    simp only [List.cons.injEq, and_true] at e0
    subst e0
    obtain ⟨p_v1, p_r1, p_S1, p_T1, rfl, rfl, p_h1, p_q2⟩ := p_q1.step
    simp only [Ty.size, Ty.sizes, Nat.reduceAdd, Nat.zero_add, List.drop_zero, List.drop_succ_cons, List.take_succ_cons, List.take_zero] at p_h1
    obtain ⟨n1, e1, rfl, rfl, lo1, hi1⟩ := p_h1.int
    simp only [List.cons.injEq, and_true] at e1
    subst e1
    obtain ⟨p_v2, p_r2, p_S2, p_T2, rfl, rfl, p_h2, p_q3⟩ := p_q2.step
    simp only [Ty.size, Ty.sizes, Nat.reduceAdd, Nat.zero_add, List.drop_zero, List.drop_succ_cons, List.take_succ_cons, List.take_zero] at p_h2
    obtain ⟨n2, e2, rfl, rfl, lo2, hi2⟩ := p_h2.int
    simp only [List.cons.injEq, and_true] at e2
    subst e2
    obtain ⟨p_v3, p_r3, p_S3, p_T3, rfl, rfl, p_h3, p_q4⟩ := p_q3.step
    simp only [Ty.size, Ty.sizes, Nat.reduceAdd, Nat.zero_add, List.drop_zero, List.drop_succ_cons, List.take_succ_cons, List.take_zero] at p_h3
    have h3 := p_h3
    obtain ⟨p_v4, p_r4, p_S4, p_T4, rfl, rfl, p_h4, p_q5⟩ := p_q4.step
    simp only [Ty.size, Ty.sizes, Nat.reduceAdd, Nat.zero_add, List.drop_zero, List.drop_succ_cons, List.take_succ_cons, List.take_zero] at p_h4
    have h4 := p_h4
    obtain ⟨p_v5, p_r5, p_S5, p_T5, rfl, rfl, p_h5, p_q6⟩ := p_q5.step
    simp only [Ty.size, Ty.sizes, Nat.reduceAdd, Nat.zero_add, List.drop_zero, List.drop_succ_cons, List.take_succ_cons, List.take_zero] at p_h5
    obtain ⟨p5_vs, p5_hv, p5_q0⟩ := p_h5.st
    obtain ⟨p5_v0, p5_r0, p5_S0, p5_T0, rfl, rfl, p5_h0, p5_q1⟩ := p5_q0.step
    simp only [Ty.size, Ty.sizes, Nat.reduceAdd, Nat.zero_add, List.drop_zero, List.drop_succ_cons, List.take_succ_cons, List.take_zero] at p5_h0
    obtain ⟨n5, e5, rfl, rfl, lo5, hi5⟩ := p5_h0.int
    simp only [List.cons.injEq, and_true] at e5
    subst e5
    obtain ⟨p5_v1, p5_r1, p5_S1, p5_T1, rfl, rfl, p5_h1, p5_q2⟩ := p5_q1.step
    simp only [Ty.size, Ty.sizes, Nat.reduceAdd, Nat.zero_add, List.drop_zero, List.drop_succ_cons, List.take_succ_cons, List.take_zero] at p5_h1
    obtain ⟨n6, e6, rfl, rfl, lo6, hi6⟩ := p5_h1.int
    simp only [List.cons.injEq, and_true] at e6
    subst e6
    obtain ⟨p5_v2, p5_r2, p5_S2, p5_T2, rfl, rfl, p5_h2, p5_q3⟩ := p5_q2.step
    simp only [Ty.size, Ty.sizes, Nat.reduceAdd, Nat.zero_add, List.drop_zero, List.drop_succ_cons, List.take_succ_cons, List.take_zero] at p5_h2
    have h7 := p5_h2
    obtain ⟨p5_v3, p5_r3, p5_S3, p5_T3, rfl, rfl, p5_h3, p5_q4⟩ := p5_q3.step
    simp only [Ty.size, Ty.sizes, Nat.reduceAdd, Nat.zero_add, List.drop_zero, List.drop_succ_cons, List.take_succ_cons, List.take_zero] at p5_h3
    have h8 := p5_h3
    obtain ⟨p5_v4, p5_r4, p5_S4, p5_T4, rfl, rfl, p5_h4, p5_q5⟩ := p5_q4.step
    simp only [Ty.size, Ty.sizes, Nat.reduceAdd, Nat.zero_add, List.drop_zero, List.drop_succ_cons, List.take_succ_cons, List.take_zero] at p5_h4
    have h9 := p5_h4
    obtain ⟨_, rfl, rfl⟩ := p5_q5
    subst p5_hv
    obtain ⟨_, rfl, rfl⟩ := p_q6
    have hxi : xs[i] = .r [.i n0, .i n1, .i n2, p_v3, p_v4, .r [.i n5, .i n6, p5_v2, p5_v3, p5_v4]] := p_hv
    rw [hxi] at hsi
    simp only [List.nil_append, List.append_nil] at k2 k3 hnid hoi k4
    have hcne : cnE THead (.r [.i n0, .i n1, .i n2, p_v3, p_v4, .r [.i n5, .i n6, p5_v2, p5_v3, p5_v4]]) = (1 + (1 + (1 + (cnE (.sl (.int .u8)) p_v3 + (cnE (.sl (.int .u8)) p_v4 + ((1 + (1 + (cnE (.sl (.int .u8)) p5_v2 + (cnE (.sl (.int .u8)) p5_v3 + (cnE (.sl (.sl (.int .u8))) p5_v4 + 0))))) + 0)))))) := rfl
    rw [hcne] at hsi
    obtain ⟨o3, ho3, y3, yy3⟩ := hoi.split
    obtain ⟨o4, ho4, y4, yy4⟩ := ho3.split
    obtain ⟨o7, ho7, y7, yy7⟩ := ho4.split
    obtain ⟨o8, ho8, y8, yy8⟩ := ho7.split
    have o9 := ho8
    have hcs : ∀ ty b, H.cells (h'.set id (.own ty b)) id = some b := fun ty b => cells_own (hset _)
    have hcb : h'.cells id = _ := cells_own hb1
    simp (disch := omega) only [KC_eq, c64, hl, hat', hb1, hset, hcs, hcb, List.set_set, pre_get3, pre_set3, pre_get2, pre_set2, pre_get, pre_get0, pre_set, pre_set0, List.length_append, List.cons_append, List.nil_append, List.length_set, ifT, w64, cnE_sl, cast1, RR, RP, Ty.agg, Ty.size, Ty.sizes, eq_self, ne_eq, not_true, not_false_iff, reduceCtorEq, List.length_cons, List.length_nil, decide_true, decide_false, true_and, and_true, ite_true, ite_false, PT.full, enter0, setAll, forget, Fr.set, Fr.get, PT.get, PT.set, kof, ai, ev, ev1, evp, b_add, b_sub, b_mul, b_quo, b_rem, b_eql, b_neq, b_lss, b_leq, b_gtr, b_geq, b_seql, b_sneq, setD, resV, resL, res1, args, List.take_zero, List.drop_zero, List.take_nil, List.take_succ_cons, List.drop_succ_cons, Nat.reduceAdd, Nat.reduceLeDiff, reduceIte, Bool.not_true, Bool.not_false, Bool.false_eq_true, CA_some, Option.some.injEq, Nat.zero_add, Nat.mul_one, Nat.add_zero, setL, List.set_cons_zero, List.set_cons_succ, fillC]
    have hn3 : id ∉ p_S3 := fun hm => hnid (by simp [hm])
    have hn4 : id ∉ p_S4 := fun hm => hnid (by simp [hm])
    have hn7 : id ∉ p5_S2 := fun hm => hnid (by simp [hm])
    have hn8 : id ∉ p5_S3 := fun hm => hnid (by simp [hm])
    have hn9 : id ∉ p5_S4 := fun hm => hnid (by simp [hm])
    refine MkOk.go mk_ByteS (h3.set hn3) (Ownd.set o3 hidlt) (k := ((((k + ((xs.take i).map (cnE THead)).sum) + 1) + 1) + 1)) (by rw [cnE_sl]; omega) (fun g3 w3 z3 => ?_)
    have hb_3 := w3.2.1 id hn3
    simp only [hb1, hset, hcs, hcb] at hb_3
    have hlt_3 : id < g3.length := (List.getElem?_eq_some_iff.1 hb_3).1
    have hset_3 : ∀ b, (g3.set id b)[id]? = some b := fun b => set_get hlt_3
    have hcs_3 : ∀ ty b, H.cells (g3.set id (.own ty b)) id = some b := fun ty b => cells_own (hset_3 _)
    have hcb_3 : g3.cells id = _ := cells_own hb_3
    simp (disch := omega) only [KC_eq, c64, hl, hat', hb_3, hset_3, hcs_3, hcb_3, List.set_set, pre_get3, pre_set3, pre_get2, pre_set2, pre_get, pre_get0, pre_set, pre_set0, List.length_append, List.cons_append, List.nil_append, List.length_set, ifT, w64, cnE_sl, cast1, RR, RP, Ty.agg, Ty.size, Ty.sizes, eq_self, ne_eq, not_true, not_false_iff, reduceCtorEq, List.length_cons, List.length_nil, decide_true, decide_false, true_and, and_true, ite_true, ite_false, PT.full, enter0, setAll, forget, Fr.set, Fr.get, PT.get, PT.set, kof, ai, ev, ev1, evp, b_add, b_sub, b_mul, b_quo, b_rem, b_eql, b_neq, b_lss, b_leq, b_gtr, b_geq, b_seql, b_sneq, setD, resV, resL, res1, args, List.take_zero, List.drop_zero, List.take_nil, List.take_succ_cons, List.drop_succ_cons, Nat.reduceAdd, Nat.reduceLeDiff, reduceIte, Bool.not_true, Bool.not_false, Bool.false_eq_true, CA_some, Option.some.injEq, Nat.zero_add, Nat.mul_one, Nat.add_zero, setL, List.set_cons_zero, List.set_cons_succ, fillC]
    refine MkOk.go mk_ByteS ((h4.set hn4).wrote w3 (fun i hi => yy3 i (by simp [hi]))) (w3.ownd (Ownd.set o4 hidlt)) (k := (((((k + ((xs.take i).map (cnE THead)).sum) + 1) + 1) + 1) + cnE (.sl (.int .u8)) p_v3)) (by rw [cnE_sl]; omega) (fun g4 w4 z4 => ?_)
    have hb_4 := w4.2.1 id hn4
    simp only [hb_3, hset_3, hcs_3, hcb_3] at hb_4
    have hlt_4 : id < g4.length := (List.getElem?_eq_some_iff.1 hb_4).1
    have hset_4 : ∀ b, (g4.set id b)[id]? = some b := fun b => set_get hlt_4
    have hcs_4 : ∀ ty b, H.cells (g4.set id (.own ty b)) id = some b := fun ty b => cells_own (hset_4 _)
    have hcb_4 : g4.cells id = _ := cells_own hb_4
    simp (disch := omega) only [KC_eq, c64, hl, hat', hb_4, hset_4, hcs_4, hcb_4, List.set_set, pre_get3, pre_set3, pre_get2, pre_set2, pre_get, pre_get0, pre_set, pre_set0, List.length_append, List.cons_append, List.nil_append, List.length_set, ifT, w64, cnE_sl, cast1, RR, RP, Ty.agg, Ty.size, Ty.sizes, eq_self, ne_eq, not_true, not_false_iff, reduceCtorEq, List.length_cons, List.length_nil, decide_true, decide_false, true_and, and_true, ite_true, ite_false, PT.full, enter0, setAll, forget, Fr.set, Fr.get, PT.get, PT.set, kof, ai, ev, ev1, evp, b_add, b_sub, b_mul, b_quo, b_rem, b_eql, b_neq, b_lss, b_leq, b_gtr, b_geq, b_seql, b_sneq, setD, resV, resL, res1, args, List.take_zero, List.drop_zero, List.take_nil, List.take_succ_cons, List.drop_succ_cons, Nat.reduceAdd, Nat.reduceLeDiff, reduceIte, Bool.not_true, Bool.not_false, Bool.false_eq_true, CA_some, Option.some.injEq, Nat.zero_add, Nat.mul_one, Nat.add_zero, setL, List.set_cons_zero, List.set_cons_succ, fillC]
    refine MkOk.go mk_ByteS ((((h7.set hn7).wrote w3 (fun i hi => yy3 i (by simp [hi]))).wrote w4 (fun i hi => yy4 i (by simp [hi]))).set hn7) (Ownd.set (w4.ownd (w3.ownd (Ownd.set o7 hidlt))) hlt_4) (k := ((((((((k + ((xs.take i).map (cnE THead)).sum) + 1) + 1) + 1) + cnE (.sl (.int .u8)) p_v3) + cnE (.sl (.int .u8)) p_v4) + 1) + 1)) (by rw [cnE_sl]; omega) (fun g7 w7 z7 => ?_)
    have hb_7 := w7.2.1 id hn7
    simp only [hb_4, hset_4, hcs_4, hcb_4] at hb_7
    have hlt_7 : id < g7.length := (List.getElem?_eq_some_iff.1 hb_7).1
    have hset_7 : ∀ b, (g7.set id b)[id]? = some b := fun b => set_get hlt_7
    have hcs_7 : ∀ ty b, H.cells (g7.set id (.own ty b)) id = some b := fun ty b => cells_own (hset_7 _)
    have hcb_7 : g7.cells id = _ := cells_own hb_7
    simp (disch := omega) only [KC_eq, c64, hl, hat', hb_7, hset_7, hcs_7, hcb_7, List.set_set, pre_get3, pre_set3, pre_get2, pre_set2, pre_get, pre_get0, pre_set, pre_set0, List.length_append, List.cons_append, List.nil_append, List.length_set, ifT, w64, cnE_sl, cast1, RR, RP, Ty.agg, Ty.size, Ty.sizes, eq_self, ne_eq, not_true, not_false_iff, reduceCtorEq, List.length_cons, List.length_nil, decide_true, decide_false, true_and, and_true, ite_true, ite_false, PT.full, enter0, setAll, forget, Fr.set, Fr.get, PT.get, PT.set, kof, ai, ev, ev1, evp, b_add, b_sub, b_mul, b_quo, b_rem, b_eql, b_neq, b_lss, b_leq, b_gtr, b_geq, b_seql, b_sneq, setD, resV, resL, res1, args, List.take_zero, List.drop_zero, List.take_nil, List.take_succ_cons, List.drop_succ_cons, Nat.reduceAdd, Nat.reduceLeDiff, reduceIte, Bool.not_true, Bool.not_false, Bool.false_eq_true, CA_some, Option.some.injEq, Nat.zero_add, Nat.mul_one, Nat.add_zero, setL, List.set_cons_zero, List.set_cons_succ, fillC]
    refine MkOk.go mk_ByteS (((((h8.set hn8).wrote w3 (fun i hi => yy3 i (by simp [hi]))).wrote w4 (fun i hi => yy4 i (by simp [hi]))).set hn8).wrote w7 (fun i hi => yy7 i (by simp [hi]))) (w7.ownd (Ownd.set (w4.ownd (w3.ownd (Ownd.set o8 hidlt))) hlt_4)) (k := (((((((((k + ((xs.take i).map (cnE THead)).sum) + 1) + 1) + 1) + cnE (.sl (.int .u8)) p_v3) + cnE (.sl (.int .u8)) p_v4) + 1) + 1) + cnE (.sl (.int .u8)) p5_v2)) (by rw [cnE_sl]; omega) (fun g8 w8 z8 => ?_)
    have hb_8 := w8.2.1 id hn8
    simp only [hb_7, hset_7, hcs_7, hcb_7] at hb_8
    have hlt_8 : id < g8.length := (List.getElem?_eq_some_iff.1 hb_8).1
    have hset_8 : ∀ b, (g8.set id b)[id]? = some b := fun b => set_get hlt_8
    have hcs_8 : ∀ ty b, H.cells (g8.set id (.own ty b)) id = some b := fun ty b => cells_own (hset_8 _)
    have hcb_8 : g8.cells id = _ := cells_own hb_8
    simp (disch := omega) only [KC_eq, c64, hl, hat', hb_8, hset_8, hcs_8, hcb_8, List.set_set, pre_get3, pre_set3, pre_get2, pre_set2, pre_get, pre_get0, pre_set, pre_set0, List.length_append, List.cons_append, List.nil_append, List.length_set, ifT, w64, cnE_sl, cast1, RR, RP, Ty.agg, Ty.size, Ty.sizes, eq_self, ne_eq, not_true, not_false_iff, reduceCtorEq, List.length_cons, List.length_nil, decide_true, decide_false, true_and, and_true, ite_true, ite_false, PT.full, enter0, setAll, forget, Fr.set, Fr.get, PT.get, PT.set, kof, ai, ev, ev1, evp, b_add, b_sub, b_mul, b_quo, b_rem, b_eql, b_neq, b_lss, b_leq, b_gtr, b_geq, b_seql, b_sneq, setD, resV, resL, res1, args, List.take_zero, List.drop_zero, List.take_nil, List.take_succ_cons, List.drop_succ_cons, Nat.reduceAdd, Nat.reduceLeDiff, reduceIte, Bool.not_true, Bool.not_false, Bool.false_eq_true, CA_some, Option.some.injEq, Nat.zero_add, Nat.mul_one, Nat.add_zero, setL, List.set_cons_zero, List.set_cons_succ, fillC]
    refine MkOk.go mk_ByteSS ((((((h9.set hn9).wrote w3 (fun i hi => yy3 i (by simp [hi]))).wrote w4 (fun i hi => yy4 i (by simp [hi]))).set hn9).wrote w7 (fun i hi => yy7 i (by simp [hi]))).wrote w8 (fun i hi => yy8 i (by simp [hi]))) (w8.ownd (w7.ownd (Ownd.set (w4.ownd (w3.ownd (Ownd.set o9 hidlt))) hlt_4))) (k := ((((((((((k + ((xs.take i).map (cnE THead)).sum) + 1) + 1) + 1) + cnE (.sl (.int .u8)) p_v3) + cnE (.sl (.int .u8)) p_v4) + 1) + 1) + cnE (.sl (.int .u8)) p5_v2) + cnE (.sl (.int .u8)) p5_v3)) (by rw [cnE_sl]; omega) (fun g9 w9 z9 => ?_)
    have hb_9 := w9.2.1 id hn9
    simp only [hb_8, hset_8, hcs_8, hcb_8] at hb_9
    have hlt_9 : id < g9.length := (List.getElem?_eq_some_iff.1 hb_9).1
    have hset_9 : ∀ b, (g9.set id b)[id]? = some b := fun b => set_get hlt_9
    have hcs_9 : ∀ ty b, H.cells (g9.set id (.own ty b)) id = some b := fun ty b => cells_own (hset_9 _)
    have hcb_9 : g9.cells id = _ := cells_own hb_9
    simp (disch := omega) only [KC_eq, c64, hl, hat', hb_9, hset_9, hcs_9, hcb_9, List.set_set, pre_get3, pre_set3, pre_get2, pre_set2, pre_get, pre_get0, pre_set, pre_set0, List.length_append, List.cons_append, List.nil_append, List.length_set, ifT, w64, cnE_sl, cast1, RR, RP, Ty.agg, Ty.size, Ty.sizes, eq_self, ne_eq, not_true, not_false_iff, reduceCtorEq, List.length_cons, List.length_nil, decide_true, decide_false, true_and, and_true, ite_true, ite_false, PT.full, enter0, setAll, forget, Fr.set, Fr.get, PT.get, PT.set, kof, ai, ev, ev1, evp, b_add, b_sub, b_mul, b_quo, b_rem, b_eql, b_neq, b_lss, b_leq, b_gtr, b_geq, b_seql, b_sneq, setD, resV, resL, res1, args, List.take_zero, List.drop_zero, List.take_nil, List.take_succ_cons, List.drop_succ_cons, Nat.reduceAdd, Nat.reduceLeDiff, reduceIte, Bool.not_true, Bool.not_false, Bool.false_eq_true, CA_some, Option.some.injEq, Nat.zero_add, Nat.mul_one, Nat.add_zero, setL, List.set_cons_zero, List.set_cons_succ, fillC]
    have wF0 : Wrote h' h' (id :: (p_S3 ++ (p_S4 ++ (p5_S2 ++ (p5_S3 ++ (p5_S4)))))) := Wrote.refl (fun j hj => by
      rcases List.mem_cons.1 hj with rfl | hj
      · exact ⟨_, _, hb1⟩
      · exact hoi.2 j hj)
    have hmkE : mkE THead xs[i] (k + ((xs.take i).map (cnE THead)).sum) = .r [.i (IntKind.i64.wrap (((k + ((xs.take i).map (cnE THead)).sum) : Nat) : Int)), .i (IntKind.i64.wrap ((((k + ((xs.take i).map (cnE THead)).sum) + 1) : Nat) : Int)), .i (IntKind.i64.wrap (((((k + ((xs.take i).map (cnE THead)).sum) + 1) + 1) : Nat) : Int)), mkE (.sl (.int .u8)) p_v3 (((((k + ((xs.take i).map (cnE THead)).sum) + 1) + 1) + 1)), mkE (.sl (.int .u8)) p_v4 ((((((k + ((xs.take i).map (cnE THead)).sum) + 1) + 1) + 1) + cnE (.sl (.int .u8)) p_v3)), .r [.i (IntKind.i64.wrap ((((((((k + ((xs.take i).map (cnE THead)).sum) + 1) + 1) + 1) + cnE (.sl (.int .u8)) p_v3) + cnE (.sl (.int .u8)) p_v4) : Nat) : Int)), .i (IntKind.i64.wrap (((((((((k + ((xs.take i).map (cnE THead)).sum) + 1) + 1) + 1) + cnE (.sl (.int .u8)) p_v3) + cnE (.sl (.int .u8)) p_v4) + 1) : Nat) : Int)), mkE (.sl (.int .u8)) p5_v2 (((((((((k + ((xs.take i).map (cnE THead)).sum) + 1) + 1) + 1) + cnE (.sl (.int .u8)) p_v3) + cnE (.sl (.int .u8)) p_v4) + 1) + 1)), mkE (.sl (.int .u8)) p5_v3 ((((((((((k + ((xs.take i).map (cnE THead)).sum) + 1) + 1) + 1) + cnE (.sl (.int .u8)) p_v3) + cnE (.sl (.int .u8)) p_v4) + 1) + 1) + cnE (.sl (.int .u8)) p5_v2)), mkE (.sl (.sl (.int .u8))) p5_v4 (((((((((((k + ((xs.take i).map (cnE THead)).sum) + 1) + 1) + 1) + cnE (.sl (.int .u8)) p_v3) + cnE (.sl (.int .u8)) p_v4) + 1) + 1) + cnE (.sl (.int .u8)) p5_v2) + cnE (.sl (.int .u8)) p5_v3))]] := by rw [hxi]; rfl
    simp only [mkE_sl] at z3 z4 z7 z8 z9
    have wF := (((((((wF0.set (by simp) hidlt).more w3 (fun i hi => by simp [hi])).more w4 (fun i hi => by simp [hi])).set (by simp) hlt_4).more w7 (fun i hi => by simp [hi])).more w8 (fun i hi => by simp [hi])).more w9 (fun i hi => by simp [hi]))
    have hnew := Rp.mkSt (Rs.mk (Rp.mkNat (n := (k + ((xs.take i).map (cnE THead)).sum)) (by omega)) (Rs.mk (Rp.mkNat (n := ((k + ((xs.take i).map (cnE THead)).sum) + 1)) (by omega)) (Rs.mk (Rp.mkNat (n := (((k + ((xs.take i).map (cnE THead)).sum) + 1) + 1)) (by omega)) (Rs.mk (((((z3.wrote w4 (fun i hi hn => y3 i hi (by simp [hn]))).set hn3).wrote w7 (fun i hi hn => y3 i hi (by simp [hn]))).wrote w8 (fun i hi hn => y3 i hi (by simp [hn]))).wrote w9 (fun i hi hn => y3 i hi (by simp [hn]))) (Rs.mk ((((z4.set hn4).wrote w7 (fun i hi hn => y4 i hi (by simp [hn]))).wrote w8 (fun i hi hn => y4 i hi (by simp [hn]))).wrote w9 (fun i hi hn => y4 i hi (by simp [hn]))) (Rs.mk (Rp.mkSt (Rs.mk (Rp.mkNat (n := ((((((k + ((xs.take i).map (cnE THead)).sum) + 1) + 1) + 1) + cnE (.sl (.int .u8)) p_v3) + cnE (.sl (.int .u8)) p_v4)) (by omega)) (Rs.mk (Rp.mkNat (n := (((((((k + ((xs.take i).map (cnE THead)).sum) + 1) + 1) + 1) + cnE (.sl (.int .u8)) p_v3) + cnE (.sl (.int .u8)) p_v4) + 1)) (by omega)) (Rs.mk ((z7.wrote w8 (fun i hi hn => y7 i hi (by simp [hn]))).wrote w9 (fun i hi hn => y7 i hi (by simp [hn]))) (Rs.mk (z8.wrote w9 (fun i hi hn => y8 i hi (by simp [hn]))) (Rs.mk z9 Rs.nil)))))) Rs.nil))))))
    simp only [List.cons_append, List.nil_append, List.append_nil] at hnew
    rw [← hmkE] at hnew
    have hE := k4 _ _ _ (fun j hj hn => cells_same (wF.2.1 j (fun hm => by
      rcases List.mem_cons.1 hm with rfl | hm
      · exact hidS' hj
      · exact hn hm))) hnew
    rw [mkd_next hix] at hE
    refine ⟨i + 1, xs.length - (i + 1), by omega, ?_, rfl, by omega, hw.more wF (fun j hj => ?_), fun _ => ⟨pre ++ C.int .i64 (((k + ((xs.take i).map (cnE THead)).sum) : Nat) : Int) :: C.int .i64 ((((k + ((xs.take i).map (cnE THead)).sum) + 1) : Nat) : Int) :: C.int .i64 (((((k + ((xs.take i).map (cnE THead)).sum) + 1) + 1) : Nat) : Int) :: x3 :: x4 :: C.int .i64 ((((((((k + ((xs.take i).map (cnE THead)).sum) + 1) + 1) + 1) + cnE (.sl (.int .u8)) p_v3) + cnE (.sl (.int .u8)) p_v4) : Nat) : Int) :: C.int .i64 (((((((((k + ((xs.take i).map (cnE THead)).sum) + 1) + 1) + 1) + cnE (.sl (.int .u8)) p_v3) + cnE (.sl (.int .u8)) p_v4) + 1) : Nat) : Int) :: x7 :: x8 :: x9 :: post, by first | exact rfl | exact hb_9, ?_, ?_⟩, fun e => by omega⟩
    · have e1 : k + ((xs.take (i + 1)).map (cnE THead)).sum = (((((((((((k + ((xs.take i).map (cnE THead)).sum) + 1) + 1) + 1) + cnE (.sl (.int .u8)) p_v3) + cnE (.sl (.int .u8)) p_v4) + 1) + 1) + cnE (.sl (.int .u8)) p5_v2) + cnE (.sl (.int .u8)) p5_v3) + cnE (.sl (.sl (.int .u8))) p5_v4) := by omega
      rw [e1]
    · rcases List.mem_cons.1 hj with rfl | hj
      · exact hidS
      · exact hsub j (k2 j hj)
    · rw [← hb2]; simp
    · have ht := turned (l := [C.int .i64 n0, C.int .i64 n1, C.int .i64 n2, x3, x4, C.int .i64 n5, C.int .i64 n6, x7, x8, x9]) (l' := [C.int .i64 (((k + ((xs.take i).map (cnE THead)).sum) : Nat) : Int), C.int .i64 ((((k + ((xs.take i).map (cnE THead)).sum) + 1) : Nat) : Int), C.int .i64 (((((k + ((xs.take i).map (cnE THead)).sum) + 1) + 1) : Nat) : Int), x3, x4, C.int .i64 ((((((((k + ((xs.take i).map (cnE THead)).sum) + 1) + 1) + 1) + cnE (.sl (.int .u8)) p_v3) + cnE (.sl (.int .u8)) p_v4) : Nat) : Int), C.int .i64 (((((((((k + ((xs.take i).map (cnE THead)).sum) + 1) + 1) + 1) + cnE (.sl (.int .u8)) p_v3) + cnE (.sl (.int .u8)) p_v4) + 1) : Nat) : Int), x7, x8, x9]) (post := post) hpl rfl (m := xs.length * 10) (by simpa using hme)
      rw [hs1] at hE
      rw [← ht] at hE
      exact hE
  · simp (disch := omega) only [c64, RR, RP, Ty.agg, Ty.size, Ty.sizes, eq_self, ne_eq, not_true, not_false_iff, reduceCtorEq, List.length_cons, List.length_nil, decide_true, decide_false, true_and, and_true, ite_true, ite_false, PT.full, enter0, setAll, forget, Fr.set, Fr.get, PT.get, PT.set, kof, ai, ev, ev1, evp, b_add, b_sub, b_mul, b_quo, b_rem, b_eql, b_neq, b_lss, b_leq, b_gtr, b_geq, b_seql, b_sneq, setD, resV, resL, res1, args, List.take_zero, List.drop_zero, List.take_nil, List.take_succ_cons, List.drop_succ_cons, Nat.reduceAdd, Nat.reduceLeDiff, reduceIte, Bool.not_true, Bool.not_false, Bool.false_eq_true, CA_some, Option.some.injEq, Nat.zero_add, Nat.mul_one, Nat.add_zero, setL, List.set_cons_zero, List.set_cons_succ, fillC]
    have hi' : i = xs.length := by omega
    subst hi'
    rw [List.take_length]
    refine ⟨rfl, hw, ?_⟩
    by_cases hp : 0 < xs.length
    · obtain ⟨bs', hb1, hb2, he⟩ := hblk hp
      rw [mkd_all] at he
      refine ⟨_, rfl, ?_, .inr ⟨id, off, bs', S', _, ?_, cells_own hb1, ?_, ?_, ?_, .inl rfl⟩⟩
      · rw [mkL_len]; simp only [maxLen]; omega
      · rw [mkL_len]; rw [(hce hp).2]
      · rw [mkL_len, hb2, hs1]; exact hbs
      · rcases hS with e | ⟨e, _⟩
        · exact e
        · rw [e] at hp; simp at hp
      · rw [mkL_len]; exact he
    · have hx : xs = [] := List.eq_nil_of_length_eq_zero (by omega)
      subst hx
      rw [hz0 rfl]
      exact hv
/-- laws.markForest -/
def c55 : AF := ⟨2, 4, [.tmp 4], (.seq (.ops [.i (.lbox 2 (.s 0)), .i (.mov 4 (.c (.val false [.int .i64 0])))]) (.seq (.ops [.i (.fad 5 (.s 2) 5), .i (.ldl 6 2 (.s 5) 1 false), .i (.mov 7 (.s 1)), .i (.call 9 64 false [(.s 6), (.s 7)]), .i (.mov 1 (.s 8))]) (.seq (.ops [.i (.mov 9 (.s 1)), .i (.mov 4 (.s 9))]) .ret)))⟩
theorem k55 : cd 55 = some c55 := by kernel_rfl
theorem mk_Forest : MkOk cd 55 TForest := by
  intro h cs v S k hv ho hk
  obtain ⟨vs, rfl, q0⟩ := hv.st
  obtain ⟨v0, r0, S0, T0, rfl, rfl, h0, q1⟩ := q0.step
  obtain ⟨v1, r1, S1, T1, rfl, rfl, h1, q2⟩ := q1.step
  obtain ⟨c1, e1⟩ := h1.one rfl
  rw [e1] at h1
  obtain ⟨_, rfl, rfl⟩ := q2
  have hsz : cs.length = 6 := hv.size
  simp only [Ty.size, Ty.sizes, Nat.reduceAdd, Nat.zero_add, List.drop_zero] at e1 hsz h0
  have f0 := cnT_fl TLimits v0 rfl
  have m0 := fun n => mkT_fl TLimits v0 n rfl
  have hcn : cnT TForest (.r [v0, v1]) = (0 + (cnT (.sl THead) v1 + 0)) := by rw [show cnT TForest (.r [v0, v1]) = (cnT TLimits v0 + (cnT (.sl THead) v1 + 0)) from rfl, f0]
  have hmk : mkT TForest (.r [v0, v1]) k = .r [v0, mkT (.sl THead) v1 (k)] := by rw [show mkT TForest (.r [v0, v1]) k = .r [mkT TLimits v0 (k), mkT (.sl THead) v1 (k + cnT TLimits v0)] from rfl, f0, m0]; rfl
  rw [hmk]
  rw [hcn] at hk ⊢
  obtain ⟨rfl, _⟩ := h0.flh (h' := h) _ rfl
  simp only [List.nil_append, List.append_nil] at ho ⊢
  have o1 := ho
  refine WS_enter k55 rfl ?_
  simp (disch := omega) only [KC_eq, c55, e1, hsz, ifT, w64, RR, RP, Ty.agg, Ty.size, Ty.sizes, eq_self, ne_eq, not_true, not_false_iff, reduceCtorEq, List.length_cons, List.length_nil, decide_true, decide_false, true_and, and_true, ite_true, ite_false, PT.full, enter0, setAll, forget, Fr.set, Fr.get, PT.get, PT.set, kof, ai, ev, ev1, evp, b_add, b_sub, b_mul, b_quo, b_rem, b_eql, b_neq, b_lss, b_leq, b_gtr, b_geq, b_seql, b_sneq, setD, resV, resL, res1, args, List.take_zero, List.drop_zero, List.take_nil, List.take_succ_cons, List.drop_succ_cons, Nat.reduceAdd, Nat.reduceLeDiff, reduceIte, Bool.not_true, Bool.not_false, Bool.false_eq_true, CA_some, Option.some.injEq, Nat.zero_add, Nat.mul_one, Nat.add_zero, setL, List.set_cons_zero, List.set_cons_succ, fillC]
  refine MkOk.go mk_HeadS h1 o1 (k := k) (by omega) (fun g1 w1 z1 => ?_)
  simp (disch := omega) only [KC_eq, c55, e1, hsz, ifT, w64, RR, RP, Ty.agg, Ty.size, Ty.sizes, eq_self, ne_eq, not_true, not_false_iff, reduceCtorEq, List.length_cons, List.length_nil, decide_true, decide_false, true_and, and_true, ite_true, ite_false, PT.full, enter0, setAll, forget, Fr.set, Fr.get, PT.get, PT.set, kof, ai, ev, ev1, evp, b_add, b_sub, b_mul, b_quo, b_rem, b_eql, b_neq, b_lss, b_leq, b_gtr, b_geq, b_seql, b_sneq, setD, resV, resL, res1, args, List.take_zero, List.drop_zero, List.take_nil, List.take_succ_cons, List.drop_succ_cons, Nat.reduceAdd, Nat.reduceLeDiff, reduceIte, Bool.not_true, Bool.not_false, Bool.false_eq_true, CA_some, Option.some.injEq, Nat.zero_add, Nat.mul_one, Nat.add_zero, setL, List.set_cons_zero, List.set_cons_succ, fillC]
  have fin : Rs g1 [TLimits, (.sl THead)] (cs.drop 0) [v0, mkT (.sl THead) v1 (k)] _ := (Rs.unstep (o := 0) (h0.flh _ rfl).2 (Rs.unstep (o := 5) (Rp.cs_at e1 z1) (Rs.fin (Nat.le_of_eq hsz))))
  simp only [List.nil_append, List.append_nil, List.drop_zero] at fin
  have wr := ((Wrote.refl ho.2).more w1 (fun i hi => by simp [hi]))
  first
    | exact ⟨wr, _, rfl, fin⟩
    | (refine ⟨?_, wr, _, rfl, fin⟩
       congr 3
       omega)
/-- laws.markQc -/
def c73 : AF := ⟨2, 5, [.tmp 4], (.seq (.ops [.i (.lbox 2 (.s 0)), .i (.mov 4 (.c (.val false [.int .i64 0])))]) (.seq (.ops [.i (.fad 5 (.s 2) 2), .i (.ldl 6 2 (.s 5) 1 false), .i (.mov 7 (.s 1)), .i (.call 9 56 false [(.s 6), (.s 7)]), .i (.mov 1 (.s 8))]) (.seq (.ops [.i (.fad 9 (.s 2) 3), .i (.ldl 10 2 (.s 9) 1 false), .i (.mov 11 (.s 1)), .i (.call 13 56 false [(.s 10), (.s 11)]), .i (.mov 1 (.s 12))]) (.seq (.ops [.i (.fad 13 (.s 2) 4), .i (.ldl 14 2 (.s 13) 1 false), .i (.mov 15 (.s 1)), .i (.call 17 31 false [(.s 14), (.s 15)]), .i (.mov 1 (.s 16))]) (.seq (.ops [.i (.mov 17 (.s 1)), .i (.mov 4 (.s 17))]) .ret)))))⟩
theorem k73 : cd 73 = some c73 := by kernel_rfl
theorem mk_Qc : MkOk cd 73 TQc := by
  intro h cs v S k hv ho hk
  obtain ⟨vs, rfl, q0⟩ := hv.st
  obtain ⟨v0, r0, S0, T0, rfl, rfl, h0, q1⟩ := q0.step
  obtain ⟨n0, e0, rfl, rfl, lo0, hi0⟩ := h0.int
  obtain ⟨v1, r1, S1, T1, rfl, rfl, h1, q2⟩ := q1.step
  obtain ⟨n1, e1, rfl, rfl, lo1, hi1⟩ := h1.int
  obtain ⟨v2, r2, S2, T2, rfl, rfl, h2, q3⟩ := q2.step
  obtain ⟨c2, e2⟩ := h2.one rfl
  rw [e2] at h2
  obtain ⟨v3, r3, S3, T3, rfl, rfl, h3, q4⟩ := q3.step
  obtain ⟨c3, e3⟩ := h3.one rfl
  rw [e3] at h3
  obtain ⟨v4, r4, S4, T4, rfl, rfl, h4, q5⟩ := q4.step
  obtain ⟨c4, e4⟩ := h4.one rfl
  rw [e4] at h4
  obtain ⟨_, rfl, rfl⟩ := q5
  have hsz : cs.length = 5 := hv.size
  simp only [Ty.size, Ty.sizes, Nat.reduceAdd, Nat.zero_add, List.drop_zero] at e0 e1 e2 e3 e4 hsz
  have hcn : cnT TQc (.r [.i n0, .i n1, v2, v3, v4]) = (0 + (0 + (cnT (.sl (.int .u8)) v2 + (cnT (.sl (.int .u8)) v3 + (cnT (.sl (.sl (.int .u8))) v4 + 0))))) := rfl
  have hmk : mkT TQc (.r [.i n0, .i n1, v2, v3, v4]) k = .r [.i n0, .i n1, mkT (.sl (.int .u8)) v2 (k), mkT (.sl (.int .u8)) v3 (k + cnT (.sl (.int .u8)) v2), mkT (.sl (.sl (.int .u8))) v4 (k + cnT (.sl (.int .u8)) v2 + cnT (.sl (.int .u8)) v3)] := rfl
  rw [hmk]
  rw [hcn] at hk ⊢
  simp only [List.nil_append, List.append_nil] at ho ⊢
  obtain ⟨o2, ho2, x2, xx2⟩ := ho.split
  obtain ⟨o3, ho3, x3, xx3⟩ := ho2.split
  have o4 := ho3
  refine WS_enter k73 rfl ?_
  simp (disch := omega) only [KC_eq, c73, e0, e1, e2, e3, e4, hsz, ifT, w64, RR, RP, Ty.agg, Ty.size, Ty.sizes, eq_self, ne_eq, not_true, not_false_iff, reduceCtorEq, List.length_cons, List.length_nil, decide_true, decide_false, true_and, and_true, ite_true, ite_false, PT.full, enter0, setAll, forget, Fr.set, Fr.get, PT.get, PT.set, kof, ai, ev, ev1, evp, b_add, b_sub, b_mul, b_quo, b_rem, b_eql, b_neq, b_lss, b_leq, b_gtr, b_geq, b_seql, b_sneq, setD, resV, resL, res1, args, List.take_zero, List.drop_zero, List.take_nil, List.take_succ_cons, List.drop_succ_cons, Nat.reduceAdd, Nat.reduceLeDiff, reduceIte, Bool.not_true, Bool.not_false, Bool.false_eq_true, CA_some, Option.some.injEq, Nat.zero_add, Nat.mul_one, Nat.add_zero, setL, List.set_cons_zero, List.set_cons_succ, fillC]
  refine MkOk.go mk_ByteS h2 o2 (k := k) (by omega) (fun g2 w2 z2 => ?_)
  simp (disch := omega) only [KC_eq, c73, e0, e1, e2, e3, e4, hsz, ifT, w64, RR, RP, Ty.agg, Ty.size, Ty.sizes, eq_self, ne_eq, not_true, not_false_iff, reduceCtorEq, List.length_cons, List.length_nil, decide_true, decide_false, true_and, and_true, ite_true, ite_false, PT.full, enter0, setAll, forget, Fr.set, Fr.get, PT.get, PT.set, kof, ai, ev, ev1, evp, b_add, b_sub, b_mul, b_quo, b_rem, b_eql, b_neq, b_lss, b_leq, b_gtr, b_geq, b_seql, b_sneq, setD, resV, resL, res1, args, List.take_zero, List.drop_zero, List.take_nil, List.take_succ_cons, List.drop_succ_cons, Nat.reduceAdd, Nat.reduceLeDiff, reduceIte, Bool.not_true, Bool.not_false, Bool.false_eq_true, CA_some, Option.some.injEq, Nat.zero_add, Nat.mul_one, Nat.add_zero, setL, List.set_cons_zero, List.set_cons_succ, fillC]
  refine MkOk.go mk_ByteS (h3.wrote w2 (fun i hi => xx2 i (by simp [hi]))) (w2.ownd o3) (k := k + cnT (.sl (.int .u8)) v2) (by omega) (fun g3 w3 z3 => ?_)
  simp (disch := omega) only [KC_eq, c73, e0, e1, e2, e3, e4, hsz, ifT, w64, RR, RP, Ty.agg, Ty.size, Ty.sizes, eq_self, ne_eq, not_true, not_false_iff, reduceCtorEq, List.length_cons, List.length_nil, decide_true, decide_false, true_and, and_true, ite_true, ite_false, PT.full, enter0, setAll, forget, Fr.set, Fr.get, PT.get, PT.set, kof, ai, ev, ev1, evp, b_add, b_sub, b_mul, b_quo, b_rem, b_eql, b_neq, b_lss, b_leq, b_gtr, b_geq, b_seql, b_sneq, setD, resV, resL, res1, args, List.take_zero, List.drop_zero, List.take_nil, List.take_succ_cons, List.drop_succ_cons, Nat.reduceAdd, Nat.reduceLeDiff, reduceIte, Bool.not_true, Bool.not_false, Bool.false_eq_true, CA_some, Option.some.injEq, Nat.zero_add, Nat.mul_one, Nat.add_zero, setL, List.set_cons_zero, List.set_cons_succ, fillC]
  refine MkOk.go mk_ByteSS ((h4.wrote w2 (fun i hi => xx2 i (by simp [hi]))).wrote w3 (fun i hi => xx3 i (by simp [hi]))) (w3.ownd (w2.ownd o4)) (k := k + cnT (.sl (.int .u8)) v2 + cnT (.sl (.int .u8)) v3) (by omega) (fun g4 w4 z4 => ?_)
  simp (disch := omega) only [KC_eq, c73, e0, e1, e2, e3, e4, hsz, ifT, w64, RR, RP, Ty.agg, Ty.size, Ty.sizes, eq_self, ne_eq, not_true, not_false_iff, reduceCtorEq, List.length_cons, List.length_nil, decide_true, decide_false, true_and, and_true, ite_true, ite_false, PT.full, enter0, setAll, forget, Fr.set, Fr.get, PT.get, PT.set, kof, ai, ev, ev1, evp, b_add, b_sub, b_mul, b_quo, b_rem, b_eql, b_neq, b_lss, b_leq, b_gtr, b_geq, b_seql, b_sneq, setD, resV, resL, res1, args, List.take_zero, List.drop_zero, List.take_nil, List.take_succ_cons, List.drop_succ_cons, Nat.reduceAdd, Nat.reduceLeDiff, reduceIte, Bool.not_true, Bool.not_false, Bool.false_eq_true, CA_some, Option.some.injEq, Nat.zero_add, Nat.mul_one, Nat.add_zero, setL, List.set_cons_zero, List.set_cons_succ, fillC]
  have fin : Rs g4 [(.int .i64), (.int .i64), (.sl (.int .u8)), (.sl (.int .u8)), (.sl (.sl (.int .u8)))] (cs.drop 0) [.i n0, .i n1, mkT (.sl (.int .u8)) v2 (k), mkT (.sl (.int .u8)) v3 (k + cnT (.sl (.int .u8)) v2), mkT (.sl (.sl (.int .u8))) v4 (k + cnT (.sl (.int .u8)) v2 + cnT (.sl (.int .u8)) v3)] _ := (Rs.unstep (o := 0) (Rp.int_at e0 lo0 hi0) (Rs.unstep (o := 1) (Rp.int_at e1 lo1 hi1) (Rs.unstep (o := 2) (Rp.cs_at e2 ((z2.wrote w3 (fun i hi hn => x2 i hi (by simp [hn]))).wrote w4 (fun i hi hn => x2 i hi (by simp [hn])))) (Rs.unstep (o := 3) (Rp.cs_at e3 (z3.wrote w4 (fun i hi hn => x3 i hi (by simp [hn])))) (Rs.unstep (o := 4) (Rp.cs_at e4 z4) (Rs.fin (Nat.le_of_eq hsz)))))))
  simp only [List.nil_append, List.append_nil, List.drop_zero] at fin
  have wr := ((((Wrote.refl ho.2).more w2 (fun i hi => by simp [hi])).more w3 (fun i hi => by simp [hi])).more w4 (fun i hi => by simp [hi]))
  first
    | exact ⟨wr, _, rfl, fin⟩
    | (refine ⟨?_, wr, _, rfl, fin⟩
       congr 3
       omega)
/-- laws.markHead -/
def c30 : AF := ⟨2, 5, [.tmp 4], (.seq (.ops [.i (.lbox 2 (.s 0)), .i (.mov 4 (.c (.val false [.int .i64 0])))]) (.seq (.ops [.i (.fad 5 (.s 2) 3), .i (.ldl 6 2 (.s 5) 1 false), .i (.mov 7 (.s 1)), .i (.call 9 56 false [(.s 6), (.s 7)]), .i (.mov 1 (.s 8))]) (.seq (.ops [.i (.fad 9 (.s 2) 4), .i (.ldl 10 2 (.s 9) 1 false), .i (.mov 11 (.s 1)), .i (.call 13 56 false [(.s 10), (.s 11)]), .i (.mov 1 (.s 12))]) (.seq (.ops [.i (.fad 13 (.s 2) 5), .i (.ldl 14 2 (.s 13) 5 true), .i (.mov 15 (.s 1)), .i (.call 17 73 false [(.s 14), (.s 15)]), .i (.mov 1 (.s 16))]) (.seq (.ops [.i (.mov 17 (.s 1)), .i (.mov 4 (.s 17))]) .ret)))))⟩
theorem k30 : cd 30 = some c30 := by kernel_rfl
theorem mk_Head : MkOk cd 30 THead := by
  intro h cs v S k hv ho hk
  obtain ⟨vs, rfl, q0⟩ := hv.st
  obtain ⟨v0, r0, S0, T0, rfl, rfl, h0, q1⟩ := q0.step
  obtain ⟨n0, e0, rfl, rfl, lo0, hi0⟩ := h0.int
  obtain ⟨v1, r1, S1, T1, rfl, rfl, h1, q2⟩ := q1.step
  obtain ⟨n1, e1, rfl, rfl, lo1, hi1⟩ := h1.int
  obtain ⟨v2, r2, S2, T2, rfl, rfl, h2, q3⟩ := q2.step
  obtain ⟨n2, e2, rfl, rfl, lo2, hi2⟩ := h2.int
  obtain ⟨v3, r3, S3, T3, rfl, rfl, h3, q4⟩ := q3.step
  obtain ⟨c3, e3⟩ := h3.one rfl
  rw [e3] at h3
  obtain ⟨v4, r4, S4, T4, rfl, rfl, h4, q5⟩ := q4.step
  obtain ⟨c4, e4⟩ := h4.one rfl
  rw [e4] at h4
  obtain ⟨v5, r5, S5, T5, rfl, rfl, h5, q6⟩ := q5.step
  obtain ⟨_, rfl, rfl⟩ := q6
  have hsz : cs.length = 10 := hv.size
  simp only [Ty.size, Ty.sizes, Nat.reduceAdd, Nat.zero_add, List.drop_zero] at e0 e1 e2 e3 e4 hsz h5
  have hcn : cnT THead (.r [.i n0, .i n1, .i n2, v3, v4, v5]) = (0 + (0 + (0 + (cnT (.sl (.int .u8)) v3 + (cnT (.sl (.int .u8)) v4 + (cnT TQc v5 + 0)))))) := rfl
  have hmk : mkT THead (.r [.i n0, .i n1, .i n2, v3, v4, v5]) k = .r [.i n0, .i n1, .i n2, mkT (.sl (.int .u8)) v3 (k), mkT (.sl (.int .u8)) v4 (k + cnT (.sl (.int .u8)) v3), mkT TQc v5 (k + cnT (.sl (.int .u8)) v3 + cnT (.sl (.int .u8)) v4)] := rfl
  rw [hmk]
  rw [hcn] at hk ⊢
  simp only [List.nil_append, List.append_nil] at ho ⊢
  obtain ⟨o3, ho3, x3, xx3⟩ := ho.split
  obtain ⟨o4, ho4, x4, xx4⟩ := ho3.split
  have o5 := ho4
  refine WS_enter k30 rfl ?_
  simp (disch := omega) only [KC_eq, c30, e0, e1, e2, e3, e4, hsz, ifT, w64, RR, RP, Ty.agg, Ty.size, Ty.sizes, eq_self, ne_eq, not_true, not_false_iff, reduceCtorEq, List.length_cons, List.length_nil, decide_true, decide_false, true_and, and_true, ite_true, ite_false, PT.full, enter0, setAll, forget, Fr.set, Fr.get, PT.get, PT.set, kof, ai, ev, ev1, evp, b_add, b_sub, b_mul, b_quo, b_rem, b_eql, b_neq, b_lss, b_leq, b_gtr, b_geq, b_seql, b_sneq, setD, resV, resL, res1, args, List.take_zero, List.drop_zero, List.take_nil, List.take_succ_cons, List.drop_succ_cons, Nat.reduceAdd, Nat.reduceLeDiff, reduceIte, Bool.not_true, Bool.not_false, Bool.false_eq_true, CA_some, Option.some.injEq, Nat.zero_add, Nat.mul_one, Nat.add_zero, setL, List.set_cons_zero, List.set_cons_succ, fillC]
  refine MkOk.go mk_ByteS h3 o3 (k := k) (by omega) (fun g3 w3 z3 => ?_)
  simp (disch := omega) only [KC_eq, c30, e0, e1, e2, e3, e4, hsz, ifT, w64, RR, RP, Ty.agg, Ty.size, Ty.sizes, eq_self, ne_eq, not_true, not_false_iff, reduceCtorEq, List.length_cons, List.length_nil, decide_true, decide_false, true_and, and_true, ite_true, ite_false, PT.full, enter0, setAll, forget, Fr.set, Fr.get, PT.get, PT.set, kof, ai, ev, ev1, evp, b_add, b_sub, b_mul, b_quo, b_rem, b_eql, b_neq, b_lss, b_leq, b_gtr, b_geq, b_seql, b_sneq, setD, resV, resL, res1, args, List.take_zero, List.drop_zero, List.take_nil, List.take_succ_cons, List.drop_succ_cons, Nat.reduceAdd, Nat.reduceLeDiff, reduceIte, Bool.not_true, Bool.not_false, Bool.false_eq_true, CA_some, Option.some.injEq, Nat.zero_add, Nat.mul_one, Nat.add_zero, setL, List.set_cons_zero, List.set_cons_succ, fillC]
  refine MkOk.go mk_ByteS (h4.wrote w3 (fun i hi => xx3 i (by simp [hi]))) (w3.ownd o4) (k := k + cnT (.sl (.int .u8)) v3) (by omega) (fun g4 w4 z4 => ?_)
  simp (disch := omega) only [KC_eq, c30, e0, e1, e2, e3, e4, hsz, ifT, w64, RR, RP, Ty.agg, Ty.size, Ty.sizes, eq_self, ne_eq, not_true, not_false_iff, reduceCtorEq, List.length_cons, List.length_nil, decide_true, decide_false, true_and, and_true, ite_true, ite_false, PT.full, enter0, setAll, forget, Fr.set, Fr.get, PT.get, PT.set, kof, ai, ev, ev1, evp, b_add, b_sub, b_mul, b_quo, b_rem, b_eql, b_neq, b_lss, b_leq, b_gtr, b_geq, b_seql, b_sneq, setD, resV, resL, res1, args, List.take_zero, List.drop_zero, List.take_nil, List.take_succ_cons, List.drop_succ_cons, Nat.reduceAdd, Nat.reduceLeDiff, reduceIte, Bool.not_true, Bool.not_false, Bool.false_eq_true, CA_some, Option.some.injEq, Nat.zero_add, Nat.mul_one, Nat.add_zero, setL, List.set_cons_zero, List.set_cons_succ, fillC]
  refine MkOk.go mk_Qc ((h5.wrote w3 (fun i hi => xx3 i (by simp [hi]))).wrote w4 (fun i hi => xx4 i (by simp [hi]))) (w4.ownd (w3.ownd o5)) (k := k + cnT (.sl (.int .u8)) v3 + cnT (.sl (.int .u8)) v4) (by omega) (fun g5 w5 z5 => ?_)
  simp (disch := omega) only [KC_eq, c30, e0, e1, e2, e3, e4, hsz, ifT, w64, RR, RP, Ty.agg, Ty.size, Ty.sizes, eq_self, ne_eq, not_true, not_false_iff, reduceCtorEq, List.length_cons, List.length_nil, decide_true, decide_false, true_and, and_true, ite_true, ite_false, PT.full, enter0, setAll, forget, Fr.set, Fr.get, PT.get, PT.set, kof, ai, ev, ev1, evp, b_add, b_sub, b_mul, b_quo, b_rem, b_eql, b_neq, b_lss, b_leq, b_gtr, b_geq, b_seql, b_sneq, setD, resV, resL, res1, args, List.take_zero, List.drop_zero, List.take_nil, List.take_succ_cons, List.drop_succ_cons, Nat.reduceAdd, Nat.reduceLeDiff, reduceIte, Bool.not_true, Bool.not_false, Bool.false_eq_true, CA_some, Option.some.injEq, Nat.zero_add, Nat.mul_one, Nat.add_zero, setL, List.set_cons_zero, List.set_cons_succ, fillC]
  have fin : Rs g5 [(.int .i64), (.int .i64), (.int .i64), (.sl (.int .u8)), (.sl (.int .u8)), TQc] (cs.drop 0) [.i n0, .i n1, .i n2, mkT (.sl (.int .u8)) v3 (k), mkT (.sl (.int .u8)) v4 (k + cnT (.sl (.int .u8)) v3), mkT TQc v5 (k + cnT (.sl (.int .u8)) v3 + cnT (.sl (.int .u8)) v4)] _ := (Rs.unstep (o := 0) (Rp.int_at e0 lo0 hi0) (Rs.unstep (o := 1) (Rp.int_at e1 lo1 hi1) (Rs.unstep (o := 2) (Rp.int_at e2 lo2 hi2) (Rs.unstep (o := 3) (Rp.cs_at e3 ((z3.wrote w4 (fun i hi hn => x3 i hi (by simp [hn]))).wrote w5 (fun i hi hn => x3 i hi (by simp [hn])))) (Rs.unstep (o := 4) (Rp.cs_at e4 (z4.wrote w5 (fun i hi hn => x4 i hi (by simp [hn])))) (Rs.unstep (o := 5) z5 (Rs.fin (Nat.le_of_eq hsz))))))))
  simp only [List.nil_append, List.append_nil, List.drop_zero] at fin
  have wr := ((((Wrote.refl ho.2).more w3 (fun i hi => by simp [hi])).more w4 (fun i hi => by simp [hi])).more w5 (fun i hi => by simp [hi]))
  first
    | exact ⟨wr, _, rfl, fin⟩
    | (refine ⟨?_, wr, _, rfl, fin⟩
       congr 3
       omega)
/-- laws.heldByteS -/
def c119 : AF := ⟨2, 5, [.tmp 4], (.seq (.ops [.i (.mov 4 (.c (.val false [.int .i64 0])))]) (.seq (.seq (.ops [.i (.mov 5 (.c (.val false [.int .i64 0])))]) (.block 0 (.loop [20, 19, 18, 17, 16, 15, 14, 13, 12, 11, 10, 9, 8, 7, 6] (.seq (.seq (.ops [.i (.mov 6 (.s 5)), .i (.mov 7 (.s 0)), .i (.len 8 false (.s 7)), .i (.bin 9 .lss (.s 6) (.s 8))]) (.cond (.s 9) .skip (.exit 0))) (.seq (.block 1 (.seq (.seq (.ops [.i (.mov 12 (.s 0)), .i (.mov 13 (.s 5)), .i (.iad 14 (.s 12) (.s 13) 1), .i (.ldh 15 (.s 14) 1 false), .i (.mov 16 (.s 1)), .i (.cvi 17 .u8 (.s 16)), .i (.bin 18 .neq (.s 15) (.s 17))]) (.cond (.s 18) (.seq (.ops [.i (.mov 4 (.c (.val false [.int .i64 (-1)])))]) .ret) .skip)) (.ops [.i (.mov 19 (.s 1)), .i (.bin 20 .add (.s 19) (.c (.val false [.int .i64 1]))), .i (.mov 1 (.s 20))]))) (.ops [.i (.mov 10 (.s 5)), .i (.bin 11 .add (.s 10) (.c (.val false [.int .i64 1]))), .i (.mov 5 (.s 11))])))))) (.seq (.ops [.i (.mov 21 (.s 1)), .i (.mov 4 (.s 21))]) .ret)))⟩
theorem k119 : cd 119 = some c119 := by kernel_rfl
theorem hd_ByteS : HdOk cd 119 (.sl (.int .u8)) := hd_leaf k119
/-- laws.heldByteSS -/
def c92 : AF := ⟨2, 5, [.tmp 4], (.seq (.ops [.i (.mov 4 (.c (.val false [.int .i64 0])))]) (.seq (.seq (.ops [.i (.mov 5 (.c (.val false [.int .i64 0])))]) (.block 0 (.loop [19, 18, 17, 16, 15, 14, 13, 12, 11, 10, 9, 8, 7, 6] (.seq (.seq (.ops [.i (.mov 6 (.s 5)), .i (.mov 7 (.s 0)), .i (.len 8 false (.s 7)), .i (.bin 9 .lss (.s 6) (.s 8))]) (.cond (.s 9) .skip (.exit 0))) (.seq (.block 1 (.seq (.ops [.i (.mov 12 (.s 0)), .i (.mov 13 (.s 5)), .i (.iad 14 (.s 12) (.s 13) 1), .i (.ldh 15 (.s 14) 1 false), .i (.mov 16 (.s 1)), .i (.call 18 119 false [(.s 15), (.s 16)]), .i (.mov 1 (.s 17))]) (.seq (.ops [.i (.mov 18 (.s 1)), .i (.bin 19 .lss (.s 18) (.c (.val false [.int .i64 0])))]) (.cond (.s 19) (.seq (.ops [.i (.mov 4 (.c (.val false [.int .i64 (-1)])))]) .ret) .skip)))) (.ops [.i (.mov 10 (.s 5)), .i (.bin 11 .add (.s 10) (.c (.val false [.int .i64 1]))), .i (.mov 5 (.s 11))])))))) (.seq (.ops [.i (.mov 20 (.s 1)), .i (.mov 4 (.s 20))]) .ret)))⟩
theorem k92 : cd 92 = some c92 := by kernel_rfl
theorem hd_ByteSS : HdOk cd 92 (.sl (.sl (.int .u8))) := hd_sl k92 hd_ByteS
/-- laws.heldQc -/
def c77 : AF := ⟨2, 5, [.tmp 4], (.seq (.ops [.i (.lbox 2 (.s 0)), .i (.mov 4 (.c (.val false [.int .i64 0])))]) (.seq (.ops [.i (.fad 5 (.s 2) 2), .i (.ldl 6 2 (.s 5) 1 false), .i (.mov 7 (.s 1)), .i (.call 9 119 false [(.s 6), (.s 7)]), .i (.mov 1 (.s 8))]) (.seq (.seq (.ops [.i (.mov 9 (.s 1)), .i (.bin 10 .lss (.s 9) (.c (.val false [.int .i64 0])))]) (.cond (.s 10) (.seq (.ops [.i (.mov 4 (.c (.val false [.int .i64 (-1)])))]) .ret) .skip)) (.seq (.ops [.i (.fad 11 (.s 2) 3), .i (.ldl 12 2 (.s 11) 1 false), .i (.mov 13 (.s 1)), .i (.call 15 119 false [(.s 12), (.s 13)]), .i (.mov 1 (.s 14))]) (.seq (.seq (.ops [.i (.mov 15 (.s 1)), .i (.bin 16 .lss (.s 15) (.c (.val false [.int .i64 0])))]) (.cond (.s 16) (.seq (.ops [.i (.mov 4 (.c (.val false [.int .i64 (-1)])))]) .ret) .skip)) (.seq (.ops [.i (.fad 17 (.s 2) 4), .i (.ldl 18 2 (.s 17) 1 false), .i (.mov 19 (.s 1)), .i (.call 21 92 false [(.s 18), (.s 19)]), .i (.mov 1 (.s 20))]) (.seq (.seq (.ops [.i (.mov 21 (.s 1)), .i (.bin 22 .lss (.s 21) (.c (.val false [.int .i64 0])))]) (.cond (.s 22) (.seq (.ops [.i (.mov 4 (.c (.val false [.int .i64 (-1)])))]) .ret) .skip)) (.seq (.ops [.i (.mov 23 (.s 1)), .i (.mov 4 (.s 23))]) .ret))))))))⟩
theorem k77 : cd 77 = some c77 := by kernel_rfl
theorem hd_Qc : HdOk cd 77 TQc := by
  intro h cs v S k hT hv hk
  obtain ⟨h0_, cs0, S0_, hT⟩ := hT
  obtain ⟨wvs, rfl, wq0⟩ := hT.st
  obtain ⟨wv0, wr0, wS0, wT0, rfl, rfl, wh0, wq1⟩ := wq0.step
  obtain ⟨wn0, we0, rfl, rfl, wlo0, whi0⟩ := wh0.int
  obtain ⟨wv1, wr1, wS1, wT1, rfl, rfl, wh1, wq2⟩ := wq1.step
  obtain ⟨wn1, we1, rfl, rfl, wlo1, whi1⟩ := wh1.int
  obtain ⟨wv2, wr2, wS2, wT2, rfl, rfl, wh2, wq3⟩ := wq2.step
  obtain ⟨wc2, we2⟩ := wh2.one rfl
  rw [we2] at wh2
  obtain ⟨wv3, wr3, wS3, wT3, rfl, rfl, wh3, wq4⟩ := wq3.step
  obtain ⟨wc3, we3⟩ := wh3.one rfl
  rw [we3] at wh3
  obtain ⟨wv4, wr4, wS4, wT4, rfl, rfl, wh4, wq5⟩ := wq4.step
  obtain ⟨wc4, we4⟩ := wh4.one rfl
  rw [we4] at wh4
  obtain ⟨_, rfl, rfl⟩ := wq5
  have whsz : cs0.length = 5 := hT.size
  have hcn : cnT TQc (.r [.i wn0, .i wn1, wv2, wv3, wv4]) = (0 + (0 + (cnT (.sl (.int .u8)) wv2 + (cnT (.sl (.int .u8)) wv3 + (cnT (.sl (.sl (.int .u8))) wv4 + 0))))) := rfl
  have hmk : mkT TQc (.r [.i wn0, .i wn1, wv2, wv3, wv4]) k = .r [.i wn0, .i wn1, mkT (.sl (.int .u8)) wv2 (k), mkT (.sl (.int .u8)) wv3 (k + cnT (.sl (.int .u8)) wv2), mkT (.sl (.sl (.int .u8))) wv4 (k + cnT (.sl (.int .u8)) wv2 + cnT (.sl (.int .u8)) wv3)] := rfl
  rw [hmk] at hv
  rw [hcn] at hk ⊢
  obtain ⟨vs, hvs, q0⟩ := hv.st
  simp only [Tv.r.injEq] at hvs
  subst hvs
  obtain ⟨v0, r0, S0, T0, hv0, hS0, h0, q1⟩ := q0.step
  obtain ⟨rfl, rfl⟩ := List.cons.inj hv0
  obtain ⟨n0, e0, _, _, _, _⟩ := h0.int
  obtain ⟨v1, r1, S1, T1, hv1, hS1, h1, q2⟩ := q1.step
  obtain ⟨rfl, rfl⟩ := List.cons.inj hv1
  obtain ⟨n1, e1, _, _, _, _⟩ := h1.int
  obtain ⟨v2, r2, S2, T2, hv2, hS2, h2, q3⟩ := q2.step
  obtain ⟨rfl, rfl⟩ := List.cons.inj hv2
  obtain ⟨c2, e2⟩ := h2.one rfl
  rw [e2] at h2
  obtain ⟨v3, r3, S3, T3, hv3, hS3, h3, q4⟩ := q3.step
  obtain ⟨rfl, rfl⟩ := List.cons.inj hv3
  obtain ⟨c3, e3⟩ := h3.one rfl
  rw [e3] at h3
  obtain ⟨v4, r4, S4, T4, hv4, hS4, h4, q5⟩ := q4.step
  obtain ⟨rfl, rfl⟩ := List.cons.inj hv4
  obtain ⟨c4, e4⟩ := h4.one rfl
  rw [e4] at h4
  have hsz : cs.length = 5 := hv.size
  simp only [Ty.size, Ty.sizes, Nat.reduceAdd, Nat.zero_add, List.drop_zero] at e0 e1 e2 e3 e4 hsz
  refine WS_enter k77 rfl ?_
  simp (disch := omega) only [KC_eq, c77, e0, e1, e2, e3, e4, hsz, ifT, w64, RR, RP, Ty.agg, Ty.size, Ty.sizes, eq_self, ne_eq, not_true, not_false_iff, reduceCtorEq, List.length_cons, List.length_nil, decide_true, decide_false, true_and, and_true, ite_true, ite_false, PT.full, enter0, setAll, forget, Fr.set, Fr.get, PT.get, PT.set, kof, ai, ev, ev1, evp, b_add, b_sub, b_mul, b_quo, b_rem, b_eql, b_neq, b_lss, b_leq, b_gtr, b_geq, b_seql, b_sneq, setD, resV, resL, res1, args, List.take_zero, List.drop_zero, List.take_nil, List.take_succ_cons, List.drop_succ_cons, Nat.reduceAdd, Nat.reduceLeDiff, reduceIte, Bool.not_true, Bool.not_false, Bool.false_eq_true, CA_some, Option.some.injEq, Nat.zero_add, Nat.mul_one, Nat.add_zero, setL, List.set_cons_zero, List.set_cons_succ, fillC]
  refine HdOk.go hd_ByteS ⟨_, _, _, wh2⟩ h2 (k := k) (by omega) ?_
  simp (disch := omega) only [KC_eq, c77, e0, e1, e2, e3, e4, hsz, ifT, w64, RR, RP, Ty.agg, Ty.size, Ty.sizes, eq_self, ne_eq, not_true, not_false_iff, reduceCtorEq, List.length_cons, List.length_nil, decide_true, decide_false, true_and, and_true, ite_true, ite_false, PT.full, enter0, setAll, forget, Fr.set, Fr.get, PT.get, PT.set, kof, ai, ev, ev1, evp, b_add, b_sub, b_mul, b_quo, b_rem, b_eql, b_neq, b_lss, b_leq, b_gtr, b_geq, b_seql, b_sneq, setD, resV, resL, res1, args, List.take_zero, List.drop_zero, List.take_nil, List.take_succ_cons, List.drop_succ_cons, Nat.reduceAdd, Nat.reduceLeDiff, reduceIte, Bool.not_true, Bool.not_false, Bool.false_eq_true, CA_some, Option.some.injEq, Nat.zero_add, Nat.mul_one, Nat.add_zero, setL, List.set_cons_zero, List.set_cons_succ, fillC]
  refine BR_dec (fun hn => absurd hn (by omega)) (fun hn => ?_)
  simp (disch := omega) only [KC_eq, c77, e0, e1, e2, e3, e4, hsz, ifT, w64, RR, RP, Ty.agg, Ty.size, Ty.sizes, eq_self, ne_eq, not_true, not_false_iff, reduceCtorEq, List.length_cons, List.length_nil, decide_true, decide_false, true_and, and_true, ite_true, ite_false, PT.full, enter0, setAll, forget, Fr.set, Fr.get, PT.get, PT.set, kof, ai, ev, ev1, evp, b_add, b_sub, b_mul, b_quo, b_rem, b_eql, b_neq, b_lss, b_leq, b_gtr, b_geq, b_seql, b_sneq, setD, resV, resL, res1, args, List.take_zero, List.drop_zero, List.take_nil, List.take_succ_cons, List.drop_succ_cons, Nat.reduceAdd, Nat.reduceLeDiff, reduceIte, Bool.not_true, Bool.not_false, Bool.false_eq_true, CA_some, Option.some.injEq, Nat.zero_add, Nat.mul_one, Nat.add_zero, setL, List.set_cons_zero, List.set_cons_succ, fillC]
  refine HdOk.go hd_ByteS ⟨_, _, _, wh3⟩ h3 (k := k + cnT (.sl (.int .u8)) wv2) (by omega) ?_
  simp (disch := omega) only [KC_eq, c77, e0, e1, e2, e3, e4, hsz, ifT, w64, RR, RP, Ty.agg, Ty.size, Ty.sizes, eq_self, ne_eq, not_true, not_false_iff, reduceCtorEq, List.length_cons, List.length_nil, decide_true, decide_false, true_and, and_true, ite_true, ite_false, PT.full, enter0, setAll, forget, Fr.set, Fr.get, PT.get, PT.set, kof, ai, ev, ev1, evp, b_add, b_sub, b_mul, b_quo, b_rem, b_eql, b_neq, b_lss, b_leq, b_gtr, b_geq, b_seql, b_sneq, setD, resV, resL, res1, args, List.take_zero, List.drop_zero, List.take_nil, List.take_succ_cons, List.drop_succ_cons, Nat.reduceAdd, Nat.reduceLeDiff, reduceIte, Bool.not_true, Bool.not_false, Bool.false_eq_true, CA_some, Option.some.injEq, Nat.zero_add, Nat.mul_one, Nat.add_zero, setL, List.set_cons_zero, List.set_cons_succ, fillC]
  refine BR_dec (fun hn => absurd hn (by omega)) (fun hn => ?_)
  simp (disch := omega) only [KC_eq, c77, e0, e1, e2, e3, e4, hsz, ifT, w64, RR, RP, Ty.agg, Ty.size, Ty.sizes, eq_self, ne_eq, not_true, not_false_iff, reduceCtorEq, List.length_cons, List.length_nil, decide_true, decide_false, true_and, and_true, ite_true, ite_false, PT.full, enter0, setAll, forget, Fr.set, Fr.get, PT.get, PT.set, kof, ai, ev, ev1, evp, b_add, b_sub, b_mul, b_quo, b_rem, b_eql, b_neq, b_lss, b_leq, b_gtr, b_geq, b_seql, b_sneq, setD, resV, resL, res1, args, List.take_zero, List.drop_zero, List.take_nil, List.take_succ_cons, List.drop_succ_cons, Nat.reduceAdd, Nat.reduceLeDiff, reduceIte, Bool.not_true, Bool.not_false, Bool.false_eq_true, CA_some, Option.some.injEq, Nat.zero_add, Nat.mul_one, Nat.add_zero, setL, List.set_cons_zero, List.set_cons_succ, fillC]
  refine HdOk.go hd_ByteSS ⟨_, _, _, wh4⟩ h4 (k := k + cnT (.sl (.int .u8)) wv2 + cnT (.sl (.int .u8)) wv3) (by omega) ?_
  simp (disch := omega) only [KC_eq, c77, e0, e1, e2, e3, e4, hsz, ifT, w64, RR, RP, Ty.agg, Ty.size, Ty.sizes, eq_self, ne_eq, not_true, not_false_iff, reduceCtorEq, List.length_cons, List.length_nil, decide_true, decide_false, true_and, and_true, ite_true, ite_false, PT.full, enter0, setAll, forget, Fr.set, Fr.get, PT.get, PT.set, kof, ai, ev, ev1, evp, b_add, b_sub, b_mul, b_quo, b_rem, b_eql, b_neq, b_lss, b_leq, b_gtr, b_geq, b_seql, b_sneq, setD, resV, resL, res1, args, List.take_zero, List.drop_zero, List.take_nil, List.take_succ_cons, List.drop_succ_cons, Nat.reduceAdd, Nat.reduceLeDiff, reduceIte, Bool.not_true, Bool.not_false, Bool.false_eq_true, CA_some, Option.some.injEq, Nat.zero_add, Nat.mul_one, Nat.add_zero, setL, List.set_cons_zero, List.set_cons_succ, fillC]
  refine BR_dec (fun hn => absurd hn (by omega)) (fun hn => ?_)
  simp (disch := omega) only [KC_eq, c77, e0, e1, e2, e3, e4, hsz, ifT, w64, RR, RP, Ty.agg, Ty.size, Ty.sizes, eq_self, ne_eq, not_true, not_false_iff, reduceCtorEq, List.length_cons, List.length_nil, decide_true, decide_false, true_and, and_true, ite_true, ite_false, PT.full, enter0, setAll, forget, Fr.set, Fr.get, PT.get, PT.set, kof, ai, ev, ev1, evp, b_add, b_sub, b_mul, b_quo, b_rem, b_eql, b_neq, b_lss, b_leq, b_gtr, b_geq, b_seql, b_sneq, setD, resV, resL, res1, args, List.take_zero, List.drop_zero, List.take_nil, List.take_succ_cons, List.drop_succ_cons, Nat.reduceAdd, Nat.reduceLeDiff, reduceIte, Bool.not_true, Bool.not_false, Bool.false_eq_true, CA_some, Option.some.injEq, Nat.zero_add, Nat.mul_one, Nat.add_zero, setL, List.set_cons_zero, List.set_cons_succ, fillC]
  all_goals congr 3
  all_goals omega
/-- laws.heldHead -/
def c57 : AF := ⟨2, 5, [.tmp 4], (.seq (.ops [.i (.lbox 2 (.s 0)), .i (.mov 4 (.c (.val false [.int .i64 0])))]) (.seq (.ops [.i (.fad 5 (.s 2) 3), .i (.ldl 6 2 (.s 5) 1 false), .i (.mov 7 (.s 1)), .i (.call 9 119 false [(.s 6), (.s 7)]), .i (.mov 1 (.s 8))]) (.seq (.seq (.ops [.i (.mov 9 (.s 1)), .i (.bin 10 .lss (.s 9) (.c (.val false [.int .i64 0])))]) (.cond (.s 10) (.seq (.ops [.i (.mov 4 (.c (.val false [.int .i64 (-1)])))]) .ret) .skip)) (.seq (.ops [.i (.fad 11 (.s 2) 4), .i (.ldl 12 2 (.s 11) 1 false), .i (.mov 13 (.s 1)), .i (.call 15 119 false [(.s 12), (.s 13)]), .i (.mov 1 (.s 14))]) (.seq (.seq (.ops [.i (.mov 15 (.s 1)), .i (.bin 16 .lss (.s 15) (.c (.val false [.int .i64 0])))]) (.cond (.s 16) (.seq (.ops [.i (.mov 4 (.c (.val false [.int .i64 (-1)])))]) .ret) .skip)) (.seq (.ops [.i (.fad 17 (.s 2) 5), .i (.ldl 18 2 (.s 17) 5 true), .i (.mov 19 (.s 1)), .i (.call 21 77 false [(.s 18), (.s 19)]), .i (.mov 1 (.s 20))]) (.seq (.seq (.ops [.i (.mov 21 (.s 1)), .i (.bin 22 .lss (.s 21) (.c (.val false [.int .i64 0])))]) (.cond (.s 22) (.seq (.ops [.i (.mov 4 (.c (.val false [.int .i64 (-1)])))]) .ret) .skip)) (.seq (.ops [.i (.mov 23 (.s 1)), .i (.mov 4 (.s 23))]) .ret))))))))⟩
theorem k57 : cd 57 = some c57 := by kernel_rfl
theorem hd_Head : HdOk cd 57 THead := by
  intro h cs v S k hT hv hk
  obtain ⟨h0_, cs0, S0_, hT⟩ := hT
  obtain ⟨wvs, rfl, wq0⟩ := hT.st
  obtain ⟨wv0, wr0, wS0, wT0, rfl, rfl, wh0, wq1⟩ := wq0.step
  obtain ⟨wn0, we0, rfl, rfl, wlo0, whi0⟩ := wh0.int
  obtain ⟨wv1, wr1, wS1, wT1, rfl, rfl, wh1, wq2⟩ := wq1.step
  obtain ⟨wn1, we1, rfl, rfl, wlo1, whi1⟩ := wh1.int
  obtain ⟨wv2, wr2, wS2, wT2, rfl, rfl, wh2, wq3⟩ := wq2.step
  obtain ⟨wn2, we2, rfl, rfl, wlo2, whi2⟩ := wh2.int
  obtain ⟨wv3, wr3, wS3, wT3, rfl, rfl, wh3, wq4⟩ := wq3.step
  obtain ⟨wc3, we3⟩ := wh3.one rfl
  rw [we3] at wh3
  obtain ⟨wv4, wr4, wS4, wT4, rfl, rfl, wh4, wq5⟩ := wq4.step
  obtain ⟨wc4, we4⟩ := wh4.one rfl
  rw [we4] at wh4
  obtain ⟨wv5, wr5, wS5, wT5, rfl, rfl, wh5, wq6⟩ := wq5.step
  obtain ⟨_, rfl, rfl⟩ := wq6
  have whsz : cs0.length = 10 := hT.size
  have hcn : cnT THead (.r [.i wn0, .i wn1, .i wn2, wv3, wv4, wv5]) = (0 + (0 + (0 + (cnT (.sl (.int .u8)) wv3 + (cnT (.sl (.int .u8)) wv4 + (cnT TQc wv5 + 0)))))) := rfl
  have hmk : mkT THead (.r [.i wn0, .i wn1, .i wn2, wv3, wv4, wv5]) k = .r [.i wn0, .i wn1, .i wn2, mkT (.sl (.int .u8)) wv3 (k), mkT (.sl (.int .u8)) wv4 (k + cnT (.sl (.int .u8)) wv3), mkT TQc wv5 (k + cnT (.sl (.int .u8)) wv3 + cnT (.sl (.int .u8)) wv4)] := rfl
  rw [hmk] at hv
  rw [hcn] at hk ⊢
  obtain ⟨vs, hvs, q0⟩ := hv.st
  simp only [Tv.r.injEq] at hvs
  subst hvs
  obtain ⟨v0, r0, S0, T0, hv0, hS0, h0, q1⟩ := q0.step
  obtain ⟨rfl, rfl⟩ := List.cons.inj hv0
  obtain ⟨n0, e0, _, _, _, _⟩ := h0.int
  obtain ⟨v1, r1, S1, T1, hv1, hS1, h1, q2⟩ := q1.step
  obtain ⟨rfl, rfl⟩ := List.cons.inj hv1
  obtain ⟨n1, e1, _, _, _, _⟩ := h1.int
  obtain ⟨v2, r2, S2, T2, hv2, hS2, h2, q3⟩ := q2.step
  obtain ⟨rfl, rfl⟩ := List.cons.inj hv2
  obtain ⟨n2, e2, _, _, _, _⟩ := h2.int
  obtain ⟨v3, r3, S3, T3, hv3, hS3, h3, q4⟩ := q3.step
  obtain ⟨rfl, rfl⟩ := List.cons.inj hv3
  obtain ⟨c3, e3⟩ := h3.one rfl
  rw [e3] at h3
  obtain ⟨v4, r4, S4, T4, hv4, hS4, h4, q5⟩ := q4.step
  obtain ⟨rfl, rfl⟩ := List.cons.inj hv4
  obtain ⟨c4, e4⟩ := h4.one rfl
  rw [e4] at h4
  obtain ⟨v5, r5, S5, T5, hv5, hS5, h5, q6⟩ := q5.step
  obtain ⟨rfl, rfl⟩ := List.cons.inj hv5
  have hsz : cs.length = 10 := hv.size
  simp only [Ty.size, Ty.sizes, Nat.reduceAdd, Nat.zero_add, List.drop_zero] at e0 e1 e2 e3 e4 hsz h5
  refine WS_enter k57 rfl ?_
  simp (disch := omega) only [KC_eq, c57, e0, e1, e2, e3, e4, hsz, ifT, w64, RR, RP, Ty.agg, Ty.size, Ty.sizes, eq_self, ne_eq, not_true, not_false_iff, reduceCtorEq, List.length_cons, List.length_nil, decide_true, decide_false, true_and, and_true, ite_true, ite_false, PT.full, enter0, setAll, forget, Fr.set, Fr.get, PT.get, PT.set, kof, ai, ev, ev1, evp, b_add, b_sub, b_mul, b_quo, b_rem, b_eql, b_neq, b_lss, b_leq, b_gtr, b_geq, b_seql, b_sneq, setD, resV, resL, res1, args, List.take_zero, List.drop_zero, List.take_nil, List.take_succ_cons, List.drop_succ_cons, Nat.reduceAdd, Nat.reduceLeDiff, reduceIte, Bool.not_true, Bool.not_false, Bool.false_eq_true, CA_some, Option.some.injEq, Nat.zero_add, Nat.mul_one, Nat.add_zero, setL, List.set_cons_zero, List.set_cons_succ, fillC]
  refine HdOk.go hd_ByteS ⟨_, _, _, wh3⟩ h3 (k := k) (by omega) ?_
  simp (disch := omega) only [KC_eq, c57, e0, e1, e2, e3, e4, hsz, ifT, w64, RR, RP, Ty.agg, Ty.size, Ty.sizes, eq_self, ne_eq, not_true, not_false_iff, reduceCtorEq, List.length_cons, List.length_nil, decide_true, decide_false, true_and, and_true, ite_true, ite_false, PT.full, enter0, setAll, forget, Fr.set, Fr.get, PT.get, PT.set, kof, ai, ev, ev1, evp, b_add, b_sub, b_mul, b_quo, b_rem, b_eql, b_neq, b_lss, b_leq, b_gtr, b_geq, b_seql, b_sneq, setD, resV, resL, res1, args, List.take_zero, List.drop_zero, List.take_nil, List.take_succ_cons, List.drop_succ_cons, Nat.reduceAdd, Nat.reduceLeDiff, reduceIte, Bool.not_true, Bool.not_false, Bool.false_eq_true, CA_some, Option.some.injEq, Nat.zero_add, Nat.mul_one, Nat.add_zero, setL, List.set_cons_zero, List.set_cons_succ, fillC]
  refine BR_dec (fun hn => absurd hn (by omega)) (fun hn => ?_)
  simp (disch := omega) only [KC_eq, c57, e0, e1, e2, e3, e4, hsz, ifT, w64, RR, RP, Ty.agg, Ty.size, Ty.sizes, eq_self, ne_eq, not_true, not_false_iff, reduceCtorEq, List.length_cons, List.length_nil, decide_true, decide_false, true_and, and_true, ite_true, ite_false, PT.full, enter0, setAll, forget, Fr.set, Fr.get, PT.get, PT.set, kof, ai, ev, ev1, evp, b_add, b_sub, b_mul, b_quo, b_rem, b_eql, b_neq, b_lss, b_leq, b_gtr, b_geq, b_seql, b_sneq, setD, resV, resL, res1, args, List.take_zero, List.drop_zero, List.take_nil, List.take_succ_cons, List.drop_succ_cons, Nat.reduceAdd, Nat.reduceLeDiff, reduceIte, Bool.not_true, Bool.not_false, Bool.false_eq_true, CA_some, Option.some.injEq, Nat.zero_add, Nat.mul_one, Nat.add_zero, setL, List.set_cons_zero, List.set_cons_succ, fillC]
  refine HdOk.go hd_ByteS ⟨_, _, _, wh4⟩ h4 (k := k + cnT (.sl (.int .u8)) wv3) (by omega) ?_
  simp (disch := omega) only [KC_eq, c57, e0, e1, e2, e3, e4, hsz, ifT, w64, RR, RP, Ty.agg, Ty.size, Ty.sizes, eq_self, ne_eq, not_true, not_false_iff, reduceCtorEq, List.length_cons, List.length_nil, decide_true, decide_false, true_and, and_true, ite_true, ite_false, PT.full, enter0, setAll, forget, Fr.set, Fr.get, PT.get, PT.set, kof, ai, ev, ev1, evp, b_add, b_sub, b_mul, b_quo, b_rem, b_eql, b_neq, b_lss, b_leq, b_gtr, b_geq, b_seql, b_sneq, setD, resV, resL, res1, args, List.take_zero, List.drop_zero, List.take_nil, List.take_succ_cons, List.drop_succ_cons, Nat.reduceAdd, Nat.reduceLeDiff, reduceIte, Bool.not_true, Bool.not_false, Bool.false_eq_true, CA_some, Option.some.injEq, Nat.zero_add, Nat.mul_one, Nat.add_zero, setL, List.set_cons_zero, List.set_cons_succ, fillC]
  refine BR_dec (fun hn => absurd hn (by omega)) (fun hn => ?_)
  simp (disch := omega) only [KC_eq, c57, e0, e1, e2, e3, e4, hsz, ifT, w64, RR, RP, Ty.agg, Ty.size, Ty.sizes, eq_self, ne_eq, not_true, not_false_iff, reduceCtorEq, List.length_cons, List.length_nil, decide_true, decide_false, true_and, and_true, ite_true, ite_false, PT.full, enter0, setAll, forget, Fr.set, Fr.get, PT.get, PT.set, kof, ai, ev, ev1, evp, b_add, b_sub, b_mul, b_quo, b_rem, b_eql, b_neq, b_lss, b_leq, b_gtr, b_geq, b_seql, b_sneq, setD, resV, resL, res1, args, List.take_zero, List.drop_zero, List.take_nil, List.take_succ_cons, List.drop_succ_cons, Nat.reduceAdd, Nat.reduceLeDiff, reduceIte, Bool.not_true, Bool.not_false, Bool.false_eq_true, CA_some, Option.some.injEq, Nat.zero_add, Nat.mul_one, Nat.add_zero, setL, List.set_cons_zero, List.set_cons_succ, fillC]
  refine HdOk.go hd_Qc ⟨_, _, _, wh5⟩ h5 (k := k + cnT (.sl (.int .u8)) wv3 + cnT (.sl (.int .u8)) wv4) (by omega) ?_
  simp (disch := omega) only [KC_eq, c57, e0, e1, e2, e3, e4, hsz, ifT, w64, RR, RP, Ty.agg, Ty.size, Ty.sizes, eq_self, ne_eq, not_true, not_false_iff, reduceCtorEq, List.length_cons, List.length_nil, decide_true, decide_false, true_and, and_true, ite_true, ite_false, PT.full, enter0, setAll, forget, Fr.set, Fr.get, PT.get, PT.set, kof, ai, ev, ev1, evp, b_add, b_sub, b_mul, b_quo, b_rem, b_eql, b_neq, b_lss, b_leq, b_gtr, b_geq, b_seql, b_sneq, setD, resV, resL, res1, args, List.take_zero, List.drop_zero, List.take_nil, List.take_succ_cons, List.drop_succ_cons, Nat.reduceAdd, Nat.reduceLeDiff, reduceIte, Bool.not_true, Bool.not_false, Bool.false_eq_true, CA_some, Option.some.injEq, Nat.zero_add, Nat.mul_one, Nat.add_zero, setL, List.set_cons_zero, List.set_cons_succ, fillC]
  refine BR_dec (fun hn => absurd hn (by omega)) (fun hn => ?_)
  simp (disch := omega) only [KC_eq, c57, e0, e1, e2, e3, e4, hsz, ifT, w64, RR, RP, Ty.agg, Ty.size, Ty.sizes, eq_self, ne_eq, not_true, not_false_iff, reduceCtorEq, List.length_cons, List.length_nil, decide_true, decide_false, true_and, and_true, ite_true, ite_false, PT.full, enter0, setAll, forget, Fr.set, Fr.get, PT.get, PT.set, kof, ai, ev, ev1, evp, b_add, b_sub, b_mul, b_quo, b_rem, b_eql, b_neq, b_lss, b_leq, b_gtr, b_geq, b_seql, b_sneq, setD, resV, resL, res1, args, List.take_zero, List.drop_zero, List.take_nil, List.take_succ_cons, List.drop_succ_cons, Nat.reduceAdd, Nat.reduceLeDiff, reduceIte, Bool.not_true, Bool.not_false, Bool.false_eq_true, CA_some, Option.some.injEq, Nat.zero_add, Nat.mul_one, Nat.add_zero, setL, List.set_cons_zero, List.set_cons_succ, fillC]
  all_goals congr 3
  all_goals omega
end Go.Eng.U
set_option maxRecDepth 100000
set_option linter.unusedSimpArgs false
set_option linter.unusedVariables false
namespace Go.Eng.U
open Go.Eng.F (Forest Head findHead zeroHead)
/-- laws.FnExactFindHead -/
def c9 : AF := ⟨2, 7, [.tmp 4], (.seq (.ops [.i (.lbox 2 (.s 0)), .i (.mov 4 (.c (.val false [.bool false])))]) (.seq (.seq (.ops [.i (.mov 17 (.s 1)), .i (.len 18 false (.s 17)), .i (.bin 19 .gtr (.s 18) (.c (.val false [.int .i64 1048576])))]) (.cond (.s 19) (.seq (.ops [.i (.mov 4 (.c (.val false [.bool true])))]) .ret) .skip)) (.seq (.ops [.i (.mov 5 (.c (.val false [.int .i64 1048576])))]) (.seq (.ops [.i (.ldl 20 2 (.s 2) 6 true), .i (.mov 21 (.s 5)), .i (.call 23 44 false [(.s 20), (.s 21)]), .i (.mov 5 (.s 22))]) (.seq (.seq (.ops [.i (.mov 23 (.s 5)), .i (.bin 24 .lss (.s 23) (.c (.val false [.int .i64 0])))]) (.cond (.s 24) (.seq (.ops [.i (.mov 4 (.c (.val false [.bool true])))]) .ret) .skip)) (.seq (.ops [.i (.ldl 26 2 (.s 2) 6 true), .i (.call 28 46 false [(.s 26)]), .i (.mov 28 (.s 1)), .i (.call 30 47 false [(.s 28)]), .i (.call 31 53 false [(.s 27), (.s 29)]), .i (.mov 25 (.s 30)), .i (.ext 31 (.s 25) 0), .i (.ext 32 (.s 25) 1), .i (.lal 6 [.int .i64 0, .int .i64 0, .int .i64 0, .nils, .nils, .int .i64 0, .int .i64 0, .nils, .nils, .nils]), .i (.stl 6 (.s 6) (.s 31) 10), .i (.mov 7 (.s 32))]) (.seq (.ops [.i (.ldl 33 2 (.s 2) 6 true), .i (.call 35 46 false [(.s 33)]), .i (.lal 8 [.int .i64 0, .int .i64 0, .int .i64 0, .int .i64 0, .int .i64 0, .nils]), .i (.stl 8 (.s 8) (.s 34) 6)]) (.seq (.ops [.i (.mov 35 (.s 1)), .i (.call 37 47 false [(.s 35)]), .i (.mov 9 (.s 36))]) (.seq (.ops [.i (.ldl 38 8 (.s 8) 6 true), .i (.mov 39 (.s 9)), .i (.call 41 54 false [(.s 38), (.s 39)]), .i (.mov 37 (.s 40)), .i (.ext 41 (.s 37) 0), .i (.ext 42 (.s 37) 1), .i (.lal 10 [.int .i64 0, .int .i64 0, .int .i64 0, .nils, .nils, .int .i64 0, .int .i64 0, .nils, .nils, .nils]), .i (.stl 10 (.s 10) (.s 41) 10), .i (.mov 11 (.s 42))]) (.seq (.seq (.ops [.i (.ldl 43 10 (.s 10) 10 true), .i (.ldl 44 6 (.s 6) 10 true), .i (.call 46 28 false [(.s 43), (.s 44)]), .i (.not 46 (.s 45)), .i (.mov 47 (.s 46)), .g 47 false 49 (.mov 48 (.s 11)), .g 47 false 50 (.mov 49 (.s 7)), .g 47 false 51 (.beq 50 true (.s 48) (.s 49)), .i (.pick 51 (.s 47) (.c (.val false [.bool true])) (.s 50))]) (.cond (.s 51) (.seq (.ops [.i (.mov 4 (.c (.val false [.bool false])))]) .ret) .skip)) (.seq (.seq (.ops [.i (.ldl 52 8 (.s 8) 6 true), .i (.ldl 53 2 (.s 2) 6 true), .i (.call 55 46 false [(.s 53)]), .i (.call 56 49 false [(.s 52), (.s 54)]), .i (.not 56 (.s 55))]) (.cond (.s 56) (.seq (.ops [.i (.mov 4 (.c (.val false [.bool false])))]) .ret) .skip)) (.seq (.seq (.ops [.i (.mov 57 (.s 9)), .i (.mov 58 (.s 1)), .i (.call 60 47 false [(.s 58)]), .i (.call 61 50 false [(.s 57), (.s 59)]), .i (.not 61 (.s 60))]) (.cond (.s 61) (.seq (.ops [.i (.mov 4 (.c (.val false [.bool false])))]) .ret) .skip)) (.seq (.ops [.i (.mov 12 (.c (.val false [.int .i64 1])))]) (.seq (.ops [.i (.ldl 62 8 (.s 8) 6 true), .i (.mov 63 (.s 12)), .i (.call 65 55 false [(.s 62), (.s 63)]), .i (.mov 12 (.s 64))]) (.seq (.ops [.i (.mov 65 (.s 9)), .i (.mov 66 (.s 12)), .i (.call 68 56 false [(.s 65), (.s 66)]), .i (.mov 12 (.s 67))]) (.seq (.seq (.ops [.i (.mov 68 (.s 12)), .i (.bin 69 .lss (.s 68) (.c (.val false [.int .i64 0]))), .i (.mov 70 (.s 69)), .g 70 false 72 (.ldl 71 10 (.s 10) 10 true), .g 70 false 73 (.ldl 72 6 (.s 6) 10 true), .g 70 false 74 (.call 74 28 false [(.s 71), (.s 72)]), .g 70 false 75 (.not 74 (.s 73)), .i (.pick 75 (.s 70) (.c (.val false [.bool true])) (.s 74)), .i (.mov 76 (.s 75)), .g 76 false 78 (.mov 77 (.s 11)), .g 76 false 79 (.mov 78 (.s 7)), .g 76 false 80 (.beq 79 true (.s 77) (.s 78)), .i (.pick 80 (.s 76) (.c (.val false [.bool true])) (.s 79))]) (.cond (.s 80) (.seq (.ops [.i (.mov 4 (.c (.val false [.bool false])))]) .ret) .skip)) (.seq (.ops [.i (.mov 13 (.c (.val false [.int .i64 1])))]) (.seq (.ops [.i (.ldl 81 10 (.s 10) 10 true), .i (.mov 82 (.s 13)), .i (.call 84 30 false [(.s 81), (.s 82)]), .i (.mov 13 (.s 83))]) (.seq (.ops [.i (.mov 14 (.c (.val false [.int .i64 1])))]) (.seq (.ops [.i (.ldl 84 10 (.s 10) 10 true), .i (.mov 85 (.s 14)), .i (.call 87 57 false [(.s 84), (.s 85)]), .i (.mov 14 (.s 86))]) (.seq (.seq (.ops [.i (.mov 87 (.s 14)), .i (.bin 88 .lss (.s 87) (.c (.val false [.int .i64 0])))]) (.cond (.s 88) (.seq (.ops [.i (.mov 4 (.c (.val false [.bool false])))]) .ret) .skip)) (.seq (.seq (.ops [.i (.mov 89 (.s 14)), .i (.mov 90 (.s 13)), .i (.bin 91 .neq (.s 89) (.s 90))]) (.cond (.s 91) (.seq (.ops [.i (.mov 4 (.c (.val false [.bool false])))]) .ret) .skip)) (.seq (.ops [.i (.ldl 93 2 (.s 2) 6 true), .i (.call 95 46 false [(.s 93)]), .i (.mov 95 (.s 1)), .i (.call 97 47 false [(.s 95)]), .i (.call 98 54 false [(.s 94), (.s 96)]), .i (.mov 92 (.s 97)), .i (.ext 98 (.s 92) 0), .i (.ext 99 (.s 92) 1), .i (.lal 15 [.int .i64 0, .int .i64 0, .int .i64 0, .nils, .nils, .int .i64 0, .int .i64 0, .nils, .nils, .nils]), .i (.stl 15 (.s 15) (.s 98) 10), .i (.mov 16 (.s 99))]) (.seq (.seq (.ops [.i (.ldl 100 15 (.s 15) 10 true), .i (.ldl 101 6 (.s 6) 10 true), .i (.call 103 28 false [(.s 100), (.s 101)]), .i (.not 103 (.s 102)), .i (.mov 104 (.s 103)), .g 104 false 106 (.mov 105 (.s 16)), .g 104 false 107 (.mov 106 (.s 7)), .g 104 false 108 (.beq 107 true (.s 105) (.s 106)), .i (.pick 108 (.s 104) (.c (.val false [.bool true])) (.s 107))]) (.cond (.s 108) (.seq (.ops [.i (.mov 4 (.c (.val false [.bool false])))]) .ret) .skip)) (.seq (.ops [.i (.mov 14 (.c (.val false [.int .i64 1])))]) (.seq (.ops [.i (.ldl 109 10 (.s 10) 10 true), .i (.mov 110 (.s 14)), .i (.call 112 57 false [(.s 109), (.s 110)]), .i (.mov 14 (.s 111))]) (.seq (.seq (.ops [.i (.mov 112 (.s 14)), .i (.bin 113 .lss (.s 112) (.c (.val false [.int .i64 0])))]) (.cond (.s 113) (.seq (.ops [.i (.mov 4 (.c (.val false [.bool false])))]) .ret) .skip)) (.seq (.seq (.ops [.i (.mov 114 (.s 14)), .i (.mov 115 (.s 13)), .i (.bin 116 .neq (.s 114) (.s 115))]) (.cond (.s 116) (.seq (.ops [.i (.mov 4 (.c (.val false [.bool false])))]) .ret) .skip)) (.seq (.ops [.i (.mov 4 (.c (.val false [.bool true])))]) .ret)))))))))))))))))))))))))))))⟩
theorem k9 : cd 9 = some c9 := by kernel_rfl
theorem lenb {h : H} {kk : IntKind} {c : C} {v : Tv} {S : List Nat} (hv : Rp h (.sl (.int kk)) [c] v S) : lenC c = some (wt v) := by
  obtain ⟨c2, xs, id, off, bs, S', e, rfl, hm, hl, hat, hce, hbs, hel, hS⟩ := hv.view
  injection e with e
  subst e
  rw [hl]
  simp [wt, (wts_int hel).1]
theorem law_FindHead : ∀ h vs, Argp h [TForest, (.sl (.int .u8))] vs → WC cd 9 vs h (fun r _ => r = .val false [.bool true]) := by
  intro h vs ha
  obtain ⟨cs0, v0, S0, r0, rfl, hv0, ha0⟩ := ha
  obtain ⟨cs1, v1, S1, r1, rfl, hv1, ha1⟩ := ha0
  have hr0 : r1 = [] := ha1
  subst hr0
  have hsz0 : cs0.length = 6 := hv0.size
  have hall0 : cs0.take 6 = cs0 := List.take_of_length_le (by omega)
  obtain ⟨cc1, rfl⟩ := hv1.one rfl
  obtain ⟨f, rfl⟩ := Forest.ex hv0.ok
  obtain ⟨x, rfl⟩ := bsT_ex hv1.ok
  have hc0 : cnT TForest f.tv ≤ 15 * (1 + wt f.tv) := Nat.le_trans (cnT_le _ _) (cnE_le _ _)
  have hc1 : cnT (.sl (.int .u8)) (bsT x) ≤ 1 * (1 + wt (bsT x)) := Nat.le_trans (cnT_le _ _) (cnE_le _ _)
  have hr0 : cnT THead ((findHead f x).getD zeroHead).tv ≤ 10 * (1 + wt ((findHead f x).getD zeroHead).tv) := Nat.le_trans (cnT_le _ _) (cnE_le _ _)
  have hw0 := F.findHead_wt f x
  refine WS_enter k9 rfl ?_
  simp (disch := omega) only [KC_eq, c9, hsz0, hall0, ifT, w64, valR, beq_self_eq_true, bne_self_eq_false, List.getElem?_cons_zero, List.getElem?_cons_succ, Bool.or_false, Bool.false_or, Bool.or_self, RR, RP, Ty.agg, Ty.size, Ty.sizes, eq_self, ne_eq, not_true, not_false_iff, reduceCtorEq, List.length_cons, List.length_nil, decide_true, decide_false, true_and, and_true, ite_true, ite_false, PT.full, enter0, setAll, forget, Fr.set, Fr.get, PT.get, PT.set, kof, ai, ev, ev1, evp, b_add, b_sub, b_mul, b_quo, b_rem, b_eql, b_neq, b_lss, b_leq, b_gtr, b_geq, b_seql, b_sneq, setD, resV, resL, res1, args, List.take_zero, List.drop_zero, List.take_nil, List.take_succ_cons, List.drop_succ_cons, Nat.reduceAdd, Nat.reduceLeDiff, reduceIte, Bool.not_true, Bool.not_false, Bool.false_eq_true, CA_some, Option.some.injEq, Nat.zero_add, Nat.mul_one, Nat.add_zero, setL, List.set_cons_zero, List.set_cons_succ, fillC]
  have hln1 : lenC cc1 = some (wt (bsT x)) := lenb hv1
  simp (disch := omega) only [KC_eq, c9, hsz0, hall0, hln1, ifT, w64, valR, beq_self_eq_true, bne_self_eq_false, List.getElem?_cons_zero, List.getElem?_cons_succ, Bool.or_false, Bool.false_or, Bool.or_self, RR, RP, Ty.agg, Ty.size, Ty.sizes, eq_self, ne_eq, not_true, not_false_iff, reduceCtorEq, List.length_cons, List.length_nil, decide_true, decide_false, true_and, and_true, ite_true, ite_false, PT.full, enter0, setAll, forget, Fr.set, Fr.get, PT.get, PT.set, kof, ai, ev, ev1, evp, b_add, b_sub, b_mul, b_quo, b_rem, b_eql, b_neq, b_lss, b_leq, b_gtr, b_geq, b_seql, b_sneq, setD, resV, resL, res1, args, List.take_zero, List.drop_zero, List.take_nil, List.take_succ_cons, List.drop_succ_cons, Nat.reduceAdd, Nat.reduceLeDiff, reduceIte, Bool.not_true, Bool.not_false, Bool.false_eq_true, CA_some, Option.some.injEq, Nat.zero_add, Nat.mul_one, Nat.add_zero, setL, List.set_cons_zero, List.set_cons_succ, fillC]
  refine BR_dec (fun hbn1 => ?_) (fun hbn1 => ?_)
  · simp (disch := omega) only [KC_eq, c9, hsz0, hall0, hln1, ifT, w64, valR, beq_self_eq_true, bne_self_eq_false, List.getElem?_cons_zero, List.getElem?_cons_succ, Bool.or_false, Bool.false_or, Bool.or_self, RR, RP, Ty.agg, Ty.size, Ty.sizes, eq_self, ne_eq, not_true, not_false_iff, reduceCtorEq, List.length_cons, List.length_nil, decide_true, decide_false, true_and, and_true, ite_true, ite_false, PT.full, enter0, setAll, forget, Fr.set, Fr.get, PT.get, PT.set, kof, ai, ev, ev1, evp, b_add, b_sub, b_mul, b_quo, b_rem, b_eql, b_neq, b_lss, b_leq, b_gtr, b_geq, b_seql, b_sneq, setD, resV, resL, res1, args, List.take_zero, List.drop_zero, List.take_nil, List.take_succ_cons, List.drop_succ_cons, Nat.reduceAdd, Nat.reduceLeDiff, reduceIte, Bool.not_true, Bool.not_false, Bool.false_eq_true, CA_some, Option.some.injEq, Nat.zero_add, Nat.mul_one, Nat.add_zero, setL, List.set_cons_zero, List.set_cons_succ, fillC]
  simp (disch := omega) only [KC_eq, c9, hsz0, hall0, hln1, ifT, w64, valR, beq_self_eq_true, bne_self_eq_false, List.getElem?_cons_zero, List.getElem?_cons_succ, Bool.or_false, Bool.false_or, Bool.or_self, RR, RP, Ty.agg, Ty.size, Ty.sizes, eq_self, ne_eq, not_true, not_false_iff, reduceCtorEq, List.length_cons, List.length_nil, decide_true, decide_false, true_and, and_true, ite_true, ite_false, PT.full, enter0, setAll, forget, Fr.set, Fr.get, PT.get, PT.set, kof, ai, ev, ev1, evp, b_add, b_sub, b_mul, b_quo, b_rem, b_eql, b_neq, b_lss, b_leq, b_gtr, b_geq, b_seql, b_sneq, setD, resV, resL, res1, args, List.take_zero, List.drop_zero, List.take_nil, List.take_succ_cons, List.drop_succ_cons, Nat.reduceAdd, Nat.reduceLeDiff, reduceIte, Bool.not_true, Bool.not_false, Bool.false_eq_true, CA_some, Option.some.injEq, Nat.zero_add, Nat.mul_one, Nat.add_zero, setL, List.set_cons_zero, List.set_cons_succ, fillC]
  refine SzOk.go sz_Forest hv0 (k := 1048576) (by omega) (fun hf0 => ?_) (fun hf0 => ?_)
  case refine_2 =>
    simp (disch := omega) only [KC_eq, c9, hsz0, hall0, hln1, ifT, w64, valR, beq_self_eq_true, bne_self_eq_false, List.getElem?_cons_zero, List.getElem?_cons_succ, Bool.or_false, Bool.false_or, Bool.or_self, RR, RP, Ty.agg, Ty.size, Ty.sizes, eq_self, ne_eq, not_true, not_false_iff, reduceCtorEq, List.length_cons, List.length_nil, decide_true, decide_false, true_and, and_true, ite_true, ite_false, PT.full, enter0, setAll, forget, Fr.set, Fr.get, PT.get, PT.set, kof, ai, ev, ev1, evp, b_add, b_sub, b_mul, b_quo, b_rem, b_eql, b_neq, b_lss, b_leq, b_gtr, b_geq, b_seql, b_sneq, setD, resV, resL, res1, args, List.take_zero, List.drop_zero, List.take_nil, List.take_succ_cons, List.drop_succ_cons, Nat.reduceAdd, Nat.reduceLeDiff, reduceIte, Bool.not_true, Bool.not_false, Bool.false_eq_true, CA_some, Option.some.injEq, Nat.zero_add, Nat.mul_one, Nat.add_zero, setL, List.set_cons_zero, List.set_cons_succ, fillC]
    refine BR_dec (fun hn => ?_) (fun hn => absurd (show (-1 : Int) < 0 by omega) hn)
    simp (disch := omega) only [KC_eq, c9, hsz0, hall0, hln1, ifT, w64, valR, beq_self_eq_true, bne_self_eq_false, List.getElem?_cons_zero, List.getElem?_cons_succ, Bool.or_false, Bool.false_or, Bool.or_self, RR, RP, Ty.agg, Ty.size, Ty.sizes, eq_self, ne_eq, not_true, not_false_iff, reduceCtorEq, List.length_cons, List.length_nil, decide_true, decide_false, true_and, and_true, ite_true, ite_false, PT.full, enter0, setAll, forget, Fr.set, Fr.get, PT.get, PT.set, kof, ai, ev, ev1, evp, b_add, b_sub, b_mul, b_quo, b_rem, b_eql, b_neq, b_lss, b_leq, b_gtr, b_geq, b_seql, b_sneq, setD, resV, resL, res1, args, List.take_zero, List.drop_zero, List.take_nil, List.take_succ_cons, List.drop_succ_cons, Nat.reduceAdd, Nat.reduceLeDiff, reduceIte, Bool.not_true, Bool.not_false, Bool.false_eq_true, CA_some, Option.some.injEq, Nat.zero_add, Nat.mul_one, Nat.add_zero, setL, List.set_cons_zero, List.set_cons_succ, fillC]
  simp (disch := omega) only [KC_eq, c9, hsz0, hall0, hln1, ifT, w64, valR, beq_self_eq_true, bne_self_eq_false, List.getElem?_cons_zero, List.getElem?_cons_succ, Bool.or_false, Bool.false_or, Bool.or_self, RR, RP, Ty.agg, Ty.size, Ty.sizes, eq_self, ne_eq, not_true, not_false_iff, reduceCtorEq, List.length_cons, List.length_nil, decide_true, decide_false, true_and, and_true, ite_true, ite_false, PT.full, enter0, setAll, forget, Fr.set, Fr.get, PT.get, PT.set, kof, ai, ev, ev1, evp, b_add, b_sub, b_mul, b_quo, b_rem, b_eql, b_neq, b_lss, b_leq, b_gtr, b_geq, b_seql, b_sneq, setD, resV, resL, res1, args, List.take_zero, List.drop_zero, List.take_nil, List.take_succ_cons, List.drop_succ_cons, Nat.reduceAdd, Nat.reduceLeDiff, reduceIte, Bool.not_true, Bool.not_false, Bool.false_eq_true, CA_some, Option.some.injEq, Nat.zero_add, Nat.mul_one, Nat.add_zero, setL, List.set_cons_zero, List.set_cons_succ, fillC]
  refine BR_dec (fun hn => absurd hn (by omega)) (fun hn => ?_)
  simp (disch := omega) only [KC_eq, c9, hsz0, hall0, hln1, ifT, w64, valR, beq_self_eq_true, bne_self_eq_false, List.getElem?_cons_zero, List.getElem?_cons_succ, Bool.or_false, Bool.false_or, Bool.or_self, RR, RP, Ty.agg, Ty.size, Ty.sizes, eq_self, ne_eq, not_true, not_false_iff, reduceCtorEq, List.length_cons, List.length_nil, decide_true, decide_false, true_and, and_true, ite_true, ite_false, PT.full, enter0, setAll, forget, Fr.set, Fr.get, PT.get, PT.set, kof, ai, ev, ev1, evp, b_add, b_sub, b_mul, b_quo, b_rem, b_eql, b_neq, b_lss, b_leq, b_gtr, b_geq, b_seql, b_sneq, setD, resV, resL, res1, args, List.take_zero, List.drop_zero, List.take_nil, List.take_succ_cons, List.drop_succ_cons, Nat.reduceAdd, Nat.reduceLeDiff, reduceIte, Bool.not_true, Bool.not_false, Bool.false_eq_true, CA_some, Option.some.injEq, Nat.zero_add, Nat.mul_one, Nat.add_zero, setL, List.set_cons_zero, List.set_cons_succ, fillC]
  refine WC_call (to_Forest hv0 (by omega)) ?_
  rintro r0 g0 ⟨t0, d0, U0, hg0, rfl, z0, o0, l0⟩
  have n0 := len_app' hg0
  have b0 := z0.lt
  have hd0 : d0.length = 6 := z0.size
  have ht0 : d0.take 6 = d0 := List.take_of_length_le (by omega)
  have hs0_0 : setL [.int .i64 0, .int .i64 0, .int .i64 0, .int .i64 0, .int .i64 0, .nils] 0 d0 = d0 := setL_all (by rw [hd0]; rfl)
  simp (disch := omega) only [KC_eq, c9, hsz0, hall0, hln1, hd0, ht0, hs0_0, ifT, w64, valR, beq_self_eq_true, bne_self_eq_false, List.getElem?_cons_zero, List.getElem?_cons_succ, Bool.or_false, Bool.false_or, Bool.or_self, RR, RP, Ty.agg, Ty.size, Ty.sizes, eq_self, ne_eq, not_true, not_false_iff, reduceCtorEq, List.length_cons, List.length_nil, decide_true, decide_false, true_and, and_true, ite_true, ite_false, PT.full, enter0, setAll, forget, Fr.set, Fr.get, PT.get, PT.set, kof, ai, ev, ev1, evp, b_add, b_sub, b_mul, b_quo, b_rem, b_eql, b_neq, b_lss, b_leq, b_gtr, b_geq, b_seql, b_sneq, setD, resV, resL, res1, args, List.take_zero, List.drop_zero, List.take_nil, List.take_succ_cons, List.drop_succ_cons, Nat.reduceAdd, Nat.reduceLeDiff, reduceIte, Bool.not_true, Bool.not_false, Bool.false_eq_true, CA_some, Option.some.injEq, Nat.zero_add, Nat.mul_one, Nat.add_zero, setL, List.set_cons_zero, List.set_cons_succ, fillC]
  refine WC_call (to_ByteS (Rp.app' hg0 hv1) (by omega)) ?_
  rintro r1 g1 ⟨t1, d1, U1, hg1, rfl, z1, o1, l1⟩
  have n1 := len_app' hg1
  have b1 := z1.lt
  obtain ⟨e1, rfl⟩ := z1.one rfl
  simp (disch := omega) only [KC_eq, c9, hsz0, hall0, hln1, hd0, ht0, hs0_0, ifT, w64, valR, beq_self_eq_true, bne_self_eq_false, List.getElem?_cons_zero, List.getElem?_cons_succ, Bool.or_false, Bool.false_or, Bool.or_self, RR, RP, Ty.agg, Ty.size, Ty.sizes, eq_self, ne_eq, not_true, not_false_iff, reduceCtorEq, List.length_cons, List.length_nil, decide_true, decide_false, true_and, and_true, ite_true, ite_false, PT.full, enter0, setAll, forget, Fr.set, Fr.get, PT.get, PT.set, kof, ai, ev, ev1, evp, b_add, b_sub, b_mul, b_quo, b_rem, b_eql, b_neq, b_lss, b_leq, b_gtr, b_geq, b_seql, b_sneq, setD, resV, resL, res1, args, List.take_zero, List.drop_zero, List.take_nil, List.take_succ_cons, List.drop_succ_cons, Nat.reduceAdd, Nat.reduceLeDiff, reduceIte, Bool.not_true, Bool.not_false, Bool.false_eq_true, CA_some, Option.some.injEq, Nat.zero_add, Nat.mul_one, Nat.add_zero, setL, List.set_cons_zero, List.set_cons_succ, fillC]
  refine WC_call (F.io_spec_FindHead ⟨_, _, rfl, ⟨_, (Rp.app' hg1 z0)⟩, ⟨_, _, rfl, ⟨_, z1⟩, rfl⟩⟩ (by omega) (by omega)) ?_
  rintro r2 g2 ⟨t2, css2, U2, hg2, rfl, zz2, o2, l2⟩
  have n2 := len_app' hg2
  obtain ⟨d2_0, cr2_0, U2_0, V2_0, rfl, rfl, z2_0, zz2_0⟩ := zz2
  obtain ⟨d2_1, cr2_1, U2_1, V2_1, rfl, rfl, z2_1, zz2_1⟩ := zz2_0
  obtain ⟨q2_1, rfl, hq2_1, rfl⟩ := z2_1.bool
  injection hq2_1 with hq2_1; subst hq2_1
  obtain ⟨rfl, rfl⟩ := zz2_1
  simp only [List.nil_append, List.append_nil] at o2 l2
  have o2_0 := o2
  have b2_0 := z2_0.lt
  have l2_0 := l2
  have hd2_0 : d2_0.length = 10 := z2_0.size
  have ht2_0 : d2_0.take 10 = d2_0 := List.take_of_length_le (by omega)
  have hs2_0_0 : setL [.int .i64 0, .int .i64 0, .int .i64 0, .nils, .nils, .int .i64 0, .int .i64 0, .nils, .nils, .nils] 0 d2_0 = d2_0 := setL_all (by rw [hd2_0]; rfl)
  simp (disch := omega) only [KC_eq, c9, hsz0, hall0, hln1, hd0, ht0, hs0_0, hd2_0, ht2_0, hs2_0_0, ifT, w64, valR, beq_self_eq_true, bne_self_eq_false, List.getElem?_cons_zero, List.getElem?_cons_succ, Bool.or_false, Bool.false_or, Bool.or_self, RR, RP, Ty.agg, Ty.size, Ty.sizes, eq_self, ne_eq, not_true, not_false_iff, reduceCtorEq, List.length_cons, List.length_nil, decide_true, decide_false, true_and, and_true, ite_true, ite_false, PT.full, enter0, setAll, forget, Fr.set, Fr.get, PT.get, PT.set, kof, ai, ev, ev1, evp, b_add, b_sub, b_mul, b_quo, b_rem, b_eql, b_neq, b_lss, b_leq, b_gtr, b_geq, b_seql, b_sneq, setD, resV, resL, res1, args, List.take_zero, List.drop_zero, List.take_nil, List.take_succ_cons, List.drop_succ_cons, Nat.reduceAdd, Nat.reduceLeDiff, reduceIte, Bool.not_true, Bool.not_false, Bool.false_eq_true, CA_some, Option.some.injEq, Nat.zero_add, Nat.mul_one, Nat.add_zero, setL, List.set_cons_zero, List.set_cons_succ, fillC]
  refine WC_call (to_Forest (Rp.app' hg2 (Rp.app' hg1 (Rp.app' hg0 hv0))) (by omega)) ?_
  rintro r3 g3 ⟨t3, d3, U3, hg3, rfl, z3, o3, l3⟩
  have n3 := len_app' hg3
  have b3 := z3.lt
  have hd3 : d3.length = 6 := z3.size
  have ht3 : d3.take 6 = d3 := List.take_of_length_le (by omega)
  have hs3_0 : setL [.int .i64 0, .int .i64 0, .int .i64 0, .int .i64 0, .int .i64 0, .nils] 0 d3 = d3 := setL_all (by rw [hd3]; rfl)
  simp (disch := omega) only [KC_eq, c9, hsz0, hall0, hln1, hd0, ht0, hs0_0, hd2_0, ht2_0, hs2_0_0, hd3, ht3, hs3_0, ifT, w64, valR, beq_self_eq_true, bne_self_eq_false, List.getElem?_cons_zero, List.getElem?_cons_succ, Bool.or_false, Bool.false_or, Bool.or_self, RR, RP, Ty.agg, Ty.size, Ty.sizes, eq_self, ne_eq, not_true, not_false_iff, reduceCtorEq, List.length_cons, List.length_nil, decide_true, decide_false, true_and, and_true, ite_true, ite_false, PT.full, enter0, setAll, forget, Fr.set, Fr.get, PT.get, PT.set, kof, ai, ev, ev1, evp, b_add, b_sub, b_mul, b_quo, b_rem, b_eql, b_neq, b_lss, b_leq, b_gtr, b_geq, b_seql, b_sneq, setD, resV, resL, res1, args, List.take_zero, List.drop_zero, List.take_nil, List.take_succ_cons, List.drop_succ_cons, Nat.reduceAdd, Nat.reduceLeDiff, reduceIte, Bool.not_true, Bool.not_false, Bool.false_eq_true, CA_some, Option.some.injEq, Nat.zero_add, Nat.mul_one, Nat.add_zero, setL, List.set_cons_zero, List.set_cons_succ, fillC]
  refine WC_call (to_ByteS (Rp.app' hg3 (Rp.app' hg2 (Rp.app' hg1 (Rp.app' hg0 hv1)))) (by omega)) ?_
  rintro r4 g4 ⟨t4, d4, U4, hg4, rfl, z4, o4, l4⟩
  have n4 := len_app' hg4
  have b4 := z4.lt
  obtain ⟨e4, rfl⟩ := z4.one rfl
  simp (disch := omega) only [KC_eq, c9, hsz0, hall0, hln1, hd0, ht0, hs0_0, hd2_0, ht2_0, hs2_0_0, hd3, ht3, hs3_0, ifT, w64, valR, beq_self_eq_true, bne_self_eq_false, List.getElem?_cons_zero, List.getElem?_cons_succ, Bool.or_false, Bool.false_or, Bool.or_self, RR, RP, Ty.agg, Ty.size, Ty.sizes, eq_self, ne_eq, not_true, not_false_iff, reduceCtorEq, List.length_cons, List.length_nil, decide_true, decide_false, true_and, and_true, ite_true, ite_false, PT.full, enter0, setAll, forget, Fr.set, Fr.get, PT.get, PT.set, kof, ai, ev, ev1, evp, b_add, b_sub, b_mul, b_quo, b_rem, b_eql, b_neq, b_lss, b_leq, b_gtr, b_geq, b_seql, b_sneq, setD, resV, resL, res1, args, List.take_zero, List.drop_zero, List.take_nil, List.take_succ_cons, List.drop_succ_cons, Nat.reduceAdd, Nat.reduceLeDiff, reduceIte, Bool.not_true, Bool.not_false, Bool.false_eq_true, CA_some, Option.some.injEq, Nat.zero_add, Nat.mul_one, Nat.add_zero, setL, List.set_cons_zero, List.set_cons_succ, fillC]
  refine WC_call (F.io_impl_FindHead ⟨_, _, rfl, ⟨_, (Rp.app' hg4 z3)⟩, ⟨_, _, rfl, ⟨_, z4⟩, rfl⟩⟩ (by omega) (by omega)) ?_
  rintro r5 g5 ⟨t5, css5, U5, hg5, rfl, zz5, o5, l5⟩
  have n5 := len_app' hg5
  obtain ⟨d5_0, cr5_0, U5_0, V5_0, rfl, rfl, z5_0, zz5_0⟩ := zz5
  obtain ⟨d5_1, cr5_1, U5_1, V5_1, rfl, rfl, z5_1, zz5_1⟩ := zz5_0
  obtain ⟨q5_1, rfl, hq5_1, rfl⟩ := z5_1.bool
  injection hq5_1 with hq5_1; subst hq5_1
  obtain ⟨rfl, rfl⟩ := zz5_1
  simp only [List.nil_append, List.append_nil] at o5 l5
  have o5_0 := o5
  have b5_0 := z5_0.lt
  have l5_0 := l5
  have hd5_0 : d5_0.length = 10 := z5_0.size
  have ht5_0 : d5_0.take 10 = d5_0 := List.take_of_length_le (by omega)
  have hs5_0_0 : setL [.int .i64 0, .int .i64 0, .int .i64 0, .nils, .nils, .int .i64 0, .int .i64 0, .nils, .nils, .nils] 0 d5_0 = d5_0 := setL_all (by rw [hd5_0]; rfl)
  simp (disch := omega) only [KC_eq, c9, hsz0, hall0, hln1, hd0, ht0, hs0_0, hd2_0, ht2_0, hs2_0_0, hd3, ht3, hs3_0, hd5_0, ht5_0, hs5_0_0, ifT, w64, valR, beq_self_eq_true, bne_self_eq_false, List.getElem?_cons_zero, List.getElem?_cons_succ, Bool.or_false, Bool.false_or, Bool.or_self, RR, RP, Ty.agg, Ty.size, Ty.sizes, eq_self, ne_eq, not_true, not_false_iff, reduceCtorEq, List.length_cons, List.length_nil, decide_true, decide_false, true_and, and_true, ite_true, ite_false, PT.full, enter0, setAll, forget, Fr.set, Fr.get, PT.get, PT.set, kof, ai, ev, ev1, evp, b_add, b_sub, b_mul, b_quo, b_rem, b_eql, b_neq, b_lss, b_leq, b_gtr, b_geq, b_seql, b_sneq, setD, resV, resL, res1, args, List.take_zero, List.drop_zero, List.take_nil, List.take_succ_cons, List.drop_succ_cons, Nat.reduceAdd, Nat.reduceLeDiff, reduceIte, Bool.not_true, Bool.not_false, Bool.false_eq_true, CA_some, Option.some.injEq, Nat.zero_add, Nat.mul_one, Nat.add_zero, setL, List.set_cons_zero, List.set_cons_succ, fillC]
  refine EqOk.go eq_Head z5_0 (Rp.app' hg5 (Rp.app' hg4 (Rp.app' hg3 z2_0))) (fun _ => ?_) (fun hne => absurd rfl hne)
  simp (disch := omega) only [KC_eq, c9, hsz0, hall0, hln1, hd0, ht0, hs0_0, hd2_0, ht2_0, hs2_0_0, hd3, ht3, hs3_0, hd5_0, ht5_0, hs5_0_0, ifT, w64, valR, beq_self_eq_true, bne_self_eq_false, List.getElem?_cons_zero, List.getElem?_cons_succ, Bool.or_false, Bool.false_or, Bool.or_self, RR, RP, Ty.agg, Ty.size, Ty.sizes, eq_self, ne_eq, not_true, not_false_iff, reduceCtorEq, List.length_cons, List.length_nil, decide_true, decide_false, true_and, and_true, ite_true, ite_false, PT.full, enter0, setAll, forget, Fr.set, Fr.get, PT.get, PT.set, kof, ai, ev, ev1, evp, b_add, b_sub, b_mul, b_quo, b_rem, b_eql, b_neq, b_lss, b_leq, b_gtr, b_geq, b_seql, b_sneq, setD, resV, resL, res1, args, List.take_zero, List.drop_zero, List.take_nil, List.take_succ_cons, List.drop_succ_cons, Nat.reduceAdd, Nat.reduceLeDiff, reduceIte, Bool.not_true, Bool.not_false, Bool.false_eq_true, CA_some, Option.some.injEq, Nat.zero_add, Nat.mul_one, Nat.add_zero, setL, List.set_cons_zero, List.set_cons_succ, fillC]
  refine WC_call (to_Forest (Rp.app' hg5 (Rp.app' hg4 (Rp.app' hg3 (Rp.app' hg2 (Rp.app' hg1 (Rp.app' hg0 hv0)))))) (by omega)) ?_
  rintro r6 g6 ⟨t6, d6, U6, hg6, rfl, z6, o6, l6⟩
  have n6 := len_app' hg6
  have b6 := z6.lt
  have hd6 : d6.length = 6 := z6.size
  have ht6 : d6.take 6 = d6 := List.take_of_length_le (by omega)
  have hs6_0 : setL [.int .i64 0, .int .i64 0, .int .i64 0, .int .i64 0, .int .i64 0, .nils] 0 d6 = d6 := setL_all (by rw [hd6]; rfl)
  simp (disch := omega) only [KC_eq, c9, hsz0, hall0, hln1, hd0, ht0, hs0_0, hd2_0, ht2_0, hs2_0_0, hd3, ht3, hs3_0, hd5_0, ht5_0, hs5_0_0, hd6, ht6, hs6_0, ifT, w64, valR, beq_self_eq_true, bne_self_eq_false, List.getElem?_cons_zero, List.getElem?_cons_succ, Bool.or_false, Bool.false_or, Bool.or_self, RR, RP, Ty.agg, Ty.size, Ty.sizes, eq_self, ne_eq, not_true, not_false_iff, reduceCtorEq, List.length_cons, List.length_nil, decide_true, decide_false, true_and, and_true, ite_true, ite_false, PT.full, enter0, setAll, forget, Fr.set, Fr.get, PT.get, PT.set, kof, ai, ev, ev1, evp, b_add, b_sub, b_mul, b_quo, b_rem, b_eql, b_neq, b_lss, b_leq, b_gtr, b_geq, b_seql, b_sneq, setD, resV, resL, res1, args, List.take_zero, List.drop_zero, List.take_nil, List.take_succ_cons, List.drop_succ_cons, Nat.reduceAdd, Nat.reduceLeDiff, reduceIte, Bool.not_true, Bool.not_false, Bool.false_eq_true, CA_some, Option.some.injEq, Nat.zero_add, Nat.mul_one, Nat.add_zero, setL, List.set_cons_zero, List.set_cons_succ, fillC]
  refine EqOk.go eq_Forest (Rp.app' hg6 (Rp.app' hg5 (Rp.app' hg4 z3))) z6 (fun _ => ?_) (fun hne => absurd rfl hne)
  simp (disch := omega) only [KC_eq, c9, hsz0, hall0, hln1, hd0, ht0, hs0_0, hd2_0, ht2_0, hs2_0_0, hd3, ht3, hs3_0, hd5_0, ht5_0, hs5_0_0, hd6, ht6, hs6_0, ifT, w64, valR, beq_self_eq_true, bne_self_eq_false, List.getElem?_cons_zero, List.getElem?_cons_succ, Bool.or_false, Bool.false_or, Bool.or_self, RR, RP, Ty.agg, Ty.size, Ty.sizes, eq_self, ne_eq, not_true, not_false_iff, reduceCtorEq, List.length_cons, List.length_nil, decide_true, decide_false, true_and, and_true, ite_true, ite_false, PT.full, enter0, setAll, forget, Fr.set, Fr.get, PT.get, PT.set, kof, ai, ev, ev1, evp, b_add, b_sub, b_mul, b_quo, b_rem, b_eql, b_neq, b_lss, b_leq, b_gtr, b_geq, b_seql, b_sneq, setD, resV, resL, res1, args, List.take_zero, List.drop_zero, List.take_nil, List.take_succ_cons, List.drop_succ_cons, Nat.reduceAdd, Nat.reduceLeDiff, reduceIte, Bool.not_true, Bool.not_false, Bool.false_eq_true, CA_some, Option.some.injEq, Nat.zero_add, Nat.mul_one, Nat.add_zero, setL, List.set_cons_zero, List.set_cons_succ, fillC]
  refine WC_call (to_ByteS (Rp.app' hg6 (Rp.app' hg5 (Rp.app' hg4 (Rp.app' hg3 (Rp.app' hg2 (Rp.app' hg1 (Rp.app' hg0 hv1))))))) (by omega)) ?_
  rintro r7 g7 ⟨t7, d7, U7, hg7, rfl, z7, o7, l7⟩
  have n7 := len_app' hg7
  have b7 := z7.lt
  obtain ⟨e7, rfl⟩ := z7.one rfl
  simp (disch := omega) only [KC_eq, c9, hsz0, hall0, hln1, hd0, ht0, hs0_0, hd2_0, ht2_0, hs2_0_0, hd3, ht3, hs3_0, hd5_0, ht5_0, hs5_0_0, hd6, ht6, hs6_0, ifT, w64, valR, beq_self_eq_true, bne_self_eq_false, List.getElem?_cons_zero, List.getElem?_cons_succ, Bool.or_false, Bool.false_or, Bool.or_self, RR, RP, Ty.agg, Ty.size, Ty.sizes, eq_self, ne_eq, not_true, not_false_iff, reduceCtorEq, List.length_cons, List.length_nil, decide_true, decide_false, true_and, and_true, ite_true, ite_false, PT.full, enter0, setAll, forget, Fr.set, Fr.get, PT.get, PT.set, kof, ai, ev, ev1, evp, b_add, b_sub, b_mul, b_quo, b_rem, b_eql, b_neq, b_lss, b_leq, b_gtr, b_geq, b_seql, b_sneq, setD, resV, resL, res1, args, List.take_zero, List.drop_zero, List.take_nil, List.take_succ_cons, List.drop_succ_cons, Nat.reduceAdd, Nat.reduceLeDiff, reduceIte, Bool.not_true, Bool.not_false, Bool.false_eq_true, CA_some, Option.some.injEq, Nat.zero_add, Nat.mul_one, Nat.add_zero, setL, List.set_cons_zero, List.set_cons_succ, fillC]
  refine EqOk.go eq_ByteS (Rp.app' hg7 (Rp.app' hg6 (Rp.app' hg5 z4))) z7 (fun _ => ?_) (fun hne => absurd rfl hne)
  simp (disch := omega) only [KC_eq, c9, hsz0, hall0, hln1, hd0, ht0, hs0_0, hd2_0, ht2_0, hs2_0_0, hd3, ht3, hs3_0, hd5_0, ht5_0, hs5_0_0, hd6, ht6, hs6_0, ifT, w64, valR, beq_self_eq_true, bne_self_eq_false, List.getElem?_cons_zero, List.getElem?_cons_succ, Bool.or_false, Bool.false_or, Bool.or_self, RR, RP, Ty.agg, Ty.size, Ty.sizes, eq_self, ne_eq, not_true, not_false_iff, reduceCtorEq, List.length_cons, List.length_nil, decide_true, decide_false, true_and, and_true, ite_true, ite_false, PT.full, enter0, setAll, forget, Fr.set, Fr.get, PT.get, PT.set, kof, ai, ev, ev1, evp, b_add, b_sub, b_mul, b_quo, b_rem, b_eql, b_neq, b_lss, b_leq, b_gtr, b_geq, b_seql, b_sneq, setD, resV, resL, res1, args, List.take_zero, List.drop_zero, List.take_nil, List.take_succ_cons, List.drop_succ_cons, Nat.reduceAdd, Nat.reduceLeDiff, reduceIte, Bool.not_true, Bool.not_false, Bool.false_eq_true, CA_some, Option.some.injEq, Nat.zero_add, Nat.mul_one, Nat.add_zero, setL, List.set_cons_zero, List.set_cons_succ, fillC]
  refine MkOk.go mk_Forest (Rp.app' hg7 (Rp.app' hg6 (Rp.app' hg5 (Rp.app' hg4 z3)))) (Ownd.app' hg7 (Ownd.app' hg6 (Ownd.app' hg5 (Ownd.app' hg4 o3)))) (k := 1) (by omega) (fun gw0 w0 zw0 => ?_)
  have nw0 := w0.1
  simp (disch := omega) only [KC_eq, c9, hsz0, hall0, hln1, hd0, ht0, hs0_0, hd2_0, ht2_0, hs2_0_0, hd3, ht3, hs3_0, hd5_0, ht5_0, hs5_0_0, hd6, ht6, hs6_0, ifT, w64, valR, beq_self_eq_true, bne_self_eq_false, List.getElem?_cons_zero, List.getElem?_cons_succ, Bool.or_false, Bool.false_or, Bool.or_self, RR, RP, Ty.agg, Ty.size, Ty.sizes, eq_self, ne_eq, not_true, not_false_iff, reduceCtorEq, List.length_cons, List.length_nil, decide_true, decide_false, true_and, and_true, ite_true, ite_false, PT.full, enter0, setAll, forget, Fr.set, Fr.get, PT.get, PT.set, kof, ai, ev, ev1, evp, b_add, b_sub, b_mul, b_quo, b_rem, b_eql, b_neq, b_lss, b_leq, b_gtr, b_geq, b_seql, b_sneq, setD, resV, resL, res1, args, List.take_zero, List.drop_zero, List.take_nil, List.take_succ_cons, List.drop_succ_cons, Nat.reduceAdd, Nat.reduceLeDiff, reduceIte, Bool.not_true, Bool.not_false, Bool.false_eq_true, CA_some, Option.some.injEq, Nat.zero_add, Nat.mul_one, Nat.add_zero, setL, List.set_cons_zero, List.set_cons_succ, fillC]
  refine MkOk.go mk_ByteS ((Rp.app' hg7 (Rp.app' hg6 (Rp.app' hg5 z4))).wrote w0 (fun i hi hn => by have := b4 i hi; have := l4 i hi; have := b3 i hn; have := l3 i hn; omega)) (w0.ownd (Ownd.app' hg7 (Ownd.app' hg6 (Ownd.app' hg5 o4)))) (k := 1 + cnT TForest f.tv) (by omega) (fun gw1 w1 zw1 => ?_)
  have nw1 := w1.1
  have hneg : decide (((1 + cnT TForest f.tv + cnT (.sl (.int .u8)) (bsT x) : Nat) : Int) < 0) = false := by simp; omega
  simp (disch := omega) only [KC_eq, c9, hsz0, hall0, hln1, hd0, ht0, hs0_0, hd2_0, ht2_0, hs2_0_0, hd3, ht3, hs3_0, hd5_0, ht5_0, hs5_0_0, hd6, ht6, hs6_0, hneg, ifT, w64, valR, beq_self_eq_true, bne_self_eq_false, List.getElem?_cons_zero, List.getElem?_cons_succ, Bool.or_false, Bool.false_or, Bool.or_self, RR, RP, Ty.agg, Ty.size, Ty.sizes, eq_self, ne_eq, not_true, not_false_iff, reduceCtorEq, List.length_cons, List.length_nil, decide_true, decide_false, true_and, and_true, ite_true, ite_false, PT.full, enter0, setAll, forget, Fr.set, Fr.get, PT.get, PT.set, kof, ai, ev, ev1, evp, b_add, b_sub, b_mul, b_quo, b_rem, b_eql, b_neq, b_lss, b_leq, b_gtr, b_geq, b_seql, b_sneq, setD, resV, resL, res1, args, List.take_zero, List.drop_zero, List.take_nil, List.take_succ_cons, List.drop_succ_cons, Nat.reduceAdd, Nat.reduceLeDiff, reduceIte, Bool.not_true, Bool.not_false, Bool.false_eq_true, CA_some, Option.some.injEq, Nat.zero_add, Nat.mul_one, Nat.add_zero, setL, List.set_cons_zero, List.set_cons_succ, fillC]
  refine EqOk.go eq_Head (((Rp.app' hg7 (Rp.app' hg6 z5_0)).wrote w0 (fun i hi hn => by have := b5_0 i hi; have := l5_0 i hi; have := b3 i hn; have := l3 i hn; omega)).wrote w1 (fun i hi hn => by have := b5_0 i hi; have := l5_0 i hi; have := b4 i hn; have := l4 i hn; omega)) (((Rp.app' hg7 (Rp.app' hg6 (Rp.app' hg5 (Rp.app' hg4 (Rp.app' hg3 z2_0))))).wrote w0 (fun i hi hn => by have := b2_0 i hi; have := l2_0 i hi; have := b3 i hn; have := l3 i hn; omega)).wrote w1 (fun i hi hn => by have := b2_0 i hi; have := l2_0 i hi; have := b4 i hn; have := l4 i hn; omega)) (fun _ => ?_) (fun hne => absurd rfl hne)
  simp (disch := omega) only [KC_eq, c9, hsz0, hall0, hln1, hd0, ht0, hs0_0, hd2_0, ht2_0, hs2_0_0, hd3, ht3, hs3_0, hd5_0, ht5_0, hs5_0_0, hd6, ht6, hs6_0, hneg, ifT, w64, valR, beq_self_eq_true, bne_self_eq_false, List.getElem?_cons_zero, List.getElem?_cons_succ, Bool.or_false, Bool.false_or, Bool.or_self, RR, RP, Ty.agg, Ty.size, Ty.sizes, eq_self, ne_eq, not_true, not_false_iff, reduceCtorEq, List.length_cons, List.length_nil, decide_true, decide_false, true_and, and_true, ite_true, ite_false, PT.full, enter0, setAll, forget, Fr.set, Fr.get, PT.get, PT.set, kof, ai, ev, ev1, evp, b_add, b_sub, b_mul, b_quo, b_rem, b_eql, b_neq, b_lss, b_leq, b_gtr, b_geq, b_seql, b_sneq, setD, resV, resL, res1, args, List.take_zero, List.drop_zero, List.take_nil, List.take_succ_cons, List.drop_succ_cons, Nat.reduceAdd, Nat.reduceLeDiff, reduceIte, Bool.not_true, Bool.not_false, Bool.false_eq_true, CA_some, Option.some.injEq, Nat.zero_add, Nat.mul_one, Nat.add_zero, setL, List.set_cons_zero, List.set_cons_succ, fillC]
  refine MkOk.go mk_Head (((Rp.app' hg7 (Rp.app' hg6 z5_0)).wrote w0 (fun i hi hn => by have := b5_0 i hi; have := l5_0 i hi; have := b3 i hn; have := l3 i hn; omega)).wrote w1 (fun i hi hn => by have := b5_0 i hi; have := l5_0 i hi; have := b4 i hn; have := l4 i hn; omega)) (w1.ownd (w0.ownd (Ownd.app' hg7 (Ownd.app' hg6 o5_0)))) (k := 1) (by omega) (fun gm0 wm0 zm0 => ?_)
  have nm0 := wm0.1
  simp (disch := omega) only [KC_eq, c9, hsz0, hall0, hln1, hd0, ht0, hs0_0, hd2_0, ht2_0, hs2_0_0, hd3, ht3, hs3_0, hd5_0, ht5_0, hs5_0_0, hd6, ht6, hs6_0, hneg, ifT, w64, valR, beq_self_eq_true, bne_self_eq_false, List.getElem?_cons_zero, List.getElem?_cons_succ, Bool.or_false, Bool.false_or, Bool.or_self, RR, RP, Ty.agg, Ty.size, Ty.sizes, eq_self, ne_eq, not_true, not_false_iff, reduceCtorEq, List.length_cons, List.length_nil, decide_true, decide_false, true_and, and_true, ite_true, ite_false, PT.full, enter0, setAll, forget, Fr.set, Fr.get, PT.get, PT.set, kof, ai, ev, ev1, evp, b_add, b_sub, b_mul, b_quo, b_rem, b_eql, b_neq, b_lss, b_leq, b_gtr, b_geq, b_seql, b_sneq, setD, resV, resL, res1, args, List.take_zero, List.drop_zero, List.take_nil, List.take_succ_cons, List.drop_succ_cons, Nat.reduceAdd, Nat.reduceLeDiff, reduceIte, Bool.not_true, Bool.not_false, Bool.false_eq_true, CA_some, Option.some.injEq, Nat.zero_add, Nat.mul_one, Nat.add_zero, setL, List.set_cons_zero, List.set_cons_succ, fillC]
  refine HdOk.go hd_Head ⟨_, _, _, z5_0⟩ zm0 (k := 1) (by omega) ?_
  simp (disch := omega) only [KC_eq, c9, hsz0, hall0, hln1, hd0, ht0, hs0_0, hd2_0, ht2_0, hs2_0_0, hd3, ht3, hs3_0, hd5_0, ht5_0, hs5_0_0, hd6, ht6, hs6_0, hneg, ifT, w64, valR, beq_self_eq_true, bne_self_eq_false, List.getElem?_cons_zero, List.getElem?_cons_succ, Bool.or_false, Bool.false_or, Bool.or_self, RR, RP, Ty.agg, Ty.size, Ty.sizes, eq_self, ne_eq, not_true, not_false_iff, reduceCtorEq, List.length_cons, List.length_nil, decide_true, decide_false, true_and, and_true, ite_true, ite_false, PT.full, enter0, setAll, forget, Fr.set, Fr.get, PT.get, PT.set, kof, ai, ev, ev1, evp, b_add, b_sub, b_mul, b_quo, b_rem, b_eql, b_neq, b_lss, b_leq, b_gtr, b_geq, b_seql, b_sneq, setD, resV, resL, res1, args, List.take_zero, List.drop_zero, List.take_nil, List.take_succ_cons, List.drop_succ_cons, Nat.reduceAdd, Nat.reduceLeDiff, reduceIte, Bool.not_true, Bool.not_false, Bool.false_eq_true, CA_some, Option.some.injEq, Nat.zero_add, Nat.mul_one, Nat.add_zero, setL, List.set_cons_zero, List.set_cons_succ, fillC]
  refine BR_dec (fun hn => absurd hn (by omega)) (fun hn => ?_)
  simp (disch := omega) only [KC_eq, c9, hsz0, hall0, hln1, hd0, ht0, hs0_0, hd2_0, ht2_0, hs2_0_0, hd3, ht3, hs3_0, hd5_0, ht5_0, hs5_0_0, hd6, ht6, hs6_0, hneg, ifT, w64, valR, beq_self_eq_true, bne_self_eq_false, List.getElem?_cons_zero, List.getElem?_cons_succ, Bool.or_false, Bool.false_or, Bool.or_self, RR, RP, Ty.agg, Ty.size, Ty.sizes, eq_self, ne_eq, not_true, not_false_iff, reduceCtorEq, List.length_cons, List.length_nil, decide_true, decide_false, true_and, and_true, ite_true, ite_false, PT.full, enter0, setAll, forget, Fr.set, Fr.get, PT.get, PT.set, kof, ai, ev, ev1, evp, b_add, b_sub, b_mul, b_quo, b_rem, b_eql, b_neq, b_lss, b_leq, b_gtr, b_geq, b_seql, b_sneq, setD, resV, resL, res1, args, List.take_zero, List.drop_zero, List.take_nil, List.take_succ_cons, List.drop_succ_cons, Nat.reduceAdd, Nat.reduceLeDiff, reduceIte, Bool.not_true, Bool.not_false, Bool.false_eq_true, CA_some, Option.some.injEq, Nat.zero_add, Nat.mul_one, Nat.add_zero, setL, List.set_cons_zero, List.set_cons_succ, fillC]
  refine WC_call (to_Forest ((((Rp.app' hg7 (Rp.app' hg6 (Rp.app' hg5 (Rp.app' hg4 (Rp.app' hg3 (Rp.app' hg2 (Rp.app' hg1 (Rp.app' hg0 hv0)))))))).wrote w0 (fun i hi hn => by have := hv0.lt i hi; have := b3 i hn; have := l3 i hn; omega)).wrote w1 (fun i hi hn => by have := hv0.lt i hi; have := b4 i hn; have := l4 i hn; omega)).wrote wm0 (fun i hi hn => by have := hv0.lt i hi; have := b5_0 i hn; have := l5_0 i hn; omega)) (by omega)) ?_
  rintro r8 g8 ⟨t8, d8, U8, hg8, rfl, z8, o8, l8⟩
  have n8 := len_app' hg8
  have b8 := z8.lt
  have hd8 : d8.length = 6 := z8.size
  have ht8 : d8.take 6 = d8 := List.take_of_length_le (by omega)
  have hs8_0 : setL [.int .i64 0, .int .i64 0, .int .i64 0, .int .i64 0, .int .i64 0, .nils] 0 d8 = d8 := setL_all (by rw [hd8]; rfl)
  simp (disch := omega) only [KC_eq, c9, hsz0, hall0, hln1, hd0, ht0, hs0_0, hd2_0, ht2_0, hs2_0_0, hd3, ht3, hs3_0, hd5_0, ht5_0, hs5_0_0, hd6, ht6, hs6_0, hneg, hd8, ht8, hs8_0, ifT, w64, valR, beq_self_eq_true, bne_self_eq_false, List.getElem?_cons_zero, List.getElem?_cons_succ, Bool.or_false, Bool.false_or, Bool.or_self, RR, RP, Ty.agg, Ty.size, Ty.sizes, eq_self, ne_eq, not_true, not_false_iff, reduceCtorEq, List.length_cons, List.length_nil, decide_true, decide_false, true_and, and_true, ite_true, ite_false, PT.full, enter0, setAll, forget, Fr.set, Fr.get, PT.get, PT.set, kof, ai, ev, ev1, evp, b_add, b_sub, b_mul, b_quo, b_rem, b_eql, b_neq, b_lss, b_leq, b_gtr, b_geq, b_seql, b_sneq, setD, resV, resL, res1, args, List.take_zero, List.drop_zero, List.take_nil, List.take_succ_cons, List.drop_succ_cons, Nat.reduceAdd, Nat.reduceLeDiff, reduceIte, Bool.not_true, Bool.not_false, Bool.false_eq_true, CA_some, Option.some.injEq, Nat.zero_add, Nat.mul_one, Nat.add_zero, setL, List.set_cons_zero, List.set_cons_succ, fillC]
  refine WC_call (to_ByteS (Rp.app' hg8 ((((Rp.app' hg7 (Rp.app' hg6 (Rp.app' hg5 (Rp.app' hg4 (Rp.app' hg3 (Rp.app' hg2 (Rp.app' hg1 (Rp.app' hg0 hv1)))))))).wrote w0 (fun i hi hn => by have := hv1.lt i hi; have := b3 i hn; have := l3 i hn; omega)).wrote w1 (fun i hi hn => by have := hv1.lt i hi; have := b4 i hn; have := l4 i hn; omega)).wrote wm0 (fun i hi hn => by have := hv1.lt i hi; have := b5_0 i hn; have := l5_0 i hn; omega))) (by omega)) ?_
  rintro r9 g9 ⟨t9, d9, U9, hg9, rfl, z9, o9, l9⟩
  have n9 := len_app' hg9
  have b9 := z9.lt
  obtain ⟨e9, rfl⟩ := z9.one rfl
  simp (disch := omega) only [KC_eq, c9, hsz0, hall0, hln1, hd0, ht0, hs0_0, hd2_0, ht2_0, hs2_0_0, hd3, ht3, hs3_0, hd5_0, ht5_0, hs5_0_0, hd6, ht6, hs6_0, hneg, hd8, ht8, hs8_0, ifT, w64, valR, beq_self_eq_true, bne_self_eq_false, List.getElem?_cons_zero, List.getElem?_cons_succ, Bool.or_false, Bool.false_or, Bool.or_self, RR, RP, Ty.agg, Ty.size, Ty.sizes, eq_self, ne_eq, not_true, not_false_iff, reduceCtorEq, List.length_cons, List.length_nil, decide_true, decide_false, true_and, and_true, ite_true, ite_false, PT.full, enter0, setAll, forget, Fr.set, Fr.get, PT.get, PT.set, kof, ai, ev, ev1, evp, b_add, b_sub, b_mul, b_quo, b_rem, b_eql, b_neq, b_lss, b_leq, b_gtr, b_geq, b_seql, b_sneq, setD, resV, resL, res1, args, List.take_zero, List.drop_zero, List.take_nil, List.take_succ_cons, List.drop_succ_cons, Nat.reduceAdd, Nat.reduceLeDiff, reduceIte, Bool.not_true, Bool.not_false, Bool.false_eq_true, CA_some, Option.some.injEq, Nat.zero_add, Nat.mul_one, Nat.add_zero, setL, List.set_cons_zero, List.set_cons_succ, fillC]
  refine WC_call (F.io_impl_FindHead ⟨_, _, rfl, ⟨_, (Rp.app' hg9 z8)⟩, ⟨_, _, rfl, ⟨_, z9⟩, rfl⟩⟩ (by omega) (by omega)) ?_
  rintro r10 g10 ⟨t10, css10, U10, hg10, rfl, zz10, o10, l10⟩
  have n10 := len_app' hg10
  obtain ⟨d10_0, cr10_0, U10_0, V10_0, rfl, rfl, z10_0, zz10_0⟩ := zz10
  obtain ⟨d10_1, cr10_1, U10_1, V10_1, rfl, rfl, z10_1, zz10_1⟩ := zz10_0
  obtain ⟨q10_1, rfl, hq10_1, rfl⟩ := z10_1.bool
  injection hq10_1 with hq10_1; subst hq10_1
  obtain ⟨rfl, rfl⟩ := zz10_1
  simp only [List.nil_append, List.append_nil] at o10 l10
  have o10_0 := o10
  have b10_0 := z10_0.lt
  have l10_0 := l10
  have hd10_0 : d10_0.length = 10 := z10_0.size
  have ht10_0 : d10_0.take 10 = d10_0 := List.take_of_length_le (by omega)
  have hs10_0_0 : setL [.int .i64 0, .int .i64 0, .int .i64 0, .nils, .nils, .int .i64 0, .int .i64 0, .nils, .nils, .nils] 0 d10_0 = d10_0 := setL_all (by rw [hd10_0]; rfl)
  simp (disch := omega) only [KC_eq, c9, hsz0, hall0, hln1, hd0, ht0, hs0_0, hd2_0, ht2_0, hs2_0_0, hd3, ht3, hs3_0, hd5_0, ht5_0, hs5_0_0, hd6, ht6, hs6_0, hneg, hd8, ht8, hs8_0, hd10_0, ht10_0, hs10_0_0, ifT, w64, valR, beq_self_eq_true, bne_self_eq_false, List.getElem?_cons_zero, List.getElem?_cons_succ, Bool.or_false, Bool.false_or, Bool.or_self, RR, RP, Ty.agg, Ty.size, Ty.sizes, eq_self, ne_eq, not_true, not_false_iff, reduceCtorEq, List.length_cons, List.length_nil, decide_true, decide_false, true_and, and_true, ite_true, ite_false, PT.full, enter0, setAll, forget, Fr.set, Fr.get, PT.get, PT.set, kof, ai, ev, ev1, evp, b_add, b_sub, b_mul, b_quo, b_rem, b_eql, b_neq, b_lss, b_leq, b_gtr, b_geq, b_seql, b_sneq, setD, resV, resL, res1, args, List.take_zero, List.drop_zero, List.take_nil, List.take_succ_cons, List.drop_succ_cons, Nat.reduceAdd, Nat.reduceLeDiff, reduceIte, Bool.not_true, Bool.not_false, Bool.false_eq_true, CA_some, Option.some.injEq, Nat.zero_add, Nat.mul_one, Nat.add_zero, setL, List.set_cons_zero, List.set_cons_succ, fillC]
  refine EqOk.go eq_Head z10_0 (Rp.app' hg10 (Rp.app' hg9 (Rp.app' hg8 ((((Rp.app' hg7 (Rp.app' hg6 (Rp.app' hg5 (Rp.app' hg4 (Rp.app' hg3 z2_0))))).wrote w0 (fun i hi hn => by have := b2_0 i hi; have := l2_0 i hi; have := b3 i hn; have := l3 i hn; omega)).wrote w1 (fun i hi hn => by have := b2_0 i hi; have := l2_0 i hi; have := b4 i hn; have := l4 i hn; omega)).wrote wm0 (fun i hi hn => by have := b2_0 i hi; have := l2_0 i hi; have := b5_0 i hn; have := l5_0 i hn; omega))))) (fun _ => ?_) (fun hne => absurd rfl hne)
  simp (disch := omega) only [KC_eq, c9, hsz0, hall0, hln1, hd0, ht0, hs0_0, hd2_0, ht2_0, hs2_0_0, hd3, ht3, hs3_0, hd5_0, ht5_0, hs5_0_0, hd6, ht6, hs6_0, hneg, hd8, ht8, hs8_0, hd10_0, ht10_0, hs10_0_0, ifT, w64, valR, beq_self_eq_true, bne_self_eq_false, List.getElem?_cons_zero, List.getElem?_cons_succ, Bool.or_false, Bool.false_or, Bool.or_self, RR, RP, Ty.agg, Ty.size, Ty.sizes, eq_self, ne_eq, not_true, not_false_iff, reduceCtorEq, List.length_cons, List.length_nil, decide_true, decide_false, true_and, and_true, ite_true, ite_false, PT.full, enter0, setAll, forget, Fr.set, Fr.get, PT.get, PT.set, kof, ai, ev, ev1, evp, b_add, b_sub, b_mul, b_quo, b_rem, b_eql, b_neq, b_lss, b_leq, b_gtr, b_geq, b_seql, b_sneq, setD, resV, resL, res1, args, List.take_zero, List.drop_zero, List.take_nil, List.take_succ_cons, List.drop_succ_cons, Nat.reduceAdd, Nat.reduceLeDiff, reduceIte, Bool.not_true, Bool.not_false, Bool.false_eq_true, CA_some, Option.some.injEq, Nat.zero_add, Nat.mul_one, Nat.add_zero, setL, List.set_cons_zero, List.set_cons_succ, fillC]
  refine HdOk.go hd_Head ⟨_, _, _, z5_0⟩ (Rp.app' hg10 (Rp.app' hg9 (Rp.app' hg8 zm0))) (k := 1) (by omega) ?_
  simp (disch := omega) only [KC_eq, c9, hsz0, hall0, hln1, hd0, ht0, hs0_0, hd2_0, ht2_0, hs2_0_0, hd3, ht3, hs3_0, hd5_0, ht5_0, hs5_0_0, hd6, ht6, hs6_0, hneg, hd8, ht8, hs8_0, hd10_0, ht10_0, hs10_0_0, ifT, w64, valR, beq_self_eq_true, bne_self_eq_false, List.getElem?_cons_zero, List.getElem?_cons_succ, Bool.or_false, Bool.false_or, Bool.or_self, RR, RP, Ty.agg, Ty.size, Ty.sizes, eq_self, ne_eq, not_true, not_false_iff, reduceCtorEq, List.length_cons, List.length_nil, decide_true, decide_false, true_and, and_true, ite_true, ite_false, PT.full, enter0, setAll, forget, Fr.set, Fr.get, PT.get, PT.set, kof, ai, ev, ev1, evp, b_add, b_sub, b_mul, b_quo, b_rem, b_eql, b_neq, b_lss, b_leq, b_gtr, b_geq, b_seql, b_sneq, setD, resV, resL, res1, args, List.take_zero, List.drop_zero, List.take_nil, List.take_succ_cons, List.drop_succ_cons, Nat.reduceAdd, Nat.reduceLeDiff, reduceIte, Bool.not_true, Bool.not_false, Bool.false_eq_true, CA_some, Option.some.injEq, Nat.zero_add, Nat.mul_one, Nat.add_zero, setL, List.set_cons_zero, List.set_cons_succ, fillC]
  refine BR_dec (fun hn => absurd hn (by omega)) (fun hn => ?_)
  simp (disch := omega) only [KC_eq, c9, hsz0, hall0, hln1, hd0, ht0, hs0_0, hd2_0, ht2_0, hs2_0_0, hd3, ht3, hs3_0, hd5_0, ht5_0, hs5_0_0, hd6, ht6, hs6_0, hneg, hd8, ht8, hs8_0, hd10_0, ht10_0, hs10_0_0, ifT, w64, valR, beq_self_eq_true, bne_self_eq_false, List.getElem?_cons_zero, List.getElem?_cons_succ, Bool.or_false, Bool.false_or, Bool.or_self, RR, RP, Ty.agg, Ty.size, Ty.sizes, eq_self, ne_eq, not_true, not_false_iff, reduceCtorEq, List.length_cons, List.length_nil, decide_true, decide_false, true_and, and_true, ite_true, ite_false, PT.full, enter0, setAll, forget, Fr.set, Fr.get, PT.get, PT.set, kof, ai, ev, ev1, evp, b_add, b_sub, b_mul, b_quo, b_rem, b_eql, b_neq, b_lss, b_leq, b_gtr, b_geq, b_seql, b_sneq, setD, resV, resL, res1, args, List.take_zero, List.drop_zero, List.take_nil, List.take_succ_cons, List.drop_succ_cons, Nat.reduceAdd, Nat.reduceLeDiff, reduceIte, Bool.not_true, Bool.not_false, Bool.false_eq_true, CA_some, Option.some.injEq, Nat.zero_add, Nat.mul_one, Nat.add_zero, setL, List.set_cons_zero, List.set_cons_succ, fillC]
end Go.Eng.U
