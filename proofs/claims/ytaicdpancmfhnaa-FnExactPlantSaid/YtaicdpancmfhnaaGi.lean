import Derived.Test.YtaicdpancmfhnaaGb
import Derived.Test.YtaicdpancmfhnaaGh
set_option maxRecDepth 100000
set_option linter.unusedSimpArgs false
set_option linter.unusedVariables false
namespace Go.Eng.U
theorem mk_HeadS : MkOk cd 64 (.sl THead) := by
  intro h cs v S k hv ho hk
  obtain ⟨c, xs, id, off, bs, S', rfl, rfl, hm, hl, hat, hce, hbs, hel, hS⟩ := hv.view
  have hcn : cnT (.sl THead) (.l xs) = (xs.map (cnE THead)).sum := rfl
  have hmk : mkT (.sl THead) (.l xs) k = .l (mkL (mkE THead) (cnE THead) xs k) := rfl
  rw [hcn] at hk ⊢
  rw [hmk]
  have hsub : ∀ j ∈ S', j ∈ S := fun j hj => by
    rcases hS with e | ⟨_, _, e⟩
    · rw [e]; simp [hj]
    · rw [e] at hj; cases hj
  have hnd : S'.Nodup := by
    rcases hS with e | ⟨_, _, e⟩
    · have := ho.1
      rw [e] at this
      exact (List.nodup_cons.1 this).2
    · rw [e]; simp
  have hid : 0 < xs.length → id ∉ S' ∧ id ∈ S := fun hp => by
    rcases hS with e | ⟨e, _, _⟩
    · have := ho.1
      rw [e] at this
      exact ⟨(List.nodup_cons.1 this).1, by rw [e]; simp⟩
    · rw [e] at hp; simp at hp
  have hown : ∃ ty, 0 < xs.length → h[id]? = some (.own ty bs) := by
    by_cases hp : 0 < xs.length
    · obtain ⟨ty, cs, e⟩ := ho.2 id (hid hp).2
      have := (hce hp).1
      rw [cells_own e] at this
      cases this
      exact ⟨ty, fun _ => e⟩
    · exact ⟨0, fun e => absurd e hp⟩
  obtain ⟨ty, hty⟩ := hown
  have hs1 : THead.size = 10 := rfl
  rw [hs1] at hat hbs
  refine WS_enter k64 rfl ?_
  simp (disch := omega) only [c64, RR, RP, Ty.agg, Ty.size, Ty.sizes, eq_self, ne_eq, not_true, not_false_iff, reduceCtorEq, List.length_cons, List.length_nil, decide_true, decide_false, true_and, and_true, ite_true, ite_false, PT.full, enter0, setAll, forget, Fr.set, Fr.get, PT.get, PT.set, kof, ai, ev, ev1, evp, b_add, b_sub, b_mul, b_quo, b_rem, b_eql, b_neq, b_lss, b_leq, b_gtr, b_geq, b_seql, b_sneq, setD, resV, resL, res1, args, List.take_zero, List.drop_zero, List.take_nil, List.take_succ_cons, List.drop_succ_cons, Nat.reduceAdd, Nat.reduceLeDiff, reduceIte, Bool.not_true, Bool.not_false, Bool.false_eq_true, CA_some, Option.some.injEq, Nat.zero_add, Nat.mul_one, Nat.add_zero, setL, List.set_cons_zero, List.set_cons_succ, fillC]
  refine WS_loop2 (σ := Nat) (f1 := _) (by simp only [RR, RP, Ty.agg, Ty.size, Ty.sizes, eq_self, ne_eq, not_true, not_false_iff, reduceCtorEq, List.length_cons, List.length_nil, decide_true, decide_false, true_and, and_true, ite_true, ite_false, PT.full, enter0, setAll, forget, Fr.set, Fr.get, PT.get, PT.set, kof, ai, ev, ev1, evp, b_add, b_sub, b_mul, b_quo, b_rem, b_eql, b_neq, b_lss, b_leq, b_gtr, b_geq, b_seql, b_sneq, setD, resV, resL, res1, args, List.take_zero, List.drop_zero, List.take_nil, List.take_succ_cons, List.drop_succ_cons, Nat.reduceAdd, Nat.reduceLeDiff, reduceIte, Bool.not_true, Bool.not_false, Bool.false_eq_true, CA_some, Option.some.injEq, Nat.zero_add, Nat.mul_one, Nat.add_zero, setL, List.set_cons_zero, List.set_cons_succ, fillC]; rfl) (fun i => [(5, .val false [.int .i64 i]), (1, .val false [.int .i64 ((k + ((xs.take i).map (cnE THead)).sum : Nat) : Int)])])
    (fun i g h' => g = xs.length - i ∧ i ≤ xs.length ∧ Wrote h h' S ∧ (0 < xs.length → ∃ bs', h'[id]? = some (.own ty bs') ∧ bs'.length = bs.length ∧ Elems (Rp h' THead) (mkd THead xs k i) ((bs'.drop off).take (xs.length * THead.size)) S') ∧ (i = 0 → h' = h)) 0 xs.length (by simp only [List.take_zero, List.map_nil, List.sum_nil, RR, RP, Ty.agg, Ty.size, Ty.sizes, eq_self, ne_eq, not_true, not_false_iff, reduceCtorEq, List.length_cons, List.length_nil, decide_true, decide_false, true_and, and_true, ite_true, ite_false, PT.full, enter0, setAll, forget, Fr.set, Fr.get, PT.get, PT.set, kof, ai, ev, ev1, evp, b_add, b_sub, b_mul, b_quo, b_rem, b_eql, b_neq, b_lss, b_leq, b_gtr, b_geq, b_seql, b_sneq, setD, resV, resL, res1, args, List.take_zero, List.drop_zero, List.take_nil, List.take_succ_cons, List.drop_succ_cons, Nat.reduceAdd, Nat.reduceLeDiff, reduceIte, Bool.not_true, Bool.not_false, Bool.false_eq_true, CA_some, Option.some.injEq, Nat.zero_add, Nat.mul_one, Nat.add_zero, setL, List.set_cons_zero, List.set_cons_succ, fillC]; rfl)
    ⟨by omega, by omega, Wrote.refl ho.2, fun hp => ⟨bs, hty hp, rfl, by rw [mkd_zero]; exact hel⟩, fun _ => rfl⟩ ?_
  rintro i g h' ⟨hg, hi, hw, hblk, hz0⟩
  simp (disch := omega) only [c64, hl, w64, RR, RP, Ty.agg, Ty.size, Ty.sizes, eq_self, ne_eq, not_true, not_false_iff, reduceCtorEq, List.length_cons, List.length_nil, decide_true, decide_false, true_and, and_true, ite_true, ite_false, PT.full, enter0, setAll, forget, Fr.set, Fr.get, PT.get, PT.set, kof, ai, ev, ev1, evp, b_add, b_sub, b_mul, b_quo, b_rem, b_eql, b_neq, b_lss, b_leq, b_gtr, b_geq, b_seql, b_sneq, setD, resV, resL, res1, args, List.take_zero, List.drop_zero, List.take_nil, List.take_succ_cons, List.drop_succ_cons, Nat.reduceAdd, Nat.reduceLeDiff, reduceIte, Bool.not_true, Bool.not_false, Bool.false_eq_true, CA_some, Option.some.injEq, Nat.zero_add, Nat.mul_one, Nat.add_zero, setL, List.set_cons_zero, List.set_cons_succ, fillC]
  refine BR_dec (fun hlt => ?_) (fun hlt => ?_)
  · have hix : i < xs.length := by omega
    obtain ⟨bs', hb1, hb2, he⟩ := hblk (by omega)
    clear hblk
    obtain ⟨hidS', hidS⟩ := hid (by omega)
    have hsi := sum_take (g := cnE THead) (List.getElem?_eq_getElem hix)
    have hsl := sum_le (g := cnE THead) xs (i + 1)
    have hfit : off + i * 10 + 10 ≤ bs'.length := by
      have := Nat.mul_le_mul_right 10 hix
      rw [Nat.succ_mul] at this
      omega
    have hme : i * 10 + 10 ≤ xs.length * 10 := by
      have := Nat.mul_le_mul_right 10 hix
      rw [Nat.succ_mul] at this
      exact this
    obtain ⟨Si, k1, k2, k3, k4⟩ := he.turn hnd (mkd_get hix)
    rw [part_part hix, hs1] at k1
    obtain ⟨x0, x1, x2, x3, x4, x5, x6, x7, x8, x9, hx⟩ := len_10 k1.size
    rw [hx] at k1
    obtain ⟨pre, post, hpl, rfl⟩ := around hx hfit
    have hat' := hat i hix
    rw [← hpl] at hat'
    have hidlt : id < h'.length := (List.getElem?_eq_some_iff.1 hb1).1
    have hset : ∀ b, (h'.set id b)[id]? = some b := fun b => set_get hidlt
    have hnid : id ∉ Si := fun hm => hidS' (k2 id hm)
    have hoi : Ownd h' Si := ⟨k3, fun j hj => (hw.ownd ho).2 j (hsub j (k2 j hj))⟩
    obtain ⟨p_vs, p_hv, p_q0⟩ := k1.st
    obtain ⟨p_v0, p_r0, p_S0, p_T0, rfl, rfl, p_h0, p_q1⟩ := p_q0.step
    simp only [Ty.size, Ty.sizes, Nat.reduceAdd, Nat.zero_add, List.drop_zero, List.drop_succ_cons, List.take_succ_cons, List.take_zero] at p_h0
    obtain ⟨n0, e0, rfl, rfl, lo0, hi0⟩ := p_h0.int
    simp only [List.cons.injEq, and_true] at e0
    subst e0
    obtain ⟨p_v1, p_r1, p_S1, p_T1, rfl, rfl, p_h1, p_q2⟩ := p_q1.step
    simp only [Ty.size, Ty.sizes, Nat.reduceAdd, Nat.zero_add, List.drop_zero, List.drop_succ_cons, List.take_succ_cons, List.take_zero] at p_h1
    obtain ⟨n1, e1, rfl, rfl, lo1, hi1⟩ := p_h1.int
    simp only [List.cons.injEq, and_true] at e1
    subst e1
    obtain ⟨p_v2, p_r2, p_S2, p_T2, rfl, rfl, p_h2, p_q3⟩ := p_q2.step
    simp only [Ty.size, Ty.sizes, Nat.reduceAdd, Nat.zero_add, List.drop_zero, List.drop_succ_cons, List.take_succ_cons, List.take_zero] at p_h2
    obtain ⟨n2, e2, rfl, rfl, lo2, hi2⟩ := p_h2.int
    simp only [List.cons.injEq, and_true] at e2
    subst e2
    obtain ⟨p_v3, p_r3, p_S3, p_T3, rfl, rfl, p_h3, p_q4⟩ := p_q3.step
    simp only [Ty.size, Ty.sizes, Nat.reduceAdd, Nat.zero_add, List.drop_zero, List.drop_succ_cons, List.take_succ_cons, List.take_zero] at p_h3
    have h3 := p_h3
    obtain ⟨p_v4, p_r4, p_S4, p_T4, rfl, rfl, p_h4, p_q5⟩ := p_q4.step
    simp only [Ty.size, Ty.sizes, Nat.reduceAdd, Nat.zero_add, List.drop_zero, List.drop_succ_cons, List.take_succ_cons, List.take_zero] at p_h4
    have h4 := p_h4
    obtain ⟨p_v5, p_r5, p_S5, p_T5, rfl, rfl, p_h5, p_q6⟩ := p_q5.step
    simp only [Ty.size, Ty.sizes, Nat.reduceAdd, Nat.zero_add, List.drop_zero, List.drop_succ_cons, List.take_succ_cons, List.take_zero] at p_h5
    obtain ⟨p5_vs, p5_hv, p5_q0⟩ := p_h5.st
    obtain ⟨p5_v0, p5_r0, p5_S0, p5_T0, rfl, rfl, p5_h0, p5_q1⟩ := p5_q0.step
    simp only [Ty.size, Ty.sizes, Nat.reduceAdd, Nat.zero_add, List.drop_zero, List.drop_succ_cons, List.take_succ_cons, List.take_zero] at p5_h0
    obtain ⟨n5, e5, rfl, rfl, lo5, hi5⟩ := p5_h0.int
    simp only [List.cons.injEq, and_true] at e5
    subst e5
    obtain ⟨p5_v1, p5_r1, p5_S1, p5_T1, rfl, rfl, p5_h1, p5_q2⟩ := p5_q1.step
    simp only [Ty.size, Ty.sizes, Nat.reduceAdd, Nat.zero_add, List.drop_zero, List.drop_succ_cons, List.take_succ_cons, List.take_zero] at p5_h1
    obtain ⟨n6, e6, rfl, rfl, lo6, hi6⟩ := p5_h1.int
    simp only [List.cons.injEq, and_true] at e6
    subst e6
    obtain ⟨p5_v2, p5_r2, p5_S2, p5_T2, rfl, rfl, p5_h2, p5_q3⟩ := p5_q2.step
    simp only [Ty.size, Ty.sizes, Nat.reduceAdd, Nat.zero_add, List.drop_zero, List.drop_succ_cons, List.take_succ_cons, List.take_zero] at p5_h2
    have h7 := p5_h2
    obtain ⟨p5_v3, p5_r3, p5_S3, p5_T3, rfl, rfl, p5_h3, p5_q4⟩ := p5_q3.step
    simp only [Ty.size, Ty.sizes, Nat.reduceAdd, Nat.zero_add, List.drop_zero, List.drop_succ_cons, List.take_succ_cons, List.take_zero] at p5_h3
    have h8 := p5_h3
    obtain ⟨p5_v4, p5_r4, p5_S4, p5_T4, rfl, rfl, p5_h4, p5_q5⟩ := p5_q4.step
    simp only [Ty.size, Ty.sizes, Nat.reduceAdd, Nat.zero_add, List.drop_zero, List.drop_succ_cons, List.take_succ_cons, List.take_zero] at p5_h4
    have h9 := p5_h4
    obtain ⟨_, rfl, rfl⟩ := p5_q5
    subst p5_hv
    obtain ⟨_, rfl, rfl⟩ := p_q6
    have hxi : xs[i] = .r [.i n0, .i n1, .i n2, p_v3, p_v4, .r [.i n5, .i n6, p5_v2, p5_v3, p5_v4]] := p_hv
    rw [hxi] at hsi
    simp only [List.nil_append, List.append_nil] at k2 k3 hnid hoi k4
    have hcne : cnE THead (.r [.i n0, .i n1, .i n2, p_v3, p_v4, .r [.i n5, .i n6, p5_v2, p5_v3, p5_v4]]) = (1 + (1 + (1 + (cnE (.sl (.int .u8)) p_v3 + (cnE (.sl (.int .u8)) p_v4 + ((1 + (1 + (cnE (.sl (.int .u8)) p5_v2 + (cnE (.sl (.int .u8)) p5_v3 + (cnE (.sl (.sl (.int .u8))) p5_v4 + 0))))) + 0)))))) := rfl
    rw [hcne] at hsi
    obtain ⟨o3, ho3, y3, yy3⟩ := hoi.split
    obtain ⟨o4, ho4, y4, yy4⟩ := ho3.split
    obtain ⟨o7, ho7, y7, yy7⟩ := ho4.split
    obtain ⟨o8, ho8, y8, yy8⟩ := ho7.split
    have o9 := ho8
    have hcs : ∀ ty b, H.cells (h'.set id (.own ty b)) id = some b := fun ty b => cells_own (hset _)
    have hcb : h'.cells id = _ := cells_own hb1
    simp (disch := omega) only [KC_eq, c64, hl, hat', hb1, hset, hcs, hcb, List.set_set, pre_get3, pre_set3, pre_get2, pre_set2, pre_get, pre_get0, pre_set, pre_set0, List.length_append, List.cons_append, List.nil_append, List.length_set, ifT, w64, cnE_sl, cast1, RR, RP, Ty.agg, Ty.size, Ty.sizes, eq_self, ne_eq, not_true, not_false_iff, reduceCtorEq, List.length_cons, List.length_nil, decide_true, decide_false, true_and, and_true, ite_true, ite_false, PT.full, enter0, setAll, forget, Fr.set, Fr.get, PT.get, PT.set, kof, ai, ev, ev1, evp, b_add, b_sub, b_mul, b_quo, b_rem, b_eql, b_neq, b_lss, b_leq, b_gtr, b_geq, b_seql, b_sneq, setD, resV, resL, res1, args, List.take_zero, List.drop_zero, List.take_nil, List.take_succ_cons, List.drop_succ_cons, Nat.reduceAdd, Nat.reduceLeDiff, reduceIte, Bool.not_true, Bool.not_false, Bool.false_eq_true, CA_some, Option.some.injEq, Nat.zero_add, Nat.mul_one, Nat.add_zero, setL, List.set_cons_zero, List.set_cons_succ, fillC]
    have hn3 : id ∉ p_S3 := fun hm => hnid (by simp [hm])
    have hn4 : id ∉ p_S4 := fun hm => hnid (by simp [hm])
    have hn7 : id ∉ p5_S2 := fun hm => hnid (by simp [hm])
    have hn8 : id ∉ p5_S3 := fun hm => hnid (by simp [hm])
    have hn9 : id ∉ p5_S4 := fun hm => hnid (by simp [hm])
    refine MkOk.go mk_ByteS (h3.set hn3) (Ownd.set o3 hidlt) (k := ((((k + ((xs.take i).map (cnE THead)).sum) + 1) + 1) + 1)) (by rw [cnE_sl]; omega) (fun g3 w3 z3 => ?_)
    have hb_3 := w3.2.1 id hn3
    simp only [hb1, hset, hcs, hcb] at hb_3
    have hlt_3 : id < g3.length := (List.getElem?_eq_some_iff.1 hb_3).1
    have hset_3 : ∀ b, (g3.set id b)[id]? = some b := fun b => set_get hlt_3
    have hcs_3 : ∀ ty b, H.cells (g3.set id (.own ty b)) id = some b := fun ty b => cells_own (hset_3 _)
    have hcb_3 : g3.cells id = _ := cells_own hb_3
    simp (disch := omega) only [KC_eq, c64, hl, hat', hb_3, hset_3, hcs_3, hcb_3, List.set_set, pre_get3, pre_set3, pre_get2, pre_set2, pre_get, pre_get0, pre_set, pre_set0, List.length_append, List.cons_append, List.nil_append, List.length_set, ifT, w64, cnE_sl, cast1, RR, RP, Ty.agg, Ty.size, Ty.sizes, eq_self, ne_eq, not_true, not_false_iff, reduceCtorEq, List.length_cons, List.length_nil, decide_true, decide_false, true_and, and_true, ite_true, ite_false, PT.full, enter0, setAll, forget, Fr.set, Fr.get, PT.get, PT.set, kof, ai, ev, ev1, evp, b_add, b_sub, b_mul, b_quo, b_rem, b_eql, b_neq, b_lss, b_leq, b_gtr, b_geq, b_seql, b_sneq, setD, resV, resL, res1, args, List.take_zero, List.drop_zero, List.take_nil, List.take_succ_cons, List.drop_succ_cons, Nat.reduceAdd, Nat.reduceLeDiff, reduceIte, Bool.not_true, Bool.not_false, Bool.false_eq_true, CA_some, Option.some.injEq, Nat.zero_add, Nat.mul_one, Nat.add_zero, setL, List.set_cons_zero, List.set_cons_succ, fillC]
    refine MkOk.go mk_ByteS ((h4.set hn4).wrote w3 (fun i hi => yy3 i (by simp [hi]))) (w3.ownd (Ownd.set o4 hidlt)) (k := (((((k + ((xs.take i).map (cnE THead)).sum) + 1) + 1) + 1) + cnE (.sl (.int .u8)) p_v3)) (by rw [cnE_sl]; omega) (fun g4 w4 z4 => ?_)
    have hb_4 := w4.2.1 id hn4
    simp only [hb_3, hset_3, hcs_3, hcb_3] at hb_4
    have hlt_4 : id < g4.length := (List.getElem?_eq_some_iff.1 hb_4).1
    have hset_4 : ∀ b, (g4.set id b)[id]? = some b := fun b => set_get hlt_4
    have hcs_4 : ∀ ty b, H.cells (g4.set id (.own ty b)) id = some b := fun ty b => cells_own (hset_4 _)
    have hcb_4 : g4.cells id = _ := cells_own hb_4
    simp (disch := omega) only [KC_eq, c64, hl, hat', hb_4, hset_4, hcs_4, hcb_4, List.set_set, pre_get3, pre_set3, pre_get2, pre_set2, pre_get, pre_get0, pre_set, pre_set0, List.length_append, List.cons_append, List.nil_append, List.length_set, ifT, w64, cnE_sl, cast1, RR, RP, Ty.agg, Ty.size, Ty.sizes, eq_self, ne_eq, not_true, not_false_iff, reduceCtorEq, List.length_cons, List.length_nil, decide_true, decide_false, true_and, and_true, ite_true, ite_false, PT.full, enter0, setAll, forget, Fr.set, Fr.get, PT.get, PT.set, kof, ai, ev, ev1, evp, b_add, b_sub, b_mul, b_quo, b_rem, b_eql, b_neq, b_lss, b_leq, b_gtr, b_geq, b_seql, b_sneq, setD, resV, resL, res1, args, List.take_zero, List.drop_zero, List.take_nil, List.take_succ_cons, List.drop_succ_cons, Nat.reduceAdd, Nat.reduceLeDiff, reduceIte, Bool.not_true, Bool.not_false, Bool.false_eq_true, CA_some, Option.some.injEq, Nat.zero_add, Nat.mul_one, Nat.add_zero, setL, List.set_cons_zero, List.set_cons_succ, fillC]
    refine MkOk.go mk_ByteS ((((h7.set hn7).wrote w3 (fun i hi => yy3 i (by simp [hi]))).wrote w4 (fun i hi => yy4 i (by simp [hi]))).set hn7) (Ownd.set (w4.ownd (w3.ownd (Ownd.set o7 hidlt))) hlt_4) (k := ((((((((k + ((xs.take i).map (cnE THead)).sum) + 1) + 1) + 1) + cnE (.sl (.int .u8)) p_v3) + cnE (.sl (.int .u8)) p_v4) + 1) + 1)) (by rw [cnE_sl]; omega) (fun g7 w7 z7 => ?_)
    have hb_7 := w7.2.1 id hn7
    simp only [hb_4, hset_4, hcs_4, hcb_4] at hb_7
    have hlt_7 : id < g7.length := (List.getElem?_eq_some_iff.1 hb_7).1
    have hset_7 : ∀ b, (g7.set id b)[id]? = some b := fun b => set_get hlt_7
    have hcs_7 : ∀ ty b, H.cells (g7.set id (.own ty b)) id = some b := fun ty b => cells_own (hset_7 _)
    have hcb_7 : g7.cells id = _ := cells_own hb_7
    simp (disch := omega) only [KC_eq, c64, hl, hat', hb_7, hset_7, hcs_7, hcb_7, List.set_set, pre_get3, pre_set3, pre_get2, pre_set2, pre_get, pre_get0, pre_set, pre_set0, List.length_append, List.cons_append, List.nil_append, List.length_set, ifT, w64, cnE_sl, cast1, RR, RP, Ty.agg, Ty.size, Ty.sizes, eq_self, ne_eq, not_true, not_false_iff, reduceCtorEq, List.length_cons, List.length_nil, decide_true, decide_false, true_and, and_true, ite_true, ite_false, PT.full, enter0, setAll, forget, Fr.set, Fr.get, PT.get, PT.set, kof, ai, ev, ev1, evp, b_add, b_sub, b_mul, b_quo, b_rem, b_eql, b_neq, b_lss, b_leq, b_gtr, b_geq, b_seql, b_sneq, setD, resV, resL, res1, args, List.take_zero, List.drop_zero, List.take_nil, List.take_succ_cons, List.drop_succ_cons, Nat.reduceAdd, Nat.reduceLeDiff, reduceIte, Bool.not_true, Bool.not_false, Bool.false_eq_true, CA_some, Option.some.injEq, Nat.zero_add, Nat.mul_one, Nat.add_zero, setL, List.set_cons_zero, List.set_cons_succ, fillC]
    refine MkOk.go mk_ByteS (((((h8.set hn8).wrote w3 (fun i hi => yy3 i (by simp [hi]))).wrote w4 (fun i hi => yy4 i (by simp [hi]))).set hn8).wrote w7 (fun i hi => yy7 i (by simp [hi]))) (w7.ownd (Ownd.set (w4.ownd (w3.ownd (Ownd.set o8 hidlt))) hlt_4)) (k := (((((((((k + ((xs.take i).map (cnE THead)).sum) + 1) + 1) + 1) + cnE (.sl (.int .u8)) p_v3) + cnE (.sl (.int .u8)) p_v4) + 1) + 1) + cnE (.sl (.int .u8)) p5_v2)) (by rw [cnE_sl]; omega) (fun g8 w8 z8 => ?_)
    have hb_8 := w8.2.1 id hn8
    simp only [hb_7, hset_7, hcs_7, hcb_7] at hb_8
    have hlt_8 : id < g8.length := (List.getElem?_eq_some_iff.1 hb_8).1
    have hset_8 : ∀ b, (g8.set id b)[id]? = some b := fun b => set_get hlt_8
    have hcs_8 : ∀ ty b, H.cells (g8.set id (.own ty b)) id = some b := fun ty b => cells_own (hset_8 _)
    have hcb_8 : g8.cells id = _ := cells_own hb_8
    simp (disch := omega) only [KC_eq, c64, hl, hat', hb_8, hset_8, hcs_8, hcb_8, List.set_set, pre_get3, pre_set3, pre_get2, pre_set2, pre_get, pre_get0, pre_set, pre_set0, List.length_append, List.cons_append, List.nil_append, List.length_set, ifT, w64, cnE_sl, cast1, RR, RP, Ty.agg, Ty.size, Ty.sizes, eq_self, ne_eq, not_true, not_false_iff, reduceCtorEq, List.length_cons, List.length_nil, decide_true, decide_false, true_and, and_true, ite_true, ite_false, PT.full, enter0, setAll, forget, Fr.set, Fr.get, PT.get, PT.set, kof, ai, ev, ev1, evp, b_add, b_sub, b_mul, b_quo, b_rem, b_eql, b_neq, b_lss, b_leq, b_gtr, b_geq, b_seql, b_sneq, setD, resV, resL, res1, args, List.take_zero, List.drop_zero, List.take_nil, List.take_succ_cons, List.drop_succ_cons, Nat.reduceAdd, Nat.reduceLeDiff, reduceIte, Bool.not_true, Bool.not_false, Bool.false_eq_true, CA_some, Option.some.injEq, Nat.zero_add, Nat.mul_one, Nat.add_zero, setL, List.set_cons_zero, List.set_cons_succ, fillC]
    refine MkOk.go mk_ByteSS ((((((h9.set hn9).wrote w3 (fun i hi => yy3 i (by simp [hi]))).wrote w4 (fun i hi => yy4 i (by simp [hi]))).set hn9).wrote w7 (fun i hi => yy7 i (by simp [hi]))).wrote w8 (fun i hi => yy8 i (by simp [hi]))) (w8.ownd (w7.ownd (Ownd.set (w4.ownd (w3.ownd (Ownd.set o9 hidlt))) hlt_4))) (k := ((((((((((k + ((xs.take i).map (cnE THead)).sum) + 1) + 1) + 1) + cnE (.sl (.int .u8)) p_v3) + cnE (.sl (.int .u8)) p_v4) + 1) + 1) + cnE (.sl (.int .u8)) p5_v2) + cnE (.sl (.int .u8)) p5_v3)) (by rw [cnE_sl]; omega) (fun g9 w9 z9 => ?_)
    have hb_9 := w9.2.1 id hn9
    simp only [hb_8, hset_8, hcs_8, hcb_8] at hb_9
    have hlt_9 : id < g9.length := (List.getElem?_eq_some_iff.1 hb_9).1
    have hset_9 : ∀ b, (g9.set id b)[id]? = some b := fun b => set_get hlt_9
    have hcs_9 : ∀ ty b, H.cells (g9.set id (.own ty b)) id = some b := fun ty b => cells_own (hset_9 _)
    have hcb_9 : g9.cells id = _ := cells_own hb_9
    simp (disch := omega) only [KC_eq, c64, hl, hat', hb_9, hset_9, hcs_9, hcb_9, List.set_set, pre_get3, pre_set3, pre_get2, pre_set2, pre_get, pre_get0, pre_set, pre_set0, List.length_append, List.cons_append, List.nil_append, List.length_set, ifT, w64, cnE_sl, cast1, RR, RP, Ty.agg, Ty.size, Ty.sizes, eq_self, ne_eq, not_true, not_false_iff, reduceCtorEq, List.length_cons, List.length_nil, decide_true, decide_false, true_and, and_true, ite_true, ite_false, PT.full, enter0, setAll, forget, Fr.set, Fr.get, PT.get, PT.set, kof, ai, ev, ev1, evp, b_add, b_sub, b_mul, b_quo, b_rem, b_eql, b_neq, b_lss, b_leq, b_gtr, b_geq, b_seql, b_sneq, setD, resV, resL, res1, args, List.take_zero, List.drop_zero, List.take_nil, List.take_succ_cons, List.drop_succ_cons, Nat.reduceAdd, Nat.reduceLeDiff, reduceIte, Bool.not_true, Bool.not_false, Bool.false_eq_true, CA_some, Option.some.injEq, Nat.zero_add, Nat.mul_one, Nat.add_zero, setL, List.set_cons_zero, List.set_cons_succ, fillC]
    have wF0 : Wrote h' h' (id :: (p_S3 ++ (p_S4 ++ (p5_S2 ++ (p5_S3 ++ (p5_S4)))))) := Wrote.refl (fun j hj => by
      rcases List.mem_cons.1 hj with rfl | hj
      · exact ⟨_, _, hb1⟩
      · exact hoi.2 j hj)
    have hmkE : mkE THead xs[i] (k + ((xs.take i).map (cnE THead)).sum) = .r [.i (IntKind.i64.wrap (((k + ((xs.take i).map (cnE THead)).sum) : Nat) : Int)), .i (IntKind.i64.wrap ((((k + ((xs.take i).map (cnE THead)).sum) + 1) : Nat) : Int)), .i (IntKind.i64.wrap (((((k + ((xs.take i).map (cnE THead)).sum) + 1) + 1) : Nat) : Int)), mkE (.sl (.int .u8)) p_v3 (((((k + ((xs.take i).map (cnE THead)).sum) + 1) + 1) + 1)), mkE (.sl (.int .u8)) p_v4 ((((((k + ((xs.take i).map (cnE THead)).sum) + 1) + 1) + 1) + cnE (.sl (.int .u8)) p_v3)), .r [.i (IntKind.i64.wrap ((((((((k + ((xs.take i).map (cnE THead)).sum) + 1) + 1) + 1) + cnE (.sl (.int .u8)) p_v3) + cnE (.sl (.int .u8)) p_v4) : Nat) : Int)), .i (IntKind.i64.wrap (((((((((k + ((xs.take i).map (cnE THead)).sum) + 1) + 1) + 1) + cnE (.sl (.int .u8)) p_v3) + cnE (.sl (.int .u8)) p_v4) + 1) : Nat) : Int)), mkE (.sl (.int .u8)) p5_v2 (((((((((k + ((xs.take i).map (cnE THead)).sum) + 1) + 1) + 1) + cnE (.sl (.int .u8)) p_v3) + cnE (.sl (.int .u8)) p_v4) + 1) + 1)), mkE (.sl (.int .u8)) p5_v3 ((((((((((k + ((xs.take i).map (cnE THead)).sum) + 1) + 1) + 1) + cnE (.sl (.int .u8)) p_v3) + cnE (.sl (.int .u8)) p_v4) + 1) + 1) + cnE (.sl (.int .u8)) p5_v2)), mkE (.sl (.sl (.int .u8))) p5_v4 (((((((((((k + ((xs.take i).map (cnE THead)).sum) + 1) + 1) + 1) + cnE (.sl (.int .u8)) p_v3) + cnE (.sl (.int .u8)) p_v4) + 1) + 1) + cnE (.sl (.int .u8)) p5_v2) + cnE (.sl (.int .u8)) p5_v3))]] := by rw [hxi]; rfl
    simp only [mkE_sl] at z3 z4 z7 z8 z9
    have wF := (((((((wF0.set (by simp) hidlt).more w3 (fun i hi => by simp [hi])).more w4 (fun i hi => by simp [hi])).set (by simp) hlt_4).more w7 (fun i hi => by simp [hi])).more w8 (fun i hi => by simp [hi])).more w9 (fun i hi => by simp [hi]))
    have hnew := Rp.mkSt (Rs.mk (Rp.mkNat (n := (k + ((xs.take i).map (cnE THead)).sum)) (by omega)) (Rs.mk (Rp.mkNat (n := ((k + ((xs.take i).map (cnE THead)).sum) + 1)) (by omega)) (Rs.mk (Rp.mkNat (n := (((k + ((xs.take i).map (cnE THead)).sum) + 1) + 1)) (by omega)) (Rs.mk (((((z3.wrote w4 (fun i hi hn => y3 i hi (by simp [hn]))).set hn3).wrote w7 (fun i hi hn => y3 i hi (by simp [hn]))).wrote w8 (fun i hi hn => y3 i hi (by simp [hn]))).wrote w9 (fun i hi hn => y3 i hi (by simp [hn]))) (Rs.mk ((((z4.set hn4).wrote w7 (fun i hi hn => y4 i hi (by simp [hn]))).wrote w8 (fun i hi hn => y4 i hi (by simp [hn]))).wrote w9 (fun i hi hn => y4 i hi (by simp [hn]))) (Rs.mk (Rp.mkSt (Rs.mk (Rp.mkNat (n := ((((((k + ((xs.take i).map (cnE THead)).sum) + 1) + 1) + 1) + cnE (.sl (.int .u8)) p_v3) + cnE (.sl (.int .u8)) p_v4)) (by omega)) (Rs.mk (Rp.mkNat (n := (((((((k + ((xs.take i).map (cnE THead)).sum) + 1) + 1) + 1) + cnE (.sl (.int .u8)) p_v3) + cnE (.sl (.int .u8)) p_v4) + 1)) (by omega)) (Rs.mk ((z7.wrote w8 (fun i hi hn => y7 i hi (by simp [hn]))).wrote w9 (fun i hi hn => y7 i hi (by simp [hn]))) (Rs.mk (z8.wrote w9 (fun i hi hn => y8 i hi (by simp [hn]))) (Rs.mk z9 Rs.nil)))))) Rs.nil))))))
    simp only [List.cons_append, List.nil_append, List.append_nil] at hnew
    rw [← hmkE] at hnew
    have hE := k4 _ _ _ (fun j hj hn => cells_same (wF.2.1 j (fun hm => by
      rcases List.mem_cons.1 hm with rfl | hm
      · exact hidS' hj
      · exact hn hm))) hnew
    rw [mkd_next hix] at hE
    refine ⟨i + 1, xs.length - (i + 1), by omega, ?_, rfl, by omega, hw.more wF (fun j hj => ?_), fun _ => ⟨pre ++ C.int .i64 (((k + ((xs.take i).map (cnE THead)).sum) : Nat) : Int) :: C.int .i64 ((((k + ((xs.take i).map (cnE THead)).sum) + 1) : Nat) : Int) :: C.int .i64 (((((k + ((xs.take i).map (cnE THead)).sum) + 1) + 1) : Nat) : Int) :: x3 :: x4 :: C.int .i64 ((((((((k + ((xs.take i).map (cnE THead)).sum) + 1) + 1) + 1) + cnE (.sl (.int .u8)) p_v3) + cnE (.sl (.int .u8)) p_v4) : Nat) : Int) :: C.int .i64 (((((((((k + ((xs.take i).map (cnE THead)).sum) + 1) + 1) + 1) + cnE (.sl (.int .u8)) p_v3) + cnE (.sl (.int .u8)) p_v4) + 1) : Nat) : Int) :: x7 :: x8 :: x9 :: post, by first | exact rfl | exact hb_9, ?_, ?_⟩, fun e => by omega⟩
    · have e1 : k + ((xs.take (i + 1)).map (cnE THead)).sum = (((((((((((k + ((xs.take i).map (cnE THead)).sum) + 1) + 1) + 1) + cnE (.sl (.int .u8)) p_v3) + cnE (.sl (.int .u8)) p_v4) + 1) + 1) + cnE (.sl (.int .u8)) p5_v2) + cnE (.sl (.int .u8)) p5_v3) + cnE (.sl (.sl (.int .u8))) p5_v4) := by omega
      rw [e1]
    · rcases List.mem_cons.1 hj with rfl | hj
      · exact hidS
      · exact hsub j (k2 j hj)
    · rw [← hb2]; simp
    · have ht := turned (l := [C.int .i64 n0, C.int .i64 n1, C.int .i64 n2, x3, x4, C.int .i64 n5, C.int .i64 n6, x7, x8, x9]) (l' := [C.int .i64 (((k + ((xs.take i).map (cnE THead)).sum) : Nat) : Int), C.int .i64 ((((k + ((xs.take i).map (cnE THead)).sum) + 1) : Nat) : Int), C.int .i64 (((((k + ((xs.take i).map (cnE THead)).sum) + 1) + 1) : Nat) : Int), x3, x4, C.int .i64 ((((((((k + ((xs.take i).map (cnE THead)).sum) + 1) + 1) + 1) + cnE (.sl (.int .u8)) p_v3) + cnE (.sl (.int .u8)) p_v4) : Nat) : Int), C.int .i64 (((((((((k + ((xs.take i).map (cnE THead)).sum) + 1) + 1) + 1) + cnE (.sl (.int .u8)) p_v3) + cnE (.sl (.int .u8)) p_v4) + 1) : Nat) : Int), x7, x8, x9]) (post := post) hpl rfl (m := xs.length * 10) (by simpa using hme)
      rw [hs1] at hE
      rw [← ht] at hE
      exact hE
  · simp (disch := omega) only [c64, RR, RP, Ty.agg, Ty.size, Ty.sizes, eq_self, ne_eq, not_true, not_false_iff, reduceCtorEq, List.length_cons, List.length_nil, decide_true, decide_false, true_and, and_true, ite_true, ite_false, PT.full, enter0, setAll, forget, Fr.set, Fr.get, PT.get, PT.set, kof, ai, ev, ev1, evp, b_add, b_sub, b_mul, b_quo, b_rem, b_eql, b_neq, b_lss, b_leq, b_gtr, b_geq, b_seql, b_sneq, setD, resV, resL, res1, args, List.take_zero, List.drop_zero, List.take_nil, List.take_succ_cons, List.drop_succ_cons, Nat.reduceAdd, Nat.reduceLeDiff, reduceIte, Bool.not_true, Bool.not_false, Bool.false_eq_true, CA_some, Option.some.injEq, Nat.zero_add, Nat.mul_one, Nat.add_zero, setL, List.set_cons_zero, List.set_cons_succ, fillC]
    have hi' : i = xs.length := by omega
    subst hi'
    rw [List.take_length]
    refine ⟨rfl, hw, ?_⟩
    by_cases hp : 0 < xs.length
    · obtain ⟨bs', hb1, hb2, he⟩ := hblk hp
      rw [mkd_all] at he
      refine ⟨_, rfl, ?_, .inr ⟨id, off, bs', S', _, ?_, cells_own hb1, ?_, ?_, ?_, .inl rfl⟩⟩
      · rw [mkL_len]; simp only [maxLen]; omega
      · rw [mkL_len]; rw [(hce hp).2]
      · rw [mkL_len, hb2, hs1]; exact hbs
      · rcases hS with e | ⟨e, _⟩
        · exact e
        · rw [e] at hp; simp at hp
      · rw [mkL_len]; exact he
    · have hx : xs = [] := List.eq_nil_of_length_eq_zero (by omega)
      subst hx
      rw [hz0 rfl]
      exact hv
/-- laws.markForest -/
def c55 : AF := ⟨2, 4, [.tmp 4], (.seq (.ops [.i (.lbox 2 (.s 0)), .i (.mov 4 (.c (.val false [.int .i64 0])))]) (.seq (.ops [.i (.fad 5 (.s 2) 5), .i (.ldl 6 2 (.s 5) 1 false), .i (.mov 7 (.s 1)), .i (.call 9 64 false [(.s 6), (.s 7)]), .i (.mov 1 (.s 8))]) (.seq (.ops [.i (.mov 9 (.s 1)), .i (.mov 4 (.s 9))]) .ret)))⟩
theorem k55 : cd 55 = some c55 := by kernel_rfl
theorem mk_Forest : MkOk cd 55 TForest := by
  intro h cs v S k hv ho hk
  obtain ⟨vs, rfl, q0⟩ := hv.st
  obtain ⟨v0, r0, S0, T0, rfl, rfl, h0, q1⟩ := q0.step
  obtain ⟨v1, r1, S1, T1, rfl, rfl, h1, q2⟩ := q1.step
  obtain ⟨c1, e1⟩ := h1.one rfl
  rw [e1] at h1
  obtain ⟨_, rfl, rfl⟩ := q2
  have hsz : cs.length = 6 := hv.size
  simp only [Ty.size, Ty.sizes, Nat.reduceAdd, Nat.zero_add, List.drop_zero] at e1 hsz h0
  have f0 := cnT_fl TLimits v0 rfl
  have m0 := fun n => mkT_fl TLimits v0 n rfl
  have hcn : cnT TForest (.r [v0, v1]) = (0 + (cnT (.sl THead) v1 + 0)) := by rw [show cnT TForest (.r [v0, v1]) = (cnT TLimits v0 + (cnT (.sl THead) v1 + 0)) from rfl, f0]
  have hmk : mkT TForest (.r [v0, v1]) k = .r [v0, mkT (.sl THead) v1 (k)] := by rw [show mkT TForest (.r [v0, v1]) k = .r [mkT TLimits v0 (k), mkT (.sl THead) v1 (k + cnT TLimits v0)] from rfl, f0, m0]; rfl
  rw [hmk]
  rw [hcn] at hk ⊢
  obtain ⟨rfl, _⟩ := h0.flh (h' := h) _ rfl
  simp only [List.nil_append, List.append_nil] at ho ⊢
  have o1 := ho
  refine WS_enter k55 rfl ?_
  simp (disch := omega) only [KC_eq, c55, e1, hsz, ifT, w64, RR, RP, Ty.agg, Ty.size, Ty.sizes, eq_self, ne_eq, not_true, not_false_iff, reduceCtorEq, List.length_cons, List.length_nil, decide_true, decide_false, true_and, and_true, ite_true, ite_false, PT.full, enter0, setAll, forget, Fr.set, Fr.get, PT.get, PT.set, kof, ai, ev, ev1, evp, b_add, b_sub, b_mul, b_quo, b_rem, b_eql, b_neq, b_lss, b_leq, b_gtr, b_geq, b_seql, b_sneq, setD, resV, resL, res1, args, List.take_zero, List.drop_zero, List.take_nil, List.take_succ_cons, List.drop_succ_cons, Nat.reduceAdd, Nat.reduceLeDiff, reduceIte, Bool.not_true, Bool.not_false, Bool.false_eq_true, CA_some, Option.some.injEq, Nat.zero_add, Nat.mul_one, Nat.add_zero, setL, List.set_cons_zero, List.set_cons_succ, fillC]
  refine MkOk.go mk_HeadS h1 o1 (k := k) (by omega) (fun g1 w1 z1 => ?_)
  simp (disch := omega) only [KC_eq, c55, e1, hsz, ifT, w64, RR, RP, Ty.agg, Ty.size, Ty.sizes, eq_self, ne_eq, not_true, not_false_iff, reduceCtorEq, List.length_cons, List.length_nil, decide_true, decide_false, true_and, and_true, ite_true, ite_false, PT.full, enter0, setAll, forget, Fr.set, Fr.get, PT.get, PT.set, kof, ai, ev, ev1, evp, b_add, b_sub, b_mul, b_quo, b_rem, b_eql, b_neq, b_lss, b_leq, b_gtr, b_geq, b_seql, b_sneq, setD, resV, resL, res1, args, List.take_zero, List.drop_zero, List.take_nil, List.take_succ_cons, List.drop_succ_cons, Nat.reduceAdd, Nat.reduceLeDiff, reduceIte, Bool.not_true, Bool.not_false, Bool.false_eq_true, CA_some, Option.some.injEq, Nat.zero_add, Nat.mul_one, Nat.add_zero, setL, List.set_cons_zero, List.set_cons_succ, fillC]
  have fin : Rs g1 [TLimits, (.sl THead)] (cs.drop 0) [v0, mkT (.sl THead) v1 (k)] _ := (Rs.unstep (o := 0) (h0.flh _ rfl).2 (Rs.unstep (o := 5) (Rp.cs_at e1 z1) (Rs.fin (Nat.le_of_eq hsz))))
  simp only [List.nil_append, List.append_nil, List.drop_zero] at fin
  have wr := ((Wrote.refl ho.2).more w1 (fun i hi => by simp [hi]))
  first
    | exact ⟨wr, _, rfl, fin⟩
    | (refine ⟨?_, wr, _, rfl, fin⟩
       congr 3
       omega)
/-- laws.markQc -/
def c73 : AF := ⟨2, 5, [.tmp 4], (.seq (.ops [.i (.lbox 2 (.s 0)), .i (.mov 4 (.c (.val false [.int .i64 0])))]) (.seq (.ops [.i (.fad 5 (.s 2) 2), .i (.ldl 6 2 (.s 5) 1 false), .i (.mov 7 (.s 1)), .i (.call 9 56 false [(.s 6), (.s 7)]), .i (.mov 1 (.s 8))]) (.seq (.ops [.i (.fad 9 (.s 2) 3), .i (.ldl 10 2 (.s 9) 1 false), .i (.mov 11 (.s 1)), .i (.call 13 56 false [(.s 10), (.s 11)]), .i (.mov 1 (.s 12))]) (.seq (.ops [.i (.fad 13 (.s 2) 4), .i (.ldl 14 2 (.s 13) 1 false), .i (.mov 15 (.s 1)), .i (.call 17 31 false [(.s 14), (.s 15)]), .i (.mov 1 (.s 16))]) (.seq (.ops [.i (.mov 17 (.s 1)), .i (.mov 4 (.s 17))]) .ret)))))⟩
theorem k73 : cd 73 = some c73 := by kernel_rfl
theorem mk_Qc : MkOk cd 73 TQc := by
  intro h cs v S k hv ho hk
  obtain ⟨vs, rfl, q0⟩ := hv.st
  obtain ⟨v0, r0, S0, T0, rfl, rfl, h0, q1⟩ := q0.step
  obtain ⟨n0, e0, rfl, rfl, lo0, hi0⟩ := h0.int
  obtain ⟨v1, r1, S1, T1, rfl, rfl, h1, q2⟩ := q1.step
  obtain ⟨n1, e1, rfl, rfl, lo1, hi1⟩ := h1.int
  obtain ⟨v2, r2, S2, T2, rfl, rfl, h2, q3⟩ := q2.step
  obtain ⟨c2, e2⟩ := h2.one rfl
  rw [e2] at h2
  obtain ⟨v3, r3, S3, T3, rfl, rfl, h3, q4⟩ := q3.step
  obtain ⟨c3, e3⟩ := h3.one rfl
  rw [e3] at h3
  obtain ⟨v4, r4, S4, T4, rfl, rfl, h4, q5⟩ := q4.step
  obtain ⟨c4, e4⟩ := h4.one rfl
  rw [e4] at h4
  obtain ⟨_, rfl, rfl⟩ := q5
  have hsz : cs.length = 5 := hv.size
  simp only [Ty.size, Ty.sizes, Nat.reduceAdd, Nat.zero_add, List.drop_zero] at e0 e1 e2 e3 e4 hsz
  have hcn : cnT TQc (.r [.i n0, .i n1, v2, v3, v4]) = (0 + (0 + (cnT (.sl (.int .u8)) v2 + (cnT (.sl (.int .u8)) v3 + (cnT (.sl (.sl (.int .u8))) v4 + 0))))) := rfl
  have hmk : mkT TQc (.r [.i n0, .i n1, v2, v3, v4]) k = .r [.i n0, .i n1, mkT (.sl (.int .u8)) v2 (k), mkT (.sl (.int .u8)) v3 (k + cnT (.sl (.int .u8)) v2), mkT (.sl (.sl (.int .u8))) v4 (k + cnT (.sl (.int .u8)) v2 + cnT (.sl (.int .u8)) v3)] := rfl
  rw [hmk]
  rw [hcn] at hk ⊢
  simp only [List.nil_append, List.append_nil] at ho ⊢
  obtain ⟨o2, ho2, x2, xx2⟩ := ho.split
  obtain ⟨o3, ho3, x3, xx3⟩ := ho2.split
  have o4 := ho3
  refine WS_enter k73 rfl ?_
  simp (disch := omega) only [KC_eq, c73, e0, e1, e2, e3, e4, hsz, ifT, w64, RR, RP, Ty.agg, Ty.size, Ty.sizes, eq_self, ne_eq, not_true, not_false_iff, reduceCtorEq, List.length_cons, List.length_nil, decide_true, decide_false, true_and, and_true, ite_true, ite_false, PT.full, enter0, setAll, forget, Fr.set, Fr.get, PT.get, PT.set, kof, ai, ev, ev1, evp, b_add, b_sub, b_mul, b_quo, b_rem, b_eql, b_neq, b_lss, b_leq, b_gtr, b_geq, b_seql, b_sneq, setD, resV, resL, res1, args, List.take_zero, List.drop_zero, List.take_nil, List.take_succ_cons, List.drop_succ_cons, Nat.reduceAdd, Nat.reduceLeDiff, reduceIte, Bool.not_true, Bool.not_false, Bool.false_eq_true, CA_some, Option.some.injEq, Nat.zero_add, Nat.mul_one, Nat.add_zero, setL, List.set_cons_zero, List.set_cons_succ, fillC]
  refine MkOk.go mk_ByteS h2 o2 (k := k) (by omega) (fun g2 w2 z2 => ?_)
  simp (disch := omega) only [KC_eq, c73, e0, e1, e2, e3, e4, hsz, ifT, w64, RR, RP, Ty.agg, Ty.size, Ty.sizes, eq_self, ne_eq, not_true, not_false_iff, reduceCtorEq, List.length_cons, List.length_nil, decide_true, decide_false, true_and, and_true, ite_true, ite_false, PT.full, enter0, setAll, forget, Fr.set, Fr.get, PT.get, PT.set, kof, ai, ev, ev1, evp, b_add, b_sub, b_mul, b_quo, b_rem, b_eql, b_neq, b_lss, b_leq, b_gtr, b_geq, b_seql, b_sneq, setD, resV, resL, res1, args, List.take_zero, List.drop_zero, List.take_nil, List.take_succ_cons, List.drop_succ_cons, Nat.reduceAdd, Nat.reduceLeDiff, reduceIte, Bool.not_true, Bool.not_false, Bool.false_eq_true, CA_some, Option.some.injEq, Nat.zero_add, Nat.mul_one, Nat.add_zero, setL, List.set_cons_zero, List.set_cons_succ, fillC]
  refine MkOk.go mk_ByteS (h3.wrote w2 (fun i hi => xx2 i (by simp [hi]))) (w2.ownd o3) (k := k + cnT (.sl (.int .u8)) v2) (by omega) (fun g3 w3 z3 => ?_)
  simp (disch := omega) only [KC_eq, c73, e0, e1, e2, e3, e4, hsz, ifT, w64, RR, RP, Ty.agg, Ty.size, Ty.sizes, eq_self, ne_eq, not_true, not_false_iff, reduceCtorEq, List.length_cons, List.length_nil, decide_true, decide_false, true_and, and_true, ite_true, ite_false, PT.full, enter0, setAll, forget, Fr.set, Fr.get, PT.get, PT.set, kof, ai, ev, ev1, evp, b_add, b_sub, b_mul, b_quo, b_rem, b_eql, b_neq, b_lss, b_leq, b_gtr, b_geq, b_seql, b_sneq, setD, resV, resL, res1, args, List.take_zero, List.drop_zero, List.take_nil, List.take_succ_cons, List.drop_succ_cons, Nat.reduceAdd, Nat.reduceLeDiff, reduceIte, Bool.not_true, Bool.not_false, Bool.false_eq_true, CA_some, Option.some.injEq, Nat.zero_add, Nat.mul_one, Nat.add_zero, setL, List.set_cons_zero, List.set_cons_succ, fillC]
  refine MkOk.go mk_ByteSS ((h4.wrote w2 (fun i hi => xx2 i (by simp [hi]))).wrote w3 (fun i hi => xx3 i (by simp [hi]))) (w3.ownd (w2.ownd o4)) (k := k + cnT (.sl (.int .u8)) v2 + cnT (.sl (.int .u8)) v3) (by omega) (fun g4 w4 z4 => ?_)
  simp (disch := omega) only [KC_eq, c73, e0, e1, e2, e3, e4, hsz, ifT, w64, RR, RP, Ty.agg, Ty.size, Ty.sizes, eq_self, ne_eq, not_true, not_false_iff, reduceCtorEq, List.length_cons, List.length_nil, decide_true, decide_false, true_and, and_true, ite_true, ite_false, PT.full, enter0, setAll, forget, Fr.set, Fr.get, PT.get, PT.set, kof, ai, ev, ev1, evp, b_add, b_sub, b_mul, b_quo, b_rem, b_eql, b_neq, b_lss, b_leq, b_gtr, b_geq, b_seql, b_sneq, setD, resV, resL, res1, args, List.take_zero, List.drop_zero, List.take_nil, List.take_succ_cons, List.drop_succ_cons, Nat.reduceAdd, Nat.reduceLeDiff, reduceIte, Bool.not_true, Bool.not_false, Bool.false_eq_true, CA_some, Option.some.injEq, Nat.zero_add, Nat.mul_one, Nat.add_zero, setL, List.set_cons_zero, List.set_cons_succ, fillC]
  have fin : Rs g4 [(.int .i64), (.int .i64), (.sl (.int .u8)), (.sl (.int .u8)), (.sl (.sl (.int .u8)))] (cs.drop 0) [.i n0, .i n1, mkT (.sl (.int .u8)) v2 (k), mkT (.sl (.int .u8)) v3 (k + cnT (.sl (.int .u8)) v2), mkT (.sl (.sl (.int .u8))) v4 (k + cnT (.sl (.int .u8)) v2 + cnT (.sl (.int .u8)) v3)] _ := (Rs.unstep (o := 0) (Rp.int_at e0 lo0 hi0) (Rs.unstep (o := 1) (Rp.int_at e1 lo1 hi1) (Rs.unstep (o := 2) (Rp.cs_at e2 ((z2.wrote w3 (fun i hi hn => x2 i hi (by simp [hn]))).wrote w4 (fun i hi hn => x2 i hi (by simp [hn])))) (Rs.unstep (o := 3) (Rp.cs_at e3 (z3.wrote w4 (fun i hi hn => x3 i hi (by simp [hn])))) (Rs.unstep (o := 4) (Rp.cs_at e4 z4) (Rs.fin (Nat.le_of_eq hsz)))))))
  simp only [List.nil_append, List.append_nil, List.drop_zero] at fin
  have wr := ((((Wrote.refl ho.2).more w2 (fun i hi => by simp [hi])).more w3 (fun i hi => by simp [hi])).more w4 (fun i hi => by simp [hi]))
  first
    | exact ⟨wr, _, rfl, fin⟩
    | (refine ⟨?_, wr, _, rfl, fin⟩
       congr 3
       omega)
/-- laws.markHead -/
def c30 : AF := ⟨2, 5, [.tmp 4], (.seq (.ops [.i (.lbox 2 (.s 0)), .i (.mov 4 (.c (.val false [.int .i64 0])))]) (.seq (.ops [.i (.fad 5 (.s 2) 3), .i (.ldl 6 2 (.s 5) 1 false), .i (.mov 7 (.s 1)), .i (.call 9 56 false [(.s 6), (.s 7)]), .i (.mov 1 (.s 8))]) (.seq (.ops [.i (.fad 9 (.s 2) 4), .i (.ldl 10 2 (.s 9) 1 false), .i (.mov 11 (.s 1)), .i (.call 13 56 false [(.s 10), (.s 11)]), .i (.mov 1 (.s 12))]) (.seq (.ops [.i (.fad 13 (.s 2) 5), .i (.ldl 14 2 (.s 13) 5 true), .i (.mov 15 (.s 1)), .i (.call 17 73 false [(.s 14), (.s 15)]), .i (.mov 1 (.s 16))]) (.seq (.ops [.i (.mov 17 (.s 1)), .i (.mov 4 (.s 17))]) .ret)))))⟩
theorem k30 : cd 30 = some c30 := by kernel_rfl
theorem mk_Head : MkOk cd 30 THead := by
  intro h cs v S k hv ho hk
  obtain ⟨vs, rfl, q0⟩ := hv.st
  obtain ⟨v0, r0, S0, T0, rfl, rfl, h0, q1⟩ := q0.step
  obtain ⟨n0, e0, rfl, rfl, lo0, hi0⟩ := h0.int
  obtain ⟨v1, r1, S1, T1, rfl, rfl, h1, q2⟩ := q1.step
  obtain ⟨n1, e1, rfl, rfl, lo1, hi1⟩ := h1.int
  obtain ⟨v2, r2, S2, T2, rfl, rfl, h2, q3⟩ := q2.step
  obtain ⟨n2, e2, rfl, rfl, lo2, hi2⟩ := h2.int
  obtain ⟨v3, r3, S3, T3, rfl, rfl, h3, q4⟩ := q3.step
  obtain ⟨c3, e3⟩ := h3.one rfl
  rw [e3] at h3
  obtain ⟨v4, r4, S4, T4, rfl, rfl, h4, q5⟩ := q4.step
  obtain ⟨c4, e4⟩ := h4.one rfl
  rw [e4] at h4
  obtain ⟨v5, r5, S5, T5, rfl, rfl, h5, q6⟩ := q5.step
  obtain ⟨_, rfl, rfl⟩ := q6
  have hsz : cs.length = 10 := hv.size
  simp only [Ty.size, Ty.sizes, Nat.reduceAdd, Nat.zero_add, List.drop_zero] at e0 e1 e2 e3 e4 hsz h5
  have hcn : cnT THead (.r [.i n0, .i n1, .i n2, v3, v4, v5]) = (0 + (0 + (0 + (cnT (.sl (.int .u8)) v3 + (cnT (.sl (.int .u8)) v4 + (cnT TQc v5 + 0)))))) := rfl
  have hmk : mkT THead (.r [.i n0, .i n1, .i n2, v3, v4, v5]) k = .r [.i n0, .i n1, .i n2, mkT (.sl (.int .u8)) v3 (k), mkT (.sl (.int .u8)) v4 (k + cnT (.sl (.int .u8)) v3), mkT TQc v5 (k + cnT (.sl (.int .u8)) v3 + cnT (.sl (.int .u8)) v4)] := rfl
  rw [hmk]
  rw [hcn] at hk ⊢
  simp only [List.nil_append, List.append_nil] at ho ⊢
  obtain ⟨o3, ho3, x3, xx3⟩ := ho.split
  obtain ⟨o4, ho4, x4, xx4⟩ := ho3.split
  have o5 := ho4
  refine WS_enter k30 rfl ?_
  simp (disch := omega) only [KC_eq, c30, e0, e1, e2, e3, e4, hsz, ifT, w64, RR, RP, Ty.agg, Ty.size, Ty.sizes, eq_self, ne_eq, not_true, not_false_iff, reduceCtorEq, List.length_cons, List.length_nil, decide_true, decide_false, true_and, and_true, ite_true, ite_false, PT.full, enter0, setAll, forget, Fr.set, Fr.get, PT.get, PT.set, kof, ai, ev, ev1, evp, b_add, b_sub, b_mul, b_quo, b_rem, b_eql, b_neq, b_lss, b_leq, b_gtr, b_geq, b_seql, b_sneq, setD, resV, resL, res1, args, List.take_zero, List.drop_zero, List.take_nil, List.take_succ_cons, List.drop_succ_cons, Nat.reduceAdd, Nat.reduceLeDiff, reduceIte, Bool.not_true, Bool.not_false, Bool.false_eq_true, CA_some, Option.some.injEq, Nat.zero_add, Nat.mul_one, Nat.add_zero, setL, List.set_cons_zero, List.set_cons_succ, fillC]
  refine MkOk.go mk_ByteS h3 o3 (k := k) (by omega) (fun g3 w3 z3 => ?_)
  simp (disch := omega) only [KC_eq, c30, e0, e1, e2, e3, e4, hsz, ifT, w64, RR, RP, Ty.agg, Ty.size, Ty.sizes, eq_self, ne_eq, not_true, not_false_iff, reduceCtorEq, List.length_cons, List.length_nil, decide_true, decide_false, true_and, and_true, ite_true, ite_false, PT.full, enter0, setAll, forget, Fr.set, Fr.get, PT.get, PT.set, kof, ai, ev, ev1, evp, b_add, b_sub, b_mul, b_quo, b_rem, b_eql, b_neq, b_lss, b_leq, b_gtr, b_geq, b_seql, b_sneq, setD, resV, resL, res1, args, List.take_zero, List.drop_zero, List.take_nil, List.take_succ_cons, List.drop_succ_cons, Nat.reduceAdd, Nat.reduceLeDiff, reduceIte, Bool.not_true, Bool.not_false, Bool.false_eq_true, CA_some, Option.some.injEq, Nat.zero_add, Nat.mul_one, Nat.add_zero, setL, List.set_cons_zero, List.set_cons_succ, fillC]
  refine MkOk.go mk_ByteS (h4.wrote w3 (fun i hi => xx3 i (by simp [hi]))) (w3.ownd o4) (k := k + cnT (.sl (.int .u8)) v3) (by omega) (fun g4 w4 z4 => ?_)
  simp (disch := omega) only [KC_eq, c30, e0, e1, e2, e3, e4, hsz, ifT, w64, RR, RP, Ty.agg, Ty.size, Ty.sizes, eq_self, ne_eq, not_true, not_false_iff, reduceCtorEq, List.length_cons, List.length_nil, decide_true, decide_false, true_and, and_true, ite_true, ite_false, PT.full, enter0, setAll, forget, Fr.set, Fr.get, PT.get, PT.set, kof, ai, ev, ev1, evp, b_add, b_sub, b_mul, b_quo, b_rem, b_eql, b_neq, b_lss, b_leq, b_gtr, b_geq, b_seql, b_sneq, setD, resV, resL, res1, args, List.take_zero, List.drop_zero, List.take_nil, List.take_succ_cons, List.drop_succ_cons, Nat.reduceAdd, Nat.reduceLeDiff, reduceIte, Bool.not_true, Bool.not_false, Bool.false_eq_true, CA_some, Option.some.injEq, Nat.zero_add, Nat.mul_one, Nat.add_zero, setL, List.set_cons_zero, List.set_cons_succ, fillC]
  refine MkOk.go mk_Qc ((h5.wrote w3 (fun i hi => xx3 i (by simp [hi]))).wrote w4 (fun i hi => xx4 i (by simp [hi]))) (w4.ownd (w3.ownd o5)) (k := k + cnT (.sl (.int .u8)) v3 + cnT (.sl (.int .u8)) v4) (by omega) (fun g5 w5 z5 => ?_)
  simp (disch := omega) only [KC_eq, c30, e0, e1, e2, e3, e4, hsz, ifT, w64, RR, RP, Ty.agg, Ty.size, Ty.sizes, eq_self, ne_eq, not_true, not_false_iff, reduceCtorEq, List.length_cons, List.length_nil, decide_true, decide_false, true_and, and_true, ite_true, ite_false, PT.full, enter0, setAll, forget, Fr.set, Fr.get, PT.get, PT.set, kof, ai, ev, ev1, evp, b_add, b_sub, b_mul, b_quo, b_rem, b_eql, b_neq, b_lss, b_leq, b_gtr, b_geq, b_seql, b_sneq, setD, resV, resL, res1, args, List.take_zero, List.drop_zero, List.take_nil, List.take_succ_cons, List.drop_succ_cons, Nat.reduceAdd, Nat.reduceLeDiff, reduceIte, Bool.not_true, Bool.not_false, Bool.false_eq_true, CA_some, Option.some.injEq, Nat.zero_add, Nat.mul_one, Nat.add_zero, setL, List.set_cons_zero, List.set_cons_succ, fillC]
  have fin : Rs g5 [(.int .i64), (.int .i64), (.int .i64), (.sl (.int .u8)), (.sl (.int .u8)), TQc] (cs.drop 0) [.i n0, .i n1, .i n2, mkT (.sl (.int .u8)) v3 (k), mkT (.sl (.int .u8)) v4 (k + cnT (.sl (.int .u8)) v3), mkT TQc v5 (k + cnT (.sl (.int .u8)) v3 + cnT (.sl (.int .u8)) v4)] _ := (Rs.unstep (o := 0) (Rp.int_at e0 lo0 hi0) (Rs.unstep (o := 1) (Rp.int_at e1 lo1 hi1) (Rs.unstep (o := 2) (Rp.int_at e2 lo2 hi2) (Rs.unstep (o := 3) (Rp.cs_at e3 ((z3.wrote w4 (fun i hi hn => x3 i hi (by simp [hn]))).wrote w5 (fun i hi hn => x3 i hi (by simp [hn])))) (Rs.unstep (o := 4) (Rp.cs_at e4 (z4.wrote w5 (fun i hi hn => x4 i hi (by simp [hn])))) (Rs.unstep (o := 5) z5 (Rs.fin (Nat.le_of_eq hsz))))))))
  simp only [List.nil_append, List.append_nil, List.drop_zero] at fin
  have wr := ((((Wrote.refl ho.2).more w3 (fun i hi => by simp [hi])).more w4 (fun i hi => by simp [hi])).more w5 (fun i hi => by simp [hi]))
  first
    | exact ⟨wr, _, rfl, fin⟩
    | (refine ⟨?_, wr, _, rfl, fin⟩
       congr 3
       omega)
/-- laws.heldByteS -/
def c119 : AF := ⟨2, 5, [.tmp 4], (.seq (.ops [.i (.mov 4 (.c (.val false [.int .i64 0])))]) (.seq (.seq (.ops [.i (.mov 5 (.c (.val false [.int .i64 0])))]) (.block 0 (.loop [20, 19, 18, 17, 16, 15, 14, 13, 12, 11, 10, 9, 8, 7, 6] (.seq (.seq (.ops [.i (.mov 6 (.s 5)), .i (.mov 7 (.s 0)), .i (.len 8 false (.s 7)), .i (.bin 9 .lss (.s 6) (.s 8))]) (.cond (.s 9) .skip (.exit 0))) (.seq (.block 1 (.seq (.seq (.ops [.i (.mov 12 (.s 0)), .i (.mov 13 (.s 5)), .i (.iad 14 (.s 12) (.s 13) 1), .i (.ldh 15 (.s 14) 1 false), .i (.mov 16 (.s 1)), .i (.cvi 17 .u8 (.s 16)), .i (.bin 18 .neq (.s 15) (.s 17))]) (.cond (.s 18) (.seq (.ops [.i (.mov 4 (.c (.val false [.int .i64 (-1)])))]) .ret) .skip)) (.ops [.i (.mov 19 (.s 1)), .i (.bin 20 .add (.s 19) (.c (.val false [.int .i64 1]))), .i (.mov 1 (.s 20))]))) (.ops [.i (.mov 10 (.s 5)), .i (.bin 11 .add (.s 10) (.c (.val false [.int .i64 1]))), .i (.mov 5 (.s 11))])))))) (.seq (.ops [.i (.mov 21 (.s 1)), .i (.mov 4 (.s 21))]) .ret)))⟩
theorem k119 : cd 119 = some c119 := by kernel_rfl
theorem hd_ByteS : HdOk cd 119 (.sl (.int .u8)) := hd_leaf k119
/-- laws.heldByteSS -/
def c92 : AF := ⟨2, 5, [.tmp 4], (.seq (.ops [.i (.mov 4 (.c (.val false [.int .i64 0])))]) (.seq (.seq (.ops [.i (.mov 5 (.c (.val false [.int .i64 0])))]) (.block 0 (.loop [19, 18, 17, 16, 15, 14, 13, 12, 11, 10, 9, 8, 7, 6] (.seq (.seq (.ops [.i (.mov 6 (.s 5)), .i (.mov 7 (.s 0)), .i (.len 8 false (.s 7)), .i (.bin 9 .lss (.s 6) (.s 8))]) (.cond (.s 9) .skip (.exit 0))) (.seq (.block 1 (.seq (.ops [.i (.mov 12 (.s 0)), .i (.mov 13 (.s 5)), .i (.iad 14 (.s 12) (.s 13) 1), .i (.ldh 15 (.s 14) 1 false), .i (.mov 16 (.s 1)), .i (.call 18 119 false [(.s 15), (.s 16)]), .i (.mov 1 (.s 17))]) (.seq (.ops [.i (.mov 18 (.s 1)), .i (.bin 19 .lss (.s 18) (.c (.val false [.int .i64 0])))]) (.cond (.s 19) (.seq (.ops [.i (.mov 4 (.c (.val false [.int .i64 (-1)])))]) .ret) .skip)))) (.ops [.i (.mov 10 (.s 5)), .i (.bin 11 .add (.s 10) (.c (.val false [.int .i64 1]))), .i (.mov 5 (.s 11))])))))) (.seq (.ops [.i (.mov 20 (.s 1)), .i (.mov 4 (.s 20))]) .ret)))⟩
theorem k92 : cd 92 = some c92 := by kernel_rfl
theorem hd_ByteSS : HdOk cd 92 (.sl (.sl (.int .u8))) := hd_sl k92 hd_ByteS
/-- laws.heldHeadS -/
def c65 : AF := ⟨2, 7, [.tmp 4], (.seq (.ops [.i (.mov 4 (.c (.val false [.int .i64 0])))]) (.seq (.seq (.ops [.i (.mov 5 (.c (.val false [.int .i64 0])))]) (.block 0 (.loop [106, 105, 104, 103, 102, 101, 100, 99, 98, 97, 96, 95, 94, 93, 92, 91, 90, 89, 88, 87, 86, 85, 84, 83, 82, 81, 80, 79, 78, 77, 76, 75, 74, 73, 72, 71, 70, 69, 68, 67, 66, 65, 64, 63, 62, 61, 60, 59, 58, 57, 56, 55, 54, 53, 52, 51, 50, 49, 48, 47, 46, 45, 44, 43, 42, 41, 40, 39, 38, 37, 36, 35, 34, 33, 32, 31, 30, 29, 28, 27, 26, 25, 24, 23, 22, 21, 20, 19, 18, 17, 16, 15, 14, 13, 12, 11, 10, 9, 8, 7, 6] (.seq (.seq (.ops [.i (.mov 6 (.s 5)), .i (.mov 7 (.s 0)), .i (.len 8 false (.s 7)), .i (.bin 9 .lss (.s 6) (.s 8))]) (.cond (.s 9) .skip (.exit 0))) (.seq (.block 1 (.seq (.seq (.ops [.i (.mov 12 (.s 0)), .i (.mov 13 (.s 5)), .i (.iad 14 (.s 12) (.s 13) 10), .i (.fad 15 (.s 14) 0), .i (.ldh 16 (.s 15) 1 false), .i (.mov 17 (.s 1)), .i (.bin 18 .neq (.s 16) (.s 17))]) (.cond (.s 18) (.seq (.ops [.i (.mov 4 (.c (.val false [.int .i64 (-1)])))]) .ret) .skip)) (.seq (.ops [.i (.mov 19 (.s 1)), .i (.bin 20 .add (.s 19) (.c (.val false [.int .i64 1]))), .i (.mov 1 (.s 20))]) (.seq (.seq (.ops [.i (.mov 21 (.s 0)), .i (.mov 22 (.s 5)), .i (.iad 23 (.s 21) (.s 22) 10), .i (.fad 24 (.s 23) 1), .i (.ldh 25 (.s 24) 1 false), .i (.mov 26 (.s 1)), .i (.bin 27 .neq (.s 25) (.s 26))]) (.cond (.s 27) (.seq (.ops [.i (.mov 4 (.c (.val false [.int .i64 (-1)])))]) .ret) .skip)) (.seq (.ops [.i (.mov 28 (.s 1)), .i (.bin 29 .add (.s 28) (.c (.val false [.int .i64 1]))), .i (.mov 1 (.s 29))]) (.seq (.seq (.ops [.i (.mov 30 (.s 0)), .i (.mov 31 (.s 5)), .i (.iad 32 (.s 30) (.s 31) 10), .i (.fad 33 (.s 32) 2), .i (.ldh 34 (.s 33) 1 false), .i (.mov 35 (.s 1)), .i (.bin 36 .neq (.s 34) (.s 35))]) (.cond (.s 36) (.seq (.ops [.i (.mov 4 (.c (.val false [.int .i64 (-1)])))]) .ret) .skip)) (.seq (.ops [.i (.mov 37 (.s 1)), .i (.bin 38 .add (.s 37) (.c (.val false [.int .i64 1]))), .i (.mov 1 (.s 38))]) (.seq (.ops [.i (.mov 39 (.s 0)), .i (.mov 40 (.s 5)), .i (.iad 41 (.s 39) (.s 40) 10), .i (.fad 42 (.s 41) 3), .i (.ldh 43 (.s 42) 1 false), .i (.mov 44 (.s 1)), .i (.call 46 119 false [(.s 43), (.s 44)]), .i (.mov 1 (.s 45))]) (.seq (.seq (.ops [.i (.mov 46 (.s 1)), .i (.bin 47 .lss (.s 46) (.c (.val false [.int .i64 0])))]) (.cond (.s 47) (.seq (.ops [.i (.mov 4 (.c (.val false [.int .i64 (-1)])))]) .ret) .skip)) (.seq (.ops [.i (.mov 48 (.s 0)), .i (.mov 49 (.s 5)), .i (.iad 50 (.s 48) (.s 49) 10), .i (.fad 51 (.s 50) 4), .i (.ldh 52 (.s 51) 1 false), .i (.mov 53 (.s 1)), .i (.call 55 119 false [(.s 52), (.s 53)]), .i (.mov 1 (.s 54))]) (.seq (.seq (.ops [.i (.mov 55 (.s 1)), .i (.bin 56 .lss (.s 55) (.c (.val false [.int .i64 0])))]) (.cond (.s 56) (.seq (.ops [.i (.mov 4 (.c (.val false [.int .i64 (-1)])))]) .ret) .skip)) (.seq (.seq (.ops [.i (.mov 57 (.s 0)), .i (.mov 58 (.s 5)), .i (.iad 59 (.s 57) (.s 58) 10), .i (.fad 60 (.s 59) 5), .i (.fad 61 (.s 60) 0), .i (.ldh 62 (.s 61) 1 false), .i (.mov 63 (.s 1)), .i (.bin 64 .neq (.s 62) (.s 63))]) (.cond (.s 64) (.seq (.ops [.i (.mov 4 (.c (.val false [.int .i64 (-1)])))]) .ret) .skip)) (.seq (.ops [.i (.mov 65 (.s 1)), .i (.bin 66 .add (.s 65) (.c (.val false [.int .i64 1]))), .i (.mov 1 (.s 66))]) (.seq (.seq (.ops [.i (.mov 67 (.s 0)), .i (.mov 68 (.s 5)), .i (.iad 69 (.s 67) (.s 68) 10), .i (.fad 70 (.s 69) 5), .i (.fad 71 (.s 70) 1), .i (.ldh 72 (.s 71) 1 false), .i (.mov 73 (.s 1)), .i (.bin 74 .neq (.s 72) (.s 73))]) (.cond (.s 74) (.seq (.ops [.i (.mov 4 (.c (.val false [.int .i64 (-1)])))]) .ret) .skip)) (.seq (.ops [.i (.mov 75 (.s 1)), .i (.bin 76 .add (.s 75) (.c (.val false [.int .i64 1]))), .i (.mov 1 (.s 76))]) (.seq (.ops [.i (.mov 77 (.s 0)), .i (.mov 78 (.s 5)), .i (.iad 79 (.s 77) (.s 78) 10), .i (.fad 80 (.s 79) 5), .i (.fad 81 (.s 80) 2), .i (.ldh 82 (.s 81) 1 false), .i (.mov 83 (.s 1)), .i (.call 85 119 false [(.s 82), (.s 83)]), .i (.mov 1 (.s 84))]) (.seq (.seq (.ops [.i (.mov 85 (.s 1)), .i (.bin 86 .lss (.s 85) (.c (.val false [.int .i64 0])))]) (.cond (.s 86) (.seq (.ops [.i (.mov 4 (.c (.val false [.int .i64 (-1)])))]) .ret) .skip)) (.seq (.ops [.i (.mov 87 (.s 0)), .i (.mov 88 (.s 5)), .i (.iad 89 (.s 87) (.s 88) 10), .i (.fad 90 (.s 89) 5), .i (.fad 91 (.s 90) 3), .i (.ldh 92 (.s 91) 1 false), .i (.mov 93 (.s 1)), .i (.call 95 119 false [(.s 92), (.s 93)]), .i (.mov 1 (.s 94))]) (.seq (.seq (.ops [.i (.mov 95 (.s 1)), .i (.bin 96 .lss (.s 95) (.c (.val false [.int .i64 0])))]) (.cond (.s 96) (.seq (.ops [.i (.mov 4 (.c (.val false [.int .i64 (-1)])))]) .ret) .skip)) (.seq (.ops [.i (.mov 97 (.s 0)), .i (.mov 98 (.s 5)), .i (.iad 99 (.s 97) (.s 98) 10), .i (.fad 100 (.s 99) 5), .i (.fad 101 (.s 100) 4), .i (.ldh 102 (.s 101) 1 false), .i (.mov 103 (.s 1)), .i (.call 105 92 false [(.s 102), (.s 103)]), .i (.mov 1 (.s 104))]) (.seq (.ops [.i (.mov 105 (.s 1)), .i (.bin 106 .lss (.s 105) (.c (.val false [.int .i64 0])))]) (.cond (.s 106) (.seq (.ops [.i (.mov 4 (.c (.val false [.int .i64 (-1)])))]) .ret) .skip)))))))))))))))))))))) (.ops [.i (.mov 10 (.s 5)), .i (.bin 11 .add (.s 10) (.c (.val false [.int .i64 1]))), .i (.mov 5 (.s 11))])))))) (.seq (.ops [.i (.mov 107 (.s 1)), .i (.mov 4 (.s 107))]) .ret)))⟩
theorem k65 : cd 65 = some c65 := by kernel_rfl
theorem hd_HeadS : HdOk cd 65 (.sl THead) := by
  intro h cs v S k hT hv hk
  by_cases hsl : ∃ xs, v = .l xs
  case neg =>
    obtain ⟨xs, e, _⟩ := hv.sl
    cases v <;> simp [mkT] at e
    exact absurd ⟨_, rfl⟩ hsl
  obtain ⟨zs, rfl⟩ := hsl
  have hTe : ∀ i (hi : i < zs.length), Tvd THead zs[i] := fun i hi => by
    obtain ⟨h0, cs0, S0, hT⟩ := hT
    obtain ⟨_, ys, _, _, _, _, _, e, _, _, _, _, _, hel0, _⟩ := hT.view
    simp at e
    subst e
    obtain ⟨Si, hx⟩ := hel0.at hi
    exact ⟨_, _, _, hx⟩
  obtain ⟨c, xs, id, off, bs, S', rfl, hxs, hm, hl, hat, hce, hbs, hel, hS⟩ := hv.view
  have hcn : cnT (.sl THead) (.l zs) = (zs.map (cnE THead)).sum := rfl
  rw [hcn] at hk ⊢
  have hxs' : xs = mkL (mkE THead) (cnE THead) zs k := by
    have e : mkT (.sl THead) (.l zs) k = .l (mkL (mkE THead) (cnE THead) zs k) := rfl
    rw [e] at hxs
    exact (by simpa using hxs.symm)
  have hlen : xs.length = zs.length := by rw [hxs', mkL_len]
  have hs1 : THead.size = 10 := rfl
  rw [hs1] at hat hbs
  refine WS_enter k65 rfl ?_
  simp (disch := omega) only [c65, RR, RP, Ty.agg, Ty.size, Ty.sizes, eq_self, ne_eq, not_true, not_false_iff, reduceCtorEq, List.length_cons, List.length_nil, decide_true, decide_false, true_and, and_true, ite_true, ite_false, PT.full, enter0, setAll, forget, Fr.set, Fr.get, PT.get, PT.set, kof, ai, ev, ev1, evp, b_add, b_sub, b_mul, b_quo, b_rem, b_eql, b_neq, b_lss, b_leq, b_gtr, b_geq, b_seql, b_sneq, setD, resV, resL, res1, args, List.take_zero, List.drop_zero, List.take_nil, List.take_succ_cons, List.drop_succ_cons, Nat.reduceAdd, Nat.reduceLeDiff, reduceIte, Bool.not_true, Bool.not_false, Bool.false_eq_true, CA_some, Option.some.injEq, Nat.zero_add, Nat.mul_one, Nat.add_zero, setL, List.set_cons_zero, List.set_cons_succ, fillC]
  refine WS_loop2 (σ := Nat) (f1 := _) (by simp only [RR, RP, Ty.agg, Ty.size, Ty.sizes, eq_self, ne_eq, not_true, not_false_iff, reduceCtorEq, List.length_cons, List.length_nil, decide_true, decide_false, true_and, and_true, ite_true, ite_false, PT.full, enter0, setAll, forget, Fr.set, Fr.get, PT.get, PT.set, kof, ai, ev, ev1, evp, b_add, b_sub, b_mul, b_quo, b_rem, b_eql, b_neq, b_lss, b_leq, b_gtr, b_geq, b_seql, b_sneq, setD, resV, resL, res1, args, List.take_zero, List.drop_zero, List.take_nil, List.take_succ_cons, List.drop_succ_cons, Nat.reduceAdd, Nat.reduceLeDiff, reduceIte, Bool.not_true, Bool.not_false, Bool.false_eq_true, CA_some, Option.some.injEq, Nat.zero_add, Nat.mul_one, Nat.add_zero, setL, List.set_cons_zero, List.set_cons_succ, fillC]; rfl) (fun i => [(5, .val false [.int .i64 i]), (1, .val false [.int .i64 ((k + ((zs.take i).map (cnE THead)).sum : Nat) : Int)])])
    (fun i g h' => g = xs.length - i ∧ i ≤ xs.length ∧ h' = h) 0 xs.length (by simp only [List.take_zero, List.map_nil, List.sum_nil, RR, RP, Ty.agg, Ty.size, Ty.sizes, eq_self, ne_eq, not_true, not_false_iff, reduceCtorEq, List.length_cons, List.length_nil, decide_true, decide_false, true_and, and_true, ite_true, ite_false, PT.full, enter0, setAll, forget, Fr.set, Fr.get, PT.get, PT.set, kof, ai, ev, ev1, evp, b_add, b_sub, b_mul, b_quo, b_rem, b_eql, b_neq, b_lss, b_leq, b_gtr, b_geq, b_seql, b_sneq, setD, resV, resL, res1, args, List.take_zero, List.drop_zero, List.take_nil, List.take_succ_cons, List.drop_succ_cons, Nat.reduceAdd, Nat.reduceLeDiff, reduceIte, Bool.not_true, Bool.not_false, Bool.false_eq_true, CA_some, Option.some.injEq, Nat.zero_add, Nat.mul_one, Nat.add_zero, setL, List.set_cons_zero, List.set_cons_succ, fillC]; rfl) ⟨by omega, by omega, rfl⟩ ?_
  rintro i g h' ⟨hg, hi, rfl⟩
  simp (disch := omega) only [c65, hl, w64, RR, RP, Ty.agg, Ty.size, Ty.sizes, eq_self, ne_eq, not_true, not_false_iff, reduceCtorEq, List.length_cons, List.length_nil, decide_true, decide_false, true_and, and_true, ite_true, ite_false, PT.full, enter0, setAll, forget, Fr.set, Fr.get, PT.get, PT.set, kof, ai, ev, ev1, evp, b_add, b_sub, b_mul, b_quo, b_rem, b_eql, b_neq, b_lss, b_leq, b_gtr, b_geq, b_seql, b_sneq, setD, resV, resL, res1, args, List.take_zero, List.drop_zero, List.take_nil, List.take_succ_cons, List.drop_succ_cons, Nat.reduceAdd, Nat.reduceLeDiff, reduceIte, Bool.not_true, Bool.not_false, Bool.false_eq_true, CA_some, Option.some.injEq, Nat.zero_add, Nat.mul_one, Nat.add_zero, setL, List.set_cons_zero, List.set_cons_succ, fillC]
  refine BR_dec (fun hlt => ?_) (fun hlt => ?_)
  · have hix : i < xs.length := by omega
    have hiz : i < zs.length := by omega
    have hsi := sum_take (g := cnE THead) (List.getElem?_eq_getElem hiz)
    have hsl := sum_le (g := cnE THead) zs (i + 1)
    have hfit : off + i * 10 + 10 ≤ bs.length := by
      have := Nat.mul_le_mul_right 10 hix
      rw [Nat.succ_mul] at this
      omega
    obtain ⟨Si, k1⟩ := hel.at hix
    have hxi : xs[i] = mkE THead zs[i] (k + ((zs.take i).map (cnE THead)).sum) := by
      have e1 : xs[i]? = some (mkE THead zs[i] (k + ((zs.take i).map (cnE THead)).sum)) := by
        rw [hxs']
        have e2 : zs = zs.take i ++ zs[i] :: zs.drop (i + 1) := by rw [← List.drop_eq_getElem_cons hiz, List.take_append_drop]
        conv => lhs; rw [e2, mkL_app, mkL]
        have hl2 : (mkL (mkE THead) (cnE THead) (zs.take i) k).length = i := by rw [mkL_len, List.length_take]; omega
        rw [List.getElem?_append_right (by omega), hl2, Nat.sub_self, List.getElem?_cons_zero]
      rw [List.getElem?_eq_getElem hix] at e1
      simpa using e1
    rw [hs1] at k1
    obtain ⟨x0, x1, x2, x3, x4, x5, x6, x7, x8, x9, hx⟩ := len_10 k1.size
    rw [hx] at k1
    obtain ⟨pre, post, hpl, rfl⟩ := around hx hfit
    have hat' := hat i hix
    rw [← hpl] at hat'
    have hcb := (hce (by omega)).1
    obtain ⟨h0_, cs0_, S0_, hTi⟩ := hTe i hiz
    obtain ⟨w_vs, w_hv, w_q0⟩ := hTi.st
    obtain ⟨w_v0, w_r0, w_S0, w_T0, rfl, w_e0, w_h0, w_q1⟩ := w_q0.step
    obtain ⟨m0, _, rfl, _, _, _⟩ := w_h0.int
    obtain ⟨w_v1, w_r1, w_S1, w_T1, rfl, w_e1, w_h1, w_q2⟩ := w_q1.step
    obtain ⟨m1, _, rfl, _, _, _⟩ := w_h1.int
    obtain ⟨w_v2, w_r2, w_S2, w_T2, rfl, w_e2, w_h2, w_q3⟩ := w_q2.step
    obtain ⟨m2, _, rfl, _, _, _⟩ := w_h2.int
    obtain ⟨w_v3, w_r3, w_S3, w_T3, rfl, w_e3, w_h3, w_q4⟩ := w_q3.step
    obtain ⟨w_v4, w_r4, w_S4, w_T4, rfl, w_e4, w_h4, w_q5⟩ := w_q4.step
    obtain ⟨w_v5, w_r5, w_S5, w_T5, rfl, w_e5, w_h5, w_q6⟩ := w_q5.step
    obtain ⟨w5_vs, w5_hv, w5_q0⟩ := w_h5.st
    obtain ⟨w5_v0, w5_r0, w5_S0, w5_T0, rfl, w5_e0, w5_h0, w5_q1⟩ := w5_q0.step
    obtain ⟨m5, _, rfl, _, _, _⟩ := w5_h0.int
    obtain ⟨w5_v1, w5_r1, w5_S1, w5_T1, rfl, w5_e1, w5_h1, w5_q2⟩ := w5_q1.step
    obtain ⟨m6, _, rfl, _, _, _⟩ := w5_h1.int
    obtain ⟨w5_v2, w5_r2, w5_S2, w5_T2, rfl, w5_e2, w5_h2, w5_q3⟩ := w5_q2.step
    obtain ⟨w5_v3, w5_r3, w5_S3, w5_T3, rfl, w5_e3, w5_h3, w5_q4⟩ := w5_q3.step
    obtain ⟨w5_v4, w5_r4, w5_S4, w5_T4, rfl, w5_e4, w5_h4, w5_q5⟩ := w5_q4.step
    obtain ⟨_, rfl, _⟩ := w5_q5
    subst w5_hv
    obtain ⟨_, rfl, _⟩ := w_q6
    have hzi : zs[i] = .r [.i m0, .i m1, .i m2, w_v3, w_v4, .r [.i m5, .i m6, w5_v2, w5_v3, w5_v4]] := w_hv
    have hmkE : xs[i] = .r [.i (IntKind.i64.wrap (((k + ((zs.take i).map (cnE THead)).sum) : Nat) : Int)), .i (IntKind.i64.wrap ((((k + ((zs.take i).map (cnE THead)).sum) + 1) : Nat) : Int)), .i (IntKind.i64.wrap (((((k + ((zs.take i).map (cnE THead)).sum) + 1) + 1) : Nat) : Int)), mkE (.sl (.int .u8)) w_v3 (((((k + ((zs.take i).map (cnE THead)).sum) + 1) + 1) + 1)), mkE (.sl (.int .u8)) w_v4 ((((((k + ((zs.take i).map (cnE THead)).sum) + 1) + 1) + 1) + cnE (.sl (.int .u8)) w_v3)), .r [.i (IntKind.i64.wrap ((((((((k + ((zs.take i).map (cnE THead)).sum) + 1) + 1) + 1) + cnE (.sl (.int .u8)) w_v3) + cnE (.sl (.int .u8)) w_v4) : Nat) : Int)), .i (IntKind.i64.wrap (((((((((k + ((zs.take i).map (cnE THead)).sum) + 1) + 1) + 1) + cnE (.sl (.int .u8)) w_v3) + cnE (.sl (.int .u8)) w_v4) + 1) : Nat) : Int)), mkE (.sl (.int .u8)) w5_v2 (((((((((k + ((zs.take i).map (cnE THead)).sum) + 1) + 1) + 1) + cnE (.sl (.int .u8)) w_v3) + cnE (.sl (.int .u8)) w_v4) + 1) + 1)), mkE (.sl (.int .u8)) w5_v3 ((((((((((k + ((zs.take i).map (cnE THead)).sum) + 1) + 1) + 1) + cnE (.sl (.int .u8)) w_v3) + cnE (.sl (.int .u8)) w_v4) + 1) + 1) + cnE (.sl (.int .u8)) w5_v2)), mkE (.sl (.sl (.int .u8))) w5_v4 (((((((((((k + ((zs.take i).map (cnE THead)).sum) + 1) + 1) + 1) + cnE (.sl (.int .u8)) w_v3) + cnE (.sl (.int .u8)) w_v4) + 1) + 1) + cnE (.sl (.int .u8)) w5_v2) + cnE (.sl (.int .u8)) w5_v3))]] := by rw [hxi, hzi]; rfl
    have hcne : cnE THead zs[i] = (1 + (1 + (1 + (cnE (.sl (.int .u8)) w_v3 + (cnE (.sl (.int .u8)) w_v4 + ((1 + (1 + (cnE (.sl (.int .u8)) w5_v2 + (cnE (.sl (.int .u8)) w5_v3 + (cnE (.sl (.sl (.int .u8))) w5_v4 + 0))))) + 0)))))) := by rw [hzi]; rfl
    rw [hcne] at hsi
    obtain ⟨p_vs, p_hv, p_q0⟩ := k1.st
    obtain ⟨p_v0, p_r0, p_S0, p_T0, rfl, rfl, p_h0, p_q1⟩ := p_q0.step
    simp only [Ty.size, Ty.sizes, Nat.reduceAdd, Nat.zero_add, List.drop_zero, List.drop_succ_cons, List.take_succ_cons, List.take_zero] at p_h0
    obtain ⟨n0, e0, rfl, rfl, lo0, hi0⟩ := p_h0.int
    simp only [List.cons.injEq, and_true] at e0
    subst e0
    obtain ⟨p_v1, p_r1, p_S1, p_T1, rfl, rfl, p_h1, p_q2⟩ := p_q1.step
    simp only [Ty.size, Ty.sizes, Nat.reduceAdd, Nat.zero_add, List.drop_zero, List.drop_succ_cons, List.take_succ_cons, List.take_zero] at p_h1
    obtain ⟨n1, e1, rfl, rfl, lo1, hi1⟩ := p_h1.int
    simp only [List.cons.injEq, and_true] at e1
    subst e1
    obtain ⟨p_v2, p_r2, p_S2, p_T2, rfl, rfl, p_h2, p_q3⟩ := p_q2.step
    simp only [Ty.size, Ty.sizes, Nat.reduceAdd, Nat.zero_add, List.drop_zero, List.drop_succ_cons, List.take_succ_cons, List.take_zero] at p_h2
    obtain ⟨n2, e2, rfl, rfl, lo2, hi2⟩ := p_h2.int
    simp only [List.cons.injEq, and_true] at e2
    subst e2
    obtain ⟨p_v3, p_r3, p_S3, p_T3, rfl, rfl, p_h3, p_q4⟩ := p_q3.step
    simp only [Ty.size, Ty.sizes, Nat.reduceAdd, Nat.zero_add, List.drop_zero, List.drop_succ_cons, List.take_succ_cons, List.take_zero] at p_h3
    have h3 := p_h3
    obtain ⟨p_v4, p_r4, p_S4, p_T4, rfl, rfl, p_h4, p_q5⟩ := p_q4.step
    simp only [Ty.size, Ty.sizes, Nat.reduceAdd, Nat.zero_add, List.drop_zero, List.drop_succ_cons, List.take_succ_cons, List.take_zero] at p_h4
    have h4 := p_h4
    obtain ⟨p_v5, p_r5, p_S5, p_T5, rfl, rfl, p_h5, p_q6⟩ := p_q5.step
    simp only [Ty.size, Ty.sizes, Nat.reduceAdd, Nat.zero_add, List.drop_zero, List.drop_succ_cons, List.take_succ_cons, List.take_zero] at p_h5
    obtain ⟨p5_vs, p5_hv, p5_q0⟩ := p_h5.st
    obtain ⟨p5_v0, p5_r0, p5_S0, p5_T0, rfl, rfl, p5_h0, p5_q1⟩ := p5_q0.step
    simp only [Ty.size, Ty.sizes, Nat.reduceAdd, Nat.zero_add, List.drop_zero, List.drop_succ_cons, List.take_succ_cons, List.take_zero] at p5_h0
    obtain ⟨n5, e5, rfl, rfl, lo5, hi5⟩ := p5_h0.int
    simp only [List.cons.injEq, and_true] at e5
    subst e5
    obtain ⟨p5_v1, p5_r1, p5_S1, p5_T1, rfl, rfl, p5_h1, p5_q2⟩ := p5_q1.step
    simp only [Ty.size, Ty.sizes, Nat.reduceAdd, Nat.zero_add, List.drop_zero, List.drop_succ_cons, List.take_succ_cons, List.take_zero] at p5_h1
    obtain ⟨n6, e6, rfl, rfl, lo6, hi6⟩ := p5_h1.int
    simp only [List.cons.injEq, and_true] at e6
    subst e6
    obtain ⟨p5_v2, p5_r2, p5_S2, p5_T2, rfl, rfl, p5_h2, p5_q3⟩ := p5_q2.step
    simp only [Ty.size, Ty.sizes, Nat.reduceAdd, Nat.zero_add, List.drop_zero, List.drop_succ_cons, List.take_succ_cons, List.take_zero] at p5_h2
    have h7 := p5_h2
    obtain ⟨p5_v3, p5_r3, p5_S3, p5_T3, rfl, rfl, p5_h3, p5_q4⟩ := p5_q3.step
    simp only [Ty.size, Ty.sizes, Nat.reduceAdd, Nat.zero_add, List.drop_zero, List.drop_succ_cons, List.take_succ_cons, List.take_zero] at p5_h3
    have h8 := p5_h3
    obtain ⟨p5_v4, p5_r4, p5_S4, p5_T4, rfl, rfl, p5_h4, p5_q5⟩ := p5_q4.step
    simp only [Ty.size, Ty.sizes, Nat.reduceAdd, Nat.zero_add, List.drop_zero, List.drop_succ_cons, List.take_succ_cons, List.take_zero] at p5_h4
    have h9 := p5_h4
    obtain ⟨_, rfl, rfl⟩ := p5_q5
    subst p5_hv
    obtain ⟨_, rfl, rfl⟩ := p_q6
    have heq := hmkE.symm.trans p_hv
    simp only [Tv.r.injEq, List.cons.injEq, Tv.i.injEq, and_true, and_assoc] at heq
    obtain ⟨a0, a1, a2, a3, a4, a5, a6, a7, a8, a9⟩ := heq
    rw [← a3] at h3
    rw [← a4] at h4
    rw [← a7] at h7
    rw [← a8] at h8
    rw [← a9] at h9
    simp (disch := omega) only [KC_eq, c65, hl, hat', hcb, pre_get3, pre_get2, pre_get, pre_get0, List.length_append, List.cons_append, List.nil_append, ifT, w64, cnE_sl, cast1, RR, RP, Ty.agg, Ty.size, Ty.sizes, eq_self, ne_eq, not_true, not_false_iff, reduceCtorEq, List.length_cons, List.length_nil, decide_true, decide_false, true_and, and_true, ite_true, ite_false, PT.full, enter0, setAll, forget, Fr.set, Fr.get, PT.get, PT.set, kof, ai, ev, ev1, evp, b_add, b_sub, b_mul, b_quo, b_rem, b_eql, b_neq, b_lss, b_leq, b_gtr, b_geq, b_seql, b_sneq, setD, resV, resL, res1, args, List.take_zero, List.drop_zero, List.take_nil, List.take_succ_cons, List.drop_succ_cons, Nat.reduceAdd, Nat.reduceLeDiff, reduceIte, Bool.not_true, Bool.not_false, Bool.false_eq_true, CA_some, Option.some.injEq, Nat.zero_add, Nat.mul_one, Nat.add_zero, setL, List.set_cons_zero, List.set_cons_succ, fillC]
    refine BR_dec (fun hn => absurd (by rw [← a0, w64 (by omega) (by omega)]) hn) (fun hn => ?_)
    simp (disch := omega) only [KC_eq, c65, hl, hat', hcb, pre_get3, pre_get2, pre_get, pre_get0, List.length_append, List.cons_append, List.nil_append, ifT, w64, cnE_sl, cast1, RR, RP, Ty.agg, Ty.size, Ty.sizes, eq_self, ne_eq, not_true, not_false_iff, reduceCtorEq, List.length_cons, List.length_nil, decide_true, decide_false, true_and, and_true, ite_true, ite_false, PT.full, enter0, setAll, forget, Fr.set, Fr.get, PT.get, PT.set, kof, ai, ev, ev1, evp, b_add, b_sub, b_mul, b_quo, b_rem, b_eql, b_neq, b_lss, b_leq, b_gtr, b_geq, b_seql, b_sneq, setD, resV, resL, res1, args, List.take_zero, List.drop_zero, List.take_nil, List.take_succ_cons, List.drop_succ_cons, Nat.reduceAdd, Nat.reduceLeDiff, reduceIte, Bool.not_true, Bool.not_false, Bool.false_eq_true, CA_some, Option.some.injEq, Nat.zero_add, Nat.mul_one, Nat.add_zero, setL, List.set_cons_zero, List.set_cons_succ, fillC]
    refine BR_dec (fun hn => absurd (by rw [← a1, w64 (by omega) (by omega)]) hn) (fun hn => ?_)
    simp (disch := omega) only [KC_eq, c65, hl, hat', hcb, pre_get3, pre_get2, pre_get, pre_get0, List.length_append, List.cons_append, List.nil_append, ifT, w64, cnE_sl, cast1, RR, RP, Ty.agg, Ty.size, Ty.sizes, eq_self, ne_eq, not_true, not_false_iff, reduceCtorEq, List.length_cons, List.length_nil, decide_true, decide_false, true_and, and_true, ite_true, ite_false, PT.full, enter0, setAll, forget, Fr.set, Fr.get, PT.get, PT.set, kof, ai, ev, ev1, evp, b_add, b_sub, b_mul, b_quo, b_rem, b_eql, b_neq, b_lss, b_leq, b_gtr, b_geq, b_seql, b_sneq, setD, resV, resL, res1, args, List.take_zero, List.drop_zero, List.take_nil, List.take_succ_cons, List.drop_succ_cons, Nat.reduceAdd, Nat.reduceLeDiff, reduceIte, Bool.not_true, Bool.not_false, Bool.false_eq_true, CA_some, Option.some.injEq, Nat.zero_add, Nat.mul_one, Nat.add_zero, setL, List.set_cons_zero, List.set_cons_succ, fillC]
    refine BR_dec (fun hn => absurd (by rw [← a2, w64 (by omega) (by omega)]) hn) (fun hn => ?_)
    simp (disch := omega) only [KC_eq, c65, hl, hat', hcb, pre_get3, pre_get2, pre_get, pre_get0, List.length_append, List.cons_append, List.nil_append, ifT, w64, cnE_sl, cast1, RR, RP, Ty.agg, Ty.size, Ty.sizes, eq_self, ne_eq, not_true, not_false_iff, reduceCtorEq, List.length_cons, List.length_nil, decide_true, decide_false, true_and, and_true, ite_true, ite_false, PT.full, enter0, setAll, forget, Fr.set, Fr.get, PT.get, PT.set, kof, ai, ev, ev1, evp, b_add, b_sub, b_mul, b_quo, b_rem, b_eql, b_neq, b_lss, b_leq, b_gtr, b_geq, b_seql, b_sneq, setD, resV, resL, res1, args, List.take_zero, List.drop_zero, List.take_nil, List.take_succ_cons, List.drop_succ_cons, Nat.reduceAdd, Nat.reduceLeDiff, reduceIte, Bool.not_true, Bool.not_false, Bool.false_eq_true, CA_some, Option.some.injEq, Nat.zero_add, Nat.mul_one, Nat.add_zero, setL, List.set_cons_zero, List.set_cons_succ, fillC]
    rw [← mkE_sl] at h3
    refine HdOk.go hd_ByteS ⟨_, _, _, w_h3⟩ h3 (k := ((((k + ((zs.take i).map (cnE THead)).sum) + 1) + 1) + 1)) (by rw [cnE_sl]; omega) ?_
    simp (disch := omega) only [KC_eq, c65, hl, hat', hcb, pre_get3, pre_get2, pre_get, pre_get0, List.length_append, List.cons_append, List.nil_append, ifT, w64, cnE_sl, cast1, RR, RP, Ty.agg, Ty.size, Ty.sizes, eq_self, ne_eq, not_true, not_false_iff, reduceCtorEq, List.length_cons, List.length_nil, decide_true, decide_false, true_and, and_true, ite_true, ite_false, PT.full, enter0, setAll, forget, Fr.set, Fr.get, PT.get, PT.set, kof, ai, ev, ev1, evp, b_add, b_sub, b_mul, b_quo, b_rem, b_eql, b_neq, b_lss, b_leq, b_gtr, b_geq, b_seql, b_sneq, setD, resV, resL, res1, args, List.take_zero, List.drop_zero, List.take_nil, List.take_succ_cons, List.drop_succ_cons, Nat.reduceAdd, Nat.reduceLeDiff, reduceIte, Bool.not_true, Bool.not_false, Bool.false_eq_true, CA_some, Option.some.injEq, Nat.zero_add, Nat.mul_one, Nat.add_zero, setL, List.set_cons_zero, List.set_cons_succ, fillC]
    refine BR_dec (fun hn => absurd hn (by omega)) (fun hn => ?_)
    simp (disch := omega) only [KC_eq, c65, hl, hat', hcb, pre_get3, pre_get2, pre_get, pre_get0, List.length_append, List.cons_append, List.nil_append, ifT, w64, cnE_sl, cast1, RR, RP, Ty.agg, Ty.size, Ty.sizes, eq_self, ne_eq, not_true, not_false_iff, reduceCtorEq, List.length_cons, List.length_nil, decide_true, decide_false, true_and, and_true, ite_true, ite_false, PT.full, enter0, setAll, forget, Fr.set, Fr.get, PT.get, PT.set, kof, ai, ev, ev1, evp, b_add, b_sub, b_mul, b_quo, b_rem, b_eql, b_neq, b_lss, b_leq, b_gtr, b_geq, b_seql, b_sneq, setD, resV, resL, res1, args, List.take_zero, List.drop_zero, List.take_nil, List.take_succ_cons, List.drop_succ_cons, Nat.reduceAdd, Nat.reduceLeDiff, reduceIte, Bool.not_true, Bool.not_false, Bool.false_eq_true, CA_some, Option.some.injEq, Nat.zero_add, Nat.mul_one, Nat.add_zero, setL, List.set_cons_zero, List.set_cons_succ, fillC]
    rw [← mkE_sl] at h4
    refine HdOk.go hd_ByteS ⟨_, _, _, w_h4⟩ h4 (k := (((((k + ((zs.take i).map (cnE THead)).sum) + 1) + 1) + 1) + cnE (.sl (.int .u8)) w_v3)) (by rw [cnE_sl]; omega) ?_
    simp (disch := omega) only [KC_eq, c65, hl, hat', hcb, pre_get3, pre_get2, pre_get, pre_get0, List.length_append, List.cons_append, List.nil_append, ifT, w64, cnE_sl, cast1, RR, RP, Ty.agg, Ty.size, Ty.sizes, eq_self, ne_eq, not_true, not_false_iff, reduceCtorEq, List.length_cons, List.length_nil, decide_true, decide_false, true_and, and_true, ite_true, ite_false, PT.full, enter0, setAll, forget, Fr.set, Fr.get, PT.get, PT.set, kof, ai, ev, ev1, evp, b_add, b_sub, b_mul, b_quo, b_rem, b_eql, b_neq, b_lss, b_leq, b_gtr, b_geq, b_seql, b_sneq, setD, resV, resL, res1, args, List.take_zero, List.drop_zero, List.take_nil, List.take_succ_cons, List.drop_succ_cons, Nat.reduceAdd, Nat.reduceLeDiff, reduceIte, Bool.not_true, Bool.not_false, Bool.false_eq_true, CA_some, Option.some.injEq, Nat.zero_add, Nat.mul_one, Nat.add_zero, setL, List.set_cons_zero, List.set_cons_succ, fillC]
    refine BR_dec (fun hn => absurd hn (by omega)) (fun hn => ?_)
    simp (disch := omega) only [KC_eq, c65, hl, hat', hcb, pre_get3, pre_get2, pre_get, pre_get0, List.length_append, List.cons_append, List.nil_append, ifT, w64, cnE_sl, cast1, RR, RP, Ty.agg, Ty.size, Ty.sizes, eq_self, ne_eq, not_true, not_false_iff, reduceCtorEq, List.length_cons, List.length_nil, decide_true, decide_false, true_and, and_true, ite_true, ite_false, PT.full, enter0, setAll, forget, Fr.set, Fr.get, PT.get, PT.set, kof, ai, ev, ev1, evp, b_add, b_sub, b_mul, b_quo, b_rem, b_eql, b_neq, b_lss, b_leq, b_gtr, b_geq, b_seql, b_sneq, setD, resV, resL, res1, args, List.take_zero, List.drop_zero, List.take_nil, List.take_succ_cons, List.drop_succ_cons, Nat.reduceAdd, Nat.reduceLeDiff, reduceIte, Bool.not_true, Bool.not_false, Bool.false_eq_true, CA_some, Option.some.injEq, Nat.zero_add, Nat.mul_one, Nat.add_zero, setL, List.set_cons_zero, List.set_cons_succ, fillC]
    refine BR_dec (fun hn => absurd (by rw [← a5, w64 (by omega) (by omega)]) hn) (fun hn => ?_)
    simp (disch := omega) only [KC_eq, c65, hl, hat', hcb, pre_get3, pre_get2, pre_get, pre_get0, List.length_append, List.cons_append, List.nil_append, ifT, w64, cnE_sl, cast1, RR, RP, Ty.agg, Ty.size, Ty.sizes, eq_self, ne_eq, not_true, not_false_iff, reduceCtorEq, List.length_cons, List.length_nil, decide_true, decide_false, true_and, and_true, ite_true, ite_false, PT.full, enter0, setAll, forget, Fr.set, Fr.get, PT.get, PT.set, kof, ai, ev, ev1, evp, b_add, b_sub, b_mul, b_quo, b_rem, b_eql, b_neq, b_lss, b_leq, b_gtr, b_geq, b_seql, b_sneq, setD, resV, resL, res1, args, List.take_zero, List.drop_zero, List.take_nil, List.take_succ_cons, List.drop_succ_cons, Nat.reduceAdd, Nat.reduceLeDiff, reduceIte, Bool.not_true, Bool.not_false, Bool.false_eq_true, CA_some, Option.some.injEq, Nat.zero_add, Nat.mul_one, Nat.add_zero, setL, List.set_cons_zero, List.set_cons_succ, fillC]
    refine BR_dec (fun hn => absurd (by rw [← a6, w64 (by omega) (by omega)]) hn) (fun hn => ?_)
    simp (disch := omega) only [KC_eq, c65, hl, hat', hcb, pre_get3, pre_get2, pre_get, pre_get0, List.length_append, List.cons_append, List.nil_append, ifT, w64, cnE_sl, cast1, RR, RP, Ty.agg, Ty.size, Ty.sizes, eq_self, ne_eq, not_true, not_false_iff, reduceCtorEq, List.length_cons, List.length_nil, decide_true, decide_false, true_and, and_true, ite_true, ite_false, PT.full, enter0, setAll, forget, Fr.set, Fr.get, PT.get, PT.set, kof, ai, ev, ev1, evp, b_add, b_sub, b_mul, b_quo, b_rem, b_eql, b_neq, b_lss, b_leq, b_gtr, b_geq, b_seql, b_sneq, setD, resV, resL, res1, args, List.take_zero, List.drop_zero, List.take_nil, List.take_succ_cons, List.drop_succ_cons, Nat.reduceAdd, Nat.reduceLeDiff, reduceIte, Bool.not_true, Bool.not_false, Bool.false_eq_true, CA_some, Option.some.injEq, Nat.zero_add, Nat.mul_one, Nat.add_zero, setL, List.set_cons_zero, List.set_cons_succ, fillC]
    rw [← mkE_sl] at h7
    refine HdOk.go hd_ByteS ⟨_, _, _, w5_h2⟩ h7 (k := ((((((((k + ((zs.take i).map (cnE THead)).sum) + 1) + 1) + 1) + cnE (.sl (.int .u8)) w_v3) + cnE (.sl (.int .u8)) w_v4) + 1) + 1)) (by rw [cnE_sl]; omega) ?_
    simp (disch := omega) only [KC_eq, c65, hl, hat', hcb, pre_get3, pre_get2, pre_get, pre_get0, List.length_append, List.cons_append, List.nil_append, ifT, w64, cnE_sl, cast1, RR, RP, Ty.agg, Ty.size, Ty.sizes, eq_self, ne_eq, not_true, not_false_iff, reduceCtorEq, List.length_cons, List.length_nil, decide_true, decide_false, true_and, and_true, ite_true, ite_false, PT.full, enter0, setAll, forget, Fr.set, Fr.get, PT.get, PT.set, kof, ai, ev, ev1, evp, b_add, b_sub, b_mul, b_quo, b_rem, b_eql, b_neq, b_lss, b_leq, b_gtr, b_geq, b_seql, b_sneq, setD, resV, resL, res1, args, List.take_zero, List.drop_zero, List.take_nil, List.take_succ_cons, List.drop_succ_cons, Nat.reduceAdd, Nat.reduceLeDiff, reduceIte, Bool.not_true, Bool.not_false, Bool.false_eq_true, CA_some, Option.some.injEq, Nat.zero_add, Nat.mul_one, Nat.add_zero, setL, List.set_cons_zero, List.set_cons_succ, fillC]
    refine BR_dec (fun hn => absurd hn (by omega)) (fun hn => ?_)
    simp (disch := omega) only [KC_eq, c65, hl, hat', hcb, pre_get3, pre_get2, pre_get, pre_get0, List.length_append, List.cons_append, List.nil_append, ifT, w64, cnE_sl, cast1, RR, RP, Ty.agg, Ty.size, Ty.sizes, eq_self, ne_eq, not_true, not_false_iff, reduceCtorEq, List.length_cons, List.length_nil, decide_true, decide_false, true_and, and_true, ite_true, ite_false, PT.full, enter0, setAll, forget, Fr.set, Fr.get, PT.get, PT.set, kof, ai, ev, ev1, evp, b_add, b_sub, b_mul, b_quo, b_rem, b_eql, b_neq, b_lss, b_leq, b_gtr, b_geq, b_seql, b_sneq, setD, resV, resL, res1, args, List.take_zero, List.drop_zero, List.take_nil, List.take_succ_cons, List.drop_succ_cons, Nat.reduceAdd, Nat.reduceLeDiff, reduceIte, Bool.not_true, Bool.not_false, Bool.false_eq_true, CA_some, Option.some.injEq, Nat.zero_add, Nat.mul_one, Nat.add_zero, setL, List.set_cons_zero, List.set_cons_succ, fillC]
    rw [← mkE_sl] at h8
    refine HdOk.go hd_ByteS ⟨_, _, _, w5_h3⟩ h8 (k := (((((((((k + ((zs.take i).map (cnE THead)).sum) + 1) + 1) + 1) + cnE (.sl (.int .u8)) w_v3) + cnE (.sl (.int .u8)) w_v4) + 1) + 1) + cnE (.sl (.int .u8)) w5_v2)) (by rw [cnE_sl]; omega) ?_
    simp (disch := omega) only [KC_eq, c65, hl, hat', hcb, pre_get3, pre_get2, pre_get, pre_get0, List.length_append, List.cons_append, List.nil_append, ifT, w64, cnE_sl, cast1, RR, RP, Ty.agg, Ty.size, Ty.sizes, eq_self, ne_eq, not_true, not_false_iff, reduceCtorEq, List.length_cons, List.length_nil, decide_true, decide_false, true_and, and_true, ite_true, ite_false, PT.full, enter0, setAll, forget, Fr.set, Fr.get, PT.get, PT.set, kof, ai, ev, ev1, evp, b_add, b_sub, b_mul, b_quo, b_rem, b_eql, b_neq, b_lss, b_leq, b_gtr, b_geq, b_seql, b_sneq, setD, resV, resL, res1, args, List.take_zero, List.drop_zero, List.take_nil, List.take_succ_cons, List.drop_succ_cons, Nat.reduceAdd, Nat.reduceLeDiff, reduceIte, Bool.not_true, Bool.not_false, Bool.false_eq_true, CA_some, Option.some.injEq, Nat.zero_add, Nat.mul_one, Nat.add_zero, setL, List.set_cons_zero, List.set_cons_succ, fillC]
    refine BR_dec (fun hn => absurd hn (by omega)) (fun hn => ?_)
    simp (disch := omega) only [KC_eq, c65, hl, hat', hcb, pre_get3, pre_get2, pre_get, pre_get0, List.length_append, List.cons_append, List.nil_append, ifT, w64, cnE_sl, cast1, RR, RP, Ty.agg, Ty.size, Ty.sizes, eq_self, ne_eq, not_true, not_false_iff, reduceCtorEq, List.length_cons, List.length_nil, decide_true, decide_false, true_and, and_true, ite_true, ite_false, PT.full, enter0, setAll, forget, Fr.set, Fr.get, PT.get, PT.set, kof, ai, ev, ev1, evp, b_add, b_sub, b_mul, b_quo, b_rem, b_eql, b_neq, b_lss, b_leq, b_gtr, b_geq, b_seql, b_sneq, setD, resV, resL, res1, args, List.take_zero, List.drop_zero, List.take_nil, List.take_succ_cons, List.drop_succ_cons, Nat.reduceAdd, Nat.reduceLeDiff, reduceIte, Bool.not_true, Bool.not_false, Bool.false_eq_true, CA_some, Option.some.injEq, Nat.zero_add, Nat.mul_one, Nat.add_zero, setL, List.set_cons_zero, List.set_cons_succ, fillC]
    rw [← mkE_sl] at h9
    refine HdOk.go hd_ByteSS ⟨_, _, _, w5_h4⟩ h9 (k := ((((((((((k + ((zs.take i).map (cnE THead)).sum) + 1) + 1) + 1) + cnE (.sl (.int .u8)) w_v3) + cnE (.sl (.int .u8)) w_v4) + 1) + 1) + cnE (.sl (.int .u8)) w5_v2) + cnE (.sl (.int .u8)) w5_v3)) (by rw [cnE_sl]; omega) ?_
    simp (disch := omega) only [KC_eq, c65, hl, hat', hcb, pre_get3, pre_get2, pre_get, pre_get0, List.length_append, List.cons_append, List.nil_append, ifT, w64, cnE_sl, cast1, RR, RP, Ty.agg, Ty.size, Ty.sizes, eq_self, ne_eq, not_true, not_false_iff, reduceCtorEq, List.length_cons, List.length_nil, decide_true, decide_false, true_and, and_true, ite_true, ite_false, PT.full, enter0, setAll, forget, Fr.set, Fr.get, PT.get, PT.set, kof, ai, ev, ev1, evp, b_add, b_sub, b_mul, b_quo, b_rem, b_eql, b_neq, b_lss, b_leq, b_gtr, b_geq, b_seql, b_sneq, setD, resV, resL, res1, args, List.take_zero, List.drop_zero, List.take_nil, List.take_succ_cons, List.drop_succ_cons, Nat.reduceAdd, Nat.reduceLeDiff, reduceIte, Bool.not_true, Bool.not_false, Bool.false_eq_true, CA_some, Option.some.injEq, Nat.zero_add, Nat.mul_one, Nat.add_zero, setL, List.set_cons_zero, List.set_cons_succ, fillC]
    refine BR_dec (fun hn => absurd hn (by omega)) (fun hn => ?_)
    simp (disch := omega) only [KC_eq, c65, hl, hat', hcb, pre_get3, pre_get2, pre_get, pre_get0, List.length_append, List.cons_append, List.nil_append, ifT, w64, cnE_sl, cast1, RR, RP, Ty.agg, Ty.size, Ty.sizes, eq_self, ne_eq, not_true, not_false_iff, reduceCtorEq, List.length_cons, List.length_nil, decide_true, decide_false, true_and, and_true, ite_true, ite_false, PT.full, enter0, setAll, forget, Fr.set, Fr.get, PT.get, PT.set, kof, ai, ev, ev1, evp, b_add, b_sub, b_mul, b_quo, b_rem, b_eql, b_neq, b_lss, b_leq, b_gtr, b_geq, b_seql, b_sneq, setD, resV, resL, res1, args, List.take_zero, List.drop_zero, List.take_nil, List.take_succ_cons, List.drop_succ_cons, Nat.reduceAdd, Nat.reduceLeDiff, reduceIte, Bool.not_true, Bool.not_false, Bool.false_eq_true, CA_some, Option.some.injEq, Nat.zero_add, Nat.mul_one, Nat.add_zero, setL, List.set_cons_zero, List.set_cons_succ, fillC]
    refine ⟨i + 1, xs.length - (i + 1), by omega, ?_, rfl, by omega⟩
    have e1 : k + ((zs.take (i + 1)).map (cnE THead)).sum = (((((((((((k + ((zs.take i).map (cnE THead)).sum) + 1) + 1) + 1) + cnE (.sl (.int .u8)) w_v3) + cnE (.sl (.int .u8)) w_v4) + 1) + 1) + cnE (.sl (.int .u8)) w5_v2) + cnE (.sl (.int .u8)) w5_v3) + cnE (.sl (.sl (.int .u8))) w5_v4) := by omega
    rw [e1]
  · simp (disch := omega) only [c65, RR, RP, Ty.agg, Ty.size, Ty.sizes, eq_self, ne_eq, not_true, not_false_iff, reduceCtorEq, List.length_cons, List.length_nil, decide_true, decide_false, true_and, and_true, ite_true, ite_false, PT.full, enter0, setAll, forget, Fr.set, Fr.get, PT.get, PT.set, kof, ai, ev, ev1, evp, b_add, b_sub, b_mul, b_quo, b_rem, b_eql, b_neq, b_lss, b_leq, b_gtr, b_geq, b_seql, b_sneq, setD, resV, resL, res1, args, List.take_zero, List.drop_zero, List.take_nil, List.take_succ_cons, List.drop_succ_cons, Nat.reduceAdd, Nat.reduceLeDiff, reduceIte, Bool.not_true, Bool.not_false, Bool.false_eq_true, CA_some, Option.some.injEq, Nat.zero_add, Nat.mul_one, Nat.add_zero, setL, List.set_cons_zero, List.set_cons_succ, fillC]
    have : i = zs.length := by omega
    rw [this, List.take_length]
/-- laws.heldForest -/
def c60 : AF := ⟨2, 4, [.tmp 4], (.seq (.ops [.i (.lbox 2 (.s 0)), .i (.mov 4 (.c (.val false [.int .i64 0])))]) (.seq (.ops [.i (.fad 5 (.s 2) 5), .i (.ldl 6 2 (.s 5) 1 false), .i (.mov 7 (.s 1)), .i (.call 9 65 false [(.s 6), (.s 7)]), .i (.mov 1 (.s 8))]) (.seq (.seq (.ops [.i (.mov 9 (.s 1)), .i (.bin 10 .lss (.s 9) (.c (.val false [.int .i64 0])))]) (.cond (.s 10) (.seq (.ops [.i (.mov 4 (.c (.val false [.int .i64 (-1)])))]) .ret) .skip)) (.seq (.ops [.i (.mov 11 (.s 1)), .i (.mov 4 (.s 11))]) .ret))))⟩
theorem k60 : cd 60 = some c60 := by kernel_rfl
theorem hd_Forest : HdOk cd 60 TForest := by
  intro h cs v S k hT hv hk
  obtain ⟨h0_, cs0, S0_, hT⟩ := hT
  obtain ⟨wvs, rfl, wq0⟩ := hT.st
  obtain ⟨wv0, wr0, wS0, wT0, rfl, rfl, wh0, wq1⟩ := wq0.step
  obtain ⟨wv1, wr1, wS1, wT1, rfl, rfl, wh1, wq2⟩ := wq1.step
  obtain ⟨wc1, we1⟩ := wh1.one rfl
  rw [we1] at wh1
  obtain ⟨_, rfl, rfl⟩ := wq2
  have whsz : cs0.length = 6 := hT.size
  have f0 := cnT_fl TLimits wv0 rfl
  have m0 := fun n => mkT_fl TLimits wv0 n rfl
  have hcn : cnT TForest (.r [wv0, wv1]) = (0 + (cnT (.sl THead) wv1 + 0)) := by rw [show cnT TForest (.r [wv0, wv1]) = (cnT TLimits wv0 + (cnT (.sl THead) wv1 + 0)) from rfl, f0]
  have hmk : mkT TForest (.r [wv0, wv1]) k = .r [wv0, mkT (.sl THead) wv1 (k)] := by rw [show mkT TForest (.r [wv0, wv1]) k = .r [mkT TLimits wv0 (k), mkT (.sl THead) wv1 (k + cnT TLimits wv0)] from rfl, f0, m0]; rfl
  rw [hmk] at hv
  rw [hcn] at hk ⊢
  obtain ⟨vs, hvs, q0⟩ := hv.st
  simp only [Tv.r.injEq] at hvs
  subst hvs
  obtain ⟨v0, r0, S0, T0, hv0, hS0, h0, q1⟩ := q0.step
  obtain ⟨rfl, rfl⟩ := List.cons.inj hv0
  obtain ⟨v1, r1, S1, T1, hv1, hS1, h1, q2⟩ := q1.step
  obtain ⟨rfl, rfl⟩ := List.cons.inj hv1
  obtain ⟨c1, e1⟩ := h1.one rfl
  rw [e1] at h1
  have hsz : cs.length = 6 := hv.size
  simp only [Ty.size, Ty.sizes, Nat.reduceAdd, Nat.zero_add, List.drop_zero] at e1 hsz h0
  refine WS_enter k60 rfl ?_
  simp (disch := omega) only [KC_eq, c60, e1, hsz, ifT, w64, RR, RP, Ty.agg, Ty.size, Ty.sizes, eq_self, ne_eq, not_true, not_false_iff, reduceCtorEq, List.length_cons, List.length_nil, decide_true, decide_false, true_and, and_true, ite_true, ite_false, PT.full, enter0, setAll, forget, Fr.set, Fr.get, PT.get, PT.set, kof, ai, ev, ev1, evp, b_add, b_sub, b_mul, b_quo, b_rem, b_eql, b_neq, b_lss, b_leq, b_gtr, b_geq, b_seql, b_sneq, setD, resV, resL, res1, args, List.take_zero, List.drop_zero, List.take_nil, List.take_succ_cons, List.drop_succ_cons, Nat.reduceAdd, Nat.reduceLeDiff, reduceIte, Bool.not_true, Bool.not_false, Bool.false_eq_true, CA_some, Option.some.injEq, Nat.zero_add, Nat.mul_one, Nat.add_zero, setL, List.set_cons_zero, List.set_cons_succ, fillC]
  refine HdOk.go hd_HeadS ⟨_, _, _, wh1⟩ h1 (k := k) (by omega) ?_
  simp (disch := omega) only [KC_eq, c60, e1, hsz, ifT, w64, RR, RP, Ty.agg, Ty.size, Ty.sizes, eq_self, ne_eq, not_true, not_false_iff, reduceCtorEq, List.length_cons, List.length_nil, decide_true, decide_false, true_and, and_true, ite_true, ite_false, PT.full, enter0, setAll, forget, Fr.set, Fr.get, PT.get, PT.set, kof, ai, ev, ev1, evp, b_add, b_sub, b_mul, b_quo, b_rem, b_eql, b_neq, b_lss, b_leq, b_gtr, b_geq, b_seql, b_sneq, setD, resV, resL, res1, args, List.take_zero, List.drop_zero, List.take_nil, List.take_succ_cons, List.drop_succ_cons, Nat.reduceAdd, Nat.reduceLeDiff, reduceIte, Bool.not_true, Bool.not_false, Bool.false_eq_true, CA_some, Option.some.injEq, Nat.zero_add, Nat.mul_one, Nat.add_zero, setL, List.set_cons_zero, List.set_cons_succ, fillC]
  refine BR_dec (fun hn => absurd hn (by omega)) (fun hn => ?_)
  simp (disch := omega) only [KC_eq, c60, e1, hsz, ifT, w64, RR, RP, Ty.agg, Ty.size, Ty.sizes, eq_self, ne_eq, not_true, not_false_iff, reduceCtorEq, List.length_cons, List.length_nil, decide_true, decide_false, true_and, and_true, ite_true, ite_false, PT.full, enter0, setAll, forget, Fr.set, Fr.get, PT.get, PT.set, kof, ai, ev, ev1, evp, b_add, b_sub, b_mul, b_quo, b_rem, b_eql, b_neq, b_lss, b_leq, b_gtr, b_geq, b_seql, b_sneq, setD, resV, resL, res1, args, List.take_zero, List.drop_zero, List.take_nil, List.take_succ_cons, List.drop_succ_cons, Nat.reduceAdd, Nat.reduceLeDiff, reduceIte, Bool.not_true, Bool.not_false, Bool.false_eq_true, CA_some, Option.some.injEq, Nat.zero_add, Nat.mul_one, Nat.add_zero, setL, List.set_cons_zero, List.set_cons_succ, fillC]
  all_goals congr 3
  all_goals omega
end Go.Eng.U
set_option maxRecDepth 100000
set_option linter.unusedSimpArgs false
set_option linter.unusedVariables false
namespace Go.Eng.U
open Go.Eng.F (Forest Head plantR)
/-- laws.FnExactPlant -/
def c10 : AF := ⟨2, 7, [.tmp 4], (.seq (.ops [.i (.lbox 2 (.s 0)), .i (.lbox 3 (.s 1)), .i (.mov 4 (.c (.val false [.bool false])))]) (.seq (.ops [.i (.mov 5 (.c (.val false [.int .i64 1048576])))]) (.seq (.ops [.i (.ldl 17 2 (.s 2) 6 true), .i (.mov 18 (.s 5)), .i (.call 20 44 false [(.s 17), (.s 18)]), .i (.mov 5 (.s 19))]) (.seq (.seq (.ops [.i (.mov 20 (.s 5)), .i (.bin 21 .lss (.s 20) (.c (.val false [.int .i64 0])))]) (.cond (.s 21) (.seq (.ops [.i (.mov 4 (.c (.val false [.bool true])))]) .ret) .skip)) (.seq (.ops [.i (.ldl 22 3 (.s 3) 10 true), .i (.mov 23 (.s 5)), .i (.call 25 21 false [(.s 22), (.s 23)]), .i (.mov 5 (.s 24))]) (.seq (.seq (.ops [.i (.mov 25 (.s 5)), .i (.bin 26 .lss (.s 25) (.c (.val false [.int .i64 0])))]) (.cond (.s 26) (.seq (.ops [.i (.mov 4 (.c (.val false [.bool true])))]) .ret) .skip)) (.seq (.ops [.i (.ldl 28 2 (.s 2) 6 true), .i (.call 30 46 false [(.s 28)]), .i (.ldl 30 3 (.s 3) 10 true), .i (.call 32 25 false [(.s 30)]), .i (.call 33 58 false [(.s 29), (.s 31)]), .i (.mov 27 (.s 32)), .i (.ext 33 (.s 27) 0), .i (.ext 34 (.s 27) 1), .i (.lal 6 [.int .i64 0, .int .i64 0, .int .i64 0, .int .i64 0, .int .i64 0, .nils]), .i (.stl 6 (.s 6) (.s 33) 6), .i (.mov 7 (.s 34))]) (.seq (.ops [.i (.ldl 35 2 (.s 2) 6 true), .i (.call 37 46 false [(.s 35)]), .i (.lal 8 [.int .i64 0, .int .i64 0, .int .i64 0, .int .i64 0, .int .i64 0, .nils]), .i (.stl 8 (.s 8) (.s 36) 6)]) (.seq (.ops [.i (.ldl 37 3 (.s 3) 10 true), .i (.call 39 25 false [(.s 37)]), .i (.lal 9 [.int .i64 0, .int .i64 0, .int .i64 0, .nils, .nils, .int .i64 0, .int .i64 0, .nils, .nils, .nils]), .i (.stl 9 (.s 9) (.s 38) 10)]) (.seq (.ops [.i (.ldl 40 8 (.s 8) 6 true), .i (.ldl 41 9 (.s 9) 10 true), .i (.call 43 59 false [(.s 40), (.s 41)]), .i (.mov 39 (.s 42)), .i (.ext 43 (.s 39) 0), .i (.ext 44 (.s 39) 1), .i (.lal 10 [.int .i64 0, .int .i64 0, .int .i64 0, .int .i64 0, .int .i64 0, .nils]), .i (.stl 10 (.s 10) (.s 43) 6), .i (.mov 11 (.s 44))]) (.seq (.seq (.ops [.i (.ldl 45 10 (.s 10) 6 true), .i (.ldl 46 6 (.s 6) 6 true), .i (.call 48 49 false [(.s 45), (.s 46)]), .i (.not 48 (.s 47)), .i (.mov 49 (.s 48)), .g 49 false 51 (.mov 50 (.s 11)), .g 49 false 52 (.mov 51 (.s 7)), .g 49 false 53 (.beq 52 true (.s 50) (.s 51)), .i (.pick 53 (.s 49) (.c (.val false [.bool true])) (.s 52))]) (.cond (.s 53) (.seq (.ops [.i (.mov 4 (.c (.val false [.bool false])))]) .ret) .skip)) (.seq (.seq (.ops [.i (.ldl 54 8 (.s 8) 6 true), .i (.ldl 55 2 (.s 2) 6 true), .i (.call 57 46 false [(.s 55)]), .i (.call 58 49 false [(.s 54), (.s 56)]), .i (.not 58 (.s 57))]) (.cond (.s 58) (.seq (.ops [.i (.mov 4 (.c (.val false [.bool false])))]) .ret) .skip)) (.seq (.seq (.ops [.i (.ldl 59 9 (.s 9) 10 true), .i (.ldl 60 3 (.s 3) 10 true), .i (.call 62 25 false [(.s 60)]), .i (.call 63 28 false [(.s 59), (.s 61)]), .i (.not 63 (.s 62))]) (.cond (.s 63) (.seq (.ops [.i (.mov 4 (.c (.val false [.bool false])))]) .ret) .skip)) (.seq (.ops [.i (.mov 12 (.c (.val false [.int .i64 1])))]) (.seq (.ops [.i (.ldl 64 8 (.s 8) 6 true), .i (.mov 65 (.s 12)), .i (.call 67 55 false [(.s 64), (.s 65)]), .i (.mov 12 (.s 66))]) (.seq (.ops [.i (.ldl 67 9 (.s 9) 10 true), .i (.mov 68 (.s 12)), .i (.call 70 30 false [(.s 67), (.s 68)]), .i (.mov 12 (.s 69))]) (.seq (.seq (.ops [.i (.mov 70 (.s 12)), .i (.bin 71 .lss (.s 70) (.c (.val false [.int .i64 0]))), .i (.mov 72 (.s 71)), .g 72 false 74 (.ldl 73 10 (.s 10) 6 true), .g 72 false 75 (.ldl 74 6 (.s 6) 6 true), .g 72 false 76 (.call 76 49 false [(.s 73), (.s 74)]), .g 72 false 77 (.not 76 (.s 75)), .i (.pick 77 (.s 72) (.c (.val false [.bool true])) (.s 76)), .i (.mov 78 (.s 77)), .g 78 false 80 (.mov 79 (.s 11)), .g 78 false 81 (.mov 80 (.s 7)), .g 78 false 82 (.beq 81 true (.s 79) (.s 80)), .i (.pick 82 (.s 78) (.c (.val false [.bool true])) (.s 81))]) (.cond (.s 82) (.seq (.ops [.i (.mov 4 (.c (.val false [.bool false])))]) .ret) .skip)) (.seq (.ops [.i (.mov 13 (.c (.val false [.int .i64 1])))]) (.seq (.ops [.i (.ldl 83 10 (.s 10) 6 true), .i (.mov 84 (.s 13)), .i (.call 86 55 false [(.s 83), (.s 84)]), .i (.mov 13 (.s 85))]) (.seq (.ops [.i (.mov 14 (.c (.val false [.int .i64 1])))]) (.seq (.ops [.i (.ldl 86 10 (.s 10) 6 true), .i (.mov 87 (.s 14)), .i (.call 89 60 false [(.s 86), (.s 87)]), .i (.mov 14 (.s 88))]) (.seq (.seq (.ops [.i (.mov 89 (.s 14)), .i (.bin 90 .lss (.s 89) (.c (.val false [.int .i64 0])))]) (.cond (.s 90) (.seq (.ops [.i (.mov 4 (.c (.val false [.bool false])))]) .ret) .skip)) (.seq (.seq (.ops [.i (.mov 91 (.s 14)), .i (.mov 92 (.s 13)), .i (.bin 93 .neq (.s 91) (.s 92))]) (.cond (.s 93) (.seq (.ops [.i (.mov 4 (.c (.val false [.bool false])))]) .ret) .skip)) (.seq (.ops [.i (.ldl 95 2 (.s 2) 6 true), .i (.call 97 46 false [(.s 95)]), .i (.ldl 97 3 (.s 3) 10 true), .i (.call 99 25 false [(.s 97)]), .i (.call 100 59 false [(.s 96), (.s 98)]), .i (.mov 94 (.s 99)), .i (.ext 100 (.s 94) 0), .i (.ext 101 (.s 94) 1), .i (.lal 15 [.int .i64 0, .int .i64 0, .int .i64 0, .int .i64 0, .int .i64 0, .nils]), .i (.stl 15 (.s 15) (.s 100) 6), .i (.mov 16 (.s 101))]) (.seq (.seq (.ops [.i (.ldl 102 15 (.s 15) 6 true), .i (.ldl 103 6 (.s 6) 6 true), .i (.call 105 49 false [(.s 102), (.s 103)]), .i (.not 105 (.s 104)), .i (.mov 106 (.s 105)), .g 106 false 108 (.mov 107 (.s 16)), .g 106 false 109 (.mov 108 (.s 7)), .g 106 false 110 (.beq 109 true (.s 107) (.s 108)), .i (.pick 110 (.s 106) (.c (.val false [.bool true])) (.s 109))]) (.cond (.s 110) (.seq (.ops [.i (.mov 4 (.c (.val false [.bool false])))]) .ret) .skip)) (.seq (.ops [.i (.mov 14 (.c (.val false [.int .i64 1])))]) (.seq (.ops [.i (.ldl 111 10 (.s 10) 6 true), .i (.mov 112 (.s 14)), .i (.call 114 60 false [(.s 111), (.s 112)]), .i (.mov 14 (.s 113))]) (.seq (.seq (.ops [.i (.mov 114 (.s 14)), .i (.bin 115 .lss (.s 114) (.c (.val false [.int .i64 0])))]) (.cond (.s 115) (.seq (.ops [.i (.mov 4 (.c (.val false [.bool false])))]) .ret) .skip)) (.seq (.seq (.ops [.i (.mov 116 (.s 14)), .i (.mov 117 (.s 13)), .i (.bin 118 .neq (.s 116) (.s 117))]) (.cond (.s 118) (.seq (.ops [.i (.mov 4 (.c (.val false [.bool false])))]) .ret) .skip)) (.seq (.ops [.i (.mov 4 (.c (.val false [.bool true])))]) .ret))))))))))))))))))))))))))))))⟩
theorem k10 : cd 10 = some c10 := by kernel_rfl
theorem lenb {h : H} {kk : IntKind} {c : C} {v : Tv} {S : List Nat} (hv : Rp h (.sl (.int kk)) [c] v S) : lenC c = some (wt v) := by
  obtain ⟨c2, xs, id, off, bs, S', e, rfl, hm, hl, hat, hce, hbs, hel, hS⟩ := hv.view
  injection e with e
  subst e
  rw [hl]
  simp [wt, (wts_int hel).1]
theorem law_Plant : ∀ h vs, Argp h [TForest, THead] vs → WC cd 10 vs h (fun r _ => r = .val false [.bool true]) := by
  intro h vs ha
  obtain ⟨cs0, v0, S0, r0, rfl, hv0, ha0⟩ := ha
  obtain ⟨cs1, v1, S1, r1, rfl, hv1, ha1⟩ := ha0
  have hr0 : r1 = [] := ha1
  subst hr0
  have hsz0 : cs0.length = 6 := hv0.size
  have hall0 : cs0.take 6 = cs0 := List.take_of_length_le (by omega)
  have hsz1 : cs1.length = 10 := hv1.size
  have hall1 : cs1.take 10 = cs1 := List.take_of_length_le (by omega)
  obtain ⟨f, rfl⟩ := Forest.ex hv0.ok
  obtain ⟨h_, rfl⟩ := Head.ex hv1.ok
  have hc0 : cnT TForest f.tv ≤ 15 * (1 + wt f.tv) := Nat.le_trans (cnT_le _ _) (cnE_le _ _)
  have hc1 : cnT THead h_.tv ≤ 10 * (1 + wt h_.tv) := Nat.le_trans (cnT_le _ _) (cnE_le _ _)
  have hr0 : cnT TForest (plantR f h_).tv ≤ 15 * (1 + wt (plantR f h_).tv) := Nat.le_trans (cnT_le _ _) (cnE_le _ _)
  have hw0 := F.plant_wt f h_
  refine WS_enter k10 rfl ?_
  simp (disch := omega) only [KC_eq, c10, hsz0, hall0, hsz1, hall1, ifT, w64, valR, beq_self_eq_true, bne_self_eq_false, List.getElem?_cons_zero, List.getElem?_cons_succ, Bool.or_false, Bool.false_or, Bool.or_self, RR, RP, Ty.agg, Ty.size, Ty.sizes, eq_self, ne_eq, not_true, not_false_iff, reduceCtorEq, List.length_cons, List.length_nil, decide_true, decide_false, true_and, and_true, ite_true, ite_false, PT.full, enter0, setAll, forget, Fr.set, Fr.get, PT.get, PT.set, kof, ai, ev, ev1, evp, b_add, b_sub, b_mul, b_quo, b_rem, b_eql, b_neq, b_lss, b_leq, b_gtr, b_geq, b_seql, b_sneq, setD, resV, resL, res1, args, List.take_zero, List.drop_zero, List.take_nil, List.take_succ_cons, List.drop_succ_cons, Nat.reduceAdd, Nat.reduceLeDiff, reduceIte, Bool.not_true, Bool.not_false, Bool.false_eq_true, CA_some, Option.some.injEq, Nat.zero_add, Nat.mul_one, Nat.add_zero, setL, List.set_cons_zero, List.set_cons_succ, fillC]
  refine SzOk.go sz_Forest hv0 (k := 1048576) (by omega) (fun hf0 => ?_) (fun hf0 => ?_)
  case refine_2 =>
    simp (disch := omega) only [KC_eq, c10, hsz0, hall0, hsz1, hall1, ifT, w64, valR, beq_self_eq_true, bne_self_eq_false, List.getElem?_cons_zero, List.getElem?_cons_succ, Bool.or_false, Bool.false_or, Bool.or_self, RR, RP, Ty.agg, Ty.size, Ty.sizes, eq_self, ne_eq, not_true, not_false_iff, reduceCtorEq, List.length_cons, List.length_nil, decide_true, decide_false, true_and, and_true, ite_true, ite_false, PT.full, enter0, setAll, forget, Fr.set, Fr.get, PT.get, PT.set, kof, ai, ev, ev1, evp, b_add, b_sub, b_mul, b_quo, b_rem, b_eql, b_neq, b_lss, b_leq, b_gtr, b_geq, b_seql, b_sneq, setD, resV, resL, res1, args, List.take_zero, List.drop_zero, List.take_nil, List.take_succ_cons, List.drop_succ_cons, Nat.reduceAdd, Nat.reduceLeDiff, reduceIte, Bool.not_true, Bool.not_false, Bool.false_eq_true, CA_some, Option.some.injEq, Nat.zero_add, Nat.mul_one, Nat.add_zero, setL, List.set_cons_zero, List.set_cons_succ, fillC]
    refine BR_dec (fun hn => ?_) (fun hn => absurd (show (-1 : Int) < 0 by omega) hn)
    simp (disch := omega) only [KC_eq, c10, hsz0, hall0, hsz1, hall1, ifT, w64, valR, beq_self_eq_true, bne_self_eq_false, List.getElem?_cons_zero, List.getElem?_cons_succ, Bool.or_false, Bool.false_or, Bool.or_self, RR, RP, Ty.agg, Ty.size, Ty.sizes, eq_self, ne_eq, not_true, not_false_iff, reduceCtorEq, List.length_cons, List.length_nil, decide_true, decide_false, true_and, and_true, ite_true, ite_false, PT.full, enter0, setAll, forget, Fr.set, Fr.get, PT.get, PT.set, kof, ai, ev, ev1, evp, b_add, b_sub, b_mul, b_quo, b_rem, b_eql, b_neq, b_lss, b_leq, b_gtr, b_geq, b_seql, b_sneq, setD, resV, resL, res1, args, List.take_zero, List.drop_zero, List.take_nil, List.take_succ_cons, List.drop_succ_cons, Nat.reduceAdd, Nat.reduceLeDiff, reduceIte, Bool.not_true, Bool.not_false, Bool.false_eq_true, CA_some, Option.some.injEq, Nat.zero_add, Nat.mul_one, Nat.add_zero, setL, List.set_cons_zero, List.set_cons_succ, fillC]
  simp (disch := omega) only [KC_eq, c10, hsz0, hall0, hsz1, hall1, ifT, w64, valR, beq_self_eq_true, bne_self_eq_false, List.getElem?_cons_zero, List.getElem?_cons_succ, Bool.or_false, Bool.false_or, Bool.or_self, RR, RP, Ty.agg, Ty.size, Ty.sizes, eq_self, ne_eq, not_true, not_false_iff, reduceCtorEq, List.length_cons, List.length_nil, decide_true, decide_false, true_and, and_true, ite_true, ite_false, PT.full, enter0, setAll, forget, Fr.set, Fr.get, PT.get, PT.set, kof, ai, ev, ev1, evp, b_add, b_sub, b_mul, b_quo, b_rem, b_eql, b_neq, b_lss, b_leq, b_gtr, b_geq, b_seql, b_sneq, setD, resV, resL, res1, args, List.take_zero, List.drop_zero, List.take_nil, List.take_succ_cons, List.drop_succ_cons, Nat.reduceAdd, Nat.reduceLeDiff, reduceIte, Bool.not_true, Bool.not_false, Bool.false_eq_true, CA_some, Option.some.injEq, Nat.zero_add, Nat.mul_one, Nat.add_zero, setL, List.set_cons_zero, List.set_cons_succ, fillC]
  refine BR_dec (fun hn => absurd hn (by omega)) (fun hn => ?_)
  simp (disch := omega) only [KC_eq, c10, hsz0, hall0, hsz1, hall1, ifT, w64, valR, beq_self_eq_true, bne_self_eq_false, List.getElem?_cons_zero, List.getElem?_cons_succ, Bool.or_false, Bool.false_or, Bool.or_self, RR, RP, Ty.agg, Ty.size, Ty.sizes, eq_self, ne_eq, not_true, not_false_iff, reduceCtorEq, List.length_cons, List.length_nil, decide_true, decide_false, true_and, and_true, ite_true, ite_false, PT.full, enter0, setAll, forget, Fr.set, Fr.get, PT.get, PT.set, kof, ai, ev, ev1, evp, b_add, b_sub, b_mul, b_quo, b_rem, b_eql, b_neq, b_lss, b_leq, b_gtr, b_geq, b_seql, b_sneq, setD, resV, resL, res1, args, List.take_zero, List.drop_zero, List.take_nil, List.take_succ_cons, List.drop_succ_cons, Nat.reduceAdd, Nat.reduceLeDiff, reduceIte, Bool.not_true, Bool.not_false, Bool.false_eq_true, CA_some, Option.some.injEq, Nat.zero_add, Nat.mul_one, Nat.add_zero, setL, List.set_cons_zero, List.set_cons_succ, fillC]
  refine SzOk.go sz_Head hv1 (k := 1048576 - wt f.tv) (by omega) (fun hf1 => ?_) (fun hf1 => ?_)
  case refine_2 =>
    simp (disch := omega) only [KC_eq, c10, hsz0, hall0, hsz1, hall1, ifT, w64, valR, beq_self_eq_true, bne_self_eq_false, List.getElem?_cons_zero, List.getElem?_cons_succ, Bool.or_false, Bool.false_or, Bool.or_self, RR, RP, Ty.agg, Ty.size, Ty.sizes, eq_self, ne_eq, not_true, not_false_iff, reduceCtorEq, List.length_cons, List.length_nil, decide_true, decide_false, true_and, and_true, ite_true, ite_false, PT.full, enter0, setAll, forget, Fr.set, Fr.get, PT.get, PT.set, kof, ai, ev, ev1, evp, b_add, b_sub, b_mul, b_quo, b_rem, b_eql, b_neq, b_lss, b_leq, b_gtr, b_geq, b_seql, b_sneq, setD, resV, resL, res1, args, List.take_zero, List.drop_zero, List.take_nil, List.take_succ_cons, List.drop_succ_cons, Nat.reduceAdd, Nat.reduceLeDiff, reduceIte, Bool.not_true, Bool.not_false, Bool.false_eq_true, CA_some, Option.some.injEq, Nat.zero_add, Nat.mul_one, Nat.add_zero, setL, List.set_cons_zero, List.set_cons_succ, fillC]
    refine BR_dec (fun hn => ?_) (fun hn => absurd (show (-1 : Int) < 0 by omega) hn)
    simp (disch := omega) only [KC_eq, c10, hsz0, hall0, hsz1, hall1, ifT, w64, valR, beq_self_eq_true, bne_self_eq_false, List.getElem?_cons_zero, List.getElem?_cons_succ, Bool.or_false, Bool.false_or, Bool.or_self, RR, RP, Ty.agg, Ty.size, Ty.sizes, eq_self, ne_eq, not_true, not_false_iff, reduceCtorEq, List.length_cons, List.length_nil, decide_true, decide_false, true_and, and_true, ite_true, ite_false, PT.full, enter0, setAll, forget, Fr.set, Fr.get, PT.get, PT.set, kof, ai, ev, ev1, evp, b_add, b_sub, b_mul, b_quo, b_rem, b_eql, b_neq, b_lss, b_leq, b_gtr, b_geq, b_seql, b_sneq, setD, resV, resL, res1, args, List.take_zero, List.drop_zero, List.take_nil, List.take_succ_cons, List.drop_succ_cons, Nat.reduceAdd, Nat.reduceLeDiff, reduceIte, Bool.not_true, Bool.not_false, Bool.false_eq_true, CA_some, Option.some.injEq, Nat.zero_add, Nat.mul_one, Nat.add_zero, setL, List.set_cons_zero, List.set_cons_succ, fillC]
  simp (disch := omega) only [KC_eq, c10, hsz0, hall0, hsz1, hall1, ifT, w64, valR, beq_self_eq_true, bne_self_eq_false, List.getElem?_cons_zero, List.getElem?_cons_succ, Bool.or_false, Bool.false_or, Bool.or_self, RR, RP, Ty.agg, Ty.size, Ty.sizes, eq_self, ne_eq, not_true, not_false_iff, reduceCtorEq, List.length_cons, List.length_nil, decide_true, decide_false, true_and, and_true, ite_true, ite_false, PT.full, enter0, setAll, forget, Fr.set, Fr.get, PT.get, PT.set, kof, ai, ev, ev1, evp, b_add, b_sub, b_mul, b_quo, b_rem, b_eql, b_neq, b_lss, b_leq, b_gtr, b_geq, b_seql, b_sneq, setD, resV, resL, res1, args, List.take_zero, List.drop_zero, List.take_nil, List.take_succ_cons, List.drop_succ_cons, Nat.reduceAdd, Nat.reduceLeDiff, reduceIte, Bool.not_true, Bool.not_false, Bool.false_eq_true, CA_some, Option.some.injEq, Nat.zero_add, Nat.mul_one, Nat.add_zero, setL, List.set_cons_zero, List.set_cons_succ, fillC]
  refine BR_dec (fun hn => absurd hn (by omega)) (fun hn => ?_)
  simp (disch := omega) only [KC_eq, c10, hsz0, hall0, hsz1, hall1, ifT, w64, valR, beq_self_eq_true, bne_self_eq_false, List.getElem?_cons_zero, List.getElem?_cons_succ, Bool.or_false, Bool.false_or, Bool.or_self, RR, RP, Ty.agg, Ty.size, Ty.sizes, eq_self, ne_eq, not_true, not_false_iff, reduceCtorEq, List.length_cons, List.length_nil, decide_true, decide_false, true_and, and_true, ite_true, ite_false, PT.full, enter0, setAll, forget, Fr.set, Fr.get, PT.get, PT.set, kof, ai, ev, ev1, evp, b_add, b_sub, b_mul, b_quo, b_rem, b_eql, b_neq, b_lss, b_leq, b_gtr, b_geq, b_seql, b_sneq, setD, resV, resL, res1, args, List.take_zero, List.drop_zero, List.take_nil, List.take_succ_cons, List.drop_succ_cons, Nat.reduceAdd, Nat.reduceLeDiff, reduceIte, Bool.not_true, Bool.not_false, Bool.false_eq_true, CA_some, Option.some.injEq, Nat.zero_add, Nat.mul_one, Nat.add_zero, setL, List.set_cons_zero, List.set_cons_succ, fillC]
  refine WC_call (to_Forest hv0 (by omega)) ?_
  rintro r0 g0 ⟨t0, d0, U0, hg0, rfl, z0, o0, l0⟩
  have n0 := len_app' hg0
  have b0 := z0.lt
  have hd0 : d0.length = 6 := z0.size
  have ht0 : d0.take 6 = d0 := List.take_of_length_le (by omega)
  have hs0_0 : setL [.int .i64 0, .int .i64 0, .int .i64 0, .int .i64 0, .int .i64 0, .nils] 0 d0 = d0 := setL_all (by rw [hd0]; rfl)
  simp (disch := omega) only [KC_eq, c10, hsz0, hall0, hsz1, hall1, hd0, ht0, hs0_0, ifT, w64, valR, beq_self_eq_true, bne_self_eq_false, List.getElem?_cons_zero, List.getElem?_cons_succ, Bool.or_false, Bool.false_or, Bool.or_self, RR, RP, Ty.agg, Ty.size, Ty.sizes, eq_self, ne_eq, not_true, not_false_iff, reduceCtorEq, List.length_cons, List.length_nil, decide_true, decide_false, true_and, and_true, ite_true, ite_false, PT.full, enter0, setAll, forget, Fr.set, Fr.get, PT.get, PT.set, kof, ai, ev, ev1, evp, b_add, b_sub, b_mul, b_quo, b_rem, b_eql, b_neq, b_lss, b_leq, b_gtr, b_geq, b_seql, b_sneq, setD, resV, resL, res1, args, List.take_zero, List.drop_zero, List.take_nil, List.take_succ_cons, List.drop_succ_cons, Nat.reduceAdd, Nat.reduceLeDiff, reduceIte, Bool.not_true, Bool.not_false, Bool.false_eq_true, CA_some, Option.some.injEq, Nat.zero_add, Nat.mul_one, Nat.add_zero, setL, List.set_cons_zero, List.set_cons_succ, fillC]
  refine WC_call (to_Head (Rp.app' hg0 hv1) (by omega)) ?_
  rintro r1 g1 ⟨t1, d1, U1, hg1, rfl, z1, o1, l1⟩
  have n1 := len_app' hg1
  have b1 := z1.lt
  have hd1 : d1.length = 10 := z1.size
  have ht1 : d1.take 10 = d1 := List.take_of_length_le (by omega)
  have hs1_0 : setL [.int .i64 0, .int .i64 0, .int .i64 0, .nils, .nils, .int .i64 0, .int .i64 0, .nils, .nils, .nils] 0 d1 = d1 := setL_all (by rw [hd1]; rfl)
  simp (disch := omega) only [KC_eq, c10, hsz0, hall0, hsz1, hall1, hd0, ht0, hs0_0, hd1, ht1, hs1_0, ifT, w64, valR, beq_self_eq_true, bne_self_eq_false, List.getElem?_cons_zero, List.getElem?_cons_succ, Bool.or_false, Bool.false_or, Bool.or_self, RR, RP, Ty.agg, Ty.size, Ty.sizes, eq_self, ne_eq, not_true, not_false_iff, reduceCtorEq, List.length_cons, List.length_nil, decide_true, decide_false, true_and, and_true, ite_true, ite_false, PT.full, enter0, setAll, forget, Fr.set, Fr.get, PT.get, PT.set, kof, ai, ev, ev1, evp, b_add, b_sub, b_mul, b_quo, b_rem, b_eql, b_neq, b_lss, b_leq, b_gtr, b_geq, b_seql, b_sneq, setD, resV, resL, res1, args, List.take_zero, List.drop_zero, List.take_nil, List.take_succ_cons, List.drop_succ_cons, Nat.reduceAdd, Nat.reduceLeDiff, reduceIte, Bool.not_true, Bool.not_false, Bool.false_eq_true, CA_some, Option.some.injEq, Nat.zero_add, Nat.mul_one, Nat.add_zero, setL, List.set_cons_zero, List.set_cons_succ, fillC]
  refine WC_call (F.io_spec_Plant ⟨_, _, rfl, ⟨_, (Rp.app' hg1 z0)⟩, ⟨_, _, rfl, ⟨_, z1⟩, rfl⟩⟩ (by omega) (by omega)) ?_
  rintro r2 g2 ⟨t2, css2, U2, hg2, rfl, zz2, o2, l2⟩
  have n2 := len_app' hg2
  obtain ⟨d2_0, cr2_0, U2_0, V2_0, rfl, rfl, z2_0, zz2_0⟩ := zz2
  obtain ⟨d2_1, cr2_1, U2_1, V2_1, rfl, rfl, z2_1, zz2_1⟩ := zz2_0
  obtain ⟨q2_1, rfl, hq2_1, rfl⟩ := z2_1.bool
  injection hq2_1 with hq2_1; subst hq2_1
  obtain ⟨rfl, rfl⟩ := zz2_1
  simp only [List.nil_append, List.append_nil] at o2 l2
  have o2_0 := o2
  have b2_0 := z2_0.lt
  have l2_0 := l2
  have hd2_0 : d2_0.length = 6 := z2_0.size
  have ht2_0 : d2_0.take 6 = d2_0 := List.take_of_length_le (by omega)
  have hs2_0_0 : setL [.int .i64 0, .int .i64 0, .int .i64 0, .int .i64 0, .int .i64 0, .nils] 0 d2_0 = d2_0 := setL_all (by rw [hd2_0]; rfl)
  simp (disch := omega) only [KC_eq, c10, hsz0, hall0, hsz1, hall1, hd0, ht0, hs0_0, hd1, ht1, hs1_0, hd2_0, ht2_0, hs2_0_0, ifT, w64, valR, beq_self_eq_true, bne_self_eq_false, List.getElem?_cons_zero, List.getElem?_cons_succ, Bool.or_false, Bool.false_or, Bool.or_self, RR, RP, Ty.agg, Ty.size, Ty.sizes, eq_self, ne_eq, not_true, not_false_iff, reduceCtorEq, List.length_cons, List.length_nil, decide_true, decide_false, true_and, and_true, ite_true, ite_false, PT.full, enter0, setAll, forget, Fr.set, Fr.get, PT.get, PT.set, kof, ai, ev, ev1, evp, b_add, b_sub, b_mul, b_quo, b_rem, b_eql, b_neq, b_lss, b_leq, b_gtr, b_geq, b_seql, b_sneq, setD, resV, resL, res1, args, List.take_zero, List.drop_zero, List.take_nil, List.take_succ_cons, List.drop_succ_cons, Nat.reduceAdd, Nat.reduceLeDiff, reduceIte, Bool.not_true, Bool.not_false, Bool.false_eq_true, CA_some, Option.some.injEq, Nat.zero_add, Nat.mul_one, Nat.add_zero, setL, List.set_cons_zero, List.set_cons_succ, fillC]
  refine WC_call (to_Forest (Rp.app' hg2 (Rp.app' hg1 (Rp.app' hg0 hv0))) (by omega)) ?_
  rintro r3 g3 ⟨t3, d3, U3, hg3, rfl, z3, o3, l3⟩
  have n3 := len_app' hg3
  have b3 := z3.lt
  have hd3 : d3.length = 6 := z3.size
  have ht3 : d3.take 6 = d3 := List.take_of_length_le (by omega)
  have hs3_0 : setL [.int .i64 0, .int .i64 0, .int .i64 0, .int .i64 0, .int .i64 0, .nils] 0 d3 = d3 := setL_all (by rw [hd3]; rfl)
  simp (disch := omega) only [KC_eq, c10, hsz0, hall0, hsz1, hall1, hd0, ht0, hs0_0, hd1, ht1, hs1_0, hd2_0, ht2_0, hs2_0_0, hd3, ht3, hs3_0, ifT, w64, valR, beq_self_eq_true, bne_self_eq_false, List.getElem?_cons_zero, List.getElem?_cons_succ, Bool.or_false, Bool.false_or, Bool.or_self, RR, RP, Ty.agg, Ty.size, Ty.sizes, eq_self, ne_eq, not_true, not_false_iff, reduceCtorEq, List.length_cons, List.length_nil, decide_true, decide_false, true_and, and_true, ite_true, ite_false, PT.full, enter0, setAll, forget, Fr.set, Fr.get, PT.get, PT.set, kof, ai, ev, ev1, evp, b_add, b_sub, b_mul, b_quo, b_rem, b_eql, b_neq, b_lss, b_leq, b_gtr, b_geq, b_seql, b_sneq, setD, resV, resL, res1, args, List.take_zero, List.drop_zero, List.take_nil, List.take_succ_cons, List.drop_succ_cons, Nat.reduceAdd, Nat.reduceLeDiff, reduceIte, Bool.not_true, Bool.not_false, Bool.false_eq_true, CA_some, Option.some.injEq, Nat.zero_add, Nat.mul_one, Nat.add_zero, setL, List.set_cons_zero, List.set_cons_succ, fillC]
  refine WC_call (to_Head (Rp.app' hg3 (Rp.app' hg2 (Rp.app' hg1 (Rp.app' hg0 hv1)))) (by omega)) ?_
  rintro r4 g4 ⟨t4, d4, U4, hg4, rfl, z4, o4, l4⟩
  have n4 := len_app' hg4
  have b4 := z4.lt
  have hd4 : d4.length = 10 := z4.size
  have ht4 : d4.take 10 = d4 := List.take_of_length_le (by omega)
  have hs4_0 : setL [.int .i64 0, .int .i64 0, .int .i64 0, .nils, .nils, .int .i64 0, .int .i64 0, .nils, .nils, .nils] 0 d4 = d4 := setL_all (by rw [hd4]; rfl)
  simp (disch := omega) only [KC_eq, c10, hsz0, hall0, hsz1, hall1, hd0, ht0, hs0_0, hd1, ht1, hs1_0, hd2_0, ht2_0, hs2_0_0, hd3, ht3, hs3_0, hd4, ht4, hs4_0, ifT, w64, valR, beq_self_eq_true, bne_self_eq_false, List.getElem?_cons_zero, List.getElem?_cons_succ, Bool.or_false, Bool.false_or, Bool.or_self, RR, RP, Ty.agg, Ty.size, Ty.sizes, eq_self, ne_eq, not_true, not_false_iff, reduceCtorEq, List.length_cons, List.length_nil, decide_true, decide_false, true_and, and_true, ite_true, ite_false, PT.full, enter0, setAll, forget, Fr.set, Fr.get, PT.get, PT.set, kof, ai, ev, ev1, evp, b_add, b_sub, b_mul, b_quo, b_rem, b_eql, b_neq, b_lss, b_leq, b_gtr, b_geq, b_seql, b_sneq, setD, resV, resL, res1, args, List.take_zero, List.drop_zero, List.take_nil, List.take_succ_cons, List.drop_succ_cons, Nat.reduceAdd, Nat.reduceLeDiff, reduceIte, Bool.not_true, Bool.not_false, Bool.false_eq_true, CA_some, Option.some.injEq, Nat.zero_add, Nat.mul_one, Nat.add_zero, setL, List.set_cons_zero, List.set_cons_succ, fillC]
  refine WC_call (F.io_impl_Plant ⟨_, _, rfl, ⟨_, (Rp.app' hg4 z3)⟩, ⟨_, _, rfl, ⟨_, z4⟩, rfl⟩⟩ (by omega) (by omega)) ?_
  rintro r5 g5 ⟨t5, css5, U5, hg5, rfl, zz5, o5, l5⟩
  have n5 := len_app' hg5
  obtain ⟨d5_0, cr5_0, U5_0, V5_0, rfl, rfl, z5_0, zz5_0⟩ := zz5
  obtain ⟨d5_1, cr5_1, U5_1, V5_1, rfl, rfl, z5_1, zz5_1⟩ := zz5_0
  obtain ⟨q5_1, rfl, hq5_1, rfl⟩ := z5_1.bool
  injection hq5_1 with hq5_1; subst hq5_1
  obtain ⟨rfl, rfl⟩ := zz5_1
  simp only [List.nil_append, List.append_nil] at o5 l5
  have o5_0 := o5
  have b5_0 := z5_0.lt
  have l5_0 := l5
  have hd5_0 : d5_0.length = 6 := z5_0.size
  have ht5_0 : d5_0.take 6 = d5_0 := List.take_of_length_le (by omega)
  have hs5_0_0 : setL [.int .i64 0, .int .i64 0, .int .i64 0, .int .i64 0, .int .i64 0, .nils] 0 d5_0 = d5_0 := setL_all (by rw [hd5_0]; rfl)
  simp (disch := omega) only [KC_eq, c10, hsz0, hall0, hsz1, hall1, hd0, ht0, hs0_0, hd1, ht1, hs1_0, hd2_0, ht2_0, hs2_0_0, hd3, ht3, hs3_0, hd4, ht4, hs4_0, hd5_0, ht5_0, hs5_0_0, ifT, w64, valR, beq_self_eq_true, bne_self_eq_false, List.getElem?_cons_zero, List.getElem?_cons_succ, Bool.or_false, Bool.false_or, Bool.or_self, RR, RP, Ty.agg, Ty.size, Ty.sizes, eq_self, ne_eq, not_true, not_false_iff, reduceCtorEq, List.length_cons, List.length_nil, decide_true, decide_false, true_and, and_true, ite_true, ite_false, PT.full, enter0, setAll, forget, Fr.set, Fr.get, PT.get, PT.set, kof, ai, ev, ev1, evp, b_add, b_sub, b_mul, b_quo, b_rem, b_eql, b_neq, b_lss, b_leq, b_gtr, b_geq, b_seql, b_sneq, setD, resV, resL, res1, args, List.take_zero, List.drop_zero, List.take_nil, List.take_succ_cons, List.drop_succ_cons, Nat.reduceAdd, Nat.reduceLeDiff, reduceIte, Bool.not_true, Bool.not_false, Bool.false_eq_true, CA_some, Option.some.injEq, Nat.zero_add, Nat.mul_one, Nat.add_zero, setL, List.set_cons_zero, List.set_cons_succ, fillC]
  refine EqOk.go eq_Forest z5_0 (Rp.app' hg5 (Rp.app' hg4 (Rp.app' hg3 z2_0))) (fun _ => ?_) (fun hne => absurd rfl hne)
  simp (disch := omega) only [KC_eq, c10, hsz0, hall0, hsz1, hall1, hd0, ht0, hs0_0, hd1, ht1, hs1_0, hd2_0, ht2_0, hs2_0_0, hd3, ht3, hs3_0, hd4, ht4, hs4_0, hd5_0, ht5_0, hs5_0_0, ifT, w64, valR, beq_self_eq_true, bne_self_eq_false, List.getElem?_cons_zero, List.getElem?_cons_succ, Bool.or_false, Bool.false_or, Bool.or_self, RR, RP, Ty.agg, Ty.size, Ty.sizes, eq_self, ne_eq, not_true, not_false_iff, reduceCtorEq, List.length_cons, List.length_nil, decide_true, decide_false, true_and, and_true, ite_true, ite_false, PT.full, enter0, setAll, forget, Fr.set, Fr.get, PT.get, PT.set, kof, ai, ev, ev1, evp, b_add, b_sub, b_mul, b_quo, b_rem, b_eql, b_neq, b_lss, b_leq, b_gtr, b_geq, b_seql, b_sneq, setD, resV, resL, res1, args, List.take_zero, List.drop_zero, List.take_nil, List.take_succ_cons, List.drop_succ_cons, Nat.reduceAdd, Nat.reduceLeDiff, reduceIte, Bool.not_true, Bool.not_false, Bool.false_eq_true, CA_some, Option.some.injEq, Nat.zero_add, Nat.mul_one, Nat.add_zero, setL, List.set_cons_zero, List.set_cons_succ, fillC]
  refine WC_call (to_Forest (Rp.app' hg5 (Rp.app' hg4 (Rp.app' hg3 (Rp.app' hg2 (Rp.app' hg1 (Rp.app' hg0 hv0)))))) (by omega)) ?_
  rintro r6 g6 ⟨t6, d6, U6, hg6, rfl, z6, o6, l6⟩
  have n6 := len_app' hg6
  have b6 := z6.lt
  have hd6 : d6.length = 6 := z6.size
  have ht6 : d6.take 6 = d6 := List.take_of_length_le (by omega)
  have hs6_0 : setL [.int .i64 0, .int .i64 0, .int .i64 0, .int .i64 0, .int .i64 0, .nils] 0 d6 = d6 := setL_all (by rw [hd6]; rfl)
  simp (disch := omega) only [KC_eq, c10, hsz0, hall0, hsz1, hall1, hd0, ht0, hs0_0, hd1, ht1, hs1_0, hd2_0, ht2_0, hs2_0_0, hd3, ht3, hs3_0, hd4, ht4, hs4_0, hd5_0, ht5_0, hs5_0_0, hd6, ht6, hs6_0, ifT, w64, valR, beq_self_eq_true, bne_self_eq_false, List.getElem?_cons_zero, List.getElem?_cons_succ, Bool.or_false, Bool.false_or, Bool.or_self, RR, RP, Ty.agg, Ty.size, Ty.sizes, eq_self, ne_eq, not_true, not_false_iff, reduceCtorEq, List.length_cons, List.length_nil, decide_true, decide_false, true_and, and_true, ite_true, ite_false, PT.full, enter0, setAll, forget, Fr.set, Fr.get, PT.get, PT.set, kof, ai, ev, ev1, evp, b_add, b_sub, b_mul, b_quo, b_rem, b_eql, b_neq, b_lss, b_leq, b_gtr, b_geq, b_seql, b_sneq, setD, resV, resL, res1, args, List.take_zero, List.drop_zero, List.take_nil, List.take_succ_cons, List.drop_succ_cons, Nat.reduceAdd, Nat.reduceLeDiff, reduceIte, Bool.not_true, Bool.not_false, Bool.false_eq_true, CA_some, Option.some.injEq, Nat.zero_add, Nat.mul_one, Nat.add_zero, setL, List.set_cons_zero, List.set_cons_succ, fillC]
  refine EqOk.go eq_Forest (Rp.app' hg6 (Rp.app' hg5 (Rp.app' hg4 z3))) z6 (fun _ => ?_) (fun hne => absurd rfl hne)
  simp (disch := omega) only [KC_eq, c10, hsz0, hall0, hsz1, hall1, hd0, ht0, hs0_0, hd1, ht1, hs1_0, hd2_0, ht2_0, hs2_0_0, hd3, ht3, hs3_0, hd4, ht4, hs4_0, hd5_0, ht5_0, hs5_0_0, hd6, ht6, hs6_0, ifT, w64, valR, beq_self_eq_true, bne_self_eq_false, List.getElem?_cons_zero, List.getElem?_cons_succ, Bool.or_false, Bool.false_or, Bool.or_self, RR, RP, Ty.agg, Ty.size, Ty.sizes, eq_self, ne_eq, not_true, not_false_iff, reduceCtorEq, List.length_cons, List.length_nil, decide_true, decide_false, true_and, and_true, ite_true, ite_false, PT.full, enter0, setAll, forget, Fr.set, Fr.get, PT.get, PT.set, kof, ai, ev, ev1, evp, b_add, b_sub, b_mul, b_quo, b_rem, b_eql, b_neq, b_lss, b_leq, b_gtr, b_geq, b_seql, b_sneq, setD, resV, resL, res1, args, List.take_zero, List.drop_zero, List.take_nil, List.take_succ_cons, List.drop_succ_cons, Nat.reduceAdd, Nat.reduceLeDiff, reduceIte, Bool.not_true, Bool.not_false, Bool.false_eq_true, CA_some, Option.some.injEq, Nat.zero_add, Nat.mul_one, Nat.add_zero, setL, List.set_cons_zero, List.set_cons_succ, fillC]
  refine WC_call (to_Head (Rp.app' hg6 (Rp.app' hg5 (Rp.app' hg4 (Rp.app' hg3 (Rp.app' hg2 (Rp.app' hg1 (Rp.app' hg0 hv1))))))) (by omega)) ?_
  rintro r7 g7 ⟨t7, d7, U7, hg7, rfl, z7, o7, l7⟩
  have n7 := len_app' hg7
  have b7 := z7.lt
  have hd7 : d7.length = 10 := z7.size
  have ht7 : d7.take 10 = d7 := List.take_of_length_le (by omega)
  have hs7_0 : setL [.int .i64 0, .int .i64 0, .int .i64 0, .nils, .nils, .int .i64 0, .int .i64 0, .nils, .nils, .nils] 0 d7 = d7 := setL_all (by rw [hd7]; rfl)
  simp (disch := omega) only [KC_eq, c10, hsz0, hall0, hsz1, hall1, hd0, ht0, hs0_0, hd1, ht1, hs1_0, hd2_0, ht2_0, hs2_0_0, hd3, ht3, hs3_0, hd4, ht4, hs4_0, hd5_0, ht5_0, hs5_0_0, hd6, ht6, hs6_0, hd7, ht7, hs7_0, ifT, w64, valR, beq_self_eq_true, bne_self_eq_false, List.getElem?_cons_zero, List.getElem?_cons_succ, Bool.or_false, Bool.false_or, Bool.or_self, RR, RP, Ty.agg, Ty.size, Ty.sizes, eq_self, ne_eq, not_true, not_false_iff, reduceCtorEq, List.length_cons, List.length_nil, decide_true, decide_false, true_and, and_true, ite_true, ite_false, PT.full, enter0, setAll, forget, Fr.set, Fr.get, PT.get, PT.set, kof, ai, ev, ev1, evp, b_add, b_sub, b_mul, b_quo, b_rem, b_eql, b_neq, b_lss, b_leq, b_gtr, b_geq, b_seql, b_sneq, setD, resV, resL, res1, args, List.take_zero, List.drop_zero, List.take_nil, List.take_succ_cons, List.drop_succ_cons, Nat.reduceAdd, Nat.reduceLeDiff, reduceIte, Bool.not_true, Bool.not_false, Bool.false_eq_true, CA_some, Option.some.injEq, Nat.zero_add, Nat.mul_one, Nat.add_zero, setL, List.set_cons_zero, List.set_cons_succ, fillC]
  refine EqOk.go eq_Head (Rp.app' hg7 (Rp.app' hg6 (Rp.app' hg5 z4))) z7 (fun _ => ?_) (fun hne => absurd rfl hne)
  simp (disch := omega) only [KC_eq, c10, hsz0, hall0, hsz1, hall1, hd0, ht0, hs0_0, hd1, ht1, hs1_0, hd2_0, ht2_0, hs2_0_0, hd3, ht3, hs3_0, hd4, ht4, hs4_0, hd5_0, ht5_0, hs5_0_0, hd6, ht6, hs6_0, hd7, ht7, hs7_0, ifT, w64, valR, beq_self_eq_true, bne_self_eq_false, List.getElem?_cons_zero, List.getElem?_cons_succ, Bool.or_false, Bool.false_or, Bool.or_self, RR, RP, Ty.agg, Ty.size, Ty.sizes, eq_self, ne_eq, not_true, not_false_iff, reduceCtorEq, List.length_cons, List.length_nil, decide_true, decide_false, true_and, and_true, ite_true, ite_false, PT.full, enter0, setAll, forget, Fr.set, Fr.get, PT.get, PT.set, kof, ai, ev, ev1, evp, b_add, b_sub, b_mul, b_quo, b_rem, b_eql, b_neq, b_lss, b_leq, b_gtr, b_geq, b_seql, b_sneq, setD, resV, resL, res1, args, List.take_zero, List.drop_zero, List.take_nil, List.take_succ_cons, List.drop_succ_cons, Nat.reduceAdd, Nat.reduceLeDiff, reduceIte, Bool.not_true, Bool.not_false, Bool.false_eq_true, CA_some, Option.some.injEq, Nat.zero_add, Nat.mul_one, Nat.add_zero, setL, List.set_cons_zero, List.set_cons_succ, fillC]
  refine MkOk.go mk_Forest (Rp.app' hg7 (Rp.app' hg6 (Rp.app' hg5 (Rp.app' hg4 z3)))) (Ownd.app' hg7 (Ownd.app' hg6 (Ownd.app' hg5 (Ownd.app' hg4 o3)))) (k := 1) (by omega) (fun gw0 w0 zw0 => ?_)
  have nw0 := w0.1
  simp (disch := omega) only [KC_eq, c10, hsz0, hall0, hsz1, hall1, hd0, ht0, hs0_0, hd1, ht1, hs1_0, hd2_0, ht2_0, hs2_0_0, hd3, ht3, hs3_0, hd4, ht4, hs4_0, hd5_0, ht5_0, hs5_0_0, hd6, ht6, hs6_0, hd7, ht7, hs7_0, ifT, w64, valR, beq_self_eq_true, bne_self_eq_false, List.getElem?_cons_zero, List.getElem?_cons_succ, Bool.or_false, Bool.false_or, Bool.or_self, RR, RP, Ty.agg, Ty.size, Ty.sizes, eq_self, ne_eq, not_true, not_false_iff, reduceCtorEq, List.length_cons, List.length_nil, decide_true, decide_false, true_and, and_true, ite_true, ite_false, PT.full, enter0, setAll, forget, Fr.set, Fr.get, PT.get, PT.set, kof, ai, ev, ev1, evp, b_add, b_sub, b_mul, b_quo, b_rem, b_eql, b_neq, b_lss, b_leq, b_gtr, b_geq, b_seql, b_sneq, setD, resV, resL, res1, args, List.take_zero, List.drop_zero, List.take_nil, List.take_succ_cons, List.drop_succ_cons, Nat.reduceAdd, Nat.reduceLeDiff, reduceIte, Bool.not_true, Bool.not_false, Bool.false_eq_true, CA_some, Option.some.injEq, Nat.zero_add, Nat.mul_one, Nat.add_zero, setL, List.set_cons_zero, List.set_cons_succ, fillC]
  refine MkOk.go mk_Head ((Rp.app' hg7 (Rp.app' hg6 (Rp.app' hg5 z4))).wrote w0 (fun i hi hn => by have := b4 i hi; have := l4 i hi; have := b3 i hn; have := l3 i hn; omega)) (w0.ownd (Ownd.app' hg7 (Ownd.app' hg6 (Ownd.app' hg5 o4)))) (k := 1 + cnT TForest f.tv) (by omega) (fun gw1 w1 zw1 => ?_)
  have nw1 := w1.1
  have hneg : decide (((1 + cnT TForest f.tv + cnT THead h_.tv : Nat) : Int) < 0) = false := by simp; omega
  simp (disch := omega) only [KC_eq, c10, hsz0, hall0, hsz1, hall1, hd0, ht0, hs0_0, hd1, ht1, hs1_0, hd2_0, ht2_0, hs2_0_0, hd3, ht3, hs3_0, hd4, ht4, hs4_0, hd5_0, ht5_0, hs5_0_0, hd6, ht6, hs6_0, hd7, ht7, hs7_0, hneg, ifT, w64, valR, beq_self_eq_true, bne_self_eq_false, List.getElem?_cons_zero, List.getElem?_cons_succ, Bool.or_false, Bool.false_or, Bool.or_self, RR, RP, Ty.agg, Ty.size, Ty.sizes, eq_self, ne_eq, not_true, not_false_iff, reduceCtorEq, List.length_cons, List.length_nil, decide_true, decide_false, true_and, and_true, ite_true, ite_false, PT.full, enter0, setAll, forget, Fr.set, Fr.get, PT.get, PT.set, kof, ai, ev, ev1, evp, b_add, b_sub, b_mul, b_quo, b_rem, b_eql, b_neq, b_lss, b_leq, b_gtr, b_geq, b_seql, b_sneq, setD, resV, resL, res1, args, List.take_zero, List.drop_zero, List.take_nil, List.take_succ_cons, List.drop_succ_cons, Nat.reduceAdd, Nat.reduceLeDiff, reduceIte, Bool.not_true, Bool.not_false, Bool.false_eq_true, CA_some, Option.some.injEq, Nat.zero_add, Nat.mul_one, Nat.add_zero, setL, List.set_cons_zero, List.set_cons_succ, fillC]
  refine EqOk.go eq_Forest (((Rp.app' hg7 (Rp.app' hg6 z5_0)).wrote w0 (fun i hi hn => by have := b5_0 i hi; have := l5_0 i hi; have := b3 i hn; have := l3 i hn; omega)).wrote w1 (fun i hi hn => by have := b5_0 i hi; have := l5_0 i hi; have := b4 i hn; have := l4 i hn; omega)) (((Rp.app' hg7 (Rp.app' hg6 (Rp.app' hg5 (Rp.app' hg4 (Rp.app' hg3 z2_0))))).wrote w0 (fun i hi hn => by have := b2_0 i hi; have := l2_0 i hi; have := b3 i hn; have := l3 i hn; omega)).wrote w1 (fun i hi hn => by have := b2_0 i hi; have := l2_0 i hi; have := b4 i hn; have := l4 i hn; omega)) (fun _ => ?_) (fun hne => absurd rfl hne)
  simp (disch := omega) only [KC_eq, c10, hsz0, hall0, hsz1, hall1, hd0, ht0, hs0_0, hd1, ht1, hs1_0, hd2_0, ht2_0, hs2_0_0, hd3, ht3, hs3_0, hd4, ht4, hs4_0, hd5_0, ht5_0, hs5_0_0, hd6, ht6, hs6_0, hd7, ht7, hs7_0, hneg, ifT, w64, valR, beq_self_eq_true, bne_self_eq_false, List.getElem?_cons_zero, List.getElem?_cons_succ, Bool.or_false, Bool.false_or, Bool.or_self, RR, RP, Ty.agg, Ty.size, Ty.sizes, eq_self, ne_eq, not_true, not_false_iff, reduceCtorEq, List.length_cons, List.length_nil, decide_true, decide_false, true_and, and_true, ite_true, ite_false, PT.full, enter0, setAll, forget, Fr.set, Fr.get, PT.get, PT.set, kof, ai, ev, ev1, evp, b_add, b_sub, b_mul, b_quo, b_rem, b_eql, b_neq, b_lss, b_leq, b_gtr, b_geq, b_seql, b_sneq, setD, resV, resL, res1, args, List.take_zero, List.drop_zero, List.take_nil, List.take_succ_cons, List.drop_succ_cons, Nat.reduceAdd, Nat.reduceLeDiff, reduceIte, Bool.not_true, Bool.not_false, Bool.false_eq_true, CA_some, Option.some.injEq, Nat.zero_add, Nat.mul_one, Nat.add_zero, setL, List.set_cons_zero, List.set_cons_succ, fillC]
  refine MkOk.go mk_Forest (((Rp.app' hg7 (Rp.app' hg6 z5_0)).wrote w0 (fun i hi hn => by have := b5_0 i hi; have := l5_0 i hi; have := b3 i hn; have := l3 i hn; omega)).wrote w1 (fun i hi hn => by have := b5_0 i hi; have := l5_0 i hi; have := b4 i hn; have := l4 i hn; omega)) (w1.ownd (w0.ownd (Ownd.app' hg7 (Ownd.app' hg6 o5_0)))) (k := 1) (by omega) (fun gm0 wm0 zm0 => ?_)
  have nm0 := wm0.1
  simp (disch := omega) only [KC_eq, c10, hsz0, hall0, hsz1, hall1, hd0, ht0, hs0_0, hd1, ht1, hs1_0, hd2_0, ht2_0, hs2_0_0, hd3, ht3, hs3_0, hd4, ht4, hs4_0, hd5_0, ht5_0, hs5_0_0, hd6, ht6, hs6_0, hd7, ht7, hs7_0, hneg, ifT, w64, valR, beq_self_eq_true, bne_self_eq_false, List.getElem?_cons_zero, List.getElem?_cons_succ, Bool.or_false, Bool.false_or, Bool.or_self, RR, RP, Ty.agg, Ty.size, Ty.sizes, eq_self, ne_eq, not_true, not_false_iff, reduceCtorEq, List.length_cons, List.length_nil, decide_true, decide_false, true_and, and_true, ite_true, ite_false, PT.full, enter0, setAll, forget, Fr.set, Fr.get, PT.get, PT.set, kof, ai, ev, ev1, evp, b_add, b_sub, b_mul, b_quo, b_rem, b_eql, b_neq, b_lss, b_leq, b_gtr, b_geq, b_seql, b_sneq, setD, resV, resL, res1, args, List.take_zero, List.drop_zero, List.take_nil, List.take_succ_cons, List.drop_succ_cons, Nat.reduceAdd, Nat.reduceLeDiff, reduceIte, Bool.not_true, Bool.not_false, Bool.false_eq_true, CA_some, Option.some.injEq, Nat.zero_add, Nat.mul_one, Nat.add_zero, setL, List.set_cons_zero, List.set_cons_succ, fillC]
  refine HdOk.go hd_Forest ⟨_, _, _, z5_0⟩ zm0 (k := 1) (by omega) ?_
  simp (disch := omega) only [KC_eq, c10, hsz0, hall0, hsz1, hall1, hd0, ht0, hs0_0, hd1, ht1, hs1_0, hd2_0, ht2_0, hs2_0_0, hd3, ht3, hs3_0, hd4, ht4, hs4_0, hd5_0, ht5_0, hs5_0_0, hd6, ht6, hs6_0, hd7, ht7, hs7_0, hneg, ifT, w64, valR, beq_self_eq_true, bne_self_eq_false, List.getElem?_cons_zero, List.getElem?_cons_succ, Bool.or_false, Bool.false_or, Bool.or_self, RR, RP, Ty.agg, Ty.size, Ty.sizes, eq_self, ne_eq, not_true, not_false_iff, reduceCtorEq, List.length_cons, List.length_nil, decide_true, decide_false, true_and, and_true, ite_true, ite_false, PT.full, enter0, setAll, forget, Fr.set, Fr.get, PT.get, PT.set, kof, ai, ev, ev1, evp, b_add, b_sub, b_mul, b_quo, b_rem, b_eql, b_neq, b_lss, b_leq, b_gtr, b_geq, b_seql, b_sneq, setD, resV, resL, res1, args, List.take_zero, List.drop_zero, List.take_nil, List.take_succ_cons, List.drop_succ_cons, Nat.reduceAdd, Nat.reduceLeDiff, reduceIte, Bool.not_true, Bool.not_false, Bool.false_eq_true, CA_some, Option.some.injEq, Nat.zero_add, Nat.mul_one, Nat.add_zero, setL, List.set_cons_zero, List.set_cons_succ, fillC]
  refine BR_dec (fun hn => absurd hn (by omega)) (fun hn => ?_)
  simp (disch := omega) only [KC_eq, c10, hsz0, hall0, hsz1, hall1, hd0, ht0, hs0_0, hd1, ht1, hs1_0, hd2_0, ht2_0, hs2_0_0, hd3, ht3, hs3_0, hd4, ht4, hs4_0, hd5_0, ht5_0, hs5_0_0, hd6, ht6, hs6_0, hd7, ht7, hs7_0, hneg, ifT, w64, valR, beq_self_eq_true, bne_self_eq_false, List.getElem?_cons_zero, List.getElem?_cons_succ, Bool.or_false, Bool.false_or, Bool.or_self, RR, RP, Ty.agg, Ty.size, Ty.sizes, eq_self, ne_eq, not_true, not_false_iff, reduceCtorEq, List.length_cons, List.length_nil, decide_true, decide_false, true_and, and_true, ite_true, ite_false, PT.full, enter0, setAll, forget, Fr.set, Fr.get, PT.get, PT.set, kof, ai, ev, ev1, evp, b_add, b_sub, b_mul, b_quo, b_rem, b_eql, b_neq, b_lss, b_leq, b_gtr, b_geq, b_seql, b_sneq, setD, resV, resL, res1, args, List.take_zero, List.drop_zero, List.take_nil, List.take_succ_cons, List.drop_succ_cons, Nat.reduceAdd, Nat.reduceLeDiff, reduceIte, Bool.not_true, Bool.not_false, Bool.false_eq_true, CA_some, Option.some.injEq, Nat.zero_add, Nat.mul_one, Nat.add_zero, setL, List.set_cons_zero, List.set_cons_succ, fillC]
  refine WC_call (to_Forest ((((Rp.app' hg7 (Rp.app' hg6 (Rp.app' hg5 (Rp.app' hg4 (Rp.app' hg3 (Rp.app' hg2 (Rp.app' hg1 (Rp.app' hg0 hv0)))))))).wrote w0 (fun i hi hn => by have := hv0.lt i hi; have := b3 i hn; have := l3 i hn; omega)).wrote w1 (fun i hi hn => by have := hv0.lt i hi; have := b4 i hn; have := l4 i hn; omega)).wrote wm0 (fun i hi hn => by have := hv0.lt i hi; have := b5_0 i hn; have := l5_0 i hn; omega)) (by omega)) ?_
  rintro r8 g8 ⟨t8, d8, U8, hg8, rfl, z8, o8, l8⟩
  have n8 := len_app' hg8
  have b8 := z8.lt
  have hd8 : d8.length = 6 := z8.size
  have ht8 : d8.take 6 = d8 := List.take_of_length_le (by omega)
  have hs8_0 : setL [.int .i64 0, .int .i64 0, .int .i64 0, .int .i64 0, .int .i64 0, .nils] 0 d8 = d8 := setL_all (by rw [hd8]; rfl)
  simp (disch := omega) only [KC_eq, c10, hsz0, hall0, hsz1, hall1, hd0, ht0, hs0_0, hd1, ht1, hs1_0, hd2_0, ht2_0, hs2_0_0, hd3, ht3, hs3_0, hd4, ht4, hs4_0, hd5_0, ht5_0, hs5_0_0, hd6, ht6, hs6_0, hd7, ht7, hs7_0, hneg, hd8, ht8, hs8_0, ifT, w64, valR, beq_self_eq_true, bne_self_eq_false, List.getElem?_cons_zero, List.getElem?_cons_succ, Bool.or_false, Bool.false_or, Bool.or_self, RR, RP, Ty.agg, Ty.size, Ty.sizes, eq_self, ne_eq, not_true, not_false_iff, reduceCtorEq, List.length_cons, List.length_nil, decide_true, decide_false, true_and, and_true, ite_true, ite_false, PT.full, enter0, setAll, forget, Fr.set, Fr.get, PT.get, PT.set, kof, ai, ev, ev1, evp, b_add, b_sub, b_mul, b_quo, b_rem, b_eql, b_neq, b_lss, b_leq, b_gtr, b_geq, b_seql, b_sneq, setD, resV, resL, res1, args, List.take_zero, List.drop_zero, List.take_nil, List.take_succ_cons, List.drop_succ_cons, Nat.reduceAdd, Nat.reduceLeDiff, reduceIte, Bool.not_true, Bool.not_false, Bool.false_eq_true, CA_some, Option.some.injEq, Nat.zero_add, Nat.mul_one, Nat.add_zero, setL, List.set_cons_zero, List.set_cons_succ, fillC]
  refine WC_call (to_Head (Rp.app' hg8 ((((Rp.app' hg7 (Rp.app' hg6 (Rp.app' hg5 (Rp.app' hg4 (Rp.app' hg3 (Rp.app' hg2 (Rp.app' hg1 (Rp.app' hg0 hv1)))))))).wrote w0 (fun i hi hn => by have := hv1.lt i hi; have := b3 i hn; have := l3 i hn; omega)).wrote w1 (fun i hi hn => by have := hv1.lt i hi; have := b4 i hn; have := l4 i hn; omega)).wrote wm0 (fun i hi hn => by have := hv1.lt i hi; have := b5_0 i hn; have := l5_0 i hn; omega))) (by omega)) ?_
  rintro r9 g9 ⟨t9, d9, U9, hg9, rfl, z9, o9, l9⟩
  have n9 := len_app' hg9
  have b9 := z9.lt
  have hd9 : d9.length = 10 := z9.size
  have ht9 : d9.take 10 = d9 := List.take_of_length_le (by omega)
  have hs9_0 : setL [.int .i64 0, .int .i64 0, .int .i64 0, .nils, .nils, .int .i64 0, .int .i64 0, .nils, .nils, .nils] 0 d9 = d9 := setL_all (by rw [hd9]; rfl)
  simp (disch := omega) only [KC_eq, c10, hsz0, hall0, hsz1, hall1, hd0, ht0, hs0_0, hd1, ht1, hs1_0, hd2_0, ht2_0, hs2_0_0, hd3, ht3, hs3_0, hd4, ht4, hs4_0, hd5_0, ht5_0, hs5_0_0, hd6, ht6, hs6_0, hd7, ht7, hs7_0, hneg, hd8, ht8, hs8_0, hd9, ht9, hs9_0, ifT, w64, valR, beq_self_eq_true, bne_self_eq_false, List.getElem?_cons_zero, List.getElem?_cons_succ, Bool.or_false, Bool.false_or, Bool.or_self, RR, RP, Ty.agg, Ty.size, Ty.sizes, eq_self, ne_eq, not_true, not_false_iff, reduceCtorEq, List.length_cons, List.length_nil, decide_true, decide_false, true_and, and_true, ite_true, ite_false, PT.full, enter0, setAll, forget, Fr.set, Fr.get, PT.get, PT.set, kof, ai, ev, ev1, evp, b_add, b_sub, b_mul, b_quo, b_rem, b_eql, b_neq, b_lss, b_leq, b_gtr, b_geq, b_seql, b_sneq, setD, resV, resL, res1, args, List.take_zero, List.drop_zero, List.take_nil, List.take_succ_cons, List.drop_succ_cons, Nat.reduceAdd, Nat.reduceLeDiff, reduceIte, Bool.not_true, Bool.not_false, Bool.false_eq_true, CA_some, Option.some.injEq, Nat.zero_add, Nat.mul_one, Nat.add_zero, setL, List.set_cons_zero, List.set_cons_succ, fillC]
  refine WC_call (F.io_impl_Plant ⟨_, _, rfl, ⟨_, (Rp.app' hg9 z8)⟩, ⟨_, _, rfl, ⟨_, z9⟩, rfl⟩⟩ (by omega) (by omega)) ?_
  rintro r10 g10 ⟨t10, css10, U10, hg10, rfl, zz10, o10, l10⟩
  have n10 := len_app' hg10
  obtain ⟨d10_0, cr10_0, U10_0, V10_0, rfl, rfl, z10_0, zz10_0⟩ := zz10
  obtain ⟨d10_1, cr10_1, U10_1, V10_1, rfl, rfl, z10_1, zz10_1⟩ := zz10_0
  obtain ⟨q10_1, rfl, hq10_1, rfl⟩ := z10_1.bool
  injection hq10_1 with hq10_1; subst hq10_1
  obtain ⟨rfl, rfl⟩ := zz10_1
  simp only [List.nil_append, List.append_nil] at o10 l10
  have o10_0 := o10
  have b10_0 := z10_0.lt
  have l10_0 := l10
  have hd10_0 : d10_0.length = 6 := z10_0.size
  have ht10_0 : d10_0.take 6 = d10_0 := List.take_of_length_le (by omega)
  have hs10_0_0 : setL [.int .i64 0, .int .i64 0, .int .i64 0, .int .i64 0, .int .i64 0, .nils] 0 d10_0 = d10_0 := setL_all (by rw [hd10_0]; rfl)
  simp (disch := omega) only [KC_eq, c10, hsz0, hall0, hsz1, hall1, hd0, ht0, hs0_0, hd1, ht1, hs1_0, hd2_0, ht2_0, hs2_0_0, hd3, ht3, hs3_0, hd4, ht4, hs4_0, hd5_0, ht5_0, hs5_0_0, hd6, ht6, hs6_0, hd7, ht7, hs7_0, hneg, hd8, ht8, hs8_0, hd9, ht9, hs9_0, hd10_0, ht10_0, hs10_0_0, ifT, w64, valR, beq_self_eq_true, bne_self_eq_false, List.getElem?_cons_zero, List.getElem?_cons_succ, Bool.or_false, Bool.false_or, Bool.or_self, RR, RP, Ty.agg, Ty.size, Ty.sizes, eq_self, ne_eq, not_true, not_false_iff, reduceCtorEq, List.length_cons, List.length_nil, decide_true, decide_false, true_and, and_true, ite_true, ite_false, PT.full, enter0, setAll, forget, Fr.set, Fr.get, PT.get, PT.set, kof, ai, ev, ev1, evp, b_add, b_sub, b_mul, b_quo, b_rem, b_eql, b_neq, b_lss, b_leq, b_gtr, b_geq, b_seql, b_sneq, setD, resV, resL, res1, args, List.take_zero, List.drop_zero, List.take_nil, List.take_succ_cons, List.drop_succ_cons, Nat.reduceAdd, Nat.reduceLeDiff, reduceIte, Bool.not_true, Bool.not_false, Bool.false_eq_true, CA_some, Option.some.injEq, Nat.zero_add, Nat.mul_one, Nat.add_zero, setL, List.set_cons_zero, List.set_cons_succ, fillC]
  refine EqOk.go eq_Forest z10_0 (Rp.app' hg10 (Rp.app' hg9 (Rp.app' hg8 ((((Rp.app' hg7 (Rp.app' hg6 (Rp.app' hg5 (Rp.app' hg4 (Rp.app' hg3 z2_0))))).wrote w0 (fun i hi hn => by have := b2_0 i hi; have := l2_0 i hi; have := b3 i hn; have := l3 i hn; omega)).wrote w1 (fun i hi hn => by have := b2_0 i hi; have := l2_0 i hi; have := b4 i hn; have := l4 i hn; omega)).wrote wm0 (fun i hi hn => by have := b2_0 i hi; have := l2_0 i hi; have := b5_0 i hn; have := l5_0 i hn; omega))))) (fun _ => ?_) (fun hne => absurd rfl hne)
  simp (disch := omega) only [KC_eq, c10, hsz0, hall0, hsz1, hall1, hd0, ht0, hs0_0, hd1, ht1, hs1_0, hd2_0, ht2_0, hs2_0_0, hd3, ht3, hs3_0, hd4, ht4, hs4_0, hd5_0, ht5_0, hs5_0_0, hd6, ht6, hs6_0, hd7, ht7, hs7_0, hneg, hd8, ht8, hs8_0, hd9, ht9, hs9_0, hd10_0, ht10_0, hs10_0_0, ifT, w64, valR, beq_self_eq_true, bne_self_eq_false, List.getElem?_cons_zero, List.getElem?_cons_succ, Bool.or_false, Bool.false_or, Bool.or_self, RR, RP, Ty.agg, Ty.size, Ty.sizes, eq_self, ne_eq, not_true, not_false_iff, reduceCtorEq, List.length_cons, List.length_nil, decide_true, decide_false, true_and, and_true, ite_true, ite_false, PT.full, enter0, setAll, forget, Fr.set, Fr.get, PT.get, PT.set, kof, ai, ev, ev1, evp, b_add, b_sub, b_mul, b_quo, b_rem, b_eql, b_neq, b_lss, b_leq, b_gtr, b_geq, b_seql, b_sneq, setD, resV, resL, res1, args, List.take_zero, List.drop_zero, List.take_nil, List.take_succ_cons, List.drop_succ_cons, Nat.reduceAdd, Nat.reduceLeDiff, reduceIte, Bool.not_true, Bool.not_false, Bool.false_eq_true, CA_some, Option.some.injEq, Nat.zero_add, Nat.mul_one, Nat.add_zero, setL, List.set_cons_zero, List.set_cons_succ, fillC]
  refine HdOk.go hd_Forest ⟨_, _, _, z5_0⟩ (Rp.app' hg10 (Rp.app' hg9 (Rp.app' hg8 zm0))) (k := 1) (by omega) ?_
  simp (disch := omega) only [KC_eq, c10, hsz0, hall0, hsz1, hall1, hd0, ht0, hs0_0, hd1, ht1, hs1_0, hd2_0, ht2_0, hs2_0_0, hd3, ht3, hs3_0, hd4, ht4, hs4_0, hd5_0, ht5_0, hs5_0_0, hd6, ht6, hs6_0, hd7, ht7, hs7_0, hneg, hd8, ht8, hs8_0, hd9, ht9, hs9_0, hd10_0, ht10_0, hs10_0_0, ifT, w64, valR, beq_self_eq_true, bne_self_eq_false, List.getElem?_cons_zero, List.getElem?_cons_succ, Bool.or_false, Bool.false_or, Bool.or_self, RR, RP, Ty.agg, Ty.size, Ty.sizes, eq_self, ne_eq, not_true, not_false_iff, reduceCtorEq, List.length_cons, List.length_nil, decide_true, decide_false, true_and, and_true, ite_true, ite_false, PT.full, enter0, setAll, forget, Fr.set, Fr.get, PT.get, PT.set, kof, ai, ev, ev1, evp, b_add, b_sub, b_mul, b_quo, b_rem, b_eql, b_neq, b_lss, b_leq, b_gtr, b_geq, b_seql, b_sneq, setD, resV, resL, res1, args, List.take_zero, List.drop_zero, List.take_nil, List.take_succ_cons, List.drop_succ_cons, Nat.reduceAdd, Nat.reduceLeDiff, reduceIte, Bool.not_true, Bool.not_false, Bool.false_eq_true, CA_some, Option.some.injEq, Nat.zero_add, Nat.mul_one, Nat.add_zero, setL, List.set_cons_zero, List.set_cons_succ, fillC]
  refine BR_dec (fun hn => absurd hn (by omega)) (fun hn => ?_)
  simp (disch := omega) only [KC_eq, c10, hsz0, hall0, hsz1, hall1, hd0, ht0, hs0_0, hd1, ht1, hs1_0, hd2_0, ht2_0, hs2_0_0, hd3, ht3, hs3_0, hd4, ht4, hs4_0, hd5_0, ht5_0, hs5_0_0, hd6, ht6, hs6_0, hd7, ht7, hs7_0, hneg, hd8, ht8, hs8_0, hd9, ht9, hs9_0, hd10_0, ht10_0, hs10_0_0, ifT, w64, valR, beq_self_eq_true, bne_self_eq_false, List.getElem?_cons_zero, List.getElem?_cons_succ, Bool.or_false, Bool.false_or, Bool.or_self, RR, RP, Ty.agg, Ty.size, Ty.sizes, eq_self, ne_eq, not_true, not_false_iff, reduceCtorEq, List.length_cons, List.length_nil, decide_true, decide_false, true_and, and_true, ite_true, ite_false, PT.full, enter0, setAll, forget, Fr.set, Fr.get, PT.get, PT.set, kof, ai, ev, ev1, evp, b_add, b_sub, b_mul, b_quo, b_rem, b_eql, b_neq, b_lss, b_leq, b_gtr, b_geq, b_seql, b_sneq, setD, resV, resL, res1, args, List.take_zero, List.drop_zero, List.take_nil, List.take_succ_cons, List.drop_succ_cons, Nat.reduceAdd, Nat.reduceLeDiff, reduceIte, Bool.not_true, Bool.not_false, Bool.false_eq_true, CA_some, Option.some.injEq, Nat.zero_add, Nat.mul_one, Nat.add_zero, setL, List.set_cons_zero, List.set_cons_succ, fillC]
end Go.Eng.U
