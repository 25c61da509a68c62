import Derived.Test.YtkhciaoemhfhbaaEngV
set_option maxRecDepth 100000
set_option linter.unusedSimpArgs false
set_option linter.unusedVariables false
namespace Go.Eng.U

/-- laws.markEntryS -/
def c131 : AF := ⟨2, 6, [.tmp 4], (.seq (.ops [.i (.mov 4 (.c (.val false [.int .i64 0])))]) (.seq (.seq (.ops [.i (.mov 5 (.c (.val false [.int .i64 0])))]) (.block 0 (.loop [32, 31, 30, 29, 28, 27, 26, 25, 24, 23, 22, 21, 20, 19, 18, 17, 16, 15, 14, 13, 12, 11, 10, 9, 8, 7, 6] (.seq (.seq (.ops [.i (.mov 6 (.s 5)), .i (.mov 7 (.s 0)), .i (.len 8 false (.s 7)), .i (.bin 9 .lss (.s 6) (.s 8))]) (.cond (.s 9) .skip (.exit 0))) (.seq (.block 1 (.seq (.ops [.i (.mov 12 (.s 0)), .i (.mov 13 (.s 5)), .i (.mov 14 (.s 1)), .i (.iad 15 (.s 12) (.s 13) 3), .i (.fad 16 (.s 15) 0), .i (.sth (.s 16) (.s 14) 1)]) (.seq (.ops [.i (.mov 17 (.s 1)), .i (.bin 18 .add (.s 17) (.c (.val false [.int .i64 1]))), .i (.mov 1 (.s 18))]) (.seq (.ops [.i (.mov 19 (.s 0)), .i (.mov 20 (.s 5)), .i (.mov 21 (.s 1)), .i (.iad 22 (.s 19) (.s 20) 3), .i (.fad 23 (.s 22) 1), .i (.sth (.s 23) (.s 21) 1)]) (.seq (.ops [.i (.mov 24 (.s 1)), .i (.bin 25 .add (.s 24) (.c (.val false [.int .i64 1]))), .i (.mov 1 (.s 25))]) (.ops [.i (.mov 26 (.s 0)), .i (.mov 27 (.s 5)), .i (.iad 28 (.s 26) (.s 27) 3), .i (.fad 29 (.s 28) 2), .i (.ldh 30 (.s 29) 1 false), .i (.mov 31 (.s 1)), .i (.call 33 106 false [(.s 30), (.s 31)]), .i (.mov 1 (.s 32))])))))) (.ops [.i (.mov 10 (.s 5)), .i (.bin 11 .add (.s 10) (.c (.val false [.int .i64 1]))), .i (.mov 5 (.s 11))])))))) (.seq (.ops [.i (.mov 33 (.s 1)), .i (.mov 4 (.s 33))]) .ret)))⟩
theorem k131 : cd 131 = some c131 := by kernel_rfl
/-- laws.markHeadS -/
def c96 : AF := ⟨2, 7, [.tmp 4], (.seq (.ops [.i (.mov 4 (.c (.val false [.int .i64 0])))]) (.seq (.seq (.ops [.i (.mov 5 (.c (.val false [.int .i64 0])))]) (.block 0 (.loop [86, 85, 84, 83, 82, 81, 80, 79, 78, 77, 76, 75, 74, 73, 72, 71, 70, 69, 68, 67, 66, 65, 64, 63, 62, 61, 60, 59, 58, 57, 56, 55, 54, 53, 52, 51, 50, 49, 48, 47, 46, 45, 44, 43, 42, 41, 40, 39, 38, 37, 36, 35, 34, 33, 32, 31, 30, 29, 28, 27, 26, 25, 24, 23, 22, 21, 20, 19, 18, 17, 16, 15, 14, 13, 12, 11, 10, 9, 8, 7, 6] (.seq (.seq (.ops [.i (.mov 6 (.s 5)), .i (.mov 7 (.s 0)), .i (.len 8 false (.s 7)), .i (.bin 9 .lss (.s 6) (.s 8))]) (.cond (.s 9) .skip (.exit 0))) (.seq (.block 1 (.seq (.ops [.i (.mov 12 (.s 0)), .i (.mov 13 (.s 5)), .i (.mov 14 (.s 1)), .i (.iad 15 (.s 12) (.s 13) 10), .i (.fad 16 (.s 15) 0), .i (.sth (.s 16) (.s 14) 1)]) (.seq (.ops [.i (.mov 17 (.s 1)), .i (.bin 18 .add (.s 17) (.c (.val false [.int .i64 1]))), .i (.mov 1 (.s 18))]) (.seq (.ops [.i (.mov 19 (.s 0)), .i (.mov 20 (.s 5)), .i (.mov 21 (.s 1)), .i (.iad 22 (.s 19) (.s 20) 10), .i (.fad 23 (.s 22) 1), .i (.sth (.s 23) (.s 21) 1)]) (.seq (.ops [.i (.mov 24 (.s 1)), .i (.bin 25 .add (.s 24) (.c (.val false [.int .i64 1]))), .i (.mov 1 (.s 25))]) (.seq (.ops [.i (.mov 26 (.s 0)), .i (.mov 27 (.s 5)), .i (.mov 28 (.s 1)), .i (.iad 29 (.s 26) (.s 27) 10), .i (.fad 30 (.s 29) 2), .i (.sth (.s 30) (.s 28) 1)]) (.seq (.ops [.i (.mov 31 (.s 1)), .i (.bin 32 .add (.s 31) (.c (.val false [.int .i64 1]))), .i (.mov 1 (.s 32))]) (.seq (.ops [.i (.mov 33 (.s 0)), .i (.mov 34 (.s 5)), .i (.iad 35 (.s 33) (.s 34) 10), .i (.fad 36 (.s 35) 3), .i (.ldh 37 (.s 36) 1 false), .i (.mov 38 (.s 1)), .i (.call 40 106 false [(.s 37), (.s 38)]), .i (.mov 1 (.s 39))]) (.seq (.ops [.i (.mov 40 (.s 0)), .i (.mov 41 (.s 5)), .i (.iad 42 (.s 40) (.s 41) 10), .i (.fad 43 (.s 42) 4), .i (.ldh 44 (.s 43) 1 false), .i (.mov 45 (.s 1)), .i (.call 47 106 false [(.s 44), (.s 45)]), .i (.mov 1 (.s 46))]) (.seq (.ops [.i (.mov 47 (.s 0)), .i (.mov 48 (.s 5)), .i (.mov 49 (.s 1)), .i (.iad 50 (.s 47) (.s 48) 10), .i (.fad 51 (.s 50) 5), .i (.fad 52 (.s 51) 0), .i (.sth (.s 52) (.s 49) 1)]) (.seq (.ops [.i (.mov 53 (.s 1)), .i (.bin 54 .add (.s 53) (.c (.val false [.int .i64 1]))), .i (.mov 1 (.s 54))]) (.seq (.ops [.i (.mov 55 (.s 0)), .i (.mov 56 (.s 5)), .i (.mov 57 (.s 1)), .i (.iad 58 (.s 55) (.s 56) 10), .i (.fad 59 (.s 58) 5), .i (.fad 60 (.s 59) 1), .i (.sth (.s 60) (.s 57) 1)]) (.seq (.ops [.i (.mov 61 (.s 1)), .i (.bin 62 .add (.s 61) (.c (.val false [.int .i64 1]))), .i (.mov 1 (.s 62))]) (.seq (.ops [.i (.mov 63 (.s 0)), .i (.mov 64 (.s 5)), .i (.iad 65 (.s 63) (.s 64) 10), .i (.fad 66 (.s 65) 5), .i (.fad 67 (.s 66) 2), .i (.ldh 68 (.s 67) 1 false), .i (.mov 69 (.s 1)), .i (.call 71 106 false [(.s 68), (.s 69)]), .i (.mov 1 (.s 70))]) (.seq (.ops [.i (.mov 71 (.s 0)), .i (.mov 72 (.s 5)), .i (.iad 73 (.s 71) (.s 72) 10), .i (.fad 74 (.s 73) 5), .i (.fad 75 (.s 74) 3), .i (.ldh 76 (.s 75) 1 false), .i (.mov 77 (.s 1)), .i (.call 79 106 false [(.s 76), (.s 77)]), .i (.mov 1 (.s 78))]) (.ops [.i (.mov 79 (.s 0)), .i (.mov 80 (.s 5)), .i (.iad 81 (.s 79) (.s 80) 10), .i (.fad 82 (.s 81) 5), .i (.fad 83 (.s 82) 4), .i (.ldh 84 (.s 83) 1 false), .i (.mov 85 (.s 1)), .i (.call 87 118 false [(.s 84), (.s 85)]), .i (.mov 1 (.s 86))])))))))))))))))) (.ops [.i (.mov 10 (.s 5)), .i (.bin 11 .add (.s 10) (.c (.val false [.int .i64 1]))), .i (.mov 5 (.s 11))])))))) (.seq (.ops [.i (.mov 87 (.s 1)), .i (.mov 4 (.s 87))]) .ret)))⟩
theorem k96 : cd 96 = some c96 := by kernel_rfl
theorem len_3 {l : List C} (h : l.length = 3) : ∃ x0 x1 x2, l = [x0, x1, x2] := by
  rcases l with _ | ⟨x0, l⟩
  · simp at h
  rcases l with _ | ⟨x1, l⟩
  · simp at h
  rcases l with _ | ⟨x2, l⟩
  · simp at h
  · simp at h; exact ⟨x0, x1, x2, by simp [h]⟩
theorem len_10 {l : List C} (h : l.length = 10) : ∃ x0 x1 x2 x3 x4 x5 x6 x7 x8 x9, l = [x0, x1, x2, x3, x4, x5, x6, x7, x8, x9] := by
  rcases l with _ | ⟨x0, l⟩
  · simp at h
  rcases l with _ | ⟨x1, l⟩
  · simp at h
  rcases l with _ | ⟨x2, l⟩
  · simp at h
  rcases l with _ | ⟨x3, l⟩
  · simp at h
  rcases l with _ | ⟨x4, l⟩
  · simp at h
  rcases l with _ | ⟨x5, l⟩
  · simp at h
  rcases l with _ | ⟨x6, l⟩
  · simp at h
  rcases l with _ | ⟨x7, l⟩
  · simp at h
  rcases l with _ | ⟨x8, l⟩
  · simp at h
  rcases l with _ | ⟨x9, l⟩
  · simp at h
  · simp at h; exact ⟨x0, x1, x2, x3, x4, x5, x6, x7, x8, x9, by simp [h]⟩
theorem mk_EntryS : MkOk cd 131 (.sl TEntry) := by
  intro h cs v S k hv ho hk
  obtain ⟨c, xs, id, off, bs, S', rfl, rfl, hm, hl, hat, hce, hbs, hel, hS⟩ := hv.view
  have hcn : cnT (.sl TEntry) (.l xs) = (xs.map (cnE TEntry)).sum := rfl
  have hmk : mkT (.sl TEntry) (.l xs) k = .l (mkL (mkE TEntry) (cnE TEntry) xs k) := rfl
  rw [hcn] at hk ⊢
  rw [hmk]
  have hsub : ∀ j ∈ S', j ∈ S := fun j hj => by
    rcases hS with e | ⟨_, _, e⟩
    · rw [e]; simp [hj]
    · rw [e] at hj; cases hj
  have hnd : S'.Nodup := by
    rcases hS with e | ⟨_, _, e⟩
    · have := ho.1
      rw [e] at this
      exact (List.nodup_cons.1 this).2
    · rw [e]; simp
  have hid : 0 < xs.length → id ∉ S' ∧ id ∈ S := fun hp => by
    rcases hS with e | ⟨e, _, _⟩
    · have := ho.1
      rw [e] at this
      exact ⟨(List.nodup_cons.1 this).1, by rw [e]; simp⟩
    · rw [e] at hp; simp at hp
  have hown : ∃ ty, 0 < xs.length → h[id]? = some (.own ty bs) := by
    by_cases hp : 0 < xs.length
    · obtain ⟨ty, cs, e⟩ := ho.2 id (hid hp).2
      have := (hce hp).1
      rw [cells_own e] at this
      cases this
      exact ⟨ty, fun _ => e⟩
    · exact ⟨0, fun e => absurd e hp⟩
  obtain ⟨ty, hty⟩ := hown
  have hs1 : TEntry.size = 3 := rfl
  rw [hs1] at hat hbs
  refine WS_enter k131 rfl ?_
  simp (disch := omega) only [c131, RR, RP, Ty.agg, Ty.size, Ty.sizes, eq_self, ne_eq, not_true, not_false_iff, reduceCtorEq, List.length_cons, List.length_nil, decide_true, decide_false, true_and, and_true, ite_true, ite_false, PT.full, enter0, setAll, forget, Fr.set, Fr.get, PT.get, PT.set, kof, ai, ev, ev1, evp, b_add, b_sub, b_mul, b_quo, b_rem, b_eql, b_neq, b_lss, b_leq, b_gtr, b_geq, b_seql, b_sneq, setD, resV, resL, res1, args, List.take_zero, List.drop_zero, List.take_nil, List.take_succ_cons, List.drop_succ_cons, Nat.reduceAdd, Nat.reduceLeDiff, reduceIte, Bool.not_true, Bool.not_false, Bool.false_eq_true, CA_some, Option.some.injEq, Nat.zero_add, Nat.mul_one, Nat.add_zero, setL, List.set_cons_zero, List.set_cons_succ, fillC]
  refine WS_loop2 (σ := Nat) (f1 := _) (by simp only [RR, RP, Ty.agg, Ty.size, Ty.sizes, eq_self, ne_eq, not_true, not_false_iff, reduceCtorEq, List.length_cons, List.length_nil, decide_true, decide_false, true_and, and_true, ite_true, ite_false, PT.full, enter0, setAll, forget, Fr.set, Fr.get, PT.get, PT.set, kof, ai, ev, ev1, evp, b_add, b_sub, b_mul, b_quo, b_rem, b_eql, b_neq, b_lss, b_leq, b_gtr, b_geq, b_seql, b_sneq, setD, resV, resL, res1, args, List.take_zero, List.drop_zero, List.take_nil, List.take_succ_cons, List.drop_succ_cons, Nat.reduceAdd, Nat.reduceLeDiff, reduceIte, Bool.not_true, Bool.not_false, Bool.false_eq_true, CA_some, Option.some.injEq, Nat.zero_add, Nat.mul_one, Nat.add_zero, setL, List.set_cons_zero, List.set_cons_succ, fillC]; rfl) (fun i => [(5, .val false [.int .i64 i]), (1, .val false [.int .i64 ((k + ((xs.take i).map (cnE TEntry)).sum : Nat) : Int)])])
    (fun i g h' => g = xs.length - i ∧ i ≤ xs.length ∧ Wrote h h' S ∧ (0 < xs.length → ∃ bs', h'[id]? = some (.own ty bs') ∧ bs'.length = bs.length ∧ Elems (Rp h' TEntry) (mkd TEntry xs k i) ((bs'.drop off).take (xs.length * TEntry.size)) S') ∧ (i = 0 → h' = h)) 0 xs.length (by simp only [List.take_zero, List.map_nil, List.sum_nil, RR, RP, Ty.agg, Ty.size, Ty.sizes, eq_self, ne_eq, not_true, not_false_iff, reduceCtorEq, List.length_cons, List.length_nil, decide_true, decide_false, true_and, and_true, ite_true, ite_false, PT.full, enter0, setAll, forget, Fr.set, Fr.get, PT.get, PT.set, kof, ai, ev, ev1, evp, b_add, b_sub, b_mul, b_quo, b_rem, b_eql, b_neq, b_lss, b_leq, b_gtr, b_geq, b_seql, b_sneq, setD, resV, resL, res1, args, List.take_zero, List.drop_zero, List.take_nil, List.take_succ_cons, List.drop_succ_cons, Nat.reduceAdd, Nat.reduceLeDiff, reduceIte, Bool.not_true, Bool.not_false, Bool.false_eq_true, CA_some, Option.some.injEq, Nat.zero_add, Nat.mul_one, Nat.add_zero, setL, List.set_cons_zero, List.set_cons_succ, fillC]; rfl)
    ⟨by omega, by omega, Wrote.refl ho.2, fun hp => ⟨bs, hty hp, rfl, by rw [mkd_zero]; exact hel⟩, fun _ => rfl⟩ ?_
  rintro i g h' ⟨hg, hi, hw, hblk, hz0⟩
  simp (disch := omega) only [c131, hl, w64, RR, RP, Ty.agg, Ty.size, Ty.sizes, eq_self, ne_eq, not_true, not_false_iff, reduceCtorEq, List.length_cons, List.length_nil, decide_true, decide_false, true_and, and_true, ite_true, ite_false, PT.full, enter0, setAll, forget, Fr.set, Fr.get, PT.get, PT.set, kof, ai, ev, ev1, evp, b_add, b_sub, b_mul, b_quo, b_rem, b_eql, b_neq, b_lss, b_leq, b_gtr, b_geq, b_seql, b_sneq, setD, resV, resL, res1, args, List.take_zero, List.drop_zero, List.take_nil, List.take_succ_cons, List.drop_succ_cons, Nat.reduceAdd, Nat.reduceLeDiff, reduceIte, Bool.not_true, Bool.not_false, Bool.false_eq_true, CA_some, Option.some.injEq, Nat.zero_add, Nat.mul_one, Nat.add_zero, setL, List.set_cons_zero, List.set_cons_succ, fillC]
  refine BR_dec (fun hlt => ?_) (fun hlt => ?_)
  · have hix : i < xs.length := by omega
    obtain ⟨bs', hb1, hb2, he⟩ := hblk (by omega)
    clear hblk
    obtain ⟨hidS', hidS⟩ := hid (by omega)
    have hsi := sum_take (g := cnE TEntry) (List.getElem?_eq_getElem hix)
    have hsl := sum_le (g := cnE TEntry) xs (i + 1)
    have hfit : off + i * 3 + 3 ≤ bs'.length := by
      have := Nat.mul_le_mul_right 3 hix
      rw [Nat.succ_mul] at this
      omega
    have hme : i * 3 + 3 ≤ xs.length * 3 := by
      have := Nat.mul_le_mul_right 3 hix
      rw [Nat.succ_mul] at this
      exact this
    obtain ⟨Si, k1, k2, k3, k4⟩ := he.turn hnd (mkd_get hix)
    rw [part_part hix, hs1] at k1
    obtain ⟨x0, x1, x2, hx⟩ := len_3 k1.size
    rw [hx] at k1
    obtain ⟨pre, post, hpl, rfl⟩ := around hx hfit
    have hat' := hat i hix
    rw [← hpl] at hat'
    have hidlt : id < h'.length := (List.getElem?_eq_some_iff.1 hb1).1
    have hset : ∀ b, (h'.set id b)[id]? = some b := fun b => set_get hidlt
    have hnid : id ∉ Si := fun hm => hidS' (k2 id hm)
    have hoi : Ownd h' Si := ⟨k3, fun j hj => (hw.ownd ho).2 j (hsub j (k2 j hj))⟩
    obtain ⟨p_vs, p_hv, p_q0⟩ := k1.st
    obtain ⟨p_v0, p_r0, p_S0, p_T0, rfl, rfl, p_h0, p_q1⟩ := p_q0.step
    simp only [Ty.size, Ty.sizes, Nat.reduceAdd, Nat.zero_add, List.drop_zero, List.drop_succ_cons, List.take_succ_cons, List.take_zero] at p_h0
    obtain ⟨n0, e0, rfl, rfl, lo0, hi0⟩ := p_h0.int
    simp only [List.cons.injEq, and_true] at e0
    subst e0
    obtain ⟨p_v1, p_r1, p_S1, p_T1, rfl, rfl, p_h1, p_q2⟩ := p_q1.step
    simp only [Ty.size, Ty.sizes, Nat.reduceAdd, Nat.zero_add, List.drop_zero, List.drop_succ_cons, List.take_succ_cons, List.take_zero] at p_h1
    obtain ⟨n1, e1, rfl, rfl, lo1, hi1⟩ := p_h1.int
    simp only [List.cons.injEq, and_true] at e1
    subst e1
    obtain ⟨p_v2, p_r2, p_S2, p_T2, rfl, rfl, p_h2, p_q3⟩ := p_q2.step
    simp only [Ty.size, Ty.sizes, Nat.reduceAdd, Nat.zero_add, List.drop_zero, List.drop_succ_cons, List.take_succ_cons, List.take_zero] at p_h2
    have h2 := p_h2
    obtain ⟨_, rfl, rfl⟩ := p_q3
    have hxi : xs[i] = .r [.i n0, .i n1, p_v2] := p_hv
    rw [hxi] at hsi
    simp only [List.nil_append, List.append_nil] at k2 k3 hnid hoi k4
    have hcne : cnE TEntry (.r [.i n0, .i n1, p_v2]) = (1 + (1 + (cnE (.sl (.int .u8)) p_v2 + 0))) := rfl
    rw [hcne] at hsi
    have o2 := hoi
    have hcs : ∀ ty b, H.cells (h'.set id (.own ty b)) id = some b := fun ty b => cells_own (hset _)
    have hcb : h'.cells id = _ := cells_own hb1
    simp (disch := omega) only [KC_eq, c131, hl, hat', hb1, hset, hcs, hcb, List.set_set, pre_get3, pre_set3, pre_get2, pre_set2, pre_get, pre_get0, pre_set, pre_set0, List.length_append, List.cons_append, List.nil_append, List.length_set, ifT, w64, cnE_sl, cast1, RR, RP, Ty.agg, Ty.size, Ty.sizes, eq_self, ne_eq, not_true, not_false_iff, reduceCtorEq, List.length_cons, List.length_nil, decide_true, decide_false, true_and, and_true, ite_true, ite_false, PT.full, enter0, setAll, forget, Fr.set, Fr.get, PT.get, PT.set, kof, ai, ev, ev1, evp, b_add, b_sub, b_mul, b_quo, b_rem, b_eql, b_neq, b_lss, b_leq, b_gtr, b_geq, b_seql, b_sneq, setD, resV, resL, res1, args, List.take_zero, List.drop_zero, List.take_nil, List.take_succ_cons, List.drop_succ_cons, Nat.reduceAdd, Nat.reduceLeDiff, reduceIte, Bool.not_true, Bool.not_false, Bool.false_eq_true, CA_some, Option.some.injEq, Nat.zero_add, Nat.mul_one, Nat.add_zero, setL, List.set_cons_zero, List.set_cons_succ, fillC]
    have hn2 : id ∉ p_S2 := fun hm => hnid (by simp [hm])
    refine MkOk.go mk_ByteS (h2.set hn2) (Ownd.set o2 hidlt) (k := (((k + ((xs.take i).map (cnE TEntry)).sum) + 1) + 1)) (by rw [cnE_sl]; omega) (fun g2 w2 z2 => ?_)
    have hb_2 := w2.2.1 id hn2
    simp only [hb1, hset, hcs, hcb] at hb_2
    have hlt_2 : id < g2.length := (List.getElem?_eq_some_iff.1 hb_2).1
    have hset_2 : ∀ b, (g2.set id b)[id]? = some b := fun b => set_get hlt_2
    have hcs_2 : ∀ ty b, H.cells (g2.set id (.own ty b)) id = some b := fun ty b => cells_own (hset_2 _)
    have hcb_2 : g2.cells id = _ := cells_own hb_2
    simp (disch := omega) only [KC_eq, c131, hl, hat', hb_2, hset_2, hcs_2, hcb_2, List.set_set, pre_get3, pre_set3, pre_get2, pre_set2, pre_get, pre_get0, pre_set, pre_set0, List.length_append, List.cons_append, List.nil_append, List.length_set, ifT, w64, cnE_sl, cast1, RR, RP, Ty.agg, Ty.size, Ty.sizes, eq_self, ne_eq, not_true, not_false_iff, reduceCtorEq, List.length_cons, List.length_nil, decide_true, decide_false, true_and, and_true, ite_true, ite_false, PT.full, enter0, setAll, forget, Fr.set, Fr.get, PT.get, PT.set, kof, ai, ev, ev1, evp, b_add, b_sub, b_mul, b_quo, b_rem, b_eql, b_neq, b_lss, b_leq, b_gtr, b_geq, b_seql, b_sneq, setD, resV, resL, res1, args, List.take_zero, List.drop_zero, List.take_nil, List.take_succ_cons, List.drop_succ_cons, Nat.reduceAdd, Nat.reduceLeDiff, reduceIte, Bool.not_true, Bool.not_false, Bool.false_eq_true, CA_some, Option.some.injEq, Nat.zero_add, Nat.mul_one, Nat.add_zero, setL, List.set_cons_zero, List.set_cons_succ, fillC]
    have wF0 : Wrote h' h' (id :: (p_S2)) := Wrote.refl (fun j hj => by
      rcases List.mem_cons.1 hj with rfl | hj
      · exact ⟨_, _, hb1⟩
      · exact hoi.2 j hj)
    have hmkE : mkE TEntry xs[i] (k + ((xs.take i).map (cnE TEntry)).sum) = .r [.i (IntKind.i64.wrap (((k + ((xs.take i).map (cnE TEntry)).sum) : Nat) : Int)), .i (IntKind.i64.wrap ((((k + ((xs.take i).map (cnE TEntry)).sum) + 1) : Nat) : Int)), mkE (.sl (.int .u8)) p_v2 ((((k + ((xs.take i).map (cnE TEntry)).sum) + 1) + 1))] := by rw [hxi]; rfl
    simp only [mkE_sl] at z2
    have wF := ((wF0.set (by simp) hidlt).more w2 (fun i hi => by simp [hi]))
    have hnew := Rp.mkSt (Rs.mk (Rp.mkNat (n := (k + ((xs.take i).map (cnE TEntry)).sum)) (by omega)) (Rs.mk (Rp.mkNat (n := ((k + ((xs.take i).map (cnE TEntry)).sum) + 1)) (by omega)) (Rs.mk z2 Rs.nil)))
    simp only [List.cons_append, List.nil_append, List.append_nil] at hnew
    rw [← hmkE] at hnew
    have hE := k4 _ _ _ (fun j hj hn => cells_same (wF.2.1 j (fun hm => by
      rcases List.mem_cons.1 hm with rfl | hm
      · exact hidS' hj
      · exact hn hm))) hnew
    rw [mkd_next hix] at hE
    refine ⟨i + 1, xs.length - (i + 1), by omega, ?_, rfl, by omega, hw.more wF (fun j hj => ?_), fun _ => ⟨pre ++ C.int .i64 (((k + ((xs.take i).map (cnE TEntry)).sum) : Nat) : Int) :: C.int .i64 ((((k + ((xs.take i).map (cnE TEntry)).sum) + 1) : Nat) : Int) :: x2 :: post, by first | exact rfl | exact hb_2, ?_, ?_⟩, fun e => by omega⟩
    · have e1 : k + ((xs.take (i + 1)).map (cnE TEntry)).sum = ((((k + ((xs.take i).map (cnE TEntry)).sum) + 1) + 1) + cnE (.sl (.int .u8)) p_v2) := by omega
      rw [e1]
    · rcases List.mem_cons.1 hj with rfl | hj
      · exact hidS
      · exact hsub j (k2 j hj)
    · rw [← hb2]; simp
    · have ht := turned (l := [C.int .i64 n0, C.int .i64 n1, x2]) (l' := [C.int .i64 (((k + ((xs.take i).map (cnE TEntry)).sum) : Nat) : Int), C.int .i64 ((((k + ((xs.take i).map (cnE TEntry)).sum) + 1) : Nat) : Int), x2]) (post := post) hpl rfl (m := xs.length * 3) (by simpa using hme)
      rw [hs1] at hE
      rw [← ht] at hE
      exact hE
  · simp (disch := omega) only [c131, RR, RP, Ty.agg, Ty.size, Ty.sizes, eq_self, ne_eq, not_true, not_false_iff, reduceCtorEq, List.length_cons, List.length_nil, decide_true, decide_false, true_and, and_true, ite_true, ite_false, PT.full, enter0, setAll, forget, Fr.set, Fr.get, PT.get, PT.set, kof, ai, ev, ev1, evp, b_add, b_sub, b_mul, b_quo, b_rem, b_eql, b_neq, b_lss, b_leq, b_gtr, b_geq, b_seql, b_sneq, setD, resV, resL, res1, args, List.take_zero, List.drop_zero, List.take_nil, List.take_succ_cons, List.drop_succ_cons, Nat.reduceAdd, Nat.reduceLeDiff, reduceIte, Bool.not_true, Bool.not_false, Bool.false_eq_true, CA_some, Option.some.injEq, Nat.zero_add, Nat.mul_one, Nat.add_zero, setL, List.set_cons_zero, List.set_cons_succ, fillC]
    have hi' : i = xs.length := by omega
    subst hi'
    rw [List.take_length]
    refine ⟨rfl, hw, ?_⟩
    by_cases hp : 0 < xs.length
    · obtain ⟨bs', hb1, hb2, he⟩ := hblk hp
      rw [mkd_all] at he
      refine ⟨_, rfl, ?_, .inr ⟨id, off, bs', S', _, ?_, cells_own hb1, ?_, ?_, ?_, .inl rfl⟩⟩
      · rw [mkL_len]; simp only [maxLen]; omega
      · rw [mkL_len]; rw [(hce hp).2]
      · rw [mkL_len, hb2, hs1]; exact hbs
      · rcases hS with e | ⟨e, _⟩
        · exact e
        · rw [e] at hp; simp at hp
      · rw [mkL_len]; exact he
    · have hx : xs = [] := List.eq_nil_of_length_eq_zero (by omega)
      subst hx
      rw [hz0 rfl]
      exact hv
theorem mk_HeadS : MkOk cd 96 (.sl THead) := by
  intro h cs v S k hv ho hk
  obtain ⟨c, xs, id, off, bs, S', rfl, rfl, hm, hl, hat, hce, hbs, hel, hS⟩ := hv.view
  have hcn : cnT (.sl THead) (.l xs) = (xs.map (cnE THead)).sum := rfl
  have hmk : mkT (.sl THead) (.l xs) k = .l (mkL (mkE THead) (cnE THead) xs k) := rfl
  rw [hcn] at hk ⊢
  rw [hmk]
  have hsub : ∀ j ∈ S', j ∈ S := fun j hj => by
    rcases hS with e | ⟨_, _, e⟩
    · rw [e]; simp [hj]
    · rw [e] at hj; cases hj
  have hnd : S'.Nodup := by
    rcases hS with e | ⟨_, _, e⟩
    · have := ho.1
      rw [e] at this
      exact (List.nodup_cons.1 this).2
    · rw [e]; simp
  have hid : 0 < xs.length → id ∉ S' ∧ id ∈ S := fun hp => by
    rcases hS with e | ⟨e, _, _⟩
    · have := ho.1
      rw [e] at this
      exact ⟨(List.nodup_cons.1 this).1, by rw [e]; simp⟩
    · rw [e] at hp; simp at hp
  have hown : ∃ ty, 0 < xs.length → h[id]? = some (.own ty bs) := by
    by_cases hp : 0 < xs.length
    · obtain ⟨ty, cs, e⟩ := ho.2 id (hid hp).2
      have := (hce hp).1
      rw [cells_own e] at this
      cases this
      exact ⟨ty, fun _ => e⟩
    · exact ⟨0, fun e => absurd e hp⟩
  obtain ⟨ty, hty⟩ := hown
  have hs1 : THead.size = 10 := rfl
  rw [hs1] at hat hbs
  refine WS_enter k96 rfl ?_
  simp (disch := omega) only [c96, RR, RP, Ty.agg, Ty.size, Ty.sizes, eq_self, ne_eq, not_true, not_false_iff, reduceCtorEq, List.length_cons, List.length_nil, decide_true, decide_false, true_and, and_true, ite_true, ite_false, PT.full, enter0, setAll, forget, Fr.set, Fr.get, PT.get, PT.set, kof, ai, ev, ev1, evp, b_add, b_sub, b_mul, b_quo, b_rem, b_eql, b_neq, b_lss, b_leq, b_gtr, b_geq, b_seql, b_sneq, setD, resV, resL, res1, args, List.take_zero, List.drop_zero, List.take_nil, List.take_succ_cons, List.drop_succ_cons, Nat.reduceAdd, Nat.reduceLeDiff, reduceIte, Bool.not_true, Bool.not_false, Bool.false_eq_true, CA_some, Option.some.injEq, Nat.zero_add, Nat.mul_one, Nat.add_zero, setL, List.set_cons_zero, List.set_cons_succ, fillC]
  refine WS_loop2 (σ := Nat) (f1 := _) (by simp only [RR, RP, Ty.agg, Ty.size, Ty.sizes, eq_self, ne_eq, not_true, not_false_iff, reduceCtorEq, List.length_cons, List.length_nil, decide_true, decide_false, true_and, and_true, ite_true, ite_false, PT.full, enter0, setAll, forget, Fr.set, Fr.get, PT.get, PT.set, kof, ai, ev, ev1, evp, b_add, b_sub, b_mul, b_quo, b_rem, b_eql, b_neq, b_lss, b_leq, b_gtr, b_geq, b_seql, b_sneq, setD, resV, resL, res1, args, List.take_zero, List.drop_zero, List.take_nil, List.take_succ_cons, List.drop_succ_cons, Nat.reduceAdd, Nat.reduceLeDiff, reduceIte, Bool.not_true, Bool.not_false, Bool.false_eq_true, CA_some, Option.some.injEq, Nat.zero_add, Nat.mul_one, Nat.add_zero, setL, List.set_cons_zero, List.set_cons_succ, fillC]; rfl) (fun i => [(5, .val false [.int .i64 i]), (1, .val false [.int .i64 ((k + ((xs.take i).map (cnE THead)).sum : Nat) : Int)])])
    (fun i g h' => g = xs.length - i ∧ i ≤ xs.length ∧ Wrote h h' S ∧ (0 < xs.length → ∃ bs', h'[id]? = some (.own ty bs') ∧ bs'.length = bs.length ∧ Elems (Rp h' THead) (mkd THead xs k i) ((bs'.drop off).take (xs.length * THead.size)) S') ∧ (i = 0 → h' = h)) 0 xs.length (by simp only [List.take_zero, List.map_nil, List.sum_nil, RR, RP, Ty.agg, Ty.size, Ty.sizes, eq_self, ne_eq, not_true, not_false_iff, reduceCtorEq, List.length_cons, List.length_nil, decide_true, decide_false, true_and, and_true, ite_true, ite_false, PT.full, enter0, setAll, forget, Fr.set, Fr.get, PT.get, PT.set, kof, ai, ev, ev1, evp, b_add, b_sub, b_mul, b_quo, b_rem, b_eql, b_neq, b_lss, b_leq, b_gtr, b_geq, b_seql, b_sneq, setD, resV, resL, res1, args, List.take_zero, List.drop_zero, List.take_nil, List.take_succ_cons, List.drop_succ_cons, Nat.reduceAdd, Nat.reduceLeDiff, reduceIte, Bool.not_true, Bool.not_false, Bool.false_eq_true, CA_some, Option.some.injEq, Nat.zero_add, Nat.mul_one, Nat.add_zero, setL, List.set_cons_zero, List.set_cons_succ, fillC]; rfl)
    ⟨by omega, by omega, Wrote.refl ho.2, fun hp => ⟨bs, hty hp, rfl, by rw [mkd_zero]; exact hel⟩, fun _ => rfl⟩ ?_
  rintro i g h' ⟨hg, hi, hw, hblk, hz0⟩
  simp (disch := omega) only [c96, hl, w64, RR, RP, Ty.agg, Ty.size, Ty.sizes, eq_self, ne_eq, not_true, not_false_iff, reduceCtorEq, List.length_cons, List.length_nil, decide_true, decide_false, true_and, and_true, ite_true, ite_false, PT.full, enter0, setAll, forget, Fr.set, Fr.get, PT.get, PT.set, kof, ai, ev, ev1, evp, b_add, b_sub, b_mul, b_quo, b_rem, b_eql, b_neq, b_lss, b_leq, b_gtr, b_geq, b_seql, b_sneq, setD, resV, resL, res1, args, List.take_zero, List.drop_zero, List.take_nil, List.take_succ_cons, List.drop_succ_cons, Nat.reduceAdd, Nat.reduceLeDiff, reduceIte, Bool.not_true, Bool.not_false, Bool.false_eq_true, CA_some, Option.some.injEq, Nat.zero_add, Nat.mul_one, Nat.add_zero, setL, List.set_cons_zero, List.set_cons_succ, fillC]
  refine BR_dec (fun hlt => ?_) (fun hlt => ?_)
  · have hix : i < xs.length := by omega
    obtain ⟨bs', hb1, hb2, he⟩ := hblk (by omega)
    clear hblk
    obtain ⟨hidS', hidS⟩ := hid (by omega)
    have hsi := sum_take (g := cnE THead) (List.getElem?_eq_getElem hix)
    have hsl := sum_le (g := cnE THead) xs (i + 1)
    have hfit : off + i * 10 + 10 ≤ bs'.length := by
      have := Nat.mul_le_mul_right 10 hix
      rw [Nat.succ_mul] at this
      omega
    have hme : i * 10 + 10 ≤ xs.length * 10 := by
      have := Nat.mul_le_mul_right 10 hix
      rw [Nat.succ_mul] at this
      exact this
    obtain ⟨Si, k1, k2, k3, k4⟩ := he.turn hnd (mkd_get hix)
    rw [part_part hix, hs1] at k1
    obtain ⟨x0, x1, x2, x3, x4, x5, x6, x7, x8, x9, hx⟩ := len_10 k1.size
    rw [hx] at k1
    obtain ⟨pre, post, hpl, rfl⟩ := around hx hfit
    have hat' := hat i hix
    rw [← hpl] at hat'
    have hidlt : id < h'.length := (List.getElem?_eq_some_iff.1 hb1).1
    have hset : ∀ b, (h'.set id b)[id]? = some b := fun b => set_get hidlt
    have hnid : id ∉ Si := fun hm => hidS' (k2 id hm)
    have hoi : Ownd h' Si := ⟨k3, fun j hj => (hw.ownd ho).2 j (hsub j (k2 j hj))⟩
    obtain ⟨p_vs, p_hv, p_q0⟩ := k1.st
    obtain ⟨p_v0, p_r0, p_S0, p_T0, rfl, rfl, p_h0, p_q1⟩ := p_q0.step
    simp only [Ty.size, Ty.sizes, Nat.reduceAdd, Nat.zero_add, List.drop_zero, List.drop_succ_cons, List.take_succ_cons, List.take_zero] at p_h0
    obtain ⟨n0, e0, rfl, rfl, lo0, hi0⟩ := p_h0.int
    simp only [List.cons.injEq, and_true] at e0
    subst e0
    obtain ⟨p_v1, p_r1, p_S1, p_T1, rfl, rfl, p_h1, p_q2⟩ := p_q1.step
    simp only [Ty.size, Ty.sizes, Nat.reduceAdd, Nat.zero_add, List.drop_zero, List.drop_succ_cons, List.take_succ_cons, List.take_zero] at p_h1
    obtain ⟨n1, e1, rfl, rfl, lo1, hi1⟩ := p_h1.int
    simp only [List.cons.injEq, and_true] at e1
    subst e1
    obtain ⟨p_v2, p_r2, p_S2, p_T2, rfl, rfl, p_h2, p_q3⟩ := p_q2.step
    simp only [Ty.size, Ty.sizes, Nat.reduceAdd, Nat.zero_add, List.drop_zero, List.drop_succ_cons, List.take_succ_cons, List.take_zero] at p_h2
    obtain ⟨n2, e2, rfl, rfl, lo2, hi2⟩ := p_h2.int
    simp only [List.cons.injEq, and_true] at e2
    subst e2
    obtain ⟨p_v3, p_r3, p_S3, p_T3, rfl, rfl, p_h3, p_q4⟩ := p_q3.step
    simp only [Ty.size, Ty.sizes, Nat.reduceAdd, Nat.zero_add, List.drop_zero, List.drop_succ_cons, List.take_succ_cons, List.take_zero] at p_h3
    have h3 := p_h3
    obtain ⟨p_v4, p_r4, p_S4, p_T4, rfl, rfl, p_h4, p_q5⟩ := p_q4.step
    simp only [Ty.size, Ty.sizes, Nat.reduceAdd, Nat.zero_add, List.drop_zero, List.drop_succ_cons, List.take_succ_cons, List.take_zero] at p_h4
    have h4 := p_h4
    obtain ⟨p_v5, p_r5, p_S5, p_T5, rfl, rfl, p_h5, p_q6⟩ := p_q5.step
    simp only [Ty.size, Ty.sizes, Nat.reduceAdd, Nat.zero_add, List.drop_zero, List.drop_succ_cons, List.take_succ_cons, List.take_zero] at p_h5
    obtain ⟨p5_vs, p5_hv, p5_q0⟩ := p_h5.st
    obtain ⟨p5_v0, p5_r0, p5_S0, p5_T0, rfl, rfl, p5_h0, p5_q1⟩ := p5_q0.step
    simp only [Ty.size, Ty.sizes, Nat.reduceAdd, Nat.zero_add, List.drop_zero, List.drop_succ_cons, List.take_succ_cons, List.take_zero] at p5_h0
    obtain ⟨n5, e5, rfl, rfl, lo5, hi5⟩ := p5_h0.int
    simp only [List.cons.injEq, and_true] at e5
    subst e5
    obtain ⟨p5_v1, p5_r1, p5_S1, p5_T1, rfl, rfl, p5_h1, p5_q2⟩ := p5_q1.step
    simp only [Ty.size, Ty.sizes, Nat.reduceAdd, Nat.zero_add, List.drop_zero, List.drop_succ_cons, List.take_succ_cons, List.take_zero] at p5_h1
    obtain ⟨n6, e6, rfl, rfl, lo6, hi6⟩ := p5_h1.int
    simp only [List.cons.injEq, and_true] at e6
    subst e6
    obtain ⟨p5_v2, p5_r2, p5_S2, p5_T2, rfl, rfl, p5_h2, p5_q3⟩ := p5_q2.step
    simp only [Ty.size, Ty.sizes, Nat.reduceAdd, Nat.zero_add, List.drop_zero, List.drop_succ_cons, List.take_succ_cons, List.take_zero] at p5_h2
    have h7 := p5_h2
    obtain ⟨p5_v3, p5_r3, p5_S3, p5_T3, rfl, rfl, p5_h3, p5_q4⟩ := p5_q3.step
    simp only [Ty.size, Ty.sizes, Nat.reduceAdd, Nat.zero_add, List.drop_zero, List.drop_succ_cons, List.take_succ_cons, List.take_zero] at p5_h3
    have h8 := p5_h3
    obtain ⟨p5_v4, p5_r4, p5_S4, p5_T4, rfl, rfl, p5_h4, p5_q5⟩ := p5_q4.step
    simp only [Ty.size, Ty.sizes, Nat.reduceAdd, Nat.zero_add, List.drop_zero, List.drop_succ_cons, List.take_succ_cons, List.take_zero] at p5_h4
    have h9 := p5_h4
    obtain ⟨_, rfl, rfl⟩ := p5_q5
    subst p5_hv
    obtain ⟨_, rfl, rfl⟩ := p_q6
    have hxi : xs[i] = .r [.i n0, .i n1, .i n2, p_v3, p_v4, .r [.i n5, .i n6, p5_v2, p5_v3, p5_v4]] := p_hv
    rw [hxi] at hsi
    simp only [List.nil_append, List.append_nil] at k2 k3 hnid hoi k4
    have hcne : cnE THead (.r [.i n0, .i n1, .i n2, p_v3, p_v4, .r [.i n5, .i n6, p5_v2, p5_v3, p5_v4]]) = (1 + (1 + (1 + (cnE (.sl (.int .u8)) p_v3 + (cnE (.sl (.int .u8)) p_v4 + ((1 + (1 + (cnE (.sl (.int .u8)) p5_v2 + (cnE (.sl (.int .u8)) p5_v3 + (cnE (.sl (.sl (.int .u8))) p5_v4 + 0))))) + 0)))))) := rfl
    rw [hcne] at hsi
    obtain ⟨o3, ho3, y3, yy3⟩ := hoi.split
    obtain ⟨o4, ho4, y4, yy4⟩ := ho3.split
    obtain ⟨o7, ho7, y7, yy7⟩ := ho4.split
    obtain ⟨o8, ho8, y8, yy8⟩ := ho7.split
    have o9 := ho8
    have hcs : ∀ ty b, H.cells (h'.set id (.own ty b)) id = some b := fun ty b => cells_own (hset _)
    have hcb : h'.cells id = _ := cells_own hb1
    simp (disch := omega) only [KC_eq, c96, hl, hat', hb1, hset, hcs, hcb, List.set_set, pre_get3, pre_set3, pre_get2, pre_set2, pre_get, pre_get0, pre_set, pre_set0, List.length_append, List.cons_append, List.nil_append, List.length_set, ifT, w64, cnE_sl, cast1, RR, RP, Ty.agg, Ty.size, Ty.sizes, eq_self, ne_eq, not_true, not_false_iff, reduceCtorEq, List.length_cons, List.length_nil, decide_true, decide_false, true_and, and_true, ite_true, ite_false, PT.full, enter0, setAll, forget, Fr.set, Fr.get, PT.get, PT.set, kof, ai, ev, ev1, evp, b_add, b_sub, b_mul, b_quo, b_rem, b_eql, b_neq, b_lss, b_leq, b_gtr, b_geq, b_seql, b_sneq, setD, resV, resL, res1, args, List.take_zero, List.drop_zero, List.take_nil, List.take_succ_cons, List.drop_succ_cons, Nat.reduceAdd, Nat.reduceLeDiff, reduceIte, Bool.not_true, Bool.not_false, Bool.false_eq_true, CA_some, Option.some.injEq, Nat.zero_add, Nat.mul_one, Nat.add_zero, setL, List.set_cons_zero, List.set_cons_succ, fillC]
    have hn3 : id ∉ p_S3 := fun hm => hnid (by simp [hm])
    have hn4 : id ∉ p_S4 := fun hm => hnid (by simp [hm])
    have hn7 : id ∉ p5_S2 := fun hm => hnid (by simp [hm])
    have hn8 : id ∉ p5_S3 := fun hm => hnid (by simp [hm])
    have hn9 : id ∉ p5_S4 := fun hm => hnid (by simp [hm])
    refine MkOk.go mk_ByteS (h3.set hn3) (Ownd.set o3 hidlt) (k := ((((k + ((xs.take i).map (cnE THead)).sum) + 1) + 1) + 1)) (by rw [cnE_sl]; omega) (fun g3 w3 z3 => ?_)
    have hb_3 := w3.2.1 id hn3
    simp only [hb1, hset, hcs, hcb] at hb_3
    have hlt_3 : id < g3.length := (List.getElem?_eq_some_iff.1 hb_3).1
    have hset_3 : ∀ b, (g3.set id b)[id]? = some b := fun b => set_get hlt_3
    have hcs_3 : ∀ ty b, H.cells (g3.set id (.own ty b)) id = some b := fun ty b => cells_own (hset_3 _)
    have hcb_3 : g3.cells id = _ := cells_own hb_3
    simp (disch := omega) only [KC_eq, c96, hl, hat', hb_3, hset_3, hcs_3, hcb_3, List.set_set, pre_get3, pre_set3, pre_get2, pre_set2, pre_get, pre_get0, pre_set, pre_set0, List.length_append, List.cons_append, List.nil_append, List.length_set, ifT, w64, cnE_sl, cast1, RR, RP, Ty.agg, Ty.size, Ty.sizes, eq_self, ne_eq, not_true, not_false_iff, reduceCtorEq, List.length_cons, List.length_nil, decide_true, decide_false, true_and, and_true, ite_true, ite_false, PT.full, enter0, setAll, forget, Fr.set, Fr.get, PT.get, PT.set, kof, ai, ev, ev1, evp, b_add, b_sub, b_mul, b_quo, b_rem, b_eql, b_neq, b_lss, b_leq, b_gtr, b_geq, b_seql, b_sneq, setD, resV, resL, res1, args, List.take_zero, List.drop_zero, List.take_nil, List.take_succ_cons, List.drop_succ_cons, Nat.reduceAdd, Nat.reduceLeDiff, reduceIte, Bool.not_true, Bool.not_false, Bool.false_eq_true, CA_some, Option.some.injEq, Nat.zero_add, Nat.mul_one, Nat.add_zero, setL, List.set_cons_zero, List.set_cons_succ, fillC]
    refine MkOk.go mk_ByteS ((h4.set hn4).wrote w3 (fun i hi => yy3 i (by simp [hi]))) (w3.ownd (Ownd.set o4 hidlt)) (k := (((((k + ((xs.take i).map (cnE THead)).sum) + 1) + 1) + 1) + cnE (.sl (.int .u8)) p_v3)) (by rw [cnE_sl]; omega) (fun g4 w4 z4 => ?_)
    have hb_4 := w4.2.1 id hn4
    simp only [hb_3, hset_3, hcs_3, hcb_3] at hb_4
    have hlt_4 : id < g4.length := (List.getElem?_eq_some_iff.1 hb_4).1
    have hset_4 : ∀ b, (g4.set id b)[id]? = some b := fun b => set_get hlt_4
    have hcs_4 : ∀ ty b, H.cells (g4.set id (.own ty b)) id = some b := fun ty b => cells_own (hset_4 _)
    have hcb_4 : g4.cells id = _ := cells_own hb_4
    simp (disch := omega) only [KC_eq, c96, hl, hat', hb_4, hset_4, hcs_4, hcb_4, List.set_set, pre_get3, pre_set3, pre_get2, pre_set2, pre_get, pre_get0, pre_set, pre_set0, List.length_append, List.cons_append, List.nil_append, List.length_set, ifT, w64, cnE_sl, cast1, RR, RP, Ty.agg, Ty.size, Ty.sizes, eq_self, ne_eq, not_true, not_false_iff, reduceCtorEq, List.length_cons, List.length_nil, decide_true, decide_false, true_and, and_true, ite_true, ite_false, PT.full, enter0, setAll, forget, Fr.set, Fr.get, PT.get, PT.set, kof, ai, ev, ev1, evp, b_add, b_sub, b_mul, b_quo, b_rem, b_eql, b_neq, b_lss, b_leq, b_gtr, b_geq, b_seql, b_sneq, setD, resV, resL, res1, args, List.take_zero, List.drop_zero, List.take_nil, List.take_succ_cons, List.drop_succ_cons, Nat.reduceAdd, Nat.reduceLeDiff, reduceIte, Bool.not_true, Bool.not_false, Bool.false_eq_true, CA_some, Option.some.injEq, Nat.zero_add, Nat.mul_one, Nat.add_zero, setL, List.set_cons_zero, List.set_cons_succ, fillC]
    refine MkOk.go mk_ByteS ((((h7.set hn7).wrote w3 (fun i hi => yy3 i (by simp [hi]))).wrote w4 (fun i hi => yy4 i (by simp [hi]))).set hn7) (Ownd.set (w4.ownd (w3.ownd (Ownd.set o7 hidlt))) hlt_4) (k := ((((((((k + ((xs.take i).map (cnE THead)).sum) + 1) + 1) + 1) + cnE (.sl (.int .u8)) p_v3) + cnE (.sl (.int .u8)) p_v4) + 1) + 1)) (by rw [cnE_sl]; omega) (fun g7 w7 z7 => ?_)
    have hb_7 := w7.2.1 id hn7
    simp only [hb_4, hset_4, hcs_4, hcb_4] at hb_7
    have hlt_7 : id < g7.length := (List.getElem?_eq_some_iff.1 hb_7).1
    have hset_7 : ∀ b, (g7.set id b)[id]? = some b := fun b => set_get hlt_7
    have hcs_7 : ∀ ty b, H.cells (g7.set id (.own ty b)) id = some b := fun ty b => cells_own (hset_7 _)
    have hcb_7 : g7.cells id = _ := cells_own hb_7
    simp (disch := omega) only [KC_eq, c96, hl, hat', hb_7, hset_7, hcs_7, hcb_7, List.set_set, pre_get3, pre_set3, pre_get2, pre_set2, pre_get, pre_get0, pre_set, pre_set0, List.length_append, List.cons_append, List.nil_append, List.length_set, ifT, w64, cnE_sl, cast1, RR, RP, Ty.agg, Ty.size, Ty.sizes, eq_self, ne_eq, not_true, not_false_iff, reduceCtorEq, List.length_cons, List.length_nil, decide_true, decide_false, true_and, and_true, ite_true, ite_false, PT.full, enter0, setAll, forget, Fr.set, Fr.get, PT.get, PT.set, kof, ai, ev, ev1, evp, b_add, b_sub, b_mul, b_quo, b_rem, b_eql, b_neq, b_lss, b_leq, b_gtr, b_geq, b_seql, b_sneq, setD, resV, resL, res1, args, List.take_zero, List.drop_zero, List.take_nil, List.take_succ_cons, List.drop_succ_cons, Nat.reduceAdd, Nat.reduceLeDiff, reduceIte, Bool.not_true, Bool.not_false, Bool.false_eq_true, CA_some, Option.some.injEq, Nat.zero_add, Nat.mul_one, Nat.add_zero, setL, List.set_cons_zero, List.set_cons_succ, fillC]
    refine MkOk.go mk_ByteS (((((h8.set hn8).wrote w3 (fun i hi => yy3 i (by simp [hi]))).wrote w4 (fun i hi => yy4 i (by simp [hi]))).set hn8).wrote w7 (fun i hi => yy7 i (by simp [hi]))) (w7.ownd (Ownd.set (w4.ownd (w3.ownd (Ownd.set o8 hidlt))) hlt_4)) (k := (((((((((k + ((xs.take i).map (cnE THead)).sum) + 1) + 1) + 1) + cnE (.sl (.int .u8)) p_v3) + cnE (.sl (.int .u8)) p_v4) + 1) + 1) + cnE (.sl (.int .u8)) p5_v2)) (by rw [cnE_sl]; omega) (fun g8 w8 z8 => ?_)
    have hb_8 := w8.2.1 id hn8
    simp only [hb_7, hset_7, hcs_7, hcb_7] at hb_8
    have hlt_8 : id < g8.length := (List.getElem?_eq_some_iff.1 hb_8).1
    have hset_8 : ∀ b, (g8.set id b)[id]? = some b := fun b => set_get hlt_8
    have hcs_8 : ∀ ty b, H.cells (g8.set id (.own ty b)) id = some b := fun ty b => cells_own (hset_8 _)
    have hcb_8 : g8.cells id = _ := cells_own hb_8
    simp (disch := omega) only [KC_eq, c96, hl, hat', hb_8, hset_8, hcs_8, hcb_8, List.set_set, pre_get3, pre_set3, pre_get2, pre_set2, pre_get, pre_get0, pre_set, pre_set0, List.length_append, List.cons_append, List.nil_append, List.length_set, ifT, w64, cnE_sl, cast1, RR, RP, Ty.agg, Ty.size, Ty.sizes, eq_self, ne_eq, not_true, not_false_iff, reduceCtorEq, List.length_cons, List.length_nil, decide_true, decide_false, true_and, and_true, ite_true, ite_false, PT.full, enter0, setAll, forget, Fr.set, Fr.get, PT.get, PT.set, kof, ai, ev, ev1, evp, b_add, b_sub, b_mul, b_quo, b_rem, b_eql, b_neq, b_lss, b_leq, b_gtr, b_geq, b_seql, b_sneq, setD, resV, resL, res1, args, List.take_zero, List.drop_zero, List.take_nil, List.take_succ_cons, List.drop_succ_cons, Nat.reduceAdd, Nat.reduceLeDiff, reduceIte, Bool.not_true, Bool.not_false, Bool.false_eq_true, CA_some, Option.some.injEq, Nat.zero_add, Nat.mul_one, Nat.add_zero, setL, List.set_cons_zero, List.set_cons_succ, fillC]
    refine MkOk.go mk_ByteSS ((((((h9.set hn9).wrote w3 (fun i hi => yy3 i (by simp [hi]))).wrote w4 (fun i hi => yy4 i (by simp [hi]))).set hn9).wrote w7 (fun i hi => yy7 i (by simp [hi]))).wrote w8 (fun i hi => yy8 i (by simp [hi]))) (w8.ownd (w7.ownd (Ownd.set (w4.ownd (w3.ownd (Ownd.set o9 hidlt))) hlt_4))) (k := ((((((((((k + ((xs.take i).map (cnE THead)).sum) + 1) + 1) + 1) + cnE (.sl (.int .u8)) p_v3) + cnE (.sl (.int .u8)) p_v4) + 1) + 1) + cnE (.sl (.int .u8)) p5_v2) + cnE (.sl (.int .u8)) p5_v3)) (by rw [cnE_sl]; omega) (fun g9 w9 z9 => ?_)
    have hb_9 := w9.2.1 id hn9
    simp only [hb_8, hset_8, hcs_8, hcb_8] at hb_9
    have hlt_9 : id < g9.length := (List.getElem?_eq_some_iff.1 hb_9).1
    have hset_9 : ∀ b, (g9.set id b)[id]? = some b := fun b => set_get hlt_9
    have hcs_9 : ∀ ty b, H.cells (g9.set id (.own ty b)) id = some b := fun ty b => cells_own (hset_9 _)
    have hcb_9 : g9.cells id = _ := cells_own hb_9
    simp (disch := omega) only [KC_eq, c96, hl, hat', hb_9, hset_9, hcs_9, hcb_9, List.set_set, pre_get3, pre_set3, pre_get2, pre_set2, pre_get, pre_get0, pre_set, pre_set0, List.length_append, List.cons_append, List.nil_append, List.length_set, ifT, w64, cnE_sl, cast1, RR, RP, Ty.agg, Ty.size, Ty.sizes, eq_self, ne_eq, not_true, not_false_iff, reduceCtorEq, List.length_cons, List.length_nil, decide_true, decide_false, true_and, and_true, ite_true, ite_false, PT.full, enter0, setAll, forget, Fr.set, Fr.get, PT.get, PT.set, kof, ai, ev, ev1, evp, b_add, b_sub, b_mul, b_quo, b_rem, b_eql, b_neq, b_lss, b_leq, b_gtr, b_geq, b_seql, b_sneq, setD, resV, resL, res1, args, List.take_zero, List.drop_zero, List.take_nil, List.take_succ_cons, List.drop_succ_cons, Nat.reduceAdd, Nat.reduceLeDiff, reduceIte, Bool.not_true, Bool.not_false, Bool.false_eq_true, CA_some, Option.some.injEq, Nat.zero_add, Nat.mul_one, Nat.add_zero, setL, List.set_cons_zero, List.set_cons_succ, fillC]
    have wF0 : Wrote h' h' (id :: (p_S3 ++ (p_S4 ++ (p5_S2 ++ (p5_S3 ++ (p5_S4)))))) := Wrote.refl (fun j hj => by
      rcases List.mem_cons.1 hj with rfl | hj
      · exact ⟨_, _, hb1⟩
      · exact hoi.2 j hj)
    have hmkE : mkE THead xs[i] (k + ((xs.take i).map (cnE THead)).sum) = .r [.i (IntKind.i64.wrap (((k + ((xs.take i).map (cnE THead)).sum) : Nat) : Int)), .i (IntKind.i64.wrap ((((k + ((xs.take i).map (cnE THead)).sum) + 1) : Nat) : Int)), .i (IntKind.i64.wrap (((((k + ((xs.take i).map (cnE THead)).sum) + 1) + 1) : Nat) : Int)), mkE (.sl (.int .u8)) p_v3 (((((k + ((xs.take i).map (cnE THead)).sum) + 1) + 1) + 1)), mkE (.sl (.int .u8)) p_v4 ((((((k + ((xs.take i).map (cnE THead)).sum) + 1) + 1) + 1) + cnE (.sl (.int .u8)) p_v3)), .r [.i (IntKind.i64.wrap ((((((((k + ((xs.take i).map (cnE THead)).sum) + 1) + 1) + 1) + cnE (.sl (.int .u8)) p_v3) + cnE (.sl (.int .u8)) p_v4) : Nat) : Int)), .i (IntKind.i64.wrap (((((((((k + ((xs.take i).map (cnE THead)).sum) + 1) + 1) + 1) + cnE (.sl (.int .u8)) p_v3) + cnE (.sl (.int .u8)) p_v4) + 1) : Nat) : Int)), mkE (.sl (.int .u8)) p5_v2 (((((((((k + ((xs.take i).map (cnE THead)).sum) + 1) + 1) + 1) + cnE (.sl (.int .u8)) p_v3) + cnE (.sl (.int .u8)) p_v4) + 1) + 1)), mkE (.sl (.int .u8)) p5_v3 ((((((((((k + ((xs.take i).map (cnE THead)).sum) + 1) + 1) + 1) + cnE (.sl (.int .u8)) p_v3) + cnE (.sl (.int .u8)) p_v4) + 1) + 1) + cnE (.sl (.int .u8)) p5_v2)), mkE (.sl (.sl (.int .u8))) p5_v4 (((((((((((k + ((xs.take i).map (cnE THead)).sum) + 1) + 1) + 1) + cnE (.sl (.int .u8)) p_v3) + cnE (.sl (.int .u8)) p_v4) + 1) + 1) + cnE (.sl (.int .u8)) p5_v2) + cnE (.sl (.int .u8)) p5_v3))]] := by rw [hxi]; rfl
    simp only [mkE_sl] at z3 z4 z7 z8 z9
    have wF := (((((((wF0.set (by simp) hidlt).more w3 (fun i hi => by simp [hi])).more w4 (fun i hi => by simp [hi])).set (by simp) hlt_4).more w7 (fun i hi => by simp [hi])).more w8 (fun i hi => by simp [hi])).more w9 (fun i hi => by simp [hi]))
    have hnew := Rp.mkSt (Rs.mk (Rp.mkNat (n := (k + ((xs.take i).map (cnE THead)).sum)) (by omega)) (Rs.mk (Rp.mkNat (n := ((k + ((xs.take i).map (cnE THead)).sum) + 1)) (by omega)) (Rs.mk (Rp.mkNat (n := (((k + ((xs.take i).map (cnE THead)).sum) + 1) + 1)) (by omega)) (Rs.mk (((((z3.wrote w4 (fun i hi hn => y3 i hi (by simp [hn]))).set hn3).wrote w7 (fun i hi hn => y3 i hi (by simp [hn]))).wrote w8 (fun i hi hn => y3 i hi (by simp [hn]))).wrote w9 (fun i hi hn => y3 i hi (by simp [hn]))) (Rs.mk ((((z4.set hn4).wrote w7 (fun i hi hn => y4 i hi (by simp [hn]))).wrote w8 (fun i hi hn => y4 i hi (by simp [hn]))).wrote w9 (fun i hi hn => y4 i hi (by simp [hn]))) (Rs.mk (Rp.mkSt (Rs.mk (Rp.mkNat (n := ((((((k + ((xs.take i).map (cnE THead)).sum) + 1) + 1) + 1) + cnE (.sl (.int .u8)) p_v3) + cnE (.sl (.int .u8)) p_v4)) (by omega)) (Rs.mk (Rp.mkNat (n := (((((((k + ((xs.take i).map (cnE THead)).sum) + 1) + 1) + 1) + cnE (.sl (.int .u8)) p_v3) + cnE (.sl (.int .u8)) p_v4) + 1)) (by omega)) (Rs.mk ((z7.wrote w8 (fun i hi hn => y7 i hi (by simp [hn]))).wrote w9 (fun i hi hn => y7 i hi (by simp [hn]))) (Rs.mk (z8.wrote w9 (fun i hi hn => y8 i hi (by simp [hn]))) (Rs.mk z9 Rs.nil)))))) Rs.nil))))))
    simp only [List.cons_append, List.nil_append, List.append_nil] at hnew
    rw [← hmkE] at hnew
    have hE := k4 _ _ _ (fun j hj hn => cells_same (wF.2.1 j (fun hm => by
      rcases List.mem_cons.1 hm with rfl | hm
      · exact hidS' hj
      · exact hn hm))) hnew
    rw [mkd_next hix] at hE
    refine ⟨i + 1, xs.length - (i + 1), by omega, ?_, rfl, by omega, hw.more wF (fun j hj => ?_), fun _ => ⟨pre ++ C.int .i64 (((k + ((xs.take i).map (cnE THead)).sum) : Nat) : Int) :: C.int .i64 ((((k + ((xs.take i).map (cnE THead)).sum) + 1) : Nat) : Int) :: C.int .i64 (((((k + ((xs.take i).map (cnE THead)).sum) + 1) + 1) : Nat) : Int) :: x3 :: x4 :: C.int .i64 ((((((((k + ((xs.take i).map (cnE THead)).sum) + 1) + 1) + 1) + cnE (.sl (.int .u8)) p_v3) + cnE (.sl (.int .u8)) p_v4) : Nat) : Int) :: C.int .i64 (((((((((k + ((xs.take i).map (cnE THead)).sum) + 1) + 1) + 1) + cnE (.sl (.int .u8)) p_v3) + cnE (.sl (.int .u8)) p_v4) + 1) : Nat) : Int) :: x7 :: x8 :: x9 :: post, by first | exact rfl | exact hb_9, ?_, ?_⟩, fun e => by omega⟩
    · have e1 : k + ((xs.take (i + 1)).map (cnE THead)).sum = (((((((((((k + ((xs.take i).map (cnE THead)).sum) + 1) + 1) + 1) + cnE (.sl (.int .u8)) p_v3) + cnE (.sl (.int .u8)) p_v4) + 1) + 1) + cnE (.sl (.int .u8)) p5_v2) + cnE (.sl (.int .u8)) p5_v3) + cnE (.sl (.sl (.int .u8))) p5_v4) := by omega
      rw [e1]
    · rcases List.mem_cons.1 hj with rfl | hj
      · exact hidS
      · exact hsub j (k2 j hj)
    · rw [← hb2]; simp
    · have ht := turned (l := [C.int .i64 n0, C.int .i64 n1, C.int .i64 n2, x3, x4, C.int .i64 n5, C.int .i64 n6, x7, x8, x9]) (l' := [C.int .i64 (((k + ((xs.take i).map (cnE THead)).sum) : Nat) : Int), C.int .i64 ((((k + ((xs.take i).map (cnE THead)).sum) + 1) : Nat) : Int), C.int .i64 (((((k + ((xs.take i).map (cnE THead)).sum) + 1) + 1) : Nat) : Int), x3, x4, C.int .i64 ((((((((k + ((xs.take i).map (cnE THead)).sum) + 1) + 1) + 1) + cnE (.sl (.int .u8)) p_v3) + cnE (.sl (.int .u8)) p_v4) : Nat) : Int), C.int .i64 (((((((((k + ((xs.take i).map (cnE THead)).sum) + 1) + 1) + 1) + cnE (.sl (.int .u8)) p_v3) + cnE (.sl (.int .u8)) p_v4) + 1) : Nat) : Int), x7, x8, x9]) (post := post) hpl rfl (m := xs.length * 10) (by simpa using hme)
      rw [hs1] at hE
      rw [← ht] at hE
      exact hE
  · simp (disch := omega) only [c96, RR, RP, Ty.agg, Ty.size, Ty.sizes, eq_self, ne_eq, not_true, not_false_iff, reduceCtorEq, List.length_cons, List.length_nil, decide_true, decide_false, true_and, and_true, ite_true, ite_false, PT.full, enter0, setAll, forget, Fr.set, Fr.get, PT.get, PT.set, kof, ai, ev, ev1, evp, b_add, b_sub, b_mul, b_quo, b_rem, b_eql, b_neq, b_lss, b_leq, b_gtr, b_geq, b_seql, b_sneq, setD, resV, resL, res1, args, List.take_zero, List.drop_zero, List.take_nil, List.take_succ_cons, List.drop_succ_cons, Nat.reduceAdd, Nat.reduceLeDiff, reduceIte, Bool.not_true, Bool.not_false, Bool.false_eq_true, CA_some, Option.some.injEq, Nat.zero_add, Nat.mul_one, Nat.add_zero, setL, List.set_cons_zero, List.set_cons_succ, fillC]
    have hi' : i = xs.length := by omega
    subst hi'
    rw [List.take_length]
    refine ⟨rfl, hw, ?_⟩
    by_cases hp : 0 < xs.length
    · obtain ⟨bs', hb1, hb2, he⟩ := hblk hp
      rw [mkd_all] at he
      refine ⟨_, rfl, ?_, .inr ⟨id, off, bs', S', _, ?_, cells_own hb1, ?_, ?_, ?_, .inl rfl⟩⟩
      · rw [mkL_len]; simp only [maxLen]; omega
      · rw [mkL_len]; rw [(hce hp).2]
      · rw [mkL_len, hb2, hs1]; exact hbs
      · rcases hS with e | ⟨e, _⟩
        · exact e
        · rw [e] at hp; simp at hp
      · rw [mkL_len]; exact he
    · have hx : xs = [] := List.eq_nil_of_length_eq_zero (by omega)
      subst hx
      rw [hz0 rfl]
      exact hv
end Go.Eng.U
