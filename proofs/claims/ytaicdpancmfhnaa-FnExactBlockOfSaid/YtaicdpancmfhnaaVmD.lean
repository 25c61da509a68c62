/-
  The value machine, part D: what a cell becomes in an element; what is appended.
-/
import Derived.Test.YtaicdpancmfhnaaVmC
set_option linter.unusedVariables false
set_option linter.unusedSimpArgs false
namespace Go.Eng
section
variable {Γ : Cx} {γ γ' : Gh} {f f' : UT} {st st' : St} {mf mf' : Fr} {h h' : H}
theorem not_PR_w {k i : Nat} {e : En} (hl : lk k st.es = some e) (hi : i ∈ γ.w k) : ¬ PR Γ γ st i := fun hp => hp.2 k e hl hi
/-- An own slice is read alone from now on. -/
theorem RelG.freeze (hr : RelG Γ γ f st mf h) {k v : Nat} {o dp dp' : Bool} {t : Option (Nat × Nat)} {xs : List (List D)} (hl : lk k st.es = some (.sl v o dp t xs)) :
    ∃ γ', RelG Γ γ' f (st.put k (.sl v false dp' t xs)) mf h ∧ Mo Γ γ st h γ' (st.put k (.sl v false dp' t xs)) h ∧ (∃ S, RD h (.sl xs) (γ.c k) S ∧ (∀ i ∈ S, PR Γ γ' (st.put k (.sl v false dp' t xs)) i) ∧ ((o && dp) = true → Free Γ γ' (st.put k (.sl v false dp' t xs)) S ∧ ∀ i ∈ S, i ∈ γ.w k ++ γ.u k)) ∧
      ∀ T, Free Γ γ st T → Free Γ γ' (st.put k (.sl v false dp' t xs)) T := by
  obtain ⟨S, h1, h2⟩ := els_ok hr (d := .ow k v) (c := γ.c k) ⟨(hr.en k _ hl).ver, fun _ _ _ _ _ => rfl⟩ (xs := xs) (by simp [St.els, St.slc, hl])
  have hpr : ∀ i ∈ S, PR Γ (γ.up k (γ.c k) [] []) (st.put k (.sl v false dp' t xs)) i := by
    intro i hi
    have hold : (Γ.ar i ∨ Γ.hb.length ≤ i ∨ i ∈ Γ.bs) ∧ ∀ k' e, k' ≠ k → lk k' st.es = some e → i ∉ γ.w k' := by
      by_cases hp : PR Γ γ st i
      · exact ⟨hp.1, fun k' e _ hl' => hp.2 k' e hl'⟩
      · have he := hr.en k _ hl
        cases o with
        | true =>
          obtain ⟨_, he⟩ := he
          have hiw : i ∈ γ.w k := by
            rcases he with ⟨rfl, _, _, h3⟩ | ⟨id, ty, ez, bs, S', k1, k2, k3, k4, k5, k6, k7, k8⟩
            · simp only [RD] at h1
              rcases h1 with ⟨_, rfl, _⟩ | ⟨id, off, e, bs, S', h4, _⟩
              · cases hi
              · rcases h3 with h3 | h3 <;> rw [h3] at h4 <;> cases h4
            · simp only [RD] at h1
              rcases h1 with ⟨rfl, rfl, h4⟩ | ⟨id', off, e, bs', S2, h4, _, _, rfl, _⟩
              · cases hi
              · rw [k2] at h4
                cases h4
                rw [k3]
                rcases List.mem_cons.1 hi with rfl | hi
                · simp
                · exact absurd (h2 i hi) hp
          have := hr.nd k _ hl
          refine ⟨?_, fun k' e hne hl' hi' => hr.dj k k' _ e (fun e => hne e.symm) hl hl' i (by simp [hiw]) (by simp [hi'])⟩
          rcases this.2 i (by simp [hiw]) with h9 | h9
          · exact .inr (.inr h9)
          · exact .inr (.inl h9)
        | false =>
          obtain ⟨_, _, _, S2, k1, k2⟩ := he
          exfalso
          apply hp
          simp only [RD] at h1 k1
          rcases h1 with ⟨_, rfl, _⟩ | ⟨id, off, e, bs, S', h4, _, _, rfl, _⟩
          · cases hi
          · rcases k1 with ⟨_, _, k4 | k4⟩ | ⟨id', off', e', bs', S3, k4, _, _, k5, _⟩
            · rw [k4] at h4; cases h4
            · rw [k4] at h4; cases h4
            · rw [h4] at k4
              cases k4
              rcases List.mem_cons.1 hi with rfl | hi
              · exact k2 _ (by rw [k5]; simp)
              · exact h2 i hi
    refine ⟨hold.1, fun k' e hl' => ?_⟩
    simp only [St.put, lk_cons] at hl'
    by_cases hkk : k' = k
    · subst hkk; simp
    · rw [if_neg hkk] at hl'
      rw [Gh.up_w' _ _ _ _ hkk]
      exact hold.2 k' e hkk hl'
  obtain ⟨q1, q2⟩ := hr.upd (k := k) (nx' := st.nx) (e' := .sl v false dp' t xs) (c := γ.c k) (w := []) (u := []) (h' := h) (Nat.le_refl _) (.inr ⟨rfl, o, dp, t, xs, hl, fun e => by cases e⟩) (fun _ _ _ => rfl) (fun i hi => by cases hi) (fun _ _ _ _ _ _ => rfl)
    ⟨by simp, fun i hi => by simp at hi⟩ (fun _ _ _ _ i hi => by simp at hi) (Nat.le_refl _) (fun _ _ _ => rfl) (fun hm => ⟨Nat.lt_of_lt_of_le (hr.en k _ hl).ver hm.nx, by simp, by simp, S, by simpa using h1, hpr⟩) hr.own
  refine ⟨_, q1, q2, ⟨S, h1, hpr, fun hod => ?_⟩, fun T hT => hT.upd (fun i _ => by simp)⟩
  simp only [Bool.and_eq_true] at hod
  obtain ⟨rfl, rfl⟩ := hod
  have hS : ∀ i ∈ S, i ∈ γ.w k ++ γ.u k := by
    obtain ⟨_, he⟩ := hr.en k _ hl
    rcases he with ⟨rfl, _, _, h3⟩ | ⟨id, ty, ez, bs, S', k1, k2, k3, k4, k5, k6, k7, k8⟩
    · simp only [RD] at h1
      rcases h1 with ⟨_, rfl, _⟩ | ⟨id, off, e, bs, S', h4, _⟩
      · intro i hi; cases hi
      · rcases h3 with h3 | h3 <;> rw [h3] at h4 <;> cases h4
    · simp only [RD] at h1
      rcases h1 with ⟨rfl, rfl, h4⟩ | ⟨id', off, e, bs', S2, h4, h5, _, rfl, h6⟩
      · intro i hi; cases hi
      · rw [k2] at h4
        cases h4
        rw [cells_own k4] at h5
        cases h5
        rw [List.drop_zero, ← k5, List.take_length] at h6
        rw [k3, k8, if_pos rfl]
        have : S2 = S' := RDss.uniq xs h6 k6
        rw [this]
        intro i hi
        simpa using hi
  have hSS : S.Nodup := by
    obtain ⟨_, he⟩ := hr.en k _ hl
    have hn := (hr.nd k _ hl).1
    rcases he with ⟨rfl, _, _, h3⟩ | ⟨id, ty, ez, bs, S', k1, k2, k3, k4, k5, k6, k7, k8⟩
    · simp only [RD] at h1
      rcases h1 with ⟨_, rfl, _⟩ | ⟨id, off, e, bs, S', h4, _⟩
      · simp
      · rcases h3 with h3 | h3 <;> rw [h3] at h4 <;> cases h4
    · simp only [RD] at h1
      rcases h1 with ⟨rfl, rfl, h4⟩ | ⟨id', off, e, bs', S2, h4, h5, _, rfl, h6⟩
      · simp
      · rw [k2] at h4
        cases h4
        rw [cells_own k4] at h5
        cases h5
        rw [List.drop_zero, ← k5, List.take_length] at h6
        rw [k3, k8, if_pos rfl] at hn
        have : S2 = S' := RDss.uniq xs h6 k6
        rw [this]
        simpa using hn
  refine ⟨⟨hSS, fun i hi => (hr.nd k _ hl).2 i (hS i hi), fun k' e hl' i hi => ?_⟩, hS⟩
  simp only [St.put, lk_cons] at hl'
  by_cases hkk : k' = k
  · subst hkk; simp
  · rw [if_neg hkk] at hl'
    rw [Gh.up_w' _ _ _ _ hkk, Gh.up_u' _ _ _ _ hkk]
    exact hr.dj k k' _ e (fun e => hkk e.symm) hl hl' i (hS i hi)
theorem Free.nil : Free Γ γ st [] := ⟨by simp, fun i hi => by simp at hi, fun k e _ i hi => by simp at hi⟩
theorem dp_ok (hr : RelG Γ γ f st mf h) {c : C} {d d' : D} {b : Bool} (hd : DC Γ γ st h c d) (he : st.dp d = some (d', st', b)) :
    ∃ γ' S, RelG Γ γ' f st' mf h ∧ Mo Γ γ st h γ' st' h ∧ RD h d' c S ∧ (∀ i ∈ S, PR Γ γ' st' i) ∧ (b = true → Free Γ γ' st' S) ∧ ∀ T, Free Γ γ st T → Free Γ γ' st' T ∧ (b = true → ∀ i ∈ S, i ∉ T) := by
  cases d <;> simp only [St.dp] at he
  case ow k v =>
    split at he
    · rename_i o dp t xs hs
      simp at he
      obtain ⟨rfl, rfl, rfl⟩ := he
      have hl := St.slc_spec hs
      have hc := hd.2 _ _ _ _ hl
      subst hc
      obtain ⟨γ', h1, h2, ⟨S, h3, h4, h5⟩, h6⟩ := hr.freeze (dp' := false) hl
      exact ⟨γ', S, h1, h2, h3, h4, fun e => (h5 (by simpa using e)).1, fun T hT => ⟨h6 T hT, fun e i hi hiT => hT.2.2 k _ hl i hiT ((h5 (by simpa using e)).2 i hi)⟩⟩
    · simp at he
  case nils =>
    simp at he
    obtain ⟨rfl, rfl, rfl⟩ := he
    obtain ⟨S, hd, _⟩ := hd
    simp only [RD] at hd
    exact ⟨γ, [], hr, Mo.refl, RD_sl.2 (.inl ⟨rfl, rfl, .inl hd.1⟩), fun i hi => by simp at hi, fun _ => Free.nil, fun T hT => ⟨hT, fun _ i hi => by simp at hi⟩⟩
  case sl xs =>
    simp at he
    obtain ⟨rfl, rfl, rfl⟩ := he
    obtain ⟨S, h1, h2⟩ := hd
    exact ⟨γ, S, hr, Mo.refl, h1, h2, fun e => by simp at e, fun T hT => ⟨hT, fun e => by simp at e⟩⟩
  all_goals first
    | (simp at he; done)
    | (simp at he
       obtain ⟨rfl, rfl, rfl⟩ := he
       obtain ⟨S, h1, h2⟩ := hd
       have hS : S = [] := by simp only [RD] at h1; exact h1.2
       subst hS
       exact ⟨γ, [], hr, Mo.refl, h1, h2, fun _ => Free.nil, fun T hT => ⟨hT, fun _ i hi => by simp at hi⟩⟩)
theorem dps_ok : ∀ {ds : List D} {γ : Gh} {st st' : St} (hr : RelG Γ γ f st mf h) {cs : List C} {ds' : List D} {b : Bool} (hd : All2 (DC Γ γ st h) cs ds) (he : st.dps ds = some (ds', st', b)),
    ∃ γ' S, RelG Γ γ' f st' mf h ∧ Mo Γ γ st h γ' st' h ∧ RDs h ds' cs S ∧ (∀ i ∈ S, PR Γ γ' st' i) ∧ (b = true → Free Γ γ' st' S) ∧ ∀ T, Free Γ γ st T → Free Γ γ' st' T ∧ (b = true → ∀ i ∈ S, i ∉ T)
  | [], γ, st, st', hr, [], ds', b, _, he => by
    simp [St.dps] at he
    obtain ⟨rfl, rfl, rfl⟩ := he
    exact ⟨γ, [], hr, Mo.refl, by simp [RDs], fun i hi => by simp at hi, fun _ => Free.nil, fun T hT => ⟨hT, fun _ i hi => by simp at hi⟩⟩
  | d :: ds, γ, st, st', hr, c :: cs, ds', b, hd, he => by
    simp only [St.dps] at he
    split at he
    · rename_i d1 st1 b1 h1
      split at he
      · rename_i ds2 st2 b2 h2
        simp at he
        obtain ⟨rfl, rfl, rfl⟩ := he
        obtain ⟨γ1, S1, k1, k2, k3, k4, k5, k6⟩ := dp_ok hr hd.1 h1
        obtain ⟨γ2, S2, q1, q2, q3, q4, q5, q6⟩ := dps_ok k1 (hd.2.imp fun _ _ => DC.mo k2) h2
        refine ⟨γ2, S1 ++ S2, q1, k2.trans q2, ?_, fun i hi => ?_, fun hb => ?_, fun T hT => ?_⟩
        · simp only [RDs]
          exact ⟨c, cs, S1, S2, rfl, rfl, k3, q3⟩
        · rcases List.mem_append.1 hi with hi | hi
          · exact (q2.cell i (RD.lt d1 k3 i hi) (k4 i hi)).2
          · exact q4 i hi
        · simp only [Bool.and_eq_true] at hb
          obtain ⟨r1, r2⟩ := q6 S1 (k5 hb.1)
          have r3 := q5 hb.2
          refine ⟨List.nodup_append.2 ⟨r1.1, r3.1, fun a ha b hb' e => r2 hb.2 b hb' (e ▸ ha)⟩, fun i hi => ?_, fun k e hl i hi => ?_⟩
          · rcases List.mem_append.1 hi with hi | hi
            · exact r1.2.1 i hi
            · exact r3.2.1 i hi
          · rcases List.mem_append.1 hi with hi | hi
            · exact r1.2.2 k e hl i hi
            · exact r3.2.2 k e hl i hi
        · obtain ⟨r1, r2⟩ := k6 T hT
          obtain ⟨r3, r4⟩ := q6 T r1
          refine ⟨r3, fun hb i hi => ?_⟩
          simp only [Bool.and_eq_true] at hb
          rcases List.mem_append.1 hi with hi | hi
          · exact r2 hb.1 i hi
          · exact r4 hb.2 i hi
      · simp at he
    · simp at he
theorem flat_strD (s : ByteArray) : RDss h (strD s) 1 (strCells s) [] := by
  unfold strD strCells
  induction s.data.toList with
  | nil => simp [RDss]
  | cons b l ih =>
    simp only [List.map_cons, RDss, RDs]
    exact ⟨[.int .u8 (b.toNat : Int)], _, [], [], rfl, rfl, rfl, ⟨_, _, [], [], rfl, rfl, by simp [RD], rfl, rfl⟩, ih⟩
theorem srcD_ok (hr : RelG Γ γ f st mf h) {c : C} {d : D} {esz : Nat} {ys : List (List D)} {b : Bool} (hd : DC Γ γ st h c d) (he : srcD st esz d = some (ys, st', b)) :
    ∃ γ' cs S, RelG Γ γ' f st' mf h ∧ Mo Γ γ st h γ' st' h ∧ srcC h esz c = some (cs, ys.length) ∧ RDss h ys esz cs S ∧ (∀ i ∈ S, PR Γ γ' st' i) ∧ (b = true → Free Γ γ' st' S) := by
  have key : ∀ xs, st.els d = some xs → (if wid esz xs = true then
        (if flat xs = true then some (xs, st, true) else match d with
          | .ow k v => match st.slc k v with
            | some (o, dp, t, ys) => some (xs, st.put k (.sl v o false t ys), o && dp)
            | none => none
          | _ => some (xs, st, false)) else none) = some (ys, st', b) → ∃ γ' cs S, RelG Γ γ' f st' mf h ∧ Mo Γ γ st h γ' st' h ∧ srcC h esz c = some (cs, ys.length) ∧ RDss h ys esz cs S ∧ (∀ i ∈ S, PR Γ γ' st' i) ∧ (b = true → Free Γ γ' st' S) := by
    intro xs hx he
    obtain ⟨S, h1, h2⟩ := els_ok hr hd hx
    split at he
    · rename_i hw
      obtain ⟨cs, h3, h4⟩ := h1.srcC hw
      split at he
      · rename_i hf
        simp at he
        obtain ⟨rfl, rfl, rfl⟩ := he
        have hS := h4.flatS hf
        rw [hS] at h4
        exact ⟨γ, cs, [], hr, Mo.refl, h3, h4, fun i hi => by simp at hi, fun _ => Free.nil⟩
      · rename_i hnf
        by_cases hd0 : ∃ k v, d = .ow k v
        · obtain ⟨k, v, rfl⟩ := hd0
          simp only at he
          split at he
          · rename_i o dp t zs hs
            simp at he
            obtain ⟨rfl, rfl, rfl⟩ := he
            have hl := St.slc_spec hs
            have hxz : xs = zs := by simp only [St.els, hs] at hx; simpa using hx.symm
            subst hxz
            have hc := hd.2 _ _ _ _ hl
            subst hc
            have hen := hr.en k _ hl
            obtain ⟨q1, q2⟩ := hr.upd (k := k) (nx' := st.nx) (e' := .sl v o false t xs) (c := γ.c k) (w := γ.w k) (u := []) (h' := h) (Nat.le_refl _) (.inr ⟨rfl, o, dp, t, xs, hl, fun e => ⟨e, rfl⟩⟩) (fun _ _ _ => rfl) (fun i hi _ => not_PR_w hl hi) (fun _ _ _ _ _ _ => rfl)
              ⟨by have := (hr.nd k _ hl).1; rw [List.append_nil]; exact (List.nodup_append.1 this).1, fun i hi => (hr.nd k _ hl).2 i (by simp at hi; simp [hi])⟩ (fun k' e hne hl' i hi => hr.dj k k' _ e (fun e => hne e.symm) hl hl' i (by simp at hi; simp [hi])) (Nat.le_refl _) (fun _ _ _ => rfl) (fun hm => by
                cases o with
                | true =>
                  obtain ⟨h0, hen⟩ := hen
                  refine ⟨Nat.lt_of_lt_of_le h0 hm.nx, ?_⟩
                  rcases hen with ⟨k1, k2, k3, k4⟩ | ⟨id, ty, ez, bs, S', k1, k2, k3, k4, k5, k6, k7, k8⟩
                  · exact .inl ⟨k1, by simpa using k2, by simp, by simpa using k4⟩
                  · exact .inr ⟨id, ty, ez, bs, S', k1, by simpa using k2, by simpa using k3, k4, k5, k6, fun i hi => (hm.cell i (RDss.lt xs k6 i hi) (k7 i hi)).2, by simp⟩
                | false =>
                  obtain ⟨h0, k1, k2, k3⟩ := hen
                  exact ⟨Nat.lt_of_lt_of_le h0 hm.nx, by simpa using k1, by simp, by simpa using RD.mo hm k3⟩) hr.own
            refine ⟨_, cs, S.tail, q1, q2, h3, h4, fun i hi => (q2.cell i (RDss.lt xs h4 i hi) (h2 i hi)).2, fun hb => ?_⟩
            simp only [Bool.and_eq_true] at hb
            obtain ⟨rfl, rfl⟩ := hb
            obtain ⟨h0, hen⟩ := hen
            have hu : S.tail = γ.u k := by
              rcases hen with ⟨k1, k2, k3, k4⟩ | ⟨id, ty, ez, bs, S', k1, k2, k3, k4, k5, k6, k7, k8⟩
              · subst k1
                simp [Eng.flat] at hnf
              · rw [k8, if_pos rfl]
                have : cs = bs ∧ esz = ez := by
                  rw [k2] at h3
                  simp only [Eng.srcC, H.slice, cells_own k4] at h3
                  have hes : ez = esz := by
                    rcases k6.same hw with e | e
                    · exact e
                    · exfalso; cases xs with | nil => simp [Eng.flat] at hnf | cons _ _ => simp at e
                  subst hes
                  simp only [true_or, if_true] at h3
                  rw [if_pos (by omega)] at h3
                  simp at h3
                  refine ⟨?_, rfl⟩
                  rw [← h3, ← k5, List.take_length]
                obtain ⟨rfl, rfl⟩ := this
                exact RDss.uniq xs h4 k6
            have hn := hr.nd k _ hl
            rw [hu]
            refine ⟨(List.nodup_append.1 hn.1).2.1, fun i hi => hn.2 i (by simp [hi]), fun k' e hl' i hi => ?_⟩
            simp only [St.put, lk_cons] at hl'
            by_cases hkk : k' = k
            · subst hkk
              simp only [Gh.up_w, Gh.up_u, List.append_nil]
              exact fun hiw => (List.nodup_append.1 hn.1).2.2 i hiw i hi rfl
            · rw [if_neg hkk] at hl'
              rw [Gh.up_w' _ _ _ _ hkk, Gh.up_u' _ _ _ _ hkk]
              exact hr.dj k k' _ e (fun e => hkk e.symm) hl hl' i (by simp [hi])
          · simp at he
        · have he2 : some (xs, st, false) = some (ys, st', b) := by
            cases d <;> first | exact he | exact absurd ⟨_, _, rfl⟩ hd0
          simp at he2
          obtain ⟨rfl, rfl, rfl⟩ := he2
          exact ⟨γ, cs, S.tail, hr, Mo.refl, h3, h4, h2, fun e => by simp at e⟩
    · simp at he
  cases d
  case str s =>
    simp only [srcD] at he
    split at he
    · rename_i h1
      subst h1
      simp at he
      obtain ⟨rfl, rfl, rfl⟩ := he
      obtain ⟨S, hd, _⟩ := hd
      simp only [RD] at hd
      obtain ⟨rfl, _⟩ := hd
      exact ⟨γ, strCells s, [], hr, Mo.refl, by simp [srcC, strD], flat_strD s, fun i hi => by simp at hi, fun _ => Free.nil⟩
    · simp at he
  all_goals
    simp only [srcD] at he
    split at he
    · rename_i xs hx
      exact key xs hx he
    · simp at he
theorem srcU_ok (hr : RelG Γ γ f st mf h) {x : X} {esz : Nat} {ys : List (List D)} {b : Bool} (he : srcU f st esz x = some (ys, st', b)) :
    ∃ γ' cs S, RelG Γ γ' f st' mf h ∧ Mo Γ γ st h γ' st' h ∧ srcOf mf h esz x = some (cs, ys.length) ∧ RDss h ys esz cs S ∧ (∀ i ∈ S, PR Γ γ' st' i) ∧ (b = true → Free Γ γ' st' S) := by
  cases x with
  | s t =>
    simp only [srcU] at he
    have hs := hr.slot t
    split at he
    · rename_i ds n e hu
      rw [hu] at hs
      obtain ⟨cs, h1, h2⟩ := hs
      split at he
      · rename_i hc
        split at he
        · rename_i ds' st1 b1 hd
          simp at he
          obtain ⟨rfl, rfl, rfl⟩ := he
          obtain ⟨γ', S, k1, k2, k3, k4, k5, _⟩ := dps_ok hr h2 hd
          have hl := k3.len
          have hl2 := h2.length
          exact ⟨γ', cs, S, k1, k2, by simp only [srcOf, h1]; rw [if_pos ⟨hc.1, by omega⟩, chunks_len], chunks_ok k3 (by omega), k4, k5⟩
        · simp at he
      · simp at he
    · rename_i d hu
      rw [hu] at hs
      obtain ⟨cs, h1, h2⟩ := hs
      match cs, h2 with
      | [c], h2 =>
        obtain ⟨γ', ws, S, k1, k2, k3, k4⟩ := srcD_ok hr h2.1 he
        exact ⟨γ', ws, S, k1, k2, by simp only [srcOf, h1, k3], k4⟩
    · simp at he
  | c v =>
    cases v with
    | val g cs =>
      cases g with
      | false =>
        match cs, he with
        | [c], he =>
          simp only [srcU] at he
          split at he
          · rename_i d hd
            obtain ⟨γ', ws, S, k1, k2, k3, k4⟩ := srcD_ok hr (DC.cD hd rfl) he
            exact ⟨γ', ws, S, k1, k2, by simp only [srcOf, k3], k4⟩
          · simp at he
        | [], he => simp [srcU] at he
        | _ :: _ :: _, he => simp [srcU] at he
      | true => simp [srcU] at he
    | _ => simp [srcU] at he
end
end Go.Eng
