/-
  The value machine, part P: its contracts, for values of the program's types.
-/
import Derived.Test.YtaicdpancmfhnaaVmN
set_option linter.unusedVariables false
set_option linter.unusedSimpArgs false
namespace Go.Eng
mutual
def enc : Ty → Tv → List D
  | .int k, .i n => [.int k n]
  | .bool, .b b => [.bool b]
  | .str, .s s => [.str s]
  | .sl t, .l xs => [.sl (xs.map (enc t))]
  | .st ts, .r vs => encS ts vs
  | _, _ => []
def encS : List Ty → List Tv → List D
  | t :: ts, v :: vs => enc t v ++ encS ts vs
  | _, _ => []
end
mutual
/-- A value of the type. -/
def TvOk : Ty → Tv → Prop
  | .int k, .i n => k.min ≤ n ∧ n ≤ k.max
  | .bool, .b _ => True
  | .str, .s s => s.size ≤ maxLen
  | .sl t, .l xs => xs.length ≤ maxLen ∧ ∀ x ∈ xs, TvOk t x
  | .st ts, .r vs => TvOkS ts vs
  | _, _ => False
def TvOkS : List Ty → List Tv → Prop
  | [], [] => True
  | t :: ts, v :: vs => TvOk t v ∧ TvOkS ts vs
  | _, _ => False
end
section
variable {h h' : H}
mutual
theorem Rp.rd : ∀ (T : Ty) {cs : List C} {v : Tv} {S : List Nat}, Rp h T cs v S → RDs h (enc T v) cs S
  | .int k, cs, v, S, hr => by
    obtain ⟨n, rfl, rfl, rfl, _⟩ := hr.int
    simp only [enc, RDs, RD]
    exact ⟨_, _, [], [], rfl, rfl, ⟨rfl, rfl⟩, rfl, rfl⟩
  | .bool, cs, v, S, hr => by
    unfold Rp at hr
    obtain ⟨b, rfl, rfl, rfl⟩ := hr
    simp only [enc, RDs, RD]
    exact ⟨_, _, [], [], rfl, rfl, ⟨rfl, rfl⟩, rfl, rfl⟩
  | .str, cs, v, S, hr => by
    unfold Rp at hr
    obtain ⟨s, rfl, rfl, rfl, _⟩ := hr
    simp only [enc, RDs, RD]
    exact ⟨_, _, [], [], rfl, rfl, ⟨rfl, rfl⟩, rfl, rfl⟩
  | .sl t, cs, v, S, hr => by
    obtain ⟨xs, rfl, _, hc⟩ := hr.sl
    simp only [enc, RDs]
    rcases hc with ⟨rfl, rfl, rfl | rfl⟩ | ⟨id, off, bs, S', e0, rfl, h2, h3, rfl, h5, he0⟩
    · exact ⟨_, _, [], [], rfl, rfl, RD_sl.2 (.inl ⟨rfl, rfl, .inl rfl⟩), rfl, rfl⟩
    · exact ⟨_, _, [], [], rfl, rfl, RD_sl.2 (.inl ⟨rfl, rfl, .inr rfl⟩), rfl, rfl⟩
    · have key : ∀ {xs : List Tv} {bs : List C} {S : List Nat}, Elems (Rp h t) xs bs S → RDss h (xs.map (enc t)) t.size bs S := by
        intro xs
        induction xs with
        | nil => intro bs S he; simp only [List.map_nil, RDss]; exact he
        | cons x xs ih =>
          intro bs S he
          obtain ⟨c1, c2, S1, S2, e1, e2, e3, e4⟩ := he
          simp only [List.map_cons, RDss]
          exact ⟨c1, c2, S1, S2, e1, e2, e3.size, Rp.rd t e3, ih e4⟩
      have hle : xs.length * e0 = xs.length * t.size := by rcases he0 with rfl | rfl <;> simp
      have h6 := key h5
      refine ⟨_, [], id :: S', [], rfl, by simp, RD_sl.2 (.inr ⟨id, off, e0, bs, S', by simp, h2, by simp only [List.length_map, hle]; exact h3, rfl, ?_⟩), rfl, rfl⟩
      simp only [List.length_map, hle]
      rcases he0 with rfl | rfl
      · exact h6
      · simp only [List.map_nil, RDss] at h6 ⊢; exact h6
  | .st ts, cs, v, S, hr => by
    obtain ⟨vs, rfl, h2⟩ := hr.st
    simp only [enc]
    exact Rs.rd ts (by simpa using h2)
theorem Rs.rd : ∀ (ts : List Ty) {cs : List C} {vs : List Tv} {S : List Nat}, Rs h ts cs vs S → RDs h (encS ts vs) cs S
  | [], cs, vs, S, hr => by
    obtain ⟨rfl, rfl, rfl⟩ := hr
    simp [encS, RDs]
  | t :: ts, cs, vs, S, hr => by
    obtain ⟨c1, c2, v, vr, S1, S2, rfl, rfl, rfl, h4, h5⟩ := hr
    simp only [encS]
    exact (Rp.rd t h4).join (Rs.rd ts h5)
end
mutual
theorem Rp.ok : ∀ (T : Ty) {cs : List C} {v : Tv} {S : List Nat}, Rp h T cs v S → TvOk T v
  | .int k, cs, v, S, hr => by obtain ⟨n, rfl, rfl, rfl, h1⟩ := hr.int; simpa only [TvOk] using h1
  | .bool, cs, v, S, hr => by unfold Rp at hr; obtain ⟨b, rfl, rfl, rfl⟩ := hr; simp only [TvOk]
  | .str, cs, v, S, hr => by unfold Rp at hr; obtain ⟨s, rfl, rfl, rfl, h1⟩ := hr; simpa only [TvOk] using h1
  | .sl t, cs, v, S, hr => by
    obtain ⟨xs, rfl, hm, hc⟩ := hr.sl
    simp only [TvOk]
    refine ⟨hm, ?_⟩
    rcases hc with ⟨rfl, _⟩ | ⟨id, off, bs, S', e0, rfl, h2, h3, rfl, h5, _⟩
    · intro x hx; cases hx
    · have key : ∀ {xs : List Tv} {bs : List C} {S : List Nat}, Elems (Rp h t) xs bs S → ∀ x ∈ xs, TvOk t x := by
        intro xs
        induction xs with
        | nil => intro bs S _ x hx; cases hx
        | cons y xs ih =>
          intro bs S he x hx
          obtain ⟨c1, c2, S1, S2, e1, e2, e3, e4⟩ := he
          rcases List.mem_cons.1 hx with rfl | hx
          · exact Rp.ok t e3
          · exact ih e4 x hx
      exact key h5
  | .st ts, cs, v, S, hr => by obtain ⟨vs, rfl, h2⟩ := hr.st; simp only [TvOk]; exact Rs.ok ts (by simpa using h2)
theorem Rs.ok : ∀ (ts : List Ty) {cs : List C} {vs : List Tv} {S : List Nat}, Rs h ts cs vs S → TvOkS ts vs
  | [], cs, vs, S, hr => by obtain ⟨rfl, rfl, rfl⟩ := hr; simp only [TvOkS]
  | t :: ts, cs, vs, S, hr => by obtain ⟨c1, c2, v, vr, S1, S2, rfl, rfl, rfl, h4, h5⟩ := hr; simp only [TvOkS]; exact ⟨Rp.ok t h4, Rs.ok ts h5⟩
end
mutual
theorem enc_len : ∀ (T : Ty) {v : Tv}, TvOk T v → (enc T v).length = T.size
  | .int k, v, hv => by cases v <;> simp only [TvOk] at hv <;> rfl
  | .bool, v, hv => by cases v <;> simp only [TvOk] at hv <;> rfl
  | .str, v, hv => by cases v <;> simp only [TvOk] at hv <;> rfl
  | .sl t, v, hv => by cases v <;> simp only [TvOk] at hv <;> simp only [enc] <;> rfl
  | .st ts, v, hv => by cases v <;> simp only [TvOk] at hv; simp only [enc]; exact encS_len ts hv
theorem encS_len : ∀ (ts : List Ty) {vs : List Tv}, TvOkS ts vs → (encS ts vs).length = Ty.sizes ts
  | [], vs, hv => by cases vs <;> simp only [TvOkS] at hv <;> rfl
  | t :: ts, vs, hv => by
    cases vs <;> simp only [TvOkS] at hv
    simp only [encS, List.length_append, enc_len t hv.1, encS_len ts hv.2]
    rfl
end
mutual
theorem RDs.rp : ∀ (T : Ty) {cs : List C} {v : Tv} {S : List Nat}, TvOk T v → RDs h (enc T v) cs S → Rp h T cs v S
  | .int k, cs, v, S, hv, hr => by
    cases v <;> simp only [TvOk] at hv
    simp only [enc, RDs, RD] at hr
    obtain ⟨_, _, _, _, rfl, rfl, ⟨rfl, rfl⟩, rfl, rfl⟩ := hr
    exact ⟨_, rfl, rfl, rfl, hv⟩
  | .bool, cs, v, S, hv, hr => by
    cases v <;> simp only [TvOk] at hv
    simp only [enc, RDs, RD] at hr
    obtain ⟨_, _, _, _, rfl, rfl, ⟨rfl, rfl⟩, rfl, rfl⟩ := hr
    exact ⟨_, rfl, rfl, rfl⟩
  | .str, cs, v, S, hv, hr => by
    cases v <;> simp only [TvOk] at hv
    simp only [enc, RDs, RD] at hr
    obtain ⟨_, _, _, _, rfl, rfl, ⟨rfl, rfl⟩, rfl, rfl⟩ := hr
    exact ⟨_, rfl, rfl, rfl, hv⟩
  | .sl t, cs, v, S, hv, hr => by
    cases v <;> simp only [TvOk] at hv
    rename_i xs
    simp only [enc, RDs] at hr
    obtain ⟨c, cr, S1, S2, rfl, rfl, h1, rfl, rfl⟩ := hr
    refine ⟨xs, rfl, hv.1, ?_⟩
    rcases RD_sl.1 h1 with ⟨hx, rfl, hc⟩ | ⟨id, off, e, bs, S', rfl, h2, h3, rfl, h5⟩
    · have hx' : xs = [] := by simpa using hx
      subst hx'
      exact .inl ⟨rfl, rfl, hc.imp (fun e => by rw [e]) (fun e => by rw [e])⟩
    · have key : ∀ {xs : List Tv} {e : Nat} {bs : List C} {S : List Nat}, (∀ x ∈ xs, TvOk t x) → RDss h (xs.map (enc t)) e bs S → Elems (Rp h t) xs bs S := by
        intro xs
        induction xs with
        | nil => intro e bs S _ he; simp only [List.map_nil, RDss] at he; exact he
        | cons x xs ih =>
          intro e bs S hv he
          simp only [List.map_cons, RDss] at he
          obtain ⟨c1, c2, S1, S2, e1, e2, e3, e4, e5⟩ := he
          exact ⟨c1, c2, S1, S2, e1, e2, RDs.rp t (hv x (by simp)) e4, ih (fun y hy => hv y (by simp [hy])) e5⟩
      have he0 : e = t.size ∨ xs = [] := by
        cases xs with
        | nil => exact .inr rfl
        | cons x xs =>
          left
          have := h5.wid (enc t x) (by simp)
          rw [← this]
          exact enc_len t (hv.2 x (by simp))
      have hle : xs.length * e = xs.length * t.size := by rcases he0 with rfl | rfl <;> simp
      simp only [List.length_map, hle] at h3 h5
      exact .inr ⟨id, off, bs, S', e, by simp, h2, h3, by simp, key hv.2 h5, he0⟩
  | .st ts, cs, v, S, hv, hr => by
    cases v <;> simp only [TvOk] at hv
    simp only [enc] at hr
    exact ⟨_, rfl, RDs.rs ts hv hr⟩
theorem RDs.rs : ∀ (ts : List Ty) {cs : List C} {vs : List Tv} {S : List Nat}, TvOkS ts vs → RDs h (encS ts vs) cs S → Rs h ts cs vs S
  | [], cs, vs, S, hv, hr => by
    cases vs <;> simp only [TvOkS] at hv
    simp only [encS, RDs] at hr
    exact ⟨hr.1, rfl, hr.2⟩
  | t :: ts, cs, vs, S, hv, hr => by
    cases vs <;> simp only [TvOkS] at hv
    rename_i v vs
    simp only [encS] at hr
    obtain ⟨S1, S2, rfl, h2, h3⟩ := hr.cut (enc t v).length
    have hl := enc_len t hv.1
    rw [List.take_left] at h2
    rw [List.drop_left] at h3
    exact ⟨_, _, v, vs, S1, S2, (List.take_append_drop _ _).symm, rfl, rfl, RDs.rp t hv.1 h2, RDs.rs ts hv.2 h3⟩
end
/-! ### Results -/
/-- The result's cells are those; all of its slices are the caller's. -/
def EEq : List E → List D → Prop
  | [], [] => True
  | .e (.o dp t xs) :: es, .sl ys :: ds => dp = true ∧ xs = ys ∧ EEq es ds
  | .e (.p .nils) :: es, .sl ys :: ds => ys = [] ∧ EEq es ds
  | .e (.p d) :: es, d' :: ds => d = d' ∧ d.leaf = true ∧ EEq es ds
  | _, _ => False
mutual
theorem RD.alive : ∀ (d : D) {c : C} {S : List Nat}, RD h d c S → ∀ i ∈ S, ∃ bs, h.cells i = some bs
  | .int _ _, _, _, hr, i, hi => by simp only [RD] at hr; rw [hr.2] at hi; cases hi
  | .bool _, _, _, hr, i, hi => by simp only [RD] at hr; rw [hr.2] at hi; cases hi
  | .str _, _, _, hr, i, hi => by simp only [RD] at hr; rw [hr.2] at hi; cases hi
  | .fn _, _, _, hr, i, hi => by simp only [RD] at hr; rw [hr.2] at hi; cases hi
  | .nilf, _, _, hr, i, hi => by simp only [RD] at hr; rw [hr.2] at hi; cases hi
  | .nili, _, _, hr, i, hi => by simp only [RD] at hr; rw [hr.2] at hi; cases hi
  | .nilp, _, _, hr, i, hi => by simp only [RD] at hr; rw [hr.2] at hi; cases hi
  | .nils, _, _, hr, i, hi => by simp only [RD] at hr; rw [hr.2] at hi; cases hi
  | .sl xs, c, S, hr, i, hi => by
    rcases RD_sl.1 hr with ⟨_, e, _⟩ | ⟨id, off, e, bs, S', h1, h2, h3, h4, h5⟩
    · rw [e] at hi; cases hi
    · rw [h4] at hi
      rcases List.mem_cons.1 hi with rfl | hi
      · exact ⟨bs, h2⟩
      · exact RDss.alive xs h5 i hi
  | .ow _ _, _, _, hr, _, _ => by simp only [RD] at hr
  | .pt _ _ _, _, _, hr, _, _ => by simp only [RD] at hr
  | .pe _ _, _, _, hr, _, _ => by simp only [RD] at hr
  | .px _ _ _ _, _, _, hr, _, _ => by simp only [RD] at hr
  | .sa _ _ _ _ _, _, _, hr, _, _ => by simp only [RD] at hr
theorem RDs.alive : ∀ (ds : List D) {cs : List C} {S : List Nat}, RDs h ds cs S → ∀ i ∈ S, ∃ bs, h.cells i = some bs
  | [], _, _, hr, i, hi => by simp only [RDs] at hr; rw [hr.2] at hi; cases hi
  | d :: ds, cs, S, hr, i, hi => by
    simp only [RDs] at hr
    obtain ⟨c, cr, S1, S2, h1, h2, h3, h4⟩ := hr
    rw [h2] at hi
    rcases List.mem_append.1 hi with hi | hi
    · exact RD.alive d h3 i hi
    · exact RDs.alive ds h4 i hi
theorem RDss.alive : ∀ (xs : List (List D)) {e : Nat} {cs : List C} {S : List Nat}, RDss h xs e cs S → ∀ i ∈ S, ∃ bs, h.cells i = some bs
  | [], _, _, _, hr, i, hi => by simp only [RDss] at hr; rw [hr.2] at hi; cases hi
  | x :: xs, e, cs, S, hr, i, hi => by
    simp only [RDss] at hr
    obtain ⟨c1, c2, S1, S2, h1, h2, h3, h4, h5⟩ := hr
    rw [h2] at hi
    rcases List.mem_append.1 hi with hi | hi
    · exact RDs.alive x h4 i hi
    · exact RDss.alive xs h5 i hi
end
end
section
variable {Γ : Cx} {γ : Gh} {f : UT} {st : St} {mf : Fr} {h h' : H}
/-- Where the slices of results lead to. -/
theorem EEq.rds (hr : RelG Γ γ f st mf h) : ∀ {es : List E} {ds : List D} {k v : Nat} {cs : List C}, EEq es ds → (∀ k' e, lk k' (impE k v es).2 = some e → lk k' st.es = some e) → All2 (DC Γ γ st h) cs (impE k v es).1 →
    ∃ S, RDs h ds cs S ∧ S.Nodup ∧ ∀ i ∈ S, ∃ k' e, k ≤ k' ∧ k' < k + szE es ∧ lk k' st.es = some e ∧ i ∈ γ.w k' ++ γ.u k'
  | [], [], k, v, cs, _, _, hc => by
    cases cs with
    | nil => exact ⟨[], by simp [RDs], by simp, fun i hi => by cases hi⟩
    | cons c cs => simp only [impE] at hc; exact hc.elim
  | .e (.o dp t xs) :: es, ds, k, v, cs, he, hL, hc => by
    cases ds with
    | nil => exact he.elim
    | cons d ds =>
    cases d <;> simp only [EEq] at he
    obtain ⟨rfl, rfl, he⟩ := he
    simp only [impE] at hc hL
    match cs, hc with
    | c :: cs, hc =>
      have hl := hL k _ lk_hit
      obtain ⟨S, q1, q2, q3⟩ := EEq.rds hr (k := k + 1) (v := v + 1) he (fun k' e hk => hL k' e (by have := (impE_ver hk).2.1; rw [lk_cons, if_neg (by omega)]; exact hk)) hc.2
      have hcc := hc.1.2 _ _ _ _ hl
      obtain ⟨_, hen⟩ := hr.en _ _ hl
      have hnd := (hr.nd _ _ hl).1
      have h1 : RD h (.sl xs) c (γ.w k ++ γ.u k) := by
        rw [hcc]
        rcases hen with ⟨rfl, w1, w2, w3⟩ | ⟨id, ty, ez, bs, S0, k1, k2, k3, k4, k5, k6, k7, k8⟩
        · rw [w1, w2]; exact RD_sl.2 (.inl ⟨rfl, rfl, w3⟩)
        · rw [k3, k8, if_pos rfl, k2]
          refine RD_sl.2 (.inr ⟨id, 0, ez, bs, S0, rfl, cells_own k4, by omega, rfl, ?_⟩)
          rw [List.drop_zero, ← k5, List.take_length]
          exact k6
      refine ⟨(γ.w k ++ γ.u k) ++ S, ?_, ?_, fun i hi => ?_⟩
      · simp only [RDs]; exact ⟨c, cs, _, S, rfl, rfl, h1, q1⟩
      · refine List.nodup_append.2 ⟨hnd, q2, fun a ha b hb e => ?_⟩
        subst e
        obtain ⟨k', e', r1, r2, r3, r4⟩ := q3 a hb
        exact hr.dj k k' _ e' (by omega) hl r3 a ha r4
      · rcases List.mem_append.1 hi with hi | hi
        · exact ⟨k, _, Nat.le_refl _, by simp only [szE]; omega, hl, hi⟩
        · obtain ⟨k', e', r1, r2, r3, r4⟩ := q3 i hi
          exact ⟨k', e', by omega, by simp only [szE]; omega, r3, r4⟩
  | .e (.p d) :: es, ds, k, v, cs, he, hL, hc => by
    cases ds with
    | nil => cases d <;> exact he.elim
    | cons d' ds =>
    simp only [impE] at hc hL
    match cs, hc with
    | c :: cs, hc =>
      have fin : ∀ (d0 : D), RD h d0 c [] → EEq es ds → ∃ S, RDs h (d0 :: ds) (c :: cs) S ∧ S.Nodup ∧ ∀ i ∈ S, ∃ k' e, k ≤ k' ∧ k' < k + szE (.e (.p d) :: es) ∧ lk k' st.es = some e ∧ i ∈ γ.w k' ++ γ.u k' := by
        intro d0 h1 he
        obtain ⟨S, q1, q2, q3⟩ := EEq.rds hr (k := k + 1) (v := v + 1) he hL hc.2
        refine ⟨S, ?_, q2, fun i hi => ?_⟩
        · simp only [RDs]; exact ⟨c, cs, [], S, rfl, rfl, h1, q1⟩
        · obtain ⟨k', e', r1, r2, r3, r4⟩ := q3 i hi
          exact ⟨k', e', by omega, by simp only [szE]; omega, r3, r4⟩
      by_cases hn : d = .nils
      · subst hn
        have h1 : c = .nils := by
          obtain ⟨S0, h2, _⟩ := hc.1
          simp only [RD] at h2
          exact h2.1
        cases d' <;> simp only [EEq] at he <;> first | (exact absurd he.2.1 (by simp [D.leaf])) | skip
        obtain ⟨rfl, he⟩ := he
        exact fin _ (RD_sl.2 (.inl ⟨rfl, rfl, .inl h1⟩)) he
      · have he' : d = d' ∧ d.leaf = true ∧ EEq es ds := by
          cases d <;> first | exact absurd rfl hn | (cases d' <;> simpa only [EEq] using he)
        obtain ⟨rfl, hlf, he'⟩ := he'
        have : ∃ S, RD h d c S := by
          cases d <;> simp [D.leaf] at hlf <;> exact ⟨_, hc.1.choose_spec.1⟩
        obtain ⟨S0, h2⟩ := this
        exact fin d (h2.leafT hlf) he'
  | .pt ty xs :: es, ds, k, v, cs, he, _, _ => by cases ds <;> exact he.elim
/-- Results of the program's types. -/
def RsE : List (Bool × List E) → List (Ty × Tv) → Prop
  | [], [] => True
  | (g, es) :: rs, (T, w) :: ts => g = T.agg ∧ EEq es (enc T w) ∧ TvOk T w ∧ RsE rs ts
  | _, _ => False
def ResRp (h : H) : List (Ty × Tv) → List (Bool × List C) → List Nat → Prop
  | [], css, S => css = [] ∧ S = []
  | (T, w) :: ts, css, S => ∃ cs cr S1 S2, css = (T.agg, cs) :: cr ∧ S = S1 ++ S2 ∧ Rp h T cs w S1 ∧ ResRp h ts cr S2
theorem RsE.rp (hr : RelG Γ γ f st mf h) : ∀ {rs : List (Bool × List E)} {ts : List (Ty × Tv)} {k v : Nat} {css : List (Bool × List C)}, RsE rs ts → (∀ k' e, lk k' (impR k v rs).2 = some e → lk k' st.es = some e) → All2 (DG Γ γ st h) css (impR k v rs).1 →
    ∃ S, ResRp h ts css S ∧ S.Nodup ∧ ∀ i ∈ S, (∃ bs, h.cells i = some bs) ∧ ∃ k' e, k ≤ k' ∧ k' < k + szR rs ∧ lk k' st.es = some e ∧ i ∈ γ.w k' ++ γ.u k'
  | [], [], k, v, css, _, _, hc => by
    cases css with
    | nil => exact ⟨[], ⟨rfl, rfl⟩, by simp, fun i hi => by cases hi⟩
    | cons c cs => simp only [impR] at hc; exact hc.elim
  | [], _ :: _, _, _, _, he, _, _ => he.elim
  | _ :: _, [], _, _, _, he, _, _ => he.elim
  | (g, es) :: rs, (T, w) :: ts, k, v, css, he, hL, hc => by
    obtain ⟨rfl, h1, h2, h3⟩ := he
    simp only [impR] at hc hL
    match css, hc with
    | (g', cs) :: css, hc =>
      obtain ⟨⟨hg, hc1⟩, hc2⟩ := hc
      simp only at hg hc1
      subst hg
      obtain ⟨S1, a1, a2, a3⟩ := EEq.rds hr h1 (fun k' e hk => hL k' e (by rw [lk_append, hk])) hc1
      obtain ⟨S2, b1, b2, b3⟩ := RsE.rp hr h3 (fun k' e hk => hL k' e (by
        have := (impR_ver hk).2.1
        rw [lk_append]
        cases hx : lk k' (impE k v es).2 with
        | none => exact hk
        | some e' => have := (impE_ver hx).2.2; omega)) hc2
      refine ⟨S1 ++ S2, ⟨cs, css, S1, S2, rfl, rfl, RDs.rp T h2 a1, b1⟩, List.nodup_append.2 ⟨a2, b2, fun a ha b hb e => ?_⟩, fun i hi => ?_⟩
      · subst e
        obtain ⟨k1, e1, r1, r2, r3, r4⟩ := a3 a ha
        obtain ⟨_, k2, e2, q1, q2, q3, q4⟩ := b3 a hb
        exact hr.dj k1 k2 e1 e2 (by omega) r3 q3 a r4 q4
      · rcases List.mem_append.1 hi with hi | hi
        · obtain ⟨k1, e1, r1, r2, r3, r4⟩ := a3 i hi
          exact ⟨RDs.alive _ a1 i hi, k1, e1, r1, by simp only [szR]; omega, r3, r4⟩
        · obtain ⟨b0, k1, e1, r1, r2, r3, r4⟩ := b3 i hi
          exact ⟨b0, k1, e1, by omega, by simp only [szR]; omega, r3, r4⟩
def encA (as : List (Ty × Tv)) : List (Bool × List D) := as.map fun a => (a.1.agg, enc a.1 a.2)
def ArgsRp (h : H) : List (Ty × Tv) → List (Bool × List C) → Prop
  | [], ms => ms = []
  | (T, v) :: as, ms => ∃ cs mr, ms = (T.agg, cs) :: mr ∧ (∃ S, Rp h T cs v S) ∧ ArgsRp h as mr
theorem ArgsRp.all : ∀ {as : List (Ty × Tv)} {ms : List (Bool × List C)}, ArgsRp h as ms → All2 (fun (m : Bool × List C) (a : Bool × List D) => m.1 = a.1 ∧ All2 (fun c d' => ∃ S, RD h d' c S ∧ ∀ i ∈ S, i < h.length) m.2 a.2) ms (encA as)
  | [], ms, ha => by rw [show ms = [] from ha]; trivial
  | (T, v) :: as, ms, ha => by
    obtain ⟨cs, mr, rfl, ⟨S, h1⟩, h2⟩ := ha
    refine ⟨⟨rfl, ?_⟩, ArgsRp.all h2⟩
    have key : ∀ {ds : List D} {cs : List C} {S : List Nat}, RDs h ds cs S → All2 (fun c d' => ∃ S, RD h d' c S ∧ ∀ i ∈ S, i < h.length) cs ds := by
      intro ds
      induction ds with
      | nil => intro cs S hr; simp only [RDs] at hr; rw [hr.1]; trivial
      | cons d ds ih =>
        intro cs S hr
        simp only [RDs] at hr
        obtain ⟨c, cr, S1, S2, rfl, rfl, h3, h4⟩ := hr
        exact ⟨⟨S1, h3, RD.lt d h3⟩, ih h4⟩
    exact key (Rp.rd T h1)
theorem enc_pu : ∀ (ds : List D), (∀ d ∈ ds, puD d = true) → clE (ds.map E.p) = true
  | [], _ => rfl
  | d :: ds, h => by simp only [List.map_cons, clE, cl0, h d (by simp), enc_pu ds fun d' hd => h d' (by simp [hd]), Bool.and_self]
theorem RDs.pu {h : H} : ∀ {ds : List D} {cs : List C} {S : List Nat}, RDs h ds cs S → ∀ d ∈ ds, puD d = true
  | [], _, _, _, d, hd => by cases hd
  | d0 :: ds, cs, S, hr, d, hd => by
    simp only [RDs] at hr
    obtain ⟨c, cr, S1, S2, rfl, rfl, h3, h4⟩ := hr
    rcases List.mem_cons.1 hd with rfl | hd
    · cases d <;> first | rfl | (simp only [RD] at h3)
    · exact h4.pu d hd
theorem ArgsRp.cl : ∀ {as : List (Ty × Tv)} {ms : List (Bool × List C)}, ArgsRp h as ms → clR (mkP (encA as)) = true
  | [], _, _ => rfl
  | (T, v) :: as, ms, ha => by
    obtain ⟨cs, mr, rfl, ⟨S, h1⟩, h2⟩ := ha
    have := ArgsRp.cl h2
    unfold encA mkP at this ⊢
    simp only [List.map_cons, clR, enc_pu _ (Rp.rd T h1).pu, this, Bool.and_self]
/-- A contract, of the program's types. -/
theorem VC.wc {cd : Nat → Option AF} {g : Nat} {as : List (Ty × Tv)} {Q : List (Bool × List E) → List E → Prop} (hc : VC cd g (mkP (encA as)) Q) {ms : List (Bool × List C)} (ha : ArgsRp h as ms) {ts : List (Ty × Tv)} (hq : ∀ rs, Q rs [] → RsE rs ts) :
    WC cd g ms h (fun r h' => ∃ t css S, h' = h ++ t ∧ r = valR css ∧ ResRp h' ts css S ∧ Ownd h' S ∧ ∀ i ∈ S, h.length ≤ i) := by
  have hb := bun_pure (h := h) (ar := fun i => i < h.length) (fun i hi => hi) ha.cl ha.all
  refine (hc ⟨h, fun i => i < h.length, [], []⟩ ms rfl hb).mono fun r h' ⟨rs, ps, css, q, hcl, hv, hb'⟩ => ?_
  have hb' := hb' 0 0
  rw [ptrs_mkP] at hb'
  have hps : ps = [] := by
    obtain ⟨γb, _, hcc⟩ := hb'
    rw [impR_snoc] at hcc
    have := (All2.snoc hcc).2.2.length
    rw [impE_len] at this
    exact List.eq_nil_of_length_eq_zero this.symm
  subst hps
  obtain ⟨γb, hB, hcc⟩ := hb'
  rw [impR_snoc, szR_snoc] at hB hcc
  simp only [impE, List.append_nil, szE, Nat.add_zero] at hB hcc
  obtain ⟨S, k1, k2, k3⟩ := RsE.rp hB (hq rs q) (fun _ _ h => h) (All2.snoc hcc).1
  have hlo : ∀ i ∈ S, h.length ≤ i := fun i hi => by
    obtain ⟨_, k', e, _, _, hl, hm⟩ := k3 i hi
    rcases (hB.nd k' e hl).2 i hm with h1 | h1
    · cases h1
    · exact h1
  refine ⟨h'.drop h.length, css, S, ?_, hv, k1, ⟨k2, fun i hi => ?_⟩, hlo⟩
  · have : h'.take h.length = h := by
      apply List.ext_getElem?
      intro i
      rw [List.getElem?_take]
      split
      · rename_i hi; exact hB.base i hi (by simp)
      · rw [List.getElem?_eq_none (by omega)]
    conv => rhs; lhs; rw [← this]
    exact (List.take_append_drop _ _).symm
  · obtain ⟨⟨bs, h1⟩, _⟩ := k3 i hi
    have h2 := hB.own i
    unfold H.cells at h1
    split at h1
    · rename_i ty cs hx; exact ⟨ty, cs, hx⟩
    · rename_i cs hx; exact absurd hx (h2 cs (.inr (hlo i hi)))
    · simp at h1
end
end Go.Eng
