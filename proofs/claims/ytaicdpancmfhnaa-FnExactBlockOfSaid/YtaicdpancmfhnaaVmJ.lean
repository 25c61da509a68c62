/-
  The value machine, part J: the symbolic run.
-/
import Derived.Test.YtaicdpancmfhnaaVmI
set_option linter.unusedVariables false
set_option linter.unusedSimpArgs false
namespace Go.Eng
def ptr1 : List C → List E → List C
  | c :: cs, .pt _ _ :: es => c :: ptr1 cs es
  | _ :: cs, .e _ :: es => ptr1 cs es
  | _, _ => []
def ptrs : List (Bool × List C) → List (Bool × List E) → List C
  | (_, cs) :: ms, (_, es) :: as => ptr1 cs es ++ ptrs ms as
  | _, _ => []
def K0 : Nat := 4096
def valR (css : List (Bool × List C)) : V :=
  match css with
  | [(g, cs)] => .val g cs
  | l => .tup l
def valU (css : List (Bool × List D)) : U :=
  match css with
  | [(g, cs)] => .val g cs
  | l => .tup l
/-- Cells that stand for themselves. -/
def puD : D → Bool
  | .ow _ _ => false
  | .pt _ _ _ => false
  | .pe _ _ => false
  | .px _ _ _ _ => false
  | .sa _ _ _ _ _ => false
  | _ => true
def cl0 : List E0 → Bool
  | [] => true
  | .p d :: r => puD d && cl0 r
  | .o _ _ _ :: r => cl0 r
def clE : List E → Bool
  | [] => true
  | .e x :: r => cl0 [x] && clE r
  | .pt _ xs :: r => cl0 xs && clE r
def clR : List (Bool × List E) → Bool
  | [] => true
  | (_, es) :: r => clE es && clR r
/-- What a call leaves: results, and the structs that its pointers lead to. -/
def Post (Γ : Cx) (pc : List C) (Q : List (Bool × List E) → List E → Prop) (r : V) (h' : H) : Prop :=
  ∃ rs ps css, Q rs ps ∧ clR (rs ++ [(true, ps)]) = true ∧ r = valR css ∧ ∀ K v, Bun Γ h' K v (rs ++ [(true, ps)]) (css ++ [(true, pc)])
/-- A function's contract. -/
def VC (cd : Nat → Option AF) (g : Nat) (as : List (Bool × List E)) (Q : List (Bool × List E) → List E → Prop) : Prop :=
  ∀ (Γ : Cx) (ms : List (Bool × List C)), Γ.pin = [] → Bun Γ Γ.hb K0 0 as ms → WC cd g ms Γ.hb (Post Γ (ptrs ms as) Q)
theorem VC.mono {cd : Nat → Option AF} {g : Nat} {as : List (Bool × List E)} {Q Q' : List (Bool × List E) → List E → Prop} (hc : VC cd g as Q) (hq : ∀ rs ps, Q rs ps → Q' rs ps) : VC cd g as Q' :=
  fun Γ ms h1 h2 => (hc Γ ms h1 h2).mono fun v h' ⟨rs, ps, css, k1, k2⟩ => ⟨rs, ps, css, hq rs ps k1, k2⟩
/-! ### States -/
def setDU (f : UT) (d : Nat) (u : U) : UT :=
  match d with
  | 0 => f
  | d + 1 => UW f d u
def forgetU (f : UT) : List Nat → UT
  | [] => f
  | d :: ds => forgetU (UW f d .any) ds
def Weak (f : UT) (st : St) (f' : UT) (st' : St) : Prop := ∀ Γ mf h, Rel Γ f st mf h → Rel Γ f' st' mf h
/-- What is known of an entry is no less than. -/
def EnLe (e e' : En) : Prop :=
  match e, e' with
  | .sl v o dp t xs, .sl v' o' dp' t' xs' => v' = v ∧ xs' = xs ∧ ((o' = o ∧ dp' = dp ∧ t' = t) ∨ (o = true ∧ o' = true ∧ xs = [] ∧ t = none))
  | .pt v ty ds, .pt v' ty' ds' => v' = v ∧ ty' = ty ∧ ds' = ds
  | _, _ => False
def subS (st : St) : List (Nat × En) → Prop
  | [] => True
  | (k, e') :: r => (match lk k st.es with | some e => EnLe e e' | none => False) ∧ subS st r
theorem EnLe.refl (e : En) : EnLe e e := by cases e <;> simp [EnLe]
section
variable {Γ : Cx} {γ γ' : Gh} {f f' : UT} {st st' : St} {mf mf' : Fr} {h h' : H}
theorem subS_lk : ∀ {es : List (Nat × En)}, subS st es → ∀ {k : Nat} {e' : En}, lk k es = some e' → ∃ e, lk k st.es = some e ∧ EnLe e e'
  | [], _, _, _, hl => by simp [lk] at hl
  | (k', e0) :: r, hs, k, e', hl => by
    rw [lk_cons] at hl
    split at hl
    · rename_i hk
      subst hk
      simp at hl
      subst hl
      have := hs.1
      split at this
      · rename_i e he; exact ⟨e, he, this⟩
      · exact this.elim
    · exact subS_lk hs.2 hl
/-- Entries are dropped, or less is known of them. -/
theorem Weak.sub (hn : st.nx ≤ st'.nx) (hs : subS st st'.es) : Weak f st f st' := by
  rintro Γ mf h ⟨γ, hr⟩
  -- ghosts: a deep entry that has no elements has nothing
  have hPR : ∀ i, PR Γ γ st i → PR Γ γ st' i := fun i hp => ⟨hp.1, fun k e' hl => by
    obtain ⟨e, he, _⟩ := subS_lk hs hl
    exact hp.2 k e he⟩
  have hm : Mo Γ γ st h γ st' h := by
    refine ⟨hn, Nat.le_refl _, fun i _ hp => ⟨rfl, hPR i hp⟩, fun k v o dp t xs hv hl => ?_, fun k v ty ds hv hl => ?_⟩
    · obtain ⟨e, he, hle⟩ := subS_lk hs hl
      cases e with
      | sl v0 o0 dp0 t0 xs0 =>
        obtain ⟨rfl, rfl, h1⟩ := hle
        refine ⟨o0, dp0, t0, xs, he, rfl, fun ho => ⟨?_, rfl⟩⟩
        rcases h1 with ⟨h1, _, _⟩ | ⟨h1, _⟩
        · rw [← h1]; exact ho
        · exact h1
      | pt => exact hle.elim
    · obtain ⟨e, he, hle⟩ := subS_lk hs hl
      cases e with
      | sl => exact hle.elim
      | pt v0 ty0 ds0 => obtain ⟨rfl, rfl, rfl⟩ := hle; exact ⟨_, _, he, rfl⟩
  refine ⟨γ, fun k => (hr.fr k).mo hm, fun k e' hl => ?_, fun k e' hl => ?_, fun k1 k2 e1 e2 hne h1 h2 => ?_, hr.len, hr.base, hr.arb, hr.pin_mo hm, hr.own⟩
  · obtain ⟨e, he, hle⟩ := subS_lk hs hl
    have her := ER.mo hm rfl rfl rfl (fun _ _ => rfl) (hr.en k e he)
    cases e with
    | sl v0 o0 dp0 t0 xs0 =>
      cases e' with
      | sl v1 o1 dp1 t1 xs1 =>
        obtain ⟨rfl, rfl, h1⟩ := hle
        rcases h1 with ⟨rfl, rfl, rfl⟩ | ⟨rfl, rfl, rfl, rfl⟩
        · exact her
        · obtain ⟨hv, her⟩ := her
          refine ⟨hv, ?_⟩
          rcases her with her | ⟨id, ty, ez, bs, S, k1, _⟩
          · exact .inl her
          · cases k1
      | pt => exact hle.elim
    | pt v0 ty0 ds0 =>
      cases e' with
      | sl => exact hle.elim
      | pt v1 ty1 ds1 => obtain ⟨rfl, rfl, rfl⟩ := hle; exact her
  · obtain ⟨e, he, _⟩ := subS_lk hs hl
    exact hr.nd k e he
  · obtain ⟨a1, b1, _⟩ := subS_lk hs h1
    obtain ⟨a2, b2, _⟩ := subS_lk hs h2
    exact hr.dj k1 k2 a1 a2 hne b1 b2
theorem Weak.refl : Weak f st f st := fun _ _ _ h => h
theorem Weak.trans {f'' : UT} {st'' : St} (h1 : Weak f st f' st') (h2 : Weak f' st' f'' st'') : Weak f st f'' st'' := fun Γ mf h hr => h2 Γ mf h (h1 Γ mf h hr)
theorem Rel.forget : ∀ (ds : List Nat) {f : UT} {mf : Fr}, Rel Γ f st mf h → Rel Γ (forgetU f ds) st (forget mf ds) h
  | [], _, _, hr => hr
  | d :: ds, f, mf, ⟨γ, hr⟩ => Rel.forget ds ⟨γ, hr.set (mv := .any) (uv := .any) (fun _ e => by cases e)⟩
/-! ### The rules -/
inductive VK where
  | c (a : AC)
  | b (id : Nat)
  | stop (P : UT → St → Prop)
def tr (Γ : Cx) : VK → KI
  | .c a => .c a
  | .b i => .b i
  | .stop P => .stop (fun mf h => ∃ f st, Rel Γ f st mf h ∧ P f st)
def exK (id : Nat) : List VK → Option (List VK)
  | [] => none
  | .b i :: k => if id = i then some k else exK id k
  | _ :: k => exK id k
def res1U (f : UT) : RV → Option (Bool × List D)
  | .tmp t => uvp f (.s t)
  | .cell s n g => match UF f s with
    | .box ds => if n = ds.length then some (g, ds) else none
    | _ => none
def resLU (f : UT) : List RV → Option (List (Bool × List D))
  | [] => some []
  | r :: rs => match res1U f r, resLU f rs with
    | some v, some vs => some (v :: vs)
    | _, _ => none
def pinD (pd : List (Nat × Nat)) : List D := pd.map fun p => .pt p.1 p.2 0
def finU (f : UT) (st : St) (R : List RV) (pd : List (Nat × Nat)) : Option (List (Bool × List E) × List E) :=
  match resLU f R with
  | some ds => match expR st ds [] with
    | some (rs, us) => match expE st (pinD pd) us with
      | some (ps, _) => some (rs, ps)
      | none => none
    | none => none
  | none => none
theorem expR_snoc : ∀ {gs : List (Bool × List D)} {us us' us'' : List Nat} {rs : List (Bool × List E)} {ds : List D} {es : List E}, expR st gs us = some (rs, us') → expE st ds us' = some (es, us'') → expR st (gs ++ [(true, ds)]) us = some (rs ++ [(true, es)], us'')
  | [], us, us', us'', rs, ds, es, h1, h2 => by simp [expR] at h1; obtain ⟨rfl, rfl⟩ := h1; simp [expR, h2]
  | (g, d0) :: gs, us, us', us'', rs, ds, es, h1, h2 => by
    simp only [expR] at h1
    split at h1
    · rename_i e0 u1 hE
      split at h1
      · rename_i r1 u2 hR
        simp at h1
        obtain ⟨rfl, rfl⟩ := h1
        simp only [List.cons_append, expR, hE, expR_snoc hR h2]
      · simp at h1
    · simp at h1
theorem exp0_cl : ∀ {ds : List D} {us us' : List Nat} {xs : List E0}, exp0 st ds us = some (xs, us') → cl0 xs = true
  | [], us, us', xs, he => by simp [exp0] at he; rw [he.1]; rfl
  | d :: r, us, us', xs, he => by
    have plain : ∀ (x : D), puD x = true → (match exp0 st r us with | some (es, us') => some (E0.p x :: es, us') | none => none) = some (xs, us') → cl0 xs = true := by
      intro x hx he
      split at he
      · rename_i es u2 h2
        simp at he
        obtain ⟨rfl, rfl⟩ := he
        simp only [cl0, hx, exp0_cl h2, Bool.and_self]
      · simp at he
    cases d with
    | ow k w =>
      simp only [exp0] at he
      split at he
      · split at he
        · simp at he
        · split at he
          · rename_i es u2 h2
            simp at he
            obtain ⟨rfl, rfl⟩ := he
            simp only [cl0, exp0_cl h2]
          · simp at he
      · exact plain _ rfl he
      · simp at he
    | pt k v o => simp [exp0] at he
    | pe x o => simp [exp0] at he
    | px k v j o => simp [exp0] at he
    | sa k v o n e => simp [exp0] at he
    | _ => simp only [exp0] at he; exact plain _ rfl he
theorem expE_cl : ∀ {ds : List D} {us us' : List Nat} {es : List E}, expE st ds us = some (es, us') → clE es = true
  | [], us, us', es, he => by simp [expE] at he; rw [he.1]; rfl
  | d :: r, us, us', es, he => by
    have plain : (match exp0 st [d] us with
      | some ([x], us') => match expE st r us' with
        | some (es, us'') => some (E.e x :: es, us'')
        | none => none
      | _ => none) = some (es, us') → clE es = true := by
      intro he
      split at he
      · rename_i x u1 h1
        split at he
        · rename_i es2 u2 h2
          simp at he
          obtain ⟨rfl, rfl⟩ := he
          simp only [clE, exp0_cl h1, expE_cl h2, Bool.and_self]
        · simp at he
      · simp at he
    cases d with
    | pt k w o =>
      simp only [expE] at he
      split at he
      · split at he
        · simp at he
        · split at he
          · rename_i xs u1 h1
            split at he
            · rename_i es2 u2 h2
              simp at he
              obtain ⟨rfl, rfl⟩ := he
              simp only [clE, exp0_cl h1, expE_cl h2, Bool.and_self]
            · simp at he
          · simp at he
      · simp at he
    | _ => simp only [expE] at he; exact plain he
theorem expR_cl : ∀ {gs : List (Bool × List D)} {us us' : List Nat} {rs : List (Bool × List E)}, expR st gs us = some (rs, us') → clR rs = true
  | [], us, us', es, he => by simp [expR] at he; rw [he.1]; rfl
  | (g, ds) :: r, us, us', es, he => by
    simp only [expR] at he
    split at he
    · rename_i e1 u1 h1
      split at he
      · rename_i e2 u2 h2
        simp at he
        obtain ⟨rfl, rfl⟩ := he
        simp only [clR, expE_cl h1, expR_cl h2, Bool.and_self]
      · simp at he
    · simp at he
theorem resLU_ok (hr : RelG Γ γ f st mf h) : ∀ {R : List RV} {ds : List (Bool × List D)}, resLU f R = some ds → ∃ css, resL mf R = some css ∧ All2 (DG Γ γ st h) css ds
  | [], ds, he => by simp [resLU] at he; subst he; exact ⟨[], rfl, trivial⟩
  | r :: R, ds, he => by
    simp only [resLU] at he
    split at he
    · rename_i v vs h1 h2
      simp at he
      subst he
      obtain ⟨css, k1, k2⟩ := resLU_ok hr h2
      have : ∃ c, res1 mf r = some c ∧ DG Γ γ st h c v := by
        cases r with
        | tmp t =>
          obtain ⟨g, d⟩ := v
          obtain ⟨cs, q1, q2⟩ := uvp_ok hr h1
          exact ⟨(g, cs), q1, rfl, q2⟩
        | cell s n g =>
          simp only [res1U] at h1
          split at h1
          · rename_i d hu
            split at h1
            · rename_i hn
              simp at h1
              subst h1
              have hs := hr.slot s
              rw [hu] at hs
              obtain ⟨cs, q1, q2⟩ := hs
              have := q2.length
              exact ⟨(g, cs), by simp only [res1, q1]; rw [if_pos (by omega)], rfl, q2⟩
            · simp at h1
          · simp at h1
      obtain ⟨c, q1, q2⟩ := this
      exact ⟨c :: css, by simp only [resL, q1, k1], q2, k2⟩
    · simp at he
theorem resV_valR {R : List RV} {css : List (Bool × List C)} (hr : resL mf R = some css) : resV mf R = some (valR css) := by
  unfold resV valR
  rw [hr]
  match css with
  | [] => rfl
  | [(g, cs)] => rfl
  | _ :: _ :: _ => rfl
def Cx.un (Γ : Cx) : Cx := ⟨Γ.hb, Γ.ar, Γ.bs, []⟩
def pinC (Γ : Cx) : List C := Γ.pin.map fun p => .ptr p.2.2 0
def pinK (Γ : Cx) : List (Nat × Nat) := Γ.pin.map fun p => (p.1, p.2.1)
theorem fin_ok {R : List RV} {Q : List (Bool × List E) → List E → Prop} {rs : List (Bool × List E)} {ps : List E} (hr : Rel Γ f st mf h) (hf : finU f st R (pinK Γ) = some (rs, ps)) (hq : Q rs ps) : FN (resV mf R) (Post Γ.un (pinC Γ) Q) h := by
  obtain ⟨γ, hr⟩ := hr
  unfold finU at hf
  split at hf
  · rename_i ds hd
    split at hf
    · rename_i rs0 us hR
      split at hf
      · rename_i ps0 us' hE
        simp at hf
        obtain ⟨rfl, rfl⟩ := hf
        obtain ⟨css, k1, k2⟩ := resLU_ok hr hd
        rw [resV_valR k1]
        refine ⟨rs0, ps0, css, hq, expR_cl (expR_snoc hR hE), rfl, fun K v => ?_⟩
        refine hr.out (Γ' := Γ.un) (expR_snoc hR hE) ?_ (fun i _ hp => hp.1) (fun k _ e hl => (hr.nd k e hl).2) hr.len hr.base hr.arb rfl hr.own K v
        have hpin : All2 (DC Γ γ st h) (pinC Γ) (pinD (pinK Γ)) := by
          unfold pinC pinD pinK
          rw [List.map_map]
          have hp := hr.pin
          revert hp
          induction Γ.pin with
          | nil => intro _; trivial
          | cons p l ih =>
            intro hp
            exact ⟨⟨(hp p (by simp)).1, fun ty ds hl => ⟨p.2.2, (hp p (by simp)).2 ty ds hl, rfl⟩⟩, ih fun q hq => hp q (by simp [hq])⟩
        exact k2.append ⟨⟨rfl, hpin⟩, trivial⟩
      · simp at hf
    · simp at hf
  · simp at hf
end
end Go.Eng
