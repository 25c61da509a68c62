/-
  The value machine, part S: an entry under another key.
-/
import Derived.Test.YtaicdpancmfhnaaVmQ
set_option linter.unusedVariables false
set_option linter.unusedSimpArgs false
namespace Go.Eng
section
variable {f : UT} {st : St}
def renS (st : St) (k k' : Nat) (o dp : Bool) (t : Option (Nat × Nat)) (xs : List (List D)) : St := ⟨st.nx + 1, (k', .sl st.nx o dp t xs) :: rmKs [k] st.es⟩
theorem Weak.ren {s k k' v : Nat} {o dp : Bool} {t : Option (Nat × Nat)} {xs : List (List D)} (hs : UF f s = .val false [.ow k v]) (hl : lk k st.es = some (.sl v o dp t xs)) (hne : k' ≠ k) :
    Weak f st (UW f s (.val false [.ow k' st.nx])) (renS st k k' o dp t xs) := by
  rintro Γ mf h ⟨γ, hr⟩
  have hlk : ∀ j, lk j (renS st k k' o dp t xs).es = if j = k' then some (.sl st.nx o dp t xs) else if j = k then none else lk j st.es := fun j => by
    simp only [renS, lk_cons, lk_rmKs]
    split
    · rfl
    · by_cases h2 : j = k
      · subst h2; simp
      · rw [if_neg h2, if_neg (by simpa using h2)]
  have hmain : RelG Γ (γ.up k' (γ.c k) (γ.w k) (γ.u k)) f (renS st k k' o dp t xs) mf h ∧ Mo Γ γ st h (γ.up k' (γ.c k) (γ.w k) (γ.u k)) (renS st k k' o dp t xs) h := by
    refine hr.upds (N := fun j => j = k ∨ j = k') (Nat.le_succ _) (fun j hn => ?_) (fun j e hn hj => ?_) (fun _ _ _ => rfl) (fun j e hn hj i hi _ hp => ?_) (fun _ _ _ _ _ _ => rfl)
      (fun j e hn hj => ?_) (fun j e j' e' hn hjj hj hj' i hi => ?_) (Nat.le_refl _) (fun _ _ _ => rfl) (fun hm j e hn hj => ?_) hr.own
    · simp only [not_or] at hn
      rw [hlk, if_neg hn.2, if_neg hn.1]
      exact ⟨rfl, by rw [Gh.up_c' _ _ _ _ hn.2], by rw [Gh.up_w' _ _ _ _ hn.2], by rw [Gh.up_u' _ _ _ _ hn.2]⟩
    · rw [hlk] at hj
      split at hj
      · simp only [Option.some.injEq] at hj; subst hj; exact .inl (Nat.le_refl _)
      · rename_i h1
        rw [if_pos (hn.resolve_right h1)] at hj
        cases hj
    · rw [hlk] at hj
      split at hj
      · rename_i h1
        subst h1
        rw [Gh.up_w] at hi
        exact hp.2 k _ hl hi
      · rename_i h1
        rw [if_pos (hn.resolve_right h1)] at hj
        cases hj
    · rw [hlk] at hj
      split at hj
      · rename_i h1
        subst h1
        rw [Gh.up_w, Gh.up_u]
        exact hr.nd k _ hl
      · rename_i h1
        rw [if_pos (hn.resolve_right h1)] at hj
        cases hj
    · rw [hlk] at hj
      split at hj
      · rename_i h1
        subst h1
        rw [Gh.up_w, Gh.up_u] at hi
        rw [hlk, if_neg hjj] at hj'
        rw [Gh.up_w' _ _ _ _ hjj, Gh.up_u' _ _ _ _ hjj]
        split at hj'
        · cases hj'
        · rename_i h2
          exact hr.dj k j' _ e' (fun e => h2 e.symm) hl hj' i hi
      · rename_i h1
        rw [if_pos (hn.resolve_right h1)] at hj
        cases hj
    · rw [hlk] at hj
      split at hj
      · rename_i h1
        subst h1
        simp only [Option.some.injEq] at hj
        subst hj
        have he := hr.en k _ hl
        have hpr : ∀ i, i < h.length → PR Γ γ st i → PR Γ (γ.up j (γ.c k) (γ.w k) (γ.u k)) (renS st k j o dp t xs) i := fun i hi hp => (hm.cell i hi hp).2
        cases o with
        | true =>
          obtain ⟨_, he⟩ := he
          refine ⟨Nat.lt_succ_self _, ?_⟩
          rw [Gh.up_c, Gh.up_w, Gh.up_u]
          rcases he with he | ⟨id, ty, ez, bs, S, k1, k2, k3, k4, k5, k6, k7, k8⟩
          · exact .inl he
          · exact .inr ⟨id, ty, ez, bs, S, k1, k2, k3, k4, k5, k6, fun i hi => hpr i (RDss.lt xs k6 i hi) (k7 i hi), k8⟩
        | false =>
          obtain ⟨_, h1, h2, S, h3, h4⟩ := he
          refine ⟨Nat.lt_succ_self _, ?_⟩
          rw [Gh.up_c, Gh.up_w, Gh.up_u]
          exact ⟨h1, h2, S, h3, fun i hi => hpr i (RD.lt _ h3 i hi) (h4 i hi)⟩
      · rename_i h1
        rw [if_pos (hn.resolve_right h1)] at hj
        cases hj
  have hsl := hr.slot s
  rw [hs] at hsl
  obtain ⟨c, h1, h2⟩ := UR.one hsl
  refine ⟨_, { hmain.1 with fr := fun j => ?_ }⟩
  unfold UW
  rw [UT.get_set]
  split
  · rename_i hk
    subst hk
    have : PT.get mf (K.of s) = .val false [c] := h1
    rw [this]
    refine UR.v1 ⟨Nat.lt_succ_self _, fun _ _ _ _ _ => ?_⟩
    rw [Gh.up_c]
    exact h2.2 _ _ _ _ hl
  · exact hmain.1.fr j
/-- A slice that is read alone from here on. -/
theorem Weak.frz (d : D) : Weak f st f (frzD st d) := fun Γ mf h ⟨γ, hr⟩ => by
  obtain ⟨γ', h1, _⟩ := frzD_ok hr d
  exact ⟨γ', h1⟩
end
end Go.Eng
