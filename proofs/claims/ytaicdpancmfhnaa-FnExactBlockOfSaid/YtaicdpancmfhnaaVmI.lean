/-
  The value machine, part I: bundles.
-/
import Derived.Test.YtaicdpancmfhnaaVmH
set_option linter.unusedVariables false
set_option linter.unusedSimpArgs false
namespace Go.Eng
theorem All2.comp {α β δ : Type} {R : α → β → Prop} {S : β → δ → Prop} {T : α → δ → Prop} (hT : ∀ x y z, R x y → S y z → T x z) : ∀ {xs : List α} {ys : List β} {zs : List δ}, All2 R xs ys → All2 S ys zs → All2 T xs zs
  | [], [], [], _, _ => trivial
  | _ :: _, _ :: _, _ :: _, h1, h2 => ⟨hT _ _ _ h1.1 h2.1, All2.comp hT h1.2 h2.2⟩
  | [], _ :: _, _, h1, _ => h1.elim
  | _ :: _, [], _, h1, _ => h1.elim
  | _, [], _ :: _, _, h2 => h2.elim
  | _, _ :: _, [], _, h2 => h2.elim
section
variable {Γ Γ' : Cx} {γ γ' : Gh} {f f' : UT} {st st' : St} {mf mf' : Fr} {h h' : H}
theorem imp0_one (k v : Nat) (x : E0) (r : List E) : impE k v (.e x :: r) = ((imp0 k v [x]).1 ++ (impE (k + 1) (v + 1) r).1, (imp0 k v [x]).2 ++ (impE (k + 1) (v + 1) r).2) := by
  cases x <;> simp [impE, imp0]
theorem expE_ok : ∀ (ds : List D) {us us' : List Nat} {es : List E}, expE st ds us = some (es, us') → ∀ K v, ∃ κ, Rk st κ (impE K v es).2 K (v + szE es) (szE es) us us' ∧ All2 (KD st κ (impE K v es).2 (v + szE es)) ds (impE K v es).1
  | [], us, us', xs, he, K, v => by
    simp [expE] at he
    obtain ⟨rfl, rfl⟩ := he
    exact ⟨id, Rk.nil, trivial⟩
  | d :: r, us, us', es, he, K, v => by
    have plain : (match exp0 st [d] us with
      | some ([x], us') => match expE st r us' with
        | some (es, us'') => some (E.e x :: es, us'')
        | none => none
      | _ => none) = some (es, us') → ∃ κ, Rk st κ (impE K v es).2 K (v + szE es) (szE es) us us' ∧ All2 (KD st κ (impE K v es).2 (v + szE es)) (d :: r) (impE K v es).1 := by
      intro he
      split at he
      · rename_i x u1 h1
        split at he
        · rename_i es2 u2 h2
          simp at he
          obtain ⟨rfl, rfl⟩ := he
          obtain ⟨κ1, p1, p2⟩ := exp0_ok [d] h1 K v
          obtain ⟨κ2, q1, q2⟩ := expE_ok r h2 (K + 1) (v + 1)
          simp only [List.length_cons, List.length_nil, Nat.zero_add] at p1 p2
          rw [imp0_one]
          have hj := p1.join q1 (by omega)
          have e1 : v + szE (.e x :: es2) = v + 1 + szE es2 := by simp [szE]; omega
          have e2 : szE (.e x :: es2) = 1 + szE es2 := rfl
          rw [e1, e2]
          match hx : (imp0 K v [x]).1, p2 with
          | [d'], p2 =>
            exact ⟨_, hj.1, p2.1.ext (by omega) hj.2.1, q2.imp fun _ _ hk => hk.ext (by omega) hj.2.2⟩
        · simp at he
      · simp at he
    cases d with
    | pt k w o =>
      simp only [expE] at he
      split at he
      · rename_i ty ds hp
        split at he
        · simp at he
        · rename_i hu
          simp only [Bool.or_eq_true, not_or, Bool.not_eq_true, bne_eq_false_iff_eq] at hu
          split at he
          · rename_i xs u1 h1
            split at he
            · rename_i es2 u2 h2
              simp at he
              obtain ⟨rfl, rfl⟩ := he
              have hl := St.ptr_spec hp
              obtain ⟨κ0, p1, p2⟩ := exp0_ok ds h1 (K + 1) (v + 1)
              obtain ⟨κ2, q1, q2⟩ := expE_ok r h2 (K + (1 + xs.length)) (v + (1 + xs.length))
              have hku : k ∉ us := by have := hu.1; simpa using this
              -- the pointer's part
              have hL0 : ∀ k' e', lk k' (imp0 (K + 1) (v + 1) xs).2 = some e' → lk k' ((K, .pt v ty (imp0 (K + 1) (v + 1) xs).1) :: (imp0 (K + 1) (v + 1) xs).2) = some e' ∧ (if k' = K then k else κ0 k') = κ0 k' := fun k' e' hx => by
                have := p1.dom k' e' hx
                rw [lk_cons, if_neg (by omega), if_neg (by omega)]; exact ⟨hx, rfl⟩
              have hcs : ∀ k' e', lk k' ((K, .pt v ty (imp0 (K + 1) (v + 1) xs).1) :: (imp0 (K + 1) (v + 1) xs).2) = some e' → (k' = K ∧ e' = .pt v ty (imp0 (K + 1) (v + 1) xs).1) ∨ (k' ≠ K ∧ lk k' (imp0 (K + 1) (v + 1) xs).2 = some e') := fun k' e' hx => by
                rw [lk_cons] at hx
                split at hx
                · rename_i hk; simp at hx; exact .inl ⟨hk, hx.symm⟩
                · rename_i hk; exact .inr ⟨hk, hx⟩
              have hpt : Rk st (fun k' => if k' = K then k else κ0 k') ((K, .pt v ty (imp0 (K + 1) (v + 1) xs).1) :: (imp0 (K + 1) (v + 1) xs).2) K (v + 1 + xs.length) (1 + xs.length) us u1 := by
                refine ⟨fun k' e' hx => ?_, fun k' e' hx => ?_, fun k1 k2 e1 e2 hx1 hx2 he => ?_, fun k' hk => p1.sub k' (by simp [hk])⟩
                · rcases hcs k' e' hx with ⟨rfl, _⟩ | ⟨_, hx⟩
                  · omega
                  · have := p1.dom k' e' hx; omega
                · rcases hcs k' e' hx with ⟨rfl, rfl⟩ | ⟨hne, hx⟩
                  · rw [if_pos rfl]
                    exact ⟨by simp only [En.ver]; omega, p1.sub k (by simp), hku, .inr ⟨w, v, ty, ds, _, rfl, hl, p2.imp fun _ _ hk => hk.ext (Nat.le_refl _) hL0⟩⟩
                  · rw [if_neg hne]
                    obtain ⟨a0, a1, a2, a3⟩ := p1.ent k' e' hx
                    refine ⟨a0, a1, fun hh => a2 (by simp [hh]), ?_⟩
                    rcases a3 with a3 | ⟨v1, v2, ty', ds1, ds2, b1, b2, b3⟩
                    · exact .inl a3
                    · exact .inr ⟨v1, v2, ty', ds1, ds2, b1, b2, b3.imp fun _ _ hk => hk.ext (Nat.le_refl _) hL0⟩
                · rcases hcs k1 e1 hx1 with ⟨rfl, _⟩ | ⟨hne1, hx1⟩ <;> rcases hcs k2 e2 hx2 with ⟨rfl, _⟩ | ⟨hne2, hx2⟩
                  · rfl
                  · simp only [if_true, if_neg hne2] at he
                    exact absurd (he ▸ (by simp : k ∈ k :: us)) (p1.ent k2 e2 hx2).2.2.1
                  · simp only [if_true, if_neg hne1] at he
                    exact absurd (he.symm ▸ (by simp : k ∈ k :: us)) (p1.ent k1 e1 hx1).2.2.1
                  · simp only [if_neg hne1, if_neg hne2] at he
                    exact p1.inj k1 k2 e1 e2 hx1 hx2 he
              have hj := hpt.join q1 (by omega)
              simp only [impE, szE]
              have e1 : v + (1 + xs.length + szE es2) = v + (1 + xs.length) + szE es2 := by omega
              rw [e1]
              refine ⟨_, by simpa using hj.1, ⟨by simp, by omega, hu.2, rfl, ty, ds, _, hl, by simp [lk_cons]; rfl⟩, q2.imp fun _ _ hk => hk.ext (by omega) (by simpa using hj.2.2)⟩
            · simp at he
          · simp at he
      · simp at he
    | _ => simp only [expE] at he; exact plain he
theorem expR_ok : ∀ (gs : List (Bool × List D)) {us us' : List Nat} {rs : List (Bool × List E)}, expR st gs us = some (rs, us') → ∀ K v, ∃ κ, Rk st κ (impR K v rs).2 K (v + szR rs) (szR rs) us us' ∧ All2 (fun (a a' : Bool × List D) => a.1 = a'.1 ∧ All2 (KD st κ (impR K v rs).2 (v + szR rs)) a.2 a'.2) gs (impR K v rs).1
  | [], us, us', rs, he, K, v => by
    simp [expR] at he
    obtain ⟨rfl, rfl⟩ := he
    exact ⟨id, Rk.nil, trivial⟩
  | (g, ds) :: r, us, us', rs, he, K, v => by
    simp only [expR] at he
    split at he
    · rename_i es u1 h1
      split at he
      · rename_i rs2 u2 h2
        simp at he
        obtain ⟨rfl, rfl⟩ := he
        obtain ⟨κ1, p1, p2⟩ := expE_ok ds h1 K v
        obtain ⟨κ2, q1, q2⟩ := expR_ok r h2 (K + szE es) (v + szE es)
        have hj := p1.join q1 (by omega)
        simp only [impR, szR]
        have e1 : v + (szE es + szR rs2) = v + szE es + szR rs2 := by omega
        rw [e1]
        exact ⟨_, hj.1, ⟨rfl, p2.imp fun _ _ hk => hk.ext (by omega) hj.2.1⟩, q2.imp fun _ _ hk => ⟨hk.1, hk.2.imp fun _ _ hk => hk.ext (by omega) hj.2.2⟩⟩
      · simp at he
    · simp at he
/-- What is handed over. -/
theorem RelG.out (hr : RelG Γ γ f st mf h) {gs : List (Bool × List D)} {css : List (Bool × List C)} {rs : List (Bool × List E)} {us : List Nat} (he : expR st gs [] = some (rs, us)) (hc : All2 (DG Γ γ st h) css gs)
    (hpr : ∀ i, i < h.length → PR Γ γ st i → Γ'.ar i ∨ Γ'.hb.length ≤ i ∨ i ∈ Γ'.bs) (hmine : ∀ k ∈ us, ∀ e, lk k st.es = some e → ∀ i ∈ γ.w k ++ γ.u k, Mine Γ' i)
    (hlen : Γ'.hb.length ≤ h.length) (hbase : ∀ i, i < Γ'.hb.length → i ∉ Γ'.bs → h[i]? = Γ'.hb[i]?) (harb : ∀ i, Γ'.ar i → i < Γ'.hb.length) (hpin : Γ'.pin = []) (hown : ∀ i cs, Mine Γ' i → h[i]? ≠ some (.ro cs)) (K v : Nat) : Bun Γ' h K v rs css := by
  obtain ⟨κ, q1, q2⟩ := expR_ok gs he K v
  let γb : Gh := ⟨fun k => γ.c (κ k), fun k => γ.w (κ k), fun k => γ.u (κ k)⟩
  let sb : St := ⟨v + szR rs, (impR K v rs).2⟩
  have hlk : ∀ k e, lk k sb.es = some e → ∃ e0, lk (κ k) st.es = some e0 := fun k e hl => by
    obtain ⟨_, _, _, h1 | h1⟩ := q1.ent k e hl
    · obtain ⟨_, _, _, _, _, _, h2⟩ := h1; exact ⟨_, h2⟩
    · obtain ⟨_, _, _, _, _, _, h2, _⟩ := h1; exact ⟨_, h2⟩
  have hPR : ∀ i, i < h.length → PR Γ γ st i → PR Γ' γb sb i := fun i hi hp => ⟨hpr i hi hp, fun k e hl => by
    obtain ⟨e0, h0⟩ := hlk k e hl
    exact hp.2 _ e0 h0⟩
  have hRD : ∀ {d : D} {c : C}, (∃ S, RD h d c S ∧ ∀ i ∈ S, PR Γ γ st i) → ∃ S, RD h d c S ∧ ∀ i ∈ S, PR Γ' γb sb i := fun {d c} ⟨S, h1, h2⟩ => ⟨S, h1, fun i hi => hPR i (RD.lt d h1 i hi) (h2 i hi)⟩
  have hDC : ∀ {c : C} {d d' : D}, DC Γ γ st h c d → KD st κ sb.es sb.nx d d' → DC Γ' γb sb h c d' := by
    intro c d d' hd hk
    cases d
    case ow k w =>
      cases d' <;> simp only [KD] at hk
      case ow k' w' =>
        obtain ⟨h1, h2, dp, t, xs, h3, h4⟩ := hk
        refine ⟨h2, fun _ _ _ _ _ => ?_⟩
        show c = γ.c (κ k')
        rw [h1]
        exact hd.2 _ _ _ _ h3
      case sl xs =>
        obtain ⟨dp, t, h3⟩ := hk
        obtain ⟨_, _, _, h4⟩ := hr.en _ _ h3
        rw [hd.2 _ _ _ _ h3]
        exact hRD h4
    case pt k w o =>
      cases d' <;> simp only [KD] at hk
      case pt k' w' o' =>
        obtain ⟨h1, h2, rfl, rfl, ty, ds, ds', h5, h6⟩ := hk
        refine ⟨h2, fun _ _ _ => ?_⟩
        obtain ⟨id, k1, k2⟩ := hd.2 _ _ h5
        exact ⟨id, by show γ.c (κ k') = _; rw [h1, k1], k2⟩
    case pe x o => cases d' <;> simp only [KD] at hk
    case px k w j o => cases d' <;> simp only [KD] at hk
    case sa k w o n e => cases d' <;> simp only [KD] at hk
    all_goals
      have hk' := hk
      simp only [KD] at hk'
      subst hk'
      exact hRD hd
  refine ⟨γb, ⟨fun k => (by rw [PT.get_leaf, UT.get_leaf]; intro cs e; cases e), fun k e hl => ?_, fun k e hl => ?_, fun k1 k2 e1 e2 hne hl1 hl2 => ?_, hlen, hbase, harb, fun p hp => (by rw [hpin] at hp; cases hp), hown⟩, ?_⟩
  · obtain ⟨h0, h1, h2, h3 | h3⟩ := q1.ent k e hl
    · obtain ⟨w, w', dp, t, xs, rfl, h5⟩ := h3
      obtain ⟨_, he⟩ := hr.en _ _ h5
      refine ⟨h0, ?_⟩
      rcases he with he | ⟨id, ty, ez, bs, S, k1, k2, k3, k4, k5, k6, k7, k8⟩
      · exact .inl he
      · exact .inr ⟨id, ty, ez, bs, S, k1, k2, k3, k4, k5, k6, fun i hi => hPR i (RDss.lt xs k6 i hi) (k7 i hi), k8⟩
    · obtain ⟨w, w', ty, ds, ds', rfl, h5, h6⟩ := h3
      obtain ⟨_, k1, id, bs, k2, k3, k4, k5⟩ := hr.en _ _ h5
      refine ⟨h0, k1, id, bs, k2, k3, k4, ?_⟩
      exact All2.comp (S := KD st κ (impR K v rs).2 (v + szR rs)) (T := DC Γ' γb sb h) (fun _ _ _ h1 h2 => hDC h1 h2) k5 h6
  · obtain ⟨e0, h0⟩ := hlk k e hl
    exact ⟨(hr.nd _ _ h0).1, hmine _ (q1.ent k e hl).2.1 e0 h0⟩
  · obtain ⟨a1, b1⟩ := hlk k1 e1 hl1
    obtain ⟨a2, b2⟩ := hlk k2 e2 hl2
    exact hr.dj _ _ _ _ (fun e => hne (q1.inj k1 k2 e1 e2 hl1 hl2 e)) b1 b2
  · exact All2.comp (fun _ _ _ h1 h2 => ⟨h1.1.trans h2.1, All2.comp (S := KD st κ (impR K v rs).2 (v + szR rs)) (T := DC Γ' γb sb h) (fun _ _ _ h1 h2 => hDC h1 h2) h1.2 h2.2⟩) hc q2
end
end Go.Eng
