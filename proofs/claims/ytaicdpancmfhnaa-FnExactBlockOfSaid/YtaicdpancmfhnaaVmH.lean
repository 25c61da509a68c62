/-
  The value machine, part H: what is handed over at a call, and what comes back.
-/
import Derived.Test.YtaicdpancmfhnaaVmG
set_option linter.unusedVariables false
set_option linter.unusedSimpArgs false
namespace Go.Eng
/-- A cell that is handed over: read alone (p), or a slice that is the other's from now on (o). -/
inductive E0 where
  | p (d : D)
  | o (deep : Bool) (ty : Option (Nat × Nat)) (xs : List (List D))
/-- Or a pointer to a struct, with its cells. -/
inductive E where
  | e (x : E0)
  | pt (ty : Nat) (xs : List E0)
@[match_pattern] abbrev E.p (d : D) : E := .e (.p d)
@[match_pattern] abbrev E.o (deep : Bool) (ty : Option (Nat × Nat)) (xs : List (List D)) : E := .e (.o deep ty xs)
def imp0 : Nat → Nat → List E0 → List D × List (Nat × En)
  | _, _, [] => ([], [])
  | k, v, .p d :: r => (d :: (imp0 (k + 1) (v + 1) r).1, (imp0 (k + 1) (v + 1) r).2)
  | k, v, .o dp t xs :: r => (.ow k v :: (imp0 (k + 1) (v + 1) r).1, (k, .sl v true dp t xs) :: (imp0 (k + 1) (v + 1) r).2)
def szE : List E → Nat
  | [] => 0
  | .e _ :: r => 1 + szE r
  | .pt _ xs :: r => 1 + xs.length + szE r
def impE : Nat → Nat → List E → List D × List (Nat × En)
  | _, _, [] => ([], [])
  | k, v, .e (.p d) :: r => (d :: (impE (k + 1) (v + 1) r).1, (impE (k + 1) (v + 1) r).2)
  | k, v, .e (.o dp t xs) :: r => (.ow k v :: (impE (k + 1) (v + 1) r).1, (k, .sl v true dp t xs) :: (impE (k + 1) (v + 1) r).2)
  | k, v, .pt ty xs :: r => (.pt k v 0 :: (impE (k + (1 + xs.length)) (v + (1 + xs.length)) r).1, (k, .pt v ty (imp0 (k + 1) (v + 1) xs).1) :: ((imp0 (k + 1) (v + 1) xs).2 ++ (impE (k + (1 + xs.length)) (v + (1 + xs.length)) r).2))
def szR : List (Bool × List E) → Nat
  | [] => 0
  | (_, es) :: r => szE es + szR r
def impR : Nat → Nat → List (Bool × List E) → List (Bool × List D) × List (Nat × En)
  | _, _, [] => ([], [])
  | k, v, (g, es) :: r => ((g, (impE k v es).1) :: (impR (k + szE es) (v + szE es) r).1, (impE k v es).2 ++ (impR (k + szE es) (v + szE es) r).2)
/-! ### Handing over -/
def exp0 (st : St) : List D → List Nat → Option (List E0 × List Nat)
  | [], us => some ([], us)
  | .ow k v :: r, us => match st.slc k v with
    | some (true, dp, t, xs) => if us.elem k then none else match exp0 st r (k :: us) with
      | some (es, us') => some (.o dp t xs :: es, us')
      | none => none
    | some (false, _, _, xs) => match exp0 st r us with
      | some (es, us') => some (.p (.sl xs) :: es, us')
      | none => none
    | none => none
  | .pt _ _ _ :: _, _ => none
  | .pe _ _ :: _, _ => none
  | .px _ _ _ _ :: _, _ => none
  | .sa _ _ _ _ _ :: _, _ => none
  | d :: r, us => match exp0 st r us with
    | some (es, us') => some (.p d :: es, us')
    | none => none
def expE (st : St) : List D → List Nat → Option (List E × List Nat)
  | [], us => some ([], us)
  | .pt k v o :: r, us => match st.ptr k v with
    | some (ty, ds) => if us.elem k || o != 0 then none else match exp0 st ds (k :: us) with
      | some (xs, us') => match expE st r us' with
        | some (es, us'') => some (.pt ty xs :: es, us'')
        | none => none
      | none => none
    | none => none
  | d :: r, us => match exp0 st [d] us with
    | some ([x], us') => match expE st r us' with
      | some (es, us'') => some (.e x :: es, us'')
      | none => none
    | _ => none
def expR (st : St) : List (Bool × List D) → List Nat → Option (List (Bool × List E) × List Nat)
  | [], us => some ([], us)
  | (g, ds) :: r, us => match expE st ds us with
    | some (es, us') => match expR st r us' with
      | some (rs, us'') => some ((g, es) :: rs, us'')
      | none => none
    | none => none
def DG (Γ : Cx) (γ : Gh) (st : St) (h : H) (w : Bool × List C) (a : Bool × List D) : Prop := w.1 = a.1 ∧ All2 (DC Γ γ st h) w.2 a.2
/-- A bundle: what is handed over, as entries of its own. -/
def Bun (Γ : Cx) (h : H) (K v : Nat) (gs : List (Bool × List E)) (css : List (Bool × List C)) : Prop :=
  ∃ γ, RelG Γ γ UT.leaf ⟨v + szR gs, (impR K v gs).2⟩ PT.leaf h ∧ All2 (DG Γ γ ⟨v + szR gs, (impR K v gs).2⟩ h) css (impR K v gs).1
section
variable {Γ : Cx} {γ γ' : Gh} {f f' : UT} {st st' : St} {mf mf' : Fr} {h h' : H}
theorem RelG.upds (hr : RelG Γ γ f st mf h) {N : Nat → Prop} {γ' : Gh} {st' : St} {h' : H} (hnx : st.nx ≤ st'.nx)
    (hsame : ∀ k, ¬ N k → lk k st'.es = lk k st.es ∧ γ'.c k = γ.c k ∧ γ'.w k = γ.w k ∧ γ'.u k = γ.u k)
    (hv : ∀ k e, N k → lk k st'.es = some e → st.nx ≤ e.ver ∨ (γ'.c k = γ.c k ∧ OldOk st k e))
    (hcells : ∀ i, i < h.length → PR Γ γ st i → h'.cells i = h.cells i)
    (hw : ∀ k e, N k → lk k st'.es = some e → ∀ i ∈ γ'.w k, i < h.length → ¬ PR Γ γ st i)
    (hoth : ∀ k e, ¬ N k → lk k st.es = some e → ∀ i ∈ γ.w k, h'[i]? = h[i]?)
    (hnd : ∀ k e, N k → lk k st'.es = some e → (γ'.w k ++ γ'.u k).Nodup ∧ ∀ i ∈ γ'.w k ++ γ'.u k, Mine Γ i)
    (hdj : ∀ k e k' e', N k → k' ≠ k → lk k st'.es = some e → lk k' st'.es = some e' → ∀ i ∈ γ'.w k ++ γ'.u k, i ∉ γ'.w k' ++ γ'.u k')
    (hlen : h.length ≤ h'.length) (hbase : ∀ i, i < Γ.hb.length → i ∉ Γ.bs → h'[i]? = h[i]?)
    (hk : Mo Γ γ st h γ' st' h' → ∀ k e, N k → lk k st'.es = some e → ER Γ γ' st' h' k e) (hown : ∀ i cs, Mine Γ i → h'[i]? ≠ some (.ro cs)) :
    RelG Γ γ' f st' mf h' ∧ Mo Γ γ st h γ' st' h' := by
  have hm : Mo Γ γ st h γ' st' h' := by
    refine ⟨hnx, hlen, fun i hi hp => ⟨hcells i hi hp, hp.1, fun k e hl => ?_⟩, fun k v o dp t xs hlt hl => ?_, fun k v ty ds hlt hl => ?_⟩
    · by_cases hn : N k
      · exact fun hiw => hw k e hn hl i hiw hi hp
      · obtain ⟨h1, h2, h3, h4⟩ := hsame k hn
        rw [h3]; exact hp.2 k e (h1 ▸ hl)
    · by_cases hn : N k
      · rcases hv k _ hn hl with hv | ⟨hc, o', dp', t', xs', h1, h2⟩
        · simp only [En.ver] at hv; omega
        · exact ⟨o', dp', t', xs', h1, hc, h2⟩
      · obtain ⟨h1, h2, h3, h4⟩ := hsame k hn
        exact ⟨o, dp, t, xs, h1 ▸ hl, h2, fun h => ⟨h, rfl⟩⟩
    · by_cases hn : N k
      · rcases hv k _ hn hl with hv | ⟨hc, ty', ds', h1⟩
        · simp only [En.ver] at hv; omega
        · exact ⟨ty', ds', h1, hc⟩
      · obtain ⟨h1, h2, h3, h4⟩ := hsame k hn
        exact ⟨ty, ds, h1 ▸ hl, h2⟩
  refine ⟨⟨fun s => (hr.fr s).mo hm, fun k e hl => ?_, fun k e hl => ?_, fun k1 k2 e1 e2 hne hl1 hl2 => ?_, Nat.le_trans hr.len hlen, fun i h1 h2 => (hbase i h1 h2).trans (hr.base i h1 h2), hr.arb, hr.pin_mo hm, hown⟩, hm⟩
  · by_cases hn : N k
    · exact hk hm k e hn hl
    · obtain ⟨h1, h2, h3, h4⟩ := hsame k hn
      exact ER.mo hm h2 h3 h4 (hoth k e hn (h1 ▸ hl)) (hr.en k e (h1 ▸ hl))
  · by_cases hn : N k
    · exact hnd k e hn hl
    · obtain ⟨h1, h2, h3, h4⟩ := hsame k hn
      rw [h3, h4]; exact hr.nd k e (h1 ▸ hl)
  · by_cases hn1 : N k1
    · exact hdj k1 e1 k2 e2 hn1 (fun e => hne e.symm) hl1 hl2
    · by_cases hn2 : N k2
      · exact fun i hi hi' => hdj k2 e2 k1 e1 hn2 hne hl2 hl1 i hi' hi
      · obtain ⟨h1, h2, h3, h4⟩ := hsame k1 hn1
        obtain ⟨q1, q2, q3, q4⟩ := hsame k2 hn2
        rw [h3, h4, q3, q4]
        exact hr.dj k1 k2 e1 e2 hne (h1 ▸ hl1) (q1 ▸ hl2)
theorem lk_append (k : Nat) : ∀ (a b : List (Nat × En)), lk k (a ++ b) = (match lk k a with | some e => some e | none => lk k b)
  | [], b => rfl
  | (k', e) :: a, b => by
    simp only [List.cons_append, lk_cons]
    split
    · rfl
    · exact lk_append k a b

/-- Cells and entries under new keys. -/
def KD (st : St) (κ : Nat → Nat) (L : List (Nat × En)) (vb : Nat) (d d' : D) : Prop :=
  match d, d' with
  | .ow k v, .ow k' v' => κ k' = k ∧ v' < vb ∧ ∃ dp t xs, lk k st.es = some (.sl v true dp t xs) ∧ lk k' L = some (.sl v' true dp t xs)
  | .ow k v, .sl xs => ∃ dp t, lk k st.es = some (.sl v false dp t xs)
  | .pt k v o, .pt k' v' o' => κ k' = k ∧ v' < vb ∧ o = 0 ∧ o' = 0 ∧ ∃ ty ds ds', lk k st.es = some (.pt v ty ds) ∧ lk k' L = some (.pt v' ty ds')
  | .ow _ _, _ => False
  | .pt _ _ _, _ => False
  | .pe _ _, _ => False
  | .px _ _ _ _, _ => False
  | .sa _ _ _ _ _, _ => False
  | d, d' => d' = d
structure Rk (st : St) (κ : Nat → Nat) (L : List (Nat × En)) (K vb n : Nat) (us us' : List Nat) : Prop where
  dom : ∀ k' e', lk k' L = some e' → K ≤ k' ∧ k' < K + n
  ent : ∀ k' e', lk k' L = some e' → e'.ver < vb ∧ κ k' ∈ us' ∧ κ k' ∉ us ∧ (
    (∃ v v' dp t xs, e' = .sl v' true dp t xs ∧ lk (κ k') st.es = some (.sl v true dp t xs)) ∨
    (∃ v v' ty ds ds', e' = .pt v' ty ds' ∧ lk (κ k') st.es = some (.pt v ty ds) ∧ All2 (KD st κ L vb) ds ds'))
  inj : ∀ k1 k2 e1 e2, lk k1 L = some e1 → lk k2 L = some e2 → κ k1 = κ k2 → k1 = k2
  sub : ∀ k ∈ us, k ∈ us'
theorem KD.ext {κ κ' : Nat → Nat} {L L' : List (Nat × En)} {vb vb' : Nat} {d d' : D} (hk : KD st κ L vb d d') (hv : vb ≤ vb') (hL : ∀ k e, lk k L = some e → lk k L' = some e ∧ κ' k = κ k) : KD st κ' L' vb' d d' := by
  cases d <;> cases d' <;> simp only [KD] at hk ⊢ <;> try exact hk
  · obtain ⟨h1, h2, dp, t, xs, h3, h4⟩ := hk
    obtain ⟨q1, q2⟩ := hL _ _ h4
    exact ⟨q2.trans h1, by omega, dp, t, xs, h3, q1⟩
  · obtain ⟨h1, h2, h3, h4, ty, ds, ds', h5, h6⟩ := hk
    obtain ⟨q1, q2⟩ := hL _ _ h6
    exact ⟨q2.trans h1, by omega, h3, h4, ty, ds, ds', h5, q1⟩
/-- Two such parts side by side. -/
theorem Rk.join {κ1 κ2 : Nat → Nat} {L1 L2 : List (Nat × En)} {K vb1 vb2 n1 n2 : Nat} {u0 u1 u2 : List Nat} (h1 : Rk st κ1 L1 K vb1 n1 u0 u1) (h2 : Rk st κ2 L2 (K + n1) vb2 n2 u1 u2) (hv : vb1 ≤ vb2) :
    Rk st (fun k => if k < K + n1 then κ1 k else κ2 k) (L1 ++ L2) K vb2 (n1 + n2) u0 u2 ∧ (∀ k e, lk k L1 = some e → lk k (L1 ++ L2) = some e ∧ (if k < K + n1 then κ1 k else κ2 k) = κ1 k) ∧ (∀ k e, lk k L2 = some e → lk k (L1 ++ L2) = some e ∧ (if k < K + n1 then κ1 k else κ2 k) = κ2 k) := by
  have e1 : ∀ k e, lk k L1 = some e → lk k (L1 ++ L2) = some e ∧ (if k < K + n1 then κ1 k else κ2 k) = κ1 k := fun k e hl => by
    rw [lk_append, hl, if_pos (h1.dom k e hl).2]; exact ⟨rfl, rfl⟩
  have e2 : ∀ k e, lk k L2 = some e → lk k (L1 ++ L2) = some e ∧ (if k < K + n1 then κ1 k else κ2 k) = κ2 k := fun k e hl => by
    have hd := h2.dom k e hl
    have : lk k L1 = none := by
      cases hx : lk k L1 with
      | none => rfl
      | some e' => have := h1.dom k e' hx; omega
    rw [lk_append, this, if_neg (by omega)]; exact ⟨hl, rfl⟩
  have cs : ∀ k e, lk k (L1 ++ L2) = some e → lk k L1 = some e ∨ lk k L2 = some e := fun k e hl => by
    rw [lk_append] at hl
    cases hx : lk k L1 with
    | none => rw [hx] at hl; exact .inr hl
    | some e' => rw [hx] at hl; exact .inl hl
  refine ⟨⟨fun k e hl => ?_, fun k e hl => ?_, fun k1 k2 a1 a2 hl1 hl2 he => ?_, fun k hk => h2.sub k (h1.sub k hk)⟩, e1, e2⟩
  · rcases cs k e hl with hl | hl
    · have := h1.dom k e hl; omega
    · have := h2.dom k e hl; omega
  · rcases cs k e hl with hl | hl
    · obtain ⟨q0, q1, q2, q3⟩ := h1.ent k e hl
      rw [(e1 k e hl).2]
      refine ⟨by omega, h2.sub _ q1, q2, ?_⟩
      rcases q3 with q3 | ⟨v, v', ty, ds, ds', r1, r2, r3⟩
      · exact .inl q3
      · exact .inr ⟨v, v', ty, ds, ds', r1, r2, r3.imp fun _ _ hk => hk.ext hv e1⟩
    · obtain ⟨q0, q1, q2, q3⟩ := h2.ent k e hl
      rw [(e2 k e hl).2]
      refine ⟨q0, q1, fun hu => q2 (h1.sub _ hu), ?_⟩
      rcases q3 with q3 | ⟨v, v', ty, ds, ds', r1, r2, r3⟩
      · exact .inl q3
      · exact .inr ⟨v, v', ty, ds, ds', r1, r2, r3.imp fun _ _ hk => hk.ext (Nat.le_refl _) e2⟩
  · rcases cs k1 a1 hl1 with hl1 | hl1 <;> rcases cs k2 a2 hl2 with hl2 | hl2
    · rw [(e1 _ _ hl1).2, (e1 _ _ hl2).2] at he; exact h1.inj k1 k2 a1 a2 hl1 hl2 he
    · rw [(e1 _ _ hl1).2, (e2 _ _ hl2).2] at he
      exact absurd (he ▸ (h1.ent _ _ hl1).2.1) (h2.ent _ _ hl2).2.2.1
    · rw [(e2 _ _ hl1).2, (e1 _ _ hl2).2] at he
      exact absurd (he ▸ (h1.ent _ _ hl2).2.1) (h2.ent _ _ hl1).2.2.1
    · rw [(e2 _ _ hl1).2, (e2 _ _ hl2).2] at he; exact h2.inj k1 k2 a1 a2 hl1 hl2 he
theorem Rk.nil {K vb : Nat} {us : List Nat} : Rk st id [] K vb 0 us us := ⟨fun k e hl => by simp [lk] at hl, fun k e hl => by simp [lk] at hl, fun k1 k2 e1 e2 hl => by simp [lk] at hl, fun k hk => hk⟩
/-- One cell without an entry. -/
theorem Rk.none {K vb : Nat} {us : List Nat} : Rk st id [] K vb 1 us us := ⟨fun k e hl => by simp [lk] at hl, fun k e hl => by simp [lk] at hl, fun k1 k2 e1 e2 hl => by simp [lk] at hl, fun k hk => hk⟩
theorem Rk.one {K v k w : Nat} {dp : Bool} {t : Option (Nat × Nat)} {xs : List (List D)} {us : List Nat} (hl : lk k st.es = some (.sl w true dp t xs)) (hu : k ∉ us) : Rk st (fun _ => k) [(K, .sl v true dp t xs)] K (v + 1) 1 us (k :: us) := by
  refine ⟨fun k' e hl => ?_, fun k' e hl' => ?_, fun k1 k2 e1 e2 h1 h2 _ => ?_, fun k hk => by simp [hk]⟩
  · simp only [lk_cons, lk] at hl; split at hl
    · omega
    · simp at hl
  · simp only [lk_cons, lk] at hl'; split at hl'
    · simp at hl'; subst hl'; exact ⟨by simp [En.ver], by simp, hu, .inl ⟨w, v, dp, t, xs, rfl, hl⟩⟩
    · simp at hl'
  · simp only [lk_cons, lk] at h1 h2
    split at h1
    · split at h2
      · omega
      · simp at h2
    · simp at h1
theorem exp0_ok : ∀ (ds : List D) {us us' : List Nat} {xs : List E0}, exp0 st ds us = some (xs, us') → ∀ K v, ∃ κ, Rk st κ (imp0 K v xs).2 K (v + xs.length) xs.length us us' ∧ All2 (KD st κ (imp0 K v xs).2 (v + xs.length)) ds (imp0 K v xs).1
  | [], us, us', xs, he, K, v => by
    simp [exp0] at he
    obtain ⟨rfl, rfl⟩ := he
    exact ⟨id, Rk.nil, trivial⟩
  | d :: r, us, us', xs, he, K, v => by
    -- a cell that is read alone
    have plain : ∀ (x : D), (match exp0 st r us with | some (es, us') => some (E0.p x :: es, us') | Option.none => Option.none) = some (xs, us') → (∀ κ L vb, KD st κ L vb d x) →
        ∃ κ, Rk st κ (imp0 K v xs).2 K (v + xs.length) xs.length us us' ∧ All2 (KD st κ (imp0 K v xs).2 (v + xs.length)) (d :: r) (imp0 K v xs).1 := by
      intro x he hx
      split at he
      · rename_i es u2 h2
        simp at he
        obtain ⟨rfl, rfl⟩ := he
        obtain ⟨κ, q1, q2⟩ := exp0_ok r h2 (K + 1) (v + 1)
        simp only [imp0, List.length_cons]
        have hj := (Rk.none (st := st) (K := K) (vb := v + 1) (us := us)).join q1 (by omega)
        refine ⟨_, by have := hj.1; rw [List.nil_append, Nat.add_comm 1] at this; rw [show v + (es.length + 1) = v + 1 + es.length by omega]; exact this, hx _ _ _, q2.imp fun _ _ hk => hk.ext (by omega) (fun k e hl => by have := hj.2.2 k e hl; rwa [List.nil_append] at this)⟩
      · simp at he
    cases d with
    | ow k w =>
      simp only [exp0] at he
      split at he
      · rename_i dp t ys hs
        split at he
        · simp at he
        · rename_i hu
          split at he
          · rename_i es u2 h2
            simp at he
            obtain ⟨rfl, rfl⟩ := he
            have hl := St.slc_spec hs
            obtain ⟨κ, q1, q2⟩ := exp0_ok r h2 (K + 1) (v + 1)
            simp only [imp0, List.length_cons]
            have hj := (Rk.one (st := st) (K := K) (v := v) hl (by simpa using hu)).join q1 (by omega)
            refine ⟨_, by have := hj.1; rw [List.singleton_append, Nat.add_comm 1] at this; rw [show v + (es.length + 1) = v + 1 + es.length by omega]; exact this, ⟨by simp, by omega, dp, t, ys, hl, by simp [lk_cons]⟩, q2.imp fun _ _ hk => hk.ext (by omega) (fun k e hl => by have := hj.2.2 k e hl; rwa [List.singleton_append] at this)⟩
          · simp at he
      · rename_i dp t ys hs
        exact plain _ he (fun κ L vb => ⟨dp, t, St.slc_spec hs⟩)
      · simp at he
    | pt k v o => simp [exp0] at he
    | pe x o => simp [exp0] at he
    | px k v j o => simp [exp0] at he
    | sa k v o n e => simp [exp0] at he
    | _ => simp only [exp0] at he; exact plain _ he (fun κ L vb => rfl)
end
end Go.Eng
