/-
  The value machine, part C: what is said goes on being true; reading.
-/
import Derived.Test.YtaicdpancmfhnaaVmB
set_option linter.unusedVariables false
set_option linter.unusedSimpArgs false
namespace Go.Eng
theorem UT.get_leaf (k : K) : UT.leaf.get k = .any := by cases k <;> rfl
theorem UT.get_set : ∀ (k k' : K) (f : UT) (v : U), (f.set k v).get k' = if k' = k then v else f.get k'
  | .z, .z, .leaf, _ => rfl
  | .z, .o _, .leaf, _ => by simp [UT.set, UT.get, UT.get_leaf]
  | .z, .i _, .leaf, _ => by simp [UT.set, UT.get, UT.get_leaf]
  | .o _, .z, .leaf, _ => by simp [UT.set, UT.get]
  | .o k, .o k', .leaf, v => by simp [UT.set, UT.get, UT.get_set k k' .leaf v, UT.get_leaf]
  | .o _, .i _, .leaf, _ => by simp [UT.set, UT.get, UT.get_leaf]
  | .i _, .z, .leaf, _ => by simp [UT.set, UT.get]
  | .i _, .o _, .leaf, _ => by simp [UT.set, UT.get, UT.get_leaf]
  | .i k, .i k', .leaf, v => by simp [UT.set, UT.get, UT.get_set k k' .leaf v, UT.get_leaf]
  | .z, .z, .node _ _ _, _ => rfl
  | .z, .o _, .node _ _ _, _ => by simp [UT.set, UT.get]
  | .z, .i _, .node _ _ _, _ => by simp [UT.set, UT.get]
  | .o _, .z, .node _ _ _, _ => by simp [UT.set, UT.get]
  | .o k, .o k', .node l _ _, v => by simp [UT.set, UT.get, UT.get_set k k' l v]
  | .o _, .i _, .node _ _ _, _ => by simp [UT.set, UT.get]
  | .i _, .z, .node _ _ _, _ => by simp [UT.set, UT.get]
  | .i _, .o _, .node _ _ _, _ => by simp [UT.set, UT.get]
  | .i k, .i k', .node _ _ r, v => by simp [UT.set, UT.get, UT.get_set k k' r v]
theorem UT.get_full : ∀ (d : Nat) (k : K), (UT.full d).get k = .any
  | 0, k => UT.get_leaf k
  | d + 1, .z => rfl
  | d + 1, .o k => UT.get_full d k
  | d + 1, .i k => UT.get_full d k
section
variable {Γ : Cx} {γ γ' : Gh} {f f' : UT} {st st' : St} {mf mf' : Fr} {h h' : H}
/-- A slot is set. -/
theorem RelG.set (hr : RelG Γ γ f st mf h) {d : Nat} {mv : V} {uv : U} (hv : UR Γ γ st h mv uv) : RelG Γ γ (UW f d uv) st (mf.set d mv) h := by
  refine { hr with fr := fun k => ?_ }
  unfold UW Fr.set
  rw [UT.get_set, PT.get_set]
  split
  · exact hv
  · exact hr.fr k
theorem RelG.slot (hr : RelG Γ γ f st mf h) (s : Nat) : UR Γ γ st h (mf.get s) (UF f s) := hr.fr (K.of s)
/-! ### What goes on being true -/
structure Mo (Γ : Cx) (γ : Gh) (st : St) (h : H) (γ' : Gh) (st' : St) (h' : H) : Prop where
  nx : st.nx ≤ st'.nx
  len : h.length ≤ h'.length
  cell : ∀ i, i < h.length → PR Γ γ st i → h'.cells i = h.cells i ∧ PR Γ γ' st' i
  sl : ∀ k v o dp t xs, v < st.nx → lk k st'.es = some (.sl v o dp t xs) → ∃ o' dp' t' xs', lk k st.es = some (.sl v o' dp' t' xs') ∧ γ'.c k = γ.c k ∧ (o = true → o' = true ∧ xs.length = xs'.length)
  pt : ∀ k v ty ds, v < st.nx → lk k st'.es = some (.pt v ty ds) → ∃ ty' ds', lk k st.es = some (.pt v ty' ds') ∧ γ'.c k = γ.c k
theorem Mo.refl : Mo Γ γ st h γ st h := ⟨Nat.le_refl _, Nat.le_refl _, fun i _ hp => ⟨rfl, hp⟩, fun k v o dp t xs _ hl => ⟨o, dp, t, xs, hl, rfl, fun h => ⟨h, rfl⟩⟩, fun k v ty ds _ hl => ⟨ty, ds, hl, rfl⟩⟩
theorem Mo.trans {γ'' : Gh} {st'' : St} {h'' : H} (hm : Mo Γ γ st h γ' st' h') (hn : Mo Γ γ' st' h' γ'' st'' h'') : Mo Γ γ st h γ'' st'' h'' := by
  refine ⟨Nat.le_trans hm.nx hn.nx, Nat.le_trans hm.len hn.len, fun i hi hp => ?_, fun k v o dp t xs hv hl => ?_, fun k v ty ds hv hl => ?_⟩
  · obtain ⟨h1, h2⟩ := hm.cell i hi hp
    obtain ⟨h3, h4⟩ := hn.cell i (Nat.lt_of_lt_of_le hi hm.len) h2
    exact ⟨h3.trans h1, h4⟩
  · obtain ⟨o1, d1, t1, x1, k1, k2, k3⟩ := hn.sl k v o dp t xs (Nat.lt_of_lt_of_le hv hm.nx) hl
    obtain ⟨o2, d2, t2, x2, q1, q2, q3⟩ := hm.sl k v o1 d1 t1 x1 hv k1
    exact ⟨o2, d2, t2, x2, q1, k2.trans q2, fun e => ⟨(q3 (k3 e).1).1, (k3 e).2.trans (q3 (k3 e).1).2⟩⟩
  · obtain ⟨t1, x1, k1, k2⟩ := hn.pt k v ty ds (Nat.lt_of_lt_of_le hv hm.nx) hl
    obtain ⟨t2, x2, q1, q2⟩ := hm.pt k v t1 x1 hv k1
    exact ⟨t2, x2, q1, k2.trans q2⟩
theorem RD.mo (hm : Mo Γ γ st h γ' st' h') {d : D} {c : C} (hr : ∃ S, RD h d c S ∧ ∀ i ∈ S, PR Γ γ st i) : ∃ S, RD h' d c S ∧ ∀ i ∈ S, PR Γ γ' st' i := by
  obtain ⟨S, h1, h2⟩ := hr
  exact ⟨S, RD.frame d h1 fun i hi => (hm.cell i (RD.lt d h1 i hi) (h2 i hi)).1, fun i hi => (hm.cell i (RD.lt d h1 i hi) (h2 i hi)).2⟩
theorem DC.mo (hm : Mo Γ γ st h γ' st' h') {c : C} {d : D} (hr : DC Γ γ st h c d) : DC Γ γ' st' h' c d := by
  cases d
  case ow k v =>
    obtain ⟨h1, h2⟩ := hr
    refine ⟨Nat.lt_of_lt_of_le h1 hm.nx, fun o dp t xs hl => ?_⟩
    obtain ⟨o', dp', t', xs', k1, k2, _⟩ := hm.sl k v o dp t xs h1 hl
    rw [k2]
    exact h2 _ _ _ _ k1
  case pt k v o =>
    obtain ⟨h1, h2⟩ := hr
    refine ⟨Nat.lt_of_lt_of_le h1 hm.nx, fun ty ds hl => ?_⟩
    obtain ⟨ty', ds', k1, k2⟩ := hm.pt k v ty ds h1 hl
    rw [k2]
    exact h2 _ _ k1
  case sa k v o n e =>
    obtain ⟨h1, h2⟩ := hr
    refine ⟨Nat.lt_of_lt_of_le h1 hm.nx, fun ty ds hl => ?_⟩
    obtain ⟨ty', ds', k1, k2⟩ := hm.pt k v ty ds h1 hl
    rw [k2]
    exact h2 _ _ k1
  case px k v j o =>
    obtain ⟨h1, h2⟩ := hr
    refine ⟨Nat.lt_of_lt_of_le h1 hm.nx, fun dp t xs hl => ?_⟩
    obtain ⟨o', dp', t', xs', k1, k2, k3⟩ := hm.sl k v true dp t xs h1 hl
    obtain ⟨rfl, k4⟩ := k3 rfl
    rw [k2, k4]
    exact h2 _ _ _ k1
  case pe x o =>
    obtain ⟨id, p, bs, S, h1, h2, h3, h4, h5, h6⟩ := hr
    exact ⟨id, p, bs, S, h1, (hm.cell id (lt_of_cells h2) h5).1.trans h2, h3, RDs.frame x h4 fun i hi => (hm.cell i (RDs.lt x h4 i hi) (h6 i hi)).1, (hm.cell id (lt_of_cells h2) h5).2, fun i hi => (hm.cell i (RDs.lt x h4 i hi) (h6 i hi)).2⟩
  all_goals exact RD.mo hm hr
theorem UR.mo (hm : Mo Γ γ st h γ' st' h') {v : V} {u : U} (hr : UR Γ γ st h v u) : UR Γ γ' st' h' v u := by
  cases u with
  | any => exact hr
  | val g ds => obtain ⟨cs, h1, h2⟩ := hr; exact ⟨cs, h1, h2.imp fun _ _ => DC.mo hm⟩
  | tup vs => obtain ⟨ws, h1, h2⟩ := hr; exact ⟨ws, h1, h2.imp fun _ _ hx => ⟨hx.1, hx.2.imp fun _ _ => DC.mo hm⟩⟩
  | box ds => obtain ⟨cs, h1, h2⟩ := hr; exact ⟨cs, h1, h2.imp fun _ _ => DC.mo hm⟩
  | lsl ds n e => obtain ⟨cs, h1, h2⟩ := hr; exact ⟨cs, h1, h2.imp fun _ _ => DC.mo hm⟩
  | lref r o => exact hr
theorem ER.mo (hm : Mo Γ γ st h γ' st' h') {k : Nat} {e : En} (hc : γ'.c k = γ.c k) (hw : γ'.w k = γ.w k) (hu : γ'.u k = γ.u k) (hb : ∀ i ∈ γ.w k, h'[i]? = h[i]?) (hr : ER Γ γ st h k e) : ER Γ γ' st' h' k e := by
  match e, hr with
  | .sl v true dp t xs, ⟨h0, hr⟩ =>
    refine ⟨Nat.lt_of_lt_of_le h0 hm.nx, ?_⟩
    rw [hc, hw, hu]
    rcases hr with hr | ⟨id, ty, ez, bs, S, h1, h2, h3, h4, h5, h6, h7, h8⟩
    · exact .inl hr
    · exact .inr ⟨id, ty, ez, bs, S, h1, h2, h3, by rw [hb id (by rw [h3]; simp), h4], h5, RDss.frame xs h6 fun i hi => (hm.cell i (RDss.lt xs h6 i hi) (h7 i hi)).1, fun i hi => (hm.cell i (RDss.lt xs h6 i hi) (h7 i hi)).2, h8⟩
  | .sl v false dp t xs, ⟨h0, h1, h2, h3⟩ =>
    refine ⟨Nat.lt_of_lt_of_le h0 hm.nx, by rw [hw, h1], by rw [hu, h2], ?_⟩
    rw [hc]
    exact RD.mo hm h3
  | .pt v ty ds, ⟨h0, h1, id, bs, h2, h3, h4, h5⟩ =>
    exact ⟨Nat.lt_of_lt_of_le h0 hm.nx, by rw [hu, h1], id, bs, by rw [hc, h2], by rw [hw, h3], by rw [hb id (by rw [h3]; simp), h4], h5.imp fun _ _ => DC.mo hm⟩
def En.ver : En → Nat
  | .sl v _ _ _ _ => v
  | .pt v _ _ => v
theorem ER.ver {k : Nat} {e : En} (hr : ER Γ γ st h k e) : e.ver < st.nx := by
  match e, hr with
  | .sl v true dp t xs, ⟨h0, _⟩ => exact h0
  | .sl v false dp t xs, ⟨h0, _⟩ => exact h0
  | .pt v ty ds, ⟨h0, _⟩ => exact h0
def OldOk (st : St) (k : Nat) (e' : En) : Prop :=
  match e' with
  | .sl v o dp t xs => ∃ o' dp' t' xs', lk k st.es = some (.sl v o' dp' t' xs') ∧ (o = true → o' = true ∧ xs.length = xs'.length)
  | .pt v ty ds => ∃ ty' ds', lk k st.es = some (.pt v ty' ds')
def Gh.up (γ : Gh) (k : Nat) (c : C) (w u : List Nat) : Gh := ⟨fun k' => if k' = k then c else γ.c k', fun k' => if k' = k then w else γ.w k', fun k' => if k' = k then u else γ.u k'⟩
@[simp] theorem Gh.up_c (γ : Gh) (k : Nat) (c : C) (w u : List Nat) : (γ.up k c w u).c k = c := by simp [Gh.up]
@[simp] theorem Gh.up_w (γ : Gh) (k : Nat) (c : C) (w u : List Nat) : (γ.up k c w u).w k = w := by simp [Gh.up]
@[simp] theorem Gh.up_u (γ : Gh) (k : Nat) (c : C) (w u : List Nat) : (γ.up k c w u).u k = u := by simp [Gh.up]
theorem Gh.up_c' (γ : Gh) {k k' : Nat} (c : C) (w u : List Nat) (hk : k' ≠ k) : (γ.up k c w u).c k' = γ.c k' := by simp [Gh.up, hk]
theorem Gh.up_w' (γ : Gh) {k k' : Nat} (c : C) (w u : List Nat) (hk : k' ≠ k) : (γ.up k c w u).w k' = γ.w k' := by simp [Gh.up, hk]
theorem Gh.up_u' (γ : Gh) {k k' : Nat} (c : C) (w u : List Nat) (hk : k' ≠ k) : (γ.up k c w u).u k' = γ.u k' := by simp [Gh.up, hk]
theorem lk_cons (k k' : Nat) (e : En) (r : List (Nat × En)) : lk k ((k', e) :: r) = if k = k' then some e else lk k r := rfl
theorem RelG.pin_mo (hr : RelG Γ γ f st mf h) (hm : Mo Γ γ st h γ' st' h') : ∀ p ∈ Γ.pin, p.2.1 < st'.nx ∧ ∀ ty ds, lk p.1 st'.es = some (.pt p.2.1 ty ds) → γ'.c p.1 = .ptr p.2.2 0 := fun p hp => by
  obtain ⟨h1, h2⟩ := hr.pin p hp
  refine ⟨Nat.lt_of_lt_of_le h1 hm.nx, fun ty ds hl => ?_⟩
  obtain ⟨ty', ds', k1, k2⟩ := hm.pt _ _ _ _ h1 hl
  rw [k2]
  exact h2 _ _ k1
/-- One entry is another one. -/
theorem RelG.upd (hr : RelG Γ γ f st mf h) {k nx' : Nat} {e' : En} {c : C} {w u : List Nat} {h' : H} (hnx : st.nx ≤ nx')
    (hv : st.nx ≤ e'.ver ∨ (c = γ.c k ∧ OldOk st k e'))
    (hcells : ∀ i, i < h.length → PR Γ γ st i → h'.cells i = h.cells i)
    (hw : ∀ i ∈ w, i < h.length → ¬ PR Γ γ st i)
    (hoth : ∀ k' e, k' ≠ k → lk k' st.es = some e → ∀ i ∈ γ.w k', h'[i]? = h[i]?)
    (hnd : (w ++ u).Nodup ∧ ∀ i ∈ w ++ u, Mine Γ i)
    (hdj : ∀ k' e, k' ≠ k → lk k' st.es = some e → ∀ i ∈ w ++ u, i ∉ γ.w k' ++ γ.u k')
    (hlen : h.length ≤ h'.length) (hbase : ∀ i, i < Γ.hb.length → i ∉ Γ.bs → h'[i]? = h[i]?)
    (hk : Mo Γ γ st h (γ.up k c w u) ⟨nx', (k, e') :: st.es⟩ h' → ER Γ (γ.up k c w u) ⟨nx', (k, e') :: st.es⟩ h' k e') (hown : ∀ i cs, Mine Γ i → h'[i]? ≠ some (.ro cs)) :
    RelG Γ (γ.up k c w u) f ⟨nx', (k, e') :: st.es⟩ mf h' ∧ Mo Γ γ st h (γ.up k c w u) ⟨nx', (k, e') :: st.es⟩ h' := by
  have hm : Mo Γ γ st h (γ.up k c w u) ⟨nx', (k, e') :: st.es⟩ h' := by
    refine ⟨hnx, hlen, fun i hi hp => ⟨hcells i hi hp, hp.1, fun k' e hl => ?_⟩, fun k' v o dp t xs hlt hl => ?_, fun k' v ty ds hlt hl => ?_⟩
    · simp only [lk_cons] at hl
      by_cases hkk : k' = k
      · subst hkk; rw [Gh.up_w]; exact fun hiw => hw i hiw hi hp
      · rw [if_neg hkk] at hl; rw [Gh.up_w' _ _ _ _ hkk]; exact hp.2 k' e hl
    · simp only [lk_cons] at hl
      by_cases hkk : k' = k
      · subst hkk
        rw [if_pos rfl] at hl
        cases hl
        rcases hv with hv | ⟨hc, o', dp', t', xs', h1, h2⟩
        · simp only [En.ver] at hv; omega
        · exact ⟨o', dp', t', xs', h1, by rw [Gh.up_c, hc], h2⟩
      · rw [if_neg hkk] at hl
        exact ⟨o, dp, t, xs, hl, Gh.up_c' _ _ _ _ hkk, fun h => ⟨h, rfl⟩⟩
    · simp only [lk_cons] at hl
      by_cases hkk : k' = k
      · subst hkk
        rw [if_pos rfl] at hl
        cases hl
        rcases hv with hv | ⟨hc, ty', ds', h1⟩
        · simp only [En.ver] at hv; omega
        · exact ⟨ty', ds', h1, by rw [Gh.up_c, hc]⟩
      · rw [if_neg hkk] at hl
        exact ⟨ty, ds, hl, Gh.up_c' _ _ _ _ hkk⟩
  refine ⟨⟨fun s => (hr.fr s).mo hm, fun k' e hl => ?_, fun k' e hl => ?_, fun k1 k2 e1 e2 hne hl1 hl2 => ?_, Nat.le_trans hr.len hlen, fun i h1 h2 => (hbase i h1 h2).trans (hr.base i h1 h2), hr.arb, hr.pin_mo hm, hown⟩, hm⟩
  · simp only [lk_cons] at hl
    by_cases hkk : k' = k
    · subst hkk; rw [if_pos rfl] at hl; cases hl; exact hk hm
    · rw [if_neg hkk] at hl
      exact ER.mo hm (Gh.up_c' _ _ _ _ hkk) (Gh.up_w' _ _ _ _ hkk) (Gh.up_u' _ _ _ _ hkk) (hoth k' e hkk hl) (hr.en k' e hl)
  · simp only [lk_cons] at hl
    by_cases hkk : k' = k
    · subst hkk; rw [Gh.up_w, Gh.up_u]; exact hnd
    · rw [if_neg hkk] at hl; rw [Gh.up_w' _ _ _ _ hkk, Gh.up_u' _ _ _ _ hkk]; exact hr.nd k' e hl
  · simp only [lk_cons] at hl1 hl2
    by_cases hk1 : k1 = k
    · subst hk1
      have hk2 : k2 ≠ k1 := fun e => hne e.symm
      rw [if_neg hk2] at hl2
      rw [Gh.up_w, Gh.up_u, Gh.up_w' _ _ _ _ hk2, Gh.up_u' _ _ _ _ hk2]
      exact hdj k2 e2 hk2 hl2
    · rw [if_neg hk1] at hl1
      by_cases hk2 : k2 = k
      · subst hk2
        rw [Gh.up_w, Gh.up_u, Gh.up_w' _ _ _ _ hk1, Gh.up_u' _ _ _ _ hk1]
        exact fun i hi hi' => hdj k1 e1 hk1 hl1 i hi' hi
      · rw [if_neg hk2] at hl2
        rw [Gh.up_w' _ _ _ _ hk1, Gh.up_u' _ _ _ _ hk1, Gh.up_w' _ _ _ _ hk2, Gh.up_u' _ _ _ _ hk2]
        exact hr.dj k1 k2 e1 e2 hne hl1 hl2
/-- What is led to from nowhere else, behind such a change. -/
theorem Free.upd {k nx' : Nat} {e' : En} {c : C} {w u S : List Nat} (hf : Free Γ γ st S) (hd : ∀ i ∈ S, i ∉ w ++ u) : Free Γ (γ.up k c w u) ⟨nx', (k, e') :: st.es⟩ S := by
  refine ⟨hf.1, hf.2.1, fun k' e hl i hi => ?_⟩
  simp only [lk_cons] at hl
  by_cases hkk : k' = k
  · subst hkk; rw [Gh.up_w, Gh.up_u]; exact hd i hi
  · rw [if_neg hkk] at hl; rw [Gh.up_w' _ _ _ _ hkk, Gh.up_u' _ _ _ _ hkk]; exact hf.2.2 k' e hl i hi
/-! ### Reading -/
theorem DC.dC {c c' : C} {d : D} (hr : DC Γ γ st h c d) (hd : dC d = some c') : c = c' := by
  cases d <;> simp [Eng.dC] at hd <;> subst hd <;> obtain ⟨S, hr, _⟩ := hr <;> simp only [RD] at hr <;> exact hr.1
theorem DC.cD {c c' : C} {d : D} (hd : cD c' = some d) (hc : c = c') : DC Γ γ st h c d := by
  subst hc
  have := cD_spec (h := h) hd
  cases c <;> simp [Eng.cD] at hd <;> subst hd <;> exact ⟨[], this, fun i hi => by cases hi⟩
theorem cDs_ok : ∀ {cs : List C} {ds : List D}, cDs cs = some ds → All2 (DC Γ γ st h) cs ds
  | [], ds, hc => by simp [cDs] at hc; subst hc; trivial
  | c :: cs, ds, hc => by
    simp only [cDs] at hc
    split at hc
    · rename_i d ds' h1 h2
      simp at hc
      subst hc
      exact ⟨DC.cD h1 rfl, cDs_ok h2⟩
    · simp at hc
theorem evU_ok (hr : RelG Γ γ f st mf h) {x : X} {u : U} (hu : evU f x = u) (hne : u ≠ .any) : UR Γ γ st h (ev mf x) u ∧ ∀ ds, u ≠ .box ds := by
  cases x with
  | s t =>
    have hs := hr.slot t
    simp only [evU] at hu
    split at hu
    · rename_i ds he
      subst hu
      rw [he] at hs
      obtain ⟨cs, h1, _⟩ := hs
      exact ⟨by simp only [ev, h1]; rfl, fun _ e => by cases e⟩
    · rename_i hnb
      subst hu
      refine ⟨?_, fun ds e => hnb ds e⟩
      simp only [ev]
      split
      · rename_i cs he
        rw [he] at hs
        revert hs hne hnb
        cases UF f t <;> intro hs hnb hne <;> simp [UR] at hs hnb hne ⊢
      · exact hs
  | c v =>
    simp only [evU] at hu
    cases v with
    | val g cs =>
      simp only [cU] at hu
      split at hu
      · rename_i ds hd
        subst hu
        exact ⟨⟨cs, rfl, cDs_ok hd⟩, fun _ e => by cases e⟩
      · exact absurd hu.symm hne
    | _ => simp only [cU] at hu; exact absurd hu.symm hne
theorem uvp_ok (hr : RelG Γ γ f st mf h) {x : X} {g : Bool} {ds : List D} (hx : uvp f x = some (g, ds)) : ∃ cs, evp mf x = some (g, cs) ∧ All2 (DC Γ γ st h) cs ds := by
  unfold uvp at hx
  split at hx
  · rename_i g' ds' he
    simp at hx
    obtain ⟨rfl, rfl⟩ := hx
    obtain ⟨⟨cs, h1, h2⟩, _⟩ := evU_ok hr he (by simp)
    exact ⟨cs, by simp only [evp, h1], h2⟩
  · simp at hx
theorem uv1_ok (hr : RelG Γ γ f st mf h) {x : X} {d : D} (hx : uv1 f x = some d) : ∃ c, ev1 mf x = some c ∧ DC Γ γ st h c d := by
  unfold uv1 at hx
  split at hx
  · rename_i d' he
    simp at hx
    subst hx
    obtain ⟨⟨cs, h1, h2⟩, _⟩ := evU_ok hr he (by simp)
    match cs, h2 with
    | [c], h2 => exact ⟨c, by simp only [ev1, h1], h2.1⟩
  · simp at hx
theorem uv1_dC (hr : RelG Γ γ f st mf h) {x : X} {d : D} {c : C} (hx : uv1 f x = some d) (hd : dC d = some c) : ev1 mf x = some c := by
  obtain ⟨c', h1, h2⟩ := uv1_ok hr hx
  rw [h1, h2.dC hd]
theorem fillD_ok (hr : RelG Γ γ f st mf h) : ∀ {ps : List (Nat × Nat × X)} {ds ds' : List D} {cs : List C}, fillD f ds ps = some ds' → All2 (DC Γ γ st h) cs ds → ∃ cs', fillC mf cs ps = some cs' ∧ All2 (DC Γ γ st h) cs' ds'
  | [], ds, ds', cs, hf, ha => by simp [fillD] at hf; subst hf; exact ⟨cs, rfl, ha⟩
  | (off, sz, x) :: r, ds, ds', cs, hf, ha => by
    simp only [fillD] at hf
    split at hf
    · rename_i g vs hv
      split at hf
      · rename_i hc
        obtain ⟨ws, h1, h2⟩ := uvp_ok hr hv
        obtain ⟨cs', h3, h4⟩ := fillD_ok hr hf (All2.setL off ha h2)
        refine ⟨cs', ?_, h4⟩
        simp only [fillC, h1]
        rw [if_pos ⟨by rw [h2.length]; exact hc.1, by rw [ha.length]; exact hc.2⟩]
        exact h3
      · simp at hf
    · simp at hf
theorem boundU_ok (hr : RelG Γ γ f st mf h) {x : Option X} {n : Nat} {i : Int} (hx : boundU f x n = some i) : bound mf x n = some i := by
  unfold boundU at hx
  unfold bound
  cases x with
  | none => exact hx
  | some x =>
    simp only at hx ⊢
    split at hx
    · rename_i k j he
      simp at hx
      subst hx
      rw [uv1_dC hr he (c := .int k j) rfl]
    · simp at hx
theorem St.slc_spec {k v : Nat} {o d : Bool} {t : Option (Nat × Nat)} {xs : List (List D)} (hs : st.slc k v = some (o, d, t, xs)) : lk k st.es = some (.sl v o d t xs) := by
  unfold St.slc at hs
  split at hs
  · rename_i v' o' d' t' xs' he
    split at hs
    · rename_i hv
      subst hv
      simp at hs
      obtain ⟨rfl, rfl, rfl, rfl⟩ := hs
      exact he
    · simp at hs
  · simp at hs
theorem St.ptr_spec {k v ty : Nat} {ds : List D} (hs : st.ptr k v = some (ty, ds)) : lk k st.es = some (.pt v ty ds) := by
  unfold St.ptr at hs
  split at hs
  · rename_i v' ty' ds' he
    split at hs
    · rename_i hv
      subst hv
      simp at hs
      obtain ⟨rfl, rfl⟩ := hs
      exact he
    · simp at hs
  · simp at hs
theorem DC.leafs {h' : H} : ∀ {cs : List C} {ds : List D}, All2 (DC Γ γ st h) cs ds → leafs ds = true → RDs h' ds cs []
  | [], [], _, _ => by simp [RDs]
  | c :: cs, d :: ds, ha, hl => by
    simp only [Eng.leafs, Bool.and_eq_true] at hl
    simp only [RDs]
    refine ⟨c, cs, [], [], rfl, rfl, ?_, DC.leafs ha.2 hl.2⟩
    have h1 := ha.1
    have h2 := hl.1
    cases d <;> simp [D.leaf] at h2 <;> obtain ⟨S, h1, _⟩ := h1 <;> simp only [RD] at h1 ⊢ <;> first | exact ⟨h1.1, trivial⟩ | exact ⟨h1.1, rfl⟩
/-- The elements of a slice. -/
theorem els_ok (hr : RelG Γ γ f st mf h) {c : C} {d : D} (hd : DC Γ γ st h c d) {xs : List (List D)} (hx : st.els d = some xs) : ∃ S, RD h (.sl xs) c S ∧ ∀ i ∈ S.tail, PR Γ γ st i := by
  cases d <;> simp only [St.els] at hx
  case nils =>
    simp at hx
    subst hx
    obtain ⟨S, hd, _⟩ := hd
    simp only [RD] at hd
    exact ⟨[], RD_sl.2 (.inl ⟨rfl, rfl, .inl hd.1⟩), fun i hi => by cases hi⟩
  case sl ys =>
    simp at hx
    subst hx
    obtain ⟨S, h1, h2⟩ := hd
    exact ⟨S, h1, fun i hi => h2 i (List.mem_of_mem_tail hi)⟩
  case ow k v =>
    split at hx
    · rename_i o dp t ys hs
      simp at hx
      subst hx
      have hl := St.slc_spec hs
      have he := hr.en k _ hl
      have hc := hd.2 _ _ _ _ hl
      subst hc
      cases o with
      | true =>
        obtain ⟨_, he⟩ := he
        rcases he with ⟨rfl, _, _, h3⟩ | ⟨id, ty, ez, bs, S, h1, h2, h3, h4, h5, h6, h7, h8⟩
        · exact ⟨[], RD_sl.2 (.inl ⟨rfl, rfl, h3⟩), fun i hi => by cases hi⟩
        · refine ⟨id :: S, ?_, fun i hi => h7 i hi⟩
          simp only [RD]
          refine .inr ⟨id, 0, ez, bs, S, h2, cells_own h4, by omega, rfl, ?_⟩
          rw [List.drop_zero, ← h5, List.take_length]
          exact h6
      | false =>
        obtain ⟨_, _, _, S, h1, h2⟩ := he
        exact ⟨S, h1, fun i hi => h2 i (List.mem_of_mem_tail hi)⟩
    · simp at hx
  case sa k v o n e =>
    split at hx
    · rename_i ty ds hs
      split at hx
      · rename_i hc
        simp at hx
        subst hx
        have hl := St.ptr_spec hs
        obtain ⟨_, hu, id, bs, h1, h2, h3, h4⟩ := hr.en k _ hl
        obtain ⟨id', k1, k2⟩ := hd.2 _ _ hl
        rw [h1] at k1
        cases k1
        have hbl := h4.length
        have h5 := DC.leafs (h' := h) ((h4.drop o).take (n * e)) hc.2
        have h6 := chunks_ok (e := e) (n := n) h5 (by simp; omega)
        refine ⟨[id], ?_, fun i hi => by cases hi⟩
        simp only [RD]
        exact .inr ⟨id, o, e, bs, [], by rw [k2, chunks_len], cells_own h3, by rw [chunks_len]; omega, rfl, by rw [chunks_len]; exact h6⟩
      · simp at hx
    · simp at hx
  all_goals simp at hx
theorem RD.lenC {xs : List (List D)} {c : C} {S : List Nat} (hr : RD h (.sl xs) c S) : lenC c = some xs.length := by
  simp only [RD] at hr
  rcases hr with ⟨rfl, _, rfl | rfl⟩ | ⟨id, off, e, bs, S', rfl, _⟩ <;> rfl
theorem RD.srcC {xs : List (List D)} {c : C} {S : List Nat} (hr : RD h (.sl xs) c S) {esz : Nat} (hw : wid esz xs = true) : ∃ ys, srcC h esz c = some (ys, xs.length) ∧ RDss h xs esz ys S.tail := by
  simp only [RD] at hr
  rcases hr with ⟨rfl, rfl, rfl | rfl⟩ | ⟨id, off, e, bs, S', rfl, h2, h3, rfl, h5⟩
  · exact ⟨[], rfl, by simp [RDss]⟩
  · exact ⟨[], rfl, by simp [RDss]⟩
  · have hs := h5.same hw
    refine ⟨_, by simp only [Eng.srcC, H.slice, h2, if_pos h3, if_pos hs]; rfl, ?_⟩
    rcases hs with rfl | hs
    · exact h5
    · cases xs with
      | nil => simp only [RDss] at h5 ⊢; exact h5
      | cons x xs => simp at hs
end
end Go.Eng
