/-
  The value machine, part R: behind a call that had a pointer among its arguments.
-/
import Derived.Test.YtaicdpancmfhnaaVmK
set_option linter.unusedVariables false
set_option linter.unusedSimpArgs false
namespace Go.Eng
/-! ### Behind a call -/
def cK (k : Nat) : Nat := 1099511627776 + 4096 * k
def rmKs : List Nat → List (Nat × En) → List (Nat × En)
  | _, [] => []
  | us, (k, e) :: r => if us.elem k then rmKs us r else (k, e) :: rmKs us r
def retP (st : St) (d : Nat) (rs : List (Bool × List E)) (k0 v0 ty : Nat) (xs : List E0) (us : List Nat) : St :=
  ⟨st.nx + szR rs + (1 + xs.length), (k0, .pt v0 ty (imp0 (cK k0) (st.nx + szR rs + 1) xs).1) :: ((imp0 (cK k0) (st.nx + szR rs + 1) xs).2 ++ ((impR (keyC d) st.nx rs).2 ++ rmKs us st.es))⟩
theorem lk_rmKs (us : List Nat) (k : Nat) : ∀ l : List (Nat × En), lk k (rmKs us l) = if us.elem k then none else lk k l
  | [] => by simp [rmKs, lk]
  | (k', e) :: r => by
    simp only [rmKs]
    split
    · rename_i hk
      rw [lk_rmKs us k r, lk_cons]
      split
      · rfl
      · rename_i hn
        rw [if_neg (fun e => hn (by rw [e]; exact hk))]
    · rename_i hk
      rw [lk_cons, lk_cons, lk_rmKs us k r]
      split
      · rename_i e; subst e; rw [if_neg hk]
      · rfl
/-- The same cells, under other keys. -/
def TK (ρ : Nat → Nat) (d d' : D) : Prop :=
  match d, d' with
  | .ow k v, .ow k' v' => v' = v ∧ ρ k' = k
  | .pt k v o, .pt k' v' o' => v' = v ∧ o' = o ∧ ρ k' = k
  | d, d' => d' = d
theorem imp0_keys {ρ : Nat → Nat} {K K' : Nat} : ∀ {xs : List E0} {j v : Nat}, cl0 xs = true → (∀ i, i < j + xs.length → ρ (K' + i) = K + i) → All2 (TK ρ) (imp0 (K + j) v xs).1 (imp0 (K' + j) v xs).1 ∧ ∀ i, lk (K' + i) (imp0 (K' + j) v xs).2 = lk (K + i) (imp0 (K + j) v xs).2
  | [], j, v, _, _ => by simp [imp0, lk, All2]
  | .p d :: r, j, v, hc, hρ => by
    simp only [cl0, Bool.and_eq_true] at hc
    obtain ⟨h1, h2⟩ := imp0_keys (xs := r) (j := j + 1) (v := v + 1) hc.2 (fun i hi => hρ i (by simp only [List.length_cons]; omega))
    simp only [imp0, Nat.add_assoc] at h1 h2 ⊢
    refine ⟨⟨?_, h1⟩, h2⟩
    cases d <;> first | rfl | (simp [puD] at hc)
  | .o dp t xs :: r, j, v, hc, hρ => by
    obtain ⟨h1, h2⟩ := imp0_keys (xs := r) (j := j + 1) (v := v + 1) hc (fun i hi => hρ i (by simp only [List.length_cons]; omega))
    simp only [imp0, Nat.add_assoc] at h1 h2 ⊢
    refine ⟨⟨⟨rfl, hρ j (by simp only [List.length_cons]; omega)⟩, h1⟩, fun i => ?_⟩
    rw [lk_cons, lk_cons]
    by_cases hi : i = j
    · subst hi; rw [if_pos rfl, if_pos rfl]
    · rw [if_neg (by omega), if_neg (by omega)]; exact h2 i
theorem All2.refl {α : Type} {R : α → α → Prop} (h : ∀ x, R x x) : ∀ l : List α, All2 R l l
  | [] => trivial
  | x :: l => ⟨h x, All2.refl h l⟩
theorem no_sl_f0 : ∀ {xs : List E0} {k v k' w : Nat} {dp t ys}, lk k' (imp0 k v xs).2 ≠ some (.sl w false dp t ys)
  | [], k, v, k', w, dp, t, ys, hl => by simp [imp0, lk] at hl
  | .p d :: r, k, v, k', w, dp, t, ys, hl => by simp only [imp0] at hl; exact no_sl_f0 hl
  | .o dp' t' xs' :: r, k, v, k', w, dp, t, ys, hl => by
    simp only [imp0, lk_cons] at hl
    split at hl
    · simp at hl
    · exact no_sl_f0 hl
theorem no_sl_fE : ∀ {es : List E} {k v k' w : Nat} {dp t ys}, lk k' (impE k v es).2 ≠ some (.sl w false dp t ys)
  | [], k, v, k', w, dp, t, ys, hl => by simp [impE, lk] at hl
  | .e x :: r, k, v, k', w, dp, t, ys, hl => by
    rw [imp0_one] at hl
    rcases lk_or hl with hl | hl
    · exact no_sl_f0 hl
    · exact no_sl_fE hl
  | .pt ty xs' :: r, k, v, k', w, dp, t, ys, hl => by
    simp only [impE, lk_cons] at hl
    split at hl
    · simp at hl
    · rcases lk_or hl with hl | hl
      · exact no_sl_f0 hl
      · exact no_sl_fE hl
theorem no_sl_fR : ∀ {rs : List (Bool × List E)} {k v k' w : Nat} {dp t ys}, lk k' (impR k v rs).2 ≠ some (.sl w false dp t ys)
  | [], k, v, k', w, dp, t, ys, hl => by simp [impR, lk] at hl
  | (g, es) :: r, k, v, k', w, dp, t, ys, hl => by
    simp only [impR] at hl
    rcases lk_or hl with hl | hl
    · exact no_sl_fE hl
    · exact no_sl_fR hl
/-- Keys of cells lie between. -/
def RG (a b : Nat) : D → Prop
  | .ow k _ => a ≤ k ∧ k < b
  | .pt k _ _ => a ≤ k ∧ k < b
  | _ => True
theorem RG.mono {a b a' b' : Nat} {d : D} (h : RG a b d) (h1 : a' ≤ a) (h2 : b ≤ b') : RG a' b' d := by
  cases d <;> simp only [RG] at h ⊢ <;> omega
theorem AEn.mono {P Q : D → Prop} {e : En} (h : AEn P e) (hpq : ∀ d, P d → Q d) : AEn Q e := by
  cases e with
  | sl => trivial
  | pt v ty ds => exact fun d hd => hpq d (h d hd)
theorem puD_RG {a b : Nat} {d : D} (h : puD d = true) : RG a b d := by cases d <;> simp [puD] at h <;> trivial
theorem imp0_rng : ∀ {xs : List E0} {k v : Nat}, cl0 xs = true → (∀ d ∈ (imp0 k v xs).1, RG k (k + xs.length) d) ∧ ∀ k' e, lk k' (imp0 k v xs).2 = some e → ∃ w dp t ys, e = .sl w true dp t ys
  | [], k, v, _ => by simp [imp0, lk]
  | .p d :: r, k, v, h => by
    simp only [cl0, Bool.and_eq_true] at h
    obtain ⟨h1, h2⟩ := imp0_rng (xs := r) (k := k + 1) (v := v + 1) h.2
    simp only [imp0]
    refine ⟨fun d' hd => ?_, h2⟩
    rcases List.mem_cons.1 hd with rfl | hd
    · exact puD_RG h.1
    · exact (h1 d' hd).mono (by omega) (by simp only [List.length_cons]; omega)
  | .o dp t xs :: r, k, v, h => by
    obtain ⟨h1, h2⟩ := imp0_rng (xs := r) (k := k + 1) (v := v + 1) h
    simp only [imp0]
    refine ⟨fun d' hd => ?_, fun k' e hl => ?_⟩
    · rcases List.mem_cons.1 hd with rfl | hd
      · simp only [RG, List.length_cons]; omega
      · exact (h1 d' hd).mono (by omega) (by simp only [List.length_cons]; omega)
    · rw [lk_cons] at hl
      split at hl
      · simp at hl; exact ⟨_, _, _, _, hl.symm⟩
      · exact h2 k' e hl
theorem impE_rng : ∀ {es : List E} {k v : Nat}, clE es = true → (∀ d ∈ (impE k v es).1, RG k (k + szE es) d) ∧ ∀ k' e, lk k' (impE k v es).2 = some e → AEn (RG k (k + szE es)) e
  | [], k, v, _ => by simp [impE, lk]
  | .e x :: r, k, v, h => by
    simp only [clE, Bool.and_eq_true] at h
    obtain ⟨h1, h2⟩ := impE_rng (es := r) (k := k + 1) (v := v + 1) h.2
    obtain ⟨q1, q2⟩ := imp0_rng (xs := [x]) (k := k) (v := v) h.1
    rw [imp0_one]
    simp only [szE]
    refine ⟨fun d' hd => ?_, fun k' e hl => ?_⟩
    · rcases List.mem_append.1 hd with hd | hd
      · exact (q1 d' hd).mono (by omega) (by simp only [List.length_cons, List.length_nil]; omega)
      · exact (h1 d' hd).mono (by omega) (by omega)
    · rcases lk_or hl with hl | hl
      · obtain ⟨w, dp, t, ys, rfl⟩ := q2 k' e hl; trivial
      · exact (h2 k' e hl).mono fun d hd => hd.mono (by omega) (by omega)
  | .pt ty xs :: r, k, v, h => by
    simp only [clE, Bool.and_eq_true] at h
    obtain ⟨h1, h2⟩ := impE_rng (es := r) (k := k + (1 + xs.length)) (v := v + (1 + xs.length)) h.2
    obtain ⟨q1, q2⟩ := imp0_rng (xs := xs) (k := k + 1) (v := v + 1) h.1
    simp only [impE, szE]
    refine ⟨fun d' hd => ?_, fun k' e hl => ?_⟩
    · rcases List.mem_cons.1 hd with rfl | hd
      · simp only [RG]; omega
      · exact (h1 d' hd).mono (by omega) (by omega)
    · rw [lk_cons] at hl
      split at hl
      · simp at hl; subst hl; exact fun d hd => (q1 d hd).mono (by omega) (by omega)
      · rcases lk_or hl with hl | hl
        · obtain ⟨w, dp, t, ys, rfl⟩ := q2 k' e hl; trivial
        · exact (h2 k' e hl).mono fun d hd => hd.mono (by omega) (by omega)
theorem impR_rng : ∀ {rs : List (Bool × List E)} {k v : Nat}, clR rs = true → (∀ a ∈ (impR k v rs).1, ∀ d ∈ a.2, RG k (k + szR rs) d) ∧ ∀ k' e, lk k' (impR k v rs).2 = some e → AEn (RG k (k + szR rs)) e
  | [], k, v, _ => by simp [impR, lk]
  | (g, es) :: r, k, v, h => by
    simp only [clR, Bool.and_eq_true] at h
    obtain ⟨h1, h2⟩ := impR_rng (rs := r) (k := k + szE es) (v := v + szE es) h.2
    obtain ⟨q1, q2⟩ := impE_rng (es := es) (k := k) (v := v) h.1
    simp only [impR, szR]
    refine ⟨fun a ha d hd => ?_, fun k' e hl => ?_⟩
    · rcases List.mem_cons.1 ha with rfl | ha
      · exact (q1 d hd).mono (by omega) (by omega)
      · exact (h1 a ha d hd).mono (by omega) (by omega)
    · rcases lk_or hl with hl | hl
      · exact (q2 k' e hl).mono fun d hd => hd.mono (by omega) (by omega)
      · exact (h2 k' e hl).mono fun d hd => hd.mono (by omega) (by omega)
theorem TK_self {ρ : Nat → Nat} {a b : Nat} {d : D} (h : RG a b d) (hρ : ∀ k, a ≤ k → k < b → ρ k = k) : TK ρ d d := by
  cases d <;> simp only [RG] at h <;> simp only [TK] <;> first | trivial | exact ⟨trivial, hρ _ h.1 h.2⟩ | exact ⟨trivial, trivial, hρ _ h.1 h.2⟩
theorem TK_id {ρ : Nat → Nat} {d d' : D} (h : TK ρ d d') (h1 : ∀ k v, d ≠ .ow k v) (h2 : ∀ k v o, d ≠ .pt k v o) : d' = d := by
  cases d <;> first | exact absurd rfl (h1 _ _) | exact absurd rfl (h2 _ _ _) | (cases d' <;> exact h)
theorem clR_snoc : ∀ {rs : List (Bool × List E)} {g : Bool} {es : List E}, clR (rs ++ [(g, es)]) = true → clR rs = true ∧ clE es = true
  | [], g, es, h => by simp only [List.nil_append, clR, Bool.and_true] at h; exact ⟨rfl, h⟩
  | (g', e') :: r, g, es, h => by
    simp only [List.cons_append, clR, Bool.and_eq_true] at h ⊢
    exact ⟨⟨h.1, (clR_snoc h.2).1⟩, (clR_snoc h.2).2⟩
section
variable {Γ : Cx} {γ : Gh} {f : UT} {st : St} {mf : Fr} {h h' : H}
theorem RelG.ret1 (hr : RelG Γ γ f st mf h) {ar : Nat → Prop} {bs us : List Nat} {rs : List (Bool × List E)} {css : List (Bool × List C)} {c0 : C} {k0 v0 ty0 ty : Nat} {ds0 : List D} {xs : List E0} (d : Nat)
    (hk : lk k0 st.es = some (.pt v0 ty0 ds0)) (hku : k0 ∈ us) (hc0 : ∃ id, γ.c k0 = .ptr id 0 ∧ c0 = .ptr id 0)
    (hbs : ∀ i, i ∈ bs ↔ ∃ k ∈ us, ∃ e, lk k st.es = some e ∧ i ∈ γ.w k) (har : ∀ i, ar i → PR Γ γ st i)
    (hb : Bun ⟨h, ar, bs, []⟩ h' (keyC d) st.nx (rs ++ [(true, [.pt ty xs])]) (css ++ [(true, [c0])]))
    (hcl : clR (rs ++ [(true, [.pt ty xs])]) = true)
    (n1 : k0 < keyC d ∨ keyC d + szR rs ≤ k0) (n2 : k0 < 1099511627776) (n3 : keyC d + szR rs ≤ 1099511627776) :
    ∃ γ', RelG Γ γ' (retF f st d rs) (retP st d rs k0 v0 ty xs us) (setD mf d (valR css)) h' := by
  obtain ⟨γb, hB, hc⟩ := hb
  rw [impR_snoc, szR_snoc] at hB hc
  obtain ⟨hcr, hcp⟩ := All2.snoc hc
  obtain ⟨hcl1, hcl2⟩ := clR_snoc hcl
  have hcl0 : cl0 xs = true := by simpa only [clE, Bool.and_true] using hcl2
  have hn0 : (imp0 (cK k0) (st.nx + szR rs + 1) xs).1.length = xs.length := by
    have : ∀ (xs : List E0) (k v : Nat), (imp0 k v xs).1.length = xs.length := by
      intro xs
      induction xs with
      | nil => intro k v; rfl
      | cons x r ih => intro k v; cases x <;> simp [imp0, ih]
    exact this _ _ _
  simp only [impE, szE, List.append_nil, Nat.add_zero] at hB hc hcr hcp
  generalize hkp : keyC d + szR rs = kp at *
  generalize hvp : st.nx + szR rs = vp at *
  have hvx : st.nx + (szR rs + (1 + xs.length)) = vp + (1 + xs.length) := by omega
  rw [hvx] at hB hcr hcp
  have hst' : retP st d rs k0 v0 ty xs us = ⟨vp + (1 + xs.length), (k0, .pt v0 ty (imp0 (cK k0) (vp + 1) xs).1) :: ((imp0 (cK k0) (vp + 1) xs).2 ++ ((impR (keyC d) st.nx rs).2 ++ rmKs us st.es))⟩ := by
    simp only [retP, hvp]
  rw [hst']
  have hck : 1099511627776 ≤ cK k0 := Nat.le_add_right _ _
  have hrn := impR_rng (k := keyC d) (v := st.nx) hcl1
  rw [hkp] at hrn
  have hLR : ∀ {k e}, lk k (impR (keyC d) st.nx rs).2 = some e → st.nx ≤ e.ver ∧ keyC d ≤ k ∧ k < kp := fun hl => by rw [← hkp]; exact impR_ver hl
  have hL0 : ∀ {k e}, lk k (imp0 (cK k0) (vp + 1) xs).2 = some e → vp + 1 ≤ e.ver ∧ cK k0 ≤ k ∧ k < cK k0 + xs.length := fun hl => imp0_ver hl
  have hL1 : ∀ {k e}, lk k (imp0 (kp + 1) (vp + 1) xs).2 = some e → vp + 1 ≤ e.ver ∧ kp + 1 ≤ k ∧ k < kp + 1 + xs.length := fun hl => imp0_ver hl
  let LR := (impR (keyC d) st.nx rs).2
  let L0 := (imp0 (cK k0) (vp + 1) xs).2
  let L1 := (imp0 (kp + 1) (vp + 1) xs).2
  let D0 := (imp0 (cK k0) (vp + 1) xs).1
  let D1 := (imp0 (kp + 1) (vp + 1) xs).1
  let sb : St := ⟨vp + (1 + xs.length), LR ++ (kp, .pt vp ty D1) :: L1⟩
  let s' : St := ⟨vp + (1 + xs.length), (k0, .pt v0 ty D0) :: (L0 ++ (LR ++ rmKs us st.es))⟩
  let ρ : Nat → Nat := fun k => if k = k0 then kp else if cK k0 ≤ k ∧ k < cK k0 + xs.length then k - cK k0 + (kp + 1) else k
  let nw : Nat → Bool := fun k => decide (k = k0) || (lk k L0).isSome || (lk k LR).isSome
  let γ' : Gh := ⟨fun k => if nw k then γb.c (ρ k) else γ.c k, fun k => if nw k then γb.w (ρ k) else γ.w k, fun k => if nw k then γb.u (ρ k) else γ.u k⟩
  have hρ0 : ρ k0 = kp := if_pos rfl
  have hρL : ∀ i, i < xs.length → ρ (cK k0 + i) = kp + 1 + i := fun i hi => by
    show (if cK k0 + i = k0 then kp else if cK k0 ≤ cK k0 + i ∧ cK k0 + i < cK k0 + xs.length then cK k0 + i - cK k0 + (kp + 1) else cK k0 + i) = _
    rw [if_neg (by omega), if_pos (by omega)]
    omega
  have hρR : ∀ k, k ≠ k0 → k < kp → ρ k = k := fun k h1 h2 => by
    show (if k = k0 then kp else if cK k0 ≤ k ∧ k < cK k0 + xs.length then k - cK k0 + (kp + 1) else k) = k
    rw [if_neg h1, if_neg (by omega)]
  obtain ⟨hT0, hK0⟩ := imp0_keys (ρ := ρ) (K := kp + 1) (K' := cK k0) (xs := xs) (j := 0) (v := vp + 1) hcl0 (fun i hi => hρL i (by omega))
  simp only [Nat.add_zero] at hT0 hK0
  have sb0 : lk kp sb.es = some (.pt vp ty D1) := by
    show lk kp (LR ++ (kp, .pt vp ty D1) :: L1) = _
    rw [lk_append]
    cases hx : lk kp LR with
    | some e => have := hLR hx; omega
    | none => rw [lk_cons, if_pos rfl]
  have sbL : ∀ {i e}, lk (cK k0 + i) L0 = some e → lk (kp + 1 + i) sb.es = some e := fun {i e} hl => by
    have := hL0 hl
    show lk (kp + 1 + i) (LR ++ (kp, .pt vp ty D1) :: L1) = _
    rw [lk_append]
    cases hx : lk (kp + 1 + i) LR with
    | some e => have := hLR hx; omega
    | none =>
      simp only [lk_cons]
      rw [if_neg (by omega)]
      exact (hK0 i).symm.trans hl
  have sbR : ∀ {k e}, lk k LR = some e → lk k sb.es = some e := fun {k e} hl => by
    show lk k (LR ++ (kp, .pt vp ty D1) :: L1) = _
    rw [lk_append, hl]
  have nw0 : nw k0 = true := by simp [nw]
  have nwL : ∀ {k e}, lk k L0 = some e → nw k = true := fun hl => by simp [nw, hl]
  have nwR : ∀ {k e}, lk k LR = some e → nw k = true := fun hl => by simp [nw, hl]
  -- what is new
  have hrange : ∀ k, nw k = true → (k = k0 ∧ ρ k = kp) ∨ (k ≠ k0 ∧ ∃ i e, i < xs.length ∧ k = cK k0 + i ∧ ρ k = kp + 1 + i ∧ lk k L0 = some e) ∨ (k ≠ k0 ∧ lk k L0 = none ∧ (∃ e, lk k LR = some e) ∧ keyC d ≤ k ∧ k < kp ∧ ρ k = k) := fun k hn => by
    by_cases h0 : k = k0
    · exact .inl ⟨h0, by rw [h0]; exact hρ0⟩
    · cases hx : lk k L0 with
      | some e =>
        have := hL0 hx
        refine .inr (.inl ⟨h0, k - cK k0, e, by omega, by omega, ?_, rfl⟩)
        have := hρL (k - cK k0) (by omega)
        rw [show cK k0 + (k - cK k0) = k by omega] at this
        exact this
      | none =>
        cases hy : lk k LR with
        | some e =>
          have := hLR hy
          exact .inr (.inr ⟨h0, rfl, ⟨e, rfl⟩, by omega, by omega, hρR k h0 (by omega)⟩)
        | none => simp [nw, hx, hy, h0] at hn
  have hcase : ∀ k e, lk k s'.es = some e → (nw k = true ∧ ∃ e', lk (ρ k) sb.es = some e' ∧ ((k ≠ k0 ∧ e' = e ∧ st.nx ≤ e.ver) ∨ (k = k0 ∧ e = .pt v0 ty D0 ∧ e' = .pt vp ty D1))) ∨ (nw k = false ∧ k ∉ us ∧ lk k st.es = some e) := fun k e hl => by
    have hl : lk k ((k0, .pt v0 ty D0) :: (L0 ++ (LR ++ rmKs us st.es))) = some e := hl
    rw [lk_cons] at hl
    split at hl
    · rename_i h0
      simp only [Option.some.injEq] at hl
      refine .inl ⟨by rw [h0]; exact nw0, .pt vp ty D1, by rw [h0, hρ0]; exact sb0, .inr ⟨h0, hl.symm, rfl⟩⟩
    · rename_i h0
      rw [lk_append] at hl
      cases hx : lk k L0 with
      | some e1 =>
        rw [hx] at hl
        simp only [Option.some.injEq] at hl
        subst hl
        have h2 := hL0 hx
        refine .inl ⟨nwL hx, e1, ?_, .inl ⟨h0, rfl, by omega⟩⟩
        obtain ⟨i, hi, rfl⟩ : ∃ i, i < xs.length ∧ k = cK k0 + i := ⟨k - cK k0, by omega, by omega⟩
        rw [hρL i hi]
        exact sbL hx
      | none =>
        rw [hx] at hl
        simp only at hl
        rw [lk_append] at hl
        cases hy : lk k LR with
        | some e1 =>
          rw [hy] at hl
          simp only [Option.some.injEq] at hl
          subst hl
          have h2 := hLR hy
          exact .inl ⟨nwR hy, e1, by rw [hρR k h0 (by omega)]; exact sbR hy, .inl ⟨h0, rfl, by omega⟩⟩
        | none =>
          rw [hy] at hl
          simp only at hl
          rw [lk_rmKs] at hl
          split at hl
          · simp at hl
          · rename_i hu
            exact .inr ⟨by simp [nw, h0, hx, hy], by simpa using hu, hl⟩
  have hold : ∀ k, nw k = false → k ∉ us → lk k s'.es = lk k st.es := fun k hn hu => by
    simp only [nw, Bool.or_eq_false_iff, decide_eq_false_iff_not, Option.isSome_eq_false_iff, Option.isNone_iff_eq_none] at hn
    show lk k ((k0, .pt v0 ty D0) :: (L0 ++ (LR ++ rmKs us st.es))) = _
    rw [lk_cons, if_neg hn.1.1, lk_append, hn.1.2]
    simp only
    rw [lk_append, hn.2]
    simp only
    rw [lk_rmKs, if_neg (by simpa using hu)]
  have gN : ∀ k, nw k = true → γ'.c k = γb.c (ρ k) ∧ γ'.w k = γb.w (ρ k) ∧ γ'.u k = γb.u (ρ k) := fun k hn => by simp [γ', hn]
  have gO : ∀ k, nw k = false → γ'.c k = γ.c k ∧ γ'.w k = γ.w k ∧ γ'.u k = γ.u k := fun k hn => by simp [γ', hn]
  have hinj : ∀ k1 k2, nw k1 = true → nw k2 = true → ρ k1 = ρ k2 → k1 = k2 := fun k1 k2 h1 h2 he => by
    rcases hrange k1 h1 with ⟨a1, a2⟩ | ⟨_, i, _, a1, a2, a3, _⟩ | ⟨_, _, _, a1, a2, a3⟩ <;> rcases hrange k2 h2 with ⟨b1, b2⟩ | ⟨_, j, _, b1, b2, b3, _⟩ | ⟨_, _, _, b1, b2, b3⟩ <;> omega
  have hge : ∀ k e, lk k sb.es = some e → ∀ i ∈ γb.w k ++ γb.u k, i ∈ bs ∨ h.length ≤ i := fun k e hl i hi => (hB.nd k e hl).2 i hi
  have hbm : ∀ i, i ∈ bs → Mine Γ i ∧ i < h.length := fun i hi => by
    obtain ⟨k, _, e, hl, hw⟩ := (hbs i).1 hi
    exact ⟨(hr.nd k e hl).2 i (by simp [hw]), hr.blt hl i (by simp [hw])⟩
  have hbo : ∀ i, i ∈ bs → ∀ k e, k ∉ us → lk k st.es = some e → i ∉ γ.w k ++ γ.u k := fun i hi k e hu hl => by
    obtain ⟨k1, hk1, e1, hl1, hw⟩ := (hbs i).1 hi
    exact hr.dj k1 k e1 e (fun e => hu (e ▸ hk1)) hl1 hl i (by simp [hw])
  have hbp : ∀ i, i ∈ bs → ¬ PR Γ γ st i := fun i hi hp => by
    obtain ⟨k1, hk1, e1, hl1, hw⟩ := (hbs i).1 hi
    exact hp.2 k1 e1 hl1 hw
  have hnx : ∀ k, nw k = true → ∃ e, lk (ρ k) sb.es = some e := fun k hn => by
    rcases hrange k hn with ⟨a1, a2⟩ | ⟨_, i, e, a1, rfl, a3, a4⟩ | ⟨_, _, ⟨e, a0⟩, a1, a2, a3⟩
    · exact ⟨_, by rw [a2]; exact sb0⟩
    · exact ⟨e, by rw [a3]; exact sbL a4⟩
    · exact ⟨e, by rw [a3]; exact sbR a0⟩
  have hPR : ∀ i, PR ⟨h, ar, bs, []⟩ γb sb i → PR Γ γ' s' i := fun i hp => by
    refine ⟨?_, fun k e hl => ?_⟩
    · rcases hp.1 with h1 | h1 | h1
      · exact (har i h1).1
      · exact .inr (.inl (Nat.le_trans hr.len h1))
      · rcases (hbm i h1).1 with h2 | h2
        · exact .inr (.inr h2)
        · exact .inr (.inl h2)
    · rcases hcase k e hl with ⟨hn, e', he', _⟩ | ⟨hn, hu, hl'⟩
      · rw [(gN k hn).2.1]; exact hp.2 _ e' he'
      · rw [(gO k hn).2.1]
        rcases hp.1 with h1 | h1 | h1
        · exact (har i h1).2 k e hl'
        · exact fun hw => by have := hr.blt hl' i (by simp [hw]); have : h.length ≤ i := h1; omega
        · exact fun hw => hbo i h1 k e hu hl' (by simp [hw])
  have hDC : ∀ {c : C} {d0 d1 : D}, DC ⟨h, ar, bs, []⟩ γb sb h' c d0 → TK ρ d0 d1 → VD st.nx d0 → DC Γ γ' s' h' c d1 := by
    intro c d0 d1 hd ht hvd
    cases d0
    case ow k v =>
      cases d1 <;> simp only [TK, reduceCtorEq] at ht
      case ow k' v' =>
        obtain ⟨rfl, hk'⟩ := ht
        refine ⟨hd.1, fun o dp t ys hl => ?_⟩
        rcases hcase k' _ hl with ⟨hn, e', he', h1⟩ | ⟨hn, hu, hl'⟩
        · rcases h1 with ⟨_, rfl, _⟩ | ⟨_, h2, _⟩
          · rw [(gN k' hn).1, hk']
            rw [hk'] at he'
            exact hd.2 o dp t ys he'
          · cases h2
        · have h1 := (hr.en k' _ hl').ver
          have h2 : st.nx ≤ v' := hvd
          simp only [En.ver] at h1
          omega
    case pt k v o =>
      cases d1 <;> simp only [TK, reduceCtorEq] at ht
      case pt k' v' o' =>
        obtain ⟨rfl, rfl, hk'⟩ := ht
        refine ⟨hd.1, fun ty ds hl => ?_⟩
        have h2 : st.nx ≤ v' := hvd
        rcases hcase k' _ hl with ⟨hn, e', he', h1⟩ | ⟨hn, hu, hl'⟩
        · rcases h1 with ⟨_, rfl, _⟩ | ⟨rfl, h3, _⟩
          · rw [(gN k' hn).1, hk']
            rw [hk'] at he'
            exact hd.2 ty ds he'
          · simp only [En.pt.injEq] at h3
            have h1 := (hr.en k' _ hk).ver
            simp only [En.ver] at h1
            omega
        · have h1 := (hr.en k' _ hl').ver
          simp only [En.ver] at h1
          omega
    case pe x o => exact hvd.elim
    case px k v j o => exact hvd.elim
    case sa k v o n e => exact hvd.elim
    all_goals
      obtain rfl := TK_id ht (fun _ _ e => by cases e) (fun _ _ _ e => by cases e)
      obtain ⟨S, h1, h2⟩ := hd
      exact ⟨S, h1, fun i hi => hPR i (h2 i hi)⟩
  have hptr : γ'.c k0 = γ.c k0 := by
    obtain ⟨id, e1, e2⟩ := hc0
    rw [(gN k0 nw0).1, hρ0, e1]
    have hq := hcp.2.1
    obtain ⟨id', e3, e4⟩ := hq.2 ty D1 sb0
    rw [e3, ← e4, e2]
  obtain ⟨v1, v2⟩ := impR_VD hcl1 (keyC d) st.nx
  have v3 : ∀ d0 ∈ D1, VD st.nx d0 := fun d0 hd0 => (imp0_all (P := VD st.nx) (v0 := st.nx) (fun _ _ h => h) (xs := xs) (k := kp + 1) (v := vp + 1) (by omega) (cl0_VD hcl0)).1 d0 hd0
  have hmain : RelG Γ γ' f s' mf h' ∧ Mo Γ γ st h γ' s' h' := by
    refine hr.upds (N := fun k => nw k = true ∨ k ∈ us) (γ' := γ') (st' := s') (h' := h') (by show st.nx ≤ vp + (1 + xs.length); omega) (fun k hn => ?_) (fun k e hn hl => ?_) (fun i hi hp => ?_) (fun k e hn hl i hi hlt => ?_) (fun k e hn hl i hi => ?_)
      (fun k e hn hl => ?_) (fun k e k' e' hn hne hl hl' i hi => ?_) hB.len (fun i hi hn => ?_) (fun hm k e hn hl => ?_) (fun i cs hi => ?_)
    · simp only [not_or, Bool.not_eq_true] at hn
      exact ⟨hold k hn.1 hn.2, gO k hn.1⟩
    · rcases hcase k e hl with ⟨hn, e', he', h1⟩ | ⟨h1, hu, _⟩
      · rcases h1 with ⟨_, rfl, h2⟩ | ⟨rfl, rfl, _⟩
        · exact .inl h2
        · exact .inr ⟨hptr, ty0, ds0, hk⟩
      · rcases hn with hn | hn
        · rw [h1] at hn; cases hn
        · exact absurd hn hu
    · unfold H.cells
      rw [hB.base i hi (fun hb => hbp i hb hp)]
    · rcases hcase k e hl with ⟨hn, e', he', h1⟩ | ⟨h1, hu, _⟩
      · rw [(gN k hn).2.1] at hi
        rcases hge _ e' he' i (by simp [hi]) with h2 | h2
        · exact hbp i h2
        · omega
      · rcases hn with hn | hn
        · rw [h1] at hn; cases hn
        · exact absurd hn hu
    · simp only [not_or, Bool.not_eq_true] at hn
      exact hB.base i (hr.blt hl i (by simp [hi])) (fun hb => hbo i hb k e hn.2 hl (by simp [hi]))
    · rcases hcase k e hl with ⟨hn, e', he', h1⟩ | ⟨h1, hu, _⟩
      · rw [(gN k hn).2.1, (gN k hn).2.2]
        refine ⟨(hB.nd _ e' he').1, fun i hi => ?_⟩
        rcases hge _ e' he' i hi with h2 | h2
        · exact (hbm i h2).1
        · exact .inr (Nat.le_trans hr.len h2)
      · rcases hn with hn | hn
        · rw [h1] at hn; cases hn
        · exact absurd hn hu
    · rcases hcase k e hl with ⟨hn1, e1, he1, h1⟩ | ⟨h1, hu, _⟩
      · rw [(gN k hn1).2.1, (gN k hn1).2.2] at hi
        rcases hcase k' e' hl' with ⟨hn2, e2, he2, _⟩ | ⟨hn2, hu2, hl2⟩
        · rw [(gN k' hn2).2.1, (gN k' hn2).2.2]
          exact hB.dj _ _ e1 e2 (fun e => hne (hinj _ _ hn1 hn2 e).symm) he1 he2 i hi
        · rw [(gO k' hn2).2.1, (gO k' hn2).2.2]
          rcases hge _ e1 he1 i hi with h2 | h2
          · exact hbo i h2 k' e' hu2 hl2
          · exact fun h3 => by have := hr.blt hl2 i h3; omega
      · rcases hn with hn | hn
        · rw [h1] at hn; cases hn
        · exact absurd hn hu
    · exact hB.base i (Nat.lt_of_lt_of_le hi hr.len) (fun hb => by
        rcases (hbm i hb).1 with h1 | h1
        · exact hn h1
        · omega)
    · rcases hcase k e hl with ⟨hn1, e1, he1, h1⟩ | ⟨h1, hu, _⟩
      · obtain ⟨g1, g2, g3⟩ := gN k hn1
        have he := hB.en _ _ he1
        rcases h1 with ⟨hk1, rfl, _⟩ | ⟨rfl, rfl, rfl⟩
        · match e1, he, he1 with
          | .sl v true dp t ys, he, he1 =>
            obtain ⟨hv, he⟩ := he
            refine ⟨hv, ?_⟩
            rw [g1, g2, g3]
            rcases he with he | ⟨id, ty', ez, bs', S, k1, k2, k3, k4, k5, k6, k7, k8⟩
            · exact .inl he
            · exact .inr ⟨id, ty', ez, bs', S, k1, k2, k3, k4, k5, k6, fun i hi => hPR i (k7 i hi), k8⟩
          | .sl v false dp t ys, he, he1 =>
            exfalso
            have he1 : lk (ρ k) (LR ++ (kp, .pt vp ty D1) :: L1) = some (.sl v false dp t ys) := he1
            rcases lk_or he1 with h2 | h2
            · exact no_sl_fR h2
            · rw [lk_cons] at h2
              split at h2
              · simp at h2
              · exact no_sl_f0 h2
          | .pt v ty' ds, he, he1 =>
            obtain ⟨hv, k1, id, bs', k2, k3, k4, k5⟩ := he
            refine ⟨hv, by rw [g3, k1], id, bs', by rw [g1, k2], by rw [g2, k3], k4, ?_⟩
            rcases hrange k hn1 with ⟨a1, _⟩ | ⟨_, i, e2, _, rfl, _, a4⟩ | ⟨_, _, ⟨e2, a0⟩, a1, a2, a3⟩
            · exact absurd a1 hk1
            · exfalso
              have := (imp0_rng (xs := xs) (k := cK k0) (v := vp + 1) hcl0).2 _ e2 a4
              have h3 := sbL a4
              rw [hρL i ‹_›] at he1
              rw [h3] at he1
              obtain ⟨w, dp, t, ys, rfl⟩ := this
              simp at he1
            · rw [a3, sbR a0] at he1
              simp only [Option.some.injEq] at he1
              subst he1
              have h3 := hrn.2 k _ a0
              have h4 := v2 k _ a0
              exact All2.mem (fun c d0 hd0 hd => hDC hd (TK_self (h3 d0 hd0) (fun k2 q1 q2 => hρR k2 (fun e => by omega) q2)) (h4 d0 hd0)) k5
        · obtain ⟨hv, k1, id, bs', k2, k3, k4, k5⟩ := he
          refine ⟨?_, by rw [g3]; exact k1, id, bs', by rw [g1]; exact k2, by rw [g2]; exact k3, k4, ?_⟩
          · have h1 := (hr.en k _ hk).ver
            simp only [En.ver] at h1
            show v0 < vp + (1 + xs.length)
            omega
          · have k5' := All2.mem (T := fun c d0 => DC ⟨h, ar, bs, []⟩ γb sb h' c d0 ∧ VD st.nx d0) (fun c d0 hd0 hd => ⟨hd, v3 d0 hd0⟩) k5
            exact All2.comp (T := DC Γ γ' s' h') (fun c d0 d1 hd ht => hDC hd.1 ht hd.2) k5' hT0
      · rcases hn with hn | hn
        · rw [h1] at hn; cases hn
        · exact absurd hn hu
    · by_cases hb : i ∈ bs
      · exact hB.own i cs (.inl hb)
      · rcases Nat.lt_or_ge i h.length with hlt | hlt
        · rw [hB.base i hlt hb]; exact hr.own i cs hi
        · exact hB.own i cs (.inr hlt)
  obtain ⟨r1, r2⟩ := hmain
  refine ⟨γ', ?_⟩
  refine UR.setD r1 (valR_UR ?_)
  refine All2.mem (fun a b hb ⟨k1, k2⟩ => ⟨k1, ?_⟩) hcr
  exact All2.mem (fun c d0 hd0 hd => hDC hd (TK_self (hrn.1 b hb d0 hd0) (fun k2 q1 q2 => hρR k2 (fun e => by omega) q2)) (v1 b hb d0 hd0)) k2
end
end Go.Eng
