import Derived.Test.YtlhapfligolmcaaGreatGc
import Derived.Test.YtlhapfligolmcaaGreatGd
set_option linter.unusedVariables false
set_option linter.unusedSimpArgs false
namespace Go.Eng
def cK (k : Nat) : Nat := 1099511627776 + 4096 * k
def rmKs : List Nat → List (Nat × En) → List (Nat × En)
  | _, [] => []
  | us, (k, e) :: r => if us.elem k then rmKs us r else (k, e) :: rmKs us r
def retP (st : St) (d : Nat) (rs : List (Bool × List E)) (k0 v0 ty : Nat) (xs : List E0) (us : List Nat) : St :=
  ⟨st.nx + szR rs + (1 + xs.length), (k0, .pt v0 ty (imp0 (cK k0) (st.nx + szR rs + 1) xs).1) :: ((imp0 (cK k0) (st.nx + szR rs + 1) xs).2 ++ ((impR (keyC d) st.nx rs).2 ++ rmKs us st.es))⟩
theorem lk_rmKs (us : List Nat) (k : Nat) : ∀ l : List (Nat × En), lk k (rmKs us l) = if us.elem k then none else lk k l
  | [] => by simp [rmKs, lk]
  | (k', e) :: r => by
    simp only [rmKs]
    split
    · rename_i hk
      rw [lk_rmKs us k r, lk_cons]
      split
      · rfl
      · rename_i hn
        rw [if_neg (fun e => hn (by rw [e]; exact hk))]
    · rename_i hk
      rw [lk_cons, lk_cons, lk_rmKs us k r]
      split
      · rename_i e; subst e; rw [if_neg hk]
      · rfl
def TK (ρ : Nat → Nat) (d d' : D) : Prop :=
  match d, d' with
  | .ow k v, .ow k' v' => v' = v ∧ ρ k' = k
  | .pt k v o, .pt k' v' o' => v' = v ∧ o' = o ∧ ρ k' = k
  | d, d' => d' = d
theorem imp0_keys {ρ : Nat → Nat} {K K' : Nat} : ∀ {xs : List E0} {j v : Nat}, cl0 xs = true → (∀ i, i < j + xs.length → ρ (K' + i) = K + i) → All2 (TK ρ) (imp0 (K + j) v xs).1 (imp0 (K' + j) v xs).1 ∧ ∀ i, lk (K' + i) (imp0 (K' + j) v xs).2 = lk (K + i) (imp0 (K + j) v xs).2
  | [], j, v, _, _ => by simp [imp0, lk, All2]
  | .p d :: r, j, v, hc, hρ => by
    simp only [cl0, Bool.and_eq_true] at hc
    obtain ⟨h1, h2⟩ := imp0_keys (xs := r) (j := j + 1) (v := v + 1) hc.2 (fun i hi => hρ i (by simp only [List.length_cons]; omega))
    simp only [imp0, Nat.add_assoc] at h1 h2 ⊢
    refine ⟨⟨?_, h1⟩, h2⟩
    cases d <;> first | rfl | (simp [puD] at hc)
  | .o dp t xs :: r, j, v, hc, hρ => by
    obtain ⟨h1, h2⟩ := imp0_keys (xs := r) (j := j + 1) (v := v + 1) hc (fun i hi => hρ i (by simp only [List.length_cons]; omega))
    simp only [imp0, Nat.add_assoc] at h1 h2 ⊢
    refine ⟨⟨⟨rfl, hρ j (by simp only [List.length_cons]; omega)⟩, h1⟩, fun i => ?_⟩
    rw [lk_cons, lk_cons]
    by_cases hi : i = j
    · subst hi; rw [if_pos rfl, if_pos rfl]
    · rw [if_neg (by omega), if_neg (by omega)]; exact h2 i
theorem All2.refl {α : Type} {R : α → α → Prop} (h : ∀ x, R x x) : ∀ l : List α, All2 R l l
  | [] => trivial
  | x :: l => ⟨h x, All2.refl h l⟩
theorem no_sl_f0 : ∀ {xs : List E0} {k v k' w : Nat} {dp t ys}, lk k' (imp0 k v xs).2 ≠ some (.sl w false dp t ys)
  | [], k, v, k', w, dp, t, ys, hl => by simp [imp0, lk] at hl
  | .p d :: r, k, v, k', w, dp, t, ys, hl => by simp only [imp0] at hl; exact no_sl_f0 hl
  | .o dp' t' xs' :: r, k, v, k', w, dp, t, ys, hl => by
    simp only [imp0, lk_cons] at hl
    split at hl
    · simp at hl
    · exact no_sl_f0 hl
theorem no_sl_fE : ∀ {es : List E} {k v k' w : Nat} {dp t ys}, lk k' (impE k v es).2 ≠ some (.sl w false dp t ys)
  | [], k, v, k', w, dp, t, ys, hl => by simp [impE, lk] at hl
  | .e x :: r, k, v, k', w, dp, t, ys, hl => by
    rw [imp0_one] at hl
    rcases lk_or hl with hl | hl
    · exact no_sl_f0 hl
    · exact no_sl_fE hl
  | .pt ty xs' :: r, k, v, k', w, dp, t, ys, hl => by
    simp only [impE, lk_cons] at hl
    split at hl
    · simp at hl
    · rcases lk_or hl with hl | hl
      · exact no_sl_f0 hl
      · exact no_sl_fE hl
theorem no_sl_fR : ∀ {rs : List (Bool × List E)} {k v k' w : Nat} {dp t ys}, lk k' (impR k v rs).2 ≠ some (.sl w false dp t ys)
  | [], k, v, k', w, dp, t, ys, hl => by simp [impR, lk] at hl
  | (g, es) :: r, k, v, k', w, dp, t, ys, hl => by
    simp only [impR] at hl
    rcases lk_or hl with hl | hl
    · exact no_sl_fE hl
    · exact no_sl_fR hl
def RG (a b : Nat) : D → Prop
  | .ow k _ => a ≤ k ∧ k < b
  | .pt k _ _ => a ≤ k ∧ k < b
  | _ => True
theorem RG.mono {a b a' b' : Nat} {d : D} (h : RG a b d) (h1 : a' ≤ a) (h2 : b ≤ b') : RG a' b' d := by
  cases d <;> simp only [RG] at h ⊢ <;> omega
theorem AEn.mono {P Q : D → Prop} {e : En} (h : AEn P e) (hpq : ∀ d, P d → Q d) : AEn Q e := by
  cases e with
  | sl => trivial
  | pt v ty ds => exact fun d hd => hpq d (h d hd)
theorem puD_RG {a b : Nat} {d : D} (h : puD d = true) : RG a b d := by cases d <;> simp [puD] at h <;> trivial
theorem imp0_rng : ∀ {xs : List E0} {k v : Nat}, cl0 xs = true → (∀ d ∈ (imp0 k v xs).1, RG k (k + xs.length) d) ∧ ∀ k' e, lk k' (imp0 k v xs).2 = some e → ∃ w dp t ys, e = .sl w true dp t ys
  | [], k, v, _ => by simp [imp0, lk]
  | .p d :: r, k, v, h => by
    simp only [cl0, Bool.and_eq_true] at h
    obtain ⟨h1, h2⟩ := imp0_rng (xs := r) (k := k + 1) (v := v + 1) h.2
    simp only [imp0]
    refine ⟨fun d' hd => ?_, h2⟩
    rcases List.mem_cons.1 hd with rfl | hd
    · exact puD_RG h.1
    · exact (h1 d' hd).mono (by omega) (by simp only [List.length_cons]; omega)
  | .o dp t xs :: r, k, v, h => by
    obtain ⟨h1, h2⟩ := imp0_rng (xs := r) (k := k + 1) (v := v + 1) h
    simp only [imp0]
    refine ⟨fun d' hd => ?_, fun k' e hl => ?_⟩
    · rcases List.mem_cons.1 hd with rfl | hd
      · simp only [RG, List.length_cons]; omega
      · exact (h1 d' hd).mono (by omega) (by simp only [List.length_cons]; omega)
    · rw [lk_cons] at hl
      split at hl
      · simp at hl; exact ⟨_, _, _, _, hl.symm⟩
      · exact h2 k' e hl
theorem impE_rng : ∀ {es : List E} {k v : Nat}, clE es = true → (∀ d ∈ (impE k v es).1, RG k (k + szE es) d) ∧ ∀ k' e, lk k' (impE k v es).2 = some e → AEn (RG k (k + szE es)) e
  | [], k, v, _ => by simp [impE, lk]
  | .e x :: r, k, v, h => by
    simp only [clE, Bool.and_eq_true] at h
    obtain ⟨h1, h2⟩ := impE_rng (es := r) (k := k + 1) (v := v + 1) h.2
    obtain ⟨q1, q2⟩ := imp0_rng (xs := [x]) (k := k) (v := v) h.1
    rw [imp0_one]
    simp only [szE]
    refine ⟨fun d' hd => ?_, fun k' e hl => ?_⟩
    · rcases List.mem_append.1 hd with hd | hd
      · exact (q1 d' hd).mono (by omega) (by simp only [List.length_cons, List.length_nil]; omega)
      · exact (h1 d' hd).mono (by omega) (by omega)
    · rcases lk_or hl with hl | hl
      · obtain ⟨w, dp, t, ys, rfl⟩ := q2 k' e hl; trivial
      · exact (h2 k' e hl).mono fun d hd => hd.mono (by omega) (by omega)
  | .pt ty xs :: r, k, v, h => by
    simp only [clE, Bool.and_eq_true] at h
    obtain ⟨h1, h2⟩ := impE_rng (es := r) (k := k + (1 + xs.length)) (v := v + (1 + xs.length)) h.2
    obtain ⟨q1, q2⟩ := imp0_rng (xs := xs) (k := k + 1) (v := v + 1) h.1
    simp only [impE, szE]
    refine ⟨fun d' hd => ?_, fun k' e hl => ?_⟩
    · rcases List.mem_cons.1 hd with rfl | hd
      · simp only [RG]; omega
      · exact (h1 d' hd).mono (by omega) (by omega)
    · rw [lk_cons] at hl
      split at hl
      · simp at hl; subst hl; exact fun d hd => (q1 d hd).mono (by omega) (by omega)
      · rcases lk_or hl with hl | hl
        · obtain ⟨w, dp, t, ys, rfl⟩ := q2 k' e hl; trivial
        · exact (h2 k' e hl).mono fun d hd => hd.mono (by omega) (by omega)
theorem impR_rng : ∀ {rs : List (Bool × List E)} {k v : Nat}, clR rs = true → (∀ a ∈ (impR k v rs).1, ∀ d ∈ a.2, RG k (k + szR rs) d) ∧ ∀ k' e, lk k' (impR k v rs).2 = some e → AEn (RG k (k + szR rs)) e
  | [], k, v, _ => by simp [impR, lk]
  | (g, es) :: r, k, v, h => by
    simp only [clR, Bool.and_eq_true] at h
    obtain ⟨h1, h2⟩ := impR_rng (rs := r) (k := k + szE es) (v := v + szE es) h.2
    obtain ⟨q1, q2⟩ := impE_rng (es := es) (k := k) (v := v) h.1
    simp only [impR, szR]
    refine ⟨fun a ha d hd => ?_, fun k' e hl => ?_⟩
    · rcases List.mem_cons.1 ha with rfl | ha
      · exact (q1 d hd).mono (by omega) (by omega)
      · exact (h1 a ha d hd).mono (by omega) (by omega)
    · rcases lk_or hl with hl | hl
      · exact (q2 k' e hl).mono fun d hd => hd.mono (by omega) (by omega)
      · exact (h2 k' e hl).mono fun d hd => hd.mono (by omega) (by omega)
theorem TK_self {ρ : Nat → Nat} {a b : Nat} {d : D} (h : RG a b d) (hρ : ∀ k, a ≤ k → k < b → ρ k = k) : TK ρ d d := by
  cases d <;> simp only [RG] at h <;> simp only [TK] <;> first | trivial | exact ⟨trivial, hρ _ h.1 h.2⟩ | exact ⟨trivial, trivial, hρ _ h.1 h.2⟩
theorem TK_id {ρ : Nat → Nat} {d d' : D} (h : TK ρ d d') (h1 : ∀ k v, d ≠ .ow k v) (h2 : ∀ k v o, d ≠ .pt k v o) : d' = d := by
  cases d <;> first | exact absurd rfl (h1 _ _) | exact absurd rfl (h2 _ _ _) | (cases d' <;> exact h)
theorem clR_snoc : ∀ {rs : List (Bool × List E)} {g : Bool} {es : List E}, clR (rs ++ [(g, es)]) = true → clR rs = true ∧ clE es = true
  | [], g, es, h => by simp only [List.nil_append, clR, Bool.and_true] at h; exact ⟨rfl, h⟩
  | (g', e') :: r, g, es, h => by
    simp only [List.cons_append, clR, Bool.and_eq_true] at h ⊢
    exact ⟨⟨h.1, (clR_snoc h.2).1⟩, (clR_snoc h.2).2⟩
section
variable {Γ : Cx} {γ : Gh} {f : UT} {st : St} {mf : Fr} {h h' : H}
theorem RelG.ret1 (hr : RelG Γ γ f st mf h) {ar : Nat → Prop} {bs us : List Nat} {rs : List (Bool × List E)} {css : List (Bool × List C)} {c0 : C} {k0 v0 ty0 ty : Nat} {ds0 : List D} {xs : List E0} (d : Nat)
    (hk : lk k0 st.es = some (.pt v0 ty0 ds0)) (hku : k0 ∈ us) (hc0 : ∃ id, γ.c k0 = .ptr id 0 ∧ c0 = .ptr id 0)
    (hbs : ∀ i, i ∈ bs ↔ ∃ k ∈ us, ∃ e, lk k st.es = some e ∧ i ∈ γ.w k) (har : ∀ i, ar i → PR Γ γ st i)
    (hb : Bun ⟨h, ar, bs, []⟩ h' (keyC d) st.nx (rs ++ [(true, [.pt ty xs])]) (css ++ [(true, [c0])]))
    (hcl : clR (rs ++ [(true, [.pt ty xs])]) = true)
    (n1 : k0 < keyC d ∨ keyC d + szR rs ≤ k0) (n2 : k0 < 1099511627776) (n3 : keyC d + szR rs ≤ 1099511627776) :
    ∃ γ', RelG Γ γ' (retF f st d rs) (retP st d rs k0 v0 ty xs us) (setD mf d (valR css)) h' := by
  obtain ⟨γb, hB, hc⟩ := hb
  rw [impR_snoc, szR_snoc] at hB hc
  obtain ⟨hcr, hcp⟩ := All2.snoc hc
  obtain ⟨hcl1, hcl2⟩ := clR_snoc hcl
  have hcl0 : cl0 xs = true := by simpa only [clE, Bool.and_true] using hcl2
  have hn0 : (imp0 (cK k0) (st.nx + szR rs + 1) xs).1.length = xs.length := by
    have : ∀ (xs : List E0) (k v : Nat), (imp0 k v xs).1.length = xs.length := by
      intro xs
      induction xs with
      | nil => intro k v; rfl
      | cons x r ih => intro k v; cases x <;> simp [imp0, ih]
    exact this _ _ _
  simp only [impE, szE, List.append_nil, Nat.add_zero] at hB hc hcr hcp
  generalize hkp : keyC d + szR rs = kp at *
  generalize hvp : st.nx + szR rs = vp at *
  have hvx : st.nx + (szR rs + (1 + xs.length)) = vp + (1 + xs.length) := by omega
  rw [hvx] at hB hcr hcp
  have hst' : retP st d rs k0 v0 ty xs us = ⟨vp + (1 + xs.length), (k0, .pt v0 ty (imp0 (cK k0) (vp + 1) xs).1) :: ((imp0 (cK k0) (vp + 1) xs).2 ++ ((impR (keyC d) st.nx rs).2 ++ rmKs us st.es))⟩ := by
    simp only [retP, hvp]
  rw [hst']
  have hck : 1099511627776 ≤ cK k0 := Nat.le_add_right _ _
  have hrn := impR_rng (k := keyC d) (v := st.nx) hcl1
  rw [hkp] at hrn
  have hLR : ∀ {k e}, lk k (impR (keyC d) st.nx rs).2 = some e → st.nx ≤ e.ver ∧ keyC d ≤ k ∧ k < kp := fun hl => by rw [← hkp]; exact impR_ver hl
  have hL0 : ∀ {k e}, lk k (imp0 (cK k0) (vp + 1) xs).2 = some e → vp + 1 ≤ e.ver ∧ cK k0 ≤ k ∧ k < cK k0 + xs.length := fun hl => imp0_ver hl
  have hL1 : ∀ {k e}, lk k (imp0 (kp + 1) (vp + 1) xs).2 = some e → vp + 1 ≤ e.ver ∧ kp + 1 ≤ k ∧ k < kp + 1 + xs.length := fun hl => imp0_ver hl
  let LR := (impR (keyC d) st.nx rs).2
  let L0 := (imp0 (cK k0) (vp + 1) xs).2
  let L1 := (imp0 (kp + 1) (vp + 1) xs).2
  let D0 := (imp0 (cK k0) (vp + 1) xs).1
  let D1 := (imp0 (kp + 1) (vp + 1) xs).1
  let sb : St := ⟨vp + (1 + xs.length), LR ++ (kp, .pt vp ty D1) :: L1⟩
  let s' : St := ⟨vp + (1 + xs.length), (k0, .pt v0 ty D0) :: (L0 ++ (LR ++ rmKs us st.es))⟩
  let ρ : Nat → Nat := fun k => if k = k0 then kp else if cK k0 ≤ k ∧ k < cK k0 + xs.length then k - cK k0 + (kp + 1) else k
  let nw : Nat → Bool := fun k => decide (k = k0) || (lk k L0).isSome || (lk k LR).isSome
  let γ' : Gh := ⟨fun k => if nw k then γb.c (ρ k) else γ.c k, fun k => if nw k then γb.w (ρ k) else γ.w k, fun k => if nw k then γb.u (ρ k) else γ.u k⟩
  have hρ0 : ρ k0 = kp := if_pos rfl
  have hρL : ∀ i, i < xs.length → ρ (cK k0 + i) = kp + 1 + i := fun i hi => by
    show (if cK k0 + i = k0 then kp else if cK k0 ≤ cK k0 + i ∧ cK k0 + i < cK k0 + xs.length then cK k0 + i - cK k0 + (kp + 1) else cK k0 + i) = _
    rw [if_neg (by omega), if_pos (by omega)]
    omega
  have hρR : ∀ k, k ≠ k0 → k < kp → ρ k = k := fun k h1 h2 => by
    show (if k = k0 then kp else if cK k0 ≤ k ∧ k < cK k0 + xs.length then k - cK k0 + (kp + 1) else k) = k
    rw [if_neg h1, if_neg (by omega)]
  obtain ⟨hT0, hK0⟩ := imp0_keys (ρ := ρ) (K := kp + 1) (K' := cK k0) (xs := xs) (j := 0) (v := vp + 1) hcl0 (fun i hi => hρL i (by omega))
  simp only [Nat.add_zero] at hT0 hK0
  have sb0 : lk kp sb.es = some (.pt vp ty D1) := by
    show lk kp (LR ++ (kp, .pt vp ty D1) :: L1) = _
    rw [lk_append]
    cases hx : lk kp LR with
    | some e => have := hLR hx; omega
    | none => rw [lk_cons, if_pos rfl]
  have sbL : ∀ {i e}, lk (cK k0 + i) L0 = some e → lk (kp + 1 + i) sb.es = some e := fun {i e} hl => by
    have := hL0 hl
    show lk (kp + 1 + i) (LR ++ (kp, .pt vp ty D1) :: L1) = _
    rw [lk_append]
    cases hx : lk (kp + 1 + i) LR with
    | some e => have := hLR hx; omega
    | none =>
      simp only [lk_cons]
      rw [if_neg (by omega)]
      exact (hK0 i).symm.trans hl
  have sbR : ∀ {k e}, lk k LR = some e → lk k sb.es = some e := fun {k e} hl => by
    show lk k (LR ++ (kp, .pt vp ty D1) :: L1) = _
    rw [lk_append, hl]
  have nw0 : nw k0 = true := by simp [nw]
  have nwL : ∀ {k e}, lk k L0 = some e → nw k = true := fun hl => by simp [nw, hl]
  have nwR : ∀ {k e}, lk k LR = some e → nw k = true := fun hl => by simp [nw, hl]
  -- what is new
  have hrange : ∀ k, nw k = true → (k = k0 ∧ ρ k = kp) ∨ (k ≠ k0 ∧ ∃ i e, i < xs.length ∧ k = cK k0 + i ∧ ρ k = kp + 1 + i ∧ lk k L0 = some e) ∨ (k ≠ k0 ∧ lk k L0 = none ∧ (∃ e, lk k LR = some e) ∧ keyC d ≤ k ∧ k < kp ∧ ρ k = k) := fun k hn => by
    by_cases h0 : k = k0
    · exact .inl ⟨h0, by rw [h0]; exact hρ0⟩
    · cases hx : lk k L0 with
      | some e =>
        have := hL0 hx
        refine .inr (.inl ⟨h0, k - cK k0, e, by omega, by omega, ?_, rfl⟩)
        have := hρL (k - cK k0) (by omega)
        rw [show cK k0 + (k - cK k0) = k by omega] at this
        exact this
      | none =>
        cases hy : lk k LR with
        | some e =>
          have := hLR hy
          exact .inr (.inr ⟨h0, rfl, ⟨e, rfl⟩, by omega, by omega, hρR k h0 (by omega)⟩)
        | none => simp [nw, hx, hy, h0] at hn
  have hcase : ∀ k e, lk k s'.es = some e → (nw k = true ∧ ∃ e', lk (ρ k) sb.es = some e' ∧ ((k ≠ k0 ∧ e' = e ∧ st.nx ≤ e.ver) ∨ (k = k0 ∧ e = .pt v0 ty D0 ∧ e' = .pt vp ty D1))) ∨ (nw k = false ∧ k ∉ us ∧ lk k st.es = some e) := fun k e hl => by
    have hl : lk k ((k0, .pt v0 ty D0) :: (L0 ++ (LR ++ rmKs us st.es))) = some e := hl
    rw [lk_cons] at hl
    split at hl
    · rename_i h0
      simp only [Option.some.injEq] at hl
      refine .inl ⟨by rw [h0]; exact nw0, .pt vp ty D1, by rw [h0, hρ0]; exact sb0, .inr ⟨h0, hl.symm, rfl⟩⟩
    · rename_i h0
      rw [lk_append] at hl
      cases hx : lk k L0 with
      | some e1 =>
        rw [hx] at hl
        simp only [Option.some.injEq] at hl
        subst hl
        have h2 := hL0 hx
        refine .inl ⟨nwL hx, e1, ?_, .inl ⟨h0, rfl, by omega⟩⟩
        obtain ⟨i, hi, rfl⟩ : ∃ i, i < xs.length ∧ k = cK k0 + i := ⟨k - cK k0, by omega, by omega⟩
        rw [hρL i hi]
        exact sbL hx
      | none =>
        rw [hx] at hl
        simp only at hl
        rw [lk_append] at hl
        cases hy : lk k LR with
        | some e1 =>
          rw [hy] at hl
          simp only [Option.some.injEq] at hl
          subst hl
          have h2 := hLR hy
          exact .inl ⟨nwR hy, e1, by rw [hρR k h0 (by omega)]; exact sbR hy, .inl ⟨h0, rfl, by omega⟩⟩
        | none =>
          rw [hy] at hl
          simp only at hl
          rw [lk_rmKs] at hl
          split at hl
          · simp at hl
          · rename_i hu
            exact .inr ⟨by simp [nw, h0, hx, hy], by simpa using hu, hl⟩
  have hold : ∀ k, nw k = false → k ∉ us → lk k s'.es = lk k st.es := fun k hn hu => by
    simp only [nw, Bool.or_eq_false_iff, decide_eq_false_iff_not, Option.isSome_eq_false_iff, Option.isNone_iff_eq_none] at hn
    show lk k ((k0, .pt v0 ty D0) :: (L0 ++ (LR ++ rmKs us st.es))) = _
    rw [lk_cons, if_neg hn.1.1, lk_append, hn.1.2]
    simp only
    rw [lk_append, hn.2]
    simp only
    rw [lk_rmKs, if_neg (by simpa using hu)]
  have gN : ∀ k, nw k = true → γ'.c k = γb.c (ρ k) ∧ γ'.w k = γb.w (ρ k) ∧ γ'.u k = γb.u (ρ k) := fun k hn => by simp [γ', hn]
  have gO : ∀ k, nw k = false → γ'.c k = γ.c k ∧ γ'.w k = γ.w k ∧ γ'.u k = γ.u k := fun k hn => by simp [γ', hn]
  have hinj : ∀ k1 k2, nw k1 = true → nw k2 = true → ρ k1 = ρ k2 → k1 = k2 := fun k1 k2 h1 h2 he => by
    rcases hrange k1 h1 with ⟨a1, a2⟩ | ⟨_, i, _, a1, a2, a3, _⟩ | ⟨_, _, _, a1, a2, a3⟩ <;> rcases hrange k2 h2 with ⟨b1, b2⟩ | ⟨_, j, _, b1, b2, b3, _⟩ | ⟨_, _, _, b1, b2, b3⟩ <;> omega
  have hge : ∀ k e, lk k sb.es = some e → ∀ i ∈ γb.w k ++ γb.u k, i ∈ bs ∨ h.length ≤ i := fun k e hl i hi => (hB.nd k e hl).2 i hi
  have hbm : ∀ i, i ∈ bs → Mine Γ i ∧ i < h.length := fun i hi => by
    obtain ⟨k, _, e, hl, hw⟩ := (hbs i).1 hi
    exact ⟨(hr.nd k e hl).2 i (by simp [hw]), hr.blt hl i (by simp [hw])⟩
  have hbo : ∀ i, i ∈ bs → ∀ k e, k ∉ us → lk k st.es = some e → i ∉ γ.w k ++ γ.u k := fun i hi k e hu hl => by
    obtain ⟨k1, hk1, e1, hl1, hw⟩ := (hbs i).1 hi
    exact hr.dj k1 k e1 e (fun e => hu (e ▸ hk1)) hl1 hl i (by simp [hw])
  have hbp : ∀ i, i ∈ bs → ¬ PR Γ γ st i := fun i hi hp => by
    obtain ⟨k1, hk1, e1, hl1, hw⟩ := (hbs i).1 hi
    exact hp.2 k1 e1 hl1 hw
  have hnx : ∀ k, nw k = true → ∃ e, lk (ρ k) sb.es = some e := fun k hn => by
    rcases hrange k hn with ⟨a1, a2⟩ | ⟨_, i, e, a1, rfl, a3, a4⟩ | ⟨_, _, ⟨e, a0⟩, a1, a2, a3⟩
    · exact ⟨_, by rw [a2]; exact sb0⟩
    · exact ⟨e, by rw [a3]; exact sbL a4⟩
    · exact ⟨e, by rw [a3]; exact sbR a0⟩
  have hPR : ∀ i, PR ⟨h, ar, bs, []⟩ γb sb i → PR Γ γ' s' i := fun i hp => by
    refine ⟨?_, fun k e hl => ?_⟩
    · rcases hp.1 with h1 | h1 | h1
      · exact (har i h1).1
      · exact .inr (.inl (Nat.le_trans hr.len h1))
      · rcases (hbm i h1).1 with h2 | h2
        · exact .inr (.inr h2)
        · exact .inr (.inl h2)
    · rcases hcase k e hl with ⟨hn, e', he', _⟩ | ⟨hn, hu, hl'⟩
      · rw [(gN k hn).2.1]; exact hp.2 _ e' he'
      · rw [(gO k hn).2.1]
        rcases hp.1 with h1 | h1 | h1
        · exact (har i h1).2 k e hl'
        · exact fun hw => by have := hr.blt hl' i (by simp [hw]); have : h.length ≤ i := h1; omega
        · exact fun hw => hbo i h1 k e hu hl' (by simp [hw])
  have hDC : ∀ {c : C} {d0 d1 : D}, DC ⟨h, ar, bs, []⟩ γb sb h' c d0 → TK ρ d0 d1 → VD st.nx d0 → DC Γ γ' s' h' c d1 := by
    intro c d0 d1 hd ht hvd
    cases d0
    case ow k v =>
      cases d1 <;> simp only [TK, reduceCtorEq] at ht
      case ow k' v' =>
        obtain ⟨rfl, hk'⟩ := ht
        refine ⟨hd.1, fun o dp t ys hl => ?_⟩
        rcases hcase k' _ hl with ⟨hn, e', he', h1⟩ | ⟨hn, hu, hl'⟩
        · rcases h1 with ⟨_, rfl, _⟩ | ⟨_, h2, _⟩
          · rw [(gN k' hn).1, hk']
            rw [hk'] at he'
            exact hd.2 o dp t ys he'
          · cases h2
        · have h1 := (hr.en k' _ hl').ver
          have h2 : st.nx ≤ v' := hvd
          simp only [En.ver] at h1
          omega
    case pt k v o =>
      cases d1 <;> simp only [TK, reduceCtorEq] at ht
      case pt k' v' o' =>
        obtain ⟨rfl, rfl, hk'⟩ := ht
        refine ⟨hd.1, fun ty ds hl => ?_⟩
        have h2 : st.nx ≤ v' := hvd
        rcases hcase k' _ hl with ⟨hn, e', he', h1⟩ | ⟨hn, hu, hl'⟩
        · rcases h1 with ⟨_, rfl, _⟩ | ⟨rfl, h3, _⟩
          · rw [(gN k' hn).1, hk']
            rw [hk'] at he'
            exact hd.2 ty ds he'
          · simp only [En.pt.injEq] at h3
            have h1 := (hr.en k' _ hk).ver
            simp only [En.ver] at h1
            omega
        · have h1 := (hr.en k' _ hl').ver
          simp only [En.ver] at h1
          omega
    case pe x o => exact hvd.elim
    case px k v j o => exact hvd.elim
    case sa k v o n e => exact hvd.elim
    all_goals
      obtain rfl := TK_id ht (fun _ _ e => by cases e) (fun _ _ _ e => by cases e)
      obtain ⟨S, h1, h2⟩ := hd
      exact ⟨S, h1, fun i hi => hPR i (h2 i hi)⟩
  have hptr : γ'.c k0 = γ.c k0 := by
    obtain ⟨id, e1, e2⟩ := hc0
    rw [(gN k0 nw0).1, hρ0, e1]
    have hq := hcp.2.1
    obtain ⟨id', e3, e4⟩ := hq.2 ty D1 sb0
    rw [e3, ← e4, e2]
  obtain ⟨v1, v2⟩ := impR_VD hcl1 (keyC d) st.nx
  have v3 : ∀ d0 ∈ D1, VD st.nx d0 := fun d0 hd0 => (imp0_all (P := VD st.nx) (v0 := st.nx) (fun _ _ h => h) (xs := xs) (k := kp + 1) (v := vp + 1) (by omega) (cl0_VD hcl0)).1 d0 hd0
  have hmain : RelG Γ γ' f s' mf h' ∧ Mo Γ γ st h γ' s' h' := by
    refine hr.upds (N := fun k => nw k = true ∨ k ∈ us) (γ' := γ') (st' := s') (h' := h') (by show st.nx ≤ vp + (1 + xs.length); omega) (fun k hn => ?_) (fun k e hn hl => ?_) (fun i hi hp => ?_) (fun k e hn hl i hi hlt => ?_) (fun k e hn hl i hi => ?_)
      (fun k e hn hl => ?_) (fun k e k' e' hn hne hl hl' i hi => ?_) hB.len (fun i hi hn => ?_) (fun hm k e hn hl => ?_) (fun i cs hi => ?_)
    · simp only [not_or, Bool.not_eq_true] at hn
      exact ⟨hold k hn.1 hn.2, gO k hn.1⟩
    · rcases hcase k e hl with ⟨hn, e', he', h1⟩ | ⟨h1, hu, _⟩
      · rcases h1 with ⟨_, rfl, h2⟩ | ⟨rfl, rfl, _⟩
        · exact .inl h2
        · exact .inr ⟨hptr, ty0, ds0, hk⟩
      · rcases hn with hn | hn
        · rw [h1] at hn; cases hn
        · exact absurd hn hu
    · unfold H.cells
      rw [hB.base i hi (fun hb => hbp i hb hp)]
    · rcases hcase k e hl with ⟨hn, e', he', h1⟩ | ⟨h1, hu, _⟩
      · rw [(gN k hn).2.1] at hi
        rcases hge _ e' he' i (by simp [hi]) with h2 | h2
        · exact hbp i h2
        · omega
      · rcases hn with hn | hn
        · rw [h1] at hn; cases hn
        · exact absurd hn hu
    · simp only [not_or, Bool.not_eq_true] at hn
      exact hB.base i (hr.blt hl i (by simp [hi])) (fun hb => hbo i hb k e hn.2 hl (by simp [hi]))
    · rcases hcase k e hl with ⟨hn, e', he', h1⟩ | ⟨h1, hu, _⟩
      · rw [(gN k hn).2.1, (gN k hn).2.2]
        refine ⟨(hB.nd _ e' he').1, fun i hi => ?_⟩
        rcases hge _ e' he' i hi with h2 | h2
        · exact (hbm i h2).1
        · exact .inr (Nat.le_trans hr.len h2)
      · rcases hn with hn | hn
        · rw [h1] at hn; cases hn
        · exact absurd hn hu
    · rcases hcase k e hl with ⟨hn1, e1, he1, h1⟩ | ⟨h1, hu, _⟩
      · rw [(gN k hn1).2.1, (gN k hn1).2.2] at hi
        rcases hcase k' e' hl' with ⟨hn2, e2, he2, _⟩ | ⟨hn2, hu2, hl2⟩
        · rw [(gN k' hn2).2.1, (gN k' hn2).2.2]
          exact hB.dj _ _ e1 e2 (fun e => hne (hinj _ _ hn1 hn2 e).symm) he1 he2 i hi
        · rw [(gO k' hn2).2.1, (gO k' hn2).2.2]
          rcases hge _ e1 he1 i hi with h2 | h2
          · exact hbo i h2 k' e' hu2 hl2
          · exact fun h3 => by have := hr.blt hl2 i h3; omega
      · rcases hn with hn | hn
        · rw [h1] at hn; cases hn
        · exact absurd hn hu
    · exact hB.base i (Nat.lt_of_lt_of_le hi hr.len) (fun hb => by
        rcases (hbm i hb).1 with h1 | h1
        · exact hn h1
        · omega)
    · rcases hcase k e hl with ⟨hn1, e1, he1, h1⟩ | ⟨h1, hu, _⟩
      · obtain ⟨g1, g2, g3⟩ := gN k hn1
        have he := hB.en _ _ he1
        rcases h1 with ⟨hk1, rfl, _⟩ | ⟨rfl, rfl, rfl⟩
        · match e1, he, he1 with
          | .sl v true dp t ys, he, he1 =>
            obtain ⟨hv, he⟩ := he
            refine ⟨hv, ?_⟩
            rw [g1, g2, g3]
            rcases he with he | ⟨id, ty', ez, bs', S, k1, k2, k3, k4, k5, k6, k7, k8⟩
            · exact .inl he
            · exact .inr ⟨id, ty', ez, bs', S, k1, k2, k3, k4, k5, k6, fun i hi => hPR i (k7 i hi), k8⟩
          | .sl v false dp t ys, he, he1 =>
            exfalso
            have he1 : lk (ρ k) (LR ++ (kp, .pt vp ty D1) :: L1) = some (.sl v false dp t ys) := he1
            rcases lk_or he1 with h2 | h2
            · exact no_sl_fR h2
            · rw [lk_cons] at h2
              split at h2
              · simp at h2
              · exact no_sl_f0 h2
          | .pt v ty' ds, he, he1 =>
            obtain ⟨hv, k1, id, bs', k2, k3, k4, k5⟩ := he
            refine ⟨hv, by rw [g3, k1], id, bs', by rw [g1, k2], by rw [g2, k3], k4, ?_⟩
            rcases hrange k hn1 with ⟨a1, _⟩ | ⟨_, i, e2, _, rfl, _, a4⟩ | ⟨_, _, ⟨e2, a0⟩, a1, a2, a3⟩
            · exact absurd a1 hk1
            · exfalso
              have := (imp0_rng (xs := xs) (k := cK k0) (v := vp + 1) hcl0).2 _ e2 a4
              have h3 := sbL a4
              rw [hρL i ‹_›] at he1
              rw [h3] at he1
              obtain ⟨w, dp, t, ys, rfl⟩ := this
              simp at he1
            · rw [a3, sbR a0] at he1
              simp only [Option.some.injEq] at he1
              subst he1
              have h3 := hrn.2 k _ a0
              have h4 := v2 k _ a0
              exact All2.mem (fun c d0 hd0 hd => hDC hd (TK_self (h3 d0 hd0) (fun k2 q1 q2 => hρR k2 (fun e => by omega) q2)) (h4 d0 hd0)) k5
        · obtain ⟨hv, k1, id, bs', k2, k3, k4, k5⟩ := he
          refine ⟨?_, by rw [g3]; exact k1, id, bs', by rw [g1]; exact k2, by rw [g2]; exact k3, k4, ?_⟩
          · have h1 := (hr.en k _ hk).ver
            simp only [En.ver] at h1
            show v0 < vp + (1 + xs.length)
            omega
          · have k5' := All2.mem (T := fun c d0 => DC ⟨h, ar, bs, []⟩ γb sb h' c d0 ∧ VD st.nx d0) (fun c d0 hd0 hd => ⟨hd, v3 d0 hd0⟩) k5
            exact All2.comp (T := DC Γ γ' s' h') (fun c d0 d1 hd ht => hDC hd.1 ht hd.2) k5' hT0
      · rcases hn with hn | hn
        · rw [h1] at hn; cases hn
        · exact absurd hn hu
    · by_cases hb : i ∈ bs
      · exact hB.own i cs (.inl hb)
      · rcases Nat.lt_or_ge i h.length with hlt | hlt
        · rw [hB.base i hlt hb]; exact hr.own i cs hi
        · exact hB.own i cs (.inr hlt)
  obtain ⟨r1, r2⟩ := hmain
  refine ⟨γ', ?_⟩
  refine UR.setD r1 (valR_UR ?_)
  refine All2.mem (fun a b hb ⟨k1, k2⟩ => ⟨k1, ?_⟩) hcr
  exact All2.mem (fun c d0 hd0 hd => hDC hd (TK_self (hrn.1 b hb d0 hd0) (fun k2 q1 q2 => hρR k2 (fun e => by omega) q2)) (v1 b hb d0 hd0)) k2
end
end Go.Eng
namespace Go.Eng
def argsU (f : UT) : List X → Option (List (Bool × List D))
  | [] => some []
  | x :: xs => match uvp f x, argsU f xs with
    | some v, some vs => some (v :: vs)
    | _, _ => none
def argD (st : St) : D → Option D
  | .nils => some (.sl [])
  | .ow k v => match st.slc k v with
    | some (_, _, _, xs) => some (.sl xs)
    | none => none
  | .pt _ _ _ => none
  | .pe _ _ => none
  | .px _ _ _ _ => none
  | .sa k v o n e => match st.els (.sa k v o n e) with
    | some xs => some (.sl xs)
    | none => none
  | d => some d
def argDs (st : St) : List D → Option (List D)
  | [] => some []
  | d :: ds => match argD st d, argDs st ds with
    | some a, some r => some (a :: r)
    | _, _ => none
def argsD (st : St) : List (Bool × List D) → Option (List (Bool × List D))
  | [] => some []
  | (g, ds) :: r => match argDs st ds, argsD st r with
    | some a, some b => some ((g, a) :: b)
    | _, _ => none
def frzD (st : St) : D → St
  | .ow k v => match st.slc k v with
    | some (_, _, t, xs) => st.put k (.sl v false false t xs)
    | none => st
  | _ => st
def frzDs (st : St) : List D → St
  | [] => st
  | d :: ds => frzDs (frzD st d) ds
def frzA (st : St) : List (Bool × List D) → St
  | [] => st
  | (_, ds) :: r => frzA (frzDs st ds) r
def sfD (st : St) : D → Bool
  | .ow k v => match st.slc k v with
    | some (false, _) => true
    | _ => false
  | .sa _ _ _ _ _ => false
  | _ => true
def sfDs (st : St) : List D → Bool
  | [] => true
  | d :: ds => sfD st d && sfDs st ds
def sfA (st : St) : List (Bool × List D) → Bool
  | [] => true
  | (_, ds) :: r => sfDs st ds && sfA st r
def mkP (as : List (Bool × List D)) : List (Bool × List E) := as.map fun a => (a.1, a.2.map E.p)
theorem impE_mkP : ∀ (ds : List D) (k v : Nat), impE k v (ds.map E.p) = (ds, [])
  | [], _, _ => rfl
  | d :: ds, k, v => by simp only [List.map_cons, impE, impE_mkP ds]
theorem impR_mkP : ∀ (as : List (Bool × List D)) (k v : Nat), impR k v (mkP as) = (as, [])
  | [], _, _ => rfl
  | (g, ds) :: r, k, v => by
    have := impR_mkP r (k + szE (ds.map E.p)) (v + szE (ds.map E.p))
    unfold mkP at this ⊢
    simp only [List.map_cons, impR, impE_mkP, this, List.append_nil]
theorem ptr1_mkP : ∀ (cs : List C) (ds : List D), ptr1 cs (ds.map E.p) = []
  | [], [] => rfl
  | [], _ :: _ => rfl
  | _ :: _, [] => rfl
  | _ :: cs, _ :: ds => by simp only [List.map_cons, ptr1, ptr1_mkP cs ds]
theorem ptrs_mkP : ∀ (ms : List (Bool × List C)) (as : List (Bool × List D)), ptrs ms (mkP as) = []
  | [], [] => rfl
  | [], _ :: _ => rfl
  | _ :: _, [] => rfl
  | (_, cs) :: ms, (_, ds) :: as => by
    have := ptrs_mkP ms as
    unfold mkP at this ⊢
    simp only [List.map_cons, ptrs, ptr1_mkP, this, List.append_nil]
theorem impE_len : ∀ (es : List E) (k v : Nat), (impE k v es).1.length = es.length
  | [], _, _ => rfl
  | .e (.p _) :: r, k, v => by simp [impE, impE_len r]
  | .e (.o _ _ _) :: r, k, v => by simp [impE, impE_len r]
  | .pt _ xs :: r, k, v => by simp [impE, impE_len r]
section
variable {Γ Γ' : Cx} {γ γ' : Gh} {f f' : UT} {st st' : St} {mf mf' : Fr} {h h' : H}
theorem argsU_ok (hr : RelG Γ γ f st mf h) : ∀ {xs : List X} {vs : List (Bool × List D)}, argsU f xs = some vs → ∃ ms, args mf xs = some ms ∧ All2 (DG Γ γ st h) ms vs
  | [], vs, he => by simp [argsU] at he; subst he; exact ⟨[], rfl, trivial⟩
  | x :: xs, vs, he => by
    simp only [argsU] at he
    split at he
    · rename_i v r h1 h2
      simp at he
      subst he
      obtain ⟨g, ds⟩ := v
      obtain ⟨cs, q1, q2⟩ := uvp_ok hr h1
      obtain ⟨ms, k1, k2⟩ := argsU_ok hr h2
      exact ⟨(g, cs) :: ms, by simp only [args, q1, k1], ⟨rfl, q2⟩, k2⟩
    · simp at he
theorem argD_ok (hr : RelG Γ γ f st mf h) {c : C} {d d' : D} (hd : DC Γ γ st h c d) (ha : argD st d = some d') : ∃ S, RD h d' c S ∧ (sfD st d = true → ∀ i ∈ S, PR Γ γ st i) := by
  cases d <;> simp only [argD] at ha
  case nils =>
    simp at ha
    subst ha
    obtain ⟨S, h1, _⟩ := hd
    simp only [RD] at h1
    exact ⟨[], RD_sl.2 (.inl ⟨rfl, rfl, .inl h1.1⟩), fun _ i hi => by cases hi⟩
  case ow k v =>
    split at ha
    · rename_i o dp t xs hs
      simp at ha
      subst ha
      have hl := St.slc_spec hs
      cases o with
      | true =>
        obtain ⟨S, h1, h2⟩ := els_ok hr hd (xs := xs) (by simp only [St.els, hs])
        exact ⟨S, h1, fun h3 => by simp [sfD, hs] at h3⟩
      | false =>
        obtain ⟨_, _, _, S, h1, h2⟩ := hr.en _ _ hl
        rw [← hd.2 _ _ _ _ hl] at h1
        exact ⟨S, h1, fun _ => h2⟩
    · simp at ha
  case sa k v o n e =>
    split at ha
    · rename_i xs hs
      simp at ha
      subst ha
      obtain ⟨S, h1, h2⟩ := els_ok hr hd hs
      exact ⟨S, h1, fun h3 => by simp [sfD] at h3⟩
    · simp at ha
  all_goals first
    | (simp at ha; done)
    | (simp at ha
       subst ha
       obtain ⟨S, h1, h2⟩ := hd
       exact ⟨S, h1, fun _ => h2⟩)
theorem argDs_ok (hr : RelG Γ γ f st mf h) : ∀ {cs : List C} {ds ds' : List D}, All2 (DC Γ γ st h) cs ds → argDs st ds = some ds' → All2 (fun c d' => ∃ S, RD h d' c S ∧ (sfDs st ds = true → ∀ i ∈ S, PR Γ γ st i)) cs ds'
  | [], [], ds', _, ha => by simp [argDs] at ha; subst ha; trivial
  | c :: cs, d :: ds, ds', hd, ha => by
    simp only [argDs] at ha
    split at ha
    · rename_i a r h1 h2
      simp at ha
      subst ha
      obtain ⟨S, k1, k2⟩ := argD_ok hr hd.1 h1
      refine ⟨⟨S, k1, fun hs => k2 (by simp [sfDs] at hs; exact hs.1)⟩, (argDs_ok hr hd.2 h2).imp fun c d ⟨S, q1, q2⟩ => ⟨S, q1, fun hs => q2 (by simp [sfDs] at hs; exact hs.2)⟩⟩
    · simp at ha
theorem argsD_ok (hr : RelG Γ γ f st mf h) : ∀ {ms : List (Bool × List C)} {vs as : List (Bool × List D)}, All2 (DG Γ γ st h) ms vs → argsD st vs = some as → All2 (fun (m : Bool × List C) (a : Bool × List D) => m.1 = a.1 ∧ All2 (fun c d' => ∃ S, RD h d' c S ∧ (sfA st vs = true → ∀ i ∈ S, PR Γ γ st i)) m.2 a.2) ms as
  | [], [], as, _, ha => by simp [argsD] at ha; subst ha; trivial
  | (g, cs) :: ms, (g', ds) :: vs, as, hd, ha => by
    simp only [argsD] at ha
    split at ha
    · rename_i a r h1 h2
      simp at ha
      subst ha
      refine ⟨⟨hd.1.1, (argDs_ok hr hd.1.2 h1).imp fun c d ⟨S, q1, q2⟩ => ⟨S, q1, fun hs => q2 (by simp [sfA] at hs; exact hs.1)⟩⟩, (argsD_ok hr hd.2 h2).imp fun m a ⟨q0, q⟩ => ⟨q0, q.imp fun c d ⟨S, q1, q2⟩ => ⟨S, q1, fun hs => q2 (by simp [sfA] at hs; exact hs.2)⟩⟩⟩
    · simp at ha
theorem frzD_ok (hr : RelG Γ γ f st mf h) (d : D) : ∃ γ', RelG Γ γ' f (frzD st d) mf h ∧ Mo Γ γ st h γ' (frzD st d) h := by
  cases d <;> simp only [frzD] <;> try exact ⟨γ, hr, Mo.refl⟩
  rename_i k v
  split
  · rename_i o dp t xs hs
    obtain ⟨γ', h1, h2, _⟩ := hr.freeze (dp' := false) (St.slc_spec hs)
    exact ⟨γ', h1, h2⟩
  · exact ⟨γ, hr, Mo.refl⟩
theorem frzDs_ok : ∀ (ds : List D) {γ : Gh} {st : St}, RelG Γ γ f st mf h → ∃ γ', RelG Γ γ' f (frzDs st ds) mf h ∧ Mo Γ γ st h γ' (frzDs st ds) h
  | [], γ, st, hr => ⟨γ, hr, Mo.refl⟩
  | d :: ds, γ, st, hr => by
    obtain ⟨γ1, h1, h2⟩ := frzD_ok hr d
    obtain ⟨γ2, h3, h4⟩ := frzDs_ok ds h1
    exact ⟨γ2, h3, h2.trans h4⟩
theorem frzA_ok : ∀ (vs : List (Bool × List D)) {γ : Gh} {st : St}, RelG Γ γ f st mf h → ∃ γ', RelG Γ γ' f (frzA st vs) mf h ∧ Mo Γ γ st h γ' (frzA st vs) h
  | [], γ, st, hr => ⟨γ, hr, Mo.refl⟩
  | (_, ds) :: vs, γ, st, hr => by
    obtain ⟨γ1, h1, h2⟩ := frzDs_ok ds hr
    obtain ⟨γ2, h3, h4⟩ := frzA_ok vs h1
    exact ⟨γ2, h3, h2.trans h4⟩
theorem bun_pure {ar : Nat → Prop} (har : ∀ i, ar i → i < h.length) {ms : List (Bool × List C)} {as : List (Bool × List D)} (hc : clR (mkP as) = true) (ha : All2 (fun (m : Bool × List C) (a : Bool × List D) => m.1 = a.1 ∧ All2 (fun c d' => ∃ S, RD h d' c S ∧ ∀ i ∈ S, ar i) m.2 a.2) ms as) : Bun ⟨h, ar, [], []⟩ h K0 0 (mkP as) ms := by
  let γ0 : Gh := ⟨fun _ => .nils, fun _ => [], fun _ => []⟩
  refine ⟨γ0, ⟨fun k => (by rw [PT.get_leaf, UT.get_leaf]; intro cs e; cases e), fun k e hl => ?_, fun k e hl => ?_, fun k1 k2 e1 e2 hne hl1 hl2 => ?_, Nat.le_refl _, fun _ _ _ => rfl, har, fun p hp => (by cases hp), fun i cs hi => (by rcases hi with hi | hi; cases hi; rw [List.getElem?_eq_none hi]; simp)⟩, ?_⟩
  · rw [impR_mkP] at hl; simp [lk] at hl
  · rw [impR_mkP] at hl; simp [lk] at hl
  · rw [impR_mkP] at hl1; simp [lk] at hl1
  · obtain ⟨v1, _⟩ := impR_VD hc K0 0
    rw [impR_mkP] at v1 ⊢
    refine All2.mem (fun m a hma ⟨q0, q⟩ => ⟨q0, All2.mem (fun c d hd ⟨S, q1, q2⟩ => ?_) q⟩) ha
    have hv := v1 a hma d hd
    have : ∃ S, RD h d c S ∧ ∀ i ∈ S, PR ⟨h, ar, [], []⟩ γ0 ⟨0 + szR (mkP as), []⟩ i := ⟨S, q1, fun i hi => ⟨.inl (q2 i hi), fun k e hl => by simp [lk] at hl⟩⟩
    cases d <;> first | exact this | (simp only [RD] at q1)
theorem argD_pu {d d' : D} (ha : argD st d = some d') : puD d' = true := by
  cases d <;> simp only [argD] at ha
  case ow k v => split at ha <;> simp at ha; subst ha; rfl
  case sa k v o n e => split at ha <;> simp at ha; subst ha; rfl
  all_goals first
    | (simp at ha; done)
    | (simp at ha; subst ha; rfl)
theorem argsD_cl : ∀ {vs as : List (Bool × List D)}, argsD st vs = some as → clR (mkP as) = true
  | [], as, ha => by simp [argsD] at ha; subst ha; rfl
  | (g, ds) :: vs, as, ha => by
    simp only [argsD] at ha
    split at ha
    · rename_i a r h1 h2
      simp at ha
      subst ha
      have key : ∀ {ds a : List D}, argDs st ds = some a → clE (a.map E.p) = true := by
        intro ds
        induction ds with
        | nil => intro a h; simp [argDs] at h; subst h; rfl
        | cons d ds ih =>
          intro a h
          simp only [argDs] at h
          split at h
          · rename_i a' r' k1 k2
            simp at h
            subst h
            simp only [List.map_cons, clE, cl0, argD_pu k1, ih k2, Bool.and_self]
          · simp at h
      have := argsD_cl h2
      unfold mkP at this ⊢
      simp only [List.map_cons, clR, key h1, this, Bool.and_self]
    · simp at ha
theorem call_ok {cd : Nat → Option AF} {g d : Nat} {xs : List X} {vs as : List (Bool × List D)} {Q : List (Bool × List E) → List E → Prop} (hr : Rel Γ f st mf h) (hx : argsU f xs = some vs) (sh : Bool)
    (ha : argsD (if sh then frzA st vs else st) vs = some as) (hsf : sh = true → sfA (frzA st vs) vs = true) (hc : VC cd g (mkP as) Q) (hns : sh = false → ∀ rs ps, Q rs ps → nsR rs = true) :
    ∃ ms, args mf xs = some ms ∧ WC cd g ms h (fun r h' => ∃ rs, Q rs [] ∧ (∃ t, h' = h ++ t) ∧ Rel Γ (retF f (if sh then frzA st vs else st) d rs) (retS (if sh then frzA st vs else st) d rs) (setD mf d r) h') := by
  obtain ⟨γ, hr⟩ := hr
  obtain ⟨ms, m1, m2⟩ := argsU_ok hr hx
  refine ⟨ms, m1, ?_⟩
  have hcl := argsD_cl ha
  have fin : ∀ (γ1 : Gh) (st1 : St) (ar : Nat → Prop), RelG Γ γ1 f st1 mf h → (∀ i, ar i → i < h.length) → All2 (fun (m : Bool × List C) (a : Bool × List D) => m.1 = a.1 ∧ All2 (fun c d' => ∃ S, RD h d' c S ∧ ∀ i ∈ S, ar i) m.2 a.2) ms as → (∀ rs, Q rs [] → nsR rs = true ∨ ∀ i, ar i → PR Γ γ1 st1 i) →
      WC cd g ms h (fun r h' => ∃ rs, Q rs [] ∧ (∃ t, h' = h ++ t) ∧ Rel Γ (retF f st1 d rs) (retS st1 d rs) (setD mf d r) h') := by
    intro γ1 st1 ar h1 har hall hsh
    have hw := hc ⟨h, ar, [], []⟩ ms rfl (bun_pure har hcl hall)
    refine hw.mono fun r h' ⟨rs, ps, css, hq, hcl2, hv, hb⟩ => ?_
    have hb' := hb (keyC d) st1.nx
    rw [ptrs_mkP] at hb'
    have hps : ps = [] := by
      obtain ⟨γb, _, hcc⟩ := hb'
      rw [impR_snoc] at hcc
      have := (All2.snoc hcc).2.2.length
      rw [impE_len] at this
      exact List.eq_nil_of_length_eq_zero this.symm
    subst hps
    have hcl3 : clR rs = true := by
      have : ∀ (rs : List (Bool × List E)), clR (rs ++ [(true, [])]) = true → clR rs = true := by
        intro rs
        induction rs with
        | nil => intro _; rfl
        | cons a r ih => intro h; obtain ⟨g, es⟩ := a; simp only [List.cons_append, clR, Bool.and_eq_true] at h ⊢; exact ⟨h.1, ih h.2⟩
      exact this rs hcl2
    obtain ⟨γ2, k1, k2⟩ := h1.ret0 d hb' hcl3 (hsh rs hq)
    rw [hv]
    refine ⟨rs, hq, ?_, γ2, k1⟩
    obtain ⟨γb, hB, _⟩ := hb'
    refine ⟨h'.drop h.length, ?_⟩
    have : h'.take h.length = h := by
      apply List.ext_getElem?
      intro i
      rw [List.getElem?_take]
      split
      · rename_i hi; exact hB.base i hi (by simp)
      · rw [List.getElem?_eq_none (by omega)]
    rw [← this]
    have hl : (h'.take h.length).length = h.length := by rw [this]
    rw [hl]
    exact (List.take_append_drop _ _).symm
  cases sh with
  | false =>
    simp only [Bool.false_eq_true, if_false] at ha ⊢
    exact fin γ st (fun i => i < h.length) hr (fun i hi => hi) ((argsD_ok hr m2 ha).imp fun m a ⟨q0, q⟩ => ⟨q0, q.imp fun c d ⟨S, q1, _⟩ => ⟨S, q1, fun i hi => RD.lt d q1 i hi⟩⟩) (fun rs hq => .inl (hns rfl rs [] hq))
  | true =>
    simp only [if_true] at ha ⊢
    obtain ⟨γ1, k1, k2⟩ := frzA_ok vs hr
    have m3 : All2 (DG Γ γ1 (frzA st vs) h) ms vs := m2.imp fun m a ⟨q0, q⟩ => ⟨q0, q.imp fun c d hd => hd.mo k2⟩
    exact fin γ1 (frzA st vs) (fun i => i < h.length ∧ PR Γ γ1 (frzA st vs) i) k1 (fun i hi => hi.1) ((argsD_ok k1 m3 ha).imp fun m a ⟨q0, q⟩ => ⟨q0, q.imp fun c d ⟨S, q1, q2⟩ => ⟨S, q1, fun i hi => ⟨RD.lt d q1 i hi, q2 (hsf rfl) i hi⟩⟩⟩) (fun rs _ => .inr fun i hi => hi.2)
end
def nrmD : D → D
  | .nils => .sl []
  | d => d
def nrmE : E → E
  | .e (.p .nils) => .e (.p (.sl []))
  | x => x
def nrm (as : List (Bool × List E)) : List (Bool × List E) := as.map fun a => (a.1, a.2.map nrmE)
def ptOf1 : List D → List (Nat × Nat)
  | [] => []
  | .pt k v _ :: r => (k, v) :: ptOf1 r
  | _ :: r => ptOf1 r
def ptOf : List (Bool × List D) → List (Nat × Nat)
  | [] => []
  | (_, ds) :: r => ptOf1 ds ++ ptOf r
def usOk (st : St) (us : List Nat) : Bool := us.all fun k => match lk k st.es with
  | some (.sl _ _ dp _ xs) => !dp || flat xs
  | _ => true
theorem szE_nrm : ∀ es : List E, szE (es.map nrmE) = szE es
  | [] => rfl
  | x :: r => by
    have ih := szE_nrm r
    rcases x with (d | _) | _ <;> try (simp only [List.map_cons, nrmE, szE, ih]; done)
    cases d <;> simp only [List.map_cons, nrmE, szE, ih]
theorem impE_nrm : ∀ (es : List E) (k v : Nat), impE k v (es.map nrmE) = ((impE k v es).1.map nrmD, (impE k v es).2)
  | [], _, _ => rfl
  | x :: r, k, v => by
    have ih := impE_nrm r
    rcases x with (d | _) | _ <;> try (simp only [List.map_cons, nrmE, impE, ih, nrmD]; done)
    cases d <;> simp only [List.map_cons, nrmE, impE, ih, nrmD]
theorem szR_nrm : ∀ as : List (Bool × List E), szR (nrm as) = szR as
  | [] => rfl
  | (g, es) :: r => by
    have ih := szR_nrm r
    unfold nrm at ih ⊢
    simp only [List.map_cons, szR, szE_nrm, ih]
theorem impR_nrm : ∀ (as : List (Bool × List E)) (k v : Nat), impR k v (nrm as) = ((impR k v as).1.map (fun a => (a.1, a.2.map nrmD)), (impR k v as).2)
  | [], _, _ => rfl
  | (g, es) :: r, k, v => by
    have ih := impR_nrm r
    unfold nrm at ih ⊢
    simp only [List.map_cons, impR, impE_nrm, szE_nrm, ih]
theorem All2.mapR {α β δ : Type} {R : α → β → Prop} {T : α → δ → Prop} {g : β → δ} (h : ∀ a b, R a b → T a (g b)) : ∀ {xs : List α} {ys : List β}, All2 R xs ys → All2 T xs (ys.map g)
  | [], [], _ => trivial
  | _ :: _, _ :: _, hr => ⟨h _ _ hr.1, All2.mapR h hr.2⟩
theorem Bun.nrm {Γ : Cx} {h : H} {K v : Nat} {gs : List (Bool × List E)} {css : List (Bool × List C)} (hb : Bun Γ h K v gs css) : Bun Γ h K v (nrm gs) css := by
  obtain ⟨γ, h1, h2⟩ := hb
  unfold Bun
  rw [szR_nrm, impR_nrm]
  refine ⟨γ, h1, All2.mapR (fun a b hab => ⟨hab.1, All2.mapR (fun c d hd => ?_) hab.2⟩) h2⟩
  cases d <;> try exact hd
  obtain ⟨S, h3, _⟩ := hd
  simp only [RD] at h3
  exact ⟨[], RD_sl.2 (.inl ⟨rfl, rfl, .inl h3.1⟩), fun i hi => by cases hi⟩
theorem ptr1_nrm : ∀ (cs : List C) (es : List E), ptr1 cs (es.map nrmE) = ptr1 cs es
  | [], es => by cases es <;> simp [ptr1]
  | _ :: cs, [] => rfl
  | c :: cs, x :: r => by
    have ih := ptr1_nrm cs r
    rcases x with (d | _) | _ <;> try (simp only [List.map_cons, nrmE, ptr1, ih]; done)
    cases d <;> simp only [List.map_cons, nrmE, ptr1, ih]
theorem ptrs_nrm : ∀ (ms : List (Bool × List C)) (as : List (Bool × List E)), ptrs ms (nrm as) = ptrs ms as
  | [], as => by cases as <;> simp [Go.Eng.nrm, ptrs]
  | _ :: _, [] => rfl
  | (g, cs) :: ms, (g', es) :: r => by
    have ih := ptrs_nrm ms r
    unfold Go.Eng.nrm at ih ⊢
    simp only [List.map_cons, ptrs, ptr1_nrm, ih]
section
variable {Γ : Cx} {γ : Gh} {f : UT} {st : St} {mf : Fr} {h h' : H}
theorem ptr1_ok : ∀ {cs : List C} {ds : List D} {us us' : List Nat} {es : List E}, All2 (DC Γ γ st h) cs ds → expE st ds us = some (es, us') → All2 (fun c (p : Nat × Nat) => DC Γ γ st h c (.pt p.1 p.2 0)) (ptr1 cs es) (ptOf1 ds)
  | [], [], us, us', es, _, he => by simp [expE] at he; obtain ⟨rfl, rfl⟩ := he; trivial
  | c :: cs, d :: ds, us, us', es, hd, he => by
    cases d
    case pt k v o =>
      simp only [expE] at he
      split at he
      · split at he
        · simp at he
        · rename_i ho
          simp only [Bool.or_eq_true, not_or, Bool.not_eq_true, bne_eq_false_iff_eq] at ho
          split at he
          · split at he
            · rename_i q
              simp at he
              obtain ⟨rfl, rfl⟩ := he
              simp only [ptr1, ptOf1]
              obtain rfl := ho.2
              exact ⟨hd.1, ptr1_ok hd.2 q⟩
            · simp at he
          · simp at he
      · simp at he
    all_goals
      simp only [expE] at he
      split at he
      · split at he
        · rename_i q
          simp at he
          obtain ⟨rfl, rfl⟩ := he
          simp only [ptr1, ptOf1]
          exact ptr1_ok hd.2 q
        · simp at he
      · simp at he
theorem ptrs_ok : ∀ {ms : List (Bool × List C)} {vs : List (Bool × List D)} {us us' : List Nat} {as : List (Bool × List E)}, All2 (DG Γ γ st h) ms vs → expR st vs us = some (as, us') → All2 (fun c (p : Nat × Nat) => DC Γ γ st h c (.pt p.1 p.2 0)) (ptrs ms as) (ptOf vs)
  | [], [], us, us', as, _, he => by simp [expR] at he; obtain ⟨rfl, rfl⟩ := he; trivial
  | (g, cs) :: ms, (g', ds) :: vs, us, us', as, hd, he => by
    simp only [expR] at he
    split at he
    · rename_i q1
      split at he
      · rename_i q2
        simp at he
        obtain ⟨rfl, rfl⟩ := he
        simp only [ptrs, ptOf]
        exact (ptr1_ok hd.1.2 q1).append (ptrs_ok hd.2 q2)
      · simp at he
    · simp at he
theorem call1_ok {cd : Nat → Option AF} {g d : Nat} {xs : List X} {vs : List (Bool × List D)} {as as' : List (Bool × List E)} {us : List Nat} {k0 v0 ty0 ty : Nat} {ds0 : List D} {rs : List (Bool × List E)} {ys : List E0} (hr : Rel Γ f st mf h) (hx : argsU f xs = some vs)
    (hc : VC cd g as' (fun r p => r = rs ∧ p = [.pt ty ys])) (ha : expR (frzA st vs) vs [] = some (as, us)) (hn : nrm as = as') (hp : ptOf vs = [(k0, v0)]) (hl : (frzA st vs).ptr k0 v0 = some (ty0, ds0)) (hu : us.elem k0 = true) (ho : usOk (frzA st vs) us = true)
    (n1 : k0 < keyC d ∨ keyC d + szR rs ≤ k0) (n2 : k0 < 1099511627776) (n3 : keyC d + szR rs ≤ 1099511627776) :
    ∃ ms, args mf xs = some ms ∧ WC cd g ms h (fun r h' => Rel Γ (retF f (frzA st vs) d rs) (retP (frzA st vs) d rs k0 v0 ty ys us) (setD mf d r) h') := by
  obtain ⟨γ0, hr⟩ := hr
  obtain ⟨ms, m1, m2⟩ := argsU_ok hr hx
  refine ⟨ms, m1, ?_⟩
  obtain ⟨γ, k1, k2⟩ := frzA_ok vs hr
  have m3 : All2 (DG Γ γ (frzA st vs) h) ms vs := m2.imp fun m a ⟨q0, q⟩ => ⟨q0, q.imp fun c d hd => hd.mo k2⟩
  generalize frzA st vs = st1 at *
  have hku : k0 ∈ us := by simpa using hu
  have hu0 : ∀ k ∈ us, ∀ e, lk k st1.es = some e → γ.u k = [] := fun k hk e he => by
    have h1 : (match lk k st1.es with | some (.sl _ _ dp _ xs) => !dp || flat xs | _ => true) = true := List.all_eq_true.1 ho k hk
    rw [he] at h1
    have h2 := k1.en k e he
    match e, h1, h2 with
    | .pt _ _ _, _, h2 => exact h2.2.1
    | .sl v false dp t ys, _, h2 => exact h2.2.2.1
    | .sl v true dp t ys, h1, h2 =>
      rcases h2.2 with h2 | ⟨id, ty', ez, bs, S, a1, a2, a3, a4, a5, a6, a7, a8⟩
      · exact h2.2.2.1
      · rw [a8]
        split
        · rename_i hd
          simp only [hd, Bool.not_true, Bool.false_or] at h1
          exact a6.flatS h1
        · rfl
  let bs : List Nat := us.flatMap fun k => if (lk k st1.es).isSome then γ.w k else []
  have hbs : ∀ i, i ∈ bs ↔ ∃ k ∈ us, ∃ e, lk k st1.es = some e ∧ i ∈ γ.w k := fun i => by
    simp only [bs, List.mem_flatMap]
    constructor
    · rintro ⟨k, hk, hi⟩
      split at hi
      · rename_i hs
        obtain ⟨e, he⟩ := Option.isSome_iff_exists.1 hs
        exact ⟨k, hk, e, he, hi⟩
      · cases hi
    · rintro ⟨k, hk, e, he, hi⟩
      exact ⟨k, hk, by rw [he]; simpa using hi⟩
  have hown : ∀ i cs, Mine ⟨h, fun i => i < h.length ∧ PR Γ γ st1 i, bs, []⟩ i → h[i]? ≠ some (.ro cs) := fun i cs hi => by
    rcases hi with hi | hi
    · obtain ⟨k, _, e, he, hw⟩ := (hbs i).1 hi
      exact k1.own i cs ((k1.nd k e he).2 i (by simp [hw]))
    · rw [List.getElem?_eq_none hi]; simp
  have hb : Bun ⟨h, fun i => i < h.length ∧ PR Γ γ st1 i, bs, []⟩ h K0 0 as ms :=
    k1.out (Γ' := ⟨h, fun i => i < h.length ∧ PR Γ γ st1 i, bs, []⟩) ha m3 (fun i hi hp => .inl ⟨hi, hp⟩) (fun k hk e he i hi => .inl ((hbs i).2 ⟨k, hk, e, he, by rw [hu0 k hk e he] at hi; simpa using hi⟩)) (Nat.le_refl _) (fun _ _ _ => rfl) (fun i hi => hi.1) rfl hown K0 0
  have hb' := hb.nrm
  rw [hn] at hb'
  have hpt := ptrs_ok m3 ha
  rw [hp, ← ptrs_nrm, hn] at hpt
  match hpc : ptrs ms as', hpt with
  | [c0], hpt =>
  have hcp := hpt.1
  have hlk := St.ptr_spec hl
  refine (hc ⟨h, fun i => i < h.length ∧ PR Γ γ st1 i, bs, []⟩ ms rfl hb').mono fun r h' ⟨rs', ps, css, ⟨e1, e2⟩, hcl, hv, hB⟩ => ?_
  subst e1 e2
  have hB := hB (keyC d) st1.nx
  rw [hpc] at hB
  rw [hv]
  exact k1.ret1 d hlk hku (hcp.2 _ _ hlk) hbs (fun i hi => hi.2) hB hcl n1 n2 n3
end
def gu (f : UT) (s : Nat) (w : Bool) : Option D :=
  match UF f s with
  | .tup [] => some (.bool (!w))
  | _ => uv1 f (.s s)
theorem gu_ok {Γ : Cx} {γ : Gh} {f : UT} {st : St} {mf : Fr} {h : H} (hr : RelG Γ γ f st mf h) {s : Nat} {w b : Bool} (hg : gu f s w = some (.bool b)) : gv mf s w = some (.bool b) := by
  have hs := hr.slot s
  unfold gu at hg
  split at hg
  · rename_i hu
    rw [hu] at hs
    obtain ⟨ws, h1, h2⟩ := hs
    cases ws with
    | nil => simp only [gv, h1]; simpa using hg
    | cons => exact h2.elim
  · have h1 := uv1_dC hr hg rfl
    unfold gv
    split
    · rename_i hu
      simp only [ev1, evp, ev, hu] at h1
      cases h1
    · exact h1
inductive VX (cd : Nat → Option AF) (pd : List (Nat × Nat)) (R : List RV) (Q : List (Bool × List E) → List E → Prop) : List VK → UT → St → Prop
  | nil {f st rs ps} : finU f st R pd = some (rs, ps) → Q rs ps → VX cd pd R Q [] f st
  | b {i k f st} : VX cd pd R Q k f st → VX cd pd R Q (.b i :: k) f st
  | stop {P k f st} : P f st → VX cd pd R Q (.stop P :: k) f st
  | skip {k f st} : VX cd pd R Q k f st → VX cd pd R Q (.c .skip :: k) f st
  | ret {k f st rs ps} : finU f st R pd = some (rs, ps) → Q rs ps → VX cd pd R Q (.c .ret :: k) f st
  | exit {id k k' f st} : exK id k = some k' → VX cd pd R Q k' f st → VX cd pd R Q (.c (.exit id) :: k) f st
  | seq {a b k f st} : VX cd pd R Q (.c a :: .c b :: k) f st → VX cd pd R Q (.c (.seq a b) :: k) f st
  | block {id b k f st} : VX cd pd R Q (.c b :: .b id :: k) f st → VX cd pd R Q (.c (.block id b) :: k) f st
  | cond {x a c k f st} (v : Bool) : uv1 f x = some (.bool v) → VX cd pd R Q (.c (if v then a else c) :: k) f st → VX cd pd R Q (.c (.cond x a c) :: k) f st
  | ops {k f st} : VX cd pd R Q k f st → VX cd pd R Q (.c (.ops []) :: k) f st
  | i {a l k f st f' st'} : vai a f st = some (f', st') → VX cd pd R Q (.c (.ops l) :: k) f' st' → VX cd pd R Q (.c (.ops (.i a :: l)) :: k) f st
  | gy {s w d a l k f st} : gu f s w = some (.bool w) → VX cd pd R Q (.c (.ops (.i a :: l)) :: k) f st → VX cd pd R Q (.c (.ops (.g s w d a :: l)) :: k) f st
  | gn {s w d a l k f st} : gu f s w = some (.bool (!w)) → VX cd pd R Q (.c (.ops l) :: k) (setDU f d (.tup [])) st → VX cd pd R Q (.c (.ops (.g s w d a :: l)) :: k) f st
  | call {d g q xs l k f st vs as} (Q' : List (Bool × List E) → List E → Prop) (sh : Bool) : argsU f xs = some vs → argsD (if sh then frzA st vs else st) vs = some as → (sh = true → sfA (frzA st vs) vs = true) → VC cd g (mkP as) Q' → (sh = false → ∀ rs ps, Q' rs ps → nsR rs = true) →
      (∀ rs, Q' rs [] → VX cd pd R Q (.c (.ops l) :: k) (retF f (if sh then frzA st vs else st) d rs) (retS (if sh then frzA st vs else st) d rs)) → VX cd pd R Q (.c (.ops (.i (.call d g q xs) :: l)) :: k) f st
  | callp {d g xs l k f st vs as as' us k0 v0 ty0 ty ds0 rs ys} : argsU f xs = some vs → VC cd g as' (fun r p => r = rs ∧ p = [.pt ty ys]) → expR (frzA st vs) vs [] = some (as, us) → nrm as = as' → ptOf vs = [(k0, v0)] → (frzA st vs).ptr k0 v0 = some (ty0, ds0) → us.elem k0 = true → usOk (frzA st vs) us = true →
      (k0 < keyC d ∨ keyC d + szR rs ≤ k0) → k0 < 1099511627776 → keyC d + szR rs ≤ 1099511627776 → VX cd pd R Q (.c (.ops l) :: k) (retF f (frzA st vs) d rs) (retP (frzA st vs) d rs k0 v0 ty ys us) → VX cd pd R Q (.c (.ops (.i (.call d g false xs) :: l)) :: k) f st
  | clv {d g q x xs l k f st} : uv1 f x = some (.fn g) → VX cd pd R Q (.c (.ops (.i (.call d g q xs) :: l)) :: k) f st → VX cd pd R Q (.c (.ops (.i (.clv d q x xs) :: l)) :: k) f st
  | loop {ds b k f st} {σ : Type} (F : σ → UT) (S : σ → St) (J : σ → Nat → Prop) (s0 : σ) (g0 : Nat) : J s0 g0 → Weak (forgetU f ds) st (F s0) (S s0) →
      (∀ s g, J s g → VX cd pd R Q (.c b :: .stop (fun f' st' => ∃ s' g', g' < g ∧ J s' g' ∧ Weak (forgetU f' ds) st' (F s') (S s')) :: k) (F s) (S s)) → VX cd pd R Q (.c (.loop ds b) :: k) f st
theorem VX_EX {cd : Nat → Option AF} {R : List RV} {Q : V → H → Prop} {Γ : Cx} {id : Nat} {f : Fr} {h : H} : ∀ {k k' : List VK}, exK id k = some k' → EX cd id (k.map (tr Γ)) f h R Q = WS cd (k'.map (tr Γ)) f h R Q
  | [], _, he => by simp [exK] at he
  | .b i :: k, k', he => by
    simp only [exK] at he
    simp only [List.map_cons, tr, EX_b]
    split at he
    · rename_i hi; simp at he; subst he; rw [if_pos hi]
    · rename_i hi; rw [if_neg hi]; exact VX_EX he
  | .c a :: k, k', he => by simp only [exK] at he; simp only [List.map_cons, tr, EX_c]; exact VX_EX he
  | .stop P :: k, k', he => by simp only [exK] at he; simp only [List.map_cons, tr, EX_stop]; exact VX_EX he
theorem WS_stop_mono {cd : Nat → Option AF} {R : List RV} {Q : V → H → Prop} {b : AC} {P P' : Fr → H → Prop} {k : List KI} {f : Fr} {h : H} (hp : ∀ f h, P f h → P' f h) (hw : WS cd (.c b :: .stop P :: k) f h R Q) : WS cd (.c b :: .stop P' :: k) f h R Q := by
  simp only [WS, cont] at hw ⊢
  refine W.mono hw (fun e f' h' he => ?_)
  cases e with
  | norm => exact hp _ _ he
  | exit i => exact he
  | ret => exact he
theorem VX_ok {cd : Nat → Option AF} {pd : List (Nat × Nat)} {R : List RV} {Q : List (Bool × List E) → List E → Prop} {k : List VK} {f : UT} {st : St} (hv : VX cd pd R Q k f st) :
    ∀ {Γ : Cx} {mf : Fr} {h : H}, pinK Γ = pd → Rel Γ f st mf h → WS cd (k.map (tr Γ)) mf h R (Post Γ.un (pinC Γ) Q) := by
  induction hv with
  | nil h1 h2 => intro Γ mf h hp hr; simp only [List.map_nil, WS_nil]; subst hp; exact fin_ok hr h1 h2
  | b _ ih => intro Γ mf h hp hr; simp only [List.map_cons, tr, WS_b]; exact ih hp hr
  | stop h1 => intro Γ mf h hp hr; simp only [List.map_cons, tr, WS_stop]; exact ⟨_, _, hr, h1⟩
  | skip _ ih => intro Γ mf h hp hr; simp only [List.map_cons, tr, WS_skip]; exact ih hp hr
  | ret h1 h2 => intro Γ mf h hp hr; simp only [List.map_cons, tr, WS_ret]; subst hp; exact fin_ok hr h1 h2
  | exit h1 _ ih => intro Γ mf h hp hr; simp only [List.map_cons, tr, WS_exit]; rw [VX_EX h1]; exact ih hp hr
  | seq _ ih => intro Γ mf h hp hr; have := ih hp hr; simp only [List.map_cons, tr, WS_seq] at this ⊢; exact this
  | block _ ih => intro Γ mf h hp hr; have := ih hp hr; simp only [List.map_cons, tr, WS_block] at this ⊢; exact this
  | cond v h1 _ ih =>
    intro Γ mf h hp hr
    have := ih hp hr
    obtain ⟨γ, hg⟩ := hr
    simp only [List.map_cons, tr, WS_cond, uv1_dC hg h1 rfl] at this ⊢
    cases v
    · simpa only [BR_false, Bool.false_eq_true, if_false] using this
    · simpa only [BR_true, if_true] using this
  | ops _ ih => intro Γ mf h hp hr; simp only [List.map_cons, tr, WS_ops_nil]; exact ih hp hr
  | @i a l k f st f' st' h1 _ ih =>
    intro Γ mf h hp hr
    obtain ⟨mf', h', k1, k2⟩ := vai_ok hr h1
    have hpl : a.plain = true := by cases a <;> first | rfl | (simp [vai] at h1)
    simp only [List.map_cons, tr]
    rw [WS_plain a hpl, k1, ST_some]
    exact ih hp k2
  | @gy s w d a l k f st h1 h2 ih =>
    intro Γ mf h hp hr
    have := ih hp hr
    obtain ⟨γ, hg⟩ := hr
    simp only [List.map_cons, tr, WS_g, gu_ok hg h1, GB, if_true] at this ⊢
    exact this
  | @gn s w d a l k f st h1 h2 ih =>
    intro Γ mf h hp hr
    obtain ⟨γ, hg⟩ := hr
    have := ih hp ⟨γ, UR.setD hg (v := .tup []) (u := .tup []) ⟨[], rfl, trivial⟩⟩
    simp only [List.map_cons, tr, WS_g, gu_ok hg h1, GB] at this ⊢
    rw [if_neg (by cases w <;> simp)]
    exact this
  | @call d g q xs l k f st vs as Q' sh h1 h2 h3 h4 h5 _ ih =>
    intro Γ mf h hp hr
    obtain ⟨ms, m1, m2⟩ := call_ok (d := d) hr h1 sh h2 h3 h4 h5
    simp only [List.map_cons, tr]
    cases q with
    | false =>
      rw [WS_call, m1, CA_some]
      exact m2.mono fun r h' ⟨rs, q1, _, q2⟩ => ih rs q1 hp q2
    | true =>
      rw [WS_callq, m1, CA_some]
      exact m2.mono fun r h' ⟨rs, q1, q3, q2⟩ => ⟨q3, ih rs q1 hp q2⟩
  | callp h1 h2 h3 h4 h5 h6 h7 h8 h9 h10 h11 _ ih =>
    intro Γ mf h hp hr
    obtain ⟨ms, m1, m2⟩ := call1_ok hr h1 h2 h3 h4 h5 h6 h7 h8 h9 h10 h11
    simp only [List.map_cons, tr]
    rw [WS_call, m1, CA_some]
    exact m2.mono fun r h' q2 => ih hp q2
  | clv h1 _ ih =>
    intro Γ mf h hp hr
    have := ih hp hr
    obtain ⟨γ, hg⟩ := hr
    simp only [List.map_cons, tr, WS_clv, uv1_dC hg h1 rfl, CV_fn] at this ⊢
    exact this
  | @loop ds b k f st σ F S J s0 g0 h1 h2 _ ih =>
    intro Γ mf h hp hr
    simp only [List.map_cons, tr]
    refine WS_loop (fun g mf h => ∃ s, J s g ∧ Rel Γ (F s) (S s) (forget mf ds) h) g0 ⟨s0, h1, h2 Γ _ _ (Rel.forget ds hr)⟩ (fun g mf h ⟨s, q1, q2⟩ => ?_)
    have := ih s g q1 hp q2
    simp only [List.map_cons, tr] at this
    exact WS_stop_mono (fun mf' h' ⟨f', st', r1, s', g', r2, r3, r4⟩ => ⟨g', r2, s', r3, r4 Γ _ _ (Rel.forget ds r1)⟩) this
end Go.Eng
namespace Go.Eng
def enterU (f : UT) (n : Nat) : List (Bool × List D) → UT
  | [] => f
  | (g, ds) :: r => enterU (UW f n (.val g ds)) (n + 1) r
section
variable {Γ : Cx} {γ : Gh} {f : UT} {st : St} {mf : Fr} {h : H}
theorem RelG.enter : ∀ {ds : List (Bool × List D)} {ms : List (Bool × List C)} {f : UT} {mf : Fr} {n : Nat}, RelG Γ γ f st mf h → All2 (DG Γ γ st h) ms ds → RelG Γ γ (enterU f n ds) st (enter0 mf n ms) h
  | [], [], _, _, _, hr, _ => hr
  | (g, d) :: ds, (g', c) :: ms, f, mf, n, hr, ha => by
    obtain ⟨⟨h1, h2⟩, h3⟩ := ha
    simp only at h1
    subst h1
    simp only [enterU, enter0]
    exact RelG.enter (hr.set (mv := .val g' c) (uv := .val g' d) ⟨c, rfl, h2⟩) h3
theorem RelG.full (hr : RelG Γ γ UT.leaf st PT.leaf h) (n : Nat) : RelG Γ γ (UT.full n) st (PT.full n) h :=
  { hr with fr := fun k => (by rw [PT.get_full, UT.get_full]; intro cs e; cases e) }
end
theorem VC_enter {cd : Nat → Option AF} {g : Nat} {a : AF} (hg : cd g = some a) {ds : List (Bool × List D)} (hl : ds.length = a.np) {Q : List (Bool × List E) → List E → Prop}
    (hv : VX cd [] a.res Q [.c a.body] (enterU (UT.full a.dep) 0 ds) ⟨szR (mkP ds), []⟩) : VC cd g (mkP ds) Q := by
  intro Γ ms hp hb
  obtain ⟨γ, hr, hc⟩ := hb
  rw [impR_mkP] at hr hc
  rw [ptrs_mkP]
  have hm : ms.length = a.np := by rw [← hl]; exact hc.length
  refine WS_enter hg hm ?_
  have h1 := (hr.full a.dep).enter (n := 0) hc
  have h2 := VX_ok hv (Γ := Γ) (by unfold pinK; rw [hp]; rfl) ⟨γ, by simpa using h1⟩
  have e1 : Γ.un = Γ := by cases Γ; simp only at hp; subst hp; rfl
  have e2 : pinC Γ = [] := by unfold pinC; rw [hp]; rfl
  rw [e1, e2] at h2
  exact h2
def mkQ (as1 : List (Bool × List D)) (ty : Nat) (xs : List E0) (as2 : List (Bool × List D)) : List (Bool × List E) := mkP as1 ++ (false, [.pt ty xs]) :: mkP as2
def nC (as : List (Bool × List D)) : Nat := szR (mkP as)
theorem impR_app : ∀ (as bs : List (Bool × List E)) (k v : Nat), impR k v (as ++ bs) = ((impR k v as).1 ++ (impR (k + szR as) (v + szR as) bs).1, (impR k v as).2 ++ (impR (k + szR as) (v + szR as) bs).2)
  | [], bs, k, v => by simp [impR, szR]
  | (g, es) :: as, bs, k, v => by
    simp only [List.cons_append, impR, impR_app as, szR, List.append_assoc, Prod.mk.injEq, List.cons.injEq, true_and]
    rw [show k + szE es + szR as = k + (szE es + szR as) by omega, show v + szE es + szR as = v + (szE es + szR as) by omega]
    exact ⟨rfl, rfl⟩
theorem impR_mkQ (as1 : List (Bool × List D)) (ty : Nat) (xs : List E0) (as2 : List (Bool × List D)) (k v : Nat) :
    impR k v (mkQ as1 ty xs as2) = (as1 ++ (false, [.pt (k + nC as1) (v + nC as1) 0]) :: as2, (k + nC as1, .pt (v + nC as1) ty (imp0 (k + nC as1 + 1) (v + nC as1 + 1) xs).1) :: (imp0 (k + nC as1 + 1) (v + nC as1 + 1) xs).2) := by
  unfold mkQ
  rw [impR_app, impR_mkP]
  simp only [impR, impE, impR_mkP, List.append_nil, List.nil_append]
  rfl
theorem ptrs_mkQ : ∀ {as1 : List (Bool × List D)} {ty : Nat} {xs : List E0} {as2 : List (Bool × List D)} {ms1 : List (Bool × List C)} {g : Bool} {c : C} {ms2 : List (Bool × List C)}, ms1.length = as1.length → ptrs (ms1 ++ (g, [c]) :: ms2) (mkQ as1 ty xs as2) = [c]
  | [], ty, xs, as2, [], g, c, ms2, _ => by
    have := ptrs_mkP ms2 as2
    simp only [mkQ, mkP, List.map_nil, List.nil_append, ptrs, ptr1] at this ⊢
    rw [this]; rfl
  | (g', ds) :: as1, ty, xs, as2, (g1, cs) :: ms1, g, c, ms2, hl => by
    have := ptrs_mkQ (as1 := as1) (ty := ty) (xs := xs) (as2 := as2) (ms1 := ms1) (g := g) (c := c) (ms2 := ms2) (by simpa using hl)
    simp only [mkQ, mkP, List.map_cons, List.cons_append, ptrs, ptr1_mkP, List.nil_append] at this ⊢
    exact this
  | [], _, _, _, _ :: _, _, _, _, hl => by simp at hl
  | _ :: _, _, _, _, [], _, _, _, hl => by simp at hl
theorem All2.split {α β : Type} {R : α → β → Prop} : ∀ {xs : List α} {ys zs : List β}, All2 R xs (ys ++ zs) → ∃ x1 x2, xs = x1 ++ x2 ∧ All2 R x1 ys ∧ All2 R x2 zs
  | xs, [], zs, h => ⟨[], xs, rfl, trivial, h⟩
  | [], _ :: _, _, h => h.elim
  | x :: xs, y :: ys, zs, h => by
    obtain ⟨x1, x2, rfl, h1, h2⟩ := All2.split h.2
    exact ⟨x :: x1, x2, rfl, ⟨h.1, h1⟩, h2⟩
theorem VC_enterQ {cd : Nat → Option AF} {g : Nat} {a : AF} (hg : cd g = some a) {as1 as2 : List (Bool × List D)} {ty : Nat} {xs : List E0} (hl : as1.length + 1 + as2.length = a.np) {Q : List (Bool × List E) → List E → Prop}
    (hv : VX cd [(K0 + nC as1, nC as1)] a.res Q [.c a.body] (enterU (UT.full a.dep) 0 (as1 ++ (false, [.pt (K0 + nC as1) (nC as1) 0]) :: as2))
      ⟨nC as1 + (1 + xs.length + nC as2), (K0 + nC as1, .pt (nC as1) ty (imp0 (K0 + nC as1 + 1) (nC as1 + 1) xs).1) :: (imp0 (K0 + nC as1 + 1) (nC as1 + 1) xs).2⟩) : VC cd g (mkQ as1 ty xs as2) Q := by
  intro Γ ms hp hb
  obtain ⟨γ, hr, hc⟩ := hb
  have hsz : szR (mkQ as1 ty xs as2) = nC as1 + (1 + xs.length + nC as2) := by
    have : ∀ as bs : List (Bool × List E), szR (as ++ bs) = szR as + szR bs := by
      intro as bs
      induction as with
      | nil => simp [szR]
      | cons a r ih => obtain ⟨g, es⟩ := a; simp only [List.cons_append, szR, ih]; omega
    unfold mkQ nC
    rw [this]
    simp only [szR, szE]
    omega
  rw [impR_mkQ] at hr hc
  rw [hsz] at hr hc
  simp only [Nat.zero_add] at hr hc
  obtain ⟨ms1, ms2', rfl, c1, c2⟩ := All2.split hc
  match ms2', c2 with
  | (g0, cs0) :: ms2, c2 =>
  obtain ⟨⟨h0, h1⟩, c3⟩ := c2
  simp only at h0 h1
  subst h0
  match cs0, h1 with
  | [c0], h1 =>
  obtain ⟨id, e1, e2⟩ := h1.1.2 ty _ (by rw [lk_cons, if_pos rfl])
  subst e2
  rw [ptrs_mkQ c1.length]
  refine WS_enter hg (by rw [← hl]; simp only [List.length_append, List.length_cons, c1.length, c3.length]; omega) ?_
  have hr2 : RelG ⟨Γ.hb, Γ.ar, Γ.bs, [(K0 + nC as1, nC as1, id)]⟩ γ UT.leaf _ PT.leaf Γ.hb := { hr with
    pin := fun p hp => by
      simp only [List.mem_singleton] at hp
      subst hp
      exact ⟨h1.1.1, fun _ _ _ => e1⟩ }
  have h2 := (hr2.full a.dep).enter (n := 0) hc
  have h3 := VX_ok hv (Γ := ⟨Γ.hb, Γ.ar, Γ.bs, [(K0 + nC as1, nC as1, id)]⟩) rfl ⟨γ, by simpa using h2⟩
  have e3 : Cx.un ⟨Γ.hb, Γ.ar, Γ.bs, [(K0 + nC as1, nC as1, id)]⟩ = Γ := by cases Γ; simp only at hp; subst hp; rfl
  rw [e3] at h3
  exact h3
def FNU (o : Option (List (Bool × List E) × List E)) (Q : List (Bool × List E) → List E → Prop) : Prop :=
  match o with
  | some (rs, ps) => Q rs ps
  | none => False
def VXo (cd : Nat → Option AF) (pd : List (Nat × Nat)) (R : List RV) (Q : List (Bool × List E) → List E → Prop) (o : Option (UT × St)) (l : List IT) (k : List VK) : Prop :=
  match o with
  | some (f, st) => VX cd pd R Q (.c (.ops l) :: k) f st
  | none => False
def VXb (o : Option D) (A B : Prop) : Prop :=
  match o with
  | some (.bool true) => A
  | some (.bool false) => B
  | _ => False
def VXk (cd : Nat → Option AF) (pd : List (Nat × Nat)) (R : List RV) (Q : List (Bool × List E) → List E → Prop) (o : Option (List VK)) (f : UT) (st : St) : Prop :=
  match o with
  | some k => VX cd pd R Q k f st
  | none => False
section
variable {cd : Nat → Option AF} {pd : List (Nat × Nat)} {R : List RV} {Q : List (Bool × List E) → List E → Prop} {k : List VK} {f : UT} {st : St}
theorem VX_nil : VX cd pd R Q [] f st = FNU (finU f st R pd) Q := by
  apply propext
  constructor
  · intro h; cases h with | nil h1 h2 => rw [h1]; exact h2
  · intro h
    cases hx : finU f st R pd with
    | none => rw [hx] at h; exact h.elim
    | some p => obtain ⟨rs, ps⟩ := p; rw [hx] at h; exact .nil hx h
theorem VX_b {i : Nat} : VX cd pd R Q (.b i :: k) f st = VX cd pd R Q k f st := propext ⟨fun h => by cases h; assumption, .b⟩
theorem VX_stop {P : UT → St → Prop} : VX cd pd R Q (.stop P :: k) f st = P f st := propext ⟨fun h => by cases h; assumption, .stop⟩
theorem VX_skip : VX cd pd R Q (.c .skip :: k) f st = VX cd pd R Q k f st := propext ⟨fun h => by cases h; assumption, .skip⟩
theorem VX_ret : VX cd pd R Q (.c .ret :: k) f st = FNU (finU f st R pd) Q := by
  apply propext
  constructor
  · intro h; cases h with | ret h1 h2 => rw [h1]; exact h2
  · intro h
    cases hx : finU f st R pd with
    | none => rw [hx] at h; exact h.elim
    | some p => obtain ⟨rs, ps⟩ := p; rw [hx] at h; exact .ret hx h
theorem VX_exit {id : Nat} : VX cd pd R Q (.c (.exit id) :: k) f st = VXk cd pd R Q (exK id k) f st := by
  apply propext
  constructor
  · intro h; cases h with | exit h1 h2 => rw [h1]; exact h2
  · intro h
    cases hx : exK id k with
    | none => rw [hx] at h; exact h.elim
    | some k' => rw [hx] at h; exact .exit hx h
theorem VX_seq {a b : AC} : VX cd pd R Q (.c (.seq a b) :: k) f st = VX cd pd R Q (.c a :: .c b :: k) f st := propext ⟨fun h => by cases h; assumption, .seq⟩
theorem VX_block {id : Nat} {b : AC} : VX cd pd R Q (.c (.block id b) :: k) f st = VX cd pd R Q (.c b :: .b id :: k) f st := propext ⟨fun h => by cases h; assumption, .block⟩
theorem VX_cond {x : X} {a c : AC} : VX cd pd R Q (.c (.cond x a c) :: k) f st = VXb (uv1 f x) (VX cd pd R Q (.c a :: k) f st) (VX cd pd R Q (.c c :: k) f st) := by
  apply propext
  constructor
  · intro h
    cases h with
    | cond v h1 h2 => rw [h1]; cases v <;> simpa [VXb] using h2
  · intro h
    unfold VXb at h
    split at h
    · rename_i hx; exact .cond true hx (by simpa using h)
    · rename_i hx; exact .cond false hx (by simpa using h)
    · exact h.elim
theorem VX_ops : VX cd pd R Q (.c (.ops []) :: k) f st = VX cd pd R Q k f st := propext ⟨fun h => by cases h; assumption, .ops⟩
theorem VX_i {a : AI} {l : List IT} (ha : a.plain = true) : VX cd pd R Q (.c (.ops (.i a :: l)) :: k) f st = VXo cd pd R Q (vai a f st) l k := by
  apply propext
  constructor
  · intro h
    cases h with
    | i h1 h2 => rw [h1]; exact h2
    | call => simp [AI.plain] at ha
    | callp => simp [AI.plain] at ha
    | clv => simp [AI.plain] at ha
  · intro h
    cases hx : vai a f st with
    | none => rw [hx] at h; exact h.elim
    | some p => obtain ⟨f', st'⟩ := p; rw [hx] at h; exact .i hx h
theorem VX_gt {s d : Nat} {a : AI} {l : List IT} : VX cd pd R Q (.c (.ops (.g s true d a :: l)) :: k) f st = VXb (gu f s true) (VX cd pd R Q (.c (.ops (.i a :: l)) :: k) f st) (VX cd pd R Q (.c (.ops l) :: k) (setDU f d (.tup [])) st) := by
  apply propext
  constructor
  · intro h
    cases h with
    | gy h1 h2 => rw [h1]; exact h2
    | gn h1 h2 => rw [h1]; exact h2
  · intro h
    unfold VXb at h
    split at h
    · rename_i hx; exact .gy hx h
    · rename_i hx; exact .gn hx h
    · exact h.elim
theorem VX_gf {s d : Nat} {a : AI} {l : List IT} : VX cd pd R Q (.c (.ops (.g s false d a :: l)) :: k) f st = VXb (gu f s false) (VX cd pd R Q (.c (.ops l) :: k) (setDU f d (.tup [])) st) (VX cd pd R Q (.c (.ops (.i a :: l)) :: k) f st) := by
  apply propext
  constructor
  · intro h
    cases h with
    | gy h1 h2 => rw [h1]; exact h2
    | gn h1 h2 => rw [h1]; exact h2
  · intro h
    unfold VXb at h
    split at h
    · rename_i hx; exact .gn hx h
    · rename_i hx; exact .gy hx h
    · exact h.elim
def VXB (cd : Nat → Option AF) (pd : List (Nat × Nat)) (R : List RV) (Q : List (Bool × List E) → List E → Prop) (o : Option D) (kt : List VK) (ft : UT) (kf : List VK) (ff : UT) (st : St) : Prop := VXb o (VX cd pd R Q kt ft st) (VX cd pd R Q kf ff st)
theorem VXB_t {kt kf : List VK} {ft ff : UT} : VXB cd pd R Q (some (.bool true)) kt ft kf ff st = VX cd pd R Q kt ft st := rfl
theorem VXB_f {kt kf : List VK} {ft ff : UT} : VXB cd pd R Q (some (.bool false)) kt ft kf ff st = VX cd pd R Q kf ff st := rfl
theorem VXB_not {b : Bool} {kt kf : List VK} {ft ff : UT} : VXB cd pd R Q (some (.bool (!b))) kt ft kf ff st = VXB cd pd R Q (some (.bool b)) kf ff kt ft st := by cases b <;> rfl
theorem VXB_b {b : Bool} {kt kf : List VK} {ft ff : UT} (ht : b = true → VX cd pd R Q kt ft st) (hf : b = false → VX cd pd R Q kf ff st) : VXB cd pd R Q (some (.bool b)) kt ft kf ff st := by
  cases b
  · exact hf rfl
  · exact ht rfl
theorem VXB_dec {p : Prop} {_ : Decidable p} {kt kf : List VK} {ft ff : UT} (ht : p → VX cd pd R Q kt ft st) (hf : ¬ p → VX cd pd R Q kf ff st) : VXB cd pd R Q (some (.bool (decide p))) kt ft kf ff st := by
  by_cases hp : p
  · simp only [hp, decide_true, VXB_t]; exact ht hp
  · simp only [hp, decide_false, VXB_f]; exact hf hp
end
theorem VP {cd : Nat → Option AF} {pd : List (Nat × Nat)} {R : List RV} {Q : List (Bool × List E) → List E → Prop} : (∀ (k : List VK) (f : UT) (st : St) (l : List IT) d_ x_, VX cd pd R Q (.c (.ops (.i (.mov d_ x_) :: l)) :: k) f st = VXo cd pd R Q (vai (.mov d_ x_) f st) l k) ∧
    (∀ (k : List VK) (f : UT) (st : St) (l : List IT) d_ c_ a_ b_, VX cd pd R Q (.c (.ops (.i (.pick d_ c_ a_ b_) :: l)) :: k) f st = VXo cd pd R Q (vai (.pick d_ c_ a_ b_) f st) l k) ∧
    (∀ (k : List VK) (f : UT) (st : St) (l : List IT) d_ x_, VX cd pd R Q (.c (.ops (.i (.lbox d_ x_) :: l)) :: k) f st = VXo cd pd R Q (vai (.lbox d_ x_) f st) l k) ∧
    (∀ (k : List VK) (f : UT) (st : St) (l : List IT) d_ cs_, VX cd pd R Q (.c (.ops (.i (.lal d_ cs_) :: l)) :: k) f st = VXo cd pd R Q (vai (.lal d_ cs_) f st) l k) ∧
    (∀ (k : List VK) (f : UT) (st : St) (l : List IT) d_ ty_ x_, VX cd pd R Q (.c (.ops (.i (.hbox d_ ty_ x_) :: l)) :: k) f st = VXo cd pd R Q (vai (.hbox d_ ty_ x_) f st) l k) ∧
    (∀ (k : List VK) (f : UT) (st : St) (l : List IT) d_ ty_ cs_, VX cd pd R Q (.c (.ops (.i (.hal d_ ty_ cs_) :: l)) :: k) f st = VXo cd pd R Q (vai (.hal d_ ty_ cs_) f st) l k) ∧
    (∀ (k : List VK) (f : UT) (st : St) (l : List IT) d_ z_ ps_, VX cd pd R Q (.c (.ops (.i (.bld d_ z_ ps_) :: l)) :: k) f st = VXo cd pd R Q (vai (.bld d_ z_ ps_) f st) l k) ∧
    (∀ (k : List VK) (f : UT) (st : St) (l : List IT) d_ ty_ e_ n_ z_ ps_, VX cd pd R Q (.c (.ops (.i (.bsl d_ ty_ e_ n_ z_ ps_) :: l)) :: k) f st = VXo cd pd R Q (vai (.bsl d_ ty_ e_ n_ z_ ps_) f st) l k) ∧
    (∀ (k : List VK) (f : UT) (st : St) (l : List IT) d_, VX cd pd R Q (.c (.ops (.i (.bse d_) :: l)) :: k) f st = VXo cd pd R Q (vai (.bse d_) f st) l k) ∧
    (∀ (k : List VK) (f : UT) (st : St) (l : List IT) d_ e_ n_ z_ ps_, VX cd pd R Q (.c (.ops (.i (.lsl d_ e_ n_ z_ ps_) :: l)) :: k) f st = VXo cd pd R Q (vai (.lsl d_ e_ n_ z_ ps_) f st) l k) ∧
    (∀ (k : List VK) (f : UT) (st : St) (l : List IT) d_ x_ o_, VX cd pd R Q (.c (.ops (.i (.fad d_ x_ o_) :: l)) :: k) f st = VXo cd pd R Q (vai (.fad d_ x_ o_) f st) l k) ∧
    (∀ (k : List VK) (f : UT) (st : St) (l : List IT) d_ x_ i_ e_, VX cd pd R Q (.c (.ops (.i (.iad d_ x_ i_ e_) :: l)) :: k) f st = VXo cd pd R Q (vai (.iad d_ x_ i_ e_) f st) l k) ∧
    (∀ (k : List VK) (f : UT) (st : St) (l : List IT) d_ x_ i_ e_ n_, VX cd pd R Q (.c (.ops (.i (.iaa d_ x_ i_ e_ n_) :: l)) :: k) f st = VXo cd pd R Q (vai (.iaa d_ x_ i_ e_ n_) f st) l k) ∧
    (∀ (k : List VK) (f : UT) (st : St) (l : List IT) d_ r_ x_ n_ g_, VX cd pd R Q (.c (.ops (.i (.ldl d_ r_ x_ n_ g_) :: l)) :: k) f st = VXo cd pd R Q (vai (.ldl d_ r_ x_ n_ g_) f st) l k) ∧
    (∀ (k : List VK) (f : UT) (st : St) (l : List IT) d_ x_ n_ g_, VX cd pd R Q (.c (.ops (.i (.ldh d_ x_ n_ g_) :: l)) :: k) f st = VXo cd pd R Q (vai (.ldh d_ x_ n_ g_) f st) l k) ∧
    (∀ (k : List VK) (f : UT) (st : St) (l : List IT) r_ x_ v_ n_, VX cd pd R Q (.c (.ops (.i (.stl r_ x_ v_ n_) :: l)) :: k) f st = VXo cd pd R Q (vai (.stl r_ x_ v_ n_) f st) l k) ∧
    (∀ (k : List VK) (f : UT) (st : St) (l : List IT) x_ v_ n_, VX cd pd R Q (.c (.ops (.i (.sth x_ v_ n_) :: l)) :: k) f st = VXo cd pd R Q (vai (.sth x_ v_ n_) f st) l k) ∧
    (∀ (k : List VK) (f : UT) (st : St) (l : List IT) d_ op_ x_ y_, VX cd pd R Q (.c (.ops (.i (.bin d_ op_ x_ y_) :: l)) :: k) f st = VXo cd pd R Q (vai (.bin d_ op_ x_ y_) f st) l k) ∧
    (∀ (k : List VK) (f : UT) (st : St) (l : List IT) d_ n_ x_ y_, VX cd pd R Q (.c (.ops (.i (.beq d_ n_ x_ y_) :: l)) :: k) f st = VXo cd pd R Q (vai (.beq d_ n_ x_ y_) f st) l k) ∧
    (∀ (k : List VK) (f : UT) (st : St) (l : List IT) d_ n_ x_, VX cd pd R Q (.c (.ops (.i (.snil d_ n_ x_) :: l)) :: k) f st = VXo cd pd R Q (vai (.snil d_ n_ x_) f st) l k) ∧
    (∀ (k : List VK) (f : UT) (st : St) (l : List IT) d_ m_ n_ x_ y_, VX cd pd R Q (.c (.ops (.i (.geq d_ m_ n_ x_ y_) :: l)) :: k) f st = VXo cd pd R Q (vai (.geq d_ m_ n_ x_ y_) f st) l k) ∧
    (∀ (k : List VK) (f : UT) (st : St) (l : List IT) d_ x_, VX cd pd R Q (.c (.ops (.i (.neg d_ x_) :: l)) :: k) f st = VXo cd pd R Q (vai (.neg d_ x_) f st) l k) ∧
    (∀ (k : List VK) (f : UT) (st : St) (l : List IT) d_ x_, VX cd pd R Q (.c (.ops (.i (.not d_ x_) :: l)) :: k) f st = VXo cd pd R Q (vai (.not d_ x_) f st) l k) ∧
    (∀ (k : List VK) (f : UT) (st : St) (l : List IT) d_ k_ x_, VX cd pd R Q (.c (.ops (.i (.cvi d_ k_ x_) :: l)) :: k) f st = VXo cd pd R Q (vai (.cvi d_ k_ x_) f st) l k) ∧
    (∀ (k : List VK) (f : UT) (st : St) (l : List IT) d_ x_, VX cd pd R Q (.c (.ops (.i (.cbs d_ x_) :: l)) :: k) f st = VXo cd pd R Q (vai (.cbs d_ x_) f st) l k) ∧
    (∀ (k : List VK) (f : UT) (st : St) (l : List IT) d_ ty_ e_ b_ z_ x_, VX cd pd R Q (.c (.ops (.i (.mks d_ ty_ e_ b_ z_ x_) :: l)) :: k) f st = VXo cd pd R Q (vai (.mks d_ ty_ e_ b_ z_ x_) f st) l k) ∧
    (∀ (k : List VK) (f : UT) (st : St) (l : List IT) d_ e_ x_ lo_ hi_, VX cd pd R Q (.c (.ops (.i (.slc d_ e_ x_ lo_ hi_) :: l)) :: k) f st = VXo cd pd R Q (vai (.slc d_ e_ x_ lo_ hi_) f st) l k) ∧
    (∀ (k : List VK) (f : UT) (st : St) (l : List IT) d_ x_ lo_ hi_, VX cd pd R Q (.c (.ops (.i (.sls d_ x_ lo_ hi_) :: l)) :: k) f st = VXo cd pd R Q (vai (.sls d_ x_ lo_ hi_) f st) l k) ∧
    (∀ (k : List VK) (f : UT) (st : St) (l : List IT) d_ x_ n_ e_, VX cd pd R Q (.c (.ops (.i (.sla d_ x_ n_ e_) :: l)) :: k) f st = VXo cd pd R Q (vai (.sla d_ x_ n_ e_) f st) l k) ∧
    (∀ (k : List VK) (f : UT) (st : St) (l : List IT) d_ x_ o_ n_ g_, VX cd pd R Q (.c (.ops (.i (.fld d_ x_ o_ n_ g_) :: l)) :: k) f st = VXo cd pd R Q (vai (.fld d_ x_ o_ n_ g_) f st) l k) ∧
    (∀ (k : List VK) (f : UT) (st : St) (l : List IT) d_ x_ i_ e_ n_ g_, VX cd pd R Q (.c (.ops (.i (.idx d_ x_ i_ e_ n_ g_) :: l)) :: k) f st = VXo cd pd R Q (vai (.idx d_ x_ i_ e_ n_ g_) f st) l k) ∧
    (∀ (k : List VK) (f : UT) (st : St) (l : List IT) d_ x_ i_, VX cd pd R Q (.c (.ops (.i (.ids d_ x_ i_) :: l)) :: k) f st = VXo cd pd R Q (vai (.ids d_ x_ i_) f st) l k) ∧
    (∀ (k : List VK) (f : UT) (st : St) (l : List IT) d_ x_ i_, VX cd pd R Q (.c (.ops (.i (.ext d_ x_ i_) :: l)) :: k) f st = VXo cd pd R Q (vai (.ext d_ x_ i_) f st) l k) ∧
    (∀ (k : List VK) (f : UT) (st : St) (l : List IT) d_ x_, VX cd pd R Q (.c (.ops (.i (.nch d_ x_) :: l)) :: k) f st = VXo cd pd R Q (vai (.nch d_ x_) f st) l k) ∧
    (∀ (k : List VK) (f : UT) (st : St) (l : List IT) d_ s_ x_, VX cd pd R Q (.c (.ops (.i (.len d_ s_ x_) :: l)) :: k) f st = VXo cd pd R Q (vai (.len d_ s_ x_) f st) l k) ∧
    (∀ (k : List VK) (f : UT) (st : St) (l : List IT) d_ ty_ e_ b_ x_ y_, VX cd pd R Q (.c (.ops (.i (.app d_ ty_ e_ b_ x_ y_) :: l)) :: k) f st = VXo cd pd R Q (vai (.app d_ ty_ e_ b_ x_ y_) f st) l k) ∧
    (∀ (k : List VK) (f : UT) (st : St) (l : List IT) d_ e_ x_ y_, VX cd pd R Q (.c (.ops (.i (.cpy d_ e_ x_ y_) :: l)) :: k) f st = VXo cd pd R Q (vai (.cpy d_ e_ x_ y_) f st) l k) ∧
    (∀ (k : List VK) (f : UT) (st : St) (l : List IT) d_ m_ x_ y_, VX cd pd R Q (.c (.ops (.i (.mm d_ m_ x_ y_) :: l)) :: k) f st = VXo cd pd R Q (vai (.mm d_ m_ x_ y_) f st) l k) :=
  by (repeat' apply And.intro) <;> intros <;> exact VX_i rfl
def VXC (cd : Nat → Option AF) (pd : List (Nat × Nat)) (R : List RV) (Q : List (Bool × List E) → List E → Prop) (d g : Nat) (q : Bool) (l : List IT) (k : List VK) (f : UT) (st : St) (o : Option (List (Bool × List D))) : Prop :=
  (∃ vs as us as' k0 v0 ty0 ty ds0 rs ys, q = false ∧ o = some vs ∧ VC cd g as' (fun r p => r = rs ∧ p = [.pt ty ys]) ∧ expR (frzA st vs) vs [] = some (as, us) ∧ nrm as = as' ∧ ptOf vs = [(k0, v0)] ∧ (frzA st vs).ptr k0 v0 = some (ty0, ds0) ∧ us.elem k0 = true ∧ usOk (frzA st vs) us = true ∧
      (k0 < keyC d ∨ keyC d + szR rs ≤ k0) ∧ k0 < 1099511627776 ∧ keyC d + szR rs ≤ 1099511627776 ∧ VX cd pd R Q (.c (.ops l) :: k) (retF f (frzA st vs) d rs) (retP (frzA st vs) d rs k0 v0 ty ys us)) ∨
  ∃ vs as Q' sh, o = some vs ∧ argsD (if sh then frzA st vs else st) vs = some as ∧ (sh = true → sfA (frzA st vs) vs = true) ∧ VC cd g (mkP as) Q' ∧ (sh = false → ∀ rs ps, Q' rs ps → nsR rs = true) ∧
      (∀ rs, Q' rs [] → VX cd pd R Q (.c (.ops l) :: k) (retF f (if sh then frzA st vs else st) d rs) (retS (if sh then frzA st vs else st) d rs))
def VXf (cd : Nat → Option AF) (pd : List (Nat × Nat)) (R : List RV) (Q : List (Bool × List E) → List E → Prop) (d : Nat) (q : Bool) (xs : List X) (l : List IT) (k : List VK) (f : UT) (st : St) (o : Option D) : Prop :=
  match o with
  | some (.fn g) => VX cd pd R Q (.c (.ops (.i (.call d g q xs) :: l)) :: k) f st
  | _ => False
section
variable {cd : Nat → Option AF} {pd : List (Nat × Nat)} {R : List RV} {Q : List (Bool × List E) → List E → Prop} {k : List VK} {f : UT} {st : St}
theorem VX_call {d g : Nat} {q : Bool} {xs : List X} {l : List IT} : VX cd pd R Q (.c (.ops (.i (.call d g q xs) :: l)) :: k) f st = VXC cd pd R Q d g q l k f st (argsU f xs) := by
  apply propext
  constructor
  · intro h
    cases h with
    | i h1 h2 => simp [vai] at h1
    | call Q' sh h1 h2 h3 h4 h5 h6 => exact .inr ⟨_, _, Q', sh, h1, h2, h3, h4, h5, h6⟩
    | callp h1 h2 h3 h4 h5 h6 h7 h8 h9 h10 h11 h12 => exact .inl ⟨_, _, _, _, _, _, _, _, _, _, _, rfl, h1, h2, h3, h4, h5, h6, h7, h8, h9, h10, h11, h12⟩
  · rintro (⟨vs, as, us, as', k0, v0, ty0, ty, ds0, rs, ys, rfl, h1, h2, h3, h4, h5, h6, h7, h8, h9, h10, h11, h12⟩ | ⟨vs, as, Q', sh, h1, h2, h3, h4, h5, h6⟩)
    · exact .callp h1 h2 h3 h4 h5 h6 h7 h8 h9 h10 h11 h12
    · exact .call Q' sh h1 h2 h3 h4 h5 h6
theorem VX_clv {d : Nat} {q : Bool} {x : X} {xs : List X} {l : List IT} : VX cd pd R Q (.c (.ops (.i (.clv d q x xs) :: l)) :: k) f st = VXf cd pd R Q d q xs l k f st (uv1 f x) := by
  apply propext
  constructor
  · intro h
    cases h with
    | i h1 h2 => simp [vai] at h1
    | clv h1 h2 => rw [h1]; exact h2
  · intro h
    unfold VXf at h
    split at h
    · rename_i hx; exact .clv hx h
    · exact h.elim
theorem VXC_e {d g : Nat} {q : Bool} {l : List IT} {vs as : List (Bool × List D)} {rs : List (Bool × List E)} (hc : VC cd g (mkP as) (fun r _ => r = rs)) (ha : argsD st vs = some as) (hn : nsR rs = true)
    (hk : VX cd pd R Q (.c (.ops l) :: k) (retF f st d rs) (retS st d rs)) : VXC cd pd R Q d g q l k f st (some vs) :=
  .inr ⟨vs, as, fun r _ => r = rs, false, rfl, (by simpa using ha), (fun h => by cases h), hc, (fun _ r _ h => by subst h; exact hn), (fun r h => by subst h; simpa using hk)⟩
theorem VXC_p {d g : Nat} {l : List IT} {vs : List (Bool × List D)} {as as' : List (Bool × List E)} {us : List Nat} {k0 v0 ty0 ty : Nat} {ds0 : List D} {rs : List (Bool × List E)} {ys : List E0} (hc : VC cd g as' (fun r p => r = rs ∧ p = [.pt ty ys])) (he : expR (frzA st vs) vs [] = some (as, us)) (hn : nrm as = as') (hp : ptOf vs = [(k0, v0)]) (hl : (frzA st vs).ptr k0 v0 = some (ty0, ds0)) (hu : us.elem k0 = true) (ho : usOk (frzA st vs) us = true)
    (n1 : k0 < keyC d ∨ keyC d + szR rs ≤ k0) (n2 : k0 < 1099511627776) (n3 : keyC d + szR rs ≤ 1099511627776) (hk : VX cd pd R Q (.c (.ops l) :: k) (retF f (frzA st vs) d rs) (retP (frzA st vs) d rs k0 v0 ty ys us)) : VXC cd pd R Q d g false l k f st (some vs) :=
  .inl ⟨vs, as, us, as', k0, v0, ty0, ty, ds0, rs, ys, rfl, rfl, hc, he, hn, hp, hl, hu, ho, n1, n2, n3, hk⟩
theorem VX_loop {ds : List Nat} {b : AC} {σ : Type} (F : σ → UT) (S : σ → St) (J : σ → Nat → Prop) (s0 : σ) (g0 : Nat) (h0 : J s0 g0) (hw : Weak (forgetU f ds) st (F s0) (S s0))
    (hr : ∀ s g, J s g → VX cd pd R Q (.c b :: .stop (fun f' st' => ∃ s' g', g' < g ∧ J s' g' ∧ Weak (forgetU f' ds) st' (F s') (S s')) :: k) (F s) (S s)) : VX cd pd R Q (.c (.loop ds b) :: k) f st :=
  .loop F S J s0 g0 h0 hw hr
end
inductive KLe : List VK → List VK → Prop
  | nil : KLe [] []
  | c {a k k'} : KLe k k' → KLe (.c a :: k) (.c a :: k')
  | b {i k k'} : KLe k k' → KLe (.b i :: k) (.b i :: k')
  | stop {P P' k k'} : (∀ f st, P f st → P' f st) → KLe k k' → KLe (.stop P :: k) (.stop P' :: k')
theorem KLe.refl : ∀ k, KLe k k
  | [] => .nil
  | .c _ :: k => .c (KLe.refl k)
  | .b _ :: k => .b (KLe.refl k)
  | .stop _ :: k => .stop (fun _ _ h => h) (KLe.refl k)
theorem KLe.ex {id : Nat} {k k1 : List VK} : ∀ {k' : List VK}, KLe k k' → exK id k = some k1 → ∃ k1', exK id k' = some k1' ∧ KLe k1 k1' := by
  intro k' hk
  induction hk with
  | nil => intro h; simp [exK] at h
  | c _ ih => intro h; simp only [exK] at h ⊢; exact ih h
  | @b i k k' hk ih =>
    intro h
    simp only [exK] at h ⊢
    split at h
    · rename_i hi; simp at h; subst h; rw [if_pos hi]; exact ⟨_, rfl, hk⟩
    · rename_i hi; rw [if_neg hi]; exact ih h
  | stop _ _ ih => intro h; simp only [exK] at h ⊢; exact ih h
theorem VX.le {cd : Nat → Option AF} {pd : List (Nat × Nat)} {R : List RV} {Q : List (Bool × List E) → List E → Prop} {k : List VK} {f : UT} {st : St} (hv : VX cd pd R Q k f st) : ∀ {k'}, KLe k k' → VX cd pd R Q k' f st := by
  induction hv with
  | nil h1 h2 => intro k' hk; cases hk; exact .nil h1 h2
  | b _ ih => intro k' hk; cases hk with | b hk => exact .b (ih hk)
  | stop h1 => intro k' hk; cases hk with | stop hp hk => exact .stop (hp _ _ h1)
  | skip _ ih => intro k' hk; cases hk with | c hk => exact .skip (ih hk)
  | ret h1 h2 => intro k' hk; cases hk with | c hk => exact .ret h1 h2
  | exit h1 _ ih => intro k' hk; cases hk with | c hk => obtain ⟨k1, q1, q2⟩ := hk.ex h1; exact .exit q1 (ih q2)
  | seq _ ih => intro k' hk; cases hk with | c hk => exact .seq (ih (.c (.c hk)))
  | block _ ih => intro k' hk; cases hk with | c hk => exact .block (ih (.c (.b hk)))
  | cond v h1 _ ih => intro k' hk; cases hk with | c hk => exact .cond v h1 (ih (.c hk))
  | ops _ ih => intro k' hk; cases hk with | c hk => exact .ops (ih hk)
  | i h1 _ ih => intro k' hk; cases hk with | c hk => exact .i h1 (ih (.c hk))
  | gy h1 _ ih => intro k' hk; cases hk with | c hk => exact .gy h1 (ih (.c hk))
  | gn h1 _ ih => intro k' hk; cases hk with | c hk => exact .gn h1 (ih (.c hk))
  | call Q' sh h1 h2 h3 h4 h5 _ ih => intro k' hk; cases hk with | c hk => exact .call Q' sh h1 h2 h3 h4 h5 (fun rs hq => ih rs hq (.c hk))
  | callp h1 h2 h3 h4 h5 h6 h7 h8 h9 h10 h11 _ ih => intro k' hk; cases hk with | c hk => exact .callp h1 h2 h3 h4 h5 h6 h7 h8 h9 h10 h11 (ih (.c hk))
  | clv h1 _ ih => intro k' hk; cases hk with | c hk => exact .clv h1 (ih (.c hk))
  | loop F S J s0 g0 h1 h2 _ ih => intro k' hk; cases hk with | c hk => exact .loop F S J s0 g0 h1 h2 (fun s g hJ => ih s g hJ (.c (.stop (fun _ _ h => h) hk)))
def setAllU (f : UT) : List (Nat × U) → UT
  | [] => f
  | (s, v) :: r => setAllU (UW f s v) r
theorem Weak.of_eq {f f' : UT} {st st' : St} (hf : f = f') (hn : st.nx ≤ st'.nx) (hs : subS st st'.es) : Weak f st f' st' := by subst hf; exact Weak.sub hn hs
theorem VX_loop2 {cd : Nat → Option AF} {pd : List (Nat × Nat)} {R : List RV} {Q : List (Bool × List E) → List E → Prop} {k : List VK} {f : UT} {st : St} {ds : List Nat} {b : AC} {σ : Type} (f1 : UT) (hf : forgetU f ds = f1)
    (upd : σ → List (Nat × U)) (es : σ → List (Nat × En)) (J : σ → Nat → Prop) (s0 : σ) (g0 : Nat) (hu : f1 = setAllU f1 (upd s0)) (hs : subS st (es s0)) (h0 : J s0 g0)
    (round : ∀ s n g, J s g → VX cd pd R Q (.c b :: .stop (fun f' st' => ∃ s' g', g' < g ∧ J s' g' ∧ forgetU f' ds = setAllU f1 (upd s') ∧ subS st' (es s')) :: k) (setAllU f1 (upd s)) ⟨n, es s⟩) :
    VX cd pd R Q (.c (.loop ds b) :: k) f st := by
  refine VX_loop (σ := σ × Nat) (fun p => setAllU f1 (upd p.1)) (fun p => ⟨p.2, es p.1⟩) (fun p g => J p.1 g) (s0, st.nx) g0 h0 (Weak.of_eq (by rw [hf]; exact hu) (Nat.le_refl _) hs) (fun p g hJ => ?_)
  exact (round p.1 p.2 g hJ).le (.c (.stop (fun f' st' ⟨s', g', h1, h2, h3, h4⟩ => ⟨(s', st'.nx), g', h1, h2, Weak.of_eq h3 (Nat.le_refl _) h4⟩) (KLe.refl k)))
def rmK (k : Nat) : List (Nat × En) → List (Nat × En)
  | [] => []
  | (k', e) :: r => if k = k' then rmK k r else (k', e) :: rmK k r
def cln : List (Nat × En) → List (Nat × En)
  | [] => []
  | (k, e) :: r => (k, e) :: rmK k (cln r)
def ovr : List (Nat × En) → List (Nat × En) → List (Nat × En)
  | es, [] => es
  | es, (k, e) :: r => (k, e) :: rmK k (ovr es r)
theorem VX_loop3 {cd : Nat → Option AF} {pd : List (Nat × Nat)} {R : List RV} {Q : List (Bool × List E) → List E → Prop} {k : List VK} {f : UT} {st : St} {ds : List Nat} {b : AC} {σ : Type} (f1 : UT) (es0 : List (Nat × En)) (hf : forgetU f ds = f1) (he : cln st.es = es0)
    (upd : σ → List (Nat × U)) (ue : σ → List (Nat × En)) (J : σ → Nat → Prop) (s0 : σ) (g0 : Nat) (hu : f1 = setAllU f1 (upd s0)) (hs : subS st (ovr es0 (ue s0))) (h0 : J s0 g0)
    (round : ∀ s n g, J s g → VX cd pd R Q (.c b :: .stop (fun f' st' => ∃ s' g', g' < g ∧ J s' g' ∧ forgetU f' ds = setAllU f1 (upd s') ∧ subS st' (ovr es0 (ue s'))) :: k) (setAllU f1 (upd s)) ⟨n, ovr es0 (ue s)⟩) :
    VX cd pd R Q (.c (.loop ds b) :: k) f st := VX_loop2 f1 hf upd (fun s => ovr es0 (ue s)) J s0 g0 hu hs h0 round
def bl (b : Bool) : List (Bool × List E) := [(false, [.p (.bool b)])]
def it (n : Int) : List (Bool × List E) := [(false, [.p (.int .i64 n)])]
abbrev Bytes := List UInt8
def bytes (x : Bytes) : List (List D) := x.map fun b => [.int .u8 (b.toNat : Int)]
theorem bytes_len (x : Bytes) : (bytes x).length = x.length := by simp [bytes]
theorem bytes_app (x y : Bytes) : bytes x ++ bytes y = bytes (x ++ y) := by simp [bytes]
theorem flat_bytes (x : Bytes) : flat (bytes x) = true := by
  induction x with
  | nil => rfl
  | cons b x ih => simp only [bytes, List.map_cons, flat, leafs, D.leaf] at ih ⊢; simpa using ih
theorem wid_bytes (x : Bytes) : wid 1 (bytes x) = true := by
  induction x with
  | nil => rfl
  | cons b x ih => simp only [bytes, List.map_cons, wid] at ih ⊢; simpa using ih
theorem lk_hit {k : Nat} {e : En} {r : List (Nat × En)} : lk k ((k, e) :: r) = some e := by simp [lk]
end Go.Eng
set_option maxRecDepth 100000
namespace Go.Eng
theorem srcD_nils (st : St) (e : Nat) : srcD st e .nils = some ([], st, true) := by simp [srcD, St.els, wid, flat]
theorem VE : (∀ (f : UT) (st : St) d x, vai (.mov d x) f st = (match evU f x with
          | .box _ => none
          | .lsl _ _ _ => none
          | .any => none
          | v => some (UW f d v, st))) ∧
    (∀ (f : UT) (st : St) d c a b, vai (.pick d c a b) f st = (match uv1 f c with
          | some (.bool true) => match uvp f a with | some (g, cs) => some (UW f d (.val g cs), st) | none => none
          | some (.bool false) => match uvp f b with | some (g, cs) => some (UW f d (.val g cs), st) | none => none
          | _ => none)) ∧
    (∀ (f : UT) (st : St) d x, vai (.lbox d x) f st = (match UF f d with
          | .box _ => none
          | _ => match uvp f x with
            | some (_, cs) => some (UW f d (.box cs), st)
            | none => none)) ∧
    (∀ (f : UT) (st : St) d cs, vai (.lal d cs) f st = (match UF f d with
          | .box _ => none
          | _ => match cDs cs with
            | some ds => some (UW f d (.box ds), st)
            | none => none)) ∧
    (∀ (f : UT) (st : St) d ty x, vai (.hbox d ty x) f st = (match uvp f x with
          | some (_, ds) => some (UW f d (.val false [.pt d st.nx 0]), st.newp d ty ds)
          | none => none)) ∧
    (∀ (f : UT) (st : St) d ty cs, vai (.hal d ty cs) f st = (match cDs cs with
          | some ds => some (UW f d (.val false [.pt d st.nx 0]), st.newp d ty ds)
          | none => none)) ∧
    (∀ (f : UT) (st : St) d z ps, vai (.bld d z ps) f st = (match cDs z with
          | some z => match fillD f z ps with
            | some ds => some (UW f d (.val true ds), st)
            | none => none
          | none => none)) ∧
    (∀ (f : UT) (st : St) d ty esz len z ps, vai (.bsl d ty esz len z ps) f st = (match cDs z with
          | some z => match fillD f ((List.replicate len z).flatten) ps with
            | some ds => match st.dps ds with
              | some (ds', st', b) => if ds'.length = len * esz then some (UW f d (.val false [.ow d st'.nx]), st'.news d true b (some (ty, esz)) (chunks esz len ds')) else none
              | none => none
            | none => none
          | none => none)) ∧
    (∀ (f : UT) (st : St) d, vai (.bse d) f st = (some (UW f d (.val false [.ow d st.nx]), st.news d true true none []))) ∧
    (∀ (f : UT) (st : St) d esz len z ps, vai (.lsl d esz len z ps) f st = (match cDs z with
          | some z => match fillD f ((List.replicate len z).flatten) ps with
            | some ds => some (UW f d (.lsl ds len esz), st)
            | none => none
          | none => none)) ∧
    (∀ (f : UT) (st : St) d x off, vai (.fad d x off) f st = (match evU f x with
          | .lref r o => some (UW f d (.lref r (o + off)), st)
          | .val false [.pt k v o] => match st.ptr k v with
            | some _ => some (UW f d (.val false [.pt k v (o + off)]), st)
            | none => none
          | .val false [.pe x o] => some (UW f d (.val false [.pe x (o + off)]), st)
          | .val false [.px k v j o] => match st.slc k v with
            | some (true, _) => some (UW f d (.val false [.px k v j (o + off)]), st)
            | _ => none
          | _ => none)) ∧
    (∀ (f : UT) (st : St) d x i esz, vai (.iad d x i esz) f st = (match uv1 f x, uv1 f i with
          | some c, some (.int _ j) => if 0 ≤ j then (match c with
            | .sl xs => match xs[j.toNat]? with
              | some x => if x.length = esz then some (UW f d (.val false [.pe x 0]), st) else none
              | none => none
            | .ow k v => match st.slc k v with
              | some (o, _, _, xs) => match xs[j.toNat]? with
                | some x => if x.length = esz then some (UW f d (.val false [if o then .px k v j.toNat 0 else .pe x 0]), st) else none
                | none => none
              | none => none
            | .sa k v o n e => match st.ptr k v with
              | some _ => if e = esz ∧ j < (n : Int) then some (UW f d (.val false [.pt k v (o + j.toNat * esz)]), st) else none
              | none => none
            | _ => none) else none
          | _, _ => none)) ∧
    (∀ (f : UT) (st : St) d x i esz len, vai (.iaa d x i esz len) f st = (match uv1 f i with
          | some (.int _ j) =>
            if 0 ≤ j ∧ j < (len : Int) then match evU f x with
              | .lref r o => some (UW f d (.lref r (o + j.toNat * esz)), st)
              | .val false [.pt k v o] => match st.ptr k v with
                | some _ => some (UW f d (.val false [.pt k v (o + j.toNat * esz)]), st)
                | none => none
              | _ => none
            else none
          | _ => none)) ∧
    (∀ (f : UT) (st : St) d r x n g, vai (.ldl d r x n g) f st = (match evU f x with
          | .lref r' o => match UF f r with
            | .box ds => if r' = r ∧ o + n ≤ ds.length then some (UW f d (.val g ((ds.drop o).take n)), st) else none
            | _ => none
          | _ => none)) ∧
    (∀ (f : UT) (st : St) d x n g, vai (.ldh d x n g) f st = (match uv1 f x with
          | some (.pt k v o) => match st.ptr k v with
            | some (_, ds) => if o + n ≤ ds.length then some (UW f d (.val g ((ds.drop o).take n)), st) else none
            | none => none
          | some (.pe x o) => if o + n ≤ x.length then some (UW f d (.val g ((x.drop o).take n)), st) else none
          | some (.px k v j o) => match st.slc k v with
            | some (true, _, _, xs) => match xs[j]? with
              | some x => if o + n ≤ x.length then some (UW f d (.val g ((x.drop o).take n)), st) else none
              | none => none
            | _ => none
          | _ => none)) ∧
    (∀ (f : UT) (st : St) r x v n, vai (.stl r x v n) f st = (match evU f x, uvp f v with
          | .lref r' o, some (_, vs) => match UF f r with
            | .box ds => if r' = r ∧ vs.length = n ∧ o + n ≤ ds.length then some (UW f r (.box (setL ds o vs)), st) else none
            | _ => none
          | _, _ => none)) ∧
    (∀ (f : UT) (st : St) x v n, vai (.sth x v n) f st = (match uv1 f x, uvp f v with
          | some (.pt k w o), some (_, vs) => match st.ptr k w with
            | some (ty, ds) => if vs.length = n ∧ o + n ≤ ds.length then some (f, st.put k (.pt w ty (setL ds o vs))) else none
            | none => none
          | some (.px k w j o), some (_, vs) => match st.dps vs with
            | some (vs', st', b) => match st'.slc k w with
              | some (true, dp, t, xs) => match xs[j]? with
                | some x => if vs.length = n ∧ o + n ≤ x.length then some (f, st'.put k (.sl w true (dp && leafs vs && leafs x) t (xs.set j (setL x o vs')))) else none
                | none => none
              | _ => none
            | none => none
          | _, _ => none)) ∧
    (∀ (f : UT) (st : St) d op x y, vai (.bin d op x y) f st = (match uv1 f x, uv1 f y with
          | some a, some b => match binD op a b with
            | some c => some (UW f d (.val false [c]), st)
            | none => none
          | _, _ => none)) ∧
    (∀ (f : UT) (st : St) d neg x y, vai (.beq d neg x y) f st = (match uv1 f x, uv1 f y with
          | some (.bool a), some (.bool b) => some (UW f d (.val false [.bool (if neg then !(a == b) else (a == b))]), st)
          | _, _ => none)) ∧
    (∀ (f : UT) (st : St) d neg x, vai (.snil d neg x) f st = (match uv1 f x with
          | some .nils => some (UW f d (.val false [.bool (!neg)]), st)
          | some c => match st.els c with
            | some xs => if xs.isEmpty then none else some (UW f d (.val false [.bool neg]), st)
            | none => none
          | _ => none)) ∧
    (∀ (f : UT) (st : St) d n neg x y, vai (.geq d n neg x y) f st = (match uvp f x, uvp f y with
          | some (true, a), some (true, b) => if a.length = n then (match dCs a, dCs b with
            | some a, some b => match eqCs a b with
              | some r => some (UW f d (.val false [.bool (if neg then !r else r)]), st)
              | none => none
            | _, _ => none) else none
          | _, _ => none)) ∧
    (∀ (f : UT) (st : St) d x, vai (.neg d x) f st = (match uv1 f x with
          | some (.int k n) => some (UW f d (.val false [.int k (k.wrap (0 - n))]), st)
          | _ => none)) ∧
    (∀ (f : UT) (st : St) d x, vai (.not d x) f st = (match uv1 f x with
          | some (.bool b) => some (UW f d (.val false [.bool (!b)]), st)
          | _ => none)) ∧
    (∀ (f : UT) (st : St) d k x, vai (.cvi d k x) f st = (match uv1 f x with
          | some (.int _ n) => some (UW f d (.val false [.int k (k.wrap n)]), st)
          | _ => none)) ∧
    (∀ (f : UT) (st : St) d x, vai (.cbs d x) f st = (match uv1 f x with
          | some c => match st.els c with
            | some xs => match bytD xs with
              | some b => some (UW f d (.val false [.str b]), st)
              | none => none
            | none => none
          | none => none)) ∧
    (∀ (f : UT) (st : St) d ty esz bytes z x, vai (.mks d ty esz bytes z x) f st = (match uv1 f x with
          | some (.int .i64 n) => match zDs z with
            | some z' => if 0 ≤ n ∧ inRoom (n.toNat * bytes + n.toNat) = true ∧ z'.length = esz then
                  some (UW f d (.val false [.ow d st.nx]), st.news d true true (some (ty, esz)) (List.replicate n.toNat z')) else none
            | none => none
          | _ => none)) ∧
    (∀ (f : UT) (st : St) d esz x lo hi, vai (.slc d esz x lo hi) f st = (match uv1 f x with
          | some .nils => match boundU f lo 0, boundU f hi 0 with
            | some l, some u => if l = 0 ∧ u = 0 then some (UW f d (.val false [.nils]), st) else none
            | _, _ => none
          | some (.sl xs) => match boundU f lo 0, boundU f hi xs.length with
            | some l, some u => if wid esz xs = true ∧ 0 ≤ l ∧ l ≤ u ∧ u ≤ (xs.length : Int) then some (UW f d (.val false [.sl ((xs.drop l.toNat).take (u - l).toNat)]), st) else none
            | _, _ => none
          | some (.ow k v) => match st.slc k v with
            | some (_, _, t, xs) => match boundU f lo 0, boundU f hi xs.length with
              | some l, some u => if wid esz xs = true ∧ 0 ≤ l ∧ l ≤ u ∧ u ≤ (xs.length : Int) then
                  some (UW f d (.val false [.sl ((xs.drop l.toNat).take (u - l).toNat)]), st.put k (.sl v false false t xs)) else none
              | _, _ => none
            | none => none
          | some (.sa k v o n e) => match st.ptr k v with
            | some _ => match boundU f lo 0, boundU f hi n with
              | some l, some u => if e = esz ∧ 0 ≤ l ∧ l ≤ u ∧ u ≤ (n : Int) then some (UW f d (.val false [.sa k v (o + l.toNat * e) (u - l).toNat e]), st) else none
              | _, _ => none
            | none => none
          | _ => none)) ∧
    (∀ (f : UT) (st : St) d x lo hi, vai (.sls d x lo hi) f st = (match uv1 f x with
          | some (.str s) => match boundU f lo 0, boundU f hi s.size with
            | some l, some u => if 0 ≤ l ∧ l ≤ u ∧ u ≤ (s.size : Int) then some (UW f d (.val false [.str (s.extract l.toNat u.toNat)]), st) else none
            | _, _ => none
          | _ => none)) ∧
    (∀ (f : UT) (st : St) d x len esz, vai (.sla d x len esz) f st = (match uv1 f x with
          | some (.pt k v o) => match st.ptr k v with
            | some (_, ds) => if o + len * esz ≤ ds.length then some (UW f d (.val false [.sa k v o len esz]), st) else none
            | none => none
          | _ => none)) ∧
    (∀ (f : UT) (st : St) d x off n g, vai (.fld d x off n g) f st = (match uvp f x with
          | some (true, ds) => if off + n ≤ ds.length then some (UW f d (.val g ((ds.drop off).take n)), st) else none
          | _ => none)) ∧
    (∀ (f : UT) (st : St) d x i esz len g, vai (.idx d x i esz len g) f st = (match uvp f x, uv1 f i with
          | some (true, ds), some (.int _ j) =>
            if 0 ≤ j ∧ j < (len : Int) ∧ j.toNat * esz + esz ≤ ds.length then some (UW f d (.val g ((ds.drop (j.toNat * esz)).take esz)), st) else none
          | _, _ => none)) ∧
    (∀ (f : UT) (st : St) d x i, vai (.ids d x i) f st = (match uv1 f x, uv1 f i with
          | some (.str s), some (.int _ j) =>
            if 0 ≤ j then match s.data.toList[j.toNat]? with
              | some b => some (UW f d (.val false [.int .u8 (b.toNat : Int)]), st)
              | none => none
            else none
          | _, _ => none)) ∧
    (∀ (f : UT) (st : St) d x i, vai (.ext d x i) f st = (match evU f x with
          | .tup vs => match vs[i]? with
            | some (g, ds) => some (UW f d (.val g ds), st)
            | none => none
          | _ => none)) ∧
    (∀ (f : UT) (st : St) d x, vai (.nch d x) f st = (match evU f x with
          | .lref r o => some (UW f d (.lref r o), st)
          | .val false [.pt k v o] => match st.ptr k v with
            | some _ => some (UW f d (.val false [.pt k v o]), st)
            | none => none
          | .val false [.pe x o] => some (UW f d (.val false [.pe x o]), st)
          | .val false [.px k v j o] => match st.slc k v with
            | some (true, _) => some (UW f d (.val false [.px k v j o]), st)
            | _ => none
          | .val false [.fn g] => some (UW f d (.val false [.fn g]), st)
          | _ => none)) ∧
    (∀ (f : UT) (st : St) d s x, vai (.len d s x) f st = (match s, uv1 f x with
          | false, some c => match st.els c with
            | some xs => some (UW f d (.val false [.int .i64 (xs.length : Int)]), st)
            | none => none
          | true, some (.str s) => some (UW f d (.val false [.int .i64 (s.size : Int)]), st)
          | _, _ => none)) ∧
    (∀ (f : UT) (st : St) d ty esz bytes x y, vai (.app d ty esz bytes x y) f st = (match uv1 f x, srcU f st esz y with
          | some a, some (ys, st', b) => match a with
            | .nils => if inRoom (ys.length * bytes + ys.length) = true then some (UW f d (.val false [.ow d st'.nx]), st'.news d true b (some (ty, esz)) ys) else none
            | .ow k v => match st'.slc k v with
              | some (true, dp, t, xs) => if tyOk t ty esz = true ∧ inRoom ((xs.length + ys.length) * bytes + (xs.length + ys.length)) = true then
                  some (UW f d (.val false [.ow k st'.nx]), st'.news k true (dp && b) (some (ty, esz)) (xs ++ ys)) else none
              | _ => none
            | _ => none
          | _, _ => none)) ∧
    (∀ (f : UT) (st : St) d esz x y, vai (.cpy d esz x y) f st = (match uv1 f x, srcU f st esz y with
          | some (.ow k v), some (ys, _, _) => match st.slc k v with
            | some (true, dp, t, xs) => if flat ys = true ∧ flat xs = true ∧ xs.isEmpty = false ∧ wid esz xs = true ∧ wid esz ys = true then
                some (UW f d (.val false [.int .i64 ((min ys.length xs.length : Nat) : Int)]), st.put k (.sl v true dp t (ys.take (min ys.length xs.length) ++ xs.drop (min ys.length xs.length)))) else none
            | _ => none
          | some (.sa k v o n e), some (ys, _, _) => match st.ptr k v with
            | some (ty, ds) => if flat ys = true ∧ e = esz ∧ wid esz ys = true ∧ o + n * e ≤ ds.length then
                some (UW f d (.val false [.int .i64 ((min ys.length n : Nat) : Int)]), st.put k (.pt v ty (setL ds o (ys.take (min ys.length n)).flatten))) else none
            | none => none
          | _, _ => none)) ∧
    (∀ (f : UT) (st : St) d mx x y, vai (.mm d mx x y) f st = (match uv1 f x, uv1 f y with
          | some (.int .i64 a), some (.int .i64 b) => some (UW f d (.val false [.int .i64 (if mx then (if a < b then b else a) else (if b < a then b else a))]), st)
          | _, _ => none)) ∧
    (∀ f s, UF f s = UT.get f (K.of s)) ∧
    (∀ f s v, UW f s v = UT.set f (K.of s) v) ∧
    (∀ k, UT.get .leaf k = .any) ∧
    (∀ l v r, UT.get (.node l v r) .z = v) ∧
    (∀ l v r k, UT.get (.node l v r) (.o k) = l.get k) ∧
    (∀ l v r k, UT.get (.node l v r) (.i k) = r.get k) ∧
    (∀ v, UT.set .leaf .z v = .node .leaf v .leaf) ∧
    (∀ k v, UT.set .leaf (.o k) v = .node (UT.set .leaf k v) .any .leaf) ∧
    (∀ k v, UT.set .leaf (.i k) v = .node .leaf .any (UT.set .leaf k v)) ∧
    (∀ l u r v, UT.set (.node l u r) .z v = .node l v r) ∧
    (∀ l u r k v, UT.set (.node l u r) (.o k) v = .node (l.set k v) u r) ∧
    (∀ l u r k v, UT.set (.node l u r) (.i k) v = .node l u (r.set k v)) ∧
    (UT.full 0 = .leaf) ∧
    (UT.full 1 = .node .leaf .any .leaf) ∧
    (∀ d, UT.full (d + 1) = .node (UT.full d) .any (UT.full d)) ∧
    (∀ f n, enterU f n [] = f) ∧
    (∀ f n g ds r, enterU f n ((g, ds) :: r) = enterU (UW f n (.val g ds)) (n + 1) r) ∧
    (∀ f d u, setDU f d u = (match d with | 0 => f | d + 1 => UW f d u)) ∧
    (∀ f, forgetU f [] = f) ∧
    (∀ f d ds, forgetU f (d :: ds) = forgetU (UW f d .any) ds) ∧
    (∀ f v, evU f (.c v) = cU v) ∧
    (∀ f t, evU f (.s t) = (match UF f t with | .box _ => .lref t 0 | v => v)) ∧
    (∀ g cs, cU (.val g cs) = (match cDs cs with | some ds => .val g ds | none => .any)) ∧
    (∀ f x, uvp f x = (match evU f x with | .val g ds => some (g, ds) | _ => none)) ∧
    (∀ f x, uv1 f x = (match evU f x with | .val false [d] => some d | _ => none)) ∧
    (∀ f ds, fillD f ds [] = some ds) ∧
    (∀ f ds off sz x r, fillD f ds ((off, sz, x) :: r) = (match uvp f x with | some (_, vs) => if vs.length = sz ∧ off + sz ≤ ds.length then fillD f (setL ds off vs) r else none | none => none)) ∧
    (∀ k n, cD (.int k n) = some (.int k n)) ∧
    (∀ b, cD (.bool b) = some (.bool b)) ∧
    (∀ s, cD (.str s) = some (.str s)) ∧
    (∀ g, cD (.fn g) = some (.fn g)) ∧
    (∀ k n, dC (.int k n) = some (.int k n)) ∧
    (∀ b, dC (.bool b) = some (.bool b)) ∧
    (∀ s, dC (.str s) = some (.str s)) ∧
    (∀ g, dC (.fn g) = some (.fn g)) ∧
    (cD .nilf = some .nilf) ∧
    (cD .nili = some .nili) ∧
    (cD .nilp = some .nilp) ∧
    (cD .nils = some .nils) ∧
    (cD .emp = some (.sl [])) ∧
    (cDs [] = some []) ∧
    (∀ c cs, cDs (c :: cs) = (match cD c, cDs cs with | some d, some ds => some (d :: ds) | _, _ => none)) ∧
    (∀ k n, zD (.int k n) = some (.int k n)) ∧
    (∀ b, zD (.bool b) = some (.bool b)) ∧
    (∀ s, zD (.str s) = some (.str s)) ∧
    (zD .nils = some (.sl [])) ∧
    (zD .nilf = some .nilf) ∧
    (zDs [] = some []) ∧
    (∀ c cs, zDs (c :: cs) = (match zD c, zDs cs with | some d, some ds => some (d :: ds) | _, _ => none)) ∧
    (∀ f s w, gu f s w = (match UF f s with | .tup [] => some (.bool (!w)) | _ => uv1 f (.s s))) ∧
    (eqCs [] [] = some true) ∧
    (∀ x xs y ys, eqCs (x :: xs) (y :: ys) = (match eqC x y, eqCs xs ys with | some a, some b => some (a && b) | _, _ => none)) ∧
    (∀ k a k' b, eqC (.int k a) (.int k' b) = (if k = k' then some (a == b) else none)) ∧
    (dCs [] = some []) ∧
    (∀ c cs, dCs (c :: cs) = (match dC c, dCs cs with | some d, some ds => some (d :: ds) | _, _ => none)) ∧
    (∀ k n, D.leaf (.int k n) = true) ∧
    (∀ b, D.leaf (.bool b) = true) ∧
    (∀ s, D.leaf (.str s) = true) ∧
    (∀ g, D.leaf (.fn g) = true) ∧
    (D.leaf .nilf = true) ∧
    (D.leaf .nili = true) ∧
    (∀ xs, D.leaf (.sl xs) = false) ∧
    (D.leaf .nils = false) ∧
    (∀ k v, D.leaf (.ow k v) = false) ∧
    (leafs [] = true) ∧
    (∀ d ds, leafs (d :: ds) = (d.leaf && leafs ds)) ∧
    (flat [] = true) ∧
    (∀ x xs, flat (x :: xs) = (leafs x && flat xs)) ∧
    (∀ e, wid e [] = true) ∧
    (∀ e x xs, wid e (x :: xs) = ((x.length == e) && wid e xs)) ∧
    (∀ e ds, chunks e 0 ds = []) ∧
    (∀ e n ds, chunks e (n + 1) ds = ds.take e :: chunks e n (ds.drop e)) ∧
    (∀ st k v, St.slc st k v = (match lk k st.es with | some (.sl v' o d t xs) => if v' = v then some (o, d, t, xs) else none | _ => none)) ∧
    (∀ st k v, St.ptr st k v = (match lk k st.es with | some (.pt v' ty ds) => if v' = v then some (ty, ds) else none | _ => none)) ∧
    (∀ st k e, St.put st k e = ⟨st.nx, (k, e) :: st.es⟩) ∧
    (∀ st k own deep ty xs, St.news st k own deep ty xs = ⟨st.nx + 1, (k, .sl st.nx own deep ty xs) :: st.es⟩) ∧
    (∀ st k ty ds, St.newp st k ty ds = ⟨st.nx + 1, (k, .pt st.nx ty ds) :: st.es⟩) ∧
    (∀ k, lk k [] = none) ∧
    (∀ k k1 e r, lk k ((k1, e) :: r) = if k = k1 then some e else lk k r) ∧
    (∀ st, St.dp st .nils = some (.sl [], st, true)) ∧
    (∀ st xs, St.dp st (.sl xs) = some (.sl xs, st, false)) ∧
    (∀ st k v, St.dp st (.ow k v) = (match st.slc k v with | some (o, d, t, xs) => some (.sl xs, st.put k (.sl v false false t xs), o && d) | none => none)) ∧
    (∀ st k n, St.dp st (.int k n) = some (.int k n, st, true)) ∧
    (∀ st b, St.dp st (.bool b) = some (.bool b, st, true)) ∧
    (∀ st s, St.dp st (.str s) = some (.str s, st, true)) ∧
    (∀ st g, St.dp st (.fn g) = some (.fn g, st, true)) ∧
    (∀ st, St.dps st [] = some ([], st, true)) ∧
    (∀ st d ds, St.dps st (d :: ds) = (match st.dp d with | some (d', st', b) => (match st'.dps ds with | some (ds', st'', b') => some (d' :: ds', st'', b && b') | none => none) | none => none)) ∧
    (∀ st, St.els st .nils = some []) ∧
    (∀ st xs, St.els st (.sl xs) = some xs) ∧
    (∀ st k v, St.els st (.ow k v) = (match st.slc k v with | some (_, _, _, xs) => some xs | none => none)) ∧
    (∀ st k v o n e, St.els st (.sa k v o n e) = (match st.ptr k v with | some (_, ds) => if o + n * e ≤ ds.length ∧ leafs ((ds.drop o).take (n * e)) = true then some (chunks e n ((ds.drop o).take (n * e))) else none | none => none)) ∧
    (∀ f n, boundU f none n = some (n : Int)) ∧
    (∀ f x n, boundU f (some x) n = (match uv1 f x with | some (.int _ i) => some i | _ => none)) ∧
    (∀ st e s, srcD st e (.str s) = if e = 1 then some (strD s, st, true) else none) ∧
    (∀ st e, srcD st e .nils = some ([], st, true)) ∧
    (∀ st e xs, srcD st e (.sl xs) = if wid e xs = true then (if flat xs = true then some (xs, st, true) else some (xs, st, false)) else none) ∧
    (∀ st e k v, srcD st e (.ow k v) = (match St.els st (.ow k v) with | some ys => if wid e ys = true then (if flat ys = true then some (ys, st, true) else (match st.slc k v with | some (o, dp, t, xs) => some (ys, st.put k (.sl v o false t xs), o && dp) | none => none)) else none | none => none)) ∧
    (∀ f st e t, srcU f st e (.s t) = (match UF f t with | .lsl ds n e' => if e' = e ∧ ds.length = n * e then (match st.dps ds with | some (ds', st', b) => some (chunks e n ds', st', b) | none => none) else none | .val false [d] => srcD st e d | _ => none)) ∧
    (∀ f st e c, srcU f st e (.c (.val false [c])) = (match cD c with | some d => srcD st e d | none => none)) ∧
    (∀ op x y, binD op x y = (match dC x, dC y with | some a, some b => (match bin2 op a b with | some c => cD c | none => none) | _, _ => none)) ∧
    (∀ ty e, tyOk none ty e = true) ∧
    (∀ p ty e, tyOk (some p) ty e = decide (p = (ty, e))) ∧
    (∀ f st R pd, finU f st R pd = (match resLU f R with | some ds => (match expR st ds [] with | some (rs, us) => (match expE st (pinD pd) us with | some (ps, _) => some (rs, ps) | none => none) | none => none) | none => none)) ∧
    (∀ f t, res1U f (.tmp t) = uvp f (.s t)) ∧
    (∀ f s n g, res1U f (.cell s n g) = (match UF f s with | .box ds => if n = ds.length then some (g, ds) else none | _ => none)) ∧
    (∀ f, resLU f [] = some []) ∧
    (∀ f r rs, resLU f (r :: rs) = (match res1U f r, resLU f rs with | some v, some vs => some (v :: vs) | _, _ => none)) ∧
    (pinD [] = []) ∧
    (∀ p r, pinD (p :: r) = .pt p.1 p.2 0 :: pinD r) ∧
    (∀ st us, expR st [] us = some ([], us)) ∧
    (∀ st g ds r us, expR st ((g, ds) :: r) us = (match expE st ds us with | some (es, us') => (match expR st r us' with | some (rs, us'') => some ((g, es) :: rs, us'') | none => none) | none => none)) ∧
    (∀ st us, expE st [] us = some ([], us)) ∧
    (∀ st k v o r us, expE st (.pt k v o :: r) us = (match st.ptr k v with | some (ty, ds) => if us.elem k || o != 0 then none else (match exp0 st ds (k :: us) with | some (xs, us') => (match expE st r us' with | some (es, us'') => some (.pt ty xs :: es, us'') | none => none) | none => none) | none => none)) ∧
    (∀ st k n r us, expE st (.int k n :: r) us = (match expE st r us with | some (es, us'') => some (.e (.p (.int k n)) :: es, us'') | none => none)) ∧
    (∀ st k n r us, exp0 st (.int k n :: r) us = (match exp0 st r us with | some (es, us'') => some (.p (.int k n) :: es, us'') | none => none)) ∧
    (∀ st b r us, expE st (.bool b :: r) us = (match expE st r us with | some (es, us'') => some (.e (.p (.bool b)) :: es, us'') | none => none)) ∧
    (∀ st b r us, exp0 st (.bool b :: r) us = (match exp0 st r us with | some (es, us'') => some (.p (.bool b) :: es, us'') | none => none)) ∧
    (∀ st s r us, expE st (.str s :: r) us = (match expE st r us with | some (es, us'') => some (.e (.p (.str s)) :: es, us'') | none => none)) ∧
    (∀ st s r us, exp0 st (.str s :: r) us = (match exp0 st r us with | some (es, us'') => some (.p (.str s) :: es, us'') | none => none)) ∧
    (∀ st g r us, expE st (.fn g :: r) us = (match expE st r us with | some (es, us'') => some (.e (.p (.fn g)) :: es, us'') | none => none)) ∧
    (∀ st g r us, exp0 st (.fn g :: r) us = (match exp0 st r us with | some (es, us'') => some (.p (.fn g) :: es, us'') | none => none)) ∧
    (∀ st xs r us, expE st (.sl xs :: r) us = (match expE st r us with | some (es, us'') => some (.e (.p (.sl xs)) :: es, us'') | none => none)) ∧
    (∀ st xs r us, exp0 st (.sl xs :: r) us = (match exp0 st r us with | some (es, us'') => some (.p (.sl xs) :: es, us'') | none => none)) ∧
    (∀ st  r us, expE st (.nilf :: r) us = (match expE st r us with | some (es, us'') => some (.e (.p (.nilf)) :: es, us'') | none => none)) ∧
    (∀ st  r us, exp0 st (.nilf :: r) us = (match exp0 st r us with | some (es, us'') => some (.p (.nilf) :: es, us'') | none => none)) ∧
    (∀ st  r us, expE st (.nili :: r) us = (match expE st r us with | some (es, us'') => some (.e (.p (.nili)) :: es, us'') | none => none)) ∧
    (∀ st  r us, exp0 st (.nili :: r) us = (match exp0 st r us with | some (es, us'') => some (.p (.nili) :: es, us'') | none => none)) ∧
    (∀ st  r us, expE st (.nilp :: r) us = (match expE st r us with | some (es, us'') => some (.e (.p (.nilp)) :: es, us'') | none => none)) ∧
    (∀ st  r us, exp0 st (.nilp :: r) us = (match exp0 st r us with | some (es, us'') => some (.p (.nilp) :: es, us'') | none => none)) ∧
    (∀ st  r us, expE st (.nils :: r) us = (match expE st r us with | some (es, us'') => some (.e (.p (.nils)) :: es, us'') | none => none)) ∧
    (∀ st  r us, exp0 st (.nils :: r) us = (match exp0 st r us with | some (es, us'') => some (.p (.nils) :: es, us'') | none => none)) ∧
    (∀ st k v r us, expE st (.ow k v :: r) us = (match exp0 st [.ow k v] us with | some ([x], us') => (match expE st r us' with | some (es, us'') => some (.e x :: es, us'') | none => none) | _ => none)) ∧
    (∀ st us, exp0 st [] us = some ([], us)) ∧
    (∀ st k v r us, exp0 st (.ow k v :: r) us = (match st.slc k v with | some (true, dp, t, xs) => if us.elem k then none else (match exp0 st r (k :: us) with | some (es, us') => some (.o dp t xs :: es, us') | none => none) | some (false, _, _, xs) => (match exp0 st r us with | some (es, us') => some (.p (.sl xs) :: es, us') | none => none) | none => none)) ∧
    (∀ id i k, exK id (.b i :: k) = if id = i then some k else exK id k) ∧
    (∀ id a k, exK id (.c a :: k) = exK id k) ∧
    (∀ id P k, exK id (.stop P :: k) = exK id k) ∧
    (szE [] = 0) ∧
    (∀ x r, szE (.e x :: r) = 1 + szE r) ∧
    (∀ t xs r, szE (.pt t xs :: r) = 1 + xs.length + szE r) ∧
    (szR [] = 0) ∧
    (∀ g es r, szR ((g, es) :: r) = szE es + szR r) ∧
    (mkP [] = []) ∧
    (∀ g ds r, mkP ((g, ds) :: r) = (g, ds.map E.p) :: mkP r) ∧
    (∀ f, argsU f [] = some []) ∧
    (∀ f x xs, argsU f (x :: xs) = (match uvp f x, argsU f xs with | some v, some vs => some (v :: vs) | _, _ => none)) ∧
    (∀ st, argD st .nils = some (.sl [])) ∧
    (∀ st k v, argD st (.ow k v) = (match st.slc k v with | some (_, _, _, xs) => some (.sl xs) | none => none)) ∧
    (∀ st k n, argD st (.int k n) = some (.int k n)) ∧
    (∀ st b, argD st (.bool b) = some (.bool b)) ∧
    (∀ st s, argD st (.str s) = some (.str s)) ∧
    (∀ st g, argD st (.fn g) = some (.fn g)) ∧
    (∀ st xs, argD st (.sl xs) = some (.sl xs)) ∧
    (∀ st , argD st (.nilf) = some (.nilf)) ∧
    (∀ st , argD st (.nili) = some (.nili)) ∧
    (∀ st k v o n e, argD st (.sa k v o n e) = (match st.els (.sa k v o n e) with | some xs => some (.sl xs) | none => none)) ∧
    (∀ st, argDs st [] = some []) ∧
    (∀ st d ds, argDs st (d :: ds) = (match argD st d, argDs st ds with | some a, some r => some (a :: r) | _, _ => none)) ∧
    (∀ st, argsD st [] = some []) ∧
    (∀ st g ds r, argsD st ((g, ds) :: r) = (match argDs st ds, argsD st r with | some a, some b => some ((g, a) :: b) | _, _ => none)) ∧
    (∀ st k v, frzD st (.ow k v) = (match st.slc k v with | some (_, _, t, xs) => st.put k (.sl v false false t xs) | none => st)) ∧
    (∀ st k n, frzD st (.int k n) = st) ∧
    (∀ st k n, sfD st (.int k n) = true) ∧
    (∀ st b, frzD st (.bool b) = st) ∧
    (∀ st b, sfD st (.bool b) = true) ∧
    (∀ st s, frzD st (.str s) = st) ∧
    (∀ st s, sfD st (.str s) = true) ∧
    (∀ st g, frzD st (.fn g) = st) ∧
    (∀ st g, sfD st (.fn g) = true) ∧
    (∀ st xs, frzD st (.sl xs) = st) ∧
    (∀ st xs, sfD st (.sl xs) = true) ∧
    (∀ st , frzD st (.nils) = st) ∧
    (∀ st , sfD st (.nils) = true) ∧
    (∀ st k v, sfD st (.ow k v) = (match st.slc k v with | some (false, _) => true | _ => false)) ∧
    (∀ st, frzDs st [] = st) ∧
    (∀ st d ds, frzDs st (d :: ds) = frzDs (frzD st d) ds) ∧
    (∀ st, frzA st [] = st) ∧
    (∀ st g ds r, frzA st ((g, ds) :: r) = frzA (frzDs st ds) r) ∧
    (∀ st, sfDs st [] = true) ∧
    (∀ st d ds, sfDs st (d :: ds) = (sfD st d && sfDs st ds)) ∧
    (∀ st, sfA st [] = true) ∧
    (∀ st g ds r, sfA st ((g, ds) :: r) = (sfDs st ds && sfA st r)) ∧
    (∀ f st d rs, retF f st d rs = setDU f d (valU (impR (keyC d) st.nx rs).1)) ∧
    (∀ st d rs, retS st d rs = ⟨st.nx + szR rs, (impR (keyC d) st.nx rs).2 ++ st.es⟩) ∧
    (∀ g d, valU [(g, d)] = .val g d) ∧
    (valU [] = .tup []) ∧
    (∀ a b l, valU (a :: b :: l) = .tup (a :: b :: l)) ∧
    (∀ d, keyC d = 8192 * (d + 1)) ∧
    (∀ k v, impR k v [] = ([], [])) ∧
    (∀ k v g es r, impR k v ((g, es) :: r) = ((g, (impE k v es).1) :: (impR (k + szE es) (v + szE es) r).1, (impE k v es).2 ++ (impR (k + szE es) (v + szE es) r).2)) ∧
    (∀ k v, impE k v [] = ([], [])) ∧
    (∀ k v d r, impE k v (.e (.p d) :: r) = (d :: (impE (k + 1) (v + 1) r).1, (impE (k + 1) (v + 1) r).2)) ∧
    (∀ k v dp t xs r, impE k v (.e (.o dp t xs) :: r) = (.ow k v :: (impE (k + 1) (v + 1) r).1, (k, .sl v true dp t xs) :: (impE (k + 1) (v + 1) r).2)) ∧
    (∀ x, E.p x = .e (.p x)) ∧
    (∀ a b c, E.o a b c = .e (.o a b c)) ∧
    (∀ A B, VXb (some (.bool true)) A B = A) ∧
    (∀ A B, VXb (some (.bool false)) A B = B) ∧
    (∀ (Q : List (Bool × List E) → List E → Prop) rs ps, FNU (some (rs, ps)) Q = Q rs ps) ∧
    (∀ f, setAllU f [] = f) ∧
    (∀ f s v r, setAllU f ((s, v) :: r) = setAllU (UW f s v) r) ∧
    (∀ st, subS st [] = True) ∧
    (∀ st k e r, subS st ((k, e) :: r) = ((match lk k st.es with | some e0 => EnLe e0 e | none => False) ∧ subS st r)) ∧
    (∀ v o dp t xs v' o' dp' t' xs', EnLe (.sl v o dp t xs) (.sl v' o' dp' t' xs') = (v' = v ∧ xs' = xs ∧ ((o' = o ∧ dp' = dp ∧ t' = t) ∨ (o = true ∧ o' = true ∧ xs = [] ∧ t = none)))) ∧
    (∀ v ty ds v' ty' ds', EnLe (.pt v ty ds) (.pt v' ty' ds') = (v' = v ∧ ty' = ty ∧ ds' = ds)) ∧
    (∀ (cs : List D) o, setL cs o [] = cs) ∧
    (∀ (cs : List D) o v vs, setL cs o (v :: vs) = setL (cs.set o v) (o + 1) vs) ∧
    (∀ k, rmK k [] = []) ∧
    (∀ k k1 e r, rmK k ((k1, e) :: r) = if k = k1 then rmK k r else (k1, e) :: rmK k r) ∧
    (cln [] = []) ∧
    (∀ k e r, cln ((k, e) :: r) = (k, e) :: rmK k (cln r)) ∧
    (∀ es, ovr es [] = es) ∧
    (∀ es k e r, ovr es ((k, e) :: r) = (k, e) :: rmK k (ovr es r)) := by
  (repeat' apply And.intro) <;> intros <;> first | rfl | exact srcD_nils _ _ | (simp only [pinD, List.map_cons]; done) | (rename_i t xs r; simp [szE])
theorem VXR {cd : Nat → Option AF} {pd : List (Nat × Nat)} {R : List RV} {Q : List (Bool × List E) → List E → Prop} :
    (∀ f st, VX cd pd R Q [] f st = FNU (finU f st R pd) Q) ∧ (∀ i k f st, VX cd pd R Q (.b i :: k) f st = VX cd pd R Q k f st) ∧ (∀ P k f st, VX cd pd R Q (.stop P :: k) f st = P f st) ∧ (∀ k f st, VX cd pd R Q (.c .skip :: k) f st = VX cd pd R Q k f st) ∧
    (∀ k f st, VX cd pd R Q (.c .ret :: k) f st = FNU (finU f st R pd) Q) ∧ (∀ id k f st, VX cd pd R Q (.c (.exit id) :: k) f st = VXk cd pd R Q (exK id k) f st) ∧ (∀ a b k f st, VX cd pd R Q (.c (.seq a b) :: k) f st = VX cd pd R Q (.c a :: .c b :: k) f st) ∧
    (∀ id b k f st, VX cd pd R Q (.c (.block id b) :: k) f st = VX cd pd R Q (.c b :: .b id :: k) f st) ∧ (∀ x a c k f st, VX cd pd R Q (.c (.cond x a c) :: k) f st = VXB cd pd R Q (uv1 f x) (.c a :: k) f (.c c :: k) f st) ∧
    (∀ k f st, VX cd pd R Q (.c (.ops []) :: k) f st = VX cd pd R Q k f st) ∧ (∀ s d a l k f st, VX cd pd R Q (.c (.ops (.g s true d a :: l)) :: k) f st = VXB cd pd R Q (gu f s true) (.c (.ops (.i a :: l)) :: k) f (.c (.ops l) :: k) (setDU f d (.tup [])) st) ∧
    (∀ s d a l k f st, VX cd pd R Q (.c (.ops (.g s false d a :: l)) :: k) f st = VXB cd pd R Q (gu f s false) (.c (.ops l) :: k) (setDU f d (.tup [])) (.c (.ops (.i a :: l)) :: k) f st) ∧
    (∀ f st l k, VXo cd pd R Q (some (f, st)) l k = VX cd pd R Q (.c (.ops l) :: k) f st) ∧ (∀ kt ft kf ff st, VXB cd pd R Q (some (.bool true)) kt ft kf ff st = VX cd pd R Q kt ft st) ∧ (∀ kt ft kf ff st, VXB cd pd R Q (some (.bool false)) kt ft kf ff st = VX cd pd R Q kf ff st) ∧ (∀ b kt ft kf ff st, VXB cd pd R Q (some (.bool (!b))) kt ft kf ff st = VXB cd pd R Q (some (.bool b)) kf ff kt ft st) ∧ (∀ d g q xs l k f st, VX cd pd R Q (.c (.ops (.i (.call d g q xs) :: l)) :: k) f st = VXC cd pd R Q d g q l k f st (argsU f xs)) ∧ (∀ d q x xs l k f st, VX cd pd R Q (.c (.ops (.i (.clv d q x xs) :: l)) :: k) f st = VXf cd pd R Q d q xs l k f st (uv1 f x)) ∧ (∀ d q xs l k f st g, VXf cd pd R Q d q xs l k f st (some (.fn g)) = VX cd pd R Q (.c (.ops (.i (.call d g q xs) :: l)) :: k) f st) ∧ (∀ k f st, VXk cd pd R Q (some k) f st = VX cd pd R Q k f st) :=
  ⟨fun _ _ => VX_nil, fun _ _ _ _ => VX_b, fun _ _ _ _ => VX_stop, fun _ _ _ => VX_skip, fun _ _ _ => VX_ret, fun _ _ _ _ => VX_exit, fun _ _ _ _ _ => VX_seq, fun _ _ _ _ _ => VX_block, fun _ _ _ _ _ _ => VX_cond, fun _ _ _ => VX_ops, fun _ _ _ _ _ _ _ => VX_gt, fun _ _ _ _ _ _ _ => VX_gf, fun _ _ _ _ => rfl, fun _ _ _ _ _ => rfl, fun _ _ _ _ _ => rfl, fun _ _ _ _ _ _ => VXB_not, fun _ _ _ _ _ _ _ _ => VX_call, fun _ _ _ _ _ _ _ _ => VX_clv, fun _ _ _ _ _ _ _ _ => rfl, fun _ _ _ => rfl⟩
theorem VB : (∀ x, flat (bytes x) = true) ∧ (∀ x, wid 1 (bytes x) = true) ∧ (∀ x, (bytes x).length = x.length) ∧ (∀ n, n ≤ 70368744177664 → inRoom n = true) ∧ (∀ n : Int, -9223372036854775808 ≤ n → n < 9223372036854775808 → IntKind.i64.wrap n = n) ∧
    (∀ (k : IntKind) (a b : Int), bin2 .add (.int k a) (.int k b) = some (.int k (k.wrap (a + b)))) ∧ (∀ (k : IntKind) (a b : Int), bin2 .sub (.int k a) (.int k b) = some (.int k (k.wrap (a - b)))) ∧ (∀ (k : IntKind) (a b : Int), bin2 .mul (.int k a) (.int k b) = some (.int k (k.wrap (a * b)))) ∧
    (∀ (k : IntKind) (a b : Int), bin2 .quo (.int k a) (.int k b) = if b = 0 then none else some (.int k (k.wrap (a.tdiv b)))) ∧ (∀ (k : IntKind) (a b : Int), bin2 .rem (.int k a) (.int k b) = if b = 0 then none else some (.int k (a.tmod b))) ∧
    (∀ (k : IntKind) (a b : Int), bin2 .eql (.int k a) (.int k b) = some (.bool (decide (a = b)))) ∧ (∀ (k : IntKind) (a b : Int), bin2 .neq (.int k a) (.int k b) = some (.bool (decide (a ≠ b)))) ∧ (∀ (k : IntKind) (a b : Int), bin2 .lss (.int k a) (.int k b) = some (.bool (decide (a < b)))) ∧
    (∀ (k : IntKind) (a b : Int), bin2 .leq (.int k a) (.int k b) = some (.bool (decide (a ≤ b)))) ∧ (∀ (k : IntKind) (a b : Int), bin2 .gtr (.int k a) (.int k b) = some (.bool (decide (a > b)))) ∧ (∀ (k : IntKind) (a b : Int), bin2 .geq (.int k a) (.int k b) = some (.bool (decide (a ≥ b)))) ∧
    (∀ (k : IntKind) (a b : Int), bin2 .and (.int k a) (.int k b) = some (.int k (bits2 .and k a b))) ∧ (∀ (k : IntKind) (a b : Int), bin2 .or (.int k a) (.int k b) = some (.int k (bits2 .or k a b))) ∧ (∀ (k : IntKind) (a b : Int), bin2 .xor (.int k a) (.int k b) = some (.int k (bits2 .xor k a b))) ∧ (∀ (k : IntKind) (a b : Int), bin2 .andNot (.int k a) (.int k b) = some (.int k (bits2 .andNot k a b))) ∧
    (∀ (k k' : IntKind) (a b : Int), bin2 .shl (.int k a) (.int k' b) = if b < 0 then none else some (.int k (k.wrap (a * 2 ^ (min b.toNat k.bits))))) ∧ (∀ (k k' : IntKind) (a b : Int), bin2 .shr (.int k a) (.int k' b) = if b < 0 then none else some (.int k (a.fdiv (2 ^ (min b.toNat k.bits))))) ∧
    (∀ a b, bin2 .eql (.str a) (.str b) = some (.bool (decide (a = b)))) ∧ (∀ a b, bin2 .neq (.str a) (.str b) = some (.bool (decide (a ≠ b)))) :=
  ⟨flat_bytes, wid_bytes, bytes_len, fun _ h => room_of h, fun _ h1 h2 => w64 h1 h2, b_add, b_sub, b_mul, b_quo, b_rem, b_eql, b_neq, b_lss, b_leq, b_gtr, b_geq, b_and, b_or, b_xor, b_andNot, b_shl, b_shr, b_seql, b_sneq⟩
end Go.Eng
namespace Go.Eng
mutual
def enc : Ty → Tv → List D
  | .int k, .i n => [.int k n]
  | .bool, .b b => [.bool b]
  | .str, .s s => [.str s]
  | .sl t, .l xs => [.sl (xs.map (enc t))]
  | .st ts, .r vs => encS ts vs
  | _, _ => []
def encS : List Ty → List Tv → List D
  | t :: ts, v :: vs => enc t v ++ encS ts vs
  | _, _ => []
end
mutual
def TvOk : Ty → Tv → Prop
  | .int k, .i n => k.min ≤ n ∧ n ≤ k.max
  | .bool, .b _ => True
  | .str, .s s => s.size ≤ maxLen
  | .sl t, .l xs => xs.length ≤ maxLen ∧ ∀ x ∈ xs, TvOk t x
  | .st ts, .r vs => TvOkS ts vs
  | _, _ => False
def TvOkS : List Ty → List Tv → Prop
  | [], [] => True
  | t :: ts, v :: vs => TvOk t v ∧ TvOkS ts vs
  | _, _ => False
end
section
variable {h h' : H}
mutual
theorem Rp.rd : ∀ (T : Ty) {cs : List C} {v : Tv} {S : List Nat}, Rp h T cs v S → RDs h (enc T v) cs S
  | .int k, cs, v, S, hr => by
    obtain ⟨n, rfl, rfl, rfl, _⟩ := hr.int
    simp only [enc, RDs, RD]
    exact ⟨_, _, [], [], rfl, rfl, ⟨rfl, rfl⟩, rfl, rfl⟩
  | .bool, cs, v, S, hr => by
    unfold Rp at hr
    obtain ⟨b, rfl, rfl, rfl⟩ := hr
    simp only [enc, RDs, RD]
    exact ⟨_, _, [], [], rfl, rfl, ⟨rfl, rfl⟩, rfl, rfl⟩
  | .str, cs, v, S, hr => by
    unfold Rp at hr
    obtain ⟨s, rfl, rfl, rfl, _⟩ := hr
    simp only [enc, RDs, RD]
    exact ⟨_, _, [], [], rfl, rfl, ⟨rfl, rfl⟩, rfl, rfl⟩
  | .sl t, cs, v, S, hr => by
    obtain ⟨xs, rfl, _, hc⟩ := hr.sl
    simp only [enc, RDs]
    rcases hc with ⟨rfl, rfl, rfl | rfl⟩ | ⟨id, off, bs, S', e0, rfl, h2, h3, rfl, h5, he0⟩
    · exact ⟨_, _, [], [], rfl, rfl, RD_sl.2 (.inl ⟨rfl, rfl, .inl rfl⟩), rfl, rfl⟩
    · exact ⟨_, _, [], [], rfl, rfl, RD_sl.2 (.inl ⟨rfl, rfl, .inr rfl⟩), rfl, rfl⟩
    · have key : ∀ {xs : List Tv} {bs : List C} {S : List Nat}, Elems (Rp h t) xs bs S → RDss h (xs.map (enc t)) t.size bs S := by
        intro xs
        induction xs with
        | nil => intro bs S he; simp only [List.map_nil, RDss]; exact he
        | cons x xs ih =>
          intro bs S he
          obtain ⟨c1, c2, S1, S2, e1, e2, e3, e4⟩ := he
          simp only [List.map_cons, RDss]
          exact ⟨c1, c2, S1, S2, e1, e2, e3.size, Rp.rd t e3, ih e4⟩
      have hle : xs.length * e0 = xs.length * t.size := by rcases he0 with rfl | rfl <;> simp
      have h6 := key h5
      refine ⟨_, [], id :: S', [], rfl, by simp, RD_sl.2 (.inr ⟨id, off, e0, bs, S', by simp, h2, by simp only [List.length_map, hle]; exact h3, rfl, ?_⟩), rfl, rfl⟩
      simp only [List.length_map, hle]
      rcases he0 with rfl | rfl
      · exact h6
      · simp only [List.map_nil, RDss] at h6 ⊢; exact h6
  | .st ts, cs, v, S, hr => by
    obtain ⟨vs, rfl, h2⟩ := hr.st
    simp only [enc]
    exact Rs.rd ts (by simpa using h2)
theorem Rs.rd : ∀ (ts : List Ty) {cs : List C} {vs : List Tv} {S : List Nat}, Rs h ts cs vs S → RDs h (encS ts vs) cs S
  | [], cs, vs, S, hr => by
    obtain ⟨rfl, rfl, rfl⟩ := hr
    simp [encS, RDs]
  | t :: ts, cs, vs, S, hr => by
    obtain ⟨c1, c2, v, vr, S1, S2, rfl, rfl, rfl, h4, h5⟩ := hr
    simp only [encS]
    exact (Rp.rd t h4).join (Rs.rd ts h5)
end
mutual
theorem Rp.ok : ∀ (T : Ty) {cs : List C} {v : Tv} {S : List Nat}, Rp h T cs v S → TvOk T v
  | .int k, cs, v, S, hr => by obtain ⟨n, rfl, rfl, rfl, h1⟩ := hr.int; simpa only [TvOk] using h1
  | .bool, cs, v, S, hr => by unfold Rp at hr; obtain ⟨b, rfl, rfl, rfl⟩ := hr; simp only [TvOk]
  | .str, cs, v, S, hr => by unfold Rp at hr; obtain ⟨s, rfl, rfl, rfl, h1⟩ := hr; simpa only [TvOk] using h1
  | .sl t, cs, v, S, hr => by
    obtain ⟨xs, rfl, hm, hc⟩ := hr.sl
    simp only [TvOk]
    refine ⟨hm, ?_⟩
    rcases hc with ⟨rfl, _⟩ | ⟨id, off, bs, S', e0, rfl, h2, h3, rfl, h5, _⟩
    · intro x hx; cases hx
    · have key : ∀ {xs : List Tv} {bs : List C} {S : List Nat}, Elems (Rp h t) xs bs S → ∀ x ∈ xs, TvOk t x := by
        intro xs
        induction xs with
        | nil => intro bs S _ x hx; cases hx
        | cons y xs ih =>
          intro bs S he x hx
          obtain ⟨c1, c2, S1, S2, e1, e2, e3, e4⟩ := he
          rcases List.mem_cons.1 hx with rfl | hx
          · exact Rp.ok t e3
          · exact ih e4 x hx
      exact key h5
  | .st ts, cs, v, S, hr => by obtain ⟨vs, rfl, h2⟩ := hr.st; simp only [TvOk]; exact Rs.ok ts (by simpa using h2)
theorem Rs.ok : ∀ (ts : List Ty) {cs : List C} {vs : List Tv} {S : List Nat}, Rs h ts cs vs S → TvOkS ts vs
  | [], cs, vs, S, hr => by obtain ⟨rfl, rfl, rfl⟩ := hr; simp only [TvOkS]
  | t :: ts, cs, vs, S, hr => by obtain ⟨c1, c2, v, vr, S1, S2, rfl, rfl, rfl, h4, h5⟩ := hr; simp only [TvOkS]; exact ⟨Rp.ok t h4, Rs.ok ts h5⟩
end
mutual
theorem enc_len : ∀ (T : Ty) {v : Tv}, TvOk T v → (enc T v).length = T.size
  | .int k, v, hv => by cases v <;> simp only [TvOk] at hv <;> rfl
  | .bool, v, hv => by cases v <;> simp only [TvOk] at hv <;> rfl
  | .str, v, hv => by cases v <;> simp only [TvOk] at hv <;> rfl
  | .sl t, v, hv => by cases v <;> simp only [TvOk] at hv <;> simp only [enc] <;> rfl
  | .st ts, v, hv => by cases v <;> simp only [TvOk] at hv; simp only [enc]; exact encS_len ts hv
theorem encS_len : ∀ (ts : List Ty) {vs : List Tv}, TvOkS ts vs → (encS ts vs).length = Ty.sizes ts
  | [], vs, hv => by cases vs <;> simp only [TvOkS] at hv <;> rfl
  | t :: ts, vs, hv => by
    cases vs <;> simp only [TvOkS] at hv
    simp only [encS, List.length_append, enc_len t hv.1, encS_len ts hv.2]
    rfl
end
mutual
theorem RDs.rp : ∀ (T : Ty) {cs : List C} {v : Tv} {S : List Nat}, TvOk T v → RDs h (enc T v) cs S → Rp h T cs v S
  | .int k, cs, v, S, hv, hr => by
    cases v <;> simp only [TvOk] at hv
    simp only [enc, RDs, RD] at hr
    obtain ⟨_, _, _, _, rfl, rfl, ⟨rfl, rfl⟩, rfl, rfl⟩ := hr
    exact ⟨_, rfl, rfl, rfl, hv⟩
  | .bool, cs, v, S, hv, hr => by
    cases v <;> simp only [TvOk] at hv
    simp only [enc, RDs, RD] at hr
    obtain ⟨_, _, _, _, rfl, rfl, ⟨rfl, rfl⟩, rfl, rfl⟩ := hr
    exact ⟨_, rfl, rfl, rfl⟩
  | .str, cs, v, S, hv, hr => by
    cases v <;> simp only [TvOk] at hv
    simp only [enc, RDs, RD] at hr
    obtain ⟨_, _, _, _, rfl, rfl, ⟨rfl, rfl⟩, rfl, rfl⟩ := hr
    exact ⟨_, rfl, rfl, rfl, hv⟩
  | .sl t, cs, v, S, hv, hr => by
    cases v <;> simp only [TvOk] at hv
    rename_i xs
    simp only [enc, RDs] at hr
    obtain ⟨c, cr, S1, S2, rfl, rfl, h1, rfl, rfl⟩ := hr
    refine ⟨xs, rfl, hv.1, ?_⟩
    rcases RD_sl.1 h1 with ⟨hx, rfl, hc⟩ | ⟨id, off, e, bs, S', rfl, h2, h3, rfl, h5⟩
    · have hx' : xs = [] := by simpa using hx
      subst hx'
      exact .inl ⟨rfl, rfl, hc.imp (fun e => by rw [e]) (fun e => by rw [e])⟩
    · have key : ∀ {xs : List Tv} {e : Nat} {bs : List C} {S : List Nat}, (∀ x ∈ xs, TvOk t x) → RDss h (xs.map (enc t)) e bs S → Elems (Rp h t) xs bs S := by
        intro xs
        induction xs with
        | nil => intro e bs S _ he; simp only [List.map_nil, RDss] at he; exact he
        | cons x xs ih =>
          intro e bs S hv he
          simp only [List.map_cons, RDss] at he
          obtain ⟨c1, c2, S1, S2, e1, e2, e3, e4, e5⟩ := he
          exact ⟨c1, c2, S1, S2, e1, e2, RDs.rp t (hv x (by simp)) e4, ih (fun y hy => hv y (by simp [hy])) e5⟩
      have he0 : e = t.size ∨ xs = [] := by
        cases xs with
        | nil => exact .inr rfl
        | cons x xs =>
          left
          have := h5.wid (enc t x) (by simp)
          rw [← this]
          exact enc_len t (hv.2 x (by simp))
      have hle : xs.length * e = xs.length * t.size := by rcases he0 with rfl | rfl <;> simp
      simp only [List.length_map, hle] at h3 h5
      exact .inr ⟨id, off, bs, S', e, by simp, h2, h3, by simp, key hv.2 h5, he0⟩
  | .st ts, cs, v, S, hv, hr => by
    cases v <;> simp only [TvOk] at hv
    simp only [enc] at hr
    exact ⟨_, rfl, RDs.rs ts hv hr⟩
theorem RDs.rs : ∀ (ts : List Ty) {cs : List C} {vs : List Tv} {S : List Nat}, TvOkS ts vs → RDs h (encS ts vs) cs S → Rs h ts cs vs S
  | [], cs, vs, S, hv, hr => by
    cases vs <;> simp only [TvOkS] at hv
    simp only [encS, RDs] at hr
    exact ⟨hr.1, rfl, hr.2⟩
  | t :: ts, cs, vs, S, hv, hr => by
    cases vs <;> simp only [TvOkS] at hv
    rename_i v vs
    simp only [encS] at hr
    obtain ⟨S1, S2, rfl, h2, h3⟩ := hr.cut (enc t v).length
    have hl := enc_len t hv.1
    rw [List.take_left] at h2
    rw [List.drop_left] at h3
    exact ⟨_, _, v, vs, S1, S2, (List.take_append_drop _ _).symm, rfl, rfl, RDs.rp t hv.1 h2, RDs.rs ts hv.2 h3⟩
end
def EEq : List E → List D → Prop
  | [], [] => True
  | .e (.o dp t xs) :: es, .sl ys :: ds => dp = true ∧ xs = ys ∧ EEq es ds
  | .e (.p .nils) :: es, .sl ys :: ds => ys = [] ∧ EEq es ds
  | .e (.p d) :: es, d' :: ds => d = d' ∧ d.leaf = true ∧ EEq es ds
  | _, _ => False
mutual
theorem RD.alive : ∀ (d : D) {c : C} {S : List Nat}, RD h d c S → ∀ i ∈ S, ∃ bs, h.cells i = some bs
  | .int _ _, _, _, hr, i, hi => by simp only [RD] at hr; rw [hr.2] at hi; cases hi
  | .bool _, _, _, hr, i, hi => by simp only [RD] at hr; rw [hr.2] at hi; cases hi
  | .str _, _, _, hr, i, hi => by simp only [RD] at hr; rw [hr.2] at hi; cases hi
  | .fn _, _, _, hr, i, hi => by simp only [RD] at hr; rw [hr.2] at hi; cases hi
  | .nilf, _, _, hr, i, hi => by simp only [RD] at hr; rw [hr.2] at hi; cases hi
  | .nili, _, _, hr, i, hi => by simp only [RD] at hr; rw [hr.2] at hi; cases hi
  | .nilp, _, _, hr, i, hi => by simp only [RD] at hr; rw [hr.2] at hi; cases hi
  | .nils, _, _, hr, i, hi => by simp only [RD] at hr; rw [hr.2] at hi; cases hi
  | .sl xs, c, S, hr, i, hi => by
    rcases RD_sl.1 hr with ⟨_, e, _⟩ | ⟨id, off, e, bs, S', h1, h2, h3, h4, h5⟩
    · rw [e] at hi; cases hi
    · rw [h4] at hi
      rcases List.mem_cons.1 hi with rfl | hi
      · exact ⟨bs, h2⟩
      · exact RDss.alive xs h5 i hi
  | .ow _ _, _, _, hr, _, _ => by simp only [RD] at hr
  | .pt _ _ _, _, _, hr, _, _ => by simp only [RD] at hr
  | .pe _ _, _, _, hr, _, _ => by simp only [RD] at hr
  | .px _ _ _ _, _, _, hr, _, _ => by simp only [RD] at hr
  | .sa _ _ _ _ _, _, _, hr, _, _ => by simp only [RD] at hr
theorem RDs.alive : ∀ (ds : List D) {cs : List C} {S : List Nat}, RDs h ds cs S → ∀ i ∈ S, ∃ bs, h.cells i = some bs
  | [], _, _, hr, i, hi => by simp only [RDs] at hr; rw [hr.2] at hi; cases hi
  | d :: ds, cs, S, hr, i, hi => by
    simp only [RDs] at hr
    obtain ⟨c, cr, S1, S2, h1, h2, h3, h4⟩ := hr
    rw [h2] at hi
    rcases List.mem_append.1 hi with hi | hi
    · exact RD.alive d h3 i hi
    · exact RDs.alive ds h4 i hi
theorem RDss.alive : ∀ (xs : List (List D)) {e : Nat} {cs : List C} {S : List Nat}, RDss h xs e cs S → ∀ i ∈ S, ∃ bs, h.cells i = some bs
  | [], _, _, _, hr, i, hi => by simp only [RDss] at hr; rw [hr.2] at hi; cases hi
  | x :: xs, e, cs, S, hr, i, hi => by
    simp only [RDss] at hr
    obtain ⟨c1, c2, S1, S2, h1, h2, h3, h4, h5⟩ := hr
    rw [h2] at hi
    rcases List.mem_append.1 hi with hi | hi
    · exact RDs.alive x h4 i hi
    · exact RDss.alive xs h5 i hi
end
end
section
variable {Γ : Cx} {γ : Gh} {f : UT} {st : St} {mf : Fr} {h h' : H}
theorem EEq.rds (hr : RelG Γ γ f st mf h) : ∀ {es : List E} {ds : List D} {k v : Nat} {cs : List C}, EEq es ds → (∀ k' e, lk k' (impE k v es).2 = some e → lk k' st.es = some e) → All2 (DC Γ γ st h) cs (impE k v es).1 →
    ∃ S, RDs h ds cs S ∧ S.Nodup ∧ ∀ i ∈ S, ∃ k' e, k ≤ k' ∧ k' < k + szE es ∧ lk k' st.es = some e ∧ i ∈ γ.w k' ++ γ.u k'
  | [], [], k, v, cs, _, _, hc => by
    cases cs with
    | nil => exact ⟨[], by simp [RDs], by simp, fun i hi => by cases hi⟩
    | cons c cs => simp only [impE] at hc; exact hc.elim
  | .e (.o dp t xs) :: es, ds, k, v, cs, he, hL, hc => by
    cases ds with
    | nil => exact he.elim
    | cons d ds =>
    cases d <;> simp only [EEq] at he
    obtain ⟨rfl, rfl, he⟩ := he
    simp only [impE] at hc hL
    match cs, hc with
    | c :: cs, hc =>
      have hl := hL k _ lk_hit
      obtain ⟨S, q1, q2, q3⟩ := EEq.rds hr (k := k + 1) (v := v + 1) he (fun k' e hk => hL k' e (by have := (impE_ver hk).2.1; rw [lk_cons, if_neg (by omega)]; exact hk)) hc.2
      have hcc := hc.1.2 _ _ _ _ hl
      obtain ⟨_, hen⟩ := hr.en _ _ hl
      have hnd := (hr.nd _ _ hl).1
      have h1 : RD h (.sl xs) c (γ.w k ++ γ.u k) := by
        rw [hcc]
        rcases hen with ⟨rfl, w1, w2, w3⟩ | ⟨id, ty, ez, bs, S0, k1, k2, k3, k4, k5, k6, k7, k8⟩
        · rw [w1, w2]; exact RD_sl.2 (.inl ⟨rfl, rfl, w3⟩)
        · rw [k3, k8, if_pos rfl, k2]
          refine RD_sl.2 (.inr ⟨id, 0, ez, bs, S0, rfl, cells_own k4, by omega, rfl, ?_⟩)
          rw [List.drop_zero, ← k5, List.take_length]
          exact k6
      refine ⟨(γ.w k ++ γ.u k) ++ S, ?_, ?_, fun i hi => ?_⟩
      · simp only [RDs]; exact ⟨c, cs, _, S, rfl, rfl, h1, q1⟩
      · refine List.nodup_append.2 ⟨hnd, q2, fun a ha b hb e => ?_⟩
        subst e
        obtain ⟨k', e', r1, r2, r3, r4⟩ := q3 a hb
        exact hr.dj k k' _ e' (by omega) hl r3 a ha r4
      · rcases List.mem_append.1 hi with hi | hi
        · exact ⟨k, _, Nat.le_refl _, by simp only [szE]; omega, hl, hi⟩
        · obtain ⟨k', e', r1, r2, r3, r4⟩ := q3 i hi
          exact ⟨k', e', by omega, by simp only [szE]; omega, r3, r4⟩
  | .e (.p d) :: es, ds, k, v, cs, he, hL, hc => by
    cases ds with
    | nil => cases d <;> exact he.elim
    | cons d' ds =>
    simp only [impE] at hc hL
    match cs, hc with
    | c :: cs, hc =>
      have fin : ∀ (d0 : D), RD h d0 c [] → EEq es ds → ∃ S, RDs h (d0 :: ds) (c :: cs) S ∧ S.Nodup ∧ ∀ i ∈ S, ∃ k' e, k ≤ k' ∧ k' < k + szE (.e (.p d) :: es) ∧ lk k' st.es = some e ∧ i ∈ γ.w k' ++ γ.u k' := by
        intro d0 h1 he
        obtain ⟨S, q1, q2, q3⟩ := EEq.rds hr (k := k + 1) (v := v + 1) he hL hc.2
        refine ⟨S, ?_, q2, fun i hi => ?_⟩
        · simp only [RDs]; exact ⟨c, cs, [], S, rfl, rfl, h1, q1⟩
        · obtain ⟨k', e', r1, r2, r3, r4⟩ := q3 i hi
          exact ⟨k', e', by omega, by simp only [szE]; omega, r3, r4⟩
      by_cases hn : d = .nils
      · subst hn
        have h1 : c = .nils := by
          obtain ⟨S0, h2, _⟩ := hc.1
          simp only [RD] at h2
          exact h2.1
        cases d' <;> simp only [EEq] at he <;> first | (exact absurd he.2.1 (by simp [D.leaf])) | skip
        obtain ⟨rfl, he⟩ := he
        exact fin _ (RD_sl.2 (.inl ⟨rfl, rfl, .inl h1⟩)) he
      · have he' : d = d' ∧ d.leaf = true ∧ EEq es ds := by
          cases d <;> first | exact absurd rfl hn | (cases d' <;> simpa only [EEq] using he)
        obtain ⟨rfl, hlf, he'⟩ := he'
        have : ∃ S, RD h d c S := by
          cases d <;> simp [D.leaf] at hlf <;> exact ⟨_, hc.1.choose_spec.1⟩
        obtain ⟨S0, h2⟩ := this
        exact fin d (h2.leafT hlf) he'
  | .pt ty xs :: es, ds, k, v, cs, he, _, _ => by cases ds <;> exact he.elim
def RsE : List (Bool × List E) → List (Ty × Tv) → Prop
  | [], [] => True
  | (g, es) :: rs, (T, w) :: ts => g = T.agg ∧ EEq es (enc T w) ∧ TvOk T w ∧ RsE rs ts
  | _, _ => False
def ResRp (h : H) : List (Ty × Tv) → List (Bool × List C) → List Nat → Prop
  | [], css, S => css = [] ∧ S = []
  | (T, w) :: ts, css, S => ∃ cs cr S1 S2, css = (T.agg, cs) :: cr ∧ S = S1 ++ S2 ∧ Rp h T cs w S1 ∧ ResRp h ts cr S2
theorem RsE.rp (hr : RelG Γ γ f st mf h) : ∀ {rs : List (Bool × List E)} {ts : List (Ty × Tv)} {k v : Nat} {css : List (Bool × List C)}, RsE rs ts → (∀ k' e, lk k' (impR k v rs).2 = some e → lk k' st.es = some e) → All2 (DG Γ γ st h) css (impR k v rs).1 →
    ∃ S, ResRp h ts css S ∧ S.Nodup ∧ ∀ i ∈ S, (∃ bs, h.cells i = some bs) ∧ ∃ k' e, k ≤ k' ∧ k' < k + szR rs ∧ lk k' st.es = some e ∧ i ∈ γ.w k' ++ γ.u k'
  | [], [], k, v, css, _, _, hc => by
    cases css with
    | nil => exact ⟨[], ⟨rfl, rfl⟩, by simp, fun i hi => by cases hi⟩
    | cons c cs => simp only [impR] at hc; exact hc.elim
  | [], _ :: _, _, _, _, he, _, _ => he.elim
  | _ :: _, [], _, _, _, he, _, _ => he.elim
  | (g, es) :: rs, (T, w) :: ts, k, v, css, he, hL, hc => by
    obtain ⟨rfl, h1, h2, h3⟩ := he
    simp only [impR] at hc hL
    match css, hc with
    | (g', cs) :: css, hc =>
      obtain ⟨⟨hg, hc1⟩, hc2⟩ := hc
      simp only at hg hc1
      subst hg
      obtain ⟨S1, a1, a2, a3⟩ := EEq.rds hr h1 (fun k' e hk => hL k' e (by rw [lk_append, hk])) hc1
      obtain ⟨S2, b1, b2, b3⟩ := RsE.rp hr h3 (fun k' e hk => hL k' e (by
        have := (impR_ver hk).2.1
        rw [lk_append]
        cases hx : lk k' (impE k v es).2 with
        | none => exact hk
        | some e' => have := (impE_ver hx).2.2; omega)) hc2
      refine ⟨S1 ++ S2, ⟨cs, css, S1, S2, rfl, rfl, RDs.rp T h2 a1, b1⟩, List.nodup_append.2 ⟨a2, b2, fun a ha b hb e => ?_⟩, fun i hi => ?_⟩
      · subst e
        obtain ⟨k1, e1, r1, r2, r3, r4⟩ := a3 a ha
        obtain ⟨_, k2, e2, q1, q2, q3, q4⟩ := b3 a hb
        exact hr.dj k1 k2 e1 e2 (by omega) r3 q3 a r4 q4
      · rcases List.mem_append.1 hi with hi | hi
        · obtain ⟨k1, e1, r1, r2, r3, r4⟩ := a3 i hi
          exact ⟨RDs.alive _ a1 i hi, k1, e1, r1, by simp only [szR]; omega, r3, r4⟩
        · obtain ⟨b0, k1, e1, r1, r2, r3, r4⟩ := b3 i hi
          exact ⟨b0, k1, e1, by omega, by simp only [szR]; omega, r3, r4⟩
def encA (as : List (Ty × Tv)) : List (Bool × List D) := as.map fun a => (a.1.agg, enc a.1 a.2)
def ArgsRp (h : H) : List (Ty × Tv) → List (Bool × List C) → Prop
  | [], ms => ms = []
  | (T, v) :: as, ms => ∃ cs mr, ms = (T.agg, cs) :: mr ∧ (∃ S, Rp h T cs v S) ∧ ArgsRp h as mr
theorem ArgsRp.all : ∀ {as : List (Ty × Tv)} {ms : List (Bool × List C)}, ArgsRp h as ms → All2 (fun (m : Bool × List C) (a : Bool × List D) => m.1 = a.1 ∧ All2 (fun c d' => ∃ S, RD h d' c S ∧ ∀ i ∈ S, i < h.length) m.2 a.2) ms (encA as)
  | [], ms, ha => by rw [show ms = [] from ha]; trivial
  | (T, v) :: as, ms, ha => by
    obtain ⟨cs, mr, rfl, ⟨S, h1⟩, h2⟩ := ha
    refine ⟨⟨rfl, ?_⟩, ArgsRp.all h2⟩
    have key : ∀ {ds : List D} {cs : List C} {S : List Nat}, RDs h ds cs S → All2 (fun c d' => ∃ S, RD h d' c S ∧ ∀ i ∈ S, i < h.length) cs ds := by
      intro ds
      induction ds with
      | nil => intro cs S hr; simp only [RDs] at hr; rw [hr.1]; trivial
      | cons d ds ih =>
        intro cs S hr
        simp only [RDs] at hr
        obtain ⟨c, cr, S1, S2, rfl, rfl, h3, h4⟩ := hr
        exact ⟨⟨S1, h3, RD.lt d h3⟩, ih h4⟩
    exact key (Rp.rd T h1)
theorem enc_pu : ∀ (ds : List D), (∀ d ∈ ds, puD d = true) → clE (ds.map E.p) = true
  | [], _ => rfl
  | d :: ds, h => by simp only [List.map_cons, clE, cl0, h d (by simp), enc_pu ds fun d' hd => h d' (by simp [hd]), Bool.and_self]
theorem RDs.pu {h : H} : ∀ {ds : List D} {cs : List C} {S : List Nat}, RDs h ds cs S → ∀ d ∈ ds, puD d = true
  | [], _, _, _, d, hd => by cases hd
  | d0 :: ds, cs, S, hr, d, hd => by
    simp only [RDs] at hr
    obtain ⟨c, cr, S1, S2, rfl, rfl, h3, h4⟩ := hr
    rcases List.mem_cons.1 hd with rfl | hd
    · cases d <;> first | rfl | (simp only [RD] at h3)
    · exact h4.pu d hd
theorem ArgsRp.cl : ∀ {as : List (Ty × Tv)} {ms : List (Bool × List C)}, ArgsRp h as ms → clR (mkP (encA as)) = true
  | [], _, _ => rfl
  | (T, v) :: as, ms, ha => by
    obtain ⟨cs, mr, rfl, ⟨S, h1⟩, h2⟩ := ha
    have := ArgsRp.cl h2
    unfold encA mkP at this ⊢
    simp only [List.map_cons, clR, enc_pu _ (Rp.rd T h1).pu, this, Bool.and_self]
theorem VC.wc {cd : Nat → Option AF} {g : Nat} {as : List (Ty × Tv)} {Q : List (Bool × List E) → List E → Prop} (hc : VC cd g (mkP (encA as)) Q) {ms : List (Bool × List C)} (ha : ArgsRp h as ms) {ts : List (Ty × Tv)} (hq : ∀ rs, Q rs [] → RsE rs ts) :
    WC cd g ms h (fun r h' => ∃ t css S, h' = h ++ t ∧ r = valR css ∧ ResRp h' ts css S ∧ Ownd h' S ∧ ∀ i ∈ S, h.length ≤ i) := by
  have hb := bun_pure (h := h) (ar := fun i => i < h.length) (fun i hi => hi) ha.cl ha.all
  refine (hc ⟨h, fun i => i < h.length, [], []⟩ ms rfl hb).mono fun r h' ⟨rs, ps, css, q, hcl, hv, hb'⟩ => ?_
  have hb' := hb' 0 0
  rw [ptrs_mkP] at hb'
  have hps : ps = [] := by
    obtain ⟨γb, _, hcc⟩ := hb'
    rw [impR_snoc] at hcc
    have := (All2.snoc hcc).2.2.length
    rw [impE_len] at this
    exact List.eq_nil_of_length_eq_zero this.symm
  subst hps
  obtain ⟨γb, hB, hcc⟩ := hb'
  rw [impR_snoc, szR_snoc] at hB hcc
  simp only [impE, List.append_nil, szE, Nat.add_zero] at hB hcc
  obtain ⟨S, k1, k2, k3⟩ := RsE.rp hB (hq rs q) (fun _ _ h => h) (All2.snoc hcc).1
  have hlo : ∀ i ∈ S, h.length ≤ i := fun i hi => by
    obtain ⟨_, k', e, _, _, hl, hm⟩ := k3 i hi
    rcases (hB.nd k' e hl).2 i hm with h1 | h1
    · cases h1
    · exact h1
  refine ⟨h'.drop h.length, css, S, ?_, hv, k1, ⟨k2, fun i hi => ?_⟩, hlo⟩
  · have : h'.take h.length = h := by
      apply List.ext_getElem?
      intro i
      rw [List.getElem?_take]
      split
      · rename_i hi; exact hB.base i hi (by simp)
      · rw [List.getElem?_eq_none (by omega)]
    conv => rhs; lhs; rw [← this]
    exact (List.take_append_drop _ _).symm
  · obtain ⟨⟨bs, h1⟩, _⟩ := k3 i hi
    have h2 := hB.own i
    unfold H.cells at h1
    split at h1
    · rename_i ty cs hx; exact ⟨ty, cs, hx⟩
    · rename_i cs hx; exact absurd hx (h2 cs (.inr (hlo i hi)))
    · simp at h1
end
theorem get0 {α : Type} {a : α} {l : List α} : (a :: l)[0]? = some a := rfl
theorem get1 {α : Type} {a b : α} {l : List α} : (a :: b :: l)[1]? = some b := rfl
theorem get2 {α : Type} {a b c : α} {l : List α} : (a :: b :: c :: l)[2]? = some c := rfl
theorem get3 {α : Type} {a b c d : α} {l : List α} : (a :: b :: c :: d :: l)[3]? = some d := rfl
theorem VTup : (∀ {a : Bool × List D} {l}, (a :: l)[0]? = some a) ∧ (∀ {a b : Bool × List D} {l}, (a :: b :: l)[1]? = some b) ∧ (∀ {a b c : Bool × List D} {l}, (a :: b :: c :: l)[2]? = some c) ∧ (∀ {a b c d : Bool × List D} {l}, (a :: b :: c :: d :: l)[3]? = some d) ∧ K0 = 4096 := ⟨get0, get1, get2, get3, rfl⟩
theorem VW : type_of% (And.intro (And.intro (And.intro (@VE) (@VXR)) (And.intro (@VP) (@VB))) (And.intro (And.intro (@VTup) (@kof)) (And.intro (@bl.eq_1) (@it.eq_1)))) := And.intro (And.intro (And.intro (@VE) (@VXR)) (And.intro (@VP) (@VB))) (And.intro (And.intro (@VTup) (@kof)) (And.intro (@bl.eq_1) (@it.eq_1)))
end Go.Eng
namespace Go.Eng
theorem Rp.bool {h : H} {cs : List C} {v : Tv} {S : List Nat} (hr : Rp h .bool cs v S) : ∃ b, cs = [.bool b] ∧ v = .b b ∧ S = [] := by unfold Rp at hr; exact hr
theorem Rp.str {h : H} {cs : List C} {v : Tv} {S : List Nat} (hr : Rp h .str cs v S) : ∃ s, cs = [.str s] ∧ v = .s s ∧ S = [] ∧ s.size ≤ maxLen := by unfold Rp at hr; exact hr
theorem TvOk.int {k : IntKind} {v : Tv} (h : TvOk (.int k) v) : ∃ n, v = .i n ∧ k.min ≤ n ∧ n ≤ k.max := by cases v <;> simp only [TvOk] at h; exact ⟨_, rfl, h⟩
theorem TvOk.bool {v : Tv} (h : TvOk .bool v) : ∃ b, v = .b b := by cases v <;> simp only [TvOk] at h; exact ⟨_, rfl⟩
theorem TvOk.str {v : Tv} (h : TvOk .str v) : ∃ s, v = .s s ∧ s.size ≤ maxLen := by cases v <;> simp only [TvOk] at h; exact ⟨_, rfl, h⟩
theorem TvOk.sl {t : Ty} {v : Tv} (h : TvOk (.sl t) v) : ∃ xs, v = .l xs ∧ xs.length ≤ maxLen ∧ ∀ x ∈ xs, TvOk t x := by cases v <;> simp only [TvOk] at h; exact ⟨_, rfl, h⟩
theorem TvOk.st {ts : List Ty} {v : Tv} (h : TvOk (.st ts) v) : ∃ vs, v = .r vs ∧ TvOkS ts vs := by cases v <;> simp only [TvOk] at h; exact ⟨_, rfl, h⟩
theorem TvOkS.step {t : Ty} {ts : List Ty} {vs : List Tv} (h : TvOkS (t :: ts) vs) : ∃ v vr, vs = v :: vr ∧ TvOk t v ∧ TvOkS ts vr := by cases vs <;> simp only [TvOkS] at h; exact ⟨_, _, rfl, h⟩
theorem TvOkS.fin {vs : List Tv} (h : TvOkS [] vs) : vs = [] := by cases vs <;> simp only [TvOkS] at h; rfl
theorem list_ex {α : Type} {f : α → Tv} {P : Tv → Prop} (hf : ∀ v, P v → ∃ x, v = f x) : ∀ {xs : List Tv}, (∀ x ∈ xs, P x) → ∃ ys : List α, xs = ys.map f
  | [], _ => ⟨[], rfl⟩
  | x :: xs, h => by
    obtain ⟨y, rfl⟩ := hf x (h _ (by simp))
    obtain ⟨ys, rfl⟩ := list_ex hf (xs := xs) fun x hx => h x (by simp [hx])
    exact ⟨y :: ys, rfl⟩
def u8t (b : UInt8) : Tv := .i (b.toNat : Int)
def bsT (x : Bytes) : Tv := .l (x.map u8t)
def bssT (l : List Bytes) : Tv := .l (l.map bsT)
def itT (n : Int) : Tv := .i n
def intsT (l : List Int) : Tv := .l (l.map itT)
theorem u8t_ex {v : Tv} (h : TvOk (.int .u8) v) : ∃ b, v = u8t b := by
  obtain ⟨n, rfl, h1, h2⟩ := h.int
  have h1 : 0 ≤ n := h1
  have h2 : n ≤ 255 := h2
  refine ⟨UInt8.ofNat n.toNat, ?_⟩
  simp only [u8t, UInt8.toNat_ofNat', Nat.reducePow]
  congr 1
  omega
theorem bsT_ex {v : Tv} (h : TvOk (.sl (.int .u8)) v) : ∃ x, v = bsT x := by
  obtain ⟨xs, rfl, _, h2⟩ := h.sl
  obtain ⟨ys, rfl⟩ := list_ex (f := u8t) (P := TvOk (.int .u8)) (fun v hv => u8t_ex hv) h2
  exact ⟨ys, rfl⟩
theorem bssT_ex {v : Tv} (h : TvOk (.sl (.sl (.int .u8))) v) : ∃ x, v = bssT x := by
  obtain ⟨xs, rfl, _, h2⟩ := h.sl
  obtain ⟨ys, rfl⟩ := list_ex (f := bsT) (P := TvOk (.sl (.int .u8))) (fun v hv => bsT_ex hv) h2
  exact ⟨ys, rfl⟩
theorem enc_bs (x : Bytes) : enc (.sl (.int .u8)) (bsT x) = [.sl (bytes x)] := by
  simp only [bsT, enc, List.map_map, bytes]
  congr 2
theorem enc_bss (l : List Bytes) : enc (.sl (.sl (.int .u8))) (bssT l) = [.sl (l.map fun x => [.sl (bytes x)])] := by
  simp only [bssT, enc, List.map_map]
  congr 2
  apply List.map_congr_left
  intro x _
  exact enc_bs x
theorem wt_bs (x : Bytes) : wt (bsT x) = x.length := by
  have : ∀ x : Bytes, wts (x.map u8t) = 0 := by
    intro x
    induction x with
    | nil => rfl
    | cons b x ih => simp [wts, wt, u8t, ih]
  simp [bsT, wt, this]
theorem wts_mem {α : Type} {f : α → Tv} {x : α} : ∀ {l : List α}, x ∈ l → wt (f x) ≤ wts (l.map f)
  | [], h => by cases h
  | y :: l, h => by
    simp only [List.map_cons, wts]
    rcases List.mem_cons.1 h with rfl | h
    · omega
    · have := wts_mem (f := f) h; omega
theorem wt_l (xs : List Tv) : wt (.l xs) = xs.length + wts xs := by simp [wt]
theorem wt_bss (l : List Bytes) : l.length ≤ wt (bssT l) ∧ ∀ x ∈ l, x.length ≤ wt (bssT l) := by
  unfold bssT
  rw [wt_l]
  refine ⟨by simp, fun x hx => ?_⟩
  have := wts_mem (f := bsT) hx
  rw [wt_bs] at this
  omega
mutual
def Ty.fl : Ty → Bool
  | .sl _ => false
  | .st ts => Ty.fls ts
  | _ => true
def Ty.fls : List Ty → Bool
  | [] => true
  | t :: ts => t.fl && Ty.fls ts
end
theorem VX_loop4 {cd : Nat → Option AF} {pd : List (Nat × Nat)} {R : List RV} {Q : List (Bool × List E) → List E → Prop} {k : List VK} {f : UT} {st : St} {ds : List Nat} {b : AC} {σ : Type} (f0 : UT) (hf : forgetU f ds = f0) {f2 : UT} {st2 : St} (hw : Weak f0 st f2 st2) (f1 : UT) (es0 : List (Nat × En)) (h2 : f2 = f1) (he : cln st2.es = es0)
    (upd : σ → List (Nat × U)) (ue : σ → List (Nat × En)) (J : σ → Nat → Prop) (s0 : σ) (g0 : Nat) (hu : f1 = setAllU f1 (upd s0)) (hs : subS st2 (ovr es0 (ue s0))) (h0 : J s0 g0)
    (round : ∀ s n g, J s g → VX cd pd R Q (.c b :: .stop (fun f' st' => ∃ s' g', g' < g ∧ J s' g' ∧ forgetU f' ds = setAllU f1 (upd s') ∧ subS st' (ovr es0 (ue s'))) :: k) (setAllU f1 (upd s)) ⟨n, ovr es0 (ue s)⟩) :
    VX cd pd R Q (.c (.loop ds b) :: k) f st := by
  refine VX_loop (σ := σ × Nat) (fun p => setAllU f1 (upd p.1)) (fun p => ⟨p.2, ovr es0 (ue p.1)⟩) (fun p g => J p.1 g) (s0, st2.nx) g0 h0 (by rw [hf]; exact hw.trans (Weak.of_eq (by rw [h2]; exact hu) (Nat.le_refl _) hs)) (fun p g hJ => ?_)
  exact (round p.1 p.2 g hJ).le (.c (.stop (fun f' st' ⟨s', g', h1, h2, h3, h4⟩ => ⟨(s', st'.nx), g', h1, h2, Weak.of_eq h3 (Nat.le_refl _) h4⟩) (KLe.refl k)))
end Go.Eng
namespace Go.Eng
section
variable {f : UT} {st : St}
def renS (st : St) (k k' : Nat) (o dp : Bool) (t : Option (Nat × Nat)) (xs : List (List D)) : St := ⟨st.nx + 1, (k', .sl st.nx o dp t xs) :: rmKs [k] st.es⟩
theorem Weak.ren {s k k' v : Nat} {o dp : Bool} {t : Option (Nat × Nat)} {xs : List (List D)} (hs : UF f s = .val false [.ow k v]) (hl : lk k st.es = some (.sl v o dp t xs)) (hne : k' ≠ k) :
    Weak f st (UW f s (.val false [.ow k' st.nx])) (renS st k k' o dp t xs) := by
  rintro Γ mf h ⟨γ, hr⟩
  have hlk : ∀ j, lk j (renS st k k' o dp t xs).es = if j = k' then some (.sl st.nx o dp t xs) else if j = k then none else lk j st.es := fun j => by
    simp only [renS, lk_cons, lk_rmKs]
    split
    · rfl
    · by_cases h2 : j = k
      · subst h2; simp
      · rw [if_neg h2, if_neg (by simpa using h2)]
  have hmain : RelG Γ (γ.up k' (γ.c k) (γ.w k) (γ.u k)) f (renS st k k' o dp t xs) mf h ∧ Mo Γ γ st h (γ.up k' (γ.c k) (γ.w k) (γ.u k)) (renS st k k' o dp t xs) h := by
    refine hr.upds (N := fun j => j = k ∨ j = k') (Nat.le_succ _) (fun j hn => ?_) (fun j e hn hj => ?_) (fun _ _ _ => rfl) (fun j e hn hj i hi _ hp => ?_) (fun _ _ _ _ _ _ => rfl)
      (fun j e hn hj => ?_) (fun j e j' e' hn hjj hj hj' i hi => ?_) (Nat.le_refl _) (fun _ _ _ => rfl) (fun hm j e hn hj => ?_) hr.own
    · simp only [not_or] at hn
      rw [hlk, if_neg hn.2, if_neg hn.1]
      exact ⟨rfl, by rw [Gh.up_c' _ _ _ _ hn.2], by rw [Gh.up_w' _ _ _ _ hn.2], by rw [Gh.up_u' _ _ _ _ hn.2]⟩
    · rw [hlk] at hj
      split at hj
      · simp only [Option.some.injEq] at hj; subst hj; exact .inl (Nat.le_refl _)
      · rename_i h1
        rw [if_pos (hn.resolve_right h1)] at hj
        cases hj
    · rw [hlk] at hj
      split at hj
      · rename_i h1
        subst h1
        rw [Gh.up_w] at hi
        exact hp.2 k _ hl hi
      · rename_i h1
        rw [if_pos (hn.resolve_right h1)] at hj
        cases hj
    · rw [hlk] at hj
      split at hj
      · rename_i h1
        subst h1
        rw [Gh.up_w, Gh.up_u]
        exact hr.nd k _ hl
      · rename_i h1
        rw [if_pos (hn.resolve_right h1)] at hj
        cases hj
    · rw [hlk] at hj
      split at hj
      · rename_i h1
        subst h1
        rw [Gh.up_w, Gh.up_u] at hi
        rw [hlk, if_neg hjj] at hj'
        rw [Gh.up_w' _ _ _ _ hjj, Gh.up_u' _ _ _ _ hjj]
        split at hj'
        · cases hj'
        · rename_i h2
          exact hr.dj k j' _ e' (fun e => h2 e.symm) hl hj' i hi
      · rename_i h1
        rw [if_pos (hn.resolve_right h1)] at hj
        cases hj
    · rw [hlk] at hj
      split at hj
      · rename_i h1
        subst h1
        simp only [Option.some.injEq] at hj
        subst hj
        have he := hr.en k _ hl
        have hpr : ∀ i, i < h.length → PR Γ γ st i → PR Γ (γ.up j (γ.c k) (γ.w k) (γ.u k)) (renS st k j o dp t xs) i := fun i hi hp => (hm.cell i hi hp).2
        cases o with
        | true =>
          obtain ⟨_, he⟩ := he
          refine ⟨Nat.lt_succ_self _, ?_⟩
          rw [Gh.up_c, Gh.up_w, Gh.up_u]
          rcases he with he | ⟨id, ty, ez, bs, S, k1, k2, k3, k4, k5, k6, k7, k8⟩
          · exact .inl he
          · exact .inr ⟨id, ty, ez, bs, S, k1, k2, k3, k4, k5, k6, fun i hi => hpr i (RDss.lt xs k6 i hi) (k7 i hi), k8⟩
        | false =>
          obtain ⟨_, h1, h2, S, h3, h4⟩ := he
          refine ⟨Nat.lt_succ_self _, ?_⟩
          rw [Gh.up_c, Gh.up_w, Gh.up_u]
          exact ⟨h1, h2, S, h3, fun i hi => hpr i (RD.lt _ h3 i hi) (h4 i hi)⟩
      · rename_i h1
        rw [if_pos (hn.resolve_right h1)] at hj
        cases hj
  have hsl := hr.slot s
  rw [hs] at hsl
  obtain ⟨c, h1, h2⟩ := UR.one hsl
  refine ⟨_, { hmain.1 with fr := fun j => ?_ }⟩
  unfold UW
  rw [UT.get_set]
  split
  · rename_i hk
    subst hk
    have : PT.get mf (K.of s) = .val false [c] := h1
    rw [this]
    refine UR.v1 ⟨Nat.lt_succ_self _, fun _ _ _ _ _ => ?_⟩
    rw [Gh.up_c]
    exact h2.2 _ _ _ _ hl
  · exact hmain.1.fr j
theorem Weak.frz (d : D) : Weak f st f (frzD st d) := fun Γ mf h ⟨γ, hr⟩ => by
  obtain ⟨γ', h1, _⟩ := frzD_ok hr d
  exact ⟨γ', h1⟩
end
theorem VX_loopP {cd : Nat → Option AF} {pd : List (Nat × Nat)} {R : List RV} {Q : List (Bool × List E) → List E → Prop} {k : List VK} {f : UT} {st : St} {ds : List Nat} {b : AC} {σ : Type} (f1 : UT) (hf : forgetU f ds = f1)
    (upd : σ → List (Nat × U)) (es : σ → List (Nat × En)) (J : σ → Nat → Prop) (s0 : σ) (g0 : Nat) (hu : f1 = setAllU f1 (upd s0)) (hs : subS st (es s0)) (h0 : J s0 g0)
    (round : ∀ s n g, J s g → ∀ P : UT → St → Prop, (∀ (s' : σ) (g' : Nat) (f' : UT) (st' : St), g' < g → J s' g' → forgetU f' ds = setAllU f1 (upd s') → subS st' (es s') → P f' st') → VX cd pd R Q (.c b :: .stop P :: k) (setAllU f1 (upd s)) ⟨n, es s⟩) :
    VX cd pd R Q (.c (.loop ds b) :: k) f st :=
  VX_loop2 f1 hf upd es J s0 g0 hu hs h0 fun s n g h => round s n g h _ fun s' g' f' st' a b c d => ⟨s', g', a, b, c, d⟩
theorem VX_loopO {cd : Nat → Option AF} {pd : List (Nat × Nat)} {R : List RV} {Q : List (Bool × List E) → List E → Prop} {k : List VK} {f : UT} {st : St} {ds : List Nat} {b : AC} {σ : Type} (f1 : UT) (es0 : List (Nat × En)) (hf : forgetU f ds = f1) (he : cln st.es = es0)
    (upd : σ → List (Nat × U)) (ue : σ → List (Nat × En)) (J : σ → Nat → Prop) (s0 : σ) (g0 : Nat) (hu : f1 = setAllU f1 (upd s0)) (hs : subS st (ovr es0 (ue s0))) (h0 : J s0 g0)
    (round : ∀ s n g, J s g → ∀ P : UT → St → Prop, (∀ (s' : σ) (g' : Nat) (f' : UT) (st' : St), g' < g → J s' g' → forgetU f' ds = setAllU f1 (upd s') → subS st' (ovr es0 (ue s')) → P f' st') → VX cd pd R Q (.c b :: .stop P :: k) (setAllU f1 (upd s)) ⟨n, ovr es0 (ue s)⟩) :
    VX cd pd R Q (.c (.loop ds b) :: k) f st := VX_loopP f1 hf upd (fun s => ovr es0 (ue s)) J s0 g0 hu hs h0 round
theorem VQ : (∀ al, nC al = szR (mkP al)) ∧ (∀ k v, imp0 k v [] = ([], [])) ∧ (∀ k v d r, imp0 k v (.p d :: r) = (d :: (imp0 (k + 1) (v + 1) r).1, (imp0 (k + 1) (v + 1) r).2)) ∧
    (∀ k v dp t xs r, imp0 k v (.o dp t xs :: r) = (.ow k v :: (imp0 (k + 1) (v + 1) r).1, (k, .sl v true dp t xs) :: (imp0 (k + 1) (v + 1) r).2)) ∧ (∀ k, cK k = 1099511627776 + 4096 * k) ∧
    (∀ st d rs k0 v0 ty xs us, retP st d rs k0 v0 ty xs us = ⟨st.nx + szR rs + (1 + xs.length), (k0, .pt v0 ty (imp0 (cK k0) (st.nx + szR rs + 1) xs).1) :: ((imp0 (cK k0) (st.nx + szR rs + 1) xs).2 ++ ((impR (keyC d) st.nx rs).2 ++ rmKs us st.es))⟩) ∧
    (∀ us, rmKs us [] = []) ∧ (∀ us k e r, rmKs us ((k, e) :: r) = if us.elem k then rmKs us r else (k, e) :: rmKs us r) ∧
    (∀ st d, frzD st d = (match d with | .ow k v => (match st.slc k v with | some (_, _, t, xs) => st.put k (.sl v false false t xs) | none => st) | _ => st)) ∧
    (∀ st us, usOk st us = us.all fun k => match lk k st.es with | some (.sl _ _ dp _ xs) => !dp || flat xs | _ => true) :=
  ⟨fun _ => rfl, fun _ _ => rfl, fun _ _ _ _ => rfl, fun _ _ _ _ _ _ => rfl, fun _ => rfl, fun _ _ _ _ _ _ _ _ => rfl, fun _ => rfl, fun _ _ _ _ => rfl, fun _ d => by cases d <;> rfl, fun _ _ => rfl⟩
end Go.Eng
