/-
  The value machine, part K: behind a call.
-/
import Derived.Test.YtaicdpancmfhnaaVmJ
set_option linter.unusedVariables false
set_option linter.unusedSimpArgs false
namespace Go.Eng
def keyC (d : Nat) : Nat := 8192 * (d + 1)
def retF (f : UT) (st : St) (d : Nat) (rs : List (Bool × List E)) : UT := setDU f d (valU (impR (keyC d) st.nx rs).1)
def retS (st : St) (d : Nat) (rs : List (Bool × List E)) : St := ⟨st.nx + szR rs, (impR (keyC d) st.nx rs).2 ++ st.es⟩
theorem lk_or {k : Nat} {a b : List (Nat × En)} {e : En} (h : lk k (a ++ b) = some e) : lk k a = some e ∨ lk k b = some e := by
  rw [lk_append] at h
  cases hx : lk k a with
  | none => rw [hx] at h; exact .inr h
  | some e' => rw [hx] at h; exact .inl h
/-- Of all cells and all contents. -/
def AE0 (P : D → Prop) : List E0 → Prop
  | [] => True
  | .p d :: r => P d ∧ AE0 P r
  | .o _ _ _ :: r => AE0 P r
def AE (P : D → Prop) : List E → Prop
  | [] => True
  | .e x :: r => AE0 P [x] ∧ AE P r
  | .pt _ xs :: r => AE0 P xs ∧ AE P r
def AR (P : D → Prop) : List (Bool × List E) → Prop
  | [] => True
  | (_, es) :: r => AE P es ∧ AR P r
def AEn (P : D → Prop) : En → Prop
  | .sl _ _ _ _ _ => True
  | .pt _ _ ds => ∀ d ∈ ds, P d
theorem imp0_all {P : D → Prop} {v0 : Nat} (ho : ∀ k w, v0 ≤ w → P (.ow k w)) : ∀ {xs : List E0} {k v : Nat}, v0 ≤ v → AE0 P xs → (∀ d ∈ (imp0 k v xs).1, P d) ∧ ∀ k' e, lk k' (imp0 k v xs).2 = some e → AEn P e
  | [], k, v, _, _ => by simp [imp0, lk]
  | .p d :: r, k, v, hv, hs => by
    obtain ⟨h1, h2⟩ := imp0_all ho (k := k + 1) (v := v + 1) (by omega) hs.2
    simp only [imp0]
    exact ⟨fun d' hd => by rcases List.mem_cons.1 hd with rfl | hd; exact hs.1; exact h1 d' hd, h2⟩
  | .o dp t xs :: r, k, v, hv, hs => by
    obtain ⟨h1, h2⟩ := imp0_all ho (xs := r) (k := k + 1) (v := v + 1) (by omega) hs
    simp only [imp0]
    refine ⟨fun d' hd => by rcases List.mem_cons.1 hd with rfl | hd; exact ho k v hv; exact h1 d' hd, fun k' e hl => ?_⟩
    rw [lk_cons] at hl
    split at hl
    · simp at hl; subst hl; trivial
    · exact h2 k' e hl
theorem impE_all {P : D → Prop} {v0 : Nat} (ho : ∀ k w, v0 ≤ w → P (.ow k w)) (hp : ∀ k w o, v0 ≤ w → P (.pt k w o)) : ∀ {es : List E} {k v : Nat}, v0 ≤ v → AE P es → (∀ d ∈ (impE k v es).1, P d) ∧ ∀ k' e, lk k' (impE k v es).2 = some e → AEn P e
  | [], k, v, _, _ => by simp [impE, lk]
  | .e x :: r, k, v, hv, hs => by
    obtain ⟨h1, h2⟩ := impE_all ho hp (k := k + 1) (v := v + 1) (by omega) hs.2
    obtain ⟨q1, q2⟩ := imp0_all ho (k := k) (v := v) hv hs.1
    rw [imp0_one]
    refine ⟨fun d hd => ?_, fun k' e hl => ?_⟩
    · rcases List.mem_append.1 hd with hd | hd
      · exact q1 d hd
      · exact h1 d hd
    · rcases lk_or hl with hl | hl
      · exact q2 k' e hl
      · exact h2 k' e hl
  | .pt ty xs :: r, k, v, hv, hs => by
    obtain ⟨h1, h2⟩ := impE_all ho hp (k := k + (1 + xs.length)) (v := v + (1 + xs.length)) (by omega) hs.2
    obtain ⟨q1, q2⟩ := imp0_all ho (k := k + 1) (v := v + 1) (by omega) hs.1
    simp only [impE]
    refine ⟨fun d hd => ?_, fun k' e hl => ?_⟩
    · rcases List.mem_cons.1 hd with rfl | hd
      · exact hp k v 0 hv
      · exact h1 d hd
    · rw [lk_cons] at hl
      split at hl
      · simp at hl; subst hl; exact q1
      · rcases lk_or hl with hl | hl
        · exact q2 k' e hl
        · exact h2 k' e hl
theorem impR_all {P : D → Prop} {v0 : Nat} (ho : ∀ k w, v0 ≤ w → P (.ow k w)) (hp : ∀ k w o, v0 ≤ w → P (.pt k w o)) : ∀ {rs : List (Bool × List E)} {k v : Nat}, v0 ≤ v → AR P rs → (∀ a ∈ (impR k v rs).1, ∀ d ∈ a.2, P d) ∧ ∀ k' e, lk k' (impR k v rs).2 = some e → AEn P e
  | [], k, v, _, _ => by simp [impR, lk]
  | (g, es) :: r, k, v, hv, hs => by
    obtain ⟨h1, h2⟩ := impR_all ho hp (k := k + szE es) (v := v + szE es) (by omega) hs.2
    obtain ⟨q1, q2⟩ := impE_all ho hp (k := k) (v := v) hv hs.1
    simp only [impR]
    refine ⟨fun a ha => ?_, fun k' e hl => ?_⟩
    · rcases List.mem_cons.1 ha with rfl | ha
      · exact q1
      · exact h1 a ha
    · rcases lk_or hl with hl | hl
      · exact q2 k' e hl
      · exact h2 k' e hl
/-- Cells of what came in with version v on. -/
def VD (v : Nat) : D → Prop
  | .ow _ w => v ≤ w
  | .pt _ w _ => v ≤ w
  | .pe _ _ => False
  | .px _ _ _ _ => False
  | .sa _ _ _ _ _ => False
  | _ => True
theorem cl0_VD {v : Nat} : ∀ {xs : List E0}, cl0 xs = true → AE0 (VD v) xs
  | [], _ => trivial
  | .p d :: r, h => by simp only [cl0, Bool.and_eq_true] at h; exact ⟨by cases d <;> simp [puD] at h <;> trivial, cl0_VD h.2⟩
  | .o _ _ _ :: r, h => cl0_VD (xs := r) h
theorem clE_VD {v : Nat} : ∀ {xs : List E}, clE xs = true → AE (VD v) xs
  | [], _ => trivial
  | .e x :: r, h => by simp only [clE, Bool.and_eq_true] at h; exact ⟨cl0_VD h.1, clE_VD h.2⟩
  | .pt _ xs :: r, h => by simp only [clE, Bool.and_eq_true] at h; exact ⟨cl0_VD h.1, clE_VD h.2⟩
theorem clR_VD {v : Nat} : ∀ {xs : List (Bool × List E)}, clR xs = true → AR (VD v) xs
  | [], _ => trivial
  | (_, es) :: r, h => by simp only [clR, Bool.and_eq_true] at h; exact ⟨clE_VD h.1, clR_VD h.2⟩
theorem impR_VD {rs : List (Bool × List E)} (hc : clR rs = true) (k v : Nat) : (∀ a ∈ (impR k v rs).1, ∀ d ∈ a.2, VD v d) ∧ ∀ k' e, lk k' (impR k v rs).2 = some e → AEn (VD v) e :=
  impR_all (v0 := v) (fun _ _ h => h) (fun _ _ _ h => h) (Nat.le_refl _) (clR_VD hc)
/-- It leads to nothing that is read alone. -/
def nsD : D → Bool
  | .sl _ => false
  | .pe _ _ => false
  | .px _ _ _ _ => false
  | .sa _ _ _ _ _ => false
  | _ => true
def ns0 : List E0 → Bool
  | [] => true
  | .p d :: r => nsD d && ns0 r
  | .o dp t xs :: r => (dp || flat xs) && ns0 r
def nsE : List E → Bool
  | [] => true
  | .e x :: r => ns0 [x] && nsE r
  | .pt _ xs :: r => ns0 xs && nsE r
def nsR : List (Bool × List E) → Bool
  | [] => true
  | (_, es) :: r => nsE es && nsR r
theorem ns0_A : ∀ {xs : List E0}, ns0 xs = true → AE0 (fun d => nsD d = true) xs
  | [], _ => trivial
  | .p d :: r, h => by simp only [ns0, Bool.and_eq_true] at h; exact ⟨h.1, ns0_A h.2⟩
  | .o _ _ _ :: r, h => by simp only [ns0, Bool.and_eq_true] at h; exact ns0_A (xs := r) h.2
theorem nsE_A : ∀ {xs : List E}, nsE xs = true → AE (fun d => nsD d = true) xs
  | [], _ => trivial
  | .e x :: r, h => by simp only [nsE, Bool.and_eq_true] at h; exact ⟨ns0_A h.1, nsE_A h.2⟩
  | .pt _ xs :: r, h => by simp only [nsE, Bool.and_eq_true] at h; exact ⟨ns0_A h.1, nsE_A h.2⟩
theorem nsR_A : ∀ {xs : List (Bool × List E)}, nsR xs = true → AR (fun d => nsD d = true) xs
  | [], _ => trivial
  | (_, es) :: r, h => by simp only [nsR, Bool.and_eq_true] at h; exact ⟨nsE_A h.1, nsR_A h.2⟩
def slEn : En → Prop
  | .sl _ _ dp _ xs => dp = true ∨ flat xs = true
  | .pt _ _ _ => True
theorem imp0_sl : ∀ {xs : List E0} {k v : Nat}, ns0 xs = true → ∀ k' e, lk k' (imp0 k v xs).2 = some e → slEn e
  | [], k, v, _ => by simp [imp0, lk]
  | .p d :: r, k, v, hs => by simp only [ns0, Bool.and_eq_true] at hs; simp only [imp0]; exact imp0_sl hs.2
  | .o dp t xs :: r, k, v, hs => by
    simp only [ns0, Bool.and_eq_true] at hs
    simp only [imp0]
    intro k' e hl
    rw [lk_cons] at hl
    split at hl
    · simp at hl; subst hl; simpa [slEn] using hs.1
    · exact imp0_sl hs.2 k' e hl
theorem impE_sl : ∀ {es : List E} {k v : Nat}, nsE es = true → ∀ k' e, lk k' (impE k v es).2 = some e → slEn e
  | [], k, v, _ => by simp [impE, lk]
  | .e x :: r, k, v, hs => by
    simp only [nsE, Bool.and_eq_true] at hs
    rw [imp0_one]
    intro k' e hl
    rcases lk_or hl with hl | hl
    · exact imp0_sl hs.1 k' e hl
    · exact impE_sl hs.2 k' e hl
  | .pt ty xs :: r, k, v, hs => by
    simp only [nsE, Bool.and_eq_true] at hs
    simp only [impE]
    intro k' e hl
    rw [lk_cons] at hl
    split at hl
    · simp at hl; subst hl; trivial
    · rcases lk_or hl with hl | hl
      · exact imp0_sl hs.1 k' e hl
      · exact impE_sl hs.2 k' e hl
theorem impR_sl : ∀ {rs : List (Bool × List E)} {k v : Nat}, nsR rs = true → ∀ k' e, lk k' (impR k v rs).2 = some e → slEn e
  | [], k, v, _ => by simp [impR, lk]
  | (g, es) :: r, k, v, hs => by
    simp only [nsR, Bool.and_eq_true] at hs
    simp only [impR]
    intro k' e hl
    rcases lk_or hl with hl | hl
    · exact impE_sl hs.1 k' e hl
    · exact impR_sl hs.2 k' e hl
theorem imp0_ver : ∀ {xs : List E0} {k v k' : Nat} {e : En}, lk k' (imp0 k v xs).2 = some e → v ≤ e.ver ∧ k ≤ k' ∧ k' < k + xs.length
  | [], _, _, _, _, hl => by simp [imp0, lk] at hl
  | .p d :: r, k, v, k', e, hl => by simp only [imp0] at hl; have := imp0_ver hl; simp only [List.length_cons]; omega
  | .o dp t xs :: r, k, v, k', e, hl => by
    simp only [imp0, lk_cons] at hl
    simp only [List.length_cons]
    split at hl
    · simp at hl; subst hl; simp only [En.ver]; omega
    · have := imp0_ver hl; omega
theorem impE_ver : ∀ {es : List E} {k v k' : Nat} {e : En}, lk k' (impE k v es).2 = some e → v ≤ e.ver ∧ k ≤ k' ∧ k' < k + szE es
  | [], _, _, _, _, hl => by simp [impE, lk] at hl
  | .e x :: r, k, v, k', e, hl => by
    rw [imp0_one] at hl
    simp only [szE]
    rcases lk_or hl with hl | hl
    · have := imp0_ver hl; simp only [List.length_cons, List.length_nil] at this; omega
    · have := impE_ver hl; omega
  | .pt ty xs :: r, k, v, k', e, hl => by
    simp only [impE, lk_cons] at hl
    simp only [szE]
    split at hl
    · simp at hl; subst hl; simp only [En.ver]; omega
    · rcases lk_or hl with hl | hl
      · have := imp0_ver hl; omega
      · have := impE_ver hl; omega
theorem impR_ver : ∀ {rs : List (Bool × List E)} {k v k' : Nat} {e : En}, lk k' (impR k v rs).2 = some e → v ≤ e.ver ∧ k ≤ k' ∧ k' < k + szR rs
  | [], _, _, _, _, hl => by simp [impR, lk] at hl
  | (g, es) :: r, k, v, k', e, hl => by
    simp only [impR] at hl
    simp only [szR]
    rcases lk_or hl with hl | hl
    · have := impE_ver hl; omega
    · have := impR_ver hl; omega
theorem szR_snoc (rs : List (Bool × List E)) (ps : List E) : szR (rs ++ [(true, ps)]) = szR rs + szE ps := by
  induction rs with
  | nil => simp [szR]
  | cons a r ih => obtain ⟨g, es⟩ := a; simp only [List.cons_append, szR, ih]; omega
theorem impR_snoc (rs : List (Bool × List E)) (ps : List E) : ∀ k v, impR k v (rs ++ [(true, ps)]) = ((impR k v rs).1 ++ [(true, (impE (k + szR rs) (v + szR rs) ps).1)], (impR k v rs).2 ++ (impE (k + szR rs) (v + szR rs) ps).2) := by
  induction rs with
  | nil => intro k v; simp [impR, szR]
  | cons a r ih =>
    intro k v
    obtain ⟨g, es⟩ := a
    simp only [List.cons_append, impR, ih, szR, List.append_assoc, Prod.mk.injEq, List.cons.injEq, true_and]
    rw [show k + szE es + szR r = k + (szE es + szR r) by omega, show v + szE es + szR r = v + (szE es + szR r) by omega]
    exact ⟨rfl, rfl⟩
section
variable {Γ Γ' : Cx} {γ γ' : Gh} {f f' : UT} {st st' : St} {mf mf' : Fr} {h h' : H}
theorem RD.nsS {d : D} {c : C} {S : List Nat} (hr : RD h d c S) (hn : nsD d = true) : S = [] := by
  cases d <;> simp [nsD] at hn <;> simp only [RD] at hr <;> exact hr.2
theorem All2.snoc {α β : Type} {R : α → β → Prop} : ∀ {xs : List α} {ys : List β} {x : α} {y : β}, All2 R (xs ++ [x]) (ys ++ [y]) → All2 R xs ys ∧ R x y
  | [], [], _, _, h => ⟨trivial, h.1⟩
  | [], _ :: ys, _, _, h => by cases ys <;> exact h.2.elim
  | _ :: xs, [], _, _, h => by cases xs <;> exact h.2.elim
  | _ :: xs, _ :: ys, _, _, h => ⟨⟨h.1, (All2.snoc h.2).1⟩, (All2.snoc h.2).2⟩
theorem UR.setD (hr : RelG Γ γ f st mf h) {d : Nat} {v : V} {u : U} (hu : UR Γ γ st h v u) : RelG Γ γ (setDU f d u) st (setD mf d v) h := by
  cases d with
  | zero => exact hr
  | succ d => exact hr.set hu
theorem valR_UR {css : List (Bool × List C)} {ds : List (Bool × List D)} (hc : All2 (DG Γ γ st h) css ds) : UR Γ γ st h (valR css) (valU ds) := by
  match css, ds, hc with
  | [], [], _ => exact ⟨[], rfl, trivial⟩
  | [(g, cs)], [(g', d)], hc =>
    obtain ⟨⟨h1, h2⟩, _⟩ := hc
    simp only at h1
    subst h1
    exact ⟨cs, rfl, h2⟩
  | a :: b :: l, a' :: b' :: l', hc => exact ⟨a :: b :: l, rfl, hc⟩
  | [_], _ :: _ :: _, hc => exact hc.2.elim
  | _ :: _ :: _, [_], hc => exact hc.2.elim
theorem All2.mem {α β : Type} {R T : α → β → Prop} : ∀ {xs : List α} {ys : List β}, (∀ x y, y ∈ ys → R x y → T x y) → All2 R xs ys → All2 T xs ys
  | [], [], _, _ => trivial
  | _ :: _, _ :: _, h, hr => ⟨h _ _ (by simp) hr.1, All2.mem (fun x y hy => h x y (by simp [hy])) hr.2⟩
/-- What came back without pointers. -/
theorem RelG.ret0 (hr : RelG Γ γ f st mf h) {ar : Nat → Prop} {rs : List (Bool × List E)} {css : List (Bool × List C)} (d : Nat) (hb : Bun ⟨h, ar, [], []⟩ h' (keyC d) st.nx (rs ++ [(true, [])]) (css ++ [(true, [])])) (hcl : clR rs = true)
    (hsh : nsR rs = true ∨ ∀ i, ar i → PR Γ γ st i) : ∃ γ', RelG Γ γ' (retF f st d rs) (retS st d rs) (setD mf d (valR css)) h' ∧ Mo Γ γ st h γ' (retS st d rs) h' := by
  obtain ⟨γb, hB, hc⟩ := hb
  rw [impR_snoc, szR_snoc] at hB hc
  simp only [impE, List.append_nil, szE, Nat.add_zero] at hB hc
  have hc := (All2.snoc hc).1
  obtain ⟨v1, v2⟩ := impR_VD hcl (keyC d) st.nx
  have n1 := fun hs : nsR rs = true => impR_all (P := fun d => nsD d = true) (v0 := st.nx) (fun _ _ _ => rfl) (fun _ _ _ _ => rfl) (k := keyC d) (Nat.le_refl _) (nsR_A hs)
  have n2 := fun hs : nsR rs = true => impR_sl (k := keyC d) (v := st.nx) hs
  let L := (impR (keyC d) st.nx rs).2
  let sb : St := ⟨st.nx + szR rs, L⟩
  let γ' : Gh := ⟨fun k => if (lk k L).isSome then γb.c k else γ.c k, fun k => if (lk k L).isSome then γb.w k else γ.w k, fun k => if (lk k L).isSome then γb.u k else γ.u k⟩
  have hN : ∀ k e, lk k L = some e → γ'.c k = γb.c k ∧ γ'.w k = γb.w k ∧ γ'.u k = γb.u k := fun k e hl => by simp [γ', hl]
  have hNn : ∀ k, lk k L = none → γ'.c k = γ.c k ∧ γ'.w k = γ.w k ∧ γ'.u k = γ.u k := fun k hl => by simp [γ', hl]
  have hlkS : ∀ k, lk k (retS st d rs).es = (match lk k L with | some e => some e | none => lk k st.es) := fun k => lk_append k L st.es
  have hge : ∀ k e, lk k L = some e → ∀ i ∈ γb.w k ++ γb.u k, h.length ≤ i := fun k e hl i hi => by
    rcases (hB.nd k e hl).2 i hi with h1 | h1
    · cases h1
    · exact h1
  -- what may be read
  have hPR : ∀ i, PR ⟨h, ar, [], []⟩ γb sb i → (h.length ≤ i ∨ PR Γ γ st i) → PR Γ γ' (retS st d rs) i := by
    intro i hp hi
    refine ⟨?_, fun k e hl => ?_⟩
    · rcases hi with hi | hi
      · exact .inr (.inl (Nat.le_trans hr.len hi))
      · exact hi.1
    · rw [hlkS] at hl
      cases hx : lk k L with
      | some e' => rw [(hN k e' hx).2.1]; exact hp.2 k e' hx
      | none =>
        rw [hx] at hl
        rw [(hNn k hx).2.1]
        rcases hi with hi | hi
        · exact fun hw => by have := hr.blt hl i (by simp [hw]); omega
        · exact hi.2 k e hl
  have hok : ∀ {i : Nat}, PR ⟨h, ar, [], []⟩ γb sb i → (nsR rs = true → h.length ≤ i) → PR Γ γ' (retS st d rs) i := by
    intro i hp hn
    refine hPR i hp ?_
    rcases hsh with hsh | hsh
    · exact .inl (hn hsh)
    · rcases hp.1 with h1 | h1 | h1
      · exact .inr (hsh i h1)
      · exact .inl h1
      · cases h1
  have hRD : ∀ {c : C} {d0 : D}, (∃ S, RD h' d0 c S ∧ ∀ i ∈ S, PR ⟨h, ar, [], []⟩ γb sb i) → (nsR rs = true → nsD d0 = true) → ∃ S, RD h' d0 c S ∧ ∀ i ∈ S, PR Γ γ' (retS st d rs) i := by
    rintro c d0 ⟨S, h1, h2⟩ hn
    refine ⟨S, h1, fun i hi => hok (h2 i hi) fun hs => ?_⟩
    rw [h1.nsS (hn hs)] at hi
    cases hi
  have hDC : ∀ {c : C} {d0 : D}, DC ⟨h, ar, [], []⟩ γb sb h' c d0 → (nsR rs = true → nsD d0 = true) → VD st.nx d0 → DC Γ γ' (retS st d rs) h' c d0 := by
    intro c d0 hd hn hvd
    cases d0
    case ow k v =>
      refine ⟨hd.1, fun o dp t xs hl => ?_⟩
      rw [hlkS] at hl
      cases hx : lk k L with
      | some e' =>
        rw [hx] at hl
        simp only [Option.some.injEq] at hl
        rw [(hN k e' hx).1]
        exact hd.2 o dp t xs (by show lk k L = _; rw [hx, hl])
      | none =>
        rw [hx] at hl
        have h1 := (hr.en k _ hl).ver
        have h2 : st.nx ≤ v := hvd
        simp only [En.ver] at h1
        omega
    case pt k v o =>
      refine ⟨hd.1, fun ty ds hl => ?_⟩
      rw [hlkS] at hl
      cases hx : lk k L with
      | some e' =>
        rw [hx] at hl
        simp only [Option.some.injEq] at hl
        rw [(hN k e' hx).1]
        exact hd.2 ty ds (by show lk k L = _; rw [hx, hl])
      | none =>
        rw [hx] at hl
        have h1 := (hr.en k _ hl).ver
        have h2 : st.nx ≤ v := hvd
        simp only [En.ver] at h1
        omega
    case pe x o => exact hvd.elim
    case px k v j o => exact hvd.elim
    case sa k v o n e => exact hvd.elim
    all_goals exact hRD hd hn
  have hmain : RelG Γ γ' f (retS st d rs) mf h' ∧ Mo Γ γ st h γ' (retS st d rs) h' := by
    refine hr.upds (N := fun k => ∃ e, lk k L = some e) (γ' := γ') (st' := retS st d rs) (h' := h') (Nat.le_add_right _ _) (fun k hn => ?_) (fun k e hn hl => ?_) (fun i hi _ => ?_) (fun k e hn hl i hi hlt => ?_) (fun k e _ hl i hi => ?_)
      (fun k e hn hl => ?_) (fun k e k' e' hn hne hl hl' i hi => ?_) hB.len (fun i hi hn => ?_) (fun hm k e hn hl => ?_) (fun i cs hi => (if hlt : i < h.length then (by rw [hB.base i hlt (by simp)]; exact hr.own i cs hi) else hB.own i cs (.inr (Nat.le_of_not_lt hlt))))
    · have hx : lk k L = none := by
        cases hx : lk k L with
        | none => rfl
        | some e => exact absurd ⟨e, hx⟩ hn
      exact ⟨by rw [hlkS, hx], hNn k hx⟩
    · obtain ⟨e', he'⟩ := hn
      rw [hlkS, he'] at hl
      simp only [Option.some.injEq] at hl
      subst hl
      exact .inl (impR_ver he').1
    · unfold H.cells
      rw [hB.base i hi (by simp)]
    · obtain ⟨e', he'⟩ := hn
      rw [(hN k e' he').2.1] at hi
      have := hge k e' he' i (by simp [hi])
      omega
    · exact hB.base i (hr.blt hl i (by simp [hi])) (by simp)
    · obtain ⟨e', he'⟩ := hn
      rw [(hN k e' he').2.1, (hN k e' he').2.2]
      exact ⟨(hB.nd k e' he').1, fun i hi => .inr (Nat.le_trans hr.len (hge k e' he' i hi))⟩
    · obtain ⟨e0, he0⟩ := hn
      rw [(hN k e0 he0).2.1, (hN k e0 he0).2.2] at hi
      rw [hlkS] at hl'
      cases hx : lk k' L with
      | some e1 =>
        rw [(hN k' e1 hx).2.1, (hN k' e1 hx).2.2]
        exact hB.dj k k' e0 e1 (fun e => hne e.symm) he0 hx i hi
      | none =>
        rw [hx] at hl'
        rw [(hNn k' hx).2.1, (hNn k' hx).2.2]
        have h1 := hge k e0 he0 i hi
        exact fun h2 => by have := hr.blt hl' i h2; omega
    · have h1 : i < h.length := Nat.lt_of_lt_of_le hi hr.len
      exact hB.base i h1 (by simp)
    · obtain ⟨e', he'⟩ := hn
      rw [hlkS, he'] at hl
      simp only [Option.some.injEq] at hl
      subst hl
      have he := hB.en k e' he'
      obtain ⟨g1, g2, g3⟩ := hN k e' he'
      match e', he' with
      | .sl v true dp t xs, he' =>
        obtain ⟨hv, he⟩ := he
        refine ⟨hv, ?_⟩
        rw [g1, g2, g3]
        rcases he with he | ⟨id, ty, ez, bs, S, k1, k2, k3, k4, k5, k6, k7, k8⟩
        · exact .inl he
        · refine .inr ⟨id, ty, ez, bs, S, k1, k2, k3, k4, k5, k6, fun i hi => hok (k7 i hi) fun hs => ?_, k8⟩
          rcases n2 hs k _ he' with hdp | hfl
          · rw [if_pos hdp] at k8
            exact hge k _ he' i (by rw [k8]; simp [hi])
          · rw [k6.flatS hfl] at hi; cases hi
      | .sl v false dp t xs, he' =>
        exfalso
        have : ∀ {rs : List (Bool × List E)} {k v k' w : Nat} {dp t xs}, lk k' (impR k v rs).2 ≠ some (.sl w false dp t xs) := by
          have h0 : ∀ {xs : List E0} {k v k' w : Nat} {dp t ys}, lk k' (imp0 k v xs).2 ≠ some (.sl w false dp t ys) := by
            intro xs
            induction xs with
            | nil => intro k v k' w dp t ys hl; simp [imp0, lk] at hl
            | cons x r ih =>
              intro k v k' w dp t ys hl
              cases x with
              | p d => simp only [imp0] at hl; exact ih hl
              | o dp' t' xs' =>
                simp only [imp0, lk_cons] at hl
                split at hl
                · simp at hl
                · exact ih hl
          have h1 : ∀ {es : List E} {k v k' w : Nat} {dp t ys}, lk k' (impE k v es).2 ≠ some (.sl w false dp t ys) := by
            intro es
            induction es with
            | nil => intro k v k' w dp t ys hl; simp [impE, lk] at hl
            | cons x r ih =>
              intro k v k' w dp t ys hl
              cases x with
              | e x =>
                rw [imp0_one] at hl
                rcases lk_or hl with hl | hl
                · exact h0 hl
                · exact ih hl
              | pt ty xs' =>
                simp only [impE, lk_cons] at hl
                split at hl
                · simp at hl
                · rcases lk_or hl with hl | hl
                  · exact h0 hl
                  · exact ih hl
          intro rs
          induction rs with
          | nil => intro k v k' w dp t ys hl; simp [impR, lk] at hl
          | cons x r ih =>
            intro k v k' w dp t ys hl
            obtain ⟨g, es⟩ := x
            simp only [impR] at hl
            rcases lk_or hl with hl | hl
            · exact h1 hl
            · exact ih hl
        exact this he'
      | .pt v ty ds, he' =>
        obtain ⟨hv, k1, id, bs, k2, k3, k4, k5⟩ := he
        refine ⟨hv, by rw [g3, k1], id, bs, by rw [g1, k2], by rw [g2, k3], k4, ?_⟩
        exact All2.mem (fun c d0 hd0 hd => hDC hd (fun hs => (n1 hs).2 k _ he' d0 hd0) (v2 k _ he' d0 hd0)) k5
  obtain ⟨r1, r2⟩ := hmain
  refine ⟨γ', ?_, r2⟩
  refine UR.setD r1 (valR_UR ?_)
  refine All2.mem (fun a b hb ⟨k1, k2⟩ => ⟨k1, ?_⟩) hc
  exact All2.mem (fun c d0 hd0 hd => hDC hd (fun hs => (n1 hs).1 b hb d0 hd0) (v1 b hb d0 hd0)) k2
end
end Go.Eng
