/-
  The value machine, part M: functions; the rules as equations.
-/
import Derived.Test.YtaicdpancmfhnaaVmL
set_option linter.unusedVariables false
set_option linter.unusedSimpArgs false
namespace Go.Eng
def enterU (f : UT) (n : Nat) : List (Bool × List D) → UT
  | [] => f
  | (g, ds) :: r => enterU (UW f n (.val g ds)) (n + 1) r
section
variable {Γ : Cx} {γ : Gh} {f : UT} {st : St} {mf : Fr} {h : H}
theorem RelG.enter : ∀ {ds : List (Bool × List D)} {ms : List (Bool × List C)} {f : UT} {mf : Fr} {n : Nat}, RelG Γ γ f st mf h → All2 (DG Γ γ st h) ms ds → RelG Γ γ (enterU f n ds) st (enter0 mf n ms) h
  | [], [], _, _, _, hr, _ => hr
  | (g, d) :: ds, (g', c) :: ms, f, mf, n, hr, ha => by
    obtain ⟨⟨h1, h2⟩, h3⟩ := ha
    simp only at h1
    subst h1
    simp only [enterU, enter0]
    exact RelG.enter (hr.set (mv := .val g' c) (uv := .val g' d) ⟨c, rfl, h2⟩) h3
theorem RelG.full (hr : RelG Γ γ UT.leaf st PT.leaf h) (n : Nat) : RelG Γ γ (UT.full n) st (PT.full n) h :=
  { hr with fr := fun k => (by rw [PT.get_full, UT.get_full]; intro cs e; cases e) }
end
/-- A function without pointers. -/
theorem VC_enter {cd : Nat → Option AF} {g : Nat} {a : AF} (hg : cd g = some a) {ds : List (Bool × List D)} (hl : ds.length = a.np) {Q : List (Bool × List E) → List E → Prop}
    (hv : VX cd [] a.res Q [.c a.body] (enterU (UT.full a.dep) 0 ds) ⟨szR (mkP ds), []⟩) : VC cd g (mkP ds) Q := by
  intro Γ ms hp hb
  obtain ⟨γ, hr, hc⟩ := hb
  rw [impR_mkP] at hr hc
  rw [ptrs_mkP]
  have hm : ms.length = a.np := by rw [← hl]; exact hc.length
  refine WS_enter hg hm ?_
  have h1 := (hr.full a.dep).enter (n := 0) hc
  have h2 := VX_ok hv (Γ := Γ) (by unfold pinK; rw [hp]; rfl) ⟨γ, by simpa using h1⟩
  have e1 : Γ.un = Γ := by cases Γ; simp only at hp; subst hp; rfl
  have e2 : pinC Γ = [] := by unfold pinC; rw [hp]; rfl
  rw [e1, e2] at h2
  exact h2
/-! ### A function with a pointer -/
theorem All2.split {α β : Type} {R : α → β → Prop} : ∀ {xs : List α} {ys zs : List β}, All2 R xs (ys ++ zs) → ∃ x1 x2, xs = x1 ++ x2 ∧ All2 R x1 ys ∧ All2 R x2 zs
  | xs, [], zs, h => ⟨[], xs, rfl, trivial, h⟩
  | [], _ :: _, _, h => h.elim
  | x :: xs, y :: ys, zs, h => by
    obtain ⟨x1, x2, rfl, h1, h2⟩ := All2.split h.2
    exact ⟨x :: x1, x2, rfl, ⟨h.1, h1⟩, h2⟩
/-! ### The rules as equations -/
def FNU (o : Option (List (Bool × List E) × List E)) (Q : List (Bool × List E) → List E → Prop) : Prop :=
  match o with
  | some (rs, ps) => Q rs ps
  | none => False
def VXo (cd : Nat → Option AF) (pd : List (Nat × Nat)) (R : List RV) (Q : List (Bool × List E) → List E → Prop) (o : Option (UT × St)) (l : List IT) (k : List VK) : Prop :=
  match o with
  | some (f, st) => VX cd pd R Q (.c (.ops l) :: k) f st
  | none => False
def VXb (o : Option D) (A B : Prop) : Prop :=
  match o with
  | some (.bool true) => A
  | some (.bool false) => B
  | _ => False
def VXk (cd : Nat → Option AF) (pd : List (Nat × Nat)) (R : List RV) (Q : List (Bool × List E) → List E → Prop) (o : Option (List VK)) (f : UT) (st : St) : Prop :=
  match o with
  | some k => VX cd pd R Q k f st
  | none => False
section
variable {cd : Nat → Option AF} {pd : List (Nat × Nat)} {R : List RV} {Q : List (Bool × List E) → List E → Prop} {k : List VK} {f : UT} {st : St}
theorem VX_nil : VX cd pd R Q [] f st = FNU (finU f st R pd) Q := by
  apply propext
  constructor
  · intro h; cases h with | nil h1 h2 => rw [h1]; exact h2
  · intro h
    cases hx : finU f st R pd with
    | none => rw [hx] at h; exact h.elim
    | some p => obtain ⟨rs, ps⟩ := p; rw [hx] at h; exact .nil hx h
theorem VX_b {i : Nat} : VX cd pd R Q (.b i :: k) f st = VX cd pd R Q k f st := propext ⟨fun h => by cases h; assumption, .b⟩
theorem VX_stop {P : UT → St → Prop} : VX cd pd R Q (.stop P :: k) f st = P f st := propext ⟨fun h => by cases h; assumption, .stop⟩
theorem VX_skip : VX cd pd R Q (.c .skip :: k) f st = VX cd pd R Q k f st := propext ⟨fun h => by cases h; assumption, .skip⟩
theorem VX_ret : VX cd pd R Q (.c .ret :: k) f st = FNU (finU f st R pd) Q := by
  apply propext
  constructor
  · intro h; cases h with | ret h1 h2 => rw [h1]; exact h2
  · intro h
    cases hx : finU f st R pd with
    | none => rw [hx] at h; exact h.elim
    | some p => obtain ⟨rs, ps⟩ := p; rw [hx] at h; exact .ret hx h
theorem VX_exit {id : Nat} : VX cd pd R Q (.c (.exit id) :: k) f st = VXk cd pd R Q (exK id k) f st := by
  apply propext
  constructor
  · intro h; cases h with | exit h1 h2 => rw [h1]; exact h2
  · intro h
    cases hx : exK id k with
    | none => rw [hx] at h; exact h.elim
    | some k' => rw [hx] at h; exact .exit hx h
theorem VX_seq {a b : AC} : VX cd pd R Q (.c (.seq a b) :: k) f st = VX cd pd R Q (.c a :: .c b :: k) f st := propext ⟨fun h => by cases h; assumption, .seq⟩
theorem VX_block {id : Nat} {b : AC} : VX cd pd R Q (.c (.block id b) :: k) f st = VX cd pd R Q (.c b :: .b id :: k) f st := propext ⟨fun h => by cases h; assumption, .block⟩
theorem VX_cond {x : X} {a c : AC} : VX cd pd R Q (.c (.cond x a c) :: k) f st = VXb (uv1 f x) (VX cd pd R Q (.c a :: k) f st) (VX cd pd R Q (.c c :: k) f st) := by
  apply propext
  constructor
  · intro h
    cases h with
    | cond v h1 h2 => rw [h1]; cases v <;> simpa [VXb] using h2
  · intro h
    unfold VXb at h
    split at h
    · rename_i hx; exact .cond true hx (by simpa using h)
    · rename_i hx; exact .cond false hx (by simpa using h)
    · exact h.elim
theorem VX_ops : VX cd pd R Q (.c (.ops []) :: k) f st = VX cd pd R Q k f st := propext ⟨fun h => by cases h; assumption, .ops⟩
theorem VX_i {a : AI} {l : List IT} (ha : a.plain = true) : VX cd pd R Q (.c (.ops (.i a :: l)) :: k) f st = VXo cd pd R Q (vai a f st) l k := by
  apply propext
  constructor
  · intro h
    cases h with
    | i h1 h2 => rw [h1]; exact h2
    | call => simp [AI.plain] at ha
    | callp => simp [AI.plain] at ha
    | clv => simp [AI.plain] at ha
  · intro h
    cases hx : vai a f st with
    | none => rw [hx] at h; exact h.elim
    | some p => obtain ⟨f', st'⟩ := p; rw [hx] at h; exact .i hx h
theorem VX_gt {s d : Nat} {a : AI} {l : List IT} : VX cd pd R Q (.c (.ops (.g s true d a :: l)) :: k) f st = VXb (uv1 f (.s s)) (VX cd pd R Q (.c (.ops (.i a :: l)) :: k) f st) (VX cd pd R Q (.c (.ops l) :: k) (setDU f d .any) st) := by
  apply propext
  constructor
  · intro h
    cases h with
    | gy h1 h2 => rw [h1]; exact h2
    | gn h1 h2 => rw [h1]; exact h2
  · intro h
    unfold VXb at h
    split at h
    · rename_i hx; exact .gy hx h
    · rename_i hx; exact .gn hx h
    · exact h.elim
theorem VX_gf {s d : Nat} {a : AI} {l : List IT} : VX cd pd R Q (.c (.ops (.g s false d a :: l)) :: k) f st = VXb (uv1 f (.s s)) (VX cd pd R Q (.c (.ops l) :: k) (setDU f d .any) st) (VX cd pd R Q (.c (.ops (.i a :: l)) :: k) f st) := by
  apply propext
  constructor
  · intro h
    cases h with
    | gy h1 h2 => rw [h1]; exact h2
    | gn h1 h2 => rw [h1]; exact h2
  · intro h
    unfold VXb at h
    split at h
    · rename_i hx; exact .gn hx h
    · rename_i hx; exact .gy hx h
    · exact h.elim
/-- A branch: what is run, with which frame. -/
def VXB (cd : Nat → Option AF) (pd : List (Nat × Nat)) (R : List RV) (Q : List (Bool × List E) → List E → Prop) (o : Option D) (kt : List VK) (ft : UT) (kf : List VK) (ff : UT) (st : St) : Prop := VXb o (VX cd pd R Q kt ft st) (VX cd pd R Q kf ff st)
theorem VXB_t {kt kf : List VK} {ft ff : UT} : VXB cd pd R Q (some (.bool true)) kt ft kf ff st = VX cd pd R Q kt ft st := rfl
theorem VXB_f {kt kf : List VK} {ft ff : UT} : VXB cd pd R Q (some (.bool false)) kt ft kf ff st = VX cd pd R Q kf ff st := rfl
theorem VXB_not {b : Bool} {kt kf : List VK} {ft ff : UT} : VXB cd pd R Q (some (.bool (!b))) kt ft kf ff st = VXB cd pd R Q (some (.bool b)) kf ff kt ft st := by cases b <;> rfl
theorem VXB_b {b : Bool} {kt kf : List VK} {ft ff : UT} (ht : b = true → VX cd pd R Q kt ft st) (hf : b = false → VX cd pd R Q kf ff st) : VXB cd pd R Q (some (.bool b)) kt ft kf ff st := by
  cases b
  · exact hf rfl
  · exact ht rfl
theorem VXB_dec {p : Prop} {_ : Decidable p} {kt kf : List VK} {ft ff : UT} (ht : p → VX cd pd R Q kt ft st) (hf : ¬ p → VX cd pd R Q kf ff st) : VXB cd pd R Q (some (.bool (decide p))) kt ft kf ff st := by
  by_cases hp : p
  · simp only [hp, decide_true, VXB_t]; exact ht hp
  · simp only [hp, decide_false, VXB_f]; exact hf hp
end
/-- The rules: what is no call. -/
theorem VP {cd : Nat → Option AF} {pd : List (Nat × Nat)} {R : List RV} {Q : List (Bool × List E) → List E → Prop} : (∀ (k : List VK) (f : UT) (st : St) (l : List IT) d_ x_, VX cd pd R Q (.c (.ops (.i (.mov d_ x_) :: l)) :: k) f st = VXo cd pd R Q (vai (.mov d_ x_) f st) l k) ∧
    (∀ (k : List VK) (f : UT) (st : St) (l : List IT) d_ c_ a_ b_, VX cd pd R Q (.c (.ops (.i (.pick d_ c_ a_ b_) :: l)) :: k) f st = VXo cd pd R Q (vai (.pick d_ c_ a_ b_) f st) l k) ∧
    (∀ (k : List VK) (f : UT) (st : St) (l : List IT) d_ x_, VX cd pd R Q (.c (.ops (.i (.lbox d_ x_) :: l)) :: k) f st = VXo cd pd R Q (vai (.lbox d_ x_) f st) l k) ∧
    (∀ (k : List VK) (f : UT) (st : St) (l : List IT) d_ cs_, VX cd pd R Q (.c (.ops (.i (.lal d_ cs_) :: l)) :: k) f st = VXo cd pd R Q (vai (.lal d_ cs_) f st) l k) ∧
    (∀ (k : List VK) (f : UT) (st : St) (l : List IT) d_ ty_ x_, VX cd pd R Q (.c (.ops (.i (.hbox d_ ty_ x_) :: l)) :: k) f st = VXo cd pd R Q (vai (.hbox d_ ty_ x_) f st) l k) ∧
    (∀ (k : List VK) (f : UT) (st : St) (l : List IT) d_ ty_ cs_, VX cd pd R Q (.c (.ops (.i (.hal d_ ty_ cs_) :: l)) :: k) f st = VXo cd pd R Q (vai (.hal d_ ty_ cs_) f st) l k) ∧
    (∀ (k : List VK) (f : UT) (st : St) (l : List IT) d_ z_ ps_, VX cd pd R Q (.c (.ops (.i (.bld d_ z_ ps_) :: l)) :: k) f st = VXo cd pd R Q (vai (.bld d_ z_ ps_) f st) l k) ∧
    (∀ (k : List VK) (f : UT) (st : St) (l : List IT) d_ ty_ e_ n_ z_ ps_, VX cd pd R Q (.c (.ops (.i (.bsl d_ ty_ e_ n_ z_ ps_) :: l)) :: k) f st = VXo cd pd R Q (vai (.bsl d_ ty_ e_ n_ z_ ps_) f st) l k) ∧
    (∀ (k : List VK) (f : UT) (st : St) (l : List IT) d_, VX cd pd R Q (.c (.ops (.i (.bse d_) :: l)) :: k) f st = VXo cd pd R Q (vai (.bse d_) f st) l k) ∧
    (∀ (k : List VK) (f : UT) (st : St) (l : List IT) d_ e_ n_ z_ ps_, VX cd pd R Q (.c (.ops (.i (.lsl d_ e_ n_ z_ ps_) :: l)) :: k) f st = VXo cd pd R Q (vai (.lsl d_ e_ n_ z_ ps_) f st) l k) ∧
    (∀ (k : List VK) (f : UT) (st : St) (l : List IT) d_ x_ o_, VX cd pd R Q (.c (.ops (.i (.fad d_ x_ o_) :: l)) :: k) f st = VXo cd pd R Q (vai (.fad d_ x_ o_) f st) l k) ∧
    (∀ (k : List VK) (f : UT) (st : St) (l : List IT) d_ x_ i_ e_, VX cd pd R Q (.c (.ops (.i (.iad d_ x_ i_ e_) :: l)) :: k) f st = VXo cd pd R Q (vai (.iad d_ x_ i_ e_) f st) l k) ∧
    (∀ (k : List VK) (f : UT) (st : St) (l : List IT) d_ x_ i_ e_ n_, VX cd pd R Q (.c (.ops (.i (.iaa d_ x_ i_ e_ n_) :: l)) :: k) f st = VXo cd pd R Q (vai (.iaa d_ x_ i_ e_ n_) f st) l k) ∧
    (∀ (k : List VK) (f : UT) (st : St) (l : List IT) d_ r_ x_ n_ g_, VX cd pd R Q (.c (.ops (.i (.ldl d_ r_ x_ n_ g_) :: l)) :: k) f st = VXo cd pd R Q (vai (.ldl d_ r_ x_ n_ g_) f st) l k) ∧
    (∀ (k : List VK) (f : UT) (st : St) (l : List IT) d_ x_ n_ g_, VX cd pd R Q (.c (.ops (.i (.ldh d_ x_ n_ g_) :: l)) :: k) f st = VXo cd pd R Q (vai (.ldh d_ x_ n_ g_) f st) l k) ∧
    (∀ (k : List VK) (f : UT) (st : St) (l : List IT) r_ x_ v_ n_, VX cd pd R Q (.c (.ops (.i (.stl r_ x_ v_ n_) :: l)) :: k) f st = VXo cd pd R Q (vai (.stl r_ x_ v_ n_) f st) l k) ∧
    (∀ (k : List VK) (f : UT) (st : St) (l : List IT) x_ v_ n_, VX cd pd R Q (.c (.ops (.i (.sth x_ v_ n_) :: l)) :: k) f st = VXo cd pd R Q (vai (.sth x_ v_ n_) f st) l k) ∧
    (∀ (k : List VK) (f : UT) (st : St) (l : List IT) d_ op_ x_ y_, VX cd pd R Q (.c (.ops (.i (.bin d_ op_ x_ y_) :: l)) :: k) f st = VXo cd pd R Q (vai (.bin d_ op_ x_ y_) f st) l k) ∧
    (∀ (k : List VK) (f : UT) (st : St) (l : List IT) d_ n_ x_ y_, VX cd pd R Q (.c (.ops (.i (.beq d_ n_ x_ y_) :: l)) :: k) f st = VXo cd pd R Q (vai (.beq d_ n_ x_ y_) f st) l k) ∧
    (∀ (k : List VK) (f : UT) (st : St) (l : List IT) d_ n_ x_, VX cd pd R Q (.c (.ops (.i (.snil d_ n_ x_) :: l)) :: k) f st = VXo cd pd R Q (vai (.snil d_ n_ x_) f st) l k) ∧
    (∀ (k : List VK) (f : UT) (st : St) (l : List IT) d_ n_ x_ y_, VX cd pd R Q (.c (.ops (.i (.geq d_ n_ x_ y_) :: l)) :: k) f st = VXo cd pd R Q (vai (.geq d_ n_ x_ y_) f st) l k) ∧
    (∀ (k : List VK) (f : UT) (st : St) (l : List IT) d_ x_, VX cd pd R Q (.c (.ops (.i (.neg d_ x_) :: l)) :: k) f st = VXo cd pd R Q (vai (.neg d_ x_) f st) l k) ∧
    (∀ (k : List VK) (f : UT) (st : St) (l : List IT) d_ x_, VX cd pd R Q (.c (.ops (.i (.not d_ x_) :: l)) :: k) f st = VXo cd pd R Q (vai (.not d_ x_) f st) l k) ∧
    (∀ (k : List VK) (f : UT) (st : St) (l : List IT) d_ k_ x_, VX cd pd R Q (.c (.ops (.i (.cvi d_ k_ x_) :: l)) :: k) f st = VXo cd pd R Q (vai (.cvi d_ k_ x_) f st) l k) ∧
    (∀ (k : List VK) (f : UT) (st : St) (l : List IT) d_ x_, VX cd pd R Q (.c (.ops (.i (.cbs d_ x_) :: l)) :: k) f st = VXo cd pd R Q (vai (.cbs d_ x_) f st) l k) ∧
    (∀ (k : List VK) (f : UT) (st : St) (l : List IT) d_ ty_ e_ b_ z_ x_, VX cd pd R Q (.c (.ops (.i (.mks d_ ty_ e_ b_ z_ x_) :: l)) :: k) f st = VXo cd pd R Q (vai (.mks d_ ty_ e_ b_ z_ x_) f st) l k) ∧
    (∀ (k : List VK) (f : UT) (st : St) (l : List IT) d_ e_ x_ lo_ hi_, VX cd pd R Q (.c (.ops (.i (.slc d_ e_ x_ lo_ hi_) :: l)) :: k) f st = VXo cd pd R Q (vai (.slc d_ e_ x_ lo_ hi_) f st) l k) ∧
    (∀ (k : List VK) (f : UT) (st : St) (l : List IT) d_ x_ lo_ hi_, VX cd pd R Q (.c (.ops (.i (.sls d_ x_ lo_ hi_) :: l)) :: k) f st = VXo cd pd R Q (vai (.sls d_ x_ lo_ hi_) f st) l k) ∧
    (∀ (k : List VK) (f : UT) (st : St) (l : List IT) d_ x_ n_ e_, VX cd pd R Q (.c (.ops (.i (.sla d_ x_ n_ e_) :: l)) :: k) f st = VXo cd pd R Q (vai (.sla d_ x_ n_ e_) f st) l k) ∧
    (∀ (k : List VK) (f : UT) (st : St) (l : List IT) d_ x_ o_ n_ g_, VX cd pd R Q (.c (.ops (.i (.fld d_ x_ o_ n_ g_) :: l)) :: k) f st = VXo cd pd R Q (vai (.fld d_ x_ o_ n_ g_) f st) l k) ∧
    (∀ (k : List VK) (f : UT) (st : St) (l : List IT) d_ x_ i_ e_ n_ g_, VX cd pd R Q (.c (.ops (.i (.idx d_ x_ i_ e_ n_ g_) :: l)) :: k) f st = VXo cd pd R Q (vai (.idx d_ x_ i_ e_ n_ g_) f st) l k) ∧
    (∀ (k : List VK) (f : UT) (st : St) (l : List IT) d_ x_ i_, VX cd pd R Q (.c (.ops (.i (.ids d_ x_ i_) :: l)) :: k) f st = VXo cd pd R Q (vai (.ids d_ x_ i_) f st) l k) ∧
    (∀ (k : List VK) (f : UT) (st : St) (l : List IT) d_ x_ i_, VX cd pd R Q (.c (.ops (.i (.ext d_ x_ i_) :: l)) :: k) f st = VXo cd pd R Q (vai (.ext d_ x_ i_) f st) l k) ∧
    (∀ (k : List VK) (f : UT) (st : St) (l : List IT) d_ x_, VX cd pd R Q (.c (.ops (.i (.nch d_ x_) :: l)) :: k) f st = VXo cd pd R Q (vai (.nch d_ x_) f st) l k) ∧
    (∀ (k : List VK) (f : UT) (st : St) (l : List IT) d_ s_ x_, VX cd pd R Q (.c (.ops (.i (.len d_ s_ x_) :: l)) :: k) f st = VXo cd pd R Q (vai (.len d_ s_ x_) f st) l k) ∧
    (∀ (k : List VK) (f : UT) (st : St) (l : List IT) d_ ty_ e_ b_ x_ y_, VX cd pd R Q (.c (.ops (.i (.app d_ ty_ e_ b_ x_ y_) :: l)) :: k) f st = VXo cd pd R Q (vai (.app d_ ty_ e_ b_ x_ y_) f st) l k) ∧
    (∀ (k : List VK) (f : UT) (st : St) (l : List IT) d_ e_ x_ y_, VX cd pd R Q (.c (.ops (.i (.cpy d_ e_ x_ y_) :: l)) :: k) f st = VXo cd pd R Q (vai (.cpy d_ e_ x_ y_) f st) l k) ∧
    (∀ (k : List VK) (f : UT) (st : St) (l : List IT) d_ m_ x_ y_, VX cd pd R Q (.c (.ops (.i (.mm d_ m_ x_ y_) :: l)) :: k) f st = VXo cd pd R Q (vai (.mm d_ m_ x_ y_) f st) l k) :=
  by (repeat' apply And.intro) <;> intros <;> exact VX_i rfl
/-! ### Calls -/
def VXC (cd : Nat → Option AF) (pd : List (Nat × Nat)) (R : List RV) (Q : List (Bool × List E) → List E → Prop) (d g : Nat) (q : Bool) (l : List IT) (k : List VK) (f : UT) (st : St) (o : Option (List (Bool × List D))) : Prop :=
  (∃ vs as us as' k0 v0 ty0 ty ds0 rs ys, q = false ∧ o = some vs ∧ VC cd g as' (fun r p => r = rs ∧ p = [.pt ty ys]) ∧ expR (frzA st vs) vs [] = some (as, us) ∧ nrm as = as' ∧ ptOf vs = [(k0, v0)] ∧ (frzA st vs).ptr k0 v0 = some (ty0, ds0) ∧ us.elem k0 = true ∧ usOk (frzA st vs) us = true ∧
      (k0 < keyC d ∨ keyC d + szR rs ≤ k0) ∧ k0 < 1099511627776 ∧ keyC d + szR rs ≤ 1099511627776 ∧ VX cd pd R Q (.c (.ops l) :: k) (retF f (frzA st vs) d rs) (retP (frzA st vs) d rs k0 v0 ty ys us)) ∨
  ∃ vs as Q' sh, o = some vs ∧ argsD (if sh then frzA st vs else st) vs = some as ∧ (sh = true → sfA (frzA st vs) vs = true) ∧ VC cd g (mkP as) Q' ∧ (sh = false → ∀ rs ps, Q' rs ps → nsR rs = true) ∧
      (∀ rs, Q' rs [] → VX cd pd R Q (.c (.ops l) :: k) (retF f (if sh then frzA st vs else st) d rs) (retS (if sh then frzA st vs else st) d rs))
def VXf (cd : Nat → Option AF) (pd : List (Nat × Nat)) (R : List RV) (Q : List (Bool × List E) → List E → Prop) (d : Nat) (q : Bool) (xs : List X) (l : List IT) (k : List VK) (f : UT) (st : St) (o : Option D) : Prop :=
  match o with
  | some (.fn g) => VX cd pd R Q (.c (.ops (.i (.call d g q xs) :: l)) :: k) f st
  | _ => False
section
variable {cd : Nat → Option AF} {pd : List (Nat × Nat)} {R : List RV} {Q : List (Bool × List E) → List E → Prop} {k : List VK} {f : UT} {st : St}
theorem VX_call {d g : Nat} {q : Bool} {xs : List X} {l : List IT} : VX cd pd R Q (.c (.ops (.i (.call d g q xs) :: l)) :: k) f st = VXC cd pd R Q d g q l k f st (argsU f xs) := by
  apply propext
  constructor
  · intro h
    cases h with
    | i h1 h2 => simp [vai] at h1
    | call Q' sh h1 h2 h3 h4 h5 h6 => exact .inr ⟨_, _, Q', sh, h1, h2, h3, h4, h5, h6⟩
    | callp h1 h2 h3 h4 h5 h6 h7 h8 h9 h10 h11 h12 => exact .inl ⟨_, _, _, _, _, _, _, _, _, _, _, rfl, h1, h2, h3, h4, h5, h6, h7, h8, h9, h10, h11, h12⟩
  · rintro (⟨vs, as, us, as', k0, v0, ty0, ty, ds0, rs, ys, rfl, h1, h2, h3, h4, h5, h6, h7, h8, h9, h10, h11, h12⟩ | ⟨vs, as, Q', sh, h1, h2, h3, h4, h5, h6⟩)
    · exact .callp h1 h2 h3 h4 h5 h6 h7 h8 h9 h10 h11 h12
    · exact .call Q' sh h1 h2 h3 h4 h5 h6
theorem VX_clv {d : Nat} {q : Bool} {x : X} {xs : List X} {l : List IT} : VX cd pd R Q (.c (.ops (.i (.clv d q x xs) :: l)) :: k) f st = VXf cd pd R Q d q xs l k f st (uv1 f x) := by
  apply propext
  constructor
  · intro h
    cases h with
    | i h1 h2 => simp [vai] at h1
    | clv h1 h2 => rw [h1]; exact h2
  · intro h
    unfold VXf at h
    split at h
    · rename_i hx; exact .clv hx h
    · exact h.elim
/-- A call whose results share nothing. -/
theorem VXC_e {d g : Nat} {q : Bool} {l : List IT} {vs as : List (Bool × List D)} {rs : List (Bool × List E)} (hc : VC cd g (mkP as) (fun r _ => r = rs)) (ha : argsD st vs = some as) (hn : nsR rs = true)
    (hk : VX cd pd R Q (.c (.ops l) :: k) (retF f st d rs) (retS st d rs)) : VXC cd pd R Q d g q l k f st (some vs) :=
  .inr ⟨vs, as, fun r _ => r = rs, false, rfl, (by simpa using ha), (fun h => by cases h), hc, (fun _ r _ h => by subst h; exact hn), (fun r h => by subst h; simpa using hk)⟩
/-- A loop. -/
theorem VX_loop {ds : List Nat} {b : AC} {σ : Type} (F : σ → UT) (S : σ → St) (J : σ → Nat → Prop) (s0 : σ) (g0 : Nat) (h0 : J s0 g0) (hw : Weak (forgetU f ds) st (F s0) (S s0))
    (hr : ∀ s g, J s g → VX cd pd R Q (.c b :: .stop (fun f' st' => ∃ s' g', g' < g ∧ J s' g' ∧ Weak (forgetU f' ds) st' (F s') (S s')) :: k) (F s) (S s)) : VX cd pd R Q (.c (.loop ds b) :: k) f st :=
  .loop F S J s0 g0 h0 hw hr
end
/-! ### Loops -/
inductive KLe : List VK → List VK → Prop
  | nil : KLe [] []
  | c {a k k'} : KLe k k' → KLe (.c a :: k) (.c a :: k')
  | b {i k k'} : KLe k k' → KLe (.b i :: k) (.b i :: k')
  | stop {P P' k k'} : (∀ f st, P f st → P' f st) → KLe k k' → KLe (.stop P :: k) (.stop P' :: k')
theorem KLe.refl : ∀ k, KLe k k
  | [] => .nil
  | .c _ :: k => .c (KLe.refl k)
  | .b _ :: k => .b (KLe.refl k)
  | .stop _ :: k => .stop (fun _ _ h => h) (KLe.refl k)
theorem KLe.ex {id : Nat} {k k1 : List VK} : ∀ {k' : List VK}, KLe k k' → exK id k = some k1 → ∃ k1', exK id k' = some k1' ∧ KLe k1 k1' := by
  intro k' hk
  induction hk with
  | nil => intro h; simp [exK] at h
  | c _ ih => intro h; simp only [exK] at h ⊢; exact ih h
  | @b i k k' hk ih =>
    intro h
    simp only [exK] at h ⊢
    split at h
    · rename_i hi; simp at h; subst h; rw [if_pos hi]; exact ⟨_, rfl, hk⟩
    · rename_i hi; rw [if_neg hi]; exact ih h
  | stop _ _ ih => intro h; simp only [exK] at h ⊢; exact ih h
theorem VX.le {cd : Nat → Option AF} {pd : List (Nat × Nat)} {R : List RV} {Q : List (Bool × List E) → List E → Prop} {k : List VK} {f : UT} {st : St} (hv : VX cd pd R Q k f st) : ∀ {k'}, KLe k k' → VX cd pd R Q k' f st := by
  induction hv with
  | nil h1 h2 => intro k' hk; cases hk; exact .nil h1 h2
  | b _ ih => intro k' hk; cases hk with | b hk => exact .b (ih hk)
  | stop h1 => intro k' hk; cases hk with | stop hp hk => exact .stop (hp _ _ h1)
  | skip _ ih => intro k' hk; cases hk with | c hk => exact .skip (ih hk)
  | ret h1 h2 => intro k' hk; cases hk with | c hk => exact .ret h1 h2
  | exit h1 _ ih => intro k' hk; cases hk with | c hk => obtain ⟨k1, q1, q2⟩ := hk.ex h1; exact .exit q1 (ih q2)
  | seq _ ih => intro k' hk; cases hk with | c hk => exact .seq (ih (.c (.c hk)))
  | block _ ih => intro k' hk; cases hk with | c hk => exact .block (ih (.c (.b hk)))
  | cond v h1 _ ih => intro k' hk; cases hk with | c hk => exact .cond v h1 (ih (.c hk))
  | ops _ ih => intro k' hk; cases hk with | c hk => exact .ops (ih hk)
  | i h1 _ ih => intro k' hk; cases hk with | c hk => exact .i h1 (ih (.c hk))
  | gy h1 _ ih => intro k' hk; cases hk with | c hk => exact .gy h1 (ih (.c hk))
  | gn h1 _ ih => intro k' hk; cases hk with | c hk => exact .gn h1 (ih (.c hk))
  | call Q' sh h1 h2 h3 h4 h5 _ ih => intro k' hk; cases hk with | c hk => exact .call Q' sh h1 h2 h3 h4 h5 (fun rs hq => ih rs hq (.c hk))
  | callp h1 h2 h3 h4 h5 h6 h7 h8 h9 h10 h11 _ ih => intro k' hk; cases hk with | c hk => exact .callp h1 h2 h3 h4 h5 h6 h7 h8 h9 h10 h11 (ih (.c hk))
  | clv h1 _ ih => intro k' hk; cases hk with | c hk => exact .clv h1 (ih (.c hk))
  | loop F S J s0 g0 h1 h2 _ ih => intro k' hk; cases hk with | c hk => exact .loop F S J s0 g0 h1 h2 (fun s g hJ => ih s g hJ (.c (.stop (fun _ _ h => h) hk)))
def setAllU (f : UT) : List (Nat × U) → UT
  | [] => f
  | (s, v) :: r => setAllU (UW f s v) r
theorem Weak.of_eq {f f' : UT} {st st' : St} (hf : f = f') (hn : st.nx ≤ st'.nx) (hs : subS st st'.es) : Weak f st f' st' := by subst hf; exact Weak.sub hn hs
theorem VX_loop2 {cd : Nat → Option AF} {pd : List (Nat × Nat)} {R : List RV} {Q : List (Bool × List E) → List E → Prop} {k : List VK} {f : UT} {st : St} {ds : List Nat} {b : AC} {σ : Type} (f1 : UT) (hf : forgetU f ds = f1)
    (upd : σ → List (Nat × U)) (es : σ → List (Nat × En)) (J : σ → Nat → Prop) (s0 : σ) (g0 : Nat) (hu : f1 = setAllU f1 (upd s0)) (hs : subS st (es s0)) (h0 : J s0 g0)
    (round : ∀ s n g, J s g → VX cd pd R Q (.c b :: .stop (fun f' st' => ∃ s' g', g' < g ∧ J s' g' ∧ forgetU f' ds = setAllU f1 (upd s') ∧ subS st' (es s')) :: k) (setAllU f1 (upd s)) ⟨n, es s⟩) :
    VX cd pd R Q (.c (.loop ds b) :: k) f st := by
  refine VX_loop (σ := σ × Nat) (fun p => setAllU f1 (upd p.1)) (fun p => ⟨p.2, es p.1⟩) (fun p g => J p.1 g) (s0, st.nx) g0 h0 (Weak.of_eq (by rw [hf]; exact hu) (Nat.le_refl _) hs) (fun p g hJ => ?_)
  exact (round p.1 p.2 g hJ).le (.c (.stop (fun f' st' ⟨s', g', h1, h2, h3, h4⟩ => ⟨(s', st'.nx), g', h1, h2, Weak.of_eq h3 (Nat.le_refl _) h4⟩) (KLe.refl k)))
def rmK (k : Nat) : List (Nat × En) → List (Nat × En)
  | [] => []
  | (k', e) :: r => if k = k' then rmK k r else (k', e) :: rmK k r
/-- The entries as they are found. -/
def cln : List (Nat × En) → List (Nat × En)
  | [] => []
  | (k, e) :: r => (k, e) :: rmK k (cln r)
def ovr : List (Nat × En) → List (Nat × En) → List (Nat × En)
  | es, [] => es
  | es, (k, e) :: r => (k, e) :: rmK k (ovr es r)
theorem VX_loop3 {cd : Nat → Option AF} {pd : List (Nat × Nat)} {R : List RV} {Q : List (Bool × List E) → List E → Prop} {k : List VK} {f : UT} {st : St} {ds : List Nat} {b : AC} {σ : Type} (f1 : UT) (es0 : List (Nat × En)) (hf : forgetU f ds = f1) (he : cln st.es = es0)
    (upd : σ → List (Nat × U)) (ue : σ → List (Nat × En)) (J : σ → Nat → Prop) (s0 : σ) (g0 : Nat) (hu : f1 = setAllU f1 (upd s0)) (hs : subS st (ovr es0 (ue s0))) (h0 : J s0 g0)
    (round : ∀ s n g, J s g → VX cd pd R Q (.c b :: .stop (fun f' st' => ∃ s' g', g' < g ∧ J s' g' ∧ forgetU f' ds = setAllU f1 (upd s') ∧ subS st' (ovr es0 (ue s'))) :: k) (setAllU f1 (upd s)) ⟨n, ovr es0 (ue s)⟩) :
    VX cd pd R Q (.c (.loop ds b) :: k) f st := VX_loop2 f1 hf upd (fun s => ovr es0 (ue s)) J s0 g0 hu hs h0 round
/-- One result. -/
def bl (b : Bool) : List (Bool × List E) := [(false, [.p (.bool b)])]
def it (n : Int) : List (Bool × List E) := [(false, [.p (.int .i64 n)])]
/-! ### Bytes -/
abbrev Bytes := List UInt8
def bytes (x : Bytes) : List (List D) := x.map fun b => [.int .u8 (b.toNat : Int)]
theorem bytes_len (x : Bytes) : (bytes x).length = x.length := by simp [bytes]
theorem flat_bytes (x : Bytes) : flat (bytes x) = true := by
  induction x with
  | nil => rfl
  | cons b x ih => simp only [bytes, List.map_cons, flat, leafs, D.leaf] at ih ⊢; simpa using ih
theorem wid_bytes (x : Bytes) : wid 1 (bytes x) = true := by
  induction x with
  | nil => rfl
  | cons b x ih => simp only [bytes, List.map_cons, wid] at ih ⊢; simpa using ih
theorem lk_hit {k : Nat} {e : En} {r : List (Nat × En)} : lk k ((k, e) :: r) = some e := by simp [lk]
end Go.Eng
