/-
  The engine, part D: what an abstract state says of the machine's; each change of the one is a change of the other.
-/
import Derived.Test.YtaicdpancmfhnaaEngB
import Derived.WalkKit
import Derived.Laws.Cells
import Derived.Laws.CopyRow
import Derived.Laws.AppendOwn
import Derived.Laws.MakeOwn
set_option linter.unusedVariables false
set_option linter.unusedSimpArgs false
namespace Go.Eng

/-! ### Lists that fit member by member -/
def All2 {α β : Type} (R : α → β → Prop) : List α → List β → Prop
  | [], [] => True
  | x :: xs, y :: ys => R x y ∧ All2 R xs ys
  | _, _ => False
section
variable {α β : Type} {R R' : α → β → Prop}
theorem All2.length : ∀ {xs : List α} {ys : List β}, All2 R xs ys → xs.length = ys.length
  | [], [], _ => rfl
  | x :: xs, y :: ys, h => by simp [All2.length h.2]
  | [], _ :: _, h => h.elim
  | _ :: _, [], h => h.elim
theorem All2.imp (hr : ∀ x y, R x y → R' x y) : ∀ {xs : List α} {ys : List β}, All2 R xs ys → All2 R' xs ys
  | [], [], _ => trivial
  | _ :: _, _ :: _, h => ⟨hr _ _ h.1, All2.imp hr h.2⟩
  | [], _ :: _, h => h.elim
  | _ :: _, [], h => h.elim
theorem All2.get : ∀ {xs : List α} {ys : List β}, All2 R xs ys → ∀ {i : Nat} {x : α}, xs[i]? = some x → ∃ y, ys[i]? = some y ∧ R x y
  | [], [], _, i, x, h => by simp at h
  | a :: xs, b :: ys, h, 0, x, hx => by simp at hx; subst hx; exact ⟨b, by simp, h.1⟩
  | a :: xs, b :: ys, h, i + 1, x, hx => by
    obtain ⟨y, hy, r⟩ := All2.get h.2 (i := i) (by simpa using hx)
    exact ⟨y, by simpa using hy, r⟩
  | [], _ :: _, h, _, _, _ => h.elim
  | _ :: _, [], h, _, _, _ => h.elim
theorem All2.get' : ∀ {xs : List α} {ys : List β}, All2 R xs ys → ∀ {i : Nat} {y : β}, ys[i]? = some y → ∃ x, xs[i]? = some x ∧ R x y
  | [], [], _, i, x, h => by simp at h
  | a :: xs, b :: ys, h, 0, x, hx => by simp at hx; subst hx; exact ⟨a, by simp, h.1⟩
  | a :: xs, b :: ys, h, i + 1, x, hx => by
    obtain ⟨y, hy, r⟩ := All2.get' h.2 (i := i) (by simpa using hx)
    exact ⟨y, by simpa using hy, r⟩
  | [], _ :: _, h, _, _, _ => h.elim
  | _ :: _, [], h, _, _, _ => h.elim
theorem All2.of_get : ∀ {xs : List α} {ys : List β}, xs.length = ys.length → (∀ (i : Nat) (x : α) (y : β), xs[i]? = some x → ys[i]? = some y → R x y) → All2 R xs ys
  | [], [], _, _ => trivial
  | x :: xs, y :: ys, hl, h => ⟨h 0 x y rfl rfl, All2.of_get (by simpa using hl) (fun i a b ha hb => h (i + 1) a b (by simpa using ha) (by simpa using hb))⟩
  | [], _ :: _, hl, _ => by simp at hl
  | _ :: _, [], hl, _ => by simp at hl
theorem All2.append : ∀ {xs : List α} {ys : List β} {xs' : List α} {ys' : List β}, All2 R xs ys → All2 R xs' ys' → All2 R (xs ++ xs') (ys ++ ys')
  | [], [], _, _, _, h' => h'
  | _ :: _, _ :: _, _, _, h, h' => ⟨h.1, All2.append h.2 h'⟩
  | [], _ :: _, _, _, h, _ => h.elim
  | _ :: _, [], _, _, h, _ => h.elim
theorem All2.take : ∀ {xs : List α} {ys : List β} (n : Nat), All2 R xs ys → All2 R (xs.take n) (ys.take n)
  | [], [], n, _ => by simp [All2]
  | _ :: _, _ :: _, 0, _ => by simp [All2]
  | _ :: _, _ :: _, n + 1, h => by simp only [List.take_succ_cons]; exact ⟨h.1, All2.take n h.2⟩
  | [], _ :: _, _, h => h.elim
  | _ :: _, [], _, h => h.elim
theorem All2.drop : ∀ {xs : List α} {ys : List β} (n : Nat), All2 R xs ys → All2 R (xs.drop n) (ys.drop n)
  | [], [], n, _ => by simp [All2]
  | _ :: _, _ :: _, 0, h => by simpa using h
  | _ :: _, _ :: _, n + 1, h => by simp only [List.drop_succ_cons]; exact All2.drop n h.2
  | [], _ :: _, _, h => h.elim
  | _ :: _, [], _, h => h.elim
theorem All2.set : ∀ {xs : List α} {ys : List β} (i : Nat) {x : α} {y : β}, All2 R xs ys → R x y → All2 R (xs.set i x) (ys.set i y)
  | [], [], _, _, _, _, _ => by simp [All2]
  | _ :: _, _ :: _, 0, _, _, h, hr => by simp only [List.set_cons_zero]; exact ⟨hr, h.2⟩
  | _ :: _, _ :: _, i + 1, _, _, h, hr => by simp only [List.set_cons_succ]; exact ⟨h.1, All2.set i h.2 hr⟩
  | [], _ :: _, _, _, _, h, _ => h.elim
  | _ :: _, [], _, _, _, h, _ => h.elim
theorem All2.setL : ∀ {vs : List α} {us : List β} {xs : List α} {ys : List β} (o : Nat), All2 R xs ys → All2 R vs us → All2 R (setL xs o vs) (setL ys o us)
  | [], [], _, _, _, h, _ => h
  | _ :: _, _ :: _, _, _, o, h, hv => All2.setL (o + 1) (All2.set o h hv.1) hv.2
  | [], _ :: _, _, _, _, _, hv => hv.elim
  | _ :: _, [], _, _, _, _, hv => hv.elim
theorem All2.replicate {x : α} {y : β} (h : R x y) : ∀ n, All2 R (List.replicate n x) (List.replicate n y)
  | 0 => trivial
  | n + 1 => ⟨h, All2.replicate h n⟩
theorem All2.flatten {xs : List α} {ys : List β} (h : All2 R xs ys) : ∀ n, All2 R (List.replicate n xs).flatten (List.replicate n ys).flatten
  | 0 => trivial
  | n + 1 => by simp only [List.replicate_succ, List.flatten_cons]; exact All2.append h (All2.flatten h n)
end
theorem setL_length {α : Type} : ∀ (vs cs : List α) (o : Nat), (setL cs o vs).length = cs.length
  | [], _, _ => rfl
  | v :: vs, cs, o => by simp [setL, setL_length vs]
/-- Members from place o on, written out. -/
theorem setL_eq {α : Type} : ∀ (vs cs : List α) (o : Nat), o + vs.length ≤ cs.length → setL cs o vs = cs.take o ++ vs ++ cs.drop (o + vs.length)
  | [], cs, o, _ => by simp [setL]
  | v :: vs, cs, o, h => by
    simp only [List.length_cons] at h
    rw [setL, setL_eq vs _ _ (by simp; omega)]
    have e1 : (cs.set o v).take (o + 1) = cs.take o ++ [v] := by
      rw [List.take_succ_eq_append_getElem (by simp; omega)]
      simp [List.take_set_of_le (Nat.le_refl o)]
    have e2 : (cs.set o v).drop (o + 1 + vs.length) = cs.drop (o + (vs.length + 1)) := by
      rw [List.drop_set_of_lt (by omega)]
      congr 1
      omega
    rw [e1, e2]
    simp

/-! ### Ways -/
theorem PT.get_leaf (k : K) : PT.leaf.get k = .any := by cases k <;> rfl
theorem PT.get_set : ∀ (k k' : K) (f : PT) (v : V), (f.set k v).get k' = if k' = k then v else f.get k'
  | .z, .z, .leaf, v => rfl
  | .z, .o k', .leaf, v => by simp [PT.set, PT.get, PT.get_leaf]
  | .z, .i k', .leaf, v => by simp [PT.set, PT.get, PT.get_leaf]
  | .z, .z, .node _ _ _, v => rfl
  | .z, .o k', .node _ _ _, v => by simp [PT.set, PT.get]
  | .z, .i k', .node _ _ _, v => by simp [PT.set, PT.get]
  | .o k, .z, .leaf, v => by simp [PT.set, PT.get]
  | .o k, .o k', .leaf, v => by
    have := PT.get_set k k' .leaf v
    simp only [PT.get_leaf] at this
    simp [PT.set, PT.get, this]
  | .o k, .i k', .leaf, v => by simp [PT.set, PT.get, PT.get_leaf]
  | .o k, .z, .node _ _ _, v => by simp [PT.set, PT.get]
  | .o k, .o k', .node l _ _, v => by simp [PT.set, PT.get, PT.get_set k k' l v]
  | .o k, .i k', .node _ _ _, v => by simp [PT.set, PT.get]
  | .i k, .z, .leaf, v => by simp [PT.set, PT.get]
  | .i k, .i k', .leaf, v => by
    have := PT.get_set k k' .leaf v
    simp only [PT.get_leaf] at this
    simp [PT.set, PT.get, this]
  | .i k, .o k', .leaf, v => by simp [PT.set, PT.get, PT.get_leaf]
  | .i k, .z, .node _ _ _, v => by simp [PT.set, PT.get]
  | .i k, .i k', .node _ _ r, v => by simp [PT.set, PT.get, PT.get_set k k' r v]
  | .i k, .o k', .node _ _ _, v => by simp [PT.set, PT.get]
def K.idx : K → Nat
  | .z => 0
  | .o k => 2 * k.idx + 1
  | .i k => 2 * k.idx + 2
theorem K.idx_ofAux : ∀ (d n : Nat), n ≤ d → (K.ofAux d n).idx = n
  | 0, n, h => by simp [K.ofAux, K.idx]; omega
  | d + 1, n, h => by
    unfold K.ofAux
    split
    · simp [K.idx]; omega
    · split
      · simp only [K.idx]; rw [K.idx_ofAux d (n / 2) (by omega)]; omega
      · simp only [K.idx]; rw [K.idx_ofAux d (n / 2 - 1) (by omega)]; omega
theorem K.of_inj {a b : Nat} (h : K.of a = K.of b) : a = b := by
  have := congrArg K.idx h
  rwa [K.of, K.of, K.idx_ofAux _ _ (Nat.le_refl _), K.idx_ofAux _ _ (Nat.le_refl _)] at this
theorem Fr.get_set (f : Fr) (s t : Nat) (v : V) : Fr.get (Fr.set f s v) t = if t = s then v else Fr.get f t := by
  unfold Fr.get Fr.set
  rw [PT.get_set]
  by_cases h : t = s
  · simp [h]
  · rw [if_neg h, if_neg (fun e => h (K.of_inj e))]
theorem Fr.get_set_same (f : Fr) (s : Nat) (v : V) : Fr.get (Fr.set f s v) s = v := by rw [Fr.get_set, if_pos rfl]
theorem Fr.get_set_ne (f : Fr) {s t : Nat} (v : V) (h : t ≠ s) : Fr.get (Fr.set f s v) t = Fr.get f t := by rw [Fr.get_set, if_neg h]
theorem PT.get_full : ∀ (d : Nat) (k : K), (PT.full d).get k = .any
  | 0, k => PT.get_leaf k
  | d + 1, .z => rfl
  | d + 1, .o k => PT.get_full d k
  | d + 1, .i k => PT.get_full d k
theorem Fr.get_full (d s : Nat) : Fr.get (PT.full d) s = .any := PT.get_full d _

/-! ### Cells and values -/
structure Pl where
  blk : Nat
  off : Nat
  lim : Nat
abbrev Mu := Nat → Option Pl
def CR (μ : Mu) : C → Value → Prop
  | .int k n, v => v = .int k n
  | .bool b, v => v = .bool b
  | .str s, v => v = .string s
  | .ptr id o, v => ∃ p, μ id = some p ∧ v = .pointer (some ⟨p.blk, p.off + o, none⟩)
  | .nilp, v => v = .pointer none
  | .sl id o len e, v => ∃ p a cap, μ id = some p ∧ v = .slice (some a) len cap ∧ len ≤ cap ∧ (cap = 0 ∨ a = ⟨p.blk, p.off + o, none⟩) ∧ o + cap * e ≤ p.lim
  | .nils, v => v = .slice none 0 0
  | .emp, v => ∃ a, v = .slice (some a) 0 0
  | .fn f, v => v = .func (.func f) #[] #[]
  | .nilf, v => v = .nilFunc
  | .nili, v => v = .nilIface
def VG (μ : Mu) (g : Bool) (cs : List C) (v : Value) : Prop :=
  match g with
  | true => ∃ arr, v = .agg arr ∧ All2 (CR μ) cs arr.toList
  | false => ∃ c, cs = [c] ∧ CR μ c v
def TG (μ : Mu) (vs : List (Bool × List C)) (v : Value) : Prop := ∃ arr, v = .tuple arr ∧ All2 (fun p u => VG μ p.1 p.2 u) vs arr.toList
def MuLe (μ μ' : Mu) : Prop := ∀ id p, μ id = some p → μ' id = some p
theorem MuLe.refl (μ : Mu) : MuLe μ μ := fun _ _ h => h
theorem MuLe.trans {a b c : Mu} (h : MuLe a b) (h' : MuLe b c) : MuLe a c := fun id p e => h' id p (h id p e)
theorem CR.mono {μ μ' : Mu} (hm : MuLe μ μ') : ∀ {c : C} {v : Value}, CR μ c v → CR μ' c v
  | .int .., _, h | .bool _, _, h | .str _, _, h | .nilp, _, h | .nils, _, h | .emp, _, h | .fn _, _, h | .nilf, _, h | .nili, _, h => h
  | .ptr id o, _, ⟨p, h1, h2⟩ => ⟨p, hm _ _ h1, h2⟩
  | .sl .., _, ⟨p, a, cap, h1, h2⟩ => ⟨p, a, cap, hm _ _ h1, h2⟩
theorem CR.one {μ : Mu} : ∀ {c : C} {v : Value}, CR μ c v → v.oneCell' = true
  | .int .., _, h | .bool _, _, h | .str _, _, h | .nilp, _, h | .nils, _, h | .fn _, _, h | .nilf, _, h | .nili, _, h => by cases h; rfl
  | .ptr .., _, ⟨_, _, h⟩ => by cases h; rfl
  | .emp, _, ⟨_, h⟩ => by cases h; rfl
  | .sl .., _, ⟨_, _, _, _, h, _⟩ => by cases h; rfl
theorem CR.ones {μ : Mu} : ∀ {cs : List C} {vs : List Value}, All2 (CR μ) cs vs → ∀ v ∈ vs, v.oneCell' = true
  | [], [], _, v, hv => by simp at hv
  | _ :: _, _ :: _, h, v, hv => by
    rcases List.mem_cons.1 hv with rfl | hv
    · exact h.1.one
    · exact CR.ones h.2 v hv
  | [], _ :: _, h, _, _ => h.elim
  | _ :: _, [], h, _, _ => h.elim
theorem VG.mono {μ μ' : Mu} (hm : MuLe μ μ') {g : Bool} {cs : List C} {v : Value} (h : VG μ g cs v) : VG μ' g cs v := by
  cases g with
  | true => obtain ⟨arr, e, h⟩ := h; exact ⟨arr, e, h.imp fun _ _ => CR.mono hm⟩
  | false => obtain ⟨c, e, h⟩ := h; exact ⟨c, e, h.mono hm⟩
theorem TG.mono {μ μ' : Mu} (hm : MuLe μ μ') {vs : List (Bool × List C)} {v : Value} (h : TG μ vs v) : TG μ' vs v := by
  obtain ⟨arr, e, h⟩ := h
  exact ⟨arr, e, h.imp fun _ _ => VG.mono hm⟩
theorem cells_of_one {v : Value} (h : v.oneCell' = true) : v.cells = #[v] := by cases v <;> simp [Value.oneCell'] at h <;> rfl
/-- A value's cells. -/
theorem VG.cells {μ : Mu} {g : Bool} {cs : List C} {v : Value} (h : VG μ g cs v) : All2 (CR μ) cs v.cells.toList := by
  cases g with
  | true => obtain ⟨arr, rfl, h⟩ := h; exact h
  | false => obtain ⟨c, rfl, h⟩ := h; rw [cells_of_one h.one]; exact ⟨h, trivial⟩
/-- A value of the text. -/
theorem cOf_CR (μ : Mu) {v : Value} {c : C} (h : cOf v = some c) : CR μ c v := by
  unfold cOf at h
  split at h <;> simp only [Option.some.injEq, reduceCtorEq] at h <;> subst h <;> first | rfl | exact rfl
theorem csOf_CR (μ : Mu) : ∀ {vs : List Value} {cs : List C}, csOf vs = some cs → All2 (CR μ) cs vs
  | [], cs, h => by simp [csOf] at h; subst h; trivial
  | v :: vs, cs, h => by
    simp only [csOf] at h
    cases h1 : cOf v with
    | none => simp [h1] at h
    | some c =>
      cases h2 : csOf vs with
      | none => simp [h1, h2] at h
      | some cs' => simp [h1, h2] at h; subst h; exact ⟨cOf_CR μ h1, csOf_CR μ h2⟩
end Go.Eng
