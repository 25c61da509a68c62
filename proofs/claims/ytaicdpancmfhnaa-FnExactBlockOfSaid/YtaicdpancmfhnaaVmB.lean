/-
  The value machine, part B: how a heap bears a cell; what a frame and the entries say of a heap.
-/
import Derived.Test.YtaicdpancmfhnaaVmA
set_option linter.unusedVariables false
set_option linter.unusedSimpArgs false
namespace Go.Eng
mutual
/-- The cell is the one that the machine has; S: the blocks that it leads to. -/
def RD (h : H) : D → C → List Nat → Prop
  | .int k n, c, S => c = .int k n ∧ S = []
  | .bool b, c, S => c = .bool b ∧ S = []
  | .str s, c, S => c = .str s ∧ S = []
  | .fn f, c, S => c = .fn f ∧ S = []
  | .nilf, c, S => c = .nilf ∧ S = []
  | .nili, c, S => c = .nili ∧ S = []
  | .nilp, c, S => c = .nilp ∧ S = []
  | .nils, c, S => c = .nils ∧ S = []
  | .sl xs, c, S => (xs = [] ∧ S = [] ∧ (c = .nils ∨ c = .emp)) ∨
      ∃ id off e bs S', c = .sl id off xs.length e ∧ h.cells id = some bs ∧ off + xs.length * e ≤ bs.length ∧ S = id :: S' ∧ RDss h xs e ((bs.drop off).take (xs.length * e)) S'
  | .ow _ _, _, _ => False
  | .pt _ _ _, _, _ => False
  | .pe _ _, _, _ => False
  | .px _ _ _ _, _, _ => False
  | .sa _ _ _ _ _, _, _ => False
def RDs (h : H) : List D → List C → List Nat → Prop
  | [], cs, S => cs = [] ∧ S = []
  | d :: ds, cs, S => ∃ c cr S1 S2, cs = c :: cr ∧ S = S1 ++ S2 ∧ RD h d c S1 ∧ RDs h ds cr S2
def RDss (h : H) : List (List D) → Nat → List C → List Nat → Prop
  | [], e, cs, S => cs = [] ∧ S = []
  | x :: xs, e, cs, S => ∃ c1 c2 S1 S2, cs = c1 ++ c2 ∧ S = S1 ++ S2 ∧ c1.length = e ∧ RDs h x c1 S1 ∧ RDss h xs e c2 S2
end
theorem RD_sl {h : H} {xs : List (List D)} {c : C} {S : List Nat} : RD h (.sl xs) c S ↔ ((xs = [] ∧ S = [] ∧ (c = .nils ∨ c = .emp)) ∨
    ∃ id off e bs S', c = .sl id off xs.length e ∧ h.cells id = some bs ∧ off + xs.length * e ≤ bs.length ∧ S = id :: S' ∧ RDss h xs e ((bs.drop off).take (xs.length * e)) S') := by
  conv => lhs; unfold RD
mutual
theorem RD.frame {h h' : H} : ∀ (d : D) {c : C} {S : List Nat}, RD h d c S → (∀ i ∈ S, h'.cells i = h.cells i) → RD h' d c S
  | .int _ _, _, _, hr, _ => by simpa only [RD] using hr
  | .bool _, _, _, hr, _ => by simpa only [RD] using hr
  | .str _, _, _, hr, _ => by simpa only [RD] using hr
  | .fn _, _, _, hr, _ => by simpa only [RD] using hr
  | .nilf, _, _, hr, _ => by simpa only [RD] using hr
  | .nili, _, _, hr, _ => by simpa only [RD] using hr
  | .nilp, _, _, hr, _ => by simpa only [RD] using hr
  | .nils, _, _, hr, _ => by simpa only [RD] using hr
  | .sl xs, c, S, hr, hs => by
    simp only [RD] at hr ⊢
    rcases hr with hr | ⟨id, off, e, bs, S', h1, h2, h3, h4, h5⟩
    · exact .inl hr
    · exact .inr ⟨id, off, e, bs, S', h1, (hs id (by rw [h4]; simp)).trans h2, h3, h4, RDss.frame xs h5 fun i hi => hs i (by rw [h4]; simp [hi])⟩
  | .ow _ _, _, _, hr, _ => by simp only [RD] at hr
  | .pt _ _ _, _, _, hr, _ => by simp only [RD] at hr
  | .pe _ _, _, _, hr, _ => by simp only [RD] at hr
  | .px _ _ _ _, _, _, hr, _ => by simp only [RD] at hr
  | .sa _ _ _ _ _, _, _, hr, _ => by simp only [RD] at hr
theorem RDs.frame {h h' : H} : ∀ (ds : List D) {cs : List C} {S : List Nat}, RDs h ds cs S → (∀ i ∈ S, h'.cells i = h.cells i) → RDs h' ds cs S
  | [], _, _, hr, _ => by simpa only [RDs] using hr
  | d :: ds, cs, S, hr, hs => by
    simp only [RDs] at hr ⊢
    obtain ⟨c, cr, S1, S2, h1, h2, h3, h4⟩ := hr
    exact ⟨c, cr, S1, S2, h1, h2, RD.frame d h3 fun i hi => hs i (by rw [h2]; simp [hi]), RDs.frame ds h4 fun i hi => hs i (by rw [h2]; simp [hi])⟩
theorem RDss.frame {h h' : H} : ∀ (xs : List (List D)) {e : Nat} {cs : List C} {S : List Nat}, RDss h xs e cs S → (∀ i ∈ S, h'.cells i = h.cells i) → RDss h' xs e cs S
  | [], _, _, _, hr, _ => by simpa only [RDss] using hr
  | x :: xs, e, cs, S, hr, hs => by
    simp only [RDss] at hr ⊢
    obtain ⟨c1, c2, S1, S2, h1, h2, h3, h4, h5⟩ := hr
    exact ⟨c1, c2, S1, S2, h1, h2, h3, RDs.frame x h4 fun i hi => hs i (by rw [h2]; simp [hi]), RDss.frame xs h5 fun i hi => hs i (by rw [h2]; simp [hi])⟩
end
mutual
theorem RD.lt {h : H} : ∀ (d : D) {c : C} {S : List Nat}, RD h d c S → ∀ i ∈ S, i < h.length
  | .int _ _, _, _, hr, i, hi => by simp only [RD] at hr; rw [hr.2] at hi; cases hi
  | .bool _, _, _, hr, i, hi => by simp only [RD] at hr; rw [hr.2] at hi; cases hi
  | .str _, _, _, hr, i, hi => by simp only [RD] at hr; rw [hr.2] at hi; cases hi
  | .fn _, _, _, hr, i, hi => by simp only [RD] at hr; rw [hr.2] at hi; cases hi
  | .nilf, _, _, hr, i, hi => by simp only [RD] at hr; rw [hr.2] at hi; cases hi
  | .nili, _, _, hr, i, hi => by simp only [RD] at hr; rw [hr.2] at hi; cases hi
  | .nilp, _, _, hr, i, hi => by simp only [RD] at hr; rw [hr.2] at hi; cases hi
  | .nils, _, _, hr, i, hi => by simp only [RD] at hr; rw [hr.2] at hi; cases hi
  | .sl xs, c, S, hr, i, hi => by
    simp only [RD] at hr
    rcases hr with ⟨_, e, _⟩ | ⟨id, off, e, bs, S', h1, h2, h3, h4, h5⟩
    · rw [e] at hi; cases hi
    · rw [h4] at hi
      rcases List.mem_cons.1 hi with rfl | hi
      · exact lt_of_cells h2
      · exact RDss.lt xs h5 i hi
  | .ow _ _, _, _, hr, _, _ => by simp only [RD] at hr
  | .pt _ _ _, _, _, hr, _, _ => by simp only [RD] at hr
  | .pe _ _, _, _, hr, _, _ => by simp only [RD] at hr
  | .px _ _ _ _, _, _, hr, _, _ => by simp only [RD] at hr
  | .sa _ _ _ _ _, _, _, hr, _, _ => by simp only [RD] at hr
theorem RDs.lt {h : H} : ∀ (ds : List D) {cs : List C} {S : List Nat}, RDs h ds cs S → ∀ i ∈ S, i < h.length
  | [], _, _, hr, i, hi => by simp only [RDs] at hr; rw [hr.2] at hi; cases hi
  | d :: ds, cs, S, hr, i, hi => by
    simp only [RDs] at hr
    obtain ⟨c, cr, S1, S2, h1, h2, h3, h4⟩ := hr
    rw [h2] at hi
    rcases List.mem_append.1 hi with hi | hi
    · exact RD.lt d h3 i hi
    · exact RDs.lt ds h4 i hi
theorem RDss.lt {h : H} : ∀ (xs : List (List D)) {e : Nat} {cs : List C} {S : List Nat}, RDss h xs e cs S → ∀ i ∈ S, i < h.length
  | [], _, _, _, hr, i, hi => by simp only [RDss] at hr; rw [hr.2] at hi; cases hi
  | x :: xs, e, cs, S, hr, i, hi => by
    simp only [RDss] at hr
    obtain ⟨c1, c2, S1, S2, h1, h2, h3, h4, h5⟩ := hr
    rw [h2] at hi
    rcases List.mem_append.1 hi with hi | hi
    · exact RDs.lt x h4 i hi
    · exact RDss.lt xs h5 i hi
end
mutual
theorem RD.uniq {h : H} : ∀ (d : D) {c : C} {S S' : List Nat}, RD h d c S → RD h d c S' → S = S'
  | .int _ _, _, _, _, hr, hr' => by simp only [RD] at hr hr'; rw [hr.2, hr'.2]
  | .bool _, _, _, _, hr, hr' => by simp only [RD] at hr hr'; rw [hr.2, hr'.2]
  | .str _, _, _, _, hr, hr' => by simp only [RD] at hr hr'; rw [hr.2, hr'.2]
  | .fn _, _, _, _, hr, hr' => by simp only [RD] at hr hr'; rw [hr.2, hr'.2]
  | .nilf, _, _, _, hr, hr' => by simp only [RD] at hr hr'; rw [hr.2, hr'.2]
  | .nili, _, _, _, hr, hr' => by simp only [RD] at hr hr'; rw [hr.2, hr'.2]
  | .nilp, _, _, _, hr, hr' => by simp only [RD] at hr hr'; rw [hr.2, hr'.2]
  | .nils, _, _, _, hr, hr' => by simp only [RD] at hr hr'; rw [hr.2, hr'.2]
  | .sl xs, c, S, T, hr, hr' => by
    simp only [RD] at hr hr'
    rcases hr with ⟨_, h2, h3⟩ | ⟨id, off, e, bs, S', h1, h2, h3, h4, h5⟩
    · rcases hr' with ⟨_, k2, _⟩ | ⟨id', off', e', bs', T', k1, _⟩
      · rw [h2, k2]
      · rcases h3 with h3 | h3 <;> rw [h3] at k1 <;> cases k1
    · rcases hr' with ⟨_, _, k3⟩ | ⟨id', off', e', bs', T', k1, k2, k3, k4, k5⟩
      · rcases k3 with k3 | k3 <;> rw [k3] at h1 <;> cases h1
      · rw [h1] at k1
        cases k1
        rw [h2] at k2
        cases k2
        rw [h4, k4, RDss.uniq xs h5 k5]
  | .ow _ _, _, _, _, hr, _ => by simp only [RD] at hr
  | .pt _ _ _, _, _, _, hr, _ => by simp only [RD] at hr
  | .pe _ _, _, _, _, hr, _ => by simp only [RD] at hr
  | .px _ _ _ _, _, _, _, hr, _ => by simp only [RD] at hr
  | .sa _ _ _ _ _, _, _, _, hr, _ => by simp only [RD] at hr
theorem RDs.uniq {h : H} : ∀ (ds : List D) {cs : List C} {S S' : List Nat}, RDs h ds cs S → RDs h ds cs S' → S = S'
  | [], _, _, _, hr, hr' => by simp only [RDs] at hr hr'; rw [hr.2, hr'.2]
  | d :: ds, cs, S, T, hr, hr' => by
    simp only [RDs] at hr hr'
    obtain ⟨c, cr, S1, S2, h1, h2, h3, h4⟩ := hr
    obtain ⟨c', cr', T1, T2, k1, k2, k3, k4⟩ := hr'
    rw [h1] at k1
    cases k1
    rw [h2, k2, RD.uniq d h3 k3, RDs.uniq ds h4 k4]
theorem RDss.uniq {h : H} : ∀ (xs : List (List D)) {e : Nat} {cs : List C} {S S' : List Nat}, RDss h xs e cs S → RDss h xs e cs S' → S = S'
  | [], _, _, _, _, hr, hr' => by simp only [RDss] at hr hr'; rw [hr.2, hr'.2]
  | x :: xs, e, cs, S, T, hr, hr' => by
    simp only [RDss] at hr hr'
    obtain ⟨c1, c2, S1, S2, h1, h2, h3, h4, h5⟩ := hr
    obtain ⟨d1, d2, T1, T2, k1, k2, k3, k4, k5⟩ := hr'
    rw [h1] at k1
    obtain ⟨rfl, rfl⟩ := List.append_inj k1 (by rw [h3, k3])
    rw [h2, k2, RDs.uniq x h4 k4, RDss.uniq xs h5 k5]
end
section
variable {h : H}
theorem RDs.len : ∀ {ds : List D} {cs : List C} {S : List Nat}, RDs h ds cs S → cs.length = ds.length
  | [], _, _, hr => by simp only [RDs] at hr; rw [hr.1]; rfl
  | d :: ds, _, _, hr => by
    simp only [RDs] at hr
    obtain ⟨c, cr, S1, S2, h1, _, _, h4⟩ := hr
    rw [h1, List.length_cons, h4.len, List.length_cons]
theorem RDss.len : ∀ {xs : List (List D)} {e : Nat} {cs : List C} {S : List Nat}, RDss h xs e cs S → cs.length = xs.length * e
  | [], e, _, _, hr => by simp only [RDss] at hr; rw [hr.1]; simp
  | x :: xs, e, _, _, hr => by
    simp only [RDss] at hr
    obtain ⟨c1, c2, S1, S2, h1, _, h3, _, h5⟩ := hr
    rw [h1, List.length_append, h3, h5.len, List.length_cons, Nat.add_mul, Nat.one_mul, Nat.add_comm]
theorem RDss.wid : ∀ {xs : List (List D)} {e : Nat} {cs : List C} {S : List Nat}, RDss h xs e cs S → ∀ x ∈ xs, x.length = e
  | [], _, _, _, _, x, hx => by cases hx
  | y :: xs, e, _, _, hr, x, hx => by
    simp only [RDss] at hr
    obtain ⟨c1, c2, S1, S2, h1, _, h3, h4, h5⟩ := hr
    rcases List.mem_cons.1 hx with rfl | hx
    · rw [← h4.len, h3]
    · exact h5.wid x hx
theorem wid_spec {e : Nat} : ∀ {xs : List (List D)}, wid e xs = true → ∀ x ∈ xs, x.length = e
  | [], _, x, hx => by cases hx
  | y :: xs, hw, x, hx => by
    simp only [Eng.wid, Bool.and_eq_true, beq_iff_eq] at hw
    rcases List.mem_cons.1 hx with rfl | hx
    · exact hw.1
    · exact wid_spec hw.2 x hx
/-- Elements of the same size. -/
theorem RDss.same {xs : List (List D)} {e e' : Nat} {cs : List C} {S : List Nat} (hr : RDss h xs e cs S) (hw : Eng.wid e' xs = true) : e = e' ∨ xs.length = 0 := by
  cases xs with
  | nil => exact .inr rfl
  | cons x xs => exact .inl ((hr.wid x (by simp)).symm.trans (wid_spec hw x (by simp)))
theorem RDss.join : ∀ {xs ys : List (List D)} {e : Nat} {cs ds : List C} {S S' : List Nat}, RDss h xs e cs S → RDss h ys e ds S' → RDss h (xs ++ ys) e (cs ++ ds) (S ++ S')
  | [], ys, e, _, ds, _, S', hr, h2 => by simp only [RDss] at hr; rw [hr.1, hr.2]; exact h2
  | x :: xs, ys, e, cs, ds, S, S', hr, h2 => by
    simp only [RDss] at hr
    obtain ⟨c1, c2, S1, S2, h1, h3, h4, h5, h6⟩ := hr
    simp only [List.cons_append, RDss]
    exact ⟨c1, c2 ++ ds, S1, S2 ++ S', by rw [h1, List.append_assoc], by rw [h3, List.append_assoc], h4, h5, h6.join h2⟩
theorem RDs.join : ∀ {xs ys : List D} {cs ds : List C} {S S' : List Nat}, RDs h xs cs S → RDs h ys ds S' → RDs h (xs ++ ys) (cs ++ ds) (S ++ S')
  | [], ys, _, ds, _, S', hr, h2 => by simp only [RDs] at hr; rw [hr.1, hr.2]; exact h2
  | x :: xs, ys, cs, ds, S, S', hr, h2 => by
    simp only [RDs] at hr
    obtain ⟨c, cr, S1, S2, h1, h3, h5, h6⟩ := hr
    simp only [List.cons_append, RDs]
    exact ⟨c, cr ++ ds, S1, S2 ++ S', by rw [h1]; rfl, by rw [h3, List.append_assoc], h5, h6.join h2⟩
theorem RDs.cut : ∀ {xs : List D} {cs : List C} {S : List Nat}, RDs h xs cs S → ∀ n, ∃ S1 S2, S = S1 ++ S2 ∧ RDs h (xs.take n) (cs.take n) S1 ∧ RDs h (xs.drop n) (cs.drop n) S2
  | xs, cs, S, hr, 0 => ⟨[], S, rfl, by simp [RDs], by simpa using hr⟩
  | [], _, _, hr, n + 1 => by simp only [RDs] at hr; obtain ⟨rfl, rfl⟩ := hr; exact ⟨[], [], rfl, by simp [RDs], by simp [RDs]⟩
  | x :: xs, cs, S, hr, n + 1 => by
    simp only [RDs] at hr
    obtain ⟨c, cr, S1, S2, h1, h3, h5, h6⟩ := hr
    obtain ⟨T1, T2, k1, k2, k3⟩ := h6.cut n
    subst h1 h3 k1
    refine ⟨S1 ++ T1, T2, by simp, ?_, by simpa using k3⟩
    simp only [List.take_succ_cons, RDs]
    exact ⟨c, _, S1, T1, rfl, rfl, h5, k2⟩
theorem RDss.cut : ∀ {xs : List (List D)} {e : Nat} {cs : List C} {S : List Nat}, RDss h xs e cs S → ∀ n, ∃ S1 S2, S = S1 ++ S2 ∧ RDss h (xs.take n) e (cs.take (n * e)) S1 ∧ RDss h (xs.drop n) e (cs.drop (n * e)) S2
  | xs, e, cs, S, hr, 0 => ⟨[], S, rfl, by simp [RDss], by simpa using hr⟩
  | [], e, _, _, hr, n + 1 => by simp only [RDss] at hr; obtain ⟨rfl, rfl⟩ := hr; exact ⟨[], [], rfl, by simp [RDss], by simp [RDss]⟩
  | x :: xs, e, cs, S, hr, n + 1 => by
    simp only [RDss] at hr
    obtain ⟨c1, c2, S1, S2, h1, h3, h4, h5, h6⟩ := hr
    obtain ⟨T1, T2, k1, k2, k3⟩ := h6.cut n
    subst h1 h3 k1
    have e1 : (n + 1) * e = c1.length + n * e := by rw [Nat.add_mul, Nat.one_mul, h4, Nat.add_comm]
    refine ⟨S1 ++ T1, T2, by simp, ?_, ?_⟩
    · rw [e1, List.take_length_add_append]
      simp only [List.take_succ_cons, RDss]
      exact ⟨c1, _, S1, T1, rfl, rfl, h4, h5, k2⟩
    · rw [e1, List.drop_append]
      simpa [List.drop_eq_nil_of_le] using k3
/-- One element. -/
theorem RDss.at {xs : List (List D)} {e : Nat} {cs : List C} {S : List Nat} (hr : RDss h xs e cs S) {j : Nat} {x : List D} (hx : xs[j]? = some x) :
    ∃ S1 Sj S2, S = S1 ++ (Sj ++ S2) ∧ RDss h (xs.take j) e (cs.take (j * e)) S1 ∧ RDs h x ((cs.drop (j * e)).take e) Sj ∧ RDss h (xs.drop (j + 1)) e (cs.drop ((j + 1) * e)) S2 := by
  obtain ⟨S1, S2, h1, h2, h3⟩ := hr.cut j
  have hlt := (List.getElem?_eq_some_iff.1 hx).1
  have hd : xs.drop j = x :: xs.drop (j + 1) := by
    rw [List.drop_eq_getElem_cons hlt]
    congr 1
    exact (List.getElem?_eq_some_iff.1 hx).2
  rw [hd] at h3
  simp only [RDss] at h3
  obtain ⟨c1, c2, T1, T2, k1, k2, k3, k4, k5⟩ := h3
  refine ⟨S1, T1, T2, by rw [h1, k2], h2, ?_, ?_⟩
  · rw [k1, ← k3, List.take_left]; exact k4
  · have e1 : cs.drop ((j + 1) * e) = (cs.drop (j * e)).drop e := by rw [List.drop_drop]; congr 1; rw [Nat.add_mul, Nat.one_mul]
    rw [e1, k1, ← k3, List.drop_left]; rw [k3]; exact k5
theorem RDss.mk1 {x : List D} {e : Nat} {cs : List C} {S : List Nat} (hr : RDs h x cs S) (hl : cs.length = e) : RDss h [x] e cs S := by
  simp only [RDss]
  exact ⟨cs, [], S, [], by simp, by simp, hl, hr, rfl, rfl⟩
theorem chunks_ok {e : Nat} : ∀ {n : Nat} {ds : List D} {cs : List C} {S : List Nat}, RDs h ds cs S → ds.length = n * e → RDss h (chunks e n ds) e cs S
  | 0, ds, cs, S, hr, hl => by
    have : ds = [] := List.eq_nil_of_length_eq_zero (by simpa using hl)
    subst this
    simp only [RDs] at hr
    simp only [chunks, RDss]
    exact hr
  | n + 1, ds, cs, S, hr, hl => by
    obtain ⟨S1, S2, h1, h2, h3⟩ := hr.cut e
    have hcl := hr.len
    have hle : e ≤ ds.length := by rw [hl, Nat.add_mul, Nat.one_mul]; exact Nat.le_add_left _ _
    simp only [chunks, RDss]
    exact ⟨cs.take e, cs.drop e, S1, S2, (List.take_append_drop _ _).symm, h1, by simp; omega, h2, chunks_ok h3 (by simp [hl, Nat.add_mul])⟩
theorem chunks_len {e : Nat} : ∀ {n : Nat} {ds : List D}, (chunks e n ds).length = n
  | 0, _ => rfl
  | n + 1, _ => by simp [chunks, chunks_len]
theorem RD.leafS {d : D} {c : C} {S : List Nat} (hr : RD h d c S) (hl : d.leaf = true) : S = [] := by
  cases d <;> simp [D.leaf] at hl <;> simp only [RD] at hr <;> exact hr.2
theorem RD.leafT {h' : H} {d : D} {c : C} {S : List Nat} (hr : RD h d c S) (hl : d.leaf = true) : RD h' d c [] := by
  cases d <;> simp [D.leaf] at hl <;> simp only [RD] at hr ⊢ <;> first | exact ⟨hr.1, trivial⟩ | exact ⟨hr.1, rfl⟩
theorem RDs.leafS : ∀ {ds : List D} {cs : List C} {S : List Nat}, RDs h ds cs S → leafs ds = true → S = []
  | [], _, _, hr, _ => by simp only [RDs] at hr; exact hr.2
  | d :: ds, _, _, hr, hl => by
    simp only [RDs] at hr
    simp only [leafs, Bool.and_eq_true] at hl
    obtain ⟨c, cr, S1, S2, _, h2, h3, h4⟩ := hr
    rw [h2, h3.leafS hl.1, h4.leafS hl.2]; rfl
theorem RDss.flatS : ∀ {xs : List (List D)} {e : Nat} {cs : List C} {S : List Nat}, RDss h xs e cs S → flat xs = true → S = []
  | [], _, _, _, hr, _ => by simp only [RDss] at hr; exact hr.2
  | x :: xs, _, _, _, hr, hl => by
    simp only [RDss] at hr
    simp only [flat, Bool.and_eq_true] at hl
    obtain ⟨c1, c2, S1, S2, _, h2, _, h3, h4⟩ := hr
    rw [h2, h3.leafS hl.1, h4.flatS hl.2]; rfl
theorem cD_spec {c : C} {d : D} (hc : cD c = some d) : RD h d c [] := by
  cases c <;> simp [cD] at hc <;> subst hc <;> simp [RD]
theorem zD_spec {c : C} {d : D} (hc : zD c = some d) : RD h d c [] := by
  cases c <;> simp [zD] at hc <;> subst hc <;> simp [RD]
theorem zDs_spec : ∀ {cs : List C} {ds : List D}, zDs cs = some ds → RDs h ds cs []
  | [], ds, hc => by simp [zDs] at hc; subst hc; simp [RDs]
  | c :: cs, ds, hc => by
    simp only [zDs] at hc
    split at hc
    · rename_i d ds' h1 h2
      simp at hc
      subst hc
      simp only [RDs]
      exact ⟨c, cs, [], [], rfl, rfl, zD_spec h1, zDs_spec h2⟩
    · simp at hc
end
/-! ### What is known of the heap -/
structure Gh where
  c : Nat → C
  w : Nat → List Nat
  u : Nat → List Nat
/-- Of a call: the heap at its beginning, what its arguments lead to, the blocks that are given to it. -/
structure Cx where
  hb : H
  ar : Nat → Prop
  bs : List Nat
  pin : List (Nat × Nat × Nat)
/-- What may be read and is not written. -/
def PR (Γ : Cx) (γ : Gh) (st : St) (i : Nat) : Prop := (Γ.ar i ∨ Γ.hb.length ≤ i ∨ i ∈ Γ.bs) ∧ ∀ k e, lk k st.es = some e → i ∉ γ.w k
def DC (Γ : Cx) (γ : Gh) (st : St) (h : H) (c : C) (d : D) : Prop :=
  match d with
  | .ow k v => v < st.nx ∧ ∀ o dp t xs, lk k st.es = some (.sl v o dp t xs) → c = γ.c k
  | .pt k v o => v < st.nx ∧ ∀ ty ds, lk k st.es = some (.pt v ty ds) → ∃ id, γ.c k = .ptr id 0 ∧ c = .ptr id o
  | .pe x o => ∃ id p bs S, c = .ptr id (p + o) ∧ h.cells id = some bs ∧ p + x.length ≤ bs.length ∧ RDs h x ((bs.drop p).take x.length) S ∧ PR Γ γ st id ∧ ∀ i ∈ S, PR Γ γ st i
  | .px k v j o => v < st.nx ∧ ∀ dp t xs, lk k st.es = some (.sl v true dp t xs) → ∃ id e, γ.c k = .sl id 0 xs.length e ∧ c = .ptr id (j * e + o) ∧ j < xs.length
  | .sa k v o n e => v < st.nx ∧ ∀ ty ds, lk k st.es = some (.pt v ty ds) → ∃ id, γ.c k = .ptr id 0 ∧ c = .sl id o n e
  | d => ∃ S, RD h d c S ∧ ∀ i ∈ S, PR Γ γ st i
def UR (Γ : Cx) (γ : Gh) (st : St) (h : H) (v : V) (u : U) : Prop :=
  match u with
  | .any => ∀ cs, v ≠ .box cs
  | .val g ds => ∃ cs, v = .val g cs ∧ All2 (DC Γ γ st h) cs ds
  | .tup vs => ∃ ws, v = .tup ws ∧ All2 (fun (w : Bool × List C) (v : Bool × List D) => w.1 = v.1 ∧ All2 (DC Γ γ st h) w.2 v.2) ws vs
  | .box ds => ∃ cs, v = .box cs ∧ All2 (DC Γ γ st h) cs ds
  | .lsl ds n e => ∃ cs, v = .lsl cs n e ∧ All2 (DC Γ γ st h) cs ds
  | .lref r o => v = .lref r o
/-- What an entry says. -/
def ER (Γ : Cx) (γ : Gh) (st : St) (h : H) (k : Nat) (e : En) : Prop :=
  match e with
  | .sl v true dp t xs => v < st.nx ∧ ((xs = [] ∧ γ.w k = [] ∧ γ.u k = [] ∧ (γ.c k = .nils ∨ γ.c k = .emp)) ∨
      ∃ id ty ez bs S, t = some (ty, ez) ∧ γ.c k = .sl id 0 xs.length ez ∧ γ.w k = [id] ∧ h[id]? = some (.own ty bs) ∧ bs.length = xs.length * ez ∧ RDss h xs ez bs S ∧ (∀ i ∈ S, PR Γ γ st i) ∧ γ.u k = (if dp = true then S else []))
  | .sl v false dp t xs => v < st.nx ∧ γ.w k = [] ∧ γ.u k = [] ∧ ∃ S, RD h (.sl xs) (γ.c k) S ∧ ∀ i ∈ S, PR Γ γ st i
  | .pt v ty ds => v < st.nx ∧ γ.u k = [] ∧ ∃ id bs, γ.c k = .ptr id 0 ∧ γ.w k = [id] ∧ h[id]? = some (.own ty bs) ∧ All2 (DC Γ γ st h) bs ds
def Mine (Γ : Cx) (i : Nat) : Prop := i ∈ Γ.bs ∨ Γ.hb.length ≤ i
/-- Blocks that are led to from nowhere else. -/
def Free (Γ : Cx) (γ : Gh) (st : St) (S : List Nat) : Prop :=
  S.Nodup ∧ (∀ i ∈ S, Mine Γ i) ∧ ∀ k e, lk k st.es = some e → ∀ i ∈ S, i ∉ γ.w k ++ γ.u k
structure RelG (Γ : Cx) (γ : Gh) (f : UT) (st : St) (mf : Fr) (h : H) : Prop where
  fr : ∀ k : K, UR Γ γ st h (PT.get mf k) (UT.get f k)
  en : ∀ k e, lk k st.es = some e → ER Γ γ st h k e
  nd : ∀ k e, lk k st.es = some e → (γ.w k ++ γ.u k).Nodup ∧ ∀ i ∈ γ.w k ++ γ.u k, Mine Γ i
  dj : ∀ k k' e e', k ≠ k' → lk k st.es = some e → lk k' st.es = some e' → ∀ i ∈ γ.w k ++ γ.u k, i ∉ γ.w k' ++ γ.u k'
  len : Γ.hb.length ≤ h.length
  base : ∀ i, i < Γ.hb.length → i ∉ Γ.bs → h[i]? = Γ.hb[i]?
  arb : ∀ i, Γ.ar i → i < Γ.hb.length
  pin : ∀ p ∈ Γ.pin, p.2.1 < st.nx ∧ ∀ ty ds, lk p.1 st.es = some (.pt p.2.1 ty ds) → γ.c p.1 = .ptr p.2.2 0
  own : ∀ i cs, Mine Γ i → h[i]? ≠ some (.ro cs)
def Rel (Γ : Cx) (f : UT) (st : St) (mf : Fr) (h : H) : Prop := ∃ γ, RelG Γ γ f st mf h
end Go.Eng
