/-
  The engine, part R: tools for the symbolic run: loops, numbers, slices.
-/
import Derived.Test.YtaicdpancmfhnaaEngP
set_option linter.unusedVariables false
set_option linter.unusedSimpArgs false
namespace Go.Eng
/-! ### Loops -/
def setAll (f : Fr) : List (Nat × V) → Fr
  | [] => f
  | (s, v) :: r => setAll (f.set s v) r
theorem WS_loop2 {cd : Nat → Option AF} {f : Fr} {h : H} {R : List RV} {Q : V → H → Prop} {k : List KI} {ds : List Nat} {b : AC} {σ : Type} (f1 : Fr) (hf : forget f ds = f1) (upd : σ → List (Nat × V)) (J : σ → Nat → H → Prop) (s0 : σ) (g0 : Nat)
    (hu : f1 = setAll f1 (upd s0)) (h0 : J s0 g0 h)
    (round : ∀ s g h, J s g h → WS cd (.c b :: .stop (fun f' h' => ∃ s' g', g' < g ∧ forget f' ds = setAll f1 (upd s') ∧ J s' g' h') :: k) (setAll f1 (upd s)) h R Q) : WS cd (.c (.loop ds b) :: k) f h R Q := by
  refine WS_loop (fun g f h => ∃ s, forget f ds = setAll f1 (upd s) ∧ J s g h) g0 ⟨s0, by rw [hf]; exact hu, h0⟩ (fun g f h ⟨s, e, hJ⟩ => ?_)
  rw [e]
  have := round s g h hJ
  have e2 : (fun f' h' => ∃ s' g', g' < g ∧ forget f' ds = setAll f1 (upd s') ∧ J s' g' h') = (fun f' h' => ∃ g', g' < g ∧ ∃ s', forget f' ds = setAll f1 (upd s') ∧ J s' g' h') := by
    funext f' h'
    apply propext
    exact ⟨fun ⟨s', g', a, b, c⟩ => ⟨g', a, s', b, c⟩, fun ⟨g', a, s', b, c⟩ => ⟨s', g', a, b, c⟩⟩
  rw [e2] at this
  exact this
/-! ### Numbers -/
theorem w64 {n : Int} (h1 : -9223372036854775808 ≤ n) (h2 : n < 9223372036854775808) : IntKind.i64.wrap n = n := by rw [IntKind.wrap_i64]; omega
theorem ifT {α : Type} {c : Prop} [Decidable c] {a b : α} (h : c) : (if c then a else b) = a := if_pos h
theorem b_add (k : IntKind) (a b : Int) : bin2 .add (.int k a) (.int k b) = some (.int k (k.wrap (a + b))) := by simp [bin2]
theorem b_sub (k : IntKind) (a b : Int) : bin2 .sub (.int k a) (.int k b) = some (.int k (k.wrap (a - b))) := by simp [bin2]
theorem b_mul (k : IntKind) (a b : Int) : bin2 .mul (.int k a) (.int k b) = some (.int k (k.wrap (a * b))) := by simp [bin2]
theorem b_quo (k : IntKind) (a b : Int) : bin2 .quo (.int k a) (.int k b) = if b = 0 then none else some (.int k (k.wrap (a.tdiv b))) := by simp [bin2]
theorem b_rem (k : IntKind) (a b : Int) : bin2 .rem (.int k a) (.int k b) = if b = 0 then none else some (.int k (a.tmod b)) := by simp [bin2]
theorem b_eql (k : IntKind) (a b : Int) : bin2 .eql (.int k a) (.int k b) = some (.bool (decide (a = b))) := by
  simp [bin2]; rw [Bool.eq_iff_iff]; simp
theorem b_neq (k : IntKind) (a b : Int) : bin2 .neq (.int k a) (.int k b) = some (.bool (decide (a ≠ b))) := by
  simp [bin2, bne]; rw [Bool.eq_iff_iff]; simp
theorem b_lss (k : IntKind) (a b : Int) : bin2 .lss (.int k a) (.int k b) = some (.bool (decide (a < b))) := by simp [bin2]
theorem b_leq (k : IntKind) (a b : Int) : bin2 .leq (.int k a) (.int k b) = some (.bool (decide (a ≤ b))) := by simp [bin2]
theorem b_gtr (k : IntKind) (a b : Int) : bin2 .gtr (.int k a) (.int k b) = some (.bool (decide (a > b))) := by simp [bin2]
theorem b_geq (k : IntKind) (a b : Int) : bin2 .geq (.int k a) (.int k b) = some (.bool (decide (a ≥ b))) := by simp [bin2]
theorem b_and (k : IntKind) (a b : Int) : bin2 .and (.int k a) (.int k b) = some (.int k (bits2 .and k a b)) := by simp [bin2]
theorem b_or (k : IntKind) (a b : Int) : bin2 .or (.int k a) (.int k b) = some (.int k (bits2 .or k a b)) := by simp [bin2]
theorem b_xor (k : IntKind) (a b : Int) : bin2 .xor (.int k a) (.int k b) = some (.int k (bits2 .xor k a b)) := by simp [bin2]
theorem b_andNot (k : IntKind) (a b : Int) : bin2 .andNot (.int k a) (.int k b) = some (.int k (bits2 .andNot k a b)) := by simp [bin2]
theorem b_shl (k k' : IntKind) (a b : Int) : bin2 .shl (.int k a) (.int k' b) = if b < 0 then none else some (.int k (k.wrap (a * 2 ^ (min b.toNat k.bits)))) := by simp [bin2]
theorem b_shr (k k' : IntKind) (a b : Int) : bin2 .shr (.int k a) (.int k' b) = if b < 0 then none else some (.int k (a.fdiv (2 ^ (min b.toNat k.bits)))) := by simp [bin2]
theorem bytes_ext {a b : ByteArray} : (a.toList == b.toList) = decide (a = b) := by
  rw [Bool.eq_iff_iff]
  simp only [beq_iff_eq, decide_eq_true_eq, ByteArray.toList_eq]
  constructor
  · intro h
    have := Array.toList_inj.1 h
    cases a; cases b
    simp only at this
    rw [this]
  · intro h; rw [h]
theorem b_seql (a b : ByteArray) : bin2 .eql (.str a) (.str b) = some (.bool (decide (a = b))) := by simp only [bin2, bytes_ext]
theorem b_sneq (a b : ByteArray) : bin2 .neq (.str a) (.str b) = some (.bool (decide (a ≠ b))) := by
  simp only [bin2, bytes_ext, ne_eq]
  congr 2
  by_cases h : a = b <;> simp [h]
/-! ### Slices -/
section
variable {R R' : List C → Tv → List Nat → Prop}
theorem Elems.len {e : Nat} (hs : ∀ c x S, R c x S → c.length = e) : ∀ {xs : List Tv} {cs : List C} {S : List Nat}, Elems R xs cs S → cs.length = xs.length * e
  | [], _, _, ⟨h, _⟩ => by rw [h]; simp
  | x :: xs, _, _, ⟨c1, c2, S1, S2, h1, _, h3, h4⟩ => by rw [h1, List.length_append, hs _ _ _ h3, Elems.len hs h4, List.length_cons, Nat.add_mul, Nat.one_mul, Nat.add_comm]
/-- One element, and those ahead of it and behind it. -/
theorem Elems.split {e : Nat} (hs : ∀ c x S, R c x S → c.length = e) : ∀ {xs : List Tv} {cs : List C} {S : List Nat}, Elems R xs cs S → ∀ {i : Nat} {x : Tv}, xs[i]? = some x →
    ∃ S1 Si S2, S = S1 ++ (Si ++ S2) ∧ Elems R (xs.take i) (cs.take (i * e)) S1 ∧ R ((cs.drop (i * e)).take e) x Si ∧ Elems R (xs.drop (i + 1)) (cs.drop ((i + 1) * e)) S2
  | [], _, _, _, i, x, hx => by simp at hx
  | y :: ys, cs, S, ⟨c1, c2, S1, S2, h1, h2, h3, h4⟩, 0, x, hx => by
    simp at hx
    subst hx
    have hl := hs _ _ _ h3
    refine ⟨[], S1, S2, by simp [h2], by simp [Elems], ?_, ?_⟩
    · rw [h1]
      have : ((c1 ++ c2).drop (0 * e)).take e = c1 := by simp [← hl]
      rw [this]
      exact h3
    · rw [h1]
      have : (c1 ++ c2).drop ((0 + 1) * e) = c2 := by simp [← hl]
      rw [this]
      simpa using h4
  | y :: ys, cs, S, ⟨c1, c2, S1, S2, h1, h2, h3, h4⟩, i + 1, x, hx => by
    have hl := hs _ _ _ h3
    obtain ⟨T1, Ti, T2, k1, k2, k3, k4⟩ := Elems.split hs h4 (i := i) (x := x) (by simpa using hx)
    have e1 : (i + 1) * e = c1.length + i * e := by rw [Nat.add_mul, Nat.one_mul, hl, Nat.add_comm]
    refine ⟨S1 ++ T1, Ti, T2, by rw [h2, k1, List.append_assoc], ?_, ?_, ?_⟩
    · rw [h1, e1, List.take_length_add_append]
      exact ⟨c1, _, S1, T1, rfl, rfl, h3, k2⟩
    · rw [h1, e1, List.drop_append]
      simpa [List.drop_eq_nil_of_le] using k3
    · have e2 : (i + 1 + 1) * e = c1.length + (i + 1) * e := by rw [Nat.add_mul (i + 1), Nat.one_mul, hl, Nat.add_comm]
      rw [h1, e2, List.drop_append]
      simpa [List.drop_eq_nil_of_le] using k4
theorem Elems.join : ∀ {xs ys : List Tv} {cs ds : List C} {S S' : List Nat}, Elems R xs cs S → Elems R ys ds S' → Elems R (xs ++ ys) (cs ++ ds) (S ++ S')
  | [], ys, _, ds, _, S', ⟨h1, h2⟩, h => by rw [h1, h2]; exact h
  | x :: xs, ys, cs, ds, S, S', ⟨c1, c2, S1, S2, h1, h2, h3, h4⟩, h => ⟨c1, c2 ++ ds, S1, S2 ++ S', by rw [h1, List.append_assoc], by rw [h2, List.append_assoc], h3, Elems.join h4 h⟩
theorem Elems.one {c : List C} {x : Tv} {S : List Nat} (h : R c x S) : Elems R [x] c S := ⟨c, [], S, [], by simp, by simp, h, rfl, rfl⟩
end
theorem Rp.size' {h : H} {t : Ty} : ∀ c x S, Rp h t c x S → c.length = t.size := fun _ _ _ hr => hr.size
/-- Reading the next field. -/
theorem Rs.step {h : H} {t : Ty} {ts : List Ty} {cs : List C} {o : Nat} {vs : List Tv} {S : List Nat} (hr : Rs h (t :: ts) (cs.drop o) vs S) :
    ∃ v vr S1 S2, vs = v :: vr ∧ S = S1 ++ S2 ∧ Rp h t ((cs.drop o).take t.size) v S1 ∧ Rs h ts (cs.drop (o + t.size)) vr S2 := by
  obtain ⟨c1, c2, v, vr, S1, S2, h1, h2, h3, h4, h5⟩ := hr
  have hl := h4.size
  refine ⟨v, vr, S1, S2, h2, h3, ?_, ?_⟩
  · rw [h1, ← hl, List.take_left]; exact h4
  · rw [← List.drop_drop, h1, ← hl, List.drop_left]; exact h5
theorem Rp.one {h : H} {t : Ty} {cs : List C} {v : Tv} {S : List Nat} (hr : Rp h t cs v S) (ht : t.size = 1) : ∃ c, cs = [c] := by
  have := hr.size
  rw [ht] at this
  match cs, this with
  | [c], _ => exact ⟨c, rfl⟩
/-- A slice's shape: its length and its cells. -/
theorem Rp.sl {h : H} {t : Ty} {cs : List C} {v : Tv} {S : List Nat} (hr : Rp h (.sl t) cs v S) :
    ∃ xs, v = .l xs ∧ xs.length ≤ maxLen ∧ ((xs = [] ∧ S = [] ∧ (cs = [.nils] ∨ cs = [.emp])) ∨
      ∃ id off bs S' e, cs = [.sl id off xs.length e] ∧ h.cells id = some bs ∧ off + xs.length * t.size ≤ bs.length ∧ S = id :: S' ∧ Elems (Rp h t) xs ((bs.drop off).take (xs.length * t.size)) S' ∧ (e = t.size ∨ xs = [])) := by
  unfold Rp at hr; exact hr
/-- A slice as it is read: it matters no more whether it is nil. -/
theorem Rp.view {h : H} {t : Ty} {cs : List C} {v : Tv} {S : List Nat} (hr : Rp h (.sl t) cs v S) :
    ∃ c xs id off bs S', cs = [c] ∧ v = .l xs ∧ xs.length ≤ 9223372036854775807 ∧ lenC c = some xs.length ∧ (∀ j : Nat, j < xs.length → atC c t.size (j : Int) = some (id, off + j * t.size)) ∧ (0 < xs.length → h.cells id = some bs ∧ c = .sl id off xs.length t.size) ∧ off + xs.length * t.size ≤ bs.length ∧
      Elems (Rp h t) xs ((bs.drop off).take (xs.length * t.size)) S' ∧ (S = id :: S' ∨ (xs = [] ∧ S = [] ∧ S' = [])) := by
  obtain ⟨xs, h1, hm, hc⟩ := hr.sl
  rcases hc with ⟨rfl, h2, h3⟩ | ⟨id, off, bs, S', e0, h2, h3, h4, h5, h6, he0⟩
  · refine ⟨cs.headD .nils, [], 0, 0, [], [], ?_, h1, by simp, ?_, fun j hj => by simp at hj, fun h => by simp at h, by simp, ⟨by simp, rfl⟩, .inr ⟨rfl, h2, rfl⟩⟩
    · rcases h3 with rfl | rfl <;> rfl
    · rcases h3 with rfl | rfl <;> rfl
  · have hne : ∀ {j : Nat}, j < xs.length → e0 = t.size := fun hj => he0.resolve_right (fun e => by rw [e] at hj; simp at hj)
    refine ⟨_, xs, id, off, bs, S', h2, h1, hm, rfl, fun j hj => ?_, fun hp => ⟨h3, by rw [hne hp]⟩, h4, h6, .inl h5⟩
    simp only [atC]
    rw [if_pos ⟨hne hj, by omega, by omega⟩]
    simp [hne hj]
theorem part_part {bs : List C} {off n e i : Nat} (hi : i < n) : (((bs.drop off).take (n * e)).drop (i * e)).take e = (bs.drop (off + i * e)).take e := by
  have : (i + 1) * e ≤ n * e := Nat.mul_le_mul_right _ hi
  rw [Nat.add_mul, Nat.one_mul] at this
  rw [List.drop_take, List.take_take, List.drop_drop]
  congr 1
  omega
/-- The element at i. -/
theorem Elems.at {h : H} {t : Ty} {xs : List Tv} {bs : List C} {off : Nat} {S : List Nat} (hr : Elems (Rp h t) xs ((bs.drop off).take (xs.length * t.size)) S) {i : Nat} (hi : i < xs.length) :
    ∃ Si, Rp h t ((bs.drop (off + i * t.size)).take t.size) xs[i] Si := by
  obtain ⟨S1, Si, S2, _, _, k3, _⟩ := hr.split Rp.size' (List.getElem?_eq_getElem hi)
  rw [part_part hi] at k3
  exact ⟨Si, k3⟩
theorem Rp.int {h : H} {k : IntKind} {cs : List C} {v : Tv} {S : List Nat} (hr : Rp h (.int k) cs v S) : ∃ n, cs = [.int k n] ∧ v = .i n ∧ S = [] ∧ k.min ≤ n ∧ n ≤ k.max := by unfold Rp at hr; exact hr
theorem Rp.st {h : H} {ts : List Ty} {cs : List C} {v : Tv} {S : List Nat} (hr : Rp h (.st ts) cs v S) : ∃ vs, v = .r vs ∧ Rs h ts (cs.drop 0) vs S := by unfold Rp at hr; simpa using hr
noncomputable instance : DecidableEq Tv := fun a b => Classical.propDecidable (a = b)
/-! ### What the sizes count -/
mutual
def wt : Tv → Nat
  | .l xs => xs.length + wts xs
  | .r xs => wts xs
  | .s x => x.size
  | _ => 0
def wts : List Tv → Nat
  | [] => 0
  | x :: xs => wt x + wts xs
end
theorem wts_append : ∀ (xs ys : List Tv), wts (xs ++ ys) = wts xs + wts ys
  | [], ys => by simp [wts]
  | x :: xs, ys => by simp [wts, wts_append xs ys, Nat.add_assoc]
theorem wts_take {xs : List Tv} {i : Nat} {x : Tv} (h : xs[i]? = some x) : wts (xs.take (i + 1)) = wts (xs.take i) + wt x := by
  have hlt := (List.getElem?_eq_some_iff.1 h).1
  rw [List.take_add_one, h]
  simp [wts_append, wts]
theorem wts_le (xs : List Tv) (i : Nat) : wts (xs.take i) ≤ wts xs := by
  have := wts_append (xs.take i) (xs.drop i)
  rw [List.take_append_drop] at this
  omega
end Go.Eng
namespace Go.Eng
/-! ### Owned blocks -/
def Ownd (h : H) (S : List Nat) : Prop := S.Nodup ∧ ∀ i ∈ S, ∃ ty cs, h[i]? = some (.own ty cs)
theorem cells_own {h : H} {i ty : Nat} {cs : List C} (e : h[i]? = some (.own ty cs)) : h.cells i = some cs := by unfold H.cells; rw [e]
theorem get_last (h : H) (b : Blk) (t : H) : (h ++ b :: t)[h.length]? = some b := by rw [List.getElem?_append_right (Nat.le_refl _)]; simp
theorem set_last (h : H) (b b' : Blk) (t : H) : (h ++ b :: t).set h.length b' = h ++ b' :: t := by rw [List.set_append_right _ _ (Nat.le_refl _)]; simp
theorem rep_one (n : Nat) (c : C) : (List.replicate n [c]).flatten = List.replicate n c := by
  induction n with
  | zero => rfl
  | succ n ih => simp [List.replicate_succ, ih]
theorem room_of {n : Nat} (h : n ≤ 70368744177664) : inRoom n = true := by unfold inRoom; simpa using h
theorem atC_sl {id off len e : Nat} {j : Int} (h0 : 0 ≤ j) (h1 : j < (len : Int)) : atC (.sl id off len e) e j = some (id, off + j.toNat * e) := by simp [atC, h0, h1]
theorem setL_snoc {α : Type} (x : α) : ∀ (l cs : List α) (o : Nat), setL cs o (l ++ [x]) = (setL cs o l).set (o + l.length) x
  | [], cs, o => rfl
  | v :: l, cs, o => by
    simp only [List.cons_append, setL, setL_snoc x l, List.length_cons]
    congr 1
    omega
/-- What has been written, read. -/
theorem setL_read {α : Type} {l cs : List α} {o : Nat} (h : o + l.length ≤ cs.length) : ((setL cs o l).drop o).take l.length = l := by
  rw [setL_eq _ _ _ h]
  have e : (cs.take o).length = o := by simp; omega
  rw [List.append_assoc, List.drop_append, e]
  simp [List.drop_eq_nil_of_le]
theorem setL_one {α : Type} (l : List α) (o : Nat) (v : α) : setL l o [v] = l.set o v := rfl
theorem lt_of_cells {h : H} {id : Nat} {bs : List C} (e : h.cells id = some bs) : id < h.length := by
  unfold H.cells at e
  rcases Nat.lt_or_ge id h.length with hl | hl
  · exact hl
  · rw [List.getElem?_eq_none hl] at e; simp at e
theorem cells_more {h : H} {id : Nat} {bs : List C} (e : h.cells id = some bs) (t : H) : (h ++ t : H).cells id = some bs := by rw [cells_app (lt_of_cells e)]; exact e
/-- The next one is set. -/
theorem set_next {l : List C} {i n : Nat} {z : C} (hl : l.length = n) (hi : i < n) : (l.take i ++ List.replicate (n - i) z).set i (l[i]'(by omega)) = l.take (i + 1) ++ List.replicate (n - (i + 1)) z := by
  have e : n - i = (n - (i + 1)) + 1 := by omega
  rw [e, List.replicate_succ, List.set_append_right _ _ (by simp; omega)]
  have e2 : i - (l.take i).length = 0 := by simp; omega
  have e3 : l.take (i + 1) = l.take i ++ [l[i]'(by omega)] := by rw [List.take_add_one, List.getElem?_eq_getElem (by omega)]; rfl
  rw [e2, List.set_cons_zero, e3, List.append_assoc]
  rfl
theorem part_one {l : List C} {i : Nat} (h : i < l.length) : (l.drop i).take 1 = [l[i]] := by
  rw [List.drop_eq_getElem_cons h, List.take_succ_cons, List.take_zero]
/-! ### What comes in: the specifications -/
def SzOk (cd : Nat → Option AF) (g : Nat) (T : Ty) : Prop := ∀ {h : H} {cs : List C} {v : Tv} {S : List Nat} {k : Nat}, Rp h T cs v S → k ≤ 1048576 →
  WC cd g [(T.agg, cs), (false, [.int .i64 k])] h (fun r h' => h' = h ∧ r = .val false [.int .i64 (if wt v ≤ k then (k : Int) - wt v else -1)])
def EqOk (cd : Nat → Option AF) (g : Nat) (T : Ty) : Prop := ∀ {h : H} {ca cb : List C} {va vb : Tv} {Sa Sb : List Nat}, Rp h T ca va Sa → Rp h T cb vb Sb →
  WC cd g [(T.agg, ca), (T.agg, cb)] h (fun r h' => h' = h ∧ r = .val false [.bool (decide (va = vb))])
/-- A copy of one's own. -/
def Fresh (h : H) (T : Ty) (v : Tv) (r : V) (h' : H) : Prop := ∃ t cs' S', h' = h ++ t ∧ r = .val T.agg cs' ∧ Rp h' T cs' v S' ∧ Ownd h' S' ∧ ∀ i ∈ S', h.length ≤ i
def ToOk (cd : Nat → Option AF) (g : Nat) (T : Ty) : Prop := ∀ {h : H} {cs : List C} {v : Tv} {S : List Nat}, Rp h T cs v S → wt v ≤ 1048576 → WC cd g [(T.agg, cs)] h (Fresh h T v)
def mkL (f : Tv → Nat → Tv) (g : Tv → Nat) : List Tv → Nat → List Tv
  | [], _ => []
  | x :: xs, n => f x n :: mkL f g xs (n + g x)
mutual
/-- How many marks. -/
def cnE : Ty → Tv → Nat
  | .int _, _ => 1
  | .sl t, .l xs => (xs.map (cnE t)).sum
  | .st ts, .r vs => cnS ts vs
  | _, _ => 0
def cnS : List Ty → List Tv → Nat
  | t :: ts, v :: vs => cnE t v + cnS ts vs
  | _, _ => 0
end
mutual
/-- Marks, in every part. -/
def mkE : Ty → Tv → Nat → Tv
  | .int k, _, n => .i (k.wrap n)
  | .sl t, .l xs, n => .l (mkL (mkE t) (cnE t) xs n)
  | .st ts, .r vs, n => .r (mkS ts vs n)
  | _, v, _ => v
def mkS : List Ty → List Tv → Nat → List Tv
  | t :: ts, v :: vs, n => mkE t v n :: mkS ts vs (n + cnE t v)
  | _, vs, _ => vs
end
mutual
/-- Marks behind slices alone. -/
def cnT : Ty → Tv → Nat
  | .sl t, .l xs => (xs.map (cnE t)).sum
  | .st ts, .r vs => cnTs ts vs
  | _, _ => 0
def cnTs : List Ty → List Tv → Nat
  | t :: ts, v :: vs => cnT t v + cnTs ts vs
  | _, _ => 0
end
mutual
def mkT : Ty → Tv → Nat → Tv
  | .sl t, .l xs, n => .l (mkL (mkE t) (cnE t) xs n)
  | .st ts, .r vs, n => .r (mkTs ts vs n)
  | _, v, _ => v
def mkTs : List Ty → List Tv → Nat → List Tv
  | t :: ts, v :: vs, n => mkT t v n :: mkTs ts vs (n + cnT t v)
  | _, vs, _ => vs
end
/-- A heap in which some blocks have other cells. -/
def Wrote (h h' : H) (S : List Nat) : Prop := h'.length = h.length ∧ (∀ i, i ∉ S → h'[i]? = h[i]?) ∧ ∀ i ∈ S, ∃ ty cs, h'[i]? = some (.own ty cs)
def MkOk (cd : Nat → Option AF) (g : Nat) (T : Ty) : Prop := ∀ {h : H} {cs : List C} {v : Tv} {S : List Nat} {k : Nat}, Rp h T cs v S → Ownd h S → k + cnT T v ≤ 1152921504606846976 →
  WC cd g [(T.agg, cs), (false, [.int .i64 k])] h (fun r h' => r = .val false [.int .i64 ((k + cnT T v : Nat) : Int)] ∧ Wrote h h' S ∧ Rp h' T cs (mkT T v k) S)
/-- A value of the type. -/
def Tvd (T : Ty) (v : Tv) : Prop := ∃ h cs S, Rp h T cs v S
def HdOk (cd : Nat → Option AF) (g : Nat) (T : Ty) : Prop := ∀ {h : H} {cs : List C} {v : Tv} {S : List Nat} {k : Nat}, Tvd T v → Rp h T cs (mkT T v k) S → k + cnT T v ≤ 1152921504606846976 →
  WC cd g [(T.agg, cs), (false, [.int .i64 k])] h (fun r h' => h' = h ∧ r = .val false [.int .i64 ((k + cnT T v : Nat) : Int)])
end Go.Eng
