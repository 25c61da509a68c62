/-
  The engine, part P: data: types, values, how a heap bears a value; what comes in to a law is such data.
-/
import Derived.Test.YtaicdpancmfhnaaEngO
import Derived.DataReads
import Derived.DataElems
import Derived.ChangeArms
set_option linter.unusedVariables false
set_option linter.unusedSimpArgs false
namespace Go.Eng
inductive Ty where
  | int (k : IntKind)
  | bool
  | str
  | sl (t : Ty)
  | st (ts : List Ty)
/-- Values; a slice that is nil and one that is empty are one. -/
inductive Tv where
  | i (n : Int)
  | b (x : Bool)
  | s (x : ByteArray)
  | l (xs : List Tv)
  | r (xs : List Tv)
mutual
def Ty.size : Ty → Nat
  | .st ts => Ty.sizes ts
  | _ => 1
def Ty.sizes : List Ty → Nat
  | [] => 0
  | t :: ts => t.size + Ty.sizes ts
end
/-- Structs are handed on as a whole. -/
def Ty.agg : Ty → Bool
  | .st _ => true
  | _ => false
/-- Side by side, each with what it leads to. -/
def Elems (R : List C → Tv → List Nat → Prop) : List Tv → List C → List Nat → Prop
  | [], cs, S => cs = [] ∧ S = []
  | x :: xs, cs, S => ∃ c1 c2 S1 S2, cs = c1 ++ c2 ∧ S = S1 ++ S2 ∧ R c1 x S1 ∧ Elems R xs c2 S2
mutual
/-- The cells bear the value; S: the blocks that they lead to. -/
def Rp (h : H) : Ty → List C → Tv → List Nat → Prop
  | .int k, cs, v, S => ∃ n, cs = [.int k n] ∧ v = .i n ∧ S = [] ∧ k.min ≤ n ∧ n ≤ k.max
  | .bool, cs, v, S => ∃ b, cs = [.bool b] ∧ v = .b b ∧ S = []
  | .str, cs, v, S => ∃ s, cs = [.str s] ∧ v = .s s ∧ S = [] ∧ s.size ≤ maxLen
  | .sl t, cs, v, S => ∃ xs, v = .l xs ∧ xs.length ≤ maxLen ∧ ((xs = [] ∧ S = [] ∧ (cs = [.nils] ∨ cs = [.emp])) ∨
      ∃ id off bs S' e, cs = [.sl id off xs.length e] ∧ h.cells id = some bs ∧ off + xs.length * t.size ≤ bs.length ∧ S = id :: S' ∧ Elems (Rp h t) xs ((bs.drop off).take (xs.length * t.size)) S' ∧ (e = t.size ∨ xs = []))
  | .st ts, cs, v, S => ∃ vs, v = .r vs ∧ Rs h ts cs vs S
def Rs (h : H) : List Ty → List C → List Tv → List Nat → Prop
  | [], cs, vs, S => cs = [] ∧ vs = [] ∧ S = []
  | t :: ts, cs, vs, S => ∃ c1 c2 v vr S1 S2, cs = c1 ++ c2 ∧ vs = v :: vr ∧ S = S1 ++ S2 ∧ Rp h t c1 v S1 ∧ Rs h ts c2 vr S2
end
theorem Elems.imp {R R' : List C → Tv → List Nat → Prop} : ∀ {xs : List Tv} {cs : List C} {S : List Nat}, (∀ c x S', (∀ i ∈ S', i ∈ S) → R c x S' → R' c x S') → Elems R xs cs S → Elems R' xs cs S
  | [], _, _, _, h => h
  | x :: xs, cs, S, hr, ⟨c1, c2, S1, S2, h1, h2, h3, h4⟩ => ⟨c1, c2, S1, S2, h1, h2, hr _ _ _ (fun i hi => by rw [h2]; simp [hi]) h3, Elems.imp (fun c x S' hs => hr c x S' (fun i hi => by rw [h2]; simp [hs i hi])) h4⟩
theorem Elems.all {P : Nat → Prop} : ∀ {xs : List Tv} {cs : List C} {S : List Nat}, Elems (fun _ _ S' => ∀ i ∈ S', P i) xs cs S → ∀ i ∈ S, P i
  | [], _, _, ⟨_, e⟩, i, hi => by rw [e] at hi; cases hi
  | x :: xs, cs, S, ⟨c1, c2, S1, S2, e1, e2, e3, e4⟩, i, hi => by
    rw [e2] at hi
    rcases List.mem_append.1 hi with hi | hi
    · exact e3 i hi
    · exact Elems.all e4 i hi
mutual
/-- What is borne by the same blocks. -/
theorem Rp.frame {h h' : H} : ∀ {t : Ty} {cs : List C} {v : Tv} {S : List Nat}, Rp h t cs v S → (∀ i ∈ S, h'.cells i = h.cells i) → Rp h' t cs v S
  | .int k, cs, v, S, hr, _ => hr
  | .bool, cs, v, S, hr, _ => hr
  | .str, cs, v, S, hr, _ => hr
  | .sl t, cs, v, S, ⟨xs, h1, hm, h2⟩, hs => by
    refine ⟨xs, h1, hm, ?_⟩
    rcases h2 with h2 | ⟨id, off, bs, S', e0, h3, h4, h5, h6, h7, h8⟩
    · exact .inl h2
    · refine .inr ⟨id, off, bs, S', e0, h3, (hs id (by rw [h6]; simp)).trans h4, h5, h6, ?_, h8⟩
      exact h7.imp fun c x S'' hsub hx => Rp.frame hx fun i hi => hs i (by rw [h6]; simp [hsub i hi])
  | .st ts, cs, v, S, ⟨vs, h1, h2⟩, hs => ⟨vs, h1, Rs.frame h2 hs⟩
theorem Rs.frame {h h' : H} : ∀ {ts : List Ty} {cs : List C} {vs : List Tv} {S : List Nat}, Rs h ts cs vs S → (∀ i ∈ S, h'.cells i = h.cells i) → Rs h' ts cs vs S
  | [], cs, vs, S, hr, _ => hr
  | t :: ts, cs, vs, S, ⟨c1, c2, v, vr, S1, S2, h1, h2, h3, h4, h5⟩, hs => ⟨c1, c2, v, vr, S1, S2, h1, h2, h3, Rp.frame h4 fun i hi => hs i (by rw [h3]; simp [hi]), Rs.frame h5 fun i hi => hs i (by rw [h3]; simp [hi])⟩
end
theorem cells_app {h t : H} {i : Nat} (hi : i < h.length) : (h ++ t : H).cells i = h.cells i := cells_same (List.getElem?_append_left hi)
mutual
/-- What is led to is there. -/
theorem Rp.lt {h : H} : ∀ {t : Ty} {cs : List C} {v : Tv} {S : List Nat}, Rp h t cs v S → ∀ i ∈ S, i < h.length
  | .int k, cs, v, S, ⟨_, _, _, e, _⟩, i, hi => by rw [e] at hi; cases hi
  | .bool, cs, v, S, ⟨_, _, _, e⟩, i, hi => by rw [e] at hi; cases hi
  | .str, cs, v, S, ⟨_, _, _, e, _⟩, i, hi => by rw [e] at hi; cases hi
  | .sl t, cs, v, S, ⟨xs, h1, hm, h2⟩, i, hi => by
    rcases h2 with ⟨_, e, _⟩ | ⟨id, off, bs, S', _, h3, h4, h5, h6, h7, _⟩
    · rw [e] at hi; cases hi
    · rw [h6] at hi
      rcases List.mem_cons.1 hi with rfl | hi
      · unfold H.cells at h4
        rcases Nat.lt_or_ge i h.length with hl | hl
        · exact hl
        · rw [List.getElem?_eq_none hl] at h4; simp at h4
      · exact Elems.all (h7.imp fun c x S'' _ hx => Rp.lt hx) i hi
  | .st ts, cs, v, S, ⟨vs, h1, h2⟩, i, hi => Rs.lt h2 i hi
theorem Rs.lt {h : H} : ∀ {ts : List Ty} {cs : List C} {vs : List Tv} {S : List Nat}, Rs h ts cs vs S → ∀ i ∈ S, i < h.length
  | [], cs, vs, S, ⟨_, _, e⟩, i, hi => by rw [e] at hi; cases hi
  | t :: ts, cs, vs, S, ⟨c1, c2, v, vr, S1, S2, h1, h2, h3, h4, h5⟩, i, hi => by
    rw [h3] at hi
    rcases List.mem_append.1 hi with hi | hi
    · exact Rp.lt h4 i hi
    · exact Rs.lt h5 i hi
end
mutual
theorem Rp.size {h : H} : ∀ {t : Ty} {cs : List C} {v : Tv} {S : List Nat}, Rp h t cs v S → cs.length = t.size
  | .int k, cs, v, S, ⟨_, e, _⟩ => by rw [e]; rfl
  | .bool, cs, v, S, ⟨_, e, _⟩ => by rw [e]; rfl
  | .str, cs, v, S, ⟨_, e, _⟩ => by rw [e]; rfl
  | .sl t, cs, v, S, ⟨xs, h1, hm, h2⟩ => by
    rcases h2 with ⟨_, _, e | e⟩ | ⟨id, off, bs, S', _, e, _⟩ <;> rw [e] <;> rfl
  | .st ts, cs, v, S, ⟨vs, h1, h2⟩ => Rs.size h2
theorem Rs.size {h : H} : ∀ {ts : List Ty} {cs : List C} {vs : List Tv} {S : List Nat}, Rs h ts cs vs S → cs.length = Ty.sizes ts
  | [], cs, vs, S, ⟨e, _⟩ => by rw [e]; rfl
  | t :: ts, cs, vs, S, ⟨c1, c2, v, vr, S1, S2, h1, h2, h3, h4, h5⟩ => by
    rw [h1, List.length_append, Rp.size h4, Rs.size h5]; rfl
end
/-! ### The program's types -/
mutual
def tyOf (P : Program) : Nat → TypeId → Option Ty
  | 0, _ => none
  | n + 1, t =>
    match P.underlying t with
    | some (.int k) => some (.int k)
    | some .bool => some .bool
    | some .string => some .str
    | some (.slice e) => match tyOf P n e with
      | some te => if te.size = P.cellsOf e ∧ 0 < te.size then some (.sl te) else none
      | none => none
    | some (.struct fs) => match tysOf P n 0 fs.toList with
      | some ts => if Ty.sizes ts = P.cellsOf t then some (.st ts) else none
      | none => none
    | _ => none
def tysOf (P : Program) : Nat → Nat → List Field → Option (List Ty)
  | 0, _, _ => none
  | _ + 1, _, [] => some []
  | n + 1, off, f :: fs => match tyOf P n f.type, tysOf P n (off + P.cellsOf f.type) fs with
    | some t, some ts => if f.offset = off ∧ t.size = P.cellsOf f.type then some (t :: ts) else none
    | _, _ => none
end
/-! ### What comes in -/
section
variable {X : Type} {enc : TypeId × Value → X} {P : Program} {w : World} {held : Bool}
/-- All blocks are of the world's own, and are read alone. -/
structure RO (w : World) (μ : Mu) (h : H) : Prop where
  dom : ∀ id p, μ id = some p → id < h.length
  ro : ∀ (id : Nat) (b : Blk), h[id]? = some b → ∃ cs, b = Blk.ro cs
  at_ : ∀ (id : Nat) (p : Pl) (cs : List C), μ id = some p → h[id]? = some (Blk.ro cs) → p.blk < w.heap.size ∧ ∀ (i : Nat) (c : C), cs[i]? = some c → ∃ u, w.cell? ⟨p.blk, p.off + i, none⟩ = some u ∧ CR μ c u
def Opens (w : World) (μ : Mu) (h : H) (T : Ty) (cs : List Value) : Prop :=
  ∃ t μ' xs v S, RO w μ' (h ++ t) ∧ MuLe μ μ' ∧ All2 (CR μ') xs cs ∧ Rp (h ++ t) T xs v S
theorem RO.new {μ : Mu} {h : H} (hr : RO w μ h) {p : Pl} {cs : List C} (hp : p.blk < w.heap.size) (hc : ∀ i c, cs[i]? = some c → ∃ u, w.cell? ⟨p.blk, p.off + i, none⟩ = some u ∧ CR μ c u) :
    RO w (fun id => if id = h.length then some p else μ id) (h ++ [.ro cs]) ∧ MuLe μ (fun id => if id = h.length then some p else μ id) := by
  have hm : MuLe μ (fun id => if id = h.length then some p else μ id) := fun id q e => by
    have := hr.dom id q e
    simp only [if_neg (show id ≠ h.length by omega)]
    exact e
  have hg : ∀ id b, (h ++ [Blk.ro cs])[id]? = some b → (id = h.length ∧ b = .ro cs) ∨ (id ≠ h.length ∧ h[id]? = some b) := fun id b e => by
    by_cases hl : id < h.length
    · rw [List.getElem?_append_left hl] at e; exact .inr ⟨by omega, e⟩
    · rw [List.getElem?_append_right (by omega)] at e
      have hlt := (List.getElem?_eq_some_iff.1 e).1
      simp at hlt
      have : id = h.length := by omega
      subst this
      simp at e
      exact .inl ⟨rfl, e.symm⟩
  refine ⟨⟨fun id q e => ?_, fun id b e => ?_, fun id q cs' e1 e2 => ?_⟩, hm⟩
  · by_cases h1 : id = h.length
    · simp [h1]
    · simp only [if_neg h1] at e; have := hr.dom id q e; simp; omega
  · rcases hg id b e with ⟨_, e⟩ | ⟨_, e⟩
    · exact ⟨cs, e⟩
    · exact hr.ro id b e
  · rcases hg id _ e2 with ⟨h1, e3⟩ | ⟨h1, e3⟩
    · simp only [if_pos h1] at e1
      cases e1; cases e3
      exact ⟨hp, fun i c hi => let ⟨u, h2, h3⟩ := hc i c hi; ⟨u, h2, h3.mono hm⟩⟩
    · simp only [if_neg h1] at e1
      obtain ⟨k1, k2⟩ := hr.at_ id q cs' e1 e3
      exact ⟨k1, fun i c hi => let ⟨u, h2, h3⟩ := k2 i c hi; ⟨u, h2, h3.mono hm⟩⟩
theorem Rp.app {h t : H} {T : Ty} {cs : List C} {v : Tv} {S : List Nat} (hr : Rp h T cs v S) : Rp (h ++ t) T cs v S := hr.frame fun i hi => cells_app (hr.lt i hi)
/-- Elements one behind the other. -/
theorem opens_elems {T : Ty} {s : Nat} {a : Addr} : ∀ (m i : Nat), (∀ k, k < m → ∃ cs, w.cells? 0 (a.add ((i + k) * s)) s = some cs ∧ ∀ μ h, RO w μ h → Opens w μ h T cs) → ∀ μ h, RO w μ h →
    ∃ us : List Value, us.length = m * s ∧ (∀ j u, us[j]? = some u → w.cell? (a.add (i * s + j)) = some u) ∧ ∃ t μ' xs vs S, RO w μ' (h ++ t) ∧ MuLe μ μ' ∧ All2 (CR μ') xs us ∧ vs.length = m ∧ Elems (Rp (h ++ t) T) vs xs S
  | 0, i, _, μ, h, hr => ⟨[], by simp, fun j u e => by simp at e, [], μ, [], [], [], by simpa using hr, MuLe.refl _, trivial, rfl, rfl, rfl⟩
  | m + 1, i, hk, μ, h, hr => by
    obtain ⟨cs, h1, h2⟩ := hk 0 (by omega)
    obtain ⟨t1, μ1, xs1, v1, S1, k1, k2, k3, k4⟩ := h2 μ h hr
    obtain ⟨us, q1, q2, t2, μ2, xs2, vs2, S2, q3, q4, q5, q6, q7⟩ := opens_elems m (i + 1) (fun k hlt => by
      have := hk (k + 1) (by omega)
      have e : i + (k + 1) = i + 1 + k := by omega
      rwa [e] at this) μ1 (h ++ t1) k1
    obtain ⟨_, hlen, hcell⟩ := World.cells?_some h1
    refine ⟨cs ++ us, by rw [List.length_append, hlen, q1, Nat.add_mul, Nat.one_mul, Nat.add_comm], fun j u hj => ?_, t1 ++ t2, μ2, xs1 ++ xs2, v1 :: vs2, S1 ++ S2, by rw [← List.append_assoc]; exact q3, k2.trans q4, (k3.imp fun _ _ => CR.mono q4).append q5, by simp [q6], ?_⟩
    · by_cases hjs : j < s
      · rw [List.getElem?_append_left (by omega)] at hj
        have := hcell j hjs
        rw [hj, Nat.add_zero, Addr.add_add] at this
        exact this
      · rw [List.getElem?_append_right (by omega)] at hj
        have := q2 _ u hj
        rw [hlen] at this
        have e : (i + 1) * s + (j - s) = i * s + j := by rw [Nat.add_mul, Nat.one_mul]; omega
        rwa [e] at this
    · rw [← List.append_assoc]
      exact ⟨xs1, xs2, S1, S2, rfl, rfl, k4.app, q7⟩
mutual
theorem open_ty : ∀ {n : Nat} {t : TypeId} {T : Ty}, tyOf P n t = some T → ∀ {fuel : Nat} {cs : List Value} {x : DataW X × List MemPlace}, DataW.trod enc P w 0 (fun _ => true) held fuel t cs = some x → ∀ μ h, RO w μ h → Opens w μ h T cs
  | 0, _, _, ht, _, _, _, _, _, _, _ => by simp [tyOf] at ht
  | n + 1, t, T, ht, fuel, cs, x, hx, μ, h, hr => by
    simp only [tyOf] at ht
    split at ht
    · rename_i k hu
      simp at ht
      subst ht
      cases fuel with
      | zero => simp [DataW.trod] at hx
      | succ fuel =>
        unfold DataW.trod at hx
        rw [hu] at hx
        split at hx <;> simp_all
        obtain ⟨⟨rfl, hw⟩, _⟩ := hx
        simp only [Lit.wf, Bool.and_eq_true, decide_eq_true_eq] at hw
        exact ⟨[], μ, [.int _ _], .i _, [], by simpa using hr, MuLe.refl _, ⟨rfl, trivial⟩, _, rfl, rfl, rfl, hw.1, hw.2⟩
    · rename_i hu
      simp at ht
      subst ht
      cases fuel with
      | zero => simp [DataW.trod] at hx
      | succ fuel =>
        unfold DataW.trod at hx
        rw [hu] at hx
        split at hx <;> simp_all
        exact ⟨[], μ, [.bool _], .b _, [], by simpa using hr, MuLe.refl _, ⟨rfl, trivial⟩, _, rfl, rfl, rfl⟩
    · rename_i hu
      simp at ht
      subst ht
      cases fuel with
      | zero => simp [DataW.trod] at hx
      | succ fuel =>
        unfold DataW.trod at hx
        rw [hu] at hx
        split at hx <;> simp_all
        obtain ⟨hw, _⟩ := hx
        exact ⟨[], μ, [.str _], .s _, [], by simpa using hr, MuLe.refl _, ⟨rfl, trivial⟩, _, rfl, rfl, rfl, hw⟩
    · rename_i e hu
      split at ht
      · rename_i te hte
        split at ht
        · rename_i hcond
          obtain ⟨hts, hpos⟩ := hcond
          simp at ht
          subst ht
          rcases DataW.trod_slice hu hx with ⟨rfl, _⟩ | ⟨a, len, cap, elems, rest, m, _, rfl, _, _, hle, hmax, hlen, hel, hsp, _⟩
          · exact ⟨[], μ, [.nils], .l [], [], by simpa using hr, MuLe.refl _, ⟨rfl, trivial⟩, [], rfl, by simp, .inl ⟨rfl, rfl, .inl rfl⟩⟩
          · by_cases hc0 : cap = 0
            · subst hc0
              have hl0 : len = 0 := by omega
              subst hl0
              exact ⟨[], μ, [.emp], .l [], [], by simpa using hr, MuLe.refl _, ⟨⟨a, rfl⟩, trivial⟩, [], rfl, by simp, .inl ⟨rfl, rfl, .inr rfl⟩⟩
            · have hone : ∀ k, k < cap → ∃ cs, w.cells? 0 (a.add (k * P.cellsOf e)) (P.cellsOf e) = some cs ∧ ∃ y, DataW.trod enc P w 0 (fun _ => true) held m e cs = some y := by
                intro k hk
                have hb : ∃ y, (w.cells? 0 (a.add (k * P.cellsOf e)) (P.cellsOf e)).bind (DataW.trod enc P w 0 (fun _ => true) held m e) = some y := by
                  by_cases hkl : k < len
                  · rw [hel k hkl]
                    exact ⟨elems[k]'(by omega), List.getElem?_eq_getElem (by omega)⟩
                  · obtain ⟨h1, h2⟩ := hsp rfl
                    have := h2 (k - len) (by omega)
                    rw [show len + (k - len) = k by omega] at this
                    rw [this]
                    exact ⟨rest[k - len]'(by omega), List.getElem?_eq_getElem (by omega)⟩
                obtain ⟨y, hy⟩ := hb
                obtain ⟨cs, h1, h2⟩ := Option.bind_eq_some_iff.1 hy
                exact ⟨cs, h1, y, h2⟩
              have hcell0 : ∃ u, w.cell? a = some u := by
                obtain ⟨cs, h1, _⟩ := hone 0 (by omega)
                obtain ⟨_, hl, hc⟩ := World.cells?_some h1
                have := hc 0 (by omega)
                rw [Addr.add_add] at this
                have ea : a.add (0 * P.cellsOf e + 0) = a := by simp [Addr.add]
                rw [ea] at this
                rw [this]
                exact ⟨cs[0]'(by omega), List.getElem?_eq_getElem (by omega)⟩
              obtain ⟨u0, hu0⟩ := hcell0
              have hspot := World.cell?_spot hu0
              have hblk := World.block_lt_of_cell? w a hu0
              obtain ⟨b, off, spot⟩ := a
              simp only at hspot
              subst hspot
              obtain ⟨us, h1, h2, t, μ', xs, vs, S, h3, h4, h5, h6, h7⟩ := opens_elems (w := w) (T := te) (s := P.cellsOf e) (a := ⟨b, off, none⟩) len 0 (fun k hk => by
                obtain ⟨cs, q1, y, q2⟩ := hone k (by omega)
                rw [Nat.zero_add]
                exact ⟨cs, q1, fun μ h hr => open_ty hte q2 μ h hr⟩) μ h hr
              have hxl : xs.length = len * te.size := by rw [h5.length, h1, hts]
              obtain ⟨r1, r2⟩ := h3.new (p := ⟨b, off, cap * te.size⟩) (cs := xs) hblk (fun i c hi => by
                obtain ⟨u, q1, q2⟩ := h5.get hi
                refine ⟨u, ?_, q2⟩
                have := h2 i u q1
                rwa [Nat.zero_mul, Nat.zero_add, add_at] at this)
              refine ⟨t ++ [.ro xs], _, [.sl (h ++ t).length 0 len te.size], .l vs, (h ++ t).length :: S, by rw [← List.append_assoc]; exact r1, h4.trans r2, ⟨⟨⟨b, off, cap * te.size⟩, ⟨b, off, none⟩, cap, by simp, rfl, hle, .inr rfl, by simp⟩, trivial⟩, vs, rfl, by omega, .inr ⟨(h ++ t).length, 0, xs, S, te.size, by rw [h6], ?_, by rw [h6, hxl]; omega, rfl, ?_, .inl rfl⟩⟩
              · rw [← List.append_assoc]
                simp [H.cells]
              · have : (xs.drop 0).take (vs.length * te.size) = xs := by rw [List.drop_zero, h6, ← hxl, List.take_length]
                rw [this, ← List.append_assoc]
                exact h7.imp fun c x S' _ hx => hx.app
        · simp at ht
      · simp at ht
    · rename_i fs hu
      split at ht
      · rename_i ts hts
        split at ht
        · rename_i hsz
          simp at ht
          subst ht
          obtain ⟨xs, m, _, _, hcl, hxl, hf⟩ := DataW.trod_struct hu hx
          obtain ⟨t, μ', ys, vs, S, h1, h2, h3, h4⟩ := open_fields hts (cs := cs) (fun i f hi => by
            have hlt := (List.getElem?_eq_some_iff.1 hi).1
            have := hf i f (by simpa using hi)
            rw [List.getElem?_eq_getElem (by simp at hlt; omega)] at this
            exact ⟨_, _, this⟩) (by rw [hsz, hcl]; omega) μ h hr
          refine ⟨t, μ', ys, .r vs, S, h1, h2, ?_, vs, rfl, h4⟩
          rw [List.drop_zero] at h3
          rw [hsz, ← hcl, List.take_length] at h3
          exact h3
        · simp at ht
      · simp at ht
    · simp at ht
theorem open_fields : ∀ {n off : Nat} {fs : List Field} {ts : List Ty}, tysOf P n off fs = some ts → ∀ {cs : List Value}, (∀ (i : Nat) (f : Field), fs[i]? = some f → ∃ (m : Nat) (y : DataW X × List MemPlace), DataW.trod enc P w 0 (fun _ => true) held m f.type ((cs.drop f.offset).take (P.cellsOf f.type)) = some y) →
    off + Ty.sizes ts ≤ cs.length → ∀ μ h, RO w μ h → ∃ t μ' ys vs S, RO w μ' (h ++ t) ∧ MuLe μ μ' ∧ All2 (CR μ') ys ((cs.drop off).take (Ty.sizes ts)) ∧ Rs (h ++ t) ts ys vs S
  | 0, _, _, _, ht, _, _, _, _, _, _ => by simp [tysOf] at ht
  | n + 1, off, [], ts, ht, cs, hf, hl, μ, h, hr => by
    simp [tysOf] at ht
    subst ht
    exact ⟨[], μ, [], [], [], by simpa using hr, MuLe.refl _, by simp [Ty.sizes, All2], rfl, rfl, rfl⟩
  | n + 1, off, f :: fs, ts, ht, cs, hf, hl, μ, h, hr => by
    simp only [tysOf] at ht
    split at ht
    · rename_i t1 ts1 e1 e2
      split at ht
      · rename_i hcond
        obtain ⟨ho, hs⟩ := hcond
        simp at ht
        subst ht
        obtain ⟨m, y, hy⟩ := hf 0 f rfl
        obtain ⟨t, μ1, xs, v, S, h1, h2, h3, h4⟩ := open_ty e1 hy μ h hr
        have hsz : Ty.sizes (t1 :: ts1) = t1.size + Ty.sizes ts1 := rfl
        obtain ⟨t', μ2, ys, vs, S', q1, q2, q3, q4⟩ := open_fields e2 (cs := cs) (fun i f' hi => hf (i + 1) f' (by simpa using hi)) (by rw [hsz] at hl; omega) μ1 (h ++ t) h1
        refine ⟨t ++ t', μ2, xs ++ ys, v :: vs, S ++ S', by rw [← List.append_assoc]; exact q1, h2.trans q2, ?_, xs, ys, v, vs, S, S', rfl, rfl, rfl, by rw [← List.append_assoc]; exact h4.app, by rw [← List.append_assoc]; exact q4⟩
        rw [hsz, List.take_add, List.drop_drop]
        rw [ho, ← hs] at h3
        rw [← hs] at q3
        exact (h3.imp fun _ _ => CR.mono q2).append q3
      · simp at ht
    · simp at ht
end
end
end Go.Eng
