/-
  The engine, part E: the state of a call, abstract and on the machine; how each change of the one goes with the other's.
-/
import Derived.Test.YtaicdpancmfhnaaEngD
set_option linter.unusedVariables false
set_option linter.unusedSimpArgs false
namespace Go.Eng
/-- What a call's state is held against: the program, the function's table, where the own blocks begin, the world at the call's begin, the blocks that it may write. -/
structure Ctx where
  P : Program
  I : Inf
  base : Nat
  w0 : World
  B0 : Nat → Prop
def SRs (μ : Mu) (L : Nat → Nat) (s : Nat) (v : Value) : V → Prop
  | .any => True
  | .val g cs => VG μ g cs v
  | .tup vs => TG μ vs v
  | .box _ => v = .pointer (some ⟨L s, 0, none⟩)
  | .lsl _ n _ => v = .slice (some ⟨L s, 0, none⟩) n n
  | .lref r o => v = .pointer (some ⟨L r, o, none⟩)
def loc : V → Option (List C)
  | .box cs => some cs
  | .lsl cs _ _ => some cs
  | _ => none
structure HP (X : Ctx) (μ : Mu) (h : H) (w : World) : Prop where
  hos : w.os = X.w0.os
  htape : w.tape = X.w0.tape
  hout : w.output = X.w0.output
  hsz : X.w0.heap.size ≤ w.heap.size
  hb : X.base ≤ X.w0.heap.size
  keep : ∀ k, k < X.w0.heap.size → ¬ X.B0 k → w.heap[k]? = X.w0.heap[k]?
  dom : ∀ id p, μ id = some p → id < h.length
  own : ∀ id p ty cs, μ id = some p → h[id]? = some (.own ty cs) → p.off = 0 ∧ X.base ≤ p.blk ∧ ∃ arr, w.heap[p.blk]? = some (.cells arr ty (0, 0)) ∧ arr.size = p.lim ∧ ∃ rest, All2 (CR μ) cs (arr.toList.take cs.length) ∧ arr.toList = arr.toList.take cs.length ++ rest
  ro : ∀ id p cs, μ id = some p → h[id]? = some (.ro cs) → p.blk < X.base ∧ ∀ i c, cs[i]? = some c → ∃ u, w.cell? ⟨p.blk, p.off + i, none⟩ = some u ∧ CR μ c u
  ex : ∀ id id' p p' ty ty' cs cs', id ≠ id' → μ id = some p → μ id' = some p' → h[id]? = some (.own ty cs) → h[id']? = some (.own ty' cs') → p.blk ≠ p'.blk
  ownb : ∀ id p ty cs, μ id = some p → h[id]? = some (.own ty cs) → X.B0 p.blk ∨ X.w0.heap.size ≤ p.blk
  rob : ∀ k, X.B0 k → X.base ≤ k
structure FP (X : Ctx) (μ : Mu) (L : Nat → Nat) (f : Fr) (tm : Array Value) (w : World) : Prop where
  nt : tm.size = X.I.nt
  slots : ∀ s, SRs μ L s (tm.getD s undef) (f.get s)
  loc : ∀ s cs, loc (f.get s) = some cs → X.w0.heap.size ≤ L s ∧ ∃ ty arr, w.heap[L s]? = some (.cells arr ty (0, 0)) ∧ All2 (CR μ) cs arr.toList
  bsep : ∀ s t cs ds, s ≠ t → f.get s = .box cs → Eng.loc (f.get t) = some ds → L t ≠ L s
  bty : ∀ s cs, f.get s = .box cs → X.I.env.lookup s = some s
  rty : ∀ s r o, f.get s = .lref r o → X.I.env.lookup s = some r ∧ ∃ cs, f.get r = .box cs
structure INV (X : Ctx) (μ : Mu) (L : Nat → Nat) (f : Fr) (tm : Array Value) (h : H) (w : World) : Prop where
  hp : HP X μ h w
  fp : FP X μ L f tm w
  sep : ∀ s cs id p ty ds, loc (f.get s) = some cs → μ id = some p → h[id]? = some (.own ty ds) → p.blk ≠ L s
section
variable {X : Ctx} {μ μ' : Mu} {L : Nat → Nat} {f : Fr} {tm : Array Value} {h h' : H} {w w' : World}
theorem SRs.mono (hm : MuLe μ μ') {s : Nat} {v : Value} : ∀ {u : V}, SRs μ L s v u → SRs μ' L s v u
  | .any, _ => trivial
  | .val g cs, h => VG.mono hm h
  | .tup vs, h => TG.mono hm h
  | .box _, h => h
  | .lsl _ _ _, h => h
  | .lref _ _, h => h
theorem FP.world (hf : FP X μ L f tm w) (hm : MuLe μ μ') (hl : ∀ s cs, Eng.loc (f.get s) = some cs → w'.heap[L s]? = w.heap[L s]?) : FP X μ' L f tm w' where
  nt := hf.nt
  slots s := (hf.slots s).mono hm
  loc s cs hs := by
    obtain ⟨h0, ty, arr, h1, h2⟩ := hf.loc s cs hs
    exact ⟨h0, ty, arr, (hl s cs hs).trans h1, h2.imp fun _ _ => CR.mono hm⟩
  bsep := hf.bsep
  bty := hf.bty
  rty := hf.rty
theorem getD_set (tm : Array Value) (d s : Nat) (u x : Value) (hd : d < tm.size) : (tm.setIfInBounds d u).getD s x = if s = d then u else tm.getD s x := by
  by_cases e : s = d
  · subst e; simp [Array.getD, hd]
  · rw [if_neg e]
    by_cases hs : s < tm.size
    · simp [Array.getD, hs, Array.getElem_setIfInBounds, Ne.symm e]
    · simp [Array.getD, hs]
/-- A slot is given a value that is no block of the call's own. -/
theorem FP.put (hf : FP X μ L f tm w) {d : Nat} {u : Value} {v : V} (hd : d < tm.size) (hb : X.I.env.lookup d ≠ some d) (hv : SRs μ L d u v) (hl : Eng.loc v = none)
    (hr : ∀ r o, v = .lref r o → X.I.env.lookup d = some r ∧ ∃ cs, f.get r = .box cs) : FP X μ L (f.set d v) (tm.setIfInBounds d u) w := by
  have hnb : ∀ cs, f.get d ≠ .box cs := fun cs e => hb (hf.bty d cs e)
  have hvb : ∀ cs, v ≠ .box cs := fun cs e => by subst e; simp [Eng.loc] at hl
  refine ⟨by simp [hf.nt], fun s => ?_, fun s cs hs => ?_, fun s t cs ds hst hs ht => ?_, fun s cs hs => ?_, fun s r o hs => ?_⟩
  · rw [Fr.get_set, getD_set _ _ _ _ _ hd]
    by_cases e : s = d
    · rw [if_pos e, if_pos e]; subst e; exact hv
    · rw [if_neg e, if_neg e]; exact hf.slots s
  · rw [Fr.get_set] at hs
    by_cases e : s = d
    · rw [if_pos e, hl] at hs; cases hs
    · rw [if_neg e] at hs; exact hf.loc s cs hs
  · rw [Fr.get_set] at hs ht
    by_cases e : s = d
    · rw [if_pos e] at hs; exact absurd hs (hvb cs)
    · rw [if_neg e] at hs
      by_cases e' : t = d
      · rw [if_pos e', hl] at ht; cases ht
      · rw [if_neg e'] at ht; exact hf.bsep s t cs ds hst hs ht
  · rw [Fr.get_set] at hs
    by_cases e : s = d
    · rw [if_pos e] at hs; exact absurd hs (hvb cs)
    · rw [if_neg e] at hs; exact hf.bty s cs hs
  · rw [Fr.get_set] at hs
    have key : X.I.env.lookup s = some r ∧ ∃ cs, f.get r = .box cs := by
      by_cases e : s = d
      · rw [if_pos e] at hs; subst e; exact hr r o hs
      · rw [if_neg e] at hs; exact hf.rty s r o hs
    obtain ⟨k1, cs, k2⟩ := key
    refine ⟨k1, cs, ?_⟩
    have hne : r ≠ d := fun e => by subst e; exact hnb cs k2
    rw [Fr.get_set_ne _ _ hne]
    exact k2
theorem INV.put (hi : INV X μ L f tm h w) {d : Nat} {u : Value} {v : V} (hd : d < tm.size) (hb : X.I.env.lookup d ≠ some d) (hv : SRs μ L d u v) (hl : loc v = none)
    (hr : ∀ r o, v = .lref r o → X.I.env.lookup d = some r ∧ ∃ cs, f.get r = .box cs) : INV X μ L (f.set d v) (tm.setIfInBounds d u) h w :=
  ⟨hi.hp, hi.fp.put hd hb hv hl hr, fun s cs id p ty ds hs => by
    rw [Fr.get_set] at hs
    by_cases e : s = d
    · rw [if_pos e, hl] at hs; cases hs
    · rw [if_neg e] at hs; exact hi.sep s cs id p ty ds hs⟩
/-- The plain case: a value. -/
theorem INV.putV (hi : INV X μ L f tm h w) {d : Nat} {u : Value} {g : Bool} {cs : List C} (hd : d < tm.size) (hb : X.I.env.lookup d ≠ some d) (hv : VG μ g cs u) : INV X μ L (f.set d (.val g cs)) (tm.setIfInBounds d u) h w :=
  hi.put hd hb hv rfl (fun r o e => by cases e)
theorem INV.putAny (hi : INV X μ L f tm h w) {d : Nat} (u : Value) (hd : d < tm.size) (hb : X.I.env.lookup d ≠ some d) : INV X μ L (f.set d .any) (tm.setIfInBounds d u) h w :=
  hi.put hd hb trivial rfl (fun r o e => by cases e)
/-! ### Worlds -/
theorem alloc_old (w : World) (o : Obj) {k : Nat} (hk : k < w.heap.size) : (w.alloc o).heap[k]? = w.heap[k]? := by
  show (w.heap.push o)[k]? = _
  rw [Array.getElem?_push, if_neg (by omega)]
theorem alloc_new (w : World) (o : Obj) : (w.alloc o).heap[w.heap.size]? = some o := by
  show (w.heap.push o)[w.heap.size]? = _
  simp
theorem alloc_size (w : World) (o : Obj) : (w.alloc o).heap.size = w.heap.size + 1 := by
  show (w.heap.push o).size = _
  simp
theorem lt_of_heap {w : World} {k : Nat} {o : Obj} (h : w.heap[k]? = some o) : k < w.heap.size := (Array.getElem?_eq_some_iff.1 h).1
/-- Nothing that is there is turned; perhaps new blocks. -/
structure Only (w w' : World) (S : Nat → Prop) : Prop where
  os : w'.os = w.os
  tape : w'.tape = w.tape
  out : w'.output = w.output
  size : w.heap.size ≤ w'.heap.size
  same : ∀ k, k < w.heap.size → ¬ S k → w'.heap[k]? = w.heap[k]?
theorem Only.refl (w : World) (S : Nat → Prop) : Only w w S := ⟨rfl, rfl, rfl, Nat.le_refl _, fun _ _ _ => rfl⟩
theorem Only.alloc (w : World) (o : Obj) (S : Nat → Prop) : Only w (w.alloc o) S := ⟨rfl, rfl, rfl, by rw [alloc_size]; omega, fun k hk _ => alloc_old w o hk⟩
theorem Only.drew (w : World) (S : Nat → Prop) : Only w w.drew S := ⟨rfl, rfl, rfl, Nat.le_refl _, fun _ _ _ => rfl⟩
theorem Only.trans {w1 w2 w3 : World} {S : Nat → Prop} (h : Only w1 w2 S) (h' : Only w2 w3 S) : Only w1 w3 S :=
  ⟨h'.os.trans h.os, h'.tape.trans h.tape, h'.out.trans h.out, Nat.le_trans h.size h'.size, fun k hk hs => (h'.same k (Nat.lt_of_lt_of_le hk h.size) hs).trans (h.same k hk hs)⟩
theorem cell_same {w w' : World} {a : Addr} (h : w'.heap[a.block]? = w.heap[a.block]?) : w'.cell? a = w.cell? a := by simp [World.cell?, h]

/-- The heap is as it was; the world's own blocks that are asked for are, too. -/
theorem HP.world (hh : HP X μ h w) {S : Nat → Prop} (ho : Only w w' S) (hs : ∀ k, S k → X.w0.heap.size ≤ k ∧ ∀ id p ty cs, μ id = some p → h[id]? = some (.own ty cs) → p.blk ≠ k) : HP X μ h w' where
  hos := ho.os.trans hh.hos
  htape := ho.tape.trans hh.htape
  hout := ho.out.trans hh.hout
  hsz := Nat.le_trans hh.hsz ho.size
  hb := hh.hb
  keep k hk hB := (ho.same k (Nat.lt_of_lt_of_le hk hh.hsz) (fun e => by have := (hs k e).1; omega)).trans (hh.keep k hk hB)
  dom := hh.dom
  own id p ty cs h1 h2 := by
    obtain ⟨a, b, arr, c, d, rest, e⟩ := hh.own id p ty cs h1 h2
    exact ⟨a, b, arr, (ho.same _ (lt_of_heap c) (fun e' => (hs _ e').2 id p ty cs h1 h2 rfl)).trans c, d, rest, e⟩
  ro id p cs h1 h2 := by
    obtain ⟨a, b⟩ := hh.ro id p cs h1 h2
    refine ⟨a, fun i c hc => ?_⟩
    obtain ⟨u, hu, hr⟩ := b i c hc
    refine ⟨u, ?_, hr⟩
    rw [cell_same (w := w), hu]
    refine ho.same _ ?_ (fun e => ?_)
    · have := hh.hb; have := hh.hsz; show p.blk < _; omega
    · have := (hs _ e).1; have h2 := hh.hb; dsimp only at this; omega
  ex := hh.ex
  ownb := hh.ownb
  rob := hh.rob
theorem INV.worldOnly (hi : INV X μ L f tm h w) (ho : Only w w' (fun _ => False)) : INV X μ L f tm h w' :=
  ⟨hi.hp.world ho (fun _ e => e.elim), hi.fp.world (MuLe.refl _) (fun s cs hs => by
    obtain ⟨_, ty, arr, h1, _⟩ := hi.fp.loc s cs hs
    exact ho.same _ (lt_of_heap h1) id), hi.sep⟩
/-- A new block of the call's own, known by a slot. -/
theorem INV.newLoc (hi : INV X μ L f tm h w) {d : Nat} {v : V} {cs : List C} {arr : Array Value} {ty : Nat} {u : Value} (hd : d < tm.size) (hnb : ∀ ds, f.get d ≠ .box ds) (hty : (∃ ds, v = .box ds) → X.I.env.lookup d = some d) (hl : loc v = some cs)
    (hv : ∀ L', L' d = w.heap.size → SRs μ L' d u v) (hc : All2 (CR μ) cs arr.toList) :
    INV X μ (fun s => if s = d then w.heap.size else L s) (f.set d v) (tm.setIfInBounds d u) h (w.alloc (.cells arr ty (0, 0))) := by
  have ho := Only.alloc w (.cells arr ty (0, 0)) (fun _ => False)
  have hi' := hi.worldOnly ho
  have hvr : ∀ r o, v ≠ .lref r o := fun r o e => by subst e; simp [loc] at hl
  have hold : ∀ s ds, loc (f.get s) = some ds → L s < w.heap.size := fun s ds hs => by
    obtain ⟨_, ty, arr, h1, _⟩ := hi.fp.loc s ds hs
    exact lt_of_heap h1
  refine ⟨hi'.hp, ⟨by simp [hi.fp.nt], fun s => ?_, fun s ds hs => ?_, fun s t ds es hst hs ht => ?_, fun s ds hs => ?_, fun s r o hs => ?_⟩, fun s ds id p ty' es hs h1 h2 => ?_⟩
  · rw [Fr.get_set, getD_set _ _ _ _ _ hd]
    by_cases e : s = d
    · rw [if_pos e, if_pos e]; subst e; exact hv _ (if_pos rfl)
    · rw [if_neg e, if_neg e]
      have := hi.fp.slots s
      revert this
      cases hg : f.get s with
      | any => exact fun _ => trivial
      | val g cs => exact id
      | tup vs => exact id
      | box cs => intro k; simp only [SRs, if_neg e] at *; exact k
      | lsl cs n e2 => intro k; simp only [SRs, if_neg e] at *; exact k
      | lref r o =>
        intro k
        obtain ⟨_, ds, k2⟩ := hi.fp.rty s r o hg
        have : r ≠ d := fun e => by subst e; exact hnb ds k2
        simp only [SRs, if_neg this] at *
        exact k
  · rw [Fr.get_set] at hs
    by_cases e : s = d
    · rw [if_pos e, hl] at hs
      cases hs
      simp only [if_pos e]
      exact ⟨hi.hp.hsz, ty, arr, alloc_new w _, hc⟩
    · rw [if_neg e] at hs
      simp only [if_neg e]
      exact hi'.fp.loc s ds hs
  · rw [Fr.get_set] at hs ht
    by_cases e : s = d
    · have e' : t ≠ d := fun e' => hst (e.trans e'.symm)
      rw [if_neg e'] at ht
      simp only [if_pos e, if_neg e']
      have := hold t es ht
      omega
    · rw [if_neg e] at hs
      simp only [if_neg e]
      by_cases e' : t = d
      · simp only [if_pos e']
        have := hold s ds (by rw [hs]; rfl)
        omega
      · rw [if_neg e'] at ht
        simp only [if_neg e']
        exact hi.fp.bsep s t ds es hst hs ht
  · rw [Fr.get_set] at hs
    by_cases e : s = d
    · rw [if_pos e] at hs; subst e; exact hty ⟨ds, hs⟩
    · rw [if_neg e] at hs; exact hi.fp.bty s ds hs
  · rw [Fr.get_set] at hs
    by_cases e : s = d
    · rw [if_pos e] at hs; exact absurd hs (hvr r o)
    · rw [if_neg e] at hs
      obtain ⟨k1, ds, k2⟩ := hi.fp.rty s r o hs
      refine ⟨k1, ds, ?_⟩
      have hne : r ≠ d := fun e => by subst e; exact hnb ds k2
      rw [Fr.get_set_ne _ _ hne]
      exact k2
  · rw [Fr.get_set] at hs
    obtain ⟨_, _, arr2, h3, _⟩ := hi.hp.own id p ty' es h1 h2
    have h4 := lt_of_heap h3
    by_cases e : s = d
    · simp only [if_pos e]; omega
    · rw [if_neg e] at hs
      simp only [if_neg e]
      exact hi.sep s ds id p ty' es hs h1 h2
/-- A new block, known by a number. -/
theorem INV.newId (hi : INV X μ L f tm h w) {cs : List C} {arr : Array Value} {ty : Nat} {rest : List Value} (hc : All2 (CR μ) cs (arr.toList.take cs.length)) (hr : arr.toList = arr.toList.take cs.length ++ rest) :
    INV X (fun id => if id = h.length then some ⟨w.heap.size, 0, arr.size⟩ else μ id) L f tm (h ++ [.own ty cs]) (w.alloc (.cells arr ty (0, 0))) ∧ MuLe μ (fun id => if id = h.length then some ⟨w.heap.size, 0, arr.size⟩ else μ id) := by
  have hm : MuLe μ (fun id => if id = h.length then some ⟨w.heap.size, 0, arr.size⟩ else μ id) := fun id p e => by
    have := hi.hp.dom id p e
    simp only [if_neg (show id ≠ h.length by omega)]
    exact e
  have hi' := hi.worldOnly (Only.alloc w (.cells arr ty (0, 0)) (fun _ => False))
  have hg : ∀ id, id ≠ h.length → (h ++ [Blk.own ty cs])[id]? = h[id]? ∨ (h ++ [Blk.own ty cs])[id]? = none := fun id e => by
    by_cases hlt : id < h.length
    · left; rw [List.getElem?_append_left hlt]
    · right; rw [List.getElem?_eq_none]; simp; omega
  have hgn : (h ++ [Blk.own ty cs])[h.length]? = some (.own ty cs) := by simp
  have hlt : ∀ id p ty cs, μ id = some p → h[id]? = some (.own ty cs) → p.blk < w.heap.size := fun id p ty cs h1 h2 => by
    obtain ⟨_, _, arr, h3, _⟩ := hi.hp.own id p ty cs h1 h2
    exact lt_of_heap h3
  refine ⟨⟨⟨hi'.hp.hos, hi'.hp.htape, hi'.hp.hout, hi'.hp.hsz, hi'.hp.hb, hi'.hp.keep, ?_, ?_, ?_, ?_, ?_, hi'.hp.rob⟩, hi'.fp.world hm (fun _ _ _ => rfl), ?_⟩, hm⟩
  · intro id p e
    by_cases e1 : id = h.length
    · simp [e1]
    · simp only [if_neg e1] at e; have := hi.hp.dom id p e; simp; omega
  · intro id p ty' cs' e1 e2
    by_cases e : id = h.length
    · subst e
      simp only [if_pos] at e1
      rw [hgn] at e2
      cases e1; cases e2
      exact ⟨rfl, Nat.le_trans hi.hp.hb hi.hp.hsz, arr, alloc_new w _, rfl, rest, hc.imp fun _ _ => CR.mono hm, hr⟩
    · simp only [if_neg e] at e1
      rcases hg id e with k | k
      · rw [k] at e2
        obtain ⟨a, b, arr2, c, d, rest2, q, q2⟩ := hi'.hp.own id p ty' cs' e1 e2
        exact ⟨a, b, arr2, c, d, rest2, q.imp fun _ _ => CR.mono hm, q2⟩
      · rw [k] at e2; cases e2
  · intro id p cs' e1 e2
    by_cases e : id = h.length
    · subst e; rw [hgn] at e2; cases e2
    · simp only [if_neg e] at e1
      rcases hg id e with k | k
      · rw [k] at e2
        obtain ⟨a, b⟩ := hi'.hp.ro id p cs' e1 e2
        exact ⟨a, fun i c hc => let ⟨u, hu, hr⟩ := b i c hc; ⟨u, hu, hr.mono hm⟩⟩
      · rw [k] at e2; cases e2
  · intro id id' p p' t t' c c' hne e1 e2 e3 e4
    by_cases e : id = h.length
    · have e' : id' ≠ h.length := fun k => hne (e.trans k.symm)
      simp only [if_pos e] at e1; simp only [if_neg e'] at e2
      cases e1
      rcases hg id' e' with k | k
      · rw [k] at e4; have := hlt _ _ _ _ e2 e4; show w.heap.size ≠ p'.blk; omega
      · rw [k] at e4; cases e4
    · simp only [if_neg e] at e1
      rcases hg id e with k | k
      · rw [k] at e3
        by_cases e' : id' = h.length
        · simp only [if_pos e'] at e2; cases e2
          have := hlt _ _ _ _ e1 e3; show p.blk ≠ w.heap.size; omega
        · simp only [if_neg e'] at e2
          rcases hg id' e' with k' | k'
          · rw [k'] at e4; exact hi.hp.ex id id' p p' t t' c c' hne e1 e2 e3 e4
          · rw [k'] at e4; cases e4
      · rw [k] at e3; cases e3
  · intro id p t c e1 e2
    by_cases e : id = h.length
    · simp only [if_pos e] at e1; cases e1; exact .inr hi.hp.hsz
    · simp only [if_neg e] at e1
      rcases hg id e with k | k
      · rw [k] at e2; exact hi.hp.ownb id p t c e1 e2
      · rw [k] at e2; cases e2
  · intro s cs' id p t c hs e1 e2
    by_cases e : id = h.length
    · simp only [if_pos e] at e1; cases e1
      obtain ⟨_, ty2, arr2, h3, _⟩ := hi.fp.loc s cs' hs
      have := lt_of_heap h3
      show w.heap.size ≠ L s
      omega
    · simp only [if_neg e] at e1
      rcases hg id e with k | k
      · rw [k] at e2; exact hi.sep s cs' id p t c hs e1 e2
      · rw [k] at e2; cases e2
theorem Only.setRow (w : World) (g : Nat) (cs : Array Value) : Only w (w.setRow g cs) (fun k => k = g) := ⟨rfl, rfl, rfl, by simp, fun k _ hk => setRow_other w g k cs hk⟩
/-- A store into a variable of the call's own. -/
theorem INV.setBox (hi : INV X μ L f tm h w) {r ty : Nat} {cs cs' : List C} {arr arr' : Array Value} (hr : f.get r = .box cs) (ha : w.heap[L r]? = some (.cells arr ty (0, 0))) (hc : All2 (CR μ) cs' arr'.toList) :
    INV X μ L (f.set r (.box cs')) tm h (w.setRow (L r) arr') := by
  have hlr : loc (f.get r) = some cs := by rw [hr]; rfl
  have ho := Only.setRow w (L r) arr'
  have h0 := (hi.fp.loc r cs hlr).1
  have hgne : ∀ s, s ≠ r → Fr.get (f.set r (.box cs')) s = f.get s := fun s e => Fr.get_set_ne _ _ e
  have hgr : Fr.get (f.set r (.box cs')) r = .box cs' := Fr.get_set_same _ _ _
  refine ⟨hi.hp.world ho (fun k e => ⟨e ▸ h0, fun id p ty cs2 h1 h2 => e ▸ hi.sep r cs id p ty cs2 hlr h1 h2⟩), ⟨hi.fp.nt, fun s => ?_, fun s ds hs => ?_, fun s t ds es hst hs ht => ?_, fun s ds hs => ?_, fun s q o hs => ?_⟩, fun s ds id p ty' es hs h1 h2 => ?_⟩
  · by_cases e : s = r
    · subst e; rw [hgr]; have := hi.fp.slots s; rw [hr] at this; exact this
    · rw [hgne s e]; exact hi.fp.slots s
  · by_cases e : s = r
    · subst e
      rw [hgr] at hs
      cases hs
      exact ⟨h0, ty, arr', setRow_heap w _ _ _ _ _ ha, hc⟩
    · rw [hgne s e] at hs
      obtain ⟨k0, ty2, arr2, k1, k2⟩ := hi.fp.loc s ds hs
      exact ⟨k0, ty2, arr2, (setRow_other w _ _ _ (hi.fp.bsep r s cs ds (Ne.symm e) hr hs)).trans k1, k2⟩
  · by_cases e : s = r
    · subst e
      rw [hgne t (Ne.symm hst)] at ht
      exact hi.fp.bsep s t cs es hst hr ht
    · rw [hgne s e] at hs
      by_cases e' : t = r
      · subst e'; exact hi.fp.bsep s t ds cs hst hs hlr
      · rw [hgne t e'] at ht; exact hi.fp.bsep s t ds es hst hs ht
  · by_cases e : s = r
    · subst e; exact hi.fp.bty s cs hr
    · rw [hgne s e] at hs; exact hi.fp.bty s ds hs
  · have e : s ≠ r := fun e => by subst e; rw [hgr] at hs; cases hs
    rw [hgne s e] at hs
    obtain ⟨k1, ds, k2⟩ := hi.fp.rty s q o hs
    by_cases e' : q = r
    · subst e'; exact ⟨k1, cs', hgr⟩
    · exact ⟨k1, ds, by rw [hgne q e']; exact k2⟩
  · by_cases e : s = r
    · subst e; exact hi.sep s cs id p ty' es hlr h1 h2
    · rw [hgne s e] at hs; exact hi.sep s ds id p ty' es hs h1 h2
theorem set_get {h : H} {id : Nat} {b : Blk} (hlt : id < h.length) : (h.set id b)[id]? = some b := by simp [hlt]
theorem set_get_ne {h : H} {id j : Nat} {b : Blk} (hne : j ≠ id) : (h.set id b)[j]? = h[j]? := by rw [List.getElem?_set]; rw [if_neg (Ne.symm hne)]
/-- A store into an own block; or it is known to hold more. -/
theorem INV.setOwn (hi : INV X μ L f tm h w) {id ty : Nat} {p : Pl} {cs cs' : List C} {arr arr' : Array Value} {rest : List Value} (hm : μ id = some p) (hg : h[id]? = some (.own ty cs)) (ha : w.heap[p.blk]? = some (.cells arr ty (0, 0)))
    (hsz : arr'.size = arr.size) (hc : All2 (CR μ) cs' (arr'.toList.take cs'.length)) (hr : arr'.toList = arr'.toList.take cs'.length ++ rest) : INV X μ L f tm (h.set id (.own ty cs')) (w.setRow p.blk arr') := by
  have hlt : id < h.length := hi.hp.dom id p hm
  have ho := Only.setRow w p.blk arr'
  have hne : ∀ j q t c, j ≠ id → μ j = some q → (h.set id (.own ty cs'))[j]? = some (.own t c) → q.blk ≠ p.blk := fun j q t c e h1 h2 => by
    rw [set_get_ne e] at h2
    exact hi.hp.ex j id q p t ty c cs e h1 hm h2 hg
  have hpb : X.base ≤ p.blk := (hi.hp.own id p ty cs hm hg).2.1
  have hh := hi.hp
  refine ⟨⟨hh.hos, hh.htape, hh.hout, by simpa using hh.hsz, hh.hb, fun k hk hB => ?_, fun j q h1 => by simpa using hh.dom j q h1, fun j q t c h1 h2 => ?_, fun j q c h1 h2 => ?_, fun j j' q q' t t' c c' e h1 h2 h3 h4 => ?_, fun j q t c h1 h2 => ?_, hh.rob⟩, ?_, ?_⟩
  · have : k ≠ p.blk := fun e => by
      rcases hh.ownb id p ty cs hm hg with k1 | k1
      · exact hB (e ▸ k1)
      · omega
    exact (setRow_other w _ _ _ this).trans (hh.keep k hk hB)
  · by_cases e : j = id
    · subst e
      rw [set_get hlt] at h2
      rw [hm] at h1
      cases h1; cases h2
      obtain ⟨a, b, arr2, c2, d, _⟩ := hh.own j p ty cs hm hg
      rw [ha] at c2
      cases c2
      exact ⟨a, b, arr', setRow_heap w _ _ _ _ _ ha, hsz.trans d, rest, hc, hr⟩
    · have k := hne j q t c e h1 h2
      rw [set_get_ne e] at h2
      obtain ⟨a, b, arr2, c2, d⟩ := hh.own j q t c h1 h2
      exact ⟨a, b, arr2, (setRow_other w _ _ _ k).trans c2, d⟩
  · by_cases e : j = id
    · subst e; rw [set_get hlt] at h2; cases h2
    · rw [set_get_ne e] at h2
      obtain ⟨a, b⟩ := hh.ro j q c h1 h2
      refine ⟨a, fun i x hx => ?_⟩
      obtain ⟨u, hu, hr⟩ := b i x hx
      exact ⟨u, (cell_same (a := ⟨q.blk, q.off + i, none⟩) (setRow_other w _ _ _ (by show q.blk ≠ p.blk; omega))).trans hu, hr⟩
  · by_cases e1 : j = id
    · subst e1
      have e2 : j' ≠ j := Ne.symm e
      have := hne j' q' t' c' e2 h2 h4
      rw [hm] at h1; cases h1
      exact Ne.symm this
    · by_cases e2 : j' = id
      · subst e2
        have := hne j q t c e1 h1 h3
        rw [hm] at h2; cases h2
        exact this
      · rw [set_get_ne e1] at h3; rw [set_get_ne e2] at h4
        exact hh.ex j j' q q' t t' c c' e h1 h2 h3 h4
  · by_cases e : j = id
    · subst e; rw [hm] at h1; cases h1; exact hh.ownb j p ty cs hm hg
    · rw [set_get_ne e] at h2; exact hh.ownb j q t c h1 h2
  · exact hi.fp.world (MuLe.refl _) (fun s ds hs => setRow_other w _ _ _ (fun e => hi.sep s ds id p ty cs hs hm hg e.symm))
  · intro s ds j q t c hs h1 h2
    by_cases e : j = id
    · subst e; rw [hm] at h1; cases h1; exact hi.sep s ds j p ty cs hs hm hg
    · rw [set_get_ne e] at h2; exact hi.sep s ds j q t c hs h1 h2
/-- A block is given up. -/
theorem INV.kill (hi : INV X μ L f tm h w) (id : Nat) : INV X μ L f tm (h.set id .dead) w := by
  have hh := hi.hp
  have hold : ∀ {j : Nat} {b : Blk}, (h.set id .dead)[j]? = some b → b ≠ .dead → h[j]? = some b := fun {j b} e hb => by
    by_cases e1 : j = id
    · subst e1
      by_cases hlt : j < h.length
      · rw [set_get hlt] at e; cases e; exact absurd rfl hb
      · rw [List.getElem?_eq_none (by simp; omega)] at e; cases e
    · rwa [set_get_ne e1] at e
  exact ⟨⟨hh.hos, hh.htape, hh.hout, hh.hsz, hh.hb, hh.keep, fun j q h1 => by simpa using hh.dom j q h1, fun j q t c h1 h2 => hh.own j q t c h1 (hold h2 (by simp)), fun j q c h1 h2 => hh.ro j q c h1 (hold h2 (by simp)),
    fun j j' q q' t t' c c' e h1 h2 h3 h4 => hh.ex j j' q q' t t' c c' e h1 h2 (hold h3 (by simp)) (hold h4 (by simp)), fun j q t c h1 h2 => hh.ownb j q t c h1 (hold h2 (by simp)), hh.rob⟩, hi.fp, fun s ds j q t c hs h1 h2 => hi.sep s ds j q t c hs h1 (hold h2 (by simp))⟩
/-- A block goes by another number. -/
theorem INV.rename (hi : INV X μ L f tm h w) {id ty : Nat} {p : Pl} {cs : List C} (hm : μ id = some p) (hg : h[id]? = some (.own ty cs)) :
    INV X (fun j => if j = h.length then some p else μ j) L f tm ((h.set id .dead) ++ [.own ty cs]) w ∧ MuLe μ (fun j => if j = h.length then some p else μ j) := by
  have hh := hi.hp
  have hlt : id < h.length := hh.dom id p hm
  have hml : MuLe μ (fun j => if j = h.length then some p else μ j) := fun j q e => by
    have := hh.dom j q e
    simp only [if_neg (show j ≠ h.length by omega)]
    exact e
  have hnew : ((h.set id .dead) ++ [Blk.own ty cs])[h.length]? = some (.own ty cs) := by
    rw [List.getElem?_append_right (by simp)]; simp
  have hold : ∀ {j : Nat} {b : Blk}, j ≠ h.length → ((h.set id .dead) ++ [Blk.own ty cs])[j]? = some b → b ≠ .dead → h[j]? = some b ∧ j ≠ id := fun {j b} e0 e hb => by
    by_cases hl : j < h.length
    · rw [List.getElem?_append_left (by simpa using hl)] at e
      by_cases e1 : j = id
      · subst e1; rw [set_get hlt] at e; cases e; exact absurd rfl hb
      · rw [set_get_ne e1] at e; exact ⟨e, e1⟩
    · rw [List.getElem?_eq_none (by simp; omega)] at e; cases e
  refine ⟨⟨⟨hh.hos, hh.htape, hh.hout, hh.hsz, hh.hb, hh.keep, fun j q h1 => ?_, fun j q t c h1 h2 => ?_, fun j q c h1 h2 => ?_, fun j j' q q' t t' c c' e h1 h2 h3 h4 => ?_, fun j q t c h1 h2 => ?_, hh.rob⟩, hi.fp.world hml (fun _ _ _ => rfl), fun s ds j q t c hs h1 h2 => ?_⟩, hml⟩
  · by_cases e : j = h.length
    · simp [e]
    · simp only [if_neg e] at h1; have := hh.dom j q h1; simp; omega
  · by_cases e : j = h.length
    · subst e
      rw [hnew] at h2
      simp only [if_pos] at h1
      cases h1; cases h2
      obtain ⟨a, b, arr, c1, d, rest, r1, r2⟩ := hh.own id p ty cs hm hg
      exact ⟨a, b, arr, c1, d, rest, r1.imp fun _ _ => CR.mono hml, r2⟩
    · simp only [if_neg e] at h1
      obtain ⟨k, _⟩ := hold e h2 (by simp)
      obtain ⟨a, b, arr, c1, d, rest, r1, r2⟩ := hh.own j q t c h1 k
      exact ⟨a, b, arr, c1, d, rest, r1.imp fun _ _ => CR.mono hml, r2⟩
  · by_cases e : j = h.length
    · subst e; rw [hnew] at h2; cases h2
    · simp only [if_neg e] at h1
      obtain ⟨k, _⟩ := hold e h2 (by simp)
      obtain ⟨a, b⟩ := hh.ro j q c h1 k
      exact ⟨a, fun i x hx => let ⟨u, hu, hr⟩ := b i x hx; ⟨u, hu, hr.mono hml⟩⟩
  · by_cases e1 : j = h.length
    · have e2 : j' ≠ h.length := fun k => e (e1.trans k.symm)
      simp only [if_pos e1] at h1; simp only [if_neg e2] at h2
      cases h1
      obtain ⟨k, k2⟩ := hold e2 h4 (by simp)
      exact hh.ex id j' p q' ty t' cs c' (Ne.symm k2) hm h2 hg k
    · simp only [if_neg e1] at h1
      obtain ⟨k, k2⟩ := hold e1 h3 (by simp)
      by_cases e2 : j' = h.length
      · simp only [if_pos e2] at h2
        cases h2
        exact hh.ex j id q p t ty c cs k2 h1 hm k hg
      · simp only [if_neg e2] at h2
        obtain ⟨k', _⟩ := hold e2 h4 (by simp)
        exact hh.ex j j' q q' t t' c c' e h1 h2 k k'
  · by_cases e : j = h.length
    · simp only [if_pos e] at h1; cases h1; exact hh.ownb id p ty cs hm hg
    · simp only [if_neg e] at h1
      exact hh.ownb j q t c h1 (hold e h2 (by simp)).1
  · by_cases e : j = h.length
    · simp only [if_pos e] at h1; cases h1; exact hi.sep s ds id p ty cs hs hm hg
    · simp only [if_neg e] at h1
      exact hi.sep s ds j q t c hs h1 (hold e h2 (by simp)).1
end
end Go.Eng
