/-
  The engine, part M: what an operation reads and writes; two that don't meet may change places.
-/
import Derived.Test.YtaicdpancmfhnaaEngL
set_option linter.unusedVariables false
set_option linter.unusedSimpArgs false
namespace Go.Eng
/-! ### Frames -/
theorem PT.set_comm : ∀ (k k' : K) (f : PT) (v u : V), k ≠ k' → (f.set k v).set k' u = (f.set k' u).set k v
  | .z, .z, _, _, _, h => absurd rfl h
  | .z, .o k', .leaf, v, u, _ => by simp [PT.set]
  | .z, .i k', .leaf, v, u, _ => by simp [PT.set]
  | .z, .o k', .node _ _ _, v, u, _ => by simp [PT.set]
  | .z, .i k', .node _ _ _, v, u, _ => by simp [PT.set]
  | .o k, .z, .leaf, v, u, _ => by simp [PT.set]
  | .i k, .z, .leaf, v, u, _ => by simp [PT.set]
  | .o k, .z, .node _ _ _, v, u, _ => by simp [PT.set]
  | .i k, .z, .node _ _ _, v, u, _ => by simp [PT.set]
  | .o k, .i k', .leaf, v, u, _ => by simp [PT.set]
  | .i k, .o k', .leaf, v, u, _ => by simp [PT.set]
  | .o k, .i k', .node _ _ _, v, u, _ => by simp [PT.set]
  | .i k, .o k', .node _ _ _, v, u, _ => by simp [PT.set]
  | .o k, .o k', .leaf, v, u, h => by simp [PT.set, PT.set_comm k k' .leaf v u (fun e => h (by rw [e]))]
  | .i k, .i k', .leaf, v, u, h => by simp [PT.set, PT.set_comm k k' .leaf v u (fun e => h (by rw [e]))]
  | .o k, .o k', .node l _ _, v, u, h => by simp [PT.set, PT.set_comm k k' l v u (fun e => h (by rw [e]))]
  | .i k, .i k', .node _ _ r, v, u, h => by simp [PT.set, PT.set_comm k k' r v u (fun e => h (by rw [e]))]
theorem Fr.set_comm (f : Fr) {s t : Nat} (v u : V) (h : s ≠ t) : Fr.set (Fr.set f s v) t u = Fr.set (Fr.set f t u) s v := PT.set_comm _ _ _ _ _ (fun e => h (K.of_inj e))
/-- What an operation changes of the frame: one slot, or none. -/
abbrev Up := Option (Nat × V)
def app (u : Up) (f : Fr) : Fr :=
  match u with
  | none => f
  | some (d, v) => f.set d v
/-- The slots of a mask hold the same. -/
def Agree (m : Nat) (g f : Fr) : Prop := ∀ s, m.testBit s = true → g.get s = f.get s
def InM (m : Nat) (u : Up) : Prop := ∀ d v, u = some (d, v) → m.testBit d = true
theorem Agree.or {m n : Nat} {g f : Fr} (h : Agree (m ||| n) g f) : Agree m g f ∧ Agree n g f :=
  ⟨fun s hs => h s (by simp [Nat.testBit_or, hs]), fun s hs => h s (by simp [Nat.testBit_or, hs])⟩
theorem Agree.bit {t : Nat} {g f : Fr} (h : Agree (2 ^ t) g f) : g.get t = f.get t := h t (by simp [Nat.testBit_two_pow])
theorem ev_agree {g f : Fr} {x : X} (h : Agree (xMask x) g f) : ev g x = ev f x := by
  cases x with
  | s t => simp only [ev, h.bit]
  | c v => rfl
theorem evp_agree {g f : Fr} {x : X} (h : Agree (xMask x) g f) : evp g x = evp f x := by simp only [evp, ev_agree h]
theorem ev1_agree {g f : Fr} {x : X} (h : Agree (xMask x) g f) : ev1 g x = ev1 f x := by simp only [ev1, ev_agree h]
theorem fillC_agree {g f : Fr} : ∀ {ps : List (Nat × Nat × X)} {cs : List C}, Agree (psMask ps) g f → fillC g cs ps = fillC f cs ps
  | [], _, _ => rfl
  | (o, z, x) :: r, cs, h => by
    have h1 := Agree.or h
    simp only [fillC, evp_agree h1.1]
    split
    · split
      · exact fillC_agree h1.2
      · rfl
    · rfl
theorem args_agree {g f : Fr} : ∀ {xs : List X}, Agree (xsMask xs) g f → args g xs = args f xs
  | [], _ => rfl
  | x :: r, h => by
    have h1 := Agree.or h
    simp only [args, evp_agree h1.1, args_agree h1.2]
theorem bound_agree {g f : Fr} {x : Option X} (h : Agree (oxMask x) g f) (n : Nat) : bound g x n = bound f x n := by
  cases x with
  | none => rfl
  | some x => simp only [bound, ev1_agree (show Agree (xMask x) g f from h)]
theorem srcOf_agree {g f : Fr} {x : X} (h : Agree (xMask x) g f) (k : H) (e : Nat) : srcOf g k e x = srcOf f k e x := by
  cases x with
  | s t => simp only [srcOf, h.bit]
  | c v => cases v with
    | val b cs => cases b <;> rcases cs with _ | ⟨c, _ | ⟨_, _⟩⟩ <;> rfl
    | _ => rfl
/-- A mask within another. -/
def Sub (m n : Nat) : Prop := ∀ s, m.testBit s = true → n.testBit s = true
theorem Sub.refl (m : Nat) : Sub m m := fun _ h => h
theorem Sub.l {m n k : Nat} (h : Sub m n) : Sub m (n ||| k) := fun s hs => by simp [Nat.testBit_or, h s hs]
theorem Sub.r {m n k : Nat} (h : Sub m k) : Sub m (n ||| k) := fun s hs => by simp [Nat.testBit_or, h s hs]
theorem Agree.sub {m n : Nat} {g f : Fr} (h : Agree n g f) (hs : Sub m n) : Agree m g f := fun s e => h s (hs s e)
/-- What the run of an operation depends on. -/
def Local (rd wr : Nat) (r : Fr → Option (Fr × H)) : Prop :=
  ∀ f f' h', r f = some (f', h') → ∃ u : Up, InM wr u ∧ f' = app u f ∧ ∀ g, Agree rd g f → r g = some (app u g, h')
theorem inM_one (d : Nat) (v : V) : InM (2 ^ d) (some (d, v)) := fun d' v' e => by cases e; simp [Nat.testBit_two_pow]
theorem inM_none (m : Nat) : InM m none := fun _ _ e => by cases e
theorem ai_local (a : AI) (h : H) : Local a.rd a.wr (fun f => ai a f h) := by
  intro f f' h' hr
  cases a <;> simp only [ai] at hr <;> simp only [AI.rd, AI.wr]
  case call | clv => simp at hr
  case lal d cs =>
    split at hr
    · simp at hr
    · rename_i hn
      simp only [Option.some.injEq, Prod.mk.injEq] at hr
      obtain ⟨rfl, rfl⟩ := hr
      refine ⟨some (d, _), inM_one _ _, rfl, fun g hg => ?_⟩
      simp only [ai, hg.bit, app]
  case lbox d x =>
    split at hr
    · simp at hr
    · rename_i hn
      split at hr
      · rename_i g0 cs he
        simp only [Option.some.injEq, Prod.mk.injEq] at hr
        obtain ⟨rfl, rfl⟩ := hr
        refine ⟨some (d, _), inM_one _ _, rfl, fun g hg => ?_⟩
        obtain ⟨h1, h2⟩ := Agree.or hg
        simp only [ai, h1.bit, evp_agree h2, he, app]
      · simp at hr
  case sth x v n =>
    repeat' split at hr
    all_goals try (simp at hr; done)
    simp only [Option.some.injEq, Prod.mk.injEq] at hr
    obtain ⟨rfl, rfl⟩ := hr
    refine ⟨none, inM_none _, rfl, fun g hg => ?_⟩
    have h1 := Agree.or hg
    simp only [ai, ev1_agree h1.1, evp_agree h1.2, app, *]
    simp [*]
  all_goals
    (repeat' split at hr) <;> first
      | (simp at hr; done)
      | (simp only [Option.some.injEq, Prod.mk.injEq] at hr
         obtain ⟨rfl, rfl⟩ := hr
         refine ⟨some (_, _), inM_one _ _, rfl, fun g hg => ?_⟩
         have a1 : ∀ x, Sub (xMask x) _ → ev g x = ev f x := fun x hx => ev_agree (hg.sub hx)
         have a2 : ∀ x, Sub (xMask x) _ → evp g x = evp f x := fun x hx => evp_agree (hg.sub hx)
         have a3 : ∀ x, Sub (xMask x) _ → ev1 g x = ev1 f x := fun x hx => ev1_agree (hg.sub hx)
         have a4 : ∀ (x : X) (k : H) (e : Nat), Sub (xMask x) _ → srcOf g k e x = srcOf f k e x := fun x k e hx => srcOf_agree (hg.sub hx) k e
         have a5 : ∀ (x : Option X) (n : Nat), Sub (oxMask x) _ → bound g x n = bound f x n := fun x n hx => bound_agree (hg.sub hx) n
         have a6 : ∀ (ps : List (Nat × Nat × X)) (cs : List C), Sub (psMask ps) _ → fillC g cs ps = fillC f cs ps := fun ps cs hx => fillC_agree (hg.sub hx)
         have a7 : ∀ t : Nat, Sub (2 ^ t) _ → g.get t = f.get t := fun t hx => (hg.sub hx).bit
         simp (maxDischargeDepth := 6) only [ai, app, a1, a2, a3, a4, a5, a6, a7, Sub.refl, Sub.l, Sub.r, *]
         try simp [*]
         done)
      | skip
def upD (d : Nat) (v : V) : Up :=
  match d with
  | 0 => none
  | d + 1 => some (d, v)
theorem setD_app (f : Fr) (d : Nat) (v : V) : setD f d v = app (upD d v) f := by cases d <;> rfl
theorem inM_upD (d : Nat) (v : V) : InM (dMask d) (upD d v) := by
  intro d' v' e
  cases d with
  | zero => cases e
  | succ d => cases e; simp [dMask, Nat.testBit_two_pow]
theorem InM.sub {m n : Nat} {u : Up} (h : InM m u) (hs : Sub m n) : InM n u := fun d v e => hs d (h d v e)
section
variable {call : CallF}
theorem doCall_local {d g : Nat} {q : Bool} {vs : List (Bool × List C)} {f f' : Fr} {h h' : H} (hr : doCall call d g q vs f h = some (f', h')) :
    ∃ u : Up, InM (dMask d) u ∧ f' = app u f ∧ ∀ k, doCall call d g q vs k h = some (app u k, h') := by
  unfold doCall at hr
  split at hr
  · rename_i v h1 hc
    split at hr
    · rename_i hq
      simp only [Option.some.injEq, Prod.mk.injEq] at hr
      obtain ⟨rfl, rfl⟩ := hr
      refine ⟨upD d v, inM_upD _ _, setD_app _ _ _, fun k => ?_⟩
      simp only [doCall, hc]
      rw [if_pos hq, setD_app]
    · simp at hr
  · simp at hr
theorem run1_ai (a : AI) (ha : ∀ d g q xs, a ≠ .call d g q xs) (hb : ∀ d q x xs, a ≠ .clv d q x xs) (f : Fr) (h : H) : run1 call a f h = ai a f h := by
  cases a <;> first | rfl | exact absurd rfl (ha _ _ _ _) | exact absurd rfl (hb _ _ _ _)
theorem run1_local (a : AI) (h : H) : Local a.rd a.wr (fun f => run1 call a f h) := by
  by_cases h1 : ∃ d g q xs, a = .call d g q xs
  · obtain ⟨d, g, q, xs, rfl⟩ := h1
    intro f f' h' hr
    simp only [run1] at hr
    split at hr
    · rename_i vs hvs
      obtain ⟨u, k1, k2, k3⟩ := doCall_local hr
      refine ⟨u, k1, k2, fun g hg => ?_⟩
      simp only [run1, args_agree (show Agree (xsMask xs) g f from hg), hvs, k3]
    · simp at hr
  · by_cases h2 : ∃ d q x xs, a = .clv d q x xs
    · obtain ⟨d, q, x, xs, rfl⟩ := h2
      intro f f' h' hr
      simp only [run1] at hr
      split at hr
      · rename_i g vs he hvs
        obtain ⟨u, k1, k2, k3⟩ := doCall_local hr
        refine ⟨u, k1, k2, fun g hg => ?_⟩
        have hh := Agree.or (show Agree (xMask x ||| xsMask xs) g f from hg)
        simp only [run1, args_agree hh.2, ev1_agree hh.1, he, hvs, k3]
      · simp at hr
    · have : ∀ f, run1 call a f h = ai a f h := fun f => run1_ai a (fun d g q xs e => h1 ⟨d, g, q, xs, e⟩) (fun d q x xs e => h2 ⟨d, q, x, xs, e⟩) f h
      simp only [this]
      exact ai_local a h
theorem runI_local (it : IT) (h : H) : Local it.rd it.wr (fun f => runI call it f h) := by
  cases it with
  | i a => exact run1_local a h
  | g s b d a =>
    intro f f' h' hr
    simp only [runI] at hr
    split at hr
    · rename_i b' he
      split at hr
      · rename_i hb
        obtain ⟨u, k1, k2, k3⟩ := run1_local (call := call) a h f f' h' hr
        refine ⟨u, k1.sub (Sub.r (Sub.refl _)), k2, fun g hg => ?_⟩
        have hh := Agree.or (show Agree (2 ^ s ||| a.rd) g f from hg)
        simp only [runI, ev1_agree (show Agree (xMask (.s s)) g f from hh.1), he, if_pos hb]
        exact k3 g hh.2
      · rename_i hb
        simp only [Option.some.injEq, Prod.mk.injEq] at hr
        obtain ⟨rfl, rfl⟩ := hr
        refine ⟨upD d .any, (inM_upD _ _).sub (Sub.l (Sub.refl _)), setD_app _ _ _, fun g hg => ?_⟩
        have hh := Agree.or (show Agree (2 ^ s ||| a.rd) g f from hg)
        simp only [runI, ev1_agree (show Agree (xMask (.s s)) g f from hh.1), he, if_neg hb, setD_app]
    · simp at hr
/-! ### The heap -/
def AI.ref (f : Fr) : AI → Option Nat
  | .ldh _ x _ _ | .sla _ x _ _ => match ev1 f x with
    | some (.ptr id _) => some id
    | _ => none
  | .cbs _ x => match ev1 f x with
    | some (.sl id _ _ _) => some id
    | _ => none
  | _ => none
def IT.ref (f : Fr) : IT → Option Nat
  | .i a => a.ref f
  | .g s w _ a => match ev1 f (.s s) with
    | some (.bool b) => if b = w then a.ref f else none
    | _ => none
theorem cells_same {h k : H} {id : Nat} (e : k[id]? = h[id]?) : k.cells id = h.cells id := by unfold H.cells; rw [e]
theorem slice_same {h k : H} {id o l e : Nat} (he : k[id]? = h[id]?) : k.slice (.sl id o l e) = h.slice (.sl id o l e) := by simp only [H.slice, cells_same he]
theorem bytes_same {h k : H} {c : C} (hc : ∀ id o l e, c = .sl id o l e → k[id]? = h[id]?) : k.bytes c = h.bytes c := by
  cases c with
  | sl id o l e => simp only [H.bytes, slice_same (hc id o l e rfl)]
  | _ => rfl
theorem ai_still (a : AI) (hs : a.sq = false) {f f' : Fr} {h h' : H} (hr : ai a f h = some (f', h')) :
    h' = h ∧ (∀ k : H, (∀ id, a.ref f = some id → k[id]? = h[id]?) → ai a f k = some (f', k)) ∧ ∀ id, a.ref f = some id → id < h.length := by
  cases a <;> simp [AI.sq] at hs <;> simp only [ai] at hr
  case ldh d x n g =>
    split at hr
    · rename_i id o he
      split at hr
      · rename_i cs hc
        split at hr
        · rename_i hl
          simp only [Option.some.injEq, Prod.mk.injEq] at hr
          obtain ⟨rfl, rfl⟩ := hr
          refine ⟨rfl, fun k hk => ?_, fun id' e => ?_⟩
          · have := hk id (by simp [AI.ref, he])
            simp only [ai, he, cells_same this, hc, if_pos hl]
          · simp [AI.ref, he] at e
            subst e
            unfold H.cells at hc
            by_cases hlt : id < h.length
            · exact hlt
            · rw [List.getElem?_eq_none (by omega)] at hc; simp at hc
        · simp at hr
      · simp at hr
    · simp at hr
  case sla d x n g =>
    split at hr
    · rename_i id o he
      split at hr
      · rename_i ty cs hc
        split at hr
        · rename_i hl
          simp only [Option.some.injEq, Prod.mk.injEq] at hr
          obtain ⟨rfl, rfl⟩ := hr
          refine ⟨rfl, fun k hk => ?_, fun id' e => ?_⟩
          · have := hk id (by simp [AI.ref, he])
            simp only [ai, he, this, hc, if_pos hl]
          · simp [AI.ref, he] at e
            subst e
            exact (List.getElem?_eq_some_iff.1 hc).1
        · simp at hr
      · simp at hr
    · simp at hr
  case cbs d x =>
    split at hr
    · rename_i c he
      split at hr
      · rename_i cs hc
        split at hr
        · rename_i b hb
          simp only [Option.some.injEq, Prod.mk.injEq] at hr
          obtain ⟨rfl, rfl⟩ := hr
          refine ⟨rfl, fun k hk => ?_, fun id' e => ?_⟩
          · have : k.bytes c = h.bytes c := bytes_same fun id o l e' e2 => hk id (by subst e2; simp [AI.ref, he])
            simp only [ai, he, this, hc, hb]
          · cases c with
            | sl id o l e' =>
              simp [AI.ref, he] at e
              subst e
              simp only [H.bytes] at hc
              split at hc
              · simp only [H.slice] at hc
                split at hc
                · rename_i cs' hc'
                  unfold H.cells at hc'
                  by_cases hlt : id < h.length
                  · exact hlt
                  · rw [List.getElem?_eq_none (by omega)] at hc'; simp at hc'
                · simp at hc
              · simp at hc
            | _ => simp [AI.ref, he] at e
        · simp at hr
      · simp at hr
    · simp at hr
  all_goals
    (repeat' split at hr) <;> first
      | (simp at hr; done)
      | (simp only [Option.some.injEq, Prod.mk.injEq] at hr
         obtain ⟨rfl, rfl⟩ := hr
         refine ⟨rfl, fun k _ => ?_, fun id e => by simp [AI.ref] at e⟩
         simp only [ai, *]
         try simp [*]
         done)
      | skip
theorem run1_still (a : AI) (hs : a.sq = false) {f f' : Fr} {h h' : H} (hr : run1 call a f h = some (f', h')) :
    h' = h ∧ (∀ k : H, (∀ id, a.ref f = some id → k[id]? = h[id]?) → run1 call a f k = some (f', k)) ∧ ∀ id, a.ref f = some id → id < h.length := by
  have : ∀ k, run1 call a f k = ai a f k := fun k => run1_ai a (fun d g q xs e => by subst e; simp [AI.sq] at hs) (fun d q x xs e => by subst e; simp [AI.sq] at hs) f k
  simp only [this] at hr ⊢
  exact ai_still a hs hr
theorem runI_still (it : IT) (hs : it.ai.sq = false) {f f' : Fr} {h h' : H} (hr : runI call it f h = some (f', h')) :
    h' = h ∧ (∀ k : H, (∀ id, it.ref f = some id → k[id]? = h[id]?) → runI call it f k = some (f', k)) ∧ ∀ id, it.ref f = some id → id < h.length := by
  cases it with
  | i a => exact run1_still a hs hr
  | g s b d a =>
    simp only [runI] at hr
    split at hr
    · rename_i b' he
      split at hr
      · rename_i hb
        obtain ⟨k1, k2, k3⟩ := run1_still a hs hr
        refine ⟨k1, fun k hk => ?_, fun id e => ?_⟩
        · simp only [runI, he, if_pos hb]
          exact k2 k fun id e => hk id (by simp only [IT.ref, he, if_pos hb, e])
        · simp only [IT.ref, he, if_pos hb] at e
          exact k3 id e
      · rename_i hb
        simp only [Option.some.injEq, Prod.mk.injEq] at hr
        obtain ⟨rfl, rfl⟩ := hr
        exact ⟨rfl, fun k _ => by simp only [runI, he, if_neg hb], fun id e => by simp only [IT.ref, he, if_neg hb] at e; cases e⟩
    · simp at hr
theorem ref_hr (a : AI) (h : a.hr = false) (f : Fr) : a.ref f = none := by
  cases a <;> first | rfl | simp [AI.hr] at h
theorem refI_hr (it : IT) (h : it.ai.hr = false) (f : Fr) : it.ref f = none := by
  cases it with
  | i a => exact ref_hr a h f
  | g s b d a =>
    simp only [IT.ref]
    split
    · split
      · exact ref_hr a h f
      · rfl
    · rfl
theorem ref_agree {a : AI} {g f : Fr} (h : Agree a.rd g f) : a.ref g = a.ref f := by
  cases a <;> first | rfl | (simp only [AI.ref, ev1_agree (show Agree (xMask _) g f from h)])
theorem refI_agree {it : IT} {g f : Fr} (h : Agree it.rd g f) : it.ref g = it.ref f := by
  cases it with
  | i a => exact ref_agree h
  | g s b d a =>
    have hh := Agree.or (show Agree (2 ^ s ||| a.rd) g f from h)
    simp only [IT.ref, ev1_agree (show Agree (xMask (.s s)) g f from hh.1), ref_agree hh.2]
theorem run1_grows (a : AI) (hs : a.sq = true) (hw : a.hw = false) {f f' : Fr} {h h' : H} (hr : run1 call a f h = some (f', h')) : ∃ t, h' = h ++ t := by
  have hcall : ∀ {d g : Nat} {vs : List (Bool × List C)}, doCall call d g true vs f h = some (f', h') → ∃ t, h' = h ++ t := by
    intro d g vs hr
    unfold doCall at hr
    split at hr
    · split at hr
      · rename_i hq
        simp only [Option.some.injEq, Prod.mk.injEq] at hr
        obtain ⟨rfl, rfl⟩ := hr
        exact hq rfl
      · simp at hr
    · simp at hr
  cases a <;> simp [AI.sq] at hs <;> simp [AI.hw] at hw
  case call d g q xs =>
    subst hw
    simp only [run1] at hr
    split at hr
    · exact hcall hr
    · simp at hr
  case clv d q x xs =>
    subst hw
    simp only [run1] at hr
    split at hr
    · exact hcall hr
    · simp at hr
  all_goals
    simp only [run1, ai] at hr
    (repeat' split at hr) <;> first
      | (simp at hr; done)
      | (simp only [Option.some.injEq, Prod.mk.injEq] at hr
         obtain ⟨rfl, rfl⟩ := hr
         exact ⟨_, rfl⟩)
theorem runI_grows (it : IT) (hs : it.ai.sq = true) (hw : it.ai.hw = false) {f f' : Fr} {h h' : H} (hr : runI call it f h = some (f', h')) : ∃ t, h' = h ++ t := by
  cases it with
  | i a => exact run1_grows a hs hw hr
  | g s b d a =>
    simp only [runI] at hr
    split at hr
    · split at hr
      · exact run1_grows a hs hw hr
      · simp only [Option.some.injEq, Prod.mk.injEq] at hr
        obtain ⟨rfl, rfl⟩ := hr
        exact ⟨[], by simp⟩
    · simp at hr
/-! ### Changing places -/
theorem disjoint_of {m n : Nat} (h : m &&& n = 0) (s : Nat) (h1 : m.testBit s = true) (h2 : n.testBit s = true) : False := by
  have : (m &&& n).testBit s = true := by rw [Nat.testBit_and, h1, h2]; rfl
  rw [h, Nat.zero_testBit] at this
  cases this
theorem meets_spec {a b : IT} (h : meets a b = false) : (∀ s, a.wr.testBit s = true → b.rd.testBit s = true → False) ∧ (∀ s, a.wr.testBit s = true → b.wr.testBit s = true → False) ∧ (∀ s, b.wr.testBit s = true → a.rd.testBit s = true → False) ∧
    (a.ai.sq = true → b.ai.sq = false) ∧ (a.ai.hw = true → b.ai.hr = false) ∧ (b.ai.hw = true → a.ai.hr = false) := by
  simp only [meets, Bool.or_eq_false_iff, bne_eq_false_iff_eq, Bool.and_eq_false_iff] at h
  obtain ⟨⟨⟨⟨h1, h2⟩, h3⟩, h4⟩, h5⟩ := h
  refine ⟨fun s e1 e2 => disjoint_of h1 s e1 (by rw [Nat.testBit_or, e2]; rfl), fun s e1 e2 => disjoint_of h1 s e1 (by rw [Nat.testBit_or, e2, Bool.or_true]), fun s e1 e2 => disjoint_of h2 s e1 e2, fun e => ?_, fun e => ?_, fun e => ?_⟩
  · rcases h3 with h | h
    · rw [e] at h; cases h
    · exact h
  · rcases h4 with h | h
    · rw [e] at h; cases h
    · exact h
  · rcases h5 with h | h
    · rw [e] at h; cases h
    · exact h
theorem agree_app {m w : Nat} {u : Up} (hu : InM w u) (hd : ∀ s, w.testBit s = true → m.testBit s = true → False) (f : Fr) : Agree m (app u f) f := by
  intro s hs
  match u, hu with
  | none, _ => rfl
  | some (d, v), hu =>
    refine Fr.get_set_ne f v ?_
    intro e
    subst e
    exact hd s (hu s v rfl) hs
theorem Agree.symm {m : Nat} {f g : Fr} (h : Agree m g f) : Agree m f g := fun s hs => (h s hs).symm
theorem app_comm {m n : Nat} {u v : Up} (hu : InM m u) (hv : InM n v) (hd : ∀ s, m.testBit s = true → n.testBit s = true → False) (f : Fr) : app u (app v f) = app v (app u f) := by
  match u, v, hu, hv with
  | none, _, _, _ => rfl
  | some _, none, _, _ => rfl
  | some (d, x), some (e, y), hu, hv =>
    have : e ≠ d := fun k => hd d (hu d x rfl) (by subst k; exact hv e y rfl)
    exact Fr.set_comm f y x this
theorem swap {a b : IT} (hm : meets a b = false) {f f1 f2 : Fr} {h h1 h2 : H} (ha : runI call a f h = some (f1, h1)) (hb : runI call b f1 h1 = some (f2, h2)) (hV : ∀ id, b.ref f = some id → id < h.length) :
    ∃ f1' h1', runI call b f h = some (f1', h1') ∧ runI call a f1' h1' = some (f2, h2) := by
  obtain ⟨m1, m2, m3, m4, m5, m6⟩ := meets_spec hm
  obtain ⟨ua, a1, rfl, a3⟩ := runI_local a h f f1 h1 ha
  obtain ⟨ub, b1, rfl, b3⟩ := runI_local b h1 _ f2 h2 hb
  have hb' : runI call b f h1 = some (app ub f, h2) := b3 f (agree_app a1 m1 f).symm
  have hcomm := app_comm a1 b1 m2 f
  have ha' : runI call a (app ub f) h = some (app ua (app ub f), h1) := a3 _ (agree_app b1 m3 f)
  cases hsa : a.ai.sq with
  | false =>
    obtain ⟨rfl, s2, s3⟩ := runI_still a hsa ha'
    refine ⟨app ub f, h2, hb', ?_⟩
    rw [← hcomm]
    refine s2 h2 fun id hid => ?_
    cases hsb : b.ai.sq with
    | false => rw [(runI_still b hsb hb').1]
    | true =>
      have hra : a.ai.hr = true := by
        cases e : a.ai.hr with
        | true => rfl
        | false => rw [refI_hr a e] at hid; cases hid
      have hwb : b.ai.hw = false := by
        cases e : b.ai.hw with
        | false => rfl
        | true => rw [m6 e] at hra; cases hra
      obtain ⟨t, rfl⟩ := runI_grows b hsb hwb hb'
      rw [List.getElem?_append_left (s3 id hid)]
  | true =>
    have hsb := m4 hsa
    obtain ⟨rfl, s2, s3⟩ := runI_still b hsb hb'
    have hb2 : runI call b f h = some (app ub f, h) := s2 h fun id hid => by
      have hrb : b.ai.hr = true := by
        cases e : b.ai.hr with
        | true => rfl
        | false => rw [refI_hr b e] at hid; cases hid
      have hwa : a.ai.hw = false := by
        cases e : a.ai.hw with
        | false => rfl
        | true => rw [m5 e] at hrb; cases hrb
      obtain ⟨t, rfl⟩ := runI_grows a hsa hwa ha
      rw [List.getElem?_append_left (hV id hid)]
    exact ⟨app ub f, h, hb2, by rw [← hcomm]; exact ha'⟩
theorem swapL {b : IT} {l2 : List IT} {r : Fr × H} : ∀ {l1 : List IT} {f : Fr} {h : H}, (∀ a ∈ l1, meets a b = false) → runL call (l1 ++ b :: l2) f h = some r → (∀ id, b.ref f = some id → id < h.length) →
    ∃ f1 h1, runI call b f h = some (f1, h1) ∧ runL call (l1 ++ l2) f1 h1 = some r
  | [], f, h, _, hr, _ => by
    simp only [List.nil_append, runL] at hr
    split at hr
    · rename_i f1 h1 e; exact ⟨f1, h1, e, hr⟩
    · simp at hr
  | a :: l1, f, h, hm, hr, hV => by
    simp only [List.cons_append, runL] at hr
    split at hr
    · rename_i fa ha e
      have hma := hm a (by simp)
      obtain ⟨m1, m2, m3, m4, m5, m6⟩ := meets_spec hma
      obtain ⟨ua, a1, rfl, a3⟩ := runI_local a h f fa ha e
      have hV' : ∀ id, b.ref (app ua f) = some id → id < ha.length := fun id hid => by
        rw [refI_agree (agree_app a1 m1 f)] at hid
        have h0 := hV id hid
        have hrb : b.ai.hr = true := by
          cases e : b.ai.hr with
          | true => rfl
          | false => rw [refI_hr b e] at hid; cases hid
        cases hsa : a.ai.sq with
        | false => rw [(runI_still a hsa e).1]; exact h0
        | true =>
          have hwa : a.ai.hw = false := by
            cases e : a.ai.hw with
            | false => rfl
            | true => rw [m5 e] at hrb; cases hrb
          obtain ⟨t, rfl⟩ := runI_grows a hsa hwa e
          rw [List.length_append]
          omega
      obtain ⟨f1, h1, k1, k2⟩ := swapL (fun x hx => hm x (by simp [hx])) hr hV'
      obtain ⟨f2, h2, k3, k4⟩ := swap hma e k1 hV
      refine ⟨f2, h2, k3, ?_⟩
      simp only [List.cons_append, runL, k4]
      exact k2
    · simp at hr
end
end Go.Eng
