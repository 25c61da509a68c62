/-
  The engine, part C: what holds behind a run, with as many rounds as it takes.
-/
import Derived.Test.YtaicdpancmfhnaaEngB
import Derived.Test.YtaicdpancmfhnaaEngK
set_option linter.unusedVariables false
set_option linter.unusedSimpArgs false
namespace Go.Eng
/-- What a run answers with fewer rounds it answers with more. -/
def LeC (c c' : CallF) : Prop := ∀ g vs h r, c g vs h = some r → c' g vs h = some r
theorem doCall_mono {c c' : CallF} (hc : LeC c c') {d g : Nat} {q : Bool} {vs : List (Bool × List C)} {f : Fr} {h : H} {r : Fr × H} (hr : doCall c d g q vs f h = some r) : doCall c' d g q vs f h = some r := by
  unfold doCall at *
  cases h1 : c g vs h with
  | none => simp [h1] at hr
  | some p => rw [hc g vs h p h1]; rw [h1] at hr; exact hr
theorem run1_mono {c c' : CallF} (hc : LeC c c') {a : AI} {f : Fr} {h : H} {r : Fr × H} (hr : run1 c a f h = some r) : run1 c' a f h = some r := by
  cases a
  case call d g q xs =>
    simp only [run1] at *
    cases ha : args f xs with
    | none => simp [ha] at hr
    | some vs => simp only [ha] at *; exact doCall_mono hc hr
  case clv d q x xs =>
    simp only [run1] at *
    split at hr
    · exact doCall_mono hc hr
    · simp at hr
  all_goals exact hr
theorem runI_mono {c c' : CallF} (hc : LeC c c') {a : IT} {f : Fr} {h : H} {r : Fr × H} (hr : runI c a f h = some r) : runI c' a f h = some r := by
  unfold runI at *
  split at hr
  · exact run1_mono hc hr
  · split at hr
    · split at hr
      · rename_i hb; simp only [*, if_true]; exact run1_mono hc hr
      · rename_i hb; simp only [*, if_false]
    · simp at hr
theorem runL_mono {c c' : CallF} (hc : LeC c c') : ∀ {l : List IT} {f : Fr} {h : H} {r : Fr × H}, runL c l f h = some r → runL c' l f h = some r
  | [], _, _, _, hr => hr
  | it :: l, f, h, r, hr => by
    simp only [runL] at *
    cases h1 : runI c it f h with
    | none => simp [h1] at hr
    | some p => rw [runI_mono hc h1]; rw [h1] at hr; exact runL_mono hc hr
theorem rounds_mono {b b' : Fr → H → Option (Ex × Fr × H)} (hb : ∀ f h r, b f h = some r → b' f h = some r) (ds : List Nat) : ∀ {n n' : Nat}, n ≤ n' → ∀ {f : Fr} {h : H} {r : Ex × Fr × H}, rounds b ds n f h = some r → rounds b' ds n' f h = some r
  | 0, _, _, _, _, _, hr => by simp [rounds] at hr
  | n + 1, 0, hn, _, _, _, _ => by omega
  | n + 1, n' + 1, hn, f, h, r, hr => by
    simp only [rounds] at *
    cases h1 : b (forget f ds) h with
    | none => simp [h1] at hr
    | some p =>
      rw [hb _ _ _ h1]; rw [h1] at hr
      obtain ⟨e, f', h'⟩ := p
      cases e with
      | norm => exact rounds_mono hb ds (by omega) hr
      | exit id => exact hr
      | ret => exact hr
theorem run_mono {c c' : CallF} (hc : LeC c c') {n n' : Nat} (hn : n ≤ n') : ∀ (a : AC) {f : Fr} {h : H} {r : Ex × Fr × H}, run c n a f h = some r → run c' n' a f h = some r
  | .ops l, f, h, r, hr => by
    simp only [run] at *
    cases h1 : runL c l f h with
    | none => simp [h1] at hr
    | some p => rw [runL_mono hc h1]; rw [h1] at hr; exact hr
  | .seq a b, f, h, r, hr => by
    simp only [run] at *
    cases h1 : run c n a f h with
    | none => simp [h1] at hr
    | some p =>
      rw [run_mono hc hn a h1]; rw [h1] at hr
      obtain ⟨e, f', h'⟩ := p
      cases e with
      | norm => exact run_mono hc hn b hr
      | exit id => exact hr
      | ret => exact hr
  | .cond x a b, f, h, r, hr => by
    simp only [run] at *
    split at hr
    · exact run_mono hc hn a hr
    · exact run_mono hc hn b hr
    · simp at hr
  | .block id b, f, h, r, hr => by
    simp only [run] at *
    cases h1 : run c n b f h with
    | none => simp [h1] at hr
    | some p => rw [run_mono hc hn b h1]; rw [h1] at hr; exact hr
  | .loop ds b, f, h, r, hr => by
    simp only [run] at *
    exact rounds_mono (fun f h r h1 => run_mono hc hn b h1) ds hn hr
  | .exit _, _, _, _, hr => hr
  | .ret, _, _, _, hr => hr
  | .skip, _, _, _, hr => hr
theorem callN_app (cd : Nat → Option AF) (n g : Nat) (vs : List (Bool × List C)) (h : H) : callN cd (n + 1) g vs h = (match cd g with
    | some a => runF (callN cd n) n a vs h
    | none => none) := rfl
theorem runF_mono {c c' : CallF} (hc : LeC c c') {n n' : Nat} (hn : n ≤ n') {a : AF} {vs : List (Bool × List C)} {h : H} {r : V × H} (hr : runF c n a vs h = some r) : runF c' n' a vs h = some r := by
  unfold runF at *
  split
  · rename_i hl
    simp only [hl, if_true] at hr
    cases h1 : run c n a.body (enter0 (PT.full a.dep) 0 vs) h with
    | none => simp [h1] at hr
    | some p => rw [run_mono hc hn a.body h1]; rw [h1] at hr; exact hr
  · rename_i hl; simp [hl] at hr
theorem callN_succ (cd : Nat → Option AF) : ∀ n, LeC (callN cd n) (callN cd (n + 1))
  | 0 => fun _ _ _ _ hr => by simp [callN] at hr
  | n + 1 => fun g vs h r hr => by
    rw [callN_app] at *
    cases hg : cd g with
    | none => simp [hg] at hr
    | some a =>
      simp only [hg] at *
      exact runF_mono (callN_succ cd n) (Nat.le_succ n) hr
theorem callN_mono (cd : Nat → Option AF) {n n' : Nat} (hn : n ≤ n') : LeC (callN cd n) (callN cd n') := by
  induction hn with
  | refl => exact fun _ _ _ _ h => h
  | step _ ih => exact fun g vs h r hr => callN_succ cd _ g vs h r (ih g vs h r hr)

/-! ### What holds behind -/
def WC (cd : Nat → Option AF) (g : Nat) (vs : List (Bool × List C)) (h : H) (Q : V → H → Prop) : Prop :=
  ∃ n v h', callN cd n g vs h = some (v, h') ∧ Q v h'
def W (cd : Nat → Option AF) (a : AC) (f : Fr) (h : H) (Q : Ex → Fr → H → Prop) : Prop :=
  ∃ n e f' h', run (callN cd n) n a f h = some (e, f', h') ∧ Q e f' h'
def WL (cd : Nat → Option AF) (l : List IT) (f : Fr) (h : H) (Q : Fr → H → Prop) : Prop :=
  ∃ n f' h', runL (callN cd n) l f h = some (f', h') ∧ Q f' h'
def onS (o : Option (Fr × H)) (K : Fr → H → Prop) : Prop :=
  match o with
  | some (f, h) => K f h
  | none => False
@[simp] theorem onS_some (f : Fr) (h : H) (K : Fr → H → Prop) : onS (some (f, h)) K = K f h := rfl
@[simp] theorem onS_none (K : Fr → H → Prop) : onS none K = False := rfl
def thn (K : Fr → H → Prop) (Q : Ex → Fr → H → Prop) : Ex → Fr → H → Prop
  | .norm, f, h => K f h
  | e, f, h => Q e f h
def blk (id : Nat) (Q : Ex → Fr → H → Prop) : Ex → Fr → H → Prop
  | .exit i, f, h => if i = id then Q .norm f h else Q (.exit i) f h
  | e, f, h => Q e f h
section
variable {cd : Nat → Option AF} {f : Fr} {h : H}
theorem WC.mono {g : Nat} {vs : List (Bool × List C)} {Q Q' : V → H → Prop} (hw : WC cd g vs h Q) (hq : ∀ v h', Q v h' → Q' v h') : WC cd g vs h Q' :=
  let ⟨n, v, h', hr, q⟩ := hw
  ⟨n, v, h', hr, hq _ _ q⟩
theorem W.mono {a : AC} {Q Q' : Ex → Fr → H → Prop} (hw : W cd a f h Q) (hq : ∀ e f' h', Q e f' h' → Q' e f' h') : W cd a f h Q' :=
  let ⟨n, e, f', h', hr, q⟩ := hw
  ⟨n, e, f', h', hr, hq _ _ _ q⟩
theorem W_ops (l : List IT) (Q : Ex → Fr → H → Prop) : W cd (.ops l) f h Q = WL cd l f h (fun f' h' => Q .norm f' h') := by
  apply propext
  constructor
  · rintro ⟨n, e, f', h', hr, q⟩
    simp only [run] at hr
    cases h1 : runL (callN cd n) l f h with
    | none => simp [h1] at hr
    | some p =>
      obtain ⟨f1, h1'⟩ := p
      simp only [h1, Option.some.injEq, Prod.mk.injEq] at hr
      obtain ⟨rfl, rfl, rfl⟩ := hr
      exact ⟨n, _, _, h1, q⟩
  · rintro ⟨n, f', h', hr, q⟩
    exact ⟨n, _, f', h', by simp only [run, hr], q⟩
theorem W_skip (Q : Ex → Fr → H → Prop) : W cd .skip f h Q = Q .norm f h := by
  apply propext
  exact ⟨fun ⟨n, e, f', h', hr, q⟩ => by simp only [run, Option.some.injEq, Prod.mk.injEq] at hr; obtain ⟨rfl, rfl, rfl⟩ := hr; exact q, fun q => ⟨0, _, _, _, rfl, q⟩⟩
theorem W_ret (Q : Ex → Fr → H → Prop) : W cd .ret f h Q = Q .ret f h := by
  apply propext
  exact ⟨fun ⟨n, e, f', h', hr, q⟩ => by simp only [run, Option.some.injEq, Prod.mk.injEq] at hr; obtain ⟨rfl, rfl, rfl⟩ := hr; exact q, fun q => ⟨0, _, _, _, rfl, q⟩⟩
theorem W_exit (id : Nat) (Q : Ex → Fr → H → Prop) : W cd (.exit id) f h Q = Q (.exit id) f h := by
  apply propext
  exact ⟨fun ⟨n, e, f', h', hr, q⟩ => by simp only [run, Option.some.injEq, Prod.mk.injEq] at hr; obtain ⟨rfl, rfl, rfl⟩ := hr; exact q, fun q => ⟨0, _, _, _, rfl, q⟩⟩
theorem W_seq (a b : AC) (Q : Ex → Fr → H → Prop) : W cd (.seq a b) f h Q = W cd a f h (thn (fun f' h' => W cd b f' h' Q) Q) := by
  apply propext
  constructor
  · rintro ⟨n, e, f', h', hr, q⟩
    simp only [run] at hr
    cases h1 : run (callN cd n) n a f h with
    | none => simp [h1] at hr
    | some p =>
      obtain ⟨e1, f1, h1'⟩ := p
      refine ⟨n, e1, f1, h1', h1, ?_⟩
      cases e1 with
      | norm => exact ⟨n, e, f', h', by simpa [h1] using hr, q⟩
      | exit i => simp [h1] at hr; obtain ⟨rfl, rfl, rfl⟩ := hr; exact q
      | ret => simp [h1] at hr; obtain ⟨rfl, rfl, rfl⟩ := hr; exact q
  · rintro ⟨n, e, f1, h1', h1, q⟩
    cases e with
    | norm =>
      obtain ⟨m, e, f', h', h2, q⟩ := q
      refine ⟨max n m, e, f', h', ?_, q⟩
      simp only [run]
      rw [run_mono (callN_mono cd (Nat.le_max_left n m)) (Nat.le_max_left n m) a h1]
      exact run_mono (callN_mono cd (Nat.le_max_right n m)) (Nat.le_max_right n m) b h2
    | exit i => exact ⟨n, _, _, _, by simp only [run, h1], q⟩
    | ret => exact ⟨n, _, _, _, by simp only [run, h1], q⟩
def onB (c : Option C) (A B : Prop) : Prop :=
  match c with
  | some (.bool true) => A
  | some (.bool false) => B
  | _ => False
theorem W_cond (x : X) (a b : AC) (Q : Ex → Fr → H → Prop) : W cd (.cond x a b) f h Q = onB (ev1 f x) (W cd a f h Q) (W cd b f h Q) := by
  apply propext
  unfold W
  constructor
  · rintro ⟨n, e, f', h', hr, q⟩
    simp only [run] at hr
    split at hr
    · rename_i hx; simp only [hx, onB]; exact ⟨n, e, f', h', hr, q⟩
    · rename_i hx; simp only [hx, onB]; exact ⟨n, e, f', h', hr, q⟩
    · simp at hr
  · intro hw
    unfold onB at hw
    split at hw
    · rename_i hx; obtain ⟨n, e, f', h', hr, q⟩ := hw; exact ⟨n, e, f', h', by simp only [run, hx]; exact hr, q⟩
    · rename_i hx; obtain ⟨n, e, f', h', hr, q⟩ := hw; exact ⟨n, e, f', h', by simp only [run, hx]; exact hr, q⟩
    · exact hw.elim
theorem W_block (id : Nat) (b : AC) (Q : Ex → Fr → H → Prop) : W cd (.block id b) f h Q = W cd b f h (blk id Q) := by
  apply propext
  constructor
  · rintro ⟨n, e, f', h', hr, q⟩
    simp only [run] at hr
    cases h1 : run (callN cd n) n b f h with
    | none => simp [h1] at hr
    | some p =>
      obtain ⟨e1, f1, h1'⟩ := p
      refine ⟨n, e1, f1, h1', h1, ?_⟩
      cases e1 with
      | norm => simp [h1] at hr; obtain ⟨rfl, rfl, rfl⟩ := hr; exact q
      | ret => simp [h1] at hr; obtain ⟨rfl, rfl, rfl⟩ := hr; exact q
      | exit i =>
        simp only [h1] at hr
        unfold blk
        split at hr
        · rename_i hi; simp at hr; obtain ⟨rfl, rfl, rfl⟩ := hr; simp only [hi, if_true]; exact q
        · rename_i hi; simp at hr; obtain ⟨rfl, rfl, rfl⟩ := hr; simp only [hi, if_false]; exact q
  · rintro ⟨n, e, f', h', hr, q⟩
    cases e with
    | norm => exact ⟨n, _, _, _, by simp only [run, hr], q⟩
    | ret => exact ⟨n, _, _, _, by simp only [run, hr], q⟩
    | exit i =>
      simp only [blk] at q
      by_cases hi : i = id
      · rw [if_pos hi] at q; exact ⟨n, _, _, _, by simp only [run, hr, if_pos hi], q⟩
      · rw [if_neg hi] at q; exact ⟨n, _, _, _, by simp only [run, hr, if_neg hi], q⟩
theorem WL_nil (Q : Fr → H → Prop) : WL cd [] f h Q = Q f h := by
  apply propext
  exact ⟨fun ⟨n, f', h', hr, q⟩ => by simp only [runL, Option.some.injEq, Prod.mk.injEq] at hr; obtain ⟨rfl, rfl⟩ := hr; exact q, fun q => ⟨0, _, _, rfl, q⟩⟩
theorem WL_cons (it : IT) (l : List IT) (Q : Fr → H → Prop) : WL cd (it :: l) f h Q = WL cd [it] f h (fun f' h' => WL cd l f' h' Q) := by
  apply propext
  constructor
  · rintro ⟨n, f', h', hr, q⟩
    simp only [runL] at hr
    cases h1 : runI (callN cd n) it f h with
    | none => simp [h1] at hr
    | some p =>
      refine ⟨n, p.1, p.2, by simp only [runL, h1], n, f', h', by simpa [h1] using hr, q⟩
  · rintro ⟨n, f1, h1, hr, m, f', h', h2, q⟩
    refine ⟨max n m, f', h', ?_, q⟩
    simp only [runL] at *
    cases h3 : runI (callN cd n) it f h with
    | none => simp [h3] at hr
    | some p =>
      obtain ⟨p1, p2⟩ := p
      simp only [h3, Option.some.injEq, Prod.mk.injEq] at hr
      obtain ⟨rfl, rfl⟩ := hr
      rw [runI_mono (callN_mono cd (Nat.le_max_left n m)) h3]
      exact runL_mono (callN_mono cd (Nat.le_max_right n m)) h2
def AI.plain : AI → Bool
  | .call .. | .clv .. => false
  | _ => true
theorem run1_plain {c : CallF} {a : AI} (ha : a.plain = true) : run1 c a f h = ai a f h := by
  cases a <;> first | rfl | simp [AI.plain] at ha
theorem WL_plain (a : AI) (ha : a.plain = true) (l : List IT) (Q : Fr → H → Prop) : WL cd (.i a :: l) f h Q = onS (ai a f h) (fun f' h' => WL cd l f' h' Q) := by
  rw [WL_cons]
  apply propext
  constructor
  · rintro ⟨n, f1, h1, hr, q⟩
    simp only [runL, runI, run1_plain ha] at hr
    cases h3 : ai a f h with
    | none => simp [h3] at hr
    | some p => obtain ⟨p1, p2⟩ := p; simp only [h3, Option.some.injEq, Prod.mk.injEq] at hr; obtain ⟨rfl, rfl⟩ := hr; exact q
  · intro hw
    cases h3 : ai a f h with
    | none => simp [h3, onS] at hw
    | some p => obtain ⟨f1, h1⟩ := p; rw [h3] at hw; exact ⟨0, f1, h1, by simp only [runL, runI, run1_plain ha, h3], hw⟩
def onA (o : Option (List (Bool × List C))) (K : List (Bool × List C) → Prop) : Prop :=
  match o with
  | some vs => K vs
  | none => False
theorem WL_call (d g : Nat) (xs : List X) (l : List IT) (Q : Fr → H → Prop) :
    WL cd (.i (.call d g false xs) :: l) f h Q = onA (args f xs) (fun vs => WC cd g vs h (fun v h' => WL cd l (setD f d v) h' Q)) := by
  rw [WL_cons]
  apply propext
  constructor
  · rintro ⟨n, f1, h1, hr, q⟩
    simp only [runL, runI, run1] at hr
    cases ha : args f xs with
    | none => simp [ha] at hr
    | some vs =>
      simp only [ha, doCall] at hr
      cases h3 : callN cd n g vs h with
      | none => simp [h3] at hr
      | some p =>
        obtain ⟨v, h'⟩ := p
        simp [h3] at hr
        obtain ⟨rfl, rfl⟩ := hr
        exact ⟨n, v, h', h3, q⟩
  · intro hw
    cases ha : args f xs with
    | none => simp [ha, onA] at hw
    | some vs =>
      simp only [ha, onA] at hw
      obtain ⟨n, v, h', hr, q⟩ := hw
      exact ⟨n, _, _, by simp [runL, runI, run1, ha, doCall, hr], q⟩
theorem WL_callq (d g : Nat) (xs : List X) (l : List IT) (Q : Fr → H → Prop) :
    WL cd (.i (.call d g true xs) :: l) f h Q = onA (args f xs) (fun vs => WC cd g vs h (fun v h' => (∃ t, h' = h ++ t) ∧ WL cd l (setD f d v) h' Q)) := by
  rw [WL_cons]
  apply propext
  constructor
  · rintro ⟨n, f1, h1, hr, q⟩
    simp only [runL, runI, run1] at hr
    cases ha : args f xs with
    | none => simp [ha] at hr
    | some vs =>
      simp only [ha, doCall] at hr
      cases h3 : callN cd n g vs h with
      | none => simp [h3] at hr
      | some p =>
        obtain ⟨v, h'⟩ := p
        by_cases hx : ∃ t, h' = h ++ t
        · have hx' : (true = true → ∃ t, h' = h ++ t) := fun _ => hx
          simp only [h3, if_pos hx', Option.some.injEq, Prod.mk.injEq] at hr
          obtain ⟨rfl, rfl⟩ := hr
          exact ⟨n, v, h', h3, hx, q⟩
        · have hx' : ¬ (true = true → ∃ t, h' = h ++ t) := fun k => hx (k rfl)
          simp [h3, if_neg hx'] at hr
  · intro hw
    cases ha : args f xs with
    | none => simp [ha, onA] at hw
    | some vs =>
      simp only [ha, onA] at hw
      obtain ⟨n, v, h', hr, hx, q⟩ := hw
      have hx' : (true = true → ∃ t, h' = h ++ t) := fun _ => hx
      exact ⟨n, setD f d v, h', by simp only [runL, runI, run1, ha, doCall, hr, if_pos hx'], q⟩
theorem WL_clv (d : Nat) (q : Bool) (x : X) (xs : List X) (l : List IT) (Q : Fr → H → Prop) (g : Nat) (hx : ev1 f x = some (.fn g)) :
    WL cd (.i (.clv d q x xs) :: l) f h Q = WL cd (.i (.call d g q xs) :: l) f h Q := by
  have e : ∀ c, run1 c (.clv d q x xs) f h = run1 c (.call d g q xs) f h := by
    intro c
    simp only [run1, hx]
    cases args f xs <;> rfl
  unfold WL
  simp only [runL, runI, e]
theorem WL_g (s d : Nat) (w : Bool) (a : AI) (l : List IT) (Q : Fr → H → Prop) :
    WL cd (.g s w d a :: l) f h Q = onB (ev1 f (.s s)) (if w = true then WL cd (.i a :: l) f h Q else WL cd l (setD f d .any) h Q) (if w = true then WL cd l (setD f d .any) h Q else WL cd (.i a :: l) f h Q) := by
  apply propext
  constructor
  · rintro ⟨n, f1, h1, hr, q⟩
    simp only [runL, runI] at hr
    split at hr
    · rename_i p hp
      split at hp
      · rename_i b hb
        simp only [hb]
        split at hp
        · rename_i he
          subst he
          cases b <;> simp only [onB, if_true] <;> exact ⟨n, f1, h1, by simp only [runL, runI, hp]; exact hr, q⟩
        · rename_i he
          simp only [Option.some.injEq, Prod.mk.injEq] at hp
          obtain ⟨rfl, rfl⟩ := hp
          cases b <;> cases w <;> simp_all [onB] <;> exact ⟨n, f1, h1, hr, q⟩
      · simp at hp
    · simp at hr
  · intro hw
    unfold onB at hw
    split at hw
    · rename_i hb
      split at hw
      · rename_i he; subst he
        obtain ⟨n, f1, h1, hr, q⟩ := hw
        exact ⟨n, f1, h1, by simp only [runL, runI, hb, if_true] at *; exact hr, q⟩
      · rename_i he
        obtain ⟨n, f1, h1, hr, q⟩ := hw
        have : w = false := by simpa using he
        subst this
        exact ⟨n, f1, h1, by simp [runL, runI, hb]; exact hr, q⟩
    · rename_i hb
      split at hw
      · rename_i he; subst he
        obtain ⟨n, f1, h1, hr, q⟩ := hw
        exact ⟨n, f1, h1, by simp [runL, runI, hb]; exact hr, q⟩
      · rename_i he
        have : w = false := by simpa using he
        subst this
        obtain ⟨n, f1, h1, hr, q⟩ := hw
        exact ⟨n, f1, h1, by simp only [runL, runI, hb, if_true] at *; exact hr, q⟩
    · exact hw.elim
/-- A function. -/
theorem WC_enter {g : Nat} {a : AF} (hg : cd g = some a) {vs : List (Bool × List C)} (hl : vs.length = a.np) {Q : V → H → Prop}
    (hw : W cd a.body (enter0 (PT.full a.dep) 0 vs) h (fun e f' h' => match e with | .exit _ => False | _ => match resV f' a.res with | some v => Q v h' | none => False)) : WC cd g vs h Q := by
  obtain ⟨n, e, f', h', hr, q⟩ := hw
  have key : (match resV f' a.res with | some v => Q v h' | none => False) → (e = .norm ∨ e = .ret) → WC cd g vs h Q := by
    intro q he
    cases hv : resV f' a.res with
    | none => simp [hv] at q
    | some v =>
      simp only [hv] at q
      refine ⟨n + 1, v, h', ?_, q⟩
      simp only [callN, hg, runF, hl, if_true]
      rcases he with rfl | rfl <;> simp only [hr, hv]
  cases e with
  | exit i => exact q.elim
  | norm => exact key q (.inl rfl)
  | ret => exact key q (.inr rfl)
/-- A loop: 'I g f h' at every round's head; g falls. -/
theorem W_loop {ds : List Nat} {b : AC} {Q : Ex → Fr → H → Prop} (I : Nat → Fr → H → Prop) (g0 : Nat) (h0 : I g0 f h)
    (round : ∀ g f h, I g f h → W cd b (forget f ds) h (thn (fun f' h' => ∃ g', g' < g ∧ I g' f' h') Q)) : W cd (.loop ds b) f h Q := by
  have key : ∀ g f h, I g f h → ∃ n e f' h', rounds (run (callN cd n) n b) ds n f h = some (e, f', h') ∧ Q e f' h' := by
    intro g
    induction g using Nat.strongRecOn with
    | _ g ih =>
      intro f h hI
      obtain ⟨n, e, f1, h1, hr, q⟩ := round g f h hI
      cases e with
      | norm =>
        obtain ⟨g', hlt, hI'⟩ := q
        obtain ⟨m, e, f', h', h2, q⟩ := ih g' hlt f1 h1 hI'
        refine ⟨max n m + 1, e, f', h', ?_, q⟩
        simp only [rounds]
        rw [run_mono (callN_mono cd (show n ≤ max n m + 1 by omega)) (show n ≤ max n m + 1 by omega) b hr]
        exact rounds_mono (fun f h r hx => run_mono (callN_mono cd (show m ≤ max n m + 1 by omega)) (show m ≤ max n m + 1 by omega) b hx) ds (by omega) h2
      | exit i =>
        refine ⟨n + 1, _, f1, h1, ?_, q⟩
        simp only [rounds]
        rw [run_mono (callN_succ cd n) (Nat.le_succ n) b hr]
      | ret =>
        refine ⟨n + 1, _, f1, h1, ?_, q⟩
        simp only [rounds]
        rw [run_mono (callN_succ cd n) (Nat.le_succ n) b hr]
  obtain ⟨n, e, f', h', hr, q⟩ := key g0 f h h0
  exact ⟨n, e, f', h', by simpa only [run] using hr, q⟩
end

theorem onB_true (A B : Prop) : onB (some (.bool true)) A B = A := rfl
theorem onB_false (A B : Prop) : onB (some (.bool false)) A B = B := rfl
theorem onB_dec {p : Prop} {_ : Decidable p} {A B : Prop} (ht : p → A) (hf : ¬ p → B) : onB (some (.bool (decide p))) A B := by
  by_cases hp : p
  · simp only [hp, decide_true, onB_true]; exact ht hp
  · simp only [hp, decide_false, onB_false]; exact hf hp
/-! ### The symbolic run: what is to come is a list -/
inductive KI where
  | c (a : AC)
  | b (id : Nat)
  | stop (P : Fr → H → Prop)
def FN (o : Option V) (Q : V → H → Prop) (h : H) : Prop :=
  match o with
  | some v => Q v h
  | none => False
def cont (cd : Nat → Option AF) (R : List RV) (Q : V → H → Prop) : List KI → Ex → Fr → H → Prop
  | [], .exit _, _, _ => False
  | [], _, f, h => FN (resV f R) Q h
  | .b _ :: k, .norm, f, h => cont cd R Q k .norm f h
  | .b i :: k, .exit id, f, h => if id = i then cont cd R Q k .norm f h else cont cd R Q k (.exit id) f h
  | .stop P :: _, .norm, f, h => P f h
  | .c a :: k, .norm, f, h => W cd a f h (cont cd R Q k)
  | _ :: k, e, f, h => cont cd R Q k e f h
def WS (cd : Nat → Option AF) (k : List KI) (f : Fr) (h : H) (R : List RV) (Q : V → H → Prop) : Prop := cont cd R Q k .norm f h
def EX (cd : Nat → Option AF) (id : Nat) (k : List KI) (f : Fr) (h : H) (R : List RV) (Q : V → H → Prop) : Prop := cont cd R Q k (.exit id) f h
def BR (cd : Nat → Option AF) (c : Option C) (a b : AC) (k : List KI) (f : Fr) (h : H) (R : List RV) (Q : V → H → Prop) : Prop :=
  onB c (WS cd (.c a :: k) f h R Q) (WS cd (.c b :: k) f h R Q)
/-- A guarded operation. -/
def GB (cd : Nat → Option AF) (c : Option C) (w : Bool) (d : Nat) (a : AI) (l : List IT) (k : List KI) (f : Fr) (h : H) (R : List RV) (Q : V → H → Prop) : Prop :=
  match c with
  | some (.bool b) => if b = w then WS cd (.c (.ops (.i a :: l)) :: k) f h R Q else WS cd (.c (.ops l) :: k) (setD f d .any) h R Q
  | _ => False
def ST (cd : Nat → Option AF) (o : Option (Fr × H)) (l : List IT) (k : List KI) (R : List RV) (Q : V → H → Prop) : Prop :=
  match o with
  | some (f, h) => WS cd (.c (.ops l) :: k) f h R Q
  | none => False
/-- Behind a call. -/
def KC (cd : Nat → Option AF) (d : Nat) (l : List IT) (k : List KI) (f : Fr) (R : List RV) (Q : V → H → Prop) (v : V) (h : H) : Prop := WS cd (.c (.ops l) :: k) (setD f d v) h R Q
/-- Behind a call that leaves what is there as it is. -/
def KQ (cd : Nat → Option AF) (h0 : H) (d : Nat) (l : List IT) (k : List KI) (f : Fr) (R : List RV) (Q : V → H → Prop) (v : V) (h : H) : Prop := (∃ t, h = h0 ++ t) ∧ KC cd d l k f R Q v h
def CA (cd : Nat → Option AF) (g : Nat) (o : Option (List (Bool × List C))) (h : H) (K : V → H → Prop) : Prop :=
  match o with
  | some vs => WC cd g vs h K
  | none => False
def CV (cd : Nat → Option AF) (c : Option C) (q : Bool) (d : Nat) (xs : List X) (l : List IT) (k : List KI) (f : Fr) (h : H) (R : List RV) (Q : V → H → Prop) : Prop :=
  match c with
  | some (.fn g) => WS cd (.c (.ops (.i (.call d g q xs) :: l)) :: k) f h R Q
  | _ => False
section
variable {cd : Nat → Option AF} {f : Fr} {h : H} {R : List RV} {Q : V → H → Prop} {k : List KI}
theorem cont_ret : ∀ (k : List KI), cont cd R Q k .ret f h = FN (resV f R) Q h
  | [] => rfl
  | .b _ :: k => cont_ret k
  | .c _ :: k => cont_ret k
  | .stop _ :: k => cont_ret k
theorem WS_nil : WS cd [] f h R Q = FN (resV f R) Q h := rfl
theorem WS_b (i : Nat) : WS cd (.b i :: k) f h R Q = WS cd k f h R Q := rfl
theorem WS_stop (P : Fr → H → Prop) : WS cd (.stop P :: k) f h R Q = P f h := rfl
theorem WS_skip : WS cd (.c .skip :: k) f h R Q = WS cd k f h R Q := by simp only [WS, cont, W_skip]
theorem WS_ret : WS cd (.c .ret :: k) f h R Q = FN (resV f R) Q h := by simp only [WS, cont, W_ret, cont_ret]
theorem WS_exit (id : Nat) : WS cd (.c (.exit id) :: k) f h R Q = EX cd id k f h R Q := by simp only [WS, EX, cont, W_exit]
theorem EX_b (id i : Nat) : EX cd id (.b i :: k) f h R Q = if id = i then WS cd k f h R Q else EX cd id k f h R Q := rfl
theorem EX_c (id : Nat) (a : AC) : EX cd id (.c a :: k) f h R Q = EX cd id k f h R Q := rfl
theorem EX_stop (id : Nat) (P : Fr → H → Prop) : EX cd id (.stop P :: k) f h R Q = EX cd id k f h R Q := rfl
theorem WS_seq (a b : AC) : WS cd (.c (.seq a b) :: k) f h R Q = WS cd (.c a :: .c b :: k) f h R Q := by
  simp only [WS, cont, W_seq]
  congr 1
  funext e f' h'
  cases e <;> rfl
theorem WS_block (id : Nat) (b : AC) : WS cd (.c (.block id b) :: k) f h R Q = WS cd (.c b :: .b id :: k) f h R Q := by
  simp only [WS, cont, W_block]
  congr 1
  funext e f' h'
  cases e with
  | norm => rfl
  | ret => simp only [blk, cont]
  | exit i => rfl
theorem WS_cond (x : X) (a b : AC) : WS cd (.c (.cond x a b) :: k) f h R Q = BR cd (ev1 f x) a b k f h R Q := by simp only [WS, BR, cont, W_cond]
theorem BR_true (a b : AC) : BR cd (some (.bool true)) a b k f h R Q = WS cd (.c a :: k) f h R Q := rfl
theorem BR_false (a b : AC) : BR cd (some (.bool false)) a b k f h R Q = WS cd (.c b :: k) f h R Q := rfl
theorem WS_ops_nil : WS cd (.c (.ops []) :: k) f h R Q = WS cd k f h R Q := by simp only [WS, cont, W_ops, WL_nil]
theorem WS_plain (a : AI) (ha : a.plain = true) (l : List IT) : WS cd (.c (.ops (.i a :: l)) :: k) f h R Q = ST cd (ai a f h) l k R Q := by
  simp only [WS, cont, W_ops, WL_plain a ha]
  cases ai a f h with
  | none => rfl
  | some p => simp only [onS, ST, WS, cont, W_ops]
theorem ST_some (f : Fr) (h : H) (l : List IT) : ST cd (some (f, h)) l k R Q = WS cd (.c (.ops l) :: k) f h R Q := rfl
theorem WS_g (s d : Nat) (w : Bool) (a : AI) (l : List IT) : WS cd (.c (.ops (.g s w d a :: l)) :: k) f h R Q = GB cd (ev1 f (.s s)) w d a l k f h R Q := by
  simp only [WS, cont, W_ops, WL_g, GB]
  rcases ev1 f (.s s) with _ | c
  · rfl
  · cases c <;> try rfl
    rename_i b
    cases b <;> cases w <;> simp [onB]
theorem GB_tt (d : Nat) (a : AI) (l : List IT) : GB cd (some (.bool true)) true d a l k f h R Q = WS cd (.c (.ops (.i a :: l)) :: k) f h R Q := rfl
theorem GB_ff (d : Nat) (a : AI) (l : List IT) : GB cd (some (.bool false)) false d a l k f h R Q = WS cd (.c (.ops (.i a :: l)) :: k) f h R Q := rfl
theorem GB_tf (d : Nat) (a : AI) (l : List IT) : GB cd (some (.bool true)) false d a l k f h R Q = WS cd (.c (.ops l) :: k) (setD f d .any) h R Q := rfl
theorem GB_ft (d : Nat) (a : AI) (l : List IT) : GB cd (some (.bool false)) true d a l k f h R Q = WS cd (.c (.ops l) :: k) (setD f d .any) h R Q := rfl
theorem WS_call (d g : Nat) (xs : List X) (l : List IT) : WS cd (.c (.ops (.i (.call d g false xs) :: l)) :: k) f h R Q = CA cd g (args f xs) h (KC cd d l k f R Q) := by
  simp only [WS, cont, W_ops, WL_call]
  cases args f xs with
  | none => rfl
  | some vs =>
    simp only [onA, CA]
    congr 1
    funext v h'
    simp only [KC, WS, cont, W_ops]
theorem WS_callq (d g : Nat) (xs : List X) (l : List IT) : WS cd (.c (.ops (.i (.call d g true xs) :: l)) :: k) f h R Q = CA cd g (args f xs) h (KQ cd h d l k f R Q) := by
  simp only [WS, cont, W_ops, WL_callq]
  cases args f xs with
  | none => rfl
  | some vs =>
    simp only [onA, CA]
    congr 1
    funext v h'
    simp only [KQ, KC, WS, cont, W_ops]
theorem CA_some (g : Nat) (vs : List (Bool × List C)) (K : V → H → Prop) : CA cd g (some vs) h K = WC cd g vs h K := rfl
theorem run1_clv_none {c : CallF} {d : Nat} {q : Bool} {x : X} {xs : List X} (hx : ∀ g, ev1 f x ≠ some (.fn g)) : run1 c (.clv d q x xs) f h = none := by
  simp only [run1]
  split
  · rename_i g vs h1 h2; exact absurd h1 (hx g)
  · rfl
theorem WS_clv (d : Nat) (q : Bool) (x : X) (xs : List X) (l : List IT) : WS cd (.c (.ops (.i (.clv d q x xs) :: l)) :: k) f h R Q = CV cd (ev1 f x) q d xs l k f h R Q := by
  by_cases hx : ∃ g, ev1 f x = some (.fn g)
  · obtain ⟨g, hg⟩ := hx
    simp only [hg, CV, WS, cont, W_ops]
    exact WL_clv d q x xs l _ g hg
  · have hx' : ∀ g, ev1 f x ≠ some (.fn g) := fun g e => hx ⟨g, e⟩
    have e1 : CV cd (ev1 f x) q d xs l k f h R Q = False := by
      unfold CV
      split
      · rename_i g hg; exact absurd hg (hx' g)
      · rfl
    rw [e1]
    simp only [WS, cont, W_ops, eq_iff_iff, iff_false]
    rintro ⟨n, f', h', hr, _⟩
    simp [runL, runI, run1_clv_none hx'] at hr
theorem CV_fn (g : Nat) (q : Bool) (d : Nat) (xs : List X) (l : List IT) : CV cd (some (.fn g)) q d xs l k f h R Q = WS cd (.c (.ops (.i (.call d g q xs) :: l)) :: k) f h R Q := rfl
theorem FN_some (v : V) : FN (some v) Q h = Q v h := rfl
theorem KC_eq (d : Nat) (l : List IT) (v : V) : KC cd d l k f R Q v h = WS cd (.c (.ops l) :: k) (setD f d v) h R Q := rfl
/-- A branch that the facts don't decide. -/
theorem BR_dec {p : Prop} {_ : Decidable p} {a b : AC} (ht : p → WS cd (.c a :: k) f h R Q) (hf : ¬ p → WS cd (.c b :: k) f h R Q) : BR cd (some (.bool (decide p))) a b k f h R Q := onB_dec ht hf
/-- A call by its contract. -/
theorem WC_call {g : Nat} {vs : List (Bool × List C)} {P K : V → H → Prop} (hc : WC cd g vs h P) (hk : ∀ v h', P v h' → K v h') : WC cd g vs h K := hc.mono hk
theorem WS_loop {ds : List Nat} {b : AC} (I : Nat → Fr → H → Prop) (g0 : Nat) (h0 : I g0 f h)
    (round : ∀ g f h, I g f h → WS cd (.c b :: .stop (fun f' h' => ∃ g', g' < g ∧ I g' f' h') :: k) (forget f ds) h R Q) : WS cd (.c (.loop ds b) :: k) f h R Q := by
  simp only [WS, cont]
  refine W_loop I g0 h0 (fun g f h hI => ?_)
  have := round g f h hI
  simp only [WS, cont] at this
  refine this.mono (fun e f' h' he => ?_)
  cases e <;> exact he
theorem WS_enter {g : Nat} {a : AF} (hg : cd g = some a) {vs : List (Bool × List C)} (hl : vs.length = a.np)
    (hw : WS cd [.c a.body] (enter0 (PT.full a.dep) 0 vs) h a.res Q) : WC cd g vs h Q := by
  refine WC_enter hg hl ?_
  simp only [WS, cont] at hw
  refine hw.mono (fun e f' h' he => ?_)
  cases e with
  | exit i => exact he
  | norm => exact he
  | ret => exact he
end
/-- The rules, for the symbolic run. -/
theorem RR : (∀ (cd : Nat → Option AF) (f : Fr) (h : H) (R : List RV) (Q : V → H → Prop), WS cd [] f h R Q = FN (resV f R) Q h) ∧
    (∀ (cd : Nat → Option AF) (k : List KI) (f : Fr) (h : H) (R : List RV) (Q : V → H → Prop) (i : Nat), WS cd (.b i :: k) f h R Q = WS cd k f h R Q) ∧
    (∀ (cd : Nat → Option AF) (k : List KI) (f : Fr) (h : H) (R : List RV) (Q : V → H → Prop) (P : Fr → H → Prop), WS cd (.stop P :: k) f h R Q = P f h) ∧
    (∀ (cd : Nat → Option AF) (k : List KI) (f : Fr) (h : H) (R : List RV) (Q : V → H → Prop), WS cd (.c .skip :: k) f h R Q = WS cd k f h R Q) ∧
    (∀ (cd : Nat → Option AF) (k : List KI) (f : Fr) (h : H) (R : List RV) (Q : V → H → Prop), WS cd (.c .ret :: k) f h R Q = FN (resV f R) Q h) ∧
    (∀ (cd : Nat → Option AF) (k : List KI) (f : Fr) (h : H) (R : List RV) (Q : V → H → Prop) (id : Nat), WS cd (.c (.exit id) :: k) f h R Q = EX cd id k f h R Q) ∧
    (∀ (cd : Nat → Option AF) (k : List KI) (f : Fr) (h : H) (R : List RV) (Q : V → H → Prop) (id : Nat) (i : Nat), EX cd id (.b i :: k) f h R Q = if id = i then WS cd k f h R Q else EX cd id k f h R Q) ∧
    (∀ (cd : Nat → Option AF) (k : List KI) (f : Fr) (h : H) (R : List RV) (Q : V → H → Prop) (id : Nat) (a : AC), EX cd id (.c a :: k) f h R Q = EX cd id k f h R Q) ∧
    (∀ (cd : Nat → Option AF) (k : List KI) (f : Fr) (h : H) (R : List RV) (Q : V → H → Prop) (id : Nat) (P : Fr → H → Prop), EX cd id (.stop P :: k) f h R Q = EX cd id k f h R Q) ∧
    (∀ (cd : Nat → Option AF) (k : List KI) (f : Fr) (h : H) (R : List RV) (Q : V → H → Prop) (a : AC) (b : AC), WS cd (.c (.seq a b) :: k) f h R Q = WS cd (.c a :: .c b :: k) f h R Q) ∧
    (∀ (cd : Nat → Option AF) (k : List KI) (f : Fr) (h : H) (R : List RV) (Q : V → H → Prop) (id : Nat) (b : AC), WS cd (.c (.block id b) :: k) f h R Q = WS cd (.c b :: .b id :: k) f h R Q) ∧
    (∀ (cd : Nat → Option AF) (k : List KI) (f : Fr) (h : H) (R : List RV) (Q : V → H → Prop) (x : X) (a : AC) (b : AC), WS cd (.c (.cond x a b) :: k) f h R Q = BR cd (ev1 f x) a b k f h R Q) ∧
    (∀ (cd : Nat → Option AF) (k : List KI) (f : Fr) (h : H) (R : List RV) (Q : V → H → Prop) (a : AC) (b : AC), BR cd (some (.bool true)) a b k f h R Q = WS cd (.c a :: k) f h R Q) ∧
    (∀ (cd : Nat → Option AF) (k : List KI) (f : Fr) (h : H) (R : List RV) (Q : V → H → Prop) (a : AC) (b : AC), BR cd (some (.bool false)) a b k f h R Q = WS cd (.c b :: k) f h R Q) ∧
    (∀ (cd : Nat → Option AF) (k : List KI) (f : Fr) (h : H) (R : List RV) (Q : V → H → Prop), WS cd (.c (.ops []) :: k) f h R Q = WS cd k f h R Q) ∧
    (∀ (cd : Nat → Option AF) (k : List KI) (f : Fr) (h : H) (R : List RV) (Q : V → H → Prop) (l : List IT), ST cd (some (f, h)) l k R Q = WS cd (.c (.ops l) :: k) f h R Q) ∧
    (∀ (cd : Nat → Option AF) (k : List KI) (f : Fr) (h : H) (R : List RV) (Q : V → H → Prop) (s : Nat) (d : Nat) (w : Bool) (a : AI) (l : List IT), WS cd (.c (.ops (.g s w d a :: l)) :: k) f h R Q = GB cd (ev1 f (.s s)) w d a l k f h R Q) ∧
    (∀ (cd : Nat → Option AF) (k : List KI) (f : Fr) (h : H) (R : List RV) (Q : V → H → Prop) (d : Nat) (a : AI) (l : List IT), GB cd (some (.bool true)) true d a l k f h R Q = WS cd (.c (.ops (.i a :: l)) :: k) f h R Q) ∧
    (∀ (cd : Nat → Option AF) (k : List KI) (f : Fr) (h : H) (R : List RV) (Q : V → H → Prop) (d : Nat) (a : AI) (l : List IT), GB cd (some (.bool false)) false d a l k f h R Q = WS cd (.c (.ops (.i a :: l)) :: k) f h R Q) ∧
    (∀ (cd : Nat → Option AF) (k : List KI) (f : Fr) (h : H) (R : List RV) (Q : V → H → Prop) (d : Nat) (a : AI) (l : List IT), GB cd (some (.bool true)) false d a l k f h R Q = WS cd (.c (.ops l) :: k) (setD f d .any) h R Q) ∧
    (∀ (cd : Nat → Option AF) (k : List KI) (f : Fr) (h : H) (R : List RV) (Q : V → H → Prop) (d : Nat) (a : AI) (l : List IT), GB cd (some (.bool false)) true d a l k f h R Q = WS cd (.c (.ops l) :: k) (setD f d .any) h R Q) ∧
    (∀ (cd : Nat → Option AF) (k : List KI) (f : Fr) (h : H) (R : List RV) (Q : V → H → Prop) (d : Nat) (g : Nat) (xs : List X) (l : List IT), WS cd (.c (.ops (.i (.call d g false xs) :: l)) :: k) f h R Q = CA cd g (args f xs) h (KC cd d l k f R Q)) ∧
    (∀ (cd : Nat → Option AF) (k : List KI) (f : Fr) (h : H) (R : List RV) (Q : V → H → Prop) (d : Nat) (g : Nat) (xs : List X) (l : List IT), WS cd (.c (.ops (.i (.call d g true xs) :: l)) :: k) f h R Q = CA cd g (args f xs) h (KQ cd h d l k f R Q)) ∧
    (∀ (cd : Nat → Option AF) (h : H) (g : Nat) (vs : List (Bool × List C)) (K : V → H → Prop), CA cd g (some vs) h K = WC cd g vs h K) ∧
    (∀ (cd : Nat → Option AF) (k : List KI) (f : Fr) (h : H) (R : List RV) (Q : V → H → Prop) (d : Nat) (q : Bool) (x : X) (xs : List X) (l : List IT), WS cd (.c (.ops (.i (.clv d q x xs) :: l)) :: k) f h R Q = CV cd (ev1 f x) q d xs l k f h R Q) ∧
    (∀ (cd : Nat → Option AF) (k : List KI) (f : Fr) (h : H) (R : List RV) (Q : V → H → Prop) (g : Nat) (q : Bool) (d : Nat) (xs : List X) (l : List IT), CV cd (some (.fn g)) q d xs l k f h R Q = WS cd (.c (.ops (.i (.call d g q xs) :: l)) :: k) f h R Q) ∧
    (∀ (Q : V → H → Prop) (h : H) (v : V), FN (some v) Q h = Q v h) ∧
    (∀ (cd : Nat → Option AF) (k : List KI) (f : Fr) (h : H) (R : List RV) (Q : V → H → Prop) (d : Nat) (l : List IT) (v : V), KC cd d l k f R Q v h = WS cd (.c (.ops l) :: k) (setD f d v) h R Q) :=
  ⟨fun _ _ _ _ _ => WS_nil, fun _ _ _ _ _ _ i => WS_b i, fun _ _ _ _ _ _ P => WS_stop P, fun _ _ _ _ _ _ => WS_skip, fun _ _ _ _ _ _ => WS_ret, fun _ _ _ _ _ _ id => WS_exit id, fun _ _ _ _ _ _ id i => EX_b id i, fun _ _ _ _ _ _ id a => EX_c id a, fun _ _ _ _ _ _ id P => EX_stop id P, fun _ _ _ _ _ _ a b => WS_seq a b, fun _ _ _ _ _ _ id b => WS_block id b, fun _ _ _ _ _ _ x a b => WS_cond x a b, fun _ _ _ _ _ _ a b => BR_true a b, fun _ _ _ _ _ _ a b => BR_false a b, fun _ _ _ _ _ _ => WS_ops_nil, fun _ _ f h _ _ l => ST_some f h l, fun _ _ _ _ _ _ s d w a l => WS_g s d w a l, fun _ _ _ _ _ _ d a l => GB_tt d a l, fun _ _ _ _ _ _ d a l => GB_ff d a l, fun _ _ _ _ _ _ d a l => GB_tf d a l, fun _ _ _ _ _ _ d a l => GB_ft d a l, fun _ _ _ _ _ _ d g xs l => WS_call d g xs l, fun _ _ _ _ _ _ d g xs l => WS_callq d g xs l, fun _ _ g vs K => CA_some g vs K, fun _ _ _ _ _ _ d q x xs l => WS_clv d q x xs l, fun _ _ _ _ _ _ g q d xs l => CV_fn g q d xs l, fun _ _ v => FN_some v, fun _ _ _ _ _ _ d l v => KC_eq d l v⟩
/-- The rules: what is no call. -/
theorem RP : (∀ (cd : Nat → Option AF) (k : List KI) (f : Fr) (h : H) (R : List RV) (Q : V → H → Prop) (l : List IT) d_ e_ n_ z_ ps_, WS cd (.c (.ops (.i (.lsl d_ e_ n_ z_ ps_) :: l)) :: k) f h R Q = ST cd (ai (.lsl d_ e_ n_ z_ ps_) f h) l k R Q) ∧
    (∀ (cd : Nat → Option AF) (k : List KI) (f : Fr) (h : H) (R : List RV) (Q : V → H → Prop) (l : List IT) d_, WS cd (.c (.ops (.i (.bse d_) :: l)) :: k) f h R Q = ST cd (ai (.bse d_) f h) l k R Q) ∧
    (∀ (cd : Nat → Option AF) (k : List KI) (f : Fr) (h : H) (R : List RV) (Q : V → H → Prop) (l : List IT) d_ x_, WS cd (.c (.ops (.i (.mov d_ x_) :: l)) :: k) f h R Q = ST cd (ai (.mov d_ x_) f h) l k R Q) ∧
    (∀ (cd : Nat → Option AF) (k : List KI) (f : Fr) (h : H) (R : List RV) (Q : V → H → Prop) (l : List IT) d_ c_ a_ b_, WS cd (.c (.ops (.i (.pick d_ c_ a_ b_) :: l)) :: k) f h R Q = ST cd (ai (.pick d_ c_ a_ b_) f h) l k R Q) ∧
    (∀ (cd : Nat → Option AF) (k : List KI) (f : Fr) (h : H) (R : List RV) (Q : V → H → Prop) (l : List IT) d_ x_, WS cd (.c (.ops (.i (.lbox d_ x_) :: l)) :: k) f h R Q = ST cd (ai (.lbox d_ x_) f h) l k R Q) ∧
    (∀ (cd : Nat → Option AF) (k : List KI) (f : Fr) (h : H) (R : List RV) (Q : V → H → Prop) (l : List IT) d_ cs_, WS cd (.c (.ops (.i (.lal d_ cs_) :: l)) :: k) f h R Q = ST cd (ai (.lal d_ cs_) f h) l k R Q) ∧
    (∀ (cd : Nat → Option AF) (k : List KI) (f : Fr) (h : H) (R : List RV) (Q : V → H → Prop) (l : List IT) d_ ty_ x_, WS cd (.c (.ops (.i (.hbox d_ ty_ x_) :: l)) :: k) f h R Q = ST cd (ai (.hbox d_ ty_ x_) f h) l k R Q) ∧
    (∀ (cd : Nat → Option AF) (k : List KI) (f : Fr) (h : H) (R : List RV) (Q : V → H → Prop) (l : List IT) d_ ty_ cs_, WS cd (.c (.ops (.i (.hal d_ ty_ cs_) :: l)) :: k) f h R Q = ST cd (ai (.hal d_ ty_ cs_) f h) l k R Q) ∧
    (∀ (cd : Nat → Option AF) (k : List KI) (f : Fr) (h : H) (R : List RV) (Q : V → H → Prop) (l : List IT) d_ z_ ps_, WS cd (.c (.ops (.i (.bld d_ z_ ps_) :: l)) :: k) f h R Q = ST cd (ai (.bld d_ z_ ps_) f h) l k R Q) ∧
    (∀ (cd : Nat → Option AF) (k : List KI) (f : Fr) (h : H) (R : List RV) (Q : V → H → Prop) (l : List IT) d_ ty_ e_ n_ z_ ps_, WS cd (.c (.ops (.i (.bsl d_ ty_ e_ n_ z_ ps_) :: l)) :: k) f h R Q = ST cd (ai (.bsl d_ ty_ e_ n_ z_ ps_) f h) l k R Q) ∧
    (∀ (cd : Nat → Option AF) (k : List KI) (f : Fr) (h : H) (R : List RV) (Q : V → H → Prop) (l : List IT) d_ x_ o_, WS cd (.c (.ops (.i (.fad d_ x_ o_) :: l)) :: k) f h R Q = ST cd (ai (.fad d_ x_ o_) f h) l k R Q) ∧
    (∀ (cd : Nat → Option AF) (k : List KI) (f : Fr) (h : H) (R : List RV) (Q : V → H → Prop) (l : List IT) d_ x_ i_ e_, WS cd (.c (.ops (.i (.iad d_ x_ i_ e_) :: l)) :: k) f h R Q = ST cd (ai (.iad d_ x_ i_ e_) f h) l k R Q) ∧
    (∀ (cd : Nat → Option AF) (k : List KI) (f : Fr) (h : H) (R : List RV) (Q : V → H → Prop) (l : List IT) d_ x_ i_ e_ n_, WS cd (.c (.ops (.i (.iaa d_ x_ i_ e_ n_) :: l)) :: k) f h R Q = ST cd (ai (.iaa d_ x_ i_ e_ n_) f h) l k R Q) ∧
    (∀ (cd : Nat → Option AF) (k : List KI) (f : Fr) (h : H) (R : List RV) (Q : V → H → Prop) (l : List IT) d_ r_ x_ n_ g_, WS cd (.c (.ops (.i (.ldl d_ r_ x_ n_ g_) :: l)) :: k) f h R Q = ST cd (ai (.ldl d_ r_ x_ n_ g_) f h) l k R Q) ∧
    (∀ (cd : Nat → Option AF) (k : List KI) (f : Fr) (h : H) (R : List RV) (Q : V → H → Prop) (l : List IT) d_ x_ n_ g_, WS cd (.c (.ops (.i (.ldh d_ x_ n_ g_) :: l)) :: k) f h R Q = ST cd (ai (.ldh d_ x_ n_ g_) f h) l k R Q) ∧
    (∀ (cd : Nat → Option AF) (k : List KI) (f : Fr) (h : H) (R : List RV) (Q : V → H → Prop) (l : List IT) r_ x_ v_ n_, WS cd (.c (.ops (.i (.stl r_ x_ v_ n_) :: l)) :: k) f h R Q = ST cd (ai (.stl r_ x_ v_ n_) f h) l k R Q) ∧
    (∀ (cd : Nat → Option AF) (k : List KI) (f : Fr) (h : H) (R : List RV) (Q : V → H → Prop) (l : List IT) x_ v_ n_, WS cd (.c (.ops (.i (.sth x_ v_ n_) :: l)) :: k) f h R Q = ST cd (ai (.sth x_ v_ n_) f h) l k R Q) ∧
    (∀ (cd : Nat → Option AF) (k : List KI) (f : Fr) (h : H) (R : List RV) (Q : V → H → Prop) (l : List IT) d_ op_ x_ y_, WS cd (.c (.ops (.i (.bin d_ op_ x_ y_) :: l)) :: k) f h R Q = ST cd (ai (.bin d_ op_ x_ y_) f h) l k R Q) ∧
    (∀ (cd : Nat → Option AF) (k : List KI) (f : Fr) (h : H) (R : List RV) (Q : V → H → Prop) (l : List IT) d_ n_ x_ y_, WS cd (.c (.ops (.i (.beq d_ n_ x_ y_) :: l)) :: k) f h R Q = ST cd (ai (.beq d_ n_ x_ y_) f h) l k R Q) ∧
    (∀ (cd : Nat → Option AF) (k : List KI) (f : Fr) (h : H) (R : List RV) (Q : V → H → Prop) (l : List IT) d_ n_ x_, WS cd (.c (.ops (.i (.snil d_ n_ x_) :: l)) :: k) f h R Q = ST cd (ai (.snil d_ n_ x_) f h) l k R Q) ∧
    (∀ (cd : Nat → Option AF) (k : List KI) (f : Fr) (h : H) (R : List RV) (Q : V → H → Prop) (l : List IT) d_ n_ x_ y_, WS cd (.c (.ops (.i (.geq d_ n_ x_ y_) :: l)) :: k) f h R Q = ST cd (ai (.geq d_ n_ x_ y_) f h) l k R Q) ∧
    (∀ (cd : Nat → Option AF) (k : List KI) (f : Fr) (h : H) (R : List RV) (Q : V → H → Prop) (l : List IT) d_ x_, WS cd (.c (.ops (.i (.neg d_ x_) :: l)) :: k) f h R Q = ST cd (ai (.neg d_ x_) f h) l k R Q) ∧
    (∀ (cd : Nat → Option AF) (k : List KI) (f : Fr) (h : H) (R : List RV) (Q : V → H → Prop) (l : List IT) d_ x_, WS cd (.c (.ops (.i (.not d_ x_) :: l)) :: k) f h R Q = ST cd (ai (.not d_ x_) f h) l k R Q) ∧
    (∀ (cd : Nat → Option AF) (k : List KI) (f : Fr) (h : H) (R : List RV) (Q : V → H → Prop) (l : List IT) d_ k_ x_, WS cd (.c (.ops (.i (.cvi d_ k_ x_) :: l)) :: k) f h R Q = ST cd (ai (.cvi d_ k_ x_) f h) l k R Q) ∧
    (∀ (cd : Nat → Option AF) (k : List KI) (f : Fr) (h : H) (R : List RV) (Q : V → H → Prop) (l : List IT) d_ x_, WS cd (.c (.ops (.i (.cbs d_ x_) :: l)) :: k) f h R Q = ST cd (ai (.cbs d_ x_) f h) l k R Q) ∧
    (∀ (cd : Nat → Option AF) (k : List KI) (f : Fr) (h : H) (R : List RV) (Q : V → H → Prop) (l : List IT) d_ ty_ e_ b_ z_ x_, WS cd (.c (.ops (.i (.mks d_ ty_ e_ b_ z_ x_) :: l)) :: k) f h R Q = ST cd (ai (.mks d_ ty_ e_ b_ z_ x_) f h) l k R Q) ∧
    (∀ (cd : Nat → Option AF) (k : List KI) (f : Fr) (h : H) (R : List RV) (Q : V → H → Prop) (l : List IT) d_ e_ x_ lo_ hi_, WS cd (.c (.ops (.i (.slc d_ e_ x_ lo_ hi_) :: l)) :: k) f h R Q = ST cd (ai (.slc d_ e_ x_ lo_ hi_) f h) l k R Q) ∧
    (∀ (cd : Nat → Option AF) (k : List KI) (f : Fr) (h : H) (R : List RV) (Q : V → H → Prop) (l : List IT) d_ x_ lo_ hi_, WS cd (.c (.ops (.i (.sls d_ x_ lo_ hi_) :: l)) :: k) f h R Q = ST cd (ai (.sls d_ x_ lo_ hi_) f h) l k R Q) ∧
    (∀ (cd : Nat → Option AF) (k : List KI) (f : Fr) (h : H) (R : List RV) (Q : V → H → Prop) (l : List IT) d_ x_ n_ e_, WS cd (.c (.ops (.i (.sla d_ x_ n_ e_) :: l)) :: k) f h R Q = ST cd (ai (.sla d_ x_ n_ e_) f h) l k R Q) ∧
    (∀ (cd : Nat → Option AF) (k : List KI) (f : Fr) (h : H) (R : List RV) (Q : V → H → Prop) (l : List IT) d_ x_ o_ n_ g_, WS cd (.c (.ops (.i (.fld d_ x_ o_ n_ g_) :: l)) :: k) f h R Q = ST cd (ai (.fld d_ x_ o_ n_ g_) f h) l k R Q) ∧
    (∀ (cd : Nat → Option AF) (k : List KI) (f : Fr) (h : H) (R : List RV) (Q : V → H → Prop) (l : List IT) d_ x_ i_ e_ n_ g_, WS cd (.c (.ops (.i (.idx d_ x_ i_ e_ n_ g_) :: l)) :: k) f h R Q = ST cd (ai (.idx d_ x_ i_ e_ n_ g_) f h) l k R Q) ∧
    (∀ (cd : Nat → Option AF) (k : List KI) (f : Fr) (h : H) (R : List RV) (Q : V → H → Prop) (l : List IT) d_ x_ i_, WS cd (.c (.ops (.i (.ids d_ x_ i_) :: l)) :: k) f h R Q = ST cd (ai (.ids d_ x_ i_) f h) l k R Q) ∧
    (∀ (cd : Nat → Option AF) (k : List KI) (f : Fr) (h : H) (R : List RV) (Q : V → H → Prop) (l : List IT) d_ x_ i_, WS cd (.c (.ops (.i (.ext d_ x_ i_) :: l)) :: k) f h R Q = ST cd (ai (.ext d_ x_ i_) f h) l k R Q) ∧
    (∀ (cd : Nat → Option AF) (k : List KI) (f : Fr) (h : H) (R : List RV) (Q : V → H → Prop) (l : List IT) d_ x_, WS cd (.c (.ops (.i (.nch d_ x_) :: l)) :: k) f h R Q = ST cd (ai (.nch d_ x_) f h) l k R Q) ∧
    (∀ (cd : Nat → Option AF) (k : List KI) (f : Fr) (h : H) (R : List RV) (Q : V → H → Prop) (l : List IT) d_ s_ x_, WS cd (.c (.ops (.i (.len d_ s_ x_) :: l)) :: k) f h R Q = ST cd (ai (.len d_ s_ x_) f h) l k R Q) ∧
    (∀ (cd : Nat → Option AF) (k : List KI) (f : Fr) (h : H) (R : List RV) (Q : V → H → Prop) (l : List IT) d_ ty_ e_ b_ x_ y_, WS cd (.c (.ops (.i (.app d_ ty_ e_ b_ x_ y_) :: l)) :: k) f h R Q = ST cd (ai (.app d_ ty_ e_ b_ x_ y_) f h) l k R Q) ∧
    (∀ (cd : Nat → Option AF) (k : List KI) (f : Fr) (h : H) (R : List RV) (Q : V → H → Prop) (l : List IT) d_ e_ x_ y_, WS cd (.c (.ops (.i (.cpy d_ e_ x_ y_) :: l)) :: k) f h R Q = ST cd (ai (.cpy d_ e_ x_ y_) f h) l k R Q) ∧
    (∀ (cd : Nat → Option AF) (k : List KI) (f : Fr) (h : H) (R : List RV) (Q : V → H → Prop) (l : List IT) d_ m_ x_ y_, WS cd (.c (.ops (.i (.mm d_ m_ x_ y_) :: l)) :: k) f h R Q = ST cd (ai (.mm d_ m_ x_ y_) f h) l k R Q) :=
  by (repeat' apply And.intro) <;> intros <;> exact WS_plain _ rfl _
end Go.Eng
