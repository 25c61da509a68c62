/-
  The engine, part Q: from the abstract run of a law to the statement's own form.
-/
import Derived.Test.YtaicdpancmfhnaaEngP
import Derived.WalkKit
import Derived.ProofKit
import Derived.OpenShut
import Derived.ShutString
import Derived.ChangeOld
import Derived.Below
set_option linter.unusedVariables false
set_option linter.unusedSimpArgs false
namespace Go.Eng
open Go.ChangeShapes Go.WideShapes Go.ChangeAt Go.RowKit
/-- What a law is called with. -/
def Argp (h : H) : List Ty → List (Bool × List C) → Prop
  | [], vs => vs = []
  | T :: Ts, vs => ∃ cs v S r, vs = (T.agg, cs) :: r ∧ Rp h T cs v S ∧ Argp h Ts r
def tysL (P : Program) : List TypeId → Option (List Ty)
  | [] => some []
  | t :: ts => match tyOf P 60 t, tysL P ts with
    | some T, some Ts => some (T :: Ts)
    | _, _ => none
section
variable {X : Type} {enc : TypeId × Value → X} {P : Program} {w : World}
theorem Argp.app {h t : H} : ∀ {Ts : List Ty} {vs : List (Bool × List C)}, Argp h Ts vs → Argp (h ++ t) Ts vs
  | [], _, h => h
  | _ :: _, _, ⟨cs, v, S, r, h1, h2, h3⟩ => ⟨cs, v, S, r, h1, h2.app, Argp.app h3⟩
theorem vg_of {μ : Mu} {n : Nat} {t : TypeId} {T : Ty} (ht : tyOf P n t = some T) {v : Value} {b : Nat} (hv : Value.okWide P w .any b t v) {xs : List C} (hx : All2 (CR μ) xs v.cells.toList) : VG μ T.agg xs v := by
  cases n with
  | zero => simp [tyOf] at ht
  | succ n =>
    have one : ∀ c : C, (∀ cs, v ≠ .agg cs) → xs.length = 1 → VG μ false xs v := by
      intro c hna hl
      have hc : v.cells = #[v] := by cases v <;> first | rfl | exact absurd rfl (hna _)
      rw [hc] at hx
      match xs, hx with
      | [c], hx => exact ⟨c, rfl, hx.1⟩
    have hlen := hx.length
    simp only [tyOf] at ht
    split at ht
    · rename_i k hu
      simp at ht; subst ht
      simp only [Value.okWide, hu, Cell.okWide, Cell.ok] at hv
      cases v <;> simp at hv
      exact one .nilp (fun _ e => by cases e) (by simpa [Value.cells] using hlen)
    · rename_i hu
      simp at ht; subst ht
      simp only [Value.okWide, hu, Cell.okWide, Cell.ok] at hv
      cases v <;> simp at hv
      exact one .nilp (fun _ e => by cases e) (by simpa [Value.cells] using hlen)
    · rename_i hu
      simp at ht; subst ht
      simp only [Value.okWide, hu, Cell.okWide, Cell.ok] at hv
      cases v <;> simp at hv
      exact one .nilp (fun _ e => by cases e) (by simpa [Value.cells] using hlen)
    · rename_i e hu
      split at ht
      · split at ht
        · simp at ht; subst ht
          simp only [Value.okWide, hu, Cell.okWide, Cell.ok] at hv
          cases v <;> simp at hv
          exact one .nilp (fun _ e => by cases e) (by simpa [Value.cells] using hlen)
        · simp at ht
      · simp at ht
    · rename_i fs hu
      split at ht
      · split at ht
        · simp at ht; subst ht
          simp only [Value.okWide, hu] at hv
          obtain ⟨cs, rfl, _⟩ := hv
          exact ⟨cs, rfl, hx⟩
        · simp at ht
      · simp at ht
    · simp at ht
theorem open_all : ∀ {ts : List TypeId} {Ts : List Ty}, tysL P ts = some Ts → ∀ {vs : List Value} {ds : List (DataW X)} {ps : List MemPlace}, DataW.TrodAll enc P w 0 (fun _ => true) true ts vs ds ps →
    (∀ (j : Nat) t v, ts[j]? = some t → vs[j]? = some v → ∃ b, Value.okWide P w .any b t v) → ∀ μ h, RO w μ h →
    ∃ t μ' us, RO w μ' (h ++ t) ∧ MuLe μ μ' ∧ All2 (fun p u => VG μ' p.1 p.2 u) us vs ∧ Argp (h ++ t) Ts us
  | [], Ts, hT, vs, ds, ps, hd, hv, μ, h, hr => by
    simp [tysL] at hT
    subst hT
    cases vs with
    | nil => exact ⟨[], μ, [], by simpa using hr, MuLe.refl _, trivial, rfl⟩
    | cons v vs => cases ds <;> exact hd.elim
  | t :: ts, Ts, hT, vs, ds, ps, hd, hv, μ, h, hr => by
    simp only [tysL] at hT
    split at hT
    · rename_i T Ts' h1 h2
      simp at hT
      subst hT
      cases vs with
      | nil => cases ds <;> exact hd.elim
      | cons v vs =>
        cases ds with
        | nil => exact hd.elim
        | cons d ds =>
          obtain ⟨p, q, ⟨fuel, hx⟩, hq, _⟩ := hd
          obtain ⟨t1, μ1, xs, v1, S1, k1, k2, k3, k4⟩ := open_ty h1 hx μ h hr
          obtain ⟨t2, μ2, us, q1, q2, q3, q4⟩ := open_all h2 hq (fun j t' v' e1 e2 => hv (j + 1) t' v' (by simpa using e1) (by simpa using e2)) μ1 (h ++ t1) k1
          obtain ⟨b, hok⟩ := hv 0 t v rfl rfl
          refine ⟨t1 ++ t2, μ2, (T.agg, xs) :: us, by rw [← List.append_assoc]; exact q1, k2.trans q2, ⟨vg_of h1 hok (k3.imp fun _ _ => CR.mono q2), q3⟩, xs, v1, S1, us, rfl, by rw [← List.append_assoc]; exact k4.app, by rw [← List.append_assoc]; exact q4⟩
    · simp at hT
/-- THE WALK of a law. -/
theorem walk_of {f : FuncId} {ts : List TypeId} {Ts : List Ty} (hT : tysL P ts = some Ts) (hrun : ∀ h vs, Argp h Ts vs → WC (code P) f vs h (fun v _ => v = .val false [.bool true]))
    {args : Array Value} {ds : List (DataW X)} {ps : List MemPlace} (hd : DataW.TrodAll enc P w 0 (fun _ => true) true ts args.toList ds ps) (hv : ∀ (j : Nat) t v, ts[j]? = some t → args.toList[j]? = some v → ∃ b, Value.okWide P w .any b t v) :
    Calls P f args w fun e w' => e = .returned (.bool true) ∧ Below w.heap.size w w' := by
  have hr0 : RO w (fun _ => none) [] := ⟨fun id p e => (by cases e), fun id b e => (by simp at e), fun id p cs e => (by cases e)⟩
  obtain ⟨t, μ, us, h1, _, h3, h4⟩ := open_all hT hd hv _ [] hr0
  obtain ⟨n, v, h', h5, h6⟩ := hrun _ us h4
  have hown : ∀ (id : Nat) (ty : Nat) (cs : List C), ([] ++ t : H)[id]? ≠ some (.own ty cs) := fun id ty cs e => by
    obtain ⟨_, e2⟩ := h1.ro id _ e
    cases e2
  have hp : HP ⟨P, ⟨0, [], 0, 0⟩, w.heap.size, w, fun _ => False⟩ μ ([] ++ t) w :=
    ⟨rfl, rfl, rfl, Nat.le_refl _, Nat.le_refl _, fun _ _ _ => rfl, h1.dom, fun id p ty cs _ e => absurd e (hown id ty cs), fun id p cs e1 e2 => h1.at_ id p cs e1 e2, fun id id' p p' ty ty' cs cs' _ _ _ e => absurd e (hown id ty cs), fun id p ty cs _ e => absurd e (hown id ty cs), fun _ e => e.elim⟩
  refine ((callN_ok P n f us _ v h' h5).2 _ μ w args rfl hp h3).mono fun e w' he => ?_
  cases e with
  | returned r =>
    obtain ⟨μ', _, k2, k3⟩ := he
    subst h6
    obtain ⟨c, e1, e2⟩ := k3
    simp at e1
    subst e1
    have e3 : r = .bool true := e2
    exact ⟨by rw [e3], k2.hos, k2.htape, k2.hout, k2.hsz, fun k hk => k2.keep k hk (fun e => e)⟩
  | panicked _ => exact he.elim
  | outgrown => exact he.elim
theorem below_all (hl : laidOutB P = true) {w' : World} (hb : Below w.heap.size w w') : ∀ {ts : List TypeId}, (∀ t ∈ ts, P.readableRec t = true ∧ t < P.types.size) → ∀ {vs : List Value} {ds : List (DataW X)} {ps : List MemPlace}, DataW.TrodAll enc P w 0 (fun _ => true) true ts vs ds ps →
    DataW.TrodAll enc P w' 0 (fun b => decide (b < w.heap.size)) true ts vs ds ps
  | [], _, vs, ds, ps, h => by
    cases vs <;> cases ds <;> first | exact h | exact h.elim
  | t :: ts, ht, vs, ds, ps, h => by
    cases vs with
    | nil => cases ds <;> exact h.elim
    | cons v vs =>
      cases ds with
      | nil => exact h.elim
      | cons d ds =>
        obtain ⟨p, q, h1, h2, h3⟩ := h
        obtain ⟨k1, k2⟩ := ht t (by simp)
        have hlt : ∀ x ∈ p, x.block < w.heap.size := by obtain ⟨m, hm⟩ := h1; exact DataW.trod_lt m _ _ _ hm
        exact ⟨p, q, Below.trod hl k1 k2 h1 hb hlt, below_all hl hb (fun t' h' => ht t' (by simp [h'])) h2, h3⟩
theorem trodAll_len : ∀ {ts : List TypeId} {vs : List Value} {ds : List (DataW X)} {ps : List MemPlace} {w : World} {sp : Nat → Bool}, DataW.TrodAll enc P w 0 sp true ts vs ds ps → ds.length = ts.length
  | [], vs, ds, ps, w, sp, h => by cases vs <;> cases ds <;> first | rfl | exact h.elim
  | t :: ts, vs, ds, ps, w, sp, h => by
    cases vs with
    | nil => cases ds <;> exact h.elim
    | cons v vs =>
      cases ds with
      | nil => exact h.elim
      | cons d ds => obtain ⟨p, q, _, h2, _⟩ := h; simp [trodAll_len h2]
end
/-- THE ROW's STEP. -/
theorem lifted_of {C : Checked} {os : Os} {f : FuncId} {fn : Func} {s : ChangeSpec} {conds : List PathCond} {X : Type} {enc : TypeId × Value → X} (own : ownKnob C.prog.godebug = none) (started : os.Started) (noInit : C.prog.inits.idxOf? f = none) (hfn : C.prog.funcs[f]? = some fn)
    (witness : ∃ (w : World) (tape : Tape) (i : Input), w.os = os ∧ (w.forCall tape i).Shaped C.prog ∧ i.vars = [] ∧ Input.okWide C.prog (w.forCall tape i) .any w.heap.size f i ∧
      s.pre6 enc C.prog fn conds false (w.forCall tape i).memory i.args ∧ Assume.holds {} C.prog (lone (Frame.enter C.prog f i.args .normal) [] (w.forCall tape i)))
    {Ts : List Ty} (hT : tysL C.prog fn.params.toList = some Ts) (hrun : ∀ h vs, Argp h Ts vs → WC (code C.prog) f vs h (fun v _ => v = .val false [.bool true]))
    (hvars : s.vars = []) (hspec : ∀ ds : List (DataW X), ds.length = fn.params.toList.length → s.fn X ds = { results := [.lit (.bool true)], args := ds })
    {tb : TypeId} (hres : fn.resultTypes.toList = [tb]) (htb : C.prog.underlying tb = some .bool) (laid : laidOutB C.prog = true) (hrd : ∀ t ∈ fn.params.toList, C.prog.readableRec t = true ∧ t < C.prog.types.size) :
    ReturnsInHanded {} C os f .any (s.pre6 enc C.prog fn conds false) (s.post enc C.prog fn false true false false) := by
  refine returnsInHanded_of_change own started noInit hfn witness ?_
  intro W base args ds gs before hval hW _ _
  have hW' := hW
  obtain ⟨p, q, hA, hV, rfl, hfz, hnd⟩ := hW
  rw [hvars] at hV
  obtain ⟨rfl, rfl⟩ := trodVars_none hV
  refine (walk_of hT hrun hA (fun j t v e1 e2 => ⟨base, hval j t v (by simpa using e1) (by simpa using e2)⟩)).mono fun e W' ⟨he, bel⟩ => ?_
  subst he
  refine ⟨_, rfl, ds, [], _, [], p, [], hW', ?_, ?_, ?_, bel.frame _, fun h => by cases h⟩
  · rw [List.append_nil, hspec ds (trodAll_len hA), hres]
    have hsz : fn.resultTypes.size = 1 := by
      have := congrArg List.length hres
      simpa using this
    rw [hsz]
    exact trodAll_mk1 (shut_bool htb _)
  · rw [List.append_nil, hspec ds (trodAll_len hA)]
    exact below_all laid bel hrd hA
  · rw [List.append_nil, hspec ds (trodAll_len hA), hvars]
    exact rfl
end Go.Eng
