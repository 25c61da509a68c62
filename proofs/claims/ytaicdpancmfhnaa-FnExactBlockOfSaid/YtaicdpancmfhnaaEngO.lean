/-
  The engine, part O: bodies, functions, calls of calls.
-/
import Derived.Test.YtaicdpancmfhnaaEngN
set_option linter.unusedVariables false
set_option linter.unusedSimpArgs false
namespace Go.Eng
section
variable {T : Ctx} {μ μ' : Mu} {L : Nat → Nat} {f f' : Fr} {h h' : H} {w w' : World} {act : Act}
variable {K : Act → World → Prop} {Q : Exit → Act → World → Prop} {call : CallF} {ops : Array Oper}
/-- A loop whose rounds are counted down. -/
theorem wp_loop_n {P : Program} {c : Code} (I : Nat → Act → World → Prop) (round : ∀ n a w, I n a w → c.wp P (Exit.then (fun a' w' => ∃ m, m < n ∧ I m a' w') Q) a w) {n : Nat} {a : Act} (h0 : I n a w) : (Code.loop c).wp P Q a w := by
  intro b k cs
  have key : ∀ n a w, I n a w → ∃ e a' w', Q e a' w' ∧ Arrives P (lone (b.at a (.code c :: .inLoop c :: k)) cs w) b k cs e a' w' := by
    intro n
    induction n using Nat.strongRecOn with
    | _ n ih =>
      intro a w hI
      obtain ⟨e, a₁, w₁, hq, harr⟩ := round n a w hI b (.inLoop c :: k) cs
      cases e with
      | normal =>
        obtain ⟨m, hlt, hI₁⟩ := hq
        obtain ⟨e₂, a₂, w₂, hq₂, harr₂⟩ := ih m hlt a₁ w₁ hI₁
        exact ⟨e₂, a₂, w₂, hq₂, .of_steps (Steps.trans harr (.one step_inLoop)) harr₂⟩
      | exit id => exact ⟨_, a₁, w₁, hq, .pass (x := .inLoop c) rfl (fun _ _ => .inl (by simp)) harr⟩
      | goto l => exact ⟨_, a₁, w₁, hq, .pass (x := .inLoop c) rfl (fun _ _ => .inl (by simp)) harr⟩
      | ret => exact ⟨_, a₁, w₁, hq, .pass (x := .inLoop c) rfl (fun _ _ => .inl (by simp)) harr⟩
      | panic ch => exact ⟨_, a₁, w₁, hq, .pass (x := .inLoop c) rfl (fun _ _ => .inl (by simp)) harr⟩
      | outgrown => exact ⟨_, a₁, w₁, hq, .pass (x := .inLoop c) rfl (fun _ _ => .inl (by simp)) harr⟩
  obtain ⟨e, a', w', hq, harr⟩ := key n a w h0
  exact ⟨e, a', w', hq, .of_steps (.one step_loop) harr⟩
theorem forget_get : ∀ (ds : List Nat) (f : Fr) (s : Nat), (forget f ds).get s = if s ∈ ds then .any else f.get s
  | [], f, s => by simp [forget]
  | d :: ds, f, s => by
    rw [forget, forget_get ds, Fr.get_set]
    by_cases h1 : s ∈ ds
    · simp [h1]
    · by_cases h2 : s = d <;> simp [h1, h2]
theorem INV.forget (hi : INV T μ L f act.tmps h w) {ds : List Nat} (hd : ∀ s r o, f.get s = .lref r o → r ∈ ds → s ∈ ds) : INV T μ L (forget f ds) act.tmps h w := by
  have hloc : ∀ s cs, loc ((Eng.forget f ds).get s) = some cs → loc (f.get s) = some cs ∧ s ∉ ds := fun s cs e => by
    rw [forget_get] at e
    split at e
    · cases e
    · rename_i h1; exact ⟨e, h1⟩
  have hbox : ∀ s cs, (Eng.forget f ds).get s = .box cs → f.get s = .box cs := fun s cs e => by
    rw [forget_get] at e
    split at e
    · cases e
    · exact e
  refine ⟨hi.hp, ⟨hi.fp.nt, fun s => ?_, fun s cs hs => hi.fp.loc s cs (hloc s cs hs).1, fun s t cs es hst hs ht => hi.fp.bsep s t cs es hst (hbox s cs hs) (hloc t es ht).1, fun s cs hs => hi.fp.bty s cs (hbox s cs hs), fun s r o hs => ?_⟩,
    fun s cs id p ty es hs => hi.sep s cs id p ty es (hloc s cs hs).1⟩
  · rw [forget_get]
    split
    · trivial
    · exact hi.fp.slots s
  · rw [forget_get] at hs
    split at hs
    · cases hs
    · rename_i h1
      obtain ⟨k1, cs, k2⟩ := hi.fp.rty s r o hs
      refine ⟨k1, cs, ?_⟩
      rw [forget_get, if_neg (fun e => h1 (hd s r o hs e))]
      exact k2
theorem bitsOf_mem {m : Nat} : ∀ {n d : Nat}, d ∈ bitsOf m n → m.testBit d = true
  | 0, d, h => by simp [bitsOf] at h
  | n + 1, d, h => by
    simp only [bitsOf] at h
    split at h
    · rename_i e
      rcases List.mem_cons.1 h with rfl | h
      · exact e
      · exact bitsOf_mem h
    · exact bitsOf_mem h
theorem lookup_mem {s r : Nat} : ∀ {env : List (Nat × Nat)}, env.lookup s = some r → (s, r) ∈ env
  | [], h => by simp at h
  | (a, b) :: env, h => by
    simp only [List.lookup] at h
    split at h
    · rename_i e
      simp at h e
      subst h e
      simp
    · exact List.mem_cons_of_mem _ (lookup_mem h)
theorem compR_ops {P : Program} {I : Inf} {draw : Bool} {ac : AC} (hc : compR P I ops draw = some ac) : ∃ its, ac = .ops its := by
  unfold compR at hc
  repeat' split at hc
  all_goals first | (simp at hc; done) | (simp at hc; exact ⟨_, hc.symm⟩)
def exitOf : Ex → Exit
  | .norm => .normal
  | .exit id => .exit id
  | .ret => .ret
theorem code_ok (hcall : CallOk T.P call) {lf : Nat} : ∀ (c : Code) {out : Nat} {ac : AC} (hc : compC T.P T.I T.I.nt out c = some ac) {ex : Ex} {f' : Fr} {h' : H} {μ : Mu} {L : Nat → Nat} {f : Fr} {h : H} {act : Act} {w : World} {Q : Exit → Act → World → Prop},
    INV T μ L f act.tmps h w → run call lf ac f h = some (ex, f', h') → Goes T μ act f' h' (Q (exitOf ex)) → c.wp T.P Q act w := by
  intro c
  induction c with
  | skip =>
    intro out ac hc ex f' h' μ L f h act w Q hi hr hk
    simp [compC] at hc
    subst hc
    simp only [run, Option.some.injEq, Prod.mk.injEq] at hr
    obtain ⟨rfl, rfl, rfl⟩ := hr
    exact wp_skip (hk μ L act w hi (MuLe.refl _) rfl)
  | region id ops draw =>
    intro out ac hc ex f' h' μ L f h act w Q hi hr hk
    simp only [compC] at hc
    obtain ⟨its, rfl⟩ := compR_ops hc
    simp only [run] at hr
    split at hr
    · rename_i f1 h1 e
      simp only [Option.some.injEq, Prod.mk.injEq] at hr
      obtain ⟨rfl, rfl, rfl⟩ := hr
      exact region_ok hi hcall hc e hk
    · simp at hr
  | seq a b iha ihb =>
    intro out ac hc ex f' h' μ L f h act w Q hi hr hk
    simp only [compC] at hc
    split at hc
    · rename_i x y h1 h2
      simp at hc
      subst hc
      simp only [run] at hr
      refine wp_seq ?_
      split at hr
      · rename_i f1 k1 e
        exact iha h1 hi e fun μ1 L1 act1 w1 hi1 hm1 hd1 => ihb h2 hi1 hr (hk.trans hm1 hd1)
      · rename_i hne
        cases hra : run call lf x f h with
        | none => rw [hra] at hr; simp at hr
        | some r =>
          obtain ⟨ex1, f1, k1⟩ := r
          rw [hra] at hr
          simp only [Option.some.injEq, Prod.mk.injEq] at hr
          obtain ⟨rfl, rfl, rfl⟩ := hr
          refine iha h1 hi hra ?_
          cases ex1 with
          | norm => exact absurd hra (hne _ _)
          | exit id => exact hk
          | ret => exact hk
    · simp at hc
  | cond x a b iha ihb =>
    intro out ac hc ex f' h' μ L f h act w Q hi hr hk
    simp only [compC] at hc
    split at hc
    · rename_i z y1 y2 hz h1 h2
      simp at hc
      subst hc
      simp only [run] at hr
      split at hr
      · rename_i e
        exact wp_cond_true (ev1_ok hi.fp hz e) (iha h1 hi hr hk)
      · rename_i e
        exact wp_cond_false (ev1_ok hi.fp hz e) (ihb h2 hi hr hk)
      · simp at hr
    · simp at hc
  | block id b ihb =>
    intro out ac hc ex f' h' μ L f h act w Q hi hr hk
    simp only [compC] at hc
    split at hc
    · rename_i x h1
      simp at hc
      subst hc
      simp only [run] at hr
      refine wp_block ?_
      cases hrb : run call lf x f h with
      | none => rw [hrb] at hr; simp at hr
      | some r =>
        obtain ⟨ex1, f1, k1⟩ := r
        rw [hrb] at hr
        cases ex1 with
        | norm =>
          simp only [Option.some.injEq, Prod.mk.injEq] at hr
          obtain ⟨rfl, rfl, rfl⟩ := hr
          exact ihb h1 hi hrb hk
        | ret =>
          simp only [Option.some.injEq, Prod.mk.injEq] at hr
          obtain ⟨rfl, rfl, rfl⟩ := hr
          exact ihb h1 hi hrb hk
        | exit id' =>
          simp only at hr
          refine ihb h1 hi hrb ?_
          intro μ1 L1 act1 w1 hi1 hm1 hd1
          simp only [exitOf, Exit.inBlock]
          split at hr
          · rename_i e
            simp only [Option.some.injEq, Prod.mk.injEq] at hr
            obtain ⟨rfl, rfl, rfl⟩ := hr
            rw [if_pos e]
            exact hk μ1 L1 act1 w1 hi1 hm1 hd1
          · rename_i e
            simp only [Option.some.injEq, Prod.mk.injEq] at hr
            obtain ⟨rfl, rfl, rfl⟩ := hr
            rw [if_neg e]
            exact hk μ1 L1 act1 w1 hi1 hm1 hd1
    · simp at hc
  | loop b ihb =>
    intro out ac hc ex f' h' μ L f h act w Q hi hr hk
    simp only [compC] at hc
    split at hc
    · rename_i x h1
      split at hc
      · rename_i henv
        simp only [Option.some.injEq] at hc
        subst hc
        simp only [run] at hr
        refine wp_loop_n (fun n act1 w1 => ∃ μ1 L1 f1 k1, INV T μ1 L1 f1 act1.tmps k1 w1 ∧ MuLe μ μ1 ∧ act1.defers = act.defers ∧ rounds (run call lf x) _ n f1 k1 = some (ex, f', h')) ?_ ⟨μ, L, f, h, hi, MuLe.refl _, rfl, hr⟩
        intro n act1 w1 ⟨μ1, L1, f1, k1, hi1, hm1, hd1, hr1⟩
        cases n with
        | zero => simp [rounds] at hr1
        | succ n =>
          simp only [rounds] at hr1
          have hi2 := hi1.forget (ds := bitsOf (defsOf (opsOf b) ^^^ defsOf (opsOf b) &&& out) T.I.nt) (fun s r o hs hrd => by
            obtain ⟨q1, _⟩ := hi1.fp.rty s r o hs
            have q2 := lookup_mem q1
            have q3 := List.all_eq_true.1 henv (s, r) q2
            simp only [Bool.or_eq_true, Bool.not_eq_true', List.contains_iff_mem] at q3
            rcases q3 with q3 | q3
            · rw [bitsOf_mem hrd] at q3; cases q3
            · exact q3)
          cases hrb : run call lf x (Eng.forget f1 (bitsOf (defsOf (opsOf b) ^^^ defsOf (opsOf b) &&& out) T.I.nt)) k1 with
          | none => rw [hrb] at hr1; simp at hr1
          | some r =>
            obtain ⟨ex2, f2, k2⟩ := r
            rw [hrb] at hr1
            cases ex2 with
            | norm =>
              exact ihb h1 hi2 hrb fun μ3 L3 act3 w3 hi3 hm3 hd3 => ⟨n, by omega, μ3, L3, f2, k2, hi3, hm1.trans hm3, hd3.trans hd1, hr1⟩
            | exit id =>
              simp only [Option.some.injEq, Prod.mk.injEq] at hr1
              obtain ⟨rfl, rfl, rfl⟩ := hr1
              exact ihb h1 hi2 hrb (Goes.trans (K := Q _) hm1 hd1 hk)
            | ret =>
              simp only [Option.some.injEq, Prod.mk.injEq] at hr1
              obtain ⟨rfl, rfl, rfl⟩ := hr1
              exact ihb h1 hi2 hrb (Goes.trans (K := Q _) hm1 hd1 hk)
      · simp at hc
    · simp at hc
  | exit id =>
    intro out ac hc ex f' h' μ L f h act w Q hi hr hk
    simp [compC] at hc
    subst hc
    simp only [run, Option.some.injEq, Prod.mk.injEq] at hr
    obtain ⟨rfl, rfl, rfl⟩ := hr
    exact wp_exit (hk μ L act w hi (MuLe.refl _) rfl)
  | ret =>
    intro out ac hc ex f' h' μ L f h act w Q hi hr hk
    simp [compC] at hc
    subst hc
    simp only [run, Option.some.injEq, Prod.mk.injEq] at hr
    obtain ⟨rfl, rfl, rfl⟩ := hr
    exact wp_ret (hk μ L act w hi (MuLe.refl _) rfl)
  | _ =>
    intro out ac hc
    simp [compC] at hc
/-! ### Functions -/
theorem enter0_get : ∀ (vs : List (Bool × List C)) (f : Fr) (n s : Nat), (enter0 f n vs).get s = if n ≤ s then (match vs[s - n]? with | some (g, cs) => .val g cs | none => f.get s) else f.get s
  | [], f, n, s => by simp [enter0]
  | (g, cs) :: r, f, n, s => by
    rw [enter0, enter0_get r, Fr.get_set]
    by_cases h1 : n + 1 ≤ s
    · have e1 : s - n = (s - (n + 1)) + 1 := by omega
      have e2 : n ≤ s := by omega
      have e3 : s ≠ n := by omega
      rw [if_pos h1, if_pos e2, if_neg e3, e1, List.getElem?_cons_succ]
    · rw [if_neg h1]
      by_cases h2 : s = n
      · subst h2
        simp
      · have : ¬ n ≤ s := by omega
        rw [if_neg h2, if_neg this]
/-- One result. -/
def resF (tm : Array Value) (r : ResultVar) : Sem Value :=
  match r with
  | .tmp t => pure (tm.getD t undef)
  | .cell a t => do loadVar t (← asAddr (tm.getD a undef))
theorem res_ok (hi : INV T μ L f act.tmps h w) : ∀ {rs : List ResultVar} {res : List RV} {vs : List (Bool × List C)}, rvsOf T.P rs = some res → resL f res = some vs →
    ∃ us : List Value, (rs.mapM (resF act.tmps)).run T.P w = .ok us w ∧ All2 (fun p u => VG μ p.1 p.2 u) vs us
  | [], res, vs, h1, h2 => by
    simp [rvsOf] at h1
    subst h1
    simp [resL] at h2
    subst h2
    exact ⟨[], by simp, trivial⟩
  | r :: rs, res, vs, h1, h2 => by
    simp only [rvsOf] at h1
    split at h1
    · rename_i v vs' e1 e2
      simp at h1
      subst h1
      simp only [resL] at h2
      split at h2
      · rename_i u us' e3 e4
        simp at h2
        subst h2
        obtain ⟨us, k1, k2⟩ := res_ok hi e2 e4
        cases r with
        | tmp t =>
          simp [rvOf] at e1
          subst e1
          simp only [res1] at e3
          refine ⟨act.tmps.getD t undef :: us, ?_, evp_ok hi.fp (x := .tmp t) rfl e3, k2⟩
          rw [List.mapM_cons]
          simp only [resF, Sem.run_bind, Sem.run_pure, Result.andThen_ok, k1]
        | cell a t =>
          simp only [rvOf] at e1
          split at e1
          · rename_i n g hs
            simp at e1
            subst e1
            simp only [res1] at e3
            split at e3
            · rename_i cs hb
              split at e3
              · rename_i hn
                simp at e3
                subst e3
                have hv : act.tmps.getD a undef = .pointer (some ⟨L a, 0, none⟩) := by have := hi.fp.slots a; rw [hb] at this; exact this
                obtain ⟨ty, arr, q1, q2⟩ := box_at hi.fp hb
                obtain ⟨v, q3, q4⟩ := run_loadVar hs w ⟨L a, 0, none⟩ hn.symm q2 (fun j v hj => by rw [add_at, Nat.zero_add]; exact cell_at q1 hj)
                refine ⟨v :: us, ?_, q4, k2⟩
                rw [List.mapM_cons]
                simp only [resF, Sem.run_bind, Sem.run_pure, Result.andThen_ok, k1, hv, asAddr, q3]
              · simp at e3
            · simp at e3
          · simp at e1
      · simp at h2
    · simp at h1
theorem run_results (hi : INV T μ L f act.tmps h w) {fn : Func} {res : List RV} (h1 : rvsOf T.P fn.results.toList = some res) {v : V} (h2 : resV f res = some v) : ∃ r, (results fn act.tmps).run T.P w = .ok r w ∧ VR μ v r := by
  unfold resV at h2
  have main : ∀ vs, resL f res = some vs → ∃ us : List Value, us.length = vs.length ∧ All2 (fun p u => VG μ p.1 p.2 u) vs us ∧ (results fn act.tmps).run T.P w = .ok (if h : us.toArray.size = 1 then us.toArray[0] else .tuple us.toArray) w := by
    intro vs hvs
    obtain ⟨us, k1, k2⟩ := res_ok hi h1 hvs
    refine ⟨us, k2.length.symm, k2, ?_⟩
    have e0 : results fn act.tmps = (do let vs ← fn.results.mapM (resF act.tmps); pure (if h : vs.size = 1 then vs[0] else .tuple vs)) := rfl
    rw [e0, Array.mapM_eq_mapM_toList]
    simp only [Sem.run_bind, Sem.run_map, k1]
    rfl
  split at h2
  · rename_i g cs hvs
    simp at h2
    subst h2
    obtain ⟨us, k1, k2, k3⟩ := main _ hvs
    match us, k1, k2 with
    | [u], _, k2 => exact ⟨u, k3, k2.1⟩
  · rename_i vs hne hvs
    simp at h2
    subst h2
    obtain ⟨us, k1, k2, k3⟩ := main _ hvs
    refine ⟨.tuple us.toArray, ?_, us.toArray, rfl, by simpa using k2⟩
    have : ¬ us.toArray.size = 1 := by
      intro e
      have e1 : vs.length = 1 := by rw [← k1]; simpa using e
      match vs, e1 with
      | [(g, cs)], _ => exact hne g cs rfl
    rw [dif_neg this] at k3
    exact k3
  · simp at h2
end
theorem fun_ok {P : Program} {call : CallF} (hcall : CallOk P call) {lf g : Nat} {fn : Func} {af : AF} (hf : P.funcs[g]? = some fn) (hc : compF P fn = some af) {vs : List (Bool × List C)} {h : H} {v : V} {h' : H} (hr : runF call lf af vs h = some (v, h')) :
    ((fn.name == "runtime.NumGoroutine") = false ∧ fn.body.isNone = false) ∧
    ∀ (T : Ctx) (μ : Mu) (w : World) (args : Array Value), T.P = P → HP T μ h w → All2 (fun p u => VG μ p.1 p.2 u) vs args.toList →
      Calls P g args w fun
        | .returned r, w' => ∃ μ', MuLe μ μ' ∧ HP T μ' h' w' ∧ VR μ' v r
        | _, _ => False := by
  unfold compF at hc
  split at hc
  · simp at hc
  · rename_i hname
    split at hc
    · rename_i b res hb hres
      simp only at hc
      split at hc
      · rename_i c hcc
        split at hc
        · rename_i hle
          simp only [Option.some.injEq] at hc
          subst hc
          refine ⟨⟨by simpa using hname, by rw [hb]; rfl⟩, fun T μ w args hP hh hargs => ?_⟩
          obtain ⟨TP, TI, Tb, Tw, TB⟩ := T
          simp only at hP
          subst hP
          unfold runF at hr
          split at hr
          · rename_i hlen
            simp only at hlen
            have hasz : args.size = vs.length := by have := hargs.length; simp at this; omega
            let T' : Ctx := ⟨TP, ⟨escOf TP fn (opsOf b), rootsOf TP (escOf TP fn (opsOf b)) [] (opsOf b), usesAll (opsOf b), fn.ntmps⟩, Tb, Tw, TB⟩
            have hh' : HP T' μ h w := HP.sameI (T := ⟨TP, TI, Tb, Tw, TB⟩) (T' := T') rfl rfl rfl hh
            have hget : ∀ s, (enter0 (PT.full (depth fn.ntmps)) 0 vs : Fr).get s = match vs[s]? with | some (g, cs) => .val g cs | none => .any := fun s => by
              rw [enter0_get, if_pos (Nat.zero_le _), Nat.sub_zero, Fr.get_full]
            have hnl : ∀ s cs, loc ((enter0 (PT.full (depth fn.ntmps)) 0 vs : Fr).get s) ≠ some cs := fun s cs e => by
              rw [hget] at e
              split at e <;> cases e
            have hi : INV T' μ (fun _ => 0) (enter0 (PT.full (depth fn.ntmps)) 0 vs) (args ++ Array.replicate (fn.ntmps - args.size) undef) h w := by
              refine ⟨hh', ⟨?_, fun s => ?_, fun s cs hs => absurd hs (hnl s cs), fun s t cs ds _ _ ht => absurd ht (hnl t ds), fun s cs hs => absurd (show loc _ = some cs by rw [hs]; rfl) (hnl s cs), fun s r o hs => ?_⟩, fun s cs id p ty ds hs => absurd hs (hnl s cs)⟩
              · simp only [Array.size_append, Array.size_replicate]
                show args.size + (fn.ntmps - args.size) = fn.ntmps
                omega
              · rw [hget]
                cases e : vs[s]? with
                | none => trivial
                | some p =>
                  obtain ⟨u, h1, h2⟩ := hargs.get e
                  have h1' : args[s]? = some u := by simpa using h1
                  obtain ⟨hlt, h3⟩ := Array.getElem?_eq_some_iff.1 h1'
                  have : (args ++ Array.replicate (fn.ntmps - args.size) undef).getD s undef = u := by
                    rw [Array.getD_eq_getD_getElem?, Array.getElem?_append_left hlt, h1']
                    rfl
                  rw [this]
                  exact h2
              · rw [hget] at hs
                split at hs <;> cases hs
            have hend : ∀ ex fE hE, run call lf c (enter0 (PT.full (depth fn.ntmps)) 0 vs) h = some (ex, fE, hE) → (ex = .norm ∨ ex = .ret) → ∀ u, resV fE res = some u → Calls TP g args w fun
                | .returned r, w' => ∃ μ', MuLe μ μ' ∧ HP ⟨TP, TI, Tb, Tw, TB⟩ μ' hE w' ∧ VR μ' u r
                | _, _ => False := by
              intro ex fE hE hrun hex u hu
              refine calls_of_wp hf hb (code_ok (T := T') (act := { tmps := args ++ Array.replicate (fn.ntmps - args.size) undef, defers := [] }) hcall b hcc hi hrun ?_)
              intro μ' L' act' w' hi' hm' hd'
              obtain ⟨r, h1, h2⟩ := run_results hi' hres hu
              have : act'.defers = [] ∧ ∃ v, (results fn act'.tmps).run TP w' = .ok v w' ∧ ∃ μ', MuLe μ μ' ∧ HP ⟨TP, TI, Tb, Tw, TB⟩ μ' hE w' ∧ VR μ' u v := ⟨hd', r, h1, μ', hm', HP.sameI (T := T') (T' := ⟨TP, TI, Tb, Tw, TB⟩) rfl rfl rfl hi'.hp, h2⟩
              rcases hex with rfl | rfl
              · exact this
              · exact this
            split at hr
            · rename_i fE hE hrun
              split at hr
              · rename_i u hu
                simp only [Option.some.injEq, Prod.mk.injEq] at hr
                obtain ⟨rfl, rfl⟩ := hr
                exact hend _ _ _ hrun (.inl rfl) _ hu
              · simp at hr
            · rename_i fE hE hrun
              split at hr
              · rename_i u hu
                simp only [Option.some.injEq, Prod.mk.injEq] at hr
                obtain ⟨rfl, rfl⟩ := hr
                exact hend _ _ _ hrun (.inr rfl) _ hu
              · simp at hr
            · simp at hr
          · simp at hr
        · simp at hc
      · simp at hc
    · simp at hc
/-- THE SOUNDNESS. -/
theorem callN_ok (P : Program) : ∀ n, CallOk P (callN (code P) n)
  | 0 => fun g vs h v h' hr => by simp [callN] at hr
  | n + 1 => fun g vs h v h' hr => by
    simp only [callN] at hr
    split at hr
    · rename_i a ha
      unfold code at ha
      split at ha
      · rename_i fn hfn
        obtain ⟨h1, h2⟩ := fun_ok (callN_ok P n) hfn ha hr
        exact ⟨⟨fn, hfn, h1.1, h1.2⟩, h2⟩
      · simp at ha
    · simp at hr
end Go.Eng
