/-
  The engine, part L: any operation of the text; calls; guards.
-/
import Derived.Test.YtaicdpancmfhnaaEngJ
set_option linter.unusedVariables false
set_option linter.unusedSimpArgs false
namespace Go.Eng
def dn : Option Nat → Nat
  | none => 0
  | some d => d + 1
/-- A function's result. -/
def VR (μ : Mu) : V → Value → Prop
  | .val g cs, r => VG μ g cs r
  | .tup vs, r => TG μ vs r
  | _, _ => False
theorem HP.sameI {T T' : Ctx} {μ : Mu} {h : H} {w : World} (hb : T'.base = T.base) (hw : T'.w0 = T.w0) (hB : T'.B0 = T.B0) (hh : HP T μ h w) : HP T' μ h w := by
  obtain ⟨P, I, base, w0, B0⟩ := T
  obtain ⟨P', I', base', w0', B0'⟩ := T'
  cases hb; cases hw; cases hB
  exact ⟨hh.hos, hh.htape, hh.hout, hh.hsz, hh.hb, hh.keep, hh.dom, hh.own, hh.ro, hh.ex, hh.ownb, hh.rob⟩
/-- What the abstract calls say of the machine's. -/
def CallOk (P : Program) (call : CallF) : Prop :=
  ∀ g vs h v h', call g vs h = some (v, h') → (∃ fn, P.funcs[g]? = some fn ∧ (fn.name == "runtime.NumGoroutine") = false ∧ fn.body.isNone = false) ∧
    ∀ (T : Ctx) (μ : Mu) (w : World) (args : Array Value), T.P = P → HP T μ h w → All2 (fun p u => VG μ p.1 p.2 u) vs args.toList →
      Calls P g args w fun
        | .returned r, w' => ∃ μ', MuLe μ μ' ∧ HP T μ' h' w' ∧ VR μ' v r
        | _, _ => False
section
variable {T : Ctx} {μ μ' : Mu} {L : Nat → Nat} {f f' : Fr} {h h' : H} {w w' : World} {act : Act}
variable {o : Oper} {K : Act → World → Prop} {Q : Exit → Act → World → Prop} {d : Nat}
/-- The blocks that a call may write. -/
def alive (μ : Mu) (h : H) (k : Nat) : Prop := ∃ id p ty cs, μ id = some p ∧ h[id]? = some (.own ty cs) ∧ p.blk = k
theorem HP.enter (hh : HP T μ h w) : HP { T with w0 := w, B0 := alive μ h } μ h w where
  hos := rfl
  htape := rfl
  hout := rfl
  hsz := Nat.le_refl _
  hb := Nat.le_trans hh.hb hh.hsz
  keep _ _ _ := rfl
  dom := hh.dom
  own := hh.own
  ro := hh.ro
  ex := hh.ex
  ownb id p ty cs h1 h2 := .inl ⟨id, p, ty, cs, h1, h2, rfl⟩
  rob k hk := by
    obtain ⟨id, p, ty, cs, h1, h2, rfl⟩ := hk
    exact (hh.own id p ty cs h1 h2).2.1
theorem INV.after (hi : INV T μ L f act.tmps h w) (hm : MuLe μ μ') (hh : HP { T with w0 := w, B0 := alive μ h } μ' h' w') : INV T μ' L f act.tmps h' w' := by
  have h0 := hi.hp
  have hlt : ∀ k, alive μ h k → T.B0 k ∨ T.w0.heap.size ≤ k := fun k ⟨id, p, ty, cs, h1, h2, e⟩ => e ▸ h0.ownb id p ty cs h1 h2
  have hloc : ∀ s cs, loc (f.get s) = some cs → L s < w.heap.size ∧ ¬ alive μ h (L s) := fun s cs hs => by
    obtain ⟨_, ty, arr, h1, _⟩ := hi.fp.loc s cs hs
    exact ⟨lt_of_heap h1, fun ⟨id, p, ty, ds, h1, h2, e⟩ => hi.sep s cs id p ty ds hs h1 h2 e⟩
  refine ⟨⟨hh.hos.trans h0.hos, hh.htape.trans h0.htape, hh.hout.trans h0.hout, Nat.le_trans h0.hsz hh.hsz, h0.hb, fun k hk hB => ?_, hh.dom, hh.own, hh.ro, hh.ex, fun id p ty cs h1 h2 => ?_, h0.rob⟩, ?_, fun s cs id p ty ds hs h1 h2 => ?_⟩
  · have : ¬ alive μ h k := fun ha => by
      rcases hlt k ha with h1 | h1
      · exact hB h1
      · omega
    exact (hh.keep k (Nat.lt_of_lt_of_le hk h0.hsz) this).trans (h0.keep k hk hB)
  · rcases hh.ownb id p ty cs h1 h2 with h3 | h3
    · exact hlt _ h3
    · exact .inr (Nat.le_trans h0.hsz h3)
  · exact hi.fp.world hm fun s cs hs => hh.keep _ (hloc s cs hs).1 (hloc s cs hs).2
  · obtain ⟨k1, k2⟩ := hloc s cs hs
    rcases hh.ownb id p ty ds h1 h2 with h3 | h3
    · exact fun e => k2 (e ▸ h3)
    · have h3' : w.heap.size ≤ p.blk := h3
      omega
theorem args_ok (hf : FP T μ L f act.tmps w) : ∀ {xs : List Operand} {ys : List X} {vs : List (Bool × List C)}, xsOf xs = some ys → args f ys = some vs → All2 (fun p u => VG μ p.1 p.2 u) vs (xs.map act.eval)
  | [], ys, vs, h1, h2 => by simp [xsOf] at h1; subst h1; simp [args] at h2; subst h2; trivial
  | x :: xs, ys, vs, h1, h2 => by
    simp only [xsOf] at h1
    split at h1
    · rename_i y ys' e1 e2
      simp at h1
      subst h1
      simp only [args] at h2
      split at h2
      · rename_i v vs' e3 e4
        simp at h2
        subst h2
        exact ⟨evp_ok hf e1 e3, args_ok hf e2 e4⟩
      · simp at h2
    · simp at h1
theorem setD_put (hi : INV T μ L f act.tmps h w) {dst : Option Nat} {a : AI} (hd : dstOk T.I a dst = true) (ha : a.boxes = false) {v : V} {r : Value} (hv : VR μ v r ∨ v = .any) :
    INV T μ L (setD f (dn dst) v) (act.put dst r).tmps h w := by
  cases dst with
  | none => exact hi
  | some d =>
    have hd' := dst_plain hd ha
    have hdt : d < act.tmps.size := by rw [hi.fp.nt]; exact hd'.1
    rcases hv with hv | rfl
    · cases v with
      | val g cs => exact hi.putV hdt hd'.2 hv
      | tup vs => exact hi.put hdt hd'.2 hv rfl (fun _ _ e => by cases e)
      | _ => exact hv.elim
    · exact hi.putAny _ hdt hd'.2
theorem put_defers (act : Act) (dst : Option Nat) (v : Value) : (act.put dst v).defers = act.defers := by cases dst <;> rfl
theorem ok_call (hi : INV T μ L f act.tmps h w) {call : CallF} (hcall : CallOk T.P call) {c : Call} {g : Nat} {q : Bool} {xs : List X} {vs : List (Bool × List C)} {a : AI} {x : Operand} (hop : o.op = .call c) (hc : c.callee = .value x) (hx : act.eval x = .func (.func g) #[] #[]) (hxs : xsOf c.args.toList = some xs) (hvs : args f xs = some vs)
    (hd : dstOk T.I a o.dst = true) (ha : a.boxes = false)
    (hr : doCall call (dn o.dst) g q vs f h = some (f', h')) (hk : Goes T μ act f' h' K) : o.wp T.P act w K Q := by
  unfold doCall at hr
  split at hr
  · rename_i v h1 hcl
    split at hr
    · simp only [Option.some.injEq, Prod.mk.injEq] at hr
      obtain ⟨rfl, rfl⟩ := hr
      obtain ⟨⟨fn, k1, k2, k3⟩, k4⟩ := hcall g vs h v h1 hcl
      have hargs := args_ok hi.fp hxs hvs
      have hrun : (execOp act.eval o).run T.P w = .ok (.enter g (c.args.map act.eval)) w := by
        have k2' : ¬ fn.name = "runtime.NumGoroutine" := by simpa using k2
        have k3' : ¬ fn.body = none := by intro e; simp [e] at k3
        simp [execOp, hop, resolve, hc, hx, Deferred.ofValue, invoke, callFunc, k1, k2', k3']
      unfold Oper.wp
      rw [hrun, Oper.upon_enter]
      refine Calls.mono (k4 { T with w0 := w, B0 := alive μ h } μ w _ rfl hi.hp.enter (by simpa using hargs)) fun e w'' he => ?_
      cases e with
      | returned r =>
        obtain ⟨μ', h2, h3, h4⟩ := he
        exact hk μ' L _ w'' (setD_put (hi.after h2 h3) hd ha (.inl h4)) h2 (put_defers _ _ _)
      | panicked _ => exact he.elim
      | outgrown => exact he.elim
    · simp at hr
  · simp at hr
theorem isNilS_eq {x : Operand} (h : isNilS x = true) : x = .const (.slice none 0 0) := by
  unfold isNilS at h
  split at h
  · rfl
  · simp at h
theorem okBin (hi : INV T μ L f act.tmps h w) {call : CallF} {op : BinOp} {t u : TypeId} {x y : Operand} {a : AI} (hc : compBin T.P d op t x y = some a) (ho : o.dst = some d) (hop : o.op = .binOp op t x y u) (hd : dstOk T.I a o.dst = true)
    (hr : run1 call a f h = some (f', h')) (hk : Goes T μ act f' h' K) : o.wp T.P act w K Q := by
  rw [ho] at hd
  have key : ∀ {a1 b1}, xOf x = some a1 → xOf y = some b1 → AI.bin d (b2Of op) a1 b1 = a → o.wp T.P act w K Q := by
    intro a1 b1 e1 e2 e3
    subst e3
    exact ok_bin hi e1 e2 ho hop (dst_plain hd rfl) hr hk
  unfold compBin at hc
  split at hc
  · split at hc
    · rename_i e1 e2; simp at hc; exact key e1 e2 hc
    · simp at hc
  · split at hc
    · rename_i e1 e2; simp at hc; exact key e1 e2 hc
    · simp at hc
  · rename_i hu
    split at hc
    · rename_i e1 e2; simp at hc; subst hc; exact ok_beq hi (.inl ⟨rfl, rfl⟩) hu e1 e2 ho hop (dst_plain hd rfl) hr hk
    · rename_i e1 e2; simp at hc; subst hc; exact ok_beq hi (.inr ⟨rfl, rfl⟩) hu e1 e2 ho hop (dst_plain hd rfl) hr hk
    · simp at hc
  · rename_i e hu
    split at hc
    · rename_i hn
      have := isNilS_eq hn
      subst this
      split at hc
      · rename_i e1; simp at hc; subst hc; exact ok_snil hi (.inl ⟨rfl, rfl⟩) hu e1 ho hop (dst_plain hd rfl) hr hk
      · rename_i e1; simp at hc; subst hc; exact ok_snil hi (.inr ⟨rfl, rfl⟩) hu e1 ho hop (dst_plain hd rfl) hr hk
      · simp at hc
    · simp at hc
  · simp at hc
theorem okCall (hi : INV T μ L f act.tmps h w) {call : CallF} (hcall : CallOk T.P call) {q : Bool} {c : Call} {a : AI} (hc : compCall T.P q (dn o.dst) c = some a) (hop : o.op = .call c) (hd : dstOk T.I a o.dst = true)
    (hr : run1 call a f h = some (f', h')) (hk : Goes T μ act f' h' K) : o.wp T.P act w K Q := by
  unfold compCall at hc
  split at hc
  · rename_i g hcal
    split at hc
    · rename_i xs hxs
      simp at hc
      subst hc
      simp only [run1] at hr
      split at hr
      · rename_i vs hvs
        exact ok_call hi hcall hop hcal rfl hxs hvs hd rfl hr hk
      · simp at hr
    · simp at hc
  · rename_i x _ hcal
    split at hc
    · rename_i y xs hy hxs
      simp at hc
      subst hc
      simp only [run1] at hr
      split at hr
      · rename_i g vs hg hvs
        exact ok_call hi hcall hop hcal (ev1_ok hi.fp hy hg) hxs hvs hd rfl hr hk
      · simp at hr
    · simp at hc
  · rename_i b hcal
    cases hdst : o.dst with
    | none => simp [hdst, dn] at hc
    | some d =>
      rw [hdst] at hd
      simp only [hdst, dn] at hc
      split at hc
      · rename_i x t hargs htys
        split at hc
        · rename_i e y hu hy; simp at hc; subst hc; exact ok_len hi (.inl ⟨rfl, hu⟩) hy hdst hop hcal hargs htys (dst_plain hd rfl) hr hk
        · rename_i y hu hy; simp at hc; subst hc; exact ok_len (e := 0) hi (.inr ⟨rfl, hu⟩) hy hdst hop hcal hargs htys (dst_plain hd rfl) hr hk
        · rename_i n e y hu hy; simp at hc; subst hc; exact ok_lenA hi hu hdst hop hcal hargs htys (dst_plain hd rfl) hr hk
        · simp at hc
      · rename_i x y t u hargs htys
        split at hc
        · rename_i e e' a1 b1 hu1 hu2 hx hy
          split at hc
          · rename_i i z hinf hz
            split at hc
            · rename_i h0; simp at hc; subst hc; exact ok_app hi hu1 (.inl ⟨_, hu2⟩) hz hinf h0 hx hy hdst hop hcal hargs htys (dst_plain hd rfl) hr hk
            · simp at hc
          · simp at hc
        · rename_i e a1 b1 hu1 hu2 hx hy
          split at hc
          · rename_i i z hinf hz
            split at hc
            · rename_i h0; simp at hc; subst hc; exact ok_app hi hu1 (.inr hu2) hz hinf h0 hx hy hdst hop hcal hargs htys (dst_plain hd rfl) hr hk
            · simp at hc
          · simp at hc
        · simp at hc
      · rename_i x y t u hargs htys
        split at hc
        · rename_i e a1 b1 hu1 hx hy
          split at hc
          · rename_i i hinf
            split at hc
            · rename_i h0; simp at hc; subst hc; exact ok_cpy hi hu1 hinf h0 hx hy hdst hop hcal hargs htys (dst_plain hd rfl) hr hk
            · simp at hc
          · simp at hc
        · simp at hc
      · rename_i x y hargs
        split at hc
        · rename_i a1 b1 hx hy; simp at hc; subst hc; exact ok_mm (mx := false) hi hx hy hdst hop hcal hargs (dst_plain hd rfl) hr hk
        · simp at hc
      · rename_i x y hargs
        split at hc
        · rename_i a1 b1 hx hy; simp at hc; subst hc; exact ok_mm (mx := true) hi hx hy hdst hop hcal hargs (dst_plain hd rfl) hr hk
        · simp at hc
      · simp at hc
  · simp at hc
theorem optX_none {x : Option Operand} (h : optX x = some none) : x = none := by
  cases x with
  | none => rfl
  | some x => simp only [optX] at h; split at h <;> simp at h
theorem op_ok (hi : INV T μ L f act.tmps h w) {call : CallF} (hcall : CallOk T.P call) {q : Bool} {a : AI} (hc : compOp T.P T.I q o = some a) (hd : dstOk T.I a o.dst = true)
    (hr : run1 call a f h = some (f', h')) (hk : Goes T μ act f' h' K) : o.wp T.P act w K Q := by
  unfold compOp at hc
  split at hc
  -- move
  · rename_i d x ho hop
    rw [ho] at hd
    split at hc
    · rename_i y hx
      split at hc
      · rename_i hh; simp at hc; subst hc; exact ok_mov hi hx hh ho (.inl hop) (dst_plain hd rfl) hr hk
      · simp at hc
    · simp at hc
  -- assign
  · rename_i d x ho hop
    rw [ho] at hd
    split at hc
    · rename_i y hx
      split at hc
      · rename_i hh; simp at hc; subst hc; exact ok_mov hi hx hh ho (.inr hop) (dst_plain hd rfl) hr hk
      · simp at hc
    · simp at hc
  -- pick
  · rename_i d c x y ho hop
    rw [ho] at hd
    split at hc
    · rename_i e1 e2 e3; simp at hc; subst hc; exact ok_pick hi e1 e2 e3 ho hop (dst_plain hd rfl) hr hk
    · simp at hc
  -- alloc
  · rename_i d t ho hop
    rw [ho] at hd
    split at hc
    · rename_i cs hz
      have ha : run1 call a f h = ai a f h := by
        split at hc
        · simp at hc; subst hc; rfl
        · split at hc
          · simp at hc; subst hc; rfl
          · simp at hc
      rw [ha] at hr
      exact ok_alloc hi hz ho hop hc hd hr hk
    · simp at hc
  -- box
  · rename_i d t x ho hop
    rw [ho] at hd
    split at hc
    · rename_i y hx
      have ha : run1 call a f h = ai a f h := by
        split at hc
        · simp at hc; subst hc; rfl
        · split at hc
          · simp at hc; subst hc; rfl
          · simp at hc
      rw [ha] at hr
      exact ok_box hi hx ho hop hc hd hr hk
    · simp at hc
  -- build
  · rename_i d t ps ho hop
    rw [ho] at hd
    split at hc
    · rename_i z fs hz hu
      split at hc
      · rename_i qs hq
        split at hc
        · rename_i hall; simp at hc; subst hc; exact ok_bldS hi hz hu hq hall ho hop (dst_plain hd rfl) hr hk
        · simp at hc
      · simp at hc
    · rename_i z n e hz hu
      split at hc
      · rename_i j hj
        split at hc
        · rename_i qs hq; simp at hc; subst hc; exact ok_bldA hi hz hu hj hq ho hop (dst_plain hd rfl) hr hk
        · simp at hc
      · simp at hc
    · simp at hc
  -- buildSlice
  · rename_i d t len ps ho hop
    rw [ho] at hd
    split at hc
    · rename_i e hu
      split at hc
      · rename_i j z hj hz
        split at hc
        · rename_i qs hq
          split at hc
          · rename_i hcond
            split at hc
            · rename_i h0
              subst h0
              split at hc
              · rename_i hp; simp at hc; subst hc; exact ok_bse hi hu hj hp ho hop (dst_plain hd rfl) hr hk
              · simp at hc
            · rename_i h0
              split at hc
              · simp at hc; subst hc; exact ok_bsl hi hz hu hj hq hcond.1 hcond.2 h0 ho hop (dst_plain hd rfl) hr hk
              · simp at hc; subst hc; exact ok_lsl hi hz hu hj hq hcond.1 hcond.2 h0 ho hop (dst_plain hd rfl) hr hk
          · simp at hc
        · simp at hc
      · simp at hc
    · simp at hc
  -- fieldAddr
  · rename_i d t x k ho hop
    rw [ho] at hd
    split at hc
    · rename_i fs y hu hx
      split at hc
      · rename_i fl hfl
        split at hc
        · rename_i j hj
          split at hc
          · simp at hc
          · rename_i h0
            split at hc
            · rename_i hh; simp at hc; subst hc; exact ok_fad hi hu hfl hj h0 hx hh ho hop (dst_plain hd rfl) hr hk
            · simp at hc
        · simp at hc
      · simp at hc
    · simp at hc
  -- indexAddr
  · rename_i d t x i ho hop
    rw [ho] at hd
    split at hc
    · rename_i e y j hu hx hj
      split at hc
      · rename_i k hk2; simp at hc; subst hc; exact ok_iad hi hu hk2 hx hj ho hop (dst_plain hd rfl) hr hk
      · simp at hc
    · rename_i n e y j hu hx hj
      split at hc
      · rename_i k hk2
        split at hc
        · rename_i hcond; simp at hc; subst hc; exact ok_iaa hi hu hk2 hcond.1 hx hj hcond.2 ho hop (dst_plain hd rfl) hr hk
        · simp at hc
      · simp at hc
    · simp at hc
  -- load
  · rename_i d t x ho hop
    rw [ho] at hd
    split at hc
    · rename_i n g y hs hx
      split at hc
      · simp at hc; subst hc; exact ok_ldl hi hs hx ho hop (dst_plain hd rfl) hr hk
      · simp at hc; subst hc; exact ok_ldh hi hs hx ho hop (dst_plain hd rfl) hr hk
    · simp at hc
  -- store
  · rename_i t x v ho hop
    split at hc
    · rename_i n g y u hs hx hv
      split at hc
      · simp at hc; subst hc; exact ok_stl hi hs hx hv ho hop hr hk
      · simp at hc; subst hc; exact ok_sth hi hs hx hv ho hop hr hk
    · simp at hc
  -- binOp
  · rename_i d op t x y u ho hop
    exact okBin hi hc ho hop hd hr hk
  -- unOp
  · rename_i d op t x ho hop
    rw [ho] at hd
    split at hc
    · rename_i y hx; simp at hc; subst hc; exact ok_neg hi hx ho hop (dst_plain hd rfl) hr hk
    · rename_i y hx; simp at hc; subst hc; exact ok_not hi hx ho hop (dst_plain hd rfl) hr hk
    · simp at hc
  -- convert
  · rename_i d s t x ho hop
    rw [ho] at hd
    split at hc
    · rename_i k0 k y hs ht hx; simp at hc; subst hc; exact ok_cvi hi hs ht hx ho hop (dst_plain hd rfl) hr hk
    · rename_i e y hs ht hx
      split at hc
      · rename_i he; simp at hc; subst hc; exact ok_cbs hi hs he ht hx ho hop (dst_plain hd rfl) hr hk
      · simp at hc
    · simp at hc
  -- makeSlice
  · rename_i d t l c ho hop
    rw [ho] at hd
    split at hc
    · rename_i hs
      split at hc
      · rename_i e y hu hy
        split at hc
        · rename_i j z hj hz
          split at hc
          · rename_i h0; simp at hc; subst hc; exact ok_mks hi hz hu hj h0 hs hy ho hop (dst_plain hd rfl) hr hk
          · simp at hc
        · simp at hc
      · simp at hc
    · simp at hc
  -- slice
  · rename_i d t x lo up ho hop
    rw [ho] at hd
    split at hc
    · rename_i e y l u hu hx hl hh
      split at hc
      · rename_i j hj
        split at hc
        · rename_i h0; simp at hc; subst hc; exact ok_slc hi hu hj h0 hx hl hh ho hop (dst_plain hd rfl) hr hk
        · simp at hc
      · simp at hc
    · rename_i y l u hu hx hl hh; simp at hc; subst hc; exact ok_sls hi hu hx hl hh ho hop (dst_plain hd rfl) hr hk
    · rename_i n e y hu hx hl hh
      split at hc
      · rename_i j hj
        split at hc
        · rename_i hcond
          simp at hc
          subst hc
          rw [optX_none hl, optX_none hh] at hop
          exact ok_sla hi hu hj hcond.1 hcond.2 hx ho hop (dst_plain hd rfl) hr hk
        · simp at hc
      · simp at hc
    · simp at hc
  -- field
  · rename_i d t x k ho hop
    rw [ho] at hd
    split at hc
    · rename_i fs y hu hx
      split at hc
      · rename_i fl hfl
        split at hc
        · rename_i n g hs; simp at hc; subst hc; exact ok_fld hi hu hfl hs hx ho hop (dst_plain hd rfl) hr hk
        · simp at hc
      · simp at hc
    · simp at hc
  -- index
  · rename_i d t x i ho hop
    rw [ho] at hd
    split at hc
    · rename_i n e y j hu hx hj
      split at hc
      · rename_i m g hs; simp at hc; subst hc; exact ok_idx hi hu hs hx hj ho hop (dst_plain hd rfl) hr hk
      · simp at hc
    · rename_i y j hu hx hj; simp at hc; subst hc; exact ok_ids hi hu hx hj ho hop (dst_plain hd rfl) hr hk
    · simp at hc
  -- extract
  · rename_i d x i ho hop
    rw [ho] at hd
    split at hc
    · rename_i y hx; simp at hc; subst hc; exact ok_ext hi hx ho hop (dst_plain hd rfl) hr hk
    · simp at hc
  -- nilCheck
  · rename_i d x ho hop
    rw [ho] at hd
    split at hc
    · rename_i y hx
      split at hc
      · rename_i hh; simp at hc; subst hc; exact ok_nch hi hx hh ho hop (dst_plain hd rfl) hr hk
      · simp at hc
    · simp at hc
  · rename_i d c ho hop
    exact okCall hi hcall (by rw [ho]; exact hc) hop hd hr hk
  · rename_i c ho hop
    exact okCall hi hcall (by rw [ho]; exact hc) hop hd hr hk
  · simp at hc
end
end Go.Eng
