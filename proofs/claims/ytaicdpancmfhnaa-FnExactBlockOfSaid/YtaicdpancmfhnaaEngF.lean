/-
  The engine, part F: each operation of the machine does what the abstract one says.
-/
import Derived.Test.YtaicdpancmfhnaaEngC
import Derived.Test.YtaicdpancmfhnaaEngE
set_option linter.unusedVariables false
set_option linter.unusedSimpArgs false
namespace Go.Eng
section
variable {T : Ctx} {μ μ' : Mu} {L : Nat → Nat} {f f' : Fr} {h h' : H} {w w' : World} {act : Act}
/-! ### Operands -/
theorem vOf_SR (μ : Mu) (L : Nat → Nat) {v : Value} {u : V} (hv : vOf v = some u) : (∃ g cs, u = .val g cs ∧ VG μ g cs v) ∨ u = .any := by
  unfold vOf at hv
  split at hv
  · rename_i a
    cases h1 : csOf a.toList with
    | none => simp [h1] at hv
    | some cs => simp [h1] at hv; exact .inl ⟨true, cs, hv.symm, a, rfl, csOf_CR μ h1⟩
  · simp at hv; exact .inr hv.symm
  · cases h1 : cOf v with
    | none => simp [h1] at hv
    | some c => simp [h1] at hv; exact .inl ⟨false, [c], hv.symm, c, rfl, cOf_CR μ h1⟩
theorem ev_ok (hf : FP T μ L f act.tmps w) {x : Operand} {y : X} (hx : xOf x = some y) :
    (∀ g cs, ev f y = .val g cs → VG μ g cs (act.eval x)) ∧ (∀ vs, ev f y = .tup vs → TG μ vs (act.eval x)) ∧
    (∀ r o, ev f y = .lref r o → act.eval x = .pointer (some ⟨L r, o, none⟩) ∧ T.I.root x = some r ∧ ∃ cs, f.get r = .box cs) := by
  cases x with
  | tmp t =>
    simp [xOf] at hx
    subst hx
    have hs := hf.slots t
    have he : act.eval (.tmp t) = act.tmps.getD t undef := rfl
    rw [he]
    simp only [ev]
    cases hg : f.get t with
    | any => exact ⟨fun _ _ e => by simp at e, fun _ e => by simp at e, fun _ _ e => by simp at e⟩
    | val g cs => rw [hg] at hs; exact ⟨fun _ _ e => by simp at e; obtain ⟨rfl, rfl⟩ := e; exact hs, fun _ e => by simp at e, fun _ _ e => by simp at e⟩
    | tup vs => rw [hg] at hs; exact ⟨fun _ _ e => by simp at e, fun _ e => by simp at e; subst e; exact hs, fun _ _ e => by simp at e⟩
    | box cs =>
      rw [hg] at hs
      exact ⟨fun _ _ e => by simp at e, fun _ e => by simp at e, fun r o e => by simp at e; obtain ⟨rfl, rfl⟩ := e; exact ⟨hs, hf.bty t cs hg, cs, hg⟩⟩
    | lsl cs n e => exact ⟨fun _ _ e => by simp at e, fun _ e => by simp at e, fun _ _ e => by simp at e⟩
    | lref r o =>
      rw [hg] at hs
      exact ⟨fun _ _ e => by simp at e, fun _ e => by simp at e, fun r' o' e => by simp at e; obtain ⟨rfl, rfl⟩ := e; exact ⟨hs, hf.rty t r o hg⟩⟩
  | const v =>
    cases hv : vOf v with
    | none => simp [xOf, hv] at hx
    | some u =>
      simp [xOf, hv] at hx
      subst hx
      simp only [ev]
      rcases vOf_SR μ L hv with ⟨g, cs, rfl, hg⟩ | rfl
      · exact ⟨fun _ _ e => by simp at e; obtain ⟨rfl, rfl⟩ := e; exact hg, fun _ e => by simp at e, fun _ _ e => by simp at e⟩
      · exact ⟨fun _ _ e => by simp at e, fun _ e => by simp at e, fun _ _ e => by simp at e⟩
  | func g =>
    simp [xOf] at hx
    subst hx
    simp only [ev]
    exact ⟨fun _ _ e => by simp at e; obtain ⟨rfl, rfl⟩ := e; exact ⟨.fn g, rfl, rfl⟩, fun _ e => by simp at e, fun _ _ e => by simp at e⟩
  | global g => simp [xOf] at hx
theorem evp_ev {y : X} {g : Bool} {cs : List C} (he : evp f y = some (g, cs)) : ev f y = .val g cs := by
  unfold evp at he
  split at he
  · rename_i g' cs' e; simp at he; obtain ⟨rfl, rfl⟩ := he; exact e
  · simp at he
theorem ev1_ev {y : X} {c : C} (he : ev1 f y = some c) : ev f y = .val false [c] := by
  unfold ev1 at he
  split at he
  · rename_i c' e; simp at he; subst he; exact e
  · simp at he
theorem evp_ok (hf : FP T μ L f act.tmps w) {x : Operand} {y : X} (hx : xOf x = some y) {g : Bool} {cs : List C} (he : evp f y = some (g, cs)) : VG μ g cs (act.eval x) := (ev_ok hf hx).1 g cs (evp_ev he)
theorem ev1_ok (hf : FP T μ L f act.tmps w) {x : Operand} {y : X} (hx : xOf x = some y) {c : C} (he : ev1 f y = some c) : CR μ c (act.eval x) := by
  obtain ⟨c', h1, h2⟩ := (ev_ok hf hx).1 false [c] (ev1_ev he)
  simp at h1
  subst h1
  exact h2
theorem lref_ok (hf : FP T μ L f act.tmps w) {x : Operand} {y : X} (hx : xOf x = some y) {r o : Nat} (he : ev f y = .lref r o) : act.eval x = .pointer (some ⟨L r, o, none⟩) ∧ T.I.root x = some r ∧ ∃ cs, f.get r = .box cs := (ev_ok hf hx).2.2 r o he
/-! ### Loads and stores -/
theorem run_agg {P : Program} {t : TypeId} {g : Bool} (ha : aggOf P t = some g) (w : World) : (isAgg t).run P w = .ok g w := by
  unfold aggOf at ha
  cases hu : P.underlying t with
  | none => simp [hu] at ha
  | some d =>
    rw [hu] at ha
    cases d <;> simp at ha <;> subst ha <;> simp [isAgg, run_underlying hu]
theorem szOf_spec {P : Program} {t : TypeId} {n : Nat} {g : Bool} (hs : szOf P t = some (n, g)) : ∃ i, P.info? t = some i ∧ i.size = n ∧ aggOf P t = some g ∧ (g = true ∨ n = 1) := by
  unfold szOf at hs
  cases h1 : P.info? t with
  | none => simp [h1] at hs
  | some i =>
    cases h2 : aggOf P t with
    | none => simp [h1, h2] at hs
    | some g' =>
      simp only [h1, h2] at hs
      split at hs
      · rename_i hg
        simp at hs
        obtain ⟨rfl, rfl⟩ := hs
        exact ⟨i, rfl, rfl, rfl, hg⟩
      · simp at hs
theorem run_sz {P : Program} {t : TypeId} {i : TypeInfo} (hi : P.info? t = some i) (w : World) : (sizeOf t).run P w = .ok i.size w := by simp [sizeOf, typeInfo, hi]
theorem run_loadVar {P : Program} {t : TypeId} {n : Nat} {g : Bool} (hs : szOf P t = some (n, g)) (w : World) (a : Addr) {us : List Value} {cs : List C} (hn : cs.length = n) (hc : All2 (CR μ) cs us) (hu : ∀ j v, us[j]? = some v → w.cell? (a.add j) = some v) :
    ∃ v, (loadVar t a).run P w = .ok v w ∧ VG μ g cs v := by
  obtain ⟨i, h1, h2, h3, h4⟩ := szOf_spec hs
  have hl : us.length = n := by rw [← hc.length]; exact hn
  cases g with
  | true =>
    refine ⟨.agg us.toArray, ?_, us.toArray, rfl, by simpa using hc⟩
    have := run_loadCells_list (P := P) w a us hu
    rw [hl] at this
    simp [loadVar, run_agg h3, run_sz h1, h2, this]
  | false =>
    have h5 : n = 1 := by rcases h4 with h | h; cases h; exact h
    subst h5
    match us, cs, hl, hn, hc with
    | [u], [c], _, _, hc =>
      refine ⟨u, ?_, c, rfl, hc.1⟩
      have h0 := hu 0 u rfl
      have : a.add 0 = a := by simp [Addr.add]
      rw [this] at h0
      simp [loadVar, run_agg h3, h0]
theorem add_at (b o j : Nat) : (⟨b, o, none⟩ : Addr).add j = ⟨b, o + j, none⟩ := by unfold Addr.add; split <;> simp_all
theorem cell_at {w : World} {b i : Nat} {arr : Array Value} {ty : Nat} {fz : Nat × Nat} {v : Value} (hb : w.heap[b]? = some (.cells arr ty fz)) (hv : arr.toList[i]? = some v) : w.cell? ⟨b, i, none⟩ = some v := by
  simp only [World.cell?, hb]
  simpa using hv
theorem run_storeVar {P : Program} {t : TypeId} {n : Nat} {g : Bool} (hs : szOf P t = some (n, g)) (w : World) (b o ty : Nat) {arr : Array Value} {v : Value} (hb : w.heap[b]? = some (.cells arr ty (0, 0))) (hn : v.cells.size = n) (hl : o + n ≤ arr.size) (h1 : ∀ u ∈ v.cells.toList, u.oneCell' = true) :
    (storeVar t ⟨b, o, none⟩ v).run P w = .ok () (w.setRow b (setL arr.toList o v.cells.toList).toArray) := by
  obtain ⟨i, h2, h3, h4, h5⟩ := szOf_spec hs
  have hst := run_storeCells_at P b o ty v.cells.toList 0 arr w hb (by simp [hn]; omega) h1
  simp only [Nat.add_zero] at hst
  rw [setL_eq _ _ _ (by simp [hn]; omega)]
  have : ¬ (v.cells.size ≠ n) := by simp [hn]
  simp [storeVar, run_sz h2, h3, this, hst]
theorem wp_val {P : Program} {o : Oper} {K : Act → World → Prop} {Q : Exit → Act → World → Prop} {v : Value} (hr : (execOp act.eval o).run P w = .ok (.value v) w') (hk : K (act.put o.dst v) w') : o.wp P act w K Q := by
  unfold Oper.wp; rw [hr]; exact hk
theorem wp_skip' {P : Program} {o : Oper} {K : Act → World → Prop} {Q : Exit → Act → World → Prop} (hr : (execOp act.eval o).run P w = .ok .skip w') (hk : K (act.put o.dst undef) w') : o.wp P act w K Q := by
  unfold Oper.wp; rw [hr]; exact hk
/-! ### The operations -/
/-- What follows goes on from the new state. -/
def Goes (T : Ctx) (μ : Mu) (act : Act) (f' : Fr) (h' : H) (K : Act → World → Prop) : Prop :=
  ∀ μ' L' act' w', INV T μ' L' f' act'.tmps h' w' → MuLe μ μ' → act'.defers = act.defers → K act' w'
theorem dst_ok {I : Inf} {a : AI} {d : Nat} (hd : dstOk I a (some d) = true) : d < I.nt ∧ (a.boxes = true ∨ I.env.lookup d ≠ some d) := by
  simp only [dstOk, Bool.and_eq_true, decide_eq_true_eq, Bool.or_eq_true, bne_iff_ne] at hd
  exact hd
theorem dst_plain {I : Inf} {a : AI} {d : Nat} (hd : dstOk I a (some d) = true) (ha : a.boxes = false) : d < I.nt ∧ I.env.lookup d ≠ some d := by
  obtain ⟨h1, h2⟩ := dst_ok hd
  exact ⟨h1, h2.resolve_left (by simp [ha])⟩
section
variable {o : Oper} {K : Act → World → Prop} {Q : Exit → Act → World → Prop} {d : Nat}
theorem fin (hi : INV T μ L f act.tmps h w) (ho : o.dst = some d) (hd : d < T.I.nt ∧ T.I.env.lookup d ≠ some d) {v : Value} {g : Bool} {cs : List C} (hr : (execOp act.eval o).run T.P w = .ok (.value v) w) (hv : VG μ g cs v)
    (hk : Goes T μ act (f.set d (.val g cs)) h K) : o.wp T.P act w K Q := by
  refine wp_val hr ?_
  rw [ho]
  exact hk μ L _ w (hi.putV (by rw [hi.fp.nt]; exact hd.1) hd.2 hv) (MuLe.refl _) rfl
theorem fin1 (hi : INV T μ L f act.tmps h w) (ho : o.dst = some d) (hd : d < T.I.nt ∧ T.I.env.lookup d ≠ some d) {v : Value} {c : C} (hr : (execOp act.eval o).run T.P w = .ok (.value v) w) (hv : CR μ c v)
    (hk : Goes T μ act (f.set d (.val false [c])) h K) : o.wp T.P act w K Q := fin (g := false) (cs := [c]) hi ho hd hr ⟨c, rfl, hv⟩ hk
theorem ok_mov (hi : INV T μ L f act.tmps h w) {x : Operand} {y : X} (hx : xOf x = some y) (hh : T.I.hand d x = true) (ho : o.dst = some d) (hop : o.op = .move x ∨ o.op = .assign x) (hd : d < T.I.nt ∧ T.I.env.lookup d ≠ some d)
    (hr : ai (.mov d y) f h = some (f', h')) (hk : Goes T μ act f' h' K) : o.wp T.P act w K Q := by
  have hrun : (execOp act.eval o).run T.P w = .ok (.value (act.eval x)) w := by rcases hop with e | e <;> simp [execOp, e]
  have hdt : d < act.tmps.size := by rw [hi.fp.nt]; exact hd.1
  refine wp_val hrun ?_
  rw [ho]
  simp only [ai] at hr
  have hev := ev_ok hi.fp hx
  cases he : ev f y with
  | any => simp [he] at hr; obtain ⟨rfl, rfl⟩ := hr; exact hk μ L _ w (hi.putAny _ hdt hd.2) (MuLe.refl _) rfl
  | val g cs => simp [he] at hr; obtain ⟨rfl, rfl⟩ := hr; exact hk μ L _ w (hi.putV hdt hd.2 (hev.1 g cs he)) (MuLe.refl _) rfl
  | tup vs => simp [he] at hr; obtain ⟨rfl, rfl⟩ := hr; exact hk μ L _ w (hi.put hdt hd.2 (hev.2.1 vs he) rfl (fun _ _ e => by cases e)) (MuLe.refl _) rfl
  | box cs => simp [he] at hr
  | lsl cs n e => simp [he] at hr
  | lref r q =>
    simp [he] at hr
    obtain ⟨rfl, rfl⟩ := hr
    obtain ⟨h1, h2, h3⟩ := hev.2.2 r q he
    have h4 : T.I.env.lookup d = some r := by simpa [Inf.hand, h2] using hh
    exact hk μ L _ w (hi.put hdt hd.2 h1 rfl (fun r' o' e => by cases e; exact ⟨h4, h3⟩)) (MuLe.refl _) rfl
theorem ok_pick (hi : INV T μ L f act.tmps h w) {x a b : Operand} {y u v : X} (hx : xOf x = some y) (ha : xOf a = some u) (hb : xOf b = some v) (ho : o.dst = some d) (hop : o.op = .pick x a b) (hd : d < T.I.nt ∧ T.I.env.lookup d ≠ some d)
    (hr : ai (.pick d y u v) f h = some (f', h')) (hk : Goes T μ act f' h' K) : o.wp T.P act w K Q := by
  simp only [ai] at hr
  split at hr
  · rename_i he
    have h1 := ev1_ok hi.fp hx he
    split at hr
    · rename_i g cs h2
      simp at hr; obtain ⟨rfl, rfl⟩ := hr
      exact fin hi ho hd (by simp [execOp, hop, CR] at *; simp [h1, asBool]) (evp_ok hi.fp ha h2) hk
    · simp at hr
  · rename_i he
    have h1 := ev1_ok hi.fp hx he
    split at hr
    · rename_i g cs h2
      simp at hr; obtain ⟨rfl, rfl⟩ := hr
      exact fin hi ho hd (by simp [execOp, hop, CR] at *; simp [h1, asBool]) (evp_ok hi.fp hb h2) hk
    · simp at hr
  · simp at hr
theorem zeroOf_spec {P : Program} {t : TypeId} {cs : List C} (hz : zeroOf P t = some cs) (μ : Mu) : ∃ i z, P.info? t = some i ∧ i.zero = some z ∧ All2 (CR μ) cs z.cells.toList ∧ cs.length = i.size := by
  unfold zeroOf at hz
  cases h1 : P.info? t with
  | none => simp [h1] at hz
  | some i =>
    cases h2 : i.zero with
    | none => simp [h1, h2] at hz
    | some z =>
      cases h3 : csOf z.cells.toList with
      | none => simp [h1, h2, h3] at hz
      | some cs' =>
        simp [h1, h2, h3] at hz
        obtain ⟨h4, rfl⟩ := hz
        exact ⟨i, z, rfl, h2, csOf_CR μ h3, h4⟩
theorem take_self {α : Type} {l : List α} {n : Nat} (h : n = l.length) : l.take n = l := by subst h; simp
theorem newId_fin (hi : INV T μ L f act.tmps h w) (ho : o.dst = some d) (hd : d < T.I.nt ∧ T.I.env.lookup d ≠ some d) {v : Value} {c : C} {cs : List C} {arr : Array Value} {ty : Nat} {rest : List Value}
    (hr : (execOp act.eval o).run T.P w = .ok (.value v) (w.alloc (.cells arr ty (0, 0)))) (hc : All2 (CR μ) cs (arr.toList.take cs.length)) (hr2 : arr.toList = arr.toList.take cs.length ++ rest)
    (hv : ∀ μ', μ' h.length = some ⟨w.heap.size, 0, arr.size⟩ → CR μ' c v) (hk : Goes T μ act (f.set d (.val false [c])) (h ++ [.own ty cs]) K) : o.wp T.P act w K Q := by
  obtain ⟨h1, h2⟩ := hi.newId (cs := cs) (arr := arr) (ty := ty) hc hr2
  refine wp_val hr ?_
  rw [ho]
  exact hk _ L _ _ (h1.putV (by rw [h1.fp.nt]; exact hd.1) hd.2 ⟨c, rfl, hv _ (by simp)⟩) h2 rfl
theorem ok_alloc (hi : INV T μ L f act.tmps h w) {t : TypeId} {cs : List C} (hz : zeroOf T.P t = some cs) (ho : o.dst = some d) (hop : o.op = .alloc t) {a : AI}
    (ha : (if T.I.E.testBit d then some (AI.hal d t cs) else if T.I.env.lookup d == some d then some (AI.lal d cs) else none) = some a) (hdst : dstOk T.I a (some d) = true)
    (hr : ai a f h = some (f', h')) (hk : Goes T μ act f' h' K) : o.wp T.P act w K Q := by
  obtain ⟨i, z, h1, h2, h3, h4⟩ := zeroOf_spec hz μ
  have hrun : (execOp act.eval o).run T.P w = .ok (.value (.pointer (some ⟨w.heap.size, 0, none⟩))) (w.alloc (.cells z.cells t (0, 0))) := by
    simp [execOp, hop, Instr.alloc, zeroValue, typeInfo, h1, h2, newVar, newRow]
  split at ha
  · simp at ha
    subst ha
    simp [ai] at hr
    obtain ⟨rfl, rfl⟩ := hr
    have e := take_self h3.length
    exact newId_fin (c := .ptr h.length 0) hi ho (dst_plain hdst rfl) hrun (by rw [e]; exact h3) (by rw [e, List.append_nil]) (fun μ' hm => ⟨_, hm, rfl⟩) hk
  · split at ha
    · rename_i hl
      simp at ha
      subst ha
      simp only [ai] at hr
      have hd := (dst_ok hdst).1
      have hnb : (∀ ds, f.get d ≠ .box ds) ∧ f' = f.set d (.box cs) ∧ h' = h := by
        split at hr
        · simp at hr
        · rename_i hne; simp at hr; exact ⟨hne, hr.1.symm, hr.2.symm⟩
      obtain ⟨hnb, rfl, rfl⟩ := hnb
      refine wp_val hrun ?_
      rw [ho]
      exact hk μ _ _ _ (hi.newLoc (v := .box cs) (by rw [hi.fp.nt]; exact hd) hnb (fun _ => by simpa using hl) rfl (fun L' hL => by simp only [SRs, hL]) h3) (MuLe.refl _) rfl
    · simp at ha
theorem ok_box (hi : INV T μ L f act.tmps h w) {t : TypeId} {x : Operand} {y : X} (hx : xOf x = some y) (ho : o.dst = some d) (hop : o.op = .box t x) {a : AI}
    (ha : (if T.I.E.testBit d then some (AI.hbox d t y) else if T.I.env.lookup d == some d then some (AI.lbox d y) else none) = some a) (hdst : dstOk T.I a (some d) = true)
    (hr : ai a f h = some (f', h')) (hk : Goes T μ act f' h' K) : o.wp T.P act w K Q := by
  have hrun : (execOp act.eval o).run T.P w = .ok (.value (.pointer (some ⟨w.heap.size, 0, none⟩))) (w.alloc (.cells (act.eval x).cells t (0, 0))) := by
    simp [execOp, hop, Instr.box, newVar, newRow]
  split at ha
  · simp at ha
    subst ha
    simp only [ai] at hr
    split at hr
    · rename_i g cs he
      simp at hr
      obtain ⟨rfl, rfl⟩ := hr
      have h3 := (evp_ok hi.fp hx he).cells
      have e := take_self h3.length
      exact newId_fin (c := .ptr h.length 0) hi ho (dst_plain hdst rfl) hrun (by rw [e]; exact h3) (by rw [e, List.append_nil]) (fun μ' hm => ⟨_, hm, rfl⟩) hk
    · simp at hr
  · split at ha
    · rename_i hl
      simp at ha
      subst ha
      simp only [ai] at hr
      have hd := (dst_ok hdst).1
      have hnb : (∀ ds, f.get d ≠ .box ds) ∧ ∃ g cs, evp f y = some (g, cs) ∧ f' = f.set d (.box cs) ∧ h' = h := by
        split at hr
        · simp at hr
        · rename_i hne
          split at hr
          · rename_i g cs he; simp at hr; exact ⟨hne, g, cs, he, hr.1.symm, hr.2.symm⟩
          · simp at hr
      obtain ⟨hnb, g, cs, he, rfl, rfl⟩ := hnb
      have h3 := (evp_ok hi.fp hx he).cells
      refine wp_val hrun ?_
      rw [ho]
      exact hk μ _ _ _ (hi.newLoc (v := .box cs) (by rw [hi.fp.nt]; exact hd) hnb (fun _ => by simpa using hl) rfl (fun L' hL => by simp only [SRs, hL]) h3) (MuLe.refl _) rfl
    · simp at ha
theorem box_at (hf : FP T μ L f act.tmps w) {r : Nat} {cs : List C} (hg : f.get r = .box cs) : ∃ ty arr, w.heap[L r]? = some (.cells arr ty (0, 0)) ∧ All2 (CR μ) cs arr.toList := (hf.loc r cs (by rw [hg]; rfl)).2
theorem part_len {cs : List C} {o n : Nat} (h : o + n ≤ cs.length) : ((cs.drop o).take n).length = n := by simp; omega
theorem part_get {α : Type} {us : List α} {o n j : Nat} {v : α} (h : ((us.drop o).take n)[j]? = some v) : us[o + j]? = some v := by
  rw [List.getElem?_take] at h
  split at h
  · rwa [List.getElem?_drop] at h
  · simp at h
theorem ok_ldl (hi : INV T μ L f act.tmps h w) {t : TypeId} {n : Nat} {g : Bool} {x : Operand} {y : X} (hs : szOf T.P t = some (n, g)) (hx : xOf x = some y) {r : Nat} (ho : o.dst = some d) (hop : o.op = .load t x) (hd : d < T.I.nt ∧ T.I.env.lookup d ≠ some d)
    (hr : ai (.ldl d r y n g) f h = some (f', h')) (hk : Goes T μ act f' h' K) : o.wp T.P act w K Q := by
  simp only [ai] at hr
  split at hr
  · rename_i r' q he
    split at hr
    · rename_i cs hg
      split at hr
      · rename_i hc
        obtain ⟨rfl, hl⟩ := hc
        simp at hr
        obtain ⟨rfl, rfl⟩ := hr
        obtain ⟨h1, _, _⟩ := lref_ok hi.fp hx he
        obtain ⟨ty, arr, h2, h3⟩ := box_at hi.fp hg
        have h4 := (h3.drop q).take n
        obtain ⟨v, h5, h6⟩ := run_loadVar hs w ⟨L r', q, none⟩ (part_len hl) h4 (fun j v hj => by rw [add_at]; exact cell_at h2 (part_get hj))
        exact fin hi ho hd (by simp [execOp, hop, Instr.loadAt, h1, Instr.sureAddr, h5]) h6 hk
      · simp at hr
    · simp at hr
  · simp at hr
theorem cells_at (hh : HP T μ h w) {id : Nat} {p : Pl} {cs : List C} (hm : μ id = some p) (hc : h.cells id = some cs) : ∃ us : List Value, All2 (CR μ) cs us ∧ ∀ j v, us[j]? = some v → w.cell? ⟨p.blk, p.off + j, none⟩ = some v := by
  unfold H.cells at hc
  split at hc
  · rename_i ty cs' e
    simp at hc
    subst hc
    obtain ⟨a, b, arr, c, dd, rest, q1, q2⟩ := hh.own id p ty cs' hm e
    refine ⟨_, q1, fun j v hj => ?_⟩
    rw [a, Nat.zero_add]
    refine cell_at c ?_
    rw [List.getElem?_take] at hj
    split at hj
    · exact hj
    · simp at hj
  · rename_i cs' e
    simp at hc
    subst hc
    obtain ⟨a, b⟩ := hh.ro id p cs' hm e
    have : ∀ n, n ≤ cs'.length → ∃ us : List Value, us.length = n ∧ ∀ i, i < n → ∀ c u, cs'[i]? = some c → us[i]? = some u → CR μ c u ∧ w.cell? ⟨p.blk, p.off + i, none⟩ = some u := by
      intro n
      induction n with
      | zero => exact fun _ => ⟨[], rfl, fun i hi => by omega⟩
      | succ n ih =>
        intro hn
        obtain ⟨us, hl, hu⟩ := ih (by omega)
        obtain ⟨u, h1, h2⟩ := b n (cs'[n]'(by omega)) (List.getElem?_eq_getElem (by omega))
        refine ⟨us ++ [u], by simp [hl], fun i hi c x hc hx => ?_⟩
        by_cases e : i = n
        · subst e
          rw [List.getElem?_append_right (by omega)] at hx
          simp [hl] at hx
          subst hx
          rw [List.getElem?_eq_getElem (by omega)] at hc
          cases hc
          exact ⟨h2, h1⟩
        · rw [List.getElem?_append_left (by omega)] at hx
          exact hu i (by omega) c x hc hx
    obtain ⟨us, hl, hu⟩ := this cs'.length (Nat.le_refl _)
    refine ⟨us, All2.of_get hl.symm (fun i c x hc hx => (hu i (List.getElem?_eq_some_iff.1 hc).1 c x hc hx).1), fun j v hj => ?_⟩
    have hj' : j < cs'.length := by rw [← hl]; exact (List.getElem?_eq_some_iff.1 hj).1
    exact (hu j hj' _ v (List.getElem?_eq_getElem hj') hj).2
  · simp at hc
theorem ok_ldh (hi : INV T μ L f act.tmps h w) {t : TypeId} {n : Nat} {g : Bool} {x : Operand} {y : X} (hs : szOf T.P t = some (n, g)) (hx : xOf x = some y) (ho : o.dst = some d) (hop : o.op = .load t x) (hd : d < T.I.nt ∧ T.I.env.lookup d ≠ some d)
    (hr : ai (.ldh d y n g) f h = some (f', h')) (hk : Goes T μ act f' h' K) : o.wp T.P act w K Q := by
  simp only [ai] at hr
  split at hr
  · rename_i id q he
    split at hr
    · rename_i cs hg
      split at hr
      · rename_i hl
        simp at hr
        obtain ⟨rfl, rfl⟩ := hr
        obtain ⟨p, h1, h2⟩ := ev1_ok hi.fp hx he
        obtain ⟨us, h3, h3'⟩ := cells_at hi.hp h1 hg
        have h4 := (h3.drop q).take n
        obtain ⟨v, h5, h6⟩ := run_loadVar hs w ⟨p.blk, p.off + q, none⟩ (part_len hl) h4 (fun j v hj => by rw [add_at, Nat.add_assoc]; exact h3' _ _ (part_get hj))
        exact fin hi ho hd (by simp [execOp, hop, Instr.loadAt, h2, Instr.sureAddr, h5]) h6 hk
      · simp at hr
    · simp at hr
  · simp at hr
theorem ok_stl (hi : INV T μ L f act.tmps h w) {t : TypeId} {n : Nat} {g : Bool} {x v : Operand} {y u : X} (hs : szOf T.P t = some (n, g)) (hx : xOf x = some y) (hv : xOf v = some u) {r : Nat} (ho : o.dst = none) (hop : o.op = .store t x v)
    (hr : ai (.stl r y u n) f h = some (f', h')) (hk : Goes T μ act f' h' K) : o.wp T.P act w K Q := by
  simp only [ai] at hr
  split at hr
  · rename_i r' q g' vs he hev
    split at hr
    · rename_i cs hg
      split at hr
      · rename_i hc
        obtain ⟨rfl, hvl, hl⟩ := hc
        simp at hr
        obtain ⟨rfl, rfl⟩ := hr
        obtain ⟨h1, _, _⟩ := lref_ok hi.fp hx he
        obtain ⟨ty, arr, h2, h3⟩ := box_at hi.fp hg
        have h4 := (evp_ok hi.fp hv hev).cells
        have hsz : (act.eval v).cells.size = n := by have := h4.length; simp at this; omega
        have hal : q + n ≤ arr.size := by have := h3.length; simp at this; omega
        have h5 := run_storeVar (P := T.P) hs w (L r') q ty h2 hsz hal (CR.ones h4)
        refine wp_skip' (w' := w.setRow (L r') (setL arr.toList q (act.eval v).cells.toList).toArray) (by simp [execOp, hop, Instr.storeAt, h1, Instr.sureAddr, h5]) ?_
        rw [ho]
        exact hk μ L act _ (hi.setBox hg h2 (by simpa using All2.setL q h3 h4)) (MuLe.refl _) rfl
      · simp at hr
    · simp at hr
  · simp at hr
theorem ok_sth (hi : INV T μ L f act.tmps h w) {t : TypeId} {n : Nat} {g : Bool} {x v : Operand} {y u : X} (hs : szOf T.P t = some (n, g)) (hx : xOf x = some y) (hv : xOf v = some u) (ho : o.dst = none) (hop : o.op = .store t x v)
    (hr : ai (.sth y u n) f h = some (f', h')) (hk : Goes T μ act f' h' K) : o.wp T.P act w K Q := by
  simp only [ai] at hr
  split at hr
  · rename_i id q g' vs he hev
    split at hr
    · rename_i ty cs hg
      split at hr
      · rename_i hc
        obtain ⟨hvl, hl⟩ := hc
        simp at hr
        obtain ⟨rfl, rfl⟩ := hr
        obtain ⟨p, h1, h2⟩ := ev1_ok hi.fp hx he
        obtain ⟨a, b, arr, c, dd, rest, q1, q2⟩ := hi.hp.own id p ty cs h1 hg
        have h4 := (evp_ok hi.fp hv hev).cells
        have hsz : (act.eval v).cells.size = n := by have := h4.length; simp at this; omega
        have hla : cs.length ≤ arr.size := by have := q1.length; simp at this; omega
        have h5 := run_storeVar (P := T.P) hs w p.blk q ty c hsz (by omega) (CR.ones h4)
        have h2' : act.eval x = .pointer (some ⟨p.blk, q, none⟩) := by rw [h2, a, Nat.zero_add]
        refine wp_skip' (w' := w.setRow p.blk (setL arr.toList q (act.eval v).cells.toList).toArray) (by simp [execOp, hop, Instr.storeAt, h2', Instr.sureAddr, h5]) ?_
        rw [ho]
        have hvl2 : (act.eval v).cells.toList.length = n := by simpa using hsz
        have hlen : (setL cs q vs).length = cs.length := setL_length _ _ _
        have ht : (setL arr.toList q (act.eval v).cells.toList).take cs.length = setL (arr.toList.take cs.length) q (act.eval v).cells.toList := by
          rw [setL_eq _ _ _ (by simp [hvl2]; omega), setL_eq _ _ _ (by simp [hvl2]; omega)]
          have e0 : (arr.toList.take cs.length).take q = arr.toList.take q := by rw [List.take_take]; congr 1; omega
          rw [e0, hvl2]
          have e1 : (arr.toList.take q ++ (act.eval v).cells.toList).length = q + n := by simp [hvl2]; omega
          rw [List.take_append, e1]
          rw [List.take_of_length_le (by rw [e1]; omega)]
          congr 1
          rw [List.drop_take]
        refine hk μ L act _ (hi.setOwn h1 hg c (by simp [setL_length]) (rest := (setL arr.toList q (act.eval v).cells.toList).drop cs.length) ?_ ?_) (MuLe.refl _) rfl
        · rw [hlen]
          simp only [ht]
          exact All2.setL q q1 h4
        · rw [hlen]; simp
      · simp at hr
    · simp at hr
  · simp at hr
end
end
end Go.Eng
