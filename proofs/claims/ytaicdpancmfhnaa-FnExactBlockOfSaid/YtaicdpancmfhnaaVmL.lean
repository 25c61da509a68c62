/-
  The value machine, part L: calls; the rules of the symbolic run.
-/
import Derived.Test.YtaicdpancmfhnaaVmR
set_option linter.unusedVariables false
set_option linter.unusedSimpArgs false
namespace Go.Eng
def argsU (f : UT) : List X → Option (List (Bool × List D))
  | [] => some []
  | x :: xs => match uvp f x, argsU f xs with
    | some v, some vs => some (v :: vs)
    | _, _ => none
/-- An argument's cell as the callee has it. -/
def argD (st : St) : D → Option D
  | .nils => some (.sl [])
  | .ow k v => match st.slc k v with
    | some (_, _, _, xs) => some (.sl xs)
    | none => none
  | .pt _ _ _ => none
  | .pe _ _ => none
  | .px _ _ _ _ => none
  | .sa k v o n e => match st.els (.sa k v o n e) with
    | some xs => some (.sl xs)
    | none => none
  | d => some d
def argDs (st : St) : List D → Option (List D)
  | [] => some []
  | d :: ds => match argD st d, argDs st ds with
    | some a, some r => some (a :: r)
    | _, _ => none
def argsD (st : St) : List (Bool × List D) → Option (List (Bool × List D))
  | [] => some []
  | (g, ds) :: r => match argDs st ds, argsD st r with
    | some a, some b => some ((g, a) :: b)
    | _, _ => none
def frzD (st : St) : D → St
  | .ow k v => match st.slc k v with
    | some (_, _, t, xs) => st.put k (.sl v false false t xs)
    | none => st
  | _ => st
def frzDs (st : St) : List D → St
  | [] => st
  | d :: ds => frzDs (frzD st d) ds
def frzA (st : St) : List (Bool × List D) → St
  | [] => st
  | (_, ds) :: r => frzA (frzDs st ds) r
/-- What does not lead into an own slice. -/
def sfD (st : St) : D → Bool
  | .ow k v => match st.slc k v with
    | some (false, _) => true
    | _ => false
  | .sa _ _ _ _ _ => false
  | _ => true
def sfDs (st : St) : List D → Bool
  | [] => true
  | d :: ds => sfD st d && sfDs st ds
def sfA (st : St) : List (Bool × List D) → Bool
  | [] => true
  | (_, ds) :: r => sfDs st ds && sfA st r
def mkP (as : List (Bool × List D)) : List (Bool × List E) := as.map fun a => (a.1, a.2.map E.p)
theorem impE_mkP : ∀ (ds : List D) (k v : Nat), impE k v (ds.map E.p) = (ds, [])
  | [], _, _ => rfl
  | d :: ds, k, v => by simp only [List.map_cons, impE, impE_mkP ds]
theorem impR_mkP : ∀ (as : List (Bool × List D)) (k v : Nat), impR k v (mkP as) = (as, [])
  | [], _, _ => rfl
  | (g, ds) :: r, k, v => by
    have := impR_mkP r (k + szE (ds.map E.p)) (v + szE (ds.map E.p))
    unfold mkP at this ⊢
    simp only [List.map_cons, impR, impE_mkP, this, List.append_nil]
theorem ptr1_mkP : ∀ (cs : List C) (ds : List D), ptr1 cs (ds.map E.p) = []
  | [], [] => rfl
  | [], _ :: _ => rfl
  | _ :: _, [] => rfl
  | _ :: cs, _ :: ds => by simp only [List.map_cons, ptr1, ptr1_mkP cs ds]
theorem ptrs_mkP : ∀ (ms : List (Bool × List C)) (as : List (Bool × List D)), ptrs ms (mkP as) = []
  | [], [] => rfl
  | [], _ :: _ => rfl
  | _ :: _, [] => rfl
  | (_, cs) :: ms, (_, ds) :: as => by
    have := ptrs_mkP ms as
    unfold mkP at this ⊢
    simp only [List.map_cons, ptrs, ptr1_mkP, this, List.append_nil]
theorem impE_len : ∀ (es : List E) (k v : Nat), (impE k v es).1.length = es.length
  | [], _, _ => rfl
  | .e (.p _) :: r, k, v => by simp [impE, impE_len r]
  | .e (.o _ _ _) :: r, k, v => by simp [impE, impE_len r]
  | .pt _ xs :: r, k, v => by simp [impE, impE_len r]
section
variable {Γ Γ' : Cx} {γ γ' : Gh} {f f' : UT} {st st' : St} {mf mf' : Fr} {h h' : H}
theorem argsU_ok (hr : RelG Γ γ f st mf h) : ∀ {xs : List X} {vs : List (Bool × List D)}, argsU f xs = some vs → ∃ ms, args mf xs = some ms ∧ All2 (DG Γ γ st h) ms vs
  | [], vs, he => by simp [argsU] at he; subst he; exact ⟨[], rfl, trivial⟩
  | x :: xs, vs, he => by
    simp only [argsU] at he
    split at he
    · rename_i v r h1 h2
      simp at he
      subst he
      obtain ⟨g, ds⟩ := v
      obtain ⟨cs, q1, q2⟩ := uvp_ok hr h1
      obtain ⟨ms, k1, k2⟩ := argsU_ok hr h2
      exact ⟨(g, cs) :: ms, by simp only [args, q1, k1], ⟨rfl, q2⟩, k2⟩
    · simp at he
/-- As the callee has it: where something is led to. -/
theorem argD_ok (hr : RelG Γ γ f st mf h) {c : C} {d d' : D} (hd : DC Γ γ st h c d) (ha : argD st d = some d') : ∃ S, RD h d' c S ∧ (sfD st d = true → ∀ i ∈ S, PR Γ γ st i) := by
  cases d <;> simp only [argD] at ha
  case nils =>
    simp at ha
    subst ha
    obtain ⟨S, h1, _⟩ := hd
    simp only [RD] at h1
    exact ⟨[], RD_sl.2 (.inl ⟨rfl, rfl, .inl h1.1⟩), fun _ i hi => by cases hi⟩
  case ow k v =>
    split at ha
    · rename_i o dp t xs hs
      simp at ha
      subst ha
      have hl := St.slc_spec hs
      cases o with
      | true =>
        obtain ⟨S, h1, h2⟩ := els_ok hr hd (xs := xs) (by simp only [St.els, hs])
        exact ⟨S, h1, fun h3 => by simp [sfD, hs] at h3⟩
      | false =>
        obtain ⟨_, _, _, S, h1, h2⟩ := hr.en _ _ hl
        rw [← hd.2 _ _ _ _ hl] at h1
        exact ⟨S, h1, fun _ => h2⟩
    · simp at ha
  case sa k v o n e =>
    split at ha
    · rename_i xs hs
      simp at ha
      subst ha
      obtain ⟨S, h1, h2⟩ := els_ok hr hd hs
      exact ⟨S, h1, fun h3 => by simp [sfD] at h3⟩
    · simp at ha
  all_goals first
    | (simp at ha; done)
    | (simp at ha
       subst ha
       obtain ⟨S, h1, h2⟩ := hd
       exact ⟨S, h1, fun _ => h2⟩)
theorem argDs_ok (hr : RelG Γ γ f st mf h) : ∀ {cs : List C} {ds ds' : List D}, All2 (DC Γ γ st h) cs ds → argDs st ds = some ds' → All2 (fun c d' => ∃ S, RD h d' c S ∧ (sfDs st ds = true → ∀ i ∈ S, PR Γ γ st i)) cs ds'
  | [], [], ds', _, ha => by simp [argDs] at ha; subst ha; trivial
  | c :: cs, d :: ds, ds', hd, ha => by
    simp only [argDs] at ha
    split at ha
    · rename_i a r h1 h2
      simp at ha
      subst ha
      obtain ⟨S, k1, k2⟩ := argD_ok hr hd.1 h1
      refine ⟨⟨S, k1, fun hs => k2 (by simp [sfDs] at hs; exact hs.1)⟩, (argDs_ok hr hd.2 h2).imp fun c d ⟨S, q1, q2⟩ => ⟨S, q1, fun hs => q2 (by simp [sfDs] at hs; exact hs.2)⟩⟩
    · simp at ha
theorem argsD_ok (hr : RelG Γ γ f st mf h) : ∀ {ms : List (Bool × List C)} {vs as : List (Bool × List D)}, All2 (DG Γ γ st h) ms vs → argsD st vs = some as → All2 (fun (m : Bool × List C) (a : Bool × List D) => m.1 = a.1 ∧ All2 (fun c d' => ∃ S, RD h d' c S ∧ (sfA st vs = true → ∀ i ∈ S, PR Γ γ st i)) m.2 a.2) ms as
  | [], [], as, _, ha => by simp [argsD] at ha; subst ha; trivial
  | (g, cs) :: ms, (g', ds) :: vs, as, hd, ha => by
    simp only [argsD] at ha
    split at ha
    · rename_i a r h1 h2
      simp at ha
      subst ha
      refine ⟨⟨hd.1.1, (argDs_ok hr hd.1.2 h1).imp fun c d ⟨S, q1, q2⟩ => ⟨S, q1, fun hs => q2 (by simp [sfA] at hs; exact hs.1)⟩⟩, (argsD_ok hr hd.2 h2).imp fun m a ⟨q0, q⟩ => ⟨q0, q.imp fun c d ⟨S, q1, q2⟩ => ⟨S, q1, fun hs => q2 (by simp [sfA] at hs; exact hs.2)⟩⟩⟩
    · simp at ha
theorem frzD_ok (hr : RelG Γ γ f st mf h) (d : D) : ∃ γ', RelG Γ γ' f (frzD st d) mf h ∧ Mo Γ γ st h γ' (frzD st d) h := by
  cases d <;> simp only [frzD] <;> try exact ⟨γ, hr, Mo.refl⟩
  rename_i k v
  split
  · rename_i o dp t xs hs
    obtain ⟨γ', h1, h2, _⟩ := hr.freeze (dp' := false) (St.slc_spec hs)
    exact ⟨γ', h1, h2⟩
  · exact ⟨γ, hr, Mo.refl⟩
theorem frzDs_ok : ∀ (ds : List D) {γ : Gh} {st : St}, RelG Γ γ f st mf h → ∃ γ', RelG Γ γ' f (frzDs st ds) mf h ∧ Mo Γ γ st h γ' (frzDs st ds) h
  | [], γ, st, hr => ⟨γ, hr, Mo.refl⟩
  | d :: ds, γ, st, hr => by
    obtain ⟨γ1, h1, h2⟩ := frzD_ok hr d
    obtain ⟨γ2, h3, h4⟩ := frzDs_ok ds h1
    exact ⟨γ2, h3, h2.trans h4⟩
theorem frzA_ok : ∀ (vs : List (Bool × List D)) {γ : Gh} {st : St}, RelG Γ γ f st mf h → ∃ γ', RelG Γ γ' f (frzA st vs) mf h ∧ Mo Γ γ st h γ' (frzA st vs) h
  | [], γ, st, hr => ⟨γ, hr, Mo.refl⟩
  | (_, ds) :: vs, γ, st, hr => by
    obtain ⟨γ1, h1, h2⟩ := frzDs_ok ds hr
    obtain ⟨γ2, h3, h4⟩ := frzA_ok vs h1
    exact ⟨γ2, h3, h2.trans h4⟩
/-- A bundle of cells that are read alone. -/
theorem bun_pure {ar : Nat → Prop} (har : ∀ i, ar i → i < h.length) {ms : List (Bool × List C)} {as : List (Bool × List D)} (hc : clR (mkP as) = true) (ha : All2 (fun (m : Bool × List C) (a : Bool × List D) => m.1 = a.1 ∧ All2 (fun c d' => ∃ S, RD h d' c S ∧ ∀ i ∈ S, ar i) m.2 a.2) ms as) : Bun ⟨h, ar, [], []⟩ h K0 0 (mkP as) ms := by
  let γ0 : Gh := ⟨fun _ => .nils, fun _ => [], fun _ => []⟩
  refine ⟨γ0, ⟨fun k => (by rw [PT.get_leaf, UT.get_leaf]; intro cs e; cases e), fun k e hl => ?_, fun k e hl => ?_, fun k1 k2 e1 e2 hne hl1 hl2 => ?_, Nat.le_refl _, fun _ _ _ => rfl, har, fun p hp => (by cases hp), fun i cs hi => (by rcases hi with hi | hi; cases hi; rw [List.getElem?_eq_none hi]; simp)⟩, ?_⟩
  · rw [impR_mkP] at hl; simp [lk] at hl
  · rw [impR_mkP] at hl; simp [lk] at hl
  · rw [impR_mkP] at hl1; simp [lk] at hl1
  · obtain ⟨v1, _⟩ := impR_VD hc K0 0
    rw [impR_mkP] at v1 ⊢
    refine All2.mem (fun m a hma ⟨q0, q⟩ => ⟨q0, All2.mem (fun c d hd ⟨S, q1, q2⟩ => ?_) q⟩) ha
    have hv := v1 a hma d hd
    have : ∃ S, RD h d c S ∧ ∀ i ∈ S, PR ⟨h, ar, [], []⟩ γ0 ⟨0 + szR (mkP as), []⟩ i := ⟨S, q1, fun i hi => ⟨.inl (q2 i hi), fun k e hl => by simp [lk] at hl⟩⟩
    cases d <;> first | exact this | (simp only [RD] at q1)
theorem argD_pu {d d' : D} (ha : argD st d = some d') : puD d' = true := by
  cases d <;> simp only [argD] at ha
  case ow k v => split at ha <;> simp at ha; subst ha; rfl
  case sa k v o n e => split at ha <;> simp at ha; subst ha; rfl
  all_goals first
    | (simp at ha; done)
    | (simp at ha; subst ha; rfl)
theorem argsD_cl : ∀ {vs as : List (Bool × List D)}, argsD st vs = some as → clR (mkP as) = true
  | [], as, ha => by simp [argsD] at ha; subst ha; rfl
  | (g, ds) :: vs, as, ha => by
    simp only [argsD] at ha
    split at ha
    · rename_i a r h1 h2
      simp at ha
      subst ha
      have key : ∀ {ds a : List D}, argDs st ds = some a → clE (a.map E.p) = true := by
        intro ds
        induction ds with
        | nil => intro a h; simp [argDs] at h; subst h; rfl
        | cons d ds ih =>
          intro a h
          simp only [argDs] at h
          split at h
          · rename_i a' r' k1 k2
            simp at h
            subst h
            simp only [List.map_cons, clE, cl0, argD_pu k1, ih k2, Bool.and_self]
          · simp at h
      have := argsD_cl h2
      unfold mkP at this ⊢
      simp only [List.map_cons, clR, key h1, this, Bool.and_self]
    · simp at ha
/-- A call. -/
theorem call_ok {cd : Nat → Option AF} {g d : Nat} {xs : List X} {vs as : List (Bool × List D)} {Q : List (Bool × List E) → List E → Prop} (hr : Rel Γ f st mf h) (hx : argsU f xs = some vs) (sh : Bool)
    (ha : argsD (if sh then frzA st vs else st) vs = some as) (hsf : sh = true → sfA (frzA st vs) vs = true) (hc : VC cd g (mkP as) Q) (hns : sh = false → ∀ rs ps, Q rs ps → nsR rs = true) :
    ∃ ms, args mf xs = some ms ∧ WC cd g ms h (fun r h' => ∃ rs, Q rs [] ∧ (∃ t, h' = h ++ t) ∧ Rel Γ (retF f (if sh then frzA st vs else st) d rs) (retS (if sh then frzA st vs else st) d rs) (setD mf d r) h') := by
  obtain ⟨γ, hr⟩ := hr
  obtain ⟨ms, m1, m2⟩ := argsU_ok hr hx
  refine ⟨ms, m1, ?_⟩
  have hcl := argsD_cl ha
  have fin : ∀ (γ1 : Gh) (st1 : St) (ar : Nat → Prop), RelG Γ γ1 f st1 mf h → (∀ i, ar i → i < h.length) → All2 (fun (m : Bool × List C) (a : Bool × List D) => m.1 = a.1 ∧ All2 (fun c d' => ∃ S, RD h d' c S ∧ ∀ i ∈ S, ar i) m.2 a.2) ms as → (∀ rs, Q rs [] → nsR rs = true ∨ ∀ i, ar i → PR Γ γ1 st1 i) →
      WC cd g ms h (fun r h' => ∃ rs, Q rs [] ∧ (∃ t, h' = h ++ t) ∧ Rel Γ (retF f st1 d rs) (retS st1 d rs) (setD mf d r) h') := by
    intro γ1 st1 ar h1 har hall hsh
    have hw := hc ⟨h, ar, [], []⟩ ms rfl (bun_pure har hcl hall)
    refine hw.mono fun r h' ⟨rs, ps, css, hq, hcl2, hv, hb⟩ => ?_
    have hb' := hb (keyC d) st1.nx
    rw [ptrs_mkP] at hb'
    have hps : ps = [] := by
      obtain ⟨γb, _, hcc⟩ := hb'
      rw [impR_snoc] at hcc
      have := (All2.snoc hcc).2.2.length
      rw [impE_len] at this
      exact List.eq_nil_of_length_eq_zero this.symm
    subst hps
    have hcl3 : clR rs = true := by
      have : ∀ (rs : List (Bool × List E)), clR (rs ++ [(true, [])]) = true → clR rs = true := by
        intro rs
        induction rs with
        | nil => intro _; rfl
        | cons a r ih => intro h; obtain ⟨g, es⟩ := a; simp only [List.cons_append, clR, Bool.and_eq_true] at h ⊢; exact ⟨h.1, ih h.2⟩
      exact this rs hcl2
    obtain ⟨γ2, k1, k2⟩ := h1.ret0 d hb' hcl3 (hsh rs hq)
    rw [hv]
    refine ⟨rs, hq, ?_, γ2, k1⟩
    obtain ⟨γb, hB, _⟩ := hb'
    refine ⟨h'.drop h.length, ?_⟩
    have : h'.take h.length = h := by
      apply List.ext_getElem?
      intro i
      rw [List.getElem?_take]
      split
      · rename_i hi; exact hB.base i hi (by simp)
      · rw [List.getElem?_eq_none (by omega)]
    rw [← this]
    have hl : (h'.take h.length).length = h.length := by rw [this]
    rw [hl]
    exact (List.take_append_drop _ _).symm
  cases sh with
  | false =>
    simp only [Bool.false_eq_true, if_false] at ha ⊢
    exact fin γ st (fun i => i < h.length) hr (fun i hi => hi) ((argsD_ok hr m2 ha).imp fun m a ⟨q0, q⟩ => ⟨q0, q.imp fun c d ⟨S, q1, _⟩ => ⟨S, q1, fun i hi => RD.lt d q1 i hi⟩⟩) (fun rs hq => .inl (hns rfl rs [] hq))
  | true =>
    simp only [if_true] at ha ⊢
    obtain ⟨γ1, k1, k2⟩ := frzA_ok vs hr
    have m3 : All2 (DG Γ γ1 (frzA st vs) h) ms vs := m2.imp fun m a ⟨q0, q⟩ => ⟨q0, q.imp fun c d hd => hd.mo k2⟩
    exact fin γ1 (frzA st vs) (fun i => i < h.length ∧ PR Γ γ1 (frzA st vs) i) k1 (fun i hi => hi.1) ((argsD_ok k1 m3 ha).imp fun m a ⟨q0, q⟩ => ⟨q0, q.imp fun c d ⟨S, q1, q2⟩ => ⟨S, q1, fun i hi => ⟨RD.lt d q1 i hi, q2 (hsf rfl) i hi⟩⟩⟩) (fun rs _ => .inr fun i hi => hi.2)
end
/-! ### A call with a pointer -/
def nrmD : D → D
  | .nils => .sl []
  | d => d
def nrmE : E → E
  | .e (.p .nils) => .e (.p (.sl []))
  | x => x
def nrm (as : List (Bool × List E)) : List (Bool × List E) := as.map fun a => (a.1, a.2.map nrmE)
def ptOf1 : List D → List (Nat × Nat)
  | [] => []
  | .pt k v _ :: r => (k, v) :: ptOf1 r
  | _ :: r => ptOf1 r
def ptOf : List (Bool × List D) → List (Nat × Nat)
  | [] => []
  | (_, ds) :: r => ptOf1 ds ++ ptOf r
/-- What moves along leads to nothing deeper. -/
def usOk (st : St) (us : List Nat) : Bool := us.all fun k => match lk k st.es with
  | some (.sl _ _ dp _ xs) => !dp || flat xs
  | _ => true
theorem szE_nrm : ∀ es : List E, szE (es.map nrmE) = szE es
  | [] => rfl
  | x :: r => by
    have ih := szE_nrm r
    rcases x with (d | _) | _ <;> try (simp only [List.map_cons, nrmE, szE, ih]; done)
    cases d <;> simp only [List.map_cons, nrmE, szE, ih]
theorem impE_nrm : ∀ (es : List E) (k v : Nat), impE k v (es.map nrmE) = ((impE k v es).1.map nrmD, (impE k v es).2)
  | [], _, _ => rfl
  | x :: r, k, v => by
    have ih := impE_nrm r
    rcases x with (d | _) | _ <;> try (simp only [List.map_cons, nrmE, impE, ih, nrmD]; done)
    cases d <;> simp only [List.map_cons, nrmE, impE, ih, nrmD]
theorem szR_nrm : ∀ as : List (Bool × List E), szR (nrm as) = szR as
  | [] => rfl
  | (g, es) :: r => by
    have ih := szR_nrm r
    unfold nrm at ih ⊢
    simp only [List.map_cons, szR, szE_nrm, ih]
theorem impR_nrm : ∀ (as : List (Bool × List E)) (k v : Nat), impR k v (nrm as) = ((impR k v as).1.map (fun a => (a.1, a.2.map nrmD)), (impR k v as).2)
  | [], _, _ => rfl
  | (g, es) :: r, k, v => by
    have ih := impR_nrm r
    unfold nrm at ih ⊢
    simp only [List.map_cons, impR, impE_nrm, szE_nrm, ih]
theorem All2.mapR {α β δ : Type} {R : α → β → Prop} {T : α → δ → Prop} {g : β → δ} (h : ∀ a b, R a b → T a (g b)) : ∀ {xs : List α} {ys : List β}, All2 R xs ys → All2 T xs (ys.map g)
  | [], [], _ => trivial
  | _ :: _, _ :: _, hr => ⟨h _ _ hr.1, All2.mapR h hr.2⟩
theorem Bun.nrm {Γ : Cx} {h : H} {K v : Nat} {gs : List (Bool × List E)} {css : List (Bool × List C)} (hb : Bun Γ h K v gs css) : Bun Γ h K v (nrm gs) css := by
  obtain ⟨γ, h1, h2⟩ := hb
  unfold Bun
  rw [szR_nrm, impR_nrm]
  refine ⟨γ, h1, All2.mapR (fun a b hab => ⟨hab.1, All2.mapR (fun c d hd => ?_) hab.2⟩) h2⟩
  cases d <;> try exact hd
  obtain ⟨S, h3, _⟩ := hd
  simp only [RD] at h3
  exact ⟨[], RD_sl.2 (.inl ⟨rfl, rfl, .inl h3.1⟩), fun i hi => by cases hi⟩
theorem ptr1_nrm : ∀ (cs : List C) (es : List E), ptr1 cs (es.map nrmE) = ptr1 cs es
  | [], es => by cases es <;> simp [ptr1]
  | _ :: cs, [] => rfl
  | c :: cs, x :: r => by
    have ih := ptr1_nrm cs r
    rcases x with (d | _) | _ <;> try (simp only [List.map_cons, nrmE, ptr1, ih]; done)
    cases d <;> simp only [List.map_cons, nrmE, ptr1, ih]
theorem ptrs_nrm : ∀ (ms : List (Bool × List C)) (as : List (Bool × List E)), ptrs ms (nrm as) = ptrs ms as
  | [], as => by cases as <;> simp [Go.Eng.nrm, ptrs]
  | _ :: _, [] => rfl
  | (g, cs) :: ms, (g', es) :: r => by
    have ih := ptrs_nrm ms r
    unfold Go.Eng.nrm at ih ⊢
    simp only [List.map_cons, ptrs, ptr1_nrm, ih]
section
variable {Γ : Cx} {γ : Gh} {f : UT} {st : St} {mf : Fr} {h h' : H}
theorem ptr1_ok : ∀ {cs : List C} {ds : List D} {us us' : List Nat} {es : List E}, All2 (DC Γ γ st h) cs ds → expE st ds us = some (es, us') → All2 (fun c (p : Nat × Nat) => DC Γ γ st h c (.pt p.1 p.2 0)) (ptr1 cs es) (ptOf1 ds)
  | [], [], us, us', es, _, he => by simp [expE] at he; obtain ⟨rfl, rfl⟩ := he; trivial
  | c :: cs, d :: ds, us, us', es, hd, he => by
    cases d
    case pt k v o =>
      simp only [expE] at he
      split at he
      · split at he
        · simp at he
        · rename_i ho
          simp only [Bool.or_eq_true, not_or, Bool.not_eq_true, bne_eq_false_iff_eq] at ho
          split at he
          · split at he
            · rename_i q
              simp at he
              obtain ⟨rfl, rfl⟩ := he
              simp only [ptr1, ptOf1]
              obtain rfl := ho.2
              exact ⟨hd.1, ptr1_ok hd.2 q⟩
            · simp at he
          · simp at he
      · simp at he
    all_goals
      simp only [expE] at he
      split at he
      · split at he
        · rename_i q
          simp at he
          obtain ⟨rfl, rfl⟩ := he
          simp only [ptr1, ptOf1]
          exact ptr1_ok hd.2 q
        · simp at he
      · simp at he
theorem ptrs_ok : ∀ {ms : List (Bool × List C)} {vs : List (Bool × List D)} {us us' : List Nat} {as : List (Bool × List E)}, All2 (DG Γ γ st h) ms vs → expR st vs us = some (as, us') → All2 (fun c (p : Nat × Nat) => DC Γ γ st h c (.pt p.1 p.2 0)) (ptrs ms as) (ptOf vs)
  | [], [], us, us', as, _, he => by simp [expR] at he; obtain ⟨rfl, rfl⟩ := he; trivial
  | (g, cs) :: ms, (g', ds) :: vs, us, us', as, hd, he => by
    simp only [expR] at he
    split at he
    · rename_i q1
      split at he
      · rename_i q2
        simp at he
        obtain ⟨rfl, rfl⟩ := he
        simp only [ptrs, ptOf]
        exact (ptr1_ok hd.1.2 q1).append (ptrs_ok hd.2 q2)
      · simp at he
    · simp at he
/-- A call with one pointer. -/
theorem call1_ok {cd : Nat → Option AF} {g d : Nat} {xs : List X} {vs : List (Bool × List D)} {as as' : List (Bool × List E)} {us : List Nat} {k0 v0 ty0 ty : Nat} {ds0 : List D} {rs : List (Bool × List E)} {ys : List E0} (hr : Rel Γ f st mf h) (hx : argsU f xs = some vs)
    (hc : VC cd g as' (fun r p => r = rs ∧ p = [.pt ty ys])) (ha : expR (frzA st vs) vs [] = some (as, us)) (hn : nrm as = as') (hp : ptOf vs = [(k0, v0)]) (hl : (frzA st vs).ptr k0 v0 = some (ty0, ds0)) (hu : us.elem k0 = true) (ho : usOk (frzA st vs) us = true)
    (n1 : k0 < keyC d ∨ keyC d + szR rs ≤ k0) (n2 : k0 < 1099511627776) (n3 : keyC d + szR rs ≤ 1099511627776) :
    ∃ ms, args mf xs = some ms ∧ WC cd g ms h (fun r h' => Rel Γ (retF f (frzA st vs) d rs) (retP (frzA st vs) d rs k0 v0 ty ys us) (setD mf d r) h') := by
  obtain ⟨γ0, hr⟩ := hr
  obtain ⟨ms, m1, m2⟩ := argsU_ok hr hx
  refine ⟨ms, m1, ?_⟩
  obtain ⟨γ, k1, k2⟩ := frzA_ok vs hr
  have m3 : All2 (DG Γ γ (frzA st vs) h) ms vs := m2.imp fun m a ⟨q0, q⟩ => ⟨q0, q.imp fun c d hd => hd.mo k2⟩
  generalize frzA st vs = st1 at *
  have hku : k0 ∈ us := by simpa using hu
  have hu0 : ∀ k ∈ us, ∀ e, lk k st1.es = some e → γ.u k = [] := fun k hk e he => by
    have h1 : (match lk k st1.es with | some (.sl _ _ dp _ xs) => !dp || flat xs | _ => true) = true := List.all_eq_true.1 ho k hk
    rw [he] at h1
    have h2 := k1.en k e he
    match e, h1, h2 with
    | .pt _ _ _, _, h2 => exact h2.2.1
    | .sl v false dp t ys, _, h2 => exact h2.2.2.1
    | .sl v true dp t ys, h1, h2 =>
      rcases h2.2 with h2 | ⟨id, ty', ez, bs, S, a1, a2, a3, a4, a5, a6, a7, a8⟩
      · exact h2.2.2.1
      · rw [a8]
        split
        · rename_i hd
          simp only [hd, Bool.not_true, Bool.false_or] at h1
          exact a6.flatS h1
        · rfl
  let bs : List Nat := us.flatMap fun k => if (lk k st1.es).isSome then γ.w k else []
  have hbs : ∀ i, i ∈ bs ↔ ∃ k ∈ us, ∃ e, lk k st1.es = some e ∧ i ∈ γ.w k := fun i => by
    simp only [bs, List.mem_flatMap]
    constructor
    · rintro ⟨k, hk, hi⟩
      split at hi
      · rename_i hs
        obtain ⟨e, he⟩ := Option.isSome_iff_exists.1 hs
        exact ⟨k, hk, e, he, hi⟩
      · cases hi
    · rintro ⟨k, hk, e, he, hi⟩
      exact ⟨k, hk, by rw [he]; simpa using hi⟩
  have hown : ∀ i cs, Mine ⟨h, fun i => i < h.length ∧ PR Γ γ st1 i, bs, []⟩ i → h[i]? ≠ some (.ro cs) := fun i cs hi => by
    rcases hi with hi | hi
    · obtain ⟨k, _, e, he, hw⟩ := (hbs i).1 hi
      exact k1.own i cs ((k1.nd k e he).2 i (by simp [hw]))
    · rw [List.getElem?_eq_none hi]; simp
  have hb : Bun ⟨h, fun i => i < h.length ∧ PR Γ γ st1 i, bs, []⟩ h K0 0 as ms :=
    k1.out (Γ' := ⟨h, fun i => i < h.length ∧ PR Γ γ st1 i, bs, []⟩) ha m3 (fun i hi hp => .inl ⟨hi, hp⟩) (fun k hk e he i hi => .inl ((hbs i).2 ⟨k, hk, e, he, by rw [hu0 k hk e he] at hi; simpa using hi⟩)) (Nat.le_refl _) (fun _ _ _ => rfl) (fun i hi => hi.1) rfl hown K0 0
  have hb' := hb.nrm
  rw [hn] at hb'
  have hpt := ptrs_ok m3 ha
  rw [hp, ← ptrs_nrm, hn] at hpt
  match hpc : ptrs ms as', hpt with
  | [c0], hpt =>
  have hcp := hpt.1
  have hlk := St.ptr_spec hl
  refine (hc ⟨h, fun i => i < h.length ∧ PR Γ γ st1 i, bs, []⟩ ms rfl hb').mono fun r h' ⟨rs', ps, css, ⟨e1, e2⟩, hcl, hv, hB⟩ => ?_
  subst e1 e2
  have hB := hB (keyC d) st1.nx
  rw [hpc] at hB
  rw [hv]
  exact k1.ret1 d hlk hku (hcp.2 _ _ hlk) hbs (fun i hi => hi.2) hB hcl n1 n2 n3
end
/-! ### The symbolic run -/
inductive VX (cd : Nat → Option AF) (pd : List (Nat × Nat)) (R : List RV) (Q : List (Bool × List E) → List E → Prop) : List VK → UT → St → Prop
  | nil {f st rs ps} : finU f st R pd = some (rs, ps) → Q rs ps → VX cd pd R Q [] f st
  | b {i k f st} : VX cd pd R Q k f st → VX cd pd R Q (.b i :: k) f st
  | stop {P k f st} : P f st → VX cd pd R Q (.stop P :: k) f st
  | skip {k f st} : VX cd pd R Q k f st → VX cd pd R Q (.c .skip :: k) f st
  | ret {k f st rs ps} : finU f st R pd = some (rs, ps) → Q rs ps → VX cd pd R Q (.c .ret :: k) f st
  | exit {id k k' f st} : exK id k = some k' → VX cd pd R Q k' f st → VX cd pd R Q (.c (.exit id) :: k) f st
  | seq {a b k f st} : VX cd pd R Q (.c a :: .c b :: k) f st → VX cd pd R Q (.c (.seq a b) :: k) f st
  | block {id b k f st} : VX cd pd R Q (.c b :: .b id :: k) f st → VX cd pd R Q (.c (.block id b) :: k) f st
  | cond {x a c k f st} (v : Bool) : uv1 f x = some (.bool v) → VX cd pd R Q (.c (if v then a else c) :: k) f st → VX cd pd R Q (.c (.cond x a c) :: k) f st
  | ops {k f st} : VX cd pd R Q k f st → VX cd pd R Q (.c (.ops []) :: k) f st
  | i {a l k f st f' st'} : vai a f st = some (f', st') → VX cd pd R Q (.c (.ops l) :: k) f' st' → VX cd pd R Q (.c (.ops (.i a :: l)) :: k) f st
  | gy {s w d a l k f st} : uv1 f (.s s) = some (.bool w) → VX cd pd R Q (.c (.ops (.i a :: l)) :: k) f st → VX cd pd R Q (.c (.ops (.g s w d a :: l)) :: k) f st
  | gn {s w d a l k f st} : uv1 f (.s s) = some (.bool (!w)) → VX cd pd R Q (.c (.ops l) :: k) (setDU f d .any) st → VX cd pd R Q (.c (.ops (.g s w d a :: l)) :: k) f st
  | call {d g q xs l k f st vs as} (Q' : List (Bool × List E) → List E → Prop) (sh : Bool) : argsU f xs = some vs → argsD (if sh then frzA st vs else st) vs = some as → (sh = true → sfA (frzA st vs) vs = true) → VC cd g (mkP as) Q' → (sh = false → ∀ rs ps, Q' rs ps → nsR rs = true) →
      (∀ rs, Q' rs [] → VX cd pd R Q (.c (.ops l) :: k) (retF f (if sh then frzA st vs else st) d rs) (retS (if sh then frzA st vs else st) d rs)) → VX cd pd R Q (.c (.ops (.i (.call d g q xs) :: l)) :: k) f st
  | callp {d g xs l k f st vs as as' us k0 v0 ty0 ty ds0 rs ys} : argsU f xs = some vs → VC cd g as' (fun r p => r = rs ∧ p = [.pt ty ys]) → expR (frzA st vs) vs [] = some (as, us) → nrm as = as' → ptOf vs = [(k0, v0)] → (frzA st vs).ptr k0 v0 = some (ty0, ds0) → us.elem k0 = true → usOk (frzA st vs) us = true →
      (k0 < keyC d ∨ keyC d + szR rs ≤ k0) → k0 < 1099511627776 → keyC d + szR rs ≤ 1099511627776 → VX cd pd R Q (.c (.ops l) :: k) (retF f (frzA st vs) d rs) (retP (frzA st vs) d rs k0 v0 ty ys us) → VX cd pd R Q (.c (.ops (.i (.call d g false xs) :: l)) :: k) f st
  | clv {d g q x xs l k f st} : uv1 f x = some (.fn g) → VX cd pd R Q (.c (.ops (.i (.call d g q xs) :: l)) :: k) f st → VX cd pd R Q (.c (.ops (.i (.clv d q x xs) :: l)) :: k) f st
  | loop {ds b k f st} {σ : Type} (F : σ → UT) (S : σ → St) (J : σ → Nat → Prop) (s0 : σ) (g0 : Nat) : J s0 g0 → Weak (forgetU f ds) st (F s0) (S s0) →
      (∀ s g, J s g → VX cd pd R Q (.c b :: .stop (fun f' st' => ∃ s' g', g' < g ∧ J s' g' ∧ Weak (forgetU f' ds) st' (F s') (S s')) :: k) (F s) (S s)) → VX cd pd R Q (.c (.loop ds b) :: k) f st
theorem VX_EX {cd : Nat → Option AF} {R : List RV} {Q : V → H → Prop} {Γ : Cx} {id : Nat} {f : Fr} {h : H} : ∀ {k k' : List VK}, exK id k = some k' → EX cd id (k.map (tr Γ)) f h R Q = WS cd (k'.map (tr Γ)) f h R Q
  | [], _, he => by simp [exK] at he
  | .b i :: k, k', he => by
    simp only [exK] at he
    simp only [List.map_cons, tr, EX_b]
    split at he
    · rename_i hi; simp at he; subst he; rw [if_pos hi]
    · rename_i hi; rw [if_neg hi]; exact VX_EX he
  | .c a :: k, k', he => by simp only [exK] at he; simp only [List.map_cons, tr, EX_c]; exact VX_EX he
  | .stop P :: k, k', he => by simp only [exK] at he; simp only [List.map_cons, tr, EX_stop]; exact VX_EX he
theorem WS_stop_mono {cd : Nat → Option AF} {R : List RV} {Q : V → H → Prop} {b : AC} {P P' : Fr → H → Prop} {k : List KI} {f : Fr} {h : H} (hp : ∀ f h, P f h → P' f h) (hw : WS cd (.c b :: .stop P :: k) f h R Q) : WS cd (.c b :: .stop P' :: k) f h R Q := by
  simp only [WS, cont] at hw ⊢
  refine W.mono hw (fun e f' h' he => ?_)
  cases e with
  | norm => exact hp _ _ he
  | exit i => exact he
  | ret => exact he
/-- What the symbolic run shows holds of the machine. -/
theorem VX_ok {cd : Nat → Option AF} {pd : List (Nat × Nat)} {R : List RV} {Q : List (Bool × List E) → List E → Prop} {k : List VK} {f : UT} {st : St} (hv : VX cd pd R Q k f st) :
    ∀ {Γ : Cx} {mf : Fr} {h : H}, pinK Γ = pd → Rel Γ f st mf h → WS cd (k.map (tr Γ)) mf h R (Post Γ.un (pinC Γ) Q) := by
  induction hv with
  | nil h1 h2 => intro Γ mf h hp hr; simp only [List.map_nil, WS_nil]; subst hp; exact fin_ok hr h1 h2
  | b _ ih => intro Γ mf h hp hr; simp only [List.map_cons, tr, WS_b]; exact ih hp hr
  | stop h1 => intro Γ mf h hp hr; simp only [List.map_cons, tr, WS_stop]; exact ⟨_, _, hr, h1⟩
  | skip _ ih => intro Γ mf h hp hr; simp only [List.map_cons, tr, WS_skip]; exact ih hp hr
  | ret h1 h2 => intro Γ mf h hp hr; simp only [List.map_cons, tr, WS_ret]; subst hp; exact fin_ok hr h1 h2
  | exit h1 _ ih => intro Γ mf h hp hr; simp only [List.map_cons, tr, WS_exit]; rw [VX_EX h1]; exact ih hp hr
  | seq _ ih => intro Γ mf h hp hr; have := ih hp hr; simp only [List.map_cons, tr, WS_seq] at this ⊢; exact this
  | block _ ih => intro Γ mf h hp hr; have := ih hp hr; simp only [List.map_cons, tr, WS_block] at this ⊢; exact this
  | cond v h1 _ ih =>
    intro Γ mf h hp hr
    have := ih hp hr
    obtain ⟨γ, hg⟩ := hr
    simp only [List.map_cons, tr, WS_cond, uv1_dC hg h1 rfl] at this ⊢
    cases v
    · simpa only [BR_false, Bool.false_eq_true, if_false] using this
    · simpa only [BR_true, if_true] using this
  | ops _ ih => intro Γ mf h hp hr; simp only [List.map_cons, tr, WS_ops_nil]; exact ih hp hr
  | @i a l k f st f' st' h1 _ ih =>
    intro Γ mf h hp hr
    obtain ⟨mf', h', k1, k2⟩ := vai_ok hr h1
    have hpl : a.plain = true := by cases a <;> first | rfl | (simp [vai] at h1)
    simp only [List.map_cons, tr]
    rw [WS_plain a hpl, k1, ST_some]
    exact ih hp k2
  | @gy s w d a l k f st h1 h2 ih =>
    intro Γ mf h hp hr
    have := ih hp hr
    obtain ⟨γ, hg⟩ := hr
    simp only [List.map_cons, tr, WS_g, uv1_dC hg h1 rfl, GB, if_true] at this ⊢
    exact this
  | @gn s w d a l k f st h1 h2 ih =>
    intro Γ mf h hp hr
    obtain ⟨γ, hg⟩ := hr
    have := ih hp ⟨γ, UR.setD hg (v := .any) (u := .any) (fun _ e => by cases e)⟩
    simp only [List.map_cons, tr, WS_g, uv1_dC hg h1 rfl, GB] at this ⊢
    rw [if_neg (by cases w <;> simp)]
    exact this
  | @call d g q xs l k f st vs as Q' sh h1 h2 h3 h4 h5 _ ih =>
    intro Γ mf h hp hr
    obtain ⟨ms, m1, m2⟩ := call_ok (d := d) hr h1 sh h2 h3 h4 h5
    simp only [List.map_cons, tr]
    cases q with
    | false =>
      rw [WS_call, m1, CA_some]
      exact m2.mono fun r h' ⟨rs, q1, _, q2⟩ => ih rs q1 hp q2
    | true =>
      rw [WS_callq, m1, CA_some]
      exact m2.mono fun r h' ⟨rs, q1, q3, q2⟩ => ⟨q3, ih rs q1 hp q2⟩
  | callp h1 h2 h3 h4 h5 h6 h7 h8 h9 h10 h11 _ ih =>
    intro Γ mf h hp hr
    obtain ⟨ms, m1, m2⟩ := call1_ok hr h1 h2 h3 h4 h5 h6 h7 h8 h9 h10 h11
    simp only [List.map_cons, tr]
    rw [WS_call, m1, CA_some]
    exact m2.mono fun r h' q2 => ih hp q2
  | clv h1 _ ih =>
    intro Γ mf h hp hr
    have := ih hp hr
    obtain ⟨γ, hg⟩ := hr
    simp only [List.map_cons, tr, WS_clv, uv1_dC hg h1 rfl, CV_fn] at this ⊢
    exact this
  | @loop ds b k f st σ F S J s0 g0 h1 h2 _ ih =>
    intro Γ mf h hp hr
    simp only [List.map_cons, tr]
    refine WS_loop (fun g mf h => ∃ s, J s g ∧ Rel Γ (F s) (S s) (forget mf ds) h) g0 ⟨s0, h1, h2 Γ _ _ (Rel.forget ds hr)⟩ (fun g mf h ⟨s, q1, q2⟩ => ?_)
    have := ih s g q1 hp q2
    simp only [List.map_cons, tr] at this
    exact WS_stop_mono (fun mf' h' ⟨f', st', r1, s', g', r2, r3, r4⟩ => ⟨g', r2, s', r3, r4 Γ _ _ (Rel.forget ds r1)⟩) this
end Go.Eng
