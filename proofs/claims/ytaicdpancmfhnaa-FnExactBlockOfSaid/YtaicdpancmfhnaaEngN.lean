/-
  The engine, part N: regions, in the order of the text and in any order.
-/
import Derived.Test.YtaicdpancmfhnaaEngM
import Derived.Orders
set_option linter.unusedVariables false
set_option linter.unusedSimpArgs false
namespace Go.Eng
section
variable {T : Ctx} {μ μ' : Mu} {L : Nat → Nat} {f f' : Fr} {h h' : H} {w w' : World} {act : Act}
variable {K : Act → World → Prop} {Q : Exit → Act → World → Prop} {call : CallF} {ops : Array Oper}
theorem item_ok (hi : INV T μ L f act.tmps h w) (hcall : CallOk T.P call) {q : Bool} {i : Nat} {o : Oper} (ho : ops[i]? = some o) {it : IT} (hc : compIT T.P T.I q ops o = some it) (hr : runI call it f h = some (f', h')) (hk : Goes T μ act f' h' K) : wpOp T.P ops Q i K act w := by
  unfold wpOp
  simp only [ho]
  unfold compIT at hc
  split at hc
  · simp at hc
  · rename_i a ha
    split at hc
    · rename_i hdr
      have hd : dstOk T.I a o.dst = true := by simp only [Bool.and_eq_true] at hdr; exact hdr.1
      split at hc
      · rename_i hg
        simp at hc
        subst hc
        have : Region.wanted o (yielded ops act.tmps) = true := by simp [Region.wanted, hg]
        rw [if_pos this]
        exact .inl (op_ok hi hcall ha hd hr hk)
      · rename_i j b hg
        split at hc
        · simp at hc
        · rename_i hbx
          have hbx' : a.boxes = false := by simpa using hbx
          split at hc
          · rename_i s hs
            simp only [Option.some.injEq] at hc
            subst hc
            simp only [runI] at hr
            split at hr
            · rename_i b' he
              have hv : act.eval (.tmp s) = .bool b' := ev1_ok hi.fp (x := .tmp s) rfl he
              have hy : yielded ops act.tmps j = some b' := by
                have : act.tmps[s]? = some (.bool b') := by
                  have h1 : act.tmps.getD s undef = .bool b' := hv
                  by_cases hlt : s < act.tmps.size
                  · simp [Array.getD, hlt] at h1
                    rw [Array.getElem?_eq_getElem hlt, h1]
                  · simp [Array.getD, hlt] at h1
                    cases h1
                unfold yielded
                simp [hs, this]
              have hw : Region.wanted o (yielded ops act.tmps) = (b' == b) := by
                simp only [Region.wanted, hg, hy]
                cases b <;> cases b' <;> rfl
              by_cases hb : b' = b
              · subst hb
                rw [if_pos rfl] at hr
                rw [if_pos (by rw [hw]; simp)]
                exact .inl (op_ok hi hcall ha hd hr hk)
              · rw [if_neg hb] at hr
                rw [if_neg (by rw [hw]; simpa using hb)]
                simp only [Option.some.injEq, Prod.mk.injEq] at hr
                obtain ⟨rfl, rfl⟩ := hr
                refine hk μ L _ w ?_ (MuLe.refl _) (put_defers _ _ _)
                have h5 := setD_put (v := .any) (r := undef) hi hd hbx' (.inr rfl)
                cases hdst : o.dst <;> simp only [hdst, dn] at h5 ⊢ <;> exact h5
            · simp at hr
          · simp at hc
    · simp at hc
theorem compL_get {P : Program} {I : Inf} {q : Bool} : ∀ {l : List Oper} {its : List IT}, compL P I q ops l = some its → its.length = l.length ∧ ∀ (i : Nat) (o : Oper), l[i]? = some o → ∃ it, its[i]? = some it ∧ compIT P I q ops o = some it
  | [], its, h => by simp [compL] at h; subst h; exact ⟨rfl, fun i o h => by simp at h⟩
  | o :: l, its, h => by
    simp only [compL] at h
    split at h
    · rename_i it its' h1 h2
      simp at h
      subst h
      obtain ⟨h3, h4⟩ := compL_get h2
      refine ⟨by simp [h3], fun i o' hi => ?_⟩
      cases i with
      | zero => simp at hi; subst hi; exact ⟨it, rfl, h1⟩
      | succ i => exact h4 i o' (by simpa using hi)
    · simp at h
theorem Goes.trans {f2 : Fr} {h2 : H} {μ1 : Mu} {act1 : Act} (hm : MuLe μ μ1) (hd : act1.defers = act.defers) (hk : Goes T μ act f2 h2 K) : Goes T μ1 act1 f2 h2 K :=
  fun μ' L' act' w' hi hm' hd' => hk μ' L' act' w' hi (hm.trans hm') (hd'.trans hd)
/-- The order of the text. -/
theorem seq_ok (hcall : CallOk T.P call) {q : Bool} {its : List IT} (hc : compL T.P T.I q ops ops.toList = some its) {fE : Fr} {hE : H} : ∀ (n k : Nat), k + n = ops.size → ∀ {μ L f h act w}, INV T μ L f act.tmps h w → runL call (its.drop k) f h = some (fE, hE) →
    Goes T μ act fE hE (Q .normal) → wpOps T.P ops Q (List.range' k n) act w
  | 0, k, hkn, μ, L, f, h, act, w, hi, hr, hk => by
    obtain ⟨hl, _⟩ := compL_get hc
    rw [List.drop_eq_nil_of_le (by simp at hl; omega)] at hr
    simp only [runL, Option.some.injEq, Prod.mk.injEq] at hr
    obtain ⟨rfl, rfl⟩ := hr
    simp only [List.range'_zero, wpOps]
    exact hk μ L act w hi (MuLe.refl _) rfl
  | n + 1, k, hkn, μ, L, f, h, act, w, hi, hr, hk => by
    obtain ⟨hl, hg⟩ := compL_get hc
    have hlt : k < ops.size := by omega
    have ho : ops[k]? = some ops[k] := Array.getElem?_eq_getElem hlt
    obtain ⟨it, h1, h2⟩ := hg k ops[k] (by simp)
    have hdrop : its.drop k = it :: its.drop (k + 1) := by
      obtain ⟨hlt', e⟩ := List.getElem?_eq_some_iff.1 h1
      rw [← e]
      exact List.drop_eq_getElem_cons hlt'
    rw [hdrop] at hr
    simp only [runL] at hr
    split at hr
    · rename_i f1 k1 e1
      rw [List.range'_succ, wpOps_cons]
      refine item_ok hi hcall ho h2 e1 fun μ' L' act' w' hi' hm' hd' => ?_
      exact seq_ok hcall hc n (k + 1) (by omega) hi' hr (hk.trans hm' hd')
    · simp at hr
/-! ### Any order -/
/-- What is left, in the order of the text. -/
def rem (listed : Nat → Bool) : Nat → List IT → List IT
  | _, [] => []
  | j, it :: r => if listed j then rem listed (j + 1) r else it :: rem listed (j + 1) r
theorem rem_same {l l' : Nat → Bool} : ∀ (its : List IT) (j : Nat), (∀ k, j ≤ k → l k = l' k) → rem l j its = rem l' j its
  | [], _, _ => rfl
  | it :: r, j, h => by
    simp only [rem, h j (Nat.le_refl _), rem_same r (j + 1) (fun k hk => h k (by omega))]
theorem rem_split {l l' : Nat → Bool} {i : Nat} {it : IT} (hi : l i = false) (hi' : l' i = true) (hs : ∀ k, k ≠ i → l' k = l k) : ∀ (its : List IT) (j : Nat), j ≤ i → its[i - j]? = some it →
    ∃ l1 l2, rem l j its = l1 ++ it :: l2 ∧ rem l' j its = l1 ++ l2 ∧ ∀ b ∈ l1, ∃ k, j ≤ k ∧ k < i ∧ its[k - j]? = some b ∧ l k = false
  | [], j, hji, h => by simp at h
  | a :: r, j, hji, h => by
    by_cases e : j = i
    · subst e
      simp at h
      subst h
      refine ⟨[], rem l (j + 1) r, by simp [rem, hi], ?_, fun b hb => by simp at hb⟩
      simp only [rem, hi', if_true, List.nil_append]
      exact rem_same r (j + 1) (fun k hk => hs k (by omega))
    · have hsub : i - j = (i - (j + 1)) + 1 := by omega
      rw [hsub] at h
      obtain ⟨l1, l2, h1, h2, h3⟩ := rem_split hi hi' hs r (j + 1) (by omega) (by simpa using h)
      have hsh : ∀ k, j + 1 ≤ k → (a :: r)[k - j]? = r[k - (j + 1)]? := fun k hk => by
        have : k - j = (k - (j + 1)) + 1 := by omega
        rw [this, List.getElem?_cons_succ]
      cases hl : l j with
      | true =>
        refine ⟨l1, l2, by simp [rem, hl, h1], by simp [rem, hs j e, hl, h2], fun b hb => ?_⟩
        obtain ⟨k, k1, k2, k3, k4⟩ := h3 b hb
        exact ⟨k, by omega, k2, by rw [hsh k k1]; exact k3, k4⟩
      | false =>
        refine ⟨a :: l1, l2, by simp [rem, hl, h1], by simp [rem, hs j e, hl, h2], fun b hb => ?_⟩
        rcases List.mem_cons.1 hb with rfl | hb
        · exact ⟨j, Nat.le_refl _, by omega, by simp, hl⟩
        · obtain ⟨k, k1, k2, k3, k4⟩ := h3 b hb
          exact ⟨k, by omega, k2, by rw [hsh k k1]; exact k3, k4⟩
theorem rem_none {l : Nat → Bool} : ∀ (its : List IT) (j : Nat), (∀ k, j ≤ k → k < j + its.length → l k = true) → rem l j its = []
  | [], _, _ => rfl
  | it :: r, j, h => by
    simp only [rem, h j (Nat.le_refl _) (by simp)]
    exact rem_none r (j + 1) (fun k h1 h2 => h k (by omega) (by simp; omega))
theorem rem_all {l : Nat → Bool} : ∀ (its : List IT) (j : Nat), (∀ k, j ≤ k → l k = false) → rem l j its = its
  | [], _, _ => rfl
  | it :: r, j, h => by
    simp [rem, h j (Nat.le_refl _), rem_all r (j + 1) (fun k h1 => h k (by omega))]
theorem apart_spec {its : List IT} {it : IT} {b : Nat} : ∀ {n i : Nat}, apartAll its it b n = true → i < n → ∀ o, its[i]? = some o → meets o it = false ∨ b.testBit i = true
  | 0, i, _, h, _, _ => by omega
  | n + 1, i, h, hlt, o, ho => by
    simp only [apartAll, Bool.and_eq_true] at h
    by_cases e : i = n
    · subst e
      have h1 := h.1
      rw [ho] at h1
      simpa using h1
    · exact apart_spec h.2 (by omega) o ho
theorem drawOk_spec {its : List IT} {bs : List Nat} : ∀ {n j : Nat}, drawOk its bs n = true → j < n → ∃ it b, its[j]? = some it ∧ bs[j]? = some b ∧ apartAll its it b j = true
  | 0, j, _, h => by omega
  | n + 1, j, h, hlt => by
    simp only [drawOk, Bool.and_eq_true] at h
    by_cases e : j = n
    · subst e
      have h1 := h.1
      split at h1
      · rename_i it b e1 e2; exact ⟨it, b, e1, e2, h1⟩
      · simp at h1
    · exact drawOk_spec h.2 (by omega)
theorem beforeL_spec {bs : List Nat} : ∀ (es : List Edge) (s k : Nat), (es.foldl (fun s e => if Region.binds .any e then (match bs[e.on]? with | some b => s ||| 2 ^ e.on ||| b | none => s) else s) s).testBit k = true →
    s.testBit k = true ∨ ∃ e ∈ es, Region.binds .any e = true ∧ ∃ b, bs[e.on]? = some b ∧ (e.on = k ∨ b.testBit k = true)
  | [], s, k, h => .inl h
  | e :: es, s, k, h => by
    simp only [List.foldl_cons] at h
    rcases beforeL_spec es _ k h with h1 | ⟨e', h1, h2, h3⟩
    · split at h1
      · rename_i hb
        split at h1
        · rename_i b hbs
          simp only [Nat.testBit_or, Bool.or_eq_true, Nat.testBit_two_pow, decide_eq_true_eq] at h1
          rcases h1 with (h1 | h1) | h1
          · exact .inl h1
          · exact .inr ⟨e, by simp, hb, b, hbs, .inl h1⟩
          · exact .inr ⟨e, by simp, hb, b, hbs, .inr h1⟩
        · exact .inl h1
      · exact .inl h1
    · exact .inr ⟨e', by simp [h1], h2, h3⟩
theorem befores_spec : ∀ (l : List Oper) (bs : List Nat), (∃ t, befores bs l = bs ++ t ∧ t.length = l.length) ∧ ∀ (i : Nat) (o : Oper), l[i]? = some o → ∃ b, (befores bs l)[bs.length + i]? = some b ∧
    ∀ k, b.testBit k = true → ∃ e ∈ o.after.toList, Region.binds .any e = true ∧ ∃ b', (befores bs l)[e.on]? = some b' ∧ (e.on = k ∨ b'.testBit k = true)
  | [], bs => ⟨⟨[], by simp [befores]⟩, fun i o h => by simp at h⟩
  | o :: l, bs => by
    obtain ⟨⟨t, h1, h1l⟩, h2⟩ := befores_spec l (bs ++ [beforeL bs o])
    refine ⟨⟨beforeL bs o :: t, by simp [befores, h1], by simp [h1l]⟩, fun i o' hi => ?_⟩
    cases i with
    | zero =>
      simp at hi
      subst hi
      refine ⟨beforeL bs o, by simp [befores, h1], fun k hk => ?_⟩
      unfold beforeL at hk
      rcases beforeL_spec _ _ k hk with h3 | ⟨e, h3, h4, b, h5, h6⟩
      · simp at h3
      · refine ⟨e, h3, h4, b, ?_, h6⟩
        have hlt : e.on < bs.length := (List.getElem?_eq_some_iff.1 h5).1
        simp only [befores, h1, List.append_assoc]
        rw [List.getElem?_append_left hlt, h5]
    | succ i =>
      obtain ⟨b, h3, h4⟩ := h2 i o' (by simpa using hi)
      refine ⟨b, ?_, h4⟩
      simp only [List.length_append, List.length_singleton] at h3
      simp only [befores]
      rw [← h3]
      congr 1
      omega
theorem earlier_spec : ∀ {l : List Oper} {j i : Nat} {o : Oper}, earlier j l = true → l[i]? = some o → ∀ e ∈ o.after.toList, Region.binds .any e = true → e.on < j + i
  | [], _, i, _, _, h => by simp at h
  | a :: l, j, i, o, he, h => by
    simp only [earlier, Bool.and_eq_true, List.all_eq_true, Bool.or_eq_true, Bool.not_eq_true', decide_eq_true_eq] at he
    cases i with
    | zero =>
      simp at h
      subst h
      intro e hm hb
      rcases he.1 e hm with h1 | h1
      · rw [hb] at h1; cases h1
      · exact h1
    | succ i =>
      intro e hm hb
      have := earlier_spec he.2 (by simpa using h) e hm hb
      omega
theorem ref_V (hi : INV T μ L f act.tmps h w) {q : Bool} {o : Oper} {it : IT} (hc : compIT T.P T.I q ops o = some it) : ∀ id, it.ref f = some id → id < h.length := by
  have hx : ∀ (x : X) (c : C), x.slot = true → ev1 f x = some c → ∃ v, CR μ c v := fun x c e h1 => by
    cases x with
    | s t => exact ⟨_, ev1_ok hi.fp (x := .tmp t) rfl h1⟩
    | c v => cases e
  have ha : ∀ a : AI, a.refOk = true → ∀ id, a.ref f = some id → id < h.length := by
    intro a hok id hid
    cases a <;> simp only [AI.ref, reduceCtorEq] at hid
    case ldh d x n g =>
      split at hid
      · rename_i id' o e
        simp at hid
        subst hid
        obtain ⟨v, p, h1, _⟩ := hx x _ hok e
        exact hi.hp.dom _ _ h1
      · simp at hid
    case sla d x n g =>
      split at hid
      · rename_i id' o e
        simp at hid
        subst hid
        obtain ⟨v, p, h1, _⟩ := hx x _ hok e
        exact hi.hp.dom _ _ h1
      · simp at hid
    case cbs d x =>
      split at hid
      · rename_i id' o l z e
        simp at hid
        subst hid
        obtain ⟨v, p, a, cap, h1, _⟩ := hx x _ hok e
        exact hi.hp.dom _ _ h1
      · simp at hid
  unfold compIT at hc
  split at hc
  · simp at hc
  · rename_i a _
    split at hc
    · rename_i hdr
      simp only [Bool.and_eq_true] at hdr
      split at hc
      · simp at hc; subst hc; exact ha a hdr.2
      · split at hc
        · simp at hc
        · split at hc
          · simp only [Option.some.injEq] at hc
            subst hc
            intro id hid
            simp only [IT.ref] at hid
            split at hid
            · split at hid
              · exact ha a hdr.2 id hid
              · simp at hid
            · simp at hid
          · simp at hc
    · simp at hc
/-- How many are left. -/
def left (listed : Nat → Bool) : Nat → Nat
  | 0 => 0
  | n + 1 => left listed n + if listed n then 0 else 1
theorem left_zero {l : Nat → Bool} : ∀ {n : Nat}, left l n = 0 → ∀ k, k < n → l k = true
  | 0, _, k, h => by omega
  | n + 1, h, k, hk => by
    simp only [left] at h
    by_cases e : k = n
    · subst e
      cases hl : l k with
      | true => rfl
      | false => rw [hl] at h; simp at h
    · exact left_zero (n := n) (by omega) k (by omega)
theorem left_set {l l' : Nat → Bool} {i : Nat} (hi : l i = false) (hi' : l' i = true) (hs : ∀ k, k ≠ i → l' k = l k) : ∀ (n : Nat), left l n = left l' n + if i < n then 1 else 0
  | 0 => by simp [left]
  | n + 1 => by
    simp only [left, left_set hi hi' hs n]
    by_cases e : n = i
    · subst e
      simp [hi, hi']
    · rw [hs n e]
      by_cases h1 : i < n
      · have : i < n + 1 := by omega
        simp [h1, this]; omega
      · have : ¬ i < n + 1 := by omega
        simp [h1, this]
theorem left_full {l : Nat → Bool} : ∀ (n : Nat), (∀ k, k < n → l k = false) → left l n = n
  | 0, _ => rfl
  | n + 1, h => by simp [left, left_full n (fun k hk => h k (by omega)), h n (by omega)]
theorem any_ok (hcall : CallOk T.P call) {q : Bool} {its : List IT} (hc : compL T.P T.I q ops ops.toList = some its) (hearly : earlier 0 ops.toList = true) (hdraw : drawOk its (befores [] ops.toList) its.length = true) {fE : Fr} {hE : H} :
    ∀ (fuel : Nat) {listed : Array Bool} {μ L f h act w}, listed.size = ops.size → left (fun k => listed.getD k false) ops.size = fuel →
      (∀ i, listed.getD i false = true → ∀ b, (befores [] ops.toList)[i]? = some b → ∀ k, b.testBit k = true → listed.getD k false = true) →
      INV T μ L f act.tmps h w → runL call (rem (fun k => listed.getD k false) 0 its) f h = some (fE, hE) → Goes T μ act fE hE (Q .normal) → wpAny T.P .any ops Q fuel listed act w := by
  obtain ⟨hl, hg⟩ := compL_get hc
  have hl' : its.length = ops.size := by simpa using hl
  obtain ⟨⟨bt, hbt, hbtl⟩, hbs⟩ := befores_spec ops.toList []
  have hdone : ∀ {listed : Array Bool} {μ L f h act w}, (∀ k, k < ops.size → listed.getD k false = true) → INV T μ L f act.tmps h w → runL call (rem (fun k => listed.getD k false) 0 its) f h = some (fE, hE) → Goes T μ act fE hE (Q .normal) → Q .normal act w := by
    intro listed μ L f h act w hall hi hr hk
    rw [rem_none its 0 (fun k _ h2 => hall k (by omega))] at hr
    simp only [runL, Option.some.injEq, Prod.mk.injEq] at hr
    obtain ⟨rfl, rfl⟩ := hr
    exact hk μ L act w hi (MuLe.refl _) rfl
  intro fuel
  induction fuel with
  | zero =>
    intro listed μ L f h act w hsz hfuel hclosed hi hr hk
    have hall := left_zero hfuel
    refine ⟨?_, hdone hall hi hr hk⟩
    cases hrd : Region.ready .any ops listed with
    | nil => rfl
    | cons i r =>
      exfalso
      obtain ⟨h0, o, ho, _⟩ := mem_ready.1 (show i ∈ Region.ready .any ops listed by rw [hrd]; simp)
      have hlt := (Array.getElem?_eq_some_iff.1 ho).1
      have := hall i hlt
      have hlt2 : i < listed.size := by omega
      simp [Array.getD, hlt2] at h0 this
      rw [h0] at this
      cases this
  | succ fuel ih =>
    intro listed μ L f h act w hsz hfuel hclosed hi hr hk
    refine ⟨fun hnil => ?_, fun i hiready => ?_⟩
    · -- something is always ready
      exfalso
      have hex : ∃ k, k < ops.size ∧ listed.getD k false = false ∧ ∀ j, j < k → listed.getD j false = true := by
        have : ∀ n, n ≤ ops.size → (∀ k, k < n → listed.getD k false = true) ∨ ∃ k, k < ops.size ∧ listed.getD k false = false ∧ ∀ j, j < k → listed.getD j false = true := by
          intro n
          induction n with
          | zero => exact fun _ => .inl fun k hk => by omega
          | succ n ihn =>
            intro hn
            rcases ihn (by omega) with h1 | h1
            · cases hq : listed.getD n false with
              | false => exact .inr ⟨n, by omega, hq, h1⟩
              | true =>
                refine .inl fun k hk => ?_
                by_cases e : k = n
                · subst e; exact hq
                · exact h1 k (by omega)
            · exact .inr h1
        rcases this ops.size (Nat.le_refl _) with h1 | h1
        · exfalso
          have h2 : left (fun k => listed.getD k false) ops.size = 0 := by
            have : ∀ n, n ≤ ops.size → left (fun k => listed.getD k false) n = 0 := by
              intro n
              induction n with
              | zero => exact fun _ => rfl
              | succ n ihn => intro hn; simp only [left]; rw [ihn (by omega), if_pos (h1 n (by omega))]
            exact this _ (Nat.le_refl _)
          omega
        · exact h1
      obtain ⟨k, k1, k2, k3⟩ := hex
      have ho : ops[k]? = some ops[k] := Array.getElem?_eq_getElem k1
      have hmem : k ∈ Region.ready .any ops listed := by
        rw [mem_ready]
        have hlt2 : k < listed.size := by omega
        refine ⟨by simp [Array.getD, hlt2] at k2 ⊢; exact k2, ops[k], ho, fun e he hb => ?_⟩
        have := earlier_spec hearly (i := k) (o := ops[k]) (by simp) e (by simpa using he) hb
        exact k3 e.on (by omega)
      rw [hnil] at hmem
      cases hmem
    · obtain ⟨hi0, o, ho, hafter⟩ := mem_ready.1 hiready
      have hlt := (Array.getElem?_eq_some_iff.1 ho).1
      have hlt2 : i < listed.size := by omega
      have hif : listed.getD i false = false := by simp [Array.getD, hlt2] at hi0 ⊢; exact hi0
      have hit : (listed.setIfInBounds i true).getD i false = true := by simp [Array.getD, hlt2]
      have hsame : ∀ k, k ≠ i → (listed.setIfInBounds i true).getD k false = listed.getD k false := fun k hk => getD_set_ne false (Ne.symm hk)
      obtain ⟨it, h1, h2⟩ := hg i o (by simpa using ho)
      obtain ⟨l1, l2, r1, r2, r3⟩ := rem_split (l := fun k => listed.getD k false) (l' := fun k => (listed.setIfInBounds i true).getD k false) (i := i) (it := it) hif hit hsame its 0 (Nat.zero_le _) (by simpa using h1)
      obtain ⟨b, hb, hbk⟩ := hbs i o (by simpa using ho)
      have hb' : (befores [] ops.toList)[i]? = some b := by simpa using hb
      have hbl : ∀ k, b.testBit k = true → listed.getD k false = true := by
        intro k hk
        obtain ⟨e, e1, e2, b', e3, e4⟩ := hbk k hk
        have he := hafter e (by simpa using e1) e2
        rcases e4 with e4 | e4
        · rw [← e4]; exact he
        · exact hclosed e.on he b' e3 k e4
      rw [r1] at hr
      have hmeet : ∀ a ∈ l1, meets a it = false := by
        intro a ha
        obtain ⟨k, _, k2, k3, k4⟩ := r3 a ha
        obtain ⟨it', b', d1, d2, d3⟩ := drawOk_spec hdraw (show i < its.length by omega)
        rw [h1] at d1
        cases d1
        rw [hb'] at d2
        cases d2
        rcases apart_spec d3 k2 a (by simpa using k3) with h5 | h5
        · exact h5
        · have := hbl k h5
          rw [k4] at this
          cases this
      obtain ⟨f1, k1, q1, q2⟩ := swapL hmeet hr (ref_V hi h2)
      refine item_ok hi hcall ho h2 q1 fun μ' L' act' w' hi' hm' hd' => ?_
      refine ih (by simpa using hsz) ?_ ?_ hi' (by rw [r2]; exact q2) (hk.trans hm' hd')
      · have := left_set (l := fun k => listed.getD k false) (l' := fun k => (listed.setIfInBounds i true).getD k false) (i := i) hif hit hsame ops.size
        rw [if_pos hlt] at this
        omega
      · intro j hj c hc k hk
        by_cases e : j = i
        · subst e
          rw [hb'] at hc
          cases hc
          exact getD_set_true (hbl k hk)
        · rw [hsame j e] at hj
          exact getD_set_true (hclosed j hj c hc k hk)
theorem region_ok (hi : INV T μ L f act.tmps h w) (hcall : CallOk T.P call) {id : Nat} {draw : Bool} {its : List IT} (hc : compR T.P T.I ops draw = some (.ops its)) {fE : Fr} {hE : H} (hr : runL call its f h = some (fE, hE)) (hk : Goes T μ act fE hE (Q .normal)) :
    (Code.region id ops draw).wp T.P Q act w := by
  have hany : ∀ q, T.P.follows .mixedOrders = true → earlier 0 ops.toList = true → compL T.P T.I q ops ops.toList = some its → drawOk its (befores [] ops.toList) its.length = true → (Code.region id ops true).wp T.P Q act w := by
    intro q hm he hl hd
    refine wp_region_any hm ?_
    have hi' := hi.worldOnly (Only.drew w (fun _ => False))
    have hf : ∀ k, (Array.replicate ops.size false).getD k false = false := fun k => by
      by_cases hk : k < ops.size <;> simp [Array.getD, hk]
    refine any_ok hcall hl he hd ops.size (by simp) (left_full _ fun k _ => hf k) (fun i hi => by rw [hf] at hi; cases hi) hi' ?_ hk
    rw [rem_all its 0 (fun k _ => hf k)]
    exact hr
  unfold compR at hc
  cases draw with
  | true =>
    simp only [if_true] at hc
    split at hc
    · rename_i hcond
      simp only [Bool.and_eq_true] at hcond
      split at hc
      · simp at hc
      · rename_i l h1
        split at hc
        · rename_i hd; simp at hc; subst hc; exact hany _ hcond.1 hcond.2 h1 hd
        · split at hc
          · simp at hc
          · rename_i l h2
            split at hc
            · rename_i hd; simp at hc; subst hc; exact hany _ hcond.1 hcond.2 h2 hd
            · simp at hc
    · simp at hc
  | false =>
    simp only [Bool.false_eq_true, if_false] at hc
    split at hc
    · rename_i l h1
      simp at hc
      subst hc
      refine wp_region ?_
      rw [List.range_eq_range']
      exact seq_ok hcall h1 ops.size 0 (by omega) hi (by simpa using hr) hk
    · simp at hc
end
end Go.Eng
