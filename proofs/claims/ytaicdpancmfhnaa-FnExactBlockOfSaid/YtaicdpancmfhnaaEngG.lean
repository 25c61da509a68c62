/-
  The engine, part G: the operations, second part: places, numbers, strings, literals.
-/
import Derived.Test.YtaicdpancmfhnaaEngF
set_option linter.unusedVariables false
set_option linter.unusedSimpArgs false
namespace Go.Eng
section
variable {T : Ctx} {μ μ' : Mu} {L : Nat → Nat} {f f' : Fr} {h h' : H} {w w' : World} {act : Act}
variable {o : Oper} {K : Act → World → Prop} {Q : Exit → Act → World → Prop} {d : Nat}
theorem fin_lref (hi : INV T μ L f act.tmps h w) (ho : o.dst = some d) (hd : d < T.I.nt ∧ T.I.env.lookup d ≠ some d) {x : Operand} (hh : T.I.hand d x = true) {r q : Nat} (hroot : T.I.root x = some r) (hbox : ∃ cs, f.get r = .box cs)
    (hr : (execOp act.eval o).run T.P w = .ok (.value (.pointer (some ⟨L r, q, none⟩))) w) (hk : Goes T μ act (f.set d (.lref r q)) h K) : o.wp T.P act w K Q := by
  refine wp_val hr ?_
  rw [ho]
  have h4 : T.I.env.lookup d = some r := by simpa [Inf.hand, hroot] using hh
  exact hk μ L _ w (hi.put (by rw [hi.fp.nt]; exact hd.1) hd.2 rfl rfl (fun r' o' e => by cases e; exact ⟨h4, hbox⟩)) (MuLe.refl _) rfl
theorem ok_fad (hi : INV T μ L f act.tmps h w) {t : TypeId} {fs : Array Field} {k : Nat} {fl : Field} {j : TypeInfo} (ht : T.P.underlying t = some (.struct fs)) (hf : fs[k]? = some fl) (hj : T.P.info? fl.type = some j) (hj0 : j.size ≠ 0)
    {x : Operand} {y : X} (hx : xOf x = some y) (hh : T.I.hand d x = true) (ho : o.dst = some d) (hop : o.op = .fieldAddr t x k) (hd : d < T.I.nt ∧ T.I.env.lookup d ≠ some d)
    (hr : ai (.fad d y fl.offset) f h = some (f', h')) (hk : Goes T μ act f' h' K) : o.wp T.P act w K Q := by
  simp only [ai] at hr
  split at hr
  · rename_i r q he
    simp at hr
    obtain ⟨rfl, rfl⟩ := hr
    obtain ⟨h1, h2, h3⟩ := lref_ok hi.fp hx he
    exact fin_lref hi ho hd hh h2 h3 (by simp [execOp, hop, Instr.fieldAt, run_underlying ht, hf, h1, Instr.sureAddr, fieldPlace, sizeOf, typeInfo, hj, hj0, add_at]) hk
  · rename_i id q he
    simp at hr
    obtain ⟨rfl, rfl⟩ := hr
    obtain ⟨p, h1, h2⟩ := ev1_ok hi.fp hx (by simp [ev1, he] : ev1 f y = some (.ptr id q))
    exact fin1 (c := .ptr id (q + fl.offset)) (v := .pointer (some ⟨p.blk, p.off + q + fl.offset, none⟩)) hi ho hd (by simp [execOp, hop, Instr.fieldAt, run_underlying ht, hf, h2, Instr.sureAddr, fieldPlace, sizeOf, typeInfo, hj, hj0, add_at]) ⟨p, h1, by rw [Nat.add_assoc]⟩ hk
  · simp at hr
theorem run_part {P : Program} {t : TypeId} {n : Nat} {g : Bool} (hs : szOf P t = some (n, g)) (w : World) {arr : Array Value} {cs : List C} {off : Nat} (hc : All2 (CR μ) cs arr.toList) (hl : off + n ≤ cs.length) :
    ∃ v, (part t arr off).run P w = .ok v w ∧ VG μ g ((cs.drop off).take n) v := by
  obtain ⟨i, h1, h2, h3, h4⟩ := szOf_spec hs
  have hq := (hc.drop off).take n
  cases g with
  | true =>
    refine ⟨.agg (arr.extract off (off + n)), ?_, _, rfl, ?_⟩
    · simp [part, run_agg h3, run_sz h1, h2]
    · have : (arr.extract off (off + n)).toList = (arr.toList.drop off).take n := by simp [Array.toList_extract, List.extract_eq_take_drop]
      rw [this]; exact hq
  | false =>
    have h5 : n = 1 := by rcases h4 with h | h; cases h; exact h
    subst h5
    have hlen := hc.length
    have hlt : off < arr.size := by simp at hlen; omega
    have e1 : (arr.toList.drop off).take 1 = [arr[off]] := by
      rw [List.drop_eq_getElem_cons (by simpa using hlt), List.take_succ_cons, List.take_zero]; simp
    have e2 : (cs.drop off).take 1 = [cs[off]'(by omega)] := by
      rw [List.drop_eq_getElem_cons (by omega), List.take_succ_cons, List.take_zero]
    rw [e1, e2] at hq
    refine ⟨arr[off], ?_, cs[off]'(by omega), e2, hq.1⟩
    simp [part, run_agg h3, hlt]
theorem ok_fld (hi : INV T μ L f act.tmps h w) {t : TypeId} {fs : Array Field} {k n : Nat} {g : Bool} {fl : Field} (ht : T.P.underlying t = some (.struct fs)) (hf : fs[k]? = some fl) (hs : szOf T.P fl.type = some (n, g))
    {x : Operand} {y : X} (hx : xOf x = some y) (ho : o.dst = some d) (hop : o.op = .field t x k) (hd : d < T.I.nt ∧ T.I.env.lookup d ≠ some d)
    (hr : ai (.fld d y fl.offset n g) f h = some (f', h')) (hk : Goes T μ act f' h' K) : o.wp T.P act w K Q := by
  simp only [ai] at hr
  split at hr
  · rename_i cs he
    split at hr
    · rename_i hl
      simp at hr
      obtain ⟨rfl, rfl⟩ := hr
      obtain ⟨arr, h1, h2⟩ := evp_ok hi.fp hx he
      obtain ⟨v, h3, h4⟩ := run_part hs w h2 hl
      exact fin hi ho hd (by simp [execOp, hop, Instr.field, run_underlying ht, hf, h1, asAgg, h3]) h4 hk
    · simp at hr
  · simp at hr
theorem ok_iad (hi : INV T μ L f act.tmps h w) {t e : TypeId} {j : TypeInfo} (ht : T.P.underlying t = some (.slice e)) (hj : T.P.info? e = some j)
    {x i : Operand} {y u : X} (hx : xOf x = some y) (hiu : xOf i = some u) (ho : o.dst = some d) (hop : o.op = .indexAddr t x i) (hd : d < T.I.nt ∧ T.I.env.lookup d ≠ some d)
    (hr : ai (.iad d y u j.size) f h = some (f', h')) (hk : Goes T μ act f' h' K) : o.wp T.P act w K Q := by
  simp only [ai] at hr
  split at hr
  · rename_i c kk jj he1 he2
    split at hr
    · rename_i id' o' hat
      simp at hr
      obtain ⟨rfl, rfl⟩ := hr
      unfold atC at hat
      split at hat
      · rename_i id off len e'
        split at hat
        · rename_i hc
          obtain ⟨rfl, h0, h1⟩ := hc
          simp only [Option.some.injEq, Prod.mk.injEq] at hat
          obtain ⟨rfl, rfl⟩ := hat
          obtain ⟨p, a, cap, h2, h3, h4, h5, h6⟩ := ev1_ok hi.fp hx he1
          have h7 : act.eval i = .int kk jj := ev1_ok hi.fp hiu he2
          have ha : a = ⟨p.blk, p.off + off, none⟩ := h5.resolve_left (by omega)
          subst ha
          exact fin1 (c := .ptr id (off + jj.toNat * j.size)) (v := .pointer (some ⟨p.blk, p.off + off + jj.toNat * j.size, none⟩)) hi ho hd (by simp [execOp, hop, Instr.indexAt, run_underlying ht, h3, h7, asIntOf, h0, h1, sizeOf, typeInfo, hj, add_at]) ⟨p, h2, by rw [Nat.add_assoc]⟩ hk
        · simp at hat
      · simp at hat
    · simp at hr
  · simp at hr
theorem ok_iaa (hi : INV T μ L f act.tmps h w) {t e : TypeId} {n : Nat} {j : TypeInfo} (ht : T.P.underlying t = some (.array n e)) (hj : T.P.info? e = some j) (hn : 1 < n)
    {x i : Operand} {y u : X} (hx : xOf x = some y) (hiu : xOf i = some u) (hh : T.I.hand d x = true) (ho : o.dst = some d) (hop : o.op = .indexAddr t x i) (hd : d < T.I.nt ∧ T.I.env.lookup d ≠ some d)
    (hr : ai (.iaa d y u j.size n) f h = some (f', h')) (hk : Goes T μ act f' h' K) : o.wp T.P act w K Q := by
  simp only [ai] at hr
  split at hr
  · rename_i kk jj he2
    split at hr
    · rename_i hc
      obtain ⟨h0, h1⟩ := hc
      have h7 : act.eval i = .int kk jj := ev1_ok hi.fp hiu he2
      split at hr
      · rename_i r q he
        simp at hr
        obtain ⟨rfl, rfl⟩ := hr
        obtain ⟨h2, h3, h4⟩ := lref_ok hi.fp hx he
        exact fin_lref hi ho hd hh h3 h4 (by simp [execOp, hop, Instr.indexAt, run_underlying ht, h2, h7, asIntOf, h0, h1, sizeOf, typeInfo, hj, add_at, Instr.sureAddr]) hk
      · rename_i id q he
        simp at hr
        obtain ⟨rfl, rfl⟩ := hr
        obtain ⟨p, h2, h3⟩ := ev1_ok hi.fp hx (by simp [ev1, he] : ev1 f y = some (.ptr id q))
        exact fin1 (c := .ptr id (q + jj.toNat * j.size)) (v := .pointer (some ⟨p.blk, p.off + q + jj.toNat * j.size, none⟩)) hi ho hd (by simp [execOp, hop, Instr.indexAt, run_underlying ht, h3, h7, asIntOf, h0, h1, sizeOf, typeInfo, hj, add_at, Instr.sureAddr]) ⟨p, h2, by rw [Nat.add_assoc]⟩ hk
      · simp at hr
    · simp at hr
  · simp at hr
theorem ok_idx (hi : INV T μ L f act.tmps h w) {t e : TypeId} {n m : Nat} {g : Bool} (ht : T.P.underlying t = some (.array n e)) (hs : szOf T.P e = some (m, g))
    {x i : Operand} {y u : X} (hx : xOf x = some y) (hiu : xOf i = some u) (ho : o.dst = some d) (hop : o.op = .index t x i) (hd : d < T.I.nt ∧ T.I.env.lookup d ≠ some d)
    (hr : ai (.idx d y u m n g) f h = some (f', h')) (hk : Goes T μ act f' h' K) : o.wp T.P act w K Q := by
  simp only [ai] at hr
  split at hr
  · rename_i cs kk jj he1 he2
    split at hr
    · rename_i hc
      obtain ⟨h0, h1, hl⟩ := hc
      simp at hr
      obtain ⟨rfl, rfl⟩ := hr
      have h7 : act.eval i = .int kk jj := ev1_ok hi.fp hiu he2
      obtain ⟨arr, h2, h3⟩ := evp_ok hi.fp hx he1
      obtain ⟨v, h4, h5⟩ := run_part hs w h3 hl
      obtain ⟨ii, k1, k2, _, _⟩ := szOf_spec hs
      exact fin hi ho hd (by simp [execOp, hop, Instr.index, run_underlying ht, h2, h7, asIntOf, h0, h1, run_sz k1, k2, h4]) h5 hk
    · simp at hr
  · simp at hr
theorem ok_ids (hi : INV T μ L f act.tmps h w) {t : TypeId} (ht : T.P.underlying t = some .string)
    {x i : Operand} {y u : X} (hx : xOf x = some y) (hiu : xOf i = some u) (ho : o.dst = some d) (hop : o.op = .index t x i) (hd : d < T.I.nt ∧ T.I.env.lookup d ≠ some d)
    (hr : ai (.ids d y u) f h = some (f', h')) (hk : Goes T μ act f' h' K) : o.wp T.P act w K Q := by
  simp only [ai] at hr
  split at hr
  · rename_i s kk jj he1 he2
    split at hr
    · rename_i h0
      split at hr
      · rename_i b hb
        simp at hr
        obtain ⟨rfl, rfl⟩ := hr
        have h7 : act.eval i = .int kk jj := ev1_ok hi.fp hiu he2
        have h2 : act.eval x = .string s := ev1_ok hi.fp hx he1
        have hb' : s[jj.toNat]? = some b := by
          have hlt : jj.toNat < s.data.toList.length := (List.getElem?_eq_some_iff.1 hb).1
          have hlt' : jj.toNat < s.size := by simpa using hlt
          have e : s[jj.toNat]? = some s[jj.toNat] := by exact getElem?_pos s _ hlt'
          rw [e]
          rw [List.getElem?_eq_getElem hlt] at hb
          cases hb
          rfl
        exact fin1 (c := .int .u8 (b.toNat : Int)) (v := .int .u8 (b.toNat : Int)) hi ho hd (by simp [execOp, hop, Instr.index, run_underlying ht, h2, h7, asIntOf, h0, hb']) rfl hk
      · simp at hr
    · simp at hr
  · simp at hr
theorem ok_ext (hi : INV T μ L f act.tmps h w) {i : Nat} {x : Operand} {y : X} (hx : xOf x = some y) (ho : o.dst = some d) (hop : o.op = .extract x i) (hd : d < T.I.nt ∧ T.I.env.lookup d ≠ some d)
    (hr : ai (.ext d y i) f h = some (f', h')) (hk : Goes T μ act f' h' K) : o.wp T.P act w K Q := by
  simp only [ai] at hr
  split at hr
  · rename_i vs he
    split at hr
    · rename_i g cs hg
      simp at hr
      obtain ⟨rfl, rfl⟩ := hr
      obtain ⟨arr, h1, h2⟩ := (ev_ok hi.fp hx).2.1 vs he
      obtain ⟨v, h3, h4⟩ := h2.get hg
      have h3' : arr[i]? = some v := by simpa using h3
      exact fin hi ho hd (by simp [execOp, hop, Instr.extract, h1, h3']) h4 hk
    · simp at hr
  · simp at hr
theorem ok_nch (hi : INV T μ L f act.tmps h w) {x : Operand} {y : X} (hx : xOf x = some y) (hh : T.I.hand d x = true) (ho : o.dst = some d) (hop : o.op = .nilCheck x) (hd : d < T.I.nt ∧ T.I.env.lookup d ≠ some d)
    (hr : ai (.nch d y) f h = some (f', h')) (hk : Goes T μ act f' h' K) : o.wp T.P act w K Q := by
  simp only [ai] at hr
  split at hr
  · rename_i r q he
    simp at hr
    obtain ⟨rfl, rfl⟩ := hr
    obtain ⟨h1, h2, h3⟩ := lref_ok hi.fp hx he
    exact fin_lref hi ho hd hh h2 h3 (by simp [execOp, hop, h1]) hk
  · rename_i id q he
    simp at hr
    obtain ⟨rfl, rfl⟩ := hr
    obtain ⟨p, h1, h2⟩ := ev1_ok hi.fp hx (by simp [ev1, he] : ev1 f y = some (.ptr id q))
    exact fin1 (c := .ptr id q) (v := .pointer (some ⟨p.blk, p.off + q, none⟩)) hi ho hd (by simp [execOp, hop, h2]) ⟨p, h1, rfl⟩ hk
  · rename_i g he
    simp at hr
    obtain ⟨rfl, rfl⟩ := hr
    have h2 : act.eval x = .func (.func g) #[] #[] := ev1_ok hi.fp hx (by simp [ev1, he] : ev1 f y = some (.fn g))
    exact fin1 (c := .fn g) (v := .func (.func g) #[] #[]) hi ho hd (by simp [execOp, hop, h2]) rfl hk
  · simp at hr
theorem ok_neg (hi : INV T μ L f act.tmps h w) {t : TypeId} {x : Operand} {y : X} (hx : xOf x = some y) (ho : o.dst = some d) (hop : o.op = .unOp .neg t x) (hd : d < T.I.nt ∧ T.I.env.lookup d ≠ some d)
    (hr : ai (.neg d y) f h = some (f', h')) (hk : Goes T μ act f' h' K) : o.wp T.P act w K Q := by
  simp only [ai] at hr
  split at hr
  · rename_i k n he
    simp only [Option.some.injEq, Prod.mk.injEq] at hr
    obtain ⟨rfl, rfl⟩ := hr
    have h2 : act.eval x = .int k n := ev1_ok hi.fp hx he
    exact fin1 (c := .int k (k.wrap (0 - n))) (v := .int k (k.wrap (0 - n))) hi ho hd (by simp [execOp, hop, h2, Op.unary, Op.intArith]) rfl hk
  · simp at hr
theorem ok_not (hi : INV T μ L f act.tmps h w) {t : TypeId} {x : Operand} {y : X} (hx : xOf x = some y) (ho : o.dst = some d) (hop : o.op = .unOp .not t x) (hd : d < T.I.nt ∧ T.I.env.lookup d ≠ some d)
    (hr : ai (.not d y) f h = some (f', h')) (hk : Goes T μ act f' h' K) : o.wp T.P act w K Q := by
  simp only [ai] at hr
  split at hr
  · rename_i b he
    simp at hr
    obtain ⟨rfl, rfl⟩ := hr
    have h2 : act.eval x = .bool b := ev1_ok hi.fp hx he
    exact fin1 (c := .bool (!b)) (v := .bool (!b)) hi ho hd (by simp [execOp, hop, h2, Op.unary]) rfl hk
  · simp at hr
/-! ### Two operands -/
theorem run_bin {P : Program} {t : TypeId} {x y : Operand} (op : BinOp) {a b : Value} {ca cb c : C} (ha : CR μ ca a) (hb : CR μ cb b) (hc : bin2 (b2Of op) ca cb = some c) (w : World) :
    ∃ v, (eqGuard op t x y a b).run P w = .ok () w ∧ (binOp op t a b).run P w = .ok v w ∧ CR μ c v := by
  cases ca with
  | int k a1 =>
    have ha' : a = .int k a1 := ha
    subst ha'
    cases cb with
    | int k' b1 =>
      have hb' : b = .int k' b1 := hb
      subst hb'
      have hguard : (eqGuard op t x y (.int k a1) (.int k' b1)).run P w = .ok () w := by
        cases op <;> simp [eqGuard]
      by_cases hkk : k = k'
      · subst hkk
        cases op <;> simp only [bin2, b2Of, ne_eq, not_true, if_false, Option.some.injEq] at hc
        case quo =>
          split at hc
          · simp at hc
          · rename_i h0
            simp only [Option.some.injEq] at hc
            subst hc
            exact ⟨_, hguard, by simp [binOp, Op.intDiv, h0], rfl⟩
        case rem =>
          split at hc
          · simp at hc
          · rename_i h0
            simp only [Option.some.injEq] at hc
            subst hc
            exact ⟨_, hguard, by simp [binOp, Op.intDiv, h0], rfl⟩
        case shl =>
          split at hc
          · simp at hc
          · rename_i h0
            simp only [Option.some.injEq] at hc
            subst hc
            exact ⟨_, hguard, by simp [binOp, Op.shift, h0], rfl⟩
        case shr =>
          split at hc
          · simp at hc
          · rename_i h0
            simp only [Option.some.injEq] at hc
            subst hc
            exact ⟨_, hguard, by simp [binOp, Op.shift, h0], rfl⟩
        all_goals
          subst hc
          refine ⟨_, hguard, ?_, rfl⟩
          simp [binOp, Op.intArith, Op.intCmp, Op.intBits, bits2]
      · cases op <;> simp only [bin2, b2Of, ne_eq, hkk, not_false_eq_true, if_true, reduceCtorEq] at hc
        case shl =>
          split at hc
          · simp at hc
          · rename_i h0
            simp only [Option.some.injEq] at hc
            subst hc
            exact ⟨_, hguard, by simp [binOp, Op.shift, h0], rfl⟩
        case shr =>
          split at hc
          · simp at hc
          · rename_i h0
            simp only [Option.some.injEq] at hc
            subst hc
            exact ⟨_, hguard, by simp [binOp, Op.shift, h0], rfl⟩
    | _ => cases op <;> simp [bin2, b2Of] at hc
  | str a1 =>
    have ha' : a = .string a1 := ha
    subst ha'
    cases cb with
    | str b1 =>
      have hb' : b = .string b1 := hb
      subst hb'
      have hguard : (eqGuard op t x y (.string a1) (.string b1)).run P w = .ok () w := by
        cases op <;> simp [eqGuard]
      cases op <;> simp only [bin2, b2Of, Option.some.injEq, reduceCtorEq] at hc
      case add =>
        split at hc
        · simp at hc
        · rename_i h0
          simp only [Option.some.injEq] at hc
          subst hc
          exact ⟨_, hguard, by simp only [binOp, Op.stringOp, h0, if_false]; rfl, rfl⟩
      all_goals
        subst hc
        refine ⟨_, hguard, ?_, rfl⟩
        simp [binOp, Op.stringOp]
    | _ => cases op <;> simp [bin2, b2Of] at hc
  | _ => cases cb <;> cases op <;> simp [bin2, b2Of] at hc
theorem ok_bin (hi : INV T μ L f act.tmps h w) {t u : TypeId} {op : BinOp} {x y : Operand} {a b : X} (hx : xOf x = some a) (hy : xOf y = some b) (ho : o.dst = some d) (hop : o.op = .binOp op t x y u) (hd : d < T.I.nt ∧ T.I.env.lookup d ≠ some d)
    (hr : ai (.bin d (b2Of op) a b) f h = some (f', h')) (hk : Goes T μ act f' h' K) : o.wp T.P act w K Q := by
  simp only [ai] at hr
  split at hr
  · rename_i ca cb he1 he2
    split at hr
    · rename_i c hc
      simp at hr
      obtain ⟨rfl, rfl⟩ := hr
      obtain ⟨v, h1, h2, h3⟩ := run_bin (P := T.P) (t := t) (x := x) (y := y) op (ev1_ok hi.fp hx he1) (ev1_ok hi.fp hy he2) hc w
      exact fin1 hi ho hd (by simp [execOp, hop, h1, h2]) h3 hk
    · simp at hr
  · simp at hr
theorem run_equal_bool {P : Program} {t : TypeId} (ht : P.underlying t = some .bool) (p q : Bool) (w : World) : (Op.equal t (.bool p) (.bool q)).run P w = .ok (p == q) w := by
  have : ∀ n, (Op.equalIn (n + 1) t (.bool p) (.bool q)).run P w = .ok (p == q) w := fun n => by simp [Op.equalIn, run_underlying ht]
  exact this 9999
theorem run_equal_nil {P : Program} {t e : TypeId} (ht : P.underlying t = some (.slice e)) (a : Option Addr) (n c : Nat) (w : World) : (Op.equal t (.slice a n c) (.slice none 0 0)).run P w = .ok a.isNone w := by
  have : ∀ m, (Op.equalIn (m + 1) t (.slice a n c) (.slice none 0 0)).run P w = .ok a.isNone w := fun m => by cases a <;> simp [Op.equalIn, run_underlying ht]
  exact this 9999
theorem run_eq_bool {P : Program} {t : TypeId} (ht : P.underlying t = some .bool) (x y : Operand) (p q : Bool) (w : World) : (do eqGuard .eql t x y (.bool p) (.bool q); binOp .eql t (.bool p) (.bool q)).run P w = .ok (.bool (p == q)) w := by
  simp only [eqGuard, binOp, Sem.run_bind, run_equal_bool ht]; rfl
theorem run_ne_bool {P : Program} {t : TypeId} (ht : P.underlying t = some .bool) (x y : Operand) (p q : Bool) (w : World) : (do eqGuard .neq t x y (.bool p) (.bool q); binOp .neq t (.bool p) (.bool q)).run P w = .ok (.bool (!(p == q))) w := by
  simp only [eqGuard, binOp, Sem.run_bind, run_equal_bool ht]; rfl
theorem run_eq_nil {P : Program} {t e : TypeId} (ht : P.underlying t = some (.slice e)) (x y : Operand) (a : Option Addr) (n c : Nat) (w : World) : (do eqGuard .eql t x y (.slice a n c) (.slice none 0 0); binOp .eql t (.slice a n c) (.slice none 0 0)).run P w = .ok (.bool a.isNone) w := by
  simp only [eqGuard, binOp, Sem.run_bind, run_equal_nil ht]; rfl
theorem run_ne_nil {P : Program} {t e : TypeId} (ht : P.underlying t = some (.slice e)) (x y : Operand) (a : Option Addr) (n c : Nat) (w : World) : (do eqGuard .neq t x y (.slice a n c) (.slice none 0 0); binOp .neq t (.slice a n c) (.slice none 0 0)).run P w = .ok (.bool (!a.isNone)) w := by
  simp only [eqGuard, binOp, Sem.run_bind, run_equal_nil ht]; rfl
theorem exec_bin {op : BinOp} {t u : TypeId} {x y : Operand} {P : Program} (hop : o.op = .binOp op t x y u) {v : Value} (h : (do eqGuard op t x y (act.eval x) (act.eval y); binOp op t (act.eval x) (act.eval y)).run P w = .ok v w') : (execOp act.eval o).run P w = .ok (.value v) w' := by
  simp only [execOp, hop]
  rw [Sem.run_bind, h]
  rfl
theorem ok_beq (hi : INV T μ L f act.tmps h w) {t u : TypeId} {op : BinOp} {neg : Bool} (hneg : (op = .eql ∧ neg = false) ∨ (op = .neq ∧ neg = true)) (ht : T.P.underlying t = some .bool) {x y : Operand} {a b : X} (hx : xOf x = some a) (hy : xOf y = some b) (ho : o.dst = some d) (hop : o.op = .binOp op t x y u)
    (hd : d < T.I.nt ∧ T.I.env.lookup d ≠ some d) (hr : ai (.beq d neg a b) f h = some (f', h')) (hk : Goes T μ act f' h' K) : o.wp T.P act w K Q := by
  simp only [ai] at hr
  split at hr
  · rename_i p q he1 he2
    simp only [Option.some.injEq, Prod.mk.injEq] at hr
    obtain ⟨rfl, rfl⟩ := hr
    have h1 : act.eval x = .bool p := ev1_ok hi.fp hx he1
    have h2 : act.eval y = .bool q := ev1_ok hi.fp hy he2
    rcases hneg with ⟨rfl, rfl⟩ | ⟨rfl, rfl⟩
    · exact fin1 hi ho hd (v := .bool (p == q)) (c := .bool (p == q)) (exec_bin hop (by rw [h1, h2]; exact run_eq_bool ht _ _ _ _ _)) rfl hk
    · exact fin1 hi ho hd (v := .bool (!(p == q))) (c := .bool (!(p == q))) (exec_bin hop (by rw [h1, h2]; exact run_ne_bool ht _ _ _ _ _)) rfl hk
  · simp at hr
theorem ok_snil (hi : INV T μ L f act.tmps h w) {t u e : TypeId} {op : BinOp} {neg : Bool} (hneg : (op = .eql ∧ neg = false) ∨ (op = .neq ∧ neg = true)) (ht : T.P.underlying t = some (.slice e)) {x : Operand} {a : X} (hx : xOf x = some a) (ho : o.dst = some d) (hop : o.op = .binOp op t x (.const (.slice none 0 0)) u)
    (hd : d < T.I.nt ∧ T.I.env.lookup d ≠ some d) (hr : ai (.snil d neg a) f h = some (f', h')) (hk : Goes T μ act f' h' K) : o.wp T.P act w K Q := by
  have hc : act.eval (.const (.slice none 0 0)) = .slice none 0 0 := rfl
  have key : ∀ (ad : Option Addr) (n c : Nat) (b : Bool), act.eval x = .slice ad n c → b = ad.isNone → Goes T μ act (f.set d (.val false [.bool (if neg then !b else b)])) h K → o.wp T.P act w K Q := by
    intro ad n c b h1 hb hk
    subst hb
    rcases hneg with ⟨rfl, rfl⟩ | ⟨rfl, rfl⟩
    · exact fin1 hi ho hd (v := .bool ad.isNone) (c := .bool ad.isNone) (exec_bin hop (by rw [h1, hc]; exact run_eq_nil ht _ _ _ _ _ _)) rfl hk
    · exact fin1 hi ho hd (v := .bool (!ad.isNone)) (c := .bool (!ad.isNone)) (exec_bin hop (by rw [h1, hc]; exact run_ne_nil ht _ _ _ _ _ _)) rfl hk
  simp only [ai] at hr
  split at hr
  · rename_i id off len es he
    simp only [Option.some.injEq, Prod.mk.injEq] at hr
    obtain ⟨rfl, rfl⟩ := hr
    obtain ⟨p, ad, cap, _, h1, _⟩ := ev1_ok hi.fp hx he
    exact key (some ad) len cap false h1 rfl (by cases neg <;> exact hk)
  · rename_i he
    simp only [Option.some.injEq, Prod.mk.injEq] at hr
    obtain ⟨rfl, rfl⟩ := hr
    obtain ⟨ad, h1⟩ := ev1_ok hi.fp hx he
    exact key (some ad) 0 0 false h1 rfl (by cases neg <;> exact hk)
  · rename_i he
    simp only [Option.some.injEq, Prod.mk.injEq] at hr
    obtain ⟨rfl, rfl⟩ := hr
    have h1 : act.eval x = .slice none 0 0 := ev1_ok hi.fp hx he
    exact key none 0 0 true h1 rfl (by cases neg <;> exact hk)
  · simp at hr
end
end Go.Eng
