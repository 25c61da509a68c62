/-
  The engine, part I: the operations, fourth part: slices, their lengths, append, copy.
-/
import Derived.Test.YtaicdpancmfhnaaEngH
set_option linter.unusedVariables false
set_option linter.unusedSimpArgs false
namespace Go.Eng
section
variable {T : Ctx} {μ μ' : Mu} {L : Nat → Nat} {f f' : Fr} {h h' : H} {w w' : World} {act : Act}
variable {o : Oper} {K : Act → World → Prop} {Q : Exit → Act → World → Prop} {d : Nat}
theorem room_spec {n b : Nat} (hr : inRoom (n * b + n) = true) : n * b ≤ 70368744177664 ∧ n ≤ 70368744177664 := by
  unfold inRoom at hr
  have := of_decide_eq_true hr
  omega
theorem sameOp_eval {l c : Operand} (h : sameOp l c = true) (act : Act) : act.eval l = act.eval c := by
  unfold sameOp at h
  split at h
  · simp at h; subst h; rfl
  · simp at h; subst h; rfl
  · simp at h
theorem ok_mks (hi : INV T μ L f act.tmps h w) {t e : TypeId} {j : TypeInfo} {z : List C} (hz : zeroOf T.P e = some z) (ht : T.P.underlying t = some (.slice e)) (hj : T.P.info? e = some j) (hj0 : 0 < j.size)
    {x c : Operand} {y : X} (hs : sameOp x c = true) (hx : xOf x = some y) (ho : o.dst = some d) (hop : o.op = .makeSlice t x c) (hd : d < T.I.nt ∧ T.I.env.lookup d ≠ some d)
    (hr : ai (.mks d e j.size j.bytes z y) f h = some (f', h')) (hk : Goes T μ act f' h' K) : o.wp T.P act w K Q := by
  simp only [ai] at hr
  split at hr
  · rename_i n he
    split at hr
    · rename_i hc
      obtain ⟨h0, hroom⟩ := hc
      simp only [Option.some.injEq, Prod.mk.injEq] at hr
      obtain ⟨rfl, rfl⟩ := hr
      obtain ⟨k1, k2⟩ := room_spec hroom
      have hv : act.eval x = .int .i64 n := ev1_ok hi.fp hx he
      obtain ⟨it, zv, h1, h2, h3, h4⟩ := zeroOf_spec hz μ
      rw [hj] at h1
      cases h1
      have hzs : zv.cells.size = j.size := by have := h3.length; simp at this; omega
      have hb : (j.bytes : Int) * n ≤ 281474976710656 := by
        have e1 : n = (n.toNat : Int) := by omega
        rw [e1, ← Int.natCast_mul, Nat.mul_comm]
        omega
      have hrun := run_make (P := T.P) w t e j zv ht hj h2 .i64 .i64 n n h0 (Int.le_refl _) hb (by omega)
      have hm := made_ok h3 n.toNat
      rw [hzs] at hm
      have hm' : All2 (CR μ) (List.replicate n.toNat z).flatten (madeCells zv.cells (n.toNat * j.size)).toList := by
        unfold madeCells
        rw [hzs]
        exact hm
      have e1 := take_self hm'.length
      exact newId_fin (c := .sl h.length 0 n.toNat j.size) hi ho hd (v := .slice (some ⟨w.heap.size, 0, none⟩) n.toNat n.toNat) (arr := madeCells zv.cells (n.toNat * j.size)) (ty := e) (rest := [])
        (by simp only [execOp, hop, ← sameOp_eval hs, hv, Sem.run_bind, hrun, Result.andThen_ok]; rfl) (by rw [e1]; exact hm') (by rw [e1, List.append_nil])
        (fun μ' hm => ⟨_, _, n.toNat, hm, rfl, Nat.le_refl _, .inr rfl, by simp [size_madeCells]⟩) hk
    · simp at hr
  · simp at hr
/-! ### Bounds -/
theorem bound_ok (hf : FP T μ L f act.tmps w) {lo : Option Operand} {l : Option X} (hl : optX lo = some l) {dflt : Nat} {b : Int} (hb : bound f l dflt = some b) :
    (lo = none ∧ b = dflt) ∨ ∃ x k, lo = some x ∧ act.eval x = .int k b := by
  cases lo with
  | none => simp [optX] at hl; subst hl; simp [bound] at hb; exact .inl ⟨rfl, hb.symm⟩
  | some x =>
    simp only [optX] at hl
    split at hl
    · rename_i y hy
      simp at hl
      subst hl
      simp only [bound] at hb
      split at hb
      · rename_i k i he
        simp at hb
        subst hb
        exact .inr ⟨x, k, rfl, ev1_ok hf hy he⟩
      · simp at hb
    · simp at hl
theorem run_bounds {P : Program} (w : World) (sl : Bool) (len cap : Nat) {lo hi : Option Value} {l u : Int} (hl : (lo = none ∧ l = 0) ∨ ∃ k, lo = some (.int k l)) (hh : (hi = none ∧ u = len) ∨ ∃ k, hi = some (.int k u)) (h0 : 0 ≤ l) (h1 : l ≤ u) (h2 : u ≤ len) (h3 : len ≤ cap) :
    (Instr.sliceBounds sl len cap lo hi none).run P w = .ok (l.toNat, u.toNat, cap) w := by
  have hu : 0 ≤ u ∧ u ≤ (cap : Int) := ⟨by omega, by omega⟩
  have hlu : 0 ≤ l ∧ l ≤ (u.toNat : Int) := ⟨h0, by omega⟩
  rcases hl with ⟨rfl, rfl⟩ | ⟨k, rfl⟩ <;> rcases hh with ⟨rfl, rfl⟩ | ⟨k', rfl⟩
  · simp [Instr.sliceBounds]
  · simp [Instr.sliceBounds, Instr.sliceBound, asIntOf, hu]
  · simp [Instr.sliceBounds, Instr.sliceBound, asIntOf] at hlu ⊢; intro hh; omega
  · simp [Instr.sliceBounds, Instr.sliceBound, asIntOf, hu] at hlu ⊢; simp [hlu]; intro hh; omega
theorem bound_val {lo : Option Operand} {b : Int} {dflt : Nat} (hb : (lo = none ∧ b = dflt) ∨ ∃ x k, lo = some x ∧ act.eval x = .int k b) : (lo.map act.eval = none ∧ b = dflt) ∨ ∃ k, lo.map act.eval = some (.int k b) := by
  rcases hb with ⟨rfl, e⟩ | ⟨x, k, rfl, e⟩
  · exact .inl ⟨rfl, e⟩
  · exact .inr ⟨k, by simp [e]⟩
theorem run_sliceAt {P : Program} {t e : TypeId} {j : TypeInfo} (ht : P.underlying t = some (.slice e)) (hj : P.info? e = some j) (w : World) (a : Option Addr) (len cap : Nat) {lo hi : Option Value} {l u : Int}
    (hl : (lo = none ∧ l = 0) ∨ ∃ k, lo = some (.int k l)) (hh : (hi = none ∧ u = len) ∨ ∃ k, hi = some (.int k u)) (h0 : 0 ≤ l) (h1 : l ≤ u) (h2 : u ≤ len) (h3 : len ≤ cap) :
    (Instr.sliceAt t (.slice a len cap) lo hi none).run P w = .ok (.slice (if cap = l.toNat then a else a.map (·.add (l.toNat * j.size))) (u.toNat - l.toNat) (cap - l.toNat)) w := by
  simp [Instr.sliceAt, Instr.slice, run_underlying ht, run_bounds w true len cap hl hh h0 h1 h2 h3, sizeOf, typeInfo, hj]
theorem ok_slc (hi : INV T μ L f act.tmps h w) {t e : TypeId} {j : TypeInfo} (ht : T.P.underlying t = some (.slice e)) (hj : T.P.info? e = some j) (hj0 : 0 < j.size)
    {x : Operand} {lo up : Option Operand} {y : X} {l u : Option X} (hx : xOf x = some y) (hl : optX lo = some l) (hu : optX up = some u) (ho : o.dst = some d) (hop : o.op = .slice t x lo up none) (hd : d < T.I.nt ∧ T.I.env.lookup d ≠ some d)
    (hr : ai (.slc d j.size y l u) f h = some (f', h')) (hk : Goes T μ act f' h' K) : o.wp T.P act w K Q := by
  simp only [ai] at hr
  split at hr
  · rename_i id off len es he
    obtain ⟨p, ad, cap, hm, hv, hle, ha, hlim⟩ := ev1_ok hi.fp hx he
    split at hr
    · rename_i a b hla hub
      split at hr
      · rename_i hc
        obtain ⟨he0, h0, h1, h2⟩ := hc
        simp only [Option.some.injEq, Prod.mk.injEq] at hr
        obtain ⟨rfl, rfl⟩ := hr
        have := run_sliceAt (P := T.P) ht hj w (some ad) len cap (bound_val (bound_ok hi.fp hl hla)) (bound_val (bound_ok hi.fp hu hub)) h0 h1 h2 hle
        have hsub : (b - a).toNat = b.toNat - a.toNat := by omega
        have hes : a.toNat * es = a.toNat * j.size := by
          rcases he0 with rfl | h9
          · rfl
          · have : a.toNat = 0 := by omega
            simp [this]
        refine fin1 (c := .sl id (off + a.toNat * es) (b - a).toNat es) (v := .slice (if cap = a.toNat then some ad else (some ad).map (·.add (a.toNat * j.size))) (b.toNat - a.toNat) (cap - a.toNat)) hi ho hd (by simp only [execOp, hop, hv, Sem.run_bind, Option.map_none, this, Result.andThen_ok]; rfl) ?_ hk
        have hal : a.toNat ≤ cap := by omega
        refine ⟨p, if cap = a.toNat then ad else ad.add (a.toNat * j.size), cap - a.toNat, hm, ?_, by omega, ?_, ?_⟩
        · rw [hsub]
          split <;> simp
        · by_cases hca : cap = a.toNat
          · left; omega
          · right
            rw [if_neg hca, hes]
            rcases ha with ha | ha
            · omega
            · rw [ha, add_at, Nat.add_assoc]
        · have : a.toNat * es + (cap - a.toNat) * es = cap * es := by rw [← Nat.add_mul]; congr 1; omega
          omega
      · simp at hr
    · simp at hr
  · rename_i he
    have hv : act.eval x = .slice none 0 0 := ev1_ok hi.fp hx he
    split at hr
    · rename_i a b ha hb
      split at hr
      · rename_i hc
        obtain ⟨rfl, rfl⟩ := hc
        simp only [Option.some.injEq, Prod.mk.injEq] at hr
        obtain ⟨rfl, rfl⟩ := hr
        have := run_sliceAt (P := T.P) ht hj w none 0 0 (bound_val (bound_ok hi.fp hl ha)) (bound_val (bound_ok hi.fp hu hb)) (Int.le_refl _) (Int.le_refl _) (Int.le_refl _) (Nat.le_refl _)
        exact fin1 (c := .nils) (v := .slice none 0 0) hi ho hd (by simp only [execOp, hop, hv, Sem.run_bind, Option.map_none, this, Result.andThen_ok]; rfl) rfl hk
      · simp at hr
    · simp at hr
  · rename_i he
    obtain ⟨ad, hv⟩ := ev1_ok hi.fp hx he
    split at hr
    · rename_i a b ha hb
      split at hr
      · rename_i hc
        obtain ⟨rfl, rfl⟩ := hc
        simp only [Option.some.injEq, Prod.mk.injEq] at hr
        obtain ⟨rfl, rfl⟩ := hr
        have := run_sliceAt (P := T.P) ht hj w (some ad) 0 0 (bound_val (bound_ok hi.fp hl ha)) (bound_val (bound_ok hi.fp hu hb)) (Int.le_refl _) (Int.le_refl _) (Int.le_refl _) (Nat.le_refl _)
        exact fin1 (c := .emp) (v := .slice (some ad) 0 0) hi ho hd (by simp only [execOp, hop, hv, Sem.run_bind, Option.map_none, this, Result.andThen_ok]; rfl) ⟨ad, rfl⟩ hk
      · simp at hr
    · simp at hr
  · simp at hr
theorem ok_sls (hi : INV T μ L f act.tmps h w) {t : TypeId} (ht : T.P.underlying t = some .string)
    {x : Operand} {lo up : Option Operand} {y : X} {l u : Option X} (hx : xOf x = some y) (hl : optX lo = some l) (hu : optX up = some u) (ho : o.dst = some d) (hop : o.op = .slice t x lo up none) (hd : d < T.I.nt ∧ T.I.env.lookup d ≠ some d)
    (hr : ai (.sls d y l u) f h = some (f', h')) (hk : Goes T μ act f' h' K) : o.wp T.P act w K Q := by
  simp only [ai] at hr
  split at hr
  · rename_i s he
    have hv : act.eval x = .string s := ev1_ok hi.fp hx he
    split at hr
    · rename_i a b hla hub
      split at hr
      · rename_i hc
        obtain ⟨h0, h1, h2⟩ := hc
        simp only [Option.some.injEq, Prod.mk.injEq] at hr
        obtain ⟨rfl, rfl⟩ := hr
        have := run_bounds (P := T.P) w false s.size s.size (bound_val (bound_ok hi.fp hl hla)) (bound_val (bound_ok hi.fp hu hub)) h0 h1 h2 (Nat.le_refl _)
        exact fin1 (c := .str (s.extract a.toNat b.toNat)) (v := .string (s.extract a.toNat b.toNat)) hi ho hd (by simp [execOp, hop, hv, Instr.sliceAt, Instr.slice, run_underlying ht, this]) rfl hk
      · simp at hr
    · simp at hr
  · simp at hr
theorem ok_sla (hi : INV T μ L f act.tmps h w) {t e : TypeId} {n : Nat} {j : TypeInfo} (ht : T.P.underlying t = some (.array n e)) (hj : T.P.info? e = some j) (hj0 : 0 < j.size) (hn : 0 < n)
    {x : Operand} {y : X} (hx : xOf x = some y) (ho : o.dst = some d) (hop : o.op = .slice t x none none none) (hd : d < T.I.nt ∧ T.I.env.lookup d ≠ some d)
    (hr : ai (.sla d y n j.size) f h = some (f', h')) (hk : Goes T μ act f' h' K) : o.wp T.P act w K Q := by
  simp only [ai] at hr
  split at hr
  · rename_i id q he
    split at hr
    · rename_i ty cs hg
      split at hr
      · rename_i hl
        simp only [Option.some.injEq, Prod.mk.injEq] at hr
        obtain ⟨rfl, rfl⟩ := hr
        obtain ⟨p, h1, h2⟩ := ev1_ok hi.fp hx he
        obtain ⟨a, b, arr, c, dd, rest, q1, q2⟩ := hi.hp.own id p ty cs h1 hg
        have hlen : cs.length ≤ p.lim := by have := q1.length; simp at this; omega
        have := run_bounds (P := T.P) w false n n (lo := none) (hi := none) (l := 0) (u := n) (.inl ⟨rfl, rfl⟩) (.inl ⟨rfl, rfl⟩) (by omega) (by omega) (by omega) (Nat.le_refl _)
        have hn0 : ¬ n = 0 := by omega
        refine fin1 (c := .sl id q n j.size) (v := .slice (some ⟨p.blk, p.off + q, none⟩) n n) hi ho hd ?_ ⟨p, _, n, h1, rfl, Nat.le_refl _, .inr rfl, by omega⟩ hk
        simp [execOp, hop, h2, Instr.sliceAt, run_underlying ht, Instr.sureAddr, this, hn0, sizeOf, typeInfo, hj, add_at]
      · simp at hr
    · simp at hr
  · simp at hr
/-! ### Lengths -/
theorem exec_builtin {b : Builtin} {c : Call} (hop : o.op = .call c) (hc : c.callee = .builtin b) {v : Value} {P : Program} (hr : (builtin b c.argTypes o.type (c.args.map fun | .const _ => true | _ => false) (c.args.map act.eval)).run P w = .ok (.value v) w') :
    (execOp act.eval o).run P w = .ok (.value v) w' := by
  simp only [execOp, hop, resolve, hc, Sem.run_bind, Sem.run_pure, Result.andThen_ok, invoke]
  exact hr
theorem list1 {α : Type} {a : Array α} {x : α} (h : a.toList = [x]) : a = #[x] := Array.toList_inj.1 h
theorem list2 {α : Type} {a : Array α} {x y : α} (h : a.toList = [x, y]) : a = #[x, y] := Array.toList_inj.1 h
theorem ok_len (hi : INV T μ L f act.tmps h w) {c : Call} {t e : TypeId} {st : Bool} (ht : (st = false ∧ T.P.underlying t = some (.slice e)) ∨ (st = true ∧ T.P.underlying t = some .string)) {x : Operand} {y : X} (hx : xOf x = some y) (ho : o.dst = some d) (hop : o.op = .call c) (hc : c.callee = .builtin .len)
    (ha : c.args.toList = [x]) (hta : c.argTypes.toList = [t]) (hd : d < T.I.nt ∧ T.I.env.lookup d ≠ some d)
    (hr : ai (.len d st y) f h = some (f', h')) (hk : Goes T μ act f' h' K) : o.wp T.P act w K Q := by
  have ha' := list1 ha
  have hta' := list1 hta
  have hsl : ∀ (ad : Option Addr) (n cap : Nat), st = false → act.eval x = .slice ad n cap → Goes T μ act (f.set d (.val false [.int .i64 (n : Int)])) h K → o.wp T.P act w K Q := by
    intro ad n cap hst hv hk
    refine fin1 (c := .int .i64 n) (v := goInt n) hi ho hd (exec_builtin hop hc ?_) rfl hk
    rw [ha', hta']
    rcases ht with ⟨_, ht⟩ | ⟨e1, _⟩
    · simp [builtin, Builtin.len_, hv, run_underlying ht]
    · rw [hst] at e1; cases e1
  simp only [ai] at hr
  split at hr
  · rename_i c he
    split at hr
    · rename_i n hn
      simp only [Option.some.injEq, Prod.mk.injEq] at hr
      obtain ⟨rfl, rfl⟩ := hr
      have hc := ev1_ok hi.fp hx he
      unfold lenC at hn
      split at hn
      · simp at hn
        subst hn
        obtain ⟨p, ad, cap, _, hv, _⟩ := hc
        exact hsl _ _ _ rfl hv hk
      · simp at hn
        subst hn
        exact hsl _ 0 0 rfl hc hk
      · simp at hn
        subst hn
        obtain ⟨ad, hv⟩ := hc
        exact hsl _ 0 0 rfl hv hk
      · simp at hn
    · simp at hr
  · rename_i s he
    simp only [Option.some.injEq, Prod.mk.injEq] at hr
    obtain ⟨rfl, rfl⟩ := hr
    have hv : act.eval x = .string s := ev1_ok hi.fp hx he
    refine fin1 (c := .int .i64 s.size) (v := goInt s.size) hi ho hd (exec_builtin hop hc ?_) rfl hk
    rw [ha', hta']
    rcases ht with ⟨e1, _⟩ | ⟨_, ht⟩
    · cases e1
    · simp [builtin, Builtin.len_, hv, run_underlying ht]
  · simp at hr
theorem ok_lenA (hi : INV T μ L f act.tmps h w) {c : Call} {t e : TypeId} {n : Nat} (ht : T.P.underlying t = some (.array n e)) {x : Operand} (ho : o.dst = some d) (hop : o.op = .call c) (hc : c.callee = .builtin .len)
    (ha : c.args.toList = [x]) (hta : c.argTypes.toList = [t]) (hd : d < T.I.nt ∧ T.I.env.lookup d ≠ some d)
    (hr : ai (.mov d (.c (.val false [.int .i64 n]))) f h = some (f', h')) (hk : Goes T μ act f' h' K) : o.wp T.P act w K Q := by
  have ha' := list1 ha
  have hta' := list1 hta
  simp [ai, ev] at hr
  obtain ⟨rfl, rfl⟩ := hr
  refine fin1 (c := .int .i64 n) (v := goInt n) hi ho hd (exec_builtin hop hc ?_) rfl hk
  rw [ha', hta']
  simp [builtin, Builtin.len_, run_underlying ht]
theorem ok_mm (hi : INV T μ L f act.tmps h w) {c : Call} {mx : Bool} {x y : Operand} {a b : X} (hx : xOf x = some a) (hy : xOf y = some b) (ho : o.dst = some d) (hop : o.op = .call c) (hc : c.callee = .builtin (if mx then .max else .min))
    (ha : c.args.toList = [x, y]) (hd : d < T.I.nt ∧ T.I.env.lookup d ≠ some d)
    (hr : ai (.mm d mx a b) f h = some (f', h')) (hk : Goes T μ act f' h' K) : o.wp T.P act w K Q := by
  have ha' := list2 ha
  simp only [ai] at hr
  split at hr
  · rename_i p q he1 he2
    simp only [Option.some.injEq, Prod.mk.injEq] at hr
    obtain ⟨rfl, rfl⟩ := hr
    have h1 : act.eval x = .int .i64 p := ev1_ok hi.fp hx he1
    have h2 : act.eval y = .int .i64 q := ev1_ok hi.fp hy he2
    refine fin1 (c := .int .i64 (if mx then (if p < q then q else p) else (if q < p then q else p))) hi ho hd (exec_builtin hop hc (v := .int .i64 (if mx then (if p < q then q else p) else (if q < p then q else p))) ?_) rfl hk
    rw [ha']
    cases mx
    · simp [builtin, Builtin.min_, Builtin.min2, h1, h2]
    · simp [builtin, Builtin.max_, Builtin.max2, h1, h2]
  · simp at hr
/-! ### What is appended or copied -/
/-- A value that is appended: how many elements, and its cells as they are read. -/
structure Src (P : Program) (w : World) (esz m : Nat) (v : Value) (us : List Value) : Prop where
  len : ∀ w' : World, (Builtin.lenOf v).run P w' = .ok m w'
  cells : ∀ n, n ≤ m → ∀ w' : World, w'.heap = w.heap → (Builtin.firstCells esz n v).run P w' = .ok (us.take (n * esz)).toArray w'
  size : us.length = m * esz
theorem strCells_CR (μ : Mu) (s : ByteArray) : All2 (CR μ) (strCells s) (s.data.toList.map fun b => Value.int .u8 (b.toNat : Int)) := by
  unfold strCells
  induction s.data.toList with
  | nil => trivial
  | cons b l ih => exact ⟨rfl, ih⟩
theorem cell_heap {w w' : World} (e : w'.heap = w.heap) (a : Addr) : w'.cell? a = w.cell? a := by simp [World.cell?, e]
theorem srcC_ok (hh : HP T μ h w) {esz m : Nat} {c : C} {v : Value} {ys : List C} (hc : CR μ c v) (hs : srcC h esz c = some (ys, m)) : ∃ us, Src T.P w esz m v us ∧ All2 (CR μ) ys us := by
  cases c with
  | str s =>
    simp only [srcC] at hs
    split at hs
    · rename_i he
      subst he
      simp at hs
      obtain ⟨rfl, rfl⟩ := hs
      have hv : v = .string s := hc
      subst hv
      refine ⟨_, ⟨fun w' => by simp [Builtin.lenOf], fun n hn w' _ => ?_, by simp⟩, strCells_CR μ s⟩
      simp only [Builtin.firstCells, Sem.run_pure, Nat.mul_one]
      congr 1
      apply Array.ext'
      simp [ByteArray.data_extract, List.extract_eq_take_drop, List.map_take]
    · simp at hs
  | nils =>
    simp [srcC] at hs
    obtain ⟨rfl, rfl⟩ := hs
    have hv : v = .slice none 0 0 := hc
    subst hv
    exact ⟨[], ⟨fun w' => by simp [Builtin.lenOf], fun n hn w' _ => by simp [Builtin.firstCells], by simp⟩, trivial⟩
  | emp =>
    simp [srcC] at hs
    obtain ⟨rfl, rfl⟩ := hs
    obtain ⟨a, rfl⟩ := hc
    refine ⟨[], ⟨fun w' => by simp [Builtin.lenOf], fun n hn w' _ => ?_, by simp⟩, trivial⟩
    have : n = 0 := by omega
    subst this
    simp [Builtin.firstCells, loadCells, loadCellsFrom]
  | sl id off len e =>
    simp only [srcC] at hs
    split at hs
    · rename_i he
      split at hs
      · rename_i cs hcs
        simp at hs
        obtain ⟨rfl, rfl⟩ := hs
        rcases slice_at hh hc hcs with ⟨h1, _⟩ | ⟨a, n, cap, us, h1, h2, h3, h4⟩
        · cases h1
        · rcases h4 with ⟨h4, _⟩ | ⟨_, _, _, h4, h5⟩
          · cases h4
          · cases h4
            subst h1
            have hl : us.length = len * e := by rw [← h2.length]; exact h5
            have hle : len * e = len * esz := by rcases he with rfl | rfl <;> simp
            refine ⟨us, ⟨fun w' => by simp [Builtin.lenOf], fun k hk w' hw => ?_, by rw [hl, hle]⟩, h2⟩
            have hle2 : k * esz ≤ us.length := by rw [hl, hle]; exact Nat.mul_le_mul_right _ hk
            have := run_firstCells_some (P := T.P) w' esz k a len cap (us.take (k * esz)) (by simp; omega) (fun j u hj => by
              rw [cell_heap hw]
              rw [List.getElem?_take] at hj
              split at hj
              · exact h3 j u hj
              · simp at hj)
            exact this
      · simp at hs
    · simp at hs
  | _ => simp [srcC] at hs
theorem src_ok (hi : INV T μ L f act.tmps h w) {x : Operand} {y : X} (hx : xOf x = some y) {esz m : Nat} {ys : List C} (hs : srcOf f h esz y = some (ys, m)) : ∃ us, Src T.P w esz m (act.eval x) us ∧ All2 (CR μ) ys us := by
  have key : ∀ c, ev1 f y = some c → srcC h esz c = some (ys, m) → ∃ us, Src T.P w esz m (act.eval x) us ∧ All2 (CR μ) ys us := fun c h1 h2 => srcC_ok hi.hp (ev1_ok hi.fp hx h1) h2
  cases y with
  | s t =>
    simp only [srcOf] at hs
    split at hs
    · rename_i cs n e he
      split at hs
      · rename_i hc
        obtain ⟨rfl, hl⟩ := hc
        simp at hs
        obtain ⟨rfl, rfl⟩ := hs
        have hxt : x = .tmp t := by
          cases x with
          | tmp u => simp [xOf] at hx; rw [hx]
          | const v => cases hv : vOf v <;> simp [xOf, hv] at hx
          | func g => simp [xOf] at hx
          | global g => simp [xOf] at hx
        subst hxt
        have hv : act.eval (.tmp t) = .slice (some ⟨L t, 0, none⟩) n n := by have := hi.fp.slots t; rw [he] at this; exact this
        obtain ⟨_, ty, arr, h1, h2⟩ := hi.fp.loc t cs (by rw [he]; rfl)
        rw [hv]
        have hal : arr.toList.length = n * e := by rw [← h2.length]; exact hl
        refine ⟨arr.toList, ⟨fun w' => by simp [Builtin.lenOf], fun k hk w' hw => ?_, hal⟩, h2⟩
        have hle : k * e ≤ arr.toList.length := by rw [hal]; exact Nat.mul_le_mul_right _ hk
        exact run_firstCells_some (P := T.P) w' e k ⟨L t, 0, none⟩ n n (arr.toList.take (k * e)) (by rw [List.length_take]; omega) (fun j u hj => by
          rw [cell_heap hw, add_at, Nat.zero_add]
          refine cell_at h1 ?_
          rw [List.getElem?_take] at hj
          split at hj
          · exact hj
          · simp at hj)
      · simp at hs
    · rename_i c he
      exact key c (by simp [ev1, ev, he]) hs
    · simp at hs
  | c v =>
    cases v with
    | val g cs =>
      cases g with
      | false =>
        match cs, hs with
        | [c], hs => exact key c (by simp [ev1, ev]) (by simpa [srcOf] using hs)
        | [], hs => simp [srcOf] at hs
        | _ :: _ :: _, hs => simp [srcOf] at hs
      | true => simp [srcOf] at hs
    | _ => simp [srcOf] at hs
/-! ### Append -/
theorem run_app_room {P : Program} {t u ty e : TypeId} {i : TypeInfo} (ht : P.underlying t = some (.slice e)) (hu : (∃ e', P.underlying u = some (.slice e')) ∨ P.underlying u = some .string) (hi : P.info? e = some i)
    {w : World} {g sLen sCap m : Nat} {cur : Array Value} (hg : w.heap[g]? = some (.cells cur e (0, 0))) {v : Value} {us : List Value} (hs : Src P w i.size m v us) (h1 : ∀ u ∈ us, u.oneCell' = true)
    (hroom : sLen + m ≤ sCap) (hfit : sLen * i.size + us.length ≤ cur.size) :
    (Builtin.append_ #[t, u] ty #[.slice (some ⟨g, 0, none⟩) sLen sCap, v]).run P w = .ok (.slice (some ⟨g, 0, none⟩) (sLen + m) sCap) (w.setRow g (cur.toList.take (sLen * i.size) ++ us ++ cur.toList.drop (sLen * i.size + us.length)).toArray) := by
  have hf := hs.cells m (Nat.le_refl _) w rfl
  rw [List.take_of_length_le (by rw [hs.size]; exact Nat.le_refl _)] at hf
  have hst := run_storeCells_at P g (sLen * i.size) e us 0 cur w hg (by simpa using hfit) h1
  simp only [Nat.add_zero] at hst
  rcases hu with ⟨e', hu⟩ | hu
  · simp [Builtin.append_, run_underlying ht, run_underlying hu, sizeOf, typeInfo, hi, hs.len, hroom, hf, Addr.add_lit, hst]
  · simp [Builtin.append_, run_underlying ht, run_underlying hu, sizeOf, typeInfo, hi, hs.len, hroom, hf, Addr.add_lit, hst]
theorem run_app_none {P : Program} {t u ty e : TypeId} {i : TypeInfo} (ht : P.underlying t = some (.slice e)) (hu : (∃ e', P.underlying u = some (.slice e')) ∨ P.underlying u = some .string) (hi : P.info? e = some i)
    {w : World} {v : Value} {us : List Value} (hs : Src P w i.size 0 v us) (a : Option Addr) :
    (Builtin.append_ #[t, u] ty #[.slice a 0 0, v]).run P w = .ok (.slice a 0 0) w := by
  have hf := hs.cells 0 (Nat.le_refl _) w rfl
  rw [Nat.zero_mul, List.take_zero] at hf
  rcases hu with ⟨e', hu⟩ | hu <;> cases a <;>
  simp [Builtin.append_, run_underlying ht, run_underlying hu, sizeOf, typeInfo, hi, hs.len, hf, storeCells]
theorem run_app_grow {P : Program} {t u ty e : TypeId} {i : TypeInfo} {z : Value} (ht : P.underlying t = some (.slice e)) (hu : (∃ e', P.underlying u = some (.slice e')) ∨ P.underlying u = some .string) (hi : P.info? e = some i) (hz : i.zero = some z)
    {w : World} {a : Option Addr} {sLen sCap m : Nat} {olds : List Value} (ho : (Builtin.firstCells i.size sLen (.slice a sLen sCap)).run P w.drew = .ok olds.toArray w.drew) {v : Value} {us : List Value} (hs : Src P w i.size m v us)
    (hg : sCap < sLen + m) (h63 : sLen + m ≤ 9223372036854775807) (hfit : Builtin.nextslicecap (sLen + m) sCap * i.bytes ≤ 281474976710656) :
    (Builtin.append_ #[t, u] ty #[.slice a sLen sCap, v]).run P w = .ok (.slice (some ⟨w.heap.size, 0, none⟩) (sLen + m) (grownCap w (sLen + m) sCap e))
        (w.drew.alloc (.cells ((olds ++ us).toArray ++ Builtin.zeroCells z.cells (grownCap w (sLen + m) sCap e - (sLen + m))) e)) := by
  have hn : ¬ (sLen + m ≤ sCap) := by omega
  have h63' : ¬ (9223372036854775807 < ((sLen : Int) + (m : Int))) := by omega
  have h48' : ¬ (281474976710656 < Builtin.nextslicecap (sLen + m) sCap * i.bytes) := by omega
  have hf := hs.cells m (Nat.le_refl _) w.drew rfl
  rw [List.take_of_length_le (by rw [hs.size]; exact Nat.le_refl _)] at hf
  rcases hu with ⟨e', hu⟩ | hu
  · simp [Builtin.append_, run_underlying ht, run_underlying hu, sizeOf, typeInfo, zeroValue, hi, hz, hs.len, hn, h63', h48', Question.forced, hf, ho, newRow, grownCap]
    congr 2
    apply Array.ext'
    simp [List.append_assoc]
  · simp [Builtin.append_, run_underlying ht, run_underlying hu, sizeOf, typeInfo, zeroValue, hi, hz, hs.len, hn, h63', h48', Question.forced, hf, ho, newRow, grownCap]
    congr 2
    apply Array.ext'
    simp [List.append_assoc]
end
end Go.Eng
