/-
  The engine, part J: append and copy.
-/
import Derived.Test.YtaicdpancmfhnaaEngI
set_option linter.unusedVariables false
set_option linter.unusedSimpArgs false
namespace Go.Eng
section
variable {T : Ctx} {μ μ' : Mu} {L : Nat → Nat} {f f' : Fr} {h h' : H} {w w' : World} {act : Act}
variable {o : Oper} {K : Act → World → Prop} {Q : Exit → Act → World → Prop} {d : Nat}
/-- A part of an own block is written. -/
theorem INV.setPart (hi : INV T μ L f act.tmps h w) {id ty q : Nat} {p : Pl} {cs vs : List C} {us : List Value} {arr : Array Value} (hm : μ id = some p) (hg : h[id]? = some (.own ty cs)) (ha : w.heap[p.blk]? = some (.cells arr ty (0, 0)))
    (hq : All2 (CR μ) cs (arr.toList.take cs.length)) (hv : All2 (CR μ) vs us) (hl : q + vs.length ≤ cs.length) : INV T μ L f act.tmps (h.set id (.own ty (setL cs q vs))) (w.setRow p.blk (setL arr.toList q us).toArray) := by
  have hla : cs.length ≤ arr.size := by have := hq.length; simp at this; omega
  have hul := hv.length
  have hlen : (setL cs q vs).length = cs.length := setL_length _ _ _
  have ht : (setL arr.toList q us).take cs.length = setL (arr.toList.take cs.length) q us := by
    rw [setL_eq _ _ _ (by simp; omega), setL_eq _ _ _ (by simp; omega)]
    have e0 : (arr.toList.take cs.length).take q = arr.toList.take q := by rw [List.take_take]; congr 1; omega
    rw [e0]
    have e1 : (arr.toList.take q ++ us).length = q + us.length := by simp; omega
    rw [List.take_append, e1]
    rw [List.take_of_length_le (by rw [e1]; omega)]
    congr 1
    rw [List.drop_take]
  refine hi.setOwn hm hg ha (by simp [setL_length]) (rest := (setL arr.toList q us).drop cs.length) ?_ ?_
  · rw [hlen]
    simp only [ht]
    exact All2.setL q hq hv
  · rw [hlen]; simp
theorem app_new (hi : INV T μ L f act.tmps h w) (ho : o.dst = some d) (hd : d < T.I.nt ∧ T.I.env.lookup d ≠ some d) {e need cap esz : Nat} {arr : Array Value} {cs : List C} {rest : List Value} (hrun : (execOp act.eval o).run T.P w = .ok (.value (.slice (some ⟨w.heap.size, 0, none⟩) need cap)) (w.drew.alloc (.cells arr e (0, 0))))
    (hc : All2 (CR μ) cs (arr.toList.take cs.length)) (hr : arr.toList = arr.toList.take cs.length ++ rest) (hle : need ≤ cap) (hsz : cap * esz ≤ arr.size) (dead : Option Nat)
    (hdead : ∀ id, dead = some id → id < h.length)
    (hk : Goes T μ act (f.set d (.val false [.sl h.length 0 need esz])) ((match dead with | some id => h.set id .dead | none => h) ++ [.own e cs]) K) : o.wp T.P act w K Q := by
  have hi' := hi.worldOnly (Only.drew w (fun _ => False))
  obtain ⟨h1, h2⟩ := hi'.newId (cs := cs) (arr := arr) (ty := e) hc hr
  refine wp_val hrun ?_
  rw [ho]
  have h3 := h1.putV (d := d) (u := .slice (some ⟨w.heap.size, 0, none⟩) need cap) (g := false) (cs := [.sl h.length 0 need esz]) (by rw [h1.fp.nt]; exact hd.1) hd.2
    ⟨_, rfl, ⟨w.heap.size, 0, arr.size⟩, _, cap, by simp only [World.drew, if_pos], rfl, hle, .inr rfl, by simpa using hsz⟩
  cases dead with
  | none => exact hk _ L _ _ h3 h2 rfl
  | some id =>
    have h4 := h3.kill id
    rw [List.set_append_left _ _ (hdead id rfl)] at h4
    exact hk _ L _ _ h4 h2 rfl
theorem exec_app {c : Call} {t u : TypeId} {x y : Operand} (hop : o.op = .call c) (hc : c.callee = .builtin .append) (ha : c.args.toList = [x, y]) (hta : c.argTypes.toList = [t, u]) {P : Program} {v : Value}
    (hr : (Builtin.append_ #[t, u] o.type #[act.eval x, act.eval y]).run P w = .ok v w') : (execOp act.eval o).run P w = .ok (.value v) w' := by
  refine exec_builtin hop hc ?_
  rw [list2 ha, list2 hta]
  simp [builtin, hr]
theorem ok_app (hi : INV T μ L f act.tmps h w) {c : Call} {t u e : TypeId} {j : TypeInfo} {z : List C} (ht : T.P.underlying t = some (.slice e)) (hu : (∃ e', T.P.underlying u = some (.slice e')) ∨ T.P.underlying u = some .string) (hz : zeroOf T.P e = some z) (hj : T.P.info? e = some j) (hj0 : 0 < j.size)
    {x y : Operand} {a b : X} (hx : xOf x = some a) (hy : xOf y = some b) (ho : o.dst = some d) (hop : o.op = .call c) (hc : c.callee = .builtin .append) (ha : c.args.toList = [x, y]) (hta : c.argTypes.toList = [t, u]) (hd : d < T.I.nt ∧ T.I.env.lookup d ≠ some d)
    (hr : ai (.app d e j.size j.bytes a b) f h = some (f', h')) (hk : Goes T μ act f' h' K) : o.wp T.P act w K Q := by
  obtain ⟨it, zv, k1, k2, k3, k4⟩ := zeroOf_spec hz μ
  rw [hj] at k1
  cases k1
  have hzs : zv.cells.size = j.size := by have := k3.length; simp at this; omega
  have hgrow : ∀ (ad : Option Addr) (sLen sCap m : Nat) (olds us : List Value) (cs ys : List C), act.eval x = .slice ad sLen sCap → (Builtin.firstCells j.size sLen (.slice ad sLen sCap)).run T.P w.drew = .ok olds.toArray w.drew → Src T.P w j.size m (act.eval y) us →
      All2 (CR μ) cs olds → All2 (CR μ) ys us → olds.length = sLen * j.size → sCap < sLen + m → inRoom ((sLen + m) * j.bytes + (sLen + m)) = true → ∀ (dead : Option Nat), (∀ id, dead = some id → id < h.length) →
      Goes T μ act (f.set d (.val false [.sl h.length 0 (sLen + m) j.size])) ((match dead with | some id => h.set id .dead | none => h) ++ [.own e (cs ++ ys)]) K → o.wp T.P act w K Q := by
    intro ad sLen sCap m olds us cs ys hv hf hs hcs hys hol hlt hroom dead hdead hk
    obtain ⟨r1, r2⟩ := room_spec hroom
    have hrun := run_app_grow (P := T.P) (t := t) (u := u) (ty := o.type) ht hu hj k2 hf hs hlt (by omega) (growslice_fits (by omega) (by omega))
    rw [← hv] at hrun
    have hcap := grownCap_ge w (sLen + m) sCap e
    have hall := hcs.append hys
    have hlen : (cs ++ ys).length = (olds ++ us).length := hall.length
    have htk : ((olds ++ us).toArray ++ Builtin.zeroCells zv.cells (grownCap w (sLen + m) sCap e - (sLen + m))).toList.take (cs ++ ys).length = olds ++ us := by
      rw [hlen]
      simp only [Array.toList_append, List.toList_toArray]
      exact List.take_left
    refine app_new hi ho hd (exec_app hop hc ha hta hrun) (rest := (Builtin.zeroCells zv.cells (grownCap w (sLen + m) sCap e - (sLen + m))).toList) (by rw [htk]; exact hall) (by rw [htk]; simp) hcap ?_ dead hdead hk
    simp only [Array.size_append, List.size_toArray, List.length_append, size_zeroCells, hzs, hol, hs.size]
    rw [← Nat.add_mul, ← Nat.add_mul]
    exact Nat.mul_le_mul_right _ (by omega)
  simp only [ai] at hr
  split at hr
  · rename_i ca ys m he hsrc
    obtain ⟨us, hs, hys⟩ := src_ok hi hy hsrc
    have hca := ev1_ok hi.fp hx he
    split at hr
    · have hv : act.eval x = .slice none 0 0 := hca
      split at hr
      · rename_i h0
        subst h0
        simp only [Option.some.injEq, Prod.mk.injEq] at hr
        obtain ⟨rfl, rfl⟩ := hr
        have := run_app_none (P := T.P) (t := t) (u := u) (ty := o.type) ht hu hj hs none
        rw [← hv] at this
        exact fin1 (c := .nils) hi ho hd (exec_app hop hc ha hta this) hv hk
      · rename_i h0
        split at hr
        · rename_i hroom
          simp only [Option.some.injEq, Prod.mk.injEq] at hr
          obtain ⟨rfl, rfl⟩ := hr
          refine hgrow none 0 0 m [] us [] ys hv (by simp [Builtin.firstCells]) hs trivial hys (by simp) (by omega) (by simpa using hroom) none (fun _ e => by cases e) ?_
          simpa using hk
        · simp at hr
    · obtain ⟨ad, hv⟩ := hca
      split at hr
      · rename_i h0
        subst h0
        simp only [Option.some.injEq, Prod.mk.injEq] at hr
        obtain ⟨rfl, rfl⟩ := hr
        have := run_app_none (P := T.P) (t := t) (u := u) (ty := o.type) ht hu hj hs (some ad)
        rw [← hv] at this
        exact fin1 (c := .emp) hi ho hd (exec_app hop hc ha hta this) ⟨ad, hv⟩ hk
      · rename_i h0
        split at hr
        · rename_i hroom
          simp only [Option.some.injEq, Prod.mk.injEq] at hr
          obtain ⟨rfl, rfl⟩ := hr
          refine hgrow (some ad) 0 0 m [] us [] ys hv (by simp [Builtin.firstCells, loadCells, loadCellsFrom]) hs trivial hys (by simp) (by omega) (by simpa using hroom) none (fun _ e => by cases e) ?_
          simpa using hk
        · simp at hr
    · rename_i id off len es
      split at hr
      · rename_i ty cs hg
        split at hr
        · rename_i hcond
          obtain ⟨rfl, rfl, rfl, hcl, hroom⟩ := hcond
          simp only [Option.some.injEq, Prod.mk.injEq] at hr
          obtain ⟨rfl, rfl⟩ := hr
          obtain ⟨p, ad, cap, hm, hv, hle, hadr, hlim⟩ := hca
          obtain ⟨a0, b0, arr, c0, d0, rest, q1, q2⟩ := hi.hp.own id p ty cs hm hg
          have hidlt := hi.hp.dom id p hm
          have hlim' : cap * j.size ≤ p.lim := by simpa using hlim
          have hcla : cs.length ≤ arr.size := by
            have := q1.length
            simp at this
            omega
          have hadr' : cap = 0 ∨ ad = ⟨p.blk, 0, none⟩ := by
            rcases hadr with h0 | h0
            · exact .inl h0
            · right; rw [h0, a0]
          by_cases hfit : len + m ≤ cap
          · have hul := hs.size
            have hsum : len * j.size + us.length ≤ arr.size := by
              rw [hul, ← Nat.add_mul, d0]
              exact Nat.le_trans (Nat.mul_le_mul_right _ hfit) hlim'
            have hlen2 : (cs ++ ys).length = len * j.size + us.length := by rw [List.length_append, hcl, hys.length]
            -- the new row, whether it is written or not
            have hi2 : INV T μ L f act.tmps (h.set id (.own ty (cs ++ ys))) (w.setRow p.blk (arr.toList.take (len * j.size) ++ us ++ arr.toList.drop (len * j.size + us.length)).toArray) := by
              have e1 : (arr.toList.take (len * j.size) ++ us).length = (cs ++ ys).length := by rw [hlen2]; simp; omega
              refine hi.setOwn hm hg c0 (rest := arr.toList.drop (len * j.size + us.length)) ?_ ?_ ?_
              · simp; omega
              · have e2 : ((arr.toList.take (len * j.size) ++ us ++ arr.toList.drop (len * j.size + us.length)).toArray.toList.take (cs ++ ys).length) = arr.toList.take (len * j.size) ++ us := by
                  rw [List.toList_toArray, ← e1]
                  exact List.take_left
                rw [e2]
                rw [hcl] at q1
                exact q1.append hys
              · rw [List.toList_toArray, ← e1, List.take_left]
            have hget2 : (h.set id (.own ty (cs ++ ys)))[id]? = some (.own ty (cs ++ ys)) := set_get hidlt
            obtain ⟨h3, h4⟩ := hi2.rename hm hget2
            have hout : ∀ ad', (cap = 0 ∨ ad' = (⟨p.blk, 0, none⟩ : Addr)) → CR (fun k => if k = (h.set id (.own ty (cs ++ ys))).length then some p else μ k) (.sl h.length 0 (len + m) j.size) (.slice (some ad') (len + m) cap) := by
              intro ad' h0
              refine ⟨p, ad', cap, by simp, rfl, hfit, ?_, by simpa using hlim'⟩
              rcases h0 with h0 | h0
              · exact .inl h0
              · right; rw [h0, a0]
            have hgo : ∀ v, (execOp act.eval o).run T.P w = .ok (.value v) (w.setRow p.blk (arr.toList.take (len * j.size) ++ us ++ arr.toList.drop (len * j.size + us.length)).toArray) →
                CR (fun k => if k = (h.set id (.own ty (cs ++ ys))).length then some p else μ k) (.sl h.length 0 (len + m) j.size) v → o.wp T.P act w K Q := by
              intro v hrun hcr
              refine wp_val hrun ?_
              rw [ho]
              have h5 := h3.putV (d := d) (u := v) (g := false) (cs := [.sl h.length 0 (len + m) j.size]) (by rw [h3.fp.nt]; exact hd.1) hd.2 ⟨_, rfl, hcr⟩
              rw [List.set_set] at h5
              exact hk _ L _ _ h5 h4 rfl
            rcases hadr' with h0 | h0
            · have hl0 : len = 0 := by omega
              have hm0 : m = 0 := by omega
              subst hl0 hm0 h0
              have hus : us = [] := List.eq_nil_of_length_eq_zero (by simpa using hul)
              have hrun := run_app_none (P := T.P) (t := t) (u := u) (ty := o.type) ht hu hj hs (some ad)
              rw [← hv] at hrun
              refine hgo (act.eval x) ?_ (by rw [hv]; exact hout ad (.inl rfl))
              have e1 := exec_app hop hc ha hta hrun
              have e2 : (arr.toList.take (0 * j.size) ++ us ++ arr.toList.drop (0 * j.size + us.length)).toArray = arr := by subst hus; simp
              rw [e2, setRow_self w p.blk arr ty (0, 0) c0]
              exact e1
            · subst h0
              have hrun := run_app_room (P := T.P) (t := t) (u := u) (ty := o.type) ht hu hj c0 hs (CR.ones hys) hfit hsum
              rw [← hv] at hrun
              exact hgo _ (exec_app hop hc ha hta hrun) (hout _ (.inr rfl))
          · refine hgrow (some ad) len cap m (arr.toList.take cs.length) us cs ys hv ?_ hs q1 hys (by rw [← hcl]; simp; omega) (by omega) hroom (some id) (fun k e => by cases e; exact hidlt) hk
            refine run_firstCells_some (P := T.P) w.drew j.size len ad len cap _ (by rw [← hcl]; simp; omega) (fun k u hk => ?_)
            rcases hadr' with h0 | h0
            · have : cs.length = 0 := by rw [hcl]; have : len = 0 := by omega
                                         subst this; simp
              rw [this] at hk
              simp at hk
            · rw [h0, add_at, Nat.zero_add]
              refine cell_at (w := w.drew) c0 ?_
              rw [List.getElem?_take] at hk
              split at hk
              · exact hk
              · simp at hk
        · simp at hr
      · simp at hr
    · simp at hr
  · simp at hr
theorem run_copy {P : Program} {t u ty e : TypeId} {i : TypeInfo} (ht : P.underlying t = some (.slice e)) (hi : P.info? e = some i) {w w' : World} {a : Addr} {dLen dCap m : Nat} {v : Value} {us : List Value} (hs : Src P w i.size m v us)
    (hst : (storeCells a (us.take (min m dLen * i.size))).run P w = .ok () w') : (Builtin.copy_ #[t, u] ty #[.slice (some a) dLen dCap, v]).run P w = .ok (goInt (min m dLen : Nat)) w' := by
  have hf := hs.cells (Nat.min m dLen) (Nat.min_le_left _ _) w rfl
  have hst' : (storeCells a (us.take (Nat.min m dLen * i.size))).run P w = .ok () w' := hst
  simp [Builtin.copy_, run_underlying ht, hs.len, sizeOf, typeInfo, hi, hf, hst']
theorem ok_cpy (hi : INV T μ L f act.tmps h w) {c : Call} {t u e : TypeId} {j : TypeInfo} (ht : T.P.underlying t = some (.slice e)) (hj : T.P.info? e = some j) (hj0 : 0 < j.size)
    {x y : Operand} {a b : X} (hx : xOf x = some a) (hy : xOf y = some b) (ho : o.dst = some d) (hop : o.op = .call c) (hc : c.callee = .builtin .copy) (ha : c.args.toList = [x, y]) (hta : c.argTypes.toList = [t, u]) (hd : d < T.I.nt ∧ T.I.env.lookup d ≠ some d)
    (hr : ai (.cpy d j.size a b) f h = some (f', h')) (hk : Goes T μ act f' h' K) : o.wp T.P act w K Q := by
  simp only [ai] at hr
  split at hr
  · rename_i id off len es ys m he hsrc
    obtain ⟨us, hs, hys⟩ := src_ok hi hy hsrc
    split at hr
    · rename_i ty cs hg
      split at hr
      · rename_i hcond
        obtain ⟨rfl, hl⟩ := hcond
        simp only [Option.some.injEq, Prod.mk.injEq] at hr
        obtain ⟨rfl, rfl⟩ := hr
        obtain ⟨p, ad, cap, hm, hv, hle, hadr, hlim⟩ := ev1_ok hi.fp hx he
        obtain ⟨a0, b0, arr, c0, d0, rest, q1, q2⟩ := hi.hp.own id p ty cs hm hg
        have hcla : cs.length ≤ arr.size := by have := q1.length; simp at this; omega
        have hmin : min m len * j.size ≤ len * j.size := Nat.mul_le_mul_right _ (Nat.min_le_right _ _)
        have hminm : min m len * j.size ≤ m * j.size := Nat.mul_le_mul_right _ (Nat.min_le_left _ _)
        have hul := hs.size
        have hyl := hys.length
        have hvt := hys.take (min m len * j.size)
        have h1 := hi.setPart (q := off) hm hg c0 q1 hvt (by simp; omega)
        have hst : (storeCells ad (us.take (min m len * j.size))).run T.P w = .ok () (w.setRow p.blk (setL arr.toList off (us.take (min m len * j.size))).toArray) := by
          rcases hadr with h0 | h0
          · have : min m len = 0 := by omega
            rw [this]
            simp only [Nat.zero_mul, List.take_zero, setL, storeCells, Array.toArray_toList, setRow_self w p.blk arr ty (0, 0) c0]
            rfl
          · have h2 := run_storeCells_at T.P p.blk off ty (us.take (min m len * j.size)) 0 arr w c0 (by simp; omega) (CR.ones hvt)
            simp only [Nat.add_zero] at h2
            rw [h0, a0, Nat.zero_add, setL_eq _ _ _ (by simp; omega)]
            exact h2
        have hrun := run_copy (P := T.P) (t := t) (u := u) (ty := o.type) (dCap := cap) ht hj hs hst
        rw [← hv] at hrun
        refine wp_val (w' := w.setRow p.blk (setL arr.toList off (us.take (min m len * j.size))).toArray) (exec_builtin hop hc (v := goInt (min m len : Nat)) ?_) ?_
        · rw [list2 ha, list2 hta]
          simp [builtin, hrun]
        · rw [ho]
          exact hk μ L _ _ (h1.putV (g := false) (cs := [.int .i64 ((min m len : Nat) : Int)]) (by rw [h1.fp.nt]; exact hd.1) hd.2 ⟨_, rfl, rfl⟩) (MuLe.refl _) rfl
      · simp at hr
    · simp at hr
  · simp at hr
end
end Go.Eng
