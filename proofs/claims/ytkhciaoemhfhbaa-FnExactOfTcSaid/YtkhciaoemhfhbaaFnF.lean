/-
  Functions: tables of validators, a new light client.
-/
import Derived.Test.YtkhciaoemhfhbaaFnE
set_option maxRecDepth 100000
set_option linter.unusedSimpArgs false
set_option linter.unusedVariables false
namespace Go.Eng.F
open Go.Eng.U (TQc THead TLimits TProof TRow TTable TLight TPush)
structure Row where
  weight : Int
  key : Bytes
def Row.c (r : Row) : List D := [.int .i64 r.weight, .sl (bytes r.key)]
def Row.wf (r : Row) : Prop := I64 r.weight ∧ Sz r.key.length
structure Table where
  rows : List Row
def rws (l : List Row) : List (List D) := l.map Row.c
theorem rws_len (l : List Row) : (rws l).length = l.length := by simp [rws]
theorem rws_get {l : List Row} {i : Nat} (h : i < l.length) : (rws l)[i]? = some [.int .i64 l[i].weight, .sl (bytes l[i].key)] := by simp [rws, h, Row.c]
theorem wid_rws (l : List Row) : wid 2 (rws l) = true := by
  induction l with
  | nil => rfl
  | cons n l ih => simp only [rws, List.map_cons, wid] at ih ⊢; simpa [Row.c] using ih
def Table.c (t : Table) : List D := [.sl (rws t.rows)]
def Table.wf (t : Table) : Prop := Sz t.rows.length ∧ ∀ r ∈ t.rows, r.wf
def rowOk (r : Row) : Bool := inn r.weight 1 1099511627776 && inn r.key.length 1 64
def tableOk (t : Table) : Bool := t.rows.all rowOk && inn t.rows.length 1 10
theorem rows_of {t : Table} (h : ∀ x ∈ t.rows.take t.rows.length, rowOk x = true) : tableOk t = inn t.rows.length 1 10 := by
  rw [List.take_length] at h
  simp only [tableOk, List.all_eq_true.2 h, Bool.true_and]
theorem rows_no {t : Table} {i : Nat} (hi : i < t.rows.length) (h : rowOk t.rows[i] = false) : tableOk t = false := by
  have : t.rows.all rowOk = false := List.all_eq_false.2 ⟨t.rows[i], List.getElem_mem hi, by simp [h]⟩
  simp [tableOk, this]
theorem impl_TableOk_ok (t : Table) (hw : t.wf) : VC cd n_impl_TableOk (mkP [(true, t.c)]) (fun rs _ => rs = bl (tableOk t)) := by
  obtain ⟨w1, w2⟩ := hw
  simp only [Sz] at w1
  refine VC_enter k_impl_TableOk rfl ?_
  simp (disch := omega) [c_impl_TableOk, Table.c, rws_len, VE, VXR, VP, VB, kof, bl, it]
  refine VX_loop3 (σ := Nat) (f1 := _) (es0 := _) (by simp (disch := omega) [VE, VXR, VP, VB, kof, bl, it]; rfl) (by simp (disch := omega) [VE, VXR, VP, VB, kof, bl, it]; rfl) (fun i => [(8, .val false [.int .i64 i])]) (fun _ => []) (fun i g => g + i = t.rows.length ∧ ∀ x ∈ t.rows.take i, rowOk x = true) 0 t.rows.length (by simp (disch := omega) [VE, VXR, VP, VB, kof, bl, it]) (by simp (disch := omega) [VE, VXR, VP, VB, kof, bl, it]) ⟨by omega, by simp⟩ ?_
  rintro i n g ⟨hg, hi⟩
  simp (disch := omega) [VE, VXR, VP, VB, kof, bl, it]
  refine VXB_dec (fun h1 => ?_) (fun h1 => ?_)
  · have hx : i < t.rows.length := by omega
    have w3 := (w2 _ (List.getElem_mem hx)).2
    simp only [Sz] at w3
    simp (disch := omega) [rws_get hx, VE, VXR, VP, VB, kof, bl, it]
    refine VXC_e (within_ok _ _ _) rfl rfl ?_
    simp (disch := omega) [VE, VXR, VP, VB, kof, bl, it]
    refine VXB_b (fun h2 => ?_) (fun h2 => ?_)
    · simp (disch := omega) [h2, VE, VXR, VP, VB, kof, bl, it]
      refine VXC_e (within_ok _ _ _) rfl rfl ?_
      simp (disch := omega) [h2, VE, VXR, VP, VB, kof, bl, it]
      refine VXB_b (fun h3 => ?_) (fun h3 => ?_)
      · simp (disch := omega) [h2, h3, VE, VXR, VP, VB, kof, bl, it]
        exact ⟨i + 1, g - 1, by omega, ⟨by omega, take_all hi hx (by simp [rowOk, h2, h3])⟩, by simp⟩
      · simp (disch := omega) [h2, h3, VE, VXR, VP, VB, kof, bl, it]
        exact rows_no hx (by simp [rowOk, h2, h3])
    · simp (disch := omega) [h2, VE, VXR, VP, VB, kof, bl, it]
      exact rows_no hx (by simp [rowOk, h2])
  · simp (disch := omega) [rws_len, VE, VXR, VP, VB, kof, bl, it]
    have : i = t.rows.length := by omega
    subst this
    refine VXC_e (within_ok _ _ _) rfl rfl ?_
    simp (disch := omega) [rows_of hi, VE, VXR, VP, VB, kof, bl, it]
theorem spec_TableOk_ok (t : Table) (hw : t.wf) : VC cd n_spec_TableOk (mkP [(true, t.c)]) (fun rs _ => rs = bl (tableOk t)) := by
  obtain ⟨w1, w2⟩ := hw
  simp only [Sz] at w1
  refine VC_enter k_spec_TableOk rfl ?_
  simp (disch := omega) [c_spec_TableOk, Table.c, rws_len, VE, VXR, VP, VB, kof, bl, it]
  refine VX_loop3 (σ := Nat) (f1 := _) (es0 := _) (by simp (disch := omega) [VE, VXR, VP, VB, kof, bl, it]; rfl) (by simp (disch := omega) [VE, VXR, VP, VB, kof, bl, it]; rfl) (fun i => [(8, .val false [.int .i64 i])]) (fun _ => []) (fun i g => g + i = t.rows.length ∧ ∀ x ∈ t.rows.take i, rowOk x = true) 0 t.rows.length (by simp (disch := omega) [VE, VXR, VP, VB, kof, bl, it]) (by simp (disch := omega) [VE, VXR, VP, VB, kof, bl, it]) ⟨by omega, by simp⟩ ?_
  rintro i n g ⟨hg, hi⟩
  simp (disch := omega) [VE, VXR, VP, VB, kof, bl, it]
  refine VXB_dec (fun h1 => ?_) (fun h1 => ?_)
  · have hx : i < t.rows.length := by omega
    have w3 := (w2 _ (List.getElem_mem hx)).2
    simp only [Sz] at w3
    simp (disch := omega) [rws_get hx, VE, VXR, VP, VB, kof, bl, it]
    refine VXC_e (l01In_ok _ _ _) rfl rfl ?_
    simp (disch := omega) [VE, VXR, VP, VB, kof, bl, it]
    refine VXB_b (fun h2 => ?_) (fun h2 => ?_)
    · simp (disch := omega) [h2, VE, VXR, VP, VB, kof, bl, it]
      refine VXC_e (l01In_ok _ _ _) rfl rfl ?_
      simp (disch := omega) [h2, VE, VXR, VP, VB, kof, bl, it]
      refine VXB_b (fun h3 => ?_) (fun h3 => ?_)
      · simp (disch := omega) [h2, h3, VE, VXR, VP, VB, kof, bl, it]
        exact ⟨i + 1, g - 1, by omega, ⟨by omega, take_all hi hx (by simp [rowOk, h2, h3])⟩, by simp⟩
      · simp (disch := omega) [h2, h3, VE, VXR, VP, VB, kof, bl, it]
        exact rows_no hx (by simp [rowOk, h2, h3])
    · simp (disch := omega) [h2, VE, VXR, VP, VB, kof, bl, it]
      exact rows_no hx (by simp [rowOk, h2])
  · simp (disch := omega) [rws_len, VE, VXR, VP, VB, kof, bl, it]
    have : i = t.rows.length := by omega
    subst this
    refine VXC_e (spec_l02Signers_ok _) rfl rfl ?_
    simp (disch := omega) [rows_of hi, VE, VXR, VP, VB, kof, bl, it]
def belongs (l : Lim) (t : Table) : Bool := l.ok && tableOk t && decide ((t.rows.length : Int) = l.n)
theorem belongs_ok (l : Lim) (t : Table) (hw : t.wf) : VC cd n_impl_belongs (mkP [(true, l.c), (true, t.c)]) (fun rs _ => rs = bl (belongs l t)) := by
  have w1 := hw.1
  simp only [Sz] at w1
  refine VC_enter k_impl_belongs rfl ?_
  simp (disch := omega) [c_impl_belongs, Lim.c, Table.c, VE, VXR, VP, VB, kof, bl, it]
  refine VXC_e (impl_LimitsOk_ok l) rfl rfl ?_
  simp (disch := omega) [VE, VXR, VP, VB, kof, bl, it]
  refine VXB_b (fun h1 => ?_) (fun h1 => ?_) <;> simp (disch := omega) [h1, belongs, VE, VXR, VP, VB, kof, bl, it]
  refine VXC_e (impl_TableOk_ok t hw) rfl rfl ?_
  simp (disch := omega) [h1, VE, VXR, VP, VB, kof, bl, it]
  refine VXB_b (fun h2 => ?_) (fun h2 => ?_) <;> simp (disch := omega) [h1, h2, rws_len, VE, VXR, VP, VB, kof, bl, it]
theorem l23Goes_ok (l : Lim) (t : Table) (hw : t.wf) : VC cd n_spec_l23Goes (mkP [(true, l.c), (true, t.c)]) (fun rs _ => rs = bl (belongs l t)) := by
  have w1 := hw.1
  simp only [Sz] at w1
  refine VC_enter k_spec_l23Goes rfl ?_
  simp (disch := omega) [c_spec_l23Goes, Lim.c, Table.c, VE, VXR, VP, VB, kof, bl, it]
  refine VXC_e (spec_LimitsOk_ok l) rfl rfl ?_
  simp (disch := omega) [VE, VXR, VP, VB, kof, bl, it]
  refine VXB_b (fun h1 => ?_) (fun h1 => ?_) <;> simp (disch := omega) [h1, belongs, VE, VXR, VP, VB, kof, bl, it]
  refine VXC_e (spec_TableOk_ok t hw) rfl rfl ?_
  simp (disch := omega) [h1, VE, VXR, VP, VB, kof, bl, it]
  refine VXB_b (fun h2 => ?_) (fun h2 => ?_) <;> simp (disch := omega) [h1, h2, rws_len, eq_comm, VE, VXR, VP, VB, kof, bl, it]
/-! ### Copies -/
theorem rws_snoc {l : List Row} {i : Nat} (h : i < l.length) : rws (l.take i) ++ [[.int .i64 l[i].weight, .sl (bytes l[i].key)]] = rws (l.take (i + 1)) := by
  have e : rws (l.take (i + 1)) = rws (l.take i) ++ rws [l[i]] := by
    rw [List.take_add_one, List.getElem?_eq_getElem h]; exact List.map_append
  rw [e]; rfl
theorem Table_copied_ok (t : Table) (hw : t.wf) : VC cd n_impl_Table_copied (mkP [(true, t.c)]) (fun rs _ => rs = [(true, [.o true (some (204, 2)) (rws t.rows)])]) := by
  obtain ⟨w1, w2⟩ := hw
  simp only [Sz] at w1
  refine VC_enter k_impl_Table_copied rfl ?_
  simp (disch := omega) [c_impl_Table_copied, Table.c, rws_len, VE, VXR, VP, VB, kof, bl, it]
  refine VX_loop4 (σ := Nat × Nat) (f0 := _) (by simp (disch := omega) [VE, VXR, VP, VB, kof, bl, it]; rfl) (Weak.matB (s := 3) (k := 3) (i := 0) rfl rfl) (f1 := _) (es0 := _) (by simp (disch := omega) [VE, VXR, VP, VB, kof, bl, it]; rfl) (by simp (disch := omega) [VE, VXR, VP, VB, kof, bl, it]; rfl) (fun p => [(10, .val false [.int .i64 p.1]), (3, .box [.ow 3 p.2])]) (fun p => [(3, .sl p.2 true true (some (204, 2)) (rws (t.rows.take p.1)))])
    (fun p g => g + p.1 = t.rows.length) (0, _) t.rows.length (by simp (disch := omega) [VE, VXR, VP, VB, kof, bl, it]; rfl) (by simp (disch := omega) [rws, VE, VXR, VP, VB, kof, bl, it]) (by omega) ?_
  rintro ⟨i, v⟩ n g hg
  simp only at hg
  simp (disch := omega) [VE, VXR, VP, VB, kof, bl, it]
  refine VXB_dec (fun h1 => ?_) (fun h1 => ?_)
  · have hx : i < t.rows.length := by omega
    have w3 := (w2 _ (List.getElem_mem hx)).2
    simp only [Sz] at w3
    simp (disch := omega) [rws_get hx, VE, VXR, VP, VB, kof, bl, it]
    refine VXC_e (copyBytes_ok t.rows[i].key (by omega)) rfl rfl ?_
    have hl : (rws (t.rows.take i)).length = i := by rw [rws_len]; simp; omega
    simp (disch := omega) [hl, rws_snoc hx, VE, VXR, VP, VB, kof, bl, it]
    exact ⟨i + 1, n + 1, g - 1, by omega, by omega, ⟨by omega, by omega⟩, by omega, rfl⟩
  · simp (disch := omega) [VE, VXR, VP, VB, kof, bl, it]
    have : i = t.rows.length := by omega
    subst this
    rw [List.take_length]
theorem l21Copy_ok (t : Table) (hw : t.wf) : VC cd n_spec_l21Copy (mkP [(true, t.c)]) (fun rs _ => rs = [(true, [.o true (some (204, 2)) (rws t.rows)])]) := by
  obtain ⟨w1, w2⟩ := hw
  simp only [Sz] at w1
  refine VC_enter k_spec_l21Copy rfl ?_
  simp (disch := omega) [c_spec_l21Copy, Table.c, rws_len, VE, VXR, VP, VB, kof, bl, it]
  refine VX_loop4 (σ := Nat × Nat) (f0 := _) (by simp (disch := omega) [VE, VXR, VP, VB, kof, bl, it]; rfl) (Weak.matB (s := 3) (k := 3) (i := 0) rfl rfl) (f1 := _) (es0 := _) (by simp (disch := omega) [VE, VXR, VP, VB, kof, bl, it]; rfl) (by simp (disch := omega) [VE, VXR, VP, VB, kof, bl, it]; rfl) (fun p => [(10, .val false [.int .i64 p.1]), (3, .box [.ow 3 p.2])]) (fun p => [(3, .sl p.2 true true (some (204, 2)) (rws (t.rows.take p.1)))])
    (fun p g => g + p.1 = t.rows.length) (0, _) t.rows.length (by simp (disch := omega) [VE, VXR, VP, VB, kof, bl, it]; rfl) (by simp (disch := omega) [rws, VE, VXR, VP, VB, kof, bl, it]) (by omega) ?_
  rintro ⟨i, v⟩ n g hg
  simp only at hg
  simp (disch := omega) [VE, VXR, VP, VB, kof, bl, it]
  refine VXB_dec (fun h1 => ?_) (fun h1 => ?_)
  · have hx : i < t.rows.length := by omega
    have w3 := (w2 _ (List.getElem_mem hx)).2
    simp only [Sz] at w3
    simp (disch := omega) [rws_get hx, VE, VXR, VP, VB, kof, bl, it]
    refine VXC_e (l01Copy_ok t.rows[i].key (by omega)) rfl rfl ?_
    have hl : (rws (t.rows.take i)).length = i := by rw [rws_len]; simp; omega
    simp (disch := omega) [hl, rws_snoc hx, VE, VXR, VP, VB, kof, bl, it]
    exact ⟨i + 1, n + 1, g - 1, by omega, by omega, ⟨by omega, by omega⟩, by omega, rfl⟩
  · simp (disch := omega) [VE, VXR, VP, VB, kof, bl, it]
    have : i = t.rows.length := by omega
    subst this
    rw [List.take_length]
/-! ### A new light client -/
def lightNewE (l : Lim) (t : Table) : List (Bool × List E) :=
  if belongs l t then [(true, [.p (.int .i64 l.n), .p (.int .i64 l.tx), .p (.int .i64 l.txs), .p (.int .i64 l.frame), .p (.int .i64 l.heads), .o true (some (204, 2)) (rws t.rows), .p (.int .i64 0), .p .nils, .p .nils]), (false, [.p (.bool true)])]
  else [(true, [.p (.int .i64 0), .p (.int .i64 0), .p (.int .i64 0), .p (.int .i64 0), .p (.int .i64 0), .p .nils, .p (.int .i64 0), .p .nils, .p .nils]), (false, [.p (.bool false)])]
theorem impl_LightNew_ok (l : Lim) (t : Table) (hw : t.wf) : VC cd n_impl_LightNew (mkP [(true, l.c), (true, t.c)]) (fun rs _ => rs = lightNewE l t) := by
  refine VC_enter k_impl_LightNew rfl ?_
  simp (disch := omega) [c_impl_LightNew, Lim.c, Table.c, VE, VXR, VP, VB, kof, bl, it]
  refine VXC_e (belongs_ok l t hw) rfl rfl ?_
  simp (disch := omega) [VE, VXR, VP, VB, kof, bl, it]
  refine VXB_b (fun h1 => ?_) (fun h1 => ?_) <;> simp (disch := omega) [h1, lightNewE, VE, VXR, VP, VB, kof, bl, it]
  refine VXC_e (Table_copied_ok t hw) rfl rfl ?_
  simp (disch := omega) [h1, VE, VXR, VP, VB, kof, bl, it]
theorem spec_LightNew_ok (l : Lim) (t : Table) (hw : t.wf) : VC cd n_spec_LightNew (mkP [(true, l.c), (true, t.c)]) (fun rs _ => rs = lightNewE l t) := by
  refine VC_enter k_spec_LightNew rfl ?_
  simp (disch := omega) [c_spec_LightNew, Lim.c, Table.c, VE, VXR, VP, VB, kof, bl, it]
  refine VXC_e (l23Goes_ok l t hw) rfl rfl ?_
  simp (disch := omega) [VE, VXR, VP, VB, kof, bl, it]
  refine VXB_b (fun h1 => ?_) (fun h1 => ?_) <;> simp (disch := omega) [h1, lightNewE, VE, VXR, VP, VB, kof, bl, it]
  refine VXC_e (l21Copy_ok t hw) rfl rfl ?_
  simp (disch := omega) [h1, VE, VXR, VP, VB, kof, bl, it]
/-! ### At the program's types -/
theorem enc_ints (l : List Int) : enc (.sl (.int .i64)) (intsT l) = [.sl (l.map fun n => [.int .i64 n])] := by
  simp only [intsT, enc_sl, List.map_map]
  congr 2
theorem enc_str (s : ByteArray) : enc .str (.s s) = [.str s] := rfl
def Row.tv (x : Row) : Tv := .r [.i x.weight, bsT x.key]
theorem Row.enc (x : Row) : enc TRow x.tv = x.c := by simp only [Row.tv, enc_st, encS_cons, encS_nil, enc_int, enc_bool, enc_str, enc_bs, enc_bss', enc_ints, Row.c, List.cons_append, List.nil_append, List.append_assoc]
theorem Row.ex {v : Tv} (h : TvOk TRow v) : ∃ x : Row, v = x.tv := by
  obtain ⟨vs, rfl, h⟩ := h.st
  obtain ⟨v0, _, rfl, h0, h⟩ := h.step
  obtain ⟨v1, _, rfl, h1, h⟩ := h.step
  obtain rfl := h.fin
  obtain ⟨n0, rfl, _⟩ := h0.int
  obtain ⟨n1, rfl⟩ := bsT_ex h1
  exact ⟨⟨n0, n1⟩, rfl⟩
theorem Row.of {x : Row} (h : TvOk TRow x.tv) (hw : wt x.tv ≤ 1048576) : x.wf := by
  simp only [Row.tv, ok_st, okS_cons] at h
  simp only [Row.tv, wt, wts] at hw
  obtain ⟨h0, h1, _⟩ := h
  exact ⟨i64_of (ok_int.1 h0), bs_of (by omega)⟩
theorem Row.wf.tok {x : Row} (h : x.wf) : TvOk TRow x.tv := by
  simp only [Row.tv, ok_st, okS_cons]
  obtain ⟨h0, h1⟩ := h
  exact ⟨i64_ok h0, sz_bs h1, okS_nil.2 trivial⟩
def rwsT (l : List Row) : Tv := .l (l.map Row.tv)
theorem enc_rws (l : List Row) : enc (.sl TRow) (rwsT l) = [.sl (rws l)] := by
  simp only [rwsT, enc_sl, List.map_map, rws]
  congr 2
  exact List.map_congr_left fun x _ => Row.enc x
theorem rwsT_ex {v : Tv} (h : TvOk (.sl TRow) v) : ∃ l, v = rwsT l := by
  obtain ⟨xs, rfl, _, h2⟩ := h.sl
  obtain ⟨ys, rfl⟩ := list_ex (f := Row.tv) (P := TvOk TRow) (fun v hv => Row.ex hv) h2
  exact ⟨ys, rfl⟩
theorem rws_of {l : List Row} (h : TvOk (.sl TRow) (rwsT l)) (hw : wt (rwsT l) ≤ 1048576) : Sz l.length ∧ ∀ x ∈ l, x.wf := by
  unfold rwsT at h hw
  rw [wt_l] at hw
  have h2 := (ok_sl.1 h).2
  simp only [List.length_map] at hw
  refine ⟨by unfold Sz; omega, fun x hx => Row.of (h2 _ (List.mem_map_of_mem hx)) ?_⟩
  have := wts_mem (f := Row.tv) hx
  omega
theorem rws_tok {l : List Row} (h : Sz l.length ∧ ∀ x ∈ l, x.wf) : TvOk (.sl TRow) (rwsT l) := by
  unfold rwsT
  refine ok_sl.2 ⟨by have := h.1; unfold Sz at this; rw [List.length_map, maxLen_eq]; omega, fun v hv => ?_⟩
  obtain ⟨x, hx, rfl⟩ := List.mem_map.1 hv
  exact (h.2 x hx).tok
def Table.tv (x : Table) : Tv := .r [rwsT x.rows]
theorem Table.enc (x : Table) : enc TTable x.tv = x.c := by simp only [Table.tv, enc_rws, enc_st, encS_cons, encS_nil, enc_int, enc_bool, enc_str, enc_bs, enc_bss', enc_ints, Table.c, List.cons_append, List.nil_append, List.append_assoc]
theorem Table.ex {v : Tv} (h : TvOk TTable v) : ∃ x : Table, v = x.tv := by
  obtain ⟨vs, rfl, h⟩ := h.st
  obtain ⟨v0, _, rfl, h0, h⟩ := h.step
  obtain rfl := h.fin
  obtain ⟨n0, rfl⟩ := rwsT_ex h0
  exact ⟨⟨n0⟩, rfl⟩
theorem Table.of {x : Table} (h : TvOk TTable x.tv) (hw : wt x.tv ≤ 1048576) : x.wf := by
  simp only [Table.tv, ok_st, okS_cons] at h
  simp only [Table.tv, wt, wts] at hw
  obtain ⟨h0, _⟩ := h
  exact rws_of h0 (by omega)
theorem Table.wf.tok {x : Table} (h : x.wf) : TvOk TTable x.tv := by
  simp only [Table.tv, ok_st, okS_cons]
  have h0 := h
  exact ⟨rws_tok h0, okS_nil.2 trivial⟩
def zeroLightT : Tv := .r [.r [.i 0, .i 0, .i 0, .i 0, .i 0], .r [.l []], .r [.i 0, .l []], .l []]
def lightNewT (l : Lim) (t : Table) : Tv := if belongs l t then .r [l.tv, t.tv, .r [.i 0, .l []], .l []] else zeroLightT
theorem ok_nil (T : Ty) : TvOk (.sl T) (.l []) := by simp [TvOk, maxLen]
theorem enc_nil (T : Ty) : enc (.sl T) (.l []) = [.sl []] := by simp [enc]
theorem ok_i0 : TvOk (.int .i64) (.i 0) := i64_ok (by unfold I64; omega)
theorem lightNew_wt (l : Lim) (t : Table) : wt (lightNewT l t) ≤ wt t.tv := by
  unfold lightNewT
  split <;> simp [wt, wts, zeroLightT, Lim.tv]
theorem lightNew_rs {l : Lim} {t : Table} (hl : TvOk TLimits l.tv) (hw : t.wf) : RsE (lightNewE l t) [(TLight, lightNewT l t), (.bool, .b (belongs l t))] := by
  have ht := hw.tok
  cases hb : belongs l t with
  | true =>
    simp only [lightNewE, lightNewT, hb, if_true]
    refine ⟨rfl, ?_, ?_, rfl, ?_, trivial, trivial⟩
    · simp only [enc_st, encS_cons, encS_nil, Lim.enc, Table.enc, Lim.c, Table.c, enc_int, enc_nil, List.cons_append, List.nil_append, EEq, D.leaf, and_self]
    · simp only [ok_st, okS_cons]
      exact ⟨hl, ht, ⟨ok_i0, ok_nil _, okS_nil.2 trivial⟩, ok_nil _, okS_nil.2 trivial⟩
    · simp only [enc_bool, EEq, D.leaf, and_self]
  | false =>
    simp only [lightNewE, lightNewT, hb, Bool.false_eq_true, if_false]
    refine ⟨rfl, ?_, ?_, rfl, ?_, trivial, trivial⟩
    · simp only [zeroLightT, enc_st, encS_cons, encS_nil, enc_int, enc_nil, List.cons_append, List.nil_append, EEq, D.leaf, and_self]
    · simp only [zeroLightT, ok_st, okS_cons]
      exact ⟨⟨ok_i0, ok_i0, ok_i0, ok_i0, ok_i0, okS_nil.2 trivial⟩, ⟨ok_nil _, okS_nil.2 trivial⟩, ⟨ok_i0, ok_nil _, okS_nil.2 trivial⟩, ok_nil _, okS_nil.2 trivial⟩
    · simp only [enc_bool, EEq, D.leaf, and_self]
theorem io_impl_LightNew {h : H} {l : Lim} {t : Table} {ms : List (Bool × List C)} (ha : ArgsRp h [(TLimits, l.tv), (TTable, t.tv)] ms) (hp : wt t.tv ≤ 1048576) :
    WC cd n_impl_LightNew ms h (Ans h [(TLight, lightNewT l t), (.bool, .b (belongs l t))]) := by
  obtain ⟨k1, mr, ha2⟩ := ArgsRp.ok1 ha
  have hw := Table.of (ArgsRp.ok1 ha2).1 hp
  have hc := impl_LightNew_ok l t hw
  have e : encA [(TLimits, l.tv), (TTable, t.tv)] = [(true, l.c), (true, t.c)] := by simp only [encA, List.map, Lim.enc, Table.enc, Ty.agg]
  rw [← e] at hc
  exact hc.wc ha fun rs q => by rw [q]; exact lightNew_rs k1 hw
theorem io_spec_LightNew {h : H} {l : Lim} {t : Table} {ms : List (Bool × List C)} (ha : ArgsRp h [(TLimits, l.tv), (TTable, t.tv)] ms) (hp : wt t.tv ≤ 1048576) :
    WC cd n_spec_LightNew ms h (Ans h [(TLight, lightNewT l t), (.bool, .b (belongs l t))]) := by
  obtain ⟨k1, mr, ha2⟩ := ArgsRp.ok1 ha
  have hw := Table.of (ArgsRp.ok1 ha2).1 hp
  have hc := spec_LightNew_ok l t hw
  have e : encA [(TLimits, l.tv), (TTable, t.tv)] = [(true, l.c), (true, t.c)] := by simp only [encA, List.map, Lim.enc, Table.enc, Ty.agg]
  rw [← e] at hc
  exact hc.wc ha fun rs q => by rw [q]; exact lightNew_rs k1 hw
end Go.Eng.F
