/-
  Functions: timeout certificates as messages.
-/
import Derived.Test.YtkhciaoemhfhbaaFnF
set_option maxRecDepth 100000
set_option linter.unusedSimpArgs false
set_option linter.unusedVariables false
namespace Go.Eng.F
open Go.Eng.U (TQc THead TLimits TProof TRow TTable TLight TPush TTc TEntry TMsg)
abbrev n_impl_Tc_copied : Nat := 129
def c_impl_Tc_copied : AF := ⟨1, 5, [.cell 2 2 true], (.seq (.ops [.i (.lbox 1 (.s 0)), .i (.lal 2 [.int .i64 0, .nils])]) (.seq (.ops [.i (.fad 6 (.s 1) 0), .i (.ldl 7 1 (.s 6) 1 false), .i (.bld 8 [.int .i64 0, .nils] [(0, 1, (.s 7))]), .i (.lal 3 [.int .i64 0, .nils]), .i (.stl 3 (.s 3) (.s 8) 2)]) (.seq (.seq (.ops [.i (.fad 9 (.s 1) 1), .i (.ldl 10 1 (.s 9) 1 false), .i (.len 11 false (.s 10)), .i (.mov 12 (.c (.val false [.int .i64 0])))]) (.block 0 (.loop [29, 28, 27, 26, 25, 24, 23, 22, 21, 20, 19, 18, 17, 16, 15, 14, 13, 5] (.seq (.ops [.i (.bin 13 .lss (.s 12) (.s 11))]) (.seq (.cond (.s 13) .skip (.exit 0)) (.seq (.block 1 (.seq (.ops [.i (.iad 14 (.s 10) (.s 12) 3), .i (.ldh 15 (.s 14) 3 true), .i (.lal 5 [.int .i64 0, .int .i64 0, .nils]), .i (.stl 5 (.s 5) (.s 15) 3)]) (.ops [.i (.fad 16 (.s 3) 1), .i (.ldl 17 3 (.s 16) 1 false), .i (.fad 18 (.s 5) 0), .i (.ldl 19 5 (.s 18) 1 false), .i (.fad 20 (.s 5) 1), .i (.ldl 21 5 (.s 20) 1 false), .i (.fad 22 (.s 5) 2), .i (.ldl 23 5 (.s 22) 1 false), .i (.call 25 70 false [(.s 23)]), .i (.bld 25 [.int .i64 0, .int .i64 0, .nils] [(0, 1, (.s 19)), (1, 1, (.s 21)), (2, 1, (.s 24))]), .i (.lsl 26 3 1 [.int .i64 0, .int .i64 0, .nils] [(0, 3, (.s 25))]), .i (.app 27 212 3 40 (.s 17) (.s 26)), .i (.fad 28 (.s 3) 1), .i (.stl 3 (.s 28) (.s 27) 1)]))) (.ops [.i (.bin 29 .add (.s 12) (.c (.val false [.int .i64 1]))), .i (.mov 12 (.s 29))]))))))) (.seq (.ops [.i (.ldl 30 3 (.s 3) 2 true), .i (.stl 2 (.s 2) (.s 30) 2)]) .ret))))⟩
theorem k_impl_Tc_copied : cd n_impl_Tc_copied = some c_impl_Tc_copied := by kernel_rfl
abbrev n_spec_l15Copy : Nat := 127
def c_spec_l15Copy : AF := ⟨1, 5, [.cell 2 2 true], (.seq (.ops [.i (.lbox 1 (.s 0)), .i (.lal 2 [.int .i64 0, .nils])]) (.seq (.ops [.i (.fad 6 (.s 1) 0), .i (.ldl 7 1 (.s 6) 1 false), .i (.bld 8 [.int .i64 0, .nils] [(0, 1, (.s 7))]), .i (.lal 3 [.int .i64 0, .nils]), .i (.stl 3 (.s 3) (.s 8) 2)]) (.seq (.seq (.ops [.i (.fad 9 (.s 1) 1), .i (.ldl 10 1 (.s 9) 1 false), .i (.len 11 false (.s 10)), .i (.mov 12 (.c (.val false [.int .i64 0])))]) (.block 0 (.loop [29, 28, 27, 26, 25, 24, 23, 22, 21, 20, 19, 18, 17, 16, 15, 14, 13, 5] (.seq (.ops [.i (.bin 13 .lss (.s 12) (.s 11))]) (.seq (.cond (.s 13) .skip (.exit 0)) (.seq (.block 1 (.seq (.ops [.i (.iad 14 (.s 10) (.s 12) 3), .i (.ldh 15 (.s 14) 3 true), .i (.lal 5 [.int .i64 0, .int .i64 0, .nils]), .i (.stl 5 (.s 5) (.s 15) 3)]) (.ops [.i (.fad 16 (.s 3) 1), .i (.ldl 17 3 (.s 16) 1 false), .i (.fad 18 (.s 5) 0), .i (.ldl 19 5 (.s 18) 1 false), .i (.fad 20 (.s 5) 1), .i (.ldl 21 5 (.s 20) 1 false), .i (.fad 22 (.s 5) 2), .i (.ldl 23 5 (.s 22) 1 false), .i (.call 25 157 false [(.s 23)]), .i (.bld 25 [.int .i64 0, .int .i64 0, .nils] [(0, 1, (.s 19)), (1, 1, (.s 21)), (2, 1, (.s 24))]), .i (.lsl 26 3 1 [.int .i64 0, .int .i64 0, .nils] [(0, 3, (.s 25))]), .i (.app 27 212 3 40 (.s 17) (.s 26)), .i (.fad 28 (.s 3) 1), .i (.stl 3 (.s 28) (.s 27) 1)]))) (.ops [.i (.bin 29 .add (.s 12) (.c (.val false [.int .i64 1]))), .i (.mov 12 (.s 29))]))))))) (.seq (.ops [.i (.ldl 30 3 (.s 3) 2 true), .i (.stl 2 (.s 2) (.s 30) 2)]) .ret))))⟩
theorem k_spec_l15Copy : cd n_spec_l15Copy = some c_spec_l15Copy := by kernel_rfl
abbrev n_impl_OfTc : Nat := 53
def c_impl_OfTc : AF := ⟨1, 3, [.cell 2 45 true], (.seq (.ops [.i (.lbox 1 (.s 0)), .i (.lal 2 [.int .i64 0, .int .i64 0, .int .i64 0, .nils, .int .i64 0, .nils, .int .i64 0, .int .i64 0, .nils, .nils, .nils, .int .i64 0, .int .i64 0, .int .i64 0, .nils, .nils, .int .i64 0, .int .i64 0, .nils, .nils, .nils, .int .i64 0, .int .i64 0, .int .i64 0, .nils, .nils, .int .i64 0, .int .i64 0, .nils, .nils, .nils, .nils, .int .i64 0, .nils, .nils, .int .i64 0, .int .i64 0, .nils, .nils, .nils, .int .i64 0, .int .i64 0, .int .i64 0, .nils, .nils])]) (.seq (.ops [.i (.ldl 3 1 (.s 1) 2 true), .i (.call 5 129 false [(.s 3)]), .i (.bld 5 [.int .i64 0, .int .i64 0, .int .i64 0, .nils, .int .i64 0, .nils, .int .i64 0, .int .i64 0, .nils, .nils, .nils, .int .i64 0, .int .i64 0, .int .i64 0, .nils, .nils, .int .i64 0, .int .i64 0, .nils, .nils, .nils, .int .i64 0, .int .i64 0, .int .i64 0, .nils, .nils, .int .i64 0, .int .i64 0, .nils, .nils, .nils, .nils, .int .i64 0, .nils, .nils, .int .i64 0, .int .i64 0, .nils, .nils, .nils, .int .i64 0, .int .i64 0, .int .i64 0, .nils, .nils] [(0, 1, (.c (.val false [.int .i64 5]))), (32, 2, (.s 4))]), .i (.stl 2 (.s 2) (.s 5) 45)]) .ret))⟩
theorem k_impl_OfTc : cd n_impl_OfTc = some c_impl_OfTc := by kernel_rfl
abbrev n_spec_OfTc : Nat := 51
def c_spec_OfTc : AF := ⟨1, 3, [.cell 2 45 true], (.seq (.ops [.i (.lbox 1 (.s 0)), .i (.lal 2 [.int .i64 0, .int .i64 0, .int .i64 0, .nils, .int .i64 0, .nils, .int .i64 0, .int .i64 0, .nils, .nils, .nils, .int .i64 0, .int .i64 0, .int .i64 0, .nils, .nils, .int .i64 0, .int .i64 0, .nils, .nils, .nils, .int .i64 0, .int .i64 0, .int .i64 0, .nils, .nils, .int .i64 0, .int .i64 0, .nils, .nils, .nils, .nils, .int .i64 0, .nils, .nils, .int .i64 0, .int .i64 0, .nils, .nils, .nils, .int .i64 0, .int .i64 0, .int .i64 0, .nils, .nils])]) (.seq (.ops [.i (.ldl 3 1 (.s 1) 2 true), .i (.call 5 127 false [(.s 3)]), .i (.bld 5 [.int .i64 0, .int .i64 0, .int .i64 0, .nils, .int .i64 0, .nils, .int .i64 0, .int .i64 0, .nils, .nils, .nils, .int .i64 0, .int .i64 0, .int .i64 0, .nils, .nils, .int .i64 0, .int .i64 0, .nils, .nils, .nils, .int .i64 0, .int .i64 0, .int .i64 0, .nils, .nils, .int .i64 0, .int .i64 0, .nils, .nils, .nils, .nils, .int .i64 0, .nils, .nils, .int .i64 0, .int .i64 0, .nils, .nils, .nils, .int .i64 0, .int .i64 0, .int .i64 0, .nils, .nils] [(0, 1, (.c (.val false [.int .i64 5]))), (32, 2, (.s 4))]), .i (.stl 2 (.s 2) (.s 5) 45)]) .ret))⟩
theorem k_spec_OfTc : cd n_spec_OfTc = some c_spec_OfTc := by kernel_rfl
structure Entry where
  who : Int
  high : Int
  tag : Bytes
def Entry.c (r : Entry) : List D := [.int .i64 r.who, .int .i64 r.high, .sl (bytes r.tag)]
def Entry.wf (r : Entry) : Prop := I64 r.who ∧ I64 r.high ∧ Sz r.tag.length
structure Tc where
  view : Int
  entries : List Entry
def ens (l : List Entry) : List (List D) := l.map Entry.c
theorem ens_len (l : List Entry) : (ens l).length = l.length := by simp [ens]
theorem ens_get {l : List Entry} {i : Nat} (h : i < l.length) : (ens l)[i]? = some [.int .i64 l[i].who, .int .i64 l[i].high, .sl (bytes l[i].tag)] := by simp [ens, h, Entry.c]
theorem wid_ens (l : List Entry) : wid 3 (ens l) = true := by
  induction l with
  | nil => rfl
  | cons n l ih => simp only [ens, List.map_cons, wid] at ih ⊢; simpa [Entry.c] using ih
theorem ens_snoc {l : List Entry} {i : Nat} (h : i < l.length) : ens (l.take i) ++ [[.int .i64 l[i].who, .int .i64 l[i].high, .sl (bytes l[i].tag)]] = ens (l.take (i + 1)) := by
  have e : ens (l.take (i + 1)) = ens (l.take i) ++ ens [l[i]] := by
    rw [List.take_add_one, List.getElem?_eq_getElem h]; exact List.map_append
  rw [e]; rfl
def Tc.c (t : Tc) : List D := [.int .i64 t.view, .sl (ens t.entries)]
def Tc.wf (t : Tc) : Prop := I64 t.view ∧ Sz t.entries.length ∧ ∀ r ∈ t.entries, r.wf
theorem Tc_copied_ok (t : Tc) (hw : t.wf) : VC cd n_impl_Tc_copied (mkP [(true, t.c)]) (fun rs _ => rs = [(true, [.p (.int .i64 t.view), .o true (some (212, 3)) (ens t.entries)])]) := by
  obtain ⟨w0, w1, w2⟩ := hw
  simp only [Sz] at w1
  refine VC_enter k_impl_Tc_copied rfl ?_
  simp (disch := omega) [c_impl_Tc_copied, Tc.c, ens_len, VE, VXR, VP, VB, kof, bl, it]
  refine VX_loop4 (σ := Nat × Nat) (f0 := _) (by simp (disch := omega) [VE, VXR, VP, VB, kof, bl, it]; rfl) (Weak.matB (s := 3) (k := 3) (i := 1) rfl rfl) (f1 := _) (es0 := _) (by simp (disch := omega) [VE, VXR, VP, VB, kof, bl, it]; rfl) (by simp (disch := omega) [VE, VXR, VP, VB, kof, bl, it]; rfl) (fun p => [(12, .val false [.int .i64 p.1]), (3, .box [.int .i64 t.view, .ow 3 p.2])]) (fun p => [(3, .sl p.2 true true (some (212, 3)) (ens (t.entries.take p.1)))])
    (fun p g => g + p.1 = t.entries.length) (0, _) t.entries.length (by simp (disch := omega) [VE, VXR, VP, VB, kof, bl, it]; rfl) (by simp (disch := omega) [ens, VE, VXR, VP, VB, kof, bl, it]) (by omega) ?_
  rintro ⟨i, v⟩ n g hg
  simp only at hg
  simp (disch := omega) [VE, VXR, VP, VB, kof, bl, it]
  refine VXB_dec (fun h1 => ?_) (fun h1 => ?_)
  · have hx : i < t.entries.length := by omega
    have w3 := (w2 _ (List.getElem_mem hx)).2.2
    simp only [Sz] at w3
    simp (disch := omega) [ens_get hx, VE, VXR, VP, VB, kof, bl, it]
    refine VXC_e (copyBytes_ok t.entries[i].tag (by omega)) rfl rfl ?_
    have hl : (ens (t.entries.take i)).length = i := by rw [ens_len]; simp; omega
    simp (disch := omega) [hl, ens_snoc hx, VE, VXR, VP, VB, kof, bl, it]
    exact ⟨i + 1, n + 1, g - 1, by omega, by omega, ⟨by omega, by omega⟩, by omega, rfl⟩
  · simp (disch := omega) [VE, VXR, VP, VB, kof, bl, it]
    have : i = t.entries.length := by omega
    subst this
    rw [List.take_length]
theorem l15Copy_ok (t : Tc) (hw : t.wf) : VC cd n_spec_l15Copy (mkP [(true, t.c)]) (fun rs _ => rs = [(true, [.p (.int .i64 t.view), .o true (some (212, 3)) (ens t.entries)])]) := by
  obtain ⟨w0, w1, w2⟩ := hw
  simp only [Sz] at w1
  refine VC_enter k_spec_l15Copy rfl ?_
  simp (disch := omega) [c_spec_l15Copy, Tc.c, ens_len, VE, VXR, VP, VB, kof, bl, it]
  refine VX_loop4 (σ := Nat × Nat) (f0 := _) (by simp (disch := omega) [VE, VXR, VP, VB, kof, bl, it]; rfl) (Weak.matB (s := 3) (k := 3) (i := 1) rfl rfl) (f1 := _) (es0 := _) (by simp (disch := omega) [VE, VXR, VP, VB, kof, bl, it]; rfl) (by simp (disch := omega) [VE, VXR, VP, VB, kof, bl, it]; rfl) (fun p => [(12, .val false [.int .i64 p.1]), (3, .box [.int .i64 t.view, .ow 3 p.2])]) (fun p => [(3, .sl p.2 true true (some (212, 3)) (ens (t.entries.take p.1)))])
    (fun p g => g + p.1 = t.entries.length) (0, _) t.entries.length (by simp (disch := omega) [VE, VXR, VP, VB, kof, bl, it]; rfl) (by simp (disch := omega) [ens, VE, VXR, VP, VB, kof, bl, it]) (by omega) ?_
  rintro ⟨i, v⟩ n g hg
  simp only at hg
  simp (disch := omega) [VE, VXR, VP, VB, kof, bl, it]
  refine VXB_dec (fun h1 => ?_) (fun h1 => ?_)
  · have hx : i < t.entries.length := by omega
    have w3 := (w2 _ (List.getElem_mem hx)).2.2
    simp only [Sz] at w3
    simp (disch := omega) [ens_get hx, VE, VXR, VP, VB, kof, bl, it]
    refine VXC_e (l01Copy_ok t.entries[i].tag (by omega)) rfl rfl ?_
    have hl : (ens (t.entries.take i)).length = i := by rw [ens_len]; simp; omega
    simp (disch := omega) [hl, ens_snoc hx, VE, VXR, VP, VB, kof, bl, it]
    exact ⟨i + 1, n + 1, g - 1, by omega, by omega, ⟨by omega, by omega⟩, by omega, rfl⟩
  · simp (disch := omega) [VE, VXR, VP, VB, kof, bl, it]
    have : i = t.entries.length := by omega
    subst this
    rw [List.take_length]
def ofTcE (t : Tc) : List (Bool × List E) := [(true, [.p (.int .i64 5), .p (.int .i64 0), .p (.int .i64 0), .p .nils, .p (.int .i64 0), .p .nils, .p (.int .i64 0), .p (.int .i64 0), .p .nils, .p .nils, .p .nils, .p (.int .i64 0), .p (.int .i64 0), .p (.int .i64 0), .p .nils, .p .nils, .p (.int .i64 0), .p (.int .i64 0), .p .nils, .p .nils, .p .nils, .p (.int .i64 0), .p (.int .i64 0), .p (.int .i64 0), .p .nils, .p .nils, .p (.int .i64 0), .p (.int .i64 0), .p .nils, .p .nils, .p .nils, .p .nils, .p (.int .i64 t.view), .o true (some (212, 3)) (ens t.entries), .p .nils, .p (.int .i64 0), .p (.int .i64 0), .p .nils, .p .nils, .p .nils, .p (.int .i64 0), .p (.int .i64 0), .p (.int .i64 0), .p .nils, .p .nils])]
theorem impl_OfTc_ok (t : Tc) (hw : t.wf) : VC cd n_impl_OfTc (mkP [(true, t.c)]) (fun rs _ => rs = ofTcE t) := by
  refine VC_enter k_impl_OfTc rfl ?_
  simp (disch := omega) [c_impl_OfTc, Tc.c, VE, VXR, VP, VB, kof, bl, it]
  refine VXC_e (Tc_copied_ok t hw) rfl rfl ?_
  simp (disch := omega) [ofTcE, VE, VXR, VP, VB, kof, bl, it]
theorem spec_OfTc_ok (t : Tc) (hw : t.wf) : VC cd n_spec_OfTc (mkP [(true, t.c)]) (fun rs _ => rs = ofTcE t) := by
  refine VC_enter k_spec_OfTc rfl ?_
  simp (disch := omega) [c_spec_OfTc, Tc.c, VE, VXR, VP, VB, kof, bl, it]
  refine VXC_e (l15Copy_ok t hw) rfl rfl ?_
  simp (disch := omega) [ofTcE, VE, VXR, VP, VB, kof, bl, it]
/-! ### At the program's types -/
def Entry.tv (x : Entry) : Tv := .r [.i x.who, .i x.high, bsT x.tag]
theorem Entry.enc (x : Entry) : enc TEntry x.tv = x.c := by simp only [Entry.tv, enc_st, encS_cons, encS_nil, enc_int, enc_bool, enc_str, enc_bs, enc_bss', enc_ints, Entry.c, List.cons_append, List.nil_append, List.append_assoc]
theorem Entry.ex {v : Tv} (h : TvOk TEntry v) : ∃ x : Entry, v = x.tv := by
  obtain ⟨vs, rfl, h⟩ := h.st
  obtain ⟨v0, _, rfl, h0, h⟩ := h.step
  obtain ⟨v1, _, rfl, h1, h⟩ := h.step
  obtain ⟨v2, _, rfl, h2, h⟩ := h.step
  obtain rfl := h.fin
  obtain ⟨n0, rfl, _⟩ := h0.int
  obtain ⟨n1, rfl, _⟩ := h1.int
  obtain ⟨n2, rfl⟩ := bsT_ex h2
  exact ⟨⟨n0, n1, n2⟩, rfl⟩
theorem Entry.of {x : Entry} (h : TvOk TEntry x.tv) (hw : wt x.tv ≤ 1048576) : x.wf := by
  simp only [Entry.tv, ok_st, okS_cons] at h
  simp only [Entry.tv, wt, wts] at hw
  obtain ⟨h0, h1, h2, _⟩ := h
  exact ⟨i64_of (ok_int.1 h0), i64_of (ok_int.1 h1), bs_of (by omega)⟩
theorem Entry.wf.tok {x : Entry} (h : x.wf) : TvOk TEntry x.tv := by
  simp only [Entry.tv, ok_st, okS_cons]
  obtain ⟨h0, h1, h2⟩ := h
  exact ⟨i64_ok h0, i64_ok h1, sz_bs h2, okS_nil.2 trivial⟩
def ensT (l : List Entry) : Tv := .l (l.map Entry.tv)
theorem enc_ens (l : List Entry) : enc (.sl TEntry) (ensT l) = [.sl (ens l)] := by
  simp only [ensT, enc_sl, List.map_map, ens]
  congr 2
  exact List.map_congr_left fun x _ => Entry.enc x
theorem ensT_ex {v : Tv} (h : TvOk (.sl TEntry) v) : ∃ l, v = ensT l := by
  obtain ⟨xs, rfl, _, h2⟩ := h.sl
  obtain ⟨ys, rfl⟩ := list_ex (f := Entry.tv) (P := TvOk TEntry) (fun v hv => Entry.ex hv) h2
  exact ⟨ys, rfl⟩
theorem ens_of {l : List Entry} (h : TvOk (.sl TEntry) (ensT l)) (hw : wt (ensT l) ≤ 1048576) : Sz l.length ∧ ∀ x ∈ l, x.wf := by
  unfold ensT at h hw
  rw [wt_l] at hw
  have h2 := (ok_sl.1 h).2
  simp only [List.length_map] at hw
  refine ⟨by unfold Sz; omega, fun x hx => Entry.of (h2 _ (List.mem_map_of_mem hx)) ?_⟩
  have := wts_mem (f := Entry.tv) hx
  omega
theorem ens_tok {l : List Entry} (h : Sz l.length ∧ ∀ x ∈ l, x.wf) : TvOk (.sl TEntry) (ensT l) := by
  unfold ensT
  refine ok_sl.2 ⟨by have := h.1; unfold Sz at this; rw [List.length_map, maxLen_eq]; omega, fun v hv => ?_⟩
  obtain ⟨x, hx, rfl⟩ := List.mem_map.1 hv
  exact (h.2 x hx).tok
def Tc.tv (x : Tc) : Tv := .r [.i x.view, ensT x.entries]
theorem Tc.enc (x : Tc) : enc TTc x.tv = x.c := by simp only [Tc.tv, enc_ens, enc_st, encS_cons, encS_nil, enc_int, enc_bool, enc_str, enc_bs, enc_bss', enc_ints, Tc.c, List.cons_append, List.nil_append, List.append_assoc]
theorem Tc.ex {v : Tv} (h : TvOk TTc v) : ∃ x : Tc, v = x.tv := by
  obtain ⟨vs, rfl, h⟩ := h.st
  obtain ⟨v0, _, rfl, h0, h⟩ := h.step
  obtain ⟨v1, _, rfl, h1, h⟩ := h.step
  obtain rfl := h.fin
  obtain ⟨n0, rfl, _⟩ := h0.int
  obtain ⟨n1, rfl⟩ := ensT_ex h1
  exact ⟨⟨n0, n1⟩, rfl⟩
theorem Tc.of {x : Tc} (h : TvOk TTc x.tv) (hw : wt x.tv ≤ 1048576) : x.wf := by
  simp only [Tc.tv, ok_st, okS_cons] at h
  simp only [Tc.tv, wt, wts] at hw
  obtain ⟨h0, h1, _⟩ := h
  exact ⟨i64_of (ok_int.1 h0), ens_of h1 (by omega)⟩
theorem Tc.wf.tok {x : Tc} (h : x.wf) : TvOk TTc x.tv := by
  simp only [Tc.tv, ok_st, okS_cons]
  obtain ⟨h0, h1⟩ := h
  exact ⟨i64_ok h0, ens_tok h1, okS_nil.2 trivial⟩
def ofTcT (t : Tc) : Tv := .r [.i 5, .r [.i 0, .i 0, .l [], .i 0, .l []], .r [.i 0, .i 0, .l [], .l [], .l []], .r [.i 0, .i 0, .i 0, .l [], .l [], .r [.i 0, .i 0, .l [], .l [], .l []]], .r [.r [.i 0, .i 0, .i 0, .l [], .l [], .r [.i 0, .i 0, .l [], .l [], .l []]], .l []], t.tv, .r [.l [], .r [.i 0, .i 0, .l [], .l [], .l []]], .r [.i 0, .i 0, .i 0, .l [], .l []]]
theorem okN (T : Ty) : TvOk (.sl T) (.l []) = True := eq_true (ok_nil T)
theorem ok0 : TvOk (.int .i64) (.i 0) = True := eq_true ok_i0
theorem ofTc_wt (t : Tc) : wt (ofTcT t) = wt t.tv := by simp [ofTcT, wt, wts]
theorem ofTc_rs {t : Tc} (hw : t.wf) : RsE (ofTcE t) [(TMsg, ofTcT t)] := by
  have ht := hw.tok
  refine ⟨rfl, ?_, ?_, trivial⟩
  · simp only [ofTcT, enc_st, encS_cons, encS_nil, Tc.enc, Tc.c, enc_int, enc_nil, List.cons_append, List.nil_append, EEq, D.leaf, and_self]
  · simp only [ofTcT, ok_st, okS_cons, okS_nil, okN, ok0, and_true, true_and]
    exact ⟨i64_ok (by unfold I64; omega), ok_st.1 ht⟩
theorem io_impl_OfTc {h : H} {t : Tc} {ms : List (Bool × List C)} (ha : ArgsRp h [(TTc, t.tv)] ms) (hp : wt t.tv ≤ 1048576) :
    WC cd n_impl_OfTc ms h (Ans h [(TMsg, ofTcT t)]) := by
  have hw := Tc.of (ArgsRp.ok1 ha).1 hp
  have hc := impl_OfTc_ok t hw
  have e : encA [(TTc, t.tv)] = [(true, t.c)] := by simp only [encA, List.map, Tc.enc, Ty.agg]
  rw [← e] at hc
  exact hc.wc ha fun rs q => by rw [q]; exact ofTc_rs hw
theorem io_spec_OfTc {h : H} {t : Tc} {ms : List (Bool × List C)} (ha : ArgsRp h [(TTc, t.tv)] ms) (hp : wt t.tv ≤ 1048576) :
    WC cd n_spec_OfTc ms h (Ans h [(TMsg, ofTcT t)]) := by
  have hw := Tc.of (ArgsRp.ok1 ha).1 hp
  have hc := spec_OfTc_ok t hw
  have e : encA [(TTc, t.tv)] = [(true, t.c)] := by simp only [encA, List.map, Tc.enc, Ty.agg]
  rw [← e] at hc
  exact hc.wc ha fun rs q => by rw [q]; exact ofTc_rs hw
end Go.Eng.F
