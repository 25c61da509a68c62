/-
  The structs as values of the program's types; Commits at those types.
-/
import Derived.Test.YtaicdpancmfhnaaFnD
import Derived.Test.YtaicdpancmfhnaaVmQ
import Derived.Test.YtaicdpancmfhnaaLgT
set_option maxRecDepth 100000
set_option linter.unusedSimpArgs false
set_option linter.unusedVariables false
namespace Go.Eng.F
open Go.Eng.U (TQc THead TLimits TProof)
theorem i64_of {n : Int} (h : IntKind.i64.min ≤ n ∧ n ≤ IntKind.i64.max) : I64 n := by
  have h1 : IntKind.i64.min = -9223372036854775808 := rfl
  have h2 : IntKind.i64.max = 9223372036854775807 := rfl
  unfold I64
  omega
theorem i64_ok {n : Int} (h : I64 n) : TvOk (.int .i64) (.i n) := by
  have h1 : IntKind.i64.min = -9223372036854775808 := rfl
  have h2 : IntKind.i64.max = 9223372036854775807 := rfl
  unfold I64 at h
  simp only [TvOk]
  omega
theorem maxLen_eq : maxLen = 9223372036854775807 := rfl
theorem enc_bss' (l : List Bytes) : enc (.sl (.sl (.int .u8))) (bssT l) = [.sl (bss l)] := enc_bss l
theorem enc_int (k : IntKind) (n : Int) : enc (.int k) (.i n) = [.int k n] := rfl
theorem enc_bool (b : Bool) : enc .bool (.b b) = [.bool b] := rfl
theorem enc_st (ts : List Ty) (vs : List Tv) : enc (.st ts) (.r vs) = encS ts vs := rfl
theorem encS_cons (t : Ty) (ts : List Ty) (v : Tv) (vs : List Tv) : encS (t :: ts) (v :: vs) = enc t v ++ encS ts vs := rfl
theorem encS_nil : encS [] [] = [] := rfl
theorem enc_sl (t : Ty) (xs : List Tv) : enc (.sl t) (.l xs) = [.sl (xs.map (enc t))] := rfl
theorem okS_cons {t : Ty} {ts : List Ty} {v : Tv} {vs : List Tv} : TvOkS (t :: ts) (v :: vs) ↔ TvOk t v ∧ TvOkS ts vs := by simp only [TvOkS]
theorem okS_nil : TvOkS [] [] ↔ True := by simp only [TvOkS]
theorem ok_st {ts : List Ty} {vs : List Tv} : TvOk (.st ts) (.r vs) ↔ TvOkS ts vs := by simp only [TvOk]
theorem ok_int {k : IntKind} {n : Int} : TvOk (.int k) (.i n) ↔ k.min ≤ n ∧ n ≤ k.max := by simp only [TvOk]
theorem ok_sl {t : Ty} {xs : List Tv} : TvOk (.sl t) (.l xs) ↔ xs.length ≤ maxLen ∧ ∀ x ∈ xs, TvOk t x := by simp only [TvOk]
theorem bs_of {x : Bytes} (h : wt (bsT x) ≤ 1048576) : Sz x.length := by rw [wt_bs] at h; unfold Sz; omega
theorem bss_of {l : List Bytes} (h : wt (bssT l) ≤ 1048576) : Sz l.length ∧ ∀ x ∈ l, Sz x.length := by
  obtain ⟨h1, h2⟩ := wt_bss l
  unfold Sz
  exact ⟨by omega, fun x hx => by have := h2 x hx; omega⟩
theorem sz_bs {x : Bytes} (h : Sz x.length) : TvOk (.sl (.int .u8)) (bsT x) := ok_bs (by unfold Sz at h; rw [maxLen_eq]; omega)
theorem sz_bss {l : List Bytes} (h : Sz l.length) (h2 : ∀ x ∈ l, Sz x.length) : TvOk (.sl (.sl (.int .u8))) (bssT l) := ok_bss (by unfold Sz at h; rw [maxLen_eq]; omega) fun x hx => by have := h2 x hx; unfold Sz at this; rw [maxLen_eq]; omega
theorem ok_nil (T : Ty) : TvOk (.sl T) (.l []) := by simp [TvOk, maxLen]
theorem enc_nil (T : Ty) : enc (.sl T) (.l []) = [.sl []] := by simp [enc]
theorem ok_i0 : TvOk (.int .i64) (.i 0) := i64_ok (by unfold I64; omega)
theorem okN (T : Ty) : TvOk (.sl T) (.l []) = True := eq_true (ok_nil T)
theorem ok0 : TvOk (.int .i64) (.i 0) = True := eq_true ok_i0
theorem enc_ints (l : List Int) : enc (.sl (.int .i64)) (intsT l) = [.sl (l.map fun n => [.int .i64 n])] := by
  simp only [intsT, enc_sl, List.map_map]
  congr 2
theorem enc_str (s : ByteArray) : enc .str (.s s) = [.str s] := rfl
/-! ### Limits -/
def Lim.tv (l : Lim) : Tv := .r [.i l.n, .i l.tx, .i l.txs, .i l.frame, .i l.heads]
theorem Lim.enc (l : Lim) : enc TLimits l.tv = l.c := rfl
theorem Lim.ex {v : Tv} (h : TvOk TLimits v) : ∃ l : Lim, v = l.tv := by
  obtain ⟨vs, rfl, h⟩ := h.st
  obtain ⟨v0, _, rfl, h0, h⟩ := h.step
  obtain ⟨v1, _, rfl, h1, h⟩ := h.step
  obtain ⟨v2, _, rfl, h2, h⟩ := h.step
  obtain ⟨v3, _, rfl, h3, h⟩ := h.step
  obtain ⟨v4, _, rfl, h4, h⟩ := h.step
  obtain rfl := h.fin
  obtain ⟨n0, rfl, _⟩ := h0.int
  obtain ⟨n1, rfl, _⟩ := h1.int
  obtain ⟨n2, rfl, _⟩ := h2.int
  obtain ⟨n3, rfl, _⟩ := h3.int
  obtain ⟨n4, rfl, _⟩ := h4.int
  exact ⟨⟨n0, n1, n2, n3, n4⟩, rfl⟩
/-! ### Certificates -/
def Qc.tv (q : Qc) : Tv := .r [.i q.view, .i q.height, bsT q.block, bsT q.bits, bssT q.tags]
theorem Qc.enc (q : Qc) : enc TQc q.tv = q.c := by simp only [Qc.tv, enc_st, encS_cons, encS_nil, enc_int, enc_bs, enc_bss', Qc.c, List.cons_append, List.nil_append]
theorem Qc.ex {v : Tv} (h : TvOk TQc v) : ∃ q : Qc, v = q.tv := by
  obtain ⟨vs, rfl, h⟩ := h.st
  obtain ⟨v0, _, rfl, h0, h⟩ := h.step
  obtain ⟨v1, _, rfl, h1, h⟩ := h.step
  obtain ⟨v2, _, rfl, h2, h⟩ := h.step
  obtain ⟨v3, _, rfl, h3, h⟩ := h.step
  obtain ⟨v4, _, rfl, h4, h⟩ := h.step
  obtain rfl := h.fin
  obtain ⟨n0, rfl, _⟩ := h0.int
  obtain ⟨n1, rfl, _⟩ := h1.int
  obtain ⟨n2, rfl⟩ := bsT_ex h2
  obtain ⟨n3, rfl⟩ := bsT_ex h3
  obtain ⟨n4, rfl⟩ := bssT_ex h4
  exact ⟨⟨n0, n1, n2, n3, n4⟩, rfl⟩
theorem Qc.of {q : Qc} (h : TvOk TQc q.tv) (hw : wt q.tv ≤ 1048576) : q.wc := by
  simp only [Qc.tv, ok_st, okS_cons, ok_int] at h
  simp only [Qc.tv, wt, wts] at hw
  obtain ⟨h0, h1, _⟩ := h
  have h4 := bss_of (l := q.tags) (by omega)
  exact ⟨⟨i64_of h0, i64_of h1, bs_of (by omega), bs_of (by omega), h4.1⟩, h4.2⟩
theorem Qc.wc.tok {q : Qc} (h : q.wc) : TvOk TQc q.tv := by
  obtain ⟨⟨h0, h1, h2, h3, h4⟩, h5⟩ := h
  simp only [Qc.tv, ok_st, okS_cons]
  exact ⟨i64_ok h0, i64_ok h1, sz_bs h2, sz_bs h3, sz_bss h4 h5, okS_nil.2 trivial⟩
theorem Qc.rs (q : Qc) : EEq q.o (Go.Eng.enc TQc q.tv) := by
  rw [Qc.enc]
  simp only [Qc.o, Qc.c, EEq, D.leaf, and_self]
/-! ### Headers -/
def Head.tv (h : Head) : Tv := .r [.i h.view, .i h.height, .i h.proposer, bsT h.parent, bsT h.root, h.qc.tv]
theorem Head.enc (h : Head) : enc THead h.tv = h.c := by simp only [Head.tv, Qc.enc, enc_st, encS_cons, encS_nil, enc_int, enc_bs, enc_bss', Head.c, Qc.c, List.cons_append, List.nil_append]
theorem Head.ex {v : Tv} (h : TvOk THead v) : ∃ q : Head, v = q.tv := by
  obtain ⟨vs, rfl, h⟩ := h.st
  obtain ⟨v0, _, rfl, h0, h⟩ := h.step
  obtain ⟨v1, _, rfl, h1, h⟩ := h.step
  obtain ⟨v2, _, rfl, h2, h⟩ := h.step
  obtain ⟨v3, _, rfl, h3, h⟩ := h.step
  obtain ⟨v4, _, rfl, h4, h⟩ := h.step
  obtain ⟨v5, _, rfl, h5, h⟩ := h.step
  obtain rfl := h.fin
  obtain ⟨n0, rfl, _⟩ := h0.int
  obtain ⟨n1, rfl, _⟩ := h1.int
  obtain ⟨n2, rfl, _⟩ := h2.int
  obtain ⟨n3, rfl⟩ := bsT_ex h3
  obtain ⟨n4, rfl⟩ := bsT_ex h4
  obtain ⟨n5, rfl⟩ := Qc.ex h5
  exact ⟨⟨n0, n1, n2, n3, n4, n5⟩, rfl⟩
theorem Head.of {q : Head} (h : TvOk THead q.tv) (hw : wt q.tv ≤ 1048576) : q.wc := by
  simp only [Head.tv, ok_st, okS_cons] at h
  simp only [Head.tv, wt, wts] at hw
  obtain ⟨h0, h1, h2, _, _, h5, _⟩ := h
  have h4 := Qc.of h5 (by omega)
  exact ⟨⟨i64_of (ok_int.1 h0), i64_of (ok_int.1 h1), i64_of (ok_int.1 h2), bs_of (by omega), bs_of (by omega), h4.1⟩, h4.2⟩
theorem Head.wc.tok {q : Head} (h : q.wc) : TvOk THead q.tv := by
  obtain ⟨⟨h0, h1, h2, h3, h4, h5⟩, h6⟩ := h
  simp only [Head.tv, ok_st, okS_cons]
  exact ⟨i64_ok h0, i64_ok h1, i64_ok h2, sz_bs h3, sz_bs h4, Qc.wc.tok ⟨h5, h6⟩, okS_nil.2 trivial⟩
theorem Head.rs (q : Head) : EEq q.o (Go.Eng.enc THead q.tv) := by
  rw [Head.enc]
  simp only [Head.o, Head.c, EEq, D.leaf, and_self]
def hdsT (l : List Head) : Tv := .l (l.map Head.tv)
theorem enc_hds (l : List Head) : enc (.sl THead) (hdsT l) = [.sl (hds l)] := by
  simp only [hdsT, enc_sl, List.map_map, hds]
  congr 2
  exact List.map_congr_left fun x _ => Head.enc x
theorem hdsT_ex {v : Tv} (h : TvOk (.sl THead) v) : ∃ l, v = hdsT l := by
  obtain ⟨xs, rfl, _, h2⟩ := h.sl
  obtain ⟨ys, rfl⟩ := list_ex (f := Head.tv) (P := TvOk THead) (fun v hv => Head.ex hv) h2
  exact ⟨ys, rfl⟩
theorem hds_of {l : List Head} (h : TvOk (.sl THead) (hdsT l)) (hw : wt (hdsT l) ≤ 1048576) : Sz l.length ∧ ∀ x ∈ l, x.wc := by
  unfold hdsT at h hw
  rw [wt_l] at hw
  have h2 := (ok_sl.1 h).2
  simp only [List.length_map] at hw
  refine ⟨by unfold Sz; omega, fun x hx => Head.of (h2 _ (List.mem_map_of_mem hx)) ?_⟩
  have := wts_mem (f := Head.tv) hx
  omega
/-! ### Proofs -/
def Proof.tv (p : Proof) : Tv := .r [hdsT p.heads, p.qc.tv]
theorem Proof.enc (p : Proof) : enc TProof p.tv = p.c := by simp only [Proof.tv, Qc.enc, enc_hds, enc_st, encS_cons, encS_nil, enc_int, Proof.c, Qc.c, List.cons_append, List.nil_append]
theorem Proof.ex {v : Tv} (h : TvOk TProof v) : ∃ q : Proof, v = q.tv := by
  obtain ⟨vs, rfl, h⟩ := h.st
  obtain ⟨v0, _, rfl, h0, h⟩ := h.step
  obtain ⟨v1, _, rfl, h1, h⟩ := h.step
  obtain rfl := h.fin
  obtain ⟨n0, rfl⟩ := hdsT_ex h0
  obtain ⟨n1, rfl⟩ := Qc.ex h1
  exact ⟨⟨n0, n1⟩, rfl⟩
theorem Proof.of {q : Proof} (h : TvOk TProof q.tv) (hw : wt q.tv ≤ 1048576) : q.wf ∧ (∀ h ∈ q.heads, h.wc) ∧ q.qc.wc := by
  simp only [Proof.tv, ok_st, okS_cons] at h
  simp only [Proof.tv, wt, wts] at hw
  obtain ⟨h0, h1, _⟩ := h
  have h4 := Qc.of h1 (by omega)
  have h5 := hds_of h0 (by omega)
  exact ⟨⟨⟨h5.1, fun h hh => (h5.2 h hh).1⟩, h4.1⟩, h5.2, h4⟩
/-! ### Commits -/
theorem _root_.Go.Eng.ArgsRp.ok1 {h : H} {T : Ty} {v : Tv} {al : List (Ty × Tv)} {ms : List (Bool × List C)} (ha : ArgsRp h ((T, v) :: al) ms) : TvOk T v ∧ ∃ mr, ArgsRp h al mr := by
  obtain ⟨cs, mr, rfl, ⟨S, h1⟩, h2⟩ := ha
  exact ⟨h1.ok, mr, h2⟩
/-- What a call answers, at the program's types. -/
def Ans (h : H) (ts : List (Ty × Tv)) (r : V) (h' : H) : Prop := ∃ t css S, h' = h ++ t ∧ r = valR css ∧ ResRp h' ts css S ∧ Ownd h' S ∧ ∀ i ∈ S, h.length ≤ i
end Go.Eng.F
