/-
  The value machine, part Q: values of the program's types as Lean data.
-/
import Derived.Test.YtaicdpancmfhnaaVmP
import Derived.Test.YtaicdpancmfhnaaEngT
set_option linter.unusedVariables false
set_option linter.unusedSimpArgs false
namespace Go.Eng
theorem Rp.bool {h : H} {cs : List C} {v : Tv} {S : List Nat} (hr : Rp h .bool cs v S) : ∃ b, cs = [.bool b] ∧ v = .b b ∧ S = [] := by unfold Rp at hr; exact hr
theorem Rp.str {h : H} {cs : List C} {v : Tv} {S : List Nat} (hr : Rp h .str cs v S) : ∃ s, cs = [.str s] ∧ v = .s s ∧ S = [] ∧ s.size ≤ maxLen := by unfold Rp at hr; exact hr
theorem TvOk.int {k : IntKind} {v : Tv} (h : TvOk (.int k) v) : ∃ n, v = .i n ∧ k.min ≤ n ∧ n ≤ k.max := by cases v <;> simp only [TvOk] at h; exact ⟨_, rfl, h⟩
theorem TvOk.bool {v : Tv} (h : TvOk .bool v) : ∃ b, v = .b b := by cases v <;> simp only [TvOk] at h; exact ⟨_, rfl⟩
theorem TvOk.str {v : Tv} (h : TvOk .str v) : ∃ s, v = .s s ∧ s.size ≤ maxLen := by cases v <;> simp only [TvOk] at h; exact ⟨_, rfl, h⟩
theorem TvOk.sl {t : Ty} {v : Tv} (h : TvOk (.sl t) v) : ∃ xs, v = .l xs ∧ xs.length ≤ maxLen ∧ ∀ x ∈ xs, TvOk t x := by cases v <;> simp only [TvOk] at h; exact ⟨_, rfl, h⟩
theorem TvOk.st {ts : List Ty} {v : Tv} (h : TvOk (.st ts) v) : ∃ vs, v = .r vs ∧ TvOkS ts vs := by cases v <;> simp only [TvOk] at h; exact ⟨_, rfl, h⟩
theorem TvOkS.step {t : Ty} {ts : List Ty} {vs : List Tv} (h : TvOkS (t :: ts) vs) : ∃ v vr, vs = v :: vr ∧ TvOk t v ∧ TvOkS ts vr := by cases vs <;> simp only [TvOkS] at h; exact ⟨_, _, rfl, h⟩
theorem TvOkS.fin {vs : List Tv} (h : TvOkS [] vs) : vs = [] := by cases vs <;> simp only [TvOkS] at h; rfl
theorem list_ex {α : Type} {f : α → Tv} {P : Tv → Prop} (hf : ∀ v, P v → ∃ x, v = f x) : ∀ {xs : List Tv}, (∀ x ∈ xs, P x) → ∃ ys : List α, xs = ys.map f
  | [], _ => ⟨[], rfl⟩
  | x :: xs, h => by
    obtain ⟨y, rfl⟩ := hf x (h _ (by simp))
    obtain ⟨ys, rfl⟩ := list_ex hf (xs := xs) fun x hx => h x (by simp [hx])
    exact ⟨y :: ys, rfl⟩
def u8t (b : UInt8) : Tv := .i (b.toNat : Int)
def bsT (x : Bytes) : Tv := .l (x.map u8t)
def bssT (l : List Bytes) : Tv := .l (l.map bsT)
def itT (n : Int) : Tv := .i n
def intsT (l : List Int) : Tv := .l (l.map itT)
theorem u8t_ex {v : Tv} (h : TvOk (.int .u8) v) : ∃ b, v = u8t b := by
  obtain ⟨n, rfl, h1, h2⟩ := h.int
  have h1 : 0 ≤ n := h1
  have h2 : n ≤ 255 := h2
  refine ⟨UInt8.ofNat n.toNat, ?_⟩
  simp only [u8t, UInt8.toNat_ofNat', Nat.reducePow]
  congr 1
  omega
theorem bsT_ex {v : Tv} (h : TvOk (.sl (.int .u8)) v) : ∃ x, v = bsT x := by
  obtain ⟨xs, rfl, _, h2⟩ := h.sl
  obtain ⟨ys, rfl⟩ := list_ex (f := u8t) (P := TvOk (.int .u8)) (fun v hv => u8t_ex hv) h2
  exact ⟨ys, rfl⟩
theorem bssT_ex {v : Tv} (h : TvOk (.sl (.sl (.int .u8))) v) : ∃ x, v = bssT x := by
  obtain ⟨xs, rfl, _, h2⟩ := h.sl
  obtain ⟨ys, rfl⟩ := list_ex (f := bsT) (P := TvOk (.sl (.int .u8))) (fun v hv => bsT_ex hv) h2
  exact ⟨ys, rfl⟩
theorem enc_bs (x : Bytes) : enc (.sl (.int .u8)) (bsT x) = [.sl (bytes x)] := by
  simp only [bsT, enc, List.map_map, bytes]
  congr 2
theorem enc_bss (l : List Bytes) : enc (.sl (.sl (.int .u8))) (bssT l) = [.sl (l.map fun x => [.sl (bytes x)])] := by
  simp only [bssT, enc, List.map_map]
  congr 2
  apply List.map_congr_left
  intro x _
  exact enc_bs x
theorem wt_bs (x : Bytes) : wt (bsT x) = x.length := by
  have : ∀ x : Bytes, wts (x.map u8t) = 0 := by
    intro x
    induction x with
    | nil => rfl
    | cons b x ih => simp [wts, wt, u8t, ih]
  simp [bsT, wt, this]
theorem wts_mem {α : Type} {f : α → Tv} {x : α} : ∀ {l : List α}, x ∈ l → wt (f x) ≤ wts (l.map f)
  | [], h => by cases h
  | y :: l, h => by
    simp only [List.map_cons, wts]
    rcases List.mem_cons.1 h with rfl | h
    · omega
    · have := wts_mem (f := f) h; omega
theorem wt_l (xs : List Tv) : wt (.l xs) = xs.length + wts xs := by simp [wt]
theorem wt_bss (l : List Bytes) : l.length ≤ wt (bssT l) ∧ ∀ x ∈ l, x.length ≤ wt (bssT l) := by
  unfold bssT
  rw [wt_l]
  refine ⟨by simp, fun x hx => ?_⟩
  have := wts_mem (f := bsT) hx
  rw [wt_bs] at this
  omega
theorem ok_bs {x : Bytes} (h : x.length ≤ maxLen) : TvOk (.sl (.int .u8)) (bsT x) := by
  simp only [bsT, TvOk]
  refine ⟨by simpa using h, fun v hv => ?_⟩
  obtain ⟨b, _, rfl⟩ := List.mem_map.1 hv
  have hb := b.toNat_lt
  have h0 : IntKind.u8.min = 0 := rfl
  have h1 : IntKind.u8.max = 255 := rfl
  simp only [u8t, TvOk]
  exact ⟨by omega, by omega⟩
theorem ok_bss {l : List Bytes} (h : l.length ≤ maxLen) (h2 : ∀ x ∈ l, x.length ≤ maxLen) : TvOk (.sl (.sl (.int .u8))) (bssT l) := by
  simp only [bssT, TvOk]
  refine ⟨by simpa using h, fun v hv => ?_⟩
  obtain ⟨b, hb, rfl⟩ := List.mem_map.1 hv
  exact ok_bs (h2 b hb)
mutual
/-- No memory behind it. -/
def Ty.fl : Ty → Bool
  | .sl _ => false
  | .st ts => Ty.fls ts
  | _ => true
def Ty.fls : List Ty → Bool
  | [] => true
  | t :: ts => t.fl && Ty.fls ts
end
/-- The rule of the loop, behind a change of what is known. -/
theorem VX_loop4 {cd : Nat → Option AF} {pd : List (Nat × Nat)} {R : List RV} {Q : List (Bool × List E) → List E → Prop} {k : List VK} {f : UT} {st : St} {ds : List Nat} {b : AC} {σ : Type} (f0 : UT) (hf : forgetU f ds = f0) {f2 : UT} {st2 : St} (hw : Weak f0 st f2 st2) (f1 : UT) (es0 : List (Nat × En)) (h2 : f2 = f1) (he : cln st2.es = es0)
    (upd : σ → List (Nat × U)) (ue : σ → List (Nat × En)) (J : σ → Nat → Prop) (s0 : σ) (g0 : Nat) (hu : f1 = setAllU f1 (upd s0)) (hs : subS st2 (ovr es0 (ue s0))) (h0 : J s0 g0)
    (round : ∀ s n g, J s g → VX cd pd R Q (.c b :: .stop (fun f' st' => ∃ s' g', g' < g ∧ J s' g' ∧ forgetU f' ds = setAllU f1 (upd s') ∧ subS st' (ovr es0 (ue s'))) :: k) (setAllU f1 (upd s)) ⟨n, ovr es0 (ue s)⟩) :
    VX cd pd R Q (.c (.loop ds b) :: k) f st := by
  refine VX_loop (σ := σ × Nat) (fun p => setAllU f1 (upd p.1)) (fun p => ⟨p.2, ovr es0 (ue p.1)⟩) (fun p g => J p.1 g) (s0, st2.nx) g0 h0 (by rw [hf]; exact hw.trans (Weak.of_eq (by rw [h2]; exact hu) (Nat.le_refl _) hs)) (fun p g hJ => ?_)
  exact (round p.1 p.2 g hJ).le (.c (.stop (fun f' st' ⟨s', g', h1, h2, h3, h4⟩ => ⟨(s', st'.nx), g', h1, h2, Weak.of_eq h3 (Nat.le_refl _) h4⟩) (KLe.refl k)))
end Go.Eng
