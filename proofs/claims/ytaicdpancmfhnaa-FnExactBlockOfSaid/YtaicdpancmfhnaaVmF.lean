/-
  The value machine, part F: what it answers, the machine answers.
-/
import Derived.Test.YtaicdpancmfhnaaVmE
set_option linter.unusedVariables false
set_option linter.unusedSimpArgs false
namespace Go.Eng
def Sim (Γ : Cx) (a : AI) (mf : Fr) (h : H) (f' : UT) (st' : St) : Prop := ∃ mf' h', ai a mf h = some (mf', h') ∧ Rel Γ f' st' mf' h'
section
variable {Γ : Cx} {γ γ' : Gh} {f f' : UT} {st st' : St} {mf mf' : Fr} {h h' : H}
theorem fin_s (hr : RelG Γ γ f st mf h) {a : AI} {d : Nat} {mv : V} {uv : U} (ha : ai a mf h = some (mf.set d mv, h)) (hv : UR Γ γ st h mv uv) : Sim Γ a mf h (UW f d uv) st :=
  ⟨_, _, ha, γ, hr.set hv⟩
theorem fin_n {a : AI} {d : Nat} {mv : V} {uv : U} (hr : RelG Γ γ' f st' mf h') (ha : ai a mf h = some (mf.set d mv, h')) (hv : UR Γ γ' st' h' mv uv) : Sim Γ a mf h (UW f d uv) st' :=
  ⟨_, _, ha, γ', hr.set hv⟩
theorem UR.v1 {c : C} {d : D} (hd : DC Γ γ st h c d) : UR Γ γ st h (.val false [c]) (.val false [d]) := ⟨[c], rfl, hd, trivial⟩
theorem UR.int {k : IntKind} {n : Int} : UR Γ γ st h (.val false [.int k n]) (.val false [.int k n]) := UR.v1 ⟨[], by simp [RD], fun i hi => by simp at hi⟩
theorem UR.bool {b : Bool} : UR Γ γ st h (.val false [.bool b]) (.val false [.bool b]) := UR.v1 ⟨[], by simp [RD], fun i hi => by simp at hi⟩
theorem UR.str {b : ByteArray} : UR Γ γ st h (.val false [.str b]) (.val false [.str b]) := UR.v1 ⟨[], by simp [RD], fun i hi => by simp at hi⟩
theorem sim_mov (hr : RelG Γ γ f st mf h) {d : Nat} {x : X} (hv : vai (.mov d x) f st = some (f', st')) : Sim Γ (.mov d x) mf h f' st' := by
  simp only [vai] at hv
  cases hu : evU f x with
  | any => simp [hu] at hv
  | box ds => simp [hu] at hv
  | lsl ds n e => simp [hu] at hv
  | val g ds =>
    simp [hu] at hv
    obtain ⟨rfl, rfl⟩ := hv
    obtain ⟨⟨cs, h1, h2⟩, _⟩ := evU_ok hr hu (by simp)
    exact fin_s hr (by simp only [ai, h1]) ⟨cs, rfl, h2⟩
  | tup vs =>
    simp [hu] at hv
    obtain ⟨rfl, rfl⟩ := hv
    obtain ⟨⟨ws, h1, h2⟩, _⟩ := evU_ok hr hu (by simp)
    exact fin_s hr (by simp only [ai, h1]) ⟨ws, rfl, h2⟩
  | lref r o =>
    simp [hu] at hv
    obtain ⟨rfl, rfl⟩ := hv
    obtain ⟨h1, _⟩ := evU_ok hr hu (by simp)
    exact fin_s (mv := .lref r o) hr (by simp only [ai, show ev mf x = .lref r o from h1]) rfl
theorem sim_pick (hr : RelG Γ γ f st mf h) {d : Nat} {c a b : X} (hv : vai (.pick d c a b) f st = some (f', st')) : Sim Γ (.pick d c a b) mf h f' st' := by
  simp only [vai] at hv
  split at hv
  · rename_i hc
    split at hv
    · rename_i g ds hu
      simp at hv
      obtain ⟨rfl, rfl⟩ := hv
      obtain ⟨cs, h1, h2⟩ := uvp_ok hr hu
      exact fin_s hr (by simp only [ai, uv1_dC hr hc rfl, h1]) ⟨cs, rfl, h2⟩
    · simp at hv
  · rename_i hc
    split at hv
    · rename_i g ds hu
      simp at hv
      obtain ⟨rfl, rfl⟩ := hv
      obtain ⟨cs, h1, h2⟩ := uvp_ok hr hu
      exact fin_s hr (by simp only [ai, uv1_dC hr hc rfl, h1]) ⟨cs, rfl, h2⟩
    · simp at hv
  · simp at hv
theorem UR.nobox {v : V} {u : U} (hu : UR Γ γ st h v u) (hn : ∀ ds, u ≠ .box ds) : ∀ cs, v ≠ .box cs := by
  cases u with
  | any => exact hu
  | val g ds => obtain ⟨cs, h1, _⟩ := hu; simp [h1]
  | tup vs => obtain ⟨cs, h1, _⟩ := hu; simp [h1]
  | box ds => exact absurd rfl (hn ds)
  | lsl ds n e => obtain ⟨cs, h1, _⟩ := hu; simp [h1]
  | lref r o => have : v = .lref r o := hu; simp [this]
theorem sim_lbox (hr : RelG Γ γ f st mf h) {d : Nat} {x : X} (hv : vai (.lbox d x) f st = some (f', st')) : Sim Γ (.lbox d x) mf h f' st' := by
  simp only [vai] at hv
  split at hv
  · simp at hv
  · rename_i hn
    have hb := (hr.slot d).nobox hn
    split at hv
    · rename_i g ds hu
      simp at hv
      obtain ⟨rfl, rfl⟩ := hv
      obtain ⟨cs, h1, h2⟩ := uvp_ok hr hu
      refine fin_s (mv := .box cs) hr ?_ ⟨cs, rfl, h2⟩
      simp only [ai, h1]
    · simp at hv
theorem sim_lal (hr : RelG Γ γ f st mf h) {d : Nat} {cs : List C} (hv : vai (.lal d cs) f st = some (f', st')) : Sim Γ (.lal d cs) mf h f' st' := by
  simp only [vai] at hv
  split at hv
  · simp at hv
  · rename_i hn
    have hb := (hr.slot d).nobox hn
    split at hv
    · rename_i ds hu
      simp at hv
      obtain ⟨rfl, rfl⟩ := hv
      refine fin_s (mv := .box cs) hr ?_ ⟨cs, rfl, cDs_ok hu⟩
      simp only [ai]
    · simp at hv
theorem newpt (hr : RelG Γ γ f st mf h) {d ty : Nat} {cs : List C} {ds : List D} (ha : All2 (DC Γ γ st h) cs ds) {a : AI} (hai : ai a mf h = some (mf.set d (.val false [.ptr h.length 0]), h ++ [.own ty cs])) :
    Sim Γ a mf h (UW f d (.val false [.pt d st.nx 0])) (st.newp d ty ds) := by
  obtain ⟨q1, q2⟩ := hr.newblk (k := d) (e' := .pt st.nx ty ds) (b := .own ty cs) (c := .ptr h.length 0) (u := []) (h0 := h) rfl rfl (fun _ _ _ => rfl) (fun _ _ _ _ _ _ => rfl) (fun _ _ _ => rfl) ⟨by simp, fun i hi => by simp at hi, fun _ _ _ _ i hi => by simp at hi⟩
    (fun hm => ⟨Nat.lt_succ_self _, by simp, h.length, cs, by simp, by simp, last_own rfl _, ha.imp fun _ _ => DC.mo hm⟩) hr.own (fun _ e => by cases e)
  exact ⟨_, _, hai, _, q1.set (UR.v1 ⟨Nat.lt_succ_self _, fun ty' ds' hl => ⟨h.length, by simp, rfl⟩⟩)⟩
theorem sim_hbox (hr : RelG Γ γ f st mf h) {d ty : Nat} {x : X} (hv : vai (.hbox d ty x) f st = some (f', st')) : Sim Γ (.hbox d ty x) mf h f' st' := by
  simp only [vai] at hv
  split at hv
  · rename_i g ds hu
    simp at hv
    obtain ⟨rfl, rfl⟩ := hv
    obtain ⟨cs, h1, h2⟩ := uvp_ok hr hu
    exact newpt hr h2 (by simp only [ai, h1])
  · simp at hv
theorem sim_hal (hr : RelG Γ γ f st mf h) {d ty : Nat} {cs : List C} (hv : vai (.hal d ty cs) f st = some (f', st')) : Sim Γ (.hal d ty cs) mf h f' st' := by
  simp only [vai] at hv
  split at hv
  · rename_i ds hu
    simp at hv
    obtain ⟨rfl, rfl⟩ := hv
    exact newpt hr (cDs_ok hu) rfl
  · simp at hv
theorem sim_bld (hr : RelG Γ γ f st mf h) {d : Nat} {z : List C} {ps : List (Nat × Nat × X)} (hv : vai (.bld d z ps) f st = some (f', st')) : Sim Γ (.bld d z ps) mf h f' st' := by
  simp only [vai] at hv
  split at hv
  · rename_i z' hz
    split at hv
    · rename_i ds hf
      simp at hv
      obtain ⟨rfl, rfl⟩ := hv
      obtain ⟨cs, h1, h2⟩ := fillD_ok hr hf (cDs_ok hz)
      exact fin_s hr (by simp only [ai, h1]) ⟨cs, rfl, h2⟩
    · simp at hv
  · simp at hv
theorem sim_lsl (hr : RelG Γ γ f st mf h) {d e n : Nat} {z : List C} {ps : List (Nat × Nat × X)} (hv : vai (.lsl d e n z ps) f st = some (f', st')) : Sim Γ (.lsl d e n z ps) mf h f' st' := by
  simp only [vai] at hv
  split at hv
  · rename_i z' hz
    split at hv
    · rename_i ds hf
      simp at hv
      obtain ⟨rfl, rfl⟩ := hv
      obtain ⟨cs, h1, h2⟩ := fillD_ok hr hf (All2.flatten (cDs_ok hz) n)
      exact fin_s hr (by simp only [ai, h1]) ⟨cs, rfl, h2⟩
    · simp at hv
  · simp at hv
/-- A new own slice in a new block. -/
theorem newsl (hr : RelG Γ γ f st mf h) {k ty ez : Nat} {b : Bool} {xs : List (List D)} {bs : List C} {S u : List Nat} {h0 : H} (hl0 : h0.length = h.length)
    (hc0 : ∀ i, i < h.length → PR Γ γ st i → h0.cells i = h.cells i)
    (ho0 : ∀ k' e, k' ≠ k → lk k' st.es = some e → ∀ i ∈ γ.w k', h0[i]? = h[i]?)
    (hb0 : ∀ i, i < Γ.hb.length → i ∉ Γ.bs → h0[i]? = h[i]?)
    (hr0 : ∀ i cs, Mine Γ i → h0[i]? ≠ some (.ro cs)) (hx : RDss h xs ez bs S) (hS : ∀ i ∈ S, PR Γ γ st i) (hu : u = if b = true then S else [])
    (hf : b = true → S.Nodup ∧ (∀ i ∈ S, Mine Γ i) ∧ ∀ k' e, k' ≠ k → lk k' st.es = some e → ∀ i ∈ S, i ∉ γ.w k' ++ γ.u k') :
    RelG Γ (γ.up k (.sl h.length 0 xs.length ez) [h.length] u) f (st.news k true b (some (ty, ez)) xs) mf (h0 ++ [.own ty bs]) := by
  refine (hr.newblk (k := k) (e' := .sl st.nx true b (some (ty, ez)) xs) (b := .own ty bs) (c := .sl h.length 0 xs.length ez) (u := u) (h0 := h0) rfl hl0 hc0 ho0 hb0 ⟨?_, fun i hi => ?_, fun k' e hne hl i hi => ?_⟩
    (fun hm => ⟨Nat.lt_succ_self _, .inr ⟨h.length, ty, ez, bs, S, rfl, by simp, by simp, last_own hl0 _, hx.len, RDss.frame xs hx fun i hi => (hm.cell i (RDss.lt xs hx i hi) (hS i hi)).1, fun i hi => (hm.cell i (RDss.lt xs hx i hi) (hS i hi)).2, by simp [hu]⟩⟩) hr0 (fun _ e => by cases e)).1
  · rw [hu]; split
    · rename_i hb; exact (hf hb).1
    · simp
  · rw [hu] at hi
    split at hi
    · rename_i hb; exact ⟨(hf hb).2.1 i hi, RDss.lt xs hx i hi⟩
    · simp at hi
  · rw [hu] at hi
    split at hi
    · rename_i hb; exact (hf hb).2.2 k' e hne hl i hi
    · simp at hi
theorem Free.ne {S : List Nat} (hf : Free Γ γ st S) (k : Nat) : S.Nodup ∧ (∀ i ∈ S, Mine Γ i) ∧ ∀ k' e, k' ≠ k → lk k' st.es = some e → ∀ i ∈ S, i ∉ γ.w k' ++ γ.u k' := ⟨hf.1, hf.2.1, fun k' e _ hl => hf.2.2 k' e hl⟩
/-- A new own slice without a block. -/
theorem newno (hr : RelG Γ γ f st mf h) {k : Nat} {b : Bool} {t : Option (Nat × Nat)} {c : C} (hc : c = .nils ∨ c = .emp) : RelG Γ (γ.up k c [] []) f (st.news k true b t []) mf h :=
  (hr.upd (k := k) (nx' := st.nx + 1) (e' := .sl st.nx true b t []) (c := c) (w := []) (u := []) (h' := h) (Nat.le_succ _) (.inl (Nat.le_refl _)) (fun _ _ _ => rfl) (fun i hi => by simp at hi) (fun _ _ _ _ _ _ => rfl) ⟨by simp, fun i hi => by simp at hi⟩ (fun _ _ _ _ i hi => by simp at hi) (Nat.le_refl _) (fun _ _ _ => rfl)
    (fun hm => ⟨Nat.lt_succ_self _, .inl ⟨rfl, by simp, by simp, by simpa using hc⟩⟩) hr.own).1
theorem sim_bse (hr : RelG Γ γ f st mf h) {d : Nat} (hv : vai (.bse d) f st = some (f', st')) : Sim Γ (.bse d) mf h f' st' := by
  simp only [vai, Option.some.injEq, Prod.mk.injEq] at hv
  obtain ⟨rfl, rfl⟩ := hv
  exact ⟨_, _, rfl, _, (newno hr (.inr rfl)).set (UR.v1 (DC.ow_new (Nat.lt_succ_self _)))⟩
theorem sim_bsl (hr : RelG Γ γ f st mf h) {d ty e n : Nat} {z : List C} {ps : List (Nat × Nat × X)} (hv : vai (.bsl d ty e n z ps) f st = some (f', st')) : Sim Γ (.bsl d ty e n z ps) mf h f' st' := by
  simp only [vai] at hv
  split at hv
  · rename_i z' hz
    split at hv
    · rename_i ds hf
      split at hv
      · rename_i ds' st1 b hd
        split at hv
        · rename_i hl
          simp at hv
          obtain ⟨rfl, rfl⟩ := hv
          obtain ⟨cs, h1, h2⟩ := fillD_ok hr hf (All2.flatten (cDs_ok hz) n)
          obtain ⟨γ1, S, k1, k2, k3, k4, k5, _⟩ := dps_ok hr h2 hd
          have hc := chunks_ok k3 hl
          have := newsl k1 (k := d) (ty := ty) (b := b) (h0 := h) rfl (fun _ _ _ => rfl) (fun _ _ _ _ _ _ => rfl) (fun _ _ _ => rfl) k1.own hc k4 rfl (fun hb => (k5 hb).ne d)
          rw [chunks_len] at this
          exact fin_n (mv := .val false [.sl h.length 0 n e]) this (by simp only [ai, h1]) (UR.v1 ⟨Nat.lt_succ_self _, fun _ _ _ _ _ => by simp⟩)
        · simp at hv
      · simp at hv
    · simp at hv
  · simp at hv
theorem sim_mks (hr : RelG Γ γ f st mf h) {d ty e by_ : Nat} {z : List C} {x : X} (hv : vai (.mks d ty e by_ z x) f st = some (f', st')) : Sim Γ (.mks d ty e by_ z x) mf h f' st' := by
  simp only [vai] at hv
  split at hv
  · rename_i n hx
    split at hv
    · rename_i z' hz
      split at hv
      · rename_i hc
        simp at hv
        obtain ⟨rfl, rfl⟩ := hv
        have := newsl hr (k := d) (ty := ty) (b := true) (h0 := h) rfl (fun _ _ _ => rfl) (fun _ _ _ _ _ _ => rfl) (fun _ _ _ => rfl) hr.own (rep_ok (zDs_spec (h := h) hz) hc.2.2 n.toNat) (fun i hi => by simp at hi) rfl (fun _ => Free.nil.ne d)
        rw [List.length_replicate] at this
        exact fin_n (mv := .val false [.sl h.length 0 n.toNat e]) this (by simp only [ai, uv1_dC hr hx rfl]; rw [if_pos ⟨hc.1, hc.2.1⟩]) (UR.v1 ⟨Nat.lt_succ_self _, fun _ _ _ _ _ => by simp⟩)
      · simp at hv
    · simp at hv
  · simp at hv
theorem UR.one {v : V} {d : D} (hu : UR Γ γ st h v (.val false [d])) : ∃ c, v = .val false [c] ∧ DC Γ γ st h c d := by
  obtain ⟨cs, h1, h2⟩ := hu
  match cs, h2 with
  | [c], h2 => exact ⟨c, h1, h2.1⟩
theorem evU_one (hr : RelG Γ γ f st mf h) {x : X} {d : D} (hu : evU f x = .val false [d]) : ∃ c, ev mf x = .val false [c] ∧ DC Γ γ st h c d := UR.one (evU_ok hr hu (by simp)).1
theorem DC.pt_at {c : C} {k v o : Nat} {p : Nat × List D} (hd : DC Γ γ st h c (.pt k v o)) (hs : st.ptr k v = some p) : ∃ id, γ.c k = .ptr id 0 ∧ c = .ptr id o := hd.2 p.1 p.2 (St.ptr_spec hs)
theorem DC.pt_mk {id k v o : Nat} (hv : v < st.nx) (hc : γ.c k = .ptr id 0) : DC Γ γ st h (.ptr id o) (.pt k v o) := ⟨hv, fun _ _ _ => ⟨id, hc, rfl⟩⟩
theorem sim_fad (hr : RelG Γ γ f st mf h) {d off : Nat} {x : X} (hv : vai (.fad d x off) f st = some (f', st')) : Sim Γ (.fad d x off) mf h f' st' := by
  simp only [vai] at hv
  split at hv
  · rename_i r o hu
    simp at hv
    obtain ⟨rfl, rfl⟩ := hv
    have h1 : ev mf x = .lref r o := (evU_ok hr hu (by simp)).1
    exact fin_s (mv := .lref r (o + off)) hr (by simp only [ai, h1]) rfl
  · rename_i k v o hu
    split at hv
    · rename_i p hp
      simp at hv
      obtain ⟨rfl, rfl⟩ := hv
      obtain ⟨c, h1, h2⟩ := evU_one hr hu
      obtain ⟨id, q1, rfl⟩ := h2.pt_at hp
      exact fin_s (mv := .val false [.ptr id (o + off)]) hr (by simp only [ai, h1]) (UR.v1 (DC.pt_mk h2.1 q1))
    · simp at hv
  · rename_i y o hu
    simp at hv
    obtain ⟨rfl, rfl⟩ := hv
    obtain ⟨c, h1, id, p, bs, S, rfl, h2⟩ := evU_one hr hu
    exact fin_s (mv := .val false [.ptr id (p + o + off)]) hr (by simp only [ai, h1]) (UR.v1 ⟨id, p, bs, S, by rw [Nat.add_assoc], h2⟩)
  · rename_i k v j o hu
    split at hv
    · rename_i q hq
      simp at hv
      obtain ⟨rfl, rfl⟩ := hv
      obtain ⟨c, h1, h2⟩ := evU_one hr hu
      obtain ⟨id, e, k1, rfl, k3⟩ := h2.2 _ _ _ (St.slc_spec hq)
      refine fin_s (mv := .val false [.ptr id (j * e + o + off)]) hr (by simp only [ai, h1]) (UR.v1 ⟨h2.1, fun dp t xs hl => ?_⟩)
      have h9 := St.slc_spec hq
      rw [h9] at hl
      cases hl
      exact ⟨id, e, k1, by rw [Nat.add_assoc], k3⟩
    · simp at hv
  · simp at hv
theorem sim_nch (hr : RelG Γ γ f st mf h) {d : Nat} {x : X} (hv : vai (.nch d x) f st = some (f', st')) : Sim Γ (.nch d x) mf h f' st' := by
  simp only [vai] at hv
  split at hv
  · rename_i r o hu
    simp at hv
    obtain ⟨rfl, rfl⟩ := hv
    have h1 : ev mf x = .lref r o := (evU_ok hr hu (by simp)).1
    exact fin_s (mv := .lref r o) hr (by simp only [ai, h1]) rfl
  · rename_i k v o hu
    split at hv
    · rename_i p hp
      simp at hv
      obtain ⟨rfl, rfl⟩ := hv
      obtain ⟨c, h1, h2⟩ := evU_one hr hu
      obtain ⟨id, q1, rfl⟩ := h2.pt_at hp
      exact fin_s (mv := .val false [.ptr id o]) hr (by simp only [ai, h1]) (UR.v1 h2)
    · simp at hv
  · rename_i y o hu
    simp at hv
    obtain ⟨rfl, rfl⟩ := hv
    obtain ⟨c, h1, id, p, bs, S, rfl, h2⟩ := evU_one hr hu
    exact fin_s (mv := .val false [.ptr id (p + o)]) hr (by simp only [ai, h1]) (UR.v1 ⟨id, p, bs, S, rfl, h2⟩)
  · rename_i k v j o hu
    split at hv
    · rename_i q hq
      simp at hv
      obtain ⟨rfl, rfl⟩ := hv
      obtain ⟨c, h1, h2⟩ := evU_one hr hu
      obtain ⟨id, e, k1, rfl, k3⟩ := h2.2 _ _ _ (St.slc_spec hq)
      exact fin_s (mv := .val false [.ptr id (j * e + o)]) hr (by simp only [ai, h1]) (UR.v1 h2)
    · simp at hv
  · rename_i g hu
    simp at hv
    obtain ⟨rfl, rfl⟩ := hv
    obtain ⟨c, h1, h2⟩ := evU_one hr hu
    have := h2.dC (c' := .fn g) rfl
    subst this
    exact fin_s (mv := .val false [.fn g]) hr (by simp only [ai, h1]) (UR.v1 h2)
  · simp at hv
theorem sim_iad (hr : RelG Γ γ f st mf h) {d e : Nat} {x i : X} (hv : vai (.iad d x i e) f st = some (f', st')) : Sim Γ (.iad d x i e) mf h f' st' := by
  simp only [vai] at hv
  split at hv
  · rename_i dx k j hx hi
    obtain ⟨c, c1, c2⟩ := uv1_ok hr hx
    have c3 := uv1_dC hr hi (c := .int k j) rfl
    have pure : ∀ (xs : List (List D)) (S : List Nat) (y : List D), RD h (.sl xs) c S → (∀ i ∈ S, PR Γ γ st i) → xs[j.toNat]? = some y → y.length = e → 0 ≤ j → Sim Γ (.iad d x i e) mf h (UW f d (.val false [.pe y 0])) st := by
      intro xs S y hS hp hy hl hj
      have hlt := (List.getElem?_eq_some_iff.1 hy).1
      simp only [RD] at hS
      rcases hS with ⟨rfl, _⟩ | ⟨id, off, e', bs, S', rfl, h2, h3, rfl, h5⟩
      · simp at hy
      · have he : e' = e := by rw [← hl]; exact (h5.wid y (List.mem_of_getElem? hy)).symm
        subst he
        obtain ⟨S1, Sj, S2, q1, q2, q3, q4⟩ := h5.at hy
        have hle : (j.toNat + 1) * e' ≤ xs.length * e' := Nat.mul_le_mul_right _ hlt
        rw [Nat.add_mul, Nat.one_mul] at hle
        refine fin_s (mv := .val false [.ptr id (off + j.toNat * e')]) hr ?_ (UR.v1 ⟨id, off + j.toNat * e', bs, Sj, by simp, h2, by omega, ?_, hp id (by simp), fun i hi => hp i (by simp [q1, hi])⟩)
        · simp only [ai, c1, c3, atC]
          rw [if_pos ⟨trivial, hj, by omega⟩]
        · rw [hl, ← part_part hlt]
          exact q3
    split at hv
    · rename_i hj
      split at hv
      · rename_i xs
        split at hv
        · rename_i y hy
          split at hv
          · rename_i hl
            simp at hv
            obtain ⟨rfl, rfl⟩ := hv
            obtain ⟨S, s1, s2⟩ := c2
            exact pure xs S y s1 s2 hy hl hj
          · simp at hv
        · simp at hv
      · rename_i k' v
        split at hv
        · rename_i o dp t xs hs
          split at hv
          · rename_i y hy
            split at hv
            · rename_i hl
              simp at hv
              obtain ⟨rfl, rfl⟩ := hv
              have hlk := St.slc_spec hs
              have hc := c2.ow_cur hlk
              cases o with
              | false =>
                obtain ⟨_, _, _, S, s1, s2⟩ := hr.en _ _ hlk
                rw [← hc] at s1
                exact pure xs S y s1 s2 hy hl hj
              | true =>
                have hlt := (List.getElem?_eq_some_iff.1 hy).1
                obtain ⟨_, he⟩ := hr.en _ _ hlk
                rcases he with ⟨rfl, _⟩ | ⟨id, ty, ez, bs, S, k1, k2, k3, k4, k5, k6, k7, k8⟩
                · simp at hy
                · have he : ez = e := by rw [← hl]; exact (k6.wid y (List.mem_of_getElem? hy)).symm
                  subst he
                  rw [k2] at hc
                  subst hc
                  refine fin_s (mv := .val false [.ptr id (0 + j.toNat * ez)]) hr ?_ (UR.v1 ⟨c2.1, fun dp' t' xs' hl' => ?_⟩)
                  · simp only [ai, c1, c3, atC]
                    rw [if_pos ⟨trivial, hj, by omega⟩]
                  · rw [hlk] at hl'
                    cases hl'
                    exact ⟨id, ez, k2, by simp, hlt⟩
            · simp at hv
          · simp at hv
        · simp at hv
      · rename_i k' v o n e'
        split at hv
        · rename_i p hp
          split at hv
          · rename_i hc
            simp at hv
            obtain ⟨rfl, rfl⟩ := hv
            obtain ⟨rfl, hjn⟩ := hc
            obtain ⟨id, q1, rfl⟩ := c2.2 p.1 p.2 (St.ptr_spec hp)
            refine fin_s (mv := .val false [.ptr id (o + j.toNat * e')]) hr ?_ (UR.v1 (DC.pt_mk c2.1 q1))
            simp only [ai, c1, c3, atC]
            rw [if_pos ⟨trivial, hj, hjn⟩]
          · simp at hv
        · simp at hv
      · simp at hv
    · simp at hv
  · simp at hv
theorem sim_iaa (hr : RelG Γ γ f st mf h) {d e n : Nat} {x i : X} (hv : vai (.iaa d x i e n) f st = some (f', st')) : Sim Γ (.iaa d x i e n) mf h f' st' := by
  simp only [vai] at hv
  split at hv
  · rename_i k j hi
    have c3 := uv1_dC hr hi (c := .int k j) rfl
    split at hv
    · rename_i hj
      split at hv
      · rename_i r o hu
        simp at hv
        obtain ⟨rfl, rfl⟩ := hv
        have h1 : ev mf x = .lref r o := (evU_ok hr hu (by simp)).1
        exact fin_s (mv := .lref r (o + j.toNat * e)) hr (by simp only [ai, c3, if_pos hj, h1]) rfl
      · rename_i k v o hu
        split at hv
        · rename_i p hp
          simp at hv
          obtain ⟨rfl, rfl⟩ := hv
          obtain ⟨c, h1, h2⟩ := evU_one hr hu
          obtain ⟨id, q1, rfl⟩ := h2.pt_at hp
          exact fin_s (mv := .val false [.ptr id (o + j.toNat * e)]) hr (by simp only [ai, c3, if_pos hj, h1]) (UR.v1 (DC.pt_mk h2.1 q1))
        · simp at hv
      · simp at hv
    · simp at hv
  · simp at hv
theorem sim_ldl (hr : RelG Γ γ f st mf h) {d r n : Nat} {g : Bool} {x : X} (hv : vai (.ldl d r x n g) f st = some (f', st')) : Sim Γ (.ldl d r x n g) mf h f' st' := by
  simp only [vai] at hv
  split at hv
  · rename_i r' o hu
    have h1 : ev mf x = .lref r' o := (evU_ok hr hu (by simp)).1
    split at hv
    · rename_i ds hb
      split at hv
      · rename_i hc
        simp at hv
        obtain ⟨rfl, rfl⟩ := hv
        have hs := hr.slot r
        rw [hb] at hs
        obtain ⟨cs, h2, h3⟩ := hs
        have hl := h3.length
        exact fin_s hr (by simp only [ai, h1, h2]; rw [if_pos ⟨hc.1, by omega⟩]) ⟨_, rfl, (h3.drop o).take n⟩
      · simp at hv
    · simp at hv
  · simp at hv
theorem sim_stl (hr : RelG Γ γ f st mf h) {r n : Nat} {x v : X} (hv : vai (.stl r x v n) f st = some (f', st')) : Sim Γ (.stl r x v n) mf h f' st' := by
  simp only [vai] at hv
  split at hv
  · rename_i r' o g vs hu hvs
    have h1 : ev mf x = .lref r' o := (evU_ok hr hu (by simp)).1
    obtain ⟨ws, w1, w2⟩ := uvp_ok hr hvs
    split at hv
    · rename_i ds hb
      split at hv
      · rename_i hc
        simp at hv
        obtain ⟨rfl, rfl⟩ := hv
        have hs := hr.slot r
        rw [hb] at hs
        obtain ⟨cs, h2, h3⟩ := hs
        have hl := h3.length
        have hwl := w2.length
        exact fin_s hr (by simp only [ai, h1, w1, h2]; rw [if_pos ⟨hc.1, by omega, by omega⟩]) ⟨_, rfl, All2.setL o h3 w2⟩
      · simp at hv
    · simp at hv
  · simp at hv
theorem RDs.all {x : List D} {cs : List C} {S : List Nat} (hr : RDs h x cs S) (hp : ∀ i ∈ S, PR Γ γ st i) : All2 (DC Γ γ st h) cs x := by
  induction x generalizing cs S with
  | nil => simp only [RDs] at hr; rw [hr.1]; trivial
  | cons d ds ih =>
    simp only [RDs] at hr
    obtain ⟨c, cr, S1, S2, rfl, rfl, h3, h4⟩ := hr
    refine ⟨?_, ih h4 fun i hi => hp i (by simp [hi])⟩
    have : ∃ S, RD h d c S ∧ ∀ i ∈ S, PR Γ γ st i := ⟨S1, h3, fun i hi => hp i (by simp [hi])⟩
    cases d <;> first | exact this | (simp only [RD] at h3)
theorem sim_ldh (hr : RelG Γ γ f st mf h) {d n : Nat} {g : Bool} {x : X} (hv : vai (.ldh d x n g) f st = some (f', st')) : Sim Γ (.ldh d x n g) mf h f' st' := by
  simp only [vai] at hv
  split at hv
  · rename_i k v o hx
    obtain ⟨c, c1, c2⟩ := uv1_ok hr hx
    split at hv
    · rename_i ty ds hp
      split at hv
      · rename_i hc
        simp at hv
        obtain ⟨rfl, rfl⟩ := hv
        obtain ⟨id, q1, rfl⟩ := c2.pt_at hp
        obtain ⟨_, _, id', bs, k2, k3, k4, k5⟩ := hr.en _ _ (St.ptr_spec hp)
        rw [q1] at k2
        cases k2
        have hl := k5.length
        exact fin_s hr (by simp only [ai, c1, cells_own k4]; rw [if_pos (by omega)]) ⟨_, rfl, (k5.drop o).take n⟩
      · simp at hv
    · simp at hv
  · rename_i y o hx
    obtain ⟨c, c1, id, p, bs, S, rfl, h2, h3, h4, h5, h6⟩ := uv1_ok hr hx
    split at hv
    · rename_i hc
      simp at hv
      obtain ⟨rfl, rfl⟩ := hv
      have h7 := ((h4.all h6).drop o).take n
      have e1 : (((bs.drop p).take y.length).drop o).take n = (bs.drop (p + o)).take n := by
        rw [List.drop_take, List.take_take, List.drop_drop]
        congr 1
        omega
      rw [e1] at h7
      exact fin_s hr (by simp only [ai, c1, h2]; rw [if_pos (by omega)]) ⟨_, rfl, h7⟩
    · simp at hv
  · rename_i k v j o hx
    obtain ⟨c, c1, c2⟩ := uv1_ok hr hx
    split at hv
    · rename_i dp t xs hs
      split at hv
      · rename_i y hy
        split at hv
        · rename_i hc
          simp at hv
          obtain ⟨rfl, rfl⟩ := hv
          have hlk := St.slc_spec hs
          obtain ⟨id, e, q1, rfl, q3⟩ := c2.2 _ _ _ hlk
          obtain ⟨_, he⟩ := hr.en _ _ hlk
          rcases he with ⟨rfl, _⟩ | ⟨id', ty, ez, bs, S, k1, k2, k3, k4, k5, k6, k7, k8⟩
          · simp at hy
          · rw [q1] at k2
            cases k2
            obtain ⟨S1, Sj, S2, r1, r2, r3, r4⟩ := k6.at hy
            have hyl : y.length = e := k6.wid y (List.mem_of_getElem? hy)
            have hle : (j + 1) * e ≤ xs.length * e := Nat.mul_le_mul_right _ q3
            rw [Nat.add_mul, Nat.one_mul] at hle
            have h7 := ((r3.all (Γ := Γ) (γ := γ) (st := st) fun i hi => k7 i (by simp [r1, hi])).drop o).take n
            have e1 : ((((bs.drop (j * e)).take e)).drop o).take n = (bs.drop (j * e + o)).take n := by
              rw [List.drop_take, List.take_take, List.drop_drop]
              congr 1
              omega
            rw [e1] at h7
            exact fin_s hr (by simp only [ai, c1, cells_own k4]; rw [if_pos (by omega)]) ⟨_, rfl, h7⟩
        · simp at hv
      · simp at hv
    · simp at hv
  · simp at hv
end
end Go.Eng
