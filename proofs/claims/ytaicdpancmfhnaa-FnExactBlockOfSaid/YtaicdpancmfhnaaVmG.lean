/-
  The value machine, part G: what writes, what appends; all instructions.
-/
import Derived.Test.YtaicdpancmfhnaaVmF
set_option linter.unusedVariables false
set_option linter.unusedSimpArgs false
namespace Go.Eng
section
variable {Γ : Cx} {γ γ' : Gh} {f f' : UT} {st st' : St} {mf mf' : Fr} {h h' : H}
theorem set_get_self {h : H} {id : Nat} {b : Blk} (hl : id < h.length) : (h.set id b : H)[id]? = some b := by rw [List.getElem?_set]; simp [hl]
theorem set_other {h : H} {id i : Nat} {b : Blk} (hn : i ≠ id) : (h.set id b : H)[i]? = h[i]? := by rw [List.getElem?_set]; simp [Ne.symm hn]
theorem cells_set_ne {h : H} {id i : Nat} {b : Blk} (hn : i ≠ id) : H.cells (h.set id b) i = H.cells h i := cells_same (set_other hn)
/-- An entry's own block is written. -/
theorem RelG.wr (hr : RelG Γ γ f st mf h) {k id ty : Nat} {e e' : En} {bs bs' : List C} (hl : lk k st.es = some e) (hw : γ.w k = [id]) (hg : h[id]? = some (.own ty bs)) (ho : OldOk st k e')
    {u : List Nat} (hu : ∀ i ∈ u, i ∈ γ.u k) (hun : u.Nodup)
    (hk : Mo Γ γ st h (γ.up k (γ.c k) [id] u) ⟨st.nx, (k, e') :: st.es⟩ (h.set id (.own ty bs')) → (h.set id (.own ty bs') : H)[id]? = some (.own ty bs') → ER Γ (γ.up k (γ.c k) [id] u) ⟨st.nx, (k, e') :: st.es⟩ (h.set id (.own ty bs')) k e') :
    RelG Γ (γ.up k (γ.c k) [id] u) f ⟨st.nx, (k, e') :: st.es⟩ mf (h.set id (.own ty bs')) ∧ Mo Γ γ st h (γ.up k (γ.c k) [id] u) ⟨st.nx, (k, e') :: st.es⟩ (h.set id (.own ty bs')) := by
  have hlt : id < h.length := (List.getElem?_eq_some_iff.1 hg).1
  have hn := hr.nd k e hl
  have hmine := hn.2 id (by simp [hw])
  refine hr.upd (Nat.le_refl _) (.inr ⟨rfl, ho⟩) (fun i hi hp => ?_) (fun i hi _ => ?_) (fun k' e1 hne hl' i hi => ?_) ⟨?_, fun i hi => ?_⟩ (fun k' e1 hne hl' i hi => ?_) (by simp) (fun i hi hni => ?_) (fun hm => hk hm (set_get_self hlt)) (own_set hr.own)
  · refine cells_set_ne (fun e1 => ?_)
    subst e1
    exact hp.2 k e hl (by simp [hw])
  · simp at hi; subst hi; exact not_PR_w hl (by simp [hw])
  · refine set_other (fun e2 => ?_)
    subst e2
    exact hr.dj k k' e e1 (fun e => hne e.symm) hl hl' i (by simp [hw]) (by simp [hi])
  · refine List.nodup_append.2 ⟨by simp, hun, fun a ha b hb e1 => ?_⟩
    subst e1
    exact (List.nodup_append.1 hn.1).2.2 a (by rw [hw]; exact ha) a (hu a hb) rfl
  · rcases List.mem_append.1 hi with hi | hi
    · exact hn.2 i (by simp at hi; simp [hw, hi])
    · exact hn.2 i (by simp [hu i hi])
  · refine hr.dj k k' e e1 (fun e => hne e.symm) hl hl' i ?_
    rcases List.mem_append.1 hi with hi | hi
    · simp at hi; simp [hw, hi]
    · simp [hu i hi]
  · refine set_other (fun e2 => ?_)
    subst e2
    rcases hmine with h9 | h9
    · exact hni h9
    · omega
theorem sim_sth (hr : RelG Γ γ f st mf h) {n : Nat} {x v : X} (hv : vai (.sth x v n) f st = some (f', st')) : Sim Γ (.sth x v n) mf h f' st' := by
  simp only [vai] at hv
  split at hv
  · rename_i k w o g vs hx hvs
    obtain ⟨c, c1, c2⟩ := uv1_ok hr hx
    obtain ⟨ws, w1, w2⟩ := uvp_ok hr hvs
    split at hv
    · rename_i ty ds hp
      split at hv
      · rename_i hc
        simp at hv
        obtain ⟨rfl, rfl⟩ := hv
        have hl := St.ptr_spec hp
        obtain ⟨id, q1, rfl⟩ := c2.pt_at hp
        obtain ⟨hver, hu0, id', bs, k2, k3, k4, k5⟩ := hr.en _ _ hl
        rw [q1] at k2
        cases k2
        have hwl := w2.length
        have hbl := k5.length
        obtain ⟨r1, r2⟩ := hr.wr (e' := .pt w ty (Eng.setL ds o vs)) (bs' := Eng.setL bs o ws) (u := []) hl k3 k4 ⟨ty, ds, hl⟩ (fun i hi => by simp at hi) (by simp)
          (fun hm hg => ⟨hver, by simp, id, _, by simpa using q1, by simp, hg, (All2.setL o k5 w2).imp fun _ _ => DC.mo hm⟩)
        exact ⟨_, _, by simp only [ai, c1, w1, k4]; rw [if_pos ⟨by omega, by omega⟩], _, r1⟩
      · simp at hv
    · simp at hv
  · rename_i k w j o g vs hx hvs
    obtain ⟨c, c1, c2⟩ := uv1_ok hr hx
    obtain ⟨ws, w1, w2⟩ := uvp_ok hr hvs
    split at hv
    · rename_i vs' st1 b hd
      obtain ⟨γ1, T, t1, t2, t3, t4, t5, _⟩ := dps_ok hr w2 hd
      split at hv
      · rename_i dp t xs hs
        split at hv
        · rename_i y hy
          split at hv
          · rename_i hc
            simp at hv
            obtain ⟨rfl, rfl⟩ := hv
            have hl := St.slc_spec hs
            have c2 := c2.mo t2
            obtain ⟨id, e, q1, rfl, q3⟩ := c2.2 _ _ _ hl
            obtain ⟨hver, he⟩ := t1.en _ _ hl
            rcases he with ⟨rfl, _⟩ | ⟨id', ty, ez, bs, S, k1, k2, k3, k4, k5, k6, k7, k8⟩
            · simp at hy
            · rw [q1] at k2
              cases k2
              obtain ⟨S1, Sj, S2, r1, r2, r3, r4⟩ := k6.at hy
              have hyl : y.length = e := k6.wid y (List.mem_of_getElem? hy)
              have hle : (j + 1) * e ≤ xs.length * e := Nat.mul_le_mul_right _ q3
              rw [Nat.add_mul, Nat.one_mul] at hle
              have hwl := w2.length
              have hvl := t3.len
              obtain ⟨S', s1, s2⟩ := RDs.setL (o := o) r3 t3
              have hpart := setL_part (bs := bs) (ws := ws) (p := j * e) (e := e) (o := o) (by omega) (by omega)
              have hlen1 : (Eng.setL ((bs.drop (j * e)).take e) o ws).length = e := by rw [setL_length]; simp; omega
              have hnew : RDss h (xs.set j (Eng.setL y o vs')) e (Eng.setL bs (j * e + o) ws) (S1 ++ (S' ++ S2)) := by
                have hx3 : xs.set j (Eng.setL y o vs') = xs.take j ++ ([Eng.setL y o vs'] ++ xs.drop (j + 1)) := by
                  rw [List.set_eq_take_append_cons_drop, if_pos q3]; rfl
                rw [hx3, hpart]
                refine r2.join ((RDss.mk1 s1 hlen1).join ?_)
                have : j * e + e = (j + 1) * e := by rw [Nat.add_mul, Nat.one_mul]
                rw [this]
                exact r4
              have hSS : (dp && leafs vs && leafs y) = true → S' = [] ∧ Sj = [] := by
                intro hb
                simp only [Bool.and_eq_true] at hb
                have h1 : Sj = [] := r3.leafS hb.2
                refine ⟨?_, h1⟩
                have h2 : T = [] := by
                  have hT : ∀ {l l' : List D} {s s' : St} {b : Bool}, leafs l = true → s.dps l = some (l', s', b) → leafs l' = true := by
                    intro l
                    induction l with
                    | nil => intro l' s s' b _ he; simp [St.dps] at he; rw [he.1]; rfl
                    | cons a l ih =>
                      intro l' s s' b hlf he
                      simp only [leafs, Bool.and_eq_true] at hlf
                      simp only [St.dps] at he
                      split at he
                      · rename_i a' s1 b1 ha
                        split at he
                        · rename_i l2 s2 b2 hl2
                          simp at he
                          obtain ⟨rfl, _, _⟩ := he
                          simp only [leafs, Bool.and_eq_true]
                          refine ⟨?_, ih hlf.2 hl2⟩
                          have := hlf.1
                          cases a <;> simp [D.leaf] at this <;> simp [St.dp] at ha <;> obtain ⟨rfl, _⟩ := ha <;> rfl
                        · simp at he
                      · simp at he
                  exact t3.leafS (hT hb.1.2 hd)
                rw [List.eq_nil_iff_forall_not_mem]
                intro i hi
                rcases s2 i hi with hi | hi
                · rw [h1] at hi; cases hi
                · rw [h2] at hi; cases hi
              have hpp : ∀ i ∈ S1 ++ (S' ++ S2), PR Γ γ1 st1 i := by
                intro i hi
                rcases List.mem_append.1 hi with hi | hi
                · exact k7 i (by simp [r1, hi])
                · rcases List.mem_append.1 hi with hi | hi
                  · rcases s2 i hi with hi | hi
                    · exact k7 i (by simp [r1, hi])
                    · exact t4 i hi
                  · exact k7 i (by simp [r1, hi])
              have huu : (if (dp && leafs vs && leafs y) = true then S else []) = if (dp && leafs vs && leafs y) = true then S1 ++ (S' ++ S2) else [] := by
                split
                · rename_i hb
                  obtain ⟨e1, e2⟩ := hSS hb
                  rw [r1, e1, e2]
                · rfl
              obtain ⟨r5, r6⟩ := t1.wr (e' := .sl w true (dp && leafs vs && leafs y) t (xs.set j (Eng.setL y o vs'))) (bs' := Eng.setL bs (j * e + o) ws) (u := if (dp && leafs vs && leafs y) = true then S else []) hl k3 k4
                ⟨true, dp, t, xs, hl, fun _ => ⟨rfl, by simp⟩⟩ (fun i hi => by
                  split at hi
                  · rename_i hb
                    simp only [Bool.and_eq_true] at hb
                    rw [k8, if_pos hb.1.1]; exact hi
                  · cases hi) (by
                  split
                  · rename_i hb
                    simp only [Bool.and_eq_true] at hb
                    have := (t1.nd _ _ hl).1
                    rw [k3, k8, if_pos hb.1.1] at this
                    exact (List.nodup_append.1 this).2.1
                  · simp)
                (fun hm hg => ⟨hver, .inr ⟨id, ty, e, _, S1 ++ (S' ++ S2), k1, by simpa using q1, by simp, hg, by rw [setL_length, k5]; simp, RDss.frame _ hnew (fun i hi => (hm.cell i (RDss.lt _ hnew i hi) (hpp i hi)).1), fun i hi => (hm.cell i (RDss.lt _ hnew i hi) (hpp i hi)).2, by rw [Gh.up_u]; exact huu⟩⟩)
              exact ⟨_, _, by simp only [ai, c1, w1, k4]; rw [if_pos ⟨by omega, by omega⟩], _, r5⟩
          · simp at hv
        · simp at hv
      · simp at hv
    · simp at hv
  · simp at hv
theorem sim_bin (hr : RelG Γ γ f st mf h) {d : Nat} {op : B2} {x y : X} (hv : vai (.bin d op x y) f st = some (f', st')) : Sim Γ (.bin d op x y) mf h f' st' := by
  simp only [vai] at hv
  split at hv
  · rename_i a b ha hb
    split at hv
    · rename_i c hc
      simp at hv
      obtain ⟨rfl, rfl⟩ := hv
      unfold binD at hc
      split at hc
      · rename_i a' b' h1 h2
        split at hc
        · rename_i r h3
          exact fin_s (mv := .val false [r]) hr (by simp only [ai, uv1_dC hr ha h1, uv1_dC hr hb h2, h3]) (UR.v1 (DC.cD hc rfl))
        · simp at hc
      · simp at hc
    · simp at hv
  · simp at hv
theorem sim_beq (hr : RelG Γ γ f st mf h) {d : Nat} {n : Bool} {x y : X} (hv : vai (.beq d n x y) f st = some (f', st')) : Sim Γ (.beq d n x y) mf h f' st' := by
  simp only [vai] at hv
  split at hv
  · rename_i a b ha hb
    simp only [Option.some.injEq, Prod.mk.injEq] at hv
    obtain ⟨rfl, rfl⟩ := hv
    exact fin_s hr (by simp only [ai, uv1_dC hr ha rfl, uv1_dC hr hb rfl]) UR.bool
  · simp at hv
theorem sim_snil (hr : RelG Γ γ f st mf h) {d : Nat} {n : Bool} {x : X} (hv : vai (.snil d n x) f st = some (f', st')) : Sim Γ (.snil d n x) mf h f' st' := by
  simp only [vai] at hv
  split at hv
  · rename_i hx
    simp only [Option.some.injEq, Prod.mk.injEq] at hv
    obtain ⟨rfl, rfl⟩ := hv
    obtain ⟨c, c1, S, c2, _⟩ := uv1_ok hr hx
    simp only [RD] at c2
    exact fin_s hr (by simp only [ai, c1, c2.1]) UR.bool
  · rename_i d' hx hn
    obtain ⟨c, c1, c2⟩ := uv1_ok hr hn
    split at hv
    · rename_i xs he
      split at hv
      · simp at hv
      · rename_i hne
        simp only [Option.some.injEq, Prod.mk.injEq] at hv
        obtain ⟨rfl, rfl⟩ := hv
        obtain ⟨S, h1, _⟩ := els_ok hr c2 he
        simp only [RD] at h1
        rcases h1 with ⟨rfl, _⟩ | ⟨id, off, e, bs, S', rfl, _⟩
        · simp at hne
        · exact fin_s hr (by simp only [ai, c1]) UR.bool
    · simp at hv
  · simp at hv
theorem sim_geq (hr : RelG Γ γ f st mf h) {d : Nat} {n : Bool} {x y : X} (hv : vai (.geq d n x y) f st = some (f', st')) : Sim Γ (.geq d n x y) mf h f' st' := by
  simp only [vai] at hv
  split at hv
  · rename_i a b ha hb
    obtain ⟨ca, a1, a2⟩ := uvp_ok hr ha
    obtain ⟨cb, b1, b2⟩ := uvp_ok hr hb
    split at hv
    · rename_i a' b' h1 h2
      split at hv
      · rename_i r h3
        simp only [Option.some.injEq, Prod.mk.injEq] at hv
        obtain ⟨rfl, rfl⟩ := hv
        have e1 := dCs_ok h1 a2
        have e2 := dCs_ok h2 b2
        subst e1 e2
        exact fin_s hr (by simp only [ai, a1, b1, h3]) UR.bool
      · simp at hv
    · simp at hv
  · simp at hv
theorem sim_neg (hr : RelG Γ γ f st mf h) {d : Nat} {x : X} (hv : vai (.neg d x) f st = some (f', st')) : Sim Γ (.neg d x) mf h f' st' := by
  simp only [vai] at hv
  split at hv
  · rename_i k n hx
    simp only [Option.some.injEq, Prod.mk.injEq] at hv
    obtain ⟨rfl, rfl⟩ := hv
    exact fin_s hr (by simp only [ai, uv1_dC hr hx rfl]) UR.int
  · simp at hv
theorem sim_not (hr : RelG Γ γ f st mf h) {d : Nat} {x : X} (hv : vai (.not d x) f st = some (f', st')) : Sim Γ (.not d x) mf h f' st' := by
  simp only [vai] at hv
  split at hv
  · rename_i b hx
    simp only [Option.some.injEq, Prod.mk.injEq] at hv
    obtain ⟨rfl, rfl⟩ := hv
    exact fin_s hr (by simp only [ai, uv1_dC hr hx rfl]) UR.bool
  · simp at hv
theorem sim_cvi (hr : RelG Γ γ f st mf h) {d : Nat} {k : IntKind} {x : X} (hv : vai (.cvi d k x) f st = some (f', st')) : Sim Γ (.cvi d k x) mf h f' st' := by
  simp only [vai] at hv
  split at hv
  · rename_i k' n hx
    simp only [Option.some.injEq, Prod.mk.injEq] at hv
    obtain ⟨rfl, rfl⟩ := hv
    exact fin_s hr (by simp only [ai, uv1_dC hr hx rfl]) UR.int
  · simp at hv
theorem sim_cbs (hr : RelG Γ γ f st mf h) {d : Nat} {x : X} (hv : vai (.cbs d x) f st = some (f', st')) : Sim Γ (.cbs d x) mf h f' st' := by
  simp only [vai] at hv
  split at hv
  · rename_i dx hx
    obtain ⟨c, c1, c2⟩ := uv1_ok hr hx
    split at hv
    · rename_i xs he
      split at hv
      · rename_i b hb
        simp only [Option.some.injEq, Prod.mk.injEq] at hv
        obtain ⟨rfl, rfl⟩ := hv
        obtain ⟨S, h1, _⟩ := els_ok hr c2 he
        have hw := bytD_wid hb
        simp only [RD] at h1
        rcases h1 with ⟨rfl, _, rfl | rfl⟩ | ⟨id, off, e, bs, S', rfl, h2, h3, h4, h5⟩
        · simp [bytD] at hb
          subst hb
          exact fin_s hr (by simp only [ai, c1, H.bytes, H.slice]; rfl) UR.str
        · simp [bytD] at hb
          subst hb
          exact fin_s hr (by simp only [ai, c1, H.bytes, H.slice]; rfl) UR.str
        · refine fin_s hr (mv := .val false [.str b]) ?_ UR.str
          simp only [ai, c1, H.bytes, if_pos (h5.same hw), H.slice, h2, if_pos h3, bytD_ok hb h5]
      · simp at hv
    · simp at hv
  · simp at hv
theorem sim_slc (hr : RelG Γ γ f st mf h) {d e : Nat} {x : X} {lo hi : Option X} (hv : vai (.slc d e x lo hi) f st = some (f', st')) : Sim Γ (.slc d e x lo hi) mf h f' st' := by
  simp only [vai] at hv
  have key : ∀ {γ1 : Gh} {st1 : St} (hr1 : RelG Γ γ1 f st1 mf h) (xs : List (List D)) (c : C) (S : List Nat) (l u : Int), ev1 mf x = some c → RD h (.sl xs) c S → (∀ i ∈ S, PR Γ γ1 st1 i) → boundU f lo 0 = some l → boundU f hi xs.length = some u → wid e xs = true → 0 ≤ l → l ≤ u → u ≤ (xs.length : Int) →
      Sim Γ (.slc d e x lo hi) mf h (UW f d (.val false [.sl ((xs.drop l.toNat).take (u - l).toNat)])) st1 := by
    intro γ1 st1 hr1 xs c S l u hc hS hp hl hu hw h0 h1 h2
    obtain ⟨c', S', k1, k2, k3⟩ := hS.slcs hw h0 h1 h2
    have b1 := boundU_ok hr1 hl
    have b2 := boundU_ok hr1 hu
    have hx0 : (c = .nils ∨ c = .emp) → xs.length = 0 := by
      simp only [RD] at hS
      rintro (rfl | rfl) <;> rcases hS with ⟨rfl, _⟩ | ⟨_, _, _, _, _, h9, _⟩ <;> first | rfl | cases h9
    refine fin_s (mv := .val false [c']) hr1 ?_ (UR.v1 ⟨S', k1, fun i hi => hp i (k2 i hi)⟩)
    rcases k3 with ⟨rfl, rfl, rfl, rfl⟩ | ⟨rfl, rfl, rfl, rfl⟩ | ⟨id, off, e', rfl, he, rfl⟩
    · rw [hx0 (.inl rfl)] at b2
      simp only [ai, hc, b1, b2]; rfl
    · rw [hx0 (.inr rfl)] at b2
      simp only [ai, hc, b1, b2]; rfl
    · simp only [ai, hc, b1, b2]
      rw [if_pos ⟨he, h0, h1, h2⟩]
  split at hv
  · rename_i hx
    obtain ⟨c, c1, S, c2, c3⟩ := uv1_ok hr hx
    simp only [RD] at c2
    split at hv
    · rename_i l u hl hu
      split at hv
      · rename_i hc
        simp only [Option.some.injEq, Prod.mk.injEq] at hv
        obtain ⟨rfl, rfl⟩ := hv
        exact fin_s (mv := .val false [.nils]) hr (by simp only [ai, c1, c2.1, boundU_ok hr hl, boundU_ok hr hu, if_pos hc]) (UR.v1 ⟨[], by simp [RD], fun i hi => by simp at hi⟩)
      · simp at hv
    · simp at hv
  · rename_i xs hx
    obtain ⟨c, c1, S, c2, c3⟩ := uv1_ok hr hx
    split at hv
    · rename_i l u hl hu
      split at hv
      · rename_i hc
        simp only [Option.some.injEq, Prod.mk.injEq] at hv
        obtain ⟨rfl, rfl⟩ := hv
        exact key hr xs c S l u c1 c2 c3 hl hu hc.1 hc.2.1 hc.2.2.1 hc.2.2.2
      · simp at hv
    · simp at hv
  · rename_i k v hx
    obtain ⟨c, c1, c2⟩ := uv1_ok hr hx
    split at hv
    · rename_i o dp t xs hs
      split at hv
      · rename_i l u hl hu
        split at hv
        · rename_i hc
          simp only [Option.some.injEq, Prod.mk.injEq] at hv
          obtain ⟨rfl, rfl⟩ := hv
          have hlk := St.slc_spec hs
          have hcc := c2.ow_cur hlk
          subst hcc
          obtain ⟨γ1, q1, q2, ⟨S, q3, q4, _⟩, _⟩ := hr.freeze (dp' := false) hlk
          exact key q1 xs _ S l u c1 q3 q4 hl hu hc.1 hc.2.1 hc.2.2.1 hc.2.2.2
        · simp at hv
      · simp at hv
    · simp at hv
  · rename_i k v o n e' hx
    obtain ⟨c, c1, c2⟩ := uv1_ok hr hx
    split at hv
    · rename_i p hp
      split at hv
      · rename_i l u hl hu
        split at hv
        · rename_i hc
          simp only [Option.some.injEq, Prod.mk.injEq] at hv
          obtain ⟨rfl, rfl⟩ := hv
          obtain ⟨id, q1, rfl⟩ := c2.2 p.1 p.2 (St.ptr_spec hp)
          refine fin_s (mv := .val false [.sl id (o + l.toNat * e') (u - l).toNat e']) hr ?_ (UR.v1 ⟨c2.1, fun _ _ _ => ⟨id, q1, rfl⟩⟩)
          simp only [ai, c1, boundU_ok hr hl, boundU_ok hr hu]
          rw [if_pos ⟨.inl hc.1, hc.2.1, hc.2.2.1, hc.2.2.2⟩]
        · simp at hv
      · simp at hv
    · simp at hv
  · simp at hv
theorem sim_sls (hr : RelG Γ γ f st mf h) {d : Nat} {x : X} {lo hi : Option X} (hv : vai (.sls d x lo hi) f st = some (f', st')) : Sim Γ (.sls d x lo hi) mf h f' st' := by
  simp only [vai] at hv
  split at hv
  · rename_i s hx
    split at hv
    · rename_i l u hl hu
      split at hv
      · rename_i hc
        simp only [Option.some.injEq, Prod.mk.injEq] at hv
        obtain ⟨rfl, rfl⟩ := hv
        exact fin_s hr (by simp only [ai, uv1_dC hr hx rfl, boundU_ok hr hl, boundU_ok hr hu, if_pos hc]) UR.str
      · simp at hv
    · simp at hv
  · simp at hv
theorem sim_sla (hr : RelG Γ γ f st mf h) {d n e : Nat} {x : X} (hv : vai (.sla d x n e) f st = some (f', st')) : Sim Γ (.sla d x n e) mf h f' st' := by
  simp only [vai] at hv
  split at hv
  · rename_i k v o hx
    obtain ⟨c, c1, c2⟩ := uv1_ok hr hx
    split at hv
    · rename_i ty ds hp
      split at hv
      · rename_i hc
        simp only [Option.some.injEq, Prod.mk.injEq] at hv
        obtain ⟨rfl, rfl⟩ := hv
        obtain ⟨id, q1, rfl⟩ := c2.pt_at hp
        obtain ⟨_, _, id', bs, k2, k3, k4, k5⟩ := hr.en _ _ (St.ptr_spec hp)
        rw [q1] at k2
        cases k2
        have hl := k5.length
        exact fin_s (mv := .val false [.sl id o n e]) hr (by simp only [ai, c1, k4]; rw [if_pos (by omega)]) (UR.v1 ⟨c2.1, fun _ _ _ => ⟨id, q1, rfl⟩⟩)
      · simp at hv
    · simp at hv
  · simp at hv
theorem sim_fld (hr : RelG Γ γ f st mf h) {d o n : Nat} {g : Bool} {x : X} (hv : vai (.fld d x o n g) f st = some (f', st')) : Sim Γ (.fld d x o n g) mf h f' st' := by
  simp only [vai] at hv
  split at hv
  · rename_i ds hx
    obtain ⟨cs, c1, c2⟩ := uvp_ok hr hx
    split at hv
    · rename_i hc
      simp only [Option.some.injEq, Prod.mk.injEq] at hv
      obtain ⟨rfl, rfl⟩ := hv
      have hl := c2.length
      exact fin_s hr (by simp only [ai, c1]; rw [if_pos (by omega)]) ⟨_, rfl, (c2.drop o).take n⟩
    · simp at hv
  · simp at hv
theorem sim_idx (hr : RelG Γ γ f st mf h) {d e n : Nat} {g : Bool} {x i : X} (hv : vai (.idx d x i e n g) f st = some (f', st')) : Sim Γ (.idx d x i e n g) mf h f' st' := by
  simp only [vai] at hv
  split at hv
  · rename_i ds k j hx hi
    obtain ⟨cs, c1, c2⟩ := uvp_ok hr hx
    have c3 := uv1_dC hr hi (c := .int k j) rfl
    split at hv
    · rename_i hc
      simp only [Option.some.injEq, Prod.mk.injEq] at hv
      obtain ⟨rfl, rfl⟩ := hv
      have hl := c2.length
      exact fin_s hr (by simp only [ai, c1, c3]; rw [if_pos ⟨hc.1, hc.2.1, by omega⟩]) ⟨_, rfl, (c2.drop (j.toNat * e)).take e⟩
    · simp at hv
  · simp at hv
theorem sim_ids (hr : RelG Γ γ f st mf h) {d : Nat} {x i : X} (hv : vai (.ids d x i) f st = some (f', st')) : Sim Γ (.ids d x i) mf h f' st' := by
  simp only [vai] at hv
  split at hv
  · rename_i s k j hx hi
    have c3 := uv1_dC hr hi (c := .int k j) rfl
    split at hv
    · rename_i hj
      split at hv
      · rename_i b hb
        simp only [Option.some.injEq, Prod.mk.injEq] at hv
        obtain ⟨rfl, rfl⟩ := hv
        exact fin_s hr (by simp only [ai, uv1_dC hr hx rfl, c3, if_pos hj, hb]) UR.int
      · simp at hv
    · simp at hv
  · simp at hv
theorem sim_ext (hr : RelG Γ γ f st mf h) {d i : Nat} {x : X} (hv : vai (.ext d x i) f st = some (f', st')) : Sim Γ (.ext d x i) mf h f' st' := by
  simp only [vai] at hv
  split at hv
  · rename_i vs hu
    obtain ⟨⟨ws, h1, h2⟩, _⟩ := evU_ok hr hu (by simp)
    split at hv
    · rename_i g ds hi
      simp only [Option.some.injEq, Prod.mk.injEq] at hv
      obtain ⟨rfl, rfl⟩ := hv
      obtain ⟨⟨g', cs⟩, k1, k2, k3⟩ := h2.get' hi
      simp only at k2 k3
      subst k2
      exact fin_s hr (by simp only [ai, h1, k1]) ⟨cs, rfl, k3⟩
    · simp at hv
  · simp at hv
theorem sim_len (hr : RelG Γ γ f st mf h) {d : Nat} {s : Bool} {x : X} (hv : vai (.len d s x) f st = some (f', st')) : Sim Γ (.len d s x) mf h f' st' := by
  simp only [vai] at hv
  split at hv
  · rename_i dx hx
    obtain ⟨c, c1, c2⟩ := uv1_ok hr hx
    split at hv
    · rename_i xs he
      simp only [Option.some.injEq, Prod.mk.injEq] at hv
      obtain ⟨rfl, rfl⟩ := hv
      obtain ⟨S, h1, _⟩ := els_ok hr c2 he
      exact fin_s hr (by simp only [ai, c1, h1.lenC]) UR.int
    · simp at hv
  · rename_i s hx
    simp only [Option.some.injEq, Prod.mk.injEq] at hv
    obtain ⟨rfl, rfl⟩ := hv
    exact fin_s hr (by simp only [ai, uv1_dC hr hx rfl]) UR.int
  · simp at hv
theorem sim_mm (hr : RelG Γ γ f st mf h) {d : Nat} {m : Bool} {x y : X} (hv : vai (.mm d m x y) f st = some (f', st')) : Sim Γ (.mm d m x y) mf h f' st' := by
  simp only [vai] at hv
  split at hv
  · rename_i a b ha hb
    simp only [Option.some.injEq, Prod.mk.injEq] at hv
    obtain ⟨rfl, rfl⟩ := hv
    exact fin_s hr (by simp only [ai, uv1_dC hr ha rfl, uv1_dC hr hb rfl]) UR.int
  · simp at hv
theorem sim_app (hr : RelG Γ γ f st mf h) {d ty e by_ : Nat} {x y : X} (hv : vai (.app d ty e by_ x y) f st = some (f', st')) : Sim Γ (.app d ty e by_ x y) mf h f' st' := by
  simp only [vai] at hv
  split at hv
  · rename_i a ys st1 b ha hs
    obtain ⟨c, c1, c2⟩ := uv1_ok hr ha
    obtain ⟨γ1, cs, S, t1, t2, t3, t4, t5, t6⟩ := srcU_ok hr hs
    have c2 := c2.mo t2
    have fresh : ∀ (k : Nat) (dp : Bool) (t : Option (Nat × Nat)), (c = .nils ∨ c = .emp) → inRoom (ys.length * by_ + ys.length) = true → (dp = true → b = true) → (∀ v o dp t xs, lk k st1.es = some (.sl v o dp t xs) → True) →
        Sim Γ (.app d ty e by_ x y) mf h (UW f d (.val false [.ow k st1.nx])) (st1.news k true dp (some (ty, e)) ys) := by
      intro k dp t hc hroom hb _
      by_cases h0 : ys.length = 0
      · have hys : ys = [] := List.eq_nil_of_length_eq_zero h0
        subst hys
        refine ⟨mf.set d (.val false [c]), h, ?_, _, (newno t1 (k := k) (b := dp) (t := some (ty, e)) hc).set (UR.v1 (DC.ow_new (Nat.lt_succ_self _)))⟩
        rcases hc with rfl | rfl <;> simp only [ai, c1, t3, List.length_nil, if_true]
      · have := newsl t1 (k := k) (ty := ty) (b := dp) (h0 := h) rfl (fun _ _ _ => rfl) (fun _ _ _ _ _ _ => rfl) (fun _ _ _ => rfl) t1.own t4 t5 rfl (fun hdp => (t6 (hb hdp)).ne k)
        refine fin_n (mv := .val false [.sl h.length 0 ys.length e]) this ?_ (UR.v1 ⟨Nat.lt_succ_self _, fun _ _ _ _ _ => by simp⟩)
        rcases hc with rfl | rfl <;> simp only [ai, c1, t3, if_neg h0, if_pos hroom]
    cases a <;> simp only at hv <;> try (simp at hv; done)
    case nils =>
      split at hv
      · rename_i hroom
        simp only [Option.some.injEq, Prod.mk.injEq] at hv
        obtain ⟨rfl, rfl⟩ := hv
        obtain ⟨S0, c3, _⟩ := c2
        simp only [RD] at c3
        exact fresh d b none (.inl c3.1) hroom (fun h => h) (fun _ _ _ _ _ _ => trivial)
      · simp at hv
    case ow k v c2a =>
      split at hv
      · rename_i dp t xs hsl
        split at hv
        · rename_i hc
          simp only [Option.some.injEq, Prod.mk.injEq] at hv
          obtain ⟨rfl, rfl⟩ := hv
          have hl := St.slc_spec hsl
          have hcc := c2.ow_cur hl
          obtain ⟨hver, he⟩ := t1.en _ _ hl
          rcases he with ⟨rfl, k2, k3, k4⟩ | ⟨id, ty', ez, bs, S0, k1, k2, k3, k4, k5, k6, k7, k8⟩
          · rw [← hcc] at k4
            have hroom := hc.2
            simp only [List.length_nil, Nat.zero_add] at hroom
            rw [List.nil_append]
            exact fresh k (dp && b) none k4 hroom (fun hb => by simp at hb; exact hb.2) (fun _ _ _ _ _ _ => trivial)
          · rw [k2] at hcc
            subst hcc
            have hty : (ty', ez) = (ty, e) := by
              have h1 := hc.1
              rw [k1] at h1
              simpa [tyOk] using h1
            cases hty
            have hlt : id < h.length := (List.getElem?_eq_some_iff.1 k4).1
            have hidw : id ∈ γ1.w k := by rw [k3]; simp
            have hmine := (t1.nd _ _ hl).2 id (by simp [hidw])
            have hcut : xs.length * e = bs.length := k5.symm
            have := newsl t1 (k := k) (ty := ty) (b := dp && b) (h0 := h.set id .dead) (u := if (dp && b) = true then S0 ++ S else []) (by simp)
              (fun i hi hp => cells_set_ne (fun e1 => by subst e1; exact not_PR_w hl hidw hp))
              (fun k' e1 hne hl' i hi => set_other (fun e2 => by subst e2; exact t1.dj k k' _ e1 (fun e => hne e.symm) hl hl' i (by simp [hidw]) (by simp [hi])))
              (fun i hi hni => set_other (fun e2 => by
                subst e2
                rcases hmine with h9 | h9
                · exact hni h9
                · omega))
              (own_dead t1.own) (k6.join t4) (fun i hi => by
                rcases List.mem_append.1 hi with hi | hi
                · exact k7 i hi
                · exact t5 i hi) rfl (fun hb => by
                simp only [Bool.and_eq_true] at hb
                have hn := t1.nd _ _ hl
                rw [k3, k8, if_pos hb.1] at hn
                have hf := t6 hb.2
                refine ⟨List.nodup_append.2 ⟨(List.nodup_append.1 hn.1).2.1, hf.1, fun a ha b' hb' e1 => ?_⟩, fun i hi => ?_, fun k' e1 hne hl' i hi => ?_⟩
                · subst e1
                  exact hf.2.2 k _ hl a hb' (by rw [k8, if_pos hb.1]; simp [ha])
                · rcases List.mem_append.1 hi with hi | hi
                  · exact hn.2 i (by simp [hi])
                  · exact hf.2.1 i hi
                · rcases List.mem_append.1 hi with hi | hi
                  · exact t1.dj k k' _ e1 (fun e => hne e.symm) hl hl' i (by rw [k8, if_pos hb.1]; simp [hi])
                  · exact hf.2.2 k' e1 hl' i hi)
            rw [List.length_append] at this
            refine fin_n (mv := .val false [.sl h.length 0 (xs.length + ys.length) e]) this ?_ (UR.v1 ⟨Nat.lt_succ_self _, fun _ _ _ _ _ => by simp⟩)
            simp only [ai, c1, t3, k4]
            rw [if_pos ⟨trivial, trivial, trivial, k5, hc.2⟩]
        · simp at hv
      · simp at hv
  · simp at hv
theorem RDss.all {xs : List (List D)} {e : Nat} {cs : List C} {S : List Nat} (hr : RDss h xs e cs S) (hp : ∀ i ∈ S, PR Γ γ st i) : All2 (DC Γ γ st h) cs xs.flatten := by
  induction xs generalizing cs S with
  | nil => simp only [RDss] at hr; rw [hr.1]; trivial
  | cons x xs ih =>
    simp only [RDss] at hr
    obtain ⟨c1, c2, S1, S2, rfl, rfl, _, h4, h5⟩ := hr
    rw [List.flatten_cons]
    exact (h4.all fun i hi => hp i (by simp [hi])).append (ih h5 fun i hi => hp i (by simp [hi]))
theorem sim_cpy (hr : RelG Γ γ f st mf h) {d e : Nat} {x y : X} (hv : vai (.cpy d e x y) f st = some (f', st')) : Sim Γ (.cpy d e x y) mf h f' st' := by
  simp only [vai] at hv
  split at hv
  · rename_i k v ys st1 b ha hs
    obtain ⟨c, c1, c2⟩ := uv1_ok hr ha
    obtain ⟨γ1, cs, S, t1, t2, t3, t4, t5, t6⟩ := srcU_ok hr hs
    split at hv
    · rename_i dp t xs hsl
      split at hv
      · rename_i hc
        obtain ⟨hf1, hf2, hne, hw1, hw2⟩ := hc
        simp only [Option.some.injEq, Prod.mk.injEq] at hv
        obtain ⟨rfl, rfl⟩ := hv
        have hl := St.slc_spec hsl
        have hcc := c2.ow_cur hl
        obtain ⟨hver, he⟩ := hr.en _ _ hl
        have hS := t4.flatS hf1
        subst hS
        rcases he with ⟨rfl, _⟩ | ⟨id, ty, ez, bs, S0, k1, k2, k3, k4, k5, k6, k7, k8⟩
        · simp at hne
        · have hez : ez = e := by
            rcases k6.same hw1 with h9 | h9
            · exact h9
            · cases xs with | nil => simp at hne | cons _ _ => simp at h9
          subst hez
          rw [k2] at hcc
          subst hcc
          have hS0 := k6.flatS hf2
          subst hS0
          let m := min ys.length xs.length
          have hm1 : m ≤ ys.length := Nat.min_le_left _ _
          have hm2 : m ≤ xs.length := Nat.min_le_right _ _
          obtain ⟨A1, A2, q1, q2, _⟩ := t4.cut m
          obtain ⟨B1, B2, r1, _, r3⟩ := k6.cut m
          have hA : A1 = [] := (List.append_eq_nil_iff.1 q1.symm).1
          have hB : B2 = [] := (List.append_eq_nil_iff.1 r1.symm).2
          subst hA hB
          have hcl := t4.len
          have hmul1 : m * ez ≤ ys.length * ez := Nat.mul_le_mul_right _ hm1
          have hmul2 : m * ez ≤ xs.length * ez := Nat.mul_le_mul_right _ hm2
          have hlen : (cs.take (m * ez)).length = m * ez := by simp; omega
          have hset : setL bs 0 (cs.take (m * ez)) = cs.take (m * ez) ++ bs.drop (m * ez) := by
            rw [setL_eq _ _ _ (by omega), hlen]; simp
          have hnew := q2.join r3
          rw [← hset] at hnew
          have hlx : (ys.take m ++ xs.drop m).length = xs.length := by simp; omega
          obtain ⟨r5, r6⟩ := hr.wr (e' := .sl v true dp t (ys.take m ++ xs.drop m)) (bs' := setL bs 0 (cs.take (m * ez))) (u := []) hl k3 k4
            ⟨true, dp, t, xs, hl, fun _ => ⟨rfl, hlx⟩⟩ (fun i hi => by cases hi) (by simp)
            (fun hm hg => ⟨hver, .inr ⟨id, ty, ez, _, [], k1, by rw [Gh.up_c, k2, hlx], by simp, hg, by rw [setL_length, k5, hlx], RDss.frame _ hnew (fun i hi => by simp at hi), fun i hi => by simp at hi, by simp⟩⟩)
          refine fin_n (mv := .val false [.int .i64 ((m : Nat) : Int)]) r5 ?_ UR.int
          simp only [ai, c1, t3, k4]
          rw [if_pos ⟨trivial, by omega⟩]
      · simp at hv
    · simp at hv
  · rename_i k v o n e' ys st1 b ha hs
    obtain ⟨c, c1, c2⟩ := uv1_ok hr ha
    obtain ⟨γ1, cs, S, t1, t2, t3, t4, t5, t6⟩ := srcU_ok hr hs
    split at hv
    · rename_i ty ds hp
      split at hv
      · rename_i hc
        obtain ⟨hf1, rfl, hw2, hlen0⟩ := hc
        simp only [Option.some.injEq, Prod.mk.injEq] at hv
        obtain ⟨rfl, rfl⟩ := hv
        have hl := St.ptr_spec hp
        have hS := t4.flatS hf1
        subst hS
        obtain ⟨hver, hu0, id, bs, k2, k3, k4, k5⟩ := hr.en _ _ hl
        obtain ⟨id', q1, rfl⟩ := c2.2 _ _ hl
        rw [k2] at q1
        cases q1
        let m := min ys.length n
        have hm1 : m ≤ ys.length := Nat.min_le_left _ _
        have hm2 : m ≤ n := Nat.min_le_right _ _
        obtain ⟨A1, A2, q1, q2, _⟩ := t4.cut m
        have hA : A1 = [] := (List.append_eq_nil_iff.1 q1.symm).1
        subst hA
        have hbl := k5.length
        have hall := q2.all (Γ := Γ) (γ := γ) (st := st) (fun i hi => by simp at hi)
        obtain ⟨r1, r2⟩ := hr.wr (e' := .pt v ty (Eng.setL ds o (ys.take m).flatten)) (bs' := Eng.setL bs o (cs.take (m * e'))) (u := []) hl k3 k4 ⟨ty, ds, hl⟩ (fun i hi => by simp at hi) (by simp)
          (fun hm hg => ⟨hver, by simp, id, _, by simpa using k2, by simp, hg, (All2.setL o k5 hall).imp fun _ _ => DC.mo hm⟩)
        refine fin_n (mv := .val false [.int .i64 ((m : Nat) : Int)]) r1 ?_ UR.int
        simp only [ai, c1, t3, k4]
        rw [if_pos ⟨trivial, by omega⟩]
      · simp at hv
    · simp at hv
  · simp at hv
/-- What the value machine answers, the machine answers. -/
theorem vai_ok {a : AI} (hr : Rel Γ f st mf h) (hv : vai a f st = some (f', st')) : Sim Γ a mf h f' st' := by
  obtain ⟨γ, hr⟩ := hr
  cases a with
  | mov => exact sim_mov hr hv
  | pick => exact sim_pick hr hv
  | lbox => exact sim_lbox hr hv
  | lal => exact sim_lal hr hv
  | hbox => exact sim_hbox hr hv
  | hal => exact sim_hal hr hv
  | bld => exact sim_bld hr hv
  | bsl => exact sim_bsl hr hv
  | bse => exact sim_bse hr hv
  | lsl => exact sim_lsl hr hv
  | fad => exact sim_fad hr hv
  | iad => exact sim_iad hr hv
  | iaa => exact sim_iaa hr hv
  | ldl => exact sim_ldl hr hv
  | ldh => exact sim_ldh hr hv
  | stl => exact sim_stl hr hv
  | sth => exact sim_sth hr hv
  | bin => exact sim_bin hr hv
  | beq => exact sim_beq hr hv
  | snil => exact sim_snil hr hv
  | geq => exact sim_geq hr hv
  | neg => exact sim_neg hr hv
  | not => exact sim_not hr hv
  | cvi => exact sim_cvi hr hv
  | cbs => exact sim_cbs hr hv
  | mks => exact sim_mks hr hv
  | slc => exact sim_slc hr hv
  | sls => exact sim_sls hr hv
  | sla => exact sim_sla hr hv
  | fld => exact sim_fld hr hv
  | idx => exact sim_idx hr hv
  | ids => exact sim_ids hr hv
  | ext => exact sim_ext hr hv
  | nch => exact sim_nch hr hv
  | len => exact sim_len hr hv
  | app => exact sim_app hr hv
  | cpy => exact sim_cpy hr hv
  | mm => exact sim_mm hr hv
  | call => simp [vai] at hv
  | clv => simp [vai] at hv
end
end Go.Eng
