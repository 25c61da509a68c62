/-
  The value machine, part E: each instruction, as the machine runs it.
-/
import Derived.Test.YtaicdpancmfhnaaVmD
set_option linter.unusedVariables false
set_option linter.unusedSimpArgs false
namespace Go.Eng
section
variable {Γ : Cx} {γ γ' : Gh} {f f' : UT} {st st' : St} {mf mf' : Fr} {h h' : H}
theorem RelG.blt (hr : RelG Γ γ f st mf h) {k : Nat} {e : En} (hl : lk k st.es = some e) : ∀ i ∈ γ.w k ++ γ.u k, i < h.length := by
  have he := hr.en k e hl
  have own : ∀ {id ty : Nat} {bs : List C}, h[id]? = some (.own ty bs) → id < h.length := fun e => (List.getElem?_eq_some_iff.1 e).1
  match e, he with
  | .sl v true dp t xs, ⟨_, he⟩ =>
    rcases he with ⟨_, h2, h3, _⟩ | ⟨id, ty, ez, bs, S, h1, h2, h3, h4, h5, h6, h7, h8⟩
    · intro i hi; rw [h2, h3] at hi; simp at hi
    · intro i hi
      rw [h3, h8] at hi
      rcases List.mem_append.1 hi with hi | hi
      · simp at hi; subst hi; exact own h4
      · split at hi
        · exact RDss.lt xs h6 i hi
        · simp at hi
  | .sl v false dp t xs, ⟨_, h1, h2, _⟩ => intro i hi; rw [h1, h2] at hi; simp at hi
  | .pt v ty ds, ⟨_, h1, id, bs, h2, h3, h4, _⟩ => intro i hi; rw [h1, h3] at hi; simp at hi; subst hi; exact own h4
theorem own_set {P : Nat → Prop} {id ty : Nat} {cs' : List C} (ho : ∀ i cs, P i → h[i]? ≠ some (.ro cs)) : ∀ i cs, P i → (h.set id (.own ty cs') : H)[i]? ≠ some (.ro cs) := fun i cs hi => by
  rw [List.getElem?_set]
  split
  · split <;> simp
  · exact ho i cs hi
theorem own_dead {P : Nat → Prop} {id : Nat} (ho : ∀ i cs, P i → h[i]? ≠ some (.ro cs)) : ∀ i cs, P i → (h.set id .dead : H)[i]? ≠ some (.ro cs) := fun i cs hi => by
  rw [List.getElem?_set]
  split
  · split <;> simp
  · exact ho i cs hi
/-- A new block. -/
theorem RelG.newblk (hr : RelG Γ γ f st mf h) {k : Nat} {e' : En} {b : Blk} {c : C} {u : List Nat} {h0 : H} (hve : e'.ver = st.nx) (hl0 : h0.length = h.length)
    (hc0 : ∀ i, i < h.length → PR Γ γ st i → h0.cells i = h.cells i)
    (ho0 : ∀ k' e, k' ≠ k → lk k' st.es = some e → ∀ i ∈ γ.w k', h0[i]? = h[i]?)
    (hb0 : ∀ i, i < Γ.hb.length → i ∉ Γ.bs → h0[i]? = h[i]?)
    (hu : u.Nodup ∧ (∀ i ∈ u, Mine Γ i ∧ i < h.length) ∧ ∀ k' e, k' ≠ k → lk k' st.es = some e → ∀ i ∈ u, i ∉ γ.w k' ++ γ.u k')
    (hk : Mo Γ γ st h (γ.up k c [h.length] u) ⟨st.nx + 1, (k, e') :: st.es⟩ (h0 ++ [b]) → ER Γ (γ.up k c [h.length] u) ⟨st.nx + 1, (k, e') :: st.es⟩ (h0 ++ [b]) k e') (hr0 : ∀ i cs, Mine Γ i → h0[i]? ≠ some (.ro cs)) (hbr : ∀ cs, b ≠ .ro cs) :
    RelG Γ (γ.up k c [h.length] u) f ⟨st.nx + 1, (k, e') :: st.es⟩ mf (h0 ++ [b]) ∧ Mo Γ γ st h (γ.up k c [h.length] u) ⟨st.nx + 1, (k, e') :: st.es⟩ (h0 ++ [b]) := by
  have hap : ∀ i, i < h.length → (h0 ++ [b] : H)[i]? = h0[i]? := fun i hi => List.getElem?_append_left (by omega)
  refine hr.upd (by omega) (.inl (by omega)) (fun i hi hp => ?_) (fun i hi hlt => ?_) (fun k' e hne hl i hi => ?_) ⟨?_, fun i hi => ?_⟩ (fun k' e hne hl i hi => ?_) (by simp; omega) (fun i hi hn => ?_) hk (fun i cs hi => ?_)
  · rw [cells_app (by omega)]; exact hc0 i hi hp
  · simp at hi; omega
  · rw [hap i (hr.blt hl i (by simp [hi]))]; exact ho0 k' e hne hl i hi
  · refine List.nodup_append.2 ⟨by simp, hu.1, fun a ha b hb e => ?_⟩
    simp at ha
    subst ha e
    exact Nat.lt_irrefl _ (hu.2.1 _ hb).2
  · rcases List.mem_append.1 hi with hi | hi
    · simp at hi; subst hi; exact .inr hr.len
    · exact (hu.2.1 i hi).1
  · rcases List.mem_append.1 hi with hi | hi
    · simp at hi; subst hi; exact fun hi' => Nat.lt_irrefl _ (hr.blt hl _ hi')
    · exact hu.2.2 k' e hne hl i hi
  · rw [hap i (Nat.lt_of_lt_of_le hi hr.len)]; exact hb0 i hi hn
  · by_cases hlt : i < h.length
    · rw [hap i hlt]; exact hr0 i cs hi
    · rw [List.getElem?_append_right (by omega)]
      intro he
      cases hx : i - h0.length with
      | zero => rw [hx] at he; simp at he; exact hbr cs he
      | succ n => rw [hx] at he; simp at he
theorem last_own {h : H} {n : Nat} (hl : h.length = n) (b : Blk) : (h ++ [b] : H)[n]? = some b := by subst hl; exact get_last h b []
theorem rep_ok {z : List C} {z' : List D} {e : Nat} (hz : RDs h z' z []) (hl : z'.length = e) : ∀ n, RDss h (List.replicate n z') e (List.replicate n z).flatten []
  | 0 => by simp [RDss]
  | n + 1 => by
    simp only [List.replicate_succ, List.flatten_cons, RDss]
    exact ⟨z, _, [], [], rfl, rfl, by rw [hz.len, hl], hz, rep_ok hz hl n⟩
theorem RDs.setL : ∀ {vs : List D} {ws : List C} {x : List D} {cx : List C} {S T : List Nat} {o : Nat}, RDs h x cx S → RDs h vs ws T → ∃ S', RDs h (Eng.setL x o vs) (Eng.setL cx o ws) S' ∧ ∀ i ∈ S', i ∈ S ∨ i ∈ T
  | [], ws, x, cx, S, T, o, hx, hv => by
    simp only [RDs] at hv
    obtain ⟨rfl, rfl⟩ := hv
    exact ⟨S, hx, fun i hi => .inl hi⟩
  | d :: vs, ws, x, cx, S, T, o, hx, hv => by
    simp only [RDs] at hv
    obtain ⟨c, cr, S1, S2, rfl, rfl, h3, h4⟩ := hv
    have hset : ∃ S', RDs h (x.set o d) (cx.set o c) S' ∧ ∀ i ∈ S', i ∈ S ∨ i ∈ S1 := by
      clear h4
      induction x generalizing cx S o with
      | nil => simp only [RDs] at hx; obtain ⟨rfl, rfl⟩ := hx; exact ⟨[], by simp [RDs], fun i hi => by simp at hi⟩
      | cons y ys ih =>
        simp only [RDs] at hx
        obtain ⟨cy, cys, T1, T2, rfl, rfl, k3, k4⟩ := hx
        cases o with
        | zero => exact ⟨S1 ++ T2, by simp only [List.set_cons_zero, RDs]; exact ⟨c, cys, S1, T2, rfl, rfl, h3, k4⟩, fun i hi => by rcases List.mem_append.1 hi with hi | hi <;> simp [hi]⟩
        | succ o =>
          obtain ⟨S', q1, q2⟩ := ih (o := o) (cx := cys) (S := T2) k4
          refine ⟨T1 ++ S', by simp only [List.set_cons_succ, RDs]; exact ⟨cy, _, T1, S', rfl, rfl, k3, q1⟩, fun i hi => ?_⟩
          rcases List.mem_append.1 hi with hi | hi
          · simp [hi]
          · rcases q2 i hi with hi | hi <;> simp [hi]
    obtain ⟨S', q1, q2⟩ := hset
    obtain ⟨S'', q3, q4⟩ := RDs.setL (o := o + 1) q1 h4
    refine ⟨S'', q3, fun i hi => ?_⟩
    rcases q4 i hi with hi | hi
    · rcases q2 i hi with hi | hi <;> simp [hi]
    · simp [hi]
theorem setL_part {α : Type} {bs ws : List α} {p e o : Nat} (ho : o + ws.length ≤ e) (hp : p + e ≤ bs.length) : setL bs (p + o) ws = bs.take p ++ (setL ((bs.drop p).take e) o ws ++ bs.drop (p + e)) := by
  have h1 : ((bs.drop p).take e).length = e := by simp; omega
  rw [setL_eq _ _ _ (by omega), setL_eq _ _ _ (by omega), List.take_take, List.drop_take, List.drop_drop]
  have e1 : min o e = o := by omega
  rw [e1, List.take_add, List.append_assoc, List.append_assoc, List.append_assoc, List.append_assoc]
  congr 2
  congr 1
  have e2 : p + o + ws.length = p + (o + ws.length) := by omega
  rw [e2]
  have e3 : bs.drop (p + e) = (bs.drop (p + (o + ws.length))).drop (e - (o + ws.length)) := by rw [List.drop_drop]; congr 1; omega
  rw [e3, List.take_append_drop]
theorem RD.slcs {xs : List (List D)} {c : C} {S : List Nat} {esz : Nat} {l u : Int} (hr : RD h (.sl xs) c S) (hw : wid esz xs = true) (h0 : 0 ≤ l) (h1 : l ≤ u) (h2 : u ≤ (xs.length : Int)) :
    ∃ c' S', RD h (.sl ((xs.drop l.toNat).take (u - l).toNat)) c' S' ∧ (∀ i ∈ S', i ∈ S) ∧ ((c = .nils ∧ l = 0 ∧ u = 0 ∧ c' = .nils) ∨ (c = .emp ∧ l = 0 ∧ u = 0 ∧ c' = .emp) ∨
      ∃ id off e, c = .sl id off xs.length e ∧ (e = esz ∨ xs.length = 0) ∧ c' = .sl id (off + l.toNat * e) (u - l).toNat e) := by
  simp only [RD] at hr
  rcases hr with ⟨rfl, rfl, rfl | rfl⟩ | ⟨id, off, e, bs, S', rfl, h3, h4, rfl, h5⟩
  · simp at h2
    exact ⟨.nils, [], by simp [RD], fun i hi => by simp at hi, .inl ⟨rfl, by omega, by omega, rfl⟩⟩
  · simp at h2
    exact ⟨.emp, [], by simp [RD], fun i hi => by simp at hi, .inr (.inl ⟨rfl, by omega, by omega, rfl⟩)⟩
  · obtain ⟨S1, S2, k1, k2, k3⟩ := h5.cut l.toNat
    obtain ⟨T1, T2, q1, q2, q3⟩ := k3.cut (u - l).toNat
    have hlen : ((xs.drop l.toNat).take (u - l).toNat).length = (u - l).toNat := by simp; omega
    have hle : (l.toNat + (u - l).toNat) * e ≤ xs.length * e := Nat.mul_le_mul_right _ (by omega)
    rw [Nat.add_mul] at hle
    refine ⟨.sl id (off + l.toNat * e) (u - l).toNat e, id :: T1, ?_, fun i hi => ?_, .inr (.inr ⟨id, off, e, rfl, h5.same hw, rfl⟩)⟩
    · simp only [RD]
      refine .inr ⟨id, off + l.toNat * e, e, bs, T1, by rw [hlen], h3, by rw [hlen]; omega, rfl, ?_⟩
      rw [hlen]
      have : ((((bs.drop off).take (xs.length * e)).drop (l.toNat * e)).take ((u - l).toNat * e)) = (bs.drop (off + l.toNat * e)).take ((u - l).toNat * e) := by
        rw [List.drop_take, List.take_take, List.drop_drop]
        congr 1
        omega
      rw [← this]
      exact q2
    · rcases List.mem_cons.1 hi with rfl | hi
      · simp
      · simp [k1, q1, hi]
theorem bytD_ok : ∀ {xs : List (List D)} {b : ByteArray} {cs : List C} {S : List Nat} {e : Nat}, bytD xs = some b → RDss h xs e cs S → bytesOf cs = some b
  | [], b, cs, S, e, hb, hr => by simp only [RDss] at hr; simp [bytD] at hb; subst hb; rw [hr.1]; rfl
  | x :: xs, b, cs, S, e, hb, hr => by
    unfold bytD at hb
    split at hb
    · rename_i he; cases he
    · rename_i n r he
      cases he
      split at hb
      · rename_i b' hb'
        simp at hb
        subst hb
        simp only [RDss, RDs, RD] at hr
        obtain ⟨c1, c2, S1, S2, rfl, rfl, _, ⟨c, cr, T1, T2, rfl, rfl, ⟨rfl, rfl⟩, rfl, rfl⟩, h5⟩ := hr
        simp only [List.cons_append, List.nil_append, bytesOf, bytD_ok hb' h5]
      · simp at hb
    · simp at hb
theorem bytD_wid : ∀ {xs : List (List D)} {b : ByteArray}, bytD xs = some b → wid 1 xs = true
  | [], _, _ => rfl
  | x :: xs, b, hb => by
    unfold bytD at hb
    split at hb
    · rename_i he; cases he
    · rename_i n r he
      cases he
      split at hb
      · rename_i b' hb'
        simp [wid, bytD_wid hb']
      · simp at hb
    · simp at hb
theorem dCs_ok : ∀ {ds : List D} {cs cs' : List C}, dCs ds = some cs' → All2 (DC Γ γ st h) cs ds → cs = cs'
  | [], [], cs', hd, _ => by simp [dCs] at hd; exact hd.symm
  | d :: ds, c :: cs, cs', hd, ha => by
    simp only [dCs] at hd
    split at hd
    · rename_i a b h1 h2
      simp at hd
      subst hd
      rw [ha.1.dC h1, dCs_ok h2 ha.2]
    · simp at hd
theorem DC.ow_cur {k v : Nat} {o dp : Bool} {t : Option (Nat × Nat)} {xs : List (List D)} {c : C} (hd : DC Γ γ st h c (.ow k v)) (hl : lk k st.es = some (.sl v o dp t xs)) : c = γ.c k := hd.2 _ _ _ _ hl
theorem DC.ow_new {k v nx : Nat} {es : List (Nat × En)} {c : C} {e : En} {w u : List Nat} (hv : v < nx) : DC Γ (γ.up k c w u) ⟨nx, (k, e) :: es⟩ h c (.ow k v) := ⟨hv, fun _ _ _ _ _ => by simp⟩
end
end Go.Eng
