/-
  The engine, part H: the operations, third part: slices, literals, append, copy.
-/
import Derived.Test.YtaicdpancmfhnaaEngG
import Derived.Laws.BytesArg
import Derived.Great.BuildSlice
set_option linter.unusedVariables false
set_option linter.unusedSimpArgs false
namespace Go.Eng
section
variable {T : Ctx} {μ μ' : Mu} {L : Nat → Nat} {f f' : Fr} {h h' : H} {w w' : World} {act : Act}
variable {o : Oper} {K : Act → World → Prop} {Q : Exit → Act → World → Prop} {d : Nat}
theorem ok_cvi (hi : INV T μ L f act.tmps h w) {s t : TypeId} {k k0 : IntKind} (hs : T.P.underlying s = some (.int k0)) (ht : T.P.underlying t = some (.int k)) {x : Operand} {y : X} (hx : xOf x = some y) (ho : o.dst = some d) (hop : o.op = .convert s t x) (hd : d < T.I.nt ∧ T.I.env.lookup d ≠ some d)
    (hr : ai (.cvi d k y) f h = some (f', h')) (hk : Goes T μ act f' h' K) : o.wp T.P act w K Q := by
  simp only [ai] at hr
  split at hr
  · rename_i kk n he
    simp only [Option.some.injEq, Prod.mk.injEq] at hr
    obtain ⟨rfl, rfl⟩ := hr
    have h2 : act.eval x = .int kk n := ev1_ok hi.fp hx he
    exact fin1 (c := .int k (k.wrap n)) (v := .int k (k.wrap n)) hi ho hd (by simp [execOp, hop, convert, run_underlying hs, run_underlying ht, h2, Conv.intToInt]) rfl hk
  · simp at hr
/-- A slice's cells, abstract and on the machine. -/
theorem slice_at (hh : HP T μ h w) {c : C} {v : Value} {cs : List C} (hc : CR μ c v) (hs : h.slice c = some cs) :
    (c = .nils ∧ v = .slice none 0 0 ∧ cs = []) ∨ ∃ a n cap us, v = .slice (some a) n cap ∧ All2 (CR μ) cs us ∧ (∀ j u, us[j]? = some u → w.cell? (a.add j) = some u) ∧ ((c = .emp ∧ n = 0 ∧ cs = []) ∨ ∃ id off e, c = .sl id off n e ∧ cs.length = n * e) := by
  cases c with
  | nils => simp [H.slice] at hs; exact .inl ⟨rfl, hc, hs⟩
  | emp =>
    obtain ⟨a, hv⟩ := hc
    simp [H.slice] at hs
    subst hs
    exact .inr ⟨a, 0, 0, [], hv, trivial, fun j u e => by simp at e, .inl ⟨rfl, rfl, rfl⟩⟩
  | sl id off len e =>
    obtain ⟨p, a, cap, hm, hv, hle, ha, hlim⟩ := hc
    simp only [H.slice] at hs
    split at hs
    · rename_i cs' hcs
      split at hs
      · rename_i hl
        simp at hs
        subst hs
        obtain ⟨us, h1, h2⟩ := cells_at hh hm hcs
        have hlen : ((cs'.drop off).take (len * e)).length = len * e := part_len hl
        refine .inr ⟨a, len, cap, (us.drop off).take (len * e), hv, (h1.drop off).take _, ?_, .inr ⟨id, off, e, rfl, hlen⟩⟩
        intro j u hj
        rcases ha with h0 | h0
        · have : len = 0 := by omega
          subst this
          simp at hj
        · rw [h0, add_at, Nat.add_assoc]
          exact h2 _ _ (part_get hj)
      · simp at hs
    · simp at hs
  | _ => simp [H.slice] at hs
theorem bytesOf_spec : ∀ {cs : List C} {b : ByteArray} {us : List Value}, bytesOf cs = some b → All2 (CR μ) cs us → ∃ xs : List Int, us = xs.map (Value.int .u8) ∧ b = strOfNums xs
  | [], b, [], h, _ => by simp [bytesOf] at h; subst h; exact ⟨[], rfl, rfl⟩
  | [], b, _ :: _, _, h => h.elim
  | _ :: _, b, [], _, h => h.elim
  | c :: cs, b, u :: us, h, hc => by
    cases c with
    | int k n =>
      cases k with
      | u8 =>
        simp only [bytesOf] at h
        split at h
        · rename_i b' hb'
          simp at h
          subst h
          obtain ⟨xs, h1, h2⟩ := bytesOf_spec hb' hc.2
          have h3 : u = .int .u8 n := hc.1
          refine ⟨n :: xs, by rw [h1, h3]; rfl, ?_⟩
          subst h2
          simp [strOfNums]
        · simp at h
      | _ => simp [bytesOf] at h
    | _ => simp [bytesOf] at h
theorem ok_cbs (hi : INV T μ L f act.tmps h w) {s t e : TypeId} (hs : T.P.underlying s = some (.slice e)) (he : T.P.underlying e = some (.int .u8)) (ht : T.P.underlying t = some .string) {x : Operand} {y : X} (hx : xOf x = some y) (ho : o.dst = some d) (hop : o.op = .convert s t x) (hd : d < T.I.nt ∧ T.I.env.lookup d ≠ some d)
    (hr : ai (.cbs d y) f h = some (f', h')) (hk : Goes T μ act f' h' K) : o.wp T.P act w K Q := by
  simp only [ai] at hr
  split at hr
  · rename_i c hc
    split at hr
    · rename_i cs hcs
      split at hr
      · rename_i b hb
        simp only [Option.some.injEq, Prod.mk.injEq] at hr
        obtain ⟨rfl, rfl⟩ := hr
        have hcs' : h.slice c = some cs := by
          unfold H.bytes at hcs
          split at hcs
          · split at hcs
            · exact hcs
            · simp at hcs
          · exact hcs
        rcases slice_at hi.hp (ev1_ok hi.fp hx hc) hcs' with ⟨_, h1, h2⟩ | ⟨a, n, cap, us, h1, h2, h3, h4⟩
        · subst h2
          simp [bytesOf] at hb
          subst hb
          exact fin1 (c := .str _) (v := .string ByteArray.empty) hi ho hd (by simp [execOp, hop, h1, run_convert_bytes_nil w s e hs he 0 0 t ht]) rfl hk
        · obtain ⟨xs, h5, h6⟩ := bytesOf_spec hb h2
          have hn : us.length = n := by
            have := h2.length
            rcases h4 with ⟨_, h7, h8⟩ | ⟨id, off, e', h7, h8⟩
            · subst h8; simp at this; omega
            · rw [← this, h8]
              subst h7
              simp only [H.bytes] at hcs
              split at hcs
              · rename_i h9; rcases h9 with h9 | h9 <;> simp [h9]
              · simp at hcs
          have hl := run_loadCells_list (P := T.P) w a us h3
          rw [hn, h5] at hl
          subst h6
          refine fin1 (c := .str (strOfNums xs)) (v := .string (strOfNums xs)) hi ho hd ?_ rfl hk
          have := run_bytesToString (P := T.P) w a n cap xs hl
          rw [foldl_push_bytes] at this
          have e2 : (⟨ByteArray.empty.data ++ (xs.map fun n => UInt8.ofNat n.toNat).toArray⟩ : ByteArray) = strOfNums xs := by simp [strOfNums, ByteArray.empty, ByteArray.emptyWithCapacity]; rfl
          rw [e2] at this
          simp [execOp, hop, h1, run_convert_bytes_string w s t e _ n cap hs he ht, this]
      · simp at hr
    · simp at hr
  · simp at hr
/-! ### Literals -/
theorem foldl_setL (off : Nat) : ∀ (l : List Value) (k : Nat) (cs : Array Value), ((l.zipIdx k).foldl (fun cs (x : Value × Nat) => cs.setIfInBounds (off + x.2) x.1) cs).toList = setL cs.toList (off + k) l
  | [], k, cs => rfl
  | v :: l, k, cs => by
    simp only [List.zipIdx_cons, List.foldl_cons]
    rw [foldl_setL off l (k + 1)]
    simp [setL, Nat.add_assoc]
theorem fill_ok (hf : FP T μ L f act.tmps w) {place place' : Nat → Option (Nat × Nat)} (hp : ∀ i p, place i = some p → place' i = some p) : ∀ {l : List (Nat × Operand)} {qs : List (Nat × Nat × X)} {z cs : List C} {arr : Array Value},
    partsOf T.P place l = some qs → fillC f z qs = some cs → All2 (CR μ) z arr.toList → ∃ r, Instr.fill place' arr (l.map fun p => (p.1, act.eval p.2)) = some r ∧ All2 (CR μ) cs r.toList
  | [], qs, z, cs, arr, h1, h2, h3 => by
    simp [partsOf] at h1
    subst h1
    simp [fillC] at h2
    subst h2
    exact ⟨arr, rfl, h3⟩
  | (i, x) :: l, qs, z, cs, arr, h1, h2, h3 => by
    simp only [partsOf] at h1
    split at h1
    · rename_i off sz y ps e1 e2 e3
      simp at h1
      subst h1
      simp only [fillC] at h2
      split at h2
      · rename_i g vs he
        split at h2
        · rename_i hc
          have hv := (evp_ok hf e2 he).cells
          have hsz : (act.eval x).cells.size = sz := by have := hv.length; simp at this; omega
          have hal : off + sz ≤ arr.size := by have := h3.length; simp at this; omega
          have hset : ((act.eval x).cells.zipIdx.foldl (fun cs (x : Value × Nat) => cs.setIfInBounds (off + x.2) x.1) arr).toList = setL arr.toList off (act.eval x).cells.toList := by
            have := foldl_setL off (act.eval x).cells.toList 0 arr
            rw [Nat.add_zero] at this
            rw [← this]
            congr 1
            rw [← Array.foldl_toList]
            simp
          obtain ⟨r, h4, h5⟩ := fill_ok hf hp (arr := (act.eval x).cells.zipIdx.foldl (fun cs (x : Value × Nat) => cs.setIfInBounds (off + x.2) x.1) arr) e3 h2 (by rw [hset]; exact h3.setL off hv)
          refine ⟨r, ?_, h5⟩
          simp only [List.map_cons]
          unfold Instr.fill
          simp only [hp _ _ e1, hsz]
          have : ¬ ((sz ≠ sz) || off + sz > arr.size) = true := by simp; omega
          rw [if_neg (by simpa using this)]
          exact h4
        · simp at h2
      · simp at h2
    · simp at h1
theorem places_ok (P : Program) : ∀ (fs : List Field), fs.all (fun f => (P.info? f.type).isSome) = true → ∃ places, fs.mapM (fun f => (P.info? f.type).map fun i => (f.offset, i.size)) = some places ∧
    ∀ (i : Nat) (fl : Field) (j : TypeInfo), fs[i]? = some fl → P.info? fl.type = some j → places[i]? = some (fl.offset, j.size)
  | [], _ => ⟨[], rfl, fun i fl j h => by simp at h⟩
  | f :: fs, h => by
    simp only [List.all_cons, Bool.and_eq_true] at h
    obtain ⟨i, hi⟩ := Option.isSome_iff_exists.1 h.1
    obtain ⟨ps, h1, h2⟩ := places_ok P fs h.2
    refine ⟨(f.offset, i.size) :: ps, by simp [hi, h1], fun k fl j hk hj => ?_⟩
    cases k with
    | zero => simp at hk; subst hk; rw [hi] at hj; cases hj; rfl
    | succ k => exact h2 k fl j (by simpa using hk) hj
theorem parts_map (act : Act) (ps : Array (Nat × Operand)) : (ps.map fun (i, x) => (i, act.eval x)).toList = ps.toList.map fun p => (p.1, act.eval p.2) := by simp
theorem ok_bldS (hi : INV T μ L f act.tmps h w) {t : TypeId} {ps : Array (Nat × Operand)} {z : List C} {fs : Array Field} {qs : List (Nat × Nat × X)} (hz : zeroOf T.P t = some z) (ht : T.P.underlying t = some (.struct fs))
    (hq : partsOf T.P (fun i => match fs[i]? with | some f => (match T.P.info? f.type with | some j => some (f.offset, j.size) | none => none) | none => none) ps.toList = some qs) (hall : fs.toList.all (fun f => (T.P.info? f.type).isSome) = true)
    (ho : o.dst = some d) (hop : o.op = .build t ps) (hd : d < T.I.nt ∧ T.I.env.lookup d ≠ some d) (hr : ai (.bld d z qs) f h = some (f', h')) (hk : Goes T μ act f' h' K) : o.wp T.P act w K Q := by
  simp only [ai] at hr
  split at hr
  · rename_i cs hcs
    simp only [Option.some.injEq, Prod.mk.injEq] at hr
    obtain ⟨rfl, rfl⟩ := hr
    obtain ⟨it, zv, h1, h2, h3, h4⟩ := zeroOf_spec hz μ
    obtain ⟨places, h5, h6⟩ := places_ok T.P fs.toList hall
    obtain ⟨r, h7, h8⟩ := fill_ok hi.fp (place' := (places.toArray[·]?)) (by
      intro i p hp
      split at hp
      · rename_i fl hfl
        split at hp
        · rename_i j hj
          simp at hp
          subst hp
          have := h6 i fl j (by simpa using hfl) hj
          simpa using this
        · simp at hp
      · simp at hp) hq hcs h3
    have hb : T.P.built t (ps.map fun (i, x) => (i, act.eval x)).toList = some r := by
      rw [parts_map]
      simp [Program.built, h1, ht, h2, h5]
      simpa using h7
    exact fin (g := true) (cs := cs) hi ho hd (v := .agg r) (by simp only [execOp, hop, Sem.run_bind, run_build w t _ r hb, Result.andThen_ok]; rfl) ⟨r, rfl, h8⟩ hk
  · simp at hr
theorem ok_bldA (hi : INV T μ L f act.tmps h w) {t e : TypeId} {n : Nat} {j : TypeInfo} {ps : Array (Nat × Operand)} {z : List C} {qs : List (Nat × Nat × X)} (hz : zeroOf T.P t = some z) (ht : T.P.underlying t = some (.array n e)) (hj : T.P.info? e = some j)
    (hq : partsOf T.P (fun i => some (i * j.size, j.size)) ps.toList = some qs)
    (ho : o.dst = some d) (hop : o.op = .build t ps) (hd : d < T.I.nt ∧ T.I.env.lookup d ≠ some d) (hr : ai (.bld d z qs) f h = some (f', h')) (hk : Goes T μ act f' h' K) : o.wp T.P act w K Q := by
  simp only [ai] at hr
  split at hr
  · rename_i cs hcs
    simp only [Option.some.injEq, Prod.mk.injEq] at hr
    obtain ⟨rfl, rfl⟩ := hr
    obtain ⟨it, zv, h1, h2, h3, h4⟩ := zeroOf_spec hz μ
    obtain ⟨r, h7, h8⟩ := fill_ok hi.fp (place' := fun i => some (i * j.size, j.size)) (fun i p hp => hp) hq hcs h3
    have hb : T.P.built t (ps.map fun (i, x) => (i, act.eval x)).toList = some r := by
      rw [parts_map]
      simp [Program.built, h1, ht, h2, hj]
      simpa using h7
    exact fin (g := true) (cs := cs) hi ho hd (v := .agg r) (by simp only [execOp, hop, Sem.run_bind, run_build w t _ r hb, Result.andThen_ok]; rfl) ⟨r, rfl, h8⟩ hk
  · simp at hr
theorem rep_get {α : Type} (l : List α) : ∀ (n i : Nat) (x : α), (List.replicate n l).flatten[i]? = some x → l[i % l.length]? = some x
  | 0, i, x, h => by simp at h
  | n + 1, i, x, h => by
    simp only [List.replicate_succ, List.flatten_cons] at h
    by_cases hl : i < l.length
    · rw [List.getElem?_append_left hl] at h
      rwa [Nat.mod_eq_of_lt hl]
    · rw [List.getElem?_append_right (by omega)] at h
      have := rep_get l n (i - l.length) x h
      rwa [← Nat.mod_eq_sub_mod (by omega)] at this
theorem made_ok {z : List C} {zv : Array Value} (hz : All2 (CR μ) z zv.toList) (n : Nat) : All2 (CR μ) (List.replicate n z).flatten ((Array.range (n * zv.size)).map (zv[· % zv.size]!)).toList := by
  have hl := hz.length
  simp only [Array.length_toList] at hl
  refine All2.of_get (by simp [hl]) (fun i c v hc hv => ?_)
  have h1 := rep_get z n i c hc
  obtain ⟨u, h2, h3⟩ := hz.get h1
  simp only [Array.toList_map, List.getElem?_map, Array.toList_range] at hv
  by_cases hi : i < n * zv.size
  · rw [List.getElem?_range hi] at hv
    simp only [Option.map_some, Option.some.injEq] at hv
    rw [hl] at h2
    have h4 : zv[i % zv.size]? = some u := by simpa using h2
    have h5 : zv[i % zv.size]! = u := by
      rw [getElem!_def, h4]
    rw [h5] at hv
    rw [← hv]
    exact h3
  · rw [List.getElem?_eq_none (by simpa using hi)] at hv
    simp at hv
theorem lit_ok (hi : INV T μ L f act.tmps h w) {t e : TypeId} {len : Nat} {j : TypeInfo} {ps : Array (Nat × Operand)} {z : List C} {qs : List (Nat × Nat × X)} (hz : zeroOf T.P e = some z) (ht : T.P.underlying t = some (.slice e)) (hj : T.P.info? e = some j)
    (hq : partsOf T.P (fun i => some (i * j.size, j.size)) ps.toList = some qs) (hlen : len * j.size ≤ 2 ^ 24) (hj0 : 0 < j.size) (hl0 : len ≠ 0) (hop : o.op = .buildSlice t len ps) {cs : List C} (hcs : fillC f (List.replicate len z).flatten qs = some cs) :
    ∃ r, (execOp act.eval o).run T.P w = .ok (.value (.slice (some ⟨w.heap.size, 0, none⟩) len len)) (w.alloc (.cells r e (0, 0))) ∧ All2 (CR μ) cs r.toList := by
  obtain ⟨it, zv, h1, h2, h3, h4⟩ := zeroOf_spec hz μ
  rw [hj] at h1
  cases h1
  have hzs : zv.cells.size = j.size := by have := h3.length; simp at this; omega
  have hm := made_ok h3 len
  obtain ⟨r, h7, h8⟩ := fill_ok hi.fp (place' := fun i => some (i * j.size, j.size)) (fun i p hp => hp) hq hcs hm
  refine ⟨r, ?_, h8⟩
  have hpos : ¬ len * j.size = 0 := by
    intro e0
    rcases Nat.mul_eq_zero.1 e0 with e1 | e1
    · exact hl0 e1
    · omega
  have := run_buildSlice (P := T.P) w t e len (ps.map fun (i, x) => (i, act.eval x)) r j zv ht hj h2 (by omega) hpos (by
    rw [parts_map, ← hzs]
    rw [← hzs] at h7
    exact h7)
  simp only [execOp, hop, Sem.run_bind, this, Result.andThen_ok]
  rfl
theorem fillC_length : ∀ {qs : List (Nat × Nat × X)} {z cs : List C}, fillC f z qs = some cs → cs.length = z.length
  | [], z, cs, h => by simp [fillC] at h; subst h; rfl
  | (off, sz, x) :: qs, z, cs, h => by
    simp only [fillC] at h
    split at h
    · split at h
      · rw [fillC_length h, setL_length]
      · simp at h
    · simp at h
theorem ok_bsl (hi : INV T μ L f act.tmps h w) {t e : TypeId} {len : Nat} {j : TypeInfo} {ps : Array (Nat × Operand)} {z : List C} {qs : List (Nat × Nat × X)} (hz : zeroOf T.P e = some z) (ht : T.P.underlying t = some (.slice e)) (hj : T.P.info? e = some j)
    (hq : partsOf T.P (fun i => some (i * j.size, j.size)) ps.toList = some qs) (hlen : len * j.size ≤ 2 ^ 24) (hj0 : 0 < j.size) (hl0 : len ≠ 0) (ho : o.dst = some d) (hop : o.op = .buildSlice t len ps) (hd : d < T.I.nt ∧ T.I.env.lookup d ≠ some d)
    (hr : ai (.bsl d e j.size len z qs) f h = some (f', h')) (hk : Goes T μ act f' h' K) : o.wp T.P act w K Q := by
  simp only [ai] at hr
  split at hr
  · rename_i cs hcs
    simp only [Option.some.injEq, Prod.mk.injEq] at hr
    obtain ⟨rfl, rfl⟩ := hr
    obtain ⟨r, h1, h2⟩ := lit_ok hi hz ht hj hq hlen hj0 hl0 hop hcs
    have e1 := take_self h2.length
    have hzl : z.length = j.size := by obtain ⟨it, zv, k1, k2, k3, k4⟩ := zeroOf_spec hz μ; rw [hj] at k1; cases k1; exact k4
    have hsz : r.size = len * j.size := by
      have := h2.length
      rw [fillC_length hcs] at this
      simp [hzl] at this
      omega
    exact newId_fin (c := .sl h.length 0 len j.size) hi ho hd h1 (by rw [e1]; exact h2) (by rw [e1, List.append_nil]) (fun μ' hm => ⟨_, _, len, hm, rfl, Nat.le_refl _, .inr rfl, by simp only; omega⟩) hk
  · simp at hr
theorem ok_lsl (hi : INV T μ L f act.tmps h w) {t e : TypeId} {len : Nat} {j : TypeInfo} {ps : Array (Nat × Operand)} {z : List C} {qs : List (Nat × Nat × X)} (hz : zeroOf T.P e = some z) (ht : T.P.underlying t = some (.slice e)) (hj : T.P.info? e = some j)
    (hq : partsOf T.P (fun i => some (i * j.size, j.size)) ps.toList = some qs) (hlen : len * j.size ≤ 2 ^ 24) (hj0 : 0 < j.size) (hl0 : len ≠ 0) (ho : o.dst = some d) (hop : o.op = .buildSlice t len ps) (hd : d < T.I.nt ∧ T.I.env.lookup d ≠ some d)
    (hr : ai (.lsl d j.size len z qs) f h = some (f', h')) (hk : Goes T μ act f' h' K) : o.wp T.P act w K Q := by
  simp only [ai] at hr
  split at hr
  · rename_i cs hcs
    simp only [Option.some.injEq, Prod.mk.injEq] at hr
    obtain ⟨rfl, rfl⟩ := hr
    obtain ⟨r, h1, h2⟩ := lit_ok hi hz ht hj hq hlen hj0 hl0 hop hcs
    refine wp_val h1 ?_
    rw [ho]
    exact hk μ _ _ _ (hi.newLoc (v := .lsl cs len j.size) (by rw [hi.fp.nt]; exact hd.1) (fun ds e => hd.2 (hi.fp.bty d ds e)) (fun ⟨_, e⟩ => by cases e) rfl (fun L' hL => by simp only [SRs, hL]) h2) (MuLe.refl _) rfl
  · simp at hr
theorem ok_bse (hi : INV T μ L f act.tmps h w) {t e : TypeId} {j : TypeInfo} {ps : Array (Nat × Operand)} (ht : T.P.underlying t = some (.slice e)) (hj : T.P.info? e = some j) (hps : ps.toList.isEmpty = true) (ho : o.dst = some d) (hop : o.op = .buildSlice t 0 ps) (hd : d < T.I.nt ∧ T.I.env.lookup d ≠ some d)
    (hr : ai (.bse d) f h = some (f', h')) (hk : Goes T μ act f' h' K) : o.wp T.P act w K Q := by
  simp only [ai, Option.some.injEq, Prod.mk.injEq] at hr
  obtain ⟨rfl, rfl⟩ := hr
  have hps' : ps = #[] := by
    have : ps.toList = [] := by simpa using hps
    exact Array.toList_eq_nil_iff.1 this
  have hi' := hi.worldOnly (Only.alloc w (.cells #[] e (0, 0)) (fun _ => False))
  refine wp_val (v := .slice (some ⟨w.heap.size, 0, none⟩) 0 0) (w' := w.alloc (.cells #[] e (0, 0))) ?_ ?_
  · simp [execOp, hop, hps', Instr.buildSlice, run_underlying ht, sizeOf, typeInfo, hj, newRow, Instr.fill, Array.range_zero']
  · rw [ho]
    exact hk μ L _ _ (hi'.putV (g := false) (cs := [.emp]) (by rw [hi.fp.nt]; exact hd.1) hd.2 ⟨.emp, rfl, _, rfl⟩) (MuLe.refl _) rfl
end
end Go.Eng
