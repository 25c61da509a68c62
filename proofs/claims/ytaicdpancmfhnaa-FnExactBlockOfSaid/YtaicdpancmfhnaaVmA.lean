/-
  The value machine, part A: cells that carry what they lead to; the run of an instruction on them.
-/
import Derived.Test.YtaicdpancmfhnaaEngR
set_option linter.unusedVariables false
set_option linter.unusedSimpArgs false
namespace Go.Eng
/-- A cell with what it leads to. 'sl xs': a slice that is read alone, by its elements; 'ow k v': a slice of the call's own, by the key and the version of its entry; 'pt k v o': a pointer into an own struct; 'pe x o': the address of a part of an element that is read alone; 'px k v j o': of a part of element j of an own slice; 'sa': a slice of an own array. -/
inductive D where
  | int (k : IntKind) (n : Int)
  | bool (b : Bool)
  | str (s : ByteArray)
  | fn (f : Nat)
  | nilf
  | nili
  | nilp
  | nils
  | sl (xs : List (List D))
  | ow (k v : Nat)
  | pt (k v o : Nat)
  | pe (x : List D) (o : Nat)
  | px (k v j o : Nat)
  | sa (k v o n e : Nat)
inductive U where
  | any
  | val (g : Bool) (ds : List D)
  | tup (vs : List (Bool × List D))
  | box (ds : List D)
  | lsl (ds : List D) (n e : Nat)
  | lref (r o : Nat)
/-- What is known of an own slice (own: it may be written; deep: what its elements lead to is led to from nowhere else), of an own struct. -/
inductive En where
  | sl (v : Nat) (own deep : Bool) (ty : Option (Nat × Nat)) (xs : List (List D))
  | pt (v ty : Nat) (ds : List D)
structure St where
  nx : Nat
  es : List (Nat × En)
inductive UT where
  | leaf
  | node (l : UT) (v : U) (r : UT)
def UT.get : UT → K → U
  | .leaf, _ => .any
  | .node _ v _, .z => v
  | .node l _ _, .o k => l.get k
  | .node _ _ r, .i k => r.get k
def UT.set : UT → K → U → UT
  | .leaf, .z, v => .node .leaf v .leaf
  | .leaf, .o k, v => .node (UT.set .leaf k v) .any .leaf
  | .leaf, .i k, v => .node .leaf .any (UT.set .leaf k v)
  | .node l _ r, .z, v => .node l v r
  | .node l u r, .o k, v => .node (l.set k v) u r
  | .node l u r, .i k, v => .node l u (r.set k v)
def UT.full : Nat → UT
  | 0 => .leaf
  | d + 1 => .node (UT.full d) .any (UT.full d)
def UF (f : UT) (s : Nat) : U := UT.get f (K.of s)
def UW (f : UT) (s : Nat) (v : U) : UT := UT.set f (K.of s) v
def lk (k : Nat) : List (Nat × En) → Option En
  | [] => none
  | (k', e) :: r => if k = k' then some e else lk k r
def St.slc (st : St) (k v : Nat) : Option (Bool × Bool × Option (Nat × Nat) × List (List D)) :=
  match lk k st.es with
  | some (.sl v' o d t xs) => if v' = v then some (o, d, t, xs) else none
  | _ => none
def St.ptr (st : St) (k v : Nat) : Option (Nat × List D) :=
  match lk k st.es with
  | some (.pt v' ty ds) => if v' = v then some (ty, ds) else none
  | _ => none
def St.put (st : St) (k : Nat) (e : En) : St := ⟨st.nx, (k, e) :: st.es⟩
/-- Slice entry k with a new version. -/
def St.news (st : St) (k : Nat) (own deep : Bool) (ty : Option (Nat × Nat)) (xs : List (List D)) : St := ⟨st.nx + 1, (k, .sl st.nx own deep ty xs) :: st.es⟩
def St.newp (st : St) (k ty : Nat) (ds : List D) : St := ⟨st.nx + 1, (k, .pt st.nx ty ds) :: st.es⟩
/-! ### Cells of the program's text -/
def cD : C → Option D
  | .int k n => some (.int k n)
  | .bool b => some (.bool b)
  | .str s => some (.str s)
  | .fn f => some (.fn f)
  | .nilf => some .nilf
  | .nili => some .nili
  | .nilp => some .nilp
  | .nils => some .nils
  | .emp => some (.sl [])
  | _ => none
def zD : C → Option D
  | .int k n => some (.int k n)
  | .bool b => some (.bool b)
  | .str s => some (.str s)
  | .fn f => some (.fn f)
  | .nilf => some .nilf
  | .nili => some .nili
  | .nils => some (.sl [])
  | .emp => some (.sl [])
  | _ => none
def zDs : List C → Option (List D)
  | [] => some []
  | c :: cs => match zD c, zDs cs with
    | some d, some ds => some (d :: ds)
    | _, _ => none
def cDs : List C → Option (List D)
  | [] => some []
  | c :: cs => match cD c, cDs cs with
    | some d, some ds => some (d :: ds)
    | _, _ => none
/-- Cells without anything behind. -/
def dC : D → Option C
  | .int k n => some (.int k n)
  | .bool b => some (.bool b)
  | .str s => some (.str s)
  | .fn f => some (.fn f)
  | _ => none
def dCs : List D → Option (List C)
  | [] => some []
  | d :: ds => match dC d, dCs ds with
    | some c, some cs => some (c :: cs)
    | _, _ => none
def D.leaf : D → Bool
  | .int _ _ => true
  | .bool _ => true
  | .str _ => true
  | .fn _ => true
  | .nilf => true
  | .nili => true
  | _ => false
def leafs : List D → Bool
  | [] => true
  | d :: ds => d.leaf && leafs ds
/-- No element leads to anything. -/
def flat : List (List D) → Bool
  | [] => true
  | x :: xs => leafs x && flat xs
/-- All elements are of so many cells. -/
def wid (e : Nat) : List (List D) → Bool
  | [] => true
  | x :: xs => (x.length == e) && wid e xs
def chunks (e : Nat) : Nat → List D → List (List D)
  | 0, _ => []
  | n + 1, ds => ds.take e :: chunks e n (ds.drop e)
def cU : V → U
  | .val g cs => match cDs cs with
    | some ds => .val g ds
    | none => .any
  | _ => .any
def evU (f : UT) : X → U
  | .c v => cU v
  | .s t => match UF f t with
    | .box _ => .lref t 0
    | v => v
def uvp (f : UT) (x : X) : Option (Bool × List D) :=
  match evU f x with
  | .val g ds => some (g, ds)
  | _ => none
def uv1 (f : UT) (x : X) : Option D :=
  match evU f x with
  | .val false [d] => some d
  | _ => none
def fillD (f : UT) (ds : List D) : List (Nat × Nat × X) → Option (List D)
  | [] => some ds
  | (off, sz, x) :: r => match uvp f x with
    | some (_, vs) => if vs.length = sz ∧ off + sz ≤ ds.length then fillD f (setL ds off vs) r else none
    | none => none
/-! ### A cell that becomes part of an element -/
def St.dp (st : St) : D → Option (D × St × Bool)
  | .nils => some (.sl [], st, true)
  | .sl xs => some (.sl xs, st, false)
  | .ow k v => match st.slc k v with
    | some (o, d, t, xs) => some (.sl xs, st.put k (.sl v false false t xs), o && d)
    | none => none
  | .int k n => some (.int k n, st, true)
  | .bool b => some (.bool b, st, true)
  | .str s => some (.str s, st, true)
  | .fn g => some (.fn g, st, true)
  | .nilf => some (.nilf, st, true)
  | .nili => some (.nili, st, true)
  | _ => none
def St.dps (st : St) : List D → Option (List D × St × Bool)
  | [] => some ([], st, true)
  | d :: ds => match st.dp d with
    | some (d', st', b) => match st'.dps ds with
      | some (ds', st'', b') => some (d' :: ds', st'', b && b')
      | none => none
    | none => none
/-- The elements of a slice. -/
def St.els (st : St) : D → Option (List (List D))
  | .nils => some []
  | .sl xs => some xs
  | .ow k v => match st.slc k v with
    | some (_, _, _, xs) => some xs
    | none => none
  | .sa k v o n e => match st.ptr k v with
    | some (_, ds) => if o + n * e ≤ ds.length ∧ leafs ((ds.drop o).take (n * e)) = true then some (chunks e n ((ds.drop o).take (n * e))) else none
    | none => none
  | _ => none
def strD (s : ByteArray) : List (List D) := s.data.toList.map fun b => [.int .u8 (b.toNat : Int)]
def bytD : List (List D) → Option ByteArray
  | [] => some ByteArray.empty
  | [.int .u8 n] :: r => match bytD r with
    | some b => some ⟨#[UInt8.ofNat n.toNat] ++ b.data⟩
    | none => none
  | _ :: _ => none
def boundU (f : UT) (x : Option X) (dflt : Nat) : Option Int :=
  match x with
  | none => some (dflt : Int)
  | some x => match uv1 f x with
    | some (.int _ i) => some i
    | _ => none
/-- What is appended or copied: the elements; whether what they lead to is now the target's. -/
def srcD (st : St) (esz : Nat) (d : D) : Option (List (List D) × St × Bool) :=
  match d with
  | .str s => if esz = 1 then some (strD s, st, true) else none
  | d => match st.els d with
    | some ys => if wid esz ys = true then
        (if flat ys = true then some (ys, st, true) else match d with
          | .ow k v => match st.slc k v with
            | some (o, dp, t, xs) => some (ys, st.put k (.sl v o false t xs), o && dp)
            | none => none
          | _ => some (ys, st, false)) else none
    | none => none
def srcU (f : UT) (st : St) (esz : Nat) : X → Option (List (List D) × St × Bool)
  | .s t => match UF f t with
    | .lsl ds n e => if e = esz ∧ ds.length = n * esz then (match st.dps ds with
        | some (ds', st', b) => some (chunks esz n ds', st', b)
        | none => none) else none
    | .val false [d] => srcD st esz d
    | _ => none
  | .c (.val false [c]) => match cD c with
    | some d => srcD st esz d
    | none => none
  | .c _ => none
def binD (op : B2) (x y : D) : Option D :=
  match dC x, dC y with
  | some a, some b => match bin2 op a b with
    | some c => cD c
    | none => none
  | _, _ => none
def tyOk (t : Option (Nat × Nat)) (ty e : Nat) : Bool :=
  match t with
  | none => true
  | some p => decide (p = (ty, e))
/-- The run of an instruction that is no call. -/
def vai (a : AI) (f : UT) (st : St) : Option (UT × St) :=
  match a with
  | .mov d x => match evU f x with
    | .box _ => none
    | .lsl _ _ _ => none
    | .any => none
    | v => some (UW f d v, st)
  | .pick d c a b => match uv1 f c with
    | some (.bool true) => match uvp f a with | some (g, cs) => some (UW f d (.val g cs), st) | none => none
    | some (.bool false) => match uvp f b with | some (g, cs) => some (UW f d (.val g cs), st) | none => none
    | _ => none
  | .lbox d x => match UF f d with
    | .box _ => none
    | _ => match uvp f x with
      | some (_, cs) => some (UW f d (.box cs), st)
      | none => none
  | .lal d cs => match UF f d with
    | .box _ => none
    | _ => match cDs cs with
      | some ds => some (UW f d (.box ds), st)
      | none => none
  | .hbox d ty x => match uvp f x with
    | some (_, ds) => some (UW f d (.val false [.pt d st.nx 0]), st.newp d ty ds)
    | none => none
  | .hal d ty cs => match cDs cs with
    | some ds => some (UW f d (.val false [.pt d st.nx 0]), st.newp d ty ds)
    | none => none
  | .bld d z ps => match cDs z with
    | some z => match fillD f z ps with
      | some ds => some (UW f d (.val true ds), st)
      | none => none
    | none => none
  | .bsl d ty esz len z ps => match cDs z with
    | some z => match fillD f ((List.replicate len z).flatten) ps with
      | some ds => match st.dps ds with
        | some (ds', st', b) => if ds'.length = len * esz then some (UW f d (.val false [.ow d st'.nx]), st'.news d true b (some (ty, esz)) (chunks esz len ds')) else none
        | none => none
      | none => none
    | none => none
  | .bse d => some (UW f d (.val false [.ow d st.nx]), st.news d true true none [])
  | .lsl d esz len z ps => match cDs z with
    | some z => match fillD f ((List.replicate len z).flatten) ps with
      | some ds => some (UW f d (.lsl ds len esz), st)
      | none => none
    | none => none
  | .fad d x off => match evU f x with
    | .lref r o => some (UW f d (.lref r (o + off)), st)
    | .val false [.pt k v o] => match st.ptr k v with
      | some _ => some (UW f d (.val false [.pt k v (o + off)]), st)
      | none => none
    | .val false [.pe x o] => some (UW f d (.val false [.pe x (o + off)]), st)
    | .val false [.px k v j o] => match st.slc k v with
      | some (true, _) => some (UW f d (.val false [.px k v j (o + off)]), st)
      | _ => none
    | _ => none
  | .iad d x i esz => match uv1 f x, uv1 f i with
    | some c, some (.int _ j) => if 0 ≤ j then (match c with
      | .sl xs => match xs[j.toNat]? with
        | some x => if x.length = esz then some (UW f d (.val false [.pe x 0]), st) else none
        | none => none
      | .ow k v => match st.slc k v with
        | some (o, _, _, xs) => match xs[j.toNat]? with
          | some x => if x.length = esz then some (UW f d (.val false [if o then .px k v j.toNat 0 else .pe x 0]), st) else none
          | none => none
        | none => none
      | .sa k v o n e => match st.ptr k v with
        | some _ => if e = esz ∧ j < (n : Int) then some (UW f d (.val false [.pt k v (o + j.toNat * esz)]), st) else none
        | none => none
      | _ => none) else none
    | _, _ => none
  | .iaa d x i esz len => match uv1 f i with
    | some (.int _ j) =>
      if 0 ≤ j ∧ j < (len : Int) then match evU f x with
        | .lref r o => some (UW f d (.lref r (o + j.toNat * esz)), st)
        | .val false [.pt k v o] => match st.ptr k v with
          | some _ => some (UW f d (.val false [.pt k v (o + j.toNat * esz)]), st)
          | none => none
        | _ => none
      else none
    | _ => none
  | .ldl d r x n g => match evU f x with
    | .lref r' o => match UF f r with
      | .box ds => if r' = r ∧ o + n ≤ ds.length then some (UW f d (.val g ((ds.drop o).take n)), st) else none
      | _ => none
    | _ => none
  | .ldh d x n g => match uv1 f x with
    | some (.pt k v o) => match st.ptr k v with
      | some (_, ds) => if o + n ≤ ds.length then some (UW f d (.val g ((ds.drop o).take n)), st) else none
      | none => none
    | some (.pe x o) => if o + n ≤ x.length then some (UW f d (.val g ((x.drop o).take n)), st) else none
    | some (.px k v j o) => match st.slc k v with
      | some (true, _, _, xs) => match xs[j]? with
        | some x => if o + n ≤ x.length then some (UW f d (.val g ((x.drop o).take n)), st) else none
        | none => none
      | _ => none
    | _ => none
  | .stl r x v n => match evU f x, uvp f v with
    | .lref r' o, some (_, vs) => match UF f r with
      | .box ds => if r' = r ∧ vs.length = n ∧ o + n ≤ ds.length then some (UW f r (.box (setL ds o vs)), st) else none
      | _ => none
    | _, _ => none
  | .sth x v n => match uv1 f x, uvp f v with
    | some (.pt k w o), some (_, vs) => match st.ptr k w with
      | some (ty, ds) => if vs.length = n ∧ o + n ≤ ds.length then some (f, st.put k (.pt w ty (setL ds o vs))) else none
      | none => none
    | some (.px k w j o), some (_, vs) => match st.dps vs with
      | some (vs', st', b) => match st'.slc k w with
        | some (true, dp, t, xs) => match xs[j]? with
          | some x => if vs.length = n ∧ o + n ≤ x.length then some (f, st'.put k (.sl w true (dp && leafs vs && leafs x) t (xs.set j (setL x o vs')))) else none
          | none => none
        | _ => none
      | none => none
    | _, _ => none
  | .bin d op x y => match uv1 f x, uv1 f y with
    | some a, some b => match binD op a b with
      | some c => some (UW f d (.val false [c]), st)
      | none => none
    | _, _ => none
  | .beq d neg x y => match uv1 f x, uv1 f y with
    | some (.bool a), some (.bool b) => some (UW f d (.val false [.bool (if neg then !(a == b) else (a == b))]), st)
    | _, _ => none
  | .snil d neg x => match uv1 f x with
    | some .nils => some (UW f d (.val false [.bool (!neg)]), st)
    | some c => match st.els c with
      | some xs => if xs.isEmpty then none else some (UW f d (.val false [.bool neg]), st)
      | none => none
    | _ => none
  | .geq d neg x y => match uvp f x, uvp f y with
    | some (true, a), some (true, b) => match dCs a, dCs b with
      | some a, some b => match eqCs a b with
        | some r => some (UW f d (.val false [.bool (if neg then !r else r)]), st)
        | none => none
      | _, _ => none
    | _, _ => none
  | .neg d x => match uv1 f x with
    | some (.int k n) => some (UW f d (.val false [.int k (k.wrap (0 - n))]), st)
    | _ => none
  | .not d x => match uv1 f x with
    | some (.bool b) => some (UW f d (.val false [.bool (!b)]), st)
    | _ => none
  | .cvi d k x => match uv1 f x with
    | some (.int _ n) => some (UW f d (.val false [.int k (k.wrap n)]), st)
    | _ => none
  | .cbs d x => match uv1 f x with
    | some c => match st.els c with
      | some xs => match bytD xs with
        | some b => some (UW f d (.val false [.str b]), st)
        | none => none
      | none => none
    | none => none
  | .mks d ty esz bytes z x => match uv1 f x with
    | some (.int .i64 n) => match zDs z with
      | some z' => if 0 ≤ n ∧ inRoom (n.toNat * bytes + n.toNat) = true ∧ z'.length = esz then
            some (UW f d (.val false [.ow d st.nx]), st.news d true true (some (ty, esz)) (List.replicate n.toNat z')) else none
      | none => none
    | _ => none
  | .slc d esz x lo hi => match uv1 f x with
    | some .nils => match boundU f lo 0, boundU f hi 0 with
      | some l, some u => if l = 0 ∧ u = 0 then some (UW f d (.val false [.nils]), st) else none
      | _, _ => none
    | some (.sl xs) => match boundU f lo 0, boundU f hi xs.length with
      | some l, some u => if wid esz xs = true ∧ 0 ≤ l ∧ l ≤ u ∧ u ≤ (xs.length : Int) then some (UW f d (.val false [.sl ((xs.drop l.toNat).take (u - l).toNat)]), st) else none
      | _, _ => none
    | some (.ow k v) => match st.slc k v with
      | some (_, _, t, xs) => match boundU f lo 0, boundU f hi xs.length with
        | some l, some u => if wid esz xs = true ∧ 0 ≤ l ∧ l ≤ u ∧ u ≤ (xs.length : Int) then
            some (UW f d (.val false [.sl ((xs.drop l.toNat).take (u - l).toNat)]), st.put k (.sl v false false t xs)) else none
        | _, _ => none
      | none => none
    | some (.sa k v o n e) => match st.ptr k v with
      | some _ => match boundU f lo 0, boundU f hi n with
        | some l, some u => if e = esz ∧ 0 ≤ l ∧ l ≤ u ∧ u ≤ (n : Int) then some (UW f d (.val false [.sa k v (o + l.toNat * e) (u - l).toNat e]), st) else none
        | _, _ => none
      | none => none
    | _ => none
  | .sls d x lo hi => match uv1 f x with
    | some (.str s) => match boundU f lo 0, boundU f hi s.size with
      | some l, some u => if 0 ≤ l ∧ l ≤ u ∧ u ≤ (s.size : Int) then some (UW f d (.val false [.str (s.extract l.toNat u.toNat)]), st) else none
      | _, _ => none
    | _ => none
  | .sla d x len esz => match uv1 f x with
    | some (.pt k v o) => match st.ptr k v with
      | some (_, ds) => if o + len * esz ≤ ds.length then some (UW f d (.val false [.sa k v o len esz]), st) else none
      | none => none
    | _ => none
  | .fld d x off n g => match uvp f x with
    | some (true, ds) => if off + n ≤ ds.length then some (UW f d (.val g ((ds.drop off).take n)), st) else none
    | _ => none
  | .idx d x i esz len g => match uvp f x, uv1 f i with
    | some (true, ds), some (.int _ j) =>
      if 0 ≤ j ∧ j < (len : Int) ∧ j.toNat * esz + esz ≤ ds.length then some (UW f d (.val g ((ds.drop (j.toNat * esz)).take esz)), st) else none
    | _, _ => none
  | .ids d x i => match uv1 f x, uv1 f i with
    | some (.str s), some (.int _ j) =>
      if 0 ≤ j then match s.data.toList[j.toNat]? with
        | some b => some (UW f d (.val false [.int .u8 (b.toNat : Int)]), st)
        | none => none
      else none
    | _, _ => none
  | .ext d x i => match evU f x with
    | .tup vs => match vs[i]? with
      | some (g, ds) => some (UW f d (.val g ds), st)
      | none => none
    | _ => none
  | .nch d x => match evU f x with
    | .lref r o => some (UW f d (.lref r o), st)
    | .val false [.pt k v o] => match st.ptr k v with
      | some _ => some (UW f d (.val false [.pt k v o]), st)
      | none => none
    | .val false [.pe x o] => some (UW f d (.val false [.pe x o]), st)
    | .val false [.px k v j o] => match st.slc k v with
      | some (true, _) => some (UW f d (.val false [.px k v j o]), st)
      | _ => none
    | .val false [.fn g] => some (UW f d (.val false [.fn g]), st)
    | _ => none
  | .len d s x => match s, uv1 f x with
    | false, some c => match st.els c with
      | some xs => some (UW f d (.val false [.int .i64 (xs.length : Int)]), st)
      | none => none
    | true, some (.str s) => some (UW f d (.val false [.int .i64 (s.size : Int)]), st)
    | _, _ => none
  | .app d ty esz bytes x y => match uv1 f x, srcU f st esz y with
    | some a, some (ys, st', b) => match a with
      | .nils => if inRoom (ys.length * bytes + ys.length) = true then some (UW f d (.val false [.ow d st'.nx]), st'.news d true b (some (ty, esz)) ys) else none
      | .ow k v => match st'.slc k v with
        | some (true, dp, t, xs) => if tyOk t ty esz = true ∧ inRoom ((xs.length + ys.length) * bytes + (xs.length + ys.length)) = true then
            some (UW f d (.val false [.ow k st'.nx]), st'.news k true (dp && b) (some (ty, esz)) (xs ++ ys)) else none
        | _ => none
      | _ => none
    | _, _ => none
  | .cpy d esz x y => match uv1 f x, srcU f st esz y with
    | some (.ow k v), some (ys, _, _) => match st.slc k v with
      | some (true, dp, t, xs) => if flat ys = true ∧ flat xs = true ∧ xs.isEmpty = false ∧ wid esz xs = true ∧ wid esz ys = true then
          some (UW f d (.val false [.int .i64 ((min ys.length xs.length : Nat) : Int)]), st.put k (.sl v true dp t (ys.take (min ys.length xs.length) ++ xs.drop (min ys.length xs.length)))) else none
      | _ => none
    | some (.sa k v o n e), some (ys, _, _) => match st.ptr k v with
      | some (ty, ds) => if flat ys = true ∧ e = esz ∧ wid esz ys = true ∧ o + n * e ≤ ds.length then
          some (UW f d (.val false [.int .i64 ((min ys.length n : Nat) : Int)]), st.put k (.pt v ty (setL ds o (ys.take (min ys.length n)).flatten))) else none
      | none => none
    | _, _ => none
  | .mm d mx x y => match uv1 f x, uv1 f y with
    | some (.int .i64 a), some (.int .i64 b) => some (UW f d (.val false [.int .i64 (if mx then (if a < b then b else a) else (if b < a then b else a))]), st)
    | _, _ => none
  | .call .. => none
  | .clv .. => none
end Go.Eng
