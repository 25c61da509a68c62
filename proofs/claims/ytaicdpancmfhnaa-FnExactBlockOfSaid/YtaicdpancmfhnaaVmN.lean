/-
  The value machine, part N: its equations as one.
-/
import Derived.Test.YtaicdpancmfhnaaVmM
set_option linter.unusedVariables false
set_option linter.unusedSimpArgs false
set_option maxRecDepth 100000
namespace Go.Eng
theorem srcD_nils (st : St) (e : Nat) : srcD st e .nils = some ([], st, true) := by simp [srcD, St.els, wid, flat]
theorem VE : (∀ (f : UT) (st : St) d x, vai (.mov d x) f st = (match evU f x with
          | .box _ => none
          | .lsl _ _ _ => none
          | .any => none
          | v => some (UW f d v, st))) ∧
    (∀ (f : UT) (st : St) d c a b, vai (.pick d c a b) f st = (match uv1 f c with
          | some (.bool true) => match uvp f a with | some (g, cs) => some (UW f d (.val g cs), st) | none => none
          | some (.bool false) => match uvp f b with | some (g, cs) => some (UW f d (.val g cs), st) | none => none
          | _ => none)) ∧
    (∀ (f : UT) (st : St) d x, vai (.lbox d x) f st = (match UF f d with
          | .box _ => none
          | _ => match uvp f x with
            | some (_, cs) => some (UW f d (.box cs), st)
            | none => none)) ∧
    (∀ (f : UT) (st : St) d cs, vai (.lal d cs) f st = (match UF f d with
          | .box _ => none
          | _ => match cDs cs with
            | some ds => some (UW f d (.box ds), st)
            | none => none)) ∧
    (∀ (f : UT) (st : St) d ty x, vai (.hbox d ty x) f st = (match uvp f x with
          | some (_, ds) => some (UW f d (.val false [.pt d st.nx 0]), st.newp d ty ds)
          | none => none)) ∧
    (∀ (f : UT) (st : St) d ty cs, vai (.hal d ty cs) f st = (match cDs cs with
          | some ds => some (UW f d (.val false [.pt d st.nx 0]), st.newp d ty ds)
          | none => none)) ∧
    (∀ (f : UT) (st : St) d z ps, vai (.bld d z ps) f st = (match cDs z with
          | some z => match fillD f z ps with
            | some ds => some (UW f d (.val true ds), st)
            | none => none
          | none => none)) ∧
    (∀ (f : UT) (st : St) d ty esz len z ps, vai (.bsl d ty esz len z ps) f st = (match cDs z with
          | some z => match fillD f ((List.replicate len z).flatten) ps with
            | some ds => match st.dps ds with
              | some (ds', st', b) => if ds'.length = len * esz then some (UW f d (.val false [.ow d st'.nx]), st'.news d true b (some (ty, esz)) (chunks esz len ds')) else none
              | none => none
            | none => none
          | none => none)) ∧
    (∀ (f : UT) (st : St) d, vai (.bse d) f st = (some (UW f d (.val false [.ow d st.nx]), st.news d true true none []))) ∧
    (∀ (f : UT) (st : St) d esz len z ps, vai (.lsl d esz len z ps) f st = (match cDs z with
          | some z => match fillD f ((List.replicate len z).flatten) ps with
            | some ds => some (UW f d (.lsl ds len esz), st)
            | none => none
          | none => none)) ∧
    (∀ (f : UT) (st : St) d x off, vai (.fad d x off) f st = (match evU f x with
          | .lref r o => some (UW f d (.lref r (o + off)), st)
          | .val false [.pt k v o] => match st.ptr k v with
            | some _ => some (UW f d (.val false [.pt k v (o + off)]), st)
            | none => none
          | .val false [.pe x o] => some (UW f d (.val false [.pe x (o + off)]), st)
          | .val false [.px k v j o] => match st.slc k v with
            | some (true, _) => some (UW f d (.val false [.px k v j (o + off)]), st)
            | _ => none
          | _ => none)) ∧
    (∀ (f : UT) (st : St) d x i esz, vai (.iad d x i esz) f st = (match uv1 f x, uv1 f i with
          | some c, some (.int _ j) => if 0 ≤ j then (match c with
            | .sl xs => match xs[j.toNat]? with
              | some x => if x.length = esz then some (UW f d (.val false [.pe x 0]), st) else none
              | none => none
            | .ow k v => match st.slc k v with
              | some (o, _, _, xs) => match xs[j.toNat]? with
                | some x => if x.length = esz then some (UW f d (.val false [if o then .px k v j.toNat 0 else .pe x 0]), st) else none
                | none => none
              | none => none
            | .sa k v o n e => match st.ptr k v with
              | some _ => if e = esz ∧ j < (n : Int) then some (UW f d (.val false [.pt k v (o + j.toNat * esz)]), st) else none
              | none => none
            | _ => none) else none
          | _, _ => none)) ∧
    (∀ (f : UT) (st : St) d x i esz len, vai (.iaa d x i esz len) f st = (match uv1 f i with
          | some (.int _ j) =>
            if 0 ≤ j ∧ j < (len : Int) then match evU f x with
              | .lref r o => some (UW f d (.lref r (o + j.toNat * esz)), st)
              | .val false [.pt k v o] => match st.ptr k v with
                | some _ => some (UW f d (.val false [.pt k v (o + j.toNat * esz)]), st)
                | none => none
              | _ => none
            else none
          | _ => none)) ∧
    (∀ (f : UT) (st : St) d r x n g, vai (.ldl d r x n g) f st = (match evU f x with
          | .lref r' o => match UF f r with
            | .box ds => if r' = r ∧ o + n ≤ ds.length then some (UW f d (.val g ((ds.drop o).take n)), st) else none
            | _ => none
          | _ => none)) ∧
    (∀ (f : UT) (st : St) d x n g, vai (.ldh d x n g) f st = (match uv1 f x with
          | some (.pt k v o) => match st.ptr k v with
            | some (_, ds) => if o + n ≤ ds.length then some (UW f d (.val g ((ds.drop o).take n)), st) else none
            | none => none
          | some (.pe x o) => if o + n ≤ x.length then some (UW f d (.val g ((x.drop o).take n)), st) else none
          | some (.px k v j o) => match st.slc k v with
            | some (true, _, _, xs) => match xs[j]? with
              | some x => if o + n ≤ x.length then some (UW f d (.val g ((x.drop o).take n)), st) else none
              | none => none
            | _ => none
          | _ => none)) ∧
    (∀ (f : UT) (st : St) r x v n, vai (.stl r x v n) f st = (match evU f x, uvp f v with
          | .lref r' o, some (_, vs) => match UF f r with
            | .box ds => if r' = r ∧ vs.length = n ∧ o + n ≤ ds.length then some (UW f r (.box (setL ds o vs)), st) else none
            | _ => none
          | _, _ => none)) ∧
    (∀ (f : UT) (st : St) x v n, vai (.sth x v n) f st = (match uv1 f x, uvp f v with
          | some (.pt k w o), some (_, vs) => match st.ptr k w with
            | some (ty, ds) => if vs.length = n ∧ o + n ≤ ds.length then some (f, st.put k (.pt w ty (setL ds o vs))) else none
            | none => none
          | some (.px k w j o), some (_, vs) => match st.dps vs with
            | some (vs', st', b) => match st'.slc k w with
              | some (true, dp, t, xs) => match xs[j]? with
                | some x => if vs.length = n ∧ o + n ≤ x.length then some (f, st'.put k (.sl w true (dp && leafs vs && leafs x) t (xs.set j (setL x o vs')))) else none
                | none => none
              | _ => none
            | none => none
          | _, _ => none)) ∧
    (∀ (f : UT) (st : St) d op x y, vai (.bin d op x y) f st = (match uv1 f x, uv1 f y with
          | some a, some b => match binD op a b with
            | some c => some (UW f d (.val false [c]), st)
            | none => none
          | _, _ => none)) ∧
    (∀ (f : UT) (st : St) d neg x y, vai (.beq d neg x y) f st = (match uv1 f x, uv1 f y with
          | some (.bool a), some (.bool b) => some (UW f d (.val false [.bool (if neg then !(a == b) else (a == b))]), st)
          | _, _ => none)) ∧
    (∀ (f : UT) (st : St) d neg x, vai (.snil d neg x) f st = (match uv1 f x with
          | some .nils => some (UW f d (.val false [.bool (!neg)]), st)
          | some c => match st.els c with
            | some xs => if xs.isEmpty then none else some (UW f d (.val false [.bool neg]), st)
            | none => none
          | _ => none)) ∧
    (∀ (f : UT) (st : St) d neg x y, vai (.geq d neg x y) f st = (match uvp f x, uvp f y with
          | some (true, a), some (true, b) => match dCs a, dCs b with
            | some a, some b => match eqCs a b with
              | some r => some (UW f d (.val false [.bool (if neg then !r else r)]), st)
              | none => none
            | _, _ => none
          | _, _ => none)) ∧
    (∀ (f : UT) (st : St) d x, vai (.neg d x) f st = (match uv1 f x with
          | some (.int k n) => some (UW f d (.val false [.int k (k.wrap (0 - n))]), st)
          | _ => none)) ∧
    (∀ (f : UT) (st : St) d x, vai (.not d x) f st = (match uv1 f x with
          | some (.bool b) => some (UW f d (.val false [.bool (!b)]), st)
          | _ => none)) ∧
    (∀ (f : UT) (st : St) d k x, vai (.cvi d k x) f st = (match uv1 f x with
          | some (.int _ n) => some (UW f d (.val false [.int k (k.wrap n)]), st)
          | _ => none)) ∧
    (∀ (f : UT) (st : St) d x, vai (.cbs d x) f st = (match uv1 f x with
          | some c => match st.els c with
            | some xs => match bytD xs with
              | some b => some (UW f d (.val false [.str b]), st)
              | none => none
            | none => none
          | none => none)) ∧
    (∀ (f : UT) (st : St) d ty esz bytes z x, vai (.mks d ty esz bytes z x) f st = (match uv1 f x with
          | some (.int .i64 n) => match zDs z with
            | some z' => if 0 ≤ n ∧ inRoom (n.toNat * bytes + n.toNat) = true ∧ z'.length = esz then
                  some (UW f d (.val false [.ow d st.nx]), st.news d true true (some (ty, esz)) (List.replicate n.toNat z')) else none
            | none => none
          | _ => none)) ∧
    (∀ (f : UT) (st : St) d esz x lo hi, vai (.slc d esz x lo hi) f st = (match uv1 f x with
          | some .nils => match boundU f lo 0, boundU f hi 0 with
            | some l, some u => if l = 0 ∧ u = 0 then some (UW f d (.val false [.nils]), st) else none
            | _, _ => none
          | some (.sl xs) => match boundU f lo 0, boundU f hi xs.length with
            | some l, some u => if wid esz xs = true ∧ 0 ≤ l ∧ l ≤ u ∧ u ≤ (xs.length : Int) then some (UW f d (.val false [.sl ((xs.drop l.toNat).take (u - l).toNat)]), st) else none
            | _, _ => none
          | some (.ow k v) => match st.slc k v with
            | some (_, _, t, xs) => match boundU f lo 0, boundU f hi xs.length with
              | some l, some u => if wid esz xs = true ∧ 0 ≤ l ∧ l ≤ u ∧ u ≤ (xs.length : Int) then
                  some (UW f d (.val false [.sl ((xs.drop l.toNat).take (u - l).toNat)]), st.put k (.sl v false false t xs)) else none
              | _, _ => none
            | none => none
          | some (.sa k v o n e) => match st.ptr k v with
            | some _ => match boundU f lo 0, boundU f hi n with
              | some l, some u => if e = esz ∧ 0 ≤ l ∧ l ≤ u ∧ u ≤ (n : Int) then some (UW f d (.val false [.sa k v (o + l.toNat * e) (u - l).toNat e]), st) else none
              | _, _ => none
            | none => none
          | _ => none)) ∧
    (∀ (f : UT) (st : St) d x lo hi, vai (.sls d x lo hi) f st = (match uv1 f x with
          | some (.str s) => match boundU f lo 0, boundU f hi s.size with
            | some l, some u => if 0 ≤ l ∧ l ≤ u ∧ u ≤ (s.size : Int) then some (UW f d (.val false [.str (s.extract l.toNat u.toNat)]), st) else none
            | _, _ => none
          | _ => none)) ∧
    (∀ (f : UT) (st : St) d x len esz, vai (.sla d x len esz) f st = (match uv1 f x with
          | some (.pt k v o) => match st.ptr k v with
            | some (_, ds) => if o + len * esz ≤ ds.length then some (UW f d (.val false [.sa k v o len esz]), st) else none
            | none => none
          | _ => none)) ∧
    (∀ (f : UT) (st : St) d x off n g, vai (.fld d x off n g) f st = (match uvp f x with
          | some (true, ds) => if off + n ≤ ds.length then some (UW f d (.val g ((ds.drop off).take n)), st) else none
          | _ => none)) ∧
    (∀ (f : UT) (st : St) d x i esz len g, vai (.idx d x i esz len g) f st = (match uvp f x, uv1 f i with
          | some (true, ds), some (.int _ j) =>
            if 0 ≤ j ∧ j < (len : Int) ∧ j.toNat * esz + esz ≤ ds.length then some (UW f d (.val g ((ds.drop (j.toNat * esz)).take esz)), st) else none
          | _, _ => none)) ∧
    (∀ (f : UT) (st : St) d x i, vai (.ids d x i) f st = (match uv1 f x, uv1 f i with
          | some (.str s), some (.int _ j) =>
            if 0 ≤ j then match s.data.toList[j.toNat]? with
              | some b => some (UW f d (.val false [.int .u8 (b.toNat : Int)]), st)
              | none => none
            else none
          | _, _ => none)) ∧
    (∀ (f : UT) (st : St) d x i, vai (.ext d x i) f st = (match evU f x with
          | .tup vs => match vs[i]? with
            | some (g, ds) => some (UW f d (.val g ds), st)
            | none => none
          | _ => none)) ∧
    (∀ (f : UT) (st : St) d x, vai (.nch d x) f st = (match evU f x with
          | .lref r o => some (UW f d (.lref r o), st)
          | .val false [.pt k v o] => match st.ptr k v with
            | some _ => some (UW f d (.val false [.pt k v o]), st)
            | none => none
          | .val false [.pe x o] => some (UW f d (.val false [.pe x o]), st)
          | .val false [.px k v j o] => match st.slc k v with
            | some (true, _) => some (UW f d (.val false [.px k v j o]), st)
            | _ => none
          | .val false [.fn g] => some (UW f d (.val false [.fn g]), st)
          | _ => none)) ∧
    (∀ (f : UT) (st : St) d s x, vai (.len d s x) f st = (match s, uv1 f x with
          | false, some c => match st.els c with
            | some xs => some (UW f d (.val false [.int .i64 (xs.length : Int)]), st)
            | none => none
          | true, some (.str s) => some (UW f d (.val false [.int .i64 (s.size : Int)]), st)
          | _, _ => none)) ∧
    (∀ (f : UT) (st : St) d ty esz bytes x y, vai (.app d ty esz bytes x y) f st = (match uv1 f x, srcU f st esz y with
          | some a, some (ys, st', b) => match a with
            | .nils => if inRoom (ys.length * bytes + ys.length) = true then some (UW f d (.val false [.ow d st'.nx]), st'.news d true b (some (ty, esz)) ys) else none
            | .ow k v => match st'.slc k v with
              | some (true, dp, t, xs) => if tyOk t ty esz = true ∧ inRoom ((xs.length + ys.length) * bytes + (xs.length + ys.length)) = true then
                  some (UW f d (.val false [.ow k st'.nx]), st'.news k true (dp && b) (some (ty, esz)) (xs ++ ys)) else none
              | _ => none
            | _ => none
          | _, _ => none)) ∧
    (∀ (f : UT) (st : St) d esz x y, vai (.cpy d esz x y) f st = (match uv1 f x, srcU f st esz y with
          | some (.ow k v), some (ys, _, _) => match st.slc k v with
            | some (true, dp, t, xs) => if flat ys = true ∧ flat xs = true ∧ xs.isEmpty = false ∧ wid esz xs = true ∧ wid esz ys = true then
                some (UW f d (.val false [.int .i64 ((min ys.length xs.length : Nat) : Int)]), st.put k (.sl v true dp t (ys.take (min ys.length xs.length) ++ xs.drop (min ys.length xs.length)))) else none
            | _ => none
          | some (.sa k v o n e), some (ys, _, _) => match st.ptr k v with
            | some (ty, ds) => if flat ys = true ∧ e = esz ∧ wid esz ys = true ∧ o + n * e ≤ ds.length then
                some (UW f d (.val false [.int .i64 ((min ys.length n : Nat) : Int)]), st.put k (.pt v ty (setL ds o (ys.take (min ys.length n)).flatten))) else none
            | none => none
          | _, _ => none)) ∧
    (∀ (f : UT) (st : St) d mx x y, vai (.mm d mx x y) f st = (match uv1 f x, uv1 f y with
          | some (.int .i64 a), some (.int .i64 b) => some (UW f d (.val false [.int .i64 (if mx then (if a < b then b else a) else (if b < a then b else a))]), st)
          | _, _ => none)) ∧
    (∀ f s, UF f s = UT.get f (K.of s)) ∧
    (∀ f s v, UW f s v = UT.set f (K.of s) v) ∧
    (∀ k, UT.get .leaf k = .any) ∧
    (∀ l v r, UT.get (.node l v r) .z = v) ∧
    (∀ l v r k, UT.get (.node l v r) (.o k) = l.get k) ∧
    (∀ l v r k, UT.get (.node l v r) (.i k) = r.get k) ∧
    (∀ v, UT.set .leaf .z v = .node .leaf v .leaf) ∧
    (∀ k v, UT.set .leaf (.o k) v = .node (UT.set .leaf k v) .any .leaf) ∧
    (∀ k v, UT.set .leaf (.i k) v = .node .leaf .any (UT.set .leaf k v)) ∧
    (∀ l u r v, UT.set (.node l u r) .z v = .node l v r) ∧
    (∀ l u r k v, UT.set (.node l u r) (.o k) v = .node (l.set k v) u r) ∧
    (∀ l u r k v, UT.set (.node l u r) (.i k) v = .node l u (r.set k v)) ∧
    (UT.full 0 = .leaf) ∧
    (UT.full 1 = .node .leaf .any .leaf) ∧
    (∀ d, UT.full (d + 1) = .node (UT.full d) .any (UT.full d)) ∧
    (∀ f n, enterU f n [] = f) ∧
    (∀ f n g ds r, enterU f n ((g, ds) :: r) = enterU (UW f n (.val g ds)) (n + 1) r) ∧
    (∀ f d u, setDU f d u = (match d with | 0 => f | d + 1 => UW f d u)) ∧
    (∀ f, forgetU f [] = f) ∧
    (∀ f d ds, forgetU f (d :: ds) = forgetU (UW f d .any) ds) ∧
    (∀ f v, evU f (.c v) = cU v) ∧
    (∀ f t, evU f (.s t) = (match UF f t with | .box _ => .lref t 0 | v => v)) ∧
    (∀ g cs, cU (.val g cs) = (match cDs cs with | some ds => .val g ds | none => .any)) ∧
    (∀ f x, uvp f x = (match evU f x with | .val g ds => some (g, ds) | _ => none)) ∧
    (∀ f x, uv1 f x = (match evU f x with | .val false [d] => some d | _ => none)) ∧
    (∀ f ds, fillD f ds [] = some ds) ∧
    (∀ f ds off sz x r, fillD f ds ((off, sz, x) :: r) = (match uvp f x with | some (_, vs) => if vs.length = sz ∧ off + sz ≤ ds.length then fillD f (setL ds off vs) r else none | none => none)) ∧
    (∀ k n, cD (.int k n) = some (.int k n)) ∧
    (∀ b, cD (.bool b) = some (.bool b)) ∧
    (∀ s, cD (.str s) = some (.str s)) ∧
    (∀ g, cD (.fn g) = some (.fn g)) ∧
    (∀ k n, dC (.int k n) = some (.int k n)) ∧
    (∀ b, dC (.bool b) = some (.bool b)) ∧
    (∀ s, dC (.str s) = some (.str s)) ∧
    (∀ g, dC (.fn g) = some (.fn g)) ∧
    (cD .nilf = some .nilf) ∧
    (cD .nili = some .nili) ∧
    (cD .nilp = some .nilp) ∧
    (cD .nils = some .nils) ∧
    (cD .emp = some (.sl [])) ∧
    (cDs [] = some []) ∧
    (∀ c cs, cDs (c :: cs) = (match cD c, cDs cs with | some d, some ds => some (d :: ds) | _, _ => none)) ∧
    (∀ k n, zD (.int k n) = some (.int k n)) ∧
    (∀ b, zD (.bool b) = some (.bool b)) ∧
    (∀ s, zD (.str s) = some (.str s)) ∧
    (zD .nils = some (.sl [])) ∧
    (zD .nilf = some .nilf) ∧
    (zDs [] = some []) ∧
    (∀ c cs, zDs (c :: cs) = (match zD c, zDs cs with | some d, some ds => some (d :: ds) | _, _ => none)) ∧
    (dCs [] = some []) ∧
    (∀ c cs, dCs (c :: cs) = (match dC c, dCs cs with | some d, some ds => some (d :: ds) | _, _ => none)) ∧
    (∀ k n, D.leaf (.int k n) = true) ∧
    (∀ b, D.leaf (.bool b) = true) ∧
    (∀ s, D.leaf (.str s) = true) ∧
    (∀ g, D.leaf (.fn g) = true) ∧
    (D.leaf .nilf = true) ∧
    (D.leaf .nili = true) ∧
    (∀ xs, D.leaf (.sl xs) = false) ∧
    (D.leaf .nils = false) ∧
    (∀ k v, D.leaf (.ow k v) = false) ∧
    (leafs [] = true) ∧
    (∀ d ds, leafs (d :: ds) = (d.leaf && leafs ds)) ∧
    (flat [] = true) ∧
    (∀ x xs, flat (x :: xs) = (leafs x && flat xs)) ∧
    (∀ e, wid e [] = true) ∧
    (∀ e x xs, wid e (x :: xs) = ((x.length == e) && wid e xs)) ∧
    (∀ e ds, chunks e 0 ds = []) ∧
    (∀ e n ds, chunks e (n + 1) ds = ds.take e :: chunks e n (ds.drop e)) ∧
    (∀ st k v, St.slc st k v = (match lk k st.es with | some (.sl v' o d t xs) => if v' = v then some (o, d, t, xs) else none | _ => none)) ∧
    (∀ st k v, St.ptr st k v = (match lk k st.es with | some (.pt v' ty ds) => if v' = v then some (ty, ds) else none | _ => none)) ∧
    (∀ st k e, St.put st k e = ⟨st.nx, (k, e) :: st.es⟩) ∧
    (∀ st k own deep ty xs, St.news st k own deep ty xs = ⟨st.nx + 1, (k, .sl st.nx own deep ty xs) :: st.es⟩) ∧
    (∀ st k ty ds, St.newp st k ty ds = ⟨st.nx + 1, (k, .pt st.nx ty ds) :: st.es⟩) ∧
    (∀ k, lk k [] = none) ∧
    (∀ k k1 e r, lk k ((k1, e) :: r) = if k = k1 then some e else lk k r) ∧
    (∀ st, St.dp st .nils = some (.sl [], st, true)) ∧
    (∀ st xs, St.dp st (.sl xs) = some (.sl xs, st, false)) ∧
    (∀ st k v, St.dp st (.ow k v) = (match st.slc k v with | some (o, d, t, xs) => some (.sl xs, st.put k (.sl v false false t xs), o && d) | none => none)) ∧
    (∀ st k n, St.dp st (.int k n) = some (.int k n, st, true)) ∧
    (∀ st b, St.dp st (.bool b) = some (.bool b, st, true)) ∧
    (∀ st s, St.dp st (.str s) = some (.str s, st, true)) ∧
    (∀ st g, St.dp st (.fn g) = some (.fn g, st, true)) ∧
    (∀ st, St.dps st [] = some ([], st, true)) ∧
    (∀ st d ds, St.dps st (d :: ds) = (match st.dp d with | some (d', st', b) => (match st'.dps ds with | some (ds', st'', b') => some (d' :: ds', st'', b && b') | none => none) | none => none)) ∧
    (∀ st, St.els st .nils = some []) ∧
    (∀ st xs, St.els st (.sl xs) = some xs) ∧
    (∀ st k v, St.els st (.ow k v) = (match st.slc k v with | some (_, _, _, xs) => some xs | none => none)) ∧
    (∀ st k v o n e, St.els st (.sa k v o n e) = (match st.ptr k v with | some (_, ds) => if o + n * e ≤ ds.length ∧ leafs ((ds.drop o).take (n * e)) = true then some (chunks e n ((ds.drop o).take (n * e))) else none | none => none)) ∧
    (∀ f n, boundU f none n = some (n : Int)) ∧
    (∀ f x n, boundU f (some x) n = (match uv1 f x with | some (.int _ i) => some i | _ => none)) ∧
    (∀ st e s, srcD st e (.str s) = if e = 1 then some (strD s, st, true) else none) ∧
    (∀ st e, srcD st e .nils = some ([], st, true)) ∧
    (∀ st e xs, srcD st e (.sl xs) = if wid e xs = true then (if flat xs = true then some (xs, st, true) else some (xs, st, false)) else none) ∧
    (∀ st e k v, srcD st e (.ow k v) = (match St.els st (.ow k v) with | some ys => if wid e ys = true then (if flat ys = true then some (ys, st, true) else (match st.slc k v with | some (o, dp, t, xs) => some (ys, st.put k (.sl v o false t xs), o && dp) | none => none)) else none | none => none)) ∧
    (∀ f st e t, srcU f st e (.s t) = (match UF f t with | .lsl ds n e' => if e' = e ∧ ds.length = n * e then (match st.dps ds with | some (ds', st', b) => some (chunks e n ds', st', b) | none => none) else none | .val false [d] => srcD st e d | _ => none)) ∧
    (∀ f st e c, srcU f st e (.c (.val false [c])) = (match cD c with | some d => srcD st e d | none => none)) ∧
    (∀ op x y, binD op x y = (match dC x, dC y with | some a, some b => (match bin2 op a b with | some c => cD c | none => none) | _, _ => none)) ∧
    (∀ ty e, tyOk none ty e = true) ∧
    (∀ p ty e, tyOk (some p) ty e = decide (p = (ty, e))) ∧
    (∀ f st R pd, finU f st R pd = (match resLU f R with | some ds => (match expR st ds [] with | some (rs, us) => (match expE st (pinD pd) us with | some (ps, _) => some (rs, ps) | none => none) | none => none) | none => none)) ∧
    (∀ f t, res1U f (.tmp t) = uvp f (.s t)) ∧
    (∀ f s n g, res1U f (.cell s n g) = (match UF f s with | .box ds => if n = ds.length then some (g, ds) else none | _ => none)) ∧
    (∀ f, resLU f [] = some []) ∧
    (∀ f r rs, resLU f (r :: rs) = (match res1U f r, resLU f rs with | some v, some vs => some (v :: vs) | _, _ => none)) ∧
    (pinD [] = []) ∧
    (∀ p r, pinD (p :: r) = .pt p.1 p.2 0 :: pinD r) ∧
    (∀ st us, expR st [] us = some ([], us)) ∧
    (∀ st g ds r us, expR st ((g, ds) :: r) us = (match expE st ds us with | some (es, us') => (match expR st r us' with | some (rs, us'') => some ((g, es) :: rs, us'') | none => none) | none => none)) ∧
    (∀ st us, expE st [] us = some ([], us)) ∧
    (∀ st k v o r us, expE st (.pt k v o :: r) us = (match st.ptr k v with | some (ty, ds) => if us.elem k || o != 0 then none else (match exp0 st ds (k :: us) with | some (xs, us') => (match expE st r us' with | some (es, us'') => some (.pt ty xs :: es, us'') | none => none) | none => none) | none => none)) ∧
    (∀ st k n r us, expE st (.int k n :: r) us = (match expE st r us with | some (es, us'') => some (.e (.p (.int k n)) :: es, us'') | none => none)) ∧
    (∀ st k n r us, exp0 st (.int k n :: r) us = (match exp0 st r us with | some (es, us'') => some (.p (.int k n) :: es, us'') | none => none)) ∧
    (∀ st b r us, expE st (.bool b :: r) us = (match expE st r us with | some (es, us'') => some (.e (.p (.bool b)) :: es, us'') | none => none)) ∧
    (∀ st b r us, exp0 st (.bool b :: r) us = (match exp0 st r us with | some (es, us'') => some (.p (.bool b) :: es, us'') | none => none)) ∧
    (∀ st s r us, expE st (.str s :: r) us = (match expE st r us with | some (es, us'') => some (.e (.p (.str s)) :: es, us'') | none => none)) ∧
    (∀ st s r us, exp0 st (.str s :: r) us = (match exp0 st r us with | some (es, us'') => some (.p (.str s) :: es, us'') | none => none)) ∧
    (∀ st g r us, expE st (.fn g :: r) us = (match expE st r us with | some (es, us'') => some (.e (.p (.fn g)) :: es, us'') | none => none)) ∧
    (∀ st g r us, exp0 st (.fn g :: r) us = (match exp0 st r us with | some (es, us'') => some (.p (.fn g) :: es, us'') | none => none)) ∧
    (∀ st xs r us, expE st (.sl xs :: r) us = (match expE st r us with | some (es, us'') => some (.e (.p (.sl xs)) :: es, us'') | none => none)) ∧
    (∀ st xs r us, exp0 st (.sl xs :: r) us = (match exp0 st r us with | some (es, us'') => some (.p (.sl xs) :: es, us'') | none => none)) ∧
    (∀ st  r us, expE st (.nilf :: r) us = (match expE st r us with | some (es, us'') => some (.e (.p (.nilf)) :: es, us'') | none => none)) ∧
    (∀ st  r us, exp0 st (.nilf :: r) us = (match exp0 st r us with | some (es, us'') => some (.p (.nilf) :: es, us'') | none => none)) ∧
    (∀ st  r us, expE st (.nili :: r) us = (match expE st r us with | some (es, us'') => some (.e (.p (.nili)) :: es, us'') | none => none)) ∧
    (∀ st  r us, exp0 st (.nili :: r) us = (match exp0 st r us with | some (es, us'') => some (.p (.nili) :: es, us'') | none => none)) ∧
    (∀ st  r us, expE st (.nilp :: r) us = (match expE st r us with | some (es, us'') => some (.e (.p (.nilp)) :: es, us'') | none => none)) ∧
    (∀ st  r us, exp0 st (.nilp :: r) us = (match exp0 st r us with | some (es, us'') => some (.p (.nilp) :: es, us'') | none => none)) ∧
    (∀ st  r us, expE st (.nils :: r) us = (match expE st r us with | some (es, us'') => some (.e (.p (.nils)) :: es, us'') | none => none)) ∧
    (∀ st  r us, exp0 st (.nils :: r) us = (match exp0 st r us with | some (es, us'') => some (.p (.nils) :: es, us'') | none => none)) ∧
    (∀ st k v r us, expE st (.ow k v :: r) us = (match exp0 st [.ow k v] us with | some ([x], us') => (match expE st r us' with | some (es, us'') => some (.e x :: es, us'') | none => none) | _ => none)) ∧
    (∀ st us, exp0 st [] us = some ([], us)) ∧
    (∀ st k v r us, exp0 st (.ow k v :: r) us = (match st.slc k v with | some (true, dp, t, xs) => if us.elem k then none else (match exp0 st r (k :: us) with | some (es, us') => some (.o dp t xs :: es, us') | none => none) | some (false, _, _, xs) => (match exp0 st r us with | some (es, us') => some (.p (.sl xs) :: es, us') | none => none) | none => none)) ∧
    (∀ id i k, exK id (.b i :: k) = if id = i then some k else exK id k) ∧
    (∀ id a k, exK id (.c a :: k) = exK id k) ∧
    (∀ id P k, exK id (.stop P :: k) = exK id k) ∧
    (szE [] = 0) ∧
    (∀ x r, szE (.e x :: r) = 1 + szE r) ∧
    (∀ t xs r, szE (.pt t xs :: r) = 1 + xs.length + szE r) ∧
    (szR [] = 0) ∧
    (∀ g es r, szR ((g, es) :: r) = szE es + szR r) ∧
    (mkP [] = []) ∧
    (∀ g ds r, mkP ((g, ds) :: r) = (g, ds.map E.p) :: mkP r) ∧
    (∀ f, argsU f [] = some []) ∧
    (∀ f x xs, argsU f (x :: xs) = (match uvp f x, argsU f xs with | some v, some vs => some (v :: vs) | _, _ => none)) ∧
    (∀ st, argD st .nils = some (.sl [])) ∧
    (∀ st k v, argD st (.ow k v) = (match st.slc k v with | some (_, _, _, xs) => some (.sl xs) | none => none)) ∧
    (∀ st k n, argD st (.int k n) = some (.int k n)) ∧
    (∀ st b, argD st (.bool b) = some (.bool b)) ∧
    (∀ st s, argD st (.str s) = some (.str s)) ∧
    (∀ st g, argD st (.fn g) = some (.fn g)) ∧
    (∀ st xs, argD st (.sl xs) = some (.sl xs)) ∧
    (∀ st , argD st (.nilf) = some (.nilf)) ∧
    (∀ st , argD st (.nili) = some (.nili)) ∧
    (∀ st k v o n e, argD st (.sa k v o n e) = (match st.els (.sa k v o n e) with | some xs => some (.sl xs) | none => none)) ∧
    (∀ st, argDs st [] = some []) ∧
    (∀ st d ds, argDs st (d :: ds) = (match argD st d, argDs st ds with | some a, some r => some (a :: r) | _, _ => none)) ∧
    (∀ st, argsD st [] = some []) ∧
    (∀ st g ds r, argsD st ((g, ds) :: r) = (match argDs st ds, argsD st r with | some a, some b => some ((g, a) :: b) | _, _ => none)) ∧
    (∀ st k v, frzD st (.ow k v) = (match st.slc k v with | some (_, _, t, xs) => st.put k (.sl v false false t xs) | none => st)) ∧
    (∀ st k n, frzD st (.int k n) = st) ∧
    (∀ st k n, sfD st (.int k n) = true) ∧
    (∀ st b, frzD st (.bool b) = st) ∧
    (∀ st b, sfD st (.bool b) = true) ∧
    (∀ st s, frzD st (.str s) = st) ∧
    (∀ st s, sfD st (.str s) = true) ∧
    (∀ st g, frzD st (.fn g) = st) ∧
    (∀ st g, sfD st (.fn g) = true) ∧
    (∀ st xs, frzD st (.sl xs) = st) ∧
    (∀ st xs, sfD st (.sl xs) = true) ∧
    (∀ st , frzD st (.nils) = st) ∧
    (∀ st , sfD st (.nils) = true) ∧
    (∀ st k v, sfD st (.ow k v) = (match st.slc k v with | some (false, _) => true | _ => false)) ∧
    (∀ st, frzDs st [] = st) ∧
    (∀ st d ds, frzDs st (d :: ds) = frzDs (frzD st d) ds) ∧
    (∀ st, frzA st [] = st) ∧
    (∀ st g ds r, frzA st ((g, ds) :: r) = frzA (frzDs st ds) r) ∧
    (∀ st, sfDs st [] = true) ∧
    (∀ st d ds, sfDs st (d :: ds) = (sfD st d && sfDs st ds)) ∧
    (∀ st, sfA st [] = true) ∧
    (∀ st g ds r, sfA st ((g, ds) :: r) = (sfDs st ds && sfA st r)) ∧
    (∀ f st d rs, retF f st d rs = setDU f d (valU (impR (keyC d) st.nx rs).1)) ∧
    (∀ st d rs, retS st d rs = ⟨st.nx + szR rs, (impR (keyC d) st.nx rs).2 ++ st.es⟩) ∧
    (∀ g d, valU [(g, d)] = .val g d) ∧
    (valU [] = .tup []) ∧
    (∀ a b l, valU (a :: b :: l) = .tup (a :: b :: l)) ∧
    (∀ d, keyC d = 8192 * (d + 1)) ∧
    (∀ k v, impR k v [] = ([], [])) ∧
    (∀ k v g es r, impR k v ((g, es) :: r) = ((g, (impE k v es).1) :: (impR (k + szE es) (v + szE es) r).1, (impE k v es).2 ++ (impR (k + szE es) (v + szE es) r).2)) ∧
    (∀ k v, impE k v [] = ([], [])) ∧
    (∀ k v d r, impE k v (.e (.p d) :: r) = (d :: (impE (k + 1) (v + 1) r).1, (impE (k + 1) (v + 1) r).2)) ∧
    (∀ k v dp t xs r, impE k v (.e (.o dp t xs) :: r) = (.ow k v :: (impE (k + 1) (v + 1) r).1, (k, .sl v true dp t xs) :: (impE (k + 1) (v + 1) r).2)) ∧
    (∀ x, E.p x = .e (.p x)) ∧
    (∀ a b c, E.o a b c = .e (.o a b c)) ∧
    (∀ A B, VXb (some (.bool true)) A B = A) ∧
    (∀ A B, VXb (some (.bool false)) A B = B) ∧
    (∀ (Q : List (Bool × List E) → List E → Prop) rs ps, FNU (some (rs, ps)) Q = Q rs ps) ∧
    (∀ f, setAllU f [] = f) ∧
    (∀ f s v r, setAllU f ((s, v) :: r) = setAllU (UW f s v) r) ∧
    (∀ st, subS st [] = True) ∧
    (∀ st k e r, subS st ((k, e) :: r) = ((match lk k st.es with | some e0 => EnLe e0 e | none => False) ∧ subS st r)) ∧
    (∀ v o dp t xs v' o' dp' t' xs', EnLe (.sl v o dp t xs) (.sl v' o' dp' t' xs') = (v' = v ∧ xs' = xs ∧ ((o' = o ∧ dp' = dp ∧ t' = t) ∨ (o = true ∧ o' = true ∧ xs = [] ∧ t = none)))) ∧
    (∀ v ty ds v' ty' ds', EnLe (.pt v ty ds) (.pt v' ty' ds') = (v' = v ∧ ty' = ty ∧ ds' = ds)) ∧
    (∀ (cs : List D) o, setL cs o [] = cs) ∧
    (∀ (cs : List D) o v vs, setL cs o (v :: vs) = setL (cs.set o v) (o + 1) vs) ∧
    (∀ k, rmK k [] = []) ∧
    (∀ k k1 e r, rmK k ((k1, e) :: r) = if k = k1 then rmK k r else (k1, e) :: rmK k r) ∧
    (cln [] = []) ∧
    (∀ k e r, cln ((k, e) :: r) = (k, e) :: rmK k (cln r)) ∧
    (∀ es, ovr es [] = es) ∧
    (∀ es k e r, ovr es ((k, e) :: r) = (k, e) :: rmK k (ovr es r)) := by
  (repeat' apply And.intro) <;> intros <;> first | rfl | exact srcD_nils _ _ | (simp only [pinD, List.map_cons]; done) | (rename_i t xs r; simp [szE])
theorem VXR {cd : Nat → Option AF} {pd : List (Nat × Nat)} {R : List RV} {Q : List (Bool × List E) → List E → Prop} :
    (∀ f st, VX cd pd R Q [] f st = FNU (finU f st R pd) Q) ∧ (∀ i k f st, VX cd pd R Q (.b i :: k) f st = VX cd pd R Q k f st) ∧ (∀ P k f st, VX cd pd R Q (.stop P :: k) f st = P f st) ∧ (∀ k f st, VX cd pd R Q (.c .skip :: k) f st = VX cd pd R Q k f st) ∧
    (∀ k f st, VX cd pd R Q (.c .ret :: k) f st = FNU (finU f st R pd) Q) ∧ (∀ id k f st, VX cd pd R Q (.c (.exit id) :: k) f st = VXk cd pd R Q (exK id k) f st) ∧ (∀ a b k f st, VX cd pd R Q (.c (.seq a b) :: k) f st = VX cd pd R Q (.c a :: .c b :: k) f st) ∧
    (∀ id b k f st, VX cd pd R Q (.c (.block id b) :: k) f st = VX cd pd R Q (.c b :: .b id :: k) f st) ∧ (∀ x a c k f st, VX cd pd R Q (.c (.cond x a c) :: k) f st = VXB cd pd R Q (uv1 f x) (.c a :: k) f (.c c :: k) f st) ∧
    (∀ k f st, VX cd pd R Q (.c (.ops []) :: k) f st = VX cd pd R Q k f st) ∧ (∀ s d a l k f st, VX cd pd R Q (.c (.ops (.g s true d a :: l)) :: k) f st = VXB cd pd R Q (uv1 f (.s s)) (.c (.ops (.i a :: l)) :: k) f (.c (.ops l) :: k) (setDU f d .any) st) ∧
    (∀ s d a l k f st, VX cd pd R Q (.c (.ops (.g s false d a :: l)) :: k) f st = VXB cd pd R Q (uv1 f (.s s)) (.c (.ops l) :: k) (setDU f d .any) (.c (.ops (.i a :: l)) :: k) f st) ∧
    (∀ f st l k, VXo cd pd R Q (some (f, st)) l k = VX cd pd R Q (.c (.ops l) :: k) f st) ∧ (∀ kt ft kf ff st, VXB cd pd R Q (some (.bool true)) kt ft kf ff st = VX cd pd R Q kt ft st) ∧ (∀ kt ft kf ff st, VXB cd pd R Q (some (.bool false)) kt ft kf ff st = VX cd pd R Q kf ff st) ∧ (∀ b kt ft kf ff st, VXB cd pd R Q (some (.bool (!b))) kt ft kf ff st = VXB cd pd R Q (some (.bool b)) kf ff kt ft st) ∧ (∀ d g q xs l k f st, VX cd pd R Q (.c (.ops (.i (.call d g q xs) :: l)) :: k) f st = VXC cd pd R Q d g q l k f st (argsU f xs)) ∧ (∀ d q x xs l k f st, VX cd pd R Q (.c (.ops (.i (.clv d q x xs) :: l)) :: k) f st = VXf cd pd R Q d q xs l k f st (uv1 f x)) ∧ (∀ d q xs l k f st g, VXf cd pd R Q d q xs l k f st (some (.fn g)) = VX cd pd R Q (.c (.ops (.i (.call d g q xs) :: l)) :: k) f st) ∧ (∀ k f st, VXk cd pd R Q (some k) f st = VX cd pd R Q k f st) :=
  ⟨fun _ _ => VX_nil, fun _ _ _ _ => VX_b, fun _ _ _ _ => VX_stop, fun _ _ _ => VX_skip, fun _ _ _ => VX_ret, fun _ _ _ _ => VX_exit, fun _ _ _ _ _ => VX_seq, fun _ _ _ _ _ => VX_block, fun _ _ _ _ _ _ => VX_cond, fun _ _ _ => VX_ops, fun _ _ _ _ _ _ _ => VX_gt, fun _ _ _ _ _ _ _ => VX_gf, fun _ _ _ _ => rfl, fun _ _ _ _ _ => rfl, fun _ _ _ _ _ => rfl, fun _ _ _ _ _ _ => VXB_not, fun _ _ _ _ _ _ _ _ => VX_call, fun _ _ _ _ _ _ _ _ => VX_clv, fun _ _ _ _ _ _ _ _ => rfl, fun _ _ _ => rfl⟩
/-- All of it. -/
theorem VB : (∀ x, flat (bytes x) = true) ∧ (∀ x, wid 1 (bytes x) = true) ∧ (∀ x, (bytes x).length = x.length) ∧ (∀ n, n ≤ 70368744177664 → inRoom n = true) ∧ (∀ n : Int, -9223372036854775808 ≤ n → n < 9223372036854775808 → IntKind.i64.wrap n = n) ∧
    (∀ (k : IntKind) (a b : Int), bin2 .add (.int k a) (.int k b) = some (.int k (k.wrap (a + b)))) ∧ (∀ (k : IntKind) (a b : Int), bin2 .sub (.int k a) (.int k b) = some (.int k (k.wrap (a - b)))) ∧ (∀ (k : IntKind) (a b : Int), bin2 .mul (.int k a) (.int k b) = some (.int k (k.wrap (a * b)))) ∧
    (∀ (k : IntKind) (a b : Int), bin2 .quo (.int k a) (.int k b) = if b = 0 then none else some (.int k (k.wrap (a.tdiv b)))) ∧ (∀ (k : IntKind) (a b : Int), bin2 .rem (.int k a) (.int k b) = if b = 0 then none else some (.int k (a.tmod b))) ∧
    (∀ (k : IntKind) (a b : Int), bin2 .eql (.int k a) (.int k b) = some (.bool (decide (a = b)))) ∧ (∀ (k : IntKind) (a b : Int), bin2 .neq (.int k a) (.int k b) = some (.bool (decide (a ≠ b)))) ∧ (∀ (k : IntKind) (a b : Int), bin2 .lss (.int k a) (.int k b) = some (.bool (decide (a < b)))) ∧
    (∀ (k : IntKind) (a b : Int), bin2 .leq (.int k a) (.int k b) = some (.bool (decide (a ≤ b)))) ∧ (∀ (k : IntKind) (a b : Int), bin2 .gtr (.int k a) (.int k b) = some (.bool (decide (a > b)))) ∧ (∀ (k : IntKind) (a b : Int), bin2 .geq (.int k a) (.int k b) = some (.bool (decide (a ≥ b)))) ∧
    (∀ (k : IntKind) (a b : Int), bin2 .and (.int k a) (.int k b) = some (.int k (bits2 .and k a b))) ∧ (∀ (k : IntKind) (a b : Int), bin2 .or (.int k a) (.int k b) = some (.int k (bits2 .or k a b))) ∧ (∀ (k : IntKind) (a b : Int), bin2 .xor (.int k a) (.int k b) = some (.int k (bits2 .xor k a b))) ∧ (∀ (k : IntKind) (a b : Int), bin2 .andNot (.int k a) (.int k b) = some (.int k (bits2 .andNot k a b))) ∧
    (∀ (k k' : IntKind) (a b : Int), bin2 .shl (.int k a) (.int k' b) = if b < 0 then none else some (.int k (k.wrap (a * 2 ^ (min b.toNat k.bits))))) ∧ (∀ (k k' : IntKind) (a b : Int), bin2 .shr (.int k a) (.int k' b) = if b < 0 then none else some (.int k (a.fdiv (2 ^ (min b.toNat k.bits))))) ∧
    (∀ a b, bin2 .eql (.str a) (.str b) = some (.bool (decide (a = b)))) ∧ (∀ a b, bin2 .neq (.str a) (.str b) = some (.bool (decide (a ≠ b)))) :=
  ⟨flat_bytes, wid_bytes, bytes_len, fun _ h => room_of h, fun _ h1 h2 => w64 h1 h2, b_add, b_sub, b_mul, b_quo, b_rem, b_eql, b_neq, b_lss, b_leq, b_gtr, b_geq, b_and, b_or, b_xor, b_andNot, b_shl, b_shr, b_seql, b_sneq⟩
end Go.Eng
