/-
  The engine, part B: the compiler out of the program's Code into the abstract machine's. It answers 'none' where it doesn't serve.
-/
import Derived.Test.YtaicdpancmfhnaaEngA
set_option linter.unusedVariables false
set_option linter.unusedSimpArgs false
namespace Go.Eng

/-! ### Values of the text -/
def cOf : Value → Option C
  | .int k n => some (.int k n)
  | .bool b => some (.bool b)
  | .string s => some (.str s)
  | .slice none 0 0 => some .nils
  | .pointer none => some .nilp
  | .nilFunc => some .nilf
  | .nilIface => some .nili
  | .func (.func f) ⟨[]⟩ ⟨[]⟩ => some (.fn f)
  | _ => none
def csOf : List Value → Option (List C)
  | [] => some []
  | v :: vs => match cOf v, csOf vs with
    | some c, some cs => some (c :: cs)
    | _, _ => none
def vOf : Value → Option V
  | .agg a => match csOf a.toList with
    | some cs => some (.val true cs)
    | none => none
  | .tuple ⟨[]⟩ => some .any
  | v => match cOf v with
    | some c => some (.val false [c])
    | none => none
def xOf : Operand → Option X
  | .tmp t => some (.s t)
  | .const v => match vOf v with
    | some u => some (.c u)
    | none => none
  | .func f => some (.c (.val false [.fn f]))
  | .global _ => none
def xsOf : List Operand → Option (List X)
  | [] => some []
  | x :: xs => match xOf x, xsOf xs with
    | some y, some ys => some (y :: ys)
    | _, _ => none
def zeroOf (P : Program) (t : TypeId) : Option (List C) :=
  match P.info? t with
  | some i => match i.zero with
    | some z => match csOf z.cells.toList with
      | some cs => if cs.length = i.size then some cs else none
      | none => none
    | none => none
  | none => none
def aggOf (P : Program) (t : TypeId) : Option Bool :=
  match P.underlying t with
  | some (.struct _) => some true
  | some (.array _ _) => some true
  | some _ => some false
  | none => none
/-- Cells, and whether the value is a struct's or an array's. -/
def szOf (P : Program) (t : TypeId) : Option (Nat × Bool) :=
  match P.info? t, aggOf P t with
  | some i, some g => if g = true ∨ i.size = 1 then some (i.size, g) else none
  | _, _ => none

/-! ### Which variables stay in the call -/
def opsOf : Code → List Oper
  | .region _ ops _ => ops.toList
  | .seq a b => opsOf a ++ opsOf b
  | .cond _ a b => opsOf a ++ opsOf b
  | .block _ b => opsOf b
  | .loop b => opsOf b
  | _ => []
def tmpMask : List Operand → Nat
  | [] => 0
  | .tmp t :: r => 2 ^ t ||| tmpMask r
  | _ :: r => tmpMask r
/-- Operands in places where an address gets away. -/
def escs (P : Program) : Op → Nat
  | .move _ | .load _ _ | .nilCheck _ | .fieldAddr _ _ _ => 0
  | .store _ _ v => tmpMask [v]
  | .indexAddr t x i => match P.underlying t with
    | some (.array _ _) => tmpMask [i]
    | _ => tmpMask [x, i]
  | op => tmpMask op.operands.toList
def escAll (P : Program) : List Oper → Nat
  | [] => 0
  | o :: r => escs P o.op ||| escAll P r
def escBack (P : Program) (E : Nat) : List Oper → Nat
  | [] => E
  | o :: r =>
    match o.dst, o.op with
    | some d, .move (.tmp x) | some d, .fieldAddr _ (.tmp x) _ | some d, .nilCheck (.tmp x) => escBack P (if E.testBit d then E ||| 2 ^ x else E) r
    | some d, .indexAddr t (.tmp x) _ => escBack P (match P.underlying t with | some (.array _ _) => if E.testBit d then E ||| 2 ^ x else E | _ => E) r
    | _, _ => escBack P E r
def resMask : List ResultVar → Nat
  | [] => 0
  | .tmp t :: r => 2 ^ t ||| resMask r
  | _ :: r => resMask r
def escOf (P : Program) (fn : Func) (l : List Oper) : Nat :=
  let r := l.reverse
  let e := escAll P l ||| resMask fn.results.toList
  escBack P (escBack P (escBack P e r) r) r
/-- Each slot's variable, where it holds an address of one of the call's own. -/
def rootsOf (P : Program) (E : Nat) : List (Nat × Nat) → List Oper → List (Nat × Nat)
  | env, [] => env
  | env, o :: r =>
    match o.dst, o.op with
    | some d, .alloc _ | some d, .box _ _ => rootsOf P E (if E.testBit d then env else (d, d) :: env) r
    | some d, .move (.tmp x) | some d, .fieldAddr _ (.tmp x) _ | some d, .nilCheck (.tmp x) =>
      rootsOf P E (match env.lookup x with | some s => (d, s) :: env | none => env) r
    | some d, .indexAddr t (.tmp x) _ => rootsOf P E (match P.underlying t, env.lookup x with | some (.array _ _), some s => (d, s) :: env | _, _ => env) r
    | _, _ => rootsOf P E env r
/-- The slots that are used otherwise than as what is to be appended. -/
def usesOf : Op → Nat
  | .call c => match c.callee, c.args.toList with
    | .builtin .append, [x, _] => tmpMask [x]
    | _, _ => tmpMask c.operands.toList
  | op => tmpMask op.operands.toList
def usesAll : List Oper → Nat
  | [] => 0
  | o :: r => usesOf o.op ||| usesAll r
structure Inf where
  E : Nat
  env : List (Nat × Nat)
  N : Nat
  nt : Nat
def Inf.root (I : Inf) : Operand → Option Nat
  | .tmp t => I.env.lookup t
  | _ => none
/-- Where an address of a variable may be handed on, the slot is known for it. -/
def Inf.hand (I : Inf) (d : Nat) (x : Operand) : Bool :=
  match I.root x with
  | none => true
  | some r => I.env.lookup d == some r

/-! ### Operations -/
def b2Of : BinOp → B2
  | .add => .add | .sub => .sub | .mul => .mul | .quo => .quo | .rem => .rem | .and => .and | .or => .or | .xor => .xor | .shl => .shl | .shr => .shr | .andNot => .andNot
  | .eql => .eql | .neq => .neq | .lss => .lss | .leq => .leq | .gtr => .gtr | .geq => .geq
def isNilS : Operand → Bool
  | .const (.slice none 0 0) => true
  | _ => false
def compBin (P : Program) (d : Nat) (op : BinOp) (t : TypeId) (x y : Operand) : Option AI :=
  match P.underlying t with
  | some (.int _) | some .string => match xOf x, xOf y with
    | some a, some b => some (.bin d (b2Of op) a b)
    | _, _ => none
  | some .bool => match op, xOf x, xOf y with
    | .eql, some a, some b => some (.beq d false a b)
    | .neq, some a, some b => some (.beq d true a b)
    | _, _, _ => none
  | some (.slice _) =>
    if isNilS y then match op, xOf x with
      | .eql, some a => some (.snil d false a)
      | .neq, some a => some (.snil d true a)
      | _, _ => none
    else none
  | _ => none
def partsOf (P : Program) (place : Nat → Option (Nat × Nat)) : List (Nat × Operand) → Option (List (Nat × Nat × X))
  | [] => some []
  | (i, x) :: r => match place i, xOf x, partsOf P place r with
    | some (off, sz), some y, some ps => some ((off, sz, y) :: ps)
    | _, _, _ => none
def optX : Option Operand → Option (Option X)
  | none => some none
  | some x => match xOf x with
    | some y => some (some y)
    | none => none
def sameOp : Operand → Operand → Bool
  | .tmp a, .tmp b => a == b
  | .const (.int .i64 a), .const (.int .i64 b) => a == b
  | _, _ => false
def compCall (P : Program) (q : Bool) (d : Nat) (c : Call) : Option AI :=
  match c.callee with
  | .value (.func f) => match xsOf c.args.toList with
    | some xs => some (.call d f q xs)
    | none => none
  | .value x => match xOf x, xsOf c.args.toList with
    | some y, some xs => some (.clv d q y xs)
    | _, _ => none
  | .builtin b => match d with
    | 0 => none
    | d + 1 => match b, c.args.toList, c.argTypes.toList with
      | .len, [x], [t] => match P.underlying t, xOf x with
        | some (.slice _), some y => some (.len d false y)
        | some .string, some y => some (.len d true y)
        | some (.array n _), some _ => some (.mov d (.c (.val false [.int .i64 n])))
        | _, _ => none
      | .append, [x, y], [t, u] => match P.underlying t, P.underlying u, xOf x, xOf y with
        | some (.slice e), some (.slice _), some a, some b => match P.info? e, zeroOf P e with
          | some i, some _ => if 0 < i.size then some (.app d e i.size i.bytes a b) else none
          | _, _ => none
        | some (.slice e), some .string, some a, some b => match P.info? e, zeroOf P e with
          | some i, some _ => if 0 < i.size then some (.app d e i.size i.bytes a b) else none
          | _, _ => none
        | _, _, _, _ => none
      | .copy, [x, y], [t, _] => match P.underlying t, xOf x, xOf y with
        | some (.slice e), some a, some b => match P.info? e with
          | some i => if 0 < i.size then some (.cpy d i.size a b) else none
          | none => none
        | _, _, _ => none
      | .min, [x, y], _ => match xOf x, xOf y with
        | some a, some b => some (.mm d false a b)
        | _, _ => none
      | .max, [x, y], _ => match xOf x, xOf y with
        | some a, some b => some (.mm d true a b)
        | _, _ => none
      | _, _, _ => none
  | _ => none
/-- An operation. 'q': calls leave what is there as it is. -/
def compOp (P : Program) (I : Inf) (q : Bool) (o : Oper) : Option AI :=
  match o.dst, o.op with
  | some d, .move x | some d, .assign x => match xOf x with
    | some y => if I.hand d x then some (.mov d y) else none
    | none => none
  | some d, .pick c a b => match xOf c, xOf a, xOf b with
    | some c, some a, some b => some (.pick d c a b)
    | _, _, _ => none
  | some d, .alloc t => match zeroOf P t with
    | some cs => if I.E.testBit d then some (.hal d t cs) else if I.env.lookup d == some d then some (.lal d cs) else none
    | none => none
  | some d, .box t x => match xOf x with
    | some y => if I.E.testBit d then some (.hbox d t y) else if I.env.lookup d == some d then some (.lbox d y) else none
    | none => none
  | some d, .build t ps => match zeroOf P t, P.underlying t with
    | some z, some (.struct fs) => match partsOf P (fun i => match fs[i]? with | some f => (match P.info? f.type with | some j => some (f.offset, j.size) | none => none) | none => none) ps.toList with
      | some qs => if fs.toList.all (fun f => (P.info? f.type).isSome) then some (.bld d z qs) else none
      | none => none
    | some z, some (.array _ e) => match P.info? e with
      | some j => match partsOf P (fun i => some (i * j.size, j.size)) ps.toList with
        | some qs => some (.bld d z qs)
        | none => none
      | none => none
    | _, _ => none
  | some d, .buildSlice t len ps => match P.underlying t with
    | some (.slice e) => match P.info? e, zeroOf P e with
      | some j, some z => match partsOf P (fun i => some (i * j.size, j.size)) ps.toList with
        | some qs => if len * j.size ≤ 2 ^ 24 ∧ 0 < j.size then
            (if len = 0 then (if ps.toList.isEmpty then some (.bse d) else none) else if I.N.testBit d then some (.bsl d e j.size len z qs) else some (.lsl d j.size len z qs)) else none
        | none => none
      | _, _ => none
    | _ => none
  | some d, .fieldAddr t x k => match P.underlying t, xOf x with
    | some (.struct fs), some y => match fs[k]? with
      | some f => match P.info? f.type with
        | some j => if j.size = 0 then none else if I.hand d x then some (.fad d y f.offset) else none
        | none => none
      | none => none
    | _, _ => none
  | some d, .indexAddr t x i => match P.underlying t, xOf x, xOf i with
    | some (.slice e), some y, some j => match P.info? e with
      | some k => some (.iad d y j k.size)
      | none => none
    | some (.array n e), some y, some j => match P.info? e with
      | some k => if 1 < n ∧ I.hand d x = true then some (.iaa d y j k.size n) else none
      | none => none
    | _, _, _ => none
  | some d, .load t x => match szOf P t, xOf x with
    | some (n, g), some y => match I.root x with
      | some r => some (.ldl d r y n g)
      | none => some (.ldh d y n g)
    | _, _ => none
  | none, .store t x v => match szOf P t, xOf x, xOf v with
    | some (n, _), some y, some u => match I.root x with
      | some r => some (.stl r y u n)
      | none => some (.sth y u n)
    | _, _, _ => none
  | some d, .binOp op t x y _ => compBin P d op t x y
  | some d, .unOp op _ x => match op, xOf x with
    | .neg, some y => some (.neg d y)
    | .not, some y => some (.not d y)
    | _, _ => none
  | some d, .convert s t x => match P.underlying s, P.underlying t, xOf x with
    | some (.int _), some (.int k), some y => some (.cvi d k y)
    | some (.slice e), some .string, some y => match P.underlying e with
      | some (.int .u8) => some (.cbs d y)
      | _ => none
    | _, _, _ => none
  | some d, .makeSlice t l c => if sameOp l c then match P.underlying t, xOf l with
      | some (.slice e), some y => match P.info? e, zeroOf P e with
        | some j, some z => if 0 < j.size then some (.mks d e j.size j.bytes z y) else none
        | _, _ => none
      | _, _ => none
    else none
  | some d, .slice t x lo hi none => match P.underlying t, xOf x, optX lo, optX hi with
    | some (.slice e), some y, some l, some h => match P.info? e with
      | some j => if 0 < j.size then some (.slc d j.size y l h) else none
      | none => none
    | some .string, some y, some l, some h => some (.sls d y l h)
    | some (.array n e), some y, some none, some none => match P.info? e with
      | some j => if 0 < j.size ∧ 0 < n then some (.sla d y n j.size) else none
      | none => none
    | _, _, _, _ => none
  | some d, .field t x k => match P.underlying t, xOf x with
    | some (.struct fs), some y => match fs[k]? with
      | some f => match szOf P f.type with
        | some (n, g) => some (.fld d y f.offset n g)
        | none => none
      | none => none
    | _, _ => none
  | some d, .index t x i => match P.underlying t, xOf x, xOf i with
    | some (.array n e), some y, some j => match szOf P e with
      | some (m, g) => some (.idx d y j m n g)
      | none => none
    | some .string, some y, some j => some (.ids d y j)
    | _, _, _ => none
  | some d, .extract x i => match xOf x with
    | some y => some (.ext d y i)
    | none => none
  | some d, .nilCheck x => match xOf x with
    | some y => if I.hand d x then some (.nch d y) else none
    | none => none
  | some d, .call c => compCall P q (d + 1) c
  | none, .call c => compCall P q 0 c
  | _, _ => none
def AI.boxes : AI → Bool
  | .lbox _ _ | .lal _ _ => true
  | _ => false
/-- A slot that is given a value is one of the frame's; a variable's slot is given none otherwise. -/
def dstOk (I : Inf) (a : AI) : Option Nat → Bool
  | none => true
  | some d => decide (d < I.nt) && (a.boxes || I.env.lookup d != some d)
/-- What is read through is a slot's, not a constant's. -/
def X.slot : X → Bool
  | .s _ => true
  | .c _ => false
def AI.refOk : AI → Bool
  | .ldh _ x _ _ | .cbs _ x | .sla _ x _ _ => x.slot
  | _ => true
def compIT (P : Program) (I : Inf) (q : Bool) (ops : Array Oper) (o : Oper) : Option IT :=
  match compOp P I q o with
  | none => none
  | some a => if dstOk I a o.dst && a.refOk then match o.guard with
    | none => some (.i a)
    | some (j, w) => if a.boxes then none else match (ops[j]?).bind (·.dst) with
      | some s => some (.g s w (match o.dst with | none => 0 | some d => d + 1) a)
      | none => none
    else none
def compL (P : Program) (I : Inf) (q : Bool) (ops : Array Oper) : List Oper → Option (List IT)
  | [] => some []
  | o :: r => match compIT P I q ops o, compL P I q ops r with
    | some a, some as => some (a :: as)
    | _, _ => none

/-! ### Regions that draw: what is not ordered doesn't meet -/
def xMask : X → Nat
  | .s t => 2 ^ t
  | .c _ => 0
def xsMask : List X → Nat
  | [] => 0
  | x :: r => xMask x ||| xsMask r
def psMask : List (Nat × Nat × X) → Nat
  | [] => 0
  | (_, _, x) :: r => xMask x ||| psMask r
def oxMask : Option X → Nat
  | none => 0
  | some x => xMask x
/-- The slots that are read (a variable's cells are its slot's). -/
def AI.rd : AI → Nat
  | .lbox d x => 2 ^ d ||| xMask x
  | .mov _ x | .hbox _ _ x | .fad _ x _ | .ldh _ x _ _ | .neg _ x | .not _ x | .cvi _ _ x | .cbs _ x | .mks _ _ _ _ _ x | .sla _ x _ _ | .fld _ x _ _ _ | .ext _ x _ | .nch _ x | .len _ _ x | .snil _ _ x => xMask x
  | .bse _ => 0
  | .pick _ c a b => xMask c ||| xMask a ||| xMask b
  | .hal _ _ _ => 0
  | .lal d _ => 2 ^ d
  | .bld _ _ ps | .bsl _ _ _ _ _ ps | .lsl _ _ _ _ ps => psMask ps
  | .iad _ x i _ | .iaa _ x i _ _ | .idx _ x i _ _ _ | .ids _ x i => xMask x ||| xMask i
  | .ldl _ r x _ _ => 2 ^ r ||| xMask x
  | .stl r x v _ => 2 ^ r ||| xMask x ||| xMask v
  | .sth x v _ => xMask x ||| xMask v
  | .bin _ _ x y | .beq _ _ x y | .geq _ _ x y | .app _ _ _ _ x y | .cpy _ _ x y | .mm _ _ x y => xMask x ||| xMask y
  | .slc _ _ x l h | .sls _ x l h => xMask x ||| oxMask l ||| oxMask h
  | .call _ _ _ xs => xsMask xs
  | .clv _ _ x xs => xMask x ||| xsMask xs
def dMask : Nat → Nat
  | 0 => 0
  | d + 1 => 2 ^ d
/-- The slots that are written. -/
def AI.wr : AI → Nat
  | .mov d _ | .pick d _ _ _ | .lbox d _ | .lal d _ | .hbox d _ _ | .hal d _ _ | .bld d _ _ | .bsl d _ _ _ _ _ | .bse d | .lsl d _ _ _ _ | .fad d _ _ | .iad d _ _ _ | .iaa d _ _ _ _ | .ldl d _ _ _ _ | .ldh d _ _ _
  | .bin d _ _ _ | .beq d _ _ _ | .snil d _ _ | .geq d _ _ _ | .neg d _ | .not d _ | .cvi d _ _ | .cbs d _ | .mks d _ _ _ _ _ | .slc d _ _ _ _ | .sls d _ _ _ | .sla d _ _ _ | .fld d _ _ _ _ | .idx d _ _ _ _ _
  | .ids d _ _ | .ext d _ _ | .nch d _ | .len d _ _ | .app d _ _ _ _ _ | .cpy d _ _ _ | .mm d _ _ _ => 2 ^ d
  | .stl r _ _ _ => 2 ^ r
  | .sth _ _ _ => 0
  | .call d _ _ _ | .clv d _ _ _ => dMask d
/-- The heap is read. -/
def AI.hr : AI → Bool
  | .ldh _ _ _ _ | .cbs _ _ | .sla _ _ _ _ => true
  | _ => false
/-- Blocks are laid, or written: such operations run in the order of the text. -/
def AI.sq : AI → Bool
  | .hbox .. | .hal .. | .bsl .. | .sth .. | .mks .. | .app .. | .cpy .. | .call .. | .clv .. => true
  | _ => false
/-- What is there may be written. -/
def AI.hw : AI → Bool
  | .sth .. | .app .. | .cpy .. => true
  | .call _ _ q _ | .clv _ q _ _ => !q
  | _ => false
def IT.ai : IT → AI
  | .i a => a
  | .g _ _ _ a => a
def IT.rd : IT → Nat
  | .i a => a.rd
  | .g s _ _ a => 2 ^ s ||| a.rd
def IT.wr : IT → Nat
  | .i a => a.wr
  | .g _ _ d a => dMask d ||| a.wr
def meets (a b : IT) : Bool :=
  (a.wr &&& (b.rd ||| b.wr)) != 0 || (b.wr &&& a.rd) != 0 || (a.ai.sq && b.ai.sq) || (a.ai.hw && b.ai.hr) || (b.ai.hw && a.ai.hr)
/-- Of each operation the set (a number's bits) of those that come ahead of it. -/
def beforeL (bs : List Nat) (o : Oper) : Nat :=
  o.after.toList.foldl (fun s e => if Region.binds .any e then (match bs[e.on]? with | some b => s ||| 2 ^ e.on ||| b | none => s) else s) 0
def befores : List Nat → List Oper → List Nat
  | bs, [] => bs
  | bs, o :: r => befores (bs ++ [beforeL bs o]) r
def apartAll (its : List IT) (it : IT) (b : Nat) : Nat → Bool
  | 0 => true
  | i + 1 => (match its[i]? with | some o => !meets o it || b.testBit i | none => true) && apartAll its it b i
def drawOk (its : List IT) (bs : List Nat) : Nat → Bool
  | 0 => true
  | j + 1 => (match its[j]?, bs[j]? with | some it, some b => apartAll its it b j | _, _ => false) && drawOk its bs j
/-- What comes ahead of an operation stands ahead of it. -/
def earlier : Nat → List Oper → Bool
  | _, [] => true
  | j, o :: r => o.after.toList.all (fun e => !(Region.binds .any e) || decide (e.on < j)) && earlier (j + 1) r
def compR (P : Program) (I : Inf) (ops : Array Oper) (draw : Bool) : Option AC :=
  if draw then
    if P.follows .mixedOrders && earlier 0 ops.toList then
      match compL P I false ops ops.toList with
      | none => none
      | some l => if drawOk l (befores [] ops.toList) l.length then some (.ops l) else
        match compL P I true ops ops.toList with
        | none => none
        | some l => if drawOk l (befores [] ops.toList) l.length then some (.ops l) else none
    else none
  else match compL P I false ops ops.toList with
    | some l => some (.ops l)
    | none => none

/-! ### Bodies -/
def defsOf (l : List Oper) : Nat := l.foldl (fun s o => match o.dst with | some d => s ||| 2 ^ d | none => s) 0
def bitsOf (m : Nat) : Nat → List Nat
  | 0 => []
  | n + 1 => if m.testBit n then n :: bitsOf m n else bitsOf m n
/-- 'out': the slots that are given a value outside of the innermost loop. -/
def compC (P : Program) (I : Inf) (nt : Nat) (out : Nat) : Code → Option AC
  | .skip => some .skip
  | .region _ ops draw => compR P I ops draw
  | .seq a b => match compC P I nt (out ||| defsOf (opsOf b)) a, compC P I nt (out ||| defsOf (opsOf a)) b with
    | some x, some y => some (.seq x y)
    | _, _ => none
  | .cond c a b => match xOf c, compC P I nt (out ||| defsOf (opsOf b)) a, compC P I nt (out ||| defsOf (opsOf a)) b with
    | some z, some x, some y => some (.cond z x y)
    | _, _, _ => none
  | .block id b => match compC P I nt out b with
    | some x => some (.block id x)
    | none => none
  | .loop b => match compC P I nt out b with
    | some x =>
      let m := defsOf (opsOf b) ^^^ (defsOf (opsOf b) &&& out)
      if I.env.all (fun p => !(m.testBit p.2) || (bitsOf m nt).contains p.1) then some (.loop (bitsOf m nt) x) else none
    | none => none
  | .exit id => some (.exit id)
  | .ret => some .ret
  | _ => none
def depth (n : Nat) : Nat := n.log2 + 1
def rvOf (P : Program) : ResultVar → Option RV
  | .tmp t => some (.tmp t)
  | .cell s t => match szOf P t with
    | some (n, g) => some (.cell s n g)
    | none => none
def rvsOf (P : Program) : List ResultVar → Option (List RV)
  | [] => some []
  | r :: rs => match rvOf P r, rvsOf P rs with
    | some v, some vs => some (v :: vs)
    | _, _ => none
def compF (P : Program) (fn : Func) : Option AF :=
  if fn.name == "runtime.NumGoroutine" then none else
  match fn.body, rvsOf P fn.results.toList with
  | some b, some res =>
    let l := opsOf b
    let E := escOf P fn l
    let I : Inf := ⟨E, rootsOf P E [] l, usesAll l, fn.ntmps⟩
    match compC P I fn.ntmps (2 ^ fn.params.size - 1) b with
    | some c => if fn.params.size ≤ fn.ntmps then some ⟨fn.params.size, depth fn.ntmps, res, c⟩ else none
    | none => none
  | _, _ => none
def code (P : Program) (g : Nat) : Option AF :=
  match P.funcs[g]? with
  | some fn => compF P fn
  | none => none
end Go.Eng
