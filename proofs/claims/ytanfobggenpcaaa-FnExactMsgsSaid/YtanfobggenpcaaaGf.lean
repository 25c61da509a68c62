import Derived.Test.YtanfobggenpcaaaProg
import Derived.KernelRfl
import Derived.Test.YtanfobggenpcaaaGc
set_option maxRecDepth 100000
namespace Go.Eng.U
def qi (n:Int):X:= .c (.val false [.int .i64 n])
def qb (b:Bool):X:= .c (.val false [.bool b])
def qm (a b:Nat):IT:= .i (.mov a (.s b))
def qf (a b n:Nat):IT:= .i (.fad a (.s b) n)
def ql (a b c n:Nat) (g:Bool):IT:= .i (.ldl a b (.s c) n g)
def qs (a b c n:Nat):IT:= .i (.stl a (.s b) (.s c) n)
def qn (a b:Nat):IT:= .i (.len a false (.s b))
def qd (a:Nat) (o:B2) (b c:Nat):IT:= .i (.bin a o (.s b) (.s c))
def qk (a b c:Nat):IT:= .i (.call a b false [(.s c)])
def qz:List C:= [.int .i64 0, .int .i64 0, .int .i64 0, .nils, .nils, .int .i64 0, .int .i64 0, .nils, .nils, .nils]
theorem SX:type_of% (And.intro @SQ (And.intro @qi.eq_1 (And.intro @qb.eq_1 (And.intro @qm.eq_1 (And.intro @qf.eq_1 (And.intro @ql.eq_1 (And.intro @qs.eq_1 (And.intro @qn.eq_1 (And.intro @qd.eq_1 (And.intro @qk.eq_1 @qz.eq_1)))))))))):=And.intro @SQ (And.intro @qi.eq_1 (And.intro @qb.eq_1 (And.intro @qm.eq_1 (And.intro @qf.eq_1 (And.intro @ql.eq_1 (And.intro @qs.eq_1 (And.intro @qn.eq_1 (And.intro @qd.eq_1 (And.intro @qk.eq_1 @qz.eq_1)))))))))
noncomputable abbrev cd:=code Proofs.Try.prog
abbrev bE:Ty:= .st [(.int .i64),(.int .i64),(.int .i64),(.int .i64),(.int .i64)]
abbrev g8:Ty:= .st [(.int .i64),(.int .i64),(.sl (.int .u8)),(.int .i64),(.sl (.int .u8))]
abbrev j8:Ty:= .st [(.int .i64),(.int .i64),(.sl (.int .u8)),(.sl (.int .u8)),(.sl (.sl (.int .u8)))]
abbrev bd:Ty:= .st [(.int .i64),(.int .i64),(.int .i64),(.sl (.int .u8)),(.sl (.int .u8)),j8]
abbrev dc:Ty:= .st [bd,(.sl (.sl (.int .u8)))]
abbrev cg:Ty:= .st [(.int .i64),(.int .i64),(.sl (.int .u8))]
abbrev tf:Ty:= .st [(.int .i64),(.sl cg)]
abbrev cj:Ty:= .st [(.sl bd),j8]
abbrev hM:Ty:= .st [(.int .i64),(.int .i64),(.int .i64),(.sl (.int .u8)),(.sl (.sl (.int .u8)))]
abbrev dA:Ty:= .st [(.int .i64),g8,j8,bd,dc,tf,cj,hM]
abbrev TEvent:Ty:= .st [(.int .i64),(.int .i64),dA]
abbrev jJ:Ty:= .st [(.int .i64),(.sl (.int .u8))]
abbrev lI:Ty:= .st [(.int .i64),(.sl (.int .u8))]
abbrev ei:Ty:= .st [(.sl lI)]
abbrev fZ:Ty:= .st [bE,ei,jJ,(.sl bd)]
abbrev j7:Ty:= .st [bE,(.sl bd)]
abbrev qU:Ty:= .st [bE,ei,fZ,(.sl bd)]
end Go.Eng.U
