import Derived.Test.YtlhapfligolmcaaGreatProg
import Derived.KernelRfl
import Derived.Test.YtlhapfligolmcaaGreatGc
set_option maxRecDepth 100000
namespace Go.Eng.U
def qi (n:Int):X:= .c (.val false [.int .i64 n])
def qb (b:Bool):X:= .c (.val false [.bool b])
def qm (a b:Nat):IT:= .i (.mov a (.s b))
def qf (a b n:Nat):IT:= .i (.fad a (.s b) n)
def ql (a b c n:Nat) (g:Bool):IT:= .i (.ldl a b (.s c) n g)
def qs (a b c n:Nat):IT:= .i (.stl a (.s b) (.s c) n)
def qn (a b:Nat):IT:= .i (.len a false (.s b))
def qd (a:Nat) (o:B2) (b c:Nat):IT:= .i (.bin a o (.s b) (.s c))
def qk (a b c:Nat):IT:= .i (.call a b false [(.s c)])
def qz:List C:= [.int .i64 0, .int .i64 0, .int .i64 0, .nils, .nils, .int .i64 0, .int .i64 0, .nils, .nils, .nils]
theorem SX:type_of% (And.intro @SQ (And.intro @qi.eq_1 (And.intro @qb.eq_1 (And.intro @qm.eq_1 (And.intro @qf.eq_1 (And.intro @ql.eq_1 (And.intro @qs.eq_1 (And.intro @qn.eq_1 (And.intro @qd.eq_1 (And.intro @qk.eq_1 @qz.eq_1)))))))))):=And.intro @SQ (And.intro @qi.eq_1 (And.intro @qb.eq_1 (And.intro @qm.eq_1 (And.intro @qf.eq_1 (And.intro @ql.eq_1 (And.intro @qs.eq_1 (And.intro @qn.eq_1 (And.intro @qd.eq_1 (And.intro @qk.eq_1 @qz.eq_1)))))))))
noncomputable abbrev cd:=code Proofs.Tryz.prog
abbrev br:Ty:= .st [(.int .i64),(.int .i64),(.int .i64),(.int .i64),(.int .i64)]
abbrev Ia:Ty:= .st [(.int .i64),(.int .i64),(.sl (.int .u8)),(.int .i64),(.sl (.int .u8))]
abbrev wv:Ty:= .st [(.int .i64),(.int .i64),(.sl (.int .u8)),(.sl (.int .u8)),(.sl (.sl (.int .u8)))]
abbrev ak:Ty:= .st [(.int .i64),(.int .i64),(.int .i64),(.sl (.int .u8)),(.sl (.int .u8)),wv]
abbrev pG:Ty:= .st [ak,(.sl (.sl (.int .u8)))]
abbrev GV:Ty:= .st [(.int .i64),(.int .i64),(.sl (.int .u8))]
abbrev Ka:Ty:= .st [(.int .i64),(.sl GV)]
abbrev iC:Ty:= .st [(.sl ak),wv]
abbrev H0:Ty:= .st [(.int .i64),(.int .i64),(.int .i64),(.sl (.int .u8)),(.sl (.sl (.int .u8)))]
abbrev IV:Ty:= .st [(.int .i64),Ia,wv,ak,pG,Ka,iC,H0]
abbrev qH:Ty:= .st [(.int .i64),(.sl (.int .u8))]
abbrev cg:Ty:= .st [(.int .i64),(.sl (.int .u8))]
abbrev TTable:Ty:= .st [(.sl cg)]
abbrev nu:Ty:= .st [br,TTable,qH,(.sl ak)]
abbrev TForest:Ty:= .st [br,(.sl ak)]
abbrev Aa:Ty:= .st [br,TTable,nu,(.sl ak)]
end Go.Eng.U
