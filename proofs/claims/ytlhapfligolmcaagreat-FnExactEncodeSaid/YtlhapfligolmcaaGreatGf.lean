import Derived.Test.YtlhapfligolmcaaGreatProg
import Derived.KernelRfl
import Derived.Test.YtlhapfligolmcaaGreatGc
set_option maxRecDepth 100000
namespace Go.Eng.U
def qi (n:Int):X:= .c (.val false [.int .i64 n])
def qb (b:Bool):X:= .c (.val false [.bool b])
def qm (a b:Nat):IT:= .i (.mov a (.s b))
def qf (a b n:Nat):IT:= .i (.fad a (.s b) n)
def ql (a b c n:Nat) (g:Bool):IT:= .i (.ldl a b (.s c) n g)
def qs (a b c n:Nat):IT:= .i (.stl a (.s b) (.s c) n)
def qn (a b:Nat):IT:= .i (.len a false (.s b))
def qd (a:Nat) (o:B2) (b c:Nat):IT:= .i (.bin a o (.s b) (.s c))
def qk (a b c:Nat):IT:= .i (.call a b false [(.s c)])
def qz:List C:= [.int .i64 0, .int .i64 0, .int .i64 0, .nils, .nils, .int .i64 0, .int .i64 0, .nils, .nils, .nils]
theorem SX:type_of% (And.intro @SQ (And.intro @qi.eq_1 (And.intro @qb.eq_1 (And.intro @qm.eq_1 (And.intro @qf.eq_1 (And.intro @ql.eq_1 (And.intro @qs.eq_1 (And.intro @qn.eq_1 (And.intro @qd.eq_1 (And.intro @qk.eq_1 @qz.eq_1)))))))))):=And.intro @SQ (And.intro @qi.eq_1 (And.intro @qb.eq_1 (And.intro @qm.eq_1 (And.intro @qf.eq_1 (And.intro @ql.eq_1 (And.intro @qs.eq_1 (And.intro @qn.eq_1 (And.intro @qd.eq_1 (And.intro @qk.eq_1 @qz.eq_1)))))))))
noncomputable abbrev cd:=code Proofs.Tryz.prog
abbrev TLimits:Ty:= .st [(.int .i64),(.int .i64),(.int .i64),(.int .i64),(.int .i64)]
abbrev cq:Ty:= .st [(.int .i64),(.int .i64),(.sl (.int .u8)),(.int .i64),(.sl (.int .u8))]
abbrev fZ:Ty:= .st [(.int .i64),(.int .i64),(.sl (.int .u8)),(.sl (.int .u8)),(.sl (.sl (.int .u8)))]
abbrev ao:Ty:= .st [(.int .i64),(.int .i64),(.int .i64),(.sl (.int .u8)),(.sl (.int .u8)),fZ]
abbrev bL:Ty:= .st [ao,(.sl (.sl (.int .u8)))]
abbrev aQ:Ty:= .st [(.int .i64),(.int .i64),(.sl (.int .u8))]
abbrev yB:Ty:= .st [(.int .i64),(.sl aQ)]
abbrev cj:Ty:= .st [(.sl ao),fZ]
abbrev gW:Ty:= .st [(.int .i64),(.int .i64),(.int .i64),(.sl (.int .u8)),(.sl (.sl (.int .u8)))]
abbrev TMsg:Ty:= .st [(.int .i64),cq,fZ,ao,bL,yB,cj,gW]
abbrev uP:Ty:= .st [(.int .i64),(.sl (.int .u8))]
abbrev yD:Ty:= .st [(.int .i64),(.sl (.int .u8))]
abbrev iv:Ty:= .st [(.sl yD)]
abbrev m7:Ty:= .st [TLimits,iv,uP,(.sl ao)]
abbrev vQ:Ty:= .st [TLimits,(.sl ao)]
abbrev Ed:Ty:= .st [TLimits,iv,m7,(.sl ao)]
end Go.Eng.U
