import Derived.Test.YtfackchfbefaiaaGreatProg
import Derived.KernelRfl
import Derived.Test.YtfackchfbefaiaaGreatGc
set_option maxRecDepth 100000
namespace Go.Eng.U
def qi (n:Int):X:= .c (.val false [.int .i64 n])
def qb (b:Bool):X:= .c (.val false [.bool b])
def qm (a b:Nat):IT:= .i (.mov a (.s b))
def qf (a b n:Nat):IT:= .i (.fad a (.s b) n)
def ql (a b c n:Nat) (g:Bool):IT:= .i (.ldl a b (.s c) n g)
def qs (a b c n:Nat):IT:= .i (.stl a (.s b) (.s c) n)
def qn (a b:Nat):IT:= .i (.len a false (.s b))
def qd (a:Nat) (o:B2) (b c:Nat):IT:= .i (.bin a o (.s b) (.s c))
def qk (a b c:Nat):IT:= .i (.call a b false [(.s c)])
def qz:List C:= [.int .i64 0, .int .i64 0, .int .i64 0, .nils, .nils, .int .i64 0, .int .i64 0, .nils, .nils, .nils]
theorem SX:type_of% (And.intro @SQ (And.intro @qi.eq_1 (And.intro @qb.eq_1 (And.intro @qm.eq_1 (And.intro @qf.eq_1 (And.intro @ql.eq_1 (And.intro @qs.eq_1 (And.intro @qn.eq_1 (And.intro @qd.eq_1 (And.intro @qk.eq_1 @qz.eq_1)))))))))):=And.intro @SQ (And.intro @qi.eq_1 (And.intro @qb.eq_1 (And.intro @qm.eq_1 (And.intro @qf.eq_1 (And.intro @ql.eq_1 (And.intro @qs.eq_1 (And.intro @qn.eq_1 (And.intro @qd.eq_1 (And.intro @qk.eq_1 @qz.eq_1)))))))))
noncomputable abbrev cd:=code Proofs.Tryz.prog
abbrev TLimits:Ty:= .st [(.int .i64),(.int .i64),(.int .i64),(.int .i64),(.int .i64)]
abbrev q9:Ty:= .st [(.int .i64),(.int .i64),(.sl (.int .u8)),(.int .i64),(.sl (.int .u8))]
abbrev yQ:Ty:= .st [(.int .i64),(.int .i64),(.sl (.int .u8)),(.sl (.int .u8)),(.sl (.sl (.int .u8)))]
abbrev cu:Ty:= .st [(.int .i64),(.int .i64),(.int .i64),(.sl (.int .u8)),(.sl (.int .u8)),yQ]
abbrev fw:Ty:= .st [cu,(.sl (.sl (.int .u8)))]
abbrev ec:Ty:= .st [(.int .i64),(.int .i64),(.sl (.int .u8))]
abbrev Jq:Ty:= .st [(.int .i64),(.sl ec)]
abbrev dQ:Ty:= .st [(.sl cu),yQ]
abbrev p0:Ty:= .st [(.int .i64),(.int .i64),(.int .i64),(.sl (.int .u8)),(.sl (.sl (.int .u8)))]
abbrev TMsg:Ty:= .st [(.int .i64),q9,yQ,cu,fw,Jq,dQ,p0]
abbrev DH:Ty:= .st [(.int .i64),(.int .i64),TMsg]
abbrev tt:Ty:= .st [(.int .i64),(.sl (.int .u8))]
abbrev AU:Ty:= .st [(.int .i64),(.sl (.int .u8))]
abbrev iM:Ty:= .st [(.sl AU)]
abbrev ob:Ty:= .st [TLimits,iM,tt,(.sl cu)]
abbrev xJ:Ty:= .st [TLimits,(.sl cu)]
abbrev Hw:Ty:= .st [TLimits,iM,ob,(.sl cu)]
end Go.Eng.U
