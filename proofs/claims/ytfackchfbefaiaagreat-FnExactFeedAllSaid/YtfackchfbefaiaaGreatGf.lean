import Derived.Test.YtfackchfbefaiaaGreatProg
import Derived.KernelRfl
import Derived.Test.YtfackchfbefaiaaGreatGc
set_option maxRecDepth 100000
namespace Go.Eng.U
def qi (n:Int):X:= .c (.val false [.int .i64 n])
def qb (b:Bool):X:= .c (.val false [.bool b])
def qm (a b:Nat):IT:= .i (.mov a (.s b))
def qf (a b n:Nat):IT:= .i (.fad a (.s b) n)
def ql (a b c n:Nat) (g:Bool):IT:= .i (.ldl a b (.s c) n g)
def qs (a b c n:Nat):IT:= .i (.stl a (.s b) (.s c) n)
def qn (a b:Nat):IT:= .i (.len a false (.s b))
def qd (a:Nat) (o:B2) (b c:Nat):IT:= .i (.bin a o (.s b) (.s c))
def qk (a b c:Nat):IT:= .i (.call a b false [(.s c)])
def qz:List C:= [.int .i64 0, .int .i64 0, .int .i64 0, .nils, .nils, .int .i64 0, .int .i64 0, .nils, .nils, .nils]
theorem SX:type_of% (And.intro @SQ (And.intro @qi.eq_1 (And.intro @qb.eq_1 (And.intro @qm.eq_1 (And.intro @qf.eq_1 (And.intro @ql.eq_1 (And.intro @qs.eq_1 (And.intro @qn.eq_1 (And.intro @qd.eq_1 (And.intro @qk.eq_1 @qz.eq_1)))))))))):=And.intro @SQ (And.intro @qi.eq_1 (And.intro @qb.eq_1 (And.intro @qm.eq_1 (And.intro @qf.eq_1 (And.intro @ql.eq_1 (And.intro @qs.eq_1 (And.intro @qn.eq_1 (And.intro @qd.eq_1 (And.intro @qk.eq_1 @qz.eq_1)))))))))
noncomputable abbrev cd:=code Proofs.Tryz.prog
abbrev TLimits:Ty:= .st [(.int .i64),(.int .i64),(.int .i64),(.int .i64),(.int .i64)]
abbrev vq:Ty:= .st [(.int .i64),(.int .i64),(.sl (.int .u8)),(.int .i64),(.sl (.int .u8))]
abbrev za:Ty:= .st [(.int .i64),(.int .i64),(.sl (.int .u8)),(.sl (.int .u8)),(.sl (.sl (.int .u8)))]
abbrev c8:Ty:= .st [(.int .i64),(.int .i64),(.int .i64),(.sl (.int .u8)),(.sl (.int .u8)),za]
abbrev iZ:Ty:= .st [c8,(.sl (.sl (.int .u8)))]
abbrev fv:Ty:= .st [(.int .i64),(.int .i64),(.sl (.int .u8))]
abbrev LQ:Ty:= .st [(.int .i64),(.sl fv)]
abbrev fx:Ty:= .st [(.sl c8),za]
abbrev vt:Ty:= .st [(.int .i64),(.int .i64),(.int .i64),(.sl (.int .u8)),(.sl (.sl (.int .u8)))]
abbrev mj:Ty:= .st [(.int .i64),vq,za,c8,iZ,LQ,fx,vt]
abbrev eM:Ty:= .st [(.int .i64),(.int .i64),mj]
abbrev TPush:Ty:= .st [(.int .i64),(.sl (.int .u8))]
abbrev vP:Ty:= .st [(.int .i64),(.sl (.int .u8))]
abbrev iL:Ty:= .st [(.sl vP)]
abbrev oG:Ty:= .st [TLimits,iL,TPush,(.sl c8)]
abbrev wZ:Ty:= .st [TLimits,(.sl c8)]
abbrev Gr:Ty:= .st [TLimits,iL,oG,(.sl c8)]
end Go.Eng.U
