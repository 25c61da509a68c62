import Derived.Test.YtanfobggenpcaaaGreatProg
import Derived.KernelRfl
import Derived.Test.YtanfobggenpcaaaGreatGb
set_option maxRecDepth 100000
namespace Go.Eng.U
noncomputable abbrev cd:=code Proofs.Tryz.prog
abbrev dD:Ty:= .st [(.int .i64),(.int .i64),(.int .i64),(.int .i64),(.int .i64)]
abbrev I3:Ty:= .st [(.int .i64),(.int .i64),(.sl (.int .u8)),(.int .i64),(.sl (.int .u8))]
abbrev Kq:Ty:= .st [(.int .i64),(.int .i64),(.sl (.int .u8)),(.sl (.int .u8)),(.sl (.sl (.int .u8)))]
abbrev d7:Ty:= .st [(.int .i64),(.int .i64),(.int .i64),(.sl (.int .u8)),(.sl (.int .u8)),Kq]
abbrev sH:Ty:= .st [d7,(.sl (.sl (.int .u8)))]
abbrev mA:Ty:= .st [(.int .i64),(.int .i64),(.sl (.int .u8))]
abbrev Th:Ty:= .st [(.int .i64),(.sl mA)]
abbrev il:Ty:= .st [(.sl d7),Kq]
abbrev I7:Ty:= .st [(.int .i64),(.int .i64),(.int .i64),(.sl (.int .u8)),(.sl (.sl (.int .u8)))]
abbrev Jg:Ty:= .st [(.int .i64),I3,Kq,d7,sH,Th,il,I7]
abbrev Aq:Ty:= .st [(.int .i64),(.sl (.int .u8))]
abbrev Fq:Ty:= .st [(.int .i64),(.sl (.int .u8))]
abbrev kq:Ty:= .st [(.sl Fq)]
abbrev pg:Ty:= .st [dD,kq,Aq,(.sl d7)]
abbrev BT:Ty:= .st [dD,(.sl d7)]
abbrev L9:Ty:= .st [dD,kq,pg,(.sl d7)]
end Go.Eng.U
