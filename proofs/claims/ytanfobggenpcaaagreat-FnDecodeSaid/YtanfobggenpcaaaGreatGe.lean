import Derived.Test.YtanfobggenpcaaaGreatProg
import Derived.KernelRfl
import Derived.Test.YtanfobggenpcaaaGreatGb
set_option maxRecDepth 100000
namespace Go.Eng.U
noncomputable abbrev cd:=code Proofs.Tryz.prog
abbrev dr:Ty:= .st [(.int .i64),(.int .i64),(.int .i64),(.int .i64),(.int .i64)]
abbrev G8:Ty:= .st [(.int .i64),(.int .i64),(.sl (.int .u8)),(.int .i64),(.sl (.int .u8))]
abbrev Hw:Ty:= .st [(.int .i64),(.int .i64),(.sl (.int .u8)),(.sl (.int .u8)),(.sl (.sl (.int .u8)))]
abbrev dT:Ty:= .st [(.int .i64),(.int .i64),(.int .i64),(.sl (.int .u8)),(.sl (.int .u8)),Hw]
abbrev rT:Ty:= .st [dT,(.sl (.sl (.int .u8)))]
abbrev lZ:Ty:= .st [(.int .i64),(.int .i64),(.sl (.int .u8))]
abbrev P7:Ty:= .st [(.int .i64),(.sl lZ)]
abbrev gU:Ty:= .st [(.sl dT),Hw]
abbrev He:Ty:= .st [(.int .i64),(.int .i64),(.int .i64),(.sl (.int .u8)),(.sl (.sl (.int .u8)))]
abbrev HB:Ty:= .st [(.int .i64),G8,Hw,dT,rT,P7,gU,He]
abbrev yD:Ty:= .st [(.int .i64),(.sl (.int .u8))]
abbrev Dd:Ty:= .st [(.int .i64),(.sl (.int .u8))]
abbrev jQ:Ty:= .st [(.sl Dd)]
abbrev po:Ty:= .st [dr,jQ,yD,(.sl dT)]
abbrev Al:Ty:= .st [dr,(.sl dT)]
abbrev J5:Ty:= .st [dr,jQ,po,(.sl dT)]
end Go.Eng.U
