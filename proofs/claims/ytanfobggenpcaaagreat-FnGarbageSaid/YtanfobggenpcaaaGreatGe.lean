import Derived.Test.YtanfobggenpcaaaGreatProg
import Derived.KernelRfl
import Derived.Test.YtanfobggenpcaaaGreatGb
set_option maxRecDepth 100000
namespace Go.Eng.U
noncomputable abbrev cd:=code Proofs.Tryz.prog
abbrev dr:Ty:= .st [(.int .i64),(.int .i64),(.int .i64),(.int .i64),(.int .i64)]
abbrev IH:Ty:= .st [(.int .i64),(.int .i64),(.sl (.int .u8)),(.int .i64),(.sl (.int .u8))]
abbrev IV:Ty:= .st [(.int .i64),(.int .i64),(.sl (.int .u8)),(.sl (.int .u8)),(.sl (.sl (.int .u8)))]
abbrev dO:Ty:= .st [(.int .i64),(.int .i64),(.int .i64),(.sl (.int .u8)),(.sl (.int .u8)),IV]
abbrev qU:Ty:= .st [dO,(.sl (.sl (.int .u8)))]
abbrev l9:Ty:= .st [(.int .i64),(.int .i64),(.sl (.int .u8))]
abbrev Sf:Ty:= .st [(.int .i64),(.sl l9)]
abbrev hK:Ty:= .st [(.sl dO),IV]
abbrev Jh:Ty:= .st [(.int .i64),(.int .i64),(.int .i64),(.sl (.int .u8)),(.sl (.sl (.int .u8)))]
abbrev Js:Ty:= .st [(.int .i64),IH,IV,dO,qU,Sf,hK,Jh]
abbrev zL:Ty:= .st [(.int .i64),(.sl (.int .u8))]
abbrev E2:Ty:= .st [(.int .i64),(.sl (.int .u8))]
abbrev ka:Ty:= .st [(.sl E2)]
abbrev pL:Ty:= .st [dr,ka,zL,(.sl dO)]
abbrev Bo:Ty:= .st [dr,(.sl dO)]
abbrev L7:Ty:= .st [dr,ka,pL,(.sl dO)]
end Go.Eng.U
