import Derived.Test.YtanfobggenpcaaaGreatProg
import Derived.KernelRfl
import Derived.Test.YtanfobggenpcaaaGreatGb
set_option maxRecDepth 100000
namespace Go.Eng.U
noncomputable abbrev cd:=code Proofs.Tryz.prog
abbrev de:Ty:= .st [(.int .i64),(.int .i64),(.int .i64),(.int .i64),(.int .i64)]
abbrev Hd:Ty:= .st [(.int .i64),(.int .i64),(.sl (.int .u8)),(.int .i64),(.sl (.int .u8))]
abbrev Gr:Ty:= .st [(.int .i64),(.int .i64),(.sl (.int .u8)),(.sl (.int .u8)),(.sl (.sl (.int .u8)))]
abbrev dE:Ty:= .st [(.int .i64),(.int .i64),(.int .i64),(.sl (.int .u8)),(.sl (.int .u8)),Gr]
abbrev qv:Ty:= .st [dE,(.sl (.sl (.int .u8)))]
abbrev lU:Ty:= .st [(.int .i64),(.int .i64),(.sl (.int .u8))]
abbrev Pe:Ty:= .st [(.int .i64),(.sl lU)]
abbrev gz:Ty:= .st [(.sl dE),Gr]
abbrev Gx:Ty:= .st [(.int .i64),(.int .i64),(.int .i64),(.sl (.int .u8)),(.sl (.sl (.int .u8)))]
abbrev FV:Ty:= .st [(.int .i64),Hd,Gr,dE,qv,Pe,gz,Gx]
abbrev yB:Ty:= .st [(.int .i64),(.sl (.int .u8))]
abbrev Dn:Ty:= .st [(.int .i64),(.sl (.int .u8))]
abbrev jG:Ty:= .st [(.sl Dn)]
abbrev rP:Ty:= .st [de,jG,yB,(.sl dE)]
abbrev zW:Ty:= .st [de,(.sl dE)]
abbrev Jm:Ty:= .st [de,jG,rP,(.sl dE)]
end Go.Eng.U
