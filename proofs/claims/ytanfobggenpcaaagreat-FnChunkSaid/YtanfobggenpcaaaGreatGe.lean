import Derived.Test.YtanfobggenpcaaaGreatProg
import Derived.KernelRfl
import Derived.Test.YtanfobggenpcaaaGreatGb
set_option maxRecDepth 100000
namespace Go.Eng.U
noncomputable abbrev cd:=code Proofs.Tryz.prog
abbrev df:Ty:= .st [(.int .i64),(.int .i64),(.int .i64),(.int .i64),(.int .i64)]
abbrev GS:Ty:= .st [(.int .i64),(.int .i64),(.sl (.int .u8)),(.int .i64),(.sl (.int .u8))]
abbrev Gz:Ty:= .st [(.int .i64),(.int .i64),(.sl (.int .u8)),(.sl (.int .u8)),(.sl (.sl (.int .u8)))]
abbrev dK:Ty:= .st [(.int .i64),(.int .i64),(.int .i64),(.sl (.int .u8)),(.sl (.int .u8)),Gz]
abbrev qV:Ty:= .st [dK,(.sl (.sl (.int .u8)))]
abbrev lT:Ty:= .st [(.int .i64),(.int .i64),(.sl (.int .u8))]
abbrev QI:Ty:= .st [(.int .i64),(.sl lT)]
abbrev gP:Ty:= .st [(.sl dK),Gz]
abbrev Hz:Ty:= .st [(.int .i64),(.int .i64),(.int .i64),(.sl (.int .u8)),(.sl (.sl (.int .u8)))]
abbrev Hs:Ty:= .st [(.int .i64),GS,Gz,dK,qV,QI,gP,Hz]
abbrev yM:Ty:= .st [(.int .i64),(.sl (.int .u8))]
abbrev DJ:Ty:= .st [(.int .i64),(.sl (.int .u8))]
abbrev jO:Ty:= .st [(.sl DJ)]
abbrev od:Ty:= .st [df,jO,yM,(.sl dK)]
abbrev Aa:Ty:= .st [df,(.sl dK)]
abbrev Jw:Ty:= .st [df,jO,od,(.sl dK)]
end Go.Eng.U
