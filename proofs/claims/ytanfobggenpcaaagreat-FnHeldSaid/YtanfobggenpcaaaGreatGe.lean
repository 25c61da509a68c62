import Derived.Test.YtanfobggenpcaaaGreatProg
import Derived.KernelRfl
import Derived.Test.YtanfobggenpcaaaGreatGb
set_option maxRecDepth 100000
namespace Go.Eng.U
noncomputable abbrev cd:=code Proofs.Tryz.prog
abbrev cO:Ty:= .st [(.int .i64),(.int .i64),(.int .i64),(.int .i64),(.int .i64)]
abbrev EG:Ty:= .st [(.int .i64),(.int .i64),(.sl (.int .u8)),(.int .i64),(.sl (.int .u8))]
abbrev Fi:Ty:= .st [(.int .i64),(.int .i64),(.sl (.int .u8)),(.sl (.int .u8)),(.sl (.sl (.int .u8)))]
abbrev df:Ty:= .st [(.int .i64),(.int .i64),(.int .i64),(.sl (.int .u8)),(.sl (.int .u8)),Fi]
abbrev mQ:Ty:= .st [df,(.sl (.sl (.int .u8)))]
abbrev ku:Ty:= .st [(.int .i64),(.int .i64),(.sl (.int .u8))]
abbrev Oy:Ty:= .st [(.int .i64),(.sl ku)]
abbrev fZ:Ty:= .st [(.sl df),Fi]
abbrev FT:Ty:= .st [(.int .i64),(.int .i64),(.int .i64),(.sl (.int .u8)),(.sl (.sl (.int .u8)))]
abbrev EU:Ty:= .st [(.int .i64),EG,Fi,df,mQ,Oy,fZ,FT]
abbrev wN:Ty:= .st [(.int .i64),(.sl (.int .u8))]
abbrev BU:Ty:= .st [(.int .i64),(.sl (.int .u8))]
abbrev iN:Ty:= .st [(.sl BU)]
abbrev pk:Ty:= .st [cO,iN,wN,(.sl df)]
abbrev yl:Ty:= .st [cO,(.sl df)]
abbrev Hx:Ty:= .st [cO,iN,pk,(.sl df)]
end Go.Eng.U
