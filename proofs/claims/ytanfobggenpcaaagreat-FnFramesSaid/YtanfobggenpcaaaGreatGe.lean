import Derived.Test.YtanfobggenpcaaaGreatProg
import Derived.KernelRfl
import Derived.Test.YtanfobggenpcaaaGreatGb
set_option maxRecDepth 100000
namespace Go.Eng.U
noncomputable abbrev cd:=code Proofs.Tryz.prog
abbrev dv:Ty:= .st [(.int .i64),(.int .i64),(.int .i64),(.int .i64),(.int .i64)]
abbrev Jp:Ty:= .st [(.int .i64),(.int .i64),(.sl (.int .u8)),(.int .i64),(.sl (.int .u8))]
abbrev IX:Ty:= .st [(.int .i64),(.int .i64),(.sl (.int .u8)),(.sl (.int .u8)),(.sl (.sl (.int .u8)))]
abbrev dP:Ty:= .st [(.int .i64),(.int .i64),(.int .i64),(.sl (.int .u8)),(.sl (.int .u8)),IX]
abbrev sC:Ty:= .st [dP,(.sl (.sl (.int .u8)))]
abbrev mj:Ty:= .st [(.int .i64),(.int .i64),(.sl (.int .u8))]
abbrev Sa:Ty:= .st [(.int .i64),(.sl mj)]
abbrev hG:Ty:= .st [(.sl dP),IX]
abbrev IL:Ty:= .st [(.int .i64),(.int .i64),(.int .i64),(.sl (.int .u8)),(.sl (.sl (.int .u8)))]
abbrev IZ:Ty:= .st [(.int .i64),Jp,IX,dP,sC,Sa,hG,IL]
abbrev zI:Ty:= .st [(.int .i64),(.sl (.int .u8))]
abbrev E3:Ty:= .st [(.int .i64),(.sl (.int .u8))]
abbrev kb:Ty:= .st [(.sl E3)]
abbrev rF:Ty:= .st [dv,kb,zI,(.sl dP)]
abbrev BA:Ty:= .st [dv,(.sl dP)]
abbrev Lz:Ty:= .st [dv,kb,rF,(.sl dP)]
end Go.Eng.U
