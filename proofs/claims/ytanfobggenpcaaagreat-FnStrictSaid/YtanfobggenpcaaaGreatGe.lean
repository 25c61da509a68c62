import Derived.Test.YtanfobggenpcaaaGreatProg
import Derived.KernelRfl
import Derived.Test.YtanfobggenpcaaaGreatGb
set_option maxRecDepth 100000
namespace Go.Eng.U
noncomputable abbrev cd:=code Proofs.Tryz.prog
abbrev dz:Ty:= .st [(.int .i64),(.int .i64),(.int .i64),(.int .i64),(.int .i64)]
abbrev Hs:Ty:= .st [(.int .i64),(.int .i64),(.sl (.int .u8)),(.int .i64),(.sl (.int .u8))]
abbrev GR:Ty:= .st [(.int .i64),(.int .i64),(.sl (.int .u8)),(.sl (.int .u8)),(.sl (.sl (.int .u8)))]
abbrev dY:Ty:= .st [(.int .i64),(.int .i64),(.int .i64),(.sl (.int .u8)),(.sl (.int .u8)),GR]
abbrev rJ:Ty:= .st [dY,(.sl (.sl (.int .u8)))]
abbrev l3:Ty:= .st [(.int .i64),(.int .i64),(.sl (.int .u8))]
abbrev QE:Ty:= .st [(.int .i64),(.sl l3)]
abbrev hC:Ty:= .st [(.sl dY),GR]
abbrev G3:Ty:= .st [(.int .i64),(.int .i64),(.int .i64),(.sl (.int .u8)),(.sl (.sl (.int .u8)))]
abbrev Hp:Ty:= .st [(.int .i64),Hs,GR,dY,rJ,QE,hC,G3]
abbrev y6:Ty:= .st [(.int .i64),(.sl (.int .u8))]
abbrev Dk:Ty:= .st [(.int .i64),(.sl (.int .u8))]
abbrev ka:Ty:= .st [(.sl Dk)]
abbrev rI:Ty:= .st [dz,ka,y6,(.sl dY)]
abbrev Ax:Ty:= .st [dz,(.sl dY)]
abbrev Kj:Ty:= .st [dz,ka,rI,(.sl dY)]
end Go.Eng.U
