import Derived.Test.YtaicdpancmfhnaaGreatProg
import Derived.KernelRfl
import Derived.Test.YtaicdpancmfhnaaGreatGc
set_option maxRecDepth 100000
namespace Go.Eng.U
noncomputable abbrev cd := code Proofs.Tryz.prog
abbrev TLimits : Ty := .st [(.int .i64), (.int .i64), (.int .i64), (.int .i64), (.int .i64)]
abbrev TVote : Ty := .st [(.int .i64), (.int .i64), (.sl (.int .u8)), (.int .i64), (.sl (.int .u8))]
abbrev TQc : Ty := .st [(.int .i64), (.int .i64), (.sl (.int .u8)), (.sl (.int .u8)), (.sl (.sl (.int .u8)))]
abbrev THead : Ty := .st [(.int .i64), (.int .i64), (.int .i64), (.sl (.int .u8)), (.sl (.int .u8)), TQc]
abbrev TBlock : Ty := .st [THead, (.sl (.sl (.int .u8)))]
abbrev TEntry : Ty := .st [(.int .i64), (.int .i64), (.sl (.int .u8))]
abbrev TTc : Ty := .st [(.int .i64), (.sl TEntry)]
abbrev TProof : Ty := .st [(.sl THead), TQc]
abbrev TIncl : Ty := .st [(.int .i64), (.int .i64), (.int .i64), (.sl (.int .u8)), (.sl (.sl (.int .u8)))]
abbrev TMsg : Ty := .st [(.int .i64), TVote, TQc, THead, TBlock, TTc, TProof, TIncl]
abbrev TPush : Ty := .st [(.int .i64), (.sl (.int .u8))]
abbrev TRow : Ty := .st [(.int .i64), (.sl (.int .u8))]
abbrev TTable : Ty := .st [(.sl TRow)]
abbrev TLight : Ty := .st [TLimits, TTable, TPush, (.sl THead)]
abbrev TForest : Ty := .st [TLimits, (.sl THead)]
abbrev TDesk : Ty := .st [TLimits, TTable, TLight, (.sl THead)]
end Go.Eng.U
