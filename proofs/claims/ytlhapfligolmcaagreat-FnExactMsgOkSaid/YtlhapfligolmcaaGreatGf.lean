import Derived.Test.YtlhapfligolmcaaGreatProg
import Derived.KernelRfl
import Derived.Test.YtlhapfligolmcaaGreatGc
set_option maxRecDepth 100000
namespace Go.Eng.U
def qi (n : Int) : X := .c (.val false [.int .i64 n])
def qb (b : Bool) : X := .c (.val false [.bool b])
def qm (a b : Nat) : IT := .i (.mov a (.s b))
def qf (a b n : Nat) : IT := .i (.fad a (.s b) n)
def ql (a b c n : Nat) (g : Bool) : IT := .i (.ldl a b (.s c) n g)
def qz : List C := [.int .i64 0, .int .i64 0, .int .i64 0, .nils, .nils, .int .i64 0, .int .i64 0, .nils, .nils, .nils]
theorem SX : type_of% (And.intro @SQ (And.intro @qi.eq_1 (And.intro @qb.eq_1 (And.intro @qm.eq_1 (And.intro @qf.eq_1 (And.intro @ql.eq_1 @qz.eq_1)))))) := And.intro @SQ (And.intro @qi.eq_1 (And.intro @qb.eq_1 (And.intro @qm.eq_1 (And.intro @qf.eq_1 (And.intro @ql.eq_1 @qz.eq_1)))))
noncomputable abbrev cd := code Proofs.Tryz.prog
abbrev TLimits : Ty := .st [(.int .i64), (.int .i64), (.int .i64), (.int .i64), (.int .i64)]
abbrev TVote : Ty := .st [(.int .i64), (.int .i64), (.sl (.int .u8)), (.int .i64), (.sl (.int .u8))]
abbrev TQc : Ty := .st [(.int .i64), (.int .i64), (.sl (.int .u8)), (.sl (.int .u8)), (.sl (.sl (.int .u8)))]
abbrev THead : Ty := .st [(.int .i64), (.int .i64), (.int .i64), (.sl (.int .u8)), (.sl (.int .u8)), TQc]
abbrev TBlock : Ty := .st [THead, (.sl (.sl (.int .u8)))]
abbrev TEntry : Ty := .st [(.int .i64), (.int .i64), (.sl (.int .u8))]
abbrev TTc : Ty := .st [(.int .i64), (.sl TEntry)]
abbrev TProof : Ty := .st [(.sl THead), TQc]
abbrev TIncl : Ty := .st [(.int .i64), (.int .i64), (.int .i64), (.sl (.int .u8)), (.sl (.sl (.int .u8)))]
abbrev TMsg : Ty := .st [(.int .i64), TVote, TQc, THead, TBlock, TTc, TProof, TIncl]
abbrev TPush : Ty := .st [(.int .i64), (.sl (.int .u8))]
abbrev TRow : Ty := .st [(.int .i64), (.sl (.int .u8))]
abbrev TTable : Ty := .st [(.sl TRow)]
abbrev TLight : Ty := .st [TLimits, TTable, TPush, (.sl THead)]
abbrev TForest : Ty := .st [TLimits, (.sl THead)]
abbrev TDesk : Ty := .st [TLimits, TTable, TLight, (.sl THead)]
end Go.Eng.U
