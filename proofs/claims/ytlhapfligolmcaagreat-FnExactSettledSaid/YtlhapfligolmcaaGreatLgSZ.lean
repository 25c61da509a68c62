/- 'FnExactSettled' returns true, whatever the arguments; the arguments read as they did. -/
import Derived.Test.YtlhapfligolmcaaGreatRows
import Derived.Test.YtlhapfligolmcaaGreatGi
namespace Go.Proofs.YtlhapfligolmcaaGreat.fnExactSettledDone
open Go.ChangeShapes Go.WideShapes Go.ChangeAt Go.RowKit
set_option linter.unusedVariables false
theorem own : ownKnob Tryz.prog.godebug = none := by kernel_rfl
theorem laidOut : laidOutB Tryz.prog = true := by kernel_rfl
set_option maxRecDepth 100000 in
theorem lifted (os : Os) (started : os.Started) (X : Type) (enc : TypeId × Value → X) :
    ReturnsInHanded {} Tryz.checked os 4 .any (Rows.fnExactSettledSpec.pre6 enc Tryz.prog Tryz.f4 Rows.fnExactSettledRow.domain false) (Rows.fnExactSettledSpec.post enc Tryz.prog Tryz.f4 false true false false) :=
  Eng.lifted_of (C := Tryz.checked) (Ts := [Eng.U.TForest, Eng.U.TTable]) own started (by kernel_rfl) Tryz.func4
    (ChangeSpec.witness6 (enc := enc) (C := Tryz.checked) false ⟨#[], #[.agg #[.int .i64 0, .int .i64 0, .int .i64 0, .int .i64 0, .int .i64 0, .slice none 0 0], .agg #[.slice none 0 0]], []⟩ 8 (by kernel_rfl) (by kernel_rfl) (by kernel_rfl) (by kernel_rfl))
    (by kernel_rfl) Eng.U.law_Settled rfl (fun ds h => match ds, h with | [d, e], _ => rfl) (tb := 4) (by kernel_rfl) (by kernel_rfl) laidOut (of_decide_eq_true (by kernel_rfl))
theorem over : Rows.fnExactSettledRow.holds Tryz.pinned (OpenSpec.ofChange Rows.fnExactSettledSpec) :=
  OpenClaim.holds_of_wide 4 Tryz.f4 rfl rfl rfl rfl rfl rfl rfl ⟨rfl, rfl, rfl, rfl, rfl⟩ rfl rfl rfl rfl rfl (by kernel_rfl) Tryz.func4 (by kernel_rfl)
    (of_decide_eq_true (by kernel_rfl)) (by unfold Func.isWrapper; first | (rw [if_pos (by decide +kernel)]; kernel_rfl) | (rw [if_neg (by decide +kernel)]; exact ⟨rfl, rfl⟩))
    (fun os started H enc _ => lifted os started H enc)
theorem proved : Rows.FnExactSettledSaid := over
#print axioms proved
end Go.Proofs.YtlhapfligolmcaaGreat.fnExactSettledDone
