/- 'FnExactStands' returns true, whatever the arguments; the arguments read as they did. -/
import Derived.Test.YtaicdpancmfhnaaRows
import Derived.Test.YtaicdpancmfhnaaGi
namespace Go.Proofs.Ytaicdpancmfhnaa.fnExactStandsDone
open Go.ChangeShapes Go.WideShapes Go.ChangeAt Go.RowKit
set_option linter.unusedVariables false
theorem own : ownKnob Try.prog.godebug = none := by kernel_rfl
theorem laidOut : laidOutB Try.prog = true := by kernel_rfl
set_option maxRecDepth 100000 in
theorem lifted (os : Os) (started : os.Started) (X : Type) (enc : TypeId × Value → X) :
    ReturnsInHanded {} Try.checked os 7 .any (Rows.fnExactStandsSpec.pre6 enc Try.prog Try.f7 Rows.fnExactStandsRow.domain false) (Rows.fnExactStandsSpec.post enc Try.prog Try.f7 false true false false) :=
  Eng.lifted_of (C := Try.checked) (Ts := [Eng.U.TForest, (.sl (.int .u8)), (.sl (.int .u8))]) own started (by kernel_rfl) Try.func7
    (ChangeSpec.witness6 (enc := enc) (C := Try.checked) false ⟨#[], #[.agg #[.int .i64 0, .int .i64 0, .int .i64 0, .int .i64 0, .int .i64 0, .slice none 0 0], .slice none 0 0, .slice none 0 0], []⟩ 8 (by kernel_rfl) (by kernel_rfl) (by kernel_rfl) (by kernel_rfl))
    (by kernel_rfl) Eng.U.law_Stands rfl (fun ds h => match ds, h with | [d, e, f], _ => rfl) (tb := 4) (by kernel_rfl) (by kernel_rfl) laidOut (of_decide_eq_true (by kernel_rfl))
theorem over : Rows.fnExactStandsRow.holds Try.pinned (OpenSpec.ofChange Rows.fnExactStandsSpec) :=
  OpenClaim.holds_of_wide 7 Try.f7 rfl rfl rfl rfl rfl rfl rfl ⟨rfl, rfl, rfl, rfl, rfl⟩ rfl rfl rfl rfl rfl (by kernel_rfl) Try.func7 (by kernel_rfl)
    (of_decide_eq_true (by kernel_rfl)) (by unfold Func.isWrapper; first | (rw [if_pos (by decide +kernel)]; kernel_rfl) | (rw [if_neg (by decide +kernel)]; exact ⟨rfl, rfl⟩))
    (fun os started H enc _ => lifted os started H enc)
theorem proved : Rows.FnExactStandsSaid := over
#print axioms proved
end Go.Proofs.Ytaicdpancmfhnaa.fnExactStandsDone
