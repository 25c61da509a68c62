/- 'FnExactOfHead' returns true, whatever the argument; the argument reads as it did. -/
import Derived.Test.YtkhciaoemhfhbaaRows
import Derived.Test.YtkhciaoemhfhbaaEngZg
namespace Go.Proofs.Ytkhciaoemhfhbaa.fnExactOfHeadDone
open Go.ChangeShapes Go.WideShapes Go.ChangeAt Go.RowKit
set_option linter.unusedVariables false
theorem own : ownKnob Try.prog.godebug = none := by kernel_rfl
theorem laidOut : laidOutB Try.prog = true := by kernel_rfl
set_option maxRecDepth 100000 in
theorem lifted (os : Os) (started : os.Started) (X : Type) (enc : TypeId × Value → X) :
    ReturnsInHanded {} Try.checked os 9 .any (Rows.fnExactOfHeadSpec.pre6 enc Try.prog Try.f9 Rows.fnExactOfHeadRow.domain false) (Rows.fnExactOfHeadSpec.post enc Try.prog Try.f9 false true false false) :=
  Eng.lifted_of (C := Try.checked) (Ts := [Eng.U.THead]) own started (by kernel_rfl) Try.func9
    (ChangeSpec.witness6 (enc := enc) (C := Try.checked) false ⟨#[], #[.agg #[.int .i64 0, .int .i64 0, .int .i64 0, .slice none 0 0, .slice none 0 0, .int .i64 0, .int .i64 0, .slice none 0 0, .slice none 0 0, .slice none 0 0]], []⟩ 8 (by kernel_rfl) (by kernel_rfl) (by kernel_rfl) (by kernel_rfl))
    (by kernel_rfl) Eng.U.law_Head rfl (fun ds h => match ds, h with | [d], _ => rfl) (tb := 4) (by kernel_rfl) (by kernel_rfl) laidOut (of_decide_eq_true (by kernel_rfl))
theorem over : Rows.fnExactOfHeadRow.holds Try.pinned (OpenSpec.ofChange Rows.fnExactOfHeadSpec) :=
  OpenClaim.holds_of_wide 9 Try.f9 rfl rfl rfl rfl rfl rfl rfl ⟨rfl, rfl, rfl, rfl, rfl⟩ rfl rfl rfl rfl rfl (by kernel_rfl) Try.func9 (by kernel_rfl)
    (of_decide_eq_true (by kernel_rfl)) (by unfold Func.isWrapper; first | (rw [if_pos (by decide +kernel)]; kernel_rfl) | (rw [if_neg (by decide +kernel)]; exact ⟨rfl, rfl⟩))
    (fun os started H enc _ => lifted os started H enc)
theorem proved : Rows.FnExactOfHeadSaid := over
#print axioms proved
end Go.Proofs.Ytkhciaoemhfhbaa.fnExactOfHeadDone
