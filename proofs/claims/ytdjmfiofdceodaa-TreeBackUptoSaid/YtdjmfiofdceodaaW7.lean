import Derived.Test.YtdjmfiofdceodaaW6
set_option linter.unusedVariables false
set_option linter.unusedSimpArgs false
set_option linter.unusedSectionVars false
section
/- The closed call of awake: run by the evaluator in the kernel (5 minutes, 7.5 GB). -/
namespace Go.Vw.Wm
open Go Go.RowKit Go.Abs Go.Vw Lx Tr
open Go.Proofs (Try.prog)
def isT : Option (AV × AH) → Bool
  | some (.bool b, _) => b
  | _ => false
theorem awake_run : isT (evCallT Try.prog ext0 400 15 [] (bare 0)) = true := by kernel_rfl
end Go.Vw.Wm
end
