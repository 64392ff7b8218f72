import Derived.Test.YtihmoaibgmhjeaaDoorEnv
import Derived.Test.YtihmoaibgmhjeaaDoorAb34
set_option linter.unusedVariables false
set_option linter.unusedSimpArgs false
namespace Go.Ab.YtihmoaibgmhjeaaDoor
theorem exps_spec {h : H} {K : Out → H → Prop} (hK : K (.ret (.vec [I 5, I 7, I 13, I 17, I 19, I 31, I 61] .any)) h) : R 28 [] h K := by
 refine run28 (Nat.le_of_ble_eq_true rfl) ?_
 simp -dsimp -implicitDefEqProofs only [↓STP, STQ, seval, ir28]
 exact hK
end Go.Ab.YtihmoaibgmhjeaaDoor
