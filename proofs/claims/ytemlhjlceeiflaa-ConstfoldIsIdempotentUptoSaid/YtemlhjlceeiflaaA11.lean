/- The law's few examples, by evaluation. -/
import Derived.Test.YtemlhjlceeiflaaEtA
import Derived.Test.YtemlhjlceeiflaaAb31
set_option linter.unusedVariables false
set_option maxRecDepth 100000
namespace Go.Ab.Ytemlhjlceeiflaa
theorem awake_true : yieldsTrue (callsE etA.find 400 8 [] h0) = true := by kernel_rfl
theorem awake31 {K : Out → H → Prop} (hK : ∀ h', K (.ret (.bool true)) h') : R 8 [] h0 K := runs_true etA_look awake_true hK
end Go.Ab.Ytemlhjlceeiflaa
