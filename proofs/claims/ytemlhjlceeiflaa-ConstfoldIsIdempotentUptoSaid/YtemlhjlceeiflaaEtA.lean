/- A table of functions for the evaluation of calls. (Printed by program.) -/
import Derived.Test.YtemlhjlceeiflaaEv
import Derived.Test.YtemlhjlceeiflaaEnv
set_option maxRecDepth 100000
namespace Go.Ab.Ytemlhjlceeiflaa

def etA : Tr := (.node 56 ir56 (.node 37 ir37 (.node 24 ir24 (.node 16 ir16 (.node 11 ir11 (.node 8 ir8 .nil .nil) (.node 13 ir13 .nil .nil)) (.node 19 ir19 (.node 18 ir18 .nil .nil) (.node 22 ir22 .nil .nil))) (.node 31 ir31 (.node 28 ir28 (.node 27 ir27 .nil .nil) (.node 29 ir29 .nil .nil)) (.node 33 ir33 (.node 32 ir32 .nil .nil) (.node 34 ir34 .nil .nil)))) (.node 47 ir47 (.node 43 ir43 (.node 40 ir40 (.node 39 ir39 .nil .nil) (.node 42 ir42 .nil .nil)) (.node 45 ir45 (.node 44 ir44 .nil .nil) (.node 46 ir46 .nil .nil))) (.node 52 ir52 (.node 50 ir50 (.node 49 ir49 .nil .nil) (.node 51 ir51 .nil .nil)) (.node 54 ir54 (.node 53 ir53 .nil .nil) .nil)))) (.node 73 ir73 (.node 65 ir65 (.node 61 ir61 (.node 59 ir59 (.node 57 ir57 .nil .nil) (.node 60 ir60 .nil .nil)) (.node 63 ir63 (.node 62 ir62 .nil .nil) (.node 64 ir64 .nil .nil))) (.node 69 ir69 (.node 67 ir67 (.node 66 ir66 .nil .nil) (.node 68 ir68 .nil .nil)) (.node 71 ir71 (.node 70 ir70 .nil .nil) (.node 72 ir72 .nil .nil)))) (.node 81 ir81 (.node 77 ir77 (.node 75 ir75 (.node 74 ir74 .nil .nil) (.node 76 ir76 .nil .nil)) (.node 79 ir79 (.node 78 ir78 .nil .nil) (.node 80 ir80 .nil .nil))) (.node 85 ir85 (.node 83 ir83 (.node 82 ir82 .nil .nil) (.node 84 ir84 .nil .nil)) (.node 87 ir87 (.node 86 ir86 .nil .nil) .nil)))))
theorem etA_8 : env.ext 8 = none ∧ env.ir 8 = some ir8 := ⟨rfl, by kernel_rfl⟩
theorem etA_11 : env.ext 11 = none ∧ env.ir 11 = some ir11 := ⟨rfl, by kernel_rfl⟩
theorem etA_13 : env.ext 13 = none ∧ env.ir 13 = some ir13 := ⟨rfl, by kernel_rfl⟩
theorem etA_16 : env.ext 16 = none ∧ env.ir 16 = some ir16 := ⟨rfl, by kernel_rfl⟩
theorem etA_18 : env.ext 18 = none ∧ env.ir 18 = some ir18 := ⟨rfl, by kernel_rfl⟩
theorem etA_19 : env.ext 19 = none ∧ env.ir 19 = some ir19 := ⟨rfl, by kernel_rfl⟩
theorem etA_22 : env.ext 22 = none ∧ env.ir 22 = some ir22 := ⟨rfl, by kernel_rfl⟩
theorem etA_24 : env.ext 24 = none ∧ env.ir 24 = some ir24 := ⟨rfl, by kernel_rfl⟩
theorem etA_27 : env.ext 27 = none ∧ env.ir 27 = some ir27 := ⟨rfl, by kernel_rfl⟩
theorem etA_28 : env.ext 28 = none ∧ env.ir 28 = some ir28 := ⟨rfl, by kernel_rfl⟩
theorem etA_29 : env.ext 29 = none ∧ env.ir 29 = some ir29 := ⟨rfl, by kernel_rfl⟩
theorem etA_31 : env.ext 31 = none ∧ env.ir 31 = some ir31 := ⟨rfl, by kernel_rfl⟩
theorem etA_32 : env.ext 32 = none ∧ env.ir 32 = some ir32 := ⟨rfl, by kernel_rfl⟩
theorem etA_33 : env.ext 33 = none ∧ env.ir 33 = some ir33 := ⟨rfl, by kernel_rfl⟩
theorem etA_34 : env.ext 34 = none ∧ env.ir 34 = some ir34 := ⟨rfl, by kernel_rfl⟩
theorem etA_37 : env.ext 37 = none ∧ env.ir 37 = some ir37 := ⟨rfl, by kernel_rfl⟩
theorem etA_39 : env.ext 39 = none ∧ env.ir 39 = some ir39 := ⟨rfl, by kernel_rfl⟩
theorem etA_40 : env.ext 40 = none ∧ env.ir 40 = some ir40 := ⟨rfl, by kernel_rfl⟩
theorem etA_42 : env.ext 42 = none ∧ env.ir 42 = some ir42 := ⟨rfl, by kernel_rfl⟩
theorem etA_43 : env.ext 43 = none ∧ env.ir 43 = some ir43 := ⟨rfl, by kernel_rfl⟩
theorem etA_44 : env.ext 44 = none ∧ env.ir 44 = some ir44 := ⟨rfl, by kernel_rfl⟩
theorem etA_45 : env.ext 45 = none ∧ env.ir 45 = some ir45 := ⟨rfl, by kernel_rfl⟩
theorem etA_46 : env.ext 46 = none ∧ env.ir 46 = some ir46 := ⟨rfl, by kernel_rfl⟩
theorem etA_47 : env.ext 47 = none ∧ env.ir 47 = some ir47 := ⟨rfl, by kernel_rfl⟩
theorem etA_49 : env.ext 49 = none ∧ env.ir 49 = some ir49 := ⟨rfl, by kernel_rfl⟩
theorem etA_50 : env.ext 50 = none ∧ env.ir 50 = some ir50 := ⟨rfl, by kernel_rfl⟩
theorem etA_51 : env.ext 51 = none ∧ env.ir 51 = some ir51 := ⟨rfl, by kernel_rfl⟩
theorem etA_52 : env.ext 52 = none ∧ env.ir 52 = some ir52 := ⟨rfl, by kernel_rfl⟩
theorem etA_53 : env.ext 53 = none ∧ env.ir 53 = some ir53 := ⟨rfl, by kernel_rfl⟩
theorem etA_54 : env.ext 54 = none ∧ env.ir 54 = some ir54 := ⟨rfl, by kernel_rfl⟩
theorem etA_56 : env.ext 56 = none ∧ env.ir 56 = some ir56 := ⟨rfl, by kernel_rfl⟩
theorem etA_57 : env.ext 57 = none ∧ env.ir 57 = some ir57 := ⟨rfl, by kernel_rfl⟩
theorem etA_59 : env.ext 59 = none ∧ env.ir 59 = some ir59 := ⟨rfl, by kernel_rfl⟩
theorem etA_60 : env.ext 60 = none ∧ env.ir 60 = some ir60 := ⟨rfl, by kernel_rfl⟩
theorem etA_61 : env.ext 61 = none ∧ env.ir 61 = some ir61 := ⟨rfl, by kernel_rfl⟩
theorem etA_62 : env.ext 62 = none ∧ env.ir 62 = some ir62 := ⟨rfl, by kernel_rfl⟩
theorem etA_63 : env.ext 63 = none ∧ env.ir 63 = some ir63 := ⟨rfl, by kernel_rfl⟩
theorem etA_64 : env.ext 64 = none ∧ env.ir 64 = some ir64 := ⟨rfl, by kernel_rfl⟩
theorem etA_65 : env.ext 65 = none ∧ env.ir 65 = some ir65 := ⟨rfl, by kernel_rfl⟩
theorem etA_66 : env.ext 66 = none ∧ env.ir 66 = some ir66 := ⟨rfl, by kernel_rfl⟩
theorem etA_67 : env.ext 67 = none ∧ env.ir 67 = some ir67 := ⟨rfl, by kernel_rfl⟩
theorem etA_68 : env.ext 68 = none ∧ env.ir 68 = some ir68 := ⟨rfl, by kernel_rfl⟩
theorem etA_69 : env.ext 69 = none ∧ env.ir 69 = some ir69 := ⟨rfl, by kernel_rfl⟩
theorem etA_70 : env.ext 70 = none ∧ env.ir 70 = some ir70 := ⟨rfl, by kernel_rfl⟩
theorem etA_71 : env.ext 71 = none ∧ env.ir 71 = some ir71 := ⟨rfl, by kernel_rfl⟩
theorem etA_72 : env.ext 72 = none ∧ env.ir 72 = some ir72 := ⟨rfl, by kernel_rfl⟩
theorem etA_73 : env.ext 73 = none ∧ env.ir 73 = some ir73 := ⟨rfl, by kernel_rfl⟩
theorem etA_74 : env.ext 74 = none ∧ env.ir 74 = some ir74 := ⟨rfl, by kernel_rfl⟩
theorem etA_75 : env.ext 75 = none ∧ env.ir 75 = some ir75 := ⟨rfl, by kernel_rfl⟩
theorem etA_76 : env.ext 76 = none ∧ env.ir 76 = some ir76 := ⟨rfl, by kernel_rfl⟩
theorem etA_77 : env.ext 77 = none ∧ env.ir 77 = some ir77 := ⟨rfl, by kernel_rfl⟩
theorem etA_78 : env.ext 78 = none ∧ env.ir 78 = some ir78 := ⟨rfl, by kernel_rfl⟩
theorem etA_79 : env.ext 79 = none ∧ env.ir 79 = some ir79 := ⟨rfl, by kernel_rfl⟩
theorem etA_80 : env.ext 80 = none ∧ env.ir 80 = some ir80 := ⟨rfl, by kernel_rfl⟩
theorem etA_81 : env.ext 81 = none ∧ env.ir 81 = some ir81 := ⟨rfl, by kernel_rfl⟩
theorem etA_82 : env.ext 82 = none ∧ env.ir 82 = some ir82 := ⟨rfl, by kernel_rfl⟩
theorem etA_83 : env.ext 83 = none ∧ env.ir 83 = some ir83 := ⟨rfl, by kernel_rfl⟩
theorem etA_84 : env.ext 84 = none ∧ env.ir 84 = some ir84 := ⟨rfl, by kernel_rfl⟩
theorem etA_85 : env.ext 85 = none ∧ env.ir 85 = some ir85 := ⟨rfl, by kernel_rfl⟩
theorem etA_86 : env.ext 86 = none ∧ env.ir 86 = some ir86 := ⟨rfl, by kernel_rfl⟩
theorem etA_87 : env.ext 87 = none ∧ env.ir 87 = some ir87 := ⟨rfl, by kernel_rfl⟩

theorem etA_all : etA.all (fun n F => env.ext n = none ∧ env.ir n = some F) := ⟨etA_56, ⟨etA_37, ⟨etA_24, ⟨etA_16, ⟨etA_11, ⟨etA_8, trivial, trivial⟩, ⟨etA_13, trivial, trivial⟩⟩, ⟨etA_19, ⟨etA_18, trivial, trivial⟩, ⟨etA_22, trivial, trivial⟩⟩⟩, ⟨etA_31, ⟨etA_28, ⟨etA_27, trivial, trivial⟩, ⟨etA_29, trivial, trivial⟩⟩, ⟨etA_33, ⟨etA_32, trivial, trivial⟩, ⟨etA_34, trivial, trivial⟩⟩⟩⟩, ⟨etA_47, ⟨etA_43, ⟨etA_40, ⟨etA_39, trivial, trivial⟩, ⟨etA_42, trivial, trivial⟩⟩, ⟨etA_45, ⟨etA_44, trivial, trivial⟩, ⟨etA_46, trivial, trivial⟩⟩⟩, ⟨etA_52, ⟨etA_50, ⟨etA_49, trivial, trivial⟩, ⟨etA_51, trivial, trivial⟩⟩, ⟨etA_54, ⟨etA_53, trivial, trivial⟩, trivial⟩⟩⟩⟩, ⟨etA_73, ⟨etA_65, ⟨etA_61, ⟨etA_59, ⟨etA_57, trivial, trivial⟩, ⟨etA_60, trivial, trivial⟩⟩, ⟨etA_63, ⟨etA_62, trivial, trivial⟩, ⟨etA_64, trivial, trivial⟩⟩⟩, ⟨etA_69, ⟨etA_67, ⟨etA_66, trivial, trivial⟩, ⟨etA_68, trivial, trivial⟩⟩, ⟨etA_71, ⟨etA_70, trivial, trivial⟩, ⟨etA_72, trivial, trivial⟩⟩⟩⟩, ⟨etA_81, ⟨etA_77, ⟨etA_75, ⟨etA_74, trivial, trivial⟩, ⟨etA_76, trivial, trivial⟩⟩, ⟨etA_79, ⟨etA_78, trivial, trivial⟩, ⟨etA_80, trivial, trivial⟩⟩⟩, ⟨etA_85, ⟨etA_83, ⟨etA_82, trivial, trivial⟩, ⟨etA_84, trivial, trivial⟩⟩, ⟨etA_87, ⟨etA_86, trivial, trivial⟩, trivial⟩⟩⟩⟩⟩
theorem etA_look : ∀ f F, etA.find f = some F → env.ext f = none ∧ env.ir f = some F := fun _ _ h => Tr.find_all etA_all h

end Go.Ab.Ytemlhjlceeiflaa
