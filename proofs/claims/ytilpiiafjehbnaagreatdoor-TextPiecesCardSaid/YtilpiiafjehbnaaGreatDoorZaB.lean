import Derived.Test.YtilpiiafjehbnaaGreatDoorZaC
set_option linter.unusedSimpArgs false
set_option linter.unusedVariables false
namespace Go.Proofs.YtilpiiafjehbnaaGreatDoor
open Go.Ev
noncomputable abbrev FF := funcB Tryz.prog (maskOf masks) outside NG
theorem f5 : FF 5 = ⟨bodyC 120 c5 q5⟩ := by kernel_rfl
theorem f8 : FF 8 = ⟨bodyC 29 c8 q8⟩ := by kernel_rfl
theorem f9 : FF 9 = ⟨bodyC 39 c9 q9⟩ := by kernel_rfl
theorem f10 : FF 10 = ⟨bodyC 18 c10 q10⟩ := by kernel_rfl
theorem f11 : FF 11 = ⟨bodyC 15 c11 q11⟩ := by kernel_rfl
theorem f14 : FF 14 = ⟨bodyC 45 c14 q14⟩ := by kernel_rfl
theorem f15 : FF 15 = ⟨bodyC 27 c15 q15⟩ := by kernel_rfl
theorem f18 : FF 18 = ⟨bodyC 94 c18 q18⟩ := by kernel_rfl
theorem f20 : FF 20 = ⟨bodyC 80 c20 q20⟩ := by kernel_rfl
theorem f22 : FF 22 = ⟨bodyC 6 c22 q22⟩ := by kernel_rfl
theorem f25 : FF 25 = ⟨bodyC 19 c25 q25⟩ := by kernel_rfl
theorem f29 : FF 29 = ⟨bodyC 200 c29 q29⟩ := by kernel_rfl
theorem f30 : FF 30 = ⟨bodyC 67 c30 q30⟩ := by kernel_rfl
theorem f33 : FF 33 = ⟨bodyC 76 c33 q33⟩ := by kernel_rfl
theorem f35 : FF 35 = ⟨bodyC 8 c35 q35⟩ := by kernel_rfl
theorem f36 : FF 36 = ⟨bodyC 9 c36 q36⟩ := by kernel_rfl
theorem f42 : FF 42 = ⟨bodyC 8 c42 q42⟩ := by kernel_rfl
theorem f43 : FF 43 = ⟨bodyC 8 c43 q43⟩ := by kernel_rfl
theorem f44 : FF 44 = ⟨bodyC 10 c44 q44⟩ := by kernel_rfl
theorem f46 : FF 46 = ⟨bodyC 6 c46 q46⟩ := by kernel_rfl
theorem f47 : FF 47 = ⟨bodyC 88 c47 q47⟩ := by kernel_rfl
theorem f48 : FF 48 = ⟨bodyC 8 c48 q48⟩ := by kernel_rfl
theorem f49 : FF 49 = ⟨bodyC 50 c49 q49⟩ := by kernel_rfl
theorem f50 : FF 50 = ⟨bodyC 28 c50 q50⟩ := by kernel_rfl
theorem f56 : FF 56 = ⟨bodyC 22 c56 q56⟩ := by kernel_rfl
theorem f57 : FF 57 = ⟨bodyC 54 c57 q57⟩ := by kernel_rfl
theorem f58 : FF 58 = ⟨bodyC 21 c58 q58⟩ := by kernel_rfl
theorem f61 : FF 61 = ⟨bodyC 32 c61 q61⟩ := by kernel_rfl
theorem f63 : FF 63 = ⟨bodyC 40 c63 q63⟩ := by kernel_rfl
theorem f64 : FF 64 = ⟨bodyC 66 c64 q64⟩ := by kernel_rfl
theorem f65 : FF 65 = ⟨bodyC 7 c65 q65⟩ := by kernel_rfl
theorem f66 : FF 66 = ⟨bodyC 15 c66 q66⟩ := by kernel_rfl
theorem f67 : FF 67 = ⟨bodyC 10 c67 q67⟩ := by kernel_rfl
theorem f68 : FF 68 = ⟨bodyC 30 c68 q68⟩ := by kernel_rfl
theorem f69 : FF 69 = ⟨bodyC 25 c69 q69⟩ := by kernel_rfl
theorem f70 : FF 70 = ⟨bodyC 12 c70 q70⟩ := by kernel_rfl
theorem f71 : FF 71 = ⟨bodyC 26 c71 q71⟩ := by kernel_rfl
theorem f72 : FF 72 = ⟨bodyC 10 c72 q72⟩ := by kernel_rfl
theorem f73 : FF 73 = ⟨bodyC 9 c73 q73⟩ := by kernel_rfl
theorem f74 : FF 74 = ⟨bodyC 11 c74 q74⟩ := by kernel_rfl
theorem f75 : FF 75 = ⟨bodyC 0 c75 q75⟩ := by kernel_rfl
theorem f76 : FF 76 = ⟨bodyC 33 c76 q76⟩ := by kernel_rfl
theorem f77 : FF 77 = ⟨bodyC 29 c77 q77⟩ := by kernel_rfl
theorem f78 : FF 78 = ⟨bodyC 5 c78 q78⟩ := by kernel_rfl
theorem f79 : FF 79 = ⟨bodyC 5 c79 q79⟩ := by kernel_rfl
theorem f82 : FF 82 = ⟨bodyC 9 c82 q82⟩ := by kernel_rfl
theorem f85 : FF 85 = ⟨bodyC 15 c85 q85⟩ := by kernel_rfl
theorem f86 : FF 86 = ⟨bodyC 15 c86 q86⟩ := by kernel_rfl
theorem f87 : FF 87 = ⟨bodyC 167 c87 q87⟩ := by kernel_rfl
theorem f90 : FF 90 = ⟨bodyC 34 c90 q90⟩ := by kernel_rfl
theorem f91 : FF 91 = ⟨bodyC 8 c91 q91⟩ := by kernel_rfl
theorem f92 : FF 92 = ⟨bodyC 47 c92 q92⟩ := by kernel_rfl
theorem f94 : FF 94 = ⟨bodyC 19 c94 q94⟩ := by kernel_rfl
theorem f95 : FF 95 = ⟨bodyC 6 c95 q95⟩ := by kernel_rfl
theorem f96 : FF 96 = ⟨bodyC 25 c96 q96⟩ := by kernel_rfl
theorem f97 : FF 97 = ⟨bodyC 4 c97 q97⟩ := by kernel_rfl
theorem f103 : FF 103 = ⟨bodyC 143 c103 q103⟩ := by kernel_rfl
theorem f104 : FF 104 = ⟨bodyC 43 c104 q104⟩ := by kernel_rfl
theorem f105 : FF 105 = ⟨bodyC 26 c105 q105⟩ := by kernel_rfl
theorem f110 : FF 110 = ⟨bodyC 8 c110 q110⟩ := by kernel_rfl
theorem f115 : FF 115 = ⟨bodyC 21 c115 q115⟩ := by kernel_rfl
theorem f116 : FF 116 = ⟨bodyC 16 c116 q116⟩ := by kernel_rfl
theorem f117 : FF 117 = ⟨bodyC 22 c117 q117⟩ := by kernel_rfl
theorem f120 : FF 120 = ⟨bodyC 172 c120 q120⟩ := by kernel_rfl
theorem f121 : FF 121 = ⟨bodyC 43 c121 q121⟩ := by kernel_rfl
theorem f124 : FF 124 = ⟨bodyC 10 c124 q124⟩ := by kernel_rfl
theorem f130 : FF 130 = ⟨bodyC 11 c130 q130⟩ := by kernel_rfl
theorem f135 : FF 135 = ⟨bodyC 18 c135 q135⟩ := by kernel_rfl
end Go.Proofs.YtilpiiafjehbnaaGreatDoor
