import Derived.Test.YthofbmfcpfibdaaDoorWuA
set_option linter.unusedSimpArgs false
set_option linter.unusedVariables false
namespace Go.Proofs.YthofbmfcpfibdaaDoor
open Go.Ev
theorem f9 : funcB Tryd.prog (maskOf masks) outside NG 9 = ⟨bodyC 58 c9 q9⟩ := by kernel_rfl
theorem f11 : funcB Tryd.prog (maskOf masks) outside NG 11 = ⟨bodyC 82 c11 q11⟩ := by kernel_rfl
theorem f13 : funcB Tryd.prog (maskOf masks) outside NG 13 = ⟨bodyC 151 c13 q13⟩ := by kernel_rfl
theorem f15 : funcB Tryd.prog (maskOf masks) outside NG 15 = ⟨bodyC 38 c15 q15⟩ := by kernel_rfl
theorem f18 : funcB Tryd.prog (maskOf masks) outside NG 18 = ⟨bodyC 6 c18 q18⟩ := by kernel_rfl
theorem f19 : funcB Tryd.prog (maskOf masks) outside NG 19 = ⟨bodyC 9 c19 q19⟩ := by kernel_rfl
theorem f20 : funcB Tryd.prog (maskOf masks) outside NG 20 = ⟨bodyC 7 c20 q20⟩ := by kernel_rfl
theorem f21 : funcB Tryd.prog (maskOf masks) outside NG 21 = ⟨bodyC 2 c21 q21⟩ := by kernel_rfl
theorem f22 : funcB Tryd.prog (maskOf masks) outside NG 22 = ⟨bodyC 64 c22 q22⟩ := by kernel_rfl
theorem f23 : funcB Tryd.prog (maskOf masks) outside NG 23 = ⟨bodyC 10 c23 q23⟩ := by kernel_rfl
theorem f27 : funcB Tryd.prog (maskOf masks) outside NG 27 = ⟨bodyC 60 c27 q27⟩ := by kernel_rfl
theorem f28 : funcB Tryd.prog (maskOf masks) outside NG 28 = ⟨bodyC 200 c28 q28⟩ := by kernel_rfl
theorem f29 : funcB Tryd.prog (maskOf masks) outside NG 29 = ⟨bodyC 8 c29 q29⟩ := by kernel_rfl
theorem f30 : funcB Tryd.prog (maskOf masks) outside NG 30 = ⟨bodyC 93 c30 q30⟩ := by kernel_rfl
theorem f31 : funcB Tryd.prog (maskOf masks) outside NG 31 = ⟨bodyC 139 c31 q31⟩ := by kernel_rfl
theorem f36 : funcB Tryd.prog (maskOf masks) outside NG 36 = ⟨bodyC 45 c36 q36⟩ := by kernel_rfl
theorem f38 : funcB Tryd.prog (maskOf masks) outside NG 38 = ⟨bodyC 8 c38 q38⟩ := by kernel_rfl
theorem f39 : funcB Tryd.prog (maskOf masks) outside NG 39 = ⟨bodyC 9 c39 q39⟩ := by kernel_rfl
theorem f40 : funcB Tryd.prog (maskOf masks) outside NG 40 = ⟨bodyC 19 c40 q40⟩ := by kernel_rfl
theorem f41 : funcB Tryd.prog (maskOf masks) outside NG 41 = ⟨bodyC 19 c41 q41⟩ := by kernel_rfl
theorem f42 : funcB Tryd.prog (maskOf masks) outside NG 42 = ⟨bodyC 75 c42 q42⟩ := by kernel_rfl
theorem f43 : funcB Tryd.prog (maskOf masks) outside NG 43 = ⟨bodyC 5 c43 q43⟩ := by kernel_rfl
theorem f44 : funcB Tryd.prog (maskOf masks) outside NG 44 = ⟨bodyC 2 c44 q44⟩ := by kernel_rfl
theorem f45 : funcB Tryd.prog (maskOf masks) outside NG 45 = ⟨bodyC 35 c45 q45⟩ := by kernel_rfl
theorem f46 : funcB Tryd.prog (maskOf masks) outside NG 46 = ⟨bodyC 13 c46 q46⟩ := by kernel_rfl
theorem f47 : funcB Tryd.prog (maskOf masks) outside NG 47 = ⟨bodyC 14 c47 q47⟩ := by kernel_rfl
theorem f54 : funcB Tryd.prog (maskOf masks) outside NG 54 = ⟨bodyC 6 c54 q54⟩ := by kernel_rfl
theorem f55 : funcB Tryd.prog (maskOf masks) outside NG 55 = ⟨bodyC 21 c55 q55⟩ := by kernel_rfl
theorem f56 : funcB Tryd.prog (maskOf masks) outside NG 56 = ⟨bodyC 8 c56 q56⟩ := by kernel_rfl
theorem f57 : funcB Tryd.prog (maskOf masks) outside NG 57 = ⟨bodyC 10 c57 q57⟩ := by kernel_rfl
theorem f59 : funcB Tryd.prog (maskOf masks) outside NG 59 = ⟨bodyC 6 c59 q59⟩ := by kernel_rfl
theorem f60 : funcB Tryd.prog (maskOf masks) outside NG 60 = ⟨bodyC 88 c60 q60⟩ := by kernel_rfl
theorem f61 : funcB Tryd.prog (maskOf masks) outside NG 61 = ⟨bodyC 66 c61 q61⟩ := by kernel_rfl
theorem f62 : funcB Tryd.prog (maskOf masks) outside NG 62 = ⟨bodyC 20 c62 q62⟩ := by kernel_rfl
theorem f63 : funcB Tryd.prog (maskOf masks) outside NG 63 = ⟨bodyC 19 c63 q63⟩ := by kernel_rfl
theorem f65 : funcB Tryd.prog (maskOf masks) outside NG 65 = ⟨bodyC 21 c65 q65⟩ := by kernel_rfl
theorem f66 : funcB Tryd.prog (maskOf masks) outside NG 66 = ⟨bodyC 20 c66 q66⟩ := by kernel_rfl
theorem f67 : funcB Tryd.prog (maskOf masks) outside NG 67 = ⟨bodyC 25 c67 q67⟩ := by kernel_rfl
theorem f68 : funcB Tryd.prog (maskOf masks) outside NG 68 = ⟨bodyC 8 c68 q68⟩ := by kernel_rfl
theorem f70 : funcB Tryd.prog (maskOf masks) outside NG 70 = ⟨bodyC 9 c70 q70⟩ := by kernel_rfl
theorem f72 : funcB Tryd.prog (maskOf masks) outside NG 72 = ⟨bodyC 40 c72 q72⟩ := by kernel_rfl
theorem f74 : funcB Tryd.prog (maskOf masks) outside NG 74 = ⟨bodyC 34 c74 q74⟩ := by kernel_rfl
theorem f75 : funcB Tryd.prog (maskOf masks) outside NG 75 = ⟨bodyC 8 c75 q75⟩ := by kernel_rfl
theorem f76 : funcB Tryd.prog (maskOf masks) outside NG 76 = ⟨bodyC 45 c76 q76⟩ := by kernel_rfl
theorem f79 : funcB Tryd.prog (maskOf masks) outside NG 79 = ⟨bodyC 30 c79 q79⟩ := by kernel_rfl
theorem f80 : funcB Tryd.prog (maskOf masks) outside NG 80 = ⟨bodyC 32 c80 q80⟩ := by kernel_rfl
theorem f84 : funcB Tryd.prog (maskOf masks) outside NG 84 = ⟨bodyC 143 c84 q84⟩ := by kernel_rfl
theorem f85 : funcB Tryd.prog (maskOf masks) outside NG 85 = ⟨bodyC 26 c85 q85⟩ := by kernel_rfl
theorem f87 : funcB Tryd.prog (maskOf masks) outside NG 87 = ⟨bodyC 15 c87 q87⟩ := by kernel_rfl
theorem f88 : funcB Tryd.prog (maskOf masks) outside NG 88 = ⟨bodyC 15 c88 q88⟩ := by kernel_rfl
theorem f89 : funcB Tryd.prog (maskOf masks) outside NG 89 = ⟨bodyC 167 c89 q89⟩ := by kernel_rfl
theorem f92 : funcB Tryd.prog (maskOf masks) outside NG 92 = ⟨bodyC 8 c92 q92⟩ := by kernel_rfl
theorem f95 : funcB Tryd.prog (maskOf masks) outside NG 95 = ⟨bodyC 172 c95 q95⟩ := by kernel_rfl
theorem f96 : funcB Tryd.prog (maskOf masks) outside NG 96 = ⟨bodyC 43 c96 q96⟩ := by kernel_rfl
theorem f97 : funcB Tryd.prog (maskOf masks) outside NG 97 = ⟨bodyC 6 c97 q97⟩ := by kernel_rfl
theorem f98 : funcB Tryd.prog (maskOf masks) outside NG 98 = ⟨bodyC 25 c98 q98⟩ := by kernel_rfl
theorem f99 : funcB Tryd.prog (maskOf masks) outside NG 99 = ⟨bodyC 4 c99 q99⟩ := by kernel_rfl
theorem f107 : funcB Tryd.prog (maskOf masks) outside NG 107 = ⟨bodyC 11 c107 q107⟩ := by kernel_rfl
theorem f112 : funcB Tryd.prog (maskOf masks) outside NG 112 = ⟨bodyC 18 c112 q112⟩ := by kernel_rfl
end Go.Proofs.YthofbmfcpfibdaaDoor
