import Derived.Test.YthofbmfcpfibdaaDoorWyA
set_option linter.unusedSimpArgs false
set_option linter.unusedVariables false
namespace Go.Proofs.YthofbmfcpfibdaaDoor
open Go.Ev
theorem f4 : funcB Tryd.prog (maskOf masks) outside NG 4 = ⟨bodyC 62 c4 q4⟩ := by kernel_rfl
theorem f13 : funcB Tryd.prog (maskOf masks) outside NG 13 = ⟨bodyC 151 c13 q13⟩ := by kernel_rfl
theorem f14 : funcB Tryd.prog (maskOf masks) outside NG 14 = ⟨bodyC 147 c14 q14⟩ := by kernel_rfl
theorem f15 : funcB Tryd.prog (maskOf masks) outside NG 15 = ⟨bodyC 38 c15 q15⟩ := by kernel_rfl
theorem f18 : funcB Tryd.prog (maskOf masks) outside NG 18 = ⟨bodyC 6 c18 q18⟩ := by kernel_rfl
theorem f21 : funcB Tryd.prog (maskOf masks) outside NG 21 = ⟨bodyC 2 c21 q21⟩ := by kernel_rfl
theorem f24 : funcB Tryd.prog (maskOf masks) outside NG 24 = ⟨bodyC 154 c24 q24⟩ := by kernel_rfl
theorem f26 : funcB Tryd.prog (maskOf masks) outside NG 26 = ⟨bodyC 99 c26 q26⟩ := by kernel_rfl
theorem f28 : funcB Tryd.prog (maskOf masks) outside NG 28 = ⟨bodyC 200 c28 q28⟩ := by kernel_rfl
theorem f29 : funcB Tryd.prog (maskOf masks) outside NG 29 = ⟨bodyC 8 c29 q29⟩ := by kernel_rfl
theorem f30 : funcB Tryd.prog (maskOf masks) outside NG 30 = ⟨bodyC 93 c30 q30⟩ := by kernel_rfl
theorem f31 : funcB Tryd.prog (maskOf masks) outside NG 31 = ⟨bodyC 139 c31 q31⟩ := by kernel_rfl
theorem f32 : funcB Tryd.prog (maskOf masks) outside NG 32 = ⟨bodyC 29 c32 q32⟩ := by kernel_rfl
theorem f33 : funcB Tryd.prog (maskOf masks) outside NG 33 = ⟨bodyC 79 c33 q33⟩ := by kernel_rfl
theorem f34 : funcB Tryd.prog (maskOf masks) outside NG 34 = ⟨bodyC 32 c34 q34⟩ := by kernel_rfl
theorem f35 : funcB Tryd.prog (maskOf masks) outside NG 35 = ⟨bodyC 124 c35 q35⟩ := by kernel_rfl
theorem f36 : funcB Tryd.prog (maskOf masks) outside NG 36 = ⟨bodyC 45 c36 q36⟩ := by kernel_rfl
theorem f38 : funcB Tryd.prog (maskOf masks) outside NG 38 = ⟨bodyC 8 c38 q38⟩ := by kernel_rfl
theorem f39 : funcB Tryd.prog (maskOf masks) outside NG 39 = ⟨bodyC 9 c39 q39⟩ := by kernel_rfl
theorem f45 : funcB Tryd.prog (maskOf masks) outside NG 45 = ⟨bodyC 35 c45 q45⟩ := by kernel_rfl
theorem f46 : funcB Tryd.prog (maskOf masks) outside NG 46 = ⟨bodyC 13 c46 q46⟩ := by kernel_rfl
theorem f48 : funcB Tryd.prog (maskOf masks) outside NG 48 = ⟨bodyC 13 c48 q48⟩ := by kernel_rfl
theorem f49 : funcB Tryd.prog (maskOf masks) outside NG 49 = ⟨bodyC 23 c49 q49⟩ := by kernel_rfl
theorem f50 : funcB Tryd.prog (maskOf masks) outside NG 50 = ⟨bodyC 30 c50 q50⟩ := by kernel_rfl
theorem f51 : funcB Tryd.prog (maskOf masks) outside NG 51 = ⟨bodyC 8 c51 q51⟩ := by kernel_rfl
theorem f52 : funcB Tryd.prog (maskOf masks) outside NG 52 = ⟨bodyC 16 c52 q52⟩ := by kernel_rfl
theorem f53 : funcB Tryd.prog (maskOf masks) outside NG 53 = ⟨bodyC 8 c53 q53⟩ := by kernel_rfl
theorem f56 : funcB Tryd.prog (maskOf masks) outside NG 56 = ⟨bodyC 8 c56 q56⟩ := by kernel_rfl
theorem f57 : funcB Tryd.prog (maskOf masks) outside NG 57 = ⟨bodyC 10 c57 q57⟩ := by kernel_rfl
theorem f59 : funcB Tryd.prog (maskOf masks) outside NG 59 = ⟨bodyC 6 c59 q59⟩ := by kernel_rfl
theorem f60 : funcB Tryd.prog (maskOf masks) outside NG 60 = ⟨bodyC 88 c60 q60⟩ := by kernel_rfl
theorem f61 : funcB Tryd.prog (maskOf masks) outside NG 61 = ⟨bodyC 66 c61 q61⟩ := by kernel_rfl
theorem f62 : funcB Tryd.prog (maskOf masks) outside NG 62 = ⟨bodyC 20 c62 q62⟩ := by kernel_rfl
theorem f63 : funcB Tryd.prog (maskOf masks) outside NG 63 = ⟨bodyC 19 c63 q63⟩ := by kernel_rfl
theorem f64 : funcB Tryd.prog (maskOf masks) outside NG 64 = ⟨bodyC 20 c64 q64⟩ := by kernel_rfl
theorem f65 : funcB Tryd.prog (maskOf masks) outside NG 65 = ⟨bodyC 21 c65 q65⟩ := by kernel_rfl
theorem f69 : funcB Tryd.prog (maskOf masks) outside NG 69 = ⟨bodyC 9 c69 q69⟩ := by kernel_rfl
theorem f72 : funcB Tryd.prog (maskOf masks) outside NG 72 = ⟨bodyC 40 c72 q72⟩ := by kernel_rfl
theorem f74 : funcB Tryd.prog (maskOf masks) outside NG 74 = ⟨bodyC 34 c74 q74⟩ := by kernel_rfl
theorem f75 : funcB Tryd.prog (maskOf masks) outside NG 75 = ⟨bodyC 8 c75 q75⟩ := by kernel_rfl
theorem f76 : funcB Tryd.prog (maskOf masks) outside NG 76 = ⟨bodyC 45 c76 q76⟩ := by kernel_rfl
theorem f77 : funcB Tryd.prog (maskOf masks) outside NG 77 = ⟨bodyC 54 c77 q77⟩ := by kernel_rfl
theorem f84 : funcB Tryd.prog (maskOf masks) outside NG 84 = ⟨bodyC 143 c84 q84⟩ := by kernel_rfl
theorem f85 : funcB Tryd.prog (maskOf masks) outside NG 85 = ⟨bodyC 26 c85 q85⟩ := by kernel_rfl
theorem f92 : funcB Tryd.prog (maskOf masks) outside NG 92 = ⟨bodyC 8 c92 q92⟩ := by kernel_rfl
theorem f95 : funcB Tryd.prog (maskOf masks) outside NG 95 = ⟨bodyC 172 c95 q95⟩ := by kernel_rfl
theorem f96 : funcB Tryd.prog (maskOf masks) outside NG 96 = ⟨bodyC 43 c96 q96⟩ := by kernel_rfl
theorem f107 : funcB Tryd.prog (maskOf masks) outside NG 107 = ⟨bodyC 11 c107 q107⟩ := by kernel_rfl
theorem f112 : funcB Tryd.prog (maskOf masks) outside NG 112 = ⟨bodyC 18 c112 q112⟩ := by kernel_rfl
end Go.Proofs.YthofbmfcpfibdaaDoor
