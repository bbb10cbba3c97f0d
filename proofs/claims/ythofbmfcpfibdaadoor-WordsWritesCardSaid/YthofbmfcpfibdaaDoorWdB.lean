import Derived.Test.YthofbmfcpfibdaaDoorWdA
set_option linter.unusedSimpArgs false
set_option linter.unusedVariables false
namespace Go.Proofs.YthofbmfcpfibdaaDoor
open Go.Ev
theorem f3 : funcB Tryd.prog (maskOf masks) outside NG 3 = ⟨bodyC 36 c3 q3⟩ := by kernel_rfl
theorem f8 : funcB Tryd.prog (maskOf masks) outside NG 8 = ⟨bodyC 43 c8 q8⟩ := by kernel_rfl
theorem f9 : funcB Tryd.prog (maskOf masks) outside NG 9 = ⟨bodyC 58 c9 q9⟩ := by kernel_rfl
theorem f10 : funcB Tryd.prog (maskOf masks) outside NG 10 = ⟨bodyC 35 c10 q10⟩ := by kernel_rfl
theorem f11 : funcB Tryd.prog (maskOf masks) outside NG 11 = ⟨bodyC 82 c11 q11⟩ := by kernel_rfl
theorem f12 : funcB Tryd.prog (maskOf masks) outside NG 12 = ⟨bodyC 6 c12 q12⟩ := by kernel_rfl
theorem f18 : funcB Tryd.prog (maskOf masks) outside NG 18 = ⟨bodyC 6 c18 q18⟩ := by kernel_rfl
theorem f19 : funcB Tryd.prog (maskOf masks) outside NG 19 = ⟨bodyC 9 c19 q19⟩ := by kernel_rfl
theorem f20 : funcB Tryd.prog (maskOf masks) outside NG 20 = ⟨bodyC 7 c20 q20⟩ := by kernel_rfl
theorem f21 : funcB Tryd.prog (maskOf masks) outside NG 21 = ⟨bodyC 2 c21 q21⟩ := by kernel_rfl
theorem f22 : funcB Tryd.prog (maskOf masks) outside NG 22 = ⟨bodyC 64 c22 q22⟩ := by kernel_rfl
theorem f23 : funcB Tryd.prog (maskOf masks) outside NG 23 = ⟨bodyC 10 c23 q23⟩ := by kernel_rfl
theorem f24 : funcB Tryd.prog (maskOf masks) outside NG 24 = ⟨bodyC 154 c24 q24⟩ := by kernel_rfl
theorem f25 : funcB Tryd.prog (maskOf masks) outside NG 25 = ⟨bodyC 9 c25 q25⟩ := by kernel_rfl
theorem f26 : funcB Tryd.prog (maskOf masks) outside NG 26 = ⟨bodyC 99 c26 q26⟩ := by kernel_rfl
theorem f27 : funcB Tryd.prog (maskOf masks) outside NG 27 = ⟨bodyC 60 c27 q27⟩ := by kernel_rfl
theorem f38 : funcB Tryd.prog (maskOf masks) outside NG 38 = ⟨bodyC 8 c38 q38⟩ := by kernel_rfl
theorem f39 : funcB Tryd.prog (maskOf masks) outside NG 39 = ⟨bodyC 9 c39 q39⟩ := by kernel_rfl
theorem f40 : funcB Tryd.prog (maskOf masks) outside NG 40 = ⟨bodyC 19 c40 q40⟩ := by kernel_rfl
theorem f41 : funcB Tryd.prog (maskOf masks) outside NG 41 = ⟨bodyC 19 c41 q41⟩ := by kernel_rfl
theorem f42 : funcB Tryd.prog (maskOf masks) outside NG 42 = ⟨bodyC 75 c42 q42⟩ := by kernel_rfl
theorem f43 : funcB Tryd.prog (maskOf masks) outside NG 43 = ⟨bodyC 5 c43 q43⟩ := by kernel_rfl
theorem f44 : funcB Tryd.prog (maskOf masks) outside NG 44 = ⟨bodyC 2 c44 q44⟩ := by kernel_rfl
theorem f45 : funcB Tryd.prog (maskOf masks) outside NG 45 = ⟨bodyC 35 c45 q45⟩ := by kernel_rfl
theorem f46 : funcB Tryd.prog (maskOf masks) outside NG 46 = ⟨bodyC 13 c46 q46⟩ := by kernel_rfl
theorem f47 : funcB Tryd.prog (maskOf masks) outside NG 47 = ⟨bodyC 14 c47 q47⟩ := by kernel_rfl
theorem f48 : funcB Tryd.prog (maskOf masks) outside NG 48 = ⟨bodyC 13 c48 q48⟩ := by kernel_rfl
theorem f49 : funcB Tryd.prog (maskOf masks) outside NG 49 = ⟨bodyC 23 c49 q49⟩ := by kernel_rfl
theorem f50 : funcB Tryd.prog (maskOf masks) outside NG 50 = ⟨bodyC 30 c50 q50⟩ := by kernel_rfl
theorem f51 : funcB Tryd.prog (maskOf masks) outside NG 51 = ⟨bodyC 8 c51 q51⟩ := by kernel_rfl
theorem f52 : funcB Tryd.prog (maskOf masks) outside NG 52 = ⟨bodyC 16 c52 q52⟩ := by kernel_rfl
theorem f53 : funcB Tryd.prog (maskOf masks) outside NG 53 = ⟨bodyC 8 c53 q53⟩ := by kernel_rfl
theorem f54 : funcB Tryd.prog (maskOf masks) outside NG 54 = ⟨bodyC 6 c54 q54⟩ := by kernel_rfl
theorem f55 : funcB Tryd.prog (maskOf masks) outside NG 55 = ⟨bodyC 21 c55 q55⟩ := by kernel_rfl
theorem f65 : funcB Tryd.prog (maskOf masks) outside NG 65 = ⟨bodyC 21 c65 q65⟩ := by kernel_rfl
theorem f66 : funcB Tryd.prog (maskOf masks) outside NG 66 = ⟨bodyC 20 c66 q66⟩ := by kernel_rfl
theorem f67 : funcB Tryd.prog (maskOf masks) outside NG 67 = ⟨bodyC 25 c67 q67⟩ := by kernel_rfl
theorem f68 : funcB Tryd.prog (maskOf masks) outside NG 68 = ⟨bodyC 8 c68 q68⟩ := by kernel_rfl
theorem f69 : funcB Tryd.prog (maskOf masks) outside NG 69 = ⟨bodyC 9 c69 q69⟩ := by kernel_rfl
theorem f70 : funcB Tryd.prog (maskOf masks) outside NG 70 = ⟨bodyC 9 c70 q70⟩ := by kernel_rfl
theorem f79 : funcB Tryd.prog (maskOf masks) outside NG 79 = ⟨bodyC 30 c79 q79⟩ := by kernel_rfl
theorem f80 : funcB Tryd.prog (maskOf masks) outside NG 80 = ⟨bodyC 32 c80 q80⟩ := by kernel_rfl
theorem f87 : funcB Tryd.prog (maskOf masks) outside NG 87 = ⟨bodyC 15 c87 q87⟩ := by kernel_rfl
theorem f88 : funcB Tryd.prog (maskOf masks) outside NG 88 = ⟨bodyC 15 c88 q88⟩ := by kernel_rfl
theorem f89 : funcB Tryd.prog (maskOf masks) outside NG 89 = ⟨bodyC 167 c89 q89⟩ := by kernel_rfl
theorem f97 : funcB Tryd.prog (maskOf masks) outside NG 97 = ⟨bodyC 6 c97 q97⟩ := by kernel_rfl
theorem f98 : funcB Tryd.prog (maskOf masks) outside NG 98 = ⟨bodyC 25 c98 q98⟩ := by kernel_rfl
theorem f99 : funcB Tryd.prog (maskOf masks) outside NG 99 = ⟨bodyC 4 c99 q99⟩ := by kernel_rfl
end Go.Proofs.YthofbmfcpfibdaaDoor
