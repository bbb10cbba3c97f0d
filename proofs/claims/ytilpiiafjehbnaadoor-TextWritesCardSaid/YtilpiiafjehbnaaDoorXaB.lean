import Derived.Test.YtilpiiafjehbnaaDoorXaA
set_option linter.unusedSimpArgs false
set_option linter.unusedVariables false
namespace Go.Proofs.YtilpiiafjehbnaaDoor
open Go.Ev
theorem f3 : funcB Tryd.prog (maskOf masks) outside NG 3 = ⟨bodyC 36 c3 q3⟩ := by kernel_rfl
theorem f4 : funcB Tryd.prog (maskOf masks) outside NG 4 = ⟨bodyC 30 c4 q4⟩ := by kernel_rfl
theorem f5 : funcB Tryd.prog (maskOf masks) outside NG 5 = ⟨bodyC 82 c5 q5⟩ := by kernel_rfl
theorem f6 : funcB Tryd.prog (maskOf masks) outside NG 6 = ⟨bodyC 120 c6 q6⟩ := by kernel_rfl
theorem f7 : funcB Tryd.prog (maskOf masks) outside NG 7 = ⟨bodyC 59 c7 q7⟩ := by kernel_rfl
theorem f8 : funcB Tryd.prog (maskOf masks) outside NG 8 = ⟨bodyC 6 c8 q8⟩ := by kernel_rfl
theorem f9 : funcB Tryd.prog (maskOf masks) outside NG 9 = ⟨bodyC 9 c9 q9⟩ := by kernel_rfl
theorem f10 : funcB Tryd.prog (maskOf masks) outside NG 10 = ⟨bodyC 6 c10 q10⟩ := by kernel_rfl
theorem f11 : funcB Tryd.prog (maskOf masks) outside NG 11 = ⟨bodyC 19 c11 q11⟩ := by kernel_rfl
theorem f12 : funcB Tryd.prog (maskOf masks) outside NG 12 = ⟨bodyC 92 c12 q12⟩ := by kernel_rfl
theorem f13 : funcB Tryd.prog (maskOf masks) outside NG 13 = ⟨bodyC 75 c13 q13⟩ := by kernel_rfl
theorem f14 : funcB Tryd.prog (maskOf masks) outside NG 14 = ⟨bodyC 6 c14 q14⟩ := by kernel_rfl
theorem f15 : funcB Tryd.prog (maskOf masks) outside NG 15 = ⟨bodyC 6 c15 q15⟩ := by kernel_rfl
theorem f16 : funcB Tryd.prog (maskOf masks) outside NG 16 = ⟨bodyC 6 c16 q16⟩ := by kernel_rfl
theorem f17 : funcB Tryd.prog (maskOf masks) outside NG 17 = ⟨bodyC 30 c17 q17⟩ := by kernel_rfl
theorem f18 : funcB Tryd.prog (maskOf masks) outside NG 18 = ⟨bodyC 122 c18 q18⟩ := by kernel_rfl
theorem f19 : funcB Tryd.prog (maskOf masks) outside NG 19 = ⟨bodyC 16 c19 q19⟩ := by kernel_rfl
theorem f20 : funcB Tryd.prog (maskOf masks) outside NG 20 = ⟨bodyC 45 c20 q20⟩ := by kernel_rfl
theorem f21 : funcB Tryd.prog (maskOf masks) outside NG 21 = ⟨bodyC 76 c21 q21⟩ := by kernel_rfl
theorem f22 : funcB Tryd.prog (maskOf masks) outside NG 22 = ⟨bodyC 19 c22 q22⟩ := by kernel_rfl
theorem f23 : funcB Tryd.prog (maskOf masks) outside NG 23 = ⟨bodyC 8 c23 q23⟩ := by kernel_rfl
theorem f24 : funcB Tryd.prog (maskOf masks) outside NG 24 = ⟨bodyC 9 c24 q24⟩ := by kernel_rfl
theorem f25 : funcB Tryd.prog (maskOf masks) outside NG 25 = ⟨bodyC 6 c25 q25⟩ := by kernel_rfl
theorem f26 : funcB Tryd.prog (maskOf masks) outside NG 26 = ⟨bodyC 5 c26 q26⟩ := by kernel_rfl
theorem f27 : funcB Tryd.prog (maskOf masks) outside NG 27 = ⟨bodyC 25 c27 q27⟩ := by kernel_rfl
theorem f28 : funcB Tryd.prog (maskOf masks) outside NG 28 = ⟨bodyC 19 c28 q28⟩ := by kernel_rfl
theorem f29 : funcB Tryd.prog (maskOf masks) outside NG 29 = ⟨bodyC 14 c29 q29⟩ := by kernel_rfl
theorem f30 : funcB Tryd.prog (maskOf masks) outside NG 30 = ⟨bodyC 8 c30 q30⟩ := by kernel_rfl
theorem f31 : funcB Tryd.prog (maskOf masks) outside NG 31 = ⟨bodyC 80 c31 q31⟩ := by kernel_rfl
theorem f32 : funcB Tryd.prog (maskOf masks) outside NG 32 = ⟨bodyC 105 c32 q32⟩ := by kernel_rfl
theorem f33 : funcB Tryd.prog (maskOf masks) outside NG 33 = ⟨bodyC 22 c33 q33⟩ := by kernel_rfl
theorem f34 : funcB Tryd.prog (maskOf masks) outside NG 34 = ⟨bodyC 54 c34 q34⟩ := by kernel_rfl
theorem f35 : funcB Tryd.prog (maskOf masks) outside NG 35 = ⟨bodyC 21 c35 q35⟩ := by kernel_rfl
theorem f36 : funcB Tryd.prog (maskOf masks) outside NG 36 = ⟨bodyC 20 c36 q36⟩ := by kernel_rfl
theorem f37 : funcB Tryd.prog (maskOf masks) outside NG 37 = ⟨bodyC 30 c37 q37⟩ := by kernel_rfl
theorem f38 : funcB Tryd.prog (maskOf masks) outside NG 38 = ⟨bodyC 32 c38 q38⟩ := by kernel_rfl
theorem f39 : funcB Tryd.prog (maskOf masks) outside NG 39 = ⟨bodyC 58 c39 q39⟩ := by kernel_rfl
theorem f40 : funcB Tryd.prog (maskOf masks) outside NG 40 = ⟨bodyC 9 c40 q40⟩ := by kernel_rfl
theorem f43 : funcB Tryd.prog (maskOf masks) outside NG 43 = ⟨bodyC 15 c43 q43⟩ := by kernel_rfl
theorem f44 : funcB Tryd.prog (maskOf masks) outside NG 44 = ⟨bodyC 15 c44 q44⟩ := by kernel_rfl
theorem f45 : funcB Tryd.prog (maskOf masks) outside NG 45 = ⟨bodyC 167 c45 q45⟩ := by kernel_rfl
theorem f47 : funcB Tryd.prog (maskOf masks) outside NG 47 = ⟨bodyC 25 c47 q47⟩ := by kernel_rfl
theorem f48 : funcB Tryd.prog (maskOf masks) outside NG 48 = ⟨bodyC 19 c48 q48⟩ := by kernel_rfl
theorem f49 : funcB Tryd.prog (maskOf masks) outside NG 49 = ⟨bodyC 6 c49 q49⟩ := by kernel_rfl
theorem f50 : funcB Tryd.prog (maskOf masks) outside NG 50 = ⟨bodyC 25 c50 q50⟩ := by kernel_rfl
theorem f51 : funcB Tryd.prog (maskOf masks) outside NG 51 = ⟨bodyC 4 c51 q51⟩ := by kernel_rfl
end Go.Proofs.YtilpiiafjehbnaaDoor
