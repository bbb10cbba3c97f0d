import Derived.Test.YtpoedopdcpejmaaWhC
set_option linter.unusedSimpArgs false
set_option linter.unusedVariables false
namespace Go.Proofs.Ytpoedopdcpejmaa
open Go.Ev
theorem f7 : funcB Try.prog (maskOf masks) outside NG 7 = ⟨bodyC 98 c7 q7⟩ := by kernel_rfl
theorem f9 : funcB Try.prog (maskOf masks) outside NG 9 = ⟨bodyC 14 c9 q9⟩ := by kernel_rfl
theorem f12 : funcB Try.prog (maskOf masks) outside NG 12 = ⟨bodyC 101 c12 q12⟩ := by kernel_rfl
theorem f13 : funcB Try.prog (maskOf masks) outside NG 13 = ⟨bodyC 10 c13 q13⟩ := by kernel_rfl
theorem f14 : funcB Try.prog (maskOf masks) outside NG 14 = ⟨bodyC 11 c14 q14⟩ := by kernel_rfl
theorem f15 : funcB Try.prog (maskOf masks) outside NG 15 = ⟨bodyC 26 c15 q15⟩ := by kernel_rfl
theorem f16 : funcB Try.prog (maskOf masks) outside NG 16 = ⟨bodyC 27 c16 q16⟩ := by kernel_rfl
theorem f17 : funcB Try.prog (maskOf masks) outside NG 17 = ⟨bodyC 24 c17 q17⟩ := by kernel_rfl
theorem f18 : funcB Try.prog (maskOf masks) outside NG 18 = ⟨bodyC 37 c18 q18⟩ := by kernel_rfl
theorem f19 : funcB Try.prog (maskOf masks) outside NG 19 = ⟨bodyC 16 c19 q19⟩ := by kernel_rfl
theorem f20 : funcB Try.prog (maskOf masks) outside NG 20 = ⟨bodyC 13 c20 q20⟩ := by kernel_rfl
theorem f21 : funcB Try.prog (maskOf masks) outside NG 21 = ⟨bodyC 126 c21 q21⟩ := by kernel_rfl
theorem f22 : funcB Try.prog (maskOf masks) outside NG 22 = ⟨bodyC 12 c22 q22⟩ := by kernel_rfl
theorem f23 : funcB Try.prog (maskOf masks) outside NG 23 = ⟨bodyC 15 c23 q23⟩ := by kernel_rfl
theorem f24 : funcB Try.prog (maskOf masks) outside NG 24 = ⟨bodyC 10 c24 q24⟩ := by kernel_rfl
theorem f25 : funcB Try.prog (maskOf masks) outside NG 25 = ⟨bodyC 21 c25 q25⟩ := by kernel_rfl
theorem f26 : funcB Try.prog (maskOf masks) outside NG 26 = ⟨bodyC 21 c26 q26⟩ := by kernel_rfl
theorem f27 : funcB Try.prog (maskOf masks) outside NG 27 = ⟨bodyC 14 c27 q27⟩ := by kernel_rfl
theorem f28 : funcB Try.prog (maskOf masks) outside NG 28 = ⟨bodyC 25 c28 q28⟩ := by kernel_rfl
theorem f29 : funcB Try.prog (maskOf masks) outside NG 29 = ⟨bodyC 18 c29 q29⟩ := by kernel_rfl
theorem f30 : funcB Try.prog (maskOf masks) outside NG 30 = ⟨bodyC 20 c30 q30⟩ := by kernel_rfl
theorem f31 : funcB Try.prog (maskOf masks) outside NG 31 = ⟨bodyC 8 c31 q31⟩ := by kernel_rfl
theorem f32 : funcB Try.prog (maskOf masks) outside NG 32 = ⟨bodyC 28 c32 q32⟩ := by kernel_rfl
theorem f33 : funcB Try.prog (maskOf masks) outside NG 33 = ⟨bodyC 29 c33 q33⟩ := by kernel_rfl
theorem f34 : funcB Try.prog (maskOf masks) outside NG 34 = ⟨bodyC 20 c34 q34⟩ := by kernel_rfl
theorem f35 : funcB Try.prog (maskOf masks) outside NG 35 = ⟨bodyC 21 c35 q35⟩ := by kernel_rfl
theorem f36 : funcB Try.prog (maskOf masks) outside NG 36 = ⟨bodyC 55 c36 q36⟩ := by kernel_rfl
theorem f37 : funcB Try.prog (maskOf masks) outside NG 37 = ⟨bodyC 87 c37 q37⟩ := by kernel_rfl
theorem f38 : funcB Try.prog (maskOf masks) outside NG 38 = ⟨bodyC 25 c38 q38⟩ := by kernel_rfl
theorem f39 : funcB Try.prog (maskOf masks) outside NG 39 = ⟨bodyC 21 c39 q39⟩ := by kernel_rfl
theorem f40 : funcB Try.prog (maskOf masks) outside NG 40 = ⟨bodyC 148 c40 q40⟩ := by kernel_rfl
theorem f41 : funcB Try.prog (maskOf masks) outside NG 41 = ⟨bodyC 8 c41 q41⟩ := by kernel_rfl
theorem f42 : funcB Try.prog (maskOf masks) outside NG 42 = ⟨bodyC 6 c42 q42⟩ := by kernel_rfl
theorem f43 : funcB Try.prog (maskOf masks) outside NG 43 = ⟨bodyC 8 c43 q43⟩ := by kernel_rfl
theorem f44 : funcB Try.prog (maskOf masks) outside NG 44 = ⟨bodyC 11 c44 q44⟩ := by kernel_rfl
theorem f45 : funcB Try.prog (maskOf masks) outside NG 45 = ⟨bodyC 22 c45 q45⟩ := by kernel_rfl
theorem f46 : funcB Try.prog (maskOf masks) outside NG 46 = ⟨bodyC 29 c46 q46⟩ := by kernel_rfl
theorem f47 : funcB Try.prog (maskOf masks) outside NG 47 = ⟨bodyC 53 c47 q47⟩ := by kernel_rfl
theorem f48 : funcB Try.prog (maskOf masks) outside NG 48 = ⟨bodyC 60 c48 q48⟩ := by kernel_rfl
theorem f49 : funcB Try.prog (maskOf masks) outside NG 49 = ⟨bodyC 67 c49 q49⟩ := by kernel_rfl
theorem f50 : funcB Try.prog (maskOf masks) outside NG 50 = ⟨bodyC 63 c50 q50⟩ := by kernel_rfl
theorem f51 : funcB Try.prog (maskOf masks) outside NG 51 = ⟨bodyC 34 c51 q51⟩ := by kernel_rfl
theorem f52 : funcB Try.prog (maskOf masks) outside NG 52 = ⟨bodyC 141 c52 q52⟩ := by kernel_rfl
theorem f54 : funcB Try.prog (maskOf masks) outside NG 54 = ⟨bodyC 178 c54 q54⟩ := by kernel_rfl
theorem f57 : funcB Try.prog (maskOf masks) outside NG 57 = ⟨bodyC 9 c57 q57⟩ := by kernel_rfl
theorem f58 : funcB Try.prog (maskOf masks) outside NG 58 = ⟨bodyC 11 c58 q58⟩ := by kernel_rfl
theorem f59 : funcB Try.prog (maskOf masks) outside NG 59 = ⟨bodyC 82 c59 q59⟩ := by kernel_rfl
theorem f60 : funcB Try.prog (maskOf masks) outside NG 60 = ⟨bodyC 7 c60 q60⟩ := by kernel_rfl
theorem f61 : funcB Try.prog (maskOf masks) outside NG 61 = ⟨bodyC 33 c61 q61⟩ := by kernel_rfl
theorem f62 : funcB Try.prog (maskOf masks) outside NG 62 = ⟨bodyC 18 c62 q62⟩ := by kernel_rfl
theorem f63 : funcB Try.prog (maskOf masks) outside NG 63 = ⟨bodyC 41 c63 q63⟩ := by kernel_rfl
theorem f64 : funcB Try.prog (maskOf masks) outside NG 64 = ⟨bodyC 32 c64 q64⟩ := by kernel_rfl
end Go.Proofs.Ytpoedopdcpejmaa
