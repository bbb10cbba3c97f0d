import Derived.Test.YtpaolklbogakgaaPkA
set_option linter.unusedSimpArgs false
set_option linter.unusedVariables false
namespace Go.Proofs.Ytpaolklbogakgaa
open Go.Ev
theorem f3 : funcB Try.prog (maskOf masks) outside NG 3 = ⟨bodyC 29 c3 q3⟩ := by kernel_rfl
theorem f4 : funcB Try.prog (maskOf masks) outside NG 4 = ⟨bodyC 58 c4 q4⟩ := by kernel_rfl
theorem f5 : funcB Try.prog (maskOf masks) outside NG 5 = ⟨bodyC 112 c5 q5⟩ := by kernel_rfl
theorem f6 : funcB Try.prog (maskOf masks) outside NG 6 = ⟨bodyC 62 c6 q6⟩ := by kernel_rfl
theorem f7 : funcB Try.prog (maskOf masks) outside NG 7 = ⟨bodyC 64 c7 q7⟩ := by kernel_rfl
theorem f9 : funcB Try.prog (maskOf masks) outside NG 9 = ⟨bodyC 34 c9 q9⟩ := by kernel_rfl
theorem f10 : funcB Try.prog (maskOf masks) outside NG 10 = ⟨bodyC 17 c10 q10⟩ := by kernel_rfl
theorem f11 : funcB Try.prog (maskOf masks) outside NG 11 = ⟨bodyC 42 c11 q11⟩ := by kernel_rfl
theorem f13 : funcB Try.prog (maskOf masks) outside NG 13 = ⟨bodyC 38 c13 q13⟩ := by kernel_rfl
theorem f14 : funcB Try.prog (maskOf masks) outside NG 14 = ⟨bodyC 18 c14 q14⟩ := by kernel_rfl
theorem f15 : funcB Try.prog (maskOf masks) outside NG 15 = ⟨bodyC 82 c15 q15⟩ := by kernel_rfl
theorem f16 : funcB Try.prog (maskOf masks) outside NG 16 = ⟨bodyC 55 c16 q16⟩ := by kernel_rfl
theorem f17 : funcB Try.prog (maskOf masks) outside NG 17 = ⟨bodyC 6 c17 q17⟩ := by kernel_rfl
theorem f18 : funcB Try.prog (maskOf masks) outside NG 18 = ⟨bodyC 15 c18 q18⟩ := by kernel_rfl
theorem f22 : funcB Try.prog (maskOf masks) outside NG 22 = ⟨bodyC 52 c22 q22⟩ := by kernel_rfl
theorem f23 : funcB Try.prog (maskOf masks) outside NG 23 = ⟨bodyC 125 c23 q23⟩ := by kernel_rfl
theorem f26 : funcB Try.prog (maskOf masks) outside NG 26 = ⟨bodyC 45 c26 q26⟩ := by kernel_rfl
theorem f27 : funcB Try.prog (maskOf masks) outside NG 27 = ⟨bodyC 60 c27 q27⟩ := by kernel_rfl
theorem f28 : funcB Try.prog (maskOf masks) outside NG 28 = ⟨bodyC 18 c28 q28⟩ := by kernel_rfl
theorem f29 : funcB Try.prog (maskOf masks) outside NG 29 = ⟨bodyC 19 c29 q29⟩ := by kernel_rfl
theorem f30 : funcB Try.prog (maskOf masks) outside NG 30 = ⟨bodyC 9 c30 q30⟩ := by kernel_rfl
theorem f31 : funcB Try.prog (maskOf masks) outside NG 31 = ⟨bodyC 27 c31 q31⟩ := by kernel_rfl
theorem f36 : funcB Try.prog (maskOf masks) outside NG 36 = ⟨bodyC 26 c36 q36⟩ := by kernel_rfl
theorem f37 : funcB Try.prog (maskOf masks) outside NG 37 = ⟨bodyC 8 c37 q37⟩ := by kernel_rfl
theorem f38 : funcB Try.prog (maskOf masks) outside NG 38 = ⟨bodyC 33 c38 q38⟩ := by kernel_rfl
theorem f39 : funcB Try.prog (maskOf masks) outside NG 39 = ⟨bodyC 28 c39 q39⟩ := by kernel_rfl
theorem f42 : funcB Try.prog (maskOf masks) outside NG 42 = ⟨bodyC 13 c42 q42⟩ := by kernel_rfl
theorem f43 : funcB Try.prog (maskOf masks) outside NG 43 = ⟨bodyC 9 c43 q43⟩ := by kernel_rfl
theorem f44 : funcB Try.prog (maskOf masks) outside NG 44 = ⟨bodyC 6 c44 q44⟩ := by kernel_rfl
theorem f45 : funcB Try.prog (maskOf masks) outside NG 45 = ⟨bodyC 21 c45 q45⟩ := by kernel_rfl
theorem f47 : funcB Try.prog (maskOf masks) outside NG 47 = ⟨bodyC 41 c47 q47⟩ := by kernel_rfl
theorem f48 : funcB Try.prog (maskOf masks) outside NG 48 = ⟨bodyC 19 c48 q48⟩ := by kernel_rfl
theorem f51 : funcB Try.prog (maskOf masks) outside NG 51 = ⟨bodyC 19 c51 q51⟩ := by kernel_rfl
theorem f52 : funcB Try.prog (maskOf masks) outside NG 52 = ⟨bodyC 9 c52 q52⟩ := by kernel_rfl
theorem f53 : funcB Try.prog (maskOf masks) outside NG 53 = ⟨bodyC 36 c53 q53⟩ := by kernel_rfl
theorem f54 : funcB Try.prog (maskOf masks) outside NG 54 = ⟨bodyC 8 c54 q54⟩ := by kernel_rfl
end Go.Proofs.Ytpaolklbogakgaa
