import Derived.Test.YtpaolklbogakgaaPkA
namespace Go.Proofs.Ytpaolklbogakgaa
open Go.Ev
theorem f4 : funcB Try.prog (maskOf masks) outside NG 4 = ⟨bodyC 58 c4 q4⟩ := by kernel_rfl
theorem f11 : funcB Try.prog (maskOf masks) outside NG 11 = ⟨bodyC 42 c11 q11⟩ := by kernel_rfl
theorem f12 : funcB Try.prog (maskOf masks) outside NG 12 = ⟨bodyC 37 c12 q12⟩ := by kernel_rfl
theorem f13 : funcB Try.prog (maskOf masks) outside NG 13 = ⟨bodyC 38 c13 q13⟩ := by kernel_rfl
theorem f15 : funcB Try.prog (maskOf masks) outside NG 15 = ⟨bodyC 82 c15 q15⟩ := by kernel_rfl
theorem f19 : funcB Try.prog (maskOf masks) outside NG 19 = ⟨bodyC 154 c19 q19⟩ := by kernel_rfl
theorem f22 : funcB Try.prog (maskOf masks) outside NG 22 = ⟨bodyC 52 c22 q22⟩ := by kernel_rfl
theorem f23 : funcB Try.prog (maskOf masks) outside NG 23 = ⟨bodyC 125 c23 q23⟩ := by kernel_rfl
theorem f24 : funcB Try.prog (maskOf masks) outside NG 24 = ⟨bodyC 45 c24 q24⟩ := by kernel_rfl
theorem f25 : funcB Try.prog (maskOf masks) outside NG 25 = ⟨bodyC 54 c25 q25⟩ := by kernel_rfl
theorem f26 : funcB Try.prog (maskOf masks) outside NG 26 = ⟨bodyC 45 c26 q26⟩ := by kernel_rfl
theorem f27 : funcB Try.prog (maskOf masks) outside NG 27 = ⟨bodyC 60 c27 q27⟩ := by kernel_rfl
theorem f29 : funcB Try.prog (maskOf masks) outside NG 29 = ⟨bodyC 19 c29 q29⟩ := by kernel_rfl
theorem f32 : funcB Try.prog (maskOf masks) outside NG 32 = ⟨bodyC 13 c32 q32⟩ := by kernel_rfl
theorem f33 : funcB Try.prog (maskOf masks) outside NG 33 = ⟨bodyC 23 c33 q33⟩ := by kernel_rfl
theorem f36 : funcB Try.prog (maskOf masks) outside NG 36 = ⟨bodyC 26 c36 q36⟩ := by kernel_rfl
theorem f37 : funcB Try.prog (maskOf masks) outside NG 37 = ⟨bodyC 8 c37 q37⟩ := by kernel_rfl
theorem f38 : funcB Try.prog (maskOf masks) outside NG 38 = ⟨bodyC 33 c38 q38⟩ := by kernel_rfl
theorem f39 : funcB Try.prog (maskOf masks) outside NG 39 = ⟨bodyC 28 c39 q39⟩ := by kernel_rfl
theorem f40 : funcB Try.prog (maskOf masks) outside NG 40 = ⟨bodyC 25 c40 q40⟩ := by kernel_rfl
theorem f41 : funcB Try.prog (maskOf masks) outside NG 41 = ⟨bodyC 76 c41 q41⟩ := by kernel_rfl
theorem f42 : funcB Try.prog (maskOf masks) outside NG 42 = ⟨bodyC 13 c42 q42⟩ := by kernel_rfl
theorem f43 : funcB Try.prog (maskOf masks) outside NG 43 = ⟨bodyC 9 c43 q43⟩ := by kernel_rfl
theorem f44 : funcB Try.prog (maskOf masks) outside NG 44 = ⟨bodyC 6 c44 q44⟩ := by kernel_rfl
theorem f45 : funcB Try.prog (maskOf masks) outside NG 45 = ⟨bodyC 21 c45 q45⟩ := by kernel_rfl
theorem f46 : funcB Try.prog (maskOf masks) outside NG 46 = ⟨bodyC 9 c46 q46⟩ := by kernel_rfl
theorem f47 : funcB Try.prog (maskOf masks) outside NG 47 = ⟨bodyC 41 c47 q47⟩ := by kernel_rfl
theorem f48 : funcB Try.prog (maskOf masks) outside NG 48 = ⟨bodyC 19 c48 q48⟩ := by kernel_rfl
theorem f49 : funcB Try.prog (maskOf masks) outside NG 49 = ⟨bodyC 71 c49 q49⟩ := by kernel_rfl
theorem f50 : funcB Try.prog (maskOf masks) outside NG 50 = ⟨bodyC 86 c50 q50⟩ := by kernel_rfl
theorem f51 : funcB Try.prog (maskOf masks) outside NG 51 = ⟨bodyC 19 c51 q51⟩ := by kernel_rfl
theorem f52 : funcB Try.prog (maskOf masks) outside NG 52 = ⟨bodyC 9 c52 q52⟩ := by kernel_rfl
theorem f53 : funcB Try.prog (maskOf masks) outside NG 53 = ⟨bodyC 36 c53 q53⟩ := by kernel_rfl
theorem f54 : funcB Try.prog (maskOf masks) outside NG 54 = ⟨bodyC 8 c54 q54⟩ := by kernel_rfl
theorem f55 : funcB Try.prog (maskOf masks) outside NG 55 = ⟨bodyC 42 c55 q55⟩ := by kernel_rfl
end Go.Proofs.Ytpaolklbogakgaa
