import Derived.Test.YtpaolklbogakgaaPkA
namespace Go.Proofs.Ytpaolklbogakgaa
open Go.Ev
theorem f3 : funcB Try.prog (maskOf masks) outside NG 3 = ⟨bodyC 29 c3 q3⟩ := by kernel_rfl
theorem f8 : funcB Try.prog (maskOf masks) outside NG 8 = ⟨bodyC 43 c8 q8⟩ := by kernel_rfl
theorem f9 : funcB Try.prog (maskOf masks) outside NG 9 = ⟨bodyC 34 c9 q9⟩ := by kernel_rfl
theorem f10 : funcB Try.prog (maskOf masks) outside NG 10 = ⟨bodyC 17 c10 q10⟩ := by kernel_rfl
theorem f15 : funcB Try.prog (maskOf masks) outside NG 15 = ⟨bodyC 82 c15 q15⟩ := by kernel_rfl
theorem f16 : funcB Try.prog (maskOf masks) outside NG 16 = ⟨bodyC 55 c16 q16⟩ := by kernel_rfl
theorem f17 : funcB Try.prog (maskOf masks) outside NG 17 = ⟨bodyC 6 c17 q17⟩ := by kernel_rfl
theorem f18 : funcB Try.prog (maskOf masks) outside NG 18 = ⟨bodyC 15 c18 q18⟩ := by kernel_rfl
theorem f19 : funcB Try.prog (maskOf masks) outside NG 19 = ⟨bodyC 154 c19 q19⟩ := by kernel_rfl
theorem f20 : funcB Try.prog (maskOf masks) outside NG 20 = ⟨bodyC 91 c20 q20⟩ := by kernel_rfl
theorem f21 : funcB Try.prog (maskOf masks) outside NG 21 = ⟨bodyC 28 c21 q21⟩ := by kernel_rfl
theorem f27 : funcB Try.prog (maskOf masks) outside NG 27 = ⟨bodyC 60 c27 q27⟩ := by kernel_rfl
theorem f28 : funcB Try.prog (maskOf masks) outside NG 28 = ⟨bodyC 18 c28 q28⟩ := by kernel_rfl
theorem f29 : funcB Try.prog (maskOf masks) outside NG 29 = ⟨bodyC 19 c29 q29⟩ := by kernel_rfl
theorem f30 : funcB Try.prog (maskOf masks) outside NG 30 = ⟨bodyC 9 c30 q30⟩ := by kernel_rfl
theorem f31 : funcB Try.prog (maskOf masks) outside NG 31 = ⟨bodyC 27 c31 q31⟩ := by kernel_rfl
theorem f32 : funcB Try.prog (maskOf masks) outside NG 32 = ⟨bodyC 13 c32 q32⟩ := by kernel_rfl
theorem f33 : funcB Try.prog (maskOf masks) outside NG 33 = ⟨bodyC 23 c33 q33⟩ := by kernel_rfl
theorem f34 : funcB Try.prog (maskOf masks) outside NG 34 = ⟨bodyC 20 c34 q34⟩ := by kernel_rfl
theorem f35 : funcB Try.prog (maskOf masks) outside NG 35 = ⟨bodyC 9 c35 q35⟩ := by kernel_rfl
theorem f42 : funcB Try.prog (maskOf masks) outside NG 42 = ⟨bodyC 13 c42 q42⟩ := by kernel_rfl
theorem f43 : funcB Try.prog (maskOf masks) outside NG 43 = ⟨bodyC 9 c43 q43⟩ := by kernel_rfl
theorem f44 : funcB Try.prog (maskOf masks) outside NG 44 = ⟨bodyC 6 c44 q44⟩ := by kernel_rfl
theorem f45 : funcB Try.prog (maskOf masks) outside NG 45 = ⟨bodyC 21 c45 q45⟩ := by kernel_rfl
theorem f46 : funcB Try.prog (maskOf masks) outside NG 46 = ⟨bodyC 9 c46 q46⟩ := by kernel_rfl
theorem f51 : funcB Try.prog (maskOf masks) outside NG 51 = ⟨bodyC 19 c51 q51⟩ := by kernel_rfl
theorem f52 : funcB Try.prog (maskOf masks) outside NG 52 = ⟨bodyC 9 c52 q52⟩ := by kernel_rfl
end Go.Proofs.Ytpaolklbogakgaa
