import Derived.Test.YtbdmhdidehfmoaaDoorTbA
set_option linter.unusedSimpArgs false
set_option linter.unusedVariables false
namespace Go.Proofs.YtbdmhdidehfmoaaDoor
open Go.Ev
theorem f3 : funcB Tryd.prog (maskOf masks) outside NG 3 = ⟨bodyC 181 c3 q3⟩ := by kernel_rfl
theorem f5 : funcB Tryd.prog (maskOf masks) outside NG 5 = ⟨bodyC 116 c5 q5⟩ := by kernel_rfl
theorem f6 : funcB Tryd.prog (maskOf masks) outside NG 6 = ⟨bodyC 161 c6 q6⟩ := by kernel_rfl
theorem f7 : funcB Tryd.prog (maskOf masks) outside NG 7 = ⟨bodyC 63 c7 q7⟩ := by kernel_rfl
theorem f8 : funcB Tryd.prog (maskOf masks) outside NG 8 = ⟨bodyC 5 c8 q8⟩ := by kernel_rfl
theorem f10 : funcB Tryd.prog (maskOf masks) outside NG 10 = ⟨bodyC 27 c10 q10⟩ := by kernel_rfl
theorem f11 : funcB Tryd.prog (maskOf masks) outside NG 11 = ⟨bodyC 48 c11 q11⟩ := by kernel_rfl
theorem f12 : funcB Tryd.prog (maskOf masks) outside NG 12 = ⟨bodyC 15 c12 q12⟩ := by kernel_rfl
theorem f13 : funcB Tryd.prog (maskOf masks) outside NG 13 = ⟨bodyC 41 c13 q13⟩ := by kernel_rfl
theorem f14 : funcB Tryd.prog (maskOf masks) outside NG 14 = ⟨bodyC 22 c14 q14⟩ := by kernel_rfl
theorem f16 : funcB Tryd.prog (maskOf masks) outside NG 16 = ⟨bodyC 56 c16 q16⟩ := by kernel_rfl
theorem f17 : funcB Tryd.prog (maskOf masks) outside NG 17 = ⟨bodyC 26 c17 q17⟩ := by kernel_rfl
theorem f18 : funcB Tryd.prog (maskOf masks) outside NG 18 = ⟨bodyC 102 c18 q18⟩ := by kernel_rfl
theorem f19 : funcB Tryd.prog (maskOf masks) outside NG 19 = ⟨bodyC 22 c19 q19⟩ := by kernel_rfl
theorem f20 : funcB Tryd.prog (maskOf masks) outside NG 20 = ⟨bodyC 24 c20 q20⟩ := by kernel_rfl
theorem f21 : funcB Tryd.prog (maskOf masks) outside NG 21 = ⟨bodyC 35 c21 q21⟩ := by kernel_rfl
theorem f22 : funcB Tryd.prog (maskOf masks) outside NG 22 = ⟨bodyC 130 c22 q22⟩ := by kernel_rfl
theorem f23 : funcB Tryd.prog (maskOf masks) outside NG 23 = ⟨bodyC 39 c23 q23⟩ := by kernel_rfl
theorem f24 : funcB Tryd.prog (maskOf masks) outside NG 24 = ⟨bodyC 34 c24 q24⟩ := by kernel_rfl
theorem f25 : funcB Tryd.prog (maskOf masks) outside NG 25 = ⟨bodyC 24 c25 q25⟩ := by kernel_rfl
theorem f26 : funcB Tryd.prog (maskOf masks) outside NG 26 = ⟨bodyC 14 c26 q26⟩ := by kernel_rfl
theorem f27 : funcB Tryd.prog (maskOf masks) outside NG 27 = ⟨bodyC 17 c27 q27⟩ := by kernel_rfl
theorem f28 : funcB Tryd.prog (maskOf masks) outside NG 28 = ⟨bodyC 18 c28 q28⟩ := by kernel_rfl
theorem f29 : funcB Tryd.prog (maskOf masks) outside NG 29 = ⟨bodyC 20 c29 q29⟩ := by kernel_rfl
theorem f30 : funcB Tryd.prog (maskOf masks) outside NG 30 = ⟨bodyC 8 c30 q30⟩ := by kernel_rfl
theorem f31 : funcB Tryd.prog (maskOf masks) outside NG 31 = ⟨bodyC 26 c31 q31⟩ := by kernel_rfl
theorem f32 : funcB Tryd.prog (maskOf masks) outside NG 32 = ⟨bodyC 37 c32 q32⟩ := by kernel_rfl
theorem f33 : funcB Tryd.prog (maskOf masks) outside NG 33 = ⟨bodyC 43 c33 q33⟩ := by kernel_rfl
theorem f34 : funcB Tryd.prog (maskOf masks) outside NG 34 = ⟨bodyC 17 c34 q34⟩ := by kernel_rfl
theorem f35 : funcB Tryd.prog (maskOf masks) outside NG 35 = ⟨bodyC 32 c35 q35⟩ := by kernel_rfl
theorem f36 : funcB Tryd.prog (maskOf masks) outside NG 36 = ⟨bodyC 19 c36 q36⟩ := by kernel_rfl
theorem f37 : funcB Tryd.prog (maskOf masks) outside NG 37 = ⟨bodyC 8 c37 q37⟩ := by kernel_rfl
theorem f38 : funcB Tryd.prog (maskOf masks) outside NG 38 = ⟨bodyC 33 c38 q38⟩ := by kernel_rfl
theorem f39 : funcB Tryd.prog (maskOf masks) outside NG 39 = ⟨bodyC 148 c39 q39⟩ := by kernel_rfl
theorem f40 : funcB Tryd.prog (maskOf masks) outside NG 40 = ⟨bodyC 8 c40 q40⟩ := by kernel_rfl
theorem f41 : funcB Tryd.prog (maskOf masks) outside NG 41 = ⟨bodyC 6 c41 q41⟩ := by kernel_rfl
theorem f42 : funcB Tryd.prog (maskOf masks) outside NG 42 = ⟨bodyC 8 c42 q42⟩ := by kernel_rfl
theorem f43 : funcB Tryd.prog (maskOf masks) outside NG 43 = ⟨bodyC 11 c43 q43⟩ := by kernel_rfl
theorem f44 : funcB Tryd.prog (maskOf masks) outside NG 44 = ⟨bodyC 40 c44 q44⟩ := by kernel_rfl
theorem f45 : funcB Tryd.prog (maskOf masks) outside NG 45 = ⟨bodyC 20 c45 q45⟩ := by kernel_rfl
theorem f46 : funcB Tryd.prog (maskOf masks) outside NG 46 = ⟨bodyC 53 c46 q46⟩ := by kernel_rfl
theorem f47 : funcB Tryd.prog (maskOf masks) outside NG 47 = ⟨bodyC 60 c47 q47⟩ := by kernel_rfl
theorem f48 : funcB Tryd.prog (maskOf masks) outside NG 48 = ⟨bodyC 67 c48 q48⟩ := by kernel_rfl
theorem f49 : funcB Tryd.prog (maskOf masks) outside NG 49 = ⟨bodyC 63 c49 q49⟩ := by kernel_rfl
theorem f50 : funcB Tryd.prog (maskOf masks) outside NG 50 = ⟨bodyC 34 c50 q50⟩ := by kernel_rfl
theorem f51 : funcB Tryd.prog (maskOf masks) outside NG 51 = ⟨bodyC 141 c51 q51⟩ := by kernel_rfl
theorem f53 : funcB Tryd.prog (maskOf masks) outside NG 53 = ⟨bodyC 178 c53 q53⟩ := by kernel_rfl
theorem f55 : funcB Tryd.prog (maskOf masks) outside NG 55 = ⟨bodyC 25 c55 q55⟩ := by kernel_rfl
theorem f57 : funcB Tryd.prog (maskOf masks) outside NG 57 = ⟨bodyC 9 c57 q57⟩ := by kernel_rfl
theorem f58 : funcB Tryd.prog (maskOf masks) outside NG 58 = ⟨bodyC 11 c58 q58⟩ := by kernel_rfl
theorem f59 : funcB Tryd.prog (maskOf masks) outside NG 59 = ⟨bodyC 82 c59 q59⟩ := by kernel_rfl
theorem f60 : funcB Tryd.prog (maskOf masks) outside NG 60 = ⟨bodyC 7 c60 q60⟩ := by kernel_rfl
theorem f61 : funcB Tryd.prog (maskOf masks) outside NG 61 = ⟨bodyC 33 c61 q61⟩ := by kernel_rfl
theorem f62 : funcB Tryd.prog (maskOf masks) outside NG 62 = ⟨bodyC 18 c62 q62⟩ := by kernel_rfl
theorem f63 : funcB Tryd.prog (maskOf masks) outside NG 63 = ⟨bodyC 41 c63 q63⟩ := by kernel_rfl
theorem f64 : funcB Tryd.prog (maskOf masks) outside NG 64 = ⟨bodyC 32 c64 q64⟩ := by kernel_rfl
end Go.Proofs.YtbdmhdidehfmoaaDoor
