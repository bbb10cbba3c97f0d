import Derived.Test.YtbdmhdidehfmoaaDoorTbA
namespace Go.Proofs.YtbdmhdidehfmoaaDoor
open Go.Ev
theorem f3 : funcB Tryd.prog (maskOf masks) outside NG 3 = ⟨bodyC 181 c3 q3⟩ := by kernel_rfl
theorem f7 : funcB Tryd.prog (maskOf masks) outside NG 7 = ⟨bodyC 63 c7 q7⟩ := by kernel_rfl
theorem f8 : funcB Tryd.prog (maskOf masks) outside NG 8 = ⟨bodyC 5 c8 q8⟩ := by kernel_rfl
theorem f9 : funcB Tryd.prog (maskOf masks) outside NG 9 = ⟨bodyC 22 c9 q9⟩ := by kernel_rfl
theorem f10 : funcB Tryd.prog (maskOf masks) outside NG 10 = ⟨bodyC 27 c10 q10⟩ := by kernel_rfl
theorem f11 : funcB Tryd.prog (maskOf masks) outside NG 11 = ⟨bodyC 48 c11 q11⟩ := by kernel_rfl
theorem f12 : funcB Tryd.prog (maskOf masks) outside NG 12 = ⟨bodyC 15 c12 q12⟩ := by kernel_rfl
theorem f13 : funcB Tryd.prog (maskOf masks) outside NG 13 = ⟨bodyC 41 c13 q13⟩ := by kernel_rfl
theorem f14 : funcB Tryd.prog (maskOf masks) outside NG 14 = ⟨bodyC 22 c14 q14⟩ := by kernel_rfl
theorem f15 : funcB Tryd.prog (maskOf masks) outside NG 15 = ⟨bodyC 8 c15 q15⟩ := by kernel_rfl
theorem f21 : funcB Tryd.prog (maskOf masks) outside NG 21 = ⟨bodyC 35 c21 q21⟩ := by kernel_rfl
theorem f22 : funcB Tryd.prog (maskOf masks) outside NG 22 = ⟨bodyC 130 c22 q22⟩ := by kernel_rfl
theorem f23 : funcB Tryd.prog (maskOf masks) outside NG 23 = ⟨bodyC 39 c23 q23⟩ := by kernel_rfl
theorem f24 : funcB Tryd.prog (maskOf masks) outside NG 24 = ⟨bodyC 34 c24 q24⟩ := by kernel_rfl
theorem f25 : funcB Tryd.prog (maskOf masks) outside NG 25 = ⟨bodyC 24 c25 q25⟩ := by kernel_rfl
theorem f34 : funcB Tryd.prog (maskOf masks) outside NG 34 = ⟨bodyC 17 c34 q34⟩ := by kernel_rfl
theorem f35 : funcB Tryd.prog (maskOf masks) outside NG 35 = ⟨bodyC 32 c35 q35⟩ := by kernel_rfl
theorem f36 : funcB Tryd.prog (maskOf masks) outside NG 36 = ⟨bodyC 19 c36 q36⟩ := by kernel_rfl
theorem f37 : funcB Tryd.prog (maskOf masks) outside NG 37 = ⟨bodyC 8 c37 q37⟩ := by kernel_rfl
theorem f38 : funcB Tryd.prog (maskOf masks) outside NG 38 = ⟨bodyC 33 c38 q38⟩ := by kernel_rfl
theorem f45 : funcB Tryd.prog (maskOf masks) outside NG 45 = ⟨bodyC 20 c45 q45⟩ := by kernel_rfl
end Go.Proofs.YtbdmhdidehfmoaaDoor
