import Derived.Test.YtpaolklbogakgaaPkJ
import Derived.Test.YtpaolklbogakgaaEvX
import Derived.WalkKit
import Derived.ProofKit
import Derived.OpenShut
set_option linter.unusedSimpArgs false
set_option linter.unusedVariables false
namespace Go.Proofs.Ytpaolklbogakgaa
open Go.Ev Go.RowKit

theorem u27 : Try.prog.underlying 27 = some (.struct (fieldsOf Try.prog 27)) := by kernel_rfl
theorem u25 : Try.prog.underlying 25 = some (.struct (fieldsOf Try.prog 25)) := by kernel_rfl
theorem u43 : Try.prog.underlying 43 = some (.struct (fieldsOf Try.prog 43)) := by kernel_rfl
theorem u22 : Try.prog.underlying 22 = some (.slice 43) := by kernel_rfl
theorem u41 : Try.prog.underlying 41 = some (.int .u32) := by kernel_rfl
theorem u23 : Try.prog.underlying 23 = some (.int .u64) := by kernel_rfl
theorem u9 : Try.prog.underlying 9 = some .string := by kernel_rfl
theorem u5 : Try.prog.underlying 5 = some (.int .u8) := by kernel_rfl
theorem u3 : Try.prog.underlying 3 = some (.int .i64) := by kernel_rfl
theorem u4 : Try.prog.underlying 4 = some .bool := by kernel_rfl
theorem m27 : (fieldsOf Try.prog 27).toList.map (fun f => (f.type, f.offset)) = [(5, 0), (5, 1), (25, 2), (4, 5), (9, 6)] := by kernel_rfl
theorem m25 : (fieldsOf Try.prog 25).toList.map (fun f => (f.type, f.offset)) = [(5, 0), (22, 1), (23, 2)] := by kernel_rfl
theorem m43 : (fieldsOf Try.prog 43).toList.map (fun f => (f.type, f.offset)) = [(9, 0), (9, 1), (41, 2), (3, 3), (23, 4)] := by kernel_rfl
theorem s27 : Try.prog.cellsOf 27 = 7 := by kernel_rfl
theorem s25 : Try.prog.cellsOf 25 = 3 := by kernel_rfl
theorem s43 : Try.prog.cellsOf 43 = 5 := by kernel_rfl
theorem s22 : Try.prog.cellsOf 22 = 1 := by kernel_rfl
theorem s41 : Try.prog.cellsOf 41 = 1 := by kernel_rfl
theorem s23 : Try.prog.cellsOf 23 = 1 := by kernel_rfl
theorem s9 : Try.prog.cellsOf 9 = 1 := by kernel_rfl
theorem s5 : Try.prog.cellsOf 5 = 1 := by kernel_rfl
theorem s3 : Try.prog.cellsOf 3 = 1 := by kernel_rfl
theorem s4 : Try.prog.cellsOf 4 = 1 := by kernel_rfl
theorem ct27 : Try.prog.cellTypes Try.prog.depth 27 = some [5, 5, 5, 22, 23, 4, 9] := by kernel_rfl

section
variable {H : Type} {enc : TypeId × Value → H} {w : World} {base : Nat} {sp : Nat → Bool} {held : Bool}

theorem open_item {n : Nat} {cs : List Value} {x : DataW H × List MemPlace} (h : DataW.trod enc Try.prog w base sp held n 43 cs = some x) : ∃ it : Itm, it.ok ∧ cs = it.cells := by
  obtain ⟨hl, hf⟩ := trod_fields u43 m43 h
  rw [s43] at hl
  rcases cs with _ | ⟨c0, _ | ⟨c1, _ | ⟨c2, _ | ⟨c3, _ | ⟨c4, _ | ⟨c5, r⟩⟩⟩⟩⟩⟩ <;> simp at hl
  obtain ⟨m0, y0, h0⟩ := hf 0 9 0 rfl
  obtain ⟨m1, y1, h1⟩ := hf 1 9 1 rfl
  obtain ⟨m2, y2, h2⟩ := hf 2 41 2 rfl
  obtain ⟨m3, y3, h3⟩ := hf 3 3 3 rfl
  obtain ⟨m4, y4, h4⟩ := hf 4 23 4 rfl
  rw [s9] at h0 h1
  rw [s41] at h2
  rw [s3] at h3
  rw [s23] at h4
  obtain ⟨k, e0, _, _⟩ := DataW.trod_string u9 h0
  obtain ⟨v, e1, _, _⟩ := DataW.trod_string u9 h1
  obtain ⟨f, e2, _, w2⟩ := DataW.trod_int u41 h2
  obtain ⟨t, e3, _, w3⟩ := DataW.trod_int u3 h3
  obtain ⟨u, e4, _, w4⟩ := DataW.trod_int u23 h4
  simp at e0 e1 e2 e3 e4
  subst e0 e1 e2 e3 e4
  have := bounds_u32 w2
  have := bounds_i64 w3
  have := bounds_u64 w4
  exact ⟨⟨k, v, f, t, u⟩, ⟨⟨by simp only; omega, by simp only; omega⟩, ⟨by simp only; omega, by simp only; omega⟩, ⟨by simp only; omega, by simp only; omega⟩⟩, rfl⟩

theorem open_answer {n : Nat} {cs : List Value} {x : DataW H × List MemPlace} (h : DataW.trod enc Try.prog w base sp held n 27 cs = some x) :
    ∃ kind of rk num : Int, ∃ (yes : Bool) (key : ByteArray) (iv : Value), cs = [.int .u8 kind, .int .u8 of, .int .u8 rk, iv, .int .u64 num, .bool yes, .string key] ∧ (0 ≤ kind ∧ kind < 256) ∧ (0 ≤ of ∧ of < 256) ∧ (0 ≤ rk ∧ rk < 256) ∧ (0 ≤ num ∧ num < 18446744073709551616) ∧
      ∃ m y, DataW.trod enc Try.prog w base sp held m 22 [iv] = some y := by
  obtain ⟨hl, hf⟩ := trod_fields u27 m27 h
  rw [s27] at hl
  rcases cs with _ | ⟨c0, _ | ⟨c1, _ | ⟨c2, _ | ⟨c3, _ | ⟨c4, _ | ⟨c5, _ | ⟨c6, _ | ⟨c7, r⟩⟩⟩⟩⟩⟩⟩⟩ <;> simp at hl
  obtain ⟨m0, y0, h0⟩ := hf 0 5 0 rfl
  obtain ⟨m1, y1, h1⟩ := hf 1 5 1 rfl
  obtain ⟨m2, y2, h2⟩ := hf 2 25 2 rfl
  obtain ⟨m3, y3, h3⟩ := hf 3 4 5 rfl
  obtain ⟨m4, y4, h4⟩ := hf 4 9 6 rfl
  rw [s5] at h0 h1
  rw [s25] at h2
  rw [s4] at h3
  rw [s9] at h4
  obtain ⟨hl2, hf2⟩ := trod_fields u25 m25 h2
  obtain ⟨n0, z0, g0⟩ := hf2 0 5 0 rfl
  obtain ⟨n1, z1, g1⟩ := hf2 1 22 1 rfl
  obtain ⟨n2, z2, g2⟩ := hf2 2 23 2 rfl
  rw [s5] at g0
  rw [s22] at g1
  rw [s23] at g2
  obtain ⟨k, e0, _, w0⟩ := DataW.trod_int u5 h0
  obtain ⟨o, e1, _, w1⟩ := DataW.trod_int u5 h1
  obtain ⟨b, e3, _⟩ := DataW.trod_bool u4 h3
  obtain ⟨s, e4, _, _⟩ := DataW.trod_string u9 h4
  obtain ⟨rk, d0, _, v0⟩ := DataW.trod_int u5 g0
  obtain ⟨nm, d2, _, v2⟩ := DataW.trod_int u23 g2
  simp at e0 e1 e3 e4 d0 d2
  subst e0 e1 e3 e4 d0 d2
  have := bounds_u8 w0
  have := bounds_u8 w1
  have := bounds_u8 v0
  have := bounds_u64 v2
  exact ⟨k, o, rk, nm, b, s, c3, rfl, by omega, by omega, by omega, by omega, n1, z1, by simpa using g1⟩
end
end Go.Proofs.Ytpaolklbogakgaa
