import Derived.Test.YtbdmhdidehfmoaaDoorTbM
set_option linter.unusedSimpArgs false
set_option linter.unusedVariables false
namespace Go.Proofs.YtbdmhdidehfmoaaDoor
open Go.Ev

theorem load2 {h : H} {b : Nat} {t : Int} {k : ByteArray} (hb : Has h b (.rw [.int .i64 t, .string k])) (s) : loadAgg 2 h (.pointer (some ⟨b, 0, s⟩)) = some (nameV t k) := loadAgg_has hb rfl (by simp)

def nm (i : Nat) : ByteArray := ⟨[UInt8.ofNat (97 + i % 26), UInt8.ofNat (97 + i / 26 % 26), UInt8.ofNat (97 + i / 676 % 26)].toArray⟩
theorem tmod_nat (n k : Nat) : (n : Int).tmod (k : Int) = ((n % k : Nat) : Int) := by
  rw [Int.tmod_eq_emod_of_nonneg (by omega)]; rfl
theorem rem_nat (t : TypeId) (c : Bool) (k : IntKind) (n m : Nat) (hm : 0 < m) : binV Tryd.prog .rem t c (.int k (n : Int)) (.int k (m : Int)) = some (.int k ((n % m : Nat) : Int)) := by
  rw [binV_rem _ _ _ _ _ (by omega), tmod_nat]
theorem quo_nat (t : TypeId) (c : Bool) (n m : Nat) (hm : 0 < m) (hn : n ≤ 1000000) : binV Tryd.prog .quo t c (.int .i64 (n : Int)) (.int .i64 (m : Int)) = some (.int .i64 ((n / m : Nat) : Int)) := by
  rw [binV_quo _ _ _ _ _ (by omega), tdiv_nat, wrap_i64 _ (by have := Nat.div_le_self n m; omega)]
end Go.Proofs.YtbdmhdidehfmoaaDoor

namespace Go.Proofs.YtbdmhdidehfmoaaDoor
open Go.Ev

abbrev kA : ByteArray := strB [97]
theorem Fr.gl {O O' : Nat → Tag} {h h' : H} (a : Fr O h O' h') (g : Gl h) (o : O 0 = .other) : Gl h' := a.has g o

end Go.Proofs.YtbdmhdidehfmoaaDoor

namespace Go.Proofs.YtbdmhdidehfmoaaDoor
open Go.Ev

/-! ### the plain law: what was put last -/
def tOf (a : Nat) : Int := ((a % 4 : Nat) : Int)
def la (c : Nat → Nat) (i : Nat) : Nat → Nat
  | 0 => i
  | m + 1 => if i < m ∧ c m / 4 = c i / 4 then m else la c i m
section
variable {c : Nat → Nat}
end
end Go.Proofs.YtbdmhdidehfmoaaDoor

namespace Go.Proofs.YtbdmhdidehfmoaaDoor
open Go.Ev

/-! ### the calls in memory -/
def u16v (c : Nat) : Value := .int .u16 (c : Int)
def Ru (h : H) (v : Value) (cs : List Nat) : Prop :=
  (v = .slice none 0 0 ∧ cs = []) ∨ ∃ b o cap x vs, v = .slice (some ⟨b, o, none⟩) cs.length cap ∧ Has h b x ∧ x.cells? = some vs ∧ o + cs.length ≤ vs.length ∧ (vs.drop o).take cs.length = cs.map u16v
theorem Ru.keep0 {h h' : H} {v : Value} {cs : List Nat} (a : Ru h v cs) (k : Keep nobody h h') : Ru h' v cs := by
  rcases a with a | ⟨b, o, cap, x, vs, e, hb, r⟩
  · exact .inl a
  · exact .inr ⟨b, o, cap, x, vs, e, hb.keep0 k, r⟩
theorem Ru.len {h : H} {v : Value} {cs : List Nat} (a : Ru h v cs) : lenSl v = some (.int .i64 (cs.length : Int)) := by
  rcases a with ⟨rfl, rfl⟩ | ⟨b, o, cap, x, vs, rfl, _⟩ <;> rfl
theorem Ru.at {h : H} {v : Value} {cs : List Nat} (a : Ru h v cs) {i : Nat} (hi : i < cs.length) : ∃ p, indexSl 1 v (.int .i64 (i : Int)) = some p ∧ ∀ h', Keep nobody h h' → loadOne h' p = some (.int .u16 ((cs.getD i 0 : Nat) : Int)) := by
  rcases a with ⟨rfl, rfl⟩ | ⟨b, o, cap, x, vs, rfl, hb, hx, hl, ht⟩
  · simp at hi
  · refine ⟨.pointer (some ⟨b, o + i, none⟩), ?_, fun h' k => ?_⟩
    · simp only [indexSl, asNat_nat, addOff]
      rw [Nat.ble_eq_true_of_le (by omega)]
      simp only [Nat.mul_one]
    · rw [loadOne_has (hb.keep0 k) hx]
      have h1 : ((vs.drop o).take cs.length)[i]? = some (u16v (cs[i]'hi)) := by rw [ht, List.getElem?_map, List.getElem?_eq_getElem hi]; rfl
      rw [List.getElem?_take, if_pos hi, List.getElem?_drop] at h1
      rw [h1, List.getD_eq_getElem?_getD, List.getElem?_eq_getElem hi]; rfl

theorem base_step {O O' : Nat → Tag} {h0 hx h' : H} (k : Keep nobody h0 hx) (ho : ∀ c, c < h0.next → O c = .other) (fr : Fr O hx O' h') : Keep nobody h0 h' ∧ ∀ c, c < h0.next → O' c = .other :=
  ⟨k.trans fr.keep fun c hc hn => hn (ho c hc), fun c hc => fr.same c (Nat.lt_of_lt_of_le hc k.next) (ho c hc)⟩

end Go.Proofs.YtbdmhdidehfmoaaDoor

namespace Go.Proofs.YtbdmhdidehfmoaaDoor
open Go.Ev

end Go.Proofs.YtbdmhdidehfmoaaDoor

namespace Go.Proofs.YtbdmhdidehfmoaaDoor
open Go.Ev

def Xp (b hv : Nat) (tm : T Value) : Prop := tg tm 3 = .bool true ∧ tg tm 4 = .pointer (some ⟨b, 0, none⟩) ∧ tg tm 10 = .int .i64 (hv : Int)
theorem Xp.set {b hv : Nat} {tm : T Value} (x : Xp b hv tm) {j : Nat} {w : Value} (hj : j ≠ 3 ∧ j ≠ 4 ∧ j ≠ 10) : Xp b hv (T.set tm j w) := by
  obtain ⟨x1, x2, x3⟩ := x
  refine ⟨?_, ?_, ?_⟩
  · rw [tg_set, if_neg hj.1]; exact x1
  · rw [tg_set, if_neg hj.2.1]; exact x2
  · rw [tg_set, if_neg hj.2.2]; exact x3

end Go.Proofs.YtbdmhdidehfmoaaDoor
