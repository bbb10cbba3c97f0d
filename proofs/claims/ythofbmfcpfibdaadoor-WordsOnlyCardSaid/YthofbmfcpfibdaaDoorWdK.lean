import Derived.Test.YthofbmfcpfibdaaDoorWdC
set_option linter.unusedSimpArgs false
set_option linter.unusedVariables false
namespace Go.Proofs.YthofbmfcpfibdaaDoor
open Go.Ev

end Go.Proofs.YthofbmfcpfibdaaDoor

namespace Go.Proofs.YthofbmfcpfibdaaDoor
open Go.Ev

theorem either_law (L n : Nat) (c : Bool) (x y : ByteArray) (h : H) : Sp (CF L (n + 1)) 23 [.bool c, .string x, .string y] h fun r h' => r = .string (if c = true then x else y) ∧ h' = h := by
  refine Sp.body f23 (by simp) ?_
  unfold c23
  refine C.seq fun K hK => ?_
  simp only [EV, Nat.reduceAdd, r23_0]
  refine hK .norm _ _ (C.seq (C.seq fun K hK => ?_))
  simp only [↓reduceIte, EV, Nat.reduceEqDiff, r23_1]
  refine hK .norm _ _ (C.cond c (by simp only [↓reduceIte, EV]) (fun g => C.seq fun K hK => ?_) fun g => C.skip (C.seq fun K hK => ?_))
  · subst g
    simp only [↓reduceIte, EV, Nat.reduceEqDiff, r23_2]
    exact hK .norm _ _ (C.ret ⟨.inr rfl, _, rfl, by simp only [↓reduceIte, EV, resOf], rfl⟩)
  · subst g
    simp only [↓reduceIte, EV, Nat.reduceEqDiff, r23_3]
    exact hK .norm _ _ (C.ret ⟨.inr rfl, _, rfl, by simp only [↓reduceIte, EV, resOf], rfl⟩)

/-! ### the words -/
def sStored : ByteArray := strB [83, 84, 79, 82, 69, 68]
def sNumber : ByteArray := strB [78, 85, 77, 66, 69, 82]
def sTouched : ByteArray := strB [84, 79, 85, 67, 72, 69, 68]
def sDeleted : ByteArray := strB [68, 69, 76, 69, 84, 69, 68]
def sFlushed : ByteArray := strB [70, 76, 85, 83, 72, 69, 68]
def sEnd : ByteArray := strB [69, 78, 68]
def rowN : List ByteArray := [strB [], sEnd, sStored, sStored, sStored, sStored, sNumber, sNumber, sStored, sTouched, sDeleted, sFlushed]
end Go.Proofs.YthofbmfcpfibdaaDoor

namespace Go.Proofs.YthofbmfcpfibdaaDoor
open Go.Ev

def sNotFound : ByteArray := strB [78, 79, 84, 95, 70, 79, 85, 78, 68]
def sExists : ByteArray := strB [69, 88, 73, 83, 84, 83]
def sTooLarge : ByteArray := strB [84, 79, 79, 95, 76, 65, 82, 71, 69]
def sNoMemory : ByteArray := strB [78, 79, 95, 77, 69, 77, 79, 82, 89]
def sNotNumber : ByteArray := strB [78, 79, 84, 95, 78, 85, 77, 66, 69, 82]
def sDenied : ByteArray := strB [68, 69, 78, 73, 69, 68]
def wordN : List ByteArray := [strB [], strB [], sNotFound, sExists, sTooLarge, sNoMemory, sNotNumber, sDenied]
def rowsN : List ByteArray := [sStored, sNumber, sTouched, sDeleted, sFlushed, sEnd]

theorem results_law (L n : Nat) (h : H) : Sp (CF L (n + 1)) 21 [] h fun r h' => r = .agg (wordN.map Value.string).toArray ∧ Keep nobody h h' := by
  refine Sp.body f21 (by simp) ?_
  unfold c21
  have lit := store_new h 8 none (List.replicate 8 (.string (strB []))) (some 52) (.agg (wordN.map Value.string).toArray) rfl rfl rfl
  have e1 : (Value.cells (.agg (wordN.map Value.string).toArray)).toList = wordN.map Value.string := rfl
  rw [e1] at lit
  have k1 := keep_alloc h (.rw (List.replicate 8 (.string (strB []))) (some 52)) (.rw (wordN.map Value.string) (some 52))
  have b1 := has_alloc h (.rw (List.replicate 8 (.string (strB []))) (some 52)) (.rw (wordN.map Value.string) (some 52))
  refine C.seq fun K hK => ?_
  show K .norm (T.set (toTm [] 0 T.e) 0 (ptrTo h.next)) [] (h.new (.rw (List.replicate 8 (.string (strB []))) (some 52))) = true
  refine hK .norm _ _ (C.seq fun K hK => ?_)
  show kO (some (Value.agg (wordN.map Value.string).toArray)) [] _ (fun v0 ds h2 => kH (withV undef (storeV 8 h2 (tg (T.set (toTm [] 0 T.e) 0 (ptrTo h.next)) 0) v0)) ds (fun v1 ds h2 => K .norm (T.set (toTm [] 0 T.e) 0 (ptrTo h.next)) ds h2)) = true
  simp only [↓reduceIte, ↓EW, EV, ptrTo, lit]
  refine hK _ _ _ (C.ret ⟨.inr rfl, [.agg (wordN.map Value.string).toArray], ?_, rfl, k1⟩)
  have la : loadAgg 8 ((h.new (.rw (List.replicate 8 (.string (strB []))) (some 52))).put h.next (.rw (wordN.map Value.string) (some 52))) (.pointer (some ⟨h.next, 0, none⟩)) = some (.agg (wordN.map Value.string).toArray) := by
    rw [loadAgg_has b1 rfl (by simp [wordN])]; rfl
  simp only [q21, ↓reduceIte, EV, la]

theorem of_law (L n : Nat) (s : ByteArray) (k : Nat) (h1 : 1 ≤ k) (h2 : k ≤ 11) (h : H) : Sp (CF L (n + 1)) 45 [.string s, .int .u8 (k : Int)] h fun r h' => r = .bool (leB s.data.toList (rowN.getD k (strB [])).data.toList) ∧ h' = h := by
  have : k = 1 ∨ k = 2 ∨ k = 3 ∨ k = 4 ∨ k = 5 ∨ k = 6 ∨ k = 7 ∨ k = 8 ∨ k = 9 ∨ k = 10 ∨ k = 11 := by omega
  rcases this with rfl | rfl | rfl | rfl | rfl | rfl | rfl | rfl | rfl | rfl | rfl <;>
  · refine Sp.body f45 (by simp) fun K hK => ?_
    simp [c45, seqC, retC, skipC, blockC, condC, r45_0, r45_1, r45_2, r45_3, r45_4, r45_5, r45_6, r45_7, r45_8, r45_9, r45_10, r45_11, r45_12, r45_13, r45_14, r45_15, r45_16, r45_17, r45_18, strV_eql]
    exact hK _ _ _ ⟨.inr rfl, _, rfl, rfl, rfl⟩
end Go.Proofs.YthofbmfcpfibdaaDoor

namespace Go.Proofs.YthofbmfcpfibdaaDoor
open Go.Ev

/-! ### a number's digits, in the document's way -/
def dec (n : Nat) : List UInt8 := if n < 10 then [UInt8.ofNat (48 + n)] else dec (n / 10) ++ [UInt8.ofNat (48 + n % 10)]
theorem wrap_u64 (n : Nat) (h : n < 18446744073709551616) : IntKind.u64.wrap (n : Int) = (n : Int) := wrap_eq _ _ (by show (0 : Int) ≤ _; omega) (by show (n : Int) ≤ 18446744073709551615; omega)
theorem cat_eq (t : TypeId) (c : Bool) (x y : List UInt8) (h : x.length + y.length ≤ 1000000) : binV Tryd.prog .add t c (.string ⟨x.toArray⟩) (.string ⟨y.toArray⟩) = some (.string ⟨(x ++ y).toArray⟩) := by
  show catV ⟨x.toArray⟩ ⟨y.toArray⟩ = _
  unfold catV
  have e1 : (⟨x.toArray⟩ : ByteArray).size = x.length := by simp [ByteArray.size]
  have e2 : (⟨y.toArray⟩ : ByteArray).size = y.length := by simp [ByteArray.size]
  rw [e1, e2, Nat.ble_eq_true_of_le (by omega)]
theorem dec_len : ∀ (d n : Nat), n < 10 ^ (d + 1) → (dec n).length ≤ d + 1
  | 0, n, h => by
    unfold dec
    rw [if_pos (by omega)]; simp
  | d + 1, n, h => by
    unfold dec
    split
    · simp
    · have := dec_len d (n / 10) (Nat.div_lt_of_lt_mul (by rw [Nat.pow_succ] at h; omega))
      simp only [List.length_append, List.length_cons, List.length_nil]; omega
end Go.Proofs.YthofbmfcpfibdaaDoor
