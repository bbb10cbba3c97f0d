import Derived.Test.YthofbmfcpfibdaaDoorWdC
set_option linter.unusedSimpArgs false
set_option linter.unusedVariables false
namespace Go.Proofs.YthofbmfcpfibdaaDoor
open Go.Ev

end Go.Proofs.YthofbmfcpfibdaaDoor

namespace Go.Proofs.YthofbmfcpfibdaaDoor
open Go.Ev

/-! ### the words -/
def sStored : ByteArray := strB [83, 84, 79, 82, 69, 68]
def sNumber : ByteArray := strB [78, 85, 77, 66, 69, 82]
def sTouched : ByteArray := strB [84, 79, 85, 67, 72, 69, 68]
def sDeleted : ByteArray := strB [68, 69, 76, 69, 84, 69, 68]
def sFlushed : ByteArray := strB [70, 76, 85, 83, 72, 69, 68]
def sEnd : ByteArray := strB [69, 78, 68]
def rowN : List ByteArray := [strB [], sEnd, sStored, sStored, sStored, sStored, sNumber, sNumber, sStored, sTouched, sDeleted, sFlushed]
theorem asNat_u8 (i : Nat) : asNat (.int .u8 (i : Int)) = some i := rfl
theorem ix12 (b i : Nat) (h : i < 12) : indexArr 1 12 (.pointer (some ⟨b, 0, none⟩)) (.int .u8 (i : Int)) = some (.pointer (some ⟨b, i, none⟩)) := by
  simp only [indexArr, asNat_u8]
  rw [Nat.ble_eq_true_of_le h]
  simp [addOff]
theorem ix8 (b i : Nat) (h : i < 8) : indexArr 1 8 (.pointer (some ⟨b, 0, none⟩)) (.int .u8 (i : Int)) = some (.pointer (some ⟨b, i, none⟩)) := by
  simp only [indexArr, asNat_u8]
  rw [Nat.ble_eq_true_of_le h]
  simp [addOff]
theorem row_law (L n : Nat) (k : Nat) (hk : k < 12) (h : H) : Sp (CF L (n + 1)) 53 [.int .u8 (k : Int)] h fun r h' => r = .string (rowN.getD k (strB [])) ∧ Keep nobody h h' := by
  refine Sp.body f53 (by simp) ?_
  unfold c53
  refine C.seq fun K hK => ?_
  simp only [EV, r53_0]
  refine hK .norm _ _ (C.seq fun K hK => ?_)
  have lit : ∀ v, v = Value.agg (rowN.map Value.string).toArray → storeV 12 (h.new (.rw (List.replicate 12 (.string (strB []))) (some 104))) (.pointer (some ⟨h.next, 0, none⟩)) v = some ((h.new (.rw (List.replicate 12 (.string (strB []))) (some 104))).put h.next (.rw (rowN.map Value.string) (some 104))) := fun v hv => by
    subst hv
    have := store_new h 12 none (List.replicate 12 (.string (strB []))) (some 104) (.agg (rowN.map Value.string).toArray) rfl rfl rfl
    exact this
  have k1 := keep_alloc h (.rw (List.replicate 12 (.string (strB []))) (some 104)) (.rw (rowN.map Value.string) (some 104))
  have b1 := has_alloc h (.rw (List.replicate 12 (.string (strB []))) (some 104)) (.rw (rowN.map Value.string) (some 104))
  have hr : ∀ K2 : KE, r53_1 (CF L n) L (T.set (toTm [.int .u8 (k : Int)] 0 T.e) 2 (.string (strB []))) [] h K2 = K2 .norm (T.set (T.set (toTm [.int .u8 (k : Int)] 0 T.e) 2 (.string (strB []))) 3 (.pointer (some ⟨h.next, 0, none⟩))) [] ((h.new (.rw (List.replicate 12 (.string (strB []))) (some 104))).put h.next (.rw (rowN.map Value.string) (some 104))) := fun K2 => by
    have e := lit _ rfl
    show kO (some (Value.agg (rowN.map Value.string).toArray)) [] h (fun v0 ds h => kA (some (.rw (List.replicate 12 (.string (strB []))) (some 104), ptrTo h.next)) ds h (fun v1 ds h => kH (withV undef (storeV 12 h v1 v0)) ds (fun v2 ds h => K2 .norm (T.set (T.set (toTm [.int .u8 (k : Int)] 0 T.e) 2 (.string (strB []))) 3 v1) ds h))) = _
    simp only [↓EW, EV, ptrTo, e]
  simp only [EV] at hr
  rw [show ∀ x : CodeT, (⟨x⟩ : Box CodeT).f = x from fun _ => rfl]
  rw [hr]
  generalize (h.new (.rw (List.replicate 12 (.string (strB []))) (some 104))).put h.next (.rw (rowN.map Value.string) (some 104)) = h1 at *
  refine hK _ _ _ (C.seq fun K hK => ?_)
  have ld : ∀ s, loadOne h1 (.pointer (some ⟨h.next, k, s⟩)) = some (.string (rowN.getD k (strB []))) := fun s => by
    rw [loadOne_has b1 rfl, List.getElem?_map, List.getD_eq_getElem?_getD, List.getElem?_eq_getElem (show k < rowN.length from hk)]; rfl
  simp only [↓reduceIte, EV, Nat.reduceEqDiff, r53_2, ix12 _ k hk, ld]
  exact hK _ _ _ (C.ret ⟨.inr rfl, _, rfl, by simp only [↓reduceIte, EV, resOf], k1⟩)
end Go.Proofs.YthofbmfcpfibdaaDoor

namespace Go.Proofs.YthofbmfcpfibdaaDoor
open Go.Ev

def sNotFound : ByteArray := strB [78, 79, 84, 95, 70, 79, 85, 78, 68]
def sExists : ByteArray := strB [69, 88, 73, 83, 84, 83]
def sTooLarge : ByteArray := strB [84, 79, 79, 95, 76, 65, 82, 71, 69]
def sNoMemory : ByteArray := strB [78, 79, 95, 77, 69, 77, 79, 82, 89]
def sNotNumber : ByteArray := strB [78, 79, 84, 95, 78, 85, 77, 66, 69, 82]
def sDenied : ByteArray := strB [68, 69, 78, 73, 69, 68]
def wordN : List ByteArray := [strB [], strB [], sNotFound, sExists, sTooLarge, sNoMemory, sNotNumber, sDenied]
def rowsN : List ByteArray := [sStored, sNumber, sTouched, sDeleted, sFlushed, sEnd]

theorem word_law (L n : Nat) (k : Nat) (hk : k < 8) (h : H) : Sp (CF L (n + 1)) 51 [.int .u8 (k : Int)] h fun r h' => r = .string (wordN.getD k (strB [])) ∧ Keep nobody h h' := by
  refine Sp.body f51 (by simp) ?_
  unfold c51
  refine C.seq fun K hK => ?_
  simp only [EV, r51_0]
  refine hK .norm _ _ (C.seq fun K hK => ?_)
  have lit := store_new h 8 none (List.replicate 8 (.string (strB []))) (some 52) (.agg (wordN.map Value.string).toArray) rfl rfl rfl
  have e1 : (Value.cells (.agg (wordN.map Value.string).toArray)).toList = wordN.map Value.string := rfl
  rw [e1] at lit
  have k1 := keep_alloc h (.rw (List.replicate 8 (.string (strB []))) (some 52)) (.rw (wordN.map Value.string) (some 52))
  have b1 := has_alloc h (.rw (List.replicate 8 (.string (strB []))) (some 52)) (.rw (wordN.map Value.string) (some 52))
  have hr : ∀ K2 : KE, r51_1 (CF L n) L (T.set (toTm [.int .u8 (k : Int)] 0 T.e) 2 (.string (strB []))) [] h K2 = K2 .norm (T.set (T.set (toTm [.int .u8 (k : Int)] 0 T.e) 2 (.string (strB []))) 3 (.pointer (some ⟨h.next, 0, none⟩))) [] ((h.new (.rw (List.replicate 8 (.string (strB []))) (some 52))).put h.next (.rw (wordN.map Value.string) (some 52))) := fun K2 => by
    show kO (some (Value.agg (wordN.map Value.string).toArray)) [] h (fun v0 ds h => kA (some (.rw (List.replicate 8 (.string (strB []))) (some 52), ptrTo h.next)) ds h (fun v1 ds h => kH (withV undef (storeV 8 h v1 v0)) ds (fun v2 ds h => K2 .norm (T.set (T.set (toTm [.int .u8 (k : Int)] 0 T.e) 2 (.string (strB []))) 3 v1) ds h))) = _
    simp only [↓EW, EV, ptrTo, lit]
  simp only [EV] at hr
  rw [show ∀ x : CodeT, (⟨x⟩ : Box CodeT).f = x from fun _ => rfl]
  rw [hr]
  generalize (h.new (.rw (List.replicate 8 (.string (strB []))) (some 52))).put h.next (.rw (wordN.map Value.string) (some 52)) = h1 at *
  refine hK _ _ _ (C.seq fun K hK => ?_)
  have ld : ∀ s, loadOne h1 (.pointer (some ⟨h.next, k, s⟩)) = some (.string (wordN.getD k (strB []))) := fun s => by
    rw [loadOne_has b1 rfl, List.getElem?_map, List.getD_eq_getElem?_getD, List.getElem?_eq_getElem (show k < wordN.length from hk)]; rfl
  simp only [↓reduceIte, EV, Nat.reduceEqDiff, r51_2, ix8 _ k hk, ld]
  exact hK _ _ _ (C.ret ⟨.inr rfl, _, rfl, by simp only [↓reduceIte, EV, resOf], k1⟩)

theorem results_law (L n : Nat) (h : H) : Sp (CF L (n + 1)) 21 [] h fun r h' => r = .agg (wordN.map Value.string).toArray ∧ Keep nobody h h' := by
  refine Sp.body f21 (by simp) ?_
  unfold c21
  have lit := store_new h 8 none (List.replicate 8 (.string (strB []))) (some 52) (.agg (wordN.map Value.string).toArray) rfl rfl rfl
  have e1 : (Value.cells (.agg (wordN.map Value.string).toArray)).toList = wordN.map Value.string := rfl
  rw [e1] at lit
  have k1 := keep_alloc h (.rw (List.replicate 8 (.string (strB []))) (some 52)) (.rw (wordN.map Value.string) (some 52))
  have b1 := has_alloc h (.rw (List.replicate 8 (.string (strB []))) (some 52)) (.rw (wordN.map Value.string) (some 52))
  refine C.seq fun K hK => ?_
  show K .norm (T.set (toTm [] 0 T.e) 0 (ptrTo h.next)) [] (h.new (.rw (List.replicate 8 (.string (strB []))) (some 52))) = true
  refine hK .norm _ _ (C.seq fun K hK => ?_)
  show kO (some (Value.agg (wordN.map Value.string).toArray)) [] _ (fun v0 ds h2 => kH (withV undef (storeV 8 h2 (tg (T.set (toTm [] 0 T.e) 0 (ptrTo h.next)) 0) v0)) ds (fun v1 ds h2 => K .norm (T.set (toTm [] 0 T.e) 0 (ptrTo h.next)) ds h2)) = true
  simp only [↓reduceIte, ↓EW, EV, ptrTo, lit]
  refine hK _ _ _ (C.ret ⟨.inr rfl, [.agg (wordN.map Value.string).toArray], ?_, rfl, k1⟩)
  have la : loadAgg 8 ((h.new (.rw (List.replicate 8 (.string (strB []))) (some 52))).put h.next (.rw (wordN.map Value.string) (some 52))) (.pointer (some ⟨h.next, 0, none⟩)) = some (.agg (wordN.map Value.string).toArray) := by
    rw [loadAgg_has b1 rfl (by simp [wordN])]; rfl
  simp only [q21, ↓reduceIte, EV, la]

theorem of_law (L n : Nat) (s : ByteArray) (k : Nat) (h1 : 1 ≤ k) (h2 : k ≤ 11) (h : H) : Sp (CF L (n + 1)) 45 [.string s, .int .u8 (k : Int)] h fun r h' => r = .bool (leB s.data.toList (rowN.getD k (strB [])).data.toList) ∧ h' = h := by
  have : k = 1 ∨ k = 2 ∨ k = 3 ∨ k = 4 ∨ k = 5 ∨ k = 6 ∨ k = 7 ∨ k = 8 ∨ k = 9 ∨ k = 10 ∨ k = 11 := by omega
  rcases this with rfl | rfl | rfl | rfl | rfl | rfl | rfl | rfl | rfl | rfl | rfl <;>
  · refine Sp.body f45 (by simp) fun K hK => ?_
    simp [c45, seqC, retC, skipC, blockC, condC, r45_0, r45_1, r45_2, r45_3, r45_4, r45_5, r45_6, r45_7, r45_8, r45_9, r45_10, r45_11, r45_12, r45_13, r45_14, r45_15, r45_16, r45_17, r45_18, strV_eql]
    exact hK _ _ _ ⟨.inr rfl, _, rfl, rfl, rfl⟩
end Go.Proofs.YthofbmfcpfibdaaDoor

namespace Go.Proofs.YthofbmfcpfibdaaDoor
open Go.Ev

/-! ### a number's digits, in the document's way -/
def dec (n : Nat) : List UInt8 := if n < 10 then [UInt8.ofNat (48 + n)] else dec (n / 10) ++ [UInt8.ofNat (48 + n % 10)]
theorem digit_sl : ∀ n : Nat, n < 10 → sliceStr (.string (strB [48, 49, 50, 51, 52, 53, 54, 55, 56, 57])) (some (.int .u64 (n : Int))) (some (.int .u64 ((n + 1 : Nat) : Int))) none = some (.string (strB [48 + n]))
  | 0, _ => by kernel_rfl
  | 1, _ => by kernel_rfl
  | 2, _ => by kernel_rfl
  | 3, _ => by kernel_rfl
  | 4, _ => by kernel_rfl
  | 5, _ => by kernel_rfl
  | 6, _ => by kernel_rfl
  | 7, _ => by kernel_rfl
  | 8, _ => by kernel_rfl
  | 9, _ => by kernel_rfl
  | n + 10, h => by omega
theorem wrap_u64 (n : Nat) (h : n < 18446744073709551616) : IntKind.u64.wrap (n : Int) = (n : Int) := wrap_eq _ _ (by show (0 : Int) ≤ _; omega) (by show (n : Int) ≤ 18446744073709551615; omega)
theorem strB_one (n : Nat) : strB [n] = ⟨[UInt8.ofNat n].toArray⟩ := rfl
theorem cat_eq (t : TypeId) (c : Bool) (x y : List UInt8) (h : x.length + y.length ≤ 1000000) : binV Tryd.prog .add t c (.string ⟨x.toArray⟩) (.string ⟨y.toArray⟩) = some (.string ⟨(x ++ y).toArray⟩) := by
  show catV ⟨x.toArray⟩ ⟨y.toArray⟩ = _
  unfold catV
  have e1 : (⟨x.toArray⟩ : ByteArray).size = x.length := by simp [ByteArray.size]
  have e2 : (⟨y.toArray⟩ : ByteArray).size = y.length := by simp [ByteArray.size]
  rw [e1, e2, Nat.ble_eq_true_of_le (by omega)]
theorem dec_len : ∀ (d n : Nat), n < 10 ^ (d + 1) → (dec n).length ≤ d + 1
  | 0, n, h => by
    unfold dec
    rw [if_pos (by omega)]; simp
  | d + 1, n, h => by
    unfold dec
    split
    · simp
    · have := dec_len d (n / 10) (Nat.div_lt_of_lt_mul (by rw [Nat.pow_succ] at h; omega))
      simp only [List.length_append, List.length_cons, List.length_nil]; omega
theorem text_small (L m : Nat) {n : Nat} (hn : n < 10) (h : H) : Sp (CF L (m + 1)) 52 [.int .u64 (n : Int)] h fun r h' => r = .string ⟨(dec n).toArray⟩ ∧ h' = h := by
  refine Sp.body f52 (by simp) ?_
  unfold c52
  refine C.seq fun K hK => ?_
  simp only [EV, r52_0]
  refine hK .norm _ _ (C.seq (C.seq fun K hK => ?_))
  have g : ((n : Int) < 10) := by omega
  have w : IntKind.u64.wrap ((n : Int) + 1) = ((n + 1 : Nat) : Int) := by
    rw [show (n : Int) + 1 = ((n + 1 : Nat) : Int) by omega]; exact wrap_u64 _ (by omega)
  simp only [↓reduceIte, EV, Nat.reduceEqDiff, r52_1, g]
  refine hK _ _ _ (C.cond true (by simp only [↓reduceIte, EV]) (fun _ => C.seq fun K hK => ?_) fun g => by cases g)
  simp only [↓reduceIte, EV, Nat.reduceEqDiff, r52_2, w, digit_sl n hn]
  refine hK _ _ _ (C.ret ⟨.inr rfl, _, rfl, ?_, rfl⟩)
  unfold dec
  rw [if_pos hn, ← strB_one]
  simp only [↓reduceIte, EV, resOf]
theorem text_law (L : Nat) : ∀ (d n m : Nat), n < 10 ^ (d + 1) → n < 18446744073709551616 → ∀ h : H, Sp (CF L (m + d + 1)) 52 [.int .u64 (n : Int)] h fun r h' => r = .string ⟨(dec n).toArray⟩ ∧ h' = h
  | 0, n, m, hn, _, h => text_small L _ (by omega) h
  | d + 1, n, m, hn, h64, h => by
    by_cases h10 : n < 10
    · exact text_small L _ h10 h
    refine Sp.body f52 (by simp) ?_
    unfold c52
    refine C.seq fun K hK => ?_
    simp only [EV, r52_0]
    refine hK .norm _ _ (C.seq (C.seq fun K hK => ?_))
    have g : ¬ ((n : Int) < 10) := by omega
    simp only [↓reduceIte, EV, Nat.reduceEqDiff, r52_1, g]
    refine hK _ _ _ (C.cond false (by simp only [↓reduceIte, EV]) (fun g => by cases g) fun _ => C.skip (C.seq fun K hK => ?_))
    have hq : n / 10 < 10 ^ (d + 1) := Nat.div_lt_of_lt_mul (by rw [Nat.pow_succ] at hn; omega)
    have e1 : ∀ c, binV Tryd.prog .quo 23 c (.int .u64 (n : Int)) (.int .u64 10) = some (.int .u64 ((n / 10 : Nat) : Int)) := fun c => by
      rw [binV_quo _ _ _ _ _ (by omega)]
      have : (n : Int).tdiv 10 = ((n / 10 : Nat) : Int) := by rw [Int.tdiv_eq_ediv_of_nonneg (by omega)]; rfl
      rw [this, wrap_u64 _ (by omega)]
    have e2 : ∀ c, binV Tryd.prog .rem 23 c (.int .u64 (n : Int)) (.int .u64 10) = some (.int .u64 ((n % 10 : Nat) : Int)) := fun c => by
      rw [binV_rem _ _ _ _ _ (by omega)]
      have : (n : Int).tmod 10 = ((n % 10 : Nat) : Int) := by rw [Int.tmod_eq_emod_of_nonneg (by omega)]; rfl
      rw [this]
    simp only [↓reduceIte, EV, Nat.reduceEqDiff, r52_3, e1]
    refine text_law L d (n / 10) m hq (by omega) h _ fun r h2 hr => ?_
    obtain ⟨rfl, rfl⟩ := hr
    simp only [EV, e2]
    refine text_small L (m + d) (n := n % 10) (by omega) h2 _ fun r h3 hr => ?_
    obtain ⟨rfl, rfl⟩ := hr
    have l1 := dec_len 19 (n / 10) (by omega)
    have l2 := dec_len 19 (n % 10) (by omega)
    simp only [EV, cat_eq _ _ _ _ (show (dec (n / 10)).length + (dec (n % 10)).length ≤ 1000000 by omega)]
    refine hK _ _ _ (C.ret ⟨.inr rfl, _, rfl, ?_, rfl⟩)
    have hd : dec n = dec (n / 10) ++ dec (n % 10) := by
      conv => lhs; unfold dec
      rw [if_neg h10]
      congr 1
      unfold dec
      rw [if_pos (by omega)]
    rw [hd]
    simp only [↓reduceIte, EV, resOf]
end Go.Proofs.YthofbmfcpfibdaaDoor

namespace Go.Proofs.YthofbmfcpfibdaaDoor
open Go.Ev

/-! ### small numbers -/
end Go.Proofs.YthofbmfcpfibdaaDoor

namespace Go.Proofs.YthofbmfcpfibdaaDoor
open Go.Ev

end Go.Proofs.YthofbmfcpfibdaaDoor

namespace Go.Proofs.YthofbmfcpfibdaaDoor
open Go.Ev

theorem binV_shr2 {P : Program} (t : TypeId) (c : Bool) (k k' : IntKind) (x y : Int) (h : 0 ≤ y) : binV P .shr t c (.int k x) (.int k' y) = some (.int k (x.fdiv (2 ^ (min y.toNat k.bits)))) := by
  have h' : ¬ y < 0 := by omega
  simp [binV, binInt, orRun, intOp, pureRun, binOp, Op.shift, h']
  cases kEq k k' <;> rfl
end Go.Proofs.YthofbmfcpfibdaaDoor

namespace Go.Proofs.YthofbmfcpfibdaaDoor
open Go.Ev

/-! ### how many bits -/
theorem wrap_lt (n : Nat) (h : n < 1000000) : IntKind.i64.wrap (n : Int) = (n : Int) := wrap_eq _ _ (by show (-9223372036854775808 : Int) ≤ _; omega) (by show (n : Int) ≤ 9223372036854775807; omega)
end Go.Proofs.YthofbmfcpfibdaaDoor

namespace Go.Proofs.YthofbmfcpfibdaaDoor
open Go.Ev

end Go.Proofs.YthofbmfcpfibdaaDoor

namespace Go.Proofs.YthofbmfcpfibdaaDoor
open Go.Ev

end Go.Proofs.YthofbmfcpfibdaaDoor

namespace Go.Proofs.YthofbmfcpfibdaaDoor
open Go.Ev

end Go.Proofs.YthofbmfcpfibdaaDoor

namespace Go.Proofs.YthofbmfcpfibdaaDoor
open Go.Ev

/-! ### the digits, in pairs -/
theorem putAt_app {α : Type} : ∀ (A l : List α) (i : Nat) (ys l' : List α), putAt l i ys = some l' → putAt (A ++ l) (A.length + i) ys = some (A ++ l')
  | [], l, i, ys, l', h => by simpa using h
  | x :: A, l, i, ys, l', h => by
    show putAt (x :: (A ++ l)) ((A.length + 1) + i) ys = _
    rw [show A.length + 1 + i = (A.length + i) + 1 by omega]
    simp only [putAt, putAt_app A l i ys l' h]; rfl
theorem store_one {h : H} {b o : Nat} {s} {cs cs' : List Value} {ty : Option TypeId} {v : Value} (a : Has h b (.rw cs ty)) (hv : v.cells = #[v]) (h1 : ones [v] = true) (hp : putAt cs o [v] = some cs') :
    storeV 1 h (.pointer (some ⟨b, o, s⟩)) v = some (h.put b (.rw cs' ty)) := by
  unfold storeV
  have h2 : ones v.cells.toList = true := by rw [hv]; exact h1
  simp only [H.write, h2, a.2]
  rw [hv]
  show (match (putAt cs o [v]) with | some l => some (h.put b (.rw l ty)) | none => none) = _
  rw [hp]

end Go.Proofs.YthofbmfcpfibdaaDoor

namespace Go.Proofs.YthofbmfcpfibdaaDoor
open Go.Ev

end Go.Proofs.YthofbmfcpfibdaaDoor

namespace Go.Proofs.YthofbmfcpfibdaaDoor
open Go.Ev
section
variable {L : Nat} {call : CallT} {b cp nd : Nat} {ty : Option TypeId} {rest : List Value} {x : Nat} {h0 : H} {m u : Nat} {tl : List UInt8} {tm : T Value} {h : H}
end
end Go.Proofs.YthofbmfcpfibdaaDoor

namespace Go.Proofs.YthofbmfcpfibdaaDoor
open Go.Ev

end Go.Proofs.YthofbmfcpfibdaaDoor
