import Derived.Test.YthofbmfcpfibdaaDoorWtH
set_option linter.unusedSimpArgs false
set_option linter.unusedVariables false
namespace Go.Proofs.YthofbmfcpfibdaaDoor
open Go.Ev

/-! ### numbers and words: there and back (plain) -/
theorem dec_lo {n : Nat} (h : n < 10) : dec n = [UInt8.ofNat (48 + n)] := by rw [dec, if_pos h]
theorem dec_hi {n : Nat} (h : ¬ n < 10) : dec n = dec (n / 10) ++ [UInt8.ofNat (48 + n % 10)] := by rw [dec, if_neg h]
theorem dec_of : ∀ (m : Nat) (l : List UInt8), l.length ≤ m → l ≠ [] → l.all dig = true → (l[0]? = some 48 → l.length ≤ 1) → dec (valN l 0) = l
  | 0, l, hm, hne, _, _ => absurd (List.length_eq_zero_iff.1 (by omega)) hne
  | m + 1, l, hm, hne, ha, hz => by
    rcases List.eq_nil_or_concat l with e | ⟨q, d, e⟩
    · exact absurd e hne
    · rw [List.concat_eq_append] at e
      subst e
      rw [List.all_append, Bool.and_eq_true] at ha
      have hdd := ha.2
      simp only [List.all_cons, List.all_nil, Bool.and_true] at hdd
      obtain ⟨hd1, hd2⟩ := dig_of hdd
      have hof : UInt8.ofNat (48 + (d.toNat - 48)) = d := by rw [show 48 + (d.toNat - 48) = d.toNat by omega]; exact UInt8.ofNat_toNat
      rw [valN_app]
      show dec (10 * valN q 0 + (d.toNat - 48)) = q ++ [d]
      by_cases hq : q = []
      · subst hq
        show dec (10 * 0 + (d.toNat - 48)) = [d]
        rw [dec_lo (by omega), Nat.mul_zero, Nat.zero_add, hof]
      · have hl : 0 < q.length := List.length_pos_iff.2 hq
        have h0 : q[0]? ≠ some 48 := fun e => by
          have := hz (by rw [List.getElem?_append_left hl]; exact e)
          rw [List.length_append, List.length_singleton] at this
          omega
        have ih := dec_of m q (by rw [List.length_append, List.length_singleton] at hm; omega) hq ha.1 fun e => absurd e h0
        have hp : 0 < valN q 0 := by
          rcases Nat.eq_zero_or_pos (valN q 0) with e | e
          · rw [e] at ih
            rw [← ih] at h0
            rw [dec_lo (by decide)] at h0
            exact absurd rfl h0
          · exact e
        rw [dec_hi (by omega), show (10 * valN q 0 + (d.toNat - 48)) / 10 = valN q 0 by omega, show (10 * valN q 0 + (d.toNat - 48)) % 10 = d.toNat - 48 by omega, ih, hof]
theorem dec_num {l : List UInt8} {n : Nat} (h : numN l = some n) : l = dec n := by
  unfold numN at h
  split at h
  · rename_i g
    obtain ⟨g1, g2, g3⟩ := g
    cases h
    have hp := shape_pos g1
    refine (dec_of l.length l (Nat.le_refl _) (fun e => by rw [e] at hp; simp at hp) g2 fun e => ?_).symm
    unfold shapeN at g1
    rw [decide_eq_false (by omega), decide_eq_false (by omega), decide_eq_true e] at g1
    by_cases g : 1 < l.length
    · rw [decide_eq_true g] at g1; cases g1
    · omega
  · cases h
theorem join_cut : ∀ (m : Nat) (l : List UInt8), l.length ≤ m → ∃ w ps, cutS l = w :: ps ∧ l = w ++ joinR ps
  | m, l, hm => by
    rcases split32 l with h | ⟨q, r, e, hq⟩
    · exact ⟨l, [], cutS_one l h, by show l = l ++ []; rw [List.append_nil]⟩
    · subst e
      match m, hm with
      | 0, hm => rw [List.length_append, List.length_cons] at hm; omega
      | m + 1, hm =>
        obtain ⟨w, ps, h1, h2⟩ := join_cut m r (by rw [List.length_append, List.length_cons] at hm; omega)
        refine ⟨q, w :: ps, by rw [cutS_app q r hq, h1], ?_⟩
        show q ++ 32 :: r = q ++ 32 :: (w ++ joinR ps)
        rw [← h2]
theorem cut_back {l w : List UInt8} {ps : List (List UInt8)} (h : cutS l = w :: ps) : l = w ++ joinR ps := by
  obtain ⟨w', ps', h1, h2⟩ := join_cut l.length l (Nat.le_refl _)
  rw [h] at h1
  cases h1
  exact h2
end Go.Proofs.YthofbmfcpfibdaaDoor

namespace Go.Proofs.YthofbmfcpfibdaaDoor
open Go.Ev

/-! ### an item's line: there and back (plain) -/
theorem numI_some {ws : List (List UInt8)} {i m : Nat} (h : numI ws i m = true) : ws.getD i [] = dec (numG ws i) ∧ numG ws i ≤ m ∧ numG ws i < 18446744073709551616 := by
  unfold numI at h
  obtain ⟨h1, h2⟩ := (Bool.and_eq_true _ _ ▸ h : _ ∧ _)
  obtain ⟨n, hn⟩ := Option.isSome_iff_exists.1 h1
  have e : numG ws i = n := by unfold numG; rw [hn]; rfl
  rw [e] at h2 ⊢
  exact ⟨dec_num hn, of_decide_eq_true h2, numN_lt hn⟩
theorem w32 (z : Int) (h0 : 0 ≤ z) (h : z < 4294967296) : IntKind.u32.wrap z = z := wrap_eq _ _ (by show (0 : Int) ≤ z; omega) (by show z ≤ 4294967295; omega)
theorem w64 (z : Int) (h0 : 0 ≤ z) (h : z ≤ 1099511627776) : IntKind.i64.wrap z = z := wrap_eq _ _ (by show (-9223372036854775808 : Int) ≤ z; omega) (by show z ≤ 9223372036854775807; omega)
/-- what is read as an item is a good one, and its line is the one that was read -/
theorem line_bwd {ws : List (List UInt8)} {v : List UInt8} (h : isV ws = true) (hv : v.length = nB ws) : (itmB ws v).good ∧ plainL (itmB ws v).key.data.toList = true ∧ ws = VAL :: parts (itmB ws v) := by
  unfold isV headV okV at h
  simp only [Bool.and_eq_true, decide_eq_true_eq, Bool.not_eq_true', decide_eq_false_iff_not] at h
  obtain ⟨⟨h6, h0, hp, h1, h32⟩, ⟨⟨n2, n3⟩, n4⟩, n5⟩ := h
  obtain ⟨e2, l2, _⟩ := numI_some n2
  obtain ⟨e3, l3, _⟩ := numI_some n3
  obtain ⟨e4, l4, k4⟩ := numI_some n4
  obtain ⟨e5, l5, _⟩ := numI_some n5
  have a2 := w32 (numG ws 2 : Int) (by omega) (by omega)
  have a3 := w64 (numG ws 3 : Int) (by omega) (by omega)
  have hit : itmB ws v = ⟨⟨(ws.getD 1 []).toArray⟩, ⟨v.toArray⟩, (numG ws 2 : Int), (numG ws 3 : Int), (numG ws 4 : Int)⟩ := by
    unfold itmB itmV
    rw [a2, a3]
  rw [hit]
  have hsz : (⟨(ws.getD 1 []).toArray⟩ : ByteArray).size = (ws.getD 1 []).length := rfl
  have hvz : (⟨v.toArray⟩ : ByteArray).size = v.length := rfl
  unfold nB at hv
  refine ⟨⟨⟨⟨by simp only; omega, by simp only; omega⟩, ⟨by simp only; omega, by simp only; omega⟩, ⟨by simp only; omega, by simp only; omega⟩⟩, ?_⟩, hp, ?_⟩
  · unfold Itm.err Itm.long momentB
    simp only [hsz, hvz]
    rw [decide_eq_false (by omega), decide_eq_false (by omega), decide_eq_false (by omega), decide_eq_true (by omega), decide_eq_true (by omega)]
    rfl
  · have hw : ws = [ws.getD 0 [], ws.getD 1 [], ws.getD 2 [], ws.getD 3 [], ws.getD 4 [], ws.getD 5 []] := by
      match ws, h6 with
      | [a, b, c, d, e, f], _ => rfl
    have hpz : parts ⟨⟨(ws.getD 1 []).toArray⟩, ⟨v.toArray⟩, (numG ws 2 : Int), (numG ws 3 : Int), (numG ws 4 : Int)⟩ = [ws.getD 1 [], dec (numG ws 2), dec (numG ws 3), dec (numG ws 4), dec v.length] := rfl
    rw [hpz, hv, ← e2, ← e3, ← e4, ← e5]
    have hV : VAL = ws.getD 0 [] := h0.symm
    rw [hV]
    exact hw
/-! ### where a line ends (plain) -/
/-- what stands at a line's end -/
theorem at_split {l : List UInt8} {i : Nat} (h : At l i) : l.drop i = 13 :: 10 :: l.drop (i + 2) := by
  have h1 : i < l.length := by have := h.lt; omega
  have h2 : i + 1 < l.length := h.lt
  rw [List.drop_eq_getElem_cons h1, List.drop_eq_getElem_cons h2]
  have e1 := h.1
  have e2 := h.2
  rw [List.getElem?_eq_getElem h1] at e1
  rw [List.getElem?_eq_getElem h2] at e2
  rw [Option.some.inj e1, Option.some.inj e2]
end Go.Proofs.YthofbmfcpfibdaaDoor

namespace Go.Proofs.YthofbmfcpfibdaaDoor
open Go.Ev

/-! ### rows of items: there and back (plain) -/
def vhead (x : Itm) : List UInt8 := VAL ++ joinR (parts x)
theorem vline_eq (x : Itm) (R : List UInt8) : vline x ++ R = vhead x ++ 13 :: 10 :: (x.val.data.toList ++ 13 :: 10 :: R) := by
  unfold vline vhead
  simp only [List.append_assoc, List.cons_append, List.nil_append]
/-- what was read as items stands there -/
theorem chain_bwd (k : Nat) (b : List UInt8) : ∀ (f at_ : Nat) (xs zs : List Itm) (n : Nat), at_ ≤ b.length → readP k b f at_ xs = .items zs n →
    k = 1 ∧ ∃ ys, zs = xs ++ ys ∧ (∀ y ∈ ys, y.good ∧ plainL y.key.data.toList = true) ∧ at_ ≤ n ∧ n ≤ b.length ∧ (b.drop at_).take (n - at_) = ys.flatMap vline ++ (endW ++ [13, 10])
  | 0, at_, xs, zs, n, _, h => by cases h
  | f + 1, at_, xs, zs, n, hat, h => by
    rcases crlf_cases (b.drop at_) with hc | ⟨i, hc⟩
    · rw [readP_neg hc] at h; split at h <;> cases h
    · obtain ⟨i1, i2, i3⟩ := crlf_pos hc
      obtain ⟨s, hs⟩ : ∃ s, (b.drop at_).take i = s := ⟨_, rfl⟩
      have hsl : s.length = i := by rw [← hs, List.length_take]; omega
      have hdl : (b.drop at_).length = b.length - at_ := List.length_drop
      rw [readP_pos hc hs] at h
      generalize hrest : b.drop at_ = rest at *
      have hsp := at_split i3
      split at h
      · rename_i hv
        split at h
        · cases h
        · split at h
          · cases h
          · rename_i hlen hat2
            have hat3 : At rest (i + 2 + nB (cutS s)) := Decidable.of_not_not hat2
            generalize hn5 : nB (cutS s) = n5 at *
            have hsp3 := at_split hat3
            obtain ⟨v, hvv⟩ : ∃ v, (rest.take (i + 2 + n5)).drop (i + 2) = v := ⟨_, rfl⟩
            rw [hvv] at h
            have hvl : v.length = n5 := by rw [← hvv, List.length_drop, List.length_take]; omega
            obtain ⟨g, hp, hw⟩ := line_bwd hv.2.1 (hvl.trans hn5.symm)
            have hse := cut_back hw
            obtain ⟨hk, ys, hz, hys, hn1, hn2, htk⟩ := chain_bwd k b f _ _ zs n (by omega) h
            refine ⟨hk, itmB (cutS s) v :: ys, by rw [hz]; simp, fun y hy => ?_, by omega, hn2, ?_⟩
            · rcases List.mem_cons.1 hy with rfl | hy
              · exact ⟨g, hp⟩
              · exact hys y hy
            · have e1 : rest.take (i + n5 + 4) = vline (itmB (cutS s) v) := by
                have e2 : vline (itmB (cutS s) v) = s ++ 13 :: 10 :: (v ++ 13 :: 10 :: []) := by
                  have := vline_eq (itmB (cutS s) v) []
                  rw [List.append_nil] at this
                  rw [this]
                  show VAL ++ joinR (parts (itmB (cutS s) v)) ++ _ = _
                  rw [← hse]; rfl
                rw [e2, show i + n5 + 4 = i + (2 + (n5 + 2)) by omega, List.take_add, hs, hsp, List.take_add]
                have e5 : (rest.drop (i + 2)).take n5 = v := by rw [← hvv, List.drop_take]; congr 1; omega
                show s ++ (13 :: 10 :: [] ++ (rest.drop (i + 2)).take (n5 + 2)) = _
                rw [List.take_add, e5, List.drop_drop, hsp3]
                rfl
              have e6 : b.drop (at_ + (i + n5 + 4)) = rest.drop (i + n5 + 4) := by rw [← hrest, List.drop_drop]
              rw [e6] at htk
              rw [show n - at_ = (i + n5 + 4) + (n - (at_ + (i + n5 + 4))) by omega, List.take_add, e1, htk, List.flatMap_cons, List.append_assoc]
      · unfold lastP at h
        split at h
        · rename_i hke
          cases h
          refine ⟨hke.1, [], (List.append_nil _).symm, (fun y hy => by cases hy), by omega, by omega, ?_⟩
          rw [show at_ + s.length + 2 - at_ = i + 2 by omega, List.take_add, hs, hsp, hke.2]
          rfl
        · split at h
          · split at h <;> cases h
          · cases h
/-- a line that was read stands there -/
theorem single_bwd (k : Nat) (b : List UInt8) : ∀ (f at_ : Nat) (xs : List Itm) (a : Ans) (n : Nat), readP k b f at_ xs = .line a n → at_ = 0 ∧ ∃ s, lineA k (cutS s) = some a ∧ b.take n = s ++ [13, 10] ∧ n = s.length + 2 ∧ n ≤ b.length
  | 0, at_, xs, a, n, h => by cases h
  | f + 1, at_, xs, a, n, h => by
    rcases crlf_cases (b.drop at_) with hc | ⟨i, hc⟩
    · rw [readP_neg hc] at h; split at h <;> cases h
    · obtain ⟨i1, i2, i3⟩ := crlf_pos hc
      obtain ⟨s, hs⟩ : ∃ s, (b.drop at_).take i = s := ⟨_, rfl⟩
      have hsl : s.length = i := by rw [← hs, List.length_take]; omega
      rw [readP_pos hc hs] at h
      split at h
      · split at h
        · cases h
        · split at h
          · cases h
          · have := (single_bwd k b f _ _ a n h).1
            omega
      · unfold lastP at h
        split at h
        · cases h
        · split at h
          · rename_i a' ha
            split at h
            · rename_i h0
              cases h
              subst h0
              have hsp := at_split i3
              rw [List.drop_zero] at hs hsp i1
              refine ⟨rfl, s, ha, ?_, rfl, by omega⟩
              rw [hsl, List.take_add, hs, hsp]; rfl
            · cases h
          · cases h
end Go.Proofs.YthofbmfcpfibdaaDoor

set_option maxRecDepth 20000
namespace Go.Proofs.YthofbmfcpfibdaaDoor
open Go.Ev

/-! ### an answer of one line: there and back (plain) -/
end Go.Proofs.YthofbmfcpfibdaaDoor

namespace Go.Proofs.YthofbmfcpfibdaaDoor
open Go.Ev

end Go.Proofs.YthofbmfcpfibdaaDoor
