import Derived.Test.YtbdmhdidehfmoaaDoorTsO
set_option linter.unusedSimpArgs false
set_option linter.unusedVariables false
namespace Go.Proofs.YtbdmhdidehfmoaaDoor
open Go.Ev

/-! ### the document's rows -/
def Rw (h : H) (v : Value) (es : List Ent) : Prop := (v = .slice none 0 0 ∧ es = []) ∨ ∃ b cap, v = .slice (some ⟨b, 0, none⟩) es.length cap ∧ OpenC cap ∧ Has h b (.op (cellsE es) 3)
theorem Rw.keep0 {h h' : H} {v : Value} {es : List Ent} (a : Rw h v es) (k : Keep nobody h h') : Rw h' v es := by
  rcases a with a | ⟨b, cap, e, c, hb⟩
  · exact .inl a
  · exact .inr ⟨b, cap, e, c, hb.keep0 k⟩
theorem Rw.own {h : H} {v : Value} {es : List Ent} (a : Rw h v es) : Own (fun _ => .other) h .other v es := by
  rcases a with a | ⟨b, cap, e, c, hb⟩
  · exact .inl a
  · exact .inr ⟨b, cap, _, e, c, hb, by rw [cellsE_len]; omega, by rw [cellsE_len]; omega, by rw [← cellsE_len, List.take_length], rfl⟩
def SrcE (h : H) (x : Value) (es : List Ent) : Prop := lenV x = some es.length ∧ firstV h 3 es.length x = some (cellsE es)
theorem Rw.pre {h : H} {v : Value} {es : List Ent} (a : Rw h v es) (i : Nat) (hi : i ≤ es.length) : ∃ x, sliceSl 3 v none (some (.int .i64 (i : Int))) none = some x ∧ SrcE h x (es.take i) := by
  rcases a with ⟨rfl, rfl⟩ | ⟨b, cap, rfl, c, hb⟩
  · have : i = 0 := by simpa using hi
    subst this
    exact ⟨.slice none 0 0, rfl, rfl, rfl⟩
  · refine ⟨.slice (some ⟨b, 0, none⟩) i (opCap (Nat.max es.length (lbOf cap)) 3), ?_, ?_, ?_⟩
    · have hb2 : bnds none (some (.int .i64 (i : Int))) none es.length (Nat.max es.length (lbOf cap)) = some (0, i, Nat.max es.length (lbOf cap)) := by
        simp only [bnds, bnd, asNat_nat]
        rw [Nat.ble_eq_true_of_le (Nat.le_trans hi (Nat.le_max_left _ _))]
      simp only [sliceSl, c.1, c.2, hb2, addOff, Nat.zero_mul, Nat.add_zero, Nat.sub_zero]
    · rw [List.length_take, Nat.min_eq_left hi]; rfl
    · rw [List.length_take, Nat.min_eq_left hi]
      simp only [firstV]
      rw [row_has hb rfl (by rw [cellsE_len]; omega), List.drop_zero, Nat.mul_comm, cellsE_take]
theorem Rw.suf {h : H} {v : Value} {es : List Ent} (a : Rw h v es) (i : Nat) (hi : i ≤ es.length) : ∃ x, sliceSl 3 v (some (.int .i64 (i : Int))) none none = some x ∧ SrcE h x (es.drop i) := by
  rcases a with ⟨rfl, rfl⟩ | ⟨b, cap, rfl, c, hb⟩
  · have : i = 0 := by simpa using hi
    subst this
    exact ⟨.slice none 0 0, rfl, rfl, rfl⟩
  · refine ⟨.slice (some ⟨b, 0 + i * 3, none⟩) (es.length - i) (opCap (Nat.max es.length (lbOf cap) - i) 3), ?_, ?_, ?_⟩
    · have hb2 : bnds (some (.int .i64 (i : Int))) none none es.length (Nat.max es.length (lbOf cap)) = some (i, es.length, Nat.max es.length (lbOf cap)) := by
        simp only [bnds, bnd, asNat_nat]
        rw [Nat.ble_eq_true_of_le hi]
      simp only [sliceSl, c.1, c.2, hb2, addOff]
    · rw [List.length_drop]; rfl
    · rw [List.length_drop]
      simp only [firstV]
      rw [row_has hb rfl (by rw [cellsE_len]; omega)]
      have e1 : (cellsE es).drop (0 + i * 3) = cellsE (es.drop i) := by rw [Nat.zero_add, Nat.mul_comm, cellsE_drop]
      rw [e1, List.take_of_length_le (by rw [cellsE_len, List.length_drop]; omega)]

/-- a row that is being made -/
def Rb (h : H) (lo : Nat) (v : Value) (es : List Ent) : Prop := (v = .slice none 0 0 ∧ es = []) ∨ ∃ b cap, v = .slice (some ⟨b, 0, none⟩) es.length cap ∧ OpenC cap ∧ Has h b (.op (cellsE es) 3) ∧ lo ≤ b
theorem Rb.keep0 {h h' : H} {lo : Nat} {v : Value} {es : List Ent} (a : Rb h lo v es) (k : Keep nobody h h') : Rb h' lo v es := by
  rcases a with a | ⟨b, cap, e, c, hb, l⟩
  · exact .inl a
  · exact .inr ⟨b, cap, e, c, hb.keep0 k, l⟩
theorem Rb.rw {h : H} {lo : Nat} {v : Value} {es : List Ent} (a : Rb h lo v es) : Rw h v es := by
  rcases a with a | ⟨b, cap, e, c, hb, l⟩
  · exact .inl a
  · exact .inr ⟨b, cap, e, c, hb⟩
theorem Rb.app {h : H} {lo : Nat} {v x : Value} {es xs : List Ent} (a : Rb h lo v es) (s : SrcE h x xs) (hlo : lo ≤ h.next) (hsz : es.length + xs.length ≤ 1000000) :
    ∃ v' h', appendV 3 32 h v x = some (v', h') ∧ Rb h' lo v' (es ++ xs) ∧ Keep (fun c => lo ≤ c) h h' := by
  obtain ⟨s1, s2⟩ := s
  have hap : ∀ base sl sc, appendV 3 32 h (.slice base sl sc) x = appTo 3 32 h base sl sc xs.length (cellsE xs) := fun base sl sc => by
    unfold appendV
    simp only [s1, s2]
    rw [show Nat.beq (cellsE xs).length (xs.length * 3) = true by rw [cellsE_len, Nat.mul_comm]; exact Nat.beq_refl _]
  cases xs with
  | nil =>
    rw [List.append_nil]
    rcases a with ⟨rfl, rfl⟩ | ⟨b, cap, rfl, c, hb, l⟩
    · rw [hap]; exact ⟨_, _, rfl, .inl ⟨rfl, rfl⟩, .refl _ _⟩
    · rw [hap]
      refine ⟨.slice (some ⟨b, 0, none⟩) es.length cap, h, ?_, .inr ⟨b, cap, rfl, c, hb, l⟩, .refl _ _⟩
      have h1 : Nat.ble es.length cap = true := by
        have := Nat.le_of_ble_eq_true c.1
        exact Nat.ble_eq_true_of_le (by unfold OPEN at this; omega)
      show (match Nat.ble es.length cap with | true => some (Value.slice (some ⟨b, 0, none⟩) es.length cap, h) | false => none) = _
      rw [h1]
  | cons y ys =>
    have hl : (y :: ys).length = ys.length + 1 := rfl
    have hgrow : ∀ (h0 : H), h0.next = h.next → Keep (fun c => lo ≤ c) h h0 → ∃ v' h', grow h0 (cellsE es) (cellsE (y :: ys)) (es.length + (y :: ys).length) 3 = some (v', h') ∧ Rb h' lo v' (es ++ y :: ys) ∧ Keep (fun c => lo ≤ c) h h' := fun h0 hn hk => by
      exact ⟨_, _, rfl, .inr ⟨h0.next, opCap (es.length + (y :: ys).length) 3, by rw [List.length_append], openC _, by rw [cellsE_append]; exact .new _ _, by omega⟩, hk.then (.new _ _)⟩
    rcases a with ⟨rfl, rfl⟩ | ⟨b, cap, rfl, c, hb1, l⟩
    · rw [hap]
      have : appTo 3 32 h none 0 0 (y :: ys).length (cellsE (y :: ys)) = grow h [] (cellsE (y :: ys)) (0 + (y :: ys).length) 3 := by
        unfold appTo
        simp only [hl]
        rw [Nat.ble_eq_true_of_le (show (0 + (ys.length + 1)) * 32 ≤ 140737488355328 by simp at hsz; omega), Nat.ble_eq_true_of_le (show 0 + (ys.length + 1) ≤ 9223372036854775807 by simp at hsz; omega)]
        rfl
      rw [this]
      exact hgrow h rfl (.refl _ _)
    · rw [hap]
      have h1 : appTo 3 32 h (some ⟨b, 0, none⟩) es.length cap (y :: ys).length (cellsE (y :: ys)) = appOpen 3 h ⟨b, 0, none⟩ es.length cap (y :: ys).length (cellsE (y :: ys)) := by
        unfold appTo
        simp only [hl]
        rw [Nat.ble_eq_true_of_le (show (es.length + (ys.length + 1)) * 32 ≤ 140737488355328 by simp at hsz; omega), Nat.ble_eq_true_of_le (show es.length + (ys.length + 1) ≤ 9223372036854775807 by simp at hsz; omega)]
        simp only [c.1, Bool.and_self]
      rw [h1]
      unfold appOpen
      have h2 := cellsE_ones (y :: ys)
      have e3 : putAt (cellsE es) (0 + es.length * 3) (cellsE (y :: ys)) = none := by
        rw [show 0 + es.length * 3 = (cellsE es).length by rw [cellsE_len]; omega]
        exact putAt_end _ _ _
      have e4 : cut (cellsE es) 0 = some (cellsE es) := by simpa using cut_eq (cellsE es) 0 (by simp)
      have e5 : Nat.beq (0 + es.length * 3) (cellsE es).length = true := by rw [show 0 + es.length * 3 = (cellsE es).length by rw [cellsE_len]; omega]; exact Nat.beq_refl _
      simp only [c.2, h2, Bool.and_self, hb1.2, e3, e4, e5]
      exact hgrow (h.del b) rfl ((Keep.del h b).mono fun k _ e => by rw [e]; exact l)

/-! ### names: the order, and which may be -/
instance decLt (x y : Nm) : Decidable (ltN x y) := by unfold ltN; infer_instance
theorem r20_1_all {call : CallT} {L : Nat} {tm : T Value} {h : H} {K : KE} {x y : Nm} {p q : Nat} (hp : Has h p (.rw [.int .i64 x.1, .string x.2])) (hq : Has h q (.rw [.int .i64 y.1, .string y.2])) (t2 : tg tm 2 = .pointer (some ⟨p, 0, none⟩)) (t3 : tg tm 3 = .pointer (some ⟨q, 0, none⟩)) :
    r20_1 call L tm [] h K = K .norm (T.set tm 4 (.bool (decide (ltN x y)))) [] h := by
  have l1 : ∀ o s, loadOne h (.pointer (some ⟨p, o, s⟩)) = [.int .i64 x.1, .string x.2][o]? := fun o s => loadOne_has hp rfl
  have l2 : ∀ o s, loadOne h (.pointer (some ⟨q, o, s⟩)) = [.int .i64 y.1, .string y.2][o]? := fun o s => loadOne_has hq rfl
  by_cases hlt : ltN x y
  · rw [decide_eq_true hlt]; exact r20_1_eq hp hq t2 t3 hlt
  · rw [decide_eq_false hlt]
    have h1 : ¬ x.1 < y.1 := fun h => hlt (.inl h)
    by_cases h2 : x.1 = y.1
    · have h3 : ltB x.2.data.toList y.2.data.toList = false := by
        cases hq : ltB x.2.data.toList y.2.data.toList with
        | true => exact absurd (.inr ⟨h2, hq⟩) hlt
        | false => rfl
      have h4 : ¬ y.1 < y.1 := by omega
      simp only [↓opStep_eq, ↓reduceIte, ↓EW, EV, Nat.reduceAdd, Nat.reduceEqDiff, Int.reduceEq, Int.reduceLT, Int.reduceLE, Int.reduceNe, seqC, retC, skipC, exitC, blockC, condC, Bool.true_or, Bool.false_or, Bool.or_true, Bool.or_false, Bool.true_and, Bool.false_and, Bool.and_true, Bool.and_false, r20_1, t2, t3, l1, l2, h2, h4, strV_lss, h3]
    · simp only [↓opStep_eq, ↓reduceIte, ↓EW, EV, Nat.reduceAdd, Nat.reduceEqDiff, Int.reduceEq, Int.reduceLT, Int.reduceLE, Int.reduceNe, seqC, retC, skipC, exitC, blockC, condC, Bool.true_or, Bool.false_or, Bool.or_true, Bool.or_false, Bool.true_and, Bool.false_and, Bool.and_true, Bool.and_false, r20_1, t2, t3, l1, l2, h1, h2]
theorem less_all (L n : Nat) (x y : Nm) (h : H) : Sp (CF L (n + 1)) 20 [x.v, y.v] h fun r h' => r = .bool (decide (ltN x y)) ∧ Keep nobody h h' := by
  refine Sp.body f20 (by simp) ?_
  unfold c20
  refine C.seq fun K hK => ?_
  have k1 := Keep.new h (.rw [.int .i64 x.1, .string x.2])
  have b1 := Has.new h (.rw [.int .i64 x.1, .string x.2])
  have hcx : (Value.cells x.v).toList = [.int .i64 x.1, .string x.2] := by simp [Nm.v]
  have hcy : (Value.cells y.v).toList = [.int .i64 y.1, .string y.2] := by simp [Nm.v]
  simp only [↓opStep_eq, ↓reduceIte, ↓EW, EV, Nat.reduceAdd, Nat.reduceEqDiff, Int.reduceEq, Int.reduceLT, Int.reduceLE, Int.reduceNe, seqC, retC, skipC, exitC, blockC, condC, r20_0, hcx, hcy]
  generalize h.new (.rw [.int .i64 x.1, .string x.2]) = h1 at *
  have k2 := Keep.new h1 (.rw [.int .i64 y.1, .string y.2])
  have b2 := Has.new h1 (.rw [.int .i64 y.1, .string y.2])
  generalize h1.new (.rw [.int .i64 y.1, .string y.2]) = h2 at *
  refine hK _ _ _ (C.seq fun K hK => ?_)
  rw [show ∀ x : CodeT, (⟨x⟩ : Box CodeT).f = x from fun _ => rfl]
  rw [r20_1_all (b1.keep0 k2) b2 (by simp only [↓opStep_eq, ↓reduceIte, ↓EW, EV, Nat.reduceAdd, Nat.reduceEqDiff, Int.reduceEq, Int.reduceLT, Int.reduceLE, Int.reduceNe, seqC, retC, skipC, exitC, blockC, condC]) (by simp only [↓opStep_eq, ↓reduceIte, ↓EW, EV, Nat.reduceAdd, Nat.reduceEqDiff, Int.reduceEq, Int.reduceLT, Int.reduceLE, Int.reduceNe, seqC, retC, skipC, exitC, blockC, condC])]
  exact hK _ _ _ (C.ret ⟨.inr rfl, _, rfl, by simp only [↓opStep_eq, ↓reduceIte, ↓EW, EV, Nat.reduceAdd, Nat.reduceEqDiff, Int.reduceEq, Int.reduceLT, Int.reduceLE, Int.reduceNe, seqC, retC, skipC, exitC, blockC, condC, resOf], k1.then k2⟩)

theorem tenant_law (L n : Nat) (t : Int) (h : H) : Sp (CF L (n + 1)) 57 [.int .i64 t] h fun r h' => r = .bool (decide (0 ≤ t ∧ t < 4)) ∧ h' = h := by
  refine Sp.body f57 (by simp) ?_
  unfold c57
  refine C.seq fun K hK => ?_
  simp only [↓opStep_eq, ↓reduceIte, ↓EW, EV, Nat.reduceAdd, Nat.reduceEqDiff, Int.reduceEq, Int.reduceLT, Int.reduceLE, Int.reduceNe, seqC, retC, skipC, exitC, blockC, condC, r57_0]
  refine hK .norm _ _ (C.seq fun K hK => ?_)
  by_cases h1 : 0 ≤ t
  · by_cases h2 : t < 4
    · simp only [↓opStep_eq, ↓reduceIte, ↓EW, EV, Nat.reduceAdd, Nat.reduceEqDiff, Int.reduceEq, Int.reduceLT, Int.reduceLE, Int.reduceNe, seqC, retC, skipC, exitC, blockC, condC, Bool.true_or, Bool.false_or, Bool.or_true, Bool.or_false, Bool.true_and, Bool.false_and, Bool.and_true, Bool.and_false, r57_1, h1, h2]
      exact hK _ _ _ (C.ret ⟨.inr rfl, _, rfl, by simp only [↓opStep_eq, ↓reduceIte, ↓EW, EV, Nat.reduceAdd, Nat.reduceEqDiff, Int.reduceEq, Int.reduceLT, Int.reduceLE, Int.reduceNe, seqC, retC, skipC, exitC, blockC, condC, resOf]; rw [decide_eq_true ⟨h1, h2⟩], rfl⟩)
    · simp only [↓opStep_eq, ↓reduceIte, ↓EW, EV, Nat.reduceAdd, Nat.reduceEqDiff, Int.reduceEq, Int.reduceLT, Int.reduceLE, Int.reduceNe, seqC, retC, skipC, exitC, blockC, condC, Bool.true_or, Bool.false_or, Bool.or_true, Bool.or_false, Bool.true_and, Bool.false_and, Bool.and_true, Bool.and_false, r57_1, h1, h2]
      exact hK _ _ _ (C.ret ⟨.inr rfl, _, rfl, by simp only [↓opStep_eq, ↓reduceIte, ↓EW, EV, Nat.reduceAdd, Nat.reduceEqDiff, Int.reduceEq, Int.reduceLT, Int.reduceLE, Int.reduceNe, seqC, retC, skipC, exitC, blockC, condC, resOf]; rw [decide_eq_false fun h => h2 h.2], rfl⟩)
  · simp only [↓opStep_eq, ↓reduceIte, ↓EW, EV, Nat.reduceAdd, Nat.reduceEqDiff, Int.reduceEq, Int.reduceLT, Int.reduceLE, Int.reduceNe, seqC, retC, skipC, exitC, blockC, condC, Bool.true_or, Bool.false_or, Bool.or_true, Bool.or_false, Bool.true_and, Bool.false_and, Bool.and_true, Bool.and_false, r57_1, h1]
    exact hK _ _ _ (C.ret ⟨.inr rfl, _, rfl, by simp only [↓opStep_eq, ↓reduceIte, ↓EW, EV, Nat.reduceAdd, Nat.reduceEqDiff, Int.reduceEq, Int.reduceLT, Int.reduceLE, Int.reduceNe, seqC, retC, skipC, exitC, blockC, condC, resOf]; rw [decide_eq_false fun h => h1 h.1], rfl⟩)
theorem key_law (L n : Nat) (k : ByteArray) (h : H) : Sp (CF L (n + 1)) 58 [.string k] h fun r h' => r = .bool (decide (1 ≤ (k.size : Int) ∧ (k.size : Int) ≤ 32)) ∧ h' = h := by
  refine Sp.body f58 (by simp) ?_
  unfold c58
  refine C.seq fun K hK => ?_
  simp only [↓opStep_eq, ↓reduceIte, ↓EW, EV, Nat.reduceAdd, Nat.reduceEqDiff, Int.reduceEq, Int.reduceLT, Int.reduceLE, Int.reduceNe, seqC, retC, skipC, exitC, blockC, condC, r58_0]
  refine hK .norm _ _ (C.seq fun K hK => ?_)
  by_cases h1 : 1 ≤ (k.size : Int)
  · by_cases h2 : (k.size : Int) ≤ 32
    · simp only [↓opStep_eq, ↓reduceIte, ↓EW, EV, Nat.reduceAdd, Nat.reduceEqDiff, Int.reduceEq, Int.reduceLT, Int.reduceLE, Int.reduceNe, seqC, retC, skipC, exitC, blockC, condC, Bool.true_or, Bool.false_or, Bool.or_true, Bool.or_false, Bool.true_and, Bool.false_and, Bool.and_true, Bool.and_false, r58_1, lenStr_string, h1, h2]
      exact hK _ _ _ (C.ret ⟨.inr rfl, _, rfl, by simp only [↓opStep_eq, ↓reduceIte, ↓EW, EV, Nat.reduceAdd, Nat.reduceEqDiff, Int.reduceEq, Int.reduceLT, Int.reduceLE, Int.reduceNe, seqC, retC, skipC, exitC, blockC, condC, resOf]; rw [decide_eq_true ⟨h1, h2⟩], rfl⟩)
    · simp only [↓opStep_eq, ↓reduceIte, ↓EW, EV, Nat.reduceAdd, Nat.reduceEqDiff, Int.reduceEq, Int.reduceLT, Int.reduceLE, Int.reduceNe, seqC, retC, skipC, exitC, blockC, condC, Bool.true_or, Bool.false_or, Bool.or_true, Bool.or_false, Bool.true_and, Bool.false_and, Bool.and_true, Bool.and_false, r58_1, lenStr_string, h1, h2]
      exact hK _ _ _ (C.ret ⟨.inr rfl, _, rfl, by simp only [↓opStep_eq, ↓reduceIte, ↓EW, EV, Nat.reduceAdd, Nat.reduceEqDiff, Int.reduceEq, Int.reduceLT, Int.reduceLE, Int.reduceNe, seqC, retC, skipC, exitC, blockC, condC, resOf]; rw [decide_eq_false fun h => h2 h.2], rfl⟩)
  · simp only [↓opStep_eq, ↓reduceIte, ↓EW, EV, Nat.reduceAdd, Nat.reduceEqDiff, Int.reduceEq, Int.reduceLT, Int.reduceLE, Int.reduceNe, seqC, retC, skipC, exitC, blockC, condC, Bool.true_or, Bool.false_or, Bool.or_true, Bool.or_false, Bool.true_and, Bool.false_and, Bool.and_true, Bool.and_false, r58_1, lenStr_string, h1]
    exact hK _ _ _ (C.ret ⟨.inr rfl, _, rfl, by simp only [↓opStep_eq, ↓reduceIte, ↓EW, EV, Nat.reduceAdd, Nat.reduceEqDiff, Int.reduceEq, Int.reduceLT, Int.reduceLE, Int.reduceNe, seqC, retC, skipC, exitC, blockC, condC, resOf]; rw [decide_eq_false fun h => h1 h.1], rfl⟩)
theorem name43_law (L n : Nat) (t : Int) (k : ByteArray) (h : H) : Sp (CF L (n + 2)) 43 [nameV t k] h fun r h' => r = .bool (decide (validN t k)) ∧ Keep nobody h h' := by
  refine Sp.body f43 (by simp) ?_
  unfold c43
  have k1 := Keep.new h (.rw [.int .i64 t, .string k])
  have b1 := Has.new h (.rw [.int .i64 t, .string k])
  refine C.seq fun K hK => ?_
  simp only [↓opStep_eq, ↓reduceIte, ↓EW, EV, Nat.reduceAdd, Nat.reduceEqDiff, Int.reduceEq, Int.reduceLT, Int.reduceLE, Int.reduceNe, seqC, retC, skipC, exitC, blockC, condC, r43_0, cells_agg]
  generalize h.new (.rw [.int .i64 t, .string k]) = h1 at *
  have ld : ∀ o s, loadOne h1 (.pointer (some ⟨h.next, o, s⟩)) = [.int .i64 t, .string k][o]? := fun o s => loadOne_has b1 rfl
  refine hK _ _ _ (C.seq fun K hK => ?_)
  unfold r43_1
  simp only [↓opStep_eq, ↓reduceIte, ↓EW, EV, Nat.reduceAdd, Nat.reduceEqDiff, Int.reduceEq, Int.reduceLT, Int.reduceLE, Int.reduceNe, seqC, retC, skipC, exitC, blockC, condC, ld]
  refine tenant_law L n t h1 _ fun r h2 hq => ?_
  obtain ⟨rfl, rfl⟩ := hq
  by_cases ht : 0 ≤ t ∧ t < 4
  · rw [decide_eq_true ht]
    simp only [↓opStep_eq, ↓reduceIte, ↓EW, EV, Nat.reduceAdd, Nat.reduceEqDiff, Int.reduceEq, Int.reduceLT, Int.reduceLE, Int.reduceNe, seqC, retC, skipC, exitC, blockC, condC, Bool.true_or, Bool.false_or, Bool.or_true, Bool.or_false, Bool.true_and, Bool.false_and, Bool.and_true, Bool.and_false, ld]
    refine key_law L n k _ _ fun r h2 hq => ?_
    obtain ⟨rfl, rfl⟩ := hq
    generalize hb : decide (1 ≤ (k.size : Int) ∧ (k.size : Int) ≤ 32) = bk
    refine hK _ _ _ (C.ret ⟨.inr rfl, _, rfl, ?_, k1⟩)
    simp only [↓opStep_eq, ↓reduceIte, ↓EW, EV, Nat.reduceAdd, Nat.reduceEqDiff, Int.reduceEq, Int.reduceLT, Int.reduceLE, Int.reduceNe, seqC, retC, skipC, exitC, blockC, condC, resOf]
    rw [← hb]
    congr 1
    exact decide_eq_decide.2 ⟨fun h => ⟨ht.1, ht.2, by omega, by omega⟩, fun h => ⟨by have := h.2.2.1; omega, by have := h.2.2.2; omega⟩⟩
  · rw [decide_eq_false ht]
    simp only [↓opStep_eq, ↓reduceIte, ↓EW, EV, Nat.reduceAdd, Nat.reduceEqDiff, Int.reduceEq, Int.reduceLT, Int.reduceLE, Int.reduceNe, seqC, retC, skipC, exitC, blockC, condC, Bool.true_or, Bool.false_or, Bool.or_true, Bool.or_false, Bool.true_and, Bool.false_and, Bool.and_true, Bool.and_false]
    refine hK _ _ _ (C.ret ⟨.inr rfl, _, rfl, ?_, k1⟩)
    simp only [↓opStep_eq, ↓reduceIte, ↓EW, EV, Nat.reduceAdd, Nat.reduceEqDiff, Int.reduceEq, Int.reduceLT, Int.reduceLE, Int.reduceNe, seqC, retC, skipC, exitC, blockC, condC, resOf]
    congr 1
    exact (decide_eq_false fun h => ht ⟨h.1, h.2.1⟩).symm
end Go.Proofs.YtbdmhdidehfmoaaDoor

namespace Go.Proofs.YtbdmhdidehfmoaaDoor
open Go.Ev

theorem ite2_true (a b : Bool) : ite2 true a b = a := (rfl)
theorem ite2_false (a b : Bool) : ite2 false a b = b := (rfl)
theorem agg1 (v : Value) : (Value.cells (.agg [v].toArray)).toList = [v] := by simp
theorem cells2 (t : Int) (k : ByteArray) : (Value.cells (nameV t k)).toList = [.int .i64 t, .string k] := by simp

/-- where a name stands, or would stand -/
structure FindR (es : List Ent) (x : Nm) (i : Nat) (is : Bool) : Prop where
  le : i ≤ es.length
  lo : ∀ (k : Nat) e, k < i → es[k]? = some e → ltN e.key x
  hi : ∀ e, es[i]? = some e → ¬ ltN e.key x
  is : is = true ↔ ∃ e, es[i]? = some e ∧ e.key = x

theorem Rw.len {h : H} {v : Value} {es : List Ent} (a : Rw h v es) : lenSl v = some (.int .i64 (es.length : Int)) := a.own.len
theorem Rw.at {h : H} {v : Value} {es : List Ent} (a : Rw h v es) {i : Nat} {e : Ent} (hi : es[i]? = some e) :
    ∃ b, indexSl 3 v (.int .i64 (i : Int)) = some (.pointer (some ⟨b, 3 * i, none⟩)) ∧ (∀ s, loadAgg 2 h (.pointer (some ⟨b, 3 * i, s⟩)) = some (nameV e.t e.k)) ∧ ∀ s, loadOne h (.pointer (some ⟨b, 3 * i + 2, s⟩)) = some (.int .i64 e.x) := by
  obtain ⟨b, cs, ix, _, hb, h3, hc, _⟩ := a.own.at hi
  exact ⟨b, ix, Ent.at_name hb h3 hc, Ent.at_x hb h3 hc⟩

theorem find44_law (L n : Nat) {h : H} {v : Value} {es : List Ent} (a : Rw h v es) (x : Nm) (hL : es.length < L) (hsz : es.length ≤ 1000000) :
    Sp (CF L (n + 2)) 44 [.agg [v].toArray, x.v] h fun r h' => ∃ i is, r = .tuple [.int .i64 ((i : Nat) : Int), .bool is].toArray ∧ FindR es x i is ∧ Keep nobody h h' := by
  refine Sp.body f44 (by simp) ?_
  unfold c44
  have k1 := Keep.new h (.rw [v])
  have b1 := Has.new h (.rw [v])
  refine C.seq fun K hK => ?_
  simp only [↓opStep_eq, ↓reduceIte, ↓EW, EV, Nat.reduceAdd, Nat.reduceEqDiff, Int.reduceEq, Int.reduceLT, Int.reduceLE, Int.reduceNe, seqC, retC, skipC, exitC, blockC, condC, r44_0, agg1, cells2]
  have hn1 : (h.new (.rw [v])).next = h.next + 1 := rfl
  generalize h.new (.rw [v]) = h1 at *
  have k2 := Keep.new h1 (.rw [.int .i64 x.1, .string x.2])
  have b2 := Has.new h1 (.rw [.int .i64 x.1, .string x.2])
  generalize h1.new (.rw [.int .i64 x.1, .string x.2]) = h2 at *
  have b1 := b1.keep0 k2
  have k02 := k1.then k2
  refine hK _ _ _ (C.seq fun K hK => ?_)
  simp only [↓opStep_eq, ↓reduceIte, ↓EW, EV, Nat.reduceAdd, Nat.reduceEqDiff, Int.reduceEq, Int.reduceLT, Int.reduceLE, Int.reduceNe, seqC, retC, skipC, exitC, blockC, condC, r44_1]
  refine hK .norm _ _ (C.seq ?_)
  refine C.block (C.loop (fun q tm' hx => ∃ i, q = es.length - i ∧ i ≤ es.length ∧ (∀ (k : Nat) e, k < i → es[k]? = some e → ltN e.key x) ∧ Keep nobody h2 hx ∧ tg tm' 2 = .pointer (some ⟨h.next, 0, none⟩) ∧ tg tm' 3 = .pointer (some ⟨h1.next, 0, none⟩) ∧ tg tm' 6 = .int .i64 (i : Int)) es.length hL
    ⟨0, rfl, by omega, (fun k e hk => by omega), .refl _ _, by simp only [↓opStep_eq, ↓reduceIte, ↓EW, EV, Nat.reduceAdd, Nat.reduceEqDiff, Int.reduceEq, Int.reduceLT, Int.reduceLE, Int.reduceNe, seqC, retC, skipC, exitC, blockC, condC], by simp only [↓opStep_eq, ↓reduceIte, ↓EW, EV, Nat.reduceAdd, Nat.reduceEqDiff, Int.reduceEq, Int.reduceLT, Int.reduceLE, Int.reduceNe, seqC, retC, skipC, exitC, blockC, condC], by simp only [↓opStep_eq, ↓reduceIte, ↓EW, EV, Nat.reduceAdd, Nat.reduceEqDiff, Int.reduceEq, Int.reduceLT, Int.reduceLE, Int.reduceNe, seqC, retC, skipC, exitC, blockC, condC] <;> rfl⟩ ?_)
  rintro q tm hx ⟨i, rfl, hi, hlo, kx, t2, t3, t6⟩
  unfold l44_4
  have kr := kx.then (keep_room hx 15)
  have c1 := b1.keep0 kr
  have c2 := b2.keep0 kr
  have ar := ((a.keep0 k02).keep0 kr)
  have ld1 : ∀ s, loadOne (⟨hx.objs, hx.next + 15⟩ : H) (.pointer (some ⟨h.next, 0, s⟩)) = some v := fun s => by rw [loadOne_has c1 rfl]; rfl
  have ld2 : ∀ s, loadAgg 2 (⟨hx.objs, hx.next + 15⟩ : H) (.pointer (some ⟨h1.next, 0, s⟩)) = some x.v := fun s => loadAgg_has c2 rfl (by simp)
  by_cases g : i < es.length
  · obtain ⟨e, he⟩ : ∃ e, es[i]? = some e := ⟨es[i]'g, List.getElem?_eq_getElem g⟩
    obtain ⟨b, ix, la, lx⟩ := ar.at he
    refine C.seq (C.seq fun K hK => ?_)
    have g' : (i : Int) < (es.length : Int) := by omega
    simp only [↓opStep_eq, ↓reduceIte, ↓EW, EV, Nat.reduceAdd, Nat.reduceEqDiff, Int.reduceEq, Int.reduceLT, Int.reduceLE, Int.reduceNe, seqC, retC, skipC, exitC, blockC, condC, r44_2, t2, t3, t6, ld1, ld2, ar.len, g', dt, isB_true, ite2_true, ix, la]
    refine less_all L n e.key x _ _ fun r h3 hq => ?_
    obtain ⟨rfl, k3⟩ := hq
    refine hK _ _ _ (C.cond (decide (ltN e.key x)) (by simp only [↓opStep_eq, ↓reduceIte, ↓EW, EV, Nat.reduceAdd, Nat.reduceEqDiff, Int.reduceEq, Int.reduceLT, Int.reduceLE, Int.reduceNe, seqC, retC, skipC, exitC, blockC, condC]) (fun gl => C.skip ?_) fun gl => C.exit ?_)
    · refine C.block fun K hK => ?_
      have w := wadd1 i (by omega)
      simp only [↓opStep_eq, ↓reduceIte, ↓EW, EV, Nat.reduceAdd, Nat.reduceEqDiff, Int.reduceEq, Int.reduceLT, Int.reduceLE, Int.reduceNe, seqC, retC, skipC, exitC, blockC, condC, r44_3, t6, w]
      refine hK _ _ _ ⟨es.length - (i + 1), by omega, i + 1, rfl, by omega, fun k e' hk hk' => ?_, kr.then k3, by simp only [↓opStep_eq, ↓reduceIte, ↓EW, EV, Nat.reduceAdd, Nat.reduceEqDiff, Int.reduceEq, Int.reduceLT, Int.reduceLE, Int.reduceNe, seqC, retC, skipC, exitC, blockC, condC, t2], by simp only [↓opStep_eq, ↓reduceIte, ↓EW, EV, Nat.reduceAdd, Nat.reduceEqDiff, Int.reduceEq, Int.reduceLT, Int.reduceLE, Int.reduceNe, seqC, retC, skipC, exitC, blockC, condC, t3], by simp only [↓opStep_eq, ↓reduceIte, ↓EW, EV, Nat.reduceAdd, Nat.reduceEqDiff, Int.reduceEq, Int.reduceLT, Int.reduceLE, Int.reduceNe, seqC, retC, skipC, exitC, blockC, condC]⟩
      by_cases e0 : k = i
      · subst e0; rw [he] at hk'; cases hk'; exact of_decide_eq_true gl
      · exact hlo k e' (by omega) hk'
    · simp only [if_pos]
      -- behind the loop, at an entry
      have kr2 := (kr.then k3).then (keep_room h3 18)
      have d1 := b1.keep0 kr2
      have d2 := b2.keep0 kr2
      have ar2 := ((a.keep0 k02).keep0 kr2)
      have le1 : ∀ s, loadOne (⟨h3.objs, h3.next + 18⟩ : H) (.pointer (some ⟨h.next, 0, s⟩)) = some v := fun s => by rw [loadOne_has d1 rfl]; rfl
      have le2 : ∀ s, loadAgg 2 (⟨h3.objs, h3.next + 18⟩ : H) (.pointer (some ⟨h1.next, 0, s⟩)) = some (nameV x.1 x.2) := fun s => loadAgg_has d2 rfl (by simp)
      obtain ⟨b', ix2, la2, _⟩ := ar2.at he
      refine C.seq fun K hK => ?_
      simp only [↓opStep_eq, ↓reduceIte, ↓EW, EV, Nat.reduceAdd, Nat.reduceEqDiff, Int.reduceEq, Int.reduceLT, Int.reduceLE, Int.reduceNe, seqC, retC, skipC, exitC, blockC, condC, r44_4, t2, t3, t6, le1, le2, ar2.len, g', dt, isB_true, ite2_true, ix2, la2, name_eql]
      refine hK _ _ _ (C.ret ⟨.inr rfl, _, rfl, i, decide (e.t = x.1 ∧ e.k = x.2), by simp only [↓opStep_eq, ↓reduceIte, ↓EW, EV, Nat.reduceAdd, Nat.reduceEqDiff, Int.reduceEq, Int.reduceLT, Int.reduceLE, Int.reduceNe, seqC, retC, skipC, exitC, blockC, condC, resOf, t6], ⟨by omega, hlo, fun e' he' => ?_, ?_⟩, k02.then kr2⟩)
      · rw [he] at he'; cases he'; exact of_decide_eq_false gl
      · rw [decide_eq_true_iff]
        exact ⟨fun h => ⟨e, he, Prod.ext h.1 h.2⟩, fun ⟨e', h1, h2⟩ => by rw [he] at h1; cases h1; rw [← h2]; exact ⟨rfl, rfl⟩⟩
  · have gi : i = es.length := by omega
    have g' : ¬ (i : Int) < (es.length : Int) := by omega
    refine C.seq (C.seq fun K hK => ?_)
    simp only [↓opStep_eq, ↓reduceIte, ↓EW, EV, Nat.reduceAdd, Nat.reduceEqDiff, Int.reduceEq, Int.reduceLT, Int.reduceLE, Int.reduceNe, seqC, retC, skipC, exitC, blockC, condC, r44_2, t2, t3, t6, ld1, ld2, ar.len, g', df, isB_true, ite2_false]
    refine hK _ _ _ (C.cond false (by simp only [↓opStep_eq, ↓reduceIte, ↓EW, EV, Nat.reduceAdd, Nat.reduceEqDiff, Int.reduceEq, Int.reduceLT, Int.reduceLE, Int.reduceNe, seqC, retC, skipC, exitC, blockC, condC]) (fun g => by cases g) fun _ => C.exit ?_)
    simp only [if_pos]
    have kr2 := kr.then (keep_room (⟨hx.objs, hx.next + 15⟩ : H) 18)
    have d1 := b1.keep0 kr2
    have d2 := b2.keep0 kr2
    have ar2 := ((a.keep0 k02).keep0 kr2)
    have le1 : ∀ s, loadOne (⟨hx.objs, hx.next + 15 + 18⟩ : H) (.pointer (some ⟨h.next, 0, s⟩)) = some v := fun s => by rw [loadOne_has d1 rfl]; rfl
    refine C.seq fun K hK => ?_
    simp only [↓opStep_eq, ↓reduceIte, ↓EW, EV, Nat.reduceAdd, Nat.reduceEqDiff, Int.reduceEq, Int.reduceLT, Int.reduceLE, Int.reduceNe, seqC, retC, skipC, exitC, blockC, condC, r44_4, t2, t3, t6, le1, ar2.len, g', df, isB_true, ite2_false]
    refine hK _ _ _ (C.ret ⟨.inr rfl, _, rfl, i, false, by simp only [↓opStep_eq, ↓reduceIte, ↓EW, EV, Nat.reduceAdd, Nat.reduceEqDiff, Int.reduceEq, Int.reduceLT, Int.reduceLE, Int.reduceNe, seqC, retC, skipC, exitC, blockC, condC, resOf, t6], ⟨by omega, hlo, fun e' he' => ?_, ?_⟩, k02.then kr2⟩)
    · rw [gi, List.getElem?_eq_none (by omega)] at he'; cases he'
    · constructor
      · intro h; cases h
      · rintro ⟨e', h1, _⟩
        rw [gi, List.getElem?_eq_none (by omega)] at h1; cases h1
end Go.Proofs.YtbdmhdidehfmoaaDoor

namespace Go.Proofs.YtbdmhdidehfmoaaDoor
open Go.Ev

theorem Rw.form {h : H} {v : Value} {es : List Ent} (a : Rw h v es) : ∃ p q c, v = .slice p q c := a.own.form
theorem la1 {h : H} {b : Nat} {v : Value} (a : Has h b (.rw [v])) (s) : loadAgg 1 h (.pointer (some ⟨b, 0, s⟩)) = some (.agg [v].toArray) := loadAgg_has a rfl (by simp)
theorem st1 {h : H} {b : Nat} {v : Value} (a : Has h b (.rw [v])) (p : Option Addr) (q c : Nat) (s) : storeV 1 h (.pointer (some ⟨b, 0, s⟩)) (.agg [.slice p q c].toArray) = some (h.put b (.rw [.slice p q c])) := store_has a rfl rfl rfl
theorem agg_v (p : Option Addr) (q c : Nat) : aggO (fill [(.slice none 0 0)] (plc [(0, 1)]) [(0, .slice p q c)]) = some (.agg [.slice p q c].toArray) := rfl

def GetD (es : List Ent) (x : Nm) (r : Value) : Prop := (¬ validN x.1 x.2 ∧ r = .tuple [.int .i64 0, .bool false, .int .i64 8].toArray) ∨
  (validN x.1 x.2 ∧ ∃ i is, FindR es x i is ∧ ((is = false ∧ r = .tuple [.int .i64 0, .bool false, .int .i64 0].toArray) ∨ ∃ e, is = true ∧ es[i]? = some e ∧ r = .tuple [.int .i64 e.x, .bool true, .int .i64 0].toArray))

theorem get31_law (L n : Nat) {h : H} {v : Value} {es : List Ent} (a : Rw h v es) (x : Nm) (hL : es.length < L) (hsz : es.length ≤ 1000000) :
    Sp (CF L (n + 3)) 31 [.agg [v].toArray, x.v] h fun r h' => GetD es x r ∧ Keep nobody h h' := by
  refine Sp.body f31 (by simp) ?_
  unfold c31
  have k1 := Keep.new h (.rw [v])
  have b1 := Has.new h (.rw [v])
  refine C.seq fun K hK => ?_
  simp only [↓opStep_eq, ↓reduceIte, ↓EW, EV, Nat.reduceAdd, Nat.reduceEqDiff, Int.reduceEq, Int.reduceLT, Int.reduceLE, Int.reduceNe, seqC, retC, skipC, exitC, blockC, condC, r31_0, agg1, cells2]
  generalize h.new (.rw [v]) = h1 at *
  have k2 := Keep.new h1 (.rw [.int .i64 x.1, .string x.2])
  have b2 := Has.new h1 (.rw [.int .i64 x.1, .string x.2])
  generalize h1.new (.rw [.int .i64 x.1, .string x.2]) = h2 at *
  have b1 := b1.keep0 k2
  have k02 := k1.then k2
  refine hK _ _ _ (C.seq (C.seq fun K hK => ?_))
  simp only [↓opStep_eq, ↓reduceIte, ↓EW, EV, Nat.reduceAdd, Nat.reduceEqDiff, Int.reduceEq, Int.reduceLT, Int.reduceLE, Int.reduceNe, seqC, retC, skipC, exitC, blockC, condC, r31_1, load2 b2]
  refine name43_law L n x.1 x.2 h2 _ fun r h3 hq => ?_
  obtain ⟨rfl, k3⟩ := hq
  simp only [↓opStep_eq, ↓reduceIte, ↓EW, EV, Nat.reduceAdd, Nat.reduceEqDiff, Int.reduceEq, Int.reduceLT, Int.reduceLE, Int.reduceNe, seqC, retC, skipC, exitC, blockC, condC]
  refine hK _ _ _ (C.cond (!decide (validN x.1 x.2)) (by simp only [↓opStep_eq, ↓reduceIte, ↓EW, EV, Nat.reduceAdd, Nat.reduceEqDiff, Int.reduceEq, Int.reduceLT, Int.reduceLE, Int.reduceNe, seqC, retC, skipC, exitC, blockC, condC]) (fun g => C.seq fun K hK => ?_) fun g => C.skip (C.seq fun K hK => ?_))
  · simp only [↓opStep_eq, ↓reduceIte, ↓EW, EV, Nat.reduceAdd, Nat.reduceEqDiff, Int.reduceEq, Int.reduceLT, Int.reduceLE, Int.reduceNe, seqC, retC, skipC, exitC, blockC, condC, r31_2]
    refine hK .norm _ _ (C.ret ⟨.inr rfl, _, rfl, .inl ⟨?_, by simp only [↓opStep_eq, ↓reduceIte, ↓EW, EV, Nat.reduceAdd, Nat.reduceEqDiff, Int.reduceEq, Int.reduceLT, Int.reduceLE, Int.reduceNe, seqC, retC, skipC, exitC, blockC, condC, resOf]⟩, k02.then k3⟩)
    rw [Bool.not_eq_true'] at g; exact of_decide_eq_false g
  · have hv : validN x.1 x.2 := by rw [Bool.not_eq_false'] at g; exact of_decide_eq_true g
    have k03 := k02.then k3
    simp only [↓opStep_eq, ↓reduceIte, ↓EW, EV, Nat.reduceAdd, Nat.reduceEqDiff, Int.reduceEq, Int.reduceLT, Int.reduceLE, Int.reduceNe, seqC, retC, skipC, exitC, blockC, condC, r31_3, la1 (b1.keep0 k3), load2 (b2.keep0 k3)]
    refine find44_law L n (a.keep0 k03) x hL hsz _ fun r h4 hq => ?_
    obtain ⟨i, is, rfl, fr, k4⟩ := hq
    have k04 := k03.then k4
    have d1 := (b1.keep0 k3).keep0 k4
    simp only [↓opStep_eq, ↓reduceIte, ↓EW, EV, Nat.reduceAdd, Nat.reduceEqDiff, Int.reduceEq, Int.reduceLT, Int.reduceLE, Int.reduceNe, seqC, retC, skipC, exitC, blockC, condC, tupNth_tuple]
    refine hK _ _ _ (C.seq (C.seq fun K hK => ?_))
    simp only [↓opStep_eq, ↓reduceIte, ↓EW, EV, Nat.reduceAdd, Nat.reduceEqDiff, Int.reduceEq, Int.reduceLT, Int.reduceLE, Int.reduceNe, seqC, retC, skipC, exitC, blockC, condC, r31_4]
    refine hK _ _ _ (C.cond (!is) (by simp only [↓opStep_eq, ↓reduceIte, ↓EW, EV, Nat.reduceAdd, Nat.reduceEqDiff, Int.reduceEq, Int.reduceLT, Int.reduceLE, Int.reduceNe, seqC, retC, skipC, exitC, blockC, condC]) (fun g => C.seq fun K hK => ?_) fun g => C.skip (C.seq fun K hK => ?_))
    · simp only [↓opStep_eq, ↓reduceIte, ↓EW, EV, Nat.reduceAdd, Nat.reduceEqDiff, Int.reduceEq, Int.reduceLT, Int.reduceLE, Int.reduceNe, seqC, retC, skipC, exitC, blockC, condC, r31_5]
      refine hK .norm _ _ (C.ret ⟨.inr rfl, _, rfl, .inr ⟨hv, i, is, fr, .inl ⟨by simpa using g, by simp only [↓opStep_eq, ↓reduceIte, ↓EW, EV, Nat.reduceAdd, Nat.reduceEqDiff, Int.reduceEq, Int.reduceLT, Int.reduceLE, Int.reduceNe, seqC, retC, skipC, exitC, blockC, condC, resOf]⟩⟩, k04⟩)
    · have hi : is = true := by simpa using g
      obtain ⟨e, he, _⟩ := fr.is.1 hi
      obtain ⟨b, ix, _, lx⟩ := (a.keep0 k04).at he
      have l0 : ∀ s, loadOne h4 (.pointer (some ⟨h.next, 0, s⟩)) = some v := fun s => by rw [loadOne_has d1 rfl]; rfl
      simp only [↓opStep_eq, ↓reduceIte, ↓EW, EV, Nat.reduceAdd, Nat.reduceEqDiff, Int.reduceEq, Int.reduceLT, Int.reduceLE, Int.reduceNe, seqC, retC, skipC, exitC, blockC, condC, r31_6, l0, ix, lx]
      exact hK _ _ _ (C.ret ⟨.inr rfl, _, rfl, .inr ⟨hv, i, is, fr, .inr ⟨e, hi, he, by simp only [↓opStep_eq, ↓reduceIte, ↓EW, EV, Nat.reduceAdd, Nat.reduceEqDiff, Int.reduceEq, Int.reduceLT, Int.reduceLE, Int.reduceNe, seqC, retC, skipC, exitC, blockC, condC, resOf]⟩⟩, k04⟩)

def PutD (es : List Ent) (x : Nm) (y : Int) (v : Value) (lo : Nat) (r : Value) (h' : H) : Prop := (¬ validN x.1 x.2 ∧ r = .tuple [.agg [v].toArray, .int .i64 8].toArray) ∨
  (validN x.1 x.2 ∧ ∃ i is v', FindR es x i is ∧ Rw h' v' (es.take i ++ ⟨x.1, x.2, y⟩ :: es.drop (if is = true then i + 1 else i)) ∧ (∀ c, blk v' c → lo ≤ c) ∧ r = .tuple [.agg [v'].toArray, .int .i64 0].toArray)

theorem mkE1 (b : Nat) (t : Int) (k : ByteArray) (y : Int) : mkLit 1 b (fill (repl [(.int .i64 (0)), (.string (strB [])), (.int .i64 (0))] 1) (pl 3) [(0, .agg [.int .i64 t, .string k, .int .i64 y].toArray)]) = some (.rw [.int .i64 t, .string k, .int .i64 y], .slice (some ⟨b, 0, none⟩) 1 1) := rfl
theorem aggE (t : Int) (k : ByteArray) (y : Int) : aggO (fill [(.int .i64 (0)), (.string (strB [])), (.int .i64 (0))] (plc [(0, 2), (2, 1)]) [(0, nameV t k), (1, .int .i64 y)]) = some (.agg [.int .i64 t, .string k, .int .i64 y].toArray) := rfl

theorem Rb.far {h : H} {lo : Nat} {v : Value} {es : List Ent} (a : Rb h lo v es) : ∀ c, blk v c → lo ≤ c := fun c hc => by
  rcases a with ⟨rfl, _⟩ | ⟨bb, cap, rfl, _, _, g⟩
  · rw [blk_nil] at hc; exact hc.elim
  · rw [blk_some] at hc; omega

theorem put33_law (L n : Nat) {h : H} {v : Value} {es : List Ent} (a : Rw h v es) (x : Nm) (y : Int) (hL : es.length < L) (hsz : es.length ≤ 100000) :
    Sp (CF L (n + 3)) 33 [.agg [v].toArray, x.v, .int .i64 y] h fun r h' => PutD es x y v h.next r h' ∧ Keep nobody h h' := by
  refine Sp.body f33 (by simp) ?_
  unfold c33
  obtain ⟨vp, vq, vc, rfl⟩ := a.form
  generalize hv0 : Value.slice vp vq vc = v at *
  have k1 := Keep.new h (.rw [v])
  have b1 := Has.new h (.rw [v])
  refine C.seq fun K hK => ?_
  simp only [↓opStep_eq, ↓reduceIte, ↓EW, EV, Nat.reduceAdd, Nat.reduceEqDiff, Int.reduceEq, Int.reduceLT, Int.reduceLE, Int.reduceNe, seqC, retC, skipC, exitC, blockC, condC, r33_0, agg1, cells2]
  generalize h.new (.rw [v]) = h1 at *
  have k2 := Keep.new h1 (.rw [.int .i64 x.1, .string x.2])
  have b2 := Has.new h1 (.rw [.int .i64 x.1, .string x.2])
  generalize h1.new (.rw [.int .i64 x.1, .string x.2]) = h2 at *
  have k3 := Keep.new h2 (.rw [.slice none 0 0])
  have b3 := Has.new h2 (.rw [.slice none 0 0])
  generalize h2.new (.rw [.slice none 0 0]) = h3 at *
  have b1 := (b1.keep0 k2).keep0 k3
  have b2 := b2.keep0 k3
  have k03 := (k1.then k2).then k3
  have hlo : h.next ≤ h2.next := (k1.then k2).next
  refine hK _ _ _ (C.seq (C.seq fun K hK => ?_))
  simp only [↓opStep_eq, ↓reduceIte, ↓EW, EV, Nat.reduceAdd, Nat.reduceEqDiff, Int.reduceEq, Int.reduceLT, Int.reduceLE, Int.reduceNe, seqC, retC, skipC, exitC, blockC, condC, r33_1, load2 b2]
  refine name43_law L n x.1 x.2 h3 _ fun r h4 hq => ?_
  obtain ⟨rfl, k4⟩ := hq
  have k04 := k03.then k4
  have b1 := b1.keep0 k4
  have b2 := b2.keep0 k4
  have b3 := b3.keep0 k4
  simp only [↓opStep_eq, ↓reduceIte, ↓EW, EV, Nat.reduceAdd, Nat.reduceEqDiff, Int.reduceEq, Int.reduceLT, Int.reduceLE, Int.reduceNe, seqC, retC, skipC, exitC, blockC, condC]
  refine hK _ _ _ (C.cond (!decide (validN x.1 x.2)) (by simp only [↓opStep_eq, ↓reduceIte, ↓EW, EV, Nat.reduceAdd, Nat.reduceEqDiff, Int.reduceEq, Int.reduceLT, Int.reduceLE, Int.reduceNe, seqC, retC, skipC, exitC, blockC, condC]) (fun g => C.seq fun K hK => ?_) fun g => C.skip (C.seq fun K hK => ?_))
  · subst hv0
    simp only [↓opStep_eq, ↓reduceIte, ↓EW, EV, Nat.reduceAdd, Nat.reduceEqDiff, Int.reduceEq, Int.reduceLT, Int.reduceLE, Int.reduceNe, seqC, retC, skipC, exitC, blockC, condC, r33_2, la1 b1, st1 b3]
    refine hK .norm _ _ (C.ret ⟨.inr rfl, [.agg [.slice vp vq vc].toArray, .int .i64 8], ?_, .inl ⟨?_, rfl⟩, k04.trans (Keep.put _ _ _) fun c hc e => by omega⟩)
    · simp only [q33, ↓opStep_eq, ↓reduceIte, ↓EW, EV, Nat.reduceAdd, Nat.reduceEqDiff, Int.reduceEq, Int.reduceLT, Int.reduceLE, Int.reduceNe, seqC, retC, skipC, exitC, blockC, condC]
      rw [la1 (Has.put b3.1)]
    · rw [Bool.not_eq_true'] at g; exact of_decide_eq_false g
  · have hv : validN x.1 x.2 := by rw [Bool.not_eq_false'] at g; exact of_decide_eq_true g
    simp only [↓opStep_eq, ↓reduceIte, ↓EW, EV, Nat.reduceAdd, Nat.reduceEqDiff, Int.reduceEq, Int.reduceLT, Int.reduceLE, Int.reduceNe, seqC, retC, skipC, exitC, blockC, condC, r33_3, la1 b1, load2 b2]
    refine find44_law L n (a.keep0 k04) x hL (by omega) _ fun r h5 hq => ?_
    obtain ⟨i, is, rfl, fr, k5⟩ := hq
    have k05 := k04.then k5
    have b1 := b1.keep0 k5
    have b2 := b2.keep0 k5
    have b3 := b3.keep0 k5
    simp only [↓opStep_eq, ↓reduceIte, ↓EW, EV, Nat.reduceAdd, Nat.reduceEqDiff, Int.reduceEq, Int.reduceLT, Int.reduceLE, Int.reduceNe, seqC, retC, skipC, exitC, blockC, condC, tupNth_tuple]
    refine hK _ _ _ (C.seq fun K hK => ?_)
    simp only [↓opStep_eq, ↓reduceIte, ↓EW, EV, Nat.reduceAdd, Nat.reduceEqDiff, Int.reduceEq, Int.reduceLT, Int.reduceLE, Int.reduceNe, seqC, retC, skipC, exitC, blockC, condC, r33_4]
    refine hK .norm _ _ (C.seq fun K hK => ?_)
    have l0 : ∀ hx, Keep nobody h5 hx → ∀ s, loadOne hx (.pointer (some ⟨h.next, 0, s⟩)) = some v := fun hx kx s => by rw [loadOne_has (b1.keep0 kx) rfl]; rfl
    obtain ⟨xp, sp, srcp⟩ := (a.keep0 k05).pre i fr.le
    obtain ⟨v6, h6, e6, rb6, kk6⟩ := Rb.app (h := h5) (lo := h5.next) (v := .slice none 0 0) (es := []) (.inl ⟨rfl, rfl⟩) srcp (Nat.le_refl _) (by simp; omega)
    have k56 : Keep nobody h5 h6 := kk6.mono fun c hc h => absurd h (by omega)
    rw [List.nil_append] at rb6
    simp only [↓opStep_eq, ↓reduceIte, ↓EW, EV, Nat.reduceAdd, Nat.reduceEqDiff, Int.reduceEq, Int.reduceLT, Int.reduceLE, Int.reduceNe, seqC, retC, skipC, exitC, blockC, condC, r33_5, l0 h5 (.refl _ _), sp, e6]
    refine hK _ _ _ (C.seq fun K hK => ?_)
    have k7 := Keep.new h6 (.rw [.int .i64 x.1, .string x.2, .int .i64 y])
    have b7 := Has.new h6 (.rw [.int .i64 x.1, .string x.2, .int .i64 y])
    have n7 : (h6.new (.rw [.int .i64 x.1, .string x.2, .int .i64 y])).next = h6.next + 1 := rfl
    simp only [↓opStep_eq, ↓reduceIte, ↓EW, EV, Nat.reduceAdd, Nat.reduceEqDiff, Int.reduceEq, Int.reduceLT, Int.reduceLE, Int.reduceNe, seqC, retC, skipC, exitC, blockC, condC, r33_6, load2 (b2.keep0 k56), aggE, mkE1]
    generalize h6.new (.rw [.int .i64 x.1, .string x.2, .int .i64 y]) = h7 at *
    have src1 : SrcE h7 (.slice (some ⟨h6.next, 0, none⟩) 1 1) [⟨x.1, x.2, y⟩] := ⟨rfl, by
      simp only [firstV]
      rw [row_has b7 rfl (by simp)]; rfl⟩
    obtain ⟨v8, h8, e8, rb8, kk8⟩ := (rb6.keep0 k7).app src1 (by have := k56.next; omega) (by simp; omega)
    have k58 : Keep nobody h5 h8 := (k56.then k7).trans kk8 fun c hc h => by omega
    simp only [↓opStep_eq, ↓reduceIte, ↓EW, EV, Nat.reduceAdd, Nat.reduceEqDiff, Int.reduceEq, Int.reduceLT, Int.reduceLE, Int.reduceNe, seqC, retC, skipC, exitC, blockC, condC, e8]
    refine hK _ _ _ (C.seq (C.seq fun K hK => ?_))
    simp only [↓opStep_eq, ↓reduceIte, ↓EW, EV, Nat.reduceAdd, Nat.reduceEqDiff, Int.reduceEq, Int.reduceLT, Int.reduceLE, Int.reduceNe, seqC, retC, skipC, exitC, blockC, condC, r33_7]
    have last : ∀ (j : Nat) (tm' : T Value), j ≤ es.length → (es.take i ++ [(⟨x.1, x.2, y⟩ : Ent)] ++ es.drop j).length ≤ 200000 → (if is = true then i + 1 else i) = j → tg tm' 3 = .pointer (some ⟨h.next, 0, none⟩) → tg tm' 6 = .pointer (some ⟨h2.next, 0, none⟩) → tg tm' 8 = .int .i64 (j : Int) → tg tm' 10 = v8 →
        C ⟨seqC ⟨r33_9⟩ retC⟩ (callF Tryd.prog (maskOf masks) outside NG L (n + 2)) L tm' h8 fun e tm h' => (e = .norm ∨ e = .ret) ∧ ∃ l, q33.f tm h' = some l ∧ PutD es x y v h.next (resOf l) h' ∧ Keep nobody h h' := fun j tm' hj hlen hji t3 t6 t8 t10 => by
      refine C.seq fun K hK => ?_
      obtain ⟨xs, ss, srcs⟩ := (a.keep0 (k05.then k58)).suf j hj
      obtain ⟨v9, h9, e9, rb9, kk9⟩ := rb8.app srcs (by have := k58.next; omega) (by rw [← List.length_append]; omega)
      have k59 : Keep nobody h5 h9 := k58.trans kk9 fun c hc h => by omega
      obtain ⟨p9, q9, c9, rfl⟩ := rb9.rw.form
      have b39 := b3.keep0 k59
      simp only [↓opStep_eq, ↓reduceIte, ↓EW, EV, Nat.reduceAdd, Nat.reduceEqDiff, Int.reduceEq, Int.reduceLT, Int.reduceLE, Int.reduceNe, seqC, retC, skipC, exitC, blockC, condC, r33_9, t3, t6, t8, t10, l0 h8 k58, ss, e9, agg_v, st1 b39]
      refine hK _ _ _ (C.ret ⟨.inr rfl, [.agg [.slice p9 q9 c9].toArray, .int .i64 0], ?_, .inr ⟨hv, i, is, .slice p9 q9 c9, fr, ?_, fun c hc => Nat.le_trans k05.next (rb9.far c hc), rfl⟩, (k05.then k59).trans (Keep.put _ _ _) fun c hc e => by omega⟩)
      · simp only [q33, ↓opStep_eq, ↓reduceIte, ↓EW, EV, Nat.reduceAdd, Nat.reduceEqDiff, Int.reduceEq, Int.reduceLT, Int.reduceLE, Int.reduceNe, seqC, retC, skipC, exitC, blockC, condC, t6]
        rw [la1 (Has.put b39.1)]
      · have := rb9.rw
        rw [hji]
        rw [List.append_assoc] at this
        rcases this with ⟨g1, g2⟩ | ⟨bb, cap, g1, g2, g3⟩
        · exact .inl ⟨g1, g2⟩
        · refine .inr ⟨bb, cap, g1, g2, g3.keep (Keep.put _ _ _) fun e => ?_⟩
          rcases rb9 with ⟨f1, _⟩ | ⟨bb2, cap2, f1, _, _, f4⟩
          · rw [f1] at g1; cases g1
          · rw [f1] at g1
            simp only [Value.slice.injEq, Option.some.injEq, Addr.mk.injEq] at g1
            have := b3.1
            have e : bb = h2.next := e
            omega
    refine hK _ _ _ (C.cond is (by simp only [↓opStep_eq, ↓reduceIte, ↓EW, EV, Nat.reduceAdd, Nat.reduceEqDiff, Int.reduceEq, Int.reduceLT, Int.reduceLE, Int.reduceNe, seqC, retC, skipC, exitC, blockC, condC]) (fun g => ?_) fun g => C.skip ?_)
    · intro K hK
      have w := wadd1 i (by have := fr.le; omega)
      simp only [↓opStep_eq, ↓reduceIte, ↓EW, EV, Nat.reduceAdd, Nat.reduceEqDiff, Int.reduceEq, Int.reduceLT, Int.reduceLE, Int.reduceNe, seqC, retC, skipC, exitC, blockC, condC, r33_8, w]
      have hlt : i < es.length := by
        obtain ⟨e, he, _⟩ := fr.is.1 g
        exact (List.getElem?_eq_some_iff.1 he).1
      exact hK .norm _ _ (last (i + 1) _ hlt (by simp only [List.length_append, List.length_take, List.length_drop, List.length_cons, List.length_nil]; omega) (by rw [if_pos g]) (by simp only [↓opStep_eq, ↓reduceIte, ↓EW, EV, Nat.reduceAdd, Nat.reduceEqDiff, Int.reduceEq, Int.reduceLT, Int.reduceLE, Int.reduceNe, seqC, retC, skipC, exitC, blockC, condC]) (by simp only [↓opStep_eq, ↓reduceIte, ↓EW, EV, Nat.reduceAdd, Nat.reduceEqDiff, Int.reduceEq, Int.reduceLT, Int.reduceLE, Int.reduceNe, seqC, retC, skipC, exitC, blockC, condC]) (by simp only [↓opStep_eq, ↓reduceIte, ↓EW, EV, Nat.reduceAdd, Nat.reduceEqDiff, Int.reduceEq, Int.reduceLT, Int.reduceLE, Int.reduceNe, seqC, retC, skipC, exitC, blockC, condC]) (by simp only [↓opStep_eq, ↓reduceIte, ↓EW, EV, Nat.reduceAdd, Nat.reduceEqDiff, Int.reduceEq, Int.reduceLT, Int.reduceLE, Int.reduceNe, seqC, retC, skipC, exitC, blockC, condC]))
    · exact last i _ fr.le (by simp only [List.length_append, List.length_take, List.length_drop, List.length_cons, List.length_nil]; omega) (by rw [g]; rfl) (by simp only [↓opStep_eq, ↓reduceIte, ↓EW, EV, Nat.reduceAdd, Nat.reduceEqDiff, Int.reduceEq, Int.reduceLT, Int.reduceLE, Int.reduceNe, seqC, retC, skipC, exitC, blockC, condC]) (by simp only [↓opStep_eq, ↓reduceIte, ↓EW, EV, Nat.reduceAdd, Nat.reduceEqDiff, Int.reduceEq, Int.reduceLT, Int.reduceLE, Int.reduceNe, seqC, retC, skipC, exitC, blockC, condC]) (by simp only [↓opStep_eq, ↓reduceIte, ↓EW, EV, Nat.reduceAdd, Nat.reduceEqDiff, Int.reduceEq, Int.reduceLT, Int.reduceLE, Int.reduceNe, seqC, retC, skipC, exitC, blockC, condC]) (by simp only [↓opStep_eq, ↓reduceIte, ↓EW, EV, Nat.reduceAdd, Nat.reduceEqDiff, Int.reduceEq, Int.reduceLT, Int.reduceLE, Int.reduceNe, seqC, retC, skipC, exitC, blockC, condC])
end Go.Proofs.YtbdmhdidehfmoaaDoor

namespace Go.Proofs.YtbdmhdidehfmoaaDoor
open Go.Ev

def DelD (es : List Ent) (x : Nm) (v : Value) (lo : Nat) (r : Value) (h' : H) : Prop := (¬ validN x.1 x.2 ∧ r = .tuple [.agg [v].toArray, .bool false, .int .i64 8].toArray) ∨
  (validN x.1 x.2 ∧ ∃ i is, FindR es x i is ∧ ((is = false ∧ r = .tuple [.agg [v].toArray, .bool false, .int .i64 0].toArray) ∨ (is = true ∧ ∃ v', Rw h' v' (es.take i ++ es.drop (i + 1)) ∧ (∀ c, blk v' c → lo ≤ c) ∧ r = .tuple [.agg [v'].toArray, .bool true, .int .i64 0].toArray)))

theorem Rb.put_low {h : H} {lo c : Nat} {v : Value} {es : List Ent} (a : Rb h lo v es) (x : AObj) (hc : c < lo) : Rw (h.put c x) v es := by
  rcases a with ⟨g1, g2⟩ | ⟨bb, cap, g1, g2, g3, g4⟩
  · exact .inl ⟨g1, g2⟩
  · exact .inr ⟨bb, cap, g1, g2, g3.keep (Keep.put _ _ _) fun e => by have e : bb = c := e; omega⟩

theorem del32_law (L n : Nat) {h : H} {v : Value} {es : List Ent} (a : Rw h v es) (x : Nm) (hL : es.length < L) (hsz : es.length ≤ 100000) :
    Sp (CF L (n + 3)) 32 [.agg [v].toArray, x.v] h fun r h' => DelD es x v h.next r h' ∧ Keep nobody h h' := by
  refine Sp.body f32 (by simp) ?_
  unfold c32
  obtain ⟨vp, vq, vc, rfl⟩ := a.form
  generalize hv0 : Value.slice vp vq vc = v at *
  have k1 := Keep.new h (.rw [v])
  have b1 := Has.new h (.rw [v])
  refine C.seq fun K hK => ?_
  simp only [↓opStep_eq, ↓reduceIte, ↓EW, EV, Nat.reduceAdd, Nat.reduceEqDiff, Int.reduceEq, Int.reduceLT, Int.reduceLE, Int.reduceNe, seqC, retC, skipC, exitC, blockC, condC, r32_0, agg1, cells2]
  generalize h.new (.rw [v]) = h1 at *
  have k2 := Keep.new h1 (.rw [.int .i64 x.1, .string x.2])
  have b2 := Has.new h1 (.rw [.int .i64 x.1, .string x.2])
  generalize h1.new (.rw [.int .i64 x.1, .string x.2]) = h2 at *
  have k3 := Keep.new h2 (.rw [.slice none 0 0])
  have b3 := Has.new h2 (.rw [.slice none 0 0])
  generalize h2.new (.rw [.slice none 0 0]) = h3 at *
  have b1 := (b1.keep0 k2).keep0 k3
  have b2 := b2.keep0 k3
  have k03 := (k1.then k2).then k3
  have hlo : h.next ≤ h2.next := (k1.then k2).next
  refine hK _ _ _ (C.seq (C.seq fun K hK => ?_))
  simp only [↓opStep_eq, ↓reduceIte, ↓EW, EV, Nat.reduceAdd, Nat.reduceEqDiff, Int.reduceEq, Int.reduceLT, Int.reduceLE, Int.reduceNe, seqC, retC, skipC, exitC, blockC, condC, r32_1, load2 b2]
  refine name43_law L n x.1 x.2 h3 _ fun r h4 hq => ?_
  obtain ⟨rfl, k4⟩ := hq
  have k04 := k03.then k4
  have b1 := b1.keep0 k4
  have b2 := b2.keep0 k4
  have b3 := b3.keep0 k4
  simp only [↓opStep_eq, ↓reduceIte, ↓EW, EV, Nat.reduceAdd, Nat.reduceEqDiff, Int.reduceEq, Int.reduceLT, Int.reduceLE, Int.reduceNe, seqC, retC, skipC, exitC, blockC, condC]
  refine hK _ _ _ (C.cond (!decide (validN x.1 x.2)) (by simp only [↓opStep_eq, ↓reduceIte, ↓EW, EV, Nat.reduceAdd, Nat.reduceEqDiff, Int.reduceEq, Int.reduceLT, Int.reduceLE, Int.reduceNe, seqC, retC, skipC, exitC, blockC, condC]) (fun g => C.seq fun K hK => ?_) fun g => C.skip (C.seq fun K hK => ?_))
  · subst hv0
    simp only [↓opStep_eq, ↓reduceIte, ↓EW, EV, Nat.reduceAdd, Nat.reduceEqDiff, Int.reduceEq, Int.reduceLT, Int.reduceLE, Int.reduceNe, seqC, retC, skipC, exitC, blockC, condC, r32_2, la1 b1, st1 b3]
    refine hK .norm _ _ (C.ret ⟨.inr rfl, [.agg [.slice vp vq vc].toArray, .bool false, .int .i64 8], ?_, .inl ⟨?_, rfl⟩, k04.trans (Keep.put _ _ _) fun c hc e => by omega⟩)
    · simp only [q32, ↓opStep_eq, ↓reduceIte, ↓EW, EV, Nat.reduceAdd, Nat.reduceEqDiff, Int.reduceEq, Int.reduceLT, Int.reduceLE, Int.reduceNe, seqC, retC, skipC, exitC, blockC, condC]
      rw [la1 (Has.put b3.1)]
    · rw [Bool.not_eq_true'] at g; exact of_decide_eq_false g
  · have hv : validN x.1 x.2 := by rw [Bool.not_eq_false'] at g; exact of_decide_eq_true g
    simp only [↓opStep_eq, ↓reduceIte, ↓EW, EV, Nat.reduceAdd, Nat.reduceEqDiff, Int.reduceEq, Int.reduceLT, Int.reduceLE, Int.reduceNe, seqC, retC, skipC, exitC, blockC, condC, r32_3, la1 b1, load2 b2]
    refine find44_law L n (a.keep0 k04) x hL (by omega) _ fun r h5 hq => ?_
    obtain ⟨i, is, rfl, fr, k5⟩ := hq
    have k05 := k04.then k5
    have b1 := b1.keep0 k5
    have b3 := b3.keep0 k5
    simp only [↓opStep_eq, ↓reduceIte, ↓EW, EV, Nat.reduceAdd, Nat.reduceEqDiff, Int.reduceEq, Int.reduceLT, Int.reduceLE, Int.reduceNe, seqC, retC, skipC, exitC, blockC, condC, tupNth_tuple]
    refine hK _ _ _ (C.seq (C.seq fun K hK => ?_))
    simp only [↓opStep_eq, ↓reduceIte, ↓EW, EV, Nat.reduceAdd, Nat.reduceEqDiff, Int.reduceEq, Int.reduceLT, Int.reduceLE, Int.reduceNe, seqC, retC, skipC, exitC, blockC, condC, r32_4]
    refine hK _ _ _ (C.cond (!is) (by simp only [↓opStep_eq, ↓reduceIte, ↓EW, EV, Nat.reduceAdd, Nat.reduceEqDiff, Int.reduceEq, Int.reduceLT, Int.reduceLE, Int.reduceNe, seqC, retC, skipC, exitC, blockC, condC]) (fun g => C.seq fun K hK => ?_) fun g => C.skip (C.seq fun K hK => ?_))
    · subst hv0
      simp only [↓opStep_eq, ↓reduceIte, ↓EW, EV, Nat.reduceAdd, Nat.reduceEqDiff, Int.reduceEq, Int.reduceLT, Int.reduceLE, Int.reduceNe, seqC, retC, skipC, exitC, blockC, condC, r32_5, la1 b1, st1 b3]
      refine hK .norm _ _ (C.ret ⟨.inr rfl, [.agg [.slice vp vq vc].toArray, .bool false, .int .i64 0], ?_, .inr ⟨hv, i, is, fr, .inl ⟨by simpa using g, rfl⟩⟩, k05.trans (Keep.put _ _ _) fun c hc e => by omega⟩)
      simp only [q32, ↓opStep_eq, ↓reduceIte, ↓EW, EV, Nat.reduceAdd, Nat.reduceEqDiff, Int.reduceEq, Int.reduceLT, Int.reduceLE, Int.reduceNe, seqC, retC, skipC, exitC, blockC, condC]
      rw [la1 (Has.put b3.1)]
    · have his : is = true := by simpa using g
      have hlt : i < es.length := by
        obtain ⟨e, he, _⟩ := fr.is.1 his
        exact (List.getElem?_eq_some_iff.1 he).1
      simp only [↓opStep_eq, ↓reduceIte, ↓EW, EV, Nat.reduceAdd, Nat.reduceEqDiff, Int.reduceEq, Int.reduceLT, Int.reduceLE, Int.reduceNe, seqC, retC, skipC, exitC, blockC, condC, r32_6]
      refine hK .norm _ _ (C.seq fun K hK => ?_)
      have l0 : ∀ hx, Keep nobody h5 hx → ∀ s, loadOne hx (.pointer (some ⟨h.next, 0, s⟩)) = some v := fun hx kx s => by rw [loadOne_has (b1.keep0 kx) rfl]; rfl
      obtain ⟨xp, sp, srcp⟩ := (a.keep0 k05).pre i fr.le
      obtain ⟨v6, h6, e6, rb6, kk6⟩ := Rb.app (h := h5) (lo := h5.next) (v := .slice none 0 0) (es := []) (.inl ⟨rfl, rfl⟩) srcp (Nat.le_refl _) (by simp; omega)
      have k56 : Keep nobody h5 h6 := kk6.mono fun c hc h => absurd h (by omega)
      rw [List.nil_append] at rb6
      simp only [↓opStep_eq, ↓reduceIte, ↓EW, EV, Nat.reduceAdd, Nat.reduceEqDiff, Int.reduceEq, Int.reduceLT, Int.reduceLE, Int.reduceNe, seqC, retC, skipC, exitC, blockC, condC, r32_7, l0 h5 (.refl _ _), sp, e6]
      refine hK _ _ _ (C.seq fun K hK => ?_)
      have w := wadd1 i (by omega)
      obtain ⟨xs, ss, srcs⟩ := (a.keep0 (k05.then k56)).suf (i + 1) hlt
      obtain ⟨v9, h9, e9, rb9, kk9⟩ := rb6.app srcs (by have := k56.next; omega) (by simp only [List.length_take, List.length_drop]; omega)
      have k59 : Keep nobody h5 h9 := k56.trans kk9 fun c hc h => by omega
      obtain ⟨p9, q9, c9, rfl⟩ := rb9.rw.form
      have b39 := b3.keep0 k59
      simp only [↓opStep_eq, ↓reduceIte, ↓EW, EV, Nat.reduceAdd, Nat.reduceEqDiff, Int.reduceEq, Int.reduceLT, Int.reduceLE, Int.reduceNe, seqC, retC, skipC, exitC, blockC, condC, r32_8, w, l0 h6 k56, ss, e9, agg_v, st1 b39]
      refine hK _ _ _ (C.ret ⟨.inr rfl, [.agg [.slice p9 q9 c9].toArray, .bool true, .int .i64 0], ?_, .inr ⟨hv, i, is, fr, .inr ⟨his, .slice p9 q9 c9, rb9.put_low _ b3.1, fun c hc => Nat.le_trans k05.next (rb9.far c hc), rfl⟩⟩, (k05.then k59).trans (Keep.put _ _ _) fun c hc e => by omega⟩)
      simp only [q32, ↓opStep_eq, ↓reduceIte, ↓EW, EV, Nat.reduceAdd, Nat.reduceEqDiff, Int.reduceEq, Int.reduceLT, Int.reduceLE, Int.reduceNe, seqC, retC, skipC, exitC, blockC, condC]
      rw [la1 (Has.put b39.1)]

/-! ### the plain law: both have the same entries -/
abbrev SortedE (es : List Ent) : Prop := es.Pairwise fun a b => ltN a.key b.key
structure Both (l es : List Ent) : Prop where
  pm : l.Perm es
  so : SortedE es

theorem FindR.parts {es : List Ent} {x : Nm} {i : Nat} {is : Bool} (f : FindR es x i is) (so : SortedE es) :
    (∀ e ∈ es.take i, ltN e.key x) ∧ (is = true → ∃ e, es.drop i = e :: es.drop (i + 1) ∧ es[i]? = some e ∧ e.key = x ∧ ∀ e' ∈ es.drop (i + 1), ltN x e'.key) ∧ (is = false → ∀ e ∈ es.drop i, ltN x e.key) := by
  refine ⟨fun e he => ?_, fun hi => ?_, fun hi e he => ?_⟩
  · obtain ⟨k, hk⟩ := List.getElem?_of_mem he
    rw [List.getElem?_take] at hk
    split at hk
    · rename_i h; exact f.lo k e h hk
    · cases hk
  · obtain ⟨e, he, hx⟩ := f.is.1 hi
    have hlt := (List.getElem?_eq_some_iff.1 he).1
    have hd : es.drop i = e :: es.drop (i + 1) := by
      rw [List.drop_eq_getElem_cons hlt, (List.getElem?_eq_some_iff.1 he).2]
    refine ⟨e, hd, he, hx, fun e' he' => ?_⟩
    have h1 : SortedE (es.drop i) := List.Pairwise.sublist (List.drop_sublist i es) so
    rw [hd] at h1
    rw [← hx]
    exact (List.pairwise_cons.1 h1).1 e' he'
  · have hgt : ∀ e, es[i]? = some e → ltN x e.key := fun e he => by
      rcases ltN_tot e.key x (fun h => by have := f.is.2 ⟨e, he, h⟩; rw [hi] at this; cases this) with h | h
      · exact absurd h (f.hi e he)
      · exact h
    cases hq : es[i]? with
    | none =>
      have : es.length ≤ i := List.getElem?_eq_none_iff.1 hq
      rw [List.drop_eq_nil_of_le this] at he; cases he
    | some e0 =>
      have hlt := (List.getElem?_eq_some_iff.1 hq).1
      have hd : es.drop i = e0 :: es.drop (i + 1) := by
        rw [List.drop_eq_getElem_cons hlt, (List.getElem?_eq_some_iff.1 hq).2]
      have h1 : SortedE (es.drop i) := List.Pairwise.sublist (List.drop_sublist i es) so
      rw [hd] at h1 he
      simp only [List.mem_cons] at he
      rcases he with rfl | he
      · exact hgt e hq
      · exact ltN_tr _ _ _ (hgt e0 hq) ((List.pairwise_cons.1 h1).1 e he)
theorem not_is_lt {e : Ent} {x : Nm} (h : ltN e.key x) : ¬ Is x.1 x.2 e := fun hm => by
  have : e.key = x := Prod.ext hm.1 hm.2
  rw [this] at h; exact ltN_irr _ h
theorem not_is_gt {e : Ent} {x : Nm} (h : ltN x e.key) : ¬ Is x.1 x.2 e := fun hm => by
  have : e.key = x := Prod.ext hm.1 hm.2
  rw [this] at h; exact ltN_irr _ h
theorem without_app (a b : List Ent) (t : Int) (k : ByteArray) : without (a ++ b) t k = without a t k ++ without b t k := by
  unfold without; rw [List.filter_append]
theorem FindR.without {es : List Ent} {x : Nm} {i : Nat} {is : Bool} (f : FindR es x i is) (so : SortedE es) : without es x.1 x.2 = es.take i ++ es.drop (if is = true then i + 1 else i) := by
  obtain ⟨h1, h2, h3⟩ := f.parts so
  conv => lhs; rw [← List.take_append_drop i es]
  rw [without_app, without_none fun e he => not_is_lt (h1 e he)]
  congr 1
  cases is with
  | true =>
    obtain ⟨e, hd, _, hx, hg⟩ := h2 rfl
    rw [if_pos rfl, hd]
    have : Is x.1 x.2 e := ⟨congrArg Prod.fst hx, congrArg Prod.snd hx⟩
    show List.filter _ (e :: es.drop (i + 1)) = _
    rw [List.filter_cons, if_neg (by simp [this])]
    exact without_none fun e he => not_is_gt (hg e he)
  | false =>
    rw [if_neg (by decide)]
    exact without_none fun e he => not_is_gt (h3 rfl e he)
theorem FindR.sorted {es : List Ent} {x : Nm} {i : Nat} {is : Bool} (f : FindR es x i is) (so : SortedE es) (y : Int) :
    SortedE (es.take i ++ ⟨x.1, x.2, y⟩ :: es.drop (if is = true then i + 1 else i)) ∧ SortedE (es.take i ++ es.drop (if is = true then i + 1 else i)) := by
  obtain ⟨h1, h2, h3⟩ := f.parts so
  have hgt : ∀ e ∈ es.drop (if is = true then i + 1 else i), ltN x e.key := by
    cases is with
    | true => obtain ⟨e, _, _, _, hg⟩ := h2 rfl; rw [if_pos rfl]; exact hg
    | false => rw [if_neg (by decide)]; exact h3 rfl
  have s1 : SortedE (es.take i) := List.Pairwise.sublist (List.take_sublist i es) so
  have s2 : SortedE (es.drop (if is = true then i + 1 else i)) := List.Pairwise.sublist (List.drop_sublist _ es) so
  refine ⟨?_, ?_⟩
  · rw [SortedE, List.pairwise_append, List.pairwise_cons]
    refine ⟨s1, ⟨fun e he => hgt e he, s2⟩, fun a ha b hb => ?_⟩
    simp only [List.mem_cons] at hb
    rcases hb with rfl | hb
    · exact h1 a ha
    · exact ltN_tr _ _ _ (h1 a ha) (hgt b hb)
  · rw [SortedE, List.pairwise_append]
    exact ⟨s1, s2, fun a ha b hb => ltN_tr _ _ _ (h1 a ha) (hgt b hb)⟩

theorem Both.put {l es : List Ent} (b : Both l es) {x : Nm} {i : Nat} {is : Bool} (f : FindR es x i is) (y : Int) : Both (⟨x.1, x.2, y⟩ :: without l x.1 x.2) (es.take i ++ ⟨x.1, x.2, y⟩ :: es.drop (if is = true then i + 1 else i)) := by
  refine ⟨?_, (f.sorted b.so y).1⟩
  have h1 : (without l x.1 x.2).Perm (es.take i ++ es.drop (if is = true then i + 1 else i)) := by
    rw [← f.without b.so]; exact b.pm.filter _
  exact (h1.cons _).trans List.perm_middle.symm
theorem Both.del {l es : List Ent} (b : Both l es) {x : Nm} {i : Nat} {is : Bool} (f : FindR es x i is) : Both (without l x.1 x.2) (es.take i ++ es.drop (if is = true then i + 1 else i)) := by
  refine ⟨?_, (f.sorted b.so 0).2⟩
  rw [← f.without b.so]; exact b.pm.filter _
theorem Both.get {l es : List Ent} (b : Both l es) {x : Nm} (hv : validN x.1 x.2) {r r' : Value} (g : GetQ l x.1 x.2 r) (d : GetD es x r') : r = r' := by
  rcases d with ⟨hn, _⟩ | ⟨_, i, is, f, d⟩
  · exact absurd hv hn
  · obtain ⟨h1, h2, h3⟩ := f.parts b.so
    rcases d with ⟨hi, rfl⟩ | ⟨e, hi, he, rfl⟩
    · rcases g with ⟨e, hm, his, rfl⟩ | ⟨_, rfl⟩
      · exfalso
        have hm := b.pm.mem_iff.1 hm
        rw [← List.take_append_drop i es, List.mem_append] at hm
        rcases hm with hm | hm
        · exact not_is_lt (h1 e hm) his
        · exact not_is_gt (h3 hi e hm) his
      · rfl
    · obtain ⟨e0, hd, he0, hx, hg⟩ := h2 hi
      rw [he] at he0; cases he0
      rcases g with ⟨e1, hm, his, rfl⟩ | ⟨no, _⟩
      · have hm := b.pm.mem_iff.1 hm
        rw [← List.take_append_drop i es, List.mem_append, hd] at hm
        simp only [List.mem_cons] at hm
        rcases hm with hm | rfl | hm
        · exact absurd his (not_is_lt (h1 e1 hm))
        · rfl
        · exact absurd his (not_is_gt (hg e1 hm))
      · exact absurd ⟨congrArg Prod.fst hx, congrArg Prod.snd hx⟩ (no e (b.pm.mem_iff.2 (List.mem_of_getElem? he)))
theorem Both.found {l es : List Ent} (b : Both l es) {x : Nm} {i : Nat} {is d : Bool} (f : FindR es x i is) (r : DelR l x.1 x.2 d) : d = is := by
  obtain ⟨h1, h2, h3⟩ := f.parts b.so
  cases is with
  | true =>
    obtain ⟨e0, hd, he0, hx, hg⟩ := h2 rfl
    rcases r with ⟨h, _⟩ | ⟨_, no⟩
    · exact h
    · exact absurd ⟨congrArg Prod.fst hx, congrArg Prod.snd hx⟩ (no e0 (b.pm.mem_iff.2 (List.mem_of_getElem? he0)))
  | false =>
    rcases r with ⟨_, e, hm, his⟩ | ⟨h, _⟩
    · exfalso
      have hm := b.pm.mem_iff.1 hm
      rw [← List.take_append_drop i es, List.mem_append] at hm
      rcases hm with hm | hm
      · exact not_is_lt (h1 e hm) his
      · exact not_is_gt (h3 rfl e hm) his
    · exact h
end Go.Proofs.YtbdmhdidehfmoaaDoor

namespace Go.Proofs.YtbdmhdidehfmoaaDoor
open Go.Ev

/-! ### names that may not be -/
theorem get_bad (L n N : Nat) {O : Nat → Tag} {h : H} {b : Nat} {l : List Ent} {m0 : Nat} (st : St N O h b l m0) {t : Int} {k : ByteArray} (hv : ¬ validN t k) :
    Sp (CF L (n + 5)) 13 [.pointer (some ⟨b, 0, none⟩), nameV t k] h fun r h' => Keep nobody h h' ∧ r = .tuple [.int .i64 0, .bool false, .int .i64 8].toArray := by
  refine Sp.body f13 (by simp) ?_
  unfold c13
  have k1 := Keep.new h (.rw [.int .i64 t, .string k])
  have b1 := Has.new h (.rw [.int .i64 t, .string k])
  have st1 := st.keep0 k1
  refine C.seq fun K hK => ?_
  simp only [↓opStep_eq, ↓reduceIte, ↓EW, EV, Nat.reduceAdd, Nat.reduceEqDiff, Int.reduceEq, Int.reduceLT, Int.reduceLE, Int.reduceNe, seqC, retC, skipC, exitC, blockC, condC, r13_0, cells_agg]
  generalize h.new (.rw [.int .i64 t, .string k]) = h1 at *
  refine hK _ _ _ (C.seq (C.seq fun K hK => ?_))
  obtain ⟨_, _, _, _, _, _, hb, ob⟩ := st1.has
  simp only [↓opStep_eq, ↓reduceIte, ↓EW, EV, Nat.reduceAdd, Nat.reduceEqDiff, Int.reduceEq, Int.reduceLT, Int.reduceLE, Int.reduceNe, seqC, retC, skipC, exitC, blockC, condC, r13_1, load2 b1]
  refine asked_law L (n + 3) hb t k _ fun r h2 hq => ?_
  obtain ⟨rfl, k2⟩ := hq
  rw [if_neg hv]
  refine hK _ _ _ (C.seq fun K hK => ?_)
  simp only [↓opStep_eq, ↓reduceIte, ↓EW, EV, Nat.reduceAdd, Nat.reduceEqDiff, Int.reduceEq, Int.reduceLT, Int.reduceLE, Int.reduceNe, seqC, retC, skipC, exitC, blockC, condC, Bool.true_or, Bool.false_or, Bool.or_true, Bool.or_false, Bool.true_and, Bool.false_and, Bool.and_true, Bool.and_false, r13_2]
  refine hK _ _ _ (C.cond true (by simp only [↓opStep_eq, ↓reduceIte, ↓EW, EV, Nat.reduceAdd, Nat.reduceEqDiff, Int.reduceEq, Int.reduceLT, Int.reduceLE, Int.reduceNe, seqC, retC, skipC, exitC, blockC, condC]) (fun _ => C.seq fun K hK => ?_) fun g => by cases g)
  simp only [↓opStep_eq, ↓reduceIte, ↓EW, EV, Nat.reduceAdd, Nat.reduceEqDiff, Int.reduceEq, Int.reduceLT, Int.reduceLE, Int.reduceNe, seqC, retC, skipC, exitC, blockC, condC, r13_3]
  exact hK .norm _ _ (C.ret ⟨.inr rfl, _, rfl, k1.then k2, by simp only [↓opStep_eq, ↓reduceIte, ↓EW, EV, Nat.reduceAdd, Nat.reduceEqDiff, Int.reduceEq, Int.reduceLT, Int.reduceLE, Int.reduceNe, seqC, retC, skipC, exitC, blockC, condC, resOf]⟩)
theorem put_bad (L n N : Nat) {O : Nat → Tag} {h : H} {b : Nat} {l : List Ent} {m0 : Nat} (st : St N O h b l m0) {t : Int} {k : ByteArray} (hv : ¬ validN t k) (x : Int) :
    Sp (CF L (n + 5)) 11 [.pointer (some ⟨b, 0, none⟩), nameV t k, .int .i64 x] h fun r h' => Keep nobody h h' ∧ r = .int .i64 8 := by
  refine Sp.body f11 (by simp) ?_
  unfold c11
  have k1 := Keep.new h (.rw [.int .i64 t, .string k])
  have b1 := Has.new h (.rw [.int .i64 t, .string k])
  have st1 := st.keep0 k1
  refine C.seq fun K hK => ?_
  simp only [↓opStep_eq, ↓reduceIte, ↓EW, EV, Nat.reduceAdd, Nat.reduceEqDiff, Int.reduceEq, Int.reduceLT, Int.reduceLE, Int.reduceNe, seqC, retC, skipC, exitC, blockC, condC, r11_0, cells_agg]
  generalize h.new (.rw [.int .i64 t, .string k]) = h1 at *
  refine hK _ _ _ (C.seq (C.seq fun K hK => ?_))
  obtain ⟨_, _, _, _, _, _, hb, ob⟩ := st1.has
  simp only [↓opStep_eq, ↓reduceIte, ↓EW, EV, Nat.reduceAdd, Nat.reduceEqDiff, Int.reduceEq, Int.reduceLT, Int.reduceLE, Int.reduceNe, seqC, retC, skipC, exitC, blockC, condC, r11_1, load2 b1]
  refine asked_law L (n + 3) hb t k _ fun r h2 hq => ?_
  obtain ⟨rfl, k2⟩ := hq
  rw [if_neg hv]
  refine hK _ _ _ (C.seq fun K hK => ?_)
  simp only [↓opStep_eq, ↓reduceIte, ↓EW, EV, Nat.reduceAdd, Nat.reduceEqDiff, Int.reduceEq, Int.reduceLT, Int.reduceLE, Int.reduceNe, seqC, retC, skipC, exitC, blockC, condC, Bool.true_or, Bool.false_or, Bool.or_true, Bool.or_false, Bool.true_and, Bool.false_and, Bool.and_true, Bool.and_false, r11_2]
  refine hK _ _ _ (C.cond true (by simp only [↓opStep_eq, ↓reduceIte, ↓EW, EV, Nat.reduceAdd, Nat.reduceEqDiff, Int.reduceEq, Int.reduceLT, Int.reduceLE, Int.reduceNe, seqC, retC, skipC, exitC, blockC, condC]) (fun _ => C.seq fun K hK => ?_) fun g => by cases g)
  simp only [↓opStep_eq, ↓reduceIte, ↓EW, EV, Nat.reduceAdd, Nat.reduceEqDiff, Int.reduceEq, Int.reduceLT, Int.reduceLE, Int.reduceNe, seqC, retC, skipC, exitC, blockC, condC, r11_3]
  exact hK .norm _ _ (C.ret ⟨.inr rfl, _, rfl, k1.then k2, by simp only [↓opStep_eq, ↓reduceIte, ↓EW, EV, Nat.reduceAdd, Nat.reduceEqDiff, Int.reduceEq, Int.reduceLT, Int.reduceLE, Int.reduceNe, seqC, retC, skipC, exitC, blockC, condC, resOf]⟩)
theorem del_bad (L n N : Nat) {O : Nat → Tag} {h : H} {b : Nat} {l : List Ent} {m0 : Nat} (st : St N O h b l m0) {t : Int} {k : ByteArray} (hv : ¬ validN t k) :
    Sp (CF L (n + 5)) 10 [.pointer (some ⟨b, 0, none⟩), nameV t k] h fun r h' => Keep nobody h h' ∧ r = .tuple [.bool false, .int .i64 8].toArray := by
  refine Sp.body f10 (by simp) ?_
  unfold c10
  have k1 := Keep.new h (.rw [.int .i64 t, .string k])
  have b1 := Has.new h (.rw [.int .i64 t, .string k])
  have st1 := st.keep0 k1
  refine C.seq fun K hK => ?_
  simp only [↓opStep_eq, ↓reduceIte, ↓EW, EV, Nat.reduceAdd, Nat.reduceEqDiff, Int.reduceEq, Int.reduceLT, Int.reduceLE, Int.reduceNe, seqC, retC, skipC, exitC, blockC, condC, r10_0, cells_agg]
  generalize h.new (.rw [.int .i64 t, .string k]) = h1 at *
  refine hK _ _ _ (C.seq (C.seq fun K hK => ?_))
  obtain ⟨_, _, _, _, _, _, hb, ob⟩ := st1.has
  simp only [↓opStep_eq, ↓reduceIte, ↓EW, EV, Nat.reduceAdd, Nat.reduceEqDiff, Int.reduceEq, Int.reduceLT, Int.reduceLE, Int.reduceNe, seqC, retC, skipC, exitC, blockC, condC, r10_1, load2 b1]
  refine asked_law L (n + 3) hb t k _ fun r h2 hq => ?_
  obtain ⟨rfl, k2⟩ := hq
  rw [if_neg hv]
  refine hK _ _ _ (C.seq fun K hK => ?_)
  simp only [↓opStep_eq, ↓reduceIte, ↓EW, EV, Nat.reduceAdd, Nat.reduceEqDiff, Int.reduceEq, Int.reduceLT, Int.reduceLE, Int.reduceNe, seqC, retC, skipC, exitC, blockC, condC, Bool.true_or, Bool.false_or, Bool.or_true, Bool.or_false, Bool.true_and, Bool.false_and, Bool.and_true, Bool.and_false, r10_2]
  refine hK _ _ _ (C.cond true (by simp only [↓opStep_eq, ↓reduceIte, ↓EW, EV, Nat.reduceAdd, Nat.reduceEqDiff, Int.reduceEq, Int.reduceLT, Int.reduceLE, Int.reduceNe, seqC, retC, skipC, exitC, blockC, condC]) (fun _ => C.seq fun K hK => ?_) fun g => by cases g)
  simp only [↓opStep_eq, ↓reduceIte, ↓EW, EV, Nat.reduceAdd, Nat.reduceEqDiff, Int.reduceEq, Int.reduceLT, Int.reduceLE, Int.reduceNe, seqC, retC, skipC, exitC, blockC, condC, r10_3]
  exact hK .norm _ _ (C.ret ⟨.inr rfl, _, rfl, k1.then k2, by simp only [↓opStep_eq, ↓reduceIte, ↓EW, EV, Nat.reduceAdd, Nat.reduceEqDiff, Int.reduceEq, Int.reduceLT, Int.reduceLE, Int.reduceNe, seqC, retC, skipC, exitC, blockC, condC, resOf]⟩)

theorem bool_eql : ∀ (a : Bool), binV Tryd.prog .eql 4 false (.bool a) (.bool a) = some (.bool true)
  | true => by kernel_rfl
  | false => by kernel_rfl

/-! ### a call, of both -/
structure Sb (N : Nat) (O : Nat → Tag) (h : H) (b : Nat) (l : List Ent) (m : Nat) (v : Value) (es : List Ent) : Prop where
  st : St N O h b l m
  mv : m ≤ 4
  rw : Rw h v es
  ot : ∀ c, blk v c → O c = .other
  bo : Both l es

theorem Rw.lt {h : H} {v : Value} {es : List Ent} (a : Rw h v es) {c : Nat} (hc : blk v c) : c < h.next := by
  rcases a with ⟨rfl, _⟩ | ⟨bb, cap, rfl, _, g, _⟩
  · rw [blk_nil] at hc; exact hc.elim
  · rw [blk_some] at hc; rw [← hc]; exact g
theorem Rw.keep {S : Nat → Prop} {h h' : H} {v : Value} {es : List Ent} (a : Rw h v es) (k : Keep S h h') (hn : ∀ c, blk v c → ¬ S c) : Rw h' v es := by
  rcases a with a | ⟨b, cap, e, c, hb⟩
  · exact .inl a
  · exact .inr ⟨b, cap, e, c, hb.keep k (hn b (by rw [e, blk_some]))⟩
theorem Sb.keep0 {N : Nat} {O : Nat → Tag} {h h' : H} {b : Nat} {l : List Ent} {m : Nat} {v : Value} {es : List Ent} (s : Sb N O h b l m v es) (k : Keep nobody h h') : Sb N O h' b l m v es :=
  ⟨s.st.keep0 k, s.mv, s.rw.keep0 k, s.ot, s.bo⟩
theorem Fr.rw {O O' : Nat → Tag} {h h' : H} (fr : Fr O h O' h') {v : Value} {es : List Ent} (a : Rw h v es) (ot : ∀ c, blk v c → O c = .other) : Rw h' v es ∧ ∀ c, blk v c → O' c = .other :=
  ⟨a.keep fr.keep fun c hc hn => hn (ot c hc), fun c hc => fr.same c (a.lt hc) (ot c hc)⟩

def doV (kd : Nat) (t : Int) (k : ByteArray) (x : Int) : Value := .agg [.int .u8 (kd : Int), .int .i64 t, .string k, .int .i64 x].toArray
theorem cells4 (kd : Nat) (t : Int) (k : ByteArray) (x : Int) : (Value.cells (doV kd t k x)).toList = [.int .u8 (kd : Int), .int .i64 t, .string k, .int .i64 x] := by simp [doV]

theorem r18_5_eq {call : CallT} {L : Nat} {tm : T Value} {h : H} {K : KE} {b4 b6 : Nat} {p : Option Addr} {q c : Nat} {w : Value} {n e : Int} {i : Bool} (h4 : Has h b4 (.rw [.slice p q c])) (h6 : Has h b6 (.rw [w]))
    (t4 : tg tm 4 = .pointer (some ⟨b4, 0, none⟩)) (t6 : tg tm 6 = .pointer (some ⟨b6, 0, none⟩)) (t8 : tg tm 8 = .int .i64 n) (t11 : tg tm 11 = .int .i64 n) (t9 : tg tm 9 = .bool i) (t12 : tg tm 12 = .bool i) (t10 : tg tm 10 = .int .i64 e) (t13 : tg tm 13 = .int .i64 e) :
    r18_5 call L tm [] h K = K .norm (T.set tm 7 (.bool true)) [] (h.put b6 (.rw [.slice p q c])) := by
  simp only [↓opStep_eq, ↓reduceIte, ↓EW, EV, Nat.reduceAdd, Nat.reduceEqDiff, Int.reduceEq, Int.reduceLT, Int.reduceLE, Int.reduceNe, seqC, retC, skipC, exitC, blockC, condC, Bool.true_or, Bool.false_or, Bool.or_true, Bool.or_false, Bool.true_and, Bool.false_and, Bool.and_true, Bool.and_false, r18_5, t4, t6, t8, t11, t9, t12, t10, t13, la1 h4, bool_eql, st1 h6]
theorem r18_9_eq {call : CallT} {L : Nat} {tm : T Value} {h : H} {K : KE} {b4 b6 : Nat} {p : Option Addr} {q c : Nat} {w : Value} {e : Int} {i : Bool} (h4 : Has h b4 (.rw [.slice p q c])) (h6 : Has h b6 (.rw [w]))
    (t16 : tg tm 16 = .pointer (some ⟨b4, 0, none⟩)) (t6 : tg tm 6 = .pointer (some ⟨b6, 0, none⟩)) (t14 : tg tm 14 = .bool i) (t17 : tg tm 17 = .bool i) (t15 : tg tm 15 = .int .i64 e) (t18 : tg tm 18 = .int .i64 e) :
    r18_9 call L tm [] h K = K .norm (T.set tm 7 (.bool true)) [] (h.put b6 (.rw [.slice p q c])) := by
  simp only [↓opStep_eq, ↓reduceIte, ↓EW, EV, Nat.reduceAdd, Nat.reduceEqDiff, Int.reduceEq, Int.reduceLT, Int.reduceLE, Int.reduceNe, seqC, retC, skipC, exitC, blockC, condC, Bool.true_or, Bool.false_or, Bool.or_true, Bool.or_false, Bool.true_and, Bool.false_and, Bool.and_true, Bool.and_false, r18_9, t16, t6, t14, t17, t15, t18, la1 h4, bool_eql, st1 h6]
end Go.Proofs.YtbdmhdidehfmoaaDoor
