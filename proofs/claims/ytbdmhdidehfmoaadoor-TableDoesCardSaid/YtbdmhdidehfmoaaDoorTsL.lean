import Derived.Test.YtbdmhdidehfmoaaDoorTsI
set_option linter.unusedSimpArgs false
set_option linter.unusedVariables false
namespace Go.Proofs.YtbdmhdidehfmoaaDoor
open Go.Ev

/-! ### SortFunc -/
section
variable {L B : Nat} {cv : Value} {lt : Nm → Nm → Prop} {Ok : H → Prop}
theorem sort_law {m n : Nat} {v : Value} {f : Nat → Nm} {h : H} (en : Env L B v cv n 0 n lt Ok f h) (arr : Arr h B v n f) :
    Sp (CF L (m + 26)) 26 [v, cv] h fun r h' => ∃ f', Arr h' B v n f' ∧ Sw 0 n f f' ∧ Sorted lt f' 0 n ∧ Keep (· = B) h h' := by
  have hN := en.hN
  refine Sp.body f26 (by simp) ?_
  unfold c26
  have ti : toInt .u64 (.int .i64 (n : Int)) = some (.int .u64 (n : Int)) := by
    rw [toInt_int, wrap_eq] <;> simp [IntKind.min, IntKind.max, IntKind.bits, IntKind.signed] <;> omega
  refine C.seq fun K hK => ?_
  simp only [↓opStep_eq, ↓reduceIte, ↓EW, EV, Nat.reduceAdd, Nat.reduceEqDiff, Int.reduceEq, Int.reduceLT, Int.reduceLE, Int.reduceNe, seqC, retC, skipC, exitC, blockC, condC, r26_0, arr.len]
  refine hK _ _ _ fun K hK => ?_
  simp only [↓opStep_eq, ↓reduceIte, ↓EW, EV, Nat.reduceAdd, Nat.reduceEqDiff, Int.reduceEq, Int.reduceLT, Int.reduceLE, Int.reduceNe, seqC, retC, skipC, exitC, blockC, condC, r26_1, ti]
  refine len_bits L (m + 23) n (by omega) h _ fun r h1 hq => ?_
  obtain ⟨t, rfl, e1, e2, k1⟩ := hq
  have z : Value.int .i64 0 = .int .i64 ((0 : Nat) : Int) := rfl
  have hd : n - 0 < 2 ^ 16 := by
    have : (2 : Nat) ^ 16 = 65536 := by decide
    omega
  rw [z]
  have en1 : Env L B v cv n 0 n lt Ok f h1 := { en with ok := en.cm.stay0 k1 en.ok }
  refine pdq_law 16 (M := m) en1 (arr.keep0 k1) (Nat.zero_le _) hd _ fun r h2 hq => ?_
  obtain ⟨f2, arr2, sw2, so2, k2⟩ := hq
  exact hK _ _ _ ⟨.inl rfl, _, rfl, f2, arr2, sw2, so2, (k1.mono fun _ _ h => h.elim).trans k2 fun _ _ h => h⟩

/-- of nothing -/
theorem insertion_nil (m : Nat) (v : Value) (h : H) (hL : 10 < L) : Sp (CF L (m + 1)) 46 [v, .int .i64 0, .int .i64 0, cv] h fun r h' => Keep nobody h h' := by
  refine Sp.body f46 (by simp) ?_
  unfold c46
  have w : IntKind.i64.wrap (0 + 1) = 1 := by decide
  refine C.seq fun K hK => ?_
  simp only [↓opStep_eq, ↓reduceIte, ↓EW, EV, Nat.reduceAdd, Nat.reduceEqDiff, Int.reduceEq, Int.reduceLT, Int.reduceLE, Int.reduceNe, seqC, retC, skipC, exitC, blockC, condC, r46_0, w]
  refine hK .norm _ _ ?_
  refine C.block (C.loop (fun k tm' hx => k = 0 ∧ hx = h ∧ tg tm' 8 = .int .i64 1 ∧ tg tm' 2 = .int .i64 0) 0 (by omega) ⟨rfl, rfl, by simp only [↓opStep_eq, ↓reduceIte, ↓EW, EV, Nat.reduceAdd, Nat.reduceEqDiff, Int.reduceEq, Int.reduceLT, Int.reduceLE, Int.reduceNe, seqC, retC, skipC, exitC, blockC, condC], by simp only [↓opStep_eq, ↓reduceIte, ↓EW, EV, Nat.reduceAdd, Nat.reduceEqDiff, Int.reduceEq, Int.reduceLT, Int.reduceLE, Int.reduceNe, seqC, retC, skipC, exitC, blockC, condC]⟩ ?_)
  rintro k tm hx ⟨rfl, rfl, t8, t2⟩
  unfold l46_8
  refine C.seq (C.seq fun K hK => ?_)
  simp only [↓opStep_eq, ↓reduceIte, ↓EW, EV, Nat.reduceAdd, Nat.reduceEqDiff, Int.reduceEq, Int.reduceLT, Int.reduceLE, Int.reduceNe, seqC, retC, skipC, exitC, blockC, condC, r46_1, t8, t2]
  refine hK _ _ _ (C.cond false (by simp only [↓opStep_eq, ↓reduceIte, ↓EW, EV, Nat.reduceAdd, Nat.reduceEqDiff, Int.reduceEq, Int.reduceLT, Int.reduceLE, Int.reduceNe, seqC, retC, skipC, exitC, blockC, condC]) (fun g => by cases g) fun g => C.exit ?_)
  simp only [if_pos]
  exact ⟨(by first | exact .inl rfl | exact .inl trivial), _, rfl, .refl _ _⟩
theorem sort_nil (m : Nat) (h : H) (hL : 10 < L) : Sp (CF L (m + 4)) 26 [.slice none 0 0, cv] h fun r h' => Keep nobody h h' := by
  refine Sp.body f26 (by simp) ?_
  unfold c26
  have ti : toInt .u64 (.int .i64 ((0 : Nat) : Int)) = some (.int .u64 ((0 : Nat) : Int)) := rfl
  have ls : lenSl (.slice none 0 0) = some (.int .i64 ((0 : Nat) : Int)) := rfl
  refine C.seq fun K hK => ?_
  simp only [↓opStep_eq, ↓reduceIte, ↓EW, EV, Nat.reduceAdd, Nat.reduceEqDiff, Int.reduceEq, Int.reduceLT, Int.reduceLE, Int.reduceNe, seqC, retC, skipC, exitC, blockC, condC, r26_0, ls]
  refine hK _ _ _ fun K hK => ?_
  simp only [↓opStep_eq, ↓reduceIte, ↓EW, EV, Nat.reduceAdd, Nat.reduceEqDiff, Int.reduceEq, Int.reduceLT, Int.reduceLE, Int.reduceNe, seqC, retC, skipC, exitC, blockC, condC, r26_1, ti]
  refine len_bits L (m + 1) 0 (by decide) h _ fun r h1 hq => ?_
  obtain ⟨t, rfl, e1, e2, k1⟩ := hq
  have pdq : Sp (CF L (m + 3)) 39 [.slice none 0 0, .int .i64 0, .int .i64 ((0 : Nat) : Int), .int .i64 (t : Int), cv] h1 fun r h' => Keep nobody h1 h' := by
    refine Sp.body f39 (by simp) ?_
    unfold c39
    refine C.seq fun K hK => hK .norm _ _ (C.seq fun K hK => hK .norm _ _ ?_)
    refine C.block (C.loop (fun k tm' hx => k = 0 ∧ hx = h1 ∧ tg tm' 0 = .slice none 0 0 ∧ tg tm' 1 = .int .i64 0 ∧ tg tm' 2 = .int .i64 0 ∧ tg tm' 4 = cv) 0 (by omega)
      ⟨rfl, rfl, by simp only [↓opStep_eq, ↓reduceIte, ↓EW, EV, Nat.reduceAdd, Nat.reduceEqDiff, Int.reduceEq, Int.reduceLT, Int.reduceLE, Int.reduceNe, seqC, retC, skipC, exitC, blockC, condC], by simp only [↓opStep_eq, ↓reduceIte, ↓EW, EV, Nat.reduceAdd, Nat.reduceEqDiff, Int.reduceEq, Int.reduceLT, Int.reduceLE, Int.reduceNe, seqC, retC, skipC, exitC, blockC, condC], by simp only [↓opStep_eq, ↓reduceIte, ↓EW, EV, Nat.reduceAdd, Nat.reduceEqDiff, Int.reduceEq, Int.reduceLT, Int.reduceLE, Int.reduceNe, seqC, retC, skipC, exitC, blockC, condC] <;> rfl, by simp only [↓opStep_eq, ↓reduceIte, ↓EW, EV, Nat.reduceAdd, Nat.reduceEqDiff, Int.reduceEq, Int.reduceLT, Int.reduceLE, Int.reduceNe, seqC, retC, skipC, exitC, blockC, condC]⟩ ?_)
    rintro k tm hx ⟨rfl, rfl, t0, t1, t2, t4⟩
    unfold l39_31
    have w : IntKind.i64.wrap (0 - 0) = 0 := by decide
    refine C.block (C.seq fun K hK => ?_)
    simp only [↓opStep_eq, ↓reduceIte, ↓EW, EV, Nat.reduceAdd, Nat.reduceEqDiff, Int.reduceEq, Int.reduceLT, Int.reduceLE, Int.reduceNe, seqC, retC, skipC, exitC, blockC, condC, r39_2, t1, t2, w]
    refine hK _ _ _ (C.seq (C.seq fun K hK => ?_))
    simp only [↓opStep_eq, ↓reduceIte, ↓EW, EV, Nat.reduceAdd, Nat.reduceEqDiff, Int.reduceEq, Int.reduceLT, Int.reduceLE, Int.reduceNe, seqC, retC, skipC, exitC, blockC, condC, r39_3]
    refine hK _ _ _ (C.cond true (by simp only [↓opStep_eq, ↓reduceIte, ↓EW, EV, Nat.reduceAdd, Nat.reduceEqDiff, Int.reduceEq, Int.reduceLT, Int.reduceLE, Int.reduceNe, seqC, retC, skipC, exitC, blockC, condC]) (fun g => C.seq fun K hK => ?_) fun g => by cases g)
    simp only [↓opStep_eq, ↓reduceIte, ↓EW, EV, Nat.reduceAdd, Nat.reduceEqDiff, Int.reduceEq, Int.reduceLT, Int.reduceLE, Int.reduceNe, seqC, retC, skipC, exitC, blockC, condC, r39_4, t0, t1, t2, t4]
    refine insertion_nil (cv := cv) (m + 1) _ _ hL _ fun r h2 hq => ?_
    exact hK _ _ _ (C.ret ⟨.inr rfl, _, rfl, hq⟩)
  refine pdq _ fun r h2 k2 => ?_
  exact hK _ _ _ ⟨.inl rfl, _, rfl, k1.then k2⟩
end

/-! ### the order of names -/
theorem ltB_irr : ∀ l, ltB l l = false
  | [] => rfl
  | a :: l => by simp only [ltB, Nat.beq_refl]; exact ltB_irr l
theorem ltB_cons (a b : UInt8) (x y : List UInt8) : ltB (a :: x) (b :: y) = if a = b then ltB x y else decide (a < b) := by
  simp only [ltB]
  by_cases h : a = b
  · subst h; rw [Nat.beq_refl, if_pos rfl]
  · have h1 : Nat.beq a.toNat b.toNat = false := by
      rw [Bool.eq_false_iff]; intro e; exact h (UInt8.toNat_inj.1 (Nat.eq_of_beq_eq_true e))
    rw [h1, if_neg h]
    show Nat.ble (a.toNat + 1) b.toNat = decide (a < b)
    by_cases h2 : a < b
    · rw [decide_eq_true h2]; exact Nat.ble_eq_true_of_le (UInt8.lt_iff_toNat_lt.1 h2)
    · rw [decide_eq_false h2, Bool.eq_false_iff]; intro e; exact h2 (UInt8.lt_iff_toNat_lt.2 (Nat.le_of_ble_eq_true e))
theorem ltB_tr : ∀ x y z, ltB x y = true → ltB y z = true → ltB x z = true
  | [], [], z, h, _ => by cases h
  | [], _ :: _, [], _, h => by cases h
  | [], _ :: _, _ :: _, _, _ => rfl
  | _ :: _, [], _, h, _ => by cases h
  | _ :: _, _ :: _, [], _, h => by cases h
  | a :: x, b :: y, c :: z, h1, h2 => by
    rw [ltB_cons] at h1 h2 ⊢
    by_cases e1 : a = b
    · subst e1
      rw [if_pos rfl] at h1
      by_cases e2 : a = c
      · subst e2; rw [if_pos rfl] at h2 ⊢; exact ltB_tr x y z h1 h2
      · rw [if_neg e2] at h2 ⊢; exact h2
    · rw [if_neg e1] at h1
      have h1 := of_decide_eq_true h1
      by_cases e2 : b = c
      · subst e2; rw [if_neg e1]; exact decide_eq_true h1
      · rw [if_neg e2] at h2
        have h2 := of_decide_eq_true h2
        have h3 := UInt8.lt_trans h1 h2
        rw [if_neg (UInt8.ne_of_lt h3)]; exact decide_eq_true h3
theorem ltB_tot : ∀ x y, x ≠ y → ltB x y = true ∨ ltB y x = true
  | [], [], h => absurd rfl h
  | [], _ :: _, _ => .inl rfl
  | _ :: _, [], _ => .inr rfl
  | a :: x, b :: y, h => by
    rw [ltB_cons, ltB_cons]
    by_cases e : a = b
    · subst e
      rw [if_pos rfl, if_pos rfl]
      exact ltB_tot x y fun h' => h (by rw [h'])
    · rw [if_neg e, if_neg fun h => e h.symm]
      by_cases h2 : a < b
      · exact .inl (decide_eq_true h2)
      · exact .inr (decide_eq_true (UInt8.lt_of_le_of_ne (UInt8.not_lt.1 h2) fun h => e h.symm))
theorem cmp_ltB : ∀ x y, (Go.Lib.compareBytes x y < 0 ↔ ltB x y = true) ∧ (Go.Lib.compareBytes x y = 0 ↔ x = y)
  | [], [] => by simp [Go.Lib.compareBytes, ltB]
  | [], _ :: _ => by simp [Go.Lib.compareBytes, ltB]
  | _ :: _, [] => by simp [Go.Lib.compareBytes, ltB]
  | a :: x, b :: y => by
    have ih := cmp_ltB x y
    rw [ltB_cons]
    unfold Go.Lib.compareBytes
    by_cases e : a = b
    · subst e
      rw [if_neg (UInt8.lt_irrefl a), if_neg (UInt8.lt_irrefl a), if_pos rfl]
      refine ⟨ih.1, ih.2.trans ⟨fun h => by rw [h], fun h => by injection h⟩⟩
    · rw [if_neg e]
      by_cases h2 : a < b
      · rw [if_pos h2, decide_eq_true h2]
        refine ⟨by decide, ⟨fun h => absurd h (by decide), fun h => by injection h with h; exact absurd h e⟩⟩
      · have h3 : b < a := UInt8.lt_of_le_of_ne (UInt8.not_lt.1 h2) fun h => e h.symm
        rw [if_neg h2, if_pos h3, decide_eq_false h2]
        refine ⟨by decide, ⟨fun h => absurd h (by decide), fun h => by injection h with h; exact absurd h e⟩⟩

def ltN (x y : Nm) : Prop := x.1 < y.1 ∨ (x.1 = y.1 ∧ ltB x.2.data.toList y.2.data.toList = true)
theorem ltN_irr (x : Nm) : ¬ ltN x x := fun h => by
  rcases h with h | ⟨_, h⟩
  · omega
  · rw [ltB_irr] at h; cases h
theorem ltN_tr (x y z : Nm) (h1 : ltN x y) (h2 : ltN y z) : ltN x z := by
  rcases h1 with h1 | ⟨e1, h1⟩
  · rcases h2 with h2 | ⟨e2, h2⟩
    · exact .inl (by omega)
    · exact .inl (by omega)
  · rcases h2 with h2 | ⟨e2, h2⟩
    · exact .inl (by omega)
    · exact .inr ⟨e1.trans e2, ltB_tr _ _ _ h1 h2⟩
theorem ltN_tot (x y : Nm) (h : x ≠ y) : ltN x y ∨ ltN y x := by
  by_cases e : x.1 = y.1
  · have hk : x.2.data.toList ≠ y.2.data.toList := fun he => h (Prod.ext e ((bytes_eq _ _).1 he))
    rcases ltB_tot _ _ hk with g | g
    · exact .inl (.inr ⟨e, g⟩)
    · exact .inr (.inr ⟨e.symm, g⟩)
  · by_cases g : x.1 < y.1
    · exact .inl (.inl g)
    · exact .inr (.inl (by omega))

/-! ### the comparing function -/
theorem nan_law (L n : Nat) (x : Int) (h : H) : Sp (CF L (n + 1)) 41 [.int .i64 x] h fun r h' => r = .bool false ∧ h' = h := by
  refine Sp.body f41 (by simp) ?_
  unfold c41
  refine C.seq fun K hK => hK .norm _ _ (C.seq fun K hK => ?_)
  simp only [↓opStep_eq, ↓reduceIte, ↓EW, EV, Nat.reduceAdd, Nat.reduceEqDiff, Int.reduceEq, Int.reduceLT, Int.reduceLE, Int.reduceNe, seqC, retC, skipC, exitC, blockC, condC, r41_1]
  exact hK _ _ _ (C.ret ⟨.inr rfl, _, rfl, by simp only [↓opStep_eq, ↓reduceIte, ↓EW, EV, Nat.reduceAdd, Nat.reduceEqDiff, Int.reduceEq, Int.reduceLT, Int.reduceLE, Int.reduceNe, seqC, retC, skipC, exitC, blockC, condC, resOf], rfl⟩)
def cmpI (x y : Int) : Int := if x < y then -1 else if y < x then 1 else 0
theorem compare_law (L n : Nat) (x y : Int) (h : H) : Sp (CF L (n + 2)) 29 [.int .i64 x, .int .i64 y] h fun r h' => r = .int .i64 (cmpI x y) ∧ h' = h := by
  refine Sp.body f29 (by simp) ?_
  unfold c29
  refine C.seq fun K hK => hK .norm _ _ (C.seq fun K hK => ?_)
  simp only [↓opStep_eq, ↓reduceIte, ↓EW, EV, Nat.reduceAdd, Nat.reduceEqDiff, Int.reduceEq, Int.reduceLT, Int.reduceLE, Int.reduceNe, seqC, retC, skipC, exitC, blockC, condC, r29_1]
  refine nan_law L n x h _ fun r h1 hq => ?_
  obtain ⟨rfl, rfl⟩ := hq
  refine hK _ _ _ (C.seq fun K hK => ?_)
  simp only [↓opStep_eq, ↓reduceIte, ↓EW, EV, Nat.reduceAdd, Nat.reduceEqDiff, Int.reduceEq, Int.reduceLT, Int.reduceLE, Int.reduceNe, seqC, retC, skipC, exitC, blockC, condC, r29_2]
  refine nan_law L n y _ _ fun r h1 hq => ?_
  obtain ⟨rfl, rfl⟩ := hq
  refine hK _ _ _ (C.seq (C.seq fun K hK => ?_))
  simp only [↓opStep_eq, ↓reduceIte, ↓EW, EV, Nat.reduceAdd, Nat.reduceEqDiff, Int.reduceEq, Int.reduceLT, Int.reduceLE, Int.reduceNe, seqC, retC, skipC, exitC, blockC, condC, r29_3]
  refine hK _ _ _ (C.cond false (by simp only [↓opStep_eq, ↓reduceIte, ↓EW, EV, Nat.reduceAdd, Nat.reduceEqDiff, Int.reduceEq, Int.reduceLT, Int.reduceLE, Int.reduceNe, seqC, retC, skipC, exitC, blockC, condC]) (fun g => by cases g) fun g => C.skip (C.seq (C.seq fun K hK => ?_)))
  simp only [↓opStep_eq, ↓reduceIte, ↓EW, EV, Nat.reduceAdd, Nat.reduceEqDiff, Int.reduceEq, Int.reduceLT, Int.reduceLE, Int.reduceNe, seqC, retC, skipC, exitC, blockC, condC, r29_7]
  refine hK _ _ _ (C.cond false (by simp only [↓opStep_eq, ↓reduceIte, ↓EW, EV, Nat.reduceAdd, Nat.reduceEqDiff, Int.reduceEq, Int.reduceLT, Int.reduceLE, Int.reduceNe, seqC, retC, skipC, exitC, blockC, condC]) (fun g => by cases g) fun g => C.skip (C.seq (C.seq fun K hK => ?_)))
  simp only [↓opStep_eq, ↓reduceIte, ↓EW, EV, Nat.reduceAdd, Nat.reduceEqDiff, Int.reduceEq, Int.reduceLT, Int.reduceLE, Int.reduceNe, seqC, retC, skipC, exitC, blockC, condC, r29_9]
  refine hK _ _ _ (C.cond (decide (x < y)) (by simp only [↓opStep_eq, ↓reduceIte, ↓EW, EV, Nat.reduceAdd, Nat.reduceEqDiff, Int.reduceEq, Int.reduceLT, Int.reduceLE, Int.reduceNe, seqC, retC, skipC, exitC, blockC, condC]) (fun g => C.seq fun K hK => hK .norm _ _ (C.ret ⟨.inr rfl, _, rfl, ?_, rfl⟩)) fun g => C.skip (C.seq (C.seq fun K hK => ?_)))
  · have g := of_decide_eq_true g
    simp only [↓opStep_eq, ↓reduceIte, ↓EW, EV, Nat.reduceAdd, Nat.reduceEqDiff, Int.reduceEq, Int.reduceLT, Int.reduceLE, Int.reduceNe, seqC, retC, skipC, exitC, blockC, condC, resOf, cmpI, if_pos g]
  · have g := of_decide_eq_false g
    simp only [↓opStep_eq, ↓reduceIte, ↓EW, EV, Nat.reduceAdd, Nat.reduceEqDiff, Int.reduceEq, Int.reduceLT, Int.reduceLE, Int.reduceNe, seqC, retC, skipC, exitC, blockC, condC, r29_11]
    refine hK _ _ _ (C.cond (decide (y < x)) (by simp only [↓opStep_eq, ↓reduceIte, ↓EW, EV, Nat.reduceAdd, Nat.reduceEqDiff, Int.reduceEq, Int.reduceLT, Int.reduceLE, Int.reduceNe, seqC, retC, skipC, exitC, blockC, condC]) (fun g2 => C.seq fun K hK => hK .norm _ _ (C.ret ⟨.inr rfl, _, rfl, ?_, rfl⟩)) fun g2 => C.skip (C.seq fun K hK => hK .norm _ _ (C.ret ⟨.inr rfl, _, rfl, ?_, rfl⟩)))
    · have g2 := of_decide_eq_true g2
      simp only [↓opStep_eq, ↓reduceIte, ↓EW, EV, Nat.reduceAdd, Nat.reduceEqDiff, Int.reduceEq, Int.reduceLT, Int.reduceLE, Int.reduceNe, seqC, retC, skipC, exitC, blockC, condC, resOf, cmpI, if_neg g, if_pos g2]
    · have g2 := of_decide_eq_false g2
      simp only [↓opStep_eq, ↓reduceIte, ↓EW, EV, Nat.reduceAdd, Nat.reduceEqDiff, Int.reduceEq, Int.reduceLT, Int.reduceLE, Int.reduceNe, seqC, retC, skipC, exitC, blockC, condC, resOf, cmpI, if_neg g, if_neg g2]

theorem f56 : funcB Tryd.prog (maskOf masks) outside NG 56 = ⟨fun _ _ args h K => xK (xVal .cmp args) h K⟩ := by kernel_rfl
theorem cmpstr_law (L n : Nat) (x y : ByteArray) (h : H) : Sp (CF L (n + 1)) 56 [.string x, .string y] h fun r h' => r = .int .i64 (Go.Lib.compareBytes x.data.toList y.data.toList) ∧ h' = h := fun K hK => by
  show (funcB Tryd.prog (maskOf masks) outside NG 56).f _ L [.string x, .string y] h K = true
  rw [f56]
  exact hK _ _ ⟨by rw [← Go.Lib.cmp_eq], rfl⟩
theorem strings_law (L n : Nat) (x y : ByteArray) (h : H) : Sp (CF L (n + 3)) 30 [.string x, .string y] h fun r h' => r = .int .i64 (Go.Lib.compareBytes x.data.toList y.data.toList) ∧ h' = h := by
  have in42 : Sp (CF L (n + 2)) 42 [.string x, .string y] h fun r h' => r = .int .i64 (Go.Lib.compareBytes x.data.toList y.data.toList) ∧ h' = h := by
    refine Sp.body f42 (by simp) ?_
    unfold c42
    refine C.seq fun K hK => hK .norm _ _ (C.seq fun K hK => ?_)
    simp only [↓opStep_eq, ↓reduceIte, ↓EW, EV, Nat.reduceAdd, Nat.reduceEqDiff, Int.reduceEq, Int.reduceLT, Int.reduceLE, Int.reduceNe, seqC, retC, skipC, exitC, blockC, condC, r42_1]
    refine cmpstr_law L n x y h _ fun r h1 hq => ?_
    obtain ⟨rfl, rfl⟩ := hq
    exact hK _ _ _ (C.ret ⟨.inr rfl, _, rfl, by simp only [↓opStep_eq, ↓reduceIte, ↓EW, EV, Nat.reduceAdd, Nat.reduceEqDiff, Int.reduceEq, Int.reduceLT, Int.reduceLE, Int.reduceNe, seqC, retC, skipC, exitC, blockC, condC, resOf], rfl⟩)
  refine Sp.body f30 (by simp) ?_
  unfold c30
  refine C.seq fun K hK => hK .norm _ _ (C.seq fun K hK => ?_)
  simp only [↓opStep_eq, ↓reduceIte, ↓EW, EV, Nat.reduceAdd, Nat.reduceEqDiff, Int.reduceEq, Int.reduceLT, Int.reduceLE, Int.reduceNe, seqC, retC, skipC, exitC, blockC, condC, r30_1]
  refine in42 _ fun r h1 hq => ?_
  obtain ⟨rfl, rfl⟩ := hq
  exact hK _ _ _ (C.ret ⟨.inr rfl, _, rfl, by simp only [↓opStep_eq, ↓reduceIte, ↓EW, EV, Nat.reduceAdd, Nat.reduceEqDiff, Int.reduceEq, Int.reduceLT, Int.reduceLE, Int.reduceNe, seqC, retC, skipC, exitC, blockC, condC, resOf], rfl⟩)
theorem lit2i (b : Nat) (x y : Int) : mkLit 2 b (fill (repl [(.int .i64 (0))] 2) (pl 1) [(0, .int .i64 x), (1, .int .i64 y)]) = some (.rw [.int .i64 x, .int .i64 y], .slice (some ⟨b, 0, none⟩) 2 2) := rfl
theorem or_law (L n : Nat) (x y : Int) {b : Nat} {h : H} (hb : Has h b (.rw [.int .i64 x, .int .i64 y])) (hL : 10 < L) : Sp (CF L (n + 1)) 28 [.slice (some ⟨b, 0, none⟩) 2 2] h fun r h' => r = .int .i64 (if x ≠ 0 then x else y) ∧ Keep nobody h h' := by
  refine Sp.body f28 (by simp) ?_
  unfold c28
  refine C.seq fun K hK => hK .norm _ _ (C.seq fun K hK => hK .norm _ _ (C.seq (C.seq fun K hK => ?_)))
  simp only [↓opStep_eq, ↓reduceIte, ↓EW, EV, Nat.reduceAdd, Nat.reduceEqDiff, Int.reduceEq, Int.reduceLT, Int.reduceLE, Int.reduceNe, seqC, retC, skipC, exitC, blockC, condC, r28_2, lenSl_slice]
  refine hK .norm _ _ ?_
  refine C.block (C.loop (fun k tm' hx => ∃ i, k = 2 - i ∧ i ≤ 2 ∧ hx = h ∧ tg tm' 3 = .int .i64 0 ∧ tg tm' 6 = .slice (some ⟨b, 0, none⟩) 2 2 ∧ tg tm' 7 = .int .i64 2 ∧ tg tm' 8 = .int .i64 (i : Int) ∧ (1 ≤ i → x = 0) ∧ (2 ≤ i → y = 0)) 2 (by omega)
    ⟨0, rfl, by omega, rfl, by simp only [↓opStep_eq, ↓reduceIte, ↓EW, EV, Nat.reduceAdd, Nat.reduceEqDiff, Int.reduceEq, Int.reduceLT, Int.reduceLE, Int.reduceNe, seqC, retC, skipC, exitC, blockC, condC], by simp only [↓opStep_eq, ↓reduceIte, ↓EW, EV, Nat.reduceAdd, Nat.reduceEqDiff, Int.reduceEq, Int.reduceLT, Int.reduceLE, Int.reduceNe, seqC, retC, skipC, exitC, blockC, condC], by simp only [↓opStep_eq, ↓reduceIte, ↓EW, EV, Nat.reduceAdd, Nat.reduceEqDiff, Int.reduceEq, Int.reduceLT, Int.reduceLE, Int.reduceNe, seqC, retC, skipC, exitC, blockC, condC] <;> rfl, by simp only [↓opStep_eq, ↓reduceIte, ↓EW, EV, Nat.reduceAdd, Nat.reduceEqDiff, Int.reduceEq, Int.reduceLT, Int.reduceLE, Int.reduceNe, seqC, retC, skipC, exitC, blockC, condC] <;> rfl, (fun h => by omega), (fun h => by omega)⟩ ?_)
  rintro k tm hx ⟨i, rfl, hi, rfl, t3, t6, t7, t8, z1, z2⟩
  unfold l28_8
  refine C.seq fun K hK => ?_
  simp only [↓opStep_eq, ↓reduceIte, ↓EW, EV, Nat.reduceAdd, Nat.reduceEqDiff, Int.reduceEq, Int.reduceLT, Int.reduceLE, Int.reduceNe, seqC, retC, skipC, exitC, blockC, condC, r28_3, t7, t8]
  refine hK _ _ _ (C.seq (C.cond (decide ((i : Int) < 2)) (by simp only [↓opStep_eq, ↓reduceIte, ↓EW, EV, Nat.reduceAdd, Nat.reduceEqDiff, Int.reduceEq, Int.reduceLT, Int.reduceLE, Int.reduceNe, seqC, retC, skipC, exitC, blockC, condC]) (fun g => C.skip ?_) fun g => C.exit ?_))
  · have g : i < 2 := by have := of_decide_eq_true g; omega
    have ix : indexSl 1 (.slice (some ⟨b, 0, none⟩) 2 2) (.int .i64 (i : Int)) = some (.pointer (some ⟨b, i, none⟩)) := by
      simp only [indexSl, asNat_nat, addOff]
      rw [Nat.ble_eq_true_of_le (by omega)]
      simp only [Nat.zero_add, Nat.mul_one]
    obtain ⟨z, hz, hzi⟩ : ∃ z : Int, [Value.int .i64 x, .int .i64 y][i]? = some (.int .i64 z) ∧ ((i = 0 ∧ z = x) ∨ (i = 1 ∧ z = y)) := by
      rcases i with _ | _ | i
      · exact ⟨x, rfl, .inl ⟨rfl, rfl⟩⟩
      · exact ⟨y, rfl, .inr ⟨rfl, rfl⟩⟩
      · omega
    have ld : loadOne hx (.pointer (some ⟨b, i, none⟩)) = some (.int .i64 z) := by rw [loadOne_has hb rfl]; exact hz
    refine C.seq (C.block (C.seq fun K hK => ?_))
    simp only [↓opStep_eq, ↓reduceIte, ↓EW, EV, Nat.reduceAdd, Nat.reduceEqDiff, Int.reduceEq, Int.reduceLT, Int.reduceLE, Int.reduceNe, seqC, retC, skipC, exitC, blockC, condC, r28_4, t6, t8, ix, ld]
    refine hK _ _ _ (C.seq fun K hK => ?_)
    simp only [↓opStep_eq, ↓reduceIte, ↓EW, EV, Nat.reduceAdd, Nat.reduceEqDiff, Int.reduceEq, Int.reduceLT, Int.reduceLE, Int.reduceNe, seqC, retC, skipC, exitC, blockC, condC, r28_5, t3]
    refine hK _ _ _ (C.cond (!decide (z = 0)) (by simp only [↓opStep_eq, ↓reduceIte, ↓EW, EV, Nat.reduceAdd, Nat.reduceEqDiff, Int.reduceEq, Int.reduceLT, Int.reduceLE, Int.reduceNe, seqC, retC, skipC, exitC, blockC, condC]) (fun g2 => C.seq fun K hK => hK .norm _ _ (C.ret ⟨.inr rfl, _, rfl, ?_, .refl _ _⟩)) fun g2 => C.skip fun K hK => ?_)
    · have g2 : z ≠ 0 := by rw [Bool.not_eq_true'] at g2; exact of_decide_eq_false g2
      simp only [↓opStep_eq, ↓reduceIte, ↓EW, EV, Nat.reduceAdd, Nat.reduceEqDiff, Int.reduceEq, Int.reduceLT, Int.reduceLE, Int.reduceNe, seqC, retC, skipC, exitC, blockC, condC, resOf]
      rcases hzi with ⟨rfl, rfl⟩ | ⟨rfl, rfl⟩
      · rw [if_pos g2]
      · rw [if_neg (by have := z1 (by omega); simpa using this)]
    · have g2 : z = 0 := by rw [Bool.not_eq_false'] at g2; exact of_decide_eq_true g2
      have w := wadd1 i (by omega)
      simp only [↓opStep_eq, ↓reduceIte, ↓EW, EV, Nat.reduceAdd, Nat.reduceEqDiff, Int.reduceEq, Int.reduceLT, Int.reduceLE, Int.reduceNe, seqC, retC, skipC, exitC, blockC, condC, r28_7, t8, w]
      refine hK _ _ _ ⟨2 - (i + 1), by omega, i + 1, rfl, by omega, rfl, by simp only [↓opStep_eq, ↓reduceIte, ↓EW, EV, Nat.reduceAdd, Nat.reduceEqDiff, Int.reduceEq, Int.reduceLT, Int.reduceLE, Int.reduceNe, seqC, retC, skipC, exitC, blockC, condC, t3], by simp only [↓opStep_eq, ↓reduceIte, ↓EW, EV, Nat.reduceAdd, Nat.reduceEqDiff, Int.reduceEq, Int.reduceLT, Int.reduceLE, Int.reduceNe, seqC, retC, skipC, exitC, blockC, condC, t6], by simp only [↓opStep_eq, ↓reduceIte, ↓EW, EV, Nat.reduceAdd, Nat.reduceEqDiff, Int.reduceEq, Int.reduceLT, Int.reduceLE, Int.reduceNe, seqC, retC, skipC, exitC, blockC, condC, t7], by simp only [↓opStep_eq, ↓reduceIte, ↓EW, EV, Nat.reduceAdd, Nat.reduceEqDiff, Int.reduceEq, Int.reduceLT, Int.reduceLE, Int.reduceNe, seqC, retC, skipC, exitC, blockC, condC], fun _ => ?_, fun h2 => ?_⟩
      · rcases hzi with ⟨rfl, rfl⟩ | ⟨rfl, rfl⟩
        · exact g2
        · exact z1 (by omega)
      · rcases hzi with ⟨rfl, rfl⟩ | ⟨rfl, rfl⟩
        · omega
        · exact g2
  · simp only [if_pos]
    have g : i = 2 := by have := of_decide_eq_false g; omega
    refine C.seq fun K hK => hK .norm _ _ (C.ret ⟨.inr rfl, _, rfl, ?_, .refl _ _⟩)
    have h1 := z1 (by omega)
    have h2 := z2 (by omega)
    simp only [↓opStep_eq, ↓reduceIte, ↓EW, EV, Nat.reduceAdd, Nat.reduceEqDiff, Int.reduceEq, Int.reduceLT, Int.reduceLE, Int.reduceNe, seqC, retC, skipC, exitC, blockC, condC, resOf, t3, h1, h2]
    try rfl
theorem veq_str (s : ByteArray) : veq 64 (.string s) (.string s) = true := by
  show leB s.data.toList s.data.toList = true
  rw [leB_eq]; simp
theorem hO_str (s : ByteArray) (b : Bool) : hO (some (.string s)) (.string s) b = b := by unfold hO; simp only [veq_str]

theorem or_ltN (x y : Nm) : (if cmpI x.1 y.1 ≠ 0 then cmpI x.1 y.1 else Go.Lib.compareBytes x.2.data.toList y.2.data.toList) < 0 ↔ ltN x y := by
  have hc := (cmp_ltB x.2.data.toList y.2.data.toList).1
  rcases Int.lt_trichotomy x.1 y.1 with h1 | h1 | h1
  · have e : cmpI x.1 y.1 = -1 := by unfold cmpI; rw [if_pos h1]
    rw [e, if_pos (by decide)]
    exact ⟨fun _ => .inl h1, fun _ => by decide⟩
  · have e : cmpI x.1 y.1 = 0 := by unfold cmpI; rw [if_neg (by omega), if_neg (by omega)]
    rw [e, if_neg (by decide), hc]
    exact ⟨fun h => .inr ⟨h1, h⟩, fun h => h.elim (fun h => by omega) fun h => h.2⟩
  · have e : cmpI x.1 y.1 = 1 := by unfold cmpI; rw [if_neg (by omega), if_pos h1]
    rw [e, if_pos (by decide)]
    exact ⟨fun h => absurd h (by decide), fun h => h.elim (fun h => by omega) fun h => by omega⟩
/-- the order that All sorts by -/
theorem less_law (L n : Nat) (hL : 10 < L) (x y : Nm) (h : H) : Sp (CF L (n + 4)) 27 [x.v, y.v] h fun r h' => ∃ c : Int, r = .int .i64 c ∧ (c < 0 ↔ ltN x y) ∧ Keep nobody h h' := by
  refine Sp.body f27 (by simp) ?_
  unfold c27
  refine C.seq fun K hK => ?_
  have k1 := Keep.new h (.rw [.int .i64 x.1, .string x.2])
  have b1 := Has.new h (.rw [.int .i64 x.1, .string x.2])
  have hcx : (Value.cells x.v).toList = [.int .i64 x.1, .string x.2] := by simp [Nm.v]
  have hcy : (Value.cells y.v).toList = [.int .i64 y.1, .string y.2] := by simp [Nm.v]
  simp only [↓opStep_eq, ↓reduceIte, ↓EW, EV, Nat.reduceAdd, Nat.reduceEqDiff, Int.reduceEq, Int.reduceLT, Int.reduceLE, Int.reduceNe, seqC, retC, skipC, exitC, blockC, condC, r27_0, hcx, hcy]
  generalize h.new (.rw [.int .i64 x.1, .string x.2]) = h1 at *
  have k2 := Keep.new h1 (.rw [.int .i64 y.1, .string y.2])
  have b2 := Has.new h1 (.rw [.int .i64 y.1, .string y.2])
  generalize h1.new (.rw [.int .i64 y.1, .string y.2]) = h2 at *
  have b1' := b1.keep0 k2
  refine hK _ _ _ (C.seq fun K hK => ?_)
  have kr := keep_room h2 13
  have l1 : ∀ hx, Keep nobody h2 hx → ∀ o s, loadOne hx (.pointer (some ⟨h.next, o, s⟩)) = [.int .i64 x.1, .string x.2][o]? := fun hx k o s => loadOne_has (b1'.keep0 k) rfl
  have l2 : ∀ hx, Keep nobody h2 hx → ∀ o s, loadOne hx (.pointer (some ⟨h1.next, o, s⟩)) = [.int .i64 y.1, .string y.2][o]? := fun hx k o s => loadOne_has (b2.keep0 k) rfl
  simp only [↓opStep_eq, ↓reduceIte, ↓EW, EV, Nat.reduceAdd, Nat.reduceEqDiff, Int.reduceEq, Int.reduceLT, Int.reduceLE, Int.reduceNe, seqC, retC, skipC, exitC, blockC, condC, r27_1, l1 _ kr, l2 _ kr]
  refine compare_law L (n + 1) x.1 y.1 _ _ fun r h3 hq => ?_
  obtain ⟨rfl, rfl⟩ := hq
  simp only [↓opStep_eq, ↓reduceIte, ↓EW, EV, Nat.reduceAdd, Nat.reduceEqDiff, Int.reduceEq, Int.reduceLT, Int.reduceLE, Int.reduceNe, seqC, retC, skipC, exitC, blockC, condC, l1 _ kr, l2 _ kr, hO_str]
  refine strings_law L n x.2 y.2 _ _ fun r h3 hq => ?_
  obtain ⟨rfl, rfl⟩ := hq
  simp only [↓opStep_eq, ↓reduceIte, ↓EW, EV, Nat.reduceAdd, Nat.reduceEqDiff, Int.reduceEq, Int.reduceLT, Int.reduceLE, Int.reduceNe, seqC, retC, skipC, exitC, blockC, condC, lit2i]
  have kp : Keep nobody h2 ((⟨h2.objs, h2.next + 13⟩ : H).put (h2.next + 10) (.rw [.int .i64 (cmpI x.1 y.1), .int .i64 (Go.Lib.compareBytes x.2.data.toList y.2.data.toList)])) := ⟨kr.next, fun c hc hn => ((Keep.put _ (h2.next + 10) _).same c (by show c < h2.next + 13; omega) (by omega)).trans (kr.same c hc hn)⟩
  have b6 : Has ((⟨h2.objs, h2.next + 13⟩ : H).put (h2.next + 10) (.rw [.int .i64 (cmpI x.1 y.1), .int .i64 (Go.Lib.compareBytes x.2.data.toList y.2.data.toList)])) (h2.next + 10) _ := Has.put (by show _ < h2.next + 13; omega)
  refine or_law L (n + 2) _ _ b6 hL _ fun r h4 hq => ?_
  obtain ⟨rfl, k4⟩ := hq
  refine hK _ _ _ (C.ret ⟨.inr rfl, _, rfl, (if cmpI x.1 y.1 ≠ 0 then cmpI x.1 y.1 else Go.Lib.compareBytes x.2.data.toList y.2.data.toList), by simp only [↓opStep_eq, ↓reduceIte, ↓EW, EV, Nat.reduceAdd, Nat.reduceEqDiff, Int.reduceEq, Int.reduceLT, Int.reduceLE, Int.reduceNe, seqC, retC, skipC, exitC, blockC, condC, resOf], ?_, ((k1.then k2).then kp).then k4⟩)
  exact or_ltN x y
theorem all_cm (L B : Nat) (hL : 10 < L) : Cm L B (.func (.func 27) #[] #[]) ltN (fun _ => True) :=
  ⟨fun _ _ _ _ => trivial, ⟨27, [], fun a b => rfl, fun n x y hx _ => less_law L n hL x y hx⟩, ltN_irr, ltN_tr, ltN_tot⟩
end Go.Proofs.YtbdmhdidehfmoaaDoor

namespace Go.Proofs.YtbdmhdidehfmoaaDoor
open Go.Ev

/-! ### names being gathered -/
def cellsN : List Nm → List Value
  | [] => []
  | x :: r => .int .i64 x.1 :: .string x.2 :: cellsN r
theorem cellsN_len : ∀ ns, (cellsN ns).length = 2 * ns.length
  | [] => rfl
  | x :: r => by simp [cellsN, cellsN_len r]; omega
theorem cellsN_append : ∀ a b, cellsN (a ++ b) = cellsN a ++ cellsN b
  | [], b => rfl
  | x :: r, b => by simp [cellsN, cellsN_append r b]
theorem cellsN_at : ∀ (ns : List Nm) (k : Nat) (x : Nm), ns[k]? = some x → (cellsN ns)[2 * k]? = some (.int .i64 x.1) ∧ (cellsN ns)[2 * k + 1]? = some (.string x.2)
  | [], k, x, h => by simp at h
  | y :: r, 0, x, h => by simp at h; subst h; exact ⟨rfl, rfl⟩
  | y :: r, k + 1, x, h => by
    have := cellsN_at r k x (by simpa using h)
    rw [show 2 * (k + 1) = 2 * k + 1 + 1 by omega]
    simpa [cellsN] using this
def OpenC2 (cap : Nat) : Prop := Nat.ble OPEN cap = true ∧ Nat.beq (szOf cap) 2 = true
theorem openC2 (lb : Nat) : OpenC2 (opCap lb 2) := ⟨Nat.ble_eq_true_of_le (open_opCap lb 2), by rw [szOf_opCap (by omega)]; rfl⟩
def Nl (h : H) (lo : Nat) (v : Value) (ns : List Nm) : Prop := (v = .slice none 0 0 ∧ ns = []) ∨ ∃ b cap, v = .slice (some ⟨b, 0, none⟩) ns.length cap ∧ OpenC2 cap ∧ Has h b (.op (cellsN ns) 2) ∧ lo ≤ b
theorem Nl.keep0 {h h' : H} {lo : Nat} {v : Value} {ns : List Nm} (a : Nl h lo v ns) (k : Keep nobody h h') : Nl h' lo v ns := by
  rcases a with a | ⟨b, cap, e, c, hb, l⟩
  · exact .inl a
  · exact .inr ⟨b, cap, e, c, hb.keep0 k, l⟩
theorem Nl.append {h : H} {lo : Nat} {v : Value} {ns : List Nm} (a : Nl h lo v ns) (x : Nm) {lb : Nat} (hb : Has h lb (.rw [.int .i64 x.1, .string x.2])) (hlo : lo ≤ h.next) (hsz : ns.length ≤ 1000000) :
    ∃ v' h', appendV 2 24 h v (.slice (some ⟨lb, 0, none⟩) 1 1) = some (v', h') ∧ Nl h' lo v' (ns ++ [x]) ∧ Keep (fun c => lo ≤ c) h h' := by
  have fv : firstV h 2 1 (.slice (some ⟨lb, 0, none⟩) 1 1) = some [.int .i64 x.1, .string x.2] := by
    simp only [firstV]
    rw [row_has hb rfl (by simp)]; rfl
  have hap : ∀ base sl sc, appendV 2 24 h (.slice base sl sc) (.slice (some ⟨lb, 0, none⟩) 1 1) = appTo 2 24 h base sl sc 1 [.int .i64 x.1, .string x.2] := fun base sl sc => by
    unfold appendV
    simp only [lenV, fv]
    rfl
  have hgrow : ∀ (h0 : H), h0.next = h.next → Keep (fun c => lo ≤ c) h h0 → ∃ v' h', grow h0 (cellsN ns) [.int .i64 x.1, .string x.2] (ns.length + 1) 2 = some (v', h') ∧ Nl h' lo v' (ns ++ [x]) ∧ Keep (fun c => lo ≤ c) h h' := fun h0 hn hk => by
    have e : cellsN (ns ++ [x]) = cellsN ns ++ [.int .i64 x.1, .string x.2] := by rw [cellsN_append]; rfl
    exact ⟨_, _, rfl, .inr ⟨h0.next, opCap (ns.length + 1) 2, by simp, openC2 _, by rw [e]; exact .new _ _, by omega⟩, hk.then (.new _ _)⟩
  rcases a with ⟨rfl, rfl⟩ | ⟨b, cap, rfl, c, hb1, l⟩
  · rw [hap]
    have : appTo 2 24 h none 0 0 1 [.int .i64 x.1, .string x.2] = grow h [] [.int .i64 x.1, .string x.2] 1 2 := rfl
    rw [this]
    exact hgrow h rfl (.refl _ _)
  · rw [hap]
    have h1 : appTo 2 24 h (some ⟨b, 0, none⟩) ns.length cap 1 [.int .i64 x.1, .string x.2] = appOpen 2 h ⟨b, 0, none⟩ ns.length cap 1 [.int .i64 x.1, .string x.2] := by
      unfold appTo
      simp only
      rw [Nat.ble_eq_true_of_le (show (ns.length + 1) * 24 ≤ 140737488355328 by omega), Nat.ble_eq_true_of_le (show ns.length + 1 ≤ 9223372036854775807 by omega)]
      simp only [c.1, Bool.and_self]
    rw [h1]
    unfold appOpen
    have h2 : Ev.ones [Value.int .i64 x.1, .string x.2] = true := rfl
    have e3 : putAt (cellsN ns) (0 + ns.length * 2) [Value.int .i64 x.1, .string x.2] = none := by
      rw [show 0 + ns.length * 2 = (cellsN ns).length by rw [cellsN_len]; omega]
      exact putAt_end _ _ _
    have e4 : cut (cellsN ns) 0 = some (cellsN ns) := by simpa using cut_eq (cellsN ns) 0 (by simp)
    have e5 : Nat.beq (0 + ns.length * 2) (cellsN ns).length = true := by rw [show 0 + ns.length * 2 = (cellsN ns).length by rw [cellsN_len]; omega]; exact Nat.beq_refl _
    simp only [c.2, h2, Bool.and_self, hb1.2, e3, e4, e5]
    exact hgrow (h.del b) rfl ((Keep.del h b).mono fun k _ e => by rw [e]; exact l)

theorem mkN (b : Nat) (t : Int) (k : ByteArray) : mkLit 1 b (fill (repl [(.int .i64 (0)), (.string (strB []))] 1) (pl 2) [(0, nameV t k)]) = some (.rw [.int .i64 t, .string k], .slice (some ⟨b, 0, none⟩) 1 1) := rfl

/-- a row's names -/
theorem row_names (L n : Nat) {O : Nat → Tag} {h : H} {tag : Tag} {vi : Value} {es : List Ent} {lo : Nat} {ns : List Nm} {tm : T Value} (ow : Own O h tag vi es) (hsz : es.length + ns.length ≤ 100000) (hL : 300000 < L) (nl : Nl h lo (tg tm 5) ns) (hlo : h.next = lo ∨ lo ≤ h.next) {h0 : H} (k0 : Keep nobody h0 h) (hlo0 : h0.next = lo) (ow0 : Own O h0 tag vi es) (X : T Value → Prop) (hX : ∀ tm j x, (j = 5 ∨ j = 9 ∨ j = 11 ∨ j = 39 ∨ j = 40 ∨ j = 41 ∨ j = 42) → X tm → X (T.set tm j x)) (x : X tm) (t9 : tg tm 9 = vi) (Q : Ex → T Value → H → Prop)
    (hQ : ∀ h' tm', Keep nobody h0 h' → Nl h' lo (tg tm' 5) (ns ++ es.map Ent.key) → X tm' → Q .norm tm' h') :
    C ⟨seqC ⟨r16_11⟩ ⟨blockC 4 (loopB l16_16)⟩⟩ (CF L n) L tm h Q := by
  refine C.seq fun K hK => ?_
  simp only [↓opStep_eq, ↓reduceIte, ↓EW, EV, Nat.reduceAdd, Nat.reduceEqDiff, Int.reduceEq, Int.reduceLT, Int.reduceLE, Int.reduceNe, seqC, retC, skipC, exitC, blockC, condC, r16_11, t9, ow.len]
  refine hK .norm _ _ ?_
  refine C.block (C.loop (fun q tm' hx => ∃ k, q = es.length - k ∧ k ≤ es.length ∧ Keep nobody h0 hx ∧ Nl hx lo (tg tm' 5) (ns ++ (es.take k).map Ent.key) ∧ X tm' ∧ tg tm' 39 = vi ∧ tg tm' 40 = .int .i64 (es.length : Int) ∧ tg tm' 41 = .int .i64 (k : Int)) es.length (by omega)
    ⟨0, rfl, by omega, k0, by simp only [List.take_zero, List.map_nil, List.append_nil, ↓opStep_eq, ↓reduceIte, ↓EW, EV, Nat.reduceAdd, Nat.reduceEqDiff, Int.reduceEq, Int.reduceLT, Int.reduceLE, Int.reduceNe, seqC, retC, skipC, exitC, blockC, condC]; exact nl, hX _ _ _ (by omega) (hX _ _ _ (by omega) (hX _ _ _ (by omega) x)), by simp only [↓opStep_eq, ↓reduceIte, ↓EW, EV, Nat.reduceAdd, Nat.reduceEqDiff, Int.reduceEq, Int.reduceLT, Int.reduceLE, Int.reduceNe, seqC, retC, skipC, exitC, blockC, condC], by simp only [↓opStep_eq, ↓reduceIte, ↓EW, EV, Nat.reduceAdd, Nat.reduceEqDiff, Int.reduceEq, Int.reduceLT, Int.reduceLE, Int.reduceNe, seqC, retC, skipC, exitC, blockC, condC], by simp only [↓opStep_eq, ↓reduceIte, ↓EW, EV, Nat.reduceAdd, Nat.reduceEqDiff, Int.reduceEq, Int.reduceLT, Int.reduceLE, Int.reduceNe, seqC, retC, skipC, exitC, blockC, condC] <;> rfl⟩ ?_)
  clear x t9 nl
  rintro q tm hx ⟨k, rfl, hk, kx, nl, x, t39, t40, t41⟩
  unfold l16_16
  refine C.seq fun K hK => ?_
  simp only [↓opStep_eq, ↓reduceIte, ↓EW, EV, Nat.reduceAdd, Nat.reduceEqDiff, Int.reduceEq, Int.reduceLT, Int.reduceLE, Int.reduceNe, seqC, retC, skipC, exitC, blockC, condC, r16_12, t40, t41]
  refine hK _ _ _ (C.seq (C.cond (decide ((k : Int) < (es.length : Int))) (by simp only [↓opStep_eq, ↓reduceIte, ↓EW, EV, Nat.reduceAdd, Nat.reduceEqDiff, Int.reduceEq, Int.reduceLT, Int.reduceLE, Int.reduceNe, seqC, retC, skipC, exitC, blockC, condC]) (fun g => C.skip ?_) fun g => C.exit ?_))
  · have g : k < es.length := by have := of_decide_eq_true g; omega
    obtain ⟨e, he⟩ : ∃ e, es[k]? = some e := ⟨es[k]'g, List.getElem?_eq_getElem g⟩
    obtain ⟨bb, cs, ix, _, hbb, h3, hc, _⟩ := (ow0.keep kx (O' := O) fun _ _ h => ⟨id, h⟩).at he
    have la := fun s => Ent.at_all hbb h3 hc s
    refine C.seq (C.block (C.seq fun K hK => ?_))
    have s3 : storeV 3 (hx.new (.rw [.int .i64 0, .string (strB []), .int .i64 0])) (.pointer (some ⟨hx.next, 0, none⟩)) (.agg e.cells.toArray) = some ((hx.new (.rw [.int .i64 0, .string (strB []), .int .i64 0])).put hx.next (.rw e.cells)) := by
      have := store_new hx 3 none [.int .i64 0, .string (strB []), .int .i64 0] (.agg e.cells.toArray) rfl (by simp [Ent.cells]) (by simp [Ent.cells, ones])
      simpa using this
    simp only [↓opStep_eq, ↓reduceIte, ↓EW, EV, Nat.reduceAdd, Nat.reduceEqDiff, Int.reduceEq, Int.reduceLT, Int.reduceLE, Int.reduceNe, seqC, retC, skipC, exitC, blockC, condC, r16_13, t39, t41, ix, la, s3]
    have k1 := keep_alloc hx (.rw [.int .i64 0, .string (strB []), .int .i64 0]) (.rw e.cells)
    have b1 := has_alloc hx (.rw [.int .i64 0, .string (strB []), .int .i64 0]) (.rw e.cells)
    generalize (hx.new (.rw [.int .i64 0, .string (strB []), .int .i64 0])).put hx.next (.rw e.cells) = h1 at *
    refine hK _ _ _ fun K hK => ?_
    have l2 : ∀ s, loadAgg 2 h1 (.pointer (some ⟨hx.next, 0, s⟩)) = some (nameV e.t e.k) := fun s => loadAgg_has b1 rfl (by simp [Ent.cells])
    have k2 := Keep.new h1 (.rw [.int .i64 e.t, .string e.k])
    have b2 := Has.new h1 (.rw [.int .i64 e.t, .string e.k])
    have n2 : (h1.new (.rw [.int .i64 e.t, .string e.k])).next = h1.next + 1 := rfl
    simp only [↓opStep_eq, ↓reduceIte, ↓EW, EV, Nat.reduceAdd, Nat.reduceEqDiff, Int.reduceEq, Int.reduceLT, Int.reduceLE, Int.reduceNe, seqC, retC, skipC, exitC, blockC, condC, r16_14, l2, mkN]
    generalize h1.new (.rw [.int .i64 e.t, .string e.k]) = h2 at *
    have k02 := (kx.then k1).then k2
    obtain ⟨v', h4, e4, nl4, k4⟩ := ((nl.keep0 k1).keep0 k2).append e.key (lb := h1.next) b2 (by have := k02.next; omega) (by simp; omega)
    simp only [↓opStep_eq, ↓reduceIte, ↓EW, EV, Nat.reduceAdd, Nat.reduceEqDiff, Int.reduceEq, Int.reduceLT, Int.reduceLE, Int.reduceNe, seqC, retC, skipC, exitC, blockC, condC, e4]
    refine hK _ _ _ fun K hK => ?_
    have w := wadd1 k (by omega)
    simp only [↓opStep_eq, ↓reduceIte, ↓EW, EV, Nat.reduceAdd, Nat.reduceEqDiff, Int.reduceEq, Int.reduceLT, Int.reduceLE, Int.reduceNe, seqC, retC, skipC, exitC, blockC, condC, r16_15, t41, w]
    refine hK _ _ _ ⟨es.length - (k + 1), by omega, k + 1, rfl, by omega, k02.trans k4 fun c hc h => by omega, ?_, hX _ _ _ (by omega) (hX _ _ _ (by omega) (hX _ _ _ (by omega) (hX _ _ _ (by omega) x))), ?_, ?_, ?_⟩
    · simp only [↓opStep_eq, ↓reduceIte, ↓EW, EV, Nat.reduceAdd, Nat.reduceEqDiff, Int.reduceEq, Int.reduceLT, Int.reduceLE, Int.reduceNe, seqC, retC, skipC, exitC, blockC, condC]
      rw [List.take_add_one, he, Option.toList_some, List.map_append, ← List.append_assoc]
      exact nl4
    · simp only [↓opStep_eq, ↓reduceIte, ↓EW, EV, Nat.reduceAdd, Nat.reduceEqDiff, Int.reduceEq, Int.reduceLT, Int.reduceLE, Int.reduceNe, seqC, retC, skipC, exitC, blockC, condC, t39]
    · simp only [↓opStep_eq, ↓reduceIte, ↓EW, EV, Nat.reduceAdd, Nat.reduceEqDiff, Int.reduceEq, Int.reduceLT, Int.reduceLE, Int.reduceNe, seqC, retC, skipC, exitC, blockC, condC, t40]
    · simp only [↓opStep_eq, ↓reduceIte, ↓EW, EV, Nat.reduceAdd, Nat.reduceEqDiff, Int.reduceEq, Int.reduceLT, Int.reduceLE, Int.reduceNe, seqC, retC, skipC, exitC, blockC, condC]
  · simp only [if_pos]
    have g : k = es.length := by have := of_decide_eq_false g; omega
    subst g
    refine hQ hx _ kx ?_ (hX _ _ _ (by omega) x)
    rw [List.take_length] at nl
    simp only [↓opStep_eq, ↓reduceIte, ↓EW, EV, Nat.reduceAdd, Nat.reduceEqDiff, Int.reduceEq, Int.reduceLT, Int.reduceLE, Int.reduceNe, seqC, retC, skipC, exitC, blockC, condC]
    exact nl
end Go.Proofs.YtbdmhdidehfmoaaDoor

namespace Go.Proofs.YtbdmhdidehfmoaaDoor
open Go.Ev

/-- a side's names -/
theorem side_names (L n : Nat) {O : Nat → Tag} {h h0 : H} {s : Bool} {v : Value} {rs : List (List Ent)} {lo : Nat} {ns : List Nm} {tm : T Value} (ra : RowsAt O h0 s v rs) (hsz : rs.flatten.length + ns.length ≤ 100000) (hrl : rs.length ≤ 200000) (hL : 300000 < L) (k0 : Keep nobody h0 h) (hlo0 : h0.next = lo) (nl : Nl h lo (tg tm 5) ns) (X : T Value → Prop) (hX : ∀ tm j x, (j = 5 ∨ j = 9 ∨ j = 11 ∨ j = 33 ∨ j = 34 ∨ j = 35 ∨ j = 36 ∨ j = 39 ∨ j = 40 ∨ j = 41 ∨ j = 42) → X tm → X (T.set tm j x)) (x : X tm) {p : Addr} (t7 : tg tm 7 = .pointer (some p)) (hp : ∀ hx, Keep nobody h0 hx → ∀ s, loadOne hx (.pointer (some ⟨p.block, p.off, s⟩)) = some v) (Q : Ex → T Value → H → Prop)
    (hQ : ∀ h' tm', Keep nobody h0 h' → Nl h' lo (tg tm' 5) (ns ++ rs.flatten.map Ent.key) → X tm' → Q .norm tm' h') :
    C ⟨seqC ⟨r16_8⟩ ⟨blockC 2 (loopB l16_18)⟩⟩ (CF L n) L tm h Q := by
  refine C.seq fun K hK => ?_
  have ef : fieldPtr 0 (.pointer (some p)) = some (.pointer (some ⟨p.block, p.off, none⟩)) := rfl
  simp only [↓opStep_eq, ↓reduceIte, ↓EW, EV, Nat.reduceAdd, Nat.reduceEqDiff, Int.reduceEq, Int.reduceLT, Int.reduceLE, Int.reduceNe, seqC, retC, skipC, exitC, blockC, condC, r16_8, t7, nilChk_some, ef, hp _ k0, ra.len]
  refine hK .norm _ _ ?_
  refine C.block (C.loop (fun q tm' hx => ∃ j, q = rs.length - j ∧ j ≤ rs.length ∧ Keep nobody h0 hx ∧ Nl hx lo (tg tm' 5) (ns ++ (rs.take j).flatten.map Ent.key) ∧ X tm' ∧ tg tm' 33 = v ∧ tg tm' 34 = .int .i64 (rs.length : Int) ∧ tg tm' 35 = .int .i64 (j : Int)) rs.length (by omega)
    ⟨0, rfl, by omega, k0, by simp only [List.take_zero, List.flatten_nil, List.map_nil, List.append_nil, ↓opStep_eq, ↓reduceIte, ↓EW, EV, Nat.reduceAdd, Nat.reduceEqDiff, Int.reduceEq, Int.reduceLT, Int.reduceLE, Int.reduceNe, seqC, retC, skipC, exitC, blockC, condC]; exact nl, hX _ _ _ (by omega) (hX _ _ _ (by omega) (hX _ _ _ (by omega) x)), by simp only [↓opStep_eq, ↓reduceIte, ↓EW, EV, Nat.reduceAdd, Nat.reduceEqDiff, Int.reduceEq, Int.reduceLT, Int.reduceLE, Int.reduceNe, seqC, retC, skipC, exitC, blockC, condC], by simp only [↓opStep_eq, ↓reduceIte, ↓EW, EV, Nat.reduceAdd, Nat.reduceEqDiff, Int.reduceEq, Int.reduceLT, Int.reduceLE, Int.reduceNe, seqC, retC, skipC, exitC, blockC, condC], by simp only [↓opStep_eq, ↓reduceIte, ↓EW, EV, Nat.reduceAdd, Nat.reduceEqDiff, Int.reduceEq, Int.reduceLT, Int.reduceLE, Int.reduceNe, seqC, retC, skipC, exitC, blockC, condC] <;> rfl⟩ ?_)
  clear x t7 nl
  rintro q tm hx ⟨j, rfl, hj, kx, nl, x, t33, t34, t35⟩
  unfold l16_18
  refine C.seq fun K hK => ?_
  simp only [↓opStep_eq, ↓reduceIte, ↓EW, EV, Nat.reduceAdd, Nat.reduceEqDiff, Int.reduceEq, Int.reduceLT, Int.reduceLE, Int.reduceNe, seqC, retC, skipC, exitC, blockC, condC, r16_9, t34, t35]
  refine hK _ _ _ (C.seq (C.cond (decide ((j : Int) < (rs.length : Int))) (by simp only [↓opStep_eq, ↓reduceIte, ↓EW, EV, Nat.reduceAdd, Nat.reduceEqDiff, Int.reduceEq, Int.reduceLT, Int.reduceLE, Int.reduceNe, seqC, retC, skipC, exitC, blockC, condC]) (fun g => C.skip ?_) fun g => C.exit ?_))
  · have g : j < rs.length := by have := of_decide_eq_true g; omega
    rcases ra with ⟨_, e⟩ | ⟨B, vs, rfl, rp, _, _⟩
    · rw [e] at g; simp at g
    obtain ⟨vi, es, e1, e2, ow, ldr⟩ := rp.at g
    have hes := row_le e2
    have ix : indexSl 1 (.slice (some ⟨B, 0, none⟩) rs.length rs.length) (.int .i64 (j : Int)) = some (.pointer (some ⟨B, j, none⟩)) := by
      simp only [indexSl, asNat_nat, addOff]
      rw [Nat.ble_eq_true_of_le (by omega)]
      simp only [Nat.zero_add, Nat.mul_one]
    have htk : (rs.take (j + 1)).flatten = (rs.take j).flatten ++ es := by
      rw [List.take_add_one, e2, Option.toList_some, List.flatten_append]; simp
    have hlen : (rs.take j).flatten.length + es.length ≤ rs.flatten.length := by
      have h1 : ((rs.take (j + 1)).flatten ++ (rs.drop (j + 1)).flatten).length = rs.flatten.length := by rw [← List.flatten_append, List.take_append_drop]
      rw [htk] at h1
      simp only [List.length_append] at h1
      omega
    refine C.seq (C.block (C.seq fun K hK => ?_))
    simp only [↓opStep_eq, ↓reduceIte, ↓EW, EV, Nat.reduceAdd, Nat.reduceEqDiff, Int.reduceEq, Int.reduceLT, Int.reduceLE, Int.reduceNe, seqC, retC, skipC, exitC, blockC, condC, r16_10, t33, t35, ix, ldr _ kx]
    refine hK .norm _ _ ?_
    refine row_names L n (lo := lo) (ow.keep kx (O' := O) fun _ _ h => ⟨id, h⟩) (ns := ns ++ (rs.take j).flatten.map Ent.key) (by simp only [List.length_append, List.length_map]; omega) hL ?_ (.inr (by have := kx.next; omega)) kx hlo0 ow (fun tm => X tm ∧ tg tm 33 = .slice (some ⟨B, 0, none⟩) rs.length rs.length ∧ tg tm 34 = .int .i64 (rs.length : Int) ∧ tg tm 35 = .int .i64 (j : Int)) (fun tm i y hi ⟨a1, a2, a3, a4⟩ => ⟨hX _ _ _ (by omega) a1, ?_, ?_, ?_⟩) ⟨?_, ?_, ?_, ?_⟩ ?_ _ fun h' tm' k' nl' ⟨a1, a2, a3, a4⟩ => ?_
    · simp only [↓opStep_eq, ↓reduceIte, ↓EW, EV, Nat.reduceAdd, Nat.reduceEqDiff, Int.reduceEq, Int.reduceLT, Int.reduceLE, Int.reduceNe, seqC, retC, skipC, exitC, blockC, condC]; exact nl
    · rw [tg_set, if_neg (by omega)]; exact a2
    · rw [tg_set, if_neg (by omega)]; exact a3
    · rw [tg_set, if_neg (by omega)]; exact a4
    · exact hX _ _ _ (by omega) (hX _ _ _ (by omega) x)
    · simp only [↓opStep_eq, ↓reduceIte, ↓EW, EV, Nat.reduceAdd, Nat.reduceEqDiff, Int.reduceEq, Int.reduceLT, Int.reduceLE, Int.reduceNe, seqC, retC, skipC, exitC, blockC, condC, t33]
    · simp only [↓opStep_eq, ↓reduceIte, ↓EW, EV, Nat.reduceAdd, Nat.reduceEqDiff, Int.reduceEq, Int.reduceLT, Int.reduceLE, Int.reduceNe, seqC, retC, skipC, exitC, blockC, condC, t34]
    · simp only [↓opStep_eq, ↓reduceIte, ↓EW, EV, Nat.reduceAdd, Nat.reduceEqDiff, Int.reduceEq, Int.reduceLT, Int.reduceLE, Int.reduceNe, seqC, retC, skipC, exitC, blockC, condC, t35]
    · simp only [↓opStep_eq, ↓reduceIte, ↓EW, EV, Nat.reduceAdd, Nat.reduceEqDiff, Int.reduceEq, Int.reduceLT, Int.reduceLE, Int.reduceNe, seqC, retC, skipC, exitC, blockC, condC]
    · intro K hK
      have w := wadd1 j (by omega)
      simp only [↓opStep_eq, ↓reduceIte, ↓EW, EV, Nat.reduceAdd, Nat.reduceEqDiff, Int.reduceEq, Int.reduceLT, Int.reduceLE, Int.reduceNe, seqC, retC, skipC, exitC, blockC, condC, r16_16, a4, w]
      refine hK _ _ _ ⟨rs.length - (j + 1), by omega, j + 1, rfl, by omega, k', ?_, hX _ _ _ (by omega) a1, ?_, ?_, ?_⟩
      · simp only [↓opStep_eq, ↓reduceIte, ↓EW, EV, Nat.reduceAdd, Nat.reduceEqDiff, Int.reduceEq, Int.reduceLT, Int.reduceLE, Int.reduceNe, seqC, retC, skipC, exitC, blockC, condC]
        rw [htk, List.map_append, ← List.append_assoc]
        exact nl'
      · simp only [↓opStep_eq, ↓reduceIte, ↓EW, EV, Nat.reduceAdd, Nat.reduceEqDiff, Int.reduceEq, Int.reduceLT, Int.reduceLE, Int.reduceNe, seqC, retC, skipC, exitC, blockC, condC, a2]
      · simp only [↓opStep_eq, ↓reduceIte, ↓EW, EV, Nat.reduceAdd, Nat.reduceEqDiff, Int.reduceEq, Int.reduceLT, Int.reduceLE, Int.reduceNe, seqC, retC, skipC, exitC, blockC, condC, a3]
      · simp only [↓opStep_eq, ↓reduceIte, ↓EW, EV, Nat.reduceAdd, Nat.reduceEqDiff, Int.reduceEq, Int.reduceLT, Int.reduceLE, Int.reduceNe, seqC, retC, skipC, exitC, blockC, condC]
  · simp only [if_pos]
    have g : j = rs.length := by have := of_decide_eq_false g; omega
    subst g
    refine hQ hx _ kx ?_ (hX _ _ _ (by omega) x)
    rw [List.take_length] at nl
    simp only [↓opStep_eq, ↓reduceIte, ↓EW, EV, Nat.reduceAdd, Nat.reduceEqDiff, Int.reduceEq, Int.reduceLT, Int.reduceLE, Int.reduceNe, seqC, retC, skipC, exitC, blockC, condC]
    exact nl

/-- what All tells -/
structure AllQ (h' : H) (v : Value) (l : List Ent) (f : Nat → Nm) : Prop where
  mem : (v = .slice none 0 0 ∧ l = []) ∨ ∃ B, Arr h' B v l.length f
  so : Sorted ltN f 0 l.length
  to : ∀ k, k < l.length → ∃ e ∈ l, e.key = f k
  of : ∀ e ∈ l, ∃ k, k < l.length ∧ f k = e.key

theorem all_law (L n N : Nat) (hN : N < 60000) (hL : 300000 < L) {O : Nat → Tag} {h : H} {b : Nat} {l : List Ent} {mv : Nat} (st : St N O h b l mv) (gl : Gl h) :
    Sp (CF L (n + 27)) 16 [.pointer (some ⟨b, 0, none⟩)] h fun r h' => ∃ v f, r = .tuple [v, .int .i64 0].toArray ∧ AllQ h' v l f ∧ Keep nobody h h' ∧ ∀ c, blk v c → h.next ≤ c := by
  obtain ⟨now, old, a, v1, v2, tab, gg, pm⟩ := st
  have hcnt := gg.cnt
  have hu : (l.map Ent.key).Nodup := (pm.map _).nodup_iff.1 gg.uniq
  refine Sp.body f16 (by simp) ?_
  unfold c16
  refine C.seq fun K hK => hK .norm _ _ (C.seq (C.seq fun K hK => ?_))
  simp only [↓opStep_eq, ↓reduceIte, ↓EW, EV, Nat.reduceAdd, Nat.reduceEqDiff, Int.reduceEq, Int.reduceLT, Int.reduceLE, Int.reduceNe, seqC, retC, skipC, exitC, blockC, condC, r16_1, gl_name gl]
  refine asked_law L (n + 25) tab.hb 0 kS _ fun r h1 hq => ?_
  obtain ⟨rfl, k1⟩ := hq
  rw [if_pos kS_valid]
  refine hK _ _ _ (C.seq fun K hK => ?_)
  simp only [↓opStep_eq, ↓reduceIte, ↓EW, EV, Nat.reduceAdd, Nat.reduceEqDiff, Int.reduceEq, Int.reduceLT, Int.reduceLE, Int.reduceNe, seqC, retC, skipC, exitC, blockC, condC, Bool.true_or, Bool.false_or, Bool.or_true, Bool.or_false, Bool.true_and, Bool.false_and, Bool.and_true, Bool.and_false, r16_2]
  refine hK _ _ _ (C.cond false (by simp only [↓opStep_eq, ↓reduceIte, ↓EW, EV, Nat.reduceAdd, Nat.reduceEqDiff, Int.reduceEq, Int.reduceLT, Int.reduceLE, Int.reduceNe, seqC, retC, skipC, exitC, blockC, condC]) (fun g => by cases g) fun g => C.skip (C.seq fun K hK => ?_))
  simp only [↓opStep_eq, ↓reduceIte, ↓EW, EV, Nat.reduceAdd, Nat.reduceEqDiff, Int.reduceEq, Int.reduceLT, Int.reduceLE, Int.reduceNe, seqC, retC, skipC, exitC, blockC, condC, r16_4]
  refine hK .norm _ _ (C.seq (C.seq fun K hK => ?_))
  have kr := keep_room h1 9
  have kp : Keep nobody h1 ((⟨h1.objs, h1.next + 9⟩ : H).put (h1.next + 6) (.rw [.pointer (some ⟨b, 0, none⟩), .pointer (some ⟨b, 2, none⟩)])) := ⟨kr.next, fun c hc hn => ((Keep.put _ (h1.next + 6) _).same c (by show c < h1.next + 9; omega) (by omega)).trans (kr.same c hc hn)⟩
  have b6 : Has ((⟨h1.objs, h1.next + 9⟩ : H).put (h1.next + 6) (.rw [.pointer (some ⟨b, 0, none⟩), .pointer (some ⟨b, 2, none⟩)])) (h1.next + 6) (.rw [.pointer (some ⟨b, 0, none⟩), .pointer (some ⟨b, 2, none⟩)]) := Has.put (by show _ < h1.next + 9; omega)
  simp only [↓opStep_eq, ↓reduceIte, ↓EW, EV, Nat.reduceAdd, Nat.reduceEqDiff, Int.reduceEq, Int.reduceLT, Int.reduceLE, Int.reduceNe, seqC, retC, skipC, exitC, blockC, condC, r16_5, nilChk_some, lit2p, lenSl_slice]
  generalize hz : (⟨h1.objs, h1.next + 9⟩ : H).put (h1.next + 6) (.rw [.pointer (some ⟨b, 0, none⟩), .pointer (some ⟨b, 2, none⟩)]) = h4 at *
  have hn4 : h4.next = h1.next + 9 := by rw [← hz]; rfl
  have k04 := k1.then kp
  have tx := tab.keep0 k04
  refine hK .norm _ _ ?_
  refine C.block (C.loop (fun q tm' hx => ∃ i ns, q = 2 - i ∧ i ≤ 2 ∧ Keep nobody h4 hx ∧ Nl hx h4.next (tg tm' 5) ns ∧ (i = 0 → ns = []) ∧ (i = 1 → ns = now.flatten.map Ent.key) ∧ (i = 2 → ns = (now.flatten ++ old.flatten).map Ent.key) ∧ tg tm' 24 = .slice (some ⟨h1.next + 6, 0, none⟩) 2 2 ∧ tg tm' 25 = .int .i64 2 ∧ tg tm' 26 = .int .i64 (i : Int)) 2 (by omega)
    ⟨0, [], rfl, by omega, .refl _ _, by simp only [↓opStep_eq, ↓reduceIte, ↓EW, EV, Nat.reduceAdd, Nat.reduceEqDiff, Int.reduceEq, Int.reduceLT, Int.reduceLE, Int.reduceNe, seqC, retC, skipC, exitC, blockC, condC]; exact .inl ⟨rfl, rfl⟩, fun _ => rfl, (fun h => by omega), (fun h => by omega), by simp only [↓opStep_eq, ↓reduceIte, ↓EW, EV, Nat.reduceAdd, Nat.reduceEqDiff, Int.reduceEq, Int.reduceLT, Int.reduceLE, Int.reduceNe, seqC, retC, skipC, exitC, blockC, condC], by simp only [↓opStep_eq, ↓reduceIte, ↓EW, EV, Nat.reduceAdd, Nat.reduceEqDiff, Int.reduceEq, Int.reduceLT, Int.reduceLE, Int.reduceNe, seqC, retC, skipC, exitC, blockC, condC] <;> rfl, by simp only [↓opStep_eq, ↓reduceIte, ↓EW, EV, Nat.reduceAdd, Nat.reduceEqDiff, Int.reduceEq, Int.reduceLT, Int.reduceLE, Int.reduceNe, seqC, retC, skipC, exitC, blockC, condC] <;> rfl⟩ ?_)
  rintro q tm hx ⟨i, ns, rfl, hi, kx, nl, n0, n1, n2, t24, t25, t26⟩
  unfold l16_20
  refine C.seq fun K hK => ?_
  simp only [↓opStep_eq, ↓reduceIte, ↓EW, EV, Nat.reduceAdd, Nat.reduceEqDiff, Int.reduceEq, Int.reduceLT, Int.reduceLE, Int.reduceNe, seqC, retC, skipC, exitC, blockC, condC, r16_6, t25, t26]
  refine hK _ _ _ (C.seq (C.cond (decide ((i : Int) < 2)) (by simp only [↓opStep_eq, ↓reduceIte, ↓EW, EV, Nat.reduceAdd, Nat.reduceEqDiff, Int.reduceEq, Int.reduceLT, Int.reduceLE, Int.reduceNe, seqC, retC, skipC, exitC, blockC, condC]) (fun g => C.skip ?_) fun g => C.exit ?_))
  · have g2 : i < 2 := by have := of_decide_eq_true g; omega
    obtain ⟨s, o, v, rs, ld6, ra, hp, hrl, hfl, hnext⟩ : ∃ (s : Bool) (o : Nat) (v : Value) (rs : List (List Ent)), [Value.pointer (some ⟨b, 0, none⟩), .pointer (some ⟨b, 2, none⟩)][i]? = some (.pointer (some ⟨b, o, none⟩)) ∧ RowsAt O h4 s v rs ∧ (∀ hy, Keep nobody h4 hy → ∀ s, loadOne hy (.pointer (some ⟨b, o, s⟩)) = some v) ∧ rs.length ≤ N + 4 ∧ rs.flatten.length + ns.length ≤ N ∧ ((i + 1 = 1 → ns ++ rs.flatten.map Ent.key = now.flatten.map Ent.key) ∧ (i + 1 = 2 → ns ++ rs.flatten.map Ent.key = (now.flatten ++ old.flatten).map Ent.key)) := by
      rcases i with _ | _ | i
      · refine ⟨false, 0, v1, now, rfl, tx.now, fun hy ky s => by rw [tld (tx.hb.keep0 ky)]; rfl, gg.len, ?_, fun _ => ?_, fun h => by omega⟩
        · rw [n0 rfl, List.length_nil]; omega
        · rw [n0 rfl]; simp
      · refine ⟨true, 2, v2, old, rfl, tx.old, fun hy ky s => by rw [tld (tx.hb.keep0 ky)]; rfl, gg.olen, ?_, (fun h => by omega), fun _ => ?_⟩
        · rw [n1 rfl, List.length_map]; omega
        · rw [n1 rfl, List.map_append]
      · omega
    have ix : indexSl 1 (.slice (some ⟨h1.next + 6, 0, none⟩) 2 2) (.int .i64 (i : Int)) = some (.pointer (some ⟨h1.next + 6, i, none⟩)) := by
      simp only [indexSl, asNat_nat, addOff]
      rw [Nat.ble_eq_true_of_le (by omega)]
      simp only [Nat.zero_add, Nat.mul_one]
    have ldp : loadOne hx (.pointer (some ⟨h1.next + 6, i, none⟩)) = some (.pointer (some ⟨b, o, none⟩)) := by
      rw [loadOne_has (b6.keep0 kx) rfl]; exact ld6
    refine C.seq (C.block (C.seq fun K hK => ?_))
    simp only [↓opStep_eq, ↓reduceIte, ↓EW, EV, Nat.reduceAdd, Nat.reduceEqDiff, Int.reduceEq, Int.reduceLT, Int.reduceLE, Int.reduceNe, seqC, retC, skipC, exitC, blockC, condC, r16_7, t24, t26, ix, ldp]
    refine hK .norm _ _ ?_
    refine side_names L (n + 26) (lo := h4.next) ra (ns := ns) (by omega) (by omega) hL kx rfl ?_ (fun tm => tg tm 24 = .slice (some ⟨h1.next + 6, 0, none⟩) 2 2 ∧ tg tm 25 = .int .i64 2 ∧ tg tm 26 = .int .i64 (i : Int)) (fun tm j y hj ⟨a1, a2, a3⟩ => ⟨?_, ?_, ?_⟩) ⟨?_, ?_, ?_⟩ (p := ⟨b, o, none⟩) ?_ hp _ fun h' tm' k' nl' ⟨a1, a2, a3⟩ => ?_
    · simp only [↓opStep_eq, ↓reduceIte, ↓EW, EV, Nat.reduceAdd, Nat.reduceEqDiff, Int.reduceEq, Int.reduceLT, Int.reduceLE, Int.reduceNe, seqC, retC, skipC, exitC, blockC, condC]; exact nl
    · rw [tg_set, if_neg (by omega)]; exact a1
    · rw [tg_set, if_neg (by omega)]; exact a2
    · rw [tg_set, if_neg (by omega)]; exact a3
    · simp only [↓opStep_eq, ↓reduceIte, ↓EW, EV, Nat.reduceAdd, Nat.reduceEqDiff, Int.reduceEq, Int.reduceLT, Int.reduceLE, Int.reduceNe, seqC, retC, skipC, exitC, blockC, condC, t24]
    · simp only [↓opStep_eq, ↓reduceIte, ↓EW, EV, Nat.reduceAdd, Nat.reduceEqDiff, Int.reduceEq, Int.reduceLT, Int.reduceLE, Int.reduceNe, seqC, retC, skipC, exitC, blockC, condC, t25]
    · simp only [↓opStep_eq, ↓reduceIte, ↓EW, EV, Nat.reduceAdd, Nat.reduceEqDiff, Int.reduceEq, Int.reduceLT, Int.reduceLE, Int.reduceNe, seqC, retC, skipC, exitC, blockC, condC, t26]
    · simp only [↓opStep_eq, ↓reduceIte, ↓EW, EV, Nat.reduceAdd, Nat.reduceEqDiff, Int.reduceEq, Int.reduceLT, Int.reduceLE, Int.reduceNe, seqC, retC, skipC, exitC, blockC, condC]
    · intro K hK
      have w := wadd1 i (by omega)
      simp only [↓opStep_eq, ↓reduceIte, ↓EW, EV, Nat.reduceAdd, Nat.reduceEqDiff, Int.reduceEq, Int.reduceLT, Int.reduceLE, Int.reduceNe, seqC, retC, skipC, exitC, blockC, condC, r16_17, a3, w]
      refine hK _ _ _ ⟨2 - (i + 1), by omega, i + 1, _, rfl, by omega, k', ?_, (fun h => by omega), hnext.1, hnext.2, ?_, ?_, ?_⟩
      · simp only [↓opStep_eq, ↓reduceIte, ↓EW, EV, Nat.reduceAdd, Nat.reduceEqDiff, Int.reduceEq, Int.reduceLT, Int.reduceLE, Int.reduceNe, seqC, retC, skipC, exitC, blockC, condC]; exact nl'
      · simp only [↓opStep_eq, ↓reduceIte, ↓EW, EV, Nat.reduceAdd, Nat.reduceEqDiff, Int.reduceEq, Int.reduceLT, Int.reduceLE, Int.reduceNe, seqC, retC, skipC, exitC, blockC, condC, a1]
      · simp only [↓opStep_eq, ↓reduceIte, ↓EW, EV, Nat.reduceAdd, Nat.reduceEqDiff, Int.reduceEq, Int.reduceLT, Int.reduceLE, Int.reduceNe, seqC, retC, skipC, exitC, blockC, condC, a2]
      · simp only [↓opStep_eq, ↓reduceIte, ↓EW, EV, Nat.reduceAdd, Nat.reduceEqDiff, Int.reduceEq, Int.reduceLT, Int.reduceLE, Int.reduceNe, seqC, retC, skipC, exitC, blockC, condC]
  · simp only [if_pos]
    have g2 : i = 2 := by have := of_decide_eq_false g; omega
    have hns := n2 g2
    have hp : ns.Perm (l.map Ent.key) := by rw [hns]; exact pm.map _
    have hnl : ns.length = l.length := by rw [hp.length_eq, List.length_map]
    have hlN : l.length ≤ N := by rw [← pm.length_eq, List.length_append]; omega
    have k0x := k04.then kx
    have hle : h.next ≤ h4.next := k04.next
    refine C.seq fun K hK => ?_
    simp only [↓opStep_eq, ↓reduceIte, ↓EW, EV, Nat.reduceAdd, Nat.reduceEqDiff, Int.reduceEq, Int.reduceLT, Int.reduceLE, Int.reduceNe, seqC, retC, skipC, exitC, blockC, condC, r16_18]
    rcases nl with ⟨e5, e6⟩ | ⟨bb, cap, e5, _, hb5, hlo5⟩
    · rw [e5]
      refine sort_nil (n + 22) (cv := .func (.func 27) #[] #[]) _ (by omega) _ fun r h7 k7 => ?_
      refine hK _ _ _ (C.seq fun K hK => hK .norm _ _ (C.ret ⟨.inr rfl, _, rfl, .slice none 0 0, fun _ => (0, .empty), ?_, ⟨.inl ⟨rfl, ?_⟩, fun p q h1 h2 h3 => ?_, fun k hk => ?_, fun e he => ?_⟩, k0x.then k7, fun c hc => by simp at hc⟩))
      · simp only [↓opStep_eq, ↓reduceIte, ↓EW, EV, Nat.reduceAdd, Nat.reduceEqDiff, Int.reduceEq, Int.reduceLT, Int.reduceLE, Int.reduceNe, seqC, retC, skipC, exitC, blockC, condC, resOf, e5]
      · apply List.length_eq_zero_iff.1; rw [← hnl, e6]; rfl
      · rw [← hnl, e6] at h3; simp at h3
      · rw [← hnl, e6] at hk; simp at hk
      · have : l = [] := by apply List.length_eq_zero_iff.1; rw [← hnl, e6]; rfl
        rw [this] at he; cases he
    · have nth : ∀ k, k < ns.length → ns[k]? = some (ns.getD k (0, .empty)) := fun k hk => by rw [List.getD_eq_getElem?_getD, List.getElem?_eq_getElem hk]; rfl
      have arr : Arr hx bb (tg tm 5) ns.length (fun k => ns.getD k (0, .empty)) := ⟨cap, cellsN ns, 2, e5, hb5, by rw [cellsN_len]; exact Nat.le_refl _, fun k hk => cellsN_at ns k _ (nth k hk)⟩
      have hnd : ns.Nodup := hp.nodup_iff.2 hu
      have inj : Inj (fun k => ns.getD k (0, .empty)) ns.length := fun p q hp hq he => by
        have h1 := nth p hp
        have h2 := nth q hq
        have he' : ns.getD p (0, .empty) = ns.getD q (0, .empty) := he
        rw [← he'] at h2
        exact (List.getElem?_inj hp hnd).1 (h1.trans h2.symm)
      have en : Env L bb (tg tm 5) (.func (.func 27) #[] #[]) ns.length 0 ns.length ltN (fun _ => True) (fun k => ns.getD k (0, .empty)) hx := ⟨all_cm L bb (by omega), trivial, fun _ _ _ _ _ _ _ _ => trivial, inj, Nat.le_refl _, by omega, by omega, by omega, fun h => absurd h (Nat.lt_irrefl 0)⟩
      refine sort_law (m := n) en arr _ fun r h7 hq => ?_
      obtain ⟨f2, arr2, sw2, so2, k7⟩ := hq
      refine hK _ _ _ (C.seq fun K hK => hK .norm _ _ (C.ret ⟨.inr rfl, _, rfl, tg tm 5, f2, ?_, ?_, k0x.trans k7 fun c hc e => by omega, fun c hc => ?_⟩))
      · simp only [↓opStep_eq, ↓reduceIte, ↓EW, EV, Nat.reduceAdd, Nat.reduceEqDiff, Int.reduceEq, Int.reduceLT, Int.reduceLE, Int.reduceNe, seqC, retC, skipC, exitC, blockC, condC, resOf]
      · rw [hnl] at arr2 so2 sw2
        refine ⟨.inr ⟨bb, arr2⟩, so2, fun k hk => ?_, fun e he => ?_⟩
        · have := sw2.all (fun x => ∃ e ∈ l, e.key = x) (fun k _ hk => ?_) k (Nat.zero_le _) hk
          · exact this
          · have h1 := List.mem_of_getElem? (nth k (by omega))
            obtain ⟨e, h2, h3⟩ := List.mem_map.1 (hp.mem_iff.1 h1)
            exact ⟨e, h2, h3⟩
        · have h1 : e.key ∈ ns := hp.mem_iff.2 (List.mem_map.2 ⟨e, he, rfl⟩)
          obtain ⟨k, hk⟩ := List.getElem?_of_mem h1
          have hk2 := (List.getElem?_eq_some_iff.1 hk).1
          have := sw2.symm.all (fun x => ∃ k, k < l.length ∧ f2 k = x) (fun k _ hk => ⟨k, hk, rfl⟩) k (Nat.zero_le _) (by omega)
          have hk3 : ns.getD k (0, .empty) = e.key := by have := nth k hk2; rw [hk] at this; exact (Option.some.inj this).symm
          obtain ⟨k', h2, h3⟩ := this
          exact ⟨k', h2, h3.trans hk3⟩
      · rw [e5] at hc
        simp at hc
        omega
end Go.Proofs.YtbdmhdidehfmoaaDoor
