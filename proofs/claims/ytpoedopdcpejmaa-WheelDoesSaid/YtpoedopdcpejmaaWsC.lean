import Derived.Test.YtpoedopdcpejmaaWsA
set_option linter.unusedSimpArgs false
set_option linter.unusedVariables false
namespace Go.Proofs.Ytpoedopdcpejmaa
open Go.Ev

section
variable {L B : Nat} {cv : Value} {lt : Nm → Nm → Prop} {Ok : H → Prop}

/-! ### choosePivot: it reads, and counts in one cell -/
theorem order_law (cm : Cm L B cv lt Ok) {m i j N cb : Nat} {c : Int} {v : Value} {f : Nat → Nm} {h : H} (ok : Ok h) (hok : ∀ hx, Ok h → Keep (· = cb) h hx → Ok hx) (arr : Arr h B v N f) (hi : i < N) (hj : j < N) (hc : Has h cb (.rw [.int .i64 c])) :
    Sp (CF L (m + 5)) 64 [v, .int .i64 (i : Int), .int .i64 (j : Int), .pointer (some ⟨cb, 0, none⟩), cv] h fun r h' => ∃ p q : Nat, r = .tuple [.int .i64 (p : Int), .int .i64 (q : Int)].toArray ∧ ((p = i ∧ q = j) ∨ (p = j ∧ q = i)) ∧ (∃ c', Has h' cb (.rw [.int .i64 c'])) ∧ Keep (· = cb) h h' := by
  refine Sp.body f64 (by simp) ?_
  unfold c64
  refine C.seq fun K hK => hK .norm _ _ (C.seq (C.seq fun K hK => ?_))
  have kr := keep_room h 11
  have ar := arr.keep0 kr
  simp only [↓opStep_eq, ↓reduceIte, ↓EW, EV, Nat.reduceAdd, Nat.reduceEqDiff, Int.reduceEq, Int.reduceLT, Int.reduceLE, Int.reduceNe, seqC, retC, skipC, exitC, blockC, condC, r64_1, ar.ix hi, ar.ix hj, ar.ld hi, ar.ld hj]
  refine cm.go (cm.stay0 kr ok) fun z h2 hz k2 => ?_
  have k02 := kr.then k2
  have hc2 := hc.keep0 k02
  simp only [↓opStep_eq, ↓reduceIte, ↓EW, EV, Nat.reduceAdd, Nat.reduceEqDiff, Int.reduceEq, Int.reduceLT, Int.reduceLE, Int.reduceNe, seqC, retC, skipC, exitC, blockC, condC]
  refine hK _ _ _ (C.cond (decide (z < 0)) (by simp only [↓opStep_eq, ↓reduceIte, ↓EW, EV, Nat.reduceAdd, Nat.reduceEqDiff, Int.reduceEq, Int.reduceLT, Int.reduceLE, Int.reduceNe, seqC, retC, skipC, exitC, blockC, condC]) (fun g => C.seq fun K hK => ?_) fun g => C.skip ?_)
  · have l2 : ∀ s, loadOne h2 (.pointer (some ⟨cb, 0, s⟩)) = some (.int .i64 c) := fun s => by rw [loadOne_has hc2 rfl]; rfl
    have s2 := fun s => store_int (s := s) (o := 0) (k := .i64) (n := IntKind.i64.wrap (c + 1)) hc2 (by simp)
    simp only [↓opStep_eq, ↓reduceIte, ↓EW, EV, Nat.reduceAdd, Nat.reduceEqDiff, Int.reduceEq, Int.reduceLT, Int.reduceLE, Int.reduceNe, seqC, retC, skipC, exitC, blockC, condC, r64_2, nilChk_some, l2, s2]
    refine hK _ _ _ (C.seq fun K hK => hK .norm _ _ (C.ret ⟨.inr rfl, _, rfl, j, i, ?_, .inr ⟨rfl, rfl⟩, ⟨_, Has.put hc2.1⟩, (k02.mono fun _ _ h => h.elim).trans (Keep.put h2 cb _) fun _ _ h => h⟩))
    simp only [↓opStep_eq, ↓reduceIte, ↓EW, EV, Nat.reduceAdd, Nat.reduceEqDiff, Int.reduceEq, Int.reduceLT, Int.reduceLE, Int.reduceNe, seqC, retC, skipC, exitC, blockC, condC, resOf]
  · refine C.seq fun K hK => hK .norm _ _ (C.ret ⟨.inr rfl, _, rfl, i, j, ?_, .inl ⟨rfl, rfl⟩, ⟨c, hc2⟩, k02.mono fun _ _ h => h.elim⟩)
    simp only [↓opStep_eq, ↓reduceIte, ↓EW, EV, Nat.reduceAdd, Nat.reduceEqDiff, Int.reduceEq, Int.reduceLT, Int.reduceLE, Int.reduceNe, seqC, retC, skipC, exitC, blockC, condC, resOf]

theorem median_law (cm : Cm L B cv lt Ok) {m i j k N cb : Nat} {c : Int} {v : Value} {f : Nat → Nm} {h : H} (ok : Ok h) (hok : ∀ h hx, Ok h → Keep (· = cb) h hx → Ok hx) (arr : Arr h B v N f) (hBc : B ≠ cb) (hi : i < N) (hj : j < N) (hk : k < N) (hc : Has h cb (.rw [.int .i64 c])) :
    Sp (CF L (m + 6)) 63 [v, .int .i64 (i : Int), .int .i64 (j : Int), .int .i64 (k : Int), .pointer (some ⟨cb, 0, none⟩), cv] h fun r h' => ∃ p : Nat, r = .int .i64 (p : Int) ∧ (p = i ∨ p = j ∨ p = k) ∧ (∃ c', Has h' cb (.rw [.int .i64 c'])) ∧ Keep (· = cb) h h' := by
  refine Sp.body f63 (by simp) ?_
  unfold c63
  refine C.seq fun K hK => hK .norm _ _ (C.seq fun K hK => ?_)
  simp only [↓opStep_eq, ↓reduceIte, ↓EW, EV, Nat.reduceAdd, Nat.reduceEqDiff, Int.reduceEq, Int.reduceLT, Int.reduceLE, Int.reduceNe, seqC, retC, skipC, exitC, blockC, condC, r63_1]
  refine order_law cm ok (hok h) arr hi hj hc _ fun r h1 hq => ?_
  obtain ⟨p1, q1, rfl, e1, ⟨c1, hc1⟩, k1⟩ := hq
  have ar1 := arr.keep k1 hBc
  have ok1 := hok _ _ ok k1
  simp only [↓opStep_eq, ↓reduceIte, ↓EW, EV, Nat.reduceAdd, Nat.reduceEqDiff, Int.reduceEq, Int.reduceLT, Int.reduceLE, Int.reduceNe, seqC, retC, skipC, exitC, blockC, condC, tupNth_tuple]
  refine hK _ _ _ (C.seq fun K hK => ?_)
  simp only [↓opStep_eq, ↓reduceIte, ↓EW, EV, Nat.reduceAdd, Nat.reduceEqDiff, Int.reduceEq, Int.reduceLT, Int.reduceLE, Int.reduceNe, seqC, retC, skipC, exitC, blockC, condC, r63_2]
  refine order_law cm ok1 (hok h1) ar1 (show q1 < N by omega) hk hc1 _ fun r h2 hq => ?_
  obtain ⟨p2, q2, rfl, e2, ⟨c2, hc2⟩, k2⟩ := hq
  have ar2 := ar1.keep k2 hBc
  have ok2 := hok _ _ ok1 k2
  simp only [↓opStep_eq, ↓reduceIte, ↓EW, EV, Nat.reduceAdd, Nat.reduceEqDiff, Int.reduceEq, Int.reduceLT, Int.reduceLE, Int.reduceNe, seqC, retC, skipC, exitC, blockC, condC, tupNth_tuple]
  refine hK _ _ _ (C.seq fun K hK => ?_)
  simp only [↓opStep_eq, ↓reduceIte, ↓EW, EV, Nat.reduceAdd, Nat.reduceEqDiff, Int.reduceEq, Int.reduceLT, Int.reduceLE, Int.reduceNe, seqC, retC, skipC, exitC, blockC, condC, r63_3]
  refine order_law cm ok2 (hok h2) ar2 (show p1 < N by omega) (show p2 < N by omega) hc2 _ fun r h3 hq => ?_
  obtain ⟨p3, q3, rfl, e3, ⟨c3, hc3⟩, k3⟩ := hq
  simp only [↓opStep_eq, ↓reduceIte, ↓EW, EV, Nat.reduceAdd, Nat.reduceEqDiff, Int.reduceEq, Int.reduceLT, Int.reduceLE, Int.reduceNe, seqC, retC, skipC, exitC, blockC, condC, tupNth_tuple]
  refine hK _ _ _ (C.seq fun K hK => ?_)
  simp only [↓opStep_eq, ↓reduceIte, ↓EW, EV, Nat.reduceAdd, Nat.reduceEqDiff, Int.reduceEq, Int.reduceLT, Int.reduceLE, Int.reduceNe, seqC, retC, skipC, exitC, blockC, condC, r63_4]
  refine hK _ _ _ (C.ret ⟨.inr rfl, _, rfl, q3, by simp only [↓opStep_eq, ↓reduceIte, ↓EW, EV, Nat.reduceAdd, Nat.reduceEqDiff, Int.reduceEq, Int.reduceLT, Int.reduceLE, Int.reduceNe, seqC, retC, skipC, exitC, blockC, condC, resOf], by omega, ⟨c3, hc3⟩, (k1.trans k2 fun _ _ h => h).trans k3 fun _ _ h => h⟩)

theorem adj_law (cm : Cm L B cv lt Ok) {m i N cb : Nat} {c : Int} {v : Value} {f : Nat → Nm} {h : H} (ok : Ok h) (hok : ∀ h hx, Ok h → Keep (· = cb) h hx → Ok hx) (arr : Arr h B v N f) (hBc : B ≠ cb) (hi : 1 ≤ i) (hi2 : i + 1 < N) (hN : N < 60000) (hc : Has h cb (.rw [.int .i64 c])) :
    Sp (CF L (m + 7)) 62 [v, .int .i64 (i : Int), .pointer (some ⟨cb, 0, none⟩), cv] h fun r h' => ∃ p : Nat, r = .int .i64 (p : Int) ∧ i - 1 ≤ p ∧ p ≤ i + 1 ∧ (∃ c', Has h' cb (.rw [.int .i64 c'])) ∧ Keep (· = cb) h h' := by
  refine Sp.body f62 (by simp) ?_
  unfold c62
  refine C.seq fun K hK => hK .norm _ _ (C.seq fun K hK => ?_)
  have w1 := wsub1 i hi (by omega)
  have w2 := wadd1 i (by omega)
  simp only [↓opStep_eq, ↓reduceIte, ↓EW, EV, Nat.reduceAdd, Nat.reduceEqDiff, Int.reduceEq, Int.reduceLT, Int.reduceLE, Int.reduceNe, seqC, retC, skipC, exitC, blockC, condC, r62_1, w1, w2]
  refine median_law cm ok hok arr hBc (show i - 1 < N by omega) (show i < N by omega) hi2 hc _ fun r h1 hq => ?_
  obtain ⟨p, rfl, e, hc1, k1⟩ := hq
  exact hK _ _ _ (C.ret ⟨.inr rfl, _, rfl, p, by simp only [↓opStep_eq, ↓reduceIte, ↓EW, EV, Nat.reduceAdd, Nat.reduceEqDiff, Int.reduceEq, Int.reduceLT, Int.reduceLE, Int.reduceNe, seqC, retC, skipC, exitC, blockC, condC, resOf], by omega, by omega, hc1, k1⟩)

theorem pivot_law (cm : Cm L B cv lt Ok) {m a b N : Nat} {v : Value} {f : Nat → Nm} {h : H} (ok : Ok h) (hok : ∀ cb, h.next ≤ cb → ∀ h1 hx, Ok h1 → Keep (· = cb) h1 hx → Ok hx) (arr : Arr h B v N f) (hb : b ≤ N) (hN : N < 60000) (hab : a + 12 < b) :
    Sp (CF L (m + 8)) 50 [v, .int .i64 (a : Int), .int .i64 (b : Int), cv] h fun r h' => ∃ (p : Nat) (hint : Int), r = .tuple [.int .i64 (p : Int), .int .i64 hint].toArray ∧ a ≤ p ∧ p < b ∧ Keep nobody h h' := by
  refine Sp.body f50 (by simp) ?_
  unfold c50
  obtain ⟨l, hl⟩ : ∃ l, b = a + l := ⟨b - a, by omega⟩
  subst hl
  have hw : IntKind.i64.wrap (((a + l : Nat) : Int) - (a : Int)) = (l : Int) := by
    rw [show ((a + l : Nat) : Int) - (a : Int) = (l : Int) by omega, wrap_i64 _ (by omega)]
  have q4 := quo_nat 3 true l 4 (by decide) (by omega)
  have c4 : ((4 : Nat) : Int) = 4 := rfl
  rw [c4] at q4
  have w1 : IntKind.i64.wrap (((l / 4 : Nat) : Int) * 1) = ((l / 4 : Nat) : Int) := by
    rw [Int.mul_one, wrap_i64 _ (by omega)]
  have w2 : IntKind.i64.wrap (((l / 4 : Nat) : Int) * 2) = ((l / 4 * 2 : Nat) : Int) := by
    rw [show ((l / 4 : Nat) : Int) * 2 = ((l / 4 * 2 : Nat) : Int) by omega, wrap_i64 _ (by omega)]
  have w3 : IntKind.i64.wrap (((l / 4 : Nat) : Int) * 3) = ((l / 4 * 3 : Nat) : Int) := by
    rw [show ((l / 4 : Nat) : Int) * 3 = ((l / 4 * 3 : Nat) : Int) by omega, wrap_i64 _ (by omega)]
  have a1 := wadd a (l / 4) (by omega)
  have a2 := wadd a (l / 4 * 2) (by omega)
  have a3 := wadd a (l / 4 * 3) (by omega)
  have g8 : (8 : Int) ≤ (l : Int) := by omega
  have kn := Keep.new h (.rw [.int .i64 0])
  have bn := Has.new h (.rw [.int .i64 0])
  have hBn := arr.lt
  refine C.seq fun K hK => hK .norm _ _ (C.seq fun K hK => ?_)
  simp only [↓opStep_eq, ↓reduceIte, ↓EW, EV, Nat.reduceAdd, Nat.reduceEqDiff, Int.reduceEq, Int.reduceLT, Int.reduceLE, Int.reduceNe, seqC, retC, skipC, exitC, blockC, condC, r50_1, hw]
  refine hK _ _ _ (C.seq fun K hK => ?_)
  simp only [↓opStep_eq, ↓reduceIte, ↓EW, EV, Nat.reduceAdd, Nat.reduceEqDiff, Int.reduceEq, Int.reduceLT, Int.reduceLE, Int.reduceNe, seqC, retC, skipC, exitC, blockC, condC, r50_2]
  generalize h.new (.rw [.int .i64 0]) = h1 at *
  refine hK _ _ _ (C.seq fun K hK => ?_)
  simp only [↓opStep_eq, ↓reduceIte, ↓EW, EV, Nat.reduceAdd, Nat.reduceEqDiff, Int.reduceEq, Int.reduceLT, Int.reduceLE, Int.reduceNe, seqC, retC, skipC, exitC, blockC, condC, r50_3, q4, w1, a1]
  refine hK _ _ _ (C.seq fun K hK => ?_)
  simp only [↓opStep_eq, ↓reduceIte, ↓EW, EV, Nat.reduceAdd, Nat.reduceEqDiff, Int.reduceEq, Int.reduceLT, Int.reduceLE, Int.reduceNe, seqC, retC, skipC, exitC, blockC, condC, r50_4, q4, w2, a2]
  refine hK _ _ _ (C.seq fun K hK => ?_)
  simp only [↓opStep_eq, ↓reduceIte, ↓EW, EV, Nat.reduceAdd, Nat.reduceEqDiff, Int.reduceEq, Int.reduceLT, Int.reduceLE, Int.reduceNe, seqC, retC, skipC, exitC, blockC, condC, r50_5, q4, w3, a3]
  refine hK _ _ _ (C.seq (C.seq fun K hK => ?_))
  simp only [↓opStep_eq, ↓reduceIte, ↓EW, EV, Nat.reduceAdd, Nat.reduceEqDiff, Int.reduceEq, Int.reduceLT, Int.reduceLE, Int.reduceNe, seqC, retC, skipC, exitC, blockC, condC, r50_6, g8]
  refine hK _ _ _ (C.cond true (by simp only [↓opStep_eq, ↓reduceIte, ↓EW, EV, Nat.reduceAdd, Nat.reduceEqDiff, Int.reduceEq, Int.reduceLT, Int.reduceLE, Int.reduceNe, seqC, retC, skipC, exitC, blockC, condC]) (fun g => ?_) fun g => by cases g)
  have hokc := hok h.next (Nat.le_refl _)
  have ok1 := cm.stay0 kn ok
  have ar1 := arr.keep0 kn
  have hBc : B ≠ h.next := by omega
  -- the median of three
  have last : ∀ (i j k : Nat) (c : Int) (h2 : H) (tm2 : T Value) (Q : Ex → T Value → Ev.H → Prop), a ≤ i → i < a + l → a ≤ j → j < a + l → a ≤ k → k < a + l → Keep (· = h.next) h1 h2 → Has h2 h.next (.rw [.int .i64 c]) → tg tm2 0 = v → tg tm2 3 = cv → tg tm2 11 = .pointer (some ⟨h.next, 0, none⟩) → tg tm2 12 = .int .i64 (i : Int) → tg tm2 13 = .int .i64 (j : Int) → tg tm2 14 = .int .i64 (k : Int) →
      (∀ (p : Nat) h' tm', a ≤ p → p < a + l → Keep (· = h.next) h1 h' → (∃ c', Has h' h.next (.rw [.int .i64 c'])) → tg tm' 11 = .pointer (some ⟨h.next, 0, none⟩) → tg tm' 13 = .int .i64 (p : Int) → Q .norm tm' h') → C ⟨r50_11⟩ (CF L (m + 7)) L tm2 h2 Q := fun i j k c h2 tm2 Q i1 i2 j1 j2 k1 k2 kk hc u0 u3 u11 u12 u13 u14 hQ => by
    intro K hK
    simp only [↓opStep_eq, ↓reduceIte, ↓EW, EV, Nat.reduceAdd, Nat.reduceEqDiff, Int.reduceEq, Int.reduceLT, Int.reduceLE, Int.reduceNe, seqC, retC, skipC, exitC, blockC, condC, r50_11, u0, u3, u11, u12, u13, u14]
    refine median_law cm (hokc _ _ ok1 kk) hokc (ar1.keep kk hBc) hBc (show i < N by omega) (show j < N by omega) (show k < N by omega) hc _ fun r h3 hq => ?_
    obtain ⟨p, rfl, e, hc3, k3⟩ := hq
    exact hK _ _ _ (hQ p h3 _ (by omega) (by omega) (kk.trans k3 fun _ _ h => h) hc3 (by simp only [↓opStep_eq, ↓reduceIte, ↓EW, EV, Nat.reduceAdd, Nat.reduceEqDiff, Int.reduceEq, Int.reduceLT, Int.reduceLE, Int.reduceNe, seqC, retC, skipC, exitC, blockC, condC, u11]) (by simp only [↓opStep_eq, ↓reduceIte, ↓EW, EV, Nat.reduceAdd, Nat.reduceEqDiff, Int.reduceEq, Int.reduceLT, Int.reduceLE, Int.reduceNe, seqC, retC, skipC, exitC, blockC, condC]))
  -- behind it
  have fin : ∀ (p : Nat) h' tm' (Q : Ex → T Value → Ev.H → Prop), a ≤ p → p < a + l → Keep (· = h.next) h1 h' → (∃ c', Has h' h.next (.rw [.int .i64 c'])) → tg tm' 11 = .pointer (some ⟨h.next, 0, none⟩) → tg tm' 13 = .int .i64 (p : Int) →
      (∀ tm2 (hint : Int), tg tm2 8 = .int .i64 (p : Int) → tg tm2 9 = .int .i64 hint → Q .ret tm2 h') →
      C ⟨seqC ⟨r50_12⟩ ⟨blockC 0 ⟨seqC ⟨r50_14⟩ ⟨condC ⟨fun _ tm => tg tm 57⟩ ⟨seqC ⟨r50_15⟩ retC⟩ ⟨seqC ⟨r50_16⟩ ⟨condC ⟨fun _ tm => tg tm 60⟩ ⟨seqC ⟨r50_17⟩ retC⟩ ⟨seqC ⟨r50_13⟩ retC⟩⟩⟩⟩⟩⟩⟩ (CF L (m + 7)) L tm' h' Q := fun p h' tm' Q hp1 hp2 kk ⟨c', hc⟩ u11 u13 hQ => by
    refine C.seq fun K hK => ?_
    have l2 : ∀ s, loadOne h' (.pointer (some ⟨h.next, 0, s⟩)) = some (.int .i64 c') := fun s => by rw [loadOne_has hc rfl]; rfl
    simp only [↓opStep_eq, ↓reduceIte, ↓EW, EV, Nat.reduceAdd, Nat.reduceEqDiff, Int.reduceEq, Int.reduceLT, Int.reduceLE, Int.reduceNe, seqC, retC, skipC, exitC, blockC, condC, r50_12, u11, l2]
    refine hK _ _ _ (C.block (C.seq fun K hK => ?_))
    simp only [↓opStep_eq, ↓reduceIte, ↓EW, EV, Nat.reduceAdd, Nat.reduceEqDiff, Int.reduceEq, Int.reduceLT, Int.reduceLE, Int.reduceNe, seqC, retC, skipC, exitC, blockC, condC, r50_14]
    refine hK _ _ _ (C.cond (decide (c' = 0)) (by simp only [↓opStep_eq, ↓reduceIte, ↓EW, EV, Nat.reduceAdd, Nat.reduceEqDiff, Int.reduceEq, Int.reduceLT, Int.reduceLE, Int.reduceNe, seqC, retC, skipC, exitC, blockC, condC]) (fun g => C.seq fun K hK => ?_) fun g => C.seq fun K hK => ?_)
    · simp only [↓opStep_eq, ↓reduceIte, ↓EW, EV, Nat.reduceAdd, Nat.reduceEqDiff, Int.reduceEq, Int.reduceLT, Int.reduceLE, Int.reduceNe, seqC, retC, skipC, exitC, blockC, condC, r50_15, u13]
      refine hK _ _ _ (C.ret (hQ _ 1 ?_ ?_))
      · simp only [↓opStep_eq, ↓reduceIte, ↓EW, EV, Nat.reduceAdd, Nat.reduceEqDiff, Int.reduceEq, Int.reduceLT, Int.reduceLE, Int.reduceNe, seqC, retC, skipC, exitC, blockC, condC]
      · simp only [↓opStep_eq, ↓reduceIte, ↓EW, EV, Nat.reduceAdd, Nat.reduceEqDiff, Int.reduceEq, Int.reduceLT, Int.reduceLE, Int.reduceNe, seqC, retC, skipC, exitC, blockC, condC]
    · simp only [↓opStep_eq, ↓reduceIte, ↓EW, EV, Nat.reduceAdd, Nat.reduceEqDiff, Int.reduceEq, Int.reduceLT, Int.reduceLE, Int.reduceNe, seqC, retC, skipC, exitC, blockC, condC, r50_16]
      refine hK _ _ _ (C.cond (decide (c' = 12)) (by simp only [↓opStep_eq, ↓reduceIte, ↓EW, EV, Nat.reduceAdd, Nat.reduceEqDiff, Int.reduceEq, Int.reduceLT, Int.reduceLE, Int.reduceNe, seqC, retC, skipC, exitC, blockC, condC]) (fun g => C.seq fun K hK => ?_) fun g => C.seq fun K hK => ?_)
      · simp only [↓opStep_eq, ↓reduceIte, ↓EW, EV, Nat.reduceAdd, Nat.reduceEqDiff, Int.reduceEq, Int.reduceLT, Int.reduceLE, Int.reduceNe, seqC, retC, skipC, exitC, blockC, condC, r50_17, u13]
        refine hK _ _ _ (C.ret (hQ _ 2 ?_ ?_))
        · simp only [↓opStep_eq, ↓reduceIte, ↓EW, EV, Nat.reduceAdd, Nat.reduceEqDiff, Int.reduceEq, Int.reduceLT, Int.reduceLE, Int.reduceNe, seqC, retC, skipC, exitC, blockC, condC]
        · simp only [↓opStep_eq, ↓reduceIte, ↓EW, EV, Nat.reduceAdd, Nat.reduceEqDiff, Int.reduceEq, Int.reduceLT, Int.reduceLE, Int.reduceNe, seqC, retC, skipC, exitC, blockC, condC]
      · simp only [↓opStep_eq, ↓reduceIte, ↓EW, EV, Nat.reduceAdd, Nat.reduceEqDiff, Int.reduceEq, Int.reduceLT, Int.reduceLE, Int.reduceNe, seqC, retC, skipC, exitC, blockC, condC, r50_13, u13]
        refine hK _ _ _ (C.ret (hQ _ 0 ?_ ?_))
        · simp only [↓opStep_eq, ↓reduceIte, ↓EW, EV, Nat.reduceAdd, Nat.reduceEqDiff, Int.reduceEq, Int.reduceLT, Int.reduceLE, Int.reduceNe, seqC, retC, skipC, exitC, blockC, condC]
        · simp only [↓opStep_eq, ↓reduceIte, ↓EW, EV, Nat.reduceAdd, Nat.reduceEqDiff, Int.reduceEq, Int.reduceLT, Int.reduceLE, Int.reduceNe, seqC, retC, skipC, exitC, blockC, condC]
  have post : ∀ (p : Nat) h' tm2 (hint : Int), a ≤ p → p < a + l → Keep (· = h.next) h1 h' → tg tm2 8 = .int .i64 (p : Int) → tg tm2 9 = .int .i64 hint → ∃ l', q50.f tm2 h' = some l' ∧ ∃ (p : Nat) (hint : Int), resOf l' = .tuple [.int .i64 (p : Int), .int .i64 hint].toArray ∧ a ≤ p ∧ p < a + l ∧ Keep nobody h h' := fun p h' tm2 hint hp1 hp2 kk u8 u9 => by
    refine ⟨_, rfl, p, hint, ?_, hp1, hp2, kn.trans kk fun c hc e => by omega⟩
    simp only [resOf, u8, u9]
  refine C.seq (C.seq fun K hK => ?_)
  simp only [↓opStep_eq, ↓reduceIte, ↓EW, EV, Nat.reduceAdd, Nat.reduceEqDiff, Int.reduceEq, Int.reduceLT, Int.reduceLE, Int.reduceNe, seqC, retC, skipC, exitC, blockC, condC, r50_7]
  refine hK _ _ _ (C.cond (decide ((50 : Int) ≤ (l : Int))) (by simp only [↓opStep_eq, ↓reduceIte, ↓EW, EV, Nat.reduceAdd, Nat.reduceEqDiff, Int.reduceEq, Int.reduceLT, Int.reduceLE, Int.reduceNe, seqC, retC, skipC, exitC, blockC, condC]) (fun g5 => ?_) fun g5 => C.skip ?_)
  · have g5 : 50 ≤ l := by have := of_decide_eq_true g5; omega
    refine C.seq fun K hK => ?_
    simp only [↓opStep_eq, ↓reduceIte, ↓EW, EV, Nat.reduceAdd, Nat.reduceEqDiff, Int.reduceEq, Int.reduceLT, Int.reduceLE, Int.reduceNe, seqC, retC, skipC, exitC, blockC, condC, r50_8]
    refine adj_law cm ok1 hokc ar1 hBc (show 1 ≤ a + l / 4 by omega) (by omega) hN bn _ fun r h2 hq => ?_
    obtain ⟨i, rfl, i1, i2, ⟨c2, hc2⟩, k2⟩ := hq
    refine hK _ _ _ (C.seq fun K hK => ?_)
    simp only [↓opStep_eq, ↓reduceIte, ↓EW, EV, Nat.reduceAdd, Nat.reduceEqDiff, Int.reduceEq, Int.reduceLT, Int.reduceLE, Int.reduceNe, seqC, retC, skipC, exitC, blockC, condC, r50_9]
    refine adj_law cm (hokc _ _ ok1 k2) hokc (ar1.keep k2 hBc) hBc (show 1 ≤ a + l / 4 * 2 by omega) (by omega) hN hc2 _ fun r h3 hq => ?_
    obtain ⟨j, rfl, j1, j2, ⟨c3, hc3⟩, k3⟩ := hq
    have k23 := k2.trans k3 fun _ _ h => h
    refine hK _ _ _ fun K hK => ?_
    simp only [↓opStep_eq, ↓reduceIte, ↓EW, EV, Nat.reduceAdd, Nat.reduceEqDiff, Int.reduceEq, Int.reduceLT, Int.reduceLE, Int.reduceNe, seqC, retC, skipC, exitC, blockC, condC, r50_10]
    refine adj_law cm (hokc _ _ ok1 k23) hokc (ar1.keep k23 hBc) hBc (show 1 ≤ a + l / 4 * 3 by omega) (by omega) hN hc3 _ fun r h4 hq => ?_
    obtain ⟨k, rfl, kk1, kk2, ⟨c4', hc4⟩, k4⟩ := hq
    refine hK _ _ _ (last i j k c4' h4 _ _ (by omega) (by omega) (by omega) (by omega) (by omega) (by omega) (k23.trans k4 fun _ _ h => h) hc4 ?_ ?_ ?_ ?_ ?_ ?_ fun p h' tm' p1 p2 kp hcp u11 u13 => fin p h' tm' _ p1 p2 kp hcp u11 u13 fun tm2 hint u8 u9 => ⟨.inr rfl, post p h' tm2 hint p1 p2 kp u8 u9⟩)
    · simp only [↓opStep_eq, ↓reduceIte, ↓EW, EV, Nat.reduceAdd, Nat.reduceEqDiff, Int.reduceEq, Int.reduceLT, Int.reduceLE, Int.reduceNe, seqC, retC, skipC, exitC, blockC, condC]
    · simp only [↓opStep_eq, ↓reduceIte, ↓EW, EV, Nat.reduceAdd, Nat.reduceEqDiff, Int.reduceEq, Int.reduceLT, Int.reduceLE, Int.reduceNe, seqC, retC, skipC, exitC, blockC, condC]
    · simp only [↓opStep_eq, ↓reduceIte, ↓EW, EV, Nat.reduceAdd, Nat.reduceEqDiff, Int.reduceEq, Int.reduceLT, Int.reduceLE, Int.reduceNe, seqC, retC, skipC, exitC, blockC, condC]
    · simp only [↓opStep_eq, ↓reduceIte, ↓EW, EV, Nat.reduceAdd, Nat.reduceEqDiff, Int.reduceEq, Int.reduceLT, Int.reduceLE, Int.reduceNe, seqC, retC, skipC, exitC, blockC, condC]
    · simp only [↓opStep_eq, ↓reduceIte, ↓EW, EV, Nat.reduceAdd, Nat.reduceEqDiff, Int.reduceEq, Int.reduceLT, Int.reduceLE, Int.reduceNe, seqC, retC, skipC, exitC, blockC, condC]
    · simp only [↓opStep_eq, ↓reduceIte, ↓EW, EV, Nat.reduceAdd, Nat.reduceEqDiff, Int.reduceEq, Int.reduceLT, Int.reduceLE, Int.reduceNe, seqC, retC, skipC, exitC, blockC, condC]
  · refine last (a + l / 4) (a + l / 4 * 2) (a + l / 4 * 3) 0 h1 _ _ (by omega) (by omega) (by omega) (by omega) (by omega) (by omega) (.refl _ _) bn ?_ ?_ ?_ ?_ ?_ ?_ fun p h' tm' p1 p2 kp hcp u11 u13 => fin p h' tm' _ p1 p2 kp hcp u11 u13 fun tm2 hint u8 u9 => ⟨.inr rfl, post p h' tm2 hint p1 p2 kp u8 u9⟩
    · simp only [↓opStep_eq, ↓reduceIte, ↓EW, EV, Nat.reduceAdd, Nat.reduceEqDiff, Int.reduceEq, Int.reduceLT, Int.reduceLE, Int.reduceNe, seqC, retC, skipC, exitC, blockC, condC]
    · simp only [↓opStep_eq, ↓reduceIte, ↓EW, EV, Nat.reduceAdd, Nat.reduceEqDiff, Int.reduceEq, Int.reduceLT, Int.reduceLE, Int.reduceNe, seqC, retC, skipC, exitC, blockC, condC]
    · simp only [↓opStep_eq, ↓reduceIte, ↓EW, EV, Nat.reduceAdd, Nat.reduceEqDiff, Int.reduceEq, Int.reduceLT, Int.reduceLE, Int.reduceNe, seqC, retC, skipC, exitC, blockC, condC]
    · simp only [↓opStep_eq, ↓reduceIte, ↓EW, EV, Nat.reduceAdd, Nat.reduceEqDiff, Int.reduceEq, Int.reduceLT, Int.reduceLE, Int.reduceNe, seqC, retC, skipC, exitC, blockC, condC]
    · simp only [↓opStep_eq, ↓reduceIte, ↓EW, EV, Nat.reduceAdd, Nat.reduceEqDiff, Int.reduceEq, Int.reduceLT, Int.reduceLE, Int.reduceNe, seqC, retC, skipC, exitC, blockC, condC]
    · simp only [↓opStep_eq, ↓reduceIte, ↓EW, EV, Nat.reduceAdd, Nat.reduceEqDiff, Int.reduceEq, Int.reduceLT, Int.reduceLE, Int.reduceNe, seqC, retC, skipC, exitC, blockC, condC]

/-! ### reverseRange -/
theorem reverse_law (m : Nat) {a b N : Nat} {v : Value} {f : Nat → Nm} {h : H} (arr : Arr h B v N f) (hb : b ≤ N) (hN : N < 60000) (hL : N < L) (hab : a < b) :
    Sp (CF L (m + 1)) 51 [v, .int .i64 (a : Int), .int .i64 (b : Int), cv] h fun r h' => ∃ f', Arr h' B v N f' ∧ Sw a b f f' ∧ Keep (· = B) h h' := by
  refine Sp.body f51 (by simp) ?_
  unfold c51
  have w1 := wsub1 b (by omega) (by omega)
  refine C.seq fun K hK => hK .norm _ _ (C.seq fun K hK => ?_)
  simp only [↓opStep_eq, ↓reduceIte, ↓EW, EV, Nat.reduceAdd, Nat.reduceEqDiff, Int.reduceEq, Int.reduceLT, Int.reduceLE, Int.reduceNe, seqC, retC, skipC, exitC, blockC, condC, r51_1, w1]
  refine hK .norm _ _ ?_
  refine C.block (C.loop (fun k tm' hx => ∃ i j f', k = j - i ∧ a ≤ i ∧ i ≤ b ∧ a ≤ j + 1 ∧ j < b ∧ tg tm' 0 = v ∧ tg tm' 8 = .int .i64 (i : Int) ∧ tg tm' 9 = .int .i64 (j : Int) ∧ Arr hx B v N f' ∧ Sw a b f f' ∧ Keep (· = B) h hx) (b - 1 - a) (by omega)
    ⟨a, b - 1, f, rfl, by omega, by omega, by omega, by omega, by simp only [↓opStep_eq, ↓reduceIte, ↓EW, EV, Nat.reduceAdd, Nat.reduceEqDiff, Int.reduceEq, Int.reduceLT, Int.reduceLE, Int.reduceNe, seqC, retC, skipC, exitC, blockC, condC], by simp only [↓opStep_eq, ↓reduceIte, ↓EW, EV, Nat.reduceAdd, Nat.reduceEqDiff, Int.reduceEq, Int.reduceLT, Int.reduceLE, Int.reduceNe, seqC, retC, skipC, exitC, blockC, condC], by simp only [↓opStep_eq, ↓reduceIte, ↓EW, EV, Nat.reduceAdd, Nat.reduceEqDiff, Int.reduceEq, Int.reduceLT, Int.reduceLE, Int.reduceNe, seqC, retC, skipC, exitC, blockC, condC], arr, .refl _, .refl _ _⟩ ?_)
  rintro k tm hx ⟨i, j, f1, rfl, hi, hi2, hj1, hj2, t0, t8, t9, ar1, sw1, k1⟩
  unfold l51_6
  refine C.seq (C.seq fun K hK => ?_)
  simp only [↓opStep_eq, ↓reduceIte, ↓EW, EV, Nat.reduceAdd, Nat.reduceEqDiff, Int.reduceEq, Int.reduceLT, Int.reduceLE, Int.reduceNe, seqC, retC, skipC, exitC, blockC, condC, r51_2, t8, t9]
  refine hK _ _ _ (C.cond (decide ((i : Int) < (j : Int))) (by simp only [↓opStep_eq, ↓reduceIte, ↓EW, EV, Nat.reduceAdd, Nat.reduceEqDiff, Int.reduceEq, Int.reduceLT, Int.reduceLE, Int.reduceNe, seqC, retC, skipC, exitC, blockC, condC]) (fun g => C.skip ?_) fun g => C.exit ?_)
  · have g : i < j := by have := of_decide_eq_true g; omega
    refine C.block (C.seq fun K hK => ?_)
    have kr := keep_room hx 16
    have ar4 := ar1.keep0 kr
    obtain ⟨h5, h6, s1, s2, ar6, k6⟩ := ar4.swap (p := j) (q := i) (by omega) (by omega)
    simp only [↓opStep_eq, ↓reduceIte, ↓EW, EV, Nat.reduceAdd, Nat.reduceEqDiff, Int.reduceEq, Int.reduceLT, Int.reduceLE, Int.reduceNe, seqC, retC, skipC, exitC, blockC, condC, r51_3, t0, t8, t9, ar4.ix (show i < N by omega), ar4.ix (show j < N by omega), ar4.ld (show i < N by omega), ar4.ld (show j < N by omega), s1, s2]
    have w2 := wadd1 i (by omega)
    have w3 := wsub1 j (by omega) (by omega)
    refine hK _ _ _ (C.seq fun K hK => ?_)
    simp only [↓opStep_eq, ↓reduceIte, ↓EW, EV, Nat.reduceAdd, Nat.reduceEqDiff, Int.reduceEq, Int.reduceLT, Int.reduceLE, Int.reduceNe, seqC, retC, skipC, exitC, blockC, condC, r51_4, t8, w2]
    refine hK _ _ _ fun K hK => ?_
    simp only [↓opStep_eq, ↓reduceIte, ↓EW, EV, Nat.reduceAdd, Nat.reduceEqDiff, Int.reduceEq, Int.reduceLT, Int.reduceLE, Int.reduceNe, seqC, retC, skipC, exitC, blockC, condC, r51_5, t9, w3]
    exact hK _ _ _ ⟨j - 1 - (i + 1), by omega, i + 1, j - 1, _, rfl, by omega, by omega, by omega, by omega, by simp only [↓opStep_eq, ↓reduceIte, ↓EW, EV, Nat.reduceAdd, Nat.reduceEqDiff, Int.reduceEq, Int.reduceLT, Int.reduceLE, Int.reduceNe, seqC, retC, skipC, exitC, blockC, condC, t0], by simp only [↓opStep_eq, ↓reduceIte, ↓EW, EV, Nat.reduceAdd, Nat.reduceEqDiff, Int.reduceEq, Int.reduceLT, Int.reduceLE, Int.reduceNe, seqC, retC, skipC, exitC, blockC, condC], by simp only [↓opStep_eq, ↓reduceIte, ↓EW, EV, Nat.reduceAdd, Nat.reduceEqDiff, Int.reduceEq, Int.reduceLT, Int.reduceLE, Int.reduceNe, seqC, retC, skipC, exitC, blockC, condC], ar6, .step i j sw1 (by omega) (by omega) (by omega) (by omega), (k1.then kr).trans k6 fun _ _ h => h⟩
  · simp only [if_pos]
    exact ⟨(by first | exact .inl rfl | exact .inl trivial), _, rfl, f1, ar1, sw1, k1⟩
end
end Go.Proofs.Ytpoedopdcpejmaa

namespace Go.Proofs.Ytpoedopdcpejmaa
open Go.Ev

section
variable {L B : Nat} {cv : Value} {lt : Nm → Nm → Prop} {Ok : H → Prop}

theorem r54_3_go (cm : Cm L B cv lt Ok) {m a i j N : Nat} {v : Value} {f : Nat → Nm} {tm : T Value} {h : H} {K : KE} (ok : Ok h) (arr : Arr h B v N f) (ha : a < N) (hj : j < N) (t0 : tg tm 0 = v) (t1 : tg tm 1 = .int .i64 (a : Int)) (t4 : tg tm 4 = cv) (t12 : tg tm 12 = .int .i64 (i : Int)) (t13 : tg tm 13 = .int .i64 (j : Int)) (hK : ∀ d h', Keep nobody h h' → (d = true ↔ (i ≤ j ∧ lt (f i) (f a))) → K .norm (T.set tm 47 (.bool d)) [] h' = true) :
    r54_3 (CF L (m + 4)) L tm [] h K = true := by
  have kr := keep_room h 16
  have ar := arr.keep0 kr
  by_cases g : i ≤ j
  · have gI : (i : Int) ≤ (j : Int) := by omega
    simp only [↓opStep_eq, ↓reduceIte, ↓EW, EV, Nat.reduceAdd, Nat.reduceEqDiff, Int.reduceEq, Int.reduceLT, Int.reduceLE, Int.reduceNe, seqC, retC, skipC, exitC, blockC, condC, r54_3, ite2, t0, t1, t4, t12, t13, gI, ar.ix (show i < N by omega), ar.ix ha, ar.ld (show i < N by omega), ar.ld ha]
    refine cm.go (cm.stay0 kr ok) fun c h' hc k => ?_
    simp only [↓opStep_eq, ↓reduceIte, ↓EW, EV, Nat.reduceAdd, Nat.reduceEqDiff, Int.reduceEq, Int.reduceLT, Int.reduceLE, Int.reduceNe, seqC, retC, skipC, exitC, blockC, condC]
    refine hK _ _ (kr.then k) ?_
    rw [decide_eq_true_eq, hc]
    exact ⟨fun h => ⟨g, h⟩, fun h => h.2⟩
  · have gI : ¬ (i : Int) ≤ (j : Int) := by omega
    simp only [↓opStep_eq, ↓reduceIte, ↓EW, EV, Nat.reduceAdd, Nat.reduceEqDiff, Int.reduceEq, Int.reduceLT, Int.reduceLE, Int.reduceNe, seqC, retC, skipC, exitC, blockC, condC, r54_3, ite2, t12, t13, gI]
    exact hK false _ kr ⟨fun h => (by cases h), fun h => absurd h.1 g⟩

theorem r54_5_go (cm : Cm L B cv lt Ok) {m a i j N : Nat} {v : Value} {f : Nat → Nm} {tm : T Value} {h : H} {K : KE} (ok : Ok h) (arr : Arr h B v N f) (ha : a < N) (hj : j < N) (t0 : tg tm 0 = v) (t1 : tg tm 1 = .int .i64 (a : Int)) (t4 : tg tm 4 = cv) (t12 : tg tm 12 = .int .i64 (i : Int)) (t13 : tg tm 13 = .int .i64 (j : Int)) (hK : ∀ d h', Keep nobody h h' → (d = true ↔ (i ≤ j ∧ ¬ lt (f j) (f a))) → K .norm (T.set tm 66 (.bool d)) [] h' = true) :
    r54_5 (CF L (m + 4)) L tm [] h K = true := by
  have kr := keep_room h 17
  have ar := arr.keep0 kr
  by_cases g : i ≤ j
  · have gI : (i : Int) ≤ (j : Int) := by omega
    simp only [↓opStep_eq, ↓reduceIte, ↓EW, EV, Nat.reduceAdd, Nat.reduceEqDiff, Int.reduceEq, Int.reduceLT, Int.reduceLE, Int.reduceNe, seqC, retC, skipC, exitC, blockC, condC, r54_5, ite2, t0, t1, t4, t12, t13, gI, ar.ix hj, ar.ix ha, ar.ld hj, ar.ld ha]
    refine cm.go (cm.stay0 kr ok) fun c h' hc k => ?_
    simp only [↓opStep_eq, ↓reduceIte, ↓EW, EV, Nat.reduceAdd, Nat.reduceEqDiff, Int.reduceEq, Int.reduceLT, Int.reduceLE, Int.reduceNe, seqC, retC, skipC, exitC, blockC, condC]
    refine hK _ _ (kr.then k) ?_
    rw [Bool.not_eq_true', decide_eq_false_iff_not, hc]
    exact ⟨fun h => ⟨g, h⟩, fun h => h.2⟩
  · have gI : ¬ (i : Int) ≤ (j : Int) := by omega
    simp only [↓opStep_eq, ↓reduceIte, ↓EW, EV, Nat.reduceAdd, Nat.reduceEqDiff, Int.reduceEq, Int.reduceLT, Int.reduceLE, Int.reduceNe, seqC, retC, skipC, exitC, blockC, condC, r54_5, ite2, t12, t13, gI]
    exact hK false _ kr ⟨fun h => (by cases h), fun h => absurd h.1 g⟩

theorem r54_13_go (cm : Cm L B cv lt Ok) {m a i j N : Nat} {v : Value} {f : Nat → Nm} {tm : T Value} {h : H} {K : KE} (ok : Ok h) (arr : Arr h B v N f) (ha : a < N) (hj : j < N) (t0 : tg tm 0 = v) (t1 : tg tm 1 = .int .i64 (a : Int)) (t4 : tg tm 4 = cv) (t12 : tg tm 12 = .int .i64 (i : Int)) (t13 : tg tm 13 = .int .i64 (j : Int)) (hK : ∀ d h', Keep nobody h h' → (d = true ↔ (i ≤ j ∧ lt (f i) (f a))) → K .norm (T.set tm 120 (.bool d)) [] h' = true) :
    r54_13 (CF L (m + 4)) L tm [] h K = true := by
  have kr := keep_room h 16
  have ar := arr.keep0 kr
  by_cases g : i ≤ j
  · have gI : (i : Int) ≤ (j : Int) := by omega
    simp only [↓opStep_eq, ↓reduceIte, ↓EW, EV, Nat.reduceAdd, Nat.reduceEqDiff, Int.reduceEq, Int.reduceLT, Int.reduceLE, Int.reduceNe, seqC, retC, skipC, exitC, blockC, condC, r54_13, ite2, t0, t1, t4, t12, t13, gI, ar.ix (show i < N by omega), ar.ix ha, ar.ld (show i < N by omega), ar.ld ha]
    refine cm.go (cm.stay0 kr ok) fun c h' hc k => ?_
    simp only [↓opStep_eq, ↓reduceIte, ↓EW, EV, Nat.reduceAdd, Nat.reduceEqDiff, Int.reduceEq, Int.reduceLT, Int.reduceLE, Int.reduceNe, seqC, retC, skipC, exitC, blockC, condC]
    refine hK _ _ (kr.then k) ?_
    rw [decide_eq_true_eq, hc]
    exact ⟨fun h => ⟨g, h⟩, fun h => h.2⟩
  · have gI : ¬ (i : Int) ≤ (j : Int) := by omega
    simp only [↓opStep_eq, ↓reduceIte, ↓EW, EV, Nat.reduceAdd, Nat.reduceEqDiff, Int.reduceEq, Int.reduceLT, Int.reduceLE, Int.reduceNe, seqC, retC, skipC, exitC, blockC, condC, r54_13, ite2, t12, t13, gI]
    exact hK false _ kr ⟨fun h => (by cases h), fun h => absurd h.1 g⟩

theorem r54_15_go (cm : Cm L B cv lt Ok) {m a i j N : Nat} {v : Value} {f : Nat → Nm} {tm : T Value} {h : H} {K : KE} (ok : Ok h) (arr : Arr h B v N f) (ha : a < N) (hj : j < N) (t0 : tg tm 0 = v) (t1 : tg tm 1 = .int .i64 (a : Int)) (t4 : tg tm 4 = cv) (t12 : tg tm 12 = .int .i64 (i : Int)) (t13 : tg tm 13 = .int .i64 (j : Int)) (hK : ∀ d h', Keep nobody h h' → (d = true ↔ (i ≤ j ∧ ¬ lt (f j) (f a))) → K .norm (T.set tm 139 (.bool d)) [] h' = true) :
    r54_15 (CF L (m + 4)) L tm [] h K = true := by
  have kr := keep_room h 17
  have ar := arr.keep0 kr
  by_cases g : i ≤ j
  · have gI : (i : Int) ≤ (j : Int) := by omega
    simp only [↓opStep_eq, ↓reduceIte, ↓EW, EV, Nat.reduceAdd, Nat.reduceEqDiff, Int.reduceEq, Int.reduceLT, Int.reduceLE, Int.reduceNe, seqC, retC, skipC, exitC, blockC, condC, r54_15, ite2, t0, t1, t4, t12, t13, gI, ar.ix hj, ar.ix ha, ar.ld hj, ar.ld ha]
    refine cm.go (cm.stay0 kr ok) fun c h' hc k => ?_
    simp only [↓opStep_eq, ↓reduceIte, ↓EW, EV, Nat.reduceAdd, Nat.reduceEqDiff, Int.reduceEq, Int.reduceLT, Int.reduceLE, Int.reduceNe, seqC, retC, skipC, exitC, blockC, condC]
    refine hK _ _ (kr.then k) ?_
    rw [Bool.not_eq_true', decide_eq_false_iff_not, hc]
    exact ⟨fun h => ⟨g, h⟩, fun h => h.2⟩
  · have gI : ¬ (i : Int) ≤ (j : Int) := by omega
    simp only [↓opStep_eq, ↓reduceIte, ↓EW, EV, Nat.reduceAdd, Nat.reduceEqDiff, Int.reduceEq, Int.reduceLT, Int.reduceLE, Int.reduceNe, seqC, retC, skipC, exitC, blockC, condC, r54_15, ite2, t12, t13, gI]
    exact hK false _ kr ⟨fun h => (by cases h), fun h => absurd h.1 g⟩

structure Ps (lt : Nm → Nm → Prop) (f : Nat → Nm) (a b i j : Nat) : Prop where
  lo : ∀ k, a < k → k < i → lt (f k) (f a)
  hi : ∀ k, j < k → k < b → lt (f a) (f k)
  ai : a < i
  ij : i ≤ j + 1
  jb : j < b
def Tp (v cv : Value) (a b : Nat) (tm : T Value) : Prop := tg tm 0 = v ∧ tg tm 1 = .int .i64 (a : Int) ∧ tg tm 2 = .int .i64 (b : Int) ∧ tg tm 4 = cv
theorem Tp.set {v cv : Value} {a b : Nat} {tm : T Value} (x : Tp v cv a b tm) {j : Nat} {w : Value} (hj : j ≠ 0 ∧ j ≠ 1 ∧ j ≠ 2 ∧ j ≠ 4) : Tp v cv a b (T.set tm j w) := by
  obtain ⟨x0, x1, x2, x4⟩ := x
  refine ⟨?_, ?_, ?_, ?_⟩
  · rw [tg_set, if_neg hj.1]; exact x0
  · rw [tg_set, if_neg hj.2.1]; exact x1
  · rw [tg_set, if_neg hj.2.2.1]; exact x2
  · rw [tg_set, if_neg hj.2.2.2]; exact x4

theorem up_3 (cm : Cm L B cv lt Ok) {m a b i j N : Nat} {v : Value} {f : Nat → Nm} {tm : T Value} {h : H} (ok : Ok h) (arr : Arr h B v N f) (hb : b ≤ N) (hN : N < 60000) (hL : N < L) (ps : Ps lt f a b i j) (x : Tp v cv a b tm) (t12 : tg tm 12 = .int .i64 (i : Int)) (t13 : tg tm 13 = .int .i64 (j : Int)) (Q : Ex → T Value → H → Prop)
    (hQ : ∀ i' h' tm', i ≤ i' → Keep nobody h h' → Ps lt f a b i' j → (j < i' ∨ ¬ lt (f i') (f a)) → Tp v cv a b tm' → tg tm' 12 = .int .i64 (i' : Int) → tg tm' 13 = .int .i64 (j : Int) → Q .norm tm' h') :
    C ⟨blockC 0 (loopB l54_5)⟩ (CF L (m + 4)) L tm h Q := by
  have jb := ps.jb
  have ai := ps.ai
  refine C.block (C.loop (fun k tm' hx => ∃ z, k = j + 1 - z ∧ i ≤ z ∧ Keep nobody h hx ∧ Ps lt f a b z j ∧ Tp v cv a b tm' ∧ tg tm' 12 = .int .i64 (z : Int) ∧ tg tm' 13 = .int .i64 (j : Int)) (j + 1 - i) (by omega)
    ⟨i, rfl, Nat.le_refl _, .refl _ _, ps, x, t12, t13⟩ ?_)
  clear ps x t12 t13 ai
  generalize i = i0 at *
  rintro k tm hx ⟨i, rfl, i0i, kx, ps, x, t12, t13⟩
  have ai := ps.ai
  have ij := ps.ij
  unfold l54_5
  refine C.seq (C.seq fun K hK => ?_)
  refine r54_3_go cm (cm.stay0 kx ok) (arr.keep0 kx) (by omega) (by omega) x.1 x.2.1 x.2.2.2 t12 t13 fun d h3 k3 hd => ?_
  refine hK _ _ _ (C.cond d (by simp only [↓opStep_eq, ↓reduceIte, ↓EW, EV, Nat.reduceAdd, Nat.reduceEqDiff, Int.reduceEq, Int.reduceLT, Int.reduceLE, Int.reduceNe, seqC, retC, skipC, exitC, blockC, condC]) (fun g => C.skip ?_) fun g => C.exit ?_)
  · obtain ⟨g1, g2⟩ := hd.1 g
    refine C.block fun K hK => ?_
    have w := wadd1 i (by omega)
    simp only [↓opStep_eq, ↓reduceIte, ↓EW, EV, Nat.reduceAdd, Nat.reduceEqDiff, Int.reduceEq, Int.reduceLT, Int.reduceLE, Int.reduceNe, seqC, retC, skipC, exitC, blockC, condC, r54_4, t12, w]
    exact hK _ _ _ ⟨j + 1 - (i + 1), by omega, i + 1, rfl, by omega, kx.then k3, ⟨fun k h1 h2 => by
      by_cases e : k = i
      · subst e; exact g2
      · exact ps.lo k h1 (by omega), ps.hi, by omega, by omega, ps.jb⟩, (x.set (by omega)).set (by omega), by simp only [↓opStep_eq, ↓reduceIte, ↓EW, EV, Nat.reduceAdd, Nat.reduceEqDiff, Int.reduceEq, Int.reduceLT, Int.reduceLE, Int.reduceNe, seqC, retC, skipC, exitC, blockC, condC], by simp only [↓opStep_eq, ↓reduceIte, ↓EW, EV, Nat.reduceAdd, Nat.reduceEqDiff, Int.reduceEq, Int.reduceLT, Int.reduceLE, Int.reduceNe, seqC, retC, skipC, exitC, blockC, condC, t13]⟩
  · simp only [if_pos]
    refine hQ i h3 _ i0i (kx.then k3) ps ?_ (x.set (by omega)) (by simp only [↓opStep_eq, ↓reduceIte, ↓EW, EV, Nat.reduceAdd, Nat.reduceEqDiff, Int.reduceEq, Int.reduceLT, Int.reduceLE, Int.reduceNe, seqC, retC, skipC, exitC, blockC, condC, t12]) (by simp only [↓opStep_eq, ↓reduceIte, ↓EW, EV, Nat.reduceAdd, Nat.reduceEqDiff, Int.reduceEq, Int.reduceLT, Int.reduceLE, Int.reduceNe, seqC, retC, skipC, exitC, blockC, condC, t13])
    by_cases e : j < i
    · exact .inl e
    · refine .inr fun h => ?_
      have := hd.2 ⟨by omega, h⟩
      rw [g] at this; cases this

theorem down_5 (cm : Cm L B cv lt Ok) {m a b i j N : Nat} {v : Value} {f : Nat → Nm} {tm : T Value} {h : H} (ok : Ok h) (arr : Arr h B v N f) (inj : Inj f N) (hb : b ≤ N) (hN : N < 60000) (hL : N < L) (ps : Ps lt f a b i j) (hi : j < i ∨ ¬ lt (f i) (f a)) (x : Tp v cv a b tm) (t12 : tg tm 12 = .int .i64 (i : Int)) (t13 : tg tm 13 = .int .i64 (j : Int)) (Q : Ex → T Value → H → Prop)
    (hQ : ∀ j' h' tm', j' ≤ j → Keep nobody h h' → Ps lt f a b i j' → (j' < i ∨ (¬ lt (f i) (f a) ∧ lt (f j') (f a))) → Tp v cv a b tm' → tg tm' 12 = .int .i64 (i : Int) → tg tm' 13 = .int .i64 (j' : Int) → Q .norm tm' h') :
    C ⟨blockC 2 (loopB l54_8)⟩ (CF L (m + 4)) L tm h Q := by
  have jb := ps.jb
  have ai := ps.ai
  refine C.block (C.loop (fun k tm' hx => ∃ z, k = z + 1 - i ∧ z ≤ j ∧ Keep nobody h hx ∧ Ps lt f a b i z ∧ (z < i ∨ ¬ lt (f i) (f a)) ∧ Tp v cv a b tm' ∧ tg tm' 12 = .int .i64 (i : Int) ∧ tg tm' 13 = .int .i64 (z : Int)) (j + 1 - i) (by omega)
    ⟨j, rfl, Nat.le_refl _, .refl _ _, ps, hi, x, t12, t13⟩ ?_)
  clear ps x t12 t13 jb hi
  generalize j = j0 at *
  rintro k tm hx ⟨j, rfl, j0j, kx, ps, hi, x, t12, t13⟩
  have jb := ps.jb
  have ij := ps.ij
  unfold l54_8
  refine C.seq (C.seq fun K hK => ?_)
  refine r54_5_go cm (cm.stay0 kx ok) (arr.keep0 kx) (by omega) (by omega) x.1 x.2.1 x.2.2.2 t12 t13 fun d h3 k3 hd => ?_
  refine hK _ _ _ (C.cond d (by simp only [↓opStep_eq, ↓reduceIte, ↓EW, EV, Nat.reduceAdd, Nat.reduceEqDiff, Int.reduceEq, Int.reduceLT, Int.reduceLE, Int.reduceNe, seqC, retC, skipC, exitC, blockC, condC]) (fun g => C.skip ?_) fun g => C.exit ?_)
  · obtain ⟨g1, g2⟩ := hd.1 g
    refine C.block fun K hK => ?_
    have w := wsub1 j (by omega) (by omega)
    simp only [↓opStep_eq, ↓reduceIte, ↓EW, EV, Nat.reduceAdd, Nat.reduceEqDiff, Int.reduceEq, Int.reduceLT, Int.reduceLE, Int.reduceNe, seqC, retC, skipC, exitC, blockC, condC, r54_6, t13, w]
    refine hK _ _ _ ⟨j - 1 + 1 - i, by omega, j - 1, rfl, by omega, kx.then k3, ⟨ps.lo, fun k h1 h2 => ?_, ps.ai, by omega, by omega⟩, ?_, (x.set (by omega)).set (by omega), by simp only [↓opStep_eq, ↓reduceIte, ↓EW, EV, Nat.reduceAdd, Nat.reduceEqDiff, Int.reduceEq, Int.reduceLT, Int.reduceLE, Int.reduceNe, seqC, retC, skipC, exitC, blockC, condC, t12], by simp only [↓opStep_eq, ↓reduceIte, ↓EW, EV, Nat.reduceAdd, Nat.reduceEqDiff, Int.reduceEq, Int.reduceLT, Int.reduceLE, Int.reduceNe, seqC, retC, skipC, exitC, blockC, condC]⟩
    · by_cases e : k = j
      · subst e
        refine cm.nlt g2 fun e => ?_
        have := inj _ _ (by omega) (by omega) e; omega
      · exact ps.hi k (by omega) h2
    · rcases hi with hi | hi
      · omega
      · exact .inr hi
  · simp only [if_pos]
    refine hQ j h3 _ j0j (kx.then k3) ps ?_ (x.set (by omega)) (by simp only [↓opStep_eq, ↓reduceIte, ↓EW, EV, Nat.reduceAdd, Nat.reduceEqDiff, Int.reduceEq, Int.reduceLT, Int.reduceLE, Int.reduceNe, seqC, retC, skipC, exitC, blockC, condC, t12]) (by simp only [↓opStep_eq, ↓reduceIte, ↓EW, EV, Nat.reduceAdd, Nat.reduceEqDiff, Int.reduceEq, Int.reduceLT, Int.reduceLE, Int.reduceNe, seqC, retC, skipC, exitC, blockC, condC, t13])
    by_cases e : j < i
    · exact .inl e
    · refine .inr ⟨hi.resolve_left e, ?_⟩
      by_cases hl : lt (f j) (f a)
      · exact hl
      · have := hd.2 ⟨by omega, hl⟩
        rw [g] at this; cases this

theorem up_13 (cm : Cm L B cv lt Ok) {m a b i j N : Nat} {v : Value} {f : Nat → Nm} {tm : T Value} {h : H} (ok : Ok h) (arr : Arr h B v N f) (hb : b ≤ N) (hN : N < 60000) (hL : N < L) (ps : Ps lt f a b i j) (x : Tp v cv a b tm) (t12 : tg tm 12 = .int .i64 (i : Int)) (t13 : tg tm 13 = .int .i64 (j : Int)) (Q : Ex → T Value → H → Prop)
    (hQ : ∀ i' h' tm', i ≤ i' → Keep nobody h h' → Ps lt f a b i' j → (j < i' ∨ ¬ lt (f i') (f a)) → Tp v cv a b tm' → tg tm' 12 = .int .i64 (i' : Int) → tg tm' 13 = .int .i64 (j : Int) → Q .norm tm' h') :
    C ⟨blockC 6 (loopB l54_17)⟩ (CF L (m + 4)) L tm h Q := by
  have jb := ps.jb
  have ai := ps.ai
  refine C.block (C.loop (fun k tm' hx => ∃ z, k = j + 1 - z ∧ i ≤ z ∧ Keep nobody h hx ∧ Ps lt f a b z j ∧ Tp v cv a b tm' ∧ tg tm' 12 = .int .i64 (z : Int) ∧ tg tm' 13 = .int .i64 (j : Int)) (j + 1 - i) (by omega)
    ⟨i, rfl, Nat.le_refl _, .refl _ _, ps, x, t12, t13⟩ ?_)
  clear ps x t12 t13 ai
  generalize i = i0 at *
  rintro k tm hx ⟨i, rfl, i0i, kx, ps, x, t12, t13⟩
  have ai := ps.ai
  have ij := ps.ij
  unfold l54_17
  refine C.seq (C.seq fun K hK => ?_)
  refine r54_13_go cm (cm.stay0 kx ok) (arr.keep0 kx) (by omega) (by omega) x.1 x.2.1 x.2.2.2 t12 t13 fun d h3 k3 hd => ?_
  refine hK _ _ _ (C.cond d (by simp only [↓opStep_eq, ↓reduceIte, ↓EW, EV, Nat.reduceAdd, Nat.reduceEqDiff, Int.reduceEq, Int.reduceLT, Int.reduceLE, Int.reduceNe, seqC, retC, skipC, exitC, blockC, condC]) (fun g => C.skip ?_) fun g => C.exit ?_)
  · obtain ⟨g1, g2⟩ := hd.1 g
    refine C.block fun K hK => ?_
    have w := wadd1 i (by omega)
    simp only [↓opStep_eq, ↓reduceIte, ↓EW, EV, Nat.reduceAdd, Nat.reduceEqDiff, Int.reduceEq, Int.reduceLT, Int.reduceLE, Int.reduceNe, seqC, retC, skipC, exitC, blockC, condC, r54_14, t12, w]
    exact hK _ _ _ ⟨j + 1 - (i + 1), by omega, i + 1, rfl, by omega, kx.then k3, ⟨fun k h1 h2 => by
      by_cases e : k = i
      · subst e; exact g2
      · exact ps.lo k h1 (by omega), ps.hi, by omega, by omega, ps.jb⟩, (x.set (by omega)).set (by omega), by simp only [↓opStep_eq, ↓reduceIte, ↓EW, EV, Nat.reduceAdd, Nat.reduceEqDiff, Int.reduceEq, Int.reduceLT, Int.reduceLE, Int.reduceNe, seqC, retC, skipC, exitC, blockC, condC], by simp only [↓opStep_eq, ↓reduceIte, ↓EW, EV, Nat.reduceAdd, Nat.reduceEqDiff, Int.reduceEq, Int.reduceLT, Int.reduceLE, Int.reduceNe, seqC, retC, skipC, exitC, blockC, condC, t13]⟩
  · simp only [if_pos]
    refine hQ i h3 _ i0i (kx.then k3) ps ?_ (x.set (by omega)) (by simp only [↓opStep_eq, ↓reduceIte, ↓EW, EV, Nat.reduceAdd, Nat.reduceEqDiff, Int.reduceEq, Int.reduceLT, Int.reduceLE, Int.reduceNe, seqC, retC, skipC, exitC, blockC, condC, t12]) (by simp only [↓opStep_eq, ↓reduceIte, ↓EW, EV, Nat.reduceAdd, Nat.reduceEqDiff, Int.reduceEq, Int.reduceLT, Int.reduceLE, Int.reduceNe, seqC, retC, skipC, exitC, blockC, condC, t13])
    by_cases e : j < i
    · exact .inl e
    · refine .inr fun h => ?_
      have := hd.2 ⟨by omega, h⟩
      rw [g] at this; cases this

theorem down_15 (cm : Cm L B cv lt Ok) {m a b i j N : Nat} {v : Value} {f : Nat → Nm} {tm : T Value} {h : H} (ok : Ok h) (arr : Arr h B v N f) (inj : Inj f N) (hb : b ≤ N) (hN : N < 60000) (hL : N < L) (ps : Ps lt f a b i j) (hi : j < i ∨ ¬ lt (f i) (f a)) (x : Tp v cv a b tm) (t12 : tg tm 12 = .int .i64 (i : Int)) (t13 : tg tm 13 = .int .i64 (j : Int)) (Q : Ex → T Value → H → Prop)
    (hQ : ∀ j' h' tm', j' ≤ j → Keep nobody h h' → Ps lt f a b i j' → (j' < i ∨ (¬ lt (f i) (f a) ∧ lt (f j') (f a))) → Tp v cv a b tm' → tg tm' 12 = .int .i64 (i : Int) → tg tm' 13 = .int .i64 (j' : Int) → Q .norm tm' h') :
    C ⟨blockC 8 (loopB l54_20)⟩ (CF L (m + 4)) L tm h Q := by
  have jb := ps.jb
  have ai := ps.ai
  refine C.block (C.loop (fun k tm' hx => ∃ z, k = z + 1 - i ∧ z ≤ j ∧ Keep nobody h hx ∧ Ps lt f a b i z ∧ (z < i ∨ ¬ lt (f i) (f a)) ∧ Tp v cv a b tm' ∧ tg tm' 12 = .int .i64 (i : Int) ∧ tg tm' 13 = .int .i64 (z : Int)) (j + 1 - i) (by omega)
    ⟨j, rfl, Nat.le_refl _, .refl _ _, ps, hi, x, t12, t13⟩ ?_)
  clear ps x t12 t13 jb hi
  generalize j = j0 at *
  rintro k tm hx ⟨j, rfl, j0j, kx, ps, hi, x, t12, t13⟩
  have jb := ps.jb
  have ij := ps.ij
  unfold l54_20
  refine C.seq (C.seq fun K hK => ?_)
  refine r54_15_go cm (cm.stay0 kx ok) (arr.keep0 kx) (by omega) (by omega) x.1 x.2.1 x.2.2.2 t12 t13 fun d h3 k3 hd => ?_
  refine hK _ _ _ (C.cond d (by simp only [↓opStep_eq, ↓reduceIte, ↓EW, EV, Nat.reduceAdd, Nat.reduceEqDiff, Int.reduceEq, Int.reduceLT, Int.reduceLE, Int.reduceNe, seqC, retC, skipC, exitC, blockC, condC]) (fun g => C.skip ?_) fun g => C.exit ?_)
  · obtain ⟨g1, g2⟩ := hd.1 g
    refine C.block fun K hK => ?_
    have w := wsub1 j (by omega) (by omega)
    simp only [↓opStep_eq, ↓reduceIte, ↓EW, EV, Nat.reduceAdd, Nat.reduceEqDiff, Int.reduceEq, Int.reduceLT, Int.reduceLE, Int.reduceNe, seqC, retC, skipC, exitC, blockC, condC, r54_16, t13, w]
    refine hK _ _ _ ⟨j - 1 + 1 - i, by omega, j - 1, rfl, by omega, kx.then k3, ⟨ps.lo, fun k h1 h2 => ?_, ps.ai, by omega, by omega⟩, ?_, (x.set (by omega)).set (by omega), by simp only [↓opStep_eq, ↓reduceIte, ↓EW, EV, Nat.reduceAdd, Nat.reduceEqDiff, Int.reduceEq, Int.reduceLT, Int.reduceLE, Int.reduceNe, seqC, retC, skipC, exitC, blockC, condC, t12], by simp only [↓opStep_eq, ↓reduceIte, ↓EW, EV, Nat.reduceAdd, Nat.reduceEqDiff, Int.reduceEq, Int.reduceLT, Int.reduceLE, Int.reduceNe, seqC, retC, skipC, exitC, blockC, condC]⟩
    · by_cases e : k = j
      · subst e
        refine cm.nlt g2 fun e => ?_
        have := inj _ _ (by omega) (by omega) e; omega
      · exact ps.hi k (by omega) h2
    · rcases hi with hi | hi
      · omega
      · exact .inr hi
  · simp only [if_pos]
    refine hQ j h3 _ j0j (kx.then k3) ps ?_ (x.set (by omega)) (by simp only [↓opStep_eq, ↓reduceIte, ↓EW, EV, Nat.reduceAdd, Nat.reduceEqDiff, Int.reduceEq, Int.reduceLT, Int.reduceLE, Int.reduceNe, seqC, retC, skipC, exitC, blockC, condC, t12]) (by simp only [↓opStep_eq, ↓reduceIte, ↓EW, EV, Nat.reduceAdd, Nat.reduceEqDiff, Int.reduceEq, Int.reduceLT, Int.reduceLE, Int.reduceNe, seqC, retC, skipC, exitC, blockC, condC, t13])
    by_cases e : j < i
    · exact .inl e
    · refine .inr ⟨hi.resolve_left e, ?_⟩
      by_cases hl : lt (f j) (f a)
      · exact hl
      · have := hd.2 ⟨by omega, hl⟩
        rw [g] at this; cases this

theorem part_end (cm : Cm L B cv lt Ok) {a b i j N : Nat} {f : Nat → Nm} (ps : Ps lt f a b i j) (h : j < i) : a ≤ j ∧ j < b ∧ (∀ k, a ≤ k → k < j → lt (swF f j a k) (swF f j a j)) ∧ (∀ k, j < k → k < b → lt (swF f j a j) (swF f j a k)) := by
  have ai := ps.ai
  have ij := ps.ij
  refine ⟨by omega, ps.jb, fun k h1 h2 => ?_, fun k h1 h2 => ?_⟩
  · rw [swF_at]
    by_cases e : k = a
    · subst e; rw [swF_at']; exact ps.lo j h2 h
    · rw [swF_ne (by omega) e]; exact ps.lo k (by omega) (by omega)
  · rw [swF_at, swF_ne (by omega) (by omega)]; exact ps.hi k h1 h2

theorem partition_law (cm : Cm L B cv lt Ok) {m a b p N : Nat} {v : Value} {f : Nat → Nm} {h : H} (ok : Ok h) (arr : Arr h B v N f) (inj : Inj f N) (hb : b ≤ N) (hN : N < 60000) (hL : N < L) (hab : a + 1 < b) (hp : a ≤ p) (hp2 : p < b) :
    Sp (CF L (m + 5)) 54 [v, .int .i64 (a : Int), .int .i64 (b : Int), .int .i64 (p : Int), cv] h fun r h' => ∃ (f' : Nat → Nm) (j : Nat) (d : Bool), r = .tuple [.int .i64 (j : Int), .bool d].toArray ∧ Arr h' B v N f' ∧ Sw a b f f' ∧ a ≤ j ∧ j < b ∧ (∀ k, a ≤ k → k < j → lt (f' k) (f' j)) ∧ (∀ k, j < k → k < b → lt (f' j) (f' k)) ∧ Keep (· = B) h h' := by
  refine Sp.body f54 (by simp) ?_
  unfold c54
  refine C.seq fun K hK => hK .norm _ _ (C.seq fun K hK => ?_)
  have kr := keep_room h 16
  have ar4 := arr.keep0 kr
  obtain ⟨h5, h6, s1, s2, ar6, k6⟩ := ar4.swap (p := p) (q := a) (by omega) (by omega)
  simp only [↓opStep_eq, ↓reduceIte, ↓EW, EV, Nat.reduceAdd, Nat.reduceEqDiff, Int.reduceEq, Int.reduceLT, Int.reduceLE, Int.reduceNe, seqC, retC, skipC, exitC, blockC, condC, r54_1, ar4.ix (show p < N by omega), ar4.ix (show a < N by omega), ar4.ld (show p < N by omega), ar4.ld (show a < N by omega), s1, s2]
  have k06 : Keep (· = B) h h6 := (kr.mono fun _ _ h => h.elim).trans k6 fun _ _ h => h
  have sw0 : Sw a b f (swF f a p) := Sw.one f (by omega) (by omega) hp hp2
  generalize swF f a p = f1 at *
  have w1 := wadd1 a (by omega)
  have w2 := wsub1 b (by omega) (by omega)
  refine hK _ _ _ (C.seq fun K hK => ?_)
  simp only [↓opStep_eq, ↓reduceIte, ↓EW, EV, Nat.reduceAdd, Nat.reduceEqDiff, Int.reduceEq, Int.reduceLT, Int.reduceLE, Int.reduceNe, seqC, retC, skipC, exitC, blockC, condC, r54_2, w1, w2]
  refine hK _ _ _ (C.seq ?_)
  have inj1 := sw0.inj hb inj
  have ok6 := cm.stay _ _ k06 ok
  refine up_3 cm (a := a) (b := b) (i := a + 1) (j := b - 1) ok6 ar6 hb hN hL ⟨fun k h1 h2 => by omega, fun k h1 h2 => by omega, by omega, by omega, by omega⟩ ⟨by simp only [↓opStep_eq, ↓reduceIte, ↓EW, EV, Nat.reduceAdd, Nat.reduceEqDiff, Int.reduceEq, Int.reduceLT, Int.reduceLE, Int.reduceNe, seqC, retC, skipC, exitC, blockC, condC], by simp only [↓opStep_eq, ↓reduceIte, ↓EW, EV, Nat.reduceAdd, Nat.reduceEqDiff, Int.reduceEq, Int.reduceLT, Int.reduceLE, Int.reduceNe, seqC, retC, skipC, exitC, blockC, condC], by simp only [↓opStep_eq, ↓reduceIte, ↓EW, EV, Nat.reduceAdd, Nat.reduceEqDiff, Int.reduceEq, Int.reduceLT, Int.reduceLE, Int.reduceNe, seqC, retC, skipC, exitC, blockC, condC], by simp only [↓opStep_eq, ↓reduceIte, ↓EW, EV, Nat.reduceAdd, Nat.reduceEqDiff, Int.reduceEq, Int.reduceLT, Int.reduceLE, Int.reduceNe, seqC, retC, skipC, exitC, blockC, condC]⟩ (by simp only [↓opStep_eq, ↓reduceIte, ↓EW, EV, Nat.reduceAdd, Nat.reduceEqDiff, Int.reduceEq, Int.reduceLT, Int.reduceLE, Int.reduceNe, seqC, retC, skipC, exitC, blockC, condC]) (by simp only [↓opStep_eq, ↓reduceIte, ↓EW, EV, Nat.reduceAdd, Nat.reduceEqDiff, Int.reduceEq, Int.reduceLT, Int.reduceLE, Int.reduceNe, seqC, retC, skipC, exitC, blockC, condC]) _ fun i1 h7 tm7 _ k7 ps7 e7 x7 u12 u13 => ?_
  refine C.seq ?_
  have ar7 := ar6.keep0 k7
  have k07 := k06.then k7
  refine down_5 cm (cm.stay0 k7 ok6) ar7 inj1 hb hN hL ps7 e7 x7 u12 u13 _ fun j1 h8 tm8 _ k8 ps8 e8 x8 u12 u13 => ?_
  have ar8 := ar7.keep0 k8
  have k08 := k07.then k8
  have ok8 := cm.stay _ _ k08 ok
  refine C.seq (C.seq fun K hK => ?_)
  simp only [↓opStep_eq, ↓reduceIte, ↓EW, EV, Nat.reduceAdd, Nat.reduceEqDiff, Int.reduceEq, Int.reduceLT, Int.reduceLE, Int.reduceNe, seqC, retC, skipC, exitC, blockC, condC, r54_7, u12, u13]
  have jb8 := ps8.jb
  have ai8 := ps8.ai
  have ij8 := ps8.ij
  refine hK _ _ _ (C.cond (decide ((j1 : Int) < (i1 : Int))) (by simp only [↓opStep_eq, ↓reduceIte, ↓EW, EV, Nat.reduceAdd, Nat.reduceEqDiff, Int.reduceEq, Int.reduceLT, Int.reduceLE, Int.reduceNe, seqC, retC, skipC, exitC, blockC, condC]) (fun g => ?_) fun g => C.skip ?_)
  · have g : j1 < i1 := by have := of_decide_eq_true g; omega
    obtain ⟨y0, y1, y2, y4⟩ := x8
    have kr := keep_room h8 16
    have ar9 := ar8.keep0 kr
    obtain ⟨h10, h11, s1, s2, ar11, k11⟩ := ar9.swap (p := a) (q := j1) (by omega) (by omega)
    refine C.seq fun K hK => ?_
    simp only [↓opStep_eq, ↓reduceIte, ↓EW, EV, Nat.reduceAdd, Nat.reduceEqDiff, Int.reduceEq, Int.reduceLT, Int.reduceLE, Int.reduceNe, seqC, retC, skipC, exitC, blockC, condC, r54_8, y0, y1, u13, ar9.ix (show a < N by omega), ar9.ix (show j1 < N by omega), ar9.ld (show a < N by omega), ar9.ld (show j1 < N by omega), s1, s2]
    refine hK _ _ _ (C.seq fun K hK => ?_)
    simp only [↓opStep_eq, ↓reduceIte, ↓EW, EV, Nat.reduceAdd, Nat.reduceEqDiff, Int.reduceEq, Int.reduceLT, Int.reduceLE, Int.reduceNe, seqC, retC, skipC, exitC, blockC, condC, r54_9, u13]
    obtain ⟨p1, p2, p3, p4⟩ := part_end (N := N) cm ps8 g
    exact hK _ _ _ (C.ret ⟨.inr rfl, _, rfl, _, j1, true, by simp only [↓opStep_eq, ↓reduceIte, ↓EW, EV, Nat.reduceAdd, Nat.reduceEqDiff, Int.reduceEq, Int.reduceLT, Int.reduceLE, Int.reduceNe, seqC, retC, skipC, exitC, blockC, condC, resOf], ar11, .step j1 a sw0 p1 p2 (by omega) (by omega), p1, p2, p3, p4, (k08.then kr).trans k11 fun _ _ h => h⟩)
  · have g : i1 ≤ j1 := by have := of_decide_eq_false g; omega
    have x8' := x8
    obtain ⟨y0, y1, y2, y4⟩ := x8
    -- a swap of both
    have both : ∀ (f2 : Nat → Nm) (i2 j2 : Nat), Ps lt f2 a b i2 j2 → i2 ≤ j2 → ¬ lt (f2 i2) (f2 a) → lt (f2 j2) (f2 a) → Inj f2 N → Ps lt (swF f2 i2 j2) a b (i2 + 1) (j2 - 1) ∧ i2 < j2 := fun f2 i2 j2 ps hij n1 n2 inj2 => by
      have ai := ps.ai
      have jb := ps.jb
      have hne : i2 ≠ j2 := fun e => by subst e; exact n1 n2
      refine ⟨⟨fun k h1 h2 => ?_, fun k h1 h2 => ?_, by omega, by omega, by omega⟩, by omega⟩
      · rw [swF_ne (k := a) (by omega) (by omega)]
        by_cases e : k = i2
        · subst e; rw [swF_at]; exact n2
        · rw [swF_ne e (by omega)]; exact ps.lo k h1 (by omega)
      · rw [swF_ne (k := a) (by omega) (by omega)]
        by_cases e : k = j2
        · subst e; rw [swF_at']
          refine cm.nlt n1 fun e => ?_
          have := inj2 _ _ (by omega) (by omega) e; omega
        · rw [swF_ne (by omega) e]; exact ps.hi k (by omega) h2
    obtain ⟨n1, n2⟩ := e8.resolve_left (by omega)
    obtain ⟨ps9, hlt9⟩ := both f1 i1 j1 ps8 g n1 n2 inj1
    refine C.seq fun K hK => ?_
    have kr := keep_room h8 16
    have ar9 := ar8.keep0 kr
    obtain ⟨h10, h11, s1, s2, ar11, k11⟩ := ar9.swap (p := j1) (q := i1) (by omega) (by omega)
    simp only [↓opStep_eq, ↓reduceIte, ↓EW, EV, Nat.reduceAdd, Nat.reduceEqDiff, Int.reduceEq, Int.reduceLT, Int.reduceLE, Int.reduceNe, seqC, retC, skipC, exitC, blockC, condC, r54_10, y0, u12, u13, ar9.ix (show i1 < N by omega), ar9.ix (show j1 < N by omega), ar9.ld (show i1 < N by omega), ar9.ld (show j1 < N by omega), s1, s2]
    have k11' : Keep (· = B) h h11 := (k08.then kr).trans k11 fun _ _ h => h
    have w3 := wadd1 i1 (by omega)
    have w4 := wsub1 j1 (by omega) (by omega)
    have sw1 : Sw a b f (swF f1 i1 j1) := .step i1 j1 sw0 (by omega) (by omega) (by omega) (by omega)
    refine hK _ _ _ (C.seq fun K hK => ?_)
    simp only [↓opStep_eq, ↓reduceIte, ↓EW, EV, Nat.reduceAdd, Nat.reduceEqDiff, Int.reduceEq, Int.reduceLT, Int.reduceLE, Int.reduceNe, seqC, retC, skipC, exitC, blockC, condC, r54_11, u12, w3]
    refine hK _ _ _ (C.seq fun K hK => ?_)
    simp only [↓opStep_eq, ↓reduceIte, ↓EW, EV, Nat.reduceAdd, Nat.reduceEqDiff, Int.reduceEq, Int.reduceLT, Int.reduceLE, Int.reduceNe, seqC, retC, skipC, exitC, blockC, condC, r54_12, u13, w4]
    refine hK _ _ _ (C.seq ?_)
    refine C.block (C.loop (fun k tm' hx => ∃ i j f', k = j + 1 - i ∧ Arr hx B v N f' ∧ Sw a b f f' ∧ Ps lt f' a b i j ∧ Tp v cv a b tm' ∧ tg tm' 12 = .int .i64 (i : Int) ∧ tg tm' 13 = .int .i64 (j : Int) ∧ Keep (· = B) h hx) (j1 - 1 + 1 - (i1 + 1)) (by omega)
      ⟨i1 + 1, j1 - 1, _, rfl, ar11, sw1, ps9, (x8'.set (by omega)).set (by omega) |>.set (by omega), by simp only [↓opStep_eq, ↓reduceIte, ↓EW, EV, Nat.reduceAdd, Nat.reduceEqDiff, Int.reduceEq, Int.reduceLT, Int.reduceLE, Int.reduceNe, seqC, retC, skipC, exitC, blockC, condC], by simp only [↓opStep_eq, ↓reduceIte, ↓EW, EV, Nat.reduceAdd, Nat.reduceEqDiff, Int.reduceEq, Int.reduceLT, Int.reduceLE, Int.reduceNe, seqC, retC, skipC, exitC, blockC, condC], k11'⟩ ?_)
    rintro k tm hx ⟨i2, j2, f2, rfl, ar12, sw2, ps12, x12, v12, v13, kx⟩
    have inj2 := sw2.inj hb inj
    have okx := cm.stay _ _ kx ok
    unfold l54_25
    refine C.block (C.seq ?_)
    refine up_13 cm okx ar12 hb hN hL ps12 x12 v12 v13 _ fun i3 h13 tm13 i23 k13 ps13 e13 x13 v12 v13 => ?_
    refine C.seq ?_
    have ar13 := ar12.keep0 k13
    refine down_15 cm (cm.stay0 k13 okx) ar13 inj2 hb hN hL ps13 e13 x13 v12 v13 _ fun j3 h14 tm14 j32 k14 ps14 e14 x14 v12 v13 => ?_
    have ar14 := ar13.keep0 k14
    have k014 := (kx.then k13).then k14
    have jb14 := ps14.jb
    have ai14 := ps14.ai
    have ij14 := ps14.ij
    refine C.seq (C.seq fun K hK => ?_)
    simp only [↓opStep_eq, ↓reduceIte, ↓EW, EV, Nat.reduceAdd, Nat.reduceEqDiff, Int.reduceEq, Int.reduceLT, Int.reduceLE, Int.reduceNe, seqC, retC, skipC, exitC, blockC, condC, r54_17, v12, v13]
    refine hK _ _ _ (C.cond (decide ((j3 : Int) < (i3 : Int))) (by simp only [↓opStep_eq, ↓reduceIte, ↓EW, EV, Nat.reduceAdd, Nat.reduceEqDiff, Int.reduceEq, Int.reduceLT, Int.reduceLE, Int.reduceNe, seqC, retC, skipC, exitC, blockC, condC]) (fun g => C.exit ?_) fun g => C.skip ?_)
    · have g : j3 < i3 := by have := of_decide_eq_true g; omega
      obtain ⟨y0, y1, y2, y4⟩ := x14
      simp only [Nat.reduceEqDiff, if_false, if_pos]
      refine C.seq fun K hK => ?_
      have kr := keep_room h14 16
      have ar15 := ar14.keep0 kr
      obtain ⟨h16, h17, s1, s2, ar17, k17⟩ := ar15.swap (p := a) (q := j3) (by omega) (by omega)
      simp only [↓opStep_eq, ↓reduceIte, ↓EW, EV, Nat.reduceAdd, Nat.reduceEqDiff, Int.reduceEq, Int.reduceLT, Int.reduceLE, Int.reduceNe, seqC, retC, skipC, exitC, blockC, condC, r54_21, y0, y1, v13, ar15.ix (show a < N by omega), ar15.ix (show j3 < N by omega), ar15.ld (show a < N by omega), ar15.ld (show j3 < N by omega), s1, s2]
      refine hK _ _ _ (C.seq fun K hK => ?_)
      simp only [↓opStep_eq, ↓reduceIte, ↓EW, EV, Nat.reduceAdd, Nat.reduceEqDiff, Int.reduceEq, Int.reduceLT, Int.reduceLE, Int.reduceNe, seqC, retC, skipC, exitC, blockC, condC, r54_22, v13]
      obtain ⟨p1, p2, p3, p4⟩ := part_end (N := N) cm ps14 g
      exact hK _ _ _ (C.ret ⟨.inr rfl, _, rfl, _, j3, false, by simp only [↓opStep_eq, ↓reduceIte, ↓EW, EV, Nat.reduceAdd, Nat.reduceEqDiff, Int.reduceEq, Int.reduceLT, Int.reduceLE, Int.reduceNe, seqC, retC, skipC, exitC, blockC, condC, resOf], ar17, .step j3 a sw2 p1 p2 (by omega) (by omega), p1, p2, p3, p4, (k014.then kr).trans k17 fun _ _ h => h⟩)
    · have g : i3 ≤ j3 := by have := of_decide_eq_false g; omega
      have x14' := x14
      obtain ⟨y0, y1, y2, y4⟩ := x14
      obtain ⟨n1, n2⟩ := e14.resolve_left (by omega)
      obtain ⟨ps15, hlt15⟩ := both f2 i3 j3 ps14 g n1 n2 inj2
      refine C.seq fun K hK => ?_
      have kr := keep_room h14 16
      have ar15 := ar14.keep0 kr
      obtain ⟨h16, h17, s1, s2, ar17, k17⟩ := ar15.swap (p := j3) (q := i3) (by omega) (by omega)
      simp only [↓opStep_eq, ↓reduceIte, ↓EW, EV, Nat.reduceAdd, Nat.reduceEqDiff, Int.reduceEq, Int.reduceLT, Int.reduceLE, Int.reduceNe, seqC, retC, skipC, exitC, blockC, condC, r54_18, y0, v12, v13, ar15.ix (show i3 < N by omega), ar15.ix (show j3 < N by omega), ar15.ld (show i3 < N by omega), ar15.ld (show j3 < N by omega), s1, s2]
      have w5 := wadd1 i3 (by omega)
      have w6 := wsub1 j3 (by omega) (by omega)
      refine hK _ _ _ (C.seq fun K hK => ?_)
      simp only [↓opStep_eq, ↓reduceIte, ↓EW, EV, Nat.reduceAdd, Nat.reduceEqDiff, Int.reduceEq, Int.reduceLT, Int.reduceLE, Int.reduceNe, seqC, retC, skipC, exitC, blockC, condC, r54_19, v12, w5]
      refine hK _ _ _ fun K hK => ?_
      simp only [↓opStep_eq, ↓reduceIte, ↓EW, EV, Nat.reduceAdd, Nat.reduceEqDiff, Int.reduceEq, Int.reduceLT, Int.reduceLE, Int.reduceNe, seqC, retC, skipC, exitC, blockC, condC, r54_20, v13, w6]
      exact hK _ _ _ ⟨j3 - 1 + 1 - (i3 + 1), by omega, i3 + 1, j3 - 1, _, rfl, ar17, .step i3 j3 sw2 (by omega) (by omega) (by omega) (by omega), ps15, (x14'.set (by omega)).set (by omega) |>.set (by omega), by simp only [↓opStep_eq, ↓reduceIte, ↓EW, EV, Nat.reduceAdd, Nat.reduceEqDiff, Int.reduceEq, Int.reduceLT, Int.reduceLE, Int.reduceNe, seqC, retC, skipC, exitC, blockC, condC], by simp only [↓opStep_eq, ↓reduceIte, ↓EW, EV, Nat.reduceAdd, Nat.reduceEqDiff, Int.reduceEq, Int.reduceLT, Int.reduceLE, Int.reduceNe, seqC, retC, skipC, exitC, blockC, condC], (k014.then kr).trans k17 fun _ _ h => h⟩
end
end Go.Proofs.Ytpoedopdcpejmaa

namespace Go.Proofs.Ytpoedopdcpejmaa
open Go.Ev

section
variable {L B : Nat} {cv : Value} {lt : Nm → Nm → Prop} {Ok : H → Prop}

theorem r52_5_go (cm : Cm L B cv lt Ok) {m b i N : Nat} {v : Value} {f : Nat → Nm} {tm : T Value} {h : H} {K : KE} (ok : Ok h) (arr : Arr h B v N f) (hb : b ≤ N) (hN : N < 60000) (hi : 1 ≤ i) (t0 : tg tm 0 = v) (t2 : tg tm 2 = .int .i64 (b : Int)) (t3 : tg tm 3 = cv) (t9 : tg tm 9 = .int .i64 (i : Int)) (hK : ∀ d h', Keep nobody h h' → (d = true ↔ (i < b ∧ ¬ lt (f i) (f (i - 1)))) → K .norm (T.set tm 36 (.bool d)) [] h' = true) :
    r52_5 (CF L (m + 4)) L tm [] h K = true := by
  have kr := keep_room h 18
  have ar := arr.keep0 kr
  by_cases g : i < b
  · have gI : (i : Int) < (b : Int) := by omega
    have w := wsub1 i (by omega) (by omega)
    simp only [↓opStep_eq, ↓reduceIte, ↓EW, EV, Nat.reduceAdd, Nat.reduceEqDiff, Int.reduceEq, Int.reduceLT, Int.reduceLE, Int.reduceNe, seqC, retC, skipC, exitC, blockC, condC, r52_5, ite2, t0, t2, t3, t9, gI, w, ar.ix (show i < N by omega), ar.ix (show i - 1 < N by omega), ar.ld (show i < N by omega), ar.ld (show i - 1 < N by omega)]
    refine cm.go (cm.stay0 kr ok) fun c h' hc k => ?_
    simp only [↓opStep_eq, ↓reduceIte, ↓EW, EV, Nat.reduceAdd, Nat.reduceEqDiff, Int.reduceEq, Int.reduceLT, Int.reduceLE, Int.reduceNe, seqC, retC, skipC, exitC, blockC, condC]
    refine hK _ _ (kr.then k) ?_
    rw [Bool.not_eq_true', decide_eq_false_iff_not, hc]
    exact ⟨fun h => ⟨g, h⟩, fun h => h.2⟩
  · have gI : ¬ (i : Int) < (b : Int) := by omega
    simp only [↓opStep_eq, ↓reduceIte, ↓EW, EV, Nat.reduceAdd, Nat.reduceEqDiff, Int.reduceEq, Int.reduceLT, Int.reduceLE, Int.reduceNe, seqC, retC, skipC, exitC, blockC, condC, r52_5, ite2, t2, t9, gI]
    exact hK false _ kr ⟨fun h => (by cases h), fun h => absurd h.1 g⟩

def Tq (v cv : Value) (a b : Nat) (tm : T Value) : Prop := tg tm 0 = v ∧ tg tm 1 = .int .i64 (a : Int) ∧ tg tm 2 = .int .i64 (b : Int) ∧ tg tm 3 = cv
theorem Tq.set {v cv : Value} {a b : Nat} {tm : T Value} (x : Tq v cv a b tm) {j : Nat} {w : Value} (hj : j ≠ 0 ∧ j ≠ 1 ∧ j ≠ 2 ∧ j ≠ 3) : Tq v cv a b (T.set tm j w) := by
  obtain ⟨x0, x1, x2, x4⟩ := x
  refine ⟨?_, ?_, ?_, ?_⟩
  · rw [tg_set, if_neg hj.1]; exact x0
  · rw [tg_set, if_neg hj.2.1]; exact x1
  · rw [tg_set, if_neg hj.2.2.1]; exact x2
  · rw [tg_set, if_neg hj.2.2.2]; exact x4

theorem shift_down (cm : Cm L B cv lt Ok) {m a b i N : Nat} {q10 : Value} {v : Value} {f : Nat → Nm} {tm : T Value} {h : H} (ok : Ok h) (arr : Arr h B v N f) (inj : Inj f N) (hb : b ≤ N) (hN : N < 60000) (hL : N < L) (hai : a + 1 ≤ i) (hib : i < b) (hpre : 0 < a → ∀ k, a ≤ k → k < b → lt (f (a - 1)) (f k)) (x : Tq v cv a b tm) (t9 : tg tm 9 = .int .i64 (i : Int)) (t10 : tg tm 10 = q10) (t11 : tg tm 11 = .int .i64 ((i - 1 : Nat) : Int))
    (so : ∀ p q, a ≤ p → p < q → q < i → q ≠ i - 1 → lt (f p) (f q)) (Q : Ex → T Value → H → Prop)
    (hQ : ∀ f' h' tm', Arr h' B v N f' → Sw a i f f' → Sorted lt f' a i → Keep (· = B) h h' → Tq v cv a b tm' → tg tm' 9 = .int .i64 (i : Int) → tg tm' 10 = q10 → Q .norm tm' h') :
    C ⟨blockC 4 (loopB l52_18)⟩ (CF L (m + 4)) L tm h Q := by
  refine C.block (C.loop (fun k tm' hx => ∃ j f', k = j ∧ a ≤ j ∧ j ≤ i - 1 ∧ Arr hx B v N f' ∧ Sw a i f f' ∧ (∀ p q, a ≤ p → p < q → q < i → q ≠ j → lt (f' p) (f' q)) ∧ Keep (· = B) h hx ∧ Tq v cv a b tm' ∧ tg tm' 9 = .int .i64 (i : Int) ∧ tg tm' 10 = q10 ∧ tg tm' 11 = .int .i64 (j : Int)) (i - 1) (by omega)
    ⟨i - 1, f, rfl, by omega, by omega, arr, .refl _, so, .refl _ _, x, t9, t10, t11⟩ ?_)
  clear x t9 t10 t11 so
  rintro j tm hx ⟨_, f1, rfl, haj, hji, ar1, sw1, so1, k1, x, t9, t10, t11⟩
  have inj1 := sw1.inj (by omega) inj
  have pre1 : 0 < a → ∀ k, a ≤ k → k < i → lt (f1 (a - 1)) (f1 k) := fun ha k h1 h2 => by
    rw [sw1.out (.inl (by omega))]
    exact sw1.all (fun y => lt (f (a - 1)) y) (fun k g1 g2 => hpre ha k g1 (by omega)) k h1 h2
  unfold l52_18
  refine C.seq (C.seq fun K hK => ?_)
  simp only [↓opStep_eq, ↓reduceIte, ↓EW, EV, Nat.reduceAdd, Nat.reduceEqDiff, Int.reduceEq, Int.reduceLT, Int.reduceLE, Int.reduceNe, seqC, retC, skipC, exitC, blockC, condC, r52_14, t11]
  refine hK _ _ _ (C.cond (decide ((1 : Int) ≤ (j : Int))) (by simp only [↓opStep_eq, ↓reduceIte, ↓EW, EV, Nat.reduceAdd, Nat.reduceEqDiff, Int.reduceEq, Int.reduceLT, Int.reduceLE, Int.reduceNe, seqC, retC, skipC, exitC, blockC, condC]) (fun g => C.skip ?_) fun g => C.exit ?_)
  · have g : 1 ≤ j := by have := of_decide_eq_true g; omega
    have w := wsub1 j g (by omega)
    refine C.seq (C.block (C.seq (C.seq fun K hK => ?_)))
    have kr := keep_room hx 13
    have ar2 := ar1.keep0 kr
    obtain ⟨x0, x1, x2, x3⟩ := x
    simp only [↓opStep_eq, ↓reduceIte, ↓EW, EV, Nat.reduceAdd, Nat.reduceEqDiff, Int.reduceEq, Int.reduceLT, Int.reduceLE, Int.reduceNe, seqC, retC, skipC, exitC, blockC, condC, r52_16, x0, x3, t11, w, ar2.ix (show j < N by omega), ar2.ix (show j - 1 < N by omega), ar2.ld (show j < N by omega), ar2.ld (show j - 1 < N by omega)]
    refine cm.go (cm.stay _ _ (k1.then kr) ok) fun c h3 hc k3 => ?_
    have k13 := (k1.then kr).then k3
    have ar3 := ar2.keep0 k3
    simp only [↓opStep_eq, ↓reduceIte, ↓EW, EV, Nat.reduceAdd, Nat.reduceEqDiff, Int.reduceEq, Int.reduceLT, Int.reduceLE, Int.reduceNe, seqC, retC, skipC, exitC, blockC, condC]
    refine hK _ _ _ (C.cond (!decide (c < 0)) (by simp only [↓opStep_eq, ↓reduceIte, ↓EW, EV, Nat.reduceAdd, Nat.reduceEqDiff, Int.reduceEq, Int.reduceLT, Int.reduceLE, Int.reduceNe, seqC, retC, skipC, exitC, blockC, condC]) (fun g2 => C.exit ?_) fun g2 => C.skip ?_)
    · have g2 : ¬ c < 0 := by rw [Bool.not_eq_true'] at g2; exact of_decide_eq_false g2
      rw [hc] at g2
      simp only [Nat.reduceEqDiff, if_false, if_pos]
      refine hQ f1 h3 _ ar3 sw1 (fun p q h1 h2 h3 => ?_) k13 ⟨?_, ?_, ?_, ?_⟩ ?_ ?_
      · by_cases e : q = j
        · subst e
          have hl : lt (f1 (q - 1)) (f1 q) := cm.nlt g2 fun e => by have := inj1 _ _ (by omega) (by omega) e; omega
          by_cases e2 : p = q - 1
          · rw [e2]; exact hl
          · exact cm.tr _ _ _ (so1 p (q - 1) h1 (by omega) (by omega) (by omega)) hl
        · exact so1 p q h1 h2 h3 e
      · simp only [↓opStep_eq, ↓reduceIte, ↓EW, EV, Nat.reduceAdd, Nat.reduceEqDiff, Int.reduceEq, Int.reduceLT, Int.reduceLE, Int.reduceNe, seqC, retC, skipC, exitC, blockC, condC, x0]
      · simp only [↓opStep_eq, ↓reduceIte, ↓EW, EV, Nat.reduceAdd, Nat.reduceEqDiff, Int.reduceEq, Int.reduceLT, Int.reduceLE, Int.reduceNe, seqC, retC, skipC, exitC, blockC, condC, x1]
      · simp only [↓opStep_eq, ↓reduceIte, ↓EW, EV, Nat.reduceAdd, Nat.reduceEqDiff, Int.reduceEq, Int.reduceLT, Int.reduceLE, Int.reduceNe, seqC, retC, skipC, exitC, blockC, condC, x2]
      · simp only [↓opStep_eq, ↓reduceIte, ↓EW, EV, Nat.reduceAdd, Nat.reduceEqDiff, Int.reduceEq, Int.reduceLT, Int.reduceLE, Int.reduceNe, seqC, retC, skipC, exitC, blockC, condC, x3]
      · simp only [↓opStep_eq, ↓reduceIte, ↓EW, EV, Nat.reduceAdd, Nat.reduceEqDiff, Int.reduceEq, Int.reduceLT, Int.reduceLE, Int.reduceNe, seqC, retC, skipC, exitC, blockC, condC, t9]
      · simp only [↓opStep_eq, ↓reduceIte, ↓EW, EV, Nat.reduceAdd, Nat.reduceEqDiff, Int.reduceEq, Int.reduceLT, Int.reduceLE, Int.reduceNe, seqC, retC, skipC, exitC, blockC, condC, t10]
    · have g2 : c < 0 := by rw [Bool.not_eq_false'] at g2; exact of_decide_eq_true g2
      rw [hc] at g2
      have haj2 : a < j := by
        by_cases e : a = j
        · exact absurd g2 (by
            rw [← e]
            exact cm.asym (pre1 (by omega) a (by omega) (by omega)))
        · omega
      intro K hK
      have kr := keep_room h3 18
      have ar4 := ar3.keep0 kr
      obtain ⟨h5, h6, s1, s2, ar6, k6⟩ := ar4.swap (p := j - 1) (q := j) (by omega) (by omega)
      simp only [↓opStep_eq, ↓reduceIte, ↓EW, EV, Nat.reduceAdd, Nat.reduceEqDiff, Int.reduceEq, Int.reduceLT, Int.reduceLE, Int.reduceNe, seqC, retC, skipC, exitC, blockC, condC, r52_17, x0, t11, w, ar4.ix (show j < N by omega), ar4.ix (show j - 1 < N by omega), ar4.ld (show j < N by omega), ar4.ld (show j - 1 < N by omega), s1, s2]
      refine hK _ _ _ fun K hK => ?_
      simp only [↓opStep_eq, ↓reduceIte, ↓EW, EV, Nat.reduceAdd, Nat.reduceEqDiff, Int.reduceEq, Int.reduceLT, Int.reduceLE, Int.reduceNe, seqC, retC, skipC, exitC, blockC, condC, r52_15, t11, w]
      refine hK _ _ _ ⟨j - 1, by omega, j - 1, _, rfl, by omega, by omega, ar6, .step j (j - 1) sw1 (by omega) (by omega) (by omega) (by omega), fun p q h1 h2 h3 h4 => ?_, (k13.then kr).trans k6 fun _ _ h => h, ⟨?_, ?_, ?_, ?_⟩, ?_, ?_, ?_⟩
      · by_cases q1 : q = j
        · subst q1
          rw [swF_at]
          by_cases p1 : p = q - 1
          · subst p1; rw [swF_at']; exact g2
          · rw [swF_ne (by omega) p1]; exact so1 p (q - 1) h1 (by omega) (by omega) (by omega)
        · rw [swF_ne q1 h4]
          by_cases p1 : p = j
          · subst p1; rw [swF_at]; exact so1 (p - 1) q (by omega) (by omega) h3 q1
          · by_cases p2 : p = j - 1
            · subst p2; rw [swF_at']; exact so1 j q (by omega) (by omega) h3 q1
            · rw [swF_ne p1 p2]; exact so1 p q h1 h2 h3 q1
      · simp only [↓opStep_eq, ↓reduceIte, ↓EW, EV, Nat.reduceAdd, Nat.reduceEqDiff, Int.reduceEq, Int.reduceLT, Int.reduceLE, Int.reduceNe, seqC, retC, skipC, exitC, blockC, condC, x0]
      · simp only [↓opStep_eq, ↓reduceIte, ↓EW, EV, Nat.reduceAdd, Nat.reduceEqDiff, Int.reduceEq, Int.reduceLT, Int.reduceLE, Int.reduceNe, seqC, retC, skipC, exitC, blockC, condC, x1]
      · simp only [↓opStep_eq, ↓reduceIte, ↓EW, EV, Nat.reduceAdd, Nat.reduceEqDiff, Int.reduceEq, Int.reduceLT, Int.reduceLE, Int.reduceNe, seqC, retC, skipC, exitC, blockC, condC, x2]
      · simp only [↓opStep_eq, ↓reduceIte, ↓EW, EV, Nat.reduceAdd, Nat.reduceEqDiff, Int.reduceEq, Int.reduceLT, Int.reduceLE, Int.reduceNe, seqC, retC, skipC, exitC, blockC, condC, x3]
      · simp only [↓opStep_eq, ↓reduceIte, ↓EW, EV, Nat.reduceAdd, Nat.reduceEqDiff, Int.reduceEq, Int.reduceLT, Int.reduceLE, Int.reduceNe, seqC, retC, skipC, exitC, blockC, condC, t9]
      · simp only [↓opStep_eq, ↓reduceIte, ↓EW, EV, Nat.reduceAdd, Nat.reduceEqDiff, Int.reduceEq, Int.reduceLT, Int.reduceLE, Int.reduceNe, seqC, retC, skipC, exitC, blockC, condC, t10]
      · simp only [↓opStep_eq, ↓reduceIte, ↓EW, EV, Nat.reduceAdd, Nat.reduceEqDiff, Int.reduceEq, Int.reduceLT, Int.reduceLE, Int.reduceNe, seqC, retC, skipC, exitC, blockC, condC]
  · simp only [if_pos]
    have g : j = 0 := by have := of_decide_eq_false g; omega
    subst g
    refine hQ f1 hx _ ar1 sw1 (fun p q h1 h2 h3 => so1 p q h1 h2 h3 (by omega)) k1 (x.set (by omega)) (by simp only [↓opStep_eq, ↓reduceIte, ↓EW, EV, Nat.reduceAdd, Nat.reduceEqDiff, Int.reduceEq, Int.reduceLT, Int.reduceLE, Int.reduceNe, seqC, retC, skipC, exitC, blockC, condC, t9]) (by simp only [↓opStep_eq, ↓reduceIte, ↓EW, EV, Nat.reduceAdd, Nat.reduceEqDiff, Int.reduceEq, Int.reduceLT, Int.reduceLE, Int.reduceNe, seqC, retC, skipC, exitC, blockC, condC, t10])

theorem shift_up (cm : Cm L B cv lt Ok) {m a b i N : Nat} {q10 : Value} {v : Value} {f : Nat → Nm} {tm : T Value} {h : H} (ok : Ok h) (arr : Arr h B v N f) (hb : b ≤ N) (hN : N < 60000) (hL : N < L) (hai : a + 1 ≤ i) (hib : i < b) (x : Tq v cv a b tm) (t9 : tg tm 9 = .int .i64 (i : Int)) (t10 : tg tm 10 = q10) (t12 : tg tm 12 = .int .i64 ((i + 1 : Nat) : Int)) (Q : Ex → T Value → H → Prop)
    (hQ : ∀ f' h' tm', Arr h' B v N f' → Sw i b f f' → Keep (· = B) h h' → Tq v cv a b tm' → tg tm' 9 = .int .i64 (i : Int) → tg tm' 10 = q10 → Q .norm tm' h') :
    C ⟨blockC 6 (loopB l52_25)⟩ (CF L (m + 4)) L tm h Q := by
  refine C.block (C.loop (fun k tm' hx => ∃ j f', k = b - j ∧ i + 1 ≤ j ∧ j ≤ b ∧ Arr hx B v N f' ∧ Sw i b f f' ∧ Keep (· = B) h hx ∧ Tq v cv a b tm' ∧ tg tm' 9 = .int .i64 (i : Int) ∧ tg tm' 10 = q10 ∧ tg tm' 12 = .int .i64 (j : Int)) (b - (i + 1)) (by omega)
    ⟨i + 1, f, rfl, by omega, by omega, arr, .refl _, .refl _ _, x, t9, t10, t12⟩ ?_)
  clear x t9 t10 t12
  rintro k tm hx ⟨j, f1, rfl, hij, hjb, ar1, sw1, k1, x, t9, t10, t12⟩
  have x' := x
  obtain ⟨x0, x1, x2, x3⟩ := x
  unfold l52_25
  refine C.seq (C.seq fun K hK => ?_)
  simp only [↓opStep_eq, ↓reduceIte, ↓EW, EV, Nat.reduceAdd, Nat.reduceEqDiff, Int.reduceEq, Int.reduceLT, Int.reduceLE, Int.reduceNe, seqC, retC, skipC, exitC, blockC, condC, r52_20, x2, t12]
  refine hK _ _ _ (C.cond (decide ((j : Int) < (b : Int))) (by simp only [↓opStep_eq, ↓reduceIte, ↓EW, EV, Nat.reduceAdd, Nat.reduceEqDiff, Int.reduceEq, Int.reduceLT, Int.reduceLE, Int.reduceNe, seqC, retC, skipC, exitC, blockC, condC]) (fun g => C.skip ?_) fun g => C.exit ?_)
  · have g : j < b := by have := of_decide_eq_true g; omega
    have w := wsub1 j (by omega) (by omega)
    refine C.seq (C.block (C.seq (C.seq fun K hK => ?_)))
    have kr := keep_room hx 13
    have ar2 := ar1.keep0 kr
    simp only [↓opStep_eq, ↓reduceIte, ↓EW, EV, Nat.reduceAdd, Nat.reduceEqDiff, Int.reduceEq, Int.reduceLT, Int.reduceLE, Int.reduceNe, seqC, retC, skipC, exitC, blockC, condC, r52_22, x0, x3, t12, w, ar2.ix (show j < N by omega), ar2.ix (show j - 1 < N by omega), ar2.ld (show j < N by omega), ar2.ld (show j - 1 < N by omega)]
    refine cm.go (cm.stay _ _ (k1.then kr) ok) fun c h3 hc k3 => ?_
    have k13 := (k1.then kr).then k3
    have ar3 := ar2.keep0 k3
    simp only [↓opStep_eq, ↓reduceIte, ↓EW, EV, Nat.reduceAdd, Nat.reduceEqDiff, Int.reduceEq, Int.reduceLT, Int.reduceLE, Int.reduceNe, seqC, retC, skipC, exitC, blockC, condC]
    refine hK _ _ _ (C.cond (!decide (c < 0)) (by simp only [↓opStep_eq, ↓reduceIte, ↓EW, EV, Nat.reduceAdd, Nat.reduceEqDiff, Int.reduceEq, Int.reduceLT, Int.reduceLE, Int.reduceNe, seqC, retC, skipC, exitC, blockC, condC]) (fun g2 => C.exit ?_) fun g2 => C.skip ?_)
    · simp only [Nat.reduceEqDiff, if_false, if_pos]
      refine hQ f1 h3 _ ar3 sw1 k13 ((x'.set (by omega)).set (by omega)) ?_ ?_
      · simp only [↓opStep_eq, ↓reduceIte, ↓EW, EV, Nat.reduceAdd, Nat.reduceEqDiff, Int.reduceEq, Int.reduceLT, Int.reduceLE, Int.reduceNe, seqC, retC, skipC, exitC, blockC, condC, t9]
      · simp only [↓opStep_eq, ↓reduceIte, ↓EW, EV, Nat.reduceAdd, Nat.reduceEqDiff, Int.reduceEq, Int.reduceLT, Int.reduceLE, Int.reduceNe, seqC, retC, skipC, exitC, blockC, condC, t10]
    · intro K hK
      have kr := keep_room h3 18
      have ar4 := ar3.keep0 kr
      obtain ⟨h5, h6, s1, s2, ar6, k6⟩ := ar4.swap (p := j - 1) (q := j) (by omega) (by omega)
      have w2 := wadd1 j (by omega)
      simp only [↓opStep_eq, ↓reduceIte, ↓EW, EV, Nat.reduceAdd, Nat.reduceEqDiff, Int.reduceEq, Int.reduceLT, Int.reduceLE, Int.reduceNe, seqC, retC, skipC, exitC, blockC, condC, r52_23, x0, t12, w, ar4.ix (show j < N by omega), ar4.ix (show j - 1 < N by omega), ar4.ld (show j < N by omega), ar4.ld (show j - 1 < N by omega), s1, s2]
      refine hK _ _ _ fun K hK => ?_
      simp only [↓opStep_eq, ↓reduceIte, ↓EW, EV, Nat.reduceAdd, Nat.reduceEqDiff, Int.reduceEq, Int.reduceLT, Int.reduceLE, Int.reduceNe, seqC, retC, skipC, exitC, blockC, condC, r52_21, t12, w2]
      refine hK _ _ _ ⟨b - (j + 1), by omega, j + 1, _, rfl, by omega, by omega, ar6, .step j (j - 1) sw1 (by omega) (by omega) (by omega) (by omega), (k13.then kr).trans k6 fun _ _ h => h, (x'.set (by omega)).set (by omega) |>.set (by omega), ?_, ?_, ?_⟩
      · simp only [↓opStep_eq, ↓reduceIte, ↓EW, EV, Nat.reduceAdd, Nat.reduceEqDiff, Int.reduceEq, Int.reduceLT, Int.reduceLE, Int.reduceNe, seqC, retC, skipC, exitC, blockC, condC, t9]
      · simp only [↓opStep_eq, ↓reduceIte, ↓EW, EV, Nat.reduceAdd, Nat.reduceEqDiff, Int.reduceEq, Int.reduceLT, Int.reduceLE, Int.reduceNe, seqC, retC, skipC, exitC, blockC, condC, t10]
      · simp only [↓opStep_eq, ↓reduceIte, ↓EW, EV, Nat.reduceAdd, Nat.reduceEqDiff, Int.reduceEq, Int.reduceLT, Int.reduceLE, Int.reduceNe, seqC, retC, skipC, exitC, blockC, condC]
  · simp only [if_pos]
    exact hQ f1 hx _ ar1 sw1 k1 (x'.set (by omega)) (by simp only [↓opStep_eq, ↓reduceIte, ↓EW, EV, Nat.reduceAdd, Nat.reduceEqDiff, Int.reduceEq, Int.reduceLT, Int.reduceLE, Int.reduceNe, seqC, retC, skipC, exitC, blockC, condC, t9]) (by simp only [↓opStep_eq, ↓reduceIte, ↓EW, EV, Nat.reduceAdd, Nat.reduceEqDiff, Int.reduceEq, Int.reduceLT, Int.reduceLE, Int.reduceNe, seqC, retC, skipC, exitC, blockC, condC, t10])

theorem partial_law (cm : Cm L B cv lt Ok) {m a b N : Nat} {v : Value} {f : Nat → Nm} {h : H} (ok : Ok h) (arr : Arr h B v N f) (inj : Inj f N) (hb : b ≤ N) (hN : N < 60000) (hL : N < L) (hL5 : 10 < L) (hab : a + 1 < b) (hpre : 0 < a → ∀ k, a ≤ k → k < b → lt (f (a - 1)) (f k)) :
    Sp (CF L (m + 5)) 52 [v, .int .i64 (a : Int), .int .i64 (b : Int), cv] h fun r h' => ∃ (f' : Nat → Nm) (d : Bool), r = .bool d ∧ Arr h' B v N f' ∧ Sw a b f f' ∧ (d = true → Sorted lt f' a b) ∧ Keep (· = B) h h' := by
  refine Sp.body f52 (by simp) ?_
  unfold c52
  have w1 := wadd1 a (by omega)
  refine C.seq fun K hK => hK .norm _ _ (C.seq fun K hK => ?_)
  simp only [↓opStep_eq, ↓reduceIte, ↓EW, EV, Nat.reduceAdd, Nat.reduceEqDiff, Int.reduceEq, Int.reduceLT, Int.reduceLE, Int.reduceNe, seqC, retC, skipC, exitC, blockC, condC, r52_1, w1]
  refine hK _ _ _ (C.seq (C.seq fun K hK => hK .norm _ _ ?_))
  refine C.block (C.loop (fun k tm' hx => ∃ c i f', k = 5 - c ∧ c ≤ 5 ∧ a + 1 ≤ i ∧ i ≤ b ∧ Arr hx B v N f' ∧ Sw a b f f' ∧ Sorted lt f' a i ∧ Keep (· = B) h hx ∧ Tq v cv a b tm' ∧ tg tm' 9 = .int .i64 (i : Int) ∧ tg tm' 10 = .int .i64 (c : Int)) 5 (by omega)
    ⟨0, a + 1, f, rfl, by omega, by omega, by omega, arr, .refl _, fun p q h1 h2 h3 => by omega, .refl _ _, ⟨by simp only [↓opStep_eq, ↓reduceIte, ↓EW, EV, Nat.reduceAdd, Nat.reduceEqDiff, Int.reduceEq, Int.reduceLT, Int.reduceLE, Int.reduceNe, seqC, retC, skipC, exitC, blockC, condC], by simp only [↓opStep_eq, ↓reduceIte, ↓EW, EV, Nat.reduceAdd, Nat.reduceEqDiff, Int.reduceEq, Int.reduceLT, Int.reduceLE, Int.reduceNe, seqC, retC, skipC, exitC, blockC, condC], by simp only [↓opStep_eq, ↓reduceIte, ↓EW, EV, Nat.reduceAdd, Nat.reduceEqDiff, Int.reduceEq, Int.reduceLT, Int.reduceLE, Int.reduceNe, seqC, retC, skipC, exitC, blockC, condC], by simp only [↓opStep_eq, ↓reduceIte, ↓EW, EV, Nat.reduceAdd, Nat.reduceEqDiff, Int.reduceEq, Int.reduceLT, Int.reduceLE, Int.reduceNe, seqC, retC, skipC, exitC, blockC, condC]⟩, by simp only [↓opStep_eq, ↓reduceIte, ↓EW, EV, Nat.reduceAdd, Nat.reduceEqDiff, Int.reduceEq, Int.reduceLT, Int.reduceLE, Int.reduceNe, seqC, retC, skipC, exitC, blockC, condC], by simp only [↓opStep_eq, ↓reduceIte, ↓EW, EV, Nat.reduceAdd, Nat.reduceEqDiff, Int.reduceEq, Int.reduceLT, Int.reduceLE, Int.reduceNe, seqC, retC, skipC, exitC, blockC, condC] <;> rfl⟩ ?_)
  rintro k tm hx ⟨c, i, f1, rfl, hc5, hai, hib, ar1, sw1, so1, k1, x, t9, t10⟩
  unfold l52_27
  refine C.seq (C.seq fun K hK => ?_)
  simp only [↓opStep_eq, ↓reduceIte, ↓EW, EV, Nat.reduceAdd, Nat.reduceEqDiff, Int.reduceEq, Int.reduceLT, Int.reduceLE, Int.reduceNe, seqC, retC, skipC, exitC, blockC, condC, r52_3, t10]
  refine hK _ _ _ (C.cond (decide ((c : Int) < 5)) (by simp only [↓opStep_eq, ↓reduceIte, ↓EW, EV, Nat.reduceAdd, Nat.reduceEqDiff, Int.reduceEq, Int.reduceLT, Int.reduceLE, Int.reduceNe, seqC, retC, skipC, exitC, blockC, condC]) (fun g => C.skip ?_) fun g => C.exit ?_)
  · have g : c < 5 := by have := of_decide_eq_true g; omega
    refine C.seq (C.block (C.seq ?_))
    -- what is in order is passed
    refine C.block (C.loop (fun k tm' hy => ∃ i, k = b - i ∧ a + 1 ≤ i ∧ i ≤ b ∧ Arr hy B v N f1 ∧ Sorted lt f1 a i ∧ Keep (· = B) h hy ∧ Tq v cv a b tm' ∧ tg tm' 9 = .int .i64 (i : Int) ∧ tg tm' 10 = .int .i64 (c : Int)) (b - i) (by omega)
      ⟨i, rfl, hai, hib, ar1, so1, k1, x.set (by omega), by simp only [↓opStep_eq, ↓reduceIte, ↓EW, EV, Nat.reduceAdd, Nat.reduceEqDiff, Int.reduceEq, Int.reduceLT, Int.reduceLE, Int.reduceNe, seqC, retC, skipC, exitC, blockC, condC, t9], by simp only [↓opStep_eq, ↓reduceIte, ↓EW, EV, Nat.reduceAdd, Nat.reduceEqDiff, Int.reduceEq, Int.reduceLT, Int.reduceLE, Int.reduceNe, seqC, retC, skipC, exitC, blockC, condC, t10]⟩ ?_)
    clear ar1 so1 k1 x t9 t10 hai hib
    rintro k tm hy ⟨i, rfl, hai, hib, ar1, so1, k1, x, t9, t10⟩
    have inj1 := sw1.inj hb inj
    have pre1 : 0 < a → ∀ k, a ≤ k → k < b → lt (f1 (a - 1)) (f1 k) := fun ha k h1 h2 => by
      rw [sw1.out (.inl (by omega))]
      exact sw1.all (fun y => lt (f (a - 1)) y) (fun k g1 g2 => hpre ha k g1 g2) k h1 h2
    unfold l52_6
    refine C.seq (C.seq fun K hK => ?_)
    refine r52_5_go cm (cm.stay _ _ k1 ok) ar1 hb hN (by omega) x.1 x.2.2.1 x.2.2.2 t9 fun d h3 k3 hd => ?_
    have ar3 := ar1.keep0 k3
    have k13 := k1.then k3
    refine hK _ _ _ (C.cond d (by simp only [↓opStep_eq, ↓reduceIte, ↓EW, EV, Nat.reduceAdd, Nat.reduceEqDiff, Int.reduceEq, Int.reduceLT, Int.reduceLE, Int.reduceNe, seqC, retC, skipC, exitC, blockC, condC]) (fun gd1 => C.skip ?_) fun gd1 => C.exit ?_)
    · obtain ⟨g1, g2⟩ := hd.1 gd1
      refine C.block fun K hK => ?_
      have w := wadd1 i (by omega)
      simp only [↓opStep_eq, ↓reduceIte, ↓EW, EV, Nat.reduceAdd, Nat.reduceEqDiff, Int.reduceEq, Int.reduceLT, Int.reduceLE, Int.reduceNe, seqC, retC, skipC, exitC, blockC, condC, r52_6, t9, w]
      refine hK _ _ _ ⟨b - (i + 1), by omega, i + 1, rfl, by omega, by omega, ar3, fun p q h1 h2 h3 => ?_, k13, (x.set (by omega)).set (by omega), by simp only [↓opStep_eq, ↓reduceIte, ↓EW, EV, Nat.reduceAdd, Nat.reduceEqDiff, Int.reduceEq, Int.reduceLT, Int.reduceLE, Int.reduceNe, seqC, retC, skipC, exitC, blockC, condC], by simp only [↓opStep_eq, ↓reduceIte, ↓EW, EV, Nat.reduceAdd, Nat.reduceEqDiff, Int.reduceEq, Int.reduceLT, Int.reduceLE, Int.reduceNe, seqC, retC, skipC, exitC, blockC, condC, t10]⟩
      by_cases e : q = i
      · subst e
        have hl : lt (f1 (q - 1)) (f1 q) := cm.nlt g2 fun e => by have := inj1 _ _ (by omega) (by omega) e; omega
        by_cases e2 : p = q - 1
        · rw [e2]; exact hl
        · exact cm.tr _ _ _ (so1 p (q - 1) h1 (by omega) (by omega)) hl
      · exact so1 p q h1 h2 (by omega)
    · simp only [if_pos]
      have x' : Tq v cv a b (tm.set 36 (.bool d)) := x.set (by omega)
      have t9' : tg (tm.set 36 (.bool d)) 9 = .int .i64 (i : Int) := by simp only [↓opStep_eq, ↓reduceIte, ↓EW, EV, Nat.reduceAdd, Nat.reduceEqDiff, Int.reduceEq, Int.reduceLT, Int.reduceLE, Int.reduceNe, seqC, retC, skipC, exitC, blockC, condC, t9]
      have t10' : tg (tm.set 36 (.bool d)) 10 = .int .i64 (c : Int) := by simp only [↓opStep_eq, ↓reduceIte, ↓EW, EV, Nat.reduceAdd, Nat.reduceEqDiff, Int.reduceEq, Int.reduceLT, Int.reduceLE, Int.reduceNe, seqC, retC, skipC, exitC, blockC, condC, t10]
      generalize tm.set 36 (.bool d) = tm1 at *
      obtain ⟨x0, x1, x2, x3⟩ := x'
      refine C.seq (C.seq fun K hK => ?_)
      simp only [↓opStep_eq, ↓reduceIte, ↓EW, EV, Nat.reduceAdd, Nat.reduceEqDiff, Int.reduceEq, Int.reduceLT, Int.reduceLE, Int.reduceNe, seqC, retC, skipC, exitC, blockC, condC, r52_7, t9', x2]
      refine hK _ _ _ (C.cond (decide ((i : Int) = (b : Int))) (by simp only [↓opStep_eq, ↓reduceIte, ↓EW, EV, Nat.reduceAdd, Nat.reduceEqDiff, Int.reduceEq, Int.reduceLT, Int.reduceLE, Int.reduceNe, seqC, retC, skipC, exitC, blockC, condC]) (fun ge => C.seq fun K hK => hK .norm _ _ (C.ret ?_)) fun ge => C.skip ?_)
      · have ge : i = b := by have := of_decide_eq_true ge; omega
        subst ge
        exact ⟨.inr rfl, _, rfl, f1, true, by simp only [↓opStep_eq, ↓reduceIte, ↓EW, EV, Nat.reduceAdd, Nat.reduceEqDiff, Int.reduceEq, Int.reduceLT, Int.reduceLE, Int.reduceNe, seqC, retC, skipC, exitC, blockC, condC, resOf], ar3, sw1, fun _ => so1, k13⟩
      · have ge : i < b := by have := of_decide_eq_false ge; omega
        have glt : lt (f1 i) (f1 (i - 1)) := by
          by_cases hl : lt (f1 i) (f1 (i - 1))
          · exact hl
          · have := hd.2 ⟨ge, hl⟩
            rw [gd1] at this; cases this
        have wl : IntKind.i64.wrap ((b : Int) - (a : Int)) = ((b - a : Nat) : Int) := wsub b a (by omega) (by omega)
        refine C.seq (C.seq fun K hK => ?_)
        simp only [↓opStep_eq, ↓reduceIte, ↓EW, EV, Nat.reduceAdd, Nat.reduceEqDiff, Int.reduceEq, Int.reduceLT, Int.reduceLE, Int.reduceNe, seqC, retC, skipC, exitC, blockC, condC, r52_9, x1, x2, wl]
        refine hK _ _ _ (C.cond (decide (((b - a : Nat) : Int) < 50)) (by simp only [↓opStep_eq, ↓reduceIte, ↓EW, EV, Nat.reduceAdd, Nat.reduceEqDiff, Int.reduceEq, Int.reduceLT, Int.reduceLE, Int.reduceNe, seqC, retC, skipC, exitC, blockC, condC]) (fun g5 => C.seq fun K hK => hK .norm _ _ (C.ret ?_)) fun g5 => C.skip ?_)
        · exact ⟨.inr rfl, _, rfl, f1, false, by simp only [↓opStep_eq, ↓reduceIte, ↓EW, EV, Nat.reduceAdd, Nat.reduceEqDiff, Int.reduceEq, Int.reduceLT, Int.reduceLE, Int.reduceNe, seqC, retC, skipC, exitC, blockC, condC, resOf], ar3, sw1, fun h => (by cases h), k13⟩
        · refine C.seq fun K hK => ?_
          have kr := keep_room h3 18
          have ar4 := ar3.keep0 kr
          have w := wsub1 i (by omega) (by omega)
          obtain ⟨h5, h6, s1, s2, ar6, k6⟩ := ar4.swap (p := i - 1) (q := i) (by omega) (by omega)
          simp only [↓opStep_eq, ↓reduceIte, ↓EW, EV, Nat.reduceAdd, Nat.reduceEqDiff, Int.reduceEq, Int.reduceLT, Int.reduceLE, Int.reduceNe, seqC, retC, skipC, exitC, blockC, condC, r52_11, x0, t9', w, ar4.ix (show i < N by omega), ar4.ix (show i - 1 < N by omega), ar4.ld (show i < N by omega), ar4.ld (show i - 1 < N by omega), s1, s2]
          have k16 : Keep (· = B) h h6 := (k13.then kr).trans k6 fun _ _ h => h
          have sw6 : Sw a b f (swF f1 i (i - 1)) := .step i (i - 1) sw1 (by omega) (by omega) (by omega) (by omega)
          have so6 : ∀ p q, a ≤ p → p < q → q < i → q ≠ i - 1 → lt (swF f1 i (i - 1) p) (swF f1 i (i - 1) q) := fun p q h1 h2 h3 h4 => by
            rw [swF_ne (by omega) (by omega), swF_ne (by omega) (by omega)]
            exact so1 p q h1 h2 h3
          have pre6 : 0 < a → ∀ k, a ≤ k → k < b → lt (swF f1 i (i - 1) (a - 1)) (swF f1 i (i - 1) k) := fun ha k h1 h2 => by
            rw [sw6.out (.inl (by omega))]
            exact sw6.all (fun y => lt (f (a - 1)) y) (fun k g1 g2 => hpre ha k g1 g2) k h1 h2
          have inj6 := sw6.inj hb inj
          generalize swF f1 i (i - 1) = f6 at *
          have wi : IntKind.i64.wrap ((i : Int) - (a : Int)) = ((i - a : Nat) : Int) := wsub i a (by omega) (by omega)
          have wb : IntKind.i64.wrap ((b : Int) - (i : Int)) = ((b - i : Nat) : Int) := wsub b i (by omega) (by omega)
          have w7 := wadd1 i (by omega)
          -- behind the first shift
          have rest : ∀ f7 h7 tm7 (Q : Ex → T Value → Ev.H → Prop), Arr h7 B v N f7 → Sw a i f6 f7 → Sorted lt f7 a i → Keep (· = B) h6 h7 → Tq v cv a b tm7 → tg tm7 9 = .int .i64 (i : Int) → tg tm7 10 = .int .i64 (c : Int) →
              (∀ f8 h8 tm8, Arr h8 B v N f8 → Sw a b f f8 → Sorted lt f8 a i → Keep (· = B) h h8 → Tq v cv a b tm8 → tg tm8 9 = .int .i64 (i : Int) → tg tm8 10 = .int .i64 (c : Int) → Q .norm tm8 h8) →
              C ⟨seqC ⟨r52_18⟩ ⟨condC ⟨fun _ tm => tg tm 104⟩ ⟨seqC ⟨r52_19⟩ ⟨blockC 6 (loopB l52_25)⟩⟩ skipC⟩⟩ (CF L (m + 4)) L tm7 h7 Q := fun f7 h7 tm7 Q ar7 sw7 so7 k7 x7 u9 u10 hQ => by
            have k17 : Keep (· = B) h h7 := k16.trans k7 fun _ _ h => h
            have sw07 : Sw a b f f7 := sw6.trans (sw7.mono (by omega) (by omega))
            obtain ⟨y0, y1, y2, y3⟩ := x7
            refine C.seq fun K hK => ?_
            simp only [↓opStep_eq, ↓reduceIte, ↓EW, EV, Nat.reduceAdd, Nat.reduceEqDiff, Int.reduceEq, Int.reduceLT, Int.reduceLE, Int.reduceNe, seqC, retC, skipC, exitC, blockC, condC, r52_18, u9, y2, wb]
            refine hK _ _ _ (C.cond (decide ((2 : Int) ≤ ((b - i : Nat) : Int))) (by simp only [↓opStep_eq, ↓reduceIte, ↓EW, EV, Nat.reduceAdd, Nat.reduceEqDiff, Int.reduceEq, Int.reduceLT, Int.reduceLE, Int.reduceNe, seqC, retC, skipC, exitC, blockC, condC]) (fun g8 => C.seq fun K hK => ?_) fun g8 => C.skip ?_)
            · simp only [↓opStep_eq, ↓reduceIte, ↓EW, EV, Nat.reduceAdd, Nat.reduceEqDiff, Int.reduceEq, Int.reduceLT, Int.reduceLE, Int.reduceNe, seqC, retC, skipC, exitC, blockC, condC, r52_19, u9, w7]
              refine hK .norm _ _ ?_
              refine shift_up cm (cm.stay _ _ k17 ok) ar7 hb hN hL hai ge ⟨by simp only [↓opStep_eq, ↓reduceIte, ↓EW, EV, Nat.reduceAdd, Nat.reduceEqDiff, Int.reduceEq, Int.reduceLT, Int.reduceLE, Int.reduceNe, seqC, retC, skipC, exitC, blockC, condC, y0], by simp only [↓opStep_eq, ↓reduceIte, ↓EW, EV, Nat.reduceAdd, Nat.reduceEqDiff, Int.reduceEq, Int.reduceLT, Int.reduceLE, Int.reduceNe, seqC, retC, skipC, exitC, blockC, condC, y1], by simp only [↓opStep_eq, ↓reduceIte, ↓EW, EV, Nat.reduceAdd, Nat.reduceEqDiff, Int.reduceEq, Int.reduceLT, Int.reduceLE, Int.reduceNe, seqC, retC, skipC, exitC, blockC, condC, y2], by simp only [↓opStep_eq, ↓reduceIte, ↓EW, EV, Nat.reduceAdd, Nat.reduceEqDiff, Int.reduceEq, Int.reduceLT, Int.reduceLE, Int.reduceNe, seqC, retC, skipC, exitC, blockC, condC, y3]⟩ (by simp only [↓opStep_eq, ↓reduceIte, ↓EW, EV, Nat.reduceAdd, Nat.reduceEqDiff, Int.reduceEq, Int.reduceLT, Int.reduceLE, Int.reduceNe, seqC, retC, skipC, exitC, blockC, condC, u9]) (q10 := .int .i64 (c : Int)) (by simp only [↓opStep_eq, ↓reduceIte, ↓EW, EV, Nat.reduceAdd, Nat.reduceEqDiff, Int.reduceEq, Int.reduceLT, Int.reduceLE, Int.reduceNe, seqC, retC, skipC, exitC, blockC, condC, u10]) (by simp only [↓opStep_eq, ↓reduceIte, ↓EW, EV, Nat.reduceAdd, Nat.reduceEqDiff, Int.reduceEq, Int.reduceLT, Int.reduceLE, Int.reduceNe, seqC, retC, skipC, exitC, blockC, condC]) _ fun f8 h8 tm8 ar8 sw8 k8 x8 v9 v10 => hQ f8 h8 tm8 ar8 (sw07.trans (sw8.mono (by omega) (by omega))) (fun p q h1 h2 h3 => ?_) (k17.trans k8 fun _ _ h => h) x8 v9 v10
              rw [sw8.out (.inl (by omega)), sw8.out (.inl h3)]
              exact so7 p q h1 h2 h3
            · refine hQ f7 h7 _ ar7 sw07 so7 k17 ⟨?_, ?_, ?_, ?_⟩ ?_ ?_
              · simp only [↓opStep_eq, ↓reduceIte, ↓EW, EV, Nat.reduceAdd, Nat.reduceEqDiff, Int.reduceEq, Int.reduceLT, Int.reduceLE, Int.reduceNe, seqC, retC, skipC, exitC, blockC, condC, y0]
              · simp only [↓opStep_eq, ↓reduceIte, ↓EW, EV, Nat.reduceAdd, Nat.reduceEqDiff, Int.reduceEq, Int.reduceLT, Int.reduceLE, Int.reduceNe, seqC, retC, skipC, exitC, blockC, condC, y1]
              · simp only [↓opStep_eq, ↓reduceIte, ↓EW, EV, Nat.reduceAdd, Nat.reduceEqDiff, Int.reduceEq, Int.reduceLT, Int.reduceLE, Int.reduceNe, seqC, retC, skipC, exitC, blockC, condC, y2]
              · simp only [↓opStep_eq, ↓reduceIte, ↓EW, EV, Nat.reduceAdd, Nat.reduceEqDiff, Int.reduceEq, Int.reduceLT, Int.reduceLE, Int.reduceNe, seqC, retC, skipC, exitC, blockC, condC, y3]
              · simp only [↓opStep_eq, ↓reduceIte, ↓EW, EV, Nat.reduceAdd, Nat.reduceEqDiff, Int.reduceEq, Int.reduceLT, Int.reduceLE, Int.reduceNe, seqC, retC, skipC, exitC, blockC, condC, u9]
              · simp only [↓opStep_eq, ↓reduceIte, ↓EW, EV, Nat.reduceAdd, Nat.reduceEqDiff, Int.reduceEq, Int.reduceLT, Int.reduceLE, Int.reduceNe, seqC, retC, skipC, exitC, blockC, condC, u10]
          -- the next round
          have again : ∀ f8 h8 tm8 (Q : Ex → T Value → Ev.H → Prop), Arr h8 B v N f8 → Sw a b f f8 → Sorted lt f8 a i → Keep (· = B) h h8 → Tq v cv a b tm8 → tg tm8 9 = .int .i64 (i : Int) → tg tm8 10 = .int .i64 (c : Int) →
              (∀ tm', (∃ k', k' < 5 - c ∧ ∃ c' i' f', k' = 5 - c' ∧ c' ≤ 5 ∧ a + 1 ≤ i' ∧ i' ≤ b ∧ Arr h8 B v N f' ∧ Sw a b f f' ∧ Sorted lt f' a i' ∧ Keep (· = B) h h8 ∧ Tq v cv a b tm' ∧ tg tm' 9 = .int .i64 (i' : Int) ∧ tg tm' 10 = .int .i64 (c' : Int)) → Q .norm tm' h8) →
              C ⟨r52_4⟩ (CF L (m + 4)) L tm8 h8 Q := fun f8 h8 tm8 Q ar8 sw8 so8 k8 x8 v9 v10 hQ => by
            intro K hK
            have w9 := wadd1 c (by omega)
            simp only [↓opStep_eq, ↓reduceIte, ↓EW, EV, Nat.reduceAdd, Nat.reduceEqDiff, Int.reduceEq, Int.reduceLT, Int.reduceLE, Int.reduceNe, seqC, retC, skipC, exitC, blockC, condC, r52_4, v10, w9]
            exact hK _ _ _ (hQ _ ⟨5 - (c + 1), by omega, c + 1, i, f8, rfl, by omega, hai, by omega, ar8, sw8, so8, k8, x8.set (by omega), by simp only [↓opStep_eq, ↓reduceIte, ↓EW, EV, Nat.reduceAdd, Nat.reduceEqDiff, Int.reduceEq, Int.reduceLT, Int.reduceLE, Int.reduceNe, seqC, retC, skipC, exitC, blockC, condC, v9], by simp only [↓opStep_eq, ↓reduceIte, ↓EW, EV, Nat.reduceAdd, Nat.reduceEqDiff, Int.reduceEq, Int.reduceLT, Int.reduceLE, Int.reduceNe, seqC, retC, skipC, exitC, blockC, condC]⟩)
          refine hK _ _ _ (C.seq (C.seq fun K hK => ?_))
          simp only [↓opStep_eq, ↓reduceIte, ↓EW, EV, Nat.reduceAdd, Nat.reduceEqDiff, Int.reduceEq, Int.reduceLT, Int.reduceLE, Int.reduceNe, seqC, retC, skipC, exitC, blockC, condC, r52_12, t9', x1, wi]
          refine hK _ _ _ (C.cond (decide ((2 : Int) ≤ ((i - a : Nat) : Int))) (by simp only [↓opStep_eq, ↓reduceIte, ↓EW, EV, Nat.reduceAdd, Nat.reduceEqDiff, Int.reduceEq, Int.reduceLT, Int.reduceLE, Int.reduceNe, seqC, retC, skipC, exitC, blockC, condC]) (fun g7 => C.seq fun K hK => ?_) fun g7 => C.skip ?_)
          · simp only [↓opStep_eq, ↓reduceIte, ↓EW, EV, Nat.reduceAdd, Nat.reduceEqDiff, Int.reduceEq, Int.reduceLT, Int.reduceLE, Int.reduceNe, seqC, retC, skipC, exitC, blockC, condC, r52_13, t9', w]
            refine hK .norm _ _ ?_
            refine shift_down cm (cm.stay _ _ k16 ok) ar6 inj6 hb hN hL hai ge pre6 ⟨by simp only [↓opStep_eq, ↓reduceIte, ↓EW, EV, Nat.reduceAdd, Nat.reduceEqDiff, Int.reduceEq, Int.reduceLT, Int.reduceLE, Int.reduceNe, seqC, retC, skipC, exitC, blockC, condC, x0], by simp only [↓opStep_eq, ↓reduceIte, ↓EW, EV, Nat.reduceAdd, Nat.reduceEqDiff, Int.reduceEq, Int.reduceLT, Int.reduceLE, Int.reduceNe, seqC, retC, skipC, exitC, blockC, condC, x1], by simp only [↓opStep_eq, ↓reduceIte, ↓EW, EV, Nat.reduceAdd, Nat.reduceEqDiff, Int.reduceEq, Int.reduceLT, Int.reduceLE, Int.reduceNe, seqC, retC, skipC, exitC, blockC, condC, x2], by simp only [↓opStep_eq, ↓reduceIte, ↓EW, EV, Nat.reduceAdd, Nat.reduceEqDiff, Int.reduceEq, Int.reduceLT, Int.reduceLE, Int.reduceNe, seqC, retC, skipC, exitC, blockC, condC, x3]⟩ (by simp only [↓opStep_eq, ↓reduceIte, ↓EW, EV, Nat.reduceAdd, Nat.reduceEqDiff, Int.reduceEq, Int.reduceLT, Int.reduceLE, Int.reduceNe, seqC, retC, skipC, exitC, blockC, condC, t9']) (q10 := .int .i64 (c : Int)) (by simp only [↓opStep_eq, ↓reduceIte, ↓EW, EV, Nat.reduceAdd, Nat.reduceEqDiff, Int.reduceEq, Int.reduceLT, Int.reduceLE, Int.reduceNe, seqC, retC, skipC, exitC, blockC, condC, t10']) (by simp only [↓opStep_eq, ↓reduceIte, ↓EW, EV, Nat.reduceAdd, Nat.reduceEqDiff, Int.reduceEq, Int.reduceLT, Int.reduceLE, Int.reduceNe, seqC, retC, skipC, exitC, blockC, condC]) so6 _ fun f7 h7 tm7 ar7 sw7 so7 k7 x7 u9 u10 => ?_
            exact rest f7 h7 tm7 _ ar7 sw7 so7 k7 x7 u9 u10 fun f8 h8 tm8 ar8 sw8 so8 k8 x8 v9 v10 => again f8 h8 tm8 _ ar8 sw8 so8 k8 x8 v9 v10 fun tm' hh => hh
          · have g7 : i = a + 1 := by have := of_decide_eq_false g7; omega
            refine rest f6 h6 _ _ ar6 (.refl _) (fun p q h1 h2 h3 => by omega) (.refl _ _) ⟨?_, ?_, ?_, ?_⟩ ?_ ?_ fun f8 h8 tm8 ar8 sw8 so8 k8 x8 v9 v10 => again f8 h8 tm8 _ ar8 sw8 so8 k8 x8 v9 v10 fun tm' hh => hh
            · simp only [↓opStep_eq, ↓reduceIte, ↓EW, EV, Nat.reduceAdd, Nat.reduceEqDiff, Int.reduceEq, Int.reduceLT, Int.reduceLE, Int.reduceNe, seqC, retC, skipC, exitC, blockC, condC, x0]
            · simp only [↓opStep_eq, ↓reduceIte, ↓EW, EV, Nat.reduceAdd, Nat.reduceEqDiff, Int.reduceEq, Int.reduceLT, Int.reduceLE, Int.reduceNe, seqC, retC, skipC, exitC, blockC, condC, x1]
            · simp only [↓opStep_eq, ↓reduceIte, ↓EW, EV, Nat.reduceAdd, Nat.reduceEqDiff, Int.reduceEq, Int.reduceLT, Int.reduceLE, Int.reduceNe, seqC, retC, skipC, exitC, blockC, condC, x2]
            · simp only [↓opStep_eq, ↓reduceIte, ↓EW, EV, Nat.reduceAdd, Nat.reduceEqDiff, Int.reduceEq, Int.reduceLT, Int.reduceLE, Int.reduceNe, seqC, retC, skipC, exitC, blockC, condC, x3]
            · simp only [↓opStep_eq, ↓reduceIte, ↓EW, EV, Nat.reduceAdd, Nat.reduceEqDiff, Int.reduceEq, Int.reduceLT, Int.reduceLE, Int.reduceNe, seqC, retC, skipC, exitC, blockC, condC, t9']
            · simp only [↓opStep_eq, ↓reduceIte, ↓EW, EV, Nat.reduceAdd, Nat.reduceEqDiff, Int.reduceEq, Int.reduceLT, Int.reduceLE, Int.reduceNe, seqC, retC, skipC, exitC, blockC, condC, t10']
  · simp only [if_pos]
    refine C.seq fun K hK => hK .norm _ _ (C.ret ⟨.inr rfl, _, rfl, f1, false, by simp only [↓opStep_eq, ↓reduceIte, ↓EW, EV, Nat.reduceAdd, Nat.reduceEqDiff, Int.reduceEq, Int.reduceLT, Int.reduceLE, Int.reduceNe, seqC, retC, skipC, exitC, blockC, condC, resOf], ar1, sw1, fun h => (by cases h), k1⟩)
end
end Go.Proofs.Ytpoedopdcpejmaa

namespace Go.Proofs.Ytpoedopdcpejmaa
open Go.Ev

section
variable {L B : Nat} {cv : Value} {lt : Nm → Nm → Prop} {Ok : H → Prop}

structure Sv (lt : Nm → Nm → Prop) (f0 : Nat → Nm) (a0 b0 a b : Nat) (f : Nat → Nm) : Prop where
  sw : Sw a0 b0 f0 f
  a0a : a0 ≤ a
  ab : a ≤ b
  bb : b ≤ b0
  J : ∀ p q, a0 ≤ p → p < q → q < b0 → (p < a ∨ b ≤ q) → lt (f p) (f q)
theorem Sv.move {f0 f f' : Nat → Nm} {a0 b0 a b : Nat} (s : Sv lt f0 a0 b0 a b f) (w : Sw a b f f') : Sv lt f0 a0 b0 a b f' := by
  refine ⟨s.sw.trans (w.mono s.a0a s.bb), s.a0a, s.ab, s.bb, fun p q h1 h2 h3 h4 => ?_⟩
  have := s.ab
  by_cases p1 : a ≤ p ∧ p < b
  · have hq : b ≤ q := by omega
    rw [w.out (k := q) (.inr hq)]
    exact w.all (fun x => lt x (f q)) (fun k k1 k2 => s.J k q (by have := s.a0a; omega) (by omega) h3 (.inr hq)) p p1.1 p1.2
  · rw [w.out (k := p) (by omega)]
    by_cases q1 : a ≤ q ∧ q < b
    · exact w.all (fun x => lt (f p) x) (fun k k1 k2 => s.J p k h1 (by omega) (by have := s.bb; omega) (by omega)) q q1.1 q1.2
    · rw [w.out (k := q) (by omega)]
      exact s.J p q h1 h2 h3 h4
theorem Sv.done {f0 f : Nat → Nm} {a0 b0 a b : Nat} (s : Sv lt f0 a0 b0 a b f) (so : Sorted lt f a b) : Sw a0 b0 f0 f ∧ Sorted lt f a0 b0 := by
  refine ⟨s.sw, fun p q h1 h2 h3 => ?_⟩
  by_cases e : p < a ∨ b ≤ q
  · exact s.J p q h1 h2 h3 e
  · exact so p q (by omega) h2 (by omega)
theorem Sv.pre {f0 f : Nat → Nm} {a0 b0 a b : Nat} (s : Sv lt f0 a0 b0 a b f) (h : 0 < a0 → ∀ k, a0 ≤ k → k < b0 → lt (f0 (a0 - 1)) (f0 k)) : 0 < a → ∀ k, a ≤ k → k < b → lt (f (a - 1)) (f k) := fun ha k h1 h2 => by
  have h3 := s.a0a
  have h4 := s.bb
  by_cases e : a0 = a
  · subst e
    rw [s.sw.out (.inl (by omega))]
    exact s.sw.all (fun x => lt (f0 (a0 - 1)) x) (h ha) k h1 (by omega)
  · exact s.J (a - 1) k (by omega) (by omega) (by omega) (.inl (by omega))
theorem Sv.left (cm : Cm L B cv lt Ok) {f0 f f' : Nat → Nm} {a0 b0 a b m : Nat} (s : Sv lt f0 a0 b0 a b f) (h1 : a ≤ m) (h2 : m < b) (lo : ∀ k, a ≤ k → k < m → lt (f k) (f m)) (hi : ∀ k, m < k → k < b → lt (f m) (f k)) (w : Sw a m f f') (so : Sorted lt f' a m) : Sv lt f0 a0 b0 (m + 1) b f' := by
  have s' := s.move (w.mono (Nat.le_refl a) (Nat.le_of_lt h2))
  have ha := s.a0a
  have hb := s.bb
  have em : ∀ k, m ≤ k → f' k = f k := fun k hk => w.out (.inr hk)
  have lo' : ∀ k, a ≤ k → k < m → lt (f' k) (f m) := w.all (fun x => lt x (f m)) lo
  refine ⟨s'.sw, by omega, by omega, hb, fun p q g1 g2 g3 g4 => ?_⟩
  by_cases e : p < a ∨ b ≤ q
  · exact s'.J p q g1 g2 g3 e
  · by_cases e1 : q < m
    · exact so p q (by omega) g2 e1
    · rw [em q (by omega)]
      by_cases e2 : p = m
      · subst e2; rw [em p (Nat.le_refl _)]; exact hi q g2 (by omega)
      · have l := lo' p (by omega) (by omega)
        by_cases e3 : q = m
        · subst e3; exact l
        · exact cm.tr _ _ _ l (hi q (by omega) (by omega))
theorem Sv.right (cm : Cm L B cv lt Ok) {f0 f f' : Nat → Nm} {a0 b0 a b m : Nat} (s : Sv lt f0 a0 b0 a b f) (h1 : a ≤ m) (h2 : m < b) (lo : ∀ k, a ≤ k → k < m → lt (f k) (f m)) (hi : ∀ k, m < k → k < b → lt (f m) (f k)) (w : Sw (m + 1) b f f') (so : Sorted lt f' (m + 1) b) : Sv lt f0 a0 b0 a m f' := by
  have s' := s.move (w.mono (by omega) (Nat.le_refl b))
  have ha := s.a0a
  have hb := s.bb
  have em : ∀ k, k < m + 1 → f' k = f k := fun k hk => w.out (.inl hk)
  have hi' : ∀ k, m + 1 ≤ k → k < b → lt (f m) (f' k) := w.all (fun x => lt (f m) x) fun k k1 k2 => hi k (by omega) k2
  refine ⟨s'.sw, ha, h1, by omega, fun p q g1 g2 g3 g4 => ?_⟩
  by_cases e : p < a ∨ b ≤ q
  · exact s'.J p q g1 g2 g3 e
  · by_cases e1 : m < p
    · exact so p q (by omega) g2 (by omega)
    · rw [em p (by omega)]
      by_cases e2 : q = m
      · subst e2; rw [em q (by omega)]; exact lo p (by omega) g2
      · have l := hi' q (by omega) (by omega)
        by_cases e3 : p = m
        · subst e3; exact l
        · exact cm.tr _ _ _ (lo p (by omega) (by omega)) l

structure Tr (v cv : Value) (a b : Nat) (tm : T Value) : Prop where
  t0 : tg tm 0 = v
  t1 : tg tm 1 = .int .i64 (a : Int)
  t2 : tg tm 2 = .int .i64 (b : Int)
  t4 : tg tm 4 = cv
  t3 : ∃ z : Int, tg tm 3 = .int .i64 z
  t10 : ∃ z : Bool, tg tm 10 = .bool z
  t11 : ∃ z : Bool, tg tm 11 = .bool z
theorem Tr.set {v cv : Value} {a b : Nat} {tm : T Value} (x : Tr v cv a b tm) {j : Nat} {w : Value} (hj : j ≠ 0 ∧ j ≠ 1 ∧ j ≠ 2 ∧ j ≠ 3 ∧ j ≠ 4 ∧ j ≠ 10 ∧ j ≠ 11) : Tr v cv a b (T.set tm j w) := by
  obtain ⟨x0, x1, x2, x4, x3, x10, x11⟩ := x
  refine ⟨?_, ?_, ?_, ?_, ?_, ?_, ?_⟩
  · rw [tg_set, if_neg hj.1]; exact x0
  · rw [tg_set, if_neg hj.2.1]; exact x1
  · rw [tg_set, if_neg hj.2.2.1]; exact x2
  · rw [tg_set, if_neg hj.2.2.2.2.1]; exact x4
  · rw [tg_set, if_neg hj.2.2.2.1]; exact x3
  · rw [tg_set, if_neg hj.2.2.2.2.2.1]; exact x10
  · rw [tg_set, if_neg hj.2.2.2.2.2.2]; exact x11

theorem pdq_tail4 (cm : Cm L B cv lt Ok) {M a0 b0 a b p N : Nat} {l : Value} {v : Value} {f0 f : Nat → Nm} {h0 h : H} {tm : T Value} (ok0 : Ok h0) (arr : Arr h B v N f) (inj : Inj f0 N) (hb0 : b0 ≤ N) (hN : N < 60000) (hL : N < L) (hpre : 0 < a0 → ∀ k, a0 ≤ k → k < b0 → lt (f0 (a0 - 1)) (f0 k)) (sv : Sv lt f0 a0 b0 a b f) (kp : Keep (· = B) h0 h) (hab : a + 12 < b) (hp : a ≤ p) (hp2 : p < b) (x : Tr v cv a b tm) (t12 : tg tm 12 = .int .i64 ((b - a : Nat) : Int)) (t13 : tg tm 13 = .int .i64 (p : Int))
    (rec_ : ∀ a' b' (z : Int) (f' : Nat → Nm) h', a' ≤ b' → b' ≤ b0 → a0 ≤ a' → 2 * (b' - a') < b - a → Arr h' B v N f' → Inj f' N → Ok h' → (0 < a' → ∀ k, a' ≤ k → k < b' → lt (f' (a' - 1)) (f' k)) → Sp (CF L (M + 8)) 40 [v, .int .i64 (a' : Int), .int .i64 (b' : Int), .int .i64 z, cv] h' fun r h'' => ∃ f'', Arr h'' B v N f'' ∧ Sw a' b' f' f'' ∧ Sorted lt f'' a' b' ∧ Keep (· = B) h' h'')
    (Q : Ex → T Value → H → Prop)
    (hQ : ∀ a' b' f' h' tm', b' - a' < b - a → Arr h' B v N f' → Sv lt f0 a0 b0 a' b' f' → Keep (· = B) h0 h' → Tr v cv a' b' tm' → Q .norm tm' h') :
    C ⟨seqC ⟨seqC ⟨r40_17⟩ ⟨condC ⟨fun _ tm => tg tm 97⟩ ⟨seqC ⟨r40_18⟩ ⟨seqC ⟨r40_19⟩ (exitC 1)⟩⟩ skipC⟩⟩ ⟨seqC ⟨r40_20⟩ ⟨seqC ⟨r40_21⟩ ⟨seqC ⟨r40_22⟩ ⟨seqC ⟨r40_23⟩ ⟨seqC ⟨r40_24⟩ ⟨condC ⟨fun _ tm => tg tm 125⟩ ⟨seqC ⟨r40_25⟩ ⟨seqC ⟨r40_26⟩ ⟨r40_27⟩⟩⟩ ⟨seqC ⟨r40_28⟩ ⟨seqC ⟨r40_29⟩ ⟨r40_30⟩⟩⟩⟩⟩⟩⟩⟩⟩⟩ (CF L (M + 8)) L tm h Q := by
  have hbb := sv.bb
  have haa := sv.a0a
  have pre := sv.pre hpre
  have inj1 := sv.sw.inj hb0 inj
  have x' := x
  obtain ⟨x0, x1, x2, x4, ⟨lim, x3⟩, ⟨wb, x10⟩, ⟨wp, x11⟩⟩ := x
  refine C.seq (C.seq fun K hK => ?_)
  have kr := keep_room h 17
  have ar1 := arr.keep0 kr
  -- it is not as great as the one ahead
  have w1 := wsub1 b (by omega) (by omega)
  have first : ∀ h2, Keep nobody h h2 → K .norm (T.set tm 97 (.bool false)) [] h2 = true := fun h2 k2 => by
    have arr2 := arr.keep0 k2
    have kp2 := kp.then k2
    refine hK _ _ _ (C.cond false (by simp only [↓opStep_eq, ↓reduceIte, ↓EW, EV, Nat.reduceAdd, Nat.reduceEqDiff, Int.reduceEq, Int.reduceLT, Int.reduceLE, Int.reduceNe, seqC, retC, skipC, exitC, blockC, condC]) (fun g => by cases g) fun g => C.skip (C.seq fun K hK => ?_))
    simp only [↓opStep_eq, ↓reduceIte, ↓EW, EV, Nat.reduceAdd, Nat.reduceEqDiff, Int.reduceEq, Int.reduceLT, Int.reduceLE, Int.reduceNe, seqC, retC, skipC, exitC, blockC, condC, r40_20, x0, x1, x2, x4, t13]
    refine partition_law cm (m := M + 3) (cm.stay _ _ kp2 ok0) arr2 inj1 (by omega) hN hL (by omega) hp hp2 _ fun r h3 hq => ?_
    obtain ⟨f3, j, d, rfl, arr3, sw3, ja, jb, lo, hi, k3⟩ := hq
    have sv3 := sv.move sw3
    have kp3 : Keep (· = B) h0 h3 := kp2.trans k3 fun _ _ h => h
    have inj3 := sv3.sw.inj hb0 inj
    simp only [↓opStep_eq, ↓reduceIte, ↓EW, EV, Nat.reduceAdd, Nat.reduceEqDiff, Int.reduceEq, Int.reduceLT, Int.reduceLE, Int.reduceNe, seqC, retC, skipC, exitC, blockC, condC, tupNth_tuple]
    refine hK _ _ _ (C.seq fun K hK => ?_)
    simp only [↓opStep_eq, ↓reduceIte, ↓EW, EV, Nat.reduceAdd, Nat.reduceEqDiff, Int.reduceEq, Int.reduceLT, Int.reduceLE, Int.reduceNe, seqC, retC, skipC, exitC, blockC, condC, r40_21]
    refine hK _ _ _ (C.seq fun K hK => ?_)
    have w2 := wsub j a (by omega) (by omega)
    have w3 := wsub b j (by omega) (by omega)
    simp only [↓opStep_eq, ↓reduceIte, ↓EW, EV, Nat.reduceAdd, Nat.reduceEqDiff, Int.reduceEq, Int.reduceLT, Int.reduceLE, Int.reduceNe, seqC, retC, skipC, exitC, blockC, condC, r40_22, x1, x2, w2, w3]
    refine hK _ _ _ (C.seq fun K hK => ?_)
    have q8 := quo_nat 3 true (b - a) 8 (by decide) (by omega)
    have c8 : ((8 : Nat) : Int) = 8 := rfl
    rw [c8] at q8
    simp only [↓opStep_eq, ↓reduceIte, ↓EW, EV, Nat.reduceAdd, Nat.reduceEqDiff, Int.reduceEq, Int.reduceLT, Int.reduceLE, Int.reduceNe, seqC, retC, skipC, exitC, blockC, condC, r40_23, t12, q8]
    refine hK _ _ _ (C.seq fun K hK => ?_)
    have w4 := wadd1 j (by omega)
    simp only [↓opStep_eq, ↓reduceIte, ↓EW, EV, Nat.reduceAdd, Nat.reduceEqDiff, Int.reduceEq, Int.reduceLT, Int.reduceLE, Int.reduceNe, seqC, retC, skipC, exitC, blockC, condC, r40_24]
    refine hK _ _ _ (C.cond (decide (((j - a : Nat) : Int) < ((b - j : Nat) : Int))) (by simp only [↓opStep_eq, ↓reduceIte, ↓EW, EV, Nat.reduceAdd, Nat.reduceEqDiff, Int.reduceEq, Int.reduceLT, Int.reduceLE, Int.reduceNe, seqC, retC, skipC, exitC, blockC, condC]) (fun g => C.seq fun K hK => ?_) fun g => C.seq fun K hK => ?_)
    · have g : j - a < b - j := by have := of_decide_eq_true g; omega
      simp only [↓opStep_eq, ↓reduceIte, ↓EW, EV, Nat.reduceAdd, Nat.reduceEqDiff, Int.reduceEq, Int.reduceLT, Int.reduceLE, Int.reduceNe, seqC, retC, skipC, exitC, blockC, condC, r40_25]
      refine hK _ _ _ (C.seq fun K hK => ?_)
      simp only [↓opStep_eq, ↓reduceIte, ↓EW, EV, Nat.reduceAdd, Nat.reduceEqDiff, Int.reduceEq, Int.reduceLT, Int.reduceLE, Int.reduceNe, seqC, retC, skipC, exitC, blockC, condC, r40_26, x0, x1, x3, x4]
      refine rec_ a j lim f3 h3 ja (by omega) haa (by omega) arr3 inj3 (cm.stay _ _ kp3 ok0) (fun ha k h1 h2 => (sv3.pre hpre) ha k h1 (by omega)) _ fun r h4 hq => ?_
      obtain ⟨f4, arr4, sw4, so4, k4⟩ := hq
      refine hK _ _ _ fun K hK => ?_
      simp only [↓opStep_eq, ↓reduceIte, ↓EW, EV, Nat.reduceAdd, Nat.reduceEqDiff, Int.reduceEq, Int.reduceLT, Int.reduceLE, Int.reduceNe, seqC, retC, skipC, exitC, blockC, condC, r40_27, w4]
      refine hK _ _ _ (hQ (j + 1) b f4 h4 _ (by omega) arr4 (sv3.left cm ja jb lo hi sw4 so4) (kp3.trans k4 fun _ _ h => h) ⟨?_, ?_, ?_, ?_, ⟨lim, ?_⟩, ⟨decide ((((b - a) / 8 : Nat) : Int) ≤ ((j - a : Nat) : Int)), ?_⟩, ⟨d, ?_⟩⟩)
      · simp only [↓opStep_eq, ↓reduceIte, ↓EW, EV, Nat.reduceAdd, Nat.reduceEqDiff, Int.reduceEq, Int.reduceLT, Int.reduceLE, Int.reduceNe, seqC, retC, skipC, exitC, blockC, condC, x0]
      · simp only [↓opStep_eq, ↓reduceIte, ↓EW, EV, Nat.reduceAdd, Nat.reduceEqDiff, Int.reduceEq, Int.reduceLT, Int.reduceLE, Int.reduceNe, seqC, retC, skipC, exitC, blockC, condC]
      · simp only [↓opStep_eq, ↓reduceIte, ↓EW, EV, Nat.reduceAdd, Nat.reduceEqDiff, Int.reduceEq, Int.reduceLT, Int.reduceLE, Int.reduceNe, seqC, retC, skipC, exitC, blockC, condC, x2]
      · simp only [↓opStep_eq, ↓reduceIte, ↓EW, EV, Nat.reduceAdd, Nat.reduceEqDiff, Int.reduceEq, Int.reduceLT, Int.reduceLE, Int.reduceNe, seqC, retC, skipC, exitC, blockC, condC, x4]
      · simp only [↓opStep_eq, ↓reduceIte, ↓EW, EV, Nat.reduceAdd, Nat.reduceEqDiff, Int.reduceEq, Int.reduceLT, Int.reduceLE, Int.reduceNe, seqC, retC, skipC, exitC, blockC, condC, x3]
      · simp only [↓opStep_eq, ↓reduceIte, ↓EW, EV, Nat.reduceAdd, Nat.reduceEqDiff, Int.reduceEq, Int.reduceLT, Int.reduceLE, Int.reduceNe, seqC, retC, skipC, exitC, blockC, condC]
      · simp only [↓opStep_eq, ↓reduceIte, ↓EW, EV, Nat.reduceAdd, Nat.reduceEqDiff, Int.reduceEq, Int.reduceLT, Int.reduceLE, Int.reduceNe, seqC, retC, skipC, exitC, blockC, condC]
    · have g : b - j ≤ j - a := by have := of_decide_eq_false g; omega
      simp only [↓opStep_eq, ↓reduceIte, ↓EW, EV, Nat.reduceAdd, Nat.reduceEqDiff, Int.reduceEq, Int.reduceLT, Int.reduceLE, Int.reduceNe, seqC, retC, skipC, exitC, blockC, condC, r40_28]
      refine hK _ _ _ (C.seq fun K hK => ?_)
      simp only [↓opStep_eq, ↓reduceIte, ↓EW, EV, Nat.reduceAdd, Nat.reduceEqDiff, Int.reduceEq, Int.reduceLT, Int.reduceLE, Int.reduceNe, seqC, retC, skipC, exitC, blockC, condC, r40_29, x0, x2, x3, x4, w4]
      refine rec_ (j + 1) b lim f3 h3 (by omega) (by omega) (by omega) (by omega) arr3 inj3 (cm.stay _ _ kp3 ok0) (fun ha k h1 h2 => ?_) _ fun r h4 hq => ?_
      · rw [show j + 1 - 1 = j by omega]; exact hi k (by omega) h2
      obtain ⟨f4, arr4, sw4, so4, k4⟩ := hq
      refine hK _ _ _ fun K hK => ?_
      simp only [↓opStep_eq, ↓reduceIte, ↓EW, EV, Nat.reduceAdd, Nat.reduceEqDiff, Int.reduceEq, Int.reduceLT, Int.reduceLE, Int.reduceNe, seqC, retC, skipC, exitC, blockC, condC, r40_30]
      refine hK _ _ _ (hQ a j f4 h4 _ (by omega) arr4 (sv3.right cm ja jb lo hi sw4 so4) (kp3.trans k4 fun _ _ h => h) ⟨?_, ?_, ?_, ?_, ⟨lim, ?_⟩, ⟨decide ((((b - a) / 8 : Nat) : Int) ≤ ((b - j : Nat) : Int)), ?_⟩, ⟨d, ?_⟩⟩)
      · simp only [↓opStep_eq, ↓reduceIte, ↓EW, EV, Nat.reduceAdd, Nat.reduceEqDiff, Int.reduceEq, Int.reduceLT, Int.reduceLE, Int.reduceNe, seqC, retC, skipC, exitC, blockC, condC, x0]
      · simp only [↓opStep_eq, ↓reduceIte, ↓EW, EV, Nat.reduceAdd, Nat.reduceEqDiff, Int.reduceEq, Int.reduceLT, Int.reduceLE, Int.reduceNe, seqC, retC, skipC, exitC, blockC, condC, x1]
      · simp only [↓opStep_eq, ↓reduceIte, ↓EW, EV, Nat.reduceAdd, Nat.reduceEqDiff, Int.reduceEq, Int.reduceLT, Int.reduceLE, Int.reduceNe, seqC, retC, skipC, exitC, blockC, condC]
      · simp only [↓opStep_eq, ↓reduceIte, ↓EW, EV, Nat.reduceAdd, Nat.reduceEqDiff, Int.reduceEq, Int.reduceLT, Int.reduceLE, Int.reduceNe, seqC, retC, skipC, exitC, blockC, condC, x4]
      · simp only [↓opStep_eq, ↓reduceIte, ↓EW, EV, Nat.reduceAdd, Nat.reduceEqDiff, Int.reduceEq, Int.reduceLT, Int.reduceLE, Int.reduceNe, seqC, retC, skipC, exitC, blockC, condC, x3]
      · simp only [↓opStep_eq, ↓reduceIte, ↓EW, EV, Nat.reduceAdd, Nat.reduceEqDiff, Int.reduceEq, Int.reduceLT, Int.reduceLE, Int.reduceNe, seqC, retC, skipC, exitC, blockC, condC]
      · simp only [↓opStep_eq, ↓reduceIte, ↓EW, EV, Nat.reduceAdd, Nat.reduceEqDiff, Int.reduceEq, Int.reduceLT, Int.reduceLE, Int.reduceNe, seqC, retC, skipC, exitC, blockC, condC]
  by_cases g : 0 < a
  · have gI : (0 : Int) < (a : Int) := by omega
    have w := wsub1 a (by omega) (by omega)
    simp only [↓opStep_eq, ↓reduceIte, ↓EW, EV, Nat.reduceAdd, Nat.reduceEqDiff, Int.reduceEq, Int.reduceLT, Int.reduceLE, Int.reduceNe, seqC, retC, skipC, exitC, blockC, condC, r40_17, ite2, x0, x1, x4, t13, gI, w, ar1.ix (show a - 1 < N by omega), ar1.ix (show p < N by omega), ar1.ld (show a - 1 < N by omega), ar1.ld (show p < N by omega)]
    refine cm.go (n := M + 4) (cm.stay0 kr (cm.stay _ _ kp ok0)) fun c h2 hc k2 => ?_
    have hlt := pre g p hp hp2
    have hc0 : c < 0 := hc.2 hlt
    simp only [↓opStep_eq, ↓reduceIte, ↓EW, EV, Nat.reduceAdd, Nat.reduceEqDiff, Int.reduceEq, Int.reduceLT, Int.reduceLE, Int.reduceNe, seqC, retC, skipC, exitC, blockC, condC, hc0]
    exact first _ (kr.then k2)
  · have gI : ¬ (0 : Int) < (a : Int) := by omega
    simp only [↓opStep_eq, ↓reduceIte, ↓EW, EV, Nat.reduceAdd, Nat.reduceEqDiff, Int.reduceEq, Int.reduceLT, Int.reduceLE, Int.reduceNe, seqC, retC, skipC, exitC, blockC, condC, r40_17, ite2, x1, gI]
    exact first _ kr
end
end Go.Proofs.Ytpoedopdcpejmaa
