import Derived.Test.YtbdmhdidehfmoaaDoorTsH
set_option linter.unusedSimpArgs false
set_option linter.unusedVariables false
namespace Go.Proofs.YtbdmhdidehfmoaaDoor
open Go.Ev

section
variable {L B : Nat} {cv : Value} {lt : Nm → Nm → Prop} {Ok : H → Prop}

theorem r51_5_go (cm : Cm L B cv lt Ok) {m b i N : Nat} {v : Value} {f : Nat → Nm} {tm : T Value} {h : H} {K : KE} (ok : Ok h) (arr : Arr h B v N f) (hb : b ≤ N) (hN : N < 60000) (hi : 1 ≤ i) (t0 : tg tm 0 = v) (t2 : tg tm 2 = .int .i64 (b : Int)) (t3 : tg tm 3 = cv) (t9 : tg tm 9 = .int .i64 (i : Int)) (hK : ∀ d h', Keep nobody h h' → (d = true ↔ (i < b ∧ ¬ lt (f i) (f (i - 1)))) → K .norm (T.set tm 36 (.bool d)) [] h' = true) :
    r51_5 (CF L (m + 4)) L tm [] h K = true := by
  have kr := keep_room h 18
  have ar := arr.keep0 kr
  by_cases g : i < b
  · have gI : (i : Int) < (b : Int) := by omega
    have w := wsub1 i (by omega) (by omega)
    simp only [↓opStep_eq, ↓reduceIte, ↓EW, EV, Nat.reduceAdd, Nat.reduceEqDiff, Int.reduceEq, Int.reduceLT, Int.reduceLE, Int.reduceNe, seqC, retC, skipC, exitC, blockC, condC, r51_5, ite2, t0, t2, t3, t9, gI, w, ar.ix (show i < N by omega), ar.ix (show i - 1 < N by omega), ar.ld (show i < N by omega), ar.ld (show i - 1 < N by omega)]
    refine cm.go (cm.stay0 kr ok) fun c h' hc k => ?_
    simp only [↓opStep_eq, ↓reduceIte, ↓EW, EV, Nat.reduceAdd, Nat.reduceEqDiff, Int.reduceEq, Int.reduceLT, Int.reduceLE, Int.reduceNe, seqC, retC, skipC, exitC, blockC, condC]
    refine hK _ _ (kr.then k) ?_
    rw [Bool.not_eq_true', decide_eq_false_iff_not, hc]
    exact ⟨fun h => ⟨g, h⟩, fun h => h.2⟩
  · have gI : ¬ (i : Int) < (b : Int) := by omega
    simp only [↓opStep_eq, ↓reduceIte, ↓EW, EV, Nat.reduceAdd, Nat.reduceEqDiff, Int.reduceEq, Int.reduceLT, Int.reduceLE, Int.reduceNe, seqC, retC, skipC, exitC, blockC, condC, r51_5, ite2, t2, t9, gI]
    exact hK false _ kr ⟨fun h => (by cases h), fun h => absurd h.1 g⟩

def Tq (v cv : Value) (a b : Nat) (tm : T Value) : Prop := tg tm 0 = v ∧ tg tm 1 = .int .i64 (a : Int) ∧ tg tm 2 = .int .i64 (b : Int) ∧ tg tm 3 = cv
theorem Tq.set {v cv : Value} {a b : Nat} {tm : T Value} (x : Tq v cv a b tm) {j : Nat} {w : Value} (hj : j ≠ 0 ∧ j ≠ 1 ∧ j ≠ 2 ∧ j ≠ 3) : Tq v cv a b (T.set tm j w) := by
  obtain ⟨x0, x1, x2, x4⟩ := x
  refine ⟨?_, ?_, ?_, ?_⟩
  · rw [tg_set, if_neg hj.1]; exact x0
  · rw [tg_set, if_neg hj.2.1]; exact x1
  · rw [tg_set, if_neg hj.2.2.1]; exact x2
  · rw [tg_set, if_neg hj.2.2.2]; exact x4

/-- the smaller one goes down -/
theorem shift_down (cm : Cm L B cv lt Ok) {m a b i N : Nat} {q10 : Value} {v : Value} {f : Nat → Nm} {tm : T Value} {h : H} (ok : Ok h) (arr : Arr h B v N f) (inj : Inj f N) (hb : b ≤ N) (hN : N < 60000) (hL : N < L) (hai : a + 1 ≤ i) (hib : i < b) (hpre : 0 < a → ∀ k, a ≤ k → k < b → lt (f (a - 1)) (f k)) (x : Tq v cv a b tm) (t9 : tg tm 9 = .int .i64 (i : Int)) (t10 : tg tm 10 = q10) (t11 : tg tm 11 = .int .i64 ((i - 1 : Nat) : Int))
    (so : ∀ p q, a ≤ p → p < q → q < i → q ≠ i - 1 → lt (f p) (f q)) (Q : Ex → T Value → H → Prop)
    (hQ : ∀ f' h' tm', Arr h' B v N f' → Sw a i f f' → Sorted lt f' a i → Keep (· = B) h h' → Tq v cv a b tm' → tg tm' 9 = .int .i64 (i : Int) → tg tm' 10 = q10 → Q .norm tm' h') :
    C ⟨blockC 4 (loopB l51_18)⟩ (CF L (m + 4)) L tm h Q := by
  refine C.block (C.loop (fun k tm' hx => ∃ j f', k = j ∧ a ≤ j ∧ j ≤ i - 1 ∧ Arr hx B v N f' ∧ Sw a i f f' ∧ (∀ p q, a ≤ p → p < q → q < i → q ≠ j → lt (f' p) (f' q)) ∧ Keep (· = B) h hx ∧ Tq v cv a b tm' ∧ tg tm' 9 = .int .i64 (i : Int) ∧ tg tm' 10 = q10 ∧ tg tm' 11 = .int .i64 (j : Int)) (i - 1) (by omega)
    ⟨i - 1, f, rfl, by omega, by omega, arr, .refl _, so, .refl _ _, x, t9, t10, t11⟩ ?_)
  clear x t9 t10 t11 so
  rintro j tm hx ⟨_, f1, rfl, haj, hji, ar1, sw1, so1, k1, x, t9, t10, t11⟩
  have inj1 := sw1.inj (by omega) inj
  have pre1 : 0 < a → ∀ k, a ≤ k → k < i → lt (f1 (a - 1)) (f1 k) := fun ha k h1 h2 => by
    rw [sw1.out (.inl (by omega))]
    exact sw1.all (fun y => lt (f (a - 1)) y) (fun k g1 g2 => hpre ha k g1 (by omega)) k h1 h2
  unfold l51_18
  refine C.seq (C.seq fun K hK => ?_)
  simp only [↓opStep_eq, ↓reduceIte, ↓EW, EV, Nat.reduceAdd, Nat.reduceEqDiff, Int.reduceEq, Int.reduceLT, Int.reduceLE, Int.reduceNe, seqC, retC, skipC, exitC, blockC, condC, r51_14, t11]
  refine hK _ _ _ (C.cond (decide ((1 : Int) ≤ (j : Int))) (by simp only [↓opStep_eq, ↓reduceIte, ↓EW, EV, Nat.reduceAdd, Nat.reduceEqDiff, Int.reduceEq, Int.reduceLT, Int.reduceLE, Int.reduceNe, seqC, retC, skipC, exitC, blockC, condC]) (fun g => C.skip ?_) fun g => C.exit ?_)
  · have g : 1 ≤ j := by have := of_decide_eq_true g; omega
    have w := wsub1 j g (by omega)
    refine C.seq (C.block (C.seq (C.seq fun K hK => ?_)))
    have kr := keep_room hx 13
    have ar2 := ar1.keep0 kr
    obtain ⟨x0, x1, x2, x3⟩ := x
    simp only [↓opStep_eq, ↓reduceIte, ↓EW, EV, Nat.reduceAdd, Nat.reduceEqDiff, Int.reduceEq, Int.reduceLT, Int.reduceLE, Int.reduceNe, seqC, retC, skipC, exitC, blockC, condC, r51_16, x0, x3, t11, w, ar2.ix (show j < N by omega), ar2.ix (show j - 1 < N by omega), ar2.ld (show j < N by omega), ar2.ld (show j - 1 < N by omega)]
    refine cm.go (cm.stay _ _ (k1.then kr) ok) fun c h3 hc k3 => ?_
    have k13 := (k1.then kr).then k3
    have ar3 := ar2.keep0 k3
    simp only [↓opStep_eq, ↓reduceIte, ↓EW, EV, Nat.reduceAdd, Nat.reduceEqDiff, Int.reduceEq, Int.reduceLT, Int.reduceLE, Int.reduceNe, seqC, retC, skipC, exitC, blockC, condC]
    refine hK _ _ _ (C.cond (!decide (c < 0)) (by simp only [↓opStep_eq, ↓reduceIte, ↓EW, EV, Nat.reduceAdd, Nat.reduceEqDiff, Int.reduceEq, Int.reduceLT, Int.reduceLE, Int.reduceNe, seqC, retC, skipC, exitC, blockC, condC]) (fun g2 => C.exit ?_) fun g2 => C.skip ?_)
    · have g2 : ¬ c < 0 := by rw [Bool.not_eq_true'] at g2; exact of_decide_eq_false g2
      rw [hc] at g2
      simp only [Nat.reduceEqDiff, if_false, if_pos]
      refine hQ f1 h3 _ ar3 sw1 (fun p q h1 h2 h3 => ?_) k13 ⟨?_, ?_, ?_, ?_⟩ ?_ ?_
      · by_cases e : q = j
        · subst e
          have hl : lt (f1 (q - 1)) (f1 q) := cm.nlt g2 fun e => by have := inj1 _ _ (by omega) (by omega) e; omega
          by_cases e2 : p = q - 1
          · rw [e2]; exact hl
          · exact cm.tr _ _ _ (so1 p (q - 1) h1 (by omega) (by omega) (by omega)) hl
        · exact so1 p q h1 h2 h3 e
      · simp only [↓opStep_eq, ↓reduceIte, ↓EW, EV, Nat.reduceAdd, Nat.reduceEqDiff, Int.reduceEq, Int.reduceLT, Int.reduceLE, Int.reduceNe, seqC, retC, skipC, exitC, blockC, condC, x0]
      · simp only [↓opStep_eq, ↓reduceIte, ↓EW, EV, Nat.reduceAdd, Nat.reduceEqDiff, Int.reduceEq, Int.reduceLT, Int.reduceLE, Int.reduceNe, seqC, retC, skipC, exitC, blockC, condC, x1]
      · simp only [↓opStep_eq, ↓reduceIte, ↓EW, EV, Nat.reduceAdd, Nat.reduceEqDiff, Int.reduceEq, Int.reduceLT, Int.reduceLE, Int.reduceNe, seqC, retC, skipC, exitC, blockC, condC, x2]
      · simp only [↓opStep_eq, ↓reduceIte, ↓EW, EV, Nat.reduceAdd, Nat.reduceEqDiff, Int.reduceEq, Int.reduceLT, Int.reduceLE, Int.reduceNe, seqC, retC, skipC, exitC, blockC, condC, x3]
      · simp only [↓opStep_eq, ↓reduceIte, ↓EW, EV, Nat.reduceAdd, Nat.reduceEqDiff, Int.reduceEq, Int.reduceLT, Int.reduceLE, Int.reduceNe, seqC, retC, skipC, exitC, blockC, condC, t9]
      · simp only [↓opStep_eq, ↓reduceIte, ↓EW, EV, Nat.reduceAdd, Nat.reduceEqDiff, Int.reduceEq, Int.reduceLT, Int.reduceLE, Int.reduceNe, seqC, retC, skipC, exitC, blockC, condC, t10]
    · have g2 : c < 0 := by rw [Bool.not_eq_false'] at g2; exact of_decide_eq_true g2
      rw [hc] at g2
      have haj2 : a < j := by
        by_cases e : a = j
        · exact absurd g2 (by
            rw [← e]
            exact cm.asym (pre1 (by omega) a (by omega) (by omega)))
        · omega
      intro K hK
      have kr := keep_room h3 18
      have ar4 := ar3.keep0 kr
      obtain ⟨h5, h6, s1, s2, ar6, k6⟩ := ar4.swap (p := j - 1) (q := j) (by omega) (by omega)
      simp only [↓opStep_eq, ↓reduceIte, ↓EW, EV, Nat.reduceAdd, Nat.reduceEqDiff, Int.reduceEq, Int.reduceLT, Int.reduceLE, Int.reduceNe, seqC, retC, skipC, exitC, blockC, condC, r51_17, x0, t11, w, ar4.ix (show j < N by omega), ar4.ix (show j - 1 < N by omega), ar4.ld (show j < N by omega), ar4.ld (show j - 1 < N by omega), s1, s2]
      refine hK _ _ _ fun K hK => ?_
      simp only [↓opStep_eq, ↓reduceIte, ↓EW, EV, Nat.reduceAdd, Nat.reduceEqDiff, Int.reduceEq, Int.reduceLT, Int.reduceLE, Int.reduceNe, seqC, retC, skipC, exitC, blockC, condC, r51_15, t11, w]
      refine hK _ _ _ ⟨j - 1, by omega, j - 1, _, rfl, by omega, by omega, ar6, .step j (j - 1) sw1 (by omega) (by omega) (by omega) (by omega), fun p q h1 h2 h3 h4 => ?_, (k13.then kr).trans k6 fun _ _ h => h, ⟨?_, ?_, ?_, ?_⟩, ?_, ?_, ?_⟩
      · by_cases q1 : q = j
        · subst q1
          rw [swF_at]
          by_cases p1 : p = q - 1
          · subst p1; rw [swF_at']; exact g2
          · rw [swF_ne (by omega) p1]; exact so1 p (q - 1) h1 (by omega) (by omega) (by omega)
        · rw [swF_ne q1 h4]
          by_cases p1 : p = j
          · subst p1; rw [swF_at]; exact so1 (p - 1) q (by omega) (by omega) h3 q1
          · by_cases p2 : p = j - 1
            · subst p2; rw [swF_at']; exact so1 j q (by omega) (by omega) h3 q1
            · rw [swF_ne p1 p2]; exact so1 p q h1 h2 h3 q1
      · simp only [↓opStep_eq, ↓reduceIte, ↓EW, EV, Nat.reduceAdd, Nat.reduceEqDiff, Int.reduceEq, Int.reduceLT, Int.reduceLE, Int.reduceNe, seqC, retC, skipC, exitC, blockC, condC, x0]
      · simp only [↓opStep_eq, ↓reduceIte, ↓EW, EV, Nat.reduceAdd, Nat.reduceEqDiff, Int.reduceEq, Int.reduceLT, Int.reduceLE, Int.reduceNe, seqC, retC, skipC, exitC, blockC, condC, x1]
      · simp only [↓opStep_eq, ↓reduceIte, ↓EW, EV, Nat.reduceAdd, Nat.reduceEqDiff, Int.reduceEq, Int.reduceLT, Int.reduceLE, Int.reduceNe, seqC, retC, skipC, exitC, blockC, condC, x2]
      · simp only [↓opStep_eq, ↓reduceIte, ↓EW, EV, Nat.reduceAdd, Nat.reduceEqDiff, Int.reduceEq, Int.reduceLT, Int.reduceLE, Int.reduceNe, seqC, retC, skipC, exitC, blockC, condC, x3]
      · simp only [↓opStep_eq, ↓reduceIte, ↓EW, EV, Nat.reduceAdd, Nat.reduceEqDiff, Int.reduceEq, Int.reduceLT, Int.reduceLE, Int.reduceNe, seqC, retC, skipC, exitC, blockC, condC, t9]
      · simp only [↓opStep_eq, ↓reduceIte, ↓EW, EV, Nat.reduceAdd, Nat.reduceEqDiff, Int.reduceEq, Int.reduceLT, Int.reduceLE, Int.reduceNe, seqC, retC, skipC, exitC, blockC, condC, t10]
      · simp only [↓opStep_eq, ↓reduceIte, ↓EW, EV, Nat.reduceAdd, Nat.reduceEqDiff, Int.reduceEq, Int.reduceLT, Int.reduceLE, Int.reduceNe, seqC, retC, skipC, exitC, blockC, condC]
  · simp only [if_pos]
    have g : j = 0 := by have := of_decide_eq_false g; omega
    subst g
    refine hQ f1 hx _ ar1 sw1 (fun p q h1 h2 h3 => so1 p q h1 h2 h3 (by omega)) k1 (x.set (by omega)) (by simp only [↓opStep_eq, ↓reduceIte, ↓EW, EV, Nat.reduceAdd, Nat.reduceEqDiff, Int.reduceEq, Int.reduceLT, Int.reduceLE, Int.reduceNe, seqC, retC, skipC, exitC, blockC, condC, t9]) (by simp only [↓opStep_eq, ↓reduceIte, ↓EW, EV, Nat.reduceAdd, Nat.reduceEqDiff, Int.reduceEq, Int.reduceLT, Int.reduceLE, Int.reduceNe, seqC, retC, skipC, exitC, blockC, condC, t10])

/-- the greater one goes up -/
theorem shift_up (cm : Cm L B cv lt Ok) {m a b i N : Nat} {q10 : Value} {v : Value} {f : Nat → Nm} {tm : T Value} {h : H} (ok : Ok h) (arr : Arr h B v N f) (hb : b ≤ N) (hN : N < 60000) (hL : N < L) (hai : a + 1 ≤ i) (hib : i < b) (x : Tq v cv a b tm) (t9 : tg tm 9 = .int .i64 (i : Int)) (t10 : tg tm 10 = q10) (t12 : tg tm 12 = .int .i64 ((i + 1 : Nat) : Int)) (Q : Ex → T Value → H → Prop)
    (hQ : ∀ f' h' tm', Arr h' B v N f' → Sw i b f f' → Keep (· = B) h h' → Tq v cv a b tm' → tg tm' 9 = .int .i64 (i : Int) → tg tm' 10 = q10 → Q .norm tm' h') :
    C ⟨blockC 6 (loopB l51_25)⟩ (CF L (m + 4)) L tm h Q := by
  refine C.block (C.loop (fun k tm' hx => ∃ j f', k = b - j ∧ i + 1 ≤ j ∧ j ≤ b ∧ Arr hx B v N f' ∧ Sw i b f f' ∧ Keep (· = B) h hx ∧ Tq v cv a b tm' ∧ tg tm' 9 = .int .i64 (i : Int) ∧ tg tm' 10 = q10 ∧ tg tm' 12 = .int .i64 (j : Int)) (b - (i + 1)) (by omega)
    ⟨i + 1, f, rfl, by omega, by omega, arr, .refl _, .refl _ _, x, t9, t10, t12⟩ ?_)
  clear x t9 t10 t12
  rintro k tm hx ⟨j, f1, rfl, hij, hjb, ar1, sw1, k1, x, t9, t10, t12⟩
  have x' := x
  obtain ⟨x0, x1, x2, x3⟩ := x
  unfold l51_25
  refine C.seq (C.seq fun K hK => ?_)
  simp only [↓opStep_eq, ↓reduceIte, ↓EW, EV, Nat.reduceAdd, Nat.reduceEqDiff, Int.reduceEq, Int.reduceLT, Int.reduceLE, Int.reduceNe, seqC, retC, skipC, exitC, blockC, condC, r51_20, x2, t12]
  refine hK _ _ _ (C.cond (decide ((j : Int) < (b : Int))) (by simp only [↓opStep_eq, ↓reduceIte, ↓EW, EV, Nat.reduceAdd, Nat.reduceEqDiff, Int.reduceEq, Int.reduceLT, Int.reduceLE, Int.reduceNe, seqC, retC, skipC, exitC, blockC, condC]) (fun g => C.skip ?_) fun g => C.exit ?_)
  · have g : j < b := by have := of_decide_eq_true g; omega
    have w := wsub1 j (by omega) (by omega)
    refine C.seq (C.block (C.seq (C.seq fun K hK => ?_)))
    have kr := keep_room hx 13
    have ar2 := ar1.keep0 kr
    simp only [↓opStep_eq, ↓reduceIte, ↓EW, EV, Nat.reduceAdd, Nat.reduceEqDiff, Int.reduceEq, Int.reduceLT, Int.reduceLE, Int.reduceNe, seqC, retC, skipC, exitC, blockC, condC, r51_22, x0, x3, t12, w, ar2.ix (show j < N by omega), ar2.ix (show j - 1 < N by omega), ar2.ld (show j < N by omega), ar2.ld (show j - 1 < N by omega)]
    refine cm.go (cm.stay _ _ (k1.then kr) ok) fun c h3 hc k3 => ?_
    have k13 := (k1.then kr).then k3
    have ar3 := ar2.keep0 k3
    simp only [↓opStep_eq, ↓reduceIte, ↓EW, EV, Nat.reduceAdd, Nat.reduceEqDiff, Int.reduceEq, Int.reduceLT, Int.reduceLE, Int.reduceNe, seqC, retC, skipC, exitC, blockC, condC]
    refine hK _ _ _ (C.cond (!decide (c < 0)) (by simp only [↓opStep_eq, ↓reduceIte, ↓EW, EV, Nat.reduceAdd, Nat.reduceEqDiff, Int.reduceEq, Int.reduceLT, Int.reduceLE, Int.reduceNe, seqC, retC, skipC, exitC, blockC, condC]) (fun g2 => C.exit ?_) fun g2 => C.skip ?_)
    · simp only [Nat.reduceEqDiff, if_false, if_pos]
      refine hQ f1 h3 _ ar3 sw1 k13 ((x'.set (by omega)).set (by omega)) ?_ ?_
      · simp only [↓opStep_eq, ↓reduceIte, ↓EW, EV, Nat.reduceAdd, Nat.reduceEqDiff, Int.reduceEq, Int.reduceLT, Int.reduceLE, Int.reduceNe, seqC, retC, skipC, exitC, blockC, condC, t9]
      · simp only [↓opStep_eq, ↓reduceIte, ↓EW, EV, Nat.reduceAdd, Nat.reduceEqDiff, Int.reduceEq, Int.reduceLT, Int.reduceLE, Int.reduceNe, seqC, retC, skipC, exitC, blockC, condC, t10]
    · intro K hK
      have kr := keep_room h3 18
      have ar4 := ar3.keep0 kr
      obtain ⟨h5, h6, s1, s2, ar6, k6⟩ := ar4.swap (p := j - 1) (q := j) (by omega) (by omega)
      have w2 := wadd1 j (by omega)
      simp only [↓opStep_eq, ↓reduceIte, ↓EW, EV, Nat.reduceAdd, Nat.reduceEqDiff, Int.reduceEq, Int.reduceLT, Int.reduceLE, Int.reduceNe, seqC, retC, skipC, exitC, blockC, condC, r51_23, x0, t12, w, ar4.ix (show j < N by omega), ar4.ix (show j - 1 < N by omega), ar4.ld (show j < N by omega), ar4.ld (show j - 1 < N by omega), s1, s2]
      refine hK _ _ _ fun K hK => ?_
      simp only [↓opStep_eq, ↓reduceIte, ↓EW, EV, Nat.reduceAdd, Nat.reduceEqDiff, Int.reduceEq, Int.reduceLT, Int.reduceLE, Int.reduceNe, seqC, retC, skipC, exitC, blockC, condC, r51_21, t12, w2]
      refine hK _ _ _ ⟨b - (j + 1), by omega, j + 1, _, rfl, by omega, by omega, ar6, .step j (j - 1) sw1 (by omega) (by omega) (by omega) (by omega), (k13.then kr).trans k6 fun _ _ h => h, (x'.set (by omega)).set (by omega) |>.set (by omega), ?_, ?_, ?_⟩
      · simp only [↓opStep_eq, ↓reduceIte, ↓EW, EV, Nat.reduceAdd, Nat.reduceEqDiff, Int.reduceEq, Int.reduceLT, Int.reduceLE, Int.reduceNe, seqC, retC, skipC, exitC, blockC, condC, t9]
      · simp only [↓opStep_eq, ↓reduceIte, ↓EW, EV, Nat.reduceAdd, Nat.reduceEqDiff, Int.reduceEq, Int.reduceLT, Int.reduceLE, Int.reduceNe, seqC, retC, skipC, exitC, blockC, condC, t10]
      · simp only [↓opStep_eq, ↓reduceIte, ↓EW, EV, Nat.reduceAdd, Nat.reduceEqDiff, Int.reduceEq, Int.reduceLT, Int.reduceLE, Int.reduceNe, seqC, retC, skipC, exitC, blockC, condC]
  · simp only [if_pos]
    exact hQ f1 hx _ ar1 sw1 k1 (x'.set (by omega)) (by simp only [↓opStep_eq, ↓reduceIte, ↓EW, EV, Nat.reduceAdd, Nat.reduceEqDiff, Int.reduceEq, Int.reduceLT, Int.reduceLE, Int.reduceNe, seqC, retC, skipC, exitC, blockC, condC, t9]) (by simp only [↓opStep_eq, ↓reduceIte, ↓EW, EV, Nat.reduceAdd, Nat.reduceEqDiff, Int.reduceEq, Int.reduceLT, Int.reduceLE, Int.reduceNe, seqC, retC, skipC, exitC, blockC, condC, t10])

theorem partial_law (cm : Cm L B cv lt Ok) {m a b N : Nat} {v : Value} {f : Nat → Nm} {h : H} (ok : Ok h) (arr : Arr h B v N f) (inj : Inj f N) (hb : b ≤ N) (hN : N < 60000) (hL : N < L) (hL5 : 10 < L) (hab : a + 1 < b) (hpre : 0 < a → ∀ k, a ≤ k → k < b → lt (f (a - 1)) (f k)) :
    Sp (CF L (m + 5)) 51 [v, .int .i64 (a : Int), .int .i64 (b : Int), cv] h fun r h' => ∃ (f' : Nat → Nm) (d : Bool), r = .bool d ∧ Arr h' B v N f' ∧ Sw a b f f' ∧ (d = true → Sorted lt f' a b) ∧ Keep (· = B) h h' := by
  refine Sp.body f51 (by simp) ?_
  unfold c51
  have w1 := wadd1 a (by omega)
  refine C.seq fun K hK => hK .norm _ _ (C.seq fun K hK => ?_)
  simp only [↓opStep_eq, ↓reduceIte, ↓EW, EV, Nat.reduceAdd, Nat.reduceEqDiff, Int.reduceEq, Int.reduceLT, Int.reduceLE, Int.reduceNe, seqC, retC, skipC, exitC, blockC, condC, r51_1, w1]
  refine hK _ _ _ (C.seq (C.seq fun K hK => hK .norm _ _ ?_))
  refine C.block (C.loop (fun k tm' hx => ∃ c i f', k = 5 - c ∧ c ≤ 5 ∧ a + 1 ≤ i ∧ i ≤ b ∧ Arr hx B v N f' ∧ Sw a b f f' ∧ Sorted lt f' a i ∧ Keep (· = B) h hx ∧ Tq v cv a b tm' ∧ tg tm' 9 = .int .i64 (i : Int) ∧ tg tm' 10 = .int .i64 (c : Int)) 5 (by omega)
    ⟨0, a + 1, f, rfl, by omega, by omega, by omega, arr, .refl _, fun p q h1 h2 h3 => by omega, .refl _ _, ⟨by simp only [↓opStep_eq, ↓reduceIte, ↓EW, EV, Nat.reduceAdd, Nat.reduceEqDiff, Int.reduceEq, Int.reduceLT, Int.reduceLE, Int.reduceNe, seqC, retC, skipC, exitC, blockC, condC], by simp only [↓opStep_eq, ↓reduceIte, ↓EW, EV, Nat.reduceAdd, Nat.reduceEqDiff, Int.reduceEq, Int.reduceLT, Int.reduceLE, Int.reduceNe, seqC, retC, skipC, exitC, blockC, condC], by simp only [↓opStep_eq, ↓reduceIte, ↓EW, EV, Nat.reduceAdd, Nat.reduceEqDiff, Int.reduceEq, Int.reduceLT, Int.reduceLE, Int.reduceNe, seqC, retC, skipC, exitC, blockC, condC], by simp only [↓opStep_eq, ↓reduceIte, ↓EW, EV, Nat.reduceAdd, Nat.reduceEqDiff, Int.reduceEq, Int.reduceLT, Int.reduceLE, Int.reduceNe, seqC, retC, skipC, exitC, blockC, condC]⟩, by simp only [↓opStep_eq, ↓reduceIte, ↓EW, EV, Nat.reduceAdd, Nat.reduceEqDiff, Int.reduceEq, Int.reduceLT, Int.reduceLE, Int.reduceNe, seqC, retC, skipC, exitC, blockC, condC], by simp only [↓opStep_eq, ↓reduceIte, ↓EW, EV, Nat.reduceAdd, Nat.reduceEqDiff, Int.reduceEq, Int.reduceLT, Int.reduceLE, Int.reduceNe, seqC, retC, skipC, exitC, blockC, condC] <;> rfl⟩ ?_)
  rintro k tm hx ⟨c, i, f1, rfl, hc5, hai, hib, ar1, sw1, so1, k1, x, t9, t10⟩
  unfold l51_27
  refine C.seq (C.seq fun K hK => ?_)
  simp only [↓opStep_eq, ↓reduceIte, ↓EW, EV, Nat.reduceAdd, Nat.reduceEqDiff, Int.reduceEq, Int.reduceLT, Int.reduceLE, Int.reduceNe, seqC, retC, skipC, exitC, blockC, condC, r51_3, t10]
  refine hK _ _ _ (C.cond (decide ((c : Int) < 5)) (by simp only [↓opStep_eq, ↓reduceIte, ↓EW, EV, Nat.reduceAdd, Nat.reduceEqDiff, Int.reduceEq, Int.reduceLT, Int.reduceLE, Int.reduceNe, seqC, retC, skipC, exitC, blockC, condC]) (fun g => C.skip ?_) fun g => C.exit ?_)
  · have g : c < 5 := by have := of_decide_eq_true g; omega
    refine C.seq (C.block (C.seq ?_))
    -- what is in order is passed
    refine C.block (C.loop (fun k tm' hy => ∃ i, k = b - i ∧ a + 1 ≤ i ∧ i ≤ b ∧ Arr hy B v N f1 ∧ Sorted lt f1 a i ∧ Keep (· = B) h hy ∧ Tq v cv a b tm' ∧ tg tm' 9 = .int .i64 (i : Int) ∧ tg tm' 10 = .int .i64 (c : Int)) (b - i) (by omega)
      ⟨i, rfl, hai, hib, ar1, so1, k1, x.set (by omega), by simp only [↓opStep_eq, ↓reduceIte, ↓EW, EV, Nat.reduceAdd, Nat.reduceEqDiff, Int.reduceEq, Int.reduceLT, Int.reduceLE, Int.reduceNe, seqC, retC, skipC, exitC, blockC, condC, t9], by simp only [↓opStep_eq, ↓reduceIte, ↓EW, EV, Nat.reduceAdd, Nat.reduceEqDiff, Int.reduceEq, Int.reduceLT, Int.reduceLE, Int.reduceNe, seqC, retC, skipC, exitC, blockC, condC, t10]⟩ ?_)
    clear ar1 so1 k1 x t9 t10 hai hib
    rintro k tm hy ⟨i, rfl, hai, hib, ar1, so1, k1, x, t9, t10⟩
    have inj1 := sw1.inj hb inj
    have pre1 : 0 < a → ∀ k, a ≤ k → k < b → lt (f1 (a - 1)) (f1 k) := fun ha k h1 h2 => by
      rw [sw1.out (.inl (by omega))]
      exact sw1.all (fun y => lt (f (a - 1)) y) (fun k g1 g2 => hpre ha k g1 g2) k h1 h2
    unfold l51_6
    refine C.seq (C.seq fun K hK => ?_)
    refine r51_5_go cm (cm.stay _ _ k1 ok) ar1 hb hN (by omega) x.1 x.2.2.1 x.2.2.2 t9 fun d h3 k3 hd => ?_
    have ar3 := ar1.keep0 k3
    have k13 := k1.then k3
    refine hK _ _ _ (C.cond d (by simp only [↓opStep_eq, ↓reduceIte, ↓EW, EV, Nat.reduceAdd, Nat.reduceEqDiff, Int.reduceEq, Int.reduceLT, Int.reduceLE, Int.reduceNe, seqC, retC, skipC, exitC, blockC, condC]) (fun gd1 => C.skip ?_) fun gd1 => C.exit ?_)
    · obtain ⟨g1, g2⟩ := hd.1 gd1
      refine C.block fun K hK => ?_
      have w := wadd1 i (by omega)
      simp only [↓opStep_eq, ↓reduceIte, ↓EW, EV, Nat.reduceAdd, Nat.reduceEqDiff, Int.reduceEq, Int.reduceLT, Int.reduceLE, Int.reduceNe, seqC, retC, skipC, exitC, blockC, condC, r51_6, t9, w]
      refine hK _ _ _ ⟨b - (i + 1), by omega, i + 1, rfl, by omega, by omega, ar3, fun p q h1 h2 h3 => ?_, k13, (x.set (by omega)).set (by omega), by simp only [↓opStep_eq, ↓reduceIte, ↓EW, EV, Nat.reduceAdd, Nat.reduceEqDiff, Int.reduceEq, Int.reduceLT, Int.reduceLE, Int.reduceNe, seqC, retC, skipC, exitC, blockC, condC], by simp only [↓opStep_eq, ↓reduceIte, ↓EW, EV, Nat.reduceAdd, Nat.reduceEqDiff, Int.reduceEq, Int.reduceLT, Int.reduceLE, Int.reduceNe, seqC, retC, skipC, exitC, blockC, condC, t10]⟩
      by_cases e : q = i
      · subst e
        have hl : lt (f1 (q - 1)) (f1 q) := cm.nlt g2 fun e => by have := inj1 _ _ (by omega) (by omega) e; omega
        by_cases e2 : p = q - 1
        · rw [e2]; exact hl
        · exact cm.tr _ _ _ (so1 p (q - 1) h1 (by omega) (by omega)) hl
      · exact so1 p q h1 h2 (by omega)
    · simp only [if_pos]
      have x' : Tq v cv a b (tm.set 36 (.bool d)) := x.set (by omega)
      have t9' : tg (tm.set 36 (.bool d)) 9 = .int .i64 (i : Int) := by simp only [↓opStep_eq, ↓reduceIte, ↓EW, EV, Nat.reduceAdd, Nat.reduceEqDiff, Int.reduceEq, Int.reduceLT, Int.reduceLE, Int.reduceNe, seqC, retC, skipC, exitC, blockC, condC, t9]
      have t10' : tg (tm.set 36 (.bool d)) 10 = .int .i64 (c : Int) := by simp only [↓opStep_eq, ↓reduceIte, ↓EW, EV, Nat.reduceAdd, Nat.reduceEqDiff, Int.reduceEq, Int.reduceLT, Int.reduceLE, Int.reduceNe, seqC, retC, skipC, exitC, blockC, condC, t10]
      generalize tm.set 36 (.bool d) = tm1 at *
      obtain ⟨x0, x1, x2, x3⟩ := x'
      refine C.seq (C.seq fun K hK => ?_)
      simp only [↓opStep_eq, ↓reduceIte, ↓EW, EV, Nat.reduceAdd, Nat.reduceEqDiff, Int.reduceEq, Int.reduceLT, Int.reduceLE, Int.reduceNe, seqC, retC, skipC, exitC, blockC, condC, r51_7, t9', x2]
      refine hK _ _ _ (C.cond (decide ((i : Int) = (b : Int))) (by simp only [↓opStep_eq, ↓reduceIte, ↓EW, EV, Nat.reduceAdd, Nat.reduceEqDiff, Int.reduceEq, Int.reduceLT, Int.reduceLE, Int.reduceNe, seqC, retC, skipC, exitC, blockC, condC]) (fun ge => C.seq fun K hK => hK .norm _ _ (C.ret ?_)) fun ge => C.skip ?_)
      · have ge : i = b := by have := of_decide_eq_true ge; omega
        subst ge
        exact ⟨.inr rfl, _, rfl, f1, true, by simp only [↓opStep_eq, ↓reduceIte, ↓EW, EV, Nat.reduceAdd, Nat.reduceEqDiff, Int.reduceEq, Int.reduceLT, Int.reduceLE, Int.reduceNe, seqC, retC, skipC, exitC, blockC, condC, resOf], ar3, sw1, fun _ => so1, k13⟩
      · have ge : i < b := by have := of_decide_eq_false ge; omega
        have glt : lt (f1 i) (f1 (i - 1)) := by
          by_cases hl : lt (f1 i) (f1 (i - 1))
          · exact hl
          · have := hd.2 ⟨ge, hl⟩
            rw [gd1] at this; cases this
        have wl : IntKind.i64.wrap ((b : Int) - (a : Int)) = ((b - a : Nat) : Int) := wsub b a (by omega) (by omega)
        refine C.seq (C.seq fun K hK => ?_)
        simp only [↓opStep_eq, ↓reduceIte, ↓EW, EV, Nat.reduceAdd, Nat.reduceEqDiff, Int.reduceEq, Int.reduceLT, Int.reduceLE, Int.reduceNe, seqC, retC, skipC, exitC, blockC, condC, r51_9, x1, x2, wl]
        refine hK _ _ _ (C.cond (decide (((b - a : Nat) : Int) < 50)) (by simp only [↓opStep_eq, ↓reduceIte, ↓EW, EV, Nat.reduceAdd, Nat.reduceEqDiff, Int.reduceEq, Int.reduceLT, Int.reduceLE, Int.reduceNe, seqC, retC, skipC, exitC, blockC, condC]) (fun g5 => C.seq fun K hK => hK .norm _ _ (C.ret ?_)) fun g5 => C.skip ?_)
        · exact ⟨.inr rfl, _, rfl, f1, false, by simp only [↓opStep_eq, ↓reduceIte, ↓EW, EV, Nat.reduceAdd, Nat.reduceEqDiff, Int.reduceEq, Int.reduceLT, Int.reduceLE, Int.reduceNe, seqC, retC, skipC, exitC, blockC, condC, resOf], ar3, sw1, fun h => (by cases h), k13⟩
        · refine C.seq fun K hK => ?_
          have kr := keep_room h3 18
          have ar4 := ar3.keep0 kr
          have w := wsub1 i (by omega) (by omega)
          obtain ⟨h5, h6, s1, s2, ar6, k6⟩ := ar4.swap (p := i - 1) (q := i) (by omega) (by omega)
          simp only [↓opStep_eq, ↓reduceIte, ↓EW, EV, Nat.reduceAdd, Nat.reduceEqDiff, Int.reduceEq, Int.reduceLT, Int.reduceLE, Int.reduceNe, seqC, retC, skipC, exitC, blockC, condC, r51_11, x0, t9', w, ar4.ix (show i < N by omega), ar4.ix (show i - 1 < N by omega), ar4.ld (show i < N by omega), ar4.ld (show i - 1 < N by omega), s1, s2]
          have k16 : Keep (· = B) h h6 := (k13.then kr).trans k6 fun _ _ h => h
          have sw6 : Sw a b f (swF f1 i (i - 1)) := .step i (i - 1) sw1 (by omega) (by omega) (by omega) (by omega)
          have so6 : ∀ p q, a ≤ p → p < q → q < i → q ≠ i - 1 → lt (swF f1 i (i - 1) p) (swF f1 i (i - 1) q) := fun p q h1 h2 h3 h4 => by
            rw [swF_ne (by omega) (by omega), swF_ne (by omega) (by omega)]
            exact so1 p q h1 h2 h3
          have pre6 : 0 < a → ∀ k, a ≤ k → k < b → lt (swF f1 i (i - 1) (a - 1)) (swF f1 i (i - 1) k) := fun ha k h1 h2 => by
            rw [sw6.out (.inl (by omega))]
            exact sw6.all (fun y => lt (f (a - 1)) y) (fun k g1 g2 => hpre ha k g1 g2) k h1 h2
          have inj6 := sw6.inj hb inj
          generalize swF f1 i (i - 1) = f6 at *
          have wi : IntKind.i64.wrap ((i : Int) - (a : Int)) = ((i - a : Nat) : Int) := wsub i a (by omega) (by omega)
          have wb : IntKind.i64.wrap ((b : Int) - (i : Int)) = ((b - i : Nat) : Int) := wsub b i (by omega) (by omega)
          have w7 := wadd1 i (by omega)
          -- behind the first shift
          have rest : ∀ f7 h7 tm7 (Q : Ex → T Value → Ev.H → Prop), Arr h7 B v N f7 → Sw a i f6 f7 → Sorted lt f7 a i → Keep (· = B) h6 h7 → Tq v cv a b tm7 → tg tm7 9 = .int .i64 (i : Int) → tg tm7 10 = .int .i64 (c : Int) →
              (∀ f8 h8 tm8, Arr h8 B v N f8 → Sw a b f f8 → Sorted lt f8 a i → Keep (· = B) h h8 → Tq v cv a b tm8 → tg tm8 9 = .int .i64 (i : Int) → tg tm8 10 = .int .i64 (c : Int) → Q .norm tm8 h8) →
              C ⟨seqC ⟨r51_18⟩ ⟨condC ⟨fun _ tm => tg tm 104⟩ ⟨seqC ⟨r51_19⟩ ⟨blockC 6 (loopB l51_25)⟩⟩ skipC⟩⟩ (CF L (m + 4)) L tm7 h7 Q := fun f7 h7 tm7 Q ar7 sw7 so7 k7 x7 u9 u10 hQ => by
            have k17 : Keep (· = B) h h7 := k16.trans k7 fun _ _ h => h
            have sw07 : Sw a b f f7 := sw6.trans (sw7.mono (by omega) (by omega))
            obtain ⟨y0, y1, y2, y3⟩ := x7
            refine C.seq fun K hK => ?_
            simp only [↓opStep_eq, ↓reduceIte, ↓EW, EV, Nat.reduceAdd, Nat.reduceEqDiff, Int.reduceEq, Int.reduceLT, Int.reduceLE, Int.reduceNe, seqC, retC, skipC, exitC, blockC, condC, r51_18, u9, y2, wb]
            refine hK _ _ _ (C.cond (decide ((2 : Int) ≤ ((b - i : Nat) : Int))) (by simp only [↓opStep_eq, ↓reduceIte, ↓EW, EV, Nat.reduceAdd, Nat.reduceEqDiff, Int.reduceEq, Int.reduceLT, Int.reduceLE, Int.reduceNe, seqC, retC, skipC, exitC, blockC, condC]) (fun g8 => C.seq fun K hK => ?_) fun g8 => C.skip ?_)
            · simp only [↓opStep_eq, ↓reduceIte, ↓EW, EV, Nat.reduceAdd, Nat.reduceEqDiff, Int.reduceEq, Int.reduceLT, Int.reduceLE, Int.reduceNe, seqC, retC, skipC, exitC, blockC, condC, r51_19, u9, w7]
              refine hK .norm _ _ ?_
              refine shift_up cm (cm.stay _ _ k17 ok) ar7 hb hN hL hai ge ⟨by simp only [↓opStep_eq, ↓reduceIte, ↓EW, EV, Nat.reduceAdd, Nat.reduceEqDiff, Int.reduceEq, Int.reduceLT, Int.reduceLE, Int.reduceNe, seqC, retC, skipC, exitC, blockC, condC, y0], by simp only [↓opStep_eq, ↓reduceIte, ↓EW, EV, Nat.reduceAdd, Nat.reduceEqDiff, Int.reduceEq, Int.reduceLT, Int.reduceLE, Int.reduceNe, seqC, retC, skipC, exitC, blockC, condC, y1], by simp only [↓opStep_eq, ↓reduceIte, ↓EW, EV, Nat.reduceAdd, Nat.reduceEqDiff, Int.reduceEq, Int.reduceLT, Int.reduceLE, Int.reduceNe, seqC, retC, skipC, exitC, blockC, condC, y2], by simp only [↓opStep_eq, ↓reduceIte, ↓EW, EV, Nat.reduceAdd, Nat.reduceEqDiff, Int.reduceEq, Int.reduceLT, Int.reduceLE, Int.reduceNe, seqC, retC, skipC, exitC, blockC, condC, y3]⟩ (by simp only [↓opStep_eq, ↓reduceIte, ↓EW, EV, Nat.reduceAdd, Nat.reduceEqDiff, Int.reduceEq, Int.reduceLT, Int.reduceLE, Int.reduceNe, seqC, retC, skipC, exitC, blockC, condC, u9]) (q10 := .int .i64 (c : Int)) (by simp only [↓opStep_eq, ↓reduceIte, ↓EW, EV, Nat.reduceAdd, Nat.reduceEqDiff, Int.reduceEq, Int.reduceLT, Int.reduceLE, Int.reduceNe, seqC, retC, skipC, exitC, blockC, condC, u10]) (by simp only [↓opStep_eq, ↓reduceIte, ↓EW, EV, Nat.reduceAdd, Nat.reduceEqDiff, Int.reduceEq, Int.reduceLT, Int.reduceLE, Int.reduceNe, seqC, retC, skipC, exitC, blockC, condC]) _ fun f8 h8 tm8 ar8 sw8 k8 x8 v9 v10 => hQ f8 h8 tm8 ar8 (sw07.trans (sw8.mono (by omega) (by omega))) (fun p q h1 h2 h3 => ?_) (k17.trans k8 fun _ _ h => h) x8 v9 v10
              rw [sw8.out (.inl (by omega)), sw8.out (.inl h3)]
              exact so7 p q h1 h2 h3
            · refine hQ f7 h7 _ ar7 sw07 so7 k17 ⟨?_, ?_, ?_, ?_⟩ ?_ ?_
              · simp only [↓opStep_eq, ↓reduceIte, ↓EW, EV, Nat.reduceAdd, Nat.reduceEqDiff, Int.reduceEq, Int.reduceLT, Int.reduceLE, Int.reduceNe, seqC, retC, skipC, exitC, blockC, condC, y0]
              · simp only [↓opStep_eq, ↓reduceIte, ↓EW, EV, Nat.reduceAdd, Nat.reduceEqDiff, Int.reduceEq, Int.reduceLT, Int.reduceLE, Int.reduceNe, seqC, retC, skipC, exitC, blockC, condC, y1]
              · simp only [↓opStep_eq, ↓reduceIte, ↓EW, EV, Nat.reduceAdd, Nat.reduceEqDiff, Int.reduceEq, Int.reduceLT, Int.reduceLE, Int.reduceNe, seqC, retC, skipC, exitC, blockC, condC, y2]
              · simp only [↓opStep_eq, ↓reduceIte, ↓EW, EV, Nat.reduceAdd, Nat.reduceEqDiff, Int.reduceEq, Int.reduceLT, Int.reduceLE, Int.reduceNe, seqC, retC, skipC, exitC, blockC, condC, y3]
              · simp only [↓opStep_eq, ↓reduceIte, ↓EW, EV, Nat.reduceAdd, Nat.reduceEqDiff, Int.reduceEq, Int.reduceLT, Int.reduceLE, Int.reduceNe, seqC, retC, skipC, exitC, blockC, condC, u9]
              · simp only [↓opStep_eq, ↓reduceIte, ↓EW, EV, Nat.reduceAdd, Nat.reduceEqDiff, Int.reduceEq, Int.reduceLT, Int.reduceLE, Int.reduceNe, seqC, retC, skipC, exitC, blockC, condC, u10]
          -- the next round
          have again : ∀ f8 h8 tm8 (Q : Ex → T Value → Ev.H → Prop), Arr h8 B v N f8 → Sw a b f f8 → Sorted lt f8 a i → Keep (· = B) h h8 → Tq v cv a b tm8 → tg tm8 9 = .int .i64 (i : Int) → tg tm8 10 = .int .i64 (c : Int) →
              (∀ tm', (∃ k', k' < 5 - c ∧ ∃ c' i' f', k' = 5 - c' ∧ c' ≤ 5 ∧ a + 1 ≤ i' ∧ i' ≤ b ∧ Arr h8 B v N f' ∧ Sw a b f f' ∧ Sorted lt f' a i' ∧ Keep (· = B) h h8 ∧ Tq v cv a b tm' ∧ tg tm' 9 = .int .i64 (i' : Int) ∧ tg tm' 10 = .int .i64 (c' : Int)) → Q .norm tm' h8) →
              C ⟨r51_4⟩ (CF L (m + 4)) L tm8 h8 Q := fun f8 h8 tm8 Q ar8 sw8 so8 k8 x8 v9 v10 hQ => by
            intro K hK
            have w9 := wadd1 c (by omega)
            simp only [↓opStep_eq, ↓reduceIte, ↓EW, EV, Nat.reduceAdd, Nat.reduceEqDiff, Int.reduceEq, Int.reduceLT, Int.reduceLE, Int.reduceNe, seqC, retC, skipC, exitC, blockC, condC, r51_4, v10, w9]
            exact hK _ _ _ (hQ _ ⟨5 - (c + 1), by omega, c + 1, i, f8, rfl, by omega, hai, by omega, ar8, sw8, so8, k8, x8.set (by omega), by simp only [↓opStep_eq, ↓reduceIte, ↓EW, EV, Nat.reduceAdd, Nat.reduceEqDiff, Int.reduceEq, Int.reduceLT, Int.reduceLE, Int.reduceNe, seqC, retC, skipC, exitC, blockC, condC, v9], by simp only [↓opStep_eq, ↓reduceIte, ↓EW, EV, Nat.reduceAdd, Nat.reduceEqDiff, Int.reduceEq, Int.reduceLT, Int.reduceLE, Int.reduceNe, seqC, retC, skipC, exitC, blockC, condC]⟩)
          refine hK _ _ _ (C.seq (C.seq fun K hK => ?_))
          simp only [↓opStep_eq, ↓reduceIte, ↓EW, EV, Nat.reduceAdd, Nat.reduceEqDiff, Int.reduceEq, Int.reduceLT, Int.reduceLE, Int.reduceNe, seqC, retC, skipC, exitC, blockC, condC, r51_12, t9', x1, wi]
          refine hK _ _ _ (C.cond (decide ((2 : Int) ≤ ((i - a : Nat) : Int))) (by simp only [↓opStep_eq, ↓reduceIte, ↓EW, EV, Nat.reduceAdd, Nat.reduceEqDiff, Int.reduceEq, Int.reduceLT, Int.reduceLE, Int.reduceNe, seqC, retC, skipC, exitC, blockC, condC]) (fun g7 => C.seq fun K hK => ?_) fun g7 => C.skip ?_)
          · simp only [↓opStep_eq, ↓reduceIte, ↓EW, EV, Nat.reduceAdd, Nat.reduceEqDiff, Int.reduceEq, Int.reduceLT, Int.reduceLE, Int.reduceNe, seqC, retC, skipC, exitC, blockC, condC, r51_13, t9', w]
            refine hK .norm _ _ ?_
            refine shift_down cm (cm.stay _ _ k16 ok) ar6 inj6 hb hN hL hai ge pre6 ⟨by simp only [↓opStep_eq, ↓reduceIte, ↓EW, EV, Nat.reduceAdd, Nat.reduceEqDiff, Int.reduceEq, Int.reduceLT, Int.reduceLE, Int.reduceNe, seqC, retC, skipC, exitC, blockC, condC, x0], by simp only [↓opStep_eq, ↓reduceIte, ↓EW, EV, Nat.reduceAdd, Nat.reduceEqDiff, Int.reduceEq, Int.reduceLT, Int.reduceLE, Int.reduceNe, seqC, retC, skipC, exitC, blockC, condC, x1], by simp only [↓opStep_eq, ↓reduceIte, ↓EW, EV, Nat.reduceAdd, Nat.reduceEqDiff, Int.reduceEq, Int.reduceLT, Int.reduceLE, Int.reduceNe, seqC, retC, skipC, exitC, blockC, condC, x2], by simp only [↓opStep_eq, ↓reduceIte, ↓EW, EV, Nat.reduceAdd, Nat.reduceEqDiff, Int.reduceEq, Int.reduceLT, Int.reduceLE, Int.reduceNe, seqC, retC, skipC, exitC, blockC, condC, x3]⟩ (by simp only [↓opStep_eq, ↓reduceIte, ↓EW, EV, Nat.reduceAdd, Nat.reduceEqDiff, Int.reduceEq, Int.reduceLT, Int.reduceLE, Int.reduceNe, seqC, retC, skipC, exitC, blockC, condC, t9']) (q10 := .int .i64 (c : Int)) (by simp only [↓opStep_eq, ↓reduceIte, ↓EW, EV, Nat.reduceAdd, Nat.reduceEqDiff, Int.reduceEq, Int.reduceLT, Int.reduceLE, Int.reduceNe, seqC, retC, skipC, exitC, blockC, condC, t10']) (by simp only [↓opStep_eq, ↓reduceIte, ↓EW, EV, Nat.reduceAdd, Nat.reduceEqDiff, Int.reduceEq, Int.reduceLT, Int.reduceLE, Int.reduceNe, seqC, retC, skipC, exitC, blockC, condC]) so6 _ fun f7 h7 tm7 ar7 sw7 so7 k7 x7 u9 u10 => ?_
            exact rest f7 h7 tm7 _ ar7 sw7 so7 k7 x7 u9 u10 fun f8 h8 tm8 ar8 sw8 so8 k8 x8 v9 v10 => again f8 h8 tm8 _ ar8 sw8 so8 k8 x8 v9 v10 fun tm' hh => hh
          · have g7 : i = a + 1 := by have := of_decide_eq_false g7; omega
            refine rest f6 h6 _ _ ar6 (.refl _) (fun p q h1 h2 h3 => by omega) (.refl _ _) ⟨?_, ?_, ?_, ?_⟩ ?_ ?_ fun f8 h8 tm8 ar8 sw8 so8 k8 x8 v9 v10 => again f8 h8 tm8 _ ar8 sw8 so8 k8 x8 v9 v10 fun tm' hh => hh
            · simp only [↓opStep_eq, ↓reduceIte, ↓EW, EV, Nat.reduceAdd, Nat.reduceEqDiff, Int.reduceEq, Int.reduceLT, Int.reduceLE, Int.reduceNe, seqC, retC, skipC, exitC, blockC, condC, x0]
            · simp only [↓opStep_eq, ↓reduceIte, ↓EW, EV, Nat.reduceAdd, Nat.reduceEqDiff, Int.reduceEq, Int.reduceLT, Int.reduceLE, Int.reduceNe, seqC, retC, skipC, exitC, blockC, condC, x1]
            · simp only [↓opStep_eq, ↓reduceIte, ↓EW, EV, Nat.reduceAdd, Nat.reduceEqDiff, Int.reduceEq, Int.reduceLT, Int.reduceLE, Int.reduceNe, seqC, retC, skipC, exitC, blockC, condC, x2]
            · simp only [↓opStep_eq, ↓reduceIte, ↓EW, EV, Nat.reduceAdd, Nat.reduceEqDiff, Int.reduceEq, Int.reduceLT, Int.reduceLE, Int.reduceNe, seqC, retC, skipC, exitC, blockC, condC, x3]
            · simp only [↓opStep_eq, ↓reduceIte, ↓EW, EV, Nat.reduceAdd, Nat.reduceEqDiff, Int.reduceEq, Int.reduceLT, Int.reduceLE, Int.reduceNe, seqC, retC, skipC, exitC, blockC, condC, t9']
            · simp only [↓opStep_eq, ↓reduceIte, ↓EW, EV, Nat.reduceAdd, Nat.reduceEqDiff, Int.reduceEq, Int.reduceLT, Int.reduceLE, Int.reduceNe, seqC, retC, skipC, exitC, blockC, condC, t10']
  · simp only [if_pos]
    refine C.seq fun K hK => hK .norm _ _ (C.ret ⟨.inr rfl, _, rfl, f1, false, by simp only [↓opStep_eq, ↓reduceIte, ↓EW, EV, Nat.reduceAdd, Nat.reduceEqDiff, Int.reduceEq, Int.reduceLT, Int.reduceLE, Int.reduceNe, seqC, retC, skipC, exitC, blockC, condC, resOf], ar1, sw1, fun h => (by cases h), k1⟩)
end
end Go.Proofs.YtbdmhdidehfmoaaDoor

namespace Go.Proofs.YtbdmhdidehfmoaaDoor
open Go.Ev

section
variable {L B : Nat} {cv : Value} {lt : Nm → Nm → Prop} {Ok : H → Prop}

/-- all but a middle is in order -/
structure Sv (lt : Nm → Nm → Prop) (f0 : Nat → Nm) (a0 b0 a b : Nat) (f : Nat → Nm) : Prop where
  sw : Sw a0 b0 f0 f
  a0a : a0 ≤ a
  ab : a ≤ b
  bb : b ≤ b0
  J : ∀ p q, a0 ≤ p → p < q → q < b0 → (p < a ∨ b ≤ q) → lt (f p) (f q)
theorem Sv.move {f0 f f' : Nat → Nm} {a0 b0 a b : Nat} (s : Sv lt f0 a0 b0 a b f) (w : Sw a b f f') : Sv lt f0 a0 b0 a b f' := by
  refine ⟨s.sw.trans (w.mono s.a0a s.bb), s.a0a, s.ab, s.bb, fun p q h1 h2 h3 h4 => ?_⟩
  have := s.ab
  by_cases p1 : a ≤ p ∧ p < b
  · have hq : b ≤ q := by omega
    rw [w.out (k := q) (.inr hq)]
    exact w.all (fun x => lt x (f q)) (fun k k1 k2 => s.J k q (by have := s.a0a; omega) (by omega) h3 (.inr hq)) p p1.1 p1.2
  · rw [w.out (k := p) (by omega)]
    by_cases q1 : a ≤ q ∧ q < b
    · exact w.all (fun x => lt (f p) x) (fun k k1 k2 => s.J p k h1 (by omega) (by have := s.bb; omega) (by omega)) q q1.1 q1.2
    · rw [w.out (k := q) (by omega)]
      exact s.J p q h1 h2 h3 h4
theorem Sv.done {f0 f : Nat → Nm} {a0 b0 a b : Nat} (s : Sv lt f0 a0 b0 a b f) (so : Sorted lt f a b) : Sw a0 b0 f0 f ∧ Sorted lt f a0 b0 := by
  refine ⟨s.sw, fun p q h1 h2 h3 => ?_⟩
  by_cases e : p < a ∨ b ≤ q
  · exact s.J p q h1 h2 h3 e
  · exact so p q (by omega) h2 (by omega)
theorem Sv.pre {f0 f : Nat → Nm} {a0 b0 a b : Nat} (s : Sv lt f0 a0 b0 a b f) (h : 0 < a0 → ∀ k, a0 ≤ k → k < b0 → lt (f0 (a0 - 1)) (f0 k)) : 0 < a → ∀ k, a ≤ k → k < b → lt (f (a - 1)) (f k) := fun ha k h1 h2 => by
  have h3 := s.a0a
  have h4 := s.bb
  by_cases e : a0 = a
  · subst e
    rw [s.sw.out (.inl (by omega))]
    exact s.sw.all (fun x => lt (f0 (a0 - 1)) x) (h ha) k h1 (by omega)
  · exact s.J (a - 1) k (by omega) (by omega) (by omega) (.inl (by omega))
theorem Sv.left (cm : Cm L B cv lt Ok) {f0 f f' : Nat → Nm} {a0 b0 a b m : Nat} (s : Sv lt f0 a0 b0 a b f) (h1 : a ≤ m) (h2 : m < b) (lo : ∀ k, a ≤ k → k < m → lt (f k) (f m)) (hi : ∀ k, m < k → k < b → lt (f m) (f k)) (w : Sw a m f f') (so : Sorted lt f' a m) : Sv lt f0 a0 b0 (m + 1) b f' := by
  have s' := s.move (w.mono (Nat.le_refl a) (Nat.le_of_lt h2))
  have ha := s.a0a
  have hb := s.bb
  have em : ∀ k, m ≤ k → f' k = f k := fun k hk => w.out (.inr hk)
  have lo' : ∀ k, a ≤ k → k < m → lt (f' k) (f m) := w.all (fun x => lt x (f m)) lo
  refine ⟨s'.sw, by omega, by omega, hb, fun p q g1 g2 g3 g4 => ?_⟩
  by_cases e : p < a ∨ b ≤ q
  · exact s'.J p q g1 g2 g3 e
  · by_cases e1 : q < m
    · exact so p q (by omega) g2 e1
    · rw [em q (by omega)]
      by_cases e2 : p = m
      · subst e2; rw [em p (Nat.le_refl _)]; exact hi q g2 (by omega)
      · have l := lo' p (by omega) (by omega)
        by_cases e3 : q = m
        · subst e3; exact l
        · exact cm.tr _ _ _ l (hi q (by omega) (by omega))
theorem Sv.right (cm : Cm L B cv lt Ok) {f0 f f' : Nat → Nm} {a0 b0 a b m : Nat} (s : Sv lt f0 a0 b0 a b f) (h1 : a ≤ m) (h2 : m < b) (lo : ∀ k, a ≤ k → k < m → lt (f k) (f m)) (hi : ∀ k, m < k → k < b → lt (f m) (f k)) (w : Sw (m + 1) b f f') (so : Sorted lt f' (m + 1) b) : Sv lt f0 a0 b0 a m f' := by
  have s' := s.move (w.mono (by omega) (Nat.le_refl b))
  have ha := s.a0a
  have hb := s.bb
  have em : ∀ k, k < m + 1 → f' k = f k := fun k hk => w.out (.inl hk)
  have hi' : ∀ k, m + 1 ≤ k → k < b → lt (f m) (f' k) := w.all (fun x => lt (f m) x) fun k k1 k2 => hi k (by omega) k2
  refine ⟨s'.sw, ha, h1, by omega, fun p q g1 g2 g3 g4 => ?_⟩
  by_cases e : p < a ∨ b ≤ q
  · exact s'.J p q g1 g2 g3 e
  · by_cases e1 : m < p
    · exact so p q (by omega) g2 (by omega)
    · rw [em p (by omega)]
      by_cases e2 : q = m
      · subst e2; rw [em q (by omega)]; exact lo p (by omega) g2
      · have l := hi' q (by omega) (by omega)
        by_cases e3 : p = m
        · subst e3; exact l
        · exact cm.tr _ _ _ (lo p (by omega) (by omega)) l

/-- the temporaries -/
structure Tr (v cv : Value) (a b : Nat) (tm : T Value) : Prop where
  t0 : tg tm 0 = v
  t1 : tg tm 1 = .int .i64 (a : Int)
  t2 : tg tm 2 = .int .i64 (b : Int)
  t4 : tg tm 4 = cv
  t3 : ∃ z : Int, tg tm 3 = .int .i64 z
  t10 : ∃ z : Bool, tg tm 10 = .bool z
  t11 : ∃ z : Bool, tg tm 11 = .bool z
theorem Tr.set {v cv : Value} {a b : Nat} {tm : T Value} (x : Tr v cv a b tm) {j : Nat} {w : Value} (hj : j ≠ 0 ∧ j ≠ 1 ∧ j ≠ 2 ∧ j ≠ 3 ∧ j ≠ 4 ∧ j ≠ 10 ∧ j ≠ 11) : Tr v cv a b (T.set tm j w) := by
  obtain ⟨x0, x1, x2, x4, x3, x10, x11⟩ := x
  refine ⟨?_, ?_, ?_, ?_, ?_, ?_, ?_⟩
  · rw [tg_set, if_neg hj.1]; exact x0
  · rw [tg_set, if_neg hj.2.1]; exact x1
  · rw [tg_set, if_neg hj.2.2.1]; exact x2
  · rw [tg_set, if_neg hj.2.2.2.2.1]; exact x4
  · rw [tg_set, if_neg hj.2.2.2.1]; exact x3
  · rw [tg_set, if_neg hj.2.2.2.2.2.1]; exact x10
  · rw [tg_set, if_neg hj.2.2.2.2.2.2]; exact x11

/-- the end of a round: the parts -/
theorem pdq_tail4 (cm : Cm L B cv lt Ok) {M a0 b0 a b p N : Nat} {l : Value} {v : Value} {f0 f : Nat → Nm} {h0 h : H} {tm : T Value} (ok0 : Ok h0) (arr : Arr h B v N f) (inj : Inj f0 N) (hb0 : b0 ≤ N) (hN : N < 60000) (hL : N < L) (hpre : 0 < a0 → ∀ k, a0 ≤ k → k < b0 → lt (f0 (a0 - 1)) (f0 k)) (sv : Sv lt f0 a0 b0 a b f) (kp : Keep (· = B) h0 h) (hab : a + 12 < b) (hp : a ≤ p) (hp2 : p < b) (x : Tr v cv a b tm) (t12 : tg tm 12 = .int .i64 ((b - a : Nat) : Int)) (t13 : tg tm 13 = .int .i64 (p : Int))
    (rec_ : ∀ a' b' (z : Int) (f' : Nat → Nm) h', a' ≤ b' → b' ≤ b0 → a0 ≤ a' → 2 * (b' - a') < b - a → Arr h' B v N f' → Inj f' N → Ok h' → (0 < a' → ∀ k, a' ≤ k → k < b' → lt (f' (a' - 1)) (f' k)) → Sp (CF L (M + 8)) 39 [v, .int .i64 (a' : Int), .int .i64 (b' : Int), .int .i64 z, cv] h' fun r h'' => ∃ f'', Arr h'' B v N f'' ∧ Sw a' b' f' f'' ∧ Sorted lt f'' a' b' ∧ Keep (· = B) h' h'')
    (Q : Ex → T Value → H → Prop)
    (hQ : ∀ a' b' f' h' tm', b' - a' < b - a → Arr h' B v N f' → Sv lt f0 a0 b0 a' b' f' → Keep (· = B) h0 h' → Tr v cv a' b' tm' → Q .norm tm' h') :
    C ⟨seqC ⟨seqC ⟨r39_17⟩ ⟨condC ⟨fun _ tm => tg tm 97⟩ ⟨seqC ⟨r39_18⟩ ⟨seqC ⟨r39_19⟩ (exitC 1)⟩⟩ skipC⟩⟩ ⟨seqC ⟨r39_20⟩ ⟨seqC ⟨r39_21⟩ ⟨seqC ⟨r39_22⟩ ⟨seqC ⟨r39_23⟩ ⟨seqC ⟨r39_24⟩ ⟨condC ⟨fun _ tm => tg tm 125⟩ ⟨seqC ⟨r39_25⟩ ⟨seqC ⟨r39_26⟩ ⟨r39_27⟩⟩⟩ ⟨seqC ⟨r39_28⟩ ⟨seqC ⟨r39_29⟩ ⟨r39_30⟩⟩⟩⟩⟩⟩⟩⟩⟩⟩ (CF L (M + 8)) L tm h Q := by
  have hbb := sv.bb
  have haa := sv.a0a
  have pre := sv.pre hpre
  have inj1 := sv.sw.inj hb0 inj
  have x' := x
  obtain ⟨x0, x1, x2, x4, ⟨lim, x3⟩, ⟨wb, x10⟩, ⟨wp, x11⟩⟩ := x
  refine C.seq (C.seq fun K hK => ?_)
  have kr := keep_room h 17
  have ar1 := arr.keep0 kr
  -- it is not as great as the one ahead
  have w1 := wsub1 b (by omega) (by omega)
  have first : ∀ h2, Keep nobody h h2 → K .norm (T.set tm 97 (.bool false)) [] h2 = true := fun h2 k2 => by
    have arr2 := arr.keep0 k2
    have kp2 := kp.then k2
    refine hK _ _ _ (C.cond false (by simp only [↓opStep_eq, ↓reduceIte, ↓EW, EV, Nat.reduceAdd, Nat.reduceEqDiff, Int.reduceEq, Int.reduceLT, Int.reduceLE, Int.reduceNe, seqC, retC, skipC, exitC, blockC, condC]) (fun g => by cases g) fun g => C.skip (C.seq fun K hK => ?_))
    simp only [↓opStep_eq, ↓reduceIte, ↓EW, EV, Nat.reduceAdd, Nat.reduceEqDiff, Int.reduceEq, Int.reduceLT, Int.reduceLE, Int.reduceNe, seqC, retC, skipC, exitC, blockC, condC, r39_20, x0, x1, x2, x4, t13]
    refine partition_law cm (m := M + 3) (cm.stay _ _ kp2 ok0) arr2 inj1 (by omega) hN hL (by omega) hp hp2 _ fun r h3 hq => ?_
    obtain ⟨f3, j, d, rfl, arr3, sw3, ja, jb, lo, hi, k3⟩ := hq
    have sv3 := sv.move sw3
    have kp3 : Keep (· = B) h0 h3 := kp2.trans k3 fun _ _ h => h
    have inj3 := sv3.sw.inj hb0 inj
    simp only [↓opStep_eq, ↓reduceIte, ↓EW, EV, Nat.reduceAdd, Nat.reduceEqDiff, Int.reduceEq, Int.reduceLT, Int.reduceLE, Int.reduceNe, seqC, retC, skipC, exitC, blockC, condC, tupNth_tuple]
    refine hK _ _ _ (C.seq fun K hK => ?_)
    simp only [↓opStep_eq, ↓reduceIte, ↓EW, EV, Nat.reduceAdd, Nat.reduceEqDiff, Int.reduceEq, Int.reduceLT, Int.reduceLE, Int.reduceNe, seqC, retC, skipC, exitC, blockC, condC, r39_21]
    refine hK _ _ _ (C.seq fun K hK => ?_)
    have w2 := wsub j a (by omega) (by omega)
    have w3 := wsub b j (by omega) (by omega)
    simp only [↓opStep_eq, ↓reduceIte, ↓EW, EV, Nat.reduceAdd, Nat.reduceEqDiff, Int.reduceEq, Int.reduceLT, Int.reduceLE, Int.reduceNe, seqC, retC, skipC, exitC, blockC, condC, r39_22, x1, x2, w2, w3]
    refine hK _ _ _ (C.seq fun K hK => ?_)
    have q8 := quo_nat 3 true (b - a) 8 (by decide) (by omega)
    have c8 : ((8 : Nat) : Int) = 8 := rfl
    rw [c8] at q8
    simp only [↓opStep_eq, ↓reduceIte, ↓EW, EV, Nat.reduceAdd, Nat.reduceEqDiff, Int.reduceEq, Int.reduceLT, Int.reduceLE, Int.reduceNe, seqC, retC, skipC, exitC, blockC, condC, r39_23, t12, q8]
    refine hK _ _ _ (C.seq fun K hK => ?_)
    have w4 := wadd1 j (by omega)
    simp only [↓opStep_eq, ↓reduceIte, ↓EW, EV, Nat.reduceAdd, Nat.reduceEqDiff, Int.reduceEq, Int.reduceLT, Int.reduceLE, Int.reduceNe, seqC, retC, skipC, exitC, blockC, condC, r39_24]
    refine hK _ _ _ (C.cond (decide (((j - a : Nat) : Int) < ((b - j : Nat) : Int))) (by simp only [↓opStep_eq, ↓reduceIte, ↓EW, EV, Nat.reduceAdd, Nat.reduceEqDiff, Int.reduceEq, Int.reduceLT, Int.reduceLE, Int.reduceNe, seqC, retC, skipC, exitC, blockC, condC]) (fun g => C.seq fun K hK => ?_) fun g => C.seq fun K hK => ?_)
    · have g : j - a < b - j := by have := of_decide_eq_true g; omega
      simp only [↓opStep_eq, ↓reduceIte, ↓EW, EV, Nat.reduceAdd, Nat.reduceEqDiff, Int.reduceEq, Int.reduceLT, Int.reduceLE, Int.reduceNe, seqC, retC, skipC, exitC, blockC, condC, r39_25]
      refine hK _ _ _ (C.seq fun K hK => ?_)
      simp only [↓opStep_eq, ↓reduceIte, ↓EW, EV, Nat.reduceAdd, Nat.reduceEqDiff, Int.reduceEq, Int.reduceLT, Int.reduceLE, Int.reduceNe, seqC, retC, skipC, exitC, blockC, condC, r39_26, x0, x1, x3, x4]
      refine rec_ a j lim f3 h3 ja (by omega) haa (by omega) arr3 inj3 (cm.stay _ _ kp3 ok0) (fun ha k h1 h2 => (sv3.pre hpre) ha k h1 (by omega)) _ fun r h4 hq => ?_
      obtain ⟨f4, arr4, sw4, so4, k4⟩ := hq
      refine hK _ _ _ fun K hK => ?_
      simp only [↓opStep_eq, ↓reduceIte, ↓EW, EV, Nat.reduceAdd, Nat.reduceEqDiff, Int.reduceEq, Int.reduceLT, Int.reduceLE, Int.reduceNe, seqC, retC, skipC, exitC, blockC, condC, r39_27, w4]
      refine hK _ _ _ (hQ (j + 1) b f4 h4 _ (by omega) arr4 (sv3.left cm ja jb lo hi sw4 so4) (kp3.trans k4 fun _ _ h => h) ⟨?_, ?_, ?_, ?_, ⟨lim, ?_⟩, ⟨decide ((((b - a) / 8 : Nat) : Int) ≤ ((j - a : Nat) : Int)), ?_⟩, ⟨d, ?_⟩⟩)
      · simp only [↓opStep_eq, ↓reduceIte, ↓EW, EV, Nat.reduceAdd, Nat.reduceEqDiff, Int.reduceEq, Int.reduceLT, Int.reduceLE, Int.reduceNe, seqC, retC, skipC, exitC, blockC, condC, x0]
      · simp only [↓opStep_eq, ↓reduceIte, ↓EW, EV, Nat.reduceAdd, Nat.reduceEqDiff, Int.reduceEq, Int.reduceLT, Int.reduceLE, Int.reduceNe, seqC, retC, skipC, exitC, blockC, condC]
      · simp only [↓opStep_eq, ↓reduceIte, ↓EW, EV, Nat.reduceAdd, Nat.reduceEqDiff, Int.reduceEq, Int.reduceLT, Int.reduceLE, Int.reduceNe, seqC, retC, skipC, exitC, blockC, condC, x2]
      · simp only [↓opStep_eq, ↓reduceIte, ↓EW, EV, Nat.reduceAdd, Nat.reduceEqDiff, Int.reduceEq, Int.reduceLT, Int.reduceLE, Int.reduceNe, seqC, retC, skipC, exitC, blockC, condC, x4]
      · simp only [↓opStep_eq, ↓reduceIte, ↓EW, EV, Nat.reduceAdd, Nat.reduceEqDiff, Int.reduceEq, Int.reduceLT, Int.reduceLE, Int.reduceNe, seqC, retC, skipC, exitC, blockC, condC, x3]
      · simp only [↓opStep_eq, ↓reduceIte, ↓EW, EV, Nat.reduceAdd, Nat.reduceEqDiff, Int.reduceEq, Int.reduceLT, Int.reduceLE, Int.reduceNe, seqC, retC, skipC, exitC, blockC, condC]
      · simp only [↓opStep_eq, ↓reduceIte, ↓EW, EV, Nat.reduceAdd, Nat.reduceEqDiff, Int.reduceEq, Int.reduceLT, Int.reduceLE, Int.reduceNe, seqC, retC, skipC, exitC, blockC, condC]
    · have g : b - j ≤ j - a := by have := of_decide_eq_false g; omega
      simp only [↓opStep_eq, ↓reduceIte, ↓EW, EV, Nat.reduceAdd, Nat.reduceEqDiff, Int.reduceEq, Int.reduceLT, Int.reduceLE, Int.reduceNe, seqC, retC, skipC, exitC, blockC, condC, r39_28]
      refine hK _ _ _ (C.seq fun K hK => ?_)
      simp only [↓opStep_eq, ↓reduceIte, ↓EW, EV, Nat.reduceAdd, Nat.reduceEqDiff, Int.reduceEq, Int.reduceLT, Int.reduceLE, Int.reduceNe, seqC, retC, skipC, exitC, blockC, condC, r39_29, x0, x2, x3, x4, w4]
      refine rec_ (j + 1) b lim f3 h3 (by omega) (by omega) (by omega) (by omega) arr3 inj3 (cm.stay _ _ kp3 ok0) (fun ha k h1 h2 => ?_) _ fun r h4 hq => ?_
      · rw [show j + 1 - 1 = j by omega]; exact hi k (by omega) h2
      obtain ⟨f4, arr4, sw4, so4, k4⟩ := hq
      refine hK _ _ _ fun K hK => ?_
      simp only [↓opStep_eq, ↓reduceIte, ↓EW, EV, Nat.reduceAdd, Nat.reduceEqDiff, Int.reduceEq, Int.reduceLT, Int.reduceLE, Int.reduceNe, seqC, retC, skipC, exitC, blockC, condC, r39_30]
      refine hK _ _ _ (hQ a j f4 h4 _ (by omega) arr4 (sv3.right cm ja jb lo hi sw4 so4) (kp3.trans k4 fun _ _ h => h) ⟨?_, ?_, ?_, ?_, ⟨lim, ?_⟩, ⟨decide ((((b - a) / 8 : Nat) : Int) ≤ ((b - j : Nat) : Int)), ?_⟩, ⟨d, ?_⟩⟩)
      · simp only [↓opStep_eq, ↓reduceIte, ↓EW, EV, Nat.reduceAdd, Nat.reduceEqDiff, Int.reduceEq, Int.reduceLT, Int.reduceLE, Int.reduceNe, seqC, retC, skipC, exitC, blockC, condC, x0]
      · simp only [↓opStep_eq, ↓reduceIte, ↓EW, EV, Nat.reduceAdd, Nat.reduceEqDiff, Int.reduceEq, Int.reduceLT, Int.reduceLE, Int.reduceNe, seqC, retC, skipC, exitC, blockC, condC, x1]
      · simp only [↓opStep_eq, ↓reduceIte, ↓EW, EV, Nat.reduceAdd, Nat.reduceEqDiff, Int.reduceEq, Int.reduceLT, Int.reduceLE, Int.reduceNe, seqC, retC, skipC, exitC, blockC, condC]
      · simp only [↓opStep_eq, ↓reduceIte, ↓EW, EV, Nat.reduceAdd, Nat.reduceEqDiff, Int.reduceEq, Int.reduceLT, Int.reduceLE, Int.reduceNe, seqC, retC, skipC, exitC, blockC, condC, x4]
      · simp only [↓opStep_eq, ↓reduceIte, ↓EW, EV, Nat.reduceAdd, Nat.reduceEqDiff, Int.reduceEq, Int.reduceLT, Int.reduceLE, Int.reduceNe, seqC, retC, skipC, exitC, blockC, condC, x3]
      · simp only [↓opStep_eq, ↓reduceIte, ↓EW, EV, Nat.reduceAdd, Nat.reduceEqDiff, Int.reduceEq, Int.reduceLT, Int.reduceLE, Int.reduceNe, seqC, retC, skipC, exitC, blockC, condC]
      · simp only [↓opStep_eq, ↓reduceIte, ↓EW, EV, Nat.reduceAdd, Nat.reduceEqDiff, Int.reduceEq, Int.reduceLT, Int.reduceLE, Int.reduceNe, seqC, retC, skipC, exitC, blockC, condC]
  by_cases g : 0 < a
  · have gI : (0 : Int) < (a : Int) := by omega
    have w := wsub1 a (by omega) (by omega)
    simp only [↓opStep_eq, ↓reduceIte, ↓EW, EV, Nat.reduceAdd, Nat.reduceEqDiff, Int.reduceEq, Int.reduceLT, Int.reduceLE, Int.reduceNe, seqC, retC, skipC, exitC, blockC, condC, r39_17, ite2, x0, x1, x4, t13, gI, w, ar1.ix (show a - 1 < N by omega), ar1.ix (show p < N by omega), ar1.ld (show a - 1 < N by omega), ar1.ld (show p < N by omega)]
    refine cm.go (n := M + 4) (cm.stay0 kr (cm.stay _ _ kp ok0)) fun c h2 hc k2 => ?_
    have hlt := pre g p hp hp2
    have hc0 : c < 0 := hc.2 hlt
    simp only [↓opStep_eq, ↓reduceIte, ↓EW, EV, Nat.reduceAdd, Nat.reduceEqDiff, Int.reduceEq, Int.reduceLT, Int.reduceLE, Int.reduceNe, seqC, retC, skipC, exitC, blockC, condC, hc0]
    exact first _ (kr.then k2)
  · have gI : ¬ (0 : Int) < (a : Int) := by omega
    simp only [↓opStep_eq, ↓reduceIte, ↓EW, EV, Nat.reduceAdd, Nat.reduceEqDiff, Int.reduceEq, Int.reduceLT, Int.reduceLE, Int.reduceNe, seqC, retC, skipC, exitC, blockC, condC, r39_17, ite2, x1, gI]
    exact first _ kr
end
end Go.Proofs.YtbdmhdidehfmoaaDoor

namespace Go.Proofs.YtbdmhdidehfmoaaDoor
open Go.Ev

section
variable {L B : Nat} {cv : Value} {lt : Nm → Nm → Prop} {Ok : H → Prop}

/-- what is sorted -/
def Rec (L M B : Nat) (v cv : Value) (N a0 b0 len : Nat) (lt : Nm → Nm → Prop) (Ok : H → Prop) : Prop :=
  ∀ a' b' (z : Int) (f' : Nat → Nm) h', a' ≤ b' → b' ≤ b0 → a0 ≤ a' → 2 * (b' - a') < len → Arr h' B v N f' → Inj f' N → Ok h' → (0 < a' → ∀ k, a' ≤ k → k < b' → lt (f' (a' - 1)) (f' k)) → Sp (CF L (M + 8)) 39 [v, .int .i64 (a' : Int), .int .i64 (b' : Int), .int .i64 z, cv] h' fun r h'' => ∃ f'', Arr h'' B v N f'' ∧ Sw a' b' f' f'' ∧ Sorted lt f'' a' b' ∧ Keep (· = B) h' h''

structure Env (L B : Nat) (v cv : Value) (N a0 b0 : Nat) (lt : Nm → Nm → Prop) (Ok : H → Prop) (f0 : Nat → Nm) (h0 : H) : Prop where
  cm : Cm L B cv lt Ok
  ok : Ok h0
  loc : ∀ h1, Ok h1 → ∀ cb, h1.next ≤ cb → ∀ h2 hx, Ok h2 → Keep (· = cb) h2 hx → Ok hx
  inj : Inj f0 N
  hb0 : b0 ≤ N
  hN : N < 60000
  hL : N < L
  hL5 : 10 < L
  pre : 0 < a0 → ∀ k, a0 ≤ k → k < b0 → lt (f0 (a0 - 1)) (f0 k)

theorem pdq_tail3 {M a0 b0 a b p N : Nat} {hint : Int} {v : Value} {f0 f : Nat → Nm} {h0 h : H} {tm : T Value} (en : Env L B v cv N a0 b0 lt Ok f0 h0) (arr : Arr h B v N f) (sv : Sv lt f0 a0 b0 a b f) (kp : Keep (· = B) h0 h) (hab : a + 12 < b) (hp : a ≤ p) (hp2 : p < b) (x : Tr v cv a b tm) (t12 : tg tm 12 = .int .i64 ((b - a : Nat) : Int)) (t13 : tg tm 13 = .int .i64 (p : Int)) (t14 : tg tm 14 = .int .i64 hint)
    (rec_ : Rec L M B v cv N a0 b0 (b - a) lt Ok)
    (Q : Ex → T Value → H → Prop)
    (hQ : ∀ a' b' f' h' tm', b' - a' < b - a → Arr h' B v N f' → Sv lt f0 a0 b0 a' b' f' → Keep (· = B) h0 h' → Tr v cv a' b' tm' → Q .norm tm' h')
    (hR : ∀ f' h' tm', Arr h' B v N f' → Sw a0 b0 f0 f' → Sorted lt f' a0 b0 → Keep (· = B) h0 h' → Q .ret tm' h') :
    C ⟨seqC ⟨seqC ⟨r39_15⟩ ⟨condC ⟨fun _ tm => tg tm 75⟩ ⟨seqC ⟨r39_16⟩ ⟨condC ⟨fun _ tm => tg tm 80⟩ retC skipC⟩⟩ skipC⟩⟩ ⟨seqC ⟨seqC ⟨r39_17⟩ ⟨condC ⟨fun _ tm => tg tm 97⟩ ⟨seqC ⟨r39_18⟩ ⟨seqC ⟨r39_19⟩ (exitC 1)⟩⟩ skipC⟩⟩ ⟨seqC ⟨r39_20⟩ ⟨seqC ⟨r39_21⟩ ⟨seqC ⟨r39_22⟩ ⟨seqC ⟨r39_23⟩ ⟨seqC ⟨r39_24⟩ ⟨condC ⟨fun _ tm => tg tm 125⟩ ⟨seqC ⟨r39_25⟩ ⟨seqC ⟨r39_26⟩ ⟨r39_27⟩⟩⟩ ⟨seqC ⟨r39_28⟩ ⟨seqC ⟨r39_29⟩ ⟨r39_30⟩⟩⟩⟩⟩⟩⟩⟩⟩⟩⟩ (CF L (M + 8)) L tm h Q := by
  have hbb := sv.bb
  have hb0 := en.hb0
  have x' := x
  obtain ⟨x0, x1, x2, x4, ⟨lim, x3⟩, ⟨wb, x10⟩, ⟨wp, x11⟩⟩ := x
  have r15 : ∀ K : KE, r39_15 (CF L (M + 8)) L tm [] h K = K .norm (T.set tm 75 (.bool (wb && (wp && decide (hint = 1))))) [] h := fun K => by
    cases wb
    · simp only [↓opStep_eq, ↓reduceIte, ↓EW, EV, Nat.reduceAdd, Nat.reduceEqDiff, Int.reduceEq, Int.reduceLT, Int.reduceLE, Int.reduceNe, seqC, retC, skipC, exitC, blockC, condC, Bool.true_or, Bool.false_or, Bool.or_true, Bool.or_false, Bool.true_and, Bool.false_and, Bool.and_true, Bool.and_false, r39_15, x10, x11, t14]
    · cases wp
      · simp only [↓opStep_eq, ↓reduceIte, ↓EW, EV, Nat.reduceAdd, Nat.reduceEqDiff, Int.reduceEq, Int.reduceLT, Int.reduceLE, Int.reduceNe, seqC, retC, skipC, exitC, blockC, condC, Bool.true_or, Bool.false_or, Bool.or_true, Bool.or_false, Bool.true_and, Bool.false_and, Bool.and_true, Bool.and_false, r39_15, x10, x11, t14]
      · simp only [↓opStep_eq, ↓reduceIte, ↓EW, EV, Nat.reduceAdd, Nat.reduceEqDiff, Int.reduceEq, Int.reduceLT, Int.reduceLE, Int.reduceNe, seqC, retC, skipC, exitC, blockC, condC, Bool.true_or, Bool.false_or, Bool.or_true, Bool.or_false, Bool.true_and, Bool.false_and, Bool.and_true, Bool.and_false, r39_15, x10, x11, t14]
  refine C.seq (C.seq fun K hK => ?_)
  rw [show ∀ x : CodeT, (⟨x⟩ : Box CodeT).f = x from fun _ => rfl]
  rw [r15]
  refine hK _ _ _ (C.cond (wb && (wp && decide (hint = 1))) (by simp only [↓opStep_eq, ↓reduceIte, ↓EW, EV, Nat.reduceAdd, Nat.reduceEqDiff, Int.reduceEq, Int.reduceLT, Int.reduceLE, Int.reduceNe, seqC, retC, skipC, exitC, blockC, condC]) (fun g => C.seq fun K hK => ?_) fun g => C.skip ?_)
  · simp only [↓opStep_eq, ↓reduceIte, ↓EW, EV, Nat.reduceAdd, Nat.reduceEqDiff, Int.reduceEq, Int.reduceLT, Int.reduceLE, Int.reduceNe, seqC, retC, skipC, exitC, blockC, condC, r39_16, x0, x1, x2, x4]
    refine partial_law en.cm (m := M + 3) (en.cm.stay _ _ kp en.ok) arr (sv.sw.inj hb0 en.inj) (by omega) en.hN en.hL en.hL5 (by omega) (sv.pre en.pre) _ fun r h2 hq => ?_
    obtain ⟨f2, d, rfl, arr2, sw2, so2, k2⟩ := hq
    have sv2 := sv.move sw2
    have kp2 : Keep (· = B) h0 h2 := kp.trans k2 fun _ _ h => h
    refine hK _ _ _ (C.cond d (by simp only [↓opStep_eq, ↓reduceIte, ↓EW, EV, Nat.reduceAdd, Nat.reduceEqDiff, Int.reduceEq, Int.reduceLT, Int.reduceLE, Int.reduceNe, seqC, retC, skipC, exitC, blockC, condC]) (fun gd1 => C.ret ?_) fun gd1 => C.skip ?_)
    · obtain ⟨w, so⟩ := sv2.done (so2 gd1)
      exact hR f2 h2 _ arr2 w so kp2
    · refine pdq_tail4 en.cm (l := .bool true) en.ok arr2 en.inj hb0 en.hN en.hL en.pre sv2 kp2 hab hp hp2 ((x'.set (by omega)).set (by omega)) ?_ ?_ rec_ Q hQ
      · simp only [↓opStep_eq, ↓reduceIte, ↓EW, EV, Nat.reduceAdd, Nat.reduceEqDiff, Int.reduceEq, Int.reduceLT, Int.reduceLE, Int.reduceNe, seqC, retC, skipC, exitC, blockC, condC, t12]
      · simp only [↓opStep_eq, ↓reduceIte, ↓EW, EV, Nat.reduceAdd, Nat.reduceEqDiff, Int.reduceEq, Int.reduceLT, Int.reduceLE, Int.reduceNe, seqC, retC, skipC, exitC, blockC, condC, t13]
  · refine pdq_tail4 en.cm (l := .bool true) en.ok arr en.inj hb0 en.hN en.hL en.pre sv kp hab hp hp2 (x'.set (by omega)) ?_ ?_ rec_ Q hQ
    · simp only [↓opStep_eq, ↓reduceIte, ↓EW, EV, Nat.reduceAdd, Nat.reduceEqDiff, Int.reduceEq, Int.reduceLT, Int.reduceLE, Int.reduceNe, seqC, retC, skipC, exitC, blockC, condC, t12]
    · simp only [↓opStep_eq, ↓reduceIte, ↓EW, EV, Nat.reduceAdd, Nat.reduceEqDiff, Int.reduceEq, Int.reduceLT, Int.reduceLE, Int.reduceNe, seqC, retC, skipC, exitC, blockC, condC, t13]

theorem pdq_tail2 {M a0 b0 a b p N : Nat} {hint : Int} {v : Value} {f0 f : Nat → Nm} {h0 h : H} {tm : T Value} (en : Env L B v cv N a0 b0 lt Ok f0 h0) (arr : Arr h B v N f) (sv : Sv lt f0 a0 b0 a b f) (kp : Keep (· = B) h0 h) (hab : a + 12 < b) (hp : a ≤ p) (hp2 : p < b) (x : Tr v cv a b tm) (t12 : tg tm 12 = .int .i64 ((b - a : Nat) : Int)) (t13 : tg tm 13 = .int .i64 (p : Int)) (t14 : tg tm 14 = .int .i64 hint)
    (rec_ : Rec L M B v cv N a0 b0 (b - a) lt Ok)
    (Q : Ex → T Value → H → Prop)
    (hQ : ∀ a' b' f' h' tm', b' - a' < b - a → Arr h' B v N f' → Sv lt f0 a0 b0 a' b' f' → Keep (· = B) h0 h' → Tr v cv a' b' tm' → Q .norm tm' h')
    (hR : ∀ f' h' tm', Arr h' B v N f' → Sw a0 b0 f0 f' → Sorted lt f' a0 b0 → Keep (· = B) h0 h' → Q .ret tm' h') :
    C ⟨seqC ⟨seqC ⟨r39_11⟩ ⟨condC ⟨fun _ tm => tg tm 56⟩ ⟨seqC ⟨r39_12⟩ ⟨seqC ⟨r39_13⟩ ⟨r39_14⟩⟩⟩ skipC⟩⟩ ⟨seqC ⟨seqC ⟨r39_15⟩ ⟨condC ⟨fun _ tm => tg tm 75⟩ ⟨seqC ⟨r39_16⟩ ⟨condC ⟨fun _ tm => tg tm 80⟩ retC skipC⟩⟩ skipC⟩⟩ ⟨seqC ⟨seqC ⟨r39_17⟩ ⟨condC ⟨fun _ tm => tg tm 97⟩ ⟨seqC ⟨r39_18⟩ ⟨seqC ⟨r39_19⟩ (exitC 1)⟩⟩ skipC⟩⟩ ⟨seqC ⟨r39_20⟩ ⟨seqC ⟨r39_21⟩ ⟨seqC ⟨r39_22⟩ ⟨seqC ⟨r39_23⟩ ⟨seqC ⟨r39_24⟩ ⟨condC ⟨fun _ tm => tg tm 125⟩ ⟨seqC ⟨r39_25⟩ ⟨seqC ⟨r39_26⟩ ⟨r39_27⟩⟩⟩ ⟨seqC ⟨r39_28⟩ ⟨seqC ⟨r39_29⟩ ⟨r39_30⟩⟩⟩⟩⟩⟩⟩⟩⟩⟩⟩⟩ (CF L (M + 8)) L tm h Q := by
  have hbb := sv.bb
  have hb0 := en.hb0
  have hN := en.hN
  have x' := x
  obtain ⟨x0, x1, x2, x4, ⟨lim, x3⟩, ⟨wb, x10⟩, ⟨wp, x11⟩⟩ := x
  refine C.seq (C.seq fun K hK => ?_)
  simp only [↓opStep_eq, ↓reduceIte, ↓EW, EV, Nat.reduceAdd, Nat.reduceEqDiff, Int.reduceEq, Int.reduceLT, Int.reduceLE, Int.reduceNe, seqC, retC, skipC, exitC, blockC, condC, r39_11, t14]
  refine hK _ _ _ (C.cond (decide (hint = 2)) (by simp only [↓opStep_eq, ↓reduceIte, ↓EW, EV, Nat.reduceAdd, Nat.reduceEqDiff, Int.reduceEq, Int.reduceLT, Int.reduceLE, Int.reduceNe, seqC, retC, skipC, exitC, blockC, condC]) (fun g => C.seq fun K hK => ?_) fun g => C.skip ?_)
  · simp only [↓opStep_eq, ↓reduceIte, ↓EW, EV, Nat.reduceAdd, Nat.reduceEqDiff, Int.reduceEq, Int.reduceLT, Int.reduceLE, Int.reduceNe, seqC, retC, skipC, exitC, blockC, condC, r39_12, x0, x1, x2, x4]
    refine reverse_law (M + 7) (cv := cv) arr (by omega) en.hN en.hL (by omega) _ fun r h2 hq => ?_
    obtain ⟨f2, arr2, sw2, k2⟩ := hq
    have sv2 := sv.move sw2
    have kp2 : Keep (· = B) h0 h2 := kp.trans k2 fun _ _ h => h
    have w1 := wsub1 b (by omega) (by omega)
    have w2 := wsub p a (by omega) (by omega)
    have w3 := wsub (b - 1) (p - a) (by omega) (by omega)
    refine hK _ _ _ (C.seq fun K hK => ?_)
    simp only [↓opStep_eq, ↓reduceIte, ↓EW, EV, Nat.reduceAdd, Nat.reduceEqDiff, Int.reduceEq, Int.reduceLT, Int.reduceLE, Int.reduceNe, seqC, retC, skipC, exitC, blockC, condC, r39_13, x1, x2, t13, w1, w2, w3]
    refine hK _ _ _ fun K hK => hK .norm _ _ ?_
    refine pdq_tail3 en (p := b - 1 - (p - a)) (hint := 1) arr2 sv2 kp2 hab (by omega) (by omega) (((x'.set (by omega)).set (by omega)).set (by omega)) ?_ ?_ ?_ rec_ Q hQ hR
    · simp only [↓opStep_eq, ↓reduceIte, ↓EW, EV, Nat.reduceAdd, Nat.reduceEqDiff, Int.reduceEq, Int.reduceLT, Int.reduceLE, Int.reduceNe, seqC, retC, skipC, exitC, blockC, condC, t12]
    · simp only [↓opStep_eq, ↓reduceIte, ↓EW, EV, Nat.reduceAdd, Nat.reduceEqDiff, Int.reduceEq, Int.reduceLT, Int.reduceLE, Int.reduceNe, seqC, retC, skipC, exitC, blockC, condC]
    · simp only [↓opStep_eq, ↓reduceIte, ↓EW, EV, Nat.reduceAdd, Nat.reduceEqDiff, Int.reduceEq, Int.reduceLT, Int.reduceLE, Int.reduceNe, seqC, retC, skipC, exitC, blockC, condC]
  · refine pdq_tail3 en (hint := hint) arr sv kp hab hp hp2 (x'.set (by omega)) ?_ ?_ ?_ rec_ Q hQ hR
    · simp only [↓opStep_eq, ↓reduceIte, ↓EW, EV, Nat.reduceAdd, Nat.reduceEqDiff, Int.reduceEq, Int.reduceLT, Int.reduceLE, Int.reduceNe, seqC, retC, skipC, exitC, blockC, condC, t12]
    · simp only [↓opStep_eq, ↓reduceIte, ↓EW, EV, Nat.reduceAdd, Nat.reduceEqDiff, Int.reduceEq, Int.reduceLT, Int.reduceLE, Int.reduceNe, seqC, retC, skipC, exitC, blockC, condC, t13]
    · simp only [↓opStep_eq, ↓reduceIte, ↓EW, EV, Nat.reduceAdd, Nat.reduceEqDiff, Int.reduceEq, Int.reduceLT, Int.reduceLE, Int.reduceNe, seqC, retC, skipC, exitC, blockC, condC, t14]

theorem pdq_tail1 {M a0 b0 a b N : Nat} {v : Value} {f0 f : Nat → Nm} {h0 h : H} {tm : T Value} (en : Env L B v cv N a0 b0 lt Ok f0 h0) (arr : Arr h B v N f) (sv : Sv lt f0 a0 b0 a b f) (kp : Keep (· = B) h0 h) (hab : a + 12 < b) (x : Tr v cv a b tm) (t12 : tg tm 12 = .int .i64 ((b - a : Nat) : Int))
    (rec_ : Rec L M B v cv N a0 b0 (b - a) lt Ok)
    (Q : Ex → T Value → H → Prop)
    (hQ : ∀ a' b' f' h' tm', b' - a' < b - a → Arr h' B v N f' → Sv lt f0 a0 b0 a' b' f' → Keep (· = B) h0 h' → Tr v cv a' b' tm' → Q .norm tm' h')
    (hR : ∀ f' h' tm', Arr h' B v N f' → Sw a0 b0 f0 f' → Sorted lt f' a0 b0 → Keep (· = B) h0 h' → Q .ret tm' h') :
    C ⟨seqC ⟨r39_10⟩ ⟨seqC ⟨seqC ⟨r39_11⟩ ⟨condC ⟨fun _ tm => tg tm 56⟩ ⟨seqC ⟨r39_12⟩ ⟨seqC ⟨r39_13⟩ ⟨r39_14⟩⟩⟩ skipC⟩⟩ ⟨seqC ⟨seqC ⟨r39_15⟩ ⟨condC ⟨fun _ tm => tg tm 75⟩ ⟨seqC ⟨r39_16⟩ ⟨condC ⟨fun _ tm => tg tm 80⟩ retC skipC⟩⟩ skipC⟩⟩ ⟨seqC ⟨seqC ⟨r39_17⟩ ⟨condC ⟨fun _ tm => tg tm 97⟩ ⟨seqC ⟨r39_18⟩ ⟨seqC ⟨r39_19⟩ (exitC 1)⟩⟩ skipC⟩⟩ ⟨seqC ⟨r39_20⟩ ⟨seqC ⟨r39_21⟩ ⟨seqC ⟨r39_22⟩ ⟨seqC ⟨r39_23⟩ ⟨seqC ⟨r39_24⟩ ⟨condC ⟨fun _ tm => tg tm 125⟩ ⟨seqC ⟨r39_25⟩ ⟨seqC ⟨r39_26⟩ ⟨r39_27⟩⟩⟩ ⟨seqC ⟨r39_28⟩ ⟨seqC ⟨r39_29⟩ ⟨r39_30⟩⟩⟩⟩⟩⟩⟩⟩⟩⟩⟩⟩⟩ (CF L (M + 8)) L tm h Q := by
  have hbb := sv.bb
  have hb0 := en.hb0
  obtain ⟨x0, x1, x2, x4, ⟨lim, x3⟩, ⟨wb, x10⟩, ⟨wp, x11⟩⟩ := id x
  refine C.seq fun K hK => ?_
  simp only [↓opStep_eq, ↓reduceIte, ↓EW, EV, Nat.reduceAdd, Nat.reduceEqDiff, Int.reduceEq, Int.reduceLT, Int.reduceLE, Int.reduceNe, seqC, retC, skipC, exitC, blockC, condC, r39_10, x0, x1, x2, x4]
  refine pivot_law en.cm (m := M) (en.cm.stay _ _ kp en.ok) (en.loc h (en.cm.stay _ _ kp en.ok)) arr (by omega) en.hN hab _ fun r h2 hq => ?_
  obtain ⟨p, hint, rfl, p1, p2, k2⟩ := hq
  simp only [↓opStep_eq, ↓reduceIte, ↓EW, EV, Nat.reduceAdd, Nat.reduceEqDiff, Int.reduceEq, Int.reduceLT, Int.reduceLE, Int.reduceNe, seqC, retC, skipC, exitC, blockC, condC, tupNth_tuple]
  refine hK _ _ _ (pdq_tail2 en (hint := hint) (arr.keep0 k2) sv (kp.then k2) hab p1 p2 ((x.set (by omega)).set (by omega)) ?_ ?_ ?_ rec_ Q hQ hR)
  · simp only [↓opStep_eq, ↓reduceIte, ↓EW, EV, Nat.reduceAdd, Nat.reduceEqDiff, Int.reduceEq, Int.reduceLT, Int.reduceLE, Int.reduceNe, seqC, retC, skipC, exitC, blockC, condC, t12]
  · simp only [↓opStep_eq, ↓reduceIte, ↓EW, EV, Nat.reduceAdd, Nat.reduceEqDiff, Int.reduceEq, Int.reduceLT, Int.reduceLE, Int.reduceNe, seqC, retC, skipC, exitC, blockC, condC]
  · simp only [↓opStep_eq, ↓reduceIte, ↓EW, EV, Nat.reduceAdd, Nat.reduceEqDiff, Int.reduceEq, Int.reduceLT, Int.reduceLE, Int.reduceNe, seqC, retC, skipC, exitC, blockC, condC]

theorem pdq_tail0 {M a0 b0 a b N : Nat} {v : Value} {f0 f : Nat → Nm} {h0 h : H} {tm : T Value} (en : Env L B v cv N a0 b0 lt Ok f0 h0) (arr : Arr h B v N f) (sv : Sv lt f0 a0 b0 a b f) (kp : Keep (· = B) h0 h) (hab : a + 12 < b) (x : Tr v cv a b tm) (t12 : tg tm 12 = .int .i64 ((b - a : Nat) : Int))
    (rec_ : Rec L M B v cv N a0 b0 (b - a) lt Ok)
    (Q : Ex → T Value → H → Prop)
    (hQ : ∀ a' b' f' h' tm', b' - a' < b - a → Arr h' B v N f' → Sv lt f0 a0 b0 a' b' f' → Keep (· = B) h0 h' → Tr v cv a' b' tm' → Q .norm tm' h')
    (hR : ∀ f' h' tm', Arr h' B v N f' → Sw a0 b0 f0 f' → Sorted lt f' a0 b0 → Keep (· = B) h0 h' → Q .ret tm' h') :
    C ⟨seqC ⟨seqC ⟨r39_7⟩ ⟨condC ⟨fun _ tm => tg tm 39⟩ ⟨seqC ⟨r39_8⟩ ⟨r39_9⟩⟩ skipC⟩⟩ ⟨seqC ⟨r39_10⟩ ⟨seqC ⟨seqC ⟨r39_11⟩ ⟨condC ⟨fun _ tm => tg tm 56⟩ ⟨seqC ⟨r39_12⟩ ⟨seqC ⟨r39_13⟩ ⟨r39_14⟩⟩⟩ skipC⟩⟩ ⟨seqC ⟨seqC ⟨r39_15⟩ ⟨condC ⟨fun _ tm => tg tm 75⟩ ⟨seqC ⟨r39_16⟩ ⟨condC ⟨fun _ tm => tg tm 80⟩ retC skipC⟩⟩ skipC⟩⟩ ⟨seqC ⟨seqC ⟨r39_17⟩ ⟨condC ⟨fun _ tm => tg tm 97⟩ ⟨seqC ⟨r39_18⟩ ⟨seqC ⟨r39_19⟩ (exitC 1)⟩⟩ skipC⟩⟩ ⟨seqC ⟨r39_20⟩ ⟨seqC ⟨r39_21⟩ ⟨seqC ⟨r39_22⟩ ⟨seqC ⟨r39_23⟩ ⟨seqC ⟨r39_24⟩ ⟨condC ⟨fun _ tm => tg tm 125⟩ ⟨seqC ⟨r39_25⟩ ⟨seqC ⟨r39_26⟩ ⟨r39_27⟩⟩⟩ ⟨seqC ⟨r39_28⟩ ⟨seqC ⟨r39_29⟩ ⟨r39_30⟩⟩⟩⟩⟩⟩⟩⟩⟩⟩⟩⟩⟩⟩ (CF L (M + 8)) L tm h Q := by
  have hbb := sv.bb
  have hb0 := en.hb0
  obtain ⟨x0, x1, x2, x4, ⟨lim, x3⟩, ⟨wb, x10⟩, ⟨wp, x11⟩⟩ := id x
  refine C.seq (C.seq fun K hK => ?_)
  simp only [↓opStep_eq, ↓reduceIte, ↓EW, EV, Nat.reduceAdd, Nat.reduceEqDiff, Int.reduceEq, Int.reduceLT, Int.reduceLE, Int.reduceNe, seqC, retC, skipC, exitC, blockC, condC, r39_7, x10]
  refine hK _ _ _ (C.cond (!wb) (by simp only [↓opStep_eq, ↓reduceIte, ↓EW, EV, Nat.reduceAdd, Nat.reduceEqDiff, Int.reduceEq, Int.reduceLT, Int.reduceLE, Int.reduceNe, seqC, retC, skipC, exitC, blockC, condC]) (fun g => C.seq fun K hK => ?_) fun g => C.skip ?_)
  · simp only [↓opStep_eq, ↓reduceIte, ↓EW, EV, Nat.reduceAdd, Nat.reduceEqDiff, Int.reduceEq, Int.reduceLT, Int.reduceLE, Int.reduceNe, seqC, retC, skipC, exitC, blockC, condC, r39_8, x0, x1, x2, x4]
    refine break_law (M + 4) (cv := cv) arr (by omega) en.hN en.hL hab _ fun r h2 hq => ?_
    obtain ⟨f2, arr2, sw2, k2⟩ := hq
    refine hK _ _ _ fun K hK => ?_
    simp only [↓opStep_eq, ↓reduceIte, ↓EW, EV, Nat.reduceAdd, Nat.reduceEqDiff, Int.reduceEq, Int.reduceLT, Int.reduceLE, Int.reduceNe, seqC, retC, skipC, exitC, blockC, condC, r39_9, x3]
    refine hK _ _ _ (pdq_tail1 en arr2 (sv.move sw2) (kp.trans k2 fun _ _ h => h) hab ⟨?_, ?_, ?_, ?_, ⟨IntKind.i64.wrap (lim - 1), ?_⟩, ⟨wb, ?_⟩, ⟨wp, ?_⟩⟩ ?_ rec_ Q hQ hR)
    · simp only [↓opStep_eq, ↓reduceIte, ↓EW, EV, Nat.reduceAdd, Nat.reduceEqDiff, Int.reduceEq, Int.reduceLT, Int.reduceLE, Int.reduceNe, seqC, retC, skipC, exitC, blockC, condC, x0]
    · simp only [↓opStep_eq, ↓reduceIte, ↓EW, EV, Nat.reduceAdd, Nat.reduceEqDiff, Int.reduceEq, Int.reduceLT, Int.reduceLE, Int.reduceNe, seqC, retC, skipC, exitC, blockC, condC, x1]
    · simp only [↓opStep_eq, ↓reduceIte, ↓EW, EV, Nat.reduceAdd, Nat.reduceEqDiff, Int.reduceEq, Int.reduceLT, Int.reduceLE, Int.reduceNe, seqC, retC, skipC, exitC, blockC, condC, x2]
    · simp only [↓opStep_eq, ↓reduceIte, ↓EW, EV, Nat.reduceAdd, Nat.reduceEqDiff, Int.reduceEq, Int.reduceLT, Int.reduceLE, Int.reduceNe, seqC, retC, skipC, exitC, blockC, condC, x4]
    · simp only [↓opStep_eq, ↓reduceIte, ↓EW, EV, Nat.reduceAdd, Nat.reduceEqDiff, Int.reduceEq, Int.reduceLT, Int.reduceLE, Int.reduceNe, seqC, retC, skipC, exitC, blockC, condC]
    · simp only [↓opStep_eq, ↓reduceIte, ↓EW, EV, Nat.reduceAdd, Nat.reduceEqDiff, Int.reduceEq, Int.reduceLT, Int.reduceLE, Int.reduceNe, seqC, retC, skipC, exitC, blockC, condC, x10]
    · simp only [↓opStep_eq, ↓reduceIte, ↓EW, EV, Nat.reduceAdd, Nat.reduceEqDiff, Int.reduceEq, Int.reduceLT, Int.reduceLE, Int.reduceNe, seqC, retC, skipC, exitC, blockC, condC, x11]
    · simp only [↓opStep_eq, ↓reduceIte, ↓EW, EV, Nat.reduceAdd, Nat.reduceEqDiff, Int.reduceEq, Int.reduceLT, Int.reduceLE, Int.reduceNe, seqC, retC, skipC, exitC, blockC, condC, t12]
  · refine pdq_tail1 en arr sv kp hab (x.set (by omega)) ?_ rec_ Q hQ hR
    simp only [↓opStep_eq, ↓reduceIte, ↓EW, EV, Nat.reduceAdd, Nat.reduceEqDiff, Int.reduceEq, Int.reduceLT, Int.reduceLE, Int.reduceNe, seqC, retC, skipC, exitC, blockC, condC, t12]

theorem pdq_law (d : Nat) : ∀ {M a0 b0 N : Nat} {z : Int} {v : Value} {f0 : Nat → Nm} {h0 : H}, Env L B v cv N a0 b0 lt Ok f0 h0 → Arr h0 B v N f0 → a0 ≤ b0 → b0 - a0 < 2 ^ d →
    Sp (CF L (M + 9 + d)) 39 [v, .int .i64 (a0 : Int), .int .i64 (b0 : Int), .int .i64 z, cv] h0 fun r h' => ∃ f', Arr h' B v N f' ∧ Sw a0 b0 f0 f' ∧ Sorted lt f' a0 b0 ∧ Keep (· = B) h0 h' := by
  induction d with
  | zero =>
    intro M a0 b0 N z v f0 h0 en arr hab hlen
    have e : a0 = b0 := by simp at hlen; omega
    subst e
    have hb0 := en.hb0
    have hN := en.hN
    refine Sp.body f39 (by simp) ?_
    unfold c39
    refine C.seq fun K hK => hK .norm _ _ (C.seq fun K hK => hK .norm _ _ ?_)
    refine C.block (C.loop (fun k tm' hx => k = 0 ∧ hx = h0 ∧ Tr v cv a0 a0 tm') 0 (by have := en.hL5; omega)
      ⟨rfl, rfl, ⟨by simp only [↓opStep_eq, ↓reduceIte, ↓EW, EV, Nat.reduceAdd, Nat.reduceEqDiff, Int.reduceEq, Int.reduceLT, Int.reduceLE, Int.reduceNe, seqC, retC, skipC, exitC, blockC, condC], by simp only [↓opStep_eq, ↓reduceIte, ↓EW, EV, Nat.reduceAdd, Nat.reduceEqDiff, Int.reduceEq, Int.reduceLT, Int.reduceLE, Int.reduceNe, seqC, retC, skipC, exitC, blockC, condC], by simp only [↓opStep_eq, ↓reduceIte, ↓EW, EV, Nat.reduceAdd, Nat.reduceEqDiff, Int.reduceEq, Int.reduceLT, Int.reduceLE, Int.reduceNe, seqC, retC, skipC, exitC, blockC, condC], by simp only [↓opStep_eq, ↓reduceIte, ↓EW, EV, Nat.reduceAdd, Nat.reduceEqDiff, Int.reduceEq, Int.reduceLT, Int.reduceLE, Int.reduceNe, seqC, retC, skipC, exitC, blockC, condC], ⟨z, by simp only [↓opStep_eq, ↓reduceIte, ↓EW, EV, Nat.reduceAdd, Nat.reduceEqDiff, Int.reduceEq, Int.reduceLT, Int.reduceLE, Int.reduceNe, seqC, retC, skipC, exitC, blockC, condC]⟩, ⟨true, by simp only [↓opStep_eq, ↓reduceIte, ↓EW, EV, Nat.reduceAdd, Nat.reduceEqDiff, Int.reduceEq, Int.reduceLT, Int.reduceLE, Int.reduceNe, seqC, retC, skipC, exitC, blockC, condC]⟩, ⟨true, by simp only [↓opStep_eq, ↓reduceIte, ↓EW, EV, Nat.reduceAdd, Nat.reduceEqDiff, Int.reduceEq, Int.reduceLT, Int.reduceLE, Int.reduceNe, seqC, retC, skipC, exitC, blockC, condC]⟩⟩⟩ ?_)
    rintro k tm hx ⟨rfl, rfl, x⟩
    obtain ⟨x0, x1, x2, x4, ⟨lim, x3⟩, ⟨wb, x10⟩, ⟨wp, x11⟩⟩ := x
    unfold l39_31
    refine C.block (C.seq fun K hK => ?_)
    have w := wsub a0 a0 (Nat.le_refl _) (by omega)
    rw [Nat.sub_self] at w
    simp only [↓opStep_eq, ↓reduceIte, ↓EW, EV, Nat.reduceAdd, Nat.reduceEqDiff, Int.reduceEq, Int.reduceLT, Int.reduceLE, Int.reduceNe, seqC, retC, skipC, exitC, blockC, condC, r39_2, x1, x2, w]
    have g12 : ((0 : Nat) : Int) ≤ 12 := by decide
    refine hK _ _ _ (C.seq (C.seq fun K hK => ?_))
    simp only [↓opStep_eq, ↓reduceIte, ↓EW, EV, Nat.reduceAdd, Nat.reduceEqDiff, Int.reduceEq, Int.reduceLT, Int.reduceLE, Int.reduceNe, seqC, retC, skipC, exitC, blockC, condC, r39_3, g12]
    refine hK _ _ _ (C.cond true (by simp only [↓opStep_eq, ↓reduceIte, ↓EW, EV, Nat.reduceAdd, Nat.reduceEqDiff, Int.reduceEq, Int.reduceLT, Int.reduceLE, Int.reduceNe, seqC, retC, skipC, exitC, blockC, condC]) (fun g => C.seq fun K hK => ?_) fun g => by cases g)
    simp only [↓opStep_eq, ↓reduceIte, ↓EW, EV, Nat.reduceAdd, Nat.reduceEqDiff, Int.reduceEq, Int.reduceLT, Int.reduceLE, Int.reduceNe, seqC, retC, skipC, exitC, blockC, condC, r39_4, x0, x1, x2, x4]
    refine insertion_law en.cm (m := M + 3) en.ok arr en.inj hb0 (by omega) en.hL (Nat.le_refl _) _ fun r h2 hq => ?_
    exact hK _ _ _ (C.ret ⟨.inr rfl, _, rfl, hq⟩)
  | succ d ih =>
    intro M a0 b0 N z v f0 h0 en arr hab hlen
    have hb0 := en.hb0
    have hN := en.hN
    rw [show M + 9 + (d + 1) = (M + 1 + d + 8) + 1 by omega]
    refine Sp.body f39 (by simp) ?_
    unfold c39
    refine C.seq fun K hK => hK .norm _ _ (C.seq fun K hK => hK .norm _ _ ?_)
    refine C.block (C.loop (fun k tm' hx => ∃ a b f', k = b - a ∧ Arr hx B v N f' ∧ Sv lt f0 a0 b0 a b f' ∧ Keep (· = B) h0 hx ∧ Tr v cv a b tm') (b0 - a0) (by have := en.hL; omega)
      ⟨a0, b0, f0, rfl, arr, ⟨.refl _, Nat.le_refl _, hab, Nat.le_refl _, fun p q h1 h2 h3 h4 => by omega⟩, .refl _ _, ⟨by simp only [↓opStep_eq, ↓reduceIte, ↓EW, EV, Nat.reduceAdd, Nat.reduceEqDiff, Int.reduceEq, Int.reduceLT, Int.reduceLE, Int.reduceNe, seqC, retC, skipC, exitC, blockC, condC], by simp only [↓opStep_eq, ↓reduceIte, ↓EW, EV, Nat.reduceAdd, Nat.reduceEqDiff, Int.reduceEq, Int.reduceLT, Int.reduceLE, Int.reduceNe, seqC, retC, skipC, exitC, blockC, condC], by simp only [↓opStep_eq, ↓reduceIte, ↓EW, EV, Nat.reduceAdd, Nat.reduceEqDiff, Int.reduceEq, Int.reduceLT, Int.reduceLE, Int.reduceNe, seqC, retC, skipC, exitC, blockC, condC], by simp only [↓opStep_eq, ↓reduceIte, ↓EW, EV, Nat.reduceAdd, Nat.reduceEqDiff, Int.reduceEq, Int.reduceLT, Int.reduceLE, Int.reduceNe, seqC, retC, skipC, exitC, blockC, condC], ⟨z, by simp only [↓opStep_eq, ↓reduceIte, ↓EW, EV, Nat.reduceAdd, Nat.reduceEqDiff, Int.reduceEq, Int.reduceLT, Int.reduceLE, Int.reduceNe, seqC, retC, skipC, exitC, blockC, condC]⟩, ⟨true, by simp only [↓opStep_eq, ↓reduceIte, ↓EW, EV, Nat.reduceAdd, Nat.reduceEqDiff, Int.reduceEq, Int.reduceLT, Int.reduceLE, Int.reduceNe, seqC, retC, skipC, exitC, blockC, condC]⟩, ⟨true, by simp only [↓opStep_eq, ↓reduceIte, ↓EW, EV, Nat.reduceAdd, Nat.reduceEqDiff, Int.reduceEq, Int.reduceLT, Int.reduceLE, Int.reduceNe, seqC, retC, skipC, exitC, blockC, condC]⟩⟩⟩ ?_)
    rintro k tm hx ⟨a, b, f, rfl, arr1, sv, kp, x⟩
    obtain ⟨x0, x1, x2, x4, ⟨lim, x3⟩, ⟨wb, x10⟩, ⟨wp, x11⟩⟩ := id x
    have hbb := sv.bb
    have hsa := sv.ab
    have haa := sv.a0a
    unfold l39_31
    refine C.block (C.seq fun K hK => ?_)
    have w := wsub b a hsa (by omega)
    simp only [↓opStep_eq, ↓reduceIte, ↓EW, EV, Nat.reduceAdd, Nat.reduceEqDiff, Int.reduceEq, Int.reduceLT, Int.reduceLE, Int.reduceNe, seqC, retC, skipC, exitC, blockC, condC, r39_2, x1, x2, w]
    refine hK _ _ _ (C.seq (C.seq fun K hK => ?_))
    simp only [↓opStep_eq, ↓reduceIte, ↓EW, EV, Nat.reduceAdd, Nat.reduceEqDiff, Int.reduceEq, Int.reduceLT, Int.reduceLE, Int.reduceNe, seqC, retC, skipC, exitC, blockC, condC, r39_3]
    have fin : ∀ f' h' tm', Arr h' B v N f' → Sw a0 b0 f0 f' → Sorted lt f' a0 b0 → Keep (· = B) h0 h' → (Ex.ret = Ex.norm ∨ Ex.ret = Ex.ret) ∧ ∃ l, q39.f tm' h' = some l ∧ ∃ f', Arr h' B v N f' ∧ Sw a0 b0 f0 f' ∧ Sorted lt f' a0 b0 ∧ Keep (· = B) h0 h' := fun f' h' tm' A S So K => ⟨.inr rfl, _, rfl, f', A, S, So, K⟩
    refine hK _ _ _ (C.cond (decide (((b - a : Nat) : Int) ≤ 12)) (by simp only [↓opStep_eq, ↓reduceIte, ↓EW, EV, Nat.reduceAdd, Nat.reduceEqDiff, Int.reduceEq, Int.reduceLT, Int.reduceLE, Int.reduceNe, seqC, retC, skipC, exitC, blockC, condC]) (fun g => C.seq fun K hK => ?_) fun g => C.skip ?_)
    · simp only [↓opStep_eq, ↓reduceIte, ↓EW, EV, Nat.reduceAdd, Nat.reduceEqDiff, Int.reduceEq, Int.reduceLT, Int.reduceLE, Int.reduceNe, seqC, retC, skipC, exitC, blockC, condC, r39_4, x0, x1, x2, x4]
      refine insertion_law en.cm (m := M + 1 + d + 3) (a := a) (b := b) (en.cm.stay _ _ kp en.ok) arr1 (sv.sw.inj hb0 en.inj) (by omega) (by omega) en.hL hsa _ fun r h2 hq => ?_
      obtain ⟨f2, arr2, sw2, so2, k2⟩ := hq
      obtain ⟨w, so⟩ := (sv.move sw2).done so2
      exact hK _ _ _ (C.ret (fin f2 h2 _ arr2 w so (kp.trans k2 fun _ _ h => h)))
    · have g : a + 12 < b := by have := of_decide_eq_false g; omega
      have x2' : Tr v cv a b ((tm.set 12 (.int .i64 ((b - a : Nat) : Int))).set 25 (.bool (decide (((b - a : Nat) : Int) ≤ 12)))) := (x.set (by omega)).set (by omega)
      refine C.seq (C.seq fun K hK => ?_)
      simp only [↓opStep_eq, ↓reduceIte, ↓EW, EV, Nat.reduceAdd, Nat.reduceEqDiff, Int.reduceEq, Int.reduceLT, Int.reduceLE, Int.reduceNe, seqC, retC, skipC, exitC, blockC, condC, r39_5, x3]
      refine hK _ _ _ (C.cond (decide (lim = 0)) (by simp only [↓opStep_eq, ↓reduceIte, ↓EW, EV, Nat.reduceAdd, Nat.reduceEqDiff, Int.reduceEq, Int.reduceLT, Int.reduceLE, Int.reduceNe, seqC, retC, skipC, exitC, blockC, condC]) (fun g2 => C.seq fun K hK => ?_) fun g2 => C.skip ?_)
      · simp only [↓opStep_eq, ↓reduceIte, ↓EW, EV, Nat.reduceAdd, Nat.reduceEqDiff, Int.reduceEq, Int.reduceLT, Int.reduceLE, Int.reduceNe, seqC, retC, skipC, exitC, blockC, condC, r39_6, x0, x1, x2, x4]
        refine heap_law en.cm (m := M + 1 + d + 2) (a := a) (b := b) (en.cm.stay _ _ kp en.ok) arr1 (sv.sw.inj hb0 en.inj) (by omega) (by omega) en.hL (by omega) _ fun r h2 hq => ?_
        obtain ⟨f2, arr2, sw2, so2, k2⟩ := hq
        obtain ⟨w, so⟩ := (sv.move sw2).done so2
        exact hK _ _ _ (C.ret (fin f2 h2 _ arr2 w so (kp.trans k2 fun _ _ h => h)))
      · have rec_ : Rec L (M + 1 + d) B v cv N a0 b0 (b - a) lt Ok := fun a' b' z' f' h' h1 h2 h3 h4 A I O P => by
          have hp : 2 ^ (d + 1) = 2 * 2 ^ d := by rw [Nat.pow_succ]; omega
          have := ih (M := M) (a0 := a') (b0 := b') (N := N) (z := z') (v := v) (f0 := f') (h0 := h') ⟨en.cm, O, en.loc, I, by omega, hN, en.hL, en.hL5, P⟩ A h1 (by omega)
          rw [show M + 9 + d = M + 1 + d + 8 by omega] at this
          exact this
        refine pdq_tail0 (M := M + 1 + d) en arr1 sv kp g (x2'.set (by omega)) ?_ rec_ _ (fun a' b' f' h' tm' hlt A S K T => ⟨b' - a', hlt, a', b', f', rfl, A, S, K, T⟩) (fun f' h' tm' A S So K => fin f' h' tm' A S So K)
        simp only [↓opStep_eq, ↓reduceIte, ↓EW, EV, Nat.reduceAdd, Nat.reduceEqDiff, Int.reduceEq, Int.reduceLT, Int.reduceLE, Int.reduceNe, seqC, retC, skipC, exitC, blockC, condC]
end
end Go.Proofs.YtbdmhdidehfmoaaDoor
