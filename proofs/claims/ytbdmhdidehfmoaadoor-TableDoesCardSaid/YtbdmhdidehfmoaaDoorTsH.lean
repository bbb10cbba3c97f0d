import Derived.Test.YtbdmhdidehfmoaaDoorTsE
set_option linter.unusedSimpArgs false
set_option linter.unusedVariables false
namespace Go.Proofs.YtbdmhdidehfmoaaDoor
open Go.Ev

section
variable {L B : Nat} {cv : Value} {lt : Nm → Nm → Prop} {Ok : H → Prop}

theorem r53_3_go (cm : Cm L B cv lt Ok) {m a i j N : Nat} {v : Value} {f : Nat → Nm} {tm : T Value} {h : H} {K : KE} (ok : Ok h) (arr : Arr h B v N f) (ha : a < N) (hj : j < N) (t0 : tg tm 0 = v) (t1 : tg tm 1 = .int .i64 (a : Int)) (t4 : tg tm 4 = cv) (t12 : tg tm 12 = .int .i64 (i : Int)) (t13 : tg tm 13 = .int .i64 (j : Int)) (hK : ∀ d h', Keep nobody h h' → (d = true ↔ (i ≤ j ∧ lt (f i) (f a))) → K .norm (T.set tm 47 (.bool d)) [] h' = true) :
    r53_3 (CF L (m + 4)) L tm [] h K = true := by
  have kr := keep_room h 16
  have ar := arr.keep0 kr
  by_cases g : i ≤ j
  · have gI : (i : Int) ≤ (j : Int) := by omega
    simp only [↓opStep_eq, ↓reduceIte, ↓EW, EV, Nat.reduceAdd, Nat.reduceEqDiff, Int.reduceEq, Int.reduceLT, Int.reduceLE, Int.reduceNe, seqC, retC, skipC, exitC, blockC, condC, r53_3, ite2, t0, t1, t4, t12, t13, gI, ar.ix (show i < N by omega), ar.ix ha, ar.ld (show i < N by omega), ar.ld ha]
    refine cm.go (cm.stay0 kr ok) fun c h' hc k => ?_
    simp only [↓opStep_eq, ↓reduceIte, ↓EW, EV, Nat.reduceAdd, Nat.reduceEqDiff, Int.reduceEq, Int.reduceLT, Int.reduceLE, Int.reduceNe, seqC, retC, skipC, exitC, blockC, condC]
    refine hK _ _ (kr.then k) ?_
    rw [decide_eq_true_eq, hc]
    exact ⟨fun h => ⟨g, h⟩, fun h => h.2⟩
  · have gI : ¬ (i : Int) ≤ (j : Int) := by omega
    simp only [↓opStep_eq, ↓reduceIte, ↓EW, EV, Nat.reduceAdd, Nat.reduceEqDiff, Int.reduceEq, Int.reduceLT, Int.reduceLE, Int.reduceNe, seqC, retC, skipC, exitC, blockC, condC, r53_3, ite2, t12, t13, gI]
    exact hK false _ kr ⟨fun h => (by cases h), fun h => absurd h.1 g⟩

theorem r53_5_go (cm : Cm L B cv lt Ok) {m a i j N : Nat} {v : Value} {f : Nat → Nm} {tm : T Value} {h : H} {K : KE} (ok : Ok h) (arr : Arr h B v N f) (ha : a < N) (hj : j < N) (t0 : tg tm 0 = v) (t1 : tg tm 1 = .int .i64 (a : Int)) (t4 : tg tm 4 = cv) (t12 : tg tm 12 = .int .i64 (i : Int)) (t13 : tg tm 13 = .int .i64 (j : Int)) (hK : ∀ d h', Keep nobody h h' → (d = true ↔ (i ≤ j ∧ ¬ lt (f j) (f a))) → K .norm (T.set tm 66 (.bool d)) [] h' = true) :
    r53_5 (CF L (m + 4)) L tm [] h K = true := by
  have kr := keep_room h 17
  have ar := arr.keep0 kr
  by_cases g : i ≤ j
  · have gI : (i : Int) ≤ (j : Int) := by omega
    simp only [↓opStep_eq, ↓reduceIte, ↓EW, EV, Nat.reduceAdd, Nat.reduceEqDiff, Int.reduceEq, Int.reduceLT, Int.reduceLE, Int.reduceNe, seqC, retC, skipC, exitC, blockC, condC, r53_5, ite2, t0, t1, t4, t12, t13, gI, ar.ix hj, ar.ix ha, ar.ld hj, ar.ld ha]
    refine cm.go (cm.stay0 kr ok) fun c h' hc k => ?_
    simp only [↓opStep_eq, ↓reduceIte, ↓EW, EV, Nat.reduceAdd, Nat.reduceEqDiff, Int.reduceEq, Int.reduceLT, Int.reduceLE, Int.reduceNe, seqC, retC, skipC, exitC, blockC, condC]
    refine hK _ _ (kr.then k) ?_
    rw [Bool.not_eq_true', decide_eq_false_iff_not, hc]
    exact ⟨fun h => ⟨g, h⟩, fun h => h.2⟩
  · have gI : ¬ (i : Int) ≤ (j : Int) := by omega
    simp only [↓opStep_eq, ↓reduceIte, ↓EW, EV, Nat.reduceAdd, Nat.reduceEqDiff, Int.reduceEq, Int.reduceLT, Int.reduceLE, Int.reduceNe, seqC, retC, skipC, exitC, blockC, condC, r53_5, ite2, t12, t13, gI]
    exact hK false _ kr ⟨fun h => (by cases h), fun h => absurd h.1 g⟩

theorem r53_13_go (cm : Cm L B cv lt Ok) {m a i j N : Nat} {v : Value} {f : Nat → Nm} {tm : T Value} {h : H} {K : KE} (ok : Ok h) (arr : Arr h B v N f) (ha : a < N) (hj : j < N) (t0 : tg tm 0 = v) (t1 : tg tm 1 = .int .i64 (a : Int)) (t4 : tg tm 4 = cv) (t12 : tg tm 12 = .int .i64 (i : Int)) (t13 : tg tm 13 = .int .i64 (j : Int)) (hK : ∀ d h', Keep nobody h h' → (d = true ↔ (i ≤ j ∧ lt (f i) (f a))) → K .norm (T.set tm 120 (.bool d)) [] h' = true) :
    r53_13 (CF L (m + 4)) L tm [] h K = true := by
  have kr := keep_room h 16
  have ar := arr.keep0 kr
  by_cases g : i ≤ j
  · have gI : (i : Int) ≤ (j : Int) := by omega
    simp only [↓opStep_eq, ↓reduceIte, ↓EW, EV, Nat.reduceAdd, Nat.reduceEqDiff, Int.reduceEq, Int.reduceLT, Int.reduceLE, Int.reduceNe, seqC, retC, skipC, exitC, blockC, condC, r53_13, ite2, t0, t1, t4, t12, t13, gI, ar.ix (show i < N by omega), ar.ix ha, ar.ld (show i < N by omega), ar.ld ha]
    refine cm.go (cm.stay0 kr ok) fun c h' hc k => ?_
    simp only [↓opStep_eq, ↓reduceIte, ↓EW, EV, Nat.reduceAdd, Nat.reduceEqDiff, Int.reduceEq, Int.reduceLT, Int.reduceLE, Int.reduceNe, seqC, retC, skipC, exitC, blockC, condC]
    refine hK _ _ (kr.then k) ?_
    rw [decide_eq_true_eq, hc]
    exact ⟨fun h => ⟨g, h⟩, fun h => h.2⟩
  · have gI : ¬ (i : Int) ≤ (j : Int) := by omega
    simp only [↓opStep_eq, ↓reduceIte, ↓EW, EV, Nat.reduceAdd, Nat.reduceEqDiff, Int.reduceEq, Int.reduceLT, Int.reduceLE, Int.reduceNe, seqC, retC, skipC, exitC, blockC, condC, r53_13, ite2, t12, t13, gI]
    exact hK false _ kr ⟨fun h => (by cases h), fun h => absurd h.1 g⟩

theorem r53_15_go (cm : Cm L B cv lt Ok) {m a i j N : Nat} {v : Value} {f : Nat → Nm} {tm : T Value} {h : H} {K : KE} (ok : Ok h) (arr : Arr h B v N f) (ha : a < N) (hj : j < N) (t0 : tg tm 0 = v) (t1 : tg tm 1 = .int .i64 (a : Int)) (t4 : tg tm 4 = cv) (t12 : tg tm 12 = .int .i64 (i : Int)) (t13 : tg tm 13 = .int .i64 (j : Int)) (hK : ∀ d h', Keep nobody h h' → (d = true ↔ (i ≤ j ∧ ¬ lt (f j) (f a))) → K .norm (T.set tm 139 (.bool d)) [] h' = true) :
    r53_15 (CF L (m + 4)) L tm [] h K = true := by
  have kr := keep_room h 17
  have ar := arr.keep0 kr
  by_cases g : i ≤ j
  · have gI : (i : Int) ≤ (j : Int) := by omega
    simp only [↓opStep_eq, ↓reduceIte, ↓EW, EV, Nat.reduceAdd, Nat.reduceEqDiff, Int.reduceEq, Int.reduceLT, Int.reduceLE, Int.reduceNe, seqC, retC, skipC, exitC, blockC, condC, r53_15, ite2, t0, t1, t4, t12, t13, gI, ar.ix hj, ar.ix ha, ar.ld hj, ar.ld ha]
    refine cm.go (cm.stay0 kr ok) fun c h' hc k => ?_
    simp only [↓opStep_eq, ↓reduceIte, ↓EW, EV, Nat.reduceAdd, Nat.reduceEqDiff, Int.reduceEq, Int.reduceLT, Int.reduceLE, Int.reduceNe, seqC, retC, skipC, exitC, blockC, condC]
    refine hK _ _ (kr.then k) ?_
    rw [Bool.not_eq_true', decide_eq_false_iff_not, hc]
    exact ⟨fun h => ⟨g, h⟩, fun h => h.2⟩
  · have gI : ¬ (i : Int) ≤ (j : Int) := by omega
    simp only [↓opStep_eq, ↓reduceIte, ↓EW, EV, Nat.reduceAdd, Nat.reduceEqDiff, Int.reduceEq, Int.reduceLT, Int.reduceLE, Int.reduceNe, seqC, retC, skipC, exitC, blockC, condC, r53_15, ite2, t12, t13, gI]
    exact hK false _ kr ⟨fun h => (by cases h), fun h => absurd h.1 g⟩

/-- both ends of a partition -/
structure Ps (lt : Nm → Nm → Prop) (f : Nat → Nm) (a b i j : Nat) : Prop where
  lo : ∀ k, a < k → k < i → lt (f k) (f a)
  hi : ∀ k, j < k → k < b → lt (f a) (f k)
  ai : a < i
  ij : i ≤ j + 1
  jb : j < b
def Tp (v cv : Value) (a b : Nat) (tm : T Value) : Prop := tg tm 0 = v ∧ tg tm 1 = .int .i64 (a : Int) ∧ tg tm 2 = .int .i64 (b : Int) ∧ tg tm 4 = cv
theorem Tp.set {v cv : Value} {a b : Nat} {tm : T Value} (x : Tp v cv a b tm) {j : Nat} {w : Value} (hj : j ≠ 0 ∧ j ≠ 1 ∧ j ≠ 2 ∧ j ≠ 4) : Tp v cv a b (T.set tm j w) := by
  obtain ⟨x0, x1, x2, x4⟩ := x
  refine ⟨?_, ?_, ?_, ?_⟩
  · rw [tg_set, if_neg hj.1]; exact x0
  · rw [tg_set, if_neg hj.2.1]; exact x1
  · rw [tg_set, if_neg hj.2.2.1]; exact x2
  · rw [tg_set, if_neg hj.2.2.2]; exact x4

theorem up_3 (cm : Cm L B cv lt Ok) {m a b i j N : Nat} {v : Value} {f : Nat → Nm} {tm : T Value} {h : H} (ok : Ok h) (arr : Arr h B v N f) (hb : b ≤ N) (hN : N < 60000) (hL : N < L) (ps : Ps lt f a b i j) (x : Tp v cv a b tm) (t12 : tg tm 12 = .int .i64 (i : Int)) (t13 : tg tm 13 = .int .i64 (j : Int)) (Q : Ex → T Value → H → Prop)
    (hQ : ∀ i' h' tm', i ≤ i' → Keep nobody h h' → Ps lt f a b i' j → (j < i' ∨ ¬ lt (f i') (f a)) → Tp v cv a b tm' → tg tm' 12 = .int .i64 (i' : Int) → tg tm' 13 = .int .i64 (j : Int) → Q .norm tm' h') :
    C ⟨blockC 0 (loopB l53_5)⟩ (CF L (m + 4)) L tm h Q := by
  have jb := ps.jb
  have ai := ps.ai
  refine C.block (C.loop (fun k tm' hx => ∃ z, k = j + 1 - z ∧ i ≤ z ∧ Keep nobody h hx ∧ Ps lt f a b z j ∧ Tp v cv a b tm' ∧ tg tm' 12 = .int .i64 (z : Int) ∧ tg tm' 13 = .int .i64 (j : Int)) (j + 1 - i) (by omega)
    ⟨i, rfl, Nat.le_refl _, .refl _ _, ps, x, t12, t13⟩ ?_)
  clear ps x t12 t13 ai
  generalize i = i0 at *
  rintro k tm hx ⟨i, rfl, i0i, kx, ps, x, t12, t13⟩
  have ai := ps.ai
  have ij := ps.ij
  unfold l53_5
  refine C.seq (C.seq fun K hK => ?_)
  refine r53_3_go cm (cm.stay0 kx ok) (arr.keep0 kx) (by omega) (by omega) x.1 x.2.1 x.2.2.2 t12 t13 fun d h3 k3 hd => ?_
  refine hK _ _ _ (C.cond d (by simp only [↓opStep_eq, ↓reduceIte, ↓EW, EV, Nat.reduceAdd, Nat.reduceEqDiff, Int.reduceEq, Int.reduceLT, Int.reduceLE, Int.reduceNe, seqC, retC, skipC, exitC, blockC, condC]) (fun g => C.skip ?_) fun g => C.exit ?_)
  · obtain ⟨g1, g2⟩ := hd.1 g
    refine C.block fun K hK => ?_
    have w := wadd1 i (by omega)
    simp only [↓opStep_eq, ↓reduceIte, ↓EW, EV, Nat.reduceAdd, Nat.reduceEqDiff, Int.reduceEq, Int.reduceLT, Int.reduceLE, Int.reduceNe, seqC, retC, skipC, exitC, blockC, condC, r53_4, t12, w]
    exact hK _ _ _ ⟨j + 1 - (i + 1), by omega, i + 1, rfl, by omega, kx.then k3, ⟨fun k h1 h2 => by
      by_cases e : k = i
      · subst e; exact g2
      · exact ps.lo k h1 (by omega), ps.hi, by omega, by omega, ps.jb⟩, (x.set (by omega)).set (by omega), by simp only [↓opStep_eq, ↓reduceIte, ↓EW, EV, Nat.reduceAdd, Nat.reduceEqDiff, Int.reduceEq, Int.reduceLT, Int.reduceLE, Int.reduceNe, seqC, retC, skipC, exitC, blockC, condC], by simp only [↓opStep_eq, ↓reduceIte, ↓EW, EV, Nat.reduceAdd, Nat.reduceEqDiff, Int.reduceEq, Int.reduceLT, Int.reduceLE, Int.reduceNe, seqC, retC, skipC, exitC, blockC, condC, t13]⟩
  · simp only [if_pos]
    refine hQ i h3 _ i0i (kx.then k3) ps ?_ (x.set (by omega)) (by simp only [↓opStep_eq, ↓reduceIte, ↓EW, EV, Nat.reduceAdd, Nat.reduceEqDiff, Int.reduceEq, Int.reduceLT, Int.reduceLE, Int.reduceNe, seqC, retC, skipC, exitC, blockC, condC, t12]) (by simp only [↓opStep_eq, ↓reduceIte, ↓EW, EV, Nat.reduceAdd, Nat.reduceEqDiff, Int.reduceEq, Int.reduceLT, Int.reduceLE, Int.reduceNe, seqC, retC, skipC, exitC, blockC, condC, t13])
    by_cases e : j < i
    · exact .inl e
    · refine .inr fun h => ?_
      have := hd.2 ⟨by omega, h⟩
      rw [g] at this; cases this

theorem down_5 (cm : Cm L B cv lt Ok) {m a b i j N : Nat} {v : Value} {f : Nat → Nm} {tm : T Value} {h : H} (ok : Ok h) (arr : Arr h B v N f) (inj : Inj f N) (hb : b ≤ N) (hN : N < 60000) (hL : N < L) (ps : Ps lt f a b i j) (hi : j < i ∨ ¬ lt (f i) (f a)) (x : Tp v cv a b tm) (t12 : tg tm 12 = .int .i64 (i : Int)) (t13 : tg tm 13 = .int .i64 (j : Int)) (Q : Ex → T Value → H → Prop)
    (hQ : ∀ j' h' tm', j' ≤ j → Keep nobody h h' → Ps lt f a b i j' → (j' < i ∨ (¬ lt (f i) (f a) ∧ lt (f j') (f a))) → Tp v cv a b tm' → tg tm' 12 = .int .i64 (i : Int) → tg tm' 13 = .int .i64 (j' : Int) → Q .norm tm' h') :
    C ⟨blockC 2 (loopB l53_8)⟩ (CF L (m + 4)) L tm h Q := by
  have jb := ps.jb
  have ai := ps.ai
  refine C.block (C.loop (fun k tm' hx => ∃ z, k = z + 1 - i ∧ z ≤ j ∧ Keep nobody h hx ∧ Ps lt f a b i z ∧ (z < i ∨ ¬ lt (f i) (f a)) ∧ Tp v cv a b tm' ∧ tg tm' 12 = .int .i64 (i : Int) ∧ tg tm' 13 = .int .i64 (z : Int)) (j + 1 - i) (by omega)
    ⟨j, rfl, Nat.le_refl _, .refl _ _, ps, hi, x, t12, t13⟩ ?_)
  clear ps x t12 t13 jb hi
  generalize j = j0 at *
  rintro k tm hx ⟨j, rfl, j0j, kx, ps, hi, x, t12, t13⟩
  have jb := ps.jb
  have ij := ps.ij
  unfold l53_8
  refine C.seq (C.seq fun K hK => ?_)
  refine r53_5_go cm (cm.stay0 kx ok) (arr.keep0 kx) (by omega) (by omega) x.1 x.2.1 x.2.2.2 t12 t13 fun d h3 k3 hd => ?_
  refine hK _ _ _ (C.cond d (by simp only [↓opStep_eq, ↓reduceIte, ↓EW, EV, Nat.reduceAdd, Nat.reduceEqDiff, Int.reduceEq, Int.reduceLT, Int.reduceLE, Int.reduceNe, seqC, retC, skipC, exitC, blockC, condC]) (fun g => C.skip ?_) fun g => C.exit ?_)
  · obtain ⟨g1, g2⟩ := hd.1 g
    refine C.block fun K hK => ?_
    have w := wsub1 j (by omega) (by omega)
    simp only [↓opStep_eq, ↓reduceIte, ↓EW, EV, Nat.reduceAdd, Nat.reduceEqDiff, Int.reduceEq, Int.reduceLT, Int.reduceLE, Int.reduceNe, seqC, retC, skipC, exitC, blockC, condC, r53_6, t13, w]
    refine hK _ _ _ ⟨j - 1 + 1 - i, by omega, j - 1, rfl, by omega, kx.then k3, ⟨ps.lo, fun k h1 h2 => ?_, ps.ai, by omega, by omega⟩, ?_, (x.set (by omega)).set (by omega), by simp only [↓opStep_eq, ↓reduceIte, ↓EW, EV, Nat.reduceAdd, Nat.reduceEqDiff, Int.reduceEq, Int.reduceLT, Int.reduceLE, Int.reduceNe, seqC, retC, skipC, exitC, blockC, condC, t12], by simp only [↓opStep_eq, ↓reduceIte, ↓EW, EV, Nat.reduceAdd, Nat.reduceEqDiff, Int.reduceEq, Int.reduceLT, Int.reduceLE, Int.reduceNe, seqC, retC, skipC, exitC, blockC, condC]⟩
    · by_cases e : k = j
      · subst e
        refine cm.nlt g2 fun e => ?_
        have := inj _ _ (by omega) (by omega) e; omega
      · exact ps.hi k (by omega) h2
    · rcases hi with hi | hi
      · omega
      · exact .inr hi
  · simp only [if_pos]
    refine hQ j h3 _ j0j (kx.then k3) ps ?_ (x.set (by omega)) (by simp only [↓opStep_eq, ↓reduceIte, ↓EW, EV, Nat.reduceAdd, Nat.reduceEqDiff, Int.reduceEq, Int.reduceLT, Int.reduceLE, Int.reduceNe, seqC, retC, skipC, exitC, blockC, condC, t12]) (by simp only [↓opStep_eq, ↓reduceIte, ↓EW, EV, Nat.reduceAdd, Nat.reduceEqDiff, Int.reduceEq, Int.reduceLT, Int.reduceLE, Int.reduceNe, seqC, retC, skipC, exitC, blockC, condC, t13])
    by_cases e : j < i
    · exact .inl e
    · refine .inr ⟨hi.resolve_left e, ?_⟩
      by_cases hl : lt (f j) (f a)
      · exact hl
      · have := hd.2 ⟨by omega, hl⟩
        rw [g] at this; cases this

theorem up_13 (cm : Cm L B cv lt Ok) {m a b i j N : Nat} {v : Value} {f : Nat → Nm} {tm : T Value} {h : H} (ok : Ok h) (arr : Arr h B v N f) (hb : b ≤ N) (hN : N < 60000) (hL : N < L) (ps : Ps lt f a b i j) (x : Tp v cv a b tm) (t12 : tg tm 12 = .int .i64 (i : Int)) (t13 : tg tm 13 = .int .i64 (j : Int)) (Q : Ex → T Value → H → Prop)
    (hQ : ∀ i' h' tm', i ≤ i' → Keep nobody h h' → Ps lt f a b i' j → (j < i' ∨ ¬ lt (f i') (f a)) → Tp v cv a b tm' → tg tm' 12 = .int .i64 (i' : Int) → tg tm' 13 = .int .i64 (j : Int) → Q .norm tm' h') :
    C ⟨blockC 6 (loopB l53_17)⟩ (CF L (m + 4)) L tm h Q := by
  have jb := ps.jb
  have ai := ps.ai
  refine C.block (C.loop (fun k tm' hx => ∃ z, k = j + 1 - z ∧ i ≤ z ∧ Keep nobody h hx ∧ Ps lt f a b z j ∧ Tp v cv a b tm' ∧ tg tm' 12 = .int .i64 (z : Int) ∧ tg tm' 13 = .int .i64 (j : Int)) (j + 1 - i) (by omega)
    ⟨i, rfl, Nat.le_refl _, .refl _ _, ps, x, t12, t13⟩ ?_)
  clear ps x t12 t13 ai
  generalize i = i0 at *
  rintro k tm hx ⟨i, rfl, i0i, kx, ps, x, t12, t13⟩
  have ai := ps.ai
  have ij := ps.ij
  unfold l53_17
  refine C.seq (C.seq fun K hK => ?_)
  refine r53_13_go cm (cm.stay0 kx ok) (arr.keep0 kx) (by omega) (by omega) x.1 x.2.1 x.2.2.2 t12 t13 fun d h3 k3 hd => ?_
  refine hK _ _ _ (C.cond d (by simp only [↓opStep_eq, ↓reduceIte, ↓EW, EV, Nat.reduceAdd, Nat.reduceEqDiff, Int.reduceEq, Int.reduceLT, Int.reduceLE, Int.reduceNe, seqC, retC, skipC, exitC, blockC, condC]) (fun g => C.skip ?_) fun g => C.exit ?_)
  · obtain ⟨g1, g2⟩ := hd.1 g
    refine C.block fun K hK => ?_
    have w := wadd1 i (by omega)
    simp only [↓opStep_eq, ↓reduceIte, ↓EW, EV, Nat.reduceAdd, Nat.reduceEqDiff, Int.reduceEq, Int.reduceLT, Int.reduceLE, Int.reduceNe, seqC, retC, skipC, exitC, blockC, condC, r53_14, t12, w]
    exact hK _ _ _ ⟨j + 1 - (i + 1), by omega, i + 1, rfl, by omega, kx.then k3, ⟨fun k h1 h2 => by
      by_cases e : k = i
      · subst e; exact g2
      · exact ps.lo k h1 (by omega), ps.hi, by omega, by omega, ps.jb⟩, (x.set (by omega)).set (by omega), by simp only [↓opStep_eq, ↓reduceIte, ↓EW, EV, Nat.reduceAdd, Nat.reduceEqDiff, Int.reduceEq, Int.reduceLT, Int.reduceLE, Int.reduceNe, seqC, retC, skipC, exitC, blockC, condC], by simp only [↓opStep_eq, ↓reduceIte, ↓EW, EV, Nat.reduceAdd, Nat.reduceEqDiff, Int.reduceEq, Int.reduceLT, Int.reduceLE, Int.reduceNe, seqC, retC, skipC, exitC, blockC, condC, t13]⟩
  · simp only [if_pos]
    refine hQ i h3 _ i0i (kx.then k3) ps ?_ (x.set (by omega)) (by simp only [↓opStep_eq, ↓reduceIte, ↓EW, EV, Nat.reduceAdd, Nat.reduceEqDiff, Int.reduceEq, Int.reduceLT, Int.reduceLE, Int.reduceNe, seqC, retC, skipC, exitC, blockC, condC, t12]) (by simp only [↓opStep_eq, ↓reduceIte, ↓EW, EV, Nat.reduceAdd, Nat.reduceEqDiff, Int.reduceEq, Int.reduceLT, Int.reduceLE, Int.reduceNe, seqC, retC, skipC, exitC, blockC, condC, t13])
    by_cases e : j < i
    · exact .inl e
    · refine .inr fun h => ?_
      have := hd.2 ⟨by omega, h⟩
      rw [g] at this; cases this

theorem down_15 (cm : Cm L B cv lt Ok) {m a b i j N : Nat} {v : Value} {f : Nat → Nm} {tm : T Value} {h : H} (ok : Ok h) (arr : Arr h B v N f) (inj : Inj f N) (hb : b ≤ N) (hN : N < 60000) (hL : N < L) (ps : Ps lt f a b i j) (hi : j < i ∨ ¬ lt (f i) (f a)) (x : Tp v cv a b tm) (t12 : tg tm 12 = .int .i64 (i : Int)) (t13 : tg tm 13 = .int .i64 (j : Int)) (Q : Ex → T Value → H → Prop)
    (hQ : ∀ j' h' tm', j' ≤ j → Keep nobody h h' → Ps lt f a b i j' → (j' < i ∨ (¬ lt (f i) (f a) ∧ lt (f j') (f a))) → Tp v cv a b tm' → tg tm' 12 = .int .i64 (i : Int) → tg tm' 13 = .int .i64 (j' : Int) → Q .norm tm' h') :
    C ⟨blockC 8 (loopB l53_20)⟩ (CF L (m + 4)) L tm h Q := by
  have jb := ps.jb
  have ai := ps.ai
  refine C.block (C.loop (fun k tm' hx => ∃ z, k = z + 1 - i ∧ z ≤ j ∧ Keep nobody h hx ∧ Ps lt f a b i z ∧ (z < i ∨ ¬ lt (f i) (f a)) ∧ Tp v cv a b tm' ∧ tg tm' 12 = .int .i64 (i : Int) ∧ tg tm' 13 = .int .i64 (z : Int)) (j + 1 - i) (by omega)
    ⟨j, rfl, Nat.le_refl _, .refl _ _, ps, hi, x, t12, t13⟩ ?_)
  clear ps x t12 t13 jb hi
  generalize j = j0 at *
  rintro k tm hx ⟨j, rfl, j0j, kx, ps, hi, x, t12, t13⟩
  have jb := ps.jb
  have ij := ps.ij
  unfold l53_20
  refine C.seq (C.seq fun K hK => ?_)
  refine r53_15_go cm (cm.stay0 kx ok) (arr.keep0 kx) (by omega) (by omega) x.1 x.2.1 x.2.2.2 t12 t13 fun d h3 k3 hd => ?_
  refine hK _ _ _ (C.cond d (by simp only [↓opStep_eq, ↓reduceIte, ↓EW, EV, Nat.reduceAdd, Nat.reduceEqDiff, Int.reduceEq, Int.reduceLT, Int.reduceLE, Int.reduceNe, seqC, retC, skipC, exitC, blockC, condC]) (fun g => C.skip ?_) fun g => C.exit ?_)
  · obtain ⟨g1, g2⟩ := hd.1 g
    refine C.block fun K hK => ?_
    have w := wsub1 j (by omega) (by omega)
    simp only [↓opStep_eq, ↓reduceIte, ↓EW, EV, Nat.reduceAdd, Nat.reduceEqDiff, Int.reduceEq, Int.reduceLT, Int.reduceLE, Int.reduceNe, seqC, retC, skipC, exitC, blockC, condC, r53_16, t13, w]
    refine hK _ _ _ ⟨j - 1 + 1 - i, by omega, j - 1, rfl, by omega, kx.then k3, ⟨ps.lo, fun k h1 h2 => ?_, ps.ai, by omega, by omega⟩, ?_, (x.set (by omega)).set (by omega), by simp only [↓opStep_eq, ↓reduceIte, ↓EW, EV, Nat.reduceAdd, Nat.reduceEqDiff, Int.reduceEq, Int.reduceLT, Int.reduceLE, Int.reduceNe, seqC, retC, skipC, exitC, blockC, condC, t12], by simp only [↓opStep_eq, ↓reduceIte, ↓EW, EV, Nat.reduceAdd, Nat.reduceEqDiff, Int.reduceEq, Int.reduceLT, Int.reduceLE, Int.reduceNe, seqC, retC, skipC, exitC, blockC, condC]⟩
    · by_cases e : k = j
      · subst e
        refine cm.nlt g2 fun e => ?_
        have := inj _ _ (by omega) (by omega) e; omega
      · exact ps.hi k (by omega) h2
    · rcases hi with hi | hi
      · omega
      · exact .inr hi
  · simp only [if_pos]
    refine hQ j h3 _ j0j (kx.then k3) ps ?_ (x.set (by omega)) (by simp only [↓opStep_eq, ↓reduceIte, ↓EW, EV, Nat.reduceAdd, Nat.reduceEqDiff, Int.reduceEq, Int.reduceLT, Int.reduceLE, Int.reduceNe, seqC, retC, skipC, exitC, blockC, condC, t12]) (by simp only [↓opStep_eq, ↓reduceIte, ↓EW, EV, Nat.reduceAdd, Nat.reduceEqDiff, Int.reduceEq, Int.reduceLT, Int.reduceLE, Int.reduceNe, seqC, retC, skipC, exitC, blockC, condC, t13])
    by_cases e : j < i
    · exact .inl e
    · refine .inr ⟨hi.resolve_left e, ?_⟩
      by_cases hl : lt (f j) (f a)
      · exact hl
      · have := hd.2 ⟨by omega, hl⟩
        rw [g] at this; cases this

/-- the end: the pivot goes to its place -/
theorem part_end (cm : Cm L B cv lt Ok) {a b i j N : Nat} {f : Nat → Nm} (ps : Ps lt f a b i j) (h : j < i) : a ≤ j ∧ j < b ∧ (∀ k, a ≤ k → k < j → lt (swF f j a k) (swF f j a j)) ∧ (∀ k, j < k → k < b → lt (swF f j a j) (swF f j a k)) := by
  have ai := ps.ai
  have ij := ps.ij
  refine ⟨by omega, ps.jb, fun k h1 h2 => ?_, fun k h1 h2 => ?_⟩
  · rw [swF_at]
    by_cases e : k = a
    · subst e; rw [swF_at']; exact ps.lo j h2 h
    · rw [swF_ne (by omega) e]; exact ps.lo k (by omega) (by omega)
  · rw [swF_at, swF_ne (by omega) (by omega)]; exact ps.hi k h1 h2

theorem partition_law (cm : Cm L B cv lt Ok) {m a b p N : Nat} {v : Value} {f : Nat → Nm} {h : H} (ok : Ok h) (arr : Arr h B v N f) (inj : Inj f N) (hb : b ≤ N) (hN : N < 60000) (hL : N < L) (hab : a + 1 < b) (hp : a ≤ p) (hp2 : p < b) :
    Sp (CF L (m + 5)) 53 [v, .int .i64 (a : Int), .int .i64 (b : Int), .int .i64 (p : Int), cv] h fun r h' => ∃ (f' : Nat → Nm) (j : Nat) (d : Bool), r = .tuple [.int .i64 (j : Int), .bool d].toArray ∧ Arr h' B v N f' ∧ Sw a b f f' ∧ a ≤ j ∧ j < b ∧ (∀ k, a ≤ k → k < j → lt (f' k) (f' j)) ∧ (∀ k, j < k → k < b → lt (f' j) (f' k)) ∧ Keep (· = B) h h' := by
  refine Sp.body f53 (by simp) ?_
  unfold c53
  refine C.seq fun K hK => hK .norm _ _ (C.seq fun K hK => ?_)
  have kr := keep_room h 16
  have ar4 := arr.keep0 kr
  obtain ⟨h5, h6, s1, s2, ar6, k6⟩ := ar4.swap (p := p) (q := a) (by omega) (by omega)
  simp only [↓opStep_eq, ↓reduceIte, ↓EW, EV, Nat.reduceAdd, Nat.reduceEqDiff, Int.reduceEq, Int.reduceLT, Int.reduceLE, Int.reduceNe, seqC, retC, skipC, exitC, blockC, condC, r53_1, ar4.ix (show p < N by omega), ar4.ix (show a < N by omega), ar4.ld (show p < N by omega), ar4.ld (show a < N by omega), s1, s2]
  have k06 : Keep (· = B) h h6 := (kr.mono fun _ _ h => h.elim).trans k6 fun _ _ h => h
  have sw0 : Sw a b f (swF f a p) := Sw.one f (by omega) (by omega) hp hp2
  generalize swF f a p = f1 at *
  have w1 := wadd1 a (by omega)
  have w2 := wsub1 b (by omega) (by omega)
  refine hK _ _ _ (C.seq fun K hK => ?_)
  simp only [↓opStep_eq, ↓reduceIte, ↓EW, EV, Nat.reduceAdd, Nat.reduceEqDiff, Int.reduceEq, Int.reduceLT, Int.reduceLE, Int.reduceNe, seqC, retC, skipC, exitC, blockC, condC, r53_2, w1, w2]
  refine hK _ _ _ (C.seq ?_)
  have inj1 := sw0.inj hb inj
  have ok6 := cm.stay _ _ k06 ok
  refine up_3 cm (a := a) (b := b) (i := a + 1) (j := b - 1) ok6 ar6 hb hN hL ⟨fun k h1 h2 => by omega, fun k h1 h2 => by omega, by omega, by omega, by omega⟩ ⟨by simp only [↓opStep_eq, ↓reduceIte, ↓EW, EV, Nat.reduceAdd, Nat.reduceEqDiff, Int.reduceEq, Int.reduceLT, Int.reduceLE, Int.reduceNe, seqC, retC, skipC, exitC, blockC, condC], by simp only [↓opStep_eq, ↓reduceIte, ↓EW, EV, Nat.reduceAdd, Nat.reduceEqDiff, Int.reduceEq, Int.reduceLT, Int.reduceLE, Int.reduceNe, seqC, retC, skipC, exitC, blockC, condC], by simp only [↓opStep_eq, ↓reduceIte, ↓EW, EV, Nat.reduceAdd, Nat.reduceEqDiff, Int.reduceEq, Int.reduceLT, Int.reduceLE, Int.reduceNe, seqC, retC, skipC, exitC, blockC, condC], by simp only [↓opStep_eq, ↓reduceIte, ↓EW, EV, Nat.reduceAdd, Nat.reduceEqDiff, Int.reduceEq, Int.reduceLT, Int.reduceLE, Int.reduceNe, seqC, retC, skipC, exitC, blockC, condC]⟩ (by simp only [↓opStep_eq, ↓reduceIte, ↓EW, EV, Nat.reduceAdd, Nat.reduceEqDiff, Int.reduceEq, Int.reduceLT, Int.reduceLE, Int.reduceNe, seqC, retC, skipC, exitC, blockC, condC]) (by simp only [↓opStep_eq, ↓reduceIte, ↓EW, EV, Nat.reduceAdd, Nat.reduceEqDiff, Int.reduceEq, Int.reduceLT, Int.reduceLE, Int.reduceNe, seqC, retC, skipC, exitC, blockC, condC]) _ fun i1 h7 tm7 _ k7 ps7 e7 x7 u12 u13 => ?_
  refine C.seq ?_
  have ar7 := ar6.keep0 k7
  have k07 := k06.then k7
  refine down_5 cm (cm.stay0 k7 ok6) ar7 inj1 hb hN hL ps7 e7 x7 u12 u13 _ fun j1 h8 tm8 _ k8 ps8 e8 x8 u12 u13 => ?_
  have ar8 := ar7.keep0 k8
  have k08 := k07.then k8
  have ok8 := cm.stay _ _ k08 ok
  refine C.seq (C.seq fun K hK => ?_)
  simp only [↓opStep_eq, ↓reduceIte, ↓EW, EV, Nat.reduceAdd, Nat.reduceEqDiff, Int.reduceEq, Int.reduceLT, Int.reduceLE, Int.reduceNe, seqC, retC, skipC, exitC, blockC, condC, r53_7, u12, u13]
  have jb8 := ps8.jb
  have ai8 := ps8.ai
  have ij8 := ps8.ij
  refine hK _ _ _ (C.cond (decide ((j1 : Int) < (i1 : Int))) (by simp only [↓opStep_eq, ↓reduceIte, ↓EW, EV, Nat.reduceAdd, Nat.reduceEqDiff, Int.reduceEq, Int.reduceLT, Int.reduceLE, Int.reduceNe, seqC, retC, skipC, exitC, blockC, condC]) (fun g => ?_) fun g => C.skip ?_)
  · have g : j1 < i1 := by have := of_decide_eq_true g; omega
    obtain ⟨y0, y1, y2, y4⟩ := x8
    have kr := keep_room h8 16
    have ar9 := ar8.keep0 kr
    obtain ⟨h10, h11, s1, s2, ar11, k11⟩ := ar9.swap (p := a) (q := j1) (by omega) (by omega)
    refine C.seq fun K hK => ?_
    simp only [↓opStep_eq, ↓reduceIte, ↓EW, EV, Nat.reduceAdd, Nat.reduceEqDiff, Int.reduceEq, Int.reduceLT, Int.reduceLE, Int.reduceNe, seqC, retC, skipC, exitC, blockC, condC, r53_8, y0, y1, u13, ar9.ix (show a < N by omega), ar9.ix (show j1 < N by omega), ar9.ld (show a < N by omega), ar9.ld (show j1 < N by omega), s1, s2]
    refine hK _ _ _ (C.seq fun K hK => ?_)
    simp only [↓opStep_eq, ↓reduceIte, ↓EW, EV, Nat.reduceAdd, Nat.reduceEqDiff, Int.reduceEq, Int.reduceLT, Int.reduceLE, Int.reduceNe, seqC, retC, skipC, exitC, blockC, condC, r53_9, u13]
    obtain ⟨p1, p2, p3, p4⟩ := part_end (N := N) cm ps8 g
    exact hK _ _ _ (C.ret ⟨.inr rfl, _, rfl, _, j1, true, by simp only [↓opStep_eq, ↓reduceIte, ↓EW, EV, Nat.reduceAdd, Nat.reduceEqDiff, Int.reduceEq, Int.reduceLT, Int.reduceLE, Int.reduceNe, seqC, retC, skipC, exitC, blockC, condC, resOf], ar11, .step j1 a sw0 p1 p2 (by omega) (by omega), p1, p2, p3, p4, (k08.then kr).trans k11 fun _ _ h => h⟩)
  · have g : i1 ≤ j1 := by have := of_decide_eq_false g; omega
    have x8' := x8
    obtain ⟨y0, y1, y2, y4⟩ := x8
    -- a swap of both
    have both : ∀ (f2 : Nat → Nm) (i2 j2 : Nat), Ps lt f2 a b i2 j2 → i2 ≤ j2 → ¬ lt (f2 i2) (f2 a) → lt (f2 j2) (f2 a) → Inj f2 N → Ps lt (swF f2 i2 j2) a b (i2 + 1) (j2 - 1) ∧ i2 < j2 := fun f2 i2 j2 ps hij n1 n2 inj2 => by
      have ai := ps.ai
      have jb := ps.jb
      have hne : i2 ≠ j2 := fun e => by subst e; exact n1 n2
      refine ⟨⟨fun k h1 h2 => ?_, fun k h1 h2 => ?_, by omega, by omega, by omega⟩, by omega⟩
      · rw [swF_ne (k := a) (by omega) (by omega)]
        by_cases e : k = i2
        · subst e; rw [swF_at]; exact n2
        · rw [swF_ne e (by omega)]; exact ps.lo k h1 (by omega)
      · rw [swF_ne (k := a) (by omega) (by omega)]
        by_cases e : k = j2
        · subst e; rw [swF_at']
          refine cm.nlt n1 fun e => ?_
          have := inj2 _ _ (by omega) (by omega) e; omega
        · rw [swF_ne (by omega) e]; exact ps.hi k (by omega) h2
    obtain ⟨n1, n2⟩ := e8.resolve_left (by omega)
    obtain ⟨ps9, hlt9⟩ := both f1 i1 j1 ps8 g n1 n2 inj1
    refine C.seq fun K hK => ?_
    have kr := keep_room h8 16
    have ar9 := ar8.keep0 kr
    obtain ⟨h10, h11, s1, s2, ar11, k11⟩ := ar9.swap (p := j1) (q := i1) (by omega) (by omega)
    simp only [↓opStep_eq, ↓reduceIte, ↓EW, EV, Nat.reduceAdd, Nat.reduceEqDiff, Int.reduceEq, Int.reduceLT, Int.reduceLE, Int.reduceNe, seqC, retC, skipC, exitC, blockC, condC, r53_10, y0, u12, u13, ar9.ix (show i1 < N by omega), ar9.ix (show j1 < N by omega), ar9.ld (show i1 < N by omega), ar9.ld (show j1 < N by omega), s1, s2]
    have k11' : Keep (· = B) h h11 := (k08.then kr).trans k11 fun _ _ h => h
    have w3 := wadd1 i1 (by omega)
    have w4 := wsub1 j1 (by omega) (by omega)
    have sw1 : Sw a b f (swF f1 i1 j1) := .step i1 j1 sw0 (by omega) (by omega) (by omega) (by omega)
    refine hK _ _ _ (C.seq fun K hK => ?_)
    simp only [↓opStep_eq, ↓reduceIte, ↓EW, EV, Nat.reduceAdd, Nat.reduceEqDiff, Int.reduceEq, Int.reduceLT, Int.reduceLE, Int.reduceNe, seqC, retC, skipC, exitC, blockC, condC, r53_11, u12, w3]
    refine hK _ _ _ (C.seq fun K hK => ?_)
    simp only [↓opStep_eq, ↓reduceIte, ↓EW, EV, Nat.reduceAdd, Nat.reduceEqDiff, Int.reduceEq, Int.reduceLT, Int.reduceLE, Int.reduceNe, seqC, retC, skipC, exitC, blockC, condC, r53_12, u13, w4]
    refine hK _ _ _ (C.seq ?_)
    refine C.block (C.loop (fun k tm' hx => ∃ i j f', k = j + 1 - i ∧ Arr hx B v N f' ∧ Sw a b f f' ∧ Ps lt f' a b i j ∧ Tp v cv a b tm' ∧ tg tm' 12 = .int .i64 (i : Int) ∧ tg tm' 13 = .int .i64 (j : Int) ∧ Keep (· = B) h hx) (j1 - 1 + 1 - (i1 + 1)) (by omega)
      ⟨i1 + 1, j1 - 1, _, rfl, ar11, sw1, ps9, (x8'.set (by omega)).set (by omega) |>.set (by omega), by simp only [↓opStep_eq, ↓reduceIte, ↓EW, EV, Nat.reduceAdd, Nat.reduceEqDiff, Int.reduceEq, Int.reduceLT, Int.reduceLE, Int.reduceNe, seqC, retC, skipC, exitC, blockC, condC], by simp only [↓opStep_eq, ↓reduceIte, ↓EW, EV, Nat.reduceAdd, Nat.reduceEqDiff, Int.reduceEq, Int.reduceLT, Int.reduceLE, Int.reduceNe, seqC, retC, skipC, exitC, blockC, condC], k11'⟩ ?_)
    rintro k tm hx ⟨i2, j2, f2, rfl, ar12, sw2, ps12, x12, v12, v13, kx⟩
    have inj2 := sw2.inj hb inj
    have okx := cm.stay _ _ kx ok
    unfold l53_25
    refine C.block (C.seq ?_)
    refine up_13 cm okx ar12 hb hN hL ps12 x12 v12 v13 _ fun i3 h13 tm13 i23 k13 ps13 e13 x13 v12 v13 => ?_
    refine C.seq ?_
    have ar13 := ar12.keep0 k13
    refine down_15 cm (cm.stay0 k13 okx) ar13 inj2 hb hN hL ps13 e13 x13 v12 v13 _ fun j3 h14 tm14 j32 k14 ps14 e14 x14 v12 v13 => ?_
    have ar14 := ar13.keep0 k14
    have k014 := (kx.then k13).then k14
    have jb14 := ps14.jb
    have ai14 := ps14.ai
    have ij14 := ps14.ij
    refine C.seq (C.seq fun K hK => ?_)
    simp only [↓opStep_eq, ↓reduceIte, ↓EW, EV, Nat.reduceAdd, Nat.reduceEqDiff, Int.reduceEq, Int.reduceLT, Int.reduceLE, Int.reduceNe, seqC, retC, skipC, exitC, blockC, condC, r53_17, v12, v13]
    refine hK _ _ _ (C.cond (decide ((j3 : Int) < (i3 : Int))) (by simp only [↓opStep_eq, ↓reduceIte, ↓EW, EV, Nat.reduceAdd, Nat.reduceEqDiff, Int.reduceEq, Int.reduceLT, Int.reduceLE, Int.reduceNe, seqC, retC, skipC, exitC, blockC, condC]) (fun g => C.exit ?_) fun g => C.skip ?_)
    · have g : j3 < i3 := by have := of_decide_eq_true g; omega
      obtain ⟨y0, y1, y2, y4⟩ := x14
      simp only [Nat.reduceEqDiff, if_false, if_pos]
      refine C.seq fun K hK => ?_
      have kr := keep_room h14 16
      have ar15 := ar14.keep0 kr
      obtain ⟨h16, h17, s1, s2, ar17, k17⟩ := ar15.swap (p := a) (q := j3) (by omega) (by omega)
      simp only [↓opStep_eq, ↓reduceIte, ↓EW, EV, Nat.reduceAdd, Nat.reduceEqDiff, Int.reduceEq, Int.reduceLT, Int.reduceLE, Int.reduceNe, seqC, retC, skipC, exitC, blockC, condC, r53_21, y0, y1, v13, ar15.ix (show a < N by omega), ar15.ix (show j3 < N by omega), ar15.ld (show a < N by omega), ar15.ld (show j3 < N by omega), s1, s2]
      refine hK _ _ _ (C.seq fun K hK => ?_)
      simp only [↓opStep_eq, ↓reduceIte, ↓EW, EV, Nat.reduceAdd, Nat.reduceEqDiff, Int.reduceEq, Int.reduceLT, Int.reduceLE, Int.reduceNe, seqC, retC, skipC, exitC, blockC, condC, r53_22, v13]
      obtain ⟨p1, p2, p3, p4⟩ := part_end (N := N) cm ps14 g
      exact hK _ _ _ (C.ret ⟨.inr rfl, _, rfl, _, j3, false, by simp only [↓opStep_eq, ↓reduceIte, ↓EW, EV, Nat.reduceAdd, Nat.reduceEqDiff, Int.reduceEq, Int.reduceLT, Int.reduceLE, Int.reduceNe, seqC, retC, skipC, exitC, blockC, condC, resOf], ar17, .step j3 a sw2 p1 p2 (by omega) (by omega), p1, p2, p3, p4, (k014.then kr).trans k17 fun _ _ h => h⟩)
    · have g : i3 ≤ j3 := by have := of_decide_eq_false g; omega
      have x14' := x14
      obtain ⟨y0, y1, y2, y4⟩ := x14
      obtain ⟨n1, n2⟩ := e14.resolve_left (by omega)
      obtain ⟨ps15, hlt15⟩ := both f2 i3 j3 ps14 g n1 n2 inj2
      refine C.seq fun K hK => ?_
      have kr := keep_room h14 16
      have ar15 := ar14.keep0 kr
      obtain ⟨h16, h17, s1, s2, ar17, k17⟩ := ar15.swap (p := j3) (q := i3) (by omega) (by omega)
      simp only [↓opStep_eq, ↓reduceIte, ↓EW, EV, Nat.reduceAdd, Nat.reduceEqDiff, Int.reduceEq, Int.reduceLT, Int.reduceLE, Int.reduceNe, seqC, retC, skipC, exitC, blockC, condC, r53_18, y0, v12, v13, ar15.ix (show i3 < N by omega), ar15.ix (show j3 < N by omega), ar15.ld (show i3 < N by omega), ar15.ld (show j3 < N by omega), s1, s2]
      have w5 := wadd1 i3 (by omega)
      have w6 := wsub1 j3 (by omega) (by omega)
      refine hK _ _ _ (C.seq fun K hK => ?_)
      simp only [↓opStep_eq, ↓reduceIte, ↓EW, EV, Nat.reduceAdd, Nat.reduceEqDiff, Int.reduceEq, Int.reduceLT, Int.reduceLE, Int.reduceNe, seqC, retC, skipC, exitC, blockC, condC, r53_19, v12, w5]
      refine hK _ _ _ fun K hK => ?_
      simp only [↓opStep_eq, ↓reduceIte, ↓EW, EV, Nat.reduceAdd, Nat.reduceEqDiff, Int.reduceEq, Int.reduceLT, Int.reduceLE, Int.reduceNe, seqC, retC, skipC, exitC, blockC, condC, r53_20, v13, w6]
      exact hK _ _ _ ⟨j3 - 1 + 1 - (i3 + 1), by omega, i3 + 1, j3 - 1, _, rfl, ar17, .step i3 j3 sw2 (by omega) (by omega) (by omega) (by omega), ps15, (x14'.set (by omega)).set (by omega) |>.set (by omega), by simp only [↓opStep_eq, ↓reduceIte, ↓EW, EV, Nat.reduceAdd, Nat.reduceEqDiff, Int.reduceEq, Int.reduceLT, Int.reduceLE, Int.reduceNe, seqC, retC, skipC, exitC, blockC, condC], by simp only [↓opStep_eq, ↓reduceIte, ↓EW, EV, Nat.reduceAdd, Nat.reduceEqDiff, Int.reduceEq, Int.reduceLT, Int.reduceLE, Int.reduceNe, seqC, retC, skipC, exitC, blockC, condC], (k014.then kr).trans k17 fun _ _ h => h⟩
end
end Go.Proofs.YtbdmhdidehfmoaaDoor
