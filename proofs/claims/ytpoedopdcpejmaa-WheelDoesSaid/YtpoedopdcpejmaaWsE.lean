import Derived.Test.YtpoedopdcpejmaaWsC
set_option linter.unusedSimpArgs false
set_option linter.unusedVariables false
namespace Go.Proofs.Ytpoedopdcpejmaa
open Go.Ev

section
variable {L B : Nat} {cv : Value} {lt : Nm → Nm → Prop} {Ok : H → Prop}

def Rec (L M B : Nat) (v cv : Value) (N a0 b0 len : Nat) (lt : Nm → Nm → Prop) (Ok : H → Prop) : Prop :=
  ∀ a' b' (z : Int) (f' : Nat → Nm) h', a' ≤ b' → b' ≤ b0 → a0 ≤ a' → 2 * (b' - a') < len → Arr h' B v N f' → Inj f' N → Ok h' → (0 < a' → ∀ k, a' ≤ k → k < b' → lt (f' (a' - 1)) (f' k)) → Sp (CF L (M + 8)) 40 [v, .int .i64 (a' : Int), .int .i64 (b' : Int), .int .i64 z, cv] h' fun r h'' => ∃ f'', Arr h'' B v N f'' ∧ Sw a' b' f' f'' ∧ Sorted lt f'' a' b' ∧ Keep (· = B) h' h''

structure Env (L B : Nat) (v cv : Value) (N a0 b0 : Nat) (lt : Nm → Nm → Prop) (Ok : H → Prop) (f0 : Nat → Nm) (h0 : H) : Prop where
  cm : Cm L B cv lt Ok
  ok : Ok h0
  loc : ∀ h1, Ok h1 → ∀ cb, h1.next ≤ cb → ∀ h2 hx, Ok h2 → Keep (· = cb) h2 hx → Ok hx
  inj : Inj f0 N
  hb0 : b0 ≤ N
  hN : N < 60000
  hL : N < L
  hL5 : 10 < L
  pre : 0 < a0 → ∀ k, a0 ≤ k → k < b0 → lt (f0 (a0 - 1)) (f0 k)

theorem pdq_tail3 {M a0 b0 a b p N : Nat} {hint : Int} {v : Value} {f0 f : Nat → Nm} {h0 h : H} {tm : T Value} (en : Env L B v cv N a0 b0 lt Ok f0 h0) (arr : Arr h B v N f) (sv : Sv lt f0 a0 b0 a b f) (kp : Keep (· = B) h0 h) (hab : a + 12 < b) (hp : a ≤ p) (hp2 : p < b) (x : Tr v cv a b tm) (t12 : tg tm 12 = .int .i64 ((b - a : Nat) : Int)) (t13 : tg tm 13 = .int .i64 (p : Int)) (t14 : tg tm 14 = .int .i64 hint)
    (rec_ : Rec L M B v cv N a0 b0 (b - a) lt Ok)
    (Q : Ex → T Value → H → Prop)
    (hQ : ∀ a' b' f' h' tm', b' - a' < b - a → Arr h' B v N f' → Sv lt f0 a0 b0 a' b' f' → Keep (· = B) h0 h' → Tr v cv a' b' tm' → Q .norm tm' h')
    (hR : ∀ f' h' tm', Arr h' B v N f' → Sw a0 b0 f0 f' → Sorted lt f' a0 b0 → Keep (· = B) h0 h' → Q .ret tm' h') :
    C ⟨seqC ⟨seqC ⟨r40_15⟩ ⟨condC ⟨fun _ tm => tg tm 75⟩ ⟨seqC ⟨r40_16⟩ ⟨condC ⟨fun _ tm => tg tm 80⟩ retC skipC⟩⟩ skipC⟩⟩ ⟨seqC ⟨seqC ⟨r40_17⟩ ⟨condC ⟨fun _ tm => tg tm 97⟩ ⟨seqC ⟨r40_18⟩ ⟨seqC ⟨r40_19⟩ (exitC 1)⟩⟩ skipC⟩⟩ ⟨seqC ⟨r40_20⟩ ⟨seqC ⟨r40_21⟩ ⟨seqC ⟨r40_22⟩ ⟨seqC ⟨r40_23⟩ ⟨seqC ⟨r40_24⟩ ⟨condC ⟨fun _ tm => tg tm 125⟩ ⟨seqC ⟨r40_25⟩ ⟨seqC ⟨r40_26⟩ ⟨r40_27⟩⟩⟩ ⟨seqC ⟨r40_28⟩ ⟨seqC ⟨r40_29⟩ ⟨r40_30⟩⟩⟩⟩⟩⟩⟩⟩⟩⟩⟩ (CF L (M + 8)) L tm h Q := by
  have hbb := sv.bb
  have hb0 := en.hb0
  have x' := x
  obtain ⟨x0, x1, x2, x4, ⟨lim, x3⟩, ⟨wb, x10⟩, ⟨wp, x11⟩⟩ := x
  have r15 : ∀ K : KE, r40_15 (CF L (M + 8)) L tm [] h K = K .norm (T.set tm 75 (.bool (wb && (wp && decide (hint = 1))))) [] h := fun K => by
    cases wb
    · simp only [↓opStep_eq, ↓reduceIte, ↓EW, EV, Nat.reduceAdd, Nat.reduceEqDiff, Int.reduceEq, Int.reduceLT, Int.reduceLE, Int.reduceNe, seqC, retC, skipC, exitC, blockC, condC, Bool.true_or, Bool.false_or, Bool.or_true, Bool.or_false, Bool.true_and, Bool.false_and, Bool.and_true, Bool.and_false, r40_15, x10, x11, t14]
    · cases wp
      · simp only [↓opStep_eq, ↓reduceIte, ↓EW, EV, Nat.reduceAdd, Nat.reduceEqDiff, Int.reduceEq, Int.reduceLT, Int.reduceLE, Int.reduceNe, seqC, retC, skipC, exitC, blockC, condC, Bool.true_or, Bool.false_or, Bool.or_true, Bool.or_false, Bool.true_and, Bool.false_and, Bool.and_true, Bool.and_false, r40_15, x10, x11, t14]
      · simp only [↓opStep_eq, ↓reduceIte, ↓EW, EV, Nat.reduceAdd, Nat.reduceEqDiff, Int.reduceEq, Int.reduceLT, Int.reduceLE, Int.reduceNe, seqC, retC, skipC, exitC, blockC, condC, Bool.true_or, Bool.false_or, Bool.or_true, Bool.or_false, Bool.true_and, Bool.false_and, Bool.and_true, Bool.and_false, r40_15, x10, x11, t14]
  refine C.seq (C.seq fun K hK => ?_)
  rw [show ∀ x : CodeT, (⟨x⟩ : Box CodeT).f = x from fun _ => rfl]
  rw [r15]
  refine hK _ _ _ (C.cond (wb && (wp && decide (hint = 1))) (by simp only [↓opStep_eq, ↓reduceIte, ↓EW, EV, Nat.reduceAdd, Nat.reduceEqDiff, Int.reduceEq, Int.reduceLT, Int.reduceLE, Int.reduceNe, seqC, retC, skipC, exitC, blockC, condC]) (fun g => C.seq fun K hK => ?_) fun g => C.skip ?_)
  · simp only [↓opStep_eq, ↓reduceIte, ↓EW, EV, Nat.reduceAdd, Nat.reduceEqDiff, Int.reduceEq, Int.reduceLT, Int.reduceLE, Int.reduceNe, seqC, retC, skipC, exitC, blockC, condC, r40_16, x0, x1, x2, x4]
    refine partial_law en.cm (m := M + 3) (en.cm.stay _ _ kp en.ok) arr (sv.sw.inj hb0 en.inj) (by omega) en.hN en.hL en.hL5 (by omega) (sv.pre en.pre) _ fun r h2 hq => ?_
    obtain ⟨f2, d, rfl, arr2, sw2, so2, k2⟩ := hq
    have sv2 := sv.move sw2
    have kp2 : Keep (· = B) h0 h2 := kp.trans k2 fun _ _ h => h
    refine hK _ _ _ (C.cond d (by simp only [↓opStep_eq, ↓reduceIte, ↓EW, EV, Nat.reduceAdd, Nat.reduceEqDiff, Int.reduceEq, Int.reduceLT, Int.reduceLE, Int.reduceNe, seqC, retC, skipC, exitC, blockC, condC]) (fun gd1 => C.ret ?_) fun gd1 => C.skip ?_)
    · obtain ⟨w, so⟩ := sv2.done (so2 gd1)
      exact hR f2 h2 _ arr2 w so kp2
    · refine pdq_tail4 en.cm (l := .bool true) en.ok arr2 en.inj hb0 en.hN en.hL en.pre sv2 kp2 hab hp hp2 ((x'.set (by omega)).set (by omega)) ?_ ?_ rec_ Q hQ
      · simp only [↓opStep_eq, ↓reduceIte, ↓EW, EV, Nat.reduceAdd, Nat.reduceEqDiff, Int.reduceEq, Int.reduceLT, Int.reduceLE, Int.reduceNe, seqC, retC, skipC, exitC, blockC, condC, t12]
      · simp only [↓opStep_eq, ↓reduceIte, ↓EW, EV, Nat.reduceAdd, Nat.reduceEqDiff, Int.reduceEq, Int.reduceLT, Int.reduceLE, Int.reduceNe, seqC, retC, skipC, exitC, blockC, condC, t13]
  · refine pdq_tail4 en.cm (l := .bool true) en.ok arr en.inj hb0 en.hN en.hL en.pre sv kp hab hp hp2 (x'.set (by omega)) ?_ ?_ rec_ Q hQ
    · simp only [↓opStep_eq, ↓reduceIte, ↓EW, EV, Nat.reduceAdd, Nat.reduceEqDiff, Int.reduceEq, Int.reduceLT, Int.reduceLE, Int.reduceNe, seqC, retC, skipC, exitC, blockC, condC, t12]
    · simp only [↓opStep_eq, ↓reduceIte, ↓EW, EV, Nat.reduceAdd, Nat.reduceEqDiff, Int.reduceEq, Int.reduceLT, Int.reduceLE, Int.reduceNe, seqC, retC, skipC, exitC, blockC, condC, t13]

theorem pdq_tail2 {M a0 b0 a b p N : Nat} {hint : Int} {v : Value} {f0 f : Nat → Nm} {h0 h : H} {tm : T Value} (en : Env L B v cv N a0 b0 lt Ok f0 h0) (arr : Arr h B v N f) (sv : Sv lt f0 a0 b0 a b f) (kp : Keep (· = B) h0 h) (hab : a + 12 < b) (hp : a ≤ p) (hp2 : p < b) (x : Tr v cv a b tm) (t12 : tg tm 12 = .int .i64 ((b - a : Nat) : Int)) (t13 : tg tm 13 = .int .i64 (p : Int)) (t14 : tg tm 14 = .int .i64 hint)
    (rec_ : Rec L M B v cv N a0 b0 (b - a) lt Ok)
    (Q : Ex → T Value → H → Prop)
    (hQ : ∀ a' b' f' h' tm', b' - a' < b - a → Arr h' B v N f' → Sv lt f0 a0 b0 a' b' f' → Keep (· = B) h0 h' → Tr v cv a' b' tm' → Q .norm tm' h')
    (hR : ∀ f' h' tm', Arr h' B v N f' → Sw a0 b0 f0 f' → Sorted lt f' a0 b0 → Keep (· = B) h0 h' → Q .ret tm' h') :
    C ⟨seqC ⟨seqC ⟨r40_11⟩ ⟨condC ⟨fun _ tm => tg tm 56⟩ ⟨seqC ⟨r40_12⟩ ⟨seqC ⟨r40_13⟩ ⟨r40_14⟩⟩⟩ skipC⟩⟩ ⟨seqC ⟨seqC ⟨r40_15⟩ ⟨condC ⟨fun _ tm => tg tm 75⟩ ⟨seqC ⟨r40_16⟩ ⟨condC ⟨fun _ tm => tg tm 80⟩ retC skipC⟩⟩ skipC⟩⟩ ⟨seqC ⟨seqC ⟨r40_17⟩ ⟨condC ⟨fun _ tm => tg tm 97⟩ ⟨seqC ⟨r40_18⟩ ⟨seqC ⟨r40_19⟩ (exitC 1)⟩⟩ skipC⟩⟩ ⟨seqC ⟨r40_20⟩ ⟨seqC ⟨r40_21⟩ ⟨seqC ⟨r40_22⟩ ⟨seqC ⟨r40_23⟩ ⟨seqC ⟨r40_24⟩ ⟨condC ⟨fun _ tm => tg tm 125⟩ ⟨seqC ⟨r40_25⟩ ⟨seqC ⟨r40_26⟩ ⟨r40_27⟩⟩⟩ ⟨seqC ⟨r40_28⟩ ⟨seqC ⟨r40_29⟩ ⟨r40_30⟩⟩⟩⟩⟩⟩⟩⟩⟩⟩⟩⟩ (CF L (M + 8)) L tm h Q := by
  have hbb := sv.bb
  have hb0 := en.hb0
  have hN := en.hN
  have x' := x
  obtain ⟨x0, x1, x2, x4, ⟨lim, x3⟩, ⟨wb, x10⟩, ⟨wp, x11⟩⟩ := x
  refine C.seq (C.seq fun K hK => ?_)
  simp only [↓opStep_eq, ↓reduceIte, ↓EW, EV, Nat.reduceAdd, Nat.reduceEqDiff, Int.reduceEq, Int.reduceLT, Int.reduceLE, Int.reduceNe, seqC, retC, skipC, exitC, blockC, condC, r40_11, t14]
  refine hK _ _ _ (C.cond (decide (hint = 2)) (by simp only [↓opStep_eq, ↓reduceIte, ↓EW, EV, Nat.reduceAdd, Nat.reduceEqDiff, Int.reduceEq, Int.reduceLT, Int.reduceLE, Int.reduceNe, seqC, retC, skipC, exitC, blockC, condC]) (fun g => C.seq fun K hK => ?_) fun g => C.skip ?_)
  · simp only [↓opStep_eq, ↓reduceIte, ↓EW, EV, Nat.reduceAdd, Nat.reduceEqDiff, Int.reduceEq, Int.reduceLT, Int.reduceLE, Int.reduceNe, seqC, retC, skipC, exitC, blockC, condC, r40_12, x0, x1, x2, x4]
    refine reverse_law (M + 7) (cv := cv) arr (by omega) en.hN en.hL (by omega) _ fun r h2 hq => ?_
    obtain ⟨f2, arr2, sw2, k2⟩ := hq
    have sv2 := sv.move sw2
    have kp2 : Keep (· = B) h0 h2 := kp.trans k2 fun _ _ h => h
    have w1 := wsub1 b (by omega) (by omega)
    have w2 := wsub p a (by omega) (by omega)
    have w3 := wsub (b - 1) (p - a) (by omega) (by omega)
    refine hK _ _ _ (C.seq fun K hK => ?_)
    simp only [↓opStep_eq, ↓reduceIte, ↓EW, EV, Nat.reduceAdd, Nat.reduceEqDiff, Int.reduceEq, Int.reduceLT, Int.reduceLE, Int.reduceNe, seqC, retC, skipC, exitC, blockC, condC, r40_13, x1, x2, t13, w1, w2, w3]
    refine hK _ _ _ fun K hK => hK .norm _ _ ?_
    refine pdq_tail3 en (p := b - 1 - (p - a)) (hint := 1) arr2 sv2 kp2 hab (by omega) (by omega) (((x'.set (by omega)).set (by omega)).set (by omega)) ?_ ?_ ?_ rec_ Q hQ hR
    · simp only [↓opStep_eq, ↓reduceIte, ↓EW, EV, Nat.reduceAdd, Nat.reduceEqDiff, Int.reduceEq, Int.reduceLT, Int.reduceLE, Int.reduceNe, seqC, retC, skipC, exitC, blockC, condC, t12]
    · simp only [↓opStep_eq, ↓reduceIte, ↓EW, EV, Nat.reduceAdd, Nat.reduceEqDiff, Int.reduceEq, Int.reduceLT, Int.reduceLE, Int.reduceNe, seqC, retC, skipC, exitC, blockC, condC]
    · simp only [↓opStep_eq, ↓reduceIte, ↓EW, EV, Nat.reduceAdd, Nat.reduceEqDiff, Int.reduceEq, Int.reduceLT, Int.reduceLE, Int.reduceNe, seqC, retC, skipC, exitC, blockC, condC]
  · refine pdq_tail3 en (hint := hint) arr sv kp hab hp hp2 (x'.set (by omega)) ?_ ?_ ?_ rec_ Q hQ hR
    · simp only [↓opStep_eq, ↓reduceIte, ↓EW, EV, Nat.reduceAdd, Nat.reduceEqDiff, Int.reduceEq, Int.reduceLT, Int.reduceLE, Int.reduceNe, seqC, retC, skipC, exitC, blockC, condC, t12]
    · simp only [↓opStep_eq, ↓reduceIte, ↓EW, EV, Nat.reduceAdd, Nat.reduceEqDiff, Int.reduceEq, Int.reduceLT, Int.reduceLE, Int.reduceNe, seqC, retC, skipC, exitC, blockC, condC, t13]
    · simp only [↓opStep_eq, ↓reduceIte, ↓EW, EV, Nat.reduceAdd, Nat.reduceEqDiff, Int.reduceEq, Int.reduceLT, Int.reduceLE, Int.reduceNe, seqC, retC, skipC, exitC, blockC, condC, t14]

theorem pdq_tail1 {M a0 b0 a b N : Nat} {v : Value} {f0 f : Nat → Nm} {h0 h : H} {tm : T Value} (en : Env L B v cv N a0 b0 lt Ok f0 h0) (arr : Arr h B v N f) (sv : Sv lt f0 a0 b0 a b f) (kp : Keep (· = B) h0 h) (hab : a + 12 < b) (x : Tr v cv a b tm) (t12 : tg tm 12 = .int .i64 ((b - a : Nat) : Int))
    (rec_ : Rec L M B v cv N a0 b0 (b - a) lt Ok)
    (Q : Ex → T Value → H → Prop)
    (hQ : ∀ a' b' f' h' tm', b' - a' < b - a → Arr h' B v N f' → Sv lt f0 a0 b0 a' b' f' → Keep (· = B) h0 h' → Tr v cv a' b' tm' → Q .norm tm' h')
    (hR : ∀ f' h' tm', Arr h' B v N f' → Sw a0 b0 f0 f' → Sorted lt f' a0 b0 → Keep (· = B) h0 h' → Q .ret tm' h') :
    C ⟨seqC ⟨r40_10⟩ ⟨seqC ⟨seqC ⟨r40_11⟩ ⟨condC ⟨fun _ tm => tg tm 56⟩ ⟨seqC ⟨r40_12⟩ ⟨seqC ⟨r40_13⟩ ⟨r40_14⟩⟩⟩ skipC⟩⟩ ⟨seqC ⟨seqC ⟨r40_15⟩ ⟨condC ⟨fun _ tm => tg tm 75⟩ ⟨seqC ⟨r40_16⟩ ⟨condC ⟨fun _ tm => tg tm 80⟩ retC skipC⟩⟩ skipC⟩⟩ ⟨seqC ⟨seqC ⟨r40_17⟩ ⟨condC ⟨fun _ tm => tg tm 97⟩ ⟨seqC ⟨r40_18⟩ ⟨seqC ⟨r40_19⟩ (exitC 1)⟩⟩ skipC⟩⟩ ⟨seqC ⟨r40_20⟩ ⟨seqC ⟨r40_21⟩ ⟨seqC ⟨r40_22⟩ ⟨seqC ⟨r40_23⟩ ⟨seqC ⟨r40_24⟩ ⟨condC ⟨fun _ tm => tg tm 125⟩ ⟨seqC ⟨r40_25⟩ ⟨seqC ⟨r40_26⟩ ⟨r40_27⟩⟩⟩ ⟨seqC ⟨r40_28⟩ ⟨seqC ⟨r40_29⟩ ⟨r40_30⟩⟩⟩⟩⟩⟩⟩⟩⟩⟩⟩⟩⟩ (CF L (M + 8)) L tm h Q := by
  have hbb := sv.bb
  have hb0 := en.hb0
  obtain ⟨x0, x1, x2, x4, ⟨lim, x3⟩, ⟨wb, x10⟩, ⟨wp, x11⟩⟩ := id x
  refine C.seq fun K hK => ?_
  simp only [↓opStep_eq, ↓reduceIte, ↓EW, EV, Nat.reduceAdd, Nat.reduceEqDiff, Int.reduceEq, Int.reduceLT, Int.reduceLE, Int.reduceNe, seqC, retC, skipC, exitC, blockC, condC, r40_10, x0, x1, x2, x4]
  refine pivot_law en.cm (m := M) (en.cm.stay _ _ kp en.ok) (en.loc h (en.cm.stay _ _ kp en.ok)) arr (by omega) en.hN hab _ fun r h2 hq => ?_
  obtain ⟨p, hint, rfl, p1, p2, k2⟩ := hq
  simp only [↓opStep_eq, ↓reduceIte, ↓EW, EV, Nat.reduceAdd, Nat.reduceEqDiff, Int.reduceEq, Int.reduceLT, Int.reduceLE, Int.reduceNe, seqC, retC, skipC, exitC, blockC, condC, tupNth_tuple]
  refine hK _ _ _ (pdq_tail2 en (hint := hint) (arr.keep0 k2) sv (kp.then k2) hab p1 p2 ((x.set (by omega)).set (by omega)) ?_ ?_ ?_ rec_ Q hQ hR)
  · simp only [↓opStep_eq, ↓reduceIte, ↓EW, EV, Nat.reduceAdd, Nat.reduceEqDiff, Int.reduceEq, Int.reduceLT, Int.reduceLE, Int.reduceNe, seqC, retC, skipC, exitC, blockC, condC, t12]
  · simp only [↓opStep_eq, ↓reduceIte, ↓EW, EV, Nat.reduceAdd, Nat.reduceEqDiff, Int.reduceEq, Int.reduceLT, Int.reduceLE, Int.reduceNe, seqC, retC, skipC, exitC, blockC, condC]
  · simp only [↓opStep_eq, ↓reduceIte, ↓EW, EV, Nat.reduceAdd, Nat.reduceEqDiff, Int.reduceEq, Int.reduceLT, Int.reduceLE, Int.reduceNe, seqC, retC, skipC, exitC, blockC, condC]

theorem pdq_tail0 {M a0 b0 a b N : Nat} {v : Value} {f0 f : Nat → Nm} {h0 h : H} {tm : T Value} (en : Env L B v cv N a0 b0 lt Ok f0 h0) (arr : Arr h B v N f) (sv : Sv lt f0 a0 b0 a b f) (kp : Keep (· = B) h0 h) (hab : a + 12 < b) (x : Tr v cv a b tm) (t12 : tg tm 12 = .int .i64 ((b - a : Nat) : Int))
    (rec_ : Rec L M B v cv N a0 b0 (b - a) lt Ok)
    (Q : Ex → T Value → H → Prop)
    (hQ : ∀ a' b' f' h' tm', b' - a' < b - a → Arr h' B v N f' → Sv lt f0 a0 b0 a' b' f' → Keep (· = B) h0 h' → Tr v cv a' b' tm' → Q .norm tm' h')
    (hR : ∀ f' h' tm', Arr h' B v N f' → Sw a0 b0 f0 f' → Sorted lt f' a0 b0 → Keep (· = B) h0 h' → Q .ret tm' h') :
    C ⟨seqC ⟨seqC ⟨r40_7⟩ ⟨condC ⟨fun _ tm => tg tm 39⟩ ⟨seqC ⟨r40_8⟩ ⟨r40_9⟩⟩ skipC⟩⟩ ⟨seqC ⟨r40_10⟩ ⟨seqC ⟨seqC ⟨r40_11⟩ ⟨condC ⟨fun _ tm => tg tm 56⟩ ⟨seqC ⟨r40_12⟩ ⟨seqC ⟨r40_13⟩ ⟨r40_14⟩⟩⟩ skipC⟩⟩ ⟨seqC ⟨seqC ⟨r40_15⟩ ⟨condC ⟨fun _ tm => tg tm 75⟩ ⟨seqC ⟨r40_16⟩ ⟨condC ⟨fun _ tm => tg tm 80⟩ retC skipC⟩⟩ skipC⟩⟩ ⟨seqC ⟨seqC ⟨r40_17⟩ ⟨condC ⟨fun _ tm => tg tm 97⟩ ⟨seqC ⟨r40_18⟩ ⟨seqC ⟨r40_19⟩ (exitC 1)⟩⟩ skipC⟩⟩ ⟨seqC ⟨r40_20⟩ ⟨seqC ⟨r40_21⟩ ⟨seqC ⟨r40_22⟩ ⟨seqC ⟨r40_23⟩ ⟨seqC ⟨r40_24⟩ ⟨condC ⟨fun _ tm => tg tm 125⟩ ⟨seqC ⟨r40_25⟩ ⟨seqC ⟨r40_26⟩ ⟨r40_27⟩⟩⟩ ⟨seqC ⟨r40_28⟩ ⟨seqC ⟨r40_29⟩ ⟨r40_30⟩⟩⟩⟩⟩⟩⟩⟩⟩⟩⟩⟩⟩⟩ (CF L (M + 8)) L tm h Q := by
  have hbb := sv.bb
  have hb0 := en.hb0
  obtain ⟨x0, x1, x2, x4, ⟨lim, x3⟩, ⟨wb, x10⟩, ⟨wp, x11⟩⟩ := id x
  refine C.seq (C.seq fun K hK => ?_)
  simp only [↓opStep_eq, ↓reduceIte, ↓EW, EV, Nat.reduceAdd, Nat.reduceEqDiff, Int.reduceEq, Int.reduceLT, Int.reduceLE, Int.reduceNe, seqC, retC, skipC, exitC, blockC, condC, r40_7, x10]
  refine hK _ _ _ (C.cond (!wb) (by simp only [↓opStep_eq, ↓reduceIte, ↓EW, EV, Nat.reduceAdd, Nat.reduceEqDiff, Int.reduceEq, Int.reduceLT, Int.reduceLE, Int.reduceNe, seqC, retC, skipC, exitC, blockC, condC]) (fun g => C.seq fun K hK => ?_) fun g => C.skip ?_)
  · simp only [↓opStep_eq, ↓reduceIte, ↓EW, EV, Nat.reduceAdd, Nat.reduceEqDiff, Int.reduceEq, Int.reduceLT, Int.reduceLE, Int.reduceNe, seqC, retC, skipC, exitC, blockC, condC, r40_8, x0, x1, x2, x4]
    refine break_law (M + 4) (cv := cv) arr (by omega) en.hN en.hL hab _ fun r h2 hq => ?_
    obtain ⟨f2, arr2, sw2, k2⟩ := hq
    refine hK _ _ _ fun K hK => ?_
    simp only [↓opStep_eq, ↓reduceIte, ↓EW, EV, Nat.reduceAdd, Nat.reduceEqDiff, Int.reduceEq, Int.reduceLT, Int.reduceLE, Int.reduceNe, seqC, retC, skipC, exitC, blockC, condC, r40_9, x3]
    refine hK _ _ _ (pdq_tail1 en arr2 (sv.move sw2) (kp.trans k2 fun _ _ h => h) hab ⟨?_, ?_, ?_, ?_, ⟨IntKind.i64.wrap (lim - 1), ?_⟩, ⟨wb, ?_⟩, ⟨wp, ?_⟩⟩ ?_ rec_ Q hQ hR)
    · simp only [↓opStep_eq, ↓reduceIte, ↓EW, EV, Nat.reduceAdd, Nat.reduceEqDiff, Int.reduceEq, Int.reduceLT, Int.reduceLE, Int.reduceNe, seqC, retC, skipC, exitC, blockC, condC, x0]
    · simp only [↓opStep_eq, ↓reduceIte, ↓EW, EV, Nat.reduceAdd, Nat.reduceEqDiff, Int.reduceEq, Int.reduceLT, Int.reduceLE, Int.reduceNe, seqC, retC, skipC, exitC, blockC, condC, x1]
    · simp only [↓opStep_eq, ↓reduceIte, ↓EW, EV, Nat.reduceAdd, Nat.reduceEqDiff, Int.reduceEq, Int.reduceLT, Int.reduceLE, Int.reduceNe, seqC, retC, skipC, exitC, blockC, condC, x2]
    · simp only [↓opStep_eq, ↓reduceIte, ↓EW, EV, Nat.reduceAdd, Nat.reduceEqDiff, Int.reduceEq, Int.reduceLT, Int.reduceLE, Int.reduceNe, seqC, retC, skipC, exitC, blockC, condC, x4]
    · simp only [↓opStep_eq, ↓reduceIte, ↓EW, EV, Nat.reduceAdd, Nat.reduceEqDiff, Int.reduceEq, Int.reduceLT, Int.reduceLE, Int.reduceNe, seqC, retC, skipC, exitC, blockC, condC]
    · simp only [↓opStep_eq, ↓reduceIte, ↓EW, EV, Nat.reduceAdd, Nat.reduceEqDiff, Int.reduceEq, Int.reduceLT, Int.reduceLE, Int.reduceNe, seqC, retC, skipC, exitC, blockC, condC, x10]
    · simp only [↓opStep_eq, ↓reduceIte, ↓EW, EV, Nat.reduceAdd, Nat.reduceEqDiff, Int.reduceEq, Int.reduceLT, Int.reduceLE, Int.reduceNe, seqC, retC, skipC, exitC, blockC, condC, x11]
    · simp only [↓opStep_eq, ↓reduceIte, ↓EW, EV, Nat.reduceAdd, Nat.reduceEqDiff, Int.reduceEq, Int.reduceLT, Int.reduceLE, Int.reduceNe, seqC, retC, skipC, exitC, blockC, condC, t12]
  · refine pdq_tail1 en arr sv kp hab (x.set (by omega)) ?_ rec_ Q hQ hR
    simp only [↓opStep_eq, ↓reduceIte, ↓EW, EV, Nat.reduceAdd, Nat.reduceEqDiff, Int.reduceEq, Int.reduceLT, Int.reduceLE, Int.reduceNe, seqC, retC, skipC, exitC, blockC, condC, t12]

theorem pdq_law (d : Nat) : ∀ {M a0 b0 N : Nat} {z : Int} {v : Value} {f0 : Nat → Nm} {h0 : H}, Env L B v cv N a0 b0 lt Ok f0 h0 → Arr h0 B v N f0 → a0 ≤ b0 → b0 - a0 < 2 ^ d →
    Sp (CF L (M + 9 + d)) 40 [v, .int .i64 (a0 : Int), .int .i64 (b0 : Int), .int .i64 z, cv] h0 fun r h' => ∃ f', Arr h' B v N f' ∧ Sw a0 b0 f0 f' ∧ Sorted lt f' a0 b0 ∧ Keep (· = B) h0 h' := by
  induction d with
  | zero =>
    intro M a0 b0 N z v f0 h0 en arr hab hlen
    have e : a0 = b0 := by simp at hlen; omega
    subst e
    have hb0 := en.hb0
    have hN := en.hN
    refine Sp.body f40 (by simp) ?_
    unfold c40
    refine C.seq fun K hK => hK .norm _ _ (C.seq fun K hK => hK .norm _ _ ?_)
    refine C.block (C.loop (fun k tm' hx => k = 0 ∧ hx = h0 ∧ Tr v cv a0 a0 tm') 0 (by have := en.hL5; omega)
      ⟨rfl, rfl, ⟨by simp only [↓opStep_eq, ↓reduceIte, ↓EW, EV, Nat.reduceAdd, Nat.reduceEqDiff, Int.reduceEq, Int.reduceLT, Int.reduceLE, Int.reduceNe, seqC, retC, skipC, exitC, blockC, condC], by simp only [↓opStep_eq, ↓reduceIte, ↓EW, EV, Nat.reduceAdd, Nat.reduceEqDiff, Int.reduceEq, Int.reduceLT, Int.reduceLE, Int.reduceNe, seqC, retC, skipC, exitC, blockC, condC], by simp only [↓opStep_eq, ↓reduceIte, ↓EW, EV, Nat.reduceAdd, Nat.reduceEqDiff, Int.reduceEq, Int.reduceLT, Int.reduceLE, Int.reduceNe, seqC, retC, skipC, exitC, blockC, condC], by simp only [↓opStep_eq, ↓reduceIte, ↓EW, EV, Nat.reduceAdd, Nat.reduceEqDiff, Int.reduceEq, Int.reduceLT, Int.reduceLE, Int.reduceNe, seqC, retC, skipC, exitC, blockC, condC], ⟨z, by simp only [↓opStep_eq, ↓reduceIte, ↓EW, EV, Nat.reduceAdd, Nat.reduceEqDiff, Int.reduceEq, Int.reduceLT, Int.reduceLE, Int.reduceNe, seqC, retC, skipC, exitC, blockC, condC]⟩, ⟨true, by simp only [↓opStep_eq, ↓reduceIte, ↓EW, EV, Nat.reduceAdd, Nat.reduceEqDiff, Int.reduceEq, Int.reduceLT, Int.reduceLE, Int.reduceNe, seqC, retC, skipC, exitC, blockC, condC]⟩, ⟨true, by simp only [↓opStep_eq, ↓reduceIte, ↓EW, EV, Nat.reduceAdd, Nat.reduceEqDiff, Int.reduceEq, Int.reduceLT, Int.reduceLE, Int.reduceNe, seqC, retC, skipC, exitC, blockC, condC]⟩⟩⟩ ?_)
    rintro k tm hx ⟨rfl, rfl, x⟩
    obtain ⟨x0, x1, x2, x4, ⟨lim, x3⟩, ⟨wb, x10⟩, ⟨wp, x11⟩⟩ := x
    unfold l40_31
    refine C.block (C.seq fun K hK => ?_)
    have w := wsub a0 a0 (Nat.le_refl _) (by omega)
    rw [Nat.sub_self] at w
    simp only [↓opStep_eq, ↓reduceIte, ↓EW, EV, Nat.reduceAdd, Nat.reduceEqDiff, Int.reduceEq, Int.reduceLT, Int.reduceLE, Int.reduceNe, seqC, retC, skipC, exitC, blockC, condC, r40_2, x1, x2, w]
    have g12 : ((0 : Nat) : Int) ≤ 12 := by decide
    refine hK _ _ _ (C.seq (C.seq fun K hK => ?_))
    simp only [↓opStep_eq, ↓reduceIte, ↓EW, EV, Nat.reduceAdd, Nat.reduceEqDiff, Int.reduceEq, Int.reduceLT, Int.reduceLE, Int.reduceNe, seqC, retC, skipC, exitC, blockC, condC, r40_3, g12]
    refine hK _ _ _ (C.cond true (by simp only [↓opStep_eq, ↓reduceIte, ↓EW, EV, Nat.reduceAdd, Nat.reduceEqDiff, Int.reduceEq, Int.reduceLT, Int.reduceLE, Int.reduceNe, seqC, retC, skipC, exitC, blockC, condC]) (fun g => C.seq fun K hK => ?_) fun g => by cases g)
    simp only [↓opStep_eq, ↓reduceIte, ↓EW, EV, Nat.reduceAdd, Nat.reduceEqDiff, Int.reduceEq, Int.reduceLT, Int.reduceLE, Int.reduceNe, seqC, retC, skipC, exitC, blockC, condC, r40_4, x0, x1, x2, x4]
    refine insertion_law en.cm (m := M + 3) en.ok arr en.inj hb0 (by omega) en.hL (Nat.le_refl _) _ fun r h2 hq => ?_
    exact hK _ _ _ (C.ret ⟨.inr rfl, _, rfl, hq⟩)
  | succ d ih =>
    intro M a0 b0 N z v f0 h0 en arr hab hlen
    have hb0 := en.hb0
    have hN := en.hN
    rw [show M + 9 + (d + 1) = (M + 1 + d + 8) + 1 by omega]
    refine Sp.body f40 (by simp) ?_
    unfold c40
    refine C.seq fun K hK => hK .norm _ _ (C.seq fun K hK => hK .norm _ _ ?_)
    refine C.block (C.loop (fun k tm' hx => ∃ a b f', k = b - a ∧ Arr hx B v N f' ∧ Sv lt f0 a0 b0 a b f' ∧ Keep (· = B) h0 hx ∧ Tr v cv a b tm') (b0 - a0) (by have := en.hL; omega)
      ⟨a0, b0, f0, rfl, arr, ⟨.refl _, Nat.le_refl _, hab, Nat.le_refl _, fun p q h1 h2 h3 h4 => by omega⟩, .refl _ _, ⟨by simp only [↓opStep_eq, ↓reduceIte, ↓EW, EV, Nat.reduceAdd, Nat.reduceEqDiff, Int.reduceEq, Int.reduceLT, Int.reduceLE, Int.reduceNe, seqC, retC, skipC, exitC, blockC, condC], by simp only [↓opStep_eq, ↓reduceIte, ↓EW, EV, Nat.reduceAdd, Nat.reduceEqDiff, Int.reduceEq, Int.reduceLT, Int.reduceLE, Int.reduceNe, seqC, retC, skipC, exitC, blockC, condC], by simp only [↓opStep_eq, ↓reduceIte, ↓EW, EV, Nat.reduceAdd, Nat.reduceEqDiff, Int.reduceEq, Int.reduceLT, Int.reduceLE, Int.reduceNe, seqC, retC, skipC, exitC, blockC, condC], by simp only [↓opStep_eq, ↓reduceIte, ↓EW, EV, Nat.reduceAdd, Nat.reduceEqDiff, Int.reduceEq, Int.reduceLT, Int.reduceLE, Int.reduceNe, seqC, retC, skipC, exitC, blockC, condC], ⟨z, by simp only [↓opStep_eq, ↓reduceIte, ↓EW, EV, Nat.reduceAdd, Nat.reduceEqDiff, Int.reduceEq, Int.reduceLT, Int.reduceLE, Int.reduceNe, seqC, retC, skipC, exitC, blockC, condC]⟩, ⟨true, by simp only [↓opStep_eq, ↓reduceIte, ↓EW, EV, Nat.reduceAdd, Nat.reduceEqDiff, Int.reduceEq, Int.reduceLT, Int.reduceLE, Int.reduceNe, seqC, retC, skipC, exitC, blockC, condC]⟩, ⟨true, by simp only [↓opStep_eq, ↓reduceIte, ↓EW, EV, Nat.reduceAdd, Nat.reduceEqDiff, Int.reduceEq, Int.reduceLT, Int.reduceLE, Int.reduceNe, seqC, retC, skipC, exitC, blockC, condC]⟩⟩⟩ ?_)
    rintro k tm hx ⟨a, b, f, rfl, arr1, sv, kp, x⟩
    obtain ⟨x0, x1, x2, x4, ⟨lim, x3⟩, ⟨wb, x10⟩, ⟨wp, x11⟩⟩ := id x
    have hbb := sv.bb
    have hsa := sv.ab
    have haa := sv.a0a
    unfold l40_31
    refine C.block (C.seq fun K hK => ?_)
    have w := wsub b a hsa (by omega)
    simp only [↓opStep_eq, ↓reduceIte, ↓EW, EV, Nat.reduceAdd, Nat.reduceEqDiff, Int.reduceEq, Int.reduceLT, Int.reduceLE, Int.reduceNe, seqC, retC, skipC, exitC, blockC, condC, r40_2, x1, x2, w]
    refine hK _ _ _ (C.seq (C.seq fun K hK => ?_))
    simp only [↓opStep_eq, ↓reduceIte, ↓EW, EV, Nat.reduceAdd, Nat.reduceEqDiff, Int.reduceEq, Int.reduceLT, Int.reduceLE, Int.reduceNe, seqC, retC, skipC, exitC, blockC, condC, r40_3]
    have fin : ∀ f' h' tm', Arr h' B v N f' → Sw a0 b0 f0 f' → Sorted lt f' a0 b0 → Keep (· = B) h0 h' → (Ex.ret = Ex.norm ∨ Ex.ret = Ex.ret) ∧ ∃ l, q40.f tm' h' = some l ∧ ∃ f', Arr h' B v N f' ∧ Sw a0 b0 f0 f' ∧ Sorted lt f' a0 b0 ∧ Keep (· = B) h0 h' := fun f' h' tm' A S So K => ⟨.inr rfl, _, rfl, f', A, S, So, K⟩
    refine hK _ _ _ (C.cond (decide (((b - a : Nat) : Int) ≤ 12)) (by simp only [↓opStep_eq, ↓reduceIte, ↓EW, EV, Nat.reduceAdd, Nat.reduceEqDiff, Int.reduceEq, Int.reduceLT, Int.reduceLE, Int.reduceNe, seqC, retC, skipC, exitC, blockC, condC]) (fun g => C.seq fun K hK => ?_) fun g => C.skip ?_)
    · simp only [↓opStep_eq, ↓reduceIte, ↓EW, EV, Nat.reduceAdd, Nat.reduceEqDiff, Int.reduceEq, Int.reduceLT, Int.reduceLE, Int.reduceNe, seqC, retC, skipC, exitC, blockC, condC, r40_4, x0, x1, x2, x4]
      refine insertion_law en.cm (m := M + 1 + d + 3) (a := a) (b := b) (en.cm.stay _ _ kp en.ok) arr1 (sv.sw.inj hb0 en.inj) (by omega) (by omega) en.hL hsa _ fun r h2 hq => ?_
      obtain ⟨f2, arr2, sw2, so2, k2⟩ := hq
      obtain ⟨w, so⟩ := (sv.move sw2).done so2
      exact hK _ _ _ (C.ret (fin f2 h2 _ arr2 w so (kp.trans k2 fun _ _ h => h)))
    · have g : a + 12 < b := by have := of_decide_eq_false g; omega
      have x2' : Tr v cv a b ((tm.set 12 (.int .i64 ((b - a : Nat) : Int))).set 25 (.bool (decide (((b - a : Nat) : Int) ≤ 12)))) := (x.set (by omega)).set (by omega)
      refine C.seq (C.seq fun K hK => ?_)
      simp only [↓opStep_eq, ↓reduceIte, ↓EW, EV, Nat.reduceAdd, Nat.reduceEqDiff, Int.reduceEq, Int.reduceLT, Int.reduceLE, Int.reduceNe, seqC, retC, skipC, exitC, blockC, condC, r40_5, x3]
      refine hK _ _ _ (C.cond (decide (lim = 0)) (by simp only [↓opStep_eq, ↓reduceIte, ↓EW, EV, Nat.reduceAdd, Nat.reduceEqDiff, Int.reduceEq, Int.reduceLT, Int.reduceLE, Int.reduceNe, seqC, retC, skipC, exitC, blockC, condC]) (fun g2 => C.seq fun K hK => ?_) fun g2 => C.skip ?_)
      · simp only [↓opStep_eq, ↓reduceIte, ↓EW, EV, Nat.reduceAdd, Nat.reduceEqDiff, Int.reduceEq, Int.reduceLT, Int.reduceLE, Int.reduceNe, seqC, retC, skipC, exitC, blockC, condC, r40_6, x0, x1, x2, x4]
        refine heap_law en.cm (m := M + 1 + d + 2) (a := a) (b := b) (en.cm.stay _ _ kp en.ok) arr1 (sv.sw.inj hb0 en.inj) (by omega) (by omega) en.hL (by omega) _ fun r h2 hq => ?_
        obtain ⟨f2, arr2, sw2, so2, k2⟩ := hq
        obtain ⟨w, so⟩ := (sv.move sw2).done so2
        exact hK _ _ _ (C.ret (fin f2 h2 _ arr2 w so (kp.trans k2 fun _ _ h => h)))
      · have rec_ : Rec L (M + 1 + d) B v cv N a0 b0 (b - a) lt Ok := fun a' b' z' f' h' h1 h2 h3 h4 A I O P => by
          have hp : 2 ^ (d + 1) = 2 * 2 ^ d := by rw [Nat.pow_succ]; omega
          have := ih (M := M) (a0 := a') (b0 := b') (N := N) (z := z') (v := v) (f0 := f') (h0 := h') ⟨en.cm, O, en.loc, I, by omega, hN, en.hL, en.hL5, P⟩ A h1 (by omega)
          rw [show M + 9 + d = M + 1 + d + 8 by omega] at this
          exact this
        refine pdq_tail0 (M := M + 1 + d) en arr1 sv kp g (x2'.set (by omega)) ?_ rec_ _ (fun a' b' f' h' tm' hlt A S K T => ⟨b' - a', hlt, a', b', f', rfl, A, S, K, T⟩) (fun f' h' tm' A S So K => fin f' h' tm' A S So K)
        simp only [↓opStep_eq, ↓reduceIte, ↓EW, EV, Nat.reduceAdd, Nat.reduceEqDiff, Int.reduceEq, Int.reduceLT, Int.reduceLE, Int.reduceNe, seqC, retC, skipC, exitC, blockC, condC]
end
end Go.Proofs.Ytpoedopdcpejmaa

namespace Go.Proofs.Ytpoedopdcpejmaa
open Go.Ev

/-! ### SortFunc -/
section
variable {L B : Nat} {cv : Value} {lt : Nm → Nm → Prop} {Ok : H → Prop}
theorem sort_law {m n : Nat} {v : Value} {f : Nat → Nm} {h : H} (en : Env L B v cv n 0 n lt Ok f h) (arr : Arr h B v n f) :
    Sp (CF L (m + 26)) 27 [v, cv] h fun r h' => ∃ f', Arr h' B v n f' ∧ Sw 0 n f f' ∧ Sorted lt f' 0 n ∧ Keep (· = B) h h' := by
  have hN := en.hN
  refine Sp.body f27 (by simp) ?_
  unfold c27
  have ti : toInt .u64 (.int .i64 (n : Int)) = some (.int .u64 (n : Int)) := by
    rw [toInt_int, wrap_eq] <;> simp [IntKind.min, IntKind.max, IntKind.bits, IntKind.signed] <;> omega
  refine C.seq fun K hK => ?_
  simp only [↓opStep_eq, ↓reduceIte, ↓EW, EV, Nat.reduceAdd, Nat.reduceEqDiff, Int.reduceEq, Int.reduceLT, Int.reduceLE, Int.reduceNe, seqC, retC, skipC, exitC, blockC, condC, r27_0, arr.len]
  refine hK _ _ _ fun K hK => ?_
  simp only [↓opStep_eq, ↓reduceIte, ↓EW, EV, Nat.reduceAdd, Nat.reduceEqDiff, Int.reduceEq, Int.reduceLT, Int.reduceLE, Int.reduceNe, seqC, retC, skipC, exitC, blockC, condC, r27_1, ti]
  refine len_bits L (m + 23) n (by omega) h _ fun r h1 hq => ?_
  obtain ⟨t, rfl, e1, e2, k1⟩ := hq
  have z : Value.int .i64 0 = .int .i64 ((0 : Nat) : Int) := rfl
  have hd : n - 0 < 2 ^ 16 := by
    have : (2 : Nat) ^ 16 = 65536 := by decide
    omega
  rw [z]
  have en1 : Env L B v cv n 0 n lt Ok f h1 := { en with ok := en.cm.stay0 k1 en.ok }
  refine pdq_law 16 (M := m) en1 (arr.keep0 k1) (Nat.zero_le _) hd _ fun r h2 hq => ?_
  obtain ⟨f2, arr2, sw2, so2, k2⟩ := hq
  exact hK _ _ _ ⟨.inl rfl, _, rfl, f2, arr2, sw2, so2, (k1.mono fun _ _ h => h.elim).trans k2 fun _ _ h => h⟩

theorem insertion_nil (m : Nat) (v : Value) (h : H) (hL : 10 < L) : Sp (CF L (m + 1)) 47 [v, .int .i64 0, .int .i64 0, cv] h fun r h' => Keep nobody h h' := by
  refine Sp.body f47 (by simp) ?_
  unfold c47
  have w : IntKind.i64.wrap (0 + 1) = 1 := by decide
  refine C.seq fun K hK => ?_
  simp only [↓opStep_eq, ↓reduceIte, ↓EW, EV, Nat.reduceAdd, Nat.reduceEqDiff, Int.reduceEq, Int.reduceLT, Int.reduceLE, Int.reduceNe, seqC, retC, skipC, exitC, blockC, condC, r47_0, w]
  refine hK .norm _ _ ?_
  refine C.block (C.loop (fun k tm' hx => k = 0 ∧ hx = h ∧ tg tm' 8 = .int .i64 1 ∧ tg tm' 2 = .int .i64 0) 0 (by omega) ⟨rfl, rfl, by simp only [↓opStep_eq, ↓reduceIte, ↓EW, EV, Nat.reduceAdd, Nat.reduceEqDiff, Int.reduceEq, Int.reduceLT, Int.reduceLE, Int.reduceNe, seqC, retC, skipC, exitC, blockC, condC], by simp only [↓opStep_eq, ↓reduceIte, ↓EW, EV, Nat.reduceAdd, Nat.reduceEqDiff, Int.reduceEq, Int.reduceLT, Int.reduceLE, Int.reduceNe, seqC, retC, skipC, exitC, blockC, condC]⟩ ?_)
  rintro k tm hx ⟨rfl, rfl, t8, t2⟩
  unfold l47_8
  refine C.seq (C.seq fun K hK => ?_)
  simp only [↓opStep_eq, ↓reduceIte, ↓EW, EV, Nat.reduceAdd, Nat.reduceEqDiff, Int.reduceEq, Int.reduceLT, Int.reduceLE, Int.reduceNe, seqC, retC, skipC, exitC, blockC, condC, r47_1, t8, t2]
  refine hK _ _ _ (C.cond false (by simp only [↓opStep_eq, ↓reduceIte, ↓EW, EV, Nat.reduceAdd, Nat.reduceEqDiff, Int.reduceEq, Int.reduceLT, Int.reduceLE, Int.reduceNe, seqC, retC, skipC, exitC, blockC, condC]) (fun g => by cases g) fun g => C.exit ?_)
  simp only [if_pos]
  exact ⟨(by first | exact .inl rfl | exact .inl trivial), _, rfl, .refl _ _⟩
theorem sort_nil (m : Nat) (h : H) (hL : 10 < L) : Sp (CF L (m + 4)) 27 [.slice none 0 0, cv] h fun r h' => Keep nobody h h' := by
  refine Sp.body f27 (by simp) ?_
  unfold c27
  have ti : toInt .u64 (.int .i64 ((0 : Nat) : Int)) = some (.int .u64 ((0 : Nat) : Int)) := rfl
  have ls : lenSl (.slice none 0 0) = some (.int .i64 ((0 : Nat) : Int)) := rfl
  refine C.seq fun K hK => ?_
  simp only [↓opStep_eq, ↓reduceIte, ↓EW, EV, Nat.reduceAdd, Nat.reduceEqDiff, Int.reduceEq, Int.reduceLT, Int.reduceLE, Int.reduceNe, seqC, retC, skipC, exitC, blockC, condC, r27_0, ls]
  refine hK _ _ _ fun K hK => ?_
  simp only [↓opStep_eq, ↓reduceIte, ↓EW, EV, Nat.reduceAdd, Nat.reduceEqDiff, Int.reduceEq, Int.reduceLT, Int.reduceLE, Int.reduceNe, seqC, retC, skipC, exitC, blockC, condC, r27_1, ti]
  refine len_bits L (m + 1) 0 (by decide) h _ fun r h1 hq => ?_
  obtain ⟨t, rfl, e1, e2, k1⟩ := hq
  have pdq : Sp (CF L (m + 3)) 40 [.slice none 0 0, .int .i64 0, .int .i64 ((0 : Nat) : Int), .int .i64 (t : Int), cv] h1 fun r h' => Keep nobody h1 h' := by
    refine Sp.body f40 (by simp) ?_
    unfold c40
    refine C.seq fun K hK => hK .norm _ _ (C.seq fun K hK => hK .norm _ _ ?_)
    refine C.block (C.loop (fun k tm' hx => k = 0 ∧ hx = h1 ∧ tg tm' 0 = .slice none 0 0 ∧ tg tm' 1 = .int .i64 0 ∧ tg tm' 2 = .int .i64 0 ∧ tg tm' 4 = cv) 0 (by omega)
      ⟨rfl, rfl, by simp only [↓opStep_eq, ↓reduceIte, ↓EW, EV, Nat.reduceAdd, Nat.reduceEqDiff, Int.reduceEq, Int.reduceLT, Int.reduceLE, Int.reduceNe, seqC, retC, skipC, exitC, blockC, condC], by simp only [↓opStep_eq, ↓reduceIte, ↓EW, EV, Nat.reduceAdd, Nat.reduceEqDiff, Int.reduceEq, Int.reduceLT, Int.reduceLE, Int.reduceNe, seqC, retC, skipC, exitC, blockC, condC], by simp only [↓opStep_eq, ↓reduceIte, ↓EW, EV, Nat.reduceAdd, Nat.reduceEqDiff, Int.reduceEq, Int.reduceLT, Int.reduceLE, Int.reduceNe, seqC, retC, skipC, exitC, blockC, condC] <;> rfl, by simp only [↓opStep_eq, ↓reduceIte, ↓EW, EV, Nat.reduceAdd, Nat.reduceEqDiff, Int.reduceEq, Int.reduceLT, Int.reduceLE, Int.reduceNe, seqC, retC, skipC, exitC, blockC, condC]⟩ ?_)
    rintro k tm hx ⟨rfl, rfl, t0, t1, t2, t4⟩
    unfold l40_31
    have w : IntKind.i64.wrap (0 - 0) = 0 := by decide
    refine C.block (C.seq fun K hK => ?_)
    simp only [↓opStep_eq, ↓reduceIte, ↓EW, EV, Nat.reduceAdd, Nat.reduceEqDiff, Int.reduceEq, Int.reduceLT, Int.reduceLE, Int.reduceNe, seqC, retC, skipC, exitC, blockC, condC, r40_2, t1, t2, w]
    refine hK _ _ _ (C.seq (C.seq fun K hK => ?_))
    simp only [↓opStep_eq, ↓reduceIte, ↓EW, EV, Nat.reduceAdd, Nat.reduceEqDiff, Int.reduceEq, Int.reduceLT, Int.reduceLE, Int.reduceNe, seqC, retC, skipC, exitC, blockC, condC, r40_3]
    refine hK _ _ _ (C.cond true (by simp only [↓opStep_eq, ↓reduceIte, ↓EW, EV, Nat.reduceAdd, Nat.reduceEqDiff, Int.reduceEq, Int.reduceLT, Int.reduceLE, Int.reduceNe, seqC, retC, skipC, exitC, blockC, condC]) (fun g => C.seq fun K hK => ?_) fun g => by cases g)
    simp only [↓opStep_eq, ↓reduceIte, ↓EW, EV, Nat.reduceAdd, Nat.reduceEqDiff, Int.reduceEq, Int.reduceLT, Int.reduceLE, Int.reduceNe, seqC, retC, skipC, exitC, blockC, condC, r40_4, t0, t1, t2, t4]
    refine insertion_nil (cv := cv) (m + 1) _ _ hL _ fun r h2 hq => ?_
    exact hK _ _ _ (C.ret ⟨.inr rfl, _, rfl, hq⟩)
  refine pdq _ fun r h2 k2 => ?_
  exact hK _ _ _ ⟨.inl rfl, _, rfl, k1.then k2⟩
end

/-! ### the order of names -/
theorem ltB_irr : ∀ l, ltB l l = false
  | [] => rfl
  | a :: l => by simp only [ltB, Nat.beq_refl]; exact ltB_irr l
theorem ltB_cons (a b : UInt8) (x y : List UInt8) : ltB (a :: x) (b :: y) = if a = b then ltB x y else decide (a < b) := by
  simp only [ltB]
  by_cases h : a = b
  · subst h; rw [Nat.beq_refl, if_pos rfl]
  · have h1 : Nat.beq a.toNat b.toNat = false := by
      rw [Bool.eq_false_iff]; intro e; exact h (UInt8.toNat_inj.1 (Nat.eq_of_beq_eq_true e))
    rw [h1, if_neg h]
    show Nat.ble (a.toNat + 1) b.toNat = decide (a < b)
    by_cases h2 : a < b
    · rw [decide_eq_true h2]; exact Nat.ble_eq_true_of_le (UInt8.lt_iff_toNat_lt.1 h2)
    · rw [decide_eq_false h2, Bool.eq_false_iff]; intro e; exact h2 (UInt8.lt_iff_toNat_lt.2 (Nat.le_of_ble_eq_true e))
theorem ltB_tr : ∀ x y z, ltB x y = true → ltB y z = true → ltB x z = true
  | [], [], z, h, _ => by cases h
  | [], _ :: _, [], _, h => by cases h
  | [], _ :: _, _ :: _, _, _ => rfl
  | _ :: _, [], _, h, _ => by cases h
  | _ :: _, _ :: _, [], _, h => by cases h
  | a :: x, b :: y, c :: z, h1, h2 => by
    rw [ltB_cons] at h1 h2 ⊢
    by_cases e1 : a = b
    · subst e1
      rw [if_pos rfl] at h1
      by_cases e2 : a = c
      · subst e2; rw [if_pos rfl] at h2 ⊢; exact ltB_tr x y z h1 h2
      · rw [if_neg e2] at h2 ⊢; exact h2
    · rw [if_neg e1] at h1
      have h1 := of_decide_eq_true h1
      by_cases e2 : b = c
      · subst e2; rw [if_neg e1]; exact decide_eq_true h1
      · rw [if_neg e2] at h2
        have h2 := of_decide_eq_true h2
        have h3 := UInt8.lt_trans h1 h2
        rw [if_neg (UInt8.ne_of_lt h3)]; exact decide_eq_true h3
theorem ltB_tot : ∀ x y, x ≠ y → ltB x y = true ∨ ltB y x = true
  | [], [], h => absurd rfl h
  | [], _ :: _, _ => .inl rfl
  | _ :: _, [], _ => .inr rfl
  | a :: x, b :: y, h => by
    rw [ltB_cons, ltB_cons]
    by_cases e : a = b
    · subst e
      rw [if_pos rfl, if_pos rfl]
      exact ltB_tot x y fun h' => h (by rw [h'])
    · rw [if_neg e, if_neg fun h => e h.symm]
      by_cases h2 : a < b
      · exact .inl (decide_eq_true h2)
      · exact .inr (decide_eq_true (UInt8.lt_of_le_of_ne (UInt8.not_lt.1 h2) fun h => e h.symm))
theorem cmp_ltB : ∀ x y, (Go.Lib.compareBytes x y < 0 ↔ ltB x y = true) ∧ (Go.Lib.compareBytes x y = 0 ↔ x = y)
  | [], [] => by simp [Go.Lib.compareBytes, ltB]
  | [], _ :: _ => by simp [Go.Lib.compareBytes, ltB]
  | _ :: _, [] => by simp [Go.Lib.compareBytes, ltB]
  | a :: x, b :: y => by
    have ih := cmp_ltB x y
    rw [ltB_cons]
    unfold Go.Lib.compareBytes
    by_cases e : a = b
    · subst e
      rw [if_neg (UInt8.lt_irrefl a), if_neg (UInt8.lt_irrefl a), if_pos rfl]
      refine ⟨ih.1, ih.2.trans ⟨fun h => by rw [h], fun h => by injection h⟩⟩
    · rw [if_neg e]
      by_cases h2 : a < b
      · rw [if_pos h2, decide_eq_true h2]
        refine ⟨by decide, ⟨fun h => absurd h (by decide), fun h => by injection h with h; exact absurd h e⟩⟩
      · have h3 : b < a := UInt8.lt_of_le_of_ne (UInt8.not_lt.1 h2) fun h => e h.symm
        rw [if_neg h2, if_pos h3, decide_eq_false h2]
        refine ⟨by decide, ⟨fun h => absurd h (by decide), fun h => by injection h with h; exact absurd h e⟩⟩

def ltN (x y : Nm) : Prop := x.1 < y.1 ∨ (x.1 = y.1 ∧ ltB x.2.data.toList y.2.data.toList = true)
theorem ltN_irr (x : Nm) : ¬ ltN x x := fun h => by
  rcases h with h | ⟨_, h⟩
  · omega
  · rw [ltB_irr] at h; cases h
theorem ltN_tr (x y z : Nm) (h1 : ltN x y) (h2 : ltN y z) : ltN x z := by
  rcases h1 with h1 | ⟨e1, h1⟩
  · rcases h2 with h2 | ⟨e2, h2⟩
    · exact .inl (by omega)
    · exact .inl (by omega)
  · rcases h2 with h2 | ⟨e2, h2⟩
    · exact .inl (by omega)
    · exact .inr ⟨e1.trans e2, ltB_tr _ _ _ h1 h2⟩
theorem ltN_tot (x y : Nm) (h : x ≠ y) : ltN x y ∨ ltN y x := by
  by_cases e : x.1 = y.1
  · have hk : x.2.data.toList ≠ y.2.data.toList := fun he => h (Prod.ext e ((bytes_eq _ _).1 he))
    rcases ltB_tot _ _ hk with g | g
    · exact .inl (.inr ⟨e, g⟩)
    · exact .inr (.inr ⟨e.symm, g⟩)
  · by_cases g : x.1 < y.1
    · exact .inl (.inl g)
    · exact .inr (.inl (by omega))

/-! ### the comparing function -/
theorem nan_law (L n : Nat) (x : Int) (h : H) : Sp (CF L (n + 1)) 42 [.int .i64 x] h fun r h' => r = .bool false ∧ h' = h := by
  refine Sp.body f42 (by simp) ?_
  unfold c42
  refine C.seq fun K hK => hK .norm _ _ (C.seq fun K hK => ?_)
  simp only [↓opStep_eq, ↓reduceIte, ↓EW, EV, Nat.reduceAdd, Nat.reduceEqDiff, Int.reduceEq, Int.reduceLT, Int.reduceLE, Int.reduceNe, seqC, retC, skipC, exitC, blockC, condC, r42_1]
  exact hK _ _ _ (C.ret ⟨.inr rfl, _, rfl, by simp only [↓opStep_eq, ↓reduceIte, ↓EW, EV, Nat.reduceAdd, Nat.reduceEqDiff, Int.reduceEq, Int.reduceLT, Int.reduceLE, Int.reduceNe, seqC, retC, skipC, exitC, blockC, condC, resOf], rfl⟩)
def cmpI (x y : Int) : Int := if x < y then -1 else if y < x then 1 else 0
theorem compare_law (L n : Nat) (x y : Int) (h : H) : Sp (CF L (n + 2)) 30 [.int .i64 x, .int .i64 y] h fun r h' => r = .int .i64 (cmpI x y) ∧ h' = h := by
  refine Sp.body f30 (by simp) ?_
  unfold c30
  refine C.seq fun K hK => hK .norm _ _ (C.seq fun K hK => ?_)
  simp only [↓opStep_eq, ↓reduceIte, ↓EW, EV, Nat.reduceAdd, Nat.reduceEqDiff, Int.reduceEq, Int.reduceLT, Int.reduceLE, Int.reduceNe, seqC, retC, skipC, exitC, blockC, condC, r30_1]
  refine nan_law L n x h _ fun r h1 hq => ?_
  obtain ⟨rfl, rfl⟩ := hq
  refine hK _ _ _ (C.seq fun K hK => ?_)
  simp only [↓opStep_eq, ↓reduceIte, ↓EW, EV, Nat.reduceAdd, Nat.reduceEqDiff, Int.reduceEq, Int.reduceLT, Int.reduceLE, Int.reduceNe, seqC, retC, skipC, exitC, blockC, condC, r30_2]
  refine nan_law L n y _ _ fun r h1 hq => ?_
  obtain ⟨rfl, rfl⟩ := hq
  refine hK _ _ _ (C.seq (C.seq fun K hK => ?_))
  simp only [↓opStep_eq, ↓reduceIte, ↓EW, EV, Nat.reduceAdd, Nat.reduceEqDiff, Int.reduceEq, Int.reduceLT, Int.reduceLE, Int.reduceNe, seqC, retC, skipC, exitC, blockC, condC, r30_3]
  refine hK _ _ _ (C.cond false (by simp only [↓opStep_eq, ↓reduceIte, ↓EW, EV, Nat.reduceAdd, Nat.reduceEqDiff, Int.reduceEq, Int.reduceLT, Int.reduceLE, Int.reduceNe, seqC, retC, skipC, exitC, blockC, condC]) (fun g => by cases g) fun g => C.skip (C.seq (C.seq fun K hK => ?_)))
  simp only [↓opStep_eq, ↓reduceIte, ↓EW, EV, Nat.reduceAdd, Nat.reduceEqDiff, Int.reduceEq, Int.reduceLT, Int.reduceLE, Int.reduceNe, seqC, retC, skipC, exitC, blockC, condC, r30_7]
  refine hK _ _ _ (C.cond false (by simp only [↓opStep_eq, ↓reduceIte, ↓EW, EV, Nat.reduceAdd, Nat.reduceEqDiff, Int.reduceEq, Int.reduceLT, Int.reduceLE, Int.reduceNe, seqC, retC, skipC, exitC, blockC, condC]) (fun g => by cases g) fun g => C.skip (C.seq (C.seq fun K hK => ?_)))
  simp only [↓opStep_eq, ↓reduceIte, ↓EW, EV, Nat.reduceAdd, Nat.reduceEqDiff, Int.reduceEq, Int.reduceLT, Int.reduceLE, Int.reduceNe, seqC, retC, skipC, exitC, blockC, condC, r30_9]
  refine hK _ _ _ (C.cond (decide (x < y)) (by simp only [↓opStep_eq, ↓reduceIte, ↓EW, EV, Nat.reduceAdd, Nat.reduceEqDiff, Int.reduceEq, Int.reduceLT, Int.reduceLE, Int.reduceNe, seqC, retC, skipC, exitC, blockC, condC]) (fun g => C.seq fun K hK => hK .norm _ _ (C.ret ⟨.inr rfl, _, rfl, ?_, rfl⟩)) fun g => C.skip (C.seq (C.seq fun K hK => ?_)))
  · have g := of_decide_eq_true g
    simp only [↓opStep_eq, ↓reduceIte, ↓EW, EV, Nat.reduceAdd, Nat.reduceEqDiff, Int.reduceEq, Int.reduceLT, Int.reduceLE, Int.reduceNe, seqC, retC, skipC, exitC, blockC, condC, resOf, cmpI, if_pos g]
  · have g := of_decide_eq_false g
    simp only [↓opStep_eq, ↓reduceIte, ↓EW, EV, Nat.reduceAdd, Nat.reduceEqDiff, Int.reduceEq, Int.reduceLT, Int.reduceLE, Int.reduceNe, seqC, retC, skipC, exitC, blockC, condC, r30_11]
    refine hK _ _ _ (C.cond (decide (y < x)) (by simp only [↓opStep_eq, ↓reduceIte, ↓EW, EV, Nat.reduceAdd, Nat.reduceEqDiff, Int.reduceEq, Int.reduceLT, Int.reduceLE, Int.reduceNe, seqC, retC, skipC, exitC, blockC, condC]) (fun g2 => C.seq fun K hK => hK .norm _ _ (C.ret ⟨.inr rfl, _, rfl, ?_, rfl⟩)) fun g2 => C.skip (C.seq fun K hK => hK .norm _ _ (C.ret ⟨.inr rfl, _, rfl, ?_, rfl⟩)))
    · have g2 := of_decide_eq_true g2
      simp only [↓opStep_eq, ↓reduceIte, ↓EW, EV, Nat.reduceAdd, Nat.reduceEqDiff, Int.reduceEq, Int.reduceLT, Int.reduceLE, Int.reduceNe, seqC, retC, skipC, exitC, blockC, condC, resOf, cmpI, if_neg g, if_pos g2]
    · have g2 := of_decide_eq_false g2
      simp only [↓opStep_eq, ↓reduceIte, ↓EW, EV, Nat.reduceAdd, Nat.reduceEqDiff, Int.reduceEq, Int.reduceLT, Int.reduceLE, Int.reduceNe, seqC, retC, skipC, exitC, blockC, condC, resOf, cmpI, if_neg g, if_neg g2]

theorem f56 : funcB Try.prog (maskOf masks) outside NG 56 = ⟨fun _ _ args h K => xK (xVal .cmp args) h K⟩ := by kernel_rfl
theorem cmpstr_law (L n : Nat) (x y : ByteArray) (h : H) : Sp (CF L (n + 1)) 56 [.string x, .string y] h fun r h' => r = .int .i64 (Go.Lib.compareBytes x.data.toList y.data.toList) ∧ h' = h := fun K hK => by
  show (funcB Try.prog (maskOf masks) outside NG 56).f _ L [.string x, .string y] h K = true
  rw [f56]
  exact hK _ _ ⟨by rw [← Go.Lib.cmp_eq], rfl⟩
theorem strings_law (L n : Nat) (x y : ByteArray) (h : H) : Sp (CF L (n + 3)) 31 [.string x, .string y] h fun r h' => r = .int .i64 (Go.Lib.compareBytes x.data.toList y.data.toList) ∧ h' = h := by
  have in42 : Sp (CF L (n + 2)) 43 [.string x, .string y] h fun r h' => r = .int .i64 (Go.Lib.compareBytes x.data.toList y.data.toList) ∧ h' = h := by
    refine Sp.body f43 (by simp) ?_
    unfold c43
    refine C.seq fun K hK => hK .norm _ _ (C.seq fun K hK => ?_)
    simp only [↓opStep_eq, ↓reduceIte, ↓EW, EV, Nat.reduceAdd, Nat.reduceEqDiff, Int.reduceEq, Int.reduceLT, Int.reduceLE, Int.reduceNe, seqC, retC, skipC, exitC, blockC, condC, r43_1]
    refine cmpstr_law L n x y h _ fun r h1 hq => ?_
    obtain ⟨rfl, rfl⟩ := hq
    exact hK _ _ _ (C.ret ⟨.inr rfl, _, rfl, by simp only [↓opStep_eq, ↓reduceIte, ↓EW, EV, Nat.reduceAdd, Nat.reduceEqDiff, Int.reduceEq, Int.reduceLT, Int.reduceLE, Int.reduceNe, seqC, retC, skipC, exitC, blockC, condC, resOf], rfl⟩)
  refine Sp.body f31 (by simp) ?_
  unfold c31
  refine C.seq fun K hK => hK .norm _ _ (C.seq fun K hK => ?_)
  simp only [↓opStep_eq, ↓reduceIte, ↓EW, EV, Nat.reduceAdd, Nat.reduceEqDiff, Int.reduceEq, Int.reduceLT, Int.reduceLE, Int.reduceNe, seqC, retC, skipC, exitC, blockC, condC, r31_1]
  refine in42 _ fun r h1 hq => ?_
  obtain ⟨rfl, rfl⟩ := hq
  exact hK _ _ _ (C.ret ⟨.inr rfl, _, rfl, by simp only [↓opStep_eq, ↓reduceIte, ↓EW, EV, Nat.reduceAdd, Nat.reduceEqDiff, Int.reduceEq, Int.reduceLT, Int.reduceLE, Int.reduceNe, seqC, retC, skipC, exitC, blockC, condC, resOf], rfl⟩)
theorem veq_str (s : ByteArray) : veq 64 (.string s) (.string s) = true := by
  show leB s.data.toList s.data.toList = true
  rw [leB_eq]; simp
theorem hO_str (s : ByteArray) (b : Bool) : hO (some (.string s)) (.string s) b = b := by unfold hO; simp only [veq_str]

theorem or_ltN (x y : Nm) : (if cmpI x.1 y.1 ≠ 0 then cmpI x.1 y.1 else Go.Lib.compareBytes x.2.data.toList y.2.data.toList) < 0 ↔ ltN x y := by
  have hc := (cmp_ltB x.2.data.toList y.2.data.toList).1
  rcases Int.lt_trichotomy x.1 y.1 with h1 | h1 | h1
  · have e : cmpI x.1 y.1 = -1 := by unfold cmpI; rw [if_pos h1]
    rw [e, if_pos (by decide)]
    exact ⟨fun _ => .inl h1, fun _ => by decide⟩
  · have e : cmpI x.1 y.1 = 0 := by unfold cmpI; rw [if_neg (by omega), if_neg (by omega)]
    rw [e, if_neg (by decide), hc]
    exact ⟨fun h => .inr ⟨h1, h⟩, fun h => h.elim (fun h => by omega) fun h => h.2⟩
  · have e : cmpI x.1 y.1 = 1 := by unfold cmpI; rw [if_neg (by omega), if_pos h1]
    rw [e, if_pos (by decide)]
    exact ⟨fun h => absurd h (by decide), fun h => h.elim (fun h => by omega) fun h => by omega⟩
end Go.Proofs.Ytpoedopdcpejmaa

namespace Go.Proofs.Ytpoedopdcpejmaa
open Go.Ev

/-! ### names being gathered -/
def cellsN : List Nm → List Value
  | [] => []
  | x :: r => .int .i64 x.1 :: .string x.2 :: cellsN r
theorem cellsN_len : ∀ ns, (cellsN ns).length = 2 * ns.length
  | [] => rfl
  | x :: r => by simp [cellsN, cellsN_len r]; omega
theorem cellsN_append : ∀ a b, cellsN (a ++ b) = cellsN a ++ cellsN b
  | [], b => rfl
  | x :: r, b => by simp [cellsN, cellsN_append r b]
theorem cellsN_at : ∀ (ns : List Nm) (k : Nat) (x : Nm), ns[k]? = some x → (cellsN ns)[2 * k]? = some (.int .i64 x.1) ∧ (cellsN ns)[2 * k + 1]? = some (.string x.2)
  | [], k, x, h => by simp at h
  | y :: r, 0, x, h => by simp at h; subst h; exact ⟨rfl, rfl⟩
  | y :: r, k + 1, x, h => by
    have := cellsN_at r k x (by simpa using h)
    rw [show 2 * (k + 1) = 2 * k + 1 + 1 by omega]
    simpa [cellsN] using this
def OpenC2 (cap : Nat) : Prop := Nat.ble OPEN cap = true ∧ Nat.beq (szOf cap) 2 = true
theorem openC2 (lb : Nat) : OpenC2 (opCap lb 2) := ⟨Nat.ble_eq_true_of_le (open_opCap lb 2), by rw [szOf_opCap (by omega)]; rfl⟩
theorem mkN (b : Nat) (t : Int) (k : ByteArray) : mkLit 1 b (fill (repl [(.int .i64 (0)), (.string (strB []))] 1) (pl 2) [(0, nameV t k)]) = some (.rw [.int .i64 t, .string k], .slice (some ⟨b, 0, none⟩) 1 1) := rfl

end Go.Proofs.Ytpoedopdcpejmaa

namespace Go.Proofs.Ytpoedopdcpejmaa
open Go.Ev

theorem strV_lss (t : TypeId) (c : Bool) (x y : ByteArray) : binV Try.prog .lss t c (.string x) (.string y) = some (.bool (ltB x.data.toList y.data.toList)) := rfl
theorem r17_1_eq {call : CallT} {L : Nat} {tm : T Value} {h : H} {K : KE} {x y : Nm} {p q : Nat} (hp : Has h p (.rw [.int .i64 x.1, .string x.2])) (hq : Has h q (.rw [.int .i64 y.1, .string y.2])) (t2 : tg tm 2 = .pointer (some ⟨p, 0, none⟩)) (t3 : tg tm 3 = .pointer (some ⟨q, 0, none⟩)) (hlt : ltN x y) :
    r17_1 call L tm [] h K = K .norm (T.set tm 4 (.bool true)) [] h := by
  have l1 : ∀ o s, loadOne h (.pointer (some ⟨p, o, s⟩)) = [.int .i64 x.1, .string x.2][o]? := fun o s => loadOne_has hp rfl
  have l2 : ∀ o s, loadOne h (.pointer (some ⟨q, o, s⟩)) = [.int .i64 y.1, .string y.2][o]? := fun o s => loadOne_has hq rfl
  by_cases h1 : x.1 < y.1
  · simp only [↓opStep_eq, ↓reduceIte, ↓EW, EV, Nat.reduceAdd, Nat.reduceEqDiff, Int.reduceEq, Int.reduceLT, Int.reduceLE, Int.reduceNe, seqC, retC, skipC, exitC, blockC, condC, Bool.true_or, Bool.false_or, Bool.or_true, Bool.or_false, Bool.true_and, Bool.false_and, Bool.and_true, Bool.and_false, r17_1, t2, t3, l1, l2, h1]
  · rcases hlt with h2 | ⟨h2, h3⟩
    · exact absurd h2 h1
    · have h4 : ¬ y.1 < y.1 := by omega
      simp only [↓opStep_eq, ↓reduceIte, ↓EW, EV, Nat.reduceAdd, Nat.reduceEqDiff, Int.reduceEq, Int.reduceLT, Int.reduceLE, Int.reduceNe, seqC, retC, skipC, exitC, blockC, condC, Bool.true_or, Bool.false_or, Bool.or_true, Bool.or_false, Bool.true_and, Bool.false_and, Bool.and_true, Bool.and_false, r17_1, t2, t3, l1, l2, h2, h4, strV_lss, h3]
/-! ### the plain law: the names of numbers -/
def pick (back : Bool) (n i : Nat) : Nat := if back then n - 1 - i else i
end Go.Proofs.Ytpoedopdcpejmaa

namespace Go.Proofs.Ytpoedopdcpejmaa
open Go.Ev

/-! ### the document's rows -/
/-! ### names: the order, and which may be -/
instance decLt (x y : Nm) : Decidable (ltN x y) := by unfold ltN; infer_instance
theorem r17_1_all {call : CallT} {L : Nat} {tm : T Value} {h : H} {K : KE} {x y : Nm} {p q : Nat} (hp : Has h p (.rw [.int .i64 x.1, .string x.2])) (hq : Has h q (.rw [.int .i64 y.1, .string y.2])) (t2 : tg tm 2 = .pointer (some ⟨p, 0, none⟩)) (t3 : tg tm 3 = .pointer (some ⟨q, 0, none⟩)) :
    r17_1 call L tm [] h K = K .norm (T.set tm 4 (.bool (decide (ltN x y)))) [] h := by
  have l1 : ∀ o s, loadOne h (.pointer (some ⟨p, o, s⟩)) = [.int .i64 x.1, .string x.2][o]? := fun o s => loadOne_has hp rfl
  have l2 : ∀ o s, loadOne h (.pointer (some ⟨q, o, s⟩)) = [.int .i64 y.1, .string y.2][o]? := fun o s => loadOne_has hq rfl
  by_cases hlt : ltN x y
  · rw [decide_eq_true hlt]; exact r17_1_eq hp hq t2 t3 hlt
  · rw [decide_eq_false hlt]
    have h1 : ¬ x.1 < y.1 := fun h => hlt (.inl h)
    by_cases h2 : x.1 = y.1
    · have h3 : ltB x.2.data.toList y.2.data.toList = false := by
        cases hq : ltB x.2.data.toList y.2.data.toList with
        | true => exact absurd (.inr ⟨h2, hq⟩) hlt
        | false => rfl
      have h4 : ¬ y.1 < y.1 := by omega
      simp only [↓opStep_eq, ↓reduceIte, ↓EW, EV, Nat.reduceAdd, Nat.reduceEqDiff, Int.reduceEq, Int.reduceLT, Int.reduceLE, Int.reduceNe, seqC, retC, skipC, exitC, blockC, condC, Bool.true_or, Bool.false_or, Bool.or_true, Bool.or_false, Bool.true_and, Bool.false_and, Bool.and_true, Bool.and_false, r17_1, t2, t3, l1, l2, h2, h4, strV_lss, h3]
    · simp only [↓opStep_eq, ↓reduceIte, ↓EW, EV, Nat.reduceAdd, Nat.reduceEqDiff, Int.reduceEq, Int.reduceLT, Int.reduceLE, Int.reduceNe, seqC, retC, skipC, exitC, blockC, condC, Bool.true_or, Bool.false_or, Bool.or_true, Bool.or_false, Bool.true_and, Bool.false_and, Bool.and_true, Bool.and_false, r17_1, t2, t3, l1, l2, h1, h2]
theorem less_all (L n : Nat) (x y : Nm) (h : H) : Sp (CF L (n + 1)) 17 [x.v, y.v] h fun r h' => r = .bool (decide (ltN x y)) ∧ Keep nobody h h' := by
  refine Sp.body f17 (by simp) ?_
  unfold c17
  refine C.seq fun K hK => ?_
  have k1 := Keep.new h (.rw [.int .i64 x.1, .string x.2])
  have b1 := Has.new h (.rw [.int .i64 x.1, .string x.2])
  have hcx : (Value.cells x.v).toList = [.int .i64 x.1, .string x.2] := by simp [Nm.v]
  have hcy : (Value.cells y.v).toList = [.int .i64 y.1, .string y.2] := by simp [Nm.v]
  simp only [↓opStep_eq, ↓reduceIte, ↓EW, EV, Nat.reduceAdd, Nat.reduceEqDiff, Int.reduceEq, Int.reduceLT, Int.reduceLE, Int.reduceNe, seqC, retC, skipC, exitC, blockC, condC, r17_0, hcx, hcy]
  generalize h.new (.rw [.int .i64 x.1, .string x.2]) = h1 at *
  have k2 := Keep.new h1 (.rw [.int .i64 y.1, .string y.2])
  have b2 := Has.new h1 (.rw [.int .i64 y.1, .string y.2])
  generalize h1.new (.rw [.int .i64 y.1, .string y.2]) = h2 at *
  refine hK _ _ _ (C.seq fun K hK => ?_)
  rw [show ∀ x : CodeT, (⟨x⟩ : Box CodeT).f = x from fun _ => rfl]
  rw [r17_1_all (b1.keep0 k2) b2 (by simp only [↓opStep_eq, ↓reduceIte, ↓EW, EV, Nat.reduceAdd, Nat.reduceEqDiff, Int.reduceEq, Int.reduceLT, Int.reduceLE, Int.reduceNe, seqC, retC, skipC, exitC, blockC, condC]) (by simp only [↓opStep_eq, ↓reduceIte, ↓EW, EV, Nat.reduceAdd, Nat.reduceEqDiff, Int.reduceEq, Int.reduceLT, Int.reduceLE, Int.reduceNe, seqC, retC, skipC, exitC, blockC, condC])]
  exact hK _ _ _ (C.ret ⟨.inr rfl, _, rfl, by simp only [↓opStep_eq, ↓reduceIte, ↓EW, EV, Nat.reduceAdd, Nat.reduceEqDiff, Int.reduceEq, Int.reduceLT, Int.reduceLE, Int.reduceNe, seqC, retC, skipC, exitC, blockC, condC, resOf], k1.then k2⟩)

theorem tenant_law (L n : Nat) (t : Int) (h : H) : Sp (CF L (n + 1)) 57 [.int .i64 t] h fun r h' => r = .bool (decide (0 ≤ t ∧ t < 4)) ∧ h' = h := by
  refine Sp.body f57 (by simp) ?_
  unfold c57
  refine C.seq fun K hK => ?_
  simp only [↓opStep_eq, ↓reduceIte, ↓EW, EV, Nat.reduceAdd, Nat.reduceEqDiff, Int.reduceEq, Int.reduceLT, Int.reduceLE, Int.reduceNe, seqC, retC, skipC, exitC, blockC, condC, r57_0]
  refine hK .norm _ _ (C.seq fun K hK => ?_)
  by_cases h1 : 0 ≤ t
  · by_cases h2 : t < 4
    · simp only [↓opStep_eq, ↓reduceIte, ↓EW, EV, Nat.reduceAdd, Nat.reduceEqDiff, Int.reduceEq, Int.reduceLT, Int.reduceLE, Int.reduceNe, seqC, retC, skipC, exitC, blockC, condC, Bool.true_or, Bool.false_or, Bool.or_true, Bool.or_false, Bool.true_and, Bool.false_and, Bool.and_true, Bool.and_false, r57_1, h1, h2]
      exact hK _ _ _ (C.ret ⟨.inr rfl, _, rfl, by simp only [↓opStep_eq, ↓reduceIte, ↓EW, EV, Nat.reduceAdd, Nat.reduceEqDiff, Int.reduceEq, Int.reduceLT, Int.reduceLE, Int.reduceNe, seqC, retC, skipC, exitC, blockC, condC, resOf]; rw [decide_eq_true ⟨h1, h2⟩], rfl⟩)
    · simp only [↓opStep_eq, ↓reduceIte, ↓EW, EV, Nat.reduceAdd, Nat.reduceEqDiff, Int.reduceEq, Int.reduceLT, Int.reduceLE, Int.reduceNe, seqC, retC, skipC, exitC, blockC, condC, Bool.true_or, Bool.false_or, Bool.or_true, Bool.or_false, Bool.true_and, Bool.false_and, Bool.and_true, Bool.and_false, r57_1, h1, h2]
      exact hK _ _ _ (C.ret ⟨.inr rfl, _, rfl, by simp only [↓opStep_eq, ↓reduceIte, ↓EW, EV, Nat.reduceAdd, Nat.reduceEqDiff, Int.reduceEq, Int.reduceLT, Int.reduceLE, Int.reduceNe, seqC, retC, skipC, exitC, blockC, condC, resOf]; rw [decide_eq_false fun h => h2 h.2], rfl⟩)
  · simp only [↓opStep_eq, ↓reduceIte, ↓EW, EV, Nat.reduceAdd, Nat.reduceEqDiff, Int.reduceEq, Int.reduceLT, Int.reduceLE, Int.reduceNe, seqC, retC, skipC, exitC, blockC, condC, Bool.true_or, Bool.false_or, Bool.or_true, Bool.or_false, Bool.true_and, Bool.false_and, Bool.and_true, Bool.and_false, r57_1, h1]
    exact hK _ _ _ (C.ret ⟨.inr rfl, _, rfl, by simp only [↓opStep_eq, ↓reduceIte, ↓EW, EV, Nat.reduceAdd, Nat.reduceEqDiff, Int.reduceEq, Int.reduceLT, Int.reduceLE, Int.reduceNe, seqC, retC, skipC, exitC, blockC, condC, resOf]; rw [decide_eq_false fun h => h1 h.1], rfl⟩)
theorem key_law (L n : Nat) (k : ByteArray) (h : H) : Sp (CF L (n + 1)) 58 [.string k] h fun r h' => r = .bool (decide (1 ≤ (k.size : Int) ∧ (k.size : Int) ≤ 32)) ∧ h' = h := by
  refine Sp.body f58 (by simp) ?_
  unfold c58
  refine C.seq fun K hK => ?_
  simp only [↓opStep_eq, ↓reduceIte, ↓EW, EV, Nat.reduceAdd, Nat.reduceEqDiff, Int.reduceEq, Int.reduceLT, Int.reduceLE, Int.reduceNe, seqC, retC, skipC, exitC, blockC, condC, r58_0]
  refine hK .norm _ _ (C.seq fun K hK => ?_)
  by_cases h1 : 1 ≤ (k.size : Int)
  · by_cases h2 : (k.size : Int) ≤ 32
    · simp only [↓opStep_eq, ↓reduceIte, ↓EW, EV, Nat.reduceAdd, Nat.reduceEqDiff, Int.reduceEq, Int.reduceLT, Int.reduceLE, Int.reduceNe, seqC, retC, skipC, exitC, blockC, condC, Bool.true_or, Bool.false_or, Bool.or_true, Bool.or_false, Bool.true_and, Bool.false_and, Bool.and_true, Bool.and_false, r58_1, lenStr_string, h1, h2]
      exact hK _ _ _ (C.ret ⟨.inr rfl, _, rfl, by simp only [↓opStep_eq, ↓reduceIte, ↓EW, EV, Nat.reduceAdd, Nat.reduceEqDiff, Int.reduceEq, Int.reduceLT, Int.reduceLE, Int.reduceNe, seqC, retC, skipC, exitC, blockC, condC, resOf]; rw [decide_eq_true ⟨h1, h2⟩], rfl⟩)
    · simp only [↓opStep_eq, ↓reduceIte, ↓EW, EV, Nat.reduceAdd, Nat.reduceEqDiff, Int.reduceEq, Int.reduceLT, Int.reduceLE, Int.reduceNe, seqC, retC, skipC, exitC, blockC, condC, Bool.true_or, Bool.false_or, Bool.or_true, Bool.or_false, Bool.true_and, Bool.false_and, Bool.and_true, Bool.and_false, r58_1, lenStr_string, h1, h2]
      exact hK _ _ _ (C.ret ⟨.inr rfl, _, rfl, by simp only [↓opStep_eq, ↓reduceIte, ↓EW, EV, Nat.reduceAdd, Nat.reduceEqDiff, Int.reduceEq, Int.reduceLT, Int.reduceLE, Int.reduceNe, seqC, retC, skipC, exitC, blockC, condC, resOf]; rw [decide_eq_false fun h => h2 h.2], rfl⟩)
  · simp only [↓opStep_eq, ↓reduceIte, ↓EW, EV, Nat.reduceAdd, Nat.reduceEqDiff, Int.reduceEq, Int.reduceLT, Int.reduceLE, Int.reduceNe, seqC, retC, skipC, exitC, blockC, condC, Bool.true_or, Bool.false_or, Bool.or_true, Bool.or_false, Bool.true_and, Bool.false_and, Bool.and_true, Bool.and_false, r58_1, lenStr_string, h1]
    exact hK _ _ _ (C.ret ⟨.inr rfl, _, rfl, by simp only [↓opStep_eq, ↓reduceIte, ↓EW, EV, Nat.reduceAdd, Nat.reduceEqDiff, Int.reduceEq, Int.reduceLT, Int.reduceLE, Int.reduceNe, seqC, retC, skipC, exitC, blockC, condC, resOf]; rw [decide_eq_false fun h => h1 h.1], rfl⟩)
theorem name43_law (L n : Nat) (t : Int) (k : ByteArray) (h : H) : Sp (CF L (n + 2)) 44 [nameV t k] h fun r h' => r = .bool (decide (validN t k)) ∧ Keep nobody h h' := by
  refine Sp.body f44 (by simp) ?_
  unfold c44
  have k1 := Keep.new h (.rw [.int .i64 t, .string k])
  have b1 := Has.new h (.rw [.int .i64 t, .string k])
  refine C.seq fun K hK => ?_
  simp only [↓opStep_eq, ↓reduceIte, ↓EW, EV, Nat.reduceAdd, Nat.reduceEqDiff, Int.reduceEq, Int.reduceLT, Int.reduceLE, Int.reduceNe, seqC, retC, skipC, exitC, blockC, condC, r44_0, cells_agg]
  generalize h.new (.rw [.int .i64 t, .string k]) = h1 at *
  have ld : ∀ o s, loadOne h1 (.pointer (some ⟨h.next, o, s⟩)) = [.int .i64 t, .string k][o]? := fun o s => loadOne_has b1 rfl
  refine hK _ _ _ (C.seq fun K hK => ?_)
  unfold r44_1
  simp only [↓opStep_eq, ↓reduceIte, ↓EW, EV, Nat.reduceAdd, Nat.reduceEqDiff, Int.reduceEq, Int.reduceLT, Int.reduceLE, Int.reduceNe, seqC, retC, skipC, exitC, blockC, condC, ld]
  refine tenant_law L n t h1 _ fun r h2 hq => ?_
  obtain ⟨rfl, rfl⟩ := hq
  by_cases ht : 0 ≤ t ∧ t < 4
  · rw [decide_eq_true ht]
    simp only [↓opStep_eq, ↓reduceIte, ↓EW, EV, Nat.reduceAdd, Nat.reduceEqDiff, Int.reduceEq, Int.reduceLT, Int.reduceLE, Int.reduceNe, seqC, retC, skipC, exitC, blockC, condC, Bool.true_or, Bool.false_or, Bool.or_true, Bool.or_false, Bool.true_and, Bool.false_and, Bool.and_true, Bool.and_false, ld]
    refine key_law L n k _ _ fun r h2 hq => ?_
    obtain ⟨rfl, rfl⟩ := hq
    generalize hb : decide (1 ≤ (k.size : Int) ∧ (k.size : Int) ≤ 32) = bk
    refine hK _ _ _ (C.ret ⟨.inr rfl, _, rfl, ?_, k1⟩)
    simp only [↓opStep_eq, ↓reduceIte, ↓EW, EV, Nat.reduceAdd, Nat.reduceEqDiff, Int.reduceEq, Int.reduceLT, Int.reduceLE, Int.reduceNe, seqC, retC, skipC, exitC, blockC, condC, resOf]
    rw [← hb]
    congr 1
    exact decide_eq_decide.2 ⟨fun h => ⟨ht.1, ht.2, by omega, by omega⟩, fun h => ⟨by have := h.2.2.1; omega, by have := h.2.2.2; omega⟩⟩
  · rw [decide_eq_false ht]
    simp only [↓opStep_eq, ↓reduceIte, ↓EW, EV, Nat.reduceAdd, Nat.reduceEqDiff, Int.reduceEq, Int.reduceLT, Int.reduceLE, Int.reduceNe, seqC, retC, skipC, exitC, blockC, condC, Bool.true_or, Bool.false_or, Bool.or_true, Bool.or_false, Bool.true_and, Bool.false_and, Bool.and_true, Bool.and_false]
    refine hK _ _ _ (C.ret ⟨.inr rfl, _, rfl, ?_, k1⟩)
    simp only [↓opStep_eq, ↓reduceIte, ↓EW, EV, Nat.reduceAdd, Nat.reduceEqDiff, Int.reduceEq, Int.reduceLT, Int.reduceLE, Int.reduceNe, seqC, retC, skipC, exitC, blockC, condC, resOf]
    congr 1
    exact (decide_eq_false fun h => ht ⟨h.1, h.2.1⟩).symm
end Go.Proofs.Ytpoedopdcpejmaa

namespace Go.Proofs.Ytpoedopdcpejmaa
open Go.Ev

theorem cells2 (t : Int) (k : ByteArray) : (Value.cells (nameV t k)).toList = [.int .i64 t, .string k] := by simp

end Go.Proofs.Ytpoedopdcpejmaa

namespace Go.Proofs.Ytpoedopdcpejmaa
open Go.Ev

/-! ### the document's names -/
def Rn (h : H) (v : Value) (n : Nat) (f : Nat → Nm) : Prop := (v = .slice none 0 0 ∧ n = 0) ∨ ∃ B, Arr h B v n f
theorem Rn.keep0 {h h' : H} {v : Value} {n : Nat} {f : Nat → Nm} (a : Rn h v n f) (k : Keep nobody h h') : Rn h' v n f := by
  rcases a with a | ⟨B, a⟩
  · exact .inl a
  · exact .inr ⟨B, a.keep0 k⟩
theorem Rn.len {h : H} {v : Value} {n : Nat} {f : Nat → Nm} (a : Rn h v n f) : lenSl v = some (.int .i64 (n : Int)) := by
  rcases a with ⟨rfl, rfl⟩ | ⟨B, a⟩
  · rfl
  · exact a.len
theorem Rn.at {h : H} {v : Value} {n : Nat} {f : Nat → Nm} (a : Rn h v n f) {i : Nat} (hi : i < n) : ∃ b, indexSl 2 v (.int .i64 (i : Int)) = some (.pointer (some ⟨b, i * 2, none⟩)) ∧ ∀ s, loadAgg 2 h (.pointer (some ⟨b, i * 2, s⟩)) = some (f i).v := by
  rcases a with ⟨rfl, rfl⟩ | ⟨B, a⟩
  · omega
  · exact ⟨B, a.ix hi, a.ld hi⟩

theorem name_neq (t t' : Int) (k k' : ByteArray) : binV Try.prog .neq 39 false (nameV t k) (nameV t' k') = some (.bool (!decide (t = t' ∧ k = k'))) := by
  show aggEq Try.prog .neq 39 (nameV t k) (nameV t' k') = _
  unfold aggEq
  rw [guard39]
  show boolRes .neq (eqV Try.prog 200 39 (nameV t k) (nameV t' k')) = _
  rw [show nameV t k = .agg #[.int .i64 t, .string k] from rfl, show nameV t' k' = .agg #[.int .i64 t', .string k'] from rfl, eqv_name]
  simp only [leB_eq, iEq_dec, chain]
  by_cases h1 : t = t'
  · by_cases h2 : k = k'
    · subst h1; subst h2; simp; rfl
    · have h3 : (k.data.toList == k'.data.toList) = false := by
        rw [beq_eq_false_iff_ne]; exact fun h => h2 ((bytes_eq _ _).1 h)
      rw [h3, decide_eq_true h1, decide_eq_false (fun h => h2 h.2)]; rfl
  · rw [decide_eq_false h1, decide_eq_false (fun h => h1 h.1)]; rfl
theorem name_neq_self (x : Nm) : binV Try.prog .neq 39 false x.v x.v = some (.bool false) := by
  have h := name_neq x.1 x.1 x.2 x.2
  rw [decide_eq_true ⟨rfl, rfl⟩] at h
  exact h

/-! ### two rows in order that have the same names -/
end Go.Proofs.Ytpoedopdcpejmaa
