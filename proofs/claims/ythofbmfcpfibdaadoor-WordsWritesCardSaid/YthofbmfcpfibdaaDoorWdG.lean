import Derived.Test.YthofbmfcpfibdaaDoorWdC
set_option linter.unusedSimpArgs false
set_option linter.unusedVariables false
namespace Go.Proofs.YthofbmfcpfibdaaDoor
open Go.Ev

def zeroB (a : Ans) (len : Int) : Bool := decide (a.of = 0) && decide (a.r.kind = 0) && decide (a.r.num = 0) && decide (len = 0)
def yesB (a : Ans) : Bool := a.yes && !decide (a.kind = 2) && !decide (a.kind = 3)
def keyB (a : Ans) (ks : Int) : Bool := if a.kind = 7 then decide (1 ≤ ks) && decide (ks ≤ 32) else decide (ks = 0)
def bodyB (a : Ans) : Bool := if a.kind = 1 then resultB a.of a.r else decide (1 < a.kind) && decide (a.kind ≤ 7) && zeroB a a.r.items.length
/-- which answers may be -/
def mayB (a : Ans) : Bool := bodyB a && keyB a a.key.size && !yesB a

section
variable {call : CallT} {L : Nat} {tm : T Value} {h : H} {b : Nat} {K : KE} {a : Ans}
theorem reg15_4 (hl : ∀ o s, loadOne h (.pointer (some ⟨b, o, s⟩)) = a.cells[o]?) (t1 : tg tm 1 = .pointer (some ⟨b, 0, none⟩)) :
    r11_4 call L tm [] h K = K .norm (T.set tm 13 (.bool (decide (1 < a.kind) && decide (a.kind ≤ 7)))) [] h := by
  by_cases h1 : 1 < a.kind <;> by_cases h2 : a.kind ≤ 7 <;> simp only [r11_4, ↓opStep_eq, ↓reduceIte, ↓EW, EV, Nat.reduceAdd, Nat.reduceEqDiff, Int.reduceEq, Int.reduceLT, Int.reduceLE, Int.reduceNe, seqC, retC, skipC, exitC, blockC, condC, Bool.true_or, Bool.false_or, Bool.or_true, Bool.or_false, Bool.true_and, Bool.false_and, Bool.and_true, Bool.and_false, t1, hl, Ans.cells, h1, h2]
theorem reg15_5 (hl : ∀ o s, loadOne h (.pointer (some ⟨b, o, s⟩)) = a.cells[o]?) (t1 : tg tm 1 = .pointer (some ⟨b, 0, none⟩)) {len : Int} (hn : lenSl a.r.iv = some (.int .i64 len)) :
    r11_5 call L tm [] h K = K .norm (T.set tm 3 (.bool (zeroB a len))) [] h := by
  by_cases h1 : a.of = 0
  · by_cases h2 : a.r.kind = 0
    · by_cases h3 : a.r.num = 0
      · by_cases h4 : len = 0 <;> simp only [r11_5, ↓opStep_eq, ↓reduceIte, ↓EW, EV, Nat.reduceAdd, Nat.reduceEqDiff, Int.reduceEq, Int.reduceLT, Int.reduceLE, Int.reduceNe, seqC, retC, skipC, exitC, blockC, condC, Bool.true_or, Bool.false_or, Bool.or_true, Bool.or_false, Bool.true_and, Bool.false_and, Bool.and_true, Bool.and_false, t1, hl, Ans.cells, zeroB, hn, h1, h2, h3, h4]
      · simp only [r11_5, ↓opStep_eq, ↓reduceIte, ↓EW, EV, Nat.reduceAdd, Nat.reduceEqDiff, Int.reduceEq, Int.reduceLT, Int.reduceLE, Int.reduceNe, seqC, retC, skipC, exitC, blockC, condC, Bool.true_or, Bool.false_or, Bool.or_true, Bool.or_false, Bool.true_and, Bool.false_and, Bool.and_true, Bool.and_false, t1, hl, Ans.cells, zeroB, hn, h1, h2, h3]
    · simp only [r11_5, ↓opStep_eq, ↓reduceIte, ↓EW, EV, Nat.reduceAdd, Nat.reduceEqDiff, Int.reduceEq, Int.reduceLT, Int.reduceLE, Int.reduceNe, seqC, retC, skipC, exitC, blockC, condC, Bool.true_or, Bool.false_or, Bool.or_true, Bool.or_false, Bool.true_and, Bool.false_and, Bool.and_true, Bool.and_false, t1, hl, Ans.cells, zeroB, hn, h1, h2]
  · simp only [r11_5, ↓opStep_eq, ↓reduceIte, ↓EW, EV, Nat.reduceAdd, Nat.reduceEqDiff, Int.reduceEq, Int.reduceLT, Int.reduceLE, Int.reduceNe, seqC, retC, skipC, exitC, blockC, condC, Bool.true_or, Bool.false_or, Bool.or_true, Bool.or_false, Bool.true_and, Bool.false_and, Bool.and_true, Bool.and_false, t1, hl, Ans.cells, zeroB, hn, h1]
theorem reg15_7 (hl : ∀ o s, loadOne h (.pointer (some ⟨b, o, s⟩)) = a.cells[o]?) (t1 : tg tm 1 = .pointer (some ⟨b, 0, none⟩)) {g : Bool} (t3 : tg tm 3 = .bool g) {ks : Int} (hn : lenStr (.string a.key) = some (.int .i64 ks)) :
    r11_7 call L tm [] h K = K .norm (T.set tm 3 (.bool (g && decide (1 ≤ ks) && decide (ks ≤ 32)))) [] h := by
  cases g
  · simp only [r11_7, ↓opStep_eq, ↓reduceIte, ↓EW, EV, Nat.reduceAdd, Nat.reduceEqDiff, Int.reduceEq, Int.reduceLT, Int.reduceLE, Int.reduceNe, seqC, retC, skipC, exitC, blockC, condC, Bool.true_or, Bool.false_or, Bool.or_true, Bool.or_false, Bool.true_and, Bool.false_and, Bool.and_true, Bool.and_false, t1, t3, hl, Ans.cells, hn]
  · by_cases h1 : 1 ≤ ks
    · by_cases h2 : ks ≤ 32 <;> simp only [r11_7, ↓opStep_eq, ↓reduceIte, ↓EW, EV, Nat.reduceAdd, Nat.reduceEqDiff, Int.reduceEq, Int.reduceLT, Int.reduceLE, Int.reduceNe, seqC, retC, skipC, exitC, blockC, condC, Bool.true_or, Bool.false_or, Bool.or_true, Bool.or_false, Bool.true_and, Bool.false_and, Bool.and_true, Bool.and_false, t1, t3, hl, Ans.cells, hn, h1, h2]
    · simp only [r11_7, ↓opStep_eq, ↓reduceIte, ↓EW, EV, Nat.reduceAdd, Nat.reduceEqDiff, Int.reduceEq, Int.reduceLT, Int.reduceLE, Int.reduceNe, seqC, retC, skipC, exitC, blockC, condC, Bool.true_or, Bool.false_or, Bool.or_true, Bool.or_false, Bool.true_and, Bool.false_and, Bool.and_true, Bool.and_false, t1, t3, hl, Ans.cells, hn, h1]
theorem reg15_8 (hl : ∀ o s, loadOne h (.pointer (some ⟨b, o, s⟩)) = a.cells[o]?) (t1 : tg tm 1 = .pointer (some ⟨b, 0, none⟩)) {g : Bool} (t3 : tg tm 3 = .bool g) {ks : Int} (hn : (a.key.size : Int) = ks) :
    r11_8 call L tm [] h K = K .norm (T.set tm 3 (.bool (g && decide (ks = 0)))) [] h := by
  have he := str_empty (P := Tryd.prog) 9 true a.key
  rw [hn] at he
  cases g
  · simp only [r11_8, ↓opStep_eq, ↓reduceIte, ↓EW, EV, Nat.reduceAdd, Nat.reduceEqDiff, Int.reduceEq, Int.reduceLT, Int.reduceLE, Int.reduceNe, seqC, retC, skipC, exitC, blockC, condC, Bool.true_or, Bool.false_or, Bool.or_true, Bool.or_false, Bool.true_and, Bool.false_and, Bool.and_true, Bool.and_false, t1, t3, hl, Ans.cells, he]
  · by_cases h1 : ks = 0 <;> simp only [r11_8, ↓opStep_eq, ↓reduceIte, ↓EW, EV, Nat.reduceAdd, Nat.reduceEqDiff, Int.reduceEq, Int.reduceLT, Int.reduceLE, Int.reduceNe, seqC, retC, skipC, exitC, blockC, condC, Bool.true_or, Bool.false_or, Bool.or_true, Bool.or_false, Bool.true_and, Bool.false_and, Bool.and_true, Bool.and_false, t1, t3, hl, Ans.cells, he, h1]
theorem reg15_9 (hl : ∀ o s, loadOne h (.pointer (some ⟨b, o, s⟩)) = a.cells[o]?) (t1 : tg tm 1 = .pointer (some ⟨b, 0, none⟩)) {g : Bool} (t3 : tg tm 3 = .bool g) :
    r11_9 call L tm [] h K = K .norm (T.set tm 81 (.bool (!g || yesB a))) [] h := by
  cases g
  · simp only [r11_9, ↓opStep_eq, ↓reduceIte, ↓EW, EV, Nat.reduceAdd, Nat.reduceEqDiff, Int.reduceEq, Int.reduceLT, Int.reduceLE, Int.reduceNe, seqC, retC, skipC, exitC, blockC, condC, Bool.true_or, Bool.false_or, Bool.or_true, Bool.or_false, Bool.true_and, Bool.false_and, Bool.and_true, Bool.and_false, t1, t3, hl, Ans.cells]
  · cases h1 : a.yes
    · simp only [r11_9, ↓opStep_eq, ↓reduceIte, ↓EW, EV, Nat.reduceAdd, Nat.reduceEqDiff, Int.reduceEq, Int.reduceLT, Int.reduceLE, Int.reduceNe, seqC, retC, skipC, exitC, blockC, condC, Bool.true_or, Bool.false_or, Bool.or_true, Bool.or_false, Bool.true_and, Bool.false_and, Bool.and_true, Bool.and_false, t1, t3, hl, Ans.cells, h1, yesB]
    · by_cases h2 : a.kind = 2
      · simp only [r11_9, ↓opStep_eq, ↓reduceIte, ↓EW, EV, Nat.reduceAdd, Nat.reduceEqDiff, Int.reduceEq, Int.reduceLT, Int.reduceLE, Int.reduceNe, seqC, retC, skipC, exitC, blockC, condC, Bool.true_or, Bool.false_or, Bool.or_true, Bool.or_false, Bool.true_and, Bool.false_and, Bool.and_true, Bool.and_false, t1, t3, hl, Ans.cells, h1, h2, yesB]
      · by_cases h3 : a.kind = 3 <;> simp only [r11_9, ↓opStep_eq, ↓reduceIte, ↓EW, EV, Nat.reduceAdd, Nat.reduceEqDiff, Int.reduceEq, Int.reduceLT, Int.reduceLE, Int.reduceNe, seqC, retC, skipC, exitC, blockC, condC, Bool.true_or, Bool.false_or, Bool.or_true, Bool.or_false, Bool.true_and, Bool.false_and, Bool.and_true, Bool.and_false, t1, t3, hl, Ans.cells, h1, h2, h3, yesB]

theorem reg19_1 (hl : ∀ o s, loadOne h (.pointer (some ⟨b, o, s⟩)) = a.cells[o]?) (t1 : tg tm 1 = .pointer (some ⟨b, 0, none⟩)) :
    r24_1 call L tm [] h K = K .norm (T.set tm 26 (.bool (decide (a.kind < 1) || decide (7 < a.kind) || yesB a))) [] h := by
  by_cases h1 : a.kind < 1
  · simp only [r24_1, ↓opStep_eq, ↓reduceIte, ↓EW, EV, Nat.reduceAdd, Nat.reduceEqDiff, Int.reduceEq, Int.reduceLT, Int.reduceLE, Int.reduceNe, seqC, retC, skipC, exitC, blockC, condC, Bool.true_or, Bool.false_or, Bool.or_true, Bool.or_false, Bool.true_and, Bool.false_and, Bool.and_true, Bool.and_false, t1, hl, Ans.cells, h1]
  by_cases h2 : 7 < a.kind
  · simp only [r24_1, ↓opStep_eq, ↓reduceIte, ↓EW, EV, Nat.reduceAdd, Nat.reduceEqDiff, Int.reduceEq, Int.reduceLT, Int.reduceLE, Int.reduceNe, seqC, retC, skipC, exitC, blockC, condC, Bool.true_or, Bool.false_or, Bool.or_true, Bool.or_false, Bool.true_and, Bool.false_and, Bool.and_true, Bool.and_false, t1, hl, Ans.cells, h1, h2]
  cases h3 : a.yes
  · simp only [r24_1, ↓opStep_eq, ↓reduceIte, ↓EW, EV, Nat.reduceAdd, Nat.reduceEqDiff, Int.reduceEq, Int.reduceLT, Int.reduceLE, Int.reduceNe, seqC, retC, skipC, exitC, blockC, condC, Bool.true_or, Bool.false_or, Bool.or_true, Bool.or_false, Bool.true_and, Bool.false_and, Bool.and_true, Bool.and_false, t1, hl, Ans.cells, h1, h2, h3, yesB]
  by_cases h4 : a.kind = 2
  · simp only [r24_1, ↓opStep_eq, ↓reduceIte, ↓EW, EV, Nat.reduceAdd, Nat.reduceEqDiff, Int.reduceEq, Int.reduceLT, Int.reduceLE, Int.reduceNe, seqC, retC, skipC, exitC, blockC, condC, Bool.true_or, Bool.false_or, Bool.or_true, Bool.or_false, Bool.true_and, Bool.false_and, Bool.and_true, Bool.and_false, t1, hl, Ans.cells, h1, h2, h3, h4, yesB]
  by_cases h5 : a.kind = 3 <;> simp only [r24_1, ↓opStep_eq, ↓reduceIte, ↓EW, EV, Nat.reduceAdd, Nat.reduceEqDiff, Int.reduceEq, Int.reduceLT, Int.reduceLE, Int.reduceNe, seqC, retC, skipC, exitC, blockC, condC, Bool.true_or, Bool.false_or, Bool.or_true, Bool.or_false, Bool.true_and, Bool.false_and, Bool.and_true, Bool.and_false, t1, hl, Ans.cells, h1, h2, h3, h4, h5, yesB]
theorem reg19_3 (hl : ∀ o s, loadOne h (.pointer (some ⟨b, o, s⟩)) = a.cells[o]?) (t1 : tg tm 1 = .pointer (some ⟨b, 0, none⟩)) {ks : Int} (hn : (a.key.size : Int) = ks) :
    r24_3 call L tm [] h K = K .norm (T.set tm 51 (.bool (!keyB a ks))) [] h := by
  have he := str_nempty (P := Tryd.prog) 9 true a.key
  have hs : lenStr (.string a.key) = some (.int .i64 ks) := by rw [lenStr_string, hn]
  rw [hn] at he
  by_cases h1 : a.kind = 7
  · by_cases h2 : ks < 1
    · have : ¬ 1 ≤ ks := by omega
      simp only [r24_3, ↓opStep_eq, ↓reduceIte, ↓EW, EV, Nat.reduceAdd, Nat.reduceEqDiff, Int.reduceEq, Int.reduceLT, Int.reduceLE, Int.reduceNe, seqC, retC, skipC, exitC, blockC, condC, Bool.true_or, Bool.false_or, Bool.or_true, Bool.or_false, Bool.true_and, Bool.false_and, Bool.and_true, Bool.and_false, t1, hl, Ans.cells, h1, h2, hs, he, keyB, this]
    have h2' : 1 ≤ ks := by omega
    by_cases h3 : 32 < ks
    · have : ¬ ks ≤ 32 := by omega
      simp only [r24_3, ↓opStep_eq, ↓reduceIte, ↓EW, EV, Nat.reduceAdd, Nat.reduceEqDiff, Int.reduceEq, Int.reduceLT, Int.reduceLE, Int.reduceNe, seqC, retC, skipC, exitC, blockC, condC, Bool.true_or, Bool.false_or, Bool.or_true, Bool.or_false, Bool.true_and, Bool.false_and, Bool.and_true, Bool.and_false, t1, hl, Ans.cells, h1, h2, h3, hs, he, keyB, this]
    have : ks ≤ 32 := by omega
    simp only [r24_3, ↓opStep_eq, ↓reduceIte, ↓EW, EV, Nat.reduceAdd, Nat.reduceEqDiff, Int.reduceEq, Int.reduceLT, Int.reduceLE, Int.reduceNe, seqC, retC, skipC, exitC, blockC, condC, Bool.true_or, Bool.false_or, Bool.or_true, Bool.or_false, Bool.true_and, Bool.false_and, Bool.and_true, Bool.and_false, t1, hl, Ans.cells, h1, h2, h3, hs, he, keyB, this, h2']
  · by_cases h2 : ks = 0 <;> simp only [r24_3, ↓opStep_eq, ↓reduceIte, ↓EW, EV, Nat.reduceAdd, Nat.reduceEqDiff, Int.reduceEq, Int.reduceLT, Int.reduceLE, Int.reduceNe, seqC, retC, skipC, exitC, blockC, condC, Bool.true_or, Bool.false_or, Bool.or_true, Bool.or_false, Bool.true_and, Bool.false_and, Bool.and_true, Bool.and_false, t1, hl, Ans.cells, h1, h2, hs, he, keyB]
theorem reg19_7 {b3 : Nat} (hl : ∀ o s, loadOne h (.pointer (some ⟨b, o, s⟩)) = a.cells[o]?) (t1 : tg tm 1 = .pointer (some ⟨b, 0, none⟩)) (hl3 : ∀ o s, loadOne h (.pointer (some ⟨b3, o, s⟩)) = a.r.cells[o]?) (t3 : tg tm 3 = .pointer (some ⟨b3, 0, none⟩))
    {len : Int} (hn : lenSl a.r.iv = some (.int .i64 len)) : r24_7 call L tm [] h K = K .norm (T.set tm 2 (.bool (zeroB a len))) [] h := by
  by_cases h1 : a.of = 0
  · by_cases h2 : a.r.kind = 0
    · by_cases h3 : a.r.num = 0
      · by_cases h4 : len = 0 <;> simp only [r24_7, ↓opStep_eq, ↓reduceIte, ↓EW, EV, Nat.reduceAdd, Nat.reduceEqDiff, Int.reduceEq, Int.reduceLT, Int.reduceLE, Int.reduceNe, seqC, retC, skipC, exitC, blockC, condC, Bool.true_or, Bool.false_or, Bool.or_true, Bool.or_false, Bool.true_and, Bool.false_and, Bool.and_true, Bool.and_false, t1, t3, hl, hl3, Ans.cells, Res.cells, zeroB, hn, h1, h2, h3, h4]
      · simp only [r24_7, ↓opStep_eq, ↓reduceIte, ↓EW, EV, Nat.reduceAdd, Nat.reduceEqDiff, Int.reduceEq, Int.reduceLT, Int.reduceLE, Int.reduceNe, seqC, retC, skipC, exitC, blockC, condC, Bool.true_or, Bool.false_or, Bool.or_true, Bool.or_false, Bool.true_and, Bool.false_and, Bool.and_true, Bool.and_false, t1, t3, hl, hl3, Ans.cells, Res.cells, zeroB, hn, h1, h2, h3]
    · simp only [r24_7, ↓opStep_eq, ↓reduceIte, ↓EW, EV, Nat.reduceAdd, Nat.reduceEqDiff, Int.reduceEq, Int.reduceLT, Int.reduceLE, Int.reduceNe, seqC, retC, skipC, exitC, blockC, condC, Bool.true_or, Bool.false_or, Bool.or_true, Bool.or_false, Bool.true_and, Bool.false_and, Bool.and_true, Bool.and_false, t1, t3, hl, hl3, Ans.cells, Res.cells, zeroB, hn, h1, h2]
  · simp only [r24_7, ↓opStep_eq, ↓reduceIte, ↓EW, EV, Nat.reduceAdd, Nat.reduceEqDiff, Int.reduceEq, Int.reduceLT, Int.reduceLE, Int.reduceNe, seqC, retC, skipC, exitC, blockC, condC, Bool.true_or, Bool.false_or, Bool.or_true, Bool.or_false, Bool.true_and, Bool.false_and, Bool.and_true, Bool.and_false, t1, t3, hl, hl3, Ans.cells, Res.cells, zeroB, hn, h1]
theorem reg19_8 {b3 : Nat} (hl : ∀ o s, loadOne h (.pointer (some ⟨b, o, s⟩)) = a.cells[o]?) (t1 : tg tm 1 = .pointer (some ⟨b, 0, none⟩)) (hl3 : ∀ o s, loadOne h (.pointer (some ⟨b3, o, s⟩)) = a.r.cells[o]?) (t3 : tg tm 3 = .pointer (some ⟨b3, 0, none⟩))
    {len : Int} (hn : lenSl a.r.iv = some (.int .i64 len)) : r24_8 call L tm [] h K = K .norm (T.set tm 99 (.bool (!kindsB a.of a.r.kind || decide (8 < len)))) [] h := by
  by_cases h1 : a.of < 1
  · simp only [r24_8, ↓opStep_eq, ↓reduceIte, ↓EW, EV, Nat.reduceAdd, Nat.reduceEqDiff, Int.reduceEq, Int.reduceLT, Int.reduceLE, Int.reduceNe, seqC, retC, skipC, exitC, blockC, condC, Bool.true_or, Bool.false_or, Bool.or_true, Bool.or_false, Bool.true_and, Bool.false_and, Bool.and_true, Bool.and_false, t1, t3, hl, hl3, Ans.cells, Res.cells, hn, h1, kindsB]
  by_cases h2 : 11 < a.of
  · simp only [r24_8, ↓opStep_eq, ↓reduceIte, ↓EW, EV, Nat.reduceAdd, Nat.reduceEqDiff, Int.reduceEq, Int.reduceLT, Int.reduceLE, Int.reduceNe, seqC, retC, skipC, exitC, blockC, condC, Bool.true_or, Bool.false_or, Bool.or_true, Bool.or_false, Bool.true_and, Bool.false_and, Bool.and_true, Bool.and_false, t1, t3, hl, hl3, Ans.cells, Res.cells, hn, h1, h2, kindsB]
  by_cases h3 : a.r.kind < 1
  · simp only [r24_8, ↓opStep_eq, ↓reduceIte, ↓EW, EV, Nat.reduceAdd, Nat.reduceEqDiff, Int.reduceEq, Int.reduceLT, Int.reduceLE, Int.reduceNe, seqC, retC, skipC, exitC, blockC, condC, Bool.true_or, Bool.false_or, Bool.or_true, Bool.or_false, Bool.true_and, Bool.false_and, Bool.and_true, Bool.and_false, t1, t3, hl, hl3, Ans.cells, Res.cells, hn, h1, h2, h3, kindsB]
  by_cases h4 : 7 < a.r.kind
  · simp only [r24_8, ↓opStep_eq, ↓reduceIte, ↓EW, EV, Nat.reduceAdd, Nat.reduceEqDiff, Int.reduceEq, Int.reduceLT, Int.reduceLE, Int.reduceNe, seqC, retC, skipC, exitC, blockC, condC, Bool.true_or, Bool.false_or, Bool.or_true, Bool.or_false, Bool.true_and, Bool.false_and, Bool.and_true, Bool.and_false, t1, t3, hl, hl3, Ans.cells, Res.cells, hn, h1, h2, h3, h4, kindsB]
  by_cases h5 : 8 < len <;> simp only [r24_8, ↓opStep_eq, ↓reduceIte, ↓EW, EV, Nat.reduceAdd, Nat.reduceEqDiff, Int.reduceEq, Int.reduceLT, Int.reduceLE, Int.reduceNe, seqC, retC, skipC, exitC, blockC, condC, Bool.true_or, Bool.false_or, Bool.or_true, Bool.or_false, Bool.true_and, Bool.false_and, Bool.and_true, Bool.and_false, t1, t3, hl, hl3, Ans.cells, Res.cells, hn, h1, h2, h3, h4, h5, kindsB]
end
end Go.Proofs.YthofbmfcpfibdaaDoor

namespace Go.Proofs.YthofbmfcpfibdaaDoor
open Go.Ev

theorem words_check (L n : Nat) (a : Ans) (h : H) (hi : ItemsAt h a.r.iv a.r.items) (hL : a.r.items.length < L) (h63 : a.r.items.length < 9223372036854775807) :
    Sp (CF L (n + 7)) 11 [a.v] h fun v h' => v = .int .i64 (if mayB a then 0 else 8) ∧ Keep nobody h h' := by
  refine Sp.body f11 (by simp) ?_
  have hk := Keep.new h (.rw a.cells (some 27))
  have hl : ∀ o s, loadOne (h.new (.rw a.cells (some 27))) (.pointer (some ⟨h.next, o, s⟩)) = a.cells[o]? := fun o s => loadOne_has (Has.new h (.rw a.cells (some 27))) rfl
  have hla : ∀ s, loadAgg 3 (h.new (.rw a.cells (some 27))) (.pointer (some ⟨h.next, 2, s⟩)) = some a.r.v := fun s => loadAgg_has (Has.new h (.rw a.cells (some 27))) rfl (by simp [Ans.cells])
  have hc : (Value.cells a.v).toList = a.cells := rfl
  have hi2 := hi.keep0 hk
  have hn := hi.len
  have hhas := Has.new h (.rw a.cells (some 27))
  generalize hh : h.new (.rw a.cells (some 27)) = h1 at *
  -- behind the kinds
  have tail : ∀ (tm : T Value) (h2 : H), tg tm 1 = .pointer (some ⟨h.next, 0, none⟩) → tg tm 3 = .bool (bodyB a) → Keep nobody h1 h2 →
      C ⟨seqC ⟨seqC ⟨r11_6⟩ ⟨condC ⟨fun _ tm => tg tm 46⟩ ⟨r11_7⟩ ⟨r11_8⟩⟩⟩ ⟨seqC ⟨seqC ⟨r11_9⟩ ⟨condC ⟨fun _ tm => tg tm 81⟩ ⟨seqC ⟨r11_10⟩ retC⟩ skipC⟩⟩ ⟨seqC ⟨r11_11⟩ retC⟩⟩⟩ (CF L (n + 6)) L tm h2
        fun e tm h' => e = .ret ∧ tg tm 2 = .int .i64 (if mayB a then 0 else 8) ∧ Keep nobody h1 h' := fun tm h2 t1 t3 hk2 K hK => by
    have hl2 : ∀ o s, loadOne h2 (.pointer (some ⟨h.next, o, s⟩)) = a.cells[o]? := fun o s => loadOne_has (hhas.keep0 hk2) rfl
    have hl2' : ∀ o s, loadOne h2 (.pointer (some ⟨h.next, o, s⟩)) = [Value.int .u8 a.kind, .int .u8 a.of, .int .u8 a.r.kind, a.r.iv, .int .u64 a.r.num, .bool a.yes, .string a.key][o]? := hl2
    have last : ∀ tm : T Value, tg tm 1 = .pointer (some ⟨h.next, 0, none⟩) → tg tm 3 = .bool (bodyB a && keyB a a.key.size) →
        C ⟨seqC ⟨seqC ⟨r11_9⟩ ⟨condC ⟨fun _ tm => tg tm 81⟩ ⟨seqC ⟨r11_10⟩ retC⟩ skipC⟩⟩ ⟨seqC ⟨r11_11⟩ retC⟩⟩ (CF L (n + 6)) L tm h2 fun e tm h' => e = .ret ∧ tg tm 2 = .int .i64 (if mayB a then 0 else 8) ∧ Keep nobody h1 h' := fun tm t1 t3 K hK => by
      simp only [↓opStep_eq, ↓reduceIte, ↓EW, EV, Nat.reduceAdd, Nat.reduceEqDiff, Int.reduceEq, Int.reduceLT, Int.reduceLE, Int.reduceNe, seqC, retC, skipC, exitC, blockC, condC]
      rw [reg15_9 hl2 t1 t3]
      cases hy : (!(bodyB a && keyB a a.key.size) || yesB a)
      · have : mayB a = true := by simp only [mayB]; revert hy; cases bodyB a <;> cases keyB a a.key.size <;> cases yesB a <;> simp
        simp only [↓opStep_eq, ↓reduceIte, ↓EW, EV, Nat.reduceAdd, Nat.reduceEqDiff, Int.reduceEq, Int.reduceLT, Int.reduceLE, Int.reduceNe, seqC, retC, skipC, exitC, blockC, condC, r11_11]
        exact hK _ _ _ ⟨rfl, by simp [this], hk2⟩
      · have : mayB a = false := by simp only [mayB]; revert hy; cases bodyB a <;> cases keyB a a.key.size <;> cases yesB a <;> simp
        simp only [↓opStep_eq, ↓reduceIte, ↓EW, EV, Nat.reduceAdd, Nat.reduceEqDiff, Int.reduceEq, Int.reduceLT, Int.reduceLE, Int.reduceNe, seqC, retC, skipC, exitC, blockC, condC, r11_10]
        exact hK _ _ _ ⟨rfl, by simp [this], hk2⟩
    have step : ∀ tm : T Value, tg tm 1 = .pointer (some ⟨h.next, 0, none⟩) → tg tm 3 = .bool (bodyB a && keyB a a.key.size) → (⟨seqC ⟨seqC ⟨r11_9⟩ ⟨condC ⟨fun _ tm => tg tm 81⟩ ⟨seqC ⟨r11_10⟩ retC⟩ skipC⟩⟩ ⟨seqC ⟨r11_11⟩ retC⟩⟩ : Box CodeT).f (CF L (n + 6)) L tm [] h2 K = true := fun tm t1 t3 => last tm t1 t3 K hK
    refine C.seq (fun K hK => ?_) K hK
    by_cases h7 : a.kind = 7
    · simp only [↓opStep_eq, ↓reduceIte, ↓EW, EV, Nat.reduceAdd, Nat.reduceEqDiff, Int.reduceEq, Int.reduceLT, Int.reduceLE, Int.reduceNe, seqC, retC, skipC, exitC, blockC, condC, r11_6, t1, hl2', h7]
      rw [reg15_7 hl2 (by simp only [↓opStep_eq, ↓reduceIte, ↓EW, EV, Nat.reduceAdd, Nat.reduceEqDiff, Int.reduceEq, Int.reduceLT, Int.reduceLE, Int.reduceNe, seqC, retC, skipC, exitC, blockC, condC, t1]) (g := bodyB a) (by simp only [↓opStep_eq, ↓reduceIte, ↓EW, EV, Nat.reduceAdd, Nat.reduceEqDiff, Int.reduceEq, Int.reduceLT, Int.reduceLE, Int.reduceNe, seqC, retC, skipC, exitC, blockC, condC, t3]) (lenStr_string _)]
      exact hK _ _ _ (last _ (by simp only [↓opStep_eq, ↓reduceIte, ↓EW, EV, Nat.reduceAdd, Nat.reduceEqDiff, Int.reduceEq, Int.reduceLT, Int.reduceLE, Int.reduceNe, seqC, retC, skipC, exitC, blockC, condC, t1]) (by simp [keyB, h7, Bool.and_assoc]))
    · simp only [↓opStep_eq, ↓reduceIte, ↓EW, EV, Nat.reduceAdd, Nat.reduceEqDiff, Int.reduceEq, Int.reduceLT, Int.reduceLE, Int.reduceNe, seqC, retC, skipC, exitC, blockC, condC, r11_6, t1, hl2', h7]
      rw [reg15_8 hl2 (by simp only [↓opStep_eq, ↓reduceIte, ↓EW, EV, Nat.reduceAdd, Nat.reduceEqDiff, Int.reduceEq, Int.reduceLT, Int.reduceLE, Int.reduceNe, seqC, retC, skipC, exitC, blockC, condC, t1]) (g := bodyB a) (by simp only [↓opStep_eq, ↓reduceIte, ↓EW, EV, Nat.reduceAdd, Nat.reduceEqDiff, Int.reduceEq, Int.reduceLT, Int.reduceLE, Int.reduceNe, seqC, retC, skipC, exitC, blockC, condC, t3]) rfl]
      exact hK _ _ _ (last _ (by simp only [↓opStep_eq, ↓reduceIte, ↓EW, EV, Nat.reduceAdd, Nat.reduceEqDiff, Int.reduceEq, Int.reduceLT, Int.reduceLE, Int.reduceNe, seqC, retC, skipC, exitC, blockC, condC, t1]) (by simp [keyB, h7]))
  have fin : ∀ (tm : T Value) (h2 : H), tg tm 1 = .pointer (some ⟨h.next, 0, none⟩) → tg tm 3 = .bool (bodyB a) → Keep nobody h1 h2 → C ⟨seqC ⟨seqC ⟨r11_6⟩ ⟨condC ⟨fun _ tm => tg tm 46⟩ ⟨r11_7⟩ ⟨r11_8⟩⟩⟩ ⟨seqC ⟨seqC ⟨r11_9⟩ ⟨condC ⟨fun _ tm => tg tm 81⟩ ⟨seqC ⟨r11_10⟩ retC⟩ skipC⟩⟩ ⟨seqC ⟨r11_11⟩ retC⟩⟩⟩ (CF L (n + 6)) L tm h2 fun e tm h' => (e = .norm ∨ e = .ret) ∧ ∃ l, q11.f tm h' = some l ∧ resOf l = .int .i64 (if mayB a then 0 else 8) ∧ Keep nobody h h' := fun tm h2 t1 t3 hk2 => (tail tm h2 t1 t3 hk2).mono fun e tm h' q => by
      obtain ⟨rfl, q2, q3⟩ := q
      exact ⟨.inr rfl, _, rfl, by simp only [resOf, q2], hk.then q3⟩
  have hl' : ∀ o s, loadOne h1 (.pointer (some ⟨h.next, o, s⟩)) = [Value.int .u8 a.kind, .int .u8 a.of, .int .u8 a.r.kind, a.r.iv, .int .u64 a.r.num, .bool a.yes, .string a.key][o]? := hl
  unfold c11
  refine C.seq fun K hK => ?_
  simp only [↓opStep_eq, ↓reduceIte, ↓EW, EV, Nat.reduceAdd, Nat.reduceEqDiff, Int.reduceEq, Int.reduceLT, Int.reduceLE, Int.reduceNe, seqC, retC, skipC, exitC, blockC, condC, r11_0, hc, hh]
  refine hK _ _ _ (C.seq fun K hK => hK .norm _ _ ?_)
  refine C.seq (C.block (C.seq fun K hK => ?_))
  simp only [↓opStep_eq, ↓reduceIte, ↓EW, EV, Nat.reduceAdd, Nat.reduceEqDiff, Int.reduceEq, Int.reduceLT, Int.reduceLE, Int.reduceNe, seqC, retC, skipC, exitC, blockC, condC, r11_2, hl']
  refine hK _ _ _ (C.cond (decide (a.kind = 1)) (by simp only [↓opStep_eq, ↓reduceIte, ↓EW, EV, Nat.reduceAdd, Nat.reduceEqDiff, Int.reduceEq, Int.reduceLT, Int.reduceLE, Int.reduceNe, seqC, retC, skipC, exitC, blockC, condC]) (fun h1 => ?_) fun h1 => ?_)
  · have h1 : a.kind = 1 := by simpa using h1
    intro K hK
    simp only [↓opStep_eq, ↓reduceIte, ↓EW, EV, Nat.reduceAdd, Nat.reduceEqDiff, Int.reduceEq, Int.reduceLT, Int.reduceLE, Int.reduceNe, seqC, retC, skipC, exitC, blockC, condC, r11_3, hl', hla]
    refine words_result L n a.of a.r _ hi2 hL h63 _ fun v h2 hv => ?_
    obtain ⟨rfl, hk2⟩ := hv
    exact hK _ _ _ (fin _ _ (by simp only [↓opStep_eq, ↓reduceIte, ↓EW, EV, Nat.reduceAdd, Nat.reduceEqDiff, Int.reduceEq, Int.reduceLT, Int.reduceLE, Int.reduceNe, seqC, retC, skipC, exitC, blockC, condC]) (by simp only [↓opStep_eq, ↓reduceIte, ↓EW, EV, Nat.reduceAdd, Nat.reduceEqDiff, Int.reduceEq, Int.reduceLT, Int.reduceLE, Int.reduceNe, seqC, retC, skipC, exitC, blockC, condC, bodyB, h1, if_true]) hk2)
  · have h1 : ¬ a.kind = 1 := by simpa using h1
    refine C.seq fun K hK => ?_
    rw [show ∀ x : CodeT, (⟨x⟩ : Box CodeT).f = x from fun _ => rfl]
    rw [reg15_4 hl (by simp only [↓opStep_eq, ↓reduceIte, ↓EW, EV, Nat.reduceAdd, Nat.reduceEqDiff, Int.reduceEq, Int.reduceLT, Int.reduceLE, Int.reduceNe, seqC, retC, skipC, exitC, blockC, condC])]
    refine hK _ _ _ (C.cond (decide (1 < a.kind) && decide (a.kind ≤ 7)) (by simp only [↓opStep_eq, ↓reduceIte, ↓EW, EV, Nat.reduceAdd, Nat.reduceEqDiff, Int.reduceEq, Int.reduceLT, Int.reduceLE, Int.reduceNe, seqC, retC, skipC, exitC, blockC, condC]) (fun h2 => ?_) fun h2 => C.skip ?_)
    · intro K hK
      rw [show ∀ x : CodeT, (⟨x⟩ : Box CodeT).f = x from fun _ => rfl]
      rw [reg15_5 hl (by simp only [↓opStep_eq, ↓reduceIte, ↓EW, EV, Nat.reduceAdd, Nat.reduceEqDiff, Int.reduceEq, Int.reduceLT, Int.reduceLE, Int.reduceNe, seqC, retC, skipC, exitC, blockC, condC]) hn]
      exact hK _ _ _ (fin _ _ (by simp only [↓opStep_eq, ↓reduceIte, ↓EW, EV, Nat.reduceAdd, Nat.reduceEqDiff, Int.reduceEq, Int.reduceLT, Int.reduceLE, Int.reduceNe, seqC, retC, skipC, exitC, blockC, condC]) (by simp only [↓opStep_eq, ↓reduceIte, ↓EW, EV, Nat.reduceAdd, Nat.reduceEqDiff, Int.reduceEq, Int.reduceLT, Int.reduceLE, Int.reduceNe, seqC, retC, skipC, exitC, blockC, condC, bodyB, h1, h2, if_false, Bool.true_and]) (.refl _ _))
    · exact fin _ _ (by simp only [↓opStep_eq, ↓reduceIte, ↓EW, EV, Nat.reduceAdd, Nat.reduceEqDiff, Int.reduceEq, Int.reduceLT, Int.reduceLE, Int.reduceNe, seqC, retC, skipC, exitC, blockC, condC]) (by simp only [↓opStep_eq, ↓reduceIte, ↓EW, EV, Nat.reduceAdd, Nat.reduceEqDiff, Int.reduceEq, Int.reduceLT, Int.reduceLE, Int.reduceNe, seqC, retC, skipC, exitC, blockC, condC, bodyB, h1, h2, if_false, Bool.false_and]) (.refl _ _)
end Go.Proofs.YthofbmfcpfibdaaDoor

namespace Go.Proofs.YthofbmfcpfibdaaDoor
open Go.Ev

theorem reg19_10 {L n : Nat} {tm : T Value} {h : H} {b b3 : Nat} {K : KE} {a : Ans} (hl : ∀ o s, loadOne h (.pointer (some ⟨b, o, s⟩)) = a.cells[o]?) (t1 : tg tm 1 = .pointer (some ⟨b, 0, none⟩)) (hl3 : ∀ o s, loadOne h (.pointer (some ⟨b3, o, s⟩)) = a.r.cells[o]?) (t3 : tg tm 3 = .pointer (some ⟨b3, 0, none⟩))
    {len : Int} (hn : lenSl a.r.iv = some (.int .i64 len)) (hK : K .norm (T.set tm 139 (.bool (manyB a.of a.r.kind len || numB a.of a.r.kind a.r.num || numB2 a.of a.r.num))) [] h = true) : r24_10 (CF L (n + 1)) L tm [] h K = true := by
  by_cases h1 : 0 < len
  · by_cases h2 : a.of = 1
    · by_cases h3 : a.r.kind = 1
      · have hm : manyB a.of a.r.kind len = false := by simp [manyB, h2, h3]
        rw [hm] at hK
        have hm : True := trivial
        by_cases k1 : a.r.num = 0
        · by_cases k2 : a.of = 10
          · simp only [r24_10, ↓opStep_eq, ↓reduceIte, ↓EW, EV, Nat.reduceAdd, Nat.reduceEqDiff, Int.reduceEq, Int.reduceLT, Int.reduceLE, Int.reduceNe, seqC, retC, skipC, exitC, blockC, condC, Bool.true_or, Bool.false_or, Bool.or_true, Bool.or_false, Bool.true_and, Bool.false_and, Bool.and_true, Bool.and_false, t1, t3, hl, hl3, Ans.cells, Res.cells, hn, h1, h2, h3, k1, k2]
            exact (congrArg (fun b => K .norm (T.set tm 139 (.bool b)) [] h) (by simp [hm, numB, numB2, k1, k2])).symm.trans hK
          · simp only [r24_10, ↓opStep_eq, ↓reduceIte, ↓EW, EV, Nat.reduceAdd, Nat.reduceEqDiff, Int.reduceEq, Int.reduceLT, Int.reduceLE, Int.reduceNe, seqC, retC, skipC, exitC, blockC, condC, Bool.true_or, Bool.false_or, Bool.or_true, Bool.or_false, Bool.true_and, Bool.false_and, Bool.and_true, Bool.and_false, t1, t3, hl, hl3, Ans.cells, Res.cells, hn, h1, h2, h3, k1, k2]
            exact (congrArg (fun b => K .norm (T.set tm 139 (.bool b)) [] h) (by simp [hm, numB, numB2, k1, k2])).symm.trans hK
        · simp only [r24_10, ↓opStep_eq, ↓reduceIte, ↓EW, EV, Nat.reduceAdd, Nat.reduceEqDiff, Int.reduceEq, Int.reduceLT, Int.reduceLE, Int.reduceNe, seqC, retC, skipC, exitC, blockC, condC, Bool.true_or, Bool.false_or, Bool.or_true, Bool.or_false, Bool.true_and, Bool.false_and, Bool.and_true, Bool.and_false, t1, t3, hl, hl3, Ans.cells, Res.cells, hn, h1, h2, h3, k1]
          refine ref_counts L n _ h _ fun v h' hv => ?_
          obtain ⟨rfl, rfl⟩ := hv
          cases k2 : countsB a.of
          · simp only [↓opStep_eq, ↓reduceIte, ↓EW, EV, Nat.reduceAdd, Nat.reduceEqDiff, Int.reduceEq, Int.reduceLT, Int.reduceLE, Int.reduceNe, seqC, retC, skipC, exitC, blockC, condC, Bool.true_or, Bool.false_or, Bool.or_true, Bool.or_false, Bool.true_and, Bool.false_and, Bool.and_true, Bool.and_false]
            exact (congrArg (fun b => K .norm (T.set tm 139 (.bool b)) [] h') (by simp [hm, numB, numB2, k1, k2])).symm.trans hK
          · rw [h2] at k2; exact absurd k2 (by decide)
      · have hm : manyB a.of a.r.kind len = true := by simp [manyB, h1, h3]
        simp only [r24_10, ↓opStep_eq, ↓reduceIte, ↓EW, EV, Nat.reduceAdd, Nat.reduceEqDiff, Int.reduceEq, Int.reduceLT, Int.reduceLE, Int.reduceNe, seqC, retC, skipC, exitC, blockC, condC, Bool.true_or, Bool.false_or, Bool.or_true, Bool.or_false, Bool.true_and, Bool.false_and, Bool.and_true, Bool.and_false, t1, t3, hl, hl3, Ans.cells, Res.cells, hn, h1, h2, h3]
        simp only [hm, Bool.true_or] at hK
        exact hK
    · have hm : manyB a.of a.r.kind len = true := by simp [manyB, h1, h2]
      simp only [r24_10, ↓opStep_eq, ↓reduceIte, ↓EW, EV, Nat.reduceAdd, Nat.reduceEqDiff, Int.reduceEq, Int.reduceLT, Int.reduceLE, Int.reduceNe, seqC, retC, skipC, exitC, blockC, condC, Bool.true_or, Bool.false_or, Bool.or_true, Bool.or_false, Bool.true_and, Bool.false_and, Bool.and_true, Bool.and_false, t1, t3, hl, hl3, Ans.cells, Res.cells, hn, h1, h2]
      simp only [hm, Bool.true_or] at hK
      exact hK
  · have hm : manyB a.of a.r.kind len = false := by simp [manyB, h1]
    rw [hm] at hK
    have hm : True := trivial
    by_cases k1 : a.r.num = 0
    · by_cases k2 : a.of = 10
      · simp only [r24_10, ↓opStep_eq, ↓reduceIte, ↓EW, EV, Nat.reduceAdd, Nat.reduceEqDiff, Int.reduceEq, Int.reduceLT, Int.reduceLE, Int.reduceNe, seqC, retC, skipC, exitC, blockC, condC, Bool.true_or, Bool.false_or, Bool.or_true, Bool.or_false, Bool.true_and, Bool.false_and, Bool.and_true, Bool.and_false, t1, t3, hl, hl3, Ans.cells, Res.cells, hn, h1, k1, k2]
        exact (congrArg (fun b => K .norm (T.set tm 139 (.bool b)) [] h) (by simp [hm, numB, numB2, k1, k2])).symm.trans hK
      · simp only [r24_10, ↓opStep_eq, ↓reduceIte, ↓EW, EV, Nat.reduceAdd, Nat.reduceEqDiff, Int.reduceEq, Int.reduceLT, Int.reduceLE, Int.reduceNe, seqC, retC, skipC, exitC, blockC, condC, Bool.true_or, Bool.false_or, Bool.or_true, Bool.or_false, Bool.true_and, Bool.false_and, Bool.and_true, Bool.and_false, t1, t3, hl, hl3, Ans.cells, Res.cells, hn, h1, k1, k2]
        exact (congrArg (fun b => K .norm (T.set tm 139 (.bool b)) [] h) (by simp [hm, numB, numB2, k1, k2])).symm.trans hK
    · simp only [r24_10, ↓opStep_eq, ↓reduceIte, ↓EW, EV, Nat.reduceAdd, Nat.reduceEqDiff, Int.reduceEq, Int.reduceLT, Int.reduceLE, Int.reduceNe, seqC, retC, skipC, exitC, blockC, condC, Bool.true_or, Bool.false_or, Bool.or_true, Bool.or_false, Bool.true_and, Bool.false_and, Bool.and_true, Bool.and_false, t1, t3, hl, hl3, Ans.cells, Res.cells, hn, h1, k1]
      refine ref_counts L n _ h _ fun v h' hv => ?_
      obtain ⟨rfl, rfl⟩ := hv
      cases k2 : countsB a.of
      · simp only [↓opStep_eq, ↓reduceIte, ↓EW, EV, Nat.reduceAdd, Nat.reduceEqDiff, Int.reduceEq, Int.reduceLT, Int.reduceLE, Int.reduceNe, seqC, retC, skipC, exitC, blockC, condC, Bool.true_or, Bool.false_or, Bool.or_true, Bool.or_false, Bool.true_and, Bool.false_and, Bool.and_true, Bool.and_false]
        exact (congrArg (fun b => K .norm (T.set tm 139 (.bool b)) [] h') (by simp [hm, numB, numB2, k1, k2])).symm.trans hK
      · by_cases k3 : a.r.kind = 1
        · by_cases k4 : a.of = 10
          · by_cases k5 : 8 < a.r.num
            · simp only [↓opStep_eq, ↓reduceIte, ↓EW, EV, Nat.reduceAdd, Nat.reduceEqDiff, Int.reduceEq, Int.reduceLT, Int.reduceLE, Int.reduceNe, seqC, retC, skipC, exitC, blockC, condC, Bool.true_or, Bool.false_or, Bool.or_true, Bool.or_false, Bool.true_and, Bool.false_and, Bool.and_true, Bool.and_false, t1, t3, hl, hl3, Ans.cells, Res.cells, k3, k4, k5]
              exact (congrArg (fun b => K .norm (T.set tm 139 (.bool b)) [] h') (by simp [hm, numB, numB2, k1, k2, k3, k4, k5])).symm.trans hK
            · simp only [↓opStep_eq, ↓reduceIte, ↓EW, EV, Nat.reduceAdd, Nat.reduceEqDiff, Int.reduceEq, Int.reduceLT, Int.reduceLE, Int.reduceNe, seqC, retC, skipC, exitC, blockC, condC, Bool.true_or, Bool.false_or, Bool.or_true, Bool.or_false, Bool.true_and, Bool.false_and, Bool.and_true, Bool.and_false, t1, t3, hl, hl3, Ans.cells, Res.cells, k3, k4, k5]
              exact (congrArg (fun b => K .norm (T.set tm 139 (.bool b)) [] h') (by rw [k4] at k2; simp [hm, numB, numB2, k1, k2, k3, k4, k5])).symm.trans hK
          · simp only [↓opStep_eq, ↓reduceIte, ↓EW, EV, Nat.reduceAdd, Nat.reduceEqDiff, Int.reduceEq, Int.reduceLT, Int.reduceLE, Int.reduceNe, seqC, retC, skipC, exitC, blockC, condC, Bool.true_or, Bool.false_or, Bool.or_true, Bool.or_false, Bool.true_and, Bool.false_and, Bool.and_true, Bool.and_false, t1, t3, hl, hl3, Ans.cells, Res.cells, k3, k4]
            exact (congrArg (fun b => K .norm (T.set tm 139 (.bool b)) [] h') (by simp [hm, numB, numB2, k1, k2, k3, k4])).symm.trans hK
        · simp only [↓opStep_eq, ↓reduceIte, ↓EW, EV, Nat.reduceAdd, Nat.reduceEqDiff, Int.reduceEq, Int.reduceLT, Int.reduceLE, Int.reduceNe, seqC, retC, skipC, exitC, blockC, condC, Bool.true_or, Bool.false_or, Bool.or_true, Bool.or_false, Bool.true_and, Bool.false_and, Bool.and_true, Bool.and_false, t1, t3, hl, hl3, Ans.cells, Res.cells, k3]
          exact (congrArg (fun b => K .norm (T.set tm 139 (.bool b)) [] h') (by simp [hm, numB, numB2, k1, k2, k3])).symm.trans hK
end Go.Proofs.YthofbmfcpfibdaaDoor

namespace Go.Proofs.YthofbmfcpfibdaaDoor
open Go.Ev

/-- the reference's look at an answer -/
theorem ref_may (L n : Nat) (a : Ans) (h : H) (hi : ItemsAt h a.r.iv a.r.items) (hL : a.r.items.length < L) (h63 : a.r.items.length < 9223372036854775807) (hones : ones a.r.cells = true) :
    Sp (CF L (n + 3)) 24 [a.v] h fun v h' => v = .bool (mayB a) ∧ Keep nobody h h' := by
  refine Sp.body f24 (by simp) ?_
  have hc : (Value.cells a.v).toList = a.cells := rfl
  have hcr : (Value.cells a.r.v).toList = a.r.cells := rfl
  have hn := hi.len
  have k1 := Keep.new h (.rw a.cells (some 27))
  have b1 := Has.new h (.rw a.cells (some 27))
  generalize hh : h.new (.rw a.cells (some 27)) = h1 at *
  have hl1 : ∀ o s, loadOne h1 (.pointer (some ⟨h.next, o, s⟩)) = a.cells[o]? := fun o s => loadOne_has b1 rfl
  have hl1' : ∀ o s, loadOne h1 (.pointer (some ⟨h.next, o, s⟩)) = [Value.int .u8 a.kind, .int .u8 a.of, .int .u8 a.r.kind, a.r.iv, .int .u64 a.r.num, .bool a.yes, .string a.key][o]? := hl1
  have hla : ∀ s, loadAgg 3 h1 (.pointer (some ⟨h.next, 2, s⟩)) = some a.r.v := fun s => loadAgg_has b1 rfl (by simp [Ans.cells])
  have k2 := keep_alloc h1 (.rw [(.int .u8 (0)), (.slice none 0 0), (.int .u64 (0))] (some 25)) (.rw a.r.cells (some 25))
  have b2 := has_alloc h1 (.rw [(.int .u8 (0)), (.slice none 0 0), (.int .u64 (0))] (some 25)) (.rw a.r.cells (some 25))
  have hst := store_new h1 3 none [(.int .u8 (0)), (.slice none 0 0), (.int .u64 (0))] (some 25) a.r.v rfl rfl hones
  rw [hcr] at hst
  generalize hh2 : (h1.new (.rw [(.int .u8 (0)), (.slice none 0 0), (.int .u64 (0))] (some 25))).put h1.next (.rw a.r.cells (some 25)) = h2 at *
  have hl2 : ∀ o s, loadOne h2 (.pointer (some ⟨h.next, o, s⟩)) = a.cells[o]? := fun o s => loadOne_has (b1.keep0 k2) rfl
  have hl2' : ∀ o s, loadOne h2 (.pointer (some ⟨h.next, o, s⟩)) = [Value.int .u8 a.kind, .int .u8 a.of, .int .u8 a.r.kind, a.r.iv, .int .u64 a.r.num, .bool a.yes, .string a.key][o]? := hl2
  have hl3 : ∀ o s, loadOne h2 (.pointer (some ⟨h1.next, o, s⟩)) = a.r.cells[o]? := fun o s => loadOne_has b2 rfl
  unfold c24
  refine C.seq fun K hK => ?_
  simp only [↓opStep_eq, ↓reduceIte, ↓EW, EV, Nat.reduceAdd, Nat.reduceEqDiff, Int.reduceEq, Int.reduceLT, Int.reduceLE, Int.reduceNe, seqC, retC, skipC, exitC, blockC, condC, r24_0, hc, hh]
  refine hK _ _ _ (C.seq (C.seq fun K hK => ?_))
  rw [show ∀ x : CodeT, (⟨x⟩ : Box CodeT).f = x from fun _ => rfl]
  rw [reg19_1 hl1 (by simp only [↓opStep_eq, ↓reduceIte, ↓EW, EV, Nat.reduceAdd, Nat.reduceEqDiff, Int.reduceEq, Int.reduceLT, Int.reduceLE, Int.reduceNe, seqC, retC, skipC, exitC, blockC, condC])]
  refine hK _ _ _ (C.cond (decide (a.kind < 1) || decide (7 < a.kind) || yesB a) (by simp only [↓opStep_eq, ↓reduceIte, ↓EW, EV, Nat.reduceAdd, Nat.reduceEqDiff, Int.reduceEq, Int.reduceLT, Int.reduceLE, Int.reduceNe, seqC, retC, skipC, exitC, blockC, condC]) (fun g1 => C.seq fun K hK => hK .norm _ _ (C.ret ⟨.inr rfl, _, rfl, ?_, k1⟩)) fun g1 => C.skip ?_)
  · have : mayB a = false := by
      simp only [Bool.or_eq_true, decide_eq_true_eq] at g1
      rcases g1 with (g | g) | g
      · simp [mayB, bodyB, show ¬ a.kind = 1 by omega, show ¬ 1 < a.kind by omega]
      · simp [mayB, bodyB, show ¬ a.kind = 1 by omega, show ¬ a.kind ≤ 7 by omega]
      · simp [mayB, g]
    simp only [↓opStep_eq, ↓reduceIte, ↓EW, EV, Nat.reduceAdd, Nat.reduceEqDiff, Int.reduceEq, Int.reduceLT, Int.reduceLE, Int.reduceNe, seqC, retC, skipC, exitC, blockC, condC, resOf, this]
  simp only [Bool.or_eq_false_iff, decide_eq_false_iff_not] at g1
  obtain ⟨⟨g1, g2⟩, g3⟩ := g1
  refine C.seq (C.seq fun K hK => ?_)
  rw [show ∀ x : CodeT, (⟨x⟩ : Box CodeT).f = x from fun _ => rfl]
  rw [reg19_3 hl1 (by simp only [↓opStep_eq, ↓reduceIte, ↓EW, EV, Nat.reduceAdd, Nat.reduceEqDiff, Int.reduceEq, Int.reduceLT, Int.reduceLE, Int.reduceNe, seqC, retC, skipC, exitC, blockC, condC]) rfl]
  refine hK _ _ _ (C.cond (!keyB a a.key.size) (by simp only [↓opStep_eq, ↓reduceIte, ↓EW, EV, Nat.reduceAdd, Nat.reduceEqDiff, Int.reduceEq, Int.reduceLT, Int.reduceLE, Int.reduceNe, seqC, retC, skipC, exitC, blockC, condC]) (fun g4 => C.seq fun K hK => hK .norm _ _ (C.ret ⟨.inr rfl, _, rfl, ?_, k1⟩)) fun g4 => C.skip ?_)
  · have : keyB a a.key.size = false := by simpa using g4
    simp only [↓opStep_eq, ↓reduceIte, ↓EW, EV, Nat.reduceAdd, Nat.reduceEqDiff, Int.reduceEq, Int.reduceLT, Int.reduceLE, Int.reduceNe, seqC, retC, skipC, exitC, blockC, condC, Bool.true_or, Bool.false_or, Bool.or_true, Bool.or_false, Bool.true_and, Bool.false_and, Bool.and_true, Bool.and_false, resOf, mayB, this]
  have g4 : keyB a a.key.size = true := by simpa using g4
  have hmay : mayB a = bodyB a := by simp only [mayB, g4, g3, nf, Bool.and_true]
  refine C.seq fun K hK => ?_
  simp only [↓opStep_eq, ↓reduceIte, ↓EW, EV, Nat.reduceAdd, Nat.reduceEqDiff, Int.reduceEq, Int.reduceLT, Int.reduceLE, Int.reduceNe, seqC, retC, skipC, exitC, blockC, condC, r24_5, hla, hst, hh2]
  refine hK _ _ _ (C.seq (C.seq fun K hK => ?_))
  simp only [↓opStep_eq, ↓reduceIte, ↓EW, EV, Nat.reduceAdd, Nat.reduceEqDiff, Int.reduceEq, Int.reduceLT, Int.reduceLE, Int.reduceNe, seqC, retC, skipC, exitC, blockC, condC, r24_6, hl2']
  refine hK _ _ _ (C.cond (!decide (a.kind = 1)) (by simp only [↓opStep_eq, ↓reduceIte, ↓EW, EV, Nat.reduceAdd, Nat.reduceEqDiff, Int.reduceEq, Int.reduceLT, Int.reduceLE, Int.reduceNe, seqC, retC, skipC, exitC, blockC, condC]) (fun g5 => C.seq fun K hK => ?_) fun g5 => C.skip ?_)
  · have g5 : ¬ a.kind = 1 := by simpa using g5
    rw [show ∀ x : CodeT, (⟨x⟩ : Box CodeT).f = x from fun _ => rfl]
    rw [reg19_7 hl2 (by simp only [↓opStep_eq, ↓reduceIte, ↓EW, EV, Nat.reduceAdd, Nat.reduceEqDiff, Int.reduceEq, Int.reduceLT, Int.reduceLE, Int.reduceNe, seqC, retC, skipC, exitC, blockC, condC]) hl3 (by simp only [↓opStep_eq, ↓reduceIte, ↓EW, EV, Nat.reduceAdd, Nat.reduceEqDiff, Int.reduceEq, Int.reduceLT, Int.reduceLE, Int.reduceNe, seqC, retC, skipC, exitC, blockC, condC]) hn]
    refine hK _ _ _ (C.ret ⟨.inr rfl, _, rfl, ?_, k1.then k2⟩)
    simp only [↓opStep_eq, ↓reduceIte, ↓EW, EV, Nat.reduceAdd, Nat.reduceEqDiff, Int.reduceEq, Int.reduceLT, Int.reduceLE, Int.reduceNe, seqC, retC, skipC, exitC, blockC, condC, resOf, hmay, bodyB, g5, show 1 < a.kind by omega, show a.kind ≤ 7 by omega, Bool.true_and]
  have g5 : a.kind = 1 := by simpa using g5
  have hbody : bodyB a = resultB a.of a.r := by simp only [bodyB, g5, if_true]
  refine C.seq (C.seq fun K hK => ?_)
  rw [show ∀ x : CodeT, (⟨x⟩ : Box CodeT).f = x from fun _ => rfl]
  rw [reg19_8 hl2 (by simp only [↓opStep_eq, ↓reduceIte, ↓EW, EV, Nat.reduceAdd, Nat.reduceEqDiff, Int.reduceEq, Int.reduceLT, Int.reduceLE, Int.reduceNe, seqC, retC, skipC, exitC, blockC, condC]) hl3 (by simp only [↓opStep_eq, ↓reduceIte, ↓EW, EV, Nat.reduceAdd, Nat.reduceEqDiff, Int.reduceEq, Int.reduceLT, Int.reduceLE, Int.reduceNe, seqC, retC, skipC, exitC, blockC, condC]) hn]
  refine hK _ _ _ (C.cond (!kindsB a.of a.r.kind || decide (8 < (a.r.items.length : Int))) (by simp only [↓opStep_eq, ↓reduceIte, ↓EW, EV, Nat.reduceAdd, Nat.reduceEqDiff, Int.reduceEq, Int.reduceLT, Int.reduceLE, Int.reduceNe, seqC, retC, skipC, exitC, blockC, condC]) (fun g6 => C.seq fun K hK => hK .norm _ _ (C.ret ⟨.inr rfl, _, rfl, ?_, k1.then k2⟩)) fun g6 => C.skip ?_)
  · have : resultB a.of a.r = false := by
      rw [Bool.or_eq_true] at g6
      rcases g6 with g | g
      · have : kindsB a.of a.r.kind = false := by simpa using g
        simp only [resultB, this, Bool.false_and]
      · simp only [resultB, g, Bool.or_true, nt, Bool.and_false, Bool.false_and]
    simp only [↓opStep_eq, ↓reduceIte, ↓EW, EV, Nat.reduceAdd, Nat.reduceEqDiff, Int.reduceEq, Int.reduceLT, Int.reduceLE, Int.reduceNe, seqC, retC, skipC, exitC, blockC, condC, resOf, hmay, hbody, this]
  rw [Bool.or_eq_false_iff] at g6
  have g7 : kindsB a.of a.r.kind = true := by simpa using g6.1
  refine C.seq (C.seq fun K hK => ?_)
  rw [show ∀ x : CodeT, (⟨x⟩ : Box CodeT).f = x from fun _ => rfl]
  refine reg19_10 hl2 (by simp only [↓opStep_eq, ↓reduceIte, ↓EW, EV, Nat.reduceAdd, Nat.reduceEqDiff, Int.reduceEq, Int.reduceLT, Int.reduceLE, Int.reduceNe, seqC, retC, skipC, exitC, blockC, condC]) hl3 (by simp only [↓opStep_eq, ↓reduceIte, ↓EW, EV, Nat.reduceAdd, Nat.reduceEqDiff, Int.reduceEq, Int.reduceLT, Int.reduceLE, Int.reduceNe, seqC, retC, skipC, exitC, blockC, condC]) hn (hK _ _ _ (C.cond (manyB a.of a.r.kind a.r.items.length || numB a.of a.r.kind a.r.num || numB2 a.of a.r.num) (by simp only [↓opStep_eq, ↓reduceIte, ↓EW, EV, Nat.reduceAdd, Nat.reduceEqDiff, Int.reduceEq, Int.reduceLT, Int.reduceLE, Int.reduceNe, seqC, retC, skipC, exitC, blockC, condC]) (fun g8 => C.seq fun K hK => hK .norm _ _ (C.ret ⟨.inr rfl, _, rfl, ?_, k1.then k2⟩)) fun g8 => C.skip ?_))
  · have : resultB a.of a.r = false := by
      simp only [resultB, g7, g6.2, Bool.or_false, Bool.true_and]
      revert g8
      cases manyB a.of a.r.kind a.r.items.length <;> cases numB a.of a.r.kind a.r.num <;> cases numB2 a.of a.r.num <;> simp
    simp only [↓opStep_eq, ↓reduceIte, ↓EW, EV, Nat.reduceAdd, Nat.reduceEqDiff, Int.reduceEq, Int.reduceLT, Int.reduceLE, Int.reduceNe, seqC, retC, skipC, exitC, blockC, condC, resOf, hmay, hbody, this]
  have hres : resultB a.of a.r = goodItems a.r.items := by
    simp only [resultB, g7, g6.2, Bool.or_false, Bool.true_and]
    revert g8
    cases manyB a.of a.r.kind a.r.items.length <;> cases numB a.of a.r.kind a.r.num <;> cases numB2 a.of a.r.num <;> simp
  refine C.seq (C.seq fun K hK => hK .norm _ _ ?_)
  have hi2 := hi.keep0 (k1.then k2)
  refine C.block (C.loop (fun k tm h3 => ∃ i : Nat, k = a.r.items.length - i ∧ i ≤ a.r.items.length ∧ tg tm 3 = .pointer (some ⟨h1.next, 0, none⟩) ∧ tg tm 4 = .int .i64 (i : Int) ∧ goodItems (a.r.items.take i) = true ∧ Keep nobody h2 h3) a.r.items.length hL
    ⟨0, by simp, by simp, by simp only [↓opStep_eq, ↓reduceIte, ↓EW, EV, Nat.reduceAdd, Nat.reduceEqDiff, Int.reduceEq, Int.reduceLT, Int.reduceLE, Int.reduceNe, seqC, retC, skipC, exitC, blockC, condC], by simp only [↓opStep_eq, ↓reduceIte, ↓EW, EV, Nat.reduceAdd, Nat.reduceEqDiff, Int.reduceEq, Int.reduceLT, Int.reduceLE, Int.reduceNe, seqC, retC, skipC, exitC, blockC, condC]; rfl, by simp [goodItems], .refl _ _⟩ ?_)
  rintro k tm h3 ⟨i, rfl, hil, t3, t4, hall, k3⟩
  have hl5 : ∀ o s, loadOne h3 (.pointer (some ⟨h1.next, o, s⟩)) = [Value.int .u8 a.r.kind, a.r.iv, .int .u64 a.r.num][o]? := fun o s => loadOne_has (b2.keep0 k3) rfl
  unfold l24_17
  refine C.seq (C.seq fun K hK => ?_)
  simp only [↓opStep_eq, ↓reduceIte, ↓EW, EV, Nat.reduceAdd, Nat.reduceEqDiff, Int.reduceEq, Int.reduceLT, Int.reduceLE, Int.reduceNe, seqC, retC, skipC, exitC, blockC, condC, r24_13, t3, t4, hl5, hn]
  refine hK _ _ _ (C.cond (decide ((i : Int) < a.r.items.length)) (by simp only [↓opStep_eq, ↓reduceIte, ↓EW, EV, Nat.reduceAdd, Nat.reduceEqDiff, Int.reduceEq, Int.reduceLT, Int.reduceLE, Int.reduceNe, seqC, retC, skipC, exitC, blockC, condC]) (fun hy => C.skip ?_) fun hy => C.exit ?_)
  · have hlt : i < a.r.items.length := by simpa using hy
    obtain ⟨x, hx⟩ : ∃ x, a.r.items[i]? = some x := ⟨a.r.items[i], List.getElem?_eq_getElem hlt⟩
    obtain ⟨b, o, e1, e2, _, e3, e4⟩ := (hi2.keep0 k3).at hx
    refine C.seq (C.block (C.seq fun K hK => ?_))
    simp only [↓opStep_eq, ↓reduceIte, ↓EW, EV, Nat.reduceAdd, Nat.reduceEqDiff, Int.reduceEq, Int.reduceLT, Int.reduceLE, Int.reduceNe, seqC, retC, skipC, exitC, blockC, condC, r24_15, t3, t4, hl5, e1, e4]
    refine ref_check L n x h3 _ fun r h4 hr => ?_
    obtain ⟨rfl, k4⟩ := hr
    simp only [↓opStep_eq, ↓reduceIte, ↓EW, EV, Nat.reduceAdd, Nat.reduceEqDiff, Int.reduceEq, Int.reduceLT, Int.reduceLE, Int.reduceNe, seqC, retC, skipC, exitC, blockC, condC]
    refine hK _ _ _ (C.cond (!decide (x.err = 0)) (by simp only [↓opStep_eq, ↓reduceIte, ↓EW, EV, Nat.reduceAdd, Nat.reduceEqDiff, Int.reduceEq, Int.reduceLT, Int.reduceLE, Int.reduceNe, seqC, retC, skipC, exitC, blockC, condC]) (fun hy => C.seq fun K hK => hK .norm _ _ (C.ret ⟨.inr rfl, _, rfl, ?_, (k1.then k2).then (k3.then k4)⟩)) fun hy => C.skip ?_)
    · have : goodItems a.r.items = false := by
        rw [Bool.eq_false_iff]
        intro hg
        have := List.all_eq_true.1 hg x (List.mem_of_getElem? hx)
        simp only [this] at hy
        cases hy
      simp only [↓opStep_eq, ↓reduceIte, ↓EW, EV, Nat.reduceAdd, Nat.reduceEqDiff, Int.reduceEq, Int.reduceLT, Int.reduceLE, Int.reduceNe, seqC, retC, skipC, exitC, blockC, condC, resOf, hmay, hbody, hres, this]
    · intro K hK
      simp only [↓opStep_eq, ↓reduceIte, ↓EW, EV, Nat.reduceAdd, Nat.reduceEqDiff, Int.reduceEq, Int.reduceLT, Int.reduceLE, Int.reduceNe, seqC, retC, skipC, exitC, blockC, condC, r24_14, t4]
      refine hK _ _ _ ⟨a.r.items.length - (i + 1), by omega, i + 1, rfl, by omega, by simp only [↓opStep_eq, ↓reduceIte, ↓EW, EV, Nat.reduceAdd, Nat.reduceEqDiff, Int.reduceEq, Int.reduceLT, Int.reduceLE, Int.reduceNe, seqC, retC, skipC, exitC, blockC, condC, t3], ?_, ?_, k3.then k4⟩
      · simp only [↓opStep_eq, ↓reduceIte, ↓EW, EV, Nat.reduceAdd, Nat.reduceEqDiff, Int.reduceEq, Int.reduceLT, Int.reduceLE, Int.reduceNe, seqC, retC, skipC, exitC, blockC, condC, wrap_succ i (show i < 9223372036854775807 by omega)]
      · rw [List.take_add_one, hx]
        simp only [goodItems, List.all_append] at hall ⊢
        rw [hall]
        simpa using hy
  · have hge : i = a.r.items.length := by simp at hy; omega
    simp only [if_pos]
    refine C.seq fun K hK => hK .norm _ _ (C.ret ⟨.inr rfl, _, rfl, ?_, (k1.then k2).then k3⟩)
    rw [hge, List.take_length] at hall
    simp only [↓opStep_eq, ↓reduceIte, ↓EW, EV, Nat.reduceAdd, Nat.reduceEqDiff, Int.reduceEq, Int.reduceLT, Int.reduceLE, Int.reduceNe, seqC, retC, skipC, exitC, blockC, condC, resOf, hmay, hbody, hres, hall]
end Go.Proofs.YthofbmfcpfibdaaDoor
