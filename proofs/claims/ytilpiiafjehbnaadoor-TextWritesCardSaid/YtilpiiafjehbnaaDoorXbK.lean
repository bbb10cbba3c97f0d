import Derived.Test.YtilpiiafjehbnaaDoorXbI
set_option linter.unusedSimpArgs false
set_option linter.unusedVariables false
namespace Go.Proofs.YtilpiiafjehbnaaDoor
open Go.Ev

theorem rcell (r : Rq) : r.cells = [.int .u8 r.kind, .int .u8 r.c.kind, .int .i64 r.c.ten, r.c.kv, .string r.c.val, .int .u32 r.c.flags, .int .i64 r.c.fo, .int .u64 r.c.uniq, .int .u64 r.c.by', .int .i64 r.ten, .string r.sec, .bool r.on, .bool r.close] := rfl
def bareB (c : Cmd) : Bool := decide (c.kind = 0) && (decide (c.ten = 0) && (decide ((c.keys.length : Int) = 0) && (decide ((c.val.size : Int) = 0) && (decide (c.flags = 0) && (decide (c.fo = 0) && (decide (c.uniq = 0) && decide (c.by' = 0)))))))
def zc : List Value := [.int .u8 0, .int .i64 0, .slice none 0 0, .string (strB []), .int .u32 0, .int .i64 0, .int .u64 0, .int .u64 0]
def zv : Value := .agg zc.toArray
section
variable {L n : Nat} {tm : T Value} {h : H} {b b2 : Nat} {K : KE} {c : Cmd} {r : Rq} {call : CallT}
theorem reg20_2 (hl : ∀ o s, loadOne h (.pointer (some ⟨b, o, s⟩)) = c.cells[o]?) {len : Int} (hn : lenSl c.kv = some (.int .i64 len)) (t3 : tg tm 3 = .pointer (some ⟨b, 0, none⟩)) :
    r20_2 call L tm [] h K = K .norm (T.set tm 2 (.bool (decide (c.kind = 0) && (decide (c.ten = 0) && (decide (len = 0) && (decide ((c.val.size : Int) = 0) && (decide (c.flags = 0) && (decide (c.fo = 0) && (decide (c.uniq = 0) && decide (c.by' = 0))))))))) ) [] h := by
  by_cases g1 : c.kind = 0
  case neg => simp only [↓opStep_eq, ↓reduceIte, ↓EW, EV, Nat.reduceAdd, Nat.reduceEqDiff, Int.reduceEq, Int.reduceLT, Int.reduceLE, Int.reduceNe, seqC, retC, skipC, exitC, blockC, condC, r20_2, t3, hl, hcell, hn, str_empty, g1, Bool.true_or, Bool.false_or, Bool.or_true, Bool.or_false, Bool.true_and, Bool.false_and, Bool.and_true, Bool.and_false]
  by_cases g2 : c.ten = 0
  case neg => simp only [↓opStep_eq, ↓reduceIte, ↓EW, EV, Nat.reduceAdd, Nat.reduceEqDiff, Int.reduceEq, Int.reduceLT, Int.reduceLE, Int.reduceNe, seqC, retC, skipC, exitC, blockC, condC, r20_2, t3, hl, hcell, hn, str_empty, g1, g2, Bool.true_or, Bool.false_or, Bool.or_true, Bool.or_false, Bool.true_and, Bool.false_and, Bool.and_true, Bool.and_false]
  by_cases g3 : len = 0
  case neg => simp only [↓opStep_eq, ↓reduceIte, ↓EW, EV, Nat.reduceAdd, Nat.reduceEqDiff, Int.reduceEq, Int.reduceLT, Int.reduceLE, Int.reduceNe, seqC, retC, skipC, exitC, blockC, condC, r20_2, t3, hl, hcell, hn, str_empty, g1, g2, g3, Bool.true_or, Bool.false_or, Bool.or_true, Bool.or_false, Bool.true_and, Bool.false_and, Bool.and_true, Bool.and_false]
  by_cases g4 : (c.val.size : Int) = 0
  case neg => simp only [↓opStep_eq, ↓reduceIte, ↓EW, EV, Nat.reduceAdd, Nat.reduceEqDiff, Int.reduceEq, Int.reduceLT, Int.reduceLE, Int.reduceNe, seqC, retC, skipC, exitC, blockC, condC, r20_2, t3, hl, hcell, hn, str_empty, g1, g2, g3, g4, Bool.true_or, Bool.false_or, Bool.or_true, Bool.or_false, Bool.true_and, Bool.false_and, Bool.and_true, Bool.and_false]
  by_cases g5 : c.flags = 0
  case neg => simp only [↓opStep_eq, ↓reduceIte, ↓EW, EV, Nat.reduceAdd, Nat.reduceEqDiff, Int.reduceEq, Int.reduceLT, Int.reduceLE, Int.reduceNe, seqC, retC, skipC, exitC, blockC, condC, r20_2, t3, hl, hcell, hn, str_empty, g1, g2, g3, g4, g5, Bool.true_or, Bool.false_or, Bool.or_true, Bool.or_false, Bool.true_and, Bool.false_and, Bool.and_true, Bool.and_false]
  by_cases g6 : c.fo = 0
  case neg => simp only [↓opStep_eq, ↓reduceIte, ↓EW, EV, Nat.reduceAdd, Nat.reduceEqDiff, Int.reduceEq, Int.reduceLT, Int.reduceLE, Int.reduceNe, seqC, retC, skipC, exitC, blockC, condC, r20_2, t3, hl, hcell, hn, str_empty, g1, g2, g3, g4, g5, g6, Bool.true_or, Bool.false_or, Bool.or_true, Bool.or_false, Bool.true_and, Bool.false_and, Bool.and_true, Bool.and_false]
  by_cases g7 : c.uniq = 0
  case neg => simp only [↓opStep_eq, ↓reduceIte, ↓EW, EV, Nat.reduceAdd, Nat.reduceEqDiff, Int.reduceEq, Int.reduceLT, Int.reduceLE, Int.reduceNe, seqC, retC, skipC, exitC, blockC, condC, r20_2, t3, hl, hcell, hn, str_empty, g1, g2, g3, g4, g5, g6, g7, Bool.true_or, Bool.false_or, Bool.or_true, Bool.or_false, Bool.true_and, Bool.false_and, Bool.and_true, Bool.and_false]
  by_cases g8 : c.by' = 0
  case neg => simp only [↓opStep_eq, ↓reduceIte, ↓EW, EV, Nat.reduceAdd, Nat.reduceEqDiff, Int.reduceEq, Int.reduceLT, Int.reduceLE, Int.reduceNe, seqC, retC, skipC, exitC, blockC, condC, r20_2, t3, hl, hcell, hn, str_empty, g1, g2, g3, g4, g5, g6, g7, g8, Bool.true_or, Bool.false_or, Bool.or_true, Bool.or_false, Bool.true_and, Bool.false_and, Bool.and_true, Bool.and_false]
  simp only [↓opStep_eq, ↓reduceIte, ↓EW, EV, Nat.reduceAdd, Nat.reduceEqDiff, Int.reduceEq, Int.reduceLT, Int.reduceLE, Int.reduceNe, seqC, retC, skipC, exitC, blockC, condC, r20_2, t3, hl, hcell, hn, str_empty, g1, g2, g3, g4, g5, g6, g7, g8, Bool.true_or, Bool.false_or, Bool.or_true, Bool.or_false, Bool.true_and, Bool.false_and, Bool.and_true, Bool.and_false]
theorem reg31_1 (hl : ∀ o s, loadOne h (.pointer (some ⟨b, o, s⟩)) = c.cells[o]?) (hl2 : ∀ o s, loadOne h (.pointer (some ⟨b2, o, s⟩)) = [Value.int .u8 0, .int .i64 0, .slice none 0 0, .string (strB []), .int .u32 0, .int .i64 0, .int .u64 0, .int .u64 0][o]?) {len : Int} (hn : lenSl c.kv = some (.int .i64 len)) (t2 : tg tm 2 = .pointer (some ⟨b, 0, none⟩)) (t3 : tg tm 3 = .pointer (some ⟨b2, 0, none⟩)) :
    r31_1 call L tm [] h K = K .norm (T.set tm 61 (.bool (!(decide (c.kind = 0) && (decide (c.ten = 0) && (decide (len = 0) && (decide ((c.val.size : Int) = 0) && (decide (c.flags = 0) && (decide (c.fo = 0) && (decide (c.uniq = 0) && decide (c.by' = 0))))))))))) [] h := by
  have z0 : lenSl (.slice none 0 0) = some (.int .i64 0) := rfl
  by_cases g1 : c.kind = 0
  case neg => simp only [↓opStep_eq, ↓reduceIte, ↓EW, EV, Nat.reduceAdd, Nat.reduceEqDiff, Int.reduceEq, Int.reduceLT, Int.reduceLE, Int.reduceNe, seqC, retC, skipC, exitC, blockC, condC, r31_1, t2, t3, hl, hl2, hcell, hn, z0, str_nempty, g1, Bool.true_or, Bool.false_or, Bool.or_true, Bool.or_false, Bool.true_and, Bool.false_and, Bool.and_true, Bool.and_false]
  by_cases g2 : c.ten = 0
  case neg => simp only [↓opStep_eq, ↓reduceIte, ↓EW, EV, Nat.reduceAdd, Nat.reduceEqDiff, Int.reduceEq, Int.reduceLT, Int.reduceLE, Int.reduceNe, seqC, retC, skipC, exitC, blockC, condC, r31_1, t2, t3, hl, hl2, hcell, hn, z0, str_nempty, g1, g2, Bool.true_or, Bool.false_or, Bool.or_true, Bool.or_false, Bool.true_and, Bool.false_and, Bool.and_true, Bool.and_false]
  by_cases g4 : (c.val.size : Int) = 0
  case neg => simp only [↓opStep_eq, ↓reduceIte, ↓EW, EV, Nat.reduceAdd, Nat.reduceEqDiff, Int.reduceEq, Int.reduceLT, Int.reduceLE, Int.reduceNe, seqC, retC, skipC, exitC, blockC, condC, r31_1, t2, t3, hl, hl2, hcell, hn, z0, str_nempty, g1, g2, g4, Bool.true_or, Bool.false_or, Bool.or_true, Bool.or_false, Bool.true_and, Bool.false_and, Bool.and_true, Bool.and_false]
  by_cases g5 : c.flags = 0
  case neg => simp only [↓opStep_eq, ↓reduceIte, ↓EW, EV, Nat.reduceAdd, Nat.reduceEqDiff, Int.reduceEq, Int.reduceLT, Int.reduceLE, Int.reduceNe, seqC, retC, skipC, exitC, blockC, condC, r31_1, t2, t3, hl, hl2, hcell, hn, z0, str_nempty, g1, g2, g4, g5, Bool.true_or, Bool.false_or, Bool.or_true, Bool.or_false, Bool.true_and, Bool.false_and, Bool.and_true, Bool.and_false]
  by_cases g6 : c.fo = 0
  case neg => simp only [↓opStep_eq, ↓reduceIte, ↓EW, EV, Nat.reduceAdd, Nat.reduceEqDiff, Int.reduceEq, Int.reduceLT, Int.reduceLE, Int.reduceNe, seqC, retC, skipC, exitC, blockC, condC, r31_1, t2, t3, hl, hl2, hcell, hn, z0, str_nempty, g1, g2, g4, g5, g6, Bool.true_or, Bool.false_or, Bool.or_true, Bool.or_false, Bool.true_and, Bool.false_and, Bool.and_true, Bool.and_false]
  by_cases g7 : c.uniq = 0
  case neg => simp only [↓opStep_eq, ↓reduceIte, ↓EW, EV, Nat.reduceAdd, Nat.reduceEqDiff, Int.reduceEq, Int.reduceLT, Int.reduceLE, Int.reduceNe, seqC, retC, skipC, exitC, blockC, condC, r31_1, t2, t3, hl, hl2, hcell, hn, z0, str_nempty, g1, g2, g4, g5, g6, g7, Bool.true_or, Bool.false_or, Bool.or_true, Bool.or_false, Bool.true_and, Bool.false_and, Bool.and_true, Bool.and_false]
  by_cases g8 : c.by' = 0
  case neg => simp only [↓opStep_eq, ↓reduceIte, ↓EW, EV, Nat.reduceAdd, Nat.reduceEqDiff, Int.reduceEq, Int.reduceLT, Int.reduceLE, Int.reduceNe, seqC, retC, skipC, exitC, blockC, condC, r31_1, t2, t3, hl, hl2, hcell, hn, z0, str_nempty, g1, g2, g4, g5, g6, g7, g8, Bool.true_or, Bool.false_or, Bool.or_true, Bool.or_false, Bool.true_and, Bool.false_and, Bool.and_true, Bool.and_false]
  by_cases g3 : len = 0
  case neg => simp only [↓opStep_eq, ↓reduceIte, ↓EW, EV, Nat.reduceAdd, Nat.reduceEqDiff, Int.reduceEq, Int.reduceLT, Int.reduceLE, Int.reduceNe, seqC, retC, skipC, exitC, blockC, condC, r31_1, t2, t3, hl, hl2, hcell, hn, z0, str_nempty, g1, g2, g4, g5, g6, g7, g8, g3, Bool.true_or, Bool.false_or, Bool.or_true, Bool.or_false, Bool.true_and, Bool.false_and, Bool.and_true, Bool.and_false]
  simp only [↓opStep_eq, ↓reduceIte, ↓EW, EV, Nat.reduceAdd, Nat.reduceEqDiff, Int.reduceEq, Int.reduceLT, Int.reduceLE, Int.reduceNe, seqC, retC, skipC, exitC, blockC, condC, r31_1, t2, t3, hl, hl2, hcell, hn, z0, str_nempty, g1, g2, g4, g5, g6, g7, g8, g3, Bool.true_or, Bool.false_or, Bool.or_true, Bool.or_false, Bool.true_and, Bool.false_and, Bool.and_true, Bool.and_false]
end
theorem bare_law (L n : Nat) {r : Rq} {h : H} (hs : Strs h r.c.kv r.c.keys) (hones : ones r.c.cells = true) :
    Sp (CF L (n + 1)) 20 [r.v] h fun v h' => v = .bool (bareB r.c) ∧ Keep nobody h h' := by
  have hcc : (Value.cells r.v).toList = r.cells := rfl
  have k1 := Keep.new h (.rw r.cells (some 28))
  have b1 := Has.new h (.rw r.cells (some 28))
  refine Sp.body f20 (by simp) ?_
  unfold c20
  refine C.seq fun K hK => ?_
  simp only [↓opStep_eq, ↓reduceIte, ↓EW, EV, Nat.reduceAdd, Nat.reduceEqDiff, Int.reduceEq, Int.reduceLT, Int.reduceLE, Int.reduceNe, seqC, retC, skipC, exitC, blockC, condC, r20_0, hcc]
  generalize h.new (.rw r.cells (some 28)) = h1 at *
  have la : ∀ s, loadAgg 8 h1 (.pointer (some ⟨h.next, 1, s⟩)) = some r.c.v := fun s => loadAgg_has b1 rfl (by show 1 + 8 ≤ 13; omega)
  have st := store_new h1 8 none [(.int .u8 (0)), (.int .i64 (0)), (.slice none 0 0), (.string (strB [])), (.int .u32 (0)), (.int .i64 (0)), (.int .u64 (0)), (.int .u64 (0))] (some 26) r.c.v rfl rfl hones
  have ec : (Value.cells r.c.v).toList = r.c.cells := rfl
  rw [ec] at st
  have k2 := keep_alloc h1 (.rw [(.int .u8 (0)), (.int .i64 (0)), (.slice none 0 0), (.string (strB [])), (.int .u32 (0)), (.int .i64 (0)), (.int .u64 (0)), (.int .u64 (0))] (some 26)) (.rw r.c.cells (some 26))
  have b2 := has_alloc h1 (.rw [(.int .u8 (0)), (.int .i64 (0)), (.slice none 0 0), (.string (strB [])), (.int .u32 (0)), (.int .i64 (0)), (.int .u64 (0)), (.int .u64 (0))] (some 26)) (.rw r.c.cells (some 26))
  refine hK .norm _ _ (C.seq fun K hK => ?_)
  simp only [↓opStep_eq, ↓reduceIte, ↓EW, EV, Nat.reduceAdd, Nat.reduceEqDiff, Int.reduceEq, Int.reduceLT, Int.reduceLE, Int.reduceNe, seqC, retC, skipC, exitC, blockC, condC, r20_1, la, ptrTo, st]
  generalize (h1.new (.rw [(.int .u8 (0)), (.int .i64 (0)), (.slice none 0 0), (.string (strB [])), (.int .u32 (0)), (.int .i64 (0)), (.int .u64 (0)), (.int .u64 (0))] (some 26))).put h1.next (.rw r.c.cells (some 26)) = h2 at *
  have ld : ∀ o s, loadOne h2 (.pointer (some ⟨h1.next, o, s⟩)) = r.c.cells[o]? := fun o s => loadOne_has b2 rfl
  refine hK .norm _ _ (C.seq fun K hK => ?_)
  rw [box_f, reg20_2 (len := (r.c.keys.length : Int)) ld hs.len (by simp only [↓opStep_eq, ↓reduceIte, ↓EW, EV, Nat.reduceAdd, Nat.reduceEqDiff, Int.reduceEq, Int.reduceLT, Int.reduceLE, Int.reduceNe, seqC, retC, skipC, exitC, blockC, condC])]
  refine hK .norm _ _ (C.ret ⟨.inr rfl, _, rfl, ?_, k1.then k2⟩)
  simp only [↓opStep_eq, ↓reduceIte, ↓EW, EV, Nat.reduceAdd, Nat.reduceEqDiff, Int.reduceEq, Int.reduceLT, Int.reduceLE, Int.reduceNe, seqC, retC, skipC, exitC, blockC, condC, resOf, bareB]
theorem none_law (L n : Nat) (hL : 1000 < L) {c : Cmd} {h : H} (hs : Strs h c.kv c.keys) :
    Sp (CF L (n + 2)) 15 [c.v] h fun v h' => v = .bool (bareB c) ∧ Keep nobody h h' := by
  have hcc : (Value.cells c.v).toList = c.cells := rfl
  have k1 := Keep.new h (.rw c.cells (some 26))
  have b1 := Has.new h (.rw c.cells (some 26))
  have hs1 := hs.keep0 k1
  refine Sp.body f15 (by simp) ?_
  unfold c15
  refine C.seq fun K hK => ?_
  simp only [↓opStep_eq, ↓reduceIte, ↓EW, EV, Nat.reduceAdd, Nat.reduceEqDiff, Int.reduceEq, Int.reduceLT, Int.reduceLE, Int.reduceNe, seqC, retC, skipC, exitC, blockC, condC, r15_0, hcc]
  generalize h.new (.rw c.cells (some 26)) = h1 at *
  refine hK .norm _ _ (C.seq fun K hK => ?_)
  have zf : aggO (fill [(.int .u8 (0)), (.int .i64 (0)), (.slice none 0 0), (.string (strB [])), (.int .u32 (0)), (.int .i64 (0)), (.int .u64 (0)), (.int .u64 (0))] (plc [(0, 1), (1, 1), (2, 1), (3, 1), (4, 1), (5, 1), (6, 1), (7, 1)]) []) = some zv := rfl
  simp only [↓opStep_eq, ↓reduceIte, ↓EW, EV, Nat.reduceAdd, Nat.reduceEqDiff, Int.reduceEq, Int.reduceLT, Int.reduceLE, Int.reduceNe, seqC, retC, skipC, exitC, blockC, condC, r15_1, lag8 b1, zf]
  have same : Sp (CF L (n + 1)) 31 [c.v, zv] h1 fun v h' => v = .bool (bareB c) ∧ Keep nobody h1 h' := by
    refine Sp.body f31 (by simp) ?_
    unfold c31
    refine C.seq fun K hK => ?_
    have hz : (Value.cells zv).toList = zc := rfl
    simp only [↓opStep_eq, ↓reduceIte, ↓EW, EV, Nat.reduceAdd, Nat.reduceEqDiff, Int.reduceEq, Int.reduceLT, Int.reduceLE, Int.reduceNe, seqC, retC, skipC, exitC, blockC, condC, r31_0, hcc, hz]
    have k2 := Keep.new h1 (.rw c.cells (some 26))
    have b2 := Has.new h1 (.rw c.cells (some 26))
    have hs2 := hs1.keep0 k2
    have n2 : (h1.new (.rw c.cells (some 26))).next = h1.next + 1 := rfl
    generalize h1.new (.rw c.cells (some 26)) = h2 at *
    have k3 := Keep.new h2 (.rw zc (some 26))
    have b3 := Has.new h2 (.rw zc (some 26))
    have b2' := b2.keep0 k3
    generalize h2.new (.rw zc (some 26)) = h3 at *
    have ld : ∀ o s, loadOne h3 (.pointer (some ⟨h1.next, o, s⟩)) = c.cells[o]? := fun o s => loadOne_has b2' rfl
    have ld2 : ∀ o s, loadOne h3 (.pointer (some ⟨h2.next, o, s⟩)) = zc[o]? := fun o s => loadOne_has b3 rfl
    refine hK .norm _ _ (C.seq (C.seq fun K hK => ?_))
    rw [box_f, reg31_1 (len := (c.keys.length : Int)) ld ld2 hs2.len (by simp only [↓opStep_eq, ↓reduceIte, ↓EW, EV, Nat.reduceAdd, Nat.reduceEqDiff, Int.reduceEq, Int.reduceLT, Int.reduceLE, Int.reduceNe, seqC, retC, skipC, exitC, blockC, condC]) (by simp only [↓opStep_eq, ↓reduceIte, ↓EW, EV, Nat.reduceAdd, Nat.reduceEqDiff, Int.reduceEq, Int.reduceLT, Int.reduceLE, Int.reduceNe, seqC, retC, skipC, exitC, blockC, condC])]
    cases hb : bareB c with
    | false =>
      have hb' := hb
      unfold bareB at hb'
      rw [hb']
      refine hK .norm _ _ (C.cond true (by simp only [↓opStep_eq, ↓reduceIte, ↓EW, EV, Nat.reduceAdd, Nat.reduceEqDiff, Int.reduceEq, Int.reduceLT, Int.reduceLE, Int.reduceNe, seqC, retC, skipC, exitC, blockC, condC]) (fun _ => C.seq fun K hK => ?_) fun g => by cases g)
      simp only [↓opStep_eq, ↓reduceIte, ↓EW, EV, Nat.reduceAdd, Nat.reduceEqDiff, Int.reduceEq, Int.reduceLT, Int.reduceLE, Int.reduceNe, seqC, retC, skipC, exitC, blockC, condC, r31_2]
      refine hK .norm _ _ (C.ret ⟨.inr rfl, _, rfl, ?_, k2.then k3⟩)
      simp only [↓opStep_eq, ↓reduceIte, ↓EW, EV, Nat.reduceAdd, Nat.reduceEqDiff, Int.reduceEq, Int.reduceLT, Int.reduceLE, Int.reduceNe, seqC, retC, skipC, exitC, blockC, condC, resOf, hb]
    | true =>
      have hb' := hb
      unfold bareB at hb'
      rw [hb']
      have hlen : (c.keys.length : Int) = 0 := by
        simp only [Bool.and_eq_true, decide_eq_true_eq] at hb'
        exact hb'.2.2.1
      refine hK .norm _ _ (C.cond false (by simp only [↓opStep_eq, ↓reduceIte, ↓EW, EV, Nat.reduceAdd, Nat.reduceEqDiff, Int.reduceEq, Int.reduceLT, Int.reduceLE, Int.reduceNe, seqC, retC, skipC, exitC, blockC, condC]) (fun g => by cases g) fun _ => C.skip (C.seq (C.seq fun K hK => ?_)))
      simp only [↓opStep_eq, ↓reduceIte, ↓EW, EV, Nat.reduceAdd, Nat.reduceEqDiff, Int.reduceEq, Int.reduceLT, Int.reduceLE, Int.reduceNe, seqC, retC, skipC, exitC, blockC, condC, r31_3]
      refine hK .norm _ _ (C.block ?_)
      refine (C.loop (L := L) (fun kk tm h4 => tg tm 2 = .pointer (some ⟨h1.next, 0, none⟩) ∧ tg tm 5 = .int .i64 0 ∧ h4 = h3) 0 (by omega) ⟨by simp only [↓opStep_eq, ↓reduceIte, ↓EW, EV, Nat.reduceAdd, Nat.reduceEqDiff, Int.reduceEq, Int.reduceLT, Int.reduceLE, Int.reduceNe, seqC, retC, skipC, exitC, blockC, condC], by simp only [↓opStep_eq, ↓reduceIte, ↓EW, EV, Nat.reduceAdd, Nat.reduceEqDiff, Int.reduceEq, Int.reduceLT, Int.reduceLE, Int.reduceNe, seqC, retC, skipC, exitC, blockC, condC], rfl⟩ ?_ : C (loopB l31_8) _ L _ h3 fun e tm h4 => e = .exit 0 ∧ h4 = h3).mono ?_
      · rintro kk tm h4 ⟨t2, t5, rfl⟩
        unfold l31_8
        refine C.seq (C.seq fun K hK => ?_)
        simp only [↓opStep_eq, ↓reduceIte, ↓EW, EV, Nat.reduceAdd, Nat.reduceEqDiff, Int.reduceEq, Int.reduceLT, Int.reduceLE, Int.reduceNe, seqC, retC, skipC, exitC, blockC, condC, r31_4, t2, t5, ld, hcell, hs2.len, hlen]
        exact hK .norm _ _ (C.cond false (by simp only [↓opStep_eq, ↓reduceIte, ↓EW, EV, Nat.reduceAdd, Nat.reduceEqDiff, Int.reduceEq, Int.reduceLT, Int.reduceLE, Int.reduceNe, seqC, retC, skipC, exitC, blockC, condC]) (fun g => by cases g) fun _ => C.exit ⟨rfl, rfl⟩)
      · rintro e tm h4 ⟨rfl, rfl⟩
        show if 0 = 0 then _ else _
        rw [if_pos rfl]
        refine C.seq fun K hK => ?_
        simp only [↓opStep_eq, ↓reduceIte, ↓EW, EV, Nat.reduceAdd, Nat.reduceEqDiff, Int.reduceEq, Int.reduceLT, Int.reduceLE, Int.reduceNe, seqC, retC, skipC, exitC, blockC, condC, r31_8]
        refine hK .norm _ _ (C.ret ⟨.inr rfl, _, rfl, ?_, k2.then k3⟩)
        simp only [↓opStep_eq, ↓reduceIte, ↓EW, EV, Nat.reduceAdd, Nat.reduceEqDiff, Int.reduceEq, Int.reduceLT, Int.reduceLE, Int.reduceNe, seqC, retC, skipC, exitC, blockC, condC, resOf, hb]
  refine same _ fun r h2 hq => ?_
  obtain ⟨rfl, k2⟩ := hq
  refine hK .norm _ _ (C.ret ⟨.inr rfl, _, rfl, ?_, k1.then k2⟩)
  simp only [↓opStep_eq, ↓reduceIte, ↓EW, EV, Nat.reduceAdd, Nat.reduceEqDiff, Int.reduceEq, Int.reduceLT, Int.reduceLE, Int.reduceNe, seqC, retC, skipC, exitC, blockC, condC, resOf]

/-! ### what beside a command is right -/
def restB (r : Rq) : Bool := (!r.close && (!r.on || decide (r.kind = 3))) && (decide (r.kind = 2) || (decide (r.ten = 0) && decide ((r.sec.size : Int) = 0)))
def fitsA (r : Rq) : Bool := restB r && (decide (r.kind = 1) || bareB r.c)
def fitsB (r : Rq) : Bool := !decide (r.kind = 2) || ((decide (0 ≤ r.ten) && decide (r.ten < 4)) && okW 16 r.sec.data.toList)
section
variable {L n : Nat} {tm : T Value} {h : H} {b : Nat} {K : KE} {r : Rq}
theorem reg7_2 (hs : Strs h r.c.kv r.c.keys) (hones : ones r.c.cells = true) (hb : Has h b (.rw r.cells (some 28))) (t1 : tg tm 1 = .pointer (some ⟨b, 0, none⟩)) (t3 : tg tm 3 = .bool (decide (r.kind = 2)))
    (hK : ∀ h', Keep nobody h h' → K .norm (T.set tm 41 (.bool (!fitsA r))) [] h' = true) : r7_2 (CF L (n + 1)) L tm [] h K = true := by
  have hl : ∀ o s, loadOne h (.pointer (some ⟨b, o, s⟩)) = r.cells[o]? := fun o s => loadOne_has hb rfl
  have lag : ∀ s, loadAgg 13 h (.pointer (some ⟨b, 0, s⟩)) = some r.v := fun s => loadAgg_has hb rfl (by show 0 + 13 ≤ 13; omega)
  cases hcl : r.close
  case true =>
    · have e : fitsA r = false := by simp only [↓opStep_eq, ↓reduceIte, ↓EW, EV, Nat.reduceAdd, Nat.reduceEqDiff, Int.reduceEq, Int.reduceLT, Int.reduceLE, Int.reduceNe, seqC, retC, skipC, exitC, blockC, condC, fitsA, restB, hcl, Bool.true_or, Bool.false_or, Bool.or_true, Bool.or_false, Bool.true_and, Bool.false_and, Bool.and_true, Bool.and_false]
      rw [e] at hK
      simp only [↓opStep_eq, ↓reduceIte, ↓EW, EV, Nat.reduceAdd, Nat.reduceEqDiff, Int.reduceEq, Int.reduceLT, Int.reduceLE, Int.reduceNe, seqC, retC, skipC, exitC, blockC, condC, r7_2, t1, t3, hl, rcell, str_nempty, hcl, Bool.true_or, Bool.false_or, Bool.or_true, Bool.or_false, Bool.true_and, Bool.false_and, Bool.and_true, Bool.and_false]
      exact hK h (.refl _ _)
  cases hon : r.on
  case true =>
    by_cases e3 : r.kind = 3
    case neg =>
      · have e : fitsA r = false := by simp only [↓opStep_eq, ↓reduceIte, ↓EW, EV, Nat.reduceAdd, Nat.reduceEqDiff, Int.reduceEq, Int.reduceLT, Int.reduceLE, Int.reduceNe, seqC, retC, skipC, exitC, blockC, condC, fitsA, restB, hcl, hon, e3, Bool.true_or, Bool.false_or, Bool.or_true, Bool.or_false, Bool.true_and, Bool.false_and, Bool.and_true, Bool.and_false]
        rw [e] at hK
        simp only [↓opStep_eq, ↓reduceIte, ↓EW, EV, Nat.reduceAdd, Nat.reduceEqDiff, Int.reduceEq, Int.reduceLT, Int.reduceLE, Int.reduceNe, seqC, retC, skipC, exitC, blockC, condC, r7_2, t1, t3, hl, rcell, str_nempty, hcl, hon, e3, Bool.true_or, Bool.false_or, Bool.or_true, Bool.or_false, Bool.true_and, Bool.false_and, Bool.and_true, Bool.and_false]
        exact hK h (.refl _ _)
    by_cases z1 : r.ten = 0
    case neg =>
      · have e : fitsA r = false := by simp only [↓opStep_eq, ↓reduceIte, ↓EW, EV, Nat.reduceAdd, Nat.reduceEqDiff, Int.reduceEq, Int.reduceLT, Int.reduceLE, Int.reduceNe, seqC, retC, skipC, exitC, blockC, condC, fitsA, restB, hcl, hon, e3, z1, Bool.true_or, Bool.false_or, Bool.or_true, Bool.or_false, Bool.true_and, Bool.false_and, Bool.and_true, Bool.and_false]
        rw [e] at hK
        simp only [↓opStep_eq, ↓reduceIte, ↓EW, EV, Nat.reduceAdd, Nat.reduceEqDiff, Int.reduceEq, Int.reduceLT, Int.reduceLE, Int.reduceNe, seqC, retC, skipC, exitC, blockC, condC, r7_2, t1, t3, hl, rcell, str_nempty, hcl, hon, e3, z1, Bool.true_or, Bool.false_or, Bool.or_true, Bool.or_false, Bool.true_and, Bool.false_and, Bool.and_true, Bool.and_false]
        exact hK h (.refl _ _)
    by_cases z2 : (r.sec.size : Int) = 0
    case neg =>
      · have e : fitsA r = false := by simp only [↓opStep_eq, ↓reduceIte, ↓EW, EV, Nat.reduceAdd, Nat.reduceEqDiff, Int.reduceEq, Int.reduceLT, Int.reduceLE, Int.reduceNe, seqC, retC, skipC, exitC, blockC, condC, fitsA, restB, hcl, hon, e3, z1, z2, Bool.true_or, Bool.false_or, Bool.or_true, Bool.or_false, Bool.true_and, Bool.false_and, Bool.and_true, Bool.and_false]
        rw [e] at hK
        simp only [↓opStep_eq, ↓reduceIte, ↓EW, EV, Nat.reduceAdd, Nat.reduceEqDiff, Int.reduceEq, Int.reduceLT, Int.reduceLE, Int.reduceNe, seqC, retC, skipC, exitC, blockC, condC, r7_2, t1, t3, hl, rcell, str_nempty, hcl, hon, e3, z1, z2, Bool.true_or, Bool.false_or, Bool.or_true, Bool.or_false, Bool.true_and, Bool.false_and, Bool.and_true, Bool.and_false]
        exact hK h (.refl _ _)
    · have e : fitsA r = bareB r.c := by simp only [↓opStep_eq, ↓reduceIte, ↓EW, EV, Nat.reduceAdd, Nat.reduceEqDiff, Int.reduceEq, Int.reduceLT, Int.reduceLE, Int.reduceNe, seqC, retC, skipC, exitC, blockC, condC, fitsA, restB, hcl, hon, e3, z1, z2, Bool.true_or, Bool.false_or, Bool.or_true, Bool.or_false, Bool.true_and, Bool.false_and, Bool.and_true, Bool.and_false]
      rw [e] at hK
      simp only [↓opStep_eq, ↓reduceIte, ↓EW, EV, Nat.reduceAdd, Nat.reduceEqDiff, Int.reduceEq, Int.reduceLT, Int.reduceLE, Int.reduceNe, seqC, retC, skipC, exitC, blockC, condC, r7_2, t1, t3, hl, rcell, str_nempty, hcl, hon, e3, z1, z2, lag, Bool.true_or, Bool.false_or, Bool.or_true, Bool.or_false, Bool.true_and, Bool.false_and, Bool.and_true, Bool.and_false]
      refine bare_law L n hs hones _ fun v h2 hq => ?_
      obtain ⟨rfl, k2⟩ := hq
      simp only [↓opStep_eq, ↓reduceIte, ↓EW, EV, Nat.reduceAdd, Nat.reduceEqDiff, Int.reduceEq, Int.reduceLT, Int.reduceLE, Int.reduceNe, seqC, retC, skipC, exitC, blockC, condC]
      exact hK h2 k2
  by_cases e2 : r.kind = 2
  · have e : fitsA r = bareB r.c := by simp only [↓opStep_eq, ↓reduceIte, ↓EW, EV, Nat.reduceAdd, Nat.reduceEqDiff, Int.reduceEq, Int.reduceLT, Int.reduceLE, Int.reduceNe, seqC, retC, skipC, exitC, blockC, condC, fitsA, restB, hcl, hon, e2, Bool.true_or, Bool.false_or, Bool.or_true, Bool.or_false, Bool.true_and, Bool.false_and, Bool.and_true, Bool.and_false]
    rw [e] at hK
    simp only [↓opStep_eq, ↓reduceIte, ↓EW, EV, Nat.reduceAdd, Nat.reduceEqDiff, Int.reduceEq, Int.reduceLT, Int.reduceLE, Int.reduceNe, seqC, retC, skipC, exitC, blockC, condC, r7_2, t1, t3, hl, rcell, str_nempty, hcl, hon, e2, lag, Bool.true_or, Bool.false_or, Bool.or_true, Bool.or_false, Bool.true_and, Bool.false_and, Bool.and_true, Bool.and_false]
    refine bare_law L n hs hones _ fun v h2 hq => ?_
    obtain ⟨rfl, k2⟩ := hq
    simp only [↓opStep_eq, ↓reduceIte, ↓EW, EV, Nat.reduceAdd, Nat.reduceEqDiff, Int.reduceEq, Int.reduceLT, Int.reduceLE, Int.reduceNe, seqC, retC, skipC, exitC, blockC, condC]
    exact hK h2 k2
  by_cases z1 : r.ten = 0
  case neg =>
    · have e : fitsA r = false := by simp only [↓opStep_eq, ↓reduceIte, ↓EW, EV, Nat.reduceAdd, Nat.reduceEqDiff, Int.reduceEq, Int.reduceLT, Int.reduceLE, Int.reduceNe, seqC, retC, skipC, exitC, blockC, condC, fitsA, restB, hcl, hon, e2, z1, Bool.true_or, Bool.false_or, Bool.or_true, Bool.or_false, Bool.true_and, Bool.false_and, Bool.and_true, Bool.and_false]
      rw [e] at hK
      simp only [↓opStep_eq, ↓reduceIte, ↓EW, EV, Nat.reduceAdd, Nat.reduceEqDiff, Int.reduceEq, Int.reduceLT, Int.reduceLE, Int.reduceNe, seqC, retC, skipC, exitC, blockC, condC, r7_2, t1, t3, hl, rcell, str_nempty, hcl, hon, e2, z1, Bool.true_or, Bool.false_or, Bool.or_true, Bool.or_false, Bool.true_and, Bool.false_and, Bool.and_true, Bool.and_false]
      exact hK h (.refl _ _)
  by_cases z2 : (r.sec.size : Int) = 0
  case neg =>
    · have e : fitsA r = false := by simp only [↓opStep_eq, ↓reduceIte, ↓EW, EV, Nat.reduceAdd, Nat.reduceEqDiff, Int.reduceEq, Int.reduceLT, Int.reduceLE, Int.reduceNe, seqC, retC, skipC, exitC, blockC, condC, fitsA, restB, hcl, hon, e2, z1, z2, Bool.true_or, Bool.false_or, Bool.or_true, Bool.or_false, Bool.true_and, Bool.false_and, Bool.and_true, Bool.and_false]
      rw [e] at hK
      simp only [↓opStep_eq, ↓reduceIte, ↓EW, EV, Nat.reduceAdd, Nat.reduceEqDiff, Int.reduceEq, Int.reduceLT, Int.reduceLE, Int.reduceNe, seqC, retC, skipC, exitC, blockC, condC, r7_2, t1, t3, hl, rcell, str_nempty, hcl, hon, e2, z1, z2, Bool.true_or, Bool.false_or, Bool.or_true, Bool.or_false, Bool.true_and, Bool.false_and, Bool.and_true, Bool.and_false]
      exact hK h (.refl _ _)
  by_cases e1 : r.kind = 1
  · have e : fitsA r = true := by simp only [↓opStep_eq, ↓reduceIte, ↓EW, EV, Nat.reduceAdd, Nat.reduceEqDiff, Int.reduceEq, Int.reduceLT, Int.reduceLE, Int.reduceNe, seqC, retC, skipC, exitC, blockC, condC, fitsA, restB, hcl, hon, e2, z1, z2, e1, Bool.true_or, Bool.false_or, Bool.or_true, Bool.or_false, Bool.true_and, Bool.false_and, Bool.and_true, Bool.and_false]
    rw [e] at hK
    simp only [↓opStep_eq, ↓reduceIte, ↓EW, EV, Nat.reduceAdd, Nat.reduceEqDiff, Int.reduceEq, Int.reduceLT, Int.reduceLE, Int.reduceNe, seqC, retC, skipC, exitC, blockC, condC, r7_2, t1, t3, hl, rcell, str_nempty, hcl, hon, e2, z1, z2, e1, Bool.true_or, Bool.false_or, Bool.or_true, Bool.or_false, Bool.true_and, Bool.false_and, Bool.and_true, Bool.and_false]
    exact hK h (.refl _ _)
  · have e : fitsA r = bareB r.c := by simp only [↓opStep_eq, ↓reduceIte, ↓EW, EV, Nat.reduceAdd, Nat.reduceEqDiff, Int.reduceEq, Int.reduceLT, Int.reduceLE, Int.reduceNe, seqC, retC, skipC, exitC, blockC, condC, fitsA, restB, hcl, hon, e2, z1, z2, e1, Bool.true_or, Bool.false_or, Bool.or_true, Bool.or_false, Bool.true_and, Bool.false_and, Bool.and_true, Bool.and_false]
    rw [e] at hK
    simp only [↓opStep_eq, ↓reduceIte, ↓EW, EV, Nat.reduceAdd, Nat.reduceEqDiff, Int.reduceEq, Int.reduceLT, Int.reduceLE, Int.reduceNe, seqC, retC, skipC, exitC, blockC, condC, r7_2, t1, t3, hl, rcell, str_nempty, hcl, hon, e2, z1, z2, e1, lag, Bool.true_or, Bool.false_or, Bool.or_true, Bool.or_false, Bool.true_and, Bool.false_and, Bool.and_true, Bool.and_false]
    refine bare_law L n hs hones _ fun v h2 hq => ?_
    obtain ⟨rfl, k2⟩ := hq
    simp only [↓opStep_eq, ↓reduceIte, ↓EW, EV, Nat.reduceAdd, Nat.reduceEqDiff, Int.reduceEq, Int.reduceLT, Int.reduceLE, Int.reduceNe, seqC, retC, skipC, exitC, blockC, condC]
    exact hK h2 k2
theorem reg6_1 (hL : 1000 < L) (hs : Strs h r.c.kv r.c.keys) (hb : Has h b (.rw r.cells (some 28))) (t1 : tg tm 1 = .pointer (some ⟨b, 0, none⟩))
    (hK : ∀ h', Keep nobody h h' → K .norm (T.set tm 42 (.bool (!fitsA r))) [] h' = true) : r6_1 (CF L (n + 2)) L tm [] h K = true := by
  have hl : ∀ o s, loadOne h (.pointer (some ⟨b, o, s⟩)) = r.cells[o]? := fun o s => loadOne_has hb rfl
  have lag : ∀ s, loadAgg 8 h (.pointer (some ⟨b, 1, s⟩)) = some r.c.v := fun s => loadAgg_has hb rfl (by show 1 + 8 ≤ 13; omega)
  cases hcl : r.close
  case true =>
    · have e : fitsA r = false := by simp only [↓opStep_eq, ↓reduceIte, ↓EW, EV, Nat.reduceAdd, Nat.reduceEqDiff, Int.reduceEq, Int.reduceLT, Int.reduceLE, Int.reduceNe, seqC, retC, skipC, exitC, blockC, condC, fitsA, restB, hcl, Bool.true_or, Bool.false_or, Bool.or_true, Bool.or_false, Bool.true_and, Bool.false_and, Bool.and_true, Bool.and_false]
      rw [e] at hK
      simp only [↓opStep_eq, ↓reduceIte, ↓EW, EV, Nat.reduceAdd, Nat.reduceEqDiff, Int.reduceEq, Int.reduceLT, Int.reduceLE, Int.reduceNe, seqC, retC, skipC, exitC, blockC, condC, r6_1, t1, hl, rcell, str_nempty, hcl, Bool.true_or, Bool.false_or, Bool.or_true, Bool.or_false, Bool.true_and, Bool.false_and, Bool.and_true, Bool.and_false]
      exact hK h (.refl _ _)
  cases hon : r.on
  case true =>
    by_cases e3 : r.kind = 3
    case neg =>
      · have e : fitsA r = false := by simp only [↓opStep_eq, ↓reduceIte, ↓EW, EV, Nat.reduceAdd, Nat.reduceEqDiff, Int.reduceEq, Int.reduceLT, Int.reduceLE, Int.reduceNe, seqC, retC, skipC, exitC, blockC, condC, fitsA, restB, hcl, hon, e3, Bool.true_or, Bool.false_or, Bool.or_true, Bool.or_false, Bool.true_and, Bool.false_and, Bool.and_true, Bool.and_false]
        rw [e] at hK
        simp only [↓opStep_eq, ↓reduceIte, ↓EW, EV, Nat.reduceAdd, Nat.reduceEqDiff, Int.reduceEq, Int.reduceLT, Int.reduceLE, Int.reduceNe, seqC, retC, skipC, exitC, blockC, condC, r6_1, t1, hl, rcell, str_nempty, hcl, hon, e3, Bool.true_or, Bool.false_or, Bool.or_true, Bool.or_false, Bool.true_and, Bool.false_and, Bool.and_true, Bool.and_false]
        exact hK h (.refl _ _)
    by_cases z1 : r.ten = 0
    case neg =>
      · have e : fitsA r = false := by simp only [↓opStep_eq, ↓reduceIte, ↓EW, EV, Nat.reduceAdd, Nat.reduceEqDiff, Int.reduceEq, Int.reduceLT, Int.reduceLE, Int.reduceNe, seqC, retC, skipC, exitC, blockC, condC, fitsA, restB, hcl, hon, e3, z1, Bool.true_or, Bool.false_or, Bool.or_true, Bool.or_false, Bool.true_and, Bool.false_and, Bool.and_true, Bool.and_false]
        rw [e] at hK
        simp only [↓opStep_eq, ↓reduceIte, ↓EW, EV, Nat.reduceAdd, Nat.reduceEqDiff, Int.reduceEq, Int.reduceLT, Int.reduceLE, Int.reduceNe, seqC, retC, skipC, exitC, blockC, condC, r6_1, t1, hl, rcell, str_nempty, hcl, hon, e3, z1, Bool.true_or, Bool.false_or, Bool.or_true, Bool.or_false, Bool.true_and, Bool.false_and, Bool.and_true, Bool.and_false]
        exact hK h (.refl _ _)
    by_cases z2 : (r.sec.size : Int) = 0
    case neg =>
      · have e : fitsA r = false := by simp only [↓opStep_eq, ↓reduceIte, ↓EW, EV, Nat.reduceAdd, Nat.reduceEqDiff, Int.reduceEq, Int.reduceLT, Int.reduceLE, Int.reduceNe, seqC, retC, skipC, exitC, blockC, condC, fitsA, restB, hcl, hon, e3, z1, z2, Bool.true_or, Bool.false_or, Bool.or_true, Bool.or_false, Bool.true_and, Bool.false_and, Bool.and_true, Bool.and_false]
        rw [e] at hK
        simp only [↓opStep_eq, ↓reduceIte, ↓EW, EV, Nat.reduceAdd, Nat.reduceEqDiff, Int.reduceEq, Int.reduceLT, Int.reduceLE, Int.reduceNe, seqC, retC, skipC, exitC, blockC, condC, r6_1, t1, hl, rcell, str_nempty, hcl, hon, e3, z1, z2, Bool.true_or, Bool.false_or, Bool.or_true, Bool.or_false, Bool.true_and, Bool.false_and, Bool.and_true, Bool.and_false]
        exact hK h (.refl _ _)
    · have e : fitsA r = bareB r.c := by simp only [↓opStep_eq, ↓reduceIte, ↓EW, EV, Nat.reduceAdd, Nat.reduceEqDiff, Int.reduceEq, Int.reduceLT, Int.reduceLE, Int.reduceNe, seqC, retC, skipC, exitC, blockC, condC, fitsA, restB, hcl, hon, e3, z1, z2, Bool.true_or, Bool.false_or, Bool.or_true, Bool.or_false, Bool.true_and, Bool.false_and, Bool.and_true, Bool.and_false]
      rw [e] at hK
      simp only [↓opStep_eq, ↓reduceIte, ↓EW, EV, Nat.reduceAdd, Nat.reduceEqDiff, Int.reduceEq, Int.reduceLT, Int.reduceLE, Int.reduceNe, seqC, retC, skipC, exitC, blockC, condC, r6_1, t1, hl, rcell, str_nempty, hcl, hon, e3, z1, z2, lag, Bool.true_or, Bool.false_or, Bool.or_true, Bool.or_false, Bool.true_and, Bool.false_and, Bool.and_true, Bool.and_false]
      refine none_law L n hL hs _ fun v h2 hq => ?_
      obtain ⟨rfl, k2⟩ := hq
      simp only [↓opStep_eq, ↓reduceIte, ↓EW, EV, Nat.reduceAdd, Nat.reduceEqDiff, Int.reduceEq, Int.reduceLT, Int.reduceLE, Int.reduceNe, seqC, retC, skipC, exitC, blockC, condC]
      exact hK h2 k2
  by_cases e2 : r.kind = 2
  · have e : fitsA r = bareB r.c := by simp only [↓opStep_eq, ↓reduceIte, ↓EW, EV, Nat.reduceAdd, Nat.reduceEqDiff, Int.reduceEq, Int.reduceLT, Int.reduceLE, Int.reduceNe, seqC, retC, skipC, exitC, blockC, condC, fitsA, restB, hcl, hon, e2, Bool.true_or, Bool.false_or, Bool.or_true, Bool.or_false, Bool.true_and, Bool.false_and, Bool.and_true, Bool.and_false]
    rw [e] at hK
    simp only [↓opStep_eq, ↓reduceIte, ↓EW, EV, Nat.reduceAdd, Nat.reduceEqDiff, Int.reduceEq, Int.reduceLT, Int.reduceLE, Int.reduceNe, seqC, retC, skipC, exitC, blockC, condC, r6_1, t1, hl, rcell, str_nempty, hcl, hon, e2, lag, Bool.true_or, Bool.false_or, Bool.or_true, Bool.or_false, Bool.true_and, Bool.false_and, Bool.and_true, Bool.and_false]
    refine none_law L n hL hs _ fun v h2 hq => ?_
    obtain ⟨rfl, k2⟩ := hq
    simp only [↓opStep_eq, ↓reduceIte, ↓EW, EV, Nat.reduceAdd, Nat.reduceEqDiff, Int.reduceEq, Int.reduceLT, Int.reduceLE, Int.reduceNe, seqC, retC, skipC, exitC, blockC, condC]
    exact hK h2 k2
  by_cases z1 : r.ten = 0
  case neg =>
    · have e : fitsA r = false := by simp only [↓opStep_eq, ↓reduceIte, ↓EW, EV, Nat.reduceAdd, Nat.reduceEqDiff, Int.reduceEq, Int.reduceLT, Int.reduceLE, Int.reduceNe, seqC, retC, skipC, exitC, blockC, condC, fitsA, restB, hcl, hon, e2, z1, Bool.true_or, Bool.false_or, Bool.or_true, Bool.or_false, Bool.true_and, Bool.false_and, Bool.and_true, Bool.and_false]
      rw [e] at hK
      simp only [↓opStep_eq, ↓reduceIte, ↓EW, EV, Nat.reduceAdd, Nat.reduceEqDiff, Int.reduceEq, Int.reduceLT, Int.reduceLE, Int.reduceNe, seqC, retC, skipC, exitC, blockC, condC, r6_1, t1, hl, rcell, str_nempty, hcl, hon, e2, z1, Bool.true_or, Bool.false_or, Bool.or_true, Bool.or_false, Bool.true_and, Bool.false_and, Bool.and_true, Bool.and_false]
      exact hK h (.refl _ _)
  by_cases z2 : (r.sec.size : Int) = 0
  case neg =>
    · have e : fitsA r = false := by simp only [↓opStep_eq, ↓reduceIte, ↓EW, EV, Nat.reduceAdd, Nat.reduceEqDiff, Int.reduceEq, Int.reduceLT, Int.reduceLE, Int.reduceNe, seqC, retC, skipC, exitC, blockC, condC, fitsA, restB, hcl, hon, e2, z1, z2, Bool.true_or, Bool.false_or, Bool.or_true, Bool.or_false, Bool.true_and, Bool.false_and, Bool.and_true, Bool.and_false]
      rw [e] at hK
      simp only [↓opStep_eq, ↓reduceIte, ↓EW, EV, Nat.reduceAdd, Nat.reduceEqDiff, Int.reduceEq, Int.reduceLT, Int.reduceLE, Int.reduceNe, seqC, retC, skipC, exitC, blockC, condC, r6_1, t1, hl, rcell, str_nempty, hcl, hon, e2, z1, z2, Bool.true_or, Bool.false_or, Bool.or_true, Bool.or_false, Bool.true_and, Bool.false_and, Bool.and_true, Bool.and_false]
      exact hK h (.refl _ _)
  by_cases e1 : r.kind = 1
  · have e : fitsA r = true := by simp only [↓opStep_eq, ↓reduceIte, ↓EW, EV, Nat.reduceAdd, Nat.reduceEqDiff, Int.reduceEq, Int.reduceLT, Int.reduceLE, Int.reduceNe, seqC, retC, skipC, exitC, blockC, condC, fitsA, restB, hcl, hon, e2, z1, z2, e1, Bool.true_or, Bool.false_or, Bool.or_true, Bool.or_false, Bool.true_and, Bool.false_and, Bool.and_true, Bool.and_false]
    rw [e] at hK
    simp only [↓opStep_eq, ↓reduceIte, ↓EW, EV, Nat.reduceAdd, Nat.reduceEqDiff, Int.reduceEq, Int.reduceLT, Int.reduceLE, Int.reduceNe, seqC, retC, skipC, exitC, blockC, condC, r6_1, t1, hl, rcell, str_nempty, hcl, hon, e2, z1, z2, e1, Bool.true_or, Bool.false_or, Bool.or_true, Bool.or_false, Bool.true_and, Bool.false_and, Bool.and_true, Bool.and_false]
    exact hK h (.refl _ _)
  · have e : fitsA r = bareB r.c := by simp only [↓opStep_eq, ↓reduceIte, ↓EW, EV, Nat.reduceAdd, Nat.reduceEqDiff, Int.reduceEq, Int.reduceLT, Int.reduceLE, Int.reduceNe, seqC, retC, skipC, exitC, blockC, condC, fitsA, restB, hcl, hon, e2, z1, z2, e1, Bool.true_or, Bool.false_or, Bool.or_true, Bool.or_false, Bool.true_and, Bool.false_and, Bool.and_true, Bool.and_false]
    rw [e] at hK
    simp only [↓opStep_eq, ↓reduceIte, ↓EW, EV, Nat.reduceAdd, Nat.reduceEqDiff, Int.reduceEq, Int.reduceLT, Int.reduceLE, Int.reduceNe, seqC, retC, skipC, exitC, blockC, condC, r6_1, t1, hl, rcell, str_nempty, hcl, hon, e2, z1, z2, e1, lag, Bool.true_or, Bool.false_or, Bool.or_true, Bool.or_false, Bool.true_and, Bool.false_and, Bool.and_true, Bool.and_false]
    refine none_law L n hL hs _ fun v h2 hq => ?_
    obtain ⟨rfl, k2⟩ := hq
    simp only [↓opStep_eq, ↓reduceIte, ↓EW, EV, Nat.reduceAdd, Nat.reduceEqDiff, Int.reduceEq, Int.reduceLT, Int.reduceLE, Int.reduceNe, seqC, retC, skipC, exitC, blockC, condC]
    exact hK h2 k2
end
end Go.Proofs.YtilpiiafjehbnaaDoor

namespace Go.Proofs.YtilpiiafjehbnaaDoor
open Go.Ev

section
variable {L n : Nat} {tm : T Value} {h : H} {b : Nat} {K : KE} {r : Rq}
theorem reg7_4 (hL : 2000 ≤ L) (hsec : r.sec.size ≤ 1000) (hb : Has h b (.rw r.cells (some 28))) (t1 : tg tm 1 = .pointer (some ⟨b, 0, none⟩)) (t3 : tg tm 3 = .bool (decide (r.kind = 2)))
    (hK : ∀ h', Keep nobody h h' → K .norm (T.set tm 2 (.bool (fitsB r))) [] h' = true) : r7_4 (CF L (n + 4)) L tm [] h K = true := by
  have hl : ∀ o s, loadOne h (.pointer (some ⟨b, o, s⟩)) = r.cells[o]? := fun o s => loadOne_has hb rfl
  unfold fitsB at hK
  by_cases g1 : r.kind = 2
  · rw [decide_eq_true g1] at hK t3
    by_cases g2 : 0 ≤ r.ten
    · rw [decide_eq_true g2] at hK
      by_cases g3 : r.ten < 4
      · rw [decide_eq_true g3] at hK
        simp only [↓opStep_eq, ↓reduceIte, ↓EW, EV, Nat.reduceAdd, Nat.reduceEqDiff, Int.reduceEq, Int.reduceLT, Int.reduceLE, Int.reduceNe, seqC, retC, skipC, exitC, blockC, condC, r7_4, t1, t3, hl, rcell, g2, g3]
        refine plain_law L n 16 (p := r.sec.data.toList) (by show r.sec.size < L; omega) _ _ fun v h2 hq => ?_
        obtain ⟨rfl, k2⟩ := hq
        exact hK h2 k2
      · rw [decide_eq_false g3] at hK
        simp only [↓opStep_eq, ↓reduceIte, ↓EW, EV, Nat.reduceAdd, Nat.reduceEqDiff, Int.reduceEq, Int.reduceLT, Int.reduceLE, Int.reduceNe, seqC, retC, skipC, exitC, blockC, condC, r7_4, t1, t3, hl, rcell, g2, g3]
        exact hK h (.refl _ _)
    · rw [decide_eq_false g2] at hK
      simp only [↓opStep_eq, ↓reduceIte, ↓EW, EV, Nat.reduceAdd, Nat.reduceEqDiff, Int.reduceEq, Int.reduceLT, Int.reduceLE, Int.reduceNe, seqC, retC, skipC, exitC, blockC, condC, r7_4, t1, t3, hl, rcell, g2]
      exact hK h (.refl _ _)
  · rw [decide_eq_false g1] at hK t3
    simp only [↓opStep_eq, ↓reduceIte, ↓EW, EV, Nat.reduceAdd, Nat.reduceEqDiff, Int.reduceEq, Int.reduceLT, Int.reduceLE, Int.reduceNe, seqC, retC, skipC, exitC, blockC, condC, r7_4, t1, t3, hl, rcell]
    exact hK h (.refl _ _)
end
theorem fits_law (L n : Nat) (hL : 2000 ≤ L) {r : Rq} {h : H} (hsec : r.sec.size ≤ 1000) (hs : Strs h r.c.kv r.c.keys) (hones : ones r.c.cells = true) :
    Sp (CF L (n + 5)) 7 [r.v] h fun v h' => v = .bool (fitsA r && fitsB r) ∧ Keep nobody h h' := by
  have hcc : (Value.cells r.v).toList = r.cells := rfl
  have k1 := Keep.new h (.rw r.cells (some 28))
  have b1 := Has.new h (.rw r.cells (some 28))
  have hs1 := hs.keep0 k1
  refine Sp.body f7 (by simp) ?_
  unfold c7
  refine C.seq fun K hK => ?_
  simp only [↓opStep_eq, ↓reduceIte, ↓EW, EV, Nat.reduceAdd, Nat.reduceEqDiff, Int.reduceEq, Int.reduceLT, Int.reduceLE, Int.reduceNe, seqC, retC, skipC, exitC, blockC, condC, r7_0, hcc]
  generalize h.new (.rw r.cells (some 28)) = h1 at *
  have ld : ∀ o s, loadOne h1 (.pointer (some ⟨h.next, o, s⟩)) = r.cells[o]? := fun o s => loadOne_has b1 rfl
  refine hK .norm _ _ (C.seq fun K hK => ?_)
  simp only [↓opStep_eq, ↓reduceIte, ↓EW, EV, Nat.reduceAdd, Nat.reduceEqDiff, Int.reduceEq, Int.reduceLT, Int.reduceLE, Int.reduceNe, seqC, retC, skipC, exitC, blockC, condC, r7_1, ld, rcell]
  refine hK .norm _ _ (C.seq (C.seq fun K hK => ?_))
  rw [box_f]
  refine reg7_2 (n := n + 3) hs1 hones b1 (by simp only [↓opStep_eq, ↓reduceIte, ↓EW, EV, Nat.reduceAdd, Nat.reduceEqDiff, Int.reduceEq, Int.reduceLT, Int.reduceLE, Int.reduceNe, seqC, retC, skipC, exitC, blockC, condC]) (by simp only [↓opStep_eq, ↓reduceIte, ↓EW, EV, Nat.reduceAdd, Nat.reduceEqDiff, Int.reduceEq, Int.reduceLT, Int.reduceLE, Int.reduceNe, seqC, retC, skipC, exitC, blockC, condC]) fun h2 k2 => ?_
  cases hA : fitsA r with
  | false =>
    refine hK .norm _ _ (C.cond true (by simp only [↓opStep_eq, ↓reduceIte, ↓EW, EV, Nat.reduceAdd, Nat.reduceEqDiff, Int.reduceEq, Int.reduceLT, Int.reduceLE, Int.reduceNe, seqC, retC, skipC, exitC, blockC, condC]) (fun _ => C.seq fun K hK => ?_) fun g => by cases g)
    simp only [↓opStep_eq, ↓reduceIte, ↓EW, EV, Nat.reduceAdd, Nat.reduceEqDiff, Int.reduceEq, Int.reduceLT, Int.reduceLE, Int.reduceNe, seqC, retC, skipC, exitC, blockC, condC, r7_3]
    refine hK .norm _ _ (C.ret ⟨.inr rfl, _, rfl, ?_, k1.then k2⟩)
    simp only [↓opStep_eq, ↓reduceIte, ↓EW, EV, Nat.reduceAdd, Nat.reduceEqDiff, Int.reduceEq, Int.reduceLT, Int.reduceLE, Int.reduceNe, seqC, retC, skipC, exitC, blockC, condC, resOf, hA, Bool.true_or, Bool.false_or, Bool.or_true, Bool.or_false, Bool.true_and, Bool.false_and, Bool.and_true, Bool.and_false]
  | true =>
    refine hK .norm _ _ (C.cond false (by simp only [↓opStep_eq, ↓reduceIte, ↓EW, EV, Nat.reduceAdd, Nat.reduceEqDiff, Int.reduceEq, Int.reduceLT, Int.reduceLE, Int.reduceNe, seqC, retC, skipC, exitC, blockC, condC]) (fun g => by cases g) fun _ => C.skip (C.seq fun K hK => ?_))
    rw [box_f]
    refine reg7_4 (n := n) hL hsec (b1.keep0 k2) (by simp only [↓opStep_eq, ↓reduceIte, ↓EW, EV, Nat.reduceAdd, Nat.reduceEqDiff, Int.reduceEq, Int.reduceLT, Int.reduceLE, Int.reduceNe, seqC, retC, skipC, exitC, blockC, condC]) (by simp only [↓opStep_eq, ↓reduceIte, ↓EW, EV, Nat.reduceAdd, Nat.reduceEqDiff, Int.reduceEq, Int.reduceLT, Int.reduceLE, Int.reduceNe, seqC, retC, skipC, exitC, blockC, condC]) fun h3 k3 => ?_
    refine hK .norm _ _ (C.ret ⟨.inr rfl, _, rfl, ?_, (k1.then k2).then k3⟩)
    simp only [↓opStep_eq, ↓reduceIte, ↓EW, EV, Nat.reduceAdd, Nat.reduceEqDiff, Int.reduceEq, Int.reduceLT, Int.reduceLE, Int.reduceNe, seqC, retC, skipC, exitC, blockC, condC, resOf, hA, Bool.true_or, Bool.false_or, Bool.or_true, Bool.or_false, Bool.true_and, Bool.false_and, Bool.and_true, Bool.and_false]

/-! ### rows of strings that grow -/
theorem ones_sv : ∀ l : List (List UInt8), ones (l.map sv) = true
  | [] => rfl
  | x :: l => ones_sv l
theorem Strs.src {h : H} {v : Value} {l : List (List UInt8)} (a : Strs h v l) : lenV v = some l.length ∧ firstV h 1 l.length v = some (l.map sv) := by
  rcases a with ⟨rfl, rfl⟩ | ⟨b, o, c, x, cs, rfl, h1, h2, h3, h4, _⟩
  · exact ⟨rfl, rfl⟩
  · refine ⟨rfl, ?_⟩
    simp only [firstV, Nat.mul_one]
    rw [row_has h1 h2 h3, h4]
def StrOp (h : H) (v : Value) (l : List (List UInt8)) : Prop := ∃ b c, v = .slice (some ⟨b, 0, none⟩) l.length c ∧ Nat.ble OPEN c = true ∧ Nat.beq (szOf c) 1 = true ∧ Has h b (.op (l.map sv) 1 (some 9))
theorem StrOp.strs {h : H} {v : Value} {l : List (List UInt8)} (a : StrOp h v l) : Strs h v l := by
  obtain ⟨b, c, rfl, c1, c2, hb⟩ := a
  exact .inr ⟨b, 0, c, _, _, rfl, hb, rfl, by simp, by rw [List.drop_zero, List.take_of_length_le (by simp)], .inr ⟨c1, c2⟩⟩
theorem StrOp.keep {S : Nat → Prop} {h h' : H} {v : Value} {l : List (List UInt8)} (a : StrOp h v l) (k : Keep S h h') (hn : ∀ b, blk v b → ¬ S b) : StrOp h' v l := by
  obtain ⟨b, c, rfl, c1, c2, hb⟩ := a
  exact ⟨b, c, rfl, c1, c2, hb.keep k (hn b (by simp))⟩
theorem appV_eq {h : H} {base : Option Addr} {sl sc : Nat} {x : Value} {m : List (List UInt8)} (hx : Strs h x m) : appendV 9 1 16 h (.slice base sl sc) x = appTo 9 1 16 h base sl sc m.length (m.map sv) := by
  obtain ⟨e1, e2⟩ := hx.src
  unfold appendV
  simp only [e1, e2, List.length_map, Nat.mul_one, Nat.beq_refl]
theorem appTo_pos {h : H} {a : Addr} {sl sc n : Nat} {new : List Value} (h1 : 0 < n) (h2 : sl + n ≤ 1000000) : appTo 9 1 16 h (some a) sl sc n new = (match Nat.ble OPEN sc with | true => appOpen 9 1 h a sl sc n new | false => appExact 9 1 h a sl sc n new) := by
  obtain ⟨m, rfl⟩ : ∃ m, n = m + 1 := ⟨n - 1, by omega⟩
  unfold appTo
  rw [Nat.ble_eq_true_of_le (show (sl + (m + 1)) * 16 ≤ 140737488355328 by omega), Nat.ble_eq_true_of_le (show sl + (m + 1) ≤ 9223372036854775807 by omega)]
  rfl
theorem app_lit1 {h : H} {b : Nat} {x : Value} {l m : List (List UInt8)} {ty : Option TypeId} (hb : Has h b (.rw (l.map sv) ty)) (hx : Strs h x m) (h1 : 0 < m.length) (h2 : l.length + m.length ≤ 1000000) :
    ∃ v' h', appendV 9 1 16 h (.slice (some ⟨b, 0, none⟩) l.length l.length) x = some (v', h') ∧ StrOp h' v' (l ++ m) ∧ Keep nobody h h' ∧ ∀ b', blk v' b' → h.next ≤ b' := by
  have hO : Nat.ble OPEN l.length = false := by
    rw [Bool.eq_false_iff]; intro e; have := Nat.le_of_ble_eq_true e; unfold OPEN at this; omega
  have e2 : Nat.ble (l.length + m.length) l.length = false := by
    rw [Bool.eq_false_iff]; intro e; have := Nat.le_of_ble_eq_true e; omega
  have e3 : h.row b 0 (l.length * 1) = some (l.map sv) := by
    rw [row_has hb rfl (by simp), List.drop_zero, List.take_of_length_le (by simp)]
  have e : appendV 9 1 16 h (.slice (some ⟨b, 0, none⟩) l.length l.length) x = grow h (l.map sv) (m.map sv) (l.length + m.length) 1 (some 9) := by
    rw [appV_eq hx, appTo_pos h1 h2, hO]
    unfold appExact
    simp only [e2, e3]
  have g : grow h (l.map sv) (m.map sv) (l.length + m.length) 1 (some 9) = some (.slice (some ⟨h.next, 0, none⟩) (l ++ m).length (opCap (l.length + m.length) 1), h.new (.op ((l ++ m).map sv) 1 (some 9))) := by
    rw [List.map_append, List.length_append]; rfl
  rw [g] at e
  have o1 := opCap_open (l.length + m.length)
  have o2 := opCap_size (l.length + m.length)
  generalize opCap (l.length + m.length) 1 = c at e o1 o2
  exact ⟨_, _, e, ⟨_, c, rfl, o1, o2, .new _ _⟩, .new _ _, fun b' hb' => by simp only [blk_some] at hb'; omega⟩
theorem app_op {h : H} {v x : Value} {l m : List (List UInt8)} (a : StrOp h v l) (hx : Strs h x m) (h1 : 0 < m.length) (h2 : l.length + m.length ≤ 1000000) :
    ∃ v' h', appendV 9 1 16 h v x = some (v', h') ∧ StrOp h' v' (l ++ m) ∧ Keep (blk v) h h' := by
  obtain ⟨b, c, rfl, c1, c2, hb⟩ := a
  obtain ⟨y, ys, rfl⟩ : ∃ y ys, m = y :: ys := List.exists_cons_of_length_pos h1
  have e3 : putAt (l.map sv) (0 + l.length * 1) ((y :: ys).map sv) = none := by
    have := putAt_end (l.map sv) (sv y) (ys.map sv)
    rw [List.length_map] at this
    rw [Nat.zero_add, Nat.mul_one]; exact this
  have e4 : cut (l.map sv) 0 = some (l.map sv) := by simpa using cut_eq (l.map sv) 0 (by simp)
  have e5 : Nat.beq (0 + l.length * 1) (l.map sv).length = true := by rw [List.length_map, Nat.zero_add, Nat.mul_one]; exact Nat.beq_refl _
  have e : appendV 9 1 16 h (.slice (some ⟨b, 0, none⟩) l.length c) x = grow (h.del b) (l.map sv) ((y :: ys).map sv) (l.length + (y :: ys).length) 1 (some 9) := by
    rw [appV_eq hx, appTo_pos h1 h2, c1]
    unfold appOpen
    simp only [c2, ones_sv, Bool.and_self, hb.2]
    simp only [e3, e5, e4]
    rfl
  have g : grow (h.del b) (l.map sv) ((y :: ys).map sv) (l.length + (y :: ys).length) 1 (some 9) = some (.slice (some ⟨h.next, 0, none⟩) (l ++ (y :: ys)).length (opCap (l.length + (y :: ys).length) 1), (h.del b).new (.op ((l ++ (y :: ys)).map sv) 1 (some 9))) := by
    rw [List.map_append, List.length_append]; rfl
  rw [g] at e
  have o1 := opCap_open (l.length + (y :: ys).length)
  have o2 := opCap_size (l.length + (y :: ys).length)
  generalize opCap (l.length + (y :: ys).length) 1 = c' at e o1 o2
  refine ⟨_, _, e, ⟨_, c', rfl, o1, o2, Has.new (h.del b) _⟩, ?_⟩
  exact ((Keep.del h b).mono fun k _ e => by simp [e]).then (.new _ _)
theorem strs_lit {h : H} {b : Nat} {l : List (List UInt8)} {ty : Option TypeId} (hb : Has h b (.rw (l.map sv) ty)) (h2 : l.length ≤ 1000000) : Strs h (.slice (some ⟨b, 0, none⟩) l.length l.length) l :=
  .inr ⟨b, 0, l.length, _, _, rfl, hb, rfl, by simp, by rw [List.drop_zero, List.take_of_length_le (by simp)], .inl ⟨by rw [Bool.eq_false_iff]; intro e; have := Nat.le_of_ble_eq_true e; unfold OPEN at this; omega, Nat.le_refl _⟩⟩

/-! ### a command's words -/
def nameN : List (List UInt8) := [[], [103, 101, 116], [115, 101, 116], [97, 100, 100], [114, 101, 112, 108, 97, 99, 101], [99, 97, 115], [105, 110, 99, 114], [100, 101, 99, 114], [97, 112, 112, 101, 110, 100], [116, 111, 117, 99, 104], [100, 101, 108, 101, 116, 101], [102, 108, 117, 115, 104]]
def numsL (c : Cmd) (k : Nat) : List (List UInt8) :=
  if hg k = true then dec c.flags.toNat :: dec c.fo.toNat :: dec c.val.size :: (if k = 5 then [dec c.uniq.toNat] else [])
  else if k = 8 then [dec c.val.size]
  else if hb k = true then [dec c.by'.toNat]
  else if k = 9 then [dec c.fo.toNat]
  else []
def wordsL (c : Cmd) (k : Nat) : List (List UInt8) := nameN.getD k [] :: (c.keys ++ numsL c k)
structure May (c : Cmd) (k : Nat) : Prop where
  kind : 1 ≤ k ∧ k ≤ 11
  fo : 0 ≤ c.fo ∧ c.fo ≤ 1099511627776
  val : c.val.size ≤ 512
  nov : hv k = false → c.val.size = 0
  keys : loK k ≤ c.keys.length ∧ c.keys.length ≤ hiK k
  len : ∀ p ∈ c.keys, p.length ≤ 32
theorem may_of {c : Cmd} {k : Nat} (h : mayB c k = true) : May c k := by
  unfold mayB mayA keysB at h
  simp only [Bool.and_eq_true, decide_eq_true_eq, Bool.or_eq_true] at h
  obtain ⟨⟨h1, h2, ⟨h3, h4⟩, h5, h6⟩, ⟨h7, h8⟩, ⟨⟨h9, h10⟩, _⟩, _⟩ := h
  refine ⟨h1, ⟨h9, h10⟩, by omega, fun e => ?_, ⟨h3, h4⟩, fun p hp => ?_⟩
  · rcases h8 with h8 | h8
    · rw [e] at h8; cases h8
    · omega
  · have := List.all_eq_true.1 h5 p hp
    unfold lenB at this
    simp only [Bool.and_eq_true, decide_eq_true_eq] at this
    exact this.2
end Go.Proofs.YtilpiiafjehbnaaDoor
