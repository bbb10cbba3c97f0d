import Derived.Test.YtbdmhdidehfmoaaDoorTbI
set_option linter.unusedSimpArgs false
set_option linter.unusedVariables false
namespace Go.Proofs.YtbdmhdidehfmoaaDoor
open Go.Ev

theorem ptr_nil (a : Addr) : binV Tryd.prog .eql 24 true (.pointer (some a)) (.pointer none) = some (.bool false) := by kernel_rfl
theorem ent_nnil (a : Addr) : binV Tryd.prog .neq 66 true (.pointer (some a)) (.pointer none) = some (.bool true) := by kernel_rfl
theorem ent_nil : binV Tryd.prog .neq 66 true (.pointer none) (.pointer none) = some (.bool false) := by kernel_rfl

def validN (t : Int) (k : ByteArray) : Prop := 0 ≤ t ∧ t < 4 ∧ k.size ≠ 0 ∧ k.size ≤ 32
instance decValid (t : Int) (k : ByteArray) : Decidable (validN t k) := by unfold validN; infer_instance

theorem r21_1_eq {call : CallT} {L : Nat} {tm : T Value} {h : H} {K : KE} {b : Nat} {v1 v2 : Value} {n1 n2 a mv : Int} (hb : Has h b (.rw (tcells v1 n1 v2 n2 a mv))) (t0 : tg tm 0 = .pointer (some ⟨b, 0, none⟩)) :
    r21_1 call L tm [] h K = K .norm (T.set tm 5 (.bool false)) [] h := by
  simp only [↓opStep_eq, ↓reduceIte, ↓EW, EV, Nat.reduceAdd, Nat.reduceEqDiff, Int.reduceEq, Int.reduceLT, Int.reduceLE, Int.reduceNe, seqC, retC, skipC, exitC, blockC, condC, Bool.true_or, Bool.false_or, Bool.or_true, Bool.or_false, Bool.true_and, Bool.false_and, Bool.and_true, Bool.and_false, r21_1, t0, nilChk_some, tld hb, ptr_nil]

theorem r21_3_eq {call : CallT} {L : Nat} {tm : T Value} {h : H} {K : KE} {nb : Nat} {t : Int} {k : ByteArray} (hb : Has h nb (.rw [.int .i64 t, .string k])) (t3 : tg tm 3 = .pointer (some ⟨nb, 0, none⟩)) :
    r21_3 call L tm [] h K = K .norm (T.set tm 15 (.bool (!decide (validN t k)))) [] h := by
  have ld : ∀ o s, loadOne h (.pointer (some ⟨nb, o, s⟩)) = [.int .i64 t, .string k][o]? := fun o s => loadOne_has hb rfl
  have e0 : ∀ t c, binV Tryd.prog .eql t c (.string k) (.string (strB [])) = some (.bool (decide ((k.size : Int) = 0))) := fun t c => str_empty t c k
  by_cases h1 : t < 0
  · have : ¬ validN t k := fun h => by have := h.1; omega
    simp only [↓opStep_eq, ↓reduceIte, ↓EW, EV, Nat.reduceAdd, Nat.reduceEqDiff, Int.reduceEq, Int.reduceLT, Int.reduceLE, Int.reduceNe, seqC, retC, skipC, exitC, blockC, condC, Bool.true_or, Bool.false_or, Bool.or_true, Bool.or_false, Bool.true_and, Bool.false_and, Bool.and_true, Bool.and_false, r21_3, t3, ld, h1, this]
  · by_cases h2 : 4 ≤ t
    · have : ¬ validN t k := fun h => by have := h.2.1; omega
      simp only [↓opStep_eq, ↓reduceIte, ↓EW, EV, Nat.reduceAdd, Nat.reduceEqDiff, Int.reduceEq, Int.reduceLT, Int.reduceLE, Int.reduceNe, seqC, retC, skipC, exitC, blockC, condC, Bool.true_or, Bool.false_or, Bool.or_true, Bool.or_false, Bool.true_and, Bool.false_and, Bool.and_true, Bool.and_false, r21_3, t3, ld, h1, h2, this]
    · by_cases h3 : (k.size : Int) = 0
      · have : ¬ validN t k := fun h => by have := h.2.2.1; omega
        simp only [↓opStep_eq, ↓reduceIte, ↓EW, EV, Nat.reduceAdd, Nat.reduceEqDiff, Int.reduceEq, Int.reduceLT, Int.reduceLE, Int.reduceNe, seqC, retC, skipC, exitC, blockC, condC, Bool.true_or, Bool.false_or, Bool.or_true, Bool.or_false, Bool.true_and, Bool.false_and, Bool.and_true, Bool.and_false, r21_3, t3, ld, h1, h2, e0, h3, this]
      · by_cases h4 : (32 : Int) < (k.size : Int)
        · have : ¬ validN t k := fun h => by have := h.2.2.2; omega
          simp only [↓opStep_eq, ↓reduceIte, ↓EW, EV, Nat.reduceAdd, Nat.reduceEqDiff, Int.reduceEq, Int.reduceLT, Int.reduceLE, Int.reduceNe, seqC, retC, skipC, exitC, blockC, condC, Bool.true_or, Bool.false_or, Bool.or_true, Bool.or_false, Bool.true_and, Bool.false_and, Bool.and_true, Bool.and_false, r21_3, t3, ld, h1, h2, e0, h3, lenStr_string, h4, this]
        · have : validN t k := ⟨by omega, by omega, by omega, by omega⟩
          simp only [↓opStep_eq, ↓reduceIte, ↓EW, EV, Nat.reduceAdd, Nat.reduceEqDiff, Int.reduceEq, Int.reduceLT, Int.reduceLE, Int.reduceNe, seqC, retC, skipC, exitC, blockC, condC, Bool.true_or, Bool.false_or, Bool.or_true, Bool.or_false, Bool.true_and, Bool.false_and, Bool.and_true, Bool.and_false, r21_3, t3, ld, h1, h2, e0, h3, lenStr_string, h4, this]

theorem asked_law (L n : Nat) {h : H} {b : Nat} {v1 v2 : Value} {n1 n2 a mv : Int} (hb : Has h b (.rw (tcells v1 n1 v2 n2 a mv))) (t : Int) (k : ByteArray) :
    Sp (CF L (n + 1)) 21 [.pointer (some ⟨b, 0, none⟩), nameV t k] h fun r h' => r = .int .i64 (if validN t k then 0 else 8) ∧ Keep nobody h h' := by
  refine Sp.body f21 (by simp) ?_
  unfold c21
  have k1 := Keep.new h (.rw [.int .i64 t, .string k])
  have b1 := Has.new h (.rw [.int .i64 t, .string k])
  have hb1 := hb.keep0 k1
  refine C.seq fun K hK => ?_
  simp only [↓opStep_eq, ↓reduceIte, ↓EW, EV, Nat.reduceAdd, Nat.reduceEqDiff, Int.reduceEq, Int.reduceLT, Int.reduceLE, Int.reduceNe, seqC, retC, skipC, exitC, blockC, condC, r21_0, cells_agg]
  generalize h.new (.rw [.int .i64 t, .string k]) = h1 at *
  refine hK _ _ _ (C.seq (C.block (C.seq fun K hK => ?_)))
  rw [show ∀ x : CodeT, (⟨x⟩ : Box CodeT).f = x from fun _ => rfl]
  rw [r21_1_eq hb1 (by simp only [↓opStep_eq, ↓reduceIte, ↓EW, EV, Nat.reduceAdd, Nat.reduceEqDiff, Int.reduceEq, Int.reduceLT, Int.reduceLE, Int.reduceNe, seqC, retC, skipC, exitC, blockC, condC])]
  refine hK _ _ _ (C.cond false (by simp only [↓opStep_eq, ↓reduceIte, ↓EW, EV, Nat.reduceAdd, Nat.reduceEqDiff, Int.reduceEq, Int.reduceLT, Int.reduceLE, Int.reduceNe, seqC, retC, skipC, exitC, blockC, condC]) (fun g => by cases g) fun g => C.seq fun K hK => ?_)
  rw [show ∀ x : CodeT, (⟨x⟩ : Box CodeT).f = x from fun _ => rfl]
  rw [r21_3_eq b1 (by simp only [↓opStep_eq, ↓reduceIte, ↓EW, EV, Nat.reduceAdd, Nat.reduceEqDiff, Int.reduceEq, Int.reduceLT, Int.reduceLE, Int.reduceNe, seqC, retC, skipC, exitC, blockC, condC])]
  refine hK _ _ _ (C.cond (!decide (validN t k)) (by simp only [↓opStep_eq, ↓reduceIte, ↓EW, EV, Nat.reduceAdd, Nat.reduceEqDiff, Int.reduceEq, Int.reduceLT, Int.reduceLE, Int.reduceNe, seqC, retC, skipC, exitC, blockC, condC]) (fun g => C.seq fun K hK => hK .norm _ _ (C.ret ⟨.inr rfl, _, rfl, ?_, k1⟩)) fun g => C.skip (C.seq fun K hK => hK .norm _ _ (C.ret ⟨.inr rfl, _, rfl, ?_, k1⟩)))
  · have g : ¬ validN t k := by rw [Bool.not_eq_true'] at g; exact of_decide_eq_false g
    simp only [↓opStep_eq, ↓reduceIte, ↓EW, EV, Nat.reduceAdd, Nat.reduceEqDiff, Int.reduceEq, Int.reduceLT, Int.reduceLE, Int.reduceNe, seqC, retC, skipC, exitC, blockC, condC, resOf]; rw [if_neg g]
  · have g : validN t k := by rw [Bool.not_eq_false'] at g; exact of_decide_eq_true g
    simp only [↓opStep_eq, ↓reduceIte, ↓EW, EV, Nat.reduceAdd, Nat.reduceEqDiff, Int.reduceEq, Int.reduceLT, Int.reduceLE, Int.reduceNe, seqC, retC, skipC, exitC, blockC, condC, resOf]; rw [if_pos g]

def kS : ByteArray := ⟨#[107]⟩
/-- the package's variable -/
def Gl (h : H) : Prop := Has h 0 (.ro [.int .i64 0, .string kS])
theorem kS_valid : validN 0 kS := by decide
theorem gl_name {h : H} (g : Gl h) (s) : loadAgg 2 h (.pointer (some ⟨0, 0, s⟩)) = some (nameV 0 kS) := loadAgg_has g rfl (by simp)

theorem moved_law (L n N : Nat) {O : Nat → Tag} {h : H} {b : Nat} {l : List Ent} {mv : Nat} (st : St N O h b l mv) (gl : Gl h) :
    Sp (CF L (n + 2)) 12 [.pointer (some ⟨b, 0, none⟩)] h fun r h' => r = .tuple [.int .i64 (mv : Int), .int .i64 0].toArray ∧ Keep nobody h h' := by
  obtain ⟨now, old, a, v1, v2, tab, g, pm⟩ := st
  refine Sp.body f12 (by simp) ?_
  unfold c12
  refine C.seq fun K hK => hK .norm _ _ (C.seq (C.seq fun K hK => ?_))
  simp only [↓opStep_eq, ↓reduceIte, ↓EW, EV, Nat.reduceAdd, Nat.reduceEqDiff, Int.reduceEq, Int.reduceLT, Int.reduceLE, Int.reduceNe, seqC, retC, skipC, exitC, blockC, condC, r12_1, gl_name gl]
  refine asked_law L n tab.hb 0 kS _ fun r h1 hv => ?_
  obtain ⟨rfl, k1⟩ := hv
  rw [if_pos kS_valid]
  refine hK _ _ _ (C.seq fun K hK => ?_)
  simp only [↓opStep_eq, ↓reduceIte, ↓EW, EV, Nat.reduceAdd, Nat.reduceEqDiff, Int.reduceEq, Int.reduceLT, Int.reduceLE, Int.reduceNe, seqC, retC, skipC, exitC, blockC, condC, Bool.true_or, Bool.false_or, Bool.or_true, Bool.or_false, Bool.true_and, Bool.false_and, Bool.and_true, Bool.and_false, r12_2]
  refine hK _ _ _ (C.cond false (by simp only [↓opStep_eq, ↓reduceIte, ↓EW, EV, Nat.reduceAdd, Nat.reduceEqDiff, Int.reduceEq, Int.reduceLT, Int.reduceLE, Int.reduceNe, seqC, retC, skipC, exitC, blockC, condC]) (fun g => by cases g) fun g => C.skip (C.seq fun K hK => ?_))
  simp only [↓opStep_eq, ↓reduceIte, ↓EW, EV, Nat.reduceAdd, Nat.reduceEqDiff, Int.reduceEq, Int.reduceLT, Int.reduceLE, Int.reduceNe, seqC, retC, skipC, exitC, blockC, condC, r12_4, nilChk_some, tld (tab.hb.keep0 k1)]
  exact hK _ _ _ (C.ret ⟨.inr rfl, _, rfl, by simp only [↓opStep_eq, ↓reduceIte, ↓EW, EV, Nat.reduceAdd, Nat.reduceEqDiff, Int.reduceEq, Int.reduceLT, Int.reduceLE, Int.reduceNe, seqC, retC, skipC, exitC, blockC, condC, resOf], k1⟩)

theorem len_law (L n N : Nat) (hN : N ≤ 100000) {O : Nat → Tag} {h : H} {b : Nat} {l : List Ent} {mv : Nat} (st : St N O h b l mv) (gl : Gl h) :
    Sp (CF L (n + 2)) 14 [.pointer (some ⟨b, 0, none⟩)] h fun r h' => r = .tuple [.int .i64 (l.length : Int), .int .i64 0].toArray ∧ Keep nobody h h' := by
  obtain ⟨now, old, a, v1, v2, tab, gg, pm⟩ := st
  refine Sp.body f14 (by simp) ?_
  unfold c14
  refine C.seq fun K hK => hK .norm _ _ (C.seq (C.seq fun K hK => ?_))
  simp only [↓opStep_eq, ↓reduceIte, ↓EW, EV, Nat.reduceAdd, Nat.reduceEqDiff, Int.reduceEq, Int.reduceLT, Int.reduceLE, Int.reduceNe, seqC, retC, skipC, exitC, blockC, condC, r14_1, gl_name gl]
  refine asked_law L n tab.hb 0 kS _ fun r h1 hv => ?_
  obtain ⟨rfl, k1⟩ := hv
  rw [if_pos kS_valid]
  refine hK _ _ _ (C.seq fun K hK => ?_)
  simp only [↓opStep_eq, ↓reduceIte, ↓EW, EV, Nat.reduceAdd, Nat.reduceEqDiff, Int.reduceEq, Int.reduceLT, Int.reduceLE, Int.reduceNe, seqC, retC, skipC, exitC, blockC, condC, Bool.true_or, Bool.false_or, Bool.or_true, Bool.or_false, Bool.true_and, Bool.false_and, Bool.and_true, Bool.and_false, r14_2]
  refine hK _ _ _ (C.cond false (by simp only [↓opStep_eq, ↓reduceIte, ↓EW, EV, Nat.reduceAdd, Nat.reduceEqDiff, Int.reduceEq, Int.reduceLT, Int.reduceLE, Int.reduceNe, seqC, retC, skipC, exitC, blockC, condC]) (fun g => by cases g) fun g => C.skip (C.seq fun K hK => ?_))
  have kr := k1.then (keep_room h1 13)
  have hl := pm.length_eq
  have hc := gg.cnt
  rw [List.length_append] at hl
  have hw : IntKind.i64.wrap ((now.flatten.length : Int) + (old.flatten.length : Int)) = (l.length : Int) := by
    rw [show (now.flatten.length : Int) + (old.flatten.length : Int) = (l.length : Int) by omega, wrap_i64 _ (by omega)]
  simp only [↓opStep_eq, ↓reduceIte, ↓EW, EV, Nat.reduceAdd, Nat.reduceEqDiff, Int.reduceEq, Int.reduceLT, Int.reduceLE, Int.reduceNe, seqC, retC, skipC, exitC, blockC, condC, r14_4, nilChk_some, tld (tab.hb.keep0 kr), hw]
  exact hK _ _ _ (C.ret ⟨.inr rfl, _, rfl, by simp only [↓opStep_eq, ↓reduceIte, ↓EW, EV, Nat.reduceAdd, Nat.reduceEqDiff, Int.reduceEq, Int.reduceLT, Int.reduceLE, Int.reduceNe, seqC, retC, skipC, exitC, blockC, condC, resOf], kr⟩)

theorem new_law (L n N : Nat) (h : H) : Sp (CF L (n + 1)) 8 [] h fun r h' => ∃ O b, r = .pointer (some ⟨b, 0, none⟩) ∧ St N O h' b [] 0 ∧ Keep nobody h h' ∧ ∀ c, c < h.next → O c = .other := by
  refine Sp.body f8 (by simp) ?_
  unfold c8
  refine C.seq fun K hK => hK .norm _ _ (C.seq fun K hK => ?_)
  have mk : mkSlice [(.slice none 0 0)] 24 h.next (.int .i64 (4)) (.int .i64 (4)) = some (.rw (repl [.slice none 0 0] 4), .slice (some ⟨h.next, 0, none⟩) 4 4) := rfl
  have a1 : aggO (fill [(.slice none 0 0), (.int .i64 (0))] (plc [(0, 1), (1, 1)]) [(0, .slice (some ⟨h.next, 0, none⟩) 4 4)]) = some (.agg [.slice (some ⟨h.next, 0, none⟩) 4 4, .int .i64 0].toArray) := rfl
  have a2 : aggO (fill [(.slice none 0 0), (.int .i64 (0)), (.slice none 0 0), (.int .i64 (0)), (.int .i64 (0)), (.int .i64 (0)), (.bool false)] (plc [(0, 2), (2, 2), (4, 1), (5, 1), (6, 1)]) [(0, .agg [.slice (some ⟨h.next, 0, none⟩) 4 4, .int .i64 0].toArray), (4, (.bool true))]) = some (.agg (tcells (.slice (some ⟨h.next, 0, none⟩) 4 4) 0 (.slice none 0 0) 0 0 0).toArray) := rfl
  have hc : (Value.cells (.agg (tcells (.slice (some ⟨h.next, 0, none⟩) 4 4) 0 (.slice none 0 0) 0 0 0).toArray)).toList = tcells (.slice (some ⟨h.next, 0, none⟩) 4 4) 0 (.slice none 0 0) 0 0 0 := by simp
  simp only [↓opStep_eq, ↓reduceIte, ↓EW, EV, Nat.reduceAdd, Nat.reduceEqDiff, Int.reduceEq, Int.reduceLT, Int.reduceLE, Int.reduceNe, seqC, retC, skipC, exitC, blockC, condC, r8_1, mk, a1, a2, hc]
  have b1 := Has.new h (.rw (repl [.slice none 0 0] 4))
  have k1 := Keep.new h (.rw (repl [.slice none 0 0] 4))
  have n1 : (h.new (.rw (repl [.slice none 0 0] 4))).next = h.next + 1 := rfl
  generalize h.new (.rw (repl [.slice none 0 0] 4)) = h1 at *
  have k2 := Keep.new h1 (.rw (tcells (.slice (some ⟨h.next, 0, none⟩) 4 4) 0 (.slice none 0 0) 0 0 0))
  have b2 := Has.new h1 (.rw (tcells (.slice (some ⟨h.next, 0, none⟩) 4 4) 0 (.slice none 0 0) 0 0 0))
  have n2 : (h1.new (.rw (tcells (.slice (some ⟨h.next, 0, none⟩) 4 4) 0 (.slice none 0 0) 0 0 0))).next = h1.next + 1 := rfl
  generalize h1.new (.rw (tcells (.slice (some ⟨h.next, 0, none⟩) 4 4) 0 (.slice none 0 0) 0 0 0)) = h2 at *
  have o1 : upd (upd (fun _ => Tag.other) h.next (.base false)) h1.next .tab h.next = .base false := by rw [upd_ne _ _ _ (by omega)]; exact upd_same _ _ _
  refine hK _ _ _ (C.ret ⟨.inr rfl, _, rfl, upd (upd (fun _ => Tag.other) h.next (.base false)) h1.next .tab, h1.next, by simp only [↓opStep_eq, ↓reduceIte, ↓EW, EV, Nat.reduceAdd, Nat.reduceEqDiff, Int.reduceEq, Int.reduceLT, Int.reduceLE, Int.reduceNe, seqC, retC, skipC, exitC, blockC, condC, resOf], ⟨List.replicate 4 [], [], 0, _, _, ⟨b2, upd_same _ _ _, .inr ⟨h.next, _, rfl, new_rows (b1.keep0 k2) o1, by simp, by simp⟩, .inl ⟨rfl, rfl⟩, fun c hc => ?_⟩, ?_, by simp⟩, k1.then k2, fun c hc => ?_⟩)
  · rw [upd_ne _ _ _ (by omega), upd_ne _ _ _ (by omega)]
  · refine ⟨fun i es he e hee => ?_, fun i es he => by simp at he, fun i es hi => by omega, by simp, by simp, by simp, by simp, by simp⟩
    have := List.eq_of_mem_replicate (List.mem_of_getElem? he)
    subst this; simp at hee
  · rw [upd_ne _ _ _ (by omega), upd_ne _ _ _ (by omega)]
end Go.Proofs.YtbdmhdidehfmoaaDoor

namespace Go.Proofs.YtbdmhdidehfmoaaDoor
open Go.Ev

theorem St.keep0 {N : Nat} {O : Nat → Tag} {h h' : H} {b : Nat} {l : List Ent} {mv : Nat} (st : St N O h b l mv) (k : Keep nobody h h') : St N O h' b l mv := by
  obtain ⟨now, old, a, v1, v2, tab, g, pm⟩ := st
  exact ⟨now, old, a, v1, v2, tab.keep0 k, g, pm⟩
theorem St.far {N : Nat} {O : Nat → Tag} {h : H} {b : Nat} {l : List Ent} {mv : Nat} (st : St N O h b l mv) {c : Nat} (hc : h.next ≤ c) : O c = .other := by
  obtain ⟨now, old, a, v1, v2, tab, g, pm⟩ := st
  exact tab.far c hc
theorem St.cnt {N : Nat} {O : Nat → Tag} {h : H} {b : Nat} {l : List Ent} {mv : Nat} (st : St N O h b l mv) : l.length ≤ N := by
  obtain ⟨now, old, a, v1, v2, tab, g, pm⟩ := st
  rw [← pm.length_eq, List.length_append]; exact g.cnt
theorem St.uniq {N : Nat} {O : Nat → Tag} {h : H} {b : Nat} {l : List Ent} {mv : Nat} (st : St N O h b l mv) : (l.map Ent.key).Nodup := by
  obtain ⟨now, old, a, v1, v2, tab, g, pm⟩ := st
  exact (pm.map _).nodup_iff.1 g.uniq
theorem St.has {N : Nat} {O : Nat → Tag} {h : H} {b : Nat} {l : List Ent} {mv : Nat} (st : St N O h b l mv) : ∃ v1 v2 n1 n2 a m, Has h b (.rw (tcells v1 n1 v2 n2 a m)) ∧ O b = .tab := by
  obtain ⟨now, old, a, v1, v2, tab, g, pm⟩ := st
  exact ⟨_, _, _, _, _, _, tab.hb, tab.ob⟩

abbrev Is (t : Int) (k : ByteArray) (e : Ent) : Prop := e.t = t ∧ e.k = k
theorem no_flat {rs : List (List Ent)} {t : Int} {k : ByteArray} (hn : ∀ (i : Nat) es, rs[i]? = some es → ∀ e ∈ es, idx e.t e.k rs.length = i ∧ e.k.size ≤ 32) (h : ∀ es, rs[idx t k rs.length]? = some es → ∀ e ∈ es, ¬ (e.t = t ∧ e.k = k)) : ∀ e ∈ rs.flatten, ¬ Is t k e := fun e he hm => by
  obtain ⟨es, h1, h2⟩ := List.mem_flatten.1 he
  obtain ⟨i, hi⟩ := List.getElem?_of_mem h1
  obtain ⟨e1, _⟩ := hn i es hi e h2
  rw [hm.1, hm.2] at e1
  rw [← e1] at hi
  exact h es hi e h2 hm

/-- a found entry's number -/
theorem found_x {O : Nat → Tag} {h h' : H} {s : Bool} {v : Value} {rs : List (List Ent)} {t : Int} {k : ByteArray} {r : Value} (q : FindQ O h s v rs t k r) (kk : Keep nobody h h') (hn : r ≠ .pointer none) : ∃ e bb o, e ∈ rs.flatten ∧ Is t k e ∧ r = .pointer (some ⟨bb, o, none⟩) ∧ ∀ s, loadOne h' (.pointer (some ⟨bb, o + 2, s⟩)) = some (.int .i64 e.x) := by
  rcases q with ⟨hr, _⟩ | ⟨B, vs, vi, es, j, e, _, rp, h1, h2, h3, h4, h5, h6⟩
  · exact absurd hr hn
  · obtain ⟨bb, cs, ix, _, hb, hl, hc, _⟩ := ((rp.own _ _ _ h1 h2).keep kk (O' := O) fun _ _ h => ⟨id, h⟩).at h3
    rw [ix] at h6
    cases h6
    exact ⟨e, bb, 3 * j, flat_mem h2 (List.mem_of_getElem? h3), ⟨h4, h5⟩, rfl, fun s => Ent.at_x hb hl hc s⟩

def GetQ (l : List Ent) (t : Int) (k : ByteArray) (r : Value) : Prop := (∃ e ∈ l, Is t k e ∧ r = .tuple [.int .i64 e.x, .bool true, .int .i64 0].toArray) ∨ ((∀ e ∈ l, ¬ Is t k e) ∧ r = .tuple [.int .i64 0, .bool false, .int .i64 0].toArray)

theorem lit2p (b : Nat) (p q : Addr) : mkLit 2 b (fill (repl [(.pointer none)] 2) (pl 1) [(0, .pointer (some p)), (1, .pointer (some q))]) = some (.rw [.pointer (some p), .pointer (some q)], .slice (some ⟨b, 0, none⟩) 2 2) := rfl

theorem get_law (L n N : Nat) (hN : N ≤ 100000) (hL : 300000 < L) {O : Nat → Tag} {h : H} {b : Nat} {l : List Ent} {m0 : Nat} (st : St N O h b l m0) {t : Int} {k : ByteArray} (hv : validN t k) :
    Sp (CF L (n + 5)) 13 [.pointer (some ⟨b, 0, none⟩), nameV t k] h fun r h' => ∃ O' mv, St N O' h' b l mv ∧ mv ≤ 4 ∧ Fr O h O' h' ∧ GetQ l t k r := by
  refine Sp.body f13 (by simp) ?_
  unfold c13
  have k1 := Keep.new h (.rw [.int .i64 t, .string k])
  have b1 := Has.new h (.rw [.int .i64 t, .string k])
  have o1 := st.far (Nat.le_refl h.next)
  have st1 := st.keep0 k1
  refine C.seq fun K hK => ?_
  simp only [↓opStep_eq, ↓reduceIte, ↓EW, EV, Nat.reduceAdd, Nat.reduceEqDiff, Int.reduceEq, Int.reduceLT, Int.reduceLE, Int.reduceNe, seqC, retC, skipC, exitC, blockC, condC, r13_0, cells_agg]
  generalize h.new (.rw [.int .i64 t, .string k]) = h1 at *
  have lda : ∀ hx, Has hx h.next (.rw [.int .i64 t, .string k]) → ∀ s, loadAgg 2 hx (.pointer (some ⟨h.next, 0, s⟩)) = some (nameV t k) := fun hx b s => loadAgg_has b rfl (by simp)
  refine hK _ _ _ (C.seq (C.seq fun K hK => ?_))
  obtain ⟨_, _, _, _, _, _, hb, ob⟩ := st1.has
  simp only [↓opStep_eq, ↓reduceIte, ↓EW, EV, Nat.reduceAdd, Nat.reduceEqDiff, Int.reduceEq, Int.reduceLT, Int.reduceLE, Int.reduceNe, seqC, retC, skipC, exitC, blockC, condC, r13_1, lda _ b1]
  refine asked_law L (n + 3) hb t k _ fun r h2 hq => ?_
  obtain ⟨rfl, k2⟩ := hq
  rw [if_pos hv]
  have b2 := b1.keep0 k2
  have st2 := st1.keep0 k2
  refine hK _ _ _ (C.seq fun K hK => ?_)
  simp only [↓opStep_eq, ↓reduceIte, ↓EW, EV, Nat.reduceAdd, Nat.reduceEqDiff, Int.reduceEq, Int.reduceLT, Int.reduceLE, Int.reduceNe, seqC, retC, skipC, exitC, blockC, condC, Bool.true_or, Bool.false_or, Bool.or_true, Bool.or_false, Bool.true_and, Bool.false_and, Bool.and_true, Bool.and_false, r13_2]
  refine hK _ _ _ (C.cond false (by simp only [↓opStep_eq, ↓reduceIte, ↓EW, EV, Nat.reduceAdd, Nat.reduceEqDiff, Int.reduceEq, Int.reduceLT, Int.reduceLE, Int.reduceNe, seqC, retC, skipC, exitC, blockC, condC]) (fun g => by cases g) fun g => C.skip (C.seq fun K hK => ?_))
  simp only [↓opStep_eq, ↓reduceIte, ↓EW, EV, Nat.reduceAdd, Nat.reduceEqDiff, Int.reduceEq, Int.reduceLT, Int.reduceLE, Int.reduceNe, seqC, retC, skipC, exitC, blockC, condC, r13_4]
  refine step_law L n N hN hL st2 _ fun r h3 hq => ?_
  obtain ⟨O3, mv, st3, hmv, fr3⟩ := hq
  have fr := (Fr.of0 (O := O) (k1.then k2)).trans fr3
  have b3 := fr3.has b2 o1
  have hlk := hv.2.2.2
  refine hK _ _ _ (C.seq (C.seq fun K hK => ?_))
  have kr := keep_room h3 9
  have kp : Keep nobody h3 ((⟨h3.objs, h3.next + 9⟩ : H).put (h3.next + 6) (.rw [.pointer (some ⟨b, 0, none⟩), .pointer (some ⟨b, 2, none⟩)])) := ⟨kr.next, fun c hc hn => ((Keep.put _ (h3.next + 6) _).same c (by show c < h3.next + 9; omega) (by omega)).trans (kr.same c hc hn)⟩
  have b6 : Has ((⟨h3.objs, h3.next + 9⟩ : H).put (h3.next + 6) (.rw [.pointer (some ⟨b, 0, none⟩), .pointer (some ⟨b, 2, none⟩)])) (h3.next + 6) (.rw [.pointer (some ⟨b, 0, none⟩), .pointer (some ⟨b, 2, none⟩)]) := Has.put (by show _ < h3.next + 9; omega)
  simp only [↓opStep_eq, ↓reduceIte, ↓EW, EV, Nat.reduceAdd, Nat.reduceEqDiff, Int.reduceEq, Int.reduceLT, Int.reduceLE, Int.reduceNe, seqC, retC, skipC, exitC, blockC, condC, r13_5, nilChk_some, lit2p, lenSl_slice]
  generalize (⟨h3.objs, h3.next + 9⟩ : H).put (h3.next + 6) (.rw [.pointer (some ⟨b, 0, none⟩), .pointer (some ⟨b, 2, none⟩)]) = h4 at *
  obtain ⟨now, old, a, v1, v2, tab, gg, pm⟩ := st3.keep0 kp
  have hcnt := gg.cnt
  refine hK .norm _ _ ?_
  refine C.block (C.loop (fun q tm' hx => ∃ i, q = 2 - i ∧ i ≤ 2 ∧ tg tm' 3 = .pointer (some ⟨h.next, 0, none⟩) ∧ tg tm' 25 = .slice (some ⟨h3.next + 6, 0, none⟩) 2 2 ∧ tg tm' 26 = .int .i64 2 ∧ tg tm' 27 = .int .i64 (i : Int) ∧ (1 ≤ i → ∀ e ∈ now.flatten, ¬ Is t k e) ∧ (2 ≤ i → ∀ e ∈ old.flatten, ¬ Is t k e) ∧ Keep nobody h4 hx) 2 (by omega)
    ⟨0, rfl, by omega, by simp only [↓opStep_eq, ↓reduceIte, ↓EW, EV, Nat.reduceAdd, Nat.reduceEqDiff, Int.reduceEq, Int.reduceLT, Int.reduceLE, Int.reduceNe, seqC, retC, skipC, exitC, blockC, condC], by simp only [↓opStep_eq, ↓reduceIte, ↓EW, EV, Nat.reduceAdd, Nat.reduceEqDiff, Int.reduceEq, Int.reduceLT, Int.reduceLE, Int.reduceNe, seqC, retC, skipC, exitC, blockC, condC], by simp only [↓opStep_eq, ↓reduceIte, ↓EW, EV, Nat.reduceAdd, Nat.reduceEqDiff, Int.reduceEq, Int.reduceLT, Int.reduceLE, Int.reduceNe, seqC, retC, skipC, exitC, blockC, condC] <;> rfl, by simp only [↓opStep_eq, ↓reduceIte, ↓EW, EV, Nat.reduceAdd, Nat.reduceEqDiff, Int.reduceEq, Int.reduceLT, Int.reduceLE, Int.reduceNe, seqC, retC, skipC, exitC, blockC, condC] <;> rfl, (fun h => by omega), (fun h => by omega), .refl _ _⟩ ?_)
  rintro q tm' hx ⟨i, rfl, hi, t3, t25, t26, t27, no1, no2, kx⟩
  unfold l13_12
  refine C.seq fun K hK => ?_
  simp only [↓opStep_eq, ↓reduceIte, ↓EW, EV, Nat.reduceAdd, Nat.reduceEqDiff, Int.reduceEq, Int.reduceLT, Int.reduceLE, Int.reduceNe, seqC, retC, skipC, exitC, blockC, condC, r13_6, t26, t27]
  refine hK _ _ _ (C.seq (C.cond (decide ((i : Int) < 2)) (by simp only [↓opStep_eq, ↓reduceIte, ↓EW, EV, Nat.reduceAdd, Nat.reduceEqDiff, Int.reduceEq, Int.reduceLT, Int.reduceLE, Int.reduceNe, seqC, retC, skipC, exitC, blockC, condC]) (fun g => C.skip ?_) fun g => C.exit ?_))
  · have g2 : i < 2 := by have := of_decide_eq_true g; omega
    -- the side
    obtain ⟨s, o, v, rs, ld6, ra, hp, hh, hsub, hrl, hnext⟩ : ∃ (s : Bool) (o : Nat) (v : Value) (rs : List (List Ent)), [Value.pointer (some ⟨b, 0, none⟩), .pointer (some ⟨b, 2, none⟩)][i]? = some (.pointer (some ⟨b, o, none⟩)) ∧ RowsAt O3 hx s v rs ∧ (∀ hy, Keep nobody hx hy → ∀ s, loadOne hy (.pointer (some ⟨b, o, s⟩)) = some v) ∧ (∀ (i : Nat) es, rs[i]? = some es → ∀ e ∈ es, idx e.t e.k rs.length = i ∧ e.k.size ≤ 32) ∧ (∀ e, e ∈ rs.flatten → e ∈ now.flatten ++ old.flatten) ∧ rs.flatten.length ≤ N ∧ ((∀ e ∈ rs.flatten, ¬ Is t k e) → (1 ≤ i + 1 → ∀ e ∈ now.flatten, ¬ Is t k e) ∧ (2 ≤ i + 1 → ∀ e ∈ old.flatten, ¬ Is t k e)) := by
      have tx := tab.keep0 kx
      rcases i with _ | _ | i
      · exact ⟨false, 0, v1, now, rfl, tx.now, fun hy ky s => by rw [tld (tx.hb.keep0 ky)]; rfl, gg.hn, fun e he => List.mem_append_left _ he, by omega, fun h => ⟨fun _ => h, fun h => by omega⟩⟩
      · exact ⟨true, 2, v2, old, rfl, tx.old, fun hy ky s => by rw [tld (tx.hb.keep0 ky)]; rfl, gg.ho, fun e he => List.mem_append_right _ he, by omega, fun h => ⟨fun _ => no1 (by omega), fun _ => h⟩⟩
      · omega
    have ix : indexSl 1 (.slice (some ⟨h3.next + 6, 0, none⟩) 2 2) (.int .i64 (i : Int)) = some (.pointer (some ⟨h3.next + 6, i, none⟩)) := by
      simp only [indexSl, asNat_nat, addOff]
      rw [Nat.ble_eq_true_of_le (by omega)]
      simp only [Nat.zero_add, Nat.mul_one]
    have ldp : loadOne hx (.pointer (some ⟨h3.next + 6, i, none⟩)) = some (.pointer (some ⟨b, o, none⟩)) := by
      rw [loadOne_has (b6.keep0 kx) rfl]; exact ld6
    have bx := (b3.keep0 kp).keep0 kx
    refine C.seq (C.block (C.seq fun K hK => ?_))
    simp only [↓opStep_eq, ↓reduceIte, ↓EW, EV, Nat.reduceAdd, Nat.reduceEqDiff, Int.reduceEq, Int.reduceLT, Int.reduceLE, Int.reduceNe, seqC, retC, skipC, exitC, blockC, condC, r13_7, t25, t27, ix, ldp]
    refine hK _ _ _ (C.seq fun K hK => ?_)
    simp only [↓opStep_eq, ↓reduceIte, ↓EW, EV, Nat.reduceAdd, Nat.reduceEqDiff, Int.reduceEq, Int.reduceLT, Int.reduceLE, Int.reduceNe, seqC, retC, skipC, exitC, blockC, condC, r13_8, t3, lda _ bx]
    refine find_law L (n + 1) N ra t k ⟨b, o, none⟩ hp (fun i es he => Nat.le_trans (row_le he) hrl) (by omega) (by omega) (by omega) (by omega) _ fun r h5 hq => ?_
    obtain ⟨fq, k5⟩ := hq
    refine hK _ _ _ (C.seq fun K hK => ?_)
    have kall := kx.then k5
    by_cases hr : r = .pointer none
    · subst hr
      have hno : ∀ e ∈ rs.flatten, ¬ Is t k e := by
        rcases fq with ⟨_, h⟩ | ⟨B, vs, vi, es, j, e, _, rp, h1, h2, h3, h4, h5, h6⟩
        · exact no_flat hh h
        · exfalso
          obtain ⟨bb, cs, ix, _⟩ := (rp.own _ _ _ h1 h2).at h3
          rw [ix] at h6; cases h6
      simp only [↓opStep_eq, ↓reduceIte, ↓EW, EV, Nat.reduceAdd, Nat.reduceEqDiff, Int.reduceEq, Int.reduceLT, Int.reduceLE, Int.reduceNe, seqC, retC, skipC, exitC, blockC, condC, r13_9, ent_nil]
      refine hK _ _ _ (C.cond false (by simp only [↓opStep_eq, ↓reduceIte, ↓EW, EV, Nat.reduceAdd, Nat.reduceEqDiff, Int.reduceEq, Int.reduceLT, Int.reduceLE, Int.reduceNe, seqC, retC, skipC, exitC, blockC, condC]) (fun g => by cases g) fun g => C.skip fun K hK => ?_)
      have hw : IntKind.i64.wrap ((i : Int) + 1) = ((i + 1 : Nat) : Int) := by
        rw [show (i : Int) + 1 = ((i + 1 : Nat) : Int) by omega, wrap_i64 _ (by omega)]
      simp only [↓opStep_eq, ↓reduceIte, ↓EW, EV, Nat.reduceAdd, Nat.reduceEqDiff, Int.reduceEq, Int.reduceLT, Int.reduceLE, Int.reduceNe, seqC, retC, skipC, exitC, blockC, condC, r13_11, t27, hw]
      exact hK _ _ _ ⟨2 - (i + 1), by omega, i + 1, rfl, by omega, by simp only [↓opStep_eq, ↓reduceIte, ↓EW, EV, Nat.reduceAdd, Nat.reduceEqDiff, Int.reduceEq, Int.reduceLT, Int.reduceLE, Int.reduceNe, seqC, retC, skipC, exitC, blockC, condC, t3], by simp only [↓opStep_eq, ↓reduceIte, ↓EW, EV, Nat.reduceAdd, Nat.reduceEqDiff, Int.reduceEq, Int.reduceLT, Int.reduceLE, Int.reduceNe, seqC, retC, skipC, exitC, blockC, condC, t25], by simp only [↓opStep_eq, ↓reduceIte, ↓EW, EV, Nat.reduceAdd, Nat.reduceEqDiff, Int.reduceEq, Int.reduceLT, Int.reduceLE, Int.reduceNe, seqC, retC, skipC, exitC, blockC, condC, t26], by simp only [↓opStep_eq, ↓reduceIte, ↓EW, EV, Nat.reduceAdd, Nat.reduceEqDiff, Int.reduceEq, Int.reduceLT, Int.reduceLE, Int.reduceNe, seqC, retC, skipC, exitC, blockC, condC], (hnext hno).1, (hnext hno).2, kall⟩
    · obtain ⟨e, bb, oo, he, hm, rfl, hx2⟩ := found_x fq k5 hr
      simp only [↓opStep_eq, ↓reduceIte, ↓EW, EV, Nat.reduceAdd, Nat.reduceEqDiff, Int.reduceEq, Int.reduceLT, Int.reduceLE, Int.reduceNe, seqC, retC, skipC, exitC, blockC, condC, r13_9, ent_nnil]
      refine hK _ _ _ (C.cond true (by simp only [↓opStep_eq, ↓reduceIte, ↓EW, EV, Nat.reduceAdd, Nat.reduceEqDiff, Int.reduceEq, Int.reduceLT, Int.reduceLE, Int.reduceNe, seqC, retC, skipC, exitC, blockC, condC]) (fun g => C.seq fun K hK => ?_) fun g => by cases g)
      simp only [↓opStep_eq, ↓reduceIte, ↓EW, EV, Nat.reduceAdd, Nat.reduceEqDiff, Int.reduceEq, Int.reduceLT, Int.reduceLE, Int.reduceNe, seqC, retC, skipC, exitC, blockC, condC, r13_10, nilChk_some, hx2]
      refine hK _ _ _ (C.ret ⟨.inr rfl, _, rfl, O3, mv, ⟨now, old, a, v1, v2, tab.keep0 kall, gg, pm⟩, hmv, fr.trans (Fr.of0 (kp.then kall)), .inl ⟨e, pm.mem_iff.1 (hsub e he), hm, ?_⟩⟩)
      simp only [↓opStep_eq, ↓reduceIte, ↓EW, EV, Nat.reduceAdd, Nat.reduceEqDiff, Int.reduceEq, Int.reduceLT, Int.reduceLE, Int.reduceNe, seqC, retC, skipC, exitC, blockC, condC, resOf]
  · simp only [if_pos]
    have g2 : i = 2 := by have := of_decide_eq_false g; omega
    refine C.seq fun K hK => hK .norm _ _ (C.ret ⟨.inr rfl, _, rfl, O3, mv, ⟨now, old, a, v1, v2, tab.keep0 kx, gg, pm⟩, hmv, fr.trans (Fr.of0 (kp.then kx)), .inr ⟨fun e he hm => ?_, ?_⟩⟩)
    · have := pm.mem_iff.2 he
      rw [List.mem_append] at this
      rcases this with h | h
      · exact no1 (by omega) e h hm
      · exact no2 (by omega) e h hm
    · simp only [↓opStep_eq, ↓reduceIte, ↓EW, EV, Nat.reduceAdd, Nat.reduceEqDiff, Int.reduceEq, Int.reduceLT, Int.reduceLE, Int.reduceNe, seqC, retC, skipC, exitC, blockC, condC, resOf]
end Go.Proofs.YtbdmhdidehfmoaaDoor

namespace Go.Proofs.YtbdmhdidehfmoaaDoor
open Go.Ev

instance decIs (t : Int) (k : ByteArray) (e : Ent) : Decidable (Is t k e) := inferInstanceAs (Decidable (_ ∧ _))
def without (l : List Ent) (t : Int) (k : ByteArray) : List Ent := l.filter fun e => !decide (Is t k e)
theorem without_none {l : List Ent} {t : Int} {k : ByteArray} (h : ∀ e ∈ l, ¬ Is t k e) : without l t k = l := by
  apply List.filter_eq_self.2
  intro e he
  rw [decide_eq_false (h e he)]; rfl
theorem without_of {l rest : List Ent} {e : Ent} {t : Int} {k : ByteArray} (p : l.Perm (e :: rest)) (hm : Is t k e) (hu : (l.map Ent.key).Nodup) : (without l t k).Perm rest := by
  have h1 : (without l t k).Perm (without (e :: rest) t k) := p.filter _
  have h2 : without (e :: rest) t k = without rest t k := by
    unfold without
    rw [List.filter_cons, if_neg (by rw [decide_eq_true hm]; simp)]
  rw [h2] at h1
  have h3 : without rest t k = rest := without_none fun e' he' hm' => by
    have hu' := (p.map Ent.key).nodup_iff.1 hu
    rw [List.map_cons, List.nodup_cons] at hu'
    refine hu'.1 (List.mem_map.2 ⟨e', he', ?_⟩)
    show (e'.t, e'.k) = (e.t, e.k)
    rw [hm'.1, hm'.2, hm.1, hm.2]
  rw [h3] at h1
  exact h1

theorem cellsE_set : ∀ (es : List Ent) (j : Nat) (e : Ent) (x : Int), es[j]? = some e → (cellsE es).set (3 * j + 2) (.int .i64 x) = cellsE (es.set j { e with x := x })
  | [], j, e, x, h => by simp at h
  | a :: r, 0, e, x, h => by
    simp at h; subst h; rfl
  | a :: r, j + 1, e, x, h => by
    have := cellsE_set r j e x (by simpa using h)
    rw [show 3 * (j + 1) + 2 = 3 * j + 2 + 1 + 1 + 1 by omega]
    simp only [cellsE, Ent.cells, List.cons_append, List.nil_append, List.set_cons_succ, this]

theorem Own.setx {O : Nat → Tag} {h : H} {tag : Tag} {v : Value} {es : List Ent} (a : Own O h tag v es) {j : Nat} {e : Ent} (hj : es[j]? = some e) (x : Int) {r : Value} (hr : indexSl 3 v (.int .i64 (j : Int)) = some r) :
    ∃ bb cs', r = .pointer (some ⟨bb, 3 * j, none⟩) ∧ O bb = tag ∧ bb < h.next ∧ (∀ s, storeV 1 h (.pointer (some ⟨bb, 3 * j + 2, s⟩)) (.int .i64 x) = some (h.put bb (.op cs' 3))) ∧ Own O (h.put bb (.op cs' 3)) tag v (es.set j { e with x := x }) := by
  have hlt := (List.getElem?_eq_some_iff.1 hj).1
  rcases a with ⟨rfl, rfl⟩ | ⟨b, cap, cs, rfl, c, hb, m, l, t, o⟩
  · simp at hlt
  · have ix : indexSl 3 (.slice (some ⟨b, 0, none⟩) es.length cap) (.int .i64 (j : Int)) = some (.pointer (some ⟨b, 3 * j, none⟩)) := by
      simp only [indexSl, asNat_nat, addOff]
      rw [Nat.ble_eq_true_of_le (by omega)]
      simp only [Nat.zero_add, Nat.mul_comm]
    rw [ix] at hr
    cases hr
    refine ⟨b, cs.set (3 * j + 2) (.int .i64 x), rfl, o, hb.1, fun s => store_op hb (by omega) rfl rfl, .inr ⟨b, cap, _, by rw [List.length_set], c, Has.put hb.1, by rw [List.length_set]; exact m, by rw [List.length_set, List.length_set]; exact l, ?_, o⟩⟩
    rw [List.length_set, List.take_set, t, cellsE_set es j e x hj]

theorem RowsP.setx {O : Nat → Tag} {h : H} {s : Bool} {B : Nat} {vs : List Value} {rs : List (List Ent)} (a : RowsP O h s B vs rs) {i j : Nat} {vi : Value} {es : List Ent} {e : Ent} (h1 : vs[i]? = some vi) (h2 : rs[i]? = some es) (hj : es[j]? = some e) (x : Int) {r : Value} (hr : indexSl 3 vi (.int .i64 (j : Int)) = some r) :
    ∃ bb cs', r = .pointer (some ⟨bb, 3 * j, none⟩) ∧ O bb = .row s i ∧ bb < h.next ∧ (∀ s, storeV 1 h (.pointer (some ⟨bb, 3 * j + 2, s⟩)) (.int .i64 x) = some (h.put bb (.op cs' 3))) ∧ RowsP O (h.put bb (.op cs' 3)) s B vs (rs.set i (es.set j { e with x := x })) := by
  obtain ⟨bb, cs', e1, e2, e3, e4, e5⟩ := (a.own i vi es h1 h2).setx hj x hr
  have kp := Keep.put h bb (.op cs' 3)
  refine ⟨bb, cs', e1, e2, e3, e4, ⟨a.hb.keep kp fun e => ?_, a.ob, by rw [List.length_set]; exact a.len, fun i' v es' g1 g2 => ?_⟩⟩
  · rw [← e, a.ob] at e2; cases e2
  · by_cases hi : i = i'
    · subst hi
      rw [h1] at g1
      rw [List.getElem?_set_self (List.getElem?_eq_some_iff.1 h2).1] at g2
      cases g1; cases g2
      exact e5
    · rw [List.getElem?_set_ne hi] at g2
      refine (a.own i' v es' g1 g2).keep kp fun c hc ho => ⟨fun e => ?_, ho⟩
      rw [e, e2] at ho; cases ho; exact hi rfl

theorem erase_perm {α : Type} {es : List α} {j : Nat} {e : α} (hj : es[j]? = some e) : es.Perm (e :: es.eraseIdx j) := by
  have hlt := (List.getElem?_eq_some_iff.1 hj).1
  have he : es[j] = e := (List.getElem?_eq_some_iff.1 hj).2
  rw [List.eraseIdx_eq_take_drop_succ]
  conv => lhs; rw [← List.take_append_drop j es, List.drop_eq_getElem_cons hlt, he]
  exact List.perm_middle
/-- entries that are turned keep their names -/
theorem set_perm {es : List Ent} {j : Nat} {e : Ent} (hj : es[j]? = some e) (e' : Ent) : es.Perm (e :: es.eraseIdx j) ∧ (es.set j e').Perm (e' :: es.eraseIdx j) := by
  have hlt := (List.getElem?_eq_some_iff.1 hj).1
  refine ⟨erase_perm hj, ?_⟩
  have := erase_perm (es := es.set j e') (j := j) (e := e') (List.getElem?_set_self hlt)
  rw [List.eraseIdx_set_eq] at this
  exact this
theorem flat_set2 {rs : List (List Ent)} {i : Nat} {es es2 : List Ent} {e : Ent} {rest : List Ent} (h : rs[i]? = some es) (p : es.Perm (e :: rest)) (e' : Ent) (p2 : es2.Perm (e' :: rest)) : ∃ R, rs.flatten.Perm (e :: R) ∧ (rs.set i es2).flatten.Perm (e' :: R) := by
  have hi := (List.getElem?_eq_some_iff.1 h).1
  refine ⟨(rs.set i rest).flatten, flat_set h p, ?_⟩
  have := flat_set (rs := rs.set i es2) (i := i) (es := es2) (es' := rest) (e := e') (List.getElem?_set_self hi) p2
  rw [List.set_set] at this
  exact this

theorem hash_set {rs : List (List Ent)} {i : Nat} {es es2 : List Ent} (hn : ∀ (i : Nat) es, rs[i]? = some es → ∀ e ∈ es, idx e.t e.k rs.length = i ∧ e.k.size ≤ 32) (h : rs[i]? = some es) (hs : ∀ e' ∈ es2, (∃ e ∈ es, e.t = e'.t ∧ e.k = e'.k) ∨ (idx e'.t e'.k rs.length = i ∧ e'.k.size ≤ 32)) : ∀ (j : Nat) es', (rs.set i es2)[j]? = some es' → ∀ e ∈ es', idx e.t e.k (rs.set i es2).length = j ∧ e.k.size ≤ 32 := fun j es' hj e he => by
  have hi := (List.getElem?_eq_some_iff.1 h).1
  rw [List.length_set]
  by_cases hij : i = j
  · subst hij
    rw [List.getElem?_set_self hi] at hj
    cases hj
    rcases hs e he with ⟨e0, h0, h1, h2⟩ | h0
    · have := hn _ _ h e0 h0
      rw [h1, h2] at this; exact this
    · exact h0
  · rw [List.getElem?_set_ne hij] at hj
    exact hn _ _ hj e he

theorem set_mem {es : List Ent} {j : Nat} {e : Ent} (hj : es[j]? = some e) (x : Int) : ∀ e' ∈ es.set j { e with x := x }, ∃ e0 ∈ es, e0.t = e'.t ∧ e0.k = e'.k := fun e' he' => by
  rcases List.mem_or_eq_of_mem_set he' with h | rfl
  · exact ⟨e', h, rfl, rfl⟩
  · exact ⟨e, List.mem_of_getElem? hj, rfl, rfl⟩
end Go.Proofs.YtbdmhdidehfmoaaDoor

namespace Go.Proofs.YtbdmhdidehfmoaaDoor
open Go.Ev

theorem FindQ.keep0 {O : Nat → Tag} {h h' : H} {s : Bool} {v : Value} {rs : List (List Ent)} {t : Int} {k : ByteArray} {r : Value} (q : FindQ O h s v rs t k r) (kk : Keep nobody h h') : FindQ O h' s v rs t k r := by
  rcases q with q | ⟨B, vs, vi, es, j, e, h0, rp, h1, h2, h3, h4, h5, h6⟩
  · exact .inl q
  · exact .inr ⟨B, vs, vi, es, j, e, h0, rp.keep0 kk, h1, h2, h3, h4, h5, h6⟩

theorem Good.setx_now {N : Nat} {now old : List (List Ent)} {a : Nat} (g : Good N now old a) {i j : Nat} {es : List Ent} {e : Ent} (h : now[i]? = some es) (hj : es[j]? = some e) (x : Int) : Good N (now.set i (es.set j { e with x := x })) old a ∧ (now.set i (es.set j { e with x := x })).flatten.length = now.flatten.length ∧ ∃ R, (now.flatten ++ old.flatten).Perm (e :: R) ∧ ((now.set i (es.set j { e with x := x })).flatten ++ old.flatten).Perm ({ e with x := x } :: R) := by
  obtain ⟨p1, p2⟩ := set_perm hj { e with x := x }
  obtain ⟨R, q1, q2⟩ := flat_set2 h p1 _ p2
  have e1 := q1.length_eq
  have e2 := q2.length_eq
  simp only [List.length_cons] at e1 e2
  have P1 : (now.flatten ++ old.flatten).Perm (e :: (R ++ old.flatten)) := by have := q1.append_right old.flatten; exact this
  have P2 : ((now.set i (es.set j { e with x := x })).flatten ++ old.flatten).Perm ({ e with x := x } :: (R ++ old.flatten)) := by have := q2.append_right old.flatten; exact this
  refine ⟨⟨hash_set g.hn h fun e' he' => .inl (set_mem hj x e' he'), g.ho, g.at_, by rw [List.length_set]; exact g.pos, by rw [List.length_set]; exact g.len, g.olen, ?_, by rw [show (now.set i (es.set j { e with x := x })).flatten.length = now.flatten.length by omega]; exact g.cnt⟩, by omega, _, P1, P2⟩
  have u := (P1.map Ent.key).nodup_iff.1 g.uniq
  exact (P2.map Ent.key).nodup_iff.2 u
theorem Good.setx_old {N : Nat} {now old : List (List Ent)} {a : Nat} (g : Good N now old a) {i j : Nat} {es : List Ent} {e : Ent} (h : old[i]? = some es) (hj : es[j]? = some e) (x : Int) : Good N now (old.set i (es.set j { e with x := x })) a ∧ (old.set i (es.set j { e with x := x })).flatten.length = old.flatten.length ∧ ∃ R, (now.flatten ++ old.flatten).Perm (e :: R) ∧ (now.flatten ++ (old.set i (es.set j { e with x := x })).flatten).Perm ({ e with x := x } :: R) := by
  obtain ⟨p1, p2⟩ := set_perm hj { e with x := x }
  obtain ⟨R, q1, q2⟩ := flat_set2 h p1 _ p2
  have e1 := q1.length_eq
  have e2 := q2.length_eq
  simp only [List.length_cons] at e1 e2
  have P1 : (now.flatten ++ old.flatten).Perm (e :: (now.flatten ++ R)) := (q1.append_left now.flatten).trans List.perm_middle
  have P2 : (now.flatten ++ (old.set i (es.set j { e with x := x })).flatten).Perm ({ e with x := x } :: (now.flatten ++ R)) := (q2.append_left now.flatten).trans List.perm_middle
  refine ⟨⟨g.hn, hash_set g.ho h fun e' he' => .inl (set_mem hj x e' he'), fun i' es' hi he => ?_, g.pos, g.len, by rw [List.length_set]; exact g.olen, ?_, by rw [show (old.set i (es.set j { e with x := x })).flatten.length = old.flatten.length by omega]; exact g.cnt⟩, by omega, _, P1, P2⟩
  · by_cases hii : i = i'
    · subst hii
      have := g.at_ _ _ hi h
      rw [this] at hj; simp at hj
    · rw [List.getElem?_set_ne hii] at he
      exact g.at_ _ _ hi he
  · have u := (P1.map Ent.key).nodup_iff.1 g.uniq
    exact (P2.map Ent.key).nodup_iff.2 u

theorem Tab.setx {N : Nat} {O : Nat → Tag} {h : H} {b : Nat} {l : List Ent} {now old : List (List Ent)} {a mv : Nat} {v1 v2 : Value} (tab : Tab O h b now old (now.flatten.length : Int) (old.flatten.length : Int) (a : Int) (mv : Int) v1 v2) (g : Good N now old a) (pm : (now.flatten ++ old.flatten).Perm l) {s : Bool} {v : Value} {rs : List (List Ent)} (hs : (s = false ∧ v = v1 ∧ rs = now) ∨ (s = true ∧ v = v2 ∧ rs = old)) {t : Int} {k : ByteArray} {r : Value} (q : FindQ O h s v rs t k r) (hr : r ≠ .pointer none) (x : Int) :
    ∃ bb o cs', r = .pointer (some ⟨bb, o, none⟩) ∧ (∀ s, storeV 1 h (.pointer (some ⟨bb, o + 2, s⟩)) (.int .i64 x) = some (h.put bb (.op cs' 3))) ∧ Fr O h O (h.put bb (.op cs' 3)) ∧ St N O (h.put bb (.op cs' 3)) b (⟨t, k, x⟩ :: without l t k) mv := by
  rcases q with ⟨e, _⟩ | ⟨B, vs, vi, es, j, e, h0, rp, h1, h2, h3, h4, h5, h6⟩
  · exact absurd e hr
  have hu : (l.map Ent.key).Nodup := (pm.map _).nodup_iff.1 g.uniq
  have hx : ({ e with x := x } : Ent) = ⟨t, k, x⟩ := by cases e; simp at h4 h5; subst h4; subst h5; rfl
  obtain ⟨bb, cs', e1, e2, e3, e4, rp'⟩ := rp.setx h1 h2 h3 x h6
  have kp := Keep.put h bb (.op cs' 3)
  have hbb : b ≠ bb := fun e => by have := tab.ob; rw [e, e2] at this; cases this
  have fr : Fr O h O (h.put bb (.op cs' 3)) := ⟨kp.mono fun c _ e => (by rw [e, e2]; exact Tag.noConfusion), fun _ _ h => h⟩
  have nb : ∀ s', s' ≠ s → ∀ c, c < h.next → (O c = .base s' ∨ ∃ i, O c = .row s' i) → ¬ c = bb ∧ O c = O c := fun s' hs' c _ ho => ⟨fun e => by
    rw [e, e2] at ho
    rcases ho with ho | ⟨_, ho⟩
    · cases ho
    · cases ho; exact hs' rfl, rfl⟩
  have hlr : 0 < rs.length ∧ rs.length ≤ 1000000 := by
    have hi := (List.getElem?_eq_some_iff.1 h2).1
    refine ⟨by omega, ?_⟩
    rcases hs with ⟨rfl, rfl, rfl⟩ | ⟨rfl, rfl, rfl⟩
    · rcases tab.now with ⟨_, h⟩ | ⟨_, _, _, _, _, h⟩
      · rw [h] at hi; simp at hi
      · exact h
    · rcases tab.old with ⟨_, h⟩ | ⟨_, _, _, _, _, h⟩
      · rw [h] at hi; simp at hi
      · exact h
  refine ⟨bb, 3 * j, cs', e1, e4, fr, ?_⟩
  rcases hs with ⟨rfl, rfl, rfl⟩ | ⟨rfl, rfl, rfl⟩
  · obtain ⟨g', hl, R, P1, P2⟩ := g.setx_now h2 h3 x
    refine ⟨_, old, a, v, v2, ⟨by rw [hl]; exact tab.hb.keep kp hbb, tab.ob, .inr ⟨B, vs, by rw [List.length_set]; exact h0, rp', by rw [List.length_set]; exact hlr.1, by rw [List.length_set]; exact hlr.2⟩, tab.old.keep kp (nb true (by decide)), fun c hc => tab.far c hc⟩, g', ?_⟩
    rw [hx] at P2
    rw [hx]
    exact P2.trans ((without_of (pm.symm.trans P1) ⟨h4, h5⟩ hu).symm.cons _)
  · obtain ⟨g', hl, R, P1, P2⟩ := g.setx_old h2 h3 x
    refine ⟨now, _, a, v1, v, ⟨by rw [hl]; exact tab.hb.keep kp hbb, tab.ob, tab.now.keep kp (nb false (by decide)), .inr ⟨B, vs, by rw [List.length_set]; exact h0, rp', by rw [List.length_set]; exact hlr.1, by rw [List.length_set]; exact hlr.2⟩, fun c hc => tab.far c hc⟩, g', ?_⟩
    rw [hx] at P2
    rw [hx]
    exact P2.trans ((without_of (pm.symm.trans P1) ⟨h4, h5⟩ hu).symm.cons _)

theorem Good.add {N : Nat} {now old : List (List Ent)} {a : Nat} (g : Good N now old a) {es : List Ent} {e : Ent} (h : now[idx e.t e.k now.length]? = some es) (hk : e.k.size ≤ 32) (hno : ∀ e' ∈ now.flatten ++ old.flatten, ¬ Is e.t e.k e') (hN : now.flatten.length + old.flatten.length < N) : Good N (now.set (idx e.t e.k now.length) (es ++ [e])) old a ∧ (now.set (idx e.t e.k now.length) (es ++ [e])).flatten.length = now.flatten.length + 1 ∧ ((now.set (idx e.t e.k now.length) (es ++ [e])).flatten ++ old.flatten).Perm (e :: (now.flatten ++ old.flatten)) := by
  have p := flat_add e h
  have hl := p.length_eq
  rw [List.length_cons] at hl
  have P : ((now.set (idx e.t e.k now.length) (es ++ [e])).flatten ++ old.flatten).Perm (e :: (now.flatten ++ old.flatten)) := by have := p.append_right old.flatten; exact this
  refine ⟨⟨hash_set g.hn h fun e' he' => ?_, g.ho, g.at_, by rw [List.length_set]; exact g.pos, by rw [List.length_set]; exact g.len, g.olen, (P.map Ent.key).nodup_iff.2 ?_, by omega⟩, hl, P⟩
  · rw [List.mem_append, List.mem_singleton] at he'
    rcases he' with he' | rfl
    · exact .inl ⟨e', he', rfl, rfl⟩
    · exact .inr ⟨rfl, hk⟩
  · rw [List.map_cons, List.nodup_cons]
    refine ⟨fun hm => ?_, g.uniq⟩
    obtain ⟨e', h1, h2⟩ := List.mem_map.1 hm
    exact hno e' h1 ⟨congrArg Prod.fst h2, congrArg Prod.snd h2⟩
end Go.Proofs.YtbdmhdidehfmoaaDoor

namespace Go.Proofs.YtbdmhdidehfmoaaDoor
open Go.Ev

theorem put_T (L n N : Nat) (hN : N ≤ 100000) (hL : 300000 < L) {O : Nat → Tag} {h : H} {b : Nat} {l : List Ent} {m0 : Nat} (st : St N O h b l m0) {t : Int} {k : ByteArray} (hv : validN t k) (x : Int) (hroom : l.length < N) :
    Sp (CF L (n + 5)) 11 [.pointer (some ⟨b, 0, none⟩), nameV t k, .int .i64 x] h fun r h' => ∃ O' mv, St N O' h' b (⟨t, k, x⟩ :: without l t k) mv ∧ mv ≤ 4 ∧ Fr O h O' h' ∧ r = .int .i64 0 := by
  refine Sp.body f11 (by simp) ?_
  unfold c11
  have k1 := Keep.new h (.rw [.int .i64 t, .string k])
  have b1 := Has.new h (.rw [.int .i64 t, .string k])
  have o1 := st.far (Nat.le_refl h.next)
  have st1 := st.keep0 k1
  refine C.seq fun K hK => ?_
  simp only [↓opStep_eq, ↓reduceIte, ↓EW, EV, Nat.reduceAdd, Nat.reduceEqDiff, Int.reduceEq, Int.reduceLT, Int.reduceLE, Int.reduceNe, seqC, retC, skipC, exitC, blockC, condC, r11_0, cells_agg]
  generalize h.new (.rw [.int .i64 t, .string k]) = h1 at *
  have lda : ∀ hx, Has hx h.next (.rw [.int .i64 t, .string k]) → ∀ s, loadAgg 2 hx (.pointer (some ⟨h.next, 0, s⟩)) = some (nameV t k) := fun hx b s => loadAgg_has b rfl (by simp)
  refine hK _ _ _ (C.seq (C.seq fun K hK => ?_))
  obtain ⟨_, _, _, _, _, _, hb, ob⟩ := st1.has
  simp only [↓opStep_eq, ↓reduceIte, ↓EW, EV, Nat.reduceAdd, Nat.reduceEqDiff, Int.reduceEq, Int.reduceLT, Int.reduceLE, Int.reduceNe, seqC, retC, skipC, exitC, blockC, condC, r11_1, lda _ b1]
  refine asked_law L (n + 3) hb t k _ fun r h2 hq => ?_
  obtain ⟨rfl, k2⟩ := hq
  rw [if_pos hv]
  have b2 := b1.keep0 k2
  have st2 := st1.keep0 k2
  refine hK _ _ _ (C.seq fun K hK => ?_)
  simp only [↓opStep_eq, ↓reduceIte, ↓EW, EV, Nat.reduceAdd, Nat.reduceEqDiff, Int.reduceEq, Int.reduceLT, Int.reduceLE, Int.reduceNe, seqC, retC, skipC, exitC, blockC, condC, Bool.true_or, Bool.false_or, Bool.or_true, Bool.or_false, Bool.true_and, Bool.false_and, Bool.and_true, Bool.and_false, r11_2]
  refine hK _ _ _ (C.cond false (by simp only [↓opStep_eq, ↓reduceIte, ↓EW, EV, Nat.reduceAdd, Nat.reduceEqDiff, Int.reduceEq, Int.reduceLT, Int.reduceLE, Int.reduceNe, seqC, retC, skipC, exitC, blockC, condC]) (fun g => by cases g) fun g => C.skip (C.seq fun K hK => ?_))
  simp only [↓opStep_eq, ↓reduceIte, ↓EW, EV, Nat.reduceAdd, Nat.reduceEqDiff, Int.reduceEq, Int.reduceLT, Int.reduceLE, Int.reduceNe, seqC, retC, skipC, exitC, blockC, condC, r11_4]
  refine step_law L n N hN hL st2 _ fun r h3 hq => ?_
  obtain ⟨O3, mv, st3, hmv, fr3⟩ := hq
  have fr := (Fr.of0 (O := O) (k1.then k2)).trans fr3
  have b3 := fr3.has b2 o1
  have hlk := hv.2.2.2
  refine hK _ _ _ (C.seq (C.seq fun K hK => ?_))
  have kr := keep_room h3 9
  have kp : Keep nobody h3 ((⟨h3.objs, h3.next + 9⟩ : H).put (h3.next + 6) (.rw [.pointer (some ⟨b, 0, none⟩), .pointer (some ⟨b, 2, none⟩)])) := ⟨kr.next, fun c hc hn => ((Keep.put _ (h3.next + 6) _).same c (by show c < h3.next + 9; omega) (by omega)).trans (kr.same c hc hn)⟩
  have b6 : Has ((⟨h3.objs, h3.next + 9⟩ : H).put (h3.next + 6) (.rw [.pointer (some ⟨b, 0, none⟩), .pointer (some ⟨b, 2, none⟩)])) (h3.next + 6) (.rw [.pointer (some ⟨b, 0, none⟩), .pointer (some ⟨b, 2, none⟩)]) := Has.put (by show _ < h3.next + 9; omega)
  simp only [↓opStep_eq, ↓reduceIte, ↓EW, EV, Nat.reduceAdd, Nat.reduceEqDiff, Int.reduceEq, Int.reduceLT, Int.reduceLE, Int.reduceNe, seqC, retC, skipC, exitC, blockC, condC, r11_5, nilChk_some, lit2p, lenSl_slice]
  generalize (⟨h3.objs, h3.next + 9⟩ : H).put (h3.next + 6) (.rw [.pointer (some ⟨b, 0, none⟩), .pointer (some ⟨b, 2, none⟩)]) = h4 at *
  obtain ⟨now, old, a, v1, v2, tab, gg, pm⟩ := st3.keep0 kp
  have hcnt := gg.cnt
  refine hK .norm _ _ ?_
  refine C.block (C.loop (fun q tm' hx => ∃ i, q = 2 - i ∧ i ≤ 2 ∧ tg tm' 0 = .pointer (some ⟨b, 0, none⟩) ∧ tg tm' 2 = .int .i64 x ∧ tg tm' 4 = .pointer (some ⟨h.next, 0, none⟩) ∧ tg tm' 25 = .slice (some ⟨h3.next + 6, 0, none⟩) 2 2 ∧ tg tm' 26 = .int .i64 2 ∧ tg tm' 27 = .int .i64 (i : Int) ∧ (1 ≤ i → ∀ e ∈ now.flatten, ¬ Is t k e) ∧ (2 ≤ i → ∀ e ∈ old.flatten, ¬ Is t k e) ∧ Keep nobody h4 hx) 2 (by omega)
    ⟨0, rfl, by omega, by simp only [↓opStep_eq, ↓reduceIte, ↓EW, EV, Nat.reduceAdd, Nat.reduceEqDiff, Int.reduceEq, Int.reduceLT, Int.reduceLE, Int.reduceNe, seqC, retC, skipC, exitC, blockC, condC], by simp only [↓opStep_eq, ↓reduceIte, ↓EW, EV, Nat.reduceAdd, Nat.reduceEqDiff, Int.reduceEq, Int.reduceLT, Int.reduceLE, Int.reduceNe, seqC, retC, skipC, exitC, blockC, condC], by simp only [↓opStep_eq, ↓reduceIte, ↓EW, EV, Nat.reduceAdd, Nat.reduceEqDiff, Int.reduceEq, Int.reduceLT, Int.reduceLE, Int.reduceNe, seqC, retC, skipC, exitC, blockC, condC], by simp only [↓opStep_eq, ↓reduceIte, ↓EW, EV, Nat.reduceAdd, Nat.reduceEqDiff, Int.reduceEq, Int.reduceLT, Int.reduceLE, Int.reduceNe, seqC, retC, skipC, exitC, blockC, condC], by simp only [↓opStep_eq, ↓reduceIte, ↓EW, EV, Nat.reduceAdd, Nat.reduceEqDiff, Int.reduceEq, Int.reduceLT, Int.reduceLE, Int.reduceNe, seqC, retC, skipC, exitC, blockC, condC] <;> rfl, by simp only [↓opStep_eq, ↓reduceIte, ↓EW, EV, Nat.reduceAdd, Nat.reduceEqDiff, Int.reduceEq, Int.reduceLT, Int.reduceLE, Int.reduceNe, seqC, retC, skipC, exitC, blockC, condC] <;> rfl, (fun h => by omega), (fun h => by omega), .refl _ _⟩ ?_)
  rintro q tm' hx ⟨i, rfl, hi, t0, t2, t4, t25, t26, t27, no1, no2, kx⟩
  unfold l11_13
  refine C.seq fun K hK => ?_
  simp only [↓opStep_eq, ↓reduceIte, ↓EW, EV, Nat.reduceAdd, Nat.reduceEqDiff, Int.reduceEq, Int.reduceLT, Int.reduceLE, Int.reduceNe, seqC, retC, skipC, exitC, blockC, condC, r11_6, t26, t27]
  refine hK _ _ _ (C.seq (C.cond (decide ((i : Int) < 2)) (by simp only [↓opStep_eq, ↓reduceIte, ↓EW, EV, Nat.reduceAdd, Nat.reduceEqDiff, Int.reduceEq, Int.reduceLT, Int.reduceLE, Int.reduceNe, seqC, retC, skipC, exitC, blockC, condC]) (fun g => C.skip ?_) fun g => C.exit ?_))
  · have g2 : i < 2 := by have := of_decide_eq_true g; omega
    have tx := tab.keep0 kx
    -- the side
    obtain ⟨s, o, v, rs, ld6, ra, hp, hh, hs, hrl, hnext⟩ : ∃ (s : Bool) (o : Nat) (v : Value) (rs : List (List Ent)), [Value.pointer (some ⟨b, 0, none⟩), .pointer (some ⟨b, 2, none⟩)][i]? = some (.pointer (some ⟨b, o, none⟩)) ∧ RowsAt O3 hx s v rs ∧ (∀ hy, Keep nobody hx hy → ∀ s, loadOne hy (.pointer (some ⟨b, o, s⟩)) = some v) ∧ (∀ (i : Nat) es, rs[i]? = some es → ∀ e ∈ es, idx e.t e.k rs.length = i ∧ e.k.size ≤ 32) ∧ ((s = false ∧ v = v1 ∧ rs = now) ∨ (s = true ∧ v = v2 ∧ rs = old)) ∧ rs.flatten.length ≤ N ∧ ((∀ e ∈ rs.flatten, ¬ Is t k e) → (1 ≤ i + 1 → ∀ e ∈ now.flatten, ¬ Is t k e) ∧ (2 ≤ i + 1 → ∀ e ∈ old.flatten, ¬ Is t k e)) := by
      rcases i with _ | _ | i
      · exact ⟨false, 0, v1, now, rfl, tx.now, fun hy ky s => by rw [tld (tx.hb.keep0 ky)]; rfl, gg.hn, .inl ⟨rfl, rfl, rfl⟩, by omega, fun h => ⟨fun _ => h, fun h => by omega⟩⟩
      · exact ⟨true, 2, v2, old, rfl, tx.old, fun hy ky s => by rw [tld (tx.hb.keep0 ky)]; rfl, gg.ho, .inr ⟨rfl, rfl, rfl⟩, by omega, fun h => ⟨fun _ => no1 (by omega), fun _ => h⟩⟩
      · omega
    have ix : indexSl 1 (.slice (some ⟨h3.next + 6, 0, none⟩) 2 2) (.int .i64 (i : Int)) = some (.pointer (some ⟨h3.next + 6, i, none⟩)) := by
      simp only [indexSl, asNat_nat, addOff]
      rw [Nat.ble_eq_true_of_le (by omega)]
      simp only [Nat.zero_add, Nat.mul_one]
    have ldp : loadOne hx (.pointer (some ⟨h3.next + 6, i, none⟩)) = some (.pointer (some ⟨b, o, none⟩)) := by
      rw [loadOne_has (b6.keep0 kx) rfl]; exact ld6
    have bx := (b3.keep0 kp).keep0 kx
    refine C.seq (C.block (C.seq fun K hK => ?_))
    simp only [↓opStep_eq, ↓reduceIte, ↓EW, EV, Nat.reduceAdd, Nat.reduceEqDiff, Int.reduceEq, Int.reduceLT, Int.reduceLE, Int.reduceNe, seqC, retC, skipC, exitC, blockC, condC, r11_7, t25, t27, ix, ldp]
    refine hK _ _ _ (C.seq fun K hK => ?_)
    simp only [↓opStep_eq, ↓reduceIte, ↓EW, EV, Nat.reduceAdd, Nat.reduceEqDiff, Int.reduceEq, Int.reduceLT, Int.reduceLE, Int.reduceNe, seqC, retC, skipC, exitC, blockC, condC, r11_8, t4, lda _ bx]
    refine find_law L (n + 1) N ra t k ⟨b, o, none⟩ hp (fun i es he => Nat.le_trans (row_le he) hrl) (by omega) (by omega) (by omega) (by omega) _ fun r h5 hq => ?_
    obtain ⟨fq, k5⟩ := hq
    refine hK _ _ _ (C.seq fun K hK => ?_)
    have kall := kx.then k5
    by_cases hr : r = .pointer none
    · subst hr
      have hno : ∀ e ∈ rs.flatten, ¬ Is t k e := by
        rcases fq with ⟨_, h⟩ | ⟨B, vs, vi, es, j, e, _, rp, h1, h2, h3, h4, h5, h6⟩
        · exact no_flat hh h
        · exfalso
          obtain ⟨bb, cs, ix, _⟩ := (rp.own _ _ _ h1 h2).at h3
          rw [ix] at h6; cases h6
      simp only [↓opStep_eq, ↓reduceIte, ↓EW, EV, Nat.reduceAdd, Nat.reduceEqDiff, Int.reduceEq, Int.reduceLT, Int.reduceLE, Int.reduceNe, seqC, retC, skipC, exitC, blockC, condC, r11_9, ent_nil]
      refine hK _ _ _ (C.cond false (by simp only [↓opStep_eq, ↓reduceIte, ↓EW, EV, Nat.reduceAdd, Nat.reduceEqDiff, Int.reduceEq, Int.reduceLT, Int.reduceLE, Int.reduceNe, seqC, retC, skipC, exitC, blockC, condC]) (fun g => by cases g) fun g => C.skip fun K hK => ?_)
      have hw : IntKind.i64.wrap ((i : Int) + 1) = ((i + 1 : Nat) : Int) := by
        rw [show (i : Int) + 1 = ((i + 1 : Nat) : Int) by omega, wrap_i64 _ (by omega)]
      simp only [↓opStep_eq, ↓reduceIte, ↓EW, EV, Nat.reduceAdd, Nat.reduceEqDiff, Int.reduceEq, Int.reduceLT, Int.reduceLE, Int.reduceNe, seqC, retC, skipC, exitC, blockC, condC, r11_12, t27, hw]
      exact hK _ _ _ ⟨2 - (i + 1), by omega, i + 1, rfl, by omega, by simp only [↓opStep_eq, ↓reduceIte, ↓EW, EV, Nat.reduceAdd, Nat.reduceEqDiff, Int.reduceEq, Int.reduceLT, Int.reduceLE, Int.reduceNe, seqC, retC, skipC, exitC, blockC, condC, t0], by simp only [↓opStep_eq, ↓reduceIte, ↓EW, EV, Nat.reduceAdd, Nat.reduceEqDiff, Int.reduceEq, Int.reduceLT, Int.reduceLE, Int.reduceNe, seqC, retC, skipC, exitC, blockC, condC, t2], by simp only [↓opStep_eq, ↓reduceIte, ↓EW, EV, Nat.reduceAdd, Nat.reduceEqDiff, Int.reduceEq, Int.reduceLT, Int.reduceLE, Int.reduceNe, seqC, retC, skipC, exitC, blockC, condC, t4], by simp only [↓opStep_eq, ↓reduceIte, ↓EW, EV, Nat.reduceAdd, Nat.reduceEqDiff, Int.reduceEq, Int.reduceLT, Int.reduceLE, Int.reduceNe, seqC, retC, skipC, exitC, blockC, condC, t25], by simp only [↓opStep_eq, ↓reduceIte, ↓EW, EV, Nat.reduceAdd, Nat.reduceEqDiff, Int.reduceEq, Int.reduceLT, Int.reduceLE, Int.reduceNe, seqC, retC, skipC, exitC, blockC, condC, t26], by simp only [↓opStep_eq, ↓reduceIte, ↓EW, EV, Nat.reduceAdd, Nat.reduceEqDiff, Int.reduceEq, Int.reduceLT, Int.reduceLE, Int.reduceNe, seqC, retC, skipC, exitC, blockC, condC], (hnext hno).1, (hnext hno).2, kall⟩
    · obtain ⟨bb, oo, cs', rfl, hst, frx, st'⟩ := (tx.keep0 k5).setx gg pm hs (fq.keep0 k5) hr x
      simp only [↓opStep_eq, ↓reduceIte, ↓EW, EV, Nat.reduceAdd, Nat.reduceEqDiff, Int.reduceEq, Int.reduceLT, Int.reduceLE, Int.reduceNe, seqC, retC, skipC, exitC, blockC, condC, r11_9, ent_nnil]
      refine hK _ _ _ (C.cond true (by simp only [↓opStep_eq, ↓reduceIte, ↓EW, EV, Nat.reduceAdd, Nat.reduceEqDiff, Int.reduceEq, Int.reduceLT, Int.reduceLE, Int.reduceNe, seqC, retC, skipC, exitC, blockC, condC]) (fun g => C.seq fun K hK => ?_) fun g => by cases g)
      simp only [↓opStep_eq, ↓reduceIte, ↓EW, EV, Nat.reduceAdd, Nat.reduceEqDiff, Int.reduceEq, Int.reduceLT, Int.reduceLE, Int.reduceNe, seqC, retC, skipC, exitC, blockC, condC, r11_10, t2, nilChk_some, hst]
      refine hK _ _ _ (C.seq fun K hK => hK .norm _ _ (C.ret ⟨.inr rfl, _, rfl, O3, mv, st', hmv, fr.trans ((Fr.of0 (kp.then kall)).trans frx), ?_⟩))
      simp only [↓opStep_eq, ↓reduceIte, ↓EW, EV, Nat.reduceAdd, Nat.reduceEqDiff, Int.reduceEq, Int.reduceLT, Int.reduceLE, Int.reduceNe, seqC, retC, skipC, exitC, blockC, condC, resOf]
  · simp only [if_pos]
    have g2 : i = 2 := by have := of_decide_eq_false g; omega
    have hno : ∀ e ∈ now.flatten ++ old.flatten, ¬ Is t k e := fun e he hm => by
      rw [List.mem_append] at he
      rcases he with h | h
      · exact no1 (by omega) e h hm
      · exact no2 (by omega) e h hm
    have kr7 := keep_room hx 7
    have tx := (tab.keep0 kx).keep0 kr7
    obtain ⟨B1, vs1, rfl, rp1, hle1⟩ := tx.rows_now gg.pos
    have agg : aggO (fill [(.int .i64 (0)), (.string (strB [])), (.int .i64 (0))] (plc [(0, 2), (2, 1)]) [(0, nameV t k), (1, .int .i64 x)]) = some (.agg (Ent.cells ⟨t, k, x⟩).toArray) := rfl
    have bx := ((b3.keep0 kp).keep0 kx).keep0 kr7
    refine C.seq fun K hK => ?_
    simp only [↓opStep_eq, ↓reduceIte, ↓EW, EV, Nat.reduceAdd, Nat.reduceEqDiff, Int.reduceEq, Int.reduceLT, Int.reduceLE, Int.reduceNe, seqC, retC, skipC, exitC, blockC, condC, r11_13, t0, t2, t4, nilChk_some, lda _ bx, agg]
    have hll := pm.length_eq
    rw [List.length_append] at hll
    have hli := idx_lt t k gg.pos hle1
    obtain ⟨_, zs, f1, f2, _, _⟩ := rp1.at hli
    have hzs := row_le f2
    refine put_law L (n + 1) N (o := 0) (m := now.flatten.length) tx.hb (by simp [tcells]) rfl rfl tx.ob rp1 gg.pos hle1 ⟨t, k, x⟩ f2 (by omega) (by omega) (by show k.size + 1 < L; omega) (by show k.size ≤ _; omega) _ fun r h5 hq => ?_
    obtain ⟨rfl, O5, pq⟩ := hq
    obtain ⟨tab5, fr5⟩ := tx.after_put rp1.ob gg.pos hle1 pq
    obtain ⟨g6, n6, p6⟩ := gg.add (e := ⟨t, k, x⟩) f2 hlk hno (by omega)
    refine hK _ _ _ (C.seq fun K hK => hK .norm _ _ (C.ret ⟨.inr rfl, _, rfl, O5, mv, ⟨_, old, a, _, v2, by rw [n6]; exact tab5, g6, ?_⟩, hmv, fr.trans ((Fr.of0 (kp.then (kx.then kr7))).trans fr5), ?_⟩))
    · rw [without_none fun e he => hno e (pm.mem_iff.2 he)]
      exact p6.trans (pm.cons _)
    · simp only [↓opStep_eq, ↓reduceIte, ↓EW, EV, Nat.reduceAdd, Nat.reduceEqDiff, Int.reduceEq, Int.reduceLT, Int.reduceLE, Int.reduceNe, seqC, retC, skipC, exitC, blockC, condC, resOf]
end Go.Proofs.YtbdmhdidehfmoaaDoor

namespace Go.Proofs.YtbdmhdidehfmoaaDoor
open Go.Ev

theorem erase_mem {es : List Ent} {j : Nat} : ∀ e' ∈ es.eraseIdx j, ∃ e0 ∈ es, e0.t = e'.t ∧ e0.k = e'.k := fun e' he' => ⟨e', List.mem_of_mem_eraseIdx he', rfl, rfl⟩
theorem Good.del_now {N : Nat} {now old : List (List Ent)} {a : Nat} (g : Good N now old a) {i j : Nat} {es : List Ent} {e : Ent} (h : now[i]? = some es) (hj : es[j]? = some e) : Good N (now.set i (es.eraseIdx j)) old a ∧ now.flatten.length = (now.set i (es.eraseIdx j)).flatten.length + 1 ∧ (now.flatten ++ old.flatten).Perm (e :: ((now.set i (es.eraseIdx j)).flatten ++ old.flatten)) := by
  have p := flat_set h (erase_perm hj)
  have hl := p.length_eq
  rw [List.length_cons] at hl
  have P : (now.flatten ++ old.flatten).Perm (e :: ((now.set i (es.eraseIdx j)).flatten ++ old.flatten)) := by have := p.append_right old.flatten; exact this
  have hc := g.cnt
  refine ⟨⟨hash_set g.hn h fun e' he' => .inl (erase_mem e' he'), g.ho, g.at_, by rw [List.length_set]; exact g.pos, by rw [List.length_set]; exact g.len, g.olen, ?_, by omega⟩, hl, P⟩
  have u := (P.map Ent.key).nodup_iff.1 g.uniq
  rw [List.map_cons, List.nodup_cons] at u
  exact u.2
theorem Good.del_old {N : Nat} {now old : List (List Ent)} {a : Nat} (g : Good N now old a) {i j : Nat} {es : List Ent} {e : Ent} (h : old[i]? = some es) (hj : es[j]? = some e) : Good N now (old.set i (es.eraseIdx j)) a ∧ old.flatten.length = (old.set i (es.eraseIdx j)).flatten.length + 1 ∧ (now.flatten ++ old.flatten).Perm (e :: (now.flatten ++ (old.set i (es.eraseIdx j)).flatten)) := by
  have p := flat_set h (erase_perm hj)
  have hl := p.length_eq
  rw [List.length_cons] at hl
  have P : (now.flatten ++ old.flatten).Perm (e :: (now.flatten ++ (old.set i (es.eraseIdx j)).flatten)) := (p.append_left _).trans List.perm_middle
  have hc := g.cnt
  refine ⟨⟨g.hn, hash_set g.ho h fun e' he' => .inl (erase_mem e' he'), fun i' es' hi he => ?_, g.pos, g.len, by rw [List.length_set]; exact g.olen, ?_, by omega⟩, hl, P⟩
  · by_cases hii : i = i'
    · subst hii
      have := g.at_ _ _ hi h
      rw [this] at hj; simp at hj
    · rw [List.getElem?_set_ne hii] at he
      exact g.at_ _ _ hi he
  · have u := (P.map Ent.key).nodup_iff.1 g.uniq
    rw [List.map_cons, List.nodup_cons] at u
    exact u.2

def DelR (l : List Ent) (t : Int) (k : ByteArray) (d : Bool) : Prop := (d = true ∧ ∃ e ∈ l, Is t k e) ∨ (d = false ∧ ∀ e ∈ l, ¬ Is t k e)

theorem del_T (L n N : Nat) (hN : N ≤ 100000) (hL : 300000 < L) {O : Nat → Tag} {h : H} {b : Nat} {l : List Ent} {m0 : Nat} (st : St N O h b l m0) {t : Int} {k : ByteArray} (hv : validN t k) :
    Sp (CF L (n + 5)) 10 [.pointer (some ⟨b, 0, none⟩), nameV t k] h fun r h' => ∃ O' mv d, St N O' h' b (without l t k) mv ∧ mv ≤ 4 ∧ Fr O h O' h' ∧ r = .tuple [.bool d, .int .i64 0].toArray ∧ DelR l t k d := by
  refine Sp.body f10 (by simp) ?_
  unfold c10
  have k1 := Keep.new h (.rw [.int .i64 t, .string k])
  have b1 := Has.new h (.rw [.int .i64 t, .string k])
  have o1 := st.far (Nat.le_refl h.next)
  have st1 := st.keep0 k1
  refine C.seq fun K hK => ?_
  simp only [↓opStep_eq, ↓reduceIte, ↓EW, EV, Nat.reduceAdd, Nat.reduceEqDiff, Int.reduceEq, Int.reduceLT, Int.reduceLE, Int.reduceNe, seqC, retC, skipC, exitC, blockC, condC, r10_0, cells_agg]
  generalize h.new (.rw [.int .i64 t, .string k]) = h1 at *
  have lda : ∀ hx, Has hx h.next (.rw [.int .i64 t, .string k]) → ∀ s, loadAgg 2 hx (.pointer (some ⟨h.next, 0, s⟩)) = some (nameV t k) := fun hx b s => loadAgg_has b rfl (by simp)
  refine hK _ _ _ (C.seq (C.seq fun K hK => ?_))
  obtain ⟨_, _, _, _, _, _, hb, ob⟩ := st1.has
  simp only [↓opStep_eq, ↓reduceIte, ↓EW, EV, Nat.reduceAdd, Nat.reduceEqDiff, Int.reduceEq, Int.reduceLT, Int.reduceLE, Int.reduceNe, seqC, retC, skipC, exitC, blockC, condC, r10_1, lda _ b1]
  refine asked_law L (n + 3) hb t k _ fun r h2 hq => ?_
  obtain ⟨rfl, k2⟩ := hq
  rw [if_pos hv]
  have b2 := b1.keep0 k2
  have st2 := st1.keep0 k2
  refine hK _ _ _ (C.seq fun K hK => ?_)
  simp only [↓opStep_eq, ↓reduceIte, ↓EW, EV, Nat.reduceAdd, Nat.reduceEqDiff, Int.reduceEq, Int.reduceLT, Int.reduceLE, Int.reduceNe, seqC, retC, skipC, exitC, blockC, condC, Bool.true_or, Bool.false_or, Bool.or_true, Bool.or_false, Bool.true_and, Bool.false_and, Bool.and_true, Bool.and_false, r10_2]
  refine hK _ _ _ (C.cond false (by simp only [↓opStep_eq, ↓reduceIte, ↓EW, EV, Nat.reduceAdd, Nat.reduceEqDiff, Int.reduceEq, Int.reduceLT, Int.reduceLE, Int.reduceNe, seqC, retC, skipC, exitC, blockC, condC]) (fun g => by cases g) fun g => C.skip (C.seq fun K hK => ?_))
  simp only [↓opStep_eq, ↓reduceIte, ↓EW, EV, Nat.reduceAdd, Nat.reduceEqDiff, Int.reduceEq, Int.reduceLT, Int.reduceLE, Int.reduceNe, seqC, retC, skipC, exitC, blockC, condC, r10_4]
  refine step_law L n N hN hL st2 _ fun r h3 hq => ?_
  obtain ⟨O3, mv, st3, hmv, fr3⟩ := hq
  have fr := (Fr.of0 (O := O) (k1.then k2)).trans fr3
  have b3 := fr3.has b2 o1
  have hlk := hv.2.2.2
  refine hK _ _ _ (C.seq fun K hK => ?_)
  have kr := keep_room h3 14
  obtain ⟨now, old, a, v1, v2, tab, gg, pm⟩ := st3.keep0 kr
  have hcnt := gg.cnt
  have hu : (l.map Ent.key).Nodup := (pm.map _).nodup_iff.1 gg.uniq
  have notab : ∀ s : Bool, Tag.tab = .base s ∨ (∃ i, Tag.tab = .row s i) → False := fun s h => by rcases h with h | ⟨_, h⟩ <;> cases h
  simp only [↓opStep_eq, ↓reduceIte, ↓EW, EV, Nat.reduceAdd, Nat.reduceEqDiff, Int.reduceEq, Int.reduceLT, Int.reduceLE, Int.reduceNe, seqC, retC, skipC, exitC, blockC, condC, r10_5, nilChk_some, lda _ (b3.keep0 kr)]
  refine del_law L (n + 1) N (o := 0) (m := (now.flatten.length : Int)) tab.hb (by simp [tcells]) rfl rfl tab.ob tab.now t k (fun i es he => Nat.le_trans (row_le he) (show now.flatten.length ≤ N by omega)) (by omega) (by omega) (by omega) (by omega) (by omega) _ fun r h4 hq => ?_
  rcases hq with ⟨rfl, k4, no1⟩ | ⟨B, vs', es, j, e, rfl, hv1, obB, h1e, h2e, het, hek, rp', hb', kd⟩
  · have no1' := no_flat gg.hn no1
    have tab4 := tab.keep0 k4
    have k4' := kr.then k4
    simp only [↓opStep_eq, ↓reduceIte, ↓EW, EV, Nat.reduceAdd, Nat.reduceEqDiff, Int.reduceEq, Int.reduceLT, Int.reduceLE, Int.reduceNe, seqC, retC, skipC, exitC, blockC, condC, ite2, nilChk_some, lda _ (b3.keep0 k4')]
    refine del_law L (n + 1) N (o := 2) (m := (old.flatten.length : Int)) tab4.hb (by simp [tcells]) rfl rfl tab4.ob tab4.old t k (fun i es he => Nat.le_trans (row_le he) (show old.flatten.length ≤ N by omega)) (by omega) (by omega) (by omega) (by omega) (by omega) _ fun r h5 hq => ?_
    rcases hq with ⟨rfl, k5, no2⟩ | ⟨B, vs', es, j, e, rfl, hv1, obB, h1e, h2e, het, hek, rp', hb', kd⟩
    · have no2' := no_flat gg.ho no2
      have hno : ∀ e ∈ l, ¬ Is t k e := fun e he hm => by
        have := pm.mem_iff.2 he
        rw [List.mem_append] at this
        rcases this with h | h
        · exact no1' e h hm
        · exact no2' e h hm
      refine hK _ _ _ (C.ret ⟨.inr rfl, _, rfl, O3, mv, false, ?_, hmv, fr.trans (Fr.of0 (k4'.then k5)), by simp only [↓opStep_eq, ↓reduceIte, ↓EW, EV, Nat.reduceAdd, Nat.reduceEqDiff, Int.reduceEq, Int.reduceLT, Int.reduceLE, Int.reduceNe, seqC, retC, skipC, exitC, blockC, condC, resOf], .inr ⟨rfl, hno⟩⟩)
      rw [without_none hno]
      exact ⟨now, old, a, v1, v2, tab4.keep0 k5, gg, pm⟩
    · obtain ⟨g6, n6, p6⟩ := gg.del_old h1e h2e
      have hle : 0 < old.length ∧ old.length ≤ 1000000 := by
        have hi := (List.getElem?_eq_some_iff.1 h1e).1
        rcases tab.old with ⟨_, h⟩ | ⟨_, _, _, _, _, h⟩
        · rw [h] at hi; simp at hi
        · exact ⟨by omega, h⟩
      have kn : ∀ c, c < h4.next → (O3 c = .base false ∨ ∃ i, O3 c = .row false i) → ¬ (O3 c = .row true (idx t k old.length) ∨ c = B ∨ c = b) ∧ O3 c = O3 c := fun c _ ho => ⟨(by
        rintro (e | e | e)
        · rw [e] at ho; rcases ho with ho | ⟨_, ho⟩ <;> cases ho
        · rw [e, obB] at ho; rcases ho with ho | ⟨_, ho⟩ <;> cases ho
        · rw [e, tab.ob] at ho; exact notab _ ho), rfl⟩
      have frd : Fr O3 h4 O3 h5 := ⟨kd.mono fun c _ e => (by
        rcases e with e | e | e
        · rw [e]; exact Tag.noConfusion
        · rw [e, obB]; exact Tag.noConfusion
        · rw [e, tab.ob]; exact Tag.noConfusion), fun _ _ h => h⟩
      refine hK _ _ _ (C.ret ⟨.inr rfl, _, rfl, O3, mv, true, ⟨now, _, a, v1, v2, ⟨?_, tab.ob, tab4.now.keep kd kn, .inr ⟨B, vs', by rw [List.length_set]; exact hv1, rp', by rw [List.length_set]; exact hle.1, by rw [List.length_set]; exact hle.2⟩, fun c hc => tab4.far c (Nat.le_trans kd.next hc)⟩, g6, ?_⟩, hmv, fr.trans ((Fr.of0 k4').trans frd), by simp only [↓opStep_eq, ↓reduceIte, ↓EW, EV, Nat.reduceAdd, Nat.reduceEqDiff, Int.reduceEq, Int.reduceLT, Int.reduceLE, Int.reduceNe, seqC, retC, skipC, exitC, blockC, condC, resOf], .inl ⟨rfl, e, pm.mem_iff.1 (List.mem_append_right _ (flat_mem h1e (List.mem_of_getElem? h2e))), het, hek⟩⟩)
      · have e1 : (old.flatten.length : Int) - 1 = ((old.set (idx t k old.length) (es.eraseIdx j)).flatten.length : Int) := by omega
        rw [e1] at hb'
        exact hb'
      · exact (without_of (pm.symm.trans p6) ⟨het, hek⟩ hu).symm
  · obtain ⟨g6, n6, p6⟩ := gg.del_now h1e h2e
    have hle : 0 < now.length ∧ now.length ≤ 1000000 := by
      have hi := (List.getElem?_eq_some_iff.1 h1e).1
      rcases tab.now with ⟨_, h⟩ | ⟨_, _, _, _, _, h⟩
      · rw [h] at hi; simp at hi
      · exact ⟨by omega, h⟩
    have kn : ∀ c, c < (⟨h3.objs, h3.next + 14⟩ : H).next → (O3 c = .base true ∨ ∃ i, O3 c = .row true i) → ¬ (O3 c = .row false (idx t k now.length) ∨ c = B ∨ c = b) ∧ O3 c = O3 c := fun c _ ho => ⟨(by
      rintro (e | e | e)
      · rw [e] at ho; rcases ho with ho | ⟨_, ho⟩ <;> cases ho
      · rw [e, obB] at ho; rcases ho with ho | ⟨_, ho⟩ <;> cases ho
      · rw [e, tab.ob] at ho; exact notab _ ho), rfl⟩
    have frd : Fr O3 (⟨h3.objs, h3.next + 14⟩ : H) O3 h4 := ⟨kd.mono fun c _ e => (by
      rcases e with e | e | e
      · rw [e]; exact Tag.noConfusion
      · rw [e, obB]; exact Tag.noConfusion
      · rw [e, tab.ob]; exact Tag.noConfusion), fun _ _ h => h⟩
    simp only [↓opStep_eq, ↓reduceIte, ↓EW, EV, Nat.reduceAdd, Nat.reduceEqDiff, Int.reduceEq, Int.reduceLT, Int.reduceLE, Int.reduceNe, seqC, retC, skipC, exitC, blockC, condC, ite2]
    refine hK _ _ _ (C.ret ⟨.inr rfl, _, rfl, O3, mv, true, ⟨_, old, a, v1, v2, ⟨?_, tab.ob, .inr ⟨B, vs', by rw [List.length_set]; exact hv1, rp', by rw [List.length_set]; exact hle.1, by rw [List.length_set]; exact hle.2⟩, tab.old.keep kd kn, fun c hc => tab.far c (Nat.le_trans kd.next hc)⟩, g6, ?_⟩, hmv, fr.trans ((Fr.of0 kr).trans frd), by simp only [↓opStep_eq, ↓reduceIte, ↓EW, EV, Nat.reduceAdd, Nat.reduceEqDiff, Int.reduceEq, Int.reduceLT, Int.reduceLE, Int.reduceNe, seqC, retC, skipC, exitC, blockC, condC, resOf], .inl ⟨rfl, e, pm.mem_iff.1 (List.mem_append_left _ (flat_mem h1e (List.mem_of_getElem? h2e))), het, hek⟩⟩)
    · have e1 : (now.flatten.length : Int) - 1 = ((now.set (idx t k now.length) (es.eraseIdx j)).flatten.length : Int) := by omega
      rw [e1] at hb'
      exact hb'
    · exact (without_of (pm.symm.trans p6) ⟨het, hek⟩ hu).symm
end Go.Proofs.YtbdmhdidehfmoaaDoor
