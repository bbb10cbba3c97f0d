import Derived.Test.YtilpiiafjehbnaaDoorXbQ
set_option linter.unusedSimpArgs false
set_option linter.unusedVariables false
namespace Go.Proofs.YtilpiiafjehbnaaDoor
open Go.Ev

section
variable {L n : Nat} {tm : T Value} {h : H} {b : Nat} {K : KE} {r : Rq}
theorem reg6_17 (hL : 2000 ≤ L) (hsec : r.sec.size ≤ 1000) (e2 : r.kind = 2) (hb : Has h b (.rw r.cells (some 28))) (t1 : tg tm 1 = .pointer (some ⟨b, 0, none⟩)) :
    (K .norm (T.set tm 92 (.bool (!fitsB r))) [] h = true) → r6_17 (CF L (n + 1)) L tm [] h K = true := by
  intro hK
  have hl : ∀ o s, loadOne h (.pointer (some ⟨b, o, s⟩)) = r.cells[o]? := fun o s => loadOne_has hb rfl
  unfold fitsB at hK
  rw [decide_eq_true e2] at hK
  by_cases g2 : r.ten < 0
  · rw [decide_eq_false (show ¬ 0 ≤ r.ten by omega)] at hK
    simp only [↓opStep_eq, ↓reduceIte, ↓EW, EV, Nat.reduceAdd, Nat.reduceEqDiff, Int.reduceEq, Int.reduceLT, Int.reduceLE, Int.reduceNe, seqC, retC, skipC, exitC, blockC, condC, r6_17, t1, hl, rcell, g2]
    exact hK
  rw [decide_eq_true (show 0 ≤ r.ten by omega)] at hK
  by_cases g3 : 4 ≤ r.ten
  · rw [decide_eq_false (show ¬ r.ten < 4 by omega)] at hK
    simp only [↓opStep_eq, ↓reduceIte, ↓EW, EV, Nat.reduceAdd, Nat.reduceEqDiff, Int.reduceEq, Int.reduceLT, Int.reduceLE, Int.reduceNe, seqC, retC, skipC, exitC, blockC, condC, r6_17, t1, hl, rcell, g2, g3]
    exact hK
  rw [decide_eq_true (show r.ten < 4 by omega)] at hK
  simp only [↓opStep_eq, ↓reduceIte, ↓EW, EV, Nat.reduceAdd, Nat.reduceEqDiff, Int.reduceEq, Int.reduceLT, Int.reduceLE, Int.reduceNe, seqC, retC, skipC, exitC, blockC, condC, r6_17, t1, hl, rcell, g2, g3]
  refine refplain_law L n 16 (p := r.sec.data.toList) (by show r.sec.size < L; omega) (by show r.sec.size ≤ 2000; omega) _ _ fun v h2 hq => ?_
  obtain ⟨rfl, rfl⟩ := hq
  simp only [↓opStep_eq, ↓reduceIte, ↓EW, EV, Nat.reduceAdd, Nat.reduceEqDiff, Int.reduceEq, Int.reduceLT, Int.reduceLE, Int.reduceNe, seqC, retC, skipC, exitC, blockC, condC]
  exact hK
end
theorem reads_lit {h : H} {b : Nat} {l : List UInt8} {ty : Option TypeId} (hb : Has h b (.rw (l.map bv) ty)) : Reads h (.slice (some ⟨b, 0, none⟩) l.length l.length) l :=
  .inr ⟨_, _, _, _, _, rfl, hb, rfl, by simp, by rw [List.drop_zero, List.take_of_length_le (by simp)]⟩
theorem refwrite_law (L n : Nat) (hL : 2000 ≤ L) {r : Rq} {k : Nat} {h : H} (hkk : r.c.kind = (k : Int)) (hf : r.fit) (hs : Strs h r.c.kv r.c.keys) :
    Sp (CF L (n + 22)) 6 [r.v] h (OutQ r k h) := by
  have hcc : (Value.cells r.v).toList = r.cells := rfl
  have k1 := Keep.new h (.rw r.cells (some 28))
  have b1 := Has.new h (.rw r.cells (some 28))
  have hs1 := hs.keep0 k1
  refine Sp.body f6 (by simp) ?_
  unfold c6
  refine C.seq fun K hK => ?_
  simp only [↓opStep_eq, ↓reduceIte, ↓EW, EV, Nat.reduceAdd, Nat.reduceEqDiff, Int.reduceEq, Int.reduceLT, Int.reduceLE, Int.reduceNe, seqC, retC, skipC, exitC, blockC, condC, r6_0, hcc]
  generalize h.new (.rw r.cells (some 28)) = h1 at *
  have nil : ∀ (tm : T Value) (h' : H) (e : Int), outT r k = ([], e) → tg tm 2 = .slice none 0 0 → tg tm 3 = .int .i64 e → Keep nobody h h' → ∃ l, q6.f tm h' = some l ∧ OutQ r k h (resOf l) h' := fun tm h' e ho t2 t3 kk => by
    refine ⟨_, rfl, ⟨.slice none 0 0, ?_, ?_⟩, kk⟩
    · simp only [resOf, t2, t3, ho]
    · rw [ho]; exact .inl ⟨rfl, rfl⟩
  refine hK .norm _ _ (C.seq (C.seq fun K hK => ?_))
  rw [box_f]
  refine reg6_1 (n := n + 19) (by omega) hs1 b1 (by simp only [↓opStep_eq, ↓reduceIte, ↓EW, EV, Nat.reduceAdd, Nat.reduceEqDiff, Int.reduceEq, Int.reduceLT, Int.reduceLE, Int.reduceNe, seqC, retC, skipC, exitC, blockC, condC]) fun h2 k2 => ?_
  have b2 := b1.keep0 k2
  have hs2 := hs1.keep0 k2
  have k12 := k1.then k2
  have ld : ∀ o s, loadOne h2 (.pointer (some ⟨h.next, o, s⟩)) = r.cells[o]? := fun o s => loadOne_has b2 rfl
  cases gA : fitsA r with
  | false =>
    have ho : outT r k = ([], 8) := by unfold outT; rw [if_pos gA]
    refine hK .norm _ _ (C.cond true (by simp only [↓opStep_eq, ↓reduceIte, ↓EW, EV, Nat.reduceAdd, Nat.reduceEqDiff, Int.reduceEq, Int.reduceLT, Int.reduceLE, Int.reduceNe, seqC, retC, skipC, exitC, blockC, condC]) (fun _ => C.seq fun K hK => ?_) fun g => by cases g)
    simp only [↓opStep_eq, ↓reduceIte, ↓EW, EV, Nat.reduceAdd, Nat.reduceEqDiff, Int.reduceEq, Int.reduceLT, Int.reduceLE, Int.reduceNe, seqC, retC, skipC, exitC, blockC, condC, r6_2]
    refine hK .norm _ _ (C.ret ⟨.inr rfl, ?_⟩)
    refine nil _ _ 8 ho ?_ ?_ k12 <;> simp only [↓opStep_eq, ↓reduceIte, ↓EW, EV, Nat.reduceAdd, Nat.reduceEqDiff, Int.reduceEq, Int.reduceLT, Int.reduceLE, Int.reduceNe, seqC, retC, skipC, exitC, blockC, condC]
  | true =>
    have nA : ¬ fitsA r = false := by rw [gA]; simp
    refine hK .norm _ _ (C.cond false (by simp only [↓opStep_eq, ↓reduceIte, ↓EW, EV, Nat.reduceAdd, Nat.reduceEqDiff, Int.reduceEq, Int.reduceLT, Int.reduceLE, Int.reduceNe, seqC, retC, skipC, exitC, blockC, condC]) (fun g => by cases g) fun _ => C.skip (C.seq (C.seq fun K hK => ?_)))
    simp only [↓opStep_eq, ↓reduceIte, ↓EW, EV, Nat.reduceAdd, Nat.reduceEqDiff, Int.reduceEq, Int.reduceLT, Int.reduceLE, Int.reduceNe, seqC, retC, skipC, exitC, blockC, condC, r6_3, ld, rcell]
    refine hK .norm _ _ (C.block (C.seq fun K hK => ?_))
    by_cases e : r.kind = 1
    · simp only [↓opStep_eq, ↓reduceIte, ↓EW, EV, Nat.reduceAdd, Nat.reduceEqDiff, Int.reduceEq, Int.reduceLT, Int.reduceLE, Int.reduceNe, seqC, retC, skipC, exitC, blockC, condC, r6_4, e]
      refine hK .norm _ _ (C.cond true (by simp only [↓opStep_eq, ↓reduceIte, ↓EW, EV, Nat.reduceAdd, Nat.reduceEqDiff, Int.reduceEq, Int.reduceLT, Int.reduceLE, Int.reduceNe, seqC, retC, skipC, exitC, blockC, condC]) (fun _ => C.seq fun K hK => ?_) fun g => by cases g)
      have mm := hf.sl.many
      simp only [↓opStep_eq, ↓reduceIte, ↓EW, EV, Nat.reduceAdd, Nat.reduceEqDiff, Int.reduceEq, Int.reduceLT, Int.reduceLE, Int.reduceNe, seqC, retC, skipC, exitC, blockC, condC, r6_5, lag81 b2]
      refine refcheck_law L (n + 17) (by omega) hkk hs2 (by omega) _ fun x h4 hq => ?_
      obtain ⟨rfl, k4⟩ := hq
      have b4 := b2.keep0 k4
      have hs4 := hs2.keep0 k4
      have k14 := k12.then k4
      have ld4 : ∀ o s, loadOne h4 (.pointer (some ⟨h.next, o, s⟩)) = r.cells[o]? := fun o s => loadOne_has b4 rfl
      refine hK .norm _ _ (C.seq (C.seq fun K hK => ?_))
      cases hm : mayB r.c k with
      | false =>
        have ho : outT r k = ([], 100) := by unfold outT; rw [if_neg nA, if_pos e, if_pos hm]
        simp only [↓opStep_eq, ↓reduceIte, ↓EW, EV, Nat.reduceAdd, Nat.reduceEqDiff, Int.reduceEq, Int.reduceLT, Int.reduceLE, Int.reduceNe, seqC, retC, skipC, exitC, blockC, condC, r6_6]
        refine hK .norm _ _ (C.cond true (by simp only [↓opStep_eq, ↓reduceIte, ↓EW, EV, Nat.reduceAdd, Nat.reduceEqDiff, Int.reduceEq, Int.reduceLT, Int.reduceLE, Int.reduceNe, seqC, retC, skipC, exitC, blockC, condC]) (fun _ => C.seq fun K hK => ?_) fun g => by cases g)
        simp only [↓opStep_eq, ↓reduceIte, ↓EW, EV, Nat.reduceAdd, Nat.reduceEqDiff, Int.reduceEq, Int.reduceLT, Int.reduceLE, Int.reduceNe, seqC, retC, skipC, exitC, blockC, condC, r6_7]
        refine hK .norm _ _ (C.ret ⟨.inr rfl, ?_⟩)
        refine nil _ _ 100 ho ?_ ?_ k14 <;> simp only [↓opStep_eq, ↓reduceIte, ↓EW, EV, Nat.reduceAdd, Nat.reduceEqDiff, Int.reduceEq, Int.reduceLT, Int.reduceLE, Int.reduceNe, seqC, retC, skipC, exitC, blockC, condC]
      | true =>
        have may := may_of hm
        have nm : ¬ mayB r.c k = false := by rw [hm]; simp
        have bad : (decide (r.c.ten = 0) && keysOk r.c) = false → outT r k = ([], 8) := fun hko => by unfold outT; rw [if_neg nA, if_pos e, if_neg nm, if_pos hko]
        simp only [↓opStep_eq, ↓reduceIte, ↓EW, EV, Nat.reduceAdd, Nat.reduceEqDiff, Int.reduceEq, Int.reduceLT, Int.reduceLE, Int.reduceNe, seqC, retC, skipC, exitC, blockC, condC, r6_6]
        refine hK .norm _ _ (C.cond false (by simp only [↓opStep_eq, ↓reduceIte, ↓EW, EV, Nat.reduceAdd, Nat.reduceEqDiff, Int.reduceEq, Int.reduceLT, Int.reduceLE, Int.reduceNe, seqC, retC, skipC, exitC, blockC, condC]) (fun g => by cases g) fun _ => C.skip (C.seq (C.seq fun K hK => ?_)))
        simp only [↓opStep_eq, ↓reduceIte, ↓EW, EV, Nat.reduceAdd, Nat.reduceEqDiff, Int.reduceEq, Int.reduceLT, Int.reduceLE, Int.reduceNe, seqC, retC, skipC, exitC, blockC, condC, r6_8]
        refine hK .norm _ _ (C.block ?_)
        refine (C.loop (L := L) (fun kk tm h3 => ∃ i : Nat, kk = r.c.keys.length - i ∧ i ≤ r.c.keys.length ∧ tg tm 1 = .pointer (some ⟨h.next, 0, none⟩) ∧ tg tm 5 = .int .i64 (i : Int) ∧ (r.c.keys.take i).all (okW 32) = true ∧ h3 = h4) r.c.keys.length (by omega)
          ⟨0, rfl, Nat.zero_le _, by simp only [↓opStep_eq, ↓reduceIte, ↓EW, EV, Nat.reduceAdd, Nat.reduceEqDiff, Int.reduceEq, Int.reduceLT, Int.reduceLE, Int.reduceNe, seqC, retC, skipC, exitC, blockC, condC], by simp only [↓opStep_eq, ↓reduceIte, ↓EW, EV, Nat.reduceAdd, Nat.reduceEqDiff, Int.reduceEq, Int.reduceLT, Int.reduceLE, Int.reduceNe, seqC, retC, skipC, exitC, blockC, condC]; rfl, rfl, rfl⟩ ?_ : C (loopB l6_13) _ L _ h4 fun e tm h3 => h3 = h4 ∧ (e = .exit 1 ∧ tg tm 1 = .pointer (some ⟨h.next, 0, none⟩) ∧ keysOk r.c = true ∨ e = .ret ∧ tg tm 2 = .slice none 0 0 ∧ tg tm 3 = .int .i64 8 ∧ keysOk r.c = false)).mono ?_
        · rintro kk tm h3 ⟨i, rfl, hil, t1, t5, hall, rfl⟩
          unfold l6_13
          refine C.seq (C.seq fun K hK => ?_)
          by_cases g : i < r.c.keys.length
          · have g' : (i : Int) < (r.c.keys.length : Int) := by omega
            obtain ⟨p, hp⟩ : ∃ p, r.c.keys[i]? = some p := ⟨_, List.getElem?_eq_getElem g⟩
            obtain ⟨bb, oo, ix, lx⟩ := hs4.at hp
            have pl := may.len p (List.mem_of_getElem? hp)
            simp only [↓opStep_eq, ↓reduceIte, ↓EW, EV, Nat.reduceAdd, Nat.reduceEqDiff, Int.reduceEq, Int.reduceLT, Int.reduceLE, Int.reduceNe, seqC, retC, skipC, exitC, blockC, condC, r6_9, t1, t5, ld4, rcell, hs4.len, decide_eq_true g']
            refine hK .norm _ _ (C.cond true (by simp only [↓opStep_eq, ↓reduceIte, ↓EW, EV, Nat.reduceAdd, Nat.reduceEqDiff, Int.reduceEq, Int.reduceLT, Int.reduceLE, Int.reduceNe, seqC, retC, skipC, exitC, blockC, condC]) (fun _ => C.skip (C.seq (C.block (C.seq fun K hK => ?_)))) fun g => by cases g)
            simp only [↓opStep_eq, ↓reduceIte, ↓EW, EV, Nat.reduceAdd, Nat.reduceEqDiff, Int.reduceEq, Int.reduceLT, Int.reduceLE, Int.reduceNe, seqC, retC, skipC, exitC, blockC, condC, r6_11, t1, t5, ld4, rcell, ix, lx]
            refine refplain_law L (n + 20) 32 (p := p) (by omega) (by omega) _ _ fun v h2 hq => ?_
            obtain ⟨rfl, rfl⟩ := hq
            simp only [↓opStep_eq, ↓reduceIte, ↓EW, EV, Nat.reduceAdd, Nat.reduceEqDiff, Int.reduceEq, Int.reduceLT, Int.reduceLE, Int.reduceNe, seqC, retC, skipC, exitC, blockC, condC]
            cases hw : okW 32 p with
            | false =>
              refine hK .norm _ _ (C.cond true (by simp only [↓opStep_eq, ↓reduceIte, ↓EW, EV, Nat.reduceAdd, Nat.reduceEqDiff, Int.reduceEq, Int.reduceLT, Int.reduceLE, Int.reduceNe, seqC, retC, skipC, exitC, blockC, condC]) (fun _ => C.seq fun K hK => ?_) fun g => by cases g)
              simp only [↓opStep_eq, ↓reduceIte, ↓EW, EV, Nat.reduceAdd, Nat.reduceEqDiff, Int.reduceEq, Int.reduceLT, Int.reduceLE, Int.reduceNe, seqC, retC, skipC, exitC, blockC, condC, r6_12]
              refine hK .norm _ _ (C.ret ⟨rfl, .inr ⟨rfl, by simp only [↓opStep_eq, ↓reduceIte, ↓EW, EV, Nat.reduceAdd, Nat.reduceEqDiff, Int.reduceEq, Int.reduceLT, Int.reduceLE, Int.reduceNe, seqC, retC, skipC, exitC, blockC, condC], by simp only [↓opStep_eq, ↓reduceIte, ↓EW, EV, Nat.reduceAdd, Nat.reduceEqDiff, Int.reduceEq, Int.reduceLT, Int.reduceLE, Int.reduceNe, seqC, retC, skipC, exitC, blockC, condC], List.all_eq_false.2 ⟨p, List.mem_of_getElem? hp, by simp [hw]⟩⟩⟩)
            | true =>
              refine hK .norm _ _ (C.cond false (by simp only [↓opStep_eq, ↓reduceIte, ↓EW, EV, Nat.reduceAdd, Nat.reduceEqDiff, Int.reduceEq, Int.reduceLT, Int.reduceLE, Int.reduceNe, seqC, retC, skipC, exitC, blockC, condC]) (fun g => by cases g) fun _ => C.skip fun K hK => ?_)
              simp only [↓opStep_eq, ↓reduceIte, ↓EW, EV, Nat.reduceAdd, Nat.reduceEqDiff, Int.reduceEq, Int.reduceLT, Int.reduceLE, Int.reduceNe, seqC, retC, skipC, exitC, blockC, condC, r6_10, t5, wrap_succ i (by omega)]
              refine hK .norm _ _ ⟨r.c.keys.length - (i + 1), by omega, i + 1, rfl, by omega, by simp only [↓opStep_eq, ↓reduceIte, ↓EW, EV, Nat.reduceAdd, Nat.reduceEqDiff, Int.reduceEq, Int.reduceLT, Int.reduceLE, Int.reduceNe, seqC, retC, skipC, exitC, blockC, condC, t1], by simp only [↓opStep_eq, ↓reduceIte, ↓EW, EV, Nat.reduceAdd, Nat.reduceEqDiff, Int.reduceEq, Int.reduceLT, Int.reduceLE, Int.reduceNe, seqC, retC, skipC, exitC, blockC, condC], ?_, rfl⟩
              rw [List.take_add_one, hp, List.all_append, hall]
              simp [hw]
          · have g' : ¬ (i : Int) < (r.c.keys.length : Int) := by omega
            obtain rfl : i = r.c.keys.length := by omega
            rw [List.take_length] at hall
            simp only [↓opStep_eq, ↓reduceIte, ↓EW, EV, Nat.reduceAdd, Nat.reduceEqDiff, Int.reduceEq, Int.reduceLT, Int.reduceLE, Int.reduceNe, seqC, retC, skipC, exitC, blockC, condC, r6_9, t1, t5, ld4, rcell, hs4.len, decide_eq_false g']
            refine hK .norm _ _ (C.cond false (by simp only [↓opStep_eq, ↓reduceIte, ↓EW, EV, Nat.reduceAdd, Nat.reduceEqDiff, Int.reduceEq, Int.reduceLT, Int.reduceLE, Int.reduceNe, seqC, retC, skipC, exitC, blockC, condC]) (fun g => by cases g) fun _ => C.exit ⟨rfl, .inl ⟨rfl, by simp only [↓opStep_eq, ↓reduceIte, ↓EW, EV, Nat.reduceAdd, Nat.reduceEqDiff, Int.reduceEq, Int.reduceLT, Int.reduceLE, Int.reduceNe, seqC, retC, skipC, exitC, blockC, condC, t1], hall⟩⟩)
        · rintro ex tm h3 ⟨rfl, (⟨rfl, t1, hko⟩ | ⟨rfl, t2, t3, hko⟩)⟩
          · show if 1 = 1 then _ else _
            rw [if_pos rfl]
            refine C.seq (C.seq fun K hK => ?_)
            by_cases gt : r.c.ten = 0
            · have ho : outT r k = (lineL r.c k, 0) := by unfold outT; rw [if_neg nA, if_pos e, if_neg nm, if_neg (by rw [hko, decide_eq_true gt]; simp)]
              simp only [↓opStep_eq, ↓reduceIte, ↓EW, EV, Nat.reduceAdd, Nat.reduceEqDiff, Int.reduceEq, Int.reduceLT, Int.reduceLE, Int.reduceNe, seqC, retC, skipC, exitC, blockC, condC, r6_13, t1, ld4, rcell, gt]
              refine hK .norm _ _ (C.cond false (by simp only [↓opStep_eq, ↓reduceIte, ↓EW, EV, Nat.reduceAdd, Nat.reduceEqDiff, Int.reduceEq, Int.reduceLT, Int.reduceLE, Int.reduceNe, seqC, retC, skipC, exitC, blockC, condC]) (fun g => by cases g) fun _ => C.skip (C.seq fun K hK => ?_))
              simp only [↓opStep_eq, ↓reduceIte, ↓EW, EV, Nat.reduceAdd, Nat.reduceEqDiff, Int.reduceEq, Int.reduceLT, Int.reduceLE, Int.reduceNe, seqC, retC, skipC, exitC, blockC, condC, r6_15, t1, lag81 b4]
              refine line_law L n hL hkk may hf.c hs4 _ fun x h5 hq => ?_
              obtain ⟨rfl, k5⟩ := hq
              obtain ⟨cap, mb⟩ := mkBytes_eq h5.next (lineL r.c k)
              simp only [↓opStep_eq, ↓reduceIte, ↓EW, EV, Nat.reduceAdd, Nat.reduceEqDiff, Int.reduceEq, Int.reduceLT, Int.reduceLE, Int.reduceNe, seqC, retC, skipC, exitC, blockC, condC, mb]
              refine hK .norm _ _ (C.ret ⟨.inr rfl, _, rfl, ⟨.slice (some ⟨h5.next, 0, none⟩) (lineL r.c k).length cap, ?_, ?_⟩, (k14.then k5).then (.new _ _)⟩)
              · simp only [↓opStep_eq, ↓reduceIte, ↓EW, EV, Nat.reduceAdd, Nat.reduceEqDiff, Int.reduceEq, Int.reduceLT, Int.reduceLE, Int.reduceNe, seqC, retC, skipC, exitC, blockC, condC, resOf, ho]
              · rw [ho]; exact reads_new _ _ _ _
            · have ho := bad (by rw [decide_eq_false gt]; rfl)
              simp only [↓opStep_eq, ↓reduceIte, ↓EW, EV, Nat.reduceAdd, Nat.reduceEqDiff, Int.reduceEq, Int.reduceLT, Int.reduceLE, Int.reduceNe, seqC, retC, skipC, exitC, blockC, condC, r6_13, t1, ld4, rcell, gt]
              refine hK .norm _ _ (C.cond true (by simp only [↓opStep_eq, ↓reduceIte, ↓EW, EV, Nat.reduceAdd, Nat.reduceEqDiff, Int.reduceEq, Int.reduceLT, Int.reduceLE, Int.reduceNe, seqC, retC, skipC, exitC, blockC, condC]) (fun _ => C.seq fun K hK => ?_) fun g => by cases g)
              simp only [↓opStep_eq, ↓reduceIte, ↓EW, EV, Nat.reduceAdd, Nat.reduceEqDiff, Int.reduceEq, Int.reduceLT, Int.reduceLE, Int.reduceNe, seqC, retC, skipC, exitC, blockC, condC, r6_14]
              refine hK .norm _ _ (C.ret ⟨.inr rfl, ?_⟩)
              refine nil _ _ 8 ho ?_ ?_ k14 <;> simp only [↓opStep_eq, ↓reduceIte, ↓EW, EV, Nat.reduceAdd, Nat.reduceEqDiff, Int.reduceEq, Int.reduceLT, Int.reduceLE, Int.reduceNe, seqC, retC, skipC, exitC, blockC, condC]
          · exact ⟨.inr rfl, nil _ _ 8 (bad (by rw [hko, Bool.and_false])) t2 t3 k14⟩
    simp only [↓opStep_eq, ↓reduceIte, ↓EW, EV, Nat.reduceAdd, Nat.reduceEqDiff, Int.reduceEq, Int.reduceLT, Int.reduceLE, Int.reduceNe, seqC, retC, skipC, exitC, blockC, condC, r6_4, e]
    refine hK .norm _ _ (C.cond false (by simp only [↓opStep_eq, ↓reduceIte, ↓EW, EV, Nat.reduceAdd, Nat.reduceEqDiff, Int.reduceEq, Int.reduceLT, Int.reduceLE, Int.reduceNe, seqC, retC, skipC, exitC, blockC, condC]) (fun g => by cases g) fun _ => C.seq fun K hK => ?_)
    by_cases e2 : r.kind = 2
    · simp only [↓opStep_eq, ↓reduceIte, ↓EW, EV, Nat.reduceAdd, Nat.reduceEqDiff, Int.reduceEq, Int.reduceLT, Int.reduceLE, Int.reduceNe, seqC, retC, skipC, exitC, blockC, condC, r6_16, e2]
      refine hK .norm _ _ (C.cond true (by simp only [↓opStep_eq, ↓reduceIte, ↓EW, EV, Nat.reduceAdd, Nat.reduceEqDiff, Int.reduceEq, Int.reduceLT, Int.reduceLE, Int.reduceNe, seqC, retC, skipC, exitC, blockC, condC]) (fun _ => C.seq (C.seq fun K hK => ?_)) fun g => by cases g)
      rw [box_f]
      refine reg6_17 (n := n + 20) hL hf.sec e2 b2 (by simp only [↓opStep_eq, ↓reduceIte, ↓EW, EV, Nat.reduceAdd, Nat.reduceEqDiff, Int.reduceEq, Int.reduceLT, Int.reduceLE, Int.reduceNe, seqC, retC, skipC, exitC, blockC, condC]) ?_
      cases gB : fitsB r with
      | false =>
        have ho : outT r k = ([], 8) := by unfold outT; rw [if_neg nA, if_neg e, if_pos e2, if_pos gB]
        refine hK .norm _ _ (C.cond true (by simp only [↓opStep_eq, ↓reduceIte, ↓EW, EV, Nat.reduceAdd, Nat.reduceEqDiff, Int.reduceEq, Int.reduceLT, Int.reduceLE, Int.reduceNe, seqC, retC, skipC, exitC, blockC, condC]) (fun _ => C.seq fun K hK => ?_) fun g => by cases g)
        simp only [↓opStep_eq, ↓reduceIte, ↓EW, EV, Nat.reduceAdd, Nat.reduceEqDiff, Int.reduceEq, Int.reduceLT, Int.reduceLE, Int.reduceNe, seqC, retC, skipC, exitC, blockC, condC, r6_18]
        refine hK .norm _ _ (C.ret ⟨.inr rfl, ?_⟩)
        refine nil _ _ 8 ho ?_ ?_ k12 <;> simp only [↓opStep_eq, ↓reduceIte, ↓EW, EV, Nat.reduceAdd, Nat.reduceEqDiff, Int.reduceEq, Int.reduceLT, Int.reduceLE, Int.reduceNe, seqC, retC, skipC, exitC, blockC, condC]
      | true =>
        have ho : outT r k = (userL r, 0) := by unfold outT; rw [if_neg nA, if_neg e, if_pos e2, if_neg (by rw [gB]; simp)]
        have hB := gB
        unfold fitsB at hB
        rw [decide_eq_true e2] at hB
        simp only [Bool.not_true, Bool.false_or, Bool.and_eq_true, decide_eq_true_eq] at hB
        obtain ⟨⟨t0, t4⟩, hw⟩ := hB
        have hsl : r.sec.size ≤ 16 := by
          unfold okW at hw
          simp only [Bool.and_eq_true, decide_eq_true_eq, list_size] at hw
          have := hw.2.2; omega
        refine hK .norm _ _ (C.cond false (by simp only [↓opStep_eq, ↓reduceIte, ↓EW, EV, Nat.reduceAdd, Nat.reduceEqDiff, Int.reduceEq, Int.reduceLT, Int.reduceLE, Int.reduceNe, seqC, retC, skipC, exitC, blockC, condC]) (fun g => by cases g) fun _ => C.skip (C.seq fun K hK => ?_))
        have k0 := keep_room h2 13
        have b3 := b2.keep0 k0
        have rt : r.ten = ((r.ten.toNat : Nat) : Int) := by omega
        have rcell' : r.cells = [.int .u8 r.kind, .int .u8 r.c.kind, .int .i64 r.c.ten, r.c.kv, .string r.c.val, .int .u32 r.c.flags, .int .i64 r.c.fo, .int .u64 r.c.uniq, .int .u64 r.c.by', .int .i64 ((r.ten.toNat : Nat) : Int), .string r.sec, .bool r.on, .bool r.close] := by rw [rcell, ← rt]
        have ldg : ∀ h', Has h' h.next (.rw r.cells (some 28)) → ∀ o s, loadOne h' (.pointer (some ⟨h.next, o, s⟩)) = r.cells[o]? := fun h' hb o s => loadOne_has hb rfl
        have hso := hO_self (veq_str r.sec)
        have ti : toInt .u64 (.int .i64 ((r.ten.toNat : Nat) : Int)) = some (.int .u64 ((r.ten.toNat : Nat) : Int)) := by rw [toInt_int, wrap_u64 _ (by omega)]
        have dl := dec_len 19 r.ten.toNat (by omega)
        simp only [↓opStep_eq, ↓reduceIte, ↓EW, EV, Nat.reduceAdd, Nat.reduceEqDiff, Int.reduceEq, Int.reduceLT, Int.reduceLE, Int.reduceNe, seqC, retC, skipC, exitC, blockC, condC, r6_19, ldg _ b3, rcell', ti]
        refine text20 L (n + 1) (by omega) _ _ fun x h4 hq => ?_
        obtain ⟨rfl, rfl⟩ := hq
        have c1 : binV Tryd.prog .add 9 true (.string (strB [117, 115, 101, 114, 32])) (.string ⟨(dec r.ten.toNat).toArray⟩) = some (sv ([117, 115, 101, 114, 32] ++ dec r.ten.toNat)) := cat_sv 9 true [117, 115, 101, 114, 32] _ (by simp only [List.length_cons, List.length_nil]; omega)
        have c2 : binV Tryd.prog .add 9 true (sv ([117, 115, 101, 114, 32] ++ dec r.ten.toNat)) (.string (strB [32])) = some (sv ([117, 115, 101, 114, 32] ++ dec r.ten.toNat ++ [32])) := cat_sv 9 true _ [32] (by simp only [List.length_append, List.length_cons, List.length_nil]; omega)
        have c3 : binV Tryd.prog .add 9 false (sv ([117, 115, 101, 114, 32] ++ dec r.ten.toNat ++ [32])) (.string r.sec) = some (sv ([117, 115, 101, 114, 32] ++ dec r.ten.toNat ++ [32] ++ r.sec.data.toList)) := cat_str 9 false _ _ (by simp only [List.length_append, List.length_cons, List.length_nil]; omega)
        have c4 : binV Tryd.prog .add 9 true (sv ([117, 115, 101, 114, 32] ++ dec r.ten.toNat ++ [32] ++ r.sec.data.toList)) (.string (strB [13, 10])) = some (sv ([117, 115, 101, 114, 32] ++ dec r.ten.toNat ++ [32] ++ r.sec.data.toList ++ [13, 10])) := cat_sv 9 true _ [13, 10] (by simp only [List.length_append, list_size, List.length_cons, List.length_nil]; omega)
        have hu : [117, 115, 101, 114, 32] ++ dec r.ten.toNat ++ [32] ++ r.sec.data.toList ++ [13, 10] = userL r := by simp [userL, joinR]
        rw [hu] at c4
        obtain ⟨cap, mb⟩ := mkBytes_eq (h2.next + 10) (userL r)
        simp only [↓opStep_eq, ↓reduceIte, ↓EW, EV, Nat.reduceAdd, Nat.reduceEqDiff, Int.reduceEq, Int.reduceLT, Int.reduceLE, Int.reduceNe, seqC, retC, skipC, exitC, blockC, condC, ldg _ b3, rcell', hso, Bool.and_true, c1, c2, c3, c4, mb]
        have kp := Keep.put (⟨h2.objs, h2.next + 13⟩ : H) (h2.next + 10) (.op ((userL r).map bv) 1 (some 5))
        have bp : Has ((⟨h2.objs, h2.next + 13⟩ : H).put (h2.next + 10) (.op ((userL r).map bv) 1 (some 5))) (h2.next + 10) (.op ((userL r).map bv) 1 (some 5)) := Has.put (by show h2.next + 10 < h2.next + 13; omega)
        refine hK .norm _ _ (C.ret ⟨.inr rfl, _, rfl, ⟨.slice (some ⟨h2.next + 10, 0, none⟩) (userL r).length cap, ?_, ?_⟩, k12.then (k0.trans kp fun k hk e => by omega)⟩)
        · simp only [↓opStep_eq, ↓reduceIte, ↓EW, EV, Nat.reduceAdd, Nat.reduceEqDiff, Int.reduceEq, Int.reduceLT, Int.reduceLE, Int.reduceNe, seqC, retC, skipC, exitC, blockC, condC, resOf, ho]
        · rw [ho]
          exact .inr ⟨_, _, _, _, _, rfl, bp, rfl, by simp, by rw [List.drop_zero, List.take_of_length_le (by simp)]⟩
    simp only [↓opStep_eq, ↓reduceIte, ↓EW, EV, Nat.reduceAdd, Nat.reduceEqDiff, Int.reduceEq, Int.reduceLT, Int.reduceLE, Int.reduceNe, seqC, retC, skipC, exitC, blockC, condC, r6_16, e2]
    refine hK .norm _ _ (C.cond false (by simp only [↓opStep_eq, ↓reduceIte, ↓EW, EV, Nat.reduceAdd, Nat.reduceEqDiff, Int.reduceEq, Int.reduceLT, Int.reduceLE, Int.reduceNe, seqC, retC, skipC, exitC, blockC, condC]) (fun g => by cases g) fun _ => C.seq fun K hK => ?_)
    -- a row of bytes that stands in the text
    have lit : ∀ (bytes : List UInt8) (h4 : H), outT r k = (bytes, 0) → h4 = h2.new (.rw (bytes.map bv) (some 5)) → ∃ h5, markV h4 (.slice (some ⟨h2.next, 0, none⟩) bytes.length bytes.length) = some (.slice (some ⟨h2.next, 0, none⟩) bytes.length bytes.length, h5) ∧ ∀ tm : T Value, tg tm 2 = .slice (some ⟨h2.next, 0, none⟩) bytes.length bytes.length → tg tm 3 = .int .i64 0 → ∃ l, q6.f tm h5 = some l ∧ OutQ r k h (resOf l) h5 := fun bytes h4 ho hh => by
      subst hh
      have bn := Has.new h2 (.rw (bytes.map bv) (some 5))
      obtain ⟨h5, m1, m2⟩ := mark_eq (n := bytes.length) (c := bytes.length) bn
      refine ⟨h5, m1, fun tm t2 t3 => ⟨_, rfl, ⟨.slice (some ⟨h2.next, 0, none⟩) bytes.length bytes.length, ?_, ?_⟩, (k12.then (.new _ _)).then m2⟩⟩
      · simp only [resOf, t2, t3, ho]
      · rw [ho]; exact reads_lit (bn.keep0 m2)
    by_cases e3 : r.kind = 3
    · simp only [↓opStep_eq, ↓reduceIte, ↓EW, EV, Nat.reduceAdd, Nat.reduceEqDiff, Int.reduceEq, Int.reduceLT, Int.reduceLE, Int.reduceNe, seqC, retC, skipC, exitC, blockC, condC, r6_20, e3]
      refine hK .norm _ _ (C.cond true (by simp only [↓opStep_eq, ↓reduceIte, ↓EW, EV, Nat.reduceAdd, Nat.reduceEqDiff, Int.reduceEq, Int.reduceLT, Int.reduceLE, Int.reduceNe, seqC, retC, skipC, exitC, blockC, condC]) (fun _ => C.seq (C.seq fun K hK => ?_)) fun g => by cases g)
      have ho : outT r k = (trackL r.on, 0) := by unfold outT; rw [if_neg nA, if_neg e, if_neg e2, if_pos e3]
      simp only [↓opStep_eq, ↓reduceIte, ↓EW, EV, Nat.reduceAdd, Nat.reduceEqDiff, Int.reduceEq, Int.reduceLT, Int.reduceLE, Int.reduceNe, seqC, retC, skipC, exitC, blockC, condC, r6_21, ld, rcell]
      cases hon : r.on with
      | true =>
        rw [hon] at ho
        obtain ⟨h5, m1, m2⟩ := lit (trackL true) _ ho rfl
        refine hK .norm _ _ (C.cond true (by simp only [↓opStep_eq, ↓reduceIte, ↓EW, EV, Nat.reduceAdd, Nat.reduceEqDiff, Int.reduceEq, Int.reduceLT, Int.reduceLE, Int.reduceNe, seqC, retC, skipC, exitC, blockC, condC]) (fun _ => C.seq fun K hK => ?_) fun g => by cases g)
        have ml : mkLit 5 10 h2.next (fill (repl [(.int .u8 (0))] 10) (pl 1) [(0, (.int .u8 (116))), (1, (.int .u8 (114))), (2, (.int .u8 (97))), (3, (.int .u8 (99))), (4, (.int .u8 (107))), (5, (.int .u8 (32))), (6, (.int .u8 (111))), (7, (.int .u8 (110))), (8, (.int .u8 (13))), (9, (.int .u8 (10)))]) = some (.rw ((trackL true).map bv) (some 5), .slice (some ⟨h2.next, 0, none⟩) (trackL true).length (trackL true).length) := rfl
        simp only [↓opStep_eq, ↓reduceIte, ↓EW, EV, Nat.reduceAdd, Nat.reduceEqDiff, Int.reduceEq, Int.reduceLT, Int.reduceLE, Int.reduceNe, seqC, retC, skipC, exitC, blockC, condC, r6_22, ml, m1]
        refine hK .norm _ _ (C.ret ⟨.inr rfl, m2 _ ?_ ?_⟩) <;> simp only [↓opStep_eq, ↓reduceIte, ↓EW, EV, Nat.reduceAdd, Nat.reduceEqDiff, Int.reduceEq, Int.reduceLT, Int.reduceLE, Int.reduceNe, seqC, retC, skipC, exitC, blockC, condC]
      | false =>
        rw [hon] at ho
        obtain ⟨h5, m1, m2⟩ := lit (trackL false) _ ho rfl
        refine hK .norm _ _ (C.cond false (by simp only [↓opStep_eq, ↓reduceIte, ↓EW, EV, Nat.reduceAdd, Nat.reduceEqDiff, Int.reduceEq, Int.reduceLT, Int.reduceLE, Int.reduceNe, seqC, retC, skipC, exitC, blockC, condC]) (fun g => by cases g) fun _ => C.skip (C.seq fun K hK => ?_))
        have ml : mkLit 5 11 h2.next (fill (repl [(.int .u8 (0))] 11) (pl 1) [(0, (.int .u8 (116))), (1, (.int .u8 (114))), (2, (.int .u8 (97))), (3, (.int .u8 (99))), (4, (.int .u8 (107))), (5, (.int .u8 (32))), (6, (.int .u8 (111))), (7, (.int .u8 (102))), (8, (.int .u8 (102))), (9, (.int .u8 (13))), (10, (.int .u8 (10)))]) = some (.rw ((trackL false).map bv) (some 5), .slice (some ⟨h2.next, 0, none⟩) (trackL false).length (trackL false).length) := rfl
        simp only [↓opStep_eq, ↓reduceIte, ↓EW, EV, Nat.reduceAdd, Nat.reduceEqDiff, Int.reduceEq, Int.reduceLT, Int.reduceLE, Int.reduceNe, seqC, retC, skipC, exitC, blockC, condC, r6_23, ml, m1]
        refine hK .norm _ _ (C.ret ⟨.inr rfl, m2 _ ?_ ?_⟩) <;> simp only [↓opStep_eq, ↓reduceIte, ↓EW, EV, Nat.reduceAdd, Nat.reduceEqDiff, Int.reduceEq, Int.reduceLT, Int.reduceLE, Int.reduceNe, seqC, retC, skipC, exitC, blockC, condC]
    simp only [↓opStep_eq, ↓reduceIte, ↓EW, EV, Nat.reduceAdd, Nat.reduceEqDiff, Int.reduceEq, Int.reduceLT, Int.reduceLE, Int.reduceNe, seqC, retC, skipC, exitC, blockC, condC, r6_20, e3]
    refine hK .norm _ _ (C.cond false (by simp only [↓opStep_eq, ↓reduceIte, ↓EW, EV, Nat.reduceAdd, Nat.reduceEqDiff, Int.reduceEq, Int.reduceLT, Int.reduceLE, Int.reduceNe, seqC, retC, skipC, exitC, blockC, condC]) (fun g => by cases g) fun _ => C.seq fun K hK => ?_)
    by_cases e4 : r.kind = 4
    · simp only [↓opStep_eq, ↓reduceIte, ↓EW, EV, Nat.reduceAdd, Nat.reduceEqDiff, Int.reduceEq, Int.reduceLT, Int.reduceLE, Int.reduceNe, seqC, retC, skipC, exitC, blockC, condC, r6_24, e4]
      refine hK .norm _ _ (C.cond true (by simp only [↓opStep_eq, ↓reduceIte, ↓EW, EV, Nat.reduceAdd, Nat.reduceEqDiff, Int.reduceEq, Int.reduceLT, Int.reduceLE, Int.reduceNe, seqC, retC, skipC, exitC, blockC, condC]) (fun _ => C.seq fun K hK => ?_) fun g => by cases g)
      have ho : outT r k = ([112, 105, 110, 103, 13, 10], 0) := by unfold outT; rw [if_neg nA, if_neg e, if_neg e2, if_neg e3, if_pos e4]
      obtain ⟨h5, m1, m2⟩ := lit [112, 105, 110, 103, 13, 10] _ ho rfl
      have ml : mkLit 5 6 h2.next (fill (repl [(.int .u8 (0))] 6) (pl 1) [(0, (.int .u8 (112))), (1, (.int .u8 (105))), (2, (.int .u8 (110))), (3, (.int .u8 (103))), (4, (.int .u8 (13))), (5, (.int .u8 (10)))]) = some (.rw (([112, 105, 110, 103, 13, 10] : List UInt8).map bv) (some 5), .slice (some ⟨h2.next, 0, none⟩) ([112, 105, 110, 103, 13, 10] : List UInt8).length ([112, 105, 110, 103, 13, 10] : List UInt8).length) := rfl
      simp only [↓opStep_eq, ↓reduceIte, ↓EW, EV, Nat.reduceAdd, Nat.reduceEqDiff, Int.reduceEq, Int.reduceLT, Int.reduceLE, Int.reduceNe, seqC, retC, skipC, exitC, blockC, condC, r6_25, ml, m1]
      refine hK .norm _ _ (C.ret ⟨.inr rfl, m2 _ ?_ ?_⟩) <;> simp only [↓opStep_eq, ↓reduceIte, ↓EW, EV, Nat.reduceAdd, Nat.reduceEqDiff, Int.reduceEq, Int.reduceLT, Int.reduceLE, Int.reduceNe, seqC, retC, skipC, exitC, blockC, condC]
    simp only [↓opStep_eq, ↓reduceIte, ↓EW, EV, Nat.reduceAdd, Nat.reduceEqDiff, Int.reduceEq, Int.reduceLT, Int.reduceLE, Int.reduceNe, seqC, retC, skipC, exitC, blockC, condC, r6_24, e4]
    refine hK .norm _ _ (C.cond false (by simp only [↓opStep_eq, ↓reduceIte, ↓EW, EV, Nat.reduceAdd, Nat.reduceEqDiff, Int.reduceEq, Int.reduceLT, Int.reduceLE, Int.reduceNe, seqC, retC, skipC, exitC, blockC, condC]) (fun g => by cases g) fun _ => C.seq fun K hK => ?_)
    by_cases e5 : r.kind = 5
    · simp only [↓opStep_eq, ↓reduceIte, ↓EW, EV, Nat.reduceAdd, Nat.reduceEqDiff, Int.reduceEq, Int.reduceLT, Int.reduceLE, Int.reduceNe, seqC, retC, skipC, exitC, blockC, condC, r6_26, e5]
      refine hK .norm _ _ (C.cond true (by simp only [↓opStep_eq, ↓reduceIte, ↓EW, EV, Nat.reduceAdd, Nat.reduceEqDiff, Int.reduceEq, Int.reduceLT, Int.reduceLE, Int.reduceNe, seqC, retC, skipC, exitC, blockC, condC]) (fun _ => C.seq fun K hK => ?_) fun g => by cases g)
      have ho : outT r k = ([113, 117, 105, 116, 13, 10], 0) := by unfold outT; rw [if_neg nA, if_neg e, if_neg e2, if_neg e3, if_neg e4, if_pos e5]
      obtain ⟨h5, m1, m2⟩ := lit [113, 117, 105, 116, 13, 10] _ ho rfl
      have ml : mkLit 5 6 h2.next (fill (repl [(.int .u8 (0))] 6) (pl 1) [(0, (.int .u8 (113))), (1, (.int .u8 (117))), (2, (.int .u8 (105))), (3, (.int .u8 (116))), (4, (.int .u8 (13))), (5, (.int .u8 (10)))]) = some (.rw (([113, 117, 105, 116, 13, 10] : List UInt8).map bv) (some 5), .slice (some ⟨h2.next, 0, none⟩) ([113, 117, 105, 116, 13, 10] : List UInt8).length ([113, 117, 105, 116, 13, 10] : List UInt8).length) := rfl
      simp only [↓opStep_eq, ↓reduceIte, ↓EW, EV, Nat.reduceAdd, Nat.reduceEqDiff, Int.reduceEq, Int.reduceLT, Int.reduceLE, Int.reduceNe, seqC, retC, skipC, exitC, blockC, condC, r6_27, ml, m1]
      refine hK .norm _ _ (C.ret ⟨.inr rfl, m2 _ ?_ ?_⟩) <;> simp only [↓opStep_eq, ↓reduceIte, ↓EW, EV, Nat.reduceAdd, Nat.reduceEqDiff, Int.reduceEq, Int.reduceLT, Int.reduceLE, Int.reduceNe, seqC, retC, skipC, exitC, blockC, condC]
    simp only [↓opStep_eq, ↓reduceIte, ↓EW, EV, Nat.reduceAdd, Nat.reduceEqDiff, Int.reduceEq, Int.reduceLT, Int.reduceLE, Int.reduceNe, seqC, retC, skipC, exitC, blockC, condC, r6_26, e5]
    have ho : outT r k = ([], 8) := by unfold outT; rw [if_neg nA, if_neg e, if_neg e2, if_neg e3, if_neg e4, if_neg e5]
    refine hK .norm _ _ (C.cond false (by simp only [↓opStep_eq, ↓reduceIte, ↓EW, EV, Nat.reduceAdd, Nat.reduceEqDiff, Int.reduceEq, Int.reduceLT, Int.reduceLE, Int.reduceNe, seqC, retC, skipC, exitC, blockC, condC]) (fun g => by cases g) fun _ => C.skip (C.seq fun K hK => ?_))
    simp only [↓opStep_eq, ↓reduceIte, ↓EW, EV, Nat.reduceAdd, Nat.reduceEqDiff, Int.reduceEq, Int.reduceLT, Int.reduceLE, Int.reduceNe, seqC, retC, skipC, exitC, blockC, condC, r6_28]
    refine hK .norm _ _ (C.ret ⟨.inr rfl, ?_⟩)
    refine nil _ _ 8 ho ?_ ?_ k12 <;> simp only [↓opStep_eq, ↓reduceIte, ↓EW, EV, Nat.reduceAdd, Nat.reduceEqDiff, Int.reduceEq, Int.reduceLT, Int.reduceLE, Int.reduceNe, seqC, retC, skipC, exitC, blockC, condC]
end Go.Proofs.YtilpiiafjehbnaaDoor

namespace Go.Proofs.YtilpiiafjehbnaaDoor
open Go.Ev

theorem long_law (L n : Nat) (hL : 2000 ≤ L) {c : Cmd} {h : H} (hs : Strs h c.kv c.keys) :
    Sp (CF L (n + 1)) 4 [c.v] h fun v h' => ∃ d : Bool, v = .bool d ∧ (d = false → c.slim) ∧ Keep nobody h h' := by
  have hcc : (Value.cells c.v).toList = c.cells := rfl
  have k1 := Keep.new h (.rw c.cells (some 26))
  have b1 := Has.new h (.rw c.cells (some 26))
  have hs1 := hs.keep0 k1
  refine Sp.body f4 (by simp) ?_
  unfold c4
  refine C.seq fun K hK => ?_
  simp only [↓opStep_eq, ↓reduceIte, ↓EW, EV, Nat.reduceAdd, Nat.reduceEqDiff, Int.reduceEq, Int.reduceLT, Int.reduceLE, Int.reduceNe, seqC, retC, skipC, exitC, blockC, condC, r4_0, hcc]
  generalize h.new (.rw c.cells (some 26)) = h1 at *
  have ld : ∀ o s, loadOne h1 (.pointer (some ⟨h.next, o, s⟩)) = c.cells[o]? := fun o s => loadOne_has b1 rfl
  refine hK .norm _ _ (C.seq fun K hK => ?_)
  simp only [↓opStep_eq, ↓reduceIte, ↓EW, EV, Nat.reduceAdd, Nat.reduceEqDiff, Int.reduceEq, Int.reduceLT, Int.reduceLE, Int.reduceNe, seqC, retC, skipC, exitC, blockC, condC, r4_1, ld, hcell, lenStr_string]
  refine hK .norm _ _ (C.seq (C.seq fun K hK => ?_))
  by_cases g1 : 2000 < (c.val.size : Int)
  · simp only [↓opStep_eq, ↓reduceIte, ↓EW, EV, Nat.reduceAdd, Nat.reduceEqDiff, Int.reduceEq, Int.reduceLT, Int.reduceLE, Int.reduceNe, seqC, retC, skipC, exitC, blockC, condC, r4_2, g1]
    refine hK .norm _ _ (C.cond true (by simp only [↓opStep_eq, ↓reduceIte, ↓EW, EV, Nat.reduceAdd, Nat.reduceEqDiff, Int.reduceEq, Int.reduceLT, Int.reduceLE, Int.reduceNe, seqC, retC, skipC, exitC, blockC, condC]) (fun _ => C.seq fun K hK => ?_) fun g => by cases g)
    simp only [↓opStep_eq, ↓reduceIte, ↓EW, EV, Nat.reduceAdd, Nat.reduceEqDiff, Int.reduceEq, Int.reduceLT, Int.reduceLE, Int.reduceNe, seqC, retC, skipC, exitC, blockC, condC, r4_3]
    refine hK .norm _ _ (C.ret ⟨.inr rfl, _, rfl, true, ?_, (fun e => by cases e), k1⟩)
    simp only [↓opStep_eq, ↓reduceIte, ↓EW, EV, Nat.reduceAdd, Nat.reduceEqDiff, Int.reduceEq, Int.reduceLT, Int.reduceLE, Int.reduceNe, seqC, retC, skipC, exitC, blockC, condC, resOf]
  have hlen := hs1.len
  generalize hll : (c.keys.length : Int) = len at hlen
  by_cases g2 : 40 < len
  · simp only [↓opStep_eq, ↓reduceIte, ↓EW, EV, Nat.reduceAdd, Nat.reduceEqDiff, Int.reduceEq, Int.reduceLT, Int.reduceLE, Int.reduceNe, seqC, retC, skipC, exitC, blockC, condC, r4_2, ld, hcell, hlen, g1, g2]
    refine hK .norm _ _ (C.cond true (by simp only [↓opStep_eq, ↓reduceIte, ↓EW, EV, Nat.reduceAdd, Nat.reduceEqDiff, Int.reduceEq, Int.reduceLT, Int.reduceLE, Int.reduceNe, seqC, retC, skipC, exitC, blockC, condC]) (fun _ => C.seq fun K hK => ?_) fun g => by cases g)
    simp only [↓opStep_eq, ↓reduceIte, ↓EW, EV, Nat.reduceAdd, Nat.reduceEqDiff, Int.reduceEq, Int.reduceLT, Int.reduceLE, Int.reduceNe, seqC, retC, skipC, exitC, blockC, condC, r4_3]
    refine hK .norm _ _ (C.ret ⟨.inr rfl, _, rfl, true, ?_, (fun e => by cases e), k1⟩)
    simp only [↓opStep_eq, ↓reduceIte, ↓EW, EV, Nat.reduceAdd, Nat.reduceEqDiff, Int.reduceEq, Int.reduceLT, Int.reduceLE, Int.reduceNe, seqC, retC, skipC, exitC, blockC, condC, resOf]
  simp only [↓opStep_eq, ↓reduceIte, ↓EW, EV, Nat.reduceAdd, Nat.reduceEqDiff, Int.reduceEq, Int.reduceLT, Int.reduceLE, Int.reduceNe, seqC, retC, skipC, exitC, blockC, condC, r4_2, ld, hcell, hlen, g1, g2]
  subst hll
  refine hK .norm _ _ (C.cond false (by simp only [↓opStep_eq, ↓reduceIte, ↓EW, EV, Nat.reduceAdd, Nat.reduceEqDiff, Int.reduceEq, Int.reduceLT, Int.reduceLE, Int.reduceNe, seqC, retC, skipC, exitC, blockC, condC]) (fun g => by cases g) fun _ => C.skip (C.seq (C.seq fun K hK => ?_)))
  simp only [↓opStep_eq, ↓reduceIte, ↓EW, EV, Nat.reduceAdd, Nat.reduceEqDiff, Int.reduceEq, Int.reduceLT, Int.reduceLE, Int.reduceNe, seqC, retC, skipC, exitC, blockC, condC, r4_4]
  refine hK .norm _ _ (C.block ?_)
  refine (C.loop (L := L) (fun kk tm h3 => ∃ i : Nat, kk = c.keys.length - i ∧ i ≤ c.keys.length ∧ tg tm 1 = .pointer (some ⟨h.next, 0, none⟩) ∧ tg tm 4 = .int .i64 (i : Int) ∧ (∀ p ∈ c.keys.take i, p.length ≤ 200) ∧ h3 = h1) c.keys.length (by omega)
    ⟨0, rfl, Nat.zero_le _, by simp only [↓opStep_eq, ↓reduceIte, ↓EW, EV, Nat.reduceAdd, Nat.reduceEqDiff, Int.reduceEq, Int.reduceLT, Int.reduceLE, Int.reduceNe, seqC, retC, skipC, exitC, blockC, condC], by simp only [↓opStep_eq, ↓reduceIte, ↓EW, EV, Nat.reduceAdd, Nat.reduceEqDiff, Int.reduceEq, Int.reduceLT, Int.reduceLE, Int.reduceNe, seqC, retC, skipC, exitC, blockC, condC]; rfl, by simp, rfl⟩ ?_ : C (loopB l4_9) _ L _ h1 fun e tm h3 => h3 = h1 ∧ (e = .exit 0 ∧ (∀ p ∈ c.keys, p.length ≤ 200) ∨ e = .ret ∧ tg tm 2 = .bool true)).mono ?_
  · rintro kk tm h3 ⟨i, rfl, hil, t1, t4, hall, rfl⟩
    unfold l4_9
    refine C.seq (C.seq fun K hK => ?_)
    by_cases g : i < c.keys.length
    · have g' : (i : Int) < (c.keys.length : Int) := by omega
      obtain ⟨p, hp⟩ : ∃ p, c.keys[i]? = some p := ⟨_, List.getElem?_eq_getElem g⟩
      obtain ⟨bb, oo, ix, lx⟩ := hs1.at hp
      simp only [↓opStep_eq, ↓reduceIte, ↓EW, EV, Nat.reduceAdd, Nat.reduceEqDiff, Int.reduceEq, Int.reduceLT, Int.reduceLE, Int.reduceNe, seqC, retC, skipC, exitC, blockC, condC, r4_5, t1, t4, ld, hcell, hs1.len, decide_eq_true g']
      refine hK .norm _ _ (C.cond true (by simp only [↓opStep_eq, ↓reduceIte, ↓EW, EV, Nat.reduceAdd, Nat.reduceEqDiff, Int.reduceEq, Int.reduceLT, Int.reduceLE, Int.reduceNe, seqC, retC, skipC, exitC, blockC, condC]) (fun _ => C.skip (C.seq (C.block (C.seq fun K hK => ?_)))) fun g => by cases g)
      by_cases gp : 200 < (p.length : Int)
      · simp only [↓opStep_eq, ↓reduceIte, ↓EW, EV, Nat.reduceAdd, Nat.reduceEqDiff, Int.reduceEq, Int.reduceLT, Int.reduceLE, Int.reduceNe, seqC, retC, skipC, exitC, blockC, condC, r4_7, t1, t4, ld, hcell, ix, lx, sv_len, gp]
        refine hK .norm _ _ (C.cond true (by simp only [↓opStep_eq, ↓reduceIte, ↓EW, EV, Nat.reduceAdd, Nat.reduceEqDiff, Int.reduceEq, Int.reduceLT, Int.reduceLE, Int.reduceNe, seqC, retC, skipC, exitC, blockC, condC]) (fun _ => C.seq fun K hK => ?_) fun g => by cases g)
        simp only [↓opStep_eq, ↓reduceIte, ↓EW, EV, Nat.reduceAdd, Nat.reduceEqDiff, Int.reduceEq, Int.reduceLT, Int.reduceLE, Int.reduceNe, seqC, retC, skipC, exitC, blockC, condC, r4_8]
        exact hK .norm _ _ (C.ret ⟨rfl, .inr ⟨rfl, by simp only [↓opStep_eq, ↓reduceIte, ↓EW, EV, Nat.reduceAdd, Nat.reduceEqDiff, Int.reduceEq, Int.reduceLT, Int.reduceLE, Int.reduceNe, seqC, retC, skipC, exitC, blockC, condC]⟩⟩)
      · simp only [↓opStep_eq, ↓reduceIte, ↓EW, EV, Nat.reduceAdd, Nat.reduceEqDiff, Int.reduceEq, Int.reduceLT, Int.reduceLE, Int.reduceNe, seqC, retC, skipC, exitC, blockC, condC, r4_7, t1, t4, ld, hcell, ix, lx, sv_len, gp]
        refine hK .norm _ _ (C.cond false (by simp only [↓opStep_eq, ↓reduceIte, ↓EW, EV, Nat.reduceAdd, Nat.reduceEqDiff, Int.reduceEq, Int.reduceLT, Int.reduceLE, Int.reduceNe, seqC, retC, skipC, exitC, blockC, condC]) (fun g => by cases g) fun _ => C.skip fun K hK => ?_)
        simp only [↓opStep_eq, ↓reduceIte, ↓EW, EV, Nat.reduceAdd, Nat.reduceEqDiff, Int.reduceEq, Int.reduceLT, Int.reduceLE, Int.reduceNe, seqC, retC, skipC, exitC, blockC, condC, r4_6, t4, wrap_succ i (by omega)]
        refine hK .norm _ _ ⟨c.keys.length - (i + 1), by omega, i + 1, rfl, by omega, by simp only [↓opStep_eq, ↓reduceIte, ↓EW, EV, Nat.reduceAdd, Nat.reduceEqDiff, Int.reduceEq, Int.reduceLT, Int.reduceLE, Int.reduceNe, seqC, retC, skipC, exitC, blockC, condC, t1], by simp only [↓opStep_eq, ↓reduceIte, ↓EW, EV, Nat.reduceAdd, Nat.reduceEqDiff, Int.reduceEq, Int.reduceLT, Int.reduceLE, Int.reduceNe, seqC, retC, skipC, exitC, blockC, condC], ?_, rfl⟩
        rw [List.take_add_one, hp]
        intro q hq
        simp only [List.mem_append, Option.toList_some, List.mem_singleton] at hq
        rcases hq with hq | rfl
        · exact hall q hq
        · omega
    · have g' : ¬ (i : Int) < (c.keys.length : Int) := by omega
      obtain rfl : i = c.keys.length := by omega
      rw [List.take_length] at hall
      simp only [↓opStep_eq, ↓reduceIte, ↓EW, EV, Nat.reduceAdd, Nat.reduceEqDiff, Int.reduceEq, Int.reduceLT, Int.reduceLE, Int.reduceNe, seqC, retC, skipC, exitC, blockC, condC, r4_5, t1, t4, ld, hcell, hs1.len, decide_eq_false g']
      exact hK .norm _ _ (C.cond false (by simp only [↓opStep_eq, ↓reduceIte, ↓EW, EV, Nat.reduceAdd, Nat.reduceEqDiff, Int.reduceEq, Int.reduceLT, Int.reduceLE, Int.reduceNe, seqC, retC, skipC, exitC, blockC, condC]) (fun g => by cases g) fun _ => C.exit ⟨rfl, .inl ⟨rfl, hall⟩⟩)
  · rintro e tm h3 ⟨rfl, (⟨rfl, hall⟩ | ⟨rfl, t2⟩)⟩
    · show if 0 = 0 then _ else _
      rw [if_pos rfl]
      refine C.seq fun K hK => ?_
      simp only [↓opStep_eq, ↓reduceIte, ↓EW, EV, Nat.reduceAdd, Nat.reduceEqDiff, Int.reduceEq, Int.reduceLT, Int.reduceLE, Int.reduceNe, seqC, retC, skipC, exitC, blockC, condC, r4_9]
      refine hK .norm _ _ (C.ret ⟨.inr rfl, _, rfl, false, ?_, (fun _ => ⟨by omega, by omega, hall⟩), k1⟩)
      simp only [↓opStep_eq, ↓reduceIte, ↓EW, EV, Nat.reduceAdd, Nat.reduceEqDiff, Int.reduceEq, Int.reduceLT, Int.reduceLE, Int.reduceNe, seqC, retC, skipC, exitC, blockC, condC, resOf]
    · refine ⟨.inr rfl, _, rfl, true, ?_, (fun e => by cases e), k1⟩
      simp only [↓opStep_eq, ↓reduceIte, ↓EW, EV, Nat.reduceAdd, Nat.reduceEqDiff, Int.reduceEq, Int.reduceLT, Int.reduceLE, Int.reduceNe, seqC, retC, skipC, exitC, blockC, condC, resOf, t2]
theorem tup2 (i : Nat) (a b : Value) : tupNth i (.tuple #[a, b]) = [a, b][i]? := tupNth_tuple i [a, b]
theorem str_same (t : TypeId) (c : Bool) (s : ByteArray) : binV Tryd.prog .eql t c (.string s) (.string s) = some (.bool true) := by
  rw [strV_eql, leB_eq]; simp
/-- the request that comes as the argument -/
structure Rq.ok (r : Rq) : Prop where
  kind : 0 ≤ r.c.kind ∧ r.c.kind < 256
  c : r.c.fit
  ones : ones r.c.cells = true
theorem law_law (L n : Nat) (hL : 2000 ≤ L) {r : Rq} {h : H} (hr : r.ok) (hs : Strs h r.c.kv r.c.keys) (hG : Has h 1 (.ro powC)) :
    Sp (CF L (n + 23)) 3 [r.v] h fun v h' => v = .bool true := by
  obtain ⟨k, hkk⟩ : ∃ k : Nat, r.c.kind = (k : Int) := ⟨r.c.kind.toNat, by have := hr.kind; omega⟩
  have hcc : (Value.cells r.v).toList = r.cells := rfl
  have k1 := Keep.new h (.rw r.cells (some 28))
  have b1 := Has.new h (.rw r.cells (some 28))
  have hs1 := hs.keep0 k1
  have hG1 := hG.keep0 k1
  refine Sp.body f3 (by simp) ?_
  unfold c3
  refine C.seq fun K hK => ?_
  simp only [↓opStep_eq, ↓reduceIte, ↓EW, EV, Nat.reduceAdd, Nat.reduceEqDiff, Int.reduceEq, Int.reduceLT, Int.reduceLE, Int.reduceNe, seqC, retC, skipC, exitC, blockC, condC, r3_0, hcc]
  generalize h.new (.rw r.cells (some 28)) = h1 at *
  refine hK .norm _ _ (C.seq (C.seq fun K hK => ?_))
  simp only [↓opStep_eq, ↓reduceIte, ↓EW, EV, Nat.reduceAdd, Nat.reduceEqDiff, Int.reduceEq, Int.reduceLT, Int.reduceLE, Int.reduceNe, seqC, retC, skipC, exitC, blockC, condC, r3_1, lag81 b1]
  refine long_law L (n + 21) hL hs1 _ fun v h2 hq => ?_
  obtain ⟨d, rfl, hsl, k2⟩ := hq
  have b2 := b1.keep0 k2
  have hs2 := hs1.keep0 k2
  have hG2 := hG1.keep0 k2
  have ld : ∀ o s, loadOne h2 (.pointer (some ⟨h.next, o, s⟩)) = r.cells[o]? := fun o s => loadOne_has b2 rfl
  cases d with
  | true =>
    simp only [↓opStep_eq, ↓reduceIte, ↓EW, EV, Nat.reduceAdd, Nat.reduceEqDiff, Int.reduceEq, Int.reduceLT, Int.reduceLE, Int.reduceNe, seqC, retC, skipC, exitC, blockC, condC]
    refine hK .norm _ _ (C.cond true (by simp only [↓opStep_eq, ↓reduceIte, ↓EW, EV, Nat.reduceAdd, Nat.reduceEqDiff, Int.reduceEq, Int.reduceLT, Int.reduceLE, Int.reduceNe, seqC, retC, skipC, exitC, blockC, condC]) (fun _ => C.seq fun K hK => ?_) fun g => by cases g)
    simp only [↓opStep_eq, ↓reduceIte, ↓EW, EV, Nat.reduceAdd, Nat.reduceEqDiff, Int.reduceEq, Int.reduceLT, Int.reduceLE, Int.reduceNe, seqC, retC, skipC, exitC, blockC, condC, r3_2]
    refine hK .norm _ _ (C.ret ⟨.inr rfl, _, rfl, ?_⟩)
    simp only [↓opStep_eq, ↓reduceIte, ↓EW, EV, Nat.reduceAdd, Nat.reduceEqDiff, Int.reduceEq, Int.reduceLT, Int.reduceLE, Int.reduceNe, seqC, retC, skipC, exitC, blockC, condC, resOf]
  | false =>
    by_cases g : 1000 < (r.sec.size : Int)
    · simp only [↓opStep_eq, ↓reduceIte, ↓EW, EV, Nat.reduceAdd, Nat.reduceEqDiff, Int.reduceEq, Int.reduceLT, Int.reduceLE, Int.reduceNe, seqC, retC, skipC, exitC, blockC, condC, ld, rcell, lenStr_string, g]
      refine hK .norm _ _ (C.cond true (by simp only [↓opStep_eq, ↓reduceIte, ↓EW, EV, Nat.reduceAdd, Nat.reduceEqDiff, Int.reduceEq, Int.reduceLT, Int.reduceLE, Int.reduceNe, seqC, retC, skipC, exitC, blockC, condC]) (fun _ => C.seq fun K hK => ?_) fun g => by cases g)
      simp only [↓opStep_eq, ↓reduceIte, ↓EW, EV, Nat.reduceAdd, Nat.reduceEqDiff, Int.reduceEq, Int.reduceLT, Int.reduceLE, Int.reduceNe, seqC, retC, skipC, exitC, blockC, condC, r3_2]
      refine hK .norm _ _ (C.ret ⟨.inr rfl, _, rfl, ?_⟩)
      simp only [↓opStep_eq, ↓reduceIte, ↓EW, EV, Nat.reduceAdd, Nat.reduceEqDiff, Int.reduceEq, Int.reduceLT, Int.reduceLE, Int.reduceNe, seqC, retC, skipC, exitC, blockC, condC, resOf]
    · have hf : r.fit := ⟨hr.c, hsl rfl, by omega, hr.ones⟩
      simp only [↓opStep_eq, ↓reduceIte, ↓EW, EV, Nat.reduceAdd, Nat.reduceEqDiff, Int.reduceEq, Int.reduceLT, Int.reduceLE, Int.reduceNe, seqC, retC, skipC, exitC, blockC, condC, ld, rcell, lenStr_string, g]
      refine hK .norm _ _ (C.cond false (by simp only [↓opStep_eq, ↓reduceIte, ↓EW, EV, Nat.reduceAdd, Nat.reduceEqDiff, Int.reduceEq, Int.reduceLT, Int.reduceLE, Int.reduceNe, seqC, retC, skipC, exitC, blockC, condC]) (fun g => by cases g) fun _ => C.skip (C.seq fun K hK => ?_))
      simp only [↓opStep_eq, ↓reduceIte, ↓EW, EV, Nat.reduceAdd, Nat.reduceEqDiff, Int.reduceEq, Int.reduceLT, Int.reduceLE, Int.reduceNe, seqC, retC, skipC, exitC, blockC, condC, r3_3, lag13 b2]
      refine write_law L (n + 13) hL hkk hf hs2 hG2 _ fun v h3 hq => ?_
      obtain ⟨⟨w, rfl, rd⟩, k3⟩ := hq
      have b3 := b2.keep0 k3
      have hs3 := hs2.keep0 k3
      simp only [↓opStep_eq, ↓reduceIte, ↓EW, EV, Nat.reduceAdd, Nat.reduceEqDiff, Int.reduceEq, Int.reduceLT, Int.reduceLE, Int.reduceNe, seqC, retC, skipC, exitC, blockC, condC, tup2]
      refine hK .norm _ _ (C.seq fun K hK => ?_)
      simp only [↓opStep_eq, ↓reduceIte, ↓EW, EV, Nat.reduceAdd, Nat.reduceEqDiff, Int.reduceEq, Int.reduceLT, Int.reduceLE, Int.reduceNe, seqC, retC, skipC, exitC, blockC, condC, r3_4, lag13 b3]
      refine refwrite_law L n hL hkk hf hs3 _ fun v h4 hq => ?_
      obtain ⟨⟨w2, rfl, rd2⟩, k4⟩ := hq
      have bs1 := (rd.keep0 k4).str
      have bs2 := rd2.str
      simp only [↓opStep_eq, ↓reduceIte, ↓EW, EV, Nat.reduceAdd, Nat.reduceEqDiff, Int.reduceEq, Int.reduceLT, Int.reduceLE, Int.reduceNe, seqC, retC, skipC, exitC, blockC, condC, tup2]
      refine hK .norm _ _ (C.seq fun K hK => ?_)
      simp only [↓opStep_eq, ↓reduceIte, ↓EW, EV, Nat.reduceAdd, Nat.reduceEqDiff, Int.reduceEq, Int.reduceLT, Int.reduceLE, Int.reduceNe, seqC, retC, skipC, exitC, blockC, condC, r3_5, bs1, bs2, str_same]
      refine hK .norm _ _ (C.ret ⟨.inr rfl, _, rfl, ?_⟩)
      simp only [↓opStep_eq, ↓reduceIte, ↓EW, EV, Nat.reduceAdd, Nat.reduceEqDiff, Int.reduceEq, Int.reduceLT, Int.reduceLE, Int.reduceNe, seqC, retC, skipC, exitC, blockC, condC, resOf]
end Go.Proofs.YtilpiiafjehbnaaDoor
