import Derived.Test.YtilpiiafjehbnaaDoorXbB
set_option linter.unusedSimpArgs false
set_option linter.unusedVariables false
namespace Go.Proofs.YtilpiiafjehbnaaDoor
open Go.Ev

/-! ### rows of strings -/
def sv (p : List UInt8) : Value := .string ⟨p.toArray⟩
theorem sv_len (p : List UInt8) : lenStr (sv p) = some (.int .i64 (p.length : Int)) := rfl
theorem str_sv (s : ByteArray) : Value.string s = sv s.data.toList := rfl
def capOK (n c : Nat) : Prop := (Nat.ble OPEN c = false ∧ n ≤ c) ∨ (Nat.ble OPEN c = true ∧ Nat.beq (szOf c) 1 = true)
def Strs (h : H) (v : Value) (l : List (List UInt8)) : Prop :=
  (v = .slice none 0 0 ∧ l = []) ∨ ∃ b o c x cs, v = .slice (some ⟨b, o, none⟩) l.length c ∧ Has h b x ∧ x.cells? = some cs ∧ o + l.length ≤ cs.length ∧ (cs.drop o).take l.length = l.map sv ∧ capOK l.length c
theorem Strs.keep {S : Nat → Prop} {h h' : H} {v : Value} {l : List (List UInt8)} (a : Strs h v l) (k : Keep S h h') (hn : ∀ b, blk v b → ¬ S b) : Strs h' v l := by
  rcases a with a | ⟨b, o, c, x, cs, rfl, h1, h2⟩
  · exact .inl a
  · exact .inr ⟨b, o, c, x, cs, rfl, h1.keep k (hn b (by simp)), h2⟩
theorem Strs.keep0 {h h' : H} {v : Value} {l : List (List UInt8)} (a : Strs h v l) (k : Keep nobody h h') : Strs h' v l := a.keep k fun _ _ => id
theorem Strs.len {h : H} {v : Value} {l : List (List UInt8)} (a : Strs h v l) : lenSl v = some (.int .i64 (l.length : Int)) := by
  rcases a with ⟨rfl, rfl⟩ | ⟨b, o, c, x, cs, rfl, _⟩ <;> rfl
theorem Strs.lt {h : H} {v : Value} {l : List (List UInt8)} (a : Strs h v l) {b : Nat} (hb : blk v b) : b < h.next := by
  rcases a with ⟨rfl, rfl⟩ | ⟨b', o, c, x, cs, rfl, h1, _⟩
  · simp at hb
  · simp at hb; subst hb; exact h1.1
theorem Strs.at {h : H} {v : Value} {l : List (List UInt8)} (a : Strs h v l) {i : Nat} {p : List UInt8} (hi : l[i]? = some p) :
    ∃ b o, indexSl 1 v (.int .i64 (i : Int)) = some (.pointer (some ⟨b, o, none⟩)) ∧ ∀ s, loadOne h (.pointer (some ⟨b, o, s⟩)) = some (sv p) := by
  have hl : i < l.length := (List.getElem?_eq_some_iff.1 hi).1
  rcases a with ⟨rfl, rfl⟩ | ⟨b, o, c, x, cs, rfl, h1, h2, h3, h4, _⟩
  · simp at hl
  · refine ⟨b, o + i, ?_, fun s => ?_⟩
    · simp only [indexSl, asNat_nat, addOff]
      rw [Nat.ble_eq_true_of_le (by omega)]
      simp
    · have e : ((cs.drop o).take l.length)[i]? = some (sv p) := by rw [h4, List.getElem?_map, hi]; rfl
      rw [List.getElem?_take, if_pos hl, List.getElem?_drop] at e
      rw [loadOne_has h1 h2, e]
theorem Strs.tail {h : H} {v : Value} {p : List UInt8} {l : List (List UInt8)} (a : Strs h v (p :: l)) (h1 : 0 < l.length) (h2 : l.length ≤ 1000000) :
    ∃ v', sliceSl 1 v (some (.int .i64 1)) none none = some v' ∧ Strs h v' l ∧ ∀ b, blk v' b → blk v b := by
  rcases a with ⟨_, e⟩ | ⟨b, o, c, x, cs, rfl, hb, hx, h3, h4, hc⟩
  · cases e
  · have e4 : (cs.drop (o + 1)).take l.length = l.map sv := by
      have := congrArg (fun z => z.drop 1) h4
      simp only [List.length_cons, List.map_cons, List.drop_succ_cons, List.drop_zero] at this
      rw [← this, List.drop_take, List.drop_drop]
      congr 1
    rcases hc with ⟨c1, c2⟩ | ⟨c1, c2⟩
    · have e2 : bnds (some (.int .i64 1)) none none (p :: l).length c = some (1, (p :: l).length, c) := by
        simp only [bnds, bnd, asNat_one]
        rw [Nat.ble_eq_true_of_le (show 1 ≤ (p :: l).length by simp)]
      have e3 : Nat.beq c 1 = false := by
        rw [Bool.eq_false_iff]; intro e; have := Nat.eq_of_beq_eq_true e; simp only [List.length_cons] at c2; omega
      have hO : Nat.ble OPEN (c - 1) = false := by
        rw [Bool.eq_false_iff]; intro e
        have := Nat.le_of_ble_eq_true e
        have : Nat.ble OPEN c = true := Nat.ble_eq_true_of_le (by omega)
        rw [c1] at this; cases this
      refine ⟨.slice (some ⟨b, o + 1, none⟩) l.length (c - 1), ?_, .inr ⟨b, o + 1, c - 1, x, cs, rfl, hb, hx, by simp only [List.length_cons] at h3; omega, e4, .inl ⟨hO, by simp only [List.length_cons] at c2; omega⟩⟩, fun b' hb' => by simpa using hb'⟩
      simp only [sliceSl, c1, e2, e3]
      simp [addOff]
    · have e2 : bnds (some (.int .i64 1)) none none (p :: l).length (Nat.max (p :: l).length (lbOf c)) = some (1, (p :: l).length, Nat.max (p :: l).length (lbOf c)) := by
        simp only [bnds, bnd, asNat_one]
        rw [Nat.ble_eq_true_of_le (show 1 ≤ (p :: l).length by simp)]
      have hv : sliceSl 1 (.slice (some ⟨b, o, none⟩) (p :: l).length c) (some (.int .i64 1)) none none = some (.slice (some ⟨b, o + 1, none⟩) l.length (opCap (Nat.max (p :: l).length (lbOf c) - 1) 1)) := by
        simp only [sliceSl, c1, c2, e2]
        simp [addOff]
      have o1 := opCap_open (Nat.max (p :: l).length (lbOf c) - 1)
      have o2 := opCap_size (Nat.max (p :: l).length (lbOf c) - 1)
      generalize opCap (Nat.max (p :: l).length (lbOf c) - 1) 1 = c' at hv o1 o2
      exact ⟨_, hv, .inr ⟨b, o + 1, c', x, cs, rfl, hb, hx, by simp only [List.length_cons] at h3; omega, e4, .inr ⟨o1, o2⟩⟩, fun b' hb' => by simpa using hb'⟩

/-! ### strings.Join -/
def sumL : List (List UInt8) → Nat
  | [] => 0
  | p :: r => p.length + sumL r
def joinR : List (List UInt8) → List UInt8
  | [] => []
  | p :: r => 32 :: p ++ joinR r
theorem joinR_len : ∀ r, (joinR r).length = r.length + sumL r
  | [] => rfl
  | p :: r => by
    simp only [joinR, List.length_append, List.length_cons, joinR_len r, sumL]; omega
theorem sumL_drop {ps : List (List UInt8)} {i : Nat} {p : List UInt8} (h : ps[i]? = some p) : sumL (ps.drop i) = p.length + sumL (ps.drop (i + 1)) := by
  have hl := List.getElem?_eq_some_iff.1 h
  obtain ⟨hl, rfl⟩ := hl
  rw [List.drop_eq_getElem_cons hl]; rfl
theorem joinR_drop {ps : List (List UInt8)} {i : Nat} {p : List UInt8} (h : ps[i]? = some p) : joinR (ps.drop i) = 32 :: p ++ joinR (ps.drop (i + 1)) := by
  have hl := List.getElem?_eq_some_iff.1 h
  obtain ⟨hl, rfl⟩ := hl
  rw [List.drop_eq_getElem_cons hl]; rfl
theorem wrap_big {n : Int} (h1 : -9000000000000000000 ≤ n) (h2 : n ≤ 9223372036854775807) : IntKind.i64.wrap n = n := wrap_eq _ _ (by show (-9223372036854775808 : Int) ≤ _; omega) (by show n ≤ 9223372036854775807; omega)
theorem loop1_law (L : Nat) (call : CallT) {h : H} {v : Value} {ps : List (List UInt8)} (hb : Strs h v ps) (hs : ps.length + sumL ps ≤ 1000000) (hL : ps.length < L) {tm : T Value} {n1 : Nat}
    (hn1 : n1 + sumL ps ≤ 1000000)
    (t0 : tg tm 0 = v) (t1 : tg tm 1 = sv [32]) (t39 : tg tm 39 = v) (t40 : tg tm 40 = .int .i64 (ps.length : Int)) (t41 : tg tm 41 = .int .i64 0) (t5 : tg tm 5 = .int .i64 (n1 : Int)) :
    C (loopB l13_18) call L tm h fun e tm' h' => e = .exit 1 ∧ h' = h ∧ tg tm' 0 = v ∧ tg tm' 1 = sv [32] ∧ tg tm' 5 = .int .i64 ((n1 + sumL ps : Nat) : Int) := by
  refine C.loop (fun k tm h' => ∃ i m : Nat, k = ps.length - i ∧ i ≤ ps.length ∧ m + sumL (ps.drop i) = n1 + sumL ps ∧ h' = h ∧ tg tm 0 = v ∧ tg tm 1 = sv [32] ∧ tg tm 39 = v ∧ tg tm 40 = .int .i64 (ps.length : Int) ∧ tg tm 41 = .int .i64 (i : Int) ∧ tg tm 5 = .int .i64 (m : Int)) ps.length hL ⟨0, n1, rfl, Nat.zero_le _, by simp, rfl, t0, t1, t39, t40, t41, t5⟩ fun k tm h' hi => ?_
  obtain ⟨i, m, hk, hi, hm, rfl, t0, t1, t39, t40, t41, t5⟩ := hi
  refine C.seq fun K hK => ?_
  by_cases g : i < ps.length
  · have g' : (i : Int) < (ps.length : Int) := by omega
    obtain ⟨p, hp⟩ : ∃ p, ps[i]? = some p := ⟨_, List.getElem?_eq_getElem g⟩
    have hd := sumL_drop hp
    obtain ⟨bb, oo, ix, ld⟩ := hb.at hp
    simp only [↓opStep_eq, ↓reduceIte, ↓EW, EV, Nat.reduceAdd, Nat.reduceEqDiff, Int.reduceEq, Int.reduceLT, Int.reduceLE, Int.reduceNe, seqC, retC, skipC, exitC, blockC, condC, r13_12, t40, t41, decide_eq_true g']
    refine hK .norm _ _ (C.seq (C.cond true (by simp only [↓opStep_eq, ↓reduceIte, ↓EW, EV, Nat.reduceAdd, Nat.reduceEqDiff, Int.reduceEq, Int.reduceLT, Int.reduceLE, Int.reduceNe, seqC, retC, skipC, exitC, blockC, condC]) (fun _ => C.skip (C.seq (C.block (C.seq fun K hK => ?_)))) fun g => by cases g))
    simp only [↓opStep_eq, ↓reduceIte, ↓EW, EV, Nat.reduceAdd, Nat.reduceEqDiff, Int.reduceEq, Int.reduceLT, Int.reduceLE, Int.reduceNe, seqC, retC, skipC, exitC, blockC, condC, r13_13, t39, t41, ix, ld]
    refine hK .norm _ _ (C.seq (C.seq fun K hK => ?_))
    have w1 : IntKind.i64.wrap (9223372036854775807 - (m : Int)) = 9223372036854775807 - (m : Int) := wrap_big (by omega) (by omega)
    have g2 : ¬ (9223372036854775807 - (m : Int) < (p.length : Int)) := by omega
    simp only [↓opStep_eq, ↓reduceIte, ↓EW, EV, Nat.reduceAdd, Nat.reduceEqDiff, Int.reduceEq, Int.reduceLT, Int.reduceLE, Int.reduceNe, seqC, retC, skipC, exitC, blockC, condC, r13_14, sv_len, t5, w1, decide_eq_false g2]
    refine hK .norm _ _ (C.cond false (by simp only [↓opStep_eq, ↓reduceIte, ↓EW, EV, Nat.reduceAdd, Nat.reduceEqDiff, Int.reduceEq, Int.reduceLT, Int.reduceLE, Int.reduceNe, seqC, retC, skipC, exitC, blockC, condC]) (fun g => by cases g) fun _ => C.skip fun K hK => ?_)
    have w2 : IntKind.i64.wrap ((m : Int) + (p.length : Int)) = ((m + p.length : Nat) : Int) := by rw [wrap_big (by omega) (by omega)]; omega
    simp only [↓opStep_eq, ↓reduceIte, ↓EW, EV, Nat.reduceAdd, Nat.reduceEqDiff, Int.reduceEq, Int.reduceLT, Int.reduceLE, Int.reduceNe, seqC, retC, skipC, exitC, blockC, condC, r13_16, sv_len, t5, w2]
    refine hK .norm _ _ fun K hK => ?_
    have w3 : IntKind.i64.wrap ((i : Int) + 1) = ((i + 1 : Nat) : Int) := by rw [wrap_big (by omega) (by omega)]; omega
    simp only [↓opStep_eq, ↓reduceIte, ↓EW, EV, Nat.reduceAdd, Nat.reduceEqDiff, Int.reduceEq, Int.reduceLT, Int.reduceLE, Int.reduceNe, seqC, retC, skipC, exitC, blockC, condC, r13_17, t41, w3]
    refine hK .norm _ _ ⟨ps.length - (i + 1), by omega, i + 1, m + p.length, rfl, by omega, by omega, rfl, ?_, ?_, ?_, ?_, ?_, ?_⟩ <;> simp only [↓opStep_eq, ↓reduceIte, ↓EW, EV, Nat.reduceAdd, Nat.reduceEqDiff, Int.reduceEq, Int.reduceLT, Int.reduceLE, Int.reduceNe, seqC, retC, skipC, exitC, blockC, condC, t0, t1, t39, t40]
  · have g' : ¬ (i : Int) < (ps.length : Int) := by omega
    simp only [↓opStep_eq, ↓reduceIte, ↓EW, EV, Nat.reduceAdd, Nat.reduceEqDiff, Int.reduceEq, Int.reduceLT, Int.reduceLE, Int.reduceNe, seqC, retC, skipC, exitC, blockC, condC, r13_12, t40, t41, decide_eq_false g']
    obtain rfl : i = ps.length := by omega
    rw [List.drop_length] at hm
    simp only [sumL, Nat.add_zero] at hm
    refine hK .norm _ _ (C.seq (C.cond false (by simp only [↓opStep_eq, ↓reduceIte, ↓EW, EV, Nat.reduceAdd, Nat.reduceEqDiff, Int.reduceEq, Int.reduceLT, Int.reduceLE, Int.reduceNe, seqC, retC, skipC, exitC, blockC, condC]) (fun g => by cases g) fun _ => C.exit ⟨rfl, rfl, by simp only [↓opStep_eq, ↓reduceIte, ↓EW, EV, Nat.reduceAdd, Nat.reduceEqDiff, Int.reduceEq, Int.reduceLT, Int.reduceLE, Int.reduceNe, seqC, retC, skipC, exitC, blockC, condC, t0], by simp only [↓opStep_eq, ↓reduceIte, ↓EW, EV, Nat.reduceAdd, Nat.reduceEqDiff, Int.reduceEq, Int.reduceLT, Int.reduceLE, Int.reduceNe, seqC, retC, skipC, exitC, blockC, condC, t1], by simp only [↓opStep_eq, ↓reduceIte, ↓EW, EV, Nat.reduceAdd, Nat.reduceEqDiff, Int.reduceEq, Int.reduceLT, Int.reduceLE, Int.reduceNe, seqC, retC, skipC, exitC, blockC, condC, t5, hm]⟩))
theorem loop2_law (L n : Nat) {n0 : Nat} {h : H} {v : Value} {B : Nat} {p0 : List UInt8} {ps : List (List UInt8)} (hb : Strs h v ps) (hR : ∀ b, blk v b → b < n0) (hs : p0.length + ps.length + sumL ps ≤ 1000000) (hL : ps.length < L) {tm : T Value}
    (hB : Bld n0 h B p0)
    (t1 : tg tm 1 = sv [32]) (t8 : tg tm 8 = .pointer (some ⟨B, 0, none⟩)) (t63 : tg tm 63 = v) (t64 : tg tm 64 = .int .i64 (ps.length : Int)) (t65 : tg tm 65 = .int .i64 0) :
    C (loopB l13_28) (CF L (n + 3)) L tm h fun e tm' h' => e = .exit 3 ∧ Bld n0 h' B (p0 ++ joinR ps) ∧ Keep (From n0) h h' ∧ tg tm' 8 = .pointer (some ⟨B, 0, none⟩) := by
  refine C.loop (fun k tm h' => ∃ (i : Nat) (acc : List UInt8), k = ps.length - i ∧ i ≤ ps.length ∧ acc ++ joinR (ps.drop i) = p0 ++ joinR ps ∧ Bld n0 h' B acc ∧ Keep (From n0) h h' ∧ tg tm 1 = sv [32] ∧ tg tm 8 = .pointer (some ⟨B, 0, none⟩) ∧ tg tm 63 = v ∧ tg tm 64 = .int .i64 (ps.length : Int) ∧ tg tm 65 = .int .i64 (i : Int)) ps.length hL ⟨0, p0, rfl, Nat.zero_le _, rfl, hB, .refl _ _, t1, t8, t63, t64, t65⟩ fun k tm h' hi => ?_
  obtain ⟨i, acc, hk, hi, ha, hB, kp, t1, t8, t63, t64, t65⟩ := hi
  have hlen := congrArg List.length ha
  simp only [List.length_append, joinR_len, List.length_drop] at hlen
  refine C.seq fun K hK => ?_
  by_cases g : i < ps.length
  · have g' : (i : Int) < (ps.length : Int) := by omega
    obtain ⟨p, hp⟩ : ∃ p, ps[i]? = some p := ⟨_, List.getElem?_eq_getElem g⟩
    have hj := joinR_drop hp
    have hd := sumL_drop hp
    obtain ⟨bb, oo, ix, ld⟩ := (hb.keep kp (fun b hb e => by have := hR b hb; unfold From at e; omega)).at hp
    simp only [↓opStep_eq, ↓reduceIte, ↓EW, EV, Nat.reduceAdd, Nat.reduceEqDiff, Int.reduceEq, Int.reduceLT, Int.reduceLE, Int.reduceNe, seqC, retC, skipC, exitC, blockC, condC, r13_22, t64, t65, decide_eq_true g']
    refine hK .norm _ _ (C.seq (C.cond true (by simp only [↓opStep_eq, ↓reduceIte, ↓EW, EV, Nat.reduceAdd, Nat.reduceEqDiff, Int.reduceEq, Int.reduceLT, Int.reduceLE, Int.reduceNe, seqC, retC, skipC, exitC, blockC, condC]) (fun _ => C.skip (C.seq (C.block (C.seq fun K hK => ?_)))) fun g => by cases g))
    simp only [↓opStep_eq, ↓reduceIte, ↓EW, EV, Nat.reduceAdd, Nat.reduceEqDiff, Int.reduceEq, Int.reduceLT, Int.reduceLE, Int.reduceNe, seqC, retC, skipC, exitC, blockC, condC, r13_23, t63, t65, ix, ld]
    refine hK .norm _ _ (C.seq fun K hK => ?_)
    simp only [↓opStep_eq, ↓reduceIte, ↓EW, EV, Nat.reduceAdd, Nat.reduceEqDiff, Int.reduceEq, Int.reduceLT, Int.reduceLE, Int.reduceNe, seqC, retC, skipC, exitC, blockC, condC, r13_24, t8, t1]
    refine writeString_law L n hB (m := [32]) (by simp; omega) _ fun r h1 hq => ?_
    obtain ⟨B1, k1⟩ := hq
    refine hK .norm _ _ fun K hK => ?_
    simp only [↓opStep_eq, ↓reduceIte, ↓EW, EV, Nat.reduceAdd, Nat.reduceEqDiff, Int.reduceEq, Int.reduceLT, Int.reduceLE, Int.reduceNe, seqC, retC, skipC, exitC, blockC, condC, r13_25, t8]
    refine writeString_law L n B1 (m := p) (by simp; omega) _ fun r h2 hq => ?_
    obtain ⟨B2, k2⟩ := hq
    refine hK .norm _ _ fun K hK => ?_
    have w3 : IntKind.i64.wrap ((i : Int) + 1) = ((i + 1 : Nat) : Int) := by rw [wrap_big (by omega) (by omega)]; omega
    simp only [↓opStep_eq, ↓reduceIte, ↓EW, EV, Nat.reduceAdd, Nat.reduceEqDiff, Int.reduceEq, Int.reduceLT, Int.reduceLE, Int.reduceNe, seqC, retC, skipC, exitC, blockC, condC, r13_26, t65, w3]
    refine hK .norm _ _ ⟨ps.length - (i + 1), by omega, i + 1, acc ++ [32] ++ p, rfl, by omega, ?_, B2, (kp.trans k1 fun _ _ e => e).trans k2 fun _ _ e => e, ?_, ?_, ?_, ?_, ?_⟩
    · rw [← ha, hj]; simp
    all_goals simp only [↓opStep_eq, ↓reduceIte, ↓EW, EV, Nat.reduceAdd, Nat.reduceEqDiff, Int.reduceEq, Int.reduceLT, Int.reduceLE, Int.reduceNe, seqC, retC, skipC, exitC, blockC, condC, t1, t8, t63, t64]
  · have g' : ¬ (i : Int) < (ps.length : Int) := by omega
    simp only [↓opStep_eq, ↓reduceIte, ↓EW, EV, Nat.reduceAdd, Nat.reduceEqDiff, Int.reduceEq, Int.reduceLT, Int.reduceLE, Int.reduceNe, seqC, retC, skipC, exitC, blockC, condC, r13_22, t64, t65, decide_eq_false g']
    obtain rfl : i = ps.length := by omega
    rw [List.drop_length] at ha
    simp only [joinR, List.append_nil] at ha
    subst ha
    refine hK .norm _ _ (C.seq (C.cond false (by simp only [↓opStep_eq, ↓reduceIte, ↓EW, EV, Nat.reduceAdd, Nat.reduceEqDiff, Int.reduceEq, Int.reduceLT, Int.reduceLE, Int.reduceNe, seqC, retC, skipC, exitC, blockC, condC]) (fun g => by cases g) fun _ => C.exit ⟨rfl, hB, kp, by simp only [↓opStep_eq, ↓reduceIte, ↓EW, EV, Nat.reduceAdd, Nat.reduceEqDiff, Int.reduceEq, Int.reduceLT, Int.reduceLE, Int.reduceNe, seqC, retC, skipC, exitC, blockC, condC, t8]⟩))
theorem join_law (L n : Nat) {h : H} {v : Value} {p0 : List UInt8} {ps : List (List UInt8)} (hb : Strs h v (p0 :: ps)) (hs : p0.length + ps.length + sumL ps ≤ 100000) (hL : ps.length + 1 < L) (hp0 : p0 ≠ []) :
    Sp (CF L (n + 4)) 13 [v, sv [32]] h fun r h' => r = sv (p0 ++ joinR ps) ∧ Keep nobody h h' := by
  have hlen := hb.len
  simp only [List.length_cons] at hlen
  obtain ⟨b0, o0, ix0, ld0⟩ := hb.at (i := 0) (p := p0) rfl
  have ixz : indexSl 1 v (.int .i64 0) = some (.pointer (some ⟨b0, o0, none⟩)) := ix0
  refine Sp.body f13 (by simp) ?_
  unfold c13
  refine C.seq fun K hK => ?_
  simp only [↓opStep_eq, ↓reduceIte, ↓EW, EV, Nat.reduceAdd, Nat.reduceEqDiff, Int.reduceEq, Int.reduceLT, Int.reduceLE, Int.reduceNe, seqC, retC, skipC, exitC, blockC, condC, r13_0]
  refine hK .norm _ _ (C.seq (C.seq fun K hK => ?_))
  simp only [↓opStep_eq, ↓reduceIte, ↓EW, EV, Nat.reduceAdd, Nat.reduceEqDiff, Int.reduceEq, Int.reduceLT, Int.reduceLE, Int.reduceNe, seqC, retC, skipC, exitC, blockC, condC, r13_1, hlen]
  have g1 : ¬ ((ps.length + 1 : Nat) : Int) = 0 := by omega
  refine hK .norm _ _ (C.block (C.seq fun K hK => ?_))
  simp only [↓opStep_eq, ↓reduceIte, ↓EW, EV, Nat.reduceAdd, Nat.reduceEqDiff, Int.reduceEq, Int.reduceLT, Int.reduceLE, Int.reduceNe, seqC, retC, skipC, exitC, blockC, condC, r13_2, decide_eq_false g1]
  refine hK .norm _ _ (C.cond false (by simp only [↓opStep_eq, ↓reduceIte, ↓EW, EV, Nat.reduceAdd, Nat.reduceEqDiff, Int.reduceEq, Int.reduceLT, Int.reduceLE, Int.reduceNe, seqC, retC, skipC, exitC, blockC, condC]) (fun g => by cases g) fun _ => C.seq fun K hK => ?_)
  by_cases h1 : ps = []
  · subst h1
    have g2 : ((([] : List (List UInt8)).length + 1 : Nat) : Int) = 1 := rfl
    simp only [↓opStep_eq, ↓reduceIte, ↓EW, EV, Nat.reduceAdd, Nat.reduceEqDiff, Int.reduceEq, Int.reduceLT, Int.reduceLE, Int.reduceNe, seqC, retC, skipC, exitC, blockC, condC, r13_4, g2]
    refine hK .norm _ _ (C.cond true (by simp only [↓opStep_eq, ↓reduceIte, ↓EW, EV, Nat.reduceAdd, Nat.reduceEqDiff, Int.reduceEq, Int.reduceLT, Int.reduceLE, Int.reduceNe, seqC, retC, skipC, exitC, blockC, condC]) (fun _ => C.seq fun K hK => ?_) fun g => by cases g)
    simp only [↓opStep_eq, ↓reduceIte, ↓EW, EV, Nat.reduceAdd, Nat.reduceEqDiff, Int.reduceEq, Int.reduceLT, Int.reduceLE, Int.reduceNe, seqC, retC, skipC, exitC, blockC, condC, r13_5, ixz, ld0]
    refine hK .norm _ _ (C.ret ⟨.inr rfl, _, rfl, ?_, .refl _ _⟩)
    simp only [↓opStep_eq, ↓reduceIte, ↓EW, EV, Nat.reduceAdd, Nat.reduceEqDiff, Int.reduceEq, Int.reduceLT, Int.reduceLE, Int.reduceNe, seqC, retC, skipC, exitC, blockC, condC, resOf, joinR, List.append_nil]
  have h1 : 0 < ps.length := List.length_pos_iff.2 h1
  have g2 : ¬ ((ps.length + 1 : Nat) : Int) = 1 := by omega
  simp only [↓opStep_eq, ↓reduceIte, ↓EW, EV, Nat.reduceAdd, Nat.reduceEqDiff, Int.reduceEq, Int.reduceLT, Int.reduceLE, Int.reduceNe, seqC, retC, skipC, exitC, blockC, condC, r13_4, decide_eq_false g2]
  refine hK .norm _ _ (C.cond false (by simp only [↓opStep_eq, ↓reduceIte, ↓EW, EV, Nat.reduceAdd, Nat.reduceEqDiff, Int.reduceEq, Int.reduceLT, Int.reduceLE, Int.reduceNe, seqC, retC, skipC, exitC, blockC, condC]) (fun g => by cases g) fun _ => C.skip (C.seq fun K hK => ?_))
  simp only [↓opStep_eq, ↓reduceIte, ↓EW, EV, Nat.reduceAdd, Nat.reduceEqDiff, Int.reduceEq, Int.reduceLT, Int.reduceLE, Int.reduceNe, seqC, retC, skipC, exitC, blockC, condC, r13_6]
  refine hK .norm _ _ (C.seq (C.seq fun K hK => ?_))
  have sl : lenStr (sv [32]) = some (.int .i64 1) := rfl
  simp only [↓opStep_eq, ↓reduceIte, ↓EW, EV, Nat.reduceAdd, Nat.reduceEqDiff, Int.reduceEq, Int.reduceLT, Int.reduceLE, Int.reduceNe, seqC, retC, skipC, exitC, blockC, condC, r13_7, sl]
  refine hK .norm _ _ (C.cond true (by simp only [↓opStep_eq, ↓reduceIte, ↓EW, EV, Nat.reduceAdd, Nat.reduceEqDiff, Int.reduceEq, Int.reduceLT, Int.reduceLE, Int.reduceNe, seqC, retC, skipC, exitC, blockC, condC]) (fun _ => C.seq (C.seq fun K hK => ?_)) fun g => by cases g)
  have w1 : IntKind.i64.wrap (((ps.length + 1 : Nat) : Int) - 1) = (ps.length : Int) := by rw [wrap_big (by omega) (by omega)]; omega
  have q1 : binV Tryd.prog .quo 3 true (.int .i64 9223372036854775807) (.int .i64 (ps.length : Int)) = some (.int .i64 ((9223372036854775807 / ps.length : Nat) : Int)) := by
    have e := binV_quo (P := Tryd.prog) 3 true .i64 ((9223372036854775807 : Nat) : Int) (ps.length : Int) (by omega)
    rw [← Int.ofNat_tdiv] at e
    have hle : 9223372036854775807 / ps.length ≤ 9223372036854775807 := Nat.div_le_self _ _
    generalize 9223372036854775807 / ps.length = z at *
    rw [wrap_big (by omega) (by omega)] at e
    exact e
  have g3 : ¬ (((9223372036854775807 / ps.length : Nat) : Int) ≤ 1) := by
    have : 2 ≤ 9223372036854775807 / ps.length := (Nat.le_div_iff_mul_le (by omega)).2 (by omega)
    generalize 9223372036854775807 / ps.length = z at *
    omega
  simp only [↓opStep_eq, ↓reduceIte, ↓EW, EV, Nat.reduceAdd, Nat.reduceEqDiff, Int.reduceEq, Int.reduceLT, Int.reduceLE, Int.reduceNe, seqC, retC, skipC, exitC, blockC, condC, r13_8, sl, hlen, w1, q1, decide_eq_false g3]
  refine hK .norm _ _ (C.cond false (by simp only [↓opStep_eq, ↓reduceIte, ↓EW, EV, Nat.reduceAdd, Nat.reduceEqDiff, Int.reduceEq, Int.reduceLT, Int.reduceLE, Int.reduceNe, seqC, retC, skipC, exitC, blockC, condC]) (fun g => by cases g) fun _ => C.skip fun K hK => ?_)
  have w2 : IntKind.i64.wrap (1 * (ps.length : Int)) = (ps.length : Int) := by rw [Int.one_mul, wrap_big (by omega) (by omega)]
  have w3 : IntKind.i64.wrap (0 + (ps.length : Int)) = (ps.length : Int) := by rw [Int.zero_add, wrap_big (by omega) (by omega)]
  simp only [↓opStep_eq, ↓reduceIte, ↓EW, EV, Nat.reduceAdd, Nat.reduceEqDiff, Int.reduceEq, Int.reduceLT, Int.reduceLE, Int.reduceNe, seqC, retC, skipC, exitC, blockC, condC, r13_10, sl, hlen, w1, w2, w3]
  refine hK .norm _ _ (C.seq (C.seq fun K hK => ?_))
  simp only [↓opStep_eq, ↓reduceIte, ↓EW, EV, Nat.reduceAdd, Nat.reduceEqDiff, Int.reduceEq, Int.reduceLT, Int.reduceLE, Int.reduceNe, seqC, retC, skipC, exitC, blockC, condC, r13_11, hlen]
  refine hK .norm _ _ (C.block ((loop1_law L _ (ps := p0 :: ps) (n1 := ps.length) hb (by simp only [List.length_cons, sumL]; omega) (by simpa using hL) (by simp only [sumL]; omega) (by simp only [↓opStep_eq, ↓reduceIte, ↓EW, EV, Nat.reduceAdd, Nat.reduceEqDiff, Int.reduceEq, Int.reduceLT, Int.reduceLE, Int.reduceNe, seqC, retC, skipC, exitC, blockC, condC]) (by simp only [↓opStep_eq, ↓reduceIte, ↓EW, EV, Nat.reduceAdd, Nat.reduceEqDiff, Int.reduceEq, Int.reduceLT, Int.reduceLE, Int.reduceNe, seqC, retC, skipC, exitC, blockC, condC]) (by simp only [↓opStep_eq, ↓reduceIte, ↓EW, EV, Nat.reduceAdd, Nat.reduceEqDiff, Int.reduceEq, Int.reduceLT, Int.reduceLE, Int.reduceNe, seqC, retC, skipC, exitC, blockC, condC]) (by simp only [↓opStep_eq, ↓reduceIte, ↓EW, EV, Nat.reduceAdd, Nat.reduceEqDiff, Int.reduceEq, Int.reduceLT, Int.reduceLE, Int.reduceNe, seqC, retC, skipC, exitC, blockC, condC]; rfl) (by simp only [↓opStep_eq, ↓reduceIte, ↓EW, EV, Nat.reduceAdd, Nat.reduceEqDiff, Int.reduceEq, Int.reduceLT, Int.reduceLE, Int.reduceNe, seqC, retC, skipC, exitC, blockC, condC]) (by simp only [↓opStep_eq, ↓reduceIte, ↓EW, EV, Nat.reduceAdd, Nat.reduceEqDiff, Int.reduceEq, Int.reduceLT, Int.reduceLE, Int.reduceNe, seqC, retC, skipC, exitC, blockC, condC])).mono ?_))
  rintro e tm h' ⟨rfl, rfl, t0, t1, t5⟩
  show if 1 = 1 then _ else _
  rw [if_pos rfl]
  refine C.seq fun K hK => ?_
  simp only [↓opStep_eq, ↓reduceIte, ↓EW, EV, Nat.reduceAdd, Nat.reduceEqDiff, Int.reduceEq, Int.reduceLT, Int.reduceLE, Int.reduceNe, seqC, retC, skipC, exitC, blockC, condC, r13_18]
  have k1 := Keep.new h' (.rw [.pointer none, .slice none 0 0] (some 55))
  have b1 := Has.new h' (.rw [.pointer none, .slice none 0 0] (some 55))
  have hb1 := hb.keep0 k1
  generalize hh1 : h'.new (.rw [.pointer none, .slice none 0 0] (some 55)) = h1' at *
  refine hK .norm _ _ (C.seq fun K hK => ?_)
  simp only [↓opStep_eq, ↓reduceIte, ↓EW, EV, Nat.reduceAdd, Nat.reduceEqDiff, Int.reduceEq, Int.reduceLT, Int.reduceLE, Int.reduceNe, seqC, retC, skipC, exitC, blockC, condC, r13_19, t5]
  refine grow_law L n b1 (Nat.le_refl _) (m := ps.length + sumL (p0 :: ps)) (by simp only [sumL]; omega) (by omega) _ fun r h2 hq => ?_
  obtain ⟨B2, k2⟩ := hq
  have old : ∀ b, blk v b → b < h'.next := fun b hbb => hb.lt hbb
  have hb2 := hb1.keep k2 fun b hbb e => by have := old b hbb; unfold From at e; omega
  obtain ⟨b2', o2', ix2, ld2⟩ := hb2.at (i := 0) (p := p0) rfl
  have ixz2 : indexSl 1 v (.int .i64 0) = some (.pointer (some ⟨b2', o2', none⟩)) := ix2
  refine hK .norm _ _ (C.seq fun K hK => ?_)
  simp only [↓opStep_eq, ↓reduceIte, ↓EW, EV, Nat.reduceAdd, Nat.reduceEqDiff, Int.reduceEq, Int.reduceLT, Int.reduceLE, Int.reduceNe, seqC, retC, skipC, exitC, blockC, condC, r13_20, t0, ixz2, ld2]
  refine writeString_law L n B2 (m := p0) (by simp; omega) _ fun r h3 hq => ?_
  obtain ⟨B3, k3⟩ := hq
  have hb3 := hb2.keep k3 fun b hbb e => by have := old b hbb; unfold From at e; omega
  obtain ⟨v', cu, hb4, sub⟩ := hb3.tail h1 (by omega)
  refine hK .norm _ _ (C.seq (C.seq fun K hK => ?_))
  simp only [↓opStep_eq, ↓reduceIte, ↓EW, EV, Nat.reduceAdd, Nat.reduceEqDiff, Int.reduceEq, Int.reduceLT, Int.reduceLE, Int.reduceNe, seqC, retC, skipC, exitC, blockC, condC, r13_21, t0, cu, hb4.len]
  refine hK .norm _ _ (C.block ((loop2_law L n (n0 := h'.next) (p0 := p0) (ps := ps) hb4 (fun b hbb => old b (sub b hbb)) (by omega) (by omega) B3 (by simp only [↓opStep_eq, ↓reduceIte, ↓EW, EV, Nat.reduceAdd, Nat.reduceEqDiff, Int.reduceEq, Int.reduceLT, Int.reduceLE, Int.reduceNe, seqC, retC, skipC, exitC, blockC, condC, t1]) (by simp only [↓opStep_eq, ↓reduceIte, ↓EW, EV, Nat.reduceAdd, Nat.reduceEqDiff, Int.reduceEq, Int.reduceLT, Int.reduceLE, Int.reduceNe, seqC, retC, skipC, exitC, blockC, condC, ptrTo_eq]) (by simp only [↓opStep_eq, ↓reduceIte, ↓EW, EV, Nat.reduceAdd, Nat.reduceEqDiff, Int.reduceEq, Int.reduceLT, Int.reduceLE, Int.reduceNe, seqC, retC, skipC, exitC, blockC, condC]) (by simp only [↓opStep_eq, ↓reduceIte, ↓EW, EV, Nat.reduceAdd, Nat.reduceEqDiff, Int.reduceEq, Int.reduceLT, Int.reduceLE, Int.reduceNe, seqC, retC, skipC, exitC, blockC, condC]) (by simp only [↓opStep_eq, ↓reduceIte, ↓EW, EV, Nat.reduceAdd, Nat.reduceEqDiff, Int.reduceEq, Int.reduceLT, Int.reduceLE, Int.reduceNe, seqC, retC, skipC, exitC, blockC, condC])).mono ?_))
  rintro e tm4 h4 ⟨rfl, B4, k4, t8⟩
  show if 3 = 3 then _ else _
  rw [if_pos rfl]
  refine C.seq fun K hK => ?_
  simp only [↓opStep_eq, ↓reduceIte, ↓EW, EV, Nat.reduceAdd, Nat.reduceEqDiff, Int.reduceEq, Int.reduceLT, Int.reduceLE, Int.reduceNe, seqC, retC, skipC, exitC, blockC, condC, r13_27, t8]
  refine string_law L (n + 2) B4 (by simp [hp0]) (by simp only [List.length_append, joinR_len]; omega) _ fun r h5 hq => ?_
  obtain ⟨rfl, k5⟩ := hq
  refine hK .norm _ _ (C.ret ⟨.inr rfl, _, rfl, ?_, ?_⟩)
  · simp only [↓opStep_eq, ↓reduceIte, ↓EW, EV, Nat.reduceAdd, Nat.reduceEqDiff, Int.reduceEq, Int.reduceLT, Int.reduceLE, Int.reduceNe, seqC, retC, skipC, exitC, blockC, condC, resOf]; rfl
  · exact ((((k1.mono (S' := From h'.next) fun _ _ e => e.elim).trans k2 fun _ _ e => e).trans k3 fun _ _ e => e).trans k4 fun _ _ e => e).trans k5 (fun _ _ e => e) |>.mono fun k hk e => by unfold From at e; omega
end Go.Proofs.YtilpiiafjehbnaaDoor

namespace Go.Proofs.YtilpiiafjehbnaaDoor
open Go.Ev

/-! ### the data -/
structure Cmd where
  kind : Int
  ten : Int
  kv : Value
  val : ByteArray
  flags : Int
  fo : Int
  uniq : Int
  by' : Int
  keys : List (List UInt8)
structure Rq where
  kind : Int
  c : Cmd
  ten : Int
  sec : ByteArray
  on : Bool
  close : Bool
def Cmd.cells (c : Cmd) : List Value := [.int .u8 c.kind, .int .i64 c.ten, c.kv, .string c.val, .int .u32 c.flags, .int .i64 c.fo, .int .u64 c.uniq, .int .u64 c.by']
def Cmd.v (c : Cmd) : Value := .agg c.cells.toArray
def Rq.cells (r : Rq) : List Value := [.int .u8 r.kind, .int .u8 r.c.kind, .int .i64 r.c.ten, r.c.kv, .string r.c.val, .int .u32 r.c.flags, .int .i64 r.c.fo, .int .u64 r.c.uniq, .int .u64 r.c.by', .int .i64 r.ten, .string r.sec, .bool r.on, .bool r.close]
def Rq.v (r : Rq) : Value := .agg r.cells.toArray
structure Cmd.fit (c : Cmd) : Prop where
  kind : 0 ≤ c.kind ∧ c.kind < 256
  flags : 0 ≤ c.flags ∧ c.flags < 4294967296
  uniq : 0 ≤ c.uniq ∧ c.uniq < 18446744073709551616
  by' : 0 ≤ c.by' ∧ c.by' < 18446744073709551616
structure Cmd.slim (c : Cmd) : Prop where
  val : c.val.size ≤ 2000
  many : c.keys.length ≤ 40
  keys : ∀ k ∈ c.keys, k.length ≤ 200

theorem wrap_succ (i : Nat) (h : i < 9223372036854775807) : IntKind.i64.wrap ((i : Int) + 1) = ((i + 1 : Nat) : Int) := by
  rw [wrap_eq] <;> simp [IntKind.min, IntKind.max, IntKind.bits, IntKind.signed] <;> omega

/-! ### words -/
def okW (mx : Nat) (p : List UInt8) : Bool := plainL p && (!decide ((p.length : Int) = 0) && decide ((p.length : Int) ≤ (mx : Int)))
theorem index_fn (L n : Nat) {s : ByteArray} (hs : s.size < L) (h0 : H) :
    Sp (CF L (n + 3)) 23 [.string s, .func (.func 24) #[] #[]] h0 fun r h' => (∃ i : Int, r = .int .i64 i ∧ (i < 0 ↔ plainL s.data.toList = true)) ∧ Keep nobody h0 h' := by
  refine Sp.body f23 (by simp) ?_
  unfold c23
  refine C.seq fun K hK => ?_
  simp only [↓opStep_eq, ↓reduceIte, ↓EW, EV, Nat.reduceAdd, Nat.reduceEqDiff, Int.reduceEq, Int.reduceLT, Int.reduceLE, Int.reduceNe, seqC, retC, skipC, exitC, blockC, condC, r23_0]
  refine hK .norm _ _ (C.seq fun K hK => ?_)
  simp only [↓opStep_eq, ↓reduceIte, ↓EW, EV, Nat.reduceAdd, Nat.reduceEqDiff, Int.reduceEq, Int.reduceLT, Int.reduceLE, Int.reduceNe, seqC, retC, skipC, exitC, blockC, condC, r23_1]
  refine runes_law L n hs h0 _ fun r h' hq => ?_
  obtain ⟨⟨i, rfl, hi⟩, kp⟩ := hq
  refine hK _ _ _ (C.ret ⟨.inr rfl, _, rfl, ⟨i, ?_, hi⟩, kp⟩)
  simp only [↓opStep_eq, ↓reduceIte, ↓EW, EV, Nat.reduceAdd, Nat.reduceEqDiff, Int.reduceEq, Int.reduceLT, Int.reduceLE, Int.reduceNe, seqC, retC, skipC, exitC, blockC, condC, resOf]
theorem plain_law (L n mx : Nat) {p : List UInt8} (hs : p.length < L) (h0 : H) :
    Sp (CF L (n + 4)) 11 [sv p, .int .i64 (mx : Int)] h0 fun r h' => r = .bool (okW mx p) ∧ Keep nobody h0 h' := by
  refine Sp.body f11 (by simp) ?_
  unfold c11
  refine C.seq fun K hK => ?_
  simp only [↓opStep_eq, ↓reduceIte, ↓EW, EV, Nat.reduceAdd, Nat.reduceEqDiff, Int.reduceEq, Int.reduceLT, Int.reduceLE, Int.reduceNe, seqC, retC, skipC, exitC, blockC, condC, r11_0]
  refine hK .norm _ _ (C.seq fun K hK => ?_)
  by_cases g1 : (1 : Int) ≤ (p.length : Int)
  · by_cases g2 : (p.length : Int) ≤ (mx : Int)
    · simp only [↓opStep_eq, ↓reduceIte, ↓EW, EV, Nat.reduceAdd, Nat.reduceEqDiff, Int.reduceEq, Int.reduceLT, Int.reduceLE, Int.reduceNe, seqC, retC, skipC, exitC, blockC, condC, r11_1, sv_len, decide_eq_true g1, decide_eq_true g2]
      refine index_fn L n (s := ⟨p.toArray⟩) (by simpa [ByteArray.size] using hs) h0 _ fun r h' hq => ?_
      obtain ⟨⟨i, rfl, hi⟩, kp⟩ := hq
      simp only [↓opStep_eq, ↓reduceIte, ↓EW, EV, Nat.reduceAdd, Nat.reduceEqDiff, Int.reduceEq, Int.reduceLT, Int.reduceLE, Int.reduceNe, seqC, retC, skipC, exitC, blockC, condC]
      refine hK _ _ _ (C.ret ⟨.inr rfl, _, rfl, ?_, kp⟩)
      simp only [↓opStep_eq, ↓reduceIte, ↓EW, EV, Nat.reduceAdd, Nat.reduceEqDiff, Int.reduceEq, Int.reduceLT, Int.reduceLE, Int.reduceNe, seqC, retC, skipC, exitC, blockC, condC, resOf]
      congr 1
      unfold okW
      have e1 : decide (i < 0) = plainL p := by rw [Bool.eq_iff_iff, decide_eq_true_iff]; exact hi
      rw [e1, decide_eq_false (show ¬ (p.length : Int) = 0 by omega), decide_eq_true g2]
      simp
    · simp only [↓opStep_eq, ↓reduceIte, ↓EW, EV, Nat.reduceAdd, Nat.reduceEqDiff, Int.reduceEq, Int.reduceLT, Int.reduceLE, Int.reduceNe, seqC, retC, skipC, exitC, blockC, condC, r11_1, sv_len, decide_eq_true g1, decide_eq_false g2]
      refine hK _ _ _ (C.ret ⟨.inr rfl, _, rfl, ?_, .refl _ _⟩)
      simp only [↓opStep_eq, ↓reduceIte, ↓EW, EV, Nat.reduceAdd, Nat.reduceEqDiff, Int.reduceEq, Int.reduceLT, Int.reduceLE, Int.reduceNe, seqC, retC, skipC, exitC, blockC, condC, resOf, okW, decide_eq_false g2, Bool.and_false]
  · simp only [↓opStep_eq, ↓reduceIte, ↓EW, EV, Nat.reduceAdd, Nat.reduceEqDiff, Int.reduceEq, Int.reduceLT, Int.reduceLE, Int.reduceNe, seqC, retC, skipC, exitC, blockC, condC, r11_1, sv_len, decide_eq_false g1]
    refine hK _ _ _ (C.ret ⟨.inr rfl, _, rfl, ?_, .refl _ _⟩)
    simp only [↓opStep_eq, ↓reduceIte, ↓EW, EV, Nat.reduceAdd, Nat.reduceEqDiff, Int.reduceEq, Int.reduceLT, Int.reduceLE, Int.reduceNe, seqC, retC, skipC, exitC, blockC, condC, resOf, okW]
    rw [decide_eq_true (show (p.length : Int) = 0 by omega)]
    simp
theorem refplain_law (L n mx : Nat) {p : List UInt8} (hs : p.length < L) (hs2 : p.length ≤ 2000) (h0 : H) :
    Sp (CF L (n + 1)) 17 [sv p, .int .i64 (mx : Int)] h0 fun r h' => r = .bool (okW mx p) ∧ h' = h0 := by
  have e : (⟨p.toArray⟩ : ByteArray).size = p.length := by simp [ByteArray.size]
  refine (rplain_law L n (s := ⟨p.toArray⟩) mx (by rw [e]; exact hs) (by rw [e]; exact hs2) h0).mono fun r h' hq => ?_
  obtain ⟨rfl, rfl⟩ := hq
  refine ⟨?_, rfl⟩
  rw [e]; rfl
theorem key_fn (L n : Nat) {p : List UInt8} (hs : p.length < L) (h0 : H) :
    Sp (CF L (n + 5)) 10 [sv p] h0 fun r h' => r = .bool (!okW 32 p) ∧ Keep nobody h0 h' := by
  refine Sp.body f10 (by simp) ?_
  unfold c10
  refine C.seq fun K hK => ?_
  simp only [↓opStep_eq, ↓reduceIte, ↓EW, EV, Nat.reduceAdd, Nat.reduceEqDiff, Int.reduceEq, Int.reduceLT, Int.reduceLE, Int.reduceNe, seqC, retC, skipC, exitC, blockC, condC, r10_0]
  refine hK .norm _ _ (C.seq fun K hK => ?_)
  simp only [↓opStep_eq, ↓reduceIte, ↓EW, EV, Nat.reduceAdd, Nat.reduceEqDiff, Int.reduceEq, Int.reduceLT, Int.reduceLE, Int.reduceNe, seqC, retC, skipC, exitC, blockC, condC, r10_1]
  refine plain_law L n 32 hs h0 _ fun r h' hq => ?_
  obtain ⟨rfl, kp⟩ := hq
  simp only [↓opStep_eq, ↓reduceIte, ↓EW, EV, Nat.reduceAdd, Nat.reduceEqDiff, Int.reduceEq, Int.reduceLT, Int.reduceLE, Int.reduceNe, seqC, retC, skipC, exitC, blockC, condC]
  refine hK _ _ _ (C.ret ⟨.inr rfl, _, rfl, ?_, kp⟩)
  simp only [↓opStep_eq, ↓reduceIte, ↓EW, EV, Nat.reduceAdd, Nat.reduceEqDiff, Int.reduceEq, Int.reduceLT, Int.reduceLE, Int.reduceNe, seqC, retC, skipC, exitC, blockC, condC, resOf]
theorem index_gen (L n g : Nat) (p : List UInt8 → Bool) (v : Value) (l : List (List UInt8)) (h : H) (hi : Strs h v l) (hL : l.length < L) (h63 : l.length < 9223372036854775807)
    (hp : ∀ x ∈ l, ∀ h, Sp (CF L n) g [sv x] h fun r h' => r = .bool (p x) ∧ Keep nobody h h') :
    Sp (CF L (n + 1)) 22 [v, .func (.func g) #[] #[]] h fun r h' => (∃ k : Int, r = .int .i64 k ∧ decide (0 ≤ k) = l.any p) ∧ Keep nobody h h' := by
  refine Sp.body f22 (by simp) ?_
  unfold c22
  refine C.seq fun K hK => hK .norm _ _ ?_
  refine C.seq (C.seq fun K hK => ?_)
  simp only [↓opStep_eq, ↓reduceIte, ↓EW, EV, Nat.reduceAdd, Nat.reduceEqDiff, Int.reduceEq, Int.reduceLT, Int.reduceLE, Int.reduceNe, seqC, retC, skipC, exitC, blockC, condC, r22_1, r22_0, hi.len]
  refine hK .norm _ _ ?_
  refine C.block (C.loop (fun k tm h1 => ∃ i : Nat, k = l.length - i ∧ i ≤ l.length ∧ tg tm 0 = v ∧ tg tm 1 = .func (.func g) #[] #[] ∧ tg tm 7 = .int .i64 (l.length : Int) ∧ tg tm 8 = .int .i64 (i : Int) ∧ (l.take i).all (fun x => !p x) = true ∧ Keep nobody h h1) l.length hL
    ⟨0, by simp, by simp, by simp, by simp, by simp, by simp, by simp, .refl _ _⟩ ?_)
  rintro k tm h1 ⟨i, rfl, hil, t0, t1, t7, t8, hall, hk⟩
  unfold l22_7
  refine C.seq fun K hK => ?_
  by_cases g : i < l.length
  · have g' : (i : Int) < (l.length : Int) := by omega
    obtain ⟨x, hx⟩ : ∃ x, l[i]? = some x := ⟨l[i], List.getElem?_eq_getElem g⟩
    obtain ⟨b, o, e1, e4⟩ := (hi.keep0 hk).at hx
    simp only [↓opStep_eq, ↓reduceIte, ↓EW, EV, Nat.reduceAdd, Nat.reduceEqDiff, Int.reduceEq, Int.reduceLT, Int.reduceLE, Int.reduceNe, seqC, retC, skipC, exitC, blockC, condC, r22_2, t7, t8, decide_eq_true g']
    refine hK .norm _ _ (C.seq (C.cond true (by simp only [↓opStep_eq, ↓reduceIte, ↓EW, EV, Nat.reduceAdd, Nat.reduceEqDiff, Int.reduceEq, Int.reduceLT, Int.reduceLE, Int.reduceNe, seqC, retC, skipC, exitC, blockC, condC]) (fun _ => C.skip ?_) fun g => by cases g))
    refine C.seq (C.block (C.seq fun K hK => ?_))
    simp only [↓opStep_eq, ↓reduceIte, ↓EW, EV, Nat.reduceAdd, Nat.reduceEqDiff, Int.reduceEq, Int.reduceLT, Int.reduceLE, Int.reduceNe, seqC, retC, skipC, exitC, blockC, condC, r22_3, t8]
    refine hK .norm _ _ (C.seq fun K hK => ?_)
    simp only [↓opStep_eq, ↓reduceIte, ↓EW, EV, Nat.reduceAdd, Nat.reduceEqDiff, Int.reduceEq, Int.reduceLT, Int.reduceLE, Int.reduceNe, seqC, retC, skipC, exitC, blockC, condC, r22_4, t0, t1, t8, e1, e4, goCall, funcArgs]
    refine hp x (List.mem_of_getElem? hx) h1 _ fun r h2 hr => ?_
    obtain ⟨rfl, hk2⟩ := hr
    cases hpx : p x with
    | true =>
      refine hK .norm _ _ (C.cond true (by simp only [↓opStep_eq, ↓reduceIte, ↓EW, EV, Nat.reduceAdd, Nat.reduceEqDiff, Int.reduceEq, Int.reduceLT, Int.reduceLE, Int.reduceNe, seqC, retC, skipC, exitC, blockC, condC]) (fun _ => C.seq fun K hK => ?_) fun g => by cases g)
      simp only [↓opStep_eq, ↓reduceIte, ↓EW, EV, Nat.reduceAdd, Nat.reduceEqDiff, Int.reduceEq, Int.reduceLT, Int.reduceLE, Int.reduceNe, seqC, retC, skipC, exitC, blockC, condC, r22_5, t8]
      refine hK .norm _ _ (C.ret ⟨.inr rfl, _, rfl, ⟨i, by simp only [↓opStep_eq, ↓reduceIte, ↓EW, EV, Nat.reduceAdd, Nat.reduceEqDiff, Int.reduceEq, Int.reduceLT, Int.reduceLE, Int.reduceNe, seqC, retC, skipC, exitC, blockC, condC, resOf], ?_⟩, hk.then hk2⟩)
      rw [decide_eq_true (by omega)]
      symm
      rw [List.any_eq_true]
      exact ⟨x, List.mem_of_getElem? hx, hpx⟩
    | false =>
      refine hK .norm _ _ (C.cond false (by simp only [↓opStep_eq, ↓reduceIte, ↓EW, EV, Nat.reduceAdd, Nat.reduceEqDiff, Int.reduceEq, Int.reduceLT, Int.reduceLE, Int.reduceNe, seqC, retC, skipC, exitC, blockC, condC]) (fun g => by cases g) fun _ => C.skip fun K hK => ?_)
      simp only [↓opStep_eq, ↓reduceIte, ↓EW, EV, Nat.reduceAdd, Nat.reduceEqDiff, Int.reduceEq, Int.reduceLT, Int.reduceLE, Int.reduceNe, seqC, retC, skipC, exitC, blockC, condC, r22_6, t8, wrap_succ i (by omega)]
      refine hK .norm _ _ ⟨l.length - (i + 1), by omega, i + 1, rfl, by omega, by simp only [↓opStep_eq, ↓reduceIte, ↓EW, EV, Nat.reduceAdd, Nat.reduceEqDiff, Int.reduceEq, Int.reduceLT, Int.reduceLE, Int.reduceNe, seqC, retC, skipC, exitC, blockC, condC, t0], by simp only [↓opStep_eq, ↓reduceIte, ↓EW, EV, Nat.reduceAdd, Nat.reduceEqDiff, Int.reduceEq, Int.reduceLT, Int.reduceLE, Int.reduceNe, seqC, retC, skipC, exitC, blockC, condC, t1], by simp only [↓opStep_eq, ↓reduceIte, ↓EW, EV, Nat.reduceAdd, Nat.reduceEqDiff, Int.reduceEq, Int.reduceLT, Int.reduceLE, Int.reduceNe, seqC, retC, skipC, exitC, blockC, condC, t7], ?_, ?_, hk.then hk2⟩
      · simp only [↓opStep_eq, ↓reduceIte, ↓EW, EV, Nat.reduceAdd, Nat.reduceEqDiff, Int.reduceEq, Int.reduceLT, Int.reduceLE, Int.reduceNe, seqC, retC, skipC, exitC, blockC, condC]
      · rw [List.take_add_one, hx]
        simp only [List.all_append, hall, Bool.true_and]
        simp [hpx]
  · have g' : ¬ (i : Int) < (l.length : Int) := by omega
    have hge : i = l.length := by omega
    simp only [↓opStep_eq, ↓reduceIte, ↓EW, EV, Nat.reduceAdd, Nat.reduceEqDiff, Int.reduceEq, Int.reduceLT, Int.reduceLE, Int.reduceNe, seqC, retC, skipC, exitC, blockC, condC, r22_2, t7, t8, decide_eq_false g']
    refine hK .norm _ _ (C.seq (C.cond false (by simp only [↓opStep_eq, ↓reduceIte, ↓EW, EV, Nat.reduceAdd, Nat.reduceEqDiff, Int.reduceEq, Int.reduceLT, Int.reduceLE, Int.reduceNe, seqC, retC, skipC, exitC, blockC, condC]) (fun g => by cases g) fun _ => C.exit ?_))
    simp only [if_pos]
    refine C.seq fun K hK => ?_
    simp only [↓opStep_eq, ↓reduceIte, ↓EW, EV, Nat.reduceAdd, Nat.reduceEqDiff, Int.reduceEq, Int.reduceLT, Int.reduceLE, Int.reduceNe, seqC, retC, skipC, exitC, blockC, condC, r22_7]
    refine hK .norm _ _ (C.ret ⟨.inr rfl, _, rfl, ⟨-1, by simp only [↓opStep_eq, ↓reduceIte, ↓EW, EV, Nat.reduceAdd, Nat.reduceEqDiff, Int.reduceEq, Int.reduceLT, Int.reduceLE, Int.reduceNe, seqC, retC, skipC, exitC, blockC, condC, resOf], ?_⟩, hk⟩)
    rw [hge, List.take_length] at hall
    rw [decide_eq_false (by omega)]
    symm
    rw [List.any_eq_false]
    intro x hx
    have := List.all_eq_true.1 hall x hx
    simpa using this
theorem contains_gen (L n g : Nat) (p : List UInt8 → Bool) (v : Value) (l : List (List UInt8)) (h : H) (hi : Strs h v l) (hL : l.length < L) (h63 : l.length < 9223372036854775807)
    (hp : ∀ x ∈ l, ∀ h, Sp (CF L n) g [sv x] h fun r h' => r = .bool (p x) ∧ Keep nobody h h') :
    Sp (CF L (n + 2)) 9 [v, .func (.func g) #[] #[]] h fun r h' => r = .bool (l.any p) ∧ Keep nobody h h' := by
  refine Sp.body f9 (by simp) ?_
  unfold c9
  refine C.seq fun K hK => ?_
  simp only [↓opStep_eq, ↓reduceIte, ↓EW, EV, Nat.reduceAdd, Nat.reduceEqDiff, Int.reduceEq, Int.reduceLT, Int.reduceLE, Int.reduceNe, seqC, retC, skipC, exitC, blockC, condC, r9_0]
  refine hK .norm _ _ (C.seq fun K hK => ?_)
  simp only [↓opStep_eq, ↓reduceIte, ↓EW, EV, Nat.reduceAdd, Nat.reduceEqDiff, Int.reduceEq, Int.reduceLT, Int.reduceLE, Int.reduceNe, seqC, retC, skipC, exitC, blockC, condC, r9_1]
  refine index_gen L n g p v l h hi hL h63 hp _ fun r h2 hr => ?_
  obtain ⟨⟨k, rfl, hk⟩, h3⟩ := hr
  simp only [↓opStep_eq, ↓reduceIte, ↓EW, EV, Nat.reduceAdd, Nat.reduceEqDiff, Int.reduceEq, Int.reduceLT, Int.reduceLE, Int.reduceNe, seqC, retC, skipC, exitC, blockC, condC, hk]
  refine hK _ _ _ (C.ret ⟨.inr rfl, _, rfl, ?_, h3⟩)
  simp only [↓opStep_eq, ↓reduceIte, ↓EW, EV, Nat.reduceAdd, Nat.reduceEqDiff, Int.reduceEq, Int.reduceLT, Int.reduceLE, Int.reduceNe, seqC, retC, skipC, exitC, blockC, condC, resOf]

/-! ### numbers as texts -/
theorem tens_int (L n : Nat) (hL : 1000 ≤ L) {x : Nat} (hx : x < 9223372036854775808) {h : H} (hG : Has h 1 (.ro powC)) :
    Sp (CF L (n + 5)) 14 [.int .i64 (x : Int)] h fun r h' => r = sv (dec x) ∧ Keep nobody h h' := by
  refine Sp.body f14 (by simp) ?_
  unfold c14
  refine C.seq fun K hK => ?_
  simp only [↓opStep_eq, ↓reduceIte, ↓EW, EV, Nat.reduceAdd, Nat.reduceEqDiff, Int.reduceEq, Int.reduceLT, Int.reduceLE, Int.reduceNe, seqC, retC, skipC, exitC, blockC, condC, r14_0]
  refine hK .norm _ _ (C.seq fun K hK => ?_)
  have q : toInt .u64 (.int .i64 (x : Int)) = some (.int .u64 (x : Int)) := by rw [toInt_int, wrap_u64 _ (by omega)]
  simp only [↓opStep_eq, ↓reduceIte, ↓EW, EV, Nat.reduceAdd, Nat.reduceEqDiff, Int.reduceEq, Int.reduceLT, Int.reduceLE, Int.reduceNe, seqC, retC, skipC, exitC, blockC, condC, r14_1, q]
  refine format2_law L n hL (by omega) hG _ fun r h1 hq => ?_
  obtain ⟨rfl, k1⟩ := hq
  refine hK _ _ _ (C.ret ⟨.inr rfl, _, rfl, ?_, k1⟩)
  simp only [↓opStep_eq, ↓reduceIte, ↓EW, EV, Nat.reduceAdd, Nat.reduceEqDiff, Int.reduceEq, Int.reduceLT, Int.reduceLE, Int.reduceNe, seqC, retC, skipC, exitC, blockC, condC, resOf]; rfl
theorem tens_u32 (L n : Nat) (hL : 1000 ≤ L) {x : Nat} (hx : x < 4294967296) {h : H} (hG : Has h 1 (.ro powC)) :
    Sp (CF L (n + 5)) 25 [.int .u32 (x : Int)] h fun r h' => r = sv (dec x) ∧ Keep nobody h h' := by
  refine Sp.body f25 (by simp) ?_
  unfold c25
  refine C.seq fun K hK => ?_
  simp only [↓opStep_eq, ↓reduceIte, ↓EW, EV, Nat.reduceAdd, Nat.reduceEqDiff, Int.reduceEq, Int.reduceLT, Int.reduceLE, Int.reduceNe, seqC, retC, skipC, exitC, blockC, condC, r25_0]
  refine hK .norm _ _ (C.seq fun K hK => ?_)
  have q : toInt .u64 (.int .u32 (x : Int)) = some (.int .u64 (x : Int)) := by rw [toInt_int, wrap_u64 _ (by omega)]
  simp only [↓opStep_eq, ↓reduceIte, ↓EW, EV, Nat.reduceAdd, Nat.reduceEqDiff, Int.reduceEq, Int.reduceLT, Int.reduceLE, Int.reduceNe, seqC, retC, skipC, exitC, blockC, condC, r25_1, q]
  refine format2_law L n hL (by omega) hG _ fun r h1 hq => ?_
  obtain ⟨rfl, k1⟩ := hq
  refine hK _ _ _ (C.ret ⟨.inr rfl, _, rfl, ?_, k1⟩)
  simp only [↓opStep_eq, ↓reduceIte, ↓EW, EV, Nat.reduceAdd, Nat.reduceEqDiff, Int.reduceEq, Int.reduceLT, Int.reduceLE, Int.reduceNe, seqC, retC, skipC, exitC, blockC, condC, resOf]; rfl
theorem tens_u64 (L n : Nat) (hL : 1000 ≤ L) {x : Nat} (hx : x < 18446744073709551616) {h : H} (hG : Has h 1 (.ro powC)) :
    Sp (CF L (n + 5)) 26 [.int .u64 (x : Int)] h fun r h' => r = sv (dec x) ∧ Keep nobody h h' := by
  refine Sp.body f26 (by simp) ?_
  unfold c26
  refine C.seq fun K hK => ?_
  simp only [↓opStep_eq, ↓reduceIte, ↓EW, EV, Nat.reduceAdd, Nat.reduceEqDiff, Int.reduceEq, Int.reduceLT, Int.reduceLE, Int.reduceNe, seqC, retC, skipC, exitC, blockC, condC, r26_0]
  refine hK .norm _ _ (C.seq fun K hK => ?_)
  simp only [↓opStep_eq, ↓reduceIte, ↓EW, EV, Nat.reduceAdd, Nat.reduceEqDiff, Int.reduceEq, Int.reduceLT, Int.reduceLE, Int.reduceNe, seqC, retC, skipC, exitC, blockC, condC, r26_1]
  refine format2_law L n hL hx hG _ fun r h1 hq => ?_
  obtain ⟨rfl, k1⟩ := hq
  refine hK _ _ _ (C.ret ⟨.inr rfl, _, rfl, ?_, k1⟩)
  simp only [↓opStep_eq, ↓reduceIte, ↓EW, EV, Nat.reduceAdd, Nat.reduceEqDiff, Int.reduceEq, Int.reduceLT, Int.reduceLE, Int.reduceNe, seqC, retC, skipC, exitC, blockC, condC, resOf]; rfl
end Go.Proofs.YtilpiiafjehbnaaDoor
