import Derived.Test.YtilpiiafjehbnaaDoorXbF
set_option linter.unusedSimpArgs false
set_option linter.unusedVariables false
namespace Go.Proofs.YtilpiiafjehbnaaDoor
open Go.Ev

theorem rng_eq (m : Nat) : ∀ b : Bool, ((decide ((m : Int) < 1) || decide (8 < (m : Int))) || (decide (1 < (m : Int)) && !b)) = !(decide ((if false = true then 0 else 1) ≤ m) && decide (m ≤ if b = true then 8 else if false = true then 0 else 1))
  | true => by
    rw [if_pos rfl, if_neg (by simp), Bool.eq_iff_iff]
    simp only [Bool.or_eq_true, Bool.and_eq_true, Bool.not_true, Bool.not_eq_true', Bool.and_eq_false_iff, decide_eq_true_eq, decide_eq_false_iff_not, Bool.false_eq_true, and_false, or_false]
    omega
  | false => by
    rw [if_neg (by simp), if_neg (by simp), Bool.eq_iff_iff]
    simp only [Bool.or_eq_true, Bool.and_eq_true, Bool.not_false, Bool.not_eq_true', Bool.and_eq_false_iff, decide_eq_true_eq, decide_eq_false_iff_not, Bool.false_eq_true, and_true]
    omega
theorem box_f (x : CodeT) : (⟨x⟩ : Box CodeT).f = x := rfl
theorem keep_room (h : H) (n : Nat) : Keep nobody h ⟨h.objs, h.next + n⟩ := ⟨Nat.le_add_right _ _, fun _ _ _ => rfl⟩
theorem twice_law (L n : Nat) (hL : 1000 < L) {v : Value} {l : List (List UInt8)} {h : H} (hs : Strs h v l) (sl : l.length ≤ 100) :
    Sp (CF L (n + 1)) 47 [v] h fun r h' => r = .bool (!decide l.Nodup) ∧ Keep nobody h h' := by
  refine Sp.body f47 (by simp) ?_
  unfold c47
  refine C.seq fun K hK => ?_
  simp only [↓opStep_eq, ↓reduceIte, ↓EW, EV, Nat.reduceAdd, Nat.reduceEqDiff, Int.reduceEq, Int.reduceLT, Int.reduceLE, Int.reduceNe, seqC, retC, skipC, exitC, blockC, condC, r47_0]
  refine hK .norm _ _ (C.seq (C.seq fun K hK => ?_))
  simp only [↓opStep_eq, ↓reduceIte, ↓EW, EV, Nat.reduceAdd, Nat.reduceEqDiff, Int.reduceEq, Int.reduceLT, Int.reduceLE, Int.reduceNe, seqC, retC, skipC, exitC, blockC, condC, r47_1]
  refine hK .norm _ _ (C.block ?_)
  refine (C.loop (L := L) (fun kk tm h1 => ∃ i : Nat, kk = l.length - i ∧ i ≤ l.length ∧ tg tm 0 = v ∧ tg tm 3 = .int .i64 (i : Int) ∧ (l.take i).Nodup ∧ Keep nobody h h1) l.length (by omega)
    ⟨0, rfl, Nat.zero_le _, by simp only [↓opStep_eq, ↓reduceIte, ↓EW, EV, Nat.reduceAdd, Nat.reduceEqDiff, Int.reduceEq, Int.reduceLT, Int.reduceLE, Int.reduceNe, seqC, retC, skipC, exitC, blockC, condC], by simp only [↓opStep_eq, ↓reduceIte, ↓EW, EV, Nat.reduceAdd, Nat.reduceEqDiff, Int.reduceEq, Int.reduceLT, Int.reduceLE, Int.reduceNe, seqC, retC, skipC, exitC, blockC, condC]; rfl, by simp, .refl _ _⟩ ?_ : C (loopB l47_10) _ L _ h fun e tm h1 => Keep nobody h h1 ∧ (e = .exit 0 ∧ l.Nodup ∨ e = .ret ∧ tg tm 2 = .bool true ∧ ¬ l.Nodup)).mono ?_
  · rintro kk tm h1 ⟨i, rfl, hil, t0, t3, hnd, k1⟩
    unfold l47_10
    refine C.seq (C.seq fun K hK => ?_)
    have hs1 := hs.keep0 k1
    by_cases g : i < l.length
    · have g' : (i : Int) < (l.length : Int) := by omega
      obtain ⟨p, hp⟩ : ∃ p, l[i]? = some p := ⟨_, List.getElem?_eq_getElem g⟩
      simp only [↓opStep_eq, ↓reduceIte, ↓EW, EV, Nat.reduceAdd, Nat.reduceEqDiff, Int.reduceEq, Int.reduceLT, Int.reduceLE, Int.reduceNe, seqC, retC, skipC, exitC, blockC, condC, r47_2, t0, t3, hs1.len, decide_eq_true g']
      refine hK .norm _ _ (C.cond true (by simp only [↓opStep_eq, ↓reduceIte, ↓EW, EV, Nat.reduceAdd, Nat.reduceEqDiff, Int.reduceEq, Int.reduceLT, Int.reduceLE, Int.reduceNe, seqC, retC, skipC, exitC, blockC, condC]) (fun _ => C.skip (C.seq (C.block (C.seq fun K hK => ?_)))) fun g => by cases g)
      simp only [↓opStep_eq, ↓reduceIte, ↓EW, EV, Nat.reduceAdd, Nat.reduceEqDiff, Int.reduceEq, Int.reduceLT, Int.reduceLE, Int.reduceNe, seqC, retC, skipC, exitC, blockC, condC, r47_4]
      refine hK .norm _ _ (C.block ?_)
      refine (C.loop (L := L) (fun kk tm h2 => ∃ j : Nat, kk = i - j ∧ j ≤ i ∧ tg tm 0 = v ∧ tg tm 3 = .int .i64 (i : Int) ∧ tg tm 4 = .int .i64 (j : Int) ∧ p ∉ l.take j ∧ Keep nobody h h2) i (by omega)
        ⟨0, rfl, Nat.zero_le _, by simp only [↓opStep_eq, ↓reduceIte, ↓EW, EV, Nat.reduceAdd, Nat.reduceEqDiff, Int.reduceEq, Int.reduceLT, Int.reduceLE, Int.reduceNe, seqC, retC, skipC, exitC, blockC, condC, t0], by simp only [↓opStep_eq, ↓reduceIte, ↓EW, EV, Nat.reduceAdd, Nat.reduceEqDiff, Int.reduceEq, Int.reduceLT, Int.reduceLE, Int.reduceNe, seqC, retC, skipC, exitC, blockC, condC, t3], by simp only [↓opStep_eq, ↓reduceIte, ↓EW, EV, Nat.reduceAdd, Nat.reduceEqDiff, Int.reduceEq, Int.reduceLT, Int.reduceLE, Int.reduceNe, seqC, retC, skipC, exitC, blockC, condC]; rfl, by simp, k1⟩ ?_ : C (loopB l47_8) _ L _ h1 fun e tm h2 => Keep nobody h h2 ∧ (e = .exit 2 ∧ tg tm 0 = v ∧ tg tm 3 = .int .i64 (i : Int) ∧ p ∉ l.take i ∨ e = .ret ∧ tg tm 2 = .bool true ∧ ¬ l.Nodup)).mono ?_
      · rintro kk tm h2 ⟨j, rfl, hji, t0, t3, t4, hnj, k2⟩
        unfold l47_8
        refine C.seq (C.seq fun K hK => ?_)
        have hs2 := hs.keep0 k2
        by_cases gj : j < i
        · have gj' : (j : Int) < (i : Int) := by omega
          obtain ⟨q, hq⟩ : ∃ q, l[j]? = some q := ⟨_, List.getElem?_eq_getElem (by omega)⟩
          simp only [↓opStep_eq, ↓reduceIte, ↓EW, EV, Nat.reduceAdd, Nat.reduceEqDiff, Int.reduceEq, Int.reduceLT, Int.reduceLE, Int.reduceNe, seqC, retC, skipC, exitC, blockC, condC, r47_5, t3, t4, decide_eq_true gj']
          refine hK .norm _ _ (C.cond true (by simp only [↓opStep_eq, ↓reduceIte, ↓EW, EV, Nat.reduceAdd, Nat.reduceEqDiff, Int.reduceEq, Int.reduceLT, Int.reduceLE, Int.reduceNe, seqC, retC, skipC, exitC, blockC, condC]) (fun _ => C.skip (C.seq (C.block (C.seq fun K hK => ?_)))) fun g => by cases g)
          have k3 := keep_room h2 9
          have hs3 := hs2.keep0 k3
          obtain ⟨b1, o1, ix1, ld1⟩ := hs3.at hp
          obtain ⟨b2, o2, ix2, ld2⟩ := hs3.at hq
          simp only [↓opStep_eq, ↓reduceIte, ↓EW, EV, Nat.reduceAdd, Nat.reduceEqDiff, Int.reduceEq, Int.reduceLT, Int.reduceLE, Int.reduceNe, seqC, retC, skipC, exitC, blockC, condC, r47_7, t0, t3, t4, ix1, ix2, ld1, ld2, sv_eql]
          by_cases ge : p = q
          · rw [decide_eq_true ge]
            refine hK .norm _ _ (C.cond true (by simp only [↓opStep_eq, ↓reduceIte, ↓EW, EV, Nat.reduceAdd, Nat.reduceEqDiff, Int.reduceEq, Int.reduceLT, Int.reduceLE, Int.reduceNe, seqC, retC, skipC, exitC, blockC, condC]) (fun _ => C.seq fun K hK => ?_) fun g => by cases g)
            simp only [↓opStep_eq, ↓reduceIte, ↓EW, EV, Nat.reduceAdd, Nat.reduceEqDiff, Int.reduceEq, Int.reduceLT, Int.reduceLE, Int.reduceNe, seqC, retC, skipC, exitC, blockC, condC, r47_8]
            refine hK .norm _ _ (C.ret ⟨k2.then k3, .inr ⟨rfl, by simp only [↓opStep_eq, ↓reduceIte, ↓EW, EV, Nat.reduceAdd, Nat.reduceEqDiff, Int.reduceEq, Int.reduceLT, Int.reduceLE, Int.reduceNe, seqC, retC, skipC, exitC, blockC, condC], fun hnn => ?_⟩⟩)
            have h2' : (l.take (i + 1)).Nodup := hnn.sublist (List.take_sublist _ _)
            refine ((nodup_take hp).1 h2').2 ?_
            rw [ge]
            refine List.mem_of_getElem? (i := j) ?_
            rw [List.getElem?_take, if_pos gj, hq]
          · rw [decide_eq_false ge]
            refine hK .norm _ _ (C.cond false (by simp only [↓opStep_eq, ↓reduceIte, ↓EW, EV, Nat.reduceAdd, Nat.reduceEqDiff, Int.reduceEq, Int.reduceLT, Int.reduceLE, Int.reduceNe, seqC, retC, skipC, exitC, blockC, condC]) (fun g => by cases g) fun _ => C.skip fun K hK => ?_)
            simp only [↓opStep_eq, ↓reduceIte, ↓EW, EV, Nat.reduceAdd, Nat.reduceEqDiff, Int.reduceEq, Int.reduceLT, Int.reduceLE, Int.reduceNe, seqC, retC, skipC, exitC, blockC, condC, r47_6, t4, wrap_succ j (by omega)]
            refine hK .norm _ _ ⟨i - (j + 1), by omega, j + 1, rfl, by omega, by simp only [↓opStep_eq, ↓reduceIte, ↓EW, EV, Nat.reduceAdd, Nat.reduceEqDiff, Int.reduceEq, Int.reduceLT, Int.reduceLE, Int.reduceNe, seqC, retC, skipC, exitC, blockC, condC, t0], by simp only [↓opStep_eq, ↓reduceIte, ↓EW, EV, Nat.reduceAdd, Nat.reduceEqDiff, Int.reduceEq, Int.reduceLT, Int.reduceLE, Int.reduceNe, seqC, retC, skipC, exitC, blockC, condC, t3], by simp only [↓opStep_eq, ↓reduceIte, ↓EW, EV, Nat.reduceAdd, Nat.reduceEqDiff, Int.reduceEq, Int.reduceLT, Int.reduceLE, Int.reduceNe, seqC, retC, skipC, exitC, blockC, condC], ?_, k2.then k3⟩
            rw [List.take_add_one, hq]
            simp [hnj, ge]
        · have gj' : ¬ (j : Int) < (i : Int) := by omega
          obtain rfl : j = i := by omega
          simp only [↓opStep_eq, ↓reduceIte, ↓EW, EV, Nat.reduceAdd, Nat.reduceEqDiff, Int.reduceEq, Int.reduceLT, Int.reduceLE, Int.reduceNe, seqC, retC, skipC, exitC, blockC, condC, r47_5, t3, t4, decide_eq_false gj']
          refine hK .norm _ _ (C.cond false (by simp only [↓opStep_eq, ↓reduceIte, ↓EW, EV, Nat.reduceAdd, Nat.reduceEqDiff, Int.reduceEq, Int.reduceLT, Int.reduceLE, Int.reduceNe, seqC, retC, skipC, exitC, blockC, condC]) (fun g => by cases g) fun _ => C.exit ⟨k2, .inl ⟨rfl, by simp only [↓opStep_eq, ↓reduceIte, ↓EW, EV, Nat.reduceAdd, Nat.reduceEqDiff, Int.reduceEq, Int.reduceLT, Int.reduceLE, Int.reduceNe, seqC, retC, skipC, exitC, blockC, condC, t0], by simp only [↓opStep_eq, ↓reduceIte, ↓EW, EV, Nat.reduceAdd, Nat.reduceEqDiff, Int.reduceEq, Int.reduceLT, Int.reduceLE, Int.reduceNe, seqC, retC, skipC, exitC, blockC, condC, t3], hnj⟩⟩)
      · rintro e tm h2 ⟨k2, (⟨rfl, t0, t3, hnj⟩ | ⟨rfl, t2, hno⟩)⟩
        · show if 2 = 2 then _ else _
          rw [if_pos rfl]
          intro K hK
          simp only [↓opStep_eq, ↓reduceIte, ↓EW, EV, Nat.reduceAdd, Nat.reduceEqDiff, Int.reduceEq, Int.reduceLT, Int.reduceLE, Int.reduceNe, seqC, retC, skipC, exitC, blockC, condC, r47_3, t3, wrap_succ i (by omega)]
          exact hK .norm _ _ ⟨l.length - (i + 1), by omega, i + 1, rfl, by omega, by simp only [↓opStep_eq, ↓reduceIte, ↓EW, EV, Nat.reduceAdd, Nat.reduceEqDiff, Int.reduceEq, Int.reduceLT, Int.reduceLE, Int.reduceNe, seqC, retC, skipC, exitC, blockC, condC, t0], by simp only [↓opStep_eq, ↓reduceIte, ↓EW, EV, Nat.reduceAdd, Nat.reduceEqDiff, Int.reduceEq, Int.reduceLT, Int.reduceLE, Int.reduceNe, seqC, retC, skipC, exitC, blockC, condC], (nodup_take hp).2 ⟨hnd, hnj⟩, k2⟩
        · exact ⟨k2, .inr ⟨rfl, t2, hno⟩⟩
    · have g' : ¬ (i : Int) < (l.length : Int) := by omega
      obtain rfl : i = l.length := by omega
      rw [List.take_length] at hnd
      simp only [↓opStep_eq, ↓reduceIte, ↓EW, EV, Nat.reduceAdd, Nat.reduceEqDiff, Int.reduceEq, Int.reduceLT, Int.reduceLE, Int.reduceNe, seqC, retC, skipC, exitC, blockC, condC, r47_2, t0, t3, hs1.len, decide_eq_false g']
      refine hK .norm _ _ (C.cond false (by simp only [↓opStep_eq, ↓reduceIte, ↓EW, EV, Nat.reduceAdd, Nat.reduceEqDiff, Int.reduceEq, Int.reduceLT, Int.reduceLE, Int.reduceNe, seqC, retC, skipC, exitC, blockC, condC]) (fun g => by cases g) fun _ => C.exit ⟨k1, .inl ⟨rfl, hnd⟩⟩)
  · rintro e tm h1 ⟨k1, (⟨rfl, hq⟩ | ⟨rfl, t2, hq⟩)⟩
    · show if 0 = 0 then _ else _
      rw [if_pos rfl]
      refine C.seq fun K hK => ?_
      simp only [↓opStep_eq, ↓reduceIte, ↓EW, EV, Nat.reduceAdd, Nat.reduceEqDiff, Int.reduceEq, Int.reduceLT, Int.reduceLE, Int.reduceNe, seqC, retC, skipC, exitC, blockC, condC, r47_9]
      refine hK .norm _ _ (C.ret ⟨.inr rfl, _, rfl, ?_, k1⟩)
      simp only [↓opStep_eq, ↓reduceIte, ↓EW, EV, Nat.reduceAdd, Nat.reduceEqDiff, Int.reduceEq, Int.reduceLT, Int.reduceLE, Int.reduceNe, seqC, retC, skipC, exitC, blockC, condC, resOf, decide_eq_true hq]
    · refine ⟨.inr rfl, _, rfl, ?_, k1⟩
      simp only [↓opStep_eq, ↓reduceIte, ↓EW, EV, Nat.reduceAdd, Nat.reduceEqDiff, Int.reduceEq, Int.reduceLT, Int.reduceLE, Int.reduceNe, seqC, retC, skipC, exitC, blockC, condC, resOf, decide_eq_false hq, t2]
theorem hm_int (k : Nat) : hm k = (decide ((k : Int) = 1) || decide ((k : Int) = 10)) := by
  rw [Bool.eq_iff_iff]; simp [hm]; omega
theorem hn_int (k : Nat) : hn k = decide ((k : Int) = 11) := by
  rw [Bool.eq_iff_iff]; simp [hn]; omega
theorem hg_int (k : Nat) : hg k = (decide (2 ≤ (k : Int)) && decide ((k : Int) ≤ 5)) := by
  rw [Bool.eq_iff_iff]; simp [hg]; omega
theorem hv_int (k : Nat) : hv k = (hg k || decide ((k : Int) = 8)) := by
  rw [Bool.eq_iff_iff]; simp [hg, hv]; omega
theorem hf_int (k : Nat) : hf k = (hg k || decide ((k : Int) = 9)) := by
  rw [Bool.eq_iff_iff]; simp [hg, hf]; omega
theorem hc_int (k : Nat) : hc k = decide ((k : Int) = 5) := by
  rw [Bool.eq_iff_iff]; simp [hc]; omega
theorem hb_int (k : Nat) : hb k = (decide ((k : Int) = 6) || decide ((k : Int) = 7)) := by
  rw [Bool.eq_iff_iff]; simp [hb]; omega
section
variable {L n : Nat} {tm : T Value} {h : H} {b : Nat} {K : KE} {c : Cmd} {k : Nat} {call : CallT}
theorem reg39_4 (hkk : c.kind = (k : Int)) (hl : ∀ o s, loadOne h (.pointer (some ⟨b, o, s⟩)) = c.cells[o]?) (t1 : tg tm 1 = .pointer (some ⟨b, 0, none⟩)) {len : Int} (t3 : tg tm 3 = .int .i64 len) :
    r39_4 call L tm [] h K = K .norm (T.set tm 32 (.bool ((decide (len < 1) || decide (8 < len)) || (decide (1 < len) && !hm k)))) [] h := by
  rw [hm_int]
  by_cases g1 : len < 1 <;> by_cases g2 : 8 < len <;> by_cases g3 : 1 < len <;> by_cases g4 : (k : Int) = 1 <;> by_cases g5 : (k : Int) = 10 <;> simp only [↓opStep_eq, ↓reduceIte, ↓EW, EV, Nat.reduceAdd, Nat.reduceEqDiff, Int.reduceEq, Int.reduceLT, Int.reduceLE, Int.reduceNe, seqC, retC, skipC, exitC, blockC, condC, r39_4, t1, t3, hl, hcell, hkk, g1, g2, g3, g4, g5, Bool.true_or, Bool.false_or, Bool.or_true, Bool.or_false, Bool.true_and, Bool.false_and, Bool.and_true, Bool.and_false]
theorem reg39_9 {p : List UInt8} {i : Nat} (hl : ∀ o s, loadOne h (.pointer (some ⟨b, o, s⟩)) = c.cells[o]?) (hs : Strs h c.kv c.keys) (hp : c.keys[i]? = some p) (t1 : tg tm 1 = .pointer (some ⟨b, 0, none⟩)) (t4 : tg tm 4 = .int .i64 (i : Int)) :
    r39_9 call L tm [] h K = K .norm (T.set tm 53 (.bool (!lenB p))) [] h := by
  obtain ⟨bb, oo, ix, lx⟩ := hs.at hp
  have e : lenB p = (!decide ((p.length : Int) < 1) && !decide (32 < (p.length : Int))) := by
    unfold lenB; rw [Bool.eq_iff_iff]; simp; omega
  rw [e]
  by_cases g1 : (p.length : Int) < 1 <;> by_cases g2 : 32 < (p.length : Int) <;> simp only [↓opStep_eq, ↓reduceIte, ↓EW, EV, Nat.reduceAdd, Nat.reduceEqDiff, Int.reduceEq, Int.reduceLT, Int.reduceLE, Int.reduceNe, seqC, retC, skipC, exitC, blockC, condC, r39_9, t1, t4, hl, hcell, ix, lx, sv_len, g1, g2, Bool.true_or, Bool.false_or, Bool.or_true, Bool.or_false, Bool.true_and, Bool.false_and, Bool.and_true, Bool.and_false]
end
theorem keys_law (L n : Nat) (hL : 1000 < L) {c : Cmd} {k : Nat} {h : H} (hkk : c.kind = (k : Int)) (hs : Strs h c.kv c.keys) (sl : c.keys.length ≤ 100) :
    Sp (CF L (n + 2)) 39 [c.v] h fun r h' => r = .bool (keysB (loK k) (hiK k) c.keys) ∧ Keep nobody h h' := by
  have hcc : (Value.cells c.v).toList = c.cells := rfl
  have k1 := Keep.new h (.rw c.cells (some 26))
  have b1 := Has.new h (.rw c.cells (some 26))
  have hs1 := hs.keep0 k1
  refine Sp.body f39 (by simp) ?_
  unfold c39
  refine C.seq fun K hK => ?_
  simp only [↓opStep_eq, ↓reduceIte, ↓EW, EV, Nat.reduceAdd, Nat.reduceEqDiff, Int.reduceEq, Int.reduceLT, Int.reduceLE, Int.reduceNe, seqC, retC, skipC, exitC, blockC, condC, r39_0, hcc]
  generalize h.new (.rw c.cells (some 26)) = h1 at *
  have ld : ∀ o s, loadOne h1 (.pointer (some ⟨h.next, o, s⟩)) = c.cells[o]? := fun o s => loadOne_has b1 rfl
  refine hK .norm _ _ (C.seq fun K hK => ?_)
  simp only [↓opStep_eq, ↓reduceIte, ↓EW, EV, Nat.reduceAdd, Nat.reduceEqDiff, Int.reduceEq, Int.reduceLT, Int.reduceLE, Int.reduceNe, seqC, retC, skipC, exitC, blockC, condC, r39_1, ld, hcell, hs1.len]
  refine hK .norm _ _ (C.seq (C.seq fun K hK => ?_))
  by_cases g11 : (k : Int) = 11
  · simp only [↓opStep_eq, ↓reduceIte, ↓EW, EV, Nat.reduceAdd, Nat.reduceEqDiff, Int.reduceEq, Int.reduceLT, Int.reduceLE, Int.reduceNe, seqC, retC, skipC, exitC, blockC, condC, r39_2, ld, hcell, hkk, g11]
    refine hK .norm _ _ (C.cond true (by simp only [↓opStep_eq, ↓reduceIte, ↓EW, EV, Nat.reduceAdd, Nat.reduceEqDiff, Int.reduceEq, Int.reduceLT, Int.reduceLE, Int.reduceNe, seqC, retC, skipC, exitC, blockC, condC]) (fun _ => C.seq fun K hK => ?_) fun g => by cases g)
    simp only [↓opStep_eq, ↓reduceIte, ↓EW, EV, Nat.reduceAdd, Nat.reduceEqDiff, Int.reduceEq, Int.reduceLT, Int.reduceLE, Int.reduceNe, seqC, retC, skipC, exitC, blockC, condC, r39_3]
    refine hK .norm _ _ (C.ret ⟨.inr rfl, _, rfl, ?_, k1⟩)
    obtain rfl : k = 11 := by omega
    simp only [↓opStep_eq, ↓reduceIte, ↓EW, EV, Nat.reduceAdd, Nat.reduceEqDiff, Int.reduceEq, Int.reduceLT, Int.reduceLE, Int.reduceNe, seqC, retC, skipC, exitC, blockC, condC, resOf]
    congr 1
    rw [Bool.eq_iff_iff]
    simp only [keysB, loK, hiK, hm, hn, decide_eq_true_eq, Bool.and_eq_true]
    constructor
    · intro e
      have : c.keys = [] := List.length_eq_zero_iff.1 (by omega)
      rw [this]; simp
    · rintro ⟨⟨_, e⟩, _⟩
      have e : c.keys.length ≤ 0 := of_decide_eq_true e
      omega
  · simp only [↓opStep_eq, ↓reduceIte, ↓EW, EV, Nat.reduceAdd, Nat.reduceEqDiff, Int.reduceEq, Int.reduceLT, Int.reduceLE, Int.reduceNe, seqC, retC, skipC, exitC, blockC, condC, r39_2, ld, hcell, hkk, g11]
    refine hK .norm _ _ (C.cond false (by simp only [↓opStep_eq, ↓reduceIte, ↓EW, EV, Nat.reduceAdd, Nat.reduceEqDiff, Int.reduceEq, Int.reduceLT, Int.reduceLE, Int.reduceNe, seqC, retC, skipC, exitC, blockC, condC]) (fun g => by cases g) fun _ => C.skip (C.seq (C.seq fun K hK => ?_)))
    rw [box_f, reg39_4 (len := (c.keys.length : Int)) hkk ld (by simp only [↓opStep_eq, ↓reduceIte, ↓EW, EV, Nat.reduceAdd, Nat.reduceEqDiff, Int.reduceEq, Int.reduceLT, Int.reduceLE, Int.reduceNe, seqC, retC, skipC, exitC, blockC, condC]) (by simp only [↓opStep_eq, ↓reduceIte, ↓EW, EV, Nat.reduceAdd, Nat.reduceEqDiff, Int.reduceEq, Int.reduceLT, Int.reduceLE, Int.reduceNe, seqC, retC, skipC, exitC, blockC, condC])]
    have hnf : hn k = false := by rw [hn_int]; exact decide_eq_false g11
    have e0 : ((decide ((c.keys.length : Int) < 1) || decide (8 < (c.keys.length : Int))) || (decide (1 < (c.keys.length : Int)) && !hm k)) = !(decide (loK k ≤ c.keys.length) && decide (c.keys.length ≤ hiK k)) := by
      unfold loK hiK
      rw [hnf]
      exact rng_eq c.keys.length (hm k)
    rw [e0]
    generalize hr : (decide (loK k ≤ c.keys.length) && decide (c.keys.length ≤ hiK k)) = rng at *
    have hkb : keysB (loK k) (hiK k) c.keys = (rng && (c.keys.all lenB && decide c.keys.Nodup)) := by unfold keysB; rw [hr]
    rw [hkb] at hK
    cases rng with
    | false =>
      refine hK .norm _ _ (C.cond true (by simp only [↓opStep_eq, ↓reduceIte, ↓EW, EV, Nat.reduceAdd, Nat.reduceEqDiff, Int.reduceEq, Int.reduceLT, Int.reduceLE, Int.reduceNe, seqC, retC, skipC, exitC, blockC, condC]) (fun _ => C.seq fun K hK => ?_) fun g => by cases g)
      simp only [↓opStep_eq, ↓reduceIte, ↓EW, EV, Nat.reduceAdd, Nat.reduceEqDiff, Int.reduceEq, Int.reduceLT, Int.reduceLE, Int.reduceNe, seqC, retC, skipC, exitC, blockC, condC, r39_5]
      refine hK .norm _ _ (C.ret ⟨.inr rfl, _, rfl, ?_, k1⟩)
      simp only [↓opStep_eq, ↓reduceIte, ↓EW, EV, Nat.reduceAdd, Nat.reduceEqDiff, Int.reduceEq, Int.reduceLT, Int.reduceLE, Int.reduceNe, seqC, retC, skipC, exitC, blockC, condC, resOf, Bool.true_or, Bool.false_or, Bool.or_true, Bool.or_false, Bool.true_and, Bool.false_and, Bool.and_true, Bool.and_false]
    | true =>
      refine hK .norm _ _ (C.cond false (by simp only [↓opStep_eq, ↓reduceIte, ↓EW, EV, Nat.reduceAdd, Nat.reduceEqDiff, Int.reduceEq, Int.reduceLT, Int.reduceLE, Int.reduceNe, seqC, retC, skipC, exitC, blockC, condC]) (fun g => by cases g) fun _ => C.skip (C.seq (C.seq fun K hK => ?_)))
      simp only [↓opStep_eq, ↓reduceIte, ↓EW, EV, Nat.reduceAdd, Nat.reduceEqDiff, Int.reduceEq, Int.reduceLT, Int.reduceLE, Int.reduceNe, seqC, retC, skipC, exitC, blockC, condC, r39_6]
      refine hK .norm _ _ (C.block ?_)
      refine (C.loop (L := L) (fun kk tm h1' => ∃ i : Nat, kk = c.keys.length - i ∧ i ≤ c.keys.length ∧ tg tm 1 = .pointer (some ⟨h.next, 0, none⟩) ∧ tg tm 3 = .int .i64 (c.keys.length : Int) ∧ tg tm 4 = .int .i64 (i : Int) ∧ (c.keys.take i).all lenB = true ∧ h1' = h1) c.keys.length (by omega)
        ⟨0, rfl, Nat.zero_le _, by simp only [↓opStep_eq, ↓reduceIte, ↓EW, EV, Nat.reduceAdd, Nat.reduceEqDiff, Int.reduceEq, Int.reduceLT, Int.reduceLE, Int.reduceNe, seqC, retC, skipC, exitC, blockC, condC], by simp only [↓opStep_eq, ↓reduceIte, ↓EW, EV, Nat.reduceAdd, Nat.reduceEqDiff, Int.reduceEq, Int.reduceLT, Int.reduceLE, Int.reduceNe, seqC, retC, skipC, exitC, blockC, condC], by simp only [↓opStep_eq, ↓reduceIte, ↓EW, EV, Nat.reduceAdd, Nat.reduceEqDiff, Int.reduceEq, Int.reduceLT, Int.reduceLE, Int.reduceNe, seqC, retC, skipC, exitC, blockC, condC]; rfl, rfl, rfl⟩ ?_ : C (loopB l39_11) _ L _ h1 fun e tm h1' => h1' = h1 ∧ (e = .exit 0 ∧ c.keys.all lenB = true ∧ tg tm 1 = .pointer (some ⟨h.next, 0, none⟩) ∨ e = .ret ∧ tg tm 2 = .bool false ∧ c.keys.all lenB = false)).mono ?_
      · rintro kk tm h1' ⟨i, rfl, hil, t1, t3, t4, hall, rfl⟩
        unfold l39_11
        refine C.seq (C.seq fun K hK => ?_)
        by_cases g : i < c.keys.length
        · have g' : (i : Int) < (c.keys.length : Int) := by omega
          obtain ⟨p, hp⟩ : ∃ p, c.keys[i]? = some p := ⟨_, List.getElem?_eq_getElem g⟩
          simp only [↓opStep_eq, ↓reduceIte, ↓EW, EV, Nat.reduceAdd, Nat.reduceEqDiff, Int.reduceEq, Int.reduceLT, Int.reduceLE, Int.reduceNe, seqC, retC, skipC, exitC, blockC, condC, r39_7, t3, t4, decide_eq_true g']
          refine hK .norm _ _ (C.cond true (by simp only [↓opStep_eq, ↓reduceIte, ↓EW, EV, Nat.reduceAdd, Nat.reduceEqDiff, Int.reduceEq, Int.reduceLT, Int.reduceLE, Int.reduceNe, seqC, retC, skipC, exitC, blockC, condC]) (fun _ => C.skip (C.seq (C.block (C.seq fun K hK => ?_)))) fun g => by cases g)
          rw [box_f, reg39_9 ld hs1 hp (by simp only [↓opStep_eq, ↓reduceIte, ↓EW, EV, Nat.reduceAdd, Nat.reduceEqDiff, Int.reduceEq, Int.reduceLT, Int.reduceLE, Int.reduceNe, seqC, retC, skipC, exitC, blockC, condC, t1]) (by simp only [↓opStep_eq, ↓reduceIte, ↓EW, EV, Nat.reduceAdd, Nat.reduceEqDiff, Int.reduceEq, Int.reduceLT, Int.reduceLE, Int.reduceNe, seqC, retC, skipC, exitC, blockC, condC, t4])]
          cases hb : lenB p with
          | false =>
            refine hK .norm _ _ (C.cond true (by simp only [↓opStep_eq, ↓reduceIte, ↓EW, EV, Nat.reduceAdd, Nat.reduceEqDiff, Int.reduceEq, Int.reduceLT, Int.reduceLE, Int.reduceNe, seqC, retC, skipC, exitC, blockC, condC]) (fun _ => C.seq fun K hK => ?_) fun g => by cases g)
            simp only [↓opStep_eq, ↓reduceIte, ↓EW, EV, Nat.reduceAdd, Nat.reduceEqDiff, Int.reduceEq, Int.reduceLT, Int.reduceLE, Int.reduceNe, seqC, retC, skipC, exitC, blockC, condC, r39_10]
            refine hK .norm _ _ (C.ret ⟨rfl, .inr ⟨rfl, by simp only [↓opStep_eq, ↓reduceIte, ↓EW, EV, Nat.reduceAdd, Nat.reduceEqDiff, Int.reduceEq, Int.reduceLT, Int.reduceLE, Int.reduceNe, seqC, retC, skipC, exitC, blockC, condC], List.all_eq_false.2 ⟨p, List.mem_of_getElem? hp, by simp [hb]⟩⟩⟩)
          | true =>
            refine hK .norm _ _ (C.cond false (by simp only [↓opStep_eq, ↓reduceIte, ↓EW, EV, Nat.reduceAdd, Nat.reduceEqDiff, Int.reduceEq, Int.reduceLT, Int.reduceLE, Int.reduceNe, seqC, retC, skipC, exitC, blockC, condC]) (fun g => by cases g) fun _ => C.skip fun K hK => ?_)
            simp only [↓opStep_eq, ↓reduceIte, ↓EW, EV, Nat.reduceAdd, Nat.reduceEqDiff, Int.reduceEq, Int.reduceLT, Int.reduceLE, Int.reduceNe, seqC, retC, skipC, exitC, blockC, condC, r39_8, t4, wrap_succ i (by omega)]
            refine hK .norm _ _ ⟨c.keys.length - (i + 1), by omega, i + 1, rfl, by omega, by simp only [↓opStep_eq, ↓reduceIte, ↓EW, EV, Nat.reduceAdd, Nat.reduceEqDiff, Int.reduceEq, Int.reduceLT, Int.reduceLE, Int.reduceNe, seqC, retC, skipC, exitC, blockC, condC, t1], by simp only [↓opStep_eq, ↓reduceIte, ↓EW, EV, Nat.reduceAdd, Nat.reduceEqDiff, Int.reduceEq, Int.reduceLT, Int.reduceLE, Int.reduceNe, seqC, retC, skipC, exitC, blockC, condC, t3], by simp only [↓opStep_eq, ↓reduceIte, ↓EW, EV, Nat.reduceAdd, Nat.reduceEqDiff, Int.reduceEq, Int.reduceLT, Int.reduceLE, Int.reduceNe, seqC, retC, skipC, exitC, blockC, condC], ?_, rfl⟩
            rw [List.take_add_one, hp, List.all_append, hall]
            simp [hb]
        · have g' : ¬ (i : Int) < (c.keys.length : Int) := by omega
          obtain rfl : i = c.keys.length := by omega
          rw [List.take_length] at hall
          simp only [↓opStep_eq, ↓reduceIte, ↓EW, EV, Nat.reduceAdd, Nat.reduceEqDiff, Int.reduceEq, Int.reduceLT, Int.reduceLE, Int.reduceNe, seqC, retC, skipC, exitC, blockC, condC, r39_7, t3, t4, decide_eq_false g']
          refine hK .norm _ _ (C.cond false (by simp only [↓opStep_eq, ↓reduceIte, ↓EW, EV, Nat.reduceAdd, Nat.reduceEqDiff, Int.reduceEq, Int.reduceLT, Int.reduceLE, Int.reduceNe, seqC, retC, skipC, exitC, blockC, condC]) (fun g => by cases g) fun _ => C.exit ⟨rfl, .inl ⟨rfl, hall, by simp only [↓opStep_eq, ↓reduceIte, ↓EW, EV, Nat.reduceAdd, Nat.reduceEqDiff, Int.reduceEq, Int.reduceLT, Int.reduceLE, Int.reduceNe, seqC, retC, skipC, exitC, blockC, condC, t1]⟩⟩)
      · rintro e tm h1' ⟨rfl, (⟨rfl, hall, t1⟩ | ⟨rfl, t2, hall⟩)⟩
        · show if 0 = 0 then _ else _
          rw [if_pos rfl]
          refine C.seq fun K hK => ?_
          simp only [↓opStep_eq, ↓reduceIte, ↓EW, EV, Nat.reduceAdd, Nat.reduceEqDiff, Int.reduceEq, Int.reduceLT, Int.reduceLE, Int.reduceNe, seqC, retC, skipC, exitC, blockC, condC, r39_11, t1, ld, hcell]
          refine twice_law L n hL hs1 sl _ fun r h2 hq => ?_
          obtain ⟨rfl, k2⟩ := hq
          simp only [↓opStep_eq, ↓reduceIte, ↓EW, EV, Nat.reduceAdd, Nat.reduceEqDiff, Int.reduceEq, Int.reduceLT, Int.reduceLE, Int.reduceNe, seqC, retC, skipC, exitC, blockC, condC]
          refine hK .norm _ _ (C.ret ⟨.inr rfl, _, rfl, ?_, k1.then k2⟩)
          simp only [↓opStep_eq, ↓reduceIte, ↓EW, EV, Nat.reduceAdd, Nat.reduceEqDiff, Int.reduceEq, Int.reduceLT, Int.reduceLE, Int.reduceNe, seqC, retC, skipC, exitC, blockC, condC, resOf, hall, Bool.not_not, Bool.true_or, Bool.false_or, Bool.or_true, Bool.or_false, Bool.true_and, Bool.false_and, Bool.and_true, Bool.and_false]
        · refine ⟨.inr rfl, _, rfl, ?_, k1⟩
          simp only [↓opStep_eq, ↓reduceIte, ↓EW, EV, Nat.reduceAdd, Nat.reduceEqDiff, Int.reduceEq, Int.reduceLT, Int.reduceLE, Int.reduceNe, seqC, retC, skipC, exitC, blockC, condC, resOf, hall, t2, Bool.true_or, Bool.false_or, Bool.or_true, Bool.or_false, Bool.true_and, Bool.false_and, Bool.and_true, Bool.and_false]
end Go.Proofs.YtilpiiafjehbnaaDoor

namespace Go.Proofs.YtilpiiafjehbnaaDoor
open Go.Ev

section
variable {L n : Nat} {tm : T Value} {h : H} {b : Nat} {K : KE} {c : Cmd} {k : Nat} {call : CallT}
theorem lag8 (hb : Has h b (.rw c.cells (some 26))) : ∀ s, loadAgg 8 h (.pointer (some ⟨b, 0, s⟩)) = some c.v := fun s => loadAgg_has hb rfl (by show 0 + 8 ≤ 8; omega)
theorem reg32_1 (hL : 1000 < L) (hkk : c.kind = (k : Int)) (hs : Strs h c.kv c.keys) (sl : c.keys.length ≤ 100) (hb : Has h b (.rw c.cells (some 26))) (t1 : tg tm 1 = .pointer (some ⟨b, 0, none⟩))
    (hK : ∀ h', Keep nobody h h' → K .norm (T.set tm 26 (.bool (!mayA c k))) [] h' = true) : r32_1 (CF L (n + 2)) L tm [] h K = true := by
  have hl : ∀ o s, loadOne h (.pointer (some ⟨b, o, s⟩)) = c.cells[o]? := fun o s => loadOne_has hb rfl
  have lag := lag8 hb
  unfold mayA at hK
  by_cases g1 : (k : Int) < 1
  · rw [decide_eq_false (show ¬ 1 ≤ k by omega)] at hK
    simp only [↓opStep_eq, ↓reduceIte, ↓EW, EV, Nat.reduceAdd, Nat.reduceEqDiff, Int.reduceEq, Int.reduceLT, Int.reduceLE, Int.reduceNe, seqC, retC, skipC, exitC, blockC, condC, r32_1, t1, hl, hcell, hkk, g1]
    exact hK h (.refl _ _)
  rw [decide_eq_true (show 1 ≤ k by omega)] at hK
  by_cases g2 : 11 < (k : Int)
  · rw [decide_eq_false (show ¬ k ≤ 11 by omega)] at hK
    simp only [↓opStep_eq, ↓reduceIte, ↓EW, EV, Nat.reduceAdd, Nat.reduceEqDiff, Int.reduceEq, Int.reduceLT, Int.reduceLE, Int.reduceNe, seqC, retC, skipC, exitC, blockC, condC, r32_1, t1, hl, hcell, hkk, g1, g2]
    exact hK h (.refl _ _)
  rw [decide_eq_true (show k ≤ 11 by omega)] at hK
  by_cases g3 : c.ten < 0
  · rw [decide_eq_false (show ¬ 0 ≤ c.ten by omega)] at hK
    simp only [↓opStep_eq, ↓reduceIte, ↓EW, EV, Nat.reduceAdd, Nat.reduceEqDiff, Int.reduceEq, Int.reduceLT, Int.reduceLE, Int.reduceNe, seqC, retC, skipC, exitC, blockC, condC, r32_1, t1, hl, hcell, hkk, g1, g2, g3]
    exact hK h (.refl _ _)
  rw [decide_eq_true (show 0 ≤ c.ten by omega)] at hK
  by_cases g4 : 4 ≤ c.ten
  · rw [decide_eq_false (show ¬ c.ten < 4 by omega)] at hK
    simp only [↓opStep_eq, ↓reduceIte, ↓EW, EV, Nat.reduceAdd, Nat.reduceEqDiff, Int.reduceEq, Int.reduceLT, Int.reduceLE, Int.reduceNe, seqC, retC, skipC, exitC, blockC, condC, r32_1, t1, hl, hcell, hkk, g1, g2, g3, g4]
    exact hK h (.refl _ _)
  rw [decide_eq_true (show c.ten < 4 by omega)] at hK
  simp only [↓opStep_eq, ↓reduceIte, ↓EW, EV, Nat.reduceAdd, Nat.reduceEqDiff, Int.reduceEq, Int.reduceLT, Int.reduceLE, Int.reduceNe, seqC, retC, skipC, exitC, blockC, condC, r32_1, t1, hl, hcell, hkk, g1, g2, g3, g4, lag]
  refine keys_law L n hL hkk hs sl _ fun r h2 hq => ?_
  obtain ⟨rfl, k2⟩ := hq
  simp only [↓opStep_eq, ↓reduceIte, ↓EW, EV, Nat.reduceAdd, Nat.reduceEqDiff, Int.reduceEq, Int.reduceLT, Int.reduceLE, Int.reduceNe, seqC, retC, skipC, exitC, blockC, condC]
  exact hK h2 k2
theorem reg32_3 (hkk : c.kind = (k : Int)) (hl : ∀ o s, loadOne h (.pointer (some ⟨b, o, s⟩)) = c.cells[o]?) (t1 : tg tm 1 = .pointer (some ⟨b, 0, none⟩)) :
    r32_3 call L tm [] h K = K .norm (T.set tm 3 (.bool (hg k))) [] h := by
  rw [hg_int]
  by_cases g1 : 2 ≤ (k : Int) <;> by_cases g2 : (k : Int) ≤ 5 <;> simp only [↓opStep_eq, ↓reduceIte, ↓EW, EV, Nat.reduceAdd, Nat.reduceEqDiff, Int.reduceEq, Int.reduceLT, Int.reduceLE, Int.reduceNe, seqC, retC, skipC, exitC, blockC, condC, r32_3, t1, hl, hcell, hkk, g1, g2, Bool.true_or, Bool.false_or, Bool.or_true, Bool.or_false, Bool.true_and, Bool.false_and, Bool.and_true, Bool.and_false]
theorem reg32_4 (hkk : c.kind = (k : Int)) (hl : ∀ o s, loadOne h (.pointer (some ⟨b, o, s⟩)) = c.cells[o]?) (t1 : tg tm 1 = .pointer (some ⟨b, 0, none⟩)) (t3 : tg tm 3 = .bool (hg k)) :
    r32_4 call L tm [] h K = K .norm (T.set tm 52 (.bool (!(!decide (512 < (c.val.size : Int)) && (hv k || decide ((c.val.size : Int) = 0)))))) [] h := by
  rw [hv_int]
  generalize hg k = gg at *
  cases gg <;> by_cases g1 : 512 < (c.val.size : Int) <;> by_cases g2 : (c.val.size : Int) = 0 <;> by_cases g3 : (k : Int) = 8 <;> simp only [↓opStep_eq, ↓reduceIte, ↓EW, EV, Nat.reduceAdd, Nat.reduceEqDiff, Int.reduceEq, Int.reduceLT, Int.reduceLE, Int.reduceNe, seqC, retC, skipC, exitC, blockC, condC, r32_4, t1, t3, hl, hcell, hkk, lenStr_string, str_nempty, g1, g2, g3, Bool.true_or, Bool.false_or, Bool.or_true, Bool.or_false, Bool.true_and, Bool.false_and, Bool.and_true, Bool.and_false]
theorem reg32_6 (hkk : c.kind = (k : Int)) (hl : ∀ o s, loadOne h (.pointer (some ⟨b, o, s⟩)) = c.cells[o]?) (t1 : tg tm 1 = .pointer (some ⟨b, 0, none⟩)) (t3 : tg tm 3 = .bool (hg k)) :
    r32_6 call L tm [] h K = K .norm (T.set tm 74 (.bool (!((!decide (c.fo < 0) && !decide (1099511627776 < c.fo)) && (hf k || decide (c.fo = 0)))))) [] h := by
  rw [hf_int]
  generalize hg k = gg at *
  cases gg <;> by_cases g1 : c.fo < 0 <;> by_cases g2 : 1099511627776 < c.fo <;> by_cases g3 : c.fo = 0 <;> by_cases g4 : (k : Int) = 9 <;> simp only [↓opStep_eq, ↓reduceIte, ↓EW, EV, Nat.reduceAdd, Nat.reduceEqDiff, Int.reduceEq, Int.reduceLT, Int.reduceLE, Int.reduceNe, seqC, retC, skipC, exitC, blockC, condC, r32_6, t1, t3, hl, hcell, hkk, g1, g2, g3, g4, Bool.true_or, Bool.false_or, Bool.or_true, Bool.or_false, Bool.true_and, Bool.false_and, Bool.and_true, Bool.and_false]
theorem reg32_8 (hkk : c.kind = (k : Int)) (hl : ∀ o s, loadOne h (.pointer (some ⟨b, o, s⟩)) = c.cells[o]?) (t1 : tg tm 1 = .pointer (some ⟨b, 0, none⟩)) (t3 : tg tm 3 = .bool (hg k)) :
    r32_8 call L tm [] h K = K .norm (T.set tm 91 (.bool (!((hg k || decide (c.flags = 0)) && (hc k || decide (c.uniq = 0)))))) [] h := by
  rw [hc_int]
  generalize hg k = gg at *
  cases gg <;> by_cases g1 : c.flags = 0 <;> by_cases g2 : c.uniq = 0 <;> by_cases g4 : (k : Int) = 5 <;> simp only [↓opStep_eq, ↓reduceIte, ↓EW, EV, Nat.reduceAdd, Nat.reduceEqDiff, Int.reduceEq, Int.reduceLT, Int.reduceLE, Int.reduceNe, seqC, retC, skipC, exitC, blockC, condC, r32_8, t1, t3, hl, hcell, hkk, g1, g2, g4, Bool.true_or, Bool.false_or, Bool.or_true, Bool.or_false, Bool.true_and, Bool.false_and, Bool.and_true, Bool.and_false]
theorem reg32_10 (hkk : c.kind = (k : Int)) (hl : ∀ o s, loadOne h (.pointer (some ⟨b, o, s⟩)) = c.cells[o]?) (t1 : tg tm 1 = .pointer (some ⟨b, 0, none⟩)) :
    r32_10 call L tm [] h K = K .norm (T.set tm 2 (.bool (hb k || decide (c.by' = 0)))) [] h := by
  rw [hb_int]
  by_cases g1 : c.by' = 0 <;> by_cases g2 : (k : Int) = 6 <;> by_cases g4 : (k : Int) = 7 <;> simp only [↓opStep_eq, ↓reduceIte, ↓EW, EV, Nat.reduceAdd, Nat.reduceEqDiff, Int.reduceEq, Int.reduceLT, Int.reduceLE, Int.reduceNe, seqC, retC, skipC, exitC, blockC, condC, r32_10, t1, hl, hcell, hkk, g1, g2, g4, Bool.true_or, Bool.false_or, Bool.or_true, Bool.or_false, Bool.true_and, Bool.false_and, Bool.and_true, Bool.and_false]
end
theorem refmay_law (L n : Nat) (hL : 1000 < L) {c : Cmd} {k : Nat} {h : H} (hkk : c.kind = (k : Int)) (hs : Strs h c.kv c.keys) (sl : c.keys.length ≤ 100) :
    Sp (CF L (n + 3)) 32 [c.v] h fun r h' => r = .bool (mayB c k) ∧ Keep nobody h h' := by
  have hcc : (Value.cells c.v).toList = c.cells := rfl
  have k1 := Keep.new h (.rw c.cells (some 26))
  have b1 := Has.new h (.rw c.cells (some 26))
  have hs1 := hs.keep0 k1
  refine Sp.body f32 (by simp) ?_
  unfold c32
  refine C.seq fun K hK => ?_
  simp only [↓opStep_eq, ↓reduceIte, ↓EW, EV, Nat.reduceAdd, Nat.reduceEqDiff, Int.reduceEq, Int.reduceLT, Int.reduceLE, Int.reduceNe, seqC, retC, skipC, exitC, blockC, condC, r32_0, hcc]
  generalize h.new (.rw c.cells (some 26)) = h1 at *
  refine hK .norm _ _ (C.seq (C.seq fun K hK => ?_))
  rw [box_f]
  refine reg32_1 (n := n) hL hkk hs1 sl b1 (by simp only [↓opStep_eq, ↓reduceIte, ↓EW, EV, Nat.reduceAdd, Nat.reduceEqDiff, Int.reduceEq, Int.reduceLT, Int.reduceLE, Int.reduceNe, seqC, retC, skipC, exitC, blockC, condC]) fun h2 k2 => ?_
  have b2 := b1.keep0 k2
  have ld : ∀ o s, loadOne h2 (.pointer (some ⟨h.next, o, s⟩)) = c.cells[o]? := fun o s => loadOne_has b2 rfl
  have kk := k1.then k2
  have e4 : (!decide (512 < (c.val.size : Int)) && (hv k || decide ((c.val.size : Int) = 0))) = (decide ((c.val.size : Int) ≤ 512) && (hv k || decide ((c.val.size : Int) = 0))) := by
    congr 1; rw [← decide_not]; congr 1; exact propext (by omega)
  have e6 : ((!decide (c.fo < 0) && !decide (1099511627776 < c.fo)) && (hf k || decide (c.fo = 0))) = (decide (0 ≤ c.fo) && decide (c.fo ≤ 1099511627776) && (hf k || decide (c.fo = 0))) := by
    congr 1; congr 1 <;> (rw [← decide_not]; congr 1; exact propext (by omega))
  cases hA : mayA c k with
  | false =>
    have m : mayB c k = false := by unfold mayB; rw [hA]; rfl
    refine hK .norm _ _ (C.cond true (by simp only [↓opStep_eq, ↓reduceIte, ↓EW, EV, Nat.reduceAdd, Nat.reduceEqDiff, Int.reduceEq, Int.reduceLT, Int.reduceLE, Int.reduceNe, seqC, retC, skipC, exitC, blockC, condC]) (fun _ => C.seq fun K hK => ?_) fun g => by cases g)
    simp only [↓opStep_eq, ↓reduceIte, ↓EW, EV, Nat.reduceAdd, Nat.reduceEqDiff, Int.reduceEq, Int.reduceLT, Int.reduceLE, Int.reduceNe, seqC, retC, skipC, exitC, blockC, condC, r32_2]
    refine hK .norm _ _ (C.ret ⟨.inr rfl, _, rfl, ?_, kk⟩)
    simp only [↓opStep_eq, ↓reduceIte, ↓EW, EV, Nat.reduceAdd, Nat.reduceEqDiff, Int.reduceEq, Int.reduceLT, Int.reduceLE, Int.reduceNe, seqC, retC, skipC, exitC, blockC, condC, resOf, m]
  | true =>
    refine hK .norm _ _ (C.cond false (by simp only [↓opStep_eq, ↓reduceIte, ↓EW, EV, Nat.reduceAdd, Nat.reduceEqDiff, Int.reduceEq, Int.reduceLT, Int.reduceLE, Int.reduceNe, seqC, retC, skipC, exitC, blockC, condC]) (fun g => by cases g) fun _ => C.skip (C.seq fun K hK => ?_))
    rw [box_f, reg32_3 hkk ld (by simp only [↓opStep_eq, ↓reduceIte, ↓EW, EV, Nat.reduceAdd, Nat.reduceEqDiff, Int.reduceEq, Int.reduceLT, Int.reduceLE, Int.reduceNe, seqC, retC, skipC, exitC, blockC, condC])]
    refine hK .norm _ _ (C.seq (C.seq fun K hK => ?_))
    rw [box_f, reg32_4 hkk ld (by simp only [↓opStep_eq, ↓reduceIte, ↓EW, EV, Nat.reduceAdd, Nat.reduceEqDiff, Int.reduceEq, Int.reduceLT, Int.reduceLE, Int.reduceNe, seqC, retC, skipC, exitC, blockC, condC]) (by simp only [↓opStep_eq, ↓reduceIte, ↓EW, EV, Nat.reduceAdd, Nat.reduceEqDiff, Int.reduceEq, Int.reduceLT, Int.reduceLE, Int.reduceNe, seqC, retC, skipC, exitC, blockC, condC]), e4]
    cases h4 : (decide ((c.val.size : Int) ≤ 512) && (hv k || decide ((c.val.size : Int) = 0))) with
    | false =>
      have m : mayB c k = false := by unfold mayB; rw [hA, h4]; rfl
      refine hK .norm _ _ (C.cond true (by simp only [↓opStep_eq, ↓reduceIte, ↓EW, EV, Nat.reduceAdd, Nat.reduceEqDiff, Int.reduceEq, Int.reduceLT, Int.reduceLE, Int.reduceNe, seqC, retC, skipC, exitC, blockC, condC]) (fun _ => C.seq fun K hK => ?_) fun g => by cases g)
      simp only [↓opStep_eq, ↓reduceIte, ↓EW, EV, Nat.reduceAdd, Nat.reduceEqDiff, Int.reduceEq, Int.reduceLT, Int.reduceLE, Int.reduceNe, seqC, retC, skipC, exitC, blockC, condC, r32_5]
      refine hK .norm _ _ (C.ret ⟨.inr rfl, _, rfl, ?_, kk⟩)
      simp only [↓opStep_eq, ↓reduceIte, ↓EW, EV, Nat.reduceAdd, Nat.reduceEqDiff, Int.reduceEq, Int.reduceLT, Int.reduceLE, Int.reduceNe, seqC, retC, skipC, exitC, blockC, condC, resOf, m]
    | true =>
      refine hK .norm _ _ (C.cond false (by simp only [↓opStep_eq, ↓reduceIte, ↓EW, EV, Nat.reduceAdd, Nat.reduceEqDiff, Int.reduceEq, Int.reduceLT, Int.reduceLE, Int.reduceNe, seqC, retC, skipC, exitC, blockC, condC]) (fun g => by cases g) fun _ => C.skip (C.seq (C.seq fun K hK => ?_)))
      rw [box_f, reg32_6 hkk ld (by simp only [↓opStep_eq, ↓reduceIte, ↓EW, EV, Nat.reduceAdd, Nat.reduceEqDiff, Int.reduceEq, Int.reduceLT, Int.reduceLE, Int.reduceNe, seqC, retC, skipC, exitC, blockC, condC]) (by simp only [↓opStep_eq, ↓reduceIte, ↓EW, EV, Nat.reduceAdd, Nat.reduceEqDiff, Int.reduceEq, Int.reduceLT, Int.reduceLE, Int.reduceNe, seqC, retC, skipC, exitC, blockC, condC]), e6]
      cases h6 : (decide (0 ≤ c.fo) && decide (c.fo ≤ 1099511627776) && (hf k || decide (c.fo = 0))) with
      | false =>
        have m : mayB c k = false := by unfold mayB; rw [hA, h4, h6]; rfl
        refine hK .norm _ _ (C.cond true (by simp only [↓opStep_eq, ↓reduceIte, ↓EW, EV, Nat.reduceAdd, Nat.reduceEqDiff, Int.reduceEq, Int.reduceLT, Int.reduceLE, Int.reduceNe, seqC, retC, skipC, exitC, blockC, condC]) (fun _ => C.seq fun K hK => ?_) fun g => by cases g)
        simp only [↓opStep_eq, ↓reduceIte, ↓EW, EV, Nat.reduceAdd, Nat.reduceEqDiff, Int.reduceEq, Int.reduceLT, Int.reduceLE, Int.reduceNe, seqC, retC, skipC, exitC, blockC, condC, r32_7]
        refine hK .norm _ _ (C.ret ⟨.inr rfl, _, rfl, ?_, kk⟩)
        simp only [↓opStep_eq, ↓reduceIte, ↓EW, EV, Nat.reduceAdd, Nat.reduceEqDiff, Int.reduceEq, Int.reduceLT, Int.reduceLE, Int.reduceNe, seqC, retC, skipC, exitC, blockC, condC, resOf, m]
      | true =>
        have m : mayB c k = ((hg k || decide (c.flags = 0)) && (hc k || decide (c.uniq = 0)) && (hb k || decide (c.by' = 0))) := by unfold mayB; rw [hA, h4, h6]; rfl
        refine hK .norm _ _ (C.cond false (by simp only [↓opStep_eq, ↓reduceIte, ↓EW, EV, Nat.reduceAdd, Nat.reduceEqDiff, Int.reduceEq, Int.reduceLT, Int.reduceLE, Int.reduceNe, seqC, retC, skipC, exitC, blockC, condC]) (fun g => by cases g) fun _ => C.skip (C.seq (C.seq fun K hK => ?_)))
        rw [box_f, reg32_8 hkk ld (by simp only [↓opStep_eq, ↓reduceIte, ↓EW, EV, Nat.reduceAdd, Nat.reduceEqDiff, Int.reduceEq, Int.reduceLT, Int.reduceLE, Int.reduceNe, seqC, retC, skipC, exitC, blockC, condC]) (by simp only [↓opStep_eq, ↓reduceIte, ↓EW, EV, Nat.reduceAdd, Nat.reduceEqDiff, Int.reduceEq, Int.reduceLT, Int.reduceLE, Int.reduceNe, seqC, retC, skipC, exitC, blockC, condC])]
        cases h8 : ((hg k || decide (c.flags = 0)) && (hc k || decide (c.uniq = 0))) with
        | false =>
          rw [h8] at m
          refine hK .norm _ _ (C.cond true (by simp only [↓opStep_eq, ↓reduceIte, ↓EW, EV, Nat.reduceAdd, Nat.reduceEqDiff, Int.reduceEq, Int.reduceLT, Int.reduceLE, Int.reduceNe, seqC, retC, skipC, exitC, blockC, condC]) (fun _ => C.seq fun K hK => ?_) fun g => by cases g)
          simp only [↓opStep_eq, ↓reduceIte, ↓EW, EV, Nat.reduceAdd, Nat.reduceEqDiff, Int.reduceEq, Int.reduceLT, Int.reduceLE, Int.reduceNe, seqC, retC, skipC, exitC, blockC, condC, r32_9]
          refine hK .norm _ _ (C.ret ⟨.inr rfl, _, rfl, ?_, kk⟩)
          simp only [↓opStep_eq, ↓reduceIte, ↓EW, EV, Nat.reduceAdd, Nat.reduceEqDiff, Int.reduceEq, Int.reduceLT, Int.reduceLE, Int.reduceNe, seqC, retC, skipC, exitC, blockC, condC, resOf, m, Bool.true_or, Bool.false_or, Bool.or_true, Bool.or_false, Bool.true_and, Bool.false_and, Bool.and_true, Bool.and_false]
        | true =>
          rw [h8] at m
          refine hK .norm _ _ (C.cond false (by simp only [↓opStep_eq, ↓reduceIte, ↓EW, EV, Nat.reduceAdd, Nat.reduceEqDiff, Int.reduceEq, Int.reduceLT, Int.reduceLE, Int.reduceNe, seqC, retC, skipC, exitC, blockC, condC]) (fun g => by cases g) fun _ => C.skip (C.seq fun K hK => ?_))
          rw [box_f, reg32_10 hkk ld (by simp only [↓opStep_eq, ↓reduceIte, ↓EW, EV, Nat.reduceAdd, Nat.reduceEqDiff, Int.reduceEq, Int.reduceLT, Int.reduceLE, Int.reduceNe, seqC, retC, skipC, exitC, blockC, condC])]
          refine hK .norm _ _ (C.ret ⟨.inr rfl, _, rfl, ?_, kk⟩)
          simp only [↓opStep_eq, ↓reduceIte, ↓EW, EV, Nat.reduceAdd, Nat.reduceEqDiff, Int.reduceEq, Int.reduceLT, Int.reduceLE, Int.reduceNe, seqC, retC, skipC, exitC, blockC, condC, resOf, m, Bool.true_or, Bool.false_or, Bool.or_true, Bool.or_false, Bool.true_and, Bool.false_and, Bool.and_true, Bool.and_false]
theorem refcheck_law (L n : Nat) (hL : 1000 < L) {c : Cmd} {k : Nat} {h : H} (hkk : c.kind = (k : Int)) (hs : Strs h c.kv c.keys) (sl : c.keys.length ≤ 100) :
    Sp (CF L (n + 4)) 16 [c.v] h fun r h' => r = .int .i64 (if mayB c k = true then 0 else 100) ∧ Keep nobody h h' := by
  refine Sp.body f16 (by simp) ?_
  unfold c16
  refine C.seq fun K hK => ?_
  have hcc : (Value.cells c.v).toList = c.cells := rfl
  simp only [↓opStep_eq, ↓reduceIte, ↓EW, EV, Nat.reduceAdd, Nat.reduceEqDiff, Int.reduceEq, Int.reduceLT, Int.reduceLE, Int.reduceNe, seqC, retC, skipC, exitC, blockC, condC, r16_0, hcc]
  have k1 := Keep.new h (.rw c.cells (some 26))
  have b1 := Has.new h (.rw c.cells (some 26))
  have hs1 := hs.keep0 k1
  generalize h.new (.rw c.cells (some 26)) = h1 at *
  have lag := lag8 b1
  refine hK .norm _ _ (C.seq (C.seq fun K hK => ?_))
  simp only [↓opStep_eq, ↓reduceIte, ↓EW, EV, Nat.reduceAdd, Nat.reduceEqDiff, Int.reduceEq, Int.reduceLT, Int.reduceLE, Int.reduceNe, seqC, retC, skipC, exitC, blockC, condC, r16_1, lag]
  refine refmay_law L n hL hkk hs1 sl _ fun r h2 hq => ?_
  obtain ⟨rfl, k2⟩ := hq
  cases hm : mayB c k with
  | false =>
    simp only [↓opStep_eq, ↓reduceIte, ↓EW, EV, Nat.reduceAdd, Nat.reduceEqDiff, Int.reduceEq, Int.reduceLT, Int.reduceLE, Int.reduceNe, seqC, retC, skipC, exitC, blockC, condC]
    refine hK .norm _ _ (C.cond true (by simp only [↓opStep_eq, ↓reduceIte, ↓EW, EV, Nat.reduceAdd, Nat.reduceEqDiff, Int.reduceEq, Int.reduceLT, Int.reduceLE, Int.reduceNe, seqC, retC, skipC, exitC, blockC, condC]) (fun _ => C.seq fun K hK => ?_) fun g => by cases g)
    simp only [↓opStep_eq, ↓reduceIte, ↓EW, EV, Nat.reduceAdd, Nat.reduceEqDiff, Int.reduceEq, Int.reduceLT, Int.reduceLE, Int.reduceNe, seqC, retC, skipC, exitC, blockC, condC, r16_2]
    refine hK .norm _ _ (C.ret ⟨.inr rfl, _, rfl, ?_, k1.then k2⟩)
    simp only [↓opStep_eq, ↓reduceIte, ↓EW, EV, Nat.reduceAdd, Nat.reduceEqDiff, Int.reduceEq, Int.reduceLT, Int.reduceLE, Int.reduceNe, seqC, retC, skipC, exitC, blockC, condC, resOf, hm]
  | true =>
    simp only [↓opStep_eq, ↓reduceIte, ↓EW, EV, Nat.reduceAdd, Nat.reduceEqDiff, Int.reduceEq, Int.reduceLT, Int.reduceLE, Int.reduceNe, seqC, retC, skipC, exitC, blockC, condC]
    refine hK .norm _ _ (C.cond false (by simp only [↓opStep_eq, ↓reduceIte, ↓EW, EV, Nat.reduceAdd, Nat.reduceEqDiff, Int.reduceEq, Int.reduceLT, Int.reduceLE, Int.reduceNe, seqC, retC, skipC, exitC, blockC, condC]) (fun g => by cases g) fun _ => C.skip (C.seq fun K hK => ?_))
    simp only [↓opStep_eq, ↓reduceIte, ↓EW, EV, Nat.reduceAdd, Nat.reduceEqDiff, Int.reduceEq, Int.reduceLT, Int.reduceLE, Int.reduceNe, seqC, retC, skipC, exitC, blockC, condC, r16_3]
    refine hK .norm _ _ (C.ret ⟨.inr rfl, _, rfl, ?_, k1.then k2⟩)
    simp only [↓opStep_eq, ↓reduceIte, ↓EW, EV, Nat.reduceAdd, Nat.reduceEqDiff, Int.reduceEq, Int.reduceLT, Int.reduceLE, Int.reduceNe, seqC, retC, skipC, exitC, blockC, condC, resOf, hm]
end Go.Proofs.YtilpiiafjehbnaaDoor
