import Derived.Test.YtilpiiafjehbnaaDoorXaV
set_option linter.unusedSimpArgs false
set_option linter.unusedVariables false
namespace Go.Proofs.YtilpiiafjehbnaaDoor
open Go.Ev

/-! ### plain keys, on both sides -/
def pb (b : UInt8) : Bool := decide (33 ≤ b.toNat) && decide (b.toNat ≤ 126)
def plainL (l : List UInt8) : Bool := l.all pb
theorem get_at {s : ByteArray} {i : Nat} {b : UInt8} (h : s.data.toList[i]? = some b) : s.get! i = b := by
  obtain ⟨d⟩ := s
  show d[i]! = b
  have h' : d[i]? = some b := by simpa using h
  rw [getElem!_def, h']
theorem dec_low {s : ByteArray} {i : Nat} (h : (s.get! i).toNat < 128) : Utf8.decode s i = ((s.get! i).toNat, 1) := by
  unfold Utf8.decode
  simp only [Nat.add_zero]
  rw [if_pos h]
theorem dec_high {s : ByteArray} {i : Nat} (h : 128 ≤ (s.get! i).toNat) : 128 ≤ (Utf8.decode s i).1 := by
  unfold Utf8.decode
  simp only [Nat.add_zero]
  rw [if_neg (by omega)]
  repeat' split
  all_goals simp only [Utf8.runeError]
  all_goals first | omega | (simp only [ge_iff_le, Bool.and_eq_true, decide_eq_true_eq] at *; omega)
theorem bool_eq : ∀ a b : Bool, binV Tryd.prog .eql 4 false (.bool a) (.bool b) = some (.bool (a == b))
  | true, true => by kernel_rfl
  | true, false => by kernel_rfl
  | false, true => by kernel_rfl
  | false, false => by kernel_rfl
theorem rune_law (L n : Nat) (c : Nat) (h : H) : Sp (CF L (n + 1)) 24 [.int .i32 (c : Int)] h fun r h' => r = .bool (decide ((c : Int) < 33) || decide ((126 : Int) < (c : Int))) ∧ h' = h := by
  refine Sp.body f24 (by simp) ?_
  unfold c24
  refine C.seq fun K hK => ?_
  simp only [↓opStep_eq, ↓reduceIte, ↓EW, EV, Nat.reduceAdd, Nat.reduceEqDiff, Int.reduceEq, Int.reduceLT, Int.reduceLE, Int.reduceNe, seqC, retC, skipC, exitC, blockC, condC, r24_0]
  refine hK .norm _ _ (C.seq fun K hK => ?_)
  by_cases g1 : (c : Int) < 33
  · simp only [↓opStep_eq, ↓reduceIte, ↓EW, EV, Nat.reduceAdd, Nat.reduceEqDiff, Int.reduceEq, Int.reduceLT, Int.reduceLE, Int.reduceNe, seqC, retC, skipC, exitC, blockC, condC, r24_1, decide_eq_true g1]
    refine hK _ _ _ (C.ret ⟨.inr rfl, _, rfl, ?_, rfl⟩)
    simp only [↓opStep_eq, ↓reduceIte, ↓EW, EV, Nat.reduceAdd, Nat.reduceEqDiff, Int.reduceEq, Int.reduceLT, Int.reduceLE, Int.reduceNe, seqC, retC, skipC, exitC, blockC, condC, resOf]
    rw [decide_eq_true g1]; rfl
  · simp only [↓opStep_eq, ↓reduceIte, ↓EW, EV, Nat.reduceAdd, Nat.reduceEqDiff, Int.reduceEq, Int.reduceLT, Int.reduceLE, Int.reduceNe, seqC, retC, skipC, exitC, blockC, condC, r24_1, decide_eq_false g1]
    refine hK _ _ _ (C.ret ⟨.inr rfl, _, rfl, ?_, rfl⟩)
    simp only [↓opStep_eq, ↓reduceIte, ↓EW, EV, Nat.reduceAdd, Nat.reduceEqDiff, Int.reduceEq, Int.reduceLT, Int.reduceLE, Int.reduceNe, seqC, retC, skipC, exitC, blockC, condC, resOf]
    rw [decide_eq_false g1]; rfl
theorem nextStr_some {h : H} {s : ByteArray} {pos : Nat} {put : AObj → H} {K : KV} (hp : pos < s.size) : nextStr h s pos put K = K (.tuple #[.bool true, .int .i64 (Int.ofNat pos), .int .i32 (Int.ofNat (Utf8.decode s pos).1)]) (put (.sit s (pos + (Utf8.decode s pos).2))) := by
  unfold nextStr
  rw [Nat.ble_eq_true_of_le hp]
theorem nextStr_none {h : H} {s : ByteArray} {pos : Nat} {put : AObj → H} {K : KV} (hp : ¬ pos < s.size) : nextStr h s pos put K = K (.tuple #[.bool false]) h := by
  unfold nextStr
  rw [show Nat.ble (pos + 1) s.size = false by rw [Bool.eq_false_iff]; intro e; exact hp (Nat.le_of_ble_eq_true e)]
theorem tup3 (i : Nat) (a b c : Value) : tupNth i (.tuple #[a, b, c]) = [a, b, c][i]? := tupNth_tuple i [a, b, c]
theorem tup1 (i : Nat) (a : Value) : tupNth i (.tuple #[a]) = [a][i]? := tupNth_tuple i [a]
theorem runes_law (L n : Nat) {s : ByteArray} (hs : s.size < L) (h0 : H) :
    Sp (CF L (n + 2)) 35 [.string s, .func (.func 24) #[] #[], .bool true] h0 fun r h' => (∃ i : Int, r = .int .i64 i ∧ (i < 0 ↔ plainL s.data.toList = true)) ∧ Keep nobody h0 h' := by
  have hsl : s.size = s.data.toList.length := rfl
  refine Sp.body f35 (by simp) ?_
  unfold c35
  refine C.seq fun K hK => ?_
  simp only [↓opStep_eq, ↓reduceIte, ↓EW, EV, Nat.reduceAdd, Nat.reduceEqDiff, Int.reduceEq, Int.reduceLT, Int.reduceLE, Int.reduceNe, seqC, retC, skipC, exitC, blockC, condC, r35_0]
  refine hK .norm _ _ (C.seq (C.seq fun K hK => ?_))
  simp only [↓opStep_eq, ↓reduceIte, ↓EW, EV, Nat.reduceAdd, Nat.reduceEqDiff, Int.reduceEq, Int.reduceLT, Int.reduceLE, Int.reduceNe, seqC, retC, skipC, exitC, blockC, condC, r35_1, rangeStr]
  have k1 := Keep.new h0 (.sit s 0)
  have b1 := Has.new h0 (.sit s 0)
  generalize h0.new (.sit s 0) = h1 at *
  refine hK _ _ _ (C.block ?_)
  refine (C.loop (L := L) (fun k tm h' => ∃ pos, k = s.size - pos ∧ pos ≤ s.size ∧ tg tm 1 = .func (.func 24) #[] #[] ∧ tg tm 2 = .bool true ∧ tg tm 10 = .pointer (some ⟨h0.next, 0, none⟩) ∧ Has h' h0.next (.sit s pos) ∧ (s.data.toList.take pos).all pb = true ∧ Keep nobody h0 h') s.size hs ⟨0, rfl, Nat.zero_le _, by simp only [↓opStep_eq, ↓reduceIte, ↓EW, EV, Nat.reduceAdd, Nat.reduceEqDiff, Int.reduceEq, Int.reduceLT, Int.reduceLE, Int.reduceNe, seqC, retC, skipC, exitC, blockC, condC], by simp only [↓opStep_eq, ↓reduceIte, ↓EW, EV, Nat.reduceAdd, Nat.reduceEqDiff, Int.reduceEq, Int.reduceLT, Int.reduceLE, Int.reduceNe, seqC, retC, skipC, exitC, blockC, condC], by simp only [↓opStep_eq, ↓reduceIte, ↓EW, EV, Nat.reduceAdd, Nat.reduceEqDiff, Int.reduceEq, Int.reduceLT, Int.reduceLE, Int.reduceNe, seqC, retC, skipC, exitC, blockC, condC, ptrTo_eq], b1, rfl, k1⟩ fun k tm h' hi => ?_ :
    C (loopB l35_6) _ L _ h1 fun e tm' h' => Keep nobody h0 h' ∧ (e = .exit 0 ∧ plainL s.data.toList = true ∨ e = .ret ∧ ∃ i : Int, tg tm' 6 = .int .i64 i ∧ 0 ≤ i ∧ plainL s.data.toList = false)).mono ?_
  · obtain ⟨pos, hk, hp, t1, t2, t10, b, hall, kp⟩ := hi
    refine C.seq fun K hK => ?_
    have hn : ∀ K : KV, nextV true h' (tg tm 10) K = nextStr h' s pos (h'.put h0.next) K := fun K => by
      rw [t10]
      simp only [nextV, b.2]
    by_cases g : pos < s.size
    · obtain ⟨c, hc⟩ : ∃ c, s.data.toList[pos]? = some c := ⟨_, List.getElem?_eq_getElem (by omega)⟩
      have hget := get_at hc
      simp only [r35_2, hn, nextStr_some g, tup3, ↓opStep_eq, ↓reduceIte, ↓EW, EV, Nat.reduceAdd, Nat.reduceEqDiff, Int.reduceEq, Int.reduceLT, Int.reduceLE, Int.reduceNe, seqC, retC, skipC, exitC, blockC, condC]
      refine hK _ _ _ (C.seq (C.cond true (by simp only [↓opStep_eq, ↓reduceIte, ↓EW, EV, Nat.reduceAdd, Nat.reduceEqDiff, Int.reduceEq, Int.reduceLT, Int.reduceLE, Int.reduceNe, seqC, retC, skipC, exitC, blockC, condC]) (fun _ => C.skip (C.block (C.seq fun K hK => ?_))) fun g => by cases g))
      simp only [↓opStep_eq, ↓reduceIte, ↓EW, EV, Nat.reduceAdd, Nat.reduceEqDiff, Int.reduceEq, Int.reduceLT, Int.reduceLE, Int.reduceNe, seqC, retC, skipC, exitC, blockC, condC, r35_3, tup3]
      refine hK _ _ _ (C.seq fun K hK => ?_)
      have k2 := Keep.put h' h0.next (.sit s (pos + (Utf8.decode s pos).2))
      have b2 := Has.put (x := .sit s (pos + (Utf8.decode s pos).2)) b.1
      have k3 : Keep nobody h0 (h'.put h0.next (.sit s (pos + (Utf8.decode s pos).2))) := kp.trans k2 fun k hk e => by omega
      generalize h'.put h0.next (.sit s (pos + (Utf8.decode s pos).2)) = h2 at *
      simp only [↓opStep_eq, ↓reduceIte, ↓EW, EV, Nat.reduceAdd, Nat.reduceEqDiff, Int.reduceEq, Int.reduceLT, Int.reduceLE, Int.reduceNe, seqC, retC, skipC, exitC, blockC, condC, r35_4, t1, t2, funcArgs, goCall]
      refine rune_law L n _ h2 _ fun r h3 hq => ?_
      obtain ⟨rfl, rfl⟩ := hq
      simp only [↓opStep_eq, ↓reduceIte, ↓EW, EV, Nat.reduceAdd, Nat.reduceEqDiff, Int.reduceEq, Int.reduceLT, Int.reduceLE, Int.reduceNe, seqC, retC, skipC, exitC, blockC, condC, bool_eq]
      by_cases gp : pb c = true
      · have gp' := gp
        unfold pb at gp'
        simp only [Bool.and_eq_true, decide_eq_true_eq] at gp'
        have hd : Utf8.decode s pos = (c.toNat, 1) := by rw [dec_low (by rw [hget]; omega), hget]
        rw [hd] at b2 ⊢
        have e1 : (decide ((c.toNat : Int) < 33) || decide ((126 : Int) < (c.toNat : Int))) = false := by
          rw [decide_eq_false (by omega), decide_eq_false (by omega)]; rfl
        simp only [e1]
        refine hK _ _ _ (C.cond false (by simp only [↓opStep_eq, ↓reduceIte, ↓EW, EV, Nat.reduceAdd, Nat.reduceEqDiff, Int.reduceEq, Int.reduceLT, Int.reduceLE, Int.reduceNe, seqC, retC, skipC, exitC, blockC, condC]; rfl) (fun g => by cases g) fun _ => C.skip ⟨s.size - (pos + 1), by omega, pos + 1, rfl, by omega, by simp only [↓opStep_eq, ↓reduceIte, ↓EW, EV, Nat.reduceAdd, Nat.reduceEqDiff, Int.reduceEq, Int.reduceLT, Int.reduceLE, Int.reduceNe, seqC, retC, skipC, exitC, blockC, condC, t1], by simp only [↓opStep_eq, ↓reduceIte, ↓EW, EV, Nat.reduceAdd, Nat.reduceEqDiff, Int.reduceEq, Int.reduceLT, Int.reduceLE, Int.reduceNe, seqC, retC, skipC, exitC, blockC, condC, t2], by simp only [↓opStep_eq, ↓reduceIte, ↓EW, EV, Nat.reduceAdd, Nat.reduceEqDiff, Int.reduceEq, Int.reduceLT, Int.reduceLE, Int.reduceNe, seqC, retC, skipC, exitC, blockC, condC, t10], b2, ?_, k3⟩)
        rw [List.take_add_one, List.all_append, hall, hc]
        simp [gp]
      · have gp' : pb c = false := by simpa using gp
        have hd : (decide ((((Utf8.decode s pos).1 : Nat) : Int) < 33) || decide ((126 : Int) < (((Utf8.decode s pos).1 : Nat) : Int))) = true := by
          by_cases hc8 : c.toNat < 128
          · rw [dec_low (by rw [hget]; exact hc8), hget]
            unfold pb at gp'
            rw [Bool.and_eq_false_iff, decide_eq_false_iff_not, decide_eq_false_iff_not] at gp'
            simp only [Bool.or_eq_true, decide_eq_true_eq]
            omega
          · have := dec_high (s := s) (i := pos) (by rw [hget]; omega)
            simp only [Bool.or_eq_true, decide_eq_true_eq]
            omega
        simp only [Int.ofNat_eq_natCast, hd]
        refine hK _ _ _ (C.cond true (by simp only [↓opStep_eq, ↓reduceIte, ↓EW, EV, Nat.reduceAdd, Nat.reduceEqDiff, Int.reduceEq, Int.reduceLT, Int.reduceLE, Int.reduceNe, seqC, retC, skipC, exitC, blockC, condC]; rfl) (fun _ => C.seq fun K hK => ?_) fun g => by cases g)
        simp only [↓opStep_eq, ↓reduceIte, ↓EW, EV, Nat.reduceAdd, Nat.reduceEqDiff, Int.reduceEq, Int.reduceLT, Int.reduceLE, Int.reduceNe, seqC, retC, skipC, exitC, blockC, condC, r35_5]
        refine hK _ _ _ (C.ret ⟨k3, .inr ⟨rfl, (pos : Int), by simp only [↓opStep_eq, ↓reduceIte, ↓EW, EV, Nat.reduceAdd, Nat.reduceEqDiff, Int.reduceEq, Int.reduceLT, Int.reduceLE, Int.reduceNe, seqC, retC, skipC, exitC, blockC, condC], by omega, ?_⟩⟩)
        unfold plainL
        rw [List.all_eq_false]
        exact ⟨c, List.mem_of_getElem? hc, by simp [gp']⟩
    · simp only [r35_2, hn, nextStr_none g, tup1, ↓opStep_eq, ↓reduceIte, ↓EW, EV, Nat.reduceAdd, Nat.reduceEqDiff, Int.reduceEq, Int.reduceLT, Int.reduceLE, Int.reduceNe, seqC, retC, skipC, exitC, blockC, condC]
      refine hK _ _ _ (C.seq (C.cond false (by simp only [↓opStep_eq, ↓reduceIte, ↓EW, EV, Nat.reduceAdd, Nat.reduceEqDiff, Int.reduceEq, Int.reduceLT, Int.reduceLE, Int.reduceNe, seqC, retC, skipC, exitC, blockC, condC]) (fun g => by cases g) fun _ => C.exit ⟨kp, .inl ⟨rfl, ?_⟩⟩))
      rw [List.take_of_length_le (by omega)] at hall
      exact hall
  · rintro e tm' h' ⟨kp, (⟨rfl, hp⟩ | ⟨rfl, i, t6, hi, hp⟩)⟩
    · show if 0 = 0 then _ else _
      rw [if_pos rfl]
      refine C.seq fun K hK => ?_
      simp only [↓opStep_eq, ↓reduceIte, ↓EW, EV, Nat.reduceAdd, Nat.reduceEqDiff, Int.reduceEq, Int.reduceLT, Int.reduceLE, Int.reduceNe, seqC, retC, skipC, exitC, blockC, condC, r35_6]
      refine hK _ _ _ (C.ret ⟨.inr rfl, _, rfl, ⟨-1, by simp only [↓opStep_eq, ↓reduceIte, ↓EW, EV, Nat.reduceAdd, Nat.reduceEqDiff, Int.reduceEq, Int.reduceLT, Int.reduceLE, Int.reduceNe, seqC, retC, skipC, exitC, blockC, condC, resOf], by simp [hp]⟩, kp⟩)
    · exact ⟨.inr rfl, _, rfl, ⟨i, by simp only [↓opStep_eq, ↓reduceIte, ↓EW, EV, Nat.reduceAdd, Nat.reduceEqDiff, Int.reduceEq, Int.reduceLT, Int.reduceLE, Int.reduceNe, seqC, retC, skipC, exitC, blockC, condC, resOf, t6], by rw [hp]; simp; omega⟩, kp⟩
end Go.Proofs.YtilpiiafjehbnaaDoor

namespace Go.Proofs.YtilpiiafjehbnaaDoor
open Go.Ev

theorem ixstr {s : ByteArray} {i : Nat} {c : UInt8} (h : s.data.toList[i]? = some c) : indexStr (.string s) (.int .i64 (i : Int)) = some (.int .u8 (c.toNat : Int)) := by
  simp only [indexStr, asNat_nat, nth_eq, h]
  rfl
theorem r17_4_eq {call : CallT} {L : Nat} {tm : T Value} {h : H} {K : KE} {s : ByteArray} {pos : Nat} {c : UInt8} (t0 : tg tm 0 = .string s) (t5 : tg tm 5 = .int .i64 (pos : Int)) (hc : s.data.toList[pos]? = some c) :
    r17_4 call L tm [] h K = K .norm (T.set tm 21 (.bool (!pb c))) [] h := by
  have ix := ixstr hc
  by_cases g1 : (c.toNat : Int) < 33
  · have e : pb c = false := by
      unfold pb; rw [decide_eq_false (by omega)]; rfl
    simp only [↓opStep_eq, ↓reduceIte, ↓EW, EV, Nat.reduceAdd, Nat.reduceEqDiff, Int.reduceEq, Int.reduceLT, Int.reduceLE, Int.reduceNe, seqC, retC, skipC, exitC, blockC, condC, r17_4, t0, t5, ix, decide_eq_true g1, e]
  by_cases g2 : (126 : Int) < (c.toNat : Int)
  · have e : pb c = false := by
      unfold pb; rw [decide_eq_false (show ¬ c.toNat ≤ 126 by omega), Bool.and_false]
    simp only [↓opStep_eq, ↓reduceIte, ↓EW, EV, Nat.reduceAdd, Nat.reduceEqDiff, Int.reduceEq, Int.reduceLT, Int.reduceLE, Int.reduceNe, seqC, retC, skipC, exitC, blockC, condC, r17_4, t0, t5, ix, decide_eq_false g1, decide_eq_true g2, e]
  · have e : pb c = true := by
      unfold pb; rw [decide_eq_true (by omega), decide_eq_true (by omega)]; rfl
    simp only [↓opStep_eq, ↓reduceIte, ↓EW, EV, Nat.reduceAdd, Nat.reduceEqDiff, Int.reduceEq, Int.reduceLT, Int.reduceLE, Int.reduceNe, seqC, retC, skipC, exitC, blockC, condC, r17_4, t0, t5, ix, decide_eq_false g1, decide_eq_false g2, e]
theorem rplain_law (L n : Nat) {s : ByteArray} (mx : Nat) (hs : s.size < L) (hs2 : s.size ≤ 2000) (h0 : H) :
    Sp (CF L (n + 1)) 17 [.string s, .int .i64 (mx : Int)] h0 fun r h' => r = .bool (plainL s.data.toList && (!decide ((s.size : Int) = 0) && decide ((s.size : Int) ≤ (mx : Int)))) ∧ h' = h0 := by
  have hsl : s.size = s.data.toList.length := rfl
  refine Sp.body f17 (by simp) ?_
  unfold c17
  refine C.seq fun K hK => ?_
  simp only [↓opStep_eq, ↓reduceIte, ↓EW, EV, Nat.reduceAdd, Nat.reduceEqDiff, Int.reduceEq, Int.reduceLT, Int.reduceLE, Int.reduceNe, seqC, retC, skipC, exitC, blockC, condC, r17_0]
  refine hK .norm _ _ (C.seq (C.seq fun K hK => ?_))
  simp only [↓opStep_eq, ↓reduceIte, ↓EW, EV, Nat.reduceAdd, Nat.reduceEqDiff, Int.reduceEq, Int.reduceLT, Int.reduceLE, Int.reduceNe, seqC, retC, skipC, exitC, blockC, condC, r17_1]
  refine hK _ _ _ (C.block ?_)
  refine (C.loop (L := L) (fun k tm h' => ∃ pos : Nat, k = s.size - pos ∧ pos ≤ s.size ∧ tg tm 0 = .string s ∧ tg tm 1 = .int .i64 (mx : Int) ∧ tg tm 5 = .int .i64 (pos : Int) ∧ (s.data.toList.take pos).all pb = true ∧ h' = h0) s.size hs ⟨0, rfl, Nat.zero_le _, by simp only [↓opStep_eq, ↓reduceIte, ↓EW, EV, Nat.reduceAdd, Nat.reduceEqDiff, Int.reduceEq, Int.reduceLT, Int.reduceLE, Int.reduceNe, seqC, retC, skipC, exitC, blockC, condC], by simp only [↓opStep_eq, ↓reduceIte, ↓EW, EV, Nat.reduceAdd, Nat.reduceEqDiff, Int.reduceEq, Int.reduceLT, Int.reduceLE, Int.reduceNe, seqC, retC, skipC, exitC, blockC, condC], by simp only [↓opStep_eq, ↓reduceIte, ↓EW, EV, Nat.reduceAdd, Nat.reduceEqDiff, Int.reduceEq, Int.reduceLT, Int.reduceLE, Int.reduceNe, seqC, retC, skipC, exitC, blockC, condC]; rfl, rfl, rfl⟩ fun k tm h' hi => ?_ :
    C (loopB l17_6) _ L _ h0 fun e tm' h' => h' = h0 ∧ (e = .exit 0 ∧ plainL s.data.toList = true ∧ tg tm' 0 = .string s ∧ tg tm' 1 = .int .i64 (mx : Int) ∨ e = .ret ∧ tg tm' 4 = .bool false ∧ plainL s.data.toList = false)).mono ?_
  · obtain ⟨pos, hk, hp, t0, t1, t5, hall, rfl⟩ := hi
    refine C.seq (C.seq fun K hK => ?_)
    by_cases g : pos < s.size
    · have g' : (pos : Int) < (s.size : Int) := by omega
      obtain ⟨c, hc⟩ : ∃ c, s.data.toList[pos]? = some c := ⟨_, List.getElem?_eq_getElem (by omega)⟩
      simp only [↓opStep_eq, ↓reduceIte, ↓EW, EV, Nat.reduceAdd, Nat.reduceEqDiff, Int.reduceEq, Int.reduceLT, Int.reduceLE, Int.reduceNe, seqC, retC, skipC, exitC, blockC, condC, r17_2, t0, t5, lenStr_string, decide_eq_true g']
      refine hK _ _ _ (C.cond true (by simp only [↓opStep_eq, ↓reduceIte, ↓EW, EV, Nat.reduceAdd, Nat.reduceEqDiff, Int.reduceEq, Int.reduceLT, Int.reduceLE, Int.reduceNe, seqC, retC, skipC, exitC, blockC, condC]) (fun _ => C.skip (C.seq (C.block (C.seq fun K hK => ?_)))) fun g => by cases g)
      show r17_4 (CF L n) L _ [] _ K = true
      rw [r17_4_eq (s := s) (pos := pos) (by simp only [↓opStep_eq, ↓reduceIte, ↓EW, EV, Nat.reduceAdd, Nat.reduceEqDiff, Int.reduceEq, Int.reduceLT, Int.reduceLE, Int.reduceNe, seqC, retC, skipC, exitC, blockC, condC, t0]) (by simp only [↓opStep_eq, ↓reduceIte, ↓EW, EV, Nat.reduceAdd, Nat.reduceEqDiff, Int.reduceEq, Int.reduceLT, Int.reduceLE, Int.reduceNe, seqC, retC, skipC, exitC, blockC, condC, t5]) hc]
      by_cases gp : pb c = true
      · rw [gp]
        refine hK _ _ _ (C.cond false (by simp only [↓opStep_eq, ↓reduceIte, ↓EW, EV, Nat.reduceAdd, Nat.reduceEqDiff, Int.reduceEq, Int.reduceLT, Int.reduceLE, Int.reduceNe, seqC, retC, skipC, exitC, blockC, condC]) (fun g => by cases g) fun _ => C.skip fun K hK => ?_)
        have w : IntKind.i64.wrap ((pos : Int) + 1) = ((pos + 1 : Nat) : Int) := by
          rw [show (pos : Int) + 1 = ((pos + 1 : Nat) : Int) by omega]; exact wrap_lt _ (by omega)
        simp only [↓opStep_eq, ↓reduceIte, ↓EW, EV, Nat.reduceAdd, Nat.reduceEqDiff, Int.reduceEq, Int.reduceLT, Int.reduceLE, Int.reduceNe, seqC, retC, skipC, exitC, blockC, condC, r17_3, t5, w]
        refine hK _ _ _ ⟨s.size - (pos + 1), by omega, pos + 1, rfl, by omega, by simp only [↓opStep_eq, ↓reduceIte, ↓EW, EV, Nat.reduceAdd, Nat.reduceEqDiff, Int.reduceEq, Int.reduceLT, Int.reduceLE, Int.reduceNe, seqC, retC, skipC, exitC, blockC, condC, t0], by simp only [↓opStep_eq, ↓reduceIte, ↓EW, EV, Nat.reduceAdd, Nat.reduceEqDiff, Int.reduceEq, Int.reduceLT, Int.reduceLE, Int.reduceNe, seqC, retC, skipC, exitC, blockC, condC, t1], by simp only [↓opStep_eq, ↓reduceIte, ↓EW, EV, Nat.reduceAdd, Nat.reduceEqDiff, Int.reduceEq, Int.reduceLT, Int.reduceLE, Int.reduceNe, seqC, retC, skipC, exitC, blockC, condC], ?_, rfl⟩
        rw [List.take_add_one, List.all_append, hall, hc]
        simp [gp]
      · have gp' : pb c = false := by simpa using gp
        rw [gp']
        refine hK _ _ _ (C.cond true (by simp only [↓opStep_eq, ↓reduceIte, ↓EW, EV, Nat.reduceAdd, Nat.reduceEqDiff, Int.reduceEq, Int.reduceLT, Int.reduceLE, Int.reduceNe, seqC, retC, skipC, exitC, blockC, condC]) (fun _ => C.seq fun K hK => ?_) fun g => by cases g)
        simp only [↓opStep_eq, ↓reduceIte, ↓EW, EV, Nat.reduceAdd, Nat.reduceEqDiff, Int.reduceEq, Int.reduceLT, Int.reduceLE, Int.reduceNe, seqC, retC, skipC, exitC, blockC, condC, r17_5]
        refine hK _ _ _ (C.ret ⟨rfl, .inr ⟨rfl, by simp only [↓opStep_eq, ↓reduceIte, ↓EW, EV, Nat.reduceAdd, Nat.reduceEqDiff, Int.reduceEq, Int.reduceLT, Int.reduceLE, Int.reduceNe, seqC, retC, skipC, exitC, blockC, condC], ?_⟩⟩)
        unfold plainL
        rw [List.all_eq_false]
        exact ⟨c, List.mem_of_getElem? hc, by simp [gp']⟩
    · have g' : ¬ (pos : Int) < (s.size : Int) := by omega
      simp only [↓opStep_eq, ↓reduceIte, ↓EW, EV, Nat.reduceAdd, Nat.reduceEqDiff, Int.reduceEq, Int.reduceLT, Int.reduceLE, Int.reduceNe, seqC, retC, skipC, exitC, blockC, condC, r17_2, t0, t5, lenStr_string, decide_eq_false g']
      refine hK _ _ _ (C.cond false (by simp only [↓opStep_eq, ↓reduceIte, ↓EW, EV, Nat.reduceAdd, Nat.reduceEqDiff, Int.reduceEq, Int.reduceLT, Int.reduceLE, Int.reduceNe, seqC, retC, skipC, exitC, blockC, condC]) (fun g => by cases g) fun _ => C.exit ⟨rfl, .inl ⟨rfl, ?_, by simp only [↓opStep_eq, ↓reduceIte, ↓EW, EV, Nat.reduceAdd, Nat.reduceEqDiff, Int.reduceEq, Int.reduceLT, Int.reduceLE, Int.reduceNe, seqC, retC, skipC, exitC, blockC, condC, t0], by simp only [↓opStep_eq, ↓reduceIte, ↓EW, EV, Nat.reduceAdd, Nat.reduceEqDiff, Int.reduceEq, Int.reduceLT, Int.reduceLE, Int.reduceNe, seqC, retC, skipC, exitC, blockC, condC, t1]⟩⟩)
      rw [List.take_of_length_le (by omega)] at hall
      exact hall
  · rintro e tm' h' ⟨rfl, (⟨rfl, hp, t0, t1⟩ | ⟨rfl, t4, hp⟩)⟩
    · show if 0 = 0 then _ else _
      rw [if_pos rfl]
      refine C.seq fun K hK => ?_
      by_cases g : (s.size : Int) = 0
      · simp only [↓opStep_eq, ↓reduceIte, ↓EW, EV, Nat.reduceAdd, Nat.reduceEqDiff, Int.reduceEq, Int.reduceLT, Int.reduceLE, Int.reduceNe, seqC, retC, skipC, exitC, blockC, condC, r17_6, t0, t1, str_nempty, decide_eq_true g]
        refine hK _ _ _ (C.ret ⟨.inr rfl, _, rfl, ?_, rfl⟩)
        simp only [↓opStep_eq, ↓reduceIte, ↓EW, EV, Nat.reduceAdd, Nat.reduceEqDiff, Int.reduceEq, Int.reduceLT, Int.reduceLE, Int.reduceNe, seqC, retC, skipC, exitC, blockC, condC, resOf, decide_eq_true g, Bool.and_false, Bool.false_and]
      · by_cases g2 : (s.size : Int) ≤ (mx : Int)
        · simp only [↓opStep_eq, ↓reduceIte, ↓EW, EV, Nat.reduceAdd, Nat.reduceEqDiff, Int.reduceEq, Int.reduceLT, Int.reduceLE, Int.reduceNe, seqC, retC, skipC, exitC, blockC, condC, r17_6, t0, t1, str_nempty, decide_eq_false g, lenStr_string, decide_eq_true g2]
          refine hK _ _ _ (C.ret ⟨.inr rfl, _, rfl, ?_, rfl⟩)
          simp only [↓opStep_eq, ↓reduceIte, ↓EW, EV, Nat.reduceAdd, Nat.reduceEqDiff, Int.reduceEq, Int.reduceLT, Int.reduceLE, Int.reduceNe, seqC, retC, skipC, exitC, blockC, condC, resOf, decide_eq_false g, decide_eq_true g2, hp]; rfl
        · simp only [↓opStep_eq, ↓reduceIte, ↓EW, EV, Nat.reduceAdd, Nat.reduceEqDiff, Int.reduceEq, Int.reduceLT, Int.reduceLE, Int.reduceNe, seqC, retC, skipC, exitC, blockC, condC, r17_6, t0, t1, str_nempty, decide_eq_false g, lenStr_string, decide_eq_false g2]
          refine hK _ _ _ (C.ret ⟨.inr rfl, _, rfl, ?_, rfl⟩)
          simp only [↓opStep_eq, ↓reduceIte, ↓EW, EV, Nat.reduceAdd, Nat.reduceEqDiff, Int.reduceEq, Int.reduceLT, Int.reduceLE, Int.reduceNe, seqC, retC, skipC, exitC, blockC, condC, resOf, decide_eq_false g2, Bool.and_false]
    · refine ⟨.inr rfl, _, rfl, ?_, rfl⟩
      simp only [↓opStep_eq, ↓reduceIte, ↓EW, EV, Nat.reduceAdd, Nat.reduceEqDiff, Int.reduceEq, Int.reduceLT, Int.reduceLE, Int.reduceNe, seqC, retC, skipC, exitC, blockC, condC, resOf, t4, hp, Bool.false_and]
end Go.Proofs.YtilpiiafjehbnaaDoor
