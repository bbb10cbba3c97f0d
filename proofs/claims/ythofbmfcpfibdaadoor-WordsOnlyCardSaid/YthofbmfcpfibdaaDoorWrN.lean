import Derived.Test.YthofbmfcpfibdaaDoorWrK
set_option linter.unusedSimpArgs false
set_option linter.unusedVariables false
namespace Go.Proofs.YthofbmfcpfibdaaDoor
open Go.Ev

theorem wrapS (i k : Nat) (h : i + k < 1000000) : IntKind.i64.wrap ((i : Int) + (k : Int)) = ((i + k : Nat) : Int) := by
  rw [show (i : Int) + (k : Int) = ((i + k : Nat) : Int) by omega]; exact wrap_lt _ h
theorem wrap1 (i : Nat) (h : i + 1 < 1000000) : IntKind.i64.wrap ((i : Int) + 1) = ((i + 1 : Nat) : Int) := wrapS i 1 h
theorem cut59 (L n i : Nat) (hi : i < 100000) (h : H) : Sp (CF L (n + 1)) 59 [.int .i64 (i : Int)] h fun r h' => r = .int .i64 (((i + 16) / 8 : Nat) : Int) ∧ h' = h := by
  refine Sp.body f59 (by simp) ?_
  unfold c59
  refine C.seq fun K hK => ?_
  simp only [EV, r59_0]
  refine hK .norm _ _ (C.seq fun K hK => ?_)
  have w : IntKind.i64.wrap ((i : Int) + 16) = ((i + 16 : Nat) : Int) := wrapS i 16 (by omega)
  have q : ∀ c, binV Tryd.prog .quo 3 c (.int .i64 ((i + 16 : Nat) : Int)) (.int .i64 8) = some (.int .i64 (((i + 16) / 8 : Nat) : Int)) := fun c => by
    rw [binV_quo _ _ _ _ _ (by omega), show (8 : Int) = ((8 : Nat) : Int) from rfl, ← Int.ofNat_tdiv, wrap_lt _ (by omega)]
  simp only [↓reduceIte, EV, Nat.reduceEqDiff, r59_1, w, q]
  refine hK _ _ _ (C.ret ⟨.inr rfl, _, rfl, ?_, rfl⟩)
  simp only [↓reduceIte, EV, resOf]

structure StA (v sep : Value) (l : List UInt8) (tm : T Value) (i f : Nat) : Prop where
  t0 : tg tm 0 = v
  t1 : tg tm 1 = sep
  t5 : tg tm 5 = .int .i64 2
  ta : tg tm 6 = bv 13
  tb : tg tm 7 = bv 10
  ti : tg tm 8 = .int .i64 (i : Int)
  tt : tg tm 9 = .int .i64 ((l.length - 1 : Nat) : Int)
  tf : tg tm 10 = .int .i64 (f : Int)
theorem preA (L n : Nat) {v sep : Value} {l : List UInt8} {tm : T Value} {h : H} {i f : Nat} (hr : Rd h v l) (hl : l.length ≤ 600) (hi : i + 1 < l.length) (s : StA v sep l tm i f) (hn : ∀ j, j < i → ¬ At l j) :
    C ⟨seqC ⟨r28_21⟩ ⟨condC ⟨fun _ tm => tg tm 75⟩ ⟨seqC ⟨r28_22⟩ ⟨seqC ⟨seqC ⟨r28_23⟩ ⟨condC ⟨fun _ tm => tg tm 84⟩ ⟨seqC ⟨r28_24⟩ retC⟩ skipC⟩⟩ ⟨r28_25⟩⟩⟩ skipC⟩⟩ (CF L (n + 2)) L tm h fun e tm' h' => h' = h ∧ ((e = .norm ∧ ∃ i', i ≤ i' ∧ i' + 1 < l.length ∧ l[i']? = some 13 ∧ (∀ j, j < i' → ¬ At l j) ∧ StA v sep l tm' i' f) ∨ (e = .ret ∧ tg tm' 4 = .int .i64 (-1) ∧ crlf l = -1)) := by
  obtain ⟨t0, t1, t5, ta, tb, ti, tt, tf⟩ := s
  obtain ⟨x, hx⟩ : ∃ x, l[i]? = some x := ⟨_, List.getElem?_eq_getElem (by omega)⟩
  obtain ⟨b, o, e1, e2, _⟩ := hr.at hx
  refine C.seq fun K hK => ?_
  by_cases g : x = 13
  · simp only [EV, r28_21, t0, ta, ti, e1, e2, neq_u8, decide_eq_true g]
    refine hK _ _ _ (C.cond false (by simp only [↓reduceIte, EV]) (fun g => by cases g) fun _ => C.skip ⟨rfl, .inl ⟨rfl, i, Nat.le_refl _, hi, by rw [hx, g], hn, ?_⟩⟩)
    exact ⟨by simp only [↓reduceIte, EV, Nat.reduceEqDiff, t0], by simp only [↓reduceIte, EV, Nat.reduceEqDiff, t1], by simp only [↓reduceIte, EV, Nat.reduceEqDiff, t5], by simp only [↓reduceIte, EV, Nat.reduceEqDiff, ta], by simp only [↓reduceIte, EV, Nat.reduceEqDiff, tb], by simp only [↓reduceIte, EV, Nat.reduceEqDiff, ti], by simp only [↓reduceIte, EV, Nat.reduceEqDiff, tt], by simp only [↓reduceIte, EV, Nat.reduceEqDiff, tf]⟩
  · simp only [EV, r28_21, t0, ta, ti, e1, e2, neq_u8, decide_eq_false g]
    refine hK _ _ _ (C.cond true (by simp only [↓reduceIte, EV]) (fun _ => C.seq fun K hK => ?_) fun g => by cases g)
    obtain ⟨v2, s1, s2, _⟩ := hr.mid (some (.int .i64 ((i + 1 : Nat) : Int))) (i + 1) (l.length - 1) (.inr rfl) (by omega) (by omega) .i64
    have b13 : bv 13 = .int .u8 13 := rfl
    simp only [↓reduceIte, EV, Nat.reduceEqDiff, r28_22, t0, ta, ti, tt, wrap1 i (by omega), s1, b13]
    refine idx56 L n s2 _ fun r h2 hq => ?_
    obtain ⟨rfl, hh⟩ := hq
    rw [hh]; clear hh
    rcases skip13 (by rw [hx]; simpa using g) hi hn with ⟨q1, q2⟩ | ⟨o, q1, q2, q3, q4⟩
    · rw [q1]
      have d : decide ((-1 : Int) < 0) = true := rfl
      refine hK _ _ _ (C.seq (C.seq fun K hK => ?_))
      simp only [↓reduceIte, EV, Int.reduceLT, r28_23]
      refine hK _ _ _ (C.cond true (by simp only [↓reduceIte, EV]) (fun _ => C.seq fun K hK => ?_) fun g => by cases g)
      simp only [r28_24]
      exact hK _ _ _ (C.ret ⟨rfl, .inr ⟨rfl, by simp only [↓reduceIte, EV], q2⟩⟩)
    · rw [q1]
      have d : ¬ (o : Int) < 0 := by omega
      refine hK _ _ _ (C.seq (C.seq fun K hK => ?_))
      simp only [↓reduceIte, EV, r28_23, decide_eq_false d]
      refine hK _ _ _ (C.cond false (by simp only [↓reduceIte, EV]) (fun g => by cases g) fun _ => C.skip fun K hK => ?_)
      simp only [↓reduceIte, EV, Nat.reduceEqDiff, r28_25, ti, wrap1 o (by omega), wrapS i (o + 1) (by omega)]
      exact hK _ _ _ ⟨rfl, .inl ⟨rfl, i + (o + 1), by omega, q3, q2, q4, ⟨by simp only [↓reduceIte, EV, Nat.reduceEqDiff, t0], by simp only [↓reduceIte, EV, Nat.reduceEqDiff, t1], by simp only [↓reduceIte, EV, Nat.reduceEqDiff, t5], by simp only [↓reduceIte, EV, Nat.reduceEqDiff, ta], by simp only [↓reduceIte, EV, Nat.reduceEqDiff, tb], by simp only [↓reduceIte, EV], by simp only [↓reduceIte, EV, Nat.reduceEqDiff, tt], by simp only [↓reduceIte, EV, Nat.reduceEqDiff, tf]⟩⟩⟩

structure StB (v sep : Value) (l : List UInt8) (tm : T Value) (i f : Nat) : Prop where
  t0 : tg tm 0 = v
  t1 : tg tm 1 = sep
  t5 : tg tm 5 = .int .i64 2
  ta : tg tm 13 = bv 13
  tb : tg tm 14 = bv 10
  ti : tg tm 15 = .int .i64 (i : Int)
  tt : tg tm 17 = .int .i64 ((l.length - 1 : Nat) : Int)
  tf : tg tm 16 = .int .i64 (f : Int)
theorem preB (L n : Nat) {v sep : Value} {l : List UInt8} {tm : T Value} {h : H} {i f : Nat} (hr : Rd h v l) (hl : l.length ≤ 600) (hi : i + 1 < l.length) (s : StB v sep l tm i f) (hn : ∀ j, j < i → ¬ At l j) :
    C ⟨seqC ⟨r28_42⟩ ⟨condC ⟨fun _ tm => tg tm 144⟩ ⟨seqC ⟨r28_43⟩ ⟨seqC ⟨seqC ⟨r28_44⟩ ⟨condC ⟨fun _ tm => tg tm 153⟩ (exitC 3) skipC⟩⟩ ⟨r28_45⟩⟩⟩ skipC⟩⟩ (CF L (n + 2)) L tm h fun e tm' h' => h' = h ∧ ((e = .norm ∧ ∃ i', i ≤ i' ∧ i' + 1 < l.length ∧ l[i']? = some 13 ∧ (∀ j, j < i' → ¬ At l j) ∧ StB v sep l tm' i' f) ∨ (e = .exit 3 ∧ crlf l = -1)) := by
  obtain ⟨t0, t1, t5, ta, tb, ti, tt, tf⟩ := s
  obtain ⟨x, hx⟩ : ∃ x, l[i]? = some x := ⟨_, List.getElem?_eq_getElem (by omega)⟩
  obtain ⟨b, o, e1, e2, _⟩ := hr.at hx
  refine C.seq fun K hK => ?_
  by_cases g : x = 13
  · simp only [EV, r28_42, t0, ta, ti, e1, e2, neq_u8, decide_eq_true g]
    refine hK _ _ _ (C.cond false (by simp only [↓reduceIte, EV]) (fun g => by cases g) fun _ => C.skip ⟨rfl, .inl ⟨rfl, i, Nat.le_refl _, hi, by rw [hx, g], hn, ?_⟩⟩)
    exact ⟨by simp only [↓reduceIte, EV, Nat.reduceEqDiff, t0], by simp only [↓reduceIte, EV, Nat.reduceEqDiff, t1], by simp only [↓reduceIte, EV, Nat.reduceEqDiff, t5], by simp only [↓reduceIte, EV, Nat.reduceEqDiff, ta], by simp only [↓reduceIte, EV, Nat.reduceEqDiff, tb], by simp only [↓reduceIte, EV, Nat.reduceEqDiff, ti], by simp only [↓reduceIte, EV, Nat.reduceEqDiff, tt], by simp only [↓reduceIte, EV, Nat.reduceEqDiff, tf]⟩
  · simp only [EV, r28_42, t0, ta, ti, e1, e2, neq_u8, decide_eq_false g]
    refine hK _ _ _ (C.cond true (by simp only [↓reduceIte, EV]) (fun _ => C.seq fun K hK => ?_) fun g => by cases g)
    obtain ⟨v2, s1, s2, _⟩ := hr.mid (some (.int .i64 ((i + 1 : Nat) : Int))) (i + 1) (l.length - 1) (.inr rfl) (by omega) (by omega) .i64
    have b13 : bv 13 = .int .u8 13 := rfl
    simp only [↓reduceIte, EV, Nat.reduceEqDiff, r28_43, t0, ta, ti, tt, wrap1 i (by omega), s1, b13]
    refine idx56 L n s2 _ fun r h2 hq => ?_
    obtain ⟨rfl, hh⟩ := hq
    rw [hh]; clear hh
    rcases skip13 (by rw [hx]; simpa using g) hi hn with ⟨q1, q2⟩ | ⟨o, q1, q2, q3, q4⟩
    · rw [q1]
      have d : decide ((-1 : Int) < 0) = true := rfl
      refine hK _ _ _ (C.seq (C.seq fun K hK => ?_))
      simp only [↓reduceIte, EV, Int.reduceLT, r28_44]
      exact hK _ _ _ (C.cond true (by simp only [↓reduceIte, EV]) (fun _ => C.exit ⟨rfl, .inr ⟨rfl, q2⟩⟩) fun g => by cases g)
    · rw [q1]
      have d : ¬ (o : Int) < 0 := by omega
      refine hK _ _ _ (C.seq (C.seq fun K hK => ?_))
      simp only [↓reduceIte, EV, r28_44, decide_eq_false d]
      refine hK _ _ _ (C.cond false (by simp only [↓reduceIte, EV]) (fun g => by cases g) fun _ => C.skip fun K hK => ?_)
      simp only [↓reduceIte, EV, Nat.reduceEqDiff, r28_45, ti, wrap1 o (by omega), wrapS i (o + 1) (by omega)]
      exact hK _ _ _ ⟨rfl, .inl ⟨rfl, i + (o + 1), by omega, q3, q2, q4, ⟨by simp only [↓reduceIte, EV, Nat.reduceEqDiff, t0], by simp only [↓reduceIte, EV, Nat.reduceEqDiff, t1], by simp only [↓reduceIte, EV, Nat.reduceEqDiff, t5], by simp only [↓reduceIte, EV, Nat.reduceEqDiff, ta], by simp only [↓reduceIte, EV, Nat.reduceEqDiff, tb], by simp only [↓reduceIte, EV], by simp only [↓reduceIte, EV, Nat.reduceEqDiff, tt], by simp only [↓reduceIte, EV, Nat.reduceEqDiff, tf]⟩⟩⟩

theorem loopA (L n : Nat) (hL : 1000 ≤ L) {v sep : Value} {l : List UInt8} {tm : T Value} {h : H} {m : Nat} (hr : Rd h v l) (hs : Rd h sep [13, 10]) (hl : l.length ≤ 600) (h2 : 2 ≤ l.length) (hM : Has h 0 (.ro [.int .i64 (m : Int)])) (hm : 2 ≤ m) (s : StA v sep l tm 0 0) :
    C (loopB l28_35) (CF L (n + 2)) L tm h fun e tm' h' => h' = h ∧ ((e = .exit 1 ∧ crlf l = -1) ∨ (e = .ret ∧ tg tm' 4 = .int .i64 (crlf l))) := by
  refine C.loop (L := L) (fun k tm h' => h' = h ∧ ∃ i f, k = l.length - i ∧ i < l.length ∧ f ≤ i ∧ StA v sep l tm i f ∧ ∀ j, j < i → ¬ At l j) l.length (by omega) ⟨rfl, 0, 0, rfl, by omega, Nat.le_refl _, s, fun j hj => by omega⟩ ?_
  rintro k tm h' ⟨rfl, i, f, rfl, hi, hf, s, hn⟩
  refine C.seq (C.seq fun K hK => ?_)
  by_cases g : i + 1 < l.length
  · have g' : (i : Int) < ((l.length - 1 : Nat) : Int) := by omega
    simp only [EV, r28_20, s.ti, s.tt, decide_eq_true g']
    refine hK _ _ _ (C.cond true (by simp only [↓reduceIte, EV]) (fun _ => C.skip (C.block (C.seq ?_))) fun g => by cases g)
    refine (preA L n hr hl g (sep := sep) (f := f) ⟨by simp only [↓reduceIte, EV, Nat.reduceEqDiff, s.t0], by simp only [↓reduceIte, EV, Nat.reduceEqDiff, s.t1], by simp only [↓reduceIte, EV, Nat.reduceEqDiff, s.t5], by simp only [↓reduceIte, EV, Nat.reduceEqDiff, s.ta], by simp only [↓reduceIte, EV, Nat.reduceEqDiff, s.tb], by simp only [↓reduceIte, EV, Nat.reduceEqDiff, s.ti], by simp only [↓reduceIte, EV, Nat.reduceEqDiff, s.tt], by simp only [↓reduceIte, EV, Nat.reduceEqDiff, s.tf]⟩ hn).mono ?_
    rintro e tm1 h1 ⟨rfl, (⟨rfl, i', hii, hi', h13, hn', s'⟩ | ⟨rfl, t4, hc⟩)⟩
    · refine C.seq (C.seq (wreg28_26 L (n + 1) hr hs (by omega) h13 hi' s'.t0 s'.t1 s'.ti s'.tb s'.t5 ?_))
      by_cases ha : At l i'
      · rw [decide_eq_true ha]
        refine C.cond true (by simp only [↓reduceIte, EV]) (fun _ => C.seq fun K hK => ?_) fun g => by cases g
        simp only [↓reduceIte, EV, Nat.reduceEqDiff, r28_27, s'.ti]
        refine hK _ _ _ (C.ret ⟨rfl, .inr ⟨rfl, ?_⟩⟩)
        rw [crlf_at ha hn']
        simp only [↓reduceIte, EV]
      · rw [decide_eq_false ha]
        have hn2 : ∀ j, j < i' + 1 → ¬ At l j := fun j hj => by
          by_cases g : j < i'
          · exact hn' j g
          · rw [show j = i' by omega]; exact ha
        refine C.cond false (by simp only [↓reduceIte, EV]) (fun g => by cases g) fun _ => C.skip (C.seq fun K hK => ?_)
        simp only [↓reduceIte, EV, Nat.reduceEqDiff, r28_28, s'.tf, wrap1 f (by omega)]
        refine hK _ _ _ (C.seq fun K hK => ?_)
        simp only [↓reduceIte, EV, Nat.reduceEqDiff, r28_29, s'.ti, wrap1 i' (by omega)]
        refine hK _ _ _ (C.seq fun K hK => ?_)
        simp only [↓reduceIte, EV, Nat.reduceEqDiff, r28_30]
        refine cut59 L (n + 1) (i' + 1) (by omega) h1 _ fun r h2' hq => ?_
        obtain ⟨rfl, hh⟩ := hq
        rw [hh]; clear hh
        by_cases gc : (((i' + 1 + 16) / 8 : Nat) : Int) < ((f + 1 : Nat) : Int)
        · simp only [EV, decide_eq_true gc]
          refine hK _ _ _ (C.cond true (by simp only [↓reduceIte, EV]) (fun _ => C.seq fun K hK => ?_) fun g => by cases g)
          obtain ⟨v2, s1, s2, _⟩ := hr.from (i' + 1) (by omega)
          simp only [↓reduceIte, EV, Nat.reduceEqDiff, r28_31, s'.t0, s'.t1, s1]
          refine index58 L (n + 1) s2 hs (by simp; omega) hM hm _ fun r h3 hq => ?_
          obtain ⟨rfl, hh⟩ := hq
          rw [hh]; clear hh
          rcases crlf_drop hn2 with ⟨q1, q2⟩ | ⟨o, q1, q2, q3⟩
          · rw [q1]
            have d : decide ((0 : Int) ≤ -1) = false := rfl
            refine hK _ _ _ (C.seq (C.seq fun K hK => ?_))
            simp only [↓reduceIte, EV, Int.reduceLE, r28_32]
            refine hK _ _ _ (C.cond false (by simp only [↓reduceIte, EV]) (fun g => by cases g) fun _ => C.skip (C.seq fun K hK => ?_))
            simp only [r28_34]
            refine hK _ _ _ (C.ret ⟨rfl, .inr ⟨rfl, ?_⟩⟩)
            rw [q2]; simp only [↓reduceIte, EV]
          · rw [q1]
            have d : (0 : Int) ≤ (o : Int) := by omega
            refine hK _ _ _ (C.seq (C.seq fun K hK => ?_))
            simp only [↓reduceIte, EV, r28_32, decide_eq_true d]
            refine hK _ _ _ (C.cond true (by simp only [↓reduceIte, EV]) (fun _ => C.seq fun K hK => ?_) fun g => by cases g)
            simp only [↓reduceIte, EV, Nat.reduceEqDiff, r28_33, wrapS o (i' + 1) (by omega)]
            refine hK _ _ _ (C.ret ⟨rfl, .inr ⟨rfl, ?_⟩⟩)
            rw [q2, show i' + 1 + o = o + (i' + 1) by omega]; simp only [↓reduceIte, EV]
        · simp only [EV, decide_eq_false gc]
          exact hK _ _ _ (C.cond false (by simp only [↓reduceIte, EV]) (fun g => by cases g) fun _ => C.skip ⟨l.length - (i' + 1), by omega, rfl, i' + 1, f + 1, rfl, by omega, by omega, ⟨by simp only [↓reduceIte, EV, Nat.reduceEqDiff, s'.t0], by simp only [↓reduceIte, EV, Nat.reduceEqDiff, s'.t1], by simp only [↓reduceIte, EV, Nat.reduceEqDiff, s'.t5], by simp only [↓reduceIte, EV, Nat.reduceEqDiff, s'.ta], by simp only [↓reduceIte, EV, Nat.reduceEqDiff, s'.tb], by simp only [↓reduceIte, EV, Nat.reduceEqDiff], by simp only [↓reduceIte, EV, Nat.reduceEqDiff, s'.tt], by simp only [↓reduceIte, EV, Nat.reduceEqDiff]⟩, hn2⟩)
    · exact ⟨rfl, .inr ⟨rfl, by rw [t4, hc]⟩⟩
  · have g' : ¬ (i : Int) < ((l.length - 1 : Nat) : Int) := by omega
    simp only [EV, r28_20, s.ti, s.tt, decide_eq_false g']
    refine hK _ _ _ (C.cond false (by simp only [↓reduceIte, EV]) (fun g => by cases g) fun _ => C.exit ⟨rfl, .inl ⟨rfl, crlf_none fun j ha => ?_⟩⟩)
    have := ha.lt
    exact hn j (by omega) ha
end Go.Proofs.YthofbmfcpfibdaaDoor
