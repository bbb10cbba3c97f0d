import Derived.Test.YthofbmfcpfibdaaDoorWrN
set_option linter.unusedSimpArgs false
set_option linter.unusedVariables false
namespace Go.Proofs.YthofbmfcpfibdaaDoor
open Go.Ev

theorem shr4 (i : Nat) (hi : i < 100000) (c : Bool) : binV Tryd.prog .shr 3 c (.int .i64 (i : Int)) (.int .u64 4) = some (.int .i64 ((i / 16 : Nat) : Int)) := by
  rw [binV_shr2 (P := Tryd.prog) 3 c .i64 .u64 _ 4 (by decide)]
  show some (Value.int .i64 ((i : Int).fdiv (2 ^ 4))) = _
  congr 2
  rw [show (2 : Int) ^ 4 = ((16 : Nat) : Int) from rfl, ← Int.ofNat_fdiv]
theorem loopBB (L n : Nat) (hL : 1000 ≤ L) {v sep : Value} {l : List UInt8} {tm : T Value} {h : H} (hr : Rd h v l) (hs : Rd h sep [13, 10]) (hl : l.length ≤ 600) (h2 : 2 ≤ l.length) (s : StB v sep l tm 0 0) :
    C (loopB l28_56) (CF L (n + 2)) L tm h fun e tm' h' => Keep nobody h h' ∧ ((e = .exit 3 ∧ crlf l = -1) ∨ (e = .ret ∧ tg tm' 4 = .int .i64 (crlf l))) := by
  have krefl : Keep nobody h h := ⟨Nat.le_refl _, fun _ _ _ => rfl⟩
  refine C.loop (L := L) (fun k tm h' => h' = h ∧ ∃ i f, k = l.length - i ∧ i < l.length ∧ f ≤ i ∧ StB v sep l tm i f ∧ ∀ j, j < i → ¬ At l j) l.length (by omega) ⟨rfl, 0, 0, rfl, by omega, Nat.le_refl _, s, fun j hj => by omega⟩ ?_
  rintro k tm h' ⟨rfl, i, f, rfl, hi, hf, s, hn⟩
  refine C.seq (C.seq fun K hK => ?_)
  by_cases g : i + 1 < l.length
  · have g' : (i : Int) < ((l.length - 1 : Nat) : Int) := by omega
    simp only [EV, r28_41, s.ti, s.tt, decide_eq_true g']
    refine hK _ _ _ (C.cond true (by simp only [↓reduceIte, EV]) (fun _ => C.skip (C.block (C.seq ?_))) fun g => by cases g)
    refine (preB L n hr hl g (sep := sep) (f := f) ⟨by simp only [↓reduceIte, EV, Nat.reduceEqDiff, s.t0], by simp only [↓reduceIte, EV, Nat.reduceEqDiff, s.t1], by simp only [↓reduceIte, EV, Nat.reduceEqDiff, s.t5], by simp only [↓reduceIte, EV, Nat.reduceEqDiff, s.ta], by simp only [↓reduceIte, EV, Nat.reduceEqDiff, s.tb], by simp only [↓reduceIte, EV, Nat.reduceEqDiff, s.ti], by simp only [↓reduceIte, EV, Nat.reduceEqDiff, s.tt], by simp only [↓reduceIte, EV, Nat.reduceEqDiff, s.tf]⟩ hn).mono ?_
    rintro e tm1 h1 ⟨rfl, (⟨rfl, i', hii, hi', h13, hn', s'⟩ | ⟨rfl, hc⟩)⟩
    · refine C.seq (C.seq (wreg28_46 L (n + 1) hr hs (by omega) h13 hi' s'.t0 s'.t1 s'.ti s'.tb s'.t5 ?_))
      by_cases ha : At l i'
      · rw [decide_eq_true ha]
        refine C.cond true (by simp only [↓reduceIte, EV]) (fun _ => C.seq fun K hK => ?_) fun g => by cases g
        simp only [↓reduceIte, EV, Nat.reduceEqDiff, r28_47, s'.ti]
        refine hK _ _ _ (C.ret ⟨krefl, .inr ⟨rfl, ?_⟩⟩)
        rw [crlf_at ha hn']
        simp only [↓reduceIte, EV]
      · rw [decide_eq_false ha]
        have hn2 : ∀ j, j < i' + 1 → ¬ At l j := fun j hj => by
          by_cases g : j < i'
          · exact hn' j g
          · rw [show j = i' by omega]; exact ha
        refine C.cond false (by simp only [↓reduceIte, EV]) (fun g => by cases g) fun _ => C.skip (C.seq fun K hK => ?_)
        simp only [↓reduceIte, EV, Nat.reduceEqDiff, r28_48, s'.ti, wrap1 i' (by omega)]
        refine hK _ _ _ (C.seq fun K hK => ?_)
        simp only [↓reduceIte, EV, Nat.reduceEqDiff, r28_49, s'.tf, wrap1 f (by omega)]
        refine hK _ _ _ (C.seq fun K hK => ?_)
        have w4 : IntKind.i64.wrap (4 + (((i' + 1) / 16 : Nat) : Int)) = ((4 + (i' + 1) / 16 : Nat) : Int) := wrapS 4 ((i' + 1) / 16) (by omega)
        have stay : ∀ tm', tg tm' 0 = v → tg tm' 1 = sep → tg tm' 5 = .int .i64 2 → tg tm' 13 = bv 13 → tg tm' 14 = bv 10 → tg tm' 15 = .int .i64 ((i' + 1 : Nat) : Int) → tg tm' 17 = .int .i64 ((l.length - 1 : Nat) : Int) → tg tm' 16 = .int .i64 ((f + 1 : Nat) : Int) → ∃ k', k' < l.length - i ∧ h1 = h1 ∧ ∃ i f, k' = l.length - i ∧ i < l.length ∧ f ≤ i ∧ StB v sep l tm' i f ∧ ∀ j, j < i → ¬ At l j :=
          fun tm' x0 x1 x5 xa xb xi xt xf => ⟨l.length - (i' + 1), by omega, rfl, i' + 1, f + 1, rfl, by omega, by omega, ⟨x0, x1, x5, xa, xb, xi, xt, xf⟩, hn2⟩
        by_cases gc : ((4 + (i' + 1) / 16 : Nat) : Int) ≤ ((f + 1 : Nat) : Int)
        · by_cases gt : ((i' + 1 : Nat) : Int) < ((l.length - 1 : Nat) : Int)
          · simp only [↓opStep_eq, ↓reduceIte, ↓EW, EV, Nat.reduceEqDiff, r28_50, s'.tt, shr4 (i' + 1) (by omega), w4, decide_eq_true gc, decide_eq_true gt]
            refine hK _ _ _ (C.cond true (by simp only [↓reduceIte, EV]) (fun _ => C.seq fun K hK => ?_) fun g => by cases g)
            obtain ⟨v2, s1, s2, _⟩ := hr.from (i' + 1) (by omega)
            simp only [↓reduceIte, EV, Nat.reduceEqDiff, r28_51, s'.t0, s'.t1, s1]
            refine rk60 L n hL s2 hs (by simp; omega) (by simp; omega) _ fun r h3 hq => ?_
            obtain ⟨rfl, kk⟩ := hq
            rcases crlf_drop hn2 with ⟨q1, q2⟩ | ⟨o, q1, q2, q3⟩
            · rw [q1]
              have d : decide ((-1 : Int) < 0) = true := rfl
              refine hK _ _ _ (C.seq (C.seq fun K hK => ?_))
              simp only [↓reduceIte, EV, Int.reduceLT, r28_52]
              refine hK _ _ _ (C.cond true (by simp only [↓reduceIte, EV]) (fun _ => C.seq fun K hK => ?_) fun g => by cases g)
              simp only [r28_53]
              refine hK _ _ _ (C.ret ⟨kk, .inr ⟨rfl, ?_⟩⟩)
              rw [q2]; simp only [↓reduceIte, EV]
            · rw [q1]
              have d : ¬ (o : Int) < 0 := by omega
              refine hK _ _ _ (C.seq (C.seq fun K hK => ?_))
              simp only [↓reduceIte, EV, r28_52, decide_eq_false d]
              refine hK _ _ _ (C.cond false (by simp only [↓reduceIte, EV]) (fun g => by cases g) fun _ => C.skip (C.seq fun K hK => ?_))
              simp only [↓reduceIte, EV, Nat.reduceEqDiff, r28_54, wrapS (i' + 1) o (by omega)]
              refine hK _ _ _ (C.ret ⟨kk, .inr ⟨rfl, ?_⟩⟩)
              rw [q2]; simp only [↓reduceIte, EV]
          · simp only [↓opStep_eq, ↓reduceIte, ↓EW, EV, Nat.reduceEqDiff, r28_50, s'.tt, shr4 (i' + 1) (by omega), w4, decide_eq_true gc, decide_eq_false gt]
            exact hK _ _ _ (C.cond false (by simp only [↓reduceIte, EV]) (fun g => by cases g) fun _ => C.skip (stay _ (by simp only [↓reduceIte, EV, Nat.reduceEqDiff, s'.t0]) (by simp only [↓reduceIte, EV, Nat.reduceEqDiff, s'.t1]) (by simp only [↓reduceIte, EV, Nat.reduceEqDiff, s'.t5]) (by simp only [↓reduceIte, EV, Nat.reduceEqDiff, s'.ta]) (by simp only [↓reduceIte, EV, Nat.reduceEqDiff, s'.tb]) (by simp only [↓reduceIte, EV, Nat.reduceEqDiff]) (by simp only [↓reduceIte, EV, Nat.reduceEqDiff, s'.tt]) (by simp only [↓reduceIte, EV, Nat.reduceEqDiff])))
        · simp only [↓opStep_eq, ↓reduceIte, ↓EW, EV, Nat.reduceEqDiff, r28_50, shr4 (i' + 1) (by omega), w4, decide_eq_false gc]
          exact hK _ _ _ (C.cond false (by simp only [↓reduceIte, EV]) (fun g => by cases g) fun _ => C.skip (stay _ (by simp only [↓reduceIte, EV, Nat.reduceEqDiff, s'.t0]) (by simp only [↓reduceIte, EV, Nat.reduceEqDiff, s'.t1]) (by simp only [↓reduceIte, EV, Nat.reduceEqDiff, s'.t5]) (by simp only [↓reduceIte, EV, Nat.reduceEqDiff, s'.ta]) (by simp only [↓reduceIte, EV, Nat.reduceEqDiff, s'.tb]) (by simp only [↓reduceIte, EV, Nat.reduceEqDiff]) (by simp only [↓reduceIte, EV, Nat.reduceEqDiff, s'.tt]) (by simp only [↓reduceIte, EV, Nat.reduceEqDiff])))
    · exact ⟨krefl, .inl ⟨rfl, hc⟩⟩
  · have g' : ¬ (i : Int) < ((l.length - 1 : Nat) : Int) := by omega
    simp only [EV, r28_41, s.ti, s.tt, decide_eq_false g']
    refine hK _ _ _ (C.cond false (by simp only [↓reduceIte, EV]) (fun g => by cases g) fun _ => C.exit ⟨krefl, .inl ⟨rfl, crlf_none fun j ha => ?_⟩⟩)
    have := ha.lt
    exact hn j (by omega) ha
/-- bytes.Index of a line's end -/
theorem index28 (L n : Nat) (hL : 1000 ≤ L) {v sep : Value} {l : List UInt8} {h0 : H} {m : Int} (hr : Rd h0 v l) (hs : Rd h0 sep [13, 10]) (hl : l.length ≤ 600) (hM : Has h0 0 (.ro [.int .i64 m])) :
    Sp (CF L (n + 3)) 28 [v, sep] h0 fun r h' => r = .int .i64 (crlf l) ∧ Keep nobody h0 h' := by
  have krefl : Keep nobody h0 h0 := ⟨Nat.le_refl _, fun _ _ _ => rfl⟩
  have hl2 : lenSl sep = some (.int .i64 2) := hs.len
  have d0 : decide ((2 : Int) = 0) = false := rfl
  have d1 : decide ((2 : Int) = 1) = false := rfl
  obtain ⟨b0, o0, i0, l0, _⟩ := hs.at (i := 0) (x := 13) rfl
  obtain ⟨b1, o1, i1, l1, _⟩ := hs.at (i := 1) (x := 10) rfl
  have i0' : indexSl 1 sep (.int .i64 0) = some (.pointer (some ⟨b0, o0, none⟩)) := i0
  have i1' : indexSl 1 sep (.int .i64 1) = some (.pointer (some ⟨b1, o1, none⟩)) := i1
  have ldM : ∀ s, loadOne h0 (.pointer (some ⟨0, 0, s⟩)) = some (.int .i64 m) := fun s => loadOne_has hM rfl
  refine Sp.body f28 (by simp) ?_
  unfold c28
  refine C.seq fun K hK => ?_
  simp only [EV, Nat.reduceAdd, r28_0]
  refine hK .norm _ _ (C.seq fun K hK => ?_)
  simp only [↓reduceIte, EV, Nat.reduceEqDiff, r28_1, hl2]
  refine hK .norm _ _ (C.seq (C.block (C.seq fun K hK => ?_)))
  simp only [↓reduceIte, EV, Int.reduceEq, r28_2]
  refine hK .norm _ _ (C.cond false (by simp only [↓reduceIte, EV]) (fun g => by cases g) fun _ => C.seq fun K hK => ?_)
  simp only [↓reduceIte, EV, Nat.reduceEqDiff, Int.reduceEq, r28_4]
  refine hK .norm _ _ (C.cond false (by simp only [↓reduceIte, EV]) (fun g => by cases g) fun _ => C.seq fun K hK => ?_)
  by_cases g2 : (2 : Int) = (l.length : Int)
  · simp only [↓reduceIte, EV, Nat.reduceEqDiff, r28_6, hr.len, decide_eq_true g2]
    refine hK .norm _ _ (C.cond true (by simp only [↓reduceIte, EV]) (fun _ => C.seq (C.seq fun K hK => ?_)) fun g => by cases g)
    simp only [↓reduceIte, EV, Nat.reduceEqDiff, r28_7]
    refine equal57 L (n + 1) hs hr _ fun r h2 hq => ?_
    obtain ⟨rfl, hh⟩ := hq
    rw [hh]; clear hh
    obtain ⟨x0, x1, rfl⟩ : ∃ x0 x1, l = [x0, x1] := by
      rcases l with _ | ⟨a, _ | ⟨b, _ | ⟨c, r⟩⟩⟩ <;> simp at g2
      · exact ⟨a, b, rfl⟩
      · omega
    have ca := chk_at (l := [x0, x1]) (i := 0) (a := x0) (b := x1) rfl rfl
    by_cases q : ([13, 10] : List UInt8) = [x0, x1]
    · rw [decide_eq_true q]
      refine hK _ _ _ (C.cond true (by simp only [↓reduceIte, EV]) (fun _ => C.seq fun K hK => ?_) fun g => by cases g)
      simp only [r28_8]
      refine hK _ _ _ (C.ret ⟨.inr rfl, _, rfl, ?_, krefl⟩)
      rw [crlf_at (ca.2 q.symm) fun j hj => by omega]
      simp only [↓reduceIte, EV, resOf]; rfl
    · rw [decide_eq_false q]
      refine hK _ _ _ (C.cond false (by simp only [↓reduceIte, EV]) (fun g => by cases g) fun _ => C.skip (C.seq fun K hK => ?_))
      simp only [r28_9]
      refine hK _ _ _ (C.ret ⟨.inr rfl, _, rfl, ?_, krefl⟩)
      rw [crlf_none fun j ha => by
        have h1 := ha.lt
        have h2 : ([x0, x1] : List UInt8).length = 2 := rfl
        have h3 : j = 0 := by omega
        rw [h3] at ha
        exact q (ca.1 ha).symm]
      simp only [↓reduceIte, EV, resOf]
  simp only [↓reduceIte, EV, Nat.reduceEqDiff, r28_6, hr.len, decide_eq_false g2]
  refine hK .norm _ _ (C.cond false (by simp only [↓reduceIte, EV]) (fun g => by cases g) fun _ => C.seq fun K hK => ?_)
  by_cases g3 : (l.length : Int) < 2
  · simp only [↓reduceIte, EV, Nat.reduceEqDiff, r28_10, hr.len, decide_eq_true g3]
    refine hK .norm _ _ (C.cond true (by simp only [↓reduceIte, EV]) (fun _ => C.seq fun K hK => ?_) fun g => by cases g)
    simp only [r28_11]
    refine hK _ _ _ (C.ret ⟨.inr rfl, _, rfl, ?_, krefl⟩)
    rw [crlf_none fun j ha => by have := ha.lt; omega]
    simp only [↓reduceIte, EV, resOf]
  have hlen : 3 ≤ l.length := by omega
  have w1 : IntKind.i64.wrap ((l.length : Int) - 2) = ((l.length - 2 : Nat) : Int) := by
    rw [show (l.length : Int) - 2 = ((l.length - 2 : Nat) : Int) by omega]; exact wrap_lt _ (by omega)
  have w2 : IntKind.i64.wrap (((l.length - 2 : Nat) : Int) + 1) = ((l.length - 1 : Nat) : Int) := by
    rw [show ((l.length - 2 : Nat) : Int) + 1 = ((l.length - 1 : Nat) : Int) by omega]; exact wrap_lt _ (by omega)
  simp only [↓reduceIte, EV, Nat.reduceEqDiff, r28_10, hr.len, decide_eq_false g3]
  refine hK .norm _ _ (C.cond false (by simp only [↓reduceIte, EV]) (fun g => by cases g) fun _ => C.seq fun K hK => ?_)
  by_cases gm : (2 : Int) ≤ m
  · obtain ⟨m', rfl⟩ : ∃ m' : Nat, m = (m' : Int) := ⟨m.toNat, by omega⟩
    simp only [↓reduceIte, EV, Nat.reduceEqDiff, r28_12, ldM, decide_eq_true gm]
    refine hK .norm _ _ (C.cond true (by simp only [↓reduceIte, EV]) (fun _ => C.seq (C.seq fun K hK => ?_)) fun g => by cases g)
    by_cases g64 : (l.length : Int) ≤ 64
    · simp only [↓reduceIte, EV, Nat.reduceEqDiff, r28_13, hr.len, decide_eq_true g64]
      refine hK .norm _ _ (C.cond true (by simp only [↓reduceIte, EV]) (fun _ => C.seq fun K hK => ?_) fun g => by cases g)
      simp only [↓reduceIte, EV, Nat.reduceEqDiff, r28_14]
      refine index58 L (n + 1) hr hs (by omega) hM (by omega) _ fun r h3 hq => ?_
      obtain ⟨rfl, hh⟩ := hq
      rw [hh]; clear hh
      refine hK _ _ _ (C.ret ⟨.inr rfl, _, rfl, ?_, krefl⟩)
      simp only [↓reduceIte, EV, resOf]
    simp only [↓reduceIte, EV, Nat.reduceEqDiff, r28_13, hr.len, decide_eq_false g64]
    refine hK .norm _ _ (C.cond false (by simp only [↓reduceIte, EV]) (fun g => by cases g) fun _ => C.skip (C.seq fun K hK => ?_))
    simp only [↓reduceIte, EV, Nat.reduceEqDiff, r28_15, i0', l0]
    refine hK .norm _ _ (C.seq fun K hK => ?_)
    simp only [↓reduceIte, EV, Nat.reduceEqDiff, r28_16, i1', l1]
    refine hK .norm _ _ (C.seq fun K hK => ?_)
    simp only [r28_17]
    refine hK .norm _ _ (C.seq fun K hK => ?_)
    simp only [↓reduceIte, EV, Nat.reduceEqDiff, r28_18, hr.len, w1, w2]
    refine hK .norm _ _ (C.seq fun K hK => ?_)
    simp only [r28_19]
    refine hK .norm _ _ (C.seq (C.block ((loopA L n hL hr hs hl (by omega) hM (by omega) ⟨by simp only [↓reduceIte, EV, Nat.reduceEqDiff], by simp only [↓reduceIte, EV, Nat.reduceEqDiff], by simp only [↓reduceIte, EV, Nat.reduceEqDiff], by simp only [↓reduceIte, EV, Nat.reduceEqDiff], by simp only [↓reduceIte, EV, Nat.reduceEqDiff], by simp only [↓reduceIte, EV, Nat.reduceEqDiff]; rfl, by simp only [↓reduceIte, EV, Nat.reduceEqDiff], by simp only [↓reduceIte, EV]; rfl⟩).mono ?_)))
    rintro e tm' h' ⟨rfl, (⟨rfl, hc⟩ | ⟨rfl, t4⟩)⟩
    · show if 1 = 1 then _ else _
      rw [if_pos rfl]
      refine C.seq fun K hK => ?_
      simp only [r28_35]
      refine hK _ _ _ (C.ret ⟨.inr rfl, _, rfl, ?_, krefl⟩)
      rw [hc]; simp only [↓reduceIte, EV, resOf]
    · refine ⟨.inr rfl, _, rfl, ?_, krefl⟩
      simp only [resOf, t4]
  simp only [↓reduceIte, EV, Nat.reduceEqDiff, r28_12, ldM, decide_eq_false gm]
  refine hK .norm _ _ (C.cond false (by simp only [↓reduceIte, EV]) (fun g => by cases g) fun _ => C.skip (C.seq fun K hK => ?_))
  simp only [↓reduceIte, EV, Nat.reduceEqDiff, r28_36, i0', l0]
  refine hK .norm _ _ (C.seq fun K hK => ?_)
  simp only [↓reduceIte, EV, Nat.reduceEqDiff, r28_37, i1', l1]
  refine hK .norm _ _ (C.seq fun K hK => ?_)
  simp only [r28_38]
  refine hK .norm _ _ (C.seq fun K hK => ?_)
  simp only [r28_39]
  refine hK .norm _ _ (C.seq fun K hK => ?_)
  simp only [↓reduceIte, EV, Nat.reduceEqDiff, r28_40, hr.len, w1, w2]
  refine hK .norm _ _ (C.seq (C.block ((loopBB L n hL hr hs hl (by omega) ⟨by simp only [↓reduceIte, EV, Nat.reduceEqDiff], by simp only [↓reduceIte, EV, Nat.reduceEqDiff], by simp only [↓reduceIte, EV, Nat.reduceEqDiff], by simp only [↓reduceIte, EV, Nat.reduceEqDiff], by simp only [↓reduceIte, EV, Nat.reduceEqDiff], by simp only [↓reduceIte, EV, Nat.reduceEqDiff]; rfl, by simp only [↓reduceIte, EV], by simp only [↓reduceIte, EV, Nat.reduceEqDiff]; rfl⟩).mono ?_)))
  rintro e tm' h' ⟨kk, (⟨rfl, hc⟩ | ⟨rfl, t4⟩)⟩
  · show if 3 = 3 then _ else _
    rw [if_pos rfl]
    refine C.seq fun K hK => ?_
    simp only [r28_55]
    refine hK _ _ _ (C.ret ⟨.inr rfl, _, rfl, ?_, kk⟩)
    rw [hc]; simp only [↓reduceIte, EV, resOf]
  · refine ⟨.inr rfl, _, rfl, ?_, kk⟩
    simp only [resOf, t4]
end Go.Proofs.YthofbmfcpfibdaaDoor

namespace Go.Proofs.YthofbmfcpfibdaaDoor
open Go.Ev

/-! ### slices.Index, and the words of results -/
def whr (k : List UInt8) : List (List UInt8) → Nat → Int
  | [], _ => -1
  | p :: r, i => if k = p then (i : Int) else whr k r (i + 1)
theorem whr_drop {l : List (List UInt8)} {k : List UInt8} : ∀ (i : Nat), i ≤ l.length → k ∉ l.take i → whr k l 0 = whr k (l.drop i) i
  | 0, _, _ => rfl
  | i + 1, hi, hn => by
    have hlt : i < l.length := by omega
    have h1 : k ∉ l.take i := fun h => hn (by rw [List.take_add_one]; exact List.mem_append_left _ h)
    have h2 : k ≠ l[i] := fun e => hn (by rw [List.take_add_one, List.getElem?_eq_getElem hlt, e]; exact List.mem_append_right _ (by simp))
    rw [whr_drop i (by omega) h1, List.drop_eq_getElem_cons hlt]
    show (if k = l[i] then (i : Int) else whr k (l.drop (i + 1)) (i + 1)) = _
    rw [if_neg h2]
theorem index63 (L n : Nat) {v : Value} {l : List (List UInt8)} {k : List UInt8} {h : H} (hi : Strs h v l) (hL : l.length < L) (h63 : l.length < 1000000) :
    Sp (CF L (n + 1)) 63 [v, sv k] h fun r h' => r = .int .i64 (whr k l 0) ∧ h' = h := by
  refine Sp.body f63 (by simp) ?_
  unfold c63
  refine C.seq fun K hK => hK .norm _ _ ?_
  refine C.seq (C.seq fun K hK => ?_)
  simp only [↓reduceIte, EV, Nat.reduceAdd, Nat.reduceEqDiff, r63_1, hi.len]
  refine hK .norm _ _ ?_
  refine C.block (C.loop (fun kk tm h1 => ∃ i : Nat, kk = l.length - i ∧ i ≤ l.length ∧ tg tm 0 = v ∧ tg tm 1 = sv k ∧ tg tm 7 = .int .i64 (l.length : Int) ∧ tg tm 8 = .int .i64 (i : Int) ∧ k ∉ l.take i ∧ h1 = h) l.length hL
    ⟨0, by simp, by simp, by simp, by simp, by simp, by simp, by simp, rfl⟩ ?_)
  rintro kk tm h1 ⟨i, rfl, hil, t0, t1, t7, t8, hn, rfl⟩
  unfold l63_7
  refine C.seq fun K hK => ?_
  by_cases g : i < l.length
  · have g' : (i : Int) < (l.length : Int) := by omega
    obtain ⟨x, hx⟩ : ∃ x, l[i]? = some x := ⟨l[i], List.getElem?_eq_getElem g⟩
    obtain ⟨b, o, e1, e4⟩ := hi.at hx
    simp only [EV, r63_2, t7, t8, decide_eq_true g']
    refine hK .norm _ _ (C.seq (C.cond true (by simp only [↓reduceIte, EV]) (fun _ => C.skip ?_) fun g => by cases g))
    refine C.seq (C.block (C.seq fun K hK => ?_))
    simp only [↓reduceIte, EV, Nat.reduceEqDiff, r63_3, t8]
    refine hK .norm _ _ (C.seq fun K hK => ?_)
    simp only [↓reduceIte, EV, Nat.reduceEqDiff, r63_4, t0, t1, e1, e4, sv_eql]
    by_cases gx : k = x
    · rw [decide_eq_true gx]
      refine hK .norm _ _ (C.cond true (by simp only [↓reduceIte, EV]) (fun _ => C.seq fun K hK => ?_) fun g => by cases g)
      simp only [↓reduceIte, EV, Nat.reduceEqDiff, r63_5]
      refine hK .norm _ _ (C.ret ⟨.inr rfl, _, rfl, ?_, rfl⟩)
      obtain ⟨hlt, hxx⟩ := List.getElem?_eq_some_iff.1 hx
      rw [whr_drop i hil hn, List.drop_eq_getElem_cons hlt, hxx]
      show _ = Value.int .i64 (if k = x then (i : Int) else whr k (l.drop (i + 1)) (i + 1))
      rw [if_pos gx]
      simp only [↓reduceIte, EV, resOf]
    · rw [decide_eq_false gx]
      refine hK .norm _ _ (C.cond false (by simp only [↓reduceIte, EV]) (fun g => by cases g) fun _ => C.skip fun K hK => ?_)
      simp only [↓reduceIte, EV, Nat.reduceEqDiff, r63_6, t8, wrap_succ i (by omega)]
      refine hK .norm _ _ ⟨l.length - (i + 1), by omega, i + 1, rfl, by omega, by simp only [↓reduceIte, EV, Nat.reduceEqDiff, t0], by simp only [↓reduceIte, EV, Nat.reduceEqDiff, t1], by simp only [↓reduceIte, EV, Nat.reduceEqDiff, t7], ?_, ?_, rfl⟩
      · simp only [↓reduceIte, EV]
      · rw [List.take_add_one, hx]
        simp [hn, gx]
  · have g' : ¬ (i : Int) < (l.length : Int) := by omega
    have hge : i = l.length := by omega
    simp only [EV, r63_2, t7, t8, decide_eq_false g']
    refine hK .norm _ _ (C.seq (C.cond false (by simp only [↓reduceIte, EV]) (fun g => by cases g) fun _ => C.exit ?_))
    simp only [if_pos]
    refine C.seq fun K hK => ?_
    simp only [r63_7]
    refine hK .norm _ _ (C.ret ⟨.inr rfl, _, rfl, ?_, rfl⟩)
    rw [whr_drop i hil hn, hge, List.drop_length]
    simp only [↓reduceIte, EV, resOf]
    rfl
end Go.Proofs.YthofbmfcpfibdaaDoor

namespace Go.Proofs.YthofbmfcpfibdaaDoor
open Go.Ev

/-! ### the seven words that stand alone -/
def bareA (k : Int) (yes : Bool) : Ans := ⟨k, 0, ⟨0, .slice none 0 0, 0, []⟩, yes, strB []⟩
def bareT : List (List UInt8 × Ans) := [([87, 69, 76, 67, 79, 77, 69], bareA 2 true), ([85, 78, 75, 78, 79, 87, 78], bareA 2 false), ([84, 82, 65, 67, 75, 69, 68], bareA 3 true), ([85, 78, 84, 82, 65, 67, 75, 69, 68], bareA 3 false), ([80, 79, 78, 71], bareA 4 false), ([66, 89, 69], bareA 5 false), ([69, 82, 82, 79, 82], bareA 6 false)]
def bareF (w : List UInt8) : List (List UInt8 × Ans) → Option Ans
  | [] => none
  | (k, a) :: r => if w = k then some a else bareF w r
def bE : List (List UInt8 × Ans) → Nat → List MapEntry
  | [], _ => []
  | (k, a) :: r, i => { key := sv k, val := a.v, born := i } :: bE r (i + 1)
theorem leB_self : ∀ l : List UInt8, leB l l = true
  | [] => rfl
  | x :: r => by
    show (match Nat.beq x.toNat x.toNat with | true => leB r r | false => false) = true
    rw [Nat.beq_refl]
    exact leB_self r
theorem u9' : Tryd.prog.underlying 9 = some .string := by kernel_rfl
theorem keyOk_sv (k : List UInt8) : keyOk Tryd.prog 9 (sv k) = true := by
  have e : eqV Tryd.prog 200 9 (sv k) (sv k) = some (leB k k) := by
    show eqV Tryd.prog (199 + 1) 9 (sv k) (sv k) = _
    unfold eqV
    rw [u9']
    rfl
  unfold keyOk
  rw [e, leB_self]
theorem cmp_sv (a b : List UInt8) : cmpK Tryd.prog 9 (sv a) (sv b) = some (decide (a = b)) := by
  show some (leB a b) = _
  have := leB_eq a b
  rw [this, beq_dec]
theorem find_bare (w : List UInt8) : ∀ (T : List (List UInt8 × Ans)) (i j : Nat), (∃ n e a, findI Tryd.prog 9 (sv w) (bE T i) j = some (some (n, e)) ∧ bareF w T = some a ∧ e.val = a.v) ∨ (findI Tryd.prog 9 (sv w) (bE T i) j = some none ∧ bareF w T = none)
  | [], i, j => .inr ⟨rfl, rfl⟩
  | (k, a) :: r, i, j => by
    have e : findI Tryd.prog 9 (sv w) (bE ((k, a) :: r) i) j = match cmpK Tryd.prog 9 (sv w) (sv k) with
      | some true => some (some (j, { key := sv k, val := a.v, born := i }))
      | some false => findI Tryd.prog 9 (sv w) (bE r (i + 1)) (j + 1)
      | none => none := rfl
    rw [e, cmp_sv]
    by_cases g : w = k
    · rw [decide_eq_true g]
      exact .inl ⟨_, _, a, rfl, by simp [bareF, g], rfl⟩
    · rw [decide_eq_false g]
      have : bareF w ((k, a) :: r) = bareF w r := by simp [bareF, g]
      rw [this]
      exact find_bare w r (i + 1) (j + 1)
theorem bE_app : ∀ (T : List (List UInt8 × Ans)) (k : List UInt8) (a : Ans) (i : Nat), bE (T ++ [(k, a)]) i = bE T i ++ [{ key := sv k, val := a.v, born := i + T.length }]
  | [], k, a, i => rfl
  | (k', a') :: r, k, a, i => by
    show _ :: bE (r ++ [(k, a)]) (i + 1) = _
    rw [bE_app r k a (i + 1), List.length_cons, show i + 1 + r.length = i + (r.length + 1) by omega]
    rfl
theorem upd_new {h : H} {B : Nat} {T : List (List UInt8 × Ans)} {k : List UInt8} {a : Ans} (hb : Has h B (.map (bE T 0) T.length)) (hn : bareF k T = none) :
    ∃ h', updM Tryd.prog 9 h (.map (some B)) (sv k) a.v = some h' ∧ Has h' B (.map (bE (T ++ [(k, a)]) 0) (T ++ [(k, a)]).length) ∧ Keep (· = B) h h' := by
  have e : updM Tryd.prog 9 h (.map (some B)) (sv k) a.v = some (h.put B (.map (bE (T ++ [(k, a)]) 0) (T ++ [(k, a)]).length)) := by
    rw [bE_app, List.length_append]
    unfold updM
    simp only [hb.2, findK, keyOk_sv]
    rcases find_bare k T 0 0 with ⟨n, e, a', h1, h2, h3⟩ | ⟨h1, h2⟩
    · rw [hn] at h2; cases h2
    · rw [h1, Nat.zero_add]; rfl
  exact ⟨_, e, Has.put hb.1, Keep.put _ _ _⟩
theorem look_bare {h : H} {B : Nat} {T : List (List UInt8 × Ans)} {c : Nat} (hb : Has h B (.map (bE T 0) c)) (w : List UInt8) (z : Value) : lookV Tryd.prog 9 z true h (.map (some B)) (sv w) = some (match bareF w T with | some a => .tuple #[a.v, .bool true] | none => .tuple #[z, .bool false]) := by
  have hm : mapOf h (.map (some B)) = some (bE T 0) := by simp only [mapOf, hb.2]
  unfold lookV
  simp only [hm, findK, keyOk_sv]
  rcases find_bare w T 0 0 with ⟨n, e, a', h1, h2, h3⟩ | ⟨h1, h2⟩
  · rw [h1, h2]
    show some (Value.tuple #[e.val, .bool true]) = some (Value.tuple #[a'.v, .bool true])
    rw [h3]
  · rw [h1, h2]; rfl
theorem reg31_18 (L n : Nat) {tm : T Value} {h : H} {Q : Ex → T Value → H → Prop} (hQ : ∀ h', Has h' h.next (.map (bE bareT 0) 7) → Keep nobody h h' → Q .norm (T.set tm 11 (.map (some h.next))) h') : C ⟨r31_18⟩ (CF L n) L tm h Q := fun K hK => by
  rw [box_f]
  have b0 : Has (h.new (.map [] 0)) h.next (.map (bE [] 0) ([] : List (List UInt8 × Ans)).length) := Has.new _ _
  have k0 := Keep.new h (.map [] 0)
  obtain ⟨h1, u1, b1, k1'⟩ := upd_new (k := [87, 69, 76, 67, 79, 77, 69]) (a := bareA 2 true) b0 (by decide)
  have k1 := k0.trans (S' := (· = h.next)) k1' fun k hk e => by omega
  have f1 : aggO (fill [(.int .u8 (0)), (.int .u8 (0)), (.int .u8 (0)), (.slice none 0 0), (.int .u64 (0)), (.bool false), (.string (strB []))] (plc [(0, 1), (1, 1), (2, 3), (5, 1), (6, 1)]) [(0, (.int .u8 (2))), (3, (.bool true))]) = some (bareA 2 true).v := rfl
  have v1 : updM Tryd.prog 9 (h.new (.map [] 0)) (.map (some h.next)) (.string (strB [87, 69, 76, 67, 79, 77, 69])) (bareA 2 true).v = some h1 := u1
  obtain ⟨h2, u2, b2, k2'⟩ := upd_new (k := [85, 78, 75, 78, 79, 87, 78]) (a := bareA 2 false) b1 (by decide)
  have k2 := k1.trans (S' := (· = h.next)) k2' fun k hk e => by omega
  have f2 : aggO (fill [(.int .u8 (0)), (.int .u8 (0)), (.int .u8 (0)), (.slice none 0 0), (.int .u64 (0)), (.bool false), (.string (strB []))] (plc [(0, 1), (1, 1), (2, 3), (5, 1), (6, 1)]) [(0, (.int .u8 (2)))]) = some (bareA 2 false).v := rfl
  have v2 : updM Tryd.prog 9 h1 (.map (some h.next)) (.string (strB [85, 78, 75, 78, 79, 87, 78])) (bareA 2 false).v = some h2 := u2
  obtain ⟨h3, u3, b3, k3'⟩ := upd_new (k := [84, 82, 65, 67, 75, 69, 68]) (a := bareA 3 true) b2 (by decide)
  have k3 := k2.trans (S' := (· = h.next)) k3' fun k hk e => by omega
  have f3 : aggO (fill [(.int .u8 (0)), (.int .u8 (0)), (.int .u8 (0)), (.slice none 0 0), (.int .u64 (0)), (.bool false), (.string (strB []))] (plc [(0, 1), (1, 1), (2, 3), (5, 1), (6, 1)]) [(0, (.int .u8 (3))), (3, (.bool true))]) = some (bareA 3 true).v := rfl
  have v3 : updM Tryd.prog 9 h2 (.map (some h.next)) (.string (strB [84, 82, 65, 67, 75, 69, 68])) (bareA 3 true).v = some h3 := u3
  obtain ⟨h4, u4, b4, k4'⟩ := upd_new (k := [85, 78, 84, 82, 65, 67, 75, 69, 68]) (a := bareA 3 false) b3 (by decide)
  have k4 := k3.trans (S' := (· = h.next)) k4' fun k hk e => by omega
  have f4 : aggO (fill [(.int .u8 (0)), (.int .u8 (0)), (.int .u8 (0)), (.slice none 0 0), (.int .u64 (0)), (.bool false), (.string (strB []))] (plc [(0, 1), (1, 1), (2, 3), (5, 1), (6, 1)]) [(0, (.int .u8 (3)))]) = some (bareA 3 false).v := rfl
  have v4 : updM Tryd.prog 9 h3 (.map (some h.next)) (.string (strB [85, 78, 84, 82, 65, 67, 75, 69, 68])) (bareA 3 false).v = some h4 := u4
  obtain ⟨h5, u5, b5, k5'⟩ := upd_new (k := [80, 79, 78, 71]) (a := bareA 4 false) b4 (by decide)
  have k5 := k4.trans (S' := (· = h.next)) k5' fun k hk e => by omega
  have f5 : aggO (fill [(.int .u8 (0)), (.int .u8 (0)), (.int .u8 (0)), (.slice none 0 0), (.int .u64 (0)), (.bool false), (.string (strB []))] (plc [(0, 1), (1, 1), (2, 3), (5, 1), (6, 1)]) [(0, (.int .u8 (4)))]) = some (bareA 4 false).v := rfl
  have v5 : updM Tryd.prog 9 h4 (.map (some h.next)) (.string (strB [80, 79, 78, 71])) (bareA 4 false).v = some h5 := u5
  obtain ⟨h6, u6, b6, k6'⟩ := upd_new (k := [66, 89, 69]) (a := bareA 5 false) b5 (by decide)
  have k6 := k5.trans (S' := (· = h.next)) k6' fun k hk e => by omega
  have f6 : aggO (fill [(.int .u8 (0)), (.int .u8 (0)), (.int .u8 (0)), (.slice none 0 0), (.int .u64 (0)), (.bool false), (.string (strB []))] (plc [(0, 1), (1, 1), (2, 3), (5, 1), (6, 1)]) [(0, (.int .u8 (5)))]) = some (bareA 5 false).v := rfl
  have v6 : updM Tryd.prog 9 h5 (.map (some h.next)) (.string (strB [66, 89, 69])) (bareA 5 false).v = some h6 := u6
  obtain ⟨h7, u7, b7, k7'⟩ := upd_new (k := [69, 82, 82, 79, 82]) (a := bareA 6 false) b6 (by decide)
  have k7 := k6.trans (S' := (· = h.next)) k7' fun k hk e => by omega
  have f7 : aggO (fill [(.int .u8 (0)), (.int .u8 (0)), (.int .u8 (0)), (.slice none 0 0), (.int .u64 (0)), (.bool false), (.string (strB []))] (plc [(0, 1), (1, 1), (2, 3), (5, 1), (6, 1)]) [(0, (.int .u8 (6)))]) = some (bareA 6 false).v := rfl
  have v7 : updM Tryd.prog 9 h6 (.map (some h.next)) (.string (strB [69, 82, 82, 79, 82])) (bareA 6 false).v = some h7 := u7
  simp only [↓EW, EV, r31_18, f1, v1, f2, v2, f3, v3, f4, v4, f5, v5, f6, v6, f7, v7]
  exact hK _ _ _ (hQ h7 b7 k7)
end Go.Proofs.YthofbmfcpfibdaaDoor

namespace Go.Proofs.YthofbmfcpfibdaaDoor
open Go.Ev

/-! ### the answer of one line -/
theorem of_out (L n : Nat) (s : ByteArray) (k : Nat) (hk : ¬ (1 ≤ k ∧ k ≤ 11)) (h : H) : Sp (CF L (n + 1)) 45 [.string s, .int .u8 (k : Int)] h fun r h' => r = .bool false ∧ h' = h := by
  have n1 : ¬ (k : Int) = 1 := by omega
  have n2 : ¬ (k : Int) = 2 := by omega
  have n3 : ¬ (k : Int) = 3 := by omega
  have n4 : ¬ (k : Int) = 4 := by omega
  have n5 : ¬ (k : Int) = 5 := by omega
  have n6 : ¬ (k : Int) = 6 := by omega
  have n7 : ¬ (k : Int) = 7 := by omega
  have n8 : ¬ (k : Int) = 8 := by omega
  have n9 : ¬ (k : Int) = 9 := by omega
  have n10 : ¬ (k : Int) = 10 := by omega
  have n11 : ¬ (k : Int) = 11 := by omega
  refine Sp.body f45 (by simp) fun K hK => ?_
  simp [c45, seqC, retC, skipC, blockC, condC, r45_0, r45_1, r45_2, r45_3, r45_4, r45_5, r45_6, r45_8, r45_9, r45_11, r45_13, r45_15, r45_17, r45_19, n1, n2, n3, n4, n5, n6, n7, n8, n9, n10, n11]
  exact hK _ _ _ ⟨.inr rfl, _, rfl, rfl, rfl⟩
def wordB : List (List UInt8) := wordN.map fun s => s.data.toList
def rowB (k : Nat) : List UInt8 := (rowN.getD k (strB [])).data.toList
def pushW : List UInt8 := [80, 85, 83, 72]
def endW : List UInt8 := [69, 78, 68]
def knownB (k : Nat) : Bool := decide (1 ≤ k) && decide (k ≤ 11)
/-- is a word the row of a kind? -/
def isRow (w : List UInt8) (k : Nat) : Bool := knownB k && decide (w = rowB k)
theorem of_any (L n : Nat) (w : List UInt8) (k : Nat) (h : H) : Sp (CF L (n + 1)) 45 [sv w, .int .u8 (k : Int)] h fun r h' => r = .bool (isRow w k) ∧ h' = h := by
  unfold isRow knownB
  by_cases g : 1 ≤ k ∧ k ≤ 11
  · refine (of_law L n ⟨w.toArray⟩ k g.1 g.2 h).mono fun r h' hq => ⟨?_, hq.2⟩
    rw [hq.1, decide_eq_true g.1, decide_eq_true g.2]
    show Value.bool (leB w (rowB k)) = _
    rw [leB_eq, beq_dec]; rfl
  · refine (of_out L n ⟨w.toArray⟩ k g h).mono fun r h' hq => ⟨?_, hq.2⟩
    rw [hq.1]
    by_cases g1 : 1 ≤ k
    · rw [decide_eq_true g1, decide_eq_false (fun h => g ⟨g1, h⟩)]; rfl
    · rw [decide_eq_false g1]; rfl
/-- answers of a line -/
def resA (k : Nat) (i : Int) : Ans := ⟨1, k, ⟨i, .slice none 0 0, 0, []⟩, false, strB []⟩
def doneA (k : Nat) (m : Nat) : Ans := ⟨1, k, ⟨1, .slice none 0 0, m, []⟩, false, strB []⟩
def pushA (w : List UInt8) : Ans := ⟨7, 0, ⟨0, .slice none 0 0, 0, []⟩, false, ⟨w.toArray⟩⟩
def keyW (w : List UInt8) : Bool := decide (1 ≤ w.length) && decide (w.length ≤ 32) && plainL w
def lineA (k : Nat) (ws : List (List UInt8)) : Option Ans :=
  if ws.length = 1 ∧ 0 < whr (ws.getD 0 []) wordB 0 then (if knownB k = true then some (resA k (whr (ws.getD 0 []) wordB 0)) else none)
  else if isRow (ws.getD 0 []) k = true ∧ ws.getD 0 [] ≠ endW then
    if countsB k = false then (if ws.length = 1 then some (doneA k 0) else none)
    else if ws.length ≠ 2 then none
    else if numI ws 1 18446744073709551615 = true ∧ (k ≠ 10 ∨ numG ws 1 ≤ 8) then some (doneA k (numG ws 1)) else none
  else if ws.length = 2 ∧ ws.getD 0 [] = pushW then (if keyW (ws.getD 1 []) = true then some (pushA (ws.getD 1 [])) else none)
  else if ws.length = 1 then bareF (ws.getD 0 []) bareT else none
end Go.Proofs.YthofbmfcpfibdaaDoor

namespace Go.Proofs.YthofbmfcpfibdaaDoor
open Go.Ev

/-! ### single: its pieces -/
def zA : Ans := ⟨0, 0, ⟨0, .slice none 0 0, 0, []⟩, false, strB []⟩
theorem wordB_sv : wordB.map sv = wordN.map Value.string := rfl
theorem put7 {h : H} {B : Nat} {s : Option Nat} {cs : List Value} {a : Ans} (hb : Has h B (.rw cs (some 27))) (hc : cs.length = 7) (ho : ones a.cells = true) : storeV 7 h (.pointer (some ⟨B, 0, s⟩)) a.v = some (h.put B (.rw a.cells (some 27))) := store_has hb hc.symm rfl ho
theorem get7 {h : H} {B : Nat} {s : Option Nat} {a : Ans} (hb : Has h B (.rw a.cells (some 27))) : loadAgg 7 h (.pointer (some ⟨B, 0, s⟩)) = some a.v := loadAgg_has hb rfl (by show 0 + 7 ≤ 7; omega)
/-- how the answer is given back -/
theorem fin31 {h h0 : H} {B : Nat} {tm : T Value} {a : Ans} {c : Bool} {e : Ex} (he : e = .ret) (hb : Has h B (.rw a.cells (some 27))) (t4 : tg tm 4 = .pointer (some ⟨B, 0, none⟩)) (t5 : tg tm 5 = .bool c) {o : Option Ans} (ho : o.isSome = c) (ha : ∀ x, o = some x → a = x) (hk : Keep nobody h0 h) (h1 : ones a.cells = true := by rfl) :
    (e = .ret) ∧ ∃ l, q31.f tm h = some l ∧ ((∃ x : Ans, resOf l = .tuple #[x.v, .bool o.isSome] ∧ ones x.cells = true ∧ ∀ b, o = some b → x = b) ∧ Keep nobody h0 h) := by
  refine ⟨he, [a.v, .bool c], ?_, ⟨a, ?_, h1, ha⟩, hk⟩
  · simp only [q31, t4, t5, get7 hb]
  · rw [ho]; rfl
theorem reg31_0 (L n : Nat) {tm : T Value} {h : H} {Q : Ex → T Value → H → Prop} (hQ : ∀ h', Has h' h.next (.rw zA.cells (some 27)) → Keep nobody h h' → h'.next = h.next + 1 → Q .norm (T.set (T.set tm 4 (.pointer (some ⟨h.next, 0, none⟩))) 5 (.bool false)) h') : C ⟨r31_0⟩ (CF L n) L tm h Q := fun K hK => by
  rw [box_f]
  have := hQ (h.new (.rw zA.cells (some 27))) (Has.new _ _) (Keep.new _ _) rfl
  simp only [↓EW, EV, r31_0]
  exact hK _ _ _ this
theorem reg31_1 (L n : Nat) {tm : T Value} {h : H} {k : Nat} {Q : Ex → T Value → H → Prop} (t1 : tg tm 1 = .int .u8 (k : Int)) (hQ : ∀ h', Has h' h.next (.rw (resA k 0).cells (some 27)) → Keep nobody h h' → h'.next = h.next + 1 → Q .norm (T.set tm 6 (.pointer (some ⟨h.next, 0, none⟩))) h') : C ⟨r31_1⟩ (CF L n) L tm h Q := fun K hK => by
  rw [box_f]
  have f : aggO (fill [(.int .u8 (0)), (.int .u8 (0)), (.int .u8 (0)), (.slice none 0 0), (.int .u64 (0)), (.bool false), (.string (strB []))] (plc [(0, 1), (1, 1), (2, 3), (5, 1), (6, 1)]) [(0, (.int .u8 (1))), (1, (.int .u8 (k : Int)))]) = some (resA k 0).v := rfl
  have st : storeV 7 (h.new (.rw zA.cells (some 27))) (.pointer (some ⟨h.next, 0, none⟩)) (resA k 0).v = some ((h.new (.rw zA.cells (some 27))).put h.next (.rw (resA k 0).cells (some 27))) := put7 (Has.new _ _) rfl rfl
  have st' : storeV 7 (h.new (.rw [(.int .u8 (0)), (.int .u8 (0)), (.int .u8 (0)), (.slice none 0 0), (.int .u64 (0)), (.bool false), (.string (strB []))] (some 27))) (.pointer (some ⟨h.next, 0, none⟩)) (resA k 0).v = some ((h.new (.rw zA.cells (some 27))).put h.next (.rw (resA k 0).cells (some 27))) := st
  have := hQ _ (has_alloc h (.rw zA.cells (some 27)) _) (keep_alloc h _ _) rfl
  simp only [↓EW, EV, r31_1, t1, f, st']
  exact hK _ _ _ this
theorem reg31_2 (L n : Nat) {tm : T Value} {h : H} {Q : Ex → T Value → H → Prop} (hQ : ∀ h' B, h.next ≤ B → Has h' B (.rw (wordN.map Value.string) (some 52)) → Keep nobody h h' → Q .norm (T.set tm 7 (.pointer (some ⟨B, 0, none⟩))) h') : C ⟨r31_2⟩ (CF L (n + 1)) L tm h Q := fun K hK => by
  rw [box_f]
  simp only [↓EW, EV, r31_2]
  refine results_law L n h _ fun r h1 hq => ?_
  obtain ⟨rfl, k1⟩ := hq
  have st : storeV 8 (h1.new (.rw (List.replicate 8 (.string (strB []))) (some 52))) (.pointer (some ⟨h1.next, 0, none⟩)) (.agg (wordN.map Value.string).toArray) = some ((h1.new (.rw (List.replicate 8 (.string (strB []))) (some 52))).put h1.next (.rw (wordN.map Value.string) (some 52))) := store_new h1 8 none _ _ _ rfl rfl rfl
  have st' : storeV 8 (h1.new (.rw [(.string (strB [])), (.string (strB [])), (.string (strB [])), (.string (strB [])), (.string (strB [])), (.string (strB [])), (.string (strB [])), (.string (strB []))] (some 52))) (.pointer (some ⟨h1.next, 0, none⟩)) (.agg (wordN.map Value.string).toArray) = some ((h1.new (.rw (List.replicate 8 (.string (strB []))) (some 52))).put h1.next (.rw (wordN.map Value.string) (some 52))) := st
  have := hQ _ h1.next k1.next (has_alloc h1 (.rw (List.replicate 8 (.string (strB []))) (some 52)) _) (k1.then (keep_alloc h1 _ _))
  simp only [EV, st']
  exact hK _ _ _ this
theorem reg31_3 (L n : Nat) (hL : 1000 ≤ L) {tm : T Value} {h : H} {v : Value} {ws : List (List UInt8)} {B : Nat} {Q : Ex → T Value → H → Prop} (hs : Strs h v ws) (hne : 0 < ws.length) (b7 : Has h B (.rw (wordN.map Value.string) (some 52))) (t0 : tg tm 0 = v) (t7 : tg tm 7 = .pointer (some ⟨B, 0, none⟩))
    (hQ : ∀ h', Keep nobody h h' → Q .norm (T.set tm 8 (.int .i64 (whr (ws.getD 0 []) wordB 0))) h') : C ⟨r31_3⟩ (CF L (n + 1)) L tm h Q := fun K hK => by
  rw [box_f]
  have kn : Keep nobody h ⟨h.objs, h.next + 6⟩ := ⟨by show h.next ≤ h.next + 6; omega, fun _ _ _ => rfl⟩
  have hx : ws[0]? = some (ws.getD 0 []) := by rw [List.getD_eq_getElem?_getD, List.getElem?_eq_getElem hne]; rfl
  obtain ⟨b, o, e1, e2⟩ := (hs.keep0 kn).load hx
  have e1' : indexSl 1 v (.int .i64 0) = some (.pointer (some ⟨b, o, none⟩)) := e1
  have e2' := e2 _ (hs.keep0 kn)
  have hw : Strs ⟨h.objs, h.next + 6⟩ (.slice (some ⟨B, 0, none⟩) 8 8) wordB := strs_lit (l := wordB) (ty := some 52) (by rw [wordB_sv]; exact b7.keep0 kn) (by decide)
  have sa : sliceArr 1 8 (.pointer (some ⟨B, 0, none⟩)) none none none = some (.slice (some ⟨B, 0, none⟩) 8 8) := rfl
  simp only [EV, r31_3, t0, t7, sa, e1', e2']
  refine index63 L n hw (by show 8 < L; omega) (by decide) _ fun r h2 hq => ?_
  obtain ⟨rfl, hh⟩ := hq
  rw [hh]
  exact hK _ _ _ (hQ _ kn)
end Go.Proofs.YthofbmfcpfibdaaDoor

namespace Go.Proofs.YthofbmfcpfibdaaDoor
open Go.Ev

theorem whr_lt (k : List UInt8) : ∀ (l : List (List UInt8)) (i : Nat), -1 ≤ whr k l i ∧ whr k l i < (i : Int) + l.length
  | [], i => by
    show -1 ≤ (-1 : Int) ∧ (-1 : Int) < (i : Int) + (([] : List (List UInt8)).length : Int)
    simp only [List.length_nil]; omega
  | p :: r, i => by
    have ih := whr_lt k r (i + 1)
    show -1 ≤ (if k = p then (i : Int) else whr k r (i + 1)) ∧ (if k = p then (i : Int) else whr k r (i + 1)) < _
    simp only [List.length_cons]
    split <;> omega
/-- what single has when it begins to choose -/
structure S31 (h0 : H) (v : Value) (k B4 B6 : Nat) (I : Int) (tm : T Value) (h : H) : Prop where
  t0 : tg tm 0 = v
  t1 : tg tm 1 = .int .u8 (k : Int)
  t4 : tg tm 4 = .pointer (some ⟨B4, 0, none⟩)
  t6 : tg tm 6 = .pointer (some ⟨B6, 0, none⟩)
  t8 : tg tm 8 = .int .i64 I
  b4 : Has h B4 (.rw zA.cells (some 27))
  b6 : Has h B6 (.rw (resA k 0).cells (some 27))
  lt : h0.next ≤ B4 ∧ B4 < B6
  keep : Keep nobody h0 h
theorem put_keep {h0 h : H} {B : Nat} {x : AObj} (k : Keep nobody h0 h) (hB : h0.next ≤ B) : Keep nobody h0 (h.put B x) := k.trans (S' := (· = B)) (Keep.put _ _ _) fun k hk e => by omega
theorem has_other {h : H} {B B' : Nat} {x y : AObj} (a : Has h B x) (hn : B ≠ B') : Has (h.put B' y) B x := a.keep (Keep.put h B' y) hn
/-- a result's word -/
theorem br31_res (L n : Nat) {h0 h : H} {v : Value} {ws : List (List UInt8)} {k B4 B6 : Nat} {I : Int} {tm : T Value} (s : S31 h0 v k B4 B6 I tm h) (h1 : 0 < I) (h8 : I < 8) :
    C ⟨seqC ⟨r31_5⟩ ⟨seqC ⟨r31_6⟩ retC⟩⟩ (CF L n) L tm h fun e tm' h' => (e = .ret) ∧ ∃ l, q31.f tm' h' = some l ∧ ((∃ x : Ans, resOf l = .tuple #[x.v, .bool (if knownB k = true then some (resA k I) else none).isSome] ∧ ones x.cells = true ∧ ∀ b, (if knownB k = true then some (resA k I) else none) = some b → x = b) ∧ Keep nobody h0 h') := by
  obtain ⟨t0, t1, t4, t6, t8, b4, b6, ⟨lt1, lt2⟩, kp⟩ := s
  have w : toInt .u8 (.int .i64 I) = some (.int .u8 I) := by
    rw [toInt_int, wrap_eq _ _ (by show (0 : Int) ≤ I; omega) (by show I ≤ 255; omega)]
  have st : storeV 1 h (.pointer (some ⟨B6, 2, none⟩)) (.int .u8 I) = some (h.put B6 (.rw (resA k I).cells (some 27))) := store_one b6 rfl rfl rfl
  refine C.seq fun K hK => ?_
  simp only [EV, r31_5, t6, t8, w, st]
  refine hK _ _ _ (C.seq fun K hK => ?_)
  have b6' := Has.put (x := .rw (resA k I).cells (some 27)) b6.1
  have b4' := has_other (y := .rw (resA k I).cells (some 27)) b4 (show B4 ≠ B6 by omega)
  have kp' := put_keep (x := .rw (resA k I).cells (some 27)) kp (show h0.next ≤ B6 by omega)
  generalize h.put B6 (.rw (resA k I).cells (some 27)) = h2 at *
  have g7 := get7 (s := none) b6'
  have p7 := put7 (s := none) (a := resA k I) b4' rfl rfl
  have b4'' := Has.put (x := .rw (resA k I).cells (some 27)) b4'.1
  have kp'' := put_keep (x := .rw (resA k I).cells (some 27)) kp' lt1
  by_cases g1 : (1 : Int) ≤ (k : Int)
  · by_cases g2 : (k : Int) ≤ 11
    · have hk : knownB k = true := by unfold knownB; rw [decide_eq_true (by omega), decide_eq_true (by omega)]; rfl
      simp only [↓EW, EV, r31_6, t1, t4, t6, g7, decide_eq_true g1, decide_eq_true g2, p7]
      refine hK _ _ _ (C.ret (fin31 rfl b4'' (by simp only [↓reduceIte, EV, Nat.reduceEqDiff, t4]) (by simp only [↓reduceIte, EV]; rfl) (by rw [if_pos hk]; rfl) (fun x hx => by rw [if_pos hk] at hx; exact Option.some.inj hx) kp''))
    · have hk : ¬ knownB k = true := by unfold knownB; rw [decide_eq_false (show ¬ k ≤ 11 by omega)]; simp
      simp only [↓EW, EV, r31_6, t1, t4, t6, g7, decide_eq_true g1, decide_eq_false g2, p7]
      refine hK _ _ _ (C.ret (fin31 rfl b4'' (by simp only [↓reduceIte, EV, Nat.reduceEqDiff, t4]) (by simp only [↓reduceIte, EV]; rfl) (by rw [if_neg hk]; rfl) (fun x hx => by rw [if_neg hk] at hx; cases hx) kp''))
  · have hk : ¬ knownB k = true := by unfold knownB; rw [decide_eq_false (show ¬ 1 ≤ k by omega)]; simp
    simp only [EV, r31_6, t1, t4, t6, g7, decide_eq_false g1, p7]
    refine hK _ _ _ (C.ret (fin31 rfl b4'' (by simp only [↓reduceIte, EV, Nat.reduceEqDiff, t4]) (by simp only [↓reduceIte, EV]; rfl) (by rw [if_neg hk]; rfl) (fun x hx => by rw [if_neg hk] at hx; cases hx) kp''))
end Go.Proofs.YthofbmfcpfibdaaDoor

namespace Go.Proofs.YthofbmfcpfibdaaDoor
open Go.Ev

def rowO (k : Nat) (ws : List (List UInt8)) : Option Ans :=
  if countsB k = false then (if ws.length = 1 then some (doneA k 0) else none)
  else if ws.length ≠ 2 then none
  else if numI ws 1 18446744073709551615 = true ∧ (k ≠ 10 ∨ numG ws 1 ≤ 8) then some (doneA k (numG ws 1)) else none
/-- the row of what is done -/
theorem br31_row (L n : Nat) (hL : 2000 ≤ L) {h0 h : H} {v : Value} {ws : List (List UInt8)} {k B4 B6 : Nat} {I : Int} {tm : T Value} {e : Value} (he : ErrC e) (hG : Has h0 5 (.ro [e])) (hs : Strs h0 v ws) (s : S31 h0 v k B4 B6 I tm h) :
    C ⟨seqC ⟨r31_8⟩ ⟨seqC ⟨seqC ⟨r31_9⟩ ⟨condC ⟨fun _ tm => tg tm 55⟩ ⟨seqC ⟨r31_10⟩ retC⟩ skipC⟩⟩ ⟨seqC ⟨seqC ⟨r31_11⟩ ⟨condC ⟨fun _ tm => tg tm 62⟩ ⟨seqC ⟨r31_12⟩ retC⟩ skipC⟩⟩ ⟨seqC ⟨r31_13⟩ ⟨seqC ⟨r31_14⟩ ⟨seqC ⟨r31_15⟩ retC⟩⟩⟩⟩⟩⟩ (CF L (n + 6)) L tm h fun e tm' h' => (e = .ret) ∧ ∃ l, q31.f tm' h' = some l ∧ ((∃ x : Ans, resOf l = .tuple #[x.v, .bool (rowO k ws).isSome] ∧ ones x.cells = true ∧ ∀ b, rowO k ws = some b → x = b) ∧ Keep nobody h0 h') := by
  obtain ⟨t0, t1, t4, t6, t8, b4, b6, ⟨lt1, lt2⟩, kp⟩ := s
  have st : storeV 1 h (.pointer (some ⟨B6, 2, none⟩)) (.int .u8 1) = some (h.put B6 (.rw (doneA k 0).cells (some 27))) := store_one b6 rfl rfl rfl
  refine C.seq fun K hK => ?_
  simp only [EV, r31_8, t6, st]
  refine hK _ _ _ (C.seq (C.seq fun K hK => ?_))
  have b6' := Has.put (x := .rw (doneA k 0).cells (some 27)) b6.1
  have b4' := has_other (y := .rw (doneA k 0).cells (some 27)) b4 (show B4 ≠ B6 by omega)
  have kp' := put_keep (x := .rw (doneA k 0).cells (some 27)) kp (show h0.next ≤ B6 by omega)
  generalize h.put B6 (.rw (doneA k 0).cells (some 27)) = h2 at *
  have hs2 := hs.keep0 kp'
  have hG2 := hG.keep0 kp'
  simp only [r31_9, t1]
  refine words_counts L (n + 5) (k : Int) h2 _ fun r h3 hq => ?_
  obtain ⟨rfl, hh⟩ := hq
  rw [hh]; clear hh
  have g7 := get7 (s := none) b6'
  have p7 := put7 (s := none) (a := doneA k 0) b4' rfl rfl
  have b4'' := Has.put (x := .rw (doneA k 0).cells (some 27)) b4'.1
  have kp'' := put_keep (x := .rw (doneA k 0).cells (some 27)) kp' lt1
  cases hc : countsB (k : Int) with
  | false =>
    have hO : rowO k ws = if ws.length = 1 then some (doneA k 0) else none := by unfold rowO; rw [if_pos hc]
    simp only [EV]
    refine hK _ _ _ (C.cond true (by simp only [↓reduceIte, EV]) (fun _ => C.seq fun K hK => ?_) fun g => by cases g)
    by_cases gl : (ws.length : Int) = 1
    · rw [if_pos (show ws.length = 1 by omega)] at hO
      simp only [↓reduceIte, EV, Nat.reduceEqDiff, r31_10, t0, t4, t6, hs2.len, g7, decide_eq_true gl, p7]
      refine hK _ _ _ (C.ret (fin31 rfl b4'' (by simp only [↓reduceIte, EV, Nat.reduceEqDiff, t4]) (by simp only [↓reduceIte, EV]; rfl) (by rw [hO]; rfl) (fun x hx => by rw [hO] at hx; exact Option.some.inj hx) kp''))
    · rw [if_neg (show ¬ ws.length = 1 by omega)] at hO
      simp only [↓reduceIte, EV, Nat.reduceEqDiff, r31_10, t0, t4, t6, hs2.len, g7, decide_eq_false gl, p7]
      refine hK _ _ _ (C.ret (fin31 rfl b4'' (by simp only [↓reduceIte, EV, Nat.reduceEqDiff, t4]) (by simp only [↓reduceIte, EV]; rfl) (by rw [hO]; rfl) (fun x hx => by rw [hO] at hx; cases hx) kp''))
  | true =>
    simp only [EV]
    refine hK _ _ _ (C.cond false (by simp only [↓reduceIte, EV]) (fun g => by cases g) fun _ => C.skip (C.seq (C.seq fun K hK => ?_)))
    by_cases gl : (ws.length : Int) = 2
    rotate_left
    · have hO : rowO k ws = none := by unfold rowO; rw [if_neg (by rw [hc]; simp), if_pos (by omega)]
      simp only [↓reduceIte, EV, Nat.reduceEqDiff, r31_11, t0, hs2.len, decide_eq_false gl]
      refine hK _ _ _ (C.cond true (by simp only [↓reduceIte, EV]) (fun _ => C.seq fun K hK => ?_) fun g => by cases g)
      simp only [↓reduceIte, EV, Nat.reduceEqDiff, r31_12, t4, t6, g7, p7]
      refine hK _ _ _ (C.ret (fin31 rfl b4'' (by simp only [↓reduceIte, EV, Nat.reduceEqDiff, t4]) (by simp only [↓reduceIte, EV]; rfl) (by rw [hO]; rfl) (fun x hx => by rw [hO] at hx; cases hx) kp''))
    have gl' : ws.length = 2 := by omega
    have hO : rowO k ws = if numI ws 1 18446744073709551615 = true ∧ (k ≠ 10 ∨ numG ws 1 ≤ 8) then some (doneA k (numG ws 1)) else none := by unfold rowO; rw [if_neg (by rw [hc]; simp), if_neg (by omega)]
    simp only [↓reduceIte, EV, Nat.reduceEqDiff, r31_11, t0, hs2.len, decide_eq_true gl]
    refine hK _ _ _ (C.cond false (by simp only [↓reduceIte, EV]) (fun g => by cases g) fun _ => C.skip (C.seq fun K hK => ?_))
    have hx : ws[1]? = some (ws.getD 1 []) := by rw [List.getD_eq_getElem?_getD, List.getElem?_eq_getElem (by omega)]; rfl
    obtain ⟨b, o, e1, e2⟩ := hs2.load hx
    have e1' : indexSl 1 v (.int .i64 1) = some (.pointer (some ⟨b, o, none⟩)) := e1
    simp only [↓reduceIte, EV, Nat.reduceEqDiff, r31_13, t0, e1', e2 _ hs2]
    refine (num62_law L n (show 1000 ≤ L by omega) he hG2 (l := ws.getD 1 []) (m := 18446744073709551615) : Sp _ 62 _ _ _) _ fun r h4 hq => ?_
    obtain ⟨rfl, k4⟩ := hq
    have b6a := b6'.keep0 k4
    have b4a := b4'.keep0 k4
    have kpa := kp'.then k4
    simp only [EV, upto0, upto1]
    refine hK _ _ _ (C.seq fun K hK => ?_)
    have st2 : storeV 1 h4 (.pointer (some ⟨B6, 4, none⟩)) (.int .u64 (numG ws 1 : Int)) = some (h4.put B6 (.rw (doneA k (numG ws 1)).cells (some 27))) := store_one b6a rfl rfl rfl
    simp only [↓reduceIte, EV, Nat.reduceAdd, Nat.reduceEqDiff, r31_14, t6, st2]
    refine hK _ _ _ (C.seq fun K hK => ?_)
    have b6b := Has.put (x := .rw (doneA k (numG ws 1)).cells (some 27)) b6a.1
    have b4b := has_other (y := .rw (doneA k (numG ws 1)).cells (some 27)) b4a (show B4 ≠ B6 by omega)
    have kpb := put_keep (x := .rw (doneA k (numG ws 1)).cells (some 27)) kpa (show h0.next ≤ B6 by omega)
    generalize h4.put B6 (.rw (doneA k (numG ws 1)).cells (some 27)) = h5 at *
    have g7b := get7 (s := none) b6b
    have p7b := put7 (s := none) (a := doneA k (numG ws 1)) b4b rfl rfl
    have b4c := Has.put (x := .rw (doneA k (numG ws 1)).cells (some 27)) b4b.1
    have kpc := put_keep (x := .rw (doneA k (numG ws 1)).cells (some 27)) kpb lt1
    cases hi : numI ws 1 18446744073709551615 with
    | false =>
      rw [if_neg (by rw [hi]; simp)] at hO
      simp only [↓opStep_eq, ↓reduceIte, ↓EW, EV, Nat.reduceEqDiff, r31_15, t4, t6, g7b, p7b]
      refine hK _ _ _ (C.ret (fin31 rfl b4c (by simp only [↓reduceIte, EV, Nat.reduceEqDiff, t4]) (by simp only [↓reduceIte, EV]; rfl) (by rw [hO]; rfl) (fun x hx => by rw [hO] at hx; cases hx) kpc))
    | true =>
      by_cases g10 : (k : Int) = 10
      · by_cases g8 : (numG ws 1 : Int) ≤ 8
        · rw [if_pos ⟨hi, .inr (by omega)⟩] at hO
          simp only [↓opStep_eq, ↓reduceIte, ↓EW, EV, Nat.reduceEqDiff, r31_15, t1, t4, t6, g7b, p7b, decide_eq_true g10, decide_eq_true g8]
          refine hK _ _ _ (C.ret (fin31 rfl b4c (by simp only [↓reduceIte, EV, Nat.reduceEqDiff, t4]) (by simp only [↓reduceIte, EV]; rfl) (by rw [hO]; rfl) (fun x hx => by rw [hO] at hx; exact Option.some.inj hx) kpc))
        · rw [if_neg (by rintro ⟨_, h | h⟩ <;> omega)] at hO
          simp only [↓opStep_eq, ↓reduceIte, ↓EW, EV, Nat.reduceEqDiff, r31_15, t1, t4, t6, g7b, p7b, decide_eq_true g10, decide_eq_false g8]
          refine hK _ _ _ (C.ret (fin31 rfl b4c (by simp only [↓reduceIte, EV, Nat.reduceEqDiff, t4]) (by simp only [↓reduceIte, EV]; rfl) (by rw [hO]; rfl) (fun x hx => by rw [hO] at hx; cases hx) kpc))
      · rw [if_pos ⟨hi, .inl (by omega)⟩] at hO
        simp only [↓opStep_eq, ↓reduceIte, ↓EW, EV, Nat.reduceEqDiff, r31_15, t1, t4, t6, g7b, p7b, decide_eq_false g10]
        refine hK _ _ _ (C.ret (fin31 rfl b4c (by simp only [↓reduceIte, EV, Nat.reduceEqDiff, t4]) (by simp only [↓reduceIte, EV]; rfl) (by rw [hO]; rfl) (fun x hx => by rw [hO] at hx; exact Option.some.inj hx) kpc))
end Go.Proofs.YthofbmfcpfibdaaDoor

namespace Go.Proofs.YthofbmfcpfibdaaDoor
open Go.Ev

theorem bare_ones {w : List UInt8} {a : Ans} : ∀ {T : List (List UInt8 × Ans)}, (∀ p ∈ T, ones p.2.cells = true) → bareF w T = some a → ones a.cells = true
  | [], _, h => by cases h
  | (k, b) :: r, ht, h => by
    unfold bareF at h
    split at h
    · cases h; exact ht (k, _) (List.mem_cons_self ..)
    · exact bare_ones (fun p hp => ht p (List.mem_cons_of_mem _ hp)) h
theorem bareT_ones {w : List UInt8} {a : Ans} (h : bareF w bareT = some a) : ones a.cells = true := bare_ones (T := bareT) (by
  intro p hp
  simp only [bareT, List.mem_cons, List.not_mem_nil, or_false] at hp
  rcases hp with rfl | rfl | rfl | rfl | rfl | rfl | rfl <;> rfl) h
def bareO (ws : List (List UInt8)) : Option Ans := if ws.length = 1 then bareF (ws.getD 0 []) bareT else none
/-- a word that stands alone -/
theorem br31_bare (L n : Nat) {h0 h : H} {v : Value} {ws : List (List UInt8)} {k B4 B6 : Nat} {I : Int} {tm : T Value} (hs : Strs h0 v ws) (hne : 0 < ws.length) (s : S31 h0 v k B4 B6 I tm h) :
    C ⟨seqC ⟨r31_18⟩ ⟨seqC ⟨r31_19⟩ ⟨seqC ⟨r31_20⟩ retC⟩⟩⟩ (CF L n) L tm h fun e tm' h' => (e = .ret) ∧ ∃ l, q31.f tm' h' = some l ∧ ((∃ x : Ans, resOf l = .tuple #[x.v, .bool (bareO ws).isSome] ∧ ones x.cells = true ∧ ∀ b, bareO ws = some b → x = b) ∧ Keep nobody h0 h') := by
  obtain ⟨t0, t1, t4, t6, t8, b4, b6, ⟨lt1, lt2⟩, kp⟩ := s
  refine C.seq (reg31_18 L n fun h2 hb k2 => ?_)
  have kp2 := kp.then k2
  have b42 := b4.keep0 k2
  have hs2 := hs.keep0 kp2
  have hx : ws[0]? = some (ws.getD 0 []) := by rw [List.getD_eq_getElem?_getD, List.getElem?_eq_getElem hne]; rfl
  obtain ⟨b, o, e1, e2⟩ := hs2.load hx
  have e1' : indexSl 1 v (.int .i64 0) = some (.pointer (some ⟨b, o, none⟩)) := e1
  refine C.seq fun K hK => ?_
  have lk := look_bare hb (ws.getD 0 []) (.agg #[.int .u8 (0), .int .u8 (0), .int .u8 (0), .slice none 0 0, .int .u64 (0), .bool false, .string (strB [])])
  have t2 : ∀ (x y : Value) i, tupNth i (.tuple #[x, y]) = [x, y][i]? := fun x y i => tupNth_tuple i [x, y]
  have key : ∀ (a : Ans) (c : Bool) (o : Option Ans) (tm2 : T Value), ones a.cells = true → (∀ x, o = some x → a = x) → o.isSome = c → (bareO ws = if ws.length = 1 then o else none) →
      tg tm2 0 = v → tg tm2 4 = .pointer (some ⟨B4, 0, none⟩) → tg tm2 12 = .pointer (some ⟨h2.next, 0, none⟩) → tg tm2 13 = .bool c →
      C ⟨seqC ⟨r31_20⟩ retC⟩ (CF L n) L tm2 ((h2.new (.rw zA.cells (some 27))).put h2.next (.rw a.cells (some 27))) fun e tm' h' => (e = .ret) ∧ ∃ l, q31.f tm' h' = some l ∧ ((∃ x : Ans, resOf l = .tuple #[x.v, .bool (bareO ws).isSome] ∧ ones x.cells = true ∧ ∀ b, bareO ws = some b → x = b) ∧ Keep nobody h0 h') := fun a c o tm2 ho ha hc hO x0 x4 x12 x13 => by
    have ka := keep_alloc h2 (.rw zA.cells (some 27)) (.rw a.cells (some 27))
    have b12 := has_alloc h2 (.rw zA.cells (some 27)) (.rw a.cells (some 27))
    have b43 := b42.keep0 ka
    have kp3 := kp2.then ka
    generalize (h2.new (.rw zA.cells (some 27))).put h2.next (.rw a.cells (some 27)) = h3 at *
    have hs3 := hs.keep0 kp3
    have g7 := get7 (s := none) b12
    have p7 := put7 (s := none) (a := a) b43 rfl ho
    have b44 := Has.put (x := .rw a.cells (some 27)) b43.1
    have kp4 := put_keep (x := .rw a.cells (some 27)) kp3 lt1
    refine C.seq fun K hK => ?_
    cases c with
    | false =>
      have hn : o = none := by cases o with | none => rfl | some x => cases hc
      rw [hn] at hO
      have hO' : bareO ws = none := by rw [hO]; split <;> rfl
      simp only [↓opStep_eq, ↓reduceIte, ↓EW, EV, r31_20, x4, x12, x13, g7, p7]
      refine hK _ _ _ (C.ret (fin31 rfl b44 (by simp only [↓reduceIte, EV, Nat.reduceEqDiff, x4]) (by simp only [↓reduceIte, EV]; rfl) (by rw [hO']; rfl) (fun x hx => by rw [hO'] at hx; cases hx) kp4 ho))
    | true =>
      by_cases gl : (ws.length : Int) = 1
      · rw [if_pos (show ws.length = 1 by omega)] at hO
        simp only [↓opStep_eq, ↓reduceIte, ↓EW, EV, r31_20, x0, x4, x12, x13, hs3.len, g7, p7, decide_eq_true gl]
        refine hK _ _ _ (C.ret (fin31 rfl b44 (by simp only [↓reduceIte, EV, Nat.reduceEqDiff, x4]) (by simp only [↓reduceIte, EV]; rfl) (by rw [hO, hc]) (fun x hx => ha x (by rw [← hO]; exact hx)) kp4 ho))
      · rw [if_neg (show ¬ ws.length = 1 by omega)] at hO
        simp only [↓opStep_eq, ↓reduceIte, ↓EW, EV, r31_20, x0, x4, x12, x13, hs3.len, g7, p7, decide_eq_false gl]
        refine hK _ _ _ (C.ret (fin31 rfl b44 (by simp only [↓reduceIte, EV, Nat.reduceEqDiff, x4]) (by simp only [↓reduceIte, EV]; rfl) (by rw [hO]; rfl) (fun x hx => by rw [hO] at hx; cases hx) kp4 ho))
  cases hf : bareF (ws.getD 0 []) bareT with
  | none =>
    rw [hf] at lk
    have st : storeV 7 (h2.new (.rw [(.int .u8 (0)), (.int .u8 (0)), (.int .u8 (0)), (.slice none 0 0), (.int .u64 (0)), (.bool false), (.string (strB []))] (some 27))) (.pointer (some ⟨h2.next, 0, none⟩)) (.agg #[.int .u8 (0), .int .u8 (0), .int .u8 (0), .slice none 0 0, .int .u64 (0), .bool false, .string (strB [])]) = some ((h2.new (.rw zA.cells (some 27))).put h2.next (.rw zA.cells (some 27))) := put7 (a := zA) (Has.new _ _) rfl rfl
    simp only [↓reduceIte, ↓EW, EV, Nat.reduceEqDiff, r31_19, t0, e1', e2 _ hs2, lk, t2, st]
    exact hK _ _ _ (key zA false none _ rfl (fun x hx => by cases hx) rfl (by unfold bareO; rw [hf]) (by simp only [↓reduceIte, EV, Nat.reduceEqDiff, t0]) (by simp only [↓reduceIte, EV, Nat.reduceEqDiff, t4]) (by simp only [↓reduceIte, EV, Nat.reduceEqDiff]) (by simp only [↓reduceIte, EV]))
  | some a =>
    rw [hf] at lk
    have ho := bareT_ones hf
    have st : storeV 7 (h2.new (.rw [(.int .u8 (0)), (.int .u8 (0)), (.int .u8 (0)), (.slice none 0 0), (.int .u64 (0)), (.bool false), (.string (strB []))] (some 27))) (.pointer (some ⟨h2.next, 0, none⟩)) a.v = some ((h2.new (.rw zA.cells (some 27))).put h2.next (.rw a.cells (some 27))) := put7 (a := a) (Has.new _ _) rfl ho
    simp only [↓reduceIte, ↓EW, EV, Nat.reduceEqDiff, r31_19, t0, e1', e2 _ hs2, lk, t2, st]
    exact hK _ _ _ (key a true (some a) _ ho (fun x hx => Option.some.inj hx) rfl (by unfold bareO; rw [hf]) (by simp only [↓reduceIte, EV, Nat.reduceEqDiff, t0]) (by simp only [↓reduceIte, EV, Nat.reduceEqDiff, t4]) (by simp only [↓reduceIte, EV, Nat.reduceEqDiff]) (by simp only [↓reduceIte, EV]))
end Go.Proofs.YthofbmfcpfibdaaDoor

namespace Go.Proofs.YthofbmfcpfibdaaDoor
open Go.Ev

theorem veq_sv (w : List UInt8) : veq 64 (sv w) (sv w) = true := by
  show veq (63 + 1) (sv w) (sv w) = true
  unfold veq
  exact leB_self w
def pushO (ws : List (List UInt8)) : Option Ans := if keyW (ws.getD 1 []) = true then some (pushA (ws.getD 1 [])) else none
theorem br31_push (L n : Nat) (hL : 2000 ≤ L) {h0 h : H} {v : Value} {ws : List (List UInt8)} {k B4 B6 : Nat} {I : Int} {tm : T Value} (hs : Strs h0 v ws) (h2 : ws.length = 2) (hw : ∀ p ∈ ws, p.length ≤ 1000) (s : S31 h0 v k B4 B6 I tm h) :
    C ⟨seqC ⟨r31_17⟩ retC⟩ (CF L (n + 4)) L tm h fun e tm' h' => (e = .ret) ∧ ∃ l, q31.f tm' h' = some l ∧ ((∃ x : Ans, resOf l = .tuple #[x.v, .bool (pushO ws).isSome] ∧ ones x.cells = true ∧ ∀ b, pushO ws = some b → x = b) ∧ Keep nobody h0 h') := by
  obtain ⟨t0, t1, t4, t6, t8, b4, b6, ⟨lt1, lt2⟩, kp⟩ := s
  have kn : Keep nobody h ⟨h.objs, h.next + 24⟩ := ⟨by show h.next ≤ h.next + 24; omega, fun _ _ _ => rfl⟩
  have kp2 := kp.then kn
  have b42 := b4.keep0 kn
  have hs2 := hs.keep0 kp2
  have hx : ws[1]? = some (ws.getD 1 []) := by rw [List.getD_eq_getElem?_getD, List.getElem?_eq_getElem (by omega)]; rfl
  have hlen : (ws.getD 1 []).length ≤ 1000 := hw _ (List.mem_of_getElem? hx)
  obtain ⟨b, o, e1, e2⟩ := hs2.load hx
  have e1' : indexSl 1 v (.int .i64 1) = some (.pointer (some ⟨b, o, none⟩)) := e1
  have ld := e2 _ hs2
  have f : aggO (fill [(.int .u8 (0)), (.int .u8 (0)), (.int .u8 (0)), (.slice none 0 0), (.int .u64 (0)), (.bool false), (.string (strB []))] (plc [(0, 1), (1, 1), (2, 3), (5, 1), (6, 1)]) [(0, (.int .u8 (7))), (4, sv (ws.getD 1 []))]) = some (pushA (ws.getD 1 [])).v := rfl
  unfold pushO
  generalize ws.getD 1 [] = w at *
  have p7 := put7 (s := none) (a := pushA w) b42 rfl rfl
  have b43 := Has.put (x := .rw (pushA w).cells (some 27)) b42.1
  have kp3 := put_keep (x := .rw (pushA w).cells (some 27)) kp2 lt1
  have hp : Sp (CF L (n + 4)) 18 [sv w] ⟨h.objs, h.next + 24⟩ fun r h' => r = .bool (plainL w) ∧ Keep nobody ⟨h.objs, h.next + 24⟩ h' := plain_law L n (s := ⟨w.toArray⟩) (show w.length < L by omega) _
  refine C.seq fun K hK => ?_
  by_cases g1 : (1 : Int) ≤ (w.length : Int)
  · by_cases g2 : (w.length : Int) ≤ 32
    · simp only [↓EW, EV, r31_17, t0, t4, e1', ld, f, sv_len, decide_eq_true g1, decide_eq_true g2]
      refine hp _ fun r h3 hq => ?_
      obtain ⟨rfl, k3⟩ := hq
      have ld3 := e2 _ (hs2.keep0 k3)
      have p73 := put7 (s := none) (a := pushA w) (b42.keep0 k3) rfl rfl
      have b44 := Has.put (x := .rw (pushA w).cells (some 27)) (b42.keep0 k3).1
      have kp4 := put_keep (x := .rw (pushA w).cells (some 27)) (kp2.then k3) lt1
      have hk : keyW w = plainL w := by unfold keyW; rw [decide_eq_true (by omega), decide_eq_true (by omega)]; rfl
      simp only [EV, ld3, hO, veq_sv, p73, Bool.and_true]
      refine hK _ _ _ (C.ret (fin31 rfl b44 (by simp only [↓reduceIte, EV, Nat.reduceEqDiff, t4]) (by simp only [↓reduceIte, EV]; rfl) (by rw [hk]; show _ = plainL w; cases plainL w <;> rfl) (fun x hx => by split at hx <;> cases hx; rfl) kp4))
    · have hk : keyW w = false := by unfold keyW; rw [decide_eq_false (show ¬ w.length ≤ 32 by omega)]; simp
      simp only [↓EW, EV, r31_17, t0, t4, e1', ld, f, sv_len, decide_eq_true g1, decide_eq_false g2, p7]
      refine hK _ _ _ (C.ret (fin31 rfl b43 (by simp only [↓reduceIte, EV, Nat.reduceEqDiff, t4]) (by simp only [↓reduceIte, EV]; rfl) (by rw [hk]; rfl) (fun x hx => by rw [hk] at hx; cases hx) kp3))
  · have hk : keyW w = false := by unfold keyW; rw [decide_eq_false (show ¬ 1 ≤ w.length by omega)]; simp
    simp only [↓EW, EV, r31_17, t0, t4, e1', ld, f, sv_len, decide_eq_false g1, p7]
    refine hK _ _ _ (C.ret (fin31 rfl b43 (by simp only [↓reduceIte, EV, Nat.reduceEqDiff, t4]) (by simp only [↓reduceIte, EV]; rfl) (by rw [hk]; rfl) (fun x hx => by rw [hk] at hx; cases hx) kp3))
end Go.Proofs.YthofbmfcpfibdaaDoor

namespace Go.Proofs.YthofbmfcpfibdaaDoor
open Go.Ev

theorem lineA_eq (k : Nat) (ws : List (List UInt8)) : lineA k ws = if ws.length = 1 ∧ 0 < whr (ws.getD 0 []) wordB 0 then (if knownB k = true then some (resA k (whr (ws.getD 0 []) wordB 0)) else none)
  else if isRow (ws.getD 0 []) k = true ∧ ws.getD 0 [] ≠ endW then rowO k ws
  else if ws.length = 2 ∧ ws.getD 0 [] = pushW then pushO ws
  else bareO ws := by
  unfold lineA rowO pushO bareO
  rfl
/-- the program's answer of one line -/
theorem single_law (L n : Nat) (hL : 2000 ≤ L) {h0 : H} {v : Value} {ws : List (List UInt8)} {k : Nat} {e : Value} (he : ErrC e) (hG : Has h0 5 (.ro [e])) (hs : Strs h0 v ws) (hne : 0 < ws.length) (hw : ∀ p ∈ ws, p.length ≤ 1000) :
    Sp (CF L (n + 7)) 31 [v, .int .u8 (k : Int)] h0 fun r h' => (∃ x : Ans, r = .tuple #[x.v, .bool (lineA k ws).isSome] ∧ ones x.cells = true ∧ ∀ b, lineA k ws = some b → x = b) ∧ Keep nobody h0 h' := by
  refine Sp.body f31 (by simp) ?_
  unfold c31
  have hO := lineA_eq k ws
  generalize lineA k ws = O at *
  refine C.seq (reg31_0 L (n + 6) fun h1 b1 k1 e1 => C.seq (reg31_1 L (n + 6) (k := k) (by simp only [↓reduceIte, EV, Nat.reduceAdd, Nat.reduceEqDiff]) fun h2 b2 k2 e2 => C.seq (reg31_2 L (n + 5) fun h3 B7 hB7 b7 k3 => C.seq (C.seq (reg31_3 L (n + 5) (by omega) (B := B7) (hs.keep0 ((k1.then k2).then k3)) hne b7 (by simp only [↓reduceIte, EV, Nat.reduceAdd, Nat.reduceEqDiff]) (by simp only [↓reduceIte, EV, Nat.reduceAdd]) fun h4 k4 => C.seq fun K hK => ?_)))))
  have kp := ((k1.then k2).then k3).then k4
  have hs4 := hs.keep0 kp
  have lb := whr_lt (ws.getD 0 []) wordB 0
  have l8 : (wordB.length : Int) = 8 := rfl
  have hx : ws[0]? = some (ws.getD 0 []) := by rw [List.getD_eq_getElem?_getD, List.getElem?_eq_getElem hne]; rfl
  have S : ∀ tm, tg tm 0 = v → tg tm 1 = .int .u8 (k : Int) → tg tm 4 = .pointer (some ⟨h0.next, 0, none⟩) → tg tm 6 = .pointer (some ⟨h1.next, 0, none⟩) → tg tm 8 = .int .i64 (whr (ws.getD 0 []) wordB 0) → S31 h0 v k h0.next h1.next (whr (ws.getD 0 []) wordB 0) tm h4 :=
    fun tm x0 x1 x4 x6 x8 => ⟨x0, x1, x4, x6, x8, ((b1.keep0 k2).keep0 k3).keep0 k4, (b2.keep0 k3).keep0 k4, ⟨Nat.le_refl _, by omega⟩, kp⟩
  obtain ⟨b, o, i0, ld⟩ := hs4.load hx
  have i0' : indexSl 1 v (.int .i64 0) = some (.pointer (some ⟨b, o, none⟩)) := i0
  have lh := ld _ hs4
  generalize hI : whr (ws.getD 0 []) wordB 0 = I at *
  have rest : ∀ (O : Option Ans), (O = if isRow (ws.getD 0 []) k = true ∧ ws.getD 0 [] ≠ endW then rowO k ws else if ws.length = 2 ∧ ws.getD 0 [] = pushW then pushO ws else bareO ws) → ∀ tm, tg tm 0 = v → tg tm 1 = .int .u8 (k : Int) → tg tm 4 = .pointer (some ⟨h0.next, 0, none⟩) → tg tm 6 = .pointer (some ⟨h1.next, 0, none⟩) → tg tm 8 = .int .i64 I →
      C ⟨seqC ⟨seqC ⟨r31_7⟩ ⟨condC ⟨fun _ tm => tg tm 50⟩ ⟨seqC ⟨r31_8⟩ ⟨seqC ⟨seqC ⟨r31_9⟩ ⟨condC ⟨fun _ tm => tg tm 55⟩ ⟨seqC ⟨r31_10⟩ retC⟩ skipC⟩⟩ ⟨seqC ⟨seqC ⟨r31_11⟩ ⟨condC ⟨fun _ tm => tg tm 62⟩ ⟨seqC ⟨r31_12⟩ retC⟩ skipC⟩⟩ ⟨seqC ⟨r31_13⟩ ⟨seqC ⟨r31_14⟩ ⟨seqC ⟨r31_15⟩ retC⟩⟩⟩⟩⟩⟩ skipC⟩⟩ ⟨seqC ⟨seqC ⟨r31_16⟩ ⟨condC ⟨fun _ tm => tg tm 92⟩ ⟨seqC ⟨r31_17⟩ retC⟩ skipC⟩⟩ ⟨seqC ⟨r31_18⟩ ⟨seqC ⟨r31_19⟩ ⟨seqC ⟨r31_20⟩ retC⟩⟩⟩⟩⟩ (CF L (n + 6)) L tm h4 fun e tm' h' => (e = .norm ∨ e = .ret) ∧ ∃ l, q31.f tm' h' = some l ∧ ((∃ x : Ans, resOf l = .tuple #[x.v, .bool O.isSome] ∧ ones x.cells = true ∧ ∀ b, O = some b → x = b) ∧ Keep nobody h0 h') := fun O hO tm x0 x1 x4 x6 x8 => by
    generalize hw0 : ws.getD 0 [] = w0 at *
    have qe : ∀ c, binV Tryd.prog .neq 9 c (sv w0) (.string (strB [69, 78, 68])) = some (.bool (!decide (w0 = endW))) := fun c => sv_neq 9 c w0 endW
    have qp : ∀ c, binV Tryd.prog .eql 9 c (sv w0) (.string (strB [80, 85, 83, 72])) = some (.bool (decide (w0 = pushW))) := fun c => sv_eql 9 c w0 pushW
    have ifp : ∀ (c : Prop) [Decidable c] (p q : Option Ans), c → (if c then p else q) = p := fun c _ p q h => if_pos h
    have more : ∀ (O : Option Ans), (O = if ws.length = 2 ∧ w0 = pushW then pushO ws else bareO ws) → ∀ tm, tg tm 0 = v → tg tm 1 = .int .u8 (k : Int) → tg tm 4 = .pointer (some ⟨h0.next, 0, none⟩) → tg tm 6 = .pointer (some ⟨h1.next, 0, none⟩) → tg tm 8 = .int .i64 I →
        C ⟨seqC ⟨seqC ⟨r31_16⟩ ⟨condC ⟨fun _ tm => tg tm 92⟩ ⟨seqC ⟨r31_17⟩ retC⟩ skipC⟩⟩ ⟨seqC ⟨r31_18⟩ ⟨seqC ⟨r31_19⟩ ⟨seqC ⟨r31_20⟩ retC⟩⟩⟩⟩ (CF L (n + 6)) L tm h4 fun e tm' h' => (e = .norm ∨ e = .ret) ∧ ∃ l, q31.f tm' h' = some l ∧ ((∃ x : Ans, resOf l = .tuple #[x.v, .bool O.isSome] ∧ ones x.cells = true ∧ ∀ b, O = some b → x = b) ∧ Keep nobody h0 h') := fun O hO tm x0 x1 x4 x6 x8 => by
      by_cases g2 : (ws.length : Int) = 2
      · by_cases gp : w0 = pushW
        · rw [if_pos ⟨show ws.length = 2 by omega, gp⟩] at hO
          subst hO
          refine C.seq (C.seq fun K hK => ?_)
          simp only [↓opStep_eq, ↓reduceIte, ↓EW, EV, r31_16, x0, hs4.len, decide_eq_true g2, i0', lh, qp, decide_eq_true gp]
          refine hK _ _ _ (C.cond true (by simp only [↓reduceIte, EV]) (fun _ => (br31_push L (n + 2) hL hs (by omega) hw (S _ (by simp only [↓reduceIte, EV, Nat.reduceEqDiff, x0]) (by simp only [↓reduceIte, EV, Nat.reduceEqDiff, x1]) (by simp only [↓reduceIte, EV, Nat.reduceEqDiff, x4]) (by simp only [↓reduceIte, EV, Nat.reduceEqDiff, x6]) (by simp only [↓reduceIte, EV, Nat.reduceEqDiff, x8]))).mono ?_) fun g => by cases g)
          rintro e tm' h' ⟨rfl, hr⟩
          exact ⟨.inr rfl, hr⟩
        · rw [if_neg fun h => gp h.2] at hO
          subst hO
          refine C.seq (C.seq fun K hK => ?_)
          simp only [↓opStep_eq, ↓reduceIte, ↓EW, EV, r31_16, x0, hs4.len, decide_eq_true g2, i0', lh, qp, decide_eq_false gp]
          exact hK _ _ _ (C.cond false (by simp only [↓reduceIte, EV]) (fun g => by cases g) fun _ => C.skip ((br31_bare L (n + 6) hs hne (S _ (by simp only [↓reduceIte, EV, Nat.reduceEqDiff, x0]) (by simp only [↓reduceIte, EV, Nat.reduceEqDiff, x1]) (by simp only [↓reduceIte, EV, Nat.reduceEqDiff, x4]) (by simp only [↓reduceIte, EV, Nat.reduceEqDiff, x6]) (by simp only [↓reduceIte, EV, Nat.reduceEqDiff, x8]))).mono fun e tm' h' hq => ⟨.inr hq.1, hq.2⟩))
      · rw [if_neg fun h => g2 (by omega)] at hO
        subst hO
        refine C.seq (C.seq fun K hK => ?_)
        simp only [↓opStep_eq, ↓reduceIte, ↓EW, EV, r31_16, x0, hs4.len, decide_eq_false g2]
        exact hK _ _ _ (C.cond false (by simp only [↓reduceIte, EV]) (fun g => by cases g) fun _ => C.skip ((br31_bare L (n + 6) hs hne (S _ (by simp only [↓reduceIte, EV, Nat.reduceEqDiff, x0]) (by simp only [↓reduceIte, EV, Nat.reduceEqDiff, x1]) (by simp only [↓reduceIte, EV, Nat.reduceEqDiff, x4]) (by simp only [↓reduceIte, EV, Nat.reduceEqDiff, x6]) (by simp only [↓reduceIte, EV, Nat.reduceEqDiff, x8]))).mono fun e tm' h' hq => ⟨.inr hq.1, hq.2⟩))
    by_cases gr : isRow w0 k = true ∧ w0 ≠ endW
    · rw [if_pos gr] at hO
      subst hO
      refine C.seq (C.seq fun K hK => ?_)
      simp only [↓opStep_eq, ↓reduceIte, ↓EW, EV, r31_7, x0, x1, i0', lh]
      refine of_any L (n + 5) w0 k h4 _ fun r h5 hq => ?_
      obtain ⟨rfl, hh⟩ := hq
      rw [hh]; clear hh
      simp only [↓reduceIte, EV, gr.1, lh, qe, decide_eq_false gr.2]
      refine hK _ _ _ (C.cond true (by simp only [↓reduceIte, EV]) (fun _ => (br31_row L n hL he hG hs (S _ (by simp only [↓reduceIte, EV, Nat.reduceEqDiff, x0]) (by simp only [↓reduceIte, EV, Nat.reduceEqDiff, x1]) (by simp only [↓reduceIte, EV, Nat.reduceEqDiff, x4]) (by simp only [↓reduceIte, EV, Nat.reduceEqDiff, x6]) (by simp only [↓reduceIte, EV, Nat.reduceEqDiff, x8]))).mono ?_) fun g => by cases g)
      rintro e tm' h' ⟨rfl, hr⟩
      exact ⟨.inr rfl, hr⟩
    · rw [if_neg gr] at hO
      refine C.seq (C.seq fun K hK => ?_)
      simp only [↓opStep_eq, ↓reduceIte, ↓EW, EV, r31_7, x0, x1, i0', lh]
      refine of_any L (n + 5) w0 k h4 _ fun r h5 hq => ?_
      obtain ⟨rfl, hh⟩ := hq
      rw [hh]; clear hh
      cases gi : isRow w0 k with
      | false =>
        simp only [↓reduceIte, EV]
        exact hK _ _ _ (C.cond false (by simp only [↓reduceIte, EV]) (fun g => by cases g) fun _ => C.skip (more O hO _ (by simp only [↓reduceIte, EV, Nat.reduceEqDiff, x0]) (by simp only [↓reduceIte, EV, Nat.reduceEqDiff, x1]) (by simp only [↓reduceIte, EV, Nat.reduceEqDiff, x4]) (by simp only [↓reduceIte, EV, Nat.reduceEqDiff, x6]) (by simp only [↓reduceIte, EV, Nat.reduceEqDiff, x8])))
      | true =>
        have ge : w0 = endW := by
          by_cases g : w0 = endW
          · exact g
          · exact absurd ⟨gi, g⟩ gr
        simp only [↓reduceIte, EV, lh, qe, decide_eq_true ge]
        exact hK _ _ _ (C.cond false (by simp only [↓reduceIte, EV]) (fun g => by cases g) fun _ => C.skip (more O hO _ (by simp only [↓reduceIte, EV, Nat.reduceEqDiff, x0]) (by simp only [↓reduceIte, EV, Nat.reduceEqDiff, x1]) (by simp only [↓reduceIte, EV, Nat.reduceEqDiff, x4]) (by simp only [↓reduceIte, EV, Nat.reduceEqDiff, x6]) (by simp only [↓reduceIte, EV, Nat.reduceEqDiff, x8])))
  by_cases g1 : (ws.length : Int) = 1
  · by_cases gI : (0 : Int) < I
    · rw [if_pos ⟨show ws.length = 1 by omega, gI⟩] at hO
      subst hO
      simp only [↓reduceIte, ↓EW, EV, Nat.reduceAdd, Nat.reduceEqDiff, r31_4, hs4.len, decide_eq_true g1, decide_eq_true gI]
      refine hK _ _ _ (C.cond true (by simp only [↓reduceIte, EV]) (fun _ => (br31_res L (n + 6) (ws := ws) (S _ (by simp only [↓reduceIte, EV, Nat.reduceEqDiff]) (by simp only [↓reduceIte, EV, Nat.reduceEqDiff]) (by simp only [↓reduceIte, EV, Nat.reduceEqDiff]) (by simp only [↓reduceIte, EV, Nat.reduceEqDiff]) (by simp only [↓reduceIte, EV, Nat.reduceEqDiff])) gI (by omega)).mono ?_) fun g => by cases g)
      rintro e tm' h' ⟨rfl, hr⟩
      exact ⟨.inr rfl, hr⟩
    · rw [if_neg fun h => gI h.2] at hO
      simp only [↓reduceIte, ↓EW, EV, Nat.reduceAdd, Nat.reduceEqDiff, r31_4, hs4.len, decide_eq_true g1, decide_eq_false gI]
      exact hK _ _ _ (C.cond false (by simp only [↓reduceIte, EV]) (fun g => by cases g) fun _ => C.skip (rest O hO _ (by simp only [↓reduceIte, EV, Nat.reduceEqDiff]) (by simp only [↓reduceIte, EV, Nat.reduceEqDiff]) (by simp only [↓reduceIte, EV, Nat.reduceEqDiff]) (by simp only [↓reduceIte, EV, Nat.reduceEqDiff]) (by simp only [↓reduceIte, EV, Nat.reduceEqDiff])))
  · rw [if_neg fun h => g1 (by omega)] at hO
    simp only [↓reduceIte, EV, Nat.reduceAdd, Nat.reduceEqDiff, r31_4, hs4.len, decide_eq_false g1]
    exact hK _ _ _ (C.cond false (by simp only [↓reduceIte, EV]) (fun g => by cases g) fun _ => C.skip (rest O hO _ (by simp only [↓reduceIte, EV, Nat.reduceEqDiff]) (by simp only [↓reduceIte, EV, Nat.reduceEqDiff]) (by simp only [↓reduceIte, EV, Nat.reduceEqDiff]) (by simp only [↓reduceIte, EV, Nat.reduceEqDiff]) (by simp only [↓reduceIte, EV, Nat.reduceEqDiff])))
end Go.Proofs.YthofbmfcpfibdaaDoor
