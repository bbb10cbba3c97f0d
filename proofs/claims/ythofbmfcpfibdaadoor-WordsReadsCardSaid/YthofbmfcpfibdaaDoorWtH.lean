import Derived.Test.YthofbmfcpfibdaaDoorWtD
set_option linter.unusedSimpArgs false
set_option linter.unusedVariables false
namespace Go.Proofs.YthofbmfcpfibdaaDoor
open Go.Ev

/-- the document: what is behind the lines of items -/
theorem tailL14 (L n : Nat) (hL : 2000 ≤ L) {h0 : H} {v : Value} {s : List UInt8} {k B4 B7 at_ : Nat} {iv : Value} {xs : List Itm} {tm : T Value} {h : H} (a : SR h0 v k B4 B7 at_ iv xs tm h) (t10 : tg tm 10 = .int .i64 (s.length : Int)) (t11 : tg tm 11 = sv s) (hl : s.length ≤ 512) (hat : at_ ≤ 20000) :
    C ⟨seqC ⟨seqC ⟨r14_15⟩ ⟨condC ⟨fun _ tm => tg tm 73⟩ ⟨seqC ⟨r14_16⟩ retC⟩ skipC⟩⟩ ⟨seqC ⟨r14_17⟩ ⟨seqC ⟨seqC ⟨r14_18⟩ ⟨condC ⟨fun _ tm => tg tm 90⟩ ⟨seqC ⟨r14_19⟩ retC⟩ skipC⟩⟩ ⟨seqC ⟨r14_20⟩ retC⟩⟩⟩⟩ (CF L (n + 22)) L tm h fun e tm' h' => e = .ret ∧ RG h0 k (lastP k at_ xs s) tm' h' := by
  have qe : ∀ c, binV Tryd.prog .eql 9 c (sv s) (.string (strB [69, 78, 68])) = some (.bool (decide (s = endW))) := fun c => sv_eql 9 c _ endW
  have w1 : IntKind.i64.wrap ((s.length : Int) + 2) = ((s.length + 2 : Nat) : Int) := by
    rw [show (s.length : Int) + 2 = ((s.length + 2 : Nat) : Int) by omega]; exact wrap_lt _ (by omega)
  have w2 : IntKind.i64.wrap ((at_ : Int) + (s.length : Int)) = ((at_ + s.length : Nat) : Int) := by
    rw [show (at_ : Int) + (s.length : Int) = ((at_ + s.length : Nat) : Int) by omega]; exact wrap_lt _ (by omega)
  have w3 : IntKind.i64.wrap (((at_ + s.length : Nat) : Int) + 2) = ((at_ + s.length + 2 : Nat) : Int) := by
    rw [show ((at_ + s.length : Nat) : Int) + 2 = ((at_ + s.length + 2 : Nat) : Int) by omega]; exact wrap_lt _ (by omega)
  generalize hG' : lastP k at_ xs s = G
  unfold lastP at hG'
  have rest : ¬ (k = 1 ∧ s = endW) → C ⟨seqC ⟨r14_17⟩ ⟨seqC ⟨seqC ⟨r14_18⟩ ⟨condC ⟨fun _ tm => tg tm 90⟩ ⟨seqC ⟨r14_19⟩ retC⟩ skipC⟩⟩ ⟨seqC ⟨r14_20⟩ retC⟩⟩⟩ (CF L (n + 22)) L (T.set tm 73 (.bool false)) h fun e tm' h' => e = .ret ∧ RG h0 k G tm' h' := fun hn => by
    rw [if_neg hn] at hG'
    refine C.seq fun K hK => ?_
    simp only [↓reduceIte, ↓EW, EV, Nat.reduceEqDiff, r14_17, t11, a.t1]
    refine line35_law L n hL (k := k) (s := s) (by omega) _ fun r h2 hq => ?_
    obtain ⟨⟨x, rfl, o1, hx2⟩, k2⟩ := hq
    have st : storeV 7 (h2.new (.rw [(.int .u8 (0)), (.int .u8 (0)), (.int .u8 (0)), (.slice none 0 0), (.int .u64 (0)), (.bool false), (.string (strB []))] (some 27))) (.pointer (some ⟨h2.next, 0, none⟩)) x.v = some ((h2.new (.rw zA.cells (some 27))).put h2.next (.rw x.cells (some 27))) := put7 (Has.new _ _) rfl o1
    have t2 : ∀ (x y : Value) i, tupNth i (.tuple #[x, y]) = [x, y][i]? := fun x y i => tupNth_tuple i [x, y]
    simp only [EV, t2, st]
    have b15 := has_alloc h2 (.rw zA.cells (some 27)) (.rw x.cells (some 27))
    have k3 := k2.then (keep_alloc h2 (.rw zA.cells (some 27)) (.rw x.cells (some 27)))
    generalize (h2.new (.rw zA.cells (some 27))).put h2.next (.rw x.cells (some 27)) = h3 at *
    generalize h2.next = B15 at *
    have a3 := a.to (tm' := tm) k3 rfl rfl rfl rfl a.t8
    refine hK _ _ _ (C.seq (C.seq fun K hK => ?_))
    have zero : ∀ tm', tg tm' 4 = .pointer (some ⟨B4, 0, none⟩) → G = .none 8 → C ⟨seqC ⟨r14_19⟩ retC⟩ (CF L (n + 22)) L tm' h3 fun e tm' h' => e = .ret ∧ RG h0 k G tm' h' := fun tm' e4 hg => by
      rw [hg]
      exact (zero_at 8 e4 a3.b4 a3.lt.1 a3.keep : C ⟨seqC ⟨r14_19⟩ retC⟩ (CF L (n + 22)) L tm' h3 _)
    cases ho : lineA k (cutS s) with
    | none =>
      rw [ho] at hG'
      simp only [↓reduceIte, EV, r14_18, Option.isSome_none]
      refine hK _ _ _ (C.cond true (by simp only [↓reduceIte, EV]) (fun _ => (zero _ (by simp only [↓reduceIte, EV, Nat.reduceEqDiff, a.t4]) hG'.symm).mono ?_) fun g => by cases g)
      rintro e tm' h' ⟨rfl, hr⟩
      exact ⟨rfl, hr⟩
    | some y =>
      rw [ho] at hG' hx2
      have := hx2 y rfl
      subst this
      by_cases gz : (0 : Int) < (at_ : Int)
      · have hg : (if at_ = 0 then Got.line x (s.length + 2) else .none 8) = G := hG'
        rw [if_neg (by omega)] at hg
        simp only [↓reduceIte, ↓EW, EV, Nat.reduceEqDiff, r14_18, Option.isSome_some, a.t8, decide_eq_true gz]
        refine hK _ _ _ (C.cond true (by simp only [↓reduceIte, EV]) (fun _ => (zero _ (by simp only [↓reduceIte, EV, Nat.reduceEqDiff, a.t4]) hg.symm).mono ?_) fun g => by cases g)
        rintro e tm' h' ⟨rfl, hr⟩
        exact ⟨rfl, hr⟩
      · have hg : (if at_ = 0 then Got.line x (s.length + 2) else .none 8) = G := hG'
        rw [if_pos (by omega)] at hg
        simp only [↓reduceIte, ↓EW, EV, Nat.reduceEqDiff, r14_18, Option.isSome_some, a.t8, decide_eq_false gz]
        refine hK _ _ _ (C.cond false (by simp only [↓reduceIte, EV]) (fun g => by cases g) fun _ => C.skip (C.seq fun K hK => ?_))
        have g7 := get7 (s := none) b15
        have p7 := put7 (s := none) (a := x) a3.b4 rfl o1
        simp only [↓reduceIte, EV, Nat.reduceEqDiff, r14_20, a.t4, t10, w1, g7, p7]
        refine hK _ _ _ (C.ret ⟨rfl, ?_⟩)
        rw [← hg]
        exact ⟨_, fin_q (a := x) (Has.put a3.b4.1) (by simp only [↓reduceIte, EV, Nat.reduceEqDiff, a.t4]) (by simp only [↓reduceIte, EV, Nat.reduceEqDiff]) (by simp only [↓reduceIte, EV]), rfl, put_keep a3.keep a3.lt.1⟩
  refine C.seq (C.seq fun K hK => ?_)
  by_cases gk : (k : Int) = 1
  · by_cases ge : s = endW
    · rw [if_pos (show k = 1 ∧ s = endW from ⟨by omega, ge⟩)] at hG'
      simp only [↓EW, EV, r14_15, t11, qe, decide_eq_true ge, a.t1, decide_eq_true gk]
      refine hK _ _ _ (C.cond true (by simp only [↓reduceIte, EV]) (fun _ => C.seq fun K hK => ?_) fun g => by cases g)
      have g7 := get7 (s := none) a.b7
      have p7 := put7 (s := none) (a := getA k xs iv) a.b4 rfl (ones_getA a.m)
      simp only [↓reduceIte, EV, Nat.reduceEqDiff, r14_16, a.t4, a.t7, a.t8, t10, g7, w2, w3, p7]
      refine hK _ _ _ (C.ret ⟨rfl, ?_⟩)
      rw [← hG']
      exact fin_items (call := CF L (n + 22)) (L := L) a (by simp only [↓reduceIte, EV, Nat.reduceEqDiff, a.t4]) (by simp only [↓reduceIte, EV, Nat.reduceEqDiff]) (by simp only [↓reduceIte, EV])
    · simp only [↓EW, EV, r14_15, t11, qe, decide_eq_false ge, a.t1, decide_eq_true gk]
      exact hK _ _ _ (C.cond false (by simp only [↓reduceIte, EV]) (fun g => by cases g) fun _ => C.skip (rest fun h => ge h.2))
  · simp only [EV, r14_15, a.t1, decide_eq_false gk]
    exact hK _ _ _ (C.cond false (by simp only [↓reduceIte, EV]) (fun g => by cases g) fun _ => C.skip (rest fun h => gk (by omega)))
/-- the document: one line of an item, or what is behind them -/
theorem body14 (L n : Nat) (hL : 2000 ≤ L) {h0 : H} {v : Value} {b : List UInt8} {k B4 B7 at_ f : Nat} {iv : Value} {xs : List Itm} {tm : T Value} {h : H} (hr : Rd h0 v b) (hb : b.length ≤ 16384) (hat : at_ ≤ b.length) (x8 : xs.length ≤ 8) (a : SR h0 v k B4 B7 at_ iv xs tm h) :
    C l14_28 (CF L (n + 22)) L tm h fun e tm' h' => (e = .norm ∧ ∃ at' iv' xs', SR h0 v k B4 B7 at' iv' xs' tm' h' ∧ at' ≤ b.length ∧ xs'.length = xs.length + 1 ∧ xs'.length ≤ 8 ∧ readP k b (f + 1) at_ xs = readP k b f at' xs') ∨ (e = .ret ∧ RG h0 k (readP k b (f + 1) at_ xs) tm' h') := by
  unfold l14_28
  have hlr : (b.drop at_).length ≤ 16384 := by rw [List.length_drop]; omega
  have hdl : (b.drop at_).length = b.length - at_ := List.length_drop
  have gat : (at_ : Int) ≤ (b.length : Int) := by omega
  have hr1 := hr.keep0 a.keep
  refine C.seq (C.seq fun K hK => ?_)
  simp only [EV, r14_5, a.t0, a.t8, hr1.len, decide_eq_true gat]
  refine hK _ _ _ (C.cond true (by simp only [↓reduceIte, EV]) (fun _ => C.skip (C.block (C.seq fun K hK => ?_))) fun g => by cases g)
  obtain ⟨w, ew, rw1, _⟩ := hr1.from at_ hat
  simp only [↓reduceIte, EV, Nat.reduceEqDiff, r14_6, a.t0, a.t8, ew]
  refine hK _ _ _ (C.seq fun K hK => ?_)
  simp only [↓reduceIte, EV, r14_7]
  refine lineEnd_law L (n + 21) (by omega) rw1 (by omega) _ fun r h1 hq => ?_
  obtain ⟨rfl, hh⟩ := hq
  rw [hh]; clear hh
  refine hK _ _ _ (C.seq (C.seq fun K hK => ?_))
  rcases crlf_cases (b.drop at_) with hc | ⟨i, hc⟩
  · have hP := readP_neg (k := k) (f := f) (xs := xs) hc
    generalize readP k b (f + 1) at_ xs = G at *
    have d0 : decide ((-1 : Int) < 0) = true := rfl
    by_cases g : ((b.drop at_).length : Int) < 514
    · rw [if_pos (by omega)] at hP
      simp only [↓opStep_eq, ↓reduceIte, ↓EW, EV, Nat.reduceEqDiff, Int.reduceLT, r14_8, hc, rw1.len, decide_eq_true g]
      refine hK _ _ _ (C.cond true (by simp only [↓reduceIte, EV]) (fun _ => (zero_at (h0 := h0) (k := k) 0 (by simp only [↓reduceIte, EV, Nat.reduceEqDiff, a.t4]) a.b4 a.lt.1 a.keep : C ⟨seqC ⟨r14_9⟩ retC⟩ (CF L (n + 22)) L _ h _).mono ?_) fun g => by cases g)
      rintro e tm' h' ⟨rfl, hq⟩
      exact .inr ⟨rfl, by rw [hP]; exact hq⟩
    · rw [if_neg (by omega)] at hP
      simp only [↓opStep_eq, ↓reduceIte, ↓EW, EV, Nat.reduceEqDiff, Int.reduceLT, r14_8, hc, rw1.len, decide_eq_false g]
      refine hK _ _ _ (C.cond false (by simp only [↓reduceIte, EV]) (fun g => by cases g) fun _ => C.skip (C.seq (C.seq fun K hK => ?_)))
      simp only [↓reduceIte, EV, Nat.reduceEqDiff, Int.reduceLT, r14_10]
      refine hK _ _ _ (C.cond true (by simp only [↓reduceIte, EV]) (fun _ => (zero_at (h0 := h0) (k := k) 8 (by simp only [↓reduceIte, EV, Nat.reduceEqDiff, a.t4]) a.b4 a.lt.1 a.keep : C ⟨seqC ⟨r14_11⟩ retC⟩ (CF L (n + 22)) L _ h _).mono ?_) fun g => by cases g)
      rintro e tm' h' ⟨rfl, hq⟩
      exact .inr ⟨rfl, by rw [hP]; exact hq⟩
  obtain ⟨i1, i2, i3⟩ := crlf_pos hc
  obtain ⟨s, hs⟩ : ∃ s, (b.drop at_).take i = s := ⟨_, rfl⟩
  have hP := readP_pos (k := k) (f := f) (xs := xs) hc hs
  have hsl : s.length = i := by rw [← hs, List.length_take]; omega
  have n0 : ¬ (i : Int) < 0 := by omega
  simp only [↓opStep_eq, ↓reduceIte, ↓EW, EV, r14_8, hc, decide_eq_false n0]
  refine hK _ _ _ (C.cond false (by simp only [↓reduceIte, EV]) (fun g => by cases g) fun _ => C.skip (C.seq (C.seq fun K hK => ?_)))
  simp only [↓reduceIte, EV, Nat.reduceEqDiff, r14_10, decide_eq_false n0]
  refine hK _ _ _ (C.cond false (by simp only [↓reduceIte, EV]) (fun g => by cases g) fun _ => C.skip (C.seq fun K hK => ?_))
  obtain ⟨w2, ew2, rw2, _⟩ := rw1.mid none 0 i (.inl ⟨rfl, rfl⟩) (Nat.zero_le _) (by omega) .i64
  rw [List.drop_zero, hs] at rw2
  simp only [↓reduceIte, EV, Nat.reduceEqDiff, r14_12, ew2, rw2.str]
  refine hK _ _ _ (C.seq fun K hK => ?_)
  simp only [↓reduceIte, ↓EW, EV, r14_13]
  have hcp : Sp (CF L (n + 22)) 34 [.string ⟨s.toArray⟩] h fun r h' => Strs h' r (cutS s) ∧ Keep nobody h h' ∧ ∀ b, blk r b → h.next ≤ b := cut_law L (n + 21) (l := s) (by omega) (by omega)
  refine hcp _ fun wv h2 hq => ?_
  obtain ⟨st2, k2, _⟩ := hq
  have hle : ∀ p ∈ cutS s, p.length ≤ 1000 := fun p hp => by have := cutS_le s p hp; omega
  refine refitem_law L (n + 19) hL st2 hle _ fun r h3 hq => ?_
  obtain ⟨rfl, k3⟩ := hq
  obtain ⟨x, nx, ev, hx⟩ := valueV_eq (cutS s)
  have t3 : ∀ (x y z : Value) i, tupNth i (.tuple #[x, y, z]) = [x, y, z][i]? := fun x y z i => tupNth_tuple i [x, y, z]
  have st5 : storeV 5 (h3.new (.rw [(.string (strB [])), (.string (strB [])), (.int .u32 (0)), (.int .i64 (0)), (.int .u64 (0))] (some 48))) (.pointer (some ⟨h3.next, 0, none⟩)) x.v = some ((h3.new (.rw zI.cells (some 48))).put h3.next (.rw x.cells (some 48))) := put5 (Has.new _ _) rfl
  simp only [EV, ev, t3, st5]
  have b12 := has_alloc h3 (.rw zI.cells (some 48)) (.rw x.cells (some 48))
  have k4 := (k2.then k3).then (keep_alloc h3 (.rw zI.cells (some 48)) (.rw x.cells (some 48)))
  have l7 : B7 < h3.next := Nat.lt_of_lt_of_le a.b7.1 (k2.then k3).next
  generalize (h3.new (.rw zI.cells (some 48))).put h3.next (.rw x.cells (some 48)) = h4 at *
  generalize h3.next = B12 at *
  generalize hT : T.set (T.set (T.set (T.set (T.set (T.set (T.set (T.set (T.set tm 27 (.bool true)) 9 w) 10 (.int .i64 (i : Int))) 39 (.bool false)) 42 (.bool false)) 11 (.string ⟨s.toArray⟩)) 12 (.pointer (some ⟨B12, 0, none⟩))) 13 (.int .i64 nx)) 14 (.bool (isV (cutS s))) = tm4
  have a4 : SR h0 v k B4 B7 at_ iv xs tm4 h4 := a.to k4 (by rw [← hT]; simp only [↓reduceIte, EV, Nat.reduceEqDiff]) (by rw [← hT]; simp only [↓reduceIte, EV, Nat.reduceEqDiff]) (by rw [← hT]; simp only [↓reduceIte, EV, Nat.reduceEqDiff]) (by rw [← hT]; simp only [↓reduceIte, EV, Nat.reduceEqDiff]) (by rw [← hT]; simp only [↓reduceIte, EV, Nat.reduceEqDiff, a.t8])
  have y9 : tg tm4 9 = w := by rw [← hT]; simp only [↓reduceIte, EV, Nat.reduceEqDiff]
  have y10 : tg tm4 10 = .int .i64 (i : Int) := by rw [← hT]; simp only [↓reduceIte, EV, Nat.reduceEqDiff]
  have y11 : tg tm4 11 = sv s := by rw [← hT]; simp only [↓reduceIte, EV, Nat.reduceEqDiff]; rfl
  have y12 : tg tm4 12 = .pointer (some ⟨B12, 0, none⟩) := by rw [← hT]; simp only [↓reduceIte, EV, Nat.reduceEqDiff]
  have y13 : tg tm4 13 = .int .i64 nx := by rw [← hT]; simp only [↓reduceIte, EV, Nat.reduceEqDiff]
  have y14 : tg tm4 14 = .bool (isV (cutS s)) := by rw [← hT]; simp only [↓reduceIte, EV]
  clear hT
  refine hK _ _ _ (C.seq (C.seq fun K hK => ?_))
  have rw4 := rw1.keep0 k4
  have none_ : ¬ (k = 1 ∧ isV (cutS s) = true ∧ xs.length < 8) → K .norm (T.set tm4 67 (.bool true)) [] h4 = true := fun hn => by
    refine hK _ _ _ (C.cond true (by simp only [↓reduceIte, EV]) (fun _ => (tailL14 L n hL (a4.to (at' := at_) (.refl _ _) (by simp only [↓reduceIte, EV, Nat.reduceEqDiff]) (by simp only [↓reduceIte, EV, Nat.reduceEqDiff]) (by simp only [↓reduceIte, EV, Nat.reduceEqDiff]) (by simp only [↓reduceIte, EV, Nat.reduceEqDiff]) (by simp only [↓reduceIte, EV, Nat.reduceEqDiff, a4.t8])) (by rw [hsl]; simp only [↓reduceIte, EV, Nat.reduceEqDiff, y10]) (by simp only [↓reduceIte, EV, Nat.reduceEqDiff, y11]) (by omega) (by omega)).mono ?_) fun g => by cases g)
    rintro e tm' h' ⟨rfl, hq⟩
    exact .inr ⟨rfl, by rw [hP, if_neg hn]; exact hq⟩
  by_cases gk : (k : Int) = 1
  rotate_left
  · simp only [↓opStep_eq, ↓reduceIte, ↓EW, EV, r14_14, a4.t1, decide_eq_false gk]
    exact none_ fun h => gk (by omega)
  cases hv : isV (cutS s) with
  | false =>
    rw [hv] at y14
    simp only [↓opStep_eq, ↓reduceIte, ↓EW, EV, r14_14, y14, a4.t1, decide_eq_true gk]
    exact none_ fun h => by rw [hv] at h; cases h.2.1
  | true =>
    rw [hv] at y14
    have ld3 : ∀ s, loadOne h4 (.pointer (some ⟨B7, 3, s⟩)) = some iv := fun s => loadOne_has a4.b7 rfl
    by_cases g8 : (xs.length : Int) = 8
    · simp only [↓opStep_eq, ↓reduceIte, ↓EW, EV, Nat.reduceAdd, r14_14, y14, a4.t1, decide_eq_true gk, a4.t7, ld3, a4.m.items.len, decide_eq_true g8]
      exact none_ fun h => by omega
    simp only [↓opStep_eq, ↓reduceIte, ↓EW, EV, Nat.reduceAdd, r14_14, y14, a4.t1, decide_eq_true gk, a4.t7, ld3, a4.m.items.len, decide_eq_false g8]
    rw [if_pos (show k = 1 ∧ isV (cutS s) = true ∧ xs.length < 8 from ⟨by omega, hv, by omega⟩)] at hP
    obtain ⟨rfl, rfl, hn5⟩ := hx hv
    generalize nB (cutS s) = n5 at *
    clear none_
    have a5 : SR h0 v k B4 B7 at_ iv xs (T.set tm4 67 (.bool false)) h4 := a4.to (.refl _ _) (by simp only [↓reduceIte, EV, Nat.reduceEqDiff]) (by simp only [↓reduceIte, EV, Nat.reduceEqDiff]) (by simp only [↓reduceIte, EV, Nat.reduceEqDiff]) (by simp only [↓reduceIte, EV, Nat.reduceEqDiff]) (by simp only [↓reduceIte, EV, Nat.reduceEqDiff, a4.t8])
    refine hK _ _ _ (C.cond false (by simp only [↓reduceIte, EV]) (fun g => by cases g) fun _ => C.skip (C.seq (C.seq fun K hK => ?_)))
    have w3 : IntKind.i64.wrap ((i : Int) + 2) = ((i + 2 : Nat) : Int) := by
      rw [show (i : Int) + 2 = ((i + 2 : Nat) : Int) by omega]; exact wrap_lt _ (by omega)
    have w4 : IntKind.i64.wrap (((i + 2 : Nat) : Int) + (n5 : Int)) = ((i + 2 + n5 : Nat) : Int) := by
      rw [show ((i + 2 : Nat) : Int) + (n5 : Int) = ((i + 2 + n5 : Nat) : Int) by omega]; exact wrap_lt _ (by omega)
    have w5 : IntKind.i64.wrap ((i : Int) + 4) = ((i + 4 : Nat) : Int) := by
      rw [show (i : Int) + 4 = ((i + 4 : Nat) : Int) by omega]; exact wrap_lt _ (by omega)
    have w6 : IntKind.i64.wrap (((i + 4 : Nat) : Int) + (n5 : Int)) = ((i + n5 + 4 : Nat) : Int) := by
      rw [show ((i + 4 : Nat) : Int) + (n5 : Int) = ((i + n5 + 4 : Nat) : Int) by omega]; exact wrap_lt _ (by omega)
    have w7 : IntKind.i64.wrap ((i : Int) + 3) = ((i + 3 : Nat) : Int) := by
      rw [show (i : Int) + 3 = ((i + 3 : Nat) : Int) by omega]; exact wrap_lt _ (by omega)
    have w9 : IntKind.i64.wrap (((i + 3 : Nat) : Int) + (n5 : Int)) = ((i + 2 + n5 + 1 : Nat) : Int) := by
      rw [show ((i + 3 : Nat) : Int) + (n5 : Int) = ((i + 2 + n5 + 1 : Nat) : Int) by omega]; exact wrap_lt _ (by omega)
    by_cases gl : ((b.drop at_).length : Int) < ((i + n5 + 4 : Nat) : Int)
    · rw [if_pos (show (b.drop at_).length < i + n5 + 4 by omega)] at hP
      simp only [↓reduceIte, EV, Nat.reduceEqDiff, r14_21, y9, y10, y13, rw4.len, w5, w6, decide_eq_true gl]
      refine hK _ _ _ (C.cond true (by simp only [↓reduceIte, EV]) (fun _ => (zero_at (h0 := h0) (k := k) 0 (by simp only [↓reduceIte, EV, Nat.reduceEqDiff, a4.t4]) a4.b4 a4.lt.1 a4.keep : C ⟨seqC ⟨r14_22⟩ retC⟩ (CF L (n + 22)) L _ h4 _).mono ?_) fun g => by cases g)
      rintro e tm' h' ⟨rfl, hq⟩
      exact .inr ⟨rfl, by rw [hP]; exact hq⟩
    rw [if_neg (show ¬ (b.drop at_).length < i + n5 + 4 by omega)] at hP
    simp only [↓reduceIte, EV, Nat.reduceEqDiff, r14_21, y9, y10, y13, rw4.len, w5, w6, decide_eq_false gl]
    refine hK _ _ _ (C.cond false (by simp only [↓reduceIte, EV]) (fun g => by cases g) fun _ => C.skip (C.seq (C.seq fun K hK => ?_)))
    obtain ⟨c1, hc1⟩ : ∃ c, (b.drop at_)[i + 2 + n5]? = some c := ⟨_, List.getElem?_eq_getElem (by omega)⟩
    obtain ⟨c2, hc2⟩ : ∃ c, (b.drop at_)[i + 2 + n5 + 1]? = some c := ⟨_, List.getElem?_eq_getElem (by omega)⟩
    have ha : At (b.drop at_) (i + 2 + n5) ↔ (c1 = 13 ∧ c2 = 10) := by simp [At, hc1, hc2]
    obtain ⟨p1, o1, ei1, el1, _⟩ := rw4.at hc1
    obtain ⟨p2, o2, ei2, el2, _⟩ := rw4.at hc2
    have nq : ∀ (t : TypeId) (c : Bool) (x y : UInt8), binV Tryd.prog .neq t c (bv x) (bv y) = some (.bool (!decide (x = y))) := fun t c x y => by
      have e : ((x.toNat : Int) = (y.toNat : Int)) ↔ x = y := by
        rw [Int.ofNat_inj]; exact UInt8.toNat_inj
      show binV Tryd.prog .neq t c (.int .u8 (x.toNat : Int)) (.int .u8 (y.toNat : Int)) = _
      rw [binV_neq]
      by_cases g : x = y
      · rw [decide_eq_true g, decide_eq_true (e.2 g)]
      · rw [decide_eq_false g, decide_eq_false fun h => g (e.1 h)]
    have q1 := nq 5 true c1 13
    have q2 := nq 5 true c2 10
    have b13 : bv 13 = .int .u8 13 := rfl
    have b10 : bv 10 = .int .u8 10 := rfl
    rw [b13] at q1
    rw [b10] at q2
    by_cases g1 : c1 = 13
    rotate_left
    · rw [if_pos (fun h => g1 (ha.1 h).1)] at hP
      simp only [↓opStep_eq, ↓reduceIte, ↓EW, EV, Nat.reduceEqDiff, r14_23, y9, y10, y13, w3, w4, ei1, el1, q1, decide_eq_false g1]
      refine hK _ _ _ (C.cond true (by simp only [↓reduceIte, EV]) (fun _ => (zero_at (h0 := h0) (k := k) 8 (by simp only [↓reduceIte, EV, Nat.reduceEqDiff, a4.t4]) a4.b4 a4.lt.1 a4.keep : C ⟨seqC ⟨r14_24⟩ retC⟩ (CF L (n + 22)) L _ h4 _).mono ?_) fun g => by cases g)
      rintro e tm' h' ⟨rfl, hq⟩
      exact .inr ⟨rfl, by rw [hP]; exact hq⟩
    by_cases g2 : c2 = 10
    rotate_left
    · rw [if_pos (fun h => g2 (ha.1 h).2)] at hP
      simp only [↓opStep_eq, ↓reduceIte, ↓EW, EV, Nat.reduceEqDiff, r14_23, y9, y10, y13, w3, w4, w7, w9, ei1, el1, ei2, el2, q1, q2, decide_eq_true g1, decide_eq_false g2]
      refine hK _ _ _ (C.cond true (by simp only [↓reduceIte, EV]) (fun _ => (zero_at (h0 := h0) (k := k) 8 (by simp only [↓reduceIte, EV, Nat.reduceEqDiff, a4.t4]) a4.b4 a4.lt.1 a4.keep : C ⟨seqC ⟨r14_24⟩ retC⟩ (CF L (n + 22)) L _ h4 _).mono ?_) fun g => by cases g)
      rintro e tm' h' ⟨rfl, hq⟩
      exact .inr ⟨rfl, by rw [hP]; exact hq⟩
    rw [if_neg (fun h => h (ha.2 ⟨g1, g2⟩))] at hP
    simp only [↓opStep_eq, ↓reduceIte, ↓EW, EV, Nat.reduceEqDiff, r14_23, y9, y10, y13, w3, w4, w7, w9, ei1, el1, ei2, el2, q1, q2, decide_eq_true g1, decide_eq_true g2]
    refine hK _ _ _ (C.cond false (by simp only [↓reduceIte, EV]) (fun g => by cases g) fun _ => C.skip ?_)
    have a7 : SR h0 v k B4 B7 at_ iv xs (T.set (T.set (T.set tm4 67 (.bool false)) 101 (.bool false)) 120 (.bool false)) h4 := a4.to (.refl _ _) (by simp only [↓reduceIte, EV, Nat.reduceEqDiff]) (by simp only [↓reduceIte, EV, Nat.reduceEqDiff]) (by simp only [↓reduceIte, EV, Nat.reduceEqDiff]) (by simp only [↓reduceIte, EV, Nat.reduceEqDiff]) (by simp only [↓reduceIte, EV, Nat.reduceEqDiff, a4.t8])
    refine (push13 (rest := b.drop at_) (i := i) (n := n5) (B12 := B12) a7 b12 l7 rw4 (by simp only [↓reduceIte, EV, Nat.reduceEqDiff, y9]) (by simp only [↓reduceIte, EV, Nat.reduceEqDiff, y10]) (by simp only [↓reduceIte, EV, Nat.reduceEqDiff, y12]) (by simp only [↓reduceIte, EV, Nat.reduceEqDiff, y13]) (by omega) (by omega) x8 fun h5 iv5 a6 => ?_ : C ⟨seqC ⟨r14_25⟩ ⟨seqC ⟨r14_26⟩ ⟨r14_27⟩⟩⟩ (CF L (n + 22)) L _ h4 _)
    intro K hK
    have w8 : IntKind.i64.wrap ((at_ : Int) + ((i + n5 + 4 : Nat) : Int)) = ((at_ + (i + n5 + 4) : Nat) : Int) := by
      rw [show (at_ : Int) + ((i + n5 + 4 : Nat) : Int) = ((at_ + (i + n5 + 4) : Nat) : Int) by omega]; exact wrap_lt _ (by omega)
    have z8 := a6.t8
    simp only [↓reduceIte, EV, Nat.reduceEqDiff] at z8
    rw [box_f]
    simp only [↓reduceIte, EV, Nat.reduceEqDiff, r14_27, y10, y13, z8, w5, w6, w8]
    exact hK _ _ _ (.inl ⟨rfl, at_ + (i + n5 + 4), iv5, _, a6.to (.refl _ _) (by simp only [↓reduceIte, EV, Nat.reduceEqDiff]) (by simp only [↓reduceIte, EV, Nat.reduceEqDiff]) (by simp only [↓reduceIte, EV, Nat.reduceEqDiff]) (by simp only [↓reduceIte, EV, Nat.reduceEqDiff]) (by simp only [↓reduceIte, EV]), by omega, by rw [List.length_append]; rfl, by rw [List.length_append]; show xs.length + 1 ≤ 8; omega, hP⟩)
end Go.Proofs.YthofbmfcpfibdaaDoor

namespace Go.Proofs.YthofbmfcpfibdaaDoor
open Go.Ev

/-- the program's Read -/
theorem read13_law (L n : Nat) (hL : 2000 ≤ L) {h0 : H} {v : Value} {b : List UInt8} {k : Nat} {e : Value} {m : Int} (he : ErrC e) (hG : Has h0 5 (.ro [e])) (hM : Has h0 0 (.ro [.int .i64 m])) (hr : Rd h0 v b) (hb : b.length < 100000) :
    Sp (CF L (n + 8)) 13 [v, .int .u8 (k : Int)] h0 fun r h' => GotV k h' r (readAll k b) ∧ Keep nobody h0 h' := by
  refine Sp.body f13 (by simp) ?_
  have fin : ∀ (e : Ex) tm h', (e = .ret ∧ RG h0 k (readAll k b) tm h') → (e = .norm ∨ e = .ret) ∧ ∃ l, q13.f tm h' = some l ∧ GotV k h' (resOf l) (readAll k b) ∧ Keep nobody h0 h' := by
    rintro e tm h' ⟨rfl, hq⟩
    exact ⟨.inr rfl, hq⟩
  generalize hg : readAll k b = G at *
  unfold readAll at hg
  unfold c13
  refine C.seq fun K hK => ?_
  have b0 := Has.new h0 (.rw zA.cells (some 27))
  have k0 := Keep.new h0 (.rw zA.cells (some 27))
  have hz : ∀ h : H, h.new (.rw [(.int .u8 (0)), (.int .u8 (0)), (.int .u8 (0)), (.slice none 0 0), (.int .u64 (0)), (.bool false), (.string (strB []))] (some 27)) = h.new (.rw zA.cells (some 27)) := fun _ => rfl
  simp only [↓EW, EV, Nat.reduceAdd, r13_0, hz]
  generalize hh1 : h0.new (.rw zA.cells (some 27)) = h1 at *
  have hn1 : h1.next = h0.next + 1 := by rw [← hh1]; rfl
  refine hK _ _ _ (C.seq (C.seq fun K hK => ?_))
  have hr1 := hr.keep0 k0
  by_cases g : (16384 : Int) < (b.length : Int)
  · rw [if_pos (by omega)] at hg
    simp only [↓reduceIte, EV, Nat.reduceEqDiff, r13_1, hr1.len, decide_eq_true g]
    refine hK _ _ _ (C.cond true (by simp only [↓reduceIte, EV]) (fun _ => (zero_at (h0 := h0) (k := k) (B4 := h0.next) 3 (by simp only [↓reduceIte, EV, Nat.reduceEqDiff]) b0 (Nat.le_refl _) k0 : C ⟨seqC ⟨r13_2⟩ retC⟩ (CF L (n + 7)) L _ h1 _).mono ?_) fun g => by cases g)
    rintro e tm' h' ⟨rfl, hq⟩
    exact fin _ _ _ ⟨rfl, by rw [← hg]; exact hq⟩
  rw [if_neg (by omega)] at hg
  simp only [↓reduceIte, EV, Nat.reduceEqDiff, r13_1, hr1.len, decide_eq_false g]
  refine hK _ _ _ (C.cond false (by simp only [↓reduceIte, EV]) (fun g => by cases g) fun _ => C.skip (C.seq fun K hK => ?_))
  have f1 : aggO (fill [(.int .u8 (0)), (.slice none 0 0), (.int .u64 (0))] (plc [(0, 1), (1, 1), (2, 1)]) [(0, (.int .u8 (1)))]) = some (.agg #[.int .u8 1, .slice none 0 0, .int .u64 0]) := rfl
  have f2 : aggO (fill [(.int .u8 (0)), (.int .u8 (0)), (.int .u8 (0)), (.slice none 0 0), (.int .u64 (0)), (.bool false), (.string (strB []))] (plc [(0, 1), (1, 1), (2, 3), (5, 1), (6, 1)]) [(0, (.int .u8 (1))), (1, (.int .u8 (k : Int))), (2, (.agg #[.int .u8 1, .slice none 0 0, .int .u64 0]))]) = some (getA k [] (.slice none 0 0)).v := rfl
  have st : storeV 7 (h1.new (.rw zA.cells (some 27))) (.pointer (some ⟨h1.next, 0, none⟩)) (getA k [] (.slice none 0 0)).v = some ((h1.new (.rw zA.cells (some 27))).put h1.next (.rw (getA k [] (.slice none 0 0)).cells (some 27))) := put7 (Has.new _ _) rfl rfl
  simp only [↓reduceIte, ↓EW, EV, Nat.reduceEqDiff, r13_3, f1, f2, hz, st]
  refine hK _ _ _ (C.seq fun K hK => ?_)
  have ka := keep_alloc h1 (.rw zA.cells (some 27)) (.rw (getA k [] (.slice none 0 0)).cells (some 27))
  have b7 := has_alloc h1 (.rw zA.cells (some 27)) (.rw (getA k [] (.slice none 0 0)).cells (some 27))
  have b4 := b0.keep0 ka
  have kp := k0.then ka
  generalize (h1.new (.rw zA.cells (some 27))).put h1.next (.rw (getA k [] (.slice none 0 0)).cells (some 27)) = h2 at *
  simp only [r13_4]
  refine hK _ _ _ (C.block ?_)
  refine (C.loop (L := L) (fun m tm' h' => ∃ at_ iv xs, m = 8 - xs.length ∧ xs.length ≤ 8 ∧ at_ ≤ b.length ∧ SR h0 v k h0.next h1.next at_ iv xs tm' h' ∧ G = readP k b (m + 1) at_ xs) 8 (by omega)
    ⟨0, .slice none 0 0, [], rfl, by decide, by omega, ⟨by simp only [↓reduceIte, EV, Nat.reduceEqDiff], by simp only [↓reduceIte, EV, Nat.reduceEqDiff], by simp only [↓reduceIte, EV, Nat.reduceEqDiff], by simp only [↓reduceIte, EV, Nat.reduceEqDiff], by simp only [↓reduceIte, EV]; rfl, b4, b7, .nil, fun c hc => by simp at hc, ⟨Nat.le_refl _, by omega⟩, kp⟩, hg.symm⟩ fun m tm' h' hi => ?_ :
    C (loopB l13_27) _ L _ h2 fun e tm' h' => e = .ret ∧ RG h0 k G tm' h').mono ?_
  · obtain ⟨at_, iv, xs, hm, x8, hat, a, hG'⟩ := hi
    refine (body13 L n hL he hG hM hr (by omega) hat x8 a (f := m)).mono ?_
    rintro e tm3 h3 (⟨rfl, at', iv', xs', a', ha', hl', h8', hp⟩ | ⟨rfl, hq⟩)
    · exact ⟨m - 1, by omega, at', iv', xs', by omega, h8', ha', a', by rw [hG', hp, show m - 1 + 1 = m by omega]⟩
    · exact ⟨rfl, by rw [hG']; exact hq⟩
  · rintro e tm' h' ⟨rfl, hq⟩
    exact fin _ _ _ ⟨rfl, hq⟩
/-- the document's Read -/
theorem read14_law (L n : Nat) (hL : 2000 ≤ L) {h0 : H} {v : Value} {b : List UInt8} {k : Nat} (hr : Rd h0 v b) (hb : b.length < 100000) :
    Sp (CF L (n + 23)) 14 [v, .int .u8 (k : Int)] h0 fun r h' => GotV k h' r (readAll k b) ∧ Keep nobody h0 h' := by
  refine Sp.body f14 (by simp) ?_
  have fin : ∀ (e : Ex) tm h', (e = .ret ∧ RG h0 k (readAll k b) tm h') → (e = .norm ∨ e = .ret) ∧ ∃ l, q14.f tm h' = some l ∧ GotV k h' (resOf l) (readAll k b) ∧ Keep nobody h0 h' := by
    rintro e tm h' ⟨rfl, hq⟩
    exact ⟨.inr rfl, hq⟩
  generalize hg : readAll k b = G at *
  unfold readAll at hg
  unfold c14
  refine C.seq fun K hK => ?_
  have b0 := Has.new h0 (.rw zA.cells (some 27))
  have k0 := Keep.new h0 (.rw zA.cells (some 27))
  have hz : ∀ h : H, h.new (.rw [(.int .u8 (0)), (.int .u8 (0)), (.int .u8 (0)), (.slice none 0 0), (.int .u64 (0)), (.bool false), (.string (strB []))] (some 27)) = h.new (.rw zA.cells (some 27)) := fun _ => rfl
  simp only [↓EW, EV, Nat.reduceAdd, r14_0, hz]
  generalize hh1 : h0.new (.rw zA.cells (some 27)) = h1 at *
  have hn1 : h1.next = h0.next + 1 := by rw [← hh1]; rfl
  refine hK _ _ _ (C.seq (C.seq fun K hK => ?_))
  have hr1 := hr.keep0 k0
  by_cases g : (16384 : Int) < (b.length : Int)
  · rw [if_pos (by omega)] at hg
    simp only [↓reduceIte, EV, Nat.reduceEqDiff, r14_1, hr1.len, decide_eq_true g]
    refine hK _ _ _ (C.cond true (by simp only [↓reduceIte, EV]) (fun _ => (zero_at (h0 := h0) (k := k) (B4 := h0.next) 3 (by simp only [↓reduceIte, EV, Nat.reduceEqDiff]) b0 (Nat.le_refl _) k0 : C ⟨seqC ⟨r14_2⟩ retC⟩ (CF L (n + 22)) L _ h1 _).mono ?_) fun g => by cases g)
    rintro e tm' h' ⟨rfl, hq⟩
    exact fin _ _ _ ⟨rfl, by rw [← hg]; exact hq⟩
  rw [if_neg (by omega)] at hg
  simp only [↓reduceIte, EV, Nat.reduceEqDiff, r14_1, hr1.len, decide_eq_false g]
  refine hK _ _ _ (C.cond false (by simp only [↓reduceIte, EV]) (fun g => by cases g) fun _ => C.skip (C.seq fun K hK => ?_))
  have f1 : aggO (fill [(.int .u8 (0)), (.slice none 0 0), (.int .u64 (0))] (plc [(0, 1), (1, 1), (2, 1)]) [(0, (.int .u8 (1)))]) = some (.agg #[.int .u8 1, .slice none 0 0, .int .u64 0]) := rfl
  have f2 : aggO (fill [(.int .u8 (0)), (.int .u8 (0)), (.int .u8 (0)), (.slice none 0 0), (.int .u64 (0)), (.bool false), (.string (strB []))] (plc [(0, 1), (1, 1), (2, 3), (5, 1), (6, 1)]) [(0, (.int .u8 (1))), (1, (.int .u8 (k : Int))), (2, (.agg #[.int .u8 1, .slice none 0 0, .int .u64 0]))]) = some (getA k [] (.slice none 0 0)).v := rfl
  have st : storeV 7 (h1.new (.rw zA.cells (some 27))) (.pointer (some ⟨h1.next, 0, none⟩)) (getA k [] (.slice none 0 0)).v = some ((h1.new (.rw zA.cells (some 27))).put h1.next (.rw (getA k [] (.slice none 0 0)).cells (some 27))) := put7 (Has.new _ _) rfl rfl
  simp only [↓reduceIte, ↓EW, EV, Nat.reduceEqDiff, r14_3, f1, f2, hz, st]
  refine hK _ _ _ (C.seq fun K hK => ?_)
  have ka := keep_alloc h1 (.rw zA.cells (some 27)) (.rw (getA k [] (.slice none 0 0)).cells (some 27))
  have b7 := has_alloc h1 (.rw zA.cells (some 27)) (.rw (getA k [] (.slice none 0 0)).cells (some 27))
  have b4 := b0.keep0 ka
  have kp := k0.then ka
  generalize (h1.new (.rw zA.cells (some 27))).put h1.next (.rw (getA k [] (.slice none 0 0)).cells (some 27)) = h2 at *
  simp only [r14_4]
  refine hK _ _ _ (C.seq (C.block ?_))
  refine (C.loop (L := L) (fun m tm' h' => ∃ at_ iv xs, m = 8 - xs.length ∧ xs.length ≤ 8 ∧ at_ ≤ b.length ∧ SR h0 v k h0.next h1.next at_ iv xs tm' h' ∧ G = readP k b (m + 1) at_ xs) 8 (by omega)
    ⟨0, .slice none 0 0, [], rfl, by decide, by omega, ⟨by simp only [↓reduceIte, EV, Nat.reduceEqDiff], by simp only [↓reduceIte, EV, Nat.reduceEqDiff], by simp only [↓reduceIte, EV, Nat.reduceEqDiff], by simp only [↓reduceIte, EV, Nat.reduceEqDiff], by simp only [↓reduceIte, EV]; rfl, b4, b7, .nil, fun c hc => by simp at hc, ⟨Nat.le_refl _, by omega⟩, kp⟩, hg.symm⟩ fun m tm' h' hi => ?_ :
    C (loopB l14_28) _ L _ h2 fun e tm' h' => e = .ret ∧ RG h0 k G tm' h').mono ?_
  · obtain ⟨at_, iv, xs, hm, x8, hat, a, hG'⟩ := hi
    refine (body14 L n hL hr (by omega) hat x8 a (f := m)).mono ?_
    rintro e tm3 h3 (⟨rfl, at', iv', xs', a', ha', hl', h8', hp⟩ | ⟨rfl, hq⟩)
    · exact ⟨m - 1, by omega, at', iv', xs', by omega, h8', ha', a', by rw [hG', hp, show m - 1 + 1 = m by omega]⟩
    · exact ⟨rfl, by rw [hG']; exact hq⟩
  · rintro e tm' h' ⟨rfl, hq⟩
    exact fin _ _ _ ⟨rfl, hq⟩
end Go.Proofs.YthofbmfcpfibdaaDoor

namespace Go.Proofs.YthofbmfcpfibdaaDoor
open Go.Ev

/-! ### what is read, whichever it is -/
def Got.a (k : Nat) : Got → Ans
  | .none _ => zA
  | .line a _ => a
  | .items l _ => getA k l (.slice Option.none 0 0)
def Got.n : Got → Int
  | .none _ => 0
  | .line _ n => (n : Int)
  | .items _ n => (n : Int)
def Got.e : Got → Int
  | .none e => e
  | .line _ _ => 0
  | .items _ _ => 0
def GOk : Got → Prop
  | .none _ => True
  | .line a _ => a.r.iv = .slice none 0 0 ∧ a.r.items = []
  | .items l _ => l.length ≤ 8
theorem bareF_mem {s : List UInt8} {a : Ans} : ∀ {T : List (List UInt8 × Ans)}, bareF s T = some a → ∃ w, (w, a) ∈ T
  | [], h => by cases h
  | (k, b) :: r, h => by
    unfold bareF at h
    split at h
    · cases h; exact ⟨k, List.mem_cons_self ..⟩
    · obtain ⟨w, hw⟩ := bareF_mem h
      exact ⟨w, List.mem_cons_of_mem _ hw⟩
theorem line_ok {k : Nat} {ws : List (List UInt8)} {a : Ans} (h : lineA k ws = some a) : a.r.iv = .slice none 0 0 ∧ a.r.items = [] := by
  unfold lineA at h
  split at h
  · split at h
    · cases h; exact ⟨rfl, rfl⟩
    · cases h
  · split at h
    · split at h
      · split at h
        · cases h; exact ⟨rfl, rfl⟩
        · cases h
      · split at h
        · cases h
        · split at h
          · cases h; exact ⟨rfl, rfl⟩
          · cases h
    · split at h
      · split at h
        · cases h; exact ⟨rfl, rfl⟩
        · cases h
      · split at h
        · obtain ⟨w, hw⟩ := bareF_mem h
          simp only [bareT, List.mem_cons, List.not_mem_nil, or_false, Prod.mk.injEq] at hw
          rcases hw with ⟨_, rfl⟩ | ⟨_, rfl⟩ | ⟨_, rfl⟩ | ⟨_, rfl⟩ | ⟨_, rfl⟩ | ⟨_, rfl⟩ | ⟨_, rfl⟩ <;> exact ⟨rfl, rfl⟩
        · cases h
theorem last_ok (k at_ : Nat) (xs : List Itm) (s : List UInt8) (h8 : xs.length ≤ 8) : GOk (lastP k at_ xs s) := by
  unfold lastP
  split
  · exact h8
  · split
    · rename_i a ha
      split
      · exact line_ok ha
      · trivial
    · trivial
theorem read_ok (k : Nat) (b : List UInt8) : ∀ (f at_ : Nat) (xs : List Itm), xs.length ≤ 8 → GOk (readP k b f at_ xs)
  | 0, _, _, _ => trivial
  | f + 1, at_, xs, h8 => by
    rcases crlf_cases (b.drop at_) with hc | ⟨i, hc⟩
    · rw [readP_neg hc]; split <;> trivial
    · rw [readP_pos hc rfl]
      split
      · rename_i hv
        split
        · trivial
        · split
          · trivial
          · exact read_ok k b f _ _ (by rw [List.length_append]; show xs.length + 1 ≤ 8; omega)
      · exact last_ok _ _ _ _ h8
theorem all_ok (k : Nat) (b : List UInt8) : GOk (readAll k b) := by
  unfold readAll
  split
  · trivial
  · exact read_ok k b 9 0 [] (by decide)
theorem ones_iv {h : H} {l : List Itm} {a : Ans} {iv : Value} (m : MineI h iv l) : ones (withIv a iv).cells = true := by cases m <;> rfl
theorem GotV.all {k : Nat} {h : H} {r : Value} {G : Got} (g : GotV k h r G) (ok : GOk G) : ∃ iv, r = .tuple #[(withIv (G.a k) iv).v, .int .i64 G.n, .int .i64 G.e] ∧ MineI h iv (G.a k).r.items ∧ (G.a k).r.items.length ≤ 8 := by
  cases G with
  | none e => exact ⟨.slice none 0 0, g, .nil, Nat.zero_le _⟩
  | line a n =>
    obtain ⟨o1, o2⟩ := ok
    refine ⟨.slice none 0 0, ?_, ?_, ?_⟩
    · have : withIv a (.slice none 0 0) = a := by
        unfold withIv
        rw [← o1]
      show r = .tuple #[(withIv a (.slice none 0 0)).v, _, _]
      rw [this]; exact g
    · show MineI h _ a.r.items
      rw [o2]; exact .nil
    · show a.r.items.length ≤ 8
      rw [o2]; exact Nat.zero_le _
  | items l n =>
    obtain ⟨iv, m, e⟩ := g
    exact ⟨iv, e, m, ok⟩

theorem reg4_1 {call : CallT} {L : Nat} {tm : T Value} {h : H} {K : KE} {v : Value} {l : List UInt8} (hr : Rd h v l) (t0 : tg tm 0 = v) :
    r4_1 call L tm [] h K = K .norm (T.set tm 24 (.bool (decide (6000 < l.length ∧ l.length ≤ 16384 ∨ 17000 < l.length)))) [] h := by
  by_cases h1 : (6000 : Int) < (l.length : Int)
  · by_cases h2 : (l.length : Int) ≤ 16384
    · rw [decide_eq_true (show 6000 < l.length ∧ l.length ≤ 16384 ∨ 17000 < l.length by omega)]
      simp only [↓opStep_eq, ↓reduceIte, ↓EW, EV, r4_1, t0, hr.len, decide_eq_true h1, decide_eq_true h2]
    · by_cases h3 : (17000 : Int) < (l.length : Int)
      · rw [decide_eq_true (show 6000 < l.length ∧ l.length ≤ 16384 ∨ 17000 < l.length by omega)]
        simp only [↓opStep_eq, ↓reduceIte, ↓EW, EV, r4_1, t0, hr.len, decide_eq_true h1, decide_eq_false h2, decide_eq_true h3]
      · rw [decide_eq_false (show ¬ (6000 < l.length ∧ l.length ≤ 16384 ∨ 17000 < l.length) by omega)]
        simp only [↓opStep_eq, ↓reduceIte, ↓EW, EV, r4_1, t0, hr.len, decide_eq_true h1, decide_eq_false h2, decide_eq_false h3]
  · have h3 : ¬ (17000 : Int) < (l.length : Int) := by omega
    rw [decide_eq_false (show ¬ (6000 < l.length ∧ l.length ≤ 16384 ∨ 17000 < l.length) by omega)]
    simp only [↓opStep_eq, ↓reduceIte, ↓EW, EV, r4_1, t0, hr.len, decide_eq_false h1, decide_eq_false h3]
theorem ops_step {one : Box OpT} {put : Box (Value → T Value → T Value)} {want : Box (List Value → T Value → Bool)} {rest : Box OpsT} {call : CallT} {env : List Value} {tm : T Value} {ds : Defs} {h : H} {K : KE} (hw : want.f env tm = true)
    (h1 : one.f call env tm ds h (fun v ds h => rest.f call (v :: env) (put.f v tm) ds h K) = true) : opStep one put want rest call env tm ds h K = true := by
  rw [opStep_eq, if_pos hw]
  exact h1
/-- THE LAW -/
theorem reads_law (L n : Nat) (hL : 2000 ≤ L) {h0 : H} {v : Value} {l : List UInt8} {k : Nat} {e : Value} {m : Int} (he : ErrC e) (hG : Has h0 5 (.ro [e])) (hM : Has h0 0 (.ro [.int .i64 m])) (hr : Rd h0 v l) :
    Sp (CF L (n + 24)) 4 [v, .int .u8 (k : Int)] h0 fun r h' => r = .bool true := by
  refine Sp.body f4 (by simp) ?_
  unfold c4
  refine C.seq fun K hK => hK .norm _ _ (C.seq (C.seq fun K hK => ?_))
  rw [box_f, reg4_1 hr (by simp only [↓reduceIte, EV, Nat.reduceAdd, Nat.reduceEqDiff])]
  by_cases g : 6000 < l.length ∧ l.length ≤ 16384 ∨ 17000 < l.length
  · rw [decide_eq_true g]
    refine hK _ _ _ (C.cond true (by simp only [↓reduceIte, EV, Nat.reduceAdd]) (fun g => C.seq fun K hK => hK .norm _ _ (C.ret ⟨.inr rfl, _, rfl, by simp only [↓reduceIte, EV, Nat.reduceAdd, resOf]⟩)) fun g => by cases g)
  rw [decide_eq_false g]
  refine hK _ _ _ (C.cond false (by simp only [↓reduceIte, EV, Nat.reduceAdd]) (fun g => by cases g) fun _ => C.skip ?_)
  refine C.seq fun K hK => hK .norm _ _ (C.seq fun K hK => ?_)
  obtain ⟨w, h1, e1, m1, k1, _⟩ := append_own (e := 5) (h := h0) (v := .slice none 0 0) (x := v) (l := []) (m := l) .nil hr.reads.src (by simp; omega)
  rw [List.nil_append] at m1
  have k1' : Keep nobody h0 h1 := k1.mono fun b _ hb => by simp at hb
  simp only [↓reduceIte, EV, Nat.reduceAdd, Nat.reduceEqDiff, r4_4, e1]
  refine hK _ _ _ (C.seq fun K hK => ?_)
  have rw1 := rd_of_mine m1 (by omega)
  have ok := all_ok k l
  have g13 := read13_law L (n + 15) hL (k := k) he (hG.keep0 k1') (hM.keep0 k1') rw1 (by omega)
  have t3 : ∀ (x y z : Value) i, tupNth i (.tuple #[x, y, z]) = [x, y, z][i]? := fun x y z i => tupNth_tuple i [x, y, z]
  simp only [↓reduceIte, ↓EW, EV, Nat.reduceEqDiff, r4_5]
  refine g13 _ fun r h2 hv => ?_
  obtain ⟨gv, k2⟩ := hv
  obtain ⟨iv1, rfl, mi1, h8⟩ := gv.all ok
  have s1 : storeV 7 (h2.new (.rw [(.int .u8 (0)), (.int .u8 (0)), (.int .u8 (0)), (.slice none 0 0), (.int .u64 (0)), (.bool false), (.string (strB []))] (some 27))) (.pointer (some ⟨h2.next, 0, none⟩)) (withIv ((readAll k l).a k) iv1).v = some ((h2.new (.rw zA.cells (some 27))).put h2.next (.rw (withIv ((readAll k l).a k) iv1).cells (some 27))) := put7 (Has.new _ _) rfl (ones_iv mi1)
  simp only [EV, t3, s1]
  have k3 := keep_alloc h2 (.rw zA.cells (some 27)) (.rw (withIv ((readAll k l).a k) iv1).cells (some 27))
  have b4 := has_alloc h2 (.rw zA.cells (some 27)) (.rw (withIv ((readAll k l).a k) iv1).cells (some 27))
  have m13 := mi1.keep0 k3
  generalize (h2.new (.rw zA.cells (some 27))).put h2.next (.rw (withIv ((readAll k l).a k) iv1).cells (some 27)) = h3 at *
  refine hK _ _ _ (C.seq fun K hK => ?_)
  have k13 := (k1'.then k2).then k3
  have g14 := read14_law L n hL (k := k) (hr.keep0 k13) (by omega)
  simp only [↓reduceIte, ↓EW, EV, Nat.reduceEqDiff, r4_6]
  refine g14 _ fun r h4 hv => ?_
  obtain ⟨gv2, k4⟩ := hv
  obtain ⟨iv2, rfl, mi2, _⟩ := gv2.all ok
  have s2 : storeV 7 (h4.new (.rw [(.int .u8 (0)), (.int .u8 (0)), (.int .u8 (0)), (.slice none 0 0), (.int .u64 (0)), (.bool false), (.string (strB []))] (some 27))) (.pointer (some ⟨h4.next, 0, none⟩)) (withIv ((readAll k l).a k) iv2).v = some ((h4.new (.rw zA.cells (some 27))).put h4.next (.rw (withIv ((readAll k l).a k) iv2).cells (some 27))) := put7 (Has.new _ _) rfl (ones_iv mi2)
  simp only [EV, t3, s2]
  have k5 := keep_alloc h4 (.rw zA.cells (some 27)) (.rw (withIv ((readAll k l).a k) iv2).cells (some 27))
  have b7 := has_alloc h4 (.rw zA.cells (some 27)) (.rw (withIv ((readAll k l).a k) iv2).cells (some 27))
  have m25 := mi2.keep0 k5
  generalize (h4.new (.rw zA.cells (some 27))).put h4.next (.rw (withIv ((readAll k l).a k) iv2).cells (some 27)) = h5 at *
  have b4' := (b4.keep0 k4).keep0 k5
  have i1 := ((m13.keep0 k4).keep0 k5).items
  have i2 := m25.items
  have kall := (k13.then k4).then k5
  have kown := ((k2.then k3).then k4).then k5
  generalize readAll k l = G at *
  refine hK _ _ _ (C.seq fun K hK => ?_)
  have la1 := get7 (s := none) b4'
  have la2 := get7 (s := none) b7
  have d1 : decide (G.n = G.n) = true := decide_eq_true rfl
  have d2 : decide (G.e = G.e) = true := decide_eq_true rfl
  have st1 := rw1.keep0 kown
  have st2 := hr.keep0 kall
  have qs : binV Tryd.prog .eql 9 false (.string ⟨l.toArray⟩) (.string ⟨l.toArray⟩) = some (.bool true) := by
    have := sv_eql 9 false l l
    rw [decide_eq_true rfl] at this
    exact this
  rw [box_f]
  unfold r4_7
  rw [show ∀ x : OpsT, (⟨x⟩ : Box OpsT).f = x from fun _ => rfl]
  refine ops_step (by rfl) ?_
  simp only [tg_set, Nat.reduceEqDiff, reduceIte, la1, kO_some]
  try rw [show ∀ x : OpsT, (⟨x⟩ : Box OpsT).f = x from fun _ => rfl]
  refine ops_step (by rfl) ?_
  simp only [tg_set, Nat.reduceEqDiff, reduceIte, la2, kO_some]
  try rw [show ∀ x : OpsT, (⟨x⟩ : Box OpsT).f = x from fun _ => rfl]
  refine ops_step (by rfl) ?_
  simp only [nthD_zero, nthD_succ]
  refine ans_same L (n + 21) (G.a k) iv1 iv2 h5 i1 i2 (by omega) (by omega) _ fun r h6 hv => ?_
  obtain ⟨rfl, k6⟩ := hv
  simp only [↓opStep_eq, ↓reduceIte, EV, Nat.reduceEqDiff, (st1.keep0 k6).str, (st2.keep0 k6).str, qs]
  exact hK _ _ _ (C.ret ⟨.inr rfl, _, rfl, by simp only [↓reduceIte, EV, resOf]⟩)
end Go.Proofs.YthofbmfcpfibdaaDoor

set_option maxRecDepth 100000
namespace Go.Proofs.YthofbmfcpfibdaaDoor
open Go.Ev Go.RowKit

theorem gor : NoGor Tryd.prog := noGor_of (by kernel_rfl)
theorem xok : XOK Tryd.prog outside := xok_index Tryd.func58 (by kernel_rfl) (by kernel_rfl) (by kernel_rfl) (by kernel_rfl) (xok_cons Tryd.func71 (by kernel_rfl) (by kernel_rfl) (by kernel_rfl) (xok_cons Tryd.func78 (by kernel_rfl) (by kernel_rfl) (by kernel_rfl) (xok_cons Tryd.func83 (by kernel_rfl) (by kernel_rfl) (by kernel_rfl) (xok_noZero (e := 5) (t := 29) (ps := #[3]) Tryd.func86 (by kernel_rfl) (by kernel_rfl) (by kernel_rfl) (by kernel_rfl) (by kernel_rfl) (xok_index Tryd.func93 (by kernel_rfl) (by kernel_rfl) (by kernel_rfl) (by kernel_rfl) (xok_cons Tryd.func102 (by kernel_rfl) (by kernel_rfl) (by kernel_rfl) (xok_nil)))))))
theorem u29 : Tryd.prog.underlying 29 = some (.slice 5) := by kernel_rfl
section
variable {H : Type} {enc : TypeId × Value → H}
/-- bytes that lie in memory, as the evaluator has them -/
theorem bytes_at {W : World} {n : Nat} {v : Value} {x : DataW H × List MemPlace} (hok : Value.okWide Tryd.prog W .any 0 29 v) (h : DataW.trod enc Tryd.prog W 0 (fun _ => true) true n 29 v.cells.toList = some x) :
    ∃ o : Option (List Value × CB), (∀ p, o = some p → RosOk W p) ∧ ∀ (B : Nat) (σ : Sg) (h0 : Ev.H), (∀ p, o = some p → Has h0 B (.ro p.1) ∧ σ B = some p.2) → ∃ (v' : Value) (l : List UInt8), Rd h0 v' l ∧ VR σ v' v := by
  have hok2 : Cell.ok Tryd.prog W .any 0 29 v := by
    unfold Value.okWide at hok
    rw [u29] at hok
    unfold Cell.okWide at hok
    rw [u29] at hok
    exact hok
  rcases DataW.trod_slice u29 h with ⟨e, _⟩ | ⟨a, len, cap, elems, rest, m', _, e, _, _, hlc, hcm, hlen, hel, _, _⟩
  · have hv : v = .slice none 0 0 := by
      cases v <;> simp [Value.cells] at e
      case slice => simp_all
      case agg => exfalso; unfold Cell.ok at hok2; rw [u29] at hok2; exact hok2
    subst hv
    exact ⟨none, (fun p h => by cases h), fun B σ h0 _ => ⟨.slice none 0 0, [], .inl ⟨rfl, rfl⟩, .slNil _ _⟩⟩
  · have hv : v = .slice (some a) len cap := by
      cases v <;> simp [Value.cells] at e
      case slice => simp_all
      case agg => exfalso; unfold Cell.ok at hok2; rw [u29] at hok2; exact hok2
    subst hv
    unfold Cell.ok at hok2
    rw [u29] at hok2
    obtain ⟨_, _, _, hspot, row, cells, hshape, _⟩ := hok2
    have hblk : a.block < W.heap.size := by
      unfold World.shape? at hshape
      split at hshape
      · rename_i c el _ hh
        exact (Array.getElem?_eq_some_iff.1 hh).1
      · cases hshape
    have hone : ∀ i : Fin len, ∃ y : UInt8, W.cells? 0 (a.add (i.val * 1)) 1 = some [bv y] := fun i => by
      have h1 := hel i.val i.isLt
      rw [s5, List.getElem?_eq_getElem (by omega)] at h1
      simp only [Option.bind_eq_some_iff] at h1
      obtain ⟨c5, h2, h3⟩ := h1
      obtain ⟨z, rfl, _, w⟩ := DataW.trod_int u5 h3
      have := bounds_u8 w
      refine ⟨UInt8.ofNat z.toNat, ?_⟩
      have hz : bv (UInt8.ofNat z.toNat) = .int .u8 z := by
        unfold bv
        congr 1
        rw [UInt8.toNat_ofNat_of_lt' (by simp [UInt8.size]; omega)]
        omega
      rw [hz]; exact h2
    obtain ⟨f, hf⟩ := Classical.axiomOfChoice hone
    let l := List.ofFn f
    have hil : l.length = len := by simp [l]
    have hcells : ∀ j v, (l.map bv)[j]? = some v → W.cell? ⟨a.block, a.off + j, none⟩ = some v ∧ cstOk v = true := fun j v hv => by
      rw [List.getElem?_map] at hv
      obtain ⟨y, hy, rfl⟩ := Option.map_eq_some_iff.1 hv
      have hlt : j < len := by
        by_cases hlt : j < len
        · exact hlt
        · rw [List.getElem?_eq_none (by omega)] at hy; cases hy
      have hy' : f ⟨j, hlt⟩ = y := by simpa [l, hlt] using hy
      have h2 := hf ⟨j, hlt⟩
      rw [hy'] at h2
      refine ⟨?_, rfl⟩
      have h3 := (World.cells?_some h2).2.2 0 (by omega)
      have e0 : [bv y][0]? = some (bv y) := rfl
      rw [e0] at h3
      rw [← h3]
      obtain ⟨ab, ao, asp⟩ := a
      simp only at hspot
      subst hspot
      simp only [Addr.add, Nat.mul_one]
      by_cases e1 : j = 0
      · simp [e1]
      · simp [e1]
    have hcO : cap < OPEN := by have := hcm; unfold maxLen at this; unfold OPEN; omega
    have hble : Nat.ble OPEN cap = false := by
      rw [Bool.eq_false_iff]; intro e; have := Nat.le_of_ble_eq_true e; omega
    refine ⟨some (l.map bv, ⟨a.block, a.off, 1 * len, 1⟩), fun p h => ?_, fun B σ h0 hB => ?_⟩
    · simp only [Option.some.injEq] at h; subst h; exact ⟨hblk, hcells⟩
    obtain ⟨hh, hσ⟩ := hB _ rfl
    have hV : VR σ (.slice (some ⟨B, 0, none⟩) len cap) (.slice (some a) len cap) := by
      have := VR.sl (σ := σ) B 0 len cap ⟨a.block, a.off, 1 * len, 1⟩ hσ hcO
      obtain ⟨ab, ao, asp⟩ := a
      simp only at hspot
      subst hspot
      exact this
    exact ⟨.slice (some ⟨B, 0, none⟩) len cap, l, .inr ⟨B, 0, cap, _, _, by rw [hil], hh, rfl, by simp, by rw [List.drop_zero, List.take_of_length_le (by simp)], .inr ⟨hble, by omega⟩⟩, hV⟩

end

/-! ### the package variables -/
theorem star : "*" ++ "errors.errorString" = "*errors.errorString" := by decide
theorem row147 (u : TypeId) (h : Tryd.prog.typeName? 3 u = some "*errors.errorString") : u = 147 :=
  Go.typeName_ptr_named (nm := "errors.errorString") (by rw [star]; kernel_rfl) (by kernel_rfl) (by decide) u (by rw [star]; exact h)
theorem u147 : Tryd.prog.underlying 147 = some (.pointer 149) := by kernel_rfl
noncomputable def msOf : Array (String × TypeId) := match Tryd.prog.underlying 76 with | some (.interface ms) => ms | _ => #[]
theorem u76 : Tryd.prog.underlying 76 = some (.interface msOf) := by kernel_rfl
/-- what a listed error's variable holds: a pointer that is not nil -/
theorem err_cell {n : String} {text : List UInt8} {r : List (String × DataW Unit)} {W : World} {g : Nat}
    (h : laidMet Tryd.prog ((n, .iface "*errors.errorString" (.ptr (.agg [.lit (.string text)]))) :: r) W)
    (hg : Tryd.prog.globalNamed n = some g) (ht : (Tryd.prog.globals[g]?).map (·.type) = some 76) :
    ∃ a : Addr, W.cell? ⟨g, 0, none⟩ = some (.iface 147 (.pointer (some a))) ∧ a.spot = none ∧ a.block < W.heap.size := by
  obtain ⟨ps, ⟨g0, t0, cs0, f0, p0, q0, hg0, ht0, hv0, hd0, _, e0⟩, _, hrows⟩ := h
  obtain rfl := Option.some.inj (hg.symm.trans hg0)
  obtain rfl := Option.some.inj (ht.symm.trans ht0)
  subst e0
  obtain ⟨l0⟩ := cs0
  have hi := u76
  obtain ⟨f1, u, v, rfl, hn, h1⟩ := iface_of_trod hi hd0
  obtain rfl := row147 u hn
  have hc : W.cell? ⟨g, 0, none⟩ = some (.iface 147 v) := by simpa using World.var?_cell hg0 hv0 0
  have ok : Value.okWide Tryd.prog W .any 0 147 v := (hrows g 0 (by simp [MemPlace.row])).2 147 v hc
  obtain ⟨f2, a, cs', q, hv, hcells, h2, _⟩ := ptr_of_trod u147 h1
  unfold Value.okWide at ok
  simp only [u147] at ok
  unfold Cell.okWide at ok
  simp only [u147] at ok
  have hv' : v = .pointer (some a) := by
    cases v <;> simp [Value.cells, Cell.ok] at ok hv
    subst hv
    rfl
  subst hv'
  unfold Cell.ok at ok
  rw [u147] at ok
  obtain ⟨_, hspot, row, cells, hshape, _⟩ := ok
  refine ⟨a, hc, hspot, ?_⟩
  unfold World.shape? at hshape
  split at hshape
  · rename_i c el _ hh
    exact (Array.getElem?_eq_some_iff.1 hh).1
  · cases hshape
theorem ros_relV {w : World} {bs : Ros} (hv : ∀ p, some p ∈ bs → p.2.blk < w.heap.size ∧ ∀ j v, p.1[j]? = some v → ∃ v', w.cell? ⟨p.2.blk, p.2.off + j, none⟩ = some v' ∧ VR (rosσ bs) v v') : Rel (rosσ bs) (rosH bs) w := by
  refine ⟨fun B hB => ?_, fun B c h => ?_, fun B x hx => ?_, fun B x B' x' c c' hx hm => ?_⟩
  · have hB : bs.length ≤ B := hB
    simp [rosσ, List.getElem?_eq_none hB]
  · simp only [rosσ] at h
    split at h
    · rename_i p hp
      simp only [Option.some.injEq] at h
      subst h
      exact (hv p (List.mem_of_getElem? hp)).1
    · cases h
  · obtain ⟨_, p, hp, rfl⟩ := rosO_get bs 0 B x hx
    rw [Nat.sub_zero] at hp
    exact ⟨p.2, (ros_has hp).2, fun j v h => (hv p (List.mem_of_getElem? hp)).2 j v h⟩
  · rw [ros_ro B x hx] at hm; cases hm
theorem ros_cst {w : World} {σ : Sg} {p : List Value × CB} (h : RosOk w p) : p.2.blk < w.heap.size ∧ ∀ j v, p.1[j]? = some v → ∃ v', w.cell? ⟨p.2.blk, p.2.off + j, none⟩ = some v' ∧ VR σ v v' :=
  ⟨h.1, fun j v hj => ⟨v, (h.2 j v hj).1, cstOk_vr (h.2 j v hj).2⟩⟩
/-- what stands in the package variables' blocks -/
def glR (m : Int) (a : Addr) : Ros := [some ([.int .i64 m], ⟨0, 0, 0, 0⟩), some ([], ⟨1, 0, 0, 0⟩), some ([], ⟨2, 0, 0, 0⟩), some ([], ⟨3, 0, 0, 0⟩), some ([], ⟨4, 0, 0, 0⟩), some ([.iface 147 (.pointer (some ⟨6, 0, none⟩))], ⟨5, 0, 0, 0⟩), some ([], ⟨a.block, a.off, 0, 0⟩)]
theorem gl_rel {W : World} {m : Int} {a : Addr} (h0 : W.cell? ⟨0, 0, none⟩ = some (.int .i64 m)) (h5 : W.cell? ⟨5, 0, none⟩ = some (.iface 147 (.pointer (some a)))) (hs : a.spot = none) (hb : a.block < W.heap.size) (bs : Ros) (hv : ∀ p, some p ∈ bs → RosOk W p) :
    Rel (rosσ (glR m a ++ bs)) (rosH (glR m a ++ bs)) W := by
  have l5 := World.block_lt_of_cell? W _ h5
  have l5' : 5 < W.heap.size := l5
  have e6 : rosσ (glR m a ++ bs) 6 = some ⟨a.block, a.off, 0, 0⟩ := rfl
  refine ros_relV fun p hp => ?_
  rcases List.mem_append.1 hp with hp | hp
  · simp only [glR, List.mem_cons, List.not_mem_nil, or_false, Option.some.injEq] at hp
    rcases hp with rfl | rfl | rfl | rfl | rfl | rfl | rfl
    · refine ⟨by show 0 < _; omega, fun j v hj => ?_⟩
      match j, hj with
      | 0, hj => simp at hj; subst hj; exact ⟨_, h0, .int _ _⟩
      | j + 1, hj => simp at hj
    · exact ⟨by show 1 < _; omega, fun j v hj => by cases hj⟩
    · exact ⟨by show 2 < _; omega, fun j v hj => by cases hj⟩
    · exact ⟨by show 3 < _; omega, fun j v hj => by cases hj⟩
    · exact ⟨by show 4 < _; omega, fun j v hj => by cases hj⟩
    · refine ⟨by show 5 < _; omega, fun j v hj => ?_⟩
      match j, hj with
      | 0, hj =>
        simp at hj; subst hj
        refine ⟨_, h5, .iface _ _ _ ?_⟩
        have := VR.ptr (σ := rosσ (glR m a ++ bs)) 6 0 _ e6
        obtain ⟨ab, ao, asp⟩ := a
        simp only at hs
        subst hs
        exact this
      | j + 1, hj => simp at hj
    · exact ⟨hb, fun j v hj => by cases hj⟩
  · exact ros_cst (hv p hp)
theorem err_ok : ErrC (.iface 147 (.pointer (some ⟨6, 0, none⟩))) := ⟨rfl, rfl, by decide⟩
theorem gl_glob (m : Int) (a : Addr) (bs : Ros) : Glob (rosσ (glR m a ++ bs)) NG := fun g hg => by
  have hg' : g < 6 := hg
  rcases (show g = 0 ∨ g = 1 ∨ g = 2 ∨ g = 3 ∨ g = 4 ∨ g = 5 by omega) with rfl | rfl | rfl | rfl | rfl | rfl <;> exact ⟨_, rfl, rfl, rfl⟩

section
variable {H : Type} {enc : TypeId × Value → H}
/-- the walk -/
theorem wordsReads_walk {W : World} {m : Int} {a : Addr} (c0 : W.cell? ⟨0, 0, none⟩ = some (.int .i64 m)) (c5 : W.cell? ⟨5, 0, none⟩ = some (.iface 147 (.pointer (some a)))) (hs : a.spot = none) (hb : a.block < W.heap.size) {n1 n2 : Nat} {v1 v2 : Value} {x1 x2 : DataW H × List MemPlace} (hok : Value.okWide Tryd.prog W .any 0 29 v1) (h1 : DataW.trod enc Tryd.prog W 0 (fun _ => true) true n1 29 v1.cells.toList = some x1)
    (hok2 : Value.okWide Tryd.prog W .any 0 5 v2) (h2 : DataW.trod enc Tryd.prog W 0 (fun _ => true) true n2 5 v2.cells.toList = some x2) :
    Calls Tryd.prog 4 #[v1, v2] W fun e W' => e = .returned (.bool true) ∧ Below W.heap.size W W' := by
  obtain ⟨o, p, q⟩ := bytes_at hok h1
  obtain ⟨z, e2, _, w2⟩ := DataW.trod_int u5 h2
  have b2 := bounds_u8 w2
  have hv2 : v2 = .int .u8 (z.toNat : Int) := by
    rw [show (z.toNat : Int) = z by omega]
    have ok2 : Cell.ok Tryd.prog W .any 0 5 v2 := by
      unfold Value.okWide at hok2
      rw [u5] at hok2
      unfold Cell.okWide at hok2
      rw [u5] at hok2
      exact hok2
    cases v2 <;> simp [Value.cells] at e2
    case int => simp_all
    case agg => exfalso; unfold Cell.ok at ok2; rw [u5] at ok2; exact ok2
  subst hv2
  have r := gl_rel (m := m) (a := a) c0 c5 hs hb [o] fun p' hp => by
    simp only [List.mem_cons, List.not_mem_nil, or_false] at hp
    exact p p' hp.symm
  have g0 := ros_has (bs := glR m a ++ [o]) (B := 0) (p := ([.int .i64 m], ⟨0, 0, 0, 0⟩)) rfl
  have g5 := ros_has (bs := glR m a ++ [o]) (B := 5) (p := ([.iface 147 (.pointer (some ⟨6, 0, none⟩))], ⟨5, 0, 0, 0⟩)) rfl
  obtain ⟨v', l, hr, va⟩ := q 7 (rosσ (glR m a ++ [o])) (rosH (glR m a ++ [o])) fun p hp => ros_has (by rw [hp]; rfl)
  exact calls_of_sp gor Tryd.checked.mixed xok Tryd.func4 (by kernel_rfl) (reads_law 2000 0 (by decide) (k := z.toNat) err_ok g5.1 g0.1 hr) r (gl_glob m a [o]) (.cons va (.cons (.int _ _) (.nil _))) ros_ro
end
end Go.Proofs.YthofbmfcpfibdaaDoor
