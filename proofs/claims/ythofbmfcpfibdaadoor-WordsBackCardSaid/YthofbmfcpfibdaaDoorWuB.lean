import Derived.Test.YthofbmfcpfibdaaDoorWtH
set_option linter.unusedSimpArgs false
set_option linter.unusedVariables false
namespace Go.Proofs.YthofbmfcpfibdaaDoor
open Go.Ev

/-! ### numbers and words: there and back (plain) -/
theorem dec_lo {n : Nat} (h : n < 10) : dec n = [UInt8.ofNat (48 + n)] := by rw [dec, if_pos h]
theorem dec_hi {n : Nat} (h : ¬ n < 10) : dec n = dec (n / 10) ++ [UInt8.ofNat (48 + n % 10)] := by rw [dec, if_neg h]
theorem d48 {d : Nat} (h : d < 10) : (UInt8.ofNat (48 + d)).toNat = 48 + d := UInt8.toNat_ofNat_of_lt' (by show 48 + d < 256; omega)
theorem dig48 {d : Nat} (h : d < 10) : dig (UInt8.ofNat (48 + d)) = true := by
  unfold dig
  rw [d48 h, decide_eq_true (by omega), decide_eq_true (by omega)]; rfl
theorem dec_spec (n : Nat) : (dec n).all dig = true ∧ valN (dec n) 0 = n ∧ 0 < (dec n).length ∧ ((dec n)[0]? = some 48 → n = 0) := by
  induction n using Nat.strongRecOn with
  | ind n ih =>
    by_cases h : n < 10
    · rw [dec_lo h]
      refine ⟨by rw [List.all_cons, dig48 h]; rfl, ?_, by simp, fun e => ?_⟩
      · show 10 * 0 + ((UInt8.ofNat (48 + n)).toNat - 48) = n
        rw [d48 h]; omega
      · have e' : UInt8.ofNat (48 + n) = 48 := by simpa using e
        have := congrArg UInt8.toNat e'
        rw [d48 h] at this
        have h48 : (48 : UInt8).toNat = 48 := rfl
        omega
    · rw [dec_hi h]
      obtain ⟨h1, h2, h3, h4⟩ := ih (n / 10) (by omega)
      have hd : n % 10 < 10 := Nat.mod_lt _ (by omega)
      refine ⟨by rw [List.all_append, h1, List.all_cons, dig48 hd]; rfl, ?_, by simp, fun e => ?_⟩
      · rw [valN_app, h2]
        show 10 * (n / 10) + ((UInt8.ofNat (48 + n % 10)).toNat - 48) = n
        rw [d48 hd]; omega
      · rw [List.getElem?_append_left h3] at e
        have := h4 e
        omega
theorem num_dec {n : Nat} (h : n < 18446744073709551616) : numN (dec n) = some n := by
  obtain ⟨h1, h2, h3, h4⟩ := dec_spec n
  have hl := dec_len 19 n (by omega)
  have hs : shapeN (dec n) = true := by
    unfold shapeN
    rw [decide_eq_false (by omega), decide_eq_false (by omega)]
    by_cases e : (dec n)[0]? = some 48
    · rw [h4 e, dec_lo (by decide)]; decide
    · rw [decide_eq_false e]; rfl
  rw [numN_good ⟨hs, h1, by omega⟩, h2]
theorem dig_ne {b : UInt8} (h : dig b = true) : b ≠ 32 ∧ b ≠ 13 := by
  obtain ⟨h1, h2⟩ := dig_of h
  exact ⟨fun e => by rw [e] at h1; exact absurd h1 (by decide), fun e => by rw [e] at h1; exact absurd h1 (by decide)⟩
theorem dec_no (n : Nat) : (32 : UInt8) ∉ dec n ∧ (13 : UInt8) ∉ dec n := by
  have h := List.all_eq_true.1 (dec_spec n).1
  exact ⟨fun e => (dig_ne (h _ e)).1 rfl, fun e => (dig_ne (h _ e)).2 rfl⟩
theorem plain_no {l : List UInt8} (h : plainL l = true) : (32 : UInt8) ∉ l ∧ (13 : UInt8) ∉ l := by
  have h' := List.all_eq_true.1 h
  exact ⟨fun e => absurd (h' _ e) (by decide), fun e => absurd (h' _ e) (by decide)⟩

theorem cut_join : ∀ (ps : List (List UInt8)) (w : List UInt8), (32 : UInt8) ∉ w → (∀ p ∈ ps, (32 : UInt8) ∉ p) → cutS (w ++ joinR ps) = w :: ps
  | [], w, hw, _ => by
    show cutS (w ++ []) = [w]
    rw [List.append_nil]; exact cutS_one w hw
  | p :: r, w, hw, hp => by
    show cutS (w ++ 32 :: (p ++ joinR r)) = w :: p :: r
    rw [cutS_app w _ hw, cut_join r p (hp p (List.mem_cons_self ..)) fun q hq => hp q (List.mem_cons_of_mem _ hq)]
theorem join_no : ∀ {ps : List (List UInt8)}, (∀ p ∈ ps, (13 : UInt8) ∉ p) → (13 : UInt8) ∉ joinR ps
  | [], _ => by simp [joinR]
  | p :: r, h => by
    show (13 : UInt8) ∉ 32 :: p ++ joinR r
    rw [List.cons_append, List.mem_cons, List.mem_append]
    rintro (e | e | e)
    · exact absurd e (by decide)
    · exact h p (List.mem_cons_self ..) e
    · exact join_no (fun q hq => h q (List.mem_cons_of_mem _ hq)) e
end Go.Proofs.YthofbmfcpfibdaaDoor

namespace Go.Proofs.YthofbmfcpfibdaaDoor
open Go.Ev

/-! ### an item's line: there and back (plain) -/
theorem numI_dec {ws : List (List UInt8)} {i m n : Nat} (h : ws.getD i [] = dec n) (hm : n ≤ m) (hn : n < 18446744073709551616) : numI ws i m = true ∧ numG ws i = n := by
  have e : numG ws i = n := by unfold numG; rw [h, num_dec hn]; rfl
  refine ⟨?_, e⟩
  unfold numI
  rw [e, h, num_dec hn, decide_eq_true hm]; rfl
theorem w32 (z : Int) (h0 : 0 ≤ z) (h : z < 4294967296) : IntKind.u32.wrap z = z := wrap_eq _ _ (by show (0 : Int) ≤ z; omega) (by show z ≤ 4294967295; omega)
theorem w64 (z : Int) (h0 : 0 ≤ z) (h : z ≤ 1099511627776) : IntKind.i64.wrap z = z := wrap_eq _ _ (by show (-9223372036854775808 : Int) ≤ z; omega) (by show z ≤ 9223372036854775807; omega)
theorem good_pos {x : Itm} (g : x.good) : 1 ≤ x.key.size := by
  have := g.err
  unfold Itm.err Itm.long at this
  split at this
  · omega
  · rename_i h
    simp only [Bool.or_eq_true, decide_eq_true_eq, not_or] at h
    omega
theorem key_len (s : ByteArray) : s.data.toList.length = s.size := rfl
/-- a good item's line is read as the item -/
theorem line_fwd {x : Itm} (g : x.good) (hp : plainL x.key.data.toList = true) : isV (VAL :: parts x) = true ∧ itmB (VAL :: parts x) x.val.data.toList = x ∧ nB (VAL :: parts x) = x.val.size := by
  have hk := g.key
  have hv := g.val
  have ht := g.till
  have hf := g.ok.flags
  have hu := g.ok.uniq
  have h1 := good_pos g
  obtain ⟨i2, g2⟩ := numI_dec (ws := VAL :: parts x) (i := 2) (m := 4294967295) (n := x.flags.toNat) rfl (by omega) (by omega)
  obtain ⟨i3, g3⟩ := numI_dec (ws := VAL :: parts x) (i := 3) (m := 1099511627776) (n := x.till.toNat) rfl (by omega) (by omega)
  obtain ⟨i4, g4⟩ := numI_dec (ws := VAL :: parts x) (i := 4) (m := 18446744073709551615) (n := x.uniq.toNat) rfl (by omega) (by omega)
  obtain ⟨i5, g5⟩ := numI_dec (ws := VAL :: parts x) (i := 5) (m := 512) (n := x.val.size) rfl (by omega) (by omega)
  refine ⟨?_, ?_, g5⟩
  · have e1 : (VAL :: parts x).getD 1 [] = x.key.data.toList := rfl
    have e0 : (VAL :: parts x).getD 0 [] = vw := rfl
    have e6 : (VAL :: parts x).length = 6 := rfl
    unfold isV headV okV
    rw [i2, i3, i4, i5, e0, e1, e6, hp, key_len, decide_eq_false (show ¬ x.key.size = 0 by omega), decide_eq_true (show x.key.size ≤ 32 by omega)]
    rfl
  · unfold itmB itmV
    rw [g2, g3, g4, w32 _ (by omega) (by omega), w64 _ (by omega) (by omega)]
    obtain ⟨key, val, fl, tl, uq⟩ := x
    simp only at hf hu ht ⊢
    have a1 : ((fl.toNat : Nat) : Int) = fl := by omega
    have a2 : ((tl.toNat : Nat) : Int) = tl := by omega
    have a3 : ((uq.toNat : Nat) : Int) = uq := by omega
    rw [a1, a2, a3]
    rfl
theorem parts_no {x : Itm} (hp : plainL x.key.data.toList = true) : ∀ p ∈ parts x, (32 : UInt8) ∉ p ∧ (13 : UInt8) ∉ p := by
  intro p hm
  simp only [parts, List.mem_cons, List.not_mem_nil, or_false] at hm
  rcases hm with rfl | rfl | rfl | rfl | rfl
  · exact plain_no hp
  · exact dec_no _
  · exact dec_no _
  · exact dec_no _
  · exact dec_no _

/-! ### where a line ends (plain) -/
theorem at_mid (s r : List UInt8) : At (s ++ 13 :: 10 :: r) s.length := by
  unfold At
  rw [List.getElem?_append_right (Nat.le_refl _), List.getElem?_append_right (by omega), Nat.sub_self, show s.length + 1 - s.length = 1 by omega]
  exact ⟨rfl, rfl⟩
theorem crlf_line {s r : List UInt8} (hs : (13 : UInt8) ∉ s) (hl : s.length ≤ 512) : crlf ((s ++ 13 :: 10 :: r).take 514) = (s.length : Int) := by
  refine crlf_at (At.take.2 ⟨at_mid s r, by omega⟩) fun j hj h => ?_
  have h1 := (At.take.1 h).1.1
  rw [List.getElem?_append_left hj] at h1
  exact hs (List.mem_of_getElem? h1)
end Go.Proofs.YthofbmfcpfibdaaDoor

namespace Go.Proofs.YthofbmfcpfibdaaDoor
open Go.Ev

/-! ### rows of items: there and back (plain) -/
def vhead (x : Itm) : List UInt8 := VAL ++ joinR (parts x)
theorem vline_eq (x : Itm) (R : List UInt8) : vline x ++ R = vhead x ++ 13 :: 10 :: (x.val.data.toList ++ 13 :: 10 :: R) := by
  unfold vline vhead
  simp only [List.append_assoc, List.cons_append, List.nil_append]
theorem vhead_cut {x : Itm} (hp : plainL x.key.data.toList = true) : cutS (vhead x) = VAL :: parts x := cut_join (parts x) VAL (by decide) fun p h => (parts_no hp p h).1
theorem vhead_no {x : Itm} (hp : plainL x.key.data.toList = true) : (13 : UInt8) ∉ vhead x := by
  unfold vhead
  rw [List.mem_append]
  rintro (e | e)
  · exact absurd e (by decide)
  · exact join_no (fun p h => (parts_no hp p h).2) e
theorem vhead_len {x : Itm} (g : x.good) : (vhead x).length ≤ 200 := by
  have h1 := parts_len g
  have h3 := joinR_len (parts x)
  have e2 : (parts x).length = 5 := rfl
  have e5 : VAL.length = 5 := rfl
  unfold vhead
  rw [List.length_append]; omega
theorem four (s v R : List UInt8) : (s ++ 13 :: 10 :: (v ++ 13 :: 10 :: R)).take s.length = s ∧ (s ++ 13 :: 10 :: (v ++ 13 :: 10 :: R)).length = s.length + v.length + 4 + R.length ∧ At (s ++ 13 :: 10 :: (v ++ 13 :: 10 :: R)) (s.length + 2 + v.length) ∧
    ((s ++ 13 :: 10 :: (v ++ 13 :: 10 :: R)).take (s.length + 2 + v.length)).drop (s.length + 2) = v ∧ (s ++ 13 :: 10 :: (v ++ 13 :: 10 :: R)).drop (s.length + v.length + 4) = R := by
  have e : s ++ 13 :: 10 :: (v ++ 13 :: 10 :: R) = (s ++ 13 :: 10 :: v) ++ 13 :: 10 :: R := by simp
  have l2 : (s ++ 13 :: 10 :: v).length = s.length + 2 + v.length := by simp only [List.length_append, List.length_cons]; omega
  have e3 : (s ++ 13 :: 10 :: v ++ 13 :: 10 :: R) = (s ++ 13 :: 10 :: v ++ [13, 10]) ++ R := by simp
  have l3 : (s ++ 13 :: 10 :: v ++ [13, 10]).length = s.length + v.length + 4 := by simp only [List.length_append, List.length_cons, List.length_nil]; omega
  have e4 : s ++ 13 :: 10 :: v = (s ++ [13, 10]) ++ v := by simp
  have l4 : (s ++ [13, 10]).length = s.length + 2 := by simp
  refine ⟨List.take_left, ?_, ?_, ?_, ?_⟩
  · simp only [List.length_append, List.length_cons]; omega
  · rw [e, ← l2]; exact at_mid _ _
  · rw [e, ← l2, List.take_left, e4, ← l4, List.drop_left]
  · rw [e, e3, ← l3, List.drop_left]
theorem isV_end : isV (cutS endW) = false := by decide
/-- the lines of good items, and END behind them -/
theorem chain_fwd (b more : List UInt8) : ∀ (ys : List Itm) (f at_ : Nat) (xs : List Itm), ys.length < f → xs.length + ys.length ≤ 8 → (∀ y ∈ ys, y.good ∧ plainL y.key.data.toList = true) → b.drop at_ = ys.flatMap vline ++ (endW ++ 13 :: 10 :: more) →
    readP 1 b f at_ xs = .items (xs ++ ys) (at_ + (ys.flatMap vline).length + 5)
  | [], 0, _, _, h, _, _, _ => by simp at h
  | [], f + 1, at_, xs, _, _, _, hb => by
    have hb' : b.drop at_ = endW ++ 13 :: 10 :: more := hb
    have hc := crlf_line (s := endW) (r := more) (by decide) (by decide)
    rw [← hb'] at hc
    rw [readP_pos hc (s := endW) (by rw [hb']; exact List.take_left), if_neg (fun h => by rw [isV_end] at h; cases h.2.1)]
    unfold lastP
    rw [if_pos ⟨rfl, rfl⟩, List.append_nil]; rfl
  | y :: ys, 0, _, _, h, _, _, _ => by simp at h
  | y :: ys, f + 1, at_, xs, hf, h8, hg, hb => by
    obtain ⟨g, hp⟩ := hg y (List.mem_cons_self ..)
    rw [List.length_cons] at hf h8
    have hb' : b.drop at_ = vhead y ++ 13 :: 10 :: (y.val.data.toList ++ 13 :: 10 :: (ys.flatMap vline ++ (endW ++ 13 :: 10 :: more))) := by
      rw [hb, List.flatMap_cons, List.append_assoc, vline_eq]
    obtain ⟨t1, t2, t3, t4, t5⟩ := four (vhead y) y.val.data.toList (ys.flatMap vline ++ (endW ++ 13 :: 10 :: more))
    have hl := vhead_len g
    have hc := crlf_line (s := vhead y) (r := y.val.data.toList ++ 13 :: 10 :: (ys.flatMap vline ++ (endW ++ 13 :: 10 :: more))) (vhead_no hp) (by omega)
    rw [← hb'] at hc t1 t2 t3 t4 t5
    obtain ⟨f1, f2, f3⟩ := line_fwd g hp
    rw [readP_pos hc t1, vhead_cut hp, f3, ← key_len y.val, if_pos ⟨rfl, f1, by omega⟩, if_neg (by omega), if_neg (fun h => h t3), t4]
    have hd : b.drop (at_ + ((vhead y).length + y.val.data.toList.length + 4)) = ys.flatMap vline ++ (endW ++ 13 :: 10 :: more) := by rw [← List.drop_drop, t5]
    rw [f2, chain_fwd b more ys f _ (xs ++ [y]) (by omega) (by rw [List.length_append, List.length_singleton]; omega) (fun z hz => hg z (List.mem_cons_of_mem _ hz)) hd]
    have hv : (vline y).length = (vhead y).length + y.val.data.toList.length + 4 := by
      have := congrArg List.length (vline_eq y [])
      simp only [List.append_nil, List.length_append, List.length_cons, List.length_nil] at this
      omega
    rw [List.append_assoc, List.flatMap_cons, List.length_append, hv]
    show Got.items (xs ++ (y :: ys)) _ = Got.items (xs ++ (y :: ys)) _
    congr 1
    omega
end Go.Proofs.YthofbmfcpfibdaaDoor

set_option maxRecDepth 20000
namespace Go.Proofs.YthofbmfcpfibdaaDoor
open Go.Ev

/-! ### an answer of one line: there and back (plain) -/
theorem str_nil {s : ByteArray} (h : s.size = 0) : s = strB [] := by
  obtain ⟨d⟩ := s
  have : d = #[] := Array.eq_empty_of_size_eq_zero h
  rw [this]; rfl
theorem word_facts : ∀ i, i < 8 → 2 ≤ i → (32 : UInt8) ∉ wordB.getD i [] ∧ (13 : UInt8) ∉ wordB.getD i [] ∧ (wordB.getD i []).length ≤ 20 ∧ whr (wordB.getD i []) wordB 0 = (i : Int) ∧ wordB.getD i [] ≠ endW := by decide
theorem row_facts : ∀ k, k < 12 → 2 ≤ k → (32 : UInt8) ∉ rowB k ∧ (13 : UInt8) ∉ rowB k ∧ (rowB k).length ≤ 20 ∧ ¬ 0 < whr (rowB k) wordB 0 ∧ rowB k ≠ endW := by decide
/-- what may be said in one line -/
structure OneLine (a : Ans) : Prop where
  read : lineA a.of.toNat (cutS (linesL a)) = some (withIv a (.slice none 0 0))
  items : a.r.items = []
  no : (13 : UInt8) ∉ linesL a
  len : (linesL a).length ≤ 512
  last : ¬ (a.of.toNat = 1 ∧ linesL a = endW)
  item : ¬ (a.of.toNat = 1 ∧ isV (cutS (linesL a)) = true)
theorem isV_len {ws : List (List UInt8)} (h : isV ws = true) : ws.length = 6 := by
  unfold isV headV at h
  simp only [Bool.and_eq_true, decide_eq_true_eq] at h
  exact h.1.1
theorem isRow_row {k : Nat} (h1 : 1 ≤ k) (h2 : k ≤ 11) : isRow (rowB k) k = true := by
  unfold isRow knownB
  rw [decide_eq_true h1, decide_eq_true h2, decide_eq_true rfl]; rfl
theorem known_of {k : Nat} (h1 : 1 ≤ k) (h2 : k ≤ 11) : knownB k = true := by
  unfold knownB
  rw [decide_eq_true h1, decide_eq_true h2]; rfl
theorem nil_of {l : List Itm} (h : ¬ 0 < (l.length : Int)) : l = [] := List.length_eq_zero_iff.1 (by omega)
theorem fwd_res {a : Ans} {k i : Nat} {iv : Value} (e : a = ⟨1, k, ⟨i, iv, 0, []⟩, false, strB []⟩) (h1 : 1 ≤ k) (h2 : k ≤ 11) (i2 : 2 ≤ i) (i8 : i < 8) : OneLine a := by
  obtain ⟨f1, f2, f3, f4, f5⟩ := word_facts i i8 i2
  have hl : linesL a = wordB.getD i [] := by
    rw [e]
    unfold linesL
    rw [if_pos (show (1 : Int) = 1 from rfl), if_neg (show ¬ (i : Int) = 1 by omega)]
    show (wordN.getD i (strB [])).data.toList = _
    have := wordV i i8
    injection this with this
    rw [this]
  have hc : cutS (linesL a) = [wordB.getD i []] := by rw [hl]; exact cutS_one _ f1
  have hk : a.of.toNat = k := by rw [e]; rfl
  refine ⟨?_, by rw [e], by rw [hl]; exact f2, by rw [hl]; omega, by rw [hl]; exact fun h => f5 h.2, fun h => by have := isV_len h.2; rw [hc] at this; cases this⟩
  rw [hc, hk]
  unfold lineA
  have e2 : ([wordB.getD i []] : List (List UInt8)).getD 0 [] = wordB.getD i [] := rfl
  rw [e2, f4, if_pos ⟨rfl, by omega⟩, if_pos (known_of h1 h2), e]
  rfl
theorem fwd_row {a : Ans} {k m : Nat} {iv : Value} (e : a = ⟨1, k, ⟨1, iv, m, []⟩, false, strB []⟩) (h1 : 2 ≤ k) (h2 : k ≤ 11) (hm : m < 18446744073709551616) (hn : countsB k = false → m = 0) (h10 : k = 10 → m ≤ 8) : OneLine a := by
  obtain ⟨f1, f2, f3, f4, f5⟩ := row_facts k (by omega) h1
  have hk : a.of.toNat = k := by rw [e]; rfl
  have hl0 : linesL a = rowB k ++ cntL k m := by
    rw [e]
    unfold linesL
    rw [if_pos (show (1 : Int) = 1 from rfl), if_pos (show (1 : Int) = 1 from rfl)]
    rfl
  cases hc : countsB k with
  | false =>
    have hl : linesL a = rowB k := by
      rw [hl0]; unfold cntL; rw [if_neg (by rw [hc]; simp), List.append_nil]
    have hcu : cutS (linesL a) = [rowB k] := by rw [hl]; exact cutS_one _ f1
    refine ⟨?_, by rw [e], by rw [hl]; exact f2, by rw [hl]; omega, by rw [hl]; exact fun h => f5 h.2, fun h => by omega⟩
    rw [hcu, hk]
    unfold lineA
    have e2 : ([rowB k] : List (List UInt8)).getD 0 [] = rowB k := rfl
    rw [e2, if_neg (show ¬ (([rowB k] : List (List UInt8)).length = 1 ∧ 0 < whr (rowB k) wordB 0) from fun h => f4 h.2), if_pos (show isRow (rowB k) k = true ∧ rowB k ≠ endW from ⟨isRow_row (by omega) h2, f5⟩), if_pos hc, if_pos (show ([rowB k] : List (List UInt8)).length = 1 from rfl), e, hn hc]
    rfl
  | true =>
    have hl : linesL a = rowB k ++ 32 :: dec m := by
      rw [hl0]; unfold cntL; rw [if_pos hc]; rfl
    have hcu : cutS (linesL a) = [rowB k, dec m] := by rw [hl, cutS_app _ _ f1, cutS_one _ (dec_no m).1]
    have hd := dec_len 19 m (by omega)
    refine ⟨?_, by rw [e], ?_, by rw [hl, List.length_append, List.length_cons]; omega, fun h => by omega, fun h => by omega⟩
    · rw [hcu, hk]
      obtain ⟨i1, g1⟩ := numI_dec (ws := [rowB k, dec m]) (i := 1) (m := 18446744073709551615) (n := m) rfl (by omega) hm
      unfold lineA
      have e2 : ([rowB k, dec m] : List (List UInt8)).getD 0 [] = rowB k := rfl
      have e3 : ([rowB k, dec m] : List (List UInt8)).length = 2 := rfl
      rw [e2, e3, i1, g1, if_neg (show ¬ (2 = 1 ∧ 0 < whr (rowB k) wordB 0) from fun h => f4 h.2), if_pos (show isRow (rowB k) k = true ∧ rowB k ≠ endW from ⟨isRow_row (by omega) h2, f5⟩), if_neg (by rw [hc]; simp), if_neg (show ¬ 2 ≠ 2 from fun h => h rfl), if_pos (show true = true ∧ (k ≠ 10 ∨ m ≤ 8) from ⟨rfl, by by_cases h : k = 10; exact .inr (h10 h); exact .inl h⟩), e]
      rfl
    · rw [hl, List.mem_append, List.mem_cons]
      rintro (h | h | h)
      · exact f2 h
      · exact absurd h (by decide)
      · exact (dec_no m).2 h
theorem fwd_bare {a : Ans} {kd : Int} {y : Bool} {iv : Value} (e : a = ⟨kd, 0, ⟨0, iv, 0, []⟩, y, strB []⟩) (h1 : 2 ≤ kd) (h2 : kd ≤ 6) (hy : y = true → kd = 2 ∨ kd = 3) : OneLine a := by
  have : kd = 2 ∨ kd = 3 ∨ kd = 4 ∨ kd = 5 ∨ kd = 6 := by omega
  have hl : linesL a = linesL (bareA kd y) := by rw [e]; unfold linesL; rfl
  have hk : a.of.toNat = 0 := by rw [e]; rfl
  have key : lineA 0 (cutS (linesL (bareA kd y))) = some (bareA kd y) ∧ (13 : UInt8) ∉ linesL (bareA kd y) ∧ (linesL (bareA kd y)).length ≤ 512 := by
    rcases this with rfl | rfl | rfl | rfl | rfl <;> cases y <;> first
      | (exfalso; have := hy rfl; omega)
      | exact ⟨rfl, by decide, by decide⟩
  refine ⟨?_, by rw [e], by rw [hl]; exact key.2.1, by rw [hl]; exact key.2.2, fun h => by omega, fun h => by omega⟩
  rw [hl, hk, key.1, e]
  rfl
theorem fwd_push {a : Ans} {key : ByteArray} {iv : Value} (e : a = ⟨7, 0, ⟨0, iv, 0, []⟩, false, key⟩) (h1 : 1 ≤ key.size) (h2 : key.size ≤ 32) (hp : plainL key.data.toList = true) : OneLine a := by
  have hl : linesL a = pushW ++ 32 :: key.data.toList := by rw [e]; rfl
  obtain ⟨n1, n2⟩ := plain_no hp
  have hcu : cutS (linesL a) = [pushW, key.data.toList] := by rw [hl, cutS_app _ _ (by decide), cutS_one _ n1]
  have hk : a.of.toNat = 0 := by rw [e]; rfl
  refine ⟨?_, by rw [e], ?_, by rw [hl, List.length_append, List.length_cons, key_len]; show 4 + (key.size + 1) ≤ 512; omega, fun h => by omega, fun h => by omega⟩
  · rw [hcu, hk]
    unfold lineA
    have e2 : ([pushW, key.data.toList] : List (List UInt8)).getD 0 [] = pushW := rfl
    have e3 : ([pushW, key.data.toList] : List (List UInt8)).getD 1 [] = key.data.toList := rfl
    have e4 : ([pushW, key.data.toList] : List (List UInt8)).length = 2 := rfl
    have hkw : keyW key.data.toList = true := by unfold keyW; rw [hp, key_len, decide_eq_true h1, decide_eq_true h2]; rfl
    rw [e2, e3, e4, if_neg (show ¬ (2 = 1 ∧ 0 < whr pushW wordB 0) from fun h => absurd h.1 (by decide)), if_neg (show ¬ (isRow pushW 0 = true ∧ pushW ≠ endW) from fun h => absurd h.1 (by decide)), if_pos (show 2 = 2 ∧ pushW = pushW from ⟨rfl, rfl⟩), if_pos hkw, e]
    rfl
  · rw [hl, List.mem_append, List.mem_cons]
    rintro (h | h | h)
    · exact absurd h (by decide)
    · exact absurd h (by decide)
    · exact n2 h
/-- an answer that may be written, but for items: it is one line -/
theorem lines_fwd {a : Ans} (hw : writeB a = true) (hf : a.fit) (hn : ¬ (a.kind = 1 ∧ a.r.kind = 1 ∧ a.of = 1)) : OneLine a := by
  unfold writeB at hw
  obtain ⟨hm, hkp⟩ := (Bool.and_eq_true _ _ ▸ hw : _ ∧ _)
  obtain ⟨kd, of, ⟨rk, iv, num, items⟩, yes, key⟩ := a
  obtain ⟨fn, fi⟩ := hf
  unfold mayB bodyB keyB yesB zeroB resultB kindsB manyB numB numB2 at hm
  simp only at hm hn fn
  by_cases h1 : kd = 1
  · subst h1
    simp only [if_true, Bool.and_eq_true, Bool.not_eq_true', Bool.or_eq_false_iff, decide_eq_false_iff_not, Bool.and_eq_false_iff, Bool.not_eq_false', decide_eq_true_eq] at hm
    obtain ⟨⟨⟨⟨⟨⟨⟨⟨k1, k2⟩, k3⟩, k4⟩, m1, m2⟩, n1, n2⟩, gi⟩, hkey⟩, hyes⟩ := hm
    have hkey' : key.size = 0 := by
      have : ¬ ((1 : Int) = 7) := by decide
      rw [if_neg this] at hkey
      have := of_decide_eq_true hkey
      omega
    have hy : yes = false := by
      rcases hyes with (h | h) | h
      · exact h
      · exact absurd h (by decide)
      · exact absurd h (by decide)
    subst hy
    obtain rfl := str_nil hkey'
    obtain ⟨k, rfl⟩ : ∃ k : Nat, of = k := ⟨of.toNat, by omega⟩
    obtain ⟨i, rfl⟩ : ∃ i : Nat, rk = i := ⟨rk.toNat, by omega⟩
    obtain ⟨m, rfl⟩ : ∃ m : Nat, num = m := ⟨num.toNat, by omega⟩
    by_cases hi : i = 1
    · subst hi
      have hk : ¬ k = 1 := fun h => hn ⟨rfl, rfl, by omega⟩
      have hit : items = [] := by
        rcases m1 with h | h
        · exact nil_of h
        · exact absurd h.2 (by omega)
      subst hit
      refine fwd_row rfl (by omega) (by omega) (by omega) (fun hc => ?_) fun h10 => ?_
      · rcases n1 with h | h
        · omega
        · have := h.2
          rw [hc] at this; cases this
      · rcases n2 with h | h
        · exact absurd (show (k : Int) = 10 by omega) h
        · omega
    · have hit : items = [] := by
        rcases m1 with h | h
        · exact nil_of h
        · exact absurd h.1 (by omega)
      subst hit
      have hm0 : m = 0 := by
        rcases n1 with h | h
        · omega
        · exact absurd h.1 (by omega)
      subst hm0
      exact fwd_res (k := k) (i := i) rfl (by omega) (by omega) (by omega) (by omega)
  · simp only [if_neg h1, Bool.and_eq_true, Bool.not_eq_true', decide_eq_true_eq, Bool.and_eq_false_iff, Bool.not_eq_false'] at hm
    obtain ⟨⟨⟨⟨k1, k2⟩, ⟨⟨z1, z2⟩, z3⟩, z4⟩, hkey⟩, hyes⟩ := hm
    subst z1; subst z2; subst z3
    have hit : items = [] := nil_of (by omega)
    subst hit
    by_cases h7 : kd = 7
    · subst h7
      rw [if_pos rfl] at hkey
      obtain ⟨q1, q2⟩ := (Bool.and_eq_true _ _ ▸ hkey : _ ∧ _)
      have q1 := of_decide_eq_true q1
      have q2 := of_decide_eq_true q2
      have hy : yes = false := by
        rcases hyes with (h | h) | h
        · exact h
        · exact absurd h (by decide)
        · exact absurd h (by decide)
      subst hy
      unfold keysB at hkp
      exact fwd_push rfl (by omega) (by omega) (Bool.and_eq_true _ _ ▸ hkp : _ ∧ _).1
    · rw [if_neg h7] at hkey
      have := of_decide_eq_true hkey
      obtain rfl := str_nil (s := key) (by omega)
      refine fwd_bare rfl (by omega) (by omega) fun hy => ?_
      rcases hyes with (h | h) | h
      · rw [hy] at h; cases h
      · exact .inl h
      · exact .inr h
end Go.Proofs.YthofbmfcpfibdaaDoor

namespace Go.Proofs.YthofbmfcpfibdaaDoor
open Go.Ev

theorem got_shape {a : Ans} (hm : mayB a = true) (h1 : a.kind = 1) (h2 : a.r.kind = 1) (h3 : a.of = 1) : ∀ iv, withIv (getA 1 a.r.items (.slice none 0 0)) iv = withIv a iv := by
  obtain ⟨kd, of, ⟨rk, iv, num, items⟩, yes, key⟩ := a
  unfold mayB bodyB keyB yesB zeroB resultB kindsB manyB numB numB2 at hm
  simp only at hm h1 h2 h3
  subst h1; subst h2; subst h3
  simp only [if_true, Bool.and_eq_true, Bool.not_eq_true', Bool.or_eq_false_iff, decide_eq_false_iff_not, Bool.and_eq_false_iff, Bool.not_eq_false', decide_eq_true_eq] at hm
  obtain ⟨⟨⟨⟨⟨⟨⟨⟨k1, k2⟩, k3⟩, k4⟩, m1, m2⟩, n1, n2⟩, gi⟩, hkey⟩, hyes⟩ := hm
  have hkey' : key.size = 0 := by
    have : ¬ ((1 : Int) = 7) := by decide
    rw [if_neg this] at hkey
    have := of_decide_eq_true hkey
    omega
  have hy : yes = false := by
    rcases hyes with (h | h) | h
    · exact h
    · exact absurd h (by decide)
    · exact absurd h (by decide)
  have hn : num = 0 := by
    rcases n1 with h | h
    · omega
    · exact absurd h.2 (by decide)
  subst hy; subst hn
  obtain rfl := str_nil hkey'
  intro iv'
  rfl
/-- what is written is read again, whatever comes behind (plain) -/
theorem back_plain {a : Ans} (hw : writeB a = true) (hf : a.fit) (more : List UInt8) (hm : more.length ≤ 8000) :
    ∀ G, readAll a.of.toNat ((linesL a ++ [13, 10]) ++ more) = G → G.e = 0 ∧ G.n = ((linesL a ++ [13, 10]).length : Int) ∧ ∀ iv, withIv (G.a a.of.toNat) iv = withIv a iv := by
  have hw' := hw
  unfold writeB at hw'
  obtain ⟨hmy, hkp⟩ := (Bool.and_eq_true _ _ ▸ hw' : _ ∧ _)
  have my := may_of hmy
  have hlen := linesL_len my hf
  intro G hG
  unfold readAll at hG
  rw [if_neg (by simp only [List.length_append, List.length_cons, List.length_nil]; omega)] at hG
  have eb : (linesL a ++ [13, 10]) ++ more = linesL a ++ 13 :: 10 :: more := by simp
  rw [eb] at hG
  by_cases hn : a.kind = 1 ∧ a.r.kind = 1 ∧ a.of = 1
  · obtain ⟨h1, h2, h3⟩ := hn
    have hl : linesL a = a.r.items.flatMap vline ++ endW := by
      unfold linesL
      rw [if_pos h1, if_pos h2, h3]
      show doneL a 1 = _
      unfold doneL
      have e1 : rowL 1 = endW := rfl
      have e2 : cntL 1 a.r.num = [] := rfl
      rw [e1, e2, List.append_nil]
    have hk : a.of.toNat = 1 := by rw [h3]; rfl
    rw [hk] at hG ⊢
    have hd : (linesL a ++ 13 :: 10 :: more).drop 0 = a.r.items.flatMap vline ++ (endW ++ 13 :: 10 :: more) := by rw [List.drop_zero, hl, List.append_assoc]
    have hc := chain_fwd (linesL a ++ 13 :: 10 :: more) more a.r.items 9 0 [] (by have := my.few; omega) (by have := my.few; simpa using this) (fun y hy => ⟨⟨hf.items y hy, my.good y hy⟩, by
      unfold keysB at hkp
      exact List.all_eq_true.1 (Bool.and_eq_true _ _ ▸ hkp : _ ∧ _).2 y hy⟩) hd
    rw [hc] at hG
    subst hG
    refine ⟨rfl, ?_, got_shape hmy h1 h2 h3⟩
    show (((0 + (a.r.items.flatMap vline).length + 5 : Nat)) : Int) = _
    rw [hl]
    simp only [List.length_append]
    show _ = (((a.r.items.flatMap vline).length + 3 + 2 : Nat) : Int)
    omega
  · obtain ⟨o1, o2, o3, o4, o5, o6⟩ := lines_fwd hw hf hn
    have hc := crlf_line (s := linesL a) (r := more) o3 o4
    have hc' : crlf (((linesL a ++ 13 :: 10 :: more).drop 0).take 514) = ((linesL a).length : Int) := by rw [List.drop_zero]; exact hc
    rw [readP_pos hc' (s := linesL a) (by rw [List.drop_zero]; exact List.take_left), if_neg (fun h => o6 ⟨h.1, h.2.1⟩)] at hG
    unfold lastP at hG
    rw [if_neg o5, o1] at hG
    have hg : Got.line (withIv a (.slice none 0 0)) ((linesL a).length + 2) = G := hG
    subst hg
    refine ⟨rfl, ?_, fun iv => rfl⟩
    show (((linesL a).length + 2 : Nat) : Int) = _
    rw [List.length_append]; rfl
end Go.Proofs.YthofbmfcpfibdaaDoor
