import Derived.Test.YthofbmfcpfibdaaDoorWrO
set_option linter.unusedSimpArgs false
set_option linter.unusedVariables false
set_option maxRecDepth 100000
namespace Go.Proofs.YthofbmfcpfibdaaDoor
open Go.Ev

def withIv (a : Ans) (iv : Value) : Ans := { a with r := { a.r with iv := iv } }
def chain : List Bool → Option Bool
  | [] => some true
  | b :: r => match some b with
    | some true => chain r
    | some false => some false
    | none => none
theorem eqv_item (k v : ByteArray) (f u q : Int) : eqV Tryd.prog 200 48 (.agg #[.string k, .string v, .int .u32 f, .int .i64 u, .int .u64 q]) (.agg #[.string k, .string v, .int .u32 f, .int .i64 u, .int .u64 q]) = chain [leB k.data.toList k.data.toList, leB v.data.toList v.data.toList, iEq f f, iEq u u, iEq q q] := by kernel_rfl
theorem guard48 : Program.eqGuardType Tryd.prog (Program.depth Tryd.prog) 48 = false := by kernel_rfl
theorem item_neq (x : Itm) : binV Tryd.prog .neq 48 false x.v x.v = some (.bool false) := by
  show aggEq Tryd.prog .neq 48 x.v x.v = _
  unfold aggEq
  rw [guard48]
  show boolRes .neq (eqV Tryd.prog 200 48 x.v x.v) = _
  have := eqv_item x.key x.val x.flags x.till x.uniq
  rw [show x.v = .agg #[.string x.key, .string x.val, .int .u32 x.flags, .int .i64 x.till, .int .u64 x.uniq] from rfl, this]
  simp only [leB_eq, iEq_dec, decide_true, beq_self_eq_true, chain]
  rfl

/-- two results that hold the same are the same -/
theorem res_same (L n : Nat) (kd nm : Int) (v1 v2 : Value) (l : List Itm) (h : H) (i1 : ItemsAt h v1 l) (i2 : ItemsAt h v2 l) (hL : l.length < L) (hl : l.length < 1000000) :
    Sp (CF L (n + 1)) 36 [.agg [.int .u8 kd, v1, .int .u64 nm].toArray, .agg [.int .u8 kd, v2, .int .u64 nm].toArray] h fun r h' => r = .bool true ∧ Keep nobody h h' := by
  refine Sp.body f36 (by simp) ?_
  have k1 := Keep.new h (.rw [.int .u8 kd, v1, .int .u64 nm] (some 25))
  have b1 := Has.new h (.rw [.int .u8 kd, v1, .int .u64 nm] (some 25))
  have n1 : (h.new (.rw [.int .u8 kd, v1, .int .u64 nm] (some 25))).next = h.next + 1 := rfl
  unfold c36
  refine C.seq fun K hK => ?_
  simp only [↓reduceIte, ↓EW, EV, Nat.reduceAdd, Nat.reduceEqDiff, r36_0]
  generalize h.new (.rw [.int .u8 kd, v1, .int .u64 nm] (some 25)) = h1 at *
  have k2 := Keep.new h1 (.rw [.int .u8 kd, v2, .int .u64 nm] (some 25))
  have b2 := Has.new h1 (.rw [.int .u8 kd, v2, .int .u64 nm] (some 25))
  generalize h1.new (.rw [.int .u8 kd, v2, .int .u64 nm] (some 25)) = h2 at *
  have b1' := b1.keep0 k2
  have k12 := k1.then k2
  have ld1 : ∀ hx, Keep nobody h2 hx → ∀ o s, loadOne hx (.pointer (some ⟨h.next, o, s⟩)) = [.int .u8 kd, v1, .int .u64 nm][o]? := fun hx k o s => loadOne_has (b1'.keep0 k) rfl
  have ld2 : ∀ hx, Keep nobody h2 hx → ∀ o s, loadOne hx (.pointer (some ⟨h1.next, o, s⟩)) = [.int .u8 kd, v2, .int .u64 nm][o]? := fun hx k o s => loadOne_has (b2.keep0 k) rfl
  have r2 := Keep.refl nobody h2
  refine hK _ _ _ (C.seq (C.seq fun K hK => ?_))
  simp only [↓opStep_eq, ↓reduceIte, ↓EW, EV, Nat.reduceEqDiff, r36_1, ld1 _ r2, ld2 _ r2, i1.len, i2.len]
  refine hK _ _ _ (C.cond false (by simp only [↓reduceIte, EV]) (fun h => by cases h) fun _ => C.skip ?_)
  refine C.seq (C.seq fun K hK => hK .norm _ _ ?_)
  refine C.block (C.loop (fun k tm' hx => ∃ i, k = l.length - i ∧ i ≤ l.length ∧ tg tm' 2 = .pointer (some ⟨h.next, 0, none⟩) ∧ tg tm' 3 = .pointer (some ⟨h1.next, 0, none⟩) ∧ tg tm' 5 = .int .i64 (i : Int) ∧ Keep nobody h2 hx) l.length hL
    ⟨0, rfl, by omega, by simp only [↓reduceIte, EV, Nat.reduceEqDiff], by simp only [↓reduceIte, EV, Nat.reduceEqDiff], by simp only [↓reduceIte, EV] <;> rfl, r2⟩ ?_)
  rintro k tm' hx ⟨i, rfl, hi, t2, t3, t5, kx⟩
  unfold l36_8
  refine C.seq (C.seq fun K hK => ?_)
  simp only [EV, r36_4, t2, t5, ld1 _ kx, i1.len]
  refine hK _ _ _ (C.cond (decide ((i : Int) < (l.length : Int))) (by simp only [↓reduceIte, EV]) (fun g => C.skip ?_) fun g => C.exit ?_)
  · have g : i < l.length := by have := of_decide_eq_true g; omega
    obtain ⟨x, hxx⟩ : ∃ x, l[i]? = some x := ⟨l[i]'g, List.getElem?_eq_getElem g⟩
    have kr := keep_room hx 11
    have kxr := kx.then kr
    have k2r := k12.then kxr
    obtain ⟨c1, o1, e1, _, _, _, a1⟩ := (i1.keep0 k2r).at hxx
    obtain ⟨c2, o2, e2, _, _, _, a2⟩ := (i2.keep0 k2r).at hxx
    refine C.seq (C.block (C.seq fun K hK => ?_))
    simp only [↓reduceIte, EV, Nat.reduceEqDiff, r36_6, t2, t3, t5, ld1 _ kxr, ld2 _ kxr, e1, e2, a1, a2, item_neq]
    refine hK _ _ _ (C.cond false (by simp only [↓reduceIte, EV]) (fun h => by cases h) fun _ => C.skip fun K hK => ?_)
    have hw : IntKind.i64.wrap ((i : Int) + 1) = ((i + 1 : Nat) : Int) := by
      exact wrap_succ i (by omega)
    simp only [↓reduceIte, EV, Nat.reduceEqDiff, r36_5, t5, hw]
    exact hK _ _ _ ⟨l.length - (i + 1), by omega, i + 1, rfl, by omega, by simp only [↓reduceIte, EV, Nat.reduceEqDiff, t2], by simp only [↓reduceIte, EV, Nat.reduceEqDiff, t3], by simp only [↓reduceIte, EV], kxr⟩
  · simp only [if_pos]
    refine C.seq fun K hK => ?_
    simp only [r36_8]
    exact hK _ _ _ (C.ret ⟨.inr rfl, _, rfl, by simp only [↓reduceIte, EV]; rfl, k12.then kx⟩)
/-- two answers that hold the same are the same -/
theorem ans_same (L n : Nat) (a : Ans) (v1 v2 : Value) (h : H) (i1 : ItemsAt h v1 a.r.items) (i2 : ItemsAt h v2 a.r.items) (hL : a.r.items.length < L) (hl : a.r.items.length < 1000000) :
    Sp (CF L (n + 2)) 15 [(withIv a v1).v, (withIv a v2).v] h fun r h' => r = .bool true ∧ Keep nobody h h' := by
  refine Sp.body f15 (by simp) ?_
  have hc1 : (Value.cells (withIv a v1).v).toList = [.int .u8 a.kind, .int .u8 a.of, .int .u8 a.r.kind, v1, .int .u64 a.r.num, .bool a.yes, .string a.key] := rfl
  have hc2 : (Value.cells (withIv a v2).v).toList = [.int .u8 a.kind, .int .u8 a.of, .int .u8 a.r.kind, v2, .int .u64 a.r.num, .bool a.yes, .string a.key] := rfl
  have k1 := Keep.new h (.rw [.int .u8 a.kind, .int .u8 a.of, .int .u8 a.r.kind, v1, .int .u64 a.r.num, .bool a.yes, .string a.key] (some 27))
  have b1 := Has.new h (.rw [.int .u8 a.kind, .int .u8 a.of, .int .u8 a.r.kind, v1, .int .u64 a.r.num, .bool a.yes, .string a.key] (some 27))
  unfold c15
  refine C.seq fun K hK => ?_
  simp only [↓reduceIte, ↓EW, EV, Nat.reduceAdd, Nat.reduceEqDiff, r15_0, hc1]
  generalize h.new (.rw [.int .u8 a.kind, .int .u8 a.of, .int .u8 a.r.kind, v1, .int .u64 a.r.num, .bool a.yes, .string a.key] (some 27)) = h1 at *
  have k2 := Keep.new h1 (.rw [.int .u8 a.kind, .int .u8 a.of, .int .u8 a.r.kind, v2, .int .u64 a.r.num, .bool a.yes, .string a.key] (some 27))
  have b2 := Has.new h1 (.rw [.int .u8 a.kind, .int .u8 a.of, .int .u8 a.r.kind, v2, .int .u64 a.r.num, .bool a.yes, .string a.key] (some 27))
  simp only [hc2]
  generalize h1.new (.rw [.int .u8 a.kind, .int .u8 a.of, .int .u8 a.r.kind, v2, .int .u64 a.r.num, .bool a.yes, .string a.key] (some 27)) = h2 at *
  have b1' := b1.keep0 k2
  have k12 := k1.then k2
  have ld1 : ∀ hx, Keep nobody h2 hx → ∀ o s, loadOne hx (.pointer (some ⟨h.next, o, s⟩)) = [.int .u8 a.kind, .int .u8 a.of, .int .u8 a.r.kind, v1, .int .u64 a.r.num, .bool a.yes, .string a.key][o]? := fun hx k o s => loadOne_has (b1'.keep0 k) rfl
  have ld2 : ∀ hx, Keep nobody h2 hx → ∀ o s, loadOne hx (.pointer (some ⟨h1.next, o, s⟩)) = [.int .u8 a.kind, .int .u8 a.of, .int .u8 a.r.kind, v2, .int .u64 a.r.num, .bool a.yes, .string a.key][o]? := fun hx k o s => loadOne_has (b2.keep0 k) rfl
  have la1 : ∀ s, loadAgg 3 h2 (.pointer (some ⟨h.next, 2, s⟩)) = some (.agg [.int .u8 a.r.kind, v1, .int .u64 a.r.num].toArray) := fun s => loadAgg_has b1' rfl (by simp)
  have la2 : ∀ s, loadAgg 3 h2 (.pointer (some ⟨h1.next, 2, s⟩)) = some (.agg [.int .u8 a.r.kind, v2, .int .u64 a.r.num].toArray) := fun s => loadAgg_has b2 rfl (by simp)
  have r2 := Keep.refl nobody h2
  have hb : ∀ (t : TypeId) (c x : Bool), Tryd.prog.underlying t = some .bool → binV Tryd.prog .eql t c (.bool x) (.bool x) = some (.bool true) := fun t c x ht => by
    show boolRes .eql (match Tryd.prog.underlying t with | some .bool => some (bEq x x) | _ => none) = _
    rw [ht]; cases x <;> rfl
  have hb4 := fun x => hb 4 false x (by kernel_rfl)
  have hs : binV Tryd.prog .eql 9 false (.string a.key) (.string a.key) = some (.bool true) := by rw [strV_eql, leB_eq]; simp
  refine hK _ _ _ (C.seq fun K hK => ?_)
  simp only [↓opStep_eq, ↓reduceIte, ↓EW, EV, Nat.reduceEqDiff, r15_1, ld1 _ r2, ld2 _ r2, la1, la2]
  refine res_same L n a.r.kind a.r.num v1 v2 a.r.items h2 (i1.keep0 k12) (i2.keep0 k12) hL hl _ fun r h3 hv => ?_
  obtain ⟨rfl, k3⟩ := hv
  simp only [↓reduceIte, EV, ld1 _ k3, ld2 _ k3, hb4, hs]
  exact hK _ _ _ (C.ret ⟨.inr rfl, _, rfl, by simp only [↓reduceIte, EV]; rfl, k12.then k3⟩)

end Go.Proofs.YthofbmfcpfibdaaDoor

namespace Go.Proofs.YthofbmfcpfibdaaDoor
open Go.Ev

/-! ### the document's answer of one line: plain -/
def wiS (s : List UInt8) : Int := whr s (wordB.drop 2) 2
def oneA (k : Nat) (s : List UInt8) : Option Ans :=
  if 0 < wiS s then (if knownB k = true then some (resA k (wiS s)) else none)
  else if isRow ((cutS s).getD 0 []) k = true ∧ (cutS s).getD 0 [] ≠ endW then rowO k (cutS s)
  else if (cutS s).getD 0 [] = pushW then (if (cutS s).length = 2 then pushO (cutS s) else none)
  else bareF s bareT
theorem whr_none (k : List UInt8) : ∀ (l : List (List UInt8)) (i : Nat), k ∉ l → whr k l i = -1
  | [], _, _ => rfl
  | p :: r, i, h => by
    show (if k = p then (i : Int) else whr k r (i + 1)) = -1
    rw [if_neg fun e => h (by rw [e]; exact List.mem_cons_self ..)]
    exact whr_none k r (i + 1) fun hm => h (List.mem_cons_of_mem _ hm)
theorem bare_none (s : List UInt8) : ∀ (T : List (List UInt8 × Ans)), (∀ p ∈ T, s ≠ p.1) → bareF s T = none
  | [], _ => rfl
  | (k, a) :: r, h => by
    show (if s = k then some a else bareF s r) = none
    rw [if_neg (h (k, a) (List.mem_cons_self ..))]
    exact bare_none s r fun p hp => h p (List.mem_cons_of_mem _ hp)
theorem wi_eq (s : List UInt8) : (0 < whr s wordB 0 ∧ 0 < wiS s ∧ whr s wordB 0 = wiS s) ∨ (¬ 0 < whr s wordB 0 ∧ ¬ 0 < wiS s) := by
  have e : whr s wordB 0 = if s = [] then 0 else wiS s := by
    show (if s = [] then ((0 : Nat) : Int) else if s = [] then ((0 + 1 : Nat) : Int) else whr s (wordB.drop 2) 2) = _
    by_cases h : s = []
    · rw [if_pos h, if_pos h]; rfl
    · rw [if_neg h, if_neg h, if_neg h]; rfl
  by_cases h : s = []
  · subst h
    right
    exact ⟨by decide, by decide⟩
  · rw [if_neg h] at e
    by_cases g : 0 < wiS s
    · exact .inl ⟨by rw [e]; exact g, g, e⟩
    · exact .inr ⟨by rw [e]; exact g, g⟩
theorem one_eq (k : Nat) (s : List UInt8) : oneA k s = lineA k (cutS s) := by
  rw [lineA_eq]
  unfold oneA bareO
  rcases split32 s with h | ⟨q, r, rfl, hq⟩
  · have e := cutS_one s h
    rw [e]
    have e1 : ([s] : List (List UInt8)).length = 1 := rfl
    have e2 : ([s] : List (List UInt8)).getD 0 [] = s := rfl
    rw [e1, e2]
    rcases wi_eq s with ⟨h1, h2, h3⟩ | ⟨h1, h2⟩
    · rw [if_pos h2, if_pos (show 1 = 1 ∧ 0 < whr s wordB 0 from ⟨rfl, h1⟩), h3]
    · rw [if_neg h2, if_neg (show ¬ (1 = 1 ∧ 0 < whr s wordB 0) from fun h => h1 h.2)]
      by_cases g : isRow s k = true ∧ s ≠ endW
      · rw [if_pos g, if_pos g]
      · rw [if_neg g, if_neg g]
        have n12 : ¬ (1 = 2 ∧ s = pushW) := fun h => by omega
        rw [if_neg n12, if_pos (show 1 = 1 from rfl)]
        by_cases gp : s = pushW
        · rw [if_pos gp, if_neg (show ¬ 1 = 2 by decide), gp]; rfl
        · rw [if_neg gp]
  · have e := cutS_app q r hq
    rw [e]
    have hr : 0 < (cutS r).length := List.length_pos_iff.2 (cutS_ne r)
    have hn1 : ¬ (q :: cutS r).length = 1 := by rw [List.length_cons]; omega
    have hm : (32 : UInt8) ∈ q ++ 32 :: r := List.mem_append_right _ (List.mem_cons_self ..)
    have hw : ∀ p ∈ wordB.drop 2, (32 : UInt8) ∉ p := by decide
    have hb : ∀ p ∈ bareT, (32 : UInt8) ∉ p.1 := by
      intro p hp
      simp only [bareT, List.mem_cons, List.not_mem_nil, or_false] at hp
      rcases hp with rfl | rfl | rfl | rfl | rfl | rfl | rfl <;> decide
    have e0 : wiS (q ++ 32 :: r) = -1 := whr_none _ _ _ fun h => hw _ h hm
    have eb : bareF (q ++ 32 :: r) bareT = none := bare_none _ _ fun p hp he => hb p hp (by rw [← he]; exact hm)
    rw [e0, if_neg (show ¬ (0 : Int) < -1 by decide), if_neg (show ¬ ((q :: cutS r).length = 1 ∧ 0 < whr ((q :: cutS r).getD 0 []) wordB 0) from fun h => hn1 h.1), eb, if_neg hn1]
    by_cases g : isRow ((q :: cutS r).getD 0 []) k = true ∧ (q :: cutS r).getD 0 [] ≠ endW
    · rw [if_pos g, if_pos g]
    · rw [if_neg g, if_neg g]
      by_cases gp : (q :: cutS r).getD 0 [] = pushW
      · rw [if_pos gp]
        by_cases g2 : (q :: cutS r).length = 2
        · rw [if_pos g2, if_pos (show (q :: cutS r).length = 2 ∧ (q :: cutS r).getD 0 [] = pushW from ⟨g2, gp⟩)]
        · rw [if_neg g2, if_neg (show ¬ ((q :: cutS r).length = 2 ∧ (q :: cutS r).getD 0 [] = pushW) from fun h => g2 h.1)]
      · rw [if_neg gp, if_neg (show ¬ ((q :: cutS r).length = 2 ∧ (q :: cutS r).getD 0 [] = pushW) from fun h => gp h.2)]
/-- is a word the one that an answer stands as? -/
def hit (s : List UInt8) (k : Int) (y : Bool) : Prop := mayB (bareA k y) = true ∧ linesL (bareA k y) = s
theorem bare_hit {s : List UInt8} {k : Int} {y : Bool} (h1 : 2 ≤ k) (h2 : k ≤ 6) (h : hit s k y) : bareF s bareT = some (bareA k y) := by
  obtain ⟨hm, rfl⟩ := h
  have : k = 2 ∨ k = 3 ∨ k = 4 ∨ k = 5 ∨ k = 6 := by omega
  rcases this with rfl | rfl | rfl | rfl | rfl <;> cases y <;> first | rfl | (exfalso; revert hm; decide)
theorem bare_miss {s : List UInt8} (h : ∀ (k : Int) (y : Bool), 2 ≤ k → k ≤ 6 → ¬ hit s k y) : bareF s bareT = none := by
  refine bare_none _ _ fun p hp he => ?_
  simp only [bareT, List.mem_cons, List.not_mem_nil, or_false] at hp
  rcases hp with rfl | rfl | rfl | rfl | rfl | rfl | rfl
  · exact h 2 true (by decide) (by decide) ⟨by decide, he.symm⟩
  · exact h 2 false (by decide) (by decide) ⟨by decide, he.symm⟩
  · exact h 3 true (by decide) (by decide) ⟨by decide, he.symm⟩
  · exact h 3 false (by decide) (by decide) ⟨by decide, he.symm⟩
  · exact h 4 false (by decide) (by decide) ⟨by decide, he.symm⟩
  · exact h 5 false (by decide) (by decide) ⟨by decide, he.symm⟩
  · exact h 6 false (by decide) (by decide) ⟨by decide, he.symm⟩
end Go.Proofs.YthofbmfcpfibdaaDoor

namespace Go.Proofs.YthofbmfcpfibdaaDoor
open Go.Ev

/-! ### the document's answer of one line: what it has, and the words of results -/
structure S35 (h0 : H) (s : List UInt8) (k : Nat) (v : Value) (B4 : Nat) (tm : T Value) (h : H) : Prop where
  t0 : tg tm 0 = sv s
  t1 : tg tm 1 = .int .u8 (k : Int)
  t4 : tg tm 4 = .pointer (some ⟨B4, 0, none⟩)
  t6 : tg tm 6 = v
  t7 : tg tm 7 = .bool (knownB k)
  b4 : Has h B4 (.rw zA.cells (some 27))
  lt : h0.next ≤ B4
  keep : Keep nobody h0 h
  st : Strs h v (cutS s)
theorem S35.to {h0 : H} {s : List UInt8} {k : Nat} {v : Value} {B4 : Nat} {tm tm' : T Value} {h h' : H} (a : S35 h0 s k v B4 tm h) (kp : Keep nobody h h') (e0 : tg tm' 0 = tg tm 0) (e1 : tg tm' 1 = tg tm 1) (e4 : tg tm' 4 = tg tm 4) (e6 : tg tm' 6 = tg tm 6) (e7 : tg tm' 7 = tg tm 7) : S35 h0 s k v B4 tm' h' :=
  ⟨e0.trans a.t0, e1.trans a.t1, e4.trans a.t4, e6.trans a.t6, e7.trans a.t7, a.b4.keep0 kp, a.lt, a.keep.then kp, a.st.keep0 kp⟩
/-- how the answer is given back -/
def R35 (h0 : H) (o : Option Ans) (tm : T Value) (h : H) : Prop := ∃ l, q35.f tm h = some l ∧ ((∃ x : Ans, resOf l = .tuple #[x.v, .bool o.isSome] ∧ ones x.cells = true ∧ ∀ b, o = some b → x = b) ∧ Keep nobody h0 h)
theorem fin35 {h h0 : H} {B : Nat} {tm : T Value} {a : Ans} {c : Bool} (hb : Has h B (.rw a.cells (some 27))) (t4 : tg tm 4 = .pointer (some ⟨B, 0, none⟩)) (t5 : tg tm 5 = .bool c) {o : Option Ans} (ho : o.isSome = c) (ha : ∀ x, o = some x → a = x) (hk : Keep nobody h0 h) (h1 : ones a.cells = true := by rfl) : R35 h0 o tm h := by
  refine ⟨[a.v, .bool c], ?_, ⟨a, ?_, h1, ha⟩, hk⟩
  · simp only [q35, t4, t5, get7 hb]
  · rw [ho]; rfl
theorem wordV : ∀ i : Nat, i < 8 → Value.string (wordN.getD i (strB [])) = sv (wordB.getD i [])
  | 0, _ => rfl | 1, _ => rfl | 2, _ => rfl | 3, _ => rfl | 4, _ => rfl | 5, _ => rfl | 6, _ => rfl | 7, _ => rfl
  | i + 8, h => by omega
theorem wdrop : ∀ i : Nat, i < 8 → wordB.drop i = wordB.getD i [] :: wordB.drop (i + 1)
  | 0, _ => rfl | 1, _ => rfl | 2, _ => rfl | 3, _ => rfl | 4, _ => rfl | 5, _ => rfl | 6, _ => rfl | 7, _ => rfl
  | i + 8, h => by omega
theorem loop35 (L n : Nat) (hL : 1000 ≤ L) {h0 : H} {s : List UInt8} {k : Nat} {v : Value} {B4 : Nat} {tm : T Value} {h : H} (a : S35 h0 s k v B4 tm h) :
    C ⟨seqC ⟨r35_3⟩ ⟨blockC 0 (loopB l35_8)⟩⟩ (CF L (n + 1)) L tm h fun e tm' h' => (e = .norm ∧ S35 h0 s k v B4 tm' h' ∧ ¬ 0 < wiS s) ∨ (e = .ret ∧ 0 < wiS s ∧ R35 h0 (if knownB k = true then some (resA k (wiS s)) else none) tm' h') := by
  refine C.seq fun K hK => ?_
  simp only [r35_3]
  refine hK .norm _ _ (C.block ?_)
  refine (C.loop (L := L) (fun m tm' h' => ∃ i : Nat, m = 8 - i ∧ 2 ≤ i ∧ i ≤ 8 ∧ tg tm' 8 = .int .u8 (i : Int) ∧ S35 h0 s k v B4 tm' h' ∧ wiS s = whr s (wordB.drop i) i) 6 (by omega)
    ⟨2, rfl, by omega, by omega, by simp only [↓reduceIte, EV]; rfl, a.to (.refl _ _) (by simp only [↓reduceIte, EV, Nat.reduceEqDiff]) (by simp only [↓reduceIte, EV, Nat.reduceEqDiff]) (by simp only [↓reduceIte, EV, Nat.reduceEqDiff]) (by simp only [↓reduceIte, EV, Nat.reduceEqDiff]) (by simp only [↓reduceIte, EV, Nat.reduceEqDiff]), rfl⟩ fun m tm' h' hi => ?_ :
    C (loopB l35_8) _ L _ h fun e tm' h' => (e = .exit 0 ∧ S35 h0 s k v B4 tm' h' ∧ ¬ 0 < wiS s) ∨ (e = .ret ∧ 0 < wiS s ∧ R35 h0 (if knownB k = true then some (resA k (wiS s)) else none) tm' h')).mono ?_
  · obtain ⟨i, hm, h2, h8, t8, b, hw⟩ := hi
    unfold l35_8
    refine C.seq (C.seq fun K hK => ?_)
    by_cases g : (i : Int) ≤ 7
    · simp only [EV, r35_4, t8, decide_eq_true g]
      refine hK _ _ _ (C.cond true (by simp only [↓reduceIte, EV]) (fun _ => C.skip (C.seq (C.block (C.seq fun K hK => ?_)))) fun g => by cases g)
      simp only [↓reduceIte, EV, Nat.reduceEqDiff, r35_6, t8]
      refine word_law L n i (by omega) h' _ fun r h3 hq => ?_
      obtain ⟨rfl, k3⟩ := hq
      have b3 := b.to (tm' := tm') k3 rfl rfl rfl rfl rfl
      rw [wdrop i (by omega)] at hw
      have hw' : wiS s = if s = wordB.getD i [] then (i : Int) else whr s (wordB.drop (i + 1)) (i + 1) := hw
      simp only [EV, wordV i (by omega), b.t0, sv_eql]
      by_cases gs : s = wordB.getD i []
      · rw [if_pos gs] at hw'
        rw [decide_eq_true gs]
        refine hK _ _ _ (C.cond true (by simp only [↓reduceIte, EV]) (fun _ => C.seq fun K hK => ?_) fun g => by cases g)
        have f1 : aggO (fill [(.int .u8 (0)), (.slice none 0 0), (.int .u64 (0))] (plc [(0, 1), (1, 1), (2, 1)]) [(0, (.int .u8 (i : Int)))]) = some (.agg #[.int .u8 (i : Int), .slice none 0 0, .int .u64 0]) := rfl
        have f2 : aggO (fill [(.int .u8 (0)), (.int .u8 (0)), (.int .u8 (0)), (.slice none 0 0), (.int .u64 (0)), (.bool false), (.string (strB []))] (plc [(0, 1), (1, 1), (2, 3), (5, 1), (6, 1)]) [(0, (.int .u8 (1))), (1, (.int .u8 (k : Int))), (2, (.agg #[.int .u8 (i : Int), .slice none 0 0, .int .u64 0]))]) = some (resA k i).v := rfl
        have p7 := put7 (s := none) (a := resA k i) b3.b4 rfl rfl
        have b4' := Has.put (x := .rw (resA k i).cells (some 27)) b3.b4.1
        have kp' := put_keep (x := .rw (resA k i).cells (some 27)) b3.keep b3.lt
        simp only [↓reduceIte, EV, Nat.reduceEqDiff, r35_7, t8, b.t1, b.t4, b.t7, f1, f2, p7]
        refine hK _ _ _ (C.ret (.inr ⟨rfl, by omega, fin35 b4' (by simp only [↓reduceIte, EV, Nat.reduceEqDiff, b.t4]) (by simp only [↓reduceIte, EV]; rfl) ?_ ?_ kp'⟩))
        · cases knownB k <;> rfl
        · intro x hx
          split at hx
          · rw [hw'] at hx; exact Option.some.inj hx
          · cases hx
      · rw [if_neg gs] at hw'
        rw [decide_eq_false gs]
        refine hK _ _ _ (C.cond false (by simp only [↓reduceIte, EV]) (fun g => by cases g) fun _ => C.skip fun K hK => ?_)
        have w : IntKind.u8.wrap ((i : Int) + 1) = ((i + 1 : Nat) : Int) := by
          rw [show (i : Int) + 1 = ((i + 1 : Nat) : Int) by omega]
          exact wrap_eq _ _ (by show (0 : Int) ≤ ((i + 1 : Nat) : Int); omega) (by show ((i + 1 : Nat) : Int) ≤ 255; omega)
        simp only [↓reduceIte, EV, Nat.reduceEqDiff, r35_5, t8, w]
        exact hK _ _ _ ⟨8 - (i + 1), by omega, i + 1, rfl, by omega, by omega, by simp only [↓reduceIte, EV], b3.to (.refl _ _) (by simp only [↓reduceIte, EV, Nat.reduceEqDiff]) (by simp only [↓reduceIte, EV, Nat.reduceEqDiff]) (by simp only [↓reduceIte, EV, Nat.reduceEqDiff]) (by simp only [↓reduceIte, EV, Nat.reduceEqDiff]) (by simp only [↓reduceIte, EV, Nat.reduceEqDiff]), hw'⟩
    · simp only [EV, r35_4, t8, decide_eq_false g]
      have : i = 8 := by omega
      subst this
      exact hK _ _ _ (C.cond false (by simp only [↓reduceIte, EV]) (fun g => by cases g) fun _ => C.exit (.inl ⟨rfl, b.to (.refl _ _) (by simp only [↓reduceIte, EV, Nat.reduceEqDiff]) (by simp only [↓reduceIte, EV, Nat.reduceEqDiff]) (by simp only [↓reduceIte, EV, Nat.reduceEqDiff]) (by simp only [↓reduceIte, EV, Nat.reduceEqDiff]) (by simp only [↓reduceIte, EV, Nat.reduceEqDiff]), by rw [hw, show wordB.drop 8 = [] from rfl]; show ¬ (0 : Int) < -1; decide⟩))
  · rintro e tm' h' (⟨rfl, hb⟩ | ⟨rfl, hb⟩)
    · show if 0 = 0 then _ else _
      rw [if_pos rfl]
      exact .inl ⟨rfl, hb⟩
    · exact .inr ⟨rfl, hb⟩
/-- is the first word the row of the kind? -/
theorem row_ne_end : ∀ k : Nat, k < 12 → k ≠ 1 → rowB k ≠ endW := by decide
theorem reg35_8 (L n : Nat) {h0 : H} {s : List UInt8} {k : Nat} {v : Value} {B4 : Nat} {tm : T Value} {h : H} (a : S35 h0 s k v B4 tm h) {Q : Ex → T Value → H → Prop}
    (hQ : ∀ h', Keep nobody h h' → Q .norm (T.set tm 48 (.bool (decide (isRow ((cutS s).getD 0 []) k = true ∧ (cutS s).getD 0 [] ≠ endW)))) h') : C ⟨r35_8⟩ (CF L (n + 1)) L tm h Q := fun K hK => by
  rw [box_f]
  obtain ⟨t0, t1, t4, t6, t7, b4, lt, kp, st⟩ := a
  have kn : Keep nobody h ⟨h.objs, h.next + 13⟩ := ⟨by show h.next ≤ h.next + 13; omega, fun _ _ _ => rfl⟩
  have st1 := st.keep0 kn
  have hne : 0 < (cutS s).length := List.length_pos_iff.2 (cutS_ne s)
  have hx : (cutS s)[0]? = some ((cutS s).getD 0 []) := by rw [List.getD_eq_getElem?_getD, List.getElem?_eq_getElem hne]; rfl
  obtain ⟨b, o, e1, e2⟩ := st1.load hx
  have e1' : indexSl 1 v (.int .i64 0) = some (.pointer (some ⟨b, o, none⟩)) := e1
  have ld := e2 _ st1
  generalize (cutS s).getD 0 [] = w0 at *
  cases hk : knownB k with
  | false =>
    have hc : ¬ (isRow w0 k = true ∧ w0 ≠ endW) := by unfold isRow; rw [hk]; simp
    rw [decide_eq_false hc] at hQ
    simp only [EV, r35_8, t7, hk]
    exact hK _ _ _ (hQ _ kn)
  | true =>
    by_cases g1 : (k : Int) = 1
    · have hc : ¬ (isRow w0 k = true ∧ w0 ≠ endW) := by
        rintro ⟨h1, h2⟩
        unfold isRow at h1
        rw [hk, show k = 1 by omega, Bool.true_and] at h1
        exact h2 (of_decide_eq_true h1)
      rw [decide_eq_false hc] at hQ
      simp only [↓EW, EV, r35_8, t7, hk, t1, decide_eq_true g1]
      exact hK _ _ _ (hQ _ kn)
    · have hk' := hk
      unfold knownB at hk'
      have k1 : 1 ≤ k := of_decide_eq_true (Bool.and_eq_true _ _ ▸ hk' : _ ∧ _).1
      have k2 : k ≤ 11 := of_decide_eq_true (Bool.and_eq_true _ _ ▸ hk' : _ ∧ _).2
      simp only [↓EW, EV, r35_8, t7, hk, t1, decide_eq_false g1, t6, e1', ld]
      refine row_law L n k (by omega) _ _ fun r h3 hq => ?_
      obtain ⟨rfl, k3⟩ := hq
      have ld3 := e2 _ (st1.keep0 k3)
      have qe : binV Tryd.prog .eql 9 false (sv w0) (.string (rowN.getD k (strB []))) = some (.bool (decide (w0 = rowB k))) := sv_eql 9 false w0 (rowB k)
      have hc : decide (isRow w0 k = true ∧ w0 ≠ endW) = decide (w0 = rowB k) := by
        unfold isRow
        rw [hk, Bool.true_and]
        by_cases g : w0 = rowB k
        · rw [decide_eq_true g, decide_eq_true]
          exact ⟨rfl, by rw [g]; exact row_ne_end k (by omega) (by omega)⟩
        · rw [decide_eq_false g]; simp
      rw [hc] at hQ
      simp only [EV, ld3, hO, veq_sv, qe, Bool.and_true]
      exact hK _ _ _ (hQ _ (kn.then k3))
end Go.Proofs.YthofbmfcpfibdaaDoor

namespace Go.Proofs.YthofbmfcpfibdaaDoor
open Go.Ev

/-- the row of what is done -/
theorem br35_row (L n : Nat) (hL : 2000 ≤ L) {h0 : H} {s : List UInt8} {k : Nat} {v : Value} {B4 : Nat} {tm : T Value} {h : H} (a : S35 h0 s k v B4 tm h) :
    C ⟨seqC ⟨r35_9⟩ ⟨seqC ⟨seqC ⟨r35_10⟩ ⟨condC ⟨fun _ tm => tg tm 54⟩ ⟨seqC ⟨r35_11⟩ retC⟩ skipC⟩⟩ ⟨seqC ⟨seqC ⟨r35_12⟩ ⟨condC ⟨fun _ tm => tg tm 61⟩ ⟨seqC ⟨r35_13⟩ retC⟩ skipC⟩⟩ ⟨seqC ⟨r35_14⟩ ⟨seqC ⟨r35_15⟩ ⟨seqC ⟨r35_16⟩ retC⟩⟩⟩⟩⟩⟩ (CF L (n + 2)) L tm h fun e tm' h' => e = .ret ∧ R35 h0 (rowO k (cutS s)) tm' h' := by
  obtain ⟨t0, t1, t4, t6, t7, b4, lt, kp, hs⟩ := a
  have f1 : aggO (fill [(.int .u8 (0)), (.slice none 0 0), (.int .u64 (0))] (plc [(0, 1), (1, 1), (2, 1)]) [(0, (.int .u8 (1)))]) = some (.agg #[.int .u8 1, .slice none 0 0, .int .u64 0]) := rfl
  have f2 : aggO (fill [(.int .u8 (0)), (.int .u8 (0)), (.int .u8 (0)), (.slice none 0 0), (.int .u64 (0)), (.bool false), (.string (strB []))] (plc [(0, 1), (1, 1), (2, 3), (5, 1), (6, 1)]) [(0, (.int .u8 (1))), (1, (.int .u8 (k : Int))), (2, (.agg #[.int .u8 1, .slice none 0 0, .int .u64 0]))]) = some (doneA k 0).v := rfl
  have st : storeV 7 (h.new (.rw [(.int .u8 (0)), (.int .u8 (0)), (.int .u8 (0)), (.slice none 0 0), (.int .u64 (0)), (.bool false), (.string (strB []))] (some 27))) (.pointer (some ⟨h.next, 0, none⟩)) (doneA k 0).v = some ((h.new (.rw zA.cells (some 27))).put h.next (.rw (doneA k 0).cells (some 27))) := put7 (Has.new _ _) rfl rfl
  refine C.seq fun K hK => ?_
  simp only [↓EW, EV, r35_9, t1, f1, f2, st]
  refine hK _ _ _ (C.seq (C.seq fun K hK => ?_))
  have hB : B4 < h.next := b4.1
  have ka := keep_alloc h (.rw zA.cells (some 27)) (.rw (doneA k 0).cells (some 27))
  have b9 := has_alloc h (.rw zA.cells (some 27)) (.rw (doneA k 0).cells (some 27))
  have b4a := b4.keep0 ka
  have kpa := kp.then ka
  have hs2 := hs.keep0 ka
  generalize (h.new (.rw zA.cells (some 27))).put h.next (.rw (doneA k 0).cells (some 27)) = h2 at *
  generalize h.next = B9 at *
  generalize hws : cutS s = ws at *
  simp only [↓reduceIte, EV, Nat.reduceEqDiff, r35_10, t1]
  refine ref_counts L (n + 1) (k : Int) h2 _ fun r h3 hq => ?_
  obtain ⟨rfl, hh⟩ := hq
  rw [hh]; clear hh
  have g7 := get7 (s := none) b9
  have p7 := put7 (s := none) (a := doneA k 0) b4a rfl rfl
  have b4'' := Has.put (x := .rw (doneA k 0).cells (some 27)) b4a.1
  have kp'' := put_keep (x := .rw (doneA k 0).cells (some 27)) kpa lt
  cases hc : countsB (k : Int) with
  | false =>
    have hO : rowO k ws = if ws.length = 1 then some (doneA k 0) else none := by unfold rowO; rw [if_pos hc]
    simp only [EV]
    refine hK _ _ _ (C.cond true (by simp only [↓reduceIte, EV]) (fun _ => C.seq fun K hK => ?_) fun g => by cases g)
    by_cases gl : (ws.length : Int) = 1
    · rw [if_pos (show ws.length = 1 by omega)] at hO
      simp only [↓reduceIte, EV, Nat.reduceEqDiff, r35_11, t6, t4, hs2.len, g7, decide_eq_true gl, p7]
      refine hK _ _ _ (C.ret ⟨rfl, fin35 b4'' (by simp only [↓reduceIte, EV, Nat.reduceEqDiff, t4]) (by simp only [↓reduceIte, EV]; rfl) (by rw [hO]; rfl) (fun x hx => by rw [hO] at hx; exact Option.some.inj hx) kp''⟩)
    · rw [if_neg (show ¬ ws.length = 1 by omega)] at hO
      simp only [↓reduceIte, EV, Nat.reduceEqDiff, r35_11, t6, t4, hs2.len, g7, decide_eq_false gl, p7]
      refine hK _ _ _ (C.ret ⟨rfl, fin35 b4'' (by simp only [↓reduceIte, EV, Nat.reduceEqDiff, t4]) (by simp only [↓reduceIte, EV]; rfl) (by rw [hO]; rfl) (fun x hx => by rw [hO] at hx; cases hx) kp''⟩)
  | true =>
    simp only [EV]
    refine hK _ _ _ (C.cond false (by simp only [↓reduceIte, EV]) (fun g => by cases g) fun _ => C.skip (C.seq (C.seq fun K hK => ?_)))
    by_cases gl : (ws.length : Int) = 2
    rotate_left
    · have hO : rowO k ws = none := by unfold rowO; rw [if_neg (by rw [hc]; simp), if_pos (by omega)]
      simp only [↓reduceIte, EV, Nat.reduceEqDiff, r35_12, t6, hs2.len, decide_eq_false gl]
      refine hK _ _ _ (C.cond true (by simp only [↓reduceIte, EV]) (fun _ => C.seq fun K hK => ?_) fun g => by cases g)
      simp only [↓reduceIte, EV, Nat.reduceEqDiff, r35_13, t4, g7, p7]
      refine hK _ _ _ (C.ret ⟨rfl, fin35 b4'' (by simp only [↓reduceIte, EV, Nat.reduceEqDiff, t4]) (by simp only [↓reduceIte, EV]; rfl) (by rw [hO]; rfl) (fun x hx => by rw [hO] at hx; cases hx) kp''⟩)
    have gl' : ws.length = 2 := by omega
    have hO : rowO k ws = if numI ws 1 18446744073709551615 = true ∧ (k ≠ 10 ∨ numG ws 1 ≤ 8) then some (doneA k (numG ws 1)) else none := by unfold rowO; rw [if_neg (by rw [hc]; simp), if_neg (by omega)]
    simp only [↓reduceIte, EV, Nat.reduceEqDiff, r35_12, t6, hs2.len, decide_eq_true gl]
    refine hK _ _ _ (C.cond false (by simp only [↓reduceIte, EV]) (fun g => by cases g) fun _ => C.skip (C.seq fun K hK => ?_))
    have hx : ws[1]? = some (ws.getD 1 []) := by rw [List.getD_eq_getElem?_getD, List.getElem?_eq_getElem (by omega)]; rfl
    obtain ⟨b, o, e1, e2⟩ := hs2.load hx
    have e1' : indexSl 1 v (.int .i64 1) = some (.pointer (some ⟨b, o, none⟩)) := e1
    simp only [↓reduceIte, EV, Nat.reduceEqDiff, r35_14, t6, e1', e2 _ hs2]
    refine (num64_law L n (show 1000 ≤ L by omega) (l := ws.getD 1 []) (m := 18446744073709551615) : Sp _ 64 _ _ _) _ fun r h4 hq => ?_
    obtain ⟨rfl, hh⟩ := hq
    rw [hh]; clear hh
    simp only [EV, upto0, upto1]
    refine hK _ _ _ (C.seq fun K hK => ?_)
    have st2 : storeV 1 h2 (.pointer (some ⟨B9, 4, none⟩)) (.int .u64 (numG ws 1 : Int)) = some (h2.put B9 (.rw (doneA k (numG ws 1)).cells (some 27))) := store_one b9 rfl rfl rfl
    simp only [↓reduceIte, EV, Nat.reduceAdd, Nat.reduceEqDiff, r35_15, st2]
    refine hK _ _ _ (C.seq fun K hK => ?_)
    have b9b := Has.put (x := .rw (doneA k (numG ws 1)).cells (some 27)) b9.1
    have b4b := has_other (y := .rw (doneA k (numG ws 1)).cells (some 27)) b4a (show B4 ≠ B9 by omega)
    have kpb := put_keep (x := .rw (doneA k (numG ws 1)).cells (some 27)) kpa (show h0.next ≤ B9 by omega)
    generalize h2.put B9 (.rw (doneA k (numG ws 1)).cells (some 27)) = h5 at *
    have g7b := get7 (s := none) b9b
    have p7b := put7 (s := none) (a := doneA k (numG ws 1)) b4b rfl rfl
    have b4c := Has.put (x := .rw (doneA k (numG ws 1)).cells (some 27)) b4b.1
    have kpc := put_keep (x := .rw (doneA k (numG ws 1)).cells (some 27)) kpb lt
    cases hi : numI ws 1 18446744073709551615 with
    | false =>
      rw [if_neg (by rw [hi]; simp)] at hO
      simp only [↓opStep_eq, ↓reduceIte, ↓EW, EV, Nat.reduceEqDiff, r35_16, t4, g7b, p7b]
      refine hK _ _ _ (C.ret ⟨rfl, fin35 b4c (by simp only [↓reduceIte, EV, Nat.reduceEqDiff, t4]) (by simp only [↓reduceIte, EV]; rfl) (by rw [hO]; rfl) (fun x hx => by rw [hO] at hx; cases hx) kpc⟩)
    | true =>
      by_cases g10 : (k : Int) = 10
      · by_cases g8 : (numG ws 1 : Int) ≤ 8
        · rw [if_pos ⟨hi, .inr (by omega)⟩] at hO
          simp only [↓opStep_eq, ↓reduceIte, ↓EW, EV, Nat.reduceEqDiff, r35_16, t1, t4, g7b, p7b, decide_eq_true g10, decide_eq_true g8]
          refine hK _ _ _ (C.ret ⟨rfl, fin35 b4c (by simp only [↓reduceIte, EV, Nat.reduceEqDiff, t4]) (by simp only [↓reduceIte, EV]; rfl) (by rw [hO]; rfl) (fun x hx => by rw [hO] at hx; exact Option.some.inj hx) kpc⟩)
        · rw [if_neg (by rintro ⟨_, h | h⟩ <;> omega)] at hO
          simp only [↓opStep_eq, ↓reduceIte, ↓EW, EV, Nat.reduceEqDiff, r35_16, t1, t4, g7b, p7b, decide_eq_true g10, decide_eq_false g8]
          refine hK _ _ _ (C.ret ⟨rfl, fin35 b4c (by simp only [↓reduceIte, EV, Nat.reduceEqDiff, t4]) (by simp only [↓reduceIte, EV]; rfl) (by rw [hO]; rfl) (fun x hx => by rw [hO] at hx; cases hx) kpc⟩)
      · rw [if_pos ⟨hi, .inl (by omega)⟩] at hO
        simp only [↓opStep_eq, ↓reduceIte, ↓EW, EV, Nat.reduceEqDiff, r35_16, t1, t4, g7b, p7b, decide_eq_false g10]
        refine hK _ _ _ (C.ret ⟨rfl, fin35 b4c (by simp only [↓reduceIte, EV, Nat.reduceEqDiff, t4]) (by simp only [↓reduceIte, EV]; rfl) (by rw [hO]; rfl) (fun x hx => by rw [hO] at hx; exact Option.some.inj hx) kpc⟩)
/-- a key that is pushed -/
theorem br35_push (L n : Nat) (hL : 2000 ≤ L) {h0 : H} {s : List UInt8} {k : Nat} {v : Value} {B4 : Nat} {tm : T Value} {h : H} (hl : s.length ≤ 1000) (a : S35 h0 s k v B4 tm h) :
    C ⟨seqC ⟨seqC ⟨r35_18⟩ ⟨condC ⟨fun _ tm => tg tm 96⟩ ⟨seqC ⟨r35_19⟩ retC⟩ skipC⟩⟩ ⟨seqC ⟨r35_20⟩ retC⟩⟩ (CF L (n + 1)) L tm h fun e tm' h' => e = .ret ∧ R35 h0 (if (cutS s).length = 2 then pushO (cutS s) else none) tm' h' := by
  obtain ⟨t0, t1, t4, t6, t7, b4, lt, kp, hs⟩ := a
  have hle := cutS_le s
  generalize hws : cutS s = ws at *
  generalize hOe : (if ws.length = 2 then pushO ws else none) = O
  have f0 : aggO (fill [(.int .u8 (0)), (.int .u8 (0)), (.int .u8 (0)), (.slice none 0 0), (.int .u64 (0)), (.bool false), (.string (strB []))] (plc [(0, 1), (1, 1), (2, 3), (5, 1), (6, 1)]) []) = some zA.v := rfl
  have p0 := put7 (s := none) (a := zA) b4 rfl rfl
  have b40 := Has.put (x := .rw zA.cells (some 27)) b4.1
  have kp0 := put_keep (x := .rw zA.cells (some 27)) kp lt
  refine C.seq (C.seq fun K hK => ?_)
  by_cases gl : (ws.length : Int) = 2
  · have hx : ws[1]? = some (ws.getD 1 []) := by rw [List.getD_eq_getElem?_getD, List.getElem?_eq_getElem (by omega)]; rfl
    have hlen : (ws.getD 1 []).length ≤ 1000 := Nat.le_trans (hle _ (List.mem_of_getElem? hx)) hl
    obtain ⟨b, o, e1, e2⟩ := hs.load hx
    have e1' : indexSl 1 v (.int .i64 1) = some (.pointer (some ⟨b, o, none⟩)) := e1
    have ld := e2 _ hs
    rw [if_pos (show ws.length = 2 by omega)] at hOe
    unfold pushO at hOe
    generalize ws.getD 1 [] = w at *
    have hp : Sp (CF L (n + 1)) 50 [sv w, .int .i64 (32 : Nat)] h fun r h' => r = .bool (plainL w && (!decide ((w.length : Int) = 0) && decide (w.length ≤ 32))) ∧ h' = h := rplainM_law L n (s := ⟨w.toArray⟩) (m := 32) (by show w.length < L; omega) (by show w.length ≤ 2000; omega) h
    have hk : (plainL w && (!decide ((w.length : Int) = 0) && decide (w.length ≤ 32))) = keyW w := by
      unfold keyW
      by_cases g1 : 1 ≤ w.length
      · rw [decide_eq_true g1, decide_eq_false (show ¬ (w.length : Int) = 0 by omega)]
        cases plainL w <;> cases decide (w.length ≤ 32) <;> rfl
      · rw [decide_eq_false g1, decide_eq_true (show (w.length : Int) = 0 by omega)]
        cases plainL w <;> cases decide (w.length ≤ 32) <;> rfl
    rw [hk] at hp
    simp only [↓opStep_eq, ↓reduceIte, ↓EW, EV, r35_18, t6, hs.len, decide_eq_true gl, e1', ld]
    refine hp _ fun r h3 hq => ?_
    obtain ⟨rfl, hh⟩ := hq
    rw [hh]; clear hh
    cases hkw : keyW w with
    | false =>
      rw [hkw, if_neg (by simp)] at hOe
      subst hOe
      simp only [EV]
      refine hK _ _ _ (C.cond true (by simp only [↓reduceIte, EV]) (fun _ => C.seq fun K hK => ?_) fun g => by cases g)
      simp only [↓reduceIte, EV, Nat.reduceEqDiff, r35_19, t4, f0, p0]
      exact hK _ _ _ (C.ret ⟨rfl, fin35 b40 (by simp only [↓reduceIte, EV, Nat.reduceEqDiff, t4]) (by simp only [↓reduceIte, EV]; rfl) rfl (fun x hx => by cases hx) kp0⟩)
    | true =>
      rw [hkw, if_pos rfl] at hOe
      subst hOe
      have f7 : aggO (fill [(.int .u8 (0)), (.int .u8 (0)), (.int .u8 (0)), (.slice none 0 0), (.int .u64 (0)), (.bool false), (.string (strB []))] (plc [(0, 1), (1, 1), (2, 3), (5, 1), (6, 1)]) [(0, (.int .u8 (7))), (4, sv w)]) = some (pushA w).v := rfl
      have p7 := put7 (s := none) (a := pushA w) b4 rfl rfl
      have b47 := Has.put (x := .rw (pushA w).cells (some 27)) b4.1
      have kp7 := put_keep (x := .rw (pushA w).cells (some 27)) kp lt
      simp only [EV]
      refine hK _ _ _ (C.cond false (by simp only [↓reduceIte, EV]) (fun g => by cases g) fun _ => C.skip (C.seq fun K hK => ?_))
      simp only [↓reduceIte, EV, Nat.reduceEqDiff, r35_20, t4, t6, e1', ld, f7, p7]
      exact hK _ _ _ (C.ret ⟨rfl, fin35 b47 (by simp only [↓reduceIte, EV, Nat.reduceEqDiff, t4]) (by simp only [↓reduceIte, EV]; rfl) rfl (fun x hx => Option.some.inj hx) kp7⟩)
  · rw [if_neg (show ¬ ws.length = 2 by omega)] at hOe
    subst hOe
    simp only [↓opStep_eq, ↓reduceIte, ↓EW, EV, r35_18, t6, hs.len, decide_eq_false gl]
    refine hK _ _ _ (C.cond true (by simp only [↓reduceIte, EV]) (fun _ => C.seq fun K hK => ?_) fun g => by cases g)
    simp only [↓reduceIte, EV, Nat.reduceEqDiff, r35_19, t4, f0, p0]
    exact hK _ _ _ (C.ret ⟨rfl, fin35 b40 (by simp only [↓reduceIte, EV, Nat.reduceEqDiff, t4]) (by simp only [↓reduceIte, EV]; rfl) rfl (fun x hx => by cases hx) kp0⟩)
end Go.Proofs.YthofbmfcpfibdaaDoor

namespace Go.Proofs.YthofbmfcpfibdaaDoor
open Go.Ev

theorem inner35 (L n : Nat) (hL : 2000 ≤ L) {h0 : H} {s : List UInt8} {k kk : Nat} {v : Value} {B4 : Nat} {tm : T Value} {h : H} (h2 : 2 ≤ kk) (h6 : kk ≤ 6) (a : S35 h0 s k v B4 tm h) (t12 : tg tm 12 = .int .u8 (kk : Int)) (t13 : tg tm 13 = .int .i64 0) :
    C (loopB l35_30) (CF L (n + 21)) L tm h fun e tm' h' => (e = .exit 4 ∧ S35 h0 s k v B4 tm' h' ∧ tg tm' 12 = .int .u8 (kk : Int) ∧ ∀ y, ¬ hit s kk y) ∨ (e = .ret ∧ R35 h0 (bareF s bareT) tm' h') := by
  refine C.loop (L := L) (fun m tm' h' => ∃ y : Nat, m = 2 - y ∧ y ≤ 2 ∧ tg tm' 13 = .int .i64 (y : Int) ∧ tg tm' 12 = .int .u8 (kk : Int) ∧ S35 h0 s k v B4 tm' h' ∧ ∀ j, j < y → ¬ hit s kk (decide ((j : Int) = 1))) 2 (by omega)
    ⟨0, rfl, by omega, t13, t12, a, fun j h => by omega⟩ fun m tm' h' hi => ?_
  obtain ⟨y, hm, hy, x13, x12, b, hall⟩ := hi
  unfold l35_30
  refine C.seq (C.seq fun K hK => ?_)
  by_cases g : (y : Int) < 2
  · simp only [EV, r35_25, x13, decide_eq_true g]
    refine hK _ _ _ (C.cond true (by simp only [↓reduceIte, EV]) (fun _ => C.skip (C.seq (C.block (C.seq fun K hK => ?_)))) fun g => by cases g)
    have hh := hall
    generalize hyb : decide ((y : Int) = 1) = yb at *
    have f : aggO (fill [(.int .u8 (0)), (.int .u8 (0)), (.int .u8 (0)), (.slice none 0 0), (.int .u64 (0)), (.bool false), (.string (strB []))] (plc [(0, 1), (1, 1), (2, 3), (5, 1), (6, 1)]) [(0, (.int .u8 (kk : Int))), (3, (.bool yb))]) = some (bareA kk yb).v := rfl
    have st : storeV 7 (h'.new (.rw [(.int .u8 (0)), (.int .u8 (0)), (.int .u8 (0)), (.slice none 0 0), (.int .u64 (0)), (.bool false), (.string (strB []))] (some 27))) (.pointer (some ⟨h'.next, 0, none⟩)) (bareA kk yb).v = some ((h'.new (.rw zA.cells (some 27))).put h'.next (.rw (bareA kk yb).cells (some 27))) := put7 (Has.new _ _) rfl rfl
    simp only [↓reduceIte, ↓EW, EV, Nat.reduceEqDiff, r35_27, x13, x12, hyb, f, st]
    refine hK _ _ _ (C.seq fun K hK => ?_)
    have ka := keep_alloc h' (.rw zA.cells (some 27)) (.rw (bareA kk yb).cells (some 27))
    have b14 := has_alloc h' (.rw zA.cells (some 27)) (.rw (bareA kk yb).cells (some 27))
    have c : S35 h0 s k v B4 (T.set tm' 14 (.pointer (some ⟨h'.next, 0, none⟩))) ((h'.new (.rw zA.cells (some 27))).put h'.next (.rw (bareA kk yb).cells (some 27))) := b.to ka (by simp only [↓reduceIte, EV, Nat.reduceEqDiff]) (by simp only [↓reduceIte, EV, Nat.reduceEqDiff]) (by simp only [↓reduceIte, EV, Nat.reduceEqDiff]) (by simp only [↓reduceIte, EV, Nat.reduceEqDiff]) (by simp only [↓reduceIte, EV, Nat.reduceEqDiff])
    generalize (h'.new (.rw zA.cells (some 27))).put h'.next (.rw (bareA kk yb).cells (some 27)) = h2 at *
    generalize h'.next = B14 at *
    have g7 := get7 (s := none) b14
    have hit' : ∀ hx, ItemsAt hx (bareA kk yb).r.iv (bareA kk yb).r.items := fun hx => .inl ⟨rfl, rfl⟩
    simp only [↓opStep_eq, ↓reduceIte, ↓EW, EV, Nat.reduceEqDiff, r35_28, g7]
    refine ref_may L (n + 18) (bareA kk yb) h2 (hit' _) (by show 0 < L; omega) (by show 0 < 9223372036854775807; decide) rfl _ fun r h3 hq => ?_
    obtain ⟨rfl, k3⟩ := hq
    have b143 := b14.keep0 k3
    have g73 := get7 (s := none) b143
    have c3 := c.to (tm' := T.set tm' 14 (.pointer (some ⟨B14, 0, none⟩))) k3 rfl rfl rfl rfl rfl
    have w : IntKind.i64.wrap ((y : Int) + 1) = ((y + 1 : Nat) : Int) := wrap_succ y (by omega)
    have more : ¬ hit s kk yb → ∀ j, j < y + 1 → ¬ hit s kk (decide ((j : Int) = 1)) := fun hn j hj => by
      by_cases e : j = y
      · rw [e, hyb]; exact hn
      · exact hall j (by omega)
    cases hm : mayB (bareA kk yb) with
    | false =>
      simp only [↓reduceIte, EV]
      refine hK _ _ _ (C.cond false (by simp only [↓reduceIte, EV]) (fun g => by cases g) fun _ => C.skip fun K hK => ?_)
      simp only [↓reduceIte, EV, Nat.reduceEqDiff, r35_26, x13, w]
      exact hK _ _ _ ⟨2 - (y + 1), by omega, y + 1, rfl, by omega, by simp only [↓reduceIte, EV], by simp only [↓reduceIte, EV, Nat.reduceEqDiff, x12], c3.to (.refl _ _) (by simp only [↓reduceIte, EV, Nat.reduceEqDiff]) (by simp only [↓reduceIte, EV, Nat.reduceEqDiff]) (by simp only [↓reduceIte, EV, Nat.reduceEqDiff]) (by simp only [↓reduceIte, EV, Nat.reduceEqDiff]) (by simp only [↓reduceIte, EV, Nat.reduceEqDiff]), more fun h => by rw [h.1] at hm; cases hm⟩
    | true =>
      simp only [↓reduceIte, EV, g73]
      refine lines_law L n (by omega) (may_of hm) ⟨⟨by show (0 : Int) ≤ 0; decide, by show (0 : Int) < 18446744073709551616; decide⟩, fun x hx => by cases hx⟩ (hit' _) rfl _ fun r h4 hq => ?_
      obtain ⟨rfl, k4⟩ := hq
      have c4 := c3.to (tm' := T.set tm' 14 (.pointer (some ⟨B14, 0, none⟩))) k4 rfl rfl rfl rfl rfl
      have b144 := b143.keep0 k4
      simp only [EV, b.t0, sv_eql]
      by_cases gs : linesL (bareA kk yb) = s
      · rw [decide_eq_true gs]
        have hb := bare_hit (s := s) (k := kk) (y := yb) (by omega) (by omega) ⟨hm, gs⟩
        have g74 := get7 (s := none) b144
        have p7 := put7 (s := none) (a := bareA kk yb) c4.b4 rfl rfl
        have b47 := Has.put (x := .rw (bareA kk yb).cells (some 27)) c4.b4.1
        have kp7 := put_keep (x := .rw (bareA kk yb).cells (some 27)) c4.keep c4.lt
        refine hK _ _ _ (C.cond true (by simp only [↓reduceIte, EV]) (fun _ => C.seq fun K hK => ?_) fun g => by cases g)
        simp only [↓reduceIte, EV, Nat.reduceEqDiff, r35_29, g74, b.t4, p7]
        exact hK _ _ _ (C.ret (.inr ⟨rfl, fin35 b47 (by simp only [↓reduceIte, EV, Nat.reduceEqDiff, b.t4]) (by simp only [↓reduceIte, EV]; rfl) (by rw [hb]; rfl) (fun x hx => by rw [hb] at hx; exact Option.some.inj hx) kp7⟩))
      · rw [decide_eq_false gs]
        refine hK _ _ _ (C.cond false (by simp only [↓reduceIte, EV]) (fun g => by cases g) fun _ => C.skip fun K hK => ?_)
        simp only [↓reduceIte, EV, Nat.reduceEqDiff, r35_26, x13, w]
        exact hK _ _ _ ⟨2 - (y + 1), by omega, y + 1, rfl, by omega, by simp only [↓reduceIte, EV], by simp only [↓reduceIte, EV, Nat.reduceEqDiff, x12], c4.to (.refl _ _) (by simp only [↓reduceIte, EV, Nat.reduceEqDiff]) (by simp only [↓reduceIte, EV, Nat.reduceEqDiff]) (by simp only [↓reduceIte, EV, Nat.reduceEqDiff]) (by simp only [↓reduceIte, EV, Nat.reduceEqDiff]) (by simp only [↓reduceIte, EV, Nat.reduceEqDiff]), more fun h => gs h.2⟩
  · simp only [EV, r35_25, x13, decide_eq_false g]
    refine hK _ _ _ (C.cond false (by simp only [↓reduceIte, EV]) (fun g => by cases g) fun _ => C.exit (.inl ⟨rfl, b.to (.refl _ _) (by simp only [↓reduceIte, EV, Nat.reduceEqDiff]) (by simp only [↓reduceIte, EV, Nat.reduceEqDiff]) (by simp only [↓reduceIte, EV, Nat.reduceEqDiff]) (by simp only [↓reduceIte, EV, Nat.reduceEqDiff]) (by simp only [↓reduceIte, EV, Nat.reduceEqDiff]), by simp only [↓reduceIte, EV, Nat.reduceEqDiff, x12], fun y' => ?_⟩))
    cases y' with
    | false => exact hall 0 (by omega)
    | true => exact hall 1 (by omega)
/-- a word that stands alone -/
theorem br35_bare (L n : Nat) (hL : 2000 ≤ L) {h0 : H} {s : List UInt8} {k : Nat} {v : Value} {B4 : Nat} {tm : T Value} {h : H} (a : S35 h0 s k v B4 tm h) :
    C ⟨seqC ⟨seqC ⟨r35_21⟩ ⟨blockC 2 (loopB l35_32)⟩⟩ ⟨seqC ⟨r35_30⟩ retC⟩⟩ (CF L (n + 21)) L tm h fun e tm' h' => e = .ret ∧ R35 h0 (bareF s bareT) tm' h' := by
  refine C.seq (C.seq fun K hK => ?_)
  simp only [r35_21]
  refine hK _ _ _ (C.block ?_)
  refine (C.loop (L := L) (fun m tm' h' => ∃ kk : Nat, m = 7 - kk ∧ 2 ≤ kk ∧ kk ≤ 7 ∧ tg tm' 12 = .int .u8 (kk : Int) ∧ S35 h0 s k v B4 tm' h' ∧ ∀ (j : Int) y, 2 ≤ j → j < kk → ¬ hit s j y) 5 (by omega)
    ⟨2, rfl, by omega, by omega, by simp only [↓reduceIte, EV]; rfl, a.to (.refl _ _) (by simp only [↓reduceIte, EV, Nat.reduceEqDiff]) (by simp only [↓reduceIte, EV, Nat.reduceEqDiff]) (by simp only [↓reduceIte, EV, Nat.reduceEqDiff]) (by simp only [↓reduceIte, EV, Nat.reduceEqDiff]) (by simp only [↓reduceIte, EV, Nat.reduceEqDiff]), fun j y h1 h2 => by omega⟩ fun m tm' h' hi => ?_ :
    C (loopB l35_32) _ L _ h fun e tm' h' => (e = .exit 2 ∧ S35 h0 s k v B4 tm' h' ∧ bareF s bareT = none) ∨ (e = .ret ∧ R35 h0 (bareF s bareT) tm' h')).mono ?_
  · obtain ⟨kk, hm, h2, h7, x12, b, hall⟩ := hi
    unfold l35_32
    refine C.seq (C.seq fun K hK => ?_)
    by_cases g : (kk : Int) ≤ 6
    · simp only [EV, r35_22, x12, decide_eq_true g]
      refine hK _ _ _ (C.cond true (by simp only [↓reduceIte, EV]) (fun _ => C.skip (C.seq (C.block (C.seq fun K hK => ?_)))) fun g => by cases g)
      simp only [r35_24]
      refine hK _ _ _ (C.block ((inner35 L n hL h2 (by omega) (b.to (.refl _ _) (by simp only [↓reduceIte, EV, Nat.reduceEqDiff]) (by simp only [↓reduceIte, EV, Nat.reduceEqDiff]) (by simp only [↓reduceIte, EV, Nat.reduceEqDiff]) (by simp only [↓reduceIte, EV, Nat.reduceEqDiff]) (by simp only [↓reduceIte, EV, Nat.reduceEqDiff])) (by simp only [↓reduceIte, EV, Nat.reduceEqDiff, x12]) (by simp only [↓reduceIte, EV])).mono ?_))
      rintro e tm2 h3 (⟨rfl, c, y12, hn⟩ | ⟨rfl, hr⟩)
      · show if 4 = 4 then _ else _
        rw [if_pos rfl]
        intro K hK
        have w : IntKind.u8.wrap ((kk : Int) + 1) = ((kk + 1 : Nat) : Int) := by
          rw [show (kk : Int) + 1 = ((kk + 1 : Nat) : Int) by omega]
          exact wrap_eq _ _ (by show (0 : Int) ≤ ((kk + 1 : Nat) : Int); omega) (by show ((kk + 1 : Nat) : Int) ≤ 255; omega)
        rw [box_f]
        simp only [EV, r35_23, y12, w]
        refine hK _ _ _ ⟨7 - (kk + 1), by omega, kk + 1, rfl, by omega, by omega, by simp only [↓reduceIte, EV], c.to (.refl _ _) (by simp only [↓reduceIte, EV, Nat.reduceEqDiff]) (by simp only [↓reduceIte, EV, Nat.reduceEqDiff]) (by simp only [↓reduceIte, EV, Nat.reduceEqDiff]) (by simp only [↓reduceIte, EV, Nat.reduceEqDiff]) (by simp only [↓reduceIte, EV, Nat.reduceEqDiff]), fun j y j1 j2 => ?_⟩
        by_cases e : j = (kk : Int)
        · rw [e]; exact hn y
        · exact hall j y j1 (by omega)
      · exact .inr ⟨rfl, hr⟩
    · simp only [EV, r35_22, x12, decide_eq_false g]
      exact hK _ _ _ (C.cond false (by simp only [↓reduceIte, EV]) (fun g => by cases g) fun _ => C.exit (.inl ⟨rfl, b.to (.refl _ _) (by simp only [↓reduceIte, EV, Nat.reduceEqDiff]) (by simp only [↓reduceIte, EV, Nat.reduceEqDiff]) (by simp only [↓reduceIte, EV, Nat.reduceEqDiff]) (by simp only [↓reduceIte, EV, Nat.reduceEqDiff]) (by simp only [↓reduceIte, EV, Nat.reduceEqDiff]), bare_miss fun j y j1 j2 => hall j y j1 (by omega)⟩))
  · rintro e tm' h' (⟨rfl, b, hn⟩ | ⟨rfl, hr⟩)
    · show if 2 = 2 then _ else _
      rw [if_pos rfl]
      refine C.seq fun K hK => ?_
      have f0 : aggO (fill [(.int .u8 (0)), (.int .u8 (0)), (.int .u8 (0)), (.slice none 0 0), (.int .u64 (0)), (.bool false), (.string (strB []))] (plc [(0, 1), (1, 1), (2, 3), (5, 1), (6, 1)]) []) = some zA.v := rfl
      have p0 := put7 (s := none) (a := zA) b.b4 rfl rfl
      have b40 := Has.put (x := .rw zA.cells (some 27)) b.b4.1
      have kp0 := put_keep (x := .rw zA.cells (some 27)) b.keep b.lt
      simp only [EV, r35_30, b.t4, f0, p0]
      exact hK _ _ _ (C.ret ⟨rfl, fin35 b40 (by simp only [↓reduceIte, EV, Nat.reduceEqDiff, b.t4]) (by simp only [↓reduceIte, EV]; rfl) (by rw [hn]; rfl) (fun x hx => by rw [hn] at hx; cases hx) kp0⟩)
    · exact ⟨rfl, hr⟩
/-- the document's answer of one line -/
theorem line35_law (L n : Nat) (hL : 2000 ≤ L) {h0 : H} {s : List UInt8} {k : Nat} (hl : s.length < 1000) :
    Sp (CF L (n + 22)) 35 [sv s, .int .u8 (k : Int)] h0 fun r h' => (∃ x : Ans, r = .tuple #[x.v, .bool (lineA k (cutS s)).isSome] ∧ ones x.cells = true ∧ ∀ b, lineA k (cutS s) = some b → x = b) ∧ Keep nobody h0 h' := by
  rw [← one_eq]
  have hO : oneA k s = oneA k s := rfl
  generalize hOe : oneA k s = O at *
  unfold oneA at hOe
  refine Sp.body f35 (by simp) ?_
  unfold c35
  refine C.seq fun K hK => ?_
  have b0 := Has.new h0 (.rw zA.cells (some 27))
  have k0 := Keep.new h0 (.rw zA.cells (some 27))
  have hz : h0.new (.rw [(.int .u8 (0)), (.int .u8 (0)), (.int .u8 (0)), (.slice none 0 0), (.int .u64 (0)), (.bool false), (.string (strB []))] (some 27)) = h0.new (.rw zA.cells (some 27)) := rfl
  simp only [↓EW, EV, Nat.reduceAdd, r35_0, hz]
  generalize h0.new (.rw zA.cells (some 27)) = h1 at *
  refine hK _ _ _ (C.seq fun K hK => ?_)
  simp only [↓reduceIte, EV, Nat.reduceEqDiff, r35_1]
  refine cut_law L (n + 20) (l := s) (by omega) hl (h0 := h1) _ fun r h2 hq => ?_
  obtain ⟨hs, k2, _⟩ := hq
  have kp := k0.then k2
  have b2 := b0.keep0 k2
  refine hK _ _ _ (C.seq fun K hK => ?_)
  have step : ∀ tm, S35 h0 s k r h0.next tm h2 → C ⟨seqC ⟨seqC ⟨r35_3⟩ ⟨blockC 0 (loopB l35_8)⟩⟩ ⟨seqC ⟨seqC ⟨r35_8⟩ ⟨condC ⟨fun _ tm => tg tm 48⟩ ⟨seqC ⟨r35_9⟩ ⟨seqC ⟨seqC ⟨r35_10⟩ ⟨condC ⟨fun _ tm => tg tm 54⟩ ⟨seqC ⟨r35_11⟩ retC⟩ skipC⟩⟩ ⟨seqC ⟨seqC ⟨r35_12⟩ ⟨condC ⟨fun _ tm => tg tm 61⟩ ⟨seqC ⟨r35_13⟩ retC⟩ skipC⟩⟩ ⟨seqC ⟨r35_14⟩ ⟨seqC ⟨r35_15⟩ ⟨seqC ⟨r35_16⟩ retC⟩⟩⟩⟩⟩⟩ skipC⟩⟩ ⟨seqC ⟨seqC ⟨r35_17⟩ ⟨condC ⟨fun _ tm => tg tm 86⟩ ⟨seqC ⟨seqC ⟨r35_18⟩ ⟨condC ⟨fun _ tm => tg tm 96⟩ ⟨seqC ⟨r35_19⟩ retC⟩ skipC⟩⟩ ⟨seqC ⟨r35_20⟩ retC⟩⟩ skipC⟩⟩ ⟨seqC ⟨seqC ⟨r35_21⟩ ⟨blockC 2 (loopB l35_32)⟩⟩ ⟨seqC ⟨r35_30⟩ retC⟩⟩⟩⟩⟩ (CF L (n + 21)) L tm h2 fun e tm' h' => (e = .norm ∨ e = .ret) ∧ ∃ l, q35.f tm' h' = some l ∧ ((∃ x : Ans, resOf l = .tuple #[x.v, .bool O.isSome] ∧ ones x.cells = true ∧ ∀ b, O = some b → x = b) ∧ Keep nobody h0 h') := by
    intro tm a
    refine C.seq ((loop35 L (n + 20) (by omega) a).mono ?_)
    rintro e tm3 h3 (⟨rfl, a3, hw⟩ | ⟨rfl, hw, hr⟩)
    · rw [if_neg hw] at hOe
      show C _ _ _ _ _ _
      refine C.seq (C.seq (reg35_8 L (n + 20) a3 fun h4 k4 => ?_))
      have a4 : S35 h0 s k r h0.next (T.set tm3 48 (.bool (decide (isRow ((cutS s).getD 0 []) k = true ∧ (cutS s).getD 0 [] ≠ endW)))) h4 := a3.to k4 (by simp only [↓reduceIte, EV, Nat.reduceEqDiff]) (by simp only [↓reduceIte, EV, Nat.reduceEqDiff]) (by simp only [↓reduceIte, EV, Nat.reduceEqDiff]) (by simp only [↓reduceIte, EV, Nat.reduceEqDiff]) (by simp only [↓reduceIte, EV, Nat.reduceEqDiff])
      by_cases gr : isRow ((cutS s).getD 0 []) k = true ∧ (cutS s).getD 0 [] ≠ endW
      · rw [if_pos gr] at hOe
        rw [decide_eq_true gr] at a4
        subst hOe
        show C _ _ _ (T.set tm3 48 (.bool (decide (isRow ((cutS s).getD 0 []) k = true ∧ (cutS s).getD 0 [] ≠ endW)))) _ _
        rw [decide_eq_true gr]
        refine C.cond true (by simp only [↓reduceIte, EV]) (fun _ => (br35_row L (n + 19) hL a4).mono ?_) fun g => by cases g
        rintro e tm' h' ⟨rfl, hr⟩
        exact ⟨.inr rfl, hr⟩
      · rw [if_neg gr] at hOe
        rw [decide_eq_false gr] at a4
        show C _ _ _ (T.set tm3 48 (.bool (decide (isRow ((cutS s).getD 0 []) k = true ∧ (cutS s).getD 0 [] ≠ endW)))) _ _
        rw [decide_eq_false gr]
        refine C.cond false (by simp only [↓reduceIte, EV]) (fun g => by cases g) fun _ => C.skip (C.seq (C.seq fun K hK => ?_))
        have hne : 0 < (cutS s).length := List.length_pos_iff.2 (cutS_ne s)
        have hx : (cutS s)[0]? = some ((cutS s).getD 0 []) := by rw [List.getD_eq_getElem?_getD, List.getElem?_eq_getElem hne]; rfl
        obtain ⟨b, o, e1, e2⟩ := a4.st.load hx
        have e1' : indexSl 1 r (.int .i64 0) = some (.pointer (some ⟨b, o, none⟩)) := e1
        have ld := e2 _ a4.st
        have qp : ∀ c, binV Tryd.prog .eql 9 c (sv ((cutS s).getD 0 [])) (.string (strB [80, 85, 83, 72])) = some (.bool (decide ((cutS s).getD 0 [] = pushW))) := fun c => sv_eql 9 c _ pushW
        simp only [↓reduceIte, EV, Nat.reduceEqDiff, r35_17, a3.t6, e1', ld, qp]
        by_cases gp : (cutS s).getD 0 [] = pushW
        · rw [if_pos gp] at hOe
          rw [decide_eq_true gp]
          subst hOe
          refine hK _ _ _ (C.cond true (by simp only [↓reduceIte, EV]) (fun _ => (br35_push L (n + 20) hL (by omega) (a4.to (.refl _ _) (by simp only [↓reduceIte, EV, Nat.reduceEqDiff]) (by simp only [↓reduceIte, EV, Nat.reduceEqDiff]) (by simp only [↓reduceIte, EV, Nat.reduceEqDiff]) (by simp only [↓reduceIte, EV, Nat.reduceEqDiff]) (by simp only [↓reduceIte, EV, Nat.reduceEqDiff]))).mono ?_) fun g => by cases g)
          rintro e tm' h' ⟨rfl, hr⟩
          exact ⟨.inr rfl, hr⟩
        · rw [if_neg gp] at hOe
          rw [decide_eq_false gp]
          subst hOe
          refine hK _ _ _ (C.cond false (by simp only [↓reduceIte, EV]) (fun g => by cases g) fun _ => C.skip ((br35_bare L n hL (a4.to (.refl _ _) (by simp only [↓reduceIte, EV, Nat.reduceEqDiff]) (by simp only [↓reduceIte, EV, Nat.reduceEqDiff]) (by simp only [↓reduceIte, EV, Nat.reduceEqDiff]) (by simp only [↓reduceIte, EV, Nat.reduceEqDiff]) (by simp only [↓reduceIte, EV, Nat.reduceEqDiff]))).mono ?_))
          rintro e tm' h' ⟨rfl, hr⟩
          exact ⟨.inr rfl, hr⟩
    · rw [if_pos hw] at hOe
      subst hOe
      exact ⟨.inr rfl, hr⟩
  by_cases g1 : (1 : Int) ≤ (k : Int)
  · by_cases g2 : (k : Int) ≤ 11
    · have hk : knownB k = true := by unfold knownB; rw [decide_eq_true (by omega), decide_eq_true (by omega)]; rfl
      simp only [↓reduceIte, ↓EW, EV, Nat.reduceEqDiff, r35_2, decide_eq_true g1, decide_eq_true g2]
      exact hK _ _ _ (step _ ⟨by simp only [↓reduceIte, EV, Nat.reduceEqDiff], by simp only [↓reduceIte, EV, Nat.reduceEqDiff], by simp only [↓reduceIte, EV, Nat.reduceEqDiff], by simp only [↓reduceIte, EV, Nat.reduceEqDiff], by simp only [↓reduceIte, EV, hk], b2, Nat.le_refl _, kp, hs⟩)
    · have hk : knownB k = false := by unfold knownB; rw [decide_eq_false (show ¬ k ≤ 11 by omega)]; simp
      simp only [↓reduceIte, ↓EW, EV, Nat.reduceEqDiff, r35_2, decide_eq_true g1, decide_eq_false g2]
      exact hK _ _ _ (step _ ⟨by simp only [↓reduceIte, EV, Nat.reduceEqDiff], by simp only [↓reduceIte, EV, Nat.reduceEqDiff], by simp only [↓reduceIte, EV, Nat.reduceEqDiff], by simp only [↓reduceIte, EV, Nat.reduceEqDiff], by simp only [↓reduceIte, EV, hk], b2, Nat.le_refl _, kp, hs⟩)
  · have hk : knownB k = false := by unfold knownB; rw [decide_eq_false (show ¬ 1 ≤ k by omega)]; simp
    simp only [↓reduceIte, EV, Nat.reduceEqDiff, r35_2, decide_eq_false g1]
    exact hK _ _ _ (step _ ⟨by simp only [↓reduceIte, EV, Nat.reduceEqDiff], by simp only [↓reduceIte, EV, Nat.reduceEqDiff], by simp only [↓reduceIte, EV, Nat.reduceEqDiff], by simp only [↓reduceIte, EV, Nat.reduceEqDiff], by simp only [↓reduceIte, EV, hk], b2, Nat.le_refl _, kp, hs⟩)
end Go.Proofs.YthofbmfcpfibdaaDoor
