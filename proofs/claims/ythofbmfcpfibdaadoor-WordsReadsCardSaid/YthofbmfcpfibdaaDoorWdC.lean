import Derived.Test.YthofbmfcpfibdaaDoorWdB
set_option linter.unusedSimpArgs false
set_option linter.unusedVariables false
namespace Go.Proofs.YthofbmfcpfibdaaDoor
open Go.Ev
noncomputable abbrev CF (L n : Nat) : CallT := callF Tryd.prog (maskOf masks) outside NG L n
end Go.Proofs.YthofbmfcpfibdaaDoor

namespace Go.Proofs.YthofbmfcpfibdaaDoor
open Go.Ev

/-! the data -/
structure Itm where
  key : ByteArray
  val : ByteArray
  flags : Int
  till : Int
  uniq : Int
structure Itm.ok (x : Itm) : Prop where
  flags : 0 ≤ x.flags ∧ x.flags < 4294967296
  till : -9223372036854775808 ≤ x.till ∧ x.till ≤ 9223372036854775807
  uniq : 0 ≤ x.uniq ∧ x.uniq < 18446744073709551616
def Itm.cells (x : Itm) : List Value := [.string x.key, .string x.val, .int .u32 x.flags, .int .i64 x.till, .int .u64 x.uniq]
def Itm.v (x : Itm) : Value := .agg x.cells.toArray

def countsB (c : Int) : Bool := decide (c = 6) || decide (c = 7) || decide (c = 10)
def momentB (t : Int) : Bool := decide (0 ≤ t) && decide (t ≤ 1099511627776)
def Itm.long (x : Itm) : Bool := decide ((x.key.size : Int) < 1) || decide (32 < (x.key.size : Int)) || decide (512 < (x.val.size : Int))
def Itm.err (x : Itm) : Int := if x.long then 3 else if momentB x.till then 0 else 2

theorem words_counts (L n : Nat) (c : Int) (h : H) : Sp (CF L (n + 1)) 46 [.int .u8 c] h fun v h' => v = .bool (countsB c) ∧ h' = h := by
  refine Sp.body f46 (by simp) fun K hK => ?_
  by_cases h1 : c = 6 <;> by_cases h2 : c = 7 <;> by_cases h3 : c = 10 <;>
    simp [c46, seqC, retC, r46_0, r46_1, ↓opStep_eq, h1, h2, h3] <;> exact hK _ _ _ ⟨.inr rfl, _, rfl, by simp [resOf, countsB, h1, h2, h3], rfl⟩
theorem ref_counts (L n : Nat) (c : Int) (h : H) : Sp (CF L (n + 1)) 48 [.int .u8 c] h fun v h' => v = .bool (countsB c) ∧ h' = h := by
  refine Sp.body f48 (by simp) fun K hK => ?_
  by_cases h1 : c = 6 <;> by_cases h2 : c = 7 <;> by_cases h3 : c = 10 <;>
    simp [c48, seqC, retC, r48_0, r48_1, ↓opStep_eq, h1, h2, h3] <;> exact hK _ _ _ ⟨.inr rfl, _, rfl, by simp [resOf, countsB, h1, h2, h3], rfl⟩
theorem ref_moment (L n : Nat) (c : Int) (h : H) : Sp (CF L (n + 1)) 69 [.int .i64 c] h fun v h' => v = .bool (momentB c) ∧ h' = h := by
  refine Sp.body f69 (by simp) fun K hK => ?_
  by_cases h1 : 0 ≤ c <;> by_cases h2 : c ≤ 1099511627776 <;>
    simp [c69, seqC, retC, r69_0, r69_1, h1, h2] <;> exact hK _ _ _ ⟨.inr rfl, _, rfl, by simp [resOf, momentB, h1, h2], rfl⟩

theorem reg33_1 {call : CallT} {L : Nat} {tm : T Value} {h : H} {b : Nat} {K : KE} {k v : Value} {r : List Value} {ks vs : Int} (hl : ∀ o s, loadOne h (.pointer (some ⟨b, o, s⟩)) = (k :: v :: r)[o]?)
   (t1 : tg tm 1 = .pointer (some ⟨b, 0, none⟩)) (hs : lenStr k = some (.int .i64 ks)) (hv : lenStr v = some (.int .i64 vs)) :
    r49_1 call L tm [] h K = K .norm (T.set tm 18 (.bool (decide (ks < 1) || decide (32 < ks) || decide (512 < vs)))) [] h := by
  by_cases h1 : ks < 1
  · simp only [r49_1, ↓opStep_eq, ↓reduceIte, ↓EW, EV, t1, hl, hs, h1, Bool.true_or]
  by_cases h2 : 32 < ks
  · simp only [r49_1, ↓opStep_eq, ↓reduceIte, ↓EW, EV, t1, hl, hs, h1, h2, Bool.true_or, Bool.false_or]
  by_cases h3 : 512 < vs
  · simp only [r49_1, ↓opStep_eq, ↓reduceIte, ↓EW, EV, t1, hl, hs, hv, h1, h2, h3, Bool.false_or]
  · simp only [r49_1, ↓opStep_eq, ↓reduceIte, ↓EW, EV, t1, hl, hs, hv, h1, h2, h3, Bool.false_or]

theorem ref_check (L n : Nat) (x : Itm) (h : H) : Sp (CF L (n + 2)) 49 [x.v] h fun v h' => v = .int .i64 x.err ∧ Keep nobody h h' := by
  refine Sp.body f49 (by simp) fun K hK => ?_
  have hk := Keep.new h (.rw x.cells (some 48))
  have hl : ∀ o s, loadOne (h.new (.rw x.cells (some 48))) (.pointer (some ⟨h.next, o, s⟩)) = [Value.string x.key, .string x.val, .int .u32 x.flags, .int .i64 x.till, .int .u64 x.uniq][o]? := fun o s => loadOne_has (Has.new h (.rw x.cells (some 48))) rfl
  have hc : (Value.cells x.v).toList = x.cells := rfl
  generalize hh : h.new (.rw x.cells (some 48)) = h1 at *
  simp only [c49, r49_0, ↓reduceIte, ↓EW, EV, seqC, retC, skipC, condC, hc, hh]
  rw [reg33_1 hl (by simp only [↓reduceIte, EV, Nat.reduceEqDiff]) (lenStr_string _) (lenStr_string _)]
  have hlong : (decide ((x.key.size : Int) < 1) || decide (32 < (x.key.size : Int)) || decide (512 < (x.val.size : Int))) = x.long := rfl
  rw [hlong]
  cases hx : x.long
  · simp only [r49_3, ↓reduceIte, EV, Nat.reduceEqDiff, hl]
    refine ref_moment L n _ _ _ fun v h' hv => ?_
    obtain ⟨rfl, rfl⟩ := hv
    cases hm : momentB x.till
    · simp only [r49_4, EV]
      exact hK _ _ _ ⟨.inr rfl, _, rfl, by simp [resOf, Itm.err, hx, hm], hk⟩
    · simp only [r49_5, EV]
      exact hK _ _ _ ⟨.inr rfl, _, rfl, by simp [resOf, Itm.err, hx, hm], hk⟩
  · simp only [r49_2, ↓reduceIte, EV]
    exact hK _ _ _ ⟨.inr rfl, _, rfl, by simp [resOf, Itm.err, hx], hk⟩

end Go.Proofs.YthofbmfcpfibdaaDoor

namespace Go.Proofs.YthofbmfcpfibdaaDoor
open Go.Ev

def cellsOf (l : List Itm) : List Value := l.flatMap Itm.cells
@[simp] theorem Itm.cells_len (x : Itm) : x.cells.length = 5 := rfl
theorem cellsOf_len : ∀ l : List Itm, (cellsOf l).length = 5 * l.length
  | [] => rfl
  | x :: l => by
    have := cellsOf_len l
    simp only [cellsOf, List.flatMap_cons, List.length_append, Itm.cells_len, List.length_cons] at *
    omega
theorem cellsOf_drop : ∀ (l : List Itm) (i : Nat) (x : Itm), l[i]? = some x → ((cellsOf l).drop (i * 5)).take 5 = x.cells
  | [], i, x, h => by simp at h
  | y :: l, 0, x, h => by simp at h; subst h; simp [cellsOf, Itm.cells]
  | y :: l, i + 1, x, h => by
    have := cellsOf_drop l i x (by simpa using h)
    rw [show (i + 1) * 5 = i * 5 + 5 by omega]
    simpa [cellsOf, Itm.cells] using this

/-- a slice of items -/
def ItemsAt (h : H) (v : Value) (l : List Itm) : Prop :=
  (v = .slice none 0 0 ∧ l = []) ∨ ∃ b o c x cs, v = .slice (some ⟨b, o, none⟩) l.length c ∧ Has h b x ∧ x.cells? = some cs ∧ o + 5 * l.length ≤ cs.length ∧ (cs.drop o).take (5 * l.length) = cellsOf l
theorem ItemsAt.keep {S : Nat → Prop} {h h' : H} {v : Value} {l : List Itm} (a : ItemsAt h v l) (k : Keep S h h') (hn : ∀ b, blk v b → ¬ S b) : ItemsAt h' v l := by
  rcases a with a | ⟨b, o, c, x, cs, rfl, h1, h2, h3, h4⟩
  · exact .inl a
  · exact .inr ⟨b, o, c, x, cs, rfl, h1.keep k (hn b (by simp)), h2, h3, h4⟩
theorem ItemsAt.keep0 {h h' : H} {v : Value} {l : List Itm} (a : ItemsAt h v l) (k : Keep nobody h h') : ItemsAt h' v l := a.keep k fun _ _ => id
theorem ItemsAt.len {h : H} {v : Value} {l : List Itm} (a : ItemsAt h v l) : lenSl v = some (.int .i64 (l.length : Int)) := by
  rcases a with ⟨rfl, rfl⟩ | ⟨b, o, c, x, cs, rfl, h1, h2, h3, h4⟩ <;> rfl
/-- one of them -/
theorem ItemsAt.at {h : H} {v : Value} {l : List Itm} (a : ItemsAt h v l) {i : Nat} {x : Itm} (hi : l[i]? = some x) :
    ∃ b o, indexSl 5 v (.int .i64 (i : Int)) = some (.pointer (some ⟨b, o, none⟩)) ∧ b < h.next ∧ blk v b ∧ (∀ j s, j < 5 → loadOne h (.pointer (some ⟨b, o + j, s⟩)) = x.cells[j]?) ∧ ∀ s, loadAgg 5 h (.pointer (some ⟨b, o, s⟩)) = some x.v := by
  have hl : i < l.length := by
    by_cases hl : i < l.length
    · exact hl
    · rw [List.getElem?_eq_none (by omega)] at hi; cases hi
  rcases a with ⟨rfl, rfl⟩ | ⟨b, o, c, y, cs, rfl, h1, h2, h3, h4⟩
  · simp at hl
  · have h5 : (cs.drop (o + i * 5)).take 5 = x.cells := by
      rw [← cellsOf_drop l i x hi, ← h4, ← List.drop_drop, List.drop_take, List.take_take, Nat.min_eq_left (by omega)]
    refine ⟨b, o + i * 5, ?_, h1.1, by simp, fun j s hj => ?_, fun s => ?_⟩
    · simp only [indexSl, asNat_nat, addOff]
      rw [Nat.ble_eq_true_of_le (by omega)]
    · rw [loadOne_has h1 h2, ← h5, List.getElem?_take, if_pos hj, List.getElem?_drop]
    · rw [loadAgg_has h1 h2 (by omega), h5]; rfl

theorem wrap_succ (i : Nat) (h : i < 9223372036854775807) : IntKind.i64.wrap ((i : Int) + 1) = ((i + 1 : Nat) : Int) := by
  rw [wrap_eq] <;> simp [IntKind.min, IntKind.max, IntKind.bits, IntKind.signed] <;> omega

end Go.Proofs.YthofbmfcpfibdaaDoor

namespace Go.Proofs.YthofbmfcpfibdaaDoor
open Go.Ev

structure Res where
  kind : Int
  iv : Value
  num : Int
  items : List Itm
structure Ans where
  kind : Int
  of : Int
  r : Res
  yes : Bool
  key : ByteArray
def Res.cells (r : Res) : List Value := [.int .u8 r.kind, r.iv, .int .u64 r.num]
def Res.v (r : Res) : Value := .agg r.cells.toArray
def Ans.cells (a : Ans) : List Value := [.int .u8 a.kind, .int .u8 a.of, .int .u8 a.r.kind, a.r.iv, .int .u64 a.r.num, .bool a.yes, .string a.key]
def Ans.v (a : Ans) : Value := .agg a.cells.toArray

def goodItems (l : List Itm) : Bool := l.all fun x => decide (x.err = 0)
def kindsB (of rk : Int) : Bool := !(decide (of < 1) || decide (11 < of) || decide (rk < 1) || decide (7 < rk))
def manyB (of rk : Int) (n : Int) : Bool := decide (0 < n) && !(decide (rk = 1) && decide (of = 1))
def numB (of rk : Int) (num : Int) : Bool := (!decide (num = 0) && !(decide (rk = 1) && countsB of))
def numB2 (of : Int) (num : Int) : Bool := (decide (of = 10) && decide (8 < num))
def resultB (of : Int) (r : Res) : Bool :=
  kindsB of r.kind && !(manyB of r.kind r.items.length || decide (8 < (r.items.length : Int))) && !(numB of r.kind r.num || numB2 of r.num) && goodItems r.items

section
variable {call : CallT} {L : Nat} {tm : T Value} {h : H} {b : Nat} {K : KE}
end

end Go.Proofs.YthofbmfcpfibdaaDoor

namespace Go.Proofs.YthofbmfcpfibdaaDoor
open Go.Ev

def zeroB (a : Ans) (len : Int) : Bool := decide (a.of = 0) && decide (a.r.kind = 0) && decide (a.r.num = 0) && decide (len = 0)
def yesB (a : Ans) : Bool := a.yes && !decide (a.kind = 2) && !decide (a.kind = 3)
def keyB (a : Ans) (ks : Int) : Bool := if a.kind = 7 then decide (1 ≤ ks) && decide (ks ≤ 32) else decide (ks = 0)
def bodyB (a : Ans) : Bool := if a.kind = 1 then resultB a.of a.r else decide (1 < a.kind) && decide (a.kind ≤ 7) && zeroB a a.r.items.length
/-- which answers may be -/
def mayB (a : Ans) : Bool := bodyB a && keyB a a.key.size && !yesB a

section
variable {call : CallT} {L : Nat} {tm : T Value} {h : H} {b : Nat} {K : KE} {a : Ans}
theorem reg19_1 (hl : ∀ o s, loadOne h (.pointer (some ⟨b, o, s⟩)) = a.cells[o]?) (t1 : tg tm 1 = .pointer (some ⟨b, 0, none⟩)) :
    r24_1 call L tm [] h K = K .norm (T.set tm 26 (.bool (decide (a.kind < 1) || decide (7 < a.kind) || yesB a))) [] h := by
  by_cases h1 : a.kind < 1
  · simp only [r24_1, ↓opStep_eq, ↓reduceIte, ↓EW, EV, Bool.true_or, t1, hl, Ans.cells, h1]
  by_cases h2 : 7 < a.kind
  · simp only [r24_1, ↓opStep_eq, ↓reduceIte, ↓EW, EV, Bool.true_or, Bool.or_true, t1, hl, Ans.cells, h1, h2]
  cases h3 : a.yes
  · simp only [r24_1, ↓opStep_eq, ↓reduceIte, ↓EW, EV, Bool.or_false, Bool.false_and, t1, hl, Ans.cells, h1, h2, h3, yesB]
  by_cases h4 : a.kind = 2
  · simp only [r24_1, ↓opStep_eq, ↓reduceIte, ↓EW, EV, Int.reduceEq, Int.reduceLT, Bool.or_false, Bool.and_true, Bool.and_false, t1, hl, Ans.cells, h3, h4, yesB]
  by_cases h5 : a.kind = 3 <;> simp only [r24_1, ↓opStep_eq, ↓reduceIte, ↓EW, EV, Int.reduceEq, Int.reduceLT, Bool.or_true, Bool.or_false, Bool.and_true, Bool.and_false, t1, hl, Ans.cells, h1, h2, h3, h4, h5, yesB]
theorem reg19_3 (hl : ∀ o s, loadOne h (.pointer (some ⟨b, o, s⟩)) = a.cells[o]?) (t1 : tg tm 1 = .pointer (some ⟨b, 0, none⟩)) {ks : Int} (hn : (a.key.size : Int) = ks) :
    r24_3 call L tm [] h K = K .norm (T.set tm 51 (.bool (!keyB a ks))) [] h := by
  have he := str_nempty (P := Tryd.prog) 9 true a.key
  have hs : lenStr (.string a.key) = some (.int .i64 ks) := by rw [lenStr_string, hn]
  rw [hn] at he
  by_cases h1 : a.kind = 7
  · by_cases h2 : ks < 1
    · have : ¬ 1 ≤ ks := by omega
      simp only [r24_3, ↓opStep_eq, ↓reduceIte, ↓EW, EV, Bool.false_and, t1, hl, Ans.cells, h1, h2, hs, keyB, this]
    have h2' : 1 ≤ ks := by omega
    by_cases h3 : 32 < ks
    · have : ¬ ks ≤ 32 := by omega
      simp only [r24_3, ↓opStep_eq, ↓reduceIte, ↓EW, EV, Bool.and_false, t1, hl, Ans.cells, h1, h2, h3, hs, keyB, this]
    have : ks ≤ 32 := by omega
    simp only [r24_3, ↓opStep_eq, ↓reduceIte, ↓EW, EV, Bool.and_true, t1, hl, Ans.cells, h1, h2, h3, hs, keyB, this, h2']
  · by_cases h2 : ks = 0 <;> simp only [r24_3, ↓opStep_eq, ↓reduceIte, ↓EW, EV, t1, hl, Ans.cells, h1, h2, he, keyB]
theorem reg19_7 {b3 : Nat} (hl : ∀ o s, loadOne h (.pointer (some ⟨b, o, s⟩)) = a.cells[o]?) (t1 : tg tm 1 = .pointer (some ⟨b, 0, none⟩)) (hl3 : ∀ o s, loadOne h (.pointer (some ⟨b3, o, s⟩)) = a.r.cells[o]?) (t3 : tg tm 3 = .pointer (some ⟨b3, 0, none⟩))
    {len : Int} (hn : lenSl a.r.iv = some (.int .i64 len)) : r24_7 call L tm [] h K = K .norm (T.set tm 2 (.bool (zeroB a len))) [] h := by
  by_cases h1 : a.of = 0
  · by_cases h2 : a.r.kind = 0
    · by_cases h3 : a.r.num = 0
      · by_cases h4 : len = 0 <;> simp only [r24_7, ↓opStep_eq, ↓reduceIte, ↓EW, EV, Bool.and_true, Bool.and_false, t1, t3, hl, hl3, Ans.cells, Res.cells, zeroB, hn, h1, h2, h3, h4]
      · simp only [r24_7, ↓opStep_eq, ↓reduceIte, ↓EW, EV, Bool.false_and, Bool.and_true, Bool.and_false, t1, t3, hl, hl3, Ans.cells, Res.cells, zeroB, h1, h2, h3]
    · simp only [r24_7, ↓opStep_eq, ↓reduceIte, ↓EW, EV, Bool.false_and, Bool.and_false, t1, t3, hl, hl3, Ans.cells, Res.cells, zeroB, h1, h2]
  · simp only [r24_7, ↓opStep_eq, ↓reduceIte, ↓EW, EV, Bool.false_and, t1, hl, Ans.cells, zeroB, h1]
theorem reg19_8 {b3 : Nat} (hl : ∀ o s, loadOne h (.pointer (some ⟨b, o, s⟩)) = a.cells[o]?) (t1 : tg tm 1 = .pointer (some ⟨b, 0, none⟩)) (hl3 : ∀ o s, loadOne h (.pointer (some ⟨b3, o, s⟩)) = a.r.cells[o]?) (t3 : tg tm 3 = .pointer (some ⟨b3, 0, none⟩))
    {len : Int} (hn : lenSl a.r.iv = some (.int .i64 len)) : r24_8 call L tm [] h K = K .norm (T.set tm 99 (.bool (!kindsB a.of a.r.kind || decide (8 < len)))) [] h := by
  by_cases h1 : a.of < 1
  · simp only [r24_8, ↓opStep_eq, ↓reduceIte, ↓EW, EV, Bool.true_or, t1, hl, Ans.cells, h1, kindsB]
  by_cases h2 : 11 < a.of
  · simp only [r24_8, ↓opStep_eq, ↓reduceIte, ↓EW, EV, Bool.true_or, Bool.or_true, t1, hl, Ans.cells, h1, h2, kindsB]
  by_cases h3 : a.r.kind < 1
  · simp only [r24_8, ↓opStep_eq, ↓reduceIte, ↓EW, EV, Bool.true_or, Bool.or_true, Bool.or_false, t1, t3, hl, hl3, Ans.cells, Res.cells, h1, h2, h3, kindsB]
  by_cases h4 : 7 < a.r.kind
  · simp only [r24_8, ↓opStep_eq, ↓reduceIte, ↓EW, EV, Bool.true_or, Bool.or_true, Bool.or_false, t1, t3, hl, hl3, Ans.cells, Res.cells, h1, h2, h3, h4, kindsB]
  by_cases h5 : 8 < len <;> simp only [r24_8, ↓opStep_eq, ↓reduceIte, ↓EW, EV, Bool.or_true, Bool.or_false, t1, t3, hl, hl3, Ans.cells, Res.cells, hn, h1, h2, h3, h4, h5, kindsB]
end
end Go.Proofs.YthofbmfcpfibdaaDoor

namespace Go.Proofs.YthofbmfcpfibdaaDoor
open Go.Ev

end Go.Proofs.YthofbmfcpfibdaaDoor

namespace Go.Proofs.YthofbmfcpfibdaaDoor
open Go.Ev

theorem reg19_10 {L n : Nat} {tm : T Value} {h : H} {b b3 : Nat} {K : KE} {a : Ans} (hl : ∀ o s, loadOne h (.pointer (some ⟨b, o, s⟩)) = a.cells[o]?) (t1 : tg tm 1 = .pointer (some ⟨b, 0, none⟩)) (hl3 : ∀ o s, loadOne h (.pointer (some ⟨b3, o, s⟩)) = a.r.cells[o]?) (t3 : tg tm 3 = .pointer (some ⟨b3, 0, none⟩))
    {len : Int} (hn : lenSl a.r.iv = some (.int .i64 len)) (hK : K .norm (T.set tm 139 (.bool (manyB a.of a.r.kind len || numB a.of a.r.kind a.r.num || numB2 a.of a.r.num))) [] h = true) : r24_10 (CF L (n + 1)) L tm [] h K = true := by
  by_cases h1 : 0 < len
  · by_cases h2 : a.of = 1
    · by_cases h3 : a.r.kind = 1
      · have hm : manyB a.of a.r.kind len = false := by simp [manyB, h2, h3]
        rw [hm] at hK
        have hm : True := trivial
        by_cases k1 : a.r.num = 0
        · by_cases k2 : a.of = 10
          · simp only [r24_10, ↓opStep_eq, ↓reduceIte, ↓EW, EV, Int.reduceEq, t1, t3, hl, hl3, Ans.cells, Res.cells, hn, h1, h2, h3, k1]
            exact (congrArg (fun b => K .norm (T.set tm 139 (.bool b)) [] h) (by simp [numB, numB2, k1, k2])).symm.trans hK
          · simp only [r24_10, ↓opStep_eq, ↓reduceIte, ↓EW, EV, Int.reduceEq, t1, t3, hl, hl3, Ans.cells, Res.cells, hn, h1, h2, h3, k1]
            exact (congrArg (fun b => K .norm (T.set tm 139 (.bool b)) [] h) (by simp [numB, numB2, k1, k2])).symm.trans hK
        · simp only [r24_10, ↓opStep_eq, ↓reduceIte, ↓EW, EV, t1, t3, hl, hl3, Ans.cells, Res.cells, hn, h1, h2, h3, k1]
          refine ref_counts L n _ h _ fun v h' hv => ?_
          obtain ⟨rfl, rfl⟩ := hv
          cases k2 : countsB a.of
          · simp only [EV]
            exact (congrArg (fun b => K .norm (T.set tm 139 (.bool b)) [] h') (by simp [numB, numB2, k1, k2])).symm.trans hK
          · rw [h2] at k2; exact absurd k2 (by decide)
      · have hm : manyB a.of a.r.kind len = true := by simp [manyB, h1, h3]
        simp only [r24_10, ↓opStep_eq, ↓reduceIte, ↓EW, EV, t1, t3, hl, hl3, Ans.cells, Res.cells, hn, h1, h2, h3]
        simp only [hm, Bool.true_or] at hK
        exact hK
    · have hm : manyB a.of a.r.kind len = true := by simp [manyB, h1, h2]
      simp only [r24_10, ↓opStep_eq, ↓reduceIte, ↓EW, EV, t1, t3, hl, hl3, Ans.cells, Res.cells, hn, h1, h2]
      simp only [hm, Bool.true_or] at hK
      exact hK
  · have hm : manyB a.of a.r.kind len = false := by simp [manyB, h1]
    rw [hm] at hK
    have hm : True := trivial
    by_cases k1 : a.r.num = 0
    · by_cases k2 : a.of = 10
      · simp only [r24_10, ↓opStep_eq, ↓reduceIte, ↓EW, EV, Int.reduceLT, t1, t3, hl, hl3, Ans.cells, Res.cells, hn, h1, k1, k2]
        exact (congrArg (fun b => K .norm (T.set tm 139 (.bool b)) [] h) (by simp [numB, numB2, k1, k2])).symm.trans hK
      · simp only [r24_10, ↓opStep_eq, ↓reduceIte, ↓EW, EV, t1, t3, hl, hl3, Ans.cells, Res.cells, hn, h1, k1, k2]
        exact (congrArg (fun b => K .norm (T.set tm 139 (.bool b)) [] h) (by simp [numB, numB2, k1, k2])).symm.trans hK
    · simp only [r24_10, ↓opStep_eq, ↓reduceIte, ↓EW, EV, t1, t3, hl, hl3, Ans.cells, Res.cells, hn, h1, k1]
      refine ref_counts L n _ h _ fun v h' hv => ?_
      obtain ⟨rfl, rfl⟩ := hv
      cases k2 : countsB a.of
      · simp only [↓reduceIte, EV]
        exact (congrArg (fun b => K .norm (T.set tm 139 (.bool b)) [] h') (by simp [numB, numB2, k1, k2])).symm.trans hK
      · by_cases k3 : a.r.kind = 1
        · by_cases k4 : a.of = 10
          · by_cases k5 : 8 < a.r.num
            · simp only [↓reduceIte, EV, hl, hl3, Ans.cells, Res.cells, k3, k4, k5]
              exact (congrArg (fun b => K .norm (T.set tm 139 (.bool b)) [] h') (by simp [numB, numB2, k1, k3, k4, k5])).symm.trans hK
            · simp only [↓reduceIte, EV, hl, hl3, Ans.cells, Res.cells, k3, k4, k5]
              exact (congrArg (fun b => K .norm (T.set tm 139 (.bool b)) [] h') (by rw [k4] at k2; simp [numB, numB2, k1, k2, k3, k4, k5])).symm.trans hK
          · simp only [↓reduceIte, EV, hl, hl3, Ans.cells, Res.cells, k3, k4]
            exact (congrArg (fun b => K .norm (T.set tm 139 (.bool b)) [] h') (by simp [numB, numB2, k1, k2, k3, k4])).symm.trans hK
        · simp only [↓reduceIte, EV, hl3, Res.cells, k3]
          exact (congrArg (fun b => K .norm (T.set tm 139 (.bool b)) [] h') (by simp [numB, numB2, k1, k2, k3])).symm.trans hK
end Go.Proofs.YthofbmfcpfibdaaDoor

namespace Go.Proofs.YthofbmfcpfibdaaDoor
open Go.Ev

/-- the reference's look at an answer -/
theorem ref_may (L n : Nat) (a : Ans) (h : H) (hi : ItemsAt h a.r.iv a.r.items) (hL : a.r.items.length < L) (h63 : a.r.items.length < 9223372036854775807) (hones : ones a.r.cells = true) :
    Sp (CF L (n + 3)) 24 [a.v] h fun v h' => v = .bool (mayB a) ∧ Keep nobody h h' := by
  refine Sp.body f24 (by simp) ?_
  have hc : (Value.cells a.v).toList = a.cells := rfl
  have hcr : (Value.cells a.r.v).toList = a.r.cells := rfl
  have hn := hi.len
  have k1 := Keep.new h (.rw a.cells (some 27))
  have b1 := Has.new h (.rw a.cells (some 27))
  generalize hh : h.new (.rw a.cells (some 27)) = h1 at *
  have hl1 : ∀ o s, loadOne h1 (.pointer (some ⟨h.next, o, s⟩)) = a.cells[o]? := fun o s => loadOne_has b1 rfl
  have hl1' : ∀ o s, loadOne h1 (.pointer (some ⟨h.next, o, s⟩)) = [Value.int .u8 a.kind, .int .u8 a.of, .int .u8 a.r.kind, a.r.iv, .int .u64 a.r.num, .bool a.yes, .string a.key][o]? := hl1
  have hla : ∀ s, loadAgg 3 h1 (.pointer (some ⟨h.next, 2, s⟩)) = some a.r.v := fun s => loadAgg_has b1 rfl (by simp [Ans.cells])
  have k2 := keep_alloc h1 (.rw [(.int .u8 (0)), (.slice none 0 0), (.int .u64 (0))] (some 25)) (.rw a.r.cells (some 25))
  have b2 := has_alloc h1 (.rw [(.int .u8 (0)), (.slice none 0 0), (.int .u64 (0))] (some 25)) (.rw a.r.cells (some 25))
  have hst := store_new h1 3 none [(.int .u8 (0)), (.slice none 0 0), (.int .u64 (0))] (some 25) a.r.v rfl rfl hones
  rw [hcr] at hst
  generalize hh2 : (h1.new (.rw [(.int .u8 (0)), (.slice none 0 0), (.int .u64 (0))] (some 25))).put h1.next (.rw a.r.cells (some 25)) = h2 at *
  have hl2 : ∀ o s, loadOne h2 (.pointer (some ⟨h.next, o, s⟩)) = a.cells[o]? := fun o s => loadOne_has (b1.keep0 k2) rfl
  have hl2' : ∀ o s, loadOne h2 (.pointer (some ⟨h.next, o, s⟩)) = [Value.int .u8 a.kind, .int .u8 a.of, .int .u8 a.r.kind, a.r.iv, .int .u64 a.r.num, .bool a.yes, .string a.key][o]? := hl2
  have hl3 : ∀ o s, loadOne h2 (.pointer (some ⟨h1.next, o, s⟩)) = a.r.cells[o]? := fun o s => loadOne_has b2 rfl
  unfold c24
  refine C.seq fun K hK => ?_
  simp only [↓reduceIte, ↓EW, EV, r24_0, hc, hh]
  refine hK _ _ _ (C.seq (C.seq fun K hK => ?_))
  rw [show ∀ x : CodeT, (⟨x⟩ : Box CodeT).f = x from fun _ => rfl]
  rw [reg19_1 hl1 (by simp only [↓reduceIte, EV, Nat.reduceEqDiff])]
  refine hK _ _ _ (C.cond (decide (a.kind < 1) || decide (7 < a.kind) || yesB a) (by simp only [↓reduceIte, EV]) (fun g1 => C.seq fun K hK => hK .norm _ _ (C.ret ⟨.inr rfl, _, rfl, ?_, k1⟩)) fun g1 => C.skip ?_)
  · have : mayB a = false := by
      simp only [Bool.or_eq_true, decide_eq_true_eq] at g1
      rcases g1 with (g | g) | g
      · simp [mayB, bodyB, show ¬ a.kind = 1 by omega, show ¬ 1 < a.kind by omega]
      · simp [mayB, bodyB, show ¬ a.kind = 1 by omega, show ¬ a.kind ≤ 7 by omega]
      · simp [mayB, g]
    simp only [↓reduceIte, EV, resOf, this]
  simp only [Bool.or_eq_false_iff, decide_eq_false_iff_not] at g1
  obtain ⟨⟨g1, g2⟩, g3⟩ := g1
  refine C.seq (C.seq fun K hK => ?_)
  rw [show ∀ x : CodeT, (⟨x⟩ : Box CodeT).f = x from fun _ => rfl]
  rw [reg19_3 hl1 (by simp only [↓reduceIte, EV, Nat.reduceEqDiff]) rfl]
  refine hK _ _ _ (C.cond (!keyB a a.key.size) (by simp only [↓reduceIte, EV]) (fun g4 => C.seq fun K hK => hK .norm _ _ (C.ret ⟨.inr rfl, _, rfl, ?_, k1⟩)) fun g4 => C.skip ?_)
  · have : keyB a a.key.size = false := by simpa using g4
    simp only [↓reduceIte, EV, Bool.false_and, Bool.and_false, resOf, mayB, this]
  have g4 : keyB a a.key.size = true := by simpa using g4
  have hmay : mayB a = bodyB a := by simp only [mayB, g4, g3, nf, Bool.and_true]
  refine C.seq fun K hK => ?_
  simp only [↓reduceIte, ↓EW, EV, Nat.reduceEqDiff, r24_5, hla, hst]
  refine hK _ _ _ (C.seq (C.seq fun K hK => ?_))
  simp only [↓reduceIte, EV, Nat.reduceEqDiff, r24_6, hl2']
  refine hK _ _ _ (C.cond (!decide (a.kind = 1)) (by simp only [↓reduceIte, EV]) (fun g5 => C.seq fun K hK => ?_) fun g5 => C.skip ?_)
  · have g5 : ¬ a.kind = 1 := by simpa using g5
    rw [show ∀ x : CodeT, (⟨x⟩ : Box CodeT).f = x from fun _ => rfl]
    rw [reg19_7 hl2 (by simp only [↓reduceIte, EV, Nat.reduceEqDiff]) hl3 (by simp only [↓reduceIte, EV, Nat.reduceEqDiff]) hn]
    refine hK _ _ _ (C.ret ⟨.inr rfl, _, rfl, ?_, k1.then k2⟩)
    simp only [↓reduceIte, EV, resOf, hmay, bodyB, g5, show 1 < a.kind by omega, show a.kind ≤ 7 by omega, Bool.true_and]
  have g5 : a.kind = 1 := by simpa using g5
  have hbody : bodyB a = resultB a.of a.r := by simp only [bodyB, g5, if_true]
  refine C.seq (C.seq fun K hK => ?_)
  rw [show ∀ x : CodeT, (⟨x⟩ : Box CodeT).f = x from fun _ => rfl]
  rw [reg19_8 hl2 (by simp only [↓reduceIte, EV, Nat.reduceEqDiff]) hl3 (by simp only [↓reduceIte, EV, Nat.reduceEqDiff]) hn]
  refine hK _ _ _ (C.cond (!kindsB a.of a.r.kind || decide (8 < (a.r.items.length : Int))) (by simp only [↓reduceIte, EV]) (fun g6 => C.seq fun K hK => hK .norm _ _ (C.ret ⟨.inr rfl, _, rfl, ?_, k1.then k2⟩)) fun g6 => C.skip ?_)
  · have : resultB a.of a.r = false := by
      rw [Bool.or_eq_true] at g6
      rcases g6 with g | g
      · have : kindsB a.of a.r.kind = false := by simpa using g
        simp only [resultB, this, Bool.false_and]
      · simp only [resultB, g, Bool.or_true, nt, Bool.and_false, Bool.false_and]
    simp only [↓reduceIte, EV, resOf, hmay, hbody, this]
  rw [Bool.or_eq_false_iff] at g6
  have g7 : kindsB a.of a.r.kind = true := by simpa using g6.1
  refine C.seq (C.seq fun K hK => ?_)
  rw [show ∀ x : CodeT, (⟨x⟩ : Box CodeT).f = x from fun _ => rfl]
  refine reg19_10 hl2 (by simp only [↓reduceIte, EV, Nat.reduceEqDiff]) hl3 (by simp only [↓reduceIte, EV, Nat.reduceEqDiff]) hn (hK _ _ _ (C.cond (manyB a.of a.r.kind a.r.items.length || numB a.of a.r.kind a.r.num || numB2 a.of a.r.num) (by simp only [↓reduceIte, EV]) (fun g8 => C.seq fun K hK => hK .norm _ _ (C.ret ⟨.inr rfl, _, rfl, ?_, k1.then k2⟩)) fun g8 => C.skip ?_))
  · have : resultB a.of a.r = false := by
      simp only [resultB, g7, g6.2, Bool.or_false, Bool.true_and]
      revert g8
      cases manyB a.of a.r.kind a.r.items.length <;> cases numB a.of a.r.kind a.r.num <;> cases numB2 a.of a.r.num <;> simp
    simp only [↓reduceIte, EV, resOf, hmay, hbody, this]
  have hres : resultB a.of a.r = goodItems a.r.items := by
    simp only [resultB, g7, g6.2, Bool.or_false, Bool.true_and]
    revert g8
    cases manyB a.of a.r.kind a.r.items.length <;> cases numB a.of a.r.kind a.r.num <;> cases numB2 a.of a.r.num <;> simp
  refine C.seq (C.seq fun K hK => hK .norm _ _ ?_)
  have hi2 := hi.keep0 (k1.then k2)
  refine C.block (C.loop (fun k tm h3 => ∃ i : Nat, k = a.r.items.length - i ∧ i ≤ a.r.items.length ∧ tg tm 3 = .pointer (some ⟨h1.next, 0, none⟩) ∧ tg tm 4 = .int .i64 (i : Int) ∧ goodItems (a.r.items.take i) = true ∧ Keep nobody h2 h3) a.r.items.length hL
    ⟨0, by simp, by simp, by simp only [↓reduceIte, EV, Nat.reduceEqDiff], by simp only [↓reduceIte, EV]; rfl, by simp [goodItems], .refl _ _⟩ ?_)
  rintro k tm h3 ⟨i, rfl, hil, t3, t4, hall, k3⟩
  have hl5 : ∀ o s, loadOne h3 (.pointer (some ⟨h1.next, o, s⟩)) = [Value.int .u8 a.r.kind, a.r.iv, .int .u64 a.r.num][o]? := fun o s => loadOne_has (b2.keep0 k3) rfl
  unfold l24_17
  refine C.seq (C.seq fun K hK => ?_)
  simp only [EV, r24_13, t3, t4, hl5, hn]
  refine hK _ _ _ (C.cond (decide ((i : Int) < a.r.items.length)) (by simp only [↓reduceIte, EV]) (fun hy => C.skip ?_) fun hy => C.exit ?_)
  · have hlt : i < a.r.items.length := by simpa using hy
    obtain ⟨x, hx⟩ : ∃ x, a.r.items[i]? = some x := ⟨a.r.items[i], List.getElem?_eq_getElem hlt⟩
    obtain ⟨b, o, e1, e2, _, e3, e4⟩ := (hi2.keep0 k3).at hx
    refine C.seq (C.block (C.seq fun K hK => ?_))
    simp only [↓reduceIte, EV, Nat.reduceEqDiff, r24_15, t3, t4, hl5, e1, e4]
    refine ref_check L n x h3 _ fun r h4 hr => ?_
    obtain ⟨rfl, k4⟩ := hr
    simp only [EV]
    refine hK _ _ _ (C.cond (!decide (x.err = 0)) (by simp only [↓reduceIte, EV]) (fun hy => C.seq fun K hK => hK .norm _ _ (C.ret ⟨.inr rfl, _, rfl, ?_, (k1.then k2).then (k3.then k4)⟩)) fun hy => C.skip ?_)
    · have : goodItems a.r.items = false := by
        rw [Bool.eq_false_iff]
        intro hg
        have := List.all_eq_true.1 hg x (List.mem_of_getElem? hx)
        simp only [this] at hy
        cases hy
      simp only [↓reduceIte, EV, resOf, hmay, hbody, hres, this]
    · intro K hK
      simp only [↓reduceIte, EV, Nat.reduceEqDiff, r24_14, t4]
      refine hK _ _ _ ⟨a.r.items.length - (i + 1), by omega, i + 1, rfl, by omega, by simp only [↓reduceIte, EV, Nat.reduceEqDiff, t3], ?_, ?_, k3.then k4⟩
      · simp only [↓reduceIte, EV, wrap_succ i (show i < 9223372036854775807 by omega)]
      · rw [List.take_add_one, hx]
        simp only [goodItems, List.all_append] at hall ⊢
        rw [hall]
        simpa using hy
  · have hge : i = a.r.items.length := by simp at hy; omega
    simp only [if_pos]
    refine C.seq fun K hK => hK .norm _ _ (C.ret ⟨.inr rfl, _, rfl, ?_, (k1.then k2).then k3⟩)
    rw [hge, List.take_length] at hall
    simp only [↓reduceIte, EV, resOf, hmay, hbody, hres, hall]
end Go.Proofs.YthofbmfcpfibdaaDoor
