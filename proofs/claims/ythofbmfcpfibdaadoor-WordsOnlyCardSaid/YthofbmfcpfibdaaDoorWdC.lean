import Derived.Test.YthofbmfcpfibdaaDoorWdB
set_option linter.unusedSimpArgs false
set_option linter.unusedVariables false
namespace Go.Proofs.YthofbmfcpfibdaaDoor
open Go.Ev
noncomputable abbrev CF (L n : Nat) : CallT := callF Tryd.prog (maskOf masks) outside NG L n
end Go.Proofs.YthofbmfcpfibdaaDoor

namespace Go.Proofs.YthofbmfcpfibdaaDoor
open Go.Ev

/-! the data -/
structure Itm where
  key : ByteArray
  val : ByteArray
  flags : Int
  till : Int
  uniq : Int
structure Itm.ok (x : Itm) : Prop where
  flags : 0 ≤ x.flags ∧ x.flags < 4294967296
  till : -9223372036854775808 ≤ x.till ∧ x.till ≤ 9223372036854775807
  uniq : 0 ≤ x.uniq ∧ x.uniq < 18446744073709551616
def Itm.cells (x : Itm) : List Value := [.string x.key, .string x.val, .int .u32 x.flags, .int .i64 x.till, .int .u64 x.uniq]
def Itm.v (x : Itm) : Value := .agg x.cells.toArray

def countsB (c : Int) : Bool := decide (c = 6) || decide (c = 7) || decide (c = 10)
def momentB (t : Int) : Bool := decide (0 ≤ t) && decide (t ≤ 1099511627776)
def Itm.long (x : Itm) : Bool := decide ((x.key.size : Int) < 1) || decide (32 < (x.key.size : Int)) || decide (512 < (x.val.size : Int))
def Itm.err (x : Itm) : Int := if x.long then 3 else if momentB x.till then 0 else 2

theorem words_counts (L n : Nat) (c : Int) (h : H) : Sp (CF L (n + 1)) 46 [.int .u8 c] h fun v h' => v = .bool (countsB c) ∧ h' = h := by
  refine Sp.body f46 (by simp) fun K hK => ?_
  by_cases h1 : c = 6 <;> by_cases h2 : c = 7 <;> by_cases h3 : c = 10 <;>
    simp [c46, seqC, retC, r46_0, r46_1, ↓opStep_eq, h1, h2, h3] <;> exact hK _ _ _ ⟨.inr rfl, _, rfl, by simp [resOf, countsB, h1, h2, h3], rfl⟩
theorem item_moment (L n : Nat) (c : Int) (h : H) : Sp (CF L (n + 1)) 70 [.int .i64 c] h fun v h' => v = .bool (momentB c) ∧ h' = h := by
  refine Sp.body f70 (by simp) fun K hK => ?_
  by_cases h1 : 0 ≤ c <;> by_cases h2 : c ≤ 1099511627776 <;>
    simp [c70, seqC, retC, r70_0, r70_1, h1, h2] <;> exact hK _ _ _ ⟨.inr rfl, _, rfl, by simp [resOf, momentB, h1, h2], rfl⟩
theorem item_check (L n : Nat) (x : Itm) (h : H) : Sp (CF L (n + 2)) 55 [x.v] h fun v h' => v = .int .i64 x.err ∧ Keep nobody h h' := by
  refine Sp.body f55 (by simp) fun K hK => ?_
  have hk := Keep.new h (.rw [.string x.key, .string x.val, .int .u32 x.flags, .int .i64 x.till, .int .u64 x.uniq] (some 48))
  have hs := lenStr_string x.key
  have hv := lenStr_string x.val
  have he : x.err = if (decide ((x.key.size : Int) < 1) || decide (32 < (x.key.size : Int)) || decide (512 < (x.val.size : Int))) = true then 3 else if momentB x.till then 0 else 2 := rfl
  generalize (x.key.size : Int) = ks at hs he
  generalize (x.val.size : Int) = vs at hv he
  by_cases h1 : ks < 1
  · simp [c55, seqC, retC, skipC, blockC, condC, Itm.v, r55_0, r55_1, r55_4, Itm.cells, -lenStr_string, hs, h1]
    exact hK _ _ _ ⟨.inr rfl, _, rfl, by simp [resOf, he, h1], hk⟩
  by_cases h2 : 32 < ks
  · simp [c55, seqC, retC, skipC, blockC, condC, Itm.v, r55_0, r55_1, r55_2, r55_4, Itm.cells, -lenStr_string, hs, h1, h2]
    exact hK _ _ _ ⟨.inr rfl, _, rfl, by simp [resOf, he, h1, h2], hk⟩
  by_cases h3 : 512 < vs
  · simp [c55, seqC, retC, skipC, blockC, condC, Itm.v, r55_0, r55_1, r55_2, r55_3, r55_4, Itm.cells, -lenStr_string, hs, hv, h1, h2, h3]
    exact hK _ _ _ ⟨.inr rfl, _, rfl, by simp [resOf, he, h1, h2, h3], hk⟩
  simp [c55, seqC, retC, skipC, blockC, condC, Itm.v, r55_0, r55_1, r55_2, r55_3, r55_5, r55_6, r55_7, Itm.cells, -lenStr_string, hs, hv, h1, h2, h3]
  refine item_moment L n _ _ _ fun v h' hv => ?_
  obtain ⟨rfl, rfl⟩ := hv
  cases hm : momentB x.till <;> simp
  · exact hK _ _ _ ⟨.inr rfl, _, rfl, by simp [resOf, he, h1, h2, h3, hm], hk⟩
  · exact hK _ _ _ ⟨.inr rfl, _, rfl, by simp [resOf, he, h1, h2, h3, hm], hk⟩

theorem words_result1 (L n : Nat) (x : Itm) (h : H) : Sp (CF L (n + 3)) 54 [x.v] h fun v h' => v = .bool (!decide (x.err = 0)) ∧ Keep nobody h h' := by
  refine Sp.body f54 (by simp) fun K hK => ?_
  have hk := Keep.new h (.rw x.cells (some 48))
  simp [c54, seqC, retC, r54_0, r54_1, Itm.v, loadAgg_new _ x.cells _ 5 _ rfl]
  refine item_check L n x _ _ fun v h' hv => ?_
  obtain ⟨rfl, h2⟩ := hv
  simp
  exact hK _ _ _ ⟨.inr rfl, _, rfl, rfl, hk.then h2⟩
end Go.Proofs.YthofbmfcpfibdaaDoor

namespace Go.Proofs.YthofbmfcpfibdaaDoor
open Go.Ev

def cellsOf (l : List Itm) : List Value := l.flatMap Itm.cells
@[simp] theorem Itm.cells_len (x : Itm) : x.cells.length = 5 := rfl
theorem cellsOf_len : ∀ l : List Itm, (cellsOf l).length = 5 * l.length
  | [] => rfl
  | x :: l => by
    have := cellsOf_len l
    simp only [cellsOf, List.flatMap_cons, List.length_append, Itm.cells_len, List.length_cons] at *
    omega
theorem cellsOf_drop : ∀ (l : List Itm) (i : Nat) (x : Itm), l[i]? = some x → ((cellsOf l).drop (i * 5)).take 5 = x.cells
  | [], i, x, h => by simp at h
  | y :: l, 0, x, h => by simp at h; subst h; simp [cellsOf, Itm.cells]
  | y :: l, i + 1, x, h => by
    have := cellsOf_drop l i x (by simpa using h)
    rw [show (i + 1) * 5 = i * 5 + 5 by omega]
    simpa [cellsOf, Itm.cells] using this

/-- a slice of items -/
def ItemsAt (h : H) (v : Value) (l : List Itm) : Prop :=
  (v = .slice none 0 0 ∧ l = []) ∨ ∃ b o c x cs, v = .slice (some ⟨b, o, none⟩) l.length c ∧ Has h b x ∧ x.cells? = some cs ∧ o + 5 * l.length ≤ cs.length ∧ (cs.drop o).take (5 * l.length) = cellsOf l
theorem ItemsAt.keep {S : Nat → Prop} {h h' : H} {v : Value} {l : List Itm} (a : ItemsAt h v l) (k : Keep S h h') (hn : ∀ b, blk v b → ¬ S b) : ItemsAt h' v l := by
  rcases a with a | ⟨b, o, c, x, cs, rfl, h1, h2, h3, h4⟩
  · exact .inl a
  · exact .inr ⟨b, o, c, x, cs, rfl, h1.keep k (hn b (by simp)), h2, h3, h4⟩
theorem ItemsAt.keep0 {h h' : H} {v : Value} {l : List Itm} (a : ItemsAt h v l) (k : Keep nobody h h') : ItemsAt h' v l := a.keep k fun _ _ => id
theorem ItemsAt.len {h : H} {v : Value} {l : List Itm} (a : ItemsAt h v l) : lenSl v = some (.int .i64 (l.length : Int)) := by
  rcases a with ⟨rfl, rfl⟩ | ⟨b, o, c, x, cs, rfl, h1, h2, h3, h4⟩ <;> rfl
/-- one of them -/
theorem ItemsAt.at {h : H} {v : Value} {l : List Itm} (a : ItemsAt h v l) {i : Nat} {x : Itm} (hi : l[i]? = some x) :
    ∃ b o, indexSl 5 v (.int .i64 (i : Int)) = some (.pointer (some ⟨b, o, none⟩)) ∧ b < h.next ∧ blk v b ∧ (∀ j s, j < 5 → loadOne h (.pointer (some ⟨b, o + j, s⟩)) = x.cells[j]?) ∧ ∀ s, loadAgg 5 h (.pointer (some ⟨b, o, s⟩)) = some x.v := by
  have hl : i < l.length := by
    by_cases hl : i < l.length
    · exact hl
    · rw [List.getElem?_eq_none (by omega)] at hi; cases hi
  rcases a with ⟨rfl, rfl⟩ | ⟨b, o, c, y, cs, rfl, h1, h2, h3, h4⟩
  · simp at hl
  · have h5 : (cs.drop (o + i * 5)).take 5 = x.cells := by
      rw [← cellsOf_drop l i x hi, ← h4, ← List.drop_drop, List.drop_take, List.take_take, Nat.min_eq_left (by omega)]
    refine ⟨b, o + i * 5, ?_, h1.1, by simp, fun j s hj => ?_, fun s => ?_⟩
    · simp only [indexSl, asNat_nat, addOff]
      rw [Nat.ble_eq_true_of_le (by omega)]
    · rw [loadOne_has h1 h2, ← h5, List.getElem?_take, if_pos hj, List.getElem?_drop]
    · rw [loadAgg_has h1 h2 (by omega), h5]; rfl

theorem wrap_succ (i : Nat) (h : i < 9223372036854775807) : IntKind.i64.wrap ((i : Int) + 1) = ((i + 1 : Nat) : Int) := by
  rw [wrap_eq] <;> simp [IntKind.min, IntKind.max, IntKind.bits, IntKind.signed] <;> omega

theorem index_func (L n : Nat) (v : Value) (l : List Itm) (h : H) (hi : ItemsAt h v l) (hL : l.length < L) (h63 : l.length < 9223372036854775807) :
    Sp (CF L (n + 4)) 40 [v, .func (.func 54) #[] #[]] h fun r h' => (∃ k : Int, r = .int .i64 k ∧ decide (0 ≤ k) = l.any fun x => !decide (x.err = 0)) ∧ Keep nobody h h' := by
  refine Sp.body f40 (by simp) ?_
  unfold c40
  refine C.seq fun K hK => hK .norm _ _ ?_
  refine C.seq (C.seq fun K hK => ?_)
  simp [r40_1, hi.len]
  refine hK .norm _ _ ?_
  refine C.block (C.loop (fun k tm h1 => ∃ i : Nat, k = l.length - i ∧ i ≤ l.length ∧ tg tm 0 = v ∧ tg tm 1 = .func (.func 54) #[] #[] ∧ tg tm 7 = .int .i64 (l.length : Int) ∧ tg tm 8 = .int .i64 (i : Int) ∧ (l.take i).all (fun x => decide (x.err = 0)) = true ∧ Keep nobody h h1) l.length hL
    ⟨0, by simp, by simp, by simp, by simp, by simp, by simp, by simp, .refl _ _⟩ ?_)
  rintro k tm h1 ⟨i, rfl, hil, t0, t1, t7, t8, hall, hk⟩
  unfold l40_7
  refine C.seq fun K hK => ?_
  simp only [r40_2, t7, t8, binV_lss, kO_some]
  refine hK .norm _ _ (C.seq (C.cond (decide ((i : Int) < l.length)) (by simp) (fun hy => C.skip ?_) fun hy => C.exit ?_))
  · have hlt : i < l.length := by simpa using hy
    obtain ⟨x, hx⟩ : ∃ x, l[i]? = some x := ⟨l[i], List.getElem?_eq_getElem hlt⟩
    obtain ⟨b, o, e1, e2, _, e3, e4⟩ := (hi.keep0 hk).at hx
    refine C.seq (C.block (C.seq fun K hK => ?_))
    refine hK .norm _ _ (C.seq fun K hK => ?_)
    simp [r40_4, t0, t1, t8, e1, e4, goCall, funcArgs]
    refine words_result1 L n x h1 _ fun r h2 hr => ?_
    obtain ⟨rfl, hk2⟩ := hr
    refine hK .norm _ _ (C.cond (!decide (x.err = 0)) (by simp) (fun hy => ?_) fun hy => C.skip ?_)
    · refine C.seq fun K hK => ?_
      simp [r40_5]
      refine hK .norm _ _ (C.ret ⟨.inr rfl, _, rfl, ⟨i, by simp [resOf], ?_⟩, hk.then hk2⟩)
      rw [decide_eq_true (by omega)]
      symm
      rw [List.any_eq_true]
      exact ⟨x, List.mem_of_getElem? hx, hy⟩
    · intro K hK
      simp [r40_6, t8]
      refine hK .norm _ _ ⟨l.length - (i + 1), by omega, i + 1, rfl, by omega, by simp [t0], by simp [t1], by simp [t7], ?_, ?_, hk.then hk2⟩
      · simp [wrap_succ i (by omega)]
      · rw [List.take_add_one, hx]
        simp only [List.all_append, hall, Bool.true_and]
        simpa using hy
  · have hge : i = l.length := by simp at hy; omega
    simp only [if_pos]
    refine C.seq fun K hK => hK .norm _ _ (C.ret ⟨.inr rfl, _, rfl, ⟨-1, by simp [resOf], ?_⟩, hk⟩)
    rw [hge, List.take_length] at hall
    rw [decide_eq_false (by omega)]
    symm
    rw [List.any_eq_false]
    intro x hx
    have := List.all_eq_true.1 hall x hx
    simpa using this

theorem contains_func (L n : Nat) (v : Value) (l : List Itm) (h : H) (hi : ItemsAt h v l) (hL : l.length < L) (h63 : l.length < 9223372036854775807) :
    Sp (CF L (n + 5)) 19 [v, .func (.func 54) #[] #[]] h fun r h' => r = .bool (l.any fun x => !decide (x.err = 0)) ∧ Keep nobody h h' := by
  refine Sp.body f19 (by simp) fun K hK => ?_
  simp [c19, seqC, retC, r19_0, r19_1]
  refine index_func L n v l h hi hL h63 _ fun r h2 hr => ?_
  obtain ⟨⟨k, rfl, hk⟩, h3⟩ := hr
  simp [hk]
  exact hK _ _ _ ⟨.inr rfl, _, rfl, by simp [resOf], h3⟩

end Go.Proofs.YthofbmfcpfibdaaDoor

namespace Go.Proofs.YthofbmfcpfibdaaDoor
open Go.Ev

structure Res where
  kind : Int
  iv : Value
  num : Int
  items : List Itm
structure Ans where
  kind : Int
  of : Int
  r : Res
  yes : Bool
  key : ByteArray
def Res.cells (r : Res) : List Value := [.int .u8 r.kind, r.iv, .int .u64 r.num]
def Res.v (r : Res) : Value := .agg r.cells.toArray
def Ans.cells (a : Ans) : List Value := [.int .u8 a.kind, .int .u8 a.of, .int .u8 a.r.kind, a.r.iv, .int .u64 a.r.num, .bool a.yes, .string a.key]
def Ans.v (a : Ans) : Value := .agg a.cells.toArray

def goodItems (l : List Itm) : Bool := l.all fun x => decide (x.err = 0)
def kindsB (of rk : Int) : Bool := !(decide (of < 1) || decide (11 < of) || decide (rk < 1) || decide (7 < rk))
def manyB (of rk : Int) (n : Int) : Bool := decide (0 < n) && !(decide (rk = 1) && decide (of = 1))
def numB (of rk : Int) (num : Int) : Bool := (!decide (num = 0) && !(decide (rk = 1) && countsB of))
def numB2 (of : Int) (num : Int) : Bool := (decide (of = 10) && decide (8 < num))
def resultB (of : Int) (r : Res) : Bool :=
  kindsB of r.kind && !(manyB of r.kind r.items.length || decide (8 < (r.items.length : Int))) && !(numB of r.kind r.num || numB2 of r.num) && goodItems r.items

theorem any_good (l : List Itm) : (l.any fun x => !decide (x.err = 0)) = !goodItems l := by
  simp [goodItems, List.any_eq_not_all_not]

section
variable {call : CallT} {L : Nat} {tm : T Value} {h : H} {b : Nat} {K : KE}
theorem reg27_7 {r : Res} (hl : ∀ o s, loadOne h (.pointer (some ⟨b, o, s⟩)) = r.cells[o]?) {of len : Int} (hn : lenSl r.iv = some (.int .i64 len)) (t0 : tg tm 0 = .int .u8 of) (t3 : tg tm 3 = .pointer (some ⟨b, 0, none⟩)) (t5 : tg tm 5 = .bool (decide (r.kind = 1))) :
    r27_7 call L tm [] h K = K .norm (T.set tm 20 (.bool (manyB of r.kind len))) [] h := by
  by_cases h1 : 0 < len
  · by_cases h2 : r.kind = 1
    · by_cases h3 : of = 1 <;> simp [r27_7, ↓opStep_eq, t0, t3, t5, hl, hn, Res.cells, h1, h2, h3, manyB]
    · simp [r27_7, ↓opStep_eq, t3, t5, hl, hn, Res.cells, h1, h2, manyB]
  · simp [r27_7, ↓opStep_eq, t3, hl, hn, Res.cells, h1, manyB]
theorem reg27_10 {n : Nat} {r : Res} (hl : ∀ o s, loadOne h (.pointer (some ⟨b, o, s⟩)) = r.cells[o]?) {of : Int} (t0 : tg tm 0 = .int .u8 of) (t3 : tg tm 3 = .pointer (some ⟨b, 0, none⟩)) (t5 : tg tm 5 = .bool (decide (r.kind = 1)))
    (hK : K .norm (T.set tm 37 (.bool (numB of r.kind r.num))) [] h = true) : r27_10 (CF L (n + 1)) L tm [] h K = true := by
  by_cases h1 : r.num = 0
  · simp [r27_10, ↓opStep_eq, t3, hl, Res.cells, h1]
    simpa [numB, h1] using hK
  · by_cases h2 : r.kind = 1
    · simp [r27_10, ↓opStep_eq, t0, t3, t5, hl, Res.cells, h1, h2]
      refine words_counts L n of h _ fun v h' hv => ?_
      obtain ⟨rfl, rfl⟩ := hv
      simp
      simpa [numB, h1, h2] using hK
    · simp [r27_10, ↓opStep_eq, t3, t5, hl, Res.cells, h1, h2]
      simpa [numB, h1, h2] using hK
theorem reg27_11 {r : Res} (hl : ∀ o s, loadOne h (.pointer (some ⟨b, o, s⟩)) = r.cells[o]?) {of : Int} (t0 : tg tm 0 = .int .u8 of) (t3 : tg tm 3 = .pointer (some ⟨b, 0, none⟩)) :
    r27_11 call L tm [] h K = K .norm (T.set tm 37 (.bool (numB2 of r.num))) [] h := by
  by_cases h1 : of = 10
  · by_cases h2 : 8 < r.num <;> simp [r27_11, ↓opStep_eq, t0, t3, hl, Res.cells, h1, h2, numB2]
  · simp [r27_11, ↓opStep_eq, t0, h1, numB2]
end

theorem words_result (L n : Nat) (of : Int) (r : Res) (h : H) (hi : ItemsAt h r.iv r.items) (hL : r.items.length < L) (h63 : r.items.length < 9223372036854775807) :
    Sp (CF L (n + 6)) 27 [.int .u8 of, r.v] h fun v h' => v = .bool (resultB of r) ∧ Keep nobody h h' := by
  refine Sp.body f27 (by simp) fun K hK => ?_
  have hk := Keep.new h (.rw r.cells (some 25))
  have hl : ∀ o s, loadOne (h.new (.rw r.cells (some 25))) (.pointer (some ⟨h.next, o, s⟩)) = r.cells[o]? := fun o s => loadOne_has (Has.new h (.rw r.cells (some 25))) rfl
  have fin : ∀ (tm : T Value) (h' : H), tg tm 4 = .bool (resultB of r) → Keep nobody (h.new (.rw r.cells (some 25))) h' → K .ret tm [] h' = true := fun tm h' e1 e2 => hK _ _ _ ⟨.inr rfl, _, rfl, by simp [resOf, e1], hk.then e2⟩
  have hcs : (r.v.cells).toList = r.cells := rfl
  have hn := hi.len
  obtain ⟨len, hlen⟩ : ∃ len : Int, (r.items.length : Int) = len := ⟨_, rfl⟩
  rw [hlen] at hn
  have hkk : ∀ o s, loadOne (h.new (.rw r.cells (some 25))) (.pointer (some ⟨h.next, o, s⟩)) = [Value.int .u8 r.kind, r.iv, Value.int .u64 r.num][o]? := hl
  have hi2 := hi.keep0 hk
  generalize hh : h.new (.rw r.cells (some 25)) = h1 at *
  have stop : ∀ (tm : T Value), resultB of r = false → K .ret (tm.set 4 (.bool false)) [] h1 = true := fun tm e => fin _ _ (by simp [e]) (.refl _ _)
  simp only [c27, seqC, retC, skipC, blockC, condC]
  simp [r27_0, hcs, hh, r27_1, hkk]
  by_cases h1 : of < 1
  · simp [r27_2, r27_6, h1]; exact stop _ (by simp [resultB, kindsB, h1])
  by_cases h2 : 11 < of
  · simp [r27_2, r27_3, r27_6, h1, h2]; exact stop _ (by simp [resultB, kindsB, h2])
  by_cases h3 : r.kind < 1
  · simp [r27_2, r27_3, r27_4, hkk, r27_6, h1, h2, h3]; exact stop _ (by simp [resultB, kindsB, h3])
  by_cases h4 : 7 < r.kind
  · simp [r27_2, r27_3, r27_4, r27_5, hkk, r27_6, h1, h2, h3, h4]; exact stop _ (by simp [resultB, kindsB, h4])
  simp [r27_2, r27_3, r27_4, r27_5, hkk, h1, h2, h3, h4]
  rw [reg27_7 hl hn (of := of) (by simp) (by simp) (by simp)]
  cases hm : manyB of r.kind len
  rotate_left
  · simp [r27_9]; exact stop _ (by simp [resultB, hlen, hm])
  by_cases h8 : 8 < len
  · simp [r27_8, r27_9, hkk, hn, h8]; exact stop _ (by simp [resultB, hlen, h8])
  simp [r27_8, hkk, hn, h8]
  refine reg27_10 hl (of := of) (by simp) (by simp) (by simp) ?_
  cases hb : numB of r.kind r.num
  rotate_left
  · simp [r27_12]; exact stop _ (by simp [resultB, hb])
  simp
  rw [reg27_11 hl (of := of) (by simp) (by simp)]
  cases hc : numB2 of r.num
  rotate_left
  · simp [r27_12]; exact stop _ (by simp [resultB, hc])
  simp [r27_13, hkk]
  refine contains_func L n r.iv r.items _ hi2 hL h63 _ fun v h' hv => ?_
  obtain ⟨rfl, hk2⟩ := hv
  simp
  exact fin _ _ (by simp [resultB, kindsB, hlen, h1, h2, h3, h4, h8, hm, hb, hc, any_good]) hk2
end Go.Proofs.YthofbmfcpfibdaaDoor

namespace Go.Proofs.YthofbmfcpfibdaaDoor
open Go.Ev

def zeroB (a : Ans) (len : Int) : Bool := decide (a.of = 0) && decide (a.r.kind = 0) && decide (a.r.num = 0) && decide (len = 0)
def yesB (a : Ans) : Bool := a.yes && !decide (a.kind = 2) && !decide (a.kind = 3)
def keyB (a : Ans) (ks : Int) : Bool := if a.kind = 7 then decide (1 ≤ ks) && decide (ks ≤ 32) else decide (ks = 0)
def bodyB (a : Ans) : Bool := if a.kind = 1 then resultB a.of a.r else decide (1 < a.kind) && decide (a.kind ≤ 7) && zeroB a a.r.items.length
/-- which answers may be -/
def mayB (a : Ans) : Bool := bodyB a && keyB a a.key.size && !yesB a

section
variable {call : CallT} {L : Nat} {tm : T Value} {h : H} {b : Nat} {K : KE} {a : Ans}
theorem reg15_4 (hl : ∀ o s, loadOne h (.pointer (some ⟨b, o, s⟩)) = a.cells[o]?) (t1 : tg tm 1 = .pointer (some ⟨b, 0, none⟩)) :
    r11_4 call L tm [] h K = K .norm (T.set tm 13 (.bool (decide (1 < a.kind) && decide (a.kind ≤ 7)))) [] h := by
  by_cases h1 : 1 < a.kind <;> by_cases h2 : a.kind ≤ 7 <;> simp only [r11_4, ↓opStep_eq, ↓reduceIte, ↓EW, EV, Bool.and_true, Bool.and_false, t1, hl, Ans.cells, h1, h2]
theorem reg15_5 (hl : ∀ o s, loadOne h (.pointer (some ⟨b, o, s⟩)) = a.cells[o]?) (t1 : tg tm 1 = .pointer (some ⟨b, 0, none⟩)) {len : Int} (hn : lenSl a.r.iv = some (.int .i64 len)) :
    r11_5 call L tm [] h K = K .norm (T.set tm 3 (.bool (zeroB a len))) [] h := by
  by_cases h1 : a.of = 0
  · by_cases h2 : a.r.kind = 0
    · by_cases h3 : a.r.num = 0
      · by_cases h4 : len = 0 <;> simp only [r11_5, ↓opStep_eq, ↓reduceIte, ↓EW, EV, Nat.reduceAdd, Bool.and_true, Bool.and_false, t1, hl, Ans.cells, zeroB, hn, h1, h2, h3, h4]
      · simp only [r11_5, ↓opStep_eq, ↓reduceIte, ↓EW, EV, Nat.reduceAdd, Bool.false_and, Bool.and_true, Bool.and_false, t1, hl, Ans.cells, zeroB, h1, h2, h3]
    · simp only [r11_5, ↓opStep_eq, ↓reduceIte, ↓EW, EV, Bool.false_and, Bool.and_false, t1, hl, Ans.cells, zeroB, h1, h2]
  · simp only [r11_5, ↓opStep_eq, ↓reduceIte, ↓EW, EV, Bool.false_and, t1, hl, Ans.cells, zeroB, h1]
theorem reg15_7 (hl : ∀ o s, loadOne h (.pointer (some ⟨b, o, s⟩)) = a.cells[o]?) (t1 : tg tm 1 = .pointer (some ⟨b, 0, none⟩)) {g : Bool} (t3 : tg tm 3 = .bool g) {ks : Int} (hn : lenStr (.string a.key) = some (.int .i64 ks)) :
    r11_7 call L tm [] h K = K .norm (T.set tm 3 (.bool (g && decide (1 ≤ ks) && decide (ks ≤ 32)))) [] h := by
  cases g
  · simp only [r11_7, ↓opStep_eq, ↓reduceIte, ↓EW, EV, Bool.false_and, t3]
  · by_cases h1 : 1 ≤ ks
    · by_cases h2 : ks ≤ 32 <;> simp only [r11_7, ↓opStep_eq, ↓reduceIte, ↓EW, EV, Bool.and_true, Bool.and_false, t1, t3, hl, Ans.cells, hn, h1, h2]
    · simp only [r11_7, ↓opStep_eq, ↓reduceIte, ↓EW, EV, Bool.false_and, Bool.and_false, t1, t3, hl, Ans.cells, hn, h1]
theorem reg15_8 (hl : ∀ o s, loadOne h (.pointer (some ⟨b, o, s⟩)) = a.cells[o]?) (t1 : tg tm 1 = .pointer (some ⟨b, 0, none⟩)) {g : Bool} (t3 : tg tm 3 = .bool g) {ks : Int} (hn : (a.key.size : Int) = ks) :
    r11_8 call L tm [] h K = K .norm (T.set tm 3 (.bool (g && decide (ks = 0)))) [] h := by
  have he := str_empty (P := Tryd.prog) 9 true a.key
  rw [hn] at he
  cases g
  · simp only [r11_8, ↓opStep_eq, ↓reduceIte, ↓EW, EV, Bool.false_and, t3]
  · by_cases h1 : ks = 0 <;> simp only [r11_8, ↓opStep_eq, ↓reduceIte, ↓EW, EV, Bool.and_true, Bool.and_false, t1, t3, hl, Ans.cells, he, h1]
theorem reg15_9 (hl : ∀ o s, loadOne h (.pointer (some ⟨b, o, s⟩)) = a.cells[o]?) (t1 : tg tm 1 = .pointer (some ⟨b, 0, none⟩)) {g : Bool} (t3 : tg tm 3 = .bool g) :
    r11_9 call L tm [] h K = K .norm (T.set tm 81 (.bool (!g || yesB a))) [] h := by
  cases g
  · simp only [r11_9, ↓opStep_eq, ↓reduceIte, ↓EW, EV, Bool.true_or, t3]
  · cases h1 : a.yes
    · simp only [r11_9, ↓opStep_eq, ↓reduceIte, ↓EW, EV, Bool.or_false, Bool.false_and, t1, t3, hl, Ans.cells, h1, yesB]
    · by_cases h2 : a.kind = 2
      · simp only [r11_9, ↓opStep_eq, ↓reduceIte, ↓EW, EV, Int.reduceEq, Bool.or_false, Bool.and_true, Bool.and_false, t1, t3, hl, Ans.cells, h1, h2, yesB]
      · by_cases h3 : a.kind = 3 <;> simp only [r11_9, ↓opStep_eq, ↓reduceIte, ↓EW, EV, Int.reduceEq, Bool.or_true, Bool.or_false, Bool.and_true, Bool.and_false, t1, t3, hl, Ans.cells, h1, h2, h3, yesB]

end
end Go.Proofs.YthofbmfcpfibdaaDoor

namespace Go.Proofs.YthofbmfcpfibdaaDoor
open Go.Ev

theorem words_check (L n : Nat) (a : Ans) (h : H) (hi : ItemsAt h a.r.iv a.r.items) (hL : a.r.items.length < L) (h63 : a.r.items.length < 9223372036854775807) :
    Sp (CF L (n + 7)) 11 [a.v] h fun v h' => v = .int .i64 (if mayB a then 0 else 8) ∧ Keep nobody h h' := by
  refine Sp.body f11 (by simp) ?_
  have hk := Keep.new h (.rw a.cells (some 27))
  have hl : ∀ o s, loadOne (h.new (.rw a.cells (some 27))) (.pointer (some ⟨h.next, o, s⟩)) = a.cells[o]? := fun o s => loadOne_has (Has.new h (.rw a.cells (some 27))) rfl
  have hla : ∀ s, loadAgg 3 (h.new (.rw a.cells (some 27))) (.pointer (some ⟨h.next, 2, s⟩)) = some a.r.v := fun s => loadAgg_has (Has.new h (.rw a.cells (some 27))) rfl (by simp [Ans.cells])
  have hc : (Value.cells a.v).toList = a.cells := rfl
  have hi2 := hi.keep0 hk
  have hn := hi.len
  have hhas := Has.new h (.rw a.cells (some 27))
  generalize hh : h.new (.rw a.cells (some 27)) = h1 at *
  -- behind the kinds
  have tail : ∀ (tm : T Value) (h2 : H), tg tm 1 = .pointer (some ⟨h.next, 0, none⟩) → tg tm 3 = .bool (bodyB a) → Keep nobody h1 h2 →
      C ⟨seqC ⟨seqC ⟨r11_6⟩ ⟨condC ⟨fun _ tm => tg tm 46⟩ ⟨r11_7⟩ ⟨r11_8⟩⟩⟩ ⟨seqC ⟨seqC ⟨r11_9⟩ ⟨condC ⟨fun _ tm => tg tm 81⟩ ⟨seqC ⟨r11_10⟩ retC⟩ skipC⟩⟩ ⟨seqC ⟨r11_11⟩ retC⟩⟩⟩ (CF L (n + 6)) L tm h2
        fun e tm h' => e = .ret ∧ tg tm 2 = .int .i64 (if mayB a then 0 else 8) ∧ Keep nobody h1 h' := fun tm h2 t1 t3 hk2 K hK => by
    have hl2 : ∀ o s, loadOne h2 (.pointer (some ⟨h.next, o, s⟩)) = a.cells[o]? := fun o s => loadOne_has (hhas.keep0 hk2) rfl
    have hl2' : ∀ o s, loadOne h2 (.pointer (some ⟨h.next, o, s⟩)) = [Value.int .u8 a.kind, .int .u8 a.of, .int .u8 a.r.kind, a.r.iv, .int .u64 a.r.num, .bool a.yes, .string a.key][o]? := hl2
    have last : ∀ tm : T Value, tg tm 1 = .pointer (some ⟨h.next, 0, none⟩) → tg tm 3 = .bool (bodyB a && keyB a a.key.size) →
        C ⟨seqC ⟨seqC ⟨r11_9⟩ ⟨condC ⟨fun _ tm => tg tm 81⟩ ⟨seqC ⟨r11_10⟩ retC⟩ skipC⟩⟩ ⟨seqC ⟨r11_11⟩ retC⟩⟩ (CF L (n + 6)) L tm h2 fun e tm h' => e = .ret ∧ tg tm 2 = .int .i64 (if mayB a then 0 else 8) ∧ Keep nobody h1 h' := fun tm t1 t3 K hK => by
      simp only [seqC, retC, skipC, condC]
      rw [reg15_9 hl2 t1 t3]
      cases hy : (!(bodyB a && keyB a a.key.size) || yesB a)
      · have : mayB a = true := by simp only [mayB]; revert hy; cases bodyB a <;> cases keyB a a.key.size <;> cases yesB a <;> simp
        simp only [↓reduceIte, EV, r11_11]
        exact hK _ _ _ ⟨rfl, by simp [this], hk2⟩
      · have : mayB a = false := by simp only [mayB]; revert hy; cases bodyB a <;> cases keyB a a.key.size <;> cases yesB a <;> simp
        simp only [↓reduceIte, EV, r11_10]
        exact hK _ _ _ ⟨rfl, by simp [this], hk2⟩
    have step : ∀ tm : T Value, tg tm 1 = .pointer (some ⟨h.next, 0, none⟩) → tg tm 3 = .bool (bodyB a && keyB a a.key.size) → (⟨seqC ⟨seqC ⟨r11_9⟩ ⟨condC ⟨fun _ tm => tg tm 81⟩ ⟨seqC ⟨r11_10⟩ retC⟩ skipC⟩⟩ ⟨seqC ⟨r11_11⟩ retC⟩⟩ : Box CodeT).f (CF L (n + 6)) L tm [] h2 K = true := fun tm t1 t3 => last tm t1 t3 K hK
    refine C.seq (fun K hK => ?_) K hK
    by_cases h7 : a.kind = 7
    · simp only [↓reduceIte, EV, seqC, condC, r11_6, t1, hl2', h7]
      rw [reg15_7 hl2 (by simp only [↓reduceIte, EV, Nat.reduceEqDiff, t1]) (g := bodyB a) (by simp only [↓reduceIte, EV, Nat.reduceEqDiff, t3]) (lenStr_string _)]
      exact hK _ _ _ (last _ (by simp only [↓reduceIte, EV, Nat.reduceEqDiff, t1]) (by simp [keyB, h7, Bool.and_assoc]))
    · simp only [↓reduceIte, EV, seqC, condC, r11_6, t1, hl2', h7]
      rw [reg15_8 hl2 (by simp only [↓reduceIte, EV, Nat.reduceEqDiff, t1]) (g := bodyB a) (by simp only [↓reduceIte, EV, Nat.reduceEqDiff, t3]) rfl]
      exact hK _ _ _ (last _ (by simp only [↓reduceIte, EV, Nat.reduceEqDiff, t1]) (by simp [keyB, h7]))
  have fin : ∀ (tm : T Value) (h2 : H), tg tm 1 = .pointer (some ⟨h.next, 0, none⟩) → tg tm 3 = .bool (bodyB a) → Keep nobody h1 h2 → C ⟨seqC ⟨seqC ⟨r11_6⟩ ⟨condC ⟨fun _ tm => tg tm 46⟩ ⟨r11_7⟩ ⟨r11_8⟩⟩⟩ ⟨seqC ⟨seqC ⟨r11_9⟩ ⟨condC ⟨fun _ tm => tg tm 81⟩ ⟨seqC ⟨r11_10⟩ retC⟩ skipC⟩⟩ ⟨seqC ⟨r11_11⟩ retC⟩⟩⟩ (CF L (n + 6)) L tm h2 fun e tm h' => (e = .norm ∨ e = .ret) ∧ ∃ l, q11.f tm h' = some l ∧ resOf l = .int .i64 (if mayB a then 0 else 8) ∧ Keep nobody h h' := fun tm h2 t1 t3 hk2 => (tail tm h2 t1 t3 hk2).mono fun e tm h' q => by
      obtain ⟨rfl, q2, q3⟩ := q
      exact ⟨.inr rfl, _, rfl, by simp only [resOf, q2], hk.then q3⟩
  have hl' : ∀ o s, loadOne h1 (.pointer (some ⟨h.next, o, s⟩)) = [Value.int .u8 a.kind, .int .u8 a.of, .int .u8 a.r.kind, a.r.iv, .int .u64 a.r.num, .bool a.yes, .string a.key][o]? := hl
  unfold c11
  refine C.seq fun K hK => ?_
  simp only [↓reduceIte, ↓EW, EV, r11_0, hc, hh]
  refine hK _ _ _ (C.seq fun K hK => hK .norm _ _ ?_)
  refine C.seq (C.block (C.seq fun K hK => ?_))
  simp only [↓reduceIte, EV, Nat.reduceEqDiff, r11_2, hl']
  refine hK _ _ _ (C.cond (decide (a.kind = 1)) (by simp only [↓reduceIte, EV]) (fun h1 => ?_) fun h1 => ?_)
  · have h1 : a.kind = 1 := by simpa using h1
    intro K hK
    simp only [↓reduceIte, EV, Nat.reduceEqDiff, r11_3, hl', hla]
    refine words_result L n a.of a.r _ hi2 hL h63 _ fun v h2 hv => ?_
    obtain ⟨rfl, hk2⟩ := hv
    exact hK _ _ _ (fin _ _ (by simp only [↓reduceIte, EV, Nat.reduceEqDiff]) (by simp only [↓reduceIte, EV, bodyB, h1]) hk2)
  · have h1 : ¬ a.kind = 1 := by simpa using h1
    refine C.seq fun K hK => ?_
    rw [show ∀ x : CodeT, (⟨x⟩ : Box CodeT).f = x from fun _ => rfl]
    rw [reg15_4 hl (by simp only [↓reduceIte, EV, Nat.reduceEqDiff])]
    refine hK _ _ _ (C.cond (decide (1 < a.kind) && decide (a.kind ≤ 7)) (by simp only [↓reduceIte, EV]) (fun h2 => ?_) fun h2 => C.skip ?_)
    · intro K hK
      rw [show ∀ x : CodeT, (⟨x⟩ : Box CodeT).f = x from fun _ => rfl]
      rw [reg15_5 hl (by simp only [↓reduceIte, EV, Nat.reduceEqDiff]) hn]
      exact hK _ _ _ (fin _ _ (by simp only [↓reduceIte, EV, Nat.reduceEqDiff]) (by simp only [↓reduceIte, EV, bodyB, h1, h2, Bool.true_and]) (.refl _ _))
    · exact fin _ _ (by simp only [↓reduceIte, EV, Nat.reduceEqDiff]) (by simp only [↓reduceIte, EV, Nat.reduceEqDiff, bodyB, h1, h2, Bool.false_and]) (.refl _ _)
end Go.Proofs.YthofbmfcpfibdaaDoor

namespace Go.Proofs.YthofbmfcpfibdaaDoor
open Go.Ev

end Go.Proofs.YthofbmfcpfibdaaDoor

namespace Go.Proofs.YthofbmfcpfibdaaDoor
open Go.Ev

end Go.Proofs.YthofbmfcpfibdaaDoor
