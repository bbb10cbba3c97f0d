import Derived.Test.YtpaolklbogakgaaPkB
set_option linter.unusedSimpArgs false
set_option linter.unusedVariables false
namespace Go.Proofs.Ytpaolklbogakgaa
open Go.Ev
noncomputable abbrev CF (L n : Nat) : CallT := callF Try.prog (maskOf masks) outside NG L n

/-- a number in one to ten bytes -/
def small (n : Nat) : List UInt8 := if n < 128 then [UInt8.ofNat n] else (UInt8.ofNat n ||| 128) :: small (n / 128)

theorem small_len : ∀ (k n : Nat), n < 128 ^ k → 0 < k → (small n).length ≤ k
  | 0, n, _, h => absurd h (by decide)
  | k + 1, n, h, _ => by
    unfold small
    split
    · simp
    · rename_i hn
      have : k ≠ 0 := by rintro rfl; omega
      have := small_len k (n / 128) (by rw [Nat.pow_succ] at h; exact Nat.div_lt_of_lt_mul (by omega)) (by omega)
      simp; omega

theorem code_small (L n : Nat) (hL : 100 < L) (x : Nat) (hx : x < 18446744073709551616) (h : H) :
    Sp (CF L (n + 1)) 29 [.int .u64 (x : Int)] h fun v h' => Mine h' v (small x) ∧ Keep nobody h h' ∧ ∀ b, blk v b → h.next ≤ b := by
  refine Sp.body f29 (by simp) ?_
  unfold c29
  refine C.seq fun K hK => hK .norm _ _ ?_
  refine C.seq fun K hK => hK .norm _ _ ?_
  have hlen := small_len 10 x (by omega) (by omega)
  refine C.seq (C.block (C.loop (fun k tm h1 => ∃ (y : Nat) (pre : List UInt8) (v : Value), k = (small y).length ∧ tg tm 0 = .int .u64 (y : Int) ∧ tg tm 3 = v ∧ Mine h1 v pre ∧ pre ++ small y = small x ∧ Keep nobody h h1 ∧ (∀ b, blk v b → h.next ≤ b)) (small x).length (by omega)
    ⟨x, [], .slice none 0 0, rfl, by simp, by simp, .nil, rfl, .refl _ _, by simp⟩ ?_))
  rintro k tm h1 ⟨y, pre, v, rfl, ht0, ht3, hm, hs, hk, hf⟩
  have hpl : pre.length + (small y).length ≤ 10 := by rw [← List.length_append, hs]; exact hlen
  have hyp : 0 < (small y).length := by unfold small; split <;> simp
  unfold l29_5
  refine C.seq (C.seq fun K hK => ?_)
  simp only [r29_2, ht0, binV_gtr, kO_some]
  refine hK .norm _ _ (C.cond (decide ((127 : Int) < y)) (by simp) (fun hy => C.skip ?_) fun hy => C.exit ?_)
  · have hy : 128 ≤ y := by simp at hy; omega
    refine C.seq (C.block fun K hK => ?_)
    obtain ⟨v', h2, e1, e2, e3, e4⟩ := app_lit (bs := [UInt8.ofNat y ||| 128]) hm (by simp; omega)
    have h128 : Value.int .u8 128 = bv 128 := rfl
    simp only [List.length_cons, List.length_nil, List.map_cons, List.map_nil, Nat.zero_add] at e1
    simp [r29_4, ht0, ht3, toInt_u8, h128, binV_or_u8, lit1, e1]
    refine hK .norm _ _ ?_
    intro K hK
    have hs2 : small y = (UInt8.ofNat y ||| 128) :: small (y / 128) := by rw [small, if_neg (by omega)]
    have hdiv : (y : Int).fdiv 128 = ((y / 128 : Nat) : Int) := by
      rw [Int.fdiv_eq_ediv_of_nonneg _ (by omega)]; rfl
    simp [r29_3, ht0, binV_shr, IntKind.bits, hdiv]
    refine hK .norm _ _ ⟨(small (y / 128)).length, by rw [hs2]; simp, y / 128, pre ++ [UInt8.ofNat y ||| 128], v', rfl, by simp, by simp, e2, by rw [List.append_assoc]; simpa [hs2] using hs, hk.trans e3 fun b h1 h2 => absurd (hf b h2) (by omega), fun b hb => (e4 b hb).elim (hf b) fun h => Nat.le_trans hk.next h⟩
  · have hy : y < 128 := by simp at hy; omega
    simp only [if_pos]
    refine C.seq fun K hK => ?_
    obtain ⟨v', h2, e1, e2, e3, e4⟩ := app_lit (bs := [UInt8.ofNat y]) hm (by simp; omega)
    simp only [List.length_cons, List.length_nil, List.map_cons, List.map_nil, Nat.zero_add] at e1
    have hs2 : small y = [UInt8.ofNat y] := by rw [small, if_pos (by omega)]
    simp [r29_5, ht0, ht3, toInt_u8, lit1, e1]
    refine hK .norm _ _ (C.ret ⟨.inr rfl, [v'], by simp [q29], ?_, hk.trans e3 fun b h1 h2 => absurd (hf b h2) (by omega), fun b hb => (e4 b hb).elim (hf b) fun h => Nat.le_trans hk.next h⟩)
    rw [← hs, hs2]; exact e2
end Go.Proofs.Ytpaolklbogakgaa

namespace Go.Proofs.Ytpaolklbogakgaa
open Go.Ev

/-! the data -/
structure Itm where
  key : ByteArray
  val : ByteArray
  flags : Int
  till : Int
  uniq : Int
structure Itm.ok (x : Itm) : Prop where
  flags : 0 ≤ x.flags ∧ x.flags < 4294967296
  till : -9223372036854775808 ≤ x.till ∧ x.till ≤ 9223372036854775807
  uniq : 0 ≤ x.uniq ∧ x.uniq < 18446744073709551616
def Itm.cells (x : Itm) : List Value := [.string x.key, .string x.val, .int .u32 x.flags, .int .i64 x.till, .int .u64 x.uniq]
def Itm.v (x : Itm) : Value := .agg x.cells.toArray

def countsB (c : Int) : Bool := decide (c = 6) || decide (c = 7) || decide (c = 10)
def momentB (t : Int) : Bool := decide (0 ≤ t) && decide (t ≤ 1099511627776)
def Itm.long (x : Itm) : Bool := decide ((x.key.size : Int) < 1) || decide (32 < (x.key.size : Int)) || decide (512 < (x.val.size : Int))
def Itm.err (x : Itm) : Int := if x.long then 3 else if momentB x.till then 0 else 2

theorem words_counts (L n : Nat) (c : Int) (h : H) : Sp (CF L (n + 1)) 42 [.int .u8 c] h fun v h' => v = .bool (countsB c) ∧ h' = h := by
  refine Sp.body f42 (by simp) fun K hK => ?_
  by_cases h1 : c = 6 <;> by_cases h2 : c = 7 <;> by_cases h3 : c = 10 <;>
    simp [c42, seqC, retC, r42_0, r42_1, ↓opStep_eq, h1, h2, h3] <;> exact hK _ _ _ ⟨.inr rfl, _, rfl, by simp [resOf, countsB, h1, h2, h3], rfl⟩
theorem item_moment (L n : Nat) (c : Int) (h : H) : Sp (CF L (n + 1)) 52 [.int .i64 c] h fun v h' => v = .bool (momentB c) ∧ h' = h := by
  refine Sp.body f52 (by simp) fun K hK => ?_
  by_cases h1 : 0 ≤ c <;> by_cases h2 : c ≤ 1099511627776 <;>
    simp [c52, seqC, retC, r52_0, r52_1, h1, h2] <;> exact hK _ _ _ ⟨.inr rfl, _, rfl, by simp [resOf, momentB, h1, h2], rfl⟩
theorem item_check (L n : Nat) (x : Itm) (h : H) : Sp (CF L (n + 2)) 45 [x.v] h fun v h' => v = .int .i64 x.err ∧ Keep nobody h h' := by
  refine Sp.body f45 (by simp) fun K hK => ?_
  have hk := Keep.new h (.rw [.string x.key, .string x.val, .int .u32 x.flags, .int .i64 x.till, .int .u64 x.uniq])
  have hs := lenStr_string x.key
  have hv := lenStr_string x.val
  have he : x.err = if (decide ((x.key.size : Int) < 1) || decide (32 < (x.key.size : Int)) || decide (512 < (x.val.size : Int))) = true then 3 else if momentB x.till then 0 else 2 := rfl
  generalize (x.key.size : Int) = ks at hs he
  generalize (x.val.size : Int) = vs at hv he
  by_cases h1 : ks < 1
  · simp [c45, seqC, retC, skipC, blockC, condC, Itm.v, r45_0, r45_1, r45_2, r45_3, r45_4, r45_5, r45_6, r45_7, Itm.cells, -lenStr_string, hs, hv, h1]
    exact hK _ _ _ ⟨.inr rfl, _, rfl, by simp [resOf, he, h1], hk⟩
  by_cases h2 : 32 < ks
  · simp [c45, seqC, retC, skipC, blockC, condC, Itm.v, r45_0, r45_1, r45_2, r45_3, r45_4, r45_5, r45_6, r45_7, Itm.cells, -lenStr_string, hs, hv, h1, h2]
    exact hK _ _ _ ⟨.inr rfl, _, rfl, by simp [resOf, he, h1, h2], hk⟩
  by_cases h3 : 512 < vs
  · simp [c45, seqC, retC, skipC, blockC, condC, Itm.v, r45_0, r45_1, r45_2, r45_3, r45_4, r45_5, r45_6, r45_7, Itm.cells, -lenStr_string, hs, hv, h1, h2, h3]
    exact hK _ _ _ ⟨.inr rfl, _, rfl, by simp [resOf, he, h1, h2, h3], hk⟩
  simp [c45, seqC, retC, skipC, blockC, condC, Itm.v, r45_0, r45_1, r45_2, r45_3, r45_4, r45_5, r45_6, r45_7, Itm.cells, -lenStr_string, hs, hv, h1, h2, h3]
  refine item_moment L n _ _ _ fun v h' hv => ?_
  obtain ⟨rfl, rfl⟩ := hv
  cases hm : momentB x.till <;> simp
  · exact hK _ _ _ ⟨.inr rfl, _, rfl, by simp [resOf, he, h1, h2, h3, hm], hk⟩
  · exact hK _ _ _ ⟨.inr rfl, _, rfl, by simp [resOf, he, h1, h2, h3, hm], hk⟩

theorem words_result1 (L n : Nat) (x : Itm) (h : H) : Sp (CF L (n + 3)) 44 [x.v] h fun v h' => v = .bool (!decide (x.err = 0)) ∧ Keep nobody h h' := by
  refine Sp.body f44 (by simp) fun K hK => ?_
  have hk := Keep.new h (.rw x.cells)
  simp [c44, seqC, retC, r44_0, r44_1, Itm.v, loadAgg_new _ x.cells 5 _ rfl]
  refine item_check L n x _ _ fun v h' hv => ?_
  obtain ⟨rfl, h2⟩ := hv
  simp
  exact hK _ _ _ ⟨.inr rfl, _, rfl, rfl, hk.then h2⟩
end Go.Proofs.Ytpaolklbogakgaa

namespace Go.Proofs.Ytpaolklbogakgaa
open Go.Ev

def cellsOf (l : List Itm) : List Value := l.flatMap Itm.cells
@[simp] theorem Itm.cells_len (x : Itm) : x.cells.length = 5 := rfl
theorem cellsOf_len : ∀ l : List Itm, (cellsOf l).length = 5 * l.length
  | [] => rfl
  | x :: l => by
    have := cellsOf_len l
    simp only [cellsOf, List.flatMap_cons, List.length_append, Itm.cells_len, List.length_cons] at *
    omega
theorem cellsOf_drop : ∀ (l : List Itm) (i : Nat) (x : Itm), l[i]? = some x → ((cellsOf l).drop (i * 5)).take 5 = x.cells
  | [], i, x, h => by simp at h
  | y :: l, 0, x, h => by simp at h; subst h; simp [cellsOf, Itm.cells]
  | y :: l, i + 1, x, h => by
    have := cellsOf_drop l i x (by simpa using h)
    rw [show (i + 1) * 5 = i * 5 + 5 by omega]
    simpa [cellsOf, Itm.cells] using this

/-- a slice of items -/
def ItemsAt (h : H) (v : Value) (l : List Itm) : Prop :=
  (v = .slice none 0 0 ∧ l = []) ∨ ∃ b o c x cs, v = .slice (some ⟨b, o, none⟩) l.length c ∧ Has h b x ∧ x.cells? = some cs ∧ o + 5 * l.length ≤ cs.length ∧ (cs.drop o).take (5 * l.length) = cellsOf l
theorem ItemsAt.keep {S : Nat → Prop} {h h' : H} {v : Value} {l : List Itm} (a : ItemsAt h v l) (k : Keep S h h') (hn : ∀ b, blk v b → ¬ S b) : ItemsAt h' v l := by
  rcases a with a | ⟨b, o, c, x, cs, rfl, h1, h2, h3, h4⟩
  · exact .inl a
  · exact .inr ⟨b, o, c, x, cs, rfl, h1.keep k (hn b (by simp)), h2, h3, h4⟩
theorem ItemsAt.keep0 {h h' : H} {v : Value} {l : List Itm} (a : ItemsAt h v l) (k : Keep nobody h h') : ItemsAt h' v l := a.keep k fun _ _ => id
theorem ItemsAt.len {h : H} {v : Value} {l : List Itm} (a : ItemsAt h v l) : lenSl v = some (.int .i64 (l.length : Int)) := by
  rcases a with ⟨rfl, rfl⟩ | ⟨b, o, c, x, cs, rfl, h1, h2, h3, h4⟩ <;> rfl
/-- one of them -/
theorem ItemsAt.at {h : H} {v : Value} {l : List Itm} (a : ItemsAt h v l) {i : Nat} {x : Itm} (hi : l[i]? = some x) :
    ∃ b o, indexSl 5 v (.int .i64 (i : Int)) = some (.pointer (some ⟨b, o, none⟩)) ∧ b < h.next ∧ blk v b ∧ (∀ j s, j < 5 → loadOne h (.pointer (some ⟨b, o + j, s⟩)) = x.cells[j]?) ∧ ∀ s, loadAgg 5 h (.pointer (some ⟨b, o, s⟩)) = some x.v := by
  have hl : i < l.length := by
    by_cases hl : i < l.length
    · exact hl
    · rw [List.getElem?_eq_none (by omega)] at hi; cases hi
  rcases a with ⟨rfl, rfl⟩ | ⟨b, o, c, y, cs, rfl, h1, h2, h3, h4⟩
  · simp at hl
  · have h5 : (cs.drop (o + i * 5)).take 5 = x.cells := by
      rw [← cellsOf_drop l i x hi, ← h4, ← List.drop_drop, List.drop_take, List.take_take, Nat.min_eq_left (by omega)]
    refine ⟨b, o + i * 5, ?_, h1.1, by simp, fun j s hj => ?_, fun s => ?_⟩
    · simp only [indexSl, asNat_nat, addOff]
      rw [Nat.ble_eq_true_of_le (by omega)]
    · rw [loadOne_has h1 h2, ← h5, List.getElem?_take, if_pos hj, List.getElem?_drop]
    · rw [loadAgg_has h1 h2 (by omega), h5]; rfl

theorem wrap_succ (i : Nat) (h : i < 9223372036854775807) : IntKind.i64.wrap ((i : Int) + 1) = ((i + 1 : Nat) : Int) := by
  rw [wrap_eq] <;> simp [IntKind.min, IntKind.max, IntKind.bits, IntKind.signed] <;> omega

theorem index_func (L n : Nat) (v : Value) (l : List Itm) (h : H) (hi : ItemsAt h v l) (hL : l.length < L) (h63 : l.length < 9223372036854775807) :
    Sp (CF L (n + 4)) 51 [v, .func (.func 44) #[] #[]] h fun r h' => (∃ k : Int, r = .int .i64 k ∧ decide (0 ≤ k) = l.any fun x => !decide (x.err = 0)) ∧ Keep nobody h h' := by
  refine Sp.body f51 (by simp) ?_
  unfold c51
  refine C.seq fun K hK => hK .norm _ _ ?_
  refine C.seq (C.seq fun K hK => ?_)
  simp [r51_1, hi.len]
  refine hK .norm _ _ ?_
  refine C.block (C.loop (fun k tm h1 => ∃ i : Nat, k = l.length - i ∧ i ≤ l.length ∧ tg tm 0 = v ∧ tg tm 1 = .func (.func 44) #[] #[] ∧ tg tm 7 = .int .i64 (l.length : Int) ∧ tg tm 8 = .int .i64 (i : Int) ∧ (l.take i).all (fun x => decide (x.err = 0)) = true ∧ Keep nobody h h1) l.length hL
    ⟨0, by simp, by simp, by simp, by simp, by simp, by simp, by simp, .refl _ _⟩ ?_)
  rintro k tm h1 ⟨i, rfl, hil, t0, t1, t7, t8, hall, hk⟩
  unfold l51_7
  refine C.seq fun K hK => ?_
  simp only [r51_2, t7, t8, binV_lss, kO_some]
  refine hK .norm _ _ (C.seq (C.cond (decide ((i : Int) < l.length)) (by simp) (fun hy => C.skip ?_) fun hy => C.exit ?_))
  · have hlt : i < l.length := by simpa using hy
    obtain ⟨x, hx⟩ : ∃ x, l[i]? = some x := ⟨l[i], List.getElem?_eq_getElem hlt⟩
    obtain ⟨b, o, e1, e2, _, e3, e4⟩ := (hi.keep0 hk).at hx
    refine C.seq (C.block (C.seq fun K hK => ?_))
    refine hK .norm _ _ (C.seq fun K hK => ?_)
    simp [r51_4, t0, t1, t8, e1, e4, goCall, funcArgs]
    refine words_result1 L n x h1 _ fun r h2 hr => ?_
    obtain ⟨rfl, hk2⟩ := hr
    refine hK .norm _ _ (C.cond (!decide (x.err = 0)) (by simp) (fun hy => ?_) fun hy => C.skip ?_)
    · refine C.seq fun K hK => ?_
      simp [r51_5, t8]
      refine hK .norm _ _ (C.ret ⟨.inr rfl, _, rfl, ⟨i, by simp [resOf], ?_⟩, hk.then hk2⟩)
      rw [decide_eq_true (by omega)]
      symm
      rw [List.any_eq_true]
      exact ⟨x, List.mem_of_getElem? hx, hy⟩
    · intro K hK
      simp [r51_6, t8]
      refine hK .norm _ _ ⟨l.length - (i + 1), by omega, i + 1, rfl, by omega, by simp [t0], by simp [t1], by simp [t7], ?_, ?_, hk.then hk2⟩
      · simp [wrap_succ i (by omega)]
      · rw [List.take_add_one, hx]
        simp only [List.all_append, hall, Bool.true_and]
        simpa using hy
  · have hge : i = l.length := by simp at hy; omega
    simp only [if_pos]
    refine C.seq fun K hK => hK .norm _ _ (C.ret ⟨.inr rfl, _, rfl, ⟨-1, by simp [resOf], ?_⟩, hk⟩)
    rw [hge, List.take_length] at hall
    rw [decide_eq_false (by omega)]
    symm
    rw [List.any_eq_false]
    intro x hx
    have := List.all_eq_true.1 hall x hx
    simpa using this

theorem contains_func (L n : Nat) (v : Value) (l : List Itm) (h : H) (hi : ItemsAt h v l) (hL : l.length < L) (h63 : l.length < 9223372036854775807) :
    Sp (CF L (n + 5)) 43 [v, .func (.func 44) #[] #[]] h fun r h' => r = .bool (l.any fun x => !decide (x.err = 0)) ∧ Keep nobody h h' := by
  refine Sp.body f43 (by simp) fun K hK => ?_
  simp [c43, seqC, retC, r43_0, r43_1]
  refine index_func L n v l h hi hL h63 _ fun r h2 hr => ?_
  obtain ⟨⟨k, rfl, hk⟩, h3⟩ := hr
  simp [hk]
  exact hK _ _ _ ⟨.inr rfl, _, rfl, by simp [resOf], h3⟩

end Go.Proofs.Ytpaolklbogakgaa

namespace Go.Proofs.Ytpaolklbogakgaa
open Go.Ev

structure Res where
  kind : Int
  iv : Value
  num : Int
  items : List Itm
structure Ans where
  kind : Int
  of : Int
  r : Res
  yes : Bool
  key : ByteArray
def Res.cells (r : Res) : List Value := [.int .u8 r.kind, r.iv, .int .u64 r.num]
def Res.v (r : Res) : Value := .agg r.cells.toArray
def Ans.cells (a : Ans) : List Value := [.int .u8 a.kind, .int .u8 a.of, .int .u8 a.r.kind, a.r.iv, .int .u64 a.r.num, .bool a.yes, .string a.key]
def Ans.v (a : Ans) : Value := .agg a.cells.toArray

def goodItems (l : List Itm) : Bool := l.all fun x => decide (x.err = 0)
def kindsB (of rk : Int) : Bool := !(decide (of < 1) || decide (11 < of) || decide (rk < 1) || decide (7 < rk))
def manyB (of rk : Int) (n : Int) : Bool := decide (0 < n) && !(decide (rk = 1) && decide (of = 1))
def numB (of rk : Int) (num : Int) : Bool := (!decide (num = 0) && !(decide (rk = 1) && countsB of))
def numB2 (of : Int) (num : Int) : Bool := (decide (of = 10) && decide (8 < num))
def resultB (of : Int) (r : Res) : Bool :=
  kindsB of r.kind && !(manyB of r.kind r.items.length || decide (8 < (r.items.length : Int))) && !(numB of r.kind r.num || numB2 of r.num) && goodItems r.items

theorem any_good (l : List Itm) : (l.any fun x => !decide (x.err = 0)) = !goodItems l := by
  simp [goodItems, List.any_eq_not_all_not]

section
variable {call : CallT} {L : Nat} {tm : T Value} {h : H} {b : Nat} {K : KE}
theorem reg27_7 {r : Res} (hl : ∀ o s, loadOne h (.pointer (some ⟨b, o, s⟩)) = r.cells[o]?) {of len : Int} (hn : lenSl r.iv = some (.int .i64 len)) (t0 : tg tm 0 = .int .u8 of) (t3 : tg tm 3 = .pointer (some ⟨b, 0, none⟩)) (t5 : tg tm 5 = .bool (decide (r.kind = 1))) :
    r27_7 call L tm [] h K = K .norm (T.set tm 20 (.bool (manyB of r.kind len))) [] h := by
  by_cases h1 : 0 < len
  · by_cases h2 : r.kind = 1
    · by_cases h3 : of = 1 <;> simp [r27_7, ↓opStep_eq, t0, t3, t5, hl, hn, Res.cells, h1, h2, h3, manyB]
    · simp [r27_7, ↓opStep_eq, t0, t3, t5, hl, hn, Res.cells, h1, h2, manyB]
  · simp [r27_7, ↓opStep_eq, t0, t3, t5, hl, hn, Res.cells, h1, manyB]
theorem reg27_10 {n : Nat} {r : Res} (hl : ∀ o s, loadOne h (.pointer (some ⟨b, o, s⟩)) = r.cells[o]?) {of : Int} (t0 : tg tm 0 = .int .u8 of) (t3 : tg tm 3 = .pointer (some ⟨b, 0, none⟩)) (t5 : tg tm 5 = .bool (decide (r.kind = 1)))
    (hK : K .norm (T.set tm 37 (.bool (numB of r.kind r.num))) [] h = true) : r27_10 (CF L (n + 1)) L tm [] h K = true := by
  by_cases h1 : r.num = 0
  · simp [r27_10, ↓opStep_eq, t0, t3, t5, hl, Res.cells, h1]
    simpa [numB, h1] using hK
  · by_cases h2 : r.kind = 1
    · simp [r27_10, ↓opStep_eq, t0, t3, t5, hl, Res.cells, h1, h2]
      refine words_counts L n of h _ fun v h' hv => ?_
      obtain ⟨rfl, rfl⟩ := hv
      simp
      simpa [numB, h1, h2] using hK
    · simp [r27_10, ↓opStep_eq, t0, t3, t5, hl, Res.cells, h1, h2]
      simpa [numB, h1, h2] using hK
theorem reg27_11 {r : Res} (hl : ∀ o s, loadOne h (.pointer (some ⟨b, o, s⟩)) = r.cells[o]?) {of : Int} (t0 : tg tm 0 = .int .u8 of) (t3 : tg tm 3 = .pointer (some ⟨b, 0, none⟩)) :
    r27_11 call L tm [] h K = K .norm (T.set tm 37 (.bool (numB2 of r.num))) [] h := by
  by_cases h1 : of = 10
  · by_cases h2 : 8 < r.num <;> simp [r27_11, ↓opStep_eq, t0, t3, hl, Res.cells, h1, h2, numB2]
  · simp [r27_11, ↓opStep_eq, t0, t3, hl, Res.cells, h1, numB2]
end

theorem words_result (L n : Nat) (of : Int) (r : Res) (h : H) (hi : ItemsAt h r.iv r.items) (hL : r.items.length < L) (h63 : r.items.length < 9223372036854775807) :
    Sp (CF L (n + 6)) 27 [.int .u8 of, r.v] h fun v h' => v = .bool (resultB of r) ∧ Keep nobody h h' := by
  refine Sp.body f27 (by simp) fun K hK => ?_
  have hk := Keep.new h (.rw r.cells)
  have hl : ∀ o s, loadOne (h.new (.rw r.cells)) (.pointer (some ⟨h.next, o, s⟩)) = r.cells[o]? := fun o s => loadOne_has (Has.new h (.rw r.cells)) rfl
  have fin : ∀ (tm : T Value) (h' : H), tg tm 4 = .bool (resultB of r) → Keep nobody (h.new (.rw r.cells)) h' → K .ret tm [] h' = true := fun tm h' e1 e2 => hK _ _ _ ⟨.inr rfl, _, rfl, by simp [resOf, e1], hk.then e2⟩
  have hcs : (r.v.cells).toList = r.cells := rfl
  have hn := hi.len
  obtain ⟨len, hlen⟩ : ∃ len : Int, (r.items.length : Int) = len := ⟨_, rfl⟩
  rw [hlen] at hn
  have hkk : ∀ o s, loadOne (h.new (.rw r.cells)) (.pointer (some ⟨h.next, o, s⟩)) = [Value.int .u8 r.kind, r.iv, Value.int .u64 r.num][o]? := hl
  have hi2 := hi.keep0 hk
  generalize hh : h.new (.rw r.cells) = h1 at *
  have stop : ∀ (tm : T Value), resultB of r = false → K .ret (tm.set 4 (.bool false)) [] h1 = true := fun tm e => fin _ _ (by simp [e]) (.refl _ _)
  simp only [c27, seqC, retC, skipC, blockC, condC]
  simp [r27_0, hcs, hh, r27_1, hkk]
  by_cases h1 : of < 1
  · simp [r27_2, r27_6, h1]; exact stop _ (by simp [resultB, kindsB, h1])
  by_cases h2 : 11 < of
  · simp [r27_2, r27_3, r27_6, h1, h2]; exact stop _ (by simp [resultB, kindsB, h2])
  by_cases h3 : r.kind < 1
  · simp [r27_2, r27_3, r27_4, hkk, r27_6, h1, h2, h3]; exact stop _ (by simp [resultB, kindsB, h3])
  by_cases h4 : 7 < r.kind
  · simp [r27_2, r27_3, r27_4, r27_5, hkk, r27_6, h1, h2, h3, h4]; exact stop _ (by simp [resultB, kindsB, h4])
  simp [r27_2, r27_3, r27_4, r27_5, hkk, h1, h2, h3, h4]
  rw [reg27_7 hl hn (of := of) (by simp) (by simp) (by simp)]
  cases hm : manyB of r.kind len
  rotate_left
  · simp [r27_9]; exact stop _ (by simp [resultB, hlen, hm])
  by_cases h8 : 8 < len
  · simp [r27_8, r27_9, hkk, hn, h8]; exact stop _ (by simp [resultB, hlen, h8])
  simp [r27_8, hkk, hn, h8]
  refine reg27_10 hl (of := of) (by simp) (by simp) (by simp) ?_
  cases hb : numB of r.kind r.num
  rotate_left
  · simp [r27_12]; exact stop _ (by simp [resultB, hb])
  simp
  rw [reg27_11 hl (of := of) (by simp) (by simp)]
  cases hc : numB2 of r.num
  rotate_left
  · simp [r27_12]; exact stop _ (by simp [resultB, hc])
  simp [r27_13, hkk]
  refine contains_func L n r.iv r.items _ hi2 hL h63 _ fun v h' hv => ?_
  obtain ⟨rfl, hk2⟩ := hv
  simp
  exact fin _ _ (by simp [resultB, kindsB, hlen, h1, h2, h3, h4, h8, hm, hb, hc, any_good]) hk2
end Go.Proofs.Ytpaolklbogakgaa
