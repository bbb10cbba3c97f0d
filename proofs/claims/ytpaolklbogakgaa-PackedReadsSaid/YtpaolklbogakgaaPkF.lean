import Derived.Test.YtpaolklbogakgaaPkE
set_option linter.unusedSimpArgs false
set_option linter.unusedVariables false
namespace Go.Proofs.Ytpaolklbogakgaa
open Go.Ev

structure Res where
  kind : Int
  iv : Value
  num : Int
  items : List Itm
structure Ans where
  kind : Int
  of : Int
  r : Res
  yes : Bool
  key : ByteArray
def Res.cells (r : Res) : List Value := [.int .u8 r.kind, r.iv, .int .u64 r.num]
def Res.v (r : Res) : Value := .agg r.cells.toArray
def Ans.cells (a : Ans) : List Value := [.int .u8 a.kind, .int .u8 a.of, .int .u8 a.r.kind, a.r.iv, .int .u64 a.r.num, .bool a.yes, .string a.key]
def Ans.v (a : Ans) : Value := .agg a.cells.toArray

def goodItems (l : List Itm) : Bool := l.all fun x => decide (x.err = 0)
def kindsB (of rk : Int) : Bool := !(decide (of < 1) || decide (11 < of) || decide (rk < 1) || decide (7 < rk))
def manyB (of rk : Int) (n : Int) : Bool := decide (0 < n) && !(decide (rk = 1) && decide (of = 1))
def numB (of rk : Int) (num : Int) : Bool := (!decide (num = 0) && !(decide (rk = 1) && countsB of))
def numB2 (of : Int) (num : Int) : Bool := (decide (of = 10) && decide (8 < num))
def resultB (of : Int) (r : Res) : Bool :=
  kindsB of r.kind && !(manyB of r.kind r.items.length || decide (8 < (r.items.length : Int))) && !(numB of r.kind r.num || numB2 of r.num) && goodItems r.items

theorem any_good (l : List Itm) : (l.any fun x => !decide (x.err = 0)) = !goodItems l := by
  simp [goodItems, List.any_eq_not_all_not]

section
variable {call : CallT} {L : Nat} {tm : T Value} {h : H} {b : Nat} {K : KE}
theorem reg27_7 {r : Res} (hl : ∀ o s, loadOne h (.pointer (some ⟨b, o, s⟩)) = r.cells[o]?) {of len : Int} (hn : lenSl r.iv = some (.int .i64 len)) (t0 : tg tm 0 = .int .u8 of) (t3 : tg tm 3 = .pointer (some ⟨b, 0, none⟩)) (t5 : tg tm 5 = .bool (decide (r.kind = 1))) :
    r27_7 call L tm [] h K = K .norm (T.set tm 20 (.bool (manyB of r.kind len))) [] h := by
  by_cases h1 : 0 < len
  · by_cases h2 : r.kind = 1
    · by_cases h3 : of = 1 <;> simp [r27_7, ↓opStep_eq, t0, t3, t5, hl, hn, Res.cells, h1, h2, h3, manyB]
    · simp [r27_7, ↓opStep_eq, t0, t3, t5, hl, hn, Res.cells, h1, h2, manyB]
  · simp [r27_7, ↓opStep_eq, t0, t3, t5, hl, hn, Res.cells, h1, manyB]
theorem reg27_10 {n : Nat} {r : Res} (hl : ∀ o s, loadOne h (.pointer (some ⟨b, o, s⟩)) = r.cells[o]?) {of : Int} (t0 : tg tm 0 = .int .u8 of) (t3 : tg tm 3 = .pointer (some ⟨b, 0, none⟩)) (t5 : tg tm 5 = .bool (decide (r.kind = 1)))
    (hK : K .norm (T.set tm 37 (.bool (numB of r.kind r.num))) [] h = true) : r27_10 (CF L (n + 1)) L tm [] h K = true := by
  by_cases h1 : r.num = 0
  · simp [r27_10, ↓opStep_eq, t0, t3, t5, hl, Res.cells, h1]
    simpa [numB, h1] using hK
  · by_cases h2 : r.kind = 1
    · simp [r27_10, ↓opStep_eq, t0, t3, t5, hl, Res.cells, h1, h2]
      refine words_counts L n of h _ fun v h' hv => ?_
      obtain ⟨rfl, rfl⟩ := hv
      simp
      simpa [numB, h1, h2] using hK
    · simp [r27_10, ↓opStep_eq, t0, t3, t5, hl, Res.cells, h1, h2]
      simpa [numB, h1, h2] using hK
theorem reg27_11 {r : Res} (hl : ∀ o s, loadOne h (.pointer (some ⟨b, o, s⟩)) = r.cells[o]?) {of : Int} (t0 : tg tm 0 = .int .u8 of) (t3 : tg tm 3 = .pointer (some ⟨b, 0, none⟩)) :
    r27_11 call L tm [] h K = K .norm (T.set tm 37 (.bool (numB2 of r.num))) [] h := by
  by_cases h1 : of = 10
  · by_cases h2 : 8 < r.num <;> simp [r27_11, ↓opStep_eq, t0, t3, hl, Res.cells, h1, h2, numB2]
  · simp [r27_11, ↓opStep_eq, t0, t3, hl, Res.cells, h1, numB2]
end

theorem words_result (L n : Nat) (of : Int) (r : Res) (h : H) (hi : ItemsAt h r.iv r.items) (hL : r.items.length < L) (h63 : r.items.length < 9223372036854775807) :
    Sp (CF L (n + 6)) 27 [.int .u8 of, r.v] h fun v h' => v = .bool (resultB of r) ∧ Keep nobody h h' := by
  refine Sp.body f27 (by simp) fun K hK => ?_
  have hk := Keep.new h (.rw r.cells)
  have hl : ∀ o s, loadOne (h.new (.rw r.cells)) (.pointer (some ⟨h.next, o, s⟩)) = r.cells[o]? := fun o s => loadOne_has (Has.new h (.rw r.cells)) rfl
  have fin : ∀ (tm : T Value) (h' : H), tg tm 4 = .bool (resultB of r) → Keep nobody (h.new (.rw r.cells)) h' → K .ret tm [] h' = true := fun tm h' e1 e2 => hK _ _ _ ⟨.inr rfl, _, rfl, by simp [resOf, e1], hk.then e2⟩
  have hcs : (r.v.cells).toList = r.cells := rfl
  have hn := hi.len
  obtain ⟨len, hlen⟩ : ∃ len : Int, (r.items.length : Int) = len := ⟨_, rfl⟩
  rw [hlen] at hn
  have hkk : ∀ o s, loadOne (h.new (.rw r.cells)) (.pointer (some ⟨h.next, o, s⟩)) = [Value.int .u8 r.kind, r.iv, Value.int .u64 r.num][o]? := hl
  have hi2 := hi.keep0 hk
  generalize hh : h.new (.rw r.cells) = h1 at *
  have stop : ∀ (tm : T Value), resultB of r = false → K .ret (tm.set 4 (.bool false)) [] h1 = true := fun tm e => fin _ _ (by simp [e]) (.refl _ _)
  simp only [c27, seqC, retC, skipC, blockC, condC]
  simp [r27_0, hcs, hh, r27_1, hkk]
  by_cases h1 : of < 1
  · simp [r27_2, r27_6, h1]; exact stop _ (by simp [resultB, kindsB, h1])
  by_cases h2 : 11 < of
  · simp [r27_2, r27_3, r27_6, h1, h2]; exact stop _ (by simp [resultB, kindsB, h2])
  by_cases h3 : r.kind < 1
  · simp [r27_2, r27_3, r27_4, hkk, r27_6, h1, h2, h3]; exact stop _ (by simp [resultB, kindsB, h3])
  by_cases h4 : 7 < r.kind
  · simp [r27_2, r27_3, r27_4, r27_5, hkk, r27_6, h1, h2, h3, h4]; exact stop _ (by simp [resultB, kindsB, h4])
  simp [r27_2, r27_3, r27_4, r27_5, hkk, h1, h2, h3, h4]
  rw [reg27_7 hl hn (of := of) (by simp) (by simp) (by simp)]
  cases hm : manyB of r.kind len
  rotate_left
  · simp [r27_9]; exact stop _ (by simp [resultB, hlen, hm])
  by_cases h8 : 8 < len
  · simp [r27_8, r27_9, hkk, hn, h8]; exact stop _ (by simp [resultB, hlen, h8])
  simp [r27_8, hkk, hn, h8]
  refine reg27_10 hl (of := of) (by simp) (by simp) (by simp) ?_
  cases hb : numB of r.kind r.num
  rotate_left
  · simp [r27_12]; exact stop _ (by simp [resultB, hb])
  simp
  rw [reg27_11 hl (of := of) (by simp) (by simp)]
  cases hc : numB2 of r.num
  rotate_left
  · simp [r27_12]; exact stop _ (by simp [resultB, hc])
  simp [r27_13, hkk]
  refine contains_func L n r.iv r.items _ hi2 hL h63 _ fun v h' hv => ?_
  obtain ⟨rfl, hk2⟩ := hv
  simp
  exact fin _ _ (by simp [resultB, kindsB, hlen, h1, h2, h3, h4, h8, hm, hb, hc, any_good]) hk2
end Go.Proofs.Ytpaolklbogakgaa
