import Derived.Test.YtbdmhdidehfmoaaDoorTbB
import Derived.Test.YtbdmhdidehfmoaaDoorEvX
set_option linter.unusedSimpArgs false
set_option linter.unusedVariables false
namespace Go.Proofs.YtbdmhdidehfmoaaDoor
open Go.Ev

/-! ### entries, rows of entries -/
theorem putAt_at {α : Type} : ∀ (l : List α) (i : Nat) (ys : List α), i + ys.length ≤ l.length → putAt l i ys = some (l.take i ++ ys ++ l.drop (i + ys.length))
  | [], i, ys, h => by
    have h1 : i = 0 := by have : i + ys.length ≤ 0 := h; omega
    have h2 : ys = [] := by
      apply List.length_eq_zero_iff.1; have : i + ys.length ≤ 0 := h; omega
    subst h1; subst h2; rfl
  | x :: xs, 0, [], h => by simp [putAt]
  | x :: xs, 0, y :: ys, h => by
    have := putAt_at xs 0 ys (by simp at h ⊢; omega)
    simp [putAt, this]
  | x :: xs, i + 1, ys, h => by
    have := putAt_at xs i ys (by simp at h ⊢; omega)
    simp [putAt, this, show i + 1 + ys.length = i + ys.length + 1 by omega]
theorem putAt_one {α : Type} (l : List α) (i : Nat) (y : α) (h : i < l.length) : putAt l i [y] = some (l.set i y) := by
  rw [putAt_at l i [y] (by simp; omega)]
  rw [List.set_eq_take_append_cons_drop, if_pos h]
  simp

structure Ent where
  t : Int
  k : ByteArray
  x : Int
def Ent.cells (e : Ent) : List Value := [.int .i64 e.t, .string e.k, .int .i64 e.x]
def cellsE : List Ent → List Value
  | [] => []
  | e :: r => e.cells ++ cellsE r
theorem cellsE_len : ∀ es, (cellsE es).length = 3 * es.length
  | [] => rfl
  | e :: r => by simp [cellsE, cellsE_len r, Ent.cells]; omega
theorem cellsE_append : ∀ a b, cellsE (a ++ b) = cellsE a ++ cellsE b
  | [], b => rfl
  | e :: r, b => by simp [cellsE, cellsE_append r b]
theorem cellsE_take : ∀ (es : List Ent) (n : Nat), (cellsE es).take (3 * n) = cellsE (es.take n)
  | [], n => by simp [cellsE]
  | e :: r, 0 => rfl
  | e :: r, n + 1 => by
    have : 3 * (n + 1) = 3 * n + 1 + 1 + 1 := by omega
    rw [this]
    simp [cellsE, Ent.cells, cellsE_take r n]
theorem cellsE_drop : ∀ (es : List Ent) (n : Nat), (cellsE es).drop (3 * n) = cellsE (es.drop n)
  | [], n => by simp [cellsE]
  | e :: r, 0 => rfl
  | e :: r, n + 1 => by
    have : 3 * (n + 1) = 3 * n + 1 + 1 + 1 := by omega
    rw [this]
    simp [cellsE, Ent.cells, cellsE_drop r n]
theorem cellsE_ones : ∀ es, ones (cellsE es) = true
  | [] => rfl
  | e :: r => cellsE_ones r
theorem cellsE_at {es : List Ent} {i : Nat} {e : Ent} (h : es[i]? = some e) : ((cellsE es).drop (3 * i)).take 3 = e.cells := by
  rw [cellsE_drop]
  have hi := (List.getElem?_eq_some_iff.1 h).1
  rw [List.drop_eq_getElem_cons hi]
  have : es[i] = e := (List.getElem?_eq_some_iff.1 h).2
  rw [this]; rfl

def OpenC (cap : Nat) : Prop := Nat.ble OPEN cap = true ∧ Nat.beq (szOf cap) 3 = true
theorem openC (lb : Nat) : OpenC (opCap lb 3) := ⟨Nat.ble_eq_true_of_le (open_opCap lb 3), by rw [szOf_opCap (by omega)]; rfl⟩

/-- whose a block is -/
inductive Tag | tab | base (s : Bool) | row (s : Bool) (i : Nat) | other
  deriving DecidableEq

/-- a row that the table has for itself -/
def Own (O : Nat → Tag) (h : H) (tag : Tag) (v : Value) (es : List Ent) : Prop :=
  (v = .slice none 0 0 ∧ es = []) ∨ ∃ b cap cs, v = .slice (some ⟨b, 0, none⟩) es.length cap ∧ OpenC cap ∧ Has h b (.op cs 3) ∧ cs.length % 3 = 0 ∧ 3 * es.length ≤ cs.length ∧ cs.take (3 * es.length) = cellsE es ∧ O b = tag

theorem Own.keep {S : Nat → Prop} {O O' : Nat → Tag} {h h' : H} {tag : Tag} {v : Value} {es : List Ent} (a : Own O h tag v es) (k : Keep S h h') (hn : ∀ b, b < h.next → O b = tag → ¬ S b ∧ O' b = tag) : Own O' h' tag v es := by
  rcases a with a | ⟨b, cap, cs, e, c, hb, m, l, t, o⟩
  · exact .inl a
  · exact .inr ⟨b, cap, cs, e, c, hb.keep k (hn b hb.1 o).1, m, l, t, (hn b hb.1 o).2⟩
theorem Own.len {O : Nat → Tag} {h : H} {tag : Tag} {v : Value} {es : List Ent} (a : Own O h tag v es) : lenSl v = some (.int .i64 (es.length : Int)) := by
  rcases a with ⟨rfl, rfl⟩ | ⟨b, cap, cs, rfl, _⟩ <;> rfl
theorem Own.form {O : Nat → Tag} {h : H} {tag : Tag} {v : Value} {es : List Ent} (a : Own O h tag v es) : ∃ a n c, v = .slice a n c := by
  rcases a with ⟨rfl, rfl⟩ | ⟨b, cap, cs, rfl, _⟩
  · exact ⟨_, _, _, rfl⟩
  · exact ⟨_, _, _, rfl⟩

/-- the entry at a place -/
theorem Own.at {O : Nat → Tag} {h : H} {tag : Tag} {v : Value} {es : List Ent} (a : Own O h tag v es) {i : Nat} {e : Ent} (hi : es[i]? = some e) :
    ∃ b cs, indexSl 3 v (.int .i64 (i : Int)) = some (.pointer (some ⟨b, 3 * i, none⟩)) ∧ O b = tag ∧ Has h b (.op cs 3) ∧ 3 * i + 3 ≤ cs.length ∧ (cs.drop (3 * i)).take 3 = e.cells ∧ (∃ n c, v = .slice (some ⟨b, 0, none⟩) n c) := by
  have hlt := (List.getElem?_eq_some_iff.1 hi).1
  rcases a with ⟨rfl, rfl⟩ | ⟨b, cap, cs, rfl, c, hb, m, l, t, o⟩
  · simp at hlt
  · refine ⟨b, cs, ?_, o, hb, by omega, ?_, ⟨_, _, rfl⟩⟩
    · simp only [indexSl, asNat_nat, addOff]
      rw [Nat.ble_eq_true_of_le (by omega)]
      simp only [Nat.zero_add, Nat.mul_comm]
    · have h1 := cellsE_at hi
      rw [← t, List.drop_take, List.take_take, Nat.min_eq_left (by omega)] at h1
      exact h1
theorem op_loadAgg {h : H} {b o n : Nat} {s} {cs : List Value} (a : Has h b (.op cs 3)) (hn : o + n ≤ cs.length) : loadAgg n h (.pointer (some ⟨b, o, s⟩)) = some (.agg ((cs.drop o).take n).toArray) := loadAgg_has a rfl hn
theorem Ent.at_all {h : H} {b i : Nat} {cs : List Value} {e : Ent} (a : Has h b (.op cs 3)) (hn : 3 * i + 3 ≤ cs.length) (he : (cs.drop (3 * i)).take 3 = e.cells) (s) : loadAgg 3 h (.pointer (some ⟨b, 3 * i, s⟩)) = some (.agg e.cells.toArray) := by rw [op_loadAgg a hn, he]
theorem Ent.at_name {h : H} {b i : Nat} {cs : List Value} {e : Ent} (a : Has h b (.op cs 3)) (hn : 3 * i + 3 ≤ cs.length) (he : (cs.drop (3 * i)).take 3 = e.cells) (s) : loadAgg 2 h (.pointer (some ⟨b, 3 * i, s⟩)) = some (.agg [.int .i64 e.t, .string e.k].toArray) := by
  rw [op_loadAgg a (by omega)]
  have : (cs.drop (3 * i)).take 2 = ((cs.drop (3 * i)).take 3).take 2 := by rw [List.take_take]; rfl
  rw [this, he]; rfl
theorem Ent.at_x {h : H} {b i : Nat} {cs : List Value} {e : Ent} (a : Has h b (.op cs 3)) (hn : 3 * i + 3 ≤ cs.length) (he : (cs.drop (3 * i)).take 3 = e.cells) (s) : loadOne h (.pointer (some ⟨b, 3 * i + 2, s⟩)) = some (.int .i64 e.x) := by
  rw [loadOne_has a rfl]
  have : ((cs.drop (3 * i)).take 3)[2]? = some (.int .i64 e.x) := by rw [he]; rfl
  rw [List.getElem?_take, List.getElem?_drop] at this
  simpa using this

def upd (O : Nat → Tag) (b : Nat) (t : Tag) : Nat → Tag := fun c => if c = b then t else O c
theorem upd_same (O : Nat → Tag) (b : Nat) (t : Tag) : upd O b t b = t := by simp [upd]
theorem upd_ne (O : Nat → Tag) (b : Nat) (t : Tag) {c : Nat} (h : c ≠ b) : upd O b t c = O c := by simp [upd, h]

/-- an entry is put behind a row -/
theorem Own.append {O : Nat → Tag} {h : H} {tag : Tag} {v : Value} {es : List Ent} (a : Own O h tag v es) (e : Ent) {x : Value} (hx : lenV x = some 1) (hf : firstV h 3 1 x = some e.cells) (hsz : es.length ≤ 1000000) :
    ∃ v' h' O', appendV 3 32 h v x = some (v', h') ∧ Own O' h' tag v' (es ++ [e]) ∧ Keep (fun b => O b = tag) h h' ∧ (∀ b, b < h.next → O' b = O b) ∧ (∀ b, h'.next ≤ b → O' b = O b) ∧ (∀ b, O' b = O b ∨ O' b = tag) := by
  have hap : ∀ base sl sc, appendV 3 32 h (.slice base sl sc) x = appTo 3 32 h base sl sc 1 e.cells := fun base sl sc => by
    unfold appendV
    simp only [hx, hf]
    rfl
  have hgrow : ∀ (h0 : H), h0.next = h.next → Keep (fun b => O b = tag) h h0 → ∃ v' h' O', grow h0 (cellsE es) e.cells (es.length + 1) 3 = some (v', h') ∧ Own O' h' tag v' (es ++ [e]) ∧ Keep (fun b => O b = tag) h h' ∧ (∀ b, b < h.next → O' b = O b) ∧ (∀ b, h'.next ≤ b → O' b = O b) ∧ (∀ b, O' b = O b ∨ O' b = tag) := fun h0 hn hk => by
    refine ⟨_, _, upd O h0.next tag, rfl, .inr ⟨h0.next, opCap (es.length + 1) 3, cellsE es ++ e.cells, by simp, openC _, .new _ _, ?_, ?_, ?_, upd_same _ _ _⟩, hk.then (.new _ _), fun b hb => upd_ne _ _ _ (by omega), fun b hb => upd_ne _ _ _ (by simp at hb; omega), fun b => ?_⟩
    · simp only [List.length_append, cellsE_len]; simp [Ent.cells]
    · simp only [List.length_append, cellsE_len]; simp [Ent.cells]; omega
    · have : cellsE (es ++ [e]) = cellsE es ++ e.cells := by rw [cellsE_append]; simp [cellsE]
      rw [this, List.take_of_length_le]
      rw [List.length_append, cellsE_len]; simp [Ent.cells]; omega
    · by_cases hb : b = h0.next
      · subst hb; exact .inr (upd_same _ _ _)
      · exact .inl (upd_ne _ _ _ hb)
  rcases a with ⟨rfl, rfl⟩ | ⟨b, cap, cs, rfl, c, hb, m, l, t, o⟩
  · rw [hap]
    have : appTo 3 32 h none 0 0 1 e.cells = grow h [] e.cells 1 3 := rfl
    rw [this]
    exact hgrow h rfl (.refl _ _)
  · rw [hap]
    have h1 : appTo 3 32 h (some ⟨b, 0, none⟩) es.length cap 1 e.cells = appOpen 3 h ⟨b, 0, none⟩ es.length cap 1 e.cells := by
      unfold appTo
      simp only
      rw [Nat.ble_eq_true_of_le (show (es.length + 1) * 32 ≤ 140737488355328 by omega), Nat.ble_eq_true_of_le (show es.length + 1 ≤ 9223372036854775807 by omega)]
      simp only [c.1, Bool.and_self]
    rw [h1]
    unfold appOpen
    have h2 : Ev.ones e.cells = true := rfl
    simp only [c.2, h2, Bool.and_self, hb.2]
    have hel : e.cells.length = 3 := rfl
    by_cases hfull : 3 * es.length = cs.length
    · have e3 : putAt cs (0 + es.length * 3) e.cells = none := by
        rw [show 0 + es.length * 3 = cs.length by omega]
        exact putAt_end cs _ _
      have e4 : cut cs 0 = some cs := by simpa using cut_eq cs 0 (by simp)
      have e5 : Nat.beq (0 + es.length * 3) cs.length = true := by rw [show 0 + es.length * 3 = cs.length by omega]; exact Nat.beq_refl _
      simp only [e3, e4, e5]
      have : cs = cellsE es := by rw [← t, hfull, List.take_length]
      rw [this]
      exact hgrow (h.del b) rfl ((Keep.del h b).mono fun k _ e => by rw [e]; exact o)
    · have hroom : 3 * es.length + 3 ≤ cs.length := by omega
      have e3 : putAt cs (0 + es.length * 3) e.cells = some (cs.take (3 * es.length) ++ e.cells ++ cs.drop (3 * es.length + 3)) := by
        rw [show 0 + es.length * 3 = 3 * es.length by omega, putAt_at cs _ _ (by rw [hel]; exact hroom), hel]
      simp only [e3]
      refine ⟨_, _, O, rfl, .inr ⟨b, _, _, by rw [List.length_append]; rfl, openC _, .put hb.1, ?_, ?_, ?_, o⟩, (Keep.put h b _).mono fun k _ e => by rw [e]; exact o, fun _ _ => rfl, fun _ _ => rfl, fun _ => .inl rfl⟩
      · simp [hel]; omega
      · simp [hel]; omega
      · have : cellsE (es ++ [e]) = cellsE es ++ e.cells := by rw [cellsE_append]; simp [cellsE]
        rw [this, ← t, List.take_append_of_le_length (by simp [hel]; omega), List.take_of_length_le (by simp [hel]; omega)]

/-- a row is cut behind -/
theorem Own.cut {O : Nat → Tag} {h : H} {tag : Tag} {v : Value} {es : List Ent} (a : Own O h tag v es) (n : Nat) (hn : n ≤ es.length) : ∃ v', sliceSl 3 v none (some (.int .i64 (n : Int))) none = some v' ∧ Own O h tag v' (es.take n) := by
  rcases a with ⟨rfl, rfl⟩ | ⟨b, cap, cs, rfl, c, hb, m, l, t, o⟩
  · have : n = 0 := by simpa using hn
    subst this
    exact ⟨.slice none 0 0, rfl, .inl ⟨rfl, rfl⟩⟩
  · refine ⟨.slice (some ⟨b, 0, none⟩) n (opCap (Nat.max es.length (lbOf cap)) 3), ?_, .inr ⟨b, opCap (Nat.max es.length (lbOf cap)) 3, cs, ?_, openC _, hb, m, ?_, ?_, o⟩⟩
    · have hb2 : bnds none (some (.int .i64 (n : Int))) none es.length (Nat.max es.length (lbOf cap)) = some (0, n, Nat.max es.length (lbOf cap)) := by
        simp only [bnds, bnd, asNat_nat]
        rw [Nat.ble_eq_true_of_le (Nat.le_trans hn (Nat.le_max_left _ _))]
      simp only [sliceSl, c.1, c.2, hb2, addOff, Nat.zero_mul, Nat.add_zero, Nat.sub_zero]
    · rw [List.length_take, Nat.min_eq_left hn]
    · rw [List.length_take]; omega
    · rw [List.length_take, Nat.min_eq_left hn, ← cellsE_take, ← t, List.take_take, Nat.min_eq_left (by omega)]
end Go.Proofs.YtbdmhdidehfmoaaDoor
