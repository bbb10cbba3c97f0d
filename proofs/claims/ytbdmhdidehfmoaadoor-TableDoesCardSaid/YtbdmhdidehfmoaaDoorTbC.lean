import Derived.Test.YtbdmhdidehfmoaaDoorTbB
set_option linter.unusedSimpArgs false
set_option linter.unusedVariables false
namespace Go.Proofs.YtbdmhdidehfmoaaDoor
open Go.Ev

/-! ### entries, rows of entries -/
theorem putAt_at {α : Type} : ∀ (l : List α) (i : Nat) (ys : List α), i + ys.length ≤ l.length → putAt l i ys = some (l.take i ++ ys ++ l.drop (i + ys.length))
  | [], i, ys, h => by
    have h1 : i = 0 := by have : i + ys.length ≤ 0 := h; omega
    have h2 : ys = [] := by
      apply List.length_eq_zero_iff.1; have : i + ys.length ≤ 0 := h; omega
    subst h1; subst h2; rfl
  | x :: xs, 0, [], h => by simp [putAt]
  | x :: xs, 0, y :: ys, h => by
    have := putAt_at xs 0 ys (by simp at h ⊢; omega)
    simp [putAt, this]
  | x :: xs, i + 1, ys, h => by
    have := putAt_at xs i ys (by simp at h ⊢; omega)
    simp [putAt, this, show i + 1 + ys.length = i + ys.length + 1 by omega]
theorem putAt_one {α : Type} (l : List α) (i : Nat) (y : α) (h : i < l.length) : putAt l i [y] = some (l.set i y) := by
  rw [putAt_at l i [y] (by simp; omega)]
  rw [List.set_eq_take_append_cons_drop, if_pos h]
  simp

structure Ent where
  t : Int
  k : ByteArray
  x : Int
def Ent.cells (e : Ent) : List Value := [.int .i64 e.t, .string e.k, .int .i64 e.x]
def cellsE : List Ent → List Value
  | [] => []
  | e :: r => e.cells ++ cellsE r
theorem cellsE_len : ∀ es, (cellsE es).length = 3 * es.length
  | [] => rfl
  | e :: r => by simp [cellsE, cellsE_len r, Ent.cells]; omega
theorem cellsE_append : ∀ a b, cellsE (a ++ b) = cellsE a ++ cellsE b
  | [], b => rfl
  | e :: r, b => by simp [cellsE, cellsE_append r b]
theorem cellsE_take : ∀ (es : List Ent) (n : Nat), (cellsE es).take (3 * n) = cellsE (es.take n)
  | [], n => by simp [cellsE]
  | e :: r, 0 => rfl
  | e :: r, n + 1 => by
    have : 3 * (n + 1) = 3 * n + 1 + 1 + 1 := by omega
    rw [this]
    simp [cellsE, Ent.cells, cellsE_take r n]
theorem cellsE_drop : ∀ (es : List Ent) (n : Nat), (cellsE es).drop (3 * n) = cellsE (es.drop n)
  | [], n => by simp [cellsE]
  | e :: r, 0 => rfl
  | e :: r, n + 1 => by
    have : 3 * (n + 1) = 3 * n + 1 + 1 + 1 := by omega
    rw [this]
    simp [cellsE, Ent.cells, cellsE_drop r n]
theorem cellsE_ones : ∀ es, ones (cellsE es) = true
  | [] => rfl
  | e :: r => cellsE_ones r
theorem cellsE_at {es : List Ent} {i : Nat} {e : Ent} (h : es[i]? = some e) : ((cellsE es).drop (3 * i)).take 3 = e.cells := by
  rw [cellsE_drop]
  have hi := (List.getElem?_eq_some_iff.1 h).1
  rw [List.drop_eq_getElem_cons hi]
  have : es[i] = e := (List.getElem?_eq_some_iff.1 h).2
  rw [this]; rfl

def OpenC (cap : Nat) : Prop := Nat.ble OPEN cap = true ∧ Nat.beq (szOf cap) 3 = true
theorem openC (lb : Nat) : OpenC (opCap lb 3) := ⟨Nat.ble_eq_true_of_le (open_opCap lb 3), by rw [szOf_opCap (by omega)]; rfl⟩

/-- whose a block is -/
inductive Tag | tab | base (s : Bool) | row (s : Bool) (i : Nat) | other
  deriving DecidableEq

/-- a row that the table has for itself -/
def Own (O : Nat → Tag) (h : H) (tag : Tag) (v : Value) (es : List Ent) : Prop :=
  (v = .slice none 0 0 ∧ es = []) ∨ ∃ b cap cs, v = .slice (some ⟨b, 0, none⟩) es.length cap ∧ OpenC cap ∧ Has h b (.op cs 3) ∧ cs.length % 3 = 0 ∧ 3 * es.length ≤ cs.length ∧ cs.take (3 * es.length) = cellsE es ∧ O b = tag

theorem Own.keep {S : Nat → Prop} {O O' : Nat → Tag} {h h' : H} {tag : Tag} {v : Value} {es : List Ent} (a : Own O h tag v es) (k : Keep S h h') (hn : ∀ b, b < h.next → O b = tag → ¬ S b ∧ O' b = tag) : Own O' h' tag v es := by
  rcases a with a | ⟨b, cap, cs, e, c, hb, m, l, t, o⟩
  · exact .inl a
  · exact .inr ⟨b, cap, cs, e, c, hb.keep k (hn b hb.1 o).1, m, l, t, (hn b hb.1 o).2⟩
theorem Own.len {O : Nat → Tag} {h : H} {tag : Tag} {v : Value} {es : List Ent} (a : Own O h tag v es) : lenSl v = some (.int .i64 (es.length : Int)) := by
  rcases a with ⟨rfl, rfl⟩ | ⟨b, cap, cs, rfl, _⟩ <;> rfl
theorem Own.form {O : Nat → Tag} {h : H} {tag : Tag} {v : Value} {es : List Ent} (a : Own O h tag v es) : ∃ a n c, v = .slice a n c := by
  rcases a with ⟨rfl, rfl⟩ | ⟨b, cap, cs, rfl, _⟩
  · exact ⟨_, _, _, rfl⟩
  · exact ⟨_, _, _, rfl⟩

/-- the entry at a place -/
theorem Own.at {O : Nat → Tag} {h : H} {tag : Tag} {v : Value} {es : List Ent} (a : Own O h tag v es) {i : Nat} {e : Ent} (hi : es[i]? = some e) :
    ∃ b cs, indexSl 3 v (.int .i64 (i : Int)) = some (.pointer (some ⟨b, 3 * i, none⟩)) ∧ O b = tag ∧ Has h b (.op cs 3) ∧ 3 * i + 3 ≤ cs.length ∧ (cs.drop (3 * i)).take 3 = e.cells ∧ (∃ n c, v = .slice (some ⟨b, 0, none⟩) n c) := by
  have hlt := (List.getElem?_eq_some_iff.1 hi).1
  rcases a with ⟨rfl, rfl⟩ | ⟨b, cap, cs, rfl, c, hb, m, l, t, o⟩
  · simp at hlt
  · refine ⟨b, cs, ?_, o, hb, by omega, ?_, ⟨_, _, rfl⟩⟩
    · simp only [indexSl, asNat_nat, addOff]
      rw [Nat.ble_eq_true_of_le (by omega)]
      simp only [Nat.zero_add, Nat.mul_comm]
    · have h1 := cellsE_at hi
      rw [← t, List.drop_take, List.take_take, Nat.min_eq_left (by omega)] at h1
      exact h1
theorem op_loadAgg {h : H} {b o n : Nat} {s} {cs : List Value} (a : Has h b (.op cs 3)) (hn : o + n ≤ cs.length) : loadAgg n h (.pointer (some ⟨b, o, s⟩)) = some (.agg ((cs.drop o).take n).toArray) := loadAgg_has a rfl hn
theorem Ent.at_all {h : H} {b i : Nat} {cs : List Value} {e : Ent} (a : Has h b (.op cs 3)) (hn : 3 * i + 3 ≤ cs.length) (he : (cs.drop (3 * i)).take 3 = e.cells) (s) : loadAgg 3 h (.pointer (some ⟨b, 3 * i, s⟩)) = some (.agg e.cells.toArray) := by rw [op_loadAgg a hn, he]
theorem Ent.at_name {h : H} {b i : Nat} {cs : List Value} {e : Ent} (a : Has h b (.op cs 3)) (hn : 3 * i + 3 ≤ cs.length) (he : (cs.drop (3 * i)).take 3 = e.cells) (s) : loadAgg 2 h (.pointer (some ⟨b, 3 * i, s⟩)) = some (.agg [.int .i64 e.t, .string e.k].toArray) := by
  rw [op_loadAgg a (by omega)]
  have : (cs.drop (3 * i)).take 2 = ((cs.drop (3 * i)).take 3).take 2 := by rw [List.take_take]; rfl
  rw [this, he]; rfl
theorem Ent.at_x {h : H} {b i : Nat} {cs : List Value} {e : Ent} (a : Has h b (.op cs 3)) (hn : 3 * i + 3 ≤ cs.length) (he : (cs.drop (3 * i)).take 3 = e.cells) (s) : loadOne h (.pointer (some ⟨b, 3 * i + 2, s⟩)) = some (.int .i64 e.x) := by
  rw [loadOne_has a rfl]
  have : ((cs.drop (3 * i)).take 3)[2]? = some (.int .i64 e.x) := by rw [he]; rfl
  rw [List.getElem?_take, List.getElem?_drop] at this
  simpa using this

def upd (O : Nat → Tag) (b : Nat) (t : Tag) : Nat → Tag := fun c => if c = b then t else O c
theorem upd_same (O : Nat → Tag) (b : Nat) (t : Tag) : upd O b t b = t := by simp [upd]
theorem upd_ne (O : Nat → Tag) (b : Nat) (t : Tag) {c : Nat} (h : c ≠ b) : upd O b t c = O c := by simp [upd, h]

/-- an entry is put behind a row -/
theorem Own.append {O : Nat → Tag} {h : H} {tag : Tag} {v : Value} {es : List Ent} (a : Own O h tag v es) (e : Ent) {x : Value} (hx : lenV x = some 1) (hf : firstV h 3 1 x = some e.cells) (hsz : es.length ≤ 1000000) :
    ∃ v' h' O', appendV 3 32 h v x = some (v', h') ∧ Own O' h' tag v' (es ++ [e]) ∧ Keep (fun b => O b = tag) h h' ∧ (∀ b, b < h.next → O' b = O b) ∧ (∀ b, h'.next ≤ b → O' b = O b) ∧ (∀ b, O' b = O b ∨ O' b = tag) := by
  have hap : ∀ base sl sc, appendV 3 32 h (.slice base sl sc) x = appTo 3 32 h base sl sc 1 e.cells := fun base sl sc => by
    unfold appendV
    simp only [hx, hf]
    rfl
  have hgrow : ∀ (h0 : H), h0.next = h.next → Keep (fun b => O b = tag) h h0 → ∃ v' h' O', grow h0 (cellsE es) e.cells (es.length + 1) 3 = some (v', h') ∧ Own O' h' tag v' (es ++ [e]) ∧ Keep (fun b => O b = tag) h h' ∧ (∀ b, b < h.next → O' b = O b) ∧ (∀ b, h'.next ≤ b → O' b = O b) ∧ (∀ b, O' b = O b ∨ O' b = tag) := fun h0 hn hk => by
    refine ⟨_, _, upd O h0.next tag, rfl, .inr ⟨h0.next, opCap (es.length + 1) 3, cellsE es ++ e.cells, by simp, openC _, .new _ _, ?_, ?_, ?_, upd_same _ _ _⟩, hk.then (.new _ _), fun b hb => upd_ne _ _ _ (by omega), fun b hb => upd_ne _ _ _ (by simp at hb; omega), fun b => ?_⟩
    · simp only [List.length_append, cellsE_len]; simp [Ent.cells]
    · simp only [List.length_append, cellsE_len]; simp [Ent.cells]; omega
    · have : cellsE (es ++ [e]) = cellsE es ++ e.cells := by rw [cellsE_append]; simp [cellsE]
      rw [this, List.take_of_length_le]
      rw [List.length_append, cellsE_len]; simp [Ent.cells]; omega
    · by_cases hb : b = h0.next
      · subst hb; exact .inr (upd_same _ _ _)
      · exact .inl (upd_ne _ _ _ hb)
  rcases a with ⟨rfl, rfl⟩ | ⟨b, cap, cs, rfl, c, hb, m, l, t, o⟩
  · rw [hap]
    have : appTo 3 32 h none 0 0 1 e.cells = grow h [] e.cells 1 3 := rfl
    rw [this]
    exact hgrow h rfl (.refl _ _)
  · rw [hap]
    have h1 : appTo 3 32 h (some ⟨b, 0, none⟩) es.length cap 1 e.cells = appOpen 3 h ⟨b, 0, none⟩ es.length cap 1 e.cells := by
      unfold appTo
      simp only
      rw [Nat.ble_eq_true_of_le (show (es.length + 1) * 32 ≤ 140737488355328 by omega), Nat.ble_eq_true_of_le (show es.length + 1 ≤ 9223372036854775807 by omega)]
      simp only [c.1, Bool.and_self]
    rw [h1]
    unfold appOpen
    have h2 : Ev.ones e.cells = true := rfl
    simp only [c.2, h2, Bool.and_self, hb.2]
    have hel : e.cells.length = 3 := rfl
    by_cases hfull : 3 * es.length = cs.length
    · have e3 : putAt cs (0 + es.length * 3) e.cells = none := by
        rw [show 0 + es.length * 3 = cs.length by omega]
        exact putAt_end cs _ _
      have e4 : cut cs 0 = some cs := by simpa using cut_eq cs 0 (by simp)
      have e5 : Nat.beq (0 + es.length * 3) cs.length = true := by rw [show 0 + es.length * 3 = cs.length by omega]; exact Nat.beq_refl _
      simp only [e3, e4, e5]
      have : cs = cellsE es := by rw [← t, hfull, List.take_length]
      rw [this]
      exact hgrow (h.del b) rfl ((Keep.del h b).mono fun k _ e => by rw [e]; exact o)
    · have hroom : 3 * es.length + 3 ≤ cs.length := by omega
      have e3 : putAt cs (0 + es.length * 3) e.cells = some (cs.take (3 * es.length) ++ e.cells ++ cs.drop (3 * es.length + 3)) := by
        rw [show 0 + es.length * 3 = 3 * es.length by omega, putAt_at cs _ _ (by rw [hel]; exact hroom), hel]
      simp only [e3]
      refine ⟨_, _, O, rfl, .inr ⟨b, _, _, by rw [List.length_append]; rfl, openC _, .put hb.1, ?_, ?_, ?_, o⟩, (Keep.put h b _).mono fun k _ e => by rw [e]; exact o, fun _ _ => rfl, fun _ _ => rfl, fun _ => .inl rfl⟩
      · simp [hel]; omega
      · simp [hel]; omega
      · have : cellsE (es ++ [e]) = cellsE es ++ e.cells := by rw [cellsE_append]; simp [cellsE]
        rw [this, ← t, List.take_append_of_le_length (by simp [hel]; omega), List.take_of_length_le (by simp [hel]; omega)]

/-- a row is cut behind -/
theorem Own.cut {O : Nat → Tag} {h : H} {tag : Tag} {v : Value} {es : List Ent} (a : Own O h tag v es) (n : Nat) (hn : n ≤ es.length) : ∃ v', sliceSl 3 v none (some (.int .i64 (n : Int))) none = some v' ∧ Own O h tag v' (es.take n) := by
  rcases a with ⟨rfl, rfl⟩ | ⟨b, cap, cs, rfl, c, hb, m, l, t, o⟩
  · have : n = 0 := by simpa using hn
    subst this
    exact ⟨.slice none 0 0, rfl, .inl ⟨rfl, rfl⟩⟩
  · refine ⟨.slice (some ⟨b, 0, none⟩) n (opCap (Nat.max es.length (lbOf cap)) 3), ?_, .inr ⟨b, opCap (Nat.max es.length (lbOf cap)) 3, cs, ?_, openC _, hb, m, ?_, ?_, o⟩⟩
    · have hb2 : bnds none (some (.int .i64 (n : Int))) none es.length (Nat.max es.length (lbOf cap)) = some (0, n, Nat.max es.length (lbOf cap)) := by
        simp only [bnds, bnd, asNat_nat]
        rw [Nat.ble_eq_true_of_le (Nat.le_trans hn (Nat.le_max_left _ _))]
      simp only [sliceSl, c.1, c.2, hb2, addOff, Nat.zero_mul, Nat.add_zero, Nat.sub_zero]
    · rw [List.length_take, Nat.min_eq_left hn]
    · rw [List.length_take]; omega
    · rw [List.length_take, Nat.min_eq_left hn, ← cellsE_take, ← t, List.take_take, Nat.min_eq_left (by omega)]
end Go.Proofs.YtbdmhdidehfmoaaDoor

namespace Go.Proofs.YtbdmhdidehfmoaaDoor
open Go.Ev

theorem keep_room (h : H) (n : Nat) : Keep nobody h ⟨h.objs, h.next + n⟩ := ⟨Nat.le_add_right _ _, fun _ _ _ => rfl⟩
theorem wrap_i64 (n : Nat) (h : n < 9223372036854775808) : IntKind.i64.wrap (n : Int) = (n : Int) := by
  rw [wrap_eq] <;> simp [IntKind.min, IntKind.max, IntKind.bits, IntKind.signed] <;> omega
theorem bnd_nat (k : IntKind) (n d y : Nat) (h : n ≤ y) : bnd (some (.int k (n : Int))) d y = some n := by
  simp only [bnd, asNat_nat, Nat.ble_eq_true_of_le h]

def zE : List Value := [.int .i64 0, .string (strB []), .int .i64 0]

theorem open_len {cap len : Nat} (c : OpenC cap) (h : len ≤ 1000000) : Nat.ble len cap = true := by
  have := Nat.le_of_ble_eq_true c.1
  exact Nat.ble_eq_true_of_le (by unfold OPEN at this; omega)

theorem cellsE_erase (es : List Ent) (i : Nat) (hi : i < es.length) : cellsE (es.eraseIdx i) = (cellsE es).take (3 * i) ++ (cellsE es).drop (3 * (i + 1)) := by
  rw [cellsE_take, cellsE_drop, ← cellsE_append, List.eraseIdx_eq_take_drop_succ]

/-- what is behind an entry is copied down -/
theorem copy_down {O : Nat → Tag} {h : H} {tag : Tag} {es : List Ent} {b cap2 cap5 i : Nat} {cs : List Value} (hb : Has h b (.op cs 3)) (l : 3 * es.length ≤ cs.length) (t : cs.take (3 * es.length) = cellsE es) (o : O b = tag) (hi : i < es.length) (hsz : es.length ≤ 1000000) (c2 : OpenC cap2) (lb2 : es.length ≤ lbOf cap2) :
    ∃ cs1 cap1 h1, appendV 3 32 h (.slice (some ⟨b, 0, none⟩) i cap2) (.slice (some ⟨b, (i + 1) * 3, none⟩) (es.length - (i + 1)) cap5) = some (.slice (some ⟨b, 0, none⟩) (es.length - 1) cap1, h1) ∧ OpenC cap1 ∧ es.length ≤ lbOf cap1 ∧ Has h1 b (.op cs1 3) ∧ cs1.length = cs.length ∧ cs1.take (3 * (es.length - 1)) = cellsE (es.eraseIdx i) ∧ Keep (fun b => O b = tag) h h1 := by
  have hrow : h.row b ((i + 1) * 3) ((es.length - (i + 1)) * 3) = some ((cs.drop ((i + 1) * 3)).take ((es.length - (i + 1)) * 3)) := row_has hb rfl (by omega)
  have hnl : ((cs.drop ((i + 1) * 3)).take ((es.length - (i + 1)) * 3)).length = (es.length - (i + 1)) * 3 := by simp; omega
  have hnew : (cs.drop ((i + 1) * 3)).take ((es.length - (i + 1)) * 3) = cellsE (es.drop (i + 1)) := by
    rw [← cellsE_drop, ← t, List.drop_take]
    rw [show 3 * (i + 1) = (i + 1) * 3 by omega, show (es.length - (i + 1)) * 3 = 3 * es.length - (i + 1) * 3 by omega]
  have ap : appendV 3 32 h (.slice (some ⟨b, 0, none⟩) i cap2) (.slice (some ⟨b, (i + 1) * 3, none⟩) (es.length - (i + 1)) cap5) = appTo 3 32 h (some ⟨b, 0, none⟩) i cap2 (es.length - (i + 1)) ((cs.drop ((i + 1) * 3)).take ((es.length - (i + 1)) * 3)) := by
    unfold appendV
    simp only [lenV, firstV, hrow, hnl, Nat.beq_refl]
  rw [ap]
  have hpre : cs.take (3 * i) = (cellsE es).take (3 * i) := by rw [← t, List.take_take, Nat.min_eq_left (by omega)]
  have hon : Ev.ones ((cs.drop ((i + 1) * 3)).take ((es.length - (i + 1)) * 3)) = true := by rw [hnew]; exact cellsE_ones _
  generalize hnw : (cs.drop ((i + 1) * 3)).take ((es.length - (i + 1)) * 3) = new at *
  have her := cellsE_erase es i hi
  by_cases hz : es.length - (i + 1) = 0
  · have e0 : appTo 3 32 h (some ⟨b, 0, none⟩) i cap2 (es.length - (i + 1)) new = some (.slice (some ⟨b, 0, none⟩) i cap2, h) := by
      rw [hz]
      simp only [appTo, open_len c2 (show i ≤ 1000000 by omega)]
    have hii : i = es.length - 1 := by omega
    refine ⟨cs, cap2, h, by rw [e0, ← hii], c2, lb2, hb, rfl, ?_, .refl _ _⟩
    rw [← hii, hpre, her, List.drop_of_length_le (by rw [cellsE_len]; omega), List.append_nil]
  · obtain ⟨q, hq⟩ : ∃ q, es.length - (i + 1) = q + 1 := ⟨es.length - (i + 1) - 1, by omega⟩
    have e0 : appTo 3 32 h (some ⟨b, 0, none⟩) i cap2 (q + 1) new = appOpen 3 h ⟨b, 0, none⟩ i cap2 (q + 1) new := by
      unfold appTo
      simp only
      rw [Nat.ble_eq_true_of_le (show (i + (q + 1)) * 32 ≤ 140737488355328 by omega), Nat.ble_eq_true_of_le (show i + (q + 1) ≤ 9223372036854775807 by omega)]
      simp only [c2.1, Bool.and_self]
    have e3 := putAt_at cs (0 + i * 3) new (by rw [hnl]; omega)
    have e4 : appOpen 3 h ⟨b, 0, none⟩ i cap2 (q + 1) new = some (.slice (some ⟨b, 0, none⟩) (i + (q + 1)) (opCap (Nat.max (lbOf cap2) (i + (q + 1))) 3), h.put b (.op (cs.take (0 + i * 3) ++ new ++ cs.drop (0 + i * 3 + new.length)) 3)) := by
      unfold appOpen
      simp only [c2.2, hon, Bool.and_self, hb.2, e3]
    rw [hq, e0, e4]
    refine ⟨_, _, _, by rw [show i + (q + 1) = es.length - 1 by omega], openC _, ?_, .put hb.1, ?_, ?_, (Keep.put h b _).mono fun k _ e => by rw [e]; exact o⟩
    · rw [lbOf_opCap (by omega)]; exact Nat.le_trans lb2 (Nat.le_max_left _ _)
    · simp only [List.length_append, hnl, List.length_take, List.length_drop]; omega
    · rw [her, hnew, ← cellsE_drop, show 0 + i * 3 = 3 * i by omega, hpre]
      rw [List.take_append_of_le_length (by simp only [List.length_append, List.length_take, List.length_drop, cellsE_len]; omega), List.take_of_length_le (by simp only [List.length_append, List.length_take, List.length_drop, cellsE_len]; omega)]

/-- the row without one entry -/
theorem Own.delete {O : Nat → Tag} {h : H} {tag : Tag} {v : Value} {es : List Ent} (a : Own O h tag v es) {i : Nat} (hi : i < es.length) (hsz : es.length ≤ 1000000) :
    ∃ v1 v2 v5 v6 h1 v4 h2, sliceSl 3 v (some (.int .i64 (i : Int))) (some (.int .i64 ((i + 1 : Nat) : Int))) (some (.int .i64 (es.length : Int))) = some v1 ∧ sliceSl 3 v none (some (.int .i64 (i : Int))) none = some v2 ∧ sliceSl 3 v (some (.int .i64 ((i + 1 : Nat) : Int))) none none = some v5 ∧
      appendV 3 32 h v2 v5 = some (v6, h1) ∧ lenSl v6 = some (.int .i64 ((es.length - 1 : Nat) : Int)) ∧ sliceSl 3 v6 (some (.int .i64 ((es.length - 1 : Nat) : Int))) (some (.int .i64 (es.length : Int))) none = some v4 ∧ clearS zE h1 v4 = some h2 ∧
      Own O h2 tag v6 (es.eraseIdx i) ∧ Keep (fun b => O b = tag) h h2 := by
  rcases a with ⟨rfl, rfl⟩ | ⟨b, cap, cs, rfl, c, hb, m, l, t, o⟩
  · simp at hi
  have hel : (es.eraseIdx i).length = es.length - 1 := List.length_eraseIdx_of_lt hi
  have e1 : ∃ v1, sliceSl 3 (.slice (some ⟨b, 0, none⟩) es.length cap) (some (.int .i64 (i : Int))) (some (.int .i64 ((i + 1 : Nat) : Int))) (some (.int .i64 (es.length : Int))) = some v1 := by
    have hbn : bnds (some (.int .i64 (i : Int))) (some (.int .i64 ((i + 1 : Nat) : Int))) (some (.int .i64 (es.length : Int))) es.length es.length = some (i, i + 1, es.length) := by
      simp only [bnds]
      rw [bnd_nat _ _ _ _ (Nat.le_refl _)]; simp only
      rw [bnd_nat _ _ _ _ hi]; simp only
      rw [bnd_nat _ _ _ _ (Nat.le_succ i)]
    have hc : (Nat.beq (szOf cap) 3 && Nat.ble 1 es.length && Nat.ble es.length 9223372036854775807) = true := by
      rw [c.2, Nat.ble_eq_true_of_le (show 1 ≤ es.length by omega), Nat.ble_eq_true_of_le (show es.length ≤ 9223372036854775807 by omega)]; rfl
    have hn : Nat.beq es.length i = false := by rw [Bool.eq_false_iff]; intro e; have := Nat.eq_of_beq_eq_true e; omega
    simp only [sliceSl, c.1, hc, hbn, hn]
    exact ⟨_, rfl⟩
  obtain ⟨v1, e1⟩ := e1
  have e2 : sliceSl 3 (.slice (some ⟨b, 0, none⟩) es.length cap) none (some (.int .i64 (i : Int))) none = some (.slice (some ⟨b, 0, none⟩) i (opCap (Nat.max es.length (lbOf cap)) 3)) := by
    have hbn : bnds none (some (.int .i64 (i : Int))) none es.length (Nat.max es.length (lbOf cap)) = some (0, i, Nat.max es.length (lbOf cap)) := by
      simp only [bnds, bnd, asNat_nat]
      rw [Nat.ble_eq_true_of_le (Nat.le_trans (Nat.le_of_lt hi) (Nat.le_max_left _ _))]
    simp only [sliceSl, c.1, c.2, hbn, addOff, Nat.zero_mul, Nat.add_zero, Nat.sub_zero]
  have e5 : sliceSl 3 (.slice (some ⟨b, 0, none⟩) es.length cap) (some (.int .i64 ((i + 1 : Nat) : Int))) none none = some (.slice (some ⟨b, (i + 1) * 3, none⟩) (es.length - (i + 1)) (opCap (Nat.max es.length (lbOf cap) - (i + 1)) 3)) := by
    have hbn : bnds (some (.int .i64 ((i + 1 : Nat) : Int))) none none es.length (Nat.max es.length (lbOf cap)) = some (i + 1, es.length, Nat.max es.length (lbOf cap)) := by
      simp only [bnds]
      have h1 : ∀ d y, bnd none d y = some d := fun _ _ => rfl
      simp only [h1]
      rw [bnd_nat _ _ _ _ hi]
    simp only [sliceSl, c.1, c.2, hbn, addOff, Nat.zero_add]
  have c2 := openC (Nat.max es.length (lbOf cap))
  have lb2 : es.length ≤ lbOf (opCap (Nat.max es.length (lbOf cap)) 3) := by rw [lbOf_opCap (by omega)]; exact Nat.le_max_left _ _
  generalize opCap (Nat.max es.length (lbOf cap)) 3 = cap2 at *
  generalize opCap (Nat.max es.length (lbOf cap) - (i + 1)) 3 = cap5 at *
  have app := copy_down (O := O) (cap5 := cap5) hb l t o hi hsz c2 lb2
  obtain ⟨cs1, cap1, h1, e6, c1, lb1, hb1, hl1, t1, k1⟩ := app
  have hclr : ∃ v4 h2, sliceSl 3 (.slice (some ⟨b, 0, none⟩) (es.length - 1) cap1) (some (.int .i64 ((es.length - 1 : Nat) : Int))) (some (.int .i64 (es.length : Int))) none = some v4 ∧ clearS zE h1 v4 = some h2 ∧ ∃ cs2, Has h2 b (.op cs2 3) ∧ cs2.length = cs.length ∧ cs2.take (3 * (es.length - 1)) = cellsE (es.eraseIdx i) ∧ Keep (fun b => O b = tag) h1 h2 := by
    have hbn : bnds (some (.int .i64 ((es.length - 1 : Nat) : Int))) (some (.int .i64 (es.length : Int))) none (es.length - 1) (Nat.max (es.length - 1) (lbOf cap1)) = some (es.length - 1, es.length, Nat.max (es.length - 1) (lbOf cap1)) := by
      simp only [bnds]
      have h1 : ∀ d y, bnd none d y = some d := fun _ _ => rfl
      simp only [h1]
      rw [bnd_nat _ _ _ _ (Nat.le_trans lb1 (Nat.le_max_right _ _))]; simp only
      rw [bnd_nat _ _ _ _ (by omega)]
    have hz : repl zE 1 = zE := rfl
    refine ⟨.slice (some ⟨b, (es.length - 1) * 3, none⟩) 1 (opCap (Nat.max (es.length - 1) (lbOf cap1) - (es.length - 1)) 3), h1.put b (.op (cs1.take ((es.length - 1) * 3) ++ zE ++ cs1.drop ((es.length - 1) * 3 + 3)) 3), ?_, ?_, _, .put hb1.1, ?_, ?_, (Keep.put h1 b _).mono fun k _ e => by rw [e]; exact o⟩
    · simp only [sliceSl, c1.1, c1.2, hbn, addOff, Nat.zero_add]
      rw [show es.length - (es.length - 1) = 1 by omega]
    · simp only [clearS, H.write, hz]
      have h1 : Ev.ones zE = true := rfl
      rw [h1, hb1.2]
      simp only
      rw [putAt_at cs1 _ zE (by show _ + 3 ≤ _; omega)]
      rfl
    · simp only [List.length_append, List.length_take, List.length_drop]; show _ + 3 + _ = _; omega
    · rw [← t1, List.append_assoc, List.take_append_of_le_length (by simp; omega), List.take_take, Nat.min_eq_left (by omega)]
  obtain ⟨v4, h2, e7, e8, cs2, hb2, hl2, t2, k2⟩ := hclr
  refine ⟨v1, _, _, _, h1, v4, h2, e1, e2, e5, e6, rfl, e7, e8, .inr ⟨b, cap1, cs2, by rw [hel], c1, hb2, by rw [hl2]; exact m, by omega, by rw [hel]; exact t2, o⟩, k1.trans k2 fun _ _ h => h⟩

theorem delete_law (L n : Nat) {O : Nat → Tag} {h : H} {tag : Tag} {v : Value} {es : List Ent} (a : Own O h tag v es) {i : Nat} (hi : i < es.length) (hsz : es.length ≤ 1000000) :
    Sp (callF Tryd.prog (maskOf masks) outside NG L (n + 1)) 38 [v, .int .i64 (i : Int), .int .i64 ((i + 1 : Nat) : Int)] h fun r h' => Own O h' tag r (es.eraseIdx i) ∧ Keep (fun b => O b = tag) h h' := by
  refine Sp.body f38 (by simp) ?_
  unfold c38
  refine C.seq fun K hK => hK .norm _ _ (C.seq fun K hK => ?_)
  obtain ⟨v1, _, _, _, _, _, _, e1, _⟩ := a.delete hi hsz
  simp only [↓opStep_eq, ↓reduceIte, ↓EW, EV, Nat.reduceAdd, Nat.reduceEqDiff, Int.reduceEq, Int.reduceLT, Int.reduceLE, Int.reduceNe, seqC, retC, skipC, exitC, blockC, condC, r38_1, a.len, e1]
  have hne : ¬ (i : Int) = ((i + 1 : Nat) : Int) := by omega
  refine hK _ _ _ (C.seq (C.seq fun K hK => ?_))
  simp only [↓opStep_eq, ↓reduceIte, ↓EW, EV, Nat.reduceAdd, Nat.reduceEqDiff, Int.reduceEq, Int.reduceLT, Int.reduceLE, Int.reduceNe, seqC, retC, skipC, exitC, blockC, condC, r38_2, hne]
  refine hK _ _ _ (C.cond false (by simp only [↓opStep_eq, ↓reduceIte, ↓EW, EV, Nat.reduceAdd, Nat.reduceEqDiff, Int.reduceEq, Int.reduceLT, Int.reduceLE, Int.reduceNe, seqC, retC, skipC, exitC, blockC, condC]) (fun g => by cases g) fun g => C.skip ?_)
  refine C.seq fun K hK => ?_
  simp only [↓opStep_eq, ↓reduceIte, ↓EW, EV, Nat.reduceAdd, Nat.reduceEqDiff, Int.reduceEq, Int.reduceLT, Int.reduceLE, Int.reduceNe, seqC, retC, skipC, exitC, blockC, condC, r38_4, a.len]
  refine hK _ _ _ (C.seq fun K hK => ?_)
  have kr := keep_room h 8
  obtain ⟨_, v2, v5, v6, h1, v4, h2, _, e2, e5, e6, el, e7, e8, own, k⟩ := (a.keep kr (O' := O) fun _ _ h => ⟨id, h⟩).delete hi hsz
  simp only [↓opStep_eq, ↓reduceIte, ↓EW, EV, Nat.reduceAdd, Nat.reduceEqDiff, Int.reduceEq, Int.reduceLT, Int.reduceLE, Int.reduceNe, seqC, retC, skipC, exitC, blockC, condC, r38_5, e2, e5, e6]
  refine hK _ _ _ (C.seq fun K hK => ?_)
  have e8' : clearS [(.int .i64 (0)), (.string (strB [])), (.int .i64 (0))] h1 v4 = some h2 := e8
  simp only [↓opStep_eq, ↓reduceIte, ↓EW, EV, Nat.reduceAdd, Nat.reduceEqDiff, Int.reduceEq, Int.reduceLT, Int.reduceLE, Int.reduceNe, seqC, retC, skipC, exitC, blockC, condC, r38_6, el, e7, e8']
  refine hK _ _ _ (C.seq fun K hK => hK .norm _ _ (C.ret ⟨.inr rfl, _, rfl, ?_, ?_⟩))
  · simp only [↓opStep_eq, ↓reduceIte, ↓EW, EV, Nat.reduceAdd, Nat.reduceEqDiff, Int.reduceEq, Int.reduceLT, Int.reduceLE, Int.reduceNe, seqC, retC, skipC, exitC, blockC, condC, resOf]; exact own
  · exact (kr.mono fun _ _ h => h.elim).trans k fun _ _ h => h
end Go.Proofs.YtbdmhdidehfmoaaDoor

namespace Go.Proofs.YtbdmhdidehfmoaaDoor
open Go.Ev
noncomputable abbrev CF (L n : Nat) : CallT := callF Tryd.prog (maskOf masks) outside NG L n

section
variable {P : Program}
theorem binV_xor (t : TypeId) (c : Bool) (k : IntKind) (x y : Int) : binV P .xor t c (.int k x) (.int k y) = some (.int k (k.wrap (BitVec.ofInt k.bits x ^^^ BitVec.ofInt k.bits y).toNat)) := by
  simp [binV, binInt, orRun, intOp, pureRun, binOp, Op.intBits]
theorem binV_cat (t : TypeId) (c : Bool) (x : UInt8) (y : ByteArray) (h : y.size ≤ 1000000) : binV P .add t c (.string ⟨[x].toArray⟩) (.string y) = some (.string ⟨(x :: y.data.toList).toArray⟩) := by
  show catV _ _ = _
  unfold catV
  rw [Nat.ble_eq_true_of_le (by show 1 + y.size ≤ _; omega)]
  rfl
theorem nilChk_some (a : Addr) : nilChk (.pointer (some a)) = some (.pointer (some a)) := (rfl)
end

/-! ### Hash -/
def hstep (h : Int) (c : UInt8) : Int := IntKind.u64.wrap (IntKind.u64.wrap (BitVec.ofInt IntKind.u64.bits h ^^^ BitVec.ofInt IntKind.u64.bits (IntKind.u64.wrap (c.toNat : Int))).toNat * 1099511628211)
def hashL (l : List UInt8) : Int := l.foldl hstep 14695981039346656037

theorem hash_law (L n : Nat) (s : ByteArray) (h : H) (hL : s.size < L) (hs : s.size ≤ 1000000) : Sp (CF L (n + 1)) 45 [.string s] h fun r h' => r = .int .u64 (hashL s.data.toList) ∧ Keep nobody h h' := by
  refine Sp.body f45 (by simp) ?_
  unfold c45
  refine C.seq fun K hK => hK .norm _ _ (C.seq fun K hK => hK .norm _ _ ?_)
  have k1 := Keep.new h (.op (s.data.toList.map bv) 1)
  have b1 := Has.new h (.op (s.data.toList.map bv) 1)
  have mk : mkBytes h.next (.string s) = some (.op (s.data.toList.map bv) 1, .slice (some ⟨h.next, 0, none⟩) s.size (opCap s.size 1)) := rfl
  have hlen : s.data.toList.length = s.size := by rw [Array.length_toList]; rfl
  generalize opCap s.size 1 = cp at mk
  refine C.seq (C.seq fun K hK => ?_)
  simp only [↓opStep_eq, ↓reduceIte, ↓EW, EV, Nat.reduceAdd, Nat.reduceEqDiff, Int.reduceEq, Int.reduceLT, Int.reduceLE, Int.reduceNe, seqC, retC, skipC, exitC, blockC, condC, r45_2, mk, lenSl_slice]
  generalize h.new (.op (s.data.toList.map bv) 1) = h1 at *
  refine hK .norm _ _ ?_
  refine C.block (C.loop (fun k tm' hx => ∃ i, k = s.size - i ∧ i ≤ s.size ∧ tg tm' 7 = .slice (some ⟨h.next, 0, none⟩) s.size cp ∧ tg tm' 8 = .int .i64 (s.size : Int) ∧ tg tm' 9 = .int .i64 (i : Int) ∧ tg tm' 3 = .int .u64 (hashL (s.data.toList.take i)) ∧ Keep nobody h1 hx) s.size hL
    ⟨0, rfl, by omega, by simp only [↓opStep_eq, ↓reduceIte, ↓EW, EV, Nat.reduceAdd, Nat.reduceEqDiff, Int.reduceEq, Int.reduceLT, Int.reduceLE, Int.reduceNe, seqC, retC, skipC, exitC, blockC, condC], by simp only [↓opStep_eq, ↓reduceIte, ↓EW, EV, Nat.reduceAdd, Nat.reduceEqDiff, Int.reduceEq, Int.reduceLT, Int.reduceLE, Int.reduceNe, seqC, retC, skipC, exitC, blockC, condC], by simp only [↓opStep_eq, ↓reduceIte, ↓EW, EV, Nat.reduceAdd, Nat.reduceEqDiff, Int.reduceEq, Int.reduceLT, Int.reduceLE, Int.reduceNe, seqC, retC, skipC, exitC, blockC, condC] <;> rfl, by simp only [↓opStep_eq, ↓reduceIte, ↓EW, EV, Nat.reduceAdd, Nat.reduceEqDiff, Int.reduceEq, Int.reduceLT, Int.reduceLE, Int.reduceNe, seqC, retC, skipC, exitC, blockC, condC] <;> rfl, .refl _ _⟩ ?_)
  rintro k tm' hx ⟨i, rfl, hi, t7, t8, t9, t3, kx⟩
  unfold l45_7
  refine C.seq fun K hK => ?_
  simp only [↓opStep_eq, ↓reduceIte, ↓EW, EV, Nat.reduceAdd, Nat.reduceEqDiff, Int.reduceEq, Int.reduceLT, Int.reduceLE, Int.reduceNe, seqC, retC, skipC, exitC, blockC, condC, r45_3, t8, t9]
  refine hK _ _ _ (C.seq (C.cond (decide ((i : Int) < (s.size : Int))) (by simp only [↓opStep_eq, ↓reduceIte, ↓EW, EV, Nat.reduceAdd, Nat.reduceEqDiff, Int.reduceEq, Int.reduceLT, Int.reduceLE, Int.reduceNe, seqC, retC, skipC, exitC, blockC, condC]) (fun g => C.skip ?_) fun g => C.exit ?_))
  · have g : i < s.size := by have := of_decide_eq_true g; omega
    obtain ⟨x, hxx⟩ : ∃ x, s.data.toList[i]? = some x := ⟨s.data.toList[i]'(by omega), List.getElem?_eq_getElem (by omega)⟩
    refine C.seq (C.block (C.seq fun K hK => ?_))
    have e1 : indexSl 1 (.slice (some ⟨h.next, 0, none⟩) s.size cp) (.int .i64 (i : Int)) = some (.pointer (some ⟨h.next, i, none⟩)) := by
      simp only [indexSl, asNat_nat, addOff]
      rw [Nat.ble_eq_true_of_le (by omega)]
      simp only [Nat.zero_add, Nat.mul_one]
    have e2 : loadOne hx (.pointer (some ⟨h.next, i, none⟩)) = some (bv x) := by
      rw [loadOne_has (b1.keep0 kx) rfl, List.getElem?_map, hxx]; rfl
    simp only [↓opStep_eq, ↓reduceIte, ↓EW, EV, Nat.reduceAdd, Nat.reduceEqDiff, Int.reduceEq, Int.reduceLT, Int.reduceLE, Int.reduceNe, seqC, retC, skipC, exitC, blockC, condC, r45_4, t7, t9, e1, e2]
    refine hK _ _ _ fun K hK => ?_
    simp only [↓opStep_eq, ↓reduceIte, ↓EW, EV, Nat.reduceAdd, Nat.reduceEqDiff, Int.reduceEq, Int.reduceLT, Int.reduceLE, Int.reduceNe, seqC, retC, skipC, exitC, blockC, condC, r45_5, t3, bv, toInt_int, binV_xor]
    refine hK _ _ _ fun K hK => ?_
    have hw : IntKind.i64.wrap ((i : Int) + 1) = ((i + 1 : Nat) : Int) := by
      rw [show (i : Int) + 1 = ((i + 1 : Nat) : Int) by omega, wrap_i64 _ (by omega)]
    simp only [↓opStep_eq, ↓reduceIte, ↓EW, EV, Nat.reduceAdd, Nat.reduceEqDiff, Int.reduceEq, Int.reduceLT, Int.reduceLE, Int.reduceNe, seqC, retC, skipC, exitC, blockC, condC, r45_6, t9, hw]
    refine hK _ _ _ ⟨s.size - (i + 1), by omega, i + 1, rfl, by omega, by simp only [↓opStep_eq, ↓reduceIte, ↓EW, EV, Nat.reduceAdd, Nat.reduceEqDiff, Int.reduceEq, Int.reduceLT, Int.reduceLE, Int.reduceNe, seqC, retC, skipC, exitC, blockC, condC, t7], by simp only [↓opStep_eq, ↓reduceIte, ↓EW, EV, Nat.reduceAdd, Nat.reduceEqDiff, Int.reduceEq, Int.reduceLT, Int.reduceLE, Int.reduceNe, seqC, retC, skipC, exitC, blockC, condC, t8], by simp only [↓opStep_eq, ↓reduceIte, ↓EW, EV, Nat.reduceAdd, Nat.reduceEqDiff, Int.reduceEq, Int.reduceLT, Int.reduceLE, Int.reduceNe, seqC, retC, skipC, exitC, blockC, condC], ?_, kx⟩
    simp only [↓opStep_eq, ↓reduceIte, ↓EW, EV, Nat.reduceAdd, Nat.reduceEqDiff, Int.reduceEq, Int.reduceLT, Int.reduceLE, Int.reduceNe, seqC, retC, skipC, exitC, blockC, condC]
    have : hashL (s.data.toList.take (i + 1)) = hstep (hashL (s.data.toList.take i)) x := by
      unfold hashL
      rw [List.take_add_one, hxx, Option.toList_some, List.foldl_append, List.foldl_cons, List.foldl_nil]
    rw [this]; rfl
  · simp only [if_pos]
    have g : i = s.size := by have := of_decide_eq_false g; omega
    refine C.seq fun K hK => hK .norm _ _ (C.ret ⟨.inr rfl, _, rfl, ?_, k1.then kx⟩)
    simp only [↓opStep_eq, ↓reduceIte, ↓EW, EV, Nat.reduceAdd, Nat.reduceEqDiff, Int.reduceEq, Int.reduceLT, Int.reduceLE, Int.reduceNe, seqC, retC, skipC, exitC, blockC, condC, resOf, t3]
    rw [List.take_of_length_le (by omega)]

/-! ### row -/
def tb (t : Int) : UInt8 := UInt8.ofNat (IntKind.u8.wrap t).toNat
theorem tb_eq (t : Int) : Value.int .u8 (IntKind.u8.wrap t) = bv (tb t) := by
  have h1 : 0 ≤ IntKind.u8.wrap t ∧ IntKind.u8.wrap t < 256 := by
    simp [IntKind.wrap, IntKind.bits, IntKind.signed]; omega
  unfold bv tb
  congr 1
  rw [UInt8.toNat_ofNat_of_lt' (by simp [UInt8.size]; omega)]
  omega
def mixI (h : Int) : Int := IntKind.u64.wrap (BitVec.ofInt IntKind.u64.bits h ^^^ BitVec.ofInt IntKind.u64.bits (h.fdiv (2 ^ (min (32 : Int).toNat IntKind.u64.bits)))).toNat
/-- a name's row, of so many -/
def idx (t : Int) (k : ByteArray) (n : Nat) : Nat := (BitVec.ofInt IntKind.u64.bits (mixI (hashL (tb t :: k.data.toList))) &&& BitVec.ofInt IntKind.u64.bits ((n - 1 : Nat) : Int)).toNat
theorem idx_lt (t : Int) (k : ByteArray) {n : Nat} (hn : 0 < n) (hb : n ≤ 1000000) : idx t k n < n := by
  have h1 : idx t k n ≤ (BitVec.ofInt IntKind.u64.bits ((n - 1 : Nat) : Int)).toNat := by
    unfold idx
    rw [BitVec.toNat_and]
    exact Nat.and_le_right
  have h2 : (BitVec.ofInt IntKind.u64.bits ((n - 1 : Nat) : Int)).toNat = n - 1 := by
    show (BitVec.ofInt 64 ((n - 1 : Nat) : Int)).toNat = n - 1
    rw [BitVec.toNat_ofInt]
    omega
  omega

theorem row_law (L n : Nat) (t : Int) (k : ByteArray) (p : Addr) (B m : Nat) (h : H) (hp : ∀ hx, Keep nobody h hx → ∀ s, loadOne hx (.pointer (some ⟨p.block, p.off, s⟩)) = some (.slice (some ⟨B, 0, none⟩) m m)) (hm : 0 < m) (hb : m ≤ 1000000) (hL : k.size + 1 < L) (hk : k.size ≤ 100000) :
    Sp (CF L (n + 2)) 35 [.pointer (some p), .agg [.int .i64 t, .string k].toArray] h fun r h' => r = .pointer (some ⟨B, idx t k m, none⟩) ∧ Keep nobody h h' := by
  refine Sp.body f35 (by simp) ?_
  unfold c35
  have k1 := Keep.new h (.rw [.int .i64 t, .string k])
  have b1 := Has.new h (.rw [.int .i64 t, .string k])
  refine C.seq fun K hK => ?_
  simp only [↓opStep_eq, ↓reduceIte, ↓EW, EV, Nat.reduceAdd, Nat.reduceEqDiff, Int.reduceEq, Int.reduceLT, Int.reduceLE, Int.reduceNe, seqC, retC, skipC, exitC, blockC, condC, r35_0, cells_agg]
  generalize h.new (.rw [.int .i64 t, .string k]) = h1 at *
  have ld : ∀ hx, Has hx h.next (.rw [.int .i64 t, .string k]) → ∀ o s, loadOne hx (.pointer (some ⟨h.next, o, s⟩)) = [.int .i64 t, .string k][o]? := fun hx b o s => loadOne_has b rfl
  refine hK _ _ _ (C.seq fun K hK => ?_)
  have k2 := Keep.new h1 (.rw ([tb t].map bv))
  have b2 := Mine.rw h1.next [tb t] (Has.new h1 (.rw ([tb t].map bv)))
  have st := b2.reads.str
  simp only [↓opStep_eq, ↓reduceIte, ↓EW, EV, Nat.reduceAdd, Nat.reduceEqDiff, Int.reduceEq, Int.reduceLT, Int.reduceLE, Int.reduceNe, seqC, retC, skipC, exitC, blockC, condC, r35_1, ld _ b1, toInt_int, tb_eq, lit1]
  simp only [↓opStep_eq, ↓reduceIte, ↓EW, EV, Nat.reduceAdd, Nat.reduceEqDiff, Int.reduceEq, Int.reduceLT, Int.reduceLE, Int.reduceNe, seqC, retC, skipC, exitC, blockC, condC, st, ld _ (b1.keep0 k2), binV_cat _ _ _ _ (show k.size ≤ 1000000 by omega)]
  have hsz : (⟨(tb t :: k.data.toList).toArray⟩ : ByteArray).size = k.size + 1 := by
    show (tb t :: k.data.toList).toArray.size = _
    rw [List.size_toArray, List.length_cons, Array.length_toList]; rfl
  refine hash_law L n ⟨(tb t :: k.data.toList).toArray⟩ _ (by omega) (by omega) _ fun r h2 hv => ?_
  obtain ⟨rfl, k3⟩ := hv
  refine hK _ _ _ (C.seq fun K hK => ?_)
  have k12 := (k1.then k2).then k3
  have kr := k12.then (keep_room h2 18)
  have w1 : IntKind.i64.wrap ((m : Int) - 1) = ((m - 1 : Nat) : Int) := by
    rw [show (m : Int) - 1 = ((m - 1 : Nat) : Int) by omega, wrap_i64 _ (by omega)]
  have w2 : IntKind.u64.wrap ((m - 1 : Nat) : Int) = ((m - 1 : Nat) : Int) := by
    rw [wrap_eq] <;> simp [IntKind.min, IntKind.max, IntKind.bits, IntKind.signed] <;> omega
  have hlt := idx_lt t k hm hb
  have w3 : IntKind.u64.wrap ((idx t k m : Nat) : Int) = (idx t k m : Int) := by
    rw [wrap_eq] <;> simp [IntKind.min, IntKind.max, IntKind.bits, IntKind.signed] <;> omega
  have hi : indexSl 1 (.slice (some ⟨B, 0, none⟩) m m) (.int .u64 (idx t k m : Int)) = some (.pointer (some ⟨B, idx t k m, none⟩)) := by
    simp only [indexSl, asNat_nat, addOff]
    rw [Nat.ble_eq_true_of_le hlt]
    simp only [Nat.zero_add, Nat.mul_one]
  have hand : binV Tryd.prog .and 98 false (.int .u64 (mixI (hashL (tb t :: k.data.toList)))) (.int .u64 ((m - 1 : Nat) : Int)) = some (.int .u64 (IntKind.u64.wrap ((idx t k m : Nat) : Int))) := binV_and _ _ _ _ _
  have hxor : binV Tryd.prog .xor 98 false (.int .u64 (hashL (tb t :: k.data.toList))) (.int .u64 ((hashL (tb t :: k.data.toList)).fdiv (2 ^ (min (32 : Int).toNat IntKind.u64.bits)))) = some (.int .u64 (mixI (hashL (tb t :: k.data.toList)))) := binV_xor _ _ _ _ _
  have hshr : binV Tryd.prog .shr 98 true (.int .u64 (hashL (tb t :: k.data.toList))) (.int .u64 (32)) = some (.int .u64 ((hashL (tb t :: k.data.toList)).fdiv (2 ^ (min (32 : Int).toNat IntKind.u64.bits)))) := binV_shr _ _ _ _ _ (by decide)
  have ef : fieldPtr 0 (.pointer (some p)) = some (.pointer (some ⟨p.block, p.off, none⟩)) := rfl
  have ls : lenSl (.slice (some ⟨B, 0, none⟩) m m) = some (.int .i64 (m : Int)) := rfl
  have ti : toInt .u64 (.int .i64 ((m - 1 : Nat) : Int)) = some (.int .u64 ((m - 1 : Nat) : Int)) := by rw [toInt_int, w2]
  generalize hashL (tb t :: k.data.toList) = hv at *
  generalize (hv.fdiv (2 ^ (min (32 : Int).toNat IntKind.u64.bits))) = sv at *
  generalize mixI hv = mv at *
  simp only [↓opStep_eq, ↓reduceIte, ↓EW, EV, Nat.reduceAdd, Nat.reduceEqDiff, Int.reduceEq, Int.reduceLT, Int.reduceLE, Int.reduceNe, seqC, retC, skipC, exitC, blockC, condC, r35_2, nilChk_some, ef, hp _ kr, hshr, hxor, ls, w1, ti, hand, w3, hi]
  exact hK _ _ _ (C.ret ⟨.inr rfl, _, rfl, by simp only [↓opStep_eq, ↓reduceIte, ↓EW, EV, Nat.reduceAdd, Nat.reduceEqDiff, Int.reduceEq, Int.reduceLT, Int.reduceLE, Int.reduceNe, seqC, retC, skipC, exitC, blockC, condC, resOf], kr⟩)
end Go.Proofs.YtbdmhdidehfmoaaDoor
