import Derived.Test.YtpaolklbogakgaaPkD
set_option linter.unusedSimpArgs false
set_option linter.unusedVariables false
namespace Go.Proofs.Ytpaolklbogakgaa
open Go.Ev

def cellsOf (l : List Itm) : List Value := l.flatMap Itm.cells
@[simp] theorem Itm.cells_len (x : Itm) : x.cells.length = 5 := rfl
theorem cellsOf_len : ∀ l : List Itm, (cellsOf l).length = 5 * l.length
  | [] => rfl
  | x :: l => by
    have := cellsOf_len l
    simp only [cellsOf, List.flatMap_cons, List.length_append, Itm.cells_len, List.length_cons] at *
    omega
theorem cellsOf_drop : ∀ (l : List Itm) (i : Nat) (x : Itm), l[i]? = some x → ((cellsOf l).drop (i * 5)).take 5 = x.cells
  | [], i, x, h => by simp at h
  | y :: l, 0, x, h => by simp at h; subst h; simp [cellsOf, Itm.cells]
  | y :: l, i + 1, x, h => by
    have := cellsOf_drop l i x (by simpa using h)
    rw [show (i + 1) * 5 = i * 5 + 5 by omega]
    simpa [cellsOf, Itm.cells] using this

/-- a slice of items -/
def ItemsAt (h : H) (v : Value) (l : List Itm) : Prop :=
  (v = .slice none 0 0 ∧ l = []) ∨ ∃ b o c x cs, v = .slice (some ⟨b, o, none⟩) l.length c ∧ Has h b x ∧ x.cells? = some cs ∧ o + 5 * l.length ≤ cs.length ∧ (cs.drop o).take (5 * l.length) = cellsOf l
theorem ItemsAt.keep {S : Nat → Prop} {h h' : H} {v : Value} {l : List Itm} (a : ItemsAt h v l) (k : Keep S h h') (hn : ∀ b, blk v b → ¬ S b) : ItemsAt h' v l := by
  rcases a with a | ⟨b, o, c, x, cs, rfl, h1, h2, h3, h4⟩
  · exact .inl a
  · exact .inr ⟨b, o, c, x, cs, rfl, h1.keep k (hn b (by simp)), h2, h3, h4⟩
theorem ItemsAt.keep0 {h h' : H} {v : Value} {l : List Itm} (a : ItemsAt h v l) (k : Keep nobody h h') : ItemsAt h' v l := a.keep k fun _ _ => id
theorem ItemsAt.len {h : H} {v : Value} {l : List Itm} (a : ItemsAt h v l) : lenSl v = some (.int .i64 (l.length : Int)) := by
  rcases a with ⟨rfl, rfl⟩ | ⟨b, o, c, x, cs, rfl, h1, h2, h3, h4⟩ <;> rfl
/-- one of them -/
theorem ItemsAt.at {h : H} {v : Value} {l : List Itm} (a : ItemsAt h v l) {i : Nat} {x : Itm} (hi : l[i]? = some x) :
    ∃ b o, indexSl 5 v (.int .i64 (i : Int)) = some (.pointer (some ⟨b, o, none⟩)) ∧ b < h.next ∧ blk v b ∧ (∀ j s, j < 5 → loadOne h (.pointer (some ⟨b, o + j, s⟩)) = x.cells[j]?) ∧ ∀ s, loadAgg 5 h (.pointer (some ⟨b, o, s⟩)) = some x.v := by
  have hl : i < l.length := by
    by_cases hl : i < l.length
    · exact hl
    · rw [List.getElem?_eq_none (by omega)] at hi; cases hi
  rcases a with ⟨rfl, rfl⟩ | ⟨b, o, c, y, cs, rfl, h1, h2, h3, h4⟩
  · simp at hl
  · have h5 : (cs.drop (o + i * 5)).take 5 = x.cells := by
      rw [← cellsOf_drop l i x hi, ← h4, ← List.drop_drop, List.drop_take, List.take_take, Nat.min_eq_left (by omega)]
    refine ⟨b, o + i * 5, ?_, h1.1, by simp, fun j s hj => ?_, fun s => ?_⟩
    · simp only [indexSl, asNat_nat, addOff]
      rw [Nat.ble_eq_true_of_le (by omega)]
    · rw [loadOne_has h1 h2, ← h5, List.getElem?_take, if_pos hj, List.getElem?_drop]
    · rw [loadAgg_has h1 h2 (by omega), h5]; rfl

theorem wrap_succ (i : Nat) (h : i < 9223372036854775807) : IntKind.i64.wrap ((i : Int) + 1) = ((i + 1 : Nat) : Int) := by
  rw [wrap_eq] <;> simp [IntKind.min, IntKind.max, IntKind.bits, IntKind.signed] <;> omega

theorem index_func (L n : Nat) (v : Value) (l : List Itm) (h : H) (hi : ItemsAt h v l) (hL : l.length < L) (h63 : l.length < 9223372036854775807) :
    Sp (CF L (n + 4)) 51 [v, .func (.func 44) #[] #[]] h fun r h' => (∃ k : Int, r = .int .i64 k ∧ decide (0 ≤ k) = l.any fun x => !decide (x.err = 0)) ∧ Keep nobody h h' := by
  refine Sp.body f51 (by simp) ?_
  unfold c51
  refine C.seq fun K hK => hK .norm _ _ ?_
  refine C.seq (C.seq fun K hK => ?_)
  simp [r51_1, hi.len]
  refine hK .norm _ _ ?_
  refine C.block (C.loop (fun k tm h1 => ∃ i : Nat, k = l.length - i ∧ i ≤ l.length ∧ tg tm 0 = v ∧ tg tm 1 = .func (.func 44) #[] #[] ∧ tg tm 7 = .int .i64 (l.length : Int) ∧ tg tm 8 = .int .i64 (i : Int) ∧ (l.take i).all (fun x => decide (x.err = 0)) = true ∧ Keep nobody h h1) l.length hL
    ⟨0, by simp, by simp, by simp, by simp, by simp, by simp, by simp, .refl _ _⟩ ?_)
  rintro k tm h1 ⟨i, rfl, hil, t0, t1, t7, t8, hall, hk⟩
  unfold l51_7
  refine C.seq fun K hK => ?_
  simp only [r51_2, t7, t8, binV_lss, kO_some]
  refine hK .norm _ _ (C.seq (C.cond (decide ((i : Int) < l.length)) (by simp) (fun hy => C.skip ?_) fun hy => C.exit ?_))
  · have hlt : i < l.length := by simpa using hy
    obtain ⟨x, hx⟩ : ∃ x, l[i]? = some x := ⟨l[i], List.getElem?_eq_getElem hlt⟩
    obtain ⟨b, o, e1, e2, _, e3, e4⟩ := (hi.keep0 hk).at hx
    refine C.seq (C.block (C.seq fun K hK => ?_))
    refine hK .norm _ _ (C.seq fun K hK => ?_)
    simp [r51_4, t0, t1, t8, e1, e4, goCall, funcArgs]
    refine words_result1 L n x h1 _ fun r h2 hr => ?_
    obtain ⟨rfl, hk2⟩ := hr
    refine hK .norm _ _ (C.cond (!decide (x.err = 0)) (by simp) (fun hy => ?_) fun hy => C.skip ?_)
    · refine C.seq fun K hK => ?_
      simp [r51_5, t8]
      refine hK .norm _ _ (C.ret ⟨.inr rfl, _, rfl, ⟨i, by simp [resOf], ?_⟩, hk.then hk2⟩)
      rw [decide_eq_true (by omega)]
      symm
      rw [List.any_eq_true]
      exact ⟨x, List.mem_of_getElem? hx, hy⟩
    · intro K hK
      simp [r51_6, t8]
      refine hK .norm _ _ ⟨l.length - (i + 1), by omega, i + 1, rfl, by omega, by simp [t0], by simp [t1], by simp [t7], ?_, ?_, hk.then hk2⟩
      · simp [wrap_succ i (by omega)]
      · rw [List.take_add_one, hx]
        simp only [List.all_append, hall, Bool.true_and]
        simpa using hy
  · have hge : i = l.length := by simp at hy; omega
    simp only [if_pos]
    refine C.seq fun K hK => hK .norm _ _ (C.ret ⟨.inr rfl, _, rfl, ⟨-1, by simp [resOf], ?_⟩, hk⟩)
    rw [hge, List.take_length] at hall
    rw [decide_eq_false (by omega)]
    symm
    rw [List.any_eq_false]
    intro x hx
    have := List.all_eq_true.1 hall x hx
    simpa using this

theorem contains_func (L n : Nat) (v : Value) (l : List Itm) (h : H) (hi : ItemsAt h v l) (hL : l.length < L) (h63 : l.length < 9223372036854775807) :
    Sp (CF L (n + 5)) 43 [v, .func (.func 44) #[] #[]] h fun r h' => r = .bool (l.any fun x => !decide (x.err = 0)) ∧ Keep nobody h h' := by
  refine Sp.body f43 (by simp) fun K hK => ?_
  simp [c43, seqC, retC, r43_0, r43_1]
  refine index_func L n v l h hi hL h63 _ fun r h2 hr => ?_
  obtain ⟨⟨k, rfl, hk⟩, h3⟩ := hr
  simp [hk]
  exact hK _ _ _ ⟨.inr rfl, _, rfl, by simp [resOf], h3⟩

end Go.Proofs.Ytpaolklbogakgaa
