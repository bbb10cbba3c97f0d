import Derived.Test.YtbdmhdidehfmoaaDoorTbN
set_option linter.unusedSimpArgs false
set_option linter.unusedVariables false
namespace Go.Proofs.YtbdmhdidehfmoaaDoor
open Go.Ev

instance (t : Int) (k : ByteArray) (e : Ent) : Decidable (Is t k e) := inferInstanceAs (Decidable (_ ∧ _))
def without (l : List Ent) (t : Int) (k : ByteArray) : List Ent := l.filter fun e => !decide (Is t k e)
theorem without_none {l : List Ent} {t : Int} {k : ByteArray} (h : ∀ e ∈ l, ¬ Is t k e) : without l t k = l := by
  apply List.filter_eq_self.2
  intro e he
  rw [decide_eq_false (h e he)]; rfl
theorem without_of {l rest : List Ent} {e : Ent} {t : Int} {k : ByteArray} (p : l.Perm (e :: rest)) (hm : Is t k e) (hu : (l.map Ent.key).Nodup) : (without l t k).Perm rest := by
  have h1 : (without l t k).Perm (without (e :: rest) t k) := p.filter _
  have h2 : without (e :: rest) t k = without rest t k := by
    unfold without
    rw [List.filter_cons, if_neg (by rw [decide_eq_true hm]; simp)]
  rw [h2] at h1
  have h3 : without rest t k = rest := without_none fun e' he' hm' => by
    have hu' := (p.map Ent.key).nodup_iff.1 hu
    rw [List.map_cons, List.nodup_cons] at hu'
    refine hu'.1 (List.mem_map.2 ⟨e', he', ?_⟩)
    show (e'.t, e'.k) = (e.t, e.k)
    rw [hm'.1, hm'.2, hm.1, hm.2]
  rw [h3] at h1
  exact h1

theorem cellsE_set : ∀ (es : List Ent) (j : Nat) (e : Ent) (x : Int), es[j]? = some e → (cellsE es).set (3 * j + 2) (.int .i64 x) = cellsE (es.set j { e with x := x })
  | [], j, e, x, h => by simp at h
  | a :: r, 0, e, x, h => by
    simp at h; subst h; rfl
  | a :: r, j + 1, e, x, h => by
    have := cellsE_set r j e x (by simpa using h)
    rw [show 3 * (j + 1) + 2 = 3 * j + 2 + 1 + 1 + 1 by omega]
    simp only [cellsE, Ent.cells, List.cons_append, List.nil_append, List.set_cons_succ, this]

theorem Own.setx {O : Nat → Tag} {h : H} {tag : Tag} {v : Value} {es : List Ent} (a : Own O h tag v es) {j : Nat} {e : Ent} (hj : es[j]? = some e) (x : Int) {r : Value} (hr : indexSl 3 v (.int .i64 (j : Int)) = some r) :
    ∃ bb cs', r = .pointer (some ⟨bb, 3 * j, none⟩) ∧ O bb = tag ∧ bb < h.next ∧ (∀ s, storeV 1 h (.pointer (some ⟨bb, 3 * j + 2, s⟩)) (.int .i64 x) = some (h.put bb (.op cs' 3))) ∧ Own O (h.put bb (.op cs' 3)) tag v (es.set j { e with x := x }) := by
  have hlt := (List.getElem?_eq_some_iff.1 hj).1
  rcases a with ⟨rfl, rfl⟩ | ⟨b, cap, cs, rfl, c, hb, m, l, t, o⟩
  · simp at hlt
  · have ix : indexSl 3 (.slice (some ⟨b, 0, none⟩) es.length cap) (.int .i64 (j : Int)) = some (.pointer (some ⟨b, 3 * j, none⟩)) := by
      simp only [indexSl, asNat_nat, addOff]
      rw [Nat.ble_eq_true_of_le (by omega)]
      simp only [Nat.zero_add, Nat.mul_comm]
    rw [ix] at hr
    cases hr
    refine ⟨b, cs.set (3 * j + 2) (.int .i64 x), rfl, o, hb.1, fun s => store_op hb (by omega) rfl rfl, .inr ⟨b, cap, _, by rw [List.length_set], c, Has.put hb.1, by rw [List.length_set]; exact m, by rw [List.length_set, List.length_set]; exact l, ?_, o⟩⟩
    rw [List.length_set, List.take_set, t, cellsE_set es j e x hj]

theorem RowsP.setx {O : Nat → Tag} {h : H} {s : Bool} {B : Nat} {vs : List Value} {rs : List (List Ent)} (a : RowsP O h s B vs rs) {i j : Nat} {vi : Value} {es : List Ent} {e : Ent} (h1 : vs[i]? = some vi) (h2 : rs[i]? = some es) (hj : es[j]? = some e) (x : Int) {r : Value} (hr : indexSl 3 vi (.int .i64 (j : Int)) = some r) :
    ∃ bb cs', r = .pointer (some ⟨bb, 3 * j, none⟩) ∧ O bb = .row s i ∧ bb < h.next ∧ (∀ s, storeV 1 h (.pointer (some ⟨bb, 3 * j + 2, s⟩)) (.int .i64 x) = some (h.put bb (.op cs' 3))) ∧ RowsP O (h.put bb (.op cs' 3)) s B vs (rs.set i (es.set j { e with x := x })) := by
  obtain ⟨bb, cs', e1, e2, e3, e4, e5⟩ := (a.own i vi es h1 h2).setx hj x hr
  have kp := Keep.put h bb (.op cs' 3)
  refine ⟨bb, cs', e1, e2, e3, e4, ⟨a.hb.keep kp fun e => ?_, a.ob, by rw [List.length_set]; exact a.len, fun i' v es' g1 g2 => ?_⟩⟩
  · rw [← e, a.ob] at e2; cases e2
  · by_cases hi : i = i'
    · subst hi
      rw [h1] at g1
      rw [List.getElem?_set_self (List.getElem?_eq_some_iff.1 h2).1] at g2
      cases g1; cases g2
      exact e5
    · rw [List.getElem?_set_ne hi] at g2
      refine (a.own i' v es' g1 g2).keep kp fun c hc ho => ⟨fun e => ?_, ho⟩
      rw [e, e2] at ho; cases ho; exact hi rfl

theorem erase_perm {α : Type} {es : List α} {j : Nat} {e : α} (hj : es[j]? = some e) : es.Perm (e :: es.eraseIdx j) := by
  have hlt := (List.getElem?_eq_some_iff.1 hj).1
  have he : es[j] = e := (List.getElem?_eq_some_iff.1 hj).2
  rw [List.eraseIdx_eq_take_drop_succ]
  conv => lhs; rw [← List.take_append_drop j es, List.drop_eq_getElem_cons hlt, he]
  exact List.perm_middle
/-- entries that are turned keep their names -/
theorem set_perm {es : List Ent} {j : Nat} {e : Ent} (hj : es[j]? = some e) (e' : Ent) : es.Perm (e :: es.eraseIdx j) ∧ (es.set j e').Perm (e' :: es.eraseIdx j) := by
  have hlt := (List.getElem?_eq_some_iff.1 hj).1
  refine ⟨erase_perm hj, ?_⟩
  have := erase_perm (es := es.set j e') (j := j) (e := e') (List.getElem?_set_self hlt)
  rw [List.eraseIdx_set_eq] at this
  exact this
theorem flat_set2 {rs : List (List Ent)} {i : Nat} {es es2 : List Ent} {e : Ent} {rest : List Ent} (h : rs[i]? = some es) (p : es.Perm (e :: rest)) (e' : Ent) (p2 : es2.Perm (e' :: rest)) : ∃ R, rs.flatten.Perm (e :: R) ∧ (rs.set i es2).flatten.Perm (e' :: R) := by
  have hi := (List.getElem?_eq_some_iff.1 h).1
  refine ⟨(rs.set i rest).flatten, flat_set h p, ?_⟩
  have := flat_set (rs := rs.set i es2) (i := i) (es := es2) (es' := rest) (e := e') (List.getElem?_set_self hi) p2
  rw [List.set_set] at this
  exact this

theorem hash_set {rs : List (List Ent)} {i : Nat} {es es2 : List Ent} (hn : ∀ (i : Nat) es, rs[i]? = some es → ∀ e ∈ es, idx e.t e.k rs.length = i ∧ e.k.size ≤ 32) (h : rs[i]? = some es) (hs : ∀ e' ∈ es2, (∃ e ∈ es, e.t = e'.t ∧ e.k = e'.k) ∨ (idx e'.t e'.k rs.length = i ∧ e'.k.size ≤ 32)) : ∀ (j : Nat) es', (rs.set i es2)[j]? = some es' → ∀ e ∈ es', idx e.t e.k (rs.set i es2).length = j ∧ e.k.size ≤ 32 := fun j es' hj e he => by
  have hi := (List.getElem?_eq_some_iff.1 h).1
  rw [List.length_set]
  by_cases hij : i = j
  · subst hij
    rw [List.getElem?_set_self hi] at hj
    cases hj
    rcases hs e he with ⟨e0, h0, h1, h2⟩ | h0
    · have := hn _ _ h e0 h0
      rw [h1, h2] at this; exact this
    · exact h0
  · rw [List.getElem?_set_ne hij] at hj
    exact hn _ _ hj e he

theorem set_mem {es : List Ent} {j : Nat} {e : Ent} (hj : es[j]? = some e) (x : Int) : ∀ e' ∈ es.set j { e with x := x }, ∃ e0 ∈ es, e0.t = e'.t ∧ e0.k = e'.k := fun e' he' => by
  rcases List.mem_or_eq_of_mem_set he' with h | rfl
  · exact ⟨e', h, rfl, rfl⟩
  · exact ⟨e, List.mem_of_getElem? hj, rfl, rfl⟩
end Go.Proofs.YtbdmhdidehfmoaaDoor
