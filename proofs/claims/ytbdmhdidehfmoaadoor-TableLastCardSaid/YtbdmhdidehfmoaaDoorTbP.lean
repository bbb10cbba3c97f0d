import Derived.Test.YtbdmhdidehfmoaaDoorTbO
set_option linter.unusedSimpArgs false
set_option linter.unusedVariables false
namespace Go.Proofs.YtbdmhdidehfmoaaDoor
open Go.Ev

theorem FindQ.keep0 {O : Nat → Tag} {h h' : H} {s : Bool} {v : Value} {rs : List (List Ent)} {t : Int} {k : ByteArray} {r : Value} (q : FindQ O h s v rs t k r) (kk : Keep nobody h h') : FindQ O h' s v rs t k r := by
  rcases q with q | ⟨B, vs, vi, es, j, e, h0, rp, h1, h2, h3, h4, h5, h6⟩
  · exact .inl q
  · exact .inr ⟨B, vs, vi, es, j, e, h0, rp.keep0 kk, h1, h2, h3, h4, h5, h6⟩

theorem Good.setx_now {N : Nat} {now old : List (List Ent)} {a : Nat} (g : Good N now old a) {i j : Nat} {es : List Ent} {e : Ent} (h : now[i]? = some es) (hj : es[j]? = some e) (x : Int) : Good N (now.set i (es.set j { e with x := x })) old a ∧ (now.set i (es.set j { e with x := x })).flatten.length = now.flatten.length ∧ ∃ R, (now.flatten ++ old.flatten).Perm (e :: R) ∧ ((now.set i (es.set j { e with x := x })).flatten ++ old.flatten).Perm ({ e with x := x } :: R) := by
  obtain ⟨p1, p2⟩ := set_perm hj { e with x := x }
  obtain ⟨R, q1, q2⟩ := flat_set2 h p1 _ p2
  have e1 := q1.length_eq
  have e2 := q2.length_eq
  simp only [List.length_cons] at e1 e2
  have P1 : (now.flatten ++ old.flatten).Perm (e :: (R ++ old.flatten)) := by have := q1.append_right old.flatten; exact this
  have P2 : ((now.set i (es.set j { e with x := x })).flatten ++ old.flatten).Perm ({ e with x := x } :: (R ++ old.flatten)) := by have := q2.append_right old.flatten; exact this
  refine ⟨⟨hash_set g.hn h fun e' he' => .inl (set_mem hj x e' he'), g.ho, g.at_, by rw [List.length_set]; exact g.pos, by rw [List.length_set]; exact g.len, g.olen, ?_, by rw [show (now.set i (es.set j { e with x := x })).flatten.length = now.flatten.length by omega]; exact g.cnt⟩, by omega, _, P1, P2⟩
  have u := (P1.map Ent.key).nodup_iff.1 g.uniq
  exact (P2.map Ent.key).nodup_iff.2 u
theorem Good.setx_old {N : Nat} {now old : List (List Ent)} {a : Nat} (g : Good N now old a) {i j : Nat} {es : List Ent} {e : Ent} (h : old[i]? = some es) (hj : es[j]? = some e) (x : Int) : Good N now (old.set i (es.set j { e with x := x })) a ∧ (old.set i (es.set j { e with x := x })).flatten.length = old.flatten.length ∧ ∃ R, (now.flatten ++ old.flatten).Perm (e :: R) ∧ (now.flatten ++ (old.set i (es.set j { e with x := x })).flatten).Perm ({ e with x := x } :: R) := by
  obtain ⟨p1, p2⟩ := set_perm hj { e with x := x }
  obtain ⟨R, q1, q2⟩ := flat_set2 h p1 _ p2
  have e1 := q1.length_eq
  have e2 := q2.length_eq
  simp only [List.length_cons] at e1 e2
  have P1 : (now.flatten ++ old.flatten).Perm (e :: (now.flatten ++ R)) := (q1.append_left now.flatten).trans List.perm_middle
  have P2 : (now.flatten ++ (old.set i (es.set j { e with x := x })).flatten).Perm ({ e with x := x } :: (now.flatten ++ R)) := (q2.append_left now.flatten).trans List.perm_middle
  refine ⟨⟨g.hn, hash_set g.ho h fun e' he' => .inl (set_mem hj x e' he'), fun i' es' hi he => ?_, g.pos, g.len, by rw [List.length_set]; exact g.olen, ?_, by rw [show (old.set i (es.set j { e with x := x })).flatten.length = old.flatten.length by omega]; exact g.cnt⟩, by omega, _, P1, P2⟩
  · by_cases hii : i = i'
    · subst hii
      have := g.at_ _ _ hi h
      rw [this] at hj; simp at hj
    · rw [List.getElem?_set_ne hii] at he
      exact g.at_ _ _ hi he
  · have u := (P1.map Ent.key).nodup_iff.1 g.uniq
    exact (P2.map Ent.key).nodup_iff.2 u

theorem Tab.setx {N : Nat} {O : Nat → Tag} {h : H} {b : Nat} {l : List Ent} {now old : List (List Ent)} {a mv : Nat} {v1 v2 : Value} (tab : Tab O h b now old (now.flatten.length : Int) (old.flatten.length : Int) (a : Int) (mv : Int) v1 v2) (g : Good N now old a) (pm : (now.flatten ++ old.flatten).Perm l) {s : Bool} {v : Value} {rs : List (List Ent)} (hs : (s = false ∧ v = v1 ∧ rs = now) ∨ (s = true ∧ v = v2 ∧ rs = old)) {t : Int} {k : ByteArray} {r : Value} (q : FindQ O h s v rs t k r) (hr : r ≠ .pointer none) (x : Int) :
    ∃ bb o cs', r = .pointer (some ⟨bb, o, none⟩) ∧ (∀ s, storeV 1 h (.pointer (some ⟨bb, o + 2, s⟩)) (.int .i64 x) = some (h.put bb (.op cs' 3))) ∧ Fr O h O (h.put bb (.op cs' 3)) ∧ St N O (h.put bb (.op cs' 3)) b (⟨t, k, x⟩ :: without l t k) mv := by
  rcases q with ⟨e, _⟩ | ⟨B, vs, vi, es, j, e, h0, rp, h1, h2, h3, h4, h5, h6⟩
  · exact absurd e hr
  have hu : (l.map Ent.key).Nodup := (pm.map _).nodup_iff.1 g.uniq
  have hx : ({ e with x := x } : Ent) = ⟨t, k, x⟩ := by cases e; simp at h4 h5; subst h4; subst h5; rfl
  obtain ⟨bb, cs', e1, e2, e3, e4, rp'⟩ := rp.setx h1 h2 h3 x h6
  have kp := Keep.put h bb (.op cs' 3)
  have hbb : b ≠ bb := fun e => by have := tab.ob; rw [e, e2] at this; cases this
  have fr : Fr O h O (h.put bb (.op cs' 3)) := ⟨kp.mono fun c _ e => (by rw [e, e2]; exact Tag.noConfusion), fun _ _ h => h⟩
  have nb : ∀ s', s' ≠ s → ∀ c, c < h.next → (O c = .base s' ∨ ∃ i, O c = .row s' i) → ¬ c = bb ∧ O c = O c := fun s' hs' c _ ho => ⟨fun e => by
    rw [e, e2] at ho
    rcases ho with ho | ⟨_, ho⟩
    · cases ho
    · cases ho; exact hs' rfl, rfl⟩
  have hlr : 0 < rs.length ∧ rs.length ≤ 1000000 := by
    have hi := (List.getElem?_eq_some_iff.1 h2).1
    refine ⟨by omega, ?_⟩
    rcases hs with ⟨rfl, rfl, rfl⟩ | ⟨rfl, rfl, rfl⟩
    · rcases tab.now with ⟨_, h⟩ | ⟨_, _, _, _, _, h⟩
      · rw [h] at hi; simp at hi
      · exact h
    · rcases tab.old with ⟨_, h⟩ | ⟨_, _, _, _, _, h⟩
      · rw [h] at hi; simp at hi
      · exact h
  refine ⟨bb, 3 * j, cs', e1, e4, fr, ?_⟩
  rcases hs with ⟨rfl, rfl, rfl⟩ | ⟨rfl, rfl, rfl⟩
  · obtain ⟨g', hl, R, P1, P2⟩ := g.setx_now h2 h3 x
    refine ⟨_, old, a, v, v2, ⟨by rw [hl]; exact tab.hb.keep kp hbb, tab.ob, .inr ⟨B, vs, by rw [List.length_set]; exact h0, rp', by rw [List.length_set]; exact hlr.1, by rw [List.length_set]; exact hlr.2⟩, tab.old.keep kp (nb true (by decide)), fun c hc => tab.far c hc⟩, g', ?_⟩
    rw [hx] at P2
    rw [hx]
    exact P2.trans ((without_of (pm.symm.trans P1) ⟨h4, h5⟩ hu).symm.cons _)
  · obtain ⟨g', hl, R, P1, P2⟩ := g.setx_old h2 h3 x
    refine ⟨now, _, a, v1, v, ⟨by rw [hl]; exact tab.hb.keep kp hbb, tab.ob, tab.now.keep kp (nb false (by decide)), .inr ⟨B, vs, by rw [List.length_set]; exact h0, rp', by rw [List.length_set]; exact hlr.1, by rw [List.length_set]; exact hlr.2⟩, fun c hc => tab.far c hc⟩, g', ?_⟩
    rw [hx] at P2
    rw [hx]
    exact P2.trans ((without_of (pm.symm.trans P1) ⟨h4, h5⟩ hu).symm.cons _)

theorem Good.add {N : Nat} {now old : List (List Ent)} {a : Nat} (g : Good N now old a) {es : List Ent} {e : Ent} (h : now[idx e.t e.k now.length]? = some es) (hk : e.k.size ≤ 32) (hno : ∀ e' ∈ now.flatten ++ old.flatten, ¬ Is e.t e.k e') (hN : now.flatten.length + old.flatten.length < N) : Good N (now.set (idx e.t e.k now.length) (es ++ [e])) old a ∧ (now.set (idx e.t e.k now.length) (es ++ [e])).flatten.length = now.flatten.length + 1 ∧ ((now.set (idx e.t e.k now.length) (es ++ [e])).flatten ++ old.flatten).Perm (e :: (now.flatten ++ old.flatten)) := by
  have p := flat_add e h
  have hl := p.length_eq
  rw [List.length_cons] at hl
  have P : ((now.set (idx e.t e.k now.length) (es ++ [e])).flatten ++ old.flatten).Perm (e :: (now.flatten ++ old.flatten)) := by have := p.append_right old.flatten; exact this
  refine ⟨⟨hash_set g.hn h fun e' he' => ?_, g.ho, g.at_, by rw [List.length_set]; exact g.pos, by rw [List.length_set]; exact g.len, g.olen, (P.map Ent.key).nodup_iff.2 ?_, by omega⟩, hl, P⟩
  · rw [List.mem_append, List.mem_singleton] at he'
    rcases he' with he' | rfl
    · exact .inl ⟨e', he', rfl, rfl⟩
    · exact .inr ⟨rfl, hk⟩
  · rw [List.map_cons, List.nodup_cons]
    refine ⟨fun hm => ?_, g.uniq⟩
    obtain ⟨e', h1, h2⟩ := List.mem_map.1 hm
    exact hno e' h1 ⟨congrArg Prod.fst h2, congrArg Prod.snd h2⟩
end Go.Proofs.YtbdmhdidehfmoaaDoor
