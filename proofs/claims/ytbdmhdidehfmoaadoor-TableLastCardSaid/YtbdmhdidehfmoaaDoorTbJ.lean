import Derived.Test.YtbdmhdidehfmoaaDoorTbI
set_option linter.unusedSimpArgs false
set_option linter.unusedVariables false
namespace Go.Proofs.YtbdmhdidehfmoaaDoor
open Go.Ev

abbrev Ent.key (e : Ent) : Int × ByteArray := (e.t, e.k)
structure Good (N : Nat) (now old : List (List Ent)) (a : Nat) : Prop where
  hn : ∀ (i : Nat) es, now[i]? = some es → ∀ e ∈ es, idx e.t e.k now.length = i ∧ e.k.size ≤ 32
  ho : ∀ (i : Nat) es, old[i]? = some es → ∀ e ∈ es, idx e.t e.k old.length = i ∧ e.k.size ≤ 32
  at_ : ∀ (i : Nat) es, i < a → old[i]? = some es → es = []
  pos : 0 < now.length
  len : now.length ≤ N + 4
  olen : old.length ≤ N + 4
  uniq : ((now.flatten ++ old.flatten).map Ent.key).Nodup
  cnt : now.flatten.length + old.flatten.length ≤ N

/-- an old entry goes over -/
theorem Good.move {N : Nat} {now old : List (List Ent)} {a : Nat} (g : Good N now old a) {es fs : List Ent} {e : Ent} (h1 : old[a]? = some (es ++ [e])) (h2 : now[idx e.t e.k now.length]? = some fs) :
    Good N (now.set (idx e.t e.k now.length) (fs ++ [e])) (old.set a es) a ∧ ((now.set (idx e.t e.k now.length) (fs ++ [e])).flatten ++ (old.set a es).flatten).Perm (now.flatten ++ old.flatten) ∧ (now.set (idx e.t e.k now.length) (fs ++ [e])).flatten.length = now.flatten.length + 1 ∧ old.flatten.length = (old.set a es).flatten.length + 1 := by
  have p1 := flat_add e h2
  have p2 := flat_set (es' := es) (e := e) h1 (List.perm_append_comm (l₁ := es) (l₂ := [e]))
  have p : ((now.set (idx e.t e.k now.length) (fs ++ [e])).flatten ++ (old.set a es).flatten).Perm (now.flatten ++ old.flatten) := by
    refine (p1.append_right _).trans ?_
    rw [List.cons_append]
    exact List.perm_middle.symm.trans (p2.symm.append_left _)
  have l1 := p1.length_eq
  have l2 := p2.length_eq
  simp only [List.length_cons] at l1 l2
  have hlt := (List.getElem?_eq_some_iff.1 h2).1
  have hla := (List.getElem?_eq_some_iff.1 h1).1
  refine ⟨⟨fun i es' h e' he' => ?_, fun i es' h e' he' => ?_, fun i es' hi h => ?_, by rw [List.length_set]; exact g.pos, by rw [List.length_set]; exact g.len, by rw [List.length_set]; exact g.olen, (p.map _).nodup_iff.2 g.uniq, ?_⟩, p, l1, l2⟩
  · rw [List.length_set]
    by_cases hi : idx e.t e.k now.length = i
    · rw [← hi, List.getElem?_set_self hlt] at h
      cases h
      rw [List.mem_append, List.mem_singleton] at he'
      rcases he' with he' | rfl
      · rw [← hi]; exact g.hn _ _ h2 _ he'
      · exact ⟨hi, (g.ho _ _ h1 _ (by simp)).2⟩
    · rw [List.getElem?_set_ne hi] at h
      exact g.hn _ _ h _ he'
  · rw [List.length_set]
    by_cases hi : a = i
    · subst hi
      rw [List.getElem?_set_self hla] at h
      cases h
      exact g.ho _ _ h1 _ (by simp [he'])
    · rw [List.getElem?_set_ne hi] at h
      exact g.ho _ _ h _ he'
  · rw [List.getElem?_set_ne (by omega)] at h
    exact g.at_ _ _ hi h
  · have := g.cnt; omega
theorem Good.next {N : Nat} {now old : List (List Ent)} {a : Nat} (g : Good N now old a) (h : old[a]? = some []) : Good N now old (a + 1) := by
  refine { g with at_ := fun i es hi he => ?_ }
  by_cases e : i = a
  · rw [e, h] at he; cases he; rfl
  · exact g.at_ i es (by omega) he
theorem Good.found {N : Nat} {now old : List (List Ent)} {a : Nat} (g : Good N now old a) (h : 0 < old.flatten.length) : a < old.length := by
  by_cases hl : a < old.length
  · exact hl
  · exfalso
    have : old.flatten = [] := flat_nil fun i es he => g.at_ i es (by have := (List.getElem?_eq_some_iff.1 he).1; omega) he
    rw [this] at h; simp at h
theorem Good.clear {N : Nat} {now old : List (List Ent)} {a : Nat} (g : Good N now old a) (h : old.flatten = []) : Good N now [] 0 := by
  have hu := g.uniq
  have hc := g.cnt
  rw [h, List.append_nil] at hu
  refine { g with ho := fun i es he => by simp at he, at_ := fun i es hi => by omega, olen := Nat.zero_le _, uniq := ?_, cnt := ?_ }
  · rw [List.flatten_nil, List.append_nil]; exact hu
  · rw [List.flatten_nil, List.length_nil]; omega
theorem Good.turn {N : Nat} {now : List (List Ent)} (g : Good N now [] 0) {m : Nat} (hm : 0 < m) (hm2 : m ≤ N + 4) : Good N (List.replicate m []) now 0 where
  hn := fun i es he e hee => by
    have := List.eq_of_mem_replicate (List.mem_of_getElem? he)
    subst this; simp at hee
  ho := g.hn
  at_ := fun i es hi => by omega
  pos := by rw [List.length_replicate]; exact hm
  len := by rw [List.length_replicate]; exact hm2
  olen := g.len
  uniq := by
    have : (List.replicate m ([] : List Ent)).flatten = [] := by simp
    rw [this]; simpa using g.uniq
  cnt := by
    have : (List.replicate m ([] : List Ent)).flatten = [] := by simp
    rw [this]; have := g.cnt; simp at this ⊢; exact this

theorem Tab.rows_old {O : Nat → Tag} {h : H} {b : Nat} {now old : List (List Ent)} {n1 n2 at_ mv : Int} {v1 v2 : Value} (a : Tab O h b now old n1 n2 at_ mv v1 v2) {i : Nat} (hi : i < old.length) : ∃ B vs, v2 = .slice (some ⟨B, 0, none⟩) old.length old.length ∧ RowsP O h true B vs old ∧ old.length ≤ 1000000 := by
  rcases a.old with ⟨_, rfl⟩ | ⟨B, vs, e, p, q1, q2⟩
  · simp at hi
  · exact ⟨B, vs, e, p, q2⟩
theorem Tab.rows_now {O : Nat → Tag} {h : H} {b : Nat} {now old : List (List Ent)} {n1 n2 at_ mv : Int} {v1 v2 : Value} (a : Tab O h b now old n1 n2 at_ mv v1 v2) (hp : 0 < now.length) : ∃ B vs, v1 = .slice (some ⟨B, 0, none⟩) now.length now.length ∧ RowsP O h false B vs now ∧ now.length ≤ 1000000 := by
  rcases a.now with ⟨_, rfl⟩ | ⟨B, vs, e, p, q1, q2⟩
  · simp at hp
  · exact ⟨B, vs, e, p, q2⟩

/-- an old row is turned -/
theorem Tab.set_old {O : Nat → Tag} {h : H} {b : Nat} {now old : List (List Ent)} {n1 n2 at_ mv : Int} {v1 : Value} {B : Nat} {vs : List Value} (a : Tab O h b now old n1 n2 at_ mv v1 (.slice (some ⟨B, 0, none⟩) old.length old.length)) (rp : RowsP O h true B vs old) {i : Nat} {v' : Value} {es' : List Ent} (hi : i < old.length) (ow : Own O h (.row true i) v' es') (hle : old.length ≤ 1000000) :
    Tab O (h.put B (.rw (vs.set i v'))) b now (old.set i es') n1 n2 at_ mv v1 (.slice (some ⟨B, 0, none⟩) old.length old.length) ∧ Fr O h O (h.put B (.rw (vs.set i v'))) := by
  have kp := Keep.put h B (.rw (vs.set i v'))
  have hbB : b ≠ B := fun e => by have := a.ob; rw [e, rp.ob] at this; cases this
  refine ⟨⟨a.hb.keep kp hbB, a.ob, a.now.keep kp fun c _ ho => ⟨(fun e => by
    rw [e, rp.ob] at ho
    rcases ho with ho | ⟨_, ho⟩ <;> cases ho), rfl⟩, .inr ⟨B, _, by rw [List.length_set], rp.set hi (.refl nobody h) (fun _ h => h.elim) (fun _ _ => rfl) ow, by rw [List.length_set]; omega, by rw [List.length_set]; exact hle⟩, fun c hc => a.far c hc⟩, ⟨kp.mono fun c _ e => (by rw [e, rp.ob]; decide), fun _ _ h => h⟩⟩

/-- an entry is put among the new ones -/
theorem Tab.after_put {O O' : Nat → Tag} {h h' : H} {b : Nat} {now old : List (List Ent)} {n1 n2 at_ mv m : Int} {v2 : Value} {B i : Nat} {vs : List Value} {es' : List Ent} (a : Tab O h b now old n1 n2 at_ mv (.slice (some ⟨B, 0, none⟩) now.length now.length) v2) (ob : O B = .base false) (hpos : 0 < now.length) (hle : now.length ≤ 1000000)
    (q : PutQ O h false b 0 B (tcells (.slice (some ⟨B, 0, none⟩) now.length now.length) n1 v2 n2 at_ mv) vs now i es' m O' h') :
    Tab O' h' b (now.set i es') old m n2 at_ mv (.slice (some ⟨B, 0, none⟩) now.length now.length) v2 ∧ Fr O h O' h' := by
  obtain ⟨vs', rp'⟩ := q.rows
  refine ⟨⟨q.tab, (q.same b a.hb.1).trans a.ob, .inr ⟨B, vs', by rw [List.length_set], rp', by rw [List.length_set]; exact hpos, by rw [List.length_set]; exact hle⟩, a.old.keep q.keep fun c hc ho => ⟨?_, q.same c hc⟩, fun c hc => (q.far c hc).trans (a.far c (Nat.le_trans q.keep.next hc))⟩, ⟨q.keep.mono fun c _ e => ?_, fun c hc ho => (q.same c hc).trans ho⟩⟩
  · rintro (e | e | e)
    · rw [e] at ho; rcases ho with ho | ⟨_, ho⟩ <;> cases ho
    · rw [e, ob] at ho; rcases ho with ho | ⟨_, ho⟩ <;> cases ho
    · rw [e, a.ob] at ho; rcases ho with ho | ⟨_, ho⟩ <;> cases ho
  · rcases e with e | e | e
    · rw [e]; exact Tag.noConfusion
    · rw [e, ob]; decide
    · rw [e, a.ob]; decide
end Go.Proofs.YtbdmhdidehfmoaaDoor
