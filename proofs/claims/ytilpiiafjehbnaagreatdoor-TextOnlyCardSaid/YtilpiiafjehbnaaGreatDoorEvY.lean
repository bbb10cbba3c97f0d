import Derived.Test.YtilpiiafjehbnaaGreatDoorEvX
set_option linter.unusedVariables false
namespace Go.Ev
abbrev Ros := List (Option (List Value × CB))
def rosσ (bs : Ros) : Sg := fun B => match bs[B]? with
 | some (some p) => some p.2
 | _ => none
noncomputable def rosO : Nat → Ros → T AObj
 | _, [] => .e
 | k, none :: r => rosO (k + 1) r
 | k, some p :: r => (rosO (k + 1) r).set k (.ro p.1)
noncomputable def rosH (bs : Ros) : Ev.H := ⟨rosO 0 bs, bs.length⟩
theorem rosO_get : ∀ (bs : Ros) (k B : Nat) (x : AObj), (rosO k bs).get B = some x → k ≤ B ∧ ∃ p, bs[B - k]? = some (some p) ∧ x = .ro p.1
 | [], k, B, x, h => by
   have h' : (T.e : T AObj).get B = some x := h
   rw [T.get_e] at h'; cases h'
 | none :: r, k, B, x, h => by
   obtain ⟨h1, p, h2, h3⟩ := rosO_get r (k + 1) B x h
   refine ⟨by omega, p, ?_, h3⟩
   rw [show B - k = (B - (k + 1)) + 1 by omega]
   simpa using h2
 | some q :: r, k, B, x, h => by
   have h' : ((rosO (k + 1) r).set k (.ro q.1)).get B = some x := h
   rw [T.get_set] at h'
   split at h'
   · rename_i e
     simp only [Option.some.injEq] at h'
     subst e
     exact ⟨Nat.le_refl _, q, by simp, h'.symm⟩
   · obtain ⟨h1, p, h2, h3⟩ := rosO_get r (k + 1) B x h'
     refine ⟨by omega, p, ?_, h3⟩
     rw [show B - k = (B - (k + 1)) + 1 by omega]
     simpa using h2
theorem rosO_has : ∀ (bs : Ros) (k i : Nat) (p : List Value × CB), bs[i]? = some (some p) → (rosO k bs).get (k + i) = some (.ro p.1)
 | [], k, i, p, h => by simp at h
 | none :: r, k, 0, p, h => by simp at h
 | none :: r, k, i + 1, p, h => by
   have := rosO_has r (k + 1) i p (by simpa using h)
   rw [show k + (i + 1) = k + 1 + i by omega]
   exact this
 | some q :: r, k, 0, p, h => by
   have : q = p := by simpa using h
   subst this
   show ((rosO (k + 1) r).set k (.ro q.1)).get (k + 0) = _
   rw [T.get_set, if_pos (by omega)]
 | some q :: r, k, i + 1, p, h => by
   have := rosO_has r (k + 1) i p (by simpa using h)
   show ((rosO (k + 1) r).set k (.ro q.1)).get (k + (i + 1)) = _
   rw [T.get_set, if_neg (by omega), show k + (i + 1) = k + 1 + i by omega]
   exact this
theorem ros_has {bs : Ros} {B : Nat} {p : List Value × CB} (h : bs[B]? = some (some p)) : Has (rosH bs) B (.ro p.1) ∧ rosσ bs B = some p.2 := by
 refine ⟨⟨?_, ?_⟩, by simp [rosσ, h]⟩
 · exact (List.getElem?_eq_some_iff.1 h).1
 · have := rosO_has bs 0 B p h
   rw [Nat.zero_add] at this
   exact this
def RosOk (w : World) (p : List Value × CB) : Prop := p.2.blk < w.heap.size ∧ ∀ j v, p.1[j]? = some v → w.cell? ⟨p.2.blk, p.2.off + j, none⟩ = some v ∧ cstOk v = true
theorem ros_ro {bs : Ros} : ∀ B x, (rosH bs).objs.get B = some x → x.mut = false := fun B x hx => by
 obtain ⟨_, p, _, rfl⟩ := rosO_get bs 0 B x hx
 rfl
end Go.Ev
