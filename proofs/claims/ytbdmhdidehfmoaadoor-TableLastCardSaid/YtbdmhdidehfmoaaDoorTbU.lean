import Derived.Test.YtbdmhdidehfmoaaDoorTbT
set_option linter.unusedSimpArgs false
set_option linter.unusedVariables false
namespace Go.Proofs.YtbdmhdidehfmoaaDoor
open Go.Ev

/-! ### the plain law: what was put last -/
def tOf (a : Nat) : Int := ((a % 4 : Nat) : Int)
def ent (c : Nat → Nat) (i : Nat) : Ent := ⟨tOf (c i / 4), nm (c i / 4), (i : Int)⟩
def lst (c : Nat → Nat) : Nat → List Ent
  | 0 => []
  | n + 1 => if c n % 4 = 3 then without (lst c n) (tOf (c n / 4)) (nm (c n / 4)) else ent c n :: without (lst c n) (tOf (c n / 4)) (nm (c n / 4))
def la (c : Nat → Nat) (i : Nat) : Nat → Nat
  | 0 => i
  | m + 1 => if i < m ∧ c m / 4 = c i / 4 then m else la c i m
def live (c : Nat → Nat) (n i : Nat) : Bool := decide (la c i n = i) && decide (c i % 4 ≠ 3)

section
variable {c : Nat → Nat}
theorem la_spec (i : Nat) : ∀ m, (la c i m = i ∨ (i < la c i m ∧ la c i m < m)) ∧ c (la c i m) / 4 = c i / 4 ∧ ∀ k, la c i m < k → k < m → c k / 4 ≠ c i / 4
  | 0 => ⟨.inl rfl, rfl, fun k _ h => by omega⟩
  | m + 1 => by
    obtain ⟨h1, h2, h3⟩ := la_spec i m
    unfold la
    split
    · rename_i h
      exact ⟨.inr ⟨h.1, by omega⟩, h.2, fun k g1 g2 => by omega⟩
    · rename_i h
      refine ⟨h1.imp_right fun g => ⟨g.1, by omega⟩, h2, fun k g1 g2 => ?_⟩
      by_cases e : k = m
      · subst e
        intro he
        rcases h1 with h1 | h1
        · rw [h1] at g1; exact h ⟨g1, he⟩
        · exact h ⟨by omega, he⟩
      · exact h3 k g1 (by omega)
theorem la_of {j : Nat} : ∀ {m : Nat}, (∀ k, j < k → k < m → c k / 4 ≠ c j / 4) → la c j m = j
  | 0, _ => rfl
  | m + 1, h => by
    unfold la
    rw [if_neg fun g => h m g.1 (by omega) g.2]
    exact la_of fun k h1 h2 => h k h1 (by omega)
theorem la_la (i n : Nat) : la c (la c i n) n = la c i n := la_of fun k h1 h2 => by
  obtain ⟨_, e, f⟩ := la_spec (c := c) i n
  rw [e]; exact f k h1 h2
theorem la_lt {i n : Nat} (h : i < n) : la c i n < n := by
  rcases (la_spec (c := c) i n).1 with e | e
  · omega
  · exact e.2
theorem live_same {n i j : Nat} (hi : i < n) (hj : j < n) (li : la c i n = i) (lj : la c j n = j) (h : c i / 4 = c j / 4) : i = j := by
  have h1 := (la_spec (c := c) i n).2.2
  have h2 := (la_spec (c := c) j n).2.2
  rw [li] at h1
  rw [lj] at h2
  rcases Nat.lt_trichotomy i j with g | g | g
  · exact absurd h.symm (h1 j g hj)
  · exact g
  · exact absurd h (h2 i g hi)

theorem is_same (hc : ∀ i, c i < 65536) (i j : Nat) : Is (tOf (c j / 4)) (nm (c j / 4)) (ent c i) ↔ c i / 4 = c j / 4 := by
  have h1 := hc i
  have h2 := hc j
  constructor
  · intro h
    exact nm_inj (by omega) (by omega) h.2
  · intro h
    unfold ent
    rw [h]
    exact ⟨rfl, rfl⟩

theorem live_succ (n i : Nat) (hi : i < n) : live c (n + 1) i = (live c n i && !decide (c i / 4 = c n / 4)) := by
  unfold live
  have : la c i (n + 1) = if i < n ∧ c n / 4 = c i / 4 then n else la c i n := rfl
  rw [this]
  by_cases h : c i / 4 = c n / 4
  · rw [if_pos ⟨hi, h.symm⟩, decide_eq_false (by omega : ¬ n = i), decide_eq_true h]; simp
  · rw [if_neg fun g => h g.2.symm, decide_eq_false h]; simp
theorem live_last (n : Nat) : live c (n + 1) n = decide (c n % 4 ≠ 3) := by
  unfold live
  rw [la_of fun k h1 h2 => by omega]; simp

theorem lst_perm (hc : ∀ i, c i < 65536) : ∀ n, (lst c n).Perm (((List.range n).filter (live c n)).map (ent c))
  | 0 => .refl _
  | n + 1 => by
    have ih := lst_perm hc n
    have h1 : (without (lst c n) (tOf (c n / 4)) (nm (c n / 4))).Perm (((List.range n).filter (live c (n + 1))).map (ent c)) := by
      refine (ih.filter _).trans ?_
      rw [List.filter_map, List.filter_filter]
      refine List.Perm.map _ (List.Perm.of_eq ?_)
      apply List.filter_congr
      intro i hi
      rw [live_succ n i (List.mem_range.1 hi)]
      show (!decide (Is (tOf (c n / 4)) (nm (c n / 4)) (ent c i)) && live c n i) = _
      rw [Bool.and_comm]
      congr 2
      exact decide_eq_decide.2 (is_same hc i n)
    rw [List.range_succ, List.filter_append, List.map_append]
    unfold lst
    by_cases h : c n % 4 = 3
    · have : List.filter (live c (n + 1)) [n] = [] := by
        rw [List.filter_cons, live_last, if_neg (by simp [h]), List.filter_nil]
      rw [if_pos h, this]
      simpa using h1
    · have : List.filter (live c (n + 1)) [n] = [n] := by
        rw [List.filter_cons, live_last, if_pos (by simp [h]), List.filter_nil]
      rw [if_neg h, this]
      exact (h1.cons _).trans (List.perm_append_comm (l₁ := [ent c n]))

theorem lst_len : ∀ n, (lst c n).length ≤ n
  | 0 => Nat.le_refl _
  | n + 1 => by
    have h1 := List.length_filter_le (fun e => !decide (Is (tOf (c n / 4)) (nm (c n / 4)) e)) (lst c n)
    have h2 := lst_len n
    unfold lst
    split
    · show (List.filter _ _).length ≤ _; omega
    · show (List.filter _ _).length + 1 ≤ _; omega

/-- a name's number is what was put last -/
theorem get_last (hc : ∀ i, c i < 65536) {n i : Nat} (hi : i < n) {r : Value} (q : GetQ (lst c n) (tOf (c i / 4)) (nm (c i / 4)) r) :
    r = if c (la c i n) % 4 = 3 then .tuple [.int .i64 0, .bool false, .int .i64 0].toArray else .tuple [.int .i64 (la c i n : Int), .bool true, .int .i64 0].toArray := by
  have hp := lst_perm hc n
  have hk := (la_spec (c := c) i n).2.1
  have hl := la_lt (c := c) hi
  rcases q with ⟨e, he, hm, rfl⟩ | ⟨no, rfl⟩
  · obtain ⟨j, hj, rfl⟩ := List.mem_map.1 (hp.mem_iff.1 he)
    rw [List.mem_filter, List.mem_range] at hj
    obtain ⟨h1, h2⟩ := hj
    simp only [live, Bool.and_eq_true, decide_eq_true_eq] at h2
    have h3 := (is_same hc j i).1 hm
    have : j = la c i n := live_same h1 hl h2.1 (la_la i n) (h3.trans hk.symm)
    subst this
    rw [if_neg h2.2]; rfl
  · by_cases h : c (la c i n) % 4 = 3
    · rw [if_pos h]
    · exfalso
      refine no (ent c (la c i n)) (hp.mem_iff.2 (List.mem_map.2 ⟨_, List.mem_filter.2 ⟨List.mem_range.2 hl, ?_⟩, rfl⟩)) ((is_same hc _ i).2 hk)
      simp [live, la_la, h]

def have_ (c : Nat → Nat) (n m : Nat) : Nat := ((List.range m).filter (live c n)).length
theorem have_succ (n m : Nat) : have_ c n (m + 1) = have_ c n m + if la c m n = m ∧ c m % 4 ≠ 3 then 1 else 0 := by
  unfold have_
  rw [List.range_succ, List.filter_append, List.length_append]
  congr 1
  by_cases h : la c m n = m ∧ c m % 4 ≠ 3
  · rw [if_pos h, List.filter_cons, if_pos (by simp [live, h]), List.filter_nil]; rfl
  · rw [if_neg h, List.filter_cons, if_neg (by simp only [live, Bool.and_eq_true, decide_eq_true_eq]; exact h), List.filter_nil]; rfl
theorem lst_have (hc : ∀ i, c i < 65536) (n : Nat) : (lst c n).length = have_ c n n := by
  rw [(lst_perm hc n).length_eq, List.length_map]; rfl
theorem have_le (n : Nat) : ∀ m, have_ c n m ≤ m := fun m => by
  have := List.length_filter_le (live c n) (List.range m)
  rw [List.length_range] at this
  exact this
end
end Go.Proofs.YtbdmhdidehfmoaaDoor
