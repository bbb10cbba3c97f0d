import Derived.Test.YtbdmhdidehfmoaaDoorTbX
import Derived.Test.YtbdmhdidehfmoaaDoorEvY
import Derived.WalkKit
import Derived.ProofKit
import Derived.OpenShut
set_option linter.unusedSimpArgs false
set_option linter.unusedVariables false
set_option maxRecDepth 100000
namespace Go.Proofs.YtbdmhdidehfmoaaDoor
open Go.Ev Go.RowKit

theorem v22 : Tryd.prog.underlying 22 = some (.slice 29) := by kernel_rfl
theorem v29 : Tryd.prog.underlying 29 = some (.int .u16) := by kernel_rfl
theorem s29 : Tryd.prog.cellsOf 29 = 1 := by kernel_rfl
theorem gor : NoGor Tryd.prog := noGor_of (by kernel_rfl)
theorem xok : XOK Tryd.prog outside := xok_nil
theorem slice_of {v : Value} {p : Option Addr} {l c : Nat} (e : v.cells.toList = [.slice p l c]) : v = .slice p l c ∨ ∃ a, v = .agg a := by
  cases v with
  | agg a => exact .inr ⟨a, rfl⟩
  | slice p' l' c' => exact .inl (by have : [Value.slice p' l' c'] = [.slice p l c] := e; simpa using this)
  | bool => exact absurd e (by intro h; have := List.head_eq_of_cons_eq h; cases this)
  | _ => exact absurd e (by intro h; have := List.head_eq_of_cons_eq h; cases this)

section
variable {H : Type} {enc : TypeId × Value → H}
/-- bytes that lie in memory, as the evaluator has them -/
theorem u16s_at {W : World} {n : Nat} {v : Value} {x : DataW H × List MemPlace} (hok : Value.okWide Tryd.prog W .any 0 22 v) (h : DataW.trod enc Tryd.prog W 0 (fun _ => true) true n 22 v.cells.toList = some x) :
    ∃ o : Option (List Value × CB), (∀ p, o = some p → RosOk W p) ∧ ∀ (B : Nat) (σ : Sg) (h0 : Ev.H), (∀ p, o = some p → Has h0 B (.ro p.1) ∧ σ B = some p.2) → ∃ (v' : Value) (l : List Nat), Ru h0 v' l ∧ (∀ c ∈ l, c < 65536) ∧ VR σ v' v := by
  have hok2 : Cell.ok Tryd.prog W .any 0 22 v := by
    unfold Value.okWide at hok
    rw [v22] at hok
    unfold Cell.okWide at hok
    rw [v22] at hok
    exact hok
  rcases DataW.trod_slice v22 h with ⟨e, _⟩ | ⟨a, len, cap, elems, rest, m', _, e, _, _, hlc, hcm, hlen, hel, _, _⟩
  · have hv : v = .slice none 0 0 := by
      rcases slice_of e with h | ⟨a, rfl⟩
      · exact h
      · exfalso; unfold Cell.ok at hok2; rw [v22] at hok2; exact hok2
    subst hv
    exact ⟨none, (fun p h => by cases h), fun B σ h0 _ => ⟨.slice none 0 0, [], .inl ⟨rfl, rfl⟩, (fun c h => by cases h), .slNil _ _⟩⟩
  · have hv : v = .slice (some a) len cap := by
      rcases slice_of e with h | ⟨a, rfl⟩
      · exact h
      · exfalso; unfold Cell.ok at hok2; rw [v22] at hok2; exact hok2
    subst hv
    unfold Cell.ok at hok2
    rw [v22] at hok2
    obtain ⟨_, _, _, hspot, row, cells, hshape, _⟩ := hok2
    have hblk : a.block < W.heap.size := by
      unfold World.shape? at hshape
      split at hshape
      · rename_i c el _ hh
        exact (Array.getElem?_eq_some_iff.1 hh).1
      · cases hshape
    have hone : ∀ i : Fin len, ∃ y : Nat, y < 65536 ∧ W.cells? 0 (a.add (i.val * 1)) 1 = some [u16v y] := fun i => by
      have h1 := hel i.val i.isLt
      rw [s29, List.getElem?_eq_getElem (by omega)] at h1
      simp only [Option.bind_eq_some_iff] at h1
      obtain ⟨c5, h2, h3⟩ := h1
      obtain ⟨z, rfl, _, w⟩ := DataW.trod_int v29 h3
      have := bounds_u16 w
      refine ⟨z.toNat, by omega, ?_⟩
      have hz : u16v z.toNat = .int .u16 z := by
        unfold u16v
        congr 1
        omega
      rw [hz]; exact h2
    obtain ⟨f, hf⟩ := Classical.axiomOfChoice hone
    let l := List.ofFn f
    have hil : l.length = len := by simp [l]
    have hlt' : ∀ c ∈ l, c < 65536 := fun c hc => by
      obtain ⟨i, rfl⟩ := List.mem_ofFn.1 hc
      exact (hf i).1
    have hcells : ∀ j v, (l.map u16v)[j]? = some v → W.cell? ⟨a.block, a.off + j, none⟩ = some v ∧ cstOk v = true := fun j v hv => by
      rw [List.getElem?_map] at hv
      obtain ⟨y, hy, rfl⟩ := Option.map_eq_some_iff.1 hv
      have hlt : j < len := by
        by_cases hlt : j < len
        · exact hlt
        · rw [List.getElem?_eq_none (by omega)] at hy; cases hy
      have hy' : f ⟨j, hlt⟩ = y := by simpa [l, hlt] using hy
      have h2 := (hf ⟨j, hlt⟩).2
      rw [hy'] at h2
      refine ⟨?_, rfl⟩
      have h3 := (World.cells?_some h2).2.2 0 (by omega)
      have e0 : [u16v y][0]? = some (u16v y) := rfl
      rw [e0] at h3
      rw [← h3]
      obtain ⟨ab, ao, asp⟩ := a
      simp only at hspot
      subst hspot
      simp only [Addr.add, Nat.mul_one]
      by_cases e1 : j = 0
      · simp [e1]
      · simp [e1]
    have hcO : cap < OPEN := by have := hcm; unfold maxLen at this; unfold OPEN; omega
    have hble : Nat.ble OPEN cap = false := by
      rw [Bool.eq_false_iff]; intro e; have := Nat.le_of_ble_eq_true e; omega
    refine ⟨some (l.map u16v, ⟨a.block, a.off, 1 * len, 1⟩), fun p h => ?_, fun B σ h0 hB => ?_⟩
    · simp only [Option.some.injEq] at h; subst h; exact ⟨hblk, hcells⟩
    obtain ⟨hh, hσ⟩ := hB _ rfl
    have hV : VR σ (.slice (some ⟨B, 0, none⟩) len cap) (.slice (some a) len cap) := by
      have := VR.sl (σ := σ) B 0 len cap ⟨a.block, a.off, 1 * len, 1⟩ hσ hcO
      obtain ⟨ab, ao, asp⟩ := a
      simp only at hspot
      subst hspot
      exact this
    exact ⟨.slice (some ⟨B, 0, none⟩) len cap, l, .inr ⟨B, 0, cap, _, _, by rw [hil], hh, rfl, by simp, by rw [List.drop_zero, List.take_of_length_le (by simp)]⟩, hlt', hV⟩


/-- the walk -/
theorem tableLast_walk {W : World} (g0 : W.cell? ⟨0, 0, none⟩ = some (.int .i64 0)) (g1 : W.cell? ⟨0, 1, none⟩ = some (.string kS)) {n : Nat} {v : Value} {x : DataW H × List MemPlace} (hok : Value.okWide Tryd.prog W .any 0 22 v) (h : DataW.trod enc Tryd.prog W 0 (fun _ => true) true n 22 v.cells.toList = some x) :
    Calls Tryd.prog 3 #[v] W fun e W' => e = .returned (.bool true) ∧ Below W.heap.size W W' := by
  obtain ⟨o, p, q⟩ := u16s_at hok h
  let og : Option (List Value × CB) := some ([.int .i64 0, .string kS], ⟨0, 0, 0, 0⟩)
  have hog : RosOk W ([.int .i64 0, .string kS], ⟨0, 0, 0, 0⟩) := ⟨World.block_lt_of_cell? W _ g0, fun j v hj => by
    match j, hj with
    | 0, hj => simp at hj; subst hj; exact ⟨g0, rfl⟩
    | 1, hj => simp at hj; subst hj; exact ⟨g1, rfl⟩
    | j + 2, hj => simp at hj⟩
  have r : Rel (rosσ [og, o]) (rosH [og, o]) W := ros_rel fun p' hp => by
    simp only [List.mem_cons, List.not_mem_nil, or_false] at hp
    rcases hp with hp | hp
    · have : p' = ([.int .i64 0, .string kS], ⟨0, 0, 0, 0⟩) := Option.some.inj hp
      subst this; exact hog
    · exact p p' hp.symm
  have hg := ros_has (bs := [og, o]) (B := 0) (p := ([.int .i64 0, .string kS], ⟨0, 0, 0, 0⟩)) rfl
  obtain ⟨v', l, hr, hl, vb⟩ := q 1 (rosσ [og, o]) (rosH [og, o]) fun p hp => ros_has (by rw [hp]; rfl)
  have hc : ∀ i, l.getD i 0 < 65536 := fun i => by
    rw [List.getD_eq_getElem?_getD]
    cases hi : l[i]? with
    | none => decide
    | some c => exact hl c (List.mem_of_getElem? hi)
  exact calls_of_sp gor Tryd.checked.mixed xok Tryd.func3 (by kernel_rfl) (last_law 400000 0 (by decide) v' l (rosH [og, o]) hr hg.1 hc) r (fun g hg' => ⟨⟨0, 0, 0, 0⟩, (by rw [show g = 0 from Nat.lt_one_iff.1 hg']; exact hg.2), (Nat.lt_one_iff.1 hg').symm, rfl⟩) (.cons vb (.nil _)) ros_ro
end
end Go.Proofs.YtbdmhdidehfmoaaDoor
