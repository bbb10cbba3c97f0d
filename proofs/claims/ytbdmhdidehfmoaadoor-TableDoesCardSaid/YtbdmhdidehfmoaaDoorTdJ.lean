import Derived.Test.YtbdmhdidehfmoaaDoorTdF
set_option linter.unusedSimpArgs false
set_option linter.unusedVariables false
set_option maxRecDepth 100000
namespace Go.Proofs.YtbdmhdidehfmoaaDoor
open Go.Ev Go.RowKit

theorem v22 : Tryd.prog.underlying 22 = some (.slice 29) := by kernel_rfl
theorem slice_of {v : Value} {p : Option Addr} {l c : Nat} (e : v.cells.toList = [.slice p l c]) : v = .slice p l c ∨ ∃ a, v = .agg a := by
  cases v with
  | agg a => exact .inr ⟨a, rfl⟩
  | slice p' l' c' => exact .inl (by have : [Value.slice p' l' c'] = [.slice p l c] := e; simpa using this)
  | bool => exact absurd e (by intro h; have := List.head_eq_of_cons_eq h; cases this)
  | _ => exact absurd e (by intro h; have := List.head_eq_of_cons_eq h; cases this)

section
variable {H : Type} {enc : TypeId × Value → H}
end
end Go.Proofs.YtbdmhdidehfmoaaDoor

set_option maxRecDepth 100000
namespace Go.Proofs.YtbdmhdidehfmoaaDoor
open Go.Ev Go.RowKit

theorem w49 : Tryd.prog.underlying 49 = some (.slice 54) := by kernel_rfl
theorem w54 : Tryd.prog.underlying 54 = some (.struct (fieldsOf Tryd.prog 54)) := by kernel_rfl
theorem n54 : (fieldsOf Tryd.prog 54).toList.map (fun f => (f.type, f.offset)) = [(5, 0), (27, 1), (3, 3)] := by kernel_rfl
theorem z54 : Tryd.prog.cellsOf 54 = 4 := by kernel_rfl
theorem w27 : Tryd.prog.underlying 27 = some (.struct (fieldsOf Tryd.prog 27)) := by kernel_rfl
theorem n27 : (fieldsOf Tryd.prog 27).toList.map (fun f => (f.type, f.offset)) = [(3, 0), (9, 1)] := by kernel_rfl
theorem z27 : Tryd.prog.cellsOf 27 = 2 := by kernel_rfl
theorem w5 : Tryd.prog.underlying 5 = some (.int .u8) := by kernel_rfl
theorem w3 : Tryd.prog.underlying 3 = some (.int .i64) := by kernel_rfl
theorem w9 : Tryd.prog.underlying 9 = some .string := by kernel_rfl
theorem z5 : Tryd.prog.cellsOf 5 = 1 := by kernel_rfl
theorem z3 : Tryd.prog.cellsOf 3 = 1 := by kernel_rfl
theorem z9 : Tryd.prog.cellsOf 9 = 1 := by kernel_rfl

theorem cellsD_in : ∀ (l : List Dd) (j : Nat) (v : Value), (cellsD l)[j]? = some v → ∃ (i k : Nat) (x : Dd), l[i]? = some x ∧ j = i * 4 + k ∧ k < 4 ∧ x.cells[k]? = some v
  | [], j, v, h => by simp [cellsD] at h
  | x :: l, j, v, h => by
    have e : cellsD (x :: l) = x.cells ++ cellsD l := rfl
    rw [e] at h
    have hl : x.cells.length = 4 := rfl
    by_cases hj : j < 4
    · rw [List.getElem?_append_left (by omega)] at h
      exact ⟨0, j, x, rfl, by omega, hj, h⟩
    · rw [List.getElem?_append_right (by omega), hl] at h
      obtain ⟨i, k, y, h1, h2, h3, h4⟩ := cellsD_in l _ v h
      exact ⟨i + 1, k, y, by simpa using h1, by omega, h3, h4⟩
theorem dd_cst {x : Dd} {k : Nat} {v : Value} (h : x.cells[k]? = some v) : cstOk v = true := by
  have := List.mem_of_getElem? h
  simp only [Dd.cells, List.mem_cons, List.not_mem_nil, or_false] at this
  rcases this with rfl | rfl | rfl | rfl <;> rfl

section
variable {H : Type} {enc : TypeId × Value → H}
theorem open_do {w : World} {base : Nat} {sp : Nat → Bool} {held : Bool} {n : Nat} {cs : List Value} {x : DataW H × List MemPlace} (h : DataW.trod enc Tryd.prog w base sp held n 54 cs = some x) : ∃ d : Dd, cs = d.cells := by
  obtain ⟨hl, hf⟩ := trod_fields w54 n54 h
  rw [z54] at hl
  rcases cs with _ | ⟨c0, _ | ⟨c1, _ | ⟨c2, _ | ⟨c3, _ | ⟨c4, r⟩⟩⟩⟩⟩ <;> simp at hl
  obtain ⟨m0, y0, h0⟩ := hf 0 5 0 rfl
  obtain ⟨m1, y1, h1⟩ := hf 1 27 1 rfl
  obtain ⟨m2, y2, h2⟩ := hf 2 3 3 rfl
  rw [z5] at h0
  rw [z27] at h1
  rw [z3] at h2
  obtain ⟨hl2, hf2⟩ := trod_fields w27 n27 h1
  obtain ⟨k0, x0, g0⟩ := hf2 0 3 0 rfl
  obtain ⟨k1, x1, g1⟩ := hf2 1 9 1 rfl
  rw [z3] at g0
  rw [z9] at g1
  obtain ⟨kd, e0, _, q0⟩ := DataW.trod_int w5 h0
  obtain ⟨t, e1, _, _⟩ := DataW.trod_int w3 g0
  obtain ⟨k, e2, _, _⟩ := DataW.trod_string w9 g1
  obtain ⟨xx, e3, _, _⟩ := DataW.trod_int w3 h2
  simp at e0 e1 e2 e3
  subst e0 e1 e2 e3
  have := bounds_u8 q0
  refine ⟨⟨kd.toNat, t, k, xx⟩, ?_⟩
  have hk : ((kd.toNat : Nat) : Int) = kd := by omega
  simp only [Dd.cells, hk]

/-- calls that lie in memory, as the evaluator has them -/
theorem dos_at {W : World} {n : Nat} {v : Value} {x : DataW H × List MemPlace} (hok : Value.okWide Tryd.prog W .any 0 49 v) (h : DataW.trod enc Tryd.prog W 0 (fun _ => true) true n 49 v.cells.toList = some x) :
    ∃ o : Option (List Value × CB), (∀ p, o = some p → RosOk W p) ∧ ∀ (B : Nat) (σ : Sg) (h0 : Ev.H), (∀ p, o = some p → Has h0 B (.ro p.1) ∧ σ B = some p.2) → ∃ (v' : Value) (l : List Dd), Rd h0 v' l ∧ VR σ v' v := by
  have hok2 : Cell.ok Tryd.prog W .any 0 49 v := by
    unfold Value.okWide at hok
    rw [w49] at hok
    unfold Cell.okWide at hok
    rw [w49] at hok
    exact hok
  rcases DataW.trod_slice w49 h with ⟨e, _⟩ | ⟨a, len, cap, elems, rest, m', _, e, _, _, hlc, hcm, hlen, hel, _, _⟩
  · have hv : v = .slice none 0 0 := by
      rcases slice_of e with h | ⟨a, rfl⟩
      · exact h
      · exfalso; unfold Cell.ok at hok2; rw [w49] at hok2; exact hok2
    subst hv
    exact ⟨none, (fun p h => by cases h), fun B σ h0 _ => ⟨.slice none 0 0, [], .inl ⟨rfl, rfl⟩, .slNil _ _⟩⟩
  · have hv : v = .slice (some a) len cap := by
      rcases slice_of e with h | ⟨a, rfl⟩
      · exact h
      · exfalso; unfold Cell.ok at hok2; rw [w49] at hok2; exact hok2
    subst hv
    unfold Cell.ok at hok2
    rw [w49] at hok2
    obtain ⟨_, _, _, hspot, row, cells, hshape, _⟩ := hok2
    have hblk : a.block < W.heap.size := by
      unfold World.shape? at hshape
      split at hshape
      · rename_i c el _ hh
        exact (Array.getElem?_eq_some_iff.1 hh).1
      · cases hshape
    have hone : ∀ i : Fin len, ∃ d : Dd, W.cells? 0 (a.add (i.val * 4)) 4 = some d.cells := fun i => by
      have h1 := hel i.val i.isLt
      rw [z54, List.getElem?_eq_getElem (by omega)] at h1
      simp only [Option.bind_eq_some_iff] at h1
      obtain ⟨c5, h2, h3⟩ := h1
      obtain ⟨d, rfl⟩ := open_do h3
      exact ⟨d, h2⟩
    obtain ⟨f, hf⟩ := Classical.axiomOfChoice hone
    let l := List.ofFn f
    have hil : l.length = len := by simp [l]
    have hit : ∀ (i : Nat) (x : Dd), l[i]? = some x → ∀ k, k < 4 → W.cell? ⟨a.block, a.off + (i * 4 + k), none⟩ = x.cells[k]? := fun i x hx => by
      have hlt : i < len := by
        by_cases hlt : i < len
        · exact hlt
        · rw [List.getElem?_eq_none (by omega)] at hx; cases hx
      have hx' : f ⟨i, hlt⟩ = x := by simpa [l, hlt] using hx
      have h2 := hf ⟨i, hlt⟩
      rw [hx'] at h2
      intro k hk
      have h3 := (World.cells?_some h2).2.2 k hk
      rw [← h3]
      obtain ⟨ab, ao, asp⟩ := a
      simp only at hspot
      subst hspot
      simp only [Addr.add]
      by_cases e1 : i * 4 = 0
      · by_cases e2 : k = 0
        · simp [e1, e2]
        · simp [e1, e2]
      · by_cases e2 : k = 0
        · simp [e1, e2]
        · simp [e1, e2, Nat.add_assoc]
    have hcells : ∀ j v, (cellsD l)[j]? = some v → W.cell? ⟨a.block, a.off + j, none⟩ = some v ∧ cstOk v = true := fun j v hv => by
      obtain ⟨i, k, x, h1, rfl, h3, h4⟩ := cellsD_in l j v hv
      exact ⟨by rw [hit i x h1 k h3, h4], dd_cst h4⟩
    have hcO : cap < OPEN := by have := hcm; unfold maxLen at this; unfold OPEN; omega
    refine ⟨some (cellsD l, ⟨a.block, a.off, 4 * len, 4⟩), fun p h => ?_, fun B σ h0 hB => ?_⟩
    · simp only [Option.some.injEq] at h; subst h; exact ⟨hblk, hcells⟩
    obtain ⟨hh, hσ⟩ := hB _ rfl
    have hV : VR σ (.slice (some ⟨B, 0, none⟩) len cap) (.slice (some a) len cap) := by
      have := VR.sl (σ := σ) B 0 len cap ⟨a.block, a.off, 4 * len, 4⟩ hσ hcO
      obtain ⟨ab, ao, asp⟩ := a
      simp only at hspot
      subst hspot
      exact this
    exact ⟨.slice (some ⟨B, 0, none⟩) len cap, l, .inr ⟨B, cap, by rw [hil], hh⟩, hV⟩

/-- the walk -/
theorem tableDoes_walk {W : World} (g0 : W.cell? ⟨0, 0, none⟩ = some (.int .i64 0)) (g1 : W.cell? ⟨0, 1, none⟩ = some (.string kS)) {n : Nat} {v : Value} {x : DataW H × List MemPlace} (hok : Value.okWide Tryd.prog W .any 0 49 v) (h : DataW.trod enc Tryd.prog W 0 (fun _ => true) true n 49 v.cells.toList = some x) :
    Calls Tryd.prog 5 #[v] W fun e W' => e = .returned (.bool true) ∧ Below W.heap.size W W' := by
  obtain ⟨o, p, q⟩ := dos_at hok h
  let og : Option (List Value × CB) := some ([.int .i64 0, .string kS], ⟨0, 0, 0, 0⟩)
  have hog : RosOk W ([.int .i64 0, .string kS], ⟨0, 0, 0, 0⟩) := ⟨World.block_lt_of_cell? W _ g0, fun j v hj => by
    match j, hj with
    | 0, hj => simp at hj; subst hj; exact ⟨g0, rfl⟩
    | 1, hj => simp at hj; subst hj; exact ⟨g1, rfl⟩
    | j + 2, hj => simp at hj⟩
  have r : Rel (rosσ [og, o]) (rosH [og, o]) W := ros_rel fun p' hp => by
    simp only [List.mem_cons, List.not_mem_nil, or_false] at hp
    rcases hp with hp | hp
    · have : p' = ([.int .i64 0, .string kS], ⟨0, 0, 0, 0⟩) := Option.some.inj hp
      subst this; exact hog
    · exact p p' hp.symm
  have hg := ros_has (bs := [og, o]) (B := 0) (p := ([.int .i64 0, .string kS], ⟨0, 0, 0, 0⟩)) rfl
  obtain ⟨v', l, hr, vb⟩ := q 1 (rosσ [og, o]) (rosH [og, o]) fun p hp => ros_has (by rw [hp]; rfl)
  exact calls_of_sp gor Tryd.checked.mixed xok Tryd.func5 (by kernel_rfl) (does_law 400000 0 (by decide) v' l (rosH [og, o]) hr hg.1) r (fun g hg' => ⟨⟨0, 0, 0, 0⟩, (by rw [show g = 0 from Nat.lt_one_iff.1 hg']; exact hg.2), (Nat.lt_one_iff.1 hg').symm, rfl⟩) (.cons vb (.nil _)) ros_ro
end
end Go.Proofs.YtbdmhdidehfmoaaDoor
