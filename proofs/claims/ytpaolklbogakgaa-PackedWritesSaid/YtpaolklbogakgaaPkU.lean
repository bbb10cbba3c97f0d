import Derived.Test.YtpaolklbogakgaaPkS
set_option linter.unusedSimpArgs false
set_option linter.unusedVariables false
namespace Go.Proofs.Ytpaolklbogakgaa
open Go.Ev Go.RowKit

theorem cellsOf_at : ∀ (l : List Itm) (j : Nat) (v : Value), (cellsOf l)[j]? = some v → ∃ (i k : Nat) (x : Itm), l[i]? = some x ∧ j = i * 5 + k ∧ k < 5 ∧ x.cells[k]? = some v
  | [], j, v, h => by simp [cellsOf] at h
  | x :: l, j, v, h => by
    have e : cellsOf (x :: l) = x.cells ++ cellsOf l := rfl
    rw [e] at h
    by_cases hj : j < 5
    · rw [List.getElem?_append_left (by simpa using hj)] at h
      exact ⟨0, j, x, rfl, by omega, hj, h⟩
    · rw [List.getElem?_append_right (by simp; omega)] at h
      obtain ⟨i, k, y, h1, h2, h3, h4⟩ := cellsOf_at l _ v h
      simp only [Itm.cells_len] at h2
      exact ⟨i + 1, k, y, by simpa using h1, by omega, h3, h4⟩
theorem item_cst {x : Itm} {k : Nat} {v : Value} (h : x.cells[k]? = some v) : cstOk v = true := by
  have := List.mem_of_getElem? h
  simp only [Itm.cells, List.mem_cons, List.not_mem_nil, or_false] at this
  rcases this with rfl | rfl | rfl | rfl | rfl <;> rfl

theorem gor : NoGor Try.prog := noGor_of (by kernel_rfl)
theorem xok : XOK Try.prog outside := xok_nil

section
variable {H : Type} {enc : TypeId × Value → H}
/-- an answer that lies in memory, as the evaluator has it -/
theorem answer_in {W : World} {n : Nat} {v : Value} {x : DataW H × List MemPlace} (hok : Value.okWide Try.prog W .any 0 27 v) (h : DataW.trod enc Try.prog W 0 (fun _ => true) true n 27 v.cells.toList = some x) :
    ∃ (a : Ans) (σ : Sg) (h0 : Ev.H), a.ok ∧ ItemsAt h0 a.r.iv a.r.items ∧ ones a.r.cells = true ∧ Rel σ h0 W ∧ VR σ a.v v ∧ ∀ B x, h0.objs.get B = some x → x.mut = false := by
  unfold Value.okWide at hok
  rw [u27] at hok
  obtain ⟨cs, rfl, hsz, ts, hts, _, hrow⟩ := hok
  rw [ct27] at hts
  cases hts
  obtain ⟨kind, of, rk, num, yes, key, iv, hcs, o1, o2, o3, o4, m, y, hs⟩ := open_answer h
  simp only [cells_agg] at hcs
  have vr : ∀ (σ : Sg) (iv' : Value), VR σ iv' iv → ∀ items, VR σ (Ans.v ⟨kind, of, ⟨rk, iv', num, items⟩, yes, key⟩) (.agg cs) := fun σ iv' hv items => by
    have hl : LR σ [Value.int .u8 kind, .int .u8 of, .int .u8 rk, iv', .int .u64 num, .bool yes, .string key] cs.toList := by
      rw [hcs]
      exact .cons (.int _ _) (.cons (.int _ _) (.cons (.int _ _) (.cons hv (.cons (.int _ _) (.cons (.bool _) (.cons (.string _) (.nil _)))))))
    refine .agg _ _ (by simpa [Ans.cells] using hl.1) fun i x y hx hy => hl.2 i x y (by simpa [Ans.cells] using hx) (by simpa using hy)
  rcases DataW.trod_slice u22 hs with ⟨e, _⟩ | ⟨a, len, cap, elems, rest, m', _, e, _, _, hlc, hcm, hlen, hel, _, _⟩
  · simp only [List.cons.injEq, and_true] at e
    subst e
    have hno : ∀ B x, (⟨.e, 0⟩ : Ev.H).objs.get B = some x → False := fun B x hx => by rw [T.get_e] at hx; cases hx
    exact ⟨⟨kind, of, ⟨rk, .slice none 0 0, num, []⟩, yes, key⟩, fun _ => none, ⟨.e, 0⟩, ⟨o1, o2, o3, o4, fun x hx => by cases hx⟩, .inl ⟨rfl, rfl⟩, rfl, ⟨fun _ _ => rfl, (fun B c h => by cases h), fun B x hx => (hno B x hx).elim, fun B x B' x' c c' hx => (hno B x hx).elim⟩, vr _ _ (.slNil _ _) _, fun B x hx => (hno B x hx).elim⟩
  · simp only [List.cons.injEq, and_true] at e
    subst e
    -- where it lies
    have hcell : cs[3]? = some (.slice (some a) len cap) := by
      have : cs.toList[3]? = some (.slice (some a) len cap) := by rw [hcs]; rfl
      simpa using this
    obtain ⟨u, hu, hco⟩ := hrow 3 _ hcell
    have hu22 : u = 22 := by simpa using hu.symm
    subst hu22
    have hok2 : Cell.ok Try.prog W .any 0 22 (.slice (some a) len cap) := by
      unfold Cell.okWide at hco
      rw [u22] at hco
      exact hco
    unfold Cell.ok at hok2
    rw [u22] at hok2
    obtain ⟨_, _, _, hspot, row, cells, hshape, _⟩ := hok2
    have hblk : a.block < W.heap.size := by
      unfold World.shape? at hshape
      split at hshape
      · rename_i c el _ hh
        exact (Array.getElem?_eq_some_iff.1 hh).1
      · cases hshape
    have hone : ∀ i : Fin len, ∃ it : Itm, it.ok ∧ W.cells? 0 (a.add (i.val * 5)) 5 = some it.cells := fun i => by
      have h1 := hel i.val i.isLt
      rw [s43, List.getElem?_eq_getElem (by omega)] at h1
      simp only [Option.bind_eq_some_iff] at h1
      obtain ⟨c5, h2, h3⟩ := h1
      obtain ⟨it, h4, rfl⟩ := open_item h3
      exact ⟨it, h4, h2⟩
    obtain ⟨f, hf⟩ := Classical.axiomOfChoice hone
    let items := List.ofFn f
    have hil : items.length = len := by simp [items]
    have hit : ∀ (i : Nat) (x : Itm), items[i]? = some x → x.ok ∧ ∀ k, k < 5 → W.cell? ⟨a.block, a.off + (i * 5 + k), none⟩ = x.cells[k]? := fun i x hx => by
      have hlt : i < len := by
        by_cases hlt : i < len
        · exact hlt
        · rw [List.getElem?_eq_none (by omega)] at hx; cases hx
      have hx' : f ⟨i, hlt⟩ = x := by simpa [items, hlt] using hx
      obtain ⟨h1, h2⟩ := hf ⟨i, hlt⟩
      rw [hx'] at h1 h2
      refine ⟨h1, fun k hk => ?_⟩
      have h3 := (World.cells?_some h2).2.2 k hk
      rw [← h3]
      obtain ⟨ab, ao, asp⟩ := a
      simp only at hspot
      subst hspot
      simp only [Addr.add]
      by_cases e1 : i * 5 = 0
      · by_cases e2 : k = 0
        · simp [e1, e2]
        · simp [e1, e2]
      · by_cases e2 : k = 0
        · simp [e1, e2]
        · simp [e1, e2, Nat.add_assoc]
    have hcells : ∀ j v, (cellsOf items)[j]? = some v → W.cell? ⟨a.block, a.off + j, none⟩ = some v ∧ cstOk v = true := fun j v hv => by
      obtain ⟨i, k, x, h1, rfl, h3, h4⟩ := cellsOf_at items j v hv
      exact ⟨by rw [(hit i x h1).2 k h3, h4], item_cst h4⟩
    have hV : VR (oneσ ⟨a.block, a.off, 5 * len, 5⟩) (.slice (some ⟨0, 0, none⟩) len cap) (.slice (some a) len cap) := by
      have := VR.sl (σ := oneσ ⟨a.block, a.off, 5 * len, 5⟩) 0 0 len cap ⟨a.block, a.off, 5 * len, 5⟩ rfl (by have := hcm; unfold maxLen at this; unfold OPEN; omega)
      obtain ⟨ab, ao, asp⟩ := a
      simp only at hspot
      subst hspot
      exact this
    refine ⟨⟨kind, of, ⟨rk, .slice (some ⟨0, 0, none⟩) len cap, num, items⟩, yes, key⟩, oneσ ⟨a.block, a.off, 5 * len, 5⟩, oneH (cellsOf items), ⟨o1, o2, o3, o4, fun x hx => ?_⟩, .inr ⟨0, 0, cap, _, _, by rw [hil], one_has _, rfl, by rw [cellsOf_len, Nat.zero_add]; exact Nat.le_refl _, ?_⟩, rfl, one_rel hblk hcells, vr _ _ hV _, one_ro⟩
    · obtain ⟨i, hi⟩ := List.getElem?_of_mem hx
      exact (hit i x hi).1
    · rw [List.drop_zero, List.take_of_length_le (by rw [cellsOf_len]; exact Nat.le_refl _)]

/-- the walk -/
theorem packedWrites_walk {W : World} {n : Nat} {v : Value} {x : DataW H × List MemPlace} (hok : Value.okWide Try.prog W .any 0 27 v) (h : DataW.trod enc Try.prog W 0 (fun _ => true) true n 27 v.cells.toList = some x) :
    Calls Try.prog 3 #[v] W fun e W' => e = .returned (.bool true) ∧ Below W.heap.size W W' := by
  obtain ⟨a, σ, h0, ok, hi, ho, r, hv, hro⟩ := answer_in hok h
  exact calls_of_sp gor Try.checked.mixed xok Try.func3 (by kernel_rfl) (law 1000 0 a h0 ok hi (by decide) ho) r (fun g hg => absurd hg (Nat.not_lt_zero _)) (.cons hv (.nil _)) hro
end
end Go.Proofs.Ytpaolklbogakgaa
