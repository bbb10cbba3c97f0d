import Derived.Test.YtpoedopdcpejmaaEvT
import Derived.WalkKit
import Derived.OpenShut
namespace Go.Ev
open Go.RowKit
set_option linter.unusedSimpArgs false
set_option linter.unusedVariables false
variable {H : Type} {P : Program} {enc : TypeId × Value → H}

/-- behind a call that has only made memory: what the row asks, where it does not ask for more -/
theorem post_kept {f : Func} {s : ChangeSpec} {apart fresh handsOn : Bool} {W W' : World} {args : Array Value} {v : Value} {ds gs : List (DataW H)} {before pa pv : List MemPlace}
    (hW : DataW.Whole enc P f.params.toList s.vars apart W args.toList ds gs before)
    (hres : ∀ (b : Nat) (sp : Nat → Bool) (hd : Bool), DataW.TrodAll enc P W' b sp hd f.resultTypes.toList (v.resultList f.resultTypes.size) (s.fn H (ds ++ gs)).results [])
    (hargs : ∀ sp : Nat → Bool, (∀ p ∈ before, sp p.block = true) → DataW.TrodAll enc P W' 0 sp true f.params.toList args.toList (s.fn H (ds ++ gs)).args pa)
    (hvars : ∀ sp : Nat → Bool, (∀ p ∈ before, sp p.block = true) → DataW.TrodVars enc P W' sp s.vars (s.fn H (ds ++ gs)).vars pv)
    (hps : before = pa ++ pv) (hk : W.keptBut W' (· ∈ before)) : s.post enc P f apart fresh handsOn false W args v W' := by
  have hold : ∀ p ∈ before, (fun b => decide (b < W.heap.size)) p.block = true := fun p hp => by simpa using hW.lt p hp
  refine ⟨ds, gs, before, [], pa, pv, hW, hres _ _ _, hargs _ hold, hvars _ hold, World.keptBut_mono (fun p hp => ⟨hp, ?_⟩) hk, fun h => by cases h⟩
  rw [hps, List.mem_append] at hp
  exact Or.inr hp

/-- the masks, function by function -/
noncomputable def maskOf (l : List Nat) (f : Nat) : Nat := match nth l f with | some m => m | none => 0

theorem noGor_of (h : (P.funcs.all fun fn => !decide (fn.name = "runtime.NumGoroutine")) = true) : NoGor P := fun f fn hf he => by
  have := Array.all_eq_true_iff_forall_mem.1 h fn (Array.mem_of_getElem? hf)
  simp [he] at this

/-- a heap that holds the package variables' cells -/
noncomputable def heapOf (gl : List (Nat × List Value)) (NG : Nat) : Ev.H := ⟨gl.foldr (fun p t => t.set p.1 (.ro p.2)) .e, NG⟩

theorem heapOf_get {NG : Nat} : ∀ {gl : List (Nat × List Value)} {B : Nat} {x : AObj}, (heapOf gl NG).objs.get B = some x → ∃ p ∈ gl, p.1 = B ∧ x = .ro p.2
  | [], B, x, h => by
    have : (T.e : T AObj).get B = some x := h
    rw [T.get_e] at this; cases this
  | q :: r, B, x, h => by
    have h' : ((heapOf r NG).objs.set q.1 (.ro q.2)).get B = some x := h
    rw [T.get_set] at h'
    split at h'
    · rename_i e
      simp only [Option.some.injEq] at h'
      exact ⟨q, by simp, e, h'.symm⟩
    · obtain ⟨p, p1, p2⟩ := heapOf_get h'
      exact ⟨p, by simp [p1], p2⟩

/-- a law without parameters that reads package variables -/
theorem calls_true_laid (hgor : NoGor P) (hmix : P.follows .mixedOrders = true) {Sf : Nat → Nat} {X : List (Nat × XK)} (hX : XOK P X) {fn : Func} {L n f NG : Nat} {gl : List (Nat × List Value)} (hf : P.funcs[f]? = some fn) (hb : fn.body.isSome = true)
    (hcst : (gl.all fun p => Nat.ble (p.1 + 1) NG && p.2.all cstOk) = true)
    (H : callF P Sf X NG L n f [] (heapOf gl NG) isT = true) (w : World) (hsz : NG ≤ w.heap.size) (hg : ∀ p ∈ gl, ∀ (j : Nat) v, p.2[j]? = some v → w.cell? ⟨p.1, j, none⟩ = some v) :
    Calls P f #[] w fun e w' => e = .returned (.bool true) ∧ Below w.heap.size w w' := by
  let σ : Sg := fun g => if g < NG then some ⟨g, 0, 0, 0⟩ else none
  have hc : ∀ p ∈ gl, p.1 < NG ∧ ∀ v ∈ p.2, cstOk v = true := fun p hp => by
    have := List.all_eq_true.1 hcst p hp
    simp only [Bool.and_eq_true] at this
    exact ⟨Nat.le_of_ble_eq_true this.1, fun v hv => List.all_eq_true.1 this.2 v hv⟩
  have r : Rel σ (heapOf gl NG) w := by
    refine ⟨fun B hB => ?_, fun B c h => ?_, fun B x hx => ?_, fun B x B' x' c c' hx hm => ?_⟩
    · have hB : NG ≤ B := hB
      simp [σ]; omega
    · simp only [σ] at h
      split at h
      · simp only [Option.some.injEq] at h; subst h; simp only; omega
      · cases h
    · obtain ⟨p, p1, rfl, rfl⟩ := heapOf_get hx
      refine ⟨⟨p.1, 0, 0, 0⟩, by simp [σ, (hc p p1).1], fun j v hv => ⟨v, ?_, cstOk_vr ((hc p p1).2 v (List.mem_of_getElem? hv))⟩⟩
      simp only [Nat.zero_add]
      exact hg p p1 j v hv
    · obtain ⟨p, p1, _, rfl⟩ := heapOf_get hx
      cases hm
  have hglob : Glob σ NG := fun g hg => ⟨⟨g, 0, 0, 0⟩, by simp [σ, hg], rfl, rfl⟩
  have h3 : Calls P f #[] w (Post isT σ (heapOf gl NG) w) := by
    rcases callF_ok hgor hmix Sf hX NG L n f [] (heapOf gl NG) isT σ w [] H r hglob (LR.nil _) with ⟨_, _, _, h3⟩ | ⟨v', w', h1, _⟩
    · exact h3
    · have h2 := callFunc_run hgor hf hb (#[] : Array Value) w
      have h1' : (callFunc f (#[] : Array Value)).run P w = .ok (.value v') w' := h1
      rw [h2] at h1'; cases h1'
  refine Calls.mono h3 fun e w' hp => ?_
  obtain ⟨v, v', σ', h', rfl, k1, k2, k3, k4⟩ := hp
  have hno : ∀ k, ¬ Own σ (heapOf gl NG) k := fun k ⟨B, x, c, hx, hm, _⟩ => by
    obtain ⟨p, p1, _, rfl⟩ := heapOf_get hx
    cases hm
  refine ⟨?_, k4.kept.os, k4.kept.tape, k4.kept.output, k4.kept.size, fun k hk => k4.kept.block k hk (hno k)⟩
  unfold isT at k1
  split at k1
  · subst k1; rw [k2.bool_inv]
  · cases k1

theorem xok_nil : XOK P [] := fun p hp => by cases hp
theorem xok_cons {f : Nat} {k : XK} {X : List (Nat × XK)} {fn : Func} (hf : P.funcs[f]? = some fn) (hb : fn.body.isNone = true) (hn : Extern.findNext fn = none) (he : Extern.find fn = some (entryOf k)) (h : XOK P X) : XOK P ((f, k) :: X) := fun p hp => by
  simp only [List.mem_cons] at hp
  rcases hp with rfl | hp
  · exact ⟨fn, hf, hb, hn, he⟩
  · exact h p hp

end Go.Ev
