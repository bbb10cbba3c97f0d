import Derived.Test.YtpoedopdcpejmaaEvT
import Derived.WalkKit
import Derived.OpenShut
namespace Go.Ev
open Go.RowKit
set_option linter.unusedSimpArgs false
set_option linter.unusedVariables false
variable {H : Type} {P : Program} {enc : TypeId × Value → H}

/-- behind a call that has only made memory: what the row asks, where it does not ask for more -/
theorem post_kept {f : Func} {s : ChangeSpec} {apart fresh handsOn : Bool} {W W' : World} {args : Array Value} {v : Value} {ds gs : List (DataW H)} {before pa pv : List MemPlace}
    (hW : DataW.Whole enc P f.params.toList s.vars apart W args.toList ds gs before)
    (hres : ∀ (b : Nat) (sp : Nat → Bool) (hd : Bool), DataW.TrodAll enc P W' b sp hd f.resultTypes.toList (v.resultList f.resultTypes.size) (s.fn H (ds ++ gs)).results [])
    (hargs : ∀ sp : Nat → Bool, (∀ p ∈ before, sp p.block = true) → DataW.TrodAll enc P W' 0 sp true f.params.toList args.toList (s.fn H (ds ++ gs)).args pa)
    (hvars : ∀ sp : Nat → Bool, (∀ p ∈ before, sp p.block = true) → DataW.TrodVars enc P W' sp s.vars (s.fn H (ds ++ gs)).vars pv)
    (hps : before = pa ++ pv) (hk : W.keptBut W' (· ∈ before)) : s.post enc P f apart fresh handsOn false W args v W' := by
  have hold : ∀ p ∈ before, (fun b => decide (b < W.heap.size)) p.block = true := fun p hp => by simpa using hW.lt p hp
  refine ⟨ds, gs, before, [], pa, pv, hW, hres _ _ _, hargs _ hold, hvars _ hold, World.keptBut_mono (fun p hp => ⟨hp, ?_⟩) hk, fun h => by cases h⟩
  rw [hps, List.mem_append] at hp
  exact Or.inr hp

/-- the masks, function by function -/
noncomputable def maskOf (l : List Nat) (f : Nat) : Nat := match nth l f with | some m => m | none => 0

theorem noGor_of (h : (P.funcs.all fun fn => !decide (fn.name = "runtime.NumGoroutine")) = true) : NoGor P := fun f fn hf he => by
  have := Array.all_eq_true_iff_forall_mem.1 h fn (Array.mem_of_getElem? hf)
  simp [he] at this

theorem xok_nil : XOK P [] := fun p hp => by cases hp
theorem xok_cons {f : Nat} {k : XK} {X : List (Nat × XK)} {fn : Func} (hf : P.funcs[f]? = some fn) (hb : fn.body.isNone = true) (hn : Extern.findNext fn = none) (he : Extern.find fn = some (entryOf k)) (h : XOK P X) : XOK P ((f, k) :: X) := fun p hp => by
  simp only [List.mem_cons] at hp
  rcases hp with rfl | hp
  · exact ⟨fn, hf, hb, hn, he⟩
  · exact h p hp

end Go.Ev
