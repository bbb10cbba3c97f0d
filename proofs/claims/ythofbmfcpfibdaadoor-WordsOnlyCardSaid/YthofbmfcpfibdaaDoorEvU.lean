import Derived.Test.YthofbmfcpfibdaaDoorEvT
import Derived.HandedShaped
import Derived.Shelf.Vars
import Derived.Lib.LaidU8
import Derived.WalkKit
import Derived.OpenShut
namespace Go.Ev
open Go.RowKit
set_option linter.unusedSimpArgs false
set_option linter.unusedVariables false
variable {H : Type} {P : Program} {enc : TypeId × Value → H}

/-- behind a call that has only made memory: what the row asks, where it does not ask for more -/
theorem post_kept {f : Func} {s : ChangeSpec} {apart fresh handsOn : Bool} {W W' : World} {args : Array Value} {v : Value} {ds gs : List (DataW H)} {before pa pv : List MemPlace}
    (hW : DataW.Whole enc P f.params.toList s.vars apart W args.toList ds gs before)
    (hres : ∀ (b : Nat) (sp : Nat → Bool) (hd : Bool), DataW.TrodAll enc P W' b sp hd f.resultTypes.toList (v.resultList f.resultTypes.size) (s.fn H (ds ++ gs)).results [])
    (hargs : ∀ sp : Nat → Bool, (∀ p ∈ before, sp p.block = true) → DataW.TrodAll enc P W' 0 sp true f.params.toList args.toList (s.fn H (ds ++ gs)).args pa)
    (hvars : ∀ sp : Nat → Bool, (∀ p ∈ before, sp p.block = true) → DataW.TrodVars enc P W' sp s.vars (s.fn H (ds ++ gs)).vars pv)
    (hps : before = pa ++ pv) (hk : W.keptBut W' (· ∈ before)) : s.post enc P f apart fresh handsOn false W args v W' := by
  have hold : ∀ p ∈ before, (fun b => decide (b < W.heap.size)) p.block = true := fun p hp => by simpa using hW.lt p hp
  refine ⟨ds, gs, before, [], pa, pv, hW, hres _ _ _, hargs _ hold, hvars _ hold, World.keptBut_mono (fun p hp => ⟨hp, ?_⟩) hk, fun h => by cases h⟩
  rw [hps, List.mem_append] at hp
  exact Or.inr hp

/-- the masks, function by function -/
noncomputable def maskOf (l : List Nat) (f : Nat) : Nat := match nth l f with | some m => m | none => 0

theorem noGor_of (h : (P.funcs.all fun fn => !decide (fn.name = "runtime.NumGoroutine")) = true) : NoGor P := fun f fn hf he => by
  have := Array.all_eq_true_iff_forall_mem.1 h fn (Array.mem_of_getElem? hf)
  simp [he] at this

/-- a heap that holds the package variables' cells -/
noncomputable def heapOf (gl : List (Nat × List Value)) (NG : Nat) : Ev.H := ⟨gl.foldr (fun p t => t.set p.1 (.ro p.2)) .e, NG⟩

theorem heapOf_get {NG : Nat} : ∀ {gl : List (Nat × List Value)} {B : Nat} {x : AObj}, (heapOf gl NG).objs.get B = some x → ∃ p ∈ gl, p.1 = B ∧ x = .ro p.2
  | [], B, x, h => by
    have : (T.e : T AObj).get B = some x := h
    rw [T.get_e] at this; cases this
  | q :: r, B, x, h => by
    have h' : ((heapOf r NG).objs.set q.1 (.ro q.2)).get B = some x := h
    rw [T.get_set] at h'
    split at h'
    · rename_i e
      simp only [Option.some.injEq] at h'
      exact ⟨q, by simp, e, h'.symm⟩
    · obtain ⟨p, p1, p2⟩ := heapOf_get h'
      exact ⟨p, by simp [p1], p2⟩

/-- a law without parameters that reads package variables -/
theorem calls_true_laid (hgor : NoGor P) (hmix : P.follows .mixedOrders = true) {Sf : Nat → Nat} {X : List (Nat × XK)} (hX : XOK P X) {fn : Func} {L n f NG : Nat} {gl : List (Nat × List Value)} (hf : P.funcs[f]? = some fn) (hb : fn.body.isSome = true)
    (hcst : (gl.all fun p => Nat.ble (p.1 + 1) NG && p.2.all cstOk) = true)
    (H : callF P Sf X NG L n f [] (heapOf gl NG) isT = true) (w : World) (hsz : NG ≤ w.heap.size) (hg : ∀ p ∈ gl, ∀ (j : Nat) v, p.2[j]? = some v → w.cell? ⟨p.1, j, none⟩ = some v) :
    Calls P f #[] w fun e w' => e = .returned (.bool true) ∧ Below w.heap.size w w' := by
  let σ : Sg := fun g => if g < NG then some ⟨g, 0, 0, 0⟩ else none
  have hc : ∀ p ∈ gl, p.1 < NG ∧ ∀ v ∈ p.2, cstOk v = true := fun p hp => by
    have := List.all_eq_true.1 hcst p hp
    simp only [Bool.and_eq_true] at this
    exact ⟨Nat.le_of_ble_eq_true this.1, fun v hv => List.all_eq_true.1 this.2 v hv⟩
  have r : Rel σ (heapOf gl NG) w := by
    refine ⟨fun B hB => ?_, fun B c h => ?_, fun B x hx => ?_, fun B x B' x' c c' hx hm => ?_⟩
    · have hB : NG ≤ B := hB
      simp [σ]; omega
    · simp only [σ] at h
      split at h
      · simp only [Option.some.injEq] at h; subst h; simp only; omega
      · cases h
    · obtain ⟨p, p1, rfl, rfl⟩ := heapOf_get hx
      refine ⟨⟨p.1, 0, 0, 0⟩, by simp [σ, (hc p p1).1], fun j v hv => ⟨v, ?_, cstOk_vr ((hc p p1).2 v (List.mem_of_getElem? hv))⟩⟩
      simp only [Nat.zero_add]
      exact hg p p1 j v hv
    · obtain ⟨p, p1, _, rfl⟩ := heapOf_get hx
      cases hm
  have hglob : Glob σ NG := fun g hg => ⟨⟨g, 0, 0, 0⟩, by simp [σ, hg], rfl, rfl⟩
  have h3 : Calls P f #[] w (Post isT σ (heapOf gl NG) w) := by
    rcases callF_ok hgor hmix Sf hX NG L n f [] (heapOf gl NG) isT σ w [] H r hglob (LR.nil _) with ⟨_, _, _, h3⟩ | ⟨v', w', h1, _⟩
    · exact h3
    · have h2 := callFunc_run hgor hf hb (#[] : Array Value) w
      have h1' : (callFunc f (#[] : Array Value)).run P w = .ok (.value v') w' := h1
      rw [h2] at h1'; cases h1'
  refine Calls.mono h3 fun e w' hp => ?_
  obtain ⟨v, v', σ', h', rfl, k1, k2, k3, k4⟩ := hp
  have hno : ∀ k, ¬ Own σ (heapOf gl NG) k := fun k ⟨B, x, c, hx, hm, _⟩ => by
    obtain ⟨p, p1, _, rfl⟩ := heapOf_get hx
    cases hm
  refine ⟨?_, k4.kept.os, k4.kept.tape, k4.kept.output, k4.kept.size, fun k hk => k4.kept.block k hk (hno k)⟩
  unfold isT at k1
  split at k1
  · subst k1; rw [k2.bool_inv]
  · cases k1

theorem xok_nil : XOK P [] := fun p hp => by cases hp
theorem xok_any {f : Nat} {k : XK} {X : List (Nat × XK)} {fn : Func} {ent : Array Value → Sem Value} (hf : P.funcs[f]? = some fn) (hb : fn.body.isNone = true) (hn : Extern.findNext fn = none) (he : Extern.find fn = some ent) (hk : entryOK P k ent) (h : XOK P X) : XOK P ((f, k) :: X) := fun p hp => by
  simp only [List.mem_cons] at hp
  rcases hp with rfl | hp
  · exact ⟨fn, ent, hf, hb, hn, he, hk⟩
  · exact h p hp

theorem xok_cons {f : Nat} {k : XK} {X : List (Nat × XK)} {fn : Func} (hf : P.funcs[f]? = some fn) (hb : fn.body.isNone = true) (hn : Extern.findNext fn = none) (he : Extern.find fn = some (entryOf k)) (h : XOK P X) (hp : (match k with | .index _ => false | .noZero _ => false | _ => true) = true := by rfl) : XOK P ((f, k) :: X) :=
  xok_any hf hb hn he (by cases k <;> first | rfl | cases hp) h

theorem xok_index {f g : Nat} {X : List (Nat × XK)} {fn : Func} (hf : P.funcs[f]? = some fn) (hb : fn.body.isNone = true) (hn : Extern.findNext fn = none) (he : Extern.find fn = some Extern.BytealgIndex.index) (hg : P.globals.findIdx? (·.name == "internal/bytealg.MaxLen") = some g) (h : XOK P X) : XOK P ((f, .index g) :: X) :=
  xok_any hf hb hn he ⟨rfl, hg⟩ h

theorem xok_noZero {f : Nat} {e t : TypeId} {ps : Array TypeId} {X : List (Nat × XK)} {fn : Func} (hf : P.funcs[f]? = some fn) (hb : fn.body.isNone = true) (hn : Extern.findNext fn = none) (he : Extern.find fn = some (Extern.BytealgMakeNoZero.makeNoZero ps #[t])) (hu : P.underlying t = some (.slice e)) (h1 : P.cellsOf e = 1) (h : XOK P X) : XOK P ((f, .noZero e) :: X) :=
  xok_any hf hb hn he ⟨ps, t, rfl, hu, h1⟩ h

/-- a listed table of numbers: its cells -/
theorem tab_cells {P : Program} {W : World} {laid : List (String × DataW Unit)} {name : String} {k : IntKind} {zs : List Int} {g : Nat} {t e : TypeId} {n : Nat} (h : laidMet P laid W) (hm : (name, Lib.tabData k zs) ∈ laid)
    (hg : P.globalNamed name = some g) (hty : (P.globals[g]?).map (·.type) = some t) (ht : P.underlying t = some (.array n e)) (he : P.underlying e = some (.int k)) (hce : P.cellsOf e = 1) (hct : P.cellsOf t = n) :
    ∀ j v, (zs.map (Value.int k))[j]? = some v → W.cell? ⟨g, j, none⟩ = some v := fun j v hv => by
  obtain ⟨g', t', cs, fuel, p, hg', ht', hvar, hd⟩ := Lib.laidMet.reads h hm
  obtain rfl := Option.some.inj (hg.symm.trans hg')
  obtain rfl := Option.some.inj (hty.symm.trans ht')
  have hcs := Lib.cells_of_tab ht he hce hct hd
  rw [World.var?_cell hg hvar j]
  have : cs.toList[j]? = some v := by rw [hcs]; exact hv
  simpa using this

/-! ### the wrap that keeps a condition and the world's shape -/
section
variable {H : Type} {enc : TypeId × Value → H}
theorem returnsInHanded_and_shaped {a : Assume} {C : Checked} {os : Os} {f : FuncId} {fn : Func} {s : ChangeSpec} {conds : List PathCond} {apart fresh handsOn again : Bool} {X : World → Array Value → Prop}
    (hX : ∀ (w w' : World) (args : Array Value), w.heap = w'.heap → X w args → X w' args)
    (own : ownKnob C.prog.godebug = none) (started : os.Started) (noInit : C.prog.inits.idxOf? f = none) (hfn : C.prog.funcs[f]? = some fn)
    (witness : ∃ (w : World) (tape : Tape) (i : Input), w.os = os ∧ (w.forCall tape i).Shaped C.prog ∧ i.vars = [] ∧ Input.okWide C.prog (w.forCall tape i) .any w.heap.size f i ∧
      ((s.pre enc C.prog fn conds apart (w.forCall tape i).memory i.args ∧ X (w.forCall tape i).memory i.args) ∧ sizedMet enc C.prog fn (OpenSpec.ofChange s) apart (w.forCall tape i).memory i.args) ∧ a.holds C.prog (lone (Frame.enter C.prog f i.args .normal) [] (w.forCall tape i)))
    (contract : ∀ (W : World) (base : Nat) (args : Array Value) (ds gs : List (DataW H)) (before : List MemPlace),
      (∀ (j : Nat) t v, fn.params[j]? = some t → args[j]? = some v → Value.okWide C.prog W .any base t v) →
      DataW.Whole enc C.prog fn.params.toList s.vars apart W args.toList ds gs before → X W args → W.ShapedOpen C.prog →
      Calls C.prog f args W fun e W' => ∃ v, e = .returned v ∧ s.post enc C.prog fn apart fresh handsOn again W args v W') :
    ReturnsInHanded a C os f .any (fun w args => (s.pre enc C.prog fn conds apart w args ∧ X w args) ∧ sizedMet enc C.prog fn (OpenSpec.ofChange s) apart w args) (s.post enc C.prog fn apart fresh handsOn again) := by
  refine returnsInHanded_of_calls own started noInit witness ?_
  intro w tape i _ hsh _ hok hpre hholds
  obtain ⟨_, _, _, fn', hfn', _, _, _, _, hval⟩ := hok
  have e : fn' = fn := Option.some.inj (hfn'.symm.trans hfn)
  subst e
  obtain ⟨⟨⟨ds, gs, before, hw, hc⟩, hx⟩, hz⟩ := hpre
  have hw' := DataW.Whole.of_heap (w' := w.forCall tape i) (by rfl) hw
  refine (contract (w.forCall tape i) w.heap.size i.args ds gs before hval hw' (hX _ _ _ (by rfl) hx) hsh).mono fun e W' ⟨v, he, hp⟩ => ?_
  subst he
  exact ChangeSpec.post_blind hp
end

end Go.Ev
