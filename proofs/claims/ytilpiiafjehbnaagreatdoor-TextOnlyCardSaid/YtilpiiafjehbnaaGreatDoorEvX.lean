import Derived.Test.YtilpiiafjehbnaaGreatDoorEvW
import Derived.ChangeStays
import Derived.ChangeOld
import Derived.ChangeArms
namespace Go.Ev
open Go.RowKit
set_option linter.unusedSimpArgs false
set_option linter.unusedVariables false
section
variable {H : Type} {P : Program} {enc : TypeId × Value → H}
def fieldsOf (P : Program) (t : TypeId) : Array Field := match P.underlying t with | some (.struct fs) => fs | _ => #[]
def sizedB (P : Program) : Bool := (List.range P.types.size).all fun t => match P.underlying t with | some (.slice e) => Nat.ble 1 (P.cellsOf e) | _ => true
theorem sized_of (h : sizedB P = true) {t e : TypeId} (ht : t < P.types.size) (hu : P.underlying t = some (.slice e)) : 0 < P.cellsOf e := by
 have := List.all_eq_true.1 h t (List.mem_range.2 ht)
 simp only [hu] at this
 exact Nat.le_of_ble_eq_true this
theorem below_same {W W' : World} (hb : Below W.heap.size W W') {p : MemPlace} (hp : p.block < W.heap.size) : W.sameAt W' p := by
 cases p with
 | cell b off =>
   show W'.cell? ⟨b, off, none⟩ = W.cell? ⟨b, off, none⟩
   unfold World.cell?
   rw [hb.block b hp]
 | map b => exact hb.block b hp
theorem args_stay {W W' : World} {sp : Nat → Bool} (hl : laidOutB P = true) (hm : mapsRowed P = true) (hz : sizedB P = true) (hb : Below W.heap.size W W') :
   ∀ {ts : List TypeId} {vs : List Value} {ds : List (DataW H)} {p : List MemPlace}, (∀ t ∈ ts, t < P.types.size) → DataW.TrodAll enc P W 0 (fun _ => true) true ts vs ds p → (∀ q ∈ p, sp q.block = true) → DataW.TrodAll enc P W' 0 sp true ts vs ds p
 | [], [], [], p, _, h, _ => h
 | t :: ts, v :: vs, d :: ds, p, ht, h, hs => by
   obtain ⟨p1, p2, ⟨n, h1⟩, h2, rfl⟩ := h
   refine ⟨p1, p2, ⟨n, ?_⟩, args_stay hl hm hz hb (fun t h => ht t (by simp [h])) h2 (fun q hq => hs q (List.mem_append_right _ hq)), rfl⟩
   exact DataW.trod_stays (T := (· < P.types.size)) (kids_rows hl hm) (fun h1 h2 => sized_of hz h1 h2) (fun h => by cases h) (ht t (by simp)) h1
     (fun q hq => below_same hb (DataW.trod_lt n t _ _ h1 q hq)) (fun q hq => hs q (List.mem_append_left _ hq))
 | [], _ :: _, _, _, _, h, _ => by cases h
 | [], [], _ :: _, _, _, h, _ => by cases h
 | _ :: _, [], _, _, _, h, _ => by cases h
 | _ :: _, _ :: _, [], _, _, h, _ => by cases h
end
section
variable {P : Program}
theorem calls_of_sp (hgor : NoGor P) (hmix : P.follows .mixedOrders = true) {Sf : Nat → Nat} {X : List (Nat × XK)} (hX : XOK P X) {fn : Func} {NG L n f : Nat} (hf : P.funcs[f]? = some fn) (hb : fn.body.isSome = true)
   {args args' : List Value} {h : Ev.H} {σ : Sg} {w : World} (H : Sp (callF P Sf X NG L n) f args h fun v _ => v = .bool true) (r : Rel σ h w) (hg : Glob σ NG) (hl : LR σ args args') (hro : ∀ B x, h.objs.get B = some x → x.mut = false) :
   Calls P f args'.toArray w fun e w' => e = .returned (.bool true) ∧ Below w.heap.size w w' := by
 have hH : callF P Sf X NG L n f args h isT = true := H isT fun v h' hv => by subst hv; rfl
 have h3 : Calls P f args'.toArray w (Post isT σ h w) := by
   rcases callF_ok hgor hmix Sf hX NG L n f args h isT σ w args' hH r hg hl with ⟨_, _, _, h3⟩ | ⟨v', w', h1, _⟩
   · exact h3
   · have h2 := callFunc_run hgor hf hb args'.toArray w
     rw [h2] at h1; cases h1
 refine Calls.mono h3 fun e w' hp => ?_
 obtain ⟨v, v', σ', h', rfl, k1, k2, k3, k4⟩ := hp
 have hno : ∀ k, ¬ Own σ h k := fun k ⟨B, x, c, hx, hm, _⟩ => by
   have := hro B x hx
   rw [hm] at this; cases this
 refine ⟨?_, k4.kept.os, k4.kept.tape, k4.kept.output, k4.kept.size, fun k hk => k4.kept.block k hk (hno k)⟩
 unfold isT at k1
 split at k1
 · subst k1; rw [k2.bool_inv]
 · cases k1
end
end Go.Ev
