import Derived.Test.YtilpiiafjehbnaaGreatDoorEvE
import Derived.Laws.Build
import Derived.Laws.Tables
namespace Go.Ev
open Go.RowKit
set_option linter.unusedSimpArgs false
set_option linter.unusedVariables false
variable {P : Program} {σ : Sg}
theorem setAll_size (off : Nat) : ∀ (l : List Value) (k : Nat) (A : Array Value), ((l.zipIdx k).foldl (fun cs (x : Value × Nat) => cs.setIfInBounds (off + x.2) x.1) A).size = A.size
 | [], k, A => rfl
 | v :: r, k, A => by rw [List.zipIdx_cons, List.foldl_cons, setAll_size off r (k + 1)]; simp
theorem setAll_get (off : Nat) : ∀ (l : List Value) (k : Nat) (A : Array Value), off + k + l.length ≤ A.size → ∀ j : Nat,
   ((l.zipIdx k).foldl (fun cs (x : Value × Nat) => cs.setIfInBounds (off + x.2) x.1) A)[j]? = if off + k ≤ j ∧ j < off + k + l.length then l[j - (off + k)]? else A[j]?
 | [], k, A, h, j => by simp; omega
 | v :: r, k, A, h, j => by
   simp only [List.length_cons] at h
   rw [List.zipIdx_cons, List.foldl_cons, setAll_get off r (k + 1) _ (by simp; omega) j]
   by_cases h1 : off + (k + 1) ≤ j ∧ j < off + (k + 1) + r.length
   · rw [if_pos h1, if_pos ⟨by omega, by simp; omega⟩]
     have : j - (off + k) = (j - (off + (k + 1))) + 1 := by omega
     rw [this, List.getElem?_cons_succ]
   · rw [if_neg h1, Array.getElem?_setIfInBounds]
     by_cases h2 : off + k = j
     · subst h2
       rw [if_pos rfl, if_pos (by omega), if_pos ⟨by omega, by simp⟩]
       simp
     · rw [if_neg h2, if_neg (by simp; omega)]
theorem fill_sound {place : Nat → Option (Nat × Nat)} : ∀ {ps ps' : List (Nat × Value)} {z l : List Value} {A : Array Value}, fill z place ps = some l → LR σ z A.toList →
   ps.length = ps'.length → (∀ (i : Nat) x y, ps[i]? = some x → ps'[i]? = some y → x.1 = y.1 ∧ VR σ x.2 y.2) → ∃ A', Instr.fill place A ps' = some A' ∧ LR σ l A'.toList
 | [], ps', z, l, A, h, hz, hlen, hps => by
   have : ps' = [] := by cases ps' with | nil => rfl | cons => simp at hlen
   subst this
   simp only [fill, Option.some.injEq] at h; subst h
   exact ⟨A, rfl, hz⟩
 | (i, v) :: r, ps', z, l, A, h, hz, hlen, hps => by
   cases ps' with
   | nil => simp at hlen
   | cons y r' =>
     obtain ⟨i', v'⟩ := y
     obtain ⟨e1, e2⟩ := hps 0 _ _ rfl rfl
     simp only at e1 e2
     subst e1
     simp only [fill] at h
     split at h
     · rename_i off sz hp
       split at h
       · rename_i hb
         have hsz := Nat.eq_of_beq_eq_true hb
         split at h
         · rename_i z' hz'
           obtain ⟨hle, hl', hget⟩ := putAt_some hz'
           have hc := e2.cells
           have hcs : v'.cells.size = sz := by rw [← hsz]; simpa using hc.1.symm
           have hzA : z.length = A.size := by simpa using hz.1
           have hle' : off + v'.cells.size ≤ A.size := by rw [hcs, ← hzA, ← hsz]; simpa using hle
           refine (fill_sound (A := v'.cells.zipIdx.foldl (fun cs (x : Value × Nat) => cs.setIfInBounds (off + x.2) x.1) A) h ?_ (by simpa using hlen) (fun j x y hx hy => hps (j + 1) x y (by simpa using hx) (by simpa using hy))).imp ?_
           · have hfold : v'.cells.zipIdx.foldl (fun cs (x : Value × Nat) => cs.setIfInBounds (off + x.2) x.1) A = (v'.cells.toList.zipIdx 0).foldl (fun cs (x : Value × Nat) => cs.setIfInBounds (off + x.2) x.1) A := by
               rw [← Array.foldl_toList, Array.toList_zipIdx]
             rw [hfold]
             refine ⟨by rw [hl', hzA]; simp [setAll_size], fun j x y hx hy => ?_⟩
             rw [hget] at hx
             rw [Array.getElem?_toList, setAll_get off _ 0 A (by simpa using hle') j] at hy
             have hn : v.cells.toList.length = v'.cells.toList.length := hc.1
             simp only [Nat.add_zero] at hy
             by_cases hj : off ≤ j ∧ j < off + v.cells.toList.length
             · rw [if_pos hj] at hx
               rw [if_pos (by rw [← hn]; exact hj)] at hy
               exact hc.2 _ x y hx hy
             · rw [if_neg hj] at hx
               rw [if_neg (by rw [← hn]; exact hj)] at hy
               exact hz.2 j x y hx (by simpa using hy)
           · rintro A' ⟨h1, h2⟩
             refine ⟨?_, h2⟩
             simp only [Instr.fill, hp]
             rw [if_neg (by simp [hcs]; omega)]
             exact h1
         · cases h
       · cases h
     · cases h
theorem zero_some {t : TypeId} {z : List Value} (h : zero? P t = some z) : ∃ zv, z = zv.cells.toList ∧ LR σ z z ∧ (∀ w, (zeroValue t).run P w = .ok zv w) ∧ ∃ i, P.info? t = some i ∧ i.zero = some zv := by
 unfold zero? at h
 split at h
 · rename_i i hi
   split at h
   · rename_i zv hz
     split at h
     · rename_i hall
       simp only [Option.some.injEq] at h; subst h
       refine ⟨zv, rfl, ⟨rfl, fun j x y hx hy => ?_⟩, fun w => by simp [zeroValue, typeInfo, hi, hz], i, hi, hz⟩
       rw [hx] at hy; cases hy
       exact cstOk_vr (List.all_eq_true.1 hall x (List.mem_of_getElem? hx))
     · cases h
   · cases h
 · cases h
theorem FR.parts {sc : Sc} {kn : Operand → Bool} {env : List Value} {tm : T Value} {a : Act} (hF : FR σ sc kn env tm a) : ∀ {l : List (Nat × Operand)}, l.all (fun p => kn p.2) = true →
   ((evalP sc l).f env tm).length = (l.map fun (p : Nat × Operand) => (p.1, a.eval p.2)).length ∧
   ∀ (i : Nat) x y, ((evalP sc l).f env tm)[i]? = some x → (l.map fun (p : Nat × Operand) => (p.1, a.eval p.2))[i]? = some y → x.1 = y.1 ∧ VR σ x.2 y.2
 | [], _ => ⟨rfl, fun i x y hx => by simp [evalP] at hx⟩
 | (i, x) :: r, h => by
   simp only [List.all_cons, Bool.and_eq_true] at h
   obtain ⟨h1, h2⟩ := FR.parts hF h.2
   refine ⟨by simp only [evalP, List.length_cons, h1, List.map_cons], fun j u v hu hv => ?_⟩
   cases j with
   | zero => simp only [evalP, List.getElem?_cons_zero, Option.some.injEq, List.map_cons] at hu hv; subst hu; subst hv; exact ⟨rfl, hF x h.1⟩
   | succ j => simp only [evalP, List.getElem?_cons_succ, List.map_cons] at hu hv; exact h2 j u v hu hv
theorem run_places' {fs : List Field} (h : fs.all (fun f => (isAgg? P f.type).isSome) = true) (w : World) :
   (fs.mapM fun f => (do pure (f.offset, ← sizeOf f.type) : Sem (Nat × Nat))).run P w = .ok (fs.map fun f => (f.offset, P.cellsOf f.type)) w := by
 induction fs with
 | nil => rfl
 | cons f r ih =>
   simp only [List.all_cons, Bool.and_eq_true] at h
   obtain ⟨b, hb⟩ := Option.isSome_iff_exists.1 h.1
   rw [List.mapM_cons]
   simp only [Sem.run_bind, run_sizeOf' hb, Result.andThen_ok, Sem.run_pure, ih h.2, List.map_cons]
theorem build_sound {t : TypeId} {z l : List Value} {fs : Array Field} {ps ps' : List (Nat × Value)} (hz : zero? P t = some z) (hu : P.underlying t = some (.struct fs)) (hfs : fs.all (fun f => (isAgg? P f.type).isSome) = true)
   (hlen : ps.length = ps'.length) (hps : ∀ (i : Nat) x y, ps[i]? = some x → ps'[i]? = some y → x.1 = y.1 ∧ VR σ x.2 y.2) (h : fill z (structPlace P fs) ps = some l) :
   Gives P σ (.agg l.toArray) (Instr.build t ps'.toArray) := by
 obtain ⟨zv, rfl, hzz, hzr, _⟩ := zero_some (σ := σ) hz
 obtain ⟨A', hA, hl⟩ := fill_sound h hzz hlen hps
 refine ⟨.agg A', by simpa using VR.agg_of hl, fun w => ?_⟩
 have hpl : ∀ i, (fs.map fun f => (f.offset, P.cellsOf f.type))[i]? = structPlace P fs i := fun i => by
   simp only [Array.getElem?_map, structPlace]; cases fs[i]? <;> rfl
 have hall : fs.toList.all (fun f => (isAgg? P f.type).isSome) = true := by simpa using hfs
 have hpr := run_places' (P := P) hall w
 unfold Instr.build
 simp only [Sem.run_bind, hzr, Result.andThen_ok, run_underlying hu, Array.mapM_eq_mapM_toList, Sem.run_map]
 have hpr' : Sem.run P (fs.toList.mapM fun f => do let __do_lift ← sizeOf f.type; pure (f.offset, __do_lift)) w = .ok (fs.toList.map fun f => (f.offset, P.cellsOf f.type)) w := hpr
 simp only [hpr', Result.andThen_ok]
 have hAt : (fun i => (fs.toList.map fun f => (f.offset, P.cellsOf f.type)).toArray[i]?) = structPlace P fs := by
   funext i; rw [← hpl i]; simp
 rw [hAt, hA]
 rfl
theorem buildA_sound {t e : TypeId} {n : Nat} {b : Bool} {z l : List Value} {ps ps' : List (Nat × Value)} (hz : zero? P t = some z) (hu : P.underlying t = some (.array n e)) (he : isAgg? P e = some b)
   (hlen : ps.length = ps'.length) (hps : ∀ (i : Nat) x y, ps[i]? = some x → ps'[i]? = some y → x.1 = y.1 ∧ VR σ x.2 y.2) (h : fill z (fun i => some (i * P.cellsOf e, P.cellsOf e)) ps = some l) :
   Gives P σ (.agg l.toArray) (Instr.build t ps'.toArray) := by
 obtain ⟨zv, rfl, hzz, hzr, _⟩ := zero_some (σ := σ) hz
 obtain ⟨A', hA, hl⟩ := fill_sound h hzz hlen hps
 refine ⟨.agg A', by simpa using VR.agg_of hl, fun w => ?_⟩
 unfold Instr.build
 simp only [Sem.run_bind, hzr, Result.andThen_ok, run_underlying hu, run_sizeOf' he, hA, Sem.run_pure]
end Go.Ev
