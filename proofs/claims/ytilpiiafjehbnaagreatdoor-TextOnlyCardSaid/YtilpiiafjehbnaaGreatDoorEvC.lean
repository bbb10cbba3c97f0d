import Derived.Test.YtilpiiafjehbnaaGreatDoorEvB
import Derived.ChangeKeysEq
import Derived.Laws.StructEq
import Derived.Lib.Strings
namespace Go.Ev
open Go.RowKit
set_option linter.unusedSimpArgs false
set_option linter.unusedVariables false
variable {P : Program} {σ : Sg}
theorem agg_under {t : TypeId} {b : Bool} (h : isAgg? P t = some b) : ∃ d, P.underlying t = some d ∧ (match d with | .struct _ | .array _ _ => true | _ => false) = b := by
 unfold isAgg? at h
 cases hu : P.underlying t with
 | none => rw [hu] at h; cases h
 | some d => refine ⟨d, rfl, ?_⟩; rw [hu] at h; cases d <;> simp_all
theorem run_isAgg' {t : TypeId} {b : Bool} (h : isAgg? P t = some b) (w : World) : (isAgg t).run P w = .ok b w := by
 obtain ⟨d, hd, hb⟩ := agg_under h
 unfold isAgg
 rw [Sem.run_bind, run_underlying hd w]
 cases d <;> simp_all
theorem run_sizeOf' {t : TypeId} {b : Bool} (h : isAgg? P t = some b) (w : World) : (sizeOf t).run P w = .ok (P.cellsOf t) w := by
 obtain ⟨d, hd, _⟩ := agg_under h
 obtain ⟨i, hi⟩ := info_of_underlying hd
 exact run_sizeOf w hi
theorem kEq_eq {a b : IntKind} (h : kEq a b = true) : a = b := by cases a <;> cases b <;> simp_all [kEq]
theorem iEq_eq (a b : Int) : iEq a b = (a == b) := by
 cases a <;> cases b <;> simp only [iEq]
 · rename_i m n; rw [Bool.eq_iff_iff]; simp [Nat.beq_eq]; omega
 · rename_i m n; symm; rw [beq_eq_false_iff_ne]; intro h; cases h
 · rename_i m n; symm; rw [beq_eq_false_iff_ne]; intro h; cases h
 · rename_i m n; rw [Bool.eq_iff_iff]; simp [Nat.beq_eq]
theorem iLt_eq (a b : Int) : iLt a b = decide (a < b) := by
 cases a <;> cases b <;> simp only [iLt] <;> rw [Bool.eq_iff_iff] <;> simp [Nat.ble_eq] <;> omega
theorem leB_eq : ∀ (x y : List UInt8), leB x y = (x == y)
 | [], [] => rfl
 | [], _ :: _ => rfl
 | _ :: _, [] => rfl
 | a :: x, b :: y => by
   simp only [leB]
   cases h : Nat.beq a.toNat b.toNat with
   | true => have : a = b := UInt8.toNat_inj.1 (Nat.eq_of_beq_eq_true h)
             subst this; simp [leB_eq x y]
   | false => have : a ≠ b := fun e => Nat.ne_of_beq_eq_false h (by rw [e])
              simp [this]
theorem ltB_eq : ∀ (x y : List UInt8), ltB x y = Op.bytesLess x y
 | [], [] => rfl
 | [], _ :: _ => rfl
 | _ :: _, [] => rfl
 | a :: x, b :: y => by
   simp only [ltB, Op.bytesLess]
   cases h : Nat.beq a.toNat b.toNat with
   | true => have : a = b := UInt8.toNat_inj.1 (Nat.eq_of_beq_eq_true h)
             subst this; simp [ltB_eq x y]
   | false =>
     have hne : a ≠ b := fun e => Nat.ne_of_beq_eq_false h (by rw [e])
     have : (a == b) = false := by simp [hne]
     simp only [this, Bool.false_and, Bool.or_false]
     rw [Bool.eq_iff_iff, Nat.ble_eq]
     simp [UInt8.lt_iff_toNat_lt]; omega
theorem bEq_eq (a b : Bool) : bEq a b = (a == b) := by cases a <;> cases b <;> rfl
theorem asNat_some {v : Value} {n : Nat} (h : asNat v = some n) : ∃ k, v = .int k (n : Int) := by
 unfold asNat at h
 split at h
 · simp at h; subst h; exact ⟨_, rfl⟩
 · cases h
theorem VR.int_inv {k : IntKind} {n : Int} {v' : Value} (h : VR σ (.int k n) v') : v' = .int k n := by cases h; rfl
theorem VR.bool_inv {b : Bool} {v' : Value} (h : VR σ (.bool b) v') : v' = .bool b := by cases h; rfl
theorem VR.string_inv {s : ByteArray} {v' : Value} (h : VR σ (.string s) v') : v' = .string s := by cases h; rfl
def FR (σ : Sg) (sc : Sc) (kn : Operand → Bool) (env : List Value) (tm : T Value) (a : Act) : Prop := ∀ x, kn x = true → VR σ (eval sc x env tm) (a.eval x)
theorem cstOk_vr {v : Value} (h : cstOk v = true) : VR σ v v := by
 cases v with
 | bool => exact .bool _
 | int => exact .int _ _
 | float => exact .float _ _
 | string => exact .string _
 | pointer p => cases p with | none => exact .ptrNil | some => simp [cstOk] at h
 | slice p n c => cases p with | none => exact .slNil _ _ | some => simp [cstOk] at h
 | map p => cases p with | none => exact .mapNil | some => simp [cstOk] at h
 | nilFunc => exact .nilFunc
 | nilIface => exact .nilIface
 | agg a =>
   refine .agg _ _ rfl fun i x y hx hy => ?_
   rw [hx] at hy; cases hy
   have := Array.all_eq_true_iff_forall_mem.1 h x (Array.mem_of_getElem? hx)
   cases x with
   | bool => exact .bool _
   | int => exact .int _ _
   | float => exact .float _ _
   | string => exact .string _
   | pointer p => cases p with | none => exact .ptrNil | some => simp at this
   | slice p n c => cases p with | none => exact .slNil _ _ | some => simp at this
   | map p => cases p with | none => exact .mapNil | some => simp at this
   | nilFunc => exact .nilFunc
   | nilIface => exact .nilIface
   | _ => simp at this
 | tuple a =>
   have : a = #[] := by simpa [cstOk] using h
   subst this; exact VR.undef σ
 | _ => simp [cstOk] at h
theorem FR.list {sc : Sc} {kn : Operand → Bool} {env : List Value} {tm : T Value} {a : Act} (hF : FR σ sc kn env tm a) : ∀ {l : List Operand}, l.all (kn) = true → LR σ ((evalL sc l).f env tm) (l.map a.eval)
 | [], _ => LR.nil _
 | x :: r, h => by
   simp only [List.all_cons, Bool.and_eq_true] at h
   exact LR.cons (hF x h.1) (FR.list hF h.2)
def OR' (σ : Sg) : Option Value → Option Value → Prop
 | none, none => True
 | some x, some y => VR σ x y
 | _, _ => False
theorem FR.opt {sc : Sc} {kn : Operand → Bool} {env : List Value} {tm : T Value} {a : Act} (hF : FR σ sc kn env tm a) {x : Option Operand} (h : ∀ y, x = some y → kn y = true) : OR' σ ((evalO sc x).f env tm) (x.map a.eval) := by
 cases x with
 | none => trivial
 | some x => exact hF x (h x rfl)
theorem run_sliceBound_ok {v : Value} {n y : Nat} (k : IntKind) (hv : v = .int k (n : Int)) (hy : n ≤ y) (code : BoundsCode) (w : World) : (Instr.sliceBound v y code).run P w = .ok n w := by
 subst hv
 simp [Instr.sliceBound, asIntOf]
 omega
theorem bnd_some {x : Option Value} {x' : Option Value} {d y n : Nat} (h : bnd x d y = some n) (hx : OR' σ x x') :
   (x = none ∧ x' = none ∧ n = d) ∨ ∃ v k, x = some v ∧ x' = some v ∧ v = .int k (n : Int) ∧ n ≤ y := by
 cases x with
 | none => cases x' with
   | none => left; simp [bnd] at h; exact ⟨rfl, rfl, h.symm⟩
   | some => exact hx.elim
 | some v => cases x' with
   | none => exact hx.elim
   | some v' =>
     right
     simp only [bnd] at h
     split at h
     · rename_i m hm
       obtain ⟨k, hk⟩ := asNat_some hm
       subst hk
       have := VR.int_inv hx
       split at h
       · rename_i hb; cases h; subst this; exact ⟨_, k, rfl, rfl, rfl, Nat.le_of_ble_eq_true hb⟩
       · cases h
     · cases h
theorem bnds_some {lo hi mx lo' hi' mx' : Option Value} {len cap l h m : Nat} (hb : bnds lo hi mx len cap = some (l, h, m)) (h1 : OR' σ lo lo') (h2 : OR' σ hi hi') (h3 : OR' σ mx mx')
   (isS : Bool) (w : World) : (Instr.sliceBounds isS len cap lo' hi' mx').run P w = .ok (l, h, m) w ∧ l ≤ h ∧ (m = cap ∨ m ≤ cap) ∧ (hi = none → h = len) ∧ (h = len ∨ h ≤ m) := by
 unfold bnds at hb
 split at hb
 · cases hb
 rename_i hc
 split at hb
 · rename_i m' hm'
   split at hb
   · rename_i h' hh'
     split at hb
     · rename_i l' hl'
       simp only [Option.some.injEq, Prod.mk.injEq] at hb
       obtain ⟨rfl, rfl, rfl⟩ := hb
       have e3 := bnd_some hm' h3
       have e2 := bnd_some hh' h2
       have e1 := bnd_some hl' h1
       rcases e3 with ⟨rfl, rfl, rfl⟩ | ⟨vm, km, rfl, rfl, rfl, hym⟩ <;>
       rcases e2 with ⟨rfl, rfl, rfl⟩ | ⟨vh, kh, rfl, rfl, rfl, hyh⟩ <;>
       rcases e1 with ⟨rfl, rfl, rfl⟩ | ⟨vl, kl, rfl, rfl, rfl, hyl⟩ <;>
       first
         | (simp at hc; done)
         | (refine ⟨?_, by omega, by omega, by simp, by omega⟩
            simp only [Instr.sliceBounds, Sem.run_bind, Sem.run_pure, Result.andThen_ok, Option.isSome_some, Option.isSome_none, if_true, if_false, Bool.false_eq_true]
            simp [run_sliceBound_ok (P := P) _ rfl hym, run_sliceBound_ok (P := P) _ rfl hyh, run_sliceBound_ok (P := P) _ rfl hyl]
            done)
         | (refine ⟨?_, by omega, by omega, by simp, by omega⟩
            simp only [Instr.sliceBounds, Sem.run_bind, Sem.run_pure, Result.andThen_ok, Option.isSome_some, Option.isSome_none, if_true, if_false, Bool.false_eq_true]
            simp [run_sliceBound_ok (P := P) _ rfl hym, run_sliceBound_ok (P := P) _ rfl hyh]
            done)
         | (refine ⟨?_, by omega, by omega, by simp, by omega⟩
            simp only [Instr.sliceBounds, Sem.run_bind, Sem.run_pure, Result.andThen_ok, Option.isSome_some, Option.isSome_none, if_true, if_false, Bool.false_eq_true]
            simp [run_sliceBound_ok (P := P) _ rfl hyh, run_sliceBound_ok (P := P) _ rfl hyl]
            done)
         | (refine ⟨?_, by omega, by omega, by simp, by omega⟩
            simp only [Instr.sliceBounds, Sem.run_bind, Sem.run_pure, Result.andThen_ok, Option.isSome_some, Option.isSome_none, if_true, if_false, Bool.false_eq_true]
            simp [run_sliceBound_ok (P := P) _ rfl hyh]
            done)
         | (refine ⟨?_, by omega, by omega, by simp, by omega⟩
            simp only [Instr.sliceBounds, Sem.run_bind, Sem.run_pure, Result.andThen_ok, Option.isSome_some, Option.isSome_none, if_true, if_false, Bool.false_eq_true]
            simp [run_sliceBound_ok (P := P) _ rfl hyl]
            done)
         | (refine ⟨?_, by omega, by omega, by simp, by omega⟩
            simp [Instr.sliceBounds])
     · cases hb
   · cases hb
 · cases hb
end Go.Ev
