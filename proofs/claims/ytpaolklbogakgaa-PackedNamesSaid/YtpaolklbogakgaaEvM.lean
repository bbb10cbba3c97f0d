import Derived.Test.YtpaolklbogakgaaEvL
namespace Go.Ev
open Go.RowKit
set_option linter.unusedSimpArgs false
set_option linter.unusedVariables false
variable {P : Program} {σ : Sg}

theorem does_unit {h h' : H} {w w' : World} {o : Oper} {a : Act} (hr : (execOp a.eval o).run P w = .ok .skip w') (h1 : Rel σ h' w') (h2 : Ext σ h w σ h' w') : Does P σ h w o a undef h' :=
  ⟨σ, w', undef, .inr ⟨hr, rfl⟩, VR.undef σ, h1, h2⟩
theorem does_value {h h' : H} {w w' : World} {o : Oper} {a : Act} {v v' : Value} {σ' : Sg} (hr : (execOp a.eval o).run P w = .ok (.value v') w') (h0 : VR σ' v v') (h1 : Rel σ' h' w') (h2 : Ext σ h w σ' h' w') : Does P σ h w o a v h' :=
  ⟨σ', w', v', .inl hr, h0, h1, h2⟩

theorem agg_info {t : TypeId} {b : Bool} (h : isAgg? P t = some b) : ∃ i, P.info? t = some i := by
  unfold isAgg? at h
  cases hu : P.underlying t with
  | none => rw [hu] at h; simp at h
  | some d => exact info_of_underlying hu

theorem call_run {c : Call} {b : Builtin} {o : Oper} {a : Act} {l : List Operand} (hop : o.op = .call c) (hc : c.callee = .builtin b) (hl : c.args.toList = l) (w : World) :
    ∃ k, (execOp a.eval o).run P w = (builtin b c.argTypes o.type k (l.map a.eval).toArray).run P w := by
  obtain ⟨k, hk⟩ := resolve_builtin (P := P) (ρ := a.eval) hc o.type w
  refine ⟨k, ?_⟩
  rw [← args_map hl, ← hk]
  simp only [execOp, hop]

theorem heavyCall_sound {sc : Sc} {kn : Operand → Bool} {env : List Value} {tm : T Value} {a : Act} {o : Oper} {c : Call} {b : Builtin} {v : Value} {h h' : H} {w : World} (hF : FR σ sc kn env tm a) (hop : o.op = .call c) (hcb : c.callee = .builtin b) (hk : o.op.operands.toList.all (kn) = true) (r : Rel σ h w)
    (hv : (heavyCall P sc c).f env tm h = some (v, h')) : Does P σ h w o a v h' := by
  rw [hop] at hk
  have hk' : ∀ x, x ∈ c.args.toList → kn x = true := fun x hx => List.all_eq_true.1 hk x (by
    simp only [Op.operands, Call.operands, hcb]; simpa using hx)
  unfold heavyCall at hv
  rw [hcb] at hv
  have two : ∀ {x y : Operand}, c.args.toList = [x, y] → VR σ (eval sc x env tm) (a.eval x) ∧ VR σ (eval sc y env tm) (a.eval y) := fun {x y} h => ⟨hF x (hk' x (by rw [h]; simp)), hF y (hk' y (by rw [h]; simp))⟩
  have types : ∀ {l : List TypeId}, c.argTypes.toList = l → c.argTypes = l.toArray := fun {l} h => by rw [← h]
  cases b with
  | append =>
    simp only at hv
    split at hv
    · rename_i t u s x hts hargs
      obtain ⟨k, hrun⟩ := call_run (P := P) (a := a) hop hcb hargs w
      obtain ⟨hs, hx⟩ := two hargs
      rw [types hts] at hrun
      split at hv
      · simp [noH] at hv
      · rename_i e d hne ht hu
        split at hv
        · rename_i z hz
          split at hv
          · rename_i hc
            simp only [Bool.and_eq_true] at hc
            have hsz := Nat.eq_of_beq_eq_true hc.1
            have hpos := Nat.le_of_ble_eq_true hc.2
            obtain ⟨zv, hzc, hzz, hzr, i, hi, hiz⟩ := zero_some (σ := σ) hz
            have hcell : P.cellsOf e = i.size := by simp [Program.cellsOf, hi]
            have hbytes : P.bytesOf e = i.bytes := by simp [Program.bytesOf, hi]
            rw [hcell] at hv hsz hpos
            rw [hbytes] at hv
            obtain ⟨σ', w', v', k1, k2, k3, k4⟩ := append_sound (P := P) (ty := o.type) r ht hu (fun k hk => by subst hk; exact hne k rfl) hi hiz (by rw [← hsz, hzc]; simp) hpos hs hx hv
            refine does_value ?_ k2 k3 k4
            rw [hrun]
            simp [builtin, k1]
          · simp [noH] at hv
        · simp [noH] at hv
      · simp [noH] at hv
    · simp [noH] at hv
  | copy =>
    simp only at hv
    split at hv
    · rename_i t u s x hts hargs
      obtain ⟨k, hrun⟩ := call_run (P := P) (a := a) hop hcb hargs w
      obtain ⟨hs, hx⟩ := two hargs
      rw [types hts] at hrun
      split at hv
      · rename_i e ht
        split at hv
        · rename_i bb hag
          obtain ⟨i, hi⟩ := agg_info hag
          have hcell : P.cellsOf e = i.size := by simp [Program.cellsOf, hi]
          rw [hcell] at hv
          obtain ⟨w', k1, k2, k3, k4⟩ := copy_sound (P := P) (u := u) (ty := o.type) r ht hi hs hx hv
          refine does_value ?_ k2 k3 k4
          rw [hrun]
          simp [builtin, k1]
        · simp [noH] at hv
      · simp [noH] at hv
    · simp [noH] at hv
  | delete =>
    simp only at hv
    split at hv
    · rename_i t u s x hts hargs
      obtain ⟨k, hrun⟩ := call_run (P := P) (a := a) hop hcb hargs w
      obtain ⟨hs, hx⟩ := two hargs
      rw [types hts] at hrun
      split at hv
      · rename_i kt et ht
        unfold withV at hv
        simp only at hv
        split at hv
        · rename_i h2 hd
          simp only [Option.some.injEq, Prod.mk.injEq] at hv
          obtain ⟨rfl, rfl⟩ := hv
          obtain ⟨w', k1, k3, k4⟩ := del_sound (P := P) (u := u) (ty := o.type) r ht hs hx hd
          refine does_value ?_ (VR.undef σ) k3 k4
          rw [hrun]
          simp [builtin, k1, undef]
        · cases hv
      · simp [noH] at hv
    · simp [noH] at hv
  | clear =>
    simp only at hv
    split at hv
    · rename_i t x hts hargs
      obtain ⟨k, hrun⟩ := call_run (P := P) (a := a) hop hcb hargs w
      have hx := hF x (hk' x (by rw [hargs]; simp))
      rw [types hts] at hrun
      split at hv
      · rename_i kt et ht
        unfold withV at hv
        simp only at hv
        split at hv
        · rename_i h2 hd
          simp only [Option.some.injEq, Prod.mk.injEq] at hv
          obtain ⟨rfl, rfl⟩ := hv
          obtain ⟨w', k1, k3, k4⟩ := clearM_sound (P := P) (ty := o.type) r ht hx hd
          refine does_value ?_ (VR.undef σ) k3 k4
          rw [hrun]
          simp [builtin, k1, undef]
        · cases hv
      · rename_i e ht
        split at hv
        · rename_i z hz
          unfold withV at hv
          simp only at hv
          split at hv
          · rename_i h2 hd
            simp only [Option.some.injEq, Prod.mk.injEq] at hv
            obtain ⟨rfl, rfl⟩ := hv
            obtain ⟨w', k1, k3, k4⟩ := clearS_sound (P := P) (ty := o.type) r ht hz hx hd
            refine does_value ?_ (VR.undef σ) k3 k4
            rw [hrun]
            simp [builtin, k1, undef]
          · cases hv
        · simp [noH] at hv
      · simp [noH] at hv
    · simp [noH] at hv
  | _ => simp [noH] at hv

theorem heavyUpd_sound {sc : Sc} {kn : Operand → Bool} {env : List Value} {tm : T Value} {a : Act} {o : Oper} {t : TypeId} {m k x : Operand} {v : Value} {h h' : H} {w : World} (hF : FR σ sc kn env tm a) (hop : o.op = .mapUpdate t m k x ∨ o.op = .insert t m k x) (hk : o.op.operands.toList.all (kn) = true) (r : Rel σ h w)
    (hv : (heavyUpd P sc t m k x).f env tm h = some (v, h')) : Does P σ h w o a v h' := by
  have hk' : ∀ x, x ∈ o.op.operands.toList → kn x = true := fun x hx => List.all_eq_true.1 hk x hx
  have hm := hF m (hk' m (by rcases hop with hop | hop <;> rw [hop] <;> simp [Op.operands]))
  have hkk := hF k (hk' k (by rcases hop with hop | hop <;> rw [hop] <;> simp [Op.operands]))
  have hx := hF x (hk' x (by rcases hop with hop | hop <;> rw [hop] <;> simp [Op.operands]))
  unfold heavyUpd at hv
  split at hv
  · rename_i kt et ht
    unfold withV at hv
    simp only at hv
    split at hv
    · rename_i h2 hd
      simp only [Option.some.injEq, Prod.mk.injEq] at hv
      obtain ⟨rfl, rfl⟩ := hv
      obtain ⟨w', k1, k3, k4⟩ := upd_sound (P := P) r ht hm hkk hx hd
      refine does_unit (w' := w') ?_ k3 k4
      rcases hop with hop | hop <;> simp [execOp, hop, k1]
    · cases hv
  · simp [noH] at hv

theorem heavy_sound {sc : Sc} {kn : Operand → Bool} {env : List Value} {tm : T Value} {a : Act} {o : Oper} {v : Value} {h h' : H} {w : World} (hF : FR σ sc kn env tm a) (hk : o.op.operands.toList.all (kn) = true) (r : Rel σ h w) (hnc : ∀ c, o.op ≠ .call c)
    (hv : (heavyB P sc o.op).f env tm h = some (v, h')) : Does P σ h w o a v h' := by
  have hk' : ∀ x, x ∈ o.op.operands.toList → kn x = true := fun x hx => List.all_eq_true.1 hk x hx
  cases hop : o.op with
  | store t p x =>
    rw [hop] at hv hk'
    have hp := hF p (hk' p (by simp [Op.operands]))
    have hx := hF x (hk' x (by simp [Op.operands]))
    simp only [heavyB, heavyStore] at hv
    split at hv
    · rename_i bb hag
      unfold withV at hv
      simp only at hv
      split at hv
      · rename_i h2 hd
        simp only [Option.some.injEq, Prod.mk.injEq] at hv
        obtain ⟨rfl, rfl⟩ := hv
        obtain ⟨w', k1, k3, k4⟩ := store_sound (P := P) r hp hx ⟨bb, hag⟩ hd
        refine does_unit (w' := w') ?_ k3 k4
        simp [execOp, hop, k1]
      · cases hv
    · simp [noH] at hv
  | mapUpdate t m k x => rw [hop] at hv; exact heavyUpd_sound hF (.inl hop) hk r hv
  | insert t m k x => rw [hop] at hv; exact heavyUpd_sound hF (.inr hop) hk r hv
  | range t x =>
    rw [hop] at hv hk'
    have hx := hF x (hk' x (by simp [Op.operands]))
    simp only [heavyB, heavyRange] at hv
    split at hv
    · rename_i ht
      simp only [rangeStr] at hv
      split at hv
      · rename_i s hs
        rw [hs] at hx
        simp only [Option.some.injEq, Prod.mk.injEq] at hv
        obtain ⟨rfl, rfl⟩ := hv
        obtain ⟨r1, r2⟩ := r.alloc (.stringIter s 0) (.sit s 0) ⟨w.heap.size, 0, 0, 0⟩ rfl ⟨rfl, heap_new _ _⟩
        refine does_value ?_ (.ptr h.next 0 _ (Sg.upd_same _ _ _)) r1 r2
        simp [execOp, hop, Instr.range, run_underlying ht, hx.string_inv]
      · cases hv
    · rename_i kt et ht
      simp only [rangeMap] at hv
      split at hv
      · rename_i B hB
        split at hv
        · rename_i es clock hobj
          simp only [Option.some.injEq, Prod.mk.injEq] at hv
          obtain ⟨rfl, rfl⟩ := hv
          rw [hB] at hx
          generalize hm' : a.eval x = m' at hx
          cases hx with
          | map _ c hc h0 =>
            obtain ⟨es', hb, he⟩ := map_obj r hobj hc
            have hle := Sg.le_upd (σ := σ) (B := h.next) ⟨w.heap.size, 0, 0, 0⟩ (r.fresh _ (Nat.le_refl _))
            obtain ⟨r1, r2⟩ := r.alloc (.mapIter (some c.blk) clock #[] clock) (.mit B clock [] clock) ⟨w.heap.size, 0, 0, 0⟩ rfl ⟨rfl, c, hle _ _ hc, h0, heap_new _ _⟩
            refine does_value ?_ (.ptr h.next 0 _ (Sg.upd_same _ _ _)) r1 r2
            simp [execOp, hop, Instr.range, run_underlying ht, hm', run_getObj_map hb]
        · cases hv
      · cases hv
    · simp [noH] at hv
  | call c => exact absurd hop (hnc c)
  | _ => rw [hop] at hv; simp [heavyB, noH] at hv

end Go.Ev
