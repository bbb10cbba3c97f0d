import Derived.Test.YtilpiiafjehbnaaGreatDoorEvI
namespace Go.Ev
open Go.RowKit
set_option linter.unusedSimpArgs false
set_option linter.unusedVariables false
variable {P : Program} {σ : Sg}
def Makes (P : Program) (σ : Sg) (o : Oper) (a : Act) (w : World) (B : Nat) (x : AObj) (v : Value) : Prop :=
 ∃ (d : Nat) (obj : Obj) (c : CB) (v' : Value), (execOp a.eval o).run P w = .ok (.value v') (({ w with drawn := w.drawn + d } : World).alloc obj) ∧ c.blk = w.heap.size ∧ x.mut = true ∧
   ∀ σ', σ.le σ' → σ' B = some c → VR σ' v v' ∧ ObjR σ' (({ w with drawn := w.drawn + d } : World).alloc obj) c x
theorem heap_new (w : World) (o : Obj) : (w.alloc o).heap[w.heap.size]? = some o := by
 show (w.heap.push o)[w.heap.size]? = some o
 simp
theorem wrap64_nat {n : Nat} (h : n ≤ 9223372036854775807) : IntKind.i64.wrap (n : Int) = n := by
 unfold IntKind.wrap
 simp [IntKind.bits, IntKind.signed]
 omega
theorem new_there (w : World) (cs : Array Value) (t : TypeId) (fr : Nat × Nat) (hfr : fr.1 = fr.2 ∨ cs.size ≤ fr.1) (n : Nat) (hn : n ≤ cs.size) : There (w.alloc (.cells cs t fr)) w.heap.size 0 n := by
 have hb := heap_new w (.cells cs t fr)
 refine ⟨fun j hj => ⟨?_, ?_⟩, fun cs' t' lo hi h => ?_⟩
 · have hlt : j < cs.size := by omega
   simp only [World.cell?, Nat.zero_add, hb]
   simp [hlt]
 · simp only [World.frozen?, Nat.zero_add, hb]
   obtain ⟨lo, hi⟩ := fr
   simp only at hfr ⊢
   simp; omega
 · rw [hb] at h
   simp only [Option.some.injEq, Obj.cells.injEq] at h
   obtain ⟨rfl, rfl, rfl⟩ := h
   exact hfr
theorem new_cells {σ' : Sg} (w : World) (cs : Array Value) (t : TypeId) (fr : Nat × Nat) {l : List Value} {c : CB} (hb : c.blk = w.heap.size) (ho : c.off = 0) (hl : ∀ (i : Nat) x, l[i]? = some x → ∃ y, cs[i]? = some y ∧ VR σ' x y) :
   cellsR σ' (w.alloc (.cells cs t fr)) c l := by
 intro j v hv
 obtain ⟨y, h1, h2⟩ := hl j v hv
 refine ⟨y, ?_, h2⟩
 have hbb := heap_new w (.cells cs t fr)
 simp only [World.cell?, hb, ho, Nat.zero_add, hbb]
 simpa using h1
theorem LR.cell {σ' : Sg} {l : List Value} {cs : Array Value} (h : LR σ' l cs.toList) : ∀ (i : Nat) x, l[i]? = some x → ∃ y, cs[i]? = some y ∧ VR σ' x y := fun i x hx => by
 obtain ⟨y, h1, h2⟩ := h.get hx
 exact ⟨y, by simpa using h1, h2⟩
theorem makes_rw {o : Oper} {a : Act} {w : World} {B : Nat} {l : List Value} {v : Value} {cs : Array Value} {t : TypeId} (mk : Nat → Value) (hl : LR σ l cs.toList)
   (hr : (execOp a.eval o).run P w = .ok (.value (mk w.heap.size)) (w.alloc (.cells cs t))) (hv : ∀ σ' : Sg, σ' B = some ⟨w.heap.size, 0, l.length, 0⟩ → VR σ' v (mk w.heap.size)) : Makes P σ o a w B (.rw l (some t)) v := by
 refine ⟨0, .cells cs t, ⟨w.heap.size, 0, l.length, 0⟩, mk w.heap.size, hr, rfl, rfl, fun σ' hle hB => ⟨hv σ' hB, ?_, Nat.le_refl _, ?_, rfl, cs, _, heap_new _ _⟩⟩
 · exact new_cells w cs t (0, 0) rfl rfl (hl.mono hle).cell
 · exact new_there w cs t (0, 0) (.inl rfl) _ (by rw [hl.1]; simp)
theorem range_zero {σ : Sg} {z : List Value} {A : Array Value} (hA : z = A.toList) (hz : LR σ z z) (n : Nat) : LR σ (repl z n) ((Array.range (n * A.size)).map fun i => A[i % A.size]!).toList := by
 subst hA
 refine ⟨by simp [repl_length], fun j x y hx hy => ?_⟩
 have hj : j < n * A.size := by have := (List.getElem?_eq_some_iff.1 hx).1; simpa [repl_length] using this
 rw [repl_get _ _ _ (by simpa using hj)] at hx
 have hpos : 0 < A.size := Nat.pos_of_ne_zero (fun e => by simp [e] at hj)
 have hm : j % A.size < A.size := Nat.mod_lt _ hpos
 have e : ((Array.range (n * A.size)).map fun i => A[i % A.size]!).toList[j]? = some (A[j % A.size]!) := by simp [hj]
 rw [e] at hy
 simp only [Option.some.injEq] at hy; subst hy
 have hx' : A[j % A.size]? = some x := by simpa using hx
 rw [getElem!_pos A _ hm]
 rw [getElem?_pos A _ hm] at hx'
 simp only [Option.some.injEq] at hx'
 refine hz.2 (j % A.size) x _ (by simpa [hm] using hx') (by simp [hm])
theorem stringish_run (w : World) (A : Array Value) (e : TypeId) (cap : Nat) (hA : A.size = cap) (n : Nat) :
   (((match (w.alloc (.cells A e)).shape? w.heap.size with
     | some (_, n) => freeze { block := w.heap.size, off := n } 1
     | _ => pure () : Sem Unit)).run P (w.alloc (.cells A e))).andThen (fun _ w' => (Result.ok (Value.slice (some ⟨w.heap.size, 0, none⟩) n cap) w' : Result Value)) =
   .ok (.slice (some ⟨w.heap.size, 0, none⟩) n cap) (w.alloc (.cells A e (cap, cap + 1))) := by
 have hs : (w.alloc (.cells A e)).shape? w.heap.size = some (e, cap) := by
   simp only [World.shape?, heap_new, hA]
 rw [hs]
 simp only [run_freeze, Result.andThen_ok]
 congr 1
 simp only [World.freeze, World.alloc]
 rw [if_neg (by omega)]
 congr 1
 apply Array.ext_getElem?
 intro i
 rw [Array.getElem?_modify, Array.getElem?_push, Array.getElem?_push]
 by_cases hi : i = w.heap.size
 · subst hi; simp
 · rw [if_neg (fun h => hi h.symm), if_neg hi, if_neg hi]
theorem alloc_sound {sc : Sc} {kn : Operand → Bool} {env : List Value} {tm : T Value} {a : Act} {o : Oper} {x : AObj} {v : Value} {B : Nat} {w : World} (hF : FR σ sc kn env tm a) (hk : o.op.operands.toList.all (kn) = true)
   (hv : (allocB P sc o.op).f env tm B = some (x, v)) : Makes P σ o a w B x v := by
 have hk' : ∀ x, x ∈ o.op.operands.toList → kn x = true := fun x hx => List.all_eq_true.1 hk x hx
 cases hop : o.op with
 | alloc t =>
   rw [hop] at hv
   simp only [allocB] at hv
   split at hv
   · rename_i z hz
     simp only [Option.some.injEq, Prod.mk.injEq] at hv
     obtain ⟨rfl, rfl⟩ := hv
     obtain ⟨zv, rfl, hzz, hzr, _⟩ := zero_some (σ := σ) hz
     refine makes_rw (cs := zv.cells) (t := t) (fun b => .pointer (some ⟨b, 0, none⟩)) hzz ?_ fun σ' hB => ?_
     · simp [execOp, hop, Instr.alloc, hzr, newVar, newRow]
     · exact .ptr B 0 _ hB
   · cases hv
 | box t y =>
   rw [hop] at hv hk'
   have h1 := hF y (hk' y (by simp [Op.operands]))
   simp only [allocB, Option.some.injEq, Prod.mk.injEq] at hv
   obtain ⟨rfl, rfl⟩ := hv
   refine makes_rw (cs := (a.eval y).cells) (t := t) (fun b => .pointer (some ⟨b, 0, none⟩)) h1.cells ?_ fun σ' hB => ?_
   · simp [execOp, hop, Instr.box, newVar, newRow]
   · exact .ptr B 0 _ hB
 | buildSlice t len ps =>
   rw [hop] at hv hk'
   have hps := hF.parts (l := ps.toList) (List.all_eq_true.2 fun p hp => hk' p.2 (by
     simp only [Op.operands, List.mem_map]
     exact ⟨p, hp, rfl⟩))
   simp only [allocB, allocLit] at hv
   split at hv
   · rename_i e hu
     split at hv
     · rename_i z hz
       split at hv
       · rename_i hc
         simp only [Bool.and_eq_true] at hc
         have hsz := Nat.eq_of_beq_eq_true hc.1.1
         have hle := Nat.le_of_ble_eq_true hc.1.2
         have hle2 := Nat.le_of_ble_eq_true hc.2
         simp only [mkLit] at hv
         split at hv
         · rename_i l hl
           simp only [Option.some.injEq, Prod.mk.injEq] at hv
           obtain ⟨rfl, rfl⟩ := hv
           obtain ⟨zv, hzc, hzz, hzr, i, hi, hiz⟩ := zero_some (σ := σ) hz
           have hrz := range_zero hzc hzz len
           obtain ⟨A', hA, hlA⟩ := fill_sound hl hrz hps.1 hps.2
           have hcell : P.cellsOf e = zv.cells.size := by rw [← hsz, hzc]; simp
           have hpse : (ps.toList.map fun (p : Nat × Operand) => (p.1, a.eval p.2)) = (ps.map fun (p : Nat × Operand) => (p.1, a.eval p.2)).toList := by simp
           have hlen : l.length = len * P.cellsOf e := by
             have : ∀ (ps : List (Nat × Value)) (z l : List Value) (pl : Nat → Option (Nat × Nat)), fill z pl ps = some l → l.length = z.length := by
               intro ps
               induction ps with
               | nil => intro z l pl h; simp only [fill, Option.some.injEq] at h; rw [h]
               | cons p r ih =>
                 obtain ⟨i, v⟩ := p
                 intro z l pl h
                 simp only [fill] at h
                 split at h
                 · split at h
                   · split at h
                     · rename_i z' hz'
                       rw [ih _ _ _ h, (putAt_some hz').2.1]
                     · cases h
                   · cases h
                 · cases h
             rw [this _ _ _ _ hl, repl_length, hsz]
           refine makes_rw (cs := A') (t := e) (fun b => .slice (some ⟨b, 0, none⟩) len len) hlA ?_ fun σ' hB => ?_
           · have hrun : (Instr.buildSlice t len (ps.map fun (p : Nat × Operand) => (p.1, a.eval p.2))).run P w = .ok (.slice (some ⟨w.heap.size, 0, none⟩) len len) (w.alloc (.cells A' e)) := by
               have hA' : Instr.fill (fun i => some (i * P.cellsOf e, P.cellsOf e)) ((Array.range (len * P.cellsOf e)).map fun i => zv.cells[i % zv.cells.size]!) (ps.map fun (p : Nat × Operand) => (p.1, a.eval p.2)).toList = some A' := by
                 rw [← hpse, hcell]; rw [hcell] at hA; exact hA
               unfold Instr.buildSlice
               simp only [Sem.run_bind, run_underlying hu, Result.andThen_ok, run_sizeOf w hi]
               rw [if_neg (by omega)]
               by_cases h0 : len * P.cellsOf e = 0
               · simp only [h0, if_true, Sem.run_pure, Result.andThen_ok, Sem.run_bind]
                 have : (Array.range 0).map (fun i => (#[] : Array Value)[i % (#[] : Array Value).size]!) = (Array.range (len * P.cellsOf e)).map fun i => zv.cells[i % zv.cells.size]! := by rw [h0]; simp
                 rw [this, hA']
                 simp [newRow]
               · simp only [h0, if_false, Sem.run_bind, hzr, Sem.run_pure, Result.andThen_ok, hA']
                 simp [newRow]
             simp [execOp, hop, hrun]
           · exact .sl B 0 len len _ hB (by unfold OPEN; omega)
         · cases hv
       · cases hv
     · cases hv
   · cases hv
 | makeMap t r =>
   rw [hop] at hv
   cases r with
   | some r => simp [allocB, noA] at hv
   | none =>
     simp only [allocB, Option.some.injEq, Prod.mk.injEq] at hv
     obtain ⟨rfl, rfl⟩ := hv
     refine ⟨0, .map #[] 0, ⟨w.heap.size, 0, 0, 0⟩, .map (some w.heap.size), ?_, rfl, rfl, fun σ' hle hB => ⟨.map B _ hB rfl, rfl, #[], ?_, rfl, fun i x y hx => by simp at hx⟩⟩
     · simp [execOp, hop, Instr.makeMap]
     · exact heap_new _ _
 | makeSlice t l c =>
   rw [hop] at hv hk'
   have h1 := hF l (hk' l (by simp [Op.operands]))
   have h2 := hF c (hk' c (by simp [Op.operands]))
   simp only [allocB, allocMake] at hv
   split at hv
   · rename_i e hu
     split at hv
     · rename_i z hz
       split at hv
       · rename_i hbe
         have hsz := Nat.eq_of_beq_eq_true hbe
         simp only [mkSlice] at hv
         split at hv
         · rename_i ln hln
           split at hv
           · rename_i cn hcn
             split at hv
             · rename_i hc
               simp only [Bool.and_eq_true] at hc
               have b1 := Nat.le_of_ble_eq_true hc.1.1
               have b2 := Nat.le_of_ble_eq_true hc.1.2
               have b3 := Nat.le_of_ble_eq_true hc.2
               simp only [Option.some.injEq, Prod.mk.injEq] at hv
               obtain ⟨rfl, rfl⟩ := hv
               obtain ⟨k1, e1⟩ := asNat_some hln
               obtain ⟨k2, e2⟩ := asNat_some hcn
               rw [e1] at h1; rw [e2] at h2
               obtain ⟨zv, hzc, hzz, hzr, i, hi, hiz⟩ := zero_some (σ := σ) hz
               have hrz := range_zero hzc hzz cn
               have hcell : P.cellsOf e = zv.cells.size := by rw [← hsz, hzc]; simp
               refine makes_rw (cs := (Array.range (cn * zv.cells.size)).map fun i => zv.cells[i % zv.cells.size]!) (t := e) (fun b => .slice (some ⟨b, 0, none⟩) ln cn) hrz ?_ fun σ' hB => .sl B 0 ln cn _ hB (by unfold OPEN; omega)
               have w1 : IntKind.i64.wrap (ln : Int) = ln := wrap64_nat (by omega)
               have w2 : IntKind.i64.wrap (cn : Int) = cn := wrap64_nat b3
               have hbt : P.bytesOf e = i.bytes := by simp [Program.bytesOf, hi]
               rw [hbt] at b2
               have b2' : ¬ ((i.bytes : Int) * (cn : Int) > 2 ^ 48) := by
                 have : ((i.bytes * cn : Nat) : Int) ≤ 281474976710656 := by omega
                 rw [Int.natCast_mul] at this
                 omega
               have hrun : (Instr.makeSlice t (a.eval l) (a.eval c)).run P w = .ok (.slice (some ⟨w.heap.size, 0, none⟩) ln cn) (w.alloc (.cells ((Array.range (cn * zv.cells.size)).map fun i => zv.cells[i % zv.cells.size]!) e)) := by
                 rw [h1.int_inv, h2.int_inv]
                 unfold Instr.makeSlice
                 have ti : (typeInfo e).run P w = .ok i w := by simp [typeInfo, hi]
                 simp only [Sem.run_bind, run_underlying hu, Result.andThen_ok, asInt, asIntOf_run, Sem.run_pure, ti, w1, w2]
                 rw [if_neg (by
                   simp only [Bool.or_eq_true, decide_eq_true_eq, not_or]
                   refine ⟨⟨⟨by omega, b2'⟩, by omega⟩, by omega⟩)]
                 simp only [Sem.run_bind, run_askRoom, Result.andThen_ok, run_sizeOf w hi, Int.toNat_natCast, hcell]
                 by_cases h0 : cn * zv.cells.size = 0
                 · simp only [h0, if_true, Sem.run_pure, Result.andThen_ok, Sem.run_bind]
                   have e0 : (Array.range 0) = #[] := rfl
                   simp [newRow, e0]
                 · simp only [h0, if_false, Sem.run_bind, hzr, Sem.run_pure, Result.andThen_ok]
                   simp [newRow]
               simp [execOp, hop, hrun]
             · cases hv
           · cases hv
         · cases hv
       · cases hv
     · cases hv
   · cases hv
 | convert s d y =>
   rw [hop] at hv hk'
   have h1 := hF y (hk' y (by simp [Op.operands]))
   simp only [allocB, allocConv] at hv
   split at hv
   · rename_i e hs hd
     split at hv
     · rename_i he
       simp only [mkBytes] at hv
       split at hv
       · rename_i st hst
         rw [hst] at h1
         simp only [Option.some.injEq, Prod.mk.injEq] at hv
         obtain ⟨rfl, rfl⟩ := hv
         obtain ⟨cap, hcap, hrun⟩ : ∃ cap, st.size ≤ cap ∧ (Conv.stringToBytes e st).run P w = .ok (.slice (some ⟨w.heap.size, 0, none⟩) st.size cap)
             (w.drew.alloc (.cells (st.data.map (fun b : UInt8 => Value.int .u8 b.toNat) ++ Array.replicate (cap - st.size) (Value.int .u8 0)) e (cap, cap + 1))) := by
           refine ⟨(Question.appendCap st.size 0 e).cut (w.tape w.drawn (.appendCap st.size 0 e)), by simp [Question.cut], ?_⟩
           generalize hq : (Question.appendCap st.size 0 e).cut (w.tape w.drawn (.appendCap st.size 0 e)) = cap
           have hle : st.size ≤ cap := by rw [← hq]; simp [Question.cut]
           unfold Conv.stringToBytes
           have hsz : (st.data.map (fun b : UInt8 => Value.int .u8 b.toNat) ++ Array.replicate (cap - st.size) (Value.int .u8 0)).size = cap := by
             have : st.data.size = st.size := rfl
             simp [this]; omega
           simp only [Sem.run_bind, run_choose, Question.forced, Bool.false_eq_true, if_false, Result.andThen_ok, hq, newRow, run_newObj, Sem.run_pure, markStringish, run_shape]
           generalize hAA : st.data.map (fun b : UInt8 => Value.int .u8 b.toNat) ++ Array.replicate (cap - st.size) (Value.int .u8 0) = A at hsz ⊢
           exact stringish_run w.drew A e cap hsz st.size
         have hds : st.data.size = st.size := rfl
         obtain ⟨A, hA⟩ : ∃ A : Array Value, A = st.data.map (fun b : UInt8 => Value.int .u8 b.toNat) ++ Array.replicate (cap - st.size) (Value.int .u8 0) := ⟨_, rfl⟩
         rw [← hA] at hrun
         have hAs : A.size = cap := by rw [hA]; simp [hds]; omega
         refine ⟨1, .cells A e (cap, cap + 1), ⟨w.heap.size, 0, cap, 1⟩, .slice (some ⟨w.heap.size, 0, none⟩) st.size cap, ?_, rfl, rfl, fun σ' hle hB => ⟨.slO B 0 st.size cap _ hB hcap (by simp) st.size hcap (by simp), ?_, ?_, ?_, rfl, rfl, A, _, heap_new _ _⟩⟩
         · have : (convert s d (.string st)).run P w = .ok (.slice (some ⟨w.heap.size, 0, none⟩) st.size cap) (w.drew.alloc (.cells A e (cap, cap + 1))) := by
             simp only [convert, Sem.run_bind, run_underlying hs, run_underlying hd, Result.andThen_ok, run_underlying he]
             exact hrun
           simp only [execOp, hop, h1.string_inv, Sem.run_bind, this, Result.andThen_ok, Sem.run_pure]
           rfl
         · refine new_cells w.drew A e (cap, cap + 1) rfl rfl (fun i x hx => ?_)
           simp only [List.getElem?_map, Option.map_eq_some_iff] at hx
           obtain ⟨b, hb, rfl⟩ := hx
           have hi := (List.getElem?_eq_some_iff.1 hb).1
           refine ⟨_, ?_, .int _ _⟩
           rw [hA, Array.getElem?_append_left (by simpa using hi)]
           simp at hb
           simp [hb]
         · simp [hds, hcap]
         · exact new_there w.drew A e (cap, cap + 1) (.inr (by rw [hAs]; exact Nat.le_refl _)) cap (by rw [hAs]; exact Nat.le_refl _)
       · cases hv
     · cases hv
   · cases hv
 | _ => rw [hop] at hv; simp [allocB, noA] at hv
end Go.Ev
