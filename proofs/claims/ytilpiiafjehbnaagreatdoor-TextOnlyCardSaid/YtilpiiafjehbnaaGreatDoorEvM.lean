import Derived.Test.YtilpiiafjehbnaaGreatDoorEvL
import Derived.Lib.UnsafeStr
namespace Go.Ev
open Go.RowKit
set_option linter.unusedSimpArgs false
set_option linter.unusedVariables false
variable {P : Program} {σ : Sg}
theorem does_unit {h h' : H} {w w' : World} {o : Oper} {a : Act} (hr : (execOp a.eval o).run P w = .ok .skip w') (h1 : Rel σ h' w') (h2 : Ext σ h w σ h' w') : Does P σ h w o a undef h' :=
 ⟨σ, w', undef, .inr ⟨hr, rfl⟩, VR.undef σ, h1, h2⟩
theorem does_value {h h' : H} {w w' : World} {o : Oper} {a : Act} {v v' : Value} {σ' : Sg} (hr : (execOp a.eval o).run P w = .ok (.value v') w') (h0 : VR σ' v v') (h1 : Rel σ' h' w') (h2 : Ext σ h w σ' h' w') : Does P σ h w o a v h' :=
 ⟨σ', w', v', .inl hr, h0, h1, h2⟩
theorem agg_info {t : TypeId} {b : Bool} (h : isAgg? P t = some b) : ∃ i, P.info? t = some i := by
 unfold isAgg? at h
 cases hu : P.underlying t with
 | none => rw [hu] at h; simp at h
 | some d => exact info_of_underlying hu
theorem call_run {c : Call} {b : Builtin} {o : Oper} {a : Act} {l : List Operand} (hop : o.op = .call c) (hc : c.callee = .builtin b) (hl : c.args.toList = l) (w : World) :
   ∃ k, (execOp a.eval o).run P w = (builtin b c.argTypes o.type k (l.map a.eval).toArray).run P w := by
 obtain ⟨k, hk⟩ := resolve_builtin (P := P) (ρ := a.eval) hc o.type w
 refine ⟨k, ?_⟩
 rw [← args_map hl, ← hk]
 simp only [execOp, hop]
theorem freeze_cells {w : World} {b : Nat} {C : Array Value} {t : TypeId} {fr : Nat × Nat} (h : w.heap[b]? = some (.cells C t fr)) (x : Addr) (n : Nat) : ∃ fr', (w.freeze x n).heap[b]? = some (.cells C t fr') := by
 unfold World.freeze
 split
 · exact ⟨fr, h⟩
 · simp only [Array.getElem?_modify]
   split
   · rw [h]; exact ⟨_, rfl⟩
   · exact ⟨fr, h⟩
theorem bytesIn_some : ∀ {l : List Value} {bs : List UInt8}, bytesIn l = some bs → l = bs.map fun b => Value.int .u8 b.toNat
 | [], bs, h => by simp [bytesIn] at h; subst h; rfl
 | v :: r, bs, h => by
   unfold bytesIn at h
   split at h
   · rename_i n
     split at h
     · rename_i hb
       have hb := Nat.le_of_ble_eq_true hb
       split at h
       · rename_i t ht
         simp only [Option.some.injEq] at h; subst h
         rw [List.map_cons, ← bytesIn_some ht]
         congr 2
         have : (UInt8.ofNat n).toNat = n := by simp; omega
         rw [this]; rfl
       · cases h
     · cases h
   · cases h
theorem strOf_sound {h h' : H} {w : World} {p p' n n' v : Value} {pt it e ty : TypeId} (r : Rel σ h w) (hp : VR σ p p') (hn : VR σ n n') (hu : P.underlying pt = some (.pointer e)) (hc1 : P.cellsOf e = 1) (hv : strOf e h p n = some (v, h')) :
   ∃ w', (Builtin.unsafeString_ #[pt, it] ty #[p', n']).run P w = .ok v w' ∧ VR σ v v ∧ Rel σ h' w' ∧ Ext σ h w σ h' w' := by
 unfold strOf at hv
 split at hv
 · rename_i m
   have := hn.int_inv; subst this
   split at hv
   · split at hv
     · rename_i a
       simp only [Option.some.injEq, Prod.mk.injEq] at hv
       obtain ⟨rfl, rfl⟩ := hv
       have : ∃ q, p' = .pointer q := by cases hp <;> exact ⟨_, rfl⟩
       obtain ⟨q, rfl⟩ := this
       exact ⟨w, Lib.run_unsafeString_none w pt it ty q, .string _, r, .refl _ _ _⟩
     · cases hv
   · rename_i m
     split at hv
     · rename_i hle
       have hle := Nat.le_of_ble_eq_true hle
       unfold strAt at hv
       split at hv
       · rename_i b
         split at hv
         · rename_i ob hob
           split at hv
           · rename_i t cs hty hcs
             split at hv
             · rename_i l hte htk
               have hte := Nat.eq_of_beq_eq_true hte
               subst hte
               split at hv
               · rename_i bs hbs
                 simp only [Option.some.injEq, Prod.mk.injEq] at hv
                 obtain ⟨rfl, rfl⟩ := hv
                 have hl := bytesIn_some hbs
                 obtain ⟨hn1, hn2⟩ := takeN_some htk
                 cases hp with
                 | ptr B i c hc =>
                   obtain ⟨c', hc', ho⟩ := r.obj _ _ hob
                   rw [hc] at hc'; cases hc'
                   have key : TyR w c (some t) ∧ cellsR σ w c cs ∧ ob.mut = true := by
                     cases ob <;> simp [AObj.ty, AObj.cells?] at hty hcs
                     · subst hty; subst hcs; exact ⟨ho.2.2.2, ho.1, rfl⟩
                     · subst hty; subst hcs; exact ⟨ho.2.2.2.2, ho.1, rfl⟩
                   obtain ⟨⟨k0, C, fr, k1⟩, k2, k3⟩ := key
                   have hlen : l.length = m + 1 := by rw [hn2]; simp; omega
                   have hbl : bs.length = m + 1 := by rw [← hlen, hl]; simp
                   have hcell : ∀ j x, bs[j]? = some x → w.cell? ((⟨c.blk, 0, none⟩ : Addr).add j) = some (.int .u8 x.toNat) := fun j x hj => by
                     have hjl := (List.getElem?_eq_some_iff.1 hj).1
                     have h1 : cs[j]? = some (.int .u8 x.toNat) := by
                       have : l[j]? = some (.int .u8 x.toNat) := by rw [hl]; simp [hj]
                       rw [hn2, List.getElem?_take] at this
                       split at this
                       · exact this
                       · cases this
                     obtain ⟨y, g1, g2⟩ := k2 j _ h1
                     rw [g2.int_inv, k0] at g1
                     rw [Addr.add_mid]; simpa using g1
                   have hsz : bs.length ≤ C.size := by
                     rcases Nat.lt_or_ge C.size bs.length with hlt | hge
                     · have := hcell C.size bs[C.size] (List.getElem?_eq_getElem hlt)
                       rw [Addr.add_mid] at this
                       simp [World.cell?, k1] at this
                     · exact hge
                   have hrun := Lib.run_unsafeString_row (P := P) w pt it ty t hu hc1 c.blk C.size (by simp [World.shape?, k1]) bs (fun e => by rw [e] at hbl; simp at hbl) hsz (by omega) hcell
                   obtain ⟨fr', hfz⟩ := freeze_cells k1 ⟨c.blk, 0, none⟩ bs.length
                   obtain ⟨r1, r2⟩ := r.writeX (w' := w.freeze ⟨c.blk, 0, none⟩ bs.length) (y := .ro cs) hob k3 hc (fun j v hj => by
                       obtain ⟨y, g1, g2⟩ := k2 j v hj
                       refine ⟨y, ?_, g2⟩
                       simp only [World.cell?, hfz]
                       simpa [World.cell?, k1] using g1) (fun k hk => by
                       unfold World.freeze
                       split
                       · rfl
                       · simp only [Array.getElem?_modify]; rw [if_neg (fun e => hk e.symm)]) (by unfold World.freeze; split <;> simp) (by unfold World.freeze; split <;> rfl) (by unfold World.freeze; split <;> rfl) (by unfold World.freeze; split <;> rfl)
                   refine ⟨_, ?_, .string _, r1, r2⟩
                   rw [hbl] at hrun
                   rw [k0, hbl]
                   exact hrun
               · cases hv
             · cases hv
           · cases hv
         · cases hv
       · cases hv
     · cases hv
 · cases hv
theorem heavyCall_sound {sc : Sc} {kn : Operand → Bool} {env : List Value} {tm : T Value} {a : Act} {o : Oper} {c : Call} {b : Builtin} {v : Value} {h h' : H} {w : World} (hF : FR σ sc kn env tm a) (hop : o.op = .call c) (hcb : c.callee = .builtin b) (hk : o.op.operands.toList.all (kn) = true) (r : Rel σ h w)
   (hv : (heavyCall P sc c).f env tm h = some (v, h')) : Does P σ h w o a v h' := by
 rw [hop] at hk
 have hk' : ∀ x, x ∈ c.args.toList → kn x = true := fun x hx => List.all_eq_true.1 hk x (by
   simp only [Op.operands, Call.operands, hcb]; simpa using hx)
 unfold heavyCall at hv
 rw [hcb] at hv
 have two : ∀ {x y : Operand}, c.args.toList = [x, y] → VR σ (eval sc x env tm) (a.eval x) ∧ VR σ (eval sc y env tm) (a.eval y) := fun {x y} h => ⟨hF x (hk' x (by rw [h]; simp)), hF y (hk' y (by rw [h]; simp))⟩
 have types : ∀ {l : List TypeId}, c.argTypes.toList = l → c.argTypes = l.toArray := fun {l} h => by rw [← h]
 cases b with
 | unsafeString =>
   simp only at hv
   split at hv
   · rename_i t u p n hts hargs
     obtain ⟨k, hrun⟩ := call_run (P := P) (a := a) hop hcb hargs w
     obtain ⟨hp, hn⟩ := two hargs
     rw [types hts] at hrun
     split at hv
     · rename_i e hu
       split at hv
       · rename_i hc1
         obtain ⟨w', k1, k2, k3, k4⟩ := strOf_sound (P := P) (ty := o.type) (it := u) r hp hn hu (Nat.eq_of_beq_eq_true hc1) hv
         refine does_value ?_ k2 k3 k4
         rw [hrun]
         simp [builtin, k1]
       · simp [noH] at hv
     · simp [noH] at hv
   · simp [noH] at hv
 | append =>
   simp only at hv
   split at hv
   · rename_i t u s x hts hargs
     obtain ⟨k, hrun⟩ := call_run (P := P) (a := a) hop hcb hargs w
     obtain ⟨hs, hx⟩ := two hargs
     rw [types hts] at hrun
     split at hv
     · simp [noH] at hv
     · rename_i e d hne ht hu
       split at hv
       · rename_i z hz
         split at hv
         · rename_i hc
           simp only [Bool.and_eq_true] at hc
           have hsz := Nat.eq_of_beq_eq_true hc.1.1
           have hpos := Nat.le_of_ble_eq_true hc.1.2
           have hes := Nat.le_of_ble_eq_true hc.2
           obtain ⟨zv, hzc, hzz, hzr, i, hi, hiz⟩ := zero_some (σ := σ) hz
           have hcell : P.cellsOf e = i.size := by simp [Program.cellsOf, hi]
           have hbytes : P.bytesOf e = i.bytes := by simp [Program.bytesOf, hi]
           rw [hcell] at hv hsz hpos hes
           rw [hbytes] at hv
           obtain ⟨σ', w', v', k1, k2, k3, k4⟩ := append_sound (P := P) (ty := o.type) r ht hu (fun k hk => by subst hk; exact hne k rfl) hi hiz (by rw [← hsz, hzc]; simp) hpos (by omega) hs hx hv
           refine does_value ?_ k2 k3 k4
           rw [hrun]
           simp [builtin, k1]
         · simp [noH] at hv
       · simp [noH] at hv
     · simp [noH] at hv
   · simp [noH] at hv
 | copy =>
   simp only at hv
   split at hv
   · rename_i t u s x hts hargs
     obtain ⟨k, hrun⟩ := call_run (P := P) (a := a) hop hcb hargs w
     obtain ⟨hs, hx⟩ := two hargs
     rw [types hts] at hrun
     split at hv
     · rename_i e ht
       split at hv
       · rename_i bb hag
         obtain ⟨i, hi⟩ := agg_info hag
         have hcell : P.cellsOf e = i.size := by simp [Program.cellsOf, hi]
         rw [hcell] at hv
         obtain ⟨w', k1, k2, k3, k4⟩ := copy_sound (P := P) (u := u) (ty := o.type) r ht hi hs hx hv
         refine does_value ?_ k2 k3 k4
         rw [hrun]
         simp [builtin, k1]
       · simp [noH] at hv
     · simp [noH] at hv
   · simp [noH] at hv
 | delete =>
   simp only at hv
   split at hv
   · rename_i t u s x hts hargs
     obtain ⟨k, hrun⟩ := call_run (P := P) (a := a) hop hcb hargs w
     obtain ⟨hs, hx⟩ := two hargs
     rw [types hts] at hrun
     split at hv
     · rename_i kt et ht
       unfold withV at hv
       simp only at hv
       split at hv
       · rename_i h2 hd
         simp only [Option.some.injEq, Prod.mk.injEq] at hv
         obtain ⟨rfl, rfl⟩ := hv
         obtain ⟨w', k1, k3, k4⟩ := del_sound (P := P) (u := u) (ty := o.type) r ht hs hx hd
         refine does_value ?_ (VR.undef σ) k3 k4
         rw [hrun]
         simp [builtin, k1, undef]
       · cases hv
     · simp [noH] at hv
   · simp [noH] at hv
 | clear =>
   simp only at hv
   split at hv
   · rename_i t x hts hargs
     obtain ⟨k, hrun⟩ := call_run (P := P) (a := a) hop hcb hargs w
     have hx := hF x (hk' x (by rw [hargs]; simp))
     rw [types hts] at hrun
     split at hv
     · rename_i kt et ht
       unfold withV at hv
       simp only at hv
       split at hv
       · rename_i h2 hd
         simp only [Option.some.injEq, Prod.mk.injEq] at hv
         obtain ⟨rfl, rfl⟩ := hv
         obtain ⟨w', k1, k3, k4⟩ := clearM_sound (P := P) (ty := o.type) r ht hx hd
         refine does_value ?_ (VR.undef σ) k3 k4
         rw [hrun]
         simp [builtin, k1, undef]
       · cases hv
     · rename_i e ht
       split at hv
       · rename_i z hz
         unfold withV at hv
         simp only at hv
         split at hv
         · rename_i h2 hd
           simp only [Option.some.injEq, Prod.mk.injEq] at hv
           obtain ⟨rfl, rfl⟩ := hv
           obtain ⟨w', k1, k3, k4⟩ := clearS_sound (P := P) (ty := o.type) r ht hz hx hd
           refine does_value ?_ (VR.undef σ) k3 k4
           rw [hrun]
           simp [builtin, k1, undef]
         · cases hv
       · simp [noH] at hv
     · simp [noH] at hv
   · simp [noH] at hv
 | _ => simp [noH] at hv
theorem heavyUpd_sound {sc : Sc} {kn : Operand → Bool} {env : List Value} {tm : T Value} {a : Act} {o : Oper} {t : TypeId} {m k x : Operand} {v : Value} {h h' : H} {w : World} (hF : FR σ sc kn env tm a) (hop : o.op = .mapUpdate t m k x ∨ o.op = .insert t m k x) (hk : o.op.operands.toList.all (kn) = true) (r : Rel σ h w)
   (hv : (heavyUpd P sc t m k x).f env tm h = some (v, h')) : Does P σ h w o a v h' := by
 have hk' : ∀ x, x ∈ o.op.operands.toList → kn x = true := fun x hx => List.all_eq_true.1 hk x hx
 have hm := hF m (hk' m (by rcases hop with hop | hop <;> rw [hop] <;> simp [Op.operands]))
 have hkk := hF k (hk' k (by rcases hop with hop | hop <;> rw [hop] <;> simp [Op.operands]))
 have hx := hF x (hk' x (by rcases hop with hop | hop <;> rw [hop] <;> simp [Op.operands]))
 unfold heavyUpd at hv
 split at hv
 · rename_i kt et ht
   unfold withV at hv
   simp only at hv
   split at hv
   · rename_i h2 hd
     simp only [Option.some.injEq, Prod.mk.injEq] at hv
     obtain ⟨rfl, rfl⟩ := hv
     obtain ⟨w', k1, k3, k4⟩ := upd_sound (P := P) r ht hm hkk hx hd
     refine does_unit (w' := w') ?_ k3 k4
     rcases hop with hop | hop <;> simp [execOp, hop, k1]
   · cases hv
 · simp [noH] at hv
theorem TyR.freeze {w : World} {c : CB} {ty : Option TypeId} (h : TyR w c ty) {x : Addr} {n : Nat} : TyR (w.freeze x n) c ty := by
 cases ty with
 | none => trivial
 | some t =>
   obtain ⟨h0, C, fr, h1⟩ := h
   obtain ⟨fr', h2⟩ := freeze_cells h1 x n
   exact ⟨h0, C, fr', h2⟩
theorem freeze_obj {w : World} {c : CB} {C : Array Value} {t : TypeId} {lo hi : Nat} (hb : w.heap[c.blk]? = some (.cells C t (lo, hi))) {x : AObj} (hx : (∃ cs ty, x = .rw cs ty) ∨ ∃ cs e ty, x = .op cs e ty) (ho : ObjR σ w c x) :
   ObjR σ (w.freeze ⟨c.blk, C.size, none⟩ 1) c x := by
 have hU : Unfz w c.blk := by
   rcases hx with ⟨cs, ty, rfl⟩ | ⟨cs, e, ty, rfl⟩
   · exact ho.2.2.1.2
   · exact ho.2.2.1.2
 obtain ⟨hi', hnew⟩ : ∃ hi', (w.freeze ⟨c.blk, C.size, none⟩ 1).heap[c.blk]? = some (.cells C t (C.size, hi')) := by
   have hmod : ∀ f : Obj → Obj, (w.heap.modify c.blk f)[c.blk]? = some (f (.cells C t (lo, hi))) := fun f => by
     rw [Array.getElem?_modify, if_pos rfl, hb]; rfl
   have hfz : (w.freeze ⟨c.blk, C.size, none⟩ 1).heap[c.blk]? = some (.cells C t (if lo == hi then (C.size, C.size + 1) else (min lo C.size, max hi (C.size + 1)))) := hmod _
   rw [hfz]
   by_cases hl : lo = hi
   · exact ⟨C.size + 1, by simp [hl]⟩
   · have hle := (hU C t lo hi hb).resolve_left hl
     have hmin : min lo C.size = C.size := Nat.min_eq_right hle
     exact ⟨max hi (C.size + 1), by simp [hl, hmin]⟩
 have hcell : ∀ i, (w.freeze ⟨c.blk, C.size, none⟩ 1).cell? ⟨c.blk, i, none⟩ = w.cell? ⟨c.blk, i, none⟩ := fun i => by simp only [World.cell?, hnew, hb]
 have hcs : ∀ cs, cellsR σ w c cs → cellsR σ (w.freeze ⟨c.blk, C.size, none⟩ 1) c cs := fun cs k j v hv => by rw [hcell]; exact k j v hv
 have hth : ∀ o n, There w c.blk o n → There (w.freeze ⟨c.blk, C.size, none⟩ 1) c.blk o n := fun o n k => by
   refine ⟨fun j hj => ⟨by rw [hcell]; exact (k.1 j hj).1, ?_⟩, fun cs2 t2 lo2 hi2 h2 => ?_⟩
   · have h1 := (k.1 j hj).1
     simp only [World.cell?, hb] at h1
     have hlt : o + j < C.size := by
       rcases Nat.lt_or_ge (o + j) C.size with h | h
       · exact h
       · simp [Array.getElem?_eq_none h] at h1
     simp only [World.frozen?, hnew]
     simp; omega
   · rw [hnew] at h2
     simp only [Option.some.injEq, Obj.cells.injEq, Prod.mk.injEq] at h2
     obtain ⟨rfl, _, rfl, _⟩ := h2
     exact .inr (Nat.le_refl _)
 rcases hx with ⟨cs, ty, rfl⟩ | ⟨cs, e, ty, rfl⟩
 · exact ⟨hcs _ ho.1, ho.2.1, hth _ _ ho.2.2.1, ho.2.2.2.freeze⟩
 · exact ⟨hcs _ ho.1, ho.2.1, hth _ _ ho.2.2.1, ho.2.2.2.1, ho.2.2.2.2.freeze⟩
theorem mark_world {h : H} {w : World} (r : Rel σ h w) {B : Nat} {x : AObj} {c : CB} (hx : h.objs.get B = some x) (hk : (∃ cs ty, x = .rw cs ty) ∨ ∃ cs e ty, x = .op cs e ty) (hc : σ B = some c) (o : Nat) :
   ∃ w', (markStringish ⟨c.blk, o, none⟩).run P w = .ok () w' ∧ Rel σ (h.put B x) w' ∧ Ext σ h w σ (h.put B x) w' := by
 obtain ⟨c', hc', ho⟩ := r.obj _ _ hx
 rw [hc] at hc'; cases hc'
 have hm : x.mut = true := by rcases hk with ⟨cs, ty, rfl⟩ | ⟨cs, e, ty, rfl⟩ <;> rfl
 by_cases hs : ∃ C t lo hi, w.heap[c.blk]? = some (.cells C t (lo, hi))
 · obtain ⟨C, t, lo, hi, hb⟩ := hs
   have hsh : w.shape? c.blk = some (t, C.size) := by simp [World.shape?, hb]
   obtain ⟨r1, r2⟩ := r.write (w' := w.freeze ⟨c.blk, C.size, none⟩ 1) hx hm hm hc (freeze_obj hb hk ho) (fun k hk => by
     show (w.heap.modify c.blk _)[k]? = _
     rw [Array.getElem?_modify, if_neg (fun e => hk e.symm)]) (by show (w.heap.modify c.blk _).size = _; simp) rfl rfl rfl
   exact ⟨_, by simp [markStringish, hsh], r1, r2⟩
 · have hsh : w.shape? c.blk = none := by
     unfold World.shape?
     split
     · rename_i C t fr hb
       obtain ⟨lo, hi⟩ := fr
       exact absurd ⟨C, t, lo, hi, hb⟩ hs
     · rfl
   obtain ⟨r1, r2⟩ := r.write (w' := w) hx hm hm hc ho (fun k hk => rfl) rfl rfl rfl rfl
   exact ⟨w, by simp [markStringish, hsh], r1, r2⟩
theorem mark_sound {h h' : H} {w : World} {x x' v : Value} {s e : TypeId} (r : Rel σ h w) (hx : VR σ x x') (hu : P.underlying s = some (.slice e)) (he : P.underlying e = some (.int .u8)) (hm : markV h x = some (v, h')) :
   ∃ w', (convert s s x').run P w = .ok x' w' ∧ VR σ v x' ∧ Rel σ h' w' ∧ Ext σ h w σ h' w' := by
 unfold markV at hm
 split at hm
 · rename_i a n k
   have fin : ∀ (ob : AObj), h.objs.get a.block = some ob → ((∃ cs ty, ob = .rw cs ty) ∨ ∃ cs e ty, ob = .op cs e ty) → ∃ w', (convert s s x').run P w = .ok x' w' ∧ VR σ (.slice (some a) n k) x' ∧ Rel σ (h.put a.block ob) w' ∧ Ext σ h w σ (h.put a.block ob) w' := fun ob ho hk => by
     have go : ∀ (c : CB) (o n' k' : Nat), σ a.block = some c → ∃ w', (convert s s (.slice (some ⟨c.blk, o, none⟩) n' k')).run P w = .ok (.slice (some ⟨c.blk, o, none⟩) n' k') w' ∧ Rel σ (h.put a.block ob) w' ∧ Ext σ h w σ (h.put a.block ob) w' := fun c o n' k' hc => by
       obtain ⟨w', k1, k2, k3⟩ := mark_world (P := P) r ho hk hc o
       exact ⟨w', by simp [convert, run_underlying hu, run_underlying he, k1], k2, k3⟩
     have hx0 := hx
     cases hx with
     | sl B i _ _ c hc hk => obtain ⟨w', k1, k2, k3⟩ := go c _ _ _ hc; exact ⟨w', k1, hx0, k2, k3⟩
     | slO B i _ _ c hc => obtain ⟨w', k1, k2, k3⟩ := go c _ _ _ hc; exact ⟨w', k1, hx0, k2, k3⟩
     | slE B i o c hc => obtain ⟨w', k1, k2, k3⟩ := go c _ _ _ hc; exact ⟨w', k1, hx0, k2, k3⟩
   split at hm
   · rename_i cs ty ho
     simp only [Option.some.injEq, Prod.mk.injEq] at hm
     obtain ⟨rfl, rfl⟩ := hm
     exact fin _ ho (.inl ⟨_, _, rfl⟩)
   · rename_i cs es ty ho
     simp only [Option.some.injEq, Prod.mk.injEq] at hm
     obtain ⟨rfl, rfl⟩ := hm
     exact fin _ ho (.inr ⟨_, _, _, rfl⟩)
   · cases hm
 · cases hm
theorem heavy_sound {sc : Sc} {kn : Operand → Bool} {env : List Value} {tm : T Value} {a : Act} {o : Oper} {v : Value} {h h' : H} {w : World} (hF : FR σ sc kn env tm a) (hk : o.op.operands.toList.all (kn) = true) (r : Rel σ h w) (hnc : ∀ c, o.op ≠ .call c)
   (hv : (heavyB P sc o.op).f env tm h = some (v, h')) : Does P σ h w o a v h' := by
 have hk' : ∀ x, x ∈ o.op.operands.toList → kn x = true := fun x hx => List.all_eq_true.1 hk x hx
 cases hop : o.op with
 | store t p x =>
   rw [hop] at hv hk'
   have hp := hF p (hk' p (by simp [Op.operands]))
   have hx := hF x (hk' x (by simp [Op.operands]))
   simp only [heavyB, heavyStore] at hv
   split at hv
   · rename_i bb hag
     unfold withV at hv
     simp only at hv
     split at hv
     · rename_i h2 hd
       simp only [Option.some.injEq, Prod.mk.injEq] at hv
       obtain ⟨rfl, rfl⟩ := hv
       obtain ⟨w', k1, k3, k4⟩ := store_sound (P := P) r hp hx ⟨bb, hag⟩ hd
       refine does_unit (w' := w') ?_ k3 k4
       simp [execOp, hop, k1]
     · cases hv
   · simp [noH] at hv
 | convert s d x =>
   rw [hop] at hv hk'
   have hx := hF x (hk' x (by simp [Op.operands]))
   simp only [heavyB, heavyMark] at hv
   split at hv
   · rename_i e hsd hu
     have hsd := Nat.eq_of_beq_eq_true hsd
     subst hsd
     split at hv
     · rename_i he
       obtain ⟨w', k1, k2, k3, k4⟩ := mark_sound (P := P) r hx hu he hv
       exact does_value (w' := w') (by simp [execOp, hop, k1]) k2 k3 k4
     · simp [noH] at hv
   · simp [noH] at hv
 | mapUpdate t m k x => rw [hop] at hv; exact heavyUpd_sound hF (.inl hop) hk r hv
 | insert t m k x => rw [hop] at hv; exact heavyUpd_sound hF (.inr hop) hk r hv
 | range t x =>
   rw [hop] at hv hk'
   have hx := hF x (hk' x (by simp [Op.operands]))
   simp only [heavyB, heavyRange] at hv
   split at hv
   · rename_i ht
     simp only [rangeStr] at hv
     split at hv
     · rename_i s hs
       rw [hs] at hx
       simp only [Option.some.injEq, Prod.mk.injEq] at hv
       obtain ⟨rfl, rfl⟩ := hv
       obtain ⟨r1, r2⟩ := r.alloc (.stringIter s 0) (.sit s 0) ⟨w.heap.size, 0, 0, 0⟩ rfl ⟨rfl, heap_new _ _⟩
       refine does_value ?_ (.ptr h.next 0 _ (Sg.upd_same _ _ _)) r1 r2
       simp [execOp, hop, Instr.range, run_underlying ht, hx.string_inv]
     · cases hv
   · rename_i kt et ht
     simp only [rangeMap] at hv
     split at hv
     · rename_i hB
       simp only [Option.some.injEq, Prod.mk.injEq] at hv
       obtain ⟨rfl, rfl⟩ := hv
       rw [hB] at hx
       generalize hm' : a.eval x = m' at hx
       cases hx
       obtain ⟨r1, r2⟩ := r.alloc (.mapIter none 0 #[] 0) .nit ⟨w.heap.size, 0, 0, 0⟩ rfl ⟨rfl, heap_new _ _⟩
       refine does_value ?_ (.ptr h.next 0 _ (Sg.upd_same _ _ _)) r1 r2
       simp [execOp, hop, Instr.range, run_underlying ht, hm']
     · rename_i B hB
       split at hv
       · rename_i es clock hobj
         simp only [Option.some.injEq, Prod.mk.injEq] at hv
         obtain ⟨rfl, rfl⟩ := hv
         rw [hB] at hx
         generalize hm' : a.eval x = m' at hx
         cases hx with
         | map _ c hc h0 =>
           obtain ⟨es', hb, he⟩ := map_obj r hobj hc
           have hle := Sg.le_upd (σ := σ) (B := h.next) ⟨w.heap.size, 0, 0, 0⟩ (r.fresh _ (Nat.le_refl _))
           obtain ⟨r1, r2⟩ := r.alloc (.mapIter (some c.blk) clock #[] clock) (.mit B clock [] clock) ⟨w.heap.size, 0, 0, 0⟩ rfl ⟨rfl, c, hle _ _ hc, h0, heap_new _ _⟩
           refine does_value ?_ (.ptr h.next 0 _ (Sg.upd_same _ _ _)) r1 r2
           simp [execOp, hop, Instr.range, run_underlying ht, hm', run_getObj_map hb]
       · cases hv
     · cases hv
   · simp [noH] at hv
 | call c => exact absurd hop (hnc c)
 | _ => rw [hop] at hv; simp [heavyB, noH] at hv
theorem EsR.filter {p p' : MapEntry → Bool} (hp : ∀ e e' : MapEntry, e.born = e'.born → p e = p' e') : ∀ {l l' : List MapEntry}, EsR σ l l' → EsR σ (l.filter p) (l'.filter p')
 | [], l', h => by rw [h.nil_left]; exact ⟨rfl, fun i x y hx => by simp at hx⟩
 | x :: l, l', h => by
   obtain ⟨y, r, rfl, h1, h2⟩ := h.uncons
   have ih := EsR.filter hp h2
   rw [List.filter_cons, List.filter_cons, ← hp x y h1.born]
   split
   · refine ⟨by simp [ih.1], fun i a b ha hb => ?_⟩
     cases i with
     | zero => simp at ha hb; subst ha; subst hb; exact h1
     | succ i => exact ih.2 i a b (by simpa using ha) (by simpa using hb)
   · exact ih
theorem EsR.append {a a' b b' : List MapEntry} (h : EsR σ a a') (k : EsR σ b b') : EsR σ (a ++ b) (a' ++ b') := by
 have hl := h.1
 refine ⟨by simp [h.1, k.1], fun i x y hx hy => ?_⟩
 by_cases hi : i < a.length
 · rw [List.getElem?_append_left hi] at hx; rw [List.getElem?_append_left (by omega)] at hy; exact h.2 i x y hx hy
 · rw [List.getElem?_append_right (by omega)] at hx; rw [List.getElem?_append_right (by omega)] at hy
   rw [hl] at hx; exact k.2 _ x y hx hy
theorem allK_mem {K : KV} : ∀ {l : List (Value × H)}, allK K l = true → ∀ p ∈ l, K p.1 p.2 = true
 | [], _, p, hp => by cases hp
 | (v, h) :: r, hh, p, hp => by
   unfold allK at hh
   split at hh
   · rename_i hk
     simp only [List.mem_cons] at hp
     rcases hp with rfl | hp
     · exact hk
     · exact allK_mem hh p hp
   · cases hh
theorem memN_eq (x : Nat) : ∀ l : List Nat, memN x l = l.contains x
 | [] => rfl
 | y :: r => by
   unfold memN
   rw [List.contains_cons]
   split
   · rename_i h; rw [Nat.eq_of_beq_eq_true h]; simp
   · rename_i h
     have : (x == y) = false := by rw [beqN]; exact h
     rw [this, memN_eq x r]; rfl
theorem run_setObj_iter {w : World} {b : Nat} {x : Obj} (h : w.heap[b]? = some x) (hx : ∀ c t f, x ≠ .cells c t f) (o : Obj) : (setObj b o).run P w = .ok () { w with heap := w.heap.setIfInBounds b o } := by
 cases x with
 | cells c t f => exact absurd rfl (hx c t f)
 | _ => simp [setObj, Sem.run, h]
theorem run_getObj_iter {w : World} {b : Nat} {x : Obj} (h : w.heap[b]? = some x) (hx : ∀ c t f, x ≠ .cells c t f) : (getObj b).run P w = .ok x w := by
 cases x with
 | cells c t f => exact absurd rfl (hx c t f)
 | _ => simp [getObj, Sem.run, h]
theorem iter_write {h : H} {w : World} (r : Rel σ h w) {B : Nat} {x y : AObj} {o : Obj} {c : CB} (hx : h.objs.get B = some x) (hm : x.mut = true) (hmy : y.mut = true) (hc : σ B = some c)
   (hy : ∀ w' : World, w'.heap[c.blk]? = some o → ObjR σ w' c y) : Rel σ (h.put B y) { w with heap := w.heap.setIfInBounds c.blk o } ∧ Ext σ h w σ (h.put B y) { w with heap := w.heap.setIfInBounds c.blk o } := by
 refine r.write hx hm hmy hc (hy _ (by simp [r.inb _ _ hc])) (fun k hk => ?_) (by simp) rfl rfl rfl
 simp only [Array.getElem?_setIfInBounds]; rw [if_neg (fun e => hk e.symm)]
theorem next_sound {st : Bool} {ty : TypeId} {h : H} {it it' : Value} {K : KV} {w : World} (r : Rel σ h w) (hx : VR σ it it') (hv : nextV st h it K = true) :
   ∃ v v' h' w', (Instr.next it' st ty).run P w = .ok v' w' ∧ K v h' = true ∧ VR σ v v' ∧ Rel σ h' w' ∧ Ext σ h w σ h' w' := by
 unfold nextV at hv
 split at hv
 · rename_i rr
   split at hv
   · rename_i s pos hobj
     split at hv
     · cases hx with
       | ptr B i c hc =>
         obtain ⟨c', hc', h0, hb⟩ := r.obj _ _ hobj
         rw [hc] at hc'; cases hc'
         have hoff : c.off + 0 = 0 := by omega
         have hg := run_getObj_iter (P := P) hb (by simp)
         unfold nextStr at hv
         split at hv
         · rename_i hlt
           have hlt : pos < s.size := Nat.le_of_ble_eq_true hlt
           split at hv
           rename_i cc ww hdec
           obtain ⟨r1, r2⟩ := iter_write (y := .sit s (pos + ww)) (o := .stringIter s (pos + ww)) r hobj rfl rfl hc (fun w' hw' => ⟨h0, hw'⟩)
           refine ⟨_, .tuple #[.bool true, .int .i64 pos, .int .i32 cc], _, _, ?_, hv, VR.tuple_of (LR.cons (.bool _) (LR.cons (.int _ _) (LR.cons (.int _ _) (LR.nil _)))), r1, r2⟩
           simp [Instr.next, hoff, hg, hlt, hdec, run_setObj_iter (P := P) hb (by simp), goInt]
         · rename_i hlt
           have hlt : ¬ pos < s.size := fun hh => by rw [Nat.ble_eq_true_of_le hh] at hlt; cases hlt
           refine ⟨_, .tuple #[.bool false], _, w, ?_, hv, VR.tuple_of (LR.cons (.bool _) (LR.nil _)), r, .refl _ _ _⟩
           simp [Instr.next, hoff, hg, hlt]
     · cases hv
   · rename_i m since seen last hobj
     split at hv
     · cases hv
     · cases hx with
       | ptr B i c hc =>
         obtain ⟨c', hc', h0, cm, g1, g2, hb⟩ := r.obj _ _ hobj
         rw [hc] at hc'; cases hc'
         have hoff : c.off + 0 = 0 := by omega
         have hg := run_getObj_iter (P := P) hb (by simp)
         unfold nextMap at hv
         split at hv
         · rename_i es clock hm
           obtain ⟨es', hbm, he⟩ := map_obj r hm g1
           have hall : (seen.toArray.isEmpty = seen.isEmpty) ∧ es'.isEmpty = es.isEmpty ∧ es'.all (fun e => decide (e.born ≥ last)) = es.all (fun e => Nat.ble last e.born) := by
             refine ⟨by simp, ?_, ?_⟩
             · have hl := he.1
               rw [Bool.eq_iff_iff, Array.isEmpty_iff, List.isEmpty_iff]
               constructor
               · intro h; rw [h] at hl; simpa using hl
               · intro h; rw [h] at hl
                 have h3 : es'.toList.length = 0 := by simpa using hl.symm
                 exact Array.eq_empty_of_size_eq_zero (by simpa using h3)
             · rw [← Array.all_toList]
               have : ∀ (l l' : List MapEntry), EsR σ l l' → l'.all (fun e => decide (e.born ≥ last)) = l.all (fun e => Nat.ble last e.born) := by
                 intro l
                 induction l with
                 | nil => intro l' h; rw [h.nil_left]; rfl
                 | cons x l ih =>
                   intro l' h
                   obtain ⟨y, r', rfl, h1, h2⟩ := h.uncons
                   rw [List.all_cons, List.all_cons, ih r' h2, h1.born]
                   congr 1
                   rw [Bool.eq_iff_iff]
                   simp [Nat.ble_eq]
               exact this _ _ he
           split at hv
           · cases hv
           · rename_i hcond
             have hleft := EsR.filter (σ := σ) (p := fun e => !memN e.born seen) (p' := fun e => !seen.toArray.contains e.born) (fun e e' hb => by rw [memN_eq, hb]; simp) he
             have hold := EsR.filter (σ := σ) (p := fun e => Nat.ble (e.born + 1) since) (p' := fun e => decide (e.born < since)) (fun e e' hb => by rw [hb, Bool.eq_iff_iff]; simp [Nat.ble_eq]; omega) hleft
             have hnew := EsR.filter (σ := σ) (p := fun e => Nat.ble since e.born) (p' := fun e => decide (e.born ≥ since)) (fun e e' hb => by rw [hb, Bool.eq_iff_iff]; simp [Nat.ble_eq]) hleft
             have hon := hold.append hnew
             simp only at hv
             generalize hO : (es.filter fun e => !memN e.born seen).filter (fun e => Nat.ble (e.born + 1) since) = O at hv hold hon
             generalize hN : (es.filter fun e => !memN e.born seen).filter (fun e => Nat.ble since e.born) = N at hv hnew hon
             let L' : Array MapEntry := es'.filter fun e => !seen.toArray.contains e.born
             let O' : Array MapEntry := L'.filter fun e => decide (e.born < since)
             let N' : Array MapEntry := L'.filter fun e => decide (e.born ≥ since)
             have hO' : EsR σ O O'.toList := by simpa [O', L'] using hold
             have hN' : EsR σ N N'.toList := by simpa [N', L'] using hnew
             have hON : EsR σ (O ++ N) (O' ++ N').toList := by have := hO'.append hN'; simpa using this
             let C' : Array (Option MapEntry) := (if O'.isEmpty then #[none] else #[]) ++ (O' ++ N').map some
             have hempty : O'.isEmpty = true ↔ O = [] := by
               have := hO'.1
               rw [Array.isEmpty_iff]
               constructor
               · intro h; rw [h] at this; simpa using this
               · intro h; rw [h] at this
                 have h3 : O'.toList.length = 0 := by simpa using this.symm
                 exact Array.eq_empty_of_size_eq_zero (by simpa using h3)
             have hlen : 0 < C'.size := by
               by_cases hq : O'.isEmpty = true
               · simp [C', hq]; omega
               · have : O'.size ≠ 0 := fun h => hq (by rw [Array.isEmpty_iff]; exact Array.eq_empty_of_size_eq_zero h)
                 simp only [C', hq]; simp; omega
             obtain ⟨k, w1, hk, hw1, hch⟩ : ∃ k w1, k < C'.size ∧ (w1 = w ∨ w1 = w.drew) ∧ (choose (.mapNext C'.size)).run P w = .ok k w1 := by
               rw [run_choose]
               by_cases hf : (Question.mapNext C'.size).forced = true
               · exact ⟨0, w, hlen, .inl rfl, by rw [if_pos hf]⟩
               · exact ⟨_, w.drew, Nat.mod_lt _ hlen, .inr rfl, by rw [if_neg hf]; rfl⟩
             have hrw : Rel σ h w1 ∧ Ext σ h w σ h w1 ∧ w1.heap = w.heap := by
               rcases hw1 with rfl | rfl
               · exact ⟨r, .refl _ _ _, rfl⟩
               · exact ⟨r.drew, .drew _ _ _, rfl⟩
             have hrun : (Instr.next (.pointer (some ⟨c.blk, c.off + 0, none⟩)) false ty).run P w = (match C'[k]? with
                 | some (some e) => (do setObj c.blk (.mapIter (some cm.blk) since (seen.toArray.push e.born) clock); pure (.tuple #[.bool true, e.key, e.val]) : Sem Value).run P w1
                 | some none => .ok (.tuple #[.bool false]) w1
                 | none => (stuck "Next: no such candidate" : Sem Value).run P w1) := by
               have hcd : (!seen.toArray.isEmpty && !es'.isEmpty && es'.all (fun e => decide (e.born ≥ last))) = false := by
                 rw [hall.1, hall.2.1, hall.2.2]; exact hcond
               simp only [Instr.next, hoff, Sem.run_bind, hg, Result.andThen_ok, run_getObj_map hbm, hcd, Bool.false_eq_true, if_false]
               show ((choose (.mapNext C'.size)).run P w).andThen _ = _
               rw [hch]
               simp only [Result.andThen_ok]
               show Sem.run P (match C'[k]? with | some (some e) => _ | some none => _ | none => _) w1 = _
               cases C'[k]? with
               | none => rfl
               | some x => cases x with
                 | none => rfl
                 | some e => simp only [Sem.run_bind]
             have hmem := allK_mem hv
             cases hck : C'[k]? with
             | none => rw [Array.getElem?_eq_none_iff] at hck; omega
             | some x =>
               cases x with
               | none =>
                 have hoe : O = [] := by
                   by_cases hq : O'.isEmpty = true
                   · exact hempty.1 hq
                   · exfalso
                     have hnone := Array.mem_of_getElem? hck
                     simp [C', hq] at hnone
                 rw [hck] at hrun
                 refine ⟨.tuple #[.bool false], .tuple #[.bool false], h, w1, hrun, ?_, VR.tuple_of (LR.cons (.bool _) (LR.nil _)), hrw.1, hrw.2.1⟩
                 exact hmem (.tuple #[.bool false], h) (by simp [hoe])
               | some e' =>
                 have hin : e' ∈ (O' ++ N').toList := by
                   have hsome := Array.mem_of_getElem? hck
                   by_cases hq : O'.isEmpty = true <;> simpa [C', hq] using hsome
                 obtain ⟨j, hj, hje⟩ := List.getElem_of_mem hin
                 have hj2 : j < (O ++ N).length := by rw [hON.1]; exact hj
                 have her := hON.2 j (O ++ N)[j] e' (List.getElem?_eq_getElem hj2) (by rw [List.getElem?_eq_getElem hj, hje])
                 have hinA : (O ++ N)[j] ∈ O ++ N := List.getElem_mem hj2
                 rw [hck] at hrun
                 have hb1 : w1.heap[c.blk]? = some (.mapIter (some cm.blk) since seen.toArray last) := by rw [hrw.2.2]; exact hb
                 obtain ⟨r1, r2⟩ := iter_write (y := .mit m since (seen ++ [(O ++ N)[j].born]) clock) (o := .mapIter (some cm.blk) since (seen.toArray.push e'.born) clock) hrw.1 hobj rfl rfl hc
                   (fun w' hw' => ⟨h0, cm, g1, g2, by rw [hw', her.born]; simp⟩)
                 refine ⟨.tuple #[.bool true, (O ++ N)[j].key, (O ++ N)[j].val], .tuple #[.bool true, e'.key, e'.val], _, _, ?_, ?_, VR.tuple_of (LR.cons (.bool _) (LR.cons her.key (LR.cons her.val (LR.nil _)))), r1, hrw.2.1.trans r2⟩
                 · rw [hrun]
                   simp [run_setObj_iter (P := P) hb1 (by simp)]
                 · refine hmem (_, _) ?_
                   rw [List.mem_append]
                   right
                   rw [List.mem_map]
                   exact ⟨_, hinA, rfl⟩
         · cases hv
   · rename_i hobj
     split at hv
     · cases hv
     · cases hx with
       | ptr B i c hc =>
         obtain ⟨c', hc', h0, hb⟩ := r.obj _ _ hobj
         rw [hc] at hc'; cases hc'
         have hoff : c.off + 0 = 0 := by omega
         have hg := run_getObj_iter (P := P) hb (by simp)
         refine ⟨_, .tuple #[.bool false], _, w, ?_, hv, VR.tuple_of (LR.cons (.bool _) (LR.nil _)), r, .refl _ _ _⟩
         simp [Instr.next, hoff, hg]
   · cases hv
 · cases hv
end Go.Ev
