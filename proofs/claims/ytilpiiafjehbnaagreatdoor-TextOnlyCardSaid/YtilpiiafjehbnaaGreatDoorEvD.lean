import Derived.Test.YtilpiiafjehbnaaGreatDoorEvC
namespace Go.Ev
open Go.RowKit
set_option linter.unusedSimpArgs false
set_option linter.unusedVariables false
variable {P : Program} {σ : Sg}
theorem extract_eq (s : ByteArray) (l h : Nat) : (⟨((s.data.toList.drop l).take (h - l)).toArray⟩ : ByteArray) = s.extract l h := by
 apply ByteArray.ext
 apply Array.ext'
 rw [Lib.extract_data]
theorem addOff_eq (b o n : Nat) : addOff ⟨b, o, none⟩ n = ⟨b, o + n, none⟩ := rfl
def Gives (P : Program) (σ : Sg) (v : Value) (s : Sem Value) : Prop := ∃ v', VR σ v v' ∧ ∀ w, s.run P w = .ok v' w
theorem OR'.none_inv {x : Option Value} (h : OR' σ none x) : x = none := by cases x with | none => rfl | some => exact h.elim
theorem sliceStr_sound {x x' v : Value} {t : TypeId} {olo ohi omx olo' ohi' omx' : Option Value} (hx : VR σ x x') (h1 : OR' σ olo olo') (h2 : OR' σ ohi ohi') (h3 : OR' σ omx omx')
   (hu : P.underlying t = some .string) (h : sliceStr x olo ohi omx = some v) : Gives P σ v (Instr.sliceAt t x' olo' ohi' omx') := by
 unfold sliceStr at h
 split at h
 · rename_i s
   split at h
   · rename_i l hh m hb
     cases h
     have e := hx.string_inv
     subst e
     have hm := h3.none_inv
     subst hm
     refine ⟨_, .string _, fun w => ?_⟩
     obtain ⟨hr, _⟩ := bnds_some (P := P) hb h1 h2 h3 false w
     simp [Instr.sliceAt, Instr.slice, run_underlying hu, hr, extract_eq]
   · cases h
 · cases h
theorem bnds_more {olo ohi : Option Value} {len M l hh m cap' : Nat} (hb : bnds olo ohi none len M = some (l, hh, m)) (hc : M ≤ cap') : bnds olo ohi none len cap' = some (l, hh, cap') := by
 unfold bnds at hb ⊢
 simp only [bnd] at hb ⊢
 cases ohi with
 | none =>
   simp only at hb ⊢
   split at hb
   · rename_i l' hl'
     simp only [Option.some.injEq, Prod.mk.injEq] at hb
     obtain ⟨rfl, rfl, _⟩ := hb
     simp only [hl']
   · cases hb
 | some vh =>
   simp only at hb ⊢
   cases hn : asNat vh with
   | none => rw [hn] at hb; cases hb
   | some n =>
     rw [hn] at hb
     simp only at hb ⊢
     cases hble : Nat.ble n M with
     | false => rw [hble] at hb; cases hb
     | true =>
       rw [hble] at hb
       simp only at hb
       have := Nat.le_of_ble_eq_true hble
       rw [Nat.ble_eq_true_of_le (Nat.le_trans this hc)]
       simp only
       split at hb
       · rename_i l' hl'
         simp only [Option.some.injEq, Prod.mk.injEq] at hb
         obtain ⟨rfl, rfl, _⟩ := hb
         simp only [hl']
       · cases hb
theorem bnd_more {x : Value} {d y n : Nat} (h : bnd (some x) d y = some n) : n ≤ y ∧ ∀ d' y', y ≤ y' → bnd (some x) d' y' = some n := by
 simp only [bnd] at h ⊢
 cases hq : asNat x with
 | none => rw [hq] at h; cases h
 | some k =>
   rw [hq] at h
   simp only at h ⊢
   split at h
   · rename_i hb
     have hb := Nat.le_of_ble_eq_true hb
     simp only [Option.some.injEq] at h; subst h
     refine ⟨hb, fun d' y' hy => ?_⟩
     rw [Nat.ble_eq_true_of_le (Nat.le_trans hb hy)]
   · cases h
theorem bnds_moreM {lo hi : Option Value} {x : Value} {len k l h m : Nat} (hb : bnds lo hi (some x) len len = some (l, h, m)) (hk : len ≤ k) : bnds lo hi (some x) len k = some (l, h, m) := by
 cases hi with
 | none => simp [bnds] at hb
 | some vh =>
   simp only [bnds] at hb ⊢
   cases hm0 : bnd (some x) len len with
   | none => rw [hm0] at hb; cases hb
   | some m0 =>
     rw [hm0] at hb
     rw [(bnd_more hm0).2 k k hk]
     exact hb
theorem bnds_max {lo hi : Option Value} {x : Value} {len l h m : Nat} (hb : bnds lo hi (some x) len len = some (l, h, m)) : m ≤ len := by
 cases hi with
 | none => simp [bnds] at hb
 | some vh =>
   simp only [bnds] at hb
   cases hm0 : bnd (some x) len len with
   | none => rw [hm0] at hb; cases hb
   | some m0 =>
     rw [hm0] at hb
     have := (bnd_more hm0).1
     simp only at hb
     split at hb
     · split at hb
       · simp only [Option.some.injEq, Prod.mk.injEq] at hb; omega
       · cases hb
     · cases hb
theorem sliceSl_sound {x x' v : Value} {t e : TypeId} {b : Bool} {olo ohi omx olo' ohi' omx' : Option Value} (hx : VR σ x x') (h1 : OR' σ olo olo') (h2 : OR' σ ohi ohi') (h3 : OR' σ omx omx')
   (hu : P.underlying t = some (.slice e)) (he : isAgg? P e = some b) (h : sliceSl (P.cellsOf e) x olo ohi omx = some v) : Gives P σ v (Instr.sliceAt t x' olo' ohi' omx') := by
 unfold sliceSl at h
 split at h
 case h_2 => cases h
 rename_i a len cap
 have key : ∀ (a' : Option Addr) (cap' l hh m : Nat), (∀ w, (Instr.sliceBounds true len cap' olo' ohi' omx').run P w = .ok (l, hh, m) w) →
     ∀ w, (Instr.sliceAt t (.slice a' len cap') olo' ohi' omx').run P w = .ok (.slice (if m = l then a' else a'.map (·.add (l * P.cellsOf e))) (hh - l) (m - l)) w := by
   intro a' cap' l hh m hr w
   simp [Instr.sliceAt, Instr.slice, run_underlying hu, hr, run_sizeOf' he]
 cases hO : Nat.ble OPEN cap with
 | true =>
   rw [hO] at h
   cases omx with
   | some mm =>
     simp only at h
     split at h
     · rename_i l hh m hbe hb
       simp only [Bool.and_eq_true] at hbe
       have hcap := Nat.eq_of_beq_eq_true hbe.1.1
       have h1len := Nat.le_of_ble_eq_true hbe.1.2
       have h63 := Nat.le_of_ble_eq_true hbe.2
       cases a with
       | none => cases h
       | some a =>
         obtain ⟨_, hlh, hm2, hd, hle⟩ := bnds_some (P := P) hb h1 h2 h3 true default
         have hml : m ≤ len := bnds_max hb
         cases hx with
         | sl B i n k c hc hk =>
           have := Nat.le_of_ble_eq_true hO
           omega
         | slE B i o c hc hi => omega
         | slO B i n k c hc hn hk lb hl he =>
           rw [szOf_opCap he] at hcap
           have hsz : P.cellsOf e = c.esz := hcap.symm
           have hr := fun w => (bnds_some (P := P) (bnds_moreM hb hn) h1 h2 h3 true w).1
           cases hbm : Nat.beq m l with
           | true =>
             simp only [hbm] at h
             simp only [Option.some.injEq] at h; subst h
             have e1 := Nat.eq_of_beq_eq_true hbm
             refine ⟨_, ?_, key _ _ _ _ _ hr⟩
             rw [if_pos e1, show m - l = 0 by omega]
             exact .sl B i _ 0 c hc (by unfold OPEN; omega)
           | false =>
             simp only [hbm] at h
             simp only [Option.some.injEq] at h; subst h
             have e1 := Nat.ne_of_beq_eq_false hbm
             refine ⟨_, ?_, key _ _ _ _ _ hr⟩
             rw [if_neg e1, addOff_eq]
             simp only [Option.map_some, Addr.add_mid]
             rw [Nat.add_assoc]
             exact .sl B _ _ _ c hc (by unfold OPEN; omega)
     · cases h
   | none =>
     simp only at h
     split at h
     · rename_i l hh m hbe hb
       cases a with
       | none => cases h
       | some a =>
         simp only [Option.some.injEq] at h; subst h
         have hm := h3.none_inv
         subst hm
         have hcap := Nat.eq_of_beq_eq_true hbe
         obtain ⟨_, hlh, hm2, hd, hle⟩ := bnds_some (P := P) hb h1 h2 h3 true default
         have bounds : ∀ cap', Nat.max len (lbOf cap) ≤ cap' → ∀ w, (Instr.sliceBounds true len cap' olo' ohi' none).run P w = .ok (l, hh, cap') w := fun cap' hc w =>
           (bnds_some (P := P) (bnds_more hb hc) h1 h2 h3 true w).1
         cases hx with
         | sl B i n k c hc hk =>
           have := Nat.le_of_ble_eq_true hO
           omega
         | slO B i n k c hc hn hk lb hl he =>
           rw [szOf_opCap he] at hcap
           rw [lbOf_opCap he] at hm2 bounds
           have hsz : P.cellsOf e = c.esz := hcap.symm
           have hM : Nat.max len lb ≤ k := Nat.max_le.2 ⟨hn, hl⟩
           have hlen : len ≤ Nat.max len lb := Nat.le_max_left _ _
           have hhk : hh ≤ k := by rcases hle with h | h <;> omega
           by_cases hml : k = l
           · refine ⟨_, ?_, key _ _ _ _ _ (bounds k hM)⟩
             rw [if_pos hml]
             rw [show hh - l = 0 by omega, show k - l = 0 by omega, show m - l = 0 by omega, addOff_eq, hsz]
             exact .slE B _ _ c hc (by rw [← hk, hml]) he
           · refine ⟨_, ?_, key _ _ _ _ _ (bounds k hM)⟩
             rw [if_neg hml, addOff_eq]
             simp only [Option.map_some, Addr.add_mid]
             rw [hsz, Nat.add_assoc]
             refine .slO B _ _ _ c hc (by omega) ?_ _ (by omega) he
             have : (k - l) * c.esz = k * c.esz - l * c.esz := Nat.sub_mul _ _ _
             have hle2 : l * c.esz ≤ k * c.esz := Nat.mul_le_mul_right _ (by omega)
             omega
         | slE B i o c hc hi he =>
           rw [szOf_opCap he] at hcap
           rw [lbOf_opCap he] at hm2 bounds
           have hsz : P.cellsOf e = c.esz := hcap.symm
           have hM0 : Nat.max 0 0 = 0 := rfl
           rw [hM0] at hm2 bounds
           have : l = 0 := by rcases hle with h | h <;> omega
           subst this
           have : hh = 0 := by rcases hle with h | h <;> omega
           subst this
           refine ⟨_, ?_, key _ _ _ _ _ (bounds 0 (Nat.le_refl _))⟩
           rw [if_pos rfl, addOff_eq, hsz, show m - 0 = 0 by omega]
           exact .slE B _ _ c hc (by omega) he
     · cases h
 | false =>
   rw [hO] at h
   simp only at h
   split at h
   · rename_i l hh m hb
     obtain ⟨_, hlh, hm, _, _⟩ := bnds_some (P := P) hb h1 h2 h3 true default
     have hr := fun w => (bnds_some (P := P) hb h1 h2 h3 true w).1
     have hcap : cap < OPEN := by
       rcases Nat.lt_or_ge cap OPEN with h | h
       · exact h
       · rw [Nat.ble_eq_true_of_le h] at hO; cases hO
     cases hbe : Nat.beq m l with
     | true =>
       rw [hbe] at h
       have hml := Nat.eq_of_beq_eq_true hbe
       simp only [Option.some.injEq] at h; subst h
       cases hx with
       | slNil n c =>
         refine ⟨_, ?_, key _ _ _ _ _ hr⟩
         rw [if_pos hml, show m - l = 0 by omega]
         exact .slNil _ _
       | sl B i n k c hc hk =>
         refine ⟨_, ?_, key _ _ _ _ _ hr⟩
         rw [if_pos hml, show m - l = 0 by omega]
         exact .sl B i _ 0 c hc (by unfold OPEN; omega)
       | slO B i n k c hc hn hk lb hl he => have := open_opCap lb c.esz; omega
       | slE B i o c hc hi he => have := open_opCap 0 c.esz; omega
     | false =>
       rw [hbe] at h
       have hml := Nat.ne_of_beq_eq_false hbe
       simp only [Option.some.injEq] at h; subst h
       cases hx with
       | slNil n c =>
         refine ⟨_, ?_, key _ _ _ _ _ hr⟩
         rw [if_neg hml]
         exact .slNil _ _
       | sl B i n k c hc hk =>
         refine ⟨_, ?_, key _ _ _ _ _ hr⟩
         rw [if_neg hml]
         simp only [Option.map_some, Addr.add_mid, addOff_eq]
         rw [Nat.add_assoc]
         exact .sl B _ _ _ c hc (by omega)
       | slO B i n k c hc hn hk lb hl he => have := open_opCap lb c.esz; omega
       | slE B i o c hc hi he => have := open_opCap 0 c.esz; omega
   · cases h
theorem sliceArr_sound {x x' v : Value} {t e : TypeId} {b : Bool} {n : Nat} {olo ohi omx olo' ohi' omx' : Option Value} (hx : VR σ x x') (h1 : OR' σ olo olo') (h2 : OR' σ ohi ohi') (h3 : OR' σ omx omx')
   (hu : P.underlying t = some (.array n e)) (he : isAgg? P e = some b) (hn : Nat.ble OPEN n = false) (h : sliceArr (P.cellsOf e) n x olo ohi omx = some v) : Gives P σ v (Instr.sliceAt t x' olo' ohi' omx') := by
 have hn : n < OPEN := by
   rcases Nat.lt_or_ge n OPEN with h | h
   · exact h
   · rw [Nat.ble_eq_true_of_le h] at hn; cases hn
 unfold sliceArr at h
 split at h
 · rename_i a
   split at h
   · rename_i l hh m hb
     obtain ⟨_, hlh, hm, _, _⟩ := bnds_some (P := P) hb h1 h2 h3 false default
     have hr := fun w => (bnds_some (P := P) hb h1 h2 h3 false w).1
     cases hx with
     | ptr B i c hc =>
       have key : ∀ w, (Instr.sliceAt t (.pointer (some ⟨c.blk, c.off + i, none⟩)) olo' ohi' omx').run P w = .ok (.slice (some (if m = l then ⟨c.blk, c.off + i, none⟩ else Addr.add ⟨c.blk, c.off + i, none⟩ (l * P.cellsOf e))) (hh - l) (m - l)) w := fun w => by
         simp [Instr.sliceAt, Instr.sureAddr, run_underlying hu, hr, run_sizeOf' he]
       cases hbe : Nat.beq m l with
       | true =>
         rw [hbe] at h
         have hml := Nat.eq_of_beq_eq_true hbe
         simp only [Option.some.injEq] at h; subst h
         refine ⟨_, ?_, key⟩
         rw [if_pos hml, show m - l = 0 by omega]
         exact .sl B i _ 0 c hc (by unfold OPEN; omega)
       | false =>
         rw [hbe] at h
         have hml := Nat.ne_of_beq_eq_false hbe
         simp only [Option.some.injEq] at h; subst h
         refine ⟨_, ?_, key⟩
         rw [if_neg hml, Addr.add_mid, addOff_eq, Nat.add_assoc]
         exact .sl B _ _ _ c hc (by omega)
   · cases h
 · cases h
theorem asIntOf_run {k : IntKind} {n : Int} (w : World) : (asIntOf (.int k n)).run P w = .ok (k, n) w := rfl
theorem indexSl_sound {x x' i i' v : Value} {t e : TypeId} {b : Bool} (hx : VR σ x x') (hi : VR σ i i') (hu : P.underlying t = some (.slice e)) (he : isAgg? P e = some b)
   (h : indexSl (P.cellsOf e) x i = some v) : Gives P σ v (Instr.indexAt t x' i') := by
 unfold indexSl at h
 split at h
 · rename_i a len cap
   split at h
   · rename_i k hk
     obtain ⟨kd, rfl⟩ := asNat_some hk
     have := hi.int_inv; subst this
     split at h
     · rename_i hb
       have hlt := Nat.le_of_ble_eq_true hb
       simp only [Option.some.injEq] at h; subst h
       have fin : ∀ (blk o cap' : Nat) w, (Instr.indexAt t (.slice (some ⟨blk, o, none⟩) len cap') (.int kd (k : Int))).run P w = .ok (.pointer (some ⟨blk, o + k * P.cellsOf e, none⟩)) w := by
         intro blk o cap' w
         simp [Instr.indexAt, asIntOf, run_underlying hu, run_sizeOf' he, Addr.add_mid]
         omega
       cases hx with
       | sl B i n kk c hc _ => exact ⟨_, by rw [addOff_eq, ]; exact .ptr B _ c hc, fun w => by rw [fin, Nat.add_assoc]⟩
       | slO B i n kk c hc _ _ => exact ⟨_, by rw [addOff_eq]; exact .ptr B _ c hc, fun w => by rw [fin, Nat.add_assoc]⟩
       | slE => omega
     · cases h
   · cases h
 · cases h
theorem indexArr_sound {x x' i i' v : Value} {t e : TypeId} {b : Bool} {n : Nat} (hx : VR σ x x') (hi : VR σ i i') (hu : P.underlying t = some (.array n e)) (he : isAgg? P e = some b)
   (h : indexArr (P.cellsOf e) n x i = some v) : Gives P σ v (Instr.indexAt t x' i') := by
 unfold indexArr at h
 split at h
 · rename_i a
   split at h
   · rename_i k hk
     obtain ⟨kd, rfl⟩ := asNat_some hk
     have := hi.int_inv; subst this
     split at h
     · rename_i hb
       have hlt := Nat.le_of_ble_eq_true hb
       simp only [Option.some.injEq] at h; subst h
       cases hx with
       | ptr B i c hc =>
         refine ⟨_, by rw [addOff_eq]; exact .ptr B _ c hc, fun w => ?_⟩
         rw [← Nat.add_assoc]
         simp [Instr.indexAt, Instr.sureAddr, asIntOf, run_underlying hu, run_sizeOf' he, Addr.add_mid]
         omega
     · cases h
   · cases h
 · cases h
theorem partV_sound {t : TypeId} {b : Bool} {cs cs' : List Value} {off : Nat} {v : Value} (hc : LR σ cs cs') (he : isAgg? P t = some b) (h : partV b (P.cellsOf t) cs off = some v) :
   Gives P σ v (part t cs'.toArray off) := by
 unfold partV at h
 cases b with
 | true =>
   simp only at h
   split at h
   · rename_i r hr
     split at h
     · rename_i l hl
       simp only [Option.some.injEq] at h; subst h
       obtain ⟨_, rfl⟩ := cut_some hr
       obtain ⟨_, rfl⟩ := takeN_some hl
       refine ⟨_, VR.agg_of ((hc.drop off).take (P.cellsOf t)), fun w => ?_⟩
       simp [part, run_isAgg' he, run_sizeOf' he]
     · cases h
   · cases h
 | false =>
   simp only [nth_eq] at h
   obtain ⟨y, hy, hv⟩ := hc.get h
   refine ⟨y, hv, fun w => ?_⟩
   simp [part, run_isAgg' he, hy]
theorem fieldOf_sound {x x' v : Value} {t : TypeId} {f : Nat} {fs : Array Field} {fd : Field} {b : Bool} (hx : VR σ x x') (hu : P.underlying t = some (.struct fs)) (hf : fs[f]? = some fd)
   (he : isAgg? P fd.type = some b) (h : fieldOf b (P.cellsOf fd.type) fd.offset x = some v) : Gives P σ v (Instr.field t x' f) := by
 unfold fieldOf at h
 split at h
 · rename_i cs
   cases hx with
   | agg a a' ha ka =>
     obtain ⟨v', hv, hr⟩ := partV_sound (P := P) (LR.of_arrays ha ka) he h
     refine ⟨v', hv, fun w => ?_⟩
     have := hr w
     simp only [Array.toArray_toList] at this
     simp [Instr.field, run_underlying hu, hf, asAgg, this]
 · cases h
theorem indexAgg_sound {x x' i i' v : Value} {t e : TypeId} {b : Bool} {n : Nat} (hx : VR σ x x') (hi : VR σ i i') (hu : P.underlying t = some (.array n e)) (he : isAgg? P e = some b)
   (h : indexAgg b (P.cellsOf e) n x i = some v) : Gives P σ v (Instr.index t x' i') := by
 unfold indexAgg at h
 split at h
 · rename_i cs
   split at h
   · rename_i k hk
     obtain ⟨kd, rfl⟩ := asNat_some hk
     have := hi.int_inv; subst this
     split at h
     · rename_i hb
       have hlt := Nat.le_of_ble_eq_true hb
       cases hx with
       | agg a a' ha ka =>
         obtain ⟨v', hv, hr⟩ := partV_sound (P := P) (LR.of_arrays ha ka) he h
         refine ⟨v', hv, fun w => ?_⟩
         have := hr w
         simp only [Array.toArray_toList] at this
         have h2 : (0 : Int) ≤ (k : Int) ∧ (k : Int) < (n : Int) := by omega
         simp [Instr.index, asIntOf, run_underlying hu, run_sizeOf' he, h2, this]
         exact fun hh => by omega
     · cases h
   · cases h
 · cases h
theorem indexStr_sound {x x' i i' v : Value} {t : TypeId} (hx : VR σ x x') (hi : VR σ i i') (hu : P.underlying t = some .string)
   (h : indexStr x i = some v) : Gives P σ v (Instr.index t x' i') := by
 unfold indexStr at h
 split at h
 · rename_i s
   have := hx.string_inv; subst this
   split at h
   · rename_i k hk
     obtain ⟨kd, rfl⟩ := asNat_some hk
     have := hi.int_inv; subst this
     split at h
     · rename_i bt hbt
       simp only [Option.some.injEq] at h; subst h
       refine ⟨_, .int _ _, fun w => ?_⟩
       rw [nth_eq] at hbt
       have hs : s[k]? = some bt := by
         obtain ⟨hlt, he⟩ := List.getElem?_eq_some_iff.1 hbt
         have hlt' : k < s.size := by simpa using hlt
         rw [getElem?_pos s k hlt']
         congr 1
       simp [Instr.index, asIntOf, run_underlying hu, hs]
     · cases h
   · cases h
 · cases h
theorem fieldPtr_sound {x x' v : Value} {t : TypeId} {f n : Nat} {fs : Array Field} {fd : Field} (hx : VR σ x x') (hu : P.underlying t = some (.struct fs)) (hf : fs[f]? = some fd)
   (hs : P.cellsOf fd.type = n + 1) (h : fieldPtr fd.offset x = some v) : Gives P σ v (Instr.fieldAt t x' f) := by
 unfold fieldPtr at h
 split at h
 · rename_i a
   simp only [Option.some.injEq] at h; subst h
   cases hx with
   | ptr B i c hc =>
     refine ⟨_, by rw [addOff_eq]; exact .ptr B _ c hc, fun w => ?_⟩
     have hi : ∃ ti, P.info? fd.type = some ti := by
       unfold Program.cellsOf at hs
       cases hq : P.info? fd.type with
       | none => rw [hq] at hs; simp at hs
       | some ti => exact ⟨ti, rfl⟩
     obtain ⟨ti, hti⟩ := hi
     rw [← Nat.add_assoc]
     simp [Instr.fieldAt, Instr.sureAddr, fieldPlace, run_underlying hu, hf, run_sizeOf w hti, hs, Addr.add_mid]
 · cases h
theorem nilChk_sound {x x' v : Value} {o : Oper} {a : Act} {y : Operand} (hx : VR σ x x') (ho : o.op = .nilCheck y) (hy : a.eval y = x') (h : nilChk x = some v) :
   ∃ v', VR σ v v' ∧ ∀ w, (execOp a.eval o).run P w = .ok (.value v') w := by
 unfold nilChk at h
 split at h
 · simp only [Option.some.injEq] at h; subst h
   cases hx with
   | ptr B i c hc => exact ⟨_, .ptr B i c hc, fun w => by simp [execOp, ho, hy]⟩
 · simp only [Option.some.injEq] at h; subst h
   cases hx with
   | func f a b a' b' ha hb ka kb => exact ⟨_, .func _ _ _ _ _ ha hb ka kb, fun w => by simp [execOp, ho, hy]⟩
 · cases h
end Go.Ev
