import Derived.Test.YtilpiiafjehbnaaGreatDoorEvK
namespace Go.Ev
open Go.RowKit
set_option linter.unusedSimpArgs false
set_option linter.unusedVariables false
variable {P : Program} {σ : Sg}
theorem copy_sound {h h' : H} {w : World} (r : Rel σ h w) {t u ty e : TypeId} {i : TypeInfo} (ht : P.underlying t = some (.slice e)) (hi : P.info? e = some i)
   {s s' x x' v : Value} (hs : VR σ s s') (hx : VR σ x x') (ha : copyV i.size h s x = some (v, h')) :
   ∃ w', (Builtin.copy_ #[t, u] ty #[s', x']).run P w = .ok v w' ∧ VR σ v v ∧ Rel σ h' w' ∧ Ext σ h w σ h' w' := by
 unfold copyV at ha
 split at ha
 · rename_i base dl dc
   split at ha
   · rename_i xl hxl
     split at ha
     · rename_i new hnew
       have hlen := fun w => lenV_some (P := P) hxl hx w
       obtain ⟨new', hl, hf, hfd⟩ := firstV_some (P := P) r hnew hx hxl (Nat.min_le_left xl dl)
       have s1 : (sizeOf e).run P w = .ok i.size w := by simp [sizeOf, typeInfo, hi]
       have run : ∀ (base' : Option Addr) dc' w', (match base' with | some a => storeCells a new' | none => pure ()).run P w = .ok () w' →
           (Builtin.copy_ #[t, u] ty #[.slice base' dl dc', x']).run P w = .ok (.int .i64 (Int.ofNat (Nat.min xl dl))) w' := fun base' dc' w' hst => by
         cases base' with
         | none =>
           simp only [Sem.run_pure, Result.ok.injEq, true_and] at hst
           subst hst
           simp [Builtin.copy_, run_underlying ht, s1, hlen, hf, goInt]
         | some a =>
           simp only at hst
           simp [Builtin.copy_, run_underlying ht, s1, hlen, hf, hst, goInt]
       unfold copyTo at ha
       split at ha
       · simp only [Option.some.injEq, Prod.mk.injEq] at ha
         obtain ⟨rfl, rfl⟩ := ha
         have e := hl.nil_left; subst e
         refine ⟨w, ?_, .int _ _, r, .refl _ _ _⟩
         cases hs <;> exact run _ _ _ rfl
       · rename_i y l
         split at ha
         · rename_i a
           unfold withV at ha
           split at ha
           · rename_i h2 hwr
             simp only [Option.some.injEq, Prod.mk.injEq] at ha
             obtain ⟨rfl, rfl⟩ := ha
             obtain ⟨c, q1, q2, q3, q4, q5, q6⟩ := write_sound r hwr hl
             have hslc : ∀ B i' c', σ B = some c' → a = ⟨B, i', none⟩ → c' = c := fun B i' c' e1 e2 => by subst e2; rw [e1] at q1; cases q1; rfl
             refine ⟨_, ?_, .int _ _, q5, q6⟩
             cases hs with
             | sl B i' _ k c' hc hk =>
               have := hslc _ _ _ hc rfl; subst this
               exact run _ _ _ (run_storeCells_mid w _ _ new' q2 q3)
             | slO B i' _ k c' hc hn hk =>
               have := hslc _ _ _ hc rfl; subst this
               exact run _ _ _ (run_storeCells_mid w _ _ new' q2 q3)
             | slE B i' o c' hc hi' =>
               have := hslc _ _ _ hc rfl; subst this
               simp at q4; omega
           · cases ha
         · cases ha
     · cases ha
   · cases ha
 · cases ha
theorem run_setObj_map {w : World} {b : Nat} {es : Array MapEntry} {k : Nat} (h : w.heap[b]? = some (.map es k)) (o : Obj) : (setObj b o).run P w = .ok () { w with heap := w.heap.setIfInBounds b o } := by
 simp [setObj, Sem.run, h]
theorem same1_sound {x y x' y' : Value} (h : same1 x y = true) (hx : VR σ x x') (hy : VR σ y y') (n : Nat) : Instr.sameBits n x' y' = true := by
 unfold same1 at h
 split at h
 · split at h
   · rw [bEq_eq] at h; rw [hx.bool_inv, hy.bool_inv]; cases n <;> simpa [Instr.sameBits] using h
   · cases h
 · split at h
   · simp only [Bool.and_eq_true] at h
     have := kEq_eq h.1; subst this
     rw [iEq_eq] at h
     rw [hx.int_inv, hy.int_inv]; cases n <;> simpa [Instr.sameBits] using h.2
   · cases h
 · split at h
   · rw [leB_eq] at h
     rename_i s _ t
     have e : s = t := by
       have := eq_of_beq h
       exact ByteArray.ext (Array.ext' this)
     subst e
     have hbb : (s == s) = true := by simp [beq_toListBytes]
     rw [hx.string_inv, hy.string_inv]; cases n <;> exact hbb
   · cases h
 · cases h
theorem same1L_sound (n : Nat) : ∀ {l m l' m' : List Value}, same1L l m = true → LR σ l l' → LR σ m m' → l'.length = m'.length ∧ (l'.zip m').all (fun (x, y) => Instr.sameBits n x y) = true
 | [], [], l', m', h, h1, h2 => by rw [h1.nil_left, h2.nil_left]; exact ⟨rfl, rfl⟩
 | [], _ :: _, l', m', h, h1, h2 => by cases h
 | _ :: _, [], l', m', h, h1, h2 => by cases h
 | x :: l, y :: m, l', m', h, h1, h2 => by
   simp only [same1L] at h
   split at h
   · rename_i hxy
     obtain ⟨x', l2, rfl, a1, a2⟩ := h1.uncons
     obtain ⟨y', m2, rfl, b1, b2⟩ := h2.uncons
     obtain ⟨c1, c2⟩ := same1L_sound n h a2 b2
     exact ⟨by simp [c1], by simp only [List.zip_cons_cons, List.all_cons, Bool.and_eq_true]; exact ⟨same1_sound hxy a1 b1 n, c2⟩⟩
   · cases h
theorem sameK_sound {x y x' y' : Value} (h : sameK x y = true) (hx : VR σ x x') (hy : VR σ y y') : Instr.sameBits 10000 x' y' = true := by
 unfold sameK at h
 split at h
 · split at h
   · cases hx with
     | agg a a' ha ka =>
       cases hy with
       | agg b b' hb kb =>
         obtain ⟨c1, c2⟩ := same1L_sound (σ := σ) 9999 h (LR.of_arrays ha ka) (LR.of_arrays hb kb)
         simp only [Instr.sameBits, Bool.and_eq_true, beq_iff_eq]
         exact ⟨by simpa using c1, c2⟩
   · cases h
 · exact same1_sound h hx hy _
theorem map_write {h : H} {w : World} (r : Rel σ h w) {B : Nat} {es es2 : List MapEntry} {k k2 : Nat} {c : CB} (hx : h.objs.get B = some (.map es k)) (hc : σ B = some c) {es2' : Array MapEntry} (he : EsR σ es2 es2'.toList) :
   Rel σ (h.put B (.map es2 k2)) { w with heap := w.heap.setIfInBounds c.blk (.map es2' k2) } ∧ Ext σ h w σ (h.put B (.map es2 k2)) { w with heap := w.heap.setIfInBounds c.blk (.map es2' k2) } := by
 obtain ⟨c', hc', h0, es', hb, _⟩ := r.obj _ _ hx
 rw [hc] at hc'; cases hc'
 refine r.write hx rfl rfl hc ⟨h0, es2', ?_, he⟩ (fun k hk => ?_) (by simp) rfl rfl rfl
 · simp [r.inb _ _ hc]
 · simp only [Array.getElem?_setIfInBounds]; rw [if_neg (fun e => hk e.symm)]
theorem EsR.set {l l' : List MapEntry} (h : EsR σ l l') {i : Nat} {e e' : MapEntry} (he : ER σ e e') : EsR σ (l.set i e) (l'.set i e') := by
 refine ⟨by simp [h.1], fun j x y hx hy => ?_⟩
 rw [List.getElem?_set] at hx hy
 by_cases hij : i = j
 · subst hij
   rw [if_pos rfl] at hx hy
   split at hx
   · split at hy
     · simp at hx hy; subst hx; subst hy; exact he
     · cases hy
   · cases hx
 · rw [if_neg hij] at hx hy; exact h.2 j x y hx hy
theorem EsR.snoc {l l' : List MapEntry} (h : EsR σ l l') {e e' : MapEntry} (he : ER σ e e') : EsR σ (l ++ [e]) (l' ++ [e']) := by
 refine ⟨by simp [h.1], fun j x y hx hy => ?_⟩
 have hlen := h.1
 by_cases hj : j < l.length
 · rw [List.getElem?_append_left hj] at hx; rw [List.getElem?_append_left (by omega)] at hy; exact h.2 j x y hx hy
 · rw [List.getElem?_append_right (by omega)] at hx; rw [List.getElem?_append_right (by omega)] at hy
   rw [hlen] at hx
   cases hq : j - l'.length with
   | zero => rw [hq] at hx hy; simp at hx hy; subst hx; subst hy; exact he
   | succ n => rw [hq] at hx; simp at hx
theorem delNth_eq {α : Type} : ∀ (l : List α) (i : Nat), delNth l i = l.eraseIdx i
 | [], i => by cases i <;> rfl
 | x :: xs, 0 => rfl
 | x :: xs, i + 1 => by simp [delNth, delNth_eq xs i]
theorem EsR.erase {l l' : List MapEntry} (h : EsR σ l l') (i : Nat) : EsR σ (l.eraseIdx i) (l'.eraseIdx i) := by
 refine ⟨by simp [List.length_eraseIdx, h.1], fun j x y hx hy => ?_⟩
 rw [List.getElem?_eraseIdx] at hx hy
 split at hx
 · rename_i hj; rw [if_pos hj] at hy; exact h.2 j x y hx hy
 · rename_i hj; rw [if_neg hj] at hy; exact h.2 _ x y hx hy
theorem map_obj {h : H} {w : World} (r : Rel σ h w) {B : Nat} {es : List MapEntry} {k : Nat} {c : CB} (hx : h.objs.get B = some (.map es k)) (hc : σ B = some c) : ∃ es' : Array MapEntry, w.heap[c.blk]? = some (.map es' k) ∧ EsR σ es es'.toList := by
 obtain ⟨c', hc', h0, es', hb, he⟩ := r.obj _ _ hx
 rw [hc] at hc'; cases hc'
 exact ⟨es', hb, he⟩
theorem upd_sound {h h' : H} {w : World} (r : Rel σ h w) {t kt et : TypeId} (ht : P.underlying t = some (.map kt et)) {m m' k k' x x' : Value} (hm : VR σ m m') (hk : VR σ k k') (hx : VR σ x x') (hu : updM P kt h m k x = some h') :
   ∃ w', (Instr.mapUpdate t m' k' x').run P w = .ok () w' ∧ Rel σ h' w' ∧ Ext σ h w σ h' w' := by
 unfold updM at hu
 split at hu
 · rename_i B
   split at hu
   · rename_i es clock hobj
     cases hm with
     | map _ c hc h0 =>
       obtain ⟨es', hb, he⟩ := map_obj r hobj hc
       split at hu
       · rename_i i e hfind
         split at hu
         · rename_i hsame
           split at hu
           · rename_i l hset
             simp only [Option.some.injEq] at hu; subst hu
             obtain ⟨hi, rfl⟩ := setNth_some hset
             obtain ⟨k1, r', k2, k3⟩ := findK_sound (P := P) (σ := σ) hfind hk he
             cases r' with
             | none => exact k3.elim
             | some q =>
               obtain ⟨j', v'⟩ := q
               obtain ⟨e1, _, e', e2, e3, e4⟩ := k3
               subst e1
               simp only [Nat.sub_zero] at e2
               have hsb := sameK_sound hsame e3.key hk
               have hnew : ER σ { e with key := k, val := x } { e' with key := k', val := x' } := ⟨hk, hx, e3.born⟩
               have hes : EsR σ (es.set i { e with key := k, val := x }) (es'.modify i fun e => { e with key := k', val := x' }).toList := by
                 have := he.set (i := i) hnew
                 have heq : (es'.modify i fun e => { e with key := k', val := x' }).toList = es'.toList.set i { e' with key := k', val := x' } := by
                   apply List.ext_getElem?
                   intro j
                   rw [List.getElem?_set]
                   simp only [Array.getElem?_toList, Array.getElem?_modify, Array.length_toList]
                   by_cases hij : i = j
                   · subst hij
                     have e2' : es'[i]? = some e' := by simpa using e2
                     obtain ⟨hlt, hge⟩ := Array.getElem?_eq_some_iff.1 e2'
                     simp [e2', hlt, hge]
                   · simp [hij]
                 rw [heq]; exact this
               obtain ⟨r1, r2⟩ := map_write r (k2 := clock) hobj hc hes
               refine ⟨_, ?_, r1, r2⟩
               have e2' : es'[i]? = some e' := by simpa using e2
               simp [Instr.mapUpdate, run_underlying ht, run_getObj_map hb, k1, k2, e2', Instr.keyThatStays, hsb, run_setObj_map hb]
           · cases hu
         · cases hu
       · rename_i hfind
         simp only [Option.some.injEq] at hu; subst hu
         obtain ⟨k1, r', k2, k3⟩ := findK_sound (P := P) (σ := σ) hfind hk he
         cases r' with
         | some q => exact k3.elim
         | none =>
           have hes : EsR σ (es ++ [{ key := k, val := x, born := clock }]) (es'.push { key := k', val := x', born := clock }).toList := by
             have := he.snoc (e := { key := k, val := x, born := clock }) (e' := { key := k', val := x', born := clock }) ⟨hk, hx, rfl⟩
             simpa using this
           obtain ⟨r1, r2⟩ := map_write r (k2 := clock + 1) hobj hc hes
           refine ⟨_, ?_, r1, r2⟩
           simp [Instr.mapUpdate, run_underlying ht, run_getObj_map hb, k1, k2, run_setObj_map hb]
       · cases hu
   · cases hu
 · cases hu
theorem del_sound {h h' : H} {w : World} (r : Rel σ h w) {t u ty kt et : TypeId} (ht : P.underlying t = some (.map kt et)) {m m' k k' : Value} (hm : VR σ m m') (hk : VR σ k k') (hu : delM P kt h m k = some h') :
   ∃ w', (Builtin.delete_ #[t, u] ty #[m', k']).run P w = .ok (.tuple #[]) w' ∧ Rel σ h' w' ∧ Ext σ h w σ h' w' := by
 unfold delM at hu
 split at hu
 · split at hu
   · rename_i hok
     simp only [Option.some.injEq] at hu; subst hu
     cases hm
     have hck := checkKey_sound (P := P) (σ := σ) 200 kt k k k' (key_shape hok) hk 10000 (by omega) true w
     exact ⟨w, by simp [Builtin.delete_, run_underlying ht, hck], r, .refl _ _ _⟩
   · cases hu
 · rename_i B
   split at hu
   · rename_i es clock hobj
     cases hm with
     | map _ c hc h0 =>
       obtain ⟨es', hb, he⟩ := map_obj r hobj hc
       split at hu
       · rename_i i e hfind
         simp only [Option.some.injEq] at hu; subst hu
         obtain ⟨k1, r', k2, k3⟩ := findK_sound (P := P) (σ := σ) hfind hk he
         cases r' with
         | none => exact k3.elim
         | some q =>
           obtain ⟨j', v'⟩ := q
           obtain ⟨e1, _, e', e2, e3, e4⟩ := k3
           subst e1
           simp only [Nat.sub_zero] at e2
           have hes : EsR σ (delNth es i) (es'.eraseIdxIfInBounds i).toList := by
             rw [delNth_eq]
             have := he.erase i
             have heq : (es'.eraseIdxIfInBounds i).toList = es'.toList.eraseIdx i := by
               have e2' : es'[i]? = some e' := by simpa using e2
               have hlt : i < es'.size := (Array.getElem?_eq_some_iff.1 e2').1
               simp [Array.eraseIdxIfInBounds, hlt]
             rw [heq]; exact this
           obtain ⟨r1, r2⟩ := map_write r (k2 := clock) hobj hc hes
           refine ⟨_, ?_, r1, r2⟩
           simp [Builtin.delete_, run_underlying ht, run_getObj_map hb, k1, k2, run_setObj_map hb]
       · rename_i hfind
         simp only [Option.some.injEq] at hu; subst hu
         obtain ⟨k1, r', k2, k3⟩ := findK_sound (P := P) (σ := σ) hfind hk he
         cases r' with
         | some q => exact k3.elim
         | none =>
           obtain ⟨r1, r2⟩ := map_write r (k2 := clock) hobj hc he
           refine ⟨_, ?_, r1, r2⟩
           simp [Builtin.delete_, run_underlying ht, run_getObj_map hb, k1, k2, run_setObj_map hb]
       · cases hu
   · cases hu
 · cases hu
theorem clearM_sound {h h' : H} {w : World} (r : Rel σ h w) {t ty kt et : TypeId} (ht : P.underlying t = some (.map kt et)) {m m' : Value} (hm : VR σ m m') (hu : clearM h m = some h') :
   ∃ w', (Builtin.clear_ #[t] ty #[m']).run P w = .ok (.tuple #[]) w' ∧ Rel σ h' w' ∧ Ext σ h w σ h' w' := by
 unfold clearM at hu
 split at hu
 · simp only [Option.some.injEq] at hu; subst hu
   cases hm
   exact ⟨w, by simp [Builtin.clear_, run_underlying ht], r, .refl _ _ _⟩
 · rename_i B
   split at hu
   · rename_i es clock hobj
     simp only [Option.some.injEq] at hu; subst hu
     cases hm with
     | map _ c hc h0 =>
       obtain ⟨es', hb, he⟩ := map_obj r hobj hc
       obtain ⟨r1, r2⟩ := map_write r (k2 := clock) (es2 := []) (es2' := #[]) hobj hc ⟨rfl, fun i x y hx => by simp at hx⟩
       refine ⟨_, ?_, r1, r2⟩
       simp [Builtin.clear_, run_underlying ht, run_getObj_map hb, run_setObj_map hb]
   · cases hu
 · cases hu
theorem clearS_sound {h h' : H} {w : World} (r : Rel σ h w) {t ty e : TypeId} (ht : P.underlying t = some (.slice e)) {z : List Value} (hz : zero? P e = some z) {m m' : Value} (hm : VR σ m m') (hu : clearS z h m = some h') :
   ∃ w', (Builtin.clear_ #[t] ty #[m']).run P w = .ok (.tuple #[]) w' ∧ Rel σ h' w' ∧ Ext σ h w σ h' w' := by
 obtain ⟨zv, hzc, hzz, hzr, _⟩ := zero_some (σ := σ) hz
 unfold clearS at hu
 split at hu
 · simp only [Option.some.injEq] at hu; subst hu
   cases hm
   exact ⟨w, by simp [Builtin.clear_, run_underlying ht], r, .refl _ _ _⟩
 · rename_i a n cap
   split at hu
   · simp only [Option.some.injEq] at hu; subst hu
     refine ⟨w, ?_, r, .refl _ _ _⟩
     cases hm <;> simp [Builtin.clear_, run_underlying ht]
   · rename_i n
     have hrz := range_zero hzc hzz (n + 1)
     obtain ⟨c, q1, q2, q3, q4, q5, q6⟩ := write_sound r hu hrz
     have hslc : ∀ B i' c', σ B = some c' → a = ⟨B, i', none⟩ → c' = c := fun B i' c' e1 e2 => by subst e2; rw [e1] at q1; cases q1; rfl
     refine ⟨_, ?_, q5, q6⟩
     have key : ∀ b o k, w.there b o ((Array.range ((n + 1) * zv.cells.size)).map fun i => zv.cells[i % zv.cells.size]!).toList.length →
         (Builtin.clear_ #[t] ty #[.slice (some ⟨b, o, none⟩) (n + 1) k]).run P w = .ok (.tuple #[]) (w.setCells b o ((Array.range ((n + 1) * zv.cells.size)).map fun i => zv.cells[i % zv.cells.size]!).toList) := fun b o k ht' => by
       have := run_storeCells_mid (P := P) w b o _ ht' q3
       simp [Builtin.clear_, run_underlying ht, hzr, Builtin.zeroCells] at this ⊢
       rw [this]
       rfl
     cases hm with
     | sl B i' _ k c' hc hk => have := hslc _ _ _ hc rfl; subst this; exact key _ _ _ q2
     | slO B i' _ k c' hc hn hk => have := hslc _ _ _ hc rfl; subst this; exact key _ _ _ q2
 · cases hu
end Go.Ev
