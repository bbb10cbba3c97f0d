import Derived.Test.YtilpiiafjehbnaaGreatDoorEvG
import Derived.Laws.BytesString
import Derived.Lib.Builder
namespace Go.Ev
open Go.RowKit
set_option linter.unusedSimpArgs false
set_option linter.unusedVariables false
variable {P : Program} {σ : Sg}
theorem rows_of : ∀ (cs : List Value) (w : World) (b off : Nat), (∀ j v, cs[j]? = some v → ∃ v', w.cell? ⟨b, off + j, none⟩ = some v' ∧ VR σ v v') →
   ∃ l', LR σ cs l' ∧ w.rangeAt b off l'
 | [], w, b, off, h => ⟨[], LR.nil _, fun j v hv => by simp at hv⟩
 | x :: r, w, b, off, h => by
   obtain ⟨x', hx1, hx2⟩ := h 0 x rfl
   obtain ⟨l', h1, h2⟩ := rows_of r w b (off + 1) (fun j v hv => by
     obtain ⟨v', k1, k2⟩ := h (j + 1) v (by simpa using hv)
     exact ⟨v', by rw [show off + 1 + j = off + (j + 1) by omega]; exact k1, k2⟩)
   refine ⟨x' :: l', LR.cons hx2 h1, fun j v hv => ?_⟩
   cases j with
   | zero => simp at hv; subst hv; simpa using hx1
   | succ j => rw [show off + (j + 1) = off + 1 + j by omega]; exact h2 j v (by simpa using hv)
def RelR (σ : Sg) (h : H) (w : World) : Prop := ∀ B x c, h.objs.get B = some x → σ B = some c → ObjR σ w c x
theorem Rel.read {h : H} {w : World} (r : Rel σ h w) : RelR σ h w := fun B x c hx hc => by
 obtain ⟨c', h1, h2⟩ := r.obj B x hx
 rw [hc] at h1; cases h1; exact h2
theorem cellsOf_some {h : H} {B : Nat} {cs : List Value} {c : CB} (hB : σ B = some c) (hc : h.cellsOf B = some cs) {w : World} (r : RelR σ h w) : cellsR σ w c cs := by
 unfold H.cellsOf at hc
 split at hc
 · rename_i x hx
   have h2 := r B x c hx hB
   cases x <;> simp [AObj.cells?] at hc
   · subst hc; exact h2
   · subst hc; exact h2.1
   · subst hc; exact h2.1
 · cases hc
theorem row_some {h : H} {B o n : Nat} {l : List Value} {c : CB} (hB : σ B = some c) (hr : h.row B o n = some l) {w : World} (r : RelR σ h w) :
   ∃ l', LR σ l l' ∧ l.length = n ∧ w.rangeAt c.blk (c.off + o) l' := by
 unfold H.row at hr
 split at hr
 · rename_i cs hcs
   have h2 := cellsOf_some hB hcs r
   split at hr
   · rename_i rr hrr
     obtain ⟨e1, rfl⟩ := cut_some hrr
     obtain ⟨e2, rfl⟩ := takeN_some hr
     obtain ⟨l', k1, k2⟩ := rows_of (σ := σ) ((cs.drop o).take n) w c.blk (c.off + o) (fun j v hv => by
       rw [List.getElem?_take] at hv
       split at hv
       · rw [List.getElem?_drop] at hv
         obtain ⟨v', q1, q2⟩ := h2 _ v hv
         exact ⟨v', by rw [show c.off + o + j = c.off + (o + j) by omega]; exact q1, q2⟩
       · cases hv)
     exact ⟨l', k1, by simp [List.length_take] at e2 ⊢; omega, k2⟩
   · cases hr
 · cases hr
theorem loadV_sound {t : TypeId} {h : H} {x x' v : Value} {w : World} (r : RelR σ h w) (hx : VR σ x x') (hl : (loadV P t).f h x = some v) :
   ∃ v', VR σ v v' ∧ ∃ B i, x' = .pointer (some ⟨B, i, none⟩) ∧ (loadVar t ⟨B, i, none⟩).run P w = .ok v' w := by
 unfold loadV at hl
 split at hl
 · rename_i he
   simp only [loadAgg] at hl
   split at hl
   · simp only [aggO] at hl
     split at hl
     · rename_i l hrow
       simp only [Option.some.injEq] at hl; subst hl
       cases hx with
       | ptr B i c hc =>
         obtain ⟨l', h2, h3, h4⟩ := row_some hc hrow r
         refine ⟨.agg l'.toArray, VR.agg_of h2, _, _, rfl, ?_⟩
         obtain ⟨d, hd, hb⟩ := agg_under he
         obtain ⟨ti, hti⟩ := info_of_underlying hd
         refine run_loadVar_mid w _ _ t l' d h4 hd (by cases d <;> simp_all) ?_
         rw [hti, ← h2.1, h3]
         simp [Program.cellsOf, hti]
     · cases hl
   · cases hl
 · rename_i he
   simp only [loadOne] at hl
   split at hl
   · rename_i b o sp
     split at hl
     · rename_i cs hcs
       cases hx with
       | ptr B i c hc =>
         have h2 := cellsOf_some hc hcs r
         rw [nth_eq] at hl
         obtain ⟨v', k1, k2⟩ := h2 _ v hl
         refine ⟨v', k2, _, _, rfl, ?_⟩
         simp [loadVar, run_isAgg' he, k1]
     · cases hl
   · cases hl
 · cases hl
theorem bytesOf_some : ∀ {l : List Value} {bs : List UInt8}, bytesOf l = some bs → ∃ ns : List Int, l = ns.map (Value.int .u8) ∧ bs = ns.map (fun n => UInt8.ofNat n.toNat)
 | [], bs, h => by simp [bytesOf] at h; subst h; exact ⟨[], rfl, rfl⟩
 | v :: r, bs, h => by
   simp only [bytesOf] at h
   split at h
   · rename_i n
     split at h
     · rename_i t ht
       simp only [Option.some.injEq] at h; subst h
       obtain ⟨ns, h1, h2⟩ := bytesOf_some ht
       exact ⟨(n : Int) :: ns, by simp [h1], by simp [h2]⟩
     · cases h
   · cases h
theorem LR.ints {ns : List Int} : ∀ {l' : List Value}, LR σ (ns.map (Value.int .u8)) l' → l' = ns.map (Value.int .u8) := by
 induction ns with
 | nil => intro l' h; exact h.nil_left
 | cons n r ih =>
   intro l' h
   obtain ⟨y, r', rfl, h1, h2⟩ := h.uncons
   rw [h1.int_inv, ih h2]; rfl
theorem foldl_push (ns : List Int) : ∀ s : ByteArray, ns.foldl (fun r n => r.push (UInt8.ofNat n.toNat)) s = ⟨(s.data.toList ++ ns.map (fun n => UInt8.ofNat n.toNat)).toArray⟩ := by
 induction ns with
 | nil => intro s; simp
 | cons n r ih =>
   intro s
   rw [List.foldl_cons, ih]
   apply ByteArray.ext
   apply Array.ext'
   simp
theorem bytesStr_sound {h : H} {x x' v : Value} {w : World} (r : RelR σ h w) (hx : VR σ x x') (hl : bytesStr h x = some v) : VR σ v v ∧ (Conv.bytesToString x').run P w = .ok v w ∧ ∃ a n c, x' = .slice a n c := by
 unfold bytesStr at hl
 split at hl
 · simp only [Option.some.injEq] at hl; subst hl
   cases hx with
   | slNil n c => exact ⟨.string _, rfl, _, _, _, rfl⟩
 · rename_i a len cap
   split at hl
   · rename_i l hrow
     split at hl
     · rename_i bs hbs
       simp only [Option.some.injEq] at hl; subst hl
       obtain ⟨ns, rfl, rfl⟩ := bytesOf_some hbs
       have key : ∀ (blk o cap' : Nat) (l' : List Value), LR σ (ns.map (Value.int .u8)) l' → (ns.map (Value.int .u8)).length = len → w.rangeAt blk o l' →
           (Conv.bytesToString (.slice (some ⟨blk, o, none⟩) len cap')).run P w = .ok (.string ⟨(ns.map (fun n => UInt8.ofNat n.toNat)).toArray⟩) w := by
         intro blk o cap' l' h1 h2 h3
         have e := h1.ints; subst e
         have := run_bytesToString (P := P) w ⟨blk, o, none⟩ len cap' ns (by
           rw [← h2]
           exact run_loadCells_list (P := P) w ⟨blk, o, none⟩ _ (fun j v hv => by rw [Addr.add_mid]; exact h3 j v hv))
         rw [this, foldl_push]
         simp
       refine ⟨.string _, ?_⟩
       cases hx with
       | sl B i n k c hc hk =>
         obtain ⟨l', h2, h3, h4⟩ := row_some hc hrow r
         exact ⟨key _ _ _ l' h2 h3 h4, _, _, _, rfl⟩
       | slO B i n k c hc hn hk =>
         obtain ⟨l', h2, h3, h4⟩ := row_some hc hrow r
         exact ⟨key _ _ _ l' h2 h3 h4, _, _, _, rfl⟩
       | slE B i o c hc hi =>
         obtain ⟨l', h2, h3, h4⟩ := row_some hc hrow r
         have : ns = [] := by simpa using h3
         subst this
         have e := h2.ints
         subst e
         exact ⟨key _ _ _ [] (LR.nil _) rfl (fun j v hv => by simp at hv), _, _, _, rfl⟩
     · cases hl
   · cases hl
 · cases hl
theorem key_shape {kt : TypeId} {k : Value} (h : keyOk P kt k = true) : eqV P 200 kt k k = some true := by
 unfold keyOk at h
 split at h
 · rename_i b hb; rw [hb, h]
 · cases h
theorem checkKey_sound (d : Nat) : ∀ (t : TypeId) (x y x' : Value), eqV P d t x y = some true → VR σ x x' → ∀ D, d ≤ D → ∀ (e : Bool) w, (Instr.checkKey e D t x').run P w = .ok () w := by
 induction d using Nat.strongRecOn with
 | _ d ih =>
   intro t x y x' h hx D hD e w
   cases d with
   | zero => simp [eqV] at h
   | succ d =>
     obtain ⟨D, rfl⟩ : ∃ m, D = m + 1 := ⟨D - 1, by omega⟩
     simp only [eqV] at h
     split at h
     · rename_i hu
       split at h
       · rename_i a b
         rw [hx.bool_inv]
         simp [Instr.checkKey, run_underlying hu]
       · cases h
     · rename_i k hu
       split at h
       · rw [hx.int_inv]
         simp [Instr.checkKey, run_underlying hu]
       · cases h
     · rename_i hu
       split at h
       · rw [hx.string_inv]
         simp [Instr.checkKey, run_underlying hu]
       · cases h
     · rename_i fs hu
       split at h
       · split at h
         · rename_i a b
           cases hx with
           | agg _ a' ha ka =>
             have hl := LR.of_arrays ha ka
             simp only [Instr.checkKey, Sem.run_bind, run_underlying hu, Result.andThen_ok]
             rw [← Array.forIn_toList]
             clear hu
             generalize fs.toList = L at h
             have gen : ∀ (L : List Field) (d' : Nat), d' ≤ d → eqFs P d' a.toList b.toList L = some true → ∀ (bd : Field → PUnit → Sem (ForInStep PUnit)),
                 (∀ f w v', f.name ≠ "_" → (part f.type a' f.offset).run P w = .ok v' w → (Instr.checkKey e D f.type v').run P w = .ok () w → (bd f PUnit.unit).run P w = .ok (ForInStep.yield PUnit.unit) w) →
                 ∀ w, (forIn L PUnit.unit bd).run P w = .ok PUnit.unit w := by
               intro L
               induction L with
               | nil => intro d' _ _ bd _ w; rfl
               | cons f r ihL =>
                 intro d' hd' hq bd hbd w
                 cases d' with
                 | zero => simp [eqFs] at hq
                 | succ d' =>
                   simp only [eqFs] at hq
                   split at hq
                   · rename_i bb hn hb
                     split at hq
                     · rename_i u v hpu hpv
                       have hne : f.name ≠ "_" := by simpa using hn
                       obtain ⟨u', q1, q2⟩ := part_run (P := P) hl hb hpu w
                       split at hq
                       · rename_i he
                         have h1 := ih d' (by omega) _ _ _ _ he q1 D (by omega) e w
                         have q2' : (part f.type a' f.offset).run P w = .ok u' w := by simpa using q2
                         rw [List.forIn_cons, Sem.run_bind, hbd f w u' hne q2' h1]
                         simp only [Result.andThen_ok]
                         exact ihL d' (by omega) hq bd hbd w
                       · cases hq
                       · cases hq
                     · cases hq
                   · cases hq
             have := gen L d (Nat.le_refl _) h (fun f r => do
               if f.name ≠ "_" then do
                 Instr.checkKey e D f.type (← part f.type a' f.offset)
                 pure (ForInStep.yield PUnit.unit)
               else pure (ForInStep.yield PUnit.unit)) (fun f w v' h1 h2 h3 => by simp [h1, h2, h3]) w
             have this' := congrArg (fun r : Result PUnit => r.andThen fun _ w' => (Result.ok () w' : Result Unit)) this
             simpa using this'
         · cases h
       · cases h
     · cases h
def FoundR (σ : Sg) (es' : List MapEntry) (i : Nat) : Option (Nat × MapEntry) → Option (Nat × Value) → Prop
 | none, none => True
 | some (j, e), some (j', v') => j = j' ∧ i ≤ j ∧ ∃ e', es'[j - i]? = some e' ∧ ER σ e e' ∧ v' = e'.val
 | _, _ => False
theorem EsR.uncons {e : MapEntry} {l l' : List MapEntry} (h : EsR σ (e :: l) l') : ∃ e' r, l' = e' :: r ∧ ER σ e e' ∧ EsR σ l r := by
 obtain ⟨h1, h2⟩ := h
 cases l' with
 | nil => simp at h1
 | cons y r => exact ⟨y, r, rfl, h2 0 e y rfl rfl, by simpa using h1, fun i a b ha hb => h2 (i + 1) a b (by simpa using ha) (by simpa using hb)⟩
theorem EsR.nil_left {l' : List MapEntry} (h : EsR σ [] l') : l' = [] := by
 have := h.1; cases l' with | nil => rfl | cons => simp at this
theorem FoundR.shift {e' : MapEntry} {es' : List MapEntry} {i : Nat} {r : Option (Nat × MapEntry)} {r' : Option (Nat × Value)} (h : FoundR σ es' (i + 1) r r') : FoundR σ (e' :: es') i r r' := by
 cases r with
 | none => cases r' with | none => trivial | some => exact h.elim
 | some p =>
   obtain ⟨j, e⟩ := p
   cases r' with
   | none => exact h.elim
   | some q =>
     obtain ⟨j', v'⟩ := q
     obtain ⟨h1, h2, e'', h3, h4, h5⟩ := h
     refine ⟨h1, by omega, e'', ?_, h4, h5⟩
     rw [show j - i = (j - (i + 1)) + 1 by omega, List.getElem?_cons_succ]; exact h3
theorem findNow_sound {kt : TypeId} {kd : TypeDesc} {k : Value} (hstep : ∀ q q' b, cmpK P kt k q = some b → VR σ q q' → Instr.sameNow kd k q' = some b) :
   ∀ (es es' : List MapEntry) (i : Nat) (r : Option (Nat × MapEntry)), findI P kt k es i = some r → EsR σ es es' → ∃ r', Instr.findNow kd k es' i = some r' ∧ FoundR σ es' i r r'
 | [], es', i, r, h, he => by
   have := he.nil_left; subst this
   simp only [findI, Option.some.injEq] at h; subst h
   exact ⟨none, rfl, trivial⟩
 | e :: l, es', i, r, h, he => by
   obtain ⟨e', l', rfl, h1, h2⟩ := he.uncons
   simp only [findI] at h
   split at h
   · rename_i hc
     simp only [Option.some.injEq] at h; subst h
     have := hstep _ _ _ hc h1.key
     exact ⟨some (i, e'.val), by simp [Instr.findNow, this], rfl, Nat.le_refl _, e', by simp, h1, rfl⟩
   · rename_i hc
     have := hstep _ _ _ hc h1.key
     obtain ⟨r', k1, k2⟩ := findNow_sound hstep l l' (i + 1) r h h2
     exact ⟨r', by simp [Instr.findNow, this, k1], k2.shift⟩
   · cases h
theorem findAsking_sound {kt : TypeId} {k k' : Value} (hstep : ∀ q q' b, cmpK P kt k q = some b → VR σ q q' → ∀ w, (Op.equal kt k' q').run P w = .ok b w) :
   ∀ (es es' : List MapEntry) (i : Nat) (r : Option (Nat × MapEntry)), findI P kt k es i = some r → EsR σ es es' → ∃ r', (∀ w, (Instr.findAsking kt k' es' i).run P w = .ok r' w) ∧ FoundR σ es' i r r'
 | [], es', i, r, h, he => by
   have := he.nil_left; subst this
   simp only [findI, Option.some.injEq] at h; subst h
   exact ⟨none, fun w => rfl, trivial⟩
 | e :: l, es', i, r, h, he => by
   obtain ⟨e', l', rfl, h1, h2⟩ := he.uncons
   simp only [findI] at h
   split at h
   · rename_i hc
     simp only [Option.some.injEq] at h; subst h
     have := hstep _ _ _ hc h1.key
     exact ⟨some (i, e'.val), fun w => by simp [Instr.findAsking, this w], rfl, Nat.le_refl _, e', by simp, h1, rfl⟩
   · rename_i hc
     have := hstep _ _ _ hc h1.key
     obtain ⟨r', k1, k2⟩ := findAsking_sound hstep l l' (i + 1) r h h2
     exact ⟨r', fun w => by simp [Instr.findAsking, this w, k1 w], k2.shift⟩
   · cases h
theorem findK_sound {kt : TypeId} {k k' : Value} {es es' : List MapEntry} {r : Option (Nat × MapEntry)} (h : findK P kt k es = some r) (hk : VR σ k k') (he : EsR σ es es') :
   (∀ (e : Bool) w, (Instr.checkKey e 10000 kt k').run P w = .ok () w) ∧ ∃ r', (∀ w, (Instr.findKey kt k' es').run P w = .ok r' w) ∧ FoundR σ es' 0 r r' := by
 unfold findK at h
 split at h
 · rename_i hok
   have hself := key_shape hok
   refine ⟨fun e w => checkKey_sound (P := P) (σ := σ) 200 kt k k k' hself hk 10000 (by omega) e w, ?_⟩
   have hasks : ∀ (r' : Option (Nat × Value)), (∃ kd, P.underlying kt = some kd ∧ Instr.findNow kd k' es' 0 = some r') → ∀ w, (Instr.findKey kt k' es').run P w = .ok r' w := by
     rintro r' ⟨kd, h1, h2⟩ w
     simp [Instr.findKey, run_underlying h1, h2]
   simp only [eqV] at hself
   split at hself
   · -- bool
     rename_i hu
     obtain ⟨a, rfl⟩ : ∃ a, k = .bool a := by cases k <;> simp at hself; exact ⟨_, rfl⟩
     have e := hk.bool_inv; subst e
     obtain ⟨r', q1, q2⟩ := findNow_sound (P := P) (σ := σ) (kt := kt) (kd := .bool) (k := .bool a) (fun q q' b hc hq => by
       have hc' : eqV P 200 kt (.bool a) q = some b := hc
       simp only [eqV, hu] at hc'
       cases q <;> simp at hc'
       subst hc'
       rw [hq.bool_inv]
       simp [Instr.sameNow, bEq_eq]) es es' 0 r h he
     exact ⟨r', hasks r' ⟨_, hu, q1⟩, q2⟩
   · rename_i kk hu
     obtain ⟨ka, a, rfl⟩ : ∃ ka a, k = .int ka a := by cases k <;> simp at hself; exact ⟨_, _, rfl⟩
     have e := hk.int_inv; subst e
     obtain ⟨r', q1, q2⟩ := findNow_sound (P := P) (σ := σ) (kt := kt) (kd := .int kk) (k := .int ka a) (fun q q' b hc hq => by
       cases q with
       | int kb n =>
         simp only [cmpK] at hc
         split at hc
         · rename_i hkk
           have := kEq_eq hkk; subst this
           simp only [Option.some.injEq] at hc; subst hc
           rw [hq.int_inv]
           simp [Instr.sameNow, iEq_eq]
         · cases hc
       | _ => simp [cmpK, eqV, hu] at hc) es es' 0 r h he
     exact ⟨r', hasks r' ⟨_, hu, q1⟩, q2⟩
   · rename_i hu
     obtain ⟨a, rfl⟩ : ∃ a, k = .string a := by cases k <;> simp at hself; exact ⟨_, rfl⟩
     have e := hk.string_inv; subst e
     obtain ⟨r', q1, q2⟩ := findNow_sound (P := P) (σ := σ) (kt := kt) (kd := .string) (k := .string a) (fun q q' b hc hq => by
       cases q with
       | string s =>
         simp only [cmpK, Option.some.injEq] at hc; subst hc
         rw [hq.string_inv]
         simp only [Instr.sameNow, leB_eq, beq_toListBytes, ByteArray.toList_eq]
       | _ => simp [cmpK, eqV, hu] at hc) es es' 0 r h he
     exact ⟨r', hasks r' ⟨_, hu, q1⟩, q2⟩
   · rename_i fs hu
     split at hself
     · obtain ⟨a, rfl⟩ : ∃ a, k = .agg a := by cases k <;> simp at hself; exact ⟨_, rfl⟩
       obtain ⟨a', e⟩ := hk.agg_inv
       subst e
       have hq : ∀ q q' b, cmpK P kt (.agg a) q = some b → VR σ q q' → ∀ w, (Op.equal kt (.agg a') q').run P w = .ok b w := fun q q' b hc hq w => by
         have hc' : eqV P 200 kt (.agg a) q = some b := hc
         exact (eqV_sound (P := P) (σ := σ) 200).1 _ _ _ _ _ _ hc' hk hq 10000 (by omega) w
       obtain ⟨r', q1, q2⟩ := findAsking_sound (P := P) (σ := σ) hq es es' 0 r h he
       refine ⟨r', fun w => ?_, q2⟩
       cases es' with
       | nil =>
         have := q1 w
         simp only [Instr.findAsking, Sem.run_pure] at this
         simp only [Instr.findKey, Sem.run_bind, run_underlying hu, Result.andThen_ok, Instr.findNow]
         exact this
       | cons e' l' =>
         simp only [Instr.findKey, Sem.run_bind, run_underlying hu, Result.andThen_ok, Instr.findNow, Instr.sameNow]
         exact q1 w
     · cases hself
   · cases hself
 · cases h
theorem info_of_cells {t : TypeId} (h : 1 ≤ P.cellsOf t) : ∃ i, P.info? t = some i ∧ i.size ≠ 0 := by
 unfold Program.cellsOf at h
 cases hi : P.info? t with
 | none => simp [hi] at h
 | some i => exact ⟨i, rfl, by simp [hi] at h; omega⟩
theorem cell_shape {w : World} {b o : Nat} {v : Value} (h : w.cell? ⟨b, o, none⟩ = some v) : ∃ C t fr, w.heap[b]? = some (.cells C t fr) ∧ o < C.size := by
 unfold World.cell? at h
 split at h
 · rename_i c e fr hb
   simp only [Option.isSome, Bool.false_eq_true, if_false] at h
   exact ⟨c, e, fr, hb, (Array.getElem?_eq_some_iff.1 h).1⟩
 · cases h
theorem ptrUns_sound {h : H} {x x' v : Value} {w : World} (r : RelR σ h w) (hx : VR σ x x') (hl : ptrUns h x = some v) {s d t : TypeId} (hs : P.underlying s = some (.pointer t)) (hd : P.underlying d = some .unsafePointer) (h1 : 1 ≤ P.cellsOf t) :
   VR σ v x' ∧ (convert s d x').run P w = .ok x' w := by
 unfold ptrUns at hl
 split at hl
 · simp only [Option.some.injEq] at hl; subst hl
   cases hx
   exact ⟨.ptrNil, by simp [convert, run_underlying hs, run_underlying hd, Conv.unsafePointer]⟩
 · rename_i b o
   split at hl
   · rename_i cs hcs
     split at hl
     · rename_i y hy
       simp only [Option.some.injEq] at hl; subst hl
       cases hx with
       | ptr B i c hc =>
         rw [nth_eq] at hy
         obtain ⟨y', k1, k2⟩ := cellsOf_some hc hcs r _ _ hy
         obtain ⟨C, e, fr, k3, k4⟩ := cell_shape k1
         obtain ⟨i0, g1, g2⟩ := info_of_cells h1
         exact ⟨.ptr _ _ c hc, Lib.run_to_unsafe w ⟨c.blk, c.off + o, none⟩ hs hd g1 g2 (e := e) (cells := C.size) (by simp [World.shape?, k3]) k4⟩
     · cases hl
   · cases hl
 · cases hl
theorem lies_self {u : TypeId} {sz count : Nat} (h1 : P.cellsOf u = sz) (h0 : 1 ≤ sz) (h2 : sz ≤ count) : liesAt P P.depth u (count / P.cellsOf u) 0 u 1 = true := by
 have hd : P.depth = (2 * (P.types.size + Made.depth) + 1) + 1 := rfl
 rw [hd]
 simp only [liesAt, Bool.or_eq_true]
 left
 rw [hd]
 have h3 : 1 ≤ count / P.cellsOf u := by rw [h1]; exact Nat.div_pos h2 h0
 have h4 : P.cellsOf u ≠ 0 := by omega
 have h3' : 0 < count / P.cellsOf u := by omega
 simp [rowAt, sameLayout, h4, h3]
theorem unsPtr_sound {h : H} {x x' v : Value} {w : World} {s d u : TypeId} (r : RelR σ h w) (hx : VR σ x x') (hl : unsPtr u (P.cellsOf u) h x = some v) (hs : P.underlying s = some .unsafePointer) (hd : P.underlying d = some (.pointer u)) :
   VR σ v x' ∧ (convert s d x').run P w = .ok x' w := by
 unfold unsPtr at hl
 split at hl
 · simp only [Option.some.injEq] at hl; subst hl
   cases hx
   exact ⟨.ptrNil, by simp [convert, run_underlying hs, run_underlying hd, Conv.unsafePointer]⟩
 · rename_i b
   split at hl
   · rename_i ob hob
     split at hl
     · rename_i t cs hty hcs
       split at hl
       · rename_i hb
         simp only [Bool.and_eq_true] at hb
         simp only [Option.some.injEq] at hl; subst hl
         have e1 := Nat.eq_of_beq_eq_true hb.1.1
         have e2 := Nat.le_of_ble_eq_true hb.1.2
         have e3 := Nat.le_of_ble_eq_true hb.2
         subst e1
         cases hx with
         | ptr B i c hc =>
           have ho := r b ob c hob hc
           have key : TyR w c (some t) ∧ cellsR σ w c cs := by
             cases ob <;> simp [AObj.ty, AObj.cells?] at hty hcs
             · subst hty; subst hcs; exact ⟨ho.2.2.2, ho.1⟩
             · subst hty; subst hcs; exact ⟨ho.2.2.2.2, ho.1⟩
           obtain ⟨⟨k0, C, fr, k1⟩, k2⟩ := key
           have hlen : cs.length ≤ C.size := by
             rcases Nat.lt_or_ge C.size cs.length with hlt | hge
             · obtain ⟨y', g1, _⟩ := k2 C.size cs[C.size] (List.getElem?_eq_getElem hlt)
               obtain ⟨C', t', fr', g2, g3⟩ := cell_shape g1
               rw [k1] at g2; cases g2; omega
             · exact hge
           obtain ⟨i0, g1, g2⟩ := info_of_cells e2
           refine ⟨.ptr _ _ c hc, ?_⟩
           exact Lib.run_from_unsafe w ⟨c.blk, c.off + 0, none⟩ hs hd g1 (e := t) (cells := C.size) (by simp [World.shape?, k1]) (by rw [k0]; exact lies_self rfl e2 (Nat.le_trans e3 hlen))
       · cases hl
     · cases hl
   · cases hl
 · cases hl
end Go.Ev
