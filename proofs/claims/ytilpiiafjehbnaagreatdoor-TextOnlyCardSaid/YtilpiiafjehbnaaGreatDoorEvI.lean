import Derived.Test.YtilpiiafjehbnaaGreatDoorEvH
import Derived.Laws.NewBlocks
namespace Go.Ev
open Go.RowKit
set_option linter.unusedSimpArgs false
set_option linter.unusedVariables false
variable {P : Program} {σ : Sg}
theorem mapOf_some {h : H} {m m' : Value} {es : List MapEntry} {w : World} (r : RelR σ h w) (hm : VR σ m m') (hes : mapOf h m = some es) :
   ∃ es', EsR σ es es' ∧ ((m' = .map none ∧ es' = []) ∨ ∃ b clock, m' = .map (some b) ∧ w.heap[b]? = some (.map es'.toArray clock)) := by
 unfold mapOf at hes
 split at hes
 · simp only [Option.some.injEq] at hes; subst hes
   cases hm
   exact ⟨[], ⟨rfl, fun i x y hx => by simp at hx⟩, .inl ⟨rfl, rfl⟩⟩
 · rename_i rr
   split at hes
   · rename_i es0 k hobj
     simp only [Option.some.injEq] at hes; subst hes
     cases hm with
     | map B c hc h0 =>
       obtain ⟨_, es', he, hr⟩ := r _ _ _ hobj hc
       exact ⟨es'.toList, hr, .inr ⟨_, k, rfl, by simpa using he⟩⟩
   · cases hes
 · cases hes
theorem run_getObj_map {w : World} {b : Nat} {es : Array MapEntry} {k : Nat} (h : w.heap[b]? = some (.map es k)) : (getObj b).run P w = .ok (.map es k) w := by
 simp [getObj, Sem.run, h]
theorem zeroV_some {t : TypeId} {z : Value} (h : zeroV? P t = some z) : VR σ z z ∧ ∀ w, (zeroValue t).run P w = .ok z w := by
 unfold zeroV? at h
 split at h
 · rename_i i hi
   split at h
   · rename_i zv hz
     split at h
     · rename_i hall
       simp only [Option.some.injEq] at h; subst h
       exact ⟨cstOk_vr hall, fun w => by simp [zeroValue, typeInfo, hi, hz]⟩
     · cases h
   · cases h
 · cases h
theorem lit_beside {es : List (ByteArray × Value)} : ∀ {es' : List MapEntry}, (∀ e' ∈ es', ∃ e ∈ es, e'.key = .string e.1 ∧ VR σ e.2 e'.val) →
   ∃ esA : List MapEntry, EsR σ esA es' ∧ ∀ x ∈ esA, ∃ e ∈ es, x.key = .string e.1 ∧ x.val = e.2 ∧ ∃ e' ∈ es', e'.key = .string e.1
 | [], _ => ⟨[], ⟨rfl, fun i x y hx => by simp at hx⟩, by simp⟩
 | y :: r, h => by
   obtain ⟨esA, h1, h2⟩ := lit_beside (es' := r) (fun e' he => h e' (by simp [he]))
   obtain ⟨e, k1, k2, k3⟩ := h y (by simp)
   refine ⟨{ key := .string e.1, val := e.2, born := y.born } :: esA, ⟨by simp [h1.1], fun i x z hx hz => ?_⟩, fun x hx => ?_⟩
   · cases i with
     | zero => simp at hx hz; subst hx; subst hz; exact ⟨by rw [k2]; exact .string _, k3, rfl⟩
     | succ i => exact h1.2 i x z (by simpa using hx) (by simpa using hz)
   · simp only [List.mem_cons] at hx
     rcases hx with rfl | hx
     · exact ⟨e, k1, rfl, rfl, y, by simp, k2⟩
     · obtain ⟨e2, g1, g2, g3, e', g4, g5⟩ := h2 x hx
       exact ⟨e2, g1, g2, g3, e', by simp [g4], g5⟩
theorem findS_spec {k : List UInt8} : ∀ {es : List (ByteArray × Value)}, (∀ v, findS k es = some v → ∃ e ∈ es, e.1.data.toList = k ∧ e.2 = v) ∧ (findS k es = none → ∀ e ∈ es, e.1.data.toList ≠ k)
 | [] => ⟨fun v h => by simp [findS] at h, fun _ e he => by cases he⟩
 | x :: r => by
   obtain ⟨h1, h2⟩ := findS_spec (k := k) (es := r)
   unfold findS
   split
   · rename_i hb
     rw [leB_eq] at hb
     have hb := eq_of_beq hb
     exact ⟨fun v hv => ⟨x, by simp, hb.symm, by simpa using hv⟩, fun h => by cases h⟩
   · rename_i hb
     rw [leB_eq] at hb
     refine ⟨fun v hv => ?_, fun h e he => ?_⟩
     · obtain ⟨e, g1, g2⟩ := h1 v hv
       exact ⟨e, by simp [g1], g2⟩
     · simp only [List.mem_cons] at he
       rcases he with rfl | he
       · intro e0; rw [e0] at hb; simp at hb
       · exact h2 h e he
theorem findI_strings {kt : TypeId} {s : ByteArray} : ∀ {l : List MapEntry} {i : Nat}, (∀ x ∈ l, ∃ a, x.key = .string a) →
   (∃ j e, findI P kt (.string s) l i = some (some (j, e)) ∧ e ∈ l ∧ e.key = .string s) ∨ (findI P kt (.string s) l i = some none ∧ ∀ x ∈ l, x.key ≠ .string s)
 | [], i, _ => .inr ⟨rfl, by simp⟩
 | x :: r, i, h => by
   obtain ⟨a, ha⟩ := h x (by simp)
   have hc : cmpK P kt (.string s) x.key = some (leB s.data.toList a.data.toList) := by rw [ha]; rfl
   unfold findI
   rw [hc]
   cases hb : leB s.data.toList a.data.toList with
   | true =>
     rw [leB_eq] at hb
     have hb := eq_of_beq hb
     refine .inl ⟨i, x, rfl, by simp, ?_⟩
     rw [ha]; congr 1; exact ByteArray.ext (Array.ext' hb.symm)
   | false =>
     rcases findI_strings (kt := kt) (s := s) (l := r) (i := i + 1) (fun y hy => h y (by simp [hy])) with ⟨j, e, h1, h2, h3⟩ | ⟨h1, h2⟩
     · exact .inl ⟨j, e, h1, by simp [h2], h3⟩
     · refine .inr ⟨h1, fun y hy => ?_⟩
       simp only [List.mem_cons] at hy
       rcases hy with rfl | hy
       · rw [ha]; intro e; simp only [Value.string.injEq] at e; rw [e, leB_eq] at hb; simp at hb
       · exact h2 y hy
theorem litOf_some {h : H} {m m' : Value} {es : List (ByteArray × Value)} {w : World} (r : RelR σ h w) (hm : VR σ m m') (hes : litOf h m = some es) :
   ∃ (es' : Array MapEntry) (b clock : Nat), LitR σ es es'.toList ∧ m' = .map (some b) ∧ w.heap[b]? = some (.map es' clock) := by
 unfold litOf at hes
 split at hes
 · rename_i rr
   split at hes
   · rename_i es0 hobj
     simp only [Option.some.injEq] at hes; subst hes
     cases hm with
     | map B c hc h0 =>
       obtain ⟨_, es', k, he, hr⟩ := r _ _ _ hobj hc
       exact ⟨es', _, k, hr, rfl, he⟩
   · cases hes
 · cases hes
theorem lookL_sound {t kt et : TypeId} {z : Value} {ok : Bool} {h : H} {m m' k k' v : Value} {w : World} (r : RelR σ h w) (hu : P.underlying t = some (.map kt et)) (hz : zeroV? P et = some z)
   (hm : VR σ m m') (hk : VR σ k k') (hl : lookL P kt z ok h m k = some v) : ∃ v', VR σ v v' ∧ (Instr.lookup t m' k' ok).run P w = .ok v' w := by
 unfold lookL at hl
 split at hl
 · rename_i es hes
   obtain ⟨es', b, clock, he, rfl, hb⟩ := litOf_some r hm hes
   obtain ⟨hzv, hzr⟩ := zeroV_some (P := P) (σ := σ) hz
   split at hl
   · rename_i s
     split at hl
     · rename_i hok
       simp only [Option.some.injEq] at hl
       have hval : ∀ e' ∈ es'.toList, ∃ e ∈ es, e'.key = .string e.1 ∧ VR σ e.2 e'.val := fun e' hm' => by
         obtain ⟨e, h1, h2⟩ := he.back e' hm'
         obtain ⟨e2, g1, g2, g3⟩ := he.to e h1
         have := he.one e' hm' e2 g1 (by rw [h2, g2])
         exact ⟨e, h1, h2, by rw [this]; exact g3⟩
       obtain ⟨esA, hA, hA2⟩ := lit_beside hval
       have hstr : ∀ x ∈ esA, ∃ a, x.key = .string a := fun x hx => let ⟨e, _, h2, _⟩ := hA2 x hx; ⟨e.1, h2⟩
       have fin : ∀ (r' : Option (Nat × Value)) (v' : Value), (∀ (e : Bool) w, (Instr.checkKey e 10000 kt k').run P w = .ok () w) → (∀ w, (Instr.findKey kt k' es'.toList).run P w = .ok r' w) →
           (match r' with | some (_, x) => (if ok then Value.tuple #[x, .bool true] else x) | none => (if ok then Value.tuple #[z, .bool false] else z)) = v' → (Instr.lookup t (.map (some b)) k' ok).run P w = .ok v' w := by
         intro r' v' h1 h2 h3
         unfold Instr.lookup
         simp only [Sem.run_bind, run_underlying hu, Result.andThen_ok, run_getObj_map hb, Sem.run_pure, h1]
         have h2' := h2 w
         rw [h2']
         cases r' with
         | none => simp only [Result.andThen_ok, Sem.run_bind, hzr, Sem.run_pure, ← h3]
         | some q => simp only [Result.andThen_ok, Sem.run_bind, Sem.run_pure, ← h3]
       obtain ⟨f1, f2⟩ := findS_spec (k := s.data.toList) (es := es)
       rcases findI_strings (P := P) (kt := kt) (s := s) (l := esA) (i := 0) hstr with ⟨j, e, h1, h2, h3⟩ | ⟨h1, h2⟩
       · have hf : findK P kt (.string s) esA = some (some (j, e)) := by unfold findK; rw [hok]; exact h1
         obtain ⟨c1, r', c2, c3⟩ := findK_sound (P := P) hf hk hA
         obtain ⟨e0, g1, g2, g3, _⟩ := hA2 e h2
         rw [h3] at g2
         simp only [Value.string.injEq] at g2
         have hfs : findS s.data.toList es = some e.val := by
           cases hq : findS s.data.toList es with
           | none => exact absurd (by rw [g2]) (f2 hq e0 g1)
           | some v0 =>
             obtain ⟨e1, q1, q2, q3⟩ := f1 v0 hq
             have : e1.1 = e0.1 := by rw [← g2]; exact ByteArray.ext (Array.ext' q2)
             rw [← q3, he.uniq e1 q1 e0 g1 this, g3]
         rw [hfs] at hl
         cases r' with
         | none => exact c3.elim
         | some q =>
           obtain ⟨j', x⟩ := q
           obtain ⟨_, _, e', _, hee, rfl⟩ := c3
           subst hl
           refine ⟨_, ?_, fin _ _ c1 c2 rfl⟩
           unfold foundS
           cases ok with
           | true => exact VR.tuple_of (LR.cons hee.val (LR.cons (.bool _) (LR.nil _)))
           | false => exact hee.val
       · have hf : findK P kt (.string s) esA = some none := by unfold findK; rw [hok]; exact h1
         obtain ⟨c1, r', c2, c3⟩ := findK_sound (P := P) hf hk hA
         have hfs : findS s.data.toList es = none := by
           cases hq : findS s.data.toList es with
           | none => rfl
           | some v0 =>
             obtain ⟨e1, q1, q2, q3⟩ := f1 v0 hq
             obtain ⟨e', p1, p2, p3⟩ := he.to e1 q1
             have hs : e1.1 = s := ByteArray.ext (Array.ext' q2)
             obtain ⟨i, hi⟩ := List.getElem?_of_mem p1
             have hlt : i < esA.length := by rw [hA.1]; exact (List.getElem?_eq_some_iff.1 hi).1
             have hr := hA.2 i _ _ (List.getElem?_eq_getElem hlt) hi
             obtain ⟨a, ha⟩ := hstr _ (List.getElem_mem hlt)
             have hkey := hr.key
             rw [ha, p2] at hkey
             cases hkey
             exact absurd (by rw [ha, hs]) (h2 _ (List.getElem_mem hlt))
         rw [hfs] at hl
         cases r' with
         | some q => exact c3.elim
         | none =>
           subst hl
           refine ⟨_, ?_, fin _ _ c1 c2 rfl⟩
           unfold foundS
           cases ok with
           | true => exact VR.tuple_of (LR.cons hzv (LR.cons (.bool _) (LR.nil _)))
           | false => exact hzv
     · cases hl
   · cases hl
 · cases hl
theorem lookV_sound {t kt et : TypeId} {z : Value} {ok : Bool} {h : H} {m m' k k' v : Value} {w : World} (r : RelR σ h w) (hu : P.underlying t = some (.map kt et)) (hz : zeroV? P et = some z)
   (hm : VR σ m m') (hk : VR σ k k') (hl : lookV P kt z ok h m k = some v) : ∃ v', VR σ v v' ∧ (Instr.lookup t m' k' ok).run P w = .ok v' w := by
 unfold lookV at hl
 split at hl
 · rename_i es hes
   obtain ⟨es', he, hcase⟩ := mapOf_some r hm hes
   obtain ⟨hzv, hzr⟩ := zeroV_some (P := P) (σ := σ) hz
   unfold found at hl
   have fin : ∀ (r' : Option (Nat × Value)) (v' : Value), (∀ (e : Bool) w, (Instr.checkKey e 10000 kt k').run P w = .ok () w) → (∀ w, (Instr.findKey kt k' es').run P w = .ok r' w) →
       (match r' with | some (_, x) => (if ok then Value.tuple #[x, .bool true] else x) | none => (if ok then Value.tuple #[z, .bool false] else z)) = v' → (Instr.lookup t m' k' ok).run P w = .ok v' w := by
     intro r' v' h1 h2 h3
     unfold Instr.lookup
     rcases hcase with ⟨rfl, rfl⟩ | ⟨b, clock, rfl, hb⟩
     · simp only [Sem.run_bind, run_underlying hu, Result.andThen_ok, Sem.run_pure, h1]
       have h2' := h2 w
       (try simp only [Array.toList_empty])
       rw [h2']
       cases r' with
       | none => simp only [Result.andThen_ok, Sem.run_bind, hzr, Sem.run_pure, ← h3]
       | some q => simp only [Result.andThen_ok, Sem.run_bind, Sem.run_pure, ← h3]
     · simp only [Sem.run_bind, run_underlying hu, Result.andThen_ok, run_getObj_map hb, Sem.run_pure, h1]
       have h2' := h2 w
       rw [h2']
       cases r' with
       | none => simp only [Result.andThen_ok, Sem.run_bind, hzr, Sem.run_pure, ← h3]
       | some q => simp only [Result.andThen_ok, Sem.run_bind, Sem.run_pure, ← h3]
   split at hl
   · rename_i j e hf
     obtain ⟨h1, r', h2, h3⟩ := findK_sound (P := P) hf hk he
     simp only [Option.some.injEq] at hl; subst hl
     cases r' with
     | none => exact h3.elim
     | some q =>
       obtain ⟨j', x⟩ := q
       obtain ⟨_, _, e', _, hee, rfl⟩ := h3
       refine ⟨_, ?_, fin _ _ h1 h2 rfl⟩
       cases ok with
       | true => exact VR.tuple_of (LR.cons hee.val (LR.cons (.bool _) (LR.nil _)))
       | false => exact hee.val
   · rename_i hf
     obtain ⟨h1, r', h2, h3⟩ := findK_sound (P := P) hf hk he
     simp only [Option.some.injEq] at hl; subst hl
     cases r' with
     | some q => exact h3.elim
     | none =>
       refine ⟨_, ?_, fin _ _ h1 h2 rfl⟩
       cases ok with
       | true => exact VR.tuple_of (LR.cons hzv (LR.cons (.bool _) (LR.nil _)))
       | false => exact hzv
   · cases hl
 · exact lookL_sound r hu hz hm hk hl
theorem beqN (a b : Nat) : (a == b) = Nat.beq a b := by rw [Bool.eq_iff_iff]; simp [Nat.beq_eq]
theorem find_rel {stamp : Nat} : ∀ {l l' : List MapEntry}, EsR σ l l' → ∀ {e : MapEntry}, l.find? (fun e => Nat.beq e.born stamp) = some e → ∃ e', l'.find? (fun e => e.born == stamp) = some e' ∧ ER σ e e'
 | [], l', h, e, hf => by cases hf
 | x :: l, l', h, e, hf => by
   obtain ⟨y, r, rfl, h1, h2⟩ := h.uncons
   rw [List.find?_cons] at hf
   split at hf
   · rename_i hb
     simp only [Option.some.injEq] at hf; subst hf
     exact ⟨y, by rw [List.find?_cons, show (y.born == stamp) = true by rw [← h1.born, beqN]; exact hb], h1⟩
   · rename_i hb
     obtain ⟨e', k1, k2⟩ := find_rel h2 hf
     refine ⟨e', ?_, k2⟩
     rw [List.find?_cons, show (y.born == stamp) = false by rw [← h1.born, beqN]; exact hb]
     exact k1
theorem entryV_sound {h : H} {it it' v : Value} {w : World} (r : RelR σ h w) (hx : VR σ it it') (hl : entryV h it = some v) : ∃ v', VR σ v v' ∧ (Instr.entry it').run P w = .ok v' w := by
 unfold entryV at hl
 split at hl
 · rename_i rr
   split at hl
   · rename_i m since seen stepped hobj
     split at hl
     · rename_i stamp hst
       split at hl
       · rename_i es clock hm
         split at hl
         · rename_i hclk
           split at hl
           · rename_i e hf
             simp only [Option.some.injEq] at hl; subst hl
             cases hx with
             | ptr B i c hc =>
               obtain ⟨h0, cm, h1, h2, h3⟩ := r _ _ _ hobj hc
               obtain ⟨_, es', he, hr⟩ := r _ _ _ hm h1
               obtain ⟨e', g1, g2⟩ := find_rel hr hf
               refine ⟨.tuple #[e'.key, e'.val], VR.tuple_of (LR.cons g2.key (LR.cons g2.val (LR.nil _))), ?_⟩
               have hoff : c.off + 0 = 0 := by omega
               have hb : seen.toArray.back? = some stamp := by simpa using hst
               have hg : (getObj c.blk).run P w = .ok (.mapIter (some cm.blk) since seen.toArray stepped) w := by simp [getObj, Sem.run, h3]
               have hfind : es'.find? (fun e => e.born == stamp) = some e' := by rw [← Array.find?_toList]; exact g1
               have hck : clock = stepped := Nat.eq_of_beq_eq_true hclk
               simp [Instr.entry, hoff, hg, hb, run_getObj_map he, hck, hfind]
           · cases hl
         · cases hl
       · cases hl
     · cases hl
   · cases hl
 · cases hl
theorem read_sound {sc : Sc} {kn : Operand → Bool} {env : List Value} {tm : T Value} {a : Act} {o : Oper} {v : Value} {h : H} {w : World} (hF : FR σ sc kn env tm a) (hk : o.op.operands.toList.all (kn) = true) (r : RelR σ h w)
   (hv : (readB P sc o.op).f env tm h = some v) : ∃ v', VR σ v v' ∧ (execOp a.eval o).run P w = .ok (.value v') w := by
 have hk' : ∀ x, x ∈ o.op.operands.toList → kn x = true := fun x hx => List.all_eq_true.1 hk x hx
 cases hop : o.op with
 | entry it =>
   rw [hop] at hv hk'
   have h1 := hF it (hk' it (by simp [Op.operands]))
   simp only [readB] at hv
   obtain ⟨v', k1, k2⟩ := entryV_sound (P := P) r h1 hv
   exact ⟨v', k1, by simp [execOp, hop, k2]⟩
 | load t x =>
   rw [hop] at hv hk'
   have h1 := hF x (hk' x (by simp [Op.operands]))
   simp only [readB] at hv
   obtain ⟨v', k1, B, i, k2, k3⟩ := loadV_sound r h1 hv
   refine ⟨v', k1, ?_⟩
   simp [execOp, hop, k2, Instr.loadAt, Instr.sureAddr, k3]
 | convert s d x =>
   rw [hop] at hv hk'
   have h1 := hF x (hk' x (by simp [Op.operands]))
   simp only [readB, readConv] at hv
   split at hv
   · rename_i e hs hd
     split at hv
     · rename_i hb
       obtain ⟨k1, k2⟩ := ptrUns_sound (P := P) r h1 hv hs hd (Nat.le_of_ble_eq_true hb)
       exact ⟨_, k1, by simp [execOp, hop, k2]⟩
     · cases hv
   · rename_i e hs hd
     obtain ⟨k1, k2⟩ := unsPtr_sound (P := P) r h1 hv hs hd
     exact ⟨_, k1, by simp [execOp, hop, k2]⟩
   · rename_i e hs hd
     split at hv
     · rename_i he
       obtain ⟨k1, k2, ad, n, c, k3⟩ := bytesStr_sound (P := P) r h1 hv
       refine ⟨v, k1, ?_⟩
       have : (convert s d (a.eval x)).run P w = .ok v w := by
         rw [k3] at k2 ⊢
         rw [run_convert_bytes_string w s d e ad n c hs he hd]
         exact k2
       simp [execOp, hop, this]
     · cases hv
   · cases hv
 | lookup t m k ok =>
   rw [hop] at hv hk'
   have h1 := hF m (hk' m (by simp [Op.operands]))
   have h2 := hF k (hk' k (by simp [Op.operands]))
   simp only [readB, readLook] at hv
   split at hv
   · rename_i kt et hu
     split at hv
     · rename_i z hz
       obtain ⟨v', k1, k2⟩ := lookV_sound r hu hz h1 h2 hv
       exact ⟨v', k1, by simp [execOp, hop, k2]⟩
     · cases hv
   · cases hv
 | call c =>
   rw [hop] at hv hk'
   simp only [readB, readCall] at hv
   split at hv
   · rename_i hc
     split at hv
     · rename_i t x ht hx
       have h1 := hF x (hk' x (by simp [Op.operands, Call.operands]; right; rw [← Array.mem_toList_iff, hx]; simp))
       have hty : c.argTypes = #[t] := by rw [← Array.toList_inj]; simpa using ht
       split at hv
       · rename_i kt et hu
         simp only [lenMap] at hv
         split at hv
         · rename_i es hes
           simp only [Option.some.injEq] at hv; subst hv
           obtain ⟨es', he, hcase⟩ := mapOf_some r h1 hes
           refine ⟨_, .int _ _, ?_⟩
           simp only [execOp, hop]
           obtain ⟨k, hk⟩ := resolve_builtin (P := P) (ρ := a.eval) hc o.type w
           rw [hk, args_map hx, hty]
           have hl : es.length = es'.length := he.1
           rcases hcase with ⟨e1, e2⟩ | ⟨b, clock, e1, hb⟩
           · subst e2
             simp [builtin, e1, Builtin.len_, run_underlying hu, goInt, hl]
           · simp [builtin, e1, Builtin.len_, run_underlying hu, goInt, run_getObj_map hb, hl]
         · cases hv
       · cases hv
     · cases hv
   · cases hv
 | _ => rw [hop] at hv; cases hv
end Go.Ev
