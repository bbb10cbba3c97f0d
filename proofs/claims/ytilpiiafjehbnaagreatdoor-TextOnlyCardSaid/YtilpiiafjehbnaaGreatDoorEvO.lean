import Derived.Test.YtilpiiafjehbnaaGreatDoorEvN
namespace Go.Ev
open Go.RowKit
set_option linter.unusedSimpArgs false
set_option linter.unusedVariables false
variable {P : Program} {σ : Sg}
theorem sub_spec {a b : Nat} (h : sub a b = true) {i : Nat} (hi : Nat.testBit a i = true) : Nat.testBit b i = true := by
 have := Nat.eq_of_beq_eq_true h
 have h2 : Nat.testBit (a &&& b) i = Nat.testBit a i := by
   show Nat.testBit (Nat.land a b) i = _
   rw [this]
 rw [Nat.testBit_and, hi] at h2
 simpa using h2
theorem testBit_lor (a b i : Nat) : Nat.testBit (Nat.lor a b) i = (Nat.testBit a i || Nat.testBit b i) := Nat.testBit_or a b i
theorem testBit_pow (j i : Nat) : Nat.testBit (Nat.pow 2 j) i = decide (j = i) := Nat.testBit_two_pow
def Good : Nat → List It → Prop
 | _, [] => True
 | E, x :: r => sub x.m E = true ∧ (x.hv = true → (∀ z ∈ r, z.hv = true → Nat.testBit z.m x.i = true) ∧ (∀ y ∈ r, y.hv = false → ∃ z ∈ x :: r, z.hv = true ∧ Nat.testBit y.m z.i = true)) ∧ Good (Nat.lor E (Nat.pow 2 x.i)) r
theorem pass_spec : ∀ (l : List It) (E : Nat), (l.Perm ((pass l E).1 ++ (pass l E).2.1)) ∧ (∀ x ∈ (pass l E).1, x.hv = false) ∧ (∀ s, Good (pass l E).2.2 s → Good E ((pass l E).1 ++ s))
 | [], E => ⟨by simp [pass], by simp [pass], fun s h => by simpa [pass] using h⟩
 | x :: r, E => by
   unfold pass
   split
   · rename_i hhv hsub
     obtain ⟨h1, h2, h3⟩ := pass_spec r (Nat.lor E (Nat.pow 2 x.i))
     refine ⟨?_, ?_, fun s hs => ?_⟩
     · simpa using h1
     · intro y hy
       simp only [List.mem_cons] at hy
       rcases hy with rfl | hy
       · exact hhv
       · exact h2 y hy
     · exact ⟨hsub, (fun e => by rw [hhv] at e; cases e), h3 s hs⟩
   · obtain ⟨h1, h2, h3⟩ := pass_spec r E
     refine ⟨?_, h2, h3⟩
     exact (List.Perm.cons x h1).trans List.perm_middle.symm
theorem takeHv_spec : ∀ {l : List It} {x : It} {rest : List It}, takeHv l = some (x, rest) → l.Perm (x :: rest) ∧ x.hv = true
 | [], x, rest, h => by simp [takeHv] at h
 | y :: r, x, rest, h => by
   unfold takeHv at h
   split at h
   · rename_i hy
     simp only [Option.some.injEq, Prod.mk.injEq] at h
     obtain ⟨rfl, rfl⟩ := h
     exact ⟨List.Perm.refl _, hy⟩
   · split at h
     · rename_i z l hz
       simp only [Option.some.injEq, Prod.mk.injEq] at h
       obtain ⟨rfl, rfl⟩ := h
       obtain ⟨h1, h2⟩ := takeHv_spec hz
       exact ⟨(List.Perm.cons y h1).trans (List.Perm.swap _ _ _), h2⟩
     · cases h
theorem hvs_spec : ∀ (l : List It) (i : Nat), Nat.testBit (hvs l) i = true → ∃ z ∈ l, z.hv = true ∧ z.i = i
 | [], i, h => by simp [hvs] at h
 | x :: r, i, h => by
   unfold hvs at h
   split at h
   · rename_i hx
     rw [testBit_lor, testBit_pow] at h
     simp only [Bool.or_eq_true, decide_eq_true_eq] at h
     rcases h with rfl | h
     · exact ⟨x, by simp, hx, rfl⟩
     · obtain ⟨z, h1, h2⟩ := hvs_spec r i h
       exact ⟨z, by simp [h1], h2⟩
   · obtain ⟨z, h1, h2⟩ := hvs_spec r i h
     exact ⟨z, by simp [h1], h2⟩
theorem waits_spec {R : Nat} : ∀ {l : List It}, waits R l = true → ∀ y ∈ l, y.hv = false → ∃ i, Nat.testBit R i = true ∧ Nat.testBit y.m i = true
 | [], _, y, hy, _ => by cases hy
 | x :: r, h, y, hy, hl => by
   unfold waits at h
   simp only [List.mem_cons] at hy
   split at h
   · rename_i hx
     rcases hy with rfl | hy
     · rw [hx] at hl; cases hl
     · exact waits_spec h y hy hl
   · split at h
     · cases h
     · rename_i k hk
       rcases hy with rfl | hy
       · have hne : Nat.land y.m R ≠ 0 := by rw [hk]; simp
         have : ∃ i, Nat.testBit (y.m &&& R) i = true := by
           apply Nat.exists_testBit_of_ne_zero
           exact hne
         obtain ⟨i, hi⟩ := this
         rw [Nat.testBit_and] at hi
         simp only [Bool.and_eq_true] at hi
         exact ⟨i, hi.2, hi.1⟩
       · exact waits_spec h y hy hl
theorem plan_spec : ∀ (k : Nat) (l : List It) (E HE : Nat) (r : List It), plan k l E HE = some r → r.Perm l ∧ Good E r ∧ (∀ z ∈ l, z.hv = true → sub HE z.m = true)
 | 0, l, E, HE, r, h => by simp [plan] at h
 | k + 1, l, E, HE, r, h => by
   simp only [plan] at h
   obtain ⟨p1, p2, p3⟩ := pass_spec l E
   generalize hp : pass l E = q at h p1 p2 p3
   obtain ⟨a, b, E'⟩ := q
   simp only at h p1 p2 p3
   split at h
   · simp only [Option.some.injEq] at h; subst h
     refine ⟨by simpa using p1.symm, by simpa using p3 [] trivial, fun z hz hh => ?_⟩
     have : z ∈ a := by simpa using p1.mem_iff.1 hz
     rw [p2 z this] at hh; cases hh
   · split at h
     · cases h
     · rename_i x rest hx
       obtain ⟨t1, t2⟩ := takeHv_spec hx
       split at h
       · cases h
       · rename_i hc
         simp only [Bool.and_eq_true] at hc
         obtain ⟨⟨c1, c2⟩, c3⟩ := hc
         split at h
         · rename_i r' hr'
           simp only [Option.some.injEq] at h; subst h
           obtain ⟨g1, g2, g3⟩ := plan_spec k rest _ _ _ hr'
           have hperm : (x :: r').Perm _ := (List.Perm.cons x g1).trans t1.symm
           refine ⟨(List.Perm.append_left a hperm).trans p1.symm, p3 _ ⟨c1, fun _ => ⟨fun z hz hh => ?_, fun y hy hl => ?_⟩, g2⟩, fun z hz hh => ?_⟩
           · have := sub_spec (g3 z (g1.mem_iff.1 hz) hh) (i := x.i) (by rw [testBit_lor, testBit_pow]; simp)
             exact this
           · have hyb := hperm.mem_iff.1 (List.mem_cons_of_mem x hy)
             obtain ⟨i, w1, w2⟩ := waits_spec c3 y hyb hl
             obtain ⟨z, z1, z2, z3⟩ := hvs_spec _ _ w1
             exact ⟨z, hperm.mem_iff.2 z1, z2, by rw [z3]; exact w2⟩
           · have hzz := p1.mem_iff.1 hz
             simp only [List.mem_append] at hzz
             rcases hzz with hzz | hzz
             · rw [p2 z hzz] at hh; cases hh
             · have := t1.mem_iff.1 hzz
               simp only [List.mem_cons] at this
               rcases this with rfl | this
               · exact c2
               · have h3 := g3 z this hh
                 unfold sub at h3 ⊢
                 have h4 : ∀ i, Nat.testBit HE i = true → Nat.testBit z.m i = true := fun i hi => sub_spec h3 (by rw [testBit_lor, hi]; rfl)
                 have : Nat.land HE z.m = HE := by
                   apply Nat.eq_of_testBit_eq
                   intro i
                   show Nat.testBit (HE &&& z.m) i = _
                   rw [Nat.testBit_and]
                   cases hq : Nat.testBit HE i with
                   | true => rw [h4 i hq]; rfl
                   | false => rfl
                 rw [this]; simp
         · cases h
theorem edges_spec {ms : T Nat} {D : Nat → Prop} : ∀ (l : List Edge) (acc : Nat), (∀ i, Nat.testBit acc i = true → D i) → (∀ e ∈ l, Region.binds .any e = true → D e.on ∧ ∀ m, ms.get e.on = some m → ∀ i, Nat.testBit m i = true → D i) →
   ∀ i, Nat.testBit (edgesM ms l acc) i = true → D i
 | [], acc, h1, h2, i, hi => h1 i hi
 | e :: r, acc, h1, h2, i, hi => by
   unfold edgesM at hi
   split at hi
   · rename_i hb
     refine edges_spec r _ (fun j hj => ?_) (fun e' he' => h2 e' (by simp [he'])) i hi
     rw [testBit_lor, testBit_lor, testBit_pow] at hj
     simp only [Bool.or_eq_true, decide_eq_true_eq] at hj
     obtain ⟨k1, k2⟩ := h2 e (by simp) hb
     rcases hj with hj | rfl | hj
     · exact h1 j hj
     · exact k1
     · split at hj
       · rename_i m hm; exact k2 m hm j hj
       · simp at hj
   · exact edges_spec r acc h1 (fun e' he' => h2 e' (by simp [he'])) i hi
theorem edges_has {ms : T Nat} : ∀ (l : List Edge) (acc i : Nat), Nat.testBit acc i = true ∨ (∃ e ∈ l, Region.binds .any e = true ∧ e.on = i) → Nat.testBit (edgesM ms l acc) i = true
 | [], acc, i, h => by simpa [edgesM] using h
 | e :: r, acc, i, h => by
   unfold edgesM
   split
   · rename_i hb
     refine edges_has r _ i ?_
     rcases h with h | ⟨e', he', hb', hi⟩
     · left; rw [testBit_lor, h]; rfl
     · simp only [List.mem_cons] at he'
       rcases he' with rfl | he'
       · left; rw [testBit_lor, testBit_lor, testBit_pow]; simp [hi]
       · exact .inr ⟨e', he', hb', hi⟩
   · rename_i hb
     refine edges_has r acc i ?_
     rcases h with h | ⟨e', he', hb', hi⟩
     · exact .inl h
     · simp only [List.mem_cons] at he'
       rcases he' with rfl | he'
       · rw [hb] at hb'; cases hb'
       · exact .inr ⟨e', he', hb', hi⟩
structure ItOK (P : Program) (lm : Bool) (ops : Array Oper) (x : It) : Prop where
 op : ops[x.i]? = some x.o
 rd : x.rd = rdOf ops x.o
 hv : x.hv = hvy P lm x.o.op
def MaskOK (ops : Array Oper) (its : List It) : Prop := ∀ x ∈ its, ∀ D : Nat → Prop, (∀ y ∈ its, D y.i → ∀ j, Nat.testBit y.m j = true → D j) →
 (∀ e ∈ x.o.after, Region.binds .any e = true → D e.on) → ∀ j, Nat.testBit x.m j = true → D j
theorem itsOf_spec {lm : Bool} {ops : Array Oper} : ∀ (l : List Oper) (k : Nat) (ms : T Nat) (past : List It), (∀ j, l[j]? = ops[k + j]?) → (∀ j m, ms.get j = some m → ∃ y ∈ past, y.i = j ∧ y.m = m) →
   (∀ x ∈ itsOf P lm ops l k ms, ItOK P lm ops x ∧ k ≤ x.i ∧ x.i < k + l.length) ∧
   (∀ j, j < l.length → ∃ x ∈ itsOf P lm ops l k ms, x.i = k + j) ∧
   (itsOf P lm ops l k ms).Pairwise (fun x y => x.i ≠ y.i) ∧
   (∀ x ∈ itsOf P lm ops l k ms, ∀ D : Nat → Prop, (∀ y ∈ past ++ itsOf P lm ops l k ms, D y.i → ∀ j, Nat.testBit y.m j = true → D j) → (∀ e ∈ x.o.after, Region.binds .any e = true → D e.on) → ∀ j, Nat.testBit x.m j = true → D j) ∧
   (∀ x ∈ itsOf P lm ops l k ms, ∀ e ∈ x.o.after, Region.binds .any e = true → Nat.testBit x.m e.on = true)
 | [], k, ms, past, hl, hms => ⟨by simp [itsOf], by simp, by simp [itsOf], by simp [itsOf], by simp [itsOf]⟩
 | o :: r, k, ms, past, hl, hms => by
   have h0 : ops[k]? = some o := by simpa using (hl 0).symm
   let x : It := ⟨k, o, edgesM ms o.after.toList 0, rdOf ops o, hvy P lm o.op⟩
   obtain ⟨h1, h2, h3, h4, h5⟩ := itsOf_spec (ops := ops) r (k + 1) (ms.set k (edgesM ms o.after.toList 0)) (past ++ [x]) (fun j => by
       have := hl (j + 1); simpa [Nat.add_assoc, Nat.add_comm 1 j] using this) (fun j m hm => by
       rw [T.get_set] at hm
       split at hm
       · rename_i e
         simp only [Option.some.injEq] at hm
         exact ⟨x, by simp, e, hm⟩
       · obtain ⟨y, y1, y2⟩ := hms j m hm
         exact ⟨y, by simp [y1], y2⟩)
   have hdef : itsOf P lm ops (o :: r) k ms = x :: itsOf P lm ops r (k + 1) (ms.set k (edgesM ms o.after.toList 0)) := rfl
   rw [hdef]
   refine ⟨fun y hy => ?_, fun j hj => ?_, ?_, fun y hy D hD he => ?_, fun y hy => ?_⟩
   · simp only [List.mem_cons] at hy
     rcases hy with rfl | hy
     · exact ⟨⟨h0, rfl, rfl⟩, Nat.le_refl _, by simp [x]⟩
     · obtain ⟨g1, g2, g3⟩ := h1 y hy
       exact ⟨g1, by omega, by simp; omega⟩
   · cases j with
     | zero => exact ⟨x, by simp, rfl⟩
     | succ j =>
       obtain ⟨y, y1, y2⟩ := h2 j (by simpa using hj)
       exact ⟨y, by simp [y1], by omega⟩
   · rw [List.pairwise_cons]
     exact ⟨fun y hy => by have := (h1 y hy).2.1; simp only [x]; omega, h3⟩
   · simp only [List.mem_cons] at hy
     rcases hy with rfl | hy
     · refine edges_spec o.after.toList 0 (fun i hi => by simp at hi) (fun e hee hb => ?_)
       have hde := he e (by simpa using hee) hb
       refine ⟨hde, fun m hm i hi => ?_⟩
       obtain ⟨y, y1, y2, y3⟩ := hms _ _ hm
       exact hD y (by simp [y1]) (by rw [y2]; exact hde) i (by rw [y3]; exact hi)
     · exact h4 y hy D (fun z hz => hD z (by simp only [List.append_assoc, List.cons_append, List.nil_append] at hz; exact hz)) he
   · simp only [List.mem_cons] at hy
     rcases hy with rfl | hy
     · exact fun e hee hb => edges_has _ _ _ (.inr ⟨e, by simpa using hee, hb, rfl⟩)
     · exact h5 y hy
structure TF (S : SG) (its : List It) : Prop where
 low : ∀ x ∈ its, ∀ j, Nat.testBit x.m j = true → j < x.i
 dst : ∀ x ∈ its, ∀ d, x.o.dst = some d → d < S.n
 one : ∀ x ∈ its, ∀ d, x.o.dst = some d → ∀ y ∈ its, y.i ≠ x.i → y.o.dst ≠ some d
 look : ∀ x ∈ its, ∀ d, x.o.dst = some d → ∀ y ∈ its, y.i ≠ x.i → Nat.testBit y.rd d = true → Nat.testBit y.m x.i = true ∨ Nat.testBit x.m y.i = true
theorem freeOf_spec {x : It} {d : Tmp} : ∀ {l : List It}, freeOf x d l = true → ∀ y ∈ l, y.i ≠ x.i → y.o.dst ≠ some d ∧ (Nat.testBit y.rd d = true → Nat.testBit y.m x.i = true ∨ Nat.testBit x.m y.i = true)
 | [], _, y, hy, _ => by cases hy
 | z :: r, h, y, hy, hne => by
   unfold freeOf at h
   split at h
   · rename_i hc
     simp only [List.mem_cons] at hy
     rcases hy with rfl | hy
     · simp only [Bool.or_eq_true, Bool.and_eq_true, Bool.not_eq_true'] at hc
       rcases hc with hc | ⟨c1, c2⟩
       · exact absurd (Nat.eq_of_beq_eq_true hc).symm hne
       · refine ⟨fun e => ?_, fun hr => ?_⟩
         · simp [dstIs, e] at c1
         · rcases c2 with (c2 | c2) | c2
           · rw [hr] at c2; cases c2
           · exact .inl c2
           · exact .inr c2
     · exact freeOf_spec h y hy hne
   · cases h
theorem tempsFree_spec {S : SG} {its : List It} : ∀ {l : List It}, tempsFree S its l = true → ∀ x ∈ l, (∀ j, Nat.testBit x.m j = true → j < x.i) ∧ ∀ d, x.o.dst = some d → d < S.n ∧ freeOf x d its = true
 | [], _, y, hy => by cases hy
 | z :: r, h, y, hy => by
   unfold tempsFree at h
   split at h
   · rename_i hc
     simp only [Bool.and_eq_true] at hc
     simp only [List.mem_cons] at hy
     rcases hy with rfl | hy
     · refine ⟨fun j hj => ?_, fun d hd => ?_⟩
       · have hlt : y.m < 2 ^ y.i := Nat.le_of_ble_eq_true hc.1
         rcases Nat.lt_or_ge j y.i with hji | hji
         · exact hji
         · have := Nat.testBit_lt_two_pow (Nat.lt_of_lt_of_le hlt (Nat.pow_le_pow_right (by omega) hji))
           rw [this] at hj; cases hj
       · have h2 := hc.2
         rw [hd] at h2
         simp only [Bool.and_eq_true] at h2
         exact ⟨Nat.le_of_ble_eq_true h2.1, h2.2⟩
     · exact tempsFree_spec h y hy
   · cases h
theorem tf_of {S : SG} {its : List It} (h : tempsFree S its its = true) : TF S its where
 low := fun x hx => (tempsFree_spec h x hx).1
 dst := fun x hx d hd => ((tempsFree_spec h x hx).2 d hd).1
 one := fun x hx d hd y hy hne => (freeOf_spec ((tempsFree_spec h x hx).2 d hd).2 y hy hne).1
 look := fun x hx d hd y hy hne => (freeOf_spec ((tempsFree_spec h x hx).2 d hd).2 y hy hne).2
theorem rdOps_mem : ∀ {l : List Operand} {t : Tmp}, .tmp t ∈ l → Nat.testBit (rdOps l) t = true
 | [], t, h => by cases h
 | x :: r, t, h => by
   simp only [List.mem_cons] at h
   rcases h with h | h
   · subst h; simp only [rdOps]; rw [testBit_lor, testBit_pow]; simp
   · have ih := rdOps_mem h
     cases x with
     | tmp u => simp only [rdOps]; rw [testBit_lor, ih]; simp
     | _ => exact ih
theorem rdOf_operand {ops : Array Oper} {o : Oper} {t : Tmp} (h : .tmp t ∈ o.op.operands.toList) : Nat.testBit (rdOf ops o) t = true := by
 have := rdOps_mem h
 unfold rdOf
 split
 · exact this
 · split
   · split
     · rw [testBit_lor, this]; simp
     · exact this
   · exact this
theorem rdOf_guard {ops : Array Oper} {o oj : Oper} {j : Nat} {w : Bool} {d : Tmp} (h : o.guard = some (j, w)) (hj : ops[j]? = some oj) (hd : oj.dst = some d) : Nat.testBit (rdOf ops o) d = true := by
 unfold rdOf
 rw [h]
 simp only [hj, hd]
 rw [testBit_lor, testBit_pow]
 simp
end Go.Ev
