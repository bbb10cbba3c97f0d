import Derived.Test.YtilpiiafjehbnaaGreatDoorEvP
namespace Go.Ev
open Go.RowKit
set_option linter.unusedSimpArgs false
set_option linter.unusedVariables false
variable {P : Program} {σ : Sg}
abbrev Hist := List (It × Value)
def dsts (hs : Hist) : List (Option Nat) := hs.map (·.1.o.dst)
def vals (hs : Hist) : List Value := hs.map (·.2)
theorem idx_some {t : Nat} : ∀ {hs : Hist} {k : Nat}, idx t (dsts hs) = some k → ∃ p ∈ hs, p.1.o.dst = some t ∧ nthD k (vals hs) = p.2
 | [], k, h => by simp [dsts, idx] at h
 | p :: r, k, h => by
   have hd : dsts (p :: r) = p.1.o.dst :: dsts r := rfl
   rw [hd] at h
   have hrec : ∀ k, (match idx t (dsts r) with | some j => some (j + 1) | none => none) = some k → ∃ q ∈ p :: r, q.1.o.dst = some t ∧ nthD k (vals (p :: r)) = q.2 := fun k h => by
     split at h
     · rename_i j hj
       simp only [Option.some.injEq] at h; subst h
       obtain ⟨q, q1, q2, q3⟩ := idx_some hj
       exact ⟨q, by simp [q1], q2, q3⟩
     · cases h
   cases hp : p.1.o.dst with
   | none => rw [hp] at h; exact hrec k h
   | some d =>
     rw [hp] at h
     simp only [idx] at h
     split at h
     · rename_i hb
       simp only [Option.some.injEq] at h; subst h
       exact ⟨p, by simp, by rw [hp, Nat.eq_of_beq_eq_true hb], rfl⟩
     · exact hrec k h
theorem idx_none {t : Nat} : ∀ {hs : Hist}, idx t (dsts hs) = none → ∀ p ∈ hs, p.1.o.dst ≠ some t
 | [], _, p, hp => by cases hp
 | q :: r, h, p, hp => by
   have hd : dsts (q :: r) = q.1.o.dst :: dsts r := rfl
   rw [hd] at h
   have hrec : (match idx t (dsts r) with | some j => some (j + 1) | none => none) = none → ∀ p ∈ r, p.1.o.dst ≠ some t := fun h => by
     split at h
     · cases h
     · rename_i hj; exact idx_none hj
   simp only [List.mem_cons] at hp
   cases hq : q.1.o.dst with
   | none =>
     rw [hq] at h
     rcases hp with rfl | hp
     · rw [hq]; simp
     · exact hrec h p hp
   | some d =>
     rw [hq] at h
     simp only [idx] at h
     split at h
     · cases h
     · rename_i hb
       rcases hp with rfl | hp
       · rw [hq]; intro e; simp only [Option.some.injEq] at e; exact Nat.ne_of_beq_eq_false hb e
       · exact hrec h p hp
structure Fixed (P : Program) (lm : Bool) (S : SG) (ops : Array Oper) (its : List It) : Prop where
 it : ∀ x ∈ its, ItOK P lm ops x
 lt : ∀ x ∈ its, x.i < ops.size
 all : ∀ j, j < ops.size → ∃ x ∈ its, x.i = j
 uniq : ∀ x ∈ its, ∀ y ∈ its, x.i = y.i → x = y
 mask : MaskOK ops its
 has : ∀ x ∈ its, ∀ e ∈ x.o.after, Region.binds .any e = true → Nat.testBit x.m e.on = true
 tf : TF S its
def G (D : Nat → Prop) (al : List Al) (h : H) : GT := fun B x => h.objs.get B = some x ∨ ∃ a ∈ al, D a.i ∧ a.b = B ∧ a.x = x
structure Base where
 S : SG
 its : List It
 base : Nat
 n : Nat
 tm0 : T Value
 a0 : Act
 σ0 : Sg
 h0 : H
 w0 : World
structure Inv (b : Base) (D : Nat → Prop) (hist : Hist) (al : List Al) (h : H) (σ : Sg) (a : Act) (w : World) : Prop where
 closed : ∀ y ∈ b.its, D y.i → ∀ j, Nat.testBit y.m j = true → D j
 sub : ∀ i, D i → ∃ p ∈ hist, p.1.i = i
 i1 : ∀ p ∈ hist, D p.1.i → ∀ d, p.1.o.dst = some d → VR σ p.2 (a.tmps.getD d undef)
 i2 : ∀ t, (∀ y ∈ b.its, D y.i → y.o.dst ≠ some t) → a.tmps.getD t undef = b.a0.tmps.getD t undef
 rel : RelG σ (G D al h) h.next w
 free : ∀ i, i < b.n → ¬ D i → σ (b.base + i) = none
 bnd : b.base + b.n ≤ h.next
 size : a.tmps.size = b.S.n
 defs : a.defers = []
 glob : Glob σ b.S.g
 tm0 : ∀ t, Nat.testBit b.S.m t = true → VR σ (getT (toPos (Nat.succ t)) b.tm0) (b.a0.tmps.getD t undef)
 ext : ExtG b.σ0 b.h0 b.w0 σ (G D al h) h.next w
 alh : ∀ a ∈ al, h.objs.get a.b = none
structure Ctx (b : Base) (hist : Hist) (x : It) (hs : Hist) (tmx : T Value) : Prop where
 suf : ∀ p ∈ hs, p ∈ hist
 notin : ∀ p ∈ hs, p.1.i ≠ x.i
 anc : ∀ j, Nat.testBit x.m j = true → ∃ p ∈ hs, p.1.i = j
 cl : ∀ p ∈ hs, ∀ j, Nat.testBit p.1.m j = true → ∃ q ∈ hs, q.1.i = j
 tm : ∀ t, Nat.testBit b.S.m t = true → (∀ p ∈ hs, p.1.o.dst ≠ some t) → getT (toPos (Nat.succ t)) tmx = getT (toPos (Nat.succ t)) b.tm0
structure Can (b : Base) (E : Nat) (hist : Hist) (tm : T Value) (al : List Al) (l : List It) : Prop where
 ebits : ∀ i, Nat.testBit E i = true ↔ ∃ p ∈ hist, p.1.i = i
 good : Good E l
 part : ∀ x ∈ b.its, (∃ p ∈ hist, p.1 = x) ∨ x ∈ l
 lin : ∀ x ∈ l, x ∈ b.its
 disj : ∀ x ∈ l, ∀ p ∈ hist, p.1.i ≠ x.i
 lnd : l.Pairwise (fun x y => x.i ≠ y.i)
 hin : ∀ p ∈ hist, p.1 ∈ b.its
 hun : ∀ p ∈ hist, ∀ q ∈ hist, p.1.i = q.1.i → p = q
 hcl : ∀ p ∈ hist, ∀ j, Nat.testBit p.1.m j = true → ∃ q ∈ hist, q.1.i = j
 tmw : ∀ t, Nat.testBit b.S.m t = true → ∀ p ∈ hist, p.1.o.dst = some t → getT (toPos (Nat.succ t)) tm = p.2
 tm : ∀ t, Nat.testBit b.S.m t = true → (∀ p ∈ hist, p.1.o.dst ≠ some t) → getT (toPos (Nat.succ t)) tm = getT (toPos (Nat.succ t)) b.tm0
 al : ∀ a ∈ al, a.b = b.base + a.i ∧ a.i < b.n ∧ ∃ p ∈ hist, p.1.i = a.i
theorem Can.ctx {b : Base} {E : Nat} {hist : Hist} {tm : T Value} {al : List Al} {x : It} {l : List It} (c : Can b E hist tm al (x :: l)) : Ctx b hist x hist tm where
 suf := fun p hp => hp
 notin := fun p hp => c.disj x (by simp) p hp
 anc := fun j hj => (c.ebits j).1 (sub_spec c.good.1 hj)
 cl := c.hcl
 tm := c.tm
theorem Ctx.grow {b : Base} {hist hist' : Hist} {x : It} {hs : Hist} {tmx : T Value} (c : Ctx b hist x hs tmx) (h : ∀ p ∈ hist, p ∈ hist') : Ctx b hist' x hs tmx :=
 ⟨fun p hp => h p (c.suf p hp), c.notin, c.anc, c.cl, c.tm⟩
theorem Can.step {b : Base} {E : Nat} {hist : Hist} {tm : T Value} {al al' : List Al} {x : It} {l : List It} (c : Can b E hist tm al (x :: l)) (v : Value)
   (hal : ∀ a ∈ al', a.b = b.base + a.i ∧ a.i < b.n ∧ ∃ p ∈ (x, v) :: hist, p.1.i = a.i) (hone : ∀ p ∈ hist, ∀ d, p.1.o.dst = some d → x.o.dst ≠ some d) : Can b (Nat.lor E (Nat.pow 2 x.i)) ((x, v) :: hist) ((putB b.S x.o.dst).f v tm) al' l where
 ebits := fun i => by
   rw [testBit_lor, testBit_pow]
   simp only [Bool.or_eq_true, decide_eq_true_eq, List.mem_cons, exists_eq_or_imp, c.ebits]
   exact ⟨fun h => h.elim .inr .inl, fun h => h.elim .inr .inl⟩
 good := c.good.2.2
 part := fun y hy => by
   rcases c.part y hy with ⟨p, h1, h2⟩ | h
   · exact .inl ⟨p, by simp [h1], h2⟩
   · simp only [List.mem_cons] at h
     rcases h with rfl | h
     · exact .inl ⟨(y, v), by simp, rfl⟩
     · exact .inr h
 lin := fun y hy => c.lin y (by simp [hy])
 disj := fun y hy p hp => by
   simp only [List.mem_cons] at hp
   rcases hp with rfl | hp
   · exact (List.pairwise_cons.1 c.lnd).1 y hy
   · exact c.disj y (by simp [hy]) p hp
 lnd := (List.pairwise_cons.1 c.lnd).2
 hin := fun p hp => by
   simp only [List.mem_cons] at hp
   rcases hp with rfl | hp
   · exact c.lin x (by simp)
   · exact c.hin p hp
 hun := fun p hp q hq he => by
   simp only [List.mem_cons] at hp hq
   rcases hp with rfl | hp
   · rcases hq with rfl | hq
     · rfl
     · exact absurd he.symm (c.disj x (by simp) q hq)
   · rcases hq with rfl | hq
     · exact absurd he (c.disj x (by simp) p hp)
     · exact c.hun p hp q hq he
 hcl := fun p hp j hj => by
   simp only [List.mem_cons] at hp
   rcases hp with rfl | hp
   · obtain ⟨q, q1, q2⟩ := c.ctx.anc j hj
     exact ⟨q, by simp [q1], q2⟩
   · obtain ⟨q, q1, q2⟩ := c.hcl p hp j hj
     exact ⟨q, by simp [q1], q2⟩
 tm := fun t ht hn => by
   have hx : x.o.dst ≠ some t := hn (x, v) (by simp)
   have hr := c.tm t ht (fun p hp => hn p (by simp [hp]))
   rw [← hr]
   cases hd : x.o.dst with
   | none => rfl
   | some d =>
     rw [putB_get, if_neg]
     rintro ⟨rfl, _⟩
     exact hx hd
 al := hal
 tmw := fun t ht p hp hpd => by
   simp only [List.mem_cons] at hp
   rcases hp with rfl | hp
   · simp only at hpd ⊢
     rw [hpd, putB_get, if_pos ⟨rfl, ht⟩]
   · have hx := hone p hp t hpd
     rw [← c.tmw t ht p hp hpd]
     cases hd : x.o.dst with
     | none => rfl
     | some d =>
       rw [putB_get, if_neg]
       rintro ⟨rfl, _⟩
       exact hx hd
section
variable {lm : Bool} {ops : Array Oper} {b : Base} {D : Nat → Prop} {hist : Hist} {al : List Al} {h : H} {a : Act} {w : World}
theorem look_ok (F : Fixed P lm b.S ops b.its) (I : Inv b D hist al h σ a w) (hin : ∀ p ∈ hist, p.1 ∈ b.its) {x : It} {hs : Hist} {tmx : T Value} (hx : x ∈ b.its) (C : Ctx b hist x hs tmx) (hnd : ¬ D x.i) (hanc : ∀ j, Nat.testBit x.m j = true → D j)
   {t : Nat} (hrd : Nat.testBit x.rd t = true) (hkn : known ⟨b.S, dsts hs⟩ (.tmp t) = true) :
   VR σ (eval ⟨b.S, dsts hs⟩ (.tmp t) (vals hs) tmx) (a.tmps.getD t undef) := by
 simp only [known] at hkn
 unfold eval opnd
 simp only
 cases hi : idx t (dsts hs) with
 | some k =>
   obtain ⟨p, p1, p2, p3⟩ := idx_some hi
   simp only
   rw [p3]
   refine I.i1 p (C.suf p p1) ?_ t p2
   rcases F.tf.look p.1 (hin p (C.suf p p1)) t p2 x hx (Ne.symm (C.notin p p1)) hrd with h1 | h1
   · exact hanc _ h1
   · obtain ⟨q, q1, q2⟩ := C.cl p p1 x.i h1
     exact absurd q2 (C.notin q q1)
 | none =>
   rw [hi] at hkn
   simp only at hkn ⊢
   rw [C.tm t hkn (idx_none hi)]
   rw [I.i2 t (fun y hy hdy hyd => ?_)]
   · exact I.tm0 t hkn
   · have hne : x.i ≠ y.i := fun e => hnd (by rw [e]; exact hdy)
     rcases F.tf.look y hy t hyd x hx hne hrd with h1 | h1
     · obtain ⟨q, q1, q2⟩ := C.anc y.i h1
       have : q.1 = y := F.uniq q.1 (hin q (C.suf q q1)) y hy q2
       exact idx_none hi q q1 (by rw [this]; exact hyd)
     · exact hnd (I.closed y hy hdy x.i h1)
noncomputable def knO (sc : Sc) (o : Oper) : Operand → Bool := fun y => @decide (y ∈ o.op.operands.toList ∧ known sc y = true) (Classical.propDecidable _)
theorem knO_all {sc : Sc} {o : Oper} (h : o.op.operands.toList.all (known sc) = true) : o.op.operands.toList.all (knO sc o) = true := by
 rw [List.all_eq_true] at h ⊢
 intro y hy
 simp only [knO, decide_eq_true_eq]
 exact ⟨hy, h y hy⟩
theorem fr_ok (F : Fixed P lm b.S ops b.its) (I : Inv b D hist al h σ a w) (hin : ∀ p ∈ hist, p.1 ∈ b.its) {x : It} {hs : Hist} {tmx : T Value} (hx : x ∈ b.its) (C : Ctx b hist x hs tmx) (hnd : ¬ D x.i) (hanc : ∀ j, Nat.testBit x.m j = true → D j) :
   FR σ ⟨b.S, dsts hs⟩ (knO ⟨b.S, dsts hs⟩ x.o) (vals hs) tmx a := by
 intro y hy
 simp only [knO, decide_eq_true_eq] at hy
 obtain ⟨hm, hk⟩ := hy
 cases y with
 | tmp t => exact look_ok F I hin hx C hnd hanc (by rw [(F.it x hx).rd]; exact rdOf_operand hm) hk
 | const v => exact cstOk_vr hk
 | global g =>
   obtain ⟨c, h1, h2, h3⟩ := I.glob g (Nat.le_of_ble_eq_true hk)
   have := VR.ptr (σ := σ) g 0 c h1
   rw [h2, h3] at this
   exact this
 | func f => exact .func _ _ _ _ _ rfl rfl (fun i x y h => by simp at h) (fun i x y h => by simp at h)
theorem want_ok (F : Fixed P lm b.S ops b.its) (I : Inv b D hist al h σ a w) (hin : ∀ p ∈ hist, p.1 ∈ b.its) {x : It} {hs : Hist} {tmx : T Value} (hx : x ∈ b.its) (C : Ctx b hist x hs tmx) (hnd : ¬ D x.i) (hanc : ∀ j, Nat.testBit x.m j = true → D j)
   (hok : wantOk ⟨b.S, dsts hs⟩ ops x.o.guard = true) : (wantB ⟨b.S, dsts hs⟩ ops x.o.guard).f (vals hs) tmx = Region.wanted x.o (yielded ops a.tmps) := by
 refine want_sound (σ := σ) (fun j w oj d h1 h2 h3 => ?_) hok
 refine look_ok F I hin hx C hnd hanc (by rw [(F.it x hx).rd]; exact rdOf_guard h1 h2 h3) ?_
 simpa [wantOk, h1, h2, h3] using hok
theorem Inv.done (F : Fixed P lm b.S ops b.its) (I : Inv b D hist al h σ a w) (hin : ∀ p ∈ hist, p.1 ∈ b.its) (hun : ∀ p ∈ hist, ∀ q ∈ hist, p.1.i = q.1.i → p = q) {p : It × Value} (hp : p ∈ hist) (hnd : ¬ D p.1.i) (hanc : ∀ j, Nat.testBit p.1.m j = true → D j)
   {σ' : Sg} {v' : Value} {w' : World} {al' : List Al} {h' : H} (hs : σ.le σ') (hv : VR σ' p.2 v') (rel : RelG σ' (G (fun i => D i ∨ i = p.1.i) al' h') h'.next w') (free : ∀ i, i < b.n → ¬ (D i ∨ i = p.1.i) → σ' (b.base + i) = none)
   (bnd : b.base + b.n ≤ h'.next) (ext : ExtG b.σ0 b.h0 b.w0 σ' (G (fun i => D i ∨ i = p.1.i) al' h') h'.next w') (alh : ∀ a ∈ al', h'.objs.get a.b = none) : Inv b (fun i => D i ∨ i = p.1.i) hist al' h' σ' (a.put p.1.o.dst v') w' where
 closed := fun y hy hd j hj => by
   rcases hd with hd | hd
   · exact .inl (I.closed y hy hd j hj)
   · have : y = p.1 := F.uniq y hy p.1 (hin p hp) hd
     rw [this] at hj
     exact .inl (hanc j hj)
 sub := fun i hi => by
   rcases hi with hi | rfl
   · exact I.sub i hi
   · exact ⟨p, hp, rfl⟩
 i1 := fun q hq hd d hqd => by
   have hds : d < a.tmps.size := by rw [I.size]; exact F.tf.dst q.1 (hin q hq) d hqd
   by_cases he : q.1.i = p.1.i
   · have := hun q hq p hp he
     subst this
     rw [hqd, getD_put hds, if_pos rfl]; exact hv
   · have hdq : D q.1.i := hd.resolve_right he
     have hne := F.tf.one q.1 (hin q hq) d hqd p.1 (hin p hp) (Ne.symm he)
     have hold := (I.i1 q hq hdq d hqd).mono hs
     cases hpd : p.1.o.dst with
     | none => exact hold
     | some e =>
       have hes : e < a.tmps.size := by rw [I.size]; exact F.tf.dst p.1 (hin p hp) e hpd
       rw [getD_put hes, if_neg]
       · exact hold
       · rintro rfl; exact hne hpd
 i2 := fun t ht => by
   have h1 := I.i2 t (fun y hy hd => ht y hy (.inl hd))
   rw [← h1]
   have hne := ht p.1 (hin p hp) (.inr rfl)
   cases hpd : p.1.o.dst with
   | none => rfl
   | some e =>
     have hes : e < a.tmps.size := by rw [I.size]; exact F.tf.dst p.1 (hin p hp) e hpd
     rw [getD_put hes, if_neg]
     rintro rfl; exact hne hpd
 rel := rel
 free := free
 bnd := bnd
 size := by rw [put_size]; exact I.size
 defs := by rw [put_defers]; exact I.defs
 glob := I.glob.mono hs
 tm0 := fun t ht => (I.tm0 t ht).mono hs
 ext := ext
 alh := alh
end
theorem RelG.mono {G G' : GT} {next : Nat} {w : World} (r : RelG σ G next w) (hs : ∀ B x, G' B x → G B x) : RelG σ G' next w :=
 ⟨r.fresh, r.inb, fun B x hx => r.obj B x (hs B x hx), fun B x B' x' c c' hx hm hx' => r.excl B x B' x' c c' (hs B x hx) hm (hs B' x' hx')⟩
theorem ExtG.mono {σ0 : Sg} {h0 : H} {w0 : World} {G G' : GT} {next : Nat} {w : World} (e : ExtG σ0 h0 w0 σ G next w) (hs : ∀ B x, G' B x → G B x) : ExtG σ0 h0 w0 σ G' next w :=
 ⟨e.le, e.kept, fun k hk ⟨B, x, c, h1, h2⟩ => e.own k hk ⟨B, x, c, hs B x h1, h2⟩, e.next, fun k hk ⟨B, x, c, h1, h2⟩ => e.uses k hk ⟨B, x, c, hs B x h1, h2⟩, e.old, fun B hB hn x hx => e.gone B hB hn x (hs B x hx)⟩
theorem RelG.alloc {G G' : GT} {next d : Nat} {w : World} (r : RelG σ G next w) {B : Nat} {x : AObj} {c : CB} {o : Obj} (hB : σ B = none) (hlt : B < next) (hc : c.blk = w.heap.size)
   (hx : ObjR (σ.upd B c) (({ w with drawn := w.drawn + d } : World).alloc o) c x) (hG : ∀ B' x', G' B' x' → G B' x' ∨ (B' = B ∧ x' = x)) : RelG (σ.upd B c) G' next (({ w with drawn := w.drawn + d } : World).alloc o) := by
 have hle := Sg.le_upd c hB
 have hsz : (({ w with drawn := w.drawn + d } : World).alloc o).heap.size = w.heap.size + 1 := by simp
 have hold : ∀ k, k < w.heap.size → (({ w with drawn := w.drawn + d } : World).alloc o).heap[k]? = w.heap[k]? := fun k hk => Below.heap_alloc ({ w with drawn := w.drawn + d } : World) _ _ hk
 have hne : ∀ B' x', G B' x' → B' ≠ B := fun B' x' hg e => by
   obtain ⟨c', h1, _⟩ := r.obj B' x' hg
   rw [e, hB] at h1; cases h1
 refine ⟨fun B' hB' => ?_, fun B' c' h' => ?_, fun B' x' hx' => ?_, fun B1 x1 B2 x2 c1 c2 h1 hm h2 hne' e1 e2 => ?_⟩
 · rw [Sg.upd_other σ c (by omega)]; exact r.fresh B' hB'
 · by_cases e : B' = B
   · subst e; rw [Sg.upd_same] at h'; cases h'; omega
   · rw [Sg.upd_other σ c e] at h'; have := r.inb B' c' h'; omega
 · rcases hG B' x' hx' with hg | ⟨rfl, rfl⟩
   · obtain ⟨c', k1, k2⟩ := r.obj B' x' hg
     exact ⟨c', hle _ _ k1, (k2.mono hle).same (hold _ (r.inb _ _ k1))⟩
   · exact ⟨c, Sg.upd_same _ _ _, hx⟩
 · rcases hG B1 x1 h1 with g1 | ⟨rfl, rfl⟩
   · rw [Sg.upd_other σ c (hne _ _ g1)] at e1
     rcases hG B2 x2 h2 with g2 | ⟨rfl, rfl⟩
     · rw [Sg.upd_other σ c (hne _ _ g2)] at e2
       exact r.excl B1 x1 B2 x2 c1 c2 g1 hm g2 hne' e1 e2
     · rw [Sg.upd_same] at e2; cases e2
       have := r.inb _ _ e1; omega
   · rw [Sg.upd_same] at e1; cases e1
     rcases hG B2 x2 h2 with g2 | ⟨rfl, rfl⟩
     · rw [Sg.upd_other σ c (hne _ _ g2)] at e2
       have := r.inb _ _ e2; omega
     · exact absurd rfl hne'
theorem ExtG.alloc {σ0 : Sg} {h0 : H} {w0 : World} {G G' : GT} {next d : Nat} {w : World} (e : ExtG σ0 h0 w0 σ G next w) {B : Nat} {x : AObj} {c : CB} {o : Obj} (hB : σ B = none) (h0B : h0.next ≤ B) (hc : c.blk = w.heap.size)
   (r : ∀ B x, G B x → ∃ c, σ B = some c) (hG : ∀ B' x', G' B' x' → G B' x' ∨ (B' = B ∧ x' = x)) : ExtG σ0 h0 w0 (σ.upd B c) G' next (({ w with drawn := w.drawn + d } : World).alloc o) := by
 have hold : ∀ k, k < w.heap.size → (({ w with drawn := w.drawn + d } : World).alloc o).heap[k]? = w.heap[k]? := fun k hk => Below.heap_alloc ({ w with drawn := w.drawn + d } : World) _ _ hk
 have hsz : (({ w with drawn := w.drawn + d } : World).alloc o).heap.size = w.heap.size + 1 := by simp
 have hks := e.kept.size
 have key : ∀ k, k < w0.heap.size → ∀ B' x' c', G' B' x' → (σ.upd B c) B' = some c' → c'.blk = k → G B' x' ∧ σ B' = some c' := fun k hk B' x' c' hg hs hb => by
   rcases hG B' x' hg with hg | ⟨rfl, rfl⟩
   · obtain ⟨c2, h2⟩ := r B' x' hg
     have : B' ≠ B := fun e => by rw [e, hB] at h2; cases h2
     rw [Sg.upd_other σ c this] at hs
     exact ⟨hg, hs⟩
   · rw [Sg.upd_same] at hs; cases hs; omega
 refine ⟨Sg.le_trans e.le (Sg.le_upd c hB), ⟨e.kept.os, e.kept.tape, e.kept.output, by omega, fun k hk ho => (hold k (by omega)).trans (e.kept.block k hk ho)⟩, fun k hk ⟨B', x', c', g, hm, hs, hb⟩ => ?_, e.next, fun k hk ⟨B', x', c', g, hs, hb⟩ => ?_, fun B' hB' => ?_, fun B' hB' hn x' hx' => ?_⟩
 · obtain ⟨k1, k2⟩ := key k hk B' x' c' g hs hb
   exact e.own k hk ⟨B', x', c', k1, hm, k2, hb⟩
 · obtain ⟨k1, k2⟩ := key k hk B' x' c' g hs hb
   exact e.uses k hk ⟨B', x', c', k1, k2, hb⟩
 · rw [Sg.upd_other σ c (by omega)]; exact e.old B' hB'
 · rcases hG B' x' hx' with hg | ⟨rfl, rfl⟩
   · exact e.gone B' hB' hn x' hg
   · omega
end Go.Ev
