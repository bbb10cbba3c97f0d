import Derived.Test.YtilpiiafjehbnaaGreatDoorEvR
namespace Go.Ev
open Go.RowKit
set_option linter.unusedSimpArgs false
set_option linter.unusedVariables false
variable {P : Program} {σ : Sg}
section
variable {lm : Bool} {ops : Array Oper} {b : Base} {D : Nat → Prop} {hist : Hist} {al : List Al} {wt : List Wt} {lt : List Lt} {h : H} {a : Act} {w : World}
theorem Can.one (F : Fixed P lm b.S ops b.its) {E : Nat} {tm : T Value} {x : It} {l : List It} (c : Can b E hist tm al (x :: l)) : ∀ p ∈ hist, ∀ d, p.1.o.dst = some d → x.o.dst ≠ some d :=
 fun p hp d hd => F.tf.one p.1 (c.hin p hp) d hd x (c.lin x (by simp)) (Ne.symm (c.disj x (by simp) p hp))
theorem heavy_rel (I : Inv b D hist al h σ a w) (hb : b.h0.next ≤ b.base) (hal : ∀ a ∈ al, a.b = b.base + a.i ∧ a.i < b.n) {m i : Nat} (hm : ∀ j, Nat.testBit m j = true → D j) (hni : ∀ a ∈ al, a.i ≠ i) {σ' : Sg} {h' : H} {w' : World}
   (r : Rel σ' h' w') (e : Ext σ (absorb (alIn m al) h) w σ' h' w') :
   RelG σ' (G (fun j => D j ∨ j = i) (alOut m al) h') h'.next w' ∧ (∀ j, j < b.n → ¬ (D j ∨ j = i) → σ' (b.base + j) = none) ∧ b.base + b.n ≤ h'.next ∧
     ExtG b.σ0 b.h0 b.w0 σ' (G (fun j => D j ∨ j = i) (alOut m al) h') h'.next w' ∧ (∀ a ∈ alOut m al, h'.objs.get a.b = none) := by
 have hnext : (absorb (alIn m al) h).next = h.next := absorb_next _ _
 have hle : h.next ≤ h'.next := by rw [← hnext]; exact e.next
 have hold : ∀ B, B < h.next → σ' B = σ B := fun B hB => e.old B (by rw [hnext]; exact hB)
 have hsub : ∀ B x, (absorb (alIn m al) h).objs.get B = some x → G D al h B x := fun B x hx => by
   rcases absorb_get _ _ _ _ hx with ⟨a', h1, h2, h3⟩ | hx
   · obtain ⟨k1, k2⟩ := alIn_mem h1
     exact .inr ⟨a', k1, hm _ k2, h2, h3⟩
   · exact .inl hx
 have hown : ∀ k, Own σ (absorb (alIn m al) h) k → OwnG σ (G D al h) k := fun k ⟨B, x, c, h1, h2, h3, h4⟩ => ⟨B, x, c, hsub B x h1, h2, h3, h4⟩
 have huse : ∀ k, Uses σ (absorb (alIn m al) h) k → UsesG σ (G D al h) k := fun k ⟨B, x, c, h1, h2, h3⟩ => ⟨B, x, c, hsub B x h1, h2, h3⟩
 have hab : ∀ a' ∈ al, a'.b < h.next := fun a' ha => by have := I.bnd; obtain ⟨h1, h2⟩ := hal a' ha; omega
 have hnoC : ∀ a' ∈ alOut m al, (absorb (alIn m al) h).objs.get a'.b = none := fun a' ha => by
   obtain ⟨k1, k2⟩ := alOut_mem.1 ha
   cases hq : (absorb (alIn m al) h).objs.get a'.b with
   | none => rfl
   | some y =>
     rcases absorb_get _ _ _ _ hq with ⟨a2, g1, g2, g3⟩ | hx
     · obtain ⟨g4, g5⟩ := alIn_mem g1
       obtain ⟨e1, _⟩ := hal a2 g4
       obtain ⟨e2, _⟩ := hal a' k1
       have : a2.i = a'.i := by omega
       rw [this, k2] at g5; cases g5
     · rw [I.alh a' k1] at hx; cases hx
 have hneB : ∀ a' ∈ alOut m al, ∀ B x, (absorb (alIn m al) h).objs.get B = some x → B ≠ a'.b := fun a' ha B x hx e => by rw [e, hnoC a' ha] at hx; cases hx
 -- a block that has been made, and is none of the operation's
 have made : ∀ a' ∈ alOut m al, D a'.i → ∃ ca, σ a'.b = some ca ∧ σ' a'.b = some ca ∧ ObjR σ' w' ca a'.x ∧ ca.blk < w.heap.size ∧ G D al h a'.b a'.x ∧ ¬ Own σ (absorb (alIn m al) h) ca.blk ∧ (a'.x.mut = true → ¬ Uses σ (absorb (alIn m al) h) ca.blk) := fun a' ha hd => by
   obtain ⟨k1, k2⟩ := alOut_mem.1 ha
   have hG : G D al h a'.b a'.x := .inr ⟨a', k1, hd, rfl, rfl⟩
   obtain ⟨ca, c1, c2⟩ := I.rel.obj _ _ hG
   have hlt := I.rel.inb _ _ c1
   have hno : ¬ Own σ (absorb (alIn m al) h) ca.blk := fun ⟨B, x, c, g1, g2, g3, g4⟩ =>
     I.rel.excl B x a'.b a'.x c ca (hsub B x g1) g2 hG (hneB a' ha B x g1) g3 c1 g4
   refine ⟨ca, c1, by rw [hold _ (hab a' k1)]; exact c1, (c2.mono e.le).same (e.kept.block _ hlt hno), hlt, hG, hno, fun hmut ⟨B, x, c, g1, g3, g4⟩ => ?_⟩
   exact I.rel.excl a'.b a'.x B x ca c hG hmut (hsub B x g1) (Ne.symm (hneB a' ha B x g1)) c1 g3 g4.symm
 have hD : ∀ a' ∈ alOut m al, (D a'.i ∨ a'.i = i) → D a'.i := fun a' ha hd => hd.resolve_right (hni a' (alOut_mem.1 ha).1)
 refine ⟨⟨r.fresh, r.inb, fun B x hx => ?_, fun B x B' x' c c' hx hmx hx' hne h1 h2 => ?_⟩, fun j hj hnd => ?_, ?_, ⟨Sg.le_trans I.ext.le e.le, ⟨e.kept.os.trans I.ext.kept.os, e.kept.tape.trans I.ext.kept.tape, e.kept.output.trans I.ext.kept.output, Nat.le_trans I.ext.kept.size e.kept.size, fun k hk hno => ?_⟩, fun k hk hk' => ?_, ?_, fun k hk hk' => ?_, fun B hB => ?_, fun B hB hn x hx => ?_⟩, fun a' ha => ?_⟩
 · rcases hx with hx | ⟨a', g1, g2, g3, g4⟩
   · exact r.obj B x hx
   · obtain ⟨ca, c1, c2, c3, _⟩ := made a' g1 (hD a' g1 g2)
     rw [← g3, ← g4]; exact ⟨ca, c2, c3⟩
 · rcases hx with hx | ⟨a1, g1, g2, g3, g4⟩
   · rcases hx' with hx' | ⟨a2, f1, f2, f3, f4⟩
     · exact r.excl B x B' x' c c' hx hmx hx' hne h1 h2
     · obtain ⟨ca, c1, c2, c3, c4, c5, c6, c7⟩ := made a2 f1 (hD a2 f1 f2)
       rw [← f3, c2] at h2; cases h2
       intro heq
       exact c6 (e.own _ c4 ⟨B, x, c, hx, hmx, h1, heq⟩)
   · obtain ⟨ca, c1, c2, c3, c4, c5, c6, c7⟩ := made a1 g1 (hD a1 g1 g2)
     rw [← g3, c2] at h1; cases h1
     rcases hx' with hx' | ⟨a2, f1, f2, f3, f4⟩
     · intro heq
       exact c7 (by rw [g4]; exact hmx) (e.uses _ c4 ⟨B', x', c', hx', h2, heq.symm⟩)
     · obtain ⟨cb, d1, d2, d3, d4, d5, d6, d7⟩ := made a2 f1 (hD a2 f1 f2)
       rw [← f3, d2] at h2; cases h2
       exact I.rel.excl a1.b a1.x a2.b a2.x _ _ c5 (by rw [g4]; exact hmx) d5 (by rw [g3, f3]; exact hne) c1 d1
 · have hlt : b.base + j < h.next := by have := I.bnd; omega
   rw [hold _ hlt]; exact I.free j hj (fun hd => hnd (.inl hd))
 · have := I.bnd; omega
 · rw [e.kept.block k (Nat.lt_of_lt_of_le hk I.ext.kept.size) (fun ho => hno (I.ext.own k hk (hown k ho)))]
   exact I.ext.kept.block k hk hno
 · obtain ⟨B, x, c, g, hmx, hs, hbk⟩ := hk'
   have hkw := Nat.lt_of_lt_of_le hk I.ext.kept.size
   rcases g with g | ⟨a', g1, g2, g3, g4⟩
   · exact I.ext.own k hk (hown k (e.own k hkw ⟨B, x, c, g, hmx, hs, hbk⟩))
   · obtain ⟨ca, c1, c2, c3, c4, c5, c6, c7⟩ := made a' g1 (hD a' g1 g2)
     rw [← g3, c2] at hs; cases hs
     exact I.ext.own k hk ⟨_, _, _, c5, by rw [g4]; exact hmx, c1, hbk⟩
 · have := I.ext.next; omega
 · obtain ⟨B, x, c, g, hs, hbk⟩ := hk'
   have hkw := Nat.lt_of_lt_of_le hk I.ext.kept.size
   rcases g with g | ⟨a', g1, g2, g3, g4⟩
   · exact I.ext.uses k hk (huse k (e.uses k hkw ⟨B, x, c, g, hs, hbk⟩))
   · obtain ⟨ca, c1, c2, c3, c4, c5, c6, c7⟩ := made a' g1 (hD a' g1 g2)
     rw [← g3, c2] at hs; cases hs
     exact I.ext.uses k hk ⟨_, _, _, c5, c1, hbk⟩
 · have : B < h.next := by have := I.bnd; omega
   rw [hold B this]; exact I.ext.old B hB
 · rcases hx with hx | ⟨a', g1, g2, g3, g4⟩
   · have hBn : B < h.next := by have := I.bnd; omega
     have hC : (absorb (alIn m al) h).objs.get B = none := by
       cases hq : (absorb (alIn m al) h).objs.get B with
       | none => rfl
       | some y => exact absurd (hsub B y hq) (I.ext.gone B hB hn y)
     rw [e.gone B (by rw [hnext]; exact hBn) hC] at hx; cases hx
   · have := (hal a' (alOut_mem.1 g1).1).1
     omega
 · exact e.gone _ (by rw [hnext]; exact hab a' (alOut_mem.1 ha).1) (hnoC a' ha)
theorem alIn_append (m : Nat) : ∀ (a b : List Al), alIn m (a ++ b) = alIn m a ++ alIn m b
 | [], b => rfl
 | x :: a, b => by
   simp only [List.cons_append, alIn]
   split
   · rw [alIn_append m a b]; rfl
   · rw [alIn_append m a b]
theorem alOut_append (m : Nat) : ∀ (a b : List Al), alOut m (a ++ b) = alOut m a ++ alOut m b
 | [], b => rfl
 | x :: a, b => by
   simp only [List.cons_append, alOut]
   split
   · rw [alOut_append m a b]
   · rw [alOut_append m a b]; rfl
theorem ltFree_spec {m : Nat} : ∀ {lt : List Lt}, ltFree m lt = true → ∀ t ∈ lt, Nat.testBit m t.i = false
 | [], _, t, ht => by cases ht
 | u :: r, h, t, ht => by
   unfold ltFree at h
   split at h
   · cases h
   · rename_i hb
     simp only [List.mem_cons] at ht
     rcases ht with rfl | ht
     · exact hb
     · exact ltFree_spec h t ht
theorem alIn_lits {D : Nat → Prop} {m : Nat} : ∀ {lt : List Lt}, (∀ t ∈ lt, Nat.testBit m t.i = false) → alIn m (lits D lt) = []
 | [], _ => rfl
 | u :: r, h => by
   have ih := alIn_lits (D := D) (m := m) (lt := r) fun t ht => h t (by simp [ht])
   have hu := h u (by simp)
   show alIn m (_ :: lits D r) = []
   simp only [alIn, hu, ih]
theorem alOut_lits {D : Nat → Prop} {m : Nat} : ∀ {lt : List Lt}, (∀ t ∈ lt, Nat.testBit m t.i = false) → alOut m (lits D lt) = lits D lt
 | [], _ => rfl
 | u :: r, h => by
   have ih := alOut_lits (D := D) (m := m) (lt := r) fun t ht => h t (by simp [ht])
   have hu := h u (by simp)
   show alOut m (_ :: lits D r) = _ :: lits D r
   simp only [alOut, hu, ih]
theorem heavy_exec {call : CallT} {NG : Nat} (hcall : CallOK P NG call) (hgor : NoGor P) {Q : Exit → Act → World → Prop} {E : Nat} {tm : T Value} {x : It} {l : List It} {K : KE} (hS : b.S.g = NG) (F : Fixed P lm b.S ops b.its) (hn : b.n = ops.size) (hb : b.h0.next ≤ b.base)
   (I : Inv b D hist (al ++ lits D lt) h σ a w) (hlt : LtOK b hist al lt) (c : Can b E hist tm al (x :: l)) (hv : x.hv = true) (hnd : ¬ D x.i) (hanc : ∀ j, Nat.testBit x.m j = true → D j)
   (H : (drawB P lm b.S ops (dsts hist) (x :: l)).f call (vals hist) tm [] h al wt lt b.base K = true) (K' : Act → World → Prop)
   (hK : ∀ v a' w' σ' h' al' wt', (drawB P lm b.S ops (dsts ((x, v) :: hist)) l).f call (vals ((x, v) :: hist)) ((putB b.S x.o.dst).f v tm) [] h' al' wt' lt b.base K = true →
     Inv b (fun i => D i ∨ i = x.i) ((x, v) :: hist) (al' ++ lits (fun i => D i ∨ i = x.i) lt) h' σ' a' w' → (∀ a ∈ al', a ∈ al) → (∀ p ∈ hist, ¬ D p.1.i → PendOK P ops b hist al wt lt h p → PendOK P ops b ((x, v) :: hist) al' wt' lt h' p) → K' a' w') : wpOp P ops Q x.i K' a w := by
 have hx := c.lin x (by simp)
 have hop := (F.it x hx).op
 have hxn : x.i < b.n := by rw [hn]; exact F.lt x hx
 have hcls : cls P x.o.op = .heavy ∧ (lm = true → ∀ t m k v, x.o.op ≠ .insert t m k v) := by
   have := (F.it x hx).hv
   rw [hv] at this
   unfold hvy at this
   split at this
   · split at this
     · cases this
     · rename_i hne
       split at this
       · rename_i hc; exact ⟨hc, fun _ t m k v e => hne t m k v e⟩
       · cases this
   · split at this
     · rename_i hc; exact ⟨hc, fun h => by cases h⟩
     · cases this
 obtain ⟨hcls, hnins⟩ := hcls
 have hC := c.ctx
 have hna : ∀ a ∈ al, a.i ≠ x.i := fun a' ha e => by
   obtain ⟨p, p1, p2⟩ := (c.al a' ha).2.2
   exact c.disj x (by simp) p p1 (p2.trans e)
 have hin' : ∀ v, ∀ p ∈ (x, v) :: hist, p.1 ∈ b.its := fun v p hp => by
   simp only [List.mem_cons] at hp
   rcases hp with rfl | hp
   · exact hx
   · exact c.hin p hp
 have hun' : ∀ v, ∀ p ∈ (x, v) :: hist, ∀ q ∈ (x, v) :: hist, p.1.i = q.1.i → p = q := fun v p hp q hq he => by
   simp only [List.mem_cons] at hp hq
   rcases hp with rfl | hp
   · rcases hq with rfl | hq
     · rfl
     · exact absurd he.symm (c.disj x (by simp) q hq)
   · rcases hq with rfl | hq
     · exact absurd he (c.disj x (by simp) p hp)
     · exact c.hun p hp q hq he
 have hnl : NoL lt x.i := hlt.noL (c.disj x (by simp))
 have hnaL : ∀ a ∈ al ++ lits D lt, a.i ≠ x.i := fun a' ha => by
   rcases List.mem_append.1 ha with ha | ha
   · exact hna a' ha
   · obtain ⟨t, ht, rfl⟩ := lits_mem.1 ha; exact (hnl t ht).1
 have hal : ∀ a ∈ al ++ lits D lt, a.b = b.base + a.i ∧ a.i < b.n := fun a' ha => by
   rcases List.mem_append.1 ha with ha | ha
   · exact ⟨(c.al a' ha).1, (c.al a' ha).2.1⟩
   · obtain ⟨t, ht, rfl⟩ := lits_mem.1 ha
     exact ⟨(hlt.at_ t ht).1, (hlt.at_ t ht).2.1⟩
 have noE : lits (fun i => D i ∨ i = x.i) lt = lits D lt := lits_congr fun t ht e he => ⟨fun hd => hd.resolve_right ((hnl t ht).2 e he), .inl⟩
 -- nothing is done
 have skip : (wantB ⟨b.S, dsts hist⟩ ops x.o.guard).f (vals hist) tm = false → wantOk ⟨b.S, dsts hist⟩ ops x.o.guard = true →
     (drawB P lm b.S ops (x.o.dst :: dsts hist) l).f call (undef :: vals hist) ((putB b.S x.o.dst).f undef tm) [] h al wt lt b.base K = true → wpOp P ops Q x.i K' a w := fun hwt hok H1 => by
   have hw := want_ok F I c.hin hx hC hnd hanc hok
   unfold wpOp
   simp only [hop]
   rw [← hw, hwt]
   simp only [Bool.false_eq_true, if_false]
   have hG : ∀ B y, G (fun i => D i ∨ i = x.i) (al ++ lits D lt) h B y → G D (al ++ lits D lt) h B y := fun B y hg => by
     rcases hg with hg | ⟨a', h1, h2, h3⟩
     · exact .inl hg
     · exact .inr ⟨a', h1, h2.resolve_right (hnaL a' h1), h3⟩
   have I1 := I.grow (x := x) (v := undef) (al' := al ++ lits D lt) hnd (fun _ h => .inl h) hxn
   have I2 := I1.done F (hin' undef) (hun' undef) (p := (x, undef)) (by simp) hnd hanc (Sg.le_refl _) (VR.undef σ) (I1.rel.mono hG) (fun i hi hni => I.free i hi (fun hd => hni (.inl hd))) I.bnd (I1.ext.mono hG) I.alh
   rw [← noE] at I2
   exact hK undef _ _ σ h al wt H1 I2 (fun _ h => h) (fun p hp _ po => po.grow (q := (x, undef)) (Ne.symm (c.disj x (by simp) p hp)) (fun _ h => h) (fun _ h => .inl h) (fun _ h => h) (.refl _ _))
 -- it is done
 have one : wantOk ⟨b.S, dsts hist⟩ ops x.o.guard = true → (wantB ⟨b.S, dsts hist⟩ ops x.o.guard).f (vals hist) tm = true →
     (dOne P lm ⟨b.S, dsts hist⟩ x (putB b.S x.o.dst) (drawB P lm b.S ops (x.o.dst :: dsts hist) l)).f call (vals hist) tm [] h al wt lt b.base K = true → wpOp P ops Q x.i K' a w := fun hok hwt H1 => by
   have hw := want_ok F I c.hin hx hC hnd hanc hok
   unfold wpOp
   simp only [hop]
   rw [← hw, hwt]
   simp only [if_true]
   left
   have kind : x.o.op.operands.toList.all (known ⟨b.S, dsts hist⟩) = true → (dKind P ⟨b.S, dsts hist⟩ x (putB b.S x.o.dst) (drawB P lm b.S ops (x.o.dst :: dsts hist) l)).f call (vals hist) tm [] h al wt lt b.base K = true → x.o.wp P a w K' Q := fun hkn H1 => by
     unfold dKind at H1
     rw [hcls] at H1
     simp only [dHeavy] at H1
     have hF := fr_ok F I c.hin hx hC hnd hanc
     have hsub : ∀ B y, (absorb (alIn x.m al) h).objs.get B = some y → G D (al ++ lits D lt) h B y := fun B y hy => by
       rcases absorb_get _ _ _ _ hy with ⟨a', h1, h2, h3⟩ | hy
       · obtain ⟨k1, k2⟩ := alIn_mem h1
         exact .inr ⟨a', List.mem_append_left _ k1, hanc _ k2, h2, h3⟩
       · exact .inl hy
     have hrC : Rel σ (absorb (alIn x.m al) h) w := RelG.toRel (by rw [absorb_next]; exact I.rel) hsub
     refine heavyO_sound hcall hgor hF (knO_all hkn) hrC (hS ▸ I.glob) H1 K' Q fun v v' σ' h' w' hkv k2 k3 k4 => ?_
     split at hkv
     · rename_i hh
       simp only [Bool.and_eq_true] at hh
       obtain ⟨hh, hfree⟩ := hh
       have hfr := ltFree_spec hfree
       have ein : alIn x.m (al ++ lits D lt) = alIn x.m al := by rw [alIn_append, alIn_lits hfr, List.append_nil]
       have eout : alOut x.m (al ++ lits D lt) = alOut x.m al ++ lits D lt := by rw [alOut_append, alOut_lits hfr]
       obtain ⟨r1, r2, r3, r4, r5⟩ := heavy_rel I hb hal hanc hnaL k3 (by rw [ein]; exact k4)
       have I1 := I.grow (x := x) (v := v) (al' := al ++ lits D lt) hnd (fun _ h => .inl h) hxn
       have I2 := I1.done F (hin' v) (hun' v) (p := (x, v)) (by simp) hnd hanc k4.le k2 r1 r2 r3 r4 r5
       rw [eout, ← noE] at I2
       refine hK v _ _ σ' h' _ _ hkv I2 (fun a' ha => (alOut_mem.1 ha).1) (fun p hp hpd po => ?_)
       have hbit : Nat.testBit x.m p.1.i = false := by
         cases hq : Nat.testBit x.m p.1.i with
         | false => rfl
         | true => exact absurd (hanc _ hq) hpd
       exact (po.behind hbit hh).grow (q := (x, v)) (Ne.symm (c.disj x (by simp) p hp)) (fun _ h => h) (fun _ h => .inl h) (fun _ h => h) (.refl _ _)
     · cases hkv
   unfold dOne at H1
   split at H1
   · rename_i hkn
     split at H1
     · split at H1
       · rename_i ty hop2
         rw [hop2] at hcls; cases hcls
       · rename_i ty m k v hop2
         exact absurd hop2 (hnins rfl ty m k v)
       · exact kind hkn H1
     · exact kind hkn H1
   · simp [stopD] at H1
 have hdraw : drawB P lm b.S ops (dsts hist) (x :: l) = dStepB P lm b.S ops (dsts hist) x (drawB P lm b.S ops (x.o.dst :: dsts hist) l) := rfl
 rw [hdraw] at H
 unfold dStepB at H
 split at H
 · rename_i hg
   exact one (by rw [hg]; rfl) (by rw [hg]; rfl) H
 · rename_i g hg
   split at H
   · rename_i hok
     simp only [dWant] at H
     split at H
     · rename_i hwt
       exact one (by rw [hg]; exact hok) (by rw [hg]; exact hwt) H
     · rename_i hwt
       simp only [dSkip] at H
       exact skip (by rw [hg]; exact hwt) (by rw [hg]; exact hok) H
   · simp [stopD] at H
theorem sim {call : CallT} {NG : Nat} (hcall : CallOK P NG call) (hgor : NoGor P) {Q : Exit → Act → World → Prop} {K : KE} (hS : b.S.g = NG) (F : Fixed P lm b.S ops b.its) (hn : b.n = ops.size) (hb : b.h0.next ≤ b.base)
   (hQ : ∀ tm h a w σ, K .norm tm [] h = true → St b.S σ [] [] tm a → Rel σ h w → Ext b.σ0 b.h0 b.w0 σ h w → Q .normal a w) :
   ∀ (fuel : Nat) (l : List It) (E : Nat) (hist : Hist) (tm : T Value) (al : List Al) (wt : List Wt) (lt : List Lt) (h : H) (listed : Array Bool) (σ : Sg) (a : Act) (w : World),
     listed.size = ops.size → listed.toList.countP (fun x => !x) = fuel → Can b E hist tm al l → LtOK b hist al lt → Inv b (fun i => listed.getD i false = true) hist (al ++ lits (fun i => listed.getD i false = true) lt) h σ a w →
     (∀ p ∈ hist, ¬ listed.getD p.1.i false = true → PendOK P ops b hist al wt lt h p) → (drawB P lm b.S ops (dsts hist) l).f call (vals hist) tm [] h al wt lt b.base K = true →
     wpAny P .any ops Q fuel listed a w := by
 -- all is done
 have fin : ∀ (l : List It) (E : Nat) (hist : Hist) (tm : T Value) (al : List Al) (wt : List Wt) (lt : List Lt) (h : H) (listed : Array Bool) (σ : Sg) (a : Act) (w : World), Can b E hist tm al l → LtOK b hist al lt → Inv b (fun i => listed.getD i false = true) hist (al ++ lits (fun i => listed.getD i false = true) lt) h σ a w →
     (∀ i, i < ops.size → listed.getD i false = true) → (drawB P lm b.S ops (dsts hist) l).f call (vals hist) tm [] h al wt lt b.base K = true → Q .normal a w := by
   intro l E hist tm al wt lt h listed σ a w c hlt I hall H
   have hl : l = [] := by
     cases l with
     | nil => rfl
     | cons x r =>
       have hx := c.lin x (by simp)
       obtain ⟨p, p1, p2⟩ := I.sub x.i (hall x.i (F.lt x hx))
       exact absurd p2 (c.disj x (by simp) p p1)
   subst hl
   have hle : ∀ t ∈ lt, ∀ e ∈ t.es, listed.getD e.1 false = true := fun t ht e he => by
     obtain ⟨p, p1, p2, _⟩ := hlt.ent t ht e he
     rw [← p2]; exact hall _ (F.lt _ (c.hin p p1))
   have hlits := lits_all (D := fun i => listed.getD i false = true) hle
   rw [hlits] at I
   have hsub : ∀ B y, (absorb (al ++ litsAll lt) h).objs.get B = some y → G (fun i => listed.getD i false = true) (al ++ litsAll lt) h B y := fun B y hy => by
     rcases absorb_get _ _ _ _ hy with ⟨a', h1, h2, h3⟩ | hy
     · refine .inr ⟨a', h1, hall _ ?_, h2, h3⟩
       rw [← hn]
       rcases List.mem_append.1 h1 with h1 | h1
       · exact (c.al a' h1).2.1
       · rw [← hlits] at h1
         obtain ⟨t, ht, rfl⟩ := lits_mem.1 h1
         exact (hlt.at_ t ht).2.1
     · exact .inl hy
   refine hQ tm (absorb (al ++ litsAll lt) h) a w σ H ⟨fun t k hk => by simp [idx] at hk, fun t ht => ?_, I.glob, I.size, I.defs⟩ (RelG.toRel (by rw [absorb_next]; exact I.rel) hsub) (ExtG.toExt (by rw [absorb_next]; exact I.ext) hsub)
   by_cases hex : ∃ p ∈ hist, p.1.o.dst = some t
   · obtain ⟨p, p1, p2⟩ := hex
     rw [c.tmw t ht p p1 p2]
     exact I.i1 p p1 (hall _ (F.lt _ (c.hin p p1))) t p2
   · have hno : ∀ p ∈ hist, p.1.o.dst ≠ some t := fun p p1 p2 => hex ⟨p, p1, p2⟩
     rw [c.tm t ht hno, I.i2 t (fun y hy _ hyd => ?_)]
     · exact I.tm0 t ht
     · rcases c.part y hy with ⟨p, p1, p2⟩ | hyl
       · exact hno p p1 (by rw [p2]; exact hyd)
       · cases hyl
 have getD_lt : ∀ (listed : Array Bool) (i : Nat), i < listed.size → listed.getD i true = listed.getD i false := fun listed i hi => by simp [hi]
 -- if nothing can come up, all is done
 have stuckless : ∀ (hist : Hist) (al : List Al) (h : H) (listed : Array Bool) (σ : Sg) (a : Act) (w : World), listed.size = ops.size → Region.ready .any ops listed = [] → ∀ i, i < ops.size → listed.getD i false = true := by
   intro hist al h listed σ a w hsz hr i
   induction i using Nat.strongRecOn with
   | _ i ih =>
     intro hi
     by_cases hd : listed.getD i false = true
     · exact hd
     · obtain ⟨x, hx, rfl⟩ := F.all i hi
       have : x.i ∈ Region.ready .any ops listed := by
         refine mem_ready.2 ⟨?_, x.o, (F.it x hx).op, fun e he hbnd => ?_⟩
         · rw [getD_lt _ _ (by omega)]; simpa using hd
         · have hlt := F.tf.low x hx _ (F.has x hx e he hbnd)
           exact ih _ hlt (by omega)
       rw [hr] at this; cases this
 have ready_item : ∀ (hist : Hist) (al : List Al) (h : H) (listed : Array Bool) (σ : Sg) (a : Act) (w : World), listed.size = ops.size → Inv b (fun i => listed.getD i false = true) hist al h σ a w → ∀ j ∈ Region.ready .any ops listed,
     ∃ x ∈ b.its, x.i = j ∧ ¬ listed.getD j false = true ∧ (∀ k, Nat.testBit x.m k = true → listed.getD k false = true) := by
   intro hist al h listed σ a w hsz I j hj
   obtain ⟨h1, o, ho, he⟩ := mem_ready.1 hj
   have hlt : j < ops.size := (Array.getElem?_eq_some_iff.1 ho).1
   obtain ⟨x, hx, rfl⟩ := F.all j hlt
   have := (F.it x hx).op
   rw [ho] at this; simp only [Option.some.injEq] at this
   refine ⟨x, hx, rfl, ?_, F.mask x hx _ I.closed (by rw [← this]; exact he)⟩
   rw [getD_lt _ _ (by omega)] at h1
   rw [h1]; simp
 have setD : ∀ (listed : Array Bool) (i : Nat), i < listed.size → (fun j => (listed.setIfInBounds i true).getD j false = true) = (fun j => listed.getD j false = true ∨ j = i) := fun listed i hi => by
   funext j
   apply propext
   simp only [Array.getD_eq_getD_getElem?, Array.getElem?_setIfInBounds]
   by_cases hji : i = j
   · subst hji; simp [hi]
   · simp [hji, Ne.symm hji]
 have cnt : ∀ (listed : Array Bool) (i fuel : Nat), i < listed.size → ¬ listed.getD i false = true → listed.toList.countP (fun x => !x) = fuel + 1 → (listed.setIfInBounds i true).toList.countP (fun x => !x) = fuel := fun listed i fuel hi hni hc => by
   have hf : listed[i] = false := by simpa [hi] using hni
   have hil : i < listed.toList.length := by simpa using hi
   have : (listed.setIfInBounds i true).toList = listed.toList.set i true := by simp
   rw [this]
   have e1 := List.take_append_drop i listed.toList
   have e2 : listed.toList = listed.toList.take i ++ (false :: listed.toList.drop (i + 1)) := by
     have hd : listed.toList.drop i = false :: listed.toList.drop (i + 1) := by
       rw [List.drop_eq_getElem_cons hil]; simp [hf]
     rw [← hd]; exact e1.symm
   rw [List.set_eq_take_append_cons_drop, if_pos hil, List.countP_append, List.countP_cons]
   rw [e2, List.countP_append, List.countP_cons] at hc
   simp at hc ⊢
   omega
 intro fuel
 induction fuel with
 | zero =>
   intro l E hist tm al wt lt h listed σ a w hsz hcnt c hlt I po H
   have hall : ∀ i, i < ops.size → listed.getD i false = true := fun i hi => by
     have h0 := List.countP_eq_zero.1 hcnt
     have hil : i < listed.size := by omega
     have := h0 listed[i] (by simp)
     simpa [hil] using this
   refine ⟨?_, fin l E hist tm al wt lt h listed σ a w c hlt I hall H⟩
   cases hr : Region.ready .any ops listed with
   | nil => rfl
   | cons j r =>
     obtain ⟨x, hx, rfl, h1, _⟩ := ready_item hist (al ++ lits (fun i => listed.getD i false = true) lt) h listed σ a w hsz I j (by rw [hr]; simp)
     exact absurd (hall _ (F.lt x hx)) h1
 | succ fuel ih =>
   intro l
   induction l with
   | nil =>
     intro E hist tm al wt lt h listed σ a w hsz hcnt c hlt I po H
     refine ⟨fun hr => fin [] E hist tm al wt lt h listed σ a w c hlt I (stuckless hist al h listed σ a w hsz hr) H, fun j hj => ?_⟩
     obtain ⟨x, hx, rfl, hnd, hanc⟩ := ready_item hist (al ++ lits (fun i => listed.getD i false = true) lt) h listed σ a w hsz I j hj
     have hxs : x.i < listed.size := by rw [hsz]; exact F.lt x hx
     rcases c.part x hx with ⟨p, hp, rfl⟩ | hxl
     · refine pend_exec F hn hb I c.hin c.hun (fun a' ha => ⟨(c.al a' ha).1, (c.al a' ha).2.1⟩) hlt hp hnd hanc (po p hp hnd) _ fun a' w' σ' I' => ?_
       have e := setD listed p.1.i hxs
       refine ih [] E hist tm al wt lt h _ σ' a' w' (by simp [hsz]) (cnt _ _ _ hxs hnd hcnt) c hlt (by rw [e]; exact I') (fun q hq hnq => po q hq (fun hd => hnq ?_)) H
       have := congrFun e q.1.i
       rw [this]; exact .inl hd
     · cases hxl
   | cons x l ihl =>
     intro E hist tm al wt lt h listed σ a w hsz hcnt c hlt I po H
     have hx := c.lin x (by simp)
     have hxs : x.i < listed.size := by rw [hsz]; exact F.lt x hx
     have hxn : ¬ listed.getD x.i false = true := fun hd => by
       obtain ⟨p, p1, p2⟩ := I.sub x.i hd
       exact c.disj x (by simp) p p1 p2
     cases hhv : x.hv with
     | false =>
       obtain ⟨v, al', wt', lt', H', hpo, g1, g2, g3, g4, g5⟩ := advance F hn c hlt hhv H
       have hlt2 : x.i < b.n := by rw [hn]; exact F.lt x hx
       have hal' : ∀ a ∈ al', a.b = b.base + a.i ∧ a.i < b.n ∧ ∃ p ∈ (x, v) :: hist, p.1.i = a.i := fun a' ha => by
         rcases g2 a' ha with hh | ⟨hh1, hh2⟩
         · obtain ⟨k1, k2, p, k3, k4⟩ := c.al a' hh
           exact ⟨k1, k2, p, by simp [k3], k4⟩
         · exact ⟨by rw [hh1, hh2], by rw [hh1]; exact hlt2, (x, v), by simp, hh1.symm⟩
       have c' := c.step v hal' (c.one F)
       have hsub : ∀ a ∈ al' ++ lits (fun i => listed.getD i false = true) lt', a ∈ al ++ lits (fun i => listed.getD i false = true) lt ∨ (a.i = x.i ∧ a.b = b.base + x.i) := fun a' ha => by
         rcases List.mem_append.1 ha with ha | ha
         · exact (g2 a' ha).imp (List.mem_append_left _) id
         · obtain ⟨t', ht', rfl⟩ := lits_mem.1 ha
           rcases g4.2 t' ht' with ⟨q1, _⟩ | ⟨t, q1, q2, q3, q4⟩
           · exact .inr ⟨q1, by rw [← q1]; exact (g5.at_ t' ht').1⟩
           · left
             refine List.mem_append_right _ (lits_mem.2 ⟨t, q1, ?_⟩)
             have hkeep : keepD (fun i => listed.getD i false = true) t'.es = keepD (fun i => listed.getD i false = true) t.es := by
               rcases q4 with q4 | ⟨f, q5, q4⟩
               · rw [q4]
               · rw [q4]; unfold keepD
                 rw [List.filter_cons_of_neg (by simpa [q5] using hxn)]
             rw [hkeep, q2, q3]
       have I' := I.grow (v := v) hxn hsub hlt2
       refine ihl _ _ _ al' wt' lt' h listed σ a w hsz hcnt c' g5 I' (fun p hp hnp => ?_) H'
       simp only [List.mem_cons] at hp
       rcases hp with rfl | hp
       · exact hpo
       · exact (po p hp hnp).grow (q := (x, v)) (Ne.symm (c.disj x (by simp) p hp)) g1 (fun a' ha => (g2 a' ha).imp id (fun h => h.1)) g3 g4
     | true =>
       have hgood := c.good.2.1 hhv
       refine ⟨fun hr => absurd (stuckless hist al h listed σ a w hsz hr x.i (F.lt x hx)) hxn, fun j hj => ?_⟩
       obtain ⟨y, hy, rfl, hnd, hanc⟩ := ready_item hist (al ++ lits (fun i => listed.getD i false = true) lt) h listed σ a w hsz I j hj
       have hys : y.i < listed.size := by rw [hsz]; exact F.lt y hy
       have e := setD listed y.i hys
       have mono : ∀ i, ¬ (listed.setIfInBounds y.i true).getD i false = true → ¬ listed.getD i false = true := fun i hni hd => hni (by
         have := congrFun e i
         rw [this]; exact .inl hd)
       rcases c.part y hy with ⟨p, hp, rfl⟩ | hyl
       · refine pend_exec F hn hb I c.hin c.hun (fun a' ha => ⟨(c.al a' ha).1, (c.al a' ha).2.1⟩) hlt hp hnd hanc (po p hp hnd) _ fun a' w' σ' I' => ?_
         exact ih (x :: l) E hist tm al wt lt h _ σ' a' w' (by simp [hsz]) (cnt _ _ _ hys hnd hcnt) c hlt (by rw [e]; exact I') (fun q hq hnq => po q hq (mono _ hnq)) H
       · have hyx : y = x := by
           simp only [List.mem_cons] at hyl
           rcases hyl with rfl | hyl
           · rfl
           · exfalso
             cases hyv : y.hv with
             | true => exact hxn (hanc _ (hgood.1 y hyl hyv))
             | false =>
               obtain ⟨z, z1, z2, z3⟩ := hgood.2 y hyl hyv
               obtain ⟨p, p1, p2⟩ := I.sub z.i (hanc _ z3)
               exact c.disj z z1 p p1 p2
         subst hyx
         refine heavy_exec hcall hgor hS F hn hb I hlt c hhv hnd hanc H _ fun v a' w' σ' h' al' wt' H' I' g1 g2 => ?_
         have hal' : ∀ a ∈ al', a.b = b.base + a.i ∧ a.i < b.n ∧ ∃ p ∈ (y, v) :: hist, p.1.i = a.i := fun a' ha => by
           obtain ⟨k1, k2, p, k3, k4⟩ := c.al a' (g1 a' ha)
           exact ⟨k1, k2, p, by simp [k3], k4⟩
         have c' := c.step v hal' (c.one F)
         refine ih l _ _ _ al' wt' lt h' _ σ' a' w' (by simp [hsz]) (cnt _ _ _ hys hnd hcnt) c' (hlt.grow (q := (y, v)) (fun a' ha => .inl (g1 a' ha)) (c.disj y (by simp))) (by rw [e]; exact I') (fun p hp hnp => ?_) H'
         simp only [List.mem_cons] at hp
         rcases hp with rfl | hp
         · exfalso
           apply hnp
           have := congrFun e y.i
           rw [this]; exact .inr rfl
         · exact g2 p hp (mono _ hnp) (po p hp (mono _ hnp))
end
theorem pairwise_uniq : ∀ {l : List It}, l.Pairwise (fun x y => x.i ≠ y.i) → ∀ x ∈ l, ∀ y ∈ l, x.i = y.i → x = y
 | [], _, x, hx, _, _, _ => by cases hx
 | z :: r, h, x, hx, y, hy, he => by
   obtain ⟨h1, h2⟩ := List.pairwise_cons.1 h
   simp only [List.mem_cons] at hx hy
   rcases hx with rfl | hx
   · rcases hy with rfl | hy
     · rfl
     · exact absurd he (h1 y hy)
   · rcases hy with rfl | hy
     · exact absurd he.symm (h1 x hx)
     · exact pairwise_uniq h2 x hx y hy he
theorem drawM_sound {call : CallT} {NG : Nat} (hcall : CallOK P NG call) (hgor : NoGor P) (hmix : P.follows .mixedOrders = true) {S : SG} (hS : S.g = NG) {ops : Array Oper} {id : Nat} {tm : T Value} {h : H} {K : KE} {Q : Exit → Act → World → Prop} {a : Act} {w : World}
   {lm : Bool} {l : List It} (htf : tempsFree S (itsOf P lm ops ops.toList 0 .e) (itsOf P lm ops ops.toList 0 .e) = true) (hplan : plan (ops.size + 1) (itsOf P lm ops ops.toList 0 .e) 0 0 = some l) (H : (drawB P lm S ops [] l).f call [] tm [] ⟨h.objs, h.next + ops.size⟩ [] [] [] h.next K = true) (hst : St S σ [] [] tm a) (r : Rel σ h w)
   (hQ : ∀ tm h' a w' σ', K .norm tm [] h' = true → St S σ' [] [] tm a → Rel σ' h' w' → Ext σ h w σ' h' w' → Q .normal a w') : (Code.region id ops true).wp P Q a w := by
 refine wp_region_any hmix ?_
 obtain ⟨p1, p2, p3⟩ := plan_spec _ _ _ _ _ hplan
 obtain ⟨i1, i2, i3, i4, i5⟩ := itsOf_spec (P := P) (lm := lm) (ops := ops) ops.toList 0 .e [] (fun j => by simp) (fun j m hm => by rw [T.get_e] at hm; cases hm)
 generalize hits : itsOf P lm ops ops.toList 0 .e = its at *
 have F : Fixed P lm S ops its := {
   it := fun x hx => (i1 x hx).1
   lt := fun x hx => by have := (i1 x hx).2.2; simpa using this
   all := fun j hj => by obtain ⟨x, x1, x2⟩ := i2 j (by simpa using hj); exact ⟨x, x1, by omega⟩
   uniq := pairwise_uniq i3
   mask := fun x hx D hD he => i4 x hx D (by simpa using hD) he
   has := i5
   tf := tf_of htf }
 let b : Base := ⟨S, its, h.next, ops.size, tm, a, σ, h, w⟩
 have c : Can b 0 [] tm [] l := {
   ebits := fun i => by simp
   good := p2
   part := fun x hx => .inr (p1.mem_iff.2 hx)
   lin := fun x hx => p1.mem_iff.1 hx
   disj := fun x hx p hp => by cases hp
   lnd := p1.symm.pairwise i3 (fun h => Ne.symm h)
   hin := fun p hp => by cases hp
   hun := fun p hp => by cases hp
   hcl := fun p hp => by cases hp
   tmw := fun t ht p hp => by cases hp
   tm := fun t ht hn => rfl
   al := fun a' ha => by cases ha }
 have hnone : ∀ i : Nat, ¬ (Array.replicate ops.size false).getD i false = true := fun i => by
   by_cases hi : i < ops.size <;> simp [hi]
 have hG : ∀ B x, G (fun i => (Array.replicate ops.size false).getD i false = true) [] ⟨h.objs, h.next + ops.size⟩ B x → h.objs.get B = some x := fun B x hg => by
   rcases hg with hg | ⟨a', ha, _⟩
   · exact hg
   · cases ha
 have I : Inv b (fun i => (Array.replicate ops.size false).getD i false = true) [] [] ⟨h.objs, h.next + ops.size⟩ σ a { w with drawn := w.drawn + 1 } := {
   closed := fun y hy hd => absurd hd (hnone _)
   sub := fun i hi => absurd hi (hnone _)
   i1 := fun p hp => by cases hp
   i2 := fun t ht => rfl
   rel := by
     have := (r.drew).toG
     exact ⟨fun B hB => this.fresh B (by simp only at hB; omega), this.inb, fun B x hx => this.obj B x (hG B x hx), fun B x B' x' c c' h1 hm h2 => this.excl B x B' x' c c' (hG B x h1) hm (hG B' x' h2)⟩
   free := fun i hi _ => r.fresh _ (by simp [b])
   bnd := Nat.le_refl _
   size := hst.size
   defs := hst.defs
   glob := hst.glob
   tm0 := hst.tm
   ext := ⟨Sg.le_refl _, .drew _ _, fun k hk ⟨B, x, c, g, h1⟩ => ⟨B, x, c, hG B x g, h1⟩, by simp [b], fun k hk ⟨B, x, c, g, h1⟩ => ⟨B, x, c, hG B x g, h1⟩, fun _ _ => rfl, fun B hB hn x hx => by have := hG B x hx; rw [hn] at this; cases this⟩
   alh := fun a' ha => by cases ha }
 exact sim (b := b) hcall hgor hS F rfl (Nat.le_refl _) (fun tm h' a w' σ' k1 k2 k3 k4 => hQ tm h' a w' σ' k1 k2 k3 k4) ops.size l 0 [] tm [] [] [] _ _ σ a _ (by simp) (by simp [List.countP_replicate]) c (.nil _ _ _) I (fun p hp => by cases hp) H
theorem draw_sound {call : CallT} {NG : Nat} (hcall : CallOK P NG call) (hgor : NoGor P) (hmix : P.follows .mixedOrders = true) {S : SG} (hS : S.g = NG) {ops : Array Oper} {id L : Nat} {tm : T Value} {h : H} {K : KE} {Q : Exit → Act → World → Prop} {a : Act} {w : World}
   (H : regionD P S ops call L tm [] h K = true) (hst : St S σ [] [] tm a) (r : Rel σ h w)
   (hQ : ∀ tm h' a w' σ', K .norm tm [] h' = true → St S σ' [] [] tm a → Rel σ' h' w' → Ext σ h w σ' h' w' → Q .normal a w') : (Code.region id ops true).wp P Q a w := by
 unfold regionD drawR at H
 unfold drawM at H
 split at H
 · rename_i htf
   split at H
   · rename_i l hplan
     exact drawM_sound hcall hgor hmix hS htf hplan H hst r hQ
   · skip
     split at H
     · rename_i htf2
       split at H
       · rename_i l hplan
         exact drawM_sound hcall hgor hmix hS htf2 hplan H hst r hQ
       · simp [stopD] at H
     · simp [stopD] at H
 · simp [stopD] at H
end Go.Ev
