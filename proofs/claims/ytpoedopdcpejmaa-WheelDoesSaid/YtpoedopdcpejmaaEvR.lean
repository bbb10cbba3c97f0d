import Derived.Test.YtpoedopdcpejmaaEvQ
namespace Go.Ev
open Go.RowKit
set_option linter.unusedSimpArgs false
set_option linter.unusedVariables false
variable {P : Program} {σ : Sg}

section
variable {ops : Array Oper} {b : Base} {D : Nat → Prop} {hist : Hist} {al : List Al} {wt : List Wt} {h : H} {a : Act} {w : World}

/-- what has been run ahead, and may come later -/
def PendOK (P : Program) (ops : Array Oper) (b : Base) (hist : Hist) (al : List Al) (wt : List Wt) (h : H) (p : It × Value) : Prop :=
  ∃ hs tmx, Ctx b hist p.1 hs tmx ∧ wantOk ⟨b.S, dsts hs⟩ ops p.1.o.guard = true ∧
    (((wantB ⟨b.S, dsts hs⟩ ops p.1.o.guard).f (vals hs) tmx = false ∧ p.2 = undef ∧ ∀ a ∈ al, a.i ≠ p.1.i) ∨
     ((wantB ⟨b.S, dsts hs⟩ ops p.1.o.guard).f (vals hs) tmx = true ∧ p.1.o.op.operands.toList.all (known ⟨b.S, dsts hs⟩) = true ∧
      (((pureB P ⟨b.S, dsts hs⟩ p.1.o.op).f (vals hs) tmx = some p.2 ∧ ∀ a ∈ al, a.i ≠ p.1.i) ∨
       ((∃ alR, (∀ a ∈ alR, a ∈ al) ∧ (readB P ⟨b.S, dsts hs⟩ p.1.o.op).f (vals hs) tmx (absorb alR h) = some p.2) ∧ ⟨p.1.i, (readB P ⟨b.S, dsts hs⟩ p.1.o.op).f (vals hs) tmx, p.2⟩ ∈ wt ∧ ∀ a ∈ al, a.i ≠ p.1.i) ∨
       ∃ ao, (allocB P ⟨b.S, dsts hs⟩ p.1.o.op).f (vals hs) tmx (b.base + p.1.i) = some (ao, p.2) ∧ ⟨p.1.i, b.base + p.1.i, ao⟩ ∈ al ∧ ∀ a ∈ al, a.i = p.1.i → a.x = ao)))

theorem pend_exec {Q : Exit → Act → World → Prop} (F : Fixed P b.S ops b.its) (hn : b.n = ops.size) (hb : b.h0.next ≤ b.base) (I : Inv b D hist al h σ a w) (hin : ∀ p ∈ hist, p.1 ∈ b.its) (hun : ∀ p ∈ hist, ∀ q ∈ hist, p.1.i = q.1.i → p = q) (hal : ∀ a ∈ al, a.b = b.base + a.i ∧ a.i < b.n)
    {p : It × Value} (hp : p ∈ hist) (hnd : ¬ D p.1.i) (hanc : ∀ j, Nat.testBit p.1.m j = true → D j) (po : PendOK P ops b hist al wt h p) (K' : Act → World → Prop)
    (hK : ∀ a' w' σ', Inv b (fun i => D i ∨ i = p.1.i) hist al h σ' a' w' → K' a' w') : wpOp P ops Q p.1.i K' a w := by
  obtain ⟨hs, tmx, C, hok, hkind⟩ := po
  have hop := (F.it p.1 (hin p hp)).op
  have hw := want_ok F I hin (hin p hp) C hnd hanc hok
  have hlt := F.lt p.1 (hin p hp)
  unfold wpOp
  simp only [hop]
  rw [← hw]
  have same : (∀ a ∈ al, a.i ≠ p.1.i) → ∀ v', VR σ p.2 v' → K' (a.put p.1.o.dst v') w := fun hna v' hv => by
    have hG : ∀ B x, G (fun i => D i ∨ i = p.1.i) al h B x → G D al h B x := fun B x hg => by
      rcases hg with hg | ⟨a', h1, h2, h3⟩
      · exact .inl hg
      · exact .inr ⟨a', h1, h2.resolve_right (hna a' h1), h3⟩
    exact hK _ _ σ (I.done F hin hun hp hnd hanc (Sg.le_refl _) hv (I.rel.mono hG) (fun i hi hni => I.free i hi (fun hd => hni (.inl hd))) I.bnd (I.ext.mono hG) I.alh)
  rcases hkind with ⟨h1, h2, h3⟩ | ⟨h1, hkn, hkind⟩
  · rw [h1]
    simp only [Bool.false_eq_true, if_false]
    exact same h3 undef (by rw [h2]; exact VR.undef σ)
  · rw [h1]
    simp only [if_true]
    have hF := fr_ok F I hin (hin p hp) C hnd hanc
    have hkn' := knO_all hkn
    left
    rcases hkind with ⟨hv, hna⟩ | ⟨⟨alR, hR, hv⟩, _, hna⟩ | ⟨ao, hv, hmem, huni⟩
    · obtain ⟨v', k1, k2⟩ := pure_sound (P := P) hF hkn' hv
      exact value_wp (k2 w) (same hna v' k1)
    · have hr : RelR σ (absorb alR h) w := fun B x c hx hc => by
        have : G D al h B x := by
          rcases absorb_get _ _ _ _ hx with ⟨a', h1, h2, h3⟩ | hx
          · refine .inr ⟨a', hR a' h1, ?_, h2, h3⟩
            obtain ⟨hal', hlt'⟩ := hal a' (hR a' h1)
            rw [h2] at hal'
            by_cases hd : D a'.i
            · exact hd
            · have := I.free a'.i hlt' hd
              rw [← hal', hc] at this; cases this
          · exact .inl hx
        obtain ⟨c', e1, e2⟩ := I.rel.obj B x this
        rw [hc] at e1; cases e1; exact e2
      obtain ⟨v', k1, k2⟩ := read_sound (P := P) hF hkn' hr hv
      exact value_wp k2 (same hna v' k1)
    · obtain ⟨d, obj, c, v', e1, e2, e3, e4⟩ := alloc_sound (P := P) (w := w) hF hkn' hv
      have hfree := I.free p.1.i (by rw [hn]; exact hlt) hnd
      have hlt2 : b.base + p.1.i < h.next := by have := I.bnd; omega
      obtain ⟨k1, k2⟩ := e4 (σ.upd (b.base + p.1.i) c) (Sg.le_upd c hfree) (Sg.upd_same _ _ _)
      have hG : ∀ B' x', G (fun i => D i ∨ i = p.1.i) al h B' x' → G D al h B' x' ∨ (B' = b.base + p.1.i ∧ x' = ao) := fun B' x' hg => by
        rcases hg with hg | ⟨a', h1, h2, h3, h4⟩
        · exact .inl (.inl hg)
        · rcases h2 with h2 | h2
          · exact .inl (.inr ⟨a', h1, h2, h3, h4⟩)
          · exact .inr ⟨by rw [← h3, (hal a' h1).1, h2], by rw [← h4, huni a' h1 h2]⟩
      refine value_wp e1 (hK _ _ _ (I.done F hin hun hp hnd hanc (Sg.le_upd c hfree) k1 (I.rel.alloc hfree hlt2 e2 k2 hG) (fun i hi hni => ?_) I.bnd (I.ext.alloc hfree (by omega) e2 (fun B x hg => let ⟨c, h1, _⟩ := I.rel.obj B x hg; ⟨c, h1⟩) hG) I.alh))
      rw [Sg.upd_other σ c (fun e => hni (.inr (by omega)))]
      exact I.free i hi (fun hd => hni (.inl hd))

def AdvGoal (P : Program) (ops : Array Oper) (b : Base) (hist : Hist) (al : List Al) (wt : List Wt) (h : H) (call : CallT) (tm : T Value) (x : It) (l : List It) (K : KE) : Prop :=
  ∃ v al' wt', (drawB P b.S ops (dsts ((x, v) :: hist)) l).f call (vals ((x, v) :: hist)) ((putB b.S x.o.dst).f v tm) [] h al' wt' b.base K = true ∧
      PendOK P ops b ((x, v) :: hist) al' wt' h (x, v) ∧ (∀ a ∈ al, a ∈ al') ∧ (∀ a ∈ al', a ∈ al ∨ (a.i = x.i ∧ a.b = b.base + x.i)) ∧ (∀ z ∈ wt, z ∈ wt')

/-- the canonical run takes a light operation -/
theorem advance {call : CallT} {E : Nat} {tm : T Value} {x : It} {l : List It} {K : KE} (F : Fixed P b.S ops b.its) (hn : b.n = ops.size) (c : Can b E hist tm al (x :: l)) (hl : x.hv = false)
    (H : (drawB P b.S ops (dsts hist) (x :: l)).f call (vals hist) tm [] h al wt b.base K = true) :
    AdvGoal P ops b hist al wt h call tm x l K := by
  have hx := c.lin x (by simp)
  have hcls : cls P x.o.op ≠ .heavy := fun e => by
    have := (F.it x hx).hv
    rw [hl] at this
    simp [hvy, e] at this
  have hC := c.ctx
  have hna : ∀ a ∈ al, a.i ≠ x.i := fun a' ha e => by
    obtain ⟨p, p1, p2⟩ := (c.al a' ha).2.2
    exact c.disj x (by simp) p p1 (p2.trans e)
  have hstep : ∀ v, dsts ((x, v) :: hist) = x.o.dst :: dsts hist := fun v => rfl
  have hvals : ∀ v, vals ((x, v) :: hist) = v :: vals hist := fun v => rfl
  have one : wantOk ⟨b.S, dsts hist⟩ ops x.o.guard = true → (wantB ⟨b.S, dsts hist⟩ ops x.o.guard).f (vals hist) tm = true →
      (dOne P ⟨b.S, dsts hist⟩ x (putB b.S x.o.dst) (drawB P b.S ops (x.o.dst :: dsts hist) l)).f call (vals hist) tm [] h al wt b.base K = true → AdvGoal P ops b hist al wt h call tm x l K := fun hok hwt H1 => by
    unfold dOne at H1
    split at H1
    · rename_i hkn
      split at H1
      · simp only [dPure] at H1
        split at H1
        · rename_i v hv
          exact ⟨v, al, wt, by rw [hstep, hvals]; exact H1, ⟨hist, tm, hC.grow (fun p hp => by simp [hp]), hok, .inr ⟨hwt, hkn, .inl ⟨hv, hna⟩⟩⟩, fun _ h => h, fun _ h => .inl h, fun _ h => h⟩
        · cases H1
      · simp only [dRead] at H1
        split at H1
        · rename_i v hv
          exact ⟨v, al, _, by rw [hstep, hvals]; exact H1, ⟨hist, tm, hC.grow (fun p hp => by simp [hp]), hok, .inr ⟨hwt, hkn, .inr (.inl ⟨⟨al, fun _ h => h, hv⟩, by simp, hna⟩)⟩⟩, fun _ h => h, fun _ h => .inl h, fun _ h => by simp [h]⟩
        · cases H1
      · simp only [dAlloc] at H1
        split at H1
        · rename_i ao v hv
          refine ⟨v, _, wt, by rw [hstep, hvals]; exact H1, ⟨hist, tm, hC.grow (fun p hp => by simp [hp]), hok, .inr ⟨hwt, hkn, .inr (.inr ⟨ao, hv, by simp, fun a' ha he => ?_⟩)⟩⟩, fun _ h => by simp [h], fun a' ha => ?_, fun _ h => h⟩
          · simp only [List.mem_cons] at ha
            rcases ha with rfl | ha
            · rfl
            · exact absurd he (hna a' ha)
          · simp only [List.mem_cons] at ha
            rcases ha with rfl | ha
            · exact .inr ⟨rfl, rfl⟩
            · exact .inl ha
        · cases H1
      · rename_i hh; exact absurd hh hcls
    · simp [stopD] at H1
  have hdraw : drawB P b.S ops (dsts hist) (x :: l) = dStepB P b.S ops (dsts hist) x (drawB P b.S ops (x.o.dst :: dsts hist) l) := rfl
  rw [hdraw] at H
  unfold dStepB at H
  split at H
  · rename_i hg
    exact one (by rw [hg]; rfl) (by rw [hg]; rfl) H
  · rename_i g hg
    split at H
    · rename_i hok
      simp only [dWant] at H
      split at H
      · rename_i hwt
        exact one (by rw [hg]; exact hok) (by rw [hg]; exact hwt) H
      · rename_i hwt
        simp only [dSkip] at H
        exact ⟨undef, al, wt, by rw [hstep, hvals]; exact H, ⟨hist, tm, hC.grow (fun p hp => by simp [hp]), by rw [hg]; exact hok, .inl ⟨by rw [hg]; exact hwt, rfl, hna⟩⟩, fun _ h => h, fun _ h => .inl h, fun _ h => h⟩
    · simp [stopD] at H

theorem PendOK.grow {p q : It × Value} {al' : List Al} {wt' : List Wt} (po : PendOK P ops b hist al wt h p) (hne : q.1.i ≠ p.1.i) (h1 : ∀ a ∈ al, a ∈ al') (h2 : ∀ a ∈ al', a ∈ al ∨ a.i = q.1.i) (h3 : ∀ z ∈ wt, z ∈ wt') :
    PendOK P ops b (q :: hist) al' wt' h p := by
  obtain ⟨hs, tmx, C, hok, hkind⟩ := po
  have hna : (∀ a ∈ al, a.i ≠ p.1.i) → ∀ a ∈ al', a.i ≠ p.1.i := fun hna a' ha => by
    rcases h2 a' ha with h | h
    · exact hna a' h
    · rw [h]; exact hne
  refine ⟨hs, tmx, C.grow (fun p hp => by simp [hp]), hok, ?_⟩
  rcases hkind with ⟨k1, k2, k3⟩ | ⟨k1, k2, k3⟩
  · exact .inl ⟨k1, k2, hna k3⟩
  · refine .inr ⟨k1, k2, ?_⟩
    rcases k3 with ⟨e1, e2⟩ | ⟨⟨alR, e1, e2⟩, e3, e4⟩ | ⟨ao, e1, e2, e3⟩
    · exact .inl ⟨e1, hna e2⟩
    · exact .inr (.inl ⟨⟨alR, fun a' ha => h1 a' (e1 a' ha), e2⟩, h3 _ e3, hna e4⟩)
    · refine .inr (.inr ⟨ao, e1, h1 _ e2, fun a' ha he => ?_⟩)
      rcases h2 a' ha with h | h
      · exact e3 a' h he
      · exact absurd (h.symm.trans he) hne

/-- what has been run ahead stays so behind a heavy operation -/
theorem PendOK.behind {p : It × Value} {m : Nat} {h' : H} (po : PendOK P ops b hist al wt h p) (hm : Nat.testBit m p.1.i = false) (hh : holds (absorb (alOut m al) h') (wtOut m wt) = true) :
    PendOK P ops b hist (alOut m al) (wtOut m wt) h' p := by
  obtain ⟨hs, tmx, C, hok, hkind⟩ := po
  have hna : (∀ a ∈ al, a.i ≠ p.1.i) → ∀ a ∈ alOut m al, a.i ≠ p.1.i := fun hna a' ha => hna a' (alOut_mem.1 ha).1
  refine ⟨hs, tmx, C, hok, ?_⟩
  rcases hkind with ⟨k1, k2, k3⟩ | ⟨k1, k2, k3⟩
  · exact .inl ⟨k1, k2, hna k3⟩
  · refine .inr ⟨k1, k2, ?_⟩
    rcases k3 with ⟨e1, e2⟩ | ⟨_, e3, e4⟩ | ⟨ao, e1, e2, e3⟩
    · exact .inl ⟨e1, hna e2⟩
    · have hin := wtOut_mem.2 ⟨e3, hm⟩
      obtain ⟨v, g1, g2⟩ := holds_mem hh _ hin
      simp only at g1 g2
      exact .inr (.inl ⟨⟨alOut m al, fun _ h => h, by rw [g1, g2]⟩, hin, hna e4⟩)
    · exact .inr (.inr ⟨ao, e1, alOut_mem.2 ⟨e2, hm⟩, fun a' ha => e3 a' (alOut_mem.1 ha).1⟩)

theorem Inv.grow (I : Inv b D hist al h σ a w) {x : It} {v : Value} {al' : List Al} (hnd : ¬ D x.i) (h2 : ∀ a ∈ al', a ∈ al ∨ (a.i = x.i ∧ a.b = b.base + x.i)) (hxn : x.i < b.n) : Inv b D ((x, v) :: hist) al' h σ a w := by
  have hG : ∀ B y, G D al' h B y → G D al h B y := fun B y hg => by
    rcases hg with hg | ⟨a', h1, h3, h4⟩
    · exact .inl hg
    · rcases h2 a' h1 with hh | ⟨hh, _⟩
      · exact .inr ⟨a', hh, h3, h4⟩
      · rw [hh] at h3; exact absurd h3 hnd
  refine ⟨I.closed, fun i hi => ?_, fun p hp hd d hpd => ?_, I.i2, I.rel.mono hG, I.free, I.bnd, I.size, I.defs, I.glob, I.tm0, I.ext.mono hG, fun a' ha => ?_⟩
  · obtain ⟨p, p1, p2⟩ := I.sub i hi
    exact ⟨p, by simp [p1], p2⟩
  · simp only [List.mem_cons] at hp
    rcases hp with rfl | hp
    · exact absurd hd hnd
    · exact I.i1 p hp hd d hpd
  · rcases h2 a' ha with hh | ⟨_, hh⟩
    · exact I.alh a' hh
    · cases hq : h.objs.get a'.b with
      | none => rfl
      | some y =>
        obtain ⟨c, h1, _⟩ := I.rel.obj a'.b y (.inl hq)
        rw [hh, I.free x.i hxn hnd] at h1; cases h1
end

end Go.Ev
