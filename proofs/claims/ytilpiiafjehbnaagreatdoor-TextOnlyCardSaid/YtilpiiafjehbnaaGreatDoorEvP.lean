import Derived.Test.YtilpiiafjehbnaaGreatDoorEvO
namespace Go.Ev
open Go.RowKit
set_option linter.unusedSimpArgs false
set_option linter.unusedVariables false
variable {P : Program} {σ : Sg}
theorem aEq_eq {a b : Addr} (h : veq.aEq a b = true) : a = b := by
 unfold veq.aEq at h
 simp only [Bool.and_eq_true] at h
 obtain ⟨⟨h1, h2⟩, h3⟩ := h
 have e1 := Nat.eq_of_beq_eq_true h1
 have e2 := Nat.eq_of_beq_eq_true h2
 obtain ⟨b1, o1, s1⟩ := a
 obtain ⟨b2, o2, s2⟩ := b
 simp only at e1 e2 h3
 subst e1; subst e2
 cases s1 with
 | none => cases s2 with
   | none => rfl
   | some _ => cases h3
 | some _ => cases h3
theorem fEq_eq {f g : Fn} (h : veq.fEq f g = true) : f = g := by
 unfold veq.fEq at h
 split at h
 · split at h
   · rw [Nat.eq_of_beq_eq_true h]
   · cases h
 · cases h
theorem vlq_eq {q : Value → Value → Bool} (hq : ∀ x y, q x y = true → x = y) : ∀ l m, veq.vlq q l m = true → l = m
 | [], [], _ => rfl
 | [], _ :: _, h => by cases h
 | _ :: _, [], h => by cases h
 | x :: l, y :: m, h => by
   simp only [veq.vlq, Bool.and_eq_true] at h
   rw [hq x y h.1, vlq_eq hq l m h.2]
theorem veq_eq : ∀ (n : Nat) (x y : Value), veq n x y = true → x = y
 | 0, x, y, h => by cases h
 | n + 1, x, y, h => by
   have ih := veq_eq n
   unfold veq at h
   split at h
   · split at h
     · rename_i a _ b; cases a <;> cases b <;> simp_all
     · cases h
   · split at h
     · simp only [Bool.and_eq_true] at h
       have e1 := kEq_eq h.1
       rw [iEq_eq] at h
       have e2 := eq_of_beq h.2
       rw [e1, e2]
     · cases h
   · split at h
     · rw [leB_eq] at h
       have e := eq_of_beq h
       congr 1
       exact ByteArray.ext (Array.ext' e)
     · cases h
   · split at h
     · rfl
     · cases h
   · split at h
     · rw [aEq_eq h]
     · cases h
   · split at h
     · simp only [Bool.and_eq_true] at h
       rw [Nat.eq_of_beq_eq_true h.1, Nat.eq_of_beq_eq_true h.2]
     · cases h
   · split at h
     · simp only [Bool.and_eq_true] at h
       rw [aEq_eq h.1.1, Nat.eq_of_beq_eq_true h.1.2, Nat.eq_of_beq_eq_true h.2]
     · cases h
   · split at h
     · rfl
     · cases h
   · split at h
     · rw [Nat.eq_of_beq_eq_true h]
     · cases h
   · split at h
     · rfl
     · cases h
   · split at h
     · rfl
     · cases h
   · split at h
     · simp only [Bool.and_eq_true] at h
       rw [Nat.eq_of_beq_eq_true h.1, ih _ _ h.2]
     · cases h
   · split at h
     · simp only [Bool.and_eq_true] at h
       have e1 := fEq_eq h.1.1
       have e2 := vlq_eq ih _ _ h.1.2
       have e3 := vlq_eq ih _ _ h.2
       rw [e1, Array.ext' e2, Array.ext' e3]
     · cases h
   · split at h
     · rw [Array.ext' (vlq_eq ih _ _ h)]
     · cases h
   · split at h
     · rw [Array.ext' (vlq_eq ih _ _ h)]
     · cases h
   · cases h
abbrev GT := Nat → AObj → Prop
structure RelG (σ : Sg) (G : GT) (next : Nat) (w : World) : Prop where
 fresh : ∀ B, next ≤ B → σ B = none
 inb : ∀ B c, σ B = some c → c.blk < w.heap.size
 obj : ∀ B x, G B x → ∃ c, σ B = some c ∧ ObjR σ w c x
 excl : ∀ B x B' x' c c', G B x → x.mut = true → G B' x' → B ≠ B' → σ B = some c → σ B' = some c' → c.blk ≠ c'.blk
def gOf (h : H) : GT := fun B x => h.objs.get B = some x
theorem Rel.toG {h : H} {w : World} (r : Rel σ h w) : RelG σ (gOf h) h.next w := ⟨r.fresh, r.inb, r.obj, r.excl⟩
theorem RelG.toRel {G : GT} {h : H} {w : World} (r : RelG σ G h.next w) (hs : ∀ B x, h.objs.get B = some x → G B x) : Rel σ h w :=
 ⟨r.fresh, r.inb, fun B x hx => r.obj B x (hs B x hx), fun B x B' x' c c' hx hm hx' => r.excl B x B' x' c c' (hs B x hx) hm (hs B' x' hx')⟩
def OwnG (σ : Sg) (G : GT) (k : Nat) : Prop := ∃ B x c, G B x ∧ x.mut = true ∧ σ B = some c ∧ c.blk = k
def UsesG (σ : Sg) (G : GT) (k : Nat) : Prop := ∃ B x c, G B x ∧ σ B = some c ∧ c.blk = k
structure ExtG (σ0 : Sg) (h0 : H) (w0 : World) (σ : Sg) (G : GT) (next : Nat) (w : World) : Prop where
 le : σ0.le σ
 kept : Kept (Own σ0 h0) w0 w
 own : ∀ k, k < w0.heap.size → OwnG σ G k → Own σ0 h0 k
 next : h0.next ≤ next
 uses : ∀ k, k < w0.heap.size → UsesG σ G k → Uses σ0 h0 k
 old : ∀ B, B < h0.next → σ B = σ0 B
 gone : ∀ B, B < h0.next → h0.objs.get B = none → ∀ x, ¬ G B x
theorem ExtG.toExt {σ0 : Sg} {h0 : H} {w0 : World} {G : GT} {h : H} {w : World} (e : ExtG σ0 h0 w0 σ G h.next w) (hs : ∀ B x, h.objs.get B = some x → G B x) : Ext σ0 h0 w0 σ h w :=
 ⟨e.le, e.kept, fun k hk ⟨B, x, c, h1, h2, h3⟩ => e.own k hk ⟨B, x, c, hs B x h1, h2, h3⟩, e.next, fun k hk ⟨B, x, c, h1, h2⟩ => e.uses k hk ⟨B, x, c, hs B x h1, h2⟩, e.old,
   fun B hB hn => by
     cases hq : h.objs.get B with
     | none => rfl
     | some x => exact absurd (hs B x hq) (e.gone B hB hn x)⟩
theorem absorb_next : ∀ (al : List Al) (h : H), (absorb al h).next = h.next
 | [], h => rfl
 | a :: r, h => by unfold absorb; rw [absorb_next r]; rfl
theorem absorb_get : ∀ (al : List Al) (h : H) (B : Nat) (x : AObj), (absorb al h).objs.get B = some x → (∃ a ∈ al, a.b = B ∧ a.x = x) ∨ h.objs.get B = some x
 | [], h, B, x, hx => .inr hx
 | a :: r, h, B, x, hx => by
   unfold absorb at hx
   rcases absorb_get r _ B x hx with ⟨b, hb, h1, h2⟩ | h1
   · exact .inl ⟨b, by simp [hb], h1, h2⟩
   · have : (h.put a.b a.x).objs.get B = if a.b = B then some a.x else h.objs.get B := T.get_set _ _ _ _
     rw [this] at h1
     split at h1
     · rename_i e
       simp only [Option.some.injEq] at h1
       exact .inl ⟨a, by simp, e, h1⟩
     · exact .inr h1
theorem alIn_mem {m : Nat} : ∀ {al : List Al} {a : Al}, a ∈ alIn m al → a ∈ al ∧ Nat.testBit m a.i = true
 | [], a, h => by simp [alIn] at h
 | b :: r, a, h => by
   unfold alIn at h
   split at h
   · rename_i hb
     simp only [List.mem_cons] at h
     rcases h with rfl | h
     · exact ⟨by simp, hb⟩
     · obtain ⟨h1, h2⟩ := alIn_mem h; exact ⟨by simp [h1], h2⟩
   · obtain ⟨h1, h2⟩ := alIn_mem h; exact ⟨by simp [h1], h2⟩
theorem alOut_mem {m : Nat} : ∀ {al : List Al} {a : Al}, a ∈ alOut m al ↔ a ∈ al ∧ Nat.testBit m a.i = false
 | [], a => by simp [alOut]
 | b :: r, a => by
   unfold alOut
   split
   · rename_i hb
     rw [alOut_mem (al := r)]
     simp only [List.mem_cons]
     constructor
     · rintro ⟨h1, h2⟩; exact ⟨.inr h1, h2⟩
     · rintro ⟨rfl | h1, h2⟩
       · rw [hb] at h2; cases h2
       · exact ⟨h1, h2⟩
   · rename_i hb
     simp only [List.mem_cons, alOut_mem (al := r)]
     constructor
     · rintro (rfl | ⟨h1, h2⟩)
       · exact ⟨.inl rfl, hb⟩
       · exact ⟨.inr h1, h2⟩
     · rintro ⟨rfl | h1, h2⟩
       · exact .inl rfl
       · exact .inr ⟨h1, h2⟩
theorem wtOut_mem {m : Nat} : ∀ {wt : List Wt} {a : Wt}, a ∈ wtOut m wt ↔ a ∈ wt ∧ Nat.testBit m a.i = false
 | [], a => by simp [wtOut]
 | b :: r, a => by
   unfold wtOut
   split
   · rename_i hb
     rw [wtOut_mem (wt := r)]
     simp only [List.mem_cons]
     constructor
     · rintro ⟨h1, h2⟩; exact ⟨.inr h1, h2⟩
     · rintro ⟨rfl | h1, h2⟩
       · rw [hb] at h2; cases h2
       · exact ⟨h1, h2⟩
   · rename_i hb
     simp only [List.mem_cons, wtOut_mem (wt := r)]
     constructor
     · rintro (rfl | ⟨h1, h2⟩)
       · exact ⟨.inl rfl, hb⟩
       · exact ⟨.inr h1, h2⟩
     · rintro ⟨rfl | h1, h2⟩
       · exact .inl rfl
       · exact .inr ⟨h1, h2⟩
theorem holds_mem {h : H} : ∀ {wt : List Wt}, holds h wt = true → ∀ a ∈ wt, ∃ v, a.rd h = some v ∧ v = a.v
 | [], _, a, ha => by cases ha
 | b :: r, hh, a, ha => by
   unfold holds at hh
   split at hh
   · rename_i v hv
     split at hh
     · rename_i he
       simp only [List.mem_cons] at ha
       rcases ha with rfl | ha
       · exact ⟨v, hv, veq_eq _ _ _ he⟩
       · exact holds_mem hh a ha
     · cases hh
   · cases hh
end Go.Ev
