import Derived.Test.YtilpiiafjehbnaaGreatDoorEvQ
namespace Go.Ev
open Go.RowKit
set_option linter.unusedSimpArgs false
set_option linter.unusedVariables false
variable {P : Program} {σ : Sg}
noncomputable def keepD (D : Nat → Prop) (es : List (Nat × ByteArray × Value)) : List (ByteArray × Value) := (es.filter fun e => @decide (D e.1) (Classical.propDecidable _)).map (·.2)
noncomputable def lits (D : Nat → Prop) (lt : List Lt) : List Al := lt.map fun t => ⟨t.i, t.b, .lit (keepD D t.es)⟩
theorem keepD_mem {D : Nat → Prop} {es : List (Nat × ByteArray × Value)} {x : ByteArray × Value} : x ∈ keepD D es ↔ ∃ e ∈ es, D e.1 ∧ e.2 = x := by
 simp only [keepD, List.mem_map, List.mem_filter, decide_eq_true_eq]
 exact ⟨fun ⟨e, ⟨h1, h2⟩, h3⟩ => ⟨e, h1, h2, h3⟩, fun ⟨e, h1, h2, h3⟩ => ⟨e, ⟨h1, h2⟩, h3⟩⟩
theorem lits_mem {D : Nat → Prop} {lt : List Lt} {a : Al} : a ∈ lits D lt ↔ ∃ t ∈ lt, a = ⟨t.i, t.b, .lit (keepD D t.es)⟩ := by
 simp only [lits, List.mem_map]
 exact ⟨fun ⟨t, h1, h2⟩ => ⟨t, h1, h2.symm⟩, fun ⟨t, h1, h2⟩ => ⟨t, h1, h2.symm⟩⟩
theorem keepD_congr {D D' : Nat → Prop} {es : List (Nat × ByteArray × Value)} (h : ∀ e ∈ es, D e.1 ↔ D' e.1) : keepD D es = keepD D' es := by
 unfold keepD
 congr 1
 refine List.filter_congr fun e he => ?_
 rw [decide_eq_decide]; exact h e he
theorem lits_congr {D D' : Nat → Prop} {lt : List Lt} (h : ∀ t ∈ lt, ∀ e ∈ t.es, D e.1 ↔ D' e.1) : lits D lt = lits D' lt := by
 unfold lits
 refine List.map_congr_left fun t ht => ?_
 rw [keepD_congr (h t ht)]
theorem litE_eq : ∀ (es : List (Nat × ByteArray × Value)), litE es = es.map (·.2)
 | [] => rfl
 | e :: r => by simp [litE, litE_eq r]
theorem lits_all {D : Nat → Prop} : ∀ {lt : List Lt}, (∀ t ∈ lt, ∀ e ∈ t.es, D e.1) → lits D lt = litsAll lt
 | [], _ => rfl
 | t :: r, h => by
   have : keepD D t.es = litE t.es := by
     rw [litE_eq]; unfold keepD
     rw [List.filter_eq_self.2 fun e he => by simp [h t (by simp) e he]]
   have ih := lits_all (D := D) (lt := r) fun u hu => h u (by simp [hu])
   unfold lits at ih ⊢
   simp only [List.map_cons, litsAll, this, ih]
structure LtOK (b : Base) (hist : Hist) (al : List Al) (lt : List Lt) : Prop where
 at_ : ∀ t ∈ lt, t.b = b.base + t.i ∧ t.i < b.n ∧ ∃ p ∈ hist, p.1.i = t.i
 apart : ∀ a ∈ al, ∀ t ∈ lt, a.i ≠ t.i
 nd : lt.Pairwise fun t u => t.i ≠ u.i
 ent : ∀ t ∈ lt, ∀ e ∈ t.es, ∃ p ∈ hist, p.1.i = e.1 ∧ Nat.testBit p.1.m t.i = true
 who : ∀ t ∈ lt, ∀ u ∈ lt, ∀ e ∈ t.es, ∀ f ∈ u.es, e.1 = f.1 → t = u ∧ e = f
 key : ∀ t ∈ lt, ∀ e ∈ t.es, ∀ f ∈ t.es, e.2.1 = f.2.1 → e = f
theorem lt_uniq : ∀ {l : List Lt}, l.Pairwise (fun x y => x.i ≠ y.i) → ∀ x ∈ l, ∀ y ∈ l, x.i = y.i → x = y
 | [], _, x, hx, _, _, _ => by cases hx
 | z :: r, h, x, hx, y, hy, he => by
   obtain ⟨h1, h2⟩ := List.pairwise_cons.1 h
   simp only [List.mem_cons] at hx hy
   rcases hx with rfl | hx
   · rcases hy with rfl | hy
     · rfl
     · exact absurd he (h1 y hy)
   · rcases hy with rfl | hy
     · exact absurd he.symm (h1 x hx)
     · exact lt_uniq h2 x hx y hy he
theorem LtOK.one {b : Base} {hist : Hist} {al : List Al} {lt : List Lt} (k : LtOK b hist al lt) : ∀ t ∈ lt, ∀ u ∈ lt, t.i = u.i → t = u := lt_uniq k.nd
theorem LtOK.nil (b : Base) (hist : Hist) (al : List Al) : LtOK b hist al [] :=
 ⟨fun _ h => by simp at h, fun _ _ _ h => by simp at h, .nil, fun _ h => by simp at h, fun _ h => by simp at h, fun _ h => by simp at h⟩
theorem LtOK.grow {b : Base} {hist : Hist} {al al' : List Al} {lt : List Lt} (k : LtOK b hist al lt) {q : It × Value} (hal : ∀ a ∈ al', a ∈ al ∨ a.i = q.1.i) (hq : ∀ p ∈ hist, p.1.i ≠ q.1.i) : LtOK b (q :: hist) al' lt where
 at_ := fun t ht => let ⟨h1, h2, p, h3, h4⟩ := k.at_ t ht; ⟨h1, h2, p, by simp [h3], h4⟩
 apart := fun a ha t ht => by
   rcases hal a ha with h | h
   · exact k.apart a h t ht
   · obtain ⟨_, _, p, h3, h4⟩ := k.at_ t ht
     rw [h, ← h4]; exact Ne.symm (hq p h3)
 nd := k.nd
 ent := fun t ht e he => let ⟨p, h1, h2⟩ := k.ent t ht e he; ⟨p, by simp [h1], h2⟩
 who := k.who
 key := k.key
theorem LtOK.begin {b : Base} {hist : Hist} {al : List Al} {lt : List Lt} (k : LtOK b hist al lt) {x : It} {v : Value} (hx : x.i < b.n) (hal : ∀ a ∈ al, a.i ≠ x.i) (hq : ∀ p ∈ hist, p.1.i ≠ x.i) : LtOK b ((x, v) :: hist) al (⟨x.i, b.base + x.i, []⟩ :: lt) := by
 have k2 := k.grow (q := (x, v)) (al' := al) (fun _ h => .inl h) hq
 have hne : ∀ t ∈ lt, t.i ≠ x.i := fun t ht => by
   obtain ⟨_, _, p, h3, h4⟩ := k.at_ t ht
   rw [← h4]; exact hq p h3
 refine ⟨fun t ht => ?_, fun a ha t ht => ?_, ?_, fun t ht e he => ?_, fun t ht u hu e he f hf => ?_, fun t ht e he f hf => ?_⟩
 · simp only [List.mem_cons] at ht
   rcases ht with rfl | ht
   · exact ⟨rfl, hx, (x, v), by simp, rfl⟩
   · exact k2.at_ t ht
 · simp only [List.mem_cons] at ht
   rcases ht with rfl | ht
   · exact hal a ha
   · exact k2.apart a ha t ht
 · exact List.pairwise_cons.2 ⟨fun t ht => Ne.symm (hne t ht), k.nd⟩
 · simp only [List.mem_cons] at ht
   rcases ht with rfl | ht
   · cases he
   · exact k2.ent t ht e he
 · simp only [List.mem_cons] at ht hu
   rcases ht with rfl | ht
   · cases he
   · rcases hu with rfl | hu
     · cases hf
     · exact k.who t ht u hu e he f hf
 · simp only [List.mem_cons] at ht
   rcases ht with rfl | ht
   · cases he
   · exact k.key t ht e he f hf
theorem LtOK.ins {b : Base} {hist : Hist} {al : List Al} {l r : List Lt} {t : Lt} (k : LtOK b hist al (l ++ t :: r)) {x : It} {v0 v : Value} {s : ByteArray} (hbit : Nat.testBit x.m t.i = true) (hs : ∀ e ∈ t.es, e.2.1 ≠ s) (hq : ∀ p ∈ hist, p.1.i ≠ x.i) :
   LtOK b ((x, v0) :: hist) al (l ++ ⟨t.i, t.b, (x.i, s, v) :: t.es⟩ :: r) := by
 have k2 := k.grow (q := (x, v0)) (al' := al) (fun _ h => .inl h) hq
 have hnd := k.nd
 rw [List.pairwise_append, List.pairwise_cons] at hnd
 obtain ⟨n1, ⟨n2, n3⟩, n4⟩ := hnd
 have split : ∀ u ∈ l ++ (⟨t.i, t.b, (x.i, s, v) :: t.es⟩ : Lt) :: r, u = ⟨t.i, t.b, (x.i, s, v) :: t.es⟩ ∨ (u ∈ l ++ t :: r ∧ u.i ≠ t.i) := fun u hu => by
   simp only [List.mem_append, List.mem_cons] at hu ⊢
   rcases hu with hu | rfl | hu
   · exact .inr ⟨.inl hu, n4 u hu t (by simp)⟩
   · exact .inl rfl
   · exact .inr ⟨.inr (.inr hu), Ne.symm (n2 u hu)⟩
 have ht : t ∈ l ++ t :: r := by simp
 have old : ∀ u ∈ l ++ t :: r, ∀ e ∈ u.es, e.1 ≠ x.i := fun u hu e he => by
   obtain ⟨p, p1, p2, _⟩ := k.ent u hu e he
   rw [← p2]; exact hq p p1
 refine ⟨fun u hu => ?_, fun a ha u hu => ?_, ?_, fun u hu e he => ?_, fun u hu w hw e he f hf hef => ?_, fun u hu e he f hf hef => ?_⟩
 · rcases split u hu with rfl | ⟨hu, _⟩
   · exact k2.at_ t ht
   · exact k2.at_ u hu
 · rcases split u hu with rfl | ⟨hu, _⟩
   · exact k2.apart a ha t ht
   · exact k2.apart a ha u hu
 · rw [List.pairwise_append, List.pairwise_cons]
   exact ⟨n1, ⟨n2, n3⟩, fun a ha c hc => by
     simp only [List.mem_cons] at hc
     rcases hc with rfl | hc
     · exact n4 a ha t (by simp)
     · exact n4 a ha c (by simp [hc])⟩
 · rcases split u hu with rfl | ⟨hu, _⟩
   · simp only [List.mem_cons] at he
     rcases he with rfl | he
     · exact ⟨(x, v0), by simp, rfl, hbit⟩
     · exact k2.ent t ht e he
   · exact k2.ent u hu e he
 · rcases split u hu with rfl | ⟨hu, hu2⟩
   · rcases split w hw with rfl | ⟨hw, hw2⟩
     · refine ⟨rfl, ?_⟩
       simp only [List.mem_cons] at he hf
       rcases he with rfl | he
       · rcases hf with rfl | hf
         · rfl
         · exact absurd hef.symm (old t ht f hf)
       · rcases hf with rfl | hf
         · exact absurd hef (old t ht e he)
         · exact (k.who t ht t ht e he f hf hef).2
     · exfalso
       simp only [List.mem_cons] at he
       rcases he with rfl | he
       · exact old w hw f hf hef.symm
       · exact hw2 (by rw [(k.who t ht w hw e he f hf hef).1])
   · rcases split w hw with rfl | ⟨hw, hw2⟩
     · exfalso
       simp only [List.mem_cons] at hf
       rcases hf with rfl | hf
       · exact old u hu e he hef
       · exact hu2 (by rw [(k.who u hu t ht e he f hf hef).1])
     · exact k.who u hu w hw e he f hf hef
 · rcases split u hu with rfl | ⟨hu, _⟩
   · simp only [List.mem_cons] at he hf
     rcases he with rfl | he
     · rcases hf with rfl | hf
       · rfl
       · exact absurd hef.symm (hs f hf)
     · rcases hf with rfl | hf
       · exact absurd hef (hs e he)
       · exact k.key t ht e he f hf hef
   · exact k.key u hu e he f hf hef
def NoL (lt : List Lt) (i : Nat) : Prop := ∀ t ∈ lt, t.i ≠ i ∧ ∀ e ∈ t.es, e.1 ≠ i
theorem LtOK.noL {b : Base} {hist : Hist} {al : List Al} {lt : List Lt} (k : LtOK b hist al lt) {i : Nat} (hq : ∀ p ∈ hist, p.1.i ≠ i) : NoL lt i := fun t ht => by
 obtain ⟨_, _, p, h3, h4⟩ := k.at_ t ht
 refine ⟨by rw [← h4]; exact hq p h3, fun e he => ?_⟩
 obtain ⟨p, h1, h2, _⟩ := k.ent t ht e he
 rw [← h2]; exact hq p h1
def LtLe (lt lt' : List Lt) (i : Nat) : Prop := (∀ t ∈ lt, ∃ t' ∈ lt', t'.i = t.i ∧ t'.b = t.b ∧ ∀ e ∈ t.es, e ∈ t'.es) ∧ ∀ t' ∈ lt', (t'.i = i ∧ t'.es = []) ∨ ∃ t ∈ lt, t'.i = t.i ∧ t'.b = t.b ∧ (t'.es = t.es ∨ ∃ e, e.1 = i ∧ t'.es = e :: t.es)
theorem LtLe.refl (lt : List Lt) (i : Nat) : LtLe lt lt i := ⟨fun t ht => ⟨t, ht, rfl, rfl, fun _ h => h⟩, fun t ht => .inr ⟨t, ht, rfl, rfl, .inl rfl⟩⟩
theorem NoL.grow {lt lt' : List Lt} {i j : Nat} (k : NoL lt i) (h : LtLe lt lt' j) (hne : j ≠ i) : NoL lt' i := fun t' ht' => by
 rcases h.2 t' ht' with ⟨h1, h2⟩ | ⟨t, h1, h2, _, h3⟩
 · exact ⟨by rw [h1]; exact hne, fun e he => by rw [h2] at he; cases he⟩
 · obtain ⟨k1, k2⟩ := k t h1
   refine ⟨by rw [h2]; exact k1, fun e he => ?_⟩
   rcases h3 with h | ⟨f, h4, h⟩
   · rw [h] at he; exact k2 e he
   · rw [h] at he
     simp only [List.mem_cons] at he
     rcases he with rfl | he
     · rw [h4]; exact hne
     · exact k2 e he
theorem notIn_spec {s : ByteArray} : ∀ {es : List (Nat × ByteArray × Value)}, notIn s es = true → ∀ e ∈ es, e.2.1 ≠ s
 | [], _, e, he => by cases he
 | x :: r, h, e, he => by
   unfold notIn at h
   split at h
   · cases h
   · rename_i hb
     simp only [List.mem_cons] at he
     rcases he with rfl | he
     · intro e0; rw [e0, leB_eq] at hb; simp at hb
     · exact notIn_spec h e he
theorem insLt_spec {m i b : Nat} {s : ByteArray} {v : Value} : ∀ {lt lt' : List Lt}, insLt m i b s v lt = some lt' → ∃ (l r : List Lt) (t : Lt), lt = l ++ t :: r ∧ lt' = l ++ ⟨t.i, t.b, (i, s, v) :: t.es⟩ :: r ∧ t.b = b ∧ Nat.testBit m t.i = true ∧ ∀ e ∈ t.es, e.2.1 ≠ s
 | [], lt', h => by simp [insLt] at h
 | t :: r, lt', h => by
   unfold insLt at h
   split at h
   · rename_i hb
     split at h
     · rename_i hc
       simp only [Bool.and_eq_true] at hc
       simp only [Option.some.injEq] at h; subst h
       exact ⟨[], r, t, rfl, rfl, Nat.eq_of_beq_eq_true hb, hc.1, notIn_spec hc.2⟩
     · cases h
   · split at h
     · rename_i r' hr
       simp only [Option.some.injEq] at h; subst h
       obtain ⟨l, r2, t2, e1, e2, e3, e4, e5⟩ := insLt_spec hr
       exact ⟨t :: l, r2, t2, by rw [e1]; rfl, by rw [e2]; rfl, e3, e4, e5⟩
     · cases h
theorem RelG.poke {G G' : GT} {next : Nat} {w : World} (r : RelG σ G next w) {B : Nat} {x x' : AObj} {c : CB} {o : Obj} (hx : G B x) (hm : x.mut = true) (hc : σ B = some c)
   (ho : ObjR σ { w with heap := w.heap.setIfInBounds c.blk o } c x') (hG : ∀ B' y, G' B' y → (B' ≠ B ∧ G B' y) ∨ (B' = B ∧ y = x')) : RelG σ G' next { w with heap := w.heap.setIfInBounds c.blk o } := by
 have heap : ∀ k, k ≠ c.blk → (w.heap.setIfInBounds c.blk o)[k]? = w.heap[k]? := fun k hk => by
   simp only [Array.getElem?_setIfInBounds]; rw [if_neg (fun e => hk e.symm)]
 refine ⟨r.fresh, fun B' c' h' => by simpa using r.inb B' c' h', fun B' y hy => ?_, fun B1 x1 B2 x2 c1 c2 h1 hm1 h2 hne e1 e2 => ?_⟩
 · rcases hG B' y hy with ⟨hne, hg⟩ | ⟨rfl, rfl⟩
   · obtain ⟨c', k1, k2⟩ := r.obj B' y hg
     exact ⟨c', k1, k2.same (heap _ (Ne.symm (r.excl B x B' y c c' hx hm hg (Ne.symm hne) hc k1)))⟩
   · exact ⟨c, hc, ho⟩
 · rcases hG B1 x1 h1 with ⟨n1, g1⟩ | ⟨rfl, rfl⟩
   · rcases hG B2 x2 h2 with ⟨n2, g2⟩ | ⟨rfl, rfl⟩
     · exact r.excl B1 x1 B2 x2 c1 c2 g1 hm1 g2 hne e1 e2
     · exact r.excl B1 x1 B2 x c1 c2 g1 hm1 hx hne e1 e2
   · rcases hG B2 x2 h2 with ⟨n2, g2⟩ | ⟨rfl, rfl⟩
     · exact r.excl B1 x B2 x2 c1 c2 hx hm g2 hne e1 e2
     · exact absurd rfl hne
theorem ExtG.poke {σ0 : Sg} {h0 : H} {w0 : World} {G G' : GT} {next : Nat} {w : World} (e : ExtG σ0 h0 w0 σ G next w) {B : Nat} {x x' : AObj} {c : CB} {o : Obj} (hx : G B x) (hm : x.mut = true) (hc : σ B = some c)
   (hG : ∀ B' y, G' B' y → (B' ≠ B ∧ G B' y) ∨ (B' = B ∧ y = x')) : ExtG σ0 h0 w0 σ G' next { w with heap := w.heap.setIfInBounds c.blk o } := by
 refine ⟨e.le, ⟨e.kept.os, e.kept.tape, e.kept.output, by simpa using e.kept.size, fun k hk hno => ?_⟩, fun k hk ⟨B', y, c', g, hm', hs, hb⟩ => ?_, e.next, fun k hk ⟨B', y, c', g, hs, hb⟩ => ?_, e.old, fun B' hB hn y hy => ?_⟩
 · have hne : k ≠ c.blk := fun he => hno (e.own k hk ⟨B, x, c, hx, hm, hc, he.symm⟩)
   simp only [Array.getElem?_setIfInBounds]; rw [if_neg (fun e => hne e.symm)]
   exact e.kept.block k hk hno
 · rcases hG B' y g with ⟨_, g⟩ | ⟨rfl, rfl⟩
   · exact e.own k hk ⟨B', y, c', g, hm', hs, hb⟩
   · exact e.own k hk ⟨B', x, c', hx, hm, hs, hb⟩
 · rcases hG B' y g with ⟨_, g⟩ | ⟨rfl, rfl⟩
   · exact e.uses k hk ⟨B', y, c', g, hs, hb⟩
   · exact e.uses k hk ⟨B', x, c', hx, hs, hb⟩
 · rcases hG B' y hy with ⟨_, g⟩ | ⟨rfl, rfl⟩
   · exact e.gone B' hB hn y g
   · exact e.gone B' hB hn x hx
theorem lit_none {kt : TypeId} {s : ByteArray} {k' : Value} {es : List (ByteArray × Value)} {es' : List MapEntry} (hok : keyOk P kt (.string s) = true) (hk : VR σ (.string s) k') (he : LitR σ es es') (hno : ∀ e ∈ es, e.1 ≠ s) :
   (∀ (e : Bool) w, (Instr.checkKey e 10000 kt k').run P w = .ok () w) ∧ ∀ w, (Instr.findKey kt k' es').run P w = .ok none w := by
 have hval : ∀ e' ∈ es', ∃ e ∈ es, e'.key = .string e.1 ∧ VR σ e.2 e'.val := fun e' hm' => by
   obtain ⟨e, h1, h2⟩ := he.back e' hm'
   obtain ⟨e2, g1, g2, g3⟩ := he.to e h1
   have := he.one e' hm' e2 g1 (by rw [h2, g2])
   exact ⟨e, h1, h2, by rw [this]; exact g3⟩
 obtain ⟨esA, hA, hA2⟩ := lit_beside hval
 have hstr : ∀ x ∈ esA, ∃ a, x.key = .string a := fun x hx => let ⟨e, _, h2, _⟩ := hA2 x hx; ⟨e.1, h2⟩
 rcases findI_strings (P := P) (kt := kt) (s := s) (l := esA) (i := 0) hstr with ⟨j, e, h1, h2, h3⟩ | ⟨h1, h2⟩
 · obtain ⟨e0, g1, g2, _⟩ := hA2 e h2
   rw [h3] at g2
   simp only [Value.string.injEq] at g2
   exact absurd g2.symm (hno e0 g1)
 · have hf : findK P kt (.string s) esA = some none := by unfold findK; rw [hok]; exact h1
   obtain ⟨c1, r', c2, c3⟩ := findK_sound (P := P) hf hk hA
   cases r' with
   | some q => exact c3.elim
   | none => exact ⟨c1, c2⟩
section
variable {lm : Bool} {ops : Array Oper} {b : Base} {D : Nat → Prop} {hist : Hist} {al : List Al} {wt : List Wt} {lt : List Lt} {h : H} {a : Act} {w : World}
def LitOK (P : Program) (b : Base) (hs : Hist) (tmx : T Value) (al : List Al) (lt : List Lt) (p : It × Value) : Prop :=
 (∀ a ∈ al, a.i ≠ p.1.i) ∧
 (((∃ ty, p.1.o.op = .makeMap ty none) ∧ p.2 = .map (some (b.base + p.1.i)) ∧ (∃ t ∈ lt, t.i = p.1.i) ∧ ∀ t ∈ lt, ∀ e ∈ t.es, e.1 ≠ p.1.i) ∨
  ∃ ty m k v kt et s t, p.1.o.op = .insert ty m k v ∧ P.underlying ty = some (.map kt et) ∧ eval ⟨b.S, dsts hs⟩ m (vals hs) tmx = .map (some t.b) ∧ eval ⟨b.S, dsts hs⟩ k (vals hs) tmx = .string s ∧ keyOk P kt (.string s) = true ∧
    p.2 = undef ∧ t ∈ lt ∧ Nat.testBit p.1.m t.i = true ∧ (p.1.i, s, eval ⟨b.S, dsts hs⟩ v (vals hs) tmx) ∈ t.es ∧ ∀ u ∈ lt, u.i ≠ p.1.i)
def PendOK (P : Program) (ops : Array Oper) (b : Base) (hist : Hist) (al : List Al) (wt : List Wt) (lt : List Lt) (h : H) (p : It × Value) : Prop :=
 ∃ hs tmx, Ctx b hist p.1 hs tmx ∧ wantOk ⟨b.S, dsts hs⟩ ops p.1.o.guard = true ∧
   (((wantB ⟨b.S, dsts hs⟩ ops p.1.o.guard).f (vals hs) tmx = false ∧ p.2 = undef ∧ (∀ a ∈ al, a.i ≠ p.1.i) ∧ NoL lt p.1.i) ∨
    ((wantB ⟨b.S, dsts hs⟩ ops p.1.o.guard).f (vals hs) tmx = true ∧ p.1.o.op.operands.toList.all (known ⟨b.S, dsts hs⟩) = true ∧
     (((((pureB P ⟨b.S, dsts hs⟩ p.1.o.op).f (vals hs) tmx = some p.2 ∧ ∀ a ∈ al, a.i ≠ p.1.i) ∨
      ((∃ alR, (∀ a ∈ alR, a ∈ al) ∧ (readB P ⟨b.S, dsts hs⟩ p.1.o.op).f (vals hs) tmx (absorb alR h) = some p.2) ∧ ⟨p.1.i, (readB P ⟨b.S, dsts hs⟩ p.1.o.op).f (vals hs) tmx, p.2⟩ ∈ wt ∧ ∀ a ∈ al, a.i ≠ p.1.i) ∨
      ∃ ao, (allocB P ⟨b.S, dsts hs⟩ p.1.o.op).f (vals hs) tmx (b.base + p.1.i) = some (ao, p.2) ∧ ⟨p.1.i, b.base + p.1.i, ao⟩ ∈ al ∧ ∀ a ∈ al, a.i = p.1.i → a.x = ao) ∧ NoL lt p.1.i) ∨
      LitOK P b hs tmx al lt p)))
theorem pend_exec {Q : Exit → Act → World → Prop} (F : Fixed P lm b.S ops b.its) (hn : b.n = ops.size) (hb : b.h0.next ≤ b.base) (I : Inv b D hist (al ++ lits D lt) h σ a w) (hin : ∀ p ∈ hist, p.1 ∈ b.its) (hun : ∀ p ∈ hist, ∀ q ∈ hist, p.1.i = q.1.i → p = q) (hal : ∀ a ∈ al, a.b = b.base + a.i ∧ a.i < b.n) (hlt : LtOK b hist al lt)
   {p : It × Value} (hp : p ∈ hist) (hnd : ¬ D p.1.i) (hanc : ∀ j, Nat.testBit p.1.m j = true → D j) (po : PendOK P ops b hist al wt lt h p) (K' : Act → World → Prop)
   (hK : ∀ a' w' σ', Inv b (fun i => D i ∨ i = p.1.i) hist (al ++ lits (fun i => D i ∨ i = p.1.i) lt) h σ' a' w' → K' a' w') : wpOp P ops Q p.1.i K' a w := by
 obtain ⟨hs, tmx, C, hok, hkind⟩ := po
 have hop := (F.it p.1 (hin p hp)).op
 have hw := want_ok F I hin (hin p hp) C hnd hanc hok
 have hltp := F.lt p.1 (hin p hp)
 have hal' : ∀ a ∈ al ++ lits D lt, a.b = b.base + a.i ∧ a.i < b.n := fun a' ha => by
   rcases List.mem_append.1 ha with ha | ha
   · exact hal a' ha
   · obtain ⟨t, ht, rfl⟩ := lits_mem.1 ha
     exact ⟨(hlt.at_ t ht).1, (hlt.at_ t ht).2.1⟩
 have noE : (∀ t ∈ lt, ∀ e ∈ t.es, e.1 ≠ p.1.i) → lits (fun i => D i ∨ i = p.1.i) lt = lits D lt := fun hno => lits_congr fun t ht e he => ⟨fun hd => hd.resolve_right (hno t ht e he), .inl⟩
 have noL' : ∀ {i : Nat}, (∀ a ∈ al, a.i ≠ i) → (∀ t ∈ lt, t.i ≠ i) → ∀ a ∈ al ++ lits D lt, a.i ≠ i := fun h1 h2 a' ha => by
   rcases List.mem_append.1 ha with ha | ha
   · exact h1 a' ha
   · obtain ⟨t, ht, rfl⟩ := lits_mem.1 ha; exact h2 t ht
 unfold wpOp
 simp only [hop]
 rw [← hw]
 have same : (∀ a ∈ al, a.i ≠ p.1.i) → NoL lt p.1.i → ∀ v', VR σ p.2 v' → K' (a.put p.1.o.dst v') w := fun hna hno v' hv => by
   have hna' := noL' hna fun t ht => (hno t ht).1
   have hG : ∀ B x, G (fun i => D i ∨ i = p.1.i) (al ++ lits D lt) h B x → G D (al ++ lits D lt) h B x := fun B x hg => by
     rcases hg with hg | ⟨a', h1, h2, h3⟩
     · exact .inl hg
     · exact .inr ⟨a', h1, h2.resolve_right (hna' a' h1), h3⟩
   refine hK _ _ σ ?_
   rw [noE fun t ht => (hno t ht).2]
   exact I.done F hin hun hp hnd hanc (Sg.le_refl _) hv (I.rel.mono hG) (fun i hi hni => I.free i hi (fun hd => hni (.inl hd))) I.bnd (I.ext.mono hG) I.alh
 rcases hkind with ⟨h1, h2, h3, h4⟩ | ⟨h1, hkn, hkind⟩
 · rw [h1]
   simp only [Bool.false_eq_true, if_false]
   exact same h3 h4 undef (by rw [h2]; exact VR.undef σ)
 · rw [h1]
   simp only [if_true]
   have hF := fr_ok F I hin (hin p hp) C hnd hanc
   have hkn' := knO_all hkn
   left
   -- new memory
   have fresh : ∀ (ao : AObj) (av : Value), (allocB P ⟨b.S, dsts hs⟩ p.1.o.op).f (vals hs) tmx (b.base + p.1.i) = some (ao, av) → p.2 = av → (∀ t ∈ lt, ∀ e ∈ t.es, e.1 ≠ p.1.i) → ∀ (x' : AObj), (∀ {σ : Sg} {w : World} {c : CB}, ObjR σ w c ao → ObjR σ w c x') →
       (∀ a ∈ al ++ lits D lt, a.i = p.1.i → a.x = x') → p.1.o.wp P a w K' Q := fun ao av hv hv2 hnoe x' hx' huni => by
     obtain ⟨d, obj, c, v', e1, e2, e3, e4⟩ := alloc_sound (P := P) (w := w) hF hkn' hv
     have hfree := I.free p.1.i (by rw [hn]; exact hltp) hnd
     have hlt2 : b.base + p.1.i < h.next := by have := I.bnd; omega
     obtain ⟨k1, k2⟩ := e4 (σ.upd (b.base + p.1.i) c) (Sg.le_upd c hfree) (Sg.upd_same _ _ _)
     have hG : ∀ B' y, G (fun i => D i ∨ i = p.1.i) (al ++ lits D lt) h B' y → G D (al ++ lits D lt) h B' y ∨ (B' = b.base + p.1.i ∧ y = x') := fun B' y hg => by
       rcases hg with hg | ⟨a', h1, h2, h3, h4⟩
       · exact .inl (.inl hg)
       · rcases h2 with h2 | h2
         · exact .inl (.inr ⟨a', h1, h2, h3, h4⟩)
         · exact .inr ⟨by rw [← h3, (hal' a' h1).1, h2], by rw [← h4, huni a' h1 h2]⟩
     have I2 := I.done F hin hun hp hnd hanc (Sg.le_upd c hfree) (by rw [hv2]; exact k1) (I.rel.alloc hfree hlt2 e2 (hx' k2) hG) (fun i hi hni => by
       rw [Sg.upd_other σ c (fun e => hni (.inr (by omega)))]
       exact I.free i hi (fun hd => hni (.inl hd))) I.bnd (I.ext.alloc hfree (by omega) e2 (fun B x hg => let ⟨c, h1, _⟩ := I.rel.obj B x hg; ⟨c, h1⟩) hG) I.alh
     rw [← noE hnoe] at I2
     exact value_wp e1 (hK _ _ _ I2)
   rcases hkind with ⟨hkind, hno⟩ | ⟨hna, hlit⟩
   · rcases hkind with ⟨hv, hna⟩ | ⟨⟨alR, hR, hv⟩, _, hna⟩ | ⟨ao, hv, hmem, huni⟩
     · obtain ⟨v', k1, k2⟩ := pure_sound (P := P) hF hkn' hv
       exact value_wp (k2 w) (same hna hno v' k1)
     · have hr : RelR σ (absorb alR h) w := fun B x c hx hc => by
         have : G D (al ++ lits D lt) h B x := by
           rcases absorb_get _ _ _ _ hx with ⟨a', h1, h2, h3⟩ | hx
           · refine .inr ⟨a', List.mem_append_left _ (hR a' h1), ?_, h2, h3⟩
             obtain ⟨hal', hlt'⟩ := hal a' (hR a' h1)
             rw [h2] at hal'
             by_cases hd : D a'.i
             · exact hd
             · have := I.free a'.i hlt' hd
               rw [← hal', hc] at this; cases this
           · exact .inl hx
         obtain ⟨c', e1, e2⟩ := I.rel.obj B x this
         rw [hc] at e1; cases e1; exact e2
       obtain ⟨v', k1, k2⟩ := read_sound (P := P) hF hkn' hr hv
       exact value_wp k2 (same hna hno v' k1)
     · refine fresh ao p.2 hv rfl (fun t ht => (hno t ht).2) ao (fun h => h) fun a' ha he => ?_
       rcases List.mem_append.1 ha with ha | ha
       · exact huni a' ha he
       · obtain ⟨t, ht, rfl⟩ := lits_mem.1 ha
         exact absurd he (hno t ht).1
   · rcases hlit with ⟨⟨ty, hmk⟩, hv2, ⟨t, ht, hti⟩, hnoe⟩ | ⟨ty, m, k, v, kt, et, s, t, hins, hty, em, ek, hok2, hv2, ht, hbit, hent, hnou⟩
     · refine fresh (.map [] 0) (.map (some (b.base + p.1.i))) (by rw [hmk]; rfl) hv2 hnoe (.lit []) (fun {σ w c} ho => ?_) fun a' ha he => ?_
       · obtain ⟨g0, es', g1, g2⟩ := ho
         have : es'.toList = [] := g2.nil_left
         exact ⟨g0, es', 0, g1, by rw [this]; exact ⟨by simp, by simp, by simp, by simp⟩⟩
       · rcases List.mem_append.1 ha with ha | ha
         · exact absurd he (hna a' ha)
         · obtain ⟨u, hu, rfl⟩ := lits_mem.1 ha
           have : keepD D u.es = [] := by
             rw [List.eq_nil_iff_forall_not_mem]
             intro x hx
             obtain ⟨e, f1, f2, _⟩ := keepD_mem.1 hx
             obtain ⟨q, q1, q2, q3⟩ := hlt.ent u hu e f1
             have := I.closed q.1 (hin q q1) (by rw [q2]; exact f2) u.i q3
             exact hnd (by rw [← he]; exact this)
           show AObj.lit (keepD D u.es) = _
           rw [this]
     · -- one more entry
       have hmemL : (⟨t.i, t.b, .lit (keepD D t.es)⟩ : Al) ∈ al ++ lits D lt := List.mem_append_right _ (lits_mem.2 ⟨t, ht, rfl⟩)
       have hgt : G D (al ++ lits D lt) h t.b (.lit (keepD D t.es)) := .inr ⟨_, hmemL, hanc _ hbit, rfl, rfl⟩
       obtain ⟨c, hc, h0, es', clock, hblk, hlr⟩ := I.rel.obj _ _ hgt
       have hkm : ∀ y ∈ p.1.o.op.operands.toList, knO ⟨b.S, dsts hs⟩ p.1.o y = true := fun y hy => List.all_eq_true.1 hkn' y hy
       have vm := hF m (hkm m (by rw [hins]; simp [Op.operands]))
       have vk := hF k (hkm k (by rw [hins]; simp [Op.operands]))
       have vv := hF v (hkm v (by rw [hins]; simp [Op.operands]))
       rw [em] at vm
       rw [ek] at vk
       have hnos : ∀ e ∈ keepD D t.es, e.1 ≠ s := fun e he hes => by
         obtain ⟨e0, f1, f2, f3⟩ := keepD_mem.1 he
         have := hlt.key t ht e0 f1 _ hent (by rw [f3, hes])
         rw [this] at f2; exact hnd f2
       obtain ⟨c1, c2⟩ := lit_none (P := P) hok2 vk hlr hnos
       generalize hm' : a.eval m = m' at vm
       generalize hk' : a.eval k = k' at vk c1 c2
       generalize hx' : a.eval v = x' at vv
       have hk2 : k' = .string s := by cases vk; rfl
       cases vm with
       | map _ c0 hc0 h00 =>
         rw [hc] at hc0; cases hc0
         have hrun : (execOp a.eval p.1.o).run P w = .ok .skip { w with heap := w.heap.setIfInBounds c.blk (.map (es'.push { key := k', val := x', born := clock }) (clock + 1)) } := by
           have k0 : (Instr.mapUpdate ty (.map (some c.blk)) k' x').run P w = .ok () { w with heap := w.heap.setIfInBounds c.blk (.map (es'.push { key := k', val := x', born := clock }) (clock + 1)) } := by
             simp [Instr.mapUpdate, run_underlying hty, run_getObj_map hblk, c1, c2, run_setObj_map hblk]
           simp [execOp, hins, hm', hk', hx', k0]
         have hlit2 : LitR σ (keepD (fun i => D i ∨ i = p.1.i) t.es) (es'.push { key := k', val := x', born := clock }).toList := by
           refine ⟨fun e he => ?_, fun e' he' => ?_, fun a1 ha1 b1 hb1 hab => ?_, fun a1 ha1 b1 hb1 hab => ?_⟩
           · obtain ⟨e0, f1, f2, rfl⟩ := keepD_mem.1 he
             rcases f2 with f2 | f2
             · obtain ⟨e', g1, g2⟩ := hlr.to e0.2 (keepD_mem.2 ⟨e0, f1, f2, rfl⟩)
               exact ⟨e', by simp at g1 ⊢; exact .inl g1, g2⟩
             · have := (hlt.who t ht t ht e0 f1 _ hent f2).2
               subst this
               exact ⟨{ key := k', val := x', born := clock }, by simp, hk2, vv⟩
           · simp only [Array.toList_push, List.mem_append, List.mem_singleton] at he'
             rcases he' with he' | rfl
             · obtain ⟨e, g1, g2⟩ := hlr.back e' he'
               obtain ⟨e0, f1, f2, f3⟩ := keepD_mem.1 g1
               exact ⟨e, keepD_mem.2 ⟨e0, f1, .inl f2, f3⟩, g2⟩
             · exact ⟨_, keepD_mem.2 ⟨_, hent, .inr rfl, rfl⟩, hk2⟩
           · simp only [Array.toList_push, List.mem_append, List.mem_singleton] at ha1 hb1
             have old : ∀ e' ∈ es'.toList, e'.key ≠ k' := fun e' he' heq => by
               obtain ⟨e, g1, g2⟩ := hlr.back e' he'
               rw [g2, hk2] at heq
               simp only [Value.string.injEq] at heq
               exact hnos e g1 heq
             rcases ha1 with ha1 | rfl
             · rcases hb1 with hb1 | rfl
               · exact hlr.one a1 ha1 b1 hb1 hab
               · exact absurd hab (old a1 ha1)
             · rcases hb1 with hb1 | rfl
               · exact absurd hab.symm (old b1 hb1)
               · rfl
           · obtain ⟨e0, f1, _, rfl⟩ := keepD_mem.1 ha1
             obtain ⟨e1, g1, _, rfl⟩ := keepD_mem.1 hb1
             rw [hlt.key t ht e0 f1 e1 g1 hab]
         have hG : ∀ B' y, G (fun i => D i ∨ i = p.1.i) (al ++ lits (fun i => D i ∨ i = p.1.i) lt) h B' y → (B' ≠ t.b ∧ G D (al ++ lits D lt) h B' y) ∨ (B' = t.b ∧ y = .lit (keepD (fun i => D i ∨ i = p.1.i) t.es)) := fun B' y hg => by
           rcases hg with hg | ⟨a', h1, h2, h3, h4⟩
           · left
             refine ⟨fun e => ?_, .inl hg⟩
             have := I.alh _ hmemL
             simp only at this
             rw [← e, hg] at this; cases this
           · rcases List.mem_append.1 h1 with h1 | h1
             · left
               have hd := h2.resolve_right (hna a' h1)
               refine ⟨fun e => ?_, .inr ⟨a', List.mem_append_left _ h1, hd, h3, h4⟩⟩
               have e1 := (hal a' h1).1
               have e2 := (hlt.at_ t ht).1
               exact hlt.apart a' h1 t ht (by omega)
             · obtain ⟨u, hu, rfl⟩ := lits_mem.1 h1
               simp only at h2 h3 h4
               by_cases hut : u = t
               · subst hut; exact .inr ⟨h3.symm, h4.symm⟩
               · left
                 have hd := h2.resolve_right (hnou u hu)
                 refine ⟨fun e => hut (hlt.one u hu t ht ?_), .inr ⟨⟨u.i, u.b, .lit (keepD D u.es)⟩, List.mem_append_right _ (lits_mem.2 ⟨u, hu, rfl⟩), hd, h3, ?_⟩⟩
                 · have e1 := (hlt.at_ u hu).1
                   have e2 := (hlt.at_ t ht).1
                   omega
                 · show AObj.lit (keepD D u.es) = y
                   rw [← h4]
                   congr 1
                   exact keepD_congr fun e he => ⟨.inl, fun hd => hd.resolve_right fun hi => hut (hlt.who u hu t ht e he _ hent hi).1⟩
         have hob : ObjR σ { w with heap := w.heap.setIfInBounds c.blk (.map (es'.push { key := k', val := x', born := clock }) (clock + 1)) } c (.lit (keepD (fun i => D i ∨ i = p.1.i) t.es)) :=
           ⟨h0, es'.push { key := k', val := x', born := clock }, clock + 1, by simp [I.rel.inb _ _ hc], hlit2⟩
         have I2 := I.done F hin hun hp hnd hanc (al' := al ++ lits (fun i => D i ∨ i = p.1.i) lt) (Sg.le_refl _) (v' := undef) (by rw [hv2]; exact VR.undef σ) (I.rel.poke hgt rfl hc hob hG) (fun i hi hni => I.free i hi (fun hd => hni (.inl hd))) I.bnd (I.ext.poke hgt rfl hc hG) (fun a' ha => by
           rcases List.mem_append.1 ha with ha | ha
           · exact I.alh a' (List.mem_append_left _ ha)
           · obtain ⟨u, hu, rfl⟩ := lits_mem.1 ha
             exact I.alh ⟨u.i, u.b, .lit (keepD D u.es)⟩ (List.mem_append_right _ (lits_mem.2 ⟨u, hu, rfl⟩)))
         unfold Oper.wp
         rw [hrun]
         exact hK _ _ _ I2
def AdvGoal (P : Program) (lm : Bool) (ops : Array Oper) (b : Base) (hist : Hist) (al : List Al) (wt : List Wt) (lt : List Lt) (h : H) (call : CallT) (tm : T Value) (x : It) (l : List It) (K : KE) : Prop :=
 ∃ v al' wt' lt', (drawB P lm b.S ops (dsts ((x, v) :: hist)) l).f call (vals ((x, v) :: hist)) ((putB b.S x.o.dst).f v tm) [] h al' wt' lt' b.base K = true ∧
     PendOK P ops b ((x, v) :: hist) al' wt' lt' h (x, v) ∧ (∀ a ∈ al, a ∈ al') ∧ (∀ a ∈ al', a ∈ al ∨ (a.i = x.i ∧ a.b = b.base + x.i)) ∧ (∀ z ∈ wt, z ∈ wt') ∧ LtLe lt lt' x.i ∧ LtOK b ((x, v) :: hist) al' lt'
theorem advance {call : CallT} {E : Nat} {tm : T Value} {x : It} {l : List It} {K : KE} (F : Fixed P lm b.S ops b.its) (hn : b.n = ops.size) (c : Can b E hist tm al (x :: l)) (hlt : LtOK b hist al lt) (hl : x.hv = false)
   (H : (drawB P lm b.S ops (dsts hist) (x :: l)).f call (vals hist) tm [] h al wt lt b.base K = true) :
   AdvGoal P lm ops b hist al wt lt h call tm x l K := by
 have hx := c.lin x (by simp)
 have hcls : (lm = false ∨ ∀ t m k v, x.o.op ≠ .insert t m k v) → cls P x.o.op ≠ .heavy := fun hh e => by
   have := (F.it x hx).hv
   rw [hl] at this
   unfold hvy at this
   split at this
   · split at this
     · rename_i t m k v ho
       rcases hh with hh | hh
       · cases hh
       · exact hh _ _ _ _ ho
     · simp [e] at this
   · simp [e] at this
 have hC := c.ctx
 have hxn : x.i < b.n := by rw [hn]; exact F.lt x hx
 have hdisj : ∀ p ∈ hist, p.1.i ≠ x.i := c.disj x (by simp)
 have hna : ∀ a ∈ al, a.i ≠ x.i := fun a' ha e => by
   obtain ⟨p, p1, p2⟩ := (c.al a' ha).2.2
   exact hdisj p p1 (p2.trans e)
 have hnl : NoL lt x.i := hlt.noL hdisj
 have hstep : ∀ v, dsts ((x, v) :: hist) = x.o.dst :: dsts hist := fun v => rfl
 have hvals : ∀ v, vals ((x, v) :: hist) = v :: vals hist := fun v => rfl
 have kind : wantOk ⟨b.S, dsts hist⟩ ops x.o.guard = true → (wantB ⟨b.S, dsts hist⟩ ops x.o.guard).f (vals hist) tm = true → x.o.op.operands.toList.all (known ⟨b.S, dsts hist⟩) = true → cls P x.o.op ≠ .heavy →
     (dKind P ⟨b.S, dsts hist⟩ x (putB b.S x.o.dst) (drawB P lm b.S ops (x.o.dst :: dsts hist) l)).f call (vals hist) tm [] h al wt lt b.base K = true → AdvGoal P lm ops b hist al wt lt h call tm x l K := fun hok hwt hkn hcls H1 => by
   unfold dKind at H1
   split at H1
   · simp only [dPure] at H1
     split at H1
     · rename_i v hv
       exact ⟨v, al, wt, lt, by rw [hstep, hvals]; exact H1, ⟨hist, tm, hC.grow (fun p hp => by simp [hp]), hok, .inr ⟨hwt, hkn, .inl ⟨.inl ⟨hv, hna⟩, hnl⟩⟩⟩, fun _ h => h, fun _ h => .inl h, fun _ h => h, .refl _ _, hlt.grow (fun _ h => .inl h) hdisj⟩
     · cases H1
   · simp only [dRead] at H1
     split at H1
     · rename_i v hv
       exact ⟨v, al, _, lt, by rw [hstep, hvals]; exact H1, ⟨hist, tm, hC.grow (fun p hp => by simp [hp]), hok, .inr ⟨hwt, hkn, .inl ⟨.inr (.inl ⟨⟨al, fun _ h => h, hv⟩, by simp, hna⟩), hnl⟩⟩⟩, fun _ h => h, fun _ h => .inl h, fun _ h => by simp [h], .refl _ _, hlt.grow (fun _ h => .inl h) hdisj⟩
     · cases H1
   · simp only [dAlloc] at H1
     split at H1
     · rename_i ao v hv
       refine ⟨v, _, wt, lt, by rw [hstep, hvals]; exact H1, ⟨hist, tm, hC.grow (fun p hp => by simp [hp]), hok, .inr ⟨hwt, hkn, .inl ⟨.inr (.inr ⟨ao, hv, by simp, fun a' ha he => ?_⟩), hnl⟩⟩⟩, fun _ h => by simp [h], fun a' ha => ?_, fun _ h => h, .refl _ _, hlt.grow (fun a' ha => ?_) hdisj⟩
       · simp only [List.mem_cons] at ha
         rcases ha with rfl | ha
         · rfl
         · exact absurd he (hna a' ha)
       · simp only [List.mem_cons] at ha
         rcases ha with rfl | ha
         · exact .inr ⟨rfl, rfl⟩
         · exact .inl ha
       · simp only [List.mem_cons] at ha
         rcases ha with rfl | ha
         · exact .inr rfl
         · exact .inl ha
     · cases H1
   · rename_i hh; exact absurd hh hcls
 have one : wantOk ⟨b.S, dsts hist⟩ ops x.o.guard = true → (wantB ⟨b.S, dsts hist⟩ ops x.o.guard).f (vals hist) tm = true →
     (dOne P lm ⟨b.S, dsts hist⟩ x (putB b.S x.o.dst) (drawB P lm b.S ops (x.o.dst :: dsts hist) l)).f call (vals hist) tm [] h al wt lt b.base K = true → AdvGoal P lm ops b hist al wt lt h call tm x l K := fun hok hwt H1 => by
   unfold dOne at H1
   split at H1
   · rename_i hkn
     split at H1
     · split at H1
       · rename_i ty hop
         simp only [dLit] at H1
         refine ⟨.map (some (b.base + x.i)), al, wt, _, by rw [hstep, hvals]; exact H1, ⟨hist, tm, hC.grow (fun p hp => by simp [hp]), hok, .inr ⟨hwt, hkn, .inr ⟨hna, .inl ⟨⟨ty, hop⟩, rfl, ⟨_, List.mem_cons_self, rfl⟩, fun t ht e he => ?_⟩⟩⟩⟩, fun _ h => h, fun _ h => .inl h, fun _ h => h, ⟨fun t ht => ⟨t, by simp [ht], rfl, rfl, fun _ h => h⟩, fun t ht => ?_⟩, hlt.begin hxn hna hdisj⟩
         · simp only [List.mem_cons] at ht
           rcases ht with rfl | ht
           · cases he
           · exact (hnl t ht).2 e he
         · simp only [List.mem_cons] at ht
           rcases ht with rfl | ht
           · exact .inl ⟨rfl, rfl⟩
           · exact .inr ⟨t, ht, rfl, rfl, .inl rfl⟩
       · rename_i ty m k v hop
         split at H1
         · rename_i kt et hty
           simp only [dIns] at H1
           split at H1
           · rename_i lt' hi
             unfold insV at hi
             split at hi
             · rename_i B em
               split at hi
               · rename_i s ek
                 split at hi
                 · rename_i hok2
                   obtain ⟨l1, r1, t, e1, e2, e3, e4, e5⟩ := insLt_spec hi
                   subst e1; subst e2; subst e3
                   refine ⟨undef, al, wt, _, by rw [hstep, hvals]; exact H1, ⟨hist, tm, hC.grow (fun p hp => by simp [hp]), hok, .inr ⟨hwt, hkn, .inr ⟨hna, .inr ⟨ty, m, k, v, kt, et, s, ⟨t.i, t.b, (x.i, s, eval ⟨b.S, dsts hist⟩ v (vals hist) tm) :: t.es⟩, hop, hty, em, ek, hok2, rfl, List.mem_append_right _ List.mem_cons_self, e4, List.mem_cons_self, fun u hu => ?_⟩⟩⟩⟩, fun _ h => h, fun _ h => .inl h, fun _ h => h, ⟨fun u hu => ?_, fun u hu => ?_⟩, hlt.ins e4 e5 hdisj⟩
                   · simp only [List.mem_append, List.mem_cons] at hu
                     rcases hu with hu | rfl | hu
                     · exact (hnl u (by simp [hu])).1
                     · exact (hnl t (by simp)).1
                     · exact (hnl u (by simp [hu])).1
                   · simp only [List.mem_append, List.mem_cons] at hu
                     rcases hu with hu | rfl | hu
                     · exact ⟨u, by simp [hu], rfl, rfl, fun _ h => h⟩
                     · exact ⟨⟨u.i, u.b, (x.i, s, eval ⟨b.S, dsts hist⟩ v (vals hist) tm) :: u.es⟩, List.mem_append_right _ List.mem_cons_self, rfl, rfl, fun _ h => by simp [h]⟩
                     · exact ⟨u, by simp [hu], rfl, rfl, fun _ h => h⟩
                   · simp only [List.mem_append, List.mem_cons] at hu
                     rcases hu with hu | rfl | hu
                     · exact .inr ⟨u, by simp [hu], rfl, rfl, .inl rfl⟩
                     · exact .inr ⟨t, by simp, rfl, rfl, .inr ⟨_, rfl, rfl⟩⟩
                     · exact .inr ⟨u, by simp [hu], rfl, rfl, .inl rfl⟩
                 · cases hi
               · cases hi
             · cases hi
           · cases H1
         · simp [stopD] at H1
       · rename_i hne
         exact kind hok hwt hkn (hcls (.inr fun t m k v e => hne t m k v e)) H1
     · exact kind hok hwt hkn (hcls (.inl rfl)) H1
   · simp [stopD] at H1
 have hdraw : drawB P lm b.S ops (dsts hist) (x :: l) = dStepB P lm b.S ops (dsts hist) x (drawB P lm b.S ops (x.o.dst :: dsts hist) l) := rfl
 rw [hdraw] at H
 unfold dStepB at H
 split at H
 · rename_i hg
   exact one (by rw [hg]; rfl) (by rw [hg]; rfl) H
 · rename_i g hg
   split at H
   · rename_i hok
     simp only [dWant] at H
     split at H
     · rename_i hwt
       exact one (by rw [hg]; exact hok) (by rw [hg]; exact hwt) H
     · rename_i hwt
       simp only [dSkip] at H
       exact ⟨undef, al, wt, lt, by rw [hstep, hvals]; exact H, ⟨hist, tm, hC.grow (fun p hp => by simp [hp]), by rw [hg]; exact hok, .inl ⟨by rw [hg]; exact hwt, rfl, hna, hnl⟩⟩, fun _ h => h, fun _ h => .inl h, fun _ h => h, .refl _ _, hlt.grow (fun _ h => .inl h) hdisj⟩
   · simp [stopD] at H
theorem PendOK.grow {p q : It × Value} {al' : List Al} {wt' : List Wt} {lt' : List Lt} (po : PendOK P ops b hist al wt lt h p) (hne : q.1.i ≠ p.1.i) (h1 : ∀ a ∈ al, a ∈ al') (h2 : ∀ a ∈ al', a ∈ al ∨ a.i = q.1.i) (h3 : ∀ z ∈ wt, z ∈ wt') (h4 : LtLe lt lt' q.1.i) :
   PendOK P ops b (q :: hist) al' wt' lt' h p := by
 obtain ⟨hs, tmx, C, hok, hkind⟩ := po
 have hna : (∀ a ∈ al, a.i ≠ p.1.i) → ∀ a ∈ al', a.i ≠ p.1.i := fun hna a' ha => by
   rcases h2 a' ha with h | h
   · exact hna a' h
   · rw [h]; exact hne
 refine ⟨hs, tmx, C.grow (fun p hp => by simp [hp]), hok, ?_⟩
 rcases hkind with ⟨k1, k2, k3, k4⟩ | ⟨k1, k2, k3⟩
 · exact .inl ⟨k1, k2, hna k3, k4.grow h4 hne⟩
 · refine .inr ⟨k1, k2, ?_⟩
   rcases k3 with ⟨k3, kn⟩ | ⟨ka, k3⟩
   · refine .inl ⟨?_, kn.grow h4 hne⟩
     rcases k3 with ⟨e1, e2⟩ | ⟨⟨alR, e1, e2⟩, e3, e4⟩ | ⟨ao, e1, e2, e3⟩
     · exact .inl ⟨e1, hna e2⟩
     · exact .inr (.inl ⟨⟨alR, fun a' ha => h1 a' (e1 a' ha), e2⟩, h3 _ e3, hna e4⟩)
     · refine .inr (.inr ⟨ao, e1, h1 _ e2, fun a' ha he => ?_⟩)
       rcases h2 a' ha with h | h
       · exact e3 a' h he
       · exact absurd (h.symm.trans he) hne
   · refine .inr ⟨hna ka, ?_⟩
     rcases k3 with ⟨e1, e2, ⟨t, e3, e4⟩, e5⟩ | ⟨ty, m, k, v, kt, et, s, t, e1, e2, e3, e4, e5, e6, e7, e8, e9, e10⟩
     · obtain ⟨t', g1, g2, g3, g4⟩ := h4.1 t e3
       refine .inl ⟨e1, e2, ⟨t', g1, by rw [g2]; exact e4⟩, fun u hu e he => ?_⟩
       rcases h4.2 u hu with ⟨_, q2⟩ | ⟨t2, q1, _, _, q3⟩
       · rw [q2] at he; cases he
       · rcases q3 with q3 | ⟨f, q4, q3⟩
         · rw [q3] at he; exact e5 t2 q1 e he
         · rw [q3] at he
           simp only [List.mem_cons] at he
           rcases he with rfl | he
           · rw [q4]; exact hne
           · exact e5 t2 q1 e he
     · obtain ⟨t', g1, g2, g3, g4⟩ := h4.1 t e7
       refine .inr ⟨ty, m, k, v, kt, et, s, t', e1, e2, by rw [g3]; exact e3, e4, e5, e6, g1, by rw [g2]; exact e8, g4 _ e9, fun u hu => ?_⟩
       rcases h4.2 u hu with ⟨q1, _⟩ | ⟨t2, q1, q2, _⟩
       · rw [q1]; exact hne
       · rw [q2]; exact e10 t2 q1
theorem PendOK.behind {p : It × Value} {m : Nat} {h' : H} (po : PendOK P ops b hist al wt lt h p) (hm : Nat.testBit m p.1.i = false) (hh : holds (absorb (alOut m al) h') (wtOut m wt) = true) :
   PendOK P ops b hist (alOut m al) (wtOut m wt) lt h' p := by
 obtain ⟨hs, tmx, C, hok, hkind⟩ := po
 have hna : (∀ a ∈ al, a.i ≠ p.1.i) → ∀ a ∈ alOut m al, a.i ≠ p.1.i := fun hna a' ha => hna a' (alOut_mem.1 ha).1
 refine ⟨hs, tmx, C, hok, ?_⟩
 rcases hkind with ⟨k1, k2, k3, k4⟩ | ⟨k1, k2, k3⟩
 · exact .inl ⟨k1, k2, hna k3, k4⟩
 · refine .inr ⟨k1, k2, ?_⟩
   rcases k3 with ⟨k3, kn⟩ | ⟨ka, k3⟩
   · refine .inl ⟨?_, kn⟩
     rcases k3 with ⟨e1, e2⟩ | ⟨_, e3, e4⟩ | ⟨ao, e1, e2, e3⟩
     · exact .inl ⟨e1, hna e2⟩
     · have hin := wtOut_mem.2 ⟨e3, hm⟩
       obtain ⟨v, g1, g2⟩ := holds_mem hh _ hin
       simp only at g1 g2
       exact .inr (.inl ⟨⟨alOut m al, fun _ h => h, by rw [g1, g2]⟩, hin, hna e4⟩)
     · exact .inr (.inr ⟨ao, e1, alOut_mem.2 ⟨e2, hm⟩, fun a' ha => e3 a' (alOut_mem.1 ha).1⟩)
   · exact .inr ⟨hna ka, k3⟩
theorem Inv.grow (I : Inv b D hist al h σ a w) {x : It} {v : Value} {al' : List Al} (hnd : ¬ D x.i) (h2 : ∀ a ∈ al', a ∈ al ∨ (a.i = x.i ∧ a.b = b.base + x.i)) (hxn : x.i < b.n) : Inv b D ((x, v) :: hist) al' h σ a w := by
 have hG : ∀ B y, G D al' h B y → G D al h B y := fun B y hg => by
   rcases hg with hg | ⟨a', h1, h3, h4⟩
   · exact .inl hg
   · rcases h2 a' h1 with hh | ⟨hh, _⟩
     · exact .inr ⟨a', hh, h3, h4⟩
     · rw [hh] at h3; exact absurd h3 hnd
 refine ⟨I.closed, fun i hi => ?_, fun p hp hd d hpd => ?_, I.i2, I.rel.mono hG, I.free, I.bnd, I.size, I.defs, I.glob, I.tm0, I.ext.mono hG, fun a' ha => ?_⟩
 · obtain ⟨p, p1, p2⟩ := I.sub i hi
   exact ⟨p, by simp [p1], p2⟩
 · simp only [List.mem_cons] at hp
   rcases hp with rfl | hp
   · exact absurd hd hnd
   · exact I.i1 p hp hd d hpd
 · rcases h2 a' ha with hh | ⟨_, hh⟩
   · exact I.alh a' hh
   · cases hq : h.objs.get a'.b with
     | none => rfl
     | some y =>
       obtain ⟨c, h1, _⟩ := I.rel.obj a'.b y (.inl hq)
       rw [hh, I.free x.i hxn hnd] at h1; cases h1
end
end Go.Ev
