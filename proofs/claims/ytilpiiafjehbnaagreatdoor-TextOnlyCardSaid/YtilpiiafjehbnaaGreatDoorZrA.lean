import Derived.Test.YtilpiiafjehbnaaGreatDoorZdV
set_option linter.unusedSimpArgs false
set_option linter.unusedVariables false
namespace Go.Proofs.YtilpiiafjehbnaaGreatDoor
open Go.Ev
theorem box_f (x : CodeT) : (⟨x⟩ : Box CodeT).f = x := rfl
def CapOk (c n : Nat) : Prop := (Nat.ble OPEN c = true ∧ Nat.beq (szOf c) 1 = true) ∨ (Nat.ble OPEN c = false ∧ n ≤ c)
def Rd (h : H) (v : Value) (l : List UInt8) : Prop :=
 (v = .slice none 0 0 ∧ l = []) ∨ ∃ b o c x cs, v = .slice (some ⟨b, o, none⟩) l.length c ∧ Has h b x ∧ x.cells? = some cs ∧ o + l.length ≤ cs.length ∧ (cs.drop o).take l.length = l.map bv ∧ CapOk c l.length
theorem Rd.reads {h : H} {v : Value} {l : List UInt8} (a : Rd h v l) : Reads h v l := by
 rcases a with a | ⟨b, o, c, x, cs, e, h1, h2, h3, h4, _⟩
 · exact .inl a
 · exact .inr ⟨b, o, c, x, cs, e, h1, h2, h3, h4⟩
theorem Rd.keep {S : Nat → Prop} {h h' : H} {v : Value} {l : List UInt8} (a : Rd h v l) (k : Keep S h h') (hn : ∀ b, blk v b → ¬ S b) : Rd h' v l := by
 rcases a with a | ⟨b, o, c, x, cs, rfl, h1, h2, h3, h4, h5⟩
 · exact .inl a
 · exact .inr ⟨b, o, c, x, cs, rfl, h1.keep k (hn b (by simp)), h2, h3, h4, h5⟩
theorem Rd.keep0 {h h' : H} {v : Value} {l : List UInt8} (a : Rd h v l) (k : Keep nobody h h') : Rd h' v l := a.keep k fun _ _ => id
theorem Rd.len {h : H} {v : Value} {l : List UInt8} (a : Rd h v l) : lenSl v = some (.int .i64 (l.length : Int)) := a.reads.len
theorem Rd.str {h : H} {v : Value} {l : List UInt8} (a : Rd h v l) : bytesStr h v = some (.string ⟨l.toArray⟩) := a.reads.str
theorem rd_of_mine {h : H} {v : Value} {l : List UInt8} (m : Mine h v l) (hl : l.length < 1000000) : Rd h v l := by
 cases m with
 | nil => exact .inl ⟨rfl, rfl⟩
 | op b cap l ty c1 c2 hb => exact .inr ⟨b, 0, cap, _, _, rfl, hb, rfl, by simp, by rw [List.drop_zero, List.take_of_length_le (by simp)], .inl ⟨c1, c2⟩⟩
 | rw b l ty hb =>
   have e1 : Nat.ble OPEN l.length = false := by
     rw [Bool.eq_false_iff]; intro e; have := Nat.le_of_ble_eq_true e; unfold OPEN at this; omega
   exact .inr ⟨b, 0, _, _, _, rfl, hb, rfl, by simp, by rw [List.drop_zero, List.take_of_length_le (by simp)], .inr ⟨e1, Nat.le_refl _⟩⟩
theorem Rd.at {h : H} {v : Value} {l : List UInt8} (a : Rd h v l) {i : Nat} {x : UInt8} (hi : l[i]? = some x) :
   ∃ b o, indexSl 1 v (.int .i64 (i : Int)) = some (.pointer (some ⟨b, o, none⟩)) ∧ (∀ s, loadOne h (.pointer (some ⟨b, o, s⟩)) = some (bv x)) ∧ blk v b := by
 have hl : i < l.length := by
   by_cases hl : i < l.length
   · exact hl
   · rw [List.getElem?_eq_none (by omega)] at hi; cases hi
 rcases a with ⟨rfl, rfl⟩ | ⟨b, o, c, x', cs, rfl, h1, h2, h3, h4, _⟩
 · simp at hl
 · refine ⟨b, o + i, ?_, fun s => ?_, by simp⟩
   · simp only [indexSl, asNat_nat, addOff]
     rw [Nat.ble_eq_true_of_le (by omega)]
     simp
   · rw [loadOne_has h1 h2]
     have : ((cs.drop o).take l.length)[i]? = cs[o + i]? := by rw [List.getElem?_take, if_pos hl, List.getElem?_drop]
     rw [← this, h4, List.getElem?_map, hi]; rfl
theorem bnd_none (d y : Nat) : bnd none d y = some d := rfl
theorem bnd_some (k : IntKind) (n d y : Nat) (h : n ≤ y) : bnd (some (.int k (n : Int))) d y = some n := by
 simp only [bnd, asNat_nat, Nat.ble_eq_true_of_le h]
theorem Rd.from {h : H} {v : Value} {l : List UInt8} (a : Rd h v l) (k : Nat) (hk : k ≤ l.length) :
   ∃ v', sliceSl 1 v (some (.int .i64 (k : Int))) none none = some v' ∧ Rd h v' (l.drop k) ∧ ∀ b, blk v' b → blk v b := by
 rcases a with ⟨rfl, rfl⟩ | ⟨b, o, c, x, cs, rfl, h1, h2, h3, h4, h5⟩
 · have : k = 0 := by simpa using hk
   subst this
   refine ⟨.slice none 0 0, by rfl, .inl ⟨rfl, rfl⟩, fun b hb => hb⟩
 · have hrd : ∀ c', CapOk c' (l.length - k) → Rd h (.slice (some ⟨b, o + k, none⟩) (l.length - k) c') (l.drop k) := fun c' hc => by
     refine .inr ⟨b, o + k, c', x, cs, by simp, h1, h2, by simp; omega, ?_, by simpa using hc⟩
     rw [List.length_drop, List.map_drop, ← h4, ← List.drop_drop, List.drop_take]
   have hb : bnds (some (.int .i64 (k : Int))) none none l.length (Nat.max l.length (lbOf c)) = some (k, l.length, Nat.max l.length (lbOf c)) := by
     simp only [bnds, bnd_none, bnd_some .i64 k _ _ hk]
   have hb' : bnds (some (.int .i64 (k : Int))) none none l.length c = some (k, l.length, c) := by
     simp only [bnds, bnd_none, bnd_some .i64 k _ _ hk]
   rcases h5 with ⟨c1, c2⟩ | ⟨c1, c2⟩
   · refine ⟨.slice (some ⟨b, o + k, none⟩) (l.length - k) (opCap (Nat.max l.length (lbOf c) - k) 1), ?_, hrd _ (.inl ⟨opCap_open _, opCap_size _⟩), by simp⟩
     simp only [sliceSl, c1, c2, hb, addOff, Nat.mul_one]
   · by_cases hc : c = k
     · have hz : l.length - k = 0 := by omega
       refine ⟨.slice (some ⟨b, o, none⟩) (l.length - k) 0, ?_, .inr ⟨b, o, 0, x, cs, by simp, h1, h2, by simp; omega, by rw [List.length_drop, hz]; simp; omega, .inr ⟨rfl, by simp; omega⟩⟩, by simp⟩
       have e : Nat.beq c k = true := by rw [hc]; exact Nat.beq_refl _
       simp only [sliceSl, c1, hb', e]
     · refine ⟨.slice (some ⟨b, o + k, none⟩) (l.length - k) (c - k), ?_, hrd _ (.inr ⟨?_, by omega⟩), by simp⟩
       · have e : Nat.beq c k = false := by rw [Bool.eq_false_iff]; intro e; exact hc (Nat.eq_of_beq_eq_true e)
         simp only [sliceSl, c1, hb', e, addOff, Nat.mul_one]
       · rw [Bool.eq_false_iff] at c1 ⊢
         intro e
         exact c1 (Nat.ble_eq_true_of_le (Nat.le_trans (Nat.le_of_ble_eq_true e) (Nat.sub_le _ _)))
theorem Rd.mid {h : H} {v : Value} {l : List UInt8} (a : Rd h v l) (lo : Option Value) (k n : Nat) (hlo : lo = none ∧ k = 0 ∨ lo = some (.int .i64 (k : Int))) (hk : k ≤ n) (hn : n ≤ l.length) (kd : IntKind) :
   ∃ v', sliceSl 1 v lo (some (.int kd (n : Int))) none = some v' ∧ Rd h v' ((l.take n).drop k) ∧ ∀ b, blk v' b → blk v b := by
 have hbl : ∀ y, n ≤ y → bnd lo 0 n = some k := fun y _ => by
   rcases hlo with ⟨rfl, rfl⟩ | rfl
   · rfl
   · exact bnd_some .i64 k _ _ hk
 rcases a with ⟨rfl, rfl⟩ | ⟨b, o, c, x, cs, rfl, h1, h2, h3, h4, h5⟩
 · have : n = 0 := by simpa using hn
   subst this
   have : k = 0 := by omega
   subst this
   refine ⟨.slice none 0 0, ?_, .inl ⟨rfl, by simp⟩, fun b hb => hb⟩
   rcases hlo with ⟨rfl, _⟩ | rfl <;> rfl
 · have hrd : ∀ c', CapOk c' (n - k) → Rd h (.slice (some ⟨b, o + k, none⟩) (n - k) c') ((l.take n).drop k) := fun c' hc => by
     have hl : ((l.take n).drop k).length = n - k := by simp; omega
     refine .inr ⟨b, o + k, c', x, cs, by rw [hl], h1, h2, by rw [hl]; omega, ?_, by rw [hl]; exact hc⟩
     have e1 : ((l.take n).drop k).map bv = ((l.map bv).take n).drop k := by simp
     rw [hl, e1, ← h4, ← List.drop_drop, List.take_take, Nat.min_eq_left hn, List.drop_take]
   have hb : ∀ cp, n ≤ cp → bnds lo (some (.int kd (n : Int))) none l.length cp = some (k, n, cp) := fun cp hcp => by
     simp only [bnds, bnd_none, bnd_some kd n _ _ hcp, hbl cp hcp]
   rcases h5 with ⟨c1, c2⟩ | ⟨c1, c2⟩
   · refine ⟨.slice (some ⟨b, o + k, none⟩) (n - k) (opCap (Nat.max l.length (lbOf c) - k) 1), ?_, hrd _ (.inl ⟨opCap_open _, opCap_size _⟩), by simp⟩
     have := hb (Nat.max l.length (lbOf c)) (Nat.le_trans hn (Nat.le_max_left _ _))
     simp only [sliceSl, c1, c2, this, addOff, Nat.mul_one]
   · have hb' := hb c (Nat.le_trans hn c2)
     by_cases hc : c = k
     · have hz : n - k = 0 := by omega
       have e : Nat.beq c k = true := by rw [hc]; exact Nat.beq_refl _
       have hl : ((l.take n).drop k).length = 0 := by simp; omega
       refine ⟨.slice (some ⟨b, o, none⟩) (n - k) 0, ?_, .inr ⟨b, o, 0, x, cs, by rw [hl, hz], h1, h2, by rw [hl]; omega, ?_, .inr ⟨rfl, by rw [hl]; exact Nat.le_refl _⟩⟩, by simp⟩
       · simp only [sliceSl, c1, hb', e]
       · rw [List.length_eq_zero_iff.1 hl]; simp
     · refine ⟨.slice (some ⟨b, o + k, none⟩) (n - k) (c - k), ?_, hrd _ (.inr ⟨?_, by omega⟩), by simp⟩
       · have e : Nat.beq c k = false := by rw [Bool.eq_false_iff]; intro e; exact hc (Nat.eq_of_beq_eq_true e)
         simp only [sliceSl, c1, hb', e, addOff, Nat.mul_one]
       · rw [Bool.eq_false_iff] at c1 ⊢
         intro e
         exact c1 (Nat.ble_eq_true_of_le (Nat.le_trans (Nat.le_of_ble_eq_true e) (Nat.sub_le _ _)))
def At (l : List UInt8) (i : Nat) : Prop := l[i]? = some 13 ∧ l[i + 1]? = some 10
instance atDec (l : List UInt8) (i : Nat) : Decidable (At l i) := inferInstanceAs (Decidable (_ ∧ _))
def crlf (l : List UInt8) : Int := findL [13, 10] l 0
theorem pre_at (l : List UInt8) : preL [13, 10] l = decide (At l 0) := by
 rcases l with _ | ⟨x, _ | ⟨y, r⟩⟩
 · simp [preL, At]
 · simp only [preL, At]
   cases h : Nat.beq (13 : UInt8).toNat x.toNat <;> simp
 · have e : ∀ a b : UInt8, Nat.beq a.toNat b.toNat = decide (b = a) := fun a b => by
     by_cases g : b = a
     · subst g; rw [Nat.beq_refl]; simp
     · rw [dF g, Bool.eq_false_iff]
       intro e; exact g (UInt8.toNat_inj.1 (Nat.eq_of_beq_eq_true e).symm)
   have eq2 : At (x :: y :: r) 0 ↔ (x = 13 ∧ y = 10) := by simp [At]
   simp only [preL, e, eq2]
   by_cases g1 : x = 13 <;> by_cases g2 : y = 10 <;> simp [g1, g2]
theorem findL_spec : ∀ (l : List UInt8) (k : Nat), (findL [13, 10] l k = -1 ∧ ∀ j, ¬ At l j) ∨ ∃ i : Nat, findL [13, 10] l k = ((i + k : Nat) : Int) ∧ At l i ∧ ∀ j, j < i → ¬ At l j
 | [], k => .inl ⟨rfl, fun j h => by simp [At] at h⟩
 | x :: r, k => by
   have e : findL [13, 10] (x :: r) k = match preL [13, 10] (x :: r) with | true => Int.ofNat k | false => findL [13, 10] r (k + 1) := rfl
   rw [e, pre_at]
   have st : ∀ j, At (x :: r) (j + 1) ↔ At r j := fun j => by simp [At]
   by_cases g : At (x :: r) 0
   · rw [dT g]
     exact .inr ⟨0, by simp, g, fun j h => by omega⟩
   · rw [dF g]
     rcases findL_spec r (k + 1) with ⟨h1, h2⟩ | ⟨i, h1, h2, h3⟩
     · refine .inl ⟨h1, fun j => ?_⟩
       cases j with
       | zero => exact g
       | succ j => rw [st]; exact h2 j
     · refine .inr ⟨i + 1, by show findL [13, 10] r (k + 1) = _; rw [h1]; congr 1; omega, (st i).2 h2, fun j hj => ?_⟩
       cases j with
       | zero => exact g
       | succ j => rw [st]; exact h3 j (by omega)
theorem crlf_spec (l : List UInt8) : (crlf l = -1 ∧ ∀ j, ¬ At l j) ∨ ∃ i : Nat, crlf l = (i : Int) ∧ At l i ∧ ∀ j, j < i → ¬ At l j := findL_spec l 0
theorem crlf_at {l : List UInt8} {i : Nat} (h : At l i) (hb : ∀ j, j < i → ¬ At l j) : crlf l = (i : Int) := by
 rcases crlf_spec l with ⟨_, h2⟩ | ⟨k, h1, h2, h3⟩
 · exact absurd h (h2 i)
 · have : k = i := by
     rcases Nat.lt_trichotomy k i with g | g | g
     · exact absurd h2 (hb k g)
     · exact g
     · exact absurd h (h3 i g)
   rw [h1, this]
theorem crlf_none {l : List UInt8} (h : ∀ j, ¬ At l j) : crlf l = -1 := by
 rcases crlf_spec l with ⟨h1, _⟩ | ⟨k, _, h2, _⟩
 · exact h1
 · exact absurd h2 (h k)
theorem At.lt {l : List UInt8} {i : Nat} (h : At l i) : i + 1 < l.length := by
 by_cases g : i + 1 < l.length
 · exact g
 · have := h.2
   rw [List.getElem?_eq_none (by omega)] at this
   cases this
theorem At.take {l : List UInt8} {i n : Nat} : At (l.take n) i ↔ (At l i ∧ i + 1 < n) := by
 constructor
 · intro h
   have h2 := h.lt
   rw [List.length_take] at h2
   refine ⟨⟨?_, ?_⟩, by omega⟩
   · have := h.1; rwa [List.getElem?_take, if_pos (by omega)] at this
   · have := h.2; rwa [List.getElem?_take, if_pos (by omega)] at this
 · rintro ⟨h, hn⟩
   refine ⟨?_, ?_⟩
   · rw [List.getElem?_take, if_pos (by omega)]; exact h.1
   · rw [List.getElem?_take, if_pos (by omega)]; exact h.2
theorem eql_u8 (t : TypeId) (c : Bool) (x y : UInt8) : binV Tryz.prog .eql t c (bv x) (bv y) = some (.bool (decide (x = y))) := by
 have e : ((x.toNat : Int) = (y.toNat : Int)) ↔ x = y := by
   rw [Int.ofNat_inj]; exact UInt8.toNat_inj
 show binV Tryz.prog .eql t c (.int .u8 (x.toNat : Int)) (.int .u8 (y.toNat : Int)) = _
 rw [binV_eql]
 by_cases g : x = y
 · rw [dT g, dT (e.2 g)]
 · rw [dF g, dF fun h => g (e.1 h)]
def capOK (n c : Nat) : Prop := (Nat.ble OPEN c = false ∧ n ≤ c) ∨ (Nat.ble OPEN c = true ∧ Nat.beq (szOf c) 1 = true)
def Strs (h : H) (v : Value) (l : List (List UInt8)) : Prop :=
 (v = .slice none 0 0 ∧ l = []) ∨ ∃ b o c x cs, v = .slice (some ⟨b, o, none⟩) l.length c ∧ Has h b x ∧ x.cells? = some cs ∧ o + l.length ≤ cs.length ∧ (cs.drop o).take l.length = l.map sv ∧ capOK l.length c
theorem Strs.keep {S : Nat → Prop} {h h' : H} {v : Value} {l : List (List UInt8)} (a : Strs h v l) (k : Keep S h h') (hn : ∀ b, blk v b → ¬ S b) : Strs h' v l := by
 rcases a with a | ⟨b, o, c, x, cs, rfl, h1, h2⟩
 · exact .inl a
 · exact .inr ⟨b, o, c, x, cs, rfl, h1.keep k (hn b (by simp)), h2⟩
theorem Strs.keep0 {h h' : H} {v : Value} {l : List (List UInt8)} (a : Strs h v l) (k : Keep nobody h h') : Strs h' v l := a.keep k fun _ _ => id
theorem Strs.len {h : H} {v : Value} {l : List (List UInt8)} (a : Strs h v l) : lenSl v = some (.int .i64 (l.length : Int)) := by
 rcases a with ⟨rfl, rfl⟩ | ⟨b, o, c, x, cs, rfl, _⟩ <;> rfl
theorem Strs.lt {h : H} {v : Value} {l : List (List UInt8)} (a : Strs h v l) {b : Nat} (hb : blk v b) : b < h.next := by
 rcases a with ⟨rfl, rfl⟩ | ⟨b', o, c, x, cs, rfl, h1, _⟩
 · simp at hb
 · simp at hb; subst hb; exact h1.1
theorem Strs.at {h : H} {v : Value} {l : List (List UInt8)} (a : Strs h v l) {i : Nat} {p : List UInt8} (hi : l[i]? = some p) :
   ∃ b o, indexSl 1 v (.int .i64 (i : Int)) = some (.pointer (some ⟨b, o, none⟩)) ∧ ∀ s, loadOne h (.pointer (some ⟨b, o, s⟩)) = some (sv p) := by
 have hl : i < l.length := (List.getElem?_eq_some_iff.1 hi).1
 rcases a with ⟨rfl, rfl⟩ | ⟨b, o, c, x, cs, rfl, h1, h2, h3, h4, _⟩
 · simp at hl
 · refine ⟨b, o + i, ?_, fun s => ?_⟩
   · simp only [indexSl, asNat_nat, addOff]
     rw [Nat.ble_eq_true_of_le (by omega)]
     simp
   · have e : ((cs.drop o).take l.length)[i]? = some (sv p) := by rw [h4, List.getElem?_map, hi]; rfl
     rw [List.getElem?_take, if_pos hl, List.getElem?_drop] at e
     rw [loadOne_has h1 h2, e]
theorem Strs.tail {h : H} {v : Value} {p : List UInt8} {l : List (List UInt8)} (a : Strs h v (p :: l)) (h1 : 0 < l.length) (h2 : l.length ≤ 1000000) :
   ∃ v', sliceSl 1 v (some (.int .i64 1)) none none = some v' ∧ Strs h v' l ∧ ∀ b, blk v' b → blk v b := by
 rcases a with ⟨_, e⟩ | ⟨b, o, c, x, cs, rfl, hb, hx, h3, h4, hc⟩
 · cases e
 · have e4 : (cs.drop (o + 1)).take l.length = l.map sv := by
     have := congrArg (fun z => z.drop 1) h4
     simp only [List.length_cons, List.map_cons, List.drop_succ_cons, List.drop_zero] at this
     rw [← this, List.drop_take, List.drop_drop]
     congr 1
   rcases hc with ⟨c1, c2⟩ | ⟨c1, c2⟩
   · have e2 : bnds (some (.int .i64 1)) none none (p :: l).length c = some (1, (p :: l).length, c) := by
       simp only [bnds, bnd, asNat_one]
       rw [Nat.ble_eq_true_of_le (show 1 ≤ (p :: l).length by simp)]
     have e3 : Nat.beq c 1 = false := by
       rw [Bool.eq_false_iff]; intro e; have := Nat.eq_of_beq_eq_true e; simp only [List.length_cons] at c2; omega
     have hO : Nat.ble OPEN (c - 1) = false := by
       rw [Bool.eq_false_iff]; intro e
       have := Nat.le_of_ble_eq_true e
       have : Nat.ble OPEN c = true := Nat.ble_eq_true_of_le (by omega)
       rw [c1] at this; cases this
     refine ⟨.slice (some ⟨b, o + 1, none⟩) l.length (c - 1), ?_, .inr ⟨b, o + 1, c - 1, x, cs, rfl, hb, hx, by simp only [List.length_cons] at h3; omega, e4, .inl ⟨hO, by simp only [List.length_cons] at c2; omega⟩⟩, fun b' hb' => by simpa using hb'⟩
     simp only [sliceSl, c1, e2, e3]
     simp [addOff]
   · have e2 : bnds (some (.int .i64 1)) none none (p :: l).length (Nat.max (p :: l).length (lbOf c)) = some (1, (p :: l).length, Nat.max (p :: l).length (lbOf c)) := by
       simp only [bnds, bnd, asNat_one]
       rw [Nat.ble_eq_true_of_le (show 1 ≤ (p :: l).length by simp)]
     have hv : sliceSl 1 (.slice (some ⟨b, o, none⟩) (p :: l).length c) (some (.int .i64 1)) none none = some (.slice (some ⟨b, o + 1, none⟩) l.length (opCap (Nat.max (p :: l).length (lbOf c) - 1) 1)) := by
       simp only [sliceSl, c1, c2, e2]
       simp [addOff]
     have o1 := opCap_open (Nat.max (p :: l).length (lbOf c) - 1)
     have o2 := opCap_size (Nat.max (p :: l).length (lbOf c) - 1)
     generalize opCap (Nat.max (p :: l).length (lbOf c) - 1) 1 = c' at hv o1 o2
     exact ⟨_, hv, .inr ⟨b, o + 1, c', x, cs, rfl, hb, hx, by simp only [List.length_cons] at h3; omega, e4, .inr ⟨o1, o2⟩⟩, fun b' hb' => by simpa using hb'⟩
theorem ones_sv : ∀ l : List (List UInt8), ones (l.map sv) = true
 | [] => rfl
 | x :: l => ones_sv l
theorem Strs.src {h : H} {v : Value} {l : List (List UInt8)} (a : Strs h v l) : lenV v = some l.length ∧ firstV h 1 l.length v = some (l.map sv) := by
 rcases a with ⟨rfl, rfl⟩ | ⟨b, o, c, x, cs, rfl, h1, h2, h3, h4, _⟩
 · exact ⟨rfl, rfl⟩
 · refine ⟨rfl, ?_⟩
   simp only [firstV, Nat.mul_one]
   rw [row_has h1 h2 h3, h4]
def StrOp (h : H) (v : Value) (l : List (List UInt8)) : Prop := ∃ b c, v = .slice (some ⟨b, 0, none⟩) l.length c ∧ Nat.ble OPEN c = true ∧ Nat.beq (szOf c) 1 = true ∧ Has h b (.op (l.map sv) 1 (some 9))
theorem StrOp.strs {h : H} {v : Value} {l : List (List UInt8)} (a : StrOp h v l) : Strs h v l := by
 obtain ⟨b, c, rfl, c1, c2, hb⟩ := a
 exact .inr ⟨b, 0, c, _, _, rfl, hb, rfl, by simp, by rw [List.drop_zero, List.take_of_length_le (by simp)], .inr ⟨c1, c2⟩⟩
theorem StrOp.keep {S : Nat → Prop} {h h' : H} {v : Value} {l : List (List UInt8)} (a : StrOp h v l) (k : Keep S h h') (hn : ∀ b, blk v b → ¬ S b) : StrOp h' v l := by
 obtain ⟨b, c, rfl, c1, c2, hb⟩ := a
 exact ⟨b, c, rfl, c1, c2, hb.keep k (hn b (by simp))⟩
theorem appV_eq {h : H} {base : Option Addr} {sl sc : Nat} {x : Value} {m : List (List UInt8)} (hx : Strs h x m) : appendV 9 1 16 h (.slice base sl sc) x = appTo 9 1 16 h base sl sc m.length (m.map sv) := by
 obtain ⟨e1, e2⟩ := hx.src
 unfold appendV
 simp only [e1, e2, List.length_map, Nat.mul_one, Nat.beq_refl]
theorem appTo_pos {h : H} {a : Addr} {sl sc n : Nat} {new : List Value} (h1 : 0 < n) (h2 : sl + n ≤ 1000000) : appTo 9 1 16 h (some a) sl sc n new = (match Nat.ble OPEN sc with | true => appOpen 9 1 h a sl sc n new | false => appExact 9 1 h a sl sc n new) := by
 obtain ⟨m, rfl⟩ : ∃ m, n = m + 1 := ⟨n - 1, by omega⟩
 unfold appTo
 rw [Nat.ble_eq_true_of_le (show (sl + (m + 1)) * 16 ≤ 140737488355328 by omega), Nat.ble_eq_true_of_le (show sl + (m + 1) ≤ 9223372036854775807 by omega)]
 rfl
theorem app_lit1 {h : H} {b : Nat} {x : Value} {l m : List (List UInt8)} {ty : Option TypeId} (hb : Has h b (.rw (l.map sv) ty)) (hx : Strs h x m) (h1 : 0 < m.length) (h2 : l.length + m.length ≤ 1000000) :
   ∃ v' h', appendV 9 1 16 h (.slice (some ⟨b, 0, none⟩) l.length l.length) x = some (v', h') ∧ StrOp h' v' (l ++ m) ∧ Keep nobody h h' ∧ ∀ b', blk v' b' → h.next ≤ b' := by
 have hO : Nat.ble OPEN l.length = false := by
   rw [Bool.eq_false_iff]; intro e; have := Nat.le_of_ble_eq_true e; unfold OPEN at this; omega
 have e2 : Nat.ble (l.length + m.length) l.length = false := by
   rw [Bool.eq_false_iff]; intro e; have := Nat.le_of_ble_eq_true e; omega
 have e3 : h.row b 0 (l.length * 1) = some (l.map sv) := by
   rw [row_has hb rfl (by simp), List.drop_zero, List.take_of_length_le (by simp)]
 have e : appendV 9 1 16 h (.slice (some ⟨b, 0, none⟩) l.length l.length) x = grow h (l.map sv) (m.map sv) (l.length + m.length) 1 (some 9) := by
   rw [appV_eq hx, appTo_pos h1 h2, hO]
   unfold appExact
   simp only [e2, e3]
 have g : grow h (l.map sv) (m.map sv) (l.length + m.length) 1 (some 9) = some (.slice (some ⟨h.next, 0, none⟩) (l ++ m).length (opCap (l.length + m.length) 1), h.new (.op ((l ++ m).map sv) 1 (some 9))) := by
   rw [List.map_append, List.length_append]; rfl
 rw [g] at e
 have o1 := opCap_open (l.length + m.length)
 have o2 := opCap_size (l.length + m.length)
 generalize opCap (l.length + m.length) 1 = c at e o1 o2
 exact ⟨_, _, e, ⟨_, c, rfl, o1, o2, .new _ _⟩, .new _ _, fun b' hb' => by simp only [blk_some] at hb'; omega⟩
theorem app_op {h : H} {v x : Value} {l m : List (List UInt8)} (a : StrOp h v l) (hx : Strs h x m) (h1 : 0 < m.length) (h2 : l.length + m.length ≤ 1000000) :
   ∃ v' h', appendV 9 1 16 h v x = some (v', h') ∧ StrOp h' v' (l ++ m) ∧ Keep (blk v) h h' ∧ ∀ b', blk v' b' → h.next ≤ b' := by
 obtain ⟨b, c, rfl, c1, c2, hb⟩ := a
 obtain ⟨y, ys, rfl⟩ : ∃ y ys, m = y :: ys := List.exists_cons_of_length_pos h1
 have e3 : putAt (l.map sv) (0 + l.length * 1) ((y :: ys).map sv) = none := by
   have := putAt_end (l.map sv) (sv y) (ys.map sv)
   rw [List.length_map] at this
   rw [Nat.zero_add, Nat.mul_one]; exact this
 have e4 : cut (l.map sv) 0 = some (l.map sv) := by simpa using cut_eq (l.map sv) 0 (by simp)
 have e5 : Nat.beq (0 + l.length * 1) (l.map sv).length = true := by rw [List.length_map, Nat.zero_add, Nat.mul_one]; exact Nat.beq_refl _
 have e : appendV 9 1 16 h (.slice (some ⟨b, 0, none⟩) l.length c) x = grow (h.del b) (l.map sv) ((y :: ys).map sv) (l.length + (y :: ys).length) 1 (some 9) := by
   rw [appV_eq hx, appTo_pos h1 h2, c1]
   unfold appOpen
   simp only [c2, ones_sv, Bool.and_self, hb.2]
   simp only [e3, e5, e4]
   rfl
 have g : grow (h.del b) (l.map sv) ((y :: ys).map sv) (l.length + (y :: ys).length) 1 (some 9) = some (.slice (some ⟨h.next, 0, none⟩) (l ++ (y :: ys)).length (opCap (l.length + (y :: ys).length) 1), (h.del b).new (.op ((l ++ (y :: ys)).map sv) 1 (some 9))) := by
   rw [List.map_append, List.length_append]; rfl
 rw [g] at e
 have o1 := opCap_open (l.length + (y :: ys).length)
 have o2 := opCap_size (l.length + (y :: ys).length)
 generalize opCap (l.length + (y :: ys).length) 1 = c' at e o1 o2
 refine ⟨_, _, e, ⟨_, c', rfl, o1, o2, Has.new (h.del b) _⟩, ?_, fun b' hb' => ?_⟩
 · exact ((Keep.del h b).mono fun k _ e => by simp [e]).then (.new _ _)
 · simp only [blk_some] at hb'
   exact Nat.le_of_eq hb'
theorem strs_lit {h : H} {b : Nat} {l : List (List UInt8)} {ty : Option TypeId} (hb : Has h b (.rw (l.map sv) ty)) (h2 : l.length ≤ 1000000) : Strs h (.slice (some ⟨b, 0, none⟩) l.length l.length) l :=
 .inr ⟨b, 0, l.length, _, _, rfl, hb, rfl, by simp, by rw [List.drop_zero, List.take_of_length_le (by simp)], .inl ⟨by rw [Bool.eq_false_iff]; intro e; have := Nat.le_of_ble_eq_true e; unfold OPEN at this; omega, Nat.le_refl _⟩⟩
theorem beq_dec (a b : List UInt8) : (a == b) = decide (a = b) := by rw [Bool.eq_iff_iff]; simp
theorem sv_eql (t : TypeId) (c : Bool) (a b : List UInt8) : binV Tryz.prog .eql t c (sv a) (sv b) = some (.bool (decide (a = b))) := by
 show binV Tryz.prog .eql t c (.string _) (.string _) = _
 rw [strV_eql, leB_eq]
 show some (Value.bool (a == b)) = _
 rw [beq_dec]
theorem sv_neq (t : TypeId) (c : Bool) (a b : List UInt8) : binV Tryz.prog .neq t c (sv a) (sv b) = some (.bool (!decide (a = b))) := by
 show binV Tryz.prog .neq t c (.string _) (.string _) = _
 rw [strV_neq, leB_eq]
 show some (Value.bool !(a == b)) = _
 rw [beq_dec]
theorem Strs.take {h : H} {v : Value} {l : List (List UInt8)} (a : Strs h v l) {i : Nat} (hi : i < l.length) :
   ∃ v', sliceSl 1 v none (some (.int .i64 (i : Int))) none = some v' ∧ Strs h v' (l.take i) := by
 rcases a with ⟨_, rfl⟩ | ⟨b, o, c, x, cs, rfl, hb, hx, h3, h4, hc⟩
 · simp at hi
 · have hl : (l.take i).length = i := by rw [List.length_take]; omega
   have e4 : (cs.drop o).take (l.take i).length = (l.take i).map sv := by
     rw [hl, List.map_take, ← h4, List.take_take, Nat.min_eq_left (by omega)]
   rcases hc with ⟨c1, c2⟩ | ⟨c1, c2⟩
   · have e2 : bnds none (some (.int .i64 (i : Int))) none l.length c = some (0, i, c) := by
       simp only [bnds, bnd, asNat_nat]
       rw [Nat.ble_eq_true_of_le (show i ≤ c by omega)]
     have e3 : Nat.beq c 0 = false := by
       rw [Bool.eq_false_iff]; intro e; have := Nat.eq_of_beq_eq_true e; omega
     refine ⟨.slice (some ⟨b, o, none⟩) (l.take i).length c, ?_, .inr ⟨b, o, c, x, cs, rfl, hb, hx, by omega, e4, .inl ⟨c1, by omega⟩⟩⟩
     simp only [sliceSl, c1, e2, e3, hl]
     simp [addOff]
   · have hm : i ≤ Nat.max l.length (lbOf c) := Nat.le_trans (by omega) (Nat.le_max_left _ _)
     have e2 : bnds none (some (.int .i64 (i : Int))) none l.length (Nat.max l.length (lbOf c)) = some (0, i, Nat.max l.length (lbOf c)) := by
       simp only [bnds, bnd, asNat_nat]
       rw [Nat.ble_eq_true_of_le hm]
     have hv : sliceSl 1 (.slice (some ⟨b, o, none⟩) l.length c) none (some (.int .i64 (i : Int))) none = some (.slice (some ⟨b, o, none⟩) (l.take i).length (opCap (Nat.max l.length (lbOf c)) 1)) := by
       simp only [sliceSl, c1, c2, e2, hl]
       simp [addOff]
     have o1 := opCap_open (Nat.max l.length (lbOf c))
     have o2 := opCap_size (Nat.max l.length (lbOf c))
     generalize opCap (Nat.max l.length (lbOf c)) 1 = c' at hv o1 o2
     exact ⟨_, hv, .inr ⟨b, o, c', x, cs, rfl, hb, hx, by omega, e4, .inr ⟨o1, o2⟩⟩⟩
def cutS : List UInt8 → List (List UInt8)
 | [] => [[]]
 | x :: r => if x = 32 then [] :: cutS r else match cutS r with
   | p :: ps => (x :: p) :: ps
   | [] => [[x]]
theorem cutS_cons (x : UInt8) (r : List UInt8) : cutS (x :: r) = if x = 32 then [] :: cutS r else match cutS r with
   | p :: ps => (x :: p) :: ps
   | [] => [[x]] := rfl
theorem cutS_ne : ∀ l, cutS l ≠ []
 | [] => by simp [cutS]
 | x :: r => by
   unfold cutS
   split
   · simp
   · split <;> simp
theorem cutS_one : ∀ q : List UInt8, (32 : UInt8) ∉ q → cutS q = [q]
 | [], _ => rfl
 | x :: r, h => by
   simp only [List.mem_cons, not_or] at h
   have := cutS_one r h.2
   unfold cutS
   rw [if_neg fun e => h.1 e.symm, this]
theorem cutS_app : ∀ (q r : List UInt8), (32 : UInt8) ∉ q → cutS (q ++ 32 :: r) = q :: cutS r
 | [], r, _ => by simp [cutS]
 | x :: q, r, h => by
   simp only [List.mem_cons, not_or] at h
   have := cutS_app q r h.2
   rw [List.cons_append, cutS_cons]
   rw [if_neg fun e => h.1 e.symm, this]
theorem split32 : ∀ l : List UInt8, (32 : UInt8) ∉ l ∨ ∃ q r, l = q ++ 32 :: r ∧ (32 : UInt8) ∉ q
 | [] => .inl (by simp)
 | x :: l => by
   by_cases g : x = 32
   · exact .inr ⟨[], l, by rw [g]; rfl, by simp⟩
   · rcases split32 l with h | ⟨q, r, h1, h2⟩
     · exact .inl (by simp [h]; exact fun e => g e.symm)
     · exact .inr ⟨x :: q, r, by rw [h1]; rfl, by simp [h2]; exact fun e => g e.symm⟩
theorem cutS_sum : ∀ l : List UInt8, (cutS l).length ≤ l.length + 1
 | [] => by simp [cutS]
 | x :: r => by
   have := cutS_sum r
   unfold cutS
   split
   · simp; omega
   · split
     · rename_i e; rw [e] at this; simp at this ⊢; omega
     · simp
theorem sv_ix {l : List UInt8} {i : Nat} {c : UInt8} (h : l[i]? = some c) : indexStr (sv l) (.int .i64 (i : Int)) = some (bv c) := ixstr (s := ⟨l.toArray⟩) (by simpa using h)
theorem sv_from {l : List UInt8} {k : Nat} (hk : k ≤ l.length) : sliceStr (sv l) (some (.int .i64 (k : Int))) none none = some (sv (l.drop k)) := by
 have e : bnds (some (.int .i64 (k : Int))) none none l.length l.length = some (k, l.length, l.length) := by
   simp only [bnds, bnd_none, bnd_some .i64 k _ _ hk]
 show (match bnds (some (.int .i64 (k : Int))) none none l.length l.length with | some (l', h, _) => some (Value.string ⟨((l.drop l').take (h - l')).toArray⟩) | none => none) = _
 rw [e]
 show some (Value.string ⟨((l.drop k).take (l.length - k)).toArray⟩) = _
 rw [List.take_of_length_le (by simp)]; rfl
theorem sv_mid {l : List UInt8} {lo : Option Value} {k n : Nat} (hlo : lo = none ∧ k = 0 ∨ lo = some (.int .i64 (k : Int))) (hk : k ≤ n) (hn : n ≤ l.length) : sliceStr (sv l) lo (some (.int .i64 (n : Int))) none = some (sv ((l.take n).drop k)) := by
 have e : bnds lo (some (.int .i64 (n : Int))) none l.length l.length = some (k, n, l.length) := by
   rcases hlo with ⟨rfl, rfl⟩ | rfl
   · simp only [bnds, bnd_none, bnd_some .i64 n _ _ hn]
   · simp only [bnds, bnd_none, bnd_some .i64 n _ _ hn, bnd_some .i64 k _ _ hk]
 show (match bnds lo (some (.int .i64 (n : Int))) none l.length l.length with | some (l', h, _) => some (Value.string ⟨((l.drop l').take (h - l')).toArray⟩) | none => none) = _
 rw [e]
 show some (Value.string ⟨((l.drop k).take (n - k)).toArray⟩) = _
 rw [← List.drop_take]; rfl
theorem lit_sv (b : Nat) (p : List UInt8) : mkLit 9 1 b (fill (repl [(.string (strB []))] 1) (pl 1) [(0, sv p)]) = some (.rw ([p].map sv) (some 9), .slice (some ⟨b, 0, none⟩) [p].length [p].length) := rfl
def StrG (h : H) (v : Value) (l : List (List UInt8)) : Prop := (v = .slice none 0 0 ∧ l = []) ∨ StrOp h v l
theorem StrG.strs {h : H} {v : Value} {l : List (List UInt8)} (a : StrG h v l) : Strs h v l := by
 rcases a with a | a
 · exact .inl a
 · exact a.strs
theorem app_none {h : H} {x : Value} {m : List (List UInt8)} (hx : Strs h x m) (h1 : 0 < m.length) (h2 : m.length ≤ 1000000) :
   ∃ v' h', appendV 9 1 16 h (.slice none 0 0) x = some (v', h') ∧ StrOp h' v' m ∧ Keep nobody h h' ∧ ∀ b', blk v' b' → h.next ≤ b' := by
 have e : appendV 9 1 16 h (.slice none 0 0) x = grow h [] (m.map sv) m.length 1 (some 9) := by
   rw [appV_eq hx]
   obtain ⟨k, hk⟩ : ∃ k, m.length = k + 1 := ⟨m.length - 1, by omega⟩
   unfold appTo
   rw [hk, Nat.ble_eq_true_of_le (show (0 + (k + 1)) * 16 ≤ 140737488355328 by omega), Nat.ble_eq_true_of_le (show 0 + (k + 1) ≤ 9223372036854775807 by omega), Nat.zero_add]
   rfl
 have g : grow h [] (m.map sv) m.length 1 (some 9) = some (.slice (some ⟨h.next, 0, none⟩) m.length (opCap m.length 1), h.new (.op (m.map sv) 1 (some 9))) := rfl
 rw [g] at e
 have o1 := opCap_open m.length
 have o2 := opCap_size m.length
 generalize opCap m.length 1 = c at e o1 o2
 exact ⟨_, _, e, ⟨_, c, rfl, o1, o2, .new _ _⟩, .new _ _, fun b' hb' => by simp only [blk_some] at hb'; omega⟩
theorem app_g {n0 : Nat} {h : H} {v : Value} {l : List (List UInt8)} {p : List UInt8} (a : StrG h v l) (hn : n0 ≤ h.next) (hv : ∀ b, blk v b → n0 ≤ b) (h2 : l.length + 1 ≤ 1000000) :
   ∃ v' h', appendV 9 1 16 (h.new (.rw ([p].map sv) (some 9))) v (.slice (some ⟨h.next, 0, none⟩) [p].length [p].length) = some (v', h') ∧ StrOp h' v' (l ++ [p]) ∧ Keep (fun b => n0 ≤ b) h h' ∧ ∀ b', blk v' b' → n0 ≤ b' := by
 have hx : Strs (h.new (.rw ([p].map sv) (some 9))) (.slice (some ⟨h.next, 0, none⟩) [p].length [p].length) [p] := strs_lit (Has.new _ _) (by simp)
 have kn : Keep nobody h (h.new (.rw ([p].map sv) (some 9))) := .new _ _
 rcases a with ⟨rfl, rfl⟩ | a
 · obtain ⟨v', h', e, hs, k, hb⟩ := app_none hx (by simp) (by simp)
   refine ⟨v', h', e, hs, (kn.then k).mono fun _ _ => False.elim, fun b' hb' => ?_⟩
   have := hb b' hb'
   simp only [next_new] at this
   omega
 · obtain ⟨v', h', e, hs, k, hb⟩ := app_op (a.keep kn fun _ _ => id) hx (by simp) (by simpa using h2)
   refine ⟨v', h', e, hs, (kn.mono fun _ _ => False.elim).trans (k.mono fun b _ hb => hv b hb) fun _ _ h => h, fun b' hb' => ?_⟩
   have := hb b' hb'
   simp only [next_new] at this
   omega
theorem f122 : funcB Tryz.prog (maskOf masks) outside NG 122 = ⟨fun _ _ args h K => xK (xVal NG .idxByte h args) K⟩ := by kernel_rfl
theorem f102 : funcB Tryz.prog (maskOf masks) outside NG 102 = ⟨fun _ _ args h K => xK (xVal NG .count h args) K⟩ := by kernel_rfl
theorem idx102 (L n : Nat) (l : List UInt8) (h : H) : Sp (CF L (n + 1)) 122 [sv l, .int .u8 32] h fun r h' => r = .int .i64 (idxL 32 l 0) ∧ h' = h := fun K hK => by
 unfold CF
 rw [callF_succ, f122]
 exact hK (.int .i64 (idxL 32 l 0)) h ⟨rfl, rfl⟩
theorem cnt83 (L n : Nat) (l : List UInt8) (h : H) : Sp (CF L (n + 1)) 102 [sv l, .int .u8 32] h fun r h' => r = .int .i64 (Go.Ev.cntL 32 l 0 : Nat) ∧ h' = h := fun K hK => by
 unfold CF
 rw [callF_succ, f102]
 exact hK (.int .i64 (Go.Ev.cntL 32 l 0 : Nat)) h ⟨rfl, rfl⟩
theorem beq32 (x : UInt8) : Nat.beq x.toNat 32 = decide (x = 32) := by
 by_cases g : x = 32
 · subst g; rfl
 · rw [dF g, Bool.eq_false_iff]
   intro e; exact g (UInt8.toNat_inj.1 (Nat.eq_of_beq_eq_true e))
theorem idx_app : ∀ (q r : List UInt8) (k : Nat), (32 : UInt8) ∉ q → idxL 32 (q ++ 32 :: r) k = ((q.length + k : Nat) : Int)
 | [], r, k, _ => by
   show (match Nat.beq (32 : UInt8).toNat 32 with | true => Int.ofNat k | false => idxL 32 r (k + 1)) = _
   rw [beq32]; simp
 | x :: q, r, k, h => by
   simp only [List.mem_cons, not_or] at h
   have := idx_app q r (k + 1) h.2
   show (match Nat.beq x.toNat 32 with | true => Int.ofNat k | false => idxL 32 (q ++ 32 :: r) (k + 1)) = _
   rw [beq32, dF fun e => h.1 e.symm]
   show idxL 32 (q ++ 32 :: r) (k + 1) = _
   rw [this]; simp; omega
theorem cnt_eq : ∀ (l : List UInt8) (k : Nat), Go.Ev.cntL 32 l k + 1 = k + (cutS l).length
 | [], k => by simp [cutS, Go.Ev.cntL]
 | x :: r, k => by
   have e : Go.Ev.cntL 32 (x :: r) k = match Nat.beq x.toNat 32 with | true => Go.Ev.cntL 32 r (k + 1) | false => Go.Ev.cntL 32 r k := rfl
   rw [e, beq32, cutS_cons]
   by_cases g : x = 32
   · rw [dT g, if_pos g]
     have := cnt_eq r (k + 1)
     simp only [List.length_cons]; omega
   · rw [dF g, if_neg g]
     have := cnt_eq r k
     rcases hc : cutS r with _ | ⟨p, ps⟩
     · exact absurd hc (cutS_ne r)
     · rw [hc] at this; simpa using this
theorem idx92 (L n : Nat) (l : List UInt8) (h : H) : Sp (CF L (n + 2)) 110 [sv l, .int .u8 32] h fun r h' => r = .int .i64 (idxL 32 l 0) ∧ h' = h := by
 refine Sp.body f110 (by simp) ?_
 unfold c110
 refine C.seq fun K hK => ?_
 simp only [seval, EV, r110_0]
 refine hK .norm _ _ (C.seq fun K hK => ?_)
 simp only [seval, EV, r110_1]
 refine idx102 L n l h _ fun r h2 hr => ?_
 obtain ⟨rfl, rfl⟩ := hr
 refine hK _ _ _ (C.ret ⟨.inr rfl, _, rfl, ?_, rfl⟩)
 simp only [seval, EV, resOf]
theorem idx84 (L n : Nat) (l : List UInt8) (h : H) : Sp (CF L (n + 3)) 103 [sv l, sv [32]] h fun r h' => r = .int .i64 (idxL 32 l 0) ∧ h' = h := by
 refine Sp.body f103 (by simp) ?_
 unfold c103
 refine C.seq fun K hK => ?_
 simp only [seval, EV, r103_0]
 refine hK .norm _ _ (C.seq fun K hK => ?_)
 have e1 : lenStr (sv [32]) = some (.int .i64 1) := rfl
 have e2 : indexStr (sv [32]) (.int .i64 0) = some (.int .u8 32) := rfl
 simp only [seval, EV, r103_1, e1]
 refine hK .norm _ _ (C.seq (C.block (C.seq fun K hK => ?_)))
 have d0 : decide ((1 : Int) = 0) = false := rfl
 have d1 : decide ((1 : Int) = 1) = true := rfl
 by_cases g : [32] = l
 · simp only [seval, ↓opStep_eq, ↓EW, EV, r103_2, sv_eql, dT g]
   refine hK .norm _ _ (C.ct (C.seq fun K hK => ?_))
   simp only [r103_3]
   refine hK .norm _ _ (C.ret ⟨.inr rfl, _, rfl, ?_, rfl⟩)
   rw [← g]
   simp only [seval, EV, resOf]
   rfl
 simp only [seval, ↓opStep_eq, ↓EW, EV, r103_2, sv_eql, dF g]
 refine hK .norm _ _ (C.cf <| C.seq fun K hK => ?_)
 simp only [seval, EV, r103_4]
 refine hK .norm _ _ (C.ct (C.seq fun K hK => ?_))
 simp only [seval, EV, r103_5, e2]
 refine idx92 L n l h _ fun r h2 hr => ?_
 obtain ⟨rfl, rfl⟩ := hr
 refine hK _ _ _ (C.ret ⟨.inr rfl, _, rfl, ?_, rfl⟩)
 simp only [seval, EV, resOf]
theorem idx75 (L n : Nat) (l : List UInt8) (h : H) : Sp (CF L (n + 4)) 91 [sv l, sv [32]] h fun r h' => r = .int .i64 (idxL 32 l 0) ∧ h' = h := by
 refine Sp.body f91 (by simp) ?_
 unfold c91
 refine C.seq fun K hK => ?_
 simp only [seval, EV, r91_0]
 refine hK .norm _ _ (C.seq fun K hK => ?_)
 simp only [seval, EV, r91_1]
 refine idx84 L n l h _ fun r h2 hr => ?_
 obtain ⟨rfl, rfl⟩ := hr
 refine hK _ _ _ (C.ret ⟨.inr rfl, _, rfl, ?_, rfl⟩)
 simp only [seval, EV, resOf]
theorem cnt74 (L n : Nat) (l : List UInt8) (h : H) : Sp (CF L (n + 2)) 90 [sv l, sv [32]] h fun r h' => r = .int .i64 (Go.Ev.cntL 32 l 0 : Nat) ∧ h' = h := by
 refine Sp.body f90 (by simp) ?_
 unfold c90
 refine C.seq fun K hK => ?_
 simp only [seval, EV, r90_0]
 have e1 : lenStr (sv [32]) = some (.int .i64 1) := rfl
 have e2 : indexStr (sv [32]) (.int .i64 0) = some (.int .u8 32) := rfl
 have d0 : decide ((1 : Int) = 0) = false := rfl
 have d1 : decide ((1 : Int) = 1) = true := rfl
 refine hK .norm _ _ (C.seq (C.seq fun K hK => ?_))
 simp only [seval, EV, r90_1, e1]
 refine hK .norm _ _ (C.cf <| C.skip (C.seq (C.seq fun K hK => ?_)))
 simp only [seval, EV, r90_3, e1]
 refine hK .norm _ _ (C.ct (C.seq fun K hK => ?_))
 simp only [seval, EV, r90_4, e2]
 refine cnt83 L n l h _ fun r h2 hr => ?_
 obtain ⟨rfl, rfl⟩ := hr
 refine hK _ _ _ (C.ret ⟨.inr rfl, _, rfl, ?_, rfl⟩)
 simp only [seval, EV, resOf]
theorem repl_one (v : Value) : ∀ n, repl [v] n = List.replicate n v
 | 0 => rfl
 | n + 1 => by show [v] ++ repl [v] n = _; rw [repl_one v n]; rfl
theorem sv_cells (l : List UInt8) : (sv l).cells = #[sv l] := rfl
theorem putAt_row (ps : List (List UInt8)) (p : List UInt8) (k : Nat) : putAt (ps.map sv ++ List.replicate (k + 1) (.string (strB []))) ps.length [sv p] = some ((ps ++ [p]).map sv ++ List.replicate k (.string (strB []))) := by
 have e := putAt_app (ps.map sv) (List.replicate (k + 1) (Value.string (strB []))) 0 [sv p] (sv p :: List.replicate k (.string (strB []))) (by
   have e0 : ∀ k, putAt (List.replicate k (Value.string (strB []))) 0 ([] : List Value) = some (List.replicate k (Value.string (strB []))) := fun k => by cases k <;> rfl
   rw [List.replicate_succ]
   simp only [putAt, e0])
 simp only [List.length_map, Nat.add_zero] at e
 rw [e]; simp
theorem split_law (L n : Nat) {l : List UInt8} (hL : l.length + 1 < L) (hl : l.length < 1000) {h0 : H} :
   Sp (CF L (n + 6)) 48 [sv l, sv [32]] h0 fun r h' => Strs h' r (cutS l) ∧ Keep nobody h0 h' ∧ ∀ b, blk r b → h0.next ≤ b := by
 have h61 : Sp (CF L (n + 5)) 64 [sv l, sv [32], .int .i64 0, .int .i64 (-1)] h0 fun r h' => Strs h' r (cutS l) ∧ Keep nobody h0 h' ∧ ∀ b, blk r b → h0.next ≤ b := by
   refine Sp.body f64 (by simp) ?_
   unfold c64
   refine C.seq fun K hK => ?_
   simp only [seval, EV, r64_0]
   have e1 : lenStr (sv [32]) = some (.int .i64 1) := rfl
   have e3 : binV Tryz.prog .eql 9 true (sv [32]) (.string (strB [])) = some (.bool false) := rfl
   have d0 : decide ((-1 : Int) = 0) = false := rfl
   have d1 : decide ((-1 : Int) < 0) = true := rfl
   refine hK .norm _ _ (C.seq (C.seq fun K hK => ?_))
   simp only [seval, EV, r64_1]
   refine hK .norm _ _ (C.cf <| C.skip (C.seq (C.seq fun K hK => ?_)))
   simp only [seval, EV, r64_3, e3]
   refine hK .norm _ _ (C.cf <| C.skip (C.seq (C.seq fun K hK => ?_)))
   simp only [seval, EV, r64_5]
   refine hK .norm _ _ (C.ct (fun K hK => ?_))
   simp only [seval, EV, r64_6]
   refine cnt74 L (n + 2) l h0 _ fun r h2 hr => ?_
   obtain ⟨rfl, hh⟩ := hr
   rw [hh]
   clear hh
   have hc := cnt_eq l 0
   have hs := cutS_sum l
   generalize hN : (cutS l).length = N at hc hs
   have w : IntKind.i64.wrap (((Go.Ev.cntL 32 l 0 : Nat) : Int) + 1) = (N : Int) := by
     rw [show ((Go.Ev.cntL 32 l 0 : Nat) : Int) + 1 = (N : Int) by omega]; exact wrap_lt _ (by omega)
   have w2 : IntKind.i64.wrap ((l.length : Int) + 1) = ((l.length + 1 : Nat) : Int) := by
     rw [show (l.length : Int) + 1 = ((l.length + 1 : Nat) : Int) by omega]; exact wrap_lt _ (by omega)
   simp only [EV, w]
   refine hK _ _ _ (C.seq fun K hK => ?_)
   have mm : foldMM false [Value.int .i64 (N : Int), .int .i64 ((l.length + 1 : Nat) : Int)] = some (.int .i64 (N : Int)) := by
     have : iLt ((l.length + 1 : Nat) : Int) (N : Int) = false := by
       rw [iLt_eq, dF (by omega)]
     simp only [foldMM, mmI, this]
   simp only [seval, EV, r64_7, sv_len, w2, mm]
   refine hK .norm _ _ (C.seq fun K hK => ?_)
   have mk : ∀ b, mkSlice 9 [(.string (strB []))] 16 b (.int .i64 (N : Int)) (.int .i64 (N : Int)) = some (.rw (List.replicate N (.string (strB []))) (some 9), .slice (some ⟨b, 0, none⟩) N N) := fun b => by
     simp only [mkSlice, asNat_nat]
     rw [Nat.ble_eq_true_of_le (Nat.le_refl N), Nat.ble_eq_true_of_le (show 16 * N ≤ 281474976710656 by omega), Nat.ble_eq_true_of_le (show N ≤ 9223372036854775807 by omega), repl_one]
     rfl
   simp only [seval, EV, r64_8, mk]
   refine hK .norm _ _ (C.seq fun K hK => ?_)
   have hpos : 0 < N := by omega
   have w3 : IntKind.i64.wrap ((N : Int) - 1) = ((N - 1 : Nat) : Int) := by
     rw [show (N : Int) - 1 = ((N - 1 : Nat) : Int) by omega]; exact wrap_lt _ (by omega)
   simp only [seval, EV, r64_9, w3]
   refine hK .norm _ _ (C.seq fun K hK => ?_)
   simp only [r64_10]
   refine hK .norm _ _ (C.seq (C.block ?_))
   have key : ∀ (tm : T Value), tg tm 0 = sv l → tg tm 1 = sv [32] → tg tm 2 = .int .i64 0 → tg tm 3 = .int .i64 ((N - 1 : Nat) : Int) → tg tm 9 = .slice (some ⟨h0.next, 0, none⟩) N N → tg tm 10 = .int .i64 0 →
       C (loopB l64_17) (CF L (n + 4)) L tm (h0.new (.rw (List.replicate N (.string (strB []))) (some 9))) fun e tm' h' => e = .exit 0 ∧ ∃ (ps : List (List UInt8)) (q : List UInt8), cutS l = ps ++ [q] ∧ tg tm' 0 = sv q ∧ tg tm' 9 = .slice (some ⟨h0.next, 0, none⟩) N N ∧ tg tm' 10 = .int .i64 (ps.length : Int) ∧ Has h' h0.next (.rw (ps.map sv ++ List.replicate 1 (.string (strB []))) (some 9)) ∧ Keep nobody h0 h' := fun tm t0 t1 t2 t3 t9 t10 => by
     refine C.loop (L := L) (fun k tm h' => ∃ (ps : List (List UInt8)) (s : List UInt8), k = N - ps.length ∧ ps.length < N ∧ cutS l = ps ++ cutS s ∧ s.length ≤ l.length ∧ tg tm 0 = sv s ∧ tg tm 1 = sv [32] ∧ tg tm 2 = .int .i64 0 ∧ tg tm 3 = .int .i64 ((N - 1 : Nat) : Int) ∧ tg tm 9 = .slice (some ⟨h0.next, 0, none⟩) N N ∧ tg tm 10 = .int .i64 (ps.length : Int) ∧ Has h' h0.next (.rw (ps.map sv ++ List.replicate (N - ps.length) (.string (strB []))) (some 9)) ∧ Keep nobody h0 h') N (by omega)
       ⟨[], l, rfl, hpos, rfl, Nat.le_refl _, t0, t1, t2, t3, t9, t10, Has.new _ _, Keep.new _ _⟩ ?_
     rintro k tm h' ⟨ps, s, rfl, hps, hcut, hsl, t0, t1, t2, t3, t9, t10, hb, hk⟩
     refine C.seq (C.seq fun K hK => ?_)
     have hlen : N = ps.length + (cutS s).length := by rw [← hN, hcut, List.length_append]
     by_cases g : ps.length < N - 1
     · have g' : (ps.length : Int) < ((N - 1 : Nat) : Int) := by omega
       simp only [EV, r64_11, t3, t10, dT g']
       refine hK _ _ _ (C.ct (C.skip (C.block (C.seq fun K hK => ?_))))
       simp only [seval, EV, r64_12, t0, t1]
       refine idx75 L n s h' _ fun r h2 hr => ?_
       obtain ⟨rfl, rfl⟩ := hr
       rcases split32 s with hno | ⟨q, r, rfl, hq⟩
       · have := cutS_one s hno
         rw [this] at hlen; simp at hlen; omega
       have hi := idx_app q r 0 hq
       rw [Nat.add_zero] at hi
       rw [hi]
       simp only [List.length_append, List.length_cons] at hsl
       refine hK _ _ _ (C.seq (C.seq fun K hK => ?_))
       have gq : ¬ (q.length : Int) < 0 := by omega
       simp only [seval, EV, r64_13, dF gq]
       refine hK _ _ _ (C.cf <| C.skip (C.seq fun K hK => ?_))
       have wq : IntKind.i64.wrap ((q.length : Int) + 0) = (q.length : Int) := by rw [Int.add_zero]; exact wrap_lt _ (by omega)
       have wq1 : IntKind.i64.wrap ((q.length : Int) + 1) = ((q.length + 1 : Nat) : Int) := by
         rw [show (q.length : Int) + 1 = ((q.length + 1 : Nat) : Int) by omega]; exact wrap_lt _ (by omega)
       have wp : IntKind.i64.wrap ((ps.length : Int) + 1) = ((ps.length + 1 : Nat) : Int) := by
         rw [show (ps.length : Int) + 1 = ((ps.length + 1 : Nat) : Int) by omega]; exact wrap_lt _ (by omega)
       have sl : sliceStr (sv (q ++ 32 :: r)) none (some (.int .i64 (q.length : Int))) none = some (sv q) := by
         rw [sv_mid (k := 0) (n := q.length) (.inl ⟨rfl, rfl⟩) (Nat.zero_le _) (by simp)]
         simp
       have sr : sliceStr (sv (q ++ 32 :: r)) (some (.int .i64 ((q.length + 1 : Nat) : Int))) none none = some (sv r) := by
         rw [sv_from (k := q.length + 1) (by simp)]
         rw [show q ++ 32 :: r = (q ++ [32]) ++ r by simp, show q.length + 1 = (q ++ [32]).length by simp, List.drop_left]
       have ix : indexSl 1 (.slice (some ⟨h0.next, 0, none⟩) N N) (.int .i64 (ps.length : Int)) = some (.pointer (some ⟨h0.next, ps.length, none⟩)) := by
         simp only [indexSl, asNat_nat, addOff]
         rw [Nat.ble_eq_true_of_le (show ps.length + 1 ≤ N by omega)]
         simp
       have st := store_one (s := none) (v := sv q) hb (sv_cells q) rfl (by
         rw [show N - ps.length = (N - ps.length - 1) + 1 by omega]
         exact putAt_row ps q _)
       simp only [seval, EV, r64_14, t0, t2, t9, t10, wq, sl, ix, st]
       refine hK _ _ _ (C.seq fun K hK => ?_)
       simp only [seval, EV, r64_15, t0, t1, e1, wq1, sr]
       refine hK _ _ _ fun K hK => ?_
       simp only [seval, EV, r64_16, t10, wp]
       refine hK _ _ _ ⟨N - (ps ++ [q]).length, by simp; omega, ps ++ [q], r, rfl, by simp; omega, ?_, by omega, by simp only [seval, EV], by simp only [seval, EV, t1], by simp only [seval, EV, t2], by simp only [seval, EV, t3], by simp only [seval, EV, t9], by simp only [seval, EV, List.length_append, List.length_cons, List.length_nil], ?_, ?_⟩
       · rw [hcut, cutS_app q r hq]; simp
       · have e : N - (ps ++ [q]).length = N - ps.length - 1 := by simp; omega
         rw [e]
         exact Has.put hb.1
       · refine ⟨hk.next, fun b hbb hn => ?_⟩
         rw [← hk.same b hbb hn]
         show (T.set _ _ _).get b = _
         rw [T.get_set, if_neg (by omega)]
     · have g' : ¬ (ps.length : Int) < ((N - 1 : Nat) : Int) := by omega
       have h1 : (cutS s).length = 1 := by
         have := cutS_ne s
         have : (cutS s).length ≠ 0 := fun e => this (List.length_eq_zero_iff.1 e)
         omega
       have hs1 : cutS s = [s] := by
         rcases split32 s with hno | ⟨q, r, rfl, hq⟩
         · exact cutS_one s hno
         · rw [cutS_app q r hq] at h1
           have := cutS_ne r
           simp at h1
           exact absurd h1 this
       simp only [EV, r64_11, t3, t10, dF g']
       refine hK _ _ _ (C.cf <| C.exit ⟨rfl, ps, s, by rw [hcut, hs1], by simp only [seval, EV, t0], by simp only [seval, EV, t9], by simp only [seval, EV, t10], ?_, hk⟩)
       rw [show N - ps.length = 1 by omega] at hb
       exact hb
   refine (key _ (by simp only [seval, EV]) (by simp only [seval, EV]) (by simp only [seval, EV]) (by simp only [seval, EV]) (by simp only [seval, EV]) (by simp only [seval, EV])).mono ?_
   rintro e tm' h' ⟨rfl, ps, q, hcut, t0, t9, t10, hb, hk⟩
   show if 0 = 0 then _ else _
   rw [if_pos rfl]
   have hNp : N = ps.length + 1 := by rw [← hN, hcut, List.length_append]; rfl
   refine C.seq fun K hK => ?_
   have ix : indexSl 1 (.slice (some ⟨h0.next, 0, none⟩) N N) (.int .i64 (ps.length : Int)) = some (.pointer (some ⟨h0.next, ps.length, none⟩)) := by
     simp only [indexSl, asNat_nat, addOff]
     rw [Nat.ble_eq_true_of_le (show ps.length + 1 ≤ N by omega)]
     simp
   have st := store_one (s := none) (v := sv q) hb (sv_cells q) rfl (putAt_row ps q 0)
   simp only [EV, r64_17, t0, t9, t10, ix, st]
   refine hK _ _ _ (C.seq fun K hK => ?_)
   have wp : IntKind.i64.wrap ((ps.length : Int) + 1) = ((ps.length + 1 : Nat) : Int) := by
     rw [show (ps.length : Int) + 1 = ((ps.length + 1 : Nat) : Int) by omega]; exact wrap_lt _ (by omega)
   have hO : Nat.ble OPEN N = false := by
     rw [Bool.eq_false_iff]; intro e; have := Nat.le_of_ble_eq_true e; unfold OPEN at this; omega
   have ssl : sliceSl 1 (.slice (some ⟨h0.next, 0, none⟩) N N) none (some (.int .i64 ((ps.length + 1 : Nat) : Int))) none = some (.slice (some ⟨h0.next, 0, none⟩) N N) := by
     have e : bnds none (some (.int .i64 ((ps.length + 1 : Nat) : Int))) none N N = some (0, N, N) := by
       rw [← hNp]
       simp only [bnds, bnd_none, bnd_some .i64 N _ _ (Nat.le_refl N)]
     have e0 : Nat.beq N 0 = false := by rw [Bool.eq_false_iff]; intro e; have := Nat.eq_of_beq_eq_true e; omega
     simp only [sliceSl, hO, e, e0, addOff]
     simp
   simp only [EV, r64_18, t9, t10, wp, ssl]
   refine hK _ _ _ (C.ret ⟨.inr rfl, _, rfl, ?_, ?_, ?_⟩)
   · simp only [seval, EV, resOf]
     rw [hcut, hNp]
     have hl' : (ps ++ [q]).length = ps.length + 1 := by simp
     rw [← hl']
     refine strs_lit (ty := some 9) ?_ (by rw [hl', ← hNp]; omega)
     have := Has.put (h := h') (x := .rw ((ps ++ [q]).map sv ++ List.replicate 0 (.string (strB []))) (some 9)) hb.1
     simpa using this
   · refine ⟨hk.next, fun b hbb hn => ?_⟩
     rw [← hk.same b hbb hn]
     show (T.set _ _ _).get b = _
     rw [T.get_set, if_neg (by omega)]
   · simp only [seval, EV, resOf, blk_some]
     rintro b rfl
     exact Nat.le_refl _
 refine Sp.body f48 (by simp) ?_
 unfold c48
 refine C.seq fun K hK => ?_
 simp only [seval, EV, r48_0]
 refine hK .norm _ _ (C.seq fun K hK => ?_)
 simp only [seval, EV, r48_1]
 refine h61 _ fun r h2 hr => ?_
 refine hK _ _ _ (C.ret ⟨.inr rfl, _, rfl, ?_⟩)
 simp only [seval, EV, resOf]
 exact hr
def dig (b : UInt8) : Bool := decide (48 ≤ b.toNat) && decide (b.toNat ≤ 57)
def valN : List UInt8 → Nat → Nat
 | [], a => a
 | x :: r, a => valN r (10 * a + (x.toNat - 48))
theorem valN_app : ∀ (p q : List UInt8) (a : Nat), valN (p ++ q) a = valN q (valN p a)
 | [], q, a => rfl
 | x :: p, q, a => valN_app p q _
theorem valN_le : ∀ (q : List UInt8) (a : Nat), a ≤ valN q a
 | [], a => Nat.le_refl _
 | x :: r, a => Nat.le_trans (by omega) (valN_le r (10 * a + (x.toNat - 48)))
theorem valN_take {l : List UInt8} {i : Nat} {c : UInt8} (h : l[i]? = some c) : valN (l.take (i + 1)) 0 = 10 * valN (l.take i) 0 + (c.toNat - 48) := by
 rw [List.take_add_one, h, valN_app]; rfl
theorem valN_part (l : List UInt8) (i : Nat) : valN (l.take i) 0 ≤ valN l 0 := by
 conv => rhs; rw [← List.take_append_drop i l, valN_app]
 exact valN_le _ _
def shapeN (l : List UInt8) : Bool := !(decide (l.length < 1) || decide (20 < l.length) || (decide (l[0]? = some 48) && decide (1 < l.length)))
def numN (l : List UInt8) : Option Nat := if shapeN l = true ∧ l.all dig = true ∧ valN l 0 < 18446744073709551616 then some (valN l 0) else none
theorem numN_lt {l : List UInt8} {n : Nat} (h : numN l = some n) : n < 18446744073709551616 := by
 unfold numN at h
 split at h
 · rename_i g; cases h; exact g.2.2
 · cases h
theorem numN_bad {l : List UInt8} (h : ¬ (shapeN l = true ∧ l.all dig = true ∧ valN l 0 < 18446744073709551616)) : numN l = none := if_neg h
theorem numN_good {l : List UInt8} (h : shapeN l = true ∧ l.all dig = true ∧ valN l 0 < 18446744073709551616) : numN l = some (valN l 0) := if_pos h
theorem shape_pos {l : List UInt8} (h : shapeN l = true) : 1 ≤ l.length ∧ l.length ≤ 20 := by
 unfold shapeN at h
 by_cases g1 : l.length < 1
 · rw [dT g1] at h; simp at h
 · by_cases g2 : 20 < l.length
   · rw [dT g2] at h; simp at h
   · omega
theorem eql_48 (t : TypeId) (c : Bool) (x : UInt8) : binV Tryz.prog .eql t c (bv x) (.int .u8 48) = some (.bool (decide (x = 48))) := eql_u8 t c x 48
theorem dig_of {c : UInt8} (h : dig c = true) : 48 ≤ c.toNat ∧ c.toNat ≤ 57 := by
 unfold dig at h
 simpa using h
end Go.Proofs.YtilpiiafjehbnaaGreatDoor
