import Derived.Test.YtbdmhdidehfmoaaDoorTbS
set_option linter.unusedSimpArgs false
set_option linter.unusedVariables false
namespace Go.Proofs.YtbdmhdidehfmoaaDoor
open Go.Ev

/-! ### a row of names that is sorted -/
abbrev Nm := Int × ByteArray
abbrev Nm.v (x : Nm) : Value := .agg [.int .i64 x.1, .string x.2].toArray

/-- a row of names in memory -/
structure Arr (h : H) (B : Nat) (v : Value) (n : Nat) (f : Nat → Nm) : Prop where
  ex : ∃ cap cs e, v = .slice (some ⟨B, 0, none⟩) n cap ∧ Has h B (.op cs e) ∧ 2 * n ≤ cs.length ∧ ∀ k, k < n → cs[2 * k]? = some (.int .i64 (f k).1) ∧ cs[2 * k + 1]? = some (.string (f k).2)

def updF (f : Nat → Nm) (i : Nat) (x : Nm) : Nat → Nm := fun k => if k = i then x else f k
def swF (f : Nat → Nm) (i j : Nat) : Nat → Nm := fun k => if k = i then f j else if k = j then f i else f k
theorem upd_swap (f : Nat → Nm) (i j : Nat) : updF (updF f i (f j)) j (f i) = swF f i j := by
  funext k
  unfold updF swF
  by_cases h1 : k = i
  · by_cases h2 : k = j
    · subst h1; subst h2; simp
    · simp [h1, h2]
      intro e; subst e; exact absurd h1 h2
  · simp [h1]

theorem Arr.len {h : H} {B : Nat} {v : Value} {n : Nat} {f : Nat → Nm} (a : Arr h B v n f) : lenSl v = some (.int .i64 (n : Int)) := by
  obtain ⟨cap, cs, e, rfl, _⟩ := a.ex; rfl
theorem Arr.keep {S : Nat → Prop} {h h' : H} {B : Nat} {v : Value} {n : Nat} {f : Nat → Nm} (a : Arr h B v n f) (k : Keep S h h') (hn : ¬ S B) : Arr h' B v n f := by
  obtain ⟨cap, cs, e, h1, hb, r⟩ := a.ex
  exact ⟨cap, cs, e, h1, hb.keep k hn, r⟩
theorem Arr.keep0 {h h' : H} {B : Nat} {v : Value} {n : Nat} {f : Nat → Nm} (a : Arr h B v n f) (k : Keep nobody h h') : Arr h' B v n f := a.keep k id
theorem Arr.lt {h : H} {B : Nat} {v : Value} {n : Nat} {f : Nat → Nm} (a : Arr h B v n f) : B < h.next := by
  obtain ⟨cap, cs, e, h1, hb, r⟩ := a.ex
  exact hb.1
theorem Arr.ix {h : H} {B : Nat} {v : Value} {n : Nat} {f : Nat → Nm} (a : Arr h B v n f) {i : Nat} (hi : i < n) : indexSl 2 v (.int .i64 (i : Int)) = some (.pointer (some ⟨B, i * 2, none⟩)) := by
  obtain ⟨cap, cs, e, rfl, _⟩ := a.ex
  simp only [indexSl, asNat_nat, addOff]
  rw [Nat.ble_eq_true_of_le hi]
  simp only [Nat.zero_add]
theorem Arr.ld {h : H} {B : Nat} {v : Value} {n : Nat} {f : Nat → Nm} (a : Arr h B v n f) {i : Nat} (hi : i < n) (s) : loadAgg 2 h (.pointer (some ⟨B, i * 2, s⟩)) = some (f i).v := by
  obtain ⟨cap, cs, e, rfl, hb, hl, hc⟩ := a.ex
  obtain ⟨h1, h2⟩ := hc i hi
  rw [loadAgg_has hb rfl (by omega)]
  have : (cs.drop (i * 2)).take 2 = [.int .i64 (f i).1, .string (f i).2] := by
    rw [show i * 2 = 2 * i by omega]
    have g1 := (List.getElem?_eq_some_iff.1 h1)
    have g2 := (List.getElem?_eq_some_iff.1 h2)
    obtain ⟨l1, e1⟩ := g1
    obtain ⟨l2, e2⟩ := g2
    rw [List.drop_eq_getElem_cons l1, List.drop_eq_getElem_cons l2, e1, e2]
    rfl
  rw [this]
theorem putAt_two {α : Type} (l : List α) (i : Nat) (x y : α) (h : i + 2 ≤ l.length) : putAt l i [x, y] = some ((l.set i x).set (i + 1) y) := by
  rw [putAt_at l i [x, y] h]
  congr 1
  apply List.ext_getElem?
  intro k
  by_cases h1 : k < i
  · rw [List.append_assoc, List.getElem?_append_left (by simp; omega), List.getElem?_take, if_pos h1, List.getElem?_set_ne (by omega), List.getElem?_set_ne (by omega)]
  · by_cases h2 : k = i
    · subst h2
      rw [List.append_assoc, List.getElem?_append_right (by simp; omega), List.length_take, Nat.min_eq_left (by omega), Nat.sub_self, List.getElem?_set_ne (by omega), List.getElem?_set_self (by omega)]
      rfl
    · by_cases h3 : k = i + 1
      · subst h3
        rw [List.append_assoc, List.getElem?_append_right (by simp; omega), List.length_take, Nat.min_eq_left (by omega), List.getElem?_set_self (by simp; omega), show i + 1 - i = 1 by omega]
        rfl
      · rw [List.getElem?_append_right (by simp; omega), List.getElem?_drop, List.getElem?_set_ne (by omega), List.getElem?_set_ne (by omega)]
        congr 1
        simp; omega
theorem Arr.st {h : H} {B : Nat} {v : Value} {n : Nat} {f : Nat → Nm} (a : Arr h B v n f) {i : Nat} (hi : i < n) (x : Nm) : ∃ h', (∀ s, storeV 2 h (.pointer (some ⟨B, i * 2, s⟩)) x.v = some h') ∧ Arr h' B v n (updF f i x) ∧ Keep (· = B) h h' ∧ h'.next = h.next := by
  obtain ⟨cap, cs, e, rfl, hb, hl, hc⟩ := a.ex
  refine ⟨h.put B (.op ((cs.set (i * 2) (.int .i64 x.1)).set (i * 2 + 1) (.string x.2)) e), fun s => ?_, ⟨cap, _, e, rfl, Has.put hb.1, by simpa using hl, fun k hk => ?_⟩, Keep.put _ _ _, rfl⟩
  · unfold storeV
    have e1 : x.v.cells.toList = [.int .i64 x.1, .string x.2] := by simp [Nm.v]
    have e2 : x.v.cells.size = 2 := by simp [Nm.v]
    simp only [e1, e2, Nat.beq_refl, H.write, hb.2]
    have e3 : ones [Value.int .i64 x.1, .string x.2] = true := rfl
    rw [e3, putAt_two cs _ _ _ (by omega)]
  · obtain ⟨h1, h2⟩ := hc k hk
    unfold updF
    by_cases hki : k = i
    · subst hki
      rw [if_pos rfl, show k * 2 = 2 * k by omega]
      refine ⟨?_, ?_⟩
      · rw [List.getElem?_set_ne (by omega), List.getElem?_set_self (by omega)]
      · rw [List.getElem?_set_self (by simp; omega)]
    · rw [if_neg hki]
      refine ⟨?_, ?_⟩
      · rw [List.getElem?_set_ne (by omega), List.getElem?_set_ne (by omega)]; exact h1
      · rw [List.getElem?_set_ne (by omega), List.getElem?_set_ne (by omega)]; exact h2

/-! ### swaps -/
inductive Sw (a b : Nat) : (Nat → Nm) → (Nat → Nm) → Prop where
  | refl (f : Nat → Nm) : Sw a b f f
  | step {f f' : Nat → Nm} (i j : Nat) : Sw a b f f' → a ≤ i → i < b → a ≤ j → j < b → Sw a b f (swF f' i j)
theorem swF_at {f : Nat → Nm} (i j : Nat) : swF f i j i = f j := by simp [swF]
theorem swF_at' {f : Nat → Nm} (i j : Nat) : swF f i j j = f i := by
  unfold swF
  by_cases h : j = i
  · subst h; simp
  · simp [h]
theorem swF_ne {f : Nat → Nm} {i j k : Nat} (h1 : k ≠ i) (h2 : k ≠ j) : swF f i j k = f k := by simp [swF, h1, h2]
theorem swF_swF (f : Nat → Nm) (i j : Nat) : swF (swF f i j) i j = f := by
  funext k
  by_cases h1 : k = i
  · subst h1; rw [swF_at, swF_at']
  · by_cases h2 : k = j
    · subst h2; rw [swF_at', swF_at]
    · rw [swF_ne h1 h2, swF_ne h1 h2]
def sg (i j k : Nat) : Nat := if k = i then j else if k = j then i else k
theorem swF_eq (f : Nat → Nm) (i j k : Nat) : swF f i j k = f (sg i j k) := by
  unfold swF sg
  split
  · rfl
  · split <;> rfl
theorem sg_inj {i j p q : Nat} (h : sg i j p = sg i j q) : p = q := by
  unfold sg at h
  split at h <;> split at h <;> (try split at h) <;> (try split at h) <;> omega
section
variable {a b : Nat} {f f' f'' : Nat → Nm}
theorem Sw.one (f : Nat → Nm) {i j : Nat} (h1 : a ≤ i) (h2 : i < b) (h3 : a ≤ j) (h4 : j < b) : Sw a b f (swF f i j) := .step i j (.refl f) h1 h2 h3 h4
theorem Sw.trans (s : Sw a b f f') (t : Sw a b f' f'') : Sw a b f f'' := by
  induction t with
  | refl => exact s
  | step i j _ h1 h2 h3 h4 ih => exact .step i j ih h1 h2 h3 h4
theorem Sw.symm (s : Sw a b f f') : Sw a b f' f := by
  induction s with
  | refl => exact .refl _
  | @step f'' i j s' h1 h2 h3 h4 ih =>
    refine Sw.trans ?_ ih
    have := Sw.one (a := a) (b := b) (swF f'' i j) h1 h2 h3 h4
    rw [swF_swF] at this
    exact this
theorem Sw.mono {a' b' : Nat} (s : Sw a b f f') (h1 : a' ≤ a) (h2 : b ≤ b') : Sw a' b' f f' := by
  induction s with
  | refl => exact .refl _
  | step i j _ g1 g2 g3 g4 ih => exact .step i j ih (by omega) (by omega) (by omega) (by omega)
theorem Sw.out (s : Sw a b f f') {k : Nat} (h : k < a ∨ b ≤ k) : f' k = f k := by
  induction s with
  | refl => rfl
  | step i j _ g1 g2 g3 g4 ih => rw [swF_ne (by omega) (by omega)]; exact ih
theorem Sw.all (s : Sw a b f f') (P : Nm → Prop) (h : ∀ k, a ≤ k → k < b → P (f k)) : ∀ k, a ≤ k → k < b → P (f' k) := by
  induction s with
  | refl => exact h
  | @step f' i j _ g1 g2 g3 g4 ih =>
    intro k k1 k2
    unfold swF
    split
    · exact ih j g3 g4
    · split
      · exact ih i g1 g2
      · exact ih k k1 k2
def Inj (f : Nat → Nm) (n : Nat) : Prop := ∀ i j, i < n → j < n → f i = f j → i = j
theorem Sw.inj {n : Nat} (s : Sw a b f f') (hb : b ≤ n) (h : Inj f n) : Inj f' n := by
  induction s with
  | refl => exact h
  | @step f' i j _ g1 g2 g3 g4 ih =>
    intro p q hp hq he
    rw [swF_eq, swF_eq] at he
    have hs : ∀ k, k < n → sg i j k < n := fun k hk => by
      unfold sg
      split
      · omega
      · split <;> omega
    exact sg_inj (i := i) (j := j) (ih _ _ (hs p hp) (hs q hq) he)
end
end Go.Proofs.YtbdmhdidehfmoaaDoor

namespace Go.Proofs.YtbdmhdidehfmoaaDoor
open Go.Ev

theorem wadd (i k : Nat) (h : i + k ≤ 100000000) : IntKind.i64.wrap ((i : Int) + (k : Int)) = ((i + k : Nat) : Int) := by
  rw [show (i : Int) + (k : Int) = ((i + k : Nat) : Int) by omega, wrap_i64 _ (by omega)]
theorem wadd1 (i : Nat) (h : i ≤ 100000000) : IntKind.i64.wrap ((i : Int) + 1) = ((i + 1 : Nat) : Int) := by
  rw [show (i : Int) + 1 = ((i + 1 : Nat) : Int) by omega, wrap_i64 _ (by omega)]
theorem wsub (i k : Nat) (h : k ≤ i) (h2 : i ≤ 100000000) : IntKind.i64.wrap ((i : Int) - (k : Int)) = ((i - k : Nat) : Int) := by
  rw [show (i : Int) - (k : Int) = ((i - k : Nat) : Int) by omega, wrap_i64 _ (by omega)]
theorem wsub1 (i : Nat) (h : 1 ≤ i) (h2 : i ≤ 100000000) : IntKind.i64.wrap ((i : Int) - 1) = ((i - 1 : Nat) : Int) := by
  rw [show (i : Int) - 1 = ((i - 1 : Nat) : Int) by omega, wrap_i64 _ (by omega)]

theorem Arr.swap {h : H} {B : Nat} {v : Value} {n : Nat} {f : Nat → Nm} (a : Arr h B v n f) {p q : Nat} (hp : p < n) (hq : q < n) :
    ∃ h1 h2, (∀ s, storeV 2 h (.pointer (some ⟨B, q * 2, s⟩)) (f p).v = some h1) ∧ (∀ s, storeV 2 h1 (.pointer (some ⟨B, p * 2, s⟩)) (f q).v = some h2) ∧ Arr h2 B v n (swF f q p) ∧ Keep (· = B) h h2 := by
  obtain ⟨h1, e1, a1, k1, _⟩ := a.st hq (f p)
  obtain ⟨h2, e2, a2, k2, _⟩ := a1.st hp (f q)
  rw [upd_swap] at a2
  exact ⟨h1, h2, e1, e2, a2, k1.trans k2 fun _ _ h => h⟩

/-- the order that a row is sorted by -/
structure Cm (L B : Nat) (cv : Value) (lt : Nm → Nm → Prop) (Ok : H → Prop) : Prop where
  stay : ∀ h h', Keep (· = B) h h' → Ok h → Ok h'
  run : ∃ g caps, (∀ a b, funcArgs cv [a, b] = some (g, a :: b :: caps)) ∧ ∀ n x y hx, Ok hx → Sp (CF L (n + 4)) g (Nm.v x :: Nm.v y :: caps) hx fun r h' => ∃ c : Int, r = .int .i64 c ∧ (c < 0 ↔ lt x y) ∧ Keep nobody hx h'
  irr : ∀ x, ¬ lt x x
  tr : ∀ x y z, lt x y → lt y z → lt x z
  tot : ∀ x y, x ≠ y → lt x y ∨ lt y x
section
variable {L B : Nat} {cv : Value} {lt : Nm → Nm → Prop} {Ok : H → Prop}
theorem Cm.stay0 (cm : Cm L B cv lt Ok) {h h' : H} (k : Keep nobody h h') (ok : Ok h) : Ok h' := cm.stay h h' (k.mono fun _ _ h => h.elim) ok
theorem Cm.go (cm : Cm L B cv lt Ok) {n : Nat} {x y : Nm} {hx : H} (ok : Ok hx) {K : OpK} (hK : ∀ c h', (c < 0 ↔ lt x y) → Keep nobody hx h' → K (.int .i64 c) [] h' = true) : goCall (CF L (n + 4)) (funcArgs cv [x.v, y.v]) [] hx K = true := by
  obtain ⟨g, caps, e, r⟩ := cm.run
  rw [e]
  exact r n x y hx ok (fun v h => K v [] h) fun r h' ⟨c, e1, e2, e3⟩ => by subst e1; exact hK c h' e2 e3
theorem Cm.nlt (cm : Cm L B cv lt Ok) {x y : Nm} (h : ¬ lt x y) (hne : x ≠ y) : lt y x := (cm.tot x y hne).resolve_left h
end

def Sorted (lt : Nm → Nm → Prop) (f : Nat → Nm) (a b : Nat) : Prop := ∀ p q, a ≤ p → p < q → q < b → lt (f p) (f q)

/-! ### insertionSort -/
section
variable {L B : Nat} {cv : Value} {lt : Nm → Nm → Prop} {Ok : H → Prop}

theorem r46_4_go (cm : Cm L B cv lt Ok) {m a j N : Nat} {v : Value} {f : Nat → Nm} {tm : T Value} {h : H} {K : KE} (ok : Ok h) (arr : Arr h B v N f) (hj : j < N) (hN : N ≤ 1000000) (haj : a ≤ j) (t0 : tg tm 0 = v) (t1 : tg tm 1 = .int .i64 (a : Int)) (t3 : tg tm 3 = cv) (t9 : tg tm 9 = .int .i64 (j : Int)) (hK : ∀ d h', Keep nobody h h' → (d = true ↔ (a < j ∧ lt (f j) (f (j - 1)))) → K .norm (T.set tm 34 (.bool d)) [] h' = true) :
    r46_4 (CF L (m + 4)) L tm [] h K = true := by
  have kr := keep_room h 17
  have ar := arr.keep0 kr
  by_cases g : a < j
  · have gI : (a : Int) < (j : Int) := by omega
    have w := wsub1 j (by omega) (by omega)
    simp only [↓opStep_eq, ↓reduceIte, ↓EW, EV, Nat.reduceAdd, Nat.reduceEqDiff, Int.reduceEq, Int.reduceLT, Int.reduceLE, Int.reduceNe, seqC, retC, skipC, exitC, blockC, condC, r46_4, ite2, t0, t1, t3, t9, gI, w, ar.ix hj, ar.ix (show j - 1 < N by omega), ar.ld hj, ar.ld (show j - 1 < N by omega)]
    refine cm.go (cm.stay0 kr ok) fun c h' hc k => ?_
    simp only [↓opStep_eq, ↓reduceIte, ↓EW, EV, Nat.reduceAdd, Nat.reduceEqDiff, Int.reduceEq, Int.reduceLT, Int.reduceLE, Int.reduceNe, seqC, retC, skipC, exitC, blockC, condC]
    refine hK _ _ (kr.then k) ?_
    rw [decide_eq_true_eq, hc]
    exact ⟨fun h => ⟨g, h⟩, fun h => h.2⟩
  · have gI : ¬ (a : Int) < (j : Int) := by omega
    simp only [↓opStep_eq, ↓reduceIte, ↓EW, EV, Nat.reduceAdd, Nat.reduceEqDiff, Int.reduceEq, Int.reduceLT, Int.reduceLE, Int.reduceNe, seqC, retC, skipC, exitC, blockC, condC, r46_4, ite2, t1, t9, gI]
    exact hK false _ kr ⟨fun h => (by cases h), fun h => absurd h.1 g⟩

theorem insertion_law (cm : Cm L B cv lt Ok) {m a b N : Nat} {v : Value} {f : Nat → Nm} {h : H} (ok : Ok h) (arr : Arr h B v N f) (inj : Inj f N) (hb : b ≤ N) (hN : N ≤ 1000000) (hL : N < L) (hab : a ≤ b) :
    Sp (CF L (m + 5)) 46 [v, .int .i64 (a : Int), .int .i64 (b : Int), cv] h fun r h' => ∃ f', Arr h' B v N f' ∧ Sw a b f f' ∧ Sorted lt f' a b ∧ Keep (· = B) h h' := by
  refine Sp.body f46 (by simp) ?_
  unfold c46
  refine C.seq fun K hK => ?_
  simp only [↓opStep_eq, ↓reduceIte, ↓EW, EV, Nat.reduceAdd, Nat.reduceEqDiff, Int.reduceEq, Int.reduceLT, Int.reduceLE, Int.reduceNe, seqC, retC, skipC, exitC, blockC, condC, r46_0, wadd1 a (by omega)]
  refine hK .norm _ _ ?_
  refine C.block (C.loop (fun k tm' hx => ∃ i f', k = b - i ∧ a + 1 ≤ i ∧ tg tm' 0 = v ∧ tg tm' 1 = .int .i64 (a : Int) ∧ tg tm' 2 = .int .i64 (b : Int) ∧ tg tm' 3 = cv ∧ tg tm' 8 = .int .i64 (i : Int) ∧ Arr hx B v N f' ∧ Sw a b f f' ∧ (∀ p q, a ≤ p → p < q → q < i → q < b → lt (f' p) (f' q)) ∧ Keep (· = B) h hx ∧ i ≤ N + 1) (b - (a + 1)) (by omega)
    ⟨a + 1, f, rfl, by omega, by simp only [↓opStep_eq, ↓reduceIte, ↓EW, EV, Nat.reduceAdd, Nat.reduceEqDiff, Int.reduceEq, Int.reduceLT, Int.reduceLE, Int.reduceNe, seqC, retC, skipC, exitC, blockC, condC], by simp only [↓opStep_eq, ↓reduceIte, ↓EW, EV, Nat.reduceAdd, Nat.reduceEqDiff, Int.reduceEq, Int.reduceLT, Int.reduceLE, Int.reduceNe, seqC, retC, skipC, exitC, blockC, condC], by simp only [↓opStep_eq, ↓reduceIte, ↓EW, EV, Nat.reduceAdd, Nat.reduceEqDiff, Int.reduceEq, Int.reduceLT, Int.reduceLE, Int.reduceNe, seqC, retC, skipC, exitC, blockC, condC], by simp only [↓opStep_eq, ↓reduceIte, ↓EW, EV, Nat.reduceAdd, Nat.reduceEqDiff, Int.reduceEq, Int.reduceLT, Int.reduceLE, Int.reduceNe, seqC, retC, skipC, exitC, blockC, condC], by simp only [↓opStep_eq, ↓reduceIte, ↓EW, EV, Nat.reduceAdd, Nat.reduceEqDiff, Int.reduceEq, Int.reduceLT, Int.reduceLE, Int.reduceNe, seqC, retC, skipC, exitC, blockC, condC], arr, .refl _, fun p q h1 h2 h3 => by omega, .refl _ _, by omega⟩ ?_)
  rintro k tm hx ⟨i, f1, rfl, hi, t0, t1, t2, t3, t8, ar1, sw1, so1, k1, hiN⟩
  unfold l46_8
  refine C.seq (C.seq fun K hK => ?_)
  simp only [↓opStep_eq, ↓reduceIte, ↓EW, EV, Nat.reduceAdd, Nat.reduceEqDiff, Int.reduceEq, Int.reduceLT, Int.reduceLE, Int.reduceNe, seqC, retC, skipC, exitC, blockC, condC, r46_1, t8, t2]
  refine hK _ _ _ (C.cond (decide ((i : Int) < (b : Int))) (by simp only [↓opStep_eq, ↓reduceIte, ↓EW, EV, Nat.reduceAdd, Nat.reduceEqDiff, Int.reduceEq, Int.reduceLT, Int.reduceLE, Int.reduceNe, seqC, retC, skipC, exitC, blockC, condC]) (fun g => C.skip ?_) fun g => C.exit ?_)
  · have gi : i < b := by have := of_decide_eq_true g; omega
    have inj1 := sw1.inj hb inj
    refine C.seq (C.block (C.seq fun K hK => ?_))
    simp only [↓opStep_eq, ↓reduceIte, ↓EW, EV, Nat.reduceAdd, Nat.reduceEqDiff, Int.reduceEq, Int.reduceLT, Int.reduceLE, Int.reduceNe, seqC, retC, skipC, exitC, blockC, condC, r46_3, t8]
    refine hK .norm _ _ ?_
    refine C.block (C.loop (fun k tm' hy => ∃ j f', k = j ∧ a ≤ j ∧ j ≤ i ∧ tg tm' 0 = v ∧ tg tm' 1 = .int .i64 (a : Int) ∧ tg tm' 2 = .int .i64 (b : Int) ∧ tg tm' 3 = cv ∧ tg tm' 8 = .int .i64 (i : Int) ∧ tg tm' 9 = .int .i64 (j : Int) ∧ Arr hy B v N f' ∧ Sw a b f f' ∧ (∀ p q, a ≤ p → p < q → q ≤ i → q ≠ j → lt (f' p) (f' q)) ∧ Keep (· = B) h hy) i (by omega)
      ⟨i, f1, rfl, by omega, by omega, by simp only [↓opStep_eq, ↓reduceIte, ↓EW, EV, Nat.reduceAdd, Nat.reduceEqDiff, Int.reduceEq, Int.reduceLT, Int.reduceLE, Int.reduceNe, seqC, retC, skipC, exitC, blockC, condC, t0], by simp only [↓opStep_eq, ↓reduceIte, ↓EW, EV, Nat.reduceAdd, Nat.reduceEqDiff, Int.reduceEq, Int.reduceLT, Int.reduceLE, Int.reduceNe, seqC, retC, skipC, exitC, blockC, condC, t1], by simp only [↓opStep_eq, ↓reduceIte, ↓EW, EV, Nat.reduceAdd, Nat.reduceEqDiff, Int.reduceEq, Int.reduceLT, Int.reduceLE, Int.reduceNe, seqC, retC, skipC, exitC, blockC, condC, t2], by simp only [↓opStep_eq, ↓reduceIte, ↓EW, EV, Nat.reduceAdd, Nat.reduceEqDiff, Int.reduceEq, Int.reduceLT, Int.reduceLE, Int.reduceNe, seqC, retC, skipC, exitC, blockC, condC, t3], by simp only [↓opStep_eq, ↓reduceIte, ↓EW, EV, Nat.reduceAdd, Nat.reduceEqDiff, Int.reduceEq, Int.reduceLT, Int.reduceLE, Int.reduceNe, seqC, retC, skipC, exitC, blockC, condC, t8], by simp only [↓opStep_eq, ↓reduceIte, ↓EW, EV, Nat.reduceAdd, Nat.reduceEqDiff, Int.reduceEq, Int.reduceLT, Int.reduceLE, Int.reduceNe, seqC, retC, skipC, exitC, blockC, condC], ar1, sw1, fun p q h1 h2 h3 h4 => so1 p q h1 h2 (by omega) (by omega), k1⟩ ?_)
    rintro j tm hy ⟨_, f2, rfl, haj, hji, t0, t1, t2, t3, t8, t9, ar2, sw2, so2, k2⟩
    have inj2 := sw2.inj hb inj
    unfold l46_6
    refine C.seq (C.seq fun K hK => ?_)
    refine r46_4_go cm (cm.stay _ _ k2 ok) ar2 (by omega) hN haj t0 t1 t3 t9 fun d h3 k3 hd => ?_
    have ar3 := ar2.keep0 k3
    have k3' := k2.then k3
    refine hK _ _ _ (C.cond d (by simp only [↓opStep_eq, ↓reduceIte, ↓EW, EV, Nat.reduceAdd, Nat.reduceEqDiff, Int.reduceEq, Int.reduceLT, Int.reduceLE, Int.reduceNe, seqC, retC, skipC, exitC, blockC, condC]) (fun g => C.skip ?_) fun g => C.exit ?_)
    · obtain ⟨gj, glt⟩ := hd.1 g
      refine C.seq (C.block fun K hK => ?_)
      have kr := keep_room h3 18
      have ar4 := ar3.keep0 kr
      obtain ⟨h5, h6, s1, s2, ar6, k6⟩ := ar4.swap (p := j - 1) (q := j) (by omega) (by omega)
      have w := wsub1 j (by omega) (by omega)
      simp only [↓opStep_eq, ↓reduceIte, ↓EW, EV, Nat.reduceAdd, Nat.reduceEqDiff, Int.reduceEq, Int.reduceLT, Int.reduceLE, Int.reduceNe, seqC, retC, skipC, exitC, blockC, condC, r46_6, t0, t9, w, ar4.ix (show j - 1 < N by omega), ar4.ix (show j < N by omega), ar4.ld (show j - 1 < N by omega), ar4.ld (show j < N by omega), s1, s2]
      refine hK _ _ _ fun K hK => ?_
      simp only [↓opStep_eq, ↓reduceIte, ↓EW, EV, Nat.reduceAdd, Nat.reduceEqDiff, Int.reduceEq, Int.reduceLT, Int.reduceLE, Int.reduceNe, seqC, retC, skipC, exitC, blockC, condC, r46_5, t9, w]
      refine hK _ _ _ ⟨j - 1, by omega, j - 1, _, rfl, by omega, by omega, by simp only [↓opStep_eq, ↓reduceIte, ↓EW, EV, Nat.reduceAdd, Nat.reduceEqDiff, Int.reduceEq, Int.reduceLT, Int.reduceLE, Int.reduceNe, seqC, retC, skipC, exitC, blockC, condC, t0], by simp only [↓opStep_eq, ↓reduceIte, ↓EW, EV, Nat.reduceAdd, Nat.reduceEqDiff, Int.reduceEq, Int.reduceLT, Int.reduceLE, Int.reduceNe, seqC, retC, skipC, exitC, blockC, condC, t1], by simp only [↓opStep_eq, ↓reduceIte, ↓EW, EV, Nat.reduceAdd, Nat.reduceEqDiff, Int.reduceEq, Int.reduceLT, Int.reduceLE, Int.reduceNe, seqC, retC, skipC, exitC, blockC, condC, t2], by simp only [↓opStep_eq, ↓reduceIte, ↓EW, EV, Nat.reduceAdd, Nat.reduceEqDiff, Int.reduceEq, Int.reduceLT, Int.reduceLE, Int.reduceNe, seqC, retC, skipC, exitC, blockC, condC, t3], by simp only [↓opStep_eq, ↓reduceIte, ↓EW, EV, Nat.reduceAdd, Nat.reduceEqDiff, Int.reduceEq, Int.reduceLT, Int.reduceLE, Int.reduceNe, seqC, retC, skipC, exitC, blockC, condC, t8], by simp only [↓opStep_eq, ↓reduceIte, ↓EW, EV, Nat.reduceAdd, Nat.reduceEqDiff, Int.reduceEq, Int.reduceLT, Int.reduceLE, Int.reduceNe, seqC, retC, skipC, exitC, blockC, condC], ar6, .step j (j - 1) sw2 (by omega) (by omega) (by omega) (by omega), fun p q h1 h2 h3 h4 => ?_, (k3'.then kr).trans k6 fun _ _ h => h⟩
      by_cases q1 : q = j
      · subst q1
        rw [swF_at]
        by_cases p1 : p = q - 1
        · subst p1; rw [swF_at']; exact glt
        · rw [swF_ne (by omega) p1]; exact so2 p (q - 1) h1 (by omega) (by omega) (by omega)
      · rw [swF_ne q1 h4]
        by_cases p1 : p = j
        · subst p1; rw [swF_at]; exact so2 (p - 1) q (by omega) (by omega) h3 q1
        · by_cases p2 : p = j - 1
          · subst p2; rw [swF_at']; exact so2 j q (by omega) (by omega) h3 q1
          · rw [swF_ne p1 p2]; exact so2 p q h1 h2 h3 q1
    · simp only [if_pos]
      have gd' : ¬ (a < j ∧ lt (f2 j) (f2 (j - 1))) := fun h => by have := hd.2 h; rw [g] at this; cases this
      intro K hK
      simp only [↓opStep_eq, ↓reduceIte, ↓EW, EV, Nat.reduceAdd, Nat.reduceEqDiff, Int.reduceEq, Int.reduceLT, Int.reduceLE, Int.reduceNe, seqC, retC, skipC, exitC, blockC, condC, r46_2, t8, wadd1 i (by omega)]
      refine hK _ _ _ ⟨b - (i + 1), by omega, i + 1, f2, rfl, by omega, by simp only [↓opStep_eq, ↓reduceIte, ↓EW, EV, Nat.reduceAdd, Nat.reduceEqDiff, Int.reduceEq, Int.reduceLT, Int.reduceLE, Int.reduceNe, seqC, retC, skipC, exitC, blockC, condC, t0], by simp only [↓opStep_eq, ↓reduceIte, ↓EW, EV, Nat.reduceAdd, Nat.reduceEqDiff, Int.reduceEq, Int.reduceLT, Int.reduceLE, Int.reduceNe, seqC, retC, skipC, exitC, blockC, condC, t1], by simp only [↓opStep_eq, ↓reduceIte, ↓EW, EV, Nat.reduceAdd, Nat.reduceEqDiff, Int.reduceEq, Int.reduceLT, Int.reduceLE, Int.reduceNe, seqC, retC, skipC, exitC, blockC, condC, t2], by simp only [↓opStep_eq, ↓reduceIte, ↓EW, EV, Nat.reduceAdd, Nat.reduceEqDiff, Int.reduceEq, Int.reduceLT, Int.reduceLE, Int.reduceNe, seqC, retC, skipC, exitC, blockC, condC, t3], by simp only [↓opStep_eq, ↓reduceIte, ↓EW, EV, Nat.reduceAdd, Nat.reduceEqDiff, Int.reduceEq, Int.reduceLT, Int.reduceLE, Int.reduceNe, seqC, retC, skipC, exitC, blockC, condC], ar3, sw2, fun p q h1 h2 h3 h4 => ?_, k3', by omega⟩
      by_cases q1 : q = j
      · subst q1
        have hlt : lt (f2 (q - 1)) (f2 q) := cm.nlt (fun h => gd' ⟨by omega, h⟩) fun e => by
          have := inj2 q (q - 1) (by omega) (by omega) e; omega
        by_cases p1 : p = q - 1
        · subst p1; exact hlt
        · exact cm.tr _ _ _ (so2 p (q - 1) h1 (by omega) (by omega) (by omega)) hlt
      · exact so2 p q h1 h2 (by omega) q1
  · simp only [if_pos]
    have gi : b ≤ i := by have := of_decide_eq_false g; omega
    exact ⟨(by first | exact .inl rfl | exact .inl trivial), _, rfl, f1, ar1, sw1, fun p q h1 h2 h3 => so1 p q h1 h2 (by omega) h3, k1⟩
end
end Go.Proofs.YtbdmhdidehfmoaaDoor

namespace Go.Proofs.YtbdmhdidehfmoaaDoor
open Go.Ev

section
variable {L B : Nat} {cv : Value} {lt : Nm → Nm → Prop} {Ok : H → Prop}
theorem Cm.asym (cm : Cm L B cv lt Ok) {x y : Nm} (h : lt x y) : ¬ lt y x := fun h' => cm.irr _ (cm.tr _ _ _ h h')
theorem Cm.ntr (cm : Cm L B cv lt Ok) {x y z : Nm} (h1 : ¬ lt x y) (h2 : ¬ lt y z) : ¬ lt x z := fun h => by
  by_cases e : x = y
  · subst e; exact h2 h
  · exact h2 (cm.tr _ _ _ (cm.nlt h1 e) h)

/-! ### heapSort -/
def HpAt (lt : Nm → Nm → Prop) (f : Nat → Nm) (s hi i : Nat) : Prop := ∀ x, (x = 2 * i + 1 ∨ x = 2 * i + 2) → x < hi → ¬ lt (f (s + i)) (f (s + x))

theorem heap_max (cm : Cm L B cv lt Ok) {f : Nat → Nm} {s hi : Nat} (h : ∀ i, HpAt lt f s hi i) : ∀ p, p < hi → ¬ lt (f s) (f (s + p)) := fun p => by
  induction p using Nat.strongRecOn with
  | _ p ih =>
    intro hp
    by_cases h0 : p = 0
    · subst h0; exact cm.irr _
    · have h1 := ih ((p - 1) / 2) (by omega) (by omega)
      have h2 := h ((p - 1) / 2) p (by omega) hp
      exact cm.ntr h1 h2

theorem sift_step (cm : Cm L B cv lt Ok) {f : Nat → Nm} {s hi lo r c : Nat} (hr : lo ≤ r) (hc : c = 2 * r + 1 ∨ c = 2 * r + 2) (hch : c < hi) (hlt : lt (f (s + r)) (f (s + c))) (hmx : ∀ x, (x = 2 * r + 1 ∨ x = 2 * r + 2) → x < hi → ¬ lt (f (s + c)) (f (s + x)))
    (I1 : ∀ i, lo ≤ i → i ≠ r → HpAt lt f s hi i) (I2 : ∀ p, lo ≤ p → (r = 2 * p + 1 ∨ r = 2 * p + 2) → ∀ x, (x = 2 * r + 1 ∨ x = 2 * r + 2) → x < hi → ¬ lt (f (s + p)) (f (s + x))) :
    (∀ i, lo ≤ i → i ≠ c → HpAt lt (swF f (s + r) (s + c)) s hi i) ∧ (∀ p, lo ≤ p → (c = 2 * p + 1 ∨ c = 2 * p + 2) → ∀ x, (x = 2 * c + 1 ∨ x = 2 * c + 2) → x < hi → ¬ lt (swF f (s + r) (s + c) (s + p)) (swF f (s + r) (s + c) (s + x))) := by
  constructor
  · intro i hi1 hi2 x hx hxh
    by_cases e1 : i = r
    · subst e1
      rw [swF_at]
      by_cases e2 : x = c
      · subst e2; rw [swF_at']; exact cm.asym hlt
      · rw [swF_ne (by omega) (by omega)]; exact hmx x hx hxh
    · rw [swF_ne (k := s + i) (by omega) (by omega)]
      by_cases e2 : x = r
      · subst e2; rw [swF_at]; exact I2 i hi1 hx c hc hch
      · rw [swF_ne (by omega) (by omega)]; exact I1 i hi1 e1 x hx hxh
  · intro p hp1 hp2 x hx hxh
    have e : p = r := by omega
    subst e
    rw [swF_at, swF_ne (by omega) (by omega)]
    exact I1 c (by omega) (by omega) x hx hxh

theorem r59_3_go (cm : Cm L B cv lt Ok) {m s c hi N : Nat} {v : Value} {f : Nat → Nm} {tm : T Value} {h : H} {K : KE} (ok : Ok h) (arr : Arr h B v N f) (hc : c < hi) (hs : s + hi ≤ N) (hN : N ≤ 1000000) (t0 : tg tm 0 = v) (t2 : tg tm 2 = .int .i64 (hi : Int)) (t3 : tg tm 3 = .int .i64 (s : Int)) (t4 : tg tm 4 = cv) (t11 : tg tm 11 = .int .i64 (c : Int)) (hK : ∀ d h', Keep nobody h h' → (d = true ↔ (c + 1 < hi ∧ lt (f (s + c)) (f (s + c + 1)))) → K .norm (T.set tm 40 (.bool d)) [] h' = true) :
    r59_3 (CF L (m + 4)) L tm [] h K = true := by
  have kr := keep_room h 22
  have ar := arr.keep0 kr
  have w1 := wadd1 c (by omega)
  by_cases g : c + 1 < hi
  · have gI : ((c + 1 : Nat) : Int) < (hi : Int) := by omega
    have w2 := wadd s c (by omega)
    have w3 := wadd1 (s + c) (by omega)
    simp only [↓opStep_eq, ↓reduceIte, ↓EW, EV, Nat.reduceAdd, Nat.reduceEqDiff, Int.reduceEq, Int.reduceLT, Int.reduceLE, Int.reduceNe, seqC, retC, skipC, exitC, blockC, condC, r59_3, ite2, t0, t2, t3, t4, t11, w1, gI, w2, w3, ar.ix (show s + c < N by omega), ar.ix (show s + c + 1 < N by omega), ar.ld (show s + c < N by omega), ar.ld (show s + c + 1 < N by omega)]
    refine cm.go (cm.stay0 kr ok) fun z h' hz k => ?_
    simp only [↓opStep_eq, ↓reduceIte, ↓EW, EV, Nat.reduceAdd, Nat.reduceEqDiff, Int.reduceEq, Int.reduceLT, Int.reduceLE, Int.reduceNe, seqC, retC, skipC, exitC, blockC, condC]
    refine hK _ _ (kr.then k) ?_
    rw [decide_eq_true_eq, hz]
    exact ⟨fun h => ⟨g, h⟩, fun h => h.2⟩
  · have gI : ¬ ((c + 1 : Nat) : Int) < (hi : Int) := by omega
    simp only [↓opStep_eq, ↓reduceIte, ↓EW, EV, Nat.reduceAdd, Nat.reduceEqDiff, Int.reduceEq, Int.reduceLT, Int.reduceLE, Int.reduceNe, seqC, retC, skipC, exitC, blockC, condC, r59_3, ite2, t2, t11, w1, gI]
    exact hK false _ kr ⟨fun h => (by cases h), fun h => absurd h.1 g⟩

theorem sift_law (cm : Cm L B cv lt Ok) {m lo hi s N : Nat} {v : Value} {f : Nat → Nm} {h : H} (ok : Ok h) (arr : Arr h B v N f) (hs : s + hi ≤ N) (hN : N ≤ 1000000) (hL : N < L) (hp : ∀ i, lo < i → HpAt lt f s hi i) (hlo : lo ≤ N) :
    Sp (CF L (m + 5)) 59 [v, .int .i64 (lo : Int), .int .i64 (hi : Int), .int .i64 (s : Int), cv] h fun r h' => ∃ f', Arr h' B v N f' ∧ Sw s (s + hi) f f' ∧ (∀ i, lo ≤ i → HpAt lt f' s hi i) ∧ Keep (· = B) h h' := by
  refine Sp.body f59 (by simp) ?_
  unfold c59
  refine C.seq fun K hK => hK .norm _ _ ?_
  refine C.block (C.loop (fun k tm' hx => ∃ r f', k = hi - r ∧ lo ≤ r ∧ r ≤ N ∧ tg tm' 0 = v ∧ tg tm' 2 = .int .i64 (hi : Int) ∧ tg tm' 3 = .int .i64 (s : Int) ∧ tg tm' 4 = cv ∧ tg tm' 10 = .int .i64 (r : Int) ∧ Arr hx B v N f' ∧ Sw s (s + hi) f f' ∧ (∀ i, lo ≤ i → i ≠ r → HpAt lt f' s hi i) ∧ (∀ p, lo ≤ p → (r = 2 * p + 1 ∨ r = 2 * p + 2) → ∀ x, (x = 2 * r + 1 ∨ x = 2 * r + 2) → x < hi → ¬ lt (f' (s + p)) (f' (s + x))) ∧ Keep (· = B) h hx) (hi - lo) (by omega)
    ⟨lo, f, rfl, by omega, by omega, by simp only [↓opStep_eq, ↓reduceIte, ↓EW, EV, Nat.reduceAdd, Nat.reduceEqDiff, Int.reduceEq, Int.reduceLT, Int.reduceLE, Int.reduceNe, seqC, retC, skipC, exitC, blockC, condC], by simp only [↓opStep_eq, ↓reduceIte, ↓EW, EV, Nat.reduceAdd, Nat.reduceEqDiff, Int.reduceEq, Int.reduceLT, Int.reduceLE, Int.reduceNe, seqC, retC, skipC, exitC, blockC, condC], by simp only [↓opStep_eq, ↓reduceIte, ↓EW, EV, Nat.reduceAdd, Nat.reduceEqDiff, Int.reduceEq, Int.reduceLT, Int.reduceLE, Int.reduceNe, seqC, retC, skipC, exitC, blockC, condC], by simp only [↓opStep_eq, ↓reduceIte, ↓EW, EV, Nat.reduceAdd, Nat.reduceEqDiff, Int.reduceEq, Int.reduceLT, Int.reduceLE, Int.reduceNe, seqC, retC, skipC, exitC, blockC, condC], by simp only [↓opStep_eq, ↓reduceIte, ↓EW, EV, Nat.reduceAdd, Nat.reduceEqDiff, Int.reduceEq, Int.reduceLT, Int.reduceLE, Int.reduceNe, seqC, retC, skipC, exitC, blockC, condC], arr, .refl _, fun i h1 h2 => hp i (by omega), fun p h1 h2 => by omega, .refl _ _⟩ ?_)
  rintro k tm hx ⟨r, f1, rfl, hr, hrN, t0, t2, t3, t4, t10, ar1, sw1, I1, I2, k1⟩
  unfold l59_8
  refine C.block (C.seq fun K hK => ?_)
  have w1 : IntKind.i64.wrap (2 * (r : Int)) = ((2 * r : Nat) : Int) := by
    rw [show 2 * (r : Int) = ((2 * r : Nat) : Int) by omega, wrap_i64 _ (by omega)]
  have w2 := wadd1 (2 * r) (by omega)
  simp only [↓opStep_eq, ↓reduceIte, ↓EW, EV, Nat.reduceAdd, Nat.reduceEqDiff, Int.reduceEq, Int.reduceLT, Int.reduceLE, Int.reduceNe, seqC, retC, skipC, exitC, blockC, condC, r59_1, t10, w1, w2]
  refine hK _ _ _ (C.seq (C.seq fun K hK => ?_))
  simp only [↓opStep_eq, ↓reduceIte, ↓EW, EV, Nat.reduceAdd, Nat.reduceEqDiff, Int.reduceEq, Int.reduceLT, Int.reduceLE, Int.reduceNe, seqC, retC, skipC, exitC, blockC, condC, r59_2, t2]
  refine hK _ _ _ (C.cond (decide ((hi : Int) ≤ ((2 * r + 1 : Nat) : Int))) (by simp only [↓opStep_eq, ↓reduceIte, ↓EW, EV, Nat.reduceAdd, Nat.reduceEqDiff, Int.reduceEq, Int.reduceLT, Int.reduceLE, Int.reduceNe, seqC, retC, skipC, exitC, blockC, condC]) (fun g => C.exit ?_) fun g => C.skip ?_)
  · have g := of_decide_eq_true g
    simp only [if_pos, Nat.reduceEqDiff, if_neg, if_false]
    refine ⟨(by first | exact .inl rfl | exact .inl trivial), _, rfl, f1, ar1, sw1, fun i hi1 => ?_, k1⟩
    by_cases e : i = r
    · subst e; intro x hx hxh; omega
    · exact I1 i hi1 e
  · have g : 2 * r + 1 < hi := by have := of_decide_eq_false g; omega
    refine C.seq (C.seq fun K hK => ?_)
    refine r59_3_go cm (cm.stay _ _ k1 ok) ar1 g hs hN (by simp only [↓opStep_eq, ↓reduceIte, ↓EW, EV, Nat.reduceAdd, Nat.reduceEqDiff, Int.reduceEq, Int.reduceLT, Int.reduceLE, Int.reduceNe, seqC, retC, skipC, exitC, blockC, condC, t0]) (by simp only [↓opStep_eq, ↓reduceIte, ↓EW, EV, Nat.reduceAdd, Nat.reduceEqDiff, Int.reduceEq, Int.reduceLT, Int.reduceLE, Int.reduceNe, seqC, retC, skipC, exitC, blockC, condC, t2]) (by simp only [↓opStep_eq, ↓reduceIte, ↓EW, EV, Nat.reduceAdd, Nat.reduceEqDiff, Int.reduceEq, Int.reduceLT, Int.reduceLE, Int.reduceNe, seqC, retC, skipC, exitC, blockC, condC, t3]) (by simp only [↓opStep_eq, ↓reduceIte, ↓EW, EV, Nat.reduceAdd, Nat.reduceEqDiff, Int.reduceEq, Int.reduceLT, Int.reduceLE, Int.reduceNe, seqC, retC, skipC, exitC, blockC, condC, t4]) (by simp only [↓opStep_eq, ↓reduceIte, ↓EW, EV, Nat.reduceAdd, Nat.reduceEqDiff, Int.reduceEq, Int.reduceLT, Int.reduceLE, Int.reduceNe, seqC, retC, skipC, exitC, blockC, condC]) fun d h2 k2 hd => ?_
    -- the greater child
    have pick : ∀ (c : Nat) (tm2 : T Value) (Q : Ex → T Value → Ev.H → Prop), (c = 2 * r + 1 ∨ c = 2 * r + 2) → c < hi → (∀ x, (x = 2 * r + 1 ∨ x = 2 * r + 2) → x < hi → ¬ lt (f1 (s + c)) (f1 (s + x))) → tg tm2 0 = v → tg tm2 2 = .int .i64 (hi : Int) → tg tm2 3 = .int .i64 (s : Int) → tg tm2 4 = cv → tg tm2 10 = .int .i64 (r : Int) → tg tm2 11 = .int .i64 (c : Int) →
        (∀ tm' h', (∃ f', Arr h' B v N f' ∧ Sw s (s + hi) f f' ∧ (∀ i, lo ≤ i → HpAt lt f' s hi i) ∧ Keep (· = B) h h') → Q .ret tm' h') →
        (∀ tm' h', (∃ r' f', hi - r' < hi - r ∧ lo ≤ r' ∧ r' ≤ N ∧ tg tm' 0 = v ∧ tg tm' 2 = .int .i64 (hi : Int) ∧ tg tm' 3 = .int .i64 (s : Int) ∧ tg tm' 4 = cv ∧ tg tm' 10 = .int .i64 (r' : Int) ∧ Arr h' B v N f' ∧ Sw s (s + hi) f f' ∧ (∀ i, lo ≤ i → i ≠ r' → HpAt lt f' s hi i) ∧ (∀ p, lo ≤ p → (r' = 2 * p + 1 ∨ r' = 2 * p + 2) → ∀ x, (x = 2 * r' + 1 ∨ x = 2 * r' + 2) → x < hi → ¬ lt (f' (s + p)) (f' (s + x))) ∧ Keep (· = B) h h') → Q .norm tm' h') →
        C ⟨seqC ⟨seqC ⟨r59_5⟩ ⟨condC ⟨fun _ tm => tg tm 58⟩ retC skipC⟩⟩ ⟨seqC ⟨r59_6⟩ ⟨r59_7⟩⟩⟩ (CF L (m + 4)) L tm2 h2 Q := fun c tm2 Q hc hch hmx u0 u2 u3 u4 u10 u11 hret hnorm => by
      refine C.seq (C.seq fun K hK => ?_)
      have kr := keep_room h2 16
      have kr2 := k2.then kr
      have ar2 := ar1.keep0 kr2
      have w3 := wadd s r (by omega)
      have w4 := wadd s c (by omega)
      simp only [↓opStep_eq, ↓reduceIte, ↓EW, EV, Nat.reduceAdd, Nat.reduceEqDiff, Int.reduceEq, Int.reduceLT, Int.reduceLE, Int.reduceNe, seqC, retC, skipC, exitC, blockC, condC, r59_5, u0, u3, u4, u10, u11, w3, w4, ar2.ix (show s + r < N by omega), ar2.ix (show s + c < N by omega), ar2.ld (show s + r < N by omega), ar2.ld (show s + c < N by omega)]
      refine cm.go (cm.stay _ _ (k1.then kr2) ok) fun z h3 hz k3 => ?_
      simp only [↓opStep_eq, ↓reduceIte, ↓EW, EV, Nat.reduceAdd, Nat.reduceEqDiff, Int.reduceEq, Int.reduceLT, Int.reduceLE, Int.reduceNe, seqC, retC, skipC, exitC, blockC, condC]
      have k3' := kr2.then k3
      refine hK _ _ _ (C.cond (!decide (z < 0)) (by simp only [↓opStep_eq, ↓reduceIte, ↓EW, EV, Nat.reduceAdd, Nat.reduceEqDiff, Int.reduceEq, Int.reduceLT, Int.reduceLE, Int.reduceNe, seqC, retC, skipC, exitC, blockC, condC]) (fun g1 => C.ret (hret _ _ ?_)) fun g1 => C.skip ?_)
      · have g1 : ¬ z < 0 := by rw [Bool.not_eq_true'] at g1; exact of_decide_eq_false g1
        rw [hz] at g1
        refine ⟨f1, ar1.keep0 k3', sw1, fun i hi1 => ?_, k1.then k3'⟩
        by_cases e : i = r
        · subst e; intro x hx hxh; exact cm.ntr g1 (hmx x hx hxh)
        · exact I1 i hi1 e
      · have g1 : z < 0 := by rw [Bool.not_eq_false'] at g1; exact of_decide_eq_true g1
        rw [hz] at g1
        refine C.seq fun K hK => ?_
        have kr4 := k3'.then (keep_room h3 24)
        have ar4 := ar1.keep0 kr4
        obtain ⟨h5, h6, s1, s2, ar6, k6⟩ := ar4.swap (p := s + c) (q := s + r) (by omega) (by omega)
        simp only [↓opStep_eq, ↓reduceIte, ↓EW, EV, Nat.reduceAdd, Nat.reduceEqDiff, Int.reduceEq, Int.reduceLT, Int.reduceLE, Int.reduceNe, seqC, retC, skipC, exitC, blockC, condC, r59_6, u0, u3, u10, u11, w3, w4, ar4.ix (show s + r < N by omega), ar4.ix (show s + c < N by omega), ar4.ld (show s + r < N by omega), ar4.ld (show s + c < N by omega), s1, s2]
        refine hK _ _ _ fun K hK => ?_
        simp only [↓opStep_eq, ↓reduceIte, ↓EW, EV, Nat.reduceAdd, Nat.reduceEqDiff, Int.reduceEq, Int.reduceLT, Int.reduceLE, Int.reduceNe, seqC, retC, skipC, exitC, blockC, condC, r59_7, u11]
        obtain ⟨J1, J2⟩ := sift_step cm hr hc hch g1 hmx I1 I2
        refine hK _ _ _ (hnorm _ _ ⟨c, _, by omega, by omega, by omega, by simp only [↓opStep_eq, ↓reduceIte, ↓EW, EV, Nat.reduceAdd, Nat.reduceEqDiff, Int.reduceEq, Int.reduceLT, Int.reduceLE, Int.reduceNe, seqC, retC, skipC, exitC, blockC, condC, u0], by simp only [↓opStep_eq, ↓reduceIte, ↓EW, EV, Nat.reduceAdd, Nat.reduceEqDiff, Int.reduceEq, Int.reduceLT, Int.reduceLE, Int.reduceNe, seqC, retC, skipC, exitC, blockC, condC, u2], by simp only [↓opStep_eq, ↓reduceIte, ↓EW, EV, Nat.reduceAdd, Nat.reduceEqDiff, Int.reduceEq, Int.reduceLT, Int.reduceLE, Int.reduceNe, seqC, retC, skipC, exitC, blockC, condC, u3], by simp only [↓opStep_eq, ↓reduceIte, ↓EW, EV, Nat.reduceAdd, Nat.reduceEqDiff, Int.reduceEq, Int.reduceLT, Int.reduceLE, Int.reduceNe, seqC, retC, skipC, exitC, blockC, condC, u4], by simp only [↓opStep_eq, ↓reduceIte, ↓EW, EV, Nat.reduceAdd, Nat.reduceEqDiff, Int.reduceEq, Int.reduceLT, Int.reduceLE, Int.reduceNe, seqC, retC, skipC, exitC, blockC, condC], ar6, .step (s + r) (s + c) sw1 (by omega) (by omega) (by omega) (by omega), J1, J2, (k1.then kr4).trans k6 fun _ _ h => h⟩)
    refine hK _ _ _ (C.cond d (by simp only [↓opStep_eq, ↓reduceIte, ↓EW, EV, Nat.reduceAdd, Nat.reduceEqDiff, Int.reduceEq, Int.reduceLT, Int.reduceLE, Int.reduceNe, seqC, retC, skipC, exitC, blockC, condC]) (fun gd1 => fun K hK => ?_) fun gd1 => C.skip ?_)
    · obtain ⟨g2, g3⟩ := hd.1 gd1
      have w5 := wadd1 (2 * r + 1) (by omega)
      simp only [↓opStep_eq, ↓reduceIte, ↓EW, EV, Nat.reduceAdd, Nat.reduceEqDiff, Int.reduceEq, Int.reduceLT, Int.reduceLE, Int.reduceNe, seqC, retC, skipC, exitC, blockC, condC, r59_4, w5]
      refine hK _ _ _ (pick (2 * r + 1 + 1) _ _ (by omega) (by omega) (fun x hx hxh => ?_) ?_ ?_ ?_ ?_ ?_ ?_ (fun tm' h' hh => ⟨.inr rfl, _, rfl, hh⟩) fun tm' h' ⟨r', f', q, rest⟩ => ⟨hi - r', q, r', f', rfl, rest⟩)
      · rcases hx with rfl | rfl
        · exact cm.asym g3
        · exact cm.irr _
      · simp only [↓opStep_eq, ↓reduceIte, ↓EW, EV, Nat.reduceAdd, Nat.reduceEqDiff, Int.reduceEq, Int.reduceLT, Int.reduceLE, Int.reduceNe, seqC, retC, skipC, exitC, blockC, condC, t0]
      · simp only [↓opStep_eq, ↓reduceIte, ↓EW, EV, Nat.reduceAdd, Nat.reduceEqDiff, Int.reduceEq, Int.reduceLT, Int.reduceLE, Int.reduceNe, seqC, retC, skipC, exitC, blockC, condC, t2]
      · simp only [↓opStep_eq, ↓reduceIte, ↓EW, EV, Nat.reduceAdd, Nat.reduceEqDiff, Int.reduceEq, Int.reduceLT, Int.reduceLE, Int.reduceNe, seqC, retC, skipC, exitC, blockC, condC, t3]
      · simp only [↓opStep_eq, ↓reduceIte, ↓EW, EV, Nat.reduceAdd, Nat.reduceEqDiff, Int.reduceEq, Int.reduceLT, Int.reduceLE, Int.reduceNe, seqC, retC, skipC, exitC, blockC, condC, t4]
      · simp only [↓opStep_eq, ↓reduceIte, ↓EW, EV, Nat.reduceAdd, Nat.reduceEqDiff, Int.reduceEq, Int.reduceLT, Int.reduceLE, Int.reduceNe, seqC, retC, skipC, exitC, blockC, condC, t10]
      · simp only [↓opStep_eq, ↓reduceIte, ↓EW, EV, Nat.reduceAdd, Nat.reduceEqDiff, Int.reduceEq, Int.reduceLT, Int.reduceLE, Int.reduceNe, seqC, retC, skipC, exitC, blockC, condC]
    · refine pick (2 * r + 1) _ _ (by omega) g (fun x hx hxh => ?_) ?_ ?_ ?_ ?_ ?_ ?_ (fun tm' h' hh => ⟨.inr rfl, _, rfl, hh⟩) fun tm' h' ⟨r', f', q, rest⟩ => ⟨hi - r', q, r', f', rfl, rest⟩
      · rcases hx with rfl | rfl
        · exact cm.irr _
        · intro hl
          have := hd.2 ⟨hxh, hl⟩
          rw [gd1] at this; cases this
      · simp only [↓opStep_eq, ↓reduceIte, ↓EW, EV, Nat.reduceAdd, Nat.reduceEqDiff, Int.reduceEq, Int.reduceLT, Int.reduceLE, Int.reduceNe, seqC, retC, skipC, exitC, blockC, condC, t0]
      · simp only [↓opStep_eq, ↓reduceIte, ↓EW, EV, Nat.reduceAdd, Nat.reduceEqDiff, Int.reduceEq, Int.reduceLT, Int.reduceLE, Int.reduceNe, seqC, retC, skipC, exitC, blockC, condC, t2]
      · simp only [↓opStep_eq, ↓reduceIte, ↓EW, EV, Nat.reduceAdd, Nat.reduceEqDiff, Int.reduceEq, Int.reduceLT, Int.reduceLE, Int.reduceNe, seqC, retC, skipC, exitC, blockC, condC, t3]
      · simp only [↓opStep_eq, ↓reduceIte, ↓EW, EV, Nat.reduceAdd, Nat.reduceEqDiff, Int.reduceEq, Int.reduceLT, Int.reduceLE, Int.reduceNe, seqC, retC, skipC, exitC, blockC, condC, t4]
      · simp only [↓opStep_eq, ↓reduceIte, ↓EW, EV, Nat.reduceAdd, Nat.reduceEqDiff, Int.reduceEq, Int.reduceLT, Int.reduceLE, Int.reduceNe, seqC, retC, skipC, exitC, blockC, condC, t10]
      · simp only [↓opStep_eq, ↓reduceIte, ↓EW, EV, Nat.reduceAdd, Nat.reduceEqDiff, Int.reduceEq, Int.reduceLT, Int.reduceLE, Int.reduceNe, seqC, retC, skipC, exitC, blockC, condC]
end
end Go.Proofs.YtbdmhdidehfmoaaDoor

namespace Go.Proofs.YtbdmhdidehfmoaaDoor
open Go.Ev

theorem wI (x : Int) (h1 : -1000 ≤ x) (h2 : x ≤ 1000000000) : IntKind.i64.wrap x = x := by
  rw [wrap_eq] <;> simp [IntKind.min, IntKind.max, IntKind.bits, IntKind.signed] <;> omega

section
variable {L B : Nat} {cv : Value} {lt : Nm → Nm → Prop} {Ok : H → Prop}

theorem heap_law (cm : Cm L B cv lt Ok) {m a b N : Nat} {v : Value} {f : Nat → Nm} {h : H} (ok : Ok h) (arr : Arr h B v N f) (inj : Inj f N) (hb : b ≤ N) (hN : N ≤ 1000000) (hL : N < L) (hab : a < b) :
    Sp (CF L (m + 6)) 47 [v, .int .i64 (a : Int), .int .i64 (b : Int), cv] h fun r h' => ∃ f', Arr h' B v N f' ∧ Sw a b f f' ∧ Sorted lt f' a b ∧ Keep (· = B) h h' := by
  refine Sp.body f47 (by simp) ?_
  unfold c47
  obtain ⟨hi, hhi⟩ : ∃ hi, b = a + hi := ⟨b - a, by omega⟩
  subst hhi
  have hw : IntKind.i64.wrap (((a + hi : Nat) : Int) - (a : Int)) = (hi : Int) := by
    rw [show ((a + hi : Nat) : Int) - (a : Int) = (hi : Int) by omega, wrap_i64 _ (by omega)]
  have hw1 := wsub1 hi (by omega) (by omega)
  have hq := quo_nat 3 true (hi - 1) 2 (by decide) (by omega)
  have c2 : ((2 : Nat) : Int) = 2 := rfl
  rw [c2] at hq
  refine C.seq fun K hK => hK .norm _ _ (C.seq fun K hK => hK .norm _ _ (C.seq fun K hK => ?_))
  simp only [↓opStep_eq, ↓reduceIte, ↓EW, EV, Nat.reduceAdd, Nat.reduceEqDiff, Int.reduceEq, Int.reduceLT, Int.reduceLE, Int.reduceNe, seqC, retC, skipC, exitC, blockC, condC, r47_2, hw]
  refine hK _ _ _ (C.seq (C.seq fun K hK => ?_))
  simp only [↓opStep_eq, ↓reduceIte, ↓EW, EV, Nat.reduceAdd, Nat.reduceEqDiff, Int.reduceEq, Int.reduceLT, Int.reduceLE, Int.reduceNe, seqC, retC, skipC, exitC, blockC, condC, r47_3, hw1, hq]
  refine hK .norm _ _ ?_
  have e0 : (((hi - 1) / 2 : Nat) : Int) = (((hi - 1) / 2 + 1 : Nat) : Int) - 1 := by omega
  refine C.block (C.loop (fun k tm' hx => ∃ f', k ≤ hi ∧ tg tm' 0 = v ∧ tg tm' 3 = cv ∧ tg tm' 8 = .int .i64 (a : Int) ∧ tg tm' 9 = .int .i64 0 ∧ tg tm' 10 = .int .i64 (hi : Int) ∧ tg tm' 11 = .int .i64 ((k : Int) - 1) ∧ Arr hx B v N f' ∧ Sw a (a + hi) f f' ∧ (∀ i, k ≤ i → HpAt lt f' a hi i) ∧ Keep (· = B) h hx) ((hi - 1) / 2 + 1) (by omega)
    ⟨f, by omega, by simp only [↓opStep_eq, ↓reduceIte, ↓EW, EV, Nat.reduceAdd, Nat.reduceEqDiff, Int.reduceEq, Int.reduceLT, Int.reduceLE, Int.reduceNe, seqC, retC, skipC, exitC, blockC, condC], by simp only [↓opStep_eq, ↓reduceIte, ↓EW, EV, Nat.reduceAdd, Nat.reduceEqDiff, Int.reduceEq, Int.reduceLT, Int.reduceLE, Int.reduceNe, seqC, retC, skipC, exitC, blockC, condC], by simp only [↓opStep_eq, ↓reduceIte, ↓EW, EV, Nat.reduceAdd, Nat.reduceEqDiff, Int.reduceEq, Int.reduceLT, Int.reduceLE, Int.reduceNe, seqC, retC, skipC, exitC, blockC, condC], by simp only [↓opStep_eq, ↓reduceIte, ↓EW, EV, Nat.reduceAdd, Nat.reduceEqDiff, Int.reduceEq, Int.reduceLT, Int.reduceLE, Int.reduceNe, seqC, retC, skipC, exitC, blockC, condC], by simp only [↓opStep_eq, ↓reduceIte, ↓EW, EV, Nat.reduceAdd, Nat.reduceEqDiff, Int.reduceEq, Int.reduceLT, Int.reduceLE, Int.reduceNe, seqC, retC, skipC, exitC, blockC, condC], by simp only [↓opStep_eq, ↓reduceIte, ↓EW, EV, Nat.reduceAdd, Nat.reduceEqDiff, Int.reduceEq, Int.reduceLT, Int.reduceLE, Int.reduceNe, seqC, retC, skipC, exitC, blockC, condC, e0], arr, .refl _, fun i h1 x hx hxh => by omega, .refl _ _⟩ ?_)
  rintro k tm hx ⟨f1, hk, t0, t3, t8, t9, t10, t11, ar1, sw1, hp1, k1⟩
  unfold l47_7
  refine C.seq (C.seq fun K hK => ?_)
  simp only [↓opStep_eq, ↓reduceIte, ↓EW, EV, Nat.reduceAdd, Nat.reduceEqDiff, Int.reduceEq, Int.reduceLT, Int.reduceLE, Int.reduceNe, seqC, retC, skipC, exitC, blockC, condC, r47_4, t11]
  refine hK _ _ _ (C.cond (decide ((0 : Int) ≤ (k : Int) - 1)) (by simp only [↓opStep_eq, ↓reduceIte, ↓EW, EV, Nat.reduceAdd, Nat.reduceEqDiff, Int.reduceEq, Int.reduceLT, Int.reduceLE, Int.reduceNe, seqC, retC, skipC, exitC, blockC, condC]) (fun g => C.skip ?_) fun g => C.exit ?_)
  · have g : 1 ≤ k := by have := of_decide_eq_true g; omega
    have e1 : (k : Int) - 1 = ((k - 1 : Nat) : Int) := by omega
    refine C.seq (C.block fun K hK => ?_)
    simp only [↓opStep_eq, ↓reduceIte, ↓EW, EV, Nat.reduceAdd, Nat.reduceEqDiff, Int.reduceEq, Int.reduceLT, Int.reduceLE, Int.reduceNe, seqC, retC, skipC, exitC, blockC, condC, r47_6, t0, t3, t8, t10, t11, e1]
    refine sift_law cm (cm.stay _ _ k1 ok) ar1 (by omega) hN hL (fun i hi1 => hp1 i (by omega)) (by omega) _ fun r h2 hq => ?_
    obtain ⟨f2, ar2, sw2, hp2, k2⟩ := hq
    refine hK _ _ _ fun K hK => ?_
    have w2 := wI (((k - 1 : Nat) : Int) - 1) (by omega) (by omega)
    simp only [↓opStep_eq, ↓reduceIte, ↓EW, EV, Nat.reduceAdd, Nat.reduceEqDiff, Int.reduceEq, Int.reduceLT, Int.reduceLE, Int.reduceNe, seqC, retC, skipC, exitC, blockC, condC, r47_5, t11, e1, w2]
    exact hK _ _ _ ⟨k - 1, by omega, f2, by omega, by simp only [↓opStep_eq, ↓reduceIte, ↓EW, EV, Nat.reduceAdd, Nat.reduceEqDiff, Int.reduceEq, Int.reduceLT, Int.reduceLE, Int.reduceNe, seqC, retC, skipC, exitC, blockC, condC, t0], by simp only [↓opStep_eq, ↓reduceIte, ↓EW, EV, Nat.reduceAdd, Nat.reduceEqDiff, Int.reduceEq, Int.reduceLT, Int.reduceLE, Int.reduceNe, seqC, retC, skipC, exitC, blockC, condC, t3], by simp only [↓opStep_eq, ↓reduceIte, ↓EW, EV, Nat.reduceAdd, Nat.reduceEqDiff, Int.reduceEq, Int.reduceLT, Int.reduceLE, Int.reduceNe, seqC, retC, skipC, exitC, blockC, condC, t8], by simp only [↓opStep_eq, ↓reduceIte, ↓EW, EV, Nat.reduceAdd, Nat.reduceEqDiff, Int.reduceEq, Int.reduceLT, Int.reduceLE, Int.reduceNe, seqC, retC, skipC, exitC, blockC, condC, t9], by simp only [↓opStep_eq, ↓reduceIte, ↓EW, EV, Nat.reduceAdd, Nat.reduceEqDiff, Int.reduceEq, Int.reduceLT, Int.reduceLE, Int.reduceNe, seqC, retC, skipC, exitC, blockC, condC, t10], by simp only [↓opStep_eq, ↓reduceIte, ↓EW, EV, Nat.reduceAdd, Nat.reduceEqDiff, Int.reduceEq, Int.reduceLT, Int.reduceLE, Int.reduceNe, seqC, retC, skipC, exitC, blockC, condC], ar2, sw1.trans sw2, hp2, k1.trans k2 fun _ _ h => h⟩
  · simp only [if_pos]
    have g : k = 0 := by have := of_decide_eq_false g; omega
    subst g
    have hs1 := wsub1 hi (by omega) (by omega)
    refine C.seq fun K hK => ?_
    simp only [↓opStep_eq, ↓reduceIte, ↓EW, EV, Nat.reduceAdd, Nat.reduceEqDiff, Int.reduceEq, Int.reduceLT, Int.reduceLE, Int.reduceNe, seqC, retC, skipC, exitC, blockC, condC, r47_7, t10, hs1]
    refine hK .norm _ _ ?_
    have e2 : ((hi - 1 : Nat) : Int) = (hi : Int) - 1 := by omega
    refine C.block (C.loop (fun k tm' hx => ∃ f', k ≤ hi ∧ tg tm' 0 = v ∧ tg tm' 3 = cv ∧ tg tm' 8 = .int .i64 (a : Int) ∧ tg tm' 9 = .int .i64 0 ∧ tg tm' 12 = .int .i64 ((k : Int) - 1) ∧ Arr hx B v N f' ∧ Sw a (a + hi) f f' ∧ (∀ i, HpAt lt f' a k i) ∧ (∀ p q, k ≤ p → p < q → q < hi → lt (f' (a + p)) (f' (a + q))) ∧ (∀ p q, p < k → k ≤ q → q < hi → lt (f' (a + p)) (f' (a + q))) ∧ Keep (· = B) h hx) hi (by omega)
      ⟨f1, by omega, by simp only [↓opStep_eq, ↓reduceIte, ↓EW, EV, Nat.reduceAdd, Nat.reduceEqDiff, Int.reduceEq, Int.reduceLT, Int.reduceLE, Int.reduceNe, seqC, retC, skipC, exitC, blockC, condC, t0], by simp only [↓opStep_eq, ↓reduceIte, ↓EW, EV, Nat.reduceAdd, Nat.reduceEqDiff, Int.reduceEq, Int.reduceLT, Int.reduceLE, Int.reduceNe, seqC, retC, skipC, exitC, blockC, condC, t3], by simp only [↓opStep_eq, ↓reduceIte, ↓EW, EV, Nat.reduceAdd, Nat.reduceEqDiff, Int.reduceEq, Int.reduceLT, Int.reduceLE, Int.reduceNe, seqC, retC, skipC, exitC, blockC, condC, t8], by simp only [↓opStep_eq, ↓reduceIte, ↓EW, EV, Nat.reduceAdd, Nat.reduceEqDiff, Int.reduceEq, Int.reduceLT, Int.reduceLE, Int.reduceNe, seqC, retC, skipC, exitC, blockC, condC, t9], by simp only [↓opStep_eq, ↓reduceIte, ↓EW, EV, Nat.reduceAdd, Nat.reduceEqDiff, Int.reduceEq, Int.reduceLT, Int.reduceLE, Int.reduceNe, seqC, retC, skipC, exitC, blockC, condC, e2], ar1, sw1, fun i => hp1 i (by omega), fun p q h1 h2 h3 => by omega, fun p q h1 h2 h3 => by omega, k1⟩ ?_)
    clear t0 t3 t8 t9 t10 t11 ar1 sw1 hp1 k1
    rintro k tm hx ⟨f1, hk, t0, t3, t8, t9, t12, ar1, sw1, hp1, so1, bd1, k1⟩
    unfold l47_13
    refine C.seq (C.seq fun K hK => ?_)
    simp only [↓opStep_eq, ↓reduceIte, ↓EW, EV, Nat.reduceAdd, Nat.reduceEqDiff, Int.reduceEq, Int.reduceLT, Int.reduceLE, Int.reduceNe, seqC, retC, skipC, exitC, blockC, condC, r47_8, t12]
    refine hK _ _ _ (C.cond (decide ((0 : Int) ≤ (k : Int) - 1)) (by simp only [↓opStep_eq, ↓reduceIte, ↓EW, EV, Nat.reduceAdd, Nat.reduceEqDiff, Int.reduceEq, Int.reduceLT, Int.reduceLE, Int.reduceNe, seqC, retC, skipC, exitC, blockC, condC]) (fun g => C.skip ?_) fun g => C.exit ?_)
    · have g : 1 ≤ k := by have := of_decide_eq_true g; omega
      have e1 : (k : Int) - 1 = ((k - 1 : Nat) : Int) := by omega
      have inj1 := sw1.inj hb inj
      refine C.seq (C.block (C.seq fun K hK => ?_))
      have kr := keep_room hx 20
      have ar2 := ar1.keep0 kr
      have w3 := wadd a (k - 1) (by omega)
      obtain ⟨h5, h6, s1, s2, ar6, k6⟩ := ar2.swap (p := a + (k - 1)) (q := a) (by omega) (by omega)
      simp only [↓opStep_eq, ↓reduceIte, ↓EW, EV, Nat.reduceAdd, Nat.reduceEqDiff, Int.reduceEq, Int.reduceLT, Int.reduceLE, Int.reduceNe, seqC, retC, skipC, exitC, blockC, condC, r47_10, t0, t8, t12, e1, w3, ar2.ix (show a + (k - 1) < N by omega), ar2.ix (show a < N by omega), ar2.ld (show a + (k - 1) < N by omega), ar2.ld (show a < N by omega), s1, s2]
      refine hK _ _ _ fun K hK => ?_
      have k16 : Keep (· = B) h h6 := (k1.then kr).trans k6 fun _ _ h => h
      have z : Value.int .i64 0 = .int .i64 ((0 : Nat) : Int) := rfl
      have hmax := heap_max cm hp1
      simp only [↓opStep_eq, ↓reduceIte, ↓EW, EV, Nat.reduceAdd, Nat.reduceEqDiff, Int.reduceEq, Int.reduceLT, Int.reduceLE, Int.reduceNe, seqC, retC, skipC, exitC, blockC, condC, r47_11, t0, t3, t8, t9, t12, e1]
      rw [z]
      refine sift_law cm (cm.stay _ _ k16 ok) ar6 (hi := k - 1) (by omega) hN hL (fun i hi1 x hx hxh => ?_) (by omega) _ fun r h7 hq => ?_
      · rw [swF_ne (by omega) (by omega), swF_ne (by omega) (by omega)]
        exact hp1 i x hx (by omega)
      obtain ⟨f2, ar7, sw7, hp7, k7⟩ := hq
      refine hK _ _ _ fun K hK => ?_
      have w2 := wI (((k - 1 : Nat) : Int) - 1) (by omega) (by omega)
      have top : swF f1 a (a + (k - 1)) (a + (k - 1)) = f1 a := swF_at' _ _
      have o7 : ∀ x, a + (k - 1) ≤ x → f2 x = swF f1 a (a + (k - 1)) x := fun x hx => sw7.out (.inr hx)
      -- what is left is below the top
      have low : ∀ p, p < k - 1 → lt (f2 (a + p)) (f1 a) := by
        have := sw7.all (fun x => lt x (f1 a)) (fun q h1 h2 => ?_)
        · exact fun p hp => this (a + p) (by omega) (by omega)
        · by_cases e : q = a
          · subst e
            rw [swF_at]
            refine cm.nlt (hmax (k - 1) (by omega)) fun e => ?_
            have := inj1 _ _ (by omega) (by omega) e; omega
          · rw [swF_ne e (by omega)]
            have := hmax (q - a) (by omega)
            rw [show a + (q - a) = q by omega] at this
            refine cm.nlt this fun e' => ?_
            have := inj1 _ _ (by omega) (by omega) e'; omega
      have high : ∀ q, k ≤ q → q < hi → f2 (a + q) = f1 (a + q) := fun q h1 h2 => by
        rw [o7 _ (by omega), swF_ne (by omega) (by omega)]
      have mid : f2 (a + (k - 1)) = f1 a := by rw [o7 _ (by omega), top]
      have bd0 : ∀ q, k ≤ q → q < hi → lt (f1 a) (f1 (a + q)) := fun q h1 h2 => by have := bd1 0 q (by omega) h1 h2; simpa using this
      simp only [↓opStep_eq, ↓reduceIte, ↓EW, EV, Nat.reduceAdd, Nat.reduceEqDiff, Int.reduceEq, Int.reduceLT, Int.reduceLE, Int.reduceNe, seqC, retC, skipC, exitC, blockC, condC, r47_9, t12, e1, w2]
      refine hK _ _ _ ⟨k - 1, by omega, f2, by omega, by simp only [↓opStep_eq, ↓reduceIte, ↓EW, EV, Nat.reduceAdd, Nat.reduceEqDiff, Int.reduceEq, Int.reduceLT, Int.reduceLE, Int.reduceNe, seqC, retC, skipC, exitC, blockC, condC, t0], by simp only [↓opStep_eq, ↓reduceIte, ↓EW, EV, Nat.reduceAdd, Nat.reduceEqDiff, Int.reduceEq, Int.reduceLT, Int.reduceLE, Int.reduceNe, seqC, retC, skipC, exitC, blockC, condC, t3], by simp only [↓opStep_eq, ↓reduceIte, ↓EW, EV, Nat.reduceAdd, Nat.reduceEqDiff, Int.reduceEq, Int.reduceLT, Int.reduceLE, Int.reduceNe, seqC, retC, skipC, exitC, blockC, condC, t8], by simp only [↓opStep_eq, ↓reduceIte, ↓EW, EV, Nat.reduceAdd, Nat.reduceEqDiff, Int.reduceEq, Int.reduceLT, Int.reduceLE, Int.reduceNe, seqC, retC, skipC, exitC, blockC, condC, t9], by simp only [↓opStep_eq, ↓reduceIte, ↓EW, EV, Nat.reduceAdd, Nat.reduceEqDiff, Int.reduceEq, Int.reduceLT, Int.reduceLE, Int.reduceNe, seqC, retC, skipC, exitC, blockC, condC], ar7, ?_, fun i => hp7 i (by omega), fun p q h1 h2 h3 => ?_, fun p q h1 h2 h3 => ?_, k16.trans k7 fun _ _ h => h⟩
      · exact (sw1.trans (Sw.one f1 (by omega) (by omega) (by omega) (by omega))).trans (sw7.mono (by omega) (by omega))
      · rw [high q (by omega) h3]
        by_cases e : p = k - 1
        · rw [e, mid]; exact bd0 q (by omega) h3
        · rw [high p (by omega) (by omega)]; exact so1 p q (by omega) h2 h3
      · by_cases e : q = k - 1
        · rw [e, mid]; exact low p h1
        · rw [high q (by omega) h3]
          exact cm.tr _ _ _ (low p h1) (bd0 q (by omega) h3)
    · simp only [if_pos]
      have g : k = 0 := by have := of_decide_eq_false g; omega
      subst g
      refine ⟨(by first | exact .inl rfl | exact .inl trivial), _, rfl, f1, ar1, sw1, fun p q h1 h2 h3 => ?_, k1⟩
      have := so1 (p - a) (q - a) (by omega) (by omega) (by omega)
      rw [show a + (p - a) = p by omega, show a + (q - a) = q by omega] at this
      exact this
end
end Go.Proofs.YtbdmhdidehfmoaaDoor
