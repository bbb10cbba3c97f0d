import Derived.Test.YtpoedopdcpejmaaWhB
set_option linter.unusedSimpArgs false
set_option linter.unusedVariables false
namespace Go.Proofs.Ytpoedopdcpejmaa
open Go.Ev

/-! ### entries, rows of entries -/
theorem putAt_at {α : Type} : ∀ (l : List α) (i : Nat) (ys : List α), i + ys.length ≤ l.length → putAt l i ys = some (l.take i ++ ys ++ l.drop (i + ys.length))
  | [], i, ys, h => by
    have h1 : i = 0 := by have : i + ys.length ≤ 0 := h; omega
    have h2 : ys = [] := by
      apply List.length_eq_zero_iff.1; have : i + ys.length ≤ 0 := h; omega
    subst h1; subst h2; rfl
  | x :: xs, 0, [], h => by simp [putAt]
  | x :: xs, 0, y :: ys, h => by
    have := putAt_at xs 0 ys (by simp at h ⊢; omega)
    simp [putAt, this]
  | x :: xs, i + 1, ys, h => by
    have := putAt_at xs i ys (by simp at h ⊢; omega)
    simp [putAt, this, show i + 1 + ys.length = i + ys.length + 1 by omega]
theorem putAt_one {α : Type} (l : List α) (i : Nat) (y : α) (h : i < l.length) : putAt l i [y] = some (l.set i y) := by
  rw [putAt_at l i [y] (by simp; omega)]
  rw [List.set_eq_take_append_cons_drop, if_pos h]
  simp

def OpenC (cap : Nat) : Prop := Nat.ble OPEN cap = true ∧ Nat.beq (szOf cap) 3 = true
theorem openC (lb : Nat) : OpenC (opCap lb 3) := ⟨Nat.ble_eq_true_of_le (open_opCap lb 3), by rw [szOf_opCap (by omega)]; rfl⟩

end Go.Proofs.Ytpoedopdcpejmaa

namespace Go.Proofs.Ytpoedopdcpejmaa
open Go.Ev

theorem keep_room (h : H) (n : Nat) : Keep nobody h ⟨h.objs, h.next + n⟩ := ⟨Nat.le_add_right _ _, fun _ _ _ => rfl⟩
theorem wrap_i64 (n : Nat) (h : n < 9223372036854775808) : IntKind.i64.wrap (n : Int) = (n : Int) := by
  rw [wrap_eq] <;> simp [IntKind.min, IntKind.max, IntKind.bits, IntKind.signed] <;> omega
end Go.Proofs.Ytpoedopdcpejmaa

namespace Go.Proofs.Ytpoedopdcpejmaa
open Go.Ev
noncomputable abbrev CF (L n : Nat) : CallT := callF Try.prog (maskOf masks) outside NG L n

section
variable {P : Program}
theorem binV_xor (t : TypeId) (c : Bool) (k : IntKind) (x y : Int) : binV P .xor t c (.int k x) (.int k y) = some (.int k (k.wrap (BitVec.ofInt k.bits x ^^^ BitVec.ofInt k.bits y).toNat)) := by
  simp [binV, binInt, orRun, intOp, pureRun, binOp, Op.intBits]
theorem nilChk_some (a : Addr) : nilChk (.pointer (some a)) = some (.pointer (some a)) := (rfl)
end

/-! ### Hash -/
/-! ### row -/
end Go.Proofs.Ytpoedopdcpejmaa

namespace Go.Proofs.Ytpoedopdcpejmaa
open Go.Ev

def chain : List Bool → Option Bool
  | [] => some true
  | b :: r => match some b with
    | some true => chain r
    | some false => some false
    | none => none
abbrev nameV (t : Int) (k : ByteArray) : Value := .agg [.int .i64 t, .string k].toArray
theorem eqv_name (t t' : Int) (k k' : ByteArray) : eqV Try.prog 200 39 (.agg #[.int .i64 t, .string k]) (.agg #[.int .i64 t', .string k']) = chain [iEq t t', leB k.data.toList k'.data.toList] := by kernel_rfl
theorem guard39 : Program.eqGuardType Try.prog (Program.depth Try.prog) 39 = false := by kernel_rfl
theorem bytes_eq (k k' : ByteArray) : (k.data.toList = k'.data.toList) ↔ k = k' := ⟨fun h => ByteArray.ext (Array.ext' h), fun h => by rw [h]⟩
theorem name_eql (t t' : Int) (k k' : ByteArray) : binV Try.prog .eql 39 false (nameV t k) (nameV t' k') = some (.bool (decide (t = t' ∧ k = k'))) := by
  show aggEq Try.prog .eql 39 (nameV t k) (nameV t' k') = _
  unfold aggEq
  rw [guard39]
  show boolRes .eql (eqV Try.prog 200 39 (nameV t k) (nameV t' k')) = _
  rw [show nameV t k = .agg #[.int .i64 t, .string k] from rfl, show nameV t' k' = .agg #[.int .i64 t', .string k'] from rfl, eqv_name]
  simp only [leB_eq, iEq_dec, chain]
  by_cases h1 : t = t'
  · by_cases h2 : k = k'
    · subst h1; subst h2; simp; rfl
    · have h3 : (k.data.toList == k'.data.toList) = false := by
        rw [beq_eq_false_iff_ne]; exact fun h => h2 ((bytes_eq _ _).1 h)
      rw [h3, decide_eq_true h1, decide_eq_false (fun h => h2 h.2)]; rfl
  · rw [decide_eq_false h1, decide_eq_false (fun h => h1 h.1)]; rfl

end Go.Proofs.Ytpoedopdcpejmaa

namespace Go.Proofs.Ytpoedopdcpejmaa
open Go.Ev

theorem store_one {h : H} {b o : Nat} {s} {cs : List Value} {v : Value} (a : Has h b (.rw cs)) (ho : o < cs.length) (hv : v.cells = #[v]) (h1 : ones [v] = true) : storeV 1 h (.pointer (some ⟨b, o, s⟩)) v = some (h.put b (.rw (cs.set o v))) := by
  unfold storeV
  have e1 : v.cells.size = 1 := by rw [hv]; rfl
  have e2 : v.cells.toList = [v] := by rw [hv]
  simp only [e1, e2, Nat.beq_refl, H.write, h1, a.2]
  rw [putAt_one _ _ _ ho]
theorem store_int {h : H} {b o : Nat} {s} {cs : List Value} {k : IntKind} {n : Int} (a : Has h b (.rw cs)) (ho : o < cs.length) : storeV 1 h (.pointer (some ⟨b, o, s⟩)) (.int k n) = some (h.put b (.rw (cs.set o (.int k n)))) := store_one a ho rfl rfl

end Go.Proofs.Ytpoedopdcpejmaa

namespace Go.Proofs.Ytpoedopdcpejmaa
open Go.Ev

theorem tdiv_nat (n k : Nat) : (n : Int).tdiv (k : Int) = ((n / k : Nat) : Int) := by
  rw [Int.tdiv_eq_ediv_of_nonneg (by omega)]; rfl

end Go.Proofs.Ytpoedopdcpejmaa

namespace Go.Proofs.Ytpoedopdcpejmaa
open Go.Ev

def validN (t : Int) (k : ByteArray) : Prop := 0 ≤ t ∧ t < 4 ∧ k.size ≠ 0 ∧ k.size ≤ 32
instance decValid (t : Int) (k : ByteArray) : Decidable (validN t k) := by unfold validN; infer_instance

end Go.Proofs.Ytpoedopdcpejmaa

namespace Go.Proofs.Ytpoedopdcpejmaa
open Go.Ev

theorem store2_new (h : H) (cs : List Value) (t : Int) (k : ByteArray) (hc : cs.length = 2) : storeV 2 (h.new (.rw cs)) (.pointer (some ⟨h.next, 0, none⟩)) (nameV t k) = some ((h.new (.rw cs)).put h.next (.rw [.int .i64 t, .string k])) := by
  have := store_new h 2 none cs (nameV t k) hc.symm (by simp) (by simp [ones])
  simpa using this
theorem load2 {h : H} {b : Nat} {t : Int} {k : ByteArray} (hb : Has h b (.rw [.int .i64 t, .string k])) (s) : loadAgg 2 h (.pointer (some ⟨b, 0, s⟩)) = some (nameV t k) := loadAgg_has hb rfl (by simp)

theorem tmod_nat (n k : Nat) : (n : Int).tmod (k : Int) = ((n % k : Nat) : Int) := by
  rw [Int.tmod_eq_emod_of_nonneg (by omega)]; rfl
theorem rem_nat (t : TypeId) (c : Bool) (k : IntKind) (n m : Nat) (hm : 0 < m) : binV Try.prog .rem t c (.int k (n : Int)) (.int k (m : Int)) = some (.int k ((n % m : Nat) : Int)) := by
  rw [binV_rem _ _ _ _ _ (by omega), tmod_nat]
theorem quo_nat (t : TypeId) (c : Bool) (n m : Nat) (hm : 0 < m) (hn : n ≤ 1000000) : binV Try.prog .quo t c (.int .i64 (n : Int)) (.int .i64 (m : Int)) = some (.int .i64 ((n / m : Nat) : Int)) := by
  rw [binV_quo _ _ _ _ _ (by omega), tdiv_nat, wrap_i64 _ (by have := Nat.div_le_self n m; omega)]
end Go.Proofs.Ytpoedopdcpejmaa

namespace Go.Proofs.Ytpoedopdcpejmaa
open Go.Ev

/-! ### a row of names that is sorted -/
abbrev Nm := Int × ByteArray
abbrev Nm.v (x : Nm) : Value := .agg [.int .i64 x.1, .string x.2].toArray

structure Arr (h : H) (B : Nat) (v : Value) (n : Nat) (f : Nat → Nm) : Prop where
  ex : ∃ cap cs e, v = .slice (some ⟨B, 0, none⟩) n cap ∧ Has h B (.op cs e) ∧ 2 * n ≤ cs.length ∧ ∀ k, k < n → cs[2 * k]? = some (.int .i64 (f k).1) ∧ cs[2 * k + 1]? = some (.string (f k).2)

def updF (f : Nat → Nm) (i : Nat) (x : Nm) : Nat → Nm := fun k => if k = i then x else f k
def swF (f : Nat → Nm) (i j : Nat) : Nat → Nm := fun k => if k = i then f j else if k = j then f i else f k
theorem upd_swap (f : Nat → Nm) (i j : Nat) : updF (updF f i (f j)) j (f i) = swF f i j := by
  funext k
  unfold updF swF
  by_cases h1 : k = i
  · by_cases h2 : k = j
    · subst h1; subst h2; simp
    · simp [h1, h2]
      intro e; subst e; exact absurd h1 h2
  · simp [h1]

theorem Arr.len {h : H} {B : Nat} {v : Value} {n : Nat} {f : Nat → Nm} (a : Arr h B v n f) : lenSl v = some (.int .i64 (n : Int)) := by
  obtain ⟨cap, cs, e, rfl, _⟩ := a.ex; rfl
theorem Arr.keep {S : Nat → Prop} {h h' : H} {B : Nat} {v : Value} {n : Nat} {f : Nat → Nm} (a : Arr h B v n f) (k : Keep S h h') (hn : ¬ S B) : Arr h' B v n f := by
  obtain ⟨cap, cs, e, h1, hb, r⟩ := a.ex
  exact ⟨cap, cs, e, h1, hb.keep k hn, r⟩
theorem Arr.keep0 {h h' : H} {B : Nat} {v : Value} {n : Nat} {f : Nat → Nm} (a : Arr h B v n f) (k : Keep nobody h h') : Arr h' B v n f := a.keep k id
theorem Arr.lt {h : H} {B : Nat} {v : Value} {n : Nat} {f : Nat → Nm} (a : Arr h B v n f) : B < h.next := by
  obtain ⟨cap, cs, e, h1, hb, r⟩ := a.ex
  exact hb.1
theorem Arr.ix {h : H} {B : Nat} {v : Value} {n : Nat} {f : Nat → Nm} (a : Arr h B v n f) {i : Nat} (hi : i < n) : indexSl 2 v (.int .i64 (i : Int)) = some (.pointer (some ⟨B, i * 2, none⟩)) := by
  obtain ⟨cap, cs, e, rfl, _⟩ := a.ex
  simp only [indexSl, asNat_nat, addOff]
  rw [Nat.ble_eq_true_of_le hi]
  simp only [Nat.zero_add]
theorem Arr.ld {h : H} {B : Nat} {v : Value} {n : Nat} {f : Nat → Nm} (a : Arr h B v n f) {i : Nat} (hi : i < n) (s) : loadAgg 2 h (.pointer (some ⟨B, i * 2, s⟩)) = some (f i).v := by
  obtain ⟨cap, cs, e, rfl, hb, hl, hc⟩ := a.ex
  obtain ⟨h1, h2⟩ := hc i hi
  rw [loadAgg_has hb rfl (by omega)]
  have : (cs.drop (i * 2)).take 2 = [.int .i64 (f i).1, .string (f i).2] := by
    rw [show i * 2 = 2 * i by omega]
    have g1 := (List.getElem?_eq_some_iff.1 h1)
    have g2 := (List.getElem?_eq_some_iff.1 h2)
    obtain ⟨l1, e1⟩ := g1
    obtain ⟨l2, e2⟩ := g2
    rw [List.drop_eq_getElem_cons l1, List.drop_eq_getElem_cons l2, e1, e2]
    rfl
  rw [this]
theorem putAt_two {α : Type} (l : List α) (i : Nat) (x y : α) (h : i + 2 ≤ l.length) : putAt l i [x, y] = some ((l.set i x).set (i + 1) y) := by
  rw [putAt_at l i [x, y] h]
  congr 1
  apply List.ext_getElem?
  intro k
  by_cases h1 : k < i
  · rw [List.append_assoc, List.getElem?_append_left (by simp; omega), List.getElem?_take, if_pos h1, List.getElem?_set_ne (by omega), List.getElem?_set_ne (by omega)]
  · by_cases h2 : k = i
    · subst h2
      rw [List.append_assoc, List.getElem?_append_right (by simp; omega), List.length_take, Nat.min_eq_left (by omega), Nat.sub_self, List.getElem?_set_ne (by omega), List.getElem?_set_self (by omega)]
      rfl
    · by_cases h3 : k = i + 1
      · subst h3
        rw [List.append_assoc, List.getElem?_append_right (by simp; omega), List.length_take, Nat.min_eq_left (by omega), List.getElem?_set_self (by simp; omega), show i + 1 - i = 1 by omega]
        rfl
      · rw [List.getElem?_append_right (by simp; omega), List.getElem?_drop, List.getElem?_set_ne (by omega), List.getElem?_set_ne (by omega)]
        congr 1
        simp; omega
theorem Arr.st {h : H} {B : Nat} {v : Value} {n : Nat} {f : Nat → Nm} (a : Arr h B v n f) {i : Nat} (hi : i < n) (x : Nm) : ∃ h', (∀ s, storeV 2 h (.pointer (some ⟨B, i * 2, s⟩)) x.v = some h') ∧ Arr h' B v n (updF f i x) ∧ Keep (· = B) h h' ∧ h'.next = h.next := by
  obtain ⟨cap, cs, e, rfl, hb, hl, hc⟩ := a.ex
  refine ⟨h.put B (.op ((cs.set (i * 2) (.int .i64 x.1)).set (i * 2 + 1) (.string x.2)) e), fun s => ?_, ⟨cap, _, e, rfl, Has.put hb.1, by simpa using hl, fun k hk => ?_⟩, Keep.put _ _ _, rfl⟩
  · unfold storeV
    have e1 : x.v.cells.toList = [.int .i64 x.1, .string x.2] := by simp [Nm.v]
    have e2 : x.v.cells.size = 2 := by simp [Nm.v]
    simp only [e1, e2, Nat.beq_refl, H.write, hb.2]
    have e3 : ones [Value.int .i64 x.1, .string x.2] = true := rfl
    rw [e3, putAt_two cs _ _ _ (by omega)]
  · obtain ⟨h1, h2⟩ := hc k hk
    unfold updF
    by_cases hki : k = i
    · subst hki
      rw [if_pos rfl, show k * 2 = 2 * k by omega]
      refine ⟨?_, ?_⟩
      · rw [List.getElem?_set_ne (by omega), List.getElem?_set_self (by omega)]
      · rw [List.getElem?_set_self (by simp; omega)]
    · rw [if_neg hki]
      refine ⟨?_, ?_⟩
      · rw [List.getElem?_set_ne (by omega), List.getElem?_set_ne (by omega)]; exact h1
      · rw [List.getElem?_set_ne (by omega), List.getElem?_set_ne (by omega)]; exact h2

/-! ### swaps -/
inductive Sw (a b : Nat) : (Nat → Nm) → (Nat → Nm) → Prop where
  | refl (f : Nat → Nm) : Sw a b f f
  | step {f f' : Nat → Nm} (i j : Nat) : Sw a b f f' → a ≤ i → i < b → a ≤ j → j < b → Sw a b f (swF f' i j)
theorem swF_at {f : Nat → Nm} (i j : Nat) : swF f i j i = f j := by simp [swF]
theorem swF_at' {f : Nat → Nm} (i j : Nat) : swF f i j j = f i := by
  unfold swF
  by_cases h : j = i
  · subst h; simp
  · simp [h]
theorem swF_ne {f : Nat → Nm} {i j k : Nat} (h1 : k ≠ i) (h2 : k ≠ j) : swF f i j k = f k := by simp [swF, h1, h2]
theorem swF_swF (f : Nat → Nm) (i j : Nat) : swF (swF f i j) i j = f := by
  funext k
  by_cases h1 : k = i
  · subst h1; rw [swF_at, swF_at']
  · by_cases h2 : k = j
    · subst h2; rw [swF_at', swF_at]
    · rw [swF_ne h1 h2, swF_ne h1 h2]
def sg (i j k : Nat) : Nat := if k = i then j else if k = j then i else k
theorem swF_eq (f : Nat → Nm) (i j k : Nat) : swF f i j k = f (sg i j k) := by
  unfold swF sg
  split
  · rfl
  · split <;> rfl
theorem sg_inj {i j p q : Nat} (h : sg i j p = sg i j q) : p = q := by
  unfold sg at h
  split at h <;> split at h <;> (try split at h) <;> (try split at h) <;> omega
section
variable {a b : Nat} {f f' f'' : Nat → Nm}
theorem Sw.one (f : Nat → Nm) {i j : Nat} (h1 : a ≤ i) (h2 : i < b) (h3 : a ≤ j) (h4 : j < b) : Sw a b f (swF f i j) := .step i j (.refl f) h1 h2 h3 h4
theorem Sw.trans (s : Sw a b f f') (t : Sw a b f' f'') : Sw a b f f'' := by
  induction t with
  | refl => exact s
  | step i j _ h1 h2 h3 h4 ih => exact .step i j ih h1 h2 h3 h4
theorem Sw.symm (s : Sw a b f f') : Sw a b f' f := by
  induction s with
  | refl => exact .refl _
  | @step f'' i j s' h1 h2 h3 h4 ih =>
    refine Sw.trans ?_ ih
    have := Sw.one (a := a) (b := b) (swF f'' i j) h1 h2 h3 h4
    rw [swF_swF] at this
    exact this
theorem Sw.mono {a' b' : Nat} (s : Sw a b f f') (h1 : a' ≤ a) (h2 : b ≤ b') : Sw a' b' f f' := by
  induction s with
  | refl => exact .refl _
  | step i j _ g1 g2 g3 g4 ih => exact .step i j ih (by omega) (by omega) (by omega) (by omega)
theorem Sw.out (s : Sw a b f f') {k : Nat} (h : k < a ∨ b ≤ k) : f' k = f k := by
  induction s with
  | refl => rfl
  | step i j _ g1 g2 g3 g4 ih => rw [swF_ne (by omega) (by omega)]; exact ih
theorem Sw.all (s : Sw a b f f') (P : Nm → Prop) (h : ∀ k, a ≤ k → k < b → P (f k)) : ∀ k, a ≤ k → k < b → P (f' k) := by
  induction s with
  | refl => exact h
  | @step f' i j _ g1 g2 g3 g4 ih =>
    intro k k1 k2
    unfold swF
    split
    · exact ih j g3 g4
    · split
      · exact ih i g1 g2
      · exact ih k k1 k2
def Inj (f : Nat → Nm) (n : Nat) : Prop := ∀ i j, i < n → j < n → f i = f j → i = j
theorem Sw.inj {n : Nat} (s : Sw a b f f') (hb : b ≤ n) (h : Inj f n) : Inj f' n := by
  induction s with
  | refl => exact h
  | @step f' i j _ g1 g2 g3 g4 ih =>
    intro p q hp hq he
    rw [swF_eq, swF_eq] at he
    have hs : ∀ k, k < n → sg i j k < n := fun k hk => by
      unfold sg
      split
      · omega
      · split <;> omega
    exact sg_inj (i := i) (j := j) (ih _ _ (hs p hp) (hs q hq) he)
end
end Go.Proofs.Ytpoedopdcpejmaa

namespace Go.Proofs.Ytpoedopdcpejmaa
open Go.Ev

theorem wadd (i k : Nat) (h : i + k ≤ 100000000) : IntKind.i64.wrap ((i : Int) + (k : Int)) = ((i + k : Nat) : Int) := by
  rw [show (i : Int) + (k : Int) = ((i + k : Nat) : Int) by omega, wrap_i64 _ (by omega)]
theorem wadd1 (i : Nat) (h : i ≤ 100000000) : IntKind.i64.wrap ((i : Int) + 1) = ((i + 1 : Nat) : Int) := by
  rw [show (i : Int) + 1 = ((i + 1 : Nat) : Int) by omega, wrap_i64 _ (by omega)]
theorem wsub (i k : Nat) (h : k ≤ i) (h2 : i ≤ 100000000) : IntKind.i64.wrap ((i : Int) - (k : Int)) = ((i - k : Nat) : Int) := by
  rw [show (i : Int) - (k : Int) = ((i - k : Nat) : Int) by omega, wrap_i64 _ (by omega)]
theorem wsub1 (i : Nat) (h : 1 ≤ i) (h2 : i ≤ 100000000) : IntKind.i64.wrap ((i : Int) - 1) = ((i - 1 : Nat) : Int) := by
  rw [show (i : Int) - 1 = ((i - 1 : Nat) : Int) by omega, wrap_i64 _ (by omega)]

theorem Arr.swap {h : H} {B : Nat} {v : Value} {n : Nat} {f : Nat → Nm} (a : Arr h B v n f) {p q : Nat} (hp : p < n) (hq : q < n) :
    ∃ h1 h2, (∀ s, storeV 2 h (.pointer (some ⟨B, q * 2, s⟩)) (f p).v = some h1) ∧ (∀ s, storeV 2 h1 (.pointer (some ⟨B, p * 2, s⟩)) (f q).v = some h2) ∧ Arr h2 B v n (swF f q p) ∧ Keep (· = B) h h2 := by
  obtain ⟨h1, e1, a1, k1, _⟩ := a.st hq (f p)
  obtain ⟨h2, e2, a2, k2, _⟩ := a1.st hp (f q)
  rw [upd_swap] at a2
  exact ⟨h1, h2, e1, e2, a2, k1.trans k2 fun _ _ h => h⟩

structure Cm (L B : Nat) (cv : Value) (lt : Nm → Nm → Prop) (Ok : H → Prop) : Prop where
  stay : ∀ h h', Keep (· = B) h h' → Ok h → Ok h'
  run : ∃ g caps, (∀ a b, funcArgs cv [a, b] = some (g, a :: b :: caps)) ∧ ∀ n x y hx, Ok hx → Sp (CF L (n + 4)) g (Nm.v x :: Nm.v y :: caps) hx fun r h' => ∃ c : Int, r = .int .i64 c ∧ (c < 0 ↔ lt x y) ∧ Keep nobody hx h'
  irr : ∀ x, ¬ lt x x
  tr : ∀ x y z, lt x y → lt y z → lt x z
  tot : ∀ x y, x ≠ y → lt x y ∨ lt y x
section
variable {L B : Nat} {cv : Value} {lt : Nm → Nm → Prop} {Ok : H → Prop}
theorem Cm.stay0 (cm : Cm L B cv lt Ok) {h h' : H} (k : Keep nobody h h') (ok : Ok h) : Ok h' := cm.stay h h' (k.mono fun _ _ h => h.elim) ok
theorem Cm.go (cm : Cm L B cv lt Ok) {n : Nat} {x y : Nm} {hx : H} (ok : Ok hx) {K : OpK} (hK : ∀ c h', (c < 0 ↔ lt x y) → Keep nobody hx h' → K (.int .i64 c) [] h' = true) : goCall (CF L (n + 4)) (funcArgs cv [x.v, y.v]) [] hx K = true := by
  obtain ⟨g, caps, e, r⟩ := cm.run
  rw [e]
  exact r n x y hx ok (fun v h => K v [] h) fun r h' ⟨c, e1, e2, e3⟩ => by subst e1; exact hK c h' e2 e3
theorem Cm.nlt (cm : Cm L B cv lt Ok) {x y : Nm} (h : ¬ lt x y) (hne : x ≠ y) : lt y x := (cm.tot x y hne).resolve_left h
end

def Sorted (lt : Nm → Nm → Prop) (f : Nat → Nm) (a b : Nat) : Prop := ∀ p q, a ≤ p → p < q → q < b → lt (f p) (f q)

/-! ### insertionSort -/
section
variable {L B : Nat} {cv : Value} {lt : Nm → Nm → Prop} {Ok : H → Prop}

theorem r47_4_go (cm : Cm L B cv lt Ok) {m a j N : Nat} {v : Value} {f : Nat → Nm} {tm : T Value} {h : H} {K : KE} (ok : Ok h) (arr : Arr h B v N f) (hj : j < N) (hN : N ≤ 1000000) (haj : a ≤ j) (t0 : tg tm 0 = v) (t1 : tg tm 1 = .int .i64 (a : Int)) (t3 : tg tm 3 = cv) (t9 : tg tm 9 = .int .i64 (j : Int)) (hK : ∀ d h', Keep nobody h h' → (d = true ↔ (a < j ∧ lt (f j) (f (j - 1)))) → K .norm (T.set tm 34 (.bool d)) [] h' = true) :
    r47_4 (CF L (m + 4)) L tm [] h K = true := by
  have kr := keep_room h 17
  have ar := arr.keep0 kr
  by_cases g : a < j
  · have gI : (a : Int) < (j : Int) := by omega
    have w := wsub1 j (by omega) (by omega)
    simp only [↓opStep_eq, ↓reduceIte, ↓EW, EV, Nat.reduceAdd, Nat.reduceEqDiff, Int.reduceEq, Int.reduceLT, Int.reduceLE, Int.reduceNe, seqC, retC, skipC, exitC, blockC, condC, r47_4, ite2, t0, t1, t3, t9, gI, w, ar.ix hj, ar.ix (show j - 1 < N by omega), ar.ld hj, ar.ld (show j - 1 < N by omega)]
    refine cm.go (cm.stay0 kr ok) fun c h' hc k => ?_
    simp only [↓opStep_eq, ↓reduceIte, ↓EW, EV, Nat.reduceAdd, Nat.reduceEqDiff, Int.reduceEq, Int.reduceLT, Int.reduceLE, Int.reduceNe, seqC, retC, skipC, exitC, blockC, condC]
    refine hK _ _ (kr.then k) ?_
    rw [decide_eq_true_eq, hc]
    exact ⟨fun h => ⟨g, h⟩, fun h => h.2⟩
  · have gI : ¬ (a : Int) < (j : Int) := by omega
    simp only [↓opStep_eq, ↓reduceIte, ↓EW, EV, Nat.reduceAdd, Nat.reduceEqDiff, Int.reduceEq, Int.reduceLT, Int.reduceLE, Int.reduceNe, seqC, retC, skipC, exitC, blockC, condC, r47_4, ite2, t1, t9, gI]
    exact hK false _ kr ⟨fun h => (by cases h), fun h => absurd h.1 g⟩

theorem insertion_law (cm : Cm L B cv lt Ok) {m a b N : Nat} {v : Value} {f : Nat → Nm} {h : H} (ok : Ok h) (arr : Arr h B v N f) (inj : Inj f N) (hb : b ≤ N) (hN : N ≤ 1000000) (hL : N < L) (hab : a ≤ b) :
    Sp (CF L (m + 5)) 47 [v, .int .i64 (a : Int), .int .i64 (b : Int), cv] h fun r h' => ∃ f', Arr h' B v N f' ∧ Sw a b f f' ∧ Sorted lt f' a b ∧ Keep (· = B) h h' := by
  refine Sp.body f47 (by simp) ?_
  unfold c47
  refine C.seq fun K hK => ?_
  simp only [↓opStep_eq, ↓reduceIte, ↓EW, EV, Nat.reduceAdd, Nat.reduceEqDiff, Int.reduceEq, Int.reduceLT, Int.reduceLE, Int.reduceNe, seqC, retC, skipC, exitC, blockC, condC, r47_0, wadd1 a (by omega)]
  refine hK .norm _ _ ?_
  refine C.block (C.loop (fun k tm' hx => ∃ i f', k = b - i ∧ a + 1 ≤ i ∧ tg tm' 0 = v ∧ tg tm' 1 = .int .i64 (a : Int) ∧ tg tm' 2 = .int .i64 (b : Int) ∧ tg tm' 3 = cv ∧ tg tm' 8 = .int .i64 (i : Int) ∧ Arr hx B v N f' ∧ Sw a b f f' ∧ (∀ p q, a ≤ p → p < q → q < i → q < b → lt (f' p) (f' q)) ∧ Keep (· = B) h hx ∧ i ≤ N + 1) (b - (a + 1)) (by omega)
    ⟨a + 1, f, rfl, by omega, by simp only [↓opStep_eq, ↓reduceIte, ↓EW, EV, Nat.reduceAdd, Nat.reduceEqDiff, Int.reduceEq, Int.reduceLT, Int.reduceLE, Int.reduceNe, seqC, retC, skipC, exitC, blockC, condC], by simp only [↓opStep_eq, ↓reduceIte, ↓EW, EV, Nat.reduceAdd, Nat.reduceEqDiff, Int.reduceEq, Int.reduceLT, Int.reduceLE, Int.reduceNe, seqC, retC, skipC, exitC, blockC, condC], by simp only [↓opStep_eq, ↓reduceIte, ↓EW, EV, Nat.reduceAdd, Nat.reduceEqDiff, Int.reduceEq, Int.reduceLT, Int.reduceLE, Int.reduceNe, seqC, retC, skipC, exitC, blockC, condC], by simp only [↓opStep_eq, ↓reduceIte, ↓EW, EV, Nat.reduceAdd, Nat.reduceEqDiff, Int.reduceEq, Int.reduceLT, Int.reduceLE, Int.reduceNe, seqC, retC, skipC, exitC, blockC, condC], by simp only [↓opStep_eq, ↓reduceIte, ↓EW, EV, Nat.reduceAdd, Nat.reduceEqDiff, Int.reduceEq, Int.reduceLT, Int.reduceLE, Int.reduceNe, seqC, retC, skipC, exitC, blockC, condC], arr, .refl _, fun p q h1 h2 h3 => by omega, .refl _ _, by omega⟩ ?_)
  rintro k tm hx ⟨i, f1, rfl, hi, t0, t1, t2, t3, t8, ar1, sw1, so1, k1, hiN⟩
  unfold l47_8
  refine C.seq (C.seq fun K hK => ?_)
  simp only [↓opStep_eq, ↓reduceIte, ↓EW, EV, Nat.reduceAdd, Nat.reduceEqDiff, Int.reduceEq, Int.reduceLT, Int.reduceLE, Int.reduceNe, seqC, retC, skipC, exitC, blockC, condC, r47_1, t8, t2]
  refine hK _ _ _ (C.cond (decide ((i : Int) < (b : Int))) (by simp only [↓opStep_eq, ↓reduceIte, ↓EW, EV, Nat.reduceAdd, Nat.reduceEqDiff, Int.reduceEq, Int.reduceLT, Int.reduceLE, Int.reduceNe, seqC, retC, skipC, exitC, blockC, condC]) (fun g => C.skip ?_) fun g => C.exit ?_)
  · have gi : i < b := by have := of_decide_eq_true g; omega
    have inj1 := sw1.inj hb inj
    refine C.seq (C.block (C.seq fun K hK => ?_))
    simp only [↓opStep_eq, ↓reduceIte, ↓EW, EV, Nat.reduceAdd, Nat.reduceEqDiff, Int.reduceEq, Int.reduceLT, Int.reduceLE, Int.reduceNe, seqC, retC, skipC, exitC, blockC, condC, r47_3, t8]
    refine hK .norm _ _ ?_
    refine C.block (C.loop (fun k tm' hy => ∃ j f', k = j ∧ a ≤ j ∧ j ≤ i ∧ tg tm' 0 = v ∧ tg tm' 1 = .int .i64 (a : Int) ∧ tg tm' 2 = .int .i64 (b : Int) ∧ tg tm' 3 = cv ∧ tg tm' 8 = .int .i64 (i : Int) ∧ tg tm' 9 = .int .i64 (j : Int) ∧ Arr hy B v N f' ∧ Sw a b f f' ∧ (∀ p q, a ≤ p → p < q → q ≤ i → q ≠ j → lt (f' p) (f' q)) ∧ Keep (· = B) h hy) i (by omega)
      ⟨i, f1, rfl, by omega, by omega, by simp only [↓opStep_eq, ↓reduceIte, ↓EW, EV, Nat.reduceAdd, Nat.reduceEqDiff, Int.reduceEq, Int.reduceLT, Int.reduceLE, Int.reduceNe, seqC, retC, skipC, exitC, blockC, condC, t0], by simp only [↓opStep_eq, ↓reduceIte, ↓EW, EV, Nat.reduceAdd, Nat.reduceEqDiff, Int.reduceEq, Int.reduceLT, Int.reduceLE, Int.reduceNe, seqC, retC, skipC, exitC, blockC, condC, t1], by simp only [↓opStep_eq, ↓reduceIte, ↓EW, EV, Nat.reduceAdd, Nat.reduceEqDiff, Int.reduceEq, Int.reduceLT, Int.reduceLE, Int.reduceNe, seqC, retC, skipC, exitC, blockC, condC, t2], by simp only [↓opStep_eq, ↓reduceIte, ↓EW, EV, Nat.reduceAdd, Nat.reduceEqDiff, Int.reduceEq, Int.reduceLT, Int.reduceLE, Int.reduceNe, seqC, retC, skipC, exitC, blockC, condC, t3], by simp only [↓opStep_eq, ↓reduceIte, ↓EW, EV, Nat.reduceAdd, Nat.reduceEqDiff, Int.reduceEq, Int.reduceLT, Int.reduceLE, Int.reduceNe, seqC, retC, skipC, exitC, blockC, condC, t8], by simp only [↓opStep_eq, ↓reduceIte, ↓EW, EV, Nat.reduceAdd, Nat.reduceEqDiff, Int.reduceEq, Int.reduceLT, Int.reduceLE, Int.reduceNe, seqC, retC, skipC, exitC, blockC, condC], ar1, sw1, fun p q h1 h2 h3 h4 => so1 p q h1 h2 (by omega) (by omega), k1⟩ ?_)
    rintro j tm hy ⟨_, f2, rfl, haj, hji, t0, t1, t2, t3, t8, t9, ar2, sw2, so2, k2⟩
    have inj2 := sw2.inj hb inj
    unfold l47_6
    refine C.seq (C.seq fun K hK => ?_)
    refine r47_4_go cm (cm.stay _ _ k2 ok) ar2 (by omega) hN haj t0 t1 t3 t9 fun d h3 k3 hd => ?_
    have ar3 := ar2.keep0 k3
    have k3' := k2.then k3
    refine hK _ _ _ (C.cond d (by simp only [↓opStep_eq, ↓reduceIte, ↓EW, EV, Nat.reduceAdd, Nat.reduceEqDiff, Int.reduceEq, Int.reduceLT, Int.reduceLE, Int.reduceNe, seqC, retC, skipC, exitC, blockC, condC]) (fun g => C.skip ?_) fun g => C.exit ?_)
    · obtain ⟨gj, glt⟩ := hd.1 g
      refine C.seq (C.block fun K hK => ?_)
      have kr := keep_room h3 18
      have ar4 := ar3.keep0 kr
      obtain ⟨h5, h6, s1, s2, ar6, k6⟩ := ar4.swap (p := j - 1) (q := j) (by omega) (by omega)
      have w := wsub1 j (by omega) (by omega)
      simp only [↓opStep_eq, ↓reduceIte, ↓EW, EV, Nat.reduceAdd, Nat.reduceEqDiff, Int.reduceEq, Int.reduceLT, Int.reduceLE, Int.reduceNe, seqC, retC, skipC, exitC, blockC, condC, r47_6, t0, t9, w, ar4.ix (show j - 1 < N by omega), ar4.ix (show j < N by omega), ar4.ld (show j - 1 < N by omega), ar4.ld (show j < N by omega), s1, s2]
      refine hK _ _ _ fun K hK => ?_
      simp only [↓opStep_eq, ↓reduceIte, ↓EW, EV, Nat.reduceAdd, Nat.reduceEqDiff, Int.reduceEq, Int.reduceLT, Int.reduceLE, Int.reduceNe, seqC, retC, skipC, exitC, blockC, condC, r47_5, t9, w]
      refine hK _ _ _ ⟨j - 1, by omega, j - 1, _, rfl, by omega, by omega, by simp only [↓opStep_eq, ↓reduceIte, ↓EW, EV, Nat.reduceAdd, Nat.reduceEqDiff, Int.reduceEq, Int.reduceLT, Int.reduceLE, Int.reduceNe, seqC, retC, skipC, exitC, blockC, condC, t0], by simp only [↓opStep_eq, ↓reduceIte, ↓EW, EV, Nat.reduceAdd, Nat.reduceEqDiff, Int.reduceEq, Int.reduceLT, Int.reduceLE, Int.reduceNe, seqC, retC, skipC, exitC, blockC, condC, t1], by simp only [↓opStep_eq, ↓reduceIte, ↓EW, EV, Nat.reduceAdd, Nat.reduceEqDiff, Int.reduceEq, Int.reduceLT, Int.reduceLE, Int.reduceNe, seqC, retC, skipC, exitC, blockC, condC, t2], by simp only [↓opStep_eq, ↓reduceIte, ↓EW, EV, Nat.reduceAdd, Nat.reduceEqDiff, Int.reduceEq, Int.reduceLT, Int.reduceLE, Int.reduceNe, seqC, retC, skipC, exitC, blockC, condC, t3], by simp only [↓opStep_eq, ↓reduceIte, ↓EW, EV, Nat.reduceAdd, Nat.reduceEqDiff, Int.reduceEq, Int.reduceLT, Int.reduceLE, Int.reduceNe, seqC, retC, skipC, exitC, blockC, condC, t8], by simp only [↓opStep_eq, ↓reduceIte, ↓EW, EV, Nat.reduceAdd, Nat.reduceEqDiff, Int.reduceEq, Int.reduceLT, Int.reduceLE, Int.reduceNe, seqC, retC, skipC, exitC, blockC, condC], ar6, .step j (j - 1) sw2 (by omega) (by omega) (by omega) (by omega), fun p q h1 h2 h3 h4 => ?_, (k3'.then kr).trans k6 fun _ _ h => h⟩
      by_cases q1 : q = j
      · subst q1
        rw [swF_at]
        by_cases p1 : p = q - 1
        · subst p1; rw [swF_at']; exact glt
        · rw [swF_ne (by omega) p1]; exact so2 p (q - 1) h1 (by omega) (by omega) (by omega)
      · rw [swF_ne q1 h4]
        by_cases p1 : p = j
        · subst p1; rw [swF_at]; exact so2 (p - 1) q (by omega) (by omega) h3 q1
        · by_cases p2 : p = j - 1
          · subst p2; rw [swF_at']; exact so2 j q (by omega) (by omega) h3 q1
          · rw [swF_ne p1 p2]; exact so2 p q h1 h2 h3 q1
    · simp only [if_pos]
      have gd' : ¬ (a < j ∧ lt (f2 j) (f2 (j - 1))) := fun h => by have := hd.2 h; rw [g] at this; cases this
      intro K hK
      simp only [↓opStep_eq, ↓reduceIte, ↓EW, EV, Nat.reduceAdd, Nat.reduceEqDiff, Int.reduceEq, Int.reduceLT, Int.reduceLE, Int.reduceNe, seqC, retC, skipC, exitC, blockC, condC, r47_2, t8, wadd1 i (by omega)]
      refine hK _ _ _ ⟨b - (i + 1), by omega, i + 1, f2, rfl, by omega, by simp only [↓opStep_eq, ↓reduceIte, ↓EW, EV, Nat.reduceAdd, Nat.reduceEqDiff, Int.reduceEq, Int.reduceLT, Int.reduceLE, Int.reduceNe, seqC, retC, skipC, exitC, blockC, condC, t0], by simp only [↓opStep_eq, ↓reduceIte, ↓EW, EV, Nat.reduceAdd, Nat.reduceEqDiff, Int.reduceEq, Int.reduceLT, Int.reduceLE, Int.reduceNe, seqC, retC, skipC, exitC, blockC, condC, t1], by simp only [↓opStep_eq, ↓reduceIte, ↓EW, EV, Nat.reduceAdd, Nat.reduceEqDiff, Int.reduceEq, Int.reduceLT, Int.reduceLE, Int.reduceNe, seqC, retC, skipC, exitC, blockC, condC, t2], by simp only [↓opStep_eq, ↓reduceIte, ↓EW, EV, Nat.reduceAdd, Nat.reduceEqDiff, Int.reduceEq, Int.reduceLT, Int.reduceLE, Int.reduceNe, seqC, retC, skipC, exitC, blockC, condC, t3], by simp only [↓opStep_eq, ↓reduceIte, ↓EW, EV, Nat.reduceAdd, Nat.reduceEqDiff, Int.reduceEq, Int.reduceLT, Int.reduceLE, Int.reduceNe, seqC, retC, skipC, exitC, blockC, condC], ar3, sw2, fun p q h1 h2 h3 h4 => ?_, k3', by omega⟩
      by_cases q1 : q = j
      · subst q1
        have hlt : lt (f2 (q - 1)) (f2 q) := cm.nlt (fun h => gd' ⟨by omega, h⟩) fun e => by
          have := inj2 q (q - 1) (by omega) (by omega) e; omega
        by_cases p1 : p = q - 1
        · subst p1; exact hlt
        · exact cm.tr _ _ _ (so2 p (q - 1) h1 (by omega) (by omega) (by omega)) hlt
      · exact so2 p q h1 h2 (by omega) q1
  · simp only [if_pos]
    have gi : b ≤ i := by have := of_decide_eq_false g; omega
    exact ⟨(by first | exact .inl rfl | exact .inl trivial), _, rfl, f1, ar1, sw1, fun p q h1 h2 h3 => so1 p q h1 h2 (by omega) h3, k1⟩
end
end Go.Proofs.Ytpoedopdcpejmaa

namespace Go.Proofs.Ytpoedopdcpejmaa
open Go.Ev

section
variable {L B : Nat} {cv : Value} {lt : Nm → Nm → Prop} {Ok : H → Prop}
theorem Cm.asym (cm : Cm L B cv lt Ok) {x y : Nm} (h : lt x y) : ¬ lt y x := fun h' => cm.irr _ (cm.tr _ _ _ h h')
theorem Cm.ntr (cm : Cm L B cv lt Ok) {x y z : Nm} (h1 : ¬ lt x y) (h2 : ¬ lt y z) : ¬ lt x z := fun h => by
  by_cases e : x = y
  · subst e; exact h2 h
  · exact h2 (cm.tr _ _ _ (cm.nlt h1 e) h)

/-! ### heapSort -/
def HpAt (lt : Nm → Nm → Prop) (f : Nat → Nm) (s hi i : Nat) : Prop := ∀ x, (x = 2 * i + 1 ∨ x = 2 * i + 2) → x < hi → ¬ lt (f (s + i)) (f (s + x))

theorem heap_max (cm : Cm L B cv lt Ok) {f : Nat → Nm} {s hi : Nat} (h : ∀ i, HpAt lt f s hi i) : ∀ p, p < hi → ¬ lt (f s) (f (s + p)) := fun p => by
  induction p using Nat.strongRecOn with
  | _ p ih =>
    intro hp
    by_cases h0 : p = 0
    · subst h0; exact cm.irr _
    · have h1 := ih ((p - 1) / 2) (by omega) (by omega)
      have h2 := h ((p - 1) / 2) p (by omega) hp
      exact cm.ntr h1 h2

theorem sift_step (cm : Cm L B cv lt Ok) {f : Nat → Nm} {s hi lo r c : Nat} (hr : lo ≤ r) (hc : c = 2 * r + 1 ∨ c = 2 * r + 2) (hch : c < hi) (hlt : lt (f (s + r)) (f (s + c))) (hmx : ∀ x, (x = 2 * r + 1 ∨ x = 2 * r + 2) → x < hi → ¬ lt (f (s + c)) (f (s + x)))
    (I1 : ∀ i, lo ≤ i → i ≠ r → HpAt lt f s hi i) (I2 : ∀ p, lo ≤ p → (r = 2 * p + 1 ∨ r = 2 * p + 2) → ∀ x, (x = 2 * r + 1 ∨ x = 2 * r + 2) → x < hi → ¬ lt (f (s + p)) (f (s + x))) :
    (∀ i, lo ≤ i → i ≠ c → HpAt lt (swF f (s + r) (s + c)) s hi i) ∧ (∀ p, lo ≤ p → (c = 2 * p + 1 ∨ c = 2 * p + 2) → ∀ x, (x = 2 * c + 1 ∨ x = 2 * c + 2) → x < hi → ¬ lt (swF f (s + r) (s + c) (s + p)) (swF f (s + r) (s + c) (s + x))) := by
  constructor
  · intro i hi1 hi2 x hx hxh
    by_cases e1 : i = r
    · subst e1
      rw [swF_at]
      by_cases e2 : x = c
      · subst e2; rw [swF_at']; exact cm.asym hlt
      · rw [swF_ne (by omega) (by omega)]; exact hmx x hx hxh
    · rw [swF_ne (k := s + i) (by omega) (by omega)]
      by_cases e2 : x = r
      · subst e2; rw [swF_at]; exact I2 i hi1 hx c hc hch
      · rw [swF_ne (by omega) (by omega)]; exact I1 i hi1 e1 x hx hxh
  · intro p hp1 hp2 x hx hxh
    have e : p = r := by omega
    subst e
    rw [swF_at, swF_ne (by omega) (by omega)]
    exact I1 c (by omega) (by omega) x hx hxh

theorem r59_3_go (cm : Cm L B cv lt Ok) {m s c hi N : Nat} {v : Value} {f : Nat → Nm} {tm : T Value} {h : H} {K : KE} (ok : Ok h) (arr : Arr h B v N f) (hc : c < hi) (hs : s + hi ≤ N) (hN : N ≤ 1000000) (t0 : tg tm 0 = v) (t2 : tg tm 2 = .int .i64 (hi : Int)) (t3 : tg tm 3 = .int .i64 (s : Int)) (t4 : tg tm 4 = cv) (t11 : tg tm 11 = .int .i64 (c : Int)) (hK : ∀ d h', Keep nobody h h' → (d = true ↔ (c + 1 < hi ∧ lt (f (s + c)) (f (s + c + 1)))) → K .norm (T.set tm 40 (.bool d)) [] h' = true) :
    r59_3 (CF L (m + 4)) L tm [] h K = true := by
  have kr := keep_room h 22
  have ar := arr.keep0 kr
  have w1 := wadd1 c (by omega)
  by_cases g : c + 1 < hi
  · have gI : ((c + 1 : Nat) : Int) < (hi : Int) := by omega
    have w2 := wadd s c (by omega)
    have w3 := wadd1 (s + c) (by omega)
    simp only [↓opStep_eq, ↓reduceIte, ↓EW, EV, Nat.reduceAdd, Nat.reduceEqDiff, Int.reduceEq, Int.reduceLT, Int.reduceLE, Int.reduceNe, seqC, retC, skipC, exitC, blockC, condC, r59_3, ite2, t0, t2, t3, t4, t11, w1, gI, w2, w3, ar.ix (show s + c < N by omega), ar.ix (show s + c + 1 < N by omega), ar.ld (show s + c < N by omega), ar.ld (show s + c + 1 < N by omega)]
    refine cm.go (cm.stay0 kr ok) fun z h' hz k => ?_
    simp only [↓opStep_eq, ↓reduceIte, ↓EW, EV, Nat.reduceAdd, Nat.reduceEqDiff, Int.reduceEq, Int.reduceLT, Int.reduceLE, Int.reduceNe, seqC, retC, skipC, exitC, blockC, condC]
    refine hK _ _ (kr.then k) ?_
    rw [decide_eq_true_eq, hz]
    exact ⟨fun h => ⟨g, h⟩, fun h => h.2⟩
  · have gI : ¬ ((c + 1 : Nat) : Int) < (hi : Int) := by omega
    simp only [↓opStep_eq, ↓reduceIte, ↓EW, EV, Nat.reduceAdd, Nat.reduceEqDiff, Int.reduceEq, Int.reduceLT, Int.reduceLE, Int.reduceNe, seqC, retC, skipC, exitC, blockC, condC, r59_3, ite2, t2, t11, w1, gI]
    exact hK false _ kr ⟨fun h => (by cases h), fun h => absurd h.1 g⟩

theorem sift_law (cm : Cm L B cv lt Ok) {m lo hi s N : Nat} {v : Value} {f : Nat → Nm} {h : H} (ok : Ok h) (arr : Arr h B v N f) (hs : s + hi ≤ N) (hN : N ≤ 1000000) (hL : N < L) (hp : ∀ i, lo < i → HpAt lt f s hi i) (hlo : lo ≤ N) :
    Sp (CF L (m + 5)) 59 [v, .int .i64 (lo : Int), .int .i64 (hi : Int), .int .i64 (s : Int), cv] h fun r h' => ∃ f', Arr h' B v N f' ∧ Sw s (s + hi) f f' ∧ (∀ i, lo ≤ i → HpAt lt f' s hi i) ∧ Keep (· = B) h h' := by
  refine Sp.body f59 (by simp) ?_
  unfold c59
  refine C.seq fun K hK => hK .norm _ _ ?_
  refine C.block (C.loop (fun k tm' hx => ∃ r f', k = hi - r ∧ lo ≤ r ∧ r ≤ N ∧ tg tm' 0 = v ∧ tg tm' 2 = .int .i64 (hi : Int) ∧ tg tm' 3 = .int .i64 (s : Int) ∧ tg tm' 4 = cv ∧ tg tm' 10 = .int .i64 (r : Int) ∧ Arr hx B v N f' ∧ Sw s (s + hi) f f' ∧ (∀ i, lo ≤ i → i ≠ r → HpAt lt f' s hi i) ∧ (∀ p, lo ≤ p → (r = 2 * p + 1 ∨ r = 2 * p + 2) → ∀ x, (x = 2 * r + 1 ∨ x = 2 * r + 2) → x < hi → ¬ lt (f' (s + p)) (f' (s + x))) ∧ Keep (· = B) h hx) (hi - lo) (by omega)
    ⟨lo, f, rfl, by omega, by omega, by simp only [↓opStep_eq, ↓reduceIte, ↓EW, EV, Nat.reduceAdd, Nat.reduceEqDiff, Int.reduceEq, Int.reduceLT, Int.reduceLE, Int.reduceNe, seqC, retC, skipC, exitC, blockC, condC], by simp only [↓opStep_eq, ↓reduceIte, ↓EW, EV, Nat.reduceAdd, Nat.reduceEqDiff, Int.reduceEq, Int.reduceLT, Int.reduceLE, Int.reduceNe, seqC, retC, skipC, exitC, blockC, condC], by simp only [↓opStep_eq, ↓reduceIte, ↓EW, EV, Nat.reduceAdd, Nat.reduceEqDiff, Int.reduceEq, Int.reduceLT, Int.reduceLE, Int.reduceNe, seqC, retC, skipC, exitC, blockC, condC], by simp only [↓opStep_eq, ↓reduceIte, ↓EW, EV, Nat.reduceAdd, Nat.reduceEqDiff, Int.reduceEq, Int.reduceLT, Int.reduceLE, Int.reduceNe, seqC, retC, skipC, exitC, blockC, condC], by simp only [↓opStep_eq, ↓reduceIte, ↓EW, EV, Nat.reduceAdd, Nat.reduceEqDiff, Int.reduceEq, Int.reduceLT, Int.reduceLE, Int.reduceNe, seqC, retC, skipC, exitC, blockC, condC], arr, .refl _, fun i h1 h2 => hp i (by omega), fun p h1 h2 => by omega, .refl _ _⟩ ?_)
  rintro k tm hx ⟨r, f1, rfl, hr, hrN, t0, t2, t3, t4, t10, ar1, sw1, I1, I2, k1⟩
  unfold l59_8
  refine C.block (C.seq fun K hK => ?_)
  have w1 : IntKind.i64.wrap (2 * (r : Int)) = ((2 * r : Nat) : Int) := by
    rw [show 2 * (r : Int) = ((2 * r : Nat) : Int) by omega, wrap_i64 _ (by omega)]
  have w2 := wadd1 (2 * r) (by omega)
  simp only [↓opStep_eq, ↓reduceIte, ↓EW, EV, Nat.reduceAdd, Nat.reduceEqDiff, Int.reduceEq, Int.reduceLT, Int.reduceLE, Int.reduceNe, seqC, retC, skipC, exitC, blockC, condC, r59_1, t10, w1, w2]
  refine hK _ _ _ (C.seq (C.seq fun K hK => ?_))
  simp only [↓opStep_eq, ↓reduceIte, ↓EW, EV, Nat.reduceAdd, Nat.reduceEqDiff, Int.reduceEq, Int.reduceLT, Int.reduceLE, Int.reduceNe, seqC, retC, skipC, exitC, blockC, condC, r59_2, t2]
  refine hK _ _ _ (C.cond (decide ((hi : Int) ≤ ((2 * r + 1 : Nat) : Int))) (by simp only [↓opStep_eq, ↓reduceIte, ↓EW, EV, Nat.reduceAdd, Nat.reduceEqDiff, Int.reduceEq, Int.reduceLT, Int.reduceLE, Int.reduceNe, seqC, retC, skipC, exitC, blockC, condC]) (fun g => C.exit ?_) fun g => C.skip ?_)
  · have g := of_decide_eq_true g
    simp only [if_pos, Nat.reduceEqDiff, if_neg, if_false]
    refine ⟨(by first | exact .inl rfl | exact .inl trivial), _, rfl, f1, ar1, sw1, fun i hi1 => ?_, k1⟩
    by_cases e : i = r
    · subst e; intro x hx hxh; omega
    · exact I1 i hi1 e
  · have g : 2 * r + 1 < hi := by have := of_decide_eq_false g; omega
    refine C.seq (C.seq fun K hK => ?_)
    refine r59_3_go cm (cm.stay _ _ k1 ok) ar1 g hs hN (by simp only [↓opStep_eq, ↓reduceIte, ↓EW, EV, Nat.reduceAdd, Nat.reduceEqDiff, Int.reduceEq, Int.reduceLT, Int.reduceLE, Int.reduceNe, seqC, retC, skipC, exitC, blockC, condC, t0]) (by simp only [↓opStep_eq, ↓reduceIte, ↓EW, EV, Nat.reduceAdd, Nat.reduceEqDiff, Int.reduceEq, Int.reduceLT, Int.reduceLE, Int.reduceNe, seqC, retC, skipC, exitC, blockC, condC, t2]) (by simp only [↓opStep_eq, ↓reduceIte, ↓EW, EV, Nat.reduceAdd, Nat.reduceEqDiff, Int.reduceEq, Int.reduceLT, Int.reduceLE, Int.reduceNe, seqC, retC, skipC, exitC, blockC, condC, t3]) (by simp only [↓opStep_eq, ↓reduceIte, ↓EW, EV, Nat.reduceAdd, Nat.reduceEqDiff, Int.reduceEq, Int.reduceLT, Int.reduceLE, Int.reduceNe, seqC, retC, skipC, exitC, blockC, condC, t4]) (by simp only [↓opStep_eq, ↓reduceIte, ↓EW, EV, Nat.reduceAdd, Nat.reduceEqDiff, Int.reduceEq, Int.reduceLT, Int.reduceLE, Int.reduceNe, seqC, retC, skipC, exitC, blockC, condC]) fun d h2 k2 hd => ?_
    -- the greater child
    have pick : ∀ (c : Nat) (tm2 : T Value) (Q : Ex → T Value → Ev.H → Prop), (c = 2 * r + 1 ∨ c = 2 * r + 2) → c < hi → (∀ x, (x = 2 * r + 1 ∨ x = 2 * r + 2) → x < hi → ¬ lt (f1 (s + c)) (f1 (s + x))) → tg tm2 0 = v → tg tm2 2 = .int .i64 (hi : Int) → tg tm2 3 = .int .i64 (s : Int) → tg tm2 4 = cv → tg tm2 10 = .int .i64 (r : Int) → tg tm2 11 = .int .i64 (c : Int) →
        (∀ tm' h', (∃ f', Arr h' B v N f' ∧ Sw s (s + hi) f f' ∧ (∀ i, lo ≤ i → HpAt lt f' s hi i) ∧ Keep (· = B) h h') → Q .ret tm' h') →
        (∀ tm' h', (∃ r' f', hi - r' < hi - r ∧ lo ≤ r' ∧ r' ≤ N ∧ tg tm' 0 = v ∧ tg tm' 2 = .int .i64 (hi : Int) ∧ tg tm' 3 = .int .i64 (s : Int) ∧ tg tm' 4 = cv ∧ tg tm' 10 = .int .i64 (r' : Int) ∧ Arr h' B v N f' ∧ Sw s (s + hi) f f' ∧ (∀ i, lo ≤ i → i ≠ r' → HpAt lt f' s hi i) ∧ (∀ p, lo ≤ p → (r' = 2 * p + 1 ∨ r' = 2 * p + 2) → ∀ x, (x = 2 * r' + 1 ∨ x = 2 * r' + 2) → x < hi → ¬ lt (f' (s + p)) (f' (s + x))) ∧ Keep (· = B) h h') → Q .norm tm' h') →
        C ⟨seqC ⟨seqC ⟨r59_5⟩ ⟨condC ⟨fun _ tm => tg tm 58⟩ retC skipC⟩⟩ ⟨seqC ⟨r59_6⟩ ⟨r59_7⟩⟩⟩ (CF L (m + 4)) L tm2 h2 Q := fun c tm2 Q hc hch hmx u0 u2 u3 u4 u10 u11 hret hnorm => by
      refine C.seq (C.seq fun K hK => ?_)
      have kr := keep_room h2 16
      have kr2 := k2.then kr
      have ar2 := ar1.keep0 kr2
      have w3 := wadd s r (by omega)
      have w4 := wadd s c (by omega)
      simp only [↓opStep_eq, ↓reduceIte, ↓EW, EV, Nat.reduceAdd, Nat.reduceEqDiff, Int.reduceEq, Int.reduceLT, Int.reduceLE, Int.reduceNe, seqC, retC, skipC, exitC, blockC, condC, r59_5, u0, u3, u4, u10, u11, w3, w4, ar2.ix (show s + r < N by omega), ar2.ix (show s + c < N by omega), ar2.ld (show s + r < N by omega), ar2.ld (show s + c < N by omega)]
      refine cm.go (cm.stay _ _ (k1.then kr2) ok) fun z h3 hz k3 => ?_
      simp only [↓opStep_eq, ↓reduceIte, ↓EW, EV, Nat.reduceAdd, Nat.reduceEqDiff, Int.reduceEq, Int.reduceLT, Int.reduceLE, Int.reduceNe, seqC, retC, skipC, exitC, blockC, condC]
      have k3' := kr2.then k3
      refine hK _ _ _ (C.cond (!decide (z < 0)) (by simp only [↓opStep_eq, ↓reduceIte, ↓EW, EV, Nat.reduceAdd, Nat.reduceEqDiff, Int.reduceEq, Int.reduceLT, Int.reduceLE, Int.reduceNe, seqC, retC, skipC, exitC, blockC, condC]) (fun g1 => C.ret (hret _ _ ?_)) fun g1 => C.skip ?_)
      · have g1 : ¬ z < 0 := by rw [Bool.not_eq_true'] at g1; exact of_decide_eq_false g1
        rw [hz] at g1
        refine ⟨f1, ar1.keep0 k3', sw1, fun i hi1 => ?_, k1.then k3'⟩
        by_cases e : i = r
        · subst e; intro x hx hxh; exact cm.ntr g1 (hmx x hx hxh)
        · exact I1 i hi1 e
      · have g1 : z < 0 := by rw [Bool.not_eq_false'] at g1; exact of_decide_eq_true g1
        rw [hz] at g1
        refine C.seq fun K hK => ?_
        have kr4 := k3'.then (keep_room h3 24)
        have ar4 := ar1.keep0 kr4
        obtain ⟨h5, h6, s1, s2, ar6, k6⟩ := ar4.swap (p := s + c) (q := s + r) (by omega) (by omega)
        simp only [↓opStep_eq, ↓reduceIte, ↓EW, EV, Nat.reduceAdd, Nat.reduceEqDiff, Int.reduceEq, Int.reduceLT, Int.reduceLE, Int.reduceNe, seqC, retC, skipC, exitC, blockC, condC, r59_6, u0, u3, u10, u11, w3, w4, ar4.ix (show s + r < N by omega), ar4.ix (show s + c < N by omega), ar4.ld (show s + r < N by omega), ar4.ld (show s + c < N by omega), s1, s2]
        refine hK _ _ _ fun K hK => ?_
        simp only [↓opStep_eq, ↓reduceIte, ↓EW, EV, Nat.reduceAdd, Nat.reduceEqDiff, Int.reduceEq, Int.reduceLT, Int.reduceLE, Int.reduceNe, seqC, retC, skipC, exitC, blockC, condC, r59_7, u11]
        obtain ⟨J1, J2⟩ := sift_step cm hr hc hch g1 hmx I1 I2
        refine hK _ _ _ (hnorm _ _ ⟨c, _, by omega, by omega, by omega, by simp only [↓opStep_eq, ↓reduceIte, ↓EW, EV, Nat.reduceAdd, Nat.reduceEqDiff, Int.reduceEq, Int.reduceLT, Int.reduceLE, Int.reduceNe, seqC, retC, skipC, exitC, blockC, condC, u0], by simp only [↓opStep_eq, ↓reduceIte, ↓EW, EV, Nat.reduceAdd, Nat.reduceEqDiff, Int.reduceEq, Int.reduceLT, Int.reduceLE, Int.reduceNe, seqC, retC, skipC, exitC, blockC, condC, u2], by simp only [↓opStep_eq, ↓reduceIte, ↓EW, EV, Nat.reduceAdd, Nat.reduceEqDiff, Int.reduceEq, Int.reduceLT, Int.reduceLE, Int.reduceNe, seqC, retC, skipC, exitC, blockC, condC, u3], by simp only [↓opStep_eq, ↓reduceIte, ↓EW, EV, Nat.reduceAdd, Nat.reduceEqDiff, Int.reduceEq, Int.reduceLT, Int.reduceLE, Int.reduceNe, seqC, retC, skipC, exitC, blockC, condC, u4], by simp only [↓opStep_eq, ↓reduceIte, ↓EW, EV, Nat.reduceAdd, Nat.reduceEqDiff, Int.reduceEq, Int.reduceLT, Int.reduceLE, Int.reduceNe, seqC, retC, skipC, exitC, blockC, condC], ar6, .step (s + r) (s + c) sw1 (by omega) (by omega) (by omega) (by omega), J1, J2, (k1.then kr4).trans k6 fun _ _ h => h⟩)
    refine hK _ _ _ (C.cond d (by simp only [↓opStep_eq, ↓reduceIte, ↓EW, EV, Nat.reduceAdd, Nat.reduceEqDiff, Int.reduceEq, Int.reduceLT, Int.reduceLE, Int.reduceNe, seqC, retC, skipC, exitC, blockC, condC]) (fun gd1 => fun K hK => ?_) fun gd1 => C.skip ?_)
    · obtain ⟨g2, g3⟩ := hd.1 gd1
      have w5 := wadd1 (2 * r + 1) (by omega)
      simp only [↓opStep_eq, ↓reduceIte, ↓EW, EV, Nat.reduceAdd, Nat.reduceEqDiff, Int.reduceEq, Int.reduceLT, Int.reduceLE, Int.reduceNe, seqC, retC, skipC, exitC, blockC, condC, r59_4, w5]
      refine hK _ _ _ (pick (2 * r + 1 + 1) _ _ (by omega) (by omega) (fun x hx hxh => ?_) ?_ ?_ ?_ ?_ ?_ ?_ (fun tm' h' hh => ⟨.inr rfl, _, rfl, hh⟩) fun tm' h' ⟨r', f', q, rest⟩ => ⟨hi - r', q, r', f', rfl, rest⟩)
      · rcases hx with rfl | rfl
        · exact cm.asym g3
        · exact cm.irr _
      · simp only [↓opStep_eq, ↓reduceIte, ↓EW, EV, Nat.reduceAdd, Nat.reduceEqDiff, Int.reduceEq, Int.reduceLT, Int.reduceLE, Int.reduceNe, seqC, retC, skipC, exitC, blockC, condC, t0]
      · simp only [↓opStep_eq, ↓reduceIte, ↓EW, EV, Nat.reduceAdd, Nat.reduceEqDiff, Int.reduceEq, Int.reduceLT, Int.reduceLE, Int.reduceNe, seqC, retC, skipC, exitC, blockC, condC, t2]
      · simp only [↓opStep_eq, ↓reduceIte, ↓EW, EV, Nat.reduceAdd, Nat.reduceEqDiff, Int.reduceEq, Int.reduceLT, Int.reduceLE, Int.reduceNe, seqC, retC, skipC, exitC, blockC, condC, t3]
      · simp only [↓opStep_eq, ↓reduceIte, ↓EW, EV, Nat.reduceAdd, Nat.reduceEqDiff, Int.reduceEq, Int.reduceLT, Int.reduceLE, Int.reduceNe, seqC, retC, skipC, exitC, blockC, condC, t4]
      · simp only [↓opStep_eq, ↓reduceIte, ↓EW, EV, Nat.reduceAdd, Nat.reduceEqDiff, Int.reduceEq, Int.reduceLT, Int.reduceLE, Int.reduceNe, seqC, retC, skipC, exitC, blockC, condC, t10]
      · simp only [↓opStep_eq, ↓reduceIte, ↓EW, EV, Nat.reduceAdd, Nat.reduceEqDiff, Int.reduceEq, Int.reduceLT, Int.reduceLE, Int.reduceNe, seqC, retC, skipC, exitC, blockC, condC]
    · refine pick (2 * r + 1) _ _ (by omega) g (fun x hx hxh => ?_) ?_ ?_ ?_ ?_ ?_ ?_ (fun tm' h' hh => ⟨.inr rfl, _, rfl, hh⟩) fun tm' h' ⟨r', f', q, rest⟩ => ⟨hi - r', q, r', f', rfl, rest⟩
      · rcases hx with rfl | rfl
        · exact cm.irr _
        · intro hl
          have := hd.2 ⟨hxh, hl⟩
          rw [gd1] at this; cases this
      · simp only [↓opStep_eq, ↓reduceIte, ↓EW, EV, Nat.reduceAdd, Nat.reduceEqDiff, Int.reduceEq, Int.reduceLT, Int.reduceLE, Int.reduceNe, seqC, retC, skipC, exitC, blockC, condC, t0]
      · simp only [↓opStep_eq, ↓reduceIte, ↓EW, EV, Nat.reduceAdd, Nat.reduceEqDiff, Int.reduceEq, Int.reduceLT, Int.reduceLE, Int.reduceNe, seqC, retC, skipC, exitC, blockC, condC, t2]
      · simp only [↓opStep_eq, ↓reduceIte, ↓EW, EV, Nat.reduceAdd, Nat.reduceEqDiff, Int.reduceEq, Int.reduceLT, Int.reduceLE, Int.reduceNe, seqC, retC, skipC, exitC, blockC, condC, t3]
      · simp only [↓opStep_eq, ↓reduceIte, ↓EW, EV, Nat.reduceAdd, Nat.reduceEqDiff, Int.reduceEq, Int.reduceLT, Int.reduceLE, Int.reduceNe, seqC, retC, skipC, exitC, blockC, condC, t4]
      · simp only [↓opStep_eq, ↓reduceIte, ↓EW, EV, Nat.reduceAdd, Nat.reduceEqDiff, Int.reduceEq, Int.reduceLT, Int.reduceLE, Int.reduceNe, seqC, retC, skipC, exitC, blockC, condC, t10]
      · simp only [↓opStep_eq, ↓reduceIte, ↓EW, EV, Nat.reduceAdd, Nat.reduceEqDiff, Int.reduceEq, Int.reduceLT, Int.reduceLE, Int.reduceNe, seqC, retC, skipC, exitC, blockC, condC]
end
end Go.Proofs.Ytpoedopdcpejmaa

namespace Go.Proofs.Ytpoedopdcpejmaa
open Go.Ev

theorem wI (x : Int) (h1 : -1000 ≤ x) (h2 : x ≤ 1000000000) : IntKind.i64.wrap x = x := by
  rw [wrap_eq] <;> simp [IntKind.min, IntKind.max, IntKind.bits, IntKind.signed] <;> omega

section
variable {L B : Nat} {cv : Value} {lt : Nm → Nm → Prop} {Ok : H → Prop}

theorem heap_law (cm : Cm L B cv lt Ok) {m a b N : Nat} {v : Value} {f : Nat → Nm} {h : H} (ok : Ok h) (arr : Arr h B v N f) (inj : Inj f N) (hb : b ≤ N) (hN : N ≤ 1000000) (hL : N < L) (hab : a < b) :
    Sp (CF L (m + 6)) 48 [v, .int .i64 (a : Int), .int .i64 (b : Int), cv] h fun r h' => ∃ f', Arr h' B v N f' ∧ Sw a b f f' ∧ Sorted lt f' a b ∧ Keep (· = B) h h' := by
  refine Sp.body f48 (by simp) ?_
  unfold c48
  obtain ⟨hi, hhi⟩ : ∃ hi, b = a + hi := ⟨b - a, by omega⟩
  subst hhi
  have hw : IntKind.i64.wrap (((a + hi : Nat) : Int) - (a : Int)) = (hi : Int) := by
    rw [show ((a + hi : Nat) : Int) - (a : Int) = (hi : Int) by omega, wrap_i64 _ (by omega)]
  have hw1 := wsub1 hi (by omega) (by omega)
  have hq := quo_nat 3 true (hi - 1) 2 (by decide) (by omega)
  have c2 : ((2 : Nat) : Int) = 2 := rfl
  rw [c2] at hq
  refine C.seq fun K hK => hK .norm _ _ (C.seq fun K hK => hK .norm _ _ (C.seq fun K hK => ?_))
  simp only [↓opStep_eq, ↓reduceIte, ↓EW, EV, Nat.reduceAdd, Nat.reduceEqDiff, Int.reduceEq, Int.reduceLT, Int.reduceLE, Int.reduceNe, seqC, retC, skipC, exitC, blockC, condC, r48_2, hw]
  refine hK _ _ _ (C.seq (C.seq fun K hK => ?_))
  simp only [↓opStep_eq, ↓reduceIte, ↓EW, EV, Nat.reduceAdd, Nat.reduceEqDiff, Int.reduceEq, Int.reduceLT, Int.reduceLE, Int.reduceNe, seqC, retC, skipC, exitC, blockC, condC, r48_3, hw1, hq]
  refine hK .norm _ _ ?_
  have e0 : (((hi - 1) / 2 : Nat) : Int) = (((hi - 1) / 2 + 1 : Nat) : Int) - 1 := by omega
  refine C.block (C.loop (fun k tm' hx => ∃ f', k ≤ hi ∧ tg tm' 0 = v ∧ tg tm' 3 = cv ∧ tg tm' 8 = .int .i64 (a : Int) ∧ tg tm' 9 = .int .i64 0 ∧ tg tm' 10 = .int .i64 (hi : Int) ∧ tg tm' 11 = .int .i64 ((k : Int) - 1) ∧ Arr hx B v N f' ∧ Sw a (a + hi) f f' ∧ (∀ i, k ≤ i → HpAt lt f' a hi i) ∧ Keep (· = B) h hx) ((hi - 1) / 2 + 1) (by omega)
    ⟨f, by omega, by simp only [↓opStep_eq, ↓reduceIte, ↓EW, EV, Nat.reduceAdd, Nat.reduceEqDiff, Int.reduceEq, Int.reduceLT, Int.reduceLE, Int.reduceNe, seqC, retC, skipC, exitC, blockC, condC], by simp only [↓opStep_eq, ↓reduceIte, ↓EW, EV, Nat.reduceAdd, Nat.reduceEqDiff, Int.reduceEq, Int.reduceLT, Int.reduceLE, Int.reduceNe, seqC, retC, skipC, exitC, blockC, condC], by simp only [↓opStep_eq, ↓reduceIte, ↓EW, EV, Nat.reduceAdd, Nat.reduceEqDiff, Int.reduceEq, Int.reduceLT, Int.reduceLE, Int.reduceNe, seqC, retC, skipC, exitC, blockC, condC], by simp only [↓opStep_eq, ↓reduceIte, ↓EW, EV, Nat.reduceAdd, Nat.reduceEqDiff, Int.reduceEq, Int.reduceLT, Int.reduceLE, Int.reduceNe, seqC, retC, skipC, exitC, blockC, condC], by simp only [↓opStep_eq, ↓reduceIte, ↓EW, EV, Nat.reduceAdd, Nat.reduceEqDiff, Int.reduceEq, Int.reduceLT, Int.reduceLE, Int.reduceNe, seqC, retC, skipC, exitC, blockC, condC], by simp only [↓opStep_eq, ↓reduceIte, ↓EW, EV, Nat.reduceAdd, Nat.reduceEqDiff, Int.reduceEq, Int.reduceLT, Int.reduceLE, Int.reduceNe, seqC, retC, skipC, exitC, blockC, condC, e0], arr, .refl _, fun i h1 x hx hxh => by omega, .refl _ _⟩ ?_)
  rintro k tm hx ⟨f1, hk, t0, t3, t8, t9, t10, t11, ar1, sw1, hp1, k1⟩
  unfold l48_7
  refine C.seq (C.seq fun K hK => ?_)
  simp only [↓opStep_eq, ↓reduceIte, ↓EW, EV, Nat.reduceAdd, Nat.reduceEqDiff, Int.reduceEq, Int.reduceLT, Int.reduceLE, Int.reduceNe, seqC, retC, skipC, exitC, blockC, condC, r48_4, t11]
  refine hK _ _ _ (C.cond (decide ((0 : Int) ≤ (k : Int) - 1)) (by simp only [↓opStep_eq, ↓reduceIte, ↓EW, EV, Nat.reduceAdd, Nat.reduceEqDiff, Int.reduceEq, Int.reduceLT, Int.reduceLE, Int.reduceNe, seqC, retC, skipC, exitC, blockC, condC]) (fun g => C.skip ?_) fun g => C.exit ?_)
  · have g : 1 ≤ k := by have := of_decide_eq_true g; omega
    have e1 : (k : Int) - 1 = ((k - 1 : Nat) : Int) := by omega
    refine C.seq (C.block fun K hK => ?_)
    simp only [↓opStep_eq, ↓reduceIte, ↓EW, EV, Nat.reduceAdd, Nat.reduceEqDiff, Int.reduceEq, Int.reduceLT, Int.reduceLE, Int.reduceNe, seqC, retC, skipC, exitC, blockC, condC, r48_6, t0, t3, t8, t10, t11, e1]
    refine sift_law cm (cm.stay _ _ k1 ok) ar1 (by omega) hN hL (fun i hi1 => hp1 i (by omega)) (by omega) _ fun r h2 hq => ?_
    obtain ⟨f2, ar2, sw2, hp2, k2⟩ := hq
    refine hK _ _ _ fun K hK => ?_
    have w2 := wI (((k - 1 : Nat) : Int) - 1) (by omega) (by omega)
    simp only [↓opStep_eq, ↓reduceIte, ↓EW, EV, Nat.reduceAdd, Nat.reduceEqDiff, Int.reduceEq, Int.reduceLT, Int.reduceLE, Int.reduceNe, seqC, retC, skipC, exitC, blockC, condC, r48_5, t11, e1, w2]
    exact hK _ _ _ ⟨k - 1, by omega, f2, by omega, by simp only [↓opStep_eq, ↓reduceIte, ↓EW, EV, Nat.reduceAdd, Nat.reduceEqDiff, Int.reduceEq, Int.reduceLT, Int.reduceLE, Int.reduceNe, seqC, retC, skipC, exitC, blockC, condC, t0], by simp only [↓opStep_eq, ↓reduceIte, ↓EW, EV, Nat.reduceAdd, Nat.reduceEqDiff, Int.reduceEq, Int.reduceLT, Int.reduceLE, Int.reduceNe, seqC, retC, skipC, exitC, blockC, condC, t3], by simp only [↓opStep_eq, ↓reduceIte, ↓EW, EV, Nat.reduceAdd, Nat.reduceEqDiff, Int.reduceEq, Int.reduceLT, Int.reduceLE, Int.reduceNe, seqC, retC, skipC, exitC, blockC, condC, t8], by simp only [↓opStep_eq, ↓reduceIte, ↓EW, EV, Nat.reduceAdd, Nat.reduceEqDiff, Int.reduceEq, Int.reduceLT, Int.reduceLE, Int.reduceNe, seqC, retC, skipC, exitC, blockC, condC, t9], by simp only [↓opStep_eq, ↓reduceIte, ↓EW, EV, Nat.reduceAdd, Nat.reduceEqDiff, Int.reduceEq, Int.reduceLT, Int.reduceLE, Int.reduceNe, seqC, retC, skipC, exitC, blockC, condC, t10], by simp only [↓opStep_eq, ↓reduceIte, ↓EW, EV, Nat.reduceAdd, Nat.reduceEqDiff, Int.reduceEq, Int.reduceLT, Int.reduceLE, Int.reduceNe, seqC, retC, skipC, exitC, blockC, condC], ar2, sw1.trans sw2, hp2, k1.trans k2 fun _ _ h => h⟩
  · simp only [if_pos]
    have g : k = 0 := by have := of_decide_eq_false g; omega
    subst g
    have hs1 := wsub1 hi (by omega) (by omega)
    refine C.seq fun K hK => ?_
    simp only [↓opStep_eq, ↓reduceIte, ↓EW, EV, Nat.reduceAdd, Nat.reduceEqDiff, Int.reduceEq, Int.reduceLT, Int.reduceLE, Int.reduceNe, seqC, retC, skipC, exitC, blockC, condC, r48_7, t10, hs1]
    refine hK .norm _ _ ?_
    have e2 : ((hi - 1 : Nat) : Int) = (hi : Int) - 1 := by omega
    refine C.block (C.loop (fun k tm' hx => ∃ f', k ≤ hi ∧ tg tm' 0 = v ∧ tg tm' 3 = cv ∧ tg tm' 8 = .int .i64 (a : Int) ∧ tg tm' 9 = .int .i64 0 ∧ tg tm' 12 = .int .i64 ((k : Int) - 1) ∧ Arr hx B v N f' ∧ Sw a (a + hi) f f' ∧ (∀ i, HpAt lt f' a k i) ∧ (∀ p q, k ≤ p → p < q → q < hi → lt (f' (a + p)) (f' (a + q))) ∧ (∀ p q, p < k → k ≤ q → q < hi → lt (f' (a + p)) (f' (a + q))) ∧ Keep (· = B) h hx) hi (by omega)
      ⟨f1, by omega, by simp only [↓opStep_eq, ↓reduceIte, ↓EW, EV, Nat.reduceAdd, Nat.reduceEqDiff, Int.reduceEq, Int.reduceLT, Int.reduceLE, Int.reduceNe, seqC, retC, skipC, exitC, blockC, condC, t0], by simp only [↓opStep_eq, ↓reduceIte, ↓EW, EV, Nat.reduceAdd, Nat.reduceEqDiff, Int.reduceEq, Int.reduceLT, Int.reduceLE, Int.reduceNe, seqC, retC, skipC, exitC, blockC, condC, t3], by simp only [↓opStep_eq, ↓reduceIte, ↓EW, EV, Nat.reduceAdd, Nat.reduceEqDiff, Int.reduceEq, Int.reduceLT, Int.reduceLE, Int.reduceNe, seqC, retC, skipC, exitC, blockC, condC, t8], by simp only [↓opStep_eq, ↓reduceIte, ↓EW, EV, Nat.reduceAdd, Nat.reduceEqDiff, Int.reduceEq, Int.reduceLT, Int.reduceLE, Int.reduceNe, seqC, retC, skipC, exitC, blockC, condC, t9], by simp only [↓opStep_eq, ↓reduceIte, ↓EW, EV, Nat.reduceAdd, Nat.reduceEqDiff, Int.reduceEq, Int.reduceLT, Int.reduceLE, Int.reduceNe, seqC, retC, skipC, exitC, blockC, condC, e2], ar1, sw1, fun i => hp1 i (by omega), fun p q h1 h2 h3 => by omega, fun p q h1 h2 h3 => by omega, k1⟩ ?_)
    clear t0 t3 t8 t9 t10 t11 ar1 sw1 hp1 k1
    rintro k tm hx ⟨f1, hk, t0, t3, t8, t9, t12, ar1, sw1, hp1, so1, bd1, k1⟩
    unfold l48_13
    refine C.seq (C.seq fun K hK => ?_)
    simp only [↓opStep_eq, ↓reduceIte, ↓EW, EV, Nat.reduceAdd, Nat.reduceEqDiff, Int.reduceEq, Int.reduceLT, Int.reduceLE, Int.reduceNe, seqC, retC, skipC, exitC, blockC, condC, r48_8, t12]
    refine hK _ _ _ (C.cond (decide ((0 : Int) ≤ (k : Int) - 1)) (by simp only [↓opStep_eq, ↓reduceIte, ↓EW, EV, Nat.reduceAdd, Nat.reduceEqDiff, Int.reduceEq, Int.reduceLT, Int.reduceLE, Int.reduceNe, seqC, retC, skipC, exitC, blockC, condC]) (fun g => C.skip ?_) fun g => C.exit ?_)
    · have g : 1 ≤ k := by have := of_decide_eq_true g; omega
      have e1 : (k : Int) - 1 = ((k - 1 : Nat) : Int) := by omega
      have inj1 := sw1.inj hb inj
      refine C.seq (C.block (C.seq fun K hK => ?_))
      have kr := keep_room hx 20
      have ar2 := ar1.keep0 kr
      have w3 := wadd a (k - 1) (by omega)
      obtain ⟨h5, h6, s1, s2, ar6, k6⟩ := ar2.swap (p := a + (k - 1)) (q := a) (by omega) (by omega)
      simp only [↓opStep_eq, ↓reduceIte, ↓EW, EV, Nat.reduceAdd, Nat.reduceEqDiff, Int.reduceEq, Int.reduceLT, Int.reduceLE, Int.reduceNe, seqC, retC, skipC, exitC, blockC, condC, r48_10, t0, t8, t12, e1, w3, ar2.ix (show a + (k - 1) < N by omega), ar2.ix (show a < N by omega), ar2.ld (show a + (k - 1) < N by omega), ar2.ld (show a < N by omega), s1, s2]
      refine hK _ _ _ fun K hK => ?_
      have k16 : Keep (· = B) h h6 := (k1.then kr).trans k6 fun _ _ h => h
      have z : Value.int .i64 0 = .int .i64 ((0 : Nat) : Int) := rfl
      have hmax := heap_max cm hp1
      simp only [↓opStep_eq, ↓reduceIte, ↓EW, EV, Nat.reduceAdd, Nat.reduceEqDiff, Int.reduceEq, Int.reduceLT, Int.reduceLE, Int.reduceNe, seqC, retC, skipC, exitC, blockC, condC, r48_11, t0, t3, t8, t9, t12, e1]
      rw [z]
      refine sift_law cm (cm.stay _ _ k16 ok) ar6 (hi := k - 1) (by omega) hN hL (fun i hi1 x hx hxh => ?_) (by omega) _ fun r h7 hq => ?_
      · rw [swF_ne (by omega) (by omega), swF_ne (by omega) (by omega)]
        exact hp1 i x hx (by omega)
      obtain ⟨f2, ar7, sw7, hp7, k7⟩ := hq
      refine hK _ _ _ fun K hK => ?_
      have w2 := wI (((k - 1 : Nat) : Int) - 1) (by omega) (by omega)
      have top : swF f1 a (a + (k - 1)) (a + (k - 1)) = f1 a := swF_at' _ _
      have o7 : ∀ x, a + (k - 1) ≤ x → f2 x = swF f1 a (a + (k - 1)) x := fun x hx => sw7.out (.inr hx)
      -- what is left is below the top
      have low : ∀ p, p < k - 1 → lt (f2 (a + p)) (f1 a) := by
        have := sw7.all (fun x => lt x (f1 a)) (fun q h1 h2 => ?_)
        · exact fun p hp => this (a + p) (by omega) (by omega)
        · by_cases e : q = a
          · subst e
            rw [swF_at]
            refine cm.nlt (hmax (k - 1) (by omega)) fun e => ?_
            have := inj1 _ _ (by omega) (by omega) e; omega
          · rw [swF_ne e (by omega)]
            have := hmax (q - a) (by omega)
            rw [show a + (q - a) = q by omega] at this
            refine cm.nlt this fun e' => ?_
            have := inj1 _ _ (by omega) (by omega) e'; omega
      have high : ∀ q, k ≤ q → q < hi → f2 (a + q) = f1 (a + q) := fun q h1 h2 => by
        rw [o7 _ (by omega), swF_ne (by omega) (by omega)]
      have mid : f2 (a + (k - 1)) = f1 a := by rw [o7 _ (by omega), top]
      have bd0 : ∀ q, k ≤ q → q < hi → lt (f1 a) (f1 (a + q)) := fun q h1 h2 => by have := bd1 0 q (by omega) h1 h2; simpa using this
      simp only [↓opStep_eq, ↓reduceIte, ↓EW, EV, Nat.reduceAdd, Nat.reduceEqDiff, Int.reduceEq, Int.reduceLT, Int.reduceLE, Int.reduceNe, seqC, retC, skipC, exitC, blockC, condC, r48_9, t12, e1, w2]
      refine hK _ _ _ ⟨k - 1, by omega, f2, by omega, by simp only [↓opStep_eq, ↓reduceIte, ↓EW, EV, Nat.reduceAdd, Nat.reduceEqDiff, Int.reduceEq, Int.reduceLT, Int.reduceLE, Int.reduceNe, seqC, retC, skipC, exitC, blockC, condC, t0], by simp only [↓opStep_eq, ↓reduceIte, ↓EW, EV, Nat.reduceAdd, Nat.reduceEqDiff, Int.reduceEq, Int.reduceLT, Int.reduceLE, Int.reduceNe, seqC, retC, skipC, exitC, blockC, condC, t3], by simp only [↓opStep_eq, ↓reduceIte, ↓EW, EV, Nat.reduceAdd, Nat.reduceEqDiff, Int.reduceEq, Int.reduceLT, Int.reduceLE, Int.reduceNe, seqC, retC, skipC, exitC, blockC, condC, t8], by simp only [↓opStep_eq, ↓reduceIte, ↓EW, EV, Nat.reduceAdd, Nat.reduceEqDiff, Int.reduceEq, Int.reduceLT, Int.reduceLE, Int.reduceNe, seqC, retC, skipC, exitC, blockC, condC, t9], by simp only [↓opStep_eq, ↓reduceIte, ↓EW, EV, Nat.reduceAdd, Nat.reduceEqDiff, Int.reduceEq, Int.reduceLT, Int.reduceLE, Int.reduceNe, seqC, retC, skipC, exitC, blockC, condC], ar7, ?_, fun i => hp7 i (by omega), fun p q h1 h2 h3 => ?_, fun p q h1 h2 h3 => ?_, k16.trans k7 fun _ _ h => h⟩
      · exact (sw1.trans (Sw.one f1 (by omega) (by omega) (by omega) (by omega))).trans (sw7.mono (by omega) (by omega))
      · rw [high q (by omega) h3]
        by_cases e : p = k - 1
        · rw [e, mid]; exact bd0 q (by omega) h3
        · rw [high p (by omega) (by omega)]; exact so1 p q (by omega) h2 h3
      · by_cases e : q = k - 1
        · rw [e, mid]; exact low p h1
        · rw [high q (by omega) h3]
          exact cm.tr _ _ _ (low p h1) (bd0 q (by omega) h3)
    · simp only [if_pos]
      have g : k = 0 := by have := of_decide_eq_false g; omega
      subst g
      refine ⟨(by first | exact .inl rfl | exact .inl trivial), _, rfl, f1, ar1, sw1, fun p q h1 h2 h3 => ?_, k1⟩
      have := so1 (p - a) (q - a) (by omega) (by omega) (by omega)
      rw [show a + (p - a) = p by omega, show a + (q - a) = q by omega] at this
      exact this
end
end Go.Proofs.Ytpoedopdcpejmaa

namespace Go.Proofs.Ytpoedopdcpejmaa
open Go.Ev

section
variable {P : Program}
theorem binV_shl2 (t : TypeId) (c : Bool) (k k' : IntKind) (x y : Int) (h : 0 ≤ y) : binV P .shl t c (.int k x) (.int k' y) = some (.int k (k.wrap (x * 2 ^ (min y.toNat k.bits)))) := by
  have h' : ¬ y < 0 := by omega
  simp [binV, binInt, orRun, intOp, pureRun, binOp, Op.shift, h']
  cases kEq k k' <;> rfl
theorem binV_shr2 (t : TypeId) (c : Bool) (k k' : IntKind) (x y : Int) (h : 0 ≤ y) : binV P .shr t c (.int k x) (.int k' y) = some (.int k (x.fdiv (2 ^ (min y.toNat k.bits)))) := by
  have h' : ¬ y < 0 := by omega
  simp [binV, binInt, orRun, intOp, pureRun, binOp, Op.shift, h']
  cases kEq k k' <;> rfl
end

/-! ### bits.Len -/
def tabS : ByteArray := strB [0, 1, 2, 2, 3, 3, 3, 3, 4, 4, 4, 4, 4, 4, 4, 4, 5, 5, 5, 5, 5, 5, 5, 5, 5, 5, 5, 5, 5, 5, 5, 5, 6, 6, 6, 6, 6, 6, 6, 6, 6, 6, 6, 6, 6, 6, 6, 6, 6, 6, 6, 6, 6, 6, 6, 6, 6, 6, 6, 6, 6, 6, 6, 6, 7, 7, 7, 7, 7, 7, 7, 7, 7, 7, 7, 7, 7, 7, 7, 7, 7, 7, 7, 7, 7, 7, 7, 7, 7, 7, 7, 7, 7, 7, 7, 7, 7, 7, 7, 7, 7, 7, 7, 7, 7, 7, 7, 7, 7, 7, 7, 7, 7, 7, 7, 7, 7, 7, 7, 7, 7, 7, 7, 7, 7, 7, 7, 7, 8, 8, 8, 8, 8, 8, 8, 8, 8, 8, 8, 8, 8, 8, 8, 8, 8, 8, 8, 8, 8, 8, 8, 8, 8, 8, 8, 8, 8, 8, 8, 8, 8, 8, 8, 8, 8, 8, 8, 8, 8, 8, 8, 8, 8, 8, 8, 8, 8, 8, 8, 8, 8, 8, 8, 8, 8, 8, 8, 8, 8, 8, 8, 8, 8, 8, 8, 8, 8, 8, 8, 8, 8, 8, 8, 8, 8, 8, 8, 8, 8, 8, 8, 8, 8, 8, 8, 8, 8, 8, 8, 8, 8, 8, 8, 8, 8, 8, 8, 8, 8, 8, 8, 8, 8, 8, 8, 8, 8, 8, 8, 8, 8, 8, 8, 8, 8, 8, 8, 8, 8, 8, 8, 8, 8, 8, 8, 8]
noncomputable def r55x (s : ByteArray) : CodeT := fun call _ tm ds h K =>
  kO (toInt .u8 (tg tm 0)) ds h (fun v2 ds h =>
  kO (indexStr (.string s) v2) ds h (fun v3 ds h =>
  kO (toInt .i64 v3) ds h (fun v4 ds h =>
  kO (binV Try.prog .add 3 false (tg tm 2) v4) ds h (fun v5 ds h =>
  K .norm (T.set tm 2 v5) ds h))))
theorem r38_10_eq : r38_10 = r55x tabS := by kernel_rfl
def chkLen (y : Nat) : Bool := match indexStr (.string tabS) (.int .u8 (Int.ofNat y)) with
  | some (.int .u8 (.ofNat t)) => Nat.ble t 8 && (Nat.beq y 0 || Nat.ble (2 ^ t) (2 * y))
  | _ => false
theorem chkLen_all : (List.range 256).all chkLen = true := by kernel_rfl
theorem tab_at {y : Nat} (h : y < 256) : ∃ t : Nat, indexStr (.string tabS) (.int .u8 (y : Int)) = some (.int .u8 (t : Int)) ∧ t ≤ 8 ∧ (0 < y → 2 ^ t ≤ 2 * y) := by
  have h1 := List.all_eq_true.1 chkLen_all y (List.mem_range.2 h)
  unfold chkLen at h1
  split at h1
  · rename_i t ht
    simp only [Bool.and_eq_true, Bool.or_eq_true] at h1
    refine ⟨t, ht, Nat.le_of_ble_eq_true h1.1, fun hy => ?_⟩
    rcases h1.2 with e | e
    · have := Nat.eq_of_beq_eq_true e; omega
    · exact Nat.le_of_ble_eq_true e
  · cases h1

theorem len64_law (L n x : Nat) (hx2 : x < 65536) (h : H) : Sp (CF L (n + 1)) 38 [.int .u64 (x : Int)] h fun r h' => ∃ t : Nat, r = .int .i64 (t : Int) ∧ t ≤ 16 ∧ (0 < x → 2 ^ t ≤ 2 * x) ∧ Keep nobody h h' := by
  refine Sp.body f38 (by simp) ?_
  unfold c38
  have g1 : ¬ (4294967296 : Int) ≤ (x : Int) := by omega
  have g2 : ¬ (65536 : Int) ≤ (x : Int) := by omega
  have wu : ∀ y : Nat, y < 256 → toInt .u8 (.int .u64 (y : Int)) = some (.int .u8 (y : Int)) := fun y hy => by
    rw [toInt_int, wrapu8, Nat.mod_eq_of_lt hy]
  have wt : ∀ t : Nat, t ≤ 8 → toInt .i64 (.int .u8 (t : Int)) = some (.int .i64 (t : Int)) := fun t ht => by
    rw [toInt_int, wrap_i64 _ (by omega)]
  refine C.seq fun K hK => hK .norm _ _ (C.seq (C.seq fun K hK => ?_))
  simp only [↓opStep_eq, ↓reduceIte, ↓EW, EV, Nat.reduceAdd, Nat.reduceEqDiff, Int.reduceEq, Int.reduceLT, Int.reduceLE, Int.reduceNe, seqC, retC, skipC, exitC, blockC, condC, r38_1, g1]
  refine hK _ _ _ (C.cond false (by simp only [↓opStep_eq, ↓reduceIte, ↓EW, EV, Nat.reduceAdd, Nat.reduceEqDiff, Int.reduceEq, Int.reduceLT, Int.reduceLE, Int.reduceNe, seqC, retC, skipC, exitC, blockC, condC]) (fun g => by cases g) fun g => C.skip (C.seq (C.seq fun K hK => ?_)))
  simp only [↓opStep_eq, ↓reduceIte, ↓EW, EV, Nat.reduceAdd, Nat.reduceEqDiff, Int.reduceEq, Int.reduceLT, Int.reduceLE, Int.reduceNe, seqC, retC, skipC, exitC, blockC, condC, r38_4, g2]
  refine hK _ _ _ (C.cond false (by simp only [↓opStep_eq, ↓reduceIte, ↓EW, EV, Nat.reduceAdd, Nat.reduceEqDiff, Int.reduceEq, Int.reduceLT, Int.reduceLE, Int.reduceNe, seqC, retC, skipC, exitC, blockC, condC]) (fun g => by cases g) fun g => C.skip (C.seq (C.seq fun K hK => ?_)))
  simp only [↓opStep_eq, ↓reduceIte, ↓EW, EV, Nat.reduceAdd, Nat.reduceEqDiff, Int.reduceEq, Int.reduceLT, Int.reduceLE, Int.reduceNe, seqC, retC, skipC, exitC, blockC, condC, r38_7]
  refine hK _ _ _ (C.cond (decide ((256 : Int) ≤ (x : Int))) (by simp only [↓opStep_eq, ↓reduceIte, ↓EW, EV, Nat.reduceAdd, Nat.reduceEqDiff, Int.reduceEq, Int.reduceLT, Int.reduceLE, Int.reduceNe, seqC, retC, skipC, exitC, blockC, condC]) (fun g => ?_) fun g => C.skip ?_)
  · have g : 256 ≤ x := by have := of_decide_eq_true g; omega
    have hq : (x : Int).fdiv (2 ^ (min (8 : Int).toNat IntKind.u64.bits)) = ((x / 256 : Nat) : Int) := by
      have e : (2 : Int) ^ (min (8 : Int).toNat IntKind.u64.bits) = 256 := by decide
      rw [e, Int.fdiv_eq_ediv_of_nonneg _ (by omega)]; rfl
    have hs := binV_shr2 (P := Try.prog) 83 true .u64 .u64 (x : Int) 8 (by decide)
    rw [hq] at hs
    obtain ⟨t, e1, e2, e3⟩ := tab_at (y := x / 256) (by omega)
    refine C.seq fun K hK => ?_
    simp only [↓opStep_eq, ↓reduceIte, ↓EW, EV, Nat.reduceAdd, Nat.reduceEqDiff, Int.reduceEq, Int.reduceLT, Int.reduceLE, Int.reduceNe, seqC, retC, skipC, exitC, blockC, condC, r38_8, hs]
    refine hK _ _ _ fun K hK => ?_
    have w8 : IntKind.i64.wrap (0 + 8) = 8 := by decide
    simp only [↓opStep_eq, ↓reduceIte, ↓EW, EV, Nat.reduceAdd, Nat.reduceEqDiff, Int.reduceEq, Int.reduceLT, Int.reduceLE, Int.reduceNe, seqC, retC, skipC, exitC, blockC, condC, r38_9, w8]
    refine hK _ _ _ (C.seq fun K hK => ?_)
    have w := wadd 8 t (by omega)
    have c8 : ((8 : Nat) : Int) = 8 := rfl
    rw [c8] at w
    have e1' : indexStr (.string tabS) (.int .u8 ((x / 256 : Nat) : Int)) = some (.int .u8 (t : Int)) := e1
    rw [show ∀ x : CodeT, (⟨x⟩ : Box CodeT).f = x from fun _ => rfl, r38_10_eq]
    simp only [↓opStep_eq, ↓reduceIte, ↓EW, EV, Nat.reduceAdd, Nat.reduceEqDiff, Int.reduceEq, Int.reduceLT, Int.reduceLE, Int.reduceNe, seqC, retC, skipC, exitC, blockC, condC, r55x, wu _ (show x / 256 < 256 by omega), e1', wt t e2, w]
    refine hK _ _ _ (C.ret ⟨.inr rfl, _, rfl, 8 + t, by simp only [↓opStep_eq, ↓reduceIte, ↓EW, EV, Nat.reduceAdd, Nat.reduceEqDiff, Int.reduceEq, Int.reduceLT, Int.reduceLE, Int.reduceNe, seqC, retC, skipC, exitC, blockC, condC, resOf], by omega, fun _ => ?_, .refl _ _⟩)
    have := e3 (by omega)
    rw [Nat.pow_add]
    omega
  · have g : x < 256 := by have := of_decide_eq_false g; omega
    obtain ⟨t, e1, e2, e3⟩ := tab_at g
    refine C.seq fun K hK => ?_
    have w := wadd 0 t (by omega)
    have c0 : ((0 : Nat) : Int) = 0 := rfl
    rw [c0, Nat.zero_add] at w
    rw [show ∀ x : CodeT, (⟨x⟩ : Box CodeT).f = x from fun _ => rfl, r38_10_eq]
    simp only [↓opStep_eq, ↓reduceIte, ↓EW, EV, Nat.reduceAdd, Nat.reduceEqDiff, Int.reduceEq, Int.reduceLT, Int.reduceLE, Int.reduceNe, seqC, retC, skipC, exitC, blockC, condC, r55x, wu x g, e1, wt t e2, w]
    exact hK _ _ _ (C.ret ⟨.inr rfl, _, rfl, t, by simp only [↓opStep_eq, ↓reduceIte, ↓EW, EV, Nat.reduceAdd, Nat.reduceEqDiff, Int.reduceEq, Int.reduceLT, Int.reduceLE, Int.reduceNe, seqC, retC, skipC, exitC, blockC, condC, resOf], by omega, e3, .refl _ _⟩)

theorem len_bits (L n x : Nat) (hx2 : x < 65536) (h : H) : Sp (CF L (n + 2)) 41 [.int .u64 (x : Int)] h fun r h' => ∃ t : Nat, r = .int .i64 (t : Int) ∧ t ≤ 16 ∧ (0 < x → 2 ^ t ≤ 2 * x) ∧ Keep nobody h h' := by
  refine Sp.body f41 (by simp) ?_
  unfold c41
  refine C.seq fun K hK => hK .norm _ _ (C.seq (C.cond false rfl (fun g => by cases g) fun g => C.skip (C.seq fun K hK => ?_)))
  simp only [↓opStep_eq, ↓reduceIte, ↓EW, EV, Nat.reduceAdd, Nat.reduceEqDiff, Int.reduceEq, Int.reduceLT, Int.reduceLE, Int.reduceNe, seqC, retC, skipC, exitC, blockC, condC, r41_2]
  refine len64_law L n x hx2 h _ fun r h1 hq => ?_
  obtain ⟨t, rfl, e1, e2, k1⟩ := hq
  exact hK _ _ _ (C.ret ⟨.inr rfl, _, rfl, t, by simp only [↓opStep_eq, ↓reduceIte, ↓EW, EV, Nat.reduceAdd, Nat.reduceEqDiff, Int.reduceEq, Int.reduceLT, Int.reduceLE, Int.reduceNe, seqC, retC, skipC, exitC, blockC, condC, resOf], e1, e2, k1⟩)

theorem pow_law (L n x : Nat) (hx : 0 < x) (hx2 : x < 65536) (h : H) : Sp (CF L (n + 3)) 60 [.int .i64 (x : Int)] h fun r h' => ∃ p : Nat, r = .int .u64 (p : Int) ∧ 0 < p ∧ p ≤ 2 * x ∧ Keep nobody h h' := by
  refine Sp.body f60 (by simp) ?_
  unfold c60
  have ti : toInt .u64 (.int .i64 (x : Int)) = some (.int .u64 (x : Int)) := by
    rw [toInt_int, wrap_eq] <;> simp [IntKind.min, IntKind.max, IntKind.bits, IntKind.signed] <;> omega
  refine C.seq fun K hK => hK .norm _ _ (C.seq fun K hK => ?_)
  simp only [↓opStep_eq, ↓reduceIte, ↓EW, EV, Nat.reduceAdd, Nat.reduceEqDiff, Int.reduceEq, Int.reduceLT, Int.reduceLE, Int.reduceNe, seqC, retC, skipC, exitC, blockC, condC, r60_1, ti]
  refine len_bits L n x hx2 h _ fun r h1 hq => ?_
  obtain ⟨t, rfl, e1, e2, k1⟩ := hq
  have e2 := e2 hx
  have hs := binV_shl2 (P := Try.prog) 87 true .u64 .i64 1 (t : Int) (by omega)
  have ht : min ((t : Int)).toNat IntKind.u64.bits = t := by
    rw [Int.toNat_natCast]
    exact Nat.min_eq_left (by show t ≤ 64; omega)
  have hp : (1 : Int) * 2 ^ t = ((2 ^ t : Nat) : Int) := by rw [Int.one_mul]; exact (Int.natCast_pow 2 t).symm
  have hw : IntKind.u64.wrap ((2 ^ t : Nat) : Int) = ((2 ^ t : Nat) : Int) := by
    generalize 2 ^ t = z at *
    rw [wrap_eq] <;> simp [IntKind.min, IntKind.max, IntKind.bits, IntKind.signed] <;> omega
  rw [ht, hp, hw] at hs
  have hpos : 0 < 2 ^ t := Nat.pow_pos (by decide)
  simp only [↓opStep_eq, ↓reduceIte, ↓EW, EV, Nat.reduceAdd, Nat.reduceEqDiff, Int.reduceEq, Int.reduceLT, Int.reduceLE, Int.reduceNe, seqC, retC, skipC, exitC, blockC, condC, hs]
  exact hK _ _ _ (C.ret ⟨.inr rfl, _, rfl, 2 ^ t, by simp only [↓opStep_eq, ↓reduceIte, ↓EW, EV, Nat.reduceAdd, Nat.reduceEqDiff, Int.reduceEq, Int.reduceLT, Int.reduceLE, Int.reduceNe, seqC, retC, skipC, exitC, blockC, condC, resOf], hpos, e2, k1⟩)

/-! ### breakPatterns -/
theorem next_law (L n : Nat) (x : Int) {b : Nat} {h : H} (hb : Has h b (.rw [.int .u64 x])) : Sp (CF L (n + 1)) 61 [.pointer (some ⟨b, 0, none⟩)] h fun r h' => ∃ y : Int, r = .int .u64 y ∧ Has h' b (.rw [.int .u64 y]) ∧ Keep (· = b) h h' := by
  refine Sp.body f61 (by simp) ?_
  unfold c61
  have one : ∀ (hx : H) (x : Int), Has hx b (.rw [.int .u64 x]) → (∀ s, loadOne hx (.pointer (some ⟨b, 0, s⟩)) = some (.int .u64 x)) ∧ ∀ (y : Int) s, storeV 1 hx (.pointer (some ⟨b, 0, s⟩)) (.int .u64 y) = some (hx.put b (.rw [.int .u64 y])) := fun hx x hb => ⟨fun s => by rw [loadOne_has hb rfl]; rfl, fun y s => store_int hb (by simp)⟩
  have sl : ∀ (x y : Int), 0 ≤ y → binV Try.prog .shl 102 true (.int .u64 x) (.int .u64 y) = some (.int .u64 (IntKind.u64.wrap (x * 2 ^ (min y.toNat IntKind.u64.bits)))) := fun x y h => binV_shl2 _ _ _ _ _ _ h
  have sr : ∀ (x y : Int), 0 ≤ y → binV Try.prog .shr 102 true (.int .u64 x) (.int .u64 y) = some (.int .u64 (x.fdiv (2 ^ (min y.toNat IntKind.u64.bits)))) := fun x y h => binV_shr2 _ _ _ _ _ _ h
  refine C.seq fun K hK => hK .norm _ _ (C.seq fun K hK => ?_)
  have kr := keep_room h 10
  obtain ⟨l1, s1⟩ := one _ _ (hb.keep0 kr)
  simp only [↓opStep_eq, ↓reduceIte, ↓EW, EV, Nat.reduceAdd, Nat.reduceEqDiff, Int.reduceEq, Int.reduceLT, Int.reduceLE, Int.reduceNe, seqC, retC, skipC, exitC, blockC, condC, r61_1, nilChk_some, l1, sl x 13 (by decide), binV_xor, s1]
  have hb1 : Has ((⟨h.objs, h.next + 10⟩ : H).put b (.rw [.int .u64 (IntKind.u64.wrap ((BitVec.ofInt IntKind.u64.bits x ^^^ BitVec.ofInt IntKind.u64.bits (IntKind.u64.wrap (x * 2 ^ (min (13 : Int).toNat IntKind.u64.bits)))).toNat : Int))])) b _ := Has.put (hb.keep0 kr).1
  have k1 := kr.mono (S' := (· = b)) (fun _ _ h => h.elim) |>.trans (Keep.put _ b (.rw [.int .u64 (IntKind.u64.wrap ((BitVec.ofInt IntKind.u64.bits x ^^^ BitVec.ofInt IntKind.u64.bits (IntKind.u64.wrap (x * 2 ^ (min (13 : Int).toNat IntKind.u64.bits)))).toNat : Int))])) fun _ _ h => h
  generalize IntKind.u64.wrap ((BitVec.ofInt IntKind.u64.bits x ^^^ BitVec.ofInt IntKind.u64.bits (IntKind.u64.wrap (x * 2 ^ (min (13 : Int).toNat IntKind.u64.bits)))).toNat : Int) = x1 at *
  generalize (⟨h.objs, h.next + 10⟩ : H).put b (.rw [.int .u64 x1]) = h1 at *
  refine hK _ _ _ (C.seq fun K hK => ?_)
  have kr := keep_room h1 10
  obtain ⟨l1, s1⟩ := one _ _ (hb1.keep0 kr)
  simp only [↓opStep_eq, ↓reduceIte, ↓EW, EV, Nat.reduceAdd, Nat.reduceEqDiff, Int.reduceEq, Int.reduceLT, Int.reduceLE, Int.reduceNe, seqC, retC, skipC, exitC, blockC, condC, r61_2, nilChk_some, l1, sr x1 7 (by decide), binV_xor, s1]
  have hb2 : Has ((⟨h1.objs, h1.next + 10⟩ : H).put b (.rw [.int .u64 (IntKind.u64.wrap ((BitVec.ofInt IntKind.u64.bits x1 ^^^ BitVec.ofInt IntKind.u64.bits (x1.fdiv (2 ^ (min (7 : Int).toNat IntKind.u64.bits)))).toNat : Int))])) b _ := Has.put (hb1.keep0 kr).1
  have k2 := (k1.then kr).trans (Keep.put _ b (.rw [.int .u64 (IntKind.u64.wrap ((BitVec.ofInt IntKind.u64.bits x1 ^^^ BitVec.ofInt IntKind.u64.bits (x1.fdiv (2 ^ (min (7 : Int).toNat IntKind.u64.bits)))).toNat : Int))])) fun _ _ h => h
  generalize IntKind.u64.wrap ((BitVec.ofInt IntKind.u64.bits x1 ^^^ BitVec.ofInt IntKind.u64.bits (x1.fdiv (2 ^ (min (7 : Int).toNat IntKind.u64.bits)))).toNat : Int) = x2 at *
  generalize (⟨h1.objs, h1.next + 10⟩ : H).put b (.rw [.int .u64 x2]) = h2 at *
  refine hK _ _ _ (C.seq fun K hK => ?_)
  have kr := keep_room h2 10
  obtain ⟨l1, s1⟩ := one _ _ (hb2.keep0 kr)
  simp only [↓opStep_eq, ↓reduceIte, ↓EW, EV, Nat.reduceAdd, Nat.reduceEqDiff, Int.reduceEq, Int.reduceLT, Int.reduceLE, Int.reduceNe, seqC, retC, skipC, exitC, blockC, condC, r61_3, nilChk_some, l1, sl x2 17 (by decide), binV_xor, s1]
  have hb3 : Has ((⟨h2.objs, h2.next + 10⟩ : H).put b (.rw [.int .u64 (IntKind.u64.wrap ((BitVec.ofInt IntKind.u64.bits x2 ^^^ BitVec.ofInt IntKind.u64.bits (IntKind.u64.wrap (x2 * 2 ^ (min (17 : Int).toNat IntKind.u64.bits)))).toNat : Int))])) b _ := Has.put (hb2.keep0 kr).1
  have k3 := (k2.then kr).trans (Keep.put _ b (.rw [.int .u64 (IntKind.u64.wrap ((BitVec.ofInt IntKind.u64.bits x2 ^^^ BitVec.ofInt IntKind.u64.bits (IntKind.u64.wrap (x2 * 2 ^ (min (17 : Int).toNat IntKind.u64.bits)))).toNat : Int))])) fun _ _ h => h
  generalize IntKind.u64.wrap ((BitVec.ofInt IntKind.u64.bits x2 ^^^ BitVec.ofInt IntKind.u64.bits (IntKind.u64.wrap (x2 * 2 ^ (min (17 : Int).toNat IntKind.u64.bits)))).toNat : Int) = x3 at *
  generalize (⟨h2.objs, h2.next + 10⟩ : H).put b (.rw [.int .u64 x3]) = h3 at *
  refine hK _ _ _ (C.seq fun K hK => ?_)
  obtain ⟨l1, _⟩ := one _ _ hb3
  simp only [↓opStep_eq, ↓reduceIte, ↓EW, EV, Nat.reduceAdd, Nat.reduceEqDiff, Int.reduceEq, Int.reduceLT, Int.reduceLE, Int.reduceNe, seqC, retC, skipC, exitC, blockC, condC, r61_4, nilChk_some, l1]
  exact hK _ _ _ (C.ret ⟨.inr rfl, _, rfl, x3, by simp only [↓opStep_eq, ↓reduceIte, ↓EW, EV, Nat.reduceAdd, Nat.reduceEqDiff, Int.reduceEq, Int.reduceLT, Int.reduceLE, Int.reduceNe, seqC, retC, skipC, exitC, blockC, condC, resOf], hb3, k3⟩)
end Go.Proofs.Ytpoedopdcpejmaa

namespace Go.Proofs.Ytpoedopdcpejmaa
open Go.Ev

section
variable {L B : Nat} {cv : Value} {lt : Nm → Nm → Prop} {Ok : H → Prop}

theorem and_lt (y : Int) (p : Nat) (hp : 0 < p) (hp2 : p ≤ 131072) : ∃ o : Nat, o < p ∧ binV Try.prog .and 87 false (.int .u64 y) (.int .u64 ((p - 1 : Nat) : Int)) = some (.int .u64 (o : Int)) := by
  refine ⟨(BitVec.ofInt IntKind.u64.bits y &&& BitVec.ofInt IntKind.u64.bits ((p - 1 : Nat) : Int)).toNat, ?_, ?_⟩
  · have h1 : (BitVec.ofInt IntKind.u64.bits y &&& BitVec.ofInt IntKind.u64.bits ((p - 1 : Nat) : Int)).toNat ≤ (BitVec.ofInt IntKind.u64.bits ((p - 1 : Nat) : Int)).toNat := by
      rw [BitVec.toNat_and]; exact Nat.and_le_right
    have h2 : (BitVec.ofInt IntKind.u64.bits ((p - 1 : Nat) : Int)).toNat = p - 1 := by
      show (BitVec.ofInt 64 ((p - 1 : Nat) : Int)).toNat = p - 1
      rw [BitVec.toNat_ofInt]; omega
    omega
  · rw [binV_and]
    congr 2
    have h3 := (BitVec.ofInt IntKind.u64.bits y &&& BitVec.ofInt IntKind.u64.bits ((p - 1 : Nat) : Int)).isLt
    have h4 : (2 : Nat) ^ IntKind.u64.bits = 18446744073709551616 := by decide
    rw [h4] at h3
    generalize (BitVec.ofInt IntKind.u64.bits y &&& BitVec.ofInt IntKind.u64.bits ((p - 1 : Nat) : Int)).toNat = o at *
    rw [wrap_eq] <;> simp [IntKind.min, IntKind.max, IntKind.bits, IntKind.signed] <;> omega

theorem break_law (m : Nat) {a b N : Nat} {v : Value} {f : Nat → Nm} {h : H} (arr : Arr h B v N f) (hb : b ≤ N) (hN : N < 60000) (hL : N < L) (hab : a + 12 < b) :
    Sp (CF L (m + 4)) 49 [v, .int .i64 (a : Int), .int .i64 (b : Int), cv] h fun r h' => ∃ f', Arr h' B v N f' ∧ Sw a b f f' ∧ Keep (· = B) h h' := by
  refine Sp.body f49 (by simp) ?_
  unfold c49
  obtain ⟨l, hl⟩ : ∃ l, b = a + l := ⟨b - a, by omega⟩
  subst hl
  have hw : IntKind.i64.wrap (((a + l : Nat) : Int) - (a : Int)) = (l : Int) := by
    rw [show ((a + l : Nat) : Int) - (a : Int) = (l : Int) by omega, wrap_i64 _ (by omega)]
  refine C.seq fun K hK => ?_
  simp only [↓opStep_eq, ↓reduceIte, ↓EW, EV, Nat.reduceAdd, Nat.reduceEqDiff, Int.reduceEq, Int.reduceLT, Int.reduceLE, Int.reduceNe, seqC, retC, skipC, exitC, blockC, condC, r49_0, hw]
  refine hK _ _ _ (C.seq fun K hK => ?_)
  have g8 : (8 : Int) ≤ (l : Int) := by omega
  simp only [↓opStep_eq, ↓reduceIte, ↓EW, EV, Nat.reduceAdd, Nat.reduceEqDiff, Int.reduceEq, Int.reduceLT, Int.reduceLE, Int.reduceNe, seqC, retC, skipC, exitC, blockC, condC, r49_1, g8]
  refine hK _ _ _ (C.cond true (by simp only [↓opStep_eq, ↓reduceIte, ↓EW, EV, Nat.reduceAdd, Nat.reduceEqDiff, Int.reduceEq, Int.reduceLT, Int.reduceLE, Int.reduceNe, seqC, retC, skipC, exitC, blockC, condC]) (fun g => ?_) fun g => by cases g)
  have ti : toInt .u64 (.int .i64 (l : Int)) = some (.int .u64 (l : Int)) := by
    rw [toInt_int, wrap_eq] <;> simp [IntKind.min, IntKind.max, IntKind.bits, IntKind.signed] <;> omega
  refine C.seq fun K hK => ?_
  have sn : ∀ s, storeV 1 (h.new (.rw [.int .u64 0])) (.pointer (some ⟨h.next, 0, s⟩)) (.int .u64 (l : Int)) = some ((h.new (.rw [.int .u64 0])).put h.next (.rw [.int .u64 (l : Int)])) := fun s => store_int (Has.new h _) (by simp)
  simp only [↓opStep_eq, ↓reduceIte, ↓EW, EV, Nat.reduceAdd, Nat.reduceEqDiff, Int.reduceEq, Int.reduceLT, Int.reduceLE, Int.reduceNe, seqC, retC, skipC, exitC, blockC, condC, r49_2, ti, sn]
  have k1 := keep_alloc h (.rw [.int .u64 0]) (.rw [.int .u64 (l : Int)])
  have b1 := has_alloc h (.rw [.int .u64 0]) (.rw [.int .u64 (l : Int)])
  generalize (h.new (.rw [.int .u64 0])).put h.next (.rw [.int .u64 (l : Int)]) = h1 at *
  have hBn := arr.lt
  refine hK _ _ _ (C.seq fun K hK => ?_)
  simp only [↓opStep_eq, ↓reduceIte, ↓EW, EV, Nat.reduceAdd, Nat.reduceEqDiff, Int.reduceEq, Int.reduceLT, Int.reduceLE, Int.reduceNe, seqC, retC, skipC, exitC, blockC, condC, r49_3]
  refine pow_law L m l (by omega) (by omega) h1 _ fun r h2 hq => ?_
  obtain ⟨p, rfl, hp0, hp2, k2⟩ := hq
  have k12 := k1.then k2
  have b2 := b1.keep0 k2
  have q4 := quo_nat 3 true l 4 (by decide) (by omega)
  have c4 : ((4 : Nat) : Int) = 4 := rfl
  rw [c4] at q4
  have w2 : IntKind.i64.wrap (((l / 4 : Nat) : Int) * 2) = ((l / 4 * 2 : Nat) : Int) := by
    rw [show ((l / 4 : Nat) : Int) * 2 = ((l / 4 * 2 : Nat) : Int) by omega, wrap_i64 _ (by omega)]
  have w3 := wadd a (l / 4 * 2) (by omega)
  have w4 := wsub1 (a + l / 4 * 2) (by omega) (by omega)
  have w5 := wadd1 (a + l / 4 * 2) (by omega)
  refine hK _ _ _ (C.seq fun K hK => ?_)
  simp only [↓opStep_eq, ↓reduceIte, ↓EW, EV, Nat.reduceAdd, Nat.reduceEqDiff, Int.reduceEq, Int.reduceLT, Int.reduceLE, Int.reduceNe, seqC, retC, skipC, exitC, blockC, condC, r49_4, q4, w2, w3, w4]
  refine hK .norm _ _ ?_
  refine C.block (C.loop (fun k tm' hx => ∃ i f' x, k = a + l / 4 * 2 + 2 - i ∧ a + l / 4 * 2 - 1 ≤ i ∧ i ≤ a + l / 4 * 2 + 2 ∧ tg tm' 0 = v ∧ tg tm' 1 = .int .i64 (a : Int) ∧ tg tm' 8 = .int .i64 (l : Int) ∧ tg tm' 9 = .pointer (some ⟨h.next, 0, none⟩) ∧ tg tm' 10 = .int .u64 (p : Int) ∧ tg tm' 11 = .int .i64 (i : Int) ∧ Arr hx B v N f' ∧ Sw a (a + l) f f' ∧ Has hx h.next (.rw [.int .u64 x]) ∧ Keep (· = B) h hx) 3 (by omega)
    ⟨a + l / 4 * 2 - 1, f, (l : Int), by omega, by omega, by omega, by simp only [↓opStep_eq, ↓reduceIte, ↓EW, EV, Nat.reduceAdd, Nat.reduceEqDiff, Int.reduceEq, Int.reduceLT, Int.reduceLE, Int.reduceNe, seqC, retC, skipC, exitC, blockC, condC], by simp only [↓opStep_eq, ↓reduceIte, ↓EW, EV, Nat.reduceAdd, Nat.reduceEqDiff, Int.reduceEq, Int.reduceLT, Int.reduceLE, Int.reduceNe, seqC, retC, skipC, exitC, blockC, condC], by simp only [↓opStep_eq, ↓reduceIte, ↓EW, EV, Nat.reduceAdd, Nat.reduceEqDiff, Int.reduceEq, Int.reduceLT, Int.reduceLE, Int.reduceNe, seqC, retC, skipC, exitC, blockC, condC], by simp only [↓opStep_eq, ↓reduceIte, ↓EW, EV, Nat.reduceAdd, Nat.reduceEqDiff, Int.reduceEq, Int.reduceLT, Int.reduceLE, Int.reduceNe, seqC, retC, skipC, exitC, blockC, condC], by simp only [↓opStep_eq, ↓reduceIte, ↓EW, EV, Nat.reduceAdd, Nat.reduceEqDiff, Int.reduceEq, Int.reduceLT, Int.reduceLE, Int.reduceNe, seqC, retC, skipC, exitC, blockC, condC], by simp only [↓opStep_eq, ↓reduceIte, ↓EW, EV, Nat.reduceAdd, Nat.reduceEqDiff, Int.reduceEq, Int.reduceLT, Int.reduceLE, Int.reduceNe, seqC, retC, skipC, exitC, blockC, condC], arr.keep0 k12, .refl _, b2, k12.mono fun _ _ h => h.elim⟩ ?_)
  rintro k tm hx ⟨i, f1, x, rfl, hi, hi2, t0, t1, t8, t9, t10, t11, ar1, sw1, hs1, kx⟩
  unfold l49_11
  refine C.seq (C.seq fun K hK => ?_)
  simp only [↓opStep_eq, ↓reduceIte, ↓EW, EV, Nat.reduceAdd, Nat.reduceEqDiff, Int.reduceEq, Int.reduceLT, Int.reduceLE, Int.reduceNe, seqC, retC, skipC, exitC, blockC, condC, r49_5, t1, t8, t11, q4, w2, w3, w5]
  refine hK _ _ _ (C.cond (decide ((i : Int) ≤ ((a + l / 4 * 2 + 1 : Nat) : Int))) (by simp only [↓opStep_eq, ↓reduceIte, ↓EW, EV, Nat.reduceAdd, Nat.reduceEqDiff, Int.reduceEq, Int.reduceLT, Int.reduceLE, Int.reduceNe, seqC, retC, skipC, exitC, blockC, condC]) (fun g => C.skip ?_) fun g => C.exit ?_)
  · have g : i ≤ a + l / 4 * 2 + 1 := by have := of_decide_eq_true g; omega
    refine C.seq (C.block (C.seq fun K hK => ?_))
    simp only [↓opStep_eq, ↓reduceIte, ↓EW, EV, Nat.reduceAdd, Nat.reduceEqDiff, Int.reduceEq, Int.reduceLT, Int.reduceLE, Int.reduceNe, seqC, retC, skipC, exitC, blockC, condC, r49_7, t9]
    refine next_law L (m + 2) x hs1 _ fun r h3 hq => ?_
    obtain ⟨y, rfl, hs3, k3⟩ := hq
    have wp : IntKind.u64.wrap ((p : Int) - 1) = ((p - 1 : Nat) : Int) := by
      rw [show (p : Int) - 1 = ((p - 1 : Nat) : Int) by omega, wrap_eq] <;> simp [IntKind.min, IntKind.max, IntKind.bits, IntKind.signed] <;> omega
    obtain ⟨o, ho, ha⟩ := and_lt y p hp0 (by omega)
    have to : toInt .i64 (.int .u64 (o : Int)) = some (.int .i64 (o : Int)) := by rw [toInt_int, wrap_i64 _ (by omega)]
    simp only [↓opStep_eq, ↓reduceIte, ↓EW, EV, Nat.reduceAdd, Nat.reduceEqDiff, Int.reduceEq, Int.reduceLT, Int.reduceLE, Int.reduceNe, seqC, retC, skipC, exitC, blockC, condC, t10, wp, ha, to]
    have kx3 : Keep (· = B) h h3 := ⟨Nat.le_trans kx.next k3.next, fun c hc hn => (k3.same c (Nat.lt_of_lt_of_le hc kx.next) (by omega)).trans (kx.same c hc hn)⟩
    have ar3 := ar1.keep k3 (by omega)
    -- the other one
    have swap : ∀ (o : Nat) (tm2 : T Value) (Q : Ex → T Value → Ev.H → Prop), o < l → tg tm2 0 = v → tg tm2 1 = .int .i64 (a : Int) → tg tm2 11 = .int .i64 (i : Int) → tg tm2 12 = .int .i64 (o : Int) → (∀ h', Arr h' B v N (swF f1 i (a + o)) → Has h' h.next (.rw [.int .u64 y]) → Keep (· = B) h h' → Q .norm tm2 h') → C ⟨r49_10⟩ (CF L (m + 3)) L tm2 h3 Q := fun o tm2 Q ho u0 u1 u11 u12 hQ => by
      intro K hK
      have kr := keep_room h3 20
      have ar4 := ar3.keep0 kr
      have w6 := wadd a o (by omega)
      obtain ⟨h5, h6, s1, s2, ar6, k6⟩ := ar4.swap (p := a + o) (q := i) (by omega) (by omega)
      simp only [↓opStep_eq, ↓reduceIte, ↓EW, EV, Nat.reduceAdd, Nat.reduceEqDiff, Int.reduceEq, Int.reduceLT, Int.reduceLE, Int.reduceNe, seqC, retC, skipC, exitC, blockC, condC, r49_10, u0, u1, u11, u12, w6, ar4.ix (show a + o < N by omega), ar4.ix (show i < N by omega), ar4.ld (show a + o < N by omega), ar4.ld (show i < N by omega), s1, s2]
      exact hK _ _ _ (hQ _ ar6 ((hs3.keep0 kr).keep k6 (by omega)) ((kx3.then kr).trans k6 fun _ _ h => h))
    refine hK _ _ _ (C.seq (C.seq fun K hK => ?_))
    simp only [↓opStep_eq, ↓reduceIte, ↓EW, EV, Nat.reduceAdd, Nat.reduceEqDiff, Int.reduceEq, Int.reduceLT, Int.reduceLE, Int.reduceNe, seqC, retC, skipC, exitC, blockC, condC, r49_8, t8]
    have done : ∀ (o : Nat) (tm2 : T Value) (h' : H) (Q : Ex → T Value → Ev.H → Prop), o < l → tg tm2 0 = v → tg tm2 1 = .int .i64 (a : Int) → tg tm2 8 = .int .i64 (l : Int) → tg tm2 9 = .pointer (some ⟨h.next, 0, none⟩) → tg tm2 10 = .int .u64 (p : Int) → tg tm2 11 = .int .i64 (i : Int) → Arr h' B v N (swF f1 i (a + o)) → Has h' h.next (.rw [.int .u64 y]) → Keep (· = B) h h' → (∀ tm', (∃ k', k' < a + l / 4 * 2 + 2 - i ∧ ∃ i f' x, k' = a + l / 4 * 2 + 2 - i ∧ a + l / 4 * 2 - 1 ≤ i ∧ i ≤ a + l / 4 * 2 + 2 ∧ tg tm' 0 = v ∧ tg tm' 1 = .int .i64 (a : Int) ∧ tg tm' 8 = .int .i64 (l : Int) ∧ tg tm' 9 = .pointer (some ⟨h.next, 0, none⟩) ∧ tg tm' 10 = .int .u64 (p : Int) ∧ tg tm' 11 = .int .i64 (i : Int) ∧ Arr h' B v N f' ∧ Sw a (a + l) f f' ∧ Has h' h.next (.rw [.int .u64 x]) ∧ Keep (· = B) h h') → Q .norm tm' h') → C ⟨r49_6⟩ (CF L (m + 3)) L tm2 h' Q := fun o tm2 h' Q ho u0 u1 u8 u9 u10 u11 A S Kp hQ => by
      intro K hK
      have w7 := wadd1 i (by omega)
      simp only [↓opStep_eq, ↓reduceIte, ↓EW, EV, Nat.reduceAdd, Nat.reduceEqDiff, Int.reduceEq, Int.reduceLT, Int.reduceLE, Int.reduceNe, seqC, retC, skipC, exitC, blockC, condC, r49_6, u11, w7]
      exact hK _ _ _ (hQ _ ⟨a + l / 4 * 2 + 2 - (i + 1), by omega, i + 1, _, y, rfl, by omega, by omega, by simp only [↓opStep_eq, ↓reduceIte, ↓EW, EV, Nat.reduceAdd, Nat.reduceEqDiff, Int.reduceEq, Int.reduceLT, Int.reduceLE, Int.reduceNe, seqC, retC, skipC, exitC, blockC, condC, u0], by simp only [↓opStep_eq, ↓reduceIte, ↓EW, EV, Nat.reduceAdd, Nat.reduceEqDiff, Int.reduceEq, Int.reduceLT, Int.reduceLE, Int.reduceNe, seqC, retC, skipC, exitC, blockC, condC, u1], by simp only [↓opStep_eq, ↓reduceIte, ↓EW, EV, Nat.reduceAdd, Nat.reduceEqDiff, Int.reduceEq, Int.reduceLT, Int.reduceLE, Int.reduceNe, seqC, retC, skipC, exitC, blockC, condC, u8], by simp only [↓opStep_eq, ↓reduceIte, ↓EW, EV, Nat.reduceAdd, Nat.reduceEqDiff, Int.reduceEq, Int.reduceLT, Int.reduceLE, Int.reduceNe, seqC, retC, skipC, exitC, blockC, condC, u9], by simp only [↓opStep_eq, ↓reduceIte, ↓EW, EV, Nat.reduceAdd, Nat.reduceEqDiff, Int.reduceEq, Int.reduceLT, Int.reduceLE, Int.reduceNe, seqC, retC, skipC, exitC, blockC, condC, u10], by simp only [↓opStep_eq, ↓reduceIte, ↓EW, EV, Nat.reduceAdd, Nat.reduceEqDiff, Int.reduceEq, Int.reduceLT, Int.reduceLE, Int.reduceNe, seqC, retC, skipC, exitC, blockC, condC], A, .step i (a + o) sw1 (by omega) (by omega) (by omega) (by omega), S, Kp⟩)
    refine hK _ _ _ (C.cond (decide ((l : Int) ≤ (o : Int))) (by simp only [↓opStep_eq, ↓reduceIte, ↓EW, EV, Nat.reduceAdd, Nat.reduceEqDiff, Int.reduceEq, Int.reduceLT, Int.reduceLE, Int.reduceNe, seqC, retC, skipC, exitC, blockC, condC]) (fun g2 => fun K hK => ?_) fun g2 => C.skip ?_)
    · have g2 : l ≤ o := by have := of_decide_eq_true g2; omega
      have w8 := wsub o l g2 (by omega)
      simp only [↓opStep_eq, ↓reduceIte, ↓EW, EV, Nat.reduceAdd, Nat.reduceEqDiff, Int.reduceEq, Int.reduceLT, Int.reduceLE, Int.reduceNe, seqC, retC, skipC, exitC, blockC, condC, r49_9, t8, w8]
      refine hK _ _ _ (swap (o - l) _ _ (by omega) ?_ ?_ ?_ ?_ fun h' A S Kp => done (o - l) _ h' _ (by omega) ?_ ?_ ?_ ?_ ?_ ?_ A S Kp fun tm' hh => hh)
      · simp only [↓opStep_eq, ↓reduceIte, ↓EW, EV, Nat.reduceAdd, Nat.reduceEqDiff, Int.reduceEq, Int.reduceLT, Int.reduceLE, Int.reduceNe, seqC, retC, skipC, exitC, blockC, condC, t0]
      · simp only [↓opStep_eq, ↓reduceIte, ↓EW, EV, Nat.reduceAdd, Nat.reduceEqDiff, Int.reduceEq, Int.reduceLT, Int.reduceLE, Int.reduceNe, seqC, retC, skipC, exitC, blockC, condC, t1]
      · simp only [↓opStep_eq, ↓reduceIte, ↓EW, EV, Nat.reduceAdd, Nat.reduceEqDiff, Int.reduceEq, Int.reduceLT, Int.reduceLE, Int.reduceNe, seqC, retC, skipC, exitC, blockC, condC, t11]
      · simp only [↓opStep_eq, ↓reduceIte, ↓EW, EV, Nat.reduceAdd, Nat.reduceEqDiff, Int.reduceEq, Int.reduceLT, Int.reduceLE, Int.reduceNe, seqC, retC, skipC, exitC, blockC, condC]
      · simp only [↓opStep_eq, ↓reduceIte, ↓EW, EV, Nat.reduceAdd, Nat.reduceEqDiff, Int.reduceEq, Int.reduceLT, Int.reduceLE, Int.reduceNe, seqC, retC, skipC, exitC, blockC, condC, t0]
      · simp only [↓opStep_eq, ↓reduceIte, ↓EW, EV, Nat.reduceAdd, Nat.reduceEqDiff, Int.reduceEq, Int.reduceLT, Int.reduceLE, Int.reduceNe, seqC, retC, skipC, exitC, blockC, condC, t1]
      · simp only [↓opStep_eq, ↓reduceIte, ↓EW, EV, Nat.reduceAdd, Nat.reduceEqDiff, Int.reduceEq, Int.reduceLT, Int.reduceLE, Int.reduceNe, seqC, retC, skipC, exitC, blockC, condC, t8]
      · simp only [↓opStep_eq, ↓reduceIte, ↓EW, EV, Nat.reduceAdd, Nat.reduceEqDiff, Int.reduceEq, Int.reduceLT, Int.reduceLE, Int.reduceNe, seqC, retC, skipC, exitC, blockC, condC, t9]
      · simp only [↓opStep_eq, ↓reduceIte, ↓EW, EV, Nat.reduceAdd, Nat.reduceEqDiff, Int.reduceEq, Int.reduceLT, Int.reduceLE, Int.reduceNe, seqC, retC, skipC, exitC, blockC, condC, t10]
      · simp only [↓opStep_eq, ↓reduceIte, ↓EW, EV, Nat.reduceAdd, Nat.reduceEqDiff, Int.reduceEq, Int.reduceLT, Int.reduceLE, Int.reduceNe, seqC, retC, skipC, exitC, blockC, condC, t11]
    · have g2 : o < l := by have := of_decide_eq_false g2; omega
      refine swap o _ _ g2 ?_ ?_ ?_ ?_ fun h' A S Kp => done o _ h' _ g2 ?_ ?_ ?_ ?_ ?_ ?_ A S Kp fun tm' hh => hh
      · simp only [↓opStep_eq, ↓reduceIte, ↓EW, EV, Nat.reduceAdd, Nat.reduceEqDiff, Int.reduceEq, Int.reduceLT, Int.reduceLE, Int.reduceNe, seqC, retC, skipC, exitC, blockC, condC, t0]
      · simp only [↓opStep_eq, ↓reduceIte, ↓EW, EV, Nat.reduceAdd, Nat.reduceEqDiff, Int.reduceEq, Int.reduceLT, Int.reduceLE, Int.reduceNe, seqC, retC, skipC, exitC, blockC, condC, t1]
      · simp only [↓opStep_eq, ↓reduceIte, ↓EW, EV, Nat.reduceAdd, Nat.reduceEqDiff, Int.reduceEq, Int.reduceLT, Int.reduceLE, Int.reduceNe, seqC, retC, skipC, exitC, blockC, condC, t11]
      · simp only [↓opStep_eq, ↓reduceIte, ↓EW, EV, Nat.reduceAdd, Nat.reduceEqDiff, Int.reduceEq, Int.reduceLT, Int.reduceLE, Int.reduceNe, seqC, retC, skipC, exitC, blockC, condC]
      · simp only [↓opStep_eq, ↓reduceIte, ↓EW, EV, Nat.reduceAdd, Nat.reduceEqDiff, Int.reduceEq, Int.reduceLT, Int.reduceLE, Int.reduceNe, seqC, retC, skipC, exitC, blockC, condC, t0]
      · simp only [↓opStep_eq, ↓reduceIte, ↓EW, EV, Nat.reduceAdd, Nat.reduceEqDiff, Int.reduceEq, Int.reduceLT, Int.reduceLE, Int.reduceNe, seqC, retC, skipC, exitC, blockC, condC, t1]
      · simp only [↓opStep_eq, ↓reduceIte, ↓EW, EV, Nat.reduceAdd, Nat.reduceEqDiff, Int.reduceEq, Int.reduceLT, Int.reduceLE, Int.reduceNe, seqC, retC, skipC, exitC, blockC, condC, t8]
      · simp only [↓opStep_eq, ↓reduceIte, ↓EW, EV, Nat.reduceAdd, Nat.reduceEqDiff, Int.reduceEq, Int.reduceLT, Int.reduceLE, Int.reduceNe, seqC, retC, skipC, exitC, blockC, condC, t9]
      · simp only [↓opStep_eq, ↓reduceIte, ↓EW, EV, Nat.reduceAdd, Nat.reduceEqDiff, Int.reduceEq, Int.reduceLT, Int.reduceLE, Int.reduceNe, seqC, retC, skipC, exitC, blockC, condC, t10]
      · simp only [↓opStep_eq, ↓reduceIte, ↓EW, EV, Nat.reduceAdd, Nat.reduceEqDiff, Int.reduceEq, Int.reduceLT, Int.reduceLE, Int.reduceNe, seqC, retC, skipC, exitC, blockC, condC, t11]
  · simp only [if_pos]
    exact ⟨(by first | exact .inl rfl | exact .inl trivial), _, rfl, f1, ar1, sw1, kx⟩
end
end Go.Proofs.Ytpoedopdcpejmaa
