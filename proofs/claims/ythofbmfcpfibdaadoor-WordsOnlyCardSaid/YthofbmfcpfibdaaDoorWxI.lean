import Derived.Test.YthofbmfcpfibdaaDoorWxE
set_option linter.unusedSimpArgs false
set_option linter.unusedVariables false
namespace Go.Proofs.YthofbmfcpfibdaaDoor
open Go.Ev

/-! ### Write -/
theorem plain_fn (L n : Nat) {x : Itm} (hx : x.key.size < L) (h : H) : Sp (CF L (n + 5)) 20 [x.v] h fun r h' => r = .bool (!plainL x.key.data.toList) ∧ Keep nobody h h' := by
  refine Sp.body f20 (by simp) ?_
  unfold c20
  refine C.seq fun K hK => ?_
  have hk := Keep.new h (.rw x.cells (some 48))
  have b1 := Has.new h (.rw x.cells (some 48))
  have ec : (Value.cells x.v).toList = x.cells := rfl
  simp only [↓reduceIte, ↓EW, EV, r20_0, ec]
  generalize h.new (.rw x.cells (some 48)) = h1 at *
  refine hK .norm _ _ (C.seq fun K hK => ?_)
  have l0 : ∀ s, loadOne h1 (.pointer (some ⟨h.next, 0, s⟩)) = some (.string x.key) := fun s => loadOne_has b1 rfl
  simp only [↓reduceIte, EV, Nat.reduceEqDiff, r20_1, l0]
  refine plain_law L n hx h1 _ fun r h2 hq => ?_
  obtain ⟨rfl, k2⟩ := hq
  simp only [EV]
  refine hK _ _ _ (C.ret ⟨.inr rfl, _, rfl, ?_, hk.then k2⟩)
  simp only [↓reduceIte, EV, resOf]
theorem index_gen (L n g : Nat) (p : Itm → Bool) (v : Value) (l : List Itm) (h : H) (hi : ItemsAt h v l) (hL : l.length < L) (h63 : l.length < 9223372036854775807)
    (hp : ∀ x ∈ l, ∀ h, Sp (CF L n) g [x.v] h fun r h' => r = .bool (p x) ∧ Keep nobody h h') :
    Sp (CF L (n + 1)) 40 [v, .func (.func g) #[] #[]] h fun r h' => (∃ k : Int, r = .int .i64 k ∧ decide (0 ≤ k) = l.any p) ∧ Keep nobody h h' := by
  refine Sp.body f40 (by simp) ?_
  unfold c40
  refine C.seq fun K hK => hK .norm _ _ ?_
  refine C.seq (C.seq fun K hK => ?_)
  simp only [↓reduceIte, EV, Nat.reduceAdd, Nat.reduceEqDiff, r40_1, hi.len]
  refine hK .norm _ _ ?_
  refine C.block (C.loop (fun k tm h1 => ∃ i : Nat, k = l.length - i ∧ i ≤ l.length ∧ tg tm 0 = v ∧ tg tm 1 = .func (.func g) #[] #[] ∧ tg tm 7 = .int .i64 (l.length : Int) ∧ tg tm 8 = .int .i64 (i : Int) ∧ (l.take i).all (fun x => !p x) = true ∧ Keep nobody h h1) l.length hL
    ⟨0, by simp, by simp, by simp, by simp, by simp, by simp, by simp, .refl _ _⟩ ?_)
  rintro k tm h1 ⟨i, rfl, hil, t0, t1, t7, t8, hall, hk⟩
  unfold l40_7
  refine C.seq fun K hK => ?_
  by_cases g : i < l.length
  · have g' : (i : Int) < (l.length : Int) := by omega
    obtain ⟨x, hx⟩ : ∃ x, l[i]? = some x := ⟨l[i], List.getElem?_eq_getElem g⟩
    obtain ⟨b, o, e1, e2, _, e3, e4⟩ := (hi.keep0 hk).at hx
    simp only [EV, r40_2, t7, t8, decide_eq_true g']
    refine hK .norm _ _ (C.seq (C.cond true (by simp only [↓reduceIte, EV]) (fun _ => C.skip ?_) fun g => by cases g))
    refine C.seq (C.block (C.seq fun K hK => ?_))
    simp only [↓reduceIte, EV, Nat.reduceEqDiff, r40_3, t8]
    refine hK .norm _ _ (C.seq fun K hK => ?_)
    simp only [↓reduceIte, EV, Nat.reduceEqDiff, r40_4, t0, t1, e1, e4, goCall, funcArgs]
    refine hp x (List.mem_of_getElem? hx) h1 _ fun r h2 hr => ?_
    obtain ⟨rfl, hk2⟩ := hr
    cases hpx : p x with
    | true =>
      refine hK .norm _ _ (C.cond true (by simp only [↓reduceIte, EV]) (fun _ => C.seq fun K hK => ?_) fun g => by cases g)
      simp only [↓reduceIte, EV, Nat.reduceEqDiff, r40_5]
      refine hK .norm _ _ (C.ret ⟨.inr rfl, _, rfl, ⟨i, by simp only [↓reduceIte, EV, resOf], ?_⟩, hk.then hk2⟩)
      rw [decide_eq_true (by omega)]
      symm
      rw [List.any_eq_true]
      exact ⟨x, List.mem_of_getElem? hx, hpx⟩
    | false =>
      refine hK .norm _ _ (C.cond false (by simp only [↓reduceIte, EV]) (fun g => by cases g) fun _ => C.skip fun K hK => ?_)
      simp only [↓reduceIte, EV, Nat.reduceEqDiff, r40_6, t8, wrap_succ i (by omega)]
      refine hK .norm _ _ ⟨l.length - (i + 1), by omega, i + 1, rfl, by omega, by simp only [↓reduceIte, EV, Nat.reduceEqDiff, t0], by simp only [↓reduceIte, EV, Nat.reduceEqDiff, t1], by simp only [↓reduceIte, EV, Nat.reduceEqDiff, t7], ?_, ?_, hk.then hk2⟩
      · simp only [↓reduceIte, EV]
      · rw [List.take_add_one, hx]
        simp only [List.all_append, hall, Bool.true_and]
        simp [hpx]
  · have g' : ¬ (i : Int) < (l.length : Int) := by omega
    have hge : i = l.length := by omega
    simp only [EV, r40_2, t7, t8, decide_eq_false g']
    refine hK .norm _ _ (C.seq (C.cond false (by simp only [↓reduceIte, EV]) (fun g => by cases g) fun _ => C.exit ?_))
    simp only [if_pos]
    refine C.seq fun K hK => ?_
    simp only [r40_7]
    refine hK .norm _ _ (C.ret ⟨.inr rfl, _, rfl, ⟨-1, by simp only [↓reduceIte, EV, resOf], ?_⟩, hk⟩)
    rw [hge, List.take_length] at hall
    rw [decide_eq_false (by omega)]
    symm
    rw [List.any_eq_false]
    intro x hx
    have := List.all_eq_true.1 hall x hx
    simpa using this
theorem contains_gen (L n g : Nat) (p : Itm → Bool) (v : Value) (l : List Itm) (h : H) (hi : ItemsAt h v l) (hL : l.length < L) (h63 : l.length < 9223372036854775807)
    (hp : ∀ x ∈ l, ∀ h, Sp (CF L n) g [x.v] h fun r h' => r = .bool (p x) ∧ Keep nobody h h') :
    Sp (CF L (n + 2)) 19 [v, .func (.func g) #[] #[]] h fun r h' => r = .bool (l.any p) ∧ Keep nobody h h' := by
  refine Sp.body f19 (by simp) ?_
  unfold c19
  refine C.seq fun K hK => ?_
  simp only [EV, Nat.reduceAdd, r19_0]
  refine hK .norm _ _ (C.seq fun K hK => ?_)
  simp only [↓reduceIte, EV, Nat.reduceEqDiff, r19_1]
  refine index_gen L n g p v l h hi hL h63 hp _ fun r h2 hr => ?_
  obtain ⟨⟨k, rfl, hk⟩, h3⟩ := hr
  simp only [EV, hk]
  refine hK _ _ _ (C.ret ⟨.inr rfl, _, rfl, ?_, h3⟩)
  simp only [↓reduceIte, EV, resOf]

def keysB (a : Ans) : Bool := plainL a.key.data.toList && a.r.items.all fun x => plainL x.key.data.toList
def writeB (a : Ans) : Bool := mayB a && keysB a
def outL (a : Ans) : List UInt8 := if writeB a = true then linesL a ++ [13, 10] else []
theorem linesL_len {a : Ans} (hm : May a) (hf : a.fit) : (linesL a).length ≤ 7000 := by
  unfold linesL
  split
  · rename_i e
    obtain ⟨ho, hr⟩ := hm.one e
    split
    · exact Nat.le_trans (doneL_len (by omega) (by omega) (fun x hx => ⟨hf.items x hx, hm.good x hx⟩) hm.few hf.num).1 (by omega)
    · have : ∀ k : Nat, k < 8 → (wordN.getD k (strB [])).data.toList.length ≤ 7000 := by decide
      exact this _ (by omega)
  split
  · split <;> decide
  split
  · split <;> decide
  repeat' split
  all_goals first | (simp; done) | (have := hm.key; simp only [List.length_append, list_size, List.length_cons, List.length_nil]; omega)
theorem mkBytes_eq (b : Nat) (l : List UInt8) : ∃ cap, mkBytes 5 b (sv l) = some (.op (l.map bv) 1 (some 5), .slice (some ⟨b, 0, none⟩) l.length cap) := ⟨_, by
  show some (AObj.op (l.map fun b => .int .u8 (Int.ofNat b.toNat)) 1 (some 5), Value.slice (some ⟨b, 0, none⟩) (⟨l.toArray⟩ : ByteArray).size _) = _
  rw [arr_size]; rfl⟩
theorem reads_new (h : H) (l : List UInt8) (ty : Option TypeId) (cap : Nat) : Reads (h.new (.op (l.map bv) 1 ty)) (.slice (some ⟨h.next, 0, none⟩) l.length cap) l :=
  .inr ⟨_, _, _, _, _, rfl, Has.new _ _, rfl, by simp, by rw [List.drop_zero, List.take_of_length_le (by simp)]⟩
end Go.Proofs.YthofbmfcpfibdaaDoor

namespace Go.Proofs.YthofbmfcpfibdaaDoor
open Go.Ev

theorem words_ix : ∀ i : Nat, i < 8 → indexAgg false 1 8 (.agg (wordN.map Value.string).toArray) (.int .u8 (i : Int)) = some (.string (wordN.getD i (strB [])))
  | 0, _ => rfl
  | 1, _ => rfl
  | 2, _ => rfl
  | 3, _ => rfl
  | 4, _ => rfl
  | 5, _ => rfl
  | 6, _ => rfl
  | 7, _ => rfl
  | n + 8, h => by omega
structure Slim (L : Nat) (a : Ans) : Prop where
  key : a.key.size ≤ 1000
  few : a.r.items.length ≤ 40
  keys : ∀ x ∈ a.r.items, x.key.size ≤ 1000
theorem any_all (a : Ans) : (a.r.items.any fun x => !plainL x.key.data.toList) = !(a.r.items.all fun x => plainL x.key.data.toList) := by
  simp [List.any_eq_not_all_not]
theorem reg9_4 {L n : Nat} (hL : 2000 ≤ L) {a : Ans} (sl : Slim L a) {h : H} {tm : T Value} {b : Nat} {Q : Ex → T Value → H → Prop} (hi : ItemsAt h a.r.iv a.r.items) (hb : Has h b (.rw a.cells (some 27))) (t1 : tg tm 1 = .pointer (some ⟨b, 0, none⟩))
    (hQ : ∀ h', Keep nobody h h' → Q .norm (T.set tm 20 (.bool (!keysB a))) h') : C ⟨r9_4⟩ (CF L (n + 7)) L tm h Q := fun K hK => by
  have hcell : a.cells = [.int .u8 a.kind, .int .u8 a.of, .int .u8 a.r.kind, a.r.iv, .int .u64 a.r.num, .bool a.yes, .string a.key] := rfl
  have ld : ∀ o s, loadOne h (.pointer (some ⟨b, o, s⟩)) = a.cells[o]? := fun o s => loadOne_has hb rfl
  have f1 := sl.key
  have f2 := sl.few
  show (⟨r9_4⟩ : Box CodeT).f (CF L (n + 7)) L tm [] h K = true
  simp only [↓opStep_eq, ↓reduceIte, ↓EW, EV, Nat.reduceAdd, r9_4, t1, ld, hcell]
  refine plain_law L (n + 3) (by omega) h _ fun r h1 hq => ?_
  obtain ⟨rfl, k1⟩ := hq
  have ld1 : ∀ o s, loadOne h1 (.pointer (some ⟨b, o, s⟩)) = a.cells[o]? := fun o s => loadOne_has (hb.keep0 k1) rfl
  cases hp : plainL a.key.data.toList with
  | false =>
    have e : keysB a = false := by unfold keysB; rw [hp]; rfl
    rw [e] at hQ
    simp only [↓reduceIte, EV]
    exact hK _ _ _ (hQ _ k1)
  | true =>
    have e : keysB a = (a.r.items.all fun x => plainL x.key.data.toList) := by unfold keysB; rw [hp]; rfl
    rw [e] at hQ
    simp only [↓reduceIte, EV, ld1, hcell]
    refine contains_gen L (n + 5) 20 (fun x => !plainL x.key.data.toList) a.r.iv a.r.items h1 (hi.keep0 k1) (by omega) (by omega) (fun x hx h => plain_fn L n (by have := sl.keys x hx; omega) h) _ fun r h2 hq => ?_
    obtain ⟨rfl, k2⟩ := hq
    rw [any_all]
    exact hK _ _ _ (hQ _ (k1.then k2))
theorem write_law (L n : Nat) (hL : 2000 ≤ L) {a : Ans} {h : H} (sl : Slim L a) (hf : a.fit) (hi : ItemsAt h a.r.iv a.r.items) (hlt : ∀ b, blk a.r.iv b → b < h.next) (hG : Has h 1 (.ro powC)) :
    Sp (CF L (n + 8)) 9 [a.v] h fun r h' => (∃ v, r = .tuple #[v, .int .i64 (if writeB a = true then 0 else 8)] ∧ Reads h' v (outL a)) ∧ Keep nobody h h' := by
  refine Sp.body f9 (by simp) ?_
  unfold c9
  refine C.seq fun K hK => ?_
  have hc : (Value.cells a.v).toList = a.cells := rfl
  simp only [↓reduceIte, ↓EW, EV, r9_0, hc]
  have f1 := sl.key
  have f2 := sl.few
  have k1 := Keep.new h (.rw a.cells (some 27))
  have b1 := Has.new h (.rw a.cells (some 27))
  have hi1 := hi.keep0 k1
  have hG1 := hG.keep0 k1
  have hn1 : (h.new (.rw a.cells (some 27))).next = h.next + 1 := rfl
  generalize h.new (.rw a.cells (some 27)) = h1 at *
  have lag : ∀ h2, Has h2 h.next (.rw a.cells (some 27)) → ∀ s, loadAgg 7 h2 (.pointer (some ⟨h.next, 0, s⟩)) = some a.v := fun h2 hb s => loadAgg_has hb rfl (by show 0 + 7 ≤ 7; omega)
  refine hK .norm _ _ (C.seq (C.seq fun K hK => ?_))
  simp only [↓reduceIte, EV, Nat.reduceEqDiff, r9_1, lag h1 b1]
  refine words_check L n a h1 hi1 (by omega) (by omega) _ fun r h2 hq => ?_
  obtain ⟨rfl, k2⟩ := hq
  have b2 := b1.keep0 k2
  refine hK .norm _ _ (C.seq fun K hK => ?_)
  cases hm : mayB a with
  | false =>
    have w : writeB a = false := by unfold writeB; rw [hm]; rfl
    simp only [↓reduceIte, EV, Int.reduceEq, r9_2]
    refine hK .norm _ _ (C.cond true (by simp only [↓reduceIte, EV]) (fun _ => C.seq fun K hK => ?_) fun g => by cases g)
    simp only [↓reduceIte, EV, Nat.reduceEqDiff, r9_3]
    refine hK .norm _ _ (C.ret ⟨.inr rfl, _, rfl, ⟨.slice none 0 0, ?_, ?_⟩, k1.then k2⟩)
    · simp only [↓reduceIte, EV, Nat.reduceEqDiff, resOf, w]
    · unfold outL; rw [w]; exact .inl ⟨rfl, rfl⟩
  | true =>
    have may := may_of hm
    simp only [↓reduceIte, EV, r9_2]
    refine hK .norm _ _ (C.cond false (by simp only [↓reduceIte, EV]) (fun g => by cases g) fun _ => C.skip (C.seq (C.seq ?_)))
    refine reg9_4 (n := n) hL sl (hi1.keep0 k2) b2 (by simp only [↓reduceIte, EV, Nat.reduceEqDiff]) fun h3 k3 => ?_
    have b3 := b2.keep0 k3
    have k3 := (k1.then k2).then k3
    cases hkb : keysB a with
    | false =>
      have w : writeB a = false := by unfold writeB; rw [hkb, Bool.and_false]
      refine C.cond true (by simp only [↓reduceIte, EV]) (fun _ => C.seq fun K hK => ?_) fun g => by cases g
      simp only [EV, r9_5]
      refine hK .norm _ _ (C.ret ⟨.inr rfl, _, rfl, ⟨.slice none 0 0, ?_, ?_⟩, k3⟩)
      · simp only [↓reduceIte, EV, Nat.reduceEqDiff, resOf, w]
      · unfold outL; rw [w]; exact .inl ⟨rfl, rfl⟩
    | true =>
      have w : writeB a = true := by unfold writeB; rw [hm, hkb]; rfl
      have hl := linesL_len may hf
      have fin : ∀ (tm : T Value) (h6 : H), tg tm 5 = sv (linesL a) → Keep nobody h h6 → C ⟨seqC ⟨r9_23⟩ retC⟩ (CF L (n + 7)) L tm h6 fun e tm h' => (e = .norm ∨ e = .ret) ∧ ∃ l, q9.f tm h' = some l ∧ (∃ v, resOf l = .tuple #[v, .int .i64 (if writeB a = true then 0 else 8)] ∧ Reads h' v (outL a)) ∧ Keep nobody h h' := fun tm h6 t5 k6 => by
        refine C.seq fun K hK => ?_
        have c1 : binV Tryd.prog .add 9 true (sv (linesL a)) (.string (strB [13, 10])) = some (sv (linesL a ++ [13, 10])) := cat_sv 9 true _ [13, 10] (by simp only [List.length_cons, List.length_nil]; omega)
        obtain ⟨cap, mb⟩ := mkBytes_eq h6.next (linesL a ++ [13, 10])
        simp only [EV, r9_23, t5, c1, mb]
        refine hK .norm _ _ (C.ret ⟨.inr rfl, _, rfl, ⟨.slice (some ⟨h6.next, 0, none⟩) (linesL a ++ [13, 10]).length cap, ?_, ?_⟩, k6.then (.new _ _)⟩)
        · simp only [↓reduceIte, EV, Nat.reduceEqDiff, resOf, w]
        · unfold outL; rw [if_pos w]
          exact reads_new _ _ _ _
      refine C.cond false (by simp only [↓reduceIte, EV]) (fun g => by cases g) fun _ => C.skip (C.seq fun K hK => ?_)
      simp only [EV, r9_6]
      refine hK .norm _ _ (C.seq (C.seq fun K hK => ?_))
      have hcell : a.cells = [.int .u8 a.kind, .int .u8 a.of, .int .u8 a.r.kind, a.r.iv, .int .u64 a.r.num, .bool a.yes, .string a.key] := rfl
      have ld : ∀ h2, Has h2 h.next (.rw a.cells (some 27)) → ∀ o s, loadOne h2 (.pointer (some ⟨h.next, o, s⟩)) = a.cells[o]? := fun h2 hb o s => loadOne_has hb rfl
      simp only [↓reduceIte, EV, Nat.reduceEqDiff, r9_7, ld h3 b3, hcell]
      refine hK .norm _ _ ?_
      have hk := may.kind
      have : a.kind = 1 ∨ a.kind = 2 ∨ a.kind = 3 ∨ a.kind = 4 ∨ a.kind = 5 ∨ a.kind = 6 ∨ a.kind = 7 := by omega
      rcases this with e | e | e | e | e | e | e
      · obtain ⟨ho, hr⟩ := may.one e
        obtain ⟨k, hk⟩ : ∃ k : Nat, a.r.kind = (k : Int) := ⟨a.r.kind.toNat, by omega⟩
        refine C.block (C.seq fun K hK => ?_)
        simp only [↓reduceIte, EV, r9_9, e]
        refine hK .norm _ _ (C.cond true (by simp only [↓reduceIte, EV]) (fun _ => C.seq fun K hK => ?_) fun g => by cases g)
        have k0 := keep_room h3 6
        have b4 := b3.keep0 k0
        simp only [↓reduceIte, EV, Nat.reduceEqDiff, r9_10, ld _ b4, hcell]
        refine results_law L (n + 6) _ _ fun r h4 hq => ?_
        obtain ⟨rfl, k4⟩ := hq
        have b5 := b4.keep0 k4
        have hs := hO_self (veq_int .u8 (k : Int))
        simp only [EV, ld _ b5, hcell, hk, hs, Bool.and_true, words_ix k (by omega)]
        refine hK .norm _ _ (C.seq fun K hK => ?_)
        by_cases g : (k : Int) = 1
        · simp only [↓reduceIte, EV, Nat.reduceEqDiff, r9_11, ld _ b5, hcell, hk, g]
          refine hK .norm _ _ (C.cond true (by simp only [↓reduceIte, EV]) (fun _ => fun K hK => ?_) fun g => by cases g)
          obtain ⟨o, ho'⟩ : ∃ o : Nat, a.of = (o : Int) := ⟨a.of.toNat, by omega⟩
          simp only [↓reduceIte, EV, Nat.reduceEqDiff, r9_12, lag _ b5]
          have kk := (k3.then k0).then k4
          refine done_law L (n + 1) (by omega) ho' (by omega) (by omega) (fun x hx => ⟨hf.items x hx, may.good x hx⟩) may.few hf.num (hi.keep0 kk) (fun b hb => Nat.lt_of_lt_of_le (hlt b hb) kk.next) (hG.keep0 kk) _ fun r h6 hq => ?_
          obtain ⟨rfl, k6⟩ := hq
          refine hK .norm _ _ (fin _ _ ?_ (kk.then k6))
          have hlin : linesL a = doneL a o := by
            unfold linesL; rw [if_pos e, if_pos (by rw [hk, g]), ho']; rfl
          simp only [↓reduceIte, EV, hlin]
        · simp only [↓reduceIte, EV, Nat.reduceEqDiff, r9_11, ld _ b5, hcell, hk, decide_eq_false g]
          refine hK .norm _ _ (C.cond false (by simp only [↓reduceIte, EV]) (fun g => by cases g) fun _ => C.skip (fin _ _ ?_ ((k3.then k0).then k4)))
          have hlin : linesL a = (wordN.getD k (strB [])).data.toList := by
            unfold linesL; rw [if_pos e, if_neg (by rw [hk]; exact g), hk]; rfl
          rw [hlin, ← str_sv]
          simp only [↓reduceIte, EV, Nat.reduceEqDiff]
      · refine C.block fun K hK => ?_
        have hlin : linesL a = (if a.yes = true then sWelcome else sUnknown).data.toList := by
          unfold linesL; rw [if_neg (by omega), if_pos e]
        simp only [↓reduceIte, EV, Nat.reduceEqDiff, Int.reduceEq, seqC, condC, r9_9, r9_13, r9_14, e, ld h3 b3, hcell]
        refine either_law L (n + 6) a.yes sWelcome sUnknown h3 _ fun r h4 hq => ?_
        obtain ⟨rfl, rfl⟩ := hq
        refine hK .norm _ _ (fin _ _ ?_ k3)
        rw [hlin, ← str_sv]
        simp only [↓reduceIte, EV]
      · refine C.block fun K hK => ?_
        have hlin : linesL a = (if a.yes = true then sTracked else sUntracked).data.toList := by
          unfold linesL; rw [if_neg (by omega), if_neg (by omega), if_pos e]
        simp only [↓reduceIte, EV, Nat.reduceEqDiff, Int.reduceEq, seqC, condC, r9_9, r9_13, r9_15, r9_16, e, ld h3 b3, hcell]
        refine either_law L (n + 6) a.yes sTracked sUntracked h3 _ fun r h4 hq => ?_
        obtain ⟨rfl, rfl⟩ := hq
        refine hK .norm _ _ (fin _ _ ?_ k3)
        rw [hlin, ← str_sv]
        simp only [↓reduceIte, EV]
      · refine C.block fun K hK => ?_
        have hlin : linesL a = [80, 79, 78, 71] := by
          unfold linesL; rw [if_neg (by omega), if_neg (by omega), if_neg (by omega), if_pos e]
        simp only [↓reduceIte, EV, Nat.reduceEqDiff, Int.reduceEq, seqC, condC, r9_9, r9_13, r9_15, r9_17, r9_18, e]
        refine hK .norm _ _ (fin _ _ ?_ k3)
        rw [hlin]
        simp only [↓reduceIte, EV]; rfl
      · refine C.block fun K hK => ?_
        have hlin : linesL a = [66, 89, 69] := by
          unfold linesL; rw [if_neg (by omega), if_neg (by omega), if_neg (by omega), if_neg (by omega), if_pos e]
        simp only [↓reduceIte, EV, Nat.reduceEqDiff, Int.reduceEq, seqC, condC, r9_9, r9_13, r9_15, r9_17, r9_19, r9_20, e]
        refine hK .norm _ _ (fin _ _ ?_ k3)
        rw [hlin]
        simp only [↓reduceIte, EV]; rfl
      · refine C.block fun K hK => ?_
        have hlin : linesL a = [69, 82, 82, 79, 82] := by
          unfold linesL; rw [if_neg (by omega), if_neg (by omega), if_neg (by omega), if_neg (by omega), if_neg (by omega), if_pos e]
        simp only [↓reduceIte, EV, Nat.reduceEqDiff, Int.reduceEq, seqC, condC, r9_9, r9_13, r9_15, r9_17, r9_19, r9_21, r9_22, e]
        refine hK .norm _ _ (fin _ _ ?_ k3)
        rw [hlin]
        simp only [↓reduceIte, EV]; rfl
      · refine C.block fun K hK => ?_
        have hlin : linesL a = [80, 85, 83, 72, 32] ++ a.key.data.toList := by
          unfold linesL; rw [if_neg (by omega), if_neg (by omega), if_neg (by omega), if_neg (by omega), if_neg (by omega), if_neg (by omega)]
        have c1 : binV Tryd.prog .add 9 true (.string (strB [80, 85, 83, 72, 32])) (.string a.key) = some (sv ([80, 85, 83, 72, 32] ++ a.key.data.toList)) := cat_str 9 true [80, 85, 83, 72, 32] a.key (by simp only [List.length_cons, List.length_nil]; omega)
        simp only [↓reduceIte, EV, Nat.reduceEqDiff, Int.reduceEq, seqC, condC, r9_9, r9_13, r9_15, r9_17, r9_19, r9_21, r9_8, e, ld h3 b3, hcell, c1]
        refine hK .norm _ _ (fin _ _ ?_ k3)
        rw [hlin]
        simp only [↓reduceIte, EV]
end Go.Proofs.YthofbmfcpfibdaaDoor

namespace Go.Proofs.YthofbmfcpfibdaaDoor
open Go.Ev

/-! ### the document's Write -/
section
variable {L n : Nat} {a : Ans} {b1 : Nat}
end
end Go.Proofs.YthofbmfcpfibdaaDoor

namespace Go.Proofs.YthofbmfcpfibdaaDoor
open Go.Ev

theorem tup2 (i : Nat) (a b : Value) : tupNth i (.tuple #[a, b]) = [a, b][i]? := tupNth_tuple i [a, b]
theorem str_same (t : TypeId) (c : Bool) (s : ByteArray) : binV Tryd.prog .eql t c (.string s) (.string s) = some (.bool true) := by
  rw [strV_eql, leB_eq]; simp
end Go.Proofs.YthofbmfcpfibdaaDoor

set_option maxRecDepth 100000
namespace Go.Proofs.YthofbmfcpfibdaaDoor
open Go.Ev Go.RowKit

theorem u23 : Tryd.prog.underlying 23 = some (.int .u64) := by kernel_rfl
theorem u5 : Tryd.prog.underlying 5 = some (.int .u8) := by kernel_rfl
theorem u3 : Tryd.prog.underlying 3 = some (.int .i64) := by kernel_rfl
theorem u4 : Tryd.prog.underlying 4 = some .bool := by kernel_rfl
theorem s23 : Tryd.prog.cellsOf 23 = 1 := by kernel_rfl
theorem s5 : Tryd.prog.cellsOf 5 = 1 := by kernel_rfl
section
variable {H : Type} {enc : TypeId × Value → H} {w : World} {base : Nat} {sp : Nat → Bool} {held : Bool}

end

section
variable {H : Type} {enc : TypeId × Value → H}
end
end Go.Proofs.YthofbmfcpfibdaaDoor
