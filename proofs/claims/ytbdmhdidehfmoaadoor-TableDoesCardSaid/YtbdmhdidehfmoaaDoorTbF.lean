import Derived.Test.YtbdmhdidehfmoaaDoorTbC
set_option linter.unusedSimpArgs false
set_option linter.unusedVariables false
namespace Go.Proofs.YtbdmhdidehfmoaaDoor
open Go.Ev

def chain : List Bool → Option Bool
  | [] => some true
  | b :: r => match some b with
    | some true => chain r
    | some false => some false
    | none => none
abbrev nameV (t : Int) (k : ByteArray) : Value := .agg [.int .i64 t, .string k].toArray
theorem eqv_name (t t' : Int) (k k' : ByteArray) : eqV Tryd.prog 200 27 (.agg #[.int .i64 t, .string k]) (.agg #[.int .i64 t', .string k']) = chain [iEq t t', leB k.data.toList k'.data.toList] := by kernel_rfl
theorem guard27 : Program.eqGuardType Tryd.prog (Program.depth Tryd.prog) 27 = false := by kernel_rfl
theorem bytes_eq (k k' : ByteArray) : (k.data.toList = k'.data.toList) ↔ k = k' := ⟨fun h => ByteArray.ext (Array.ext' h), fun h => by rw [h]⟩
theorem name_eql (t t' : Int) (k k' : ByteArray) : binV Tryd.prog .eql 27 false (nameV t k) (nameV t' k') = some (.bool (decide (t = t' ∧ k = k'))) := by
  show aggEq Tryd.prog .eql 27 (nameV t k) (nameV t' k') = _
  unfold aggEq
  rw [guard27]
  show boolRes .eql (eqV Tryd.prog 200 27 (nameV t k) (nameV t' k')) = _
  rw [show nameV t k = .agg #[.int .i64 t, .string k] from rfl, show nameV t' k' = .agg #[.int .i64 t', .string k'] from rfl, eqv_name]
  simp only [leB_eq, iEq_dec, chain]
  by_cases h1 : t = t'
  · by_cases h2 : k = k'
    · subst h1; subst h2; simp; rfl
    · have h3 : (k.data.toList == k'.data.toList) = false := by
        rw [beq_eq_false_iff_ne]; exact fun h => h2 ((bytes_eq _ _).1 h)
      rw [h3, decide_eq_true h1, decide_eq_false (fun h => h2 h.2)]; rfl
  · rw [decide_eq_false h1, decide_eq_false (fun h => h1 h.1)]; rfl

/-- the rows of a side -/
structure RowsP (O : Nat → Tag) (h : H) (s : Bool) (B : Nat) (vs : List Value) (rs : List (List Ent)) : Prop where
  hb : Has h B (.rw vs)
  ob : O B = .base s
  len : vs.length = rs.length
  own : ∀ i v es, vs[i]? = some v → rs[i]? = some es → Own O h (.row s i) v es
def RowsAt (O : Nat → Tag) (h : H) (s : Bool) (v : Value) (rs : List (List Ent)) : Prop :=
  (v = .slice none 0 0 ∧ rs = []) ∨ ∃ B vs, v = .slice (some ⟨B, 0, none⟩) rs.length rs.length ∧ RowsP O h s B vs rs ∧ 0 < rs.length ∧ rs.length ≤ 1000000

theorem RowsP.keep {S : Nat → Prop} {O O' : Nat → Tag} {h h' : H} {s : Bool} {B : Nat} {vs : List Value} {rs : List (List Ent)} (a : RowsP O h s B vs rs) (k : Keep S h h') (hn : ∀ b, b < h.next → (O b = .base s ∨ ∃ i, O b = .row s i) → ¬ S b ∧ O' b = O b) : RowsP O' h' s B vs rs :=
  ⟨a.hb.keep k (hn B a.hb.1 (.inl a.ob)).1, (hn B a.hb.1 (.inl a.ob)).2.trans a.ob, a.len, fun i v es h1 h2 => (a.own i v es h1 h2).keep k fun b hb ho => ⟨(hn b hb (.inr ⟨i, ho⟩)).1, (hn b hb (.inr ⟨i, ho⟩)).2.trans ho⟩⟩
theorem RowsAt.keep {S : Nat → Prop} {O O' : Nat → Tag} {h h' : H} {s : Bool} {v : Value} {rs : List (List Ent)} (a : RowsAt O h s v rs) (k : Keep S h h') (hn : ∀ b, b < h.next → (O b = .base s ∨ ∃ i, O b = .row s i) → ¬ S b ∧ O' b = O b) : RowsAt O' h' s v rs := by
  rcases a with a | ⟨B, vs, e, p, q⟩
  · exact .inl a
  · exact .inr ⟨B, vs, e, p.keep k hn, q⟩
theorem RowsAt.len {O : Nat → Tag} {h : H} {s : Bool} {v : Value} {rs : List (List Ent)} (a : RowsAt O h s v rs) : lenSl v = some (.int .i64 (rs.length : Int)) := by
  rcases a with ⟨rfl, rfl⟩ | ⟨B, vs, rfl, _⟩ <;> rfl
theorem RowsAt.keep0 {O : Nat → Tag} {h h' : H} {s : Bool} {v : Value} {rs : List (List Ent)} (a : RowsAt O h s v rs) (k : Keep nobody h h') : RowsAt O h' s v rs := a.keep k fun _ _ _ => ⟨id, rfl⟩
theorem RowsP.keep0 {O : Nat → Tag} {h h' : H} {s : Bool} {B : Nat} {vs : List Value} {rs : List (List Ent)} (a : RowsP O h s B vs rs) (k : Keep nobody h h') : RowsP O h' s B vs rs := a.keep k fun _ _ _ => ⟨id, rfl⟩
theorem RowsP.at {O : Nat → Tag} {h : H} {s : Bool} {B : Nat} {vs : List Value} {rs : List (List Ent)} (a : RowsP O h s B vs rs) {i : Nat} (hi : i < rs.length) : ∃ v es, vs[i]? = some v ∧ rs[i]? = some es ∧ Own O h (.row s i) v es ∧ ∀ h', Keep nobody h h' → ∀ t, loadOne h' (.pointer (some ⟨B, i, t⟩)) = some v := by
  have h1 : vs[i]? = some (vs[i]'(by rw [a.len]; exact hi)) := List.getElem?_eq_getElem _
  have h2 : rs[i]? = some (rs[i]'hi) := List.getElem?_eq_getElem _
  exact ⟨_, _, h1, h2, a.own _ _ _ h1 h2, fun h' k t => by rw [loadOne_has (a.hb.keep0 k) rfl, h1]⟩

/-- what find tells -/
def FindQ (O : Nat → Tag) (h : H) (s : Bool) (v : Value) (rs : List (List Ent)) (t : Int) (k : ByteArray) (r : Value) : Prop :=
  (r = .pointer none ∧ ∀ es, rs[idx t k rs.length]? = some es → ∀ e ∈ es, ¬ (e.t = t ∧ e.k = k)) ∨
  ∃ (B : Nat) (vs : List Value) (vi : Value) (es : List Ent) (j : Nat) (e : Ent), v = .slice (some ⟨B, 0, none⟩) rs.length rs.length ∧ RowsP O h s B vs rs ∧ vs[idx t k rs.length]? = some vi ∧ rs[idx t k rs.length]? = some es ∧ es[j]? = some e ∧ e.t = t ∧ e.k = k ∧ indexSl 3 vi (.int .i64 (j : Int)) = some r

theorem find_law (L n N : Nat) {O : Nat → Tag} {h : H} {s : Bool} {v : Value} {rs : List (List Ent)} (ra : RowsAt O h s v rs) (t : Int) (k : ByteArray) (p : Addr) (hp : ∀ hx, Keep nobody h hx → ∀ s, loadOne hx (.pointer (some ⟨p.block, p.off, s⟩)) = some v) (hsz : ∀ (i : Nat) (es : List Ent), rs[i]? = some es → es.length ≤ N) (hN : N < L) (hN2 : N ≤ 1000000) (hL : k.size + 1 < L) (hk : k.size ≤ 100000) :
    Sp (CF L (n + 3)) 24 [.pointer (some p), nameV t k] h fun r h' => FindQ O h s v rs t k r ∧ Keep nobody h h' := by
  refine Sp.body f24 (by simp) ?_
  unfold c24
  have k1 := Keep.new h (.rw [.int .i64 t, .string k])
  have b1 := Has.new h (.rw [.int .i64 t, .string k])
  refine C.seq fun K hK => ?_
  simp only [↓opStep_eq, ↓reduceIte, ↓EW, EV, Nat.reduceAdd, Nat.reduceEqDiff, Int.reduceEq, Int.reduceLT, Int.reduceLE, Int.reduceNe, seqC, retC, skipC, exitC, blockC, condC, r24_0, cells_agg]
  generalize h.new (.rw [.int .i64 t, .string k]) = h1 at *
  have lda : ∀ hx, Has hx h.next (.rw [.int .i64 t, .string k]) → ∀ s, loadAgg 2 hx (.pointer (some ⟨h.next, 0, s⟩)) = some (nameV t k) := fun hx b s => loadAgg_has b rfl (by simp)
  have ef : fieldPtr 0 (.pointer (some p)) = some (.pointer (some ⟨p.block, p.off, none⟩)) := rfl
  refine hK _ _ _ (C.seq (C.seq fun K hK => ?_))
  simp only [↓opStep_eq, ↓reduceIte, ↓EW, EV, Nat.reduceAdd, Nat.reduceEqDiff, Int.reduceEq, Int.reduceLT, Int.reduceLE, Int.reduceNe, seqC, retC, skipC, exitC, blockC, condC, r24_1, nilChk_some, ef, hp _ k1, ra.len]
  rcases ra with ⟨rfl, rfl⟩ | ⟨B, vs, rfl, rp, hpos, hle⟩
  · have e0 : (([] : List (List Ent)).length : Int) = 0 := rfl
    simp only [↓opStep_eq, ↓reduceIte, ↓EW, EV, Nat.reduceAdd, Nat.reduceEqDiff, Int.reduceEq, Int.reduceLT, Int.reduceLE, Int.reduceNe, seqC, retC, skipC, exitC, blockC, condC, e0]
    exact hK _ _ _ (C.cond true (by simp only [↓opStep_eq, ↓reduceIte, ↓EW, EV, Nat.reduceAdd, Nat.reduceEqDiff, Int.reduceEq, Int.reduceLT, Int.reduceLE, Int.reduceNe, seqC, retC, skipC, exitC, blockC, condC]) (fun g => C.seq fun K hK => hK .norm _ _ (C.ret ⟨.inr rfl, _, rfl, by simp only [↓opStep_eq, ↓reduceIte, ↓EW, EV, Nat.reduceAdd, Nat.reduceEqDiff, Int.reduceEq, Int.reduceLT, Int.reduceLE, Int.reduceNe, seqC, retC, skipC, exitC, blockC, condC, resOf]; exact .inl ⟨rfl, fun es he => by simp at he⟩, k1⟩)) fun g => by cases g)
  · have hne : ¬ (rs.length : Int) = 0 := by omega
    simp only [↓opStep_eq, ↓reduceIte, ↓EW, EV, Nat.reduceAdd, Nat.reduceEqDiff, Int.reduceEq, Int.reduceLT, Int.reduceLE, Int.reduceNe, seqC, retC, skipC, exitC, blockC, condC, hne]
    refine hK _ _ _ (C.cond false (by simp only [↓opStep_eq, ↓reduceIte, ↓EW, EV, Nat.reduceAdd, Nat.reduceEqDiff, Int.reduceEq, Int.reduceLT, Int.reduceLE, Int.reduceNe, seqC, retC, skipC, exitC, blockC, condC]) (fun g => by cases g) fun g => C.skip ?_)
    refine C.seq fun K hK => ?_
    simp only [↓opStep_eq, ↓reduceIte, ↓EW, EV, Nat.reduceAdd, Nat.reduceEqDiff, Int.reduceEq, Int.reduceLT, Int.reduceLE, Int.reduceNe, seqC, retC, skipC, exitC, blockC, condC, r24_3, lda _ b1]
    refine row_law L n t k p B rs.length h1 (fun hx kx => hp hx (k1.then kx)) hpos hle hL hk _ fun r h2 hv => ?_
    obtain ⟨rfl, k2⟩ := hv
    have k12 := k1.then k2
    have hlt := idx_lt t k hpos hle
    obtain ⟨vi, es, e1, e2, ow, ldr⟩ := rp.at hlt
    have hes := hsz _ _ e2
    simp only [↓opStep_eq, ↓reduceIte, ↓EW, EV, Nat.reduceAdd, Nat.reduceEqDiff, Int.reduceEq, Int.reduceLT, Int.reduceLE, Int.reduceNe, seqC, retC, skipC, exitC, blockC, condC, nilChk_some, ldr _ k12]
    refine hK _ _ _ (C.seq (C.seq fun K hK => ?_))
    simp only [↓opStep_eq, ↓reduceIte, ↓EW, EV, Nat.reduceAdd, Nat.reduceEqDiff, Int.reduceEq, Int.reduceLT, Int.reduceLE, Int.reduceNe, seqC, retC, skipC, exitC, blockC, condC, r24_4, ow.len]
    refine hK .norm _ _ ?_
    refine C.block (C.loop (fun q tm' hx => ∃ i, q = es.length - i ∧ i ≤ es.length ∧ tg tm' 3 = .pointer (some ⟨h.next, 0, none⟩) ∧ tg tm' 5 = vi ∧ tg tm' 19 = .int .i64 (es.length : Int) ∧ tg tm' 20 = .int .i64 (i : Int) ∧ (∀ e ∈ es.take i, ¬ (e.t = t ∧ e.k = k)) ∧ Keep nobody h2 hx) es.length (by omega)
      ⟨0, rfl, by omega, by simp only [↓opStep_eq, ↓reduceIte, ↓EW, EV, Nat.reduceAdd, Nat.reduceEqDiff, Int.reduceEq, Int.reduceLT, Int.reduceLE, Int.reduceNe, seqC, retC, skipC, exitC, blockC, condC], by simp only [↓opStep_eq, ↓reduceIte, ↓EW, EV, Nat.reduceAdd, Nat.reduceEqDiff, Int.reduceEq, Int.reduceLT, Int.reduceLE, Int.reduceNe, seqC, retC, skipC, exitC, blockC, condC], by simp only [↓opStep_eq, ↓reduceIte, ↓EW, EV, Nat.reduceAdd, Nat.reduceEqDiff, Int.reduceEq, Int.reduceLT, Int.reduceLE, Int.reduceNe, seqC, retC, skipC, exitC, blockC, condC], by simp only [↓opStep_eq, ↓reduceIte, ↓EW, EV, Nat.reduceAdd, Nat.reduceEqDiff, Int.reduceEq, Int.reduceLT, Int.reduceLE, Int.reduceNe, seqC, retC, skipC, exitC, blockC, condC] <;> rfl, fun e he => by simp at he, .refl _ _⟩ ?_)
    rintro q tm' hx ⟨i, rfl, hi, t3, t5, t19, t20, no, kx⟩
    unfold l24_10
    refine C.seq fun K hK => ?_
    simp only [↓opStep_eq, ↓reduceIte, ↓EW, EV, Nat.reduceAdd, Nat.reduceEqDiff, Int.reduceEq, Int.reduceLT, Int.reduceLE, Int.reduceNe, seqC, retC, skipC, exitC, blockC, condC, r24_5, t19, t20]
    refine hK _ _ _ (C.seq (C.cond (decide ((i : Int) < (es.length : Int))) (by simp only [↓opStep_eq, ↓reduceIte, ↓EW, EV, Nat.reduceAdd, Nat.reduceEqDiff, Int.reduceEq, Int.reduceLT, Int.reduceLE, Int.reduceNe, seqC, retC, skipC, exitC, blockC, condC]) (fun g => C.skip ?_) fun g => C.exit ?_))
    · have g : i < es.length := by have := of_decide_eq_true g; omega
      obtain ⟨e, he⟩ : ∃ e, es[i]? = some e := ⟨es[i]'g, List.getElem?_eq_getElem g⟩
      have kr := keep_room hx 7
      have kxr := (k12.then kx).then kr
      obtain ⟨bb, cs, ix, _, hbb, h3, hc, _⟩ := (ow.keep kxr (O' := O) fun _ _ h => ⟨id, h⟩).at he
      have ln := fun s => Ent.at_name hbb h3 hc s
      refine C.seq (C.block (C.seq fun K hK => hK .norm _ _ (C.seq fun K hK => ?_)))
      have b1r := ((b1.keep0 k2).keep0 kx).keep0 kr
      simp only [↓opStep_eq, ↓reduceIte, ↓EW, EV, Nat.reduceAdd, Nat.reduceEqDiff, Int.reduceEq, Int.reduceLT, Int.reduceLE, Int.reduceNe, seqC, retC, skipC, exitC, blockC, condC, r24_7, t3, t5, t20, ix, ln, lda _ b1r, name_eql]
      refine hK _ _ _ (C.cond (decide (e.t = t ∧ e.k = k)) (by simp only [↓opStep_eq, ↓reduceIte, ↓EW, EV, Nat.reduceAdd, Nat.reduceEqDiff, Int.reduceEq, Int.reduceLT, Int.reduceLE, Int.reduceNe, seqC, retC, skipC, exitC, blockC, condC]) (fun g => ?_) fun g => C.skip fun K hK => ?_)
      · have g := of_decide_eq_true g
        refine C.seq fun K hK => ?_
        simp only [↓opStep_eq, ↓reduceIte, ↓EW, EV, Nat.reduceAdd, Nat.reduceEqDiff, Int.reduceEq, Int.reduceLT, Int.reduceLE, Int.reduceNe, seqC, retC, skipC, exitC, blockC, condC, r24_8, t5, t20, ix]
        exact hK _ _ _ (C.ret ⟨.inr rfl, _, rfl, by simp only [↓opStep_eq, ↓reduceIte, ↓EW, EV, Nat.reduceAdd, Nat.reduceEqDiff, Int.reduceEq, Int.reduceLT, Int.reduceLE, Int.reduceNe, seqC, retC, skipC, exitC, blockC, condC, resOf]; exact .inr ⟨B, vs, vi, es, i, e, rfl, rp, e1, e2, he, g.1, g.2, ix⟩, kxr⟩)
      · have g := of_decide_eq_false g
        have hw : IntKind.i64.wrap ((i : Int) + 1) = ((i + 1 : Nat) : Int) := by
          rw [show (i : Int) + 1 = ((i + 1 : Nat) : Int) by omega, wrap_i64 _ (by omega)]
        simp only [↓opStep_eq, ↓reduceIte, ↓EW, EV, Nat.reduceAdd, Nat.reduceEqDiff, Int.reduceEq, Int.reduceLT, Int.reduceLE, Int.reduceNe, seqC, retC, skipC, exitC, blockC, condC, r24_9, t20, hw]
        refine hK _ _ _ ⟨es.length - (i + 1), by omega, i + 1, rfl, by omega, by simp only [↓opStep_eq, ↓reduceIte, ↓EW, EV, Nat.reduceAdd, Nat.reduceEqDiff, Int.reduceEq, Int.reduceLT, Int.reduceLE, Int.reduceNe, seqC, retC, skipC, exitC, blockC, condC, t3], by simp only [↓opStep_eq, ↓reduceIte, ↓EW, EV, Nat.reduceAdd, Nat.reduceEqDiff, Int.reduceEq, Int.reduceLT, Int.reduceLE, Int.reduceNe, seqC, retC, skipC, exitC, blockC, condC, t5], by simp only [↓opStep_eq, ↓reduceIte, ↓EW, EV, Nat.reduceAdd, Nat.reduceEqDiff, Int.reduceEq, Int.reduceLT, Int.reduceLE, Int.reduceNe, seqC, retC, skipC, exitC, blockC, condC, t19], by simp only [↓opStep_eq, ↓reduceIte, ↓EW, EV, Nat.reduceAdd, Nat.reduceEqDiff, Int.reduceEq, Int.reduceLT, Int.reduceLE, Int.reduceNe, seqC, retC, skipC, exitC, blockC, condC], fun e' he' => ?_, kx.then kr⟩
        rw [List.take_add_one, he, Option.toList_some, List.mem_append, List.mem_singleton] at he'
        rcases he' with he' | rfl
        · exact no _ he'
        · exact g
    · simp only [if_pos]
      have g : i = es.length := by have := of_decide_eq_false g; omega
      refine C.seq fun K hK => hK .norm _ _ (C.ret ⟨.inr rfl, _, rfl, ?_, k12.then kx⟩)
      simp only [↓opStep_eq, ↓reduceIte, ↓EW, EV, Nat.reduceAdd, Nat.reduceEqDiff, Int.reduceEq, Int.reduceLT, Int.reduceLE, Int.reduceNe, seqC, retC, skipC, exitC, blockC, condC, resOf]
      refine .inl ⟨rfl, fun es' he' => ?_⟩
      rw [e2] at he'
      cases he'
      rw [g, List.take_length] at no
      exact no
end Go.Proofs.YtbdmhdidehfmoaaDoor

namespace Go.Proofs.YtbdmhdidehfmoaaDoor
open Go.Ev

theorem store_one {h : H} {b o : Nat} {s} {cs : List Value} {v : Value} (a : Has h b (.rw cs)) (ho : o < cs.length) (hv : v.cells = #[v]) (h1 : ones [v] = true) : storeV 1 h (.pointer (some ⟨b, o, s⟩)) v = some (h.put b (.rw (cs.set o v))) := by
  unfold storeV
  have e1 : v.cells.size = 1 := by rw [hv]; rfl
  have e2 : v.cells.toList = [v] := by rw [hv]
  simp only [e1, e2, Nat.beq_refl, H.write, h1, a.2]
  rw [putAt_one _ _ _ ho]
theorem store_op {h : H} {b o e : Nat} {s} {cs : List Value} {v : Value} (a : Has h b (.op cs e)) (ho : o < cs.length) (hv : v.cells = #[v]) (h1 : ones [v] = true) : storeV 1 h (.pointer (some ⟨b, o, s⟩)) v = some (h.put b (.op (cs.set o v) e)) := by
  unfold storeV
  have e1 : v.cells.size = 1 := by rw [hv]; rfl
  have e2 : v.cells.toList = [v] := by rw [hv]
  simp only [e1, e2, Nat.beq_refl, H.write, h1, a.2]
  rw [putAt_one _ _ _ ho]
theorem store_int {h : H} {b o : Nat} {s} {cs : List Value} {k : IntKind} {n : Int} (a : Has h b (.rw cs)) (ho : o < cs.length) : storeV 1 h (.pointer (some ⟨b, o, s⟩)) (.int k n) = some (h.put b (.rw (cs.set o (.int k n)))) := store_one a ho rfl rfl

/-- a row is turned -/
theorem RowsP.set {S : Nat → Prop} {O O' : Nat → Tag} {h h' : H} {s : Bool} {B : Nat} {vs : List Value} {rs : List (List Ent)} (a : RowsP O h s B vs rs) {i : Nat} {v' : Value} {es' : List Ent} (hi : i < rs.length) (k : Keep S h h') (hS : ∀ b, S b → O b = .row s i) (hO : ∀ b, b < h.next → O' b = O b) (ow : Own O' h' (.row s i) v' es') :
    RowsP O' (h'.put B (.rw (vs.set i v'))) s B (vs.set i v') (rs.set i es') := by
  have hB : O' B = .base s := (hO B a.hb.1).trans a.ob
  have hb' := a.hb.keep k fun hs => by have := hS _ hs; rw [a.ob] at this; cases this
  refine ⟨Has.put hb'.1, hB, by rw [List.length_set, List.length_set, a.len], fun j v es h1 h2 => ?_⟩
  have kp := Keep.put h' B (.rw (vs.set i v'))
  by_cases hij : i = j
  · subst hij
    rw [List.getElem?_set_self (by rw [a.len]; exact hi)] at h1
    rw [List.getElem?_set_self hi] at h2
    cases h1; cases h2
    exact ow.keep kp fun b hb ho => ⟨(fun e => by subst e; rw [hB] at ho; cases ho), ho⟩
  · rw [List.getElem?_set_ne hij] at h1 h2
    refine (a.own j v es h1 h2).keep ((k.mono (S' := fun b => S b ∨ b = B) fun _ _ h => .inl h).trans kp fun _ _ e => .inr e) fun b hb ho => ⟨?_, (hO b hb).trans ho⟩
    rintro (e | e)
    · have := hS b e; rw [ho] at this; cases this; exact hij rfl
    · subst e; rw [a.ob] at ho; cases ho

theorem mkE (b : Nat) (e : Ent) : mkLit 1 b (fill (repl [(.int .i64 (0)), (.string (strB [])), (.int .i64 (0))] 1) (pl 3) [(0, .agg e.cells.toArray)]) = some (.rw e.cells, .slice (some ⟨b, 0, none⟩) 1 1) := rfl

/-- what a put leaves -/
structure PutQ (O : Nat → Tag) (h : H) (s : Bool) (b o B : Nat) (tc vs : List Value) (rs : List (List Ent)) (i : Nat) (es' : List Ent) (n' : Int) (O' : Nat → Tag) (h' : H) : Prop where
  keep : Keep (fun c => O c = .row s i ∨ c = B ∨ c = b) h h'
  same : ∀ c, c < h.next → O' c = O c
  far : ∀ c, h'.next ≤ c → O' c = O c
  some : ∀ c, O' c = O c ∨ O' c = .row s i
  tab : Has h' b (.rw (tc.set (o + 1) (.int .i64 n')))
  rows : ∃ vs', RowsP O' h' s B vs' (rs.set i es')

theorem put_law (L n N : Nat) {O : Nat → Tag} {h : H} {s : Bool} {b o B : Nat} {tc vs : List Value} {rs : List (List Ent)} {m : Nat} (hb : Has h b (.rw tc)) (ho : o + 1 < tc.length) (hv : tc[o]? = some (.slice (some ⟨B, 0, none⟩) rs.length rs.length)) (hm : tc[o + 1]? = some (.int .i64 (m : Int))) (htag : O b = .tab) (rp : RowsP O h s B vs rs) (hpos : 0 < rs.length) (hle : rs.length ≤ 1000000) (e : Ent)
    {es : List Ent} (hes : rs[idx e.t e.k rs.length]? = some es) (hsz : es.length ≤ 1000000) (hm2 : m ≤ 1000000) (hL : e.k.size + 1 < L) (hk : e.k.size ≤ 100000) :
    Sp (CF L (n + 3)) 25 [.pointer (some ⟨b, o, none⟩), .agg e.cells.toArray] h fun r h' => r = .tuple #[] ∧ ∃ O', PutQ O h s b o B tc vs rs (idx e.t e.k rs.length) (es ++ [e]) ((m + 1 : Nat) : Int) O' h' := by
  refine Sp.body f25 (by simp) ?_
  unfold c25
  have k1 := Keep.new h (.rw e.cells)
  have b1 := Has.new h (.rw e.cells)
  have hc : (Value.cells (.agg e.cells.toArray)).toList = e.cells := by simp
  refine C.seq fun K hK => ?_
  simp only [↓opStep_eq, ↓reduceIte, ↓EW, EV, Nat.reduceAdd, Nat.reduceEqDiff, Int.reduceEq, Int.reduceLT, Int.reduceLE, Int.reduceNe, seqC, retC, skipC, exitC, blockC, condC, r25_0, hc]
  generalize h.new (.rw e.cells) = h1 at *
  have lda2 : ∀ hx, Has hx h.next (.rw e.cells) → ∀ s, loadAgg 2 hx (.pointer (some ⟨h.next, 0, s⟩)) = some (nameV e.t e.k) := fun hx b s => loadAgg_has b rfl (by simp [Ent.cells])
  have lda3 : ∀ hx, Has hx h.next (.rw e.cells) → ∀ s, loadAgg 3 hx (.pointer (some ⟨h.next, 0, s⟩)) = some (.agg e.cells.toArray) := fun hx b s => loadAgg_has b rfl (by simp [Ent.cells])
  refine hK _ _ _ (C.seq fun K hK => ?_)
  simp only [↓opStep_eq, ↓reduceIte, ↓EW, EV, Nat.reduceAdd, Nat.reduceEqDiff, Int.reduceEq, Int.reduceLT, Int.reduceLE, Int.reduceNe, seqC, retC, skipC, exitC, blockC, condC, r25_1, lda2 _ b1]
  refine row_law L n e.t e.k ⟨b, o, none⟩ B rs.length h1 (fun hx kx s => by rw [loadOne_has (hb.keep0 (k1.then kx)) rfl]; exact hv) hpos hle hL hk _ fun r h2 hq => ?_
  obtain ⟨rfl, k2⟩ := hq
  have k12 := k1.then k2
  have hlt := idx_lt e.t e.k hpos hle
  obtain ⟨vi, es1, e1, e2, ow, ldr⟩ := rp.at hlt
  rw [hes] at e2
  cases e2
  refine hK _ _ _ (C.seq fun K hK => ?_)
  have kr := keep_room h2 9
  have kp := Keep.put ⟨h2.objs, h2.next + 9⟩ (h2.next + 5) (.rw e.cells)
  have k3 : Keep nobody h2 ((⟨h2.objs, h2.next + 9⟩ : H).put (h2.next + 5) (.rw e.cells)) := ⟨kr.next, fun c hc hn => (kp.same c (by show c < h2.next + 9; omega) (by omega)).trans (kr.same c hc hn)⟩
  have b5 : Has ((⟨h2.objs, h2.next + 9⟩ : H).put (h2.next + 5) (.rw e.cells)) (h2.next + 5) (.rw e.cells) := Has.put (by show _ < h2.next + 9; omega)
  have k13 := k12.then k3
  have owr := ow.keep k13 (O' := O) fun _ _ h => ⟨id, h⟩
  have fv : firstV ((⟨h2.objs, h2.next + 9⟩ : H).put (h2.next + 5) (.rw e.cells)) 3 1 (.slice (some ⟨h2.next + 5, 0, none⟩) 1 1) = some e.cells := by
    simp only [firstV]
    rw [row_has b5 rfl (by simp [Ent.cells])]; rfl
  obtain ⟨v', h4, O', ea, own', ka, sa, fa, oa⟩ := owr.append e (x := .slice (some ⟨h2.next + 5, 0, none⟩) 1 1) rfl fv hsz
  have hB4 : Has h4 B (.rw vs) := (rp.hb.keep0 k13).keep ka fun hs => by rw [rp.ob] at hs; cases hs
  have ld5 : ∀ s, loadOne (⟨h2.objs, h2.next + 9⟩ : H) (.pointer (some ⟨B, idx e.t e.k rs.length, s⟩)) = some vi := fun s => ldr _ (k12.then kr) s
  have ob : ∃ a q c, v' = .slice a q c := own'.form
  have st : ∀ s, storeV 1 h4 (.pointer (some ⟨B, idx e.t e.k rs.length, s⟩)) v' = some (h4.put B (.rw (vs.set (idx e.t e.k rs.length) v'))) := fun s => by
    obtain ⟨a, q, c, rfl⟩ := ob
    exact store_one hB4 (by rw [rp.len]; exact hlt) rfl rfl
  have hlt2 : h1.next ≤ h2.next := k2.next
  have k04 : Keep (fun c => O c = .row s (idx e.t e.k rs.length)) h h4 := (k13.mono fun _ _ h => h.elim).trans ka fun _ _ h => h
  have hn3 : h.next ≤ ((⟨h2.objs, h2.next + 9⟩ : H).put (h2.next + 5) (.rw e.cells)).next := k13.next
  have rset := rp.set (O' := O') (v' := v') (es' := es ++ [e]) hlt k04 (fun _ h => h) (fun c hc => sa c (by omega)) own'
  have kB := Keep.put h4 B (.rw (vs.set (idx e.t e.k rs.length) v'))
  have hbB : b ≠ B := fun h => by rw [h, rp.ob] at htag; cases htag
  have hb5 : Has (h4.put B (.rw (vs.set (idx e.t e.k rs.length) v'))) b (.rw tc) := ((hb.keep k04 fun h => by rw [htag] at h; cases h)).keep kB hbB
  have b1r : Has (⟨h2.objs, h2.next + 9⟩ : H) h.next (.rw e.cells) := (b1.keep0 k2).keep0 kr
  simp only [↓opStep_eq, ↓reduceIte, ↓EW, EV, Nat.reduceAdd, Nat.reduceEqDiff, Int.reduceEq, Int.reduceLT, Int.reduceLE, Int.reduceNe, seqC, retC, skipC, exitC, blockC, condC, r25_2, nilChk_some, ld5, lda3 _ b1r, mkE, ea, st]
  refine hK _ _ _ fun K hK => ?_
  have ld6 : ∀ s, loadOne (h4.put B (.rw (vs.set (idx e.t e.k rs.length) v'))) (.pointer (some ⟨b, o + 1, s⟩)) = some (.int .i64 (m : Int)) := fun s => by rw [loadOne_has hb5 rfl]; exact hm
  have hw : IntKind.i64.wrap ((m : Int) + 1) = ((m + 1 : Nat) : Int) := by
    rw [show (m : Int) + 1 = ((m + 1 : Nat) : Int) by omega, wrap_i64 _ (by omega)]
  have st7 := fun s => store_int (s := s) (k := .i64) (n := ((m + 1 : Nat) : Int)) hb5 ho
  simp only [↓opStep_eq, ↓reduceIte, ↓EW, EV, Nat.reduceAdd, Nat.reduceEqDiff, Int.reduceEq, Int.reduceLT, Int.reduceLE, Int.reduceNe, seqC, retC, skipC, exitC, blockC, condC, r25_3, nilChk_some, ld6, hw, st7]
  have kb := Keep.put (h4.put B (.rw (vs.set (idx e.t e.k rs.length) v'))) b (.rw (tc.set (o + 1) (.int .i64 ((m + 1 : Nat) : Int))))
  refine hK _ _ _ ⟨.inl rfl, _, rfl, rfl, O', ⟨?_, fun c hc => sa c (by omega), fun c hc => fa c hc, oa, Has.put hb5.1, _, rset.keep kb fun c hc ho => ⟨fun e => ?_, rfl⟩⟩⟩
  · exact ((k04.mono fun _ _ h => Or.inl h).trans kB fun _ _ h => .inr (.inl h)).trans kb fun _ _ h => .inr (.inr h)
  · rw [e, sa b (by have := hb.1; omega), htag] at ho
    rcases ho with ho | ⟨_, ho⟩ <;> cases ho
end Go.Proofs.YtbdmhdidehfmoaaDoor

namespace Go.Proofs.YtbdmhdidehfmoaaDoor
open Go.Ev

theorem same_law (L n : Nat) (e : Ent) (t : Int) (k : ByteArray) (nb : Nat) (h : H) (hb : Has h nb (.rw [.int .i64 t, .string k])) :
    Sp (CF L (n + 1)) 37 [.agg e.cells.toArray, .pointer (some ⟨nb, 0, none⟩)] h fun r h' => r = .bool (decide (e.t = t ∧ e.k = k)) ∧ Keep nobody h h' := by
  refine Sp.body f37 (by simp) ?_
  unfold c37
  have k1 := Keep.new h (.rw e.cells)
  have b1 := Has.new h (.rw e.cells)
  have hc : (Value.cells (.agg e.cells.toArray)).toList = e.cells := by simp
  have hb1 := hb.keep0 k1
  refine C.seq fun K hK => ?_
  simp only [↓opStep_eq, ↓reduceIte, ↓EW, EV, Nat.reduceAdd, Nat.reduceEqDiff, Int.reduceEq, Int.reduceLT, Int.reduceLE, Int.reduceNe, seqC, retC, skipC, exitC, blockC, condC, r37_0, hc]
  generalize h.new (.rw e.cells) = h1 at *
  have l1 : ∀ s, loadAgg 2 h1 (.pointer (some ⟨h.next, 0, s⟩)) = some (nameV e.t e.k) := fun s => loadAgg_has b1 rfl (by simp [Ent.cells])
  have l2 : ∀ s, loadAgg 2 h1 (.pointer (some ⟨nb, 0, s⟩)) = some (nameV t k) := fun s => loadAgg_has hb1 rfl (by simp)
  refine hK _ _ _ (C.seq fun K hK => ?_)
  simp only [↓opStep_eq, ↓reduceIte, ↓EW, EV, Nat.reduceAdd, Nat.reduceEqDiff, Int.reduceEq, Int.reduceLT, Int.reduceLE, Int.reduceNe, seqC, retC, skipC, exitC, blockC, condC, r37_1, l1, l2, name_eql]
  exact hK _ _ _ (C.ret ⟨.inr rfl, _, rfl, by simp only [↓opStep_eq, ↓reduceIte, ↓EW, EV, Nat.reduceAdd, Nat.reduceEqDiff, Int.reduceEq, Int.reduceLT, Int.reduceLE, Int.reduceNe, seqC, retC, skipC, exitC, blockC, condC, resOf], k1⟩)

def IdxQ (es : List Ent) (t : Int) (k : ByteArray) (r : Value) : Prop :=
  (r = .int .i64 (-1) ∧ ∀ e ∈ es, ¬ (e.t = t ∧ e.k = k)) ∨ ∃ (j : Nat) (e : Ent), r = .int .i64 (j : Int) ∧ es[j]? = some e ∧ e.t = t ∧ e.k = k

theorem index_law (L n : Nat) {O : Nat → Tag} {h : H} {tag : Tag} {v : Value} {es : List Ent} (ow : Own O h tag v es) (hsz : es.length < L) (hsz2 : es.length ≤ 1000000) (t : Int) (k : ByteArray) (nb : Nat) (hb : Has h nb (.rw [.int .i64 t, .string k])) :
    Sp (CF L (n + 2)) 36 [v, .func (.func 37) [].toArray [.pointer (some ⟨nb, 0, none⟩)].toArray] h fun r h' => IdxQ es t k r ∧ Keep nobody h h' := by
  refine Sp.body f36 (by simp) ?_
  unfold c36
  refine C.seq fun K hK => hK .norm _ _ (C.seq (C.seq fun K hK => ?_))
  simp only [↓opStep_eq, ↓reduceIte, ↓EW, EV, Nat.reduceAdd, Nat.reduceEqDiff, Int.reduceEq, Int.reduceLT, Int.reduceLE, Int.reduceNe, seqC, retC, skipC, exitC, blockC, condC, r36_1, ow.len]
  refine hK .norm _ _ ?_
  refine C.block (C.loop (fun q tm' hx => ∃ i, q = es.length - i ∧ i ≤ es.length ∧ tg tm' 0 = v ∧ tg tm' 1 = .func (.func 37) [].toArray [.pointer (some ⟨nb, 0, none⟩)].toArray ∧ tg tm' 7 = .int .i64 (es.length : Int) ∧ tg tm' 8 = .int .i64 (i : Int) ∧ (∀ e ∈ es.take i, ¬ (e.t = t ∧ e.k = k)) ∧ Keep nobody h hx) es.length hsz
    ⟨0, rfl, by omega, by simp only [↓opStep_eq, ↓reduceIte, ↓EW, EV, Nat.reduceAdd, Nat.reduceEqDiff, Int.reduceEq, Int.reduceLT, Int.reduceLE, Int.reduceNe, seqC, retC, skipC, exitC, blockC, condC], by simp only [↓opStep_eq, ↓reduceIte, ↓EW, EV, Nat.reduceAdd, Nat.reduceEqDiff, Int.reduceEq, Int.reduceLT, Int.reduceLE, Int.reduceNe, seqC, retC, skipC, exitC, blockC, condC], by simp only [↓opStep_eq, ↓reduceIte, ↓EW, EV, Nat.reduceAdd, Nat.reduceEqDiff, Int.reduceEq, Int.reduceLT, Int.reduceLE, Int.reduceNe, seqC, retC, skipC, exitC, blockC, condC], by simp only [↓opStep_eq, ↓reduceIte, ↓EW, EV, Nat.reduceAdd, Nat.reduceEqDiff, Int.reduceEq, Int.reduceLT, Int.reduceLE, Int.reduceNe, seqC, retC, skipC, exitC, blockC, condC] <;> rfl, fun e he => by simp at he, .refl _ _⟩ ?_)
  rintro q tm' hx ⟨i, rfl, hi, t0, t1, t7, t8, no, kx⟩
  unfold l36_7
  refine C.seq fun K hK => ?_
  simp only [↓opStep_eq, ↓reduceIte, ↓EW, EV, Nat.reduceAdd, Nat.reduceEqDiff, Int.reduceEq, Int.reduceLT, Int.reduceLE, Int.reduceNe, seqC, retC, skipC, exitC, blockC, condC, r36_2, t7, t8]
  refine hK _ _ _ (C.seq (C.cond (decide ((i : Int) < (es.length : Int))) (by simp only [↓opStep_eq, ↓reduceIte, ↓EW, EV, Nat.reduceAdd, Nat.reduceEqDiff, Int.reduceEq, Int.reduceLT, Int.reduceLE, Int.reduceNe, seqC, retC, skipC, exitC, blockC, condC]) (fun g => C.skip ?_) fun g => C.exit ?_))
  · have g : i < es.length := by have := of_decide_eq_true g; omega
    obtain ⟨e, he⟩ : ∃ e, es[i]? = some e := ⟨es[i]'g, List.getElem?_eq_getElem g⟩
    obtain ⟨bb, cs, ix, _, hbb, h3, hc, _⟩ := (ow.keep kx (O' := O) fun _ _ h => ⟨id, h⟩).at he
    have la := fun s => Ent.at_all hbb h3 hc s
    refine C.seq (C.block (C.seq fun K hK => hK .norm _ _ (C.seq fun K hK => ?_)))
    have fa : ∀ w, funcArgs (.func (.func 37) [].toArray [.pointer (some ⟨nb, 0, none⟩)].toArray) [w] = some (37, [w, .pointer (some ⟨nb, 0, none⟩)]) := fun w => rfl
    simp only [↓opStep_eq, ↓reduceIte, ↓EW, EV, Nat.reduceAdd, Nat.reduceEqDiff, Int.reduceEq, Int.reduceLT, Int.reduceLE, Int.reduceNe, seqC, retC, skipC, exitC, blockC, condC, r36_4, t0, t1, t8, ix, la, fa, goCall]
    refine same_law L n e t k nb hx (hb.keep0 kx) _ fun r h2 hv => ?_
    obtain ⟨rfl, k2⟩ := hv
    refine hK _ _ _ (C.cond (decide (e.t = t ∧ e.k = k)) (by simp only [↓opStep_eq, ↓reduceIte, ↓EW, EV, Nat.reduceAdd, Nat.reduceEqDiff, Int.reduceEq, Int.reduceLT, Int.reduceLE, Int.reduceNe, seqC, retC, skipC, exitC, blockC, condC]) (fun g => ?_) fun g => C.skip fun K hK => ?_)
    · have g := of_decide_eq_true g
      refine C.seq fun K hK => hK .norm _ _ (C.ret ⟨.inr rfl, _, rfl, ?_, kx.then k2⟩)
      simp only [↓opStep_eq, ↓reduceIte, ↓EW, EV, Nat.reduceAdd, Nat.reduceEqDiff, Int.reduceEq, Int.reduceLT, Int.reduceLE, Int.reduceNe, seqC, retC, skipC, exitC, blockC, condC, resOf, t8]
      exact .inr ⟨i, e, rfl, he, g.1, g.2⟩
    · have g := of_decide_eq_false g
      have hw : IntKind.i64.wrap ((i : Int) + 1) = ((i + 1 : Nat) : Int) := by
        rw [show (i : Int) + 1 = ((i + 1 : Nat) : Int) by omega, wrap_i64 _ (by omega)]
      simp only [↓opStep_eq, ↓reduceIte, ↓EW, EV, Nat.reduceAdd, Nat.reduceEqDiff, Int.reduceEq, Int.reduceLT, Int.reduceLE, Int.reduceNe, seqC, retC, skipC, exitC, blockC, condC, r36_6, t8, hw]
      refine hK _ _ _ ⟨es.length - (i + 1), by omega, i + 1, rfl, by omega, by simp only [↓opStep_eq, ↓reduceIte, ↓EW, EV, Nat.reduceAdd, Nat.reduceEqDiff, Int.reduceEq, Int.reduceLT, Int.reduceLE, Int.reduceNe, seqC, retC, skipC, exitC, blockC, condC, t0], by simp only [↓opStep_eq, ↓reduceIte, ↓EW, EV, Nat.reduceAdd, Nat.reduceEqDiff, Int.reduceEq, Int.reduceLT, Int.reduceLE, Int.reduceNe, seqC, retC, skipC, exitC, blockC, condC, t1], by simp only [↓opStep_eq, ↓reduceIte, ↓EW, EV, Nat.reduceAdd, Nat.reduceEqDiff, Int.reduceEq, Int.reduceLT, Int.reduceLE, Int.reduceNe, seqC, retC, skipC, exitC, blockC, condC, t7], by simp only [↓opStep_eq, ↓reduceIte, ↓EW, EV, Nat.reduceAdd, Nat.reduceEqDiff, Int.reduceEq, Int.reduceLT, Int.reduceLE, Int.reduceNe, seqC, retC, skipC, exitC, blockC, condC], fun e' he' => ?_, kx.then k2⟩
      rw [List.take_add_one, he, Option.toList_some, List.mem_append, List.mem_singleton] at he'
      rcases he' with he' | rfl
      · exact no _ he'
      · exact g
  · simp only [if_pos]
    have g : i = es.length := by have := of_decide_eq_false g; omega
    refine C.seq fun K hK => hK .norm _ _ (C.ret ⟨.inr rfl, _, rfl, ?_, kx⟩)
    simp only [↓opStep_eq, ↓reduceIte, ↓EW, EV, Nat.reduceAdd, Nat.reduceEqDiff, Int.reduceEq, Int.reduceLT, Int.reduceLE, Int.reduceNe, seqC, retC, skipC, exitC, blockC, condC, resOf]
    rw [g, List.take_length] at no
    exact .inl ⟨rfl, no⟩

/-- what a del leaves -/
def DelQ (O : Nat → Tag) (h : H) (s : Bool) (b o : Nat) (v : Value) (tc : List Value) (rs : List (List Ent)) (t : Int) (k : ByteArray) (m : Int) (r : Value) (h' : H) : Prop :=
  (r = .bool false ∧ Keep nobody h h' ∧ ∀ es, rs[idx t k rs.length]? = some es → ∀ e ∈ es, ¬ (e.t = t ∧ e.k = k)) ∨
  ∃ (B : Nat) (vs' : List Value) (es : List Ent) (j : Nat) (e : Ent), r = .bool true ∧ v = .slice (some ⟨B, 0, none⟩) rs.length rs.length ∧ O B = .base s ∧ rs[idx t k rs.length]? = some es ∧ es[j]? = some e ∧ e.t = t ∧ e.k = k ∧
    RowsP O h' s B vs' (rs.set (idx t k rs.length) (es.eraseIdx j)) ∧ Has h' b (.rw (tc.set (o + 1) (.int .i64 (m - 1)))) ∧ Keep (fun c => O c = .row s (idx t k rs.length) ∨ c = B ∨ c = b) h h'

theorem del_law (L n N : Nat) {O : Nat → Tag} {h : H} {s : Bool} {b o : Nat} {tc : List Value} {v : Value} {rs : List (List Ent)} {m : Int} (hb : Has h b (.rw tc)) (ho : o + 1 < tc.length) (hv : tc[o]? = some v) (hm : tc[o + 1]? = some (.int .i64 m)) (htag : O b = .tab) (ra : RowsAt O h s v rs) (t : Int) (k : ByteArray)
    (hsz : ∀ (i : Nat) (es : List Ent), rs[i]? = some es → es.length ≤ N) (hN : N < L) (hN2 : N ≤ 1000000) (hm2 : 0 ≤ m ∧ m ≤ 1000000) (hL : k.size + 1 < L) (hk : k.size ≤ 100000) :
    Sp (CF L (n + 3)) 23 [.pointer (some ⟨b, o, none⟩), nameV t k] h fun r h' => DelQ O h s b o v tc rs t k m r h' := by
  refine Sp.body f23 (by simp) ?_
  unfold c23
  have k1 := Keep.new h (.rw [.int .i64 t, .string k])
  have b1 := Has.new h (.rw [.int .i64 t, .string k])
  refine C.seq fun K hK => ?_
  simp only [↓opStep_eq, ↓reduceIte, ↓EW, EV, Nat.reduceAdd, Nat.reduceEqDiff, Int.reduceEq, Int.reduceLT, Int.reduceLE, Int.reduceNe, seqC, retC, skipC, exitC, blockC, condC, r23_0, cells_agg]
  generalize h.new (.rw [.int .i64 t, .string k]) = h1 at *
  have lda : ∀ hx, Has hx h.next (.rw [.int .i64 t, .string k]) → ∀ s, loadAgg 2 hx (.pointer (some ⟨h.next, 0, s⟩)) = some (nameV t k) := fun hx b s => loadAgg_has b rfl (by simp)
  have hp : ∀ hx, Keep nobody h hx → ∀ s, loadOne hx (.pointer (some ⟨b, o, s⟩)) = some v := fun hx kx s => by rw [loadOne_has (hb.keep0 kx) rfl]; exact hv
  refine hK _ _ _ (C.seq (C.seq fun K hK => ?_))
  simp only [↓opStep_eq, ↓reduceIte, ↓EW, EV, Nat.reduceAdd, Nat.reduceEqDiff, Int.reduceEq, Int.reduceLT, Int.reduceLE, Int.reduceNe, seqC, retC, skipC, exitC, blockC, condC, r23_1, nilChk_some, hp _ k1, ra.len]
  rcases ra with ⟨rfl, rfl⟩ | ⟨B, vs, rfl, rp, hpos, hle⟩
  · have e0 : (([] : List (List Ent)).length : Int) = 0 := rfl
    simp only [↓opStep_eq, ↓reduceIte, ↓EW, EV, Nat.reduceAdd, Nat.reduceEqDiff, Int.reduceEq, Int.reduceLT, Int.reduceLE, Int.reduceNe, seqC, retC, skipC, exitC, blockC, condC, e0]
    exact hK _ _ _ (C.cond true (by simp only [↓opStep_eq, ↓reduceIte, ↓EW, EV, Nat.reduceAdd, Nat.reduceEqDiff, Int.reduceEq, Int.reduceLT, Int.reduceLE, Int.reduceNe, seqC, retC, skipC, exitC, blockC, condC]) (fun g => C.seq fun K hK => hK .norm _ _ (C.ret ⟨.inr rfl, _, rfl, by simp only [↓opStep_eq, ↓reduceIte, ↓EW, EV, Nat.reduceAdd, Nat.reduceEqDiff, Int.reduceEq, Int.reduceLT, Int.reduceLE, Int.reduceNe, seqC, retC, skipC, exitC, blockC, condC, resOf]; exact .inl ⟨rfl, k1, fun es he => by simp at he⟩⟩)) fun g => by cases g)
  · have hne : ¬ (rs.length : Int) = 0 := by omega
    simp only [↓opStep_eq, ↓reduceIte, ↓EW, EV, Nat.reduceAdd, Nat.reduceEqDiff, Int.reduceEq, Int.reduceLT, Int.reduceLE, Int.reduceNe, seqC, retC, skipC, exitC, blockC, condC, hne]
    refine hK _ _ _ (C.cond false (by simp only [↓opStep_eq, ↓reduceIte, ↓EW, EV, Nat.reduceAdd, Nat.reduceEqDiff, Int.reduceEq, Int.reduceLT, Int.reduceLE, Int.reduceNe, seqC, retC, skipC, exitC, blockC, condC]) (fun g => by cases g) fun g => C.skip ?_)
    refine C.seq fun K hK => ?_
    simp only [↓opStep_eq, ↓reduceIte, ↓EW, EV, Nat.reduceAdd, Nat.reduceEqDiff, Int.reduceEq, Int.reduceLT, Int.reduceLE, Int.reduceNe, seqC, retC, skipC, exitC, blockC, condC, r23_3, lda _ b1]
    refine row_law L n t k ⟨b, o, none⟩ B rs.length h1 (fun hx kx => hp hx (k1.then kx)) hpos hle hL hk _ fun r h2 hv => ?_
    obtain ⟨rfl, k2⟩ := hv
    have k12 := k1.then k2
    have hlt := idx_lt t k hpos hle
    obtain ⟨vi, es, e1, e2, ow, ldr⟩ := rp.at hlt
    have hes := hsz _ _ e2
    refine hK _ _ _ (C.seq fun K hK => ?_)
    simp only [↓opStep_eq, ↓reduceIte, ↓EW, EV, Nat.reduceAdd, Nat.reduceEqDiff, Int.reduceEq, Int.reduceLT, Int.reduceLE, Int.reduceNe, seqC, retC, skipC, exitC, blockC, condC, r23_4, nilChk_some, ldr _ k12]
    refine index_law L n (ow.keep k12 (O' := O) fun _ _ h => ⟨id, h⟩) (by omega) (by omega) t k h.next (b1.keep0 k2) _ fun r h3 hv => ?_
    obtain ⟨hi, k3⟩ := hv
    have k13 := k12.then k3
    refine hK _ _ _ (C.seq (C.seq fun K hK => ?_))
    rcases hi with ⟨rfl, no⟩ | ⟨j, e, rfl, he, et, ek⟩
    · simp only [↓opStep_eq, ↓reduceIte, ↓EW, EV, Nat.reduceAdd, Nat.reduceEqDiff, Int.reduceEq, Int.reduceLT, Int.reduceLE, Int.reduceNe, seqC, retC, skipC, exitC, blockC, condC, r23_5]
      refine hK _ _ _ (C.cond true (by simp only [↓opStep_eq, ↓reduceIte, ↓EW, EV, Nat.reduceAdd, Nat.reduceEqDiff, Int.reduceEq, Int.reduceLT, Int.reduceLE, Int.reduceNe, seqC, retC, skipC, exitC, blockC, condC]) (fun g => C.seq fun K hK => hK .norm _ _ (C.ret ⟨.inr rfl, _, rfl, ?_⟩)) fun g => by cases g)
      simp only [↓opStep_eq, ↓reduceIte, ↓EW, EV, Nat.reduceAdd, Nat.reduceEqDiff, Int.reduceEq, Int.reduceLT, Int.reduceLE, Int.reduceNe, seqC, retC, skipC, exitC, blockC, condC, resOf]
      exact .inl ⟨rfl, k13, fun es' he' => by rw [e2] at he'; cases he'; exact no⟩
    · have hj : ¬ (j : Int) < 0 := by omega
      have hjl := (List.getElem?_eq_some_iff.1 he).1
      simp only [↓opStep_eq, ↓reduceIte, ↓EW, EV, Nat.reduceAdd, Nat.reduceEqDiff, Int.reduceEq, Int.reduceLT, Int.reduceLE, Int.reduceNe, seqC, retC, skipC, exitC, blockC, condC, r23_5, hj]
      refine hK _ _ _ (C.cond false (by simp only [↓opStep_eq, ↓reduceIte, ↓EW, EV, Nat.reduceAdd, Nat.reduceEqDiff, Int.reduceEq, Int.reduceLT, Int.reduceLE, Int.reduceNe, seqC, retC, skipC, exitC, blockC, condC]) (fun g => by cases g) fun g => C.skip ?_)
      refine C.seq fun K hK => ?_
      have hw : IntKind.i64.wrap ((j : Int) + 1) = ((j + 1 : Nat) : Int) := by
        rw [show (j : Int) + 1 = ((j + 1 : Nat) : Int) by omega, wrap_i64 _ (by omega)]
      simp only [↓opStep_eq, ↓reduceIte, ↓EW, EV, Nat.reduceAdd, Nat.reduceEqDiff, Int.reduceEq, Int.reduceLT, Int.reduceLE, Int.reduceNe, seqC, retC, skipC, exitC, blockC, condC, r23_7, nilChk_some, ldr _ k13, hw]
      refine delete_law L (n + 1) (ow.keep k13 (O' := O) fun _ _ h => ⟨id, h⟩) hjl (by omega) _ fun v' h4 hv => ?_
      obtain ⟨own', k4⟩ := hv
      have k04 : Keep (fun c => O c = .row s (idx t k rs.length)) h h4 := (k13.mono fun _ _ h => h.elim).trans k4 fun _ _ h => h
      have hB4 : Has h4 B (.rw vs) := rp.hb.keep k04 fun hs => by rw [rp.ob] at hs; cases hs
      have st : ∀ s, storeV 1 h4 (.pointer (some ⟨B, idx t k rs.length, s⟩)) v' = some (h4.put B (.rw (vs.set (idx t k rs.length) v'))) := fun s => by
        obtain ⟨a, q, c, rfl⟩ := own'.form
        exact store_one hB4 (by rw [rp.len]; exact hlt) rfl rfl
      have rset := rp.set (O' := O) (v' := v') (es' := es.eraseIdx j) hlt k04 (fun _ h => h) (fun c hc => rfl) own'
      have kB := Keep.put h4 B (.rw (vs.set (idx t k rs.length) v'))
      have hbB : b ≠ B := fun h => by rw [h, rp.ob] at htag; cases htag
      have hb5 : Has (h4.put B (.rw (vs.set (idx t k rs.length) v'))) b (.rw tc) := (hb.keep k04 fun h => by rw [htag] at h; cases h).keep kB hbB
      simp only [↓opStep_eq, ↓reduceIte, ↓EW, EV, Nat.reduceAdd, Nat.reduceEqDiff, Int.reduceEq, Int.reduceLT, Int.reduceLE, Int.reduceNe, seqC, retC, skipC, exitC, blockC, condC, st]
      refine hK _ _ _ (C.seq fun K hK => ?_)
      have ld6 : ∀ s, loadOne (h4.put B (.rw (vs.set (idx t k rs.length) v'))) (.pointer (some ⟨b, o + 1, s⟩)) = some (.int .i64 m) := fun s => by rw [loadOne_has hb5 rfl]; exact hm
      have hw2 : IntKind.i64.wrap (m - 1) = m - 1 := by
        rw [wrap_eq] <;> simp [IntKind.min, IntKind.max, IntKind.bits, IntKind.signed] <;> omega
      have st7 := fun s => store_int (s := s) (k := .i64) (n := m - 1) hb5 ho
      simp only [↓opStep_eq, ↓reduceIte, ↓EW, EV, Nat.reduceAdd, Nat.reduceEqDiff, Int.reduceEq, Int.reduceLT, Int.reduceLE, Int.reduceNe, seqC, retC, skipC, exitC, blockC, condC, r23_8, nilChk_some, ld6, hw2, st7]
      have kb := Keep.put (h4.put B (.rw (vs.set (idx t k rs.length) v'))) b (.rw (tc.set (o + 1) (.int .i64 (m - 1))))
      refine hK _ _ _ (C.seq fun K hK => hK .norm _ _ (C.ret ⟨.inr rfl, _, rfl, ?_⟩))
      simp only [↓opStep_eq, ↓reduceIte, ↓EW, EV, Nat.reduceAdd, Nat.reduceEqDiff, Int.reduceEq, Int.reduceLT, Int.reduceLE, Int.reduceNe, seqC, retC, skipC, exitC, blockC, condC, resOf]
      refine .inr ⟨B, _, es, j, e, rfl, rfl, rp.ob, e2, he, et, ek, rset.keep kb fun c hc ho => ⟨fun e => ?_, rfl⟩, Has.put hb5.1, ?_⟩
      · rw [e, htag] at ho
        rcases ho with ho | ⟨_, ho⟩ <;> cases ho
      · exact ((k04.mono fun _ _ h => Or.inl h).trans kB fun _ _ h => .inr (.inl h)).trans kb fun _ _ h => .inr (.inr h)
end Go.Proofs.YtbdmhdidehfmoaaDoor
