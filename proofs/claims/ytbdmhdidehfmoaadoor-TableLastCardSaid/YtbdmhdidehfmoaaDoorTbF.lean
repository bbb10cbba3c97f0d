import Derived.Test.YtbdmhdidehfmoaaDoorTbE
set_option linter.unusedSimpArgs false
set_option linter.unusedVariables false
namespace Go.Proofs.YtbdmhdidehfmoaaDoor
open Go.Ev

def chain : List Bool → Option Bool
  | [] => some true
  | b :: r => match some b with
    | some true => chain r
    | some false => some false
    | none => none
abbrev nameV (t : Int) (k : ByteArray) : Value := .agg [.int .i64 t, .string k].toArray
theorem eqv_name (t t' : Int) (k k' : ByteArray) : eqV Tryd.prog 200 27 (.agg #[.int .i64 t, .string k]) (.agg #[.int .i64 t', .string k']) = chain [iEq t t', leB k.data.toList k'.data.toList] := by kernel_rfl
theorem guard27 : Program.eqGuardType Tryd.prog (Program.depth Tryd.prog) 27 = false := by kernel_rfl
theorem bytes_eq (k k' : ByteArray) : (k.data.toList = k'.data.toList) ↔ k = k' := ⟨fun h => ByteArray.ext (Array.ext' h), fun h => by rw [h]⟩
theorem name_eql (t t' : Int) (k k' : ByteArray) : binV Tryd.prog .eql 27 false (nameV t k) (nameV t' k') = some (.bool (decide (t = t' ∧ k = k'))) := by
  show aggEq Tryd.prog .eql 27 (nameV t k) (nameV t' k') = _
  unfold aggEq
  rw [guard27]
  show boolRes .eql (eqV Tryd.prog 200 27 (nameV t k) (nameV t' k')) = _
  rw [show nameV t k = .agg #[.int .i64 t, .string k] from rfl, show nameV t' k' = .agg #[.int .i64 t', .string k'] from rfl, eqv_name]
  simp only [leB_eq, iEq_dec, chain]
  by_cases h1 : t = t'
  · by_cases h2 : k = k'
    · subst h1; subst h2; simp; rfl
    · have h3 : (k.data.toList == k'.data.toList) = false := by
        rw [beq_eq_false_iff_ne]; exact fun h => h2 ((bytes_eq _ _).1 h)
      rw [h3, decide_eq_true h1, decide_eq_false (fun h => h2 h.2)]; rfl
  · rw [decide_eq_false h1, decide_eq_false (fun h => h1 h.1)]; rfl

/-- the rows of a side -/
structure RowsP (O : Nat → Tag) (h : H) (s : Bool) (B : Nat) (vs : List Value) (rs : List (List Ent)) : Prop where
  hb : Has h B (.rw vs)
  ob : O B = .base s
  len : vs.length = rs.length
  own : ∀ i v es, vs[i]? = some v → rs[i]? = some es → Own O h (.row s i) v es
def RowsAt (O : Nat → Tag) (h : H) (s : Bool) (v : Value) (rs : List (List Ent)) : Prop :=
  (v = .slice none 0 0 ∧ rs = []) ∨ ∃ B vs, v = .slice (some ⟨B, 0, none⟩) rs.length rs.length ∧ RowsP O h s B vs rs ∧ 0 < rs.length ∧ rs.length ≤ 1000000

theorem RowsP.keep {S : Nat → Prop} {O O' : Nat → Tag} {h h' : H} {s : Bool} {B : Nat} {vs : List Value} {rs : List (List Ent)} (a : RowsP O h s B vs rs) (k : Keep S h h') (hn : ∀ b, b < h.next → (O b = .base s ∨ ∃ i, O b = .row s i) → ¬ S b ∧ O' b = O b) : RowsP O' h' s B vs rs :=
  ⟨a.hb.keep k (hn B a.hb.1 (.inl a.ob)).1, (hn B a.hb.1 (.inl a.ob)).2.trans a.ob, a.len, fun i v es h1 h2 => (a.own i v es h1 h2).keep k fun b hb ho => ⟨(hn b hb (.inr ⟨i, ho⟩)).1, (hn b hb (.inr ⟨i, ho⟩)).2.trans ho⟩⟩
theorem RowsAt.keep {S : Nat → Prop} {O O' : Nat → Tag} {h h' : H} {s : Bool} {v : Value} {rs : List (List Ent)} (a : RowsAt O h s v rs) (k : Keep S h h') (hn : ∀ b, b < h.next → (O b = .base s ∨ ∃ i, O b = .row s i) → ¬ S b ∧ O' b = O b) : RowsAt O' h' s v rs := by
  rcases a with a | ⟨B, vs, e, p, q⟩
  · exact .inl a
  · exact .inr ⟨B, vs, e, p.keep k hn, q⟩
theorem RowsAt.len {O : Nat → Tag} {h : H} {s : Bool} {v : Value} {rs : List (List Ent)} (a : RowsAt O h s v rs) : lenSl v = some (.int .i64 (rs.length : Int)) := by
  rcases a with ⟨rfl, rfl⟩ | ⟨B, vs, rfl, _⟩ <;> rfl
theorem RowsAt.keep0 {O : Nat → Tag} {h h' : H} {s : Bool} {v : Value} {rs : List (List Ent)} (a : RowsAt O h s v rs) (k : Keep nobody h h') : RowsAt O h' s v rs := a.keep k fun _ _ _ => ⟨id, rfl⟩
theorem RowsP.keep0 {O : Nat → Tag} {h h' : H} {s : Bool} {B : Nat} {vs : List Value} {rs : List (List Ent)} (a : RowsP O h s B vs rs) (k : Keep nobody h h') : RowsP O h' s B vs rs := a.keep k fun _ _ _ => ⟨id, rfl⟩
theorem RowsP.at {O : Nat → Tag} {h : H} {s : Bool} {B : Nat} {vs : List Value} {rs : List (List Ent)} (a : RowsP O h s B vs rs) {i : Nat} (hi : i < rs.length) : ∃ v es, vs[i]? = some v ∧ rs[i]? = some es ∧ Own O h (.row s i) v es ∧ ∀ h', Keep nobody h h' → ∀ t, loadOne h' (.pointer (some ⟨B, i, t⟩)) = some v := by
  have h1 : vs[i]? = some (vs[i]'(by rw [a.len]; exact hi)) := List.getElem?_eq_getElem _
  have h2 : rs[i]? = some (rs[i]'hi) := List.getElem?_eq_getElem _
  exact ⟨_, _, h1, h2, a.own _ _ _ h1 h2, fun h' k t => by rw [loadOne_has (a.hb.keep0 k) rfl, h1]⟩

/-- what find tells -/
def FindQ (O : Nat → Tag) (h : H) (s : Bool) (v : Value) (rs : List (List Ent)) (t : Int) (k : ByteArray) (r : Value) : Prop :=
  (r = .pointer none ∧ ∀ es, rs[idx t k rs.length]? = some es → ∀ e ∈ es, ¬ (e.t = t ∧ e.k = k)) ∨
  ∃ (B : Nat) (vs : List Value) (vi : Value) (es : List Ent) (j : Nat) (e : Ent), v = .slice (some ⟨B, 0, none⟩) rs.length rs.length ∧ RowsP O h s B vs rs ∧ vs[idx t k rs.length]? = some vi ∧ rs[idx t k rs.length]? = some es ∧ es[j]? = some e ∧ e.t = t ∧ e.k = k ∧ indexSl 3 vi (.int .i64 (j : Int)) = some r

theorem find_law (L n N : Nat) {O : Nat → Tag} {h : H} {s : Bool} {v : Value} {rs : List (List Ent)} (ra : RowsAt O h s v rs) (t : Int) (k : ByteArray) (p : Addr) (hp : ∀ hx, Keep nobody h hx → ∀ s, loadOne hx (.pointer (some ⟨p.block, p.off, s⟩)) = some v) (hsz : ∀ (i : Nat) (es : List Ent), rs[i]? = some es → es.length ≤ N) (hN : N < L) (hN2 : N ≤ 1000000) (hL : k.size + 1 < L) (hk : k.size ≤ 100000) :
    Sp (CF L (n + 3)) 24 [.pointer (some p), nameV t k] h fun r h' => FindQ O h s v rs t k r ∧ Keep nobody h h' := by
  refine Sp.body f24 (by simp) ?_
  unfold c24
  have k1 := Keep.new h (.rw [.int .i64 t, .string k])
  have b1 := Has.new h (.rw [.int .i64 t, .string k])
  refine C.seq fun K hK => ?_
  simp only [↓opStep_eq, ↓reduceIte, tg_set, toTm_cons, toTm_nil, fieldPtr_ptr, Nat.add_zero, Nat.zero_add, Nat.reduceAdd, Nat.reduceEqDiff, Int.reduceEq, Int.reduceLT, Int.reduceLE, Int.reduceNe, ↓kO_some, ↓kA_some, ↓kH_some, kO_some, kA_some, kH_some, gd_true, gd_false, nthD_zero, nthD_succ, isB_true, isB_false, isB_undef, pickV_true, pickV_false, binV_add, binV_sub, binV_mul, binV_eql, binV_neq, binV_lss, binV_leq, binV_gtr, binV_geq, unV_not, nt, nf, Bool.false_eq_true, dt, df, decide_true, decide_false, withV_some, aggO_some, ptrTo_eq, ↓aO_some, aO_some, ↓andB_true, andB_true, gz, gs, seqC, retC, skipC, exitC, blockC, condC, cells_agg, r24_0, cells_agg]
  generalize h.new (.rw [.int .i64 t, .string k]) = h1 at *
  have lda : ∀ hx, Has hx h.next (.rw [.int .i64 t, .string k]) → ∀ s, loadAgg 2 hx (.pointer (some ⟨h.next, 0, s⟩)) = some (nameV t k) := fun hx b s => loadAgg_has b rfl (by simp)
  have ef : fieldPtr 0 (.pointer (some p)) = some (.pointer (some ⟨p.block, p.off, none⟩)) := rfl
  refine hK _ _ _ (C.seq (C.seq fun K hK => ?_))
  simp only [↓opStep_eq, ↓reduceIte, tg_set, toTm_cons, toTm_nil, fieldPtr_ptr, Nat.add_zero, Nat.zero_add, Nat.reduceAdd, Nat.reduceEqDiff, Int.reduceEq, Int.reduceLT, Int.reduceLE, Int.reduceNe, ↓kO_some, ↓kA_some, ↓kH_some, kO_some, kA_some, kH_some, gd_true, gd_false, nthD_zero, nthD_succ, isB_true, isB_false, isB_undef, pickV_true, pickV_false, binV_add, binV_sub, binV_mul, binV_eql, binV_neq, binV_lss, binV_leq, binV_gtr, binV_geq, unV_not, nt, nf, Bool.false_eq_true, dt, df, decide_true, decide_false, withV_some, aggO_some, ptrTo_eq, ↓aO_some, aO_some, ↓andB_true, andB_true, gz, gs, seqC, retC, skipC, exitC, blockC, condC, cells_agg, r24_1, nilChk_some, ef, hp _ k1, ra.len]
  rcases ra with ⟨rfl, rfl⟩ | ⟨B, vs, rfl, rp, hpos, hle⟩
  · have e0 : (([] : List (List Ent)).length : Int) = 0 := rfl
    simp only [↓opStep_eq, ↓reduceIte, tg_set, toTm_cons, toTm_nil, fieldPtr_ptr, Nat.add_zero, Nat.zero_add, Nat.reduceAdd, Nat.reduceEqDiff, Int.reduceEq, Int.reduceLT, Int.reduceLE, Int.reduceNe, ↓kO_some, ↓kA_some, ↓kH_some, kO_some, kA_some, kH_some, gd_true, gd_false, nthD_zero, nthD_succ, isB_true, isB_false, isB_undef, pickV_true, pickV_false, binV_add, binV_sub, binV_mul, binV_eql, binV_neq, binV_lss, binV_leq, binV_gtr, binV_geq, unV_not, nt, nf, Bool.false_eq_true, dt, df, decide_true, decide_false, withV_some, aggO_some, ptrTo_eq, ↓aO_some, aO_some, ↓andB_true, andB_true, gz, gs, seqC, retC, skipC, exitC, blockC, condC, cells_agg, e0]
    exact hK _ _ _ (C.cond true (by simp only [↓opStep_eq, ↓reduceIte, tg_set, toTm_cons, toTm_nil, fieldPtr_ptr, Nat.add_zero, Nat.zero_add, Nat.reduceAdd, Nat.reduceEqDiff, Int.reduceEq, Int.reduceLT, Int.reduceLE, Int.reduceNe, ↓kO_some, ↓kA_some, ↓kH_some, kO_some, kA_some, kH_some, gd_true, gd_false, nthD_zero, nthD_succ, isB_true, isB_false, isB_undef, pickV_true, pickV_false, binV_add, binV_sub, binV_mul, binV_eql, binV_neq, binV_lss, binV_leq, binV_gtr, binV_geq, unV_not, nt, nf, Bool.false_eq_true, dt, df, decide_true, decide_false, withV_some, aggO_some, ptrTo_eq, ↓aO_some, aO_some, ↓andB_true, andB_true, gz, gs, seqC, retC, skipC, exitC, blockC, condC, cells_agg]) (fun g => C.seq fun K hK => hK .norm _ _ (C.ret ⟨.inr rfl, _, rfl, by simp only [↓opStep_eq, ↓reduceIte, tg_set, toTm_cons, toTm_nil, fieldPtr_ptr, Nat.add_zero, Nat.zero_add, Nat.reduceAdd, Nat.reduceEqDiff, Int.reduceEq, Int.reduceLT, Int.reduceLE, Int.reduceNe, ↓kO_some, ↓kA_some, ↓kH_some, kO_some, kA_some, kH_some, gd_true, gd_false, nthD_zero, nthD_succ, isB_true, isB_false, isB_undef, pickV_true, pickV_false, binV_add, binV_sub, binV_mul, binV_eql, binV_neq, binV_lss, binV_leq, binV_gtr, binV_geq, unV_not, nt, nf, Bool.false_eq_true, dt, df, decide_true, decide_false, withV_some, aggO_some, ptrTo_eq, ↓aO_some, aO_some, ↓andB_true, andB_true, gz, gs, seqC, retC, skipC, exitC, blockC, condC, cells_agg, resOf]; exact .inl ⟨rfl, fun es he => by simp at he⟩, k1⟩)) fun g => by cases g)
  · have hne : ¬ (rs.length : Int) = 0 := by omega
    simp only [↓opStep_eq, ↓reduceIte, tg_set, toTm_cons, toTm_nil, fieldPtr_ptr, Nat.add_zero, Nat.zero_add, Nat.reduceAdd, Nat.reduceEqDiff, Int.reduceEq, Int.reduceLT, Int.reduceLE, Int.reduceNe, ↓kO_some, ↓kA_some, ↓kH_some, kO_some, kA_some, kH_some, gd_true, gd_false, nthD_zero, nthD_succ, isB_true, isB_false, isB_undef, pickV_true, pickV_false, binV_add, binV_sub, binV_mul, binV_eql, binV_neq, binV_lss, binV_leq, binV_gtr, binV_geq, unV_not, nt, nf, Bool.false_eq_true, dt, df, decide_true, decide_false, withV_some, aggO_some, ptrTo_eq, ↓aO_some, aO_some, ↓andB_true, andB_true, gz, gs, seqC, retC, skipC, exitC, blockC, condC, cells_agg, hne]
    refine hK _ _ _ (C.cond false (by simp only [↓opStep_eq, ↓reduceIte, tg_set, toTm_cons, toTm_nil, fieldPtr_ptr, Nat.add_zero, Nat.zero_add, Nat.reduceAdd, Nat.reduceEqDiff, Int.reduceEq, Int.reduceLT, Int.reduceLE, Int.reduceNe, ↓kO_some, ↓kA_some, ↓kH_some, kO_some, kA_some, kH_some, gd_true, gd_false, nthD_zero, nthD_succ, isB_true, isB_false, isB_undef, pickV_true, pickV_false, binV_add, binV_sub, binV_mul, binV_eql, binV_neq, binV_lss, binV_leq, binV_gtr, binV_geq, unV_not, nt, nf, Bool.false_eq_true, dt, df, decide_true, decide_false, withV_some, aggO_some, ptrTo_eq, ↓aO_some, aO_some, ↓andB_true, andB_true, gz, gs, seqC, retC, skipC, exitC, blockC, condC, cells_agg]) (fun g => by cases g) fun g => C.skip ?_)
    refine C.seq fun K hK => ?_
    simp only [↓opStep_eq, ↓reduceIte, tg_set, toTm_cons, toTm_nil, fieldPtr_ptr, Nat.add_zero, Nat.zero_add, Nat.reduceAdd, Nat.reduceEqDiff, Int.reduceEq, Int.reduceLT, Int.reduceLE, Int.reduceNe, ↓kO_some, ↓kA_some, ↓kH_some, kO_some, kA_some, kH_some, gd_true, gd_false, nthD_zero, nthD_succ, isB_true, isB_false, isB_undef, pickV_true, pickV_false, binV_add, binV_sub, binV_mul, binV_eql, binV_neq, binV_lss, binV_leq, binV_gtr, binV_geq, unV_not, nt, nf, Bool.false_eq_true, dt, df, decide_true, decide_false, withV_some, aggO_some, ptrTo_eq, ↓aO_some, aO_some, ↓andB_true, andB_true, gz, gs, seqC, retC, skipC, exitC, blockC, condC, cells_agg, r24_3, lda _ b1]
    refine row_law L n t k p B rs.length h1 (fun hx kx => hp hx (k1.then kx)) hpos hle hL hk _ fun r h2 hv => ?_
    obtain ⟨rfl, k2⟩ := hv
    have k12 := k1.then k2
    have hlt := idx_lt t k hpos hle
    obtain ⟨vi, es, e1, e2, ow, ldr⟩ := rp.at hlt
    have hes := hsz _ _ e2
    simp only [↓opStep_eq, ↓reduceIte, tg_set, toTm_cons, toTm_nil, fieldPtr_ptr, Nat.add_zero, Nat.zero_add, Nat.reduceAdd, Nat.reduceEqDiff, Int.reduceEq, Int.reduceLT, Int.reduceLE, Int.reduceNe, ↓kO_some, ↓kA_some, ↓kH_some, kO_some, kA_some, kH_some, gd_true, gd_false, nthD_zero, nthD_succ, isB_true, isB_false, isB_undef, pickV_true, pickV_false, binV_add, binV_sub, binV_mul, binV_eql, binV_neq, binV_lss, binV_leq, binV_gtr, binV_geq, unV_not, nt, nf, Bool.false_eq_true, dt, df, decide_true, decide_false, withV_some, aggO_some, ptrTo_eq, ↓aO_some, aO_some, ↓andB_true, andB_true, gz, gs, seqC, retC, skipC, exitC, blockC, condC, cells_agg, nilChk_some, ldr _ k12]
    refine hK _ _ _ (C.seq (C.seq fun K hK => ?_))
    simp only [↓opStep_eq, ↓reduceIte, tg_set, toTm_cons, toTm_nil, fieldPtr_ptr, Nat.add_zero, Nat.zero_add, Nat.reduceAdd, Nat.reduceEqDiff, Int.reduceEq, Int.reduceLT, Int.reduceLE, Int.reduceNe, ↓kO_some, ↓kA_some, ↓kH_some, kO_some, kA_some, kH_some, gd_true, gd_false, nthD_zero, nthD_succ, isB_true, isB_false, isB_undef, pickV_true, pickV_false, binV_add, binV_sub, binV_mul, binV_eql, binV_neq, binV_lss, binV_leq, binV_gtr, binV_geq, unV_not, nt, nf, Bool.false_eq_true, dt, df, decide_true, decide_false, withV_some, aggO_some, ptrTo_eq, ↓aO_some, aO_some, ↓andB_true, andB_true, gz, gs, seqC, retC, skipC, exitC, blockC, condC, cells_agg, r24_4, ow.len]
    refine hK .norm _ _ ?_
    refine C.block (C.loop (fun q tm' hx => ∃ i, q = es.length - i ∧ i ≤ es.length ∧ tg tm' 3 = .pointer (some ⟨h.next, 0, none⟩) ∧ tg tm' 5 = vi ∧ tg tm' 19 = .int .i64 (es.length : Int) ∧ tg tm' 20 = .int .i64 (i : Int) ∧ (∀ e ∈ es.take i, ¬ (e.t = t ∧ e.k = k)) ∧ Keep nobody h2 hx) es.length (by omega)
      ⟨0, rfl, by omega, by simp only [↓opStep_eq, ↓reduceIte, tg_set, toTm_cons, toTm_nil, fieldPtr_ptr, Nat.add_zero, Nat.zero_add, Nat.reduceAdd, Nat.reduceEqDiff, Int.reduceEq, Int.reduceLT, Int.reduceLE, Int.reduceNe, ↓kO_some, ↓kA_some, ↓kH_some, kO_some, kA_some, kH_some, gd_true, gd_false, nthD_zero, nthD_succ, isB_true, isB_false, isB_undef, pickV_true, pickV_false, binV_add, binV_sub, binV_mul, binV_eql, binV_neq, binV_lss, binV_leq, binV_gtr, binV_geq, unV_not, nt, nf, Bool.false_eq_true, dt, df, decide_true, decide_false, withV_some, aggO_some, ptrTo_eq, ↓aO_some, aO_some, ↓andB_true, andB_true, gz, gs, seqC, retC, skipC, exitC, blockC, condC, cells_agg], by simp only [↓opStep_eq, ↓reduceIte, tg_set, toTm_cons, toTm_nil, fieldPtr_ptr, Nat.add_zero, Nat.zero_add, Nat.reduceAdd, Nat.reduceEqDiff, Int.reduceEq, Int.reduceLT, Int.reduceLE, Int.reduceNe, ↓kO_some, ↓kA_some, ↓kH_some, kO_some, kA_some, kH_some, gd_true, gd_false, nthD_zero, nthD_succ, isB_true, isB_false, isB_undef, pickV_true, pickV_false, binV_add, binV_sub, binV_mul, binV_eql, binV_neq, binV_lss, binV_leq, binV_gtr, binV_geq, unV_not, nt, nf, Bool.false_eq_true, dt, df, decide_true, decide_false, withV_some, aggO_some, ptrTo_eq, ↓aO_some, aO_some, ↓andB_true, andB_true, gz, gs, seqC, retC, skipC, exitC, blockC, condC, cells_agg], by simp only [↓opStep_eq, ↓reduceIte, tg_set, toTm_cons, toTm_nil, fieldPtr_ptr, Nat.add_zero, Nat.zero_add, Nat.reduceAdd, Nat.reduceEqDiff, Int.reduceEq, Int.reduceLT, Int.reduceLE, Int.reduceNe, ↓kO_some, ↓kA_some, ↓kH_some, kO_some, kA_some, kH_some, gd_true, gd_false, nthD_zero, nthD_succ, isB_true, isB_false, isB_undef, pickV_true, pickV_false, binV_add, binV_sub, binV_mul, binV_eql, binV_neq, binV_lss, binV_leq, binV_gtr, binV_geq, unV_not, nt, nf, Bool.false_eq_true, dt, df, decide_true, decide_false, withV_some, aggO_some, ptrTo_eq, ↓aO_some, aO_some, ↓andB_true, andB_true, gz, gs, seqC, retC, skipC, exitC, blockC, condC, cells_agg], by simp only [↓opStep_eq, ↓reduceIte, tg_set, toTm_cons, toTm_nil, fieldPtr_ptr, Nat.add_zero, Nat.zero_add, Nat.reduceAdd, Nat.reduceEqDiff, Int.reduceEq, Int.reduceLT, Int.reduceLE, Int.reduceNe, ↓kO_some, ↓kA_some, ↓kH_some, kO_some, kA_some, kH_some, gd_true, gd_false, nthD_zero, nthD_succ, isB_true, isB_false, isB_undef, pickV_true, pickV_false, binV_add, binV_sub, binV_mul, binV_eql, binV_neq, binV_lss, binV_leq, binV_gtr, binV_geq, unV_not, nt, nf, Bool.false_eq_true, dt, df, decide_true, decide_false, withV_some, aggO_some, ptrTo_eq, ↓aO_some, aO_some, ↓andB_true, andB_true, gz, gs, seqC, retC, skipC, exitC, blockC, condC, cells_agg] <;> rfl, fun e he => by simp at he, .refl _ _⟩ ?_)
    rintro q tm' hx ⟨i, rfl, hi, t3, t5, t19, t20, no, kx⟩
    unfold l24_10
    refine C.seq fun K hK => ?_
    simp only [↓opStep_eq, ↓reduceIte, tg_set, toTm_cons, toTm_nil, fieldPtr_ptr, Nat.add_zero, Nat.zero_add, Nat.reduceAdd, Nat.reduceEqDiff, Int.reduceEq, Int.reduceLT, Int.reduceLE, Int.reduceNe, ↓kO_some, ↓kA_some, ↓kH_some, kO_some, kA_some, kH_some, gd_true, gd_false, nthD_zero, nthD_succ, isB_true, isB_false, isB_undef, pickV_true, pickV_false, binV_add, binV_sub, binV_mul, binV_eql, binV_neq, binV_lss, binV_leq, binV_gtr, binV_geq, unV_not, nt, nf, Bool.false_eq_true, dt, df, decide_true, decide_false, withV_some, aggO_some, ptrTo_eq, ↓aO_some, aO_some, ↓andB_true, andB_true, gz, gs, seqC, retC, skipC, exitC, blockC, condC, cells_agg, r24_5, t19, t20]
    refine hK _ _ _ (C.seq (C.cond (decide ((i : Int) < (es.length : Int))) (by simp only [↓opStep_eq, ↓reduceIte, tg_set, toTm_cons, toTm_nil, fieldPtr_ptr, Nat.add_zero, Nat.zero_add, Nat.reduceAdd, Nat.reduceEqDiff, Int.reduceEq, Int.reduceLT, Int.reduceLE, Int.reduceNe, ↓kO_some, ↓kA_some, ↓kH_some, kO_some, kA_some, kH_some, gd_true, gd_false, nthD_zero, nthD_succ, isB_true, isB_false, isB_undef, pickV_true, pickV_false, binV_add, binV_sub, binV_mul, binV_eql, binV_neq, binV_lss, binV_leq, binV_gtr, binV_geq, unV_not, nt, nf, Bool.false_eq_true, dt, df, decide_true, decide_false, withV_some, aggO_some, ptrTo_eq, ↓aO_some, aO_some, ↓andB_true, andB_true, gz, gs, seqC, retC, skipC, exitC, blockC, condC, cells_agg]) (fun g => C.skip ?_) fun g => C.exit ?_))
    · have g : i < es.length := by have := of_decide_eq_true g; omega
      obtain ⟨e, he⟩ : ∃ e, es[i]? = some e := ⟨es[i]'g, List.getElem?_eq_getElem g⟩
      have kr := keep_room hx 7
      have kxr := (k12.then kx).then kr
      obtain ⟨bb, cs, ix, _, hbb, h3, hc, _⟩ := (ow.keep kxr (O' := O) fun _ _ h => ⟨id, h⟩).at he
      have ln := fun s => Ent.at_name hbb h3 hc s
      refine C.seq (C.block (C.seq fun K hK => hK .norm _ _ (C.seq fun K hK => ?_)))
      have b1r := ((b1.keep0 k2).keep0 kx).keep0 kr
      simp only [↓opStep_eq, ↓reduceIte, tg_set, toTm_cons, toTm_nil, fieldPtr_ptr, Nat.add_zero, Nat.zero_add, Nat.reduceAdd, Nat.reduceEqDiff, Int.reduceEq, Int.reduceLT, Int.reduceLE, Int.reduceNe, ↓kO_some, ↓kA_some, ↓kH_some, kO_some, kA_some, kH_some, gd_true, gd_false, nthD_zero, nthD_succ, isB_true, isB_false, isB_undef, pickV_true, pickV_false, binV_add, binV_sub, binV_mul, binV_eql, binV_neq, binV_lss, binV_leq, binV_gtr, binV_geq, unV_not, nt, nf, Bool.false_eq_true, dt, df, decide_true, decide_false, withV_some, aggO_some, ptrTo_eq, ↓aO_some, aO_some, ↓andB_true, andB_true, gz, gs, seqC, retC, skipC, exitC, blockC, condC, cells_agg, r24_7, t3, t5, t20, ix, ln, lda _ b1r, name_eql]
      refine hK _ _ _ (C.cond (decide (e.t = t ∧ e.k = k)) (by simp only [↓opStep_eq, ↓reduceIte, tg_set, toTm_cons, toTm_nil, fieldPtr_ptr, Nat.add_zero, Nat.zero_add, Nat.reduceAdd, Nat.reduceEqDiff, Int.reduceEq, Int.reduceLT, Int.reduceLE, Int.reduceNe, ↓kO_some, ↓kA_some, ↓kH_some, kO_some, kA_some, kH_some, gd_true, gd_false, nthD_zero, nthD_succ, isB_true, isB_false, isB_undef, pickV_true, pickV_false, binV_add, binV_sub, binV_mul, binV_eql, binV_neq, binV_lss, binV_leq, binV_gtr, binV_geq, unV_not, nt, nf, Bool.false_eq_true, dt, df, decide_true, decide_false, withV_some, aggO_some, ptrTo_eq, ↓aO_some, aO_some, ↓andB_true, andB_true, gz, gs, seqC, retC, skipC, exitC, blockC, condC, cells_agg]) (fun g => ?_) fun g => C.skip fun K hK => ?_)
      · have g := of_decide_eq_true g
        refine C.seq fun K hK => ?_
        simp only [↓opStep_eq, ↓reduceIte, tg_set, toTm_cons, toTm_nil, fieldPtr_ptr, Nat.add_zero, Nat.zero_add, Nat.reduceAdd, Nat.reduceEqDiff, Int.reduceEq, Int.reduceLT, Int.reduceLE, Int.reduceNe, ↓kO_some, ↓kA_some, ↓kH_some, kO_some, kA_some, kH_some, gd_true, gd_false, nthD_zero, nthD_succ, isB_true, isB_false, isB_undef, pickV_true, pickV_false, binV_add, binV_sub, binV_mul, binV_eql, binV_neq, binV_lss, binV_leq, binV_gtr, binV_geq, unV_not, nt, nf, Bool.false_eq_true, dt, df, decide_true, decide_false, withV_some, aggO_some, ptrTo_eq, ↓aO_some, aO_some, ↓andB_true, andB_true, gz, gs, seqC, retC, skipC, exitC, blockC, condC, cells_agg, r24_8, t5, t20, ix]
        exact hK _ _ _ (C.ret ⟨.inr rfl, _, rfl, by simp only [↓opStep_eq, ↓reduceIte, tg_set, toTm_cons, toTm_nil, fieldPtr_ptr, Nat.add_zero, Nat.zero_add, Nat.reduceAdd, Nat.reduceEqDiff, Int.reduceEq, Int.reduceLT, Int.reduceLE, Int.reduceNe, ↓kO_some, ↓kA_some, ↓kH_some, kO_some, kA_some, kH_some, gd_true, gd_false, nthD_zero, nthD_succ, isB_true, isB_false, isB_undef, pickV_true, pickV_false, binV_add, binV_sub, binV_mul, binV_eql, binV_neq, binV_lss, binV_leq, binV_gtr, binV_geq, unV_not, nt, nf, Bool.false_eq_true, dt, df, decide_true, decide_false, withV_some, aggO_some, ptrTo_eq, ↓aO_some, aO_some, ↓andB_true, andB_true, gz, gs, seqC, retC, skipC, exitC, blockC, condC, cells_agg, resOf]; exact .inr ⟨B, vs, vi, es, i, e, rfl, rp, e1, e2, he, g.1, g.2, ix⟩, kxr⟩)
      · have g := of_decide_eq_false g
        have hw : IntKind.i64.wrap ((i : Int) + 1) = ((i + 1 : Nat) : Int) := by
          rw [show (i : Int) + 1 = ((i + 1 : Nat) : Int) by omega, wrap_i64 _ (by omega)]
        simp only [↓opStep_eq, ↓reduceIte, tg_set, toTm_cons, toTm_nil, fieldPtr_ptr, Nat.add_zero, Nat.zero_add, Nat.reduceAdd, Nat.reduceEqDiff, Int.reduceEq, Int.reduceLT, Int.reduceLE, Int.reduceNe, ↓kO_some, ↓kA_some, ↓kH_some, kO_some, kA_some, kH_some, gd_true, gd_false, nthD_zero, nthD_succ, isB_true, isB_false, isB_undef, pickV_true, pickV_false, binV_add, binV_sub, binV_mul, binV_eql, binV_neq, binV_lss, binV_leq, binV_gtr, binV_geq, unV_not, nt, nf, Bool.false_eq_true, dt, df, decide_true, decide_false, withV_some, aggO_some, ptrTo_eq, ↓aO_some, aO_some, ↓andB_true, andB_true, gz, gs, seqC, retC, skipC, exitC, blockC, condC, cells_agg, r24_9, t20, hw]
        refine hK _ _ _ ⟨es.length - (i + 1), by omega, i + 1, rfl, by omega, by simp only [↓opStep_eq, ↓reduceIte, tg_set, toTm_cons, toTm_nil, fieldPtr_ptr, Nat.add_zero, Nat.zero_add, Nat.reduceAdd, Nat.reduceEqDiff, Int.reduceEq, Int.reduceLT, Int.reduceLE, Int.reduceNe, ↓kO_some, ↓kA_some, ↓kH_some, kO_some, kA_some, kH_some, gd_true, gd_false, nthD_zero, nthD_succ, isB_true, isB_false, isB_undef, pickV_true, pickV_false, binV_add, binV_sub, binV_mul, binV_eql, binV_neq, binV_lss, binV_leq, binV_gtr, binV_geq, unV_not, nt, nf, Bool.false_eq_true, dt, df, decide_true, decide_false, withV_some, aggO_some, ptrTo_eq, ↓aO_some, aO_some, ↓andB_true, andB_true, gz, gs, seqC, retC, skipC, exitC, blockC, condC, cells_agg, t3], by simp only [↓opStep_eq, ↓reduceIte, tg_set, toTm_cons, toTm_nil, fieldPtr_ptr, Nat.add_zero, Nat.zero_add, Nat.reduceAdd, Nat.reduceEqDiff, Int.reduceEq, Int.reduceLT, Int.reduceLE, Int.reduceNe, ↓kO_some, ↓kA_some, ↓kH_some, kO_some, kA_some, kH_some, gd_true, gd_false, nthD_zero, nthD_succ, isB_true, isB_false, isB_undef, pickV_true, pickV_false, binV_add, binV_sub, binV_mul, binV_eql, binV_neq, binV_lss, binV_leq, binV_gtr, binV_geq, unV_not, nt, nf, Bool.false_eq_true, dt, df, decide_true, decide_false, withV_some, aggO_some, ptrTo_eq, ↓aO_some, aO_some, ↓andB_true, andB_true, gz, gs, seqC, retC, skipC, exitC, blockC, condC, cells_agg, t5], by simp only [↓opStep_eq, ↓reduceIte, tg_set, toTm_cons, toTm_nil, fieldPtr_ptr, Nat.add_zero, Nat.zero_add, Nat.reduceAdd, Nat.reduceEqDiff, Int.reduceEq, Int.reduceLT, Int.reduceLE, Int.reduceNe, ↓kO_some, ↓kA_some, ↓kH_some, kO_some, kA_some, kH_some, gd_true, gd_false, nthD_zero, nthD_succ, isB_true, isB_false, isB_undef, pickV_true, pickV_false, binV_add, binV_sub, binV_mul, binV_eql, binV_neq, binV_lss, binV_leq, binV_gtr, binV_geq, unV_not, nt, nf, Bool.false_eq_true, dt, df, decide_true, decide_false, withV_some, aggO_some, ptrTo_eq, ↓aO_some, aO_some, ↓andB_true, andB_true, gz, gs, seqC, retC, skipC, exitC, blockC, condC, cells_agg, t19], by simp only [↓opStep_eq, ↓reduceIte, tg_set, toTm_cons, toTm_nil, fieldPtr_ptr, Nat.add_zero, Nat.zero_add, Nat.reduceAdd, Nat.reduceEqDiff, Int.reduceEq, Int.reduceLT, Int.reduceLE, Int.reduceNe, ↓kO_some, ↓kA_some, ↓kH_some, kO_some, kA_some, kH_some, gd_true, gd_false, nthD_zero, nthD_succ, isB_true, isB_false, isB_undef, pickV_true, pickV_false, binV_add, binV_sub, binV_mul, binV_eql, binV_neq, binV_lss, binV_leq, binV_gtr, binV_geq, unV_not, nt, nf, Bool.false_eq_true, dt, df, decide_true, decide_false, withV_some, aggO_some, ptrTo_eq, ↓aO_some, aO_some, ↓andB_true, andB_true, gz, gs, seqC, retC, skipC, exitC, blockC, condC, cells_agg], fun e' he' => ?_, kx.then kr⟩
        rw [List.take_add_one, he, Option.toList_some, List.mem_append, List.mem_singleton] at he'
        rcases he' with he' | rfl
        · exact no _ he'
        · exact g
    · simp only [if_pos]
      have g : i = es.length := by have := of_decide_eq_false g; omega
      refine C.seq fun K hK => hK .norm _ _ (C.ret ⟨.inr rfl, _, rfl, ?_, k12.then kx⟩)
      simp only [↓opStep_eq, ↓reduceIte, tg_set, toTm_cons, toTm_nil, fieldPtr_ptr, Nat.add_zero, Nat.zero_add, Nat.reduceAdd, Nat.reduceEqDiff, Int.reduceEq, Int.reduceLT, Int.reduceLE, Int.reduceNe, ↓kO_some, ↓kA_some, ↓kH_some, kO_some, kA_some, kH_some, gd_true, gd_false, nthD_zero, nthD_succ, isB_true, isB_false, isB_undef, pickV_true, pickV_false, binV_add, binV_sub, binV_mul, binV_eql, binV_neq, binV_lss, binV_leq, binV_gtr, binV_geq, unV_not, nt, nf, Bool.false_eq_true, dt, df, decide_true, decide_false, withV_some, aggO_some, ptrTo_eq, ↓aO_some, aO_some, ↓andB_true, andB_true, gz, gs, seqC, retC, skipC, exitC, blockC, condC, cells_agg, resOf]
      refine .inl ⟨rfl, fun es' he' => ?_⟩
      rw [e2] at he'
      cases he'
      rw [g, List.take_length] at no
      exact no
end Go.Proofs.YtbdmhdidehfmoaaDoor
