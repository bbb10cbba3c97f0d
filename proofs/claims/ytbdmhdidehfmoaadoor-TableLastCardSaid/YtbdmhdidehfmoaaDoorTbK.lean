import Derived.Test.YtbdmhdidehfmoaaDoorTbJ
set_option linter.unusedSimpArgs false
set_option linter.unusedVariables false
namespace Go.Proofs.YtbdmhdidehfmoaaDoor
open Go.Ev

theorem r22_1_eq {call : CallT} {L : Nat} {tm : T Value} {h : H} {K : KE} {b : Nat} {v1 v2 : Value} {n1 n2 a mv : Int} (hb : Has h b (.rw (tcells v1 n1 v2 n2 a mv))) (t0 : tg tm 0 = .pointer (some ⟨b, 0, none⟩)) :
    r22_1 call L tm [] h K = K .norm (T.set tm 20 (.bool (decide (0 < n2 ∧ mv < 4)))) [] h := by
  by_cases h1 : 0 < n2
  · by_cases h2 : mv < 4
    · simp only [↓opStep_eq, ↓reduceIte, tg_set, toTm_cons, toTm_nil, fieldPtr_ptr, Nat.add_zero, Nat.zero_add, Nat.reduceAdd, Nat.reduceEqDiff, Int.reduceEq, Int.reduceLT, Int.reduceLE, Int.reduceNe, ↓kO_some, ↓kA_some, ↓kH_some, kO_some, kA_some, kH_some, gd_true, gd_false, nthD_zero, nthD_succ, isB_true, isB_false, isB_undef, pickV_true, pickV_false, binV_add, binV_sub, binV_mul, binV_eql, binV_neq, binV_lss, binV_leq, binV_gtr, binV_geq, unV_not, nt, nf, Bool.false_eq_true, dt, df, decide_true, decide_false, withV_some, aggO_some, ptrTo_eq, ↓aO_some, aO_some, ↓andB_true, andB_true, gz, gs, seqC, retC, skipC, exitC, blockC, condC, cells_agg, Bool.true_or, Bool.false_or, Bool.or_true, Bool.or_false, Bool.true_and, Bool.false_and, Bool.and_true, Bool.and_false, r22_1, t0, nilChk_some, tld hb, h1, h2, and_self]
    · simp only [↓opStep_eq, ↓reduceIte, tg_set, toTm_cons, toTm_nil, fieldPtr_ptr, Nat.add_zero, Nat.zero_add, Nat.reduceAdd, Nat.reduceEqDiff, Int.reduceEq, Int.reduceLT, Int.reduceLE, Int.reduceNe, ↓kO_some, ↓kA_some, ↓kH_some, kO_some, kA_some, kH_some, gd_true, gd_false, nthD_zero, nthD_succ, isB_true, isB_false, isB_undef, pickV_true, pickV_false, binV_add, binV_sub, binV_mul, binV_eql, binV_neq, binV_lss, binV_leq, binV_gtr, binV_geq, unV_not, nt, nf, Bool.false_eq_true, dt, df, decide_true, decide_false, withV_some, aggO_some, ptrTo_eq, ↓aO_some, aO_some, ↓andB_true, andB_true, gz, gs, seqC, retC, skipC, exitC, blockC, condC, cells_agg, Bool.true_or, Bool.false_or, Bool.or_true, Bool.or_false, Bool.true_and, Bool.false_and, Bool.and_true, Bool.and_false, r22_1, t0, nilChk_some, tld hb, h1, h2, and_false]
  · simp only [↓opStep_eq, ↓reduceIte, tg_set, toTm_cons, toTm_nil, fieldPtr_ptr, Nat.add_zero, Nat.zero_add, Nat.reduceAdd, Nat.reduceEqDiff, Int.reduceEq, Int.reduceLT, Int.reduceLE, Int.reduceNe, ↓kO_some, ↓kA_some, ↓kH_some, kO_some, kA_some, kH_some, gd_true, gd_false, nthD_zero, nthD_succ, isB_true, isB_false, isB_undef, pickV_true, pickV_false, binV_add, binV_sub, binV_mul, binV_eql, binV_neq, binV_lss, binV_leq, binV_gtr, binV_geq, unV_not, nt, nf, Bool.false_eq_true, dt, df, decide_true, decide_false, withV_some, aggO_some, ptrTo_eq, ↓aO_some, aO_some, ↓andB_true, andB_true, gz, gs, seqC, retC, skipC, exitC, blockC, condC, cells_agg, Bool.true_or, Bool.false_or, Bool.or_true, Bool.or_false, Bool.true_and, Bool.false_and, Bool.and_true, Bool.and_false, r22_1, t0, nilChk_some, tld hb, h1, false_and]

def Iv (N : Nat) (O : Nat → Tag) (h : H) (b : Nat) (l : List Ent) (O' : Nat → Tag) (h' : H) (now old : List (List Ent)) (a mv : Nat) (v1 v2 : Value) : Prop :=
  Tab O' h' b now old (now.flatten.length : Int) (old.flatten.length : Int) (a : Int) (mv : Int) v1 v2 ∧ Good N now old a ∧ (now.flatten ++ old.flatten).Perm l ∧ mv ≤ 4 ∧ Fr O h O' h'

theorem step_body (L n N : Nat) (hN : N ≤ 100000) (hL : 300000 < L) {O O' : Nat → Tag} {h hx : H} {b : Nat} {l : List Ent} {now old : List (List Ent)} {a mv : Nat} {v1 v2 : Value} (iv : Iv N O h b l O' hx now old a mv v1 v2) (tm : T Value) (t0 : tg tm 0 = .pointer (some ⟨b, 0, none⟩)) (Q : Ex → T Value → H → Prop)
    (hout : old.flatten.length = 0 ∨ 4 ≤ mv → ∀ tm', tg tm' 0 = .pointer (some ⟨b, 0, none⟩) → Q (.exit 0) tm' hx)
    (hnext : ∀ O2 h2 now2 old2 a2 mv2 w1 w2 tm', Iv N O h b l O2 h2 now2 old2 a2 mv2 w1 w2 → (old2.length - a2) + old2.flatten.length < (old.length - a) + old.flatten.length → tg tm' 0 = .pointer (some ⟨b, 0, none⟩) → Q .norm tm' h2) :
    C l22_10 (CF L (n + 3)) L tm hx Q := by
  obtain ⟨tab, g, pm, hmv, fr⟩ := iv
  unfold l22_10
  refine C.seq (C.seq fun K hK => ?_)
  rw [show ∀ x : CodeT, (⟨x⟩ : Box CodeT).f = x from fun _ => rfl]
  rw [r22_1_eq tab.hb t0]
  refine hK _ _ _ (C.cond (decide (0 < (old.flatten.length : Int) ∧ (mv : Int) < 4)) (by simp only [↓opStep_eq, ↓reduceIte, tg_set, toTm_cons, toTm_nil, fieldPtr_ptr, Nat.add_zero, Nat.zero_add, Nat.reduceAdd, Nat.reduceEqDiff, Int.reduceEq, Int.reduceLT, Int.reduceLE, Int.reduceNe, ↓kO_some, ↓kA_some, ↓kH_some, kO_some, kA_some, kH_some, gd_true, gd_false, nthD_zero, nthD_succ, isB_true, isB_false, isB_undef, pickV_true, pickV_false, binV_add, binV_sub, binV_mul, binV_eql, binV_neq, binV_lss, binV_leq, binV_gtr, binV_geq, unV_not, nt, nf, Bool.false_eq_true, dt, df, decide_true, decide_false, withV_some, aggO_some, ptrTo_eq, ↓aO_some, aO_some, ↓andB_true, andB_true, gz, gs, seqC, retC, skipC, exitC, blockC, condC, cells_agg]) (fun hc => C.skip ?_) fun hc => C.exit ?_)
  · have hc := of_decide_eq_true hc
    have hpos : 0 < old.flatten.length := by omega
    have hal := g.found hpos
    obtain ⟨B2, vs2, rfl, rp2, hle2⟩ := tab.rows_old hal
    obtain ⟨B1, vs1, rfl, rp1, hle1⟩ := tab.rows_now g.pos
    have hcnt := g.cnt
    refine C.block (C.seq fun K hK => ?_)
    have kr := keep_room hx 11
    have ix : indexSl 1 (.slice (some ⟨B2, 0, none⟩) old.length old.length) (.int .i64 (a : Int)) = some (.pointer (some ⟨B2, a, none⟩)) := by
      simp only [indexSl, asNat_nat, addOff]
      rw [Nat.ble_eq_true_of_le (by omega)]
      simp only [Nat.zero_add, Nat.mul_one]
    simp only [↓opStep_eq, ↓reduceIte, tg_set, toTm_cons, toTm_nil, fieldPtr_ptr, Nat.add_zero, Nat.zero_add, Nat.reduceAdd, Nat.reduceEqDiff, Int.reduceEq, Int.reduceLT, Int.reduceLE, Int.reduceNe, ↓kO_some, ↓kA_some, ↓kH_some, kO_some, kA_some, kH_some, gd_true, gd_false, nthD_zero, nthD_succ, isB_true, isB_false, isB_undef, pickV_true, pickV_false, binV_add, binV_sub, binV_mul, binV_eql, binV_neq, binV_lss, binV_leq, binV_gtr, binV_geq, unV_not, nt, nf, Bool.false_eq_true, dt, df, decide_true, decide_false, withV_some, aggO_some, ptrTo_eq, ↓aO_some, aO_some, ↓andB_true, andB_true, gz, gs, seqC, retC, skipC, exitC, blockC, condC, cells_agg, r22_2, t0, nilChk_some, tld (tab.hb.keep0 kr), ix]
    obtain ⟨vi, es, e1, e2, ow, ldr⟩ := rp2.at hal
    refine hK _ _ _ (C.seq (C.seq fun K hK => ?_))
    simp only [↓opStep_eq, ↓reduceIte, tg_set, toTm_cons, toTm_nil, fieldPtr_ptr, Nat.add_zero, Nat.zero_add, Nat.reduceAdd, Nat.reduceEqDiff, Int.reduceEq, Int.reduceLT, Int.reduceLE, Int.reduceNe, ↓kO_some, ↓kA_some, ↓kH_some, kO_some, kA_some, kH_some, gd_true, gd_false, nthD_zero, nthD_succ, isB_true, isB_false, isB_undef, pickV_true, pickV_false, binV_add, binV_sub, binV_mul, binV_eql, binV_neq, binV_lss, binV_leq, binV_gtr, binV_geq, unV_not, nt, nf, Bool.false_eq_true, dt, df, decide_true, decide_false, withV_some, aggO_some, ptrTo_eq, ↓aO_some, aO_some, ↓andB_true, andB_true, gz, gs, seqC, retC, skipC, exitC, blockC, condC, cells_agg, r22_3, nilChk_some, ldr _ kr, ow.len]
    refine hK _ _ _ (C.cond (decide ((es.length : Int) = 0)) (by simp only [↓opStep_eq, ↓reduceIte, tg_set, toTm_cons, toTm_nil, fieldPtr_ptr, Nat.add_zero, Nat.zero_add, Nat.reduceAdd, Nat.reduceEqDiff, Int.reduceEq, Int.reduceLT, Int.reduceLE, Int.reduceNe, ↓kO_some, ↓kA_some, ↓kH_some, kO_some, kA_some, kH_some, gd_true, gd_false, nthD_zero, nthD_succ, isB_true, isB_false, isB_undef, pickV_true, pickV_false, binV_add, binV_sub, binV_mul, binV_eql, binV_neq, binV_lss, binV_leq, binV_gtr, binV_geq, unV_not, nt, nf, Bool.false_eq_true, dt, df, decide_true, decide_false, withV_some, aggO_some, ptrTo_eq, ↓aO_some, aO_some, ↓andB_true, andB_true, gz, gs, seqC, retC, skipC, exitC, blockC, condC, cells_agg]) (fun hz => ?_) fun hz => C.skip ?_)
    · -- an empty row
      have hz : es = [] := List.length_eq_zero_iff.1 (by have := of_decide_eq_true hz; omega)
      subst hz
      refine C.seq fun K hK => ?_
      have tb := tab.keep0 kr
      have hw : IntKind.i64.wrap ((a : Int) + 1) = ((a + 1 : Nat) : Int) := by
        rw [show (a : Int) + 1 = ((a + 1 : Nat) : Int) by omega, wrap_i64 _ (by omega)]
      simp only [↓opStep_eq, ↓reduceIte, tg_set, toTm_cons, toTm_nil, fieldPtr_ptr, Nat.add_zero, Nat.zero_add, Nat.reduceAdd, Nat.reduceEqDiff, Int.reduceEq, Int.reduceLT, Int.reduceLE, Int.reduceNe, ↓kO_some, ↓kA_some, ↓kH_some, kO_some, kA_some, kH_some, gd_true, gd_false, nthD_zero, nthD_succ, isB_true, isB_false, isB_undef, pickV_true, pickV_false, binV_add, binV_sub, binV_mul, binV_eql, binV_neq, binV_lss, binV_leq, binV_gtr, binV_geq, unV_not, nt, nf, Bool.false_eq_true, dt, df, decide_true, decide_false, withV_some, aggO_some, ptrTo_eq, ↓aO_some, aO_some, ↓andB_true, andB_true, gz, gs, seqC, retC, skipC, exitC, blockC, condC, cells_agg, r22_4, t0, nilChk_some, tld tb.hb, hw, tst4 tb.hb]
      refine hK _ _ _ (C.exit ?_)
      simp only [if_pos]
      exact hnext O' _ now old (a + 1) mv _ _ _ ⟨tb.put, g.next e2, pm, hmv, fr.trans ((Fr.of0 kr).trans (tb.frput _))⟩ (by omega) (by simp only [↓opStep_eq, ↓reduceIte, tg_set, toTm_cons, toTm_nil, fieldPtr_ptr, Nat.add_zero, Nat.zero_add, Nat.reduceAdd, Nat.reduceEqDiff, Int.reduceEq, Int.reduceLT, Int.reduceLE, Int.reduceNe, ↓kO_some, ↓kA_some, ↓kH_some, kO_some, kA_some, kH_some, gd_true, gd_false, nthD_zero, nthD_succ, isB_true, isB_false, isB_undef, pickV_true, pickV_false, binV_add, binV_sub, binV_mul, binV_eql, binV_neq, binV_lss, binV_leq, binV_gtr, binV_geq, unV_not, nt, nf, Bool.false_eq_true, dt, df, decide_true, decide_false, withV_some, aggO_some, ptrTo_eq, ↓aO_some, aO_some, ↓andB_true, andB_true, gz, gs, seqC, retC, skipC, exitC, blockC, condC, cells_agg, t0])
    · -- the last entry of a row
      have hz : 0 < es.length := by have := of_decide_eq_false hz; omega
      obtain ⟨fs, e, rfl⟩ : ∃ fs e, es = fs ++ [e] := ⟨es.dropLast, es.getLast (by intro h; simp [h] at hz), (List.dropLast_concat_getLast _).symm⟩
      have hfl : (fs ++ [e]).length - 1 = fs.length := by simp
      have hw : IntKind.i64.wrap (((fs ++ [e]).length : Int) - 1) = (fs.length : Int) := by
        rw [show ((fs ++ [e]).length : Int) - 1 = ((fs.length : Nat) : Int) by simp, wrap_i64 _ (by have := row_le e2; simp at this hcnt; omega)]
      refine C.seq fun K hK => ?_
      simp only [↓opStep_eq, ↓reduceIte, tg_set, toTm_cons, toTm_nil, fieldPtr_ptr, Nat.add_zero, Nat.zero_add, Nat.reduceAdd, Nat.reduceEqDiff, Int.reduceEq, Int.reduceLT, Int.reduceLE, Int.reduceNe, ↓kO_some, ↓kA_some, ↓kH_some, kO_some, kA_some, kH_some, gd_true, gd_false, nthD_zero, nthD_succ, isB_true, isB_false, isB_undef, pickV_true, pickV_false, binV_add, binV_sub, binV_mul, binV_eql, binV_neq, binV_lss, binV_leq, binV_gtr, binV_geq, unV_not, nt, nf, Bool.false_eq_true, dt, df, decide_true, decide_false, withV_some, aggO_some, ptrTo_eq, ↓aO_some, aO_some, ↓andB_true, andB_true, gz, gs, seqC, retC, skipC, exitC, blockC, condC, cells_agg, r22_5, nilChk_some, ldr _ kr, ow.len, hw]
      refine hK _ _ _ (C.seq fun K hK => ?_)
      have kr2 := kr.then (keep_room ⟨hx.objs, hx.next + 11⟩ 10)
      have tb := tab.keep0 kr2
      have rpn := rp1.keep0 kr2
      have he : (fs ++ [e])[fs.length]? = some e := by simp
      obtain ⟨bb, cs, ixe, _, hbb, h3, hc3, _⟩ := (ow.keep kr2 (O' := O') fun _ _ h => ⟨id, h⟩).at he
      have lae := fun s => Ent.at_all hbb h3 hc3 s
      simp only [↓opStep_eq, ↓reduceIte, tg_set, toTm_cons, toTm_nil, fieldPtr_ptr, Nat.add_zero, Nat.zero_add, Nat.reduceAdd, Nat.reduceEqDiff, Int.reduceEq, Int.reduceLT, Int.reduceLE, Int.reduceNe, ↓kO_some, ↓kA_some, ↓kH_some, kO_some, kA_some, kH_some, gd_true, gd_false, nthD_zero, nthD_succ, isB_true, isB_false, isB_undef, pickV_true, pickV_false, binV_add, binV_sub, binV_mul, binV_eql, binV_neq, binV_lss, binV_leq, binV_gtr, binV_geq, unV_not, nt, nf, Bool.false_eq_true, dt, df, decide_true, decide_false, withV_some, aggO_some, ptrTo_eq, ↓aO_some, aO_some, ↓andB_true, andB_true, gz, gs, seqC, retC, skipC, exitC, blockC, condC, cells_agg, r22_6, t0, nilChk_some, ldr _ kr2, ixe, lae]
      have hpp := row_le e2
      have hke := g.ho _ _ e2 e (by simp)
      have hli := idx_lt e.t e.k g.pos hle1
      obtain ⟨_, zs, f1, f2, _, _⟩ := rp1.at hli
      have hzs := row_le f2
      have hrow := hfl
      refine put_law L n N (o := 0) (m := now.flatten.length) tb.hb (by simp [tcells]) rfl rfl tb.ob rpn g.pos hle1 e f2 (by omega) (by omega) (by omega) (by omega) _ fun r h4 hq => ?_
      obtain ⟨rfl, O4, pq⟩ := hq
      have h4e : (⟨hx.objs, hx.next + 11 + 10⟩ : H) = ⟨hx.objs, hx.next + 11 + 10⟩ := rfl
      obtain ⟨tab4, fr4⟩ := tb.after_put rp1.ob g.pos hle1 pq
      refine hK _ _ _ (C.seq fun K hK => ?_)
      -- the old row is cut
      have rp24 : RowsP O4 h4 true B2 vs2 old := (rp2.keep0 kr2).keep pq.keep fun c hc ho => ⟨(by
        rintro (e | e | e)
        · rw [e] at ho; rcases ho with ho | ⟨_, ho⟩ <;> cases ho
        · rw [e, rp1.ob] at ho; rcases ho with ho | ⟨_, ho⟩ <;> cases ho
        · rw [e, tab.ob] at ho; rcases ho with ho | ⟨_, ho⟩ <;> cases ho), pq.same c hc⟩
      obtain ⟨v', ecut, owc⟩ := (rp24.own a vi (fs ++ [e]) e1 e2).cut fs.length (by simp)
      rw [List.take_left' rfl] at owc
      have ld4 : ∀ s, loadOne h4 (.pointer (some ⟨B2, a, s⟩)) = some vi := fun s => by rw [loadOne_has rp24.hb rfl]; exact e1
      have st : ∀ s, storeV 1 h4 (.pointer (some ⟨B2, a, s⟩)) v' = some (h4.put B2 (.rw (vs2.set a v'))) := fun s => by
        obtain ⟨p, q, c, rfl⟩ := owc.form
        exact store_one rp24.hb (by rw [rp24.len]; exact hal) rfl rfl
      obtain ⟨tab5, fr5⟩ := tab4.set_old rp24 hal owc hle2
      simp only [↓opStep_eq, ↓reduceIte, tg_set, toTm_cons, toTm_nil, fieldPtr_ptr, Nat.add_zero, Nat.zero_add, Nat.reduceAdd, Nat.reduceEqDiff, Int.reduceEq, Int.reduceLT, Int.reduceLE, Int.reduceNe, ↓kO_some, ↓kA_some, ↓kH_some, kO_some, kA_some, kH_some, gd_true, gd_false, nthD_zero, nthD_succ, isB_true, isB_false, isB_undef, pickV_true, pickV_false, binV_add, binV_sub, binV_mul, binV_eql, binV_neq, binV_lss, binV_leq, binV_gtr, binV_geq, unV_not, nt, nf, Bool.false_eq_true, dt, df, decide_true, decide_false, withV_some, aggO_some, ptrTo_eq, ↓aO_some, aO_some, ↓andB_true, andB_true, gz, gs, seqC, retC, skipC, exitC, blockC, condC, cells_agg, r22_7, nilChk_some, ld4, ecut, st]
      generalize h4.put B2 (.rw (vs2.set a v')) = h5 at *
      obtain ⟨g6, p6, n16, n26⟩ := g.move e2 f2
      refine hK _ _ _ (C.seq fun K hK => ?_)
      have hw2 : IntKind.i64.wrap ((old.flatten.length : Int) - 1) = ((old.set a fs).flatten.length : Int) := by
        rw [show (old.flatten.length : Int) - 1 = ((old.set a fs).flatten.length : Int) by omega, wrap_i64 _ (by omega)]
      simp only [↓opStep_eq, ↓reduceIte, tg_set, toTm_cons, toTm_nil, fieldPtr_ptr, Nat.add_zero, Nat.zero_add, Nat.reduceAdd, Nat.reduceEqDiff, Int.reduceEq, Int.reduceLT, Int.reduceLE, Int.reduceNe, ↓kO_some, ↓kA_some, ↓kH_some, kO_some, kA_some, kH_some, gd_true, gd_false, nthD_zero, nthD_succ, isB_true, isB_false, isB_undef, pickV_true, pickV_false, binV_add, binV_sub, binV_mul, binV_eql, binV_neq, binV_lss, binV_leq, binV_gtr, binV_geq, unV_not, nt, nf, Bool.false_eq_true, dt, df, decide_true, decide_false, withV_some, aggO_some, ptrTo_eq, ↓aO_some, aO_some, ↓andB_true, andB_true, gz, gs, seqC, retC, skipC, exitC, blockC, condC, cells_agg, r22_8, t0, nilChk_some, tld tab5.hb, hw2, tst3 tab5.hb]
      have fr6 := tab5.frput (.rw (tcells (.slice (some ⟨B1, 0, none⟩) now.length now.length) ((now.flatten.length + 1 : Nat) : Int) (.slice (some ⟨B2, 0, none⟩) old.length old.length) ((old.set a fs).flatten.length : Int) (a : Int) (mv : Int)))
      have tab6 := tab5.put (m1 := ((now.flatten.length + 1 : Nat) : Int)) (m2 := ((old.set a fs).flatten.length : Int)) (at2 := (a : Int)) (mv2 := (mv : Int))
      generalize h5.put b (.rw (tcells (.slice (some ⟨B1, 0, none⟩) now.length now.length) ((now.flatten.length + 1 : Nat) : Int) (.slice (some ⟨B2, 0, none⟩) old.length old.length) ((old.set a fs).flatten.length : Int) (a : Int) (mv : Int))) = h6 at *
      refine hK _ _ _ fun K hK => ?_
      have hw3 : IntKind.i64.wrap ((mv : Int) + 1) = ((mv + 1 : Nat) : Int) := by
        rw [show (mv : Int) + 1 = ((mv + 1 : Nat) : Int) by omega, wrap_i64 _ (by omega)]
      simp only [↓opStep_eq, ↓reduceIte, tg_set, toTm_cons, toTm_nil, fieldPtr_ptr, Nat.add_zero, Nat.zero_add, Nat.reduceAdd, Nat.reduceEqDiff, Int.reduceEq, Int.reduceLT, Int.reduceLE, Int.reduceNe, ↓kO_some, ↓kA_some, ↓kH_some, kO_some, kA_some, kH_some, gd_true, gd_false, nthD_zero, nthD_succ, isB_true, isB_false, isB_undef, pickV_true, pickV_false, binV_add, binV_sub, binV_mul, binV_eql, binV_neq, binV_lss, binV_leq, binV_gtr, binV_geq, unV_not, nt, nf, Bool.false_eq_true, dt, df, decide_true, decide_false, withV_some, aggO_some, ptrTo_eq, ↓aO_some, aO_some, ↓andB_true, andB_true, gz, gs, seqC, retC, skipC, exitC, blockC, condC, cells_agg, r22_9, t0, nilChk_some, tld tab6.hb, hw3, tst5 tab6.hb]
      have fr7 := tab6.frput (.rw (tcells (.slice (some ⟨B1, 0, none⟩) now.length now.length) ((now.flatten.length + 1 : Nat) : Int) (.slice (some ⟨B2, 0, none⟩) old.length old.length) ((old.set a fs).flatten.length : Int) (a : Int) ((mv + 1 : Nat) : Int)))
      have tab7 := tab6.put (m1 := ((now.flatten.length + 1 : Nat) : Int)) (m2 := ((old.set a fs).flatten.length : Int)) (at2 := (a : Int)) (mv2 := ((mv + 1 : Nat) : Int))
      refine hK _ _ _ (hnext O4 _ _ _ a (mv + 1) _ _ _ ⟨by rw [n16]; exact tab7, g6, p6.trans pm, by omega, fr.trans ((Fr.of0 kr2).trans (fr4.trans (fr5.trans (fr6.trans fr7))))⟩ ?_ ?_)
      · rw [List.length_set]; omega
      · simp only [↓opStep_eq, ↓reduceIte, tg_set, toTm_cons, toTm_nil, fieldPtr_ptr, Nat.add_zero, Nat.zero_add, Nat.reduceAdd, Nat.reduceEqDiff, Int.reduceEq, Int.reduceLT, Int.reduceLE, Int.reduceNe, ↓kO_some, ↓kA_some, ↓kH_some, kO_some, kA_some, kH_some, gd_true, gd_false, nthD_zero, nthD_succ, isB_true, isB_false, isB_undef, pickV_true, pickV_false, binV_add, binV_sub, binV_mul, binV_eql, binV_neq, binV_lss, binV_leq, binV_gtr, binV_geq, unV_not, nt, nf, Bool.false_eq_true, dt, df, decide_true, decide_false, withV_some, aggO_some, ptrTo_eq, ↓aO_some, aO_some, ↓andB_true, andB_true, gz, gs, seqC, retC, skipC, exitC, blockC, condC, cells_agg, t0]
  · refine hout ?_ _ (by simp only [↓opStep_eq, ↓reduceIte, tg_set, toTm_cons, toTm_nil, fieldPtr_ptr, Nat.add_zero, Nat.zero_add, Nat.reduceAdd, Nat.reduceEqDiff, Int.reduceEq, Int.reduceLT, Int.reduceLE, Int.reduceNe, ↓kO_some, ↓kA_some, ↓kH_some, kO_some, kA_some, kH_some, gd_true, gd_false, nthD_zero, nthD_succ, isB_true, isB_false, isB_undef, pickV_true, pickV_false, binV_add, binV_sub, binV_mul, binV_eql, binV_neq, binV_lss, binV_leq, binV_gtr, binV_geq, unV_not, nt, nf, Bool.false_eq_true, dt, df, decide_true, decide_false, withV_some, aggO_some, ptrTo_eq, ↓aO_some, aO_some, ↓andB_true, andB_true, gz, gs, seqC, retC, skipC, exitC, blockC, condC, cells_agg, t0])
    have hc := of_decide_eq_false hc
    omega
end Go.Proofs.YtbdmhdidehfmoaaDoor
