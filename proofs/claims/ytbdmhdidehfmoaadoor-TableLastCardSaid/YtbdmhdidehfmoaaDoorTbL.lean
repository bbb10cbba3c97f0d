import Derived.Test.YtbdmhdidehfmoaaDoorTbK
set_option linter.unusedSimpArgs false
set_option linter.unusedVariables false
namespace Go.Proofs.YtbdmhdidehfmoaaDoor
open Go.Ev

theorem Tab.clear_old {O : Nat → Tag} {h : H} {b : Nat} {now old : List (List Ent)} {n1 n2 at_ mv at2 : Int} {v1 v2 : Value} (a : Tab O h b now old n1 n2 at_ mv v1 v2) : Tab O (h.put b (.rw (tcells v1 n1 (.slice none 0 0) 0 at2 mv))) b now [] n1 0 at2 mv v1 (.slice none 0 0) := by
  have kp := Keep.put h b (.rw (tcells v1 n1 (.slice none 0 0) 0 at2 mv))
  exact ⟨Has.put a.hb.1, a.ob, a.now.keep kp fun c _ ho => ⟨(fun e => by
    rw [e, a.ob] at ho
    rcases ho with ho | ⟨_, ho⟩ <;> cases ho), rfl⟩, .inl ⟨rfl, rfl⟩, fun c hc => a.far c hc⟩

/-- a table that holds a list, and moved so many -/
def St (N : Nat) (O : Nat → Tag) (h : H) (b : Nat) (l : List Ent) (mv : Nat) : Prop :=
  ∃ (now old : List (List Ent)) (a : Nat) (v1 v2 : Value), Tab O h b now old (now.flatten.length : Int) (old.flatten.length : Int) (a : Int) (mv : Int) v1 v2 ∧ Good N now old a ∧ (now.flatten ++ old.flatten).Perm l

theorem tdiv_nat (n k : Nat) : (n : Int).tdiv (k : Int) = ((n / k : Nat) : Int) := by
  rw [Int.tdiv_eq_ediv_of_nonneg (by omega)]; rfl

theorem r22_15_eq {call : CallT} {L : Nat} {tm : T Value} {h : H} {K : KE} {b : Nat} {v1 v2 : Value} {n1 n2 a mv : Int} {n : Nat} (hb : Has h b (.rw (tcells v1 n1 v2 n2 a mv))) (t0 : tg tm 0 = .pointer (some ⟨b, 0, none⟩)) (t4 : tg tm 4 = .int .i64 (n : Int)) (hn : n ≤ 1000000) :
    r22_15 call L tm [] h K = K .norm (T.set tm 113 (.bool (decide (4 < n ∧ n1 < ((n / 4 : Nat) : Int))))) [] h := by
  have q : binV Tryd.prog .quo 3 true (.int .i64 (n : Int)) (.int .i64 4) = some (.int .i64 ((n / 4 : Nat) : Int)) := by
    rw [binV_quo _ _ _ _ _ (by decide), show (4 : Int) = ((4 : Nat) : Int) from rfl, tdiv_nat, wrap_i64 _ (by omega)]
  by_cases h1 : (4 : Int) < (n : Int)
  · have h1' : 4 < n := by omega
    simp only [↓opStep_eq, ↓reduceIte, tg_set, toTm_cons, toTm_nil, fieldPtr_ptr, Nat.add_zero, Nat.zero_add, Nat.reduceAdd, Nat.reduceEqDiff, Int.reduceEq, Int.reduceLT, Int.reduceLE, Int.reduceNe, ↓kO_some, ↓kA_some, ↓kH_some, kO_some, kA_some, kH_some, gd_true, gd_false, nthD_zero, nthD_succ, isB_true, isB_false, isB_undef, pickV_true, pickV_false, binV_add, binV_sub, binV_mul, binV_eql, binV_neq, binV_lss, binV_leq, binV_gtr, binV_geq, unV_not, nt, nf, Bool.false_eq_true, dt, df, decide_true, decide_false, withV_some, aggO_some, ptrTo_eq, ↓aO_some, aO_some, ↓andB_true, andB_true, gz, gs, seqC, retC, skipC, exitC, blockC, condC, cells_agg, Bool.true_or, Bool.false_or, Bool.or_true, Bool.or_false, Bool.true_and, Bool.false_and, Bool.and_true, Bool.and_false, r22_15, t0, t4, nilChk_some, tld hb, h1, h1', q, true_and]
  · have h1' : ¬ 4 < n := by omega
    simp only [↓opStep_eq, ↓reduceIte, tg_set, toTm_cons, toTm_nil, fieldPtr_ptr, Nat.add_zero, Nat.zero_add, Nat.reduceAdd, Nat.reduceEqDiff, Int.reduceEq, Int.reduceLT, Int.reduceLE, Int.reduceNe, ↓kO_some, ↓kA_some, ↓kH_some, kO_some, kA_some, kH_some, gd_true, gd_false, nthD_zero, nthD_succ, isB_true, isB_false, isB_undef, pickV_true, pickV_false, binV_add, binV_sub, binV_mul, binV_eql, binV_neq, binV_lss, binV_leq, binV_gtr, binV_geq, unV_not, nt, nf, Bool.false_eq_true, dt, df, decide_true, decide_false, withV_some, aggO_some, ptrTo_eq, ↓aO_some, aO_some, ↓andB_true, andB_true, gz, gs, seqC, retC, skipC, exitC, blockC, condC, cells_agg, Bool.true_or, Bool.false_or, Bool.or_true, Bool.or_false, Bool.true_and, Bool.false_and, Bool.and_true, Bool.and_false, r22_15, t0, t4, nilChk_some, tld hb, h1, h1', q, false_and]

theorem step_law (L n N : Nat) (hN : N ≤ 100000) (hL : 300000 < L) {O : Nat → Tag} {h : H} {b : Nat} {l : List Ent} {m0 : Nat} (st : St N O h b l m0) :
    Sp (CF L (n + 4)) 22 [.pointer (some ⟨b, 0, none⟩)] h fun r h' => ∃ O' mv, St N O' h' b l mv ∧ mv ≤ 4 ∧ Fr O h O' h' := by
  obtain ⟨now, old, a, v1, v2, tab, g, pm⟩ := st
  refine Sp.body f22 (by simp) ?_
  unfold c22
  refine C.seq fun K hK => ?_
  simp only [↓opStep_eq, ↓reduceIte, tg_set, toTm_cons, toTm_nil, fieldPtr_ptr, Nat.add_zero, Nat.zero_add, Nat.reduceAdd, Nat.reduceEqDiff, Int.reduceEq, Int.reduceLT, Int.reduceLE, Int.reduceNe, ↓kO_some, ↓kA_some, ↓kH_some, kO_some, kA_some, kH_some, gd_true, gd_false, nthD_zero, nthD_succ, isB_true, isB_false, isB_undef, pickV_true, pickV_false, binV_add, binV_sub, binV_mul, binV_eql, binV_neq, binV_lss, binV_leq, binV_gtr, binV_geq, unV_not, nt, nf, Bool.false_eq_true, dt, df, decide_true, decide_false, withV_some, aggO_some, ptrTo_eq, ↓aO_some, aO_some, ↓andB_true, andB_true, gz, gs, seqC, retC, skipC, exitC, blockC, condC, cells_agg, r22_0, nilChk_some, tst5 tab.hb]
  have hcnt := g.cnt
  have hol := g.olen
  refine hK _ _ _ (C.seq (C.block (C.loop (fun k tm hx => ∃ O' now old a mv v1 v2, k = (old.length - a) + old.flatten.length ∧ tg tm 0 = .pointer (some ⟨b, 0, none⟩) ∧ Iv N O h b l O' hx now old a mv v1 v2) ((old.length - a) + old.flatten.length) (by omega)
    ⟨O, now, old, a, 0, v1, v2, rfl, by simp only [↓opStep_eq, ↓reduceIte, tg_set, toTm_cons, toTm_nil, fieldPtr_ptr, Nat.add_zero, Nat.zero_add, Nat.reduceAdd, Nat.reduceEqDiff, Int.reduceEq, Int.reduceLT, Int.reduceLE, Int.reduceNe, ↓kO_some, ↓kA_some, ↓kH_some, kO_some, kA_some, kH_some, gd_true, gd_false, nthD_zero, nthD_succ, isB_true, isB_false, isB_undef, pickV_true, pickV_false, binV_add, binV_sub, binV_mul, binV_eql, binV_neq, binV_lss, binV_leq, binV_gtr, binV_geq, unV_not, nt, nf, Bool.false_eq_true, dt, df, decide_true, decide_false, withV_some, aggO_some, ptrTo_eq, ↓aO_some, aO_some, ↓andB_true, andB_true, gz, gs, seqC, retC, skipC, exitC, blockC, condC, cells_agg], tab.put, g, pm, by omega, tab.frput _⟩ ?_)))
  rintro k tm hx ⟨O1, now1, old1, a1, mv1, w1, w2, rfl, t0, iv⟩
  refine step_body L n N hN hL iv tm t0 _ (fun hout tm t0 => ?_) fun O2 h2 now2 old2 a2 mv2 u1 u2 tm' iv2 hlt t0' => ⟨_, hlt, O2, now2, old2, a2, mv2, u1, u2, rfl, t0', iv2⟩
  simp only [if_pos]
  clear tab g pm
  obtain ⟨tab, g, pm, hmv, fr⟩ := iv
  have hcnt := g.cnt
  refine C.seq (C.seq fun K hK => ?_)
  simp only [↓opStep_eq, ↓reduceIte, tg_set, toTm_cons, toTm_nil, fieldPtr_ptr, Nat.add_zero, Nat.zero_add, Nat.reduceAdd, Nat.reduceEqDiff, Int.reduceEq, Int.reduceLT, Int.reduceLE, Int.reduceNe, ↓kO_some, ↓kA_some, ↓kH_some, kO_some, kA_some, kH_some, gd_true, gd_false, nthD_zero, nthD_succ, isB_true, isB_false, isB_undef, pickV_true, pickV_false, binV_add, binV_sub, binV_mul, binV_eql, binV_neq, binV_lss, binV_leq, binV_gtr, binV_geq, unV_not, nt, nf, Bool.false_eq_true, dt, df, decide_true, decide_false, withV_some, aggO_some, ptrTo_eq, ↓aO_some, aO_some, ↓andB_true, andB_true, gz, gs, seqC, retC, skipC, exitC, blockC, condC, cells_agg, r22_10, t0, nilChk_some, tld tab.hb]
  refine hK _ _ _ (C.cond (decide (0 < (old1.flatten.length : Int))) (by simp only [↓opStep_eq, ↓reduceIte, tg_set, toTm_cons, toTm_nil, fieldPtr_ptr, Nat.add_zero, Nat.zero_add, Nat.reduceAdd, Nat.reduceEqDiff, Int.reduceEq, Int.reduceLT, Int.reduceLE, Int.reduceNe, ↓kO_some, ↓kA_some, ↓kH_some, kO_some, kA_some, kH_some, gd_true, gd_false, nthD_zero, nthD_succ, isB_true, isB_false, isB_undef, pickV_true, pickV_false, binV_add, binV_sub, binV_mul, binV_eql, binV_neq, binV_lss, binV_leq, binV_gtr, binV_geq, unV_not, nt, nf, Bool.false_eq_true, dt, df, decide_true, decide_false, withV_some, aggO_some, ptrTo_eq, ↓aO_some, aO_some, ↓andB_true, andB_true, gz, gs, seqC, retC, skipC, exitC, blockC, condC, cells_agg]) (fun hc => C.ret ⟨.inr rfl, _, rfl, O1, mv1, ⟨now1, old1, a1, w1, w2, tab, g, pm⟩, hmv, fr⟩) fun hc => C.skip ?_)
  have hz : old1.flatten = [] := List.length_eq_zero_iff.1 (by have := of_decide_eq_false hc; omega)
  have g2 := g.clear hz
  have agg : aggO (fill [(.slice none 0 0), (.int .i64 (0))] (plc [(0, 1), (1, 1)]) []) = some (.agg [.slice none 0 0, .int .i64 0].toArray) := rfl
  have tab1 := tab.clear_old (at2 := (a1 : Int))
  have fr1 := tab.frput (.rw (tcells w1 (now1.flatten.length : Int) (.slice none 0 0) 0 (a1 : Int) (mv1 : Int)))
  have st1 := tst_old tab.hb none 0 0 0
  refine C.seq fun K hK => ?_
  simp only [↓opStep_eq, ↓reduceIte, tg_set, toTm_cons, toTm_nil, fieldPtr_ptr, Nat.add_zero, Nat.zero_add, Nat.reduceAdd, Nat.reduceEqDiff, Int.reduceEq, Int.reduceLT, Int.reduceLE, Int.reduceNe, ↓kO_some, ↓kA_some, ↓kH_some, kO_some, kA_some, kH_some, gd_true, gd_false, nthD_zero, nthD_succ, isB_true, isB_false, isB_undef, pickV_true, pickV_false, binV_add, binV_sub, binV_mul, binV_eql, binV_neq, binV_lss, binV_leq, binV_gtr, binV_geq, unV_not, nt, nf, Bool.false_eq_true, dt, df, decide_true, decide_false, withV_some, aggO_some, ptrTo_eq, ↓aO_some, aO_some, ↓andB_true, andB_true, gz, gs, seqC, retC, skipC, exitC, blockC, condC, cells_agg, r22_11, t0, nilChk_some, agg, st1, tst4 tab1.hb]
  generalize hx.put b (.rw (tcells w1 (now1.flatten.length : Int) (.slice none 0 0) 0 (a1 : Int) (mv1 : Int))) = h2 at *
  have tab2 := tab1.put (m1 := (now1.flatten.length : Int)) (m2 := 0) (at2 := 0) (mv2 := (mv1 : Int))
  have fr2 := tab1.frput (.rw (tcells w1 (now1.flatten.length : Int) (.slice none 0 0) 0 0 (mv1 : Int)))
  generalize h2.put b (.rw (tcells w1 (now1.flatten.length : Int) (.slice none 0 0) 0 0 (mv1 : Int))) = h3 at *
  have fr3 := fr.trans (fr1.trans fr2)
  have pm2 : (now1.flatten ++ ([] : List (List Ent)).flatten).Perm l := by rw [hz] at pm; exact pm
  have st3 : St N O1 h3 b l mv1 := ⟨now1, [], 0, w1, _, tab2, g2, pm2⟩
  have hlen := g.len
  refine hK _ _ _ (C.seq fun K hK => ?_)
  simp only [↓opStep_eq, ↓reduceIte, tg_set, toTm_cons, toTm_nil, fieldPtr_ptr, Nat.add_zero, Nat.zero_add, Nat.reduceAdd, Nat.reduceEqDiff, Int.reduceEq, Int.reduceLT, Int.reduceLE, Int.reduceNe, ↓kO_some, ↓kA_some, ↓kH_some, kO_some, kA_some, kH_some, gd_true, gd_false, nthD_zero, nthD_succ, isB_true, isB_false, isB_undef, pickV_true, pickV_false, binV_add, binV_sub, binV_mul, binV_eql, binV_neq, binV_lss, binV_leq, binV_gtr, binV_geq, unV_not, nt, nf, Bool.false_eq_true, dt, df, decide_true, decide_false, withV_some, aggO_some, ptrTo_eq, ↓aO_some, aO_some, ↓andB_true, andB_true, gz, gs, seqC, retC, skipC, exitC, blockC, condC, cells_agg, r22_12, t0, nilChk_some, tld tab2.hb, tab2.now.len]
  refine hK _ _ _ (C.block (C.seq fun K hK => ?_))
  have hw : IntKind.i64.wrap (2 * (now1.length : Int)) = ((2 * now1.length : Nat) : Int) := by
    rw [show 2 * (now1.length : Int) = ((2 * now1.length : Nat) : Int) by omega, wrap_i64 _ (by omega)]
  simp only [↓opStep_eq, ↓reduceIte, tg_set, toTm_cons, toTm_nil, fieldPtr_ptr, Nat.add_zero, Nat.zero_add, Nat.reduceAdd, Nat.reduceEqDiff, Int.reduceEq, Int.reduceLT, Int.reduceLE, Int.reduceNe, ↓kO_some, ↓kA_some, ↓kH_some, kO_some, kA_some, kH_some, gd_true, gd_false, nthD_zero, nthD_succ, isB_true, isB_false, isB_undef, pickV_true, pickV_false, binV_add, binV_sub, binV_mul, binV_eql, binV_neq, binV_lss, binV_leq, binV_gtr, binV_geq, unV_not, nt, nf, Bool.false_eq_true, dt, df, decide_true, decide_false, withV_some, aggO_some, ptrTo_eq, ↓aO_some, aO_some, ↓andB_true, andB_true, gz, gs, seqC, retC, skipC, exitC, blockC, condC, cells_agg, r22_13, t0, nilChk_some, tld tab2.hb, hw]
  -- a turn
  have turned : ∀ (m : Nat), 0 < m → m ≤ N + 4 → Sp (CF L (n + 3)) 34 [.pointer (some ⟨b, 0, none⟩), .int .i64 (m : Int)] h3 fun r h' => ∃ O' mv, St N O' h' b l mv ∧ mv ≤ 4 ∧ Fr O h O' h' := fun m hm hm2 => by
    refine (turn_law L (n + 2) tab2 m hm (by omega)).mono fun r h' ⟨O', u1, tb, fr'⟩ => ⟨O', mv1, ⟨List.replicate m [], now1, 0, u1, w1, ?_, g2.turn hm hm2, ?_⟩, hmv, fr3.trans fr'⟩
    · have e0 : (List.replicate m ([] : List Ent)).flatten = [] := by simp
      rw [e0]; exact tb
    · have e0 : (List.replicate m ([] : List Ent)).flatten = [] := by simp
      rw [e0, List.nil_append]
      simpa using pm2
  refine hK _ _ _ (C.cond (decide (((2 * now1.length : Nat) : Int) < (now1.flatten.length : Int))) (by simp only [↓opStep_eq, ↓reduceIte, tg_set, toTm_cons, toTm_nil, fieldPtr_ptr, Nat.add_zero, Nat.zero_add, Nat.reduceAdd, Nat.reduceEqDiff, Int.reduceEq, Int.reduceLT, Int.reduceLE, Int.reduceNe, ↓kO_some, ↓kA_some, ↓kH_some, kO_some, kA_some, kH_some, gd_true, gd_false, nthD_zero, nthD_succ, isB_true, isB_false, isB_undef, pickV_true, pickV_false, binV_add, binV_sub, binV_mul, binV_eql, binV_neq, binV_lss, binV_leq, binV_gtr, binV_geq, unV_not, nt, nf, Bool.false_eq_true, dt, df, decide_true, decide_false, withV_some, aggO_some, ptrTo_eq, ↓aO_some, aO_some, ↓andB_true, andB_true, gz, gs, seqC, retC, skipC, exitC, blockC, condC, cells_agg]) (fun hc => fun K hK => ?_) fun hc => C.seq fun K hK => ?_)
  · have hc := of_decide_eq_true hc
    simp only [↓opStep_eq, ↓reduceIte, tg_set, toTm_cons, toTm_nil, fieldPtr_ptr, Nat.add_zero, Nat.zero_add, Nat.reduceAdd, Nat.reduceEqDiff, Int.reduceEq, Int.reduceLT, Int.reduceLE, Int.reduceNe, ↓kO_some, ↓kA_some, ↓kH_some, kO_some, kA_some, kH_some, gd_true, gd_false, nthD_zero, nthD_succ, isB_true, isB_false, isB_undef, pickV_true, pickV_false, binV_add, binV_sub, binV_mul, binV_eql, binV_neq, binV_lss, binV_leq, binV_gtr, binV_geq, unV_not, nt, nf, Bool.false_eq_true, dt, df, decide_true, decide_false, withV_some, aggO_some, ptrTo_eq, ↓aO_some, aO_some, ↓andB_true, andB_true, gz, gs, seqC, retC, skipC, exitC, blockC, condC, cells_agg, r22_14, t0, hw]
    refine turned (2 * now1.length) (by have := g.pos; omega) (by omega) _ fun r h4 hq => ?_
    exact hK _ _ _ ⟨.inl rfl, _, rfl, hq⟩
  · rw [show ∀ x : CodeT, (⟨x⟩ : Box CodeT).f = x from fun _ => rfl]
    rw [r22_15_eq (n := now1.length) tab2.hb (by simp only [↓opStep_eq, ↓reduceIte, tg_set, toTm_cons, toTm_nil, fieldPtr_ptr, Nat.add_zero, Nat.zero_add, Nat.reduceAdd, Nat.reduceEqDiff, Int.reduceEq, Int.reduceLT, Int.reduceLE, Int.reduceNe, ↓kO_some, ↓kA_some, ↓kH_some, kO_some, kA_some, kH_some, gd_true, gd_false, nthD_zero, nthD_succ, isB_true, isB_false, isB_undef, pickV_true, pickV_false, binV_add, binV_sub, binV_mul, binV_eql, binV_neq, binV_lss, binV_leq, binV_gtr, binV_geq, unV_not, nt, nf, Bool.false_eq_true, dt, df, decide_true, decide_false, withV_some, aggO_some, ptrTo_eq, ↓aO_some, aO_some, ↓andB_true, andB_true, gz, gs, seqC, retC, skipC, exitC, blockC, condC, cells_agg, t0]) (by simp only [↓opStep_eq, ↓reduceIte, tg_set, toTm_cons, toTm_nil, fieldPtr_ptr, Nat.add_zero, Nat.zero_add, Nat.reduceAdd, Nat.reduceEqDiff, Int.reduceEq, Int.reduceLT, Int.reduceLE, Int.reduceNe, ↓kO_some, ↓kA_some, ↓kH_some, kO_some, kA_some, kH_some, gd_true, gd_false, nthD_zero, nthD_succ, isB_true, isB_false, isB_undef, pickV_true, pickV_false, binV_add, binV_sub, binV_mul, binV_eql, binV_neq, binV_lss, binV_leq, binV_gtr, binV_geq, unV_not, nt, nf, Bool.false_eq_true, dt, df, decide_true, decide_false, withV_some, aggO_some, ptrTo_eq, ↓aO_some, aO_some, ↓andB_true, andB_true, gz, gs, seqC, retC, skipC, exitC, blockC, condC, cells_agg]) (by omega)]
    refine hK _ _ _ (C.cond (decide (4 < now1.length ∧ (now1.flatten.length : Int) < ((now1.length / 4 : Nat) : Int))) (by simp only [↓opStep_eq, ↓reduceIte, tg_set, toTm_cons, toTm_nil, fieldPtr_ptr, Nat.add_zero, Nat.zero_add, Nat.reduceAdd, Nat.reduceEqDiff, Int.reduceEq, Int.reduceLT, Int.reduceLE, Int.reduceNe, ↓kO_some, ↓kA_some, ↓kH_some, kO_some, kA_some, kH_some, gd_true, gd_false, nthD_zero, nthD_succ, isB_true, isB_false, isB_undef, pickV_true, pickV_false, binV_add, binV_sub, binV_mul, binV_eql, binV_neq, binV_lss, binV_leq, binV_gtr, binV_geq, unV_not, nt, nf, Bool.false_eq_true, dt, df, decide_true, decide_false, withV_some, aggO_some, ptrTo_eq, ↓aO_some, aO_some, ↓andB_true, andB_true, gz, gs, seqC, retC, skipC, exitC, blockC, condC, cells_agg]) (fun hc => fun K hK => ?_) fun hc => C.skip ?_)
    · have hc := of_decide_eq_true hc
      have q : binV Tryd.prog .quo 3 true (.int .i64 (now1.length : Int)) (.int .i64 2) = some (.int .i64 ((now1.length / 2 : Nat) : Int)) := by
        rw [binV_quo _ _ _ _ _ (by decide), show (2 : Int) = ((2 : Nat) : Int) from rfl, tdiv_nat, wrap_i64 _ (by omega)]
      simp only [↓opStep_eq, ↓reduceIte, tg_set, toTm_cons, toTm_nil, fieldPtr_ptr, Nat.add_zero, Nat.zero_add, Nat.reduceAdd, Nat.reduceEqDiff, Int.reduceEq, Int.reduceLT, Int.reduceLE, Int.reduceNe, ↓kO_some, ↓kA_some, ↓kH_some, kO_some, kA_some, kH_some, gd_true, gd_false, nthD_zero, nthD_succ, isB_true, isB_false, isB_undef, pickV_true, pickV_false, binV_add, binV_sub, binV_mul, binV_eql, binV_neq, binV_lss, binV_leq, binV_gtr, binV_geq, unV_not, nt, nf, Bool.false_eq_true, dt, df, decide_true, decide_false, withV_some, aggO_some, ptrTo_eq, ↓aO_some, aO_some, ↓andB_true, andB_true, gz, gs, seqC, retC, skipC, exitC, blockC, condC, cells_agg, r22_16, t0, q]
      refine turned (now1.length / 2) (by omega) (by omega) _ fun r h4 hq => ?_
      exact hK _ _ _ ⟨.inl rfl, _, rfl, hq⟩
    · exact ⟨.inl rfl, _, rfl, O1, mv1, st3, hmv, fr3⟩
end Go.Proofs.YtbdmhdidehfmoaaDoor
