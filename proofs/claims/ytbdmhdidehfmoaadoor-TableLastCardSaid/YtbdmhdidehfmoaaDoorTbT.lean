import Derived.Test.YtbdmhdidehfmoaaDoorTbS
set_option linter.unusedSimpArgs false
set_option linter.unusedVariables false
namespace Go.Proofs.YtbdmhdidehfmoaaDoor
open Go.Ev

theorem ptr_nil' (b : Nat) : binV Tryd.prog .eql 24 true (.pointer (some ⟨b, 0, none⟩)) (.pointer none) = some (.bool false) := ptr_nil _
abbrev kA : ByteArray := strB [97]
theorem kA_valid0 : validN 0 kA := by decide
theorem kA_valid1 : validN 1 kA := by decide
theorem al1 : without [] 0 kA = [] := rfl
theorem al2 : (⟨1, kA, 6⟩ : Ent) :: without [⟨0, kA, 5⟩] 1 kA = [⟨1, kA, 6⟩, ⟨0, kA, 5⟩] := by
  rw [without_none]
  intro e he hm
  simp at he; subst he; exact absurd hm.1 (by decide)
theorem al3 : (⟨0, kA, 7⟩ : Ent) :: without [⟨1, kA, 6⟩, ⟨0, kA, 5⟩] 0 kA = [⟨0, kA, 7⟩, ⟨1, kA, 6⟩] := by
  have h1 : ¬ Is 0 kA ⟨1, kA, 6⟩ := fun h => absurd h.1 (by decide)
  have h2 : Is 0 kA ⟨0, kA, 5⟩ := ⟨rfl, rfl⟩
  unfold without
  rw [List.filter_cons, if_pos (by rw [decide_eq_false h1]; rfl), List.filter_cons, if_neg (by rw [decide_eq_true h2]; simp), List.filter_nil]

theorem Fr.gl {O O' : Nat → Tag} {h h' : H} (a : Fr O h O' h') (g : Gl h) (o : O 0 = .other) : Gl h' := a.has g o

theorem alive_law (L n : Nat) (hL : 300000 < L) (h : H) (gl : Gl h) : Sp (CF L (n + 6)) 7 [] h fun r h' => r = .bool true ∧ Keep nobody h h' := by
  refine Sp.body f7 (by simp) ?_
  unfold c7
  refine C.seq fun K hK => hK .norm _ _ (C.seq fun K hK => ?_)
  simp only [↓opStep_eq, ↓reduceIte, tg_set, toTm_cons, toTm_nil, fieldPtr_ptr, Nat.add_zero, Nat.zero_add, Nat.reduceAdd, Nat.reduceEqDiff, Int.reduceEq, Int.reduceLT, Int.reduceLE, Int.reduceNe, ↓kO_some, ↓kA_some, ↓kH_some, kO_some, kA_some, kH_some, gd_true, gd_false, nthD_zero, nthD_succ, isB_true, isB_false, isB_undef, pickV_true, pickV_false, binV_add, binV_sub, binV_mul, binV_eql, binV_neq, binV_lss, binV_leq, binV_gtr, binV_geq, unV_not, nt, nf, Bool.false_eq_true, dt, df, decide_true, decide_false, withV_some, aggO_some, ptrTo_eq, ↓aO_some, aO_some, ↓andB_true, andB_true, gz, gs, seqC, retC, skipC, exitC, blockC, condC, cells_agg, r7_1]
  refine new_law L (n + 4) 10 h _ fun r h1 hq => ?_
  obtain ⟨O, b, rfl, st, k1, ho⟩ := hq
  have o0 : O 0 = .other := ho 0 gl.1
  have gl1 : Gl h1 := gl.keep0 k1
  refine hK _ _ _ (C.seq (C.seq fun K hK => ?_))
  simp only [↓opStep_eq, ↓reduceIte, tg_set, toTm_cons, toTm_nil, fieldPtr_ptr, Nat.add_zero, Nat.zero_add, Nat.reduceAdd, Nat.reduceEqDiff, Int.reduceEq, Int.reduceLT, Int.reduceLE, Int.reduceNe, ↓kO_some, ↓kA_some, ↓kH_some, kO_some, kA_some, kH_some, gd_true, gd_false, nthD_zero, nthD_succ, isB_true, isB_false, isB_undef, pickV_true, pickV_false, binV_add, binV_sub, binV_mul, binV_eql, binV_neq, binV_lss, binV_leq, binV_gtr, binV_geq, unV_not, nt, nf, Bool.false_eq_true, dt, df, decide_true, decide_false, withV_some, aggO_some, ptrTo_eq, ↓aO_some, aO_some, ↓andB_true, andB_true, gz, gs, seqC, retC, skipC, exitC, blockC, condC, cells_agg, r7_2, ptr_nil']
  refine hK _ _ _ (C.cond false (by simp only [↓opStep_eq, ↓reduceIte, tg_set, toTm_cons, toTm_nil, fieldPtr_ptr, Nat.add_zero, Nat.zero_add, Nat.reduceAdd, Nat.reduceEqDiff, Int.reduceEq, Int.reduceLT, Int.reduceLE, Int.reduceNe, ↓kO_some, ↓kA_some, ↓kH_some, kO_some, kA_some, kH_some, gd_true, gd_false, nthD_zero, nthD_succ, isB_true, isB_false, isB_undef, pickV_true, pickV_false, binV_add, binV_sub, binV_mul, binV_eql, binV_neq, binV_lss, binV_leq, binV_gtr, binV_geq, unV_not, nt, nf, Bool.false_eq_true, dt, df, decide_true, decide_false, withV_some, aggO_some, ptrTo_eq, ↓aO_some, aO_some, ↓andB_true, andB_true, gz, gs, seqC, retC, skipC, exitC, blockC, condC, cells_agg]) (fun g => by cases g) fun g => C.skip (C.seq fun K hK => ?_))
  -- the first
  simp only [↓opStep_eq, ↓reduceIte, tg_set, toTm_cons, toTm_nil, fieldPtr_ptr, Nat.add_zero, Nat.zero_add, Nat.reduceAdd, Nat.reduceEqDiff, Int.reduceEq, Int.reduceLT, Int.reduceLE, Int.reduceNe, ↓kO_some, ↓kA_some, ↓kH_some, kO_some, kA_some, kH_some, gd_true, gd_false, nthD_zero, nthD_succ, isB_true, isB_false, isB_undef, pickV_true, pickV_false, binV_add, binV_sub, binV_mul, binV_eql, binV_neq, binV_lss, binV_leq, binV_gtr, binV_geq, unV_not, nt, nf, Bool.false_eq_true, dt, df, decide_true, decide_false, withV_some, aggO_some, ptrTo_eq, ↓aO_some, aO_some, ↓andB_true, andB_true, gz, gs, seqC, retC, skipC, exitC, blockC, condC, cells_agg, r7_4]
  refine name_law L (n + 4) 0 kA h1 _ fun r h2 hq => ?_
  obtain ⟨rfl, k2⟩ := hq
  refine put_T L n 10 (by decide) hL (st.keep0 k2) kA_valid0 5 (by decide) _ fun r h3 hq => ?_
  obtain ⟨O1, m1, st1, _, fr1, rfl⟩ := hq
  rw [al1] at st1
  have fr01 := (Fr.of0 (O := O) k2).trans fr1
  have hk : ∀ c, c < h.next → O1 c = .other := fun c hc => fr01.same c (Nat.lt_of_lt_of_le hc k1.next) (ho c hc)
  refine hK _ _ _ (C.seq fun K hK => ?_)
  -- the second
  simp only [↓opStep_eq, ↓reduceIte, tg_set, toTm_cons, toTm_nil, fieldPtr_ptr, Nat.add_zero, Nat.zero_add, Nat.reduceAdd, Nat.reduceEqDiff, Int.reduceEq, Int.reduceLT, Int.reduceLE, Int.reduceNe, ↓kO_some, ↓kA_some, ↓kH_some, kO_some, kA_some, kH_some, gd_true, gd_false, nthD_zero, nthD_succ, isB_true, isB_false, isB_undef, pickV_true, pickV_false, binV_add, binV_sub, binV_mul, binV_eql, binV_neq, binV_lss, binV_leq, binV_gtr, binV_geq, unV_not, nt, nf, Bool.false_eq_true, dt, df, decide_true, decide_false, withV_some, aggO_some, ptrTo_eq, ↓aO_some, aO_some, ↓andB_true, andB_true, gz, gs, seqC, retC, skipC, exitC, blockC, condC, cells_agg, r7_5]
  refine name_law L (n + 4) 1 kA h3 _ fun r h4 hq => ?_
  obtain ⟨rfl, k4⟩ := hq
  refine put_T L n 10 (by decide) hL (st1.keep0 k4) kA_valid1 6 (by decide) _ fun r h5 hq => ?_
  obtain ⟨O2, m2, st2, _, fr2, rfl⟩ := hq
  rw [al2] at st2
  have fr02 := fr01.trans ((Fr.of0 (O := O1) k4).trans fr2)
  refine hK _ _ _ (C.seq fun K hK => ?_)
  -- the third
  simp only [↓opStep_eq, ↓reduceIte, tg_set, toTm_cons, toTm_nil, fieldPtr_ptr, Nat.add_zero, Nat.zero_add, Nat.reduceAdd, Nat.reduceEqDiff, Int.reduceEq, Int.reduceLT, Int.reduceLE, Int.reduceNe, ↓kO_some, ↓kA_some, ↓kH_some, kO_some, kA_some, kH_some, gd_true, gd_false, nthD_zero, nthD_succ, isB_true, isB_false, isB_undef, pickV_true, pickV_false, binV_add, binV_sub, binV_mul, binV_eql, binV_neq, binV_lss, binV_leq, binV_gtr, binV_geq, unV_not, nt, nf, Bool.false_eq_true, dt, df, decide_true, decide_false, withV_some, aggO_some, ptrTo_eq, ↓aO_some, aO_some, ↓andB_true, andB_true, gz, gs, seqC, retC, skipC, exitC, blockC, condC, cells_agg, r7_6]
  refine name_law L (n + 4) 0 kA h5 _ fun r h6 hq => ?_
  obtain ⟨rfl, k6⟩ := hq
  refine put_T L n 10 (by decide) hL (st2.keep0 k6) kA_valid0 7 (by decide) _ fun r h7 hq => ?_
  obtain ⟨O3, m3, st3, _, fr3, rfl⟩ := hq
  rw [al3] at st3
  have fr03 := fr02.trans ((Fr.of0 (O := O2) k6).trans fr3)
  refine hK _ _ _ (C.seq fun K hK => ?_)
  -- it is got
  simp only [↓opStep_eq, ↓reduceIte, tg_set, toTm_cons, toTm_nil, fieldPtr_ptr, Nat.add_zero, Nat.zero_add, Nat.reduceAdd, Nat.reduceEqDiff, Int.reduceEq, Int.reduceLT, Int.reduceLE, Int.reduceNe, ↓kO_some, ↓kA_some, ↓kH_some, kO_some, kA_some, kH_some, gd_true, gd_false, nthD_zero, nthD_succ, isB_true, isB_false, isB_undef, pickV_true, pickV_false, binV_add, binV_sub, binV_mul, binV_eql, binV_neq, binV_lss, binV_leq, binV_gtr, binV_geq, unV_not, nt, nf, Bool.false_eq_true, dt, df, decide_true, decide_false, withV_some, aggO_some, ptrTo_eq, ↓aO_some, aO_some, ↓andB_true, andB_true, gz, gs, seqC, retC, skipC, exitC, blockC, condC, cells_agg, r7_7]
  refine name_law L (n + 4) 0 kA h7 _ fun r h8 hq => ?_
  obtain ⟨rfl, k8⟩ := hq
  refine get_law L n 10 (by decide) hL (st3.keep0 k8) kA_valid0 _ fun r h9 hq => ?_
  obtain ⟨O4, m4, st4, _, fr4, gq⟩ := hq
  have fr04 := fr03.trans ((Fr.of0 (O := O3) k8).trans fr4)
  have hr : r = .tuple [.int .i64 7, .bool true, .int .i64 0].toArray := by
    rcases gq with ⟨e, he, hm, rfl⟩ | ⟨no, _⟩
    · simp only [List.mem_cons, List.not_mem_nil, or_false] at he
      rcases he with rfl | rfl
      · rfl
      · exact absurd hm.1 (by decide)
    · exact absurd ⟨rfl, rfl⟩ (no ⟨0, kA, 7⟩ (by simp))
  subst hr
  simp only [↓opStep_eq, ↓reduceIte, tg_set, toTm_cons, toTm_nil, fieldPtr_ptr, Nat.add_zero, Nat.zero_add, Nat.reduceAdd, Nat.reduceEqDiff, Int.reduceEq, Int.reduceLT, Int.reduceLE, Int.reduceNe, ↓kO_some, ↓kA_some, ↓kH_some, kO_some, kA_some, kH_some, gd_true, gd_false, nthD_zero, nthD_succ, isB_true, isB_false, isB_undef, pickV_true, pickV_false, binV_add, binV_sub, binV_mul, binV_eql, binV_neq, binV_lss, binV_leq, binV_gtr, binV_geq, unV_not, nt, nf, Bool.false_eq_true, dt, df, decide_true, decide_false, withV_some, aggO_some, ptrTo_eq, ↓aO_some, aO_some, ↓andB_true, andB_true, gz, gs, seqC, retC, skipC, exitC, blockC, condC, cells_agg, tupNth_tuple]
  refine hK _ _ _ (C.seq fun K hK => ?_)
  simp only [↓opStep_eq, ↓reduceIte, tg_set, toTm_cons, toTm_nil, fieldPtr_ptr, Nat.add_zero, Nat.zero_add, Nat.reduceAdd, Nat.reduceEqDiff, Int.reduceEq, Int.reduceLT, Int.reduceLE, Int.reduceNe, ↓kO_some, ↓kA_some, ↓kH_some, kO_some, kA_some, kH_some, gd_true, gd_false, nthD_zero, nthD_succ, isB_true, isB_false, isB_undef, pickV_true, pickV_false, binV_add, binV_sub, binV_mul, binV_eql, binV_neq, binV_lss, binV_leq, binV_gtr, binV_geq, unV_not, nt, nf, Bool.false_eq_true, dt, df, decide_true, decide_false, withV_some, aggO_some, ptrTo_eq, ↓aO_some, aO_some, ↓andB_true, andB_true, gz, gs, seqC, retC, skipC, exitC, blockC, condC, cells_agg, r7_8]
  refine len_law L (n + 3) 10 (by decide) st4 (fr04.gl gl1 o0) _ fun r h10 hq => ?_
  obtain ⟨rfl, k10⟩ := hq
  have e2 : (([⟨0, kA, 7⟩, ⟨1, kA, 6⟩] : List Ent).length : Int) = 2 := rfl
  rw [e2]
  simp only [↓opStep_eq, ↓reduceIte, tg_set, toTm_cons, toTm_nil, fieldPtr_ptr, Nat.add_zero, Nat.zero_add, Nat.reduceAdd, Nat.reduceEqDiff, Int.reduceEq, Int.reduceLT, Int.reduceLE, Int.reduceNe, ↓kO_some, ↓kA_some, ↓kH_some, kO_some, kA_some, kH_some, gd_true, gd_false, nthD_zero, nthD_succ, isB_true, isB_false, isB_undef, pickV_true, pickV_false, binV_add, binV_sub, binV_mul, binV_eql, binV_neq, binV_lss, binV_leq, binV_gtr, binV_geq, unV_not, nt, nf, Bool.false_eq_true, dt, df, decide_true, decide_false, withV_some, aggO_some, ptrTo_eq, ↓aO_some, aO_some, ↓andB_true, andB_true, gz, gs, seqC, retC, skipC, exitC, blockC, condC, cells_agg, tupNth_tuple]
  refine hK _ _ _ (C.seq fun K hK => ?_)
  have kall : Keep nobody h h10 := by
    refine (k1.trans fr04.keep fun c hc hn => hn (ho c hc)).then k10
  simp only [↓opStep_eq, ↓reduceIte, tg_set, toTm_cons, toTm_nil, fieldPtr_ptr, Nat.add_zero, Nat.zero_add, Nat.reduceAdd, Nat.reduceEqDiff, Int.reduceEq, Int.reduceLT, Int.reduceLE, Int.reduceNe, ↓kO_some, ↓kA_some, ↓kH_some, kO_some, kA_some, kH_some, gd_true, gd_false, nthD_zero, nthD_succ, isB_true, isB_false, isB_undef, pickV_true, pickV_false, binV_add, binV_sub, binV_mul, binV_eql, binV_neq, binV_lss, binV_leq, binV_gtr, binV_geq, unV_not, nt, nf, Bool.false_eq_true, dt, df, decide_true, decide_false, withV_some, aggO_some, ptrTo_eq, ↓aO_some, aO_some, ↓andB_true, andB_true, gz, gs, seqC, retC, skipC, exitC, blockC, condC, cells_agg, Bool.true_or, Bool.false_or, Bool.or_true, Bool.or_false, Bool.true_and, Bool.false_and, Bool.and_true, Bool.and_false, r7_9]
  exact hK _ _ _ (C.ret ⟨.inr rfl, _, rfl, by simp only [↓opStep_eq, ↓reduceIte, tg_set, toTm_cons, toTm_nil, fieldPtr_ptr, Nat.add_zero, Nat.zero_add, Nat.reduceAdd, Nat.reduceEqDiff, Int.reduceEq, Int.reduceLT, Int.reduceLE, Int.reduceNe, ↓kO_some, ↓kA_some, ↓kH_some, kO_some, kA_some, kH_some, gd_true, gd_false, nthD_zero, nthD_succ, isB_true, isB_false, isB_undef, pickV_true, pickV_false, binV_add, binV_sub, binV_mul, binV_eql, binV_neq, binV_lss, binV_leq, binV_gtr, binV_geq, unV_not, nt, nf, Bool.false_eq_true, dt, df, decide_true, decide_false, withV_some, aggO_some, ptrTo_eq, ↓aO_some, aO_some, ↓andB_true, andB_true, gz, gs, seqC, retC, skipC, exitC, blockC, condC, cells_agg, resOf], kall⟩)
end Go.Proofs.YtbdmhdidehfmoaaDoor
