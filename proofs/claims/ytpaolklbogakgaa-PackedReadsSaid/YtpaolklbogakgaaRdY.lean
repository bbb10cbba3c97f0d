import Derived.Test.YtpaolklbogakgaaRdW
set_option linter.unusedSimpArgs false
set_option linter.unusedVariables false
namespace Go.Proofs.Ytpaolklbogakgaa
open Go.Ev

theorem store7_new (h : H) {cs : List Value} (hl : cs.length = 7) (h1 : ones cs = true) : storeV 7 (h.new (.rw Z7)) (.pointer (some ⟨h.next, 0, none⟩)) (.agg cs.toArray) = some ((h.new (.rw Z7)).put h.next (.rw cs)) := by
  have hst := store_new h 7 none Z7 (.agg cs.toArray) rfl (by simpa using hl) (by simpa using h1)
  have hcc : (Value.cells (.agg cs.toArray)).toList = cs := by simp
  rw [hcc] at hst
  exact hst

theorem ops_step {one : Box OpT} {put : Box (Value → T Value → T Value)} {want : Box (List Value → T Value → Bool)} {rest : Box OpsT} {call : CallT} {env : List Value} {tm : T Value} {ds : Defs} {h : H} {K : KE} (hw : want.f env tm = true)
    (h1 : one.f call env tm ds h (fun v ds h => rest.f call (v :: env) (put.f v tm) ds h K) = true) : opStep one put want rest call env tm ds h K = true := by
  rw [opStep_eq, if_pos hw]
  exact h1

theorem reg4_1 {call : CallT} {L : Nat} {tm : T Value} {h : H} {K : KE} {v : Value} {l : List UInt8} (hr : Rd h v l) (t0 : tg tm 0 = v) :
    r4_1 call L tm [] h K = K .norm (T.set tm 22 (.bool (decide (6000 < l.length ∧ l.length ≤ 16384 ∨ 17000 < l.length)))) [] h := by
  by_cases h1 : (6000 : Int) < (l.length : Int)
  · by_cases h2 : (l.length : Int) ≤ 16384
    · simp only [r4_1, ↓opStep_eq, ↓reduceIte, tg_set, toTm_cons, toTm_nil, fieldPtr_ptr, Nat.add_zero, Nat.zero_add, Nat.reduceAdd, Nat.reduceEqDiff, Int.reduceEq, Int.reduceLT, Int.reduceLE, Int.reduceNe, ↓kO_some, ↓kA_some, ↓kH_some, kO_some, kA_some, kH_some, gd_true, gd_false, nthD_zero, nthD_succ, isB_true, isB_false, isB_undef, pickV_true, pickV_false, binV_add, binV_sub, binV_mul, binV_eql, binV_neq, binV_lss, binV_leq, binV_gtr, binV_geq, unV_not, nt, nf, Bool.false_eq_true, dt, df, decide_true, decide_false, withV_some, aggO_some, ptrTo_eq, ↓aO_some, aO_some, ↓andB_true, andB_true, gz, gs, seqC, retC, skipC, exitC, blockC, condC, cells_agg, Bool.true_or, Bool.false_or, Bool.or_true, Bool.or_false, Bool.true_and, Bool.false_and, Bool.and_true, Bool.and_false, t0, hr.len, h1, h2]
      simp [show 6000 < l.length by omega, show l.length ≤ 16384 by omega]
    · by_cases h3 : (17000 : Int) < (l.length : Int)
      · simp only [r4_1, ↓opStep_eq, ↓reduceIte, tg_set, toTm_cons, toTm_nil, fieldPtr_ptr, Nat.add_zero, Nat.zero_add, Nat.reduceAdd, Nat.reduceEqDiff, Int.reduceEq, Int.reduceLT, Int.reduceLE, Int.reduceNe, ↓kO_some, ↓kA_some, ↓kH_some, kO_some, kA_some, kH_some, gd_true, gd_false, nthD_zero, nthD_succ, isB_true, isB_false, isB_undef, pickV_true, pickV_false, binV_add, binV_sub, binV_mul, binV_eql, binV_neq, binV_lss, binV_leq, binV_gtr, binV_geq, unV_not, nt, nf, Bool.false_eq_true, dt, df, decide_true, decide_false, withV_some, aggO_some, ptrTo_eq, ↓aO_some, aO_some, ↓andB_true, andB_true, gz, gs, seqC, retC, skipC, exitC, blockC, condC, cells_agg, Bool.true_or, Bool.false_or, Bool.or_true, Bool.or_false, Bool.true_and, Bool.false_and, Bool.and_true, Bool.and_false, t0, hr.len, h1, h2, h3]
        simp [show 17000 < l.length by omega]
      · simp only [r4_1, ↓opStep_eq, ↓reduceIte, tg_set, toTm_cons, toTm_nil, fieldPtr_ptr, Nat.add_zero, Nat.zero_add, Nat.reduceAdd, Nat.reduceEqDiff, Int.reduceEq, Int.reduceLT, Int.reduceLE, Int.reduceNe, ↓kO_some, ↓kA_some, ↓kH_some, kO_some, kA_some, kH_some, gd_true, gd_false, nthD_zero, nthD_succ, isB_true, isB_false, isB_undef, pickV_true, pickV_false, binV_add, binV_sub, binV_mul, binV_eql, binV_neq, binV_lss, binV_leq, binV_gtr, binV_geq, unV_not, nt, nf, Bool.false_eq_true, dt, df, decide_true, decide_false, withV_some, aggO_some, ptrTo_eq, ↓aO_some, aO_some, ↓andB_true, andB_true, gz, gs, seqC, retC, skipC, exitC, blockC, condC, cells_agg, Bool.true_or, Bool.false_or, Bool.or_true, Bool.or_false, Bool.true_and, Bool.false_and, Bool.and_true, Bool.and_false, t0, hr.len, h1, h2, h3]
        simp [show ¬ 17000 < l.length by omega, show ¬ l.length ≤ 16384 by omega]
  · by_cases h3 : (17000 : Int) < (l.length : Int)
    · omega
    · simp only [r4_1, ↓opStep_eq, ↓reduceIte, tg_set, toTm_cons, toTm_nil, fieldPtr_ptr, Nat.add_zero, Nat.zero_add, Nat.reduceAdd, Nat.reduceEqDiff, Int.reduceEq, Int.reduceLT, Int.reduceLE, Int.reduceNe, ↓kO_some, ↓kA_some, ↓kH_some, kO_some, kA_some, kH_some, gd_true, gd_false, nthD_zero, nthD_succ, isB_true, isB_false, isB_undef, pickV_true, pickV_false, binV_add, binV_sub, binV_mul, binV_eql, binV_neq, binV_lss, binV_leq, binV_gtr, binV_geq, unV_not, nt, nf, Bool.false_eq_true, dt, df, decide_true, decide_false, withV_some, aggO_some, ptrTo_eq, ↓aO_some, aO_some, ↓andB_true, andB_true, gz, gs, seqC, retC, skipC, exitC, blockC, condC, cells_agg, Bool.true_or, Bool.false_or, Bool.or_true, Bool.or_false, Bool.true_and, Bool.false_and, Bool.and_true, Bool.and_false, t0, hr.len, h1, h3]
      simp [show ¬ 17000 < l.length by omega, show ¬ 6000 < l.length by omega]

/-- THE LAW -/
theorem reads_law (L n : Nat) (v : Value) (l : List UInt8) (h : H) (hr : Rd h v l) (hL : 17000 < L) :
    Sp (CF L (n + 9)) 4 [v] h fun r h' => r = .bool true := by
  refine Sp.body f4 (by simp) ?_
  unfold c4
  refine C.seq fun K hK => hK .norm _ _ (C.seq (C.seq fun K hK => ?_))
  rw [show ∀ x : CodeT, (⟨x⟩ : Box CodeT).f = x from fun _ => rfl]
  rw [reg4_1 hr (by simp only [↓opStep_eq, ↓reduceIte, tg_set, toTm_cons, toTm_nil, fieldPtr_ptr, Nat.add_zero, Nat.zero_add, Nat.reduceAdd, Nat.reduceEqDiff, Int.reduceEq, Int.reduceLT, Int.reduceLE, Int.reduceNe, ↓kO_some, ↓kA_some, ↓kH_some, kO_some, kA_some, kH_some, gd_true, gd_false, nthD_zero, nthD_succ, isB_true, isB_false, isB_undef, pickV_true, pickV_false, binV_add, binV_sub, binV_mul, binV_eql, binV_neq, binV_lss, binV_leq, binV_gtr, binV_geq, unV_not, nt, nf, Bool.false_eq_true, dt, df, decide_true, decide_false, withV_some, aggO_some, ptrTo_eq, ↓aO_some, aO_some, ↓andB_true, andB_true, gz, gs, seqC, retC, skipC, exitC, blockC, condC, cells_agg])]
  refine hK _ _ _ (C.cond (decide (6000 < l.length ∧ l.length ≤ 16384 ∨ 17000 < l.length)) (by simp only [↓opStep_eq, ↓reduceIte, tg_set, toTm_cons, toTm_nil, fieldPtr_ptr, Nat.add_zero, Nat.zero_add, Nat.reduceAdd, Nat.reduceEqDiff, Int.reduceEq, Int.reduceLT, Int.reduceLE, Int.reduceNe, ↓kO_some, ↓kA_some, ↓kH_some, kO_some, kA_some, kH_some, gd_true, gd_false, nthD_zero, nthD_succ, isB_true, isB_false, isB_undef, pickV_true, pickV_false, binV_add, binV_sub, binV_mul, binV_eql, binV_neq, binV_lss, binV_leq, binV_gtr, binV_geq, unV_not, nt, nf, Bool.false_eq_true, dt, df, decide_true, decide_false, withV_some, aggO_some, ptrTo_eq, ↓aO_some, aO_some, ↓andB_true, andB_true, gz, gs, seqC, retC, skipC, exitC, blockC, condC, cells_agg]) (fun g => C.seq fun K hK => hK .norm _ _ (C.ret ⟨.inr rfl, _, rfl, by simp only [↓opStep_eq, ↓reduceIte, tg_set, toTm_cons, toTm_nil, fieldPtr_ptr, Nat.add_zero, Nat.zero_add, Nat.reduceAdd, Nat.reduceEqDiff, Int.reduceEq, Int.reduceLT, Int.reduceLE, Int.reduceNe, ↓kO_some, ↓kA_some, ↓kH_some, kO_some, kA_some, kH_some, gd_true, gd_false, nthD_zero, nthD_succ, isB_true, isB_false, isB_undef, pickV_true, pickV_false, binV_add, binV_sub, binV_mul, binV_eql, binV_neq, binV_lss, binV_leq, binV_gtr, binV_geq, unV_not, nt, nf, Bool.false_eq_true, dt, df, decide_true, decide_false, withV_some, aggO_some, ptrTo_eq, ↓aO_some, aO_some, ↓andB_true, andB_true, gz, gs, seqC, retC, skipC, exitC, blockC, condC, cells_agg, resOf]⟩)) fun g => C.skip ?_)
  have g := of_decide_eq_false g
  have hl : l.length ≤ 17000 := by omega
  refine C.seq fun K hK => hK .norm _ _ (C.seq fun K hK => ?_)
  obtain ⟨w, h1, e1, m1, k1, _⟩ := append_own (h := h) (v := .slice none 0 0) (x := v) (l := []) (m := l) .nil hr.reads.src (by simp; omega)
  rw [List.nil_append] at m1
  have k1' : Keep nobody h h1 := k1.mono fun b _ hb => by simp at hb
  simp only [↓opStep_eq, ↓reduceIte, tg_set, toTm_cons, toTm_nil, fieldPtr_ptr, Nat.add_zero, Nat.zero_add, Nat.reduceAdd, Nat.reduceEqDiff, Int.reduceEq, Int.reduceLT, Int.reduceLE, Int.reduceNe, ↓kO_some, ↓kA_some, ↓kH_some, kO_some, kA_some, kH_some, gd_true, gd_false, nthD_zero, nthD_succ, isB_true, isB_false, isB_undef, pickV_true, pickV_false, binV_add, binV_sub, binV_mul, binV_eql, binV_neq, binV_lss, binV_leq, binV_gtr, binV_geq, unV_not, nt, nf, Bool.false_eq_true, dt, df, decide_true, decide_false, withV_some, aggO_some, ptrTo_eq, ↓aO_some, aO_some, ↓andB_true, andB_true, gz, gs, seqC, retC, skipC, exitC, blockC, condC, cells_agg, r4_4, e1]
  refine hK _ _ _ (C.seq fun K hK => ?_)
  simp only [↓opStep_eq, ↓reduceIte, tg_set, toTm_cons, toTm_nil, fieldPtr_ptr, Nat.add_zero, Nat.zero_add, Nat.reduceAdd, Nat.reduceEqDiff, Int.reduceEq, Int.reduceLT, Int.reduceLE, Int.reduceNe, ↓kO_some, ↓kA_some, ↓kH_some, kO_some, kA_some, kH_some, gd_true, gd_false, nthD_zero, nthD_succ, isB_true, isB_false, isB_undef, pickV_true, pickV_false, binV_add, binV_sub, binV_mul, binV_eql, binV_neq, binV_lss, binV_leq, binV_gtr, binV_geq, unV_not, nt, nf, Bool.false_eq_true, dt, df, decide_true, decide_false, withV_some, aggO_some, ptrTo_eq, ↓aO_some, aO_some, ↓andB_true, andB_true, gz, gs, seqC, retC, skipC, exitC, blockC, condC, cells_agg, r4_5]
  have rw1 := rd_of_mine m1 (by omega)
  refine packed_Read L n w l h1 rw1 (by omega) (by omega) (by omega) _ fun r h2 hv => ?_
  obtain ⟨av1, rfl, k2, g1⟩ := hv
  obtain ⟨iv1, rfl, mi1⟩ := g1.ans
  have s1 := store7_new h2 (cs := (withIv (theA (readR l).1) iv1).cells) rfl (by
    obtain ⟨cs, h1, _, h3⟩ := ans_shape (a := withIv (theA (readR l).1) iv1) mi1.ones
    have : (withIv (theA (readR l).1) iv1).cells = cs := by simpa [Ans.v] using h1
    rw [this]; exact h3)
  have k3 := keep_alloc h2 (.rw Z7) (.rw (withIv (theA (readR l).1) iv1).cells)
  have b4 := has_alloc h2 (.rw Z7) (.rw (withIv (theA (readR l).1) iv1).cells)
  simp only [tupNth_tuple, ↓opStep_eq, ↓reduceIte, tg_set, toTm_cons, toTm_nil, fieldPtr_ptr, Nat.add_zero, Nat.zero_add, Nat.reduceAdd, Nat.reduceEqDiff, Int.reduceEq, Int.reduceLT, Int.reduceLE, Int.reduceNe, ↓kO_some, ↓kA_some, ↓kH_some, kO_some, kA_some, kH_some, gd_true, gd_false, nthD_zero, nthD_succ, isB_true, isB_false, isB_undef, pickV_true, pickV_false, binV_add, binV_sub, binV_mul, binV_eql, binV_neq, binV_lss, binV_leq, binV_gtr, binV_geq, unV_not, nt, nf, Bool.false_eq_true, dt, df, decide_true, decide_false, withV_some, aggO_some, ptrTo_eq, ↓aO_some, aO_some, ↓andB_true, andB_true, gz, gs, seqC, retC, skipC, exitC, blockC, condC, cells_agg, Ans.v, s1]
  generalize (h2.new (.rw Z7)).put h2.next (.rw (withIv (theA (readR l).1) iv1).cells) = h3 at *
  refine hK _ _ _ (C.seq fun K hK => ?_)
  simp only [↓opStep_eq, ↓reduceIte, tg_set, toTm_cons, toTm_nil, fieldPtr_ptr, Nat.add_zero, Nat.zero_add, Nat.reduceAdd, Nat.reduceEqDiff, Int.reduceEq, Int.reduceLT, Int.reduceLE, Int.reduceNe, ↓kO_some, ↓kA_some, ↓kH_some, kO_some, kA_some, kH_some, gd_true, gd_false, nthD_zero, nthD_succ, isB_true, isB_false, isB_undef, pickV_true, pickV_false, binV_add, binV_sub, binV_mul, binV_eql, binV_neq, binV_lss, binV_leq, binV_gtr, binV_geq, unV_not, nt, nf, Bool.false_eq_true, dt, df, decide_true, decide_false, withV_some, aggO_some, ptrTo_eq, ↓aO_some, aO_some, ↓andB_true, andB_true, gz, gs, seqC, retC, skipC, exitC, blockC, condC, cells_agg, r4_6]
  have k13 := (k1'.then k2).then k3
  refine ref_Read L n v l h3 (hr.keep0 k13) (by omega) (by omega) _ fun r h4 hv => ?_
  obtain ⟨av2, rfl, k4, g2⟩ := hv
  obtain ⟨iv2, rfl, mi2⟩ := g2.ans
  have s2 := store7_new h4 (cs := (withIv (theA (readR l).1) iv2).cells) rfl (by
    obtain ⟨cs, h1, _, h3⟩ := ans_shape (a := withIv (theA (readR l).1) iv2) mi2.ones
    have : (withIv (theA (readR l).1) iv2).cells = cs := by simpa [Ans.v] using h1
    rw [this]; exact h3)
  have k5 := keep_alloc h4 (.rw Z7) (.rw (withIv (theA (readR l).1) iv2).cells)
  have b7 := has_alloc h4 (.rw Z7) (.rw (withIv (theA (readR l).1) iv2).cells)
  simp only [tupNth_tuple, ↓opStep_eq, ↓reduceIte, tg_set, toTm_cons, toTm_nil, fieldPtr_ptr, Nat.add_zero, Nat.zero_add, Nat.reduceAdd, Nat.reduceEqDiff, Int.reduceEq, Int.reduceLT, Int.reduceLE, Int.reduceNe, ↓kO_some, ↓kA_some, ↓kH_some, kO_some, kA_some, kH_some, gd_true, gd_false, nthD_zero, nthD_succ, isB_true, isB_false, isB_undef, pickV_true, pickV_false, binV_add, binV_sub, binV_mul, binV_eql, binV_neq, binV_lss, binV_leq, binV_gtr, binV_geq, unV_not, nt, nf, Bool.false_eq_true, dt, df, decide_true, decide_false, withV_some, aggO_some, ptrTo_eq, ↓aO_some, aO_some, ↓andB_true, andB_true, gz, gs, seqC, retC, skipC, exitC, blockC, condC, cells_agg, Ans.v, s2]
  generalize (h4.new (.rw Z7)).put h4.next (.rw (withIv (theA (readR l).1) iv2).cells) = h5 at *
  have b4' := (b4.keep0 k4).keep0 k5
  have i1 := (((mi1.keep0 k3).keep0 k4).keep0 k5).items
  have i2 := (mi2.keep0 k5).items
  have h8 : (theA (readR l).1).r.items.length ≤ 8 := by
    cases hq : (readR l).1 with
    | none => exact Nat.zero_le _
    | some a => exact readR_items hq
  refine hK _ _ _ (C.seq fun K hK => ?_)
  have la1 : loadAgg 7 h5 (.pointer (some ⟨h2.next, 0, none⟩)) = some (withIv (theA (readR l).1) iv1).v := load7 b4' rfl
  have la2 : loadAgg 7 h5 (.pointer (some ⟨h4.next, 0, none⟩)) = some (withIv (theA (readR l).1) iv2).v := load7 b7 rfl
  have hs : ∀ s : ByteArray, binV Try.prog .eql 9 false (.string s) (.string s) = some (.bool true) := fun s => by rw [strV_eql, leB_eq]; simp
  rw [show ∀ x : CodeT, (⟨x⟩ : Box CodeT).f = x from fun _ => rfl]
  unfold r4_7
  try rw [show ∀ x : OpsT, (⟨x⟩ : Box OpsT).f = x from fun _ => rfl]
  refine ops_step (by rfl) ?_
  simp only [tg_set, Nat.reduceEqDiff, reduceIte, la1, kO_some]
  try rw [show ∀ x : OpsT, (⟨x⟩ : Box OpsT).f = x from fun _ => rfl]
  refine ops_step (by rfl) ?_
  simp only [tg_set, Nat.reduceEqDiff, reduceIte, la2, kO_some]
  try rw [show ∀ x : OpsT, (⟨x⟩ : Box OpsT).f = x from fun _ => rfl]
  refine ops_step (by rfl) ?_
  simp only [nthD_zero, nthD_succ, toTm_nil]
  refine ans_same L (n + 6) (theA (readR l).1) iv1 iv2 h5 i1 i2 (by omega) (by omega) _ fun r h6 hv => ?_
  obtain ⟨rfl, k6⟩ := hv
  have kk := (k4.then k5).then k6
  have st1 := (rw1.keep0 ((k2.then k3).then kk)).str
  have st2 := (hr.keep0 (k13.then kk)).str
  simp only [↓opStep_eq, ↓reduceIte, tg_set, toTm_cons, toTm_nil, fieldPtr_ptr, Nat.add_zero, Nat.zero_add, Nat.reduceAdd, Nat.reduceEqDiff, Int.reduceEq, Int.reduceLT, Int.reduceLE, Int.reduceNe, ↓kO_some, ↓kA_some, ↓kH_some, kO_some, kA_some, kH_some, gd_true, gd_false, nthD_zero, nthD_succ, isB_true, isB_false, isB_undef, pickV_true, pickV_false, binV_add, binV_sub, binV_mul, binV_eql, binV_neq, binV_lss, binV_leq, binV_gtr, binV_geq, unV_not, nt, nf, Bool.false_eq_true, dt, df, decide_true, decide_false, withV_some, aggO_some, ptrTo_eq, ↓aO_some, aO_some, ↓andB_true, andB_true, gz, gs, seqC, retC, skipC, exitC, blockC, condC, cells_agg, Bool.true_or, Bool.false_or, Bool.or_true, Bool.or_false, Bool.true_and, Bool.false_and, Bool.and_true, Bool.and_false, st1, st2, hs]
  exact hK _ _ _ (C.ret ⟨.inr rfl, _, rfl, by simp only [↓opStep_eq, ↓reduceIte, tg_set, toTm_cons, toTm_nil, fieldPtr_ptr, Nat.add_zero, Nat.zero_add, Nat.reduceAdd, Nat.reduceEqDiff, Int.reduceEq, Int.reduceLT, Int.reduceLE, Int.reduceNe, ↓kO_some, ↓kA_some, ↓kH_some, kO_some, kA_some, kH_some, gd_true, gd_false, nthD_zero, nthD_succ, isB_true, isB_false, isB_undef, pickV_true, pickV_false, binV_add, binV_sub, binV_mul, binV_eql, binV_neq, binV_lss, binV_leq, binV_gtr, binV_geq, unV_not, nt, nf, Bool.false_eq_true, dt, df, decide_true, decide_false, withV_some, aggO_some, ptrTo_eq, ↓aO_some, aO_some, ↓andB_true, andB_true, gz, gs, seqC, retC, skipC, exitC, blockC, condC, cells_agg]; rfl⟩)
end Go.Proofs.Ytpaolklbogakgaa
namespace Go.Proofs.Ytpaolklbogakgaa
open Go.Ev Go.RowKit

section
variable {H : Type} {enc : TypeId × Value → H}
/-- bytes that lie in memory, as the evaluator has them -/
theorem bytes_in {W : World} {n : Nat} {v : Value} {x : DataW H × List MemPlace} (hok : Value.okWide Try.prog W .any 0 29 v) (h : DataW.trod enc Try.prog W 0 (fun _ => true) true n 29 v.cells.toList = some x) :
    ∃ (v' : Value) (l : List UInt8) (σ : Sg) (h0 : Ev.H), Rd h0 v' l ∧ Rel σ h0 W ∧ VR σ v' v ∧ ∀ B x, h0.objs.get B = some x → x.mut = false := by
  have hok2 : Cell.ok Try.prog W .any 0 29 v := by
    unfold Value.okWide at hok
    rw [u29] at hok
    unfold Cell.okWide at hok
    rw [u29] at hok
    exact hok
  rcases DataW.trod_slice u29 h with ⟨e, _⟩ | ⟨a, len, cap, elems, rest, m', _, e, _, _, hlc, hcm, hlen, hel, _, _⟩
  · have hv : v = .slice none 0 0 := by
      cases v <;> simp [Value.cells] at e
      case slice => simp_all
      case agg => exfalso; unfold Cell.ok at hok2; rw [u29] at hok2; exact hok2
    subst hv
    have hno : ∀ B x, (⟨.e, 0⟩ : Ev.H).objs.get B = some x → False := fun B x hx => by rw [T.get_e] at hx; cases hx
    exact ⟨.slice none 0 0, [], fun _ => none, ⟨.e, 0⟩, .inl ⟨rfl, rfl⟩, ⟨fun _ _ => rfl, (fun B c h => by cases h), fun B x hx => (hno B x hx).elim, fun B x B' x' c c' hx => (hno B x hx).elim⟩, .slNil _ _, fun B x hx => (hno B x hx).elim⟩
  · have hv : v = .slice (some a) len cap := by
      cases v <;> simp [Value.cells] at e
      case slice => simp_all
      case agg => exfalso; unfold Cell.ok at hok2; rw [u29] at hok2; exact hok2
    subst hv
    unfold Cell.ok at hok2
    rw [u29] at hok2
    obtain ⟨_, _, _, hspot, row, cells, hshape, _⟩ := hok2
    have hblk : a.block < W.heap.size := by
      unfold World.shape? at hshape
      split at hshape
      · rename_i c el _ hh
        exact (Array.getElem?_eq_some_iff.1 hh).1
      · cases hshape
    have hone : ∀ i : Fin len, ∃ y : UInt8, W.cells? 0 (a.add (i.val * 1)) 1 = some [bv y] := fun i => by
      have h1 := hel i.val i.isLt
      rw [s5, List.getElem?_eq_getElem (by omega)] at h1
      simp only [Option.bind_eq_some_iff] at h1
      obtain ⟨c5, h2, h3⟩ := h1
      obtain ⟨z, rfl, _, w⟩ := DataW.trod_int u5 h3
      have := bounds_u8 w
      refine ⟨UInt8.ofNat z.toNat, ?_⟩
      have hz : bv (UInt8.ofNat z.toNat) = .int .u8 z := by
        unfold bv
        congr 1
        rw [UInt8.toNat_ofNat_of_lt' (by simp [UInt8.size]; omega)]
        omega
      rw [hz]; exact h2
    obtain ⟨f, hf⟩ := Classical.axiomOfChoice hone
    let l := List.ofFn f
    have hil : l.length = len := by simp [l]
    have hcells : ∀ j v, (l.map bv)[j]? = some v → W.cell? ⟨a.block, a.off + j, none⟩ = some v ∧ cstOk v = true := fun j v hv => by
      rw [List.getElem?_map] at hv
      obtain ⟨y, hy, rfl⟩ := Option.map_eq_some_iff.1 hv
      have hlt : j < len := by
        by_cases hlt : j < len
        · exact hlt
        · rw [List.getElem?_eq_none (by omega)] at hy; cases hy
      have hy' : f ⟨j, hlt⟩ = y := by simpa [l, hlt] using hy
      have h2 := hf ⟨j, hlt⟩
      rw [hy'] at h2
      refine ⟨?_, rfl⟩
      have h3 := (World.cells?_some h2).2.2 0 (by omega)
      have e0 : [bv y][0]? = some (bv y) := rfl
      rw [e0] at h3
      rw [← h3]
      obtain ⟨ab, ao, asp⟩ := a
      simp only at hspot
      subst hspot
      simp only [Addr.add, Nat.mul_one]
      by_cases e1 : j = 0
      · simp [e1]
      · simp [e1]
    have hcO : cap < OPEN := by have := hcm; unfold maxLen at this; unfold OPEN; omega
    have hV : VR (oneσ ⟨a.block, a.off, 1 * len, 1⟩) (.slice (some ⟨0, 0, none⟩) len cap) (.slice (some a) len cap) := by
      have := VR.sl (σ := oneσ ⟨a.block, a.off, 1 * len, 1⟩) 0 0 len cap ⟨a.block, a.off, 1 * len, 1⟩ rfl hcO
      obtain ⟨ab, ao, asp⟩ := a
      simp only at hspot
      subst hspot
      exact this
    have hble : Nat.ble OPEN cap = false := by
      rw [Bool.eq_false_iff]; intro e; have := Nat.le_of_ble_eq_true e; omega
    exact ⟨.slice (some ⟨0, 0, none⟩) len cap, l, oneσ ⟨a.block, a.off, 1 * len, 1⟩, oneH (l.map bv), .inr ⟨0, 0, cap, _, _, by rw [hil], one_has _, rfl, by simp, by rw [List.drop_zero, List.take_of_length_le (by simp)], .inr ⟨hble, by omega⟩⟩, one_rel hblk hcells, hV, one_ro⟩

/-- the walk -/
theorem packedReads_walk {W : World} {n : Nat} {v : Value} {x : DataW H × List MemPlace} (hok : Value.okWide Try.prog W .any 0 29 v) (h : DataW.trod enc Try.prog W 0 (fun _ => true) true n 29 v.cells.toList = some x) :
    Calls Try.prog 4 #[v] W fun e W' => e = .returned (.bool true) ∧ Below W.heap.size W W' := by
  obtain ⟨v', l, σ, h0, hr, r, hv, hro⟩ := bytes_in hok h
  exact calls_of_sp gor Try.checked.mixed xok Try.func4 (by kernel_rfl) (reads_law 20000 0 v' l h0 hr (by decide)) r (fun g hg => absurd hg (Nat.not_lt_zero _)) (.cons hv (.nil _)) hro
end
end Go.Proofs.Ytpaolklbogakgaa
