import Derived.Test.YtpaolklbogakgaaPkC
set_option linter.unusedSimpArgs false
set_option linter.unusedVariables false
namespace Go.Proofs.Ytpaolklbogakgaa
open Go.Ev

/-! the data -/
structure Itm where
  key : ByteArray
  val : ByteArray
  flags : Int
  till : Int
  uniq : Int
structure Itm.ok (x : Itm) : Prop where
  flags : 0 ≤ x.flags ∧ x.flags < 4294967296
  till : -9223372036854775808 ≤ x.till ∧ x.till ≤ 9223372036854775807
  uniq : 0 ≤ x.uniq ∧ x.uniq < 18446744073709551616
def Itm.cells (x : Itm) : List Value := [.string x.key, .string x.val, .int .u32 x.flags, .int .i64 x.till, .int .u64 x.uniq]
def Itm.v (x : Itm) : Value := .agg x.cells.toArray

def countsB (c : Int) : Bool := decide (c = 6) || decide (c = 7) || decide (c = 10)
def momentB (t : Int) : Bool := decide (0 ≤ t) && decide (t ≤ 1099511627776)
def Itm.long (x : Itm) : Bool := decide ((x.key.size : Int) < 1) || decide (32 < (x.key.size : Int)) || decide (512 < (x.val.size : Int))
def Itm.err (x : Itm) : Int := if x.long then 3 else if momentB x.till then 0 else 2

theorem words_counts (L n : Nat) (c : Int) (h : H) : Sp (CF L (n + 1)) 42 [.int .u8 c] h fun v h' => v = .bool (countsB c) ∧ h' = h := by
  refine Sp.body f42 (by simp) fun K hK => ?_
  by_cases h1 : c = 6 <;> by_cases h2 : c = 7 <;> by_cases h3 : c = 10 <;>
    simp [c42, seqC, retC, r42_0, r42_1, ↓opStep_eq, h1, h2, h3] <;> exact hK _ _ _ ⟨.inr rfl, _, rfl, by simp [resOf, countsB, h1, h2, h3], rfl⟩
theorem ref_counts (L n : Nat) (c : Int) (h : H) : Sp (CF L (n + 1)) 32 [.int .u8 c] h fun v h' => v = .bool (countsB c) ∧ h' = h := by
  refine Sp.body f32 (by simp) fun K hK => ?_
  by_cases h1 : c = 6 <;> by_cases h2 : c = 7 <;> by_cases h3 : c = 10 <;>
    simp [c32, seqC, retC, r32_0, r32_1, ↓opStep_eq, h1, h2, h3] <;> exact hK _ _ _ ⟨.inr rfl, _, rfl, by simp [resOf, countsB, h1, h2, h3], rfl⟩
theorem item_moment (L n : Nat) (c : Int) (h : H) : Sp (CF L (n + 1)) 52 [.int .i64 c] h fun v h' => v = .bool (momentB c) ∧ h' = h := by
  refine Sp.body f52 (by simp) fun K hK => ?_
  by_cases h1 : 0 ≤ c <;> by_cases h2 : c ≤ 1099511627776 <;>
    simp [c52, seqC, retC, r52_0, r52_1, h1, h2] <;> exact hK _ _ _ ⟨.inr rfl, _, rfl, by simp [resOf, momentB, h1, h2], rfl⟩
theorem ref_moment (L n : Nat) (c : Int) (h : H) : Sp (CF L (n + 1)) 46 [.int .i64 c] h fun v h' => v = .bool (momentB c) ∧ h' = h := by
  refine Sp.body f46 (by simp) fun K hK => ?_
  by_cases h1 : 0 ≤ c <;> by_cases h2 : c ≤ 1099511627776 <;>
    simp [c46, seqC, retC, r46_0, r46_1, h1, h2] <;> exact hK _ _ _ ⟨.inr rfl, _, rfl, by simp [resOf, momentB, h1, h2], rfl⟩

theorem item_check (L n : Nat) (x : Itm) (h : H) : Sp (CF L (n + 2)) 45 [x.v] h fun v h' => v = .int .i64 x.err ∧ Keep nobody h h' := by
  refine Sp.body f45 (by simp) fun K hK => ?_
  have hk := Keep.new h (.rw [.string x.key, .string x.val, .int .u32 x.flags, .int .i64 x.till, .int .u64 x.uniq])
  have hs := lenStr_string x.key
  have hv := lenStr_string x.val
  have he : x.err = if (decide ((x.key.size : Int) < 1) || decide (32 < (x.key.size : Int)) || decide (512 < (x.val.size : Int))) = true then 3 else if momentB x.till then 0 else 2 := rfl
  generalize (x.key.size : Int) = ks at hs he
  generalize (x.val.size : Int) = vs at hv he
  by_cases h1 : ks < 1
  · simp [c45, seqC, retC, skipC, blockC, condC, Itm.v, r45_0, r45_1, r45_2, r45_3, r45_4, r45_5, r45_6, r45_7, Itm.cells, -lenStr_string, hs, hv, h1]
    exact hK _ _ _ ⟨.inr rfl, _, rfl, by simp [resOf, he, h1], hk⟩
  by_cases h2 : 32 < ks
  · simp [c45, seqC, retC, skipC, blockC, condC, Itm.v, r45_0, r45_1, r45_2, r45_3, r45_4, r45_5, r45_6, r45_7, Itm.cells, -lenStr_string, hs, hv, h1, h2]
    exact hK _ _ _ ⟨.inr rfl, _, rfl, by simp [resOf, he, h1, h2], hk⟩
  by_cases h3 : 512 < vs
  · simp [c45, seqC, retC, skipC, blockC, condC, Itm.v, r45_0, r45_1, r45_2, r45_3, r45_4, r45_5, r45_6, r45_7, Itm.cells, -lenStr_string, hs, hv, h1, h2, h3]
    exact hK _ _ _ ⟨.inr rfl, _, rfl, by simp [resOf, he, h1, h2, h3], hk⟩
  simp [c45, seqC, retC, skipC, blockC, condC, Itm.v, r45_0, r45_1, r45_2, r45_3, r45_4, r45_5, r45_6, r45_7, Itm.cells, -lenStr_string, hs, hv, h1, h2, h3]
  refine item_moment L n _ _ _ fun v h' hv => ?_
  obtain ⟨rfl, rfl⟩ := hv
  cases hm : momentB x.till <;> simp
  · exact hK _ _ _ ⟨.inr rfl, _, rfl, by simp [resOf, he, h1, h2, h3, hm], hk⟩
  · exact hK _ _ _ ⟨.inr rfl, _, rfl, by simp [resOf, he, h1, h2, h3, hm], hk⟩

theorem reg33_1 {call : CallT} {L : Nat} {tm : T Value} {h : H} {b : Nat} {K : KE} {k v : Value} {r : List Value} {ks vs : Int} (hl : ∀ o s, loadOne h (.pointer (some ⟨b, o, s⟩)) = (k :: v :: r)[o]?)
   (t1 : tg tm 1 = .pointer (some ⟨b, 0, none⟩)) (hs : lenStr k = some (.int .i64 ks)) (hv : lenStr v = some (.int .i64 vs)) :
    r33_1 call L tm [] h K = K .norm (T.set tm 18 (.bool (decide (ks < 1) || decide (32 < ks) || decide (512 < vs)))) [] h := by
  by_cases h1 : ks < 1
  · simp only [r33_1, ↓opStep_eq, ↓reduceIte, tg_set, toTm_cons, toTm_nil, fieldPtr_ptr, Nat.add_zero, Nat.zero_add, Nat.reduceAdd, Nat.reduceEqDiff, Int.reduceEq, Int.reduceLT, Int.reduceLE, Int.reduceNe, ↓kO_some, ↓kA_some, ↓kH_some, kO_some, kA_some, kH_some, gd_true, gd_false, nthD_zero, nthD_succ, isB_true, isB_false, isB_undef, pickV_true, pickV_false, binV_add, binV_sub, binV_mul, binV_eql, binV_neq, binV_lss, binV_leq, binV_gtr, binV_geq, unV_not, nt, nf, Bool.false_eq_true, dt, df, decide_true, decide_false, withV_some, aggO_some, ptrTo_eq, ↓aO_some, aO_some, ↓andB_true, andB_true, gz, gs, seqC, retC, skipC, exitC, blockC, condC, cells_agg, t1, hl, hs, h1, Bool.true_or]
  by_cases h2 : 32 < ks
  · simp only [r33_1, ↓opStep_eq, ↓reduceIte, tg_set, toTm_cons, toTm_nil, fieldPtr_ptr, Nat.add_zero, Nat.zero_add, Nat.reduceAdd, Nat.reduceEqDiff, Int.reduceEq, Int.reduceLT, Int.reduceLE, Int.reduceNe, ↓kO_some, ↓kA_some, ↓kH_some, kO_some, kA_some, kH_some, gd_true, gd_false, nthD_zero, nthD_succ, isB_true, isB_false, isB_undef, pickV_true, pickV_false, binV_add, binV_sub, binV_mul, binV_eql, binV_neq, binV_lss, binV_leq, binV_gtr, binV_geq, unV_not, nt, nf, Bool.false_eq_true, dt, df, decide_true, decide_false, withV_some, aggO_some, ptrTo_eq, ↓aO_some, aO_some, ↓andB_true, andB_true, gz, gs, seqC, retC, skipC, exitC, blockC, condC, cells_agg, t1, hl, hs, h1, h2, Bool.true_or, Bool.false_or]
  by_cases h3 : 512 < vs
  · simp only [r33_1, ↓opStep_eq, ↓reduceIte, tg_set, toTm_cons, toTm_nil, fieldPtr_ptr, Nat.add_zero, Nat.zero_add, Nat.reduceAdd, Nat.reduceEqDiff, Int.reduceEq, Int.reduceLT, Int.reduceLE, Int.reduceNe, ↓kO_some, ↓kA_some, ↓kH_some, kO_some, kA_some, kH_some, gd_true, gd_false, nthD_zero, nthD_succ, isB_true, isB_false, isB_undef, pickV_true, pickV_false, binV_add, binV_sub, binV_mul, binV_eql, binV_neq, binV_lss, binV_leq, binV_gtr, binV_geq, unV_not, nt, nf, Bool.false_eq_true, dt, df, decide_true, decide_false, withV_some, aggO_some, ptrTo_eq, ↓aO_some, aO_some, ↓andB_true, andB_true, gz, gs, seqC, retC, skipC, exitC, blockC, condC, cells_agg, t1, hl, hs, hv, h1, h2, h3, Bool.true_or, Bool.false_or]
  · simp only [r33_1, ↓opStep_eq, ↓reduceIte, tg_set, toTm_cons, toTm_nil, fieldPtr_ptr, Nat.add_zero, Nat.zero_add, Nat.reduceAdd, Nat.reduceEqDiff, Int.reduceEq, Int.reduceLT, Int.reduceLE, Int.reduceNe, ↓kO_some, ↓kA_some, ↓kH_some, kO_some, kA_some, kH_some, gd_true, gd_false, nthD_zero, nthD_succ, isB_true, isB_false, isB_undef, pickV_true, pickV_false, binV_add, binV_sub, binV_mul, binV_eql, binV_neq, binV_lss, binV_leq, binV_gtr, binV_geq, unV_not, nt, nf, Bool.false_eq_true, dt, df, decide_true, decide_false, withV_some, aggO_some, ptrTo_eq, ↓aO_some, aO_some, ↓andB_true, andB_true, gz, gs, seqC, retC, skipC, exitC, blockC, condC, cells_agg, t1, hl, hs, hv, h1, h2, h3, Bool.true_or, Bool.false_or]

theorem ref_check (L n : Nat) (x : Itm) (h : H) : Sp (CF L (n + 2)) 33 [x.v] h fun v h' => v = .int .i64 x.err ∧ Keep nobody h h' := by
  refine Sp.body f33 (by simp) fun K hK => ?_
  have hk := Keep.new h (.rw x.cells)
  have hl : ∀ o s, loadOne (h.new (.rw x.cells)) (.pointer (some ⟨h.next, o, s⟩)) = [Value.string x.key, .string x.val, .int .u32 x.flags, .int .i64 x.till, .int .u64 x.uniq][o]? := fun o s => loadOne_has (Has.new h (.rw x.cells)) rfl
  have hc : (Value.cells x.v).toList = x.cells := rfl
  generalize hh : h.new (.rw x.cells) = h1 at *
  simp only [c33, r33_0, ↓opStep_eq, ↓reduceIte, tg_set, toTm_cons, toTm_nil, fieldPtr_ptr, Nat.add_zero, Nat.zero_add, Nat.reduceAdd, Nat.reduceEqDiff, Int.reduceEq, Int.reduceLT, Int.reduceLE, Int.reduceNe, ↓kO_some, ↓kA_some, ↓kH_some, kO_some, kA_some, kH_some, gd_true, gd_false, nthD_zero, nthD_succ, isB_true, isB_false, isB_undef, pickV_true, pickV_false, binV_add, binV_sub, binV_mul, binV_eql, binV_neq, binV_lss, binV_leq, binV_gtr, binV_geq, unV_not, nt, nf, Bool.false_eq_true, dt, df, decide_true, decide_false, withV_some, aggO_some, ptrTo_eq, ↓aO_some, aO_some, ↓andB_true, andB_true, gz, gs, seqC, retC, skipC, exitC, blockC, condC, cells_agg, hc, hh]
  rw [reg33_1 hl (by simp only [↓opStep_eq, ↓reduceIte, tg_set, toTm_cons, toTm_nil, fieldPtr_ptr, Nat.add_zero, Nat.zero_add, Nat.reduceAdd, Nat.reduceEqDiff, Int.reduceEq, Int.reduceLT, Int.reduceLE, Int.reduceNe, ↓kO_some, ↓kA_some, ↓kH_some, kO_some, kA_some, kH_some, gd_true, gd_false, nthD_zero, nthD_succ, isB_true, isB_false, isB_undef, pickV_true, pickV_false, binV_add, binV_sub, binV_mul, binV_eql, binV_neq, binV_lss, binV_leq, binV_gtr, binV_geq, unV_not, nt, nf, Bool.false_eq_true, dt, df, decide_true, decide_false, withV_some, aggO_some, ptrTo_eq, ↓aO_some, aO_some, ↓andB_true, andB_true, gz, gs, seqC, retC, skipC, exitC, blockC, condC, cells_agg]) (lenStr_string _) (lenStr_string _)]
  have hlong : (decide ((x.key.size : Int) < 1) || decide (32 < (x.key.size : Int)) || decide (512 < (x.val.size : Int))) = x.long := rfl
  rw [hlong]
  cases hx : x.long
  · simp only [r33_3, ↓opStep_eq, ↓reduceIte, tg_set, toTm_cons, toTm_nil, fieldPtr_ptr, Nat.add_zero, Nat.zero_add, Nat.reduceAdd, Nat.reduceEqDiff, Int.reduceEq, Int.reduceLT, Int.reduceLE, Int.reduceNe, ↓kO_some, ↓kA_some, ↓kH_some, kO_some, kA_some, kH_some, gd_true, gd_false, nthD_zero, nthD_succ, isB_true, isB_false, isB_undef, pickV_true, pickV_false, binV_add, binV_sub, binV_mul, binV_eql, binV_neq, binV_lss, binV_leq, binV_gtr, binV_geq, unV_not, nt, nf, Bool.false_eq_true, dt, df, decide_true, decide_false, withV_some, aggO_some, ptrTo_eq, ↓aO_some, aO_some, ↓andB_true, andB_true, gz, gs, seqC, retC, skipC, exitC, blockC, condC, cells_agg, hl]
    refine ref_moment L n _ _ _ fun v h' hv => ?_
    obtain ⟨rfl, rfl⟩ := hv
    cases hm : momentB x.till
    · simp only [r33_4, ↓opStep_eq, ↓reduceIte, tg_set, toTm_cons, toTm_nil, fieldPtr_ptr, Nat.add_zero, Nat.zero_add, Nat.reduceAdd, Nat.reduceEqDiff, Int.reduceEq, Int.reduceLT, Int.reduceLE, Int.reduceNe, ↓kO_some, ↓kA_some, ↓kH_some, kO_some, kA_some, kH_some, gd_true, gd_false, nthD_zero, nthD_succ, isB_true, isB_false, isB_undef, pickV_true, pickV_false, binV_add, binV_sub, binV_mul, binV_eql, binV_neq, binV_lss, binV_leq, binV_gtr, binV_geq, unV_not, nt, nf, Bool.false_eq_true, dt, df, decide_true, decide_false, withV_some, aggO_some, ptrTo_eq, ↓aO_some, aO_some, ↓andB_true, andB_true, gz, gs, seqC, retC, skipC, exitC, blockC, condC, cells_agg]
      exact hK _ _ _ ⟨.inr rfl, _, rfl, by simp [resOf, Itm.err, hx, hm], hk⟩
    · simp only [r33_5, ↓opStep_eq, ↓reduceIte, tg_set, toTm_cons, toTm_nil, fieldPtr_ptr, Nat.add_zero, Nat.zero_add, Nat.reduceAdd, Nat.reduceEqDiff, Int.reduceEq, Int.reduceLT, Int.reduceLE, Int.reduceNe, ↓kO_some, ↓kA_some, ↓kH_some, kO_some, kA_some, kH_some, gd_true, gd_false, nthD_zero, nthD_succ, isB_true, isB_false, isB_undef, pickV_true, pickV_false, binV_add, binV_sub, binV_mul, binV_eql, binV_neq, binV_lss, binV_leq, binV_gtr, binV_geq, unV_not, nt, nf, Bool.false_eq_true, dt, df, decide_true, decide_false, withV_some, aggO_some, ptrTo_eq, ↓aO_some, aO_some, ↓andB_true, andB_true, gz, gs, seqC, retC, skipC, exitC, blockC, condC, cells_agg]
      exact hK _ _ _ ⟨.inr rfl, _, rfl, by simp [resOf, Itm.err, hx, hm], hk⟩
  · simp only [r33_2, ↓opStep_eq, ↓reduceIte, tg_set, toTm_cons, toTm_nil, fieldPtr_ptr, Nat.add_zero, Nat.zero_add, Nat.reduceAdd, Nat.reduceEqDiff, Int.reduceEq, Int.reduceLT, Int.reduceLE, Int.reduceNe, ↓kO_some, ↓kA_some, ↓kH_some, kO_some, kA_some, kH_some, gd_true, gd_false, nthD_zero, nthD_succ, isB_true, isB_false, isB_undef, pickV_true, pickV_false, binV_add, binV_sub, binV_mul, binV_eql, binV_neq, binV_lss, binV_leq, binV_gtr, binV_geq, unV_not, nt, nf, Bool.false_eq_true, dt, df, decide_true, decide_false, withV_some, aggO_some, ptrTo_eq, ↓aO_some, aO_some, ↓andB_true, andB_true, gz, gs, seqC, retC, skipC, exitC, blockC, condC, cells_agg]
    exact hK _ _ _ ⟨.inr rfl, _, rfl, by simp [resOf, Itm.err, hx], hk⟩

theorem words_result1 (L n : Nat) (x : Itm) (h : H) : Sp (CF L (n + 3)) 44 [x.v] h fun v h' => v = .bool (!decide (x.err = 0)) ∧ Keep nobody h h' := by
  refine Sp.body f44 (by simp) fun K hK => ?_
  have hk := Keep.new h (.rw x.cells)
  simp [c44, seqC, retC, r44_0, r44_1, Itm.v, loadAgg_new _ x.cells 5 _ rfl]
  refine item_check L n x _ _ fun v h' hv => ?_
  obtain ⟨rfl, h2⟩ := hv
  simp
  exact hK _ _ _ ⟨.inr rfl, _, rfl, rfl, hk.then h2⟩
end Go.Proofs.Ytpaolklbogakgaa
