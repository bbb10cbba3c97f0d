import Derived.Test.YtpaolklbogakgaaPkN
set_option linter.unusedSimpArgs false
set_option linter.unusedVariables false
namespace Go.Proofs.Ytpaolklbogakgaa
open Go.Ev

/-- a slice that has been made since -/
structure Acc (h1 hx : H) (w : Value) (l : List UInt8) : Prop where
  m : Mine hx w l
  k : Keep nobody h1 hx
  f : ∀ b, blk w b → h1.next ≤ b
theorem Acc.lit {h1 hx : H} {w : Value} {l bs : List UInt8} (a : Acc h1 hx w l) (hsz : l.length + bs.length ≤ 100000000) : ∃ w' h', appendV 1 1 (hx.new (.rw (bs.map bv))) w (.slice (some ⟨hx.next, 0, none⟩) bs.length bs.length) = some (w', h') ∧ Acc h1 h' w' (l ++ bs) := by
  obtain ⟨w', h', e1, e2, e3, e4⟩ := app_lit (bs := bs) a.m (by omega)
  exact ⟨w', h', e1, ⟨e2, a.k.trans e3 fun b hb hs => absurd (a.f b hs) (by omega), fun b hb => (e4 b hb).elim (a.f b) fun h => Nat.le_trans a.k.next h⟩⟩

section
variable {L n : Nat} {tm : T Value} {h1 hx : H} {w : Value} {l : List UInt8} {b5 : Nat} {x : Itm}
end
end Go.Proofs.Ytpaolklbogakgaa

namespace Go.Proofs.Ytpaolklbogakgaa
open Go.Ev

end Go.Proofs.Ytpaolklbogakgaa

namespace Go.Proofs.Ytpaolklbogakgaa
open Go.Ev

theorem reg8_1 {call : CallT} {L : Nat} {tm : T Value} {h : H} {b : Nat} {K : KE} {a : Ans} (hl : ∀ o s, loadOne h (.pointer (some ⟨b, o, s⟩)) = a.cells[o]?) (t1 : tg tm 1 = .pointer (some ⟨b, 0, none⟩)) {ks len : Int} (hs : lenStr (.string a.key) = some (.int .i64 ks)) (hn : lenSl a.r.iv = some (.int .i64 len)) :
    r8_1 call L tm [] h K = K .norm (T.set tm 14 (.bool (decide (1000 < ks) || decide (40 < len)))) [] h := by
  by_cases h1 : 1000 < ks
  · simp only [r8_1, ↓opStep_eq, ↓reduceIte, tg_set, toTm_cons, toTm_nil, fieldPtr_ptr, Nat.add_zero, Nat.zero_add, Nat.reduceAdd, Nat.reduceEqDiff, Int.reduceEq, Int.reduceLT, Int.reduceLE, Int.reduceNe, ↓kO_some, ↓kA_some, ↓kH_some, kO_some, kA_some, kH_some, gd_true, gd_false, nthD_zero, nthD_succ, isB_true, isB_false, isB_undef, pickV_true, pickV_false, binV_add, binV_sub, binV_mul, binV_eql, binV_neq, binV_lss, binV_leq, binV_gtr, binV_geq, unV_not, nt, nf, Bool.false_eq_true, dt, df, decide_true, decide_false, withV_some, aggO_some, ptrTo_eq, ↓aO_some, aO_some, ↓andB_true, andB_true, gz, gs, seqC, retC, skipC, exitC, blockC, condC, cells_agg, Bool.true_or, Bool.false_or, Bool.or_true, Bool.or_false, Bool.true_and, Bool.false_and, Bool.and_true, Bool.and_false, t1, hl, Ans.cells, hs, hn, h1]
  · by_cases h2 : 40 < len <;> simp only [r8_1, ↓opStep_eq, ↓reduceIte, tg_set, toTm_cons, toTm_nil, fieldPtr_ptr, Nat.add_zero, Nat.zero_add, Nat.reduceAdd, Nat.reduceEqDiff, Int.reduceEq, Int.reduceLT, Int.reduceLE, Int.reduceNe, ↓kO_some, ↓kA_some, ↓kH_some, kO_some, kA_some, kH_some, gd_true, gd_false, nthD_zero, nthD_succ, isB_true, isB_false, isB_undef, pickV_true, pickV_false, binV_add, binV_sub, binV_mul, binV_eql, binV_neq, binV_lss, binV_leq, binV_gtr, binV_geq, unV_not, nt, nf, Bool.false_eq_true, dt, df, decide_true, decide_false, withV_some, aggO_some, ptrTo_eq, ↓aO_some, aO_some, ↓andB_true, andB_true, gz, gs, seqC, retC, skipC, exitC, blockC, condC, cells_agg, Bool.true_or, Bool.false_or, Bool.or_true, Bool.or_false, Bool.true_and, Bool.false_and, Bool.and_true, Bool.and_false, t1, hl, Ans.cells, hs, hn, h1, h2]

theorem reg8_6 {call : CallT} {L : Nat} {tm : T Value} {h : H} {b b2 o2 : Nat} {K : KE} {a : Ans} {x : Itm} {i : Int} (hl : ∀ o s, loadOne h (.pointer (some ⟨b, o, s⟩)) = a.cells[o]?) (t1 : tg tm 1 = .pointer (some ⟨b, 0, none⟩)) (t3 : tg tm 3 = .int .i64 i)
    (he : indexSl 5 a.r.iv (.int .i64 i) = some (.pointer (some ⟨b2, o2, none⟩))) (hx0 : ∀ s, loadOne h (.pointer (some ⟨b2, o2, s⟩)) = some (.string x.key)) (hx1 : ∀ s, loadOne h (.pointer (some ⟨b2, o2 + 1, s⟩)) = some (.string x.val)) {ks vs : Int} (hs : lenStr (.string x.key) = some (.int .i64 ks)) (hv : lenStr (.string x.val) = some (.int .i64 vs)) :
    r8_6 call L tm [] h K = K .norm (T.set tm 42 (.bool (decide (1000 < ks) || decide (1000 < vs)))) [] h := by
  by_cases h1 : 1000 < ks
  · simp only [r8_6, ↓opStep_eq, ↓reduceIte, tg_set, toTm_cons, toTm_nil, fieldPtr_ptr, Nat.add_zero, Nat.zero_add, Nat.reduceAdd, Nat.reduceEqDiff, Int.reduceEq, Int.reduceLT, Int.reduceLE, Int.reduceNe, ↓kO_some, ↓kA_some, ↓kH_some, kO_some, kA_some, kH_some, gd_true, gd_false, nthD_zero, nthD_succ, isB_true, isB_false, isB_undef, pickV_true, pickV_false, binV_add, binV_sub, binV_mul, binV_eql, binV_neq, binV_lss, binV_leq, binV_gtr, binV_geq, unV_not, nt, nf, Bool.false_eq_true, dt, df, decide_true, decide_false, withV_some, aggO_some, ptrTo_eq, ↓aO_some, aO_some, ↓andB_true, andB_true, gz, gs, seqC, retC, skipC, exitC, blockC, condC, cells_agg, Bool.true_or, Bool.false_or, Bool.or_true, Bool.or_false, Bool.true_and, Bool.false_and, Bool.and_true, Bool.and_false, t1, t3, hl, Ans.cells, he, hx0, hx1, hs, hv, h1]
  · by_cases h2 : 1000 < vs <;> simp only [r8_6, ↓opStep_eq, ↓reduceIte, tg_set, toTm_cons, toTm_nil, fieldPtr_ptr, Nat.add_zero, Nat.zero_add, Nat.reduceAdd, Nat.reduceEqDiff, Int.reduceEq, Int.reduceLT, Int.reduceLE, Int.reduceNe, ↓kO_some, ↓kA_some, ↓kH_some, kO_some, kA_some, kH_some, gd_true, gd_false, nthD_zero, nthD_succ, isB_true, isB_false, isB_undef, pickV_true, pickV_false, binV_add, binV_sub, binV_mul, binV_eql, binV_neq, binV_lss, binV_leq, binV_gtr, binV_geq, unV_not, nt, nf, Bool.false_eq_true, dt, df, decide_true, decide_false, withV_some, aggO_some, ptrTo_eq, ↓aO_some, aO_some, ↓andB_true, andB_true, gz, gs, seqC, retC, skipC, exitC, blockC, condC, cells_agg, Bool.true_or, Bool.false_or, Bool.or_true, Bool.or_false, Bool.true_and, Bool.false_and, Bool.and_true, Bool.and_false, t1, t3, hl, Ans.cells, he, hx0, hx1, hs, hv, h1, h2]

theorem ref_long (L n : Nat) (a : Ans) (h : H) (hi : ItemsAt h a.r.iv a.r.items) (hL : 100 < L) :
    Sp (CF L (n + 1)) 8 [a.v] h fun v h' => ∃ c : Bool, v = .bool c ∧ (c = false → a.r.items.length ≤ 40) ∧ Keep nobody h h' := by
  refine Sp.body f8 (by simp) ?_
  have hc : (Value.cells a.v).toList = a.cells := rfl
  have k1 := Keep.new h (.rw a.cells)
  have b1 := Has.new h (.rw a.cells)
  generalize hh : h.new (.rw a.cells) = h1 at *
  have hl : ∀ o s, loadOne h1 (.pointer (some ⟨h.next, o, s⟩)) = a.cells[o]? := fun o s => loadOne_has b1 rfl
  have hl' : ∀ o s, loadOne h1 (.pointer (some ⟨h.next, o, s⟩)) = [Value.int .u8 a.kind, .int .u8 a.of, .int .u8 a.r.kind, a.r.iv, .int .u64 a.r.num, .bool a.yes, .string a.key][o]? := hl
  have hlen := hi.len
  unfold c8
  refine C.seq fun K hK => ?_
  simp only [↓opStep_eq, ↓reduceIte, tg_set, toTm_cons, toTm_nil, fieldPtr_ptr, Nat.add_zero, Nat.zero_add, Nat.reduceAdd, Nat.reduceEqDiff, Int.reduceEq, Int.reduceLT, Int.reduceLE, Int.reduceNe, ↓kO_some, ↓kA_some, ↓kH_some, kO_some, kA_some, kH_some, gd_true, gd_false, nthD_zero, nthD_succ, isB_true, isB_false, isB_undef, pickV_true, pickV_false, binV_add, binV_sub, binV_mul, binV_eql, binV_neq, binV_lss, binV_leq, binV_gtr, binV_geq, unV_not, nt, nf, Bool.false_eq_true, dt, df, decide_true, decide_false, withV_some, aggO_some, ptrTo_eq, ↓aO_some, aO_some, ↓andB_true, andB_true, gz, gs, seqC, retC, skipC, exitC, blockC, condC, cells_agg, r8_0, hc, hh]
  refine hK _ _ _ (C.seq (C.seq fun K hK => ?_))
  rw [show ∀ x : CodeT, (⟨x⟩ : Box CodeT).f = x from fun _ => rfl]
  rw [reg8_1 hl (by simp only [↓opStep_eq, ↓reduceIte, tg_set, toTm_cons, toTm_nil, fieldPtr_ptr, Nat.add_zero, Nat.zero_add, Nat.reduceAdd, Nat.reduceEqDiff, Int.reduceEq, Int.reduceLT, Int.reduceLE, Int.reduceNe, ↓kO_some, ↓kA_some, ↓kH_some, kO_some, kA_some, kH_some, gd_true, gd_false, nthD_zero, nthD_succ, isB_true, isB_false, isB_undef, pickV_true, pickV_false, binV_add, binV_sub, binV_mul, binV_eql, binV_neq, binV_lss, binV_leq, binV_gtr, binV_geq, unV_not, nt, nf, Bool.false_eq_true, dt, df, decide_true, decide_false, withV_some, aggO_some, ptrTo_eq, ↓aO_some, aO_some, ↓andB_true, andB_true, gz, gs, seqC, retC, skipC, exitC, blockC, condC, cells_agg]) (lenStr_string _) hlen]
  refine hK _ _ _ (C.cond (decide (1000 < (a.key.size : Int)) || decide (40 < (a.r.items.length : Int))) (by simp only [↓opStep_eq, ↓reduceIte, tg_set, toTm_cons, toTm_nil, fieldPtr_ptr, Nat.add_zero, Nat.zero_add, Nat.reduceAdd, Nat.reduceEqDiff, Int.reduceEq, Int.reduceLT, Int.reduceLE, Int.reduceNe, ↓kO_some, ↓kA_some, ↓kH_some, kO_some, kA_some, kH_some, gd_true, gd_false, nthD_zero, nthD_succ, isB_true, isB_false, isB_undef, pickV_true, pickV_false, binV_add, binV_sub, binV_mul, binV_eql, binV_neq, binV_lss, binV_leq, binV_gtr, binV_geq, unV_not, nt, nf, Bool.false_eq_true, dt, df, decide_true, decide_false, withV_some, aggO_some, ptrTo_eq, ↓aO_some, aO_some, ↓andB_true, andB_true, gz, gs, seqC, retC, skipC, exitC, blockC, condC, cells_agg]) (fun g => C.seq fun K hK => hK .norm _ _ (C.ret ⟨.inr rfl, _, rfl, true, by simp only [↓opStep_eq, ↓reduceIte, tg_set, toTm_cons, toTm_nil, fieldPtr_ptr, Nat.add_zero, Nat.zero_add, Nat.reduceAdd, Nat.reduceEqDiff, Int.reduceEq, Int.reduceLT, Int.reduceLE, Int.reduceNe, ↓kO_some, ↓kA_some, ↓kH_some, kO_some, kA_some, kH_some, gd_true, gd_false, nthD_zero, nthD_succ, isB_true, isB_false, isB_undef, pickV_true, pickV_false, binV_add, binV_sub, binV_mul, binV_eql, binV_neq, binV_lss, binV_leq, binV_gtr, binV_geq, unV_not, nt, nf, Bool.false_eq_true, dt, df, decide_true, decide_false, withV_some, aggO_some, ptrTo_eq, ↓aO_some, aO_some, ↓andB_true, andB_true, gz, gs, seqC, retC, skipC, exitC, blockC, condC, cells_agg, resOf], (fun e => by cases e), k1⟩)) fun g => C.skip ?_)
  have h40 : a.r.items.length ≤ 40 := by
    rw [Bool.or_eq_false_iff] at g
    have := of_decide_eq_false g.2
    omega
  refine C.seq (C.seq fun K hK => hK .norm _ _ ?_)
  refine C.block (C.loop (fun k tm hx => ∃ i : Nat, k = a.r.items.length - i ∧ i ≤ a.r.items.length ∧ tg tm 1 = .pointer (some ⟨h.next, 0, none⟩) ∧ tg tm 3 = .int .i64 (i : Int) ∧ hx = h1) a.r.items.length (by omega)
    ⟨0, by simp, by simp, by simp only [↓opStep_eq, ↓reduceIte, tg_set, toTm_cons, toTm_nil, fieldPtr_ptr, Nat.add_zero, Nat.zero_add, Nat.reduceAdd, Nat.reduceEqDiff, Int.reduceEq, Int.reduceLT, Int.reduceLE, Int.reduceNe, ↓kO_some, ↓kA_some, ↓kH_some, kO_some, kA_some, kH_some, gd_true, gd_false, nthD_zero, nthD_succ, isB_true, isB_false, isB_undef, pickV_true, pickV_false, binV_add, binV_sub, binV_mul, binV_eql, binV_neq, binV_lss, binV_leq, binV_gtr, binV_geq, unV_not, nt, nf, Bool.false_eq_true, dt, df, decide_true, decide_false, withV_some, aggO_some, ptrTo_eq, ↓aO_some, aO_some, ↓andB_true, andB_true, gz, gs, seqC, retC, skipC, exitC, blockC, condC, cells_agg], by simp only [↓opStep_eq, ↓reduceIte, tg_set, toTm_cons, toTm_nil, fieldPtr_ptr, Nat.add_zero, Nat.zero_add, Nat.reduceAdd, Nat.reduceEqDiff, Int.reduceEq, Int.reduceLT, Int.reduceLE, Int.reduceNe, ↓kO_some, ↓kA_some, ↓kH_some, kO_some, kA_some, kH_some, gd_true, gd_false, nthD_zero, nthD_succ, isB_true, isB_false, isB_undef, pickV_true, pickV_false, binV_add, binV_sub, binV_mul, binV_eql, binV_neq, binV_lss, binV_leq, binV_gtr, binV_geq, unV_not, nt, nf, Bool.false_eq_true, dt, df, decide_true, decide_false, withV_some, aggO_some, ptrTo_eq, ↓aO_some, aO_some, ↓andB_true, andB_true, gz, gs, seqC, retC, skipC, exitC, blockC, condC, cells_agg] <;> rfl, rfl⟩ ?_)
  rintro k tm hx ⟨i, rfl, hil, t1, t3, rfl⟩
  unfold l8_8
  refine C.seq (C.seq fun K hK => ?_)
  simp only [↓opStep_eq, ↓reduceIte, tg_set, toTm_cons, toTm_nil, fieldPtr_ptr, Nat.add_zero, Nat.zero_add, Nat.reduceAdd, Nat.reduceEqDiff, Int.reduceEq, Int.reduceLT, Int.reduceLE, Int.reduceNe, ↓kO_some, ↓kA_some, ↓kH_some, kO_some, kA_some, kH_some, gd_true, gd_false, nthD_zero, nthD_succ, isB_true, isB_false, isB_undef, pickV_true, pickV_false, binV_add, binV_sub, binV_mul, binV_eql, binV_neq, binV_lss, binV_leq, binV_gtr, binV_geq, unV_not, nt, nf, Bool.false_eq_true, dt, df, decide_true, decide_false, withV_some, aggO_some, ptrTo_eq, ↓aO_some, aO_some, ↓andB_true, andB_true, gz, gs, seqC, retC, skipC, exitC, blockC, condC, cells_agg, r8_4, t1, t3, hl', hlen]
  refine hK _ _ _ (C.cond (decide ((i : Int) < a.r.items.length)) (by simp only [↓opStep_eq, ↓reduceIte, tg_set, toTm_cons, toTm_nil, fieldPtr_ptr, Nat.add_zero, Nat.zero_add, Nat.reduceAdd, Nat.reduceEqDiff, Int.reduceEq, Int.reduceLT, Int.reduceLE, Int.reduceNe, ↓kO_some, ↓kA_some, ↓kH_some, kO_some, kA_some, kH_some, gd_true, gd_false, nthD_zero, nthD_succ, isB_true, isB_false, isB_undef, pickV_true, pickV_false, binV_add, binV_sub, binV_mul, binV_eql, binV_neq, binV_lss, binV_leq, binV_gtr, binV_geq, unV_not, nt, nf, Bool.false_eq_true, dt, df, decide_true, decide_false, withV_some, aggO_some, ptrTo_eq, ↓aO_some, aO_some, ↓andB_true, andB_true, gz, gs, seqC, retC, skipC, exitC, blockC, condC, cells_agg]) (fun hy => C.skip ?_) fun hy => C.exit ?_)
  · have hlt : i < a.r.items.length := by simpa using hy
    obtain ⟨x, hxi⟩ : ∃ x, a.r.items[i]? = some x := ⟨a.r.items[i], List.getElem?_eq_getElem hlt⟩
    obtain ⟨b, o, e1, e2, _, e3, e4⟩ := (hi.keep0 k1).at hxi
    have x0 : ∀ s, loadOne hx (.pointer (some ⟨b, o, s⟩)) = some (.string x.key) := fun s => e3 0 s (by decide)
    have x1 : ∀ s, loadOne hx (.pointer (some ⟨b, o + 1, s⟩)) = some (.string x.val) := fun s => e3 1 s (by decide)
    refine C.seq (C.block (C.seq fun K hK => ?_))
    rw [show ∀ x : CodeT, (⟨x⟩ : Box CodeT).f = x from fun _ => rfl]
    rw [reg8_6 hl (by simp only [↓opStep_eq, ↓reduceIte, tg_set, toTm_cons, toTm_nil, fieldPtr_ptr, Nat.add_zero, Nat.zero_add, Nat.reduceAdd, Nat.reduceEqDiff, Int.reduceEq, Int.reduceLT, Int.reduceLE, Int.reduceNe, ↓kO_some, ↓kA_some, ↓kH_some, kO_some, kA_some, kH_some, gd_true, gd_false, nthD_zero, nthD_succ, isB_true, isB_false, isB_undef, pickV_true, pickV_false, binV_add, binV_sub, binV_mul, binV_eql, binV_neq, binV_lss, binV_leq, binV_gtr, binV_geq, unV_not, nt, nf, Bool.false_eq_true, dt, df, decide_true, decide_false, withV_some, aggO_some, ptrTo_eq, ↓aO_some, aO_some, ↓andB_true, andB_true, gz, gs, seqC, retC, skipC, exitC, blockC, condC, cells_agg, t1]) (by simp only [↓opStep_eq, ↓reduceIte, tg_set, toTm_cons, toTm_nil, fieldPtr_ptr, Nat.add_zero, Nat.zero_add, Nat.reduceAdd, Nat.reduceEqDiff, Int.reduceEq, Int.reduceLT, Int.reduceLE, Int.reduceNe, ↓kO_some, ↓kA_some, ↓kH_some, kO_some, kA_some, kH_some, gd_true, gd_false, nthD_zero, nthD_succ, isB_true, isB_false, isB_undef, pickV_true, pickV_false, binV_add, binV_sub, binV_mul, binV_eql, binV_neq, binV_lss, binV_leq, binV_gtr, binV_geq, unV_not, nt, nf, Bool.false_eq_true, dt, df, decide_true, decide_false, withV_some, aggO_some, ptrTo_eq, ↓aO_some, aO_some, ↓andB_true, andB_true, gz, gs, seqC, retC, skipC, exitC, blockC, condC, cells_agg, t3] <;> rfl) e1 x0 x1 (lenStr_string _) (lenStr_string _)]
    refine hK _ _ _ (C.cond (decide (1000 < (x.key.size : Int)) || decide (1000 < (x.val.size : Int))) (by simp only [↓opStep_eq, ↓reduceIte, tg_set, toTm_cons, toTm_nil, fieldPtr_ptr, Nat.add_zero, Nat.zero_add, Nat.reduceAdd, Nat.reduceEqDiff, Int.reduceEq, Int.reduceLT, Int.reduceLE, Int.reduceNe, ↓kO_some, ↓kA_some, ↓kH_some, kO_some, kA_some, kH_some, gd_true, gd_false, nthD_zero, nthD_succ, isB_true, isB_false, isB_undef, pickV_true, pickV_false, binV_add, binV_sub, binV_mul, binV_eql, binV_neq, binV_lss, binV_leq, binV_gtr, binV_geq, unV_not, nt, nf, Bool.false_eq_true, dt, df, decide_true, decide_false, withV_some, aggO_some, ptrTo_eq, ↓aO_some, aO_some, ↓andB_true, andB_true, gz, gs, seqC, retC, skipC, exitC, blockC, condC, cells_agg]) (fun g => C.seq fun K hK => hK .norm _ _ (C.ret ⟨.inr rfl, _, rfl, true, by simp only [↓opStep_eq, ↓reduceIte, tg_set, toTm_cons, toTm_nil, fieldPtr_ptr, Nat.add_zero, Nat.zero_add, Nat.reduceAdd, Nat.reduceEqDiff, Int.reduceEq, Int.reduceLT, Int.reduceLE, Int.reduceNe, ↓kO_some, ↓kA_some, ↓kH_some, kO_some, kA_some, kH_some, gd_true, gd_false, nthD_zero, nthD_succ, isB_true, isB_false, isB_undef, pickV_true, pickV_false, binV_add, binV_sub, binV_mul, binV_eql, binV_neq, binV_lss, binV_leq, binV_gtr, binV_geq, unV_not, nt, nf, Bool.false_eq_true, dt, df, decide_true, decide_false, withV_some, aggO_some, ptrTo_eq, ↓aO_some, aO_some, ↓andB_true, andB_true, gz, gs, seqC, retC, skipC, exitC, blockC, condC, cells_agg, resOf], (fun e => by cases e), k1⟩)) fun g => C.skip ?_)
    intro K hK
    simp only [↓opStep_eq, ↓reduceIte, tg_set, toTm_cons, toTm_nil, fieldPtr_ptr, Nat.add_zero, Nat.zero_add, Nat.reduceAdd, Nat.reduceEqDiff, Int.reduceEq, Int.reduceLT, Int.reduceLE, Int.reduceNe, ↓kO_some, ↓kA_some, ↓kH_some, kO_some, kA_some, kH_some, gd_true, gd_false, nthD_zero, nthD_succ, isB_true, isB_false, isB_undef, pickV_true, pickV_false, binV_add, binV_sub, binV_mul, binV_eql, binV_neq, binV_lss, binV_leq, binV_gtr, binV_geq, unV_not, nt, nf, Bool.false_eq_true, dt, df, decide_true, decide_false, withV_some, aggO_some, ptrTo_eq, ↓aO_some, aO_some, ↓andB_true, andB_true, gz, gs, seqC, retC, skipC, exitC, blockC, condC, cells_agg, r8_5, t3]
    exact hK _ _ _ ⟨a.r.items.length - (i + 1), by omega, i + 1, rfl, by omega, by simp only [↓opStep_eq, ↓reduceIte, tg_set, toTm_cons, toTm_nil, fieldPtr_ptr, Nat.add_zero, Nat.zero_add, Nat.reduceAdd, Nat.reduceEqDiff, Int.reduceEq, Int.reduceLT, Int.reduceLE, Int.reduceNe, ↓kO_some, ↓kA_some, ↓kH_some, kO_some, kA_some, kH_some, gd_true, gd_false, nthD_zero, nthD_succ, isB_true, isB_false, isB_undef, pickV_true, pickV_false, binV_add, binV_sub, binV_mul, binV_eql, binV_neq, binV_lss, binV_leq, binV_gtr, binV_geq, unV_not, nt, nf, Bool.false_eq_true, dt, df, decide_true, decide_false, withV_some, aggO_some, ptrTo_eq, ↓aO_some, aO_some, ↓andB_true, andB_true, gz, gs, seqC, retC, skipC, exitC, blockC, condC, cells_agg, t1], by simp only [↓opStep_eq, ↓reduceIte, tg_set, toTm_cons, toTm_nil, fieldPtr_ptr, Nat.add_zero, Nat.zero_add, Nat.reduceAdd, Nat.reduceEqDiff, Int.reduceEq, Int.reduceLT, Int.reduceLE, Int.reduceNe, ↓kO_some, ↓kA_some, ↓kH_some, kO_some, kA_some, kH_some, gd_true, gd_false, nthD_zero, nthD_succ, isB_true, isB_false, isB_undef, pickV_true, pickV_false, binV_add, binV_sub, binV_mul, binV_eql, binV_neq, binV_lss, binV_leq, binV_gtr, binV_geq, unV_not, nt, nf, Bool.false_eq_true, dt, df, decide_true, decide_false, withV_some, aggO_some, ptrTo_eq, ↓aO_some, aO_some, ↓andB_true, andB_true, gz, gs, seqC, retC, skipC, exitC, blockC, condC, cells_agg, wrap_succ i (show i < 9223372036854775807 by omega)], rfl⟩
  · simp only [if_pos]
    exact C.seq fun K hK => hK .norm _ _ (C.ret ⟨.inr rfl, _, rfl, false, by simp only [↓opStep_eq, ↓reduceIte, tg_set, toTm_cons, toTm_nil, fieldPtr_ptr, Nat.add_zero, Nat.zero_add, Nat.reduceAdd, Nat.reduceEqDiff, Int.reduceEq, Int.reduceLT, Int.reduceLE, Int.reduceNe, ↓kO_some, ↓kA_some, ↓kH_some, kO_some, kA_some, kH_some, gd_true, gd_false, nthD_zero, nthD_succ, isB_true, isB_false, isB_undef, pickV_true, pickV_false, binV_add, binV_sub, binV_mul, binV_eql, binV_neq, binV_lss, binV_leq, binV_gtr, binV_geq, unV_not, nt, nf, Bool.false_eq_true, dt, df, decide_true, decide_false, withV_some, aggO_some, ptrTo_eq, ↓aO_some, aO_some, ↓andB_true, andB_true, gz, gs, seqC, retC, skipC, exitC, blockC, condC, cells_agg, resOf], fun _ => h40, k1⟩)

end Go.Proofs.Ytpaolklbogakgaa

namespace Go.Proofs.Ytpaolklbogakgaa
open Go.Ev Go.RowKit

theorem u27 : Try.prog.underlying 27 = some (.struct (fieldsOf Try.prog 27)) := by kernel_rfl
theorem u25 : Try.prog.underlying 25 = some (.struct (fieldsOf Try.prog 25)) := by kernel_rfl
theorem u43 : Try.prog.underlying 43 = some (.struct (fieldsOf Try.prog 43)) := by kernel_rfl
theorem u22 : Try.prog.underlying 22 = some (.slice 43) := by kernel_rfl
theorem u41 : Try.prog.underlying 41 = some (.int .u32) := by kernel_rfl
theorem u23 : Try.prog.underlying 23 = some (.int .u64) := by kernel_rfl
theorem u9 : Try.prog.underlying 9 = some .string := by kernel_rfl
theorem u5 : Try.prog.underlying 5 = some (.int .u8) := by kernel_rfl
theorem u3 : Try.prog.underlying 3 = some (.int .i64) := by kernel_rfl
theorem u4 : Try.prog.underlying 4 = some .bool := by kernel_rfl
theorem m27 : (fieldsOf Try.prog 27).toList.map (fun f => (f.type, f.offset)) = [(5, 0), (5, 1), (25, 2), (4, 5), (9, 6)] := by kernel_rfl
theorem m25 : (fieldsOf Try.prog 25).toList.map (fun f => (f.type, f.offset)) = [(5, 0), (22, 1), (23, 2)] := by kernel_rfl
theorem m43 : (fieldsOf Try.prog 43).toList.map (fun f => (f.type, f.offset)) = [(9, 0), (9, 1), (41, 2), (3, 3), (23, 4)] := by kernel_rfl
theorem s27 : Try.prog.cellsOf 27 = 7 := by kernel_rfl
theorem s25 : Try.prog.cellsOf 25 = 3 := by kernel_rfl
theorem s43 : Try.prog.cellsOf 43 = 5 := by kernel_rfl
theorem s22 : Try.prog.cellsOf 22 = 1 := by kernel_rfl
theorem s41 : Try.prog.cellsOf 41 = 1 := by kernel_rfl
theorem s23 : Try.prog.cellsOf 23 = 1 := by kernel_rfl
theorem s9 : Try.prog.cellsOf 9 = 1 := by kernel_rfl
theorem s5 : Try.prog.cellsOf 5 = 1 := by kernel_rfl
theorem s3 : Try.prog.cellsOf 3 = 1 := by kernel_rfl
theorem s4 : Try.prog.cellsOf 4 = 1 := by kernel_rfl
theorem ct27 : Try.prog.cellTypes Try.prog.depth 27 = some [5, 5, 5, 22, 23, 4, 9] := by kernel_rfl

section
variable {H : Type} {enc : TypeId × Value → H} {w : World} {base : Nat} {sp : Nat → Bool} {held : Bool}

theorem open_item {n : Nat} {cs : List Value} {x : DataW H × List MemPlace} (h : DataW.trod enc Try.prog w base sp held n 43 cs = some x) : ∃ it : Itm, it.ok ∧ cs = it.cells := by
  obtain ⟨hl, hf⟩ := trod_fields u43 m43 h
  rw [s43] at hl
  rcases cs with _ | ⟨c0, _ | ⟨c1, _ | ⟨c2, _ | ⟨c3, _ | ⟨c4, _ | ⟨c5, r⟩⟩⟩⟩⟩⟩ <;> simp at hl
  obtain ⟨m0, y0, h0⟩ := hf 0 9 0 rfl
  obtain ⟨m1, y1, h1⟩ := hf 1 9 1 rfl
  obtain ⟨m2, y2, h2⟩ := hf 2 41 2 rfl
  obtain ⟨m3, y3, h3⟩ := hf 3 3 3 rfl
  obtain ⟨m4, y4, h4⟩ := hf 4 23 4 rfl
  rw [s9] at h0 h1
  rw [s41] at h2
  rw [s3] at h3
  rw [s23] at h4
  obtain ⟨k, e0, _, _⟩ := DataW.trod_string u9 h0
  obtain ⟨v, e1, _, _⟩ := DataW.trod_string u9 h1
  obtain ⟨f, e2, _, w2⟩ := DataW.trod_int u41 h2
  obtain ⟨t, e3, _, w3⟩ := DataW.trod_int u3 h3
  obtain ⟨u, e4, _, w4⟩ := DataW.trod_int u23 h4
  simp at e0 e1 e2 e3 e4
  subst e0 e1 e2 e3 e4
  have := bounds_u32 w2
  have := bounds_i64 w3
  have := bounds_u64 w4
  exact ⟨⟨k, v, f, t, u⟩, ⟨⟨by simp only; omega, by simp only; omega⟩, ⟨by simp only; omega, by simp only; omega⟩, ⟨by simp only; omega, by simp only; omega⟩⟩, rfl⟩

theorem open_answer {n : Nat} {cs : List Value} {x : DataW H × List MemPlace} (h : DataW.trod enc Try.prog w base sp held n 27 cs = some x) :
    ∃ kind of rk num : Int, ∃ (yes : Bool) (key : ByteArray) (iv : Value), cs = [.int .u8 kind, .int .u8 of, .int .u8 rk, iv, .int .u64 num, .bool yes, .string key] ∧ (0 ≤ kind ∧ kind < 256) ∧ (0 ≤ of ∧ of < 256) ∧ (0 ≤ rk ∧ rk < 256) ∧ (0 ≤ num ∧ num < 18446744073709551616) ∧
      ∃ m y, DataW.trod enc Try.prog w base sp held m 22 [iv] = some y := by
  obtain ⟨hl, hf⟩ := trod_fields u27 m27 h
  rw [s27] at hl
  rcases cs with _ | ⟨c0, _ | ⟨c1, _ | ⟨c2, _ | ⟨c3, _ | ⟨c4, _ | ⟨c5, _ | ⟨c6, _ | ⟨c7, r⟩⟩⟩⟩⟩⟩⟩⟩ <;> simp at hl
  obtain ⟨m0, y0, h0⟩ := hf 0 5 0 rfl
  obtain ⟨m1, y1, h1⟩ := hf 1 5 1 rfl
  obtain ⟨m2, y2, h2⟩ := hf 2 25 2 rfl
  obtain ⟨m3, y3, h3⟩ := hf 3 4 5 rfl
  obtain ⟨m4, y4, h4⟩ := hf 4 9 6 rfl
  rw [s5] at h0 h1
  rw [s25] at h2
  rw [s4] at h3
  rw [s9] at h4
  obtain ⟨hl2, hf2⟩ := trod_fields u25 m25 h2
  obtain ⟨n0, z0, g0⟩ := hf2 0 5 0 rfl
  obtain ⟨n1, z1, g1⟩ := hf2 1 22 1 rfl
  obtain ⟨n2, z2, g2⟩ := hf2 2 23 2 rfl
  rw [s5] at g0
  rw [s22] at g1
  rw [s23] at g2
  obtain ⟨k, e0, _, w0⟩ := DataW.trod_int u5 h0
  obtain ⟨o, e1, _, w1⟩ := DataW.trod_int u5 h1
  obtain ⟨b, e3, _⟩ := DataW.trod_bool u4 h3
  obtain ⟨s, e4, _, _⟩ := DataW.trod_string u9 h4
  obtain ⟨rk, d0, _, v0⟩ := DataW.trod_int u5 g0
  obtain ⟨nm, d2, _, v2⟩ := DataW.trod_int u23 g2
  simp at e0 e1 e3 e4 d0 d2
  subst e0 e1 e3 e4 d0 d2
  have := bounds_u8 w0
  have := bounds_u8 w1
  have := bounds_u8 v0
  have := bounds_u64 v2
  exact ⟨k, o, rk, nm, b, s, c3, rfl, by omega, by omega, by omega, by omega, n1, z1, by simpa using g1⟩
end
end Go.Proofs.Ytpaolklbogakgaa

namespace Go.Proofs.Ytpaolklbogakgaa
open Go.Ev Go.RowKit

theorem cellsOf_at : ∀ (l : List Itm) (j : Nat) (v : Value), (cellsOf l)[j]? = some v → ∃ (i k : Nat) (x : Itm), l[i]? = some x ∧ j = i * 5 + k ∧ k < 5 ∧ x.cells[k]? = some v
  | [], j, v, h => by simp [cellsOf] at h
  | x :: l, j, v, h => by
    have e : cellsOf (x :: l) = x.cells ++ cellsOf l := rfl
    rw [e] at h
    by_cases hj : j < 5
    · rw [List.getElem?_append_left (by simpa using hj)] at h
      exact ⟨0, j, x, rfl, by omega, hj, h⟩
    · rw [List.getElem?_append_right (by simp; omega)] at h
      obtain ⟨i, k, y, h1, h2, h3, h4⟩ := cellsOf_at l _ v h
      simp only [Itm.cells_len] at h2
      exact ⟨i + 1, k, y, by simpa using h1, by omega, h3, h4⟩
theorem item_cst {x : Itm} {k : Nat} {v : Value} (h : x.cells[k]? = some v) : cstOk v = true := by
  have := List.mem_of_getElem? h
  simp only [Itm.cells, List.mem_cons, List.not_mem_nil, or_false] at this
  rcases this with rfl | rfl | rfl | rfl | rfl <;> rfl

theorem gor : NoGor Try.prog := noGor_of (by kernel_rfl)
theorem xok : XOK Try.prog outside := xok_nil

section
variable {H : Type} {enc : TypeId × Value → H}
end
end Go.Proofs.Ytpaolklbogakgaa
