import Derived.Test.YtpaolklbogakgaaPkO
set_option linter.unusedSimpArgs false
set_option linter.unusedVariables false
namespace Go.Proofs.Ytpaolklbogakgaa
open Go.Ev

/-- a slice that has been made since -/
structure Acc (h1 hx : H) (w : Value) (l : List UInt8) : Prop where
  m : Mine hx w l
  k : Keep nobody h1 hx
  f : ∀ b, blk w b → h1.next ≤ b
theorem Acc.go {h1 hx h' : H} {w : Value} {l : List UInt8} (a : Acc h1 hx w l) (k : Keep nobody hx h') : Acc h1 h' w l := ⟨a.m.keep0 k, a.k.then k, a.f⟩
theorem Acc.app {h1 hx : H} {w x : Value} {l m : List UInt8} (a : Acc h1 hx w l) (s : Go.Ev.Src hx x m) (hsz : l.length + m.length ≤ 100000000) : ∃ w' h', appendV 1 1 hx w x = some (w', h') ∧ Acc h1 h' w' (l ++ m) ∧ Keep (blk w) hx h' ∧ ∀ b, b < hx.next → ¬ blk w b → ¬ blk w' b := by
  obtain ⟨w', h', e1, e2, e3, e4⟩ := append_own a.m s (by omega)
  exact ⟨w', h', e1, ⟨e2, a.k.trans e3 fun b hb hs => absurd (a.f b hs) (by omega), fun b hb => (e4 b hb).elim (a.f b) fun h => Nat.le_trans a.k.next h⟩, e3, fun b hb hn hw => (e4 b hw).elim hn fun h => absurd h (by omega)⟩
theorem Acc.lit {h1 hx : H} {w : Value} {l bs : List UInt8} (a : Acc h1 hx w l) (hsz : l.length + bs.length ≤ 100000000) : ∃ w' h', appendV 1 1 (hx.new (.rw (bs.map bv))) w (.slice (some ⟨hx.next, 0, none⟩) bs.length bs.length) = some (w', h') ∧ Acc h1 h' w' (l ++ bs) := by
  obtain ⟨w', h', e1, e2, e3, e4⟩ := app_lit (bs := bs) a.m (by omega)
  exact ⟨w', h', e1, ⟨e2, a.k.trans e3 fun b hb hs => absurd (a.f b hs) (by omega), fun b hb => (e4 b hb).elim (a.f b) fun h => Nat.le_trans a.k.next h⟩⟩

section
variable {L n : Nat} {tm : T Value} {h1 hx : H} {w : Value} {l : List UInt8} {b5 : Nat} {x : Itm}
theorem reg20_11 (hL : 100 < L) (sl : x.slim) (t3 : tg tm 3 = w) (t5 : tg tm 5 = .pointer (some ⟨b5, 0, none⟩)) (a : Acc h1 hx w l) (hb : Has hx b5 (.rw x.cells)) (hw : ¬ blk w b5) (hsz : l.length ≤ 100000) :
    C ⟨r20_11⟩ (CF L (n + 2)) L tm hx fun e tm' h' => e = .norm ∧ ∃ w', tm' = T.set tm 3 w' ∧ Acc h1 h' w' (l ++ txt x.key) ∧ Has h' b5 (.rw x.cells) ∧ ¬ blk w' b5 := fun K hK => by
  have ld : ∀ o s, loadOne hx (.pointer (some ⟨b5, o, s⟩)) = [Value.string x.key, .string x.val, .int .u32 x.flags, .int .i64 x.till, .int .u64 x.uniq][o]? := fun o s => loadOne_has hb rfl
  simp only [r20_11, ↓opStep_eq, ↓reduceIte, tg_set, toTm_cons, toTm_nil, fieldPtr_ptr, Nat.add_zero, Nat.zero_add, Nat.reduceAdd, Nat.reduceEqDiff, Int.reduceEq, Int.reduceLT, Int.reduceLE, Int.reduceNe, ↓kO_some, ↓kA_some, ↓kH_some, kO_some, kA_some, kH_some, gd_true, gd_false, nthD_zero, nthD_succ, isB_true, isB_false, isB_undef, pickV_true, pickV_false, binV_add, binV_sub, binV_mul, binV_eql, binV_neq, binV_lss, binV_leq, binV_gtr, binV_geq, unV_not, nt, nf, Bool.false_eq_true, dt, df, decide_true, decide_false, withV_some, aggO_some, ptrTo_eq, ↓aO_some, aO_some, ↓andB_true, andB_true, gz, gs, seqC, retC, skipC, exitC, blockC, condC, cells_agg, t3, t5, ld]
  refine ref_text L n hL x.key (by have := sl.key; omega) hx _ fun v h2 hv => ?_
  obtain ⟨m2, k2, f2⟩ := hv
  have := txt_len x.key (by have := sl.key; omega)
  obtain ⟨w', h3, e1, a3, k3, n3⟩ := (a.go k2).app m2.reads.src (by omega)
  simp only [↓opStep_eq, ↓reduceIte, tg_set, toTm_cons, toTm_nil, fieldPtr_ptr, Nat.add_zero, Nat.zero_add, Nat.reduceAdd, Nat.reduceEqDiff, Int.reduceEq, Int.reduceLT, Int.reduceLE, Int.reduceNe, ↓kO_some, ↓kA_some, ↓kH_some, kO_some, kA_some, kH_some, gd_true, gd_false, nthD_zero, nthD_succ, isB_true, isB_false, isB_undef, pickV_true, pickV_false, binV_add, binV_sub, binV_mul, binV_eql, binV_neq, binV_lss, binV_leq, binV_gtr, binV_geq, unV_not, nt, nf, Bool.false_eq_true, dt, df, decide_true, decide_false, withV_some, aggO_some, ptrTo_eq, ↓aO_some, aO_some, ↓andB_true, andB_true, gz, gs, seqC, retC, skipC, exitC, blockC, condC, cells_agg, e1]
  exact hK _ _ _ ⟨rfl, w', rfl, a3, (hb.keep0 k2).keep k3 hw, n3 _ (hb.keep0 k2).1 hw⟩
theorem reg20_12 (hL : 100 < L) (sl : x.slim) (t3 : tg tm 3 = w) (t5 : tg tm 5 = .pointer (some ⟨b5, 0, none⟩)) (a : Acc h1 hx w l) (hb : Has hx b5 (.rw x.cells)) (hw : ¬ blk w b5) (hsz : l.length ≤ 100000) :
    C ⟨r20_12⟩ (CF L (n + 2)) L tm hx fun e tm' h' => e = .norm ∧ ∃ w', tm' = T.set tm 3 w' ∧ Acc h1 h' w' (l ++ txt x.val) ∧ Has h' b5 (.rw x.cells) ∧ ¬ blk w' b5 := fun K hK => by
  have ld : ∀ o s, loadOne hx (.pointer (some ⟨b5, o, s⟩)) = [Value.string x.key, .string x.val, .int .u32 x.flags, .int .i64 x.till, .int .u64 x.uniq][o]? := fun o s => loadOne_has hb rfl
  simp only [r20_12, ↓opStep_eq, ↓reduceIte, tg_set, toTm_cons, toTm_nil, fieldPtr_ptr, Nat.add_zero, Nat.zero_add, Nat.reduceAdd, Nat.reduceEqDiff, Int.reduceEq, Int.reduceLT, Int.reduceLE, Int.reduceNe, ↓kO_some, ↓kA_some, ↓kH_some, kO_some, kA_some, kH_some, gd_true, gd_false, nthD_zero, nthD_succ, isB_true, isB_false, isB_undef, pickV_true, pickV_false, binV_add, binV_sub, binV_mul, binV_eql, binV_neq, binV_lss, binV_leq, binV_gtr, binV_geq, unV_not, nt, nf, Bool.false_eq_true, dt, df, decide_true, decide_false, withV_some, aggO_some, ptrTo_eq, ↓aO_some, aO_some, ↓andB_true, andB_true, gz, gs, seqC, retC, skipC, exitC, blockC, condC, cells_agg, t3, t5, ld]
  refine ref_text L n hL x.val (by have := sl.val; omega) hx _ fun v h2 hv => ?_
  obtain ⟨m2, k2, f2⟩ := hv
  have := txt_len x.val sl.val
  obtain ⟨w', h3, e1, a3, k3, n3⟩ := (a.go k2).app m2.reads.src (by omega)
  simp only [↓opStep_eq, ↓reduceIte, tg_set, toTm_cons, toTm_nil, fieldPtr_ptr, Nat.add_zero, Nat.zero_add, Nat.reduceAdd, Nat.reduceEqDiff, Int.reduceEq, Int.reduceLT, Int.reduceLE, Int.reduceNe, ↓kO_some, ↓kA_some, ↓kH_some, kO_some, kA_some, kH_some, gd_true, gd_false, nthD_zero, nthD_succ, isB_true, isB_false, isB_undef, pickV_true, pickV_false, binV_add, binV_sub, binV_mul, binV_eql, binV_neq, binV_lss, binV_leq, binV_gtr, binV_geq, unV_not, nt, nf, Bool.false_eq_true, dt, df, decide_true, decide_false, withV_some, aggO_some, ptrTo_eq, ↓aO_some, aO_some, ↓andB_true, andB_true, gz, gs, seqC, retC, skipC, exitC, blockC, condC, cells_agg, e1]
  exact hK _ _ _ ⟨rfl, w', rfl, a3, (hb.keep0 k2).keep k3 hw, n3 _ (hb.keep0 k2).1 hw⟩
theorem reg20_13 (hL : 100 < L) (ok : x.ok) (t3 : tg tm 3 = w) (t5 : tg tm 5 = .pointer (some ⟨b5, 0, none⟩)) (a : Acc h1 hx w l) (hb : Has hx b5 (.rw x.cells)) (hw : ¬ blk w b5) (hsz : l.length ≤ 100000) :
    C ⟨r20_13⟩ (CF L (n + 1)) L tm hx fun e tm' h' => e = .norm ∧ ∃ w', tm' = T.set tm 3 w' ∧ Acc h1 h' w' (l ++ small x.flags.toNat) ∧ Has h' b5 (.rw x.cells) ∧ ¬ blk w' b5 := fun K hK => by
  have ld : ∀ o s, loadOne hx (.pointer (some ⟨b5, o, s⟩)) = [Value.string x.key, .string x.val, .int .u32 x.flags, .int .i64 x.till, .int .u64 x.uniq][o]? := fun o s => loadOne_has hb rfl
  have fl : toInt .u64 (.int .u32 x.flags) = some (.int .u64 ((x.flags.toNat : Nat) : Int)) := by
    have := ok.flags
    rw [toInt_int, show x.flags = ((x.flags.toNat : Nat) : Int) by omega, wrap_u64 _ (by omega)]; rfl
  simp only [r20_13, ↓opStep_eq, ↓reduceIte, tg_set, toTm_cons, toTm_nil, fieldPtr_ptr, Nat.add_zero, Nat.zero_add, Nat.reduceAdd, Nat.reduceEqDiff, Int.reduceEq, Int.reduceLT, Int.reduceLE, Int.reduceNe, ↓kO_some, ↓kA_some, ↓kH_some, kO_some, kA_some, kH_some, gd_true, gd_false, nthD_zero, nthD_succ, isB_true, isB_false, isB_undef, pickV_true, pickV_false, binV_add, binV_sub, binV_mul, binV_eql, binV_neq, binV_lss, binV_leq, binV_gtr, binV_geq, unV_not, nt, nf, Bool.false_eq_true, dt, df, decide_true, decide_false, withV_some, aggO_some, ptrTo_eq, ↓aO_some, aO_some, ↓andB_true, andB_true, gz, gs, seqC, retC, skipC, exitC, blockC, condC, cells_agg, t3, t5, ld, fl]
  refine ref_small L n hL x.flags.toNat (by have := ok.flags; omega) hx _ fun v h2 hv => ?_
  obtain ⟨m2, k2, f2⟩ := hv
  have := small_len 10 x.flags.toNat (by have := ok.flags; omega) (by omega)
  obtain ⟨w', h3, e1, a3, k3, n3⟩ := (a.go k2).app m2.reads.src (by omega)
  simp only [↓opStep_eq, ↓reduceIte, tg_set, toTm_cons, toTm_nil, fieldPtr_ptr, Nat.add_zero, Nat.zero_add, Nat.reduceAdd, Nat.reduceEqDiff, Int.reduceEq, Int.reduceLT, Int.reduceLE, Int.reduceNe, ↓kO_some, ↓kA_some, ↓kH_some, kO_some, kA_some, kH_some, gd_true, gd_false, nthD_zero, nthD_succ, isB_true, isB_false, isB_undef, pickV_true, pickV_false, binV_add, binV_sub, binV_mul, binV_eql, binV_neq, binV_lss, binV_leq, binV_gtr, binV_geq, unV_not, nt, nf, Bool.false_eq_true, dt, df, decide_true, decide_false, withV_some, aggO_some, ptrTo_eq, ↓aO_some, aO_some, ↓andB_true, andB_true, gz, gs, seqC, retC, skipC, exitC, blockC, condC, cells_agg, e1]
  exact hK _ _ _ ⟨rfl, w', rfl, a3, (hb.keep0 k2).keep k3 hw, n3 _ (hb.keep0 k2).1 hw⟩
theorem reg20_14 (hL : 100 < L) (t3 : tg tm 3 = w) (t5 : tg tm 5 = .pointer (some ⟨b5, 0, none⟩)) (a : Acc h1 hx w l) (hb : Has hx b5 (.rw x.cells)) (hw : ¬ blk w b5) (hsz : l.length ≤ 100000) :
    C ⟨r20_14⟩ (CF L (n + 1)) L tm hx fun e tm' h' => e = .norm ∧ ∃ w', tm' = T.set tm 3 w' ∧ Acc h1 h' w' (l ++ small (IntKind.u64.wrap x.till).toNat) ∧ Has h' b5 (.rw x.cells) ∧ ¬ blk w' b5 := fun K hK => by
  have ld : ∀ o s, loadOne hx (.pointer (some ⟨b5, o, s⟩)) = [Value.string x.key, .string x.val, .int .u32 x.flags, .int .i64 x.till, .int .u64 x.uniq][o]? := fun o s => loadOne_has hb rfl
  have ti : toInt .u64 (.int .i64 x.till) = some (.int .u64 (((IntKind.u64.wrap x.till).toNat : Nat) : Int)) := by
    have := u64_range x.till
    rw [toInt_int, show (((IntKind.u64.wrap x.till).toNat : Nat) : Int) = IntKind.u64.wrap x.till by omega]
  simp only [r20_14, ↓opStep_eq, ↓reduceIte, tg_set, toTm_cons, toTm_nil, fieldPtr_ptr, Nat.add_zero, Nat.zero_add, Nat.reduceAdd, Nat.reduceEqDiff, Int.reduceEq, Int.reduceLT, Int.reduceLE, Int.reduceNe, ↓kO_some, ↓kA_some, ↓kH_some, kO_some, kA_some, kH_some, gd_true, gd_false, nthD_zero, nthD_succ, isB_true, isB_false, isB_undef, pickV_true, pickV_false, binV_add, binV_sub, binV_mul, binV_eql, binV_neq, binV_lss, binV_leq, binV_gtr, binV_geq, unV_not, nt, nf, Bool.false_eq_true, dt, df, decide_true, decide_false, withV_some, aggO_some, ptrTo_eq, ↓aO_some, aO_some, ↓andB_true, andB_true, gz, gs, seqC, retC, skipC, exitC, blockC, condC, cells_agg, t3, t5, ld, ti]
  refine ref_small L n hL (IntKind.u64.wrap x.till).toNat (by have := u64_range x.till; omega) hx _ fun v h2 hv => ?_
  obtain ⟨m2, k2, f2⟩ := hv
  have := small_len 10 (IntKind.u64.wrap x.till).toNat (by have := u64_range x.till; omega) (by omega)
  obtain ⟨w', h3, e1, a3, k3, n3⟩ := (a.go k2).app m2.reads.src (by omega)
  simp only [↓opStep_eq, ↓reduceIte, tg_set, toTm_cons, toTm_nil, fieldPtr_ptr, Nat.add_zero, Nat.zero_add, Nat.reduceAdd, Nat.reduceEqDiff, Int.reduceEq, Int.reduceLT, Int.reduceLE, Int.reduceNe, ↓kO_some, ↓kA_some, ↓kH_some, kO_some, kA_some, kH_some, gd_true, gd_false, nthD_zero, nthD_succ, isB_true, isB_false, isB_undef, pickV_true, pickV_false, binV_add, binV_sub, binV_mul, binV_eql, binV_neq, binV_lss, binV_leq, binV_gtr, binV_geq, unV_not, nt, nf, Bool.false_eq_true, dt, df, decide_true, decide_false, withV_some, aggO_some, ptrTo_eq, ↓aO_some, aO_some, ↓andB_true, andB_true, gz, gs, seqC, retC, skipC, exitC, blockC, condC, cells_agg, e1]
  exact hK _ _ _ ⟨rfl, w', rfl, a3, (hb.keep0 k2).keep k3 hw, n3 _ (hb.keep0 k2).1 hw⟩
theorem reg20_15 (hL : 100 < L) (ok : x.ok) (t3 : tg tm 3 = w) (t5 : tg tm 5 = .pointer (some ⟨b5, 0, none⟩)) (a : Acc h1 hx w l) (hb : Has hx b5 (.rw x.cells)) (hsz : l.length ≤ 100000) :
    C ⟨r20_15⟩ (CF L (n + 1)) L tm hx fun e tm' h' => e = .norm ∧ ∃ w', tm' = T.set tm 3 w' ∧ Acc h1 h' w' (l ++ small x.uniq.toNat) := fun K hK => by
  have ld : ∀ o s, loadOne hx (.pointer (some ⟨b5, o, s⟩)) = [Value.string x.key, .string x.val, .int .u32 x.flags, .int .i64 x.till, .int .u64 ((x.uniq.toNat : Nat) : Int)][o]? := fun o s => by
    rw [loadOne_has hb rfl, Itm.cells, show ((x.uniq.toNat : Nat) : Int) = x.uniq by have := ok.uniq; omega]
  simp only [r20_15, ↓opStep_eq, ↓reduceIte, tg_set, toTm_cons, toTm_nil, fieldPtr_ptr, Nat.add_zero, Nat.zero_add, Nat.reduceAdd, Nat.reduceEqDiff, Int.reduceEq, Int.reduceLT, Int.reduceLE, Int.reduceNe, ↓kO_some, ↓kA_some, ↓kH_some, kO_some, kA_some, kH_some, gd_true, gd_false, nthD_zero, nthD_succ, isB_true, isB_false, isB_undef, pickV_true, pickV_false, binV_add, binV_sub, binV_mul, binV_eql, binV_neq, binV_lss, binV_leq, binV_gtr, binV_geq, unV_not, nt, nf, Bool.false_eq_true, dt, df, decide_true, decide_false, withV_some, aggO_some, ptrTo_eq, ↓aO_some, aO_some, ↓andB_true, andB_true, gz, gs, seqC, retC, skipC, exitC, blockC, condC, cells_agg, t3, t5, ld]
  refine ref_small L n hL x.uniq.toNat (by have := ok.uniq; omega) hx _ fun v h2 hv => ?_
  obtain ⟨m2, k2, f2⟩ := hv
  have := small_len 10 x.uniq.toNat (by have := ok.uniq; omega) (by omega)
  obtain ⟨w', h3, e1, a3, k3, n3⟩ := (a.go k2).app m2.reads.src (by omega)
  simp only [↓opStep_eq, ↓reduceIte, tg_set, toTm_cons, toTm_nil, fieldPtr_ptr, Nat.add_zero, Nat.zero_add, Nat.reduceAdd, Nat.reduceEqDiff, Int.reduceEq, Int.reduceLT, Int.reduceLE, Int.reduceNe, ↓kO_some, ↓kA_some, ↓kH_some, kO_some, kA_some, kH_some, gd_true, gd_false, nthD_zero, nthD_succ, isB_true, isB_false, isB_undef, pickV_true, pickV_false, binV_add, binV_sub, binV_mul, binV_eql, binV_neq, binV_lss, binV_leq, binV_gtr, binV_geq, unV_not, nt, nf, Bool.false_eq_true, dt, df, decide_true, decide_false, withV_some, aggO_some, ptrTo_eq, ↓aO_some, aO_some, ↓andB_true, andB_true, gz, gs, seqC, retC, skipC, exitC, blockC, condC, cells_agg, e1]
  exact hK _ _ _ ⟨rfl, w', rfl, a3⟩
end
end Go.Proofs.Ytpaolklbogakgaa
