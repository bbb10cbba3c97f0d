import Derived.Test.YtpaolklbogakgaaRdM
set_option linter.unusedSimpArgs false
set_option linter.unusedVariables false
namespace Go.Proofs.Ytpaolklbogakgaa
open Go.Ev

theorem eql_u8 (t : TypeId) (c : Bool) (x y : UInt8) : binV Try.prog .eql t c (bv x) (bv y) = some (.bool (decide (x = y))) := by
  have e : decide ((x.toNat : Int) = (y.toNat : Int)) = decide (x = y) := by
    rw [decide_eq_decide]
    exact ⟨fun h => UInt8.toNat_inj.1 (by omega), fun h => by rw [h]⟩
  simp only [bv, binV_eql, e]

/-- what a look at a packet answers -/
def OfQ (p : Option Ans) (h : H) (r : Value) (h' : H) : Prop := ∃ av b, r = .tuple [av, .bool b].toArray ∧ Keep nobody h h' ∧ Shape7 av ∧ OfP p b h' av

theorem plain_got (h : H) (kind : UInt8) (yes : Bool) (key : ByteArray) : Got h (plainA kind yes key) (.agg [bv kind, .int .u8 0, .int .u8 0, noIv, .int .u64 0, .bool yes, .string key].toArray) := ⟨noIv, rfl, .nil⟩
theorem plain_shape (kind : UInt8) (yes : Bool) (key : ByteArray) : Shape7 (.agg [bv kind, .int .u8 0, .int .u8 0, noIv, .int .u64 0, .bool yes, .string key].toArray) := ⟨_, rfl, rfl, rfl⟩

theorem ref_of (L n : Nat) (kind : UInt8) (v : Value) (l : List UInt8) (h : H) (hr : Rd h v l) (hL : 100 < L) (hl : l.length < 1000000) :
    Sp (CF L (n + 7)) 25 [bv kind, v] h fun r h' => OfQ (pShape kind l) h r h' := by
  refine Sp.body f25 (by simp) ?_
  have e1 : Value.int .u8 1 = bv 1 := rfl
  have e2 : Value.int .u8 2 = bv 2 := rfl
  have e3 : Value.int .u8 3 = bv 3 := rfl
  have e7 : Value.int .u8 7 = bv 7 := rfl
  have k1 := Keep.new h (.rw Z7)
  have b4 := Has.new h (.rw Z7)
  have n1 : (h.new (.rw Z7)).next = h.next + 1 := rfl
  unfold c25
  refine C.seq fun K hK => ?_
  simp only [↓opStep_eq, ↓reduceIte, tg_set, toTm_cons, toTm_nil, fieldPtr_ptr, Nat.add_zero, Nat.zero_add, Nat.reduceAdd, Nat.reduceEqDiff, Int.reduceEq, Int.reduceLT, Int.reduceLE, Int.reduceNe, ↓kO_some, ↓kA_some, ↓kH_some, kO_some, kA_some, kH_some, gd_true, gd_false, nthD_zero, nthD_succ, isB_true, isB_false, isB_undef, pickV_true, pickV_false, binV_add, binV_sub, binV_mul, binV_eql, binV_neq, binV_lss, binV_leq, binV_gtr, binV_geq, unV_not, nt, nf, Bool.false_eq_true, dt, df, decide_true, decide_false, withV_some, aggO_some, ptrTo_eq, ↓aO_some, aO_some, ↓andB_true, andB_true, gz, gs, seqC, retC, skipC, exitC, blockC, condC, cells_agg, r25_0]
  generalize h.new (.rw Z7) = h1 at *
  refine hK _ _ _ (C.seq fun K hK => ?_)
  have hst := store_new h1 7 none Z7 (.agg [bv kind, .int .u8 0, .int .u8 0, .slice none 0 0, .int .u64 0, .bool false, .string (strB [])].toArray) rfl rfl rfl
  have hcc : (Value.cells (.agg [bv kind, .int .u8 0, .int .u8 0, .slice none 0 0, .int .u64 0, .bool false, .string (strB [])].toArray)).toList = [bv kind, .int .u8 0, .int .u8 0, .slice none 0 0, .int .u64 0, .bool false, .string (strB [])] := rfl
  rw [hcc] at hst
  have k2 := keep_alloc h1 (.rw Z7) (.rw [bv kind, .int .u8 0, .int .u8 0, .slice none 0 0, .int .u64 0, .bool false, .string (strB [])])
  have b6 := has_alloc h1 (.rw Z7) (.rw [bv kind, .int .u8 0, .int .u8 0, .slice none 0 0, .int .u64 0, .bool false, .string (strB [])])
  simp only [↓opStep_eq, ↓reduceIte, tg_set, toTm_cons, toTm_nil, fieldPtr_ptr, Nat.add_zero, Nat.zero_add, Nat.reduceAdd, Nat.reduceEqDiff, Int.reduceEq, Int.reduceLT, Int.reduceLE, Int.reduceNe, ↓kO_some, ↓kA_some, ↓kH_some, kO_some, kA_some, kH_some, gd_true, gd_false, nthD_zero, nthD_succ, isB_true, isB_false, isB_undef, pickV_true, pickV_false, binV_add, binV_sub, binV_mul, binV_eql, binV_neq, binV_lss, binV_leq, binV_gtr, binV_geq, unV_not, nt, nf, Bool.false_eq_true, dt, df, decide_true, decide_false, withV_some, aggO_some, ptrTo_eq, ↓aO_some, aO_some, ↓andB_true, andB_true, gz, gs, seqC, retC, skipC, exitC, blockC, condC, cells_agg, r25_1, agg_kind (bv kind) rfl, hst]
  generalize (h1.new (.rw Z7)).put h1.next (.rw [bv kind, .int .u8 0, .int .u8 0, .slice none 0 0, .int .u64 0, .bool false, .string (strB [])]) = h2 at *
  have k12 := k1.then k2
  have b4' := b4.keep0 k2
  have hr2 := hr.keep0 k12
  have hne : h.next ≠ h1.next := by omega
  refine hK _ _ _ (C.seq fun K hK => ?_)
  simp only [↓opStep_eq, ↓reduceIte, tg_set, toTm_cons, toTm_nil, fieldPtr_ptr, Nat.add_zero, Nat.zero_add, Nat.reduceAdd, Nat.reduceEqDiff, Int.reduceEq, Int.reduceLT, Int.reduceLE, Int.reduceNe, ↓kO_some, ↓kA_some, ↓kH_some, kO_some, kA_some, kH_some, gd_true, gd_false, nthD_zero, nthD_succ, isB_true, isB_false, isB_undef, pickV_true, pickV_false, binV_add, binV_sub, binV_mul, binV_eql, binV_neq, binV_lss, binV_leq, binV_gtr, binV_geq, unV_not, nt, nf, Bool.false_eq_true, dt, df, decide_true, decide_false, withV_some, aggO_some, ptrTo_eq, ↓aO_some, aO_some, ↓andB_true, andB_true, gz, gs, seqC, retC, skipC, exitC, blockC, condC, cells_agg, r25_2, hr2.len]
  refine hK _ _ _ (C.seq (C.seq fun K hK => ?_))
  simp only [↓opStep_eq, ↓reduceIte, tg_set, toTm_cons, toTm_nil, fieldPtr_ptr, Nat.add_zero, Nat.zero_add, Nat.reduceAdd, Nat.reduceEqDiff, Int.reduceEq, Int.reduceLT, Int.reduceLE, Int.reduceNe, ↓kO_some, ↓kA_some, ↓kH_some, kO_some, kA_some, kH_some, gd_true, gd_false, nthD_zero, nthD_succ, isB_true, isB_false, isB_undef, pickV_true, pickV_false, binV_add, binV_sub, binV_mul, binV_eql, binV_neq, binV_lss, binV_leq, binV_gtr, binV_geq, unV_not, nt, nf, Bool.false_eq_true, dt, df, decide_true, decide_false, withV_some, aggO_some, ptrTo_eq, ↓aO_some, aO_some, ↓andB_true, andB_true, gz, gs, seqC, retC, skipC, exitC, blockC, condC, cells_agg, r25_3, e1, eql_u8]
  have done : ∀ (tm : T Value) (hx : H) (g : Bool) (cs : List Value) (p : Option Ans), tg tm 4 = .pointer (some ⟨h.next, 0, none⟩) → tg tm 6 = .pointer (some ⟨h1.next, 0, none⟩) → tg tm 7 = .bool g → Has hx h.next (.rw Z7) → Has hx h1.next (.rw cs) → Shape7 (.agg cs.toArray) → InP p g hx (.agg cs.toArray) → Keep nobody h hx → pShape kind l = p →
      C ⟨seqC ⟨r25_11⟩ retC⟩ (CF L (n + 6)) L tm hx fun e tm' h' => (e = .norm ∨ e = .ret) ∧ ∃ q, q25.f tm' h' = some q ∧ OfQ (pShape kind l) h (resOf q) h' := fun tm hx g cs p t4 t6 t7 hb4 hb6 hs hp hk hpp => by
    refine (end25 (L := L) (n := n + 2) (p := p) hL t4 t6 t7 hb4 hne rfl hb6 hs hp hk (Nat.le_refl _)).mono fun e tm' h' q => ?_
    obtain ⟨q1, q, q2, b, q3, q4, q5⟩ := q
    rw [hpp]
    exact ⟨q1, q, q2, _, b, q3, q4, hs, q5⟩
  refine hK _ _ _ (C.cond (decide (kind = 1)) (by simp only [↓opStep_eq, ↓reduceIte, tg_set, toTm_cons, toTm_nil, fieldPtr_ptr, Nat.add_zero, Nat.zero_add, Nat.reduceAdd, Nat.reduceEqDiff, Int.reduceEq, Int.reduceLT, Int.reduceLE, Int.reduceNe, ↓kO_some, ↓kA_some, ↓kH_some, kO_some, kA_some, kH_some, gd_true, gd_false, nthD_zero, nthD_succ, isB_true, isB_false, isB_undef, pickV_true, pickV_false, binV_add, binV_sub, binV_mul, binV_eql, binV_neq, binV_lss, binV_leq, binV_gtr, binV_geq, unV_not, nt, nf, Bool.false_eq_true, dt, df, decide_true, decide_false, withV_some, aggO_some, ptrTo_eq, ↓aO_some, aO_some, ↓andB_true, andB_true, gz, gs, seqC, retC, skipC, exitC, blockC, condC, cells_agg]) (fun g1 => ?_) fun g1 => C.skip ?_)
  · have g1 : kind = 1 := of_decide_eq_true g1
    subst g1
    intro K hK
    simp only [↓opStep_eq, ↓reduceIte, tg_set, toTm_cons, toTm_nil, fieldPtr_ptr, Nat.add_zero, Nat.zero_add, Nat.reduceAdd, Nat.reduceEqDiff, Int.reduceEq, Int.reduceLT, Int.reduceLE, Int.reduceNe, ↓kO_some, ↓kA_some, ↓kH_some, kO_some, kA_some, kH_some, gd_true, gd_false, nthD_zero, nthD_succ, isB_true, isB_false, isB_undef, pickV_true, pickV_false, binV_add, binV_sub, binV_mul, binV_eql, binV_neq, binV_lss, binV_leq, binV_gtr, binV_geq, unV_not, nt, nf, Bool.false_eq_true, dt, df, decide_true, decide_false, withV_some, aggO_some, ptrTo_eq, ↓aO_some, aO_some, ↓andB_true, andB_true, gz, gs, seqC, retC, skipC, exitC, blockC, condC, cells_agg, r25_4]
    refine ref_result L (n + 1) v l h2 hr2 hL hl _ fun r h3 hv => ?_
    obtain ⟨av, b, rfl, k3, hsh, hp⟩ := hv
    obtain ⟨ds, e4, dl, _, e5⟩ := store7 (s := none) (b6.keep0 k3) rfl hsh
    simp only [tupNth_tuple, ↓opStep_eq, ↓reduceIte, tg_set, toTm_cons, toTm_nil, fieldPtr_ptr, Nat.add_zero, Nat.zero_add, Nat.reduceAdd, Nat.reduceEqDiff, Int.reduceEq, Int.reduceLT, Int.reduceLE, Int.reduceNe, ↓kO_some, ↓kA_some, ↓kH_some, kO_some, kA_some, kH_some, gd_true, gd_false, nthD_zero, nthD_succ, isB_true, isB_false, isB_undef, pickV_true, pickV_false, binV_add, binV_sub, binV_mul, binV_eql, binV_neq, binV_lss, binV_leq, binV_gtr, binV_geq, unV_not, nt, nf, Bool.false_eq_true, dt, df, decide_true, decide_false, withV_some, aggO_some, ptrTo_eq, ↓aO_some, aO_some, ↓andB_true, andB_true, gz, gs, seqC, retC, skipC, exitC, blockC, condC, cells_agg, e5]
    have d12 : ¬ ((1 : UInt8) = 2) := by decide
    have d13 : ¬ ((1 : UInt8) = 3) := by decide
    have d17 : ¬ ((1 : UInt8) = 7) := by decide
    refine hK _ _ _ (C.seq (C.seq fun K hK => ?_))
    simp only [↓opStep_eq, ↓reduceIte, tg_set, toTm_cons, toTm_nil, fieldPtr_ptr, Nat.add_zero, Nat.zero_add, Nat.reduceAdd, Nat.reduceEqDiff, Int.reduceEq, Int.reduceLT, Int.reduceLE, Int.reduceNe, ↓kO_some, ↓kA_some, ↓kH_some, kO_some, kA_some, kH_some, gd_true, gd_false, nthD_zero, nthD_succ, isB_true, isB_false, isB_undef, pickV_true, pickV_false, binV_add, binV_sub, binV_mul, binV_eql, binV_neq, binV_lss, binV_leq, binV_gtr, binV_geq, unV_not, nt, nf, Bool.false_eq_true, dt, df, decide_true, decide_false, withV_some, aggO_some, ptrTo_eq, ↓aO_some, aO_some, ↓andB_true, andB_true, gz, gs, seqC, retC, skipC, exitC, blockC, condC, cells_agg, r25_5, e2, e3, eql_u8, d12, d13]
    refine hK _ _ _ (C.cond false (by simp only [↓opStep_eq, ↓reduceIte, tg_set, toTm_cons, toTm_nil, fieldPtr_ptr, Nat.add_zero, Nat.zero_add, Nat.reduceAdd, Nat.reduceEqDiff, Int.reduceEq, Int.reduceLT, Int.reduceLE, Int.reduceNe, ↓kO_some, ↓kA_some, ↓kH_some, kO_some, kA_some, kH_some, gd_true, gd_false, nthD_zero, nthD_succ, isB_true, isB_false, isB_undef, pickV_true, pickV_false, binV_add, binV_sub, binV_mul, binV_eql, binV_neq, binV_lss, binV_leq, binV_gtr, binV_geq, unV_not, nt, nf, Bool.false_eq_true, dt, df, decide_true, decide_false, withV_some, aggO_some, ptrTo_eq, ↓aO_some, aO_some, ↓andB_true, andB_true, gz, gs, seqC, retC, skipC, exitC, blockC, condC, cells_agg]) (fun h => by cases h) fun _ => C.skip (C.seq (C.seq fun K hK => ?_)))
    simp only [↓opStep_eq, ↓reduceIte, tg_set, toTm_cons, toTm_nil, fieldPtr_ptr, Nat.add_zero, Nat.zero_add, Nat.reduceAdd, Nat.reduceEqDiff, Int.reduceEq, Int.reduceLT, Int.reduceLE, Int.reduceNe, ↓kO_some, ↓kA_some, ↓kH_some, kO_some, kA_some, kH_some, gd_true, gd_false, nthD_zero, nthD_succ, isB_true, isB_false, isB_undef, pickV_true, pickV_false, binV_add, binV_sub, binV_mul, binV_eql, binV_neq, binV_lss, binV_leq, binV_gtr, binV_geq, unV_not, nt, nf, Bool.false_eq_true, dt, df, decide_true, decide_false, withV_some, aggO_some, ptrTo_eq, ↓aO_some, aO_some, ↓andB_true, andB_true, gz, gs, seqC, retC, skipC, exitC, blockC, condC, cells_agg, r25_8, e7, eql_u8, d17]
    refine hK _ _ _ (C.cond false (by simp only [↓opStep_eq, ↓reduceIte, tg_set, toTm_cons, toTm_nil, fieldPtr_ptr, Nat.add_zero, Nat.zero_add, Nat.reduceAdd, Nat.reduceEqDiff, Int.reduceEq, Int.reduceLT, Int.reduceLE, Int.reduceNe, ↓kO_some, ↓kA_some, ↓kH_some, kO_some, kA_some, kH_some, gd_true, gd_false, nthD_zero, nthD_succ, isB_true, isB_false, isB_undef, pickV_true, pickV_false, binV_add, binV_sub, binV_mul, binV_eql, binV_neq, binV_lss, binV_leq, binV_gtr, binV_geq, unV_not, nt, nf, Bool.false_eq_true, dt, df, decide_true, decide_false, withV_some, aggO_some, ptrTo_eq, ↓aO_some, aO_some, ↓andB_true, andB_true, gz, gs, seqC, retC, skipC, exitC, blockC, condC, cells_agg]) (fun h => by cases h) fun _ => C.skip ?_)
    have kp := Keep.put h3 h1.next (.rw ds)
    have kall : Keep nobody h (h3.put h1.next (.rw ds)) := (k12.then k3).trans kp fun b hb e => by omega
    subst e4
    cases hres : pRes l with
    | none =>
      rw [hres] at hp
      exact done _ _ b ds none (by simp only [↓opStep_eq, ↓reduceIte, tg_set, toTm_cons, toTm_nil, fieldPtr_ptr, Nat.add_zero, Nat.zero_add, Nat.reduceAdd, Nat.reduceEqDiff, Int.reduceEq, Int.reduceLT, Int.reduceLE, Int.reduceNe, ↓kO_some, ↓kA_some, ↓kH_some, kO_some, kA_some, kH_some, gd_true, gd_false, nthD_zero, nthD_succ, isB_true, isB_false, isB_undef, pickV_true, pickV_false, binV_add, binV_sub, binV_mul, binV_eql, binV_neq, binV_lss, binV_leq, binV_gtr, binV_geq, unV_not, nt, nf, Bool.false_eq_true, dt, df, decide_true, decide_false, withV_some, aggO_some, ptrTo_eq, ↓aO_some, aO_some, ↓andB_true, andB_true, gz, gs, seqC, retC, skipC, exitC, blockC, condC, cells_agg]) (by simp only [↓opStep_eq, ↓reduceIte, tg_set, toTm_cons, toTm_nil, fieldPtr_ptr, Nat.add_zero, Nat.zero_add, Nat.reduceAdd, Nat.reduceEqDiff, Int.reduceEq, Int.reduceLT, Int.reduceLE, Int.reduceNe, ↓kO_some, ↓kA_some, ↓kH_some, kO_some, kA_some, kH_some, gd_true, gd_false, nthD_zero, nthD_succ, isB_true, isB_false, isB_undef, pickV_true, pickV_false, binV_add, binV_sub, binV_mul, binV_eql, binV_neq, binV_lss, binV_leq, binV_gtr, binV_geq, unV_not, nt, nf, Bool.false_eq_true, dt, df, decide_true, decide_false, withV_some, aggO_some, ptrTo_eq, ↓aO_some, aO_some, ↓andB_true, andB_true, gz, gs, seqC, retC, skipC, exitC, blockC, condC, cells_agg]) (by simp only [↓opStep_eq, ↓reduceIte, tg_set, toTm_cons, toTm_nil, fieldPtr_ptr, Nat.add_zero, Nat.zero_add, Nat.reduceAdd, Nat.reduceEqDiff, Int.reduceEq, Int.reduceLT, Int.reduceLE, Int.reduceNe, ↓kO_some, ↓kA_some, ↓kH_some, kO_some, kA_some, kH_some, gd_true, gd_false, nthD_zero, nthD_succ, isB_true, isB_false, isB_undef, pickV_true, pickV_false, binV_add, binV_sub, binV_mul, binV_eql, binV_neq, binV_lss, binV_leq, binV_gtr, binV_geq, unV_not, nt, nf, Bool.false_eq_true, dt, df, decide_true, decide_false, withV_some, aggO_some, ptrTo_eq, ↓aO_some, aO_some, ↓andB_true, andB_true, gz, gs, seqC, retC, skipC, exitC, blockC, condC, cells_agg]) ((b4'.keep0 k3).keep kp hne) (Has.put (b6.keep0 k3).1) hsh hp kall (by simp [pShape, hres])
    | some p =>
      obtain ⟨x0, x1, num, xs⟩ := p
      rw [hres] at hp
      obtain ⟨hb, h8, hnum, oks, iv, hav, mi⟩ := hp
      refine done _ _ b ds (some (resA x0 x1 num noIv xs)) (by simp only [↓opStep_eq, ↓reduceIte, tg_set, toTm_cons, toTm_nil, fieldPtr_ptr, Nat.add_zero, Nat.zero_add, Nat.reduceAdd, Nat.reduceEqDiff, Int.reduceEq, Int.reduceLT, Int.reduceLE, Int.reduceNe, ↓kO_some, ↓kA_some, ↓kH_some, kO_some, kA_some, kH_some, gd_true, gd_false, nthD_zero, nthD_succ, isB_true, isB_false, isB_undef, pickV_true, pickV_false, binV_add, binV_sub, binV_mul, binV_eql, binV_neq, binV_lss, binV_leq, binV_gtr, binV_geq, unV_not, nt, nf, Bool.false_eq_true, dt, df, decide_true, decide_false, withV_some, aggO_some, ptrTo_eq, ↓aO_some, aO_some, ↓andB_true, andB_true, gz, gs, seqC, retC, skipC, exitC, blockC, condC, cells_agg]) (by simp only [↓opStep_eq, ↓reduceIte, tg_set, toTm_cons, toTm_nil, fieldPtr_ptr, Nat.add_zero, Nat.zero_add, Nat.reduceAdd, Nat.reduceEqDiff, Int.reduceEq, Int.reduceLT, Int.reduceLE, Int.reduceNe, ↓kO_some, ↓kA_some, ↓kH_some, kO_some, kA_some, kH_some, gd_true, gd_false, nthD_zero, nthD_succ, isB_true, isB_false, isB_undef, pickV_true, pickV_false, binV_add, binV_sub, binV_mul, binV_eql, binV_neq, binV_lss, binV_leq, binV_gtr, binV_geq, unV_not, nt, nf, Bool.false_eq_true, dt, df, decide_true, decide_false, withV_some, aggO_some, ptrTo_eq, ↓aO_some, aO_some, ↓andB_true, andB_true, gz, gs, seqC, retC, skipC, exitC, blockC, condC, cells_agg]) (by simp only [↓opStep_eq, ↓reduceIte, tg_set, toTm_cons, toTm_nil, fieldPtr_ptr, Nat.add_zero, Nat.zero_add, Nat.reduceAdd, Nat.reduceEqDiff, Int.reduceEq, Int.reduceLT, Int.reduceLE, Int.reduceNe, ↓kO_some, ↓kA_some, ↓kH_some, kO_some, kA_some, kH_some, gd_true, gd_false, nthD_zero, nthD_succ, isB_true, isB_false, isB_undef, pickV_true, pickV_false, binV_add, binV_sub, binV_mul, binV_eql, binV_neq, binV_lss, binV_leq, binV_gtr, binV_geq, unV_not, nt, nf, Bool.false_eq_true, dt, df, decide_true, decide_false, withV_some, aggO_some, ptrTo_eq, ↓aO_some, aO_some, ↓andB_true, andB_true, gz, gs, seqC, retC, skipC, exitC, blockC, condC, cells_agg]) ((b4'.keep0 k3).keep kp hne) (Has.put (b6.keep0 k3).1) hsh ⟨hb, ⟨iv, hav, mi.keep kp fun c hc e => mi.ne (b6.keep0 k3) (e ▸ hc)⟩, h8, oks⟩ kall (by simp [pShape, hres])
  have g1 : ¬ kind = 1 := of_decide_eq_false g1
  refine C.seq (C.seq fun K hK => ?_)
  by_cases g2 : kind = 2 ∨ kind = 3
  · have hK' := hK
    have t25 : r25_5 (CF L (n + 6)) L = r25_5 (CF L (n + 6)) L := rfl
    have key : ∀ tm : T Value, tg tm 0 = bv kind → r25_5 (CF L (n + 6)) L tm [] h2 K = K .norm (T.set tm 25 (.bool true)) [] h2 := fun tm t0 => by
      rcases g2 with rfl | rfl
      · simp only [↓opStep_eq, ↓reduceIte, tg_set, toTm_cons, toTm_nil, fieldPtr_ptr, Nat.add_zero, Nat.zero_add, Nat.reduceAdd, Nat.reduceEqDiff, Int.reduceEq, Int.reduceLT, Int.reduceLE, Int.reduceNe, ↓kO_some, ↓kA_some, ↓kH_some, kO_some, kA_some, kH_some, gd_true, gd_false, nthD_zero, nthD_succ, isB_true, isB_false, isB_undef, pickV_true, pickV_false, binV_add, binV_sub, binV_mul, binV_eql, binV_neq, binV_lss, binV_leq, binV_gtr, binV_geq, unV_not, nt, nf, Bool.false_eq_true, dt, df, decide_true, decide_false, withV_some, aggO_some, ptrTo_eq, ↓aO_some, aO_some, ↓andB_true, andB_true, gz, gs, seqC, retC, skipC, exitC, blockC, condC, cells_agg, r25_5, t0, e2, e3, eql_u8]
      · have d : ¬ ((3 : UInt8) = 2) := by decide
        simp only [↓opStep_eq, ↓reduceIte, tg_set, toTm_cons, toTm_nil, fieldPtr_ptr, Nat.add_zero, Nat.zero_add, Nat.reduceAdd, Nat.reduceEqDiff, Int.reduceEq, Int.reduceLT, Int.reduceLE, Int.reduceNe, ↓kO_some, ↓kA_some, ↓kH_some, kO_some, kA_some, kH_some, gd_true, gd_false, nthD_zero, nthD_succ, isB_true, isB_false, isB_undef, pickV_true, pickV_false, binV_add, binV_sub, binV_mul, binV_eql, binV_neq, binV_lss, binV_leq, binV_gtr, binV_geq, unV_not, nt, nf, Bool.false_eq_true, dt, df, decide_true, decide_false, withV_some, aggO_some, ptrTo_eq, ↓aO_some, aO_some, ↓andB_true, andB_true, gz, gs, seqC, retC, skipC, exitC, blockC, condC, cells_agg, r25_5, t0, e2, e3, eql_u8, d]
    rw [show ∀ x : CodeT, (⟨x⟩ : Box CodeT).f = x from fun _ => rfl]
    rw [key _ (by simp only [↓opStep_eq, ↓reduceIte, tg_set, toTm_cons, toTm_nil, fieldPtr_ptr, Nat.add_zero, Nat.zero_add, Nat.reduceAdd, Nat.reduceEqDiff, Int.reduceEq, Int.reduceLT, Int.reduceLE, Int.reduceNe, ↓kO_some, ↓kA_some, ↓kH_some, kO_some, kA_some, kH_some, gd_true, gd_false, nthD_zero, nthD_succ, isB_true, isB_false, isB_undef, pickV_true, pickV_false, binV_add, binV_sub, binV_mul, binV_eql, binV_neq, binV_lss, binV_leq, binV_gtr, binV_geq, unV_not, nt, nf, Bool.false_eq_true, dt, df, decide_true, decide_false, withV_some, aggO_some, ptrTo_eq, ↓aO_some, aO_some, ↓andB_true, andB_true, gz, gs, seqC, retC, skipC, exitC, blockC, condC, cells_agg])]
    refine hK _ _ _ (C.cond true (by simp only [↓opStep_eq, ↓reduceIte, tg_set, toTm_cons, toTm_nil, fieldPtr_ptr, Nat.add_zero, Nat.zero_add, Nat.reduceAdd, Nat.reduceEqDiff, Int.reduceEq, Int.reduceLT, Int.reduceLE, Int.reduceNe, ↓kO_some, ↓kA_some, ↓kH_some, kO_some, kA_some, kH_some, gd_true, gd_false, nthD_zero, nthD_succ, isB_true, isB_false, isB_undef, pickV_true, pickV_false, binV_add, binV_sub, binV_mul, binV_eql, binV_neq, binV_lss, binV_leq, binV_gtr, binV_geq, unV_not, nt, nf, Bool.false_eq_true, dt, df, decide_true, decide_false, withV_some, aggO_some, ptrTo_eq, ↓aO_some, aO_some, ↓andB_true, andB_true, gz, gs, seqC, retC, skipC, exitC, blockC, condC, cells_agg]) (fun _ => C.seq fun K hK => ?_) fun h => by cases h)
    rw [show ∀ x : CodeT, (⟨x⟩ : Box CodeT).f = x from fun _ => rfl]
    rw [reg25_6 (v := v) (l := l) hr2 (by simp only [↓opStep_eq, ↓reduceIte, tg_set, toTm_cons, toTm_nil, fieldPtr_ptr, Nat.add_zero, Nat.zero_add, Nat.reduceAdd, Nat.reduceEqDiff, Int.reduceEq, Int.reduceLT, Int.reduceLE, Int.reduceNe, ↓kO_some, ↓kA_some, ↓kH_some, kO_some, kA_some, kH_some, gd_true, gd_false, nthD_zero, nthD_succ, isB_true, isB_false, isB_undef, pickV_true, pickV_false, binV_add, binV_sub, binV_mul, binV_eql, binV_neq, binV_lss, binV_leq, binV_gtr, binV_geq, unV_not, nt, nf, Bool.false_eq_true, dt, df, decide_true, decide_false, withV_some, aggO_some, ptrTo_eq, ↓aO_some, aO_some, ↓andB_true, andB_true, gz, gs, seqC, retC, skipC, exitC, blockC, condC, cells_agg])]
    refine hK _ _ _ fun K hK => ?_
    rw [show ∀ x : CodeT, (⟨x⟩ : Box CodeT).f = x from fun _ => rfl]
    rw [reg25_7 (v := v) (l := l) (b6 := h1.next) (kd := bv kind) (g := decide (l.length = 1 ∧ (l[0]?.getD 0).toNat < 2)) hr2 (by simp only [↓opStep_eq, ↓reduceIte, tg_set, toTm_cons, toTm_nil, fieldPtr_ptr, Nat.add_zero, Nat.zero_add, Nat.reduceAdd, Nat.reduceEqDiff, Int.reduceEq, Int.reduceLT, Int.reduceLE, Int.reduceNe, ↓kO_some, ↓kA_some, ↓kH_some, kO_some, kA_some, kH_some, gd_true, gd_false, nthD_zero, nthD_succ, isB_true, isB_false, isB_undef, pickV_true, pickV_false, binV_add, binV_sub, binV_mul, binV_eql, binV_neq, binV_lss, binV_leq, binV_gtr, binV_geq, unV_not, nt, nf, Bool.false_eq_true, dt, df, decide_true, decide_false, withV_some, aggO_some, ptrTo_eq, ↓aO_some, aO_some, ↓andB_true, andB_true, gz, gs, seqC, retC, skipC, exitC, blockC, condC, cells_agg]) (by simp only [↓opStep_eq, ↓reduceIte, tg_set, toTm_cons, toTm_nil, fieldPtr_ptr, Nat.add_zero, Nat.zero_add, Nat.reduceAdd, Nat.reduceEqDiff, Int.reduceEq, Int.reduceLT, Int.reduceLE, Int.reduceNe, ↓kO_some, ↓kA_some, ↓kH_some, kO_some, kA_some, kH_some, gd_true, gd_false, nthD_zero, nthD_succ, isB_true, isB_false, isB_undef, pickV_true, pickV_false, binV_add, binV_sub, binV_mul, binV_eql, binV_neq, binV_lss, binV_leq, binV_gtr, binV_geq, unV_not, nt, nf, Bool.false_eq_true, dt, df, decide_true, decide_false, withV_some, aggO_some, ptrTo_eq, ↓aO_some, aO_some, ↓andB_true, andB_true, gz, gs, seqC, retC, skipC, exitC, blockC, condC, cells_agg]) (by simp only [↓opStep_eq, ↓reduceIte, tg_set, toTm_cons, toTm_nil, fieldPtr_ptr, Nat.add_zero, Nat.zero_add, Nat.reduceAdd, Nat.reduceEqDiff, Int.reduceEq, Int.reduceLT, Int.reduceLE, Int.reduceNe, ↓kO_some, ↓kA_some, ↓kH_some, kO_some, kA_some, kH_some, gd_true, gd_false, nthD_zero, nthD_succ, isB_true, isB_false, isB_undef, pickV_true, pickV_false, binV_add, binV_sub, binV_mul, binV_eql, binV_neq, binV_lss, binV_leq, binV_gtr, binV_geq, unV_not, nt, nf, Bool.false_eq_true, dt, df, decide_true, decide_false, withV_some, aggO_some, ptrTo_eq, ↓aO_some, aO_some, ↓andB_true, andB_true, gz, gs, seqC, retC, skipC, exitC, blockC, condC, cells_agg]) (fun h => (of_decide_eq_true h).1) b6]
    have kp := Keep.put h2 h1.next (.rw [bv kind, .int .u8 0, .int .u8 0, noIv, .int .u64 0, .bool (decide (l.length = 1 ∧ (l[0]?.getD 0).toNat < 2) && decide ((l[0]?.getD 0).toNat = 1)), .string (strB [])])
    refine hK _ _ _ (C.seq (C.seq fun K hK => ?_))
    have d7 : ¬ kind = 7 := by rcases g2 with rfl | rfl <;> decide
    simp only [↓opStep_eq, ↓reduceIte, tg_set, toTm_cons, toTm_nil, fieldPtr_ptr, Nat.add_zero, Nat.zero_add, Nat.reduceAdd, Nat.reduceEqDiff, Int.reduceEq, Int.reduceLT, Int.reduceLE, Int.reduceNe, ↓kO_some, ↓kA_some, ↓kH_some, kO_some, kA_some, kH_some, gd_true, gd_false, nthD_zero, nthD_succ, isB_true, isB_false, isB_undef, pickV_true, pickV_false, binV_add, binV_sub, binV_mul, binV_eql, binV_neq, binV_lss, binV_leq, binV_gtr, binV_geq, unV_not, nt, nf, Bool.false_eq_true, dt, df, decide_true, decide_false, withV_some, aggO_some, ptrTo_eq, ↓aO_some, aO_some, ↓andB_true, andB_true, gz, gs, seqC, retC, skipC, exitC, blockC, condC, cells_agg, r25_8, e7, eql_u8, d7]
    refine hK _ _ _ (C.cond false (by simp only [↓opStep_eq, ↓reduceIte, tg_set, toTm_cons, toTm_nil, fieldPtr_ptr, Nat.add_zero, Nat.zero_add, Nat.reduceAdd, Nat.reduceEqDiff, Int.reduceEq, Int.reduceLT, Int.reduceLE, Int.reduceNe, ↓kO_some, ↓kA_some, ↓kH_some, kO_some, kA_some, kH_some, gd_true, gd_false, nthD_zero, nthD_succ, isB_true, isB_false, isB_undef, pickV_true, pickV_false, binV_add, binV_sub, binV_mul, binV_eql, binV_neq, binV_lss, binV_leq, binV_gtr, binV_geq, unV_not, nt, nf, Bool.false_eq_true, dt, df, decide_true, decide_false, withV_some, aggO_some, ptrTo_eq, ↓aO_some, aO_some, ↓andB_true, andB_true, gz, gs, seqC, retC, skipC, exitC, blockC, condC, cells_agg]) (fun h => by cases h) fun _ => C.skip ?_)
    have kall : Keep nobody h (h2.put h1.next (.rw [bv kind, .int .u8 0, .int .u8 0, noIv, .int .u64 0, .bool (decide (l.length = 1 ∧ (l[0]?.getD 0).toNat < 2) && decide ((l[0]?.getD 0).toNat = 1)), .string (strB [])])) := k12.trans kp fun b hb e => by omega
    by_cases hg : l.length = 1 ∧ (l[0]?.getD 0).toNat < 2
    · obtain ⟨y, rfl⟩ : ∃ y, l = [y] := List.length_eq_one_iff.1 hg.1
      have hy : y.toNat < 2 := by simpa using hg.2
      have hs : pShape kind [y] = some (plainA kind (decide (y.toNat = 1)) (strB [])) := by simp [pShape, g1, g2, hy]
      refine done _ _ (decide (([y] : List UInt8).length = 1 ∧ (([y] : List UInt8)[0]?.getD 0).toNat < 2)) _ (some (plainA kind (decide (y.toNat = 1)) (strB []))) (by simp only [↓opStep_eq, ↓reduceIte, tg_set, toTm_cons, toTm_nil, fieldPtr_ptr, Nat.add_zero, Nat.zero_add, Nat.reduceAdd, Nat.reduceEqDiff, Int.reduceEq, Int.reduceLT, Int.reduceLE, Int.reduceNe, ↓kO_some, ↓kA_some, ↓kH_some, kO_some, kA_some, kH_some, gd_true, gd_false, nthD_zero, nthD_succ, isB_true, isB_false, isB_undef, pickV_true, pickV_false, binV_add, binV_sub, binV_mul, binV_eql, binV_neq, binV_lss, binV_leq, binV_gtr, binV_geq, unV_not, nt, nf, Bool.false_eq_true, dt, df, decide_true, decide_false, withV_some, aggO_some, ptrTo_eq, ↓aO_some, aO_some, ↓andB_true, andB_true, gz, gs, seqC, retC, skipC, exitC, blockC, condC, cells_agg]) (by simp only [↓opStep_eq, ↓reduceIte, tg_set, toTm_cons, toTm_nil, fieldPtr_ptr, Nat.add_zero, Nat.zero_add, Nat.reduceAdd, Nat.reduceEqDiff, Int.reduceEq, Int.reduceLT, Int.reduceLE, Int.reduceNe, ↓kO_some, ↓kA_some, ↓kH_some, kO_some, kA_some, kH_some, gd_true, gd_false, nthD_zero, nthD_succ, isB_true, isB_false, isB_undef, pickV_true, pickV_false, binV_add, binV_sub, binV_mul, binV_eql, binV_neq, binV_lss, binV_leq, binV_gtr, binV_geq, unV_not, nt, nf, Bool.false_eq_true, dt, df, decide_true, decide_false, withV_some, aggO_some, ptrTo_eq, ↓aO_some, aO_some, ↓andB_true, andB_true, gz, gs, seqC, retC, skipC, exitC, blockC, condC, cells_agg]) (by simp only [tg_set, Nat.reduceEqDiff, reduceIte]) (b4'.keep kp hne) (Has.put b6.1) (plain_shape _ _ _) ?_ kall hs
      refine ⟨by simp [hy], ?_, by simp [plainA], by simp [plainA]⟩
      have : (decide (([y] : List UInt8).length = 1 ∧ (([y] : List UInt8)[0]?.getD 0).toNat < 2) && decide ((([y] : List UInt8)[0]?.getD 0).toNat = 1)) = decide (y.toNat = 1) := by simp [hy]
      rw [this]
      exact plain_got _ _ _ _
    · have hs : pShape kind l = none := by
        unfold pShape
        rw [if_neg g1, if_pos g2]
        split
        · rename_i y
          rw [if_neg (fun h => hg ⟨rfl, by simpa using h⟩)]
        · rfl
      exact done _ _ (decide (l.length = 1 ∧ (l[0]?.getD 0).toNat < 2)) _ none (by simp only [↓opStep_eq, ↓reduceIte, tg_set, toTm_cons, toTm_nil, fieldPtr_ptr, Nat.add_zero, Nat.zero_add, Nat.reduceAdd, Nat.reduceEqDiff, Int.reduceEq, Int.reduceLT, Int.reduceLE, Int.reduceNe, ↓kO_some, ↓kA_some, ↓kH_some, kO_some, kA_some, kH_some, gd_true, gd_false, nthD_zero, nthD_succ, isB_true, isB_false, isB_undef, pickV_true, pickV_false, binV_add, binV_sub, binV_mul, binV_eql, binV_neq, binV_lss, binV_leq, binV_gtr, binV_geq, unV_not, nt, nf, Bool.false_eq_true, dt, df, decide_true, decide_false, withV_some, aggO_some, ptrTo_eq, ↓aO_some, aO_some, ↓andB_true, andB_true, gz, gs, seqC, retC, skipC, exitC, blockC, condC, cells_agg]) (by simp only [↓opStep_eq, ↓reduceIte, tg_set, toTm_cons, toTm_nil, fieldPtr_ptr, Nat.add_zero, Nat.zero_add, Nat.reduceAdd, Nat.reduceEqDiff, Int.reduceEq, Int.reduceLT, Int.reduceLE, Int.reduceNe, ↓kO_some, ↓kA_some, ↓kH_some, kO_some, kA_some, kH_some, gd_true, gd_false, nthD_zero, nthD_succ, isB_true, isB_false, isB_undef, pickV_true, pickV_false, binV_add, binV_sub, binV_mul, binV_eql, binV_neq, binV_lss, binV_leq, binV_gtr, binV_geq, unV_not, nt, nf, Bool.false_eq_true, dt, df, decide_true, decide_false, withV_some, aggO_some, ptrTo_eq, ↓aO_some, aO_some, ↓andB_true, andB_true, gz, gs, seqC, retC, skipC, exitC, blockC, condC, cells_agg]) (by simp only [tg_set, Nat.reduceEqDiff, reduceIte]) (b4'.keep kp hne) (Has.put b6.1) (plain_shape _ _ _) (decide_eq_false hg) kall hs
  have key : ∀ tm : T Value, tg tm 0 = bv kind → r25_5 (CF L (n + 6)) L tm [] h2 K = K .norm (T.set tm 25 (.bool false)) [] h2 := fun tm t0 => by
    have d2 : ¬ kind = 2 := fun h => g2 (.inl h)
    have d3 : ¬ kind = 3 := fun h => g2 (.inr h)
    simp only [↓opStep_eq, ↓reduceIte, tg_set, toTm_cons, toTm_nil, fieldPtr_ptr, Nat.add_zero, Nat.zero_add, Nat.reduceAdd, Nat.reduceEqDiff, Int.reduceEq, Int.reduceLT, Int.reduceLE, Int.reduceNe, ↓kO_some, ↓kA_some, ↓kH_some, kO_some, kA_some, kH_some, gd_true, gd_false, nthD_zero, nthD_succ, isB_true, isB_false, isB_undef, pickV_true, pickV_false, binV_add, binV_sub, binV_mul, binV_eql, binV_neq, binV_lss, binV_leq, binV_gtr, binV_geq, unV_not, nt, nf, Bool.false_eq_true, dt, df, decide_true, decide_false, withV_some, aggO_some, ptrTo_eq, ↓aO_some, aO_some, ↓andB_true, andB_true, gz, gs, seqC, retC, skipC, exitC, blockC, condC, cells_agg, r25_5, t0, e2, e3, eql_u8, d2, d3]
  rw [show ∀ x : CodeT, (⟨x⟩ : Box CodeT).f = x from fun _ => rfl]
  rw [key _ (by simp only [↓opStep_eq, ↓reduceIte, tg_set, toTm_cons, toTm_nil, fieldPtr_ptr, Nat.add_zero, Nat.zero_add, Nat.reduceAdd, Nat.reduceEqDiff, Int.reduceEq, Int.reduceLT, Int.reduceLE, Int.reduceNe, ↓kO_some, ↓kA_some, ↓kH_some, kO_some, kA_some, kH_some, gd_true, gd_false, nthD_zero, nthD_succ, isB_true, isB_false, isB_undef, pickV_true, pickV_false, binV_add, binV_sub, binV_mul, binV_eql, binV_neq, binV_lss, binV_leq, binV_gtr, binV_geq, unV_not, nt, nf, Bool.false_eq_true, dt, df, decide_true, decide_false, withV_some, aggO_some, ptrTo_eq, ↓aO_some, aO_some, ↓andB_true, andB_true, gz, gs, seqC, retC, skipC, exitC, blockC, condC, cells_agg])]
  refine hK _ _ _ (C.cond false (by simp only [↓opStep_eq, ↓reduceIte, tg_set, toTm_cons, toTm_nil, fieldPtr_ptr, Nat.add_zero, Nat.zero_add, Nat.reduceAdd, Nat.reduceEqDiff, Int.reduceEq, Int.reduceLT, Int.reduceLE, Int.reduceNe, ↓kO_some, ↓kA_some, ↓kH_some, kO_some, kA_some, kH_some, gd_true, gd_false, nthD_zero, nthD_succ, isB_true, isB_false, isB_undef, pickV_true, pickV_false, binV_add, binV_sub, binV_mul, binV_eql, binV_neq, binV_lss, binV_leq, binV_gtr, binV_geq, unV_not, nt, nf, Bool.false_eq_true, dt, df, decide_true, decide_false, withV_some, aggO_some, ptrTo_eq, ↓aO_some, aO_some, ↓andB_true, andB_true, gz, gs, seqC, retC, skipC, exitC, blockC, condC, cells_agg]) (fun h => by cases h) fun _ => C.skip (C.seq (C.seq fun K hK => ?_)))
  simp only [↓opStep_eq, ↓reduceIte, tg_set, toTm_cons, toTm_nil, fieldPtr_ptr, Nat.add_zero, Nat.zero_add, Nat.reduceAdd, Nat.reduceEqDiff, Int.reduceEq, Int.reduceLT, Int.reduceLE, Int.reduceNe, ↓kO_some, ↓kA_some, ↓kH_some, kO_some, kA_some, kH_some, gd_true, gd_false, nthD_zero, nthD_succ, isB_true, isB_false, isB_undef, pickV_true, pickV_false, binV_add, binV_sub, binV_mul, binV_eql, binV_neq, binV_lss, binV_leq, binV_gtr, binV_geq, unV_not, nt, nf, Bool.false_eq_true, dt, df, decide_true, decide_false, withV_some, aggO_some, ptrTo_eq, ↓aO_some, aO_some, ↓andB_true, andB_true, gz, gs, seqC, retC, skipC, exitC, blockC, condC, cells_agg, r25_8, e7, eql_u8]
  refine hK _ _ _ (C.cond (decide (kind = 7)) (by simp only [↓opStep_eq, ↓reduceIte, tg_set, toTm_cons, toTm_nil, fieldPtr_ptr, Nat.add_zero, Nat.zero_add, Nat.reduceAdd, Nat.reduceEqDiff, Int.reduceEq, Int.reduceLT, Int.reduceLE, Int.reduceNe, ↓kO_some, ↓kA_some, ↓kH_some, kO_some, kA_some, kH_some, gd_true, gd_false, nthD_zero, nthD_succ, isB_true, isB_false, isB_undef, pickV_true, pickV_false, binV_add, binV_sub, binV_mul, binV_eql, binV_neq, binV_lss, binV_leq, binV_gtr, binV_geq, unV_not, nt, nf, Bool.false_eq_true, dt, df, decide_true, decide_false, withV_some, aggO_some, ptrTo_eq, ↓aO_some, aO_some, ↓andB_true, andB_true, gz, gs, seqC, retC, skipC, exitC, blockC, condC, cells_agg]) (fun g7 => ?_) fun g7 => C.skip ?_)
  · have g7 : kind = 7 := of_decide_eq_true g7
    have st := store_cell (o := 6) (s := none) (x := .string ⟨l.toArray⟩) b6 (by simp) rfl rfl
    simp only [List.set_cons_succ, List.set_cons_zero] at st
    refine C.seq fun K hK => hK .norm _ _ ?_
    intro K hK
    simp only [↓opStep_eq, ↓reduceIte, tg_set, toTm_cons, toTm_nil, fieldPtr_ptr, Nat.add_zero, Nat.zero_add, Nat.reduceAdd, Nat.reduceEqDiff, Int.reduceEq, Int.reduceLT, Int.reduceLE, Int.reduceNe, ↓kO_some, ↓kA_some, ↓kH_some, kO_some, kA_some, kH_some, gd_true, gd_false, nthD_zero, nthD_succ, isB_true, isB_false, isB_undef, pickV_true, pickV_false, binV_add, binV_sub, binV_mul, binV_eql, binV_neq, binV_lss, binV_leq, binV_gtr, binV_geq, unV_not, nt, nf, Bool.false_eq_true, dt, df, decide_true, decide_false, withV_some, aggO_some, ptrTo_eq, ↓aO_some, aO_some, ↓andB_true, andB_true, gz, gs, seqC, retC, skipC, exitC, blockC, condC, cells_agg, r25_10, hr2.str, st]
    have kp := Keep.put h2 h1.next (.rw [bv kind, .int .u8 0, .int .u8 0, .slice none 0 0, .int .u64 0, .bool false, .string ⟨l.toArray⟩])
    have kall : Keep nobody h (h2.put h1.next (.rw [bv kind, .int .u8 0, .int .u8 0, .slice none 0 0, .int .u64 0, .bool false, .string ⟨l.toArray⟩])) := k12.trans kp fun b hb e => by omega
    have hs : pShape kind l = some (plainA kind false ⟨l.toArray⟩) := by
      unfold pShape
      rw [if_neg g1, if_neg g2, if_pos g7]
    exact hK _ _ _ (done _ _ true _ (some (plainA kind false ⟨l.toArray⟩)) (by simp only [↓opStep_eq, ↓reduceIte, tg_set, toTm_cons, toTm_nil, fieldPtr_ptr, Nat.add_zero, Nat.zero_add, Nat.reduceAdd, Nat.reduceEqDiff, Int.reduceEq, Int.reduceLT, Int.reduceLE, Int.reduceNe, ↓kO_some, ↓kA_some, ↓kH_some, kO_some, kA_some, kH_some, gd_true, gd_false, nthD_zero, nthD_succ, isB_true, isB_false, isB_undef, pickV_true, pickV_false, binV_add, binV_sub, binV_mul, binV_eql, binV_neq, binV_lss, binV_leq, binV_gtr, binV_geq, unV_not, nt, nf, Bool.false_eq_true, dt, df, decide_true, decide_false, withV_some, aggO_some, ptrTo_eq, ↓aO_some, aO_some, ↓andB_true, andB_true, gz, gs, seqC, retC, skipC, exitC, blockC, condC, cells_agg]) (by simp only [↓opStep_eq, ↓reduceIte, tg_set, toTm_cons, toTm_nil, fieldPtr_ptr, Nat.add_zero, Nat.zero_add, Nat.reduceAdd, Nat.reduceEqDiff, Int.reduceEq, Int.reduceLT, Int.reduceLE, Int.reduceNe, ↓kO_some, ↓kA_some, ↓kH_some, kO_some, kA_some, kH_some, gd_true, gd_false, nthD_zero, nthD_succ, isB_true, isB_false, isB_undef, pickV_true, pickV_false, binV_add, binV_sub, binV_mul, binV_eql, binV_neq, binV_lss, binV_leq, binV_gtr, binV_geq, unV_not, nt, nf, Bool.false_eq_true, dt, df, decide_true, decide_false, withV_some, aggO_some, ptrTo_eq, ↓aO_some, aO_some, ↓andB_true, andB_true, gz, gs, seqC, retC, skipC, exitC, blockC, condC, cells_agg]) (by simp only [↓opStep_eq, ↓reduceIte, tg_set, toTm_cons, toTm_nil, fieldPtr_ptr, Nat.add_zero, Nat.zero_add, Nat.reduceAdd, Nat.reduceEqDiff, Int.reduceEq, Int.reduceLT, Int.reduceLE, Int.reduceNe, ↓kO_some, ↓kA_some, ↓kH_some, kO_some, kA_some, kH_some, gd_true, gd_false, nthD_zero, nthD_succ, isB_true, isB_false, isB_undef, pickV_true, pickV_false, binV_add, binV_sub, binV_mul, binV_eql, binV_neq, binV_lss, binV_leq, binV_gtr, binV_geq, unV_not, nt, nf, Bool.false_eq_true, dt, df, decide_true, decide_false, withV_some, aggO_some, ptrTo_eq, ↓aO_some, aO_some, ↓andB_true, andB_true, gz, gs, seqC, retC, skipC, exitC, blockC, condC, cells_agg]) (b4'.keep kp hne) (Has.put b6.1) (plain_shape _ _ _) ⟨rfl, plain_got _ _ _ _, by simp [plainA], by simp [plainA]⟩ kall hs)
  · have g7 : ¬ kind = 7 := of_decide_eq_false g7
    by_cases hn : (l.length : Int) = 0
    · have hn' : l = [] := List.length_eq_zero_iff.1 (by omega)
      have hs : pShape kind l = some (plainA kind false (strB [])) := by
        unfold pShape
        rw [if_neg g1, if_neg g2, if_neg g7, if_pos hn']
      exact done _ _ true _ (some (plainA kind false (strB []))) (by simp only [↓opStep_eq, ↓reduceIte, tg_set, toTm_cons, toTm_nil, fieldPtr_ptr, Nat.add_zero, Nat.zero_add, Nat.reduceAdd, Nat.reduceEqDiff, Int.reduceEq, Int.reduceLT, Int.reduceLE, Int.reduceNe, ↓kO_some, ↓kA_some, ↓kH_some, kO_some, kA_some, kH_some, gd_true, gd_false, nthD_zero, nthD_succ, isB_true, isB_false, isB_undef, pickV_true, pickV_false, binV_add, binV_sub, binV_mul, binV_eql, binV_neq, binV_lss, binV_leq, binV_gtr, binV_geq, unV_not, nt, nf, Bool.false_eq_true, dt, df, decide_true, decide_false, withV_some, aggO_some, ptrTo_eq, ↓aO_some, aO_some, ↓andB_true, andB_true, gz, gs, seqC, retC, skipC, exitC, blockC, condC, cells_agg]) (by simp only [↓opStep_eq, ↓reduceIte, tg_set, toTm_cons, toTm_nil, fieldPtr_ptr, Nat.add_zero, Nat.zero_add, Nat.reduceAdd, Nat.reduceEqDiff, Int.reduceEq, Int.reduceLT, Int.reduceLE, Int.reduceNe, ↓kO_some, ↓kA_some, ↓kH_some, kO_some, kA_some, kH_some, gd_true, gd_false, nthD_zero, nthD_succ, isB_true, isB_false, isB_undef, pickV_true, pickV_false, binV_add, binV_sub, binV_mul, binV_eql, binV_neq, binV_lss, binV_leq, binV_gtr, binV_geq, unV_not, nt, nf, Bool.false_eq_true, dt, df, decide_true, decide_false, withV_some, aggO_some, ptrTo_eq, ↓aO_some, aO_some, ↓andB_true, andB_true, gz, gs, seqC, retC, skipC, exitC, blockC, condC, cells_agg]) (by simp only [↓opStep_eq, ↓reduceIte, tg_set, toTm_cons, toTm_nil, fieldPtr_ptr, Nat.add_zero, Nat.zero_add, Nat.reduceAdd, Nat.reduceEqDiff, Int.reduceEq, Int.reduceLT, Int.reduceLE, Int.reduceNe, ↓kO_some, ↓kA_some, ↓kH_some, kO_some, kA_some, kH_some, gd_true, gd_false, nthD_zero, nthD_succ, isB_true, isB_false, isB_undef, pickV_true, pickV_false, binV_add, binV_sub, binV_mul, binV_eql, binV_neq, binV_lss, binV_leq, binV_gtr, binV_geq, unV_not, nt, nf, Bool.false_eq_true, dt, df, decide_true, decide_false, withV_some, aggO_some, ptrTo_eq, ↓aO_some, aO_some, ↓andB_true, andB_true, gz, gs, seqC, retC, skipC, exitC, blockC, condC, cells_agg, hn]) b4' b6 (plain_shape _ _ _) ⟨rfl, plain_got _ _ _ _, by simp [plainA], by simp [plainA]⟩ k12 hs
    · have hn' : ¬ l = [] := fun e => hn (by rw [e]; rfl)
      have hs : pShape kind l = none := by
        unfold pShape
        rw [if_neg g1, if_neg g2, if_neg g7, if_neg hn']
      exact done _ _ false _ none (by simp only [↓opStep_eq, ↓reduceIte, tg_set, toTm_cons, toTm_nil, fieldPtr_ptr, Nat.add_zero, Nat.zero_add, Nat.reduceAdd, Nat.reduceEqDiff, Int.reduceEq, Int.reduceLT, Int.reduceLE, Int.reduceNe, ↓kO_some, ↓kA_some, ↓kH_some, kO_some, kA_some, kH_some, gd_true, gd_false, nthD_zero, nthD_succ, isB_true, isB_false, isB_undef, pickV_true, pickV_false, binV_add, binV_sub, binV_mul, binV_eql, binV_neq, binV_lss, binV_leq, binV_gtr, binV_geq, unV_not, nt, nf, Bool.false_eq_true, dt, df, decide_true, decide_false, withV_some, aggO_some, ptrTo_eq, ↓aO_some, aO_some, ↓andB_true, andB_true, gz, gs, seqC, retC, skipC, exitC, blockC, condC, cells_agg]) (by simp only [↓opStep_eq, ↓reduceIte, tg_set, toTm_cons, toTm_nil, fieldPtr_ptr, Nat.add_zero, Nat.zero_add, Nat.reduceAdd, Nat.reduceEqDiff, Int.reduceEq, Int.reduceLT, Int.reduceLE, Int.reduceNe, ↓kO_some, ↓kA_some, ↓kH_some, kO_some, kA_some, kH_some, gd_true, gd_false, nthD_zero, nthD_succ, isB_true, isB_false, isB_undef, pickV_true, pickV_false, binV_add, binV_sub, binV_mul, binV_eql, binV_neq, binV_lss, binV_leq, binV_gtr, binV_geq, unV_not, nt, nf, Bool.false_eq_true, dt, df, decide_true, decide_false, withV_some, aggO_some, ptrTo_eq, ↓aO_some, aO_some, ↓andB_true, andB_true, gz, gs, seqC, retC, skipC, exitC, blockC, condC, cells_agg]) (by simp only [↓opStep_eq, ↓reduceIte, tg_set, toTm_cons, toTm_nil, fieldPtr_ptr, Nat.add_zero, Nat.zero_add, Nat.reduceAdd, Nat.reduceEqDiff, Int.reduceEq, Int.reduceLT, Int.reduceLE, Int.reduceNe, ↓kO_some, ↓kA_some, ↓kH_some, kO_some, kA_some, kH_some, gd_true, gd_false, nthD_zero, nthD_succ, isB_true, isB_false, isB_undef, pickV_true, pickV_false, binV_add, binV_sub, binV_mul, binV_eql, binV_neq, binV_lss, binV_leq, binV_gtr, binV_geq, unV_not, nt, nf, Bool.false_eq_true, dt, df, decide_true, decide_false, withV_some, aggO_some, ptrTo_eq, ↓aO_some, aO_some, ↓andB_true, andB_true, gz, gs, seqC, retC, skipC, exitC, blockC, condC, cells_agg, hn]) b4' b6 (plain_shape _ _ _) rfl k12 hs
end Go.Proofs.Ytpaolklbogakgaa
namespace Go.Proofs.Ytpaolklbogakgaa
open Go.Ev

/-- what a reader answers -/
def readR (l : List UInt8) : Option Ans × Nat × Int :=
  if (cutR 178 l).2.2.2 ≠ 0 ∨ (cutR 178 l).2.2.1 = 0 then (none, 0, (cutR 178 l).2.2.2) else match pOf (cutR 178 l).1 (cutR 178 l).2.1 with
  | none => (none, 0, 8)
  | some a => (some a, (cutR 178 l).2.2.1, 0)
def GotP (o : Option Ans) (h : H) (av : Value) : Prop := match o with
  | none => av = .agg Z7.toArray
  | some a => Got h a av
def ReadQ (q : Option Ans × Nat × Int) (h : H) (r : Value) (h' : H) : Prop := ∃ av, r = .tuple [av, .int .i64 (q.2.1 : Int), .int .i64 q.2.2].toArray ∧ Keep nobody h h' ∧ GotP q.1 h' av

theorem cutR_len (f : UInt8) (l : List UInt8) : (cutR f l).2.1.length ≤ l.length := by
  unfold cutR
  split
  · simp
  · split
    · split
      · simp
      · split
        · simp
        · split
          · simp
          · simp; omega
    · split <;> simp
    · simp

theorem ref_Read (L n : Nat) (v : Value) (l : List UInt8) (h : H) (hr : Rd h v l) (hL : 100 < L) (hl : l.length < 1000000) :
    Sp (CF L (n + 8)) 12 [v] h fun r h' => ReadQ (readR l) h r h' := by
  refine Sp.body f12 (by simp) ?_
  have e178 : Value.int .u8 178 = bv 178 := rfl
  have k1 := Keep.new h (.rw Z7)
  have b2 := Has.new h (.rw Z7)
  unfold c12
  refine C.seq fun K hK => ?_
  simp only [↓opStep_eq, ↓reduceIte, tg_set, toTm_cons, toTm_nil, fieldPtr_ptr, Nat.add_zero, Nat.zero_add, Nat.reduceAdd, Nat.reduceEqDiff, Int.reduceEq, Int.reduceLT, Int.reduceLE, Int.reduceNe, ↓kO_some, ↓kA_some, ↓kH_some, kO_some, kA_some, kH_some, gd_true, gd_false, nthD_zero, nthD_succ, isB_true, isB_false, isB_undef, pickV_true, pickV_false, binV_add, binV_sub, binV_mul, binV_eql, binV_neq, binV_lss, binV_leq, binV_gtr, binV_geq, unV_not, nt, nf, Bool.false_eq_true, dt, df, decide_true, decide_false, withV_some, aggO_some, ptrTo_eq, ↓aO_some, aO_some, ↓andB_true, andB_true, gz, gs, seqC, retC, skipC, exitC, blockC, condC, cells_agg, r12_0]
  generalize h.new (.rw Z7) = h1 at *
  refine hK _ _ _ (C.seq fun K hK => ?_)
  simp only [↓opStep_eq, ↓reduceIte, tg_set, toTm_cons, toTm_nil, fieldPtr_ptr, Nat.add_zero, Nat.zero_add, Nat.reduceAdd, Nat.reduceEqDiff, Int.reduceEq, Int.reduceLT, Int.reduceLE, Int.reduceNe, ↓kO_some, ↓kA_some, ↓kH_some, kO_some, kA_some, kH_some, gd_true, gd_false, nthD_zero, nthD_succ, isB_true, isB_false, isB_undef, pickV_true, pickV_false, binV_add, binV_sub, binV_mul, binV_eql, binV_neq, binV_lss, binV_leq, binV_gtr, binV_geq, unV_not, nt, nf, Bool.false_eq_true, dt, df, decide_true, decide_false, withV_some, aggO_some, ptrTo_eq, ↓aO_some, aO_some, ↓andB_true, andB_true, gz, gs, seqC, retC, skipC, exitC, blockC, condC, cells_agg, r12_1, e178]
  refine ref_cut L (n + 5) 178 v l h1 (hr.keep0 k1) hl _ fun r h2 hv => ?_
  obtain ⟨y, rfl, my, k2⟩ := hv
  have hlen := cutR_len 178 l
  have ry := rd_of_mine my (by omega)
  simp only [tupNth_tuple, ↓opStep_eq, ↓reduceIte, tg_set, toTm_cons, toTm_nil, fieldPtr_ptr, Nat.add_zero, Nat.zero_add, Nat.reduceAdd, Nat.reduceEqDiff, Int.reduceEq, Int.reduceLT, Int.reduceLE, Int.reduceNe, ↓kO_some, ↓kA_some, ↓kH_some, kO_some, kA_some, kH_some, gd_true, gd_false, nthD_zero, nthD_succ, isB_true, isB_false, isB_undef, pickV_true, pickV_false, binV_add, binV_sub, binV_mul, binV_eql, binV_neq, binV_lss, binV_leq, binV_gtr, binV_geq, unV_not, nt, nf, Bool.false_eq_true, dt, df, decide_true, decide_false, withV_some, aggO_some, ptrTo_eq, ↓aO_some, aO_some, ↓andB_true, andB_true, gz, gs, seqC, retC, skipC, exitC, blockC, condC, cells_agg]
  have b2' := b2.keep0 k2
  have z7 := agg_zero
  have putz : ∀ (hx : H) (s), Has hx h.next (.rw Z7) → storeV 7 hx (.pointer (some ⟨h.next, 0, s⟩)) (.agg Z7.toArray) = some (hx.put h.next (.rw Z7)) := fun hx s hb => by
    obtain ⟨ds, e1, _, _, e2⟩ := store7 (s := s) hb rfl z7_shape
    have : ds = Z7 := by simpa using e1.symm
    rw [e2, this]
  have keepz : ∀ (hx : H) (x : AObj), Keep nobody h hx → Keep nobody h (hx.put h.next x) := fun hx x k => k.trans (Keep.put hx h.next _) fun b hb e => by omega
  refine hK _ _ _ (C.seq (C.seq fun K hK => ?_))
  have cond12 : ∀ tm : T Value, tg tm 8 = .int .i64 (cutR 178 l).2.2.2 → tg tm 7 = .int .i64 ((cutR 178 l).2.2.1 : Int) → r12_2 (CF L (n + 7)) L tm [] h2 K = K .norm (T.set tm 23 (.bool (decide ((cutR 178 l).2.2.2 ≠ 0 ∨ (cutR 178 l).2.2.1 = 0)))) [] h2 := fun tm t8 t7 => by
    by_cases g1 : (cutR 178 l).2.2.2 = 0
    · by_cases g2 : ((cutR 178 l).2.2.1 : Int) = 0
      · simp only [↓opStep_eq, ↓reduceIte, tg_set, toTm_cons, toTm_nil, fieldPtr_ptr, Nat.add_zero, Nat.zero_add, Nat.reduceAdd, Nat.reduceEqDiff, Int.reduceEq, Int.reduceLT, Int.reduceLE, Int.reduceNe, ↓kO_some, ↓kA_some, ↓kH_some, kO_some, kA_some, kH_some, gd_true, gd_false, nthD_zero, nthD_succ, isB_true, isB_false, isB_undef, pickV_true, pickV_false, binV_add, binV_sub, binV_mul, binV_eql, binV_neq, binV_lss, binV_leq, binV_gtr, binV_geq, unV_not, nt, nf, Bool.false_eq_true, dt, df, decide_true, decide_false, withV_some, aggO_some, ptrTo_eq, ↓aO_some, aO_some, ↓andB_true, andB_true, gz, gs, seqC, retC, skipC, exitC, blockC, condC, cells_agg, r12_2, t8, t7, g1, g2]
        simp [show (cutR 178 l).2.2.1 = 0 by omega]
      · simp only [↓opStep_eq, ↓reduceIte, tg_set, toTm_cons, toTm_nil, fieldPtr_ptr, Nat.add_zero, Nat.zero_add, Nat.reduceAdd, Nat.reduceEqDiff, Int.reduceEq, Int.reduceLT, Int.reduceLE, Int.reduceNe, ↓kO_some, ↓kA_some, ↓kH_some, kO_some, kA_some, kH_some, gd_true, gd_false, nthD_zero, nthD_succ, isB_true, isB_false, isB_undef, pickV_true, pickV_false, binV_add, binV_sub, binV_mul, binV_eql, binV_neq, binV_lss, binV_leq, binV_gtr, binV_geq, unV_not, nt, nf, Bool.false_eq_true, dt, df, decide_true, decide_false, withV_some, aggO_some, ptrTo_eq, ↓aO_some, aO_some, ↓andB_true, andB_true, gz, gs, seqC, retC, skipC, exitC, blockC, condC, cells_agg, r12_2, t8, t7, g1, g2]
        simp [show ¬ (cutR 178 l).2.2.1 = 0 by omega]
    · simp only [↓opStep_eq, ↓reduceIte, tg_set, toTm_cons, toTm_nil, fieldPtr_ptr, Nat.add_zero, Nat.zero_add, Nat.reduceAdd, Nat.reduceEqDiff, Int.reduceEq, Int.reduceLT, Int.reduceLE, Int.reduceNe, ↓kO_some, ↓kA_some, ↓kH_some, kO_some, kA_some, kH_some, gd_true, gd_false, nthD_zero, nthD_succ, isB_true, isB_false, isB_undef, pickV_true, pickV_false, binV_add, binV_sub, binV_mul, binV_eql, binV_neq, binV_lss, binV_leq, binV_gtr, binV_geq, unV_not, nt, nf, Bool.false_eq_true, dt, df, decide_true, decide_false, withV_some, aggO_some, ptrTo_eq, ↓aO_some, aO_some, ↓andB_true, andB_true, gz, gs, seqC, retC, skipC, exitC, blockC, condC, cells_agg, r12_2, t8, t7, g1]
      simp [g1]
  rw [show ∀ x : CodeT, (⟨x⟩ : Box CodeT).f = x from fun _ => rfl]
  rw [cond12 _ (by simp only [↓opStep_eq, ↓reduceIte, tg_set, toTm_cons, toTm_nil, fieldPtr_ptr, Nat.add_zero, Nat.zero_add, Nat.reduceAdd, Nat.reduceEqDiff, Int.reduceEq, Int.reduceLT, Int.reduceLE, Int.reduceNe, ↓kO_some, ↓kA_some, ↓kH_some, kO_some, kA_some, kH_some, gd_true, gd_false, nthD_zero, nthD_succ, isB_true, isB_false, isB_undef, pickV_true, pickV_false, binV_add, binV_sub, binV_mul, binV_eql, binV_neq, binV_lss, binV_leq, binV_gtr, binV_geq, unV_not, nt, nf, Bool.false_eq_true, dt, df, decide_true, decide_false, withV_some, aggO_some, ptrTo_eq, ↓aO_some, aO_some, ↓andB_true, andB_true, gz, gs, seqC, retC, skipC, exitC, blockC, condC, cells_agg]) (by simp only [↓opStep_eq, ↓reduceIte, tg_set, toTm_cons, toTm_nil, fieldPtr_ptr, Nat.add_zero, Nat.zero_add, Nat.reduceAdd, Nat.reduceEqDiff, Int.reduceEq, Int.reduceLT, Int.reduceLE, Int.reduceNe, ↓kO_some, ↓kA_some, ↓kH_some, kO_some, kA_some, kH_some, gd_true, gd_false, nthD_zero, nthD_succ, isB_true, isB_false, isB_undef, pickV_true, pickV_false, binV_add, binV_sub, binV_mul, binV_eql, binV_neq, binV_lss, binV_leq, binV_gtr, binV_geq, unV_not, nt, nf, Bool.false_eq_true, dt, df, decide_true, decide_false, withV_some, aggO_some, ptrTo_eq, ↓aO_some, aO_some, ↓andB_true, andB_true, gz, gs, seqC, retC, skipC, exitC, blockC, condC, cells_agg])]
  refine hK _ _ _ (C.cond (decide ((cutR 178 l).2.2.2 ≠ 0 ∨ (cutR 178 l).2.2.1 = 0)) (by simp only [↓opStep_eq, ↓reduceIte, tg_set, toTm_cons, toTm_nil, fieldPtr_ptr, Nat.add_zero, Nat.zero_add, Nat.reduceAdd, Nat.reduceEqDiff, Int.reduceEq, Int.reduceLT, Int.reduceLE, Int.reduceNe, ↓kO_some, ↓kA_some, ↓kH_some, kO_some, kA_some, kH_some, gd_true, gd_false, nthD_zero, nthD_succ, isB_true, isB_false, isB_undef, pickV_true, pickV_false, binV_add, binV_sub, binV_mul, binV_eql, binV_neq, binV_lss, binV_leq, binV_gtr, binV_geq, unV_not, nt, nf, Bool.false_eq_true, dt, df, decide_true, decide_false, withV_some, aggO_some, ptrTo_eq, ↓aO_some, aO_some, ↓andB_true, andB_true, gz, gs, seqC, retC, skipC, exitC, blockC, condC, cells_agg]) (fun g => C.seq fun K hK => ?_) fun g => C.skip ?_)
  · have g := of_decide_eq_true g
    have hR : readR l = (none, 0, (cutR 178 l).2.2.2) := by unfold readR; rw [if_pos g]
    simp only [↓opStep_eq, ↓reduceIte, tg_set, toTm_cons, toTm_nil, fieldPtr_ptr, Nat.add_zero, Nat.zero_add, Nat.reduceAdd, Nat.reduceEqDiff, Int.reduceEq, Int.reduceLT, Int.reduceLE, Int.reduceNe, ↓kO_some, ↓kA_some, ↓kH_some, kO_some, kA_some, kH_some, gd_true, gd_false, nthD_zero, nthD_succ, isB_true, isB_false, isB_undef, pickV_true, pickV_false, binV_add, binV_sub, binV_mul, binV_eql, binV_neq, binV_lss, binV_leq, binV_gtr, binV_geq, unV_not, nt, nf, Bool.false_eq_true, dt, df, decide_true, decide_false, withV_some, aggO_some, ptrTo_eq, ↓aO_some, aO_some, ↓andB_true, andB_true, gz, gs, seqC, retC, skipC, exitC, blockC, condC, cells_agg, r12_3, agg_zero, putz _ _ b2']
    refine hK _ _ _ (C.ret ⟨.inr rfl, [.agg Z7.toArray, .int .i64 0, .int .i64 (cutR 178 l).2.2.2], ?_, .agg Z7.toArray, ?_, keepz _ _ (k1.then k2), ?_⟩)
    · simp only [q12, ↓opStep_eq, ↓reduceIte, tg_set, toTm_cons, toTm_nil, fieldPtr_ptr, Nat.add_zero, Nat.zero_add, Nat.reduceAdd, Nat.reduceEqDiff, Int.reduceEq, Int.reduceLT, Int.reduceLE, Int.reduceNe, ↓kO_some, ↓kA_some, ↓kH_some, kO_some, kA_some, kH_some, gd_true, gd_false, nthD_zero, nthD_succ, isB_true, isB_false, isB_undef, pickV_true, pickV_false, binV_add, binV_sub, binV_mul, binV_eql, binV_neq, binV_lss, binV_leq, binV_gtr, binV_geq, unV_not, nt, nf, Bool.false_eq_true, dt, df, decide_true, decide_false, withV_some, aggO_some, ptrTo_eq, ↓aO_some, aO_some, ↓andB_true, andB_true, gz, gs, seqC, retC, skipC, exitC, blockC, condC, cells_agg, load7 (cs := Z7) (Has.put b2'.1) rfl]
    · rw [hR]; rfl
    · rw [hR]; rfl
  have g := of_decide_eq_false g
  refine C.seq fun K hK => ?_
  simp only [↓opStep_eq, ↓reduceIte, tg_set, toTm_cons, toTm_nil, fieldPtr_ptr, Nat.add_zero, Nat.zero_add, Nat.reduceAdd, Nat.reduceEqDiff, Int.reduceEq, Int.reduceLT, Int.reduceLE, Int.reduceNe, ↓kO_some, ↓kA_some, ↓kH_some, kO_some, kA_some, kH_some, gd_true, gd_false, nthD_zero, nthD_succ, isB_true, isB_false, isB_undef, pickV_true, pickV_false, binV_add, binV_sub, binV_mul, binV_eql, binV_neq, binV_lss, binV_leq, binV_gtr, binV_geq, unV_not, nt, nf, Bool.false_eq_true, dt, df, decide_true, decide_false, withV_some, aggO_some, ptrTo_eq, ↓aO_some, aO_some, ↓andB_true, andB_true, gz, gs, seqC, retC, skipC, exitC, blockC, condC, cells_agg, r12_4]
  refine ref_of L n (cutR 178 l).1 y (cutR 178 l).2.1 h2 ry hL (by omega) _ fun r h3 hv => ?_
  obtain ⟨av, b, rfl, k3, hsh, hp⟩ := hv
  obtain ⟨ds, hds, dl, d1⟩ := hsh
  subst hds
  have hst := store_new h3 7 none Z7 (.agg ds.toArray) rfl (by simpa using dl) (by simpa using d1)
  have hcc : (Value.cells (.agg ds.toArray)).toList = ds := by simp
  rw [hcc] at hst
  have k4 := keep_alloc h3 (.rw Z7) (.rw ds)
  have b9 := has_alloc h3 (.rw Z7) (.rw ds)
  simp only [tupNth_tuple, ↓opStep_eq, ↓reduceIte, tg_set, toTm_cons, toTm_nil, fieldPtr_ptr, Nat.add_zero, Nat.zero_add, Nat.reduceAdd, Nat.reduceEqDiff, Int.reduceEq, Int.reduceLT, Int.reduceLE, Int.reduceNe, ↓kO_some, ↓kA_some, ↓kH_some, kO_some, kA_some, kH_some, gd_true, gd_false, nthD_zero, nthD_succ, isB_true, isB_false, isB_undef, pickV_true, pickV_false, binV_add, binV_sub, binV_mul, binV_eql, binV_neq, binV_lss, binV_leq, binV_gtr, binV_geq, unV_not, nt, nf, Bool.false_eq_true, dt, df, decide_true, decide_false, withV_some, aggO_some, ptrTo_eq, ↓aO_some, aO_some, ↓andB_true, andB_true, gz, gs, seqC, retC, skipC, exitC, blockC, condC, cells_agg, hst]
  generalize (h3.new (.rw Z7)).put h3.next (.rw ds) = h4 at *
  have kall := ((k1.then k2).then k3).then k4
  have b2'' := (b2'.keep0 k3).keep0 k4
  refine hK _ _ _ (C.seq (C.seq fun K hK => ?_))
  simp only [↓opStep_eq, ↓reduceIte, tg_set, toTm_cons, toTm_nil, fieldPtr_ptr, Nat.add_zero, Nat.zero_add, Nat.reduceAdd, Nat.reduceEqDiff, Int.reduceEq, Int.reduceLT, Int.reduceLE, Int.reduceNe, ↓kO_some, ↓kA_some, ↓kH_some, kO_some, kA_some, kH_some, gd_true, gd_false, nthD_zero, nthD_succ, isB_true, isB_false, isB_undef, pickV_true, pickV_false, binV_add, binV_sub, binV_mul, binV_eql, binV_neq, binV_lss, binV_leq, binV_gtr, binV_geq, unV_not, nt, nf, Bool.false_eq_true, dt, df, decide_true, decide_false, withV_some, aggO_some, ptrTo_eq, ↓aO_some, aO_some, ↓andB_true, andB_true, gz, gs, seqC, retC, skipC, exitC, blockC, condC, cells_agg, r12_5]
  -- is it one?
  have hpOf : pOf (cutR 178 l).1 (cutR 178 l).2.1 = match pShape (cutR 178 l).1 (cutR 178 l).2.1 with | some a => if mayB a then some a else none | none => none := rfl
  have bad : b = false → readR l = (none, 0, 8) := fun hb => by
    unfold readR
    rw [if_neg g, hpOf]
    cases hs : pShape (cutR 178 l).1 (cutR 178 l).2.1 with
    | none => rfl
    | some a =>
      rw [hs] at hp
      have : mayB a = false := by rw [← hp.1]; exact hb
      simp [this]
  cases b
  · refine hK _ _ _ (C.cond true (by simp only [↓opStep_eq, ↓reduceIte, tg_set, toTm_cons, toTm_nil, fieldPtr_ptr, Nat.add_zero, Nat.zero_add, Nat.reduceAdd, Nat.reduceEqDiff, Int.reduceEq, Int.reduceLT, Int.reduceLE, Int.reduceNe, ↓kO_some, ↓kA_some, ↓kH_some, kO_some, kA_some, kH_some, gd_true, gd_false, nthD_zero, nthD_succ, isB_true, isB_false, isB_undef, pickV_true, pickV_false, binV_add, binV_sub, binV_mul, binV_eql, binV_neq, binV_lss, binV_leq, binV_gtr, binV_geq, unV_not, nt, nf, Bool.false_eq_true, dt, df, decide_true, decide_false, withV_some, aggO_some, ptrTo_eq, ↓aO_some, aO_some, ↓andB_true, andB_true, gz, gs, seqC, retC, skipC, exitC, blockC, condC, cells_agg]) (fun _ => C.seq fun K hK => ?_) fun h => by cases h)
    simp only [↓opStep_eq, ↓reduceIte, tg_set, toTm_cons, toTm_nil, fieldPtr_ptr, Nat.add_zero, Nat.zero_add, Nat.reduceAdd, Nat.reduceEqDiff, Int.reduceEq, Int.reduceLT, Int.reduceLE, Int.reduceNe, ↓kO_some, ↓kA_some, ↓kH_some, kO_some, kA_some, kH_some, gd_true, gd_false, nthD_zero, nthD_succ, isB_true, isB_false, isB_undef, pickV_true, pickV_false, binV_add, binV_sub, binV_mul, binV_eql, binV_neq, binV_lss, binV_leq, binV_gtr, binV_geq, unV_not, nt, nf, Bool.false_eq_true, dt, df, decide_true, decide_false, withV_some, aggO_some, ptrTo_eq, ↓aO_some, aO_some, ↓andB_true, andB_true, gz, gs, seqC, retC, skipC, exitC, blockC, condC, cells_agg, r12_6, agg_zero, putz _ _ b2'']
    refine hK _ _ _ (C.ret ⟨.inr rfl, [.agg Z7.toArray, .int .i64 0, .int .i64 8], ?_, .agg Z7.toArray, ?_, keepz _ _ kall, ?_⟩)
    · simp only [q12, ↓opStep_eq, ↓reduceIte, tg_set, toTm_cons, toTm_nil, fieldPtr_ptr, Nat.add_zero, Nat.zero_add, Nat.reduceAdd, Nat.reduceEqDiff, Int.reduceEq, Int.reduceLT, Int.reduceLE, Int.reduceNe, ↓kO_some, ↓kA_some, ↓kH_some, kO_some, kA_some, kH_some, gd_true, gd_false, nthD_zero, nthD_succ, isB_true, isB_false, isB_undef, pickV_true, pickV_false, binV_add, binV_sub, binV_mul, binV_eql, binV_neq, binV_lss, binV_leq, binV_gtr, binV_geq, unV_not, nt, nf, Bool.false_eq_true, dt, df, decide_true, decide_false, withV_some, aggO_some, ptrTo_eq, ↓aO_some, aO_some, ↓andB_true, andB_true, gz, gs, seqC, retC, skipC, exitC, blockC, condC, cells_agg, load7 (cs := Z7) (Has.put b2''.1) rfl]
    · rw [bad rfl]; rfl
    · rw [bad rfl]; rfl
  · refine hK _ _ _ (C.cond false (by simp only [↓opStep_eq, ↓reduceIte, tg_set, toTm_cons, toTm_nil, fieldPtr_ptr, Nat.add_zero, Nat.zero_add, Nat.reduceAdd, Nat.reduceEqDiff, Int.reduceEq, Int.reduceLT, Int.reduceLE, Int.reduceNe, ↓kO_some, ↓kA_some, ↓kH_some, kO_some, kA_some, kH_some, gd_true, gd_false, nthD_zero, nthD_succ, isB_true, isB_false, isB_undef, pickV_true, pickV_false, binV_add, binV_sub, binV_mul, binV_eql, binV_neq, binV_lss, binV_leq, binV_gtr, binV_geq, unV_not, nt, nf, Bool.false_eq_true, dt, df, decide_true, decide_false, withV_some, aggO_some, ptrTo_eq, ↓aO_some, aO_some, ↓andB_true, andB_true, gz, gs, seqC, retC, skipC, exitC, blockC, condC, cells_agg]) (fun h => by cases h) fun _ => C.skip (C.seq fun K hK => ?_))
    have hne : h3.next ≠ h.next := by have := ((k1.then k2).then k3).next; have := b2.1; have := (k2.then k3).next; omega
    obtain ⟨ds', e5, _, _, e6⟩ := store7 (s := none) b2'' rfl ⟨ds, rfl, dl, d1⟩
    have : ds = ds' := by simpa using e5
    subst this
    simp only [↓opStep_eq, ↓reduceIte, tg_set, toTm_cons, toTm_nil, fieldPtr_ptr, Nat.add_zero, Nat.zero_add, Nat.reduceAdd, Nat.reduceEqDiff, Int.reduceEq, Int.reduceLT, Int.reduceLE, Int.reduceNe, ↓kO_some, ↓kA_some, ↓kH_some, kO_some, kA_some, kH_some, gd_true, gd_false, nthD_zero, nthD_succ, isB_true, isB_false, isB_undef, pickV_true, pickV_false, binV_add, binV_sub, binV_mul, binV_eql, binV_neq, binV_lss, binV_leq, binV_gtr, binV_geq, unV_not, nt, nf, Bool.false_eq_true, dt, df, decide_true, decide_false, withV_some, aggO_some, ptrTo_eq, ↓aO_some, aO_some, ↓andB_true, andB_true, gz, gs, seqC, retC, skipC, exitC, blockC, condC, cells_agg, r12_7, load7 b9 dl, e6]
    refine hK _ _ _ (C.ret ⟨.inr rfl, [.agg ds.toArray, .int .i64 ((cutR 178 l).2.2.1 : Int), .int .i64 0], ?_, .agg ds.toArray, ?_, keepz _ _ kall, ?_⟩)
    · simp only [q12, ↓opStep_eq, ↓reduceIte, tg_set, toTm_cons, toTm_nil, fieldPtr_ptr, Nat.add_zero, Nat.zero_add, Nat.reduceAdd, Nat.reduceEqDiff, Int.reduceEq, Int.reduceLT, Int.reduceLE, Int.reduceNe, ↓kO_some, ↓kA_some, ↓kH_some, kO_some, kA_some, kH_some, gd_true, gd_false, nthD_zero, nthD_succ, isB_true, isB_false, isB_undef, pickV_true, pickV_false, binV_add, binV_sub, binV_mul, binV_eql, binV_neq, binV_lss, binV_leq, binV_gtr, binV_geq, unV_not, nt, nf, Bool.false_eq_true, dt, df, decide_true, decide_false, withV_some, aggO_some, ptrTo_eq, ↓aO_some, aO_some, ↓andB_true, andB_true, gz, gs, seqC, retC, skipC, exitC, blockC, condC, cells_agg, load7 (Has.put b2''.1) dl]
    all_goals
      cases hs : pShape (cutR 178 l).1 (cutR 178 l).2.1 with
      | none => rw [hs] at hp; cases hp
      | some a =>
        rw [hs] at hp
        obtain ⟨hb, iv, q1, q2⟩ := hp
        have hR : readR l = (some a, (cutR 178 l).2.2.1, 0) := by
          unfold readR
          rw [if_neg g, hpOf, hs]
          simp [← hb]
        rw [hR]
        first
          | rfl
          | exact ⟨iv, q1, (q2.keep0 k4).keep (Keep.put _ _ _) fun c hc e => (q2.keep0 k4).ne b2'' (e ▸ hc)⟩
end Go.Proofs.Ytpaolklbogakgaa
namespace Go.Proofs.Ytpaolklbogakgaa
open Go.Ev

/-! an item as the reader takes it: two texts, three numbers, one behind the other -/
def T1 (l : List UInt8) := txtS l
def T2 (l : List UInt8) := txtS (T1 l).2.1
def N1 (l : List UInt8) := numS (T2 l).2.1
def N2 (l : List UInt8) := numS (N1 l).2.1
def N3 (l : List UInt8) := numS (N2 l).2.1
def okF (l : List UInt8) : Bool := (T1 l).2.2 && (T2 l).2.2 && (N1 l).2.2 && (N2 l).2.2 && (N3 l).2.2
def itF (l : List UInt8) : Itm := ⟨⟨(T1 l).1.toArray⟩, ⟨(T2 l).1.toArray⟩, (N1 l).1, (N2 l).1, (N3 l).1⟩

theorem txtS_nil : txtS [] = ([], [], false) := by simp [txtS, cutS, rd]
theorem numS_nil : numS [] = (0, [], false) := by simp [numS, rd]
theorem txtS_len (l : List UInt8) : (txtS l).2.1.length ≤ l.length := by
  unfold txtS
  cases h : cutS l with
  | none => simp
  | some p => exact (cutS_len (s := p.1) (r := p.2) h).1
theorem numS_len (l : List UInt8) : (numS l).2.1.length ≤ l.length := by
  unfold numS
  cases h : rd 0 l with
  | none => simp
  | some p => simp
theorem numS_lt (l : List UInt8) : (numS l).1 < 18446744073709551616 := by
  unfold numS
  cases h : rd 0 l with
  | none => simp
  | some p => exact (rd_bound l 0 p.1 p.2 h (by decide)).1
theorem five_len (l : List UInt8) : (T1 l).2.1.length ≤ l.length ∧ (T2 l).2.1.length ≤ l.length ∧ (N1 l).2.1.length ≤ l.length ∧ (N2 l).2.1.length ≤ l.length ∧ (N3 l).2.1.length ≤ l.length := by
  have h1 := txtS_len l
  have h2 := txtS_len (T1 l).2.1
  have h3 := numS_len (T2 l).2.1
  have h4 := numS_len (N1 l).2.1
  have h5 := numS_len (N2 l).2.1
  simp only [T1, T2, N1, N2, N3] at *
  omega

theorem five (l : List UInt8) : if okF l then pItem l = (if 4294967295 < (N1 l).1 ∨ 1099511627776 < (N2 l).1 then none else some (itF l, (N3 l).2.1)) else pItem l = none ∧ (N3 l).2.1 = [] := by
  cases h1 : cutS l with
  | none =>
    have a1 : T1 l = ([], [], false) := by simp [T1, txtS, h1]
    have a2 : T2 l = ([], [], false) := by simp [T2, a1, txtS_nil]
    have a3 : N1 l = (0, [], false) := by simp [N1, a2, numS_nil]
    have a4 : N2 l = (0, [], false) := by simp [N2, a3, numS_nil]
    have a5 : N3 l = (0, [], false) := by simp [N3, a4, numS_nil]
    simp [okF, a1, a2, a3, a4, a5, pItem, h1]
  | some p =>
  obtain ⟨k, l1⟩ := p
  have a1 : T1 l = (k, l1, true) := by simp [T1, txtS, h1]
  cases h2 : cutS l1 with
  | none =>
    have a2 : T2 l = ([], [], false) := by simp [T2, a1, txtS, h2]
    have a3 : N1 l = (0, [], false) := by simp [N1, a2, numS_nil]
    have a4 : N2 l = (0, [], false) := by simp [N2, a3, numS_nil]
    have a5 : N3 l = (0, [], false) := by simp [N3, a4, numS_nil]
    simp [okF, a1, a2, a3, a4, a5, pItem, h1, h2]
  | some p =>
  obtain ⟨v, l2⟩ := p
  have a2 : T2 l = (v, l2, true) := by simp [T2, a1, txtS, h2]
  cases h3 : rd 0 l2 with
  | none =>
    have a3 : N1 l = (0, [], false) := by simp [N1, a2, numS, h3]
    have a4 : N2 l = (0, [], false) := by simp [N2, a3, numS_nil]
    have a5 : N3 l = (0, [], false) := by simp [N3, a4, numS_nil]
    simp [okF, a1, a2, a3, a4, a5, pItem, h1, h2, h3, nums]
  | some p =>
  obtain ⟨f, k1⟩ := p
  have a3 : N1 l = (f, l2.drop k1, true) := by simp [N1, a2, numS, h3]
  cases h4 : rd 0 (l2.drop k1) with
  | none =>
    have a4 : N2 l = (0, [], false) := by simp [N2, a3, numS, h4]
    have a5 : N3 l = (0, [], false) := by simp [N3, a4, numS_nil]
    simp [okF, a1, a2, a3, a4, a5, pItem, h1, h2, h3, h4, nums]
  | some p =>
  obtain ⟨u, k2⟩ := p
  have a4 : N2 l = (u, (l2.drop k1).drop k2, true) := by simp only [N2, a3, numS, h4]
  cases h5 : rd 0 ((l2.drop k1).drop k2) with
  | none =>
    have a5 : N3 l = (0, [], false) := by simp only [N3, a4, numS, h5]
    have hp : pItem l = none := by simp only [pItem, h1, h2, h3, h4, h5, nums]
    simp [okF, a1, a2, a3, a4, a5, hp]
  | some p =>
  obtain ⟨q, k3⟩ := p
  have a5 : N3 l = (q, ((l2.drop k1).drop k2).drop k3, true) := by simp only [N3, a4, numS, h5]
  have hok : okF l = true := by simp [okF, a1, a2, a3, a4, a5]
  rw [if_pos hok]
  simp only [pItem, h1, h2, h3, h4, h5, nums, ofNums, itF, a1, a2, a3, a4, a5]
  by_cases hlim : 4294967295 < f ∨ 1099511627776 < u
  · simp only [if_pos hlim]
  · simp only [if_neg hlim]
end Go.Proofs.Ytpaolklbogakgaa
