import Derived.Test.YtpaolklbogakgaaRdU
set_option linter.unusedSimpArgs false
set_option linter.unusedVariables false
namespace Go.Proofs.Ytpaolklbogakgaa
open Go.Ev

def chain : List Bool → Option Bool
  | [] => some true
  | b :: r => match some b with
    | some true => chain r
    | some false => some false
    | none => none
theorem eqv_item (k v : ByteArray) (f u q : Int) : eqV Try.prog 200 43 (.agg #[.string k, .string v, .int .u32 f, .int .i64 u, .int .u64 q]) (.agg #[.string k, .string v, .int .u32 f, .int .i64 u, .int .u64 q]) = chain [leB k.data.toList k.data.toList, leB v.data.toList v.data.toList, iEq f f, iEq u u, iEq q q] := by kernel_rfl
theorem guard43 : Program.eqGuardType Try.prog (Program.depth Try.prog) 43 = false := by kernel_rfl
theorem item_neq (x : Itm) : binV Try.prog .neq 43 false x.v x.v = some (.bool false) := by
  show aggEq Try.prog .neq 43 x.v x.v = _
  unfold aggEq
  rw [guard43]
  show boolRes .neq (eqV Try.prog 200 43 x.v x.v) = _
  have := eqv_item x.key x.val x.flags x.till x.uniq
  rw [show x.v = .agg #[.string x.key, .string x.val, .int .u32 x.flags, .int .i64 x.till, .int .u64 x.uniq] from rfl, this]
  simp only [leB_eq, iEq_dec, decide_true, beq_self_eq_true, chain]
  rfl

/-- two results that hold the same are the same -/
theorem res_same (L n : Nat) (kd nm : Int) (v1 v2 : Value) (l : List Itm) (h : H) (i1 : ItemsAt h v1 l) (i2 : ItemsAt h v2 l) (hL : l.length < L) (hl : l.length < 1000000) :
    Sp (CF L (n + 1)) 26 [.agg [.int .u8 kd, v1, .int .u64 nm].toArray, .agg [.int .u8 kd, v2, .int .u64 nm].toArray] h fun r h' => r = .bool true ∧ Keep nobody h h' := by
  refine Sp.body f26 (by simp) ?_
  have k1 := Keep.new h (.rw [.int .u8 kd, v1, .int .u64 nm])
  have b1 := Has.new h (.rw [.int .u8 kd, v1, .int .u64 nm])
  have n1 : (h.new (.rw [.int .u8 kd, v1, .int .u64 nm])).next = h.next + 1 := rfl
  unfold c26
  refine C.seq fun K hK => ?_
  simp only [↓opStep_eq, ↓reduceIte, tg_set, toTm_cons, toTm_nil, fieldPtr_ptr, Nat.add_zero, Nat.zero_add, Nat.reduceAdd, Nat.reduceEqDiff, Int.reduceEq, Int.reduceLT, Int.reduceLE, Int.reduceNe, ↓kO_some, ↓kA_some, ↓kH_some, kO_some, kA_some, kH_some, gd_true, gd_false, nthD_zero, nthD_succ, isB_true, isB_false, isB_undef, pickV_true, pickV_false, binV_add, binV_sub, binV_mul, binV_eql, binV_neq, binV_lss, binV_leq, binV_gtr, binV_geq, unV_not, nt, nf, Bool.false_eq_true, dt, df, decide_true, decide_false, withV_some, aggO_some, ptrTo_eq, ↓aO_some, aO_some, ↓andB_true, andB_true, gz, gs, seqC, retC, skipC, exitC, blockC, condC, cells_agg, r26_0]
  generalize h.new (.rw [.int .u8 kd, v1, .int .u64 nm]) = h1 at *
  have k2 := Keep.new h1 (.rw [.int .u8 kd, v2, .int .u64 nm])
  have b2 := Has.new h1 (.rw [.int .u8 kd, v2, .int .u64 nm])
  generalize h1.new (.rw [.int .u8 kd, v2, .int .u64 nm]) = h2 at *
  have b1' := b1.keep0 k2
  have k12 := k1.then k2
  have ld1 : ∀ hx, Keep nobody h2 hx → ∀ o s, loadOne hx (.pointer (some ⟨h.next, o, s⟩)) = [.int .u8 kd, v1, .int .u64 nm][o]? := fun hx k o s => loadOne_has (b1'.keep0 k) rfl
  have ld2 : ∀ hx, Keep nobody h2 hx → ∀ o s, loadOne hx (.pointer (some ⟨h1.next, o, s⟩)) = [.int .u8 kd, v2, .int .u64 nm][o]? := fun hx k o s => loadOne_has (b2.keep0 k) rfl
  have r2 := Keep.refl nobody h2
  refine hK _ _ _ (C.seq (C.seq fun K hK => ?_))
  simp only [↓opStep_eq, ↓reduceIte, tg_set, toTm_cons, toTm_nil, fieldPtr_ptr, Nat.add_zero, Nat.zero_add, Nat.reduceAdd, Nat.reduceEqDiff, Int.reduceEq, Int.reduceLT, Int.reduceLE, Int.reduceNe, ↓kO_some, ↓kA_some, ↓kH_some, kO_some, kA_some, kH_some, gd_true, gd_false, nthD_zero, nthD_succ, isB_true, isB_false, isB_undef, pickV_true, pickV_false, binV_add, binV_sub, binV_mul, binV_eql, binV_neq, binV_lss, binV_leq, binV_gtr, binV_geq, unV_not, nt, nf, Bool.false_eq_true, dt, df, decide_true, decide_false, withV_some, aggO_some, ptrTo_eq, ↓aO_some, aO_some, ↓andB_true, andB_true, gz, gs, seqC, retC, skipC, exitC, blockC, condC, cells_agg, Bool.true_or, Bool.false_or, Bool.or_true, Bool.or_false, Bool.true_and, Bool.false_and, Bool.and_true, Bool.and_false, r26_1, ld1 _ r2, ld2 _ r2, i1.len, i2.len]
  refine hK _ _ _ (C.cond false (by simp only [↓opStep_eq, ↓reduceIte, tg_set, toTm_cons, toTm_nil, fieldPtr_ptr, Nat.add_zero, Nat.zero_add, Nat.reduceAdd, Nat.reduceEqDiff, Int.reduceEq, Int.reduceLT, Int.reduceLE, Int.reduceNe, ↓kO_some, ↓kA_some, ↓kH_some, kO_some, kA_some, kH_some, gd_true, gd_false, nthD_zero, nthD_succ, isB_true, isB_false, isB_undef, pickV_true, pickV_false, binV_add, binV_sub, binV_mul, binV_eql, binV_neq, binV_lss, binV_leq, binV_gtr, binV_geq, unV_not, nt, nf, Bool.false_eq_true, dt, df, decide_true, decide_false, withV_some, aggO_some, ptrTo_eq, ↓aO_some, aO_some, ↓andB_true, andB_true, gz, gs, seqC, retC, skipC, exitC, blockC, condC, cells_agg]) (fun h => by cases h) fun _ => C.skip ?_)
  refine C.seq (C.seq fun K hK => hK .norm _ _ ?_)
  refine C.block (C.loop (fun k tm' hx => ∃ i, k = l.length - i ∧ i ≤ l.length ∧ tg tm' 2 = .pointer (some ⟨h.next, 0, none⟩) ∧ tg tm' 3 = .pointer (some ⟨h1.next, 0, none⟩) ∧ tg tm' 5 = .int .i64 (i : Int) ∧ Keep nobody h2 hx) l.length hL
    ⟨0, rfl, by omega, by simp only [↓opStep_eq, ↓reduceIte, tg_set, toTm_cons, toTm_nil, fieldPtr_ptr, Nat.add_zero, Nat.zero_add, Nat.reduceAdd, Nat.reduceEqDiff, Int.reduceEq, Int.reduceLT, Int.reduceLE, Int.reduceNe, ↓kO_some, ↓kA_some, ↓kH_some, kO_some, kA_some, kH_some, gd_true, gd_false, nthD_zero, nthD_succ, isB_true, isB_false, isB_undef, pickV_true, pickV_false, binV_add, binV_sub, binV_mul, binV_eql, binV_neq, binV_lss, binV_leq, binV_gtr, binV_geq, unV_not, nt, nf, Bool.false_eq_true, dt, df, decide_true, decide_false, withV_some, aggO_some, ptrTo_eq, ↓aO_some, aO_some, ↓andB_true, andB_true, gz, gs, seqC, retC, skipC, exitC, blockC, condC, cells_agg], by simp only [↓opStep_eq, ↓reduceIte, tg_set, toTm_cons, toTm_nil, fieldPtr_ptr, Nat.add_zero, Nat.zero_add, Nat.reduceAdd, Nat.reduceEqDiff, Int.reduceEq, Int.reduceLT, Int.reduceLE, Int.reduceNe, ↓kO_some, ↓kA_some, ↓kH_some, kO_some, kA_some, kH_some, gd_true, gd_false, nthD_zero, nthD_succ, isB_true, isB_false, isB_undef, pickV_true, pickV_false, binV_add, binV_sub, binV_mul, binV_eql, binV_neq, binV_lss, binV_leq, binV_gtr, binV_geq, unV_not, nt, nf, Bool.false_eq_true, dt, df, decide_true, decide_false, withV_some, aggO_some, ptrTo_eq, ↓aO_some, aO_some, ↓andB_true, andB_true, gz, gs, seqC, retC, skipC, exitC, blockC, condC, cells_agg], by simp only [↓opStep_eq, ↓reduceIte, tg_set, toTm_cons, toTm_nil, fieldPtr_ptr, Nat.add_zero, Nat.zero_add, Nat.reduceAdd, Nat.reduceEqDiff, Int.reduceEq, Int.reduceLT, Int.reduceLE, Int.reduceNe, ↓kO_some, ↓kA_some, ↓kH_some, kO_some, kA_some, kH_some, gd_true, gd_false, nthD_zero, nthD_succ, isB_true, isB_false, isB_undef, pickV_true, pickV_false, binV_add, binV_sub, binV_mul, binV_eql, binV_neq, binV_lss, binV_leq, binV_gtr, binV_geq, unV_not, nt, nf, Bool.false_eq_true, dt, df, decide_true, decide_false, withV_some, aggO_some, ptrTo_eq, ↓aO_some, aO_some, ↓andB_true, andB_true, gz, gs, seqC, retC, skipC, exitC, blockC, condC, cells_agg] <;> rfl, r2⟩ ?_)
  rintro k tm' hx ⟨i, rfl, hi, t2, t3, t5, kx⟩
  unfold l26_8
  refine C.seq (C.seq fun K hK => ?_)
  simp only [↓opStep_eq, ↓reduceIte, tg_set, toTm_cons, toTm_nil, fieldPtr_ptr, Nat.add_zero, Nat.zero_add, Nat.reduceAdd, Nat.reduceEqDiff, Int.reduceEq, Int.reduceLT, Int.reduceLE, Int.reduceNe, ↓kO_some, ↓kA_some, ↓kH_some, kO_some, kA_some, kH_some, gd_true, gd_false, nthD_zero, nthD_succ, isB_true, isB_false, isB_undef, pickV_true, pickV_false, binV_add, binV_sub, binV_mul, binV_eql, binV_neq, binV_lss, binV_leq, binV_gtr, binV_geq, unV_not, nt, nf, Bool.false_eq_true, dt, df, decide_true, decide_false, withV_some, aggO_some, ptrTo_eq, ↓aO_some, aO_some, ↓andB_true, andB_true, gz, gs, seqC, retC, skipC, exitC, blockC, condC, cells_agg, r26_4, t2, t3, t5, ld1 _ kx, i1.len]
  refine hK _ _ _ (C.cond (decide ((i : Int) < (l.length : Int))) (by simp only [↓opStep_eq, ↓reduceIte, tg_set, toTm_cons, toTm_nil, fieldPtr_ptr, Nat.add_zero, Nat.zero_add, Nat.reduceAdd, Nat.reduceEqDiff, Int.reduceEq, Int.reduceLT, Int.reduceLE, Int.reduceNe, ↓kO_some, ↓kA_some, ↓kH_some, kO_some, kA_some, kH_some, gd_true, gd_false, nthD_zero, nthD_succ, isB_true, isB_false, isB_undef, pickV_true, pickV_false, binV_add, binV_sub, binV_mul, binV_eql, binV_neq, binV_lss, binV_leq, binV_gtr, binV_geq, unV_not, nt, nf, Bool.false_eq_true, dt, df, decide_true, decide_false, withV_some, aggO_some, ptrTo_eq, ↓aO_some, aO_some, ↓andB_true, andB_true, gz, gs, seqC, retC, skipC, exitC, blockC, condC, cells_agg]) (fun g => C.skip ?_) fun g => C.exit ?_)
  · have g : i < l.length := by have := of_decide_eq_true g; omega
    obtain ⟨x, hxx⟩ : ∃ x, l[i]? = some x := ⟨l[i]'g, List.getElem?_eq_getElem g⟩
    have kr := keep_room hx 11
    have kxr := kx.then kr
    have k2r := k12.then kxr
    obtain ⟨c1, o1, e1, _, _, _, a1⟩ := (i1.keep0 k2r).at hxx
    obtain ⟨c2, o2, e2, _, _, _, a2⟩ := (i2.keep0 k2r).at hxx
    refine C.seq (C.block (C.seq fun K hK => ?_))
    simp only [↓opStep_eq, ↓reduceIte, tg_set, toTm_cons, toTm_nil, fieldPtr_ptr, Nat.add_zero, Nat.zero_add, Nat.reduceAdd, Nat.reduceEqDiff, Int.reduceEq, Int.reduceLT, Int.reduceLE, Int.reduceNe, ↓kO_some, ↓kA_some, ↓kH_some, kO_some, kA_some, kH_some, gd_true, gd_false, nthD_zero, nthD_succ, isB_true, isB_false, isB_undef, pickV_true, pickV_false, binV_add, binV_sub, binV_mul, binV_eql, binV_neq, binV_lss, binV_leq, binV_gtr, binV_geq, unV_not, nt, nf, Bool.false_eq_true, dt, df, decide_true, decide_false, withV_some, aggO_some, ptrTo_eq, ↓aO_some, aO_some, ↓andB_true, andB_true, gz, gs, seqC, retC, skipC, exitC, blockC, condC, cells_agg, r26_6, t2, t3, t5, ld1 _ kxr, ld2 _ kxr, e1, e2, a1, a2, item_neq]
    refine hK _ _ _ (C.cond false (by simp only [↓opStep_eq, ↓reduceIte, tg_set, toTm_cons, toTm_nil, fieldPtr_ptr, Nat.add_zero, Nat.zero_add, Nat.reduceAdd, Nat.reduceEqDiff, Int.reduceEq, Int.reduceLT, Int.reduceLE, Int.reduceNe, ↓kO_some, ↓kA_some, ↓kH_some, kO_some, kA_some, kH_some, gd_true, gd_false, nthD_zero, nthD_succ, isB_true, isB_false, isB_undef, pickV_true, pickV_false, binV_add, binV_sub, binV_mul, binV_eql, binV_neq, binV_lss, binV_leq, binV_gtr, binV_geq, unV_not, nt, nf, Bool.false_eq_true, dt, df, decide_true, decide_false, withV_some, aggO_some, ptrTo_eq, ↓aO_some, aO_some, ↓andB_true, andB_true, gz, gs, seqC, retC, skipC, exitC, blockC, condC, cells_agg]) (fun h => by cases h) fun _ => C.skip fun K hK => ?_)
    have hw : IntKind.i64.wrap ((i : Int) + 1) = ((i + 1 : Nat) : Int) := by
      rw [show (i : Int) + 1 = ((i + 1 : Nat) : Int) by omega, wrap_i64 _ (by omega)]
    simp only [↓opStep_eq, ↓reduceIte, tg_set, toTm_cons, toTm_nil, fieldPtr_ptr, Nat.add_zero, Nat.zero_add, Nat.reduceAdd, Nat.reduceEqDiff, Int.reduceEq, Int.reduceLT, Int.reduceLE, Int.reduceNe, ↓kO_some, ↓kA_some, ↓kH_some, kO_some, kA_some, kH_some, gd_true, gd_false, nthD_zero, nthD_succ, isB_true, isB_false, isB_undef, pickV_true, pickV_false, binV_add, binV_sub, binV_mul, binV_eql, binV_neq, binV_lss, binV_leq, binV_gtr, binV_geq, unV_not, nt, nf, Bool.false_eq_true, dt, df, decide_true, decide_false, withV_some, aggO_some, ptrTo_eq, ↓aO_some, aO_some, ↓andB_true, andB_true, gz, gs, seqC, retC, skipC, exitC, blockC, condC, cells_agg, r26_5, t5, hw]
    exact hK _ _ _ ⟨l.length - (i + 1), by omega, i + 1, rfl, by omega, by simp only [↓opStep_eq, ↓reduceIte, tg_set, toTm_cons, toTm_nil, fieldPtr_ptr, Nat.add_zero, Nat.zero_add, Nat.reduceAdd, Nat.reduceEqDiff, Int.reduceEq, Int.reduceLT, Int.reduceLE, Int.reduceNe, ↓kO_some, ↓kA_some, ↓kH_some, kO_some, kA_some, kH_some, gd_true, gd_false, nthD_zero, nthD_succ, isB_true, isB_false, isB_undef, pickV_true, pickV_false, binV_add, binV_sub, binV_mul, binV_eql, binV_neq, binV_lss, binV_leq, binV_gtr, binV_geq, unV_not, nt, nf, Bool.false_eq_true, dt, df, decide_true, decide_false, withV_some, aggO_some, ptrTo_eq, ↓aO_some, aO_some, ↓andB_true, andB_true, gz, gs, seqC, retC, skipC, exitC, blockC, condC, cells_agg, t2], by simp only [↓opStep_eq, ↓reduceIte, tg_set, toTm_cons, toTm_nil, fieldPtr_ptr, Nat.add_zero, Nat.zero_add, Nat.reduceAdd, Nat.reduceEqDiff, Int.reduceEq, Int.reduceLT, Int.reduceLE, Int.reduceNe, ↓kO_some, ↓kA_some, ↓kH_some, kO_some, kA_some, kH_some, gd_true, gd_false, nthD_zero, nthD_succ, isB_true, isB_false, isB_undef, pickV_true, pickV_false, binV_add, binV_sub, binV_mul, binV_eql, binV_neq, binV_lss, binV_leq, binV_gtr, binV_geq, unV_not, nt, nf, Bool.false_eq_true, dt, df, decide_true, decide_false, withV_some, aggO_some, ptrTo_eq, ↓aO_some, aO_some, ↓andB_true, andB_true, gz, gs, seqC, retC, skipC, exitC, blockC, condC, cells_agg, t3], by simp only [↓opStep_eq, ↓reduceIte, tg_set, toTm_cons, toTm_nil, fieldPtr_ptr, Nat.add_zero, Nat.zero_add, Nat.reduceAdd, Nat.reduceEqDiff, Int.reduceEq, Int.reduceLT, Int.reduceLE, Int.reduceNe, ↓kO_some, ↓kA_some, ↓kH_some, kO_some, kA_some, kH_some, gd_true, gd_false, nthD_zero, nthD_succ, isB_true, isB_false, isB_undef, pickV_true, pickV_false, binV_add, binV_sub, binV_mul, binV_eql, binV_neq, binV_lss, binV_leq, binV_gtr, binV_geq, unV_not, nt, nf, Bool.false_eq_true, dt, df, decide_true, decide_false, withV_some, aggO_some, ptrTo_eq, ↓aO_some, aO_some, ↓andB_true, andB_true, gz, gs, seqC, retC, skipC, exitC, blockC, condC, cells_agg], kxr⟩
  · simp only [if_pos]
    refine C.seq fun K hK => ?_
    simp only [↓opStep_eq, ↓reduceIte, tg_set, toTm_cons, toTm_nil, fieldPtr_ptr, Nat.add_zero, Nat.zero_add, Nat.reduceAdd, Nat.reduceEqDiff, Int.reduceEq, Int.reduceLT, Int.reduceLE, Int.reduceNe, ↓kO_some, ↓kA_some, ↓kH_some, kO_some, kA_some, kH_some, gd_true, gd_false, nthD_zero, nthD_succ, isB_true, isB_false, isB_undef, pickV_true, pickV_false, binV_add, binV_sub, binV_mul, binV_eql, binV_neq, binV_lss, binV_leq, binV_gtr, binV_geq, unV_not, nt, nf, Bool.false_eq_true, dt, df, decide_true, decide_false, withV_some, aggO_some, ptrTo_eq, ↓aO_some, aO_some, ↓andB_true, andB_true, gz, gs, seqC, retC, skipC, exitC, blockC, condC, cells_agg, r26_8]
    exact hK _ _ _ (C.ret ⟨.inr rfl, _, rfl, by simp only [↓opStep_eq, ↓reduceIte, tg_set, toTm_cons, toTm_nil, fieldPtr_ptr, Nat.add_zero, Nat.zero_add, Nat.reduceAdd, Nat.reduceEqDiff, Int.reduceEq, Int.reduceLT, Int.reduceLE, Int.reduceNe, ↓kO_some, ↓kA_some, ↓kH_some, kO_some, kA_some, kH_some, gd_true, gd_false, nthD_zero, nthD_succ, isB_true, isB_false, isB_undef, pickV_true, pickV_false, binV_add, binV_sub, binV_mul, binV_eql, binV_neq, binV_lss, binV_leq, binV_gtr, binV_geq, unV_not, nt, nf, Bool.false_eq_true, dt, df, decide_true, decide_false, withV_some, aggO_some, ptrTo_eq, ↓aO_some, aO_some, ↓andB_true, andB_true, gz, gs, seqC, retC, skipC, exitC, blockC, condC, cells_agg]; rfl, k12.then kx⟩)
end Go.Proofs.Ytpaolklbogakgaa
namespace Go.Proofs.Ytpaolklbogakgaa
open Go.Ev

theorem pItems_len : ∀ (n : Nat) (l : List UInt8) (xs : List Itm) (r : List UInt8), pItems n l = some (xs, r) → xs.length = n
  | 0, l, xs, r, h => by simp [pItems] at h; rw [h.1]; rfl
  | n + 1, l, xs, r, h => by
    simp only [pItems] at h
    split at h
    · cases h
    · rename_i x l1 _
      split at h
      · cases h
      · rename_i ys r1 h1
        simp only [Option.some.injEq, Prod.mk.injEq] at h
        rw [← h.1, List.length_cons, pItems_len n _ _ _ h1]
theorem pRes_items {l : List UInt8} {x0 x1 : UInt8} {num : Nat} {xs : List Itm} (h : pRes l = some (x0, x1, num, xs)) : xs.length ≤ 8 := by
  rcases l with _ | ⟨y0, _ | ⟨y1, b⟩⟩
  · cases h
  · cases h
  · simp only [pRes] at h
    split at h
    · cases h
    · split at h
      · cases h
      · split at h
        · cases h
        · split at h
          · cases h
          · rename_i hm _ xs' rest hp
            split at h
            · simp only [Option.some.injEq, Prod.mk.injEq] at h
              rw [← h.2.2.2, pItems_len _ _ _ _ hp]; omega
            · cases h
theorem pShape_items {k : UInt8} {l : List UInt8} {a : Ans} (h : pShape k l = some a) : a.r.items.length ≤ 8 := by
  unfold pShape at h
  split at h
  · split at h
    · rename_i hp
      simp only [Option.some.injEq] at h
      rw [← h]; exact pRes_items hp
    · cases h
  · split at h
    · split at h
      · split at h
        · simp only [Option.some.injEq] at h; rw [← h]; exact Nat.zero_le _
        · cases h
      · cases h
    · split at h
      · simp only [Option.some.injEq] at h; rw [← h]; exact Nat.zero_le _
      · split at h
        · simp only [Option.some.injEq] at h; rw [← h]; exact Nat.zero_le _
        · cases h
theorem readR_items {l : List UInt8} {a : Ans} (h : (readR l).1 = some a) : a.r.items.length ≤ 8 := by
  unfold readR at h
  split at h
  · cases h
  · split at h
    · cases h
    · rename_i a' hp
      simp only [Option.some.injEq] at h
      subst h
      unfold pOf at hp
      split at hp
      · rename_i a'' hs
        split at hp
        · simp only [Option.some.injEq] at hp
          rw [← hp]; exact pShape_items hs
        · cases hp
      · cases hp

/-- what was read, whichever it is -/
def theA (o : Option Ans) : Ans := match o with
  | some a => a
  | none => plainA 0 false (strB [])
theorem GotP.ans {o : Option Ans} {h : H} {av : Value} (g : GotP o h av) : ∃ iv, av = (withIv (theA o) iv).v ∧ MineI h iv (theA o).r.items := by
  cases o with
  | none => exact ⟨noIv, g, .nil⟩
  | some a => exact g

/-- two answers that hold the same are the same -/
theorem ans_same (L n : Nat) (a : Ans) (v1 v2 : Value) (h : H) (i1 : ItemsAt h v1 a.r.items) (i2 : ItemsAt h v2 a.r.items) (hL : a.r.items.length < L) (hl : a.r.items.length < 1000000) :
    Sp (CF L (n + 2)) 13 [(withIv a v1).v, (withIv a v2).v] h fun r h' => r = .bool true ∧ Keep nobody h h' := by
  refine Sp.body f13 (by simp) ?_
  have hc1 : (Value.cells (withIv a v1).v).toList = [.int .u8 a.kind, .int .u8 a.of, .int .u8 a.r.kind, v1, .int .u64 a.r.num, .bool a.yes, .string a.key] := rfl
  have hc2 : (Value.cells (withIv a v2).v).toList = [.int .u8 a.kind, .int .u8 a.of, .int .u8 a.r.kind, v2, .int .u64 a.r.num, .bool a.yes, .string a.key] := rfl
  have k1 := Keep.new h (.rw [.int .u8 a.kind, .int .u8 a.of, .int .u8 a.r.kind, v1, .int .u64 a.r.num, .bool a.yes, .string a.key])
  have b1 := Has.new h (.rw [.int .u8 a.kind, .int .u8 a.of, .int .u8 a.r.kind, v1, .int .u64 a.r.num, .bool a.yes, .string a.key])
  unfold c13
  refine C.seq fun K hK => ?_
  simp only [↓opStep_eq, ↓reduceIte, tg_set, toTm_cons, toTm_nil, fieldPtr_ptr, Nat.add_zero, Nat.zero_add, Nat.reduceAdd, Nat.reduceEqDiff, Int.reduceEq, Int.reduceLT, Int.reduceLE, Int.reduceNe, ↓kO_some, ↓kA_some, ↓kH_some, kO_some, kA_some, kH_some, gd_true, gd_false, nthD_zero, nthD_succ, isB_true, isB_false, isB_undef, pickV_true, pickV_false, binV_add, binV_sub, binV_mul, binV_eql, binV_neq, binV_lss, binV_leq, binV_gtr, binV_geq, unV_not, nt, nf, Bool.false_eq_true, dt, df, decide_true, decide_false, withV_some, aggO_some, ptrTo_eq, ↓aO_some, aO_some, ↓andB_true, andB_true, gz, gs, seqC, retC, skipC, exitC, blockC, condC, cells_agg, r13_0, hc1]
  generalize h.new (.rw [.int .u8 a.kind, .int .u8 a.of, .int .u8 a.r.kind, v1, .int .u64 a.r.num, .bool a.yes, .string a.key]) = h1 at *
  have k2 := Keep.new h1 (.rw [.int .u8 a.kind, .int .u8 a.of, .int .u8 a.r.kind, v2, .int .u64 a.r.num, .bool a.yes, .string a.key])
  have b2 := Has.new h1 (.rw [.int .u8 a.kind, .int .u8 a.of, .int .u8 a.r.kind, v2, .int .u64 a.r.num, .bool a.yes, .string a.key])
  simp only [↓opStep_eq, ↓reduceIte, tg_set, toTm_cons, toTm_nil, fieldPtr_ptr, Nat.add_zero, Nat.zero_add, Nat.reduceAdd, Nat.reduceEqDiff, Int.reduceEq, Int.reduceLT, Int.reduceLE, Int.reduceNe, ↓kO_some, ↓kA_some, ↓kH_some, kO_some, kA_some, kH_some, gd_true, gd_false, nthD_zero, nthD_succ, isB_true, isB_false, isB_undef, pickV_true, pickV_false, binV_add, binV_sub, binV_mul, binV_eql, binV_neq, binV_lss, binV_leq, binV_gtr, binV_geq, unV_not, nt, nf, Bool.false_eq_true, dt, df, decide_true, decide_false, withV_some, aggO_some, ptrTo_eq, ↓aO_some, aO_some, ↓andB_true, andB_true, gz, gs, seqC, retC, skipC, exitC, blockC, condC, cells_agg, hc2]
  generalize h1.new (.rw [.int .u8 a.kind, .int .u8 a.of, .int .u8 a.r.kind, v2, .int .u64 a.r.num, .bool a.yes, .string a.key]) = h2 at *
  have b1' := b1.keep0 k2
  have k12 := k1.then k2
  have ld1 : ∀ hx, Keep nobody h2 hx → ∀ o s, loadOne hx (.pointer (some ⟨h.next, o, s⟩)) = [.int .u8 a.kind, .int .u8 a.of, .int .u8 a.r.kind, v1, .int .u64 a.r.num, .bool a.yes, .string a.key][o]? := fun hx k o s => loadOne_has (b1'.keep0 k) rfl
  have ld2 : ∀ hx, Keep nobody h2 hx → ∀ o s, loadOne hx (.pointer (some ⟨h1.next, o, s⟩)) = [.int .u8 a.kind, .int .u8 a.of, .int .u8 a.r.kind, v2, .int .u64 a.r.num, .bool a.yes, .string a.key][o]? := fun hx k o s => loadOne_has (b2.keep0 k) rfl
  have la1 : ∀ s, loadAgg 3 h2 (.pointer (some ⟨h.next, 2, s⟩)) = some (.agg [.int .u8 a.r.kind, v1, .int .u64 a.r.num].toArray) := fun s => loadAgg_has b1' rfl (by simp)
  have la2 : ∀ s, loadAgg 3 h2 (.pointer (some ⟨h1.next, 2, s⟩)) = some (.agg [.int .u8 a.r.kind, v2, .int .u64 a.r.num].toArray) := fun s => loadAgg_has b2 rfl (by simp)
  have r2 := Keep.refl nobody h2
  have hb : ∀ (t : TypeId) (c x : Bool), Try.prog.underlying t = some .bool → binV Try.prog .eql t c (.bool x) (.bool x) = some (.bool true) := fun t c x ht => by
    show boolRes .eql (match Try.prog.underlying t with | some .bool => some (bEq x x) | _ => none) = _
    rw [ht]; cases x <;> rfl
  have hb4 := fun x => hb 4 false x (by kernel_rfl)
  have hs : binV Try.prog .eql 9 false (.string a.key) (.string a.key) = some (.bool true) := by rw [strV_eql, leB_eq]; simp
  refine hK _ _ _ (C.seq fun K hK => ?_)
  simp only [↓opStep_eq, ↓reduceIte, tg_set, toTm_cons, toTm_nil, fieldPtr_ptr, Nat.add_zero, Nat.zero_add, Nat.reduceAdd, Nat.reduceEqDiff, Int.reduceEq, Int.reduceLT, Int.reduceLE, Int.reduceNe, ↓kO_some, ↓kA_some, ↓kH_some, kO_some, kA_some, kH_some, gd_true, gd_false, nthD_zero, nthD_succ, isB_true, isB_false, isB_undef, pickV_true, pickV_false, binV_add, binV_sub, binV_mul, binV_eql, binV_neq, binV_lss, binV_leq, binV_gtr, binV_geq, unV_not, nt, nf, Bool.false_eq_true, dt, df, decide_true, decide_false, withV_some, aggO_some, ptrTo_eq, ↓aO_some, aO_some, ↓andB_true, andB_true, gz, gs, seqC, retC, skipC, exitC, blockC, condC, cells_agg, Bool.true_or, Bool.false_or, Bool.or_true, Bool.or_false, Bool.true_and, Bool.false_and, Bool.and_true, Bool.and_false, r13_1, ld1 _ r2, ld2 _ r2, la1, la2]
  refine res_same L n a.r.kind a.r.num v1 v2 a.r.items h2 (i1.keep0 k12) (i2.keep0 k12) hL hl _ fun r h3 hv => ?_
  obtain ⟨rfl, k3⟩ := hv
  simp only [↓opStep_eq, ↓reduceIte, tg_set, toTm_cons, toTm_nil, fieldPtr_ptr, Nat.add_zero, Nat.zero_add, Nat.reduceAdd, Nat.reduceEqDiff, Int.reduceEq, Int.reduceLT, Int.reduceLE, Int.reduceNe, ↓kO_some, ↓kA_some, ↓kH_some, kO_some, kA_some, kH_some, gd_true, gd_false, nthD_zero, nthD_succ, isB_true, isB_false, isB_undef, pickV_true, pickV_false, binV_add, binV_sub, binV_mul, binV_eql, binV_neq, binV_lss, binV_leq, binV_gtr, binV_geq, unV_not, nt, nf, Bool.false_eq_true, dt, df, decide_true, decide_false, withV_some, aggO_some, ptrTo_eq, ↓aO_some, aO_some, ↓andB_true, andB_true, gz, gs, seqC, retC, skipC, exitC, blockC, condC, cells_agg, Bool.true_or, Bool.false_or, Bool.or_true, Bool.or_false, Bool.true_and, Bool.false_and, Bool.and_true, Bool.and_false, ld1 _ k3, ld2 _ k3, hb4, hs]
  exact hK _ _ _ (C.ret ⟨.inr rfl, _, rfl, by simp only [↓opStep_eq, ↓reduceIte, tg_set, toTm_cons, toTm_nil, fieldPtr_ptr, Nat.add_zero, Nat.zero_add, Nat.reduceAdd, Nat.reduceEqDiff, Int.reduceEq, Int.reduceLT, Int.reduceLE, Int.reduceNe, ↓kO_some, ↓kA_some, ↓kH_some, kO_some, kA_some, kH_some, gd_true, gd_false, nthD_zero, nthD_succ, isB_true, isB_false, isB_undef, pickV_true, pickV_false, binV_add, binV_sub, binV_mul, binV_eql, binV_neq, binV_lss, binV_leq, binV_gtr, binV_geq, unV_not, nt, nf, Bool.false_eq_true, dt, df, decide_true, decide_false, withV_some, aggO_some, ptrTo_eq, ↓aO_some, aO_some, ↓andB_true, andB_true, gz, gs, seqC, retC, skipC, exitC, blockC, condC, cells_agg]; rfl, k12.then k3⟩)

end Go.Proofs.Ytpaolklbogakgaa
