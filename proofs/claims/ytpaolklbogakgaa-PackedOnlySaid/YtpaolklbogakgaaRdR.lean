import Derived.Test.YtpaolklbogakgaaRdM
set_option linter.unusedSimpArgs false
set_option linter.unusedVariables false
namespace Go.Proofs.Ytpaolklbogakgaa
open Go.Ev

/-- how a body stands while its items are read -/
structure St (h0 h : H) (b4 b6 b7 : Nat) (x0 x1 : UInt8) (num : Nat) (vr iv : Value) (lc : List UInt8) (ok : Bool) (xs : List Itm) : Prop where
  r : Rdr h b7 vr lc ok
  z : Has h b4 (.rw Z7)
  a : Has h b6 (.rw [bv 1, bv x0, bv x1, iv, .int .u64 (num : Int), .bool false, .string (strB [])])
  m : MineI h iv xs
  d : ∀ c, blk vr c → c ≠ b4 ∧ c ≠ b6 ∧ ¬ blk iv c
  k : Keep nobody h0 h
  f4 : h0.next ≤ b4
  f6 : h0.next ≤ b6
  f7 : h0.next ≤ b7
  fi : ∀ c, blk iv c → h0.next ≤ c
  n46 : b4 ≠ b6
  n47 : b4 ≠ b7
  n67 : b6 ≠ b7

section
variable {h0 h h' : H} {b4 b6 b7 : Nat} {x0 x1 : UInt8} {num : Nat} {vr iv vr' : Value} {lc lc' : List UInt8} {ok ok' : Bool} {xs : List Itm}
theorem St.alloc (s : St h0 h b4 b6 b7 x0 x1 num vr iv lc ok xs) (k : Keep nobody h h') : St h0 h' b4 b6 b7 x0 x1 num vr iv lc ok xs where
  r := ⟨s.r.1.keep0 k, s.r.2.1.keep0 k, s.r.2.2⟩
  z := s.z.keep0 k
  a := s.a.keep0 k
  m := s.m.keep0 k
  d := s.d
  k := s.k.then k
  f4 := s.f4
  f6 := s.f6
  f7 := s.f7
  fi := s.fi
  n46 := s.n46
  n47 := s.n47
  n67 := s.n67
theorem St.read (s : St h0 h b4 b6 b7 x0 x1 num vr iv lc ok xs) (r : Rdr h' b7 vr' lc' ok') (hb : ∀ c, blk vr' c → blk vr c ∨ h.next ≤ c) (k : Keep (· = b7) h h') : St h0 h' b4 b6 b7 x0 x1 num vr' iv lc' ok' xs where
  r := r
  z := s.z.keep k s.n47
  a := s.a.keep k s.n67
  m := s.m.keep k fun c hc e => s.m.ne s.r.1 (e ▸ hc)
  d := fun c hc => by
    rcases hb c hc with h1 | h1
    · exact s.d c h1
    · exact ⟨fun e => by have := s.z.1; omega, fun e => by have := s.a.1; omega, fun hi => by have := s.m.lt hi; omega⟩
  k := s.k.trans k fun c hc e => by have := s.f7; omega
  f4 := s.f4
  f6 := s.f6
  f7 := s.f7
  fi := s.fi
  n46 := s.n46
  n47 := s.n47
  n67 := s.n67
/-- another block is written, which nothing of this looks at -/
theorem St.other {b : Nat} (s : St h0 h b4 b6 b7 x0 x1 num vr iv lc ok xs) (k : Keep (· = b) h h') (hb : h0.next ≤ b) (h4 : b ≠ b4) (h6 : b ≠ b6) (h7 : b ≠ b7) (hv : ¬ blk vr b) (hi : ¬ blk iv b) : St h0 h' b4 b6 b7 x0 x1 num vr iv lc ok xs where
  r := ⟨s.r.1.keep k (fun e => h7 e.symm), s.r.2.1.keep k (fun c hc e => hv (e ▸ hc)), s.r.2.2⟩
  z := s.z.keep k (fun e => h4 e.symm)
  a := s.a.keep k (fun e => h6 e.symm)
  m := s.m.keep k fun c hc e => hi (e ▸ hc)
  d := s.d
  k := s.k.trans k fun c hc e => by omega
  f4 := s.f4
  f6 := s.f6
  f7 := s.f7
  fi := s.fi
  n46 := s.n46
  n47 := s.n47
  n67 := s.n67
end

def keeps23 (tm tm' : T Value) : Prop := tg tm' 4 = tg tm 4 ∧ tg tm' 6 = tg tm 6 ∧ tg tm' 7 = tg tm 7 ∧ tg tm' 8 = tg tm 8 ∧ tg tm' 46 = tg tm 46 ∧ tg tm' 47 = tg tm 47
theorem agg_two (k v : ByteArray) : aggO (fill [(.string (strB [])), (.string (strB [])), (.int .u32 (0)), (.int .i64 (0)), (.int .u64 (0))] (plc [(0, 1), (1, 1), (2, 1), (3, 1), (4, 1)]) [(0, .string k), (1, .string v)]) = some (.agg [.string k, .string v, .int .u32 0, .int .i64 0, .int .u64 0].toArray) := rfl
theorem limits {call : CallT} {L : Nat} {tm : T Value} {h : H} {K : KE} {f u : Nat} (t11 : tg tm 11 = .int .u64 (f : Int)) (t12 : tg tm 12 = .int .u64 (u : Int)) :
    r23_18 call L tm [] h K = K .norm (T.set tm 66 (.bool (decide (4294967295 < f ∨ 1099511627776 < u)))) [] h := by
  by_cases h1 : (4294967295 : Int) < (f : Int)
  · have h1' : 4294967295 < f := by omega
    simp only [r23_18, ↓opStep_eq, ↓reduceIte, tg_set, toTm_cons, toTm_nil, fieldPtr_ptr, Nat.add_zero, Nat.zero_add, Nat.reduceAdd, Nat.reduceEqDiff, Int.reduceEq, Int.reduceLT, Int.reduceLE, Int.reduceNe, ↓kO_some, ↓kA_some, ↓kH_some, kO_some, kA_some, kH_some, gd_true, gd_false, nthD_zero, nthD_succ, isB_true, isB_false, isB_undef, pickV_true, pickV_false, binV_add, binV_sub, binV_mul, binV_eql, binV_neq, binV_lss, binV_leq, binV_gtr, binV_geq, unV_not, nt, nf, Bool.false_eq_true, dt, df, decide_true, decide_false, withV_some, aggO_some, ptrTo_eq, ↓aO_some, aO_some, ↓andB_true, andB_true, gz, gs, seqC, retC, skipC, exitC, blockC, condC, cells_agg, t11, t12, h1]
    simp [h1']
  · have h1' : ¬ 4294967295 < f := by omega
    by_cases h2 : (1099511627776 : Int) < (u : Int)
    · have h2' : 1099511627776 < u := by omega
      simp only [r23_18, ↓opStep_eq, ↓reduceIte, tg_set, toTm_cons, toTm_nil, fieldPtr_ptr, Nat.add_zero, Nat.zero_add, Nat.reduceAdd, Nat.reduceEqDiff, Int.reduceEq, Int.reduceLT, Int.reduceLE, Int.reduceNe, ↓kO_some, ↓kA_some, ↓kH_some, kO_some, kA_some, kH_some, gd_true, gd_false, nthD_zero, nthD_succ, isB_true, isB_false, isB_undef, pickV_true, pickV_false, binV_add, binV_sub, binV_mul, binV_eql, binV_neq, binV_lss, binV_leq, binV_gtr, binV_geq, unV_not, nt, nf, Bool.false_eq_true, dt, df, decide_true, decide_false, withV_some, aggO_some, ptrTo_eq, ↓aO_some, aO_some, ↓andB_true, andB_true, gz, gs, seqC, retC, skipC, exitC, blockC, condC, cells_agg, t11, t12, h1, h2]
      simp [h2']
    · have h2' : ¬ 1099511627776 < u := by omega
      simp only [r23_18, ↓opStep_eq, ↓reduceIte, tg_set, toTm_cons, toTm_nil, fieldPtr_ptr, Nat.add_zero, Nat.zero_add, Nat.reduceAdd, Nat.reduceEqDiff, Int.reduceEq, Int.reduceLT, Int.reduceLE, Int.reduceNe, ↓kO_some, ↓kA_some, ↓kH_some, kO_some, kA_some, kH_some, gd_true, gd_false, nthD_zero, nthD_succ, isB_true, isB_false, isB_undef, pickV_true, pickV_false, binV_add, binV_sub, binV_mul, binV_eql, binV_neq, binV_lss, binV_leq, binV_gtr, binV_geq, unV_not, nt, nf, Bool.false_eq_true, dt, df, decide_true, decide_false, withV_some, aggO_some, ptrTo_eq, ↓aO_some, aO_some, ↓andB_true, andB_true, gz, gs, seqC, retC, skipC, exitC, blockC, condC, cells_agg, t11, t12, h1, h2]
      simp [h1', h2']

theorem body23 {L n : Nat} {tm : T Value} {h0 h : H} {b4 b6 b7 : Nat} {x0 x1 : UInt8} {num : Nat} {vr iv : Value} {lc : List UInt8} {ok : Bool} {xs : List Itm} (hL : lc.length < L) (hl : lc.length < 1000000) (hxs : xs.length ≤ 1000)
    (s : St h0 h b4 b6 b7 x0 x1 num vr iv lc ok xs) (t4 : tg tm 4 = .pointer (some ⟨b4, 0, none⟩)) (t6 : tg tm 6 = .pointer (some ⟨b6, 0, none⟩)) (t7 : tg tm 7 = .pointer (some ⟨b7, 0, none⟩)) (t8 : tg tm 8 = .func (.func 38) [.pointer (some ⟨b7, 0, none⟩)].toArray [].toArray) :
    C ⟨seqC ⟨r23_15⟩ ⟨seqC ⟨r23_16⟩ ⟨seqC ⟨r23_17⟩ ⟨seqC ⟨seqC ⟨r23_18⟩ ⟨condC ⟨fun _ tm => tg tm 66⟩ ⟨seqC ⟨r23_19⟩ retC⟩ skipC⟩⟩ ⟨seqC ⟨r23_20⟩ ⟨r23_21⟩⟩⟩⟩⟩⟩ (CF L (n + 4)) L tm h fun e tm' h' =>
      if 4294967295 < (N1 lc).1 ∨ 1099511627776 < (N2 lc).1 then e = .ret ∧ tg tm' 4 = .pointer (some ⟨b4, 0, none⟩) ∧ tg tm' 5 = .bool false ∧ (∃ cs, Has h' b4 (.rw cs) ∧ cs.length = 7 ∧ ones cs = true) ∧ Keep nobody h0 h'
      else e = .norm ∧ keeps23 tm tm' ∧ ∃ vr' iv', St h0 h' b4 b6 b7 x0 x1 num vr' iv' (N3 lc).2.1 (ok && okF lc) (xs ++ [itF lc]) := by
  have fl := five_len lc
  have gc : ∀ (hx : H) (K : OpK), goCall (CF L (n + 4)) (funcArgs (.func (.func 38) [.pointer (some ⟨b7, 0, none⟩)].toArray [].toArray) []) [] hx K = CF L (n + 4) 38 [.pointer (some ⟨b7, 0, none⟩)] hx (fun v h => K v [] h) := fun _ _ => rfl
  refine C.seq fun K hK => ?_
  simp only [↓opStep_eq, ↓reduceIte, tg_set, toTm_cons, toTm_nil, fieldPtr_ptr, Nat.add_zero, Nat.zero_add, Nat.reduceAdd, Nat.reduceEqDiff, Int.reduceEq, Int.reduceLT, Int.reduceLE, Int.reduceNe, ↓kO_some, ↓kA_some, ↓kH_some, kO_some, kA_some, kH_some, gd_true, gd_false, nthD_zero, nthD_succ, isB_true, isB_false, isB_undef, pickV_true, pickV_false, binV_add, binV_sub, binV_mul, binV_eql, binV_neq, binV_lss, binV_leq, binV_gtr, binV_geq, unV_not, nt, nf, Bool.false_eq_true, dt, df, decide_true, decide_false, withV_some, aggO_some, ptrTo_eq, ↓aO_some, aO_some, ↓andB_true, andB_true, gz, gs, seqC, retC, skipC, exitC, blockC, condC, cells_agg, r23_15, t7]
  refine rd_text L n b7 vr lc ok h s.r hL hl _ fun r h1 hv => ?_
  obtain ⟨rfl, ⟨v1, r1, w1⟩, k1⟩ := hv
  have s1 := s.read r1 w1 k1
  refine rd_text L n b7 v1 (T1 lc).2.1 _ h1 s1.r (by omega) (by omega) _ fun r h2 hv => ?_
  obtain ⟨rfl, ⟨v2, r2, w2⟩, k2⟩ := hv
  have s2 := s1.read r2 w2 k2
  have hst := store_new h2 5 none [(.string (strB [])), (.string (strB [])), (.int .u32 (0)), (.int .i64 (0)), (.int .u64 (0))] (.agg [.string ⟨(txtS lc).1.toArray⟩, .string ⟨(txtS (T1 lc).2.1).1.toArray⟩, .int .u32 0, .int .i64 0, .int .u64 0].toArray) rfl rfl rfl
  have hcc : (Value.cells (.agg [.string ⟨(txtS lc).1.toArray⟩, .string ⟨(txtS (T1 lc).2.1).1.toArray⟩, .int .u32 0, .int .i64 0, .int .u64 0].toArray)).toList = [.string ⟨(txtS lc).1.toArray⟩, .string ⟨(txtS (T1 lc).2.1).1.toArray⟩, .int .u32 0, .int .i64 0, .int .u64 0] := rfl
  rw [hcc] at hst
  have k3 := keep_alloc h2 (.rw [(.string (strB [])), (.string (strB [])), (.int .u32 (0)), (.int .i64 (0)), (.int .u64 (0))]) (.rw [.string ⟨(txtS lc).1.toArray⟩, .string ⟨(txtS (T1 lc).2.1).1.toArray⟩, .int .u32 0, .int .i64 0, .int .u64 0])
  have b10 := has_alloc h2 (.rw [(.string (strB [])), (.string (strB [])), (.int .u32 (0)), (.int .i64 (0)), (.int .u64 (0))]) (.rw [.string ⟨(txtS lc).1.toArray⟩, .string ⟨(txtS (T1 lc).2.1).1.toArray⟩, .int .u32 0, .int .i64 0, .int .u64 0])
  simp only [↓opStep_eq, ↓reduceIte, tg_set, toTm_cons, toTm_nil, fieldPtr_ptr, Nat.add_zero, Nat.zero_add, Nat.reduceAdd, Nat.reduceEqDiff, Int.reduceEq, Int.reduceLT, Int.reduceLE, Int.reduceNe, ↓kO_some, ↓kA_some, ↓kH_some, kO_some, kA_some, kH_some, gd_true, gd_false, nthD_zero, nthD_succ, isB_true, isB_false, isB_undef, pickV_true, pickV_false, binV_add, binV_sub, binV_mul, binV_eql, binV_neq, binV_lss, binV_leq, binV_gtr, binV_geq, unV_not, nt, nf, Bool.false_eq_true, dt, df, decide_true, decide_false, withV_some, aggO_some, ptrTo_eq, ↓aO_some, aO_some, ↓andB_true, andB_true, gz, gs, seqC, retC, skipC, exitC, blockC, condC, cells_agg, agg_two, hst]
  generalize (h2.new (.rw [(.string (strB [])), (.string (strB [])), (.int .u32 (0)), (.int .i64 (0)), (.int .u64 (0))])).put h2.next (.rw [.string ⟨(txtS lc).1.toArray⟩, .string ⟨(txtS (T1 lc).2.1).1.toArray⟩, .int .u32 0, .int .i64 0, .int .u64 0]) = h3 at *
  have s3 := s2.alloc k3
  -- the item's block is none of the others
  have n4 : h2.next ≠ b4 := by have := s2.z.1; omega
  have n6 : h2.next ≠ b6 := by have := s2.a.1; omega
  have n7 : h2.next ≠ b7 := by have := s2.r.1.1; omega
  have ni : ¬ blk iv h2.next := fun hi => by have := s2.m.lt hi; omega
  have nv2 : ¬ blk v2 h2.next := fun hb => by have := s2.r.2.1.lt hb; omega
  have f10 : h0.next ≤ h2.next := s2.k.next
  refine hK _ _ _ (C.seq fun K hK => ?_)
  simp only [↓opStep_eq, ↓reduceIte, tg_set, toTm_cons, toTm_nil, fieldPtr_ptr, Nat.add_zero, Nat.zero_add, Nat.reduceAdd, Nat.reduceEqDiff, Int.reduceEq, Int.reduceLT, Int.reduceLE, Int.reduceNe, ↓kO_some, ↓kA_some, ↓kH_some, kO_some, kA_some, kH_some, gd_true, gd_false, nthD_zero, nthD_succ, isB_true, isB_false, isB_undef, pickV_true, pickV_false, binV_add, binV_sub, binV_mul, binV_eql, binV_neq, binV_lss, binV_leq, binV_gtr, binV_geq, unV_not, nt, nf, Bool.false_eq_true, dt, df, decide_true, decide_false, withV_some, aggO_some, ptrTo_eq, ↓aO_some, aO_some, ↓andB_true, andB_true, gz, gs, seqC, retC, skipC, exitC, blockC, condC, cells_agg, r23_16, t8, gc]
  refine rd_number L (n + 2) b7 v2 (T2 lc).2.1 _ h3 s3.r (by omega) (by omega) _ fun r h4 hv => ?_
  obtain ⟨rfl, ⟨v4, r4, w4⟩, k4⟩ := hv
  have s4 := s3.read r4 w4 k4
  have b10' := b10.keep k4 n7
  have nv4 : ¬ blk v4 h2.next := fun hb => (w4 _ hb).elim nv2 fun h => by have := b10.1; omega
  refine rd_number L (n + 2) b7 v4 (N1 lc).2.1 _ h4 s4.r (by omega) (by omega) _ fun r h5 hv => ?_
  obtain ⟨rfl, ⟨v5, r5, w5⟩, k5⟩ := hv
  have s5 := s4.read r5 w5 k5
  have b10'' := b10'.keep k5 n7
  have nv5 : ¬ blk v5 h2.next := fun hb => (w5 _ hb).elim nv4 fun h => by have := b10'.1; omega
  refine hK _ _ _ (C.seq fun K hK => ?_)
  simp only [↓opStep_eq, ↓reduceIte, tg_set, toTm_cons, toTm_nil, fieldPtr_ptr, Nat.add_zero, Nat.zero_add, Nat.reduceAdd, Nat.reduceEqDiff, Int.reduceEq, Int.reduceLT, Int.reduceLE, Int.reduceNe, ↓kO_some, ↓kA_some, ↓kH_some, kO_some, kA_some, kH_some, gd_true, gd_false, nthD_zero, nthD_succ, isB_true, isB_false, isB_undef, pickV_true, pickV_false, binV_add, binV_sub, binV_mul, binV_eql, binV_neq, binV_lss, binV_leq, binV_gtr, binV_geq, unV_not, nt, nf, Bool.false_eq_true, dt, df, decide_true, decide_false, withV_some, aggO_some, ptrTo_eq, ↓aO_some, aO_some, ↓andB_true, andB_true, gz, gs, seqC, retC, skipC, exitC, blockC, condC, cells_agg, r23_17, t8, gc]
  refine rd_number L (n + 2) b7 v5 (N2 lc).2.1 _ h5 s5.r (by omega) (by omega) _ fun r h6 hv => ?_
  obtain ⟨rfl, ⟨v6, r6, w6⟩, k6⟩ := hv
  have s6 := s5.read r6 w6 k6
  have b6' := b10''.keep k6 n7
  have nv6 : ¬ blk v6 h2.next := fun hb => (w6 _ hb).elim nv5 fun h => by have := b10''.1; omega
  have q4 := store_cell (o := 4) (s := none) (x := .int .u64 ((numS (N2 lc).2.1).1 : Int)) b6' (by simp) rfl rfl
  simp only [List.set_cons_succ, List.set_cons_zero] at q4
  have k7 := Keep.put h6 h2.next (.rw [.string ⟨(txtS lc).1.toArray⟩, .string ⟨(txtS (T1 lc).2.1).1.toArray⟩, .int .u32 0, .int .i64 0, .int .u64 ((numS (N2 lc).2.1).1 : Int)])
  have c7 : Has (h6.put h2.next (.rw [.string ⟨(txtS lc).1.toArray⟩, .string ⟨(txtS (T1 lc).2.1).1.toArray⟩, .int .u32 0, .int .i64 0, .int .u64 ((numS (N2 lc).2.1).1 : Int)])) h2.next (.rw [.string ⟨(txtS lc).1.toArray⟩, .string ⟨(txtS (T1 lc).2.1).1.toArray⟩, .int .u32 0, .int .i64 0, .int .u64 ((numS (N2 lc).2.1).1 : Int)]) := Has.put b6'.1
  have s7 := s6.other k7 f10 n4 n6 n7 nv6 ni
  simp only [↓opStep_eq, ↓reduceIte, tg_set, toTm_cons, toTm_nil, fieldPtr_ptr, Nat.add_zero, Nat.zero_add, Nat.reduceAdd, Nat.reduceEqDiff, Int.reduceEq, Int.reduceLT, Int.reduceLE, Int.reduceNe, ↓kO_some, ↓kA_some, ↓kH_some, kO_some, kA_some, kH_some, gd_true, gd_false, nthD_zero, nthD_succ, isB_true, isB_false, isB_undef, pickV_true, pickV_false, binV_add, binV_sub, binV_mul, binV_eql, binV_neq, binV_lss, binV_leq, binV_gtr, binV_geq, unV_not, nt, nf, Bool.false_eq_true, dt, df, decide_true, decide_false, withV_some, aggO_some, ptrTo_eq, ↓aO_some, aO_some, ↓andB_true, andB_true, gz, gs, seqC, retC, skipC, exitC, blockC, condC, cells_agg, q4]
  generalize h6.put h2.next (.rw [.string ⟨(txtS lc).1.toArray⟩, .string ⟨(txtS (T1 lc).2.1).1.toArray⟩, .int .u32 0, .int .i64 0, .int .u64 ((numS (N2 lc).2.1).1 : Int)]) = h7 at *
  refine hK _ _ _ (C.seq (C.seq fun K hK => ?_))
  rw [show ∀ x : CodeT, (⟨x⟩ : Box CodeT).f = x from fun _ => rfl]
  rw [limits (f := (N1 lc).1) (u := (N2 lc).1) (by simp only [↓opStep_eq, ↓reduceIte, tg_set, toTm_cons, toTm_nil, fieldPtr_ptr, Nat.add_zero, Nat.zero_add, Nat.reduceAdd, Nat.reduceEqDiff, Int.reduceEq, Int.reduceLT, Int.reduceLE, Int.reduceNe, ↓kO_some, ↓kA_some, ↓kH_some, kO_some, kA_some, kH_some, gd_true, gd_false, nthD_zero, nthD_succ, isB_true, isB_false, isB_undef, pickV_true, pickV_false, binV_add, binV_sub, binV_mul, binV_eql, binV_neq, binV_lss, binV_leq, binV_gtr, binV_geq, unV_not, nt, nf, Bool.false_eq_true, dt, df, decide_true, decide_false, withV_some, aggO_some, ptrTo_eq, ↓aO_some, aO_some, ↓andB_true, andB_true, gz, gs, seqC, retC, skipC, exitC, blockC, condC, cells_agg]; rfl) (by simp only [↓opStep_eq, ↓reduceIte, tg_set, toTm_cons, toTm_nil, fieldPtr_ptr, Nat.add_zero, Nat.zero_add, Nat.reduceAdd, Nat.reduceEqDiff, Int.reduceEq, Int.reduceLT, Int.reduceLE, Int.reduceNe, ↓kO_some, ↓kA_some, ↓kH_some, kO_some, kA_some, kH_some, gd_true, gd_false, nthD_zero, nthD_succ, isB_true, isB_false, isB_undef, pickV_true, pickV_false, binV_add, binV_sub, binV_mul, binV_eql, binV_neq, binV_lss, binV_leq, binV_gtr, binV_geq, unV_not, nt, nf, Bool.false_eq_true, dt, df, decide_true, decide_false, withV_some, aggO_some, ptrTo_eq, ↓aO_some, aO_some, ↓andB_true, andB_true, gz, gs, seqC, retC, skipC, exitC, blockC, condC, cells_agg]; rfl)]
  refine hK _ _ _ (C.cond (decide (4294967295 < (N1 lc).1 ∨ 1099511627776 < (N2 lc).1)) (by simp only [↓opStep_eq, ↓reduceIte, tg_set, toTm_cons, toTm_nil, fieldPtr_ptr, Nat.add_zero, Nat.zero_add, Nat.reduceAdd, Nat.reduceEqDiff, Int.reduceEq, Int.reduceLT, Int.reduceLE, Int.reduceNe, ↓kO_some, ↓kA_some, ↓kH_some, kO_some, kA_some, kH_some, gd_true, gd_false, nthD_zero, nthD_succ, isB_true, isB_false, isB_undef, pickV_true, pickV_false, binV_add, binV_sub, binV_mul, binV_eql, binV_neq, binV_lss, binV_leq, binV_gtr, binV_geq, unV_not, nt, nf, Bool.false_eq_true, dt, df, decide_true, decide_false, withV_some, aggO_some, ptrTo_eq, ↓aO_some, aO_some, ↓andB_true, andB_true, gz, gs, seqC, retC, skipC, exitC, blockC, condC, cells_agg]) (fun g => C.seq fun K hK => ?_) fun g => C.skip ?_)
  · have g := of_decide_eq_true g
    have hsh : ones [bv 1, bv x0, bv x1, iv, .int .u64 (num : Int), .bool false, .string (strB [])] = true := ones_cons (x := bv 1) rfl (ones_cons (x := bv x0) rfl (ones_cons (x := bv x1) rfl (ones_cons s7.m.ones rfl)))
    obtain ⟨ds, e1, dl, d1, e2⟩ := store7 (s := none) s7.z rfl ⟨_, rfl, rfl, hsh⟩
    have hds : ds = [bv 1, bv x0, bv x1, iv, .int .u64 (num : Int), .bool false, .string (strB [])] := by simpa using e1.symm
    rw [hds] at e2
    simp only [↓opStep_eq, ↓reduceIte, tg_set, toTm_cons, toTm_nil, fieldPtr_ptr, Nat.add_zero, Nat.zero_add, Nat.reduceAdd, Nat.reduceEqDiff, Int.reduceEq, Int.reduceLT, Int.reduceLE, Int.reduceNe, ↓kO_some, ↓kA_some, ↓kH_some, kO_some, kA_some, kH_some, gd_true, gd_false, nthD_zero, nthD_succ, isB_true, isB_false, isB_undef, pickV_true, pickV_false, binV_add, binV_sub, binV_mul, binV_eql, binV_neq, binV_lss, binV_leq, binV_gtr, binV_geq, unV_not, nt, nf, Bool.false_eq_true, dt, df, decide_true, decide_false, withV_some, aggO_some, ptrTo_eq, ↓aO_some, aO_some, ↓andB_true, andB_true, gz, gs, seqC, retC, skipC, exitC, blockC, condC, cells_agg, r23_19, t6, t4, load7 s7.a rfl, e2]
    refine hK _ _ _ (C.ret ?_)
    show (if 4294967295 < (N1 lc).1 ∨ 1099511627776 < (N2 lc).1 then _ else _)
    rw [if_pos g]
    exact ⟨rfl, by simp only [↓opStep_eq, ↓reduceIte, tg_set, toTm_cons, toTm_nil, fieldPtr_ptr, Nat.add_zero, Nat.zero_add, Nat.reduceAdd, Nat.reduceEqDiff, Int.reduceEq, Int.reduceLT, Int.reduceLE, Int.reduceNe, ↓kO_some, ↓kA_some, ↓kH_some, kO_some, kA_some, kH_some, gd_true, gd_false, nthD_zero, nthD_succ, isB_true, isB_false, isB_undef, pickV_true, pickV_false, binV_add, binV_sub, binV_mul, binV_eql, binV_neq, binV_lss, binV_leq, binV_gtr, binV_geq, unV_not, nt, nf, Bool.false_eq_true, dt, df, decide_true, decide_false, withV_some, aggO_some, ptrTo_eq, ↓aO_some, aO_some, ↓andB_true, andB_true, gz, gs, seqC, retC, skipC, exitC, blockC, condC, cells_agg, t4], by simp only [↓opStep_eq, ↓reduceIte, tg_set, toTm_cons, toTm_nil, fieldPtr_ptr, Nat.add_zero, Nat.zero_add, Nat.reduceAdd, Nat.reduceEqDiff, Int.reduceEq, Int.reduceLT, Int.reduceLE, Int.reduceNe, ↓kO_some, ↓kA_some, ↓kH_some, kO_some, kA_some, kH_some, gd_true, gd_false, nthD_zero, nthD_succ, isB_true, isB_false, isB_undef, pickV_true, pickV_false, binV_add, binV_sub, binV_mul, binV_eql, binV_neq, binV_lss, binV_leq, binV_gtr, binV_geq, unV_not, nt, nf, Bool.false_eq_true, dt, df, decide_true, decide_false, withV_some, aggO_some, ptrTo_eq, ↓aO_some, aO_some, ↓andB_true, andB_true, gz, gs, seqC, retC, skipC, exitC, blockC, condC, cells_agg], ⟨_, Has.put s7.z.1, rfl, hsh⟩, s7.k.trans (Keep.put _ _ _) fun c hc e => by have := s7.f4; omega⟩
  · have g := of_decide_eq_false g
    have hf : (N1 lc).1 < 4294967296 := by omega
    have hu : (N2 lc).1 ≤ 1099511627776 := by omega
    have tf : toInt .u32 (.int .u64 ((N1 lc).1 : Int)) = some (.int .u32 ((N1 lc).1 : Int)) := by rw [toInt_int, wrap_u32 _ hf]
    have tu := toI64 .u64 (N2 lc).1 (by omega)
    have q2 := store_cell (o := 2) (s := none) (x := .int .u32 ((N1 lc).1 : Int)) c7 (by simp) rfl rfl
    simp only [List.set_cons_succ, List.set_cons_zero] at q2
    have k8 := Keep.put h7 h2.next (.rw [.string ⟨(txtS lc).1.toArray⟩, .string ⟨(txtS (T1 lc).2.1).1.toArray⟩, .int .u32 ((N1 lc).1 : Int), .int .i64 0, .int .u64 ((numS (N2 lc).2.1).1 : Int)])
    have c8 : Has (h7.put h2.next (.rw [.string ⟨(txtS lc).1.toArray⟩, .string ⟨(txtS (T1 lc).2.1).1.toArray⟩, .int .u32 ((N1 lc).1 : Int), .int .i64 0, .int .u64 ((numS (N2 lc).2.1).1 : Int)])) h2.next (.rw [.string ⟨(txtS lc).1.toArray⟩, .string ⟨(txtS (T1 lc).2.1).1.toArray⟩, .int .u32 ((N1 lc).1 : Int), .int .i64 0, .int .u64 ((numS (N2 lc).2.1).1 : Int)]) := Has.put c7.1
    have s8 := s7.other k8 f10 n4 n6 n7 nv6 ni
    generalize h7.put h2.next (.rw [.string ⟨(txtS lc).1.toArray⟩, .string ⟨(txtS (T1 lc).2.1).1.toArray⟩, .int .u32 ((N1 lc).1 : Int), .int .i64 0, .int .u64 ((numS (N2 lc).2.1).1 : Int)]) = h8 at *
    have q3 := store_cell (o := 3) (s := none) (x := .int .i64 ((N2 lc).1 : Int)) c8 (by simp) rfl rfl
    simp only [List.set_cons_succ, List.set_cons_zero] at q3
    have hit : [Value.string ⟨(txtS lc).1.toArray⟩, .string ⟨(txtS (T1 lc).2.1).1.toArray⟩, .int .u32 ((N1 lc).1 : Int), .int .i64 ((N2 lc).1 : Int), .int .u64 ((numS (N2 lc).2.1).1 : Int)] = (itF lc).cells := rfl
    rw [hit] at q3
    have k9 := Keep.put h8 h2.next (.rw (itF lc).cells)
    have c9 : Has (h8.put h2.next (.rw (itF lc).cells)) h2.next (.rw (itF lc).cells) := Has.put c8.1
    have s9 := s8.other k9 f10 n4 n6 n7 nv6 ni
    refine C.seq fun K hK => ?_
    have t11 : ∀ tm : T Value, tg (T.set tm 11 (.int .u64 ((numS (T2 lc).2.1).1 : Int))) 11 = .int .u64 ((N1 lc).1 : Int) := fun tm => by simp only [↓opStep_eq, ↓reduceIte, tg_set, toTm_cons, toTm_nil, fieldPtr_ptr, Nat.add_zero, Nat.zero_add, Nat.reduceAdd, Nat.reduceEqDiff, Int.reduceEq, Int.reduceLT, Int.reduceLE, Int.reduceNe, ↓kO_some, ↓kA_some, ↓kH_some, kO_some, kA_some, kH_some, gd_true, gd_false, nthD_zero, nthD_succ, isB_true, isB_false, isB_undef, pickV_true, pickV_false, binV_add, binV_sub, binV_mul, binV_eql, binV_neq, binV_lss, binV_leq, binV_gtr, binV_geq, unV_not, nt, nf, Bool.false_eq_true, dt, df, decide_true, decide_false, withV_some, aggO_some, ptrTo_eq, ↓aO_some, aO_some, ↓andB_true, andB_true, gz, gs, seqC, retC, skipC, exitC, blockC, condC, cells_agg]; rfl
    have e11 : Value.int .u64 ((numS (T2 lc).2.1).1 : Int) = .int .u64 ((N1 lc).1 : Int) := rfl
    have e12 : Value.int .u64 ((numS (N1 lc).2.1).1 : Int) = .int .u64 ((N2 lc).1 : Int) := rfl
    simp only [↓opStep_eq, ↓reduceIte, tg_set, toTm_cons, toTm_nil, fieldPtr_ptr, Nat.add_zero, Nat.zero_add, Nat.reduceAdd, Nat.reduceEqDiff, Int.reduceEq, Int.reduceLT, Int.reduceLE, Int.reduceNe, ↓kO_some, ↓kA_some, ↓kH_some, kO_some, kA_some, kH_some, gd_true, gd_false, nthD_zero, nthD_succ, isB_true, isB_false, isB_undef, pickV_true, pickV_false, binV_add, binV_sub, binV_mul, binV_eql, binV_neq, binV_lss, binV_leq, binV_gtr, binV_geq, unV_not, nt, nf, Bool.false_eq_true, dt, df, decide_true, decide_false, withV_some, aggO_some, ptrTo_eq, ↓aO_some, aO_some, ↓andB_true, andB_true, gz, gs, seqC, retC, skipC, exitC, blockC, condC, cells_agg, r23_20, e11, e12, tf, tu, q2, q3]
    generalize h8.put h2.next (.rw (itF lc).cells) = h9 at *
    -- the item is put behind the others
    have ld : ∀ s, loadOne h9 (.pointer (some ⟨b6, 3, s⟩)) = some iv := fun s => by rw [loadOne_has s9.a rfl]; rfl
    have lda : loadAgg 5 h9 (.pointer (some ⟨h2.next, 0, none⟩)) = some (itF lc).v := by
      rw [loadAgg_has c9 rfl (by simp)]; rfl
    obtain ⟨iv', h10, e10, mi', k10, fi'⟩ := append_item (x := itF lc) s9.m (by omega)
    have nb : ∀ {b : Nat} {cs : List Value}, Has h9 b (.rw cs) → ¬ blk iv b := fun hb => s9.m.ne hb
    have a10 : Has h10 b6 (.rw [bv 1, bv x0, bv x1, iv, .int .u64 (num : Int), .bool false, .string (strB [])]) := s9.a.keep k10 (nb s9.a)
    have q5 := store_cell (o := 3) (s := none) (x := iv') a10 (by simp) mi'.cells mi'.ones
    simp only [List.set_cons_succ, List.set_cons_zero] at q5
    have k11 := Keep.put h10 b6 (.rw [bv 1, bv x0, bv x1, iv', .int .u64 (num : Int), .bool false, .string (strB [])])
    refine hK _ _ _ fun K hK => ?_
    simp only [↓opStep_eq, ↓reduceIte, tg_set, toTm_cons, toTm_nil, fieldPtr_ptr, Nat.add_zero, Nat.zero_add, Nat.reduceAdd, Nat.reduceEqDiff, Int.reduceEq, Int.reduceLT, Int.reduceLE, Int.reduceNe, ↓kO_some, ↓kA_some, ↓kH_some, kO_some, kA_some, kH_some, gd_true, gd_false, nthD_zero, nthD_succ, isB_true, isB_false, isB_undef, pickV_true, pickV_false, binV_add, binV_sub, binV_mul, binV_eql, binV_neq, binV_lss, binV_leq, binV_gtr, binV_geq, unV_not, nt, nf, Bool.false_eq_true, dt, df, decide_true, decide_false, withV_some, aggO_some, ptrTo_eq, ↓aO_some, aO_some, ↓andB_true, andB_true, gz, gs, seqC, retC, skipC, exitC, blockC, condC, cells_agg, r23_21, t6, ld, lda, lit_item, e10, q5]
    refine hK _ _ _ ?_
    show (if 4294967295 < (N1 lc).1 ∨ 1099511627776 < (N2 lc).1 then _ else _)
    rw [if_neg g]
    refine ⟨rfl, ⟨by simp only [↓opStep_eq, ↓reduceIte, tg_set, toTm_cons, toTm_nil, fieldPtr_ptr, Nat.add_zero, Nat.zero_add, Nat.reduceAdd, Nat.reduceEqDiff, Int.reduceEq, Int.reduceLT, Int.reduceLE, Int.reduceNe, ↓kO_some, ↓kA_some, ↓kH_some, kO_some, kA_some, kH_some, gd_true, gd_false, nthD_zero, nthD_succ, isB_true, isB_false, isB_undef, pickV_true, pickV_false, binV_add, binV_sub, binV_mul, binV_eql, binV_neq, binV_lss, binV_leq, binV_gtr, binV_geq, unV_not, nt, nf, Bool.false_eq_true, dt, df, decide_true, decide_false, withV_some, aggO_some, ptrTo_eq, ↓aO_some, aO_some, ↓andB_true, andB_true, gz, gs, seqC, retC, skipC, exitC, blockC, condC, cells_agg], by simp only [↓opStep_eq, ↓reduceIte, tg_set, toTm_cons, toTm_nil, fieldPtr_ptr, Nat.add_zero, Nat.zero_add, Nat.reduceAdd, Nat.reduceEqDiff, Int.reduceEq, Int.reduceLT, Int.reduceLE, Int.reduceNe, ↓kO_some, ↓kA_some, ↓kH_some, kO_some, kA_some, kH_some, gd_true, gd_false, nthD_zero, nthD_succ, isB_true, isB_false, isB_undef, pickV_true, pickV_false, binV_add, binV_sub, binV_mul, binV_eql, binV_neq, binV_lss, binV_leq, binV_gtr, binV_geq, unV_not, nt, nf, Bool.false_eq_true, dt, df, decide_true, decide_false, withV_some, aggO_some, ptrTo_eq, ↓aO_some, aO_some, ↓andB_true, andB_true, gz, gs, seqC, retC, skipC, exitC, blockC, condC, cells_agg], by simp only [↓opStep_eq, ↓reduceIte, tg_set, toTm_cons, toTm_nil, fieldPtr_ptr, Nat.add_zero, Nat.zero_add, Nat.reduceAdd, Nat.reduceEqDiff, Int.reduceEq, Int.reduceLT, Int.reduceLE, Int.reduceNe, ↓kO_some, ↓kA_some, ↓kH_some, kO_some, kA_some, kH_some, gd_true, gd_false, nthD_zero, nthD_succ, isB_true, isB_false, isB_undef, pickV_true, pickV_false, binV_add, binV_sub, binV_mul, binV_eql, binV_neq, binV_lss, binV_leq, binV_gtr, binV_geq, unV_not, nt, nf, Bool.false_eq_true, dt, df, decide_true, decide_false, withV_some, aggO_some, ptrTo_eq, ↓aO_some, aO_some, ↓andB_true, andB_true, gz, gs, seqC, retC, skipC, exitC, blockC, condC, cells_agg], by simp only [↓opStep_eq, ↓reduceIte, tg_set, toTm_cons, toTm_nil, fieldPtr_ptr, Nat.add_zero, Nat.zero_add, Nat.reduceAdd, Nat.reduceEqDiff, Int.reduceEq, Int.reduceLT, Int.reduceLE, Int.reduceNe, ↓kO_some, ↓kA_some, ↓kH_some, kO_some, kA_some, kH_some, gd_true, gd_false, nthD_zero, nthD_succ, isB_true, isB_false, isB_undef, pickV_true, pickV_false, binV_add, binV_sub, binV_mul, binV_eql, binV_neq, binV_lss, binV_leq, binV_gtr, binV_geq, unV_not, nt, nf, Bool.false_eq_true, dt, df, decide_true, decide_false, withV_some, aggO_some, ptrTo_eq, ↓aO_some, aO_some, ↓andB_true, andB_true, gz, gs, seqC, retC, skipC, exitC, blockC, condC, cells_agg], by simp only [↓opStep_eq, ↓reduceIte, tg_set, toTm_cons, toTm_nil, fieldPtr_ptr, Nat.add_zero, Nat.zero_add, Nat.reduceAdd, Nat.reduceEqDiff, Int.reduceEq, Int.reduceLT, Int.reduceLE, Int.reduceNe, ↓kO_some, ↓kA_some, ↓kH_some, kO_some, kA_some, kH_some, gd_true, gd_false, nthD_zero, nthD_succ, isB_true, isB_false, isB_undef, pickV_true, pickV_false, binV_add, binV_sub, binV_mul, binV_eql, binV_neq, binV_lss, binV_leq, binV_gtr, binV_geq, unV_not, nt, nf, Bool.false_eq_true, dt, df, decide_true, decide_false, withV_some, aggO_some, ptrTo_eq, ↓aO_some, aO_some, ↓andB_true, andB_true, gz, gs, seqC, retC, skipC, exitC, blockC, condC, cells_agg], by simp only [↓opStep_eq, ↓reduceIte, tg_set, toTm_cons, toTm_nil, fieldPtr_ptr, Nat.add_zero, Nat.zero_add, Nat.reduceAdd, Nat.reduceEqDiff, Int.reduceEq, Int.reduceLT, Int.reduceLE, Int.reduceNe, ↓kO_some, ↓kA_some, ↓kH_some, kO_some, kA_some, kH_some, gd_true, gd_false, nthD_zero, nthD_succ, isB_true, isB_false, isB_undef, pickV_true, pickV_false, binV_add, binV_sub, binV_mul, binV_eql, binV_neq, binV_lss, binV_leq, binV_gtr, binV_geq, unV_not, nt, nf, Bool.false_eq_true, dt, df, decide_true, decide_false, withV_some, aggO_some, ptrTo_eq, ↓aO_some, aO_some, ↓andB_true, andB_true, gz, gs, seqC, retC, skipC, exitC, blockC, condC, cells_agg]⟩, v6, iv', ?_⟩
    have d9 : ∀ c, blk v6 c → ¬ blk iv' c := fun c hc hi => (fi' c hi).elim (s9.d c hc).2.2 fun h => by have := s9.r.2.1.lt hc; omega
    have n7' : b7 ≠ b6 := fun e => s9.n67 e.symm
    have hok : (ok && (txtS lc).2.2 && (txtS (T1 lc).2.1).2.2 && (numS (T2 lc).2.1).2.2 && (numS (N1 lc).2.1).2.2 && (numS (N2 lc).2.1).2.2) = (ok && okF lc) := by
      simp only [okF, T1, T2, N1, N2, N3, Bool.and_assoc]
    exact {
      r := by
        rw [← hok]
        exact ⟨(s9.r.1.keep k10 (nb s9.r.1)).keep k11 n7', (s9.r.2.1.keep k10 fun c hc hi => (s9.d c hc).2.2 hi).keep k11 fun c hc e => (s9.d c hc).2.1 e, s9.r.2.2⟩
      z := (s9.z.keep k10 (nb s9.z)).keep k11 s9.n46
      a := Has.put a10.1
      m := mi'.keep k11 fun c hc e => mi'.ne a10 (e ▸ hc)
      d := fun c hc => ⟨(s9.d c hc).1, (s9.d c hc).2.1, d9 c hc⟩
      k := (s9.k.trans k10 fun c hc hi => by have := s9.fi c hi; omega).trans k11 fun c hc e => by have := s9.f6; omega
      f4 := s9.f4
      f6 := s9.f6
      f7 := s9.f7
      fi := fun c hc => (fi' c hc).elim (s9.fi c) fun h => Nat.le_trans s9.k.next h
      n46 := s9.n46
      n47 := s9.n47
      n67 := s9.n67 }
end Go.Proofs.Ytpaolklbogakgaa

namespace Go.Proofs.Ytpaolklbogakgaa
open Go.Ev

/-- how the reading of a result's items ends -/
def End23 (tgt : Option (List Itm × List UInt8)) (x0 x1 : UInt8) (num : Nat) (b : Bool) (cs : List Value) (h' : H) : Prop :=
  (b = false ∧ ∀ xs, tgt ≠ some (xs, [])) ∨ (b = true ∧ ∃ xs iv, tgt = some (xs, []) ∧ cs = [bv 1, bv x0, bv x1, iv, .int .u64 (num : Int), .bool false, .string (strB [])] ∧ MineI h' iv xs ∧ xs.length ≤ 8 ∧ ∀ x ∈ xs, x.ok)

theorem itF_ok {l : List UInt8} (g : ¬ (4294967295 < (N1 l).1 ∨ 1099511627776 < (N2 l).1)) : (itF l).ok := by
  have h3 := numS_lt (N2 l).2.1
  exact ⟨⟨by simp only [itF]; omega, by simp only [itF]; omega⟩, ⟨by simp only [itF]; omega, by simp only [itF]; omega⟩, ⟨by simp only [itF]; omega, by simp only [itF, N3]; omega⟩⟩

theorem tail23 {L n : Nat} {tm : T Value} {h0 h : H} {b4 b6 b7 : Nat} {x0 x1 : UInt8} {num many : Nat} {vr iv : Value} {lc : List UInt8} {ok : Bool} {tgt : Option (List Itm × List UInt8)} {N : Nat} (hL : N < L) (hL2 : 100 < L) (hN : N < 1000000) (hlc : lc.length ≤ N) (hm : many ≤ 8)
    (s : St h0 h b4 b6 b7 x0 x1 num vr iv lc ok []) (hA : ok = true → tgt = pItems many lc) (hB : ok = false → tgt = none ∧ lc = [])
    (t4 : tg tm 4 = .pointer (some ⟨b4, 0, none⟩)) (t6 : tg tm 6 = .pointer (some ⟨b6, 0, none⟩)) (t7 : tg tm 7 = .pointer (some ⟨b7, 0, none⟩)) (t8 : tg tm 8 = .func (.func 38) [.pointer (some ⟨b7, 0, none⟩)].toArray [].toArray) (t9 : tg tm 9 = .int .u64 (many : Int)) :
    C ⟨seqC ⟨seqC ⟨r23_13⟩ ⟨blockC 1 (loopB l23_23)⟩⟩ ⟨seqC ⟨r23_23⟩ retC⟩⟩ (CF L (n + 4)) L tm h fun e tm' h' => e = .ret ∧ tg tm' 4 = .pointer (some ⟨b4, 0, none⟩) ∧ ∃ b cs, tg tm' 5 = .bool b ∧ Has h' b4 (.rw cs) ∧ cs.length = 7 ∧ ones cs = true ∧ Keep nobody h0 h' ∧ End23 tgt x0 x1 num b cs h' := by
  refine C.seq (C.seq fun K hK => ?_)
  simp only [↓opStep_eq, ↓reduceIte, tg_set, toTm_cons, toTm_nil, fieldPtr_ptr, Nat.add_zero, Nat.zero_add, Nat.reduceAdd, Nat.reduceEqDiff, Int.reduceEq, Int.reduceLT, Int.reduceLE, Int.reduceNe, ↓kO_some, ↓kA_some, ↓kH_some, kO_some, kA_some, kH_some, gd_true, gd_false, nthD_zero, nthD_succ, isB_true, isB_false, isB_undef, pickV_true, pickV_false, binV_add, binV_sub, binV_mul, binV_eql, binV_neq, binV_lss, binV_leq, binV_gtr, binV_geq, unV_not, nt, nf, Bool.false_eq_true, dt, df, decide_true, decide_false, withV_some, aggO_some, ptrTo_eq, ↓aO_some, aO_some, ↓andB_true, andB_true, gz, gs, seqC, retC, skipC, exitC, blockC, condC, cells_agg, r23_13, t9]
  refine hK _ _ _ ?_
  refine C.block (C.loop (fun k tm hx => ∃ (i : Nat) (vr iv : Value) (lc : List UInt8) (ok : Bool) (xs : List Itm), k = many - i ∧ i ≤ many ∧ xs.length = i ∧ lc.length ≤ N ∧ St h0 hx b4 b6 b7 x0 x1 num vr iv lc ok xs ∧ (ok = true → tgt = (pItems (many - i) lc).map (fun p => (xs ++ p.1, p.2))) ∧ (ok = false → tgt = none ∧ lc = []) ∧ (∀ x ∈ xs, x.ok) ∧
      tg tm 4 = .pointer (some ⟨b4, 0, none⟩) ∧ tg tm 6 = .pointer (some ⟨b6, 0, none⟩) ∧ tg tm 7 = .pointer (some ⟨b7, 0, none⟩) ∧ tg tm 8 = .func (.func 38) [.pointer (some ⟨b7, 0, none⟩)].toArray [].toArray ∧ tg tm 46 = .int .u64 (many : Int) ∧ tg tm 47 = .int .u64 (i : Int)) many (by omega)
    ⟨0, vr, iv, lc, ok, [], rfl, by omega, rfl, hlc, s, fun h => by rw [hA h]; simp, hB, by simp, by simp only [↓opStep_eq, ↓reduceIte, tg_set, toTm_cons, toTm_nil, fieldPtr_ptr, Nat.add_zero, Nat.zero_add, Nat.reduceAdd, Nat.reduceEqDiff, Int.reduceEq, Int.reduceLT, Int.reduceLE, Int.reduceNe, ↓kO_some, ↓kA_some, ↓kH_some, kO_some, kA_some, kH_some, gd_true, gd_false, nthD_zero, nthD_succ, isB_true, isB_false, isB_undef, pickV_true, pickV_false, binV_add, binV_sub, binV_mul, binV_eql, binV_neq, binV_lss, binV_leq, binV_gtr, binV_geq, unV_not, nt, nf, Bool.false_eq_true, dt, df, decide_true, decide_false, withV_some, aggO_some, ptrTo_eq, ↓aO_some, aO_some, ↓andB_true, andB_true, gz, gs, seqC, retC, skipC, exitC, blockC, condC, cells_agg, t4], by simp only [↓opStep_eq, ↓reduceIte, tg_set, toTm_cons, toTm_nil, fieldPtr_ptr, Nat.add_zero, Nat.zero_add, Nat.reduceAdd, Nat.reduceEqDiff, Int.reduceEq, Int.reduceLT, Int.reduceLE, Int.reduceNe, ↓kO_some, ↓kA_some, ↓kH_some, kO_some, kA_some, kH_some, gd_true, gd_false, nthD_zero, nthD_succ, isB_true, isB_false, isB_undef, pickV_true, pickV_false, binV_add, binV_sub, binV_mul, binV_eql, binV_neq, binV_lss, binV_leq, binV_gtr, binV_geq, unV_not, nt, nf, Bool.false_eq_true, dt, df, decide_true, decide_false, withV_some, aggO_some, ptrTo_eq, ↓aO_some, aO_some, ↓andB_true, andB_true, gz, gs, seqC, retC, skipC, exitC, blockC, condC, cells_agg, t6], by simp only [↓opStep_eq, ↓reduceIte, tg_set, toTm_cons, toTm_nil, fieldPtr_ptr, Nat.add_zero, Nat.zero_add, Nat.reduceAdd, Nat.reduceEqDiff, Int.reduceEq, Int.reduceLT, Int.reduceLE, Int.reduceNe, ↓kO_some, ↓kA_some, ↓kH_some, kO_some, kA_some, kH_some, gd_true, gd_false, nthD_zero, nthD_succ, isB_true, isB_false, isB_undef, pickV_true, pickV_false, binV_add, binV_sub, binV_mul, binV_eql, binV_neq, binV_lss, binV_leq, binV_gtr, binV_geq, unV_not, nt, nf, Bool.false_eq_true, dt, df, decide_true, decide_false, withV_some, aggO_some, ptrTo_eq, ↓aO_some, aO_some, ↓andB_true, andB_true, gz, gs, seqC, retC, skipC, exitC, blockC, condC, cells_agg, t7], by simp only [↓opStep_eq, ↓reduceIte, tg_set, toTm_cons, toTm_nil, fieldPtr_ptr, Nat.add_zero, Nat.zero_add, Nat.reduceAdd, Nat.reduceEqDiff, Int.reduceEq, Int.reduceLT, Int.reduceLE, Int.reduceNe, ↓kO_some, ↓kA_some, ↓kH_some, kO_some, kA_some, kH_some, gd_true, gd_false, nthD_zero, nthD_succ, isB_true, isB_false, isB_undef, pickV_true, pickV_false, binV_add, binV_sub, binV_mul, binV_eql, binV_neq, binV_lss, binV_leq, binV_gtr, binV_geq, unV_not, nt, nf, Bool.false_eq_true, dt, df, decide_true, decide_false, withV_some, aggO_some, ptrTo_eq, ↓aO_some, aO_some, ↓andB_true, andB_true, gz, gs, seqC, retC, skipC, exitC, blockC, condC, cells_agg, t8], by simp only [↓opStep_eq, ↓reduceIte, tg_set, toTm_cons, toTm_nil, fieldPtr_ptr, Nat.add_zero, Nat.zero_add, Nat.reduceAdd, Nat.reduceEqDiff, Int.reduceEq, Int.reduceLT, Int.reduceLE, Int.reduceNe, ↓kO_some, ↓kA_some, ↓kH_some, kO_some, kA_some, kH_some, gd_true, gd_false, nthD_zero, nthD_succ, isB_true, isB_false, isB_undef, pickV_true, pickV_false, binV_add, binV_sub, binV_mul, binV_eql, binV_neq, binV_lss, binV_leq, binV_gtr, binV_geq, unV_not, nt, nf, Bool.false_eq_true, dt, df, decide_true, decide_false, withV_some, aggO_some, ptrTo_eq, ↓aO_some, aO_some, ↓andB_true, andB_true, gz, gs, seqC, retC, skipC, exitC, blockC, condC, cells_agg], by simp only [↓opStep_eq, ↓reduceIte, tg_set, toTm_cons, toTm_nil, fieldPtr_ptr, Nat.add_zero, Nat.zero_add, Nat.reduceAdd, Nat.reduceEqDiff, Int.reduceEq, Int.reduceLT, Int.reduceLE, Int.reduceNe, ↓kO_some, ↓kA_some, ↓kH_some, kO_some, kA_some, kH_some, gd_true, gd_false, nthD_zero, nthD_succ, isB_true, isB_false, isB_undef, pickV_true, pickV_false, binV_add, binV_sub, binV_mul, binV_eql, binV_neq, binV_lss, binV_leq, binV_gtr, binV_geq, unV_not, nt, nf, Bool.false_eq_true, dt, df, decide_true, decide_false, withV_some, aggO_some, ptrTo_eq, ↓aO_some, aO_some, ↓andB_true, andB_true, gz, gs, seqC, retC, skipC, exitC, blockC, condC, cells_agg] <;> rfl⟩ ?_)
  clear s hA hB t4 t6 t7 t8 t9 hlc
  rintro k tm hx ⟨i, vr, iv, lc, ok, xs, rfl, him, hxl, hlc, s, hA, hB, oks, t4, t6, t7, t8, t46, t47⟩
  unfold l23_23
  refine C.seq fun K hK => ?_
  simp only [↓opStep_eq, ↓reduceIte, tg_set, toTm_cons, toTm_nil, fieldPtr_ptr, Nat.add_zero, Nat.zero_add, Nat.reduceAdd, Nat.reduceEqDiff, Int.reduceEq, Int.reduceLT, Int.reduceLE, Int.reduceNe, ↓kO_some, ↓kA_some, ↓kH_some, kO_some, kA_some, kH_some, gd_true, gd_false, nthD_zero, nthD_succ, isB_true, isB_false, isB_undef, pickV_true, pickV_false, binV_add, binV_sub, binV_mul, binV_eql, binV_neq, binV_lss, binV_leq, binV_gtr, binV_geq, unV_not, nt, nf, Bool.false_eq_true, dt, df, decide_true, decide_false, withV_some, aggO_some, ptrTo_eq, ↓aO_some, aO_some, ↓andB_true, andB_true, gz, gs, seqC, retC, skipC, exitC, blockC, condC, cells_agg, r23_14, t46, t47]
  refine hK _ _ _ (C.seq (C.cond (decide ((i : Int) < many)) (by simp only [↓opStep_eq, ↓reduceIte, tg_set, toTm_cons, toTm_nil, fieldPtr_ptr, Nat.add_zero, Nat.zero_add, Nat.reduceAdd, Nat.reduceEqDiff, Int.reduceEq, Int.reduceLT, Int.reduceLE, Int.reduceNe, ↓kO_some, ↓kA_some, ↓kH_some, kO_some, kA_some, kH_some, gd_true, gd_false, nthD_zero, nthD_succ, isB_true, isB_false, isB_undef, pickV_true, pickV_false, binV_add, binV_sub, binV_mul, binV_eql, binV_neq, binV_lss, binV_leq, binV_gtr, binV_geq, unV_not, nt, nf, Bool.false_eq_true, dt, df, decide_true, decide_false, withV_some, aggO_some, ptrTo_eq, ↓aO_some, aO_some, ↓andB_true, andB_true, gz, gs, seqC, retC, skipC, exitC, blockC, condC, cells_agg]) (fun g => C.skip ?_) fun g => C.exit ?_))
  · have hi : i < many := by have := of_decide_eq_true g; omega
    obtain ⟨mm, hmm⟩ : ∃ mm, many - i = mm + 1 := ⟨many - i - 1, by omega⟩
    rw [hmm] at hA
    refine C.seq (C.block ((body23 (L := L) (n := n) (by omega) (by omega) (by omega) s (by simp only [↓opStep_eq, ↓reduceIte, tg_set, toTm_cons, toTm_nil, fieldPtr_ptr, Nat.add_zero, Nat.zero_add, Nat.reduceAdd, Nat.reduceEqDiff, Int.reduceEq, Int.reduceLT, Int.reduceLE, Int.reduceNe, ↓kO_some, ↓kA_some, ↓kH_some, kO_some, kA_some, kH_some, gd_true, gd_false, nthD_zero, nthD_succ, isB_true, isB_false, isB_undef, pickV_true, pickV_false, binV_add, binV_sub, binV_mul, binV_eql, binV_neq, binV_lss, binV_leq, binV_gtr, binV_geq, unV_not, nt, nf, Bool.false_eq_true, dt, df, decide_true, decide_false, withV_some, aggO_some, ptrTo_eq, ↓aO_some, aO_some, ↓andB_true, andB_true, gz, gs, seqC, retC, skipC, exitC, blockC, condC, cells_agg, t4]) (by simp only [↓opStep_eq, ↓reduceIte, tg_set, toTm_cons, toTm_nil, fieldPtr_ptr, Nat.add_zero, Nat.zero_add, Nat.reduceAdd, Nat.reduceEqDiff, Int.reduceEq, Int.reduceLT, Int.reduceLE, Int.reduceNe, ↓kO_some, ↓kA_some, ↓kH_some, kO_some, kA_some, kH_some, gd_true, gd_false, nthD_zero, nthD_succ, isB_true, isB_false, isB_undef, pickV_true, pickV_false, binV_add, binV_sub, binV_mul, binV_eql, binV_neq, binV_lss, binV_leq, binV_gtr, binV_geq, unV_not, nt, nf, Bool.false_eq_true, dt, df, decide_true, decide_false, withV_some, aggO_some, ptrTo_eq, ↓aO_some, aO_some, ↓andB_true, andB_true, gz, gs, seqC, retC, skipC, exitC, blockC, condC, cells_agg, t6]) (by simp only [↓opStep_eq, ↓reduceIte, tg_set, toTm_cons, toTm_nil, fieldPtr_ptr, Nat.add_zero, Nat.zero_add, Nat.reduceAdd, Nat.reduceEqDiff, Int.reduceEq, Int.reduceLT, Int.reduceLE, Int.reduceNe, ↓kO_some, ↓kA_some, ↓kH_some, kO_some, kA_some, kH_some, gd_true, gd_false, nthD_zero, nthD_succ, isB_true, isB_false, isB_undef, pickV_true, pickV_false, binV_add, binV_sub, binV_mul, binV_eql, binV_neq, binV_lss, binV_leq, binV_gtr, binV_geq, unV_not, nt, nf, Bool.false_eq_true, dt, df, decide_true, decide_false, withV_some, aggO_some, ptrTo_eq, ↓aO_some, aO_some, ↓andB_true, andB_true, gz, gs, seqC, retC, skipC, exitC, blockC, condC, cells_agg, t7]) (by simp only [↓opStep_eq, ↓reduceIte, tg_set, toTm_cons, toTm_nil, fieldPtr_ptr, Nat.add_zero, Nat.zero_add, Nat.reduceAdd, Nat.reduceEqDiff, Int.reduceEq, Int.reduceLT, Int.reduceLE, Int.reduceNe, ↓kO_some, ↓kA_some, ↓kH_some, kO_some, kA_some, kH_some, gd_true, gd_false, nthD_zero, nthD_succ, isB_true, isB_false, isB_undef, pickV_true, pickV_false, binV_add, binV_sub, binV_mul, binV_eql, binV_neq, binV_lss, binV_leq, binV_gtr, binV_geq, unV_not, nt, nf, Bool.false_eq_true, dt, df, decide_true, decide_false, withV_some, aggO_some, ptrTo_eq, ↓aO_some, aO_some, ↓andB_true, andB_true, gz, gs, seqC, retC, skipC, exitC, blockC, condC, cells_agg, t8])).mono fun e tm' h' q => ?_))
    have hfive := five lc
    by_cases hlim : 4294967295 < (N1 lc).1 ∨ 1099511627776 < (N2 lc).1
    · rw [if_pos hlim] at q
      obtain ⟨rfl, q4, q5, ⟨cs, c1, c2, c3⟩, kq⟩ := q
      refine ⟨rfl, q4, false, cs, q5, c1, c2, c3, kq, .inl ⟨rfl, fun ys => ?_⟩⟩
      have hp : pItem lc = none := by
        split at hfive
        · exact hfive
        · exact hfive.1
      cases hok : ok
      · rw [(hB hok).1]; simp
      · rw [hA hok]; simp [pItems, hp]
    · rw [if_neg hlim] at q
      obtain ⟨rfl, ⟨p4, p6, p7, p8, p46, p47⟩, vr', iv', s'⟩ := q
      simp only [↓opStep_eq, ↓reduceIte, tg_set, toTm_cons, toTm_nil, fieldPtr_ptr, Nat.add_zero, Nat.zero_add, Nat.reduceAdd, Nat.reduceEqDiff, Int.reduceEq, Int.reduceLT, Int.reduceLE, Int.reduceNe, ↓kO_some, ↓kA_some, ↓kH_some, kO_some, kA_some, kH_some, gd_true, gd_false, nthD_zero, nthD_succ, isB_true, isB_false, isB_undef, pickV_true, pickV_false, binV_add, binV_sub, binV_mul, binV_eql, binV_neq, binV_lss, binV_leq, binV_gtr, binV_geq, unV_not, nt, nf, Bool.false_eq_true, dt, df, decide_true, decide_false, withV_some, aggO_some, ptrTo_eq, ↓aO_some, aO_some, ↓andB_true, andB_true, gz, gs, seqC, retC, skipC, exitC, blockC, condC, cells_agg] at p4 p6 p7 p8 p46 p47
      have fl := (five_len lc).2.2.2.2
      intro K hK
      have hw : IntKind.u64.wrap ((i : Int) + 1) = ((i + 1 : Nat) : Int) := by
        rw [show (i : Int) + 1 = ((i + 1 : Nat) : Int) by omega, wrap_u64 _ (by omega)]
      simp only [↓opStep_eq, ↓reduceIte, tg_set, toTm_cons, toTm_nil, fieldPtr_ptr, Nat.add_zero, Nat.zero_add, Nat.reduceAdd, Nat.reduceEqDiff, Int.reduceEq, Int.reduceLT, Int.reduceLE, Int.reduceNe, ↓kO_some, ↓kA_some, ↓kH_some, kO_some, kA_some, kH_some, gd_true, gd_false, nthD_zero, nthD_succ, isB_true, isB_false, isB_undef, pickV_true, pickV_false, binV_add, binV_sub, binV_mul, binV_eql, binV_neq, binV_lss, binV_leq, binV_gtr, binV_geq, unV_not, nt, nf, Bool.false_eq_true, dt, df, decide_true, decide_false, withV_some, aggO_some, ptrTo_eq, ↓aO_some, aO_some, ↓andB_true, andB_true, gz, gs, seqC, retC, skipC, exitC, blockC, condC, cells_agg, r23_22, p47, t47, hw]
      refine hK _ _ _ ⟨many - (i + 1), by omega, i + 1, vr', iv', (N3 lc).2.1, ok && okF lc, xs ++ [itF lc], rfl, by omega, by simp [hxl], by omega, s', ?_, ?_, ?_, by simp only [↓opStep_eq, ↓reduceIte, tg_set, toTm_cons, toTm_nil, fieldPtr_ptr, Nat.add_zero, Nat.zero_add, Nat.reduceAdd, Nat.reduceEqDiff, Int.reduceEq, Int.reduceLT, Int.reduceLE, Int.reduceNe, ↓kO_some, ↓kA_some, ↓kH_some, kO_some, kA_some, kH_some, gd_true, gd_false, nthD_zero, nthD_succ, isB_true, isB_false, isB_undef, pickV_true, pickV_false, binV_add, binV_sub, binV_mul, binV_eql, binV_neq, binV_lss, binV_leq, binV_gtr, binV_geq, unV_not, nt, nf, Bool.false_eq_true, dt, df, decide_true, decide_false, withV_some, aggO_some, ptrTo_eq, ↓aO_some, aO_some, ↓andB_true, andB_true, gz, gs, seqC, retC, skipC, exitC, blockC, condC, cells_agg, p4, t4], by simp only [↓opStep_eq, ↓reduceIte, tg_set, toTm_cons, toTm_nil, fieldPtr_ptr, Nat.add_zero, Nat.zero_add, Nat.reduceAdd, Nat.reduceEqDiff, Int.reduceEq, Int.reduceLT, Int.reduceLE, Int.reduceNe, ↓kO_some, ↓kA_some, ↓kH_some, kO_some, kA_some, kH_some, gd_true, gd_false, nthD_zero, nthD_succ, isB_true, isB_false, isB_undef, pickV_true, pickV_false, binV_add, binV_sub, binV_mul, binV_eql, binV_neq, binV_lss, binV_leq, binV_gtr, binV_geq, unV_not, nt, nf, Bool.false_eq_true, dt, df, decide_true, decide_false, withV_some, aggO_some, ptrTo_eq, ↓aO_some, aO_some, ↓andB_true, andB_true, gz, gs, seqC, retC, skipC, exitC, blockC, condC, cells_agg, p6, t6], by simp only [↓opStep_eq, ↓reduceIte, tg_set, toTm_cons, toTm_nil, fieldPtr_ptr, Nat.add_zero, Nat.zero_add, Nat.reduceAdd, Nat.reduceEqDiff, Int.reduceEq, Int.reduceLT, Int.reduceLE, Int.reduceNe, ↓kO_some, ↓kA_some, ↓kH_some, kO_some, kA_some, kH_some, gd_true, gd_false, nthD_zero, nthD_succ, isB_true, isB_false, isB_undef, pickV_true, pickV_false, binV_add, binV_sub, binV_mul, binV_eql, binV_neq, binV_lss, binV_leq, binV_gtr, binV_geq, unV_not, nt, nf, Bool.false_eq_true, dt, df, decide_true, decide_false, withV_some, aggO_some, ptrTo_eq, ↓aO_some, aO_some, ↓andB_true, andB_true, gz, gs, seqC, retC, skipC, exitC, blockC, condC, cells_agg, p7, t7], by simp only [↓opStep_eq, ↓reduceIte, tg_set, toTm_cons, toTm_nil, fieldPtr_ptr, Nat.add_zero, Nat.zero_add, Nat.reduceAdd, Nat.reduceEqDiff, Int.reduceEq, Int.reduceLT, Int.reduceLE, Int.reduceNe, ↓kO_some, ↓kA_some, ↓kH_some, kO_some, kA_some, kH_some, gd_true, gd_false, nthD_zero, nthD_succ, isB_true, isB_false, isB_undef, pickV_true, pickV_false, binV_add, binV_sub, binV_mul, binV_eql, binV_neq, binV_lss, binV_leq, binV_gtr, binV_geq, unV_not, nt, nf, Bool.false_eq_true, dt, df, decide_true, decide_false, withV_some, aggO_some, ptrTo_eq, ↓aO_some, aO_some, ↓andB_true, andB_true, gz, gs, seqC, retC, skipC, exitC, blockC, condC, cells_agg, p8, t8], by simp only [↓opStep_eq, ↓reduceIte, tg_set, toTm_cons, toTm_nil, fieldPtr_ptr, Nat.add_zero, Nat.zero_add, Nat.reduceAdd, Nat.reduceEqDiff, Int.reduceEq, Int.reduceLT, Int.reduceLE, Int.reduceNe, ↓kO_some, ↓kA_some, ↓kH_some, kO_some, kA_some, kH_some, gd_true, gd_false, nthD_zero, nthD_succ, isB_true, isB_false, isB_undef, pickV_true, pickV_false, binV_add, binV_sub, binV_mul, binV_eql, binV_neq, binV_lss, binV_leq, binV_gtr, binV_geq, unV_not, nt, nf, Bool.false_eq_true, dt, df, decide_true, decide_false, withV_some, aggO_some, ptrTo_eq, ↓aO_some, aO_some, ↓andB_true, andB_true, gz, gs, seqC, retC, skipC, exitC, blockC, condC, cells_agg, p46, t46], by simp only [↓opStep_eq, ↓reduceIte, tg_set, toTm_cons, toTm_nil, fieldPtr_ptr, Nat.add_zero, Nat.zero_add, Nat.reduceAdd, Nat.reduceEqDiff, Int.reduceEq, Int.reduceLT, Int.reduceLE, Int.reduceNe, ↓kO_some, ↓kA_some, ↓kH_some, kO_some, kA_some, kH_some, gd_true, gd_false, nthD_zero, nthD_succ, isB_true, isB_false, isB_undef, pickV_true, pickV_false, binV_add, binV_sub, binV_mul, binV_eql, binV_neq, binV_lss, binV_leq, binV_gtr, binV_geq, unV_not, nt, nf, Bool.false_eq_true, dt, df, decide_true, decide_false, withV_some, aggO_some, ptrTo_eq, ↓aO_some, aO_some, ↓andB_true, andB_true, gz, gs, seqC, retC, skipC, exitC, blockC, condC, cells_agg]⟩
      · intro hh
        rw [Bool.and_eq_true] at hh
        rw [if_pos hh.2, if_neg hlim] at hfive
        rw [hA hh.1, show many - (i + 1) = mm by omega]
        simp only [pItems, hfive]
        cases pItems mm (N3 lc).2.1 with
        | none => rfl
        | some p => simp
      · intro hh
        rw [Bool.and_eq_false_iff] at hh
        cases hok : ok
        · obtain ⟨z1, z2⟩ := hB hok
          refine ⟨z1, ?_⟩
          subst z2
          have h1 := (five_len []).2.2.2.2
          exact List.length_eq_zero_iff.1 (by simpa using h1)
        · have hF : okF lc = false := hh.resolve_left (by rw [hok]; decide)
          rw [hF] at hfive
          simp only [Bool.false_eq_true, if_false] at hfive
          exact ⟨by rw [hA hok]; simp [pItems, hfive.1], hfive.2⟩
      · intro x hx
        rcases List.mem_append.1 hx with hx | hx
        · exact oks x hx
        · simp only [List.mem_cons, List.not_mem_nil, or_false] at hx
          subst hx
          exact itF_ok hlim
  · have hi : i = many := by have := of_decide_eq_false g; omega
    subst hi
    simp only [if_pos]
    have hsh : ones [bv 1, bv x0, bv x1, iv, .int .u64 (num : Int), .bool false, .string (strB [])] = true := ones_cons (x := bv 1) rfl (ones_cons (x := bv x0) rfl (ones_cons (x := bv x1) rfl (ones_cons s.m.ones rfl)))
    have kr := keep_room hx 15
    have sr := s.alloc kr
    obtain ⟨ds, e1, dl, d1, e2⟩ := store7 (s := none) sr.z rfl ⟨_, rfl, rfl, hsh⟩
    have hds : ds = [bv 1, bv x0, bv x1, iv, .int .u64 (num : Int), .bool false, .string (strB [])] := by simpa using e1.symm
    rw [hds] at e2
    have kp := Keep.put (⟨hx.objs, hx.next + 15⟩ : H) b4 (.rw [bv 1, bv x0, bv x1, iv, .int .u64 (num : Int), .bool false, .string (strB [])])
    have ldr : ∀ (hy : H), Has hy b7 (.rw [vr, .bool ok]) → ∀ o s, loadOne hy (.pointer (some ⟨b7, o, s⟩)) = [vr, .bool ok][o]? := fun hy hb o s => loadOne_has hb rfl
    have r7 := sr.r.1.keep kp (fun e => s.n47 e.symm)
    have hlen : lenSl vr = some (.int .i64 (lc.length : Int)) := s.r.2.1.len
    have hvq : veq 64 vr vr = true := by
      rcases s.r.2.1 with ⟨rfl, _⟩ | ⟨b, o, c, x, cs, rfl, _⟩
      · rfl
      · exact veq_slice _ _ _ _
    have hO := hO_self hvq
    have kall : Keep nobody h0 ((⟨hx.objs, hx.next + 15⟩ : H).put b4 (.rw [bv 1, bv x0, bv x1, iv, .int .u64 (num : Int), .bool false, .string (strB [])])) := sr.k.trans kp fun c hc e => by have := s.f4; omega
    have mend : MineI ((⟨hx.objs, hx.next + 15⟩ : H).put b4 (.rw [bv 1, bv x0, bv x1, iv, .int .u64 (num : Int), .bool false, .string (strB [])])) iv xs := sr.m.keep kp fun c hc e => sr.m.ne sr.z (e ▸ hc)
    refine C.seq fun K hK => ?_
    cases hok : ok
    · subst hok
      simp only [↓opStep_eq, ↓reduceIte, tg_set, toTm_cons, toTm_nil, fieldPtr_ptr, Nat.add_zero, Nat.zero_add, Nat.reduceAdd, Nat.reduceEqDiff, Int.reduceEq, Int.reduceLT, Int.reduceLE, Int.reduceNe, ↓kO_some, ↓kA_some, ↓kH_some, kO_some, kA_some, kH_some, gd_true, gd_false, nthD_zero, nthD_succ, isB_true, isB_false, isB_undef, pickV_true, pickV_false, binV_add, binV_sub, binV_mul, binV_eql, binV_neq, binV_lss, binV_leq, binV_gtr, binV_geq, unV_not, nt, nf, Bool.false_eq_true, dt, df, decide_true, decide_false, withV_some, aggO_some, ptrTo_eq, ↓aO_some, aO_some, ↓andB_true, andB_true, gz, gs, seqC, retC, skipC, exitC, blockC, condC, cells_agg, r23_23, t6, t7, t4, nilChk_some, load7 sr.a rfl, ldr _ sr.r.1, ite2, e2]
      refine hK _ _ _ (C.ret ⟨rfl, by simp only [↓opStep_eq, ↓reduceIte, tg_set, toTm_cons, toTm_nil, fieldPtr_ptr, Nat.add_zero, Nat.zero_add, Nat.reduceAdd, Nat.reduceEqDiff, Int.reduceEq, Int.reduceLT, Int.reduceLE, Int.reduceNe, ↓kO_some, ↓kA_some, ↓kH_some, kO_some, kA_some, kH_some, gd_true, gd_false, nthD_zero, nthD_succ, isB_true, isB_false, isB_undef, pickV_true, pickV_false, binV_add, binV_sub, binV_mul, binV_eql, binV_neq, binV_lss, binV_leq, binV_gtr, binV_geq, unV_not, nt, nf, Bool.false_eq_true, dt, df, decide_true, decide_false, withV_some, aggO_some, ptrTo_eq, ↓aO_some, aO_some, ↓andB_true, andB_true, gz, gs, seqC, retC, skipC, exitC, blockC, condC, cells_agg, t4], false, _, by simp only [↓opStep_eq, ↓reduceIte, tg_set, toTm_cons, toTm_nil, fieldPtr_ptr, Nat.add_zero, Nat.zero_add, Nat.reduceAdd, Nat.reduceEqDiff, Int.reduceEq, Int.reduceLT, Int.reduceLE, Int.reduceNe, ↓kO_some, ↓kA_some, ↓kH_some, kO_some, kA_some, kH_some, gd_true, gd_false, nthD_zero, nthD_succ, isB_true, isB_false, isB_undef, pickV_true, pickV_false, binV_add, binV_sub, binV_mul, binV_eql, binV_neq, binV_lss, binV_leq, binV_gtr, binV_geq, unV_not, nt, nf, Bool.false_eq_true, dt, df, decide_true, decide_false, withV_some, aggO_some, ptrTo_eq, ↓aO_some, aO_some, ↓andB_true, andB_true, gz, gs, seqC, retC, skipC, exitC, blockC, condC, cells_agg], Has.put sr.z.1, rfl, hsh, kall, .inl ⟨rfl, fun ys => by rw [(hB rfl).1]; simp⟩⟩)
    · subst hok
      have htgt : tgt = some (xs, lc) := by rw [hA rfl]; simp [pItems]
      by_cases hz : (lc.length : Int) = 0
      · have hz' : lc = [] := List.length_eq_zero_iff.1 (by omega)
        simp only [↓opStep_eq, ↓reduceIte, tg_set, toTm_cons, toTm_nil, fieldPtr_ptr, Nat.add_zero, Nat.zero_add, Nat.reduceAdd, Nat.reduceEqDiff, Int.reduceEq, Int.reduceLT, Int.reduceLE, Int.reduceNe, ↓kO_some, ↓kA_some, ↓kH_some, kO_some, kA_some, kH_some, gd_true, gd_false, nthD_zero, nthD_succ, isB_true, isB_false, isB_undef, pickV_true, pickV_false, binV_add, binV_sub, binV_mul, binV_eql, binV_neq, binV_lss, binV_leq, binV_gtr, binV_geq, unV_not, nt, nf, Bool.false_eq_true, dt, df, decide_true, decide_false, withV_some, aggO_some, ptrTo_eq, ↓aO_some, aO_some, ↓andB_true, andB_true, gz, gs, seqC, retC, skipC, exitC, blockC, condC, cells_agg, r23_23, t6, t7, t4, nilChk_some, load7 sr.a rfl, ldr _ sr.r.1, ite2, hlen, hz, e2, ldr _ r7, hO]
        refine hK _ _ _ (C.ret ⟨rfl, by simp only [↓opStep_eq, ↓reduceIte, tg_set, toTm_cons, toTm_nil, fieldPtr_ptr, Nat.add_zero, Nat.zero_add, Nat.reduceAdd, Nat.reduceEqDiff, Int.reduceEq, Int.reduceLT, Int.reduceLE, Int.reduceNe, ↓kO_some, ↓kA_some, ↓kH_some, kO_some, kA_some, kH_some, gd_true, gd_false, nthD_zero, nthD_succ, isB_true, isB_false, isB_undef, pickV_true, pickV_false, binV_add, binV_sub, binV_mul, binV_eql, binV_neq, binV_lss, binV_leq, binV_gtr, binV_geq, unV_not, nt, nf, Bool.false_eq_true, dt, df, decide_true, decide_false, withV_some, aggO_some, ptrTo_eq, ↓aO_some, aO_some, ↓andB_true, andB_true, gz, gs, seqC, retC, skipC, exitC, blockC, condC, cells_agg, t4], true, _, by simp only [↓opStep_eq, ↓reduceIte, tg_set, toTm_cons, toTm_nil, fieldPtr_ptr, Nat.add_zero, Nat.zero_add, Nat.reduceAdd, Nat.reduceEqDiff, Int.reduceEq, Int.reduceLT, Int.reduceLE, Int.reduceNe, ↓kO_some, ↓kA_some, ↓kH_some, kO_some, kA_some, kH_some, gd_true, gd_false, nthD_zero, nthD_succ, isB_true, isB_false, isB_undef, pickV_true, pickV_false, binV_add, binV_sub, binV_mul, binV_eql, binV_neq, binV_lss, binV_leq, binV_gtr, binV_geq, unV_not, nt, nf, Bool.false_eq_true, dt, df, decide_true, decide_false, withV_some, aggO_some, ptrTo_eq, ↓aO_some, aO_some, ↓andB_true, andB_true, gz, gs, seqC, retC, skipC, exitC, blockC, condC, cells_agg], Has.put sr.z.1, rfl, hsh, kall, .inr ⟨rfl, xs, iv, by rw [htgt, hz'], rfl, mend, by omega, oks⟩⟩)
      · have hz' : ¬ lc = [] := fun e => hz (by rw [e]; rfl)
        simp only [↓opStep_eq, ↓reduceIte, tg_set, toTm_cons, toTm_nil, fieldPtr_ptr, Nat.add_zero, Nat.zero_add, Nat.reduceAdd, Nat.reduceEqDiff, Int.reduceEq, Int.reduceLT, Int.reduceLE, Int.reduceNe, ↓kO_some, ↓kA_some, ↓kH_some, kO_some, kA_some, kH_some, gd_true, gd_false, nthD_zero, nthD_succ, isB_true, isB_false, isB_undef, pickV_true, pickV_false, binV_add, binV_sub, binV_mul, binV_eql, binV_neq, binV_lss, binV_leq, binV_gtr, binV_geq, unV_not, nt, nf, Bool.false_eq_true, dt, df, decide_true, decide_false, withV_some, aggO_some, ptrTo_eq, ↓aO_some, aO_some, ↓andB_true, andB_true, gz, gs, seqC, retC, skipC, exitC, blockC, condC, cells_agg, r23_23, t6, t7, t4, nilChk_some, load7 sr.a rfl, ldr _ sr.r.1, ite2, hlen, hz, e2, ldr _ r7, hO]
        refine hK _ _ _ (C.ret ⟨rfl, by simp only [↓opStep_eq, ↓reduceIte, tg_set, toTm_cons, toTm_nil, fieldPtr_ptr, Nat.add_zero, Nat.zero_add, Nat.reduceAdd, Nat.reduceEqDiff, Int.reduceEq, Int.reduceLT, Int.reduceLE, Int.reduceNe, ↓kO_some, ↓kA_some, ↓kH_some, kO_some, kA_some, kH_some, gd_true, gd_false, nthD_zero, nthD_succ, isB_true, isB_false, isB_undef, pickV_true, pickV_false, binV_add, binV_sub, binV_mul, binV_eql, binV_neq, binV_lss, binV_leq, binV_gtr, binV_geq, unV_not, nt, nf, Bool.false_eq_true, dt, df, decide_true, decide_false, withV_some, aggO_some, ptrTo_eq, ↓aO_some, aO_some, ↓andB_true, andB_true, gz, gs, seqC, retC, skipC, exitC, blockC, condC, cells_agg, t4], false, _, by simp only [↓opStep_eq, ↓reduceIte, tg_set, toTm_cons, toTm_nil, fieldPtr_ptr, Nat.add_zero, Nat.zero_add, Nat.reduceAdd, Nat.reduceEqDiff, Int.reduceEq, Int.reduceLT, Int.reduceLE, Int.reduceNe, ↓kO_some, ↓kA_some, ↓kH_some, kO_some, kA_some, kH_some, gd_true, gd_false, nthD_zero, nthD_succ, isB_true, isB_false, isB_undef, pickV_true, pickV_false, binV_add, binV_sub, binV_mul, binV_eql, binV_neq, binV_lss, binV_leq, binV_gtr, binV_geq, unV_not, nt, nf, Bool.false_eq_true, dt, df, decide_true, decide_false, withV_some, aggO_some, ptrTo_eq, ↓aO_some, aO_some, ↓andB_true, andB_true, gz, gs, seqC, retC, skipC, exitC, blockC, condC, cells_agg], Has.put sr.z.1, rfl, hsh, kall, .inl ⟨rfl, fun ys e => hz' (by rw [htgt] at e; simp only [Option.some.injEq, Prod.mk.injEq] at e; exact e.2)⟩⟩)
end Go.Proofs.Ytpaolklbogakgaa

namespace Go.Proofs.Ytpaolklbogakgaa
open Go.Ev

theorem pRes_two (x0 x1 : UInt8) (r : List UInt8) : pRes (x0 :: x1 :: r) = if ((numS r).2.2 && (numS (numS r).2.1).2.2) = true then (if 8 < (numS (numS r).2.1).1 then none else match pItems (numS (numS r).2.1).1 (numS (numS r).2.1).2.1 with
    | none => none
    | some (xs, rest) => if rest = [] then some (x0, x1, (numS r).1, xs) else none) else none := by
  cases h1 : rd 0 r with
  | none => simp [pRes, h1, numS]
  | some p =>
    obtain ⟨num, k1⟩ := p
    have e1 : numS r = (num, r.drop k1, true) := by simp [numS, h1]
    cases h2 : rd 0 (r.drop k1) with
    | none => simp [pRes, h1, e1, h2, numS]
    | some q =>
      obtain ⟨many, k2⟩ := q
      have e2 : numS (r.drop k1) = (many, (r.drop k1).drop k2, true) := by simp only [numS, h2]
      simp only [pRes, h1, e1, h2, e2, Bool.and_self, if_true]
      rfl

theorem St.num {h0 h : H} {b4 b6 b7 : Nat} {x0 x1 : UInt8} {num : Nat} {vr iv : Value} {lc : List UInt8} {ok : Bool} {xs : List Itm} (s : St h0 h b4 b6 b7 x0 x1 num vr iv lc ok xs) (num' : Nat) :
    St h0 (h.put b6 (.rw [bv 1, bv x0, bv x1, iv, .int .u64 (num' : Int), .bool false, .string (strB [])])) b4 b6 b7 x0 x1 num' vr iv lc ok xs where
  r := ⟨s.r.1.keep (Keep.put _ _ _) (fun e => s.n67 e.symm), s.r.2.1.keep (Keep.put _ _ _) (fun c hc e => (s.d c hc).2.1 e), s.r.2.2⟩
  z := s.z.keep (Keep.put _ _ _) s.n46
  a := Has.put s.a.1
  m := s.m.keep (Keep.put _ _ _) fun c hc e => s.m.ne s.a (e ▸ hc)
  d := s.d
  k := s.k.trans (Keep.put _ _ _) fun c hc e => by have := s.f6; omega
  f4 := s.f4
  f6 := s.f6
  f7 := s.f7
  fi := s.fi
  n46 := s.n46
  n47 := s.n47
  n67 := s.n67

/-- how a body's reading ends -/
def Done23 (p : Option Ans) (h0 : H) (b4 : Nat) (tm : T Value) (h : H) : Prop := ∃ b cs, tg tm 4 = .pointer (some ⟨b4, 0, none⟩) ∧ tg tm 5 = .bool b ∧ Has h b4 (.rw cs) ∧ cs.length = 7 ∧ ones cs = true ∧ Keep nobody h0 h ∧ InP p b h (.agg cs.toArray)

theorem agg_rdr {w : Value} (hw : w.cells = #[w]) : aggO (fill [(.slice none 0 0), (.bool false)] (plc [(0, 1), (1, 1)]) [(0, w), (1, (.bool true))]) = some (.agg [w, .bool true].toArray) := by
  have hb : (Value.bool true).cells = #[.bool true] := rfl
  simp [fill, plc, nth, hw, hb, putAt]

theorem one23 {L n : Nat} {tm : T Value} {h0 h : H} {b4 b6 : Nat} {v : Value} {l : List UInt8} (hL : l.length < L) (hL2 : 100 < L) (hl : l.length < 1000000) (hr : Rd h0 v l)
    (z : Has h b4 (.rw Z7)) (a : Has h b6 (.rw [bv 1, .int .u8 0, .int .u8 0, noIv, .int .u64 0, .bool false, .string (strB [])])) (k : Keep nobody h0 h) (f4 : h0.next ≤ b4) (f6 : h0.next ≤ b6) (n46 : b4 ≠ b6)
    (t1 : tg tm 1 = v) (t4 : tg tm 4 = .pointer (some ⟨b4, 0, none⟩)) (t6 : tg tm 6 = .pointer (some ⟨b6, 0, none⟩)) :
    C ⟨seqC ⟨seqC ⟨r23_4⟩ ⟨condC ⟨fun _ tm => tg tm 20⟩ ⟨seqC ⟨r23_5⟩ retC⟩ skipC⟩⟩ ⟨seqC ⟨r23_6⟩ ⟨seqC ⟨r23_7⟩ ⟨seqC ⟨r23_8⟩ ⟨seqC ⟨r23_9⟩ ⟨seqC ⟨r23_10⟩ ⟨seqC ⟨seqC ⟨r23_11⟩ ⟨condC ⟨fun _ tm => tg tm 44⟩ ⟨seqC ⟨r23_12⟩ retC⟩ skipC⟩⟩ ⟨seqC ⟨seqC ⟨r23_13⟩ ⟨blockC 1 (loopB l23_23)⟩⟩ ⟨seqC ⟨r23_23⟩ retC⟩⟩⟩⟩⟩⟩⟩⟩⟩ (CF L (n + 4)) L tm h fun e tm' h' => e = .ret ∧ Done23 (pShape 1 l) h0 b4 tm' h' := by
  have hps : pShape 1 l = match pRes l with
    | some (x0, x1, num, xs) => some (resA x0 x1 num noIv xs)
    | none => none := by unfold pShape; rw [if_pos rfl]; rfl
  have hr1 := hr.keep0 k
  refine C.seq (C.seq fun K hK => ?_)
  simp only [↓opStep_eq, ↓reduceIte, tg_set, toTm_cons, toTm_nil, fieldPtr_ptr, Nat.add_zero, Nat.zero_add, Nat.reduceAdd, Nat.reduceEqDiff, Int.reduceEq, Int.reduceLT, Int.reduceLE, Int.reduceNe, ↓kO_some, ↓kA_some, ↓kH_some, kO_some, kA_some, kH_some, gd_true, gd_false, nthD_zero, nthD_succ, isB_true, isB_false, isB_undef, pickV_true, pickV_false, binV_add, binV_sub, binV_mul, binV_eql, binV_neq, binV_lss, binV_leq, binV_gtr, binV_geq, unV_not, nt, nf, Bool.false_eq_true, dt, df, decide_true, decide_false, withV_some, aggO_some, ptrTo_eq, ↓aO_some, aO_some, ↓andB_true, andB_true, gz, gs, seqC, retC, skipC, exitC, blockC, condC, cells_agg, r23_4, t1, hr1.len]
  refine hK _ _ _ (C.cond (decide ((l.length : Int) < 2)) (by simp only [↓opStep_eq, ↓reduceIte, tg_set, toTm_cons, toTm_nil, fieldPtr_ptr, Nat.add_zero, Nat.zero_add, Nat.reduceAdd, Nat.reduceEqDiff, Int.reduceEq, Int.reduceLT, Int.reduceLE, Int.reduceNe, ↓kO_some, ↓kA_some, ↓kH_some, kO_some, kA_some, kH_some, gd_true, gd_false, nthD_zero, nthD_succ, isB_true, isB_false, isB_undef, pickV_true, pickV_false, binV_add, binV_sub, binV_mul, binV_eql, binV_neq, binV_lss, binV_leq, binV_gtr, binV_geq, unV_not, nt, nf, Bool.false_eq_true, dt, df, decide_true, decide_false, withV_some, aggO_some, ptrTo_eq, ↓aO_some, aO_some, ↓andB_true, andB_true, gz, gs, seqC, retC, skipC, exitC, blockC, condC, cells_agg]) (fun g => C.seq fun K hK => ?_) fun g => C.skip ?_)
  · have g : l.length < 2 := by have := of_decide_eq_true g; omega
    have hn : pRes l = none := by
      rcases l with _ | ⟨x0, _ | ⟨x1, r⟩⟩
      · rfl
      · rfl
      · simp at g; omega
    obtain ⟨ds, e1, _, _, e2⟩ := store7 (s := none) z rfl (plain_shape 1 false (strB []))
    have hds : ds = [bv 1, .int .u8 0, .int .u8 0, noIv, .int .u64 0, .bool false, .string (strB [])] := by simpa using e1.symm
    rw [hds] at e2
    simp only [↓opStep_eq, ↓reduceIte, tg_set, toTm_cons, toTm_nil, fieldPtr_ptr, Nat.add_zero, Nat.zero_add, Nat.reduceAdd, Nat.reduceEqDiff, Int.reduceEq, Int.reduceLT, Int.reduceLE, Int.reduceNe, ↓kO_some, ↓kA_some, ↓kH_some, kO_some, kA_some, kH_some, gd_true, gd_false, nthD_zero, nthD_succ, isB_true, isB_false, isB_undef, pickV_true, pickV_false, binV_add, binV_sub, binV_mul, binV_eql, binV_neq, binV_lss, binV_leq, binV_gtr, binV_geq, unV_not, nt, nf, Bool.false_eq_true, dt, df, decide_true, decide_false, withV_some, aggO_some, ptrTo_eq, ↓aO_some, aO_some, ↓andB_true, andB_true, gz, gs, seqC, retC, skipC, exitC, blockC, condC, cells_agg, r23_5, t4, t6, load7 a rfl, e2]
    refine hK _ _ _ (C.ret ⟨rfl, false, _, by simp only [↓opStep_eq, ↓reduceIte, tg_set, toTm_cons, toTm_nil, fieldPtr_ptr, Nat.add_zero, Nat.zero_add, Nat.reduceAdd, Nat.reduceEqDiff, Int.reduceEq, Int.reduceLT, Int.reduceLE, Int.reduceNe, ↓kO_some, ↓kA_some, ↓kH_some, kO_some, kA_some, kH_some, gd_true, gd_false, nthD_zero, nthD_succ, isB_true, isB_false, isB_undef, pickV_true, pickV_false, binV_add, binV_sub, binV_mul, binV_eql, binV_neq, binV_lss, binV_leq, binV_gtr, binV_geq, unV_not, nt, nf, Bool.false_eq_true, dt, df, decide_true, decide_false, withV_some, aggO_some, ptrTo_eq, ↓aO_some, aO_some, ↓andB_true, andB_true, gz, gs, seqC, retC, skipC, exitC, blockC, condC, cells_agg, t4], by simp only [↓opStep_eq, ↓reduceIte, tg_set, toTm_cons, toTm_nil, fieldPtr_ptr, Nat.add_zero, Nat.zero_add, Nat.reduceAdd, Nat.reduceEqDiff, Int.reduceEq, Int.reduceLT, Int.reduceLE, Int.reduceNe, ↓kO_some, ↓kA_some, ↓kH_some, kO_some, kA_some, kH_some, gd_true, gd_false, nthD_zero, nthD_succ, isB_true, isB_false, isB_undef, pickV_true, pickV_false, binV_add, binV_sub, binV_mul, binV_eql, binV_neq, binV_lss, binV_leq, binV_gtr, binV_geq, unV_not, nt, nf, Bool.false_eq_true, dt, df, decide_true, decide_false, withV_some, aggO_some, ptrTo_eq, ↓aO_some, aO_some, ↓andB_true, andB_true, gz, gs, seqC, retC, skipC, exitC, blockC, condC, cells_agg], Has.put z.1, rfl, rfl, k.trans (Keep.put _ _ _) fun c hc e => by omega, ?_⟩)
    rw [hps, hn]; rfl
  have g : ¬ l.length < 2 := by have := of_decide_eq_false g; omega
  obtain ⟨x0, x1, r, hlr⟩ : ∃ x0 x1 r, l = x0 :: x1 :: r := by
    rcases l with _ | ⟨x0, _ | ⟨x1, r⟩⟩
    · simp at g
    · simp at g
    · exact ⟨_, _, _, rfl⟩
  obtain ⟨b0, o0, i0, l0⟩ := hr.atK (i := 0) (x := x0) (by rw [hlr]; rfl)
  obtain ⟨b01, o1, i1, l1⟩ := hr.atK (i := 1) (x := x1) (by rw [hlr]; rfl)
  have c0 : ((0 : Nat) : Int) = 0 := rfl
  have c1 : ((1 : Nat) : Int) = 1 := rfl
  rw [c0] at i0
  rw [c1] at i1
  have kr := keep_room h 11
  have ar := a.keep0 kr
  have zr := z.keep0 kr
  have k2 := k.then kr
  refine C.seq fun K hK => ?_
  have s1 := store_cell (o := 1) (s := none) (x := bv x0) ar (by simp) rfl rfl
  simp only [List.set_cons_succ, List.set_cons_zero] at s1
  have kp1 := Keep.put (⟨h.objs, h.next + 11⟩ : H) b6 (.rw [bv 1, bv x0, .int .u8 0, noIv, .int .u64 0, .bool false, .string (strB [])])
  have k3 := k2.trans kp1 fun c hc e => by omega
  have a1 : Has ((⟨h.objs, h.next + 11⟩ : H).put b6 (.rw [bv 1, bv x0, .int .u8 0, noIv, .int .u64 0, .bool false, .string (strB [])])) b6 (.rw [bv 1, bv x0, .int .u8 0, noIv, .int .u64 0, .bool false, .string (strB [])]) := Has.put ar.1
  have z1 := zr.keep kp1 n46
  simp only [↓opStep_eq, ↓reduceIte, tg_set, toTm_cons, toTm_nil, fieldPtr_ptr, Nat.add_zero, Nat.zero_add, Nat.reduceAdd, Nat.reduceEqDiff, Int.reduceEq, Int.reduceLT, Int.reduceLE, Int.reduceNe, ↓kO_some, ↓kA_some, ↓kH_some, kO_some, kA_some, kH_some, gd_true, gd_false, nthD_zero, nthD_succ, isB_true, isB_false, isB_undef, pickV_true, pickV_false, binV_add, binV_sub, binV_mul, binV_eql, binV_neq, binV_lss, binV_leq, binV_gtr, binV_geq, unV_not, nt, nf, Bool.false_eq_true, dt, df, decide_true, decide_false, withV_some, aggO_some, ptrTo_eq, ↓aO_some, aO_some, ↓andB_true, andB_true, gz, gs, seqC, retC, skipC, exitC, blockC, condC, cells_agg, r23_6, t1, t6, i0, i1, l0 _ k2, l1 _ k2, s1]
  generalize (⟨h.objs, h.next + 11⟩ : H).put b6 (.rw [bv 1, bv x0, .int .u8 0, noIv, .int .u64 0, .bool false, .string (strB [])]) = h1 at *
  have s2 := store_cell (o := 2) (s := none) (x := bv x1) a1 (by simp) rfl rfl
  simp only [List.set_cons_succ, List.set_cons_zero] at s2
  have hO' : ∀ b, hO (some (bv x1)) (bv x1) b = b := hO_self (veq_int' .u8 (x1.toNat : Int) 63)
  have kp2 := Keep.put h1 b6 (.rw [bv 1, bv x0, bv x1, noIv, .int .u64 ((0 : Nat) : Int), .bool false, .string (strB [])])
  have k4 := k3.trans kp2 fun c hc e => by omega
  have a2 : Has (h1.put b6 (.rw [bv 1, bv x0, bv x1, noIv, .int .u64 ((0 : Nat) : Int), .bool false, .string (strB [])])) b6 (.rw [bv 1, bv x0, bv x1, noIv, .int .u64 ((0 : Nat) : Int), .bool false, .string (strB [])]) := Has.put a1.1
  have z2 := z1.keep kp2 n46
  have c0' : (Value.int .u64 (0 : Int)) = .int .u64 ((0 : Nat) : Int) := rfl
  rw [c0'] at s2
  simp only [↓opStep_eq, ↓reduceIte, tg_set, toTm_cons, toTm_nil, fieldPtr_ptr, Nat.add_zero, Nat.zero_add, Nat.reduceAdd, Nat.reduceEqDiff, Int.reduceEq, Int.reduceLT, Int.reduceLE, Int.reduceNe, ↓kO_some, ↓kA_some, ↓kH_some, kO_some, kA_some, kH_some, gd_true, gd_false, nthD_zero, nthD_succ, isB_true, isB_false, isB_undef, pickV_true, pickV_false, binV_add, binV_sub, binV_mul, binV_eql, binV_neq, binV_lss, binV_leq, binV_gtr, binV_geq, unV_not, nt, nf, Bool.false_eq_true, dt, df, decide_true, decide_false, withV_some, aggO_some, ptrTo_eq, ↓aO_some, aO_some, ↓andB_true, andB_true, gz, gs, seqC, retC, skipC, exitC, blockC, condC, cells_agg, l1 _ k3, hO', s2]
  generalize h1.put b6 (.rw [bv 1, bv x0, bv x1, noIv, .int .u64 ((0 : Nat) : Int), .bool false, .string (strB [])]) = h2 at *
  obtain ⟨w, e3, rw1, bw⟩ := (hr.keep0 k4).from 2 (by omega)
  have c2 : ((2 : Nat) : Int) = 2 := rfl
  rw [c2] at e3
  have hd2 : l.drop 2 = r := by rw [hlr]; rfl
  rw [hd2] at rw1
  have hrl : r.length + 2 = l.length := by rw [hlr]; rfl
  refine hK _ _ _ (C.seq fun K hK => ?_)
  have hcc : (Value.cells (.agg [w, .bool true].toArray)).toList = [w, .bool true] := rfl
  simp only [↓opStep_eq, ↓reduceIte, tg_set, toTm_cons, toTm_nil, fieldPtr_ptr, Nat.add_zero, Nat.zero_add, Nat.reduceAdd, Nat.reduceEqDiff, Int.reduceEq, Int.reduceLT, Int.reduceLE, Int.reduceNe, ↓kO_some, ↓kA_some, ↓kH_some, kO_some, kA_some, kH_some, gd_true, gd_false, nthD_zero, nthD_succ, isB_true, isB_false, isB_undef, pickV_true, pickV_false, binV_add, binV_sub, binV_mul, binV_eql, binV_neq, binV_lss, binV_leq, binV_gtr, binV_geq, unV_not, nt, nf, Bool.false_eq_true, dt, df, decide_true, decide_false, withV_some, aggO_some, ptrTo_eq, ↓aO_some, aO_some, ↓andB_true, andB_true, gz, gs, seqC, retC, skipC, exitC, blockC, condC, cells_agg, r23_7, t1, e3, agg_rdr rw1.cells]
  have kn := Keep.new h2 (.rw [w, .bool true])
  have bn := Has.new h2 (.rw [w, .bool true])
  have hnx : (h2.new (.rw [w, .bool true])).next = h2.next + 1 := rfl
  generalize h2.new (.rw [w, .bool true]) = h3 at *
  have rl := hr.reads
  have st : St h0 h3 b4 b6 h2.next x0 x1 0 w noIv r true [] := {
    r := ⟨bn, rw1.keep0 kn, fun hb => by have := rw1.lt hb; omega⟩
    z := z2.keep0 kn
    a := a2.keep0 kn
    m := .nil
    d := fun c hc => by
      have h1 := hr.lt (bw c hc)
      exact ⟨by omega, by omega, by simp⟩
    k := k4.then kn
    f4 := f4
    f6 := f6
    f7 := k4.next
    fi := fun c hc => by simp at hc
    n46 := n46
    n47 := fun e => by have := z2.1; omega
    n67 := fun e => by have := a2.1; omega }
  refine hK _ _ _ (C.seq fun K hK => hK .norm _ _ (C.seq fun K hK => ?_))
  have gc : ∀ (b7 : Nat) (hx : H) (K : OpK), goCall (CF L (n + 4)) (funcArgs (.func (.func 38) [.pointer (some ⟨b7, 0, none⟩)].toArray [].toArray) []) [] hx K = CF L (n + 4) 38 [.pointer (some ⟨b7, 0, none⟩)] hx (fun v h => K v [] h) := fun _ _ _ => rfl
  simp only [↓opStep_eq, ↓reduceIte, tg_set, toTm_cons, toTm_nil, fieldPtr_ptr, Nat.add_zero, Nat.zero_add, Nat.reduceAdd, Nat.reduceEqDiff, Int.reduceEq, Int.reduceLT, Int.reduceLE, Int.reduceNe, ↓kO_some, ↓kA_some, ↓kH_some, kO_some, kA_some, kH_some, gd_true, gd_false, nthD_zero, nthD_succ, isB_true, isB_false, isB_undef, pickV_true, pickV_false, binV_add, binV_sub, binV_mul, binV_eql, binV_neq, binV_lss, binV_leq, binV_gtr, binV_geq, unV_not, nt, nf, Bool.false_eq_true, dt, df, decide_true, decide_false, withV_some, aggO_some, ptrTo_eq, ↓aO_some, aO_some, ↓andB_true, andB_true, gz, gs, seqC, retC, skipC, exitC, blockC, condC, cells_agg, r23_9, gc, t6]
  refine rd_number L (n + 2) h2.next w r true h3 st.r (by omega) (by omega) _ fun q h4 hv => ?_
  obtain ⟨rfl, ⟨v1, r1, w1⟩, k1⟩ := hv
  have st1 := st.read r1 w1 k1
  have l1n := numS_len r
  have s3 := store_cell (o := 4) (s := none) (x := .int .u64 ((numS r).1 : Int)) st1.a (by simp) rfl rfl
  simp only [List.set_cons_succ, List.set_cons_zero] at s3
  simp only [↓opStep_eq, ↓reduceIte, tg_set, toTm_cons, toTm_nil, fieldPtr_ptr, Nat.add_zero, Nat.zero_add, Nat.reduceAdd, Nat.reduceEqDiff, Int.reduceEq, Int.reduceLT, Int.reduceLE, Int.reduceNe, ↓kO_some, ↓kA_some, ↓kH_some, kO_some, kA_some, kH_some, gd_true, gd_false, nthD_zero, nthD_succ, isB_true, isB_false, isB_undef, pickV_true, pickV_false, binV_add, binV_sub, binV_mul, binV_eql, binV_neq, binV_lss, binV_leq, binV_gtr, binV_geq, unV_not, nt, nf, Bool.false_eq_true, dt, df, decide_true, decide_false, withV_some, aggO_some, ptrTo_eq, ↓aO_some, aO_some, ↓andB_true, andB_true, gz, gs, seqC, retC, skipC, exitC, blockC, condC, cells_agg, s3]
  have st2 := st1.num (numS r).1
  generalize h4.put b6 (.rw [bv 1, bv x0, bv x1, noIv, .int .u64 ((numS r).1 : Int), .bool false, .string (strB [])]) = h5 at *
  refine hK _ _ _ (C.seq fun K hK => ?_)
  simp only [↓opStep_eq, ↓reduceIte, tg_set, toTm_cons, toTm_nil, fieldPtr_ptr, Nat.add_zero, Nat.zero_add, Nat.reduceAdd, Nat.reduceEqDiff, Int.reduceEq, Int.reduceLT, Int.reduceLE, Int.reduceNe, ↓kO_some, ↓kA_some, ↓kH_some, kO_some, kA_some, kH_some, gd_true, gd_false, nthD_zero, nthD_succ, isB_true, isB_false, isB_undef, pickV_true, pickV_false, binV_add, binV_sub, binV_mul, binV_eql, binV_neq, binV_lss, binV_leq, binV_gtr, binV_geq, unV_not, nt, nf, Bool.false_eq_true, dt, df, decide_true, decide_false, withV_some, aggO_some, ptrTo_eq, ↓aO_some, aO_some, ↓andB_true, andB_true, gz, gs, seqC, retC, skipC, exitC, blockC, condC, cells_agg, r23_10, gc]
  refine rd_number L (n + 2) h2.next v1 (numS r).2.1 _ h5 st2.r (by omega) (by omega) _ fun q h6 hv => ?_
  obtain ⟨rfl, ⟨v2, r2, w2⟩, k2'⟩ := hv
  have st3 := st2.read r2 w2 k2'
  have l2n := numS_len (numS r).2.1
  have hp2 := pRes_two x0 x1 r
  rw [← hlr] at hp2
  refine hK _ _ _ (C.seq (C.seq fun K hK => ?_))
  simp only [↓opStep_eq, ↓reduceIte, tg_set, toTm_cons, toTm_nil, fieldPtr_ptr, Nat.add_zero, Nat.zero_add, Nat.reduceAdd, Nat.reduceEqDiff, Int.reduceEq, Int.reduceLT, Int.reduceLE, Int.reduceNe, ↓kO_some, ↓kA_some, ↓kH_some, kO_some, kA_some, kH_some, gd_true, gd_false, nthD_zero, nthD_succ, isB_true, isB_false, isB_undef, pickV_true, pickV_false, binV_add, binV_sub, binV_mul, binV_eql, binV_neq, binV_lss, binV_leq, binV_gtr, binV_geq, unV_not, nt, nf, Bool.false_eq_true, dt, df, decide_true, decide_false, withV_some, aggO_some, ptrTo_eq, ↓aO_some, aO_some, ↓andB_true, andB_true, gz, gs, seqC, retC, skipC, exitC, blockC, condC, cells_agg, r23_11]
  refine hK _ _ _ (C.cond (decide ((8 : Int) < ((numS (numS r).2.1).1 : Int))) (by simp only [↓opStep_eq, ↓reduceIte, tg_set, toTm_cons, toTm_nil, fieldPtr_ptr, Nat.add_zero, Nat.zero_add, Nat.reduceAdd, Nat.reduceEqDiff, Int.reduceEq, Int.reduceLT, Int.reduceLE, Int.reduceNe, ↓kO_some, ↓kA_some, ↓kH_some, kO_some, kA_some, kH_some, gd_true, gd_false, nthD_zero, nthD_succ, isB_true, isB_false, isB_undef, pickV_true, pickV_false, binV_add, binV_sub, binV_mul, binV_eql, binV_neq, binV_lss, binV_leq, binV_gtr, binV_geq, unV_not, nt, nf, Bool.false_eq_true, dt, df, decide_true, decide_false, withV_some, aggO_some, ptrTo_eq, ↓aO_some, aO_some, ↓andB_true, andB_true, gz, gs, seqC, retC, skipC, exitC, blockC, condC, cells_agg]) (fun g => C.seq fun K hK => ?_) fun g => C.skip ?_)
  · have g : 8 < (numS (numS r).2.1).1 := by have := of_decide_eq_true g; omega
    have hn : pRes l = none := by rw [hp2, if_pos g]; simp
    have hsh : ones [bv 1, bv x0, bv x1, noIv, .int .u64 ((numS r).1 : Int), .bool false, .string (strB [])] = true := rfl
    obtain ⟨ds, e1, dl, d1, e2⟩ := store7 (s := none) st3.z rfl ⟨_, rfl, rfl, hsh⟩
    have hds : ds = [bv 1, bv x0, bv x1, noIv, .int .u64 ((numS r).1 : Int), .bool false, .string (strB [])] := by simpa using e1.symm
    rw [hds] at e2
    simp only [↓opStep_eq, ↓reduceIte, tg_set, toTm_cons, toTm_nil, fieldPtr_ptr, Nat.add_zero, Nat.zero_add, Nat.reduceAdd, Nat.reduceEqDiff, Int.reduceEq, Int.reduceLT, Int.reduceLE, Int.reduceNe, ↓kO_some, ↓kA_some, ↓kH_some, kO_some, kA_some, kH_some, gd_true, gd_false, nthD_zero, nthD_succ, isB_true, isB_false, isB_undef, pickV_true, pickV_false, binV_add, binV_sub, binV_mul, binV_eql, binV_neq, binV_lss, binV_leq, binV_gtr, binV_geq, unV_not, nt, nf, Bool.false_eq_true, dt, df, decide_true, decide_false, withV_some, aggO_some, ptrTo_eq, ↓aO_some, aO_some, ↓andB_true, andB_true, gz, gs, seqC, retC, skipC, exitC, blockC, condC, cells_agg, r23_12, t6, t4, load7 st3.a rfl, e2]
    refine hK _ _ _ (C.ret ⟨rfl, false, _, by simp only [↓opStep_eq, ↓reduceIte, tg_set, toTm_cons, toTm_nil, fieldPtr_ptr, Nat.add_zero, Nat.zero_add, Nat.reduceAdd, Nat.reduceEqDiff, Int.reduceEq, Int.reduceLT, Int.reduceLE, Int.reduceNe, ↓kO_some, ↓kA_some, ↓kH_some, kO_some, kA_some, kH_some, gd_true, gd_false, nthD_zero, nthD_succ, isB_true, isB_false, isB_undef, pickV_true, pickV_false, binV_add, binV_sub, binV_mul, binV_eql, binV_neq, binV_lss, binV_leq, binV_gtr, binV_geq, unV_not, nt, nf, Bool.false_eq_true, dt, df, decide_true, decide_false, withV_some, aggO_some, ptrTo_eq, ↓aO_some, aO_some, ↓andB_true, andB_true, gz, gs, seqC, retC, skipC, exitC, blockC, condC, cells_agg, t4], by simp only [↓opStep_eq, ↓reduceIte, tg_set, toTm_cons, toTm_nil, fieldPtr_ptr, Nat.add_zero, Nat.zero_add, Nat.reduceAdd, Nat.reduceEqDiff, Int.reduceEq, Int.reduceLT, Int.reduceLE, Int.reduceNe, ↓kO_some, ↓kA_some, ↓kH_some, kO_some, kA_some, kH_some, gd_true, gd_false, nthD_zero, nthD_succ, isB_true, isB_false, isB_undef, pickV_true, pickV_false, binV_add, binV_sub, binV_mul, binV_eql, binV_neq, binV_lss, binV_leq, binV_gtr, binV_geq, unV_not, nt, nf, Bool.false_eq_true, dt, df, decide_true, decide_false, withV_some, aggO_some, ptrTo_eq, ↓aO_some, aO_some, ↓andB_true, andB_true, gz, gs, seqC, retC, skipC, exitC, blockC, condC, cells_agg], Has.put st3.z.1, rfl, hsh, st3.k.trans (Keep.put _ _ _) fun c hc e => by omega, ?_⟩)
    rw [hps, hn]; rfl
  have g : (numS (numS r).2.1).1 ≤ 8 := by have := of_decide_eq_false g; omega
  refine (tail23 (L := L) (n := n) (N := l.length) (tgt := if ((numS r).2.2 && (numS (numS r).2.1).2.2) = true then pItems (numS (numS r).2.1).1 (numS (numS r).2.1).2.1 else none) hL hL2 hl (by omega) g st3 ?_ ?_ (by simp only [↓opStep_eq, ↓reduceIte, tg_set, toTm_cons, toTm_nil, fieldPtr_ptr, Nat.add_zero, Nat.zero_add, Nat.reduceAdd, Nat.reduceEqDiff, Int.reduceEq, Int.reduceLT, Int.reduceLE, Int.reduceNe, ↓kO_some, ↓kA_some, ↓kH_some, kO_some, kA_some, kH_some, gd_true, gd_false, nthD_zero, nthD_succ, isB_true, isB_false, isB_undef, pickV_true, pickV_false, binV_add, binV_sub, binV_mul, binV_eql, binV_neq, binV_lss, binV_leq, binV_gtr, binV_geq, unV_not, nt, nf, Bool.false_eq_true, dt, df, decide_true, decide_false, withV_some, aggO_some, ptrTo_eq, ↓aO_some, aO_some, ↓andB_true, andB_true, gz, gs, seqC, retC, skipC, exitC, blockC, condC, cells_agg, t4]) (by simp only [↓opStep_eq, ↓reduceIte, tg_set, toTm_cons, toTm_nil, fieldPtr_ptr, Nat.add_zero, Nat.zero_add, Nat.reduceAdd, Nat.reduceEqDiff, Int.reduceEq, Int.reduceLT, Int.reduceLE, Int.reduceNe, ↓kO_some, ↓kA_some, ↓kH_some, kO_some, kA_some, kH_some, gd_true, gd_false, nthD_zero, nthD_succ, isB_true, isB_false, isB_undef, pickV_true, pickV_false, binV_add, binV_sub, binV_mul, binV_eql, binV_neq, binV_lss, binV_leq, binV_gtr, binV_geq, unV_not, nt, nf, Bool.false_eq_true, dt, df, decide_true, decide_false, withV_some, aggO_some, ptrTo_eq, ↓aO_some, aO_some, ↓andB_true, andB_true, gz, gs, seqC, retC, skipC, exitC, blockC, condC, cells_agg, t6]) (by simp only [↓opStep_eq, ↓reduceIte, tg_set, toTm_cons, toTm_nil, fieldPtr_ptr, Nat.add_zero, Nat.zero_add, Nat.reduceAdd, Nat.reduceEqDiff, Int.reduceEq, Int.reduceLT, Int.reduceLE, Int.reduceNe, ↓kO_some, ↓kA_some, ↓kH_some, kO_some, kA_some, kH_some, gd_true, gd_false, nthD_zero, nthD_succ, isB_true, isB_false, isB_undef, pickV_true, pickV_false, binV_add, binV_sub, binV_mul, binV_eql, binV_neq, binV_lss, binV_leq, binV_gtr, binV_geq, unV_not, nt, nf, Bool.false_eq_true, dt, df, decide_true, decide_false, withV_some, aggO_some, ptrTo_eq, ↓aO_some, aO_some, ↓andB_true, andB_true, gz, gs, seqC, retC, skipC, exitC, blockC, condC, cells_agg]) (by simp only [↓opStep_eq, ↓reduceIte, tg_set, toTm_cons, toTm_nil, fieldPtr_ptr, Nat.add_zero, Nat.zero_add, Nat.reduceAdd, Nat.reduceEqDiff, Int.reduceEq, Int.reduceLT, Int.reduceLE, Int.reduceNe, ↓kO_some, ↓kA_some, ↓kH_some, kO_some, kA_some, kH_some, gd_true, gd_false, nthD_zero, nthD_succ, isB_true, isB_false, isB_undef, pickV_true, pickV_false, binV_add, binV_sub, binV_mul, binV_eql, binV_neq, binV_lss, binV_leq, binV_gtr, binV_geq, unV_not, nt, nf, Bool.false_eq_true, dt, df, decide_true, decide_false, withV_some, aggO_some, ptrTo_eq, ↓aO_some, aO_some, ↓andB_true, andB_true, gz, gs, seqC, retC, skipC, exitC, blockC, condC, cells_agg]) (by simp only [↓opStep_eq, ↓reduceIte, tg_set, toTm_cons, toTm_nil, fieldPtr_ptr, Nat.add_zero, Nat.zero_add, Nat.reduceAdd, Nat.reduceEqDiff, Int.reduceEq, Int.reduceLT, Int.reduceLE, Int.reduceNe, ↓kO_some, ↓kA_some, ↓kH_some, kO_some, kA_some, kH_some, gd_true, gd_false, nthD_zero, nthD_succ, isB_true, isB_false, isB_undef, pickV_true, pickV_false, binV_add, binV_sub, binV_mul, binV_eql, binV_neq, binV_lss, binV_leq, binV_gtr, binV_geq, unV_not, nt, nf, Bool.false_eq_true, dt, df, decide_true, decide_false, withV_some, aggO_some, ptrTo_eq, ↓aO_some, aO_some, ↓andB_true, andB_true, gz, gs, seqC, retC, skipC, exitC, blockC, condC, cells_agg])).mono fun e tm' h' q => ?_
  · intro hok
    rw [Bool.true_and] at hok
    rw [if_pos hok]
  · intro hok
    rw [Bool.true_and] at hok
    rw [if_neg (by rw [hok]; decide)]
    refine ⟨rfl, ?_⟩
    cases h1 : rd 0 r with
    | none =>
      have e1 : numS r = (0, [], false) := by simp [numS, h1]
      rw [e1]; simp [numS_nil]
    | some p =>
      have e1 : numS r = (p.1, r.drop p.2, true) := by simp [numS, h1]
      cases h2 : rd 0 (r.drop p.2) with
      | none =>
        have e2 : numS (r.drop p.2) = (0, [], false) := by simp only [numS, h2]
        rw [e1, e2]
      | some q =>
        have e2 : numS (r.drop p.2) = (q.1, (r.drop p.2).drop q.2, true) := by simp only [numS, h2]
        rw [e1, e2] at hok; simp at hok
  · obtain ⟨rfl, q4, b, cs, q5, z5, cl, co, kk, he⟩ := q
    refine ⟨rfl, b, cs, q4, q5, z5, cl, co, kk, ?_⟩
    rw [hps, hp2]
    rcases he with ⟨rfl, hno⟩ | ⟨rfl, xs, iv, htg, hcs, mi, h8, oks⟩
    · split
      · rename_i x0' x1' num' xs' heq
        split at heq
        · rename_i hc
          rw [if_pos hc] at hno
          rw [if_neg (by omega)] at heq
          split at heq
          · cases heq
          · rename_i xs'' rest hpi
            split at heq
            · rename_i hre
              subst hre
              exact absurd hpi (hno xs'')
            · cases heq
        · cases heq
      · rfl
    · split at htg
      · rename_i hc
        rw [if_pos hc, if_neg (by omega), htg]
        simp only [if_true]
        refine ⟨rfl, ⟨iv, ?_, mi⟩, h8, oks⟩
        rw [hcs]; rfl
      · cases htg
end Go.Proofs.Ytpaolklbogakgaa
