import Derived.Test.YtbdmhdidehfmoaaDoorTbR
set_option linter.unusedSimpArgs false
set_option linter.unusedVariables false
namespace Go.Proofs.YtbdmhdidehfmoaaDoor
open Go.Ev

theorem store2_new (h : H) (cs : List Value) (t : Int) (k : ByteArray) (hc : cs.length = 2) : storeV 2 (h.new (.rw cs)) (.pointer (some ⟨h.next, 0, none⟩)) (nameV t k) = some ((h.new (.rw cs)).put h.next (.rw [.int .i64 t, .string k])) := by
  have := store_new h 2 none cs (nameV t k) hc.symm (by simp) (by simp [ones])
  simpa using this
theorem load2 {h : H} {b : Nat} {t : Int} {k : ByteArray} (hb : Has h b (.rw [.int .i64 t, .string k])) (s) : loadAgg 2 h (.pointer (some ⟨b, 0, s⟩)) = some (nameV t k) := loadAgg_has hb rfl (by simp)

theorem name_law (L n : Nat) (t : Int) (k : ByteArray) (h : H) : Sp (CF L (n + 1)) 15 [.int .i64 t, .string k] h fun r h' => r = nameV t k ∧ Keep nobody h h' := by
  refine Sp.body f15 (by simp) ?_
  unfold c15
  have a2 : aggO (fill [(.int .i64 (0)), (.string (strB []))] (plc [(0, 1), (1, 1)]) [(0, (.int .i64 t)), (1, (.string k))]) = some (nameV t k) := rfl
  refine C.seq fun K hK => ?_
  simp only [↓opStep_eq, ↓reduceIte, tg_set, toTm_cons, toTm_nil, fieldPtr_ptr, Nat.add_zero, Nat.zero_add, Nat.reduceAdd, Nat.reduceEqDiff, Int.reduceEq, Int.reduceLT, Int.reduceLE, Int.reduceNe, ↓kO_some, ↓kA_some, ↓kH_some, kO_some, kA_some, kH_some, gd_true, gd_false, nthD_zero, nthD_succ, isB_true, isB_false, isB_undef, pickV_true, pickV_false, binV_add, binV_sub, binV_mul, binV_eql, binV_neq, binV_lss, binV_leq, binV_gtr, binV_geq, unV_not, nt, nf, Bool.false_eq_true, dt, df, decide_true, decide_false, withV_some, aggO_some, ptrTo_eq, ↓aO_some, aO_some, ↓andB_true, andB_true, gz, gs, seqC, retC, skipC, exitC, blockC, condC, cells_agg, r15_0]
  refine hK _ _ _ (C.seq fun K hK => ?_)
  have s2 := store2_new h [.int .i64 0, .string (strB [])] t k rfl
  have k2 := keep_alloc h (.rw [.int .i64 0, .string (strB [])]) (.rw [.int .i64 t, .string k])
  have b2 := has_alloc h (.rw [.int .i64 0, .string (strB [])]) (.rw [.int .i64 t, .string k])
  simp only [↓opStep_eq, ↓reduceIte, tg_set, toTm_cons, toTm_nil, fieldPtr_ptr, Nat.add_zero, Nat.zero_add, Nat.reduceAdd, Nat.reduceEqDiff, Int.reduceEq, Int.reduceLT, Int.reduceLE, Int.reduceNe, ↓kO_some, ↓kA_some, ↓kH_some, kO_some, kA_some, kH_some, gd_true, gd_false, nthD_zero, nthD_succ, isB_true, isB_false, isB_undef, pickV_true, pickV_false, binV_add, binV_sub, binV_mul, binV_eql, binV_neq, binV_lss, binV_leq, binV_gtr, binV_geq, unV_not, nt, nf, Bool.false_eq_true, dt, df, decide_true, decide_false, withV_some, aggO_some, ptrTo_eq, ↓aO_some, aO_some, ↓andB_true, andB_true, gz, gs, seqC, retC, skipC, exitC, blockC, condC, cells_agg, r15_1, a2, s2]
  generalize (h.new (.rw [.int .i64 0, .string (strB [])])).put h.next (.rw [.int .i64 t, .string k]) = h2 at *
  have ql : ∀ tm, tg tm 4 = .pointer (some ⟨h.next, 0, none⟩) → q15.f tm h2 = some [nameV t k] := fun tm ht => by
    show (match loadAgg 2 h2 (tg tm 4) with | some v => (match (some [] : Option (List Value)) with | some l => some (v :: l) | none => none) | none => none) = _
    rw [ht, load2 b2]
  exact hK _ _ _ (C.ret ⟨.inr rfl, _, ql _ (by simp only [↓opStep_eq, ↓reduceIte, tg_set, toTm_cons, toTm_nil, fieldPtr_ptr, Nat.add_zero, Nat.zero_add, Nat.reduceAdd, Nat.reduceEqDiff, Int.reduceEq, Int.reduceLT, Int.reduceLE, Int.reduceNe, ↓kO_some, ↓kA_some, ↓kH_some, kO_some, kA_some, kH_some, gd_true, gd_false, nthD_zero, nthD_succ, isB_true, isB_false, isB_undef, pickV_true, pickV_false, binV_add, binV_sub, binV_mul, binV_eql, binV_neq, binV_lss, binV_leq, binV_gtr, binV_geq, unV_not, nt, nf, Bool.false_eq_true, dt, df, decide_true, decide_false, withV_some, aggO_some, ptrTo_eq, ↓aO_some, aO_some, ↓andB_true, andB_true, gz, gs, seqC, retC, skipC, exitC, blockC, condC, cells_agg]), rfl, k2⟩)

def nm (i : Nat) : ByteArray := ⟨[UInt8.ofNat (97 + i % 26), UInt8.ofNat (97 + i / 26 % 26), UInt8.ofNat (97 + i / 676 % 26)].toArray⟩
theorem tmod_nat (n k : Nat) : (n : Int).tmod (k : Int) = ((n % k : Nat) : Int) := by
  rw [Int.tmod_eq_emod_of_nonneg (by omega)]; rfl
theorem rem_nat (t : TypeId) (c : Bool) (k : IntKind) (n m : Nat) (hm : 0 < m) : binV Tryd.prog .rem t c (.int k (n : Int)) (.int k (m : Int)) = some (.int k ((n % m : Nat) : Int)) := by
  rw [binV_rem _ _ _ _ _ (by omega), tmod_nat]
theorem quo_nat (t : TypeId) (c : Bool) (n m : Nat) (hm : 0 < m) (hn : n ≤ 1000000) : binV Tryd.prog .quo t c (.int .i64 (n : Int)) (.int .i64 (m : Int)) = some (.int .i64 ((n / m : Nat) : Int)) := by
  rw [binV_quo _ _ _ _ _ (by omega), tdiv_nat, wrap_i64 _ (by have := Nat.div_le_self n m; omega)]
theorem quo_u16 (t : TypeId) (c : Bool) (n m : Nat) (hm : 0 < m) (hn : n < 65536) : binV Tryd.prog .quo t c (.int .u16 (n : Int)) (.int .u16 (m : Int)) = some (.int .u16 ((n / m : Nat) : Int)) := by
  rw [binV_quo _ _ _ _ _ (by omega), tdiv_nat]
  have := Nat.div_le_self n m
  generalize n / m = q at *
  rw [wrap_eq] <;> simp [IntKind.min, IntKind.max, IntKind.bits, IntKind.signed] <;> omega
theorem lit3 (b : Nat) (x y z : UInt8) : mkLit 3 b (fill (repl [(.int .u8 (0))] 3) (pl 1) [(0, bv x), (1, bv y), (2, bv z)]) = some (.rw ([x, y, z].map bv), .slice (some ⟨b, 0, none⟩) [x, y, z].length [x, y, z].length) := rfl

theorem many_law (L n : Nat) (i : Nat) (hi : i ≤ 1000000) (h : H) : Sp (CF L (n + 2)) 9 [.int .i64 (i : Int)] h fun r h' => r = nameV ((i % 4 : Nat) : Int) (nm i) ∧ Keep nobody h h' := by
  refine Sp.body f9 (by simp) ?_
  unfold c9
  refine C.seq fun K hK => ?_
  simp only [↓opStep_eq, ↓reduceIte, tg_set, toTm_cons, toTm_nil, fieldPtr_ptr, Nat.add_zero, Nat.zero_add, Nat.reduceAdd, Nat.reduceEqDiff, Int.reduceEq, Int.reduceLT, Int.reduceLE, Int.reduceNe, ↓kO_some, ↓kA_some, ↓kH_some, kO_some, kA_some, kH_some, gd_true, gd_false, nthD_zero, nthD_succ, isB_true, isB_false, isB_undef, pickV_true, pickV_false, binV_add, binV_sub, binV_mul, binV_eql, binV_neq, binV_lss, binV_leq, binV_gtr, binV_geq, unV_not, nt, nf, Bool.false_eq_true, dt, df, decide_true, decide_false, withV_some, aggO_some, ptrTo_eq, ↓aO_some, aO_some, ↓andB_true, andB_true, gz, gs, seqC, retC, skipC, exitC, blockC, condC, cells_agg, r9_0]
  have n1 : (h.new (.rw [.int .i64 0, .string (strB [])])).next = h.next + 1 := rfl
  have k1 := Keep.new h (.rw [.int .i64 0, .string (strB [])])
  have b1 := Has.new h (.rw [.int .i64 0, .string (strB [])])
  generalize h.new (.rw [.int .i64 0, .string (strB [])]) = h1 at *
  refine hK _ _ _ (C.seq fun K hK => ?_)
  have e1 := rem_nat 3 true .i64 i 4 (by decide)
  have e2 := rem_nat 3 true .i64 i 26 (by decide)
  have e3 := quo_nat 3 true i 26 (by decide) hi
  have e4 := rem_nat 3 true .i64 (i / 26) 26 (by decide)
  have e5 := quo_nat 3 true i 676 (by decide) hi
  have e6 := rem_nat 3 true .i64 (i / 676) 26 (by decide)
  have w : ∀ m : Nat, IntKind.i64.wrap (97 + ((m % 26 : Nat) : Int)) = ((97 + m % 26 : Nat) : Int) := fun m => by
    rw [show (97 : Int) + ((m % 26 : Nat) : Int) = ((97 + m % 26 : Nat) : Int) by omega, wrap_i64 _ (by omega)]
  have c4 : ((4 : Nat) : Int) = 4 := rfl
  have c26 : ((26 : Nat) : Int) = 26 := rfl
  have c676 : ((676 : Nat) : Int) = 676 := rfl
  rw [c4] at e1
  rw [c26] at e2 e3 e4 e6
  rw [c676] at e5
  have k2 := Keep.new h1 (.rw ([UInt8.ofNat (97 + i % 26), UInt8.ofNat (97 + i / 26 % 26), UInt8.ofNat (97 + i / 676 % 26)].map bv))
  have st := (Mine.rw h1.next [UInt8.ofNat (97 + i % 26), UInt8.ofNat (97 + i / 26 % 26), UInt8.ofNat (97 + i / 676 % 26)] (Has.new h1 _)).reads.str
  simp only [↓opStep_eq, ↓reduceIte, tg_set, toTm_cons, toTm_nil, fieldPtr_ptr, Nat.add_zero, Nat.zero_add, Nat.reduceAdd, Nat.reduceEqDiff, Int.reduceEq, Int.reduceLT, Int.reduceLE, Int.reduceNe, ↓kO_some, ↓kA_some, ↓kH_some, kO_some, kA_some, kH_some, gd_true, gd_false, nthD_zero, nthD_succ, isB_true, isB_false, isB_undef, pickV_true, pickV_false, binV_add, binV_sub, binV_mul, binV_eql, binV_neq, binV_lss, binV_leq, binV_gtr, binV_geq, unV_not, nt, nf, Bool.false_eq_true, dt, df, decide_true, decide_false, withV_some, aggO_some, ptrTo_eq, ↓aO_some, aO_some, ↓andB_true, andB_true, gz, gs, seqC, retC, skipC, exitC, blockC, condC, cells_agg, r9_1, e1, e2, e3, e4, e5, e6, w, toInt_u8, lit3]
  generalize h1.new (.rw ([UInt8.ofNat (97 + i % 26), UInt8.ofNat (97 + i / 26 % 26), UInt8.ofNat (97 + i / 676 % 26)].map bv)) = h2 at *
  simp only [↓opStep_eq, ↓reduceIte, tg_set, toTm_cons, toTm_nil, fieldPtr_ptr, Nat.add_zero, Nat.zero_add, Nat.reduceAdd, Nat.reduceEqDiff, Int.reduceEq, Int.reduceLT, Int.reduceLE, Int.reduceNe, ↓kO_some, ↓kA_some, ↓kH_some, kO_some, kA_some, kH_some, gd_true, gd_false, nthD_zero, nthD_succ, isB_true, isB_false, isB_undef, pickV_true, pickV_false, binV_add, binV_sub, binV_mul, binV_eql, binV_neq, binV_lss, binV_leq, binV_gtr, binV_geq, unV_not, nt, nf, Bool.false_eq_true, dt, df, decide_true, decide_false, withV_some, aggO_some, ptrTo_eq, ↓aO_some, aO_some, ↓andB_true, andB_true, gz, gs, seqC, retC, skipC, exitC, blockC, condC, cells_agg, st]
  refine name_law L n _ (nm i) h2 _ fun r h3 hq => ?_
  obtain ⟨rfl, k3⟩ := hq
  have k13 := k2.then k3
  have b3 := b1.keep0 k13
  have s2 : storeV 2 h3 (.pointer (some ⟨h.next, 0, none⟩)) (nameV ((i % 4 : Nat) : Int) (nm i)) = some (h3.put h.next (.rw [.int .i64 ((i % 4 : Nat) : Int), .string (nm i)])) := by
    have := store_has (s := none) (v := nameV ((i % 4 : Nat) : Int) (nm i)) b3 (n := 2) rfl (by simp) (by simp [ones])
    simpa using this
  have kp := Keep.put h3 h.next (.rw [.int .i64 ((i % 4 : Nat) : Int), .string (nm i)])
  have b4 : Has (h3.put h.next (.rw [.int .i64 ((i % 4 : Nat) : Int), .string (nm i)])) h.next (.rw [.int .i64 ((i % 4 : Nat) : Int), .string (nm i)]) := Has.put b3.1
  simp only [↓opStep_eq, ↓reduceIte, tg_set, toTm_cons, toTm_nil, fieldPtr_ptr, Nat.add_zero, Nat.zero_add, Nat.reduceAdd, Nat.reduceEqDiff, Int.reduceEq, Int.reduceLT, Int.reduceLE, Int.reduceNe, ↓kO_some, ↓kA_some, ↓kH_some, kO_some, kA_some, kH_some, gd_true, gd_false, nthD_zero, nthD_succ, isB_true, isB_false, isB_undef, pickV_true, pickV_false, binV_add, binV_sub, binV_mul, binV_eql, binV_neq, binV_lss, binV_leq, binV_gtr, binV_geq, unV_not, nt, nf, Bool.false_eq_true, dt, df, decide_true, decide_false, withV_some, aggO_some, ptrTo_eq, ↓aO_some, aO_some, ↓andB_true, andB_true, gz, gs, seqC, retC, skipC, exitC, blockC, condC, cells_agg, s2]
  have kall : Keep nobody h (h3.put h.next (.rw [.int .i64 ((i % 4 : Nat) : Int), .string (nm i)])) := (k1.then k13).trans kp fun c hc e => by omega
  generalize h3.put h.next (.rw [.int .i64 ((i % 4 : Nat) : Int), .string (nm i)]) = h4 at *
  have ql : ∀ tm, tg tm 2 = .pointer (some ⟨h.next, 0, none⟩) → q9.f tm h4 = some [nameV ((i % 4 : Nat) : Int) (nm i)] := fun tm ht => by
    show (match loadAgg 2 h4 (tg tm 2) with | some v => (match (some [] : Option (List Value)) with | some l => some (v :: l) | none => none) | none => none) = _
    rw [ht, load2 b4]
  exact hK _ _ _ (C.ret ⟨.inr rfl, _, ql _ (by simp only [↓opStep_eq, ↓reduceIte, tg_set, toTm_cons, toTm_nil, fieldPtr_ptr, Nat.add_zero, Nat.zero_add, Nat.reduceAdd, Nat.reduceEqDiff, Int.reduceEq, Int.reduceLT, Int.reduceLE, Int.reduceNe, ↓kO_some, ↓kA_some, ↓kH_some, kO_some, kA_some, kH_some, gd_true, gd_false, nthD_zero, nthD_succ, isB_true, isB_false, isB_undef, pickV_true, pickV_false, binV_add, binV_sub, binV_mul, binV_eql, binV_neq, binV_lss, binV_leq, binV_gtr, binV_geq, unV_not, nt, nf, Bool.false_eq_true, dt, df, decide_true, decide_false, withV_some, aggO_some, ptrTo_eq, ↓aO_some, aO_some, ↓andB_true, andB_true, gz, gs, seqC, retC, skipC, exitC, blockC, condC, cells_agg]), rfl, kall⟩)
theorem nm_valid (i : Nat) : validN ((i % 4 : Nat) : Int) (nm i) := ⟨by omega, by omega, (by decide : ¬ (3 : Nat) = 0), (by decide : (3 : Nat) ≤ 32)⟩
theorem nm_inj {i j : Nat} (hi : i < 16384) (hj : j < 16384) (h : nm i = nm j) : i = j := by
  have h1 := congrArg (fun s : ByteArray => s.data.toList) h
  simp only [nm, List.cons.injEq, and_true] at h1
  obtain ⟨a, b, c⟩ := h1
  have key : ∀ m : Nat, (UInt8.ofNat (97 + m % 26)).toNat = 97 + m % 26 := fun m => by
    rw [UInt8.toNat_ofNat_of_lt' (by simp [UInt8.size]; omega)]
  have a' := congrArg UInt8.toNat a
  have b' := congrArg UInt8.toNat b
  have c' := congrArg UInt8.toNat c
  rw [key, key] at a' b' c'
  omega
end Go.Proofs.YtbdmhdidehfmoaaDoor
