import Derived.Test.YtbdmhdidehfmoaaDoorTbD
set_option linter.unusedSimpArgs false
set_option linter.unusedVariables false
namespace Go.Proofs.YtbdmhdidehfmoaaDoor
open Go.Ev
noncomputable abbrev CF (L n : Nat) : CallT := callF Tryd.prog (maskOf masks) outside NG L n

theorem ops_step {one : Box OpT} {put : Box (Value → T Value → T Value)} {want : Box (List Value → T Value → Bool)} {rest : Box OpsT} {call : CallT} {env : List Value} {tm : T Value} {ds : Defs} {h : H} {K : KE} (hw : want.f env tm = true)
    (h1 : one.f call env tm ds h (fun v ds h => rest.f call (v :: env) (put.f v tm) ds h K) = true) : opStep one put want rest call env tm ds h K = true := by
  rw [opStep_eq, if_pos hw]
  exact h1

section
variable {P : Program}
theorem binV_xor (t : TypeId) (c : Bool) (k : IntKind) (x y : Int) : binV P .xor t c (.int k x) (.int k y) = some (.int k (k.wrap (BitVec.ofInt k.bits x ^^^ BitVec.ofInt k.bits y).toNat)) := by
  simp [binV, binInt, orRun, intOp, pureRun, binOp, Op.intBits]
theorem binV_cat (t : TypeId) (c : Bool) (x : UInt8) (y : ByteArray) (h : y.size ≤ 1000000) : binV P .add t c (.string ⟨[x].toArray⟩) (.string y) = some (.string ⟨(x :: y.data.toList).toArray⟩) := by
  show catV _ _ = _
  unfold catV
  rw [Nat.ble_eq_true_of_le (by show 1 + y.size ≤ _; omega)]
  rfl
theorem nilChk_some (a : Addr) : nilChk (.pointer (some a)) = some (.pointer (some a)) := (rfl)
end

/-! ### Hash -/
def hstep (h : Int) (c : UInt8) : Int := IntKind.u64.wrap (IntKind.u64.wrap (BitVec.ofInt IntKind.u64.bits h ^^^ BitVec.ofInt IntKind.u64.bits (IntKind.u64.wrap (c.toNat : Int))).toNat * 1099511628211)
def hashL (l : List UInt8) : Int := l.foldl hstep 14695981039346656037

theorem hash_law (L n : Nat) (s : ByteArray) (h : H) (hL : s.size < L) (hs : s.size ≤ 1000000) : Sp (CF L (n + 1)) 45 [.string s] h fun r h' => r = .int .u64 (hashL s.data.toList) ∧ Keep nobody h h' := by
  refine Sp.body f45 (by simp) ?_
  unfold c45
  refine C.seq fun K hK => hK .norm _ _ (C.seq fun K hK => hK .norm _ _ ?_)
  have k1 := Keep.new h (.op (s.data.toList.map bv) 1)
  have b1 := Has.new h (.op (s.data.toList.map bv) 1)
  have mk : mkBytes h.next (.string s) = some (.op (s.data.toList.map bv) 1, .slice (some ⟨h.next, 0, none⟩) s.size (opCap s.size 1)) := rfl
  have hlen : s.data.toList.length = s.size := by rw [Array.length_toList]; rfl
  generalize opCap s.size 1 = cp at mk
  refine C.seq (C.seq fun K hK => ?_)
  simp only [↓opStep_eq, ↓reduceIte, tg_set, toTm_cons, toTm_nil, fieldPtr_ptr, Nat.add_zero, Nat.zero_add, Nat.reduceAdd, Nat.reduceEqDiff, Int.reduceEq, Int.reduceLT, Int.reduceLE, Int.reduceNe, ↓kO_some, ↓kA_some, ↓kH_some, kO_some, kA_some, kH_some, gd_true, gd_false, nthD_zero, nthD_succ, isB_true, isB_false, isB_undef, pickV_true, pickV_false, binV_add, binV_sub, binV_mul, binV_eql, binV_neq, binV_lss, binV_leq, binV_gtr, binV_geq, unV_not, nt, nf, Bool.false_eq_true, dt, df, decide_true, decide_false, withV_some, aggO_some, ptrTo_eq, ↓aO_some, aO_some, ↓andB_true, andB_true, gz, gs, seqC, retC, skipC, exitC, blockC, condC, cells_agg, r45_2, mk, lenSl_slice]
  generalize h.new (.op (s.data.toList.map bv) 1) = h1 at *
  refine hK .norm _ _ ?_
  refine C.block (C.loop (fun k tm' hx => ∃ i, k = s.size - i ∧ i ≤ s.size ∧ tg tm' 7 = .slice (some ⟨h.next, 0, none⟩) s.size cp ∧ tg tm' 8 = .int .i64 (s.size : Int) ∧ tg tm' 9 = .int .i64 (i : Int) ∧ tg tm' 3 = .int .u64 (hashL (s.data.toList.take i)) ∧ Keep nobody h1 hx) s.size hL
    ⟨0, rfl, by omega, by simp only [↓opStep_eq, ↓reduceIte, tg_set, toTm_cons, toTm_nil, fieldPtr_ptr, Nat.add_zero, Nat.zero_add, Nat.reduceAdd, Nat.reduceEqDiff, Int.reduceEq, Int.reduceLT, Int.reduceLE, Int.reduceNe, ↓kO_some, ↓kA_some, ↓kH_some, kO_some, kA_some, kH_some, gd_true, gd_false, nthD_zero, nthD_succ, isB_true, isB_false, isB_undef, pickV_true, pickV_false, binV_add, binV_sub, binV_mul, binV_eql, binV_neq, binV_lss, binV_leq, binV_gtr, binV_geq, unV_not, nt, nf, Bool.false_eq_true, dt, df, decide_true, decide_false, withV_some, aggO_some, ptrTo_eq, ↓aO_some, aO_some, ↓andB_true, andB_true, gz, gs, seqC, retC, skipC, exitC, blockC, condC, cells_agg], by simp only [↓opStep_eq, ↓reduceIte, tg_set, toTm_cons, toTm_nil, fieldPtr_ptr, Nat.add_zero, Nat.zero_add, Nat.reduceAdd, Nat.reduceEqDiff, Int.reduceEq, Int.reduceLT, Int.reduceLE, Int.reduceNe, ↓kO_some, ↓kA_some, ↓kH_some, kO_some, kA_some, kH_some, gd_true, gd_false, nthD_zero, nthD_succ, isB_true, isB_false, isB_undef, pickV_true, pickV_false, binV_add, binV_sub, binV_mul, binV_eql, binV_neq, binV_lss, binV_leq, binV_gtr, binV_geq, unV_not, nt, nf, Bool.false_eq_true, dt, df, decide_true, decide_false, withV_some, aggO_some, ptrTo_eq, ↓aO_some, aO_some, ↓andB_true, andB_true, gz, gs, seqC, retC, skipC, exitC, blockC, condC, cells_agg], by simp only [↓opStep_eq, ↓reduceIte, tg_set, toTm_cons, toTm_nil, fieldPtr_ptr, Nat.add_zero, Nat.zero_add, Nat.reduceAdd, Nat.reduceEqDiff, Int.reduceEq, Int.reduceLT, Int.reduceLE, Int.reduceNe, ↓kO_some, ↓kA_some, ↓kH_some, kO_some, kA_some, kH_some, gd_true, gd_false, nthD_zero, nthD_succ, isB_true, isB_false, isB_undef, pickV_true, pickV_false, binV_add, binV_sub, binV_mul, binV_eql, binV_neq, binV_lss, binV_leq, binV_gtr, binV_geq, unV_not, nt, nf, Bool.false_eq_true, dt, df, decide_true, decide_false, withV_some, aggO_some, ptrTo_eq, ↓aO_some, aO_some, ↓andB_true, andB_true, gz, gs, seqC, retC, skipC, exitC, blockC, condC, cells_agg] <;> rfl, by simp only [↓opStep_eq, ↓reduceIte, tg_set, toTm_cons, toTm_nil, fieldPtr_ptr, Nat.add_zero, Nat.zero_add, Nat.reduceAdd, Nat.reduceEqDiff, Int.reduceEq, Int.reduceLT, Int.reduceLE, Int.reduceNe, ↓kO_some, ↓kA_some, ↓kH_some, kO_some, kA_some, kH_some, gd_true, gd_false, nthD_zero, nthD_succ, isB_true, isB_false, isB_undef, pickV_true, pickV_false, binV_add, binV_sub, binV_mul, binV_eql, binV_neq, binV_lss, binV_leq, binV_gtr, binV_geq, unV_not, nt, nf, Bool.false_eq_true, dt, df, decide_true, decide_false, withV_some, aggO_some, ptrTo_eq, ↓aO_some, aO_some, ↓andB_true, andB_true, gz, gs, seqC, retC, skipC, exitC, blockC, condC, cells_agg] <;> rfl, .refl _ _⟩ ?_)
  rintro k tm' hx ⟨i, rfl, hi, t7, t8, t9, t3, kx⟩
  unfold l45_7
  refine C.seq fun K hK => ?_
  simp only [↓opStep_eq, ↓reduceIte, tg_set, toTm_cons, toTm_nil, fieldPtr_ptr, Nat.add_zero, Nat.zero_add, Nat.reduceAdd, Nat.reduceEqDiff, Int.reduceEq, Int.reduceLT, Int.reduceLE, Int.reduceNe, ↓kO_some, ↓kA_some, ↓kH_some, kO_some, kA_some, kH_some, gd_true, gd_false, nthD_zero, nthD_succ, isB_true, isB_false, isB_undef, pickV_true, pickV_false, binV_add, binV_sub, binV_mul, binV_eql, binV_neq, binV_lss, binV_leq, binV_gtr, binV_geq, unV_not, nt, nf, Bool.false_eq_true, dt, df, decide_true, decide_false, withV_some, aggO_some, ptrTo_eq, ↓aO_some, aO_some, ↓andB_true, andB_true, gz, gs, seqC, retC, skipC, exitC, blockC, condC, cells_agg, r45_3, t8, t9]
  refine hK _ _ _ (C.seq (C.cond (decide ((i : Int) < (s.size : Int))) (by simp only [↓opStep_eq, ↓reduceIte, tg_set, toTm_cons, toTm_nil, fieldPtr_ptr, Nat.add_zero, Nat.zero_add, Nat.reduceAdd, Nat.reduceEqDiff, Int.reduceEq, Int.reduceLT, Int.reduceLE, Int.reduceNe, ↓kO_some, ↓kA_some, ↓kH_some, kO_some, kA_some, kH_some, gd_true, gd_false, nthD_zero, nthD_succ, isB_true, isB_false, isB_undef, pickV_true, pickV_false, binV_add, binV_sub, binV_mul, binV_eql, binV_neq, binV_lss, binV_leq, binV_gtr, binV_geq, unV_not, nt, nf, Bool.false_eq_true, dt, df, decide_true, decide_false, withV_some, aggO_some, ptrTo_eq, ↓aO_some, aO_some, ↓andB_true, andB_true, gz, gs, seqC, retC, skipC, exitC, blockC, condC, cells_agg]) (fun g => C.skip ?_) fun g => C.exit ?_))
  · have g : i < s.size := by have := of_decide_eq_true g; omega
    obtain ⟨x, hxx⟩ : ∃ x, s.data.toList[i]? = some x := ⟨s.data.toList[i]'(by omega), List.getElem?_eq_getElem (by omega)⟩
    refine C.seq (C.block (C.seq fun K hK => ?_))
    have e1 : indexSl 1 (.slice (some ⟨h.next, 0, none⟩) s.size cp) (.int .i64 (i : Int)) = some (.pointer (some ⟨h.next, i, none⟩)) := by
      simp only [indexSl, asNat_nat, addOff]
      rw [Nat.ble_eq_true_of_le (by omega)]
      simp only [Nat.zero_add, Nat.mul_one]
    have e2 : loadOne hx (.pointer (some ⟨h.next, i, none⟩)) = some (bv x) := by
      rw [loadOne_has (b1.keep0 kx) rfl, List.getElem?_map, hxx]; rfl
    simp only [↓opStep_eq, ↓reduceIte, tg_set, toTm_cons, toTm_nil, fieldPtr_ptr, Nat.add_zero, Nat.zero_add, Nat.reduceAdd, Nat.reduceEqDiff, Int.reduceEq, Int.reduceLT, Int.reduceLE, Int.reduceNe, ↓kO_some, ↓kA_some, ↓kH_some, kO_some, kA_some, kH_some, gd_true, gd_false, nthD_zero, nthD_succ, isB_true, isB_false, isB_undef, pickV_true, pickV_false, binV_add, binV_sub, binV_mul, binV_eql, binV_neq, binV_lss, binV_leq, binV_gtr, binV_geq, unV_not, nt, nf, Bool.false_eq_true, dt, df, decide_true, decide_false, withV_some, aggO_some, ptrTo_eq, ↓aO_some, aO_some, ↓andB_true, andB_true, gz, gs, seqC, retC, skipC, exitC, blockC, condC, cells_agg, r45_4, t7, t9, e1, e2]
    refine hK _ _ _ fun K hK => ?_
    simp only [↓opStep_eq, ↓reduceIte, tg_set, toTm_cons, toTm_nil, fieldPtr_ptr, Nat.add_zero, Nat.zero_add, Nat.reduceAdd, Nat.reduceEqDiff, Int.reduceEq, Int.reduceLT, Int.reduceLE, Int.reduceNe, ↓kO_some, ↓kA_some, ↓kH_some, kO_some, kA_some, kH_some, gd_true, gd_false, nthD_zero, nthD_succ, isB_true, isB_false, isB_undef, pickV_true, pickV_false, binV_add, binV_sub, binV_mul, binV_eql, binV_neq, binV_lss, binV_leq, binV_gtr, binV_geq, unV_not, nt, nf, Bool.false_eq_true, dt, df, decide_true, decide_false, withV_some, aggO_some, ptrTo_eq, ↓aO_some, aO_some, ↓andB_true, andB_true, gz, gs, seqC, retC, skipC, exitC, blockC, condC, cells_agg, r45_5, t3, bv, toInt_int, binV_xor]
    refine hK _ _ _ fun K hK => ?_
    have hw : IntKind.i64.wrap ((i : Int) + 1) = ((i + 1 : Nat) : Int) := by
      rw [show (i : Int) + 1 = ((i + 1 : Nat) : Int) by omega, wrap_i64 _ (by omega)]
    simp only [↓opStep_eq, ↓reduceIte, tg_set, toTm_cons, toTm_nil, fieldPtr_ptr, Nat.add_zero, Nat.zero_add, Nat.reduceAdd, Nat.reduceEqDiff, Int.reduceEq, Int.reduceLT, Int.reduceLE, Int.reduceNe, ↓kO_some, ↓kA_some, ↓kH_some, kO_some, kA_some, kH_some, gd_true, gd_false, nthD_zero, nthD_succ, isB_true, isB_false, isB_undef, pickV_true, pickV_false, binV_add, binV_sub, binV_mul, binV_eql, binV_neq, binV_lss, binV_leq, binV_gtr, binV_geq, unV_not, nt, nf, Bool.false_eq_true, dt, df, decide_true, decide_false, withV_some, aggO_some, ptrTo_eq, ↓aO_some, aO_some, ↓andB_true, andB_true, gz, gs, seqC, retC, skipC, exitC, blockC, condC, cells_agg, r45_6, t9, hw]
    refine hK _ _ _ ⟨s.size - (i + 1), by omega, i + 1, rfl, by omega, by simp only [↓opStep_eq, ↓reduceIte, tg_set, toTm_cons, toTm_nil, fieldPtr_ptr, Nat.add_zero, Nat.zero_add, Nat.reduceAdd, Nat.reduceEqDiff, Int.reduceEq, Int.reduceLT, Int.reduceLE, Int.reduceNe, ↓kO_some, ↓kA_some, ↓kH_some, kO_some, kA_some, kH_some, gd_true, gd_false, nthD_zero, nthD_succ, isB_true, isB_false, isB_undef, pickV_true, pickV_false, binV_add, binV_sub, binV_mul, binV_eql, binV_neq, binV_lss, binV_leq, binV_gtr, binV_geq, unV_not, nt, nf, Bool.false_eq_true, dt, df, decide_true, decide_false, withV_some, aggO_some, ptrTo_eq, ↓aO_some, aO_some, ↓andB_true, andB_true, gz, gs, seqC, retC, skipC, exitC, blockC, condC, cells_agg, t7], by simp only [↓opStep_eq, ↓reduceIte, tg_set, toTm_cons, toTm_nil, fieldPtr_ptr, Nat.add_zero, Nat.zero_add, Nat.reduceAdd, Nat.reduceEqDiff, Int.reduceEq, Int.reduceLT, Int.reduceLE, Int.reduceNe, ↓kO_some, ↓kA_some, ↓kH_some, kO_some, kA_some, kH_some, gd_true, gd_false, nthD_zero, nthD_succ, isB_true, isB_false, isB_undef, pickV_true, pickV_false, binV_add, binV_sub, binV_mul, binV_eql, binV_neq, binV_lss, binV_leq, binV_gtr, binV_geq, unV_not, nt, nf, Bool.false_eq_true, dt, df, decide_true, decide_false, withV_some, aggO_some, ptrTo_eq, ↓aO_some, aO_some, ↓andB_true, andB_true, gz, gs, seqC, retC, skipC, exitC, blockC, condC, cells_agg, t8], by simp only [↓opStep_eq, ↓reduceIte, tg_set, toTm_cons, toTm_nil, fieldPtr_ptr, Nat.add_zero, Nat.zero_add, Nat.reduceAdd, Nat.reduceEqDiff, Int.reduceEq, Int.reduceLT, Int.reduceLE, Int.reduceNe, ↓kO_some, ↓kA_some, ↓kH_some, kO_some, kA_some, kH_some, gd_true, gd_false, nthD_zero, nthD_succ, isB_true, isB_false, isB_undef, pickV_true, pickV_false, binV_add, binV_sub, binV_mul, binV_eql, binV_neq, binV_lss, binV_leq, binV_gtr, binV_geq, unV_not, nt, nf, Bool.false_eq_true, dt, df, decide_true, decide_false, withV_some, aggO_some, ptrTo_eq, ↓aO_some, aO_some, ↓andB_true, andB_true, gz, gs, seqC, retC, skipC, exitC, blockC, condC, cells_agg], ?_, kx⟩
    simp only [↓opStep_eq, ↓reduceIte, tg_set, toTm_cons, toTm_nil, fieldPtr_ptr, Nat.add_zero, Nat.zero_add, Nat.reduceAdd, Nat.reduceEqDiff, Int.reduceEq, Int.reduceLT, Int.reduceLE, Int.reduceNe, ↓kO_some, ↓kA_some, ↓kH_some, kO_some, kA_some, kH_some, gd_true, gd_false, nthD_zero, nthD_succ, isB_true, isB_false, isB_undef, pickV_true, pickV_false, binV_add, binV_sub, binV_mul, binV_eql, binV_neq, binV_lss, binV_leq, binV_gtr, binV_geq, unV_not, nt, nf, Bool.false_eq_true, dt, df, decide_true, decide_false, withV_some, aggO_some, ptrTo_eq, ↓aO_some, aO_some, ↓andB_true, andB_true, gz, gs, seqC, retC, skipC, exitC, blockC, condC, cells_agg]
    have : hashL (s.data.toList.take (i + 1)) = hstep (hashL (s.data.toList.take i)) x := by
      unfold hashL
      rw [List.take_add_one, hxx, Option.toList_some, List.foldl_append, List.foldl_cons, List.foldl_nil]
    rw [this]; rfl
  · simp only [if_pos]
    have g : i = s.size := by have := of_decide_eq_false g; omega
    refine C.seq fun K hK => hK .norm _ _ (C.ret ⟨.inr rfl, _, rfl, ?_, k1.then kx⟩)
    simp only [↓opStep_eq, ↓reduceIte, tg_set, toTm_cons, toTm_nil, fieldPtr_ptr, Nat.add_zero, Nat.zero_add, Nat.reduceAdd, Nat.reduceEqDiff, Int.reduceEq, Int.reduceLT, Int.reduceLE, Int.reduceNe, ↓kO_some, ↓kA_some, ↓kH_some, kO_some, kA_some, kH_some, gd_true, gd_false, nthD_zero, nthD_succ, isB_true, isB_false, isB_undef, pickV_true, pickV_false, binV_add, binV_sub, binV_mul, binV_eql, binV_neq, binV_lss, binV_leq, binV_gtr, binV_geq, unV_not, nt, nf, Bool.false_eq_true, dt, df, decide_true, decide_false, withV_some, aggO_some, ptrTo_eq, ↓aO_some, aO_some, ↓andB_true, andB_true, gz, gs, seqC, retC, skipC, exitC, blockC, condC, cells_agg, resOf, t3]
    rw [List.take_of_length_le (by omega)]

/-! ### row -/
def tb (t : Int) : UInt8 := UInt8.ofNat (IntKind.u8.wrap t).toNat
theorem tb_eq (t : Int) : Value.int .u8 (IntKind.u8.wrap t) = bv (tb t) := by
  have h1 : 0 ≤ IntKind.u8.wrap t ∧ IntKind.u8.wrap t < 256 := by
    simp [IntKind.wrap, IntKind.bits, IntKind.signed]; omega
  unfold bv tb
  congr 1
  rw [UInt8.toNat_ofNat_of_lt' (by simp [UInt8.size]; omega)]
  omega
def mixI (h : Int) : Int := IntKind.u64.wrap (BitVec.ofInt IntKind.u64.bits h ^^^ BitVec.ofInt IntKind.u64.bits (h.fdiv (2 ^ (min (32 : Int).toNat IntKind.u64.bits)))).toNat
/-- a name's row, of so many -/
def idx (t : Int) (k : ByteArray) (n : Nat) : Nat := (BitVec.ofInt IntKind.u64.bits (mixI (hashL (tb t :: k.data.toList))) &&& BitVec.ofInt IntKind.u64.bits ((n - 1 : Nat) : Int)).toNat
theorem idx_lt (t : Int) (k : ByteArray) {n : Nat} (hn : 0 < n) (hb : n ≤ 1000000) : idx t k n < n := by
  have h1 : idx t k n ≤ (BitVec.ofInt IntKind.u64.bits ((n - 1 : Nat) : Int)).toNat := by
    unfold idx
    rw [BitVec.toNat_and]
    exact Nat.and_le_right
  have h2 : (BitVec.ofInt IntKind.u64.bits ((n - 1 : Nat) : Int)).toNat = n - 1 := by
    show (BitVec.ofInt 64 ((n - 1 : Nat) : Int)).toNat = n - 1
    rw [BitVec.toNat_ofInt]
    omega
  omega

theorem row_law (L n : Nat) (t : Int) (k : ByteArray) (p : Addr) (B m : Nat) (h : H) (hp : ∀ hx, Keep nobody h hx → ∀ s, loadOne hx (.pointer (some ⟨p.block, p.off, s⟩)) = some (.slice (some ⟨B, 0, none⟩) m m)) (hm : 0 < m) (hb : m ≤ 1000000) (hL : k.size + 1 < L) (hk : k.size ≤ 100000) :
    Sp (CF L (n + 2)) 35 [.pointer (some p), .agg [.int .i64 t, .string k].toArray] h fun r h' => r = .pointer (some ⟨B, idx t k m, none⟩) ∧ Keep nobody h h' := by
  refine Sp.body f35 (by simp) ?_
  unfold c35
  have k1 := Keep.new h (.rw [.int .i64 t, .string k])
  have b1 := Has.new h (.rw [.int .i64 t, .string k])
  refine C.seq fun K hK => ?_
  simp only [↓opStep_eq, ↓reduceIte, tg_set, toTm_cons, toTm_nil, fieldPtr_ptr, Nat.add_zero, Nat.zero_add, Nat.reduceAdd, Nat.reduceEqDiff, Int.reduceEq, Int.reduceLT, Int.reduceLE, Int.reduceNe, ↓kO_some, ↓kA_some, ↓kH_some, kO_some, kA_some, kH_some, gd_true, gd_false, nthD_zero, nthD_succ, isB_true, isB_false, isB_undef, pickV_true, pickV_false, binV_add, binV_sub, binV_mul, binV_eql, binV_neq, binV_lss, binV_leq, binV_gtr, binV_geq, unV_not, nt, nf, Bool.false_eq_true, dt, df, decide_true, decide_false, withV_some, aggO_some, ptrTo_eq, ↓aO_some, aO_some, ↓andB_true, andB_true, gz, gs, seqC, retC, skipC, exitC, blockC, condC, cells_agg, r35_0, cells_agg]
  generalize h.new (.rw [.int .i64 t, .string k]) = h1 at *
  have ld : ∀ hx, Has hx h.next (.rw [.int .i64 t, .string k]) → ∀ o s, loadOne hx (.pointer (some ⟨h.next, o, s⟩)) = [.int .i64 t, .string k][o]? := fun hx b o s => loadOne_has b rfl
  refine hK _ _ _ (C.seq fun K hK => ?_)
  have k2 := Keep.new h1 (.rw ([tb t].map bv))
  have b2 := Mine.rw h1.next [tb t] (Has.new h1 (.rw ([tb t].map bv)))
  have st := b2.reads.str
  simp only [↓opStep_eq, ↓reduceIte, tg_set, toTm_cons, toTm_nil, fieldPtr_ptr, Nat.add_zero, Nat.zero_add, Nat.reduceAdd, Nat.reduceEqDiff, Int.reduceEq, Int.reduceLT, Int.reduceLE, Int.reduceNe, ↓kO_some, ↓kA_some, ↓kH_some, kO_some, kA_some, kH_some, gd_true, gd_false, nthD_zero, nthD_succ, isB_true, isB_false, isB_undef, pickV_true, pickV_false, binV_add, binV_sub, binV_mul, binV_eql, binV_neq, binV_lss, binV_leq, binV_gtr, binV_geq, unV_not, nt, nf, Bool.false_eq_true, dt, df, decide_true, decide_false, withV_some, aggO_some, ptrTo_eq, ↓aO_some, aO_some, ↓andB_true, andB_true, gz, gs, seqC, retC, skipC, exitC, blockC, condC, cells_agg, r35_1, ld _ b1, toInt_int, tb_eq, lit1]
  simp only [↓opStep_eq, ↓reduceIte, tg_set, toTm_cons, toTm_nil, fieldPtr_ptr, Nat.add_zero, Nat.zero_add, Nat.reduceAdd, Nat.reduceEqDiff, Int.reduceEq, Int.reduceLT, Int.reduceLE, Int.reduceNe, ↓kO_some, ↓kA_some, ↓kH_some, kO_some, kA_some, kH_some, gd_true, gd_false, nthD_zero, nthD_succ, isB_true, isB_false, isB_undef, pickV_true, pickV_false, binV_add, binV_sub, binV_mul, binV_eql, binV_neq, binV_lss, binV_leq, binV_gtr, binV_geq, unV_not, nt, nf, Bool.false_eq_true, dt, df, decide_true, decide_false, withV_some, aggO_some, ptrTo_eq, ↓aO_some, aO_some, ↓andB_true, andB_true, gz, gs, seqC, retC, skipC, exitC, blockC, condC, cells_agg, st, ld _ (b1.keep0 k2), binV_cat _ _ _ _ (show k.size ≤ 1000000 by omega)]
  have hsz : (⟨(tb t :: k.data.toList).toArray⟩ : ByteArray).size = k.size + 1 := by
    show (tb t :: k.data.toList).toArray.size = _
    rw [List.size_toArray, List.length_cons, Array.length_toList]; rfl
  refine hash_law L n ⟨(tb t :: k.data.toList).toArray⟩ _ (by omega) (by omega) _ fun r h2 hv => ?_
  obtain ⟨rfl, k3⟩ := hv
  refine hK _ _ _ (C.seq fun K hK => ?_)
  have k12 := (k1.then k2).then k3
  have kr := k12.then (keep_room h2 18)
  have w1 : IntKind.i64.wrap ((m : Int) - 1) = ((m - 1 : Nat) : Int) := by
    rw [show (m : Int) - 1 = ((m - 1 : Nat) : Int) by omega, wrap_i64 _ (by omega)]
  have w2 : IntKind.u64.wrap ((m - 1 : Nat) : Int) = ((m - 1 : Nat) : Int) := by
    rw [wrap_eq] <;> simp [IntKind.min, IntKind.max, IntKind.bits, IntKind.signed] <;> omega
  have hlt := idx_lt t k hm hb
  have w3 : IntKind.u64.wrap ((idx t k m : Nat) : Int) = (idx t k m : Int) := by
    rw [wrap_eq] <;> simp [IntKind.min, IntKind.max, IntKind.bits, IntKind.signed] <;> omega
  have hi : indexSl 1 (.slice (some ⟨B, 0, none⟩) m m) (.int .u64 (idx t k m : Int)) = some (.pointer (some ⟨B, idx t k m, none⟩)) := by
    simp only [indexSl, asNat_nat, addOff]
    rw [Nat.ble_eq_true_of_le hlt]
    simp only [Nat.zero_add, Nat.mul_one]
  have hand : binV Tryd.prog .and 98 false (.int .u64 (mixI (hashL (tb t :: k.data.toList)))) (.int .u64 ((m - 1 : Nat) : Int)) = some (.int .u64 (IntKind.u64.wrap ((idx t k m : Nat) : Int))) := binV_and _ _ _ _ _
  have hxor : binV Tryd.prog .xor 98 false (.int .u64 (hashL (tb t :: k.data.toList))) (.int .u64 ((hashL (tb t :: k.data.toList)).fdiv (2 ^ (min (32 : Int).toNat IntKind.u64.bits)))) = some (.int .u64 (mixI (hashL (tb t :: k.data.toList)))) := binV_xor _ _ _ _ _
  have hshr : binV Tryd.prog .shr 98 true (.int .u64 (hashL (tb t :: k.data.toList))) (.int .u64 (32)) = some (.int .u64 ((hashL (tb t :: k.data.toList)).fdiv (2 ^ (min (32 : Int).toNat IntKind.u64.bits)))) := binV_shr _ _ _ _ _ (by decide)
  have ef : fieldPtr 0 (.pointer (some p)) = some (.pointer (some ⟨p.block, p.off, none⟩)) := rfl
  have ls : lenSl (.slice (some ⟨B, 0, none⟩) m m) = some (.int .i64 (m : Int)) := rfl
  have ti : toInt .u64 (.int .i64 ((m - 1 : Nat) : Int)) = some (.int .u64 ((m - 1 : Nat) : Int)) := by rw [toInt_int, w2]
  generalize hashL (tb t :: k.data.toList) = hv at *
  generalize (hv.fdiv (2 ^ (min (32 : Int).toNat IntKind.u64.bits))) = sv at *
  generalize mixI hv = mv at *
  simp only [↓opStep_eq, ↓reduceIte, tg_set, toTm_cons, toTm_nil, fieldPtr_ptr, Nat.add_zero, Nat.zero_add, Nat.reduceAdd, Nat.reduceEqDiff, Int.reduceEq, Int.reduceLT, Int.reduceLE, Int.reduceNe, ↓kO_some, ↓kA_some, ↓kH_some, kO_some, kA_some, kH_some, gd_true, gd_false, nthD_zero, nthD_succ, isB_true, isB_false, isB_undef, pickV_true, pickV_false, binV_add, binV_sub, binV_mul, binV_eql, binV_neq, binV_lss, binV_leq, binV_gtr, binV_geq, unV_not, nt, nf, Bool.false_eq_true, dt, df, decide_true, decide_false, withV_some, aggO_some, ptrTo_eq, ↓aO_some, aO_some, ↓andB_true, andB_true, gz, gs, seqC, retC, skipC, exitC, blockC, condC, cells_agg, r35_2, nilChk_some, ef, hp _ kr, hshr, hxor, ls, w1, ti, hand, w3, hi]
  exact hK _ _ _ (C.ret ⟨.inr rfl, _, rfl, by simp only [↓opStep_eq, ↓reduceIte, tg_set, toTm_cons, toTm_nil, fieldPtr_ptr, Nat.add_zero, Nat.zero_add, Nat.reduceAdd, Nat.reduceEqDiff, Int.reduceEq, Int.reduceLT, Int.reduceLE, Int.reduceNe, ↓kO_some, ↓kA_some, ↓kH_some, kO_some, kA_some, kH_some, gd_true, gd_false, nthD_zero, nthD_succ, isB_true, isB_false, isB_undef, pickV_true, pickV_false, binV_add, binV_sub, binV_mul, binV_eql, binV_neq, binV_lss, binV_leq, binV_gtr, binV_geq, unV_not, nt, nf, Bool.false_eq_true, dt, df, decide_true, decide_false, withV_some, aggO_some, ptrTo_eq, ↓aO_some, aO_some, ↓andB_true, andB_true, gz, gs, seqC, retC, skipC, exitC, blockC, condC, cells_agg, resOf], kr⟩)
end Go.Proofs.YtbdmhdidehfmoaaDoor
