import Derived.Test.YtpaolklbogakgaaPkK
set_option linter.unusedSimpArgs false
set_option linter.unusedVariables false
namespace Go.Proofs.Ytpaolklbogakgaa
open Go.Ev

theorem binV_shr2 (t : TypeId) (c : Bool) (k k' : IntKind) (x y : Int) (h : 0 ≤ y) : binV Try.prog .shr t c (.int k x) (.int k' y) = some (.int k (x.fdiv (2 ^ (min y.toNat k.bits)))) := by
  have h' : ¬ y < 0 := by omega
  have e : pureRun Try.prog (binOp .shr t (.int k x) (.int k' y)) = some (.int k (x.fdiv (2 ^ (min y.toNat k.bits)))) := by
    simp [pureRun, binOp, Op.shift, h']
  unfold binV
  simp only [binInt]
  cases kEq k k'
  · exact e
  · simp only [orRun, intOp]; exact e

def len4 (n : Nat) : List UInt8 := [UInt8.ofNat (n / 16777216), UInt8.ofNat (n / 65536), UInt8.ofNat (n / 256), UInt8.ofNat n]
def pack (f k : UInt8) (l : List UInt8) : List UInt8 := [f, k] ++ len4 l.length ++ l

theorem lit6 (b : Nat) (x1 x2 x3 x4 x5 x6 : UInt8) : mkLit 6 b (fill (repl [(.int .u8 (0))] 6) (pl 1) [(0, bv x1), (1, bv x2), (2, bv x3), (3, bv x4), (4, bv x5), (5, bv x6)]) = some (.rw ([x1, x2, x3, x4, x5, x6].map bv), .slice (some ⟨b, 0, none⟩) 6 6) := rfl

theorem fdiv_nat (n : Nat) (k : Nat) : (n : Int).fdiv (2 ^ k) = ((n / 2 ^ k : Nat) : Int) := by
  rw [Int.fdiv_eq_ediv_of_nonneg _ (by exact Int.le_of_lt (Int.pow_pos (by decide)))]
  simp
theorem tdiv_nat (n d : Nat) : (n : Int).tdiv (d : Int) = ((n / d : Nat) : Int) := by
  rw [Int.tdiv_eq_ediv_of_nonneg (by omega)]; rfl

theorem bin_packet (L n : Nat) (f k : UInt8) (v : Value) (l : List UInt8) (h : H) (hr : Reads h v l) (hl : l.length < 1000000) :
    Sp (CF L (n + 1)) 31 [bv f, bv k, v] h fun r h' => Mine h' r (pack f k l) ∧ Keep nobody h h' ∧ ∀ b, blk r b → h.next ≤ b := by
  refine Sp.body f31 (by simp) fun K hK => ?_
  have hw : IntKind.u32.wrap (l.length : Int) = (l.length : Int) := by
    rw [wrap_eq] <;> simp [IntKind.min, IntKind.max, IntKind.bits, IntKind.signed] <;> omega
  have hw2 : IntKind.i64.wrap (l.length : Int) = (l.length : Int) := by
    rw [wrap_eq] <;> simp [IntKind.min, IntKind.max, IntKind.bits, IntKind.signed] <;> omega
  have s24 := binV_shr2 41 true .u32 .u64 (l.length : Int) 24 (by decide)
  have s16 := binV_shr2 41 true .u32 .u64 (l.length : Int) 16 (by decide)
  have s8 := binV_shr2 41 true .u32 .u64 (l.length : Int) 8 (by decide)
  have e24 : min (24 : Int).toNat IntKind.u32.bits = 24 := by decide
  have e16 : min (16 : Int).toNat IntKind.u32.bits = 16 := by decide
  have e8 : min (8 : Int).toNat IntKind.u32.bits = 8 := by decide
  rw [e24, fdiv_nat] at s24
  rw [e16, fdiv_nat] at s16
  rw [e8, fdiv_nat] at s8
  have k1 := Keep.new h (.rw ([f, k, UInt8.ofNat (l.length / 2 ^ 24), UInt8.ofNat (l.length / 2 ^ 16), UInt8.ofNat (l.length / 2 ^ 8), UInt8.ofNat l.length].map bv))
  have m1 : Mine _ _ _ := Mine.rw _ [f, k, UInt8.ofNat (l.length / 2 ^ 24), UInt8.ofNat (l.length / 2 ^ 16), UInt8.ofNat (l.length / 2 ^ 8), UInt8.ofNat l.length] (Has.new h (.rw ([f, k, UInt8.ofNat (l.length / 2 ^ 24), UInt8.ofNat (l.length / 2 ^ 16), UInt8.ofNat (l.length / 2 ^ 8), UInt8.ofNat l.length].map bv)))
  obtain ⟨v', h2, e1, e2, e3, e4⟩ := append_own m1 (hr.keep0 k1).src (by simp; omega)
  simp only [List.length_cons, List.length_nil, Nat.zero_add, Nat.reduceAdd] at e1
  have hto : toInt .u32 (.int .i64 (l.length : Int)) = some (.int .u32 (l.length : Int)) := by rw [toInt_int, hw]
  simp only [↓opStep_eq, ↓reduceIte, tg_set, toTm_cons, toTm_nil, fieldPtr_ptr, Nat.add_zero, Nat.zero_add, Nat.reduceAdd, Nat.reduceEqDiff, Int.reduceEq, Int.reduceLT, Int.reduceLE, Int.reduceNe, ↓kO_some, ↓kA_some, ↓kH_some, kO_some, kA_some, kH_some, gd_true, gd_false, nthD_zero, nthD_succ, isB_true, isB_false, isB_undef, pickV_true, pickV_false, binV_add, binV_sub, binV_mul, binV_eql, binV_neq, binV_lss, binV_leq, binV_gtr, binV_geq, unV_not, nt, nf, Bool.false_eq_true, dt, df, decide_true, decide_false, withV_some, aggO_some, ptrTo_eq, ↓aO_some, aO_some, ↓andB_true, andB_true, gz, gs, seqC, retC, skipC, exitC, blockC, condC, cells_agg, c31, r31_0, r31_1, r31_2, hr.len, hto, s24, s16, s8, toInt_u8, lit6, e1]
  refine hK _ _ _ ⟨.inr rfl, _, rfl, ?_, k1.trans e3 fun b h1 h2 => ?_, fun b hb => ?_⟩
  · simpa [resOf, pack, len4] using e2
  · simp at h2; omega
  · rcases e4 b (by simpa [resOf] using hb) with h | h
    · simp at h; omega
    · simp at h; omega

theorem bin_Packet (L n : Nat) (f k : UInt8) (v : Value) (l : List UInt8) (h : H) (hr : Reads h v l) (hl : l.length < 1000000) :
    Sp (CF L (n + 2)) 18 [bv f, bv k, v] h fun r h' => ∃ x, r = .tuple [x, .int .i64 (if 4096 < (l.length : Int) then 3 else 0)].toArray ∧ Mine h' x (if 4096 < (l.length : Int) then [] else pack f k l) ∧ Keep nobody h h' ∧ ∀ b, blk x b → h.next ≤ b := by
  refine Sp.body f18 (by simp) fun K hK => ?_
  by_cases h1 : 4096 < (l.length : Int)
  · simp only [↓opStep_eq, ↓reduceIte, tg_set, toTm_cons, toTm_nil, fieldPtr_ptr, Nat.add_zero, Nat.zero_add, Nat.reduceAdd, Nat.reduceEqDiff, Int.reduceEq, Int.reduceLT, Int.reduceLE, Int.reduceNe, ↓kO_some, ↓kA_some, ↓kH_some, kO_some, kA_some, kH_some, gd_true, gd_false, nthD_zero, nthD_succ, isB_true, isB_false, isB_undef, pickV_true, pickV_false, binV_add, binV_sub, binV_mul, binV_eql, binV_neq, binV_lss, binV_leq, binV_gtr, binV_geq, unV_not, nt, nf, Bool.false_eq_true, dt, df, decide_true, decide_false, withV_some, aggO_some, ptrTo_eq, ↓aO_some, aO_some, ↓andB_true, andB_true, gz, gs, seqC, retC, skipC, exitC, blockC, condC, cells_agg, c18, r18_0, r18_1, r18_2, hr.len, h1]
    exact hK _ _ _ ⟨.inr rfl, _, rfl, .slice none 0 0, by simp [resOf, h1], by simp only [h1, if_true]; exact .nil, .refl _ _, by simp⟩
  · simp only [↓opStep_eq, ↓reduceIte, tg_set, toTm_cons, toTm_nil, fieldPtr_ptr, Nat.add_zero, Nat.zero_add, Nat.reduceAdd, Nat.reduceEqDiff, Int.reduceEq, Int.reduceLT, Int.reduceLE, Int.reduceNe, ↓kO_some, ↓kA_some, ↓kH_some, kO_some, kA_some, kH_some, gd_true, gd_false, nthD_zero, nthD_succ, isB_true, isB_false, isB_undef, pickV_true, pickV_false, binV_add, binV_sub, binV_mul, binV_eql, binV_neq, binV_lss, binV_leq, binV_gtr, binV_geq, unV_not, nt, nf, Bool.false_eq_true, dt, df, decide_true, decide_false, withV_some, aggO_some, ptrTo_eq, ↓aO_some, aO_some, ↓andB_true, andB_true, gz, gs, seqC, retC, skipC, exitC, blockC, condC, cells_agg, c18, r18_0, r18_1, r18_3, hr.len, h1]
    refine bin_packet L n f k v l h hr hl _ fun x h2 hx => ?_
    obtain ⟨m1, k1, f1⟩ := hx
    exact hK _ _ _ ⟨.inr rfl, _, rfl, x, by simp [resOf, h1], by simpa [h1] using m1, k1, f1⟩

theorem ref_made (L n : Nat) (f k : UInt8) (v : Value) (l : List UInt8) (h : H) (hr : Reads h v l) (hl : l.length < 1000000) :
    Sp (CF L (n + 1)) 21 [bv f, bv k, v] h fun r h' => Mine h' r (pack f k l) ∧ Keep nobody h h' ∧ ∀ b, blk r b → h.next ≤ b := by
  refine Sp.body f21 (by simp) fun K hK => ?_
  have q1 := binV_quo (P := Try.prog) 3 true .i64 (l.length : Int) 16777216 (by decide)
  have q2 := binV_quo (P := Try.prog) 3 true .i64 (l.length : Int) 65536 (by decide)
  have q3 := binV_quo (P := Try.prog) 3 true .i64 (l.length : Int) 256 (by decide)
  have d1 : IntKind.i64.wrap ((l.length : Int).tdiv 16777216) = ((l.length / 16777216 : Nat) : Int) := by
    have := tdiv_nat l.length 16777216
    rw [show ((16777216 : Nat) : Int) = 16777216 from rfl] at this
    rw [this, wrap_eq] <;> simp [IntKind.min, IntKind.max, IntKind.bits, IntKind.signed] <;> omega
  have d2 : IntKind.i64.wrap ((l.length : Int).tdiv 65536) = ((l.length / 65536 : Nat) : Int) := by
    have := tdiv_nat l.length 65536
    rw [show ((65536 : Nat) : Int) = 65536 from rfl] at this
    rw [this, wrap_eq] <;> simp [IntKind.min, IntKind.max, IntKind.bits, IntKind.signed] <;> omega
  have d3 : IntKind.i64.wrap ((l.length : Int).tdiv 256) = ((l.length / 256 : Nat) : Int) := by
    have := tdiv_nat l.length 256
    rw [show ((256 : Nat) : Int) = 256 from rfl] at this
    rw [this, wrap_eq] <;> simp [IntKind.min, IntKind.max, IntKind.bits, IntKind.signed] <;> omega
  rw [d1] at q1
  rw [d2] at q2
  rw [d3] at q3
  have k1 := Keep.new h (.rw ([f, k, UInt8.ofNat (l.length / 16777216), UInt8.ofNat (l.length / 65536), UInt8.ofNat (l.length / 256), UInt8.ofNat l.length].map bv))
  have m1 : Mine _ _ _ := Mine.rw _ [f, k, UInt8.ofNat (l.length / 16777216), UInt8.ofNat (l.length / 65536), UInt8.ofNat (l.length / 256), UInt8.ofNat l.length] (Has.new h (.rw ([f, k, UInt8.ofNat (l.length / 16777216), UInt8.ofNat (l.length / 65536), UInt8.ofNat (l.length / 256), UInt8.ofNat l.length].map bv)))
  obtain ⟨v', h2, e1, e2, e3, e4⟩ := append_own m1 (hr.keep0 k1).src (by simp; omega)
  simp only [List.length_cons, List.length_nil, Nat.zero_add, Nat.reduceAdd] at e1
  simp only [↓opStep_eq, ↓reduceIte, tg_set, toTm_cons, toTm_nil, fieldPtr_ptr, Nat.add_zero, Nat.zero_add, Nat.reduceAdd, Nat.reduceEqDiff, Int.reduceEq, Int.reduceLT, Int.reduceLE, Int.reduceNe, ↓kO_some, ↓kA_some, ↓kH_some, kO_some, kA_some, kH_some, gd_true, gd_false, nthD_zero, nthD_succ, isB_true, isB_false, isB_undef, pickV_true, pickV_false, binV_add, binV_sub, binV_mul, binV_eql, binV_neq, binV_lss, binV_leq, binV_gtr, binV_geq, unV_not, nt, nf, Bool.false_eq_true, dt, df, decide_true, decide_false, withV_some, aggO_some, ptrTo_eq, ↓aO_some, aO_some, ↓andB_true, andB_true, gz, gs, seqC, retC, skipC, exitC, blockC, condC, cells_agg, c21, r21_0, r21_1, r21_2, r21_3, hr.len]
  simp only [↓opStep_eq, ↓reduceIte, tg_set, toTm_cons, toTm_nil, fieldPtr_ptr, Nat.add_zero, Nat.zero_add, Nat.reduceAdd, Nat.reduceEqDiff, Int.reduceEq, Int.reduceLT, Int.reduceLE, Int.reduceNe, ↓kO_some, ↓kA_some, ↓kH_some, kO_some, kA_some, kH_some, gd_true, gd_false, nthD_zero, nthD_succ, isB_true, isB_false, isB_undef, pickV_true, pickV_false, binV_add, binV_sub, binV_mul, binV_eql, binV_neq, binV_lss, binV_leq, binV_gtr, binV_geq, unV_not, nt, nf, Bool.false_eq_true, dt, df, decide_true, decide_false, withV_some, aggO_some, ptrTo_eq, ↓aO_some, aO_some, ↓andB_true, andB_true, gz, gs, seqC, retC, skipC, exitC, blockC, condC, cells_agg, q1, q2, q3, toInt_u8, lit6, e1]
  refine hK _ _ _ ⟨.inr rfl, _, rfl, ?_, k1.trans e3 fun b h1 h2 => ?_, fun b hb => ?_⟩
  · simpa [resOf, pack, len4] using e2
  · simp at h2; omega
  · rcases e4 b (by simpa [resOf] using hb) with h | h
    · simp at h; omega
    · simp at h; omega
end Go.Proofs.Ytpaolklbogakgaa
