import Derived.Test.YtbdmhdidehfmoaaDoorTsA
set_option linter.unusedSimpArgs false
set_option linter.unusedVariables false
namespace Go.Proofs.YtbdmhdidehfmoaaDoor
open Go.Ev

section
variable {P : Program}
theorem binV_shl2 (t : TypeId) (c : Bool) (k k' : IntKind) (x y : Int) (h : 0 ≤ y) : binV P .shl t c (.int k x) (.int k' y) = some (.int k (k.wrap (x * 2 ^ (min y.toNat k.bits)))) := by
  have h' : ¬ y < 0 := by omega
  simp [binV, binInt, orRun, intOp, pureRun, binOp, Op.shift, h']
  cases kEq k k' <;> rfl
theorem binV_shr2 (t : TypeId) (c : Bool) (k k' : IntKind) (x y : Int) (h : 0 ≤ y) : binV P .shr t c (.int k x) (.int k' y) = some (.int k (x.fdiv (2 ^ (min y.toNat k.bits)))) := by
  have h' : ¬ y < 0 := by omega
  simp [binV, binInt, orRun, intOp, pureRun, binOp, Op.shift, h']
  cases kEq k k' <;> rfl
end

/-! ### bits.Len -/
def tabS : ByteArray := strB [0, 1, 2, 2, 3, 3, 3, 3, 4, 4, 4, 4, 4, 4, 4, 4, 5, 5, 5, 5, 5, 5, 5, 5, 5, 5, 5, 5, 5, 5, 5, 5, 6, 6, 6, 6, 6, 6, 6, 6, 6, 6, 6, 6, 6, 6, 6, 6, 6, 6, 6, 6, 6, 6, 6, 6, 6, 6, 6, 6, 6, 6, 6, 6, 7, 7, 7, 7, 7, 7, 7, 7, 7, 7, 7, 7, 7, 7, 7, 7, 7, 7, 7, 7, 7, 7, 7, 7, 7, 7, 7, 7, 7, 7, 7, 7, 7, 7, 7, 7, 7, 7, 7, 7, 7, 7, 7, 7, 7, 7, 7, 7, 7, 7, 7, 7, 7, 7, 7, 7, 7, 7, 7, 7, 7, 7, 7, 7, 8, 8, 8, 8, 8, 8, 8, 8, 8, 8, 8, 8, 8, 8, 8, 8, 8, 8, 8, 8, 8, 8, 8, 8, 8, 8, 8, 8, 8, 8, 8, 8, 8, 8, 8, 8, 8, 8, 8, 8, 8, 8, 8, 8, 8, 8, 8, 8, 8, 8, 8, 8, 8, 8, 8, 8, 8, 8, 8, 8, 8, 8, 8, 8, 8, 8, 8, 8, 8, 8, 8, 8, 8, 8, 8, 8, 8, 8, 8, 8, 8, 8, 8, 8, 8, 8, 8, 8, 8, 8, 8, 8, 8, 8, 8, 8, 8, 8, 8, 8, 8, 8, 8, 8, 8, 8, 8, 8, 8, 8, 8, 8, 8, 8, 8, 8, 8, 8, 8, 8, 8, 8, 8, 8, 8, 8, 8, 8]
noncomputable def r55x (s : ByteArray) : CodeT := fun call _ tm ds h K =>
  kO (toInt .u8 (tg tm 0)) ds h (fun v2 ds h =>
  kO (indexStr (.string s) v2) ds h (fun v3 ds h =>
  kO (toInt .i64 v3) ds h (fun v4 ds h =>
  kO (binV Tryd.prog .add 3 false (tg tm 2) v4) ds h (fun v5 ds h =>
  K .norm (T.set tm 2 v5) ds h))))
theorem r55_10_eq : r55_10 = r55x tabS := by kernel_rfl
def chkLen (y : Nat) : Bool := match indexStr (.string tabS) (.int .u8 (Int.ofNat y)) with
  | some (.int .u8 (.ofNat t)) => Nat.ble t 8 && (Nat.beq y 0 || Nat.ble (2 ^ t) (2 * y))
  | _ => false
theorem chkLen_all : (List.range 256).all chkLen = true := by kernel_rfl
theorem tab_at {y : Nat} (h : y < 256) : ∃ t : Nat, indexStr (.string tabS) (.int .u8 (y : Int)) = some (.int .u8 (t : Int)) ∧ t ≤ 8 ∧ (0 < y → 2 ^ t ≤ 2 * y) := by
  have h1 := List.all_eq_true.1 chkLen_all y (List.mem_range.2 h)
  unfold chkLen at h1
  split at h1
  · rename_i t ht
    simp only [Bool.and_eq_true, Bool.or_eq_true] at h1
    refine ⟨t, ht, Nat.le_of_ble_eq_true h1.1, fun hy => ?_⟩
    rcases h1.2 with e | e
    · have := Nat.eq_of_beq_eq_true e; omega
    · exact Nat.le_of_ble_eq_true e
  · cases h1

theorem len64_law (L n x : Nat) (hx2 : x < 65536) (h : H) : Sp (CF L (n + 1)) 55 [.int .u64 (x : Int)] h fun r h' => ∃ t : Nat, r = .int .i64 (t : Int) ∧ t ≤ 16 ∧ (0 < x → 2 ^ t ≤ 2 * x) ∧ Keep nobody h h' := by
  refine Sp.body f55 (by simp) ?_
  unfold c55
  have g1 : ¬ (4294967296 : Int) ≤ (x : Int) := by omega
  have g2 : ¬ (65536 : Int) ≤ (x : Int) := by omega
  have wu : ∀ y : Nat, y < 256 → toInt .u8 (.int .u64 (y : Int)) = some (.int .u8 (y : Int)) := fun y hy => by
    rw [toInt_int, wrapu8, Nat.mod_eq_of_lt hy]
  have wt : ∀ t : Nat, t ≤ 8 → toInt .i64 (.int .u8 (t : Int)) = some (.int .i64 (t : Int)) := fun t ht => by
    rw [toInt_int, wrap_i64 _ (by omega)]
  refine C.seq fun K hK => hK .norm _ _ (C.seq (C.seq fun K hK => ?_))
  simp only [↓opStep_eq, ↓reduceIte, ↓EW, EV, Nat.reduceAdd, Nat.reduceEqDiff, Int.reduceEq, Int.reduceLT, Int.reduceLE, Int.reduceNe, seqC, retC, skipC, exitC, blockC, condC, r55_1, g1]
  refine hK _ _ _ (C.cond false (by simp only [↓opStep_eq, ↓reduceIte, ↓EW, EV, Nat.reduceAdd, Nat.reduceEqDiff, Int.reduceEq, Int.reduceLT, Int.reduceLE, Int.reduceNe, seqC, retC, skipC, exitC, blockC, condC]) (fun g => by cases g) fun g => C.skip (C.seq (C.seq fun K hK => ?_)))
  simp only [↓opStep_eq, ↓reduceIte, ↓EW, EV, Nat.reduceAdd, Nat.reduceEqDiff, Int.reduceEq, Int.reduceLT, Int.reduceLE, Int.reduceNe, seqC, retC, skipC, exitC, blockC, condC, r55_4, g2]
  refine hK _ _ _ (C.cond false (by simp only [↓opStep_eq, ↓reduceIte, ↓EW, EV, Nat.reduceAdd, Nat.reduceEqDiff, Int.reduceEq, Int.reduceLT, Int.reduceLE, Int.reduceNe, seqC, retC, skipC, exitC, blockC, condC]) (fun g => by cases g) fun g => C.skip (C.seq (C.seq fun K hK => ?_)))
  simp only [↓opStep_eq, ↓reduceIte, ↓EW, EV, Nat.reduceAdd, Nat.reduceEqDiff, Int.reduceEq, Int.reduceLT, Int.reduceLE, Int.reduceNe, seqC, retC, skipC, exitC, blockC, condC, r55_7]
  refine hK _ _ _ (C.cond (decide ((256 : Int) ≤ (x : Int))) (by simp only [↓opStep_eq, ↓reduceIte, ↓EW, EV, Nat.reduceAdd, Nat.reduceEqDiff, Int.reduceEq, Int.reduceLT, Int.reduceLE, Int.reduceNe, seqC, retC, skipC, exitC, blockC, condC]) (fun g => ?_) fun g => C.skip ?_)
  · have g : 256 ≤ x := by have := of_decide_eq_true g; omega
    have hq : (x : Int).fdiv (2 ^ (min (8 : Int).toNat IntKind.u64.bits)) = ((x / 256 : Nat) : Int) := by
      have e : (2 : Int) ^ (min (8 : Int).toNat IntKind.u64.bits) = 256 := by decide
      rw [e, Int.fdiv_eq_ediv_of_nonneg _ (by omega)]; rfl
    have hs := binV_shr2 (P := Tryd.prog) 98 true .u64 .u64 (x : Int) 8 (by decide)
    rw [hq] at hs
    obtain ⟨t, e1, e2, e3⟩ := tab_at (y := x / 256) (by omega)
    refine C.seq fun K hK => ?_
    simp only [↓opStep_eq, ↓reduceIte, ↓EW, EV, Nat.reduceAdd, Nat.reduceEqDiff, Int.reduceEq, Int.reduceLT, Int.reduceLE, Int.reduceNe, seqC, retC, skipC, exitC, blockC, condC, r55_8, hs]
    refine hK _ _ _ fun K hK => ?_
    have w8 : IntKind.i64.wrap (0 + 8) = 8 := by decide
    simp only [↓opStep_eq, ↓reduceIte, ↓EW, EV, Nat.reduceAdd, Nat.reduceEqDiff, Int.reduceEq, Int.reduceLT, Int.reduceLE, Int.reduceNe, seqC, retC, skipC, exitC, blockC, condC, r55_9, w8]
    refine hK _ _ _ (C.seq fun K hK => ?_)
    have w := wadd 8 t (by omega)
    have c8 : ((8 : Nat) : Int) = 8 := rfl
    rw [c8] at w
    have e1' : indexStr (.string tabS) (.int .u8 ((x / 256 : Nat) : Int)) = some (.int .u8 (t : Int)) := e1
    rw [show ∀ x : CodeT, (⟨x⟩ : Box CodeT).f = x from fun _ => rfl, r55_10_eq]
    simp only [↓opStep_eq, ↓reduceIte, ↓EW, EV, Nat.reduceAdd, Nat.reduceEqDiff, Int.reduceEq, Int.reduceLT, Int.reduceLE, Int.reduceNe, seqC, retC, skipC, exitC, blockC, condC, r55x, wu _ (show x / 256 < 256 by omega), e1', wt t e2, w]
    refine hK _ _ _ (C.ret ⟨.inr rfl, _, rfl, 8 + t, by simp only [↓opStep_eq, ↓reduceIte, ↓EW, EV, Nat.reduceAdd, Nat.reduceEqDiff, Int.reduceEq, Int.reduceLT, Int.reduceLE, Int.reduceNe, seqC, retC, skipC, exitC, blockC, condC, resOf], by omega, fun _ => ?_, .refl _ _⟩)
    have := e3 (by omega)
    rw [Nat.pow_add]
    omega
  · have g : x < 256 := by have := of_decide_eq_false g; omega
    obtain ⟨t, e1, e2, e3⟩ := tab_at g
    refine C.seq fun K hK => ?_
    have w := wadd 0 t (by omega)
    have c0 : ((0 : Nat) : Int) = 0 := rfl
    rw [c0, Nat.zero_add] at w
    rw [show ∀ x : CodeT, (⟨x⟩ : Box CodeT).f = x from fun _ => rfl, r55_10_eq]
    simp only [↓opStep_eq, ↓reduceIte, ↓EW, EV, Nat.reduceAdd, Nat.reduceEqDiff, Int.reduceEq, Int.reduceLT, Int.reduceLE, Int.reduceNe, seqC, retC, skipC, exitC, blockC, condC, r55x, wu x g, e1, wt t e2, w]
    exact hK _ _ _ (C.ret ⟨.inr rfl, _, rfl, t, by simp only [↓opStep_eq, ↓reduceIte, ↓EW, EV, Nat.reduceAdd, Nat.reduceEqDiff, Int.reduceEq, Int.reduceLT, Int.reduceLE, Int.reduceNe, seqC, retC, skipC, exitC, blockC, condC, resOf], by omega, e3, .refl _ _⟩)

theorem len_bits (L n x : Nat) (hx2 : x < 65536) (h : H) : Sp (CF L (n + 2)) 40 [.int .u64 (x : Int)] h fun r h' => ∃ t : Nat, r = .int .i64 (t : Int) ∧ t ≤ 16 ∧ (0 < x → 2 ^ t ≤ 2 * x) ∧ Keep nobody h h' := by
  refine Sp.body f40 (by simp) ?_
  unfold c40
  refine C.seq fun K hK => hK .norm _ _ (C.seq (C.cond false rfl (fun g => by cases g) fun g => C.skip (C.seq fun K hK => ?_)))
  simp only [↓opStep_eq, ↓reduceIte, ↓EW, EV, Nat.reduceAdd, Nat.reduceEqDiff, Int.reduceEq, Int.reduceLT, Int.reduceLE, Int.reduceNe, seqC, retC, skipC, exitC, blockC, condC, r40_2]
  refine len64_law L n x hx2 h _ fun r h1 hq => ?_
  obtain ⟨t, rfl, e1, e2, k1⟩ := hq
  exact hK _ _ _ (C.ret ⟨.inr rfl, _, rfl, t, by simp only [↓opStep_eq, ↓reduceIte, ↓EW, EV, Nat.reduceAdd, Nat.reduceEqDiff, Int.reduceEq, Int.reduceLT, Int.reduceLE, Int.reduceNe, seqC, retC, skipC, exitC, blockC, condC, resOf], e1, e2, k1⟩)

theorem pow_law (L n x : Nat) (hx : 0 < x) (hx2 : x < 65536) (h : H) : Sp (CF L (n + 3)) 60 [.int .i64 (x : Int)] h fun r h' => ∃ p : Nat, r = .int .u64 (p : Int) ∧ 0 < p ∧ p ≤ 2 * x ∧ Keep nobody h h' := by
  refine Sp.body f60 (by simp) ?_
  unfold c60
  have ti : toInt .u64 (.int .i64 (x : Int)) = some (.int .u64 (x : Int)) := by
    rw [toInt_int, wrap_eq] <;> simp [IntKind.min, IntKind.max, IntKind.bits, IntKind.signed] <;> omega
  refine C.seq fun K hK => hK .norm _ _ (C.seq fun K hK => ?_)
  simp only [↓opStep_eq, ↓reduceIte, ↓EW, EV, Nat.reduceAdd, Nat.reduceEqDiff, Int.reduceEq, Int.reduceLT, Int.reduceLE, Int.reduceNe, seqC, retC, skipC, exitC, blockC, condC, r60_1, ti]
  refine len_bits L n x hx2 h _ fun r h1 hq => ?_
  obtain ⟨t, rfl, e1, e2, k1⟩ := hq
  have e2 := e2 hx
  have hs := binV_shl2 (P := Tryd.prog) 93 true .u64 .i64 1 (t : Int) (by omega)
  have ht : min ((t : Int)).toNat IntKind.u64.bits = t := by
    rw [Int.toNat_natCast]
    exact Nat.min_eq_left (by show t ≤ 64; omega)
  have hp : (1 : Int) * 2 ^ t = ((2 ^ t : Nat) : Int) := by rw [Int.one_mul]; exact (Int.natCast_pow 2 t).symm
  have hw : IntKind.u64.wrap ((2 ^ t : Nat) : Int) = ((2 ^ t : Nat) : Int) := by
    generalize 2 ^ t = z at *
    rw [wrap_eq] <;> simp [IntKind.min, IntKind.max, IntKind.bits, IntKind.signed] <;> omega
  rw [ht, hp, hw] at hs
  have hpos : 0 < 2 ^ t := Nat.pow_pos (by decide)
  simp only [↓opStep_eq, ↓reduceIte, ↓EW, EV, Nat.reduceAdd, Nat.reduceEqDiff, Int.reduceEq, Int.reduceLT, Int.reduceLE, Int.reduceNe, seqC, retC, skipC, exitC, blockC, condC, hs]
  exact hK _ _ _ (C.ret ⟨.inr rfl, _, rfl, 2 ^ t, by simp only [↓opStep_eq, ↓reduceIte, ↓EW, EV, Nat.reduceAdd, Nat.reduceEqDiff, Int.reduceEq, Int.reduceLT, Int.reduceLE, Int.reduceNe, seqC, retC, skipC, exitC, blockC, condC, resOf], hpos, e2, k1⟩)

/-! ### breakPatterns -/
theorem next_law (L n : Nat) (x : Int) {b : Nat} {h : H} (hb : Has h b (.rw [.int .u64 x])) : Sp (CF L (n + 1)) 61 [.pointer (some ⟨b, 0, none⟩)] h fun r h' => ∃ y : Int, r = .int .u64 y ∧ Has h' b (.rw [.int .u64 y]) ∧ Keep (· = b) h h' := by
  refine Sp.body f61 (by simp) ?_
  unfold c61
  have one : ∀ (hx : H) (x : Int), Has hx b (.rw [.int .u64 x]) → (∀ s, loadOne hx (.pointer (some ⟨b, 0, s⟩)) = some (.int .u64 x)) ∧ ∀ (y : Int) s, storeV 1 hx (.pointer (some ⟨b, 0, s⟩)) (.int .u64 y) = some (hx.put b (.rw [.int .u64 y])) := fun hx x hb => ⟨fun s => by rw [loadOne_has hb rfl]; rfl, fun y s => store_int hb (by simp)⟩
  have sl : ∀ (x y : Int), 0 ≤ y → binV Tryd.prog .shl 111 true (.int .u64 x) (.int .u64 y) = some (.int .u64 (IntKind.u64.wrap (x * 2 ^ (min y.toNat IntKind.u64.bits)))) := fun x y h => binV_shl2 _ _ _ _ _ _ h
  have sr : ∀ (x y : Int), 0 ≤ y → binV Tryd.prog .shr 111 true (.int .u64 x) (.int .u64 y) = some (.int .u64 (x.fdiv (2 ^ (min y.toNat IntKind.u64.bits)))) := fun x y h => binV_shr2 _ _ _ _ _ _ h
  refine C.seq fun K hK => hK .norm _ _ (C.seq fun K hK => ?_)
  have kr := keep_room h 10
  obtain ⟨l1, s1⟩ := one _ _ (hb.keep0 kr)
  simp only [↓opStep_eq, ↓reduceIte, ↓EW, EV, Nat.reduceAdd, Nat.reduceEqDiff, Int.reduceEq, Int.reduceLT, Int.reduceLE, Int.reduceNe, seqC, retC, skipC, exitC, blockC, condC, r61_1, nilChk_some, l1, sl x 13 (by decide), binV_xor, s1]
  have hb1 : Has ((⟨h.objs, h.next + 10⟩ : H).put b (.rw [.int .u64 (IntKind.u64.wrap ((BitVec.ofInt IntKind.u64.bits x ^^^ BitVec.ofInt IntKind.u64.bits (IntKind.u64.wrap (x * 2 ^ (min (13 : Int).toNat IntKind.u64.bits)))).toNat : Int))])) b _ := Has.put (hb.keep0 kr).1
  have k1 := kr.mono (S' := (· = b)) (fun _ _ h => h.elim) |>.trans (Keep.put _ b (.rw [.int .u64 (IntKind.u64.wrap ((BitVec.ofInt IntKind.u64.bits x ^^^ BitVec.ofInt IntKind.u64.bits (IntKind.u64.wrap (x * 2 ^ (min (13 : Int).toNat IntKind.u64.bits)))).toNat : Int))])) fun _ _ h => h
  generalize IntKind.u64.wrap ((BitVec.ofInt IntKind.u64.bits x ^^^ BitVec.ofInt IntKind.u64.bits (IntKind.u64.wrap (x * 2 ^ (min (13 : Int).toNat IntKind.u64.bits)))).toNat : Int) = x1 at *
  generalize (⟨h.objs, h.next + 10⟩ : H).put b (.rw [.int .u64 x1]) = h1 at *
  refine hK _ _ _ (C.seq fun K hK => ?_)
  have kr := keep_room h1 10
  obtain ⟨l1, s1⟩ := one _ _ (hb1.keep0 kr)
  simp only [↓opStep_eq, ↓reduceIte, ↓EW, EV, Nat.reduceAdd, Nat.reduceEqDiff, Int.reduceEq, Int.reduceLT, Int.reduceLE, Int.reduceNe, seqC, retC, skipC, exitC, blockC, condC, r61_2, nilChk_some, l1, sr x1 7 (by decide), binV_xor, s1]
  have hb2 : Has ((⟨h1.objs, h1.next + 10⟩ : H).put b (.rw [.int .u64 (IntKind.u64.wrap ((BitVec.ofInt IntKind.u64.bits x1 ^^^ BitVec.ofInt IntKind.u64.bits (x1.fdiv (2 ^ (min (7 : Int).toNat IntKind.u64.bits)))).toNat : Int))])) b _ := Has.put (hb1.keep0 kr).1
  have k2 := (k1.then kr).trans (Keep.put _ b (.rw [.int .u64 (IntKind.u64.wrap ((BitVec.ofInt IntKind.u64.bits x1 ^^^ BitVec.ofInt IntKind.u64.bits (x1.fdiv (2 ^ (min (7 : Int).toNat IntKind.u64.bits)))).toNat : Int))])) fun _ _ h => h
  generalize IntKind.u64.wrap ((BitVec.ofInt IntKind.u64.bits x1 ^^^ BitVec.ofInt IntKind.u64.bits (x1.fdiv (2 ^ (min (7 : Int).toNat IntKind.u64.bits)))).toNat : Int) = x2 at *
  generalize (⟨h1.objs, h1.next + 10⟩ : H).put b (.rw [.int .u64 x2]) = h2 at *
  refine hK _ _ _ (C.seq fun K hK => ?_)
  have kr := keep_room h2 10
  obtain ⟨l1, s1⟩ := one _ _ (hb2.keep0 kr)
  simp only [↓opStep_eq, ↓reduceIte, ↓EW, EV, Nat.reduceAdd, Nat.reduceEqDiff, Int.reduceEq, Int.reduceLT, Int.reduceLE, Int.reduceNe, seqC, retC, skipC, exitC, blockC, condC, r61_3, nilChk_some, l1, sl x2 17 (by decide), binV_xor, s1]
  have hb3 : Has ((⟨h2.objs, h2.next + 10⟩ : H).put b (.rw [.int .u64 (IntKind.u64.wrap ((BitVec.ofInt IntKind.u64.bits x2 ^^^ BitVec.ofInt IntKind.u64.bits (IntKind.u64.wrap (x2 * 2 ^ (min (17 : Int).toNat IntKind.u64.bits)))).toNat : Int))])) b _ := Has.put (hb2.keep0 kr).1
  have k3 := (k2.then kr).trans (Keep.put _ b (.rw [.int .u64 (IntKind.u64.wrap ((BitVec.ofInt IntKind.u64.bits x2 ^^^ BitVec.ofInt IntKind.u64.bits (IntKind.u64.wrap (x2 * 2 ^ (min (17 : Int).toNat IntKind.u64.bits)))).toNat : Int))])) fun _ _ h => h
  generalize IntKind.u64.wrap ((BitVec.ofInt IntKind.u64.bits x2 ^^^ BitVec.ofInt IntKind.u64.bits (IntKind.u64.wrap (x2 * 2 ^ (min (17 : Int).toNat IntKind.u64.bits)))).toNat : Int) = x3 at *
  generalize (⟨h2.objs, h2.next + 10⟩ : H).put b (.rw [.int .u64 x3]) = h3 at *
  refine hK _ _ _ (C.seq fun K hK => ?_)
  obtain ⟨l1, _⟩ := one _ _ hb3
  simp only [↓opStep_eq, ↓reduceIte, ↓EW, EV, Nat.reduceAdd, Nat.reduceEqDiff, Int.reduceEq, Int.reduceLT, Int.reduceLE, Int.reduceNe, seqC, retC, skipC, exitC, blockC, condC, r61_4, nilChk_some, l1]
  exact hK _ _ _ (C.ret ⟨.inr rfl, _, rfl, x3, by simp only [↓opStep_eq, ↓reduceIte, ↓EW, EV, Nat.reduceAdd, Nat.reduceEqDiff, Int.reduceEq, Int.reduceLT, Int.reduceLE, Int.reduceNe, seqC, retC, skipC, exitC, blockC, condC, resOf], hb3, k3⟩)
end Go.Proofs.YtbdmhdidehfmoaaDoor

namespace Go.Proofs.YtbdmhdidehfmoaaDoor
open Go.Ev

section
variable {L B : Nat} {cv : Value} {lt : Nm → Nm → Prop} {Ok : H → Prop}

theorem and_lt (y : Int) (p : Nat) (hp : 0 < p) (hp2 : p ≤ 131072) : ∃ o : Nat, o < p ∧ binV Tryd.prog .and 93 false (.int .u64 y) (.int .u64 ((p - 1 : Nat) : Int)) = some (.int .u64 (o : Int)) := by
  refine ⟨(BitVec.ofInt IntKind.u64.bits y &&& BitVec.ofInt IntKind.u64.bits ((p - 1 : Nat) : Int)).toNat, ?_, ?_⟩
  · have h1 : (BitVec.ofInt IntKind.u64.bits y &&& BitVec.ofInt IntKind.u64.bits ((p - 1 : Nat) : Int)).toNat ≤ (BitVec.ofInt IntKind.u64.bits ((p - 1 : Nat) : Int)).toNat := by
      rw [BitVec.toNat_and]; exact Nat.and_le_right
    have h2 : (BitVec.ofInt IntKind.u64.bits ((p - 1 : Nat) : Int)).toNat = p - 1 := by
      show (BitVec.ofInt 64 ((p - 1 : Nat) : Int)).toNat = p - 1
      rw [BitVec.toNat_ofInt]; omega
    omega
  · rw [binV_and]
    congr 2
    have h3 := (BitVec.ofInt IntKind.u64.bits y &&& BitVec.ofInt IntKind.u64.bits ((p - 1 : Nat) : Int)).isLt
    have h4 : (2 : Nat) ^ IntKind.u64.bits = 18446744073709551616 := by decide
    rw [h4] at h3
    generalize (BitVec.ofInt IntKind.u64.bits y &&& BitVec.ofInt IntKind.u64.bits ((p - 1 : Nat) : Int)).toNat = o at *
    rw [wrap_eq] <;> simp [IntKind.min, IntKind.max, IntKind.bits, IntKind.signed] <;> omega

theorem break_law (m : Nat) {a b N : Nat} {v : Value} {f : Nat → Nm} {h : H} (arr : Arr h B v N f) (hb : b ≤ N) (hN : N < 60000) (hL : N < L) (hab : a + 12 < b) :
    Sp (CF L (m + 4)) 48 [v, .int .i64 (a : Int), .int .i64 (b : Int), cv] h fun r h' => ∃ f', Arr h' B v N f' ∧ Sw a b f f' ∧ Keep (· = B) h h' := by
  refine Sp.body f48 (by simp) ?_
  unfold c48
  obtain ⟨l, hl⟩ : ∃ l, b = a + l := ⟨b - a, by omega⟩
  subst hl
  have hw : IntKind.i64.wrap (((a + l : Nat) : Int) - (a : Int)) = (l : Int) := by
    rw [show ((a + l : Nat) : Int) - (a : Int) = (l : Int) by omega, wrap_i64 _ (by omega)]
  refine C.seq fun K hK => ?_
  simp only [↓opStep_eq, ↓reduceIte, ↓EW, EV, Nat.reduceAdd, Nat.reduceEqDiff, Int.reduceEq, Int.reduceLT, Int.reduceLE, Int.reduceNe, seqC, retC, skipC, exitC, blockC, condC, r48_0, hw]
  refine hK _ _ _ (C.seq fun K hK => ?_)
  have g8 : (8 : Int) ≤ (l : Int) := by omega
  simp only [↓opStep_eq, ↓reduceIte, ↓EW, EV, Nat.reduceAdd, Nat.reduceEqDiff, Int.reduceEq, Int.reduceLT, Int.reduceLE, Int.reduceNe, seqC, retC, skipC, exitC, blockC, condC, r48_1, g8]
  refine hK _ _ _ (C.cond true (by simp only [↓opStep_eq, ↓reduceIte, ↓EW, EV, Nat.reduceAdd, Nat.reduceEqDiff, Int.reduceEq, Int.reduceLT, Int.reduceLE, Int.reduceNe, seqC, retC, skipC, exitC, blockC, condC]) (fun g => ?_) fun g => by cases g)
  have ti : toInt .u64 (.int .i64 (l : Int)) = some (.int .u64 (l : Int)) := by
    rw [toInt_int, wrap_eq] <;> simp [IntKind.min, IntKind.max, IntKind.bits, IntKind.signed] <;> omega
  refine C.seq fun K hK => ?_
  have sn : ∀ s, storeV 1 (h.new (.rw [.int .u64 0])) (.pointer (some ⟨h.next, 0, s⟩)) (.int .u64 (l : Int)) = some ((h.new (.rw [.int .u64 0])).put h.next (.rw [.int .u64 (l : Int)])) := fun s => store_int (Has.new h _) (by simp)
  simp only [↓opStep_eq, ↓reduceIte, ↓EW, EV, Nat.reduceAdd, Nat.reduceEqDiff, Int.reduceEq, Int.reduceLT, Int.reduceLE, Int.reduceNe, seqC, retC, skipC, exitC, blockC, condC, r48_2, ti, sn]
  have k1 := keep_alloc h (.rw [.int .u64 0]) (.rw [.int .u64 (l : Int)])
  have b1 := has_alloc h (.rw [.int .u64 0]) (.rw [.int .u64 (l : Int)])
  generalize (h.new (.rw [.int .u64 0])).put h.next (.rw [.int .u64 (l : Int)]) = h1 at *
  have hBn := arr.lt
  refine hK _ _ _ (C.seq fun K hK => ?_)
  simp only [↓opStep_eq, ↓reduceIte, ↓EW, EV, Nat.reduceAdd, Nat.reduceEqDiff, Int.reduceEq, Int.reduceLT, Int.reduceLE, Int.reduceNe, seqC, retC, skipC, exitC, blockC, condC, r48_3]
  refine pow_law L m l (by omega) (by omega) h1 _ fun r h2 hq => ?_
  obtain ⟨p, rfl, hp0, hp2, k2⟩ := hq
  have k12 := k1.then k2
  have b2 := b1.keep0 k2
  have q4 := quo_nat 3 true l 4 (by decide) (by omega)
  have c4 : ((4 : Nat) : Int) = 4 := rfl
  rw [c4] at q4
  have w2 : IntKind.i64.wrap (((l / 4 : Nat) : Int) * 2) = ((l / 4 * 2 : Nat) : Int) := by
    rw [show ((l / 4 : Nat) : Int) * 2 = ((l / 4 * 2 : Nat) : Int) by omega, wrap_i64 _ (by omega)]
  have w3 := wadd a (l / 4 * 2) (by omega)
  have w4 := wsub1 (a + l / 4 * 2) (by omega) (by omega)
  have w5 := wadd1 (a + l / 4 * 2) (by omega)
  refine hK _ _ _ (C.seq fun K hK => ?_)
  simp only [↓opStep_eq, ↓reduceIte, ↓EW, EV, Nat.reduceAdd, Nat.reduceEqDiff, Int.reduceEq, Int.reduceLT, Int.reduceLE, Int.reduceNe, seqC, retC, skipC, exitC, blockC, condC, r48_4, q4, w2, w3, w4]
  refine hK .norm _ _ ?_
  refine C.block (C.loop (fun k tm' hx => ∃ i f' x, k = a + l / 4 * 2 + 2 - i ∧ a + l / 4 * 2 - 1 ≤ i ∧ i ≤ a + l / 4 * 2 + 2 ∧ tg tm' 0 = v ∧ tg tm' 1 = .int .i64 (a : Int) ∧ tg tm' 8 = .int .i64 (l : Int) ∧ tg tm' 9 = .pointer (some ⟨h.next, 0, none⟩) ∧ tg tm' 10 = .int .u64 (p : Int) ∧ tg tm' 11 = .int .i64 (i : Int) ∧ Arr hx B v N f' ∧ Sw a (a + l) f f' ∧ Has hx h.next (.rw [.int .u64 x]) ∧ Keep (· = B) h hx) 3 (by omega)
    ⟨a + l / 4 * 2 - 1, f, (l : Int), by omega, by omega, by omega, by simp only [↓opStep_eq, ↓reduceIte, ↓EW, EV, Nat.reduceAdd, Nat.reduceEqDiff, Int.reduceEq, Int.reduceLT, Int.reduceLE, Int.reduceNe, seqC, retC, skipC, exitC, blockC, condC], by simp only [↓opStep_eq, ↓reduceIte, ↓EW, EV, Nat.reduceAdd, Nat.reduceEqDiff, Int.reduceEq, Int.reduceLT, Int.reduceLE, Int.reduceNe, seqC, retC, skipC, exitC, blockC, condC], by simp only [↓opStep_eq, ↓reduceIte, ↓EW, EV, Nat.reduceAdd, Nat.reduceEqDiff, Int.reduceEq, Int.reduceLT, Int.reduceLE, Int.reduceNe, seqC, retC, skipC, exitC, blockC, condC], by simp only [↓opStep_eq, ↓reduceIte, ↓EW, EV, Nat.reduceAdd, Nat.reduceEqDiff, Int.reduceEq, Int.reduceLT, Int.reduceLE, Int.reduceNe, seqC, retC, skipC, exitC, blockC, condC], by simp only [↓opStep_eq, ↓reduceIte, ↓EW, EV, Nat.reduceAdd, Nat.reduceEqDiff, Int.reduceEq, Int.reduceLT, Int.reduceLE, Int.reduceNe, seqC, retC, skipC, exitC, blockC, condC], by simp only [↓opStep_eq, ↓reduceIte, ↓EW, EV, Nat.reduceAdd, Nat.reduceEqDiff, Int.reduceEq, Int.reduceLT, Int.reduceLE, Int.reduceNe, seqC, retC, skipC, exitC, blockC, condC], arr.keep0 k12, .refl _, b2, k12.mono fun _ _ h => h.elim⟩ ?_)
  rintro k tm hx ⟨i, f1, x, rfl, hi, hi2, t0, t1, t8, t9, t10, t11, ar1, sw1, hs1, kx⟩
  unfold l48_11
  refine C.seq (C.seq fun K hK => ?_)
  simp only [↓opStep_eq, ↓reduceIte, ↓EW, EV, Nat.reduceAdd, Nat.reduceEqDiff, Int.reduceEq, Int.reduceLT, Int.reduceLE, Int.reduceNe, seqC, retC, skipC, exitC, blockC, condC, r48_5, t1, t8, t11, q4, w2, w3, w5]
  refine hK _ _ _ (C.cond (decide ((i : Int) ≤ ((a + l / 4 * 2 + 1 : Nat) : Int))) (by simp only [↓opStep_eq, ↓reduceIte, ↓EW, EV, Nat.reduceAdd, Nat.reduceEqDiff, Int.reduceEq, Int.reduceLT, Int.reduceLE, Int.reduceNe, seqC, retC, skipC, exitC, blockC, condC]) (fun g => C.skip ?_) fun g => C.exit ?_)
  · have g : i ≤ a + l / 4 * 2 + 1 := by have := of_decide_eq_true g; omega
    refine C.seq (C.block (C.seq fun K hK => ?_))
    simp only [↓opStep_eq, ↓reduceIte, ↓EW, EV, Nat.reduceAdd, Nat.reduceEqDiff, Int.reduceEq, Int.reduceLT, Int.reduceLE, Int.reduceNe, seqC, retC, skipC, exitC, blockC, condC, r48_7, t9]
    refine next_law L (m + 2) x hs1 _ fun r h3 hq => ?_
    obtain ⟨y, rfl, hs3, k3⟩ := hq
    have wp : IntKind.u64.wrap ((p : Int) - 1) = ((p - 1 : Nat) : Int) := by
      rw [show (p : Int) - 1 = ((p - 1 : Nat) : Int) by omega, wrap_eq] <;> simp [IntKind.min, IntKind.max, IntKind.bits, IntKind.signed] <;> omega
    obtain ⟨o, ho, ha⟩ := and_lt y p hp0 (by omega)
    have to : toInt .i64 (.int .u64 (o : Int)) = some (.int .i64 (o : Int)) := by rw [toInt_int, wrap_i64 _ (by omega)]
    simp only [↓opStep_eq, ↓reduceIte, ↓EW, EV, Nat.reduceAdd, Nat.reduceEqDiff, Int.reduceEq, Int.reduceLT, Int.reduceLE, Int.reduceNe, seqC, retC, skipC, exitC, blockC, condC, t10, wp, ha, to]
    have kx3 : Keep (· = B) h h3 := ⟨Nat.le_trans kx.next k3.next, fun c hc hn => (k3.same c (Nat.lt_of_lt_of_le hc kx.next) (by omega)).trans (kx.same c hc hn)⟩
    have ar3 := ar1.keep k3 (by omega)
    -- the other one
    have swap : ∀ (o : Nat) (tm2 : T Value) (Q : Ex → T Value → Ev.H → Prop), o < l → tg tm2 0 = v → tg tm2 1 = .int .i64 (a : Int) → tg tm2 11 = .int .i64 (i : Int) → tg tm2 12 = .int .i64 (o : Int) → (∀ h', Arr h' B v N (swF f1 i (a + o)) → Has h' h.next (.rw [.int .u64 y]) → Keep (· = B) h h' → Q .norm tm2 h') → C ⟨r48_10⟩ (CF L (m + 3)) L tm2 h3 Q := fun o tm2 Q ho u0 u1 u11 u12 hQ => by
      intro K hK
      have kr := keep_room h3 20
      have ar4 := ar3.keep0 kr
      have w6 := wadd a o (by omega)
      obtain ⟨h5, h6, s1, s2, ar6, k6⟩ := ar4.swap (p := a + o) (q := i) (by omega) (by omega)
      simp only [↓opStep_eq, ↓reduceIte, ↓EW, EV, Nat.reduceAdd, Nat.reduceEqDiff, Int.reduceEq, Int.reduceLT, Int.reduceLE, Int.reduceNe, seqC, retC, skipC, exitC, blockC, condC, r48_10, u0, u1, u11, u12, w6, ar4.ix (show a + o < N by omega), ar4.ix (show i < N by omega), ar4.ld (show a + o < N by omega), ar4.ld (show i < N by omega), s1, s2]
      exact hK _ _ _ (hQ _ ar6 ((hs3.keep0 kr).keep k6 (by omega)) ((kx3.then kr).trans k6 fun _ _ h => h))
    refine hK _ _ _ (C.seq (C.seq fun K hK => ?_))
    simp only [↓opStep_eq, ↓reduceIte, ↓EW, EV, Nat.reduceAdd, Nat.reduceEqDiff, Int.reduceEq, Int.reduceLT, Int.reduceLE, Int.reduceNe, seqC, retC, skipC, exitC, blockC, condC, r48_8, t8]
    have done : ∀ (o : Nat) (tm2 : T Value) (h' : H) (Q : Ex → T Value → Ev.H → Prop), o < l → tg tm2 0 = v → tg tm2 1 = .int .i64 (a : Int) → tg tm2 8 = .int .i64 (l : Int) → tg tm2 9 = .pointer (some ⟨h.next, 0, none⟩) → tg tm2 10 = .int .u64 (p : Int) → tg tm2 11 = .int .i64 (i : Int) → Arr h' B v N (swF f1 i (a + o)) → Has h' h.next (.rw [.int .u64 y]) → Keep (· = B) h h' → (∀ tm', (∃ k', k' < a + l / 4 * 2 + 2 - i ∧ ∃ i f' x, k' = a + l / 4 * 2 + 2 - i ∧ a + l / 4 * 2 - 1 ≤ i ∧ i ≤ a + l / 4 * 2 + 2 ∧ tg tm' 0 = v ∧ tg tm' 1 = .int .i64 (a : Int) ∧ tg tm' 8 = .int .i64 (l : Int) ∧ tg tm' 9 = .pointer (some ⟨h.next, 0, none⟩) ∧ tg tm' 10 = .int .u64 (p : Int) ∧ tg tm' 11 = .int .i64 (i : Int) ∧ Arr h' B v N f' ∧ Sw a (a + l) f f' ∧ Has h' h.next (.rw [.int .u64 x]) ∧ Keep (· = B) h h') → Q .norm tm' h') → C ⟨r48_6⟩ (CF L (m + 3)) L tm2 h' Q := fun o tm2 h' Q ho u0 u1 u8 u9 u10 u11 A S Kp hQ => by
      intro K hK
      have w7 := wadd1 i (by omega)
      simp only [↓opStep_eq, ↓reduceIte, ↓EW, EV, Nat.reduceAdd, Nat.reduceEqDiff, Int.reduceEq, Int.reduceLT, Int.reduceLE, Int.reduceNe, seqC, retC, skipC, exitC, blockC, condC, r48_6, u11, w7]
      exact hK _ _ _ (hQ _ ⟨a + l / 4 * 2 + 2 - (i + 1), by omega, i + 1, _, y, rfl, by omega, by omega, by simp only [↓opStep_eq, ↓reduceIte, ↓EW, EV, Nat.reduceAdd, Nat.reduceEqDiff, Int.reduceEq, Int.reduceLT, Int.reduceLE, Int.reduceNe, seqC, retC, skipC, exitC, blockC, condC, u0], by simp only [↓opStep_eq, ↓reduceIte, ↓EW, EV, Nat.reduceAdd, Nat.reduceEqDiff, Int.reduceEq, Int.reduceLT, Int.reduceLE, Int.reduceNe, seqC, retC, skipC, exitC, blockC, condC, u1], by simp only [↓opStep_eq, ↓reduceIte, ↓EW, EV, Nat.reduceAdd, Nat.reduceEqDiff, Int.reduceEq, Int.reduceLT, Int.reduceLE, Int.reduceNe, seqC, retC, skipC, exitC, blockC, condC, u8], by simp only [↓opStep_eq, ↓reduceIte, ↓EW, EV, Nat.reduceAdd, Nat.reduceEqDiff, Int.reduceEq, Int.reduceLT, Int.reduceLE, Int.reduceNe, seqC, retC, skipC, exitC, blockC, condC, u9], by simp only [↓opStep_eq, ↓reduceIte, ↓EW, EV, Nat.reduceAdd, Nat.reduceEqDiff, Int.reduceEq, Int.reduceLT, Int.reduceLE, Int.reduceNe, seqC, retC, skipC, exitC, blockC, condC, u10], by simp only [↓opStep_eq, ↓reduceIte, ↓EW, EV, Nat.reduceAdd, Nat.reduceEqDiff, Int.reduceEq, Int.reduceLT, Int.reduceLE, Int.reduceNe, seqC, retC, skipC, exitC, blockC, condC], A, .step i (a + o) sw1 (by omega) (by omega) (by omega) (by omega), S, Kp⟩)
    refine hK _ _ _ (C.cond (decide ((l : Int) ≤ (o : Int))) (by simp only [↓opStep_eq, ↓reduceIte, ↓EW, EV, Nat.reduceAdd, Nat.reduceEqDiff, Int.reduceEq, Int.reduceLT, Int.reduceLE, Int.reduceNe, seqC, retC, skipC, exitC, blockC, condC]) (fun g2 => fun K hK => ?_) fun g2 => C.skip ?_)
    · have g2 : l ≤ o := by have := of_decide_eq_true g2; omega
      have w8 := wsub o l g2 (by omega)
      simp only [↓opStep_eq, ↓reduceIte, ↓EW, EV, Nat.reduceAdd, Nat.reduceEqDiff, Int.reduceEq, Int.reduceLT, Int.reduceLE, Int.reduceNe, seqC, retC, skipC, exitC, blockC, condC, r48_9, t8, w8]
      refine hK _ _ _ (swap (o - l) _ _ (by omega) ?_ ?_ ?_ ?_ fun h' A S Kp => done (o - l) _ h' _ (by omega) ?_ ?_ ?_ ?_ ?_ ?_ A S Kp fun tm' hh => hh)
      · simp only [↓opStep_eq, ↓reduceIte, ↓EW, EV, Nat.reduceAdd, Nat.reduceEqDiff, Int.reduceEq, Int.reduceLT, Int.reduceLE, Int.reduceNe, seqC, retC, skipC, exitC, blockC, condC, t0]
      · simp only [↓opStep_eq, ↓reduceIte, ↓EW, EV, Nat.reduceAdd, Nat.reduceEqDiff, Int.reduceEq, Int.reduceLT, Int.reduceLE, Int.reduceNe, seqC, retC, skipC, exitC, blockC, condC, t1]
      · simp only [↓opStep_eq, ↓reduceIte, ↓EW, EV, Nat.reduceAdd, Nat.reduceEqDiff, Int.reduceEq, Int.reduceLT, Int.reduceLE, Int.reduceNe, seqC, retC, skipC, exitC, blockC, condC, t11]
      · simp only [↓opStep_eq, ↓reduceIte, ↓EW, EV, Nat.reduceAdd, Nat.reduceEqDiff, Int.reduceEq, Int.reduceLT, Int.reduceLE, Int.reduceNe, seqC, retC, skipC, exitC, blockC, condC]
      · simp only [↓opStep_eq, ↓reduceIte, ↓EW, EV, Nat.reduceAdd, Nat.reduceEqDiff, Int.reduceEq, Int.reduceLT, Int.reduceLE, Int.reduceNe, seqC, retC, skipC, exitC, blockC, condC, t0]
      · simp only [↓opStep_eq, ↓reduceIte, ↓EW, EV, Nat.reduceAdd, Nat.reduceEqDiff, Int.reduceEq, Int.reduceLT, Int.reduceLE, Int.reduceNe, seqC, retC, skipC, exitC, blockC, condC, t1]
      · simp only [↓opStep_eq, ↓reduceIte, ↓EW, EV, Nat.reduceAdd, Nat.reduceEqDiff, Int.reduceEq, Int.reduceLT, Int.reduceLE, Int.reduceNe, seqC, retC, skipC, exitC, blockC, condC, t8]
      · simp only [↓opStep_eq, ↓reduceIte, ↓EW, EV, Nat.reduceAdd, Nat.reduceEqDiff, Int.reduceEq, Int.reduceLT, Int.reduceLE, Int.reduceNe, seqC, retC, skipC, exitC, blockC, condC, t9]
      · simp only [↓opStep_eq, ↓reduceIte, ↓EW, EV, Nat.reduceAdd, Nat.reduceEqDiff, Int.reduceEq, Int.reduceLT, Int.reduceLE, Int.reduceNe, seqC, retC, skipC, exitC, blockC, condC, t10]
      · simp only [↓opStep_eq, ↓reduceIte, ↓EW, EV, Nat.reduceAdd, Nat.reduceEqDiff, Int.reduceEq, Int.reduceLT, Int.reduceLE, Int.reduceNe, seqC, retC, skipC, exitC, blockC, condC, t11]
    · have g2 : o < l := by have := of_decide_eq_false g2; omega
      refine swap o _ _ g2 ?_ ?_ ?_ ?_ fun h' A S Kp => done o _ h' _ g2 ?_ ?_ ?_ ?_ ?_ ?_ A S Kp fun tm' hh => hh
      · simp only [↓opStep_eq, ↓reduceIte, ↓EW, EV, Nat.reduceAdd, Nat.reduceEqDiff, Int.reduceEq, Int.reduceLT, Int.reduceLE, Int.reduceNe, seqC, retC, skipC, exitC, blockC, condC, t0]
      · simp only [↓opStep_eq, ↓reduceIte, ↓EW, EV, Nat.reduceAdd, Nat.reduceEqDiff, Int.reduceEq, Int.reduceLT, Int.reduceLE, Int.reduceNe, seqC, retC, skipC, exitC, blockC, condC, t1]
      · simp only [↓opStep_eq, ↓reduceIte, ↓EW, EV, Nat.reduceAdd, Nat.reduceEqDiff, Int.reduceEq, Int.reduceLT, Int.reduceLE, Int.reduceNe, seqC, retC, skipC, exitC, blockC, condC, t11]
      · simp only [↓opStep_eq, ↓reduceIte, ↓EW, EV, Nat.reduceAdd, Nat.reduceEqDiff, Int.reduceEq, Int.reduceLT, Int.reduceLE, Int.reduceNe, seqC, retC, skipC, exitC, blockC, condC]
      · simp only [↓opStep_eq, ↓reduceIte, ↓EW, EV, Nat.reduceAdd, Nat.reduceEqDiff, Int.reduceEq, Int.reduceLT, Int.reduceLE, Int.reduceNe, seqC, retC, skipC, exitC, blockC, condC, t0]
      · simp only [↓opStep_eq, ↓reduceIte, ↓EW, EV, Nat.reduceAdd, Nat.reduceEqDiff, Int.reduceEq, Int.reduceLT, Int.reduceLE, Int.reduceNe, seqC, retC, skipC, exitC, blockC, condC, t1]
      · simp only [↓opStep_eq, ↓reduceIte, ↓EW, EV, Nat.reduceAdd, Nat.reduceEqDiff, Int.reduceEq, Int.reduceLT, Int.reduceLE, Int.reduceNe, seqC, retC, skipC, exitC, blockC, condC, t8]
      · simp only [↓opStep_eq, ↓reduceIte, ↓EW, EV, Nat.reduceAdd, Nat.reduceEqDiff, Int.reduceEq, Int.reduceLT, Int.reduceLE, Int.reduceNe, seqC, retC, skipC, exitC, blockC, condC, t9]
      · simp only [↓opStep_eq, ↓reduceIte, ↓EW, EV, Nat.reduceAdd, Nat.reduceEqDiff, Int.reduceEq, Int.reduceLT, Int.reduceLE, Int.reduceNe, seqC, retC, skipC, exitC, blockC, condC, t10]
      · simp only [↓opStep_eq, ↓reduceIte, ↓EW, EV, Nat.reduceAdd, Nat.reduceEqDiff, Int.reduceEq, Int.reduceLT, Int.reduceLE, Int.reduceNe, seqC, retC, skipC, exitC, blockC, condC, t11]
  · simp only [if_pos]
    exact ⟨(by first | exact .inl rfl | exact .inl trivial), _, rfl, f1, ar1, sw1, kx⟩
end
end Go.Proofs.YtbdmhdidehfmoaaDoor

namespace Go.Proofs.YtbdmhdidehfmoaaDoor
open Go.Ev

section
variable {L B : Nat} {cv : Value} {lt : Nm → Nm → Prop} {Ok : H → Prop}

/-! ### choosePivot: it reads, and counts in one cell -/
theorem order_law (cm : Cm L B cv lt Ok) {m i j N cb : Nat} {c : Int} {v : Value} {f : Nat → Nm} {h : H} (ok : Ok h) (hok : ∀ hx, Ok h → Keep (· = cb) h hx → Ok hx) (arr : Arr h B v N f) (hi : i < N) (hj : j < N) (hc : Has h cb (.rw [.int .i64 c])) :
    Sp (CF L (m + 5)) 64 [v, .int .i64 (i : Int), .int .i64 (j : Int), .pointer (some ⟨cb, 0, none⟩), cv] h fun r h' => ∃ p q : Nat, r = .tuple [.int .i64 (p : Int), .int .i64 (q : Int)].toArray ∧ ((p = i ∧ q = j) ∨ (p = j ∧ q = i)) ∧ (∃ c', Has h' cb (.rw [.int .i64 c'])) ∧ Keep (· = cb) h h' := by
  refine Sp.body f64 (by simp) ?_
  unfold c64
  refine C.seq fun K hK => hK .norm _ _ (C.seq (C.seq fun K hK => ?_))
  have kr := keep_room h 11
  have ar := arr.keep0 kr
  simp only [↓opStep_eq, ↓reduceIte, ↓EW, EV, Nat.reduceAdd, Nat.reduceEqDiff, Int.reduceEq, Int.reduceLT, Int.reduceLE, Int.reduceNe, seqC, retC, skipC, exitC, blockC, condC, r64_1, ar.ix hi, ar.ix hj, ar.ld hi, ar.ld hj]
  refine cm.go (cm.stay0 kr ok) fun z h2 hz k2 => ?_
  have k02 := kr.then k2
  have hc2 := hc.keep0 k02
  simp only [↓opStep_eq, ↓reduceIte, ↓EW, EV, Nat.reduceAdd, Nat.reduceEqDiff, Int.reduceEq, Int.reduceLT, Int.reduceLE, Int.reduceNe, seqC, retC, skipC, exitC, blockC, condC]
  refine hK _ _ _ (C.cond (decide (z < 0)) (by simp only [↓opStep_eq, ↓reduceIte, ↓EW, EV, Nat.reduceAdd, Nat.reduceEqDiff, Int.reduceEq, Int.reduceLT, Int.reduceLE, Int.reduceNe, seqC, retC, skipC, exitC, blockC, condC]) (fun g => C.seq fun K hK => ?_) fun g => C.skip ?_)
  · have l2 : ∀ s, loadOne h2 (.pointer (some ⟨cb, 0, s⟩)) = some (.int .i64 c) := fun s => by rw [loadOne_has hc2 rfl]; rfl
    have s2 := fun s => store_int (s := s) (o := 0) (k := .i64) (n := IntKind.i64.wrap (c + 1)) hc2 (by simp)
    simp only [↓opStep_eq, ↓reduceIte, ↓EW, EV, Nat.reduceAdd, Nat.reduceEqDiff, Int.reduceEq, Int.reduceLT, Int.reduceLE, Int.reduceNe, seqC, retC, skipC, exitC, blockC, condC, r64_2, nilChk_some, l2, s2]
    refine hK _ _ _ (C.seq fun K hK => hK .norm _ _ (C.ret ⟨.inr rfl, _, rfl, j, i, ?_, .inr ⟨rfl, rfl⟩, ⟨_, Has.put hc2.1⟩, (k02.mono fun _ _ h => h.elim).trans (Keep.put h2 cb _) fun _ _ h => h⟩))
    simp only [↓opStep_eq, ↓reduceIte, ↓EW, EV, Nat.reduceAdd, Nat.reduceEqDiff, Int.reduceEq, Int.reduceLT, Int.reduceLE, Int.reduceNe, seqC, retC, skipC, exitC, blockC, condC, resOf]
  · refine C.seq fun K hK => hK .norm _ _ (C.ret ⟨.inr rfl, _, rfl, i, j, ?_, .inl ⟨rfl, rfl⟩, ⟨c, hc2⟩, k02.mono fun _ _ h => h.elim⟩)
    simp only [↓opStep_eq, ↓reduceIte, ↓EW, EV, Nat.reduceAdd, Nat.reduceEqDiff, Int.reduceEq, Int.reduceLT, Int.reduceLE, Int.reduceNe, seqC, retC, skipC, exitC, blockC, condC, resOf]

theorem median_law (cm : Cm L B cv lt Ok) {m i j k N cb : Nat} {c : Int} {v : Value} {f : Nat → Nm} {h : H} (ok : Ok h) (hok : ∀ h hx, Ok h → Keep (· = cb) h hx → Ok hx) (arr : Arr h B v N f) (hBc : B ≠ cb) (hi : i < N) (hj : j < N) (hk : k < N) (hc : Has h cb (.rw [.int .i64 c])) :
    Sp (CF L (m + 6)) 63 [v, .int .i64 (i : Int), .int .i64 (j : Int), .int .i64 (k : Int), .pointer (some ⟨cb, 0, none⟩), cv] h fun r h' => ∃ p : Nat, r = .int .i64 (p : Int) ∧ (p = i ∨ p = j ∨ p = k) ∧ (∃ c', Has h' cb (.rw [.int .i64 c'])) ∧ Keep (· = cb) h h' := by
  refine Sp.body f63 (by simp) ?_
  unfold c63
  refine C.seq fun K hK => hK .norm _ _ (C.seq fun K hK => ?_)
  simp only [↓opStep_eq, ↓reduceIte, ↓EW, EV, Nat.reduceAdd, Nat.reduceEqDiff, Int.reduceEq, Int.reduceLT, Int.reduceLE, Int.reduceNe, seqC, retC, skipC, exitC, blockC, condC, r63_1]
  refine order_law cm ok (hok h) arr hi hj hc _ fun r h1 hq => ?_
  obtain ⟨p1, q1, rfl, e1, ⟨c1, hc1⟩, k1⟩ := hq
  have ar1 := arr.keep k1 hBc
  have ok1 := hok _ _ ok k1
  simp only [↓opStep_eq, ↓reduceIte, ↓EW, EV, Nat.reduceAdd, Nat.reduceEqDiff, Int.reduceEq, Int.reduceLT, Int.reduceLE, Int.reduceNe, seqC, retC, skipC, exitC, blockC, condC, tupNth_tuple]
  refine hK _ _ _ (C.seq fun K hK => ?_)
  simp only [↓opStep_eq, ↓reduceIte, ↓EW, EV, Nat.reduceAdd, Nat.reduceEqDiff, Int.reduceEq, Int.reduceLT, Int.reduceLE, Int.reduceNe, seqC, retC, skipC, exitC, blockC, condC, r63_2]
  refine order_law cm ok1 (hok h1) ar1 (show q1 < N by omega) hk hc1 _ fun r h2 hq => ?_
  obtain ⟨p2, q2, rfl, e2, ⟨c2, hc2⟩, k2⟩ := hq
  have ar2 := ar1.keep k2 hBc
  have ok2 := hok _ _ ok1 k2
  simp only [↓opStep_eq, ↓reduceIte, ↓EW, EV, Nat.reduceAdd, Nat.reduceEqDiff, Int.reduceEq, Int.reduceLT, Int.reduceLE, Int.reduceNe, seqC, retC, skipC, exitC, blockC, condC, tupNth_tuple]
  refine hK _ _ _ (C.seq fun K hK => ?_)
  simp only [↓opStep_eq, ↓reduceIte, ↓EW, EV, Nat.reduceAdd, Nat.reduceEqDiff, Int.reduceEq, Int.reduceLT, Int.reduceLE, Int.reduceNe, seqC, retC, skipC, exitC, blockC, condC, r63_3]
  refine order_law cm ok2 (hok h2) ar2 (show p1 < N by omega) (show p2 < N by omega) hc2 _ fun r h3 hq => ?_
  obtain ⟨p3, q3, rfl, e3, ⟨c3, hc3⟩, k3⟩ := hq
  simp only [↓opStep_eq, ↓reduceIte, ↓EW, EV, Nat.reduceAdd, Nat.reduceEqDiff, Int.reduceEq, Int.reduceLT, Int.reduceLE, Int.reduceNe, seqC, retC, skipC, exitC, blockC, condC, tupNth_tuple]
  refine hK _ _ _ (C.seq fun K hK => ?_)
  simp only [↓opStep_eq, ↓reduceIte, ↓EW, EV, Nat.reduceAdd, Nat.reduceEqDiff, Int.reduceEq, Int.reduceLT, Int.reduceLE, Int.reduceNe, seqC, retC, skipC, exitC, blockC, condC, r63_4]
  refine hK _ _ _ (C.ret ⟨.inr rfl, _, rfl, q3, by simp only [↓opStep_eq, ↓reduceIte, ↓EW, EV, Nat.reduceAdd, Nat.reduceEqDiff, Int.reduceEq, Int.reduceLT, Int.reduceLE, Int.reduceNe, seqC, retC, skipC, exitC, blockC, condC, resOf], by omega, ⟨c3, hc3⟩, (k1.trans k2 fun _ _ h => h).trans k3 fun _ _ h => h⟩)

theorem adj_law (cm : Cm L B cv lt Ok) {m i N cb : Nat} {c : Int} {v : Value} {f : Nat → Nm} {h : H} (ok : Ok h) (hok : ∀ h hx, Ok h → Keep (· = cb) h hx → Ok hx) (arr : Arr h B v N f) (hBc : B ≠ cb) (hi : 1 ≤ i) (hi2 : i + 1 < N) (hN : N < 60000) (hc : Has h cb (.rw [.int .i64 c])) :
    Sp (CF L (m + 7)) 62 [v, .int .i64 (i : Int), .pointer (some ⟨cb, 0, none⟩), cv] h fun r h' => ∃ p : Nat, r = .int .i64 (p : Int) ∧ i - 1 ≤ p ∧ p ≤ i + 1 ∧ (∃ c', Has h' cb (.rw [.int .i64 c'])) ∧ Keep (· = cb) h h' := by
  refine Sp.body f62 (by simp) ?_
  unfold c62
  refine C.seq fun K hK => hK .norm _ _ (C.seq fun K hK => ?_)
  have w1 := wsub1 i hi (by omega)
  have w2 := wadd1 i (by omega)
  simp only [↓opStep_eq, ↓reduceIte, ↓EW, EV, Nat.reduceAdd, Nat.reduceEqDiff, Int.reduceEq, Int.reduceLT, Int.reduceLE, Int.reduceNe, seqC, retC, skipC, exitC, blockC, condC, r62_1, w1, w2]
  refine median_law cm ok hok arr hBc (show i - 1 < N by omega) (show i < N by omega) hi2 hc _ fun r h1 hq => ?_
  obtain ⟨p, rfl, e, hc1, k1⟩ := hq
  exact hK _ _ _ (C.ret ⟨.inr rfl, _, rfl, p, by simp only [↓opStep_eq, ↓reduceIte, ↓EW, EV, Nat.reduceAdd, Nat.reduceEqDiff, Int.reduceEq, Int.reduceLT, Int.reduceLE, Int.reduceNe, seqC, retC, skipC, exitC, blockC, condC, resOf], by omega, by omega, hc1, k1⟩)

theorem pivot_law (cm : Cm L B cv lt Ok) {m a b N : Nat} {v : Value} {f : Nat → Nm} {h : H} (ok : Ok h) (hok : ∀ cb, h.next ≤ cb → ∀ h1 hx, Ok h1 → Keep (· = cb) h1 hx → Ok hx) (arr : Arr h B v N f) (hb : b ≤ N) (hN : N < 60000) (hab : a + 12 < b) :
    Sp (CF L (m + 8)) 49 [v, .int .i64 (a : Int), .int .i64 (b : Int), cv] h fun r h' => ∃ (p : Nat) (hint : Int), r = .tuple [.int .i64 (p : Int), .int .i64 hint].toArray ∧ a ≤ p ∧ p < b ∧ Keep nobody h h' := by
  refine Sp.body f49 (by simp) ?_
  unfold c49
  obtain ⟨l, hl⟩ : ∃ l, b = a + l := ⟨b - a, by omega⟩
  subst hl
  have hw : IntKind.i64.wrap (((a + l : Nat) : Int) - (a : Int)) = (l : Int) := by
    rw [show ((a + l : Nat) : Int) - (a : Int) = (l : Int) by omega, wrap_i64 _ (by omega)]
  have q4 := quo_nat 3 true l 4 (by decide) (by omega)
  have c4 : ((4 : Nat) : Int) = 4 := rfl
  rw [c4] at q4
  have w1 : IntKind.i64.wrap (((l / 4 : Nat) : Int) * 1) = ((l / 4 : Nat) : Int) := by
    rw [Int.mul_one, wrap_i64 _ (by omega)]
  have w2 : IntKind.i64.wrap (((l / 4 : Nat) : Int) * 2) = ((l / 4 * 2 : Nat) : Int) := by
    rw [show ((l / 4 : Nat) : Int) * 2 = ((l / 4 * 2 : Nat) : Int) by omega, wrap_i64 _ (by omega)]
  have w3 : IntKind.i64.wrap (((l / 4 : Nat) : Int) * 3) = ((l / 4 * 3 : Nat) : Int) := by
    rw [show ((l / 4 : Nat) : Int) * 3 = ((l / 4 * 3 : Nat) : Int) by omega, wrap_i64 _ (by omega)]
  have a1 := wadd a (l / 4) (by omega)
  have a2 := wadd a (l / 4 * 2) (by omega)
  have a3 := wadd a (l / 4 * 3) (by omega)
  have g8 : (8 : Int) ≤ (l : Int) := by omega
  have kn := Keep.new h (.rw [.int .i64 0])
  have bn := Has.new h (.rw [.int .i64 0])
  have hBn := arr.lt
  refine C.seq fun K hK => hK .norm _ _ (C.seq fun K hK => ?_)
  simp only [↓opStep_eq, ↓reduceIte, ↓EW, EV, Nat.reduceAdd, Nat.reduceEqDiff, Int.reduceEq, Int.reduceLT, Int.reduceLE, Int.reduceNe, seqC, retC, skipC, exitC, blockC, condC, r49_1, hw]
  refine hK _ _ _ (C.seq fun K hK => ?_)
  simp only [↓opStep_eq, ↓reduceIte, ↓EW, EV, Nat.reduceAdd, Nat.reduceEqDiff, Int.reduceEq, Int.reduceLT, Int.reduceLE, Int.reduceNe, seqC, retC, skipC, exitC, blockC, condC, r49_2]
  generalize h.new (.rw [.int .i64 0]) = h1 at *
  refine hK _ _ _ (C.seq fun K hK => ?_)
  simp only [↓opStep_eq, ↓reduceIte, ↓EW, EV, Nat.reduceAdd, Nat.reduceEqDiff, Int.reduceEq, Int.reduceLT, Int.reduceLE, Int.reduceNe, seqC, retC, skipC, exitC, blockC, condC, r49_3, q4, w1, a1]
  refine hK _ _ _ (C.seq fun K hK => ?_)
  simp only [↓opStep_eq, ↓reduceIte, ↓EW, EV, Nat.reduceAdd, Nat.reduceEqDiff, Int.reduceEq, Int.reduceLT, Int.reduceLE, Int.reduceNe, seqC, retC, skipC, exitC, blockC, condC, r49_4, q4, w2, a2]
  refine hK _ _ _ (C.seq fun K hK => ?_)
  simp only [↓opStep_eq, ↓reduceIte, ↓EW, EV, Nat.reduceAdd, Nat.reduceEqDiff, Int.reduceEq, Int.reduceLT, Int.reduceLE, Int.reduceNe, seqC, retC, skipC, exitC, blockC, condC, r49_5, q4, w3, a3]
  refine hK _ _ _ (C.seq (C.seq fun K hK => ?_))
  simp only [↓opStep_eq, ↓reduceIte, ↓EW, EV, Nat.reduceAdd, Nat.reduceEqDiff, Int.reduceEq, Int.reduceLT, Int.reduceLE, Int.reduceNe, seqC, retC, skipC, exitC, blockC, condC, r49_6, g8]
  refine hK _ _ _ (C.cond true (by simp only [↓opStep_eq, ↓reduceIte, ↓EW, EV, Nat.reduceAdd, Nat.reduceEqDiff, Int.reduceEq, Int.reduceLT, Int.reduceLE, Int.reduceNe, seqC, retC, skipC, exitC, blockC, condC]) (fun g => ?_) fun g => by cases g)
  have hokc := hok h.next (Nat.le_refl _)
  have ok1 := cm.stay0 kn ok
  have ar1 := arr.keep0 kn
  have hBc : B ≠ h.next := by omega
  -- the median of three
  have last : ∀ (i j k : Nat) (c : Int) (h2 : H) (tm2 : T Value) (Q : Ex → T Value → Ev.H → Prop), a ≤ i → i < a + l → a ≤ j → j < a + l → a ≤ k → k < a + l → Keep (· = h.next) h1 h2 → Has h2 h.next (.rw [.int .i64 c]) → tg tm2 0 = v → tg tm2 3 = cv → tg tm2 11 = .pointer (some ⟨h.next, 0, none⟩) → tg tm2 12 = .int .i64 (i : Int) → tg tm2 13 = .int .i64 (j : Int) → tg tm2 14 = .int .i64 (k : Int) →
      (∀ (p : Nat) h' tm', a ≤ p → p < a + l → Keep (· = h.next) h1 h' → (∃ c', Has h' h.next (.rw [.int .i64 c'])) → tg tm' 11 = .pointer (some ⟨h.next, 0, none⟩) → tg tm' 13 = .int .i64 (p : Int) → Q .norm tm' h') → C ⟨r49_11⟩ (CF L (m + 7)) L tm2 h2 Q := fun i j k c h2 tm2 Q i1 i2 j1 j2 k1 k2 kk hc u0 u3 u11 u12 u13 u14 hQ => by
    intro K hK
    simp only [↓opStep_eq, ↓reduceIte, ↓EW, EV, Nat.reduceAdd, Nat.reduceEqDiff, Int.reduceEq, Int.reduceLT, Int.reduceLE, Int.reduceNe, seqC, retC, skipC, exitC, blockC, condC, r49_11, u0, u3, u11, u12, u13, u14]
    refine median_law cm (hokc _ _ ok1 kk) hokc (ar1.keep kk hBc) hBc (show i < N by omega) (show j < N by omega) (show k < N by omega) hc _ fun r h3 hq => ?_
    obtain ⟨p, rfl, e, hc3, k3⟩ := hq
    exact hK _ _ _ (hQ p h3 _ (by omega) (by omega) (kk.trans k3 fun _ _ h => h) hc3 (by simp only [↓opStep_eq, ↓reduceIte, ↓EW, EV, Nat.reduceAdd, Nat.reduceEqDiff, Int.reduceEq, Int.reduceLT, Int.reduceLE, Int.reduceNe, seqC, retC, skipC, exitC, blockC, condC, u11]) (by simp only [↓opStep_eq, ↓reduceIte, ↓EW, EV, Nat.reduceAdd, Nat.reduceEqDiff, Int.reduceEq, Int.reduceLT, Int.reduceLE, Int.reduceNe, seqC, retC, skipC, exitC, blockC, condC]))
  -- behind it
  have fin : ∀ (p : Nat) h' tm' (Q : Ex → T Value → Ev.H → Prop), a ≤ p → p < a + l → Keep (· = h.next) h1 h' → (∃ c', Has h' h.next (.rw [.int .i64 c'])) → tg tm' 11 = .pointer (some ⟨h.next, 0, none⟩) → tg tm' 13 = .int .i64 (p : Int) →
      (∀ tm2 (hint : Int), tg tm2 8 = .int .i64 (p : Int) → tg tm2 9 = .int .i64 hint → Q .ret tm2 h') →
      C ⟨seqC ⟨r49_12⟩ ⟨blockC 0 ⟨seqC ⟨r49_14⟩ ⟨condC ⟨fun _ tm => tg tm 57⟩ ⟨seqC ⟨r49_15⟩ retC⟩ ⟨seqC ⟨r49_16⟩ ⟨condC ⟨fun _ tm => tg tm 60⟩ ⟨seqC ⟨r49_17⟩ retC⟩ ⟨seqC ⟨r49_13⟩ retC⟩⟩⟩⟩⟩⟩⟩ (CF L (m + 7)) L tm' h' Q := fun p h' tm' Q hp1 hp2 kk ⟨c', hc⟩ u11 u13 hQ => by
    refine C.seq fun K hK => ?_
    have l2 : ∀ s, loadOne h' (.pointer (some ⟨h.next, 0, s⟩)) = some (.int .i64 c') := fun s => by rw [loadOne_has hc rfl]; rfl
    simp only [↓opStep_eq, ↓reduceIte, ↓EW, EV, Nat.reduceAdd, Nat.reduceEqDiff, Int.reduceEq, Int.reduceLT, Int.reduceLE, Int.reduceNe, seqC, retC, skipC, exitC, blockC, condC, r49_12, u11, l2]
    refine hK _ _ _ (C.block (C.seq fun K hK => ?_))
    simp only [↓opStep_eq, ↓reduceIte, ↓EW, EV, Nat.reduceAdd, Nat.reduceEqDiff, Int.reduceEq, Int.reduceLT, Int.reduceLE, Int.reduceNe, seqC, retC, skipC, exitC, blockC, condC, r49_14]
    refine hK _ _ _ (C.cond (decide (c' = 0)) (by simp only [↓opStep_eq, ↓reduceIte, ↓EW, EV, Nat.reduceAdd, Nat.reduceEqDiff, Int.reduceEq, Int.reduceLT, Int.reduceLE, Int.reduceNe, seqC, retC, skipC, exitC, blockC, condC]) (fun g => C.seq fun K hK => ?_) fun g => C.seq fun K hK => ?_)
    · simp only [↓opStep_eq, ↓reduceIte, ↓EW, EV, Nat.reduceAdd, Nat.reduceEqDiff, Int.reduceEq, Int.reduceLT, Int.reduceLE, Int.reduceNe, seqC, retC, skipC, exitC, blockC, condC, r49_15, u13]
      refine hK _ _ _ (C.ret (hQ _ 1 ?_ ?_))
      · simp only [↓opStep_eq, ↓reduceIte, ↓EW, EV, Nat.reduceAdd, Nat.reduceEqDiff, Int.reduceEq, Int.reduceLT, Int.reduceLE, Int.reduceNe, seqC, retC, skipC, exitC, blockC, condC]
      · simp only [↓opStep_eq, ↓reduceIte, ↓EW, EV, Nat.reduceAdd, Nat.reduceEqDiff, Int.reduceEq, Int.reduceLT, Int.reduceLE, Int.reduceNe, seqC, retC, skipC, exitC, blockC, condC]
    · simp only [↓opStep_eq, ↓reduceIte, ↓EW, EV, Nat.reduceAdd, Nat.reduceEqDiff, Int.reduceEq, Int.reduceLT, Int.reduceLE, Int.reduceNe, seqC, retC, skipC, exitC, blockC, condC, r49_16]
      refine hK _ _ _ (C.cond (decide (c' = 12)) (by simp only [↓opStep_eq, ↓reduceIte, ↓EW, EV, Nat.reduceAdd, Nat.reduceEqDiff, Int.reduceEq, Int.reduceLT, Int.reduceLE, Int.reduceNe, seqC, retC, skipC, exitC, blockC, condC]) (fun g => C.seq fun K hK => ?_) fun g => C.seq fun K hK => ?_)
      · simp only [↓opStep_eq, ↓reduceIte, ↓EW, EV, Nat.reduceAdd, Nat.reduceEqDiff, Int.reduceEq, Int.reduceLT, Int.reduceLE, Int.reduceNe, seqC, retC, skipC, exitC, blockC, condC, r49_17, u13]
        refine hK _ _ _ (C.ret (hQ _ 2 ?_ ?_))
        · simp only [↓opStep_eq, ↓reduceIte, ↓EW, EV, Nat.reduceAdd, Nat.reduceEqDiff, Int.reduceEq, Int.reduceLT, Int.reduceLE, Int.reduceNe, seqC, retC, skipC, exitC, blockC, condC]
        · simp only [↓opStep_eq, ↓reduceIte, ↓EW, EV, Nat.reduceAdd, Nat.reduceEqDiff, Int.reduceEq, Int.reduceLT, Int.reduceLE, Int.reduceNe, seqC, retC, skipC, exitC, blockC, condC]
      · simp only [↓opStep_eq, ↓reduceIte, ↓EW, EV, Nat.reduceAdd, Nat.reduceEqDiff, Int.reduceEq, Int.reduceLT, Int.reduceLE, Int.reduceNe, seqC, retC, skipC, exitC, blockC, condC, r49_13, u13]
        refine hK _ _ _ (C.ret (hQ _ 0 ?_ ?_))
        · simp only [↓opStep_eq, ↓reduceIte, ↓EW, EV, Nat.reduceAdd, Nat.reduceEqDiff, Int.reduceEq, Int.reduceLT, Int.reduceLE, Int.reduceNe, seqC, retC, skipC, exitC, blockC, condC]
        · simp only [↓opStep_eq, ↓reduceIte, ↓EW, EV, Nat.reduceAdd, Nat.reduceEqDiff, Int.reduceEq, Int.reduceLT, Int.reduceLE, Int.reduceNe, seqC, retC, skipC, exitC, blockC, condC]
  have post : ∀ (p : Nat) h' tm2 (hint : Int), a ≤ p → p < a + l → Keep (· = h.next) h1 h' → tg tm2 8 = .int .i64 (p : Int) → tg tm2 9 = .int .i64 hint → ∃ l', q49.f tm2 h' = some l' ∧ ∃ (p : Nat) (hint : Int), resOf l' = .tuple [.int .i64 (p : Int), .int .i64 hint].toArray ∧ a ≤ p ∧ p < a + l ∧ Keep nobody h h' := fun p h' tm2 hint hp1 hp2 kk u8 u9 => by
    refine ⟨_, rfl, p, hint, ?_, hp1, hp2, kn.trans kk fun c hc e => by omega⟩
    simp only [resOf, u8, u9]
  refine C.seq (C.seq fun K hK => ?_)
  simp only [↓opStep_eq, ↓reduceIte, ↓EW, EV, Nat.reduceAdd, Nat.reduceEqDiff, Int.reduceEq, Int.reduceLT, Int.reduceLE, Int.reduceNe, seqC, retC, skipC, exitC, blockC, condC, r49_7]
  refine hK _ _ _ (C.cond (decide ((50 : Int) ≤ (l : Int))) (by simp only [↓opStep_eq, ↓reduceIte, ↓EW, EV, Nat.reduceAdd, Nat.reduceEqDiff, Int.reduceEq, Int.reduceLT, Int.reduceLE, Int.reduceNe, seqC, retC, skipC, exitC, blockC, condC]) (fun g5 => ?_) fun g5 => C.skip ?_)
  · have g5 : 50 ≤ l := by have := of_decide_eq_true g5; omega
    refine C.seq fun K hK => ?_
    simp only [↓opStep_eq, ↓reduceIte, ↓EW, EV, Nat.reduceAdd, Nat.reduceEqDiff, Int.reduceEq, Int.reduceLT, Int.reduceLE, Int.reduceNe, seqC, retC, skipC, exitC, blockC, condC, r49_8]
    refine adj_law cm ok1 hokc ar1 hBc (show 1 ≤ a + l / 4 by omega) (by omega) hN bn _ fun r h2 hq => ?_
    obtain ⟨i, rfl, i1, i2, ⟨c2, hc2⟩, k2⟩ := hq
    refine hK _ _ _ (C.seq fun K hK => ?_)
    simp only [↓opStep_eq, ↓reduceIte, ↓EW, EV, Nat.reduceAdd, Nat.reduceEqDiff, Int.reduceEq, Int.reduceLT, Int.reduceLE, Int.reduceNe, seqC, retC, skipC, exitC, blockC, condC, r49_9]
    refine adj_law cm (hokc _ _ ok1 k2) hokc (ar1.keep k2 hBc) hBc (show 1 ≤ a + l / 4 * 2 by omega) (by omega) hN hc2 _ fun r h3 hq => ?_
    obtain ⟨j, rfl, j1, j2, ⟨c3, hc3⟩, k3⟩ := hq
    have k23 := k2.trans k3 fun _ _ h => h
    refine hK _ _ _ fun K hK => ?_
    simp only [↓opStep_eq, ↓reduceIte, ↓EW, EV, Nat.reduceAdd, Nat.reduceEqDiff, Int.reduceEq, Int.reduceLT, Int.reduceLE, Int.reduceNe, seqC, retC, skipC, exitC, blockC, condC, r49_10]
    refine adj_law cm (hokc _ _ ok1 k23) hokc (ar1.keep k23 hBc) hBc (show 1 ≤ a + l / 4 * 3 by omega) (by omega) hN hc3 _ fun r h4 hq => ?_
    obtain ⟨k, rfl, kk1, kk2, ⟨c4', hc4⟩, k4⟩ := hq
    refine hK _ _ _ (last i j k c4' h4 _ _ (by omega) (by omega) (by omega) (by omega) (by omega) (by omega) (k23.trans k4 fun _ _ h => h) hc4 ?_ ?_ ?_ ?_ ?_ ?_ fun p h' tm' p1 p2 kp hcp u11 u13 => fin p h' tm' _ p1 p2 kp hcp u11 u13 fun tm2 hint u8 u9 => ⟨.inr rfl, post p h' tm2 hint p1 p2 kp u8 u9⟩)
    · simp only [↓opStep_eq, ↓reduceIte, ↓EW, EV, Nat.reduceAdd, Nat.reduceEqDiff, Int.reduceEq, Int.reduceLT, Int.reduceLE, Int.reduceNe, seqC, retC, skipC, exitC, blockC, condC]
    · simp only [↓opStep_eq, ↓reduceIte, ↓EW, EV, Nat.reduceAdd, Nat.reduceEqDiff, Int.reduceEq, Int.reduceLT, Int.reduceLE, Int.reduceNe, seqC, retC, skipC, exitC, blockC, condC]
    · simp only [↓opStep_eq, ↓reduceIte, ↓EW, EV, Nat.reduceAdd, Nat.reduceEqDiff, Int.reduceEq, Int.reduceLT, Int.reduceLE, Int.reduceNe, seqC, retC, skipC, exitC, blockC, condC]
    · simp only [↓opStep_eq, ↓reduceIte, ↓EW, EV, Nat.reduceAdd, Nat.reduceEqDiff, Int.reduceEq, Int.reduceLT, Int.reduceLE, Int.reduceNe, seqC, retC, skipC, exitC, blockC, condC]
    · simp only [↓opStep_eq, ↓reduceIte, ↓EW, EV, Nat.reduceAdd, Nat.reduceEqDiff, Int.reduceEq, Int.reduceLT, Int.reduceLE, Int.reduceNe, seqC, retC, skipC, exitC, blockC, condC]
    · simp only [↓opStep_eq, ↓reduceIte, ↓EW, EV, Nat.reduceAdd, Nat.reduceEqDiff, Int.reduceEq, Int.reduceLT, Int.reduceLE, Int.reduceNe, seqC, retC, skipC, exitC, blockC, condC]
  · refine last (a + l / 4) (a + l / 4 * 2) (a + l / 4 * 3) 0 h1 _ _ (by omega) (by omega) (by omega) (by omega) (by omega) (by omega) (.refl _ _) bn ?_ ?_ ?_ ?_ ?_ ?_ fun p h' tm' p1 p2 kp hcp u11 u13 => fin p h' tm' _ p1 p2 kp hcp u11 u13 fun tm2 hint u8 u9 => ⟨.inr rfl, post p h' tm2 hint p1 p2 kp u8 u9⟩
    · simp only [↓opStep_eq, ↓reduceIte, ↓EW, EV, Nat.reduceAdd, Nat.reduceEqDiff, Int.reduceEq, Int.reduceLT, Int.reduceLE, Int.reduceNe, seqC, retC, skipC, exitC, blockC, condC]
    · simp only [↓opStep_eq, ↓reduceIte, ↓EW, EV, Nat.reduceAdd, Nat.reduceEqDiff, Int.reduceEq, Int.reduceLT, Int.reduceLE, Int.reduceNe, seqC, retC, skipC, exitC, blockC, condC]
    · simp only [↓opStep_eq, ↓reduceIte, ↓EW, EV, Nat.reduceAdd, Nat.reduceEqDiff, Int.reduceEq, Int.reduceLT, Int.reduceLE, Int.reduceNe, seqC, retC, skipC, exitC, blockC, condC]
    · simp only [↓opStep_eq, ↓reduceIte, ↓EW, EV, Nat.reduceAdd, Nat.reduceEqDiff, Int.reduceEq, Int.reduceLT, Int.reduceLE, Int.reduceNe, seqC, retC, skipC, exitC, blockC, condC]
    · simp only [↓opStep_eq, ↓reduceIte, ↓EW, EV, Nat.reduceAdd, Nat.reduceEqDiff, Int.reduceEq, Int.reduceLT, Int.reduceLE, Int.reduceNe, seqC, retC, skipC, exitC, blockC, condC]
    · simp only [↓opStep_eq, ↓reduceIte, ↓EW, EV, Nat.reduceAdd, Nat.reduceEqDiff, Int.reduceEq, Int.reduceLT, Int.reduceLE, Int.reduceNe, seqC, retC, skipC, exitC, blockC, condC]

/-! ### reverseRange -/
theorem reverse_law (m : Nat) {a b N : Nat} {v : Value} {f : Nat → Nm} {h : H} (arr : Arr h B v N f) (hb : b ≤ N) (hN : N < 60000) (hL : N < L) (hab : a < b) :
    Sp (CF L (m + 1)) 50 [v, .int .i64 (a : Int), .int .i64 (b : Int), cv] h fun r h' => ∃ f', Arr h' B v N f' ∧ Sw a b f f' ∧ Keep (· = B) h h' := by
  refine Sp.body f50 (by simp) ?_
  unfold c50
  have w1 := wsub1 b (by omega) (by omega)
  refine C.seq fun K hK => hK .norm _ _ (C.seq fun K hK => ?_)
  simp only [↓opStep_eq, ↓reduceIte, ↓EW, EV, Nat.reduceAdd, Nat.reduceEqDiff, Int.reduceEq, Int.reduceLT, Int.reduceLE, Int.reduceNe, seqC, retC, skipC, exitC, blockC, condC, r50_1, w1]
  refine hK .norm _ _ ?_
  refine C.block (C.loop (fun k tm' hx => ∃ i j f', k = j - i ∧ a ≤ i ∧ i ≤ b ∧ a ≤ j + 1 ∧ j < b ∧ tg tm' 0 = v ∧ tg tm' 8 = .int .i64 (i : Int) ∧ tg tm' 9 = .int .i64 (j : Int) ∧ Arr hx B v N f' ∧ Sw a b f f' ∧ Keep (· = B) h hx) (b - 1 - a) (by omega)
    ⟨a, b - 1, f, rfl, by omega, by omega, by omega, by omega, by simp only [↓opStep_eq, ↓reduceIte, ↓EW, EV, Nat.reduceAdd, Nat.reduceEqDiff, Int.reduceEq, Int.reduceLT, Int.reduceLE, Int.reduceNe, seqC, retC, skipC, exitC, blockC, condC], by simp only [↓opStep_eq, ↓reduceIte, ↓EW, EV, Nat.reduceAdd, Nat.reduceEqDiff, Int.reduceEq, Int.reduceLT, Int.reduceLE, Int.reduceNe, seqC, retC, skipC, exitC, blockC, condC], by simp only [↓opStep_eq, ↓reduceIte, ↓EW, EV, Nat.reduceAdd, Nat.reduceEqDiff, Int.reduceEq, Int.reduceLT, Int.reduceLE, Int.reduceNe, seqC, retC, skipC, exitC, blockC, condC], arr, .refl _, .refl _ _⟩ ?_)
  rintro k tm hx ⟨i, j, f1, rfl, hi, hi2, hj1, hj2, t0, t8, t9, ar1, sw1, k1⟩
  unfold l50_6
  refine C.seq (C.seq fun K hK => ?_)
  simp only [↓opStep_eq, ↓reduceIte, ↓EW, EV, Nat.reduceAdd, Nat.reduceEqDiff, Int.reduceEq, Int.reduceLT, Int.reduceLE, Int.reduceNe, seqC, retC, skipC, exitC, blockC, condC, r50_2, t8, t9]
  refine hK _ _ _ (C.cond (decide ((i : Int) < (j : Int))) (by simp only [↓opStep_eq, ↓reduceIte, ↓EW, EV, Nat.reduceAdd, Nat.reduceEqDiff, Int.reduceEq, Int.reduceLT, Int.reduceLE, Int.reduceNe, seqC, retC, skipC, exitC, blockC, condC]) (fun g => C.skip ?_) fun g => C.exit ?_)
  · have g : i < j := by have := of_decide_eq_true g; omega
    refine C.block (C.seq fun K hK => ?_)
    have kr := keep_room hx 16
    have ar4 := ar1.keep0 kr
    obtain ⟨h5, h6, s1, s2, ar6, k6⟩ := ar4.swap (p := j) (q := i) (by omega) (by omega)
    simp only [↓opStep_eq, ↓reduceIte, ↓EW, EV, Nat.reduceAdd, Nat.reduceEqDiff, Int.reduceEq, Int.reduceLT, Int.reduceLE, Int.reduceNe, seqC, retC, skipC, exitC, blockC, condC, r50_3, t0, t8, t9, ar4.ix (show i < N by omega), ar4.ix (show j < N by omega), ar4.ld (show i < N by omega), ar4.ld (show j < N by omega), s1, s2]
    have w2 := wadd1 i (by omega)
    have w3 := wsub1 j (by omega) (by omega)
    refine hK _ _ _ (C.seq fun K hK => ?_)
    simp only [↓opStep_eq, ↓reduceIte, ↓EW, EV, Nat.reduceAdd, Nat.reduceEqDiff, Int.reduceEq, Int.reduceLT, Int.reduceLE, Int.reduceNe, seqC, retC, skipC, exitC, blockC, condC, r50_4, t8, w2]
    refine hK _ _ _ fun K hK => ?_
    simp only [↓opStep_eq, ↓reduceIte, ↓EW, EV, Nat.reduceAdd, Nat.reduceEqDiff, Int.reduceEq, Int.reduceLT, Int.reduceLE, Int.reduceNe, seqC, retC, skipC, exitC, blockC, condC, r50_5, t9, w3]
    exact hK _ _ _ ⟨j - 1 - (i + 1), by omega, i + 1, j - 1, _, rfl, by omega, by omega, by omega, by omega, by simp only [↓opStep_eq, ↓reduceIte, ↓EW, EV, Nat.reduceAdd, Nat.reduceEqDiff, Int.reduceEq, Int.reduceLT, Int.reduceLE, Int.reduceNe, seqC, retC, skipC, exitC, blockC, condC, t0], by simp only [↓opStep_eq, ↓reduceIte, ↓EW, EV, Nat.reduceAdd, Nat.reduceEqDiff, Int.reduceEq, Int.reduceLT, Int.reduceLE, Int.reduceNe, seqC, retC, skipC, exitC, blockC, condC], by simp only [↓opStep_eq, ↓reduceIte, ↓EW, EV, Nat.reduceAdd, Nat.reduceEqDiff, Int.reduceEq, Int.reduceLT, Int.reduceLE, Int.reduceNe, seqC, retC, skipC, exitC, blockC, condC], ar6, .step i j sw1 (by omega) (by omega) (by omega) (by omega), (k1.then kr).trans k6 fun _ _ h => h⟩
  · simp only [if_pos]
    exact ⟨(by first | exact .inl rfl | exact .inl trivial), _, rfl, f1, ar1, sw1, k1⟩
end
end Go.Proofs.YtbdmhdidehfmoaaDoor
