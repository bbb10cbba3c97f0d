import Derived.Test.YtpaolklbogakgaaPkR
set_option linter.unusedSimpArgs false
set_option linter.unusedVariables false
namespace Go.Proofs.Ytpaolklbogakgaa
open Go.Ev

/-- a capacity that fits -/
def CapOk (c n : Nat) : Prop := (Nat.ble OPEN c = true ∧ Nat.beq (szOf c) 1 = true) ∨ (Nat.ble OPEN c = false ∧ n ≤ c)
/-- a slice of bytes that can be read and cut -/
def Rd (h : H) (v : Value) (l : List UInt8) : Prop :=
  (v = .slice none 0 0 ∧ l = []) ∨ ∃ b o c x cs, v = .slice (some ⟨b, o, none⟩) l.length c ∧ Has h b x ∧ x.cells? = some cs ∧ o + l.length ≤ cs.length ∧ (cs.drop o).take l.length = l.map bv ∧ CapOk c l.length
theorem Rd.reads {h : H} {v : Value} {l : List UInt8} (a : Rd h v l) : Reads h v l := by
  rcases a with a | ⟨b, o, c, x, cs, e, h1, h2, h3, h4, _⟩
  · exact .inl a
  · exact .inr ⟨b, o, c, x, cs, e, h1, h2, h3, h4⟩
theorem Rd.keep {S : Nat → Prop} {h h' : H} {v : Value} {l : List UInt8} (a : Rd h v l) (k : Keep S h h') (hn : ∀ b, blk v b → ¬ S b) : Rd h' v l := by
  rcases a with a | ⟨b, o, c, x, cs, rfl, h1, h2, h3, h4, h5⟩
  · exact .inl a
  · exact .inr ⟨b, o, c, x, cs, rfl, h1.keep k (hn b (by simp)), h2, h3, h4, h5⟩
theorem Rd.keep0 {h h' : H} {v : Value} {l : List UInt8} (a : Rd h v l) (k : Keep nobody h h') : Rd h' v l := a.keep k fun _ _ => id
theorem Rd.len {h : H} {v : Value} {l : List UInt8} (a : Rd h v l) : lenSl v = some (.int .i64 (l.length : Int)) := a.reads.len
theorem Rd.str {h : H} {v : Value} {l : List UInt8} (a : Rd h v l) : bytesStr h v = some (.string ⟨l.toArray⟩) := a.reads.str
theorem rd_of_mine {h : H} {v : Value} {l : List UInt8} (m : Mine h v l) (hl : l.length < 1000000) : Rd h v l := by
  cases m with
  | nil => exact .inl ⟨rfl, rfl⟩
  | op b cap l c1 c2 hb => exact .inr ⟨b, 0, cap, _, _, rfl, hb, rfl, by simp, by rw [List.drop_zero, List.take_of_length_le (by simp)], .inl ⟨c1, c2⟩⟩
  | rw b l hb =>
    have e1 : Nat.ble OPEN l.length = false := by
      rw [Bool.eq_false_iff]; intro e; have := Nat.le_of_ble_eq_true e; unfold OPEN at this; omega
    exact .inr ⟨b, 0, _, _, _, rfl, hb, rfl, by simp, by rw [List.drop_zero, List.take_of_length_le (by simp)], .inr ⟨e1, Nat.le_refl _⟩⟩

/-- one of the bytes -/
theorem Rd.at {h : H} {v : Value} {l : List UInt8} (a : Rd h v l) {i : Nat} {x : UInt8} (hi : l[i]? = some x) :
    ∃ b o, indexSl 1 v (.int .i64 (i : Int)) = some (.pointer (some ⟨b, o, none⟩)) ∧ (∀ s, loadOne h (.pointer (some ⟨b, o, s⟩)) = some (bv x)) ∧ blk v b := by
  have hl : i < l.length := by
    by_cases hl : i < l.length
    · exact hl
    · rw [List.getElem?_eq_none (by omega)] at hi; cases hi
  rcases a with ⟨rfl, rfl⟩ | ⟨b, o, c, x', cs, rfl, h1, h2, h3, h4, _⟩
  · simp at hl
  · refine ⟨b, o + i, ?_, fun s => ?_, by simp⟩
    · simp only [indexSl, asNat_nat, addOff]
      rw [Nat.ble_eq_true_of_le (by omega)]
      simp
    · rw [loadOne_has h1 h2]
      have : ((cs.drop o).take l.length)[i]? = cs[o + i]? := by rw [List.getElem?_take, if_pos hl, List.getElem?_drop]
      rw [← this, h4, List.getElem?_map, hi]; rfl

theorem bnd_none (d y : Nat) : bnd none d y = some d := rfl
theorem bnd_some (k : IntKind) (n d y : Nat) (h : n ≤ y) : bnd (some (.int k (n : Int))) d y = some n := by
  simp only [bnd, asNat_nat, Nat.ble_eq_true_of_le h]

/-- cut off in front -/
theorem Rd.from {h : H} {v : Value} {l : List UInt8} (a : Rd h v l) (k : Nat) (hk : k ≤ l.length) :
    ∃ v', sliceSl 1 v (some (.int .i64 (k : Int))) none none = some v' ∧ Rd h v' (l.drop k) ∧ ∀ b, blk v' b → blk v b := by
  rcases a with ⟨rfl, rfl⟩ | ⟨b, o, c, x, cs, rfl, h1, h2, h3, h4, h5⟩
  · have : k = 0 := by simpa using hk
    subst this
    refine ⟨.slice none 0 0, by rfl, .inl ⟨rfl, rfl⟩, fun b hb => hb⟩
  · have hrd : ∀ c', CapOk c' (l.length - k) → Rd h (.slice (some ⟨b, o + k, none⟩) (l.length - k) c') (l.drop k) := fun c' hc => by
      refine .inr ⟨b, o + k, c', x, cs, by simp, h1, h2, by simp; omega, ?_, by simpa using hc⟩
      rw [List.length_drop, List.map_drop, ← h4, ← List.drop_drop, List.drop_take]
    have hb : bnds (some (.int .i64 (k : Int))) none none l.length (Nat.max l.length (lbOf c)) = some (k, l.length, Nat.max l.length (lbOf c)) := by
      simp only [bnds, bnd_none, bnd_some .i64 k _ _ hk]
    have hb' : bnds (some (.int .i64 (k : Int))) none none l.length c = some (k, l.length, c) := by
      simp only [bnds, bnd_none, bnd_some .i64 k _ _ hk]
    rcases h5 with ⟨c1, c2⟩ | ⟨c1, c2⟩
    · refine ⟨.slice (some ⟨b, o + k, none⟩) (l.length - k) (opCap (Nat.max l.length (lbOf c) - k) 1), ?_, hrd _ (.inl ⟨opCap_open _, opCap_size _⟩), by simp⟩
      simp only [sliceSl, c1, c2, hb, addOff, Nat.mul_one]
    · by_cases hc : c = k
      · have hz : l.length - k = 0 := by omega
        refine ⟨.slice (some ⟨b, o, none⟩) (l.length - k) 0, ?_, .inr ⟨b, o, 0, x, cs, by simp, h1, h2, by simp; omega, by rw [List.length_drop, hz]; simp; omega, .inr ⟨rfl, by simp; omega⟩⟩, by simp⟩
        have e : Nat.beq c k = true := by rw [hc]; exact Nat.beq_refl _
        simp only [sliceSl, c1, hb', e]
      · refine ⟨.slice (some ⟨b, o + k, none⟩) (l.length - k) (c - k), ?_, hrd _ (.inr ⟨?_, by omega⟩), by simp⟩
        · have e : Nat.beq c k = false := by rw [Bool.eq_false_iff]; intro e; exact hc (Nat.eq_of_beq_eq_true e)
          simp only [sliceSl, c1, hb', e, addOff, Nat.mul_one]
        · rw [Bool.eq_false_iff] at c1 ⊢
          intro e
          exact c1 (Nat.ble_eq_true_of_le (Nat.le_trans (Nat.le_of_ble_eq_true e) (Nat.sub_le _ _)))
/-- cut off behind; and both -/
theorem Rd.mid {h : H} {v : Value} {l : List UInt8} (a : Rd h v l) (lo : Option Value) (k n : Nat) (hlo : lo = none ∧ k = 0 ∨ lo = some (.int .i64 (k : Int))) (hk : k ≤ n) (hn : n ≤ l.length) (kd : IntKind) :
    ∃ v', sliceSl 1 v lo (some (.int kd (n : Int))) none = some v' ∧ Rd h v' ((l.take n).drop k) ∧ ∀ b, blk v' b → blk v b := by
  have hbl : ∀ y, n ≤ y → bnd lo 0 n = some k := fun y _ => by
    rcases hlo with ⟨rfl, rfl⟩ | rfl
    · rfl
    · exact bnd_some .i64 k _ _ hk
  rcases a with ⟨rfl, rfl⟩ | ⟨b, o, c, x, cs, rfl, h1, h2, h3, h4, h5⟩
  · have : n = 0 := by simpa using hn
    subst this
    have : k = 0 := by omega
    subst this
    refine ⟨.slice none 0 0, ?_, .inl ⟨rfl, by simp⟩, fun b hb => hb⟩
    rcases hlo with ⟨rfl, _⟩ | rfl <;> rfl
  · have hrd : ∀ c', CapOk c' (n - k) → Rd h (.slice (some ⟨b, o + k, none⟩) (n - k) c') ((l.take n).drop k) := fun c' hc => by
      have hl : ((l.take n).drop k).length = n - k := by simp; omega
      refine .inr ⟨b, o + k, c', x, cs, by rw [hl], h1, h2, by rw [hl]; omega, ?_, by rw [hl]; exact hc⟩
      have e1 : ((l.take n).drop k).map bv = ((l.map bv).take n).drop k := by simp
      rw [hl, e1, ← h4, ← List.drop_drop, List.take_take, Nat.min_eq_left hn, List.drop_take]
    have hb : ∀ cp, n ≤ cp → bnds lo (some (.int kd (n : Int))) none l.length cp = some (k, n, cp) := fun cp hcp => by
      simp only [bnds, bnd_none, bnd_some kd n _ _ hcp, hbl cp hcp]
    rcases h5 with ⟨c1, c2⟩ | ⟨c1, c2⟩
    · refine ⟨.slice (some ⟨b, o + k, none⟩) (n - k) (opCap (Nat.max l.length (lbOf c) - k) 1), ?_, hrd _ (.inl ⟨opCap_open _, opCap_size _⟩), by simp⟩
      have := hb (Nat.max l.length (lbOf c)) (Nat.le_trans hn (Nat.le_max_left _ _))
      simp only [sliceSl, c1, c2, this, addOff, Nat.mul_one]
    · have hb' := hb c (Nat.le_trans hn c2)
      by_cases hc : c = k
      · have hz : n - k = 0 := by omega
        have e : Nat.beq c k = true := by rw [hc]; exact Nat.beq_refl _
        have hl : ((l.take n).drop k).length = 0 := by simp; omega
        refine ⟨.slice (some ⟨b, o, none⟩) (n - k) 0, ?_, .inr ⟨b, o, 0, x, cs, by rw [hl, hz], h1, h2, by rw [hl]; omega, ?_, .inr ⟨rfl, by rw [hl]; exact Nat.le_refl _⟩⟩, by simp⟩
        · simp only [sliceSl, c1, hb', e]
        · rw [List.length_eq_zero_iff.1 hl]; simp
      · refine ⟨.slice (some ⟨b, o + k, none⟩) (n - k) (c - k), ?_, hrd _ (.inr ⟨?_, by omega⟩), by simp⟩
        · have e : Nat.beq c k = false := by rw [Bool.eq_false_iff]; intro e; exact hc (Nat.eq_of_beq_eq_true e)
          simp only [sliceSl, c1, hb', e, addOff, Nat.mul_one]
        · rw [Bool.eq_false_iff] at c1 ⊢
          intro e
          exact c1 (Nat.ble_eq_true_of_le (Nat.le_trans (Nat.le_of_ble_eq_true e) (Nat.sub_le _ _)))
end Go.Proofs.Ytpaolklbogakgaa

namespace Go.Proofs.Ytpaolklbogakgaa
open Go.Ev

/-- the number that bytes begin with, and how many it has -/
def rd : Nat → List UInt8 → Option (Nat × Nat)
  | _, [] => none
  | i, x :: r => if i = 9 ∧ 1 < x.toNat then none else if x.toNat < 128 then (if x.toNat = 0 ∧ 0 < i then none else some (x.toNat, 1)) else (rd (i + 1) r).map fun p => (x.toNat % 128 + 128 * p.1, p.2 + 1)

theorem rd_cons (i : Nat) (x : UInt8) (r : List UInt8) : rd i (x :: r) = if i = 9 ∧ 1 < x.toNat then none else if x.toNat < 128 then (if x.toNat = 0 ∧ 0 < i then none else some (x.toNat, 1)) else (rd (i + 1) r).map fun p => (x.toNat % 128 + 128 * p.1, p.2 + 1) := rfl

theorem rd_bound : ∀ (l : List UInt8) (i n k : Nat), rd i l = some (n, k) → i ≤ 9 → n < 2 ^ (64 - 7 * i) ∧ 0 < k ∧ k ≤ l.length
  | [], i, n, k, h, _ => by simp [rd] at h
  | x :: r, i, n, k, h, hi => by
    unfold rd at h
    split at h
    · cases h
    · rename_i h9
      split at h
      · rename_i hx
        split at h
        · cases h
        · simp only [Option.some.injEq, Prod.mk.injEq] at h
          obtain ⟨rfl, rfl⟩ := h
          refine ⟨?_, by omega, by simp⟩
          by_cases e : i = 9
          · subst e
            have : ¬ 1 < x.toNat := fun h => h9 ⟨rfl, h⟩
            have e2 : 2 ^ (64 - 7 * 9) = 2 := rfl
            omega
          · have : 2 ^ 7 ≤ 2 ^ (64 - 7 * i) := Nat.pow_le_pow_right (by decide) (by omega)
            omega
      · rename_i hx
        rw [Option.map_eq_some_iff] at h
        obtain ⟨⟨n', k'⟩, h1, h2⟩ := h
        simp only [Prod.mk.injEq] at h2
        obtain ⟨rfl, rfl⟩ := h2
        have hi' : i ≠ 9 := fun e => h9 ⟨e, by omega⟩
        obtain ⟨b1, b2, b3⟩ := rd_bound r (i + 1) n' k' h1 (by omega)
        refine ⟨?_, by omega, by simp; omega⟩
        have e : 2 ^ (64 - 7 * i) = 128 * 2 ^ (64 - 7 * (i + 1)) := by
          rw [show 64 - 7 * i = 7 + (64 - 7 * (i + 1)) by omega, Nat.pow_add]
        omega

theorem binV_shl2 (t : TypeId) (c : Bool) (k k' : IntKind) (x y : Int) (h : 0 ≤ y) : binV Try.prog .shl t c (.int k x) (.int k' y) = some (.int k (k.wrap (x * 2 ^ (min y.toNat k.bits)))) := by
  have h' : ¬ y < 0 := by omega
  have e : pureRun Try.prog (binOp .shl t (.int k x) (.int k' y)) = some (.int k (k.wrap (x * 2 ^ (min y.toNat k.bits)))) := by
    simp [pureRun, binOp, Op.shift, h']
  unfold binV
  simp only [binInt]
  cases kEq k k'
  · exact e
  · simp only [orRun, intOp]; exact e
theorem or_u64 (t : TypeId) (c : Bool) (a b : Nat) (ha : a < 2 ^ 64) (hb : b < 2 ^ 64) : binV Try.prog .or t c (.int .u64 (a : Int)) (.int .u64 (b : Int)) = some (.int .u64 ((a ||| b : Nat) : Int)) := by
  have hor : a ||| b < 2 ^ 64 := Nat.or_lt_two_pow ha hb
  have e : ∀ n : Nat, n < 2 ^ 64 → BitVec.ofInt 64 (n : Int) = BitVec.ofNat 64 n := fun n hn => by
    apply BitVec.eq_of_toNat_eq
    simp
  rw [binV_or]
  show some (Value.int .u64 (IntKind.u64.wrap ((BitVec.ofInt 64 (a : Int) ||| BitVec.ofInt 64 (b : Int)).toNat : Int))) = _
  rw [e a ha, e b hb, BitVec.toNat_or, BitVec.toNat_ofNat, BitVec.toNat_ofNat, Nat.mod_eq_of_lt ha, Nat.mod_eq_of_lt hb, wrap_u64 _ (by simpa using hor)]
theorem shl_u64 (t : TypeId) (c : Bool) (k' : IntKind) (a s : Nat) (h : a * 2 ^ s < 2 ^ 64) (hs : s ≤ 64) : binV Try.prog .shl t c (.int .u64 (a : Int)) (.int k' (s : Int)) = some (.int .u64 ((a * 2 ^ s : Nat) : Int)) := by
  rw [binV_shl2 _ _ _ _ _ _ (by omega)]
  have e : min ((s : Int)).toNat IntKind.u64.bits = s := by
    have : IntKind.u64.bits = 64 := rfl
    rw [this]; omega
  have e2 : (a : Int) * 2 ^ s = ((a * 2 ^ s : Nat) : Int) := by simp
  rw [e, e2, wrap_u64 _ (by simpa using h)]
theorem and127 (t : TypeId) (c : Bool) (x : UInt8) : binV Try.prog .and t c (bv x) (.int .u8 127) = some (bv (x &&& 127)) := binV_and_u8 t c x 127
theorem and127_nat (x : UInt8) : (x &&& 127).toNat = x.toNat % 128 := by
  have h : ∀ z : Fin 256, (UInt8.ofNat z.val &&& 127).toNat = z.val % 128 := by decide +kernel
  have := h ⟨x.toNat, x.toNat_lt⟩
  simpa using this
theorem toInt_bv64 (x : UInt8) : toInt .u64 (bv x) = some (.int .u64 ((x.toNat : Nat) : Int)) := by
  have := x.toNat_lt
  simp only [bv, toInt_int, wrap_u64 x.toNat (by omega)]
theorem acc_or (a b i : Nat) (ha : a < 2 ^ (7 * i)) : a ||| b * 2 ^ (7 * i) = a + b * 2 ^ (7 * i) := by
  have := Nat.two_pow_add_eq_or_of_lt ha b
  rw [Nat.or_comm, Nat.mul_comm b, ← this]; omega

section
variable {call : CallT} {L : Nat} {tm : T Value} {h : H} {K : KE}
theorem reg47_5 {i : Nat} {x : UInt8} (t6 : tg tm 6 = .int .i64 (i : Int)) (t7 : tg tm 7 = bv x) : r47_5 call L tm [] h K = K .norm (T.set tm 20 (.bool (decide (i = 9 ∧ 1 < x.toNat)))) [] h := by
  have e : Value.int .u8 1 = bv 1 := rfl
  have e9 : ((9 : Int)) = ((9 : Nat) : Int) := rfl
  by_cases h1 : (i : Int) = 9
  · have h1' : i = 9 := by omega
    by_cases h2 : (1 : Int) < (x.toNat : Int)
    · have h2' : 1 < x.toNat := by omega
      simp only [r47_5, ↓opStep_eq, ↓reduceIte, tg_set, toTm_cons, toTm_nil, fieldPtr_ptr, Nat.add_zero, Nat.zero_add, Nat.reduceAdd, Nat.reduceEqDiff, Int.reduceEq, Int.reduceLT, Int.reduceLE, Int.reduceNe, ↓kO_some, ↓kA_some, ↓kH_some, kO_some, kA_some, kH_some, gd_true, gd_false, nthD_zero, nthD_succ, isB_true, isB_false, isB_undef, pickV_true, pickV_false, binV_add, binV_sub, binV_mul, binV_eql, binV_neq, binV_lss, binV_leq, binV_gtr, binV_geq, unV_not, nt, nf, Bool.false_eq_true, dt, df, decide_true, decide_false, withV_some, aggO_some, ptrTo_eq, ↓aO_some, aO_some, ↓andB_true, andB_true, gz, gs, seqC, retC, skipC, exitC, blockC, condC, cells_agg, t6, t7, bv, h1, h2]
      simp [h1', h2']
    · have h2' : ¬ 1 < x.toNat := by omega
      simp only [r47_5, ↓opStep_eq, ↓reduceIte, tg_set, toTm_cons, toTm_nil, fieldPtr_ptr, Nat.add_zero, Nat.zero_add, Nat.reduceAdd, Nat.reduceEqDiff, Int.reduceEq, Int.reduceLT, Int.reduceLE, Int.reduceNe, ↓kO_some, ↓kA_some, ↓kH_some, kO_some, kA_some, kH_some, gd_true, gd_false, nthD_zero, nthD_succ, isB_true, isB_false, isB_undef, pickV_true, pickV_false, binV_add, binV_sub, binV_mul, binV_eql, binV_neq, binV_lss, binV_leq, binV_gtr, binV_geq, unV_not, nt, nf, Bool.false_eq_true, dt, df, decide_true, decide_false, withV_some, aggO_some, ptrTo_eq, ↓aO_some, aO_some, ↓andB_true, andB_true, gz, gs, seqC, retC, skipC, exitC, blockC, condC, cells_agg, t6, t7, bv, h1, h2]
      simp [h1', h2']
  · have h1' : ¬ i = 9 := by omega
    simp only [r47_5, ↓opStep_eq, ↓reduceIte, tg_set, toTm_cons, toTm_nil, fieldPtr_ptr, Nat.add_zero, Nat.zero_add, Nat.reduceAdd, Nat.reduceEqDiff, Int.reduceEq, Int.reduceLT, Int.reduceLE, Int.reduceNe, ↓kO_some, ↓kA_some, ↓kH_some, kO_some, kA_some, kH_some, gd_true, gd_false, nthD_zero, nthD_succ, isB_true, isB_false, isB_undef, pickV_true, pickV_false, binV_add, binV_sub, binV_mul, binV_eql, binV_neq, binV_lss, binV_leq, binV_gtr, binV_geq, unV_not, nt, nf, Bool.false_eq_true, dt, df, decide_true, decide_false, withV_some, aggO_some, ptrTo_eq, ↓aO_some, aO_some, ↓andB_true, andB_true, gz, gs, seqC, retC, skipC, exitC, blockC, condC, cells_agg, t6, t7, bv, h1]
    simp [h1']
theorem reg47_8 {i : Nat} {x : UInt8} (t6 : tg tm 6 = .int .i64 (i : Int)) (t7 : tg tm 7 = bv x) : r47_8 call L tm [] h K = K .norm (T.set tm 36 (.bool (decide (x.toNat = 0 ∧ 0 < i)))) [] h := by
  by_cases h1 : (x.toNat : Int) = 0
  · have h1' : x.toNat = 0 := by omega
    by_cases h2 : (0 : Int) < (i : Int)
    · have h2' : 0 < i := by omega
      simp only [r47_8, ↓opStep_eq, ↓reduceIte, tg_set, toTm_cons, toTm_nil, fieldPtr_ptr, Nat.add_zero, Nat.zero_add, Nat.reduceAdd, Nat.reduceEqDiff, Int.reduceEq, Int.reduceLT, Int.reduceLE, Int.reduceNe, ↓kO_some, ↓kA_some, ↓kH_some, kO_some, kA_some, kH_some, gd_true, gd_false, nthD_zero, nthD_succ, isB_true, isB_false, isB_undef, pickV_true, pickV_false, binV_add, binV_sub, binV_mul, binV_eql, binV_neq, binV_lss, binV_leq, binV_gtr, binV_geq, unV_not, nt, nf, Bool.false_eq_true, dt, df, decide_true, decide_false, withV_some, aggO_some, ptrTo_eq, ↓aO_some, aO_some, ↓andB_true, andB_true, gz, gs, seqC, retC, skipC, exitC, blockC, condC, cells_agg, t6, t7, bv, h1, h2]
      simp [h1', h2']
    · have h2' : ¬ 0 < i := by omega
      simp only [r47_8, ↓opStep_eq, ↓reduceIte, tg_set, toTm_cons, toTm_nil, fieldPtr_ptr, Nat.add_zero, Nat.zero_add, Nat.reduceAdd, Nat.reduceEqDiff, Int.reduceEq, Int.reduceLT, Int.reduceLE, Int.reduceNe, ↓kO_some, ↓kA_some, ↓kH_some, kO_some, kA_some, kH_some, gd_true, gd_false, nthD_zero, nthD_succ, isB_true, isB_false, isB_undef, pickV_true, pickV_false, binV_add, binV_sub, binV_mul, binV_eql, binV_neq, binV_lss, binV_leq, binV_gtr, binV_geq, unV_not, nt, nf, Bool.false_eq_true, dt, df, decide_true, decide_false, withV_some, aggO_some, ptrTo_eq, ↓aO_some, aO_some, ↓andB_true, andB_true, gz, gs, seqC, retC, skipC, exitC, blockC, condC, cells_agg, t6, t7, bv, h1, h2]
      simp [h1', h2']
  · have h1' : ¬ x.toNat = 0 := by omega
    simp only [r47_8, ↓opStep_eq, ↓reduceIte, tg_set, toTm_cons, toTm_nil, fieldPtr_ptr, Nat.add_zero, Nat.zero_add, Nat.reduceAdd, Nat.reduceEqDiff, Int.reduceEq, Int.reduceLT, Int.reduceLE, Int.reduceNe, ↓kO_some, ↓kA_some, ↓kH_some, kO_some, kA_some, kH_some, gd_true, gd_false, nthD_zero, nthD_succ, isB_true, isB_false, isB_undef, pickV_true, pickV_false, binV_add, binV_sub, binV_mul, binV_eql, binV_neq, binV_lss, binV_leq, binV_gtr, binV_geq, unV_not, nt, nf, Bool.false_eq_true, dt, df, decide_true, decide_false, withV_some, aggO_some, ptrTo_eq, ↓aO_some, aO_some, ↓andB_true, andB_true, gz, gs, seqC, retC, skipC, exitC, blockC, condC, cells_agg, t6, t7, bv, h1]
    simp [h1']
theorem reg47_6 {i acc : Nat} {x : UInt8} (hi : i ≤ 9) (hx : i = 9 → x.toNat ≤ 1) (ha : acc < 2 ^ (7 * i)) (t5 : tg tm 5 = .int .u64 (acc : Int)) (t6 : tg tm 6 = .int .i64 (i : Int)) (t7 : tg tm 7 = bv x) :
    r47_6 call L tm [] h K = K .norm (T.set tm 5 (.int .u64 ((acc + x.toNat % 128 * 2 ^ (7 * i) : Nat) : Int))) [] h := by
  have hm : binV Try.prog .mul 3 true (.int .i64 7) (.int .i64 (i : Int)) = some (.int .i64 ((7 * i : Nat) : Int)) := by
    rw [binV_mul, wrap_eq] <;> simp [IntKind.min, IntKind.max, IntKind.bits, IntKind.signed] <;> omega
  have hlt : x.toNat % 128 * 2 ^ (7 * i) < 2 ^ 64 := by
    by_cases e : i = 9
    · subst e
      have := hx rfl
      have e2 : 2 ^ (7 * 9) = 9223372036854775808 := rfl
      have e3 : 2 ^ 64 = 18446744073709551616 := rfl
      omega
    · have h1 : 2 ^ (7 * i) ≤ 2 ^ 56 := Nat.pow_le_pow_right (by decide) (by omega)
      have h2 : x.toNat % 128 * 2 ^ (7 * i) ≤ 127 * 2 ^ 56 := Nat.mul_le_mul (by omega) h1
      have e3 : 127 * 2 ^ 56 < 2 ^ 64 := by decide
      omega
  have hacc : acc < 2 ^ 64 := Nat.lt_of_lt_of_le ha (Nat.pow_le_pow_right (by decide) (by omega))
  have hs := shl_u64 23 false .i64 (x.toNat % 128) (7 * i) hlt (by omega)
  have ho := or_u64 23 false acc (x.toNat % 128 * 2 ^ (7 * i)) hacc hlt
  rw [acc_or _ _ _ ha] at ho
  have h64 : toInt .u64 (bv (x &&& 127)) = some (.int .u64 ((x.toNat % 128 : Nat) : Int)) := by rw [toInt_bv64, and127_nat]
  simp only [r47_6, ↓opStep_eq, ↓reduceIte, tg_set, toTm_cons, toTm_nil, fieldPtr_ptr, Nat.add_zero, Nat.zero_add, Nat.reduceAdd, Nat.reduceEqDiff, Int.reduceEq, Int.reduceLT, Int.reduceLE, Int.reduceNe, ↓kO_some, ↓kA_some, ↓kH_some, kO_some, kA_some, kH_some, gd_true, gd_false, nthD_zero, nthD_succ, isB_true, isB_false, isB_undef, pickV_true, pickV_false, binV_add, binV_sub, binV_mul, binV_eql, binV_neq, binV_lss, binV_leq, binV_gtr, binV_geq, unV_not, nt, nf, Bool.false_eq_true, dt, df, decide_true, decide_false, withV_some, aggO_some, ptrTo_eq, ↓aO_some, aO_some, ↓andB_true, andB_true, gz, gs, seqC, retC, skipC, exitC, blockC, condC, cells_agg, t5, t6, t7, and127, h64, hm, hs, ho]
end

/-- how a reader answers -/
def rdV (l : List UInt8) : Value := match rd 0 l with
  | some (n, k) => .tuple [.int .u64 (n : Int), .int .i64 (k : Int), .int .i64 0].toArray
  | none => .tuple [.int .u64 0, .int .i64 0, .int .i64 8].toArray

theorem code_read (L n : Nat) (v : Value) (l : List UInt8) (h : H) (hr : Rd h v l) (hL : l.length < L) (h63 : l.length < 1000000) :
    Sp (CF L (n + 1)) 47 [v] h fun r h' => r = rdV l ∧ h' = h := by
  refine Sp.body f47 (by simp) ?_
  unfold c47
  refine C.seq fun K hK => hK .norm _ _ (C.seq fun K hK => hK .norm _ _ (C.seq (C.seq fun K hK => ?_)))
  simp only [↓opStep_eq, ↓reduceIte, tg_set, toTm_cons, toTm_nil, fieldPtr_ptr, Nat.add_zero, Nat.zero_add, Nat.reduceAdd, Nat.reduceEqDiff, Int.reduceEq, Int.reduceLT, Int.reduceLE, Int.reduceNe, ↓kO_some, ↓kA_some, ↓kH_some, kO_some, kA_some, kH_some, gd_true, gd_false, nthD_zero, nthD_succ, isB_true, isB_false, isB_undef, pickV_true, pickV_false, binV_add, binV_sub, binV_mul, binV_eql, binV_neq, binV_lss, binV_leq, binV_gtr, binV_geq, unV_not, nt, nf, Bool.false_eq_true, dt, df, decide_true, decide_false, withV_some, aggO_some, ptrTo_eq, ↓aO_some, aO_some, ↓andB_true, andB_true, gz, gs, seqC, retC, skipC, exitC, blockC, condC, cells_agg, r47_2, hr.len]
  refine hK _ _ _ ?_
  refine C.block (C.loop (fun k tm hx => ∃ (i acc : Nat), k = l.length - i ∧ i ≤ l.length ∧ (i < l.length → i ≤ 9) ∧ acc < 2 ^ (7 * i) ∧ rd 0 l = (rd i (l.drop i)).map (fun p => (acc + 2 ^ (7 * i) * p.1, i + p.2)) ∧ tg tm 0 = v ∧ tg tm 5 = .int .u64 (acc : Int) ∧ tg tm 8 = v ∧ tg tm 9 = .int .i64 (l.length : Int) ∧ tg tm 10 = .int .i64 (i : Int) ∧ hx = h) l.length hL
    ⟨0, 0, by simp, by simp, by simp, by decide, by simp, by simp only [↓opStep_eq, ↓reduceIte, tg_set, toTm_cons, toTm_nil, fieldPtr_ptr, Nat.add_zero, Nat.zero_add, Nat.reduceAdd, Nat.reduceEqDiff, Int.reduceEq, Int.reduceLT, Int.reduceLE, Int.reduceNe, ↓kO_some, ↓kA_some, ↓kH_some, kO_some, kA_some, kH_some, gd_true, gd_false, nthD_zero, nthD_succ, isB_true, isB_false, isB_undef, pickV_true, pickV_false, binV_add, binV_sub, binV_mul, binV_eql, binV_neq, binV_lss, binV_leq, binV_gtr, binV_geq, unV_not, nt, nf, Bool.false_eq_true, dt, df, decide_true, decide_false, withV_some, aggO_some, ptrTo_eq, ↓aO_some, aO_some, ↓andB_true, andB_true, gz, gs, seqC, retC, skipC, exitC, blockC, condC, cells_agg], by simp only [↓opStep_eq, ↓reduceIte, tg_set, toTm_cons, toTm_nil, fieldPtr_ptr, Nat.add_zero, Nat.zero_add, Nat.reduceAdd, Nat.reduceEqDiff, Int.reduceEq, Int.reduceLT, Int.reduceLE, Int.reduceNe, ↓kO_some, ↓kA_some, ↓kH_some, kO_some, kA_some, kH_some, gd_true, gd_false, nthD_zero, nthD_succ, isB_true, isB_false, isB_undef, pickV_true, pickV_false, binV_add, binV_sub, binV_mul, binV_eql, binV_neq, binV_lss, binV_leq, binV_gtr, binV_geq, unV_not, nt, nf, Bool.false_eq_true, dt, df, decide_true, decide_false, withV_some, aggO_some, ptrTo_eq, ↓aO_some, aO_some, ↓andB_true, andB_true, gz, gs, seqC, retC, skipC, exitC, blockC, condC, cells_agg] <;> rfl, by simp only [↓opStep_eq, ↓reduceIte, tg_set, toTm_cons, toTm_nil, fieldPtr_ptr, Nat.add_zero, Nat.zero_add, Nat.reduceAdd, Nat.reduceEqDiff, Int.reduceEq, Int.reduceLT, Int.reduceLE, Int.reduceNe, ↓kO_some, ↓kA_some, ↓kH_some, kO_some, kA_some, kH_some, gd_true, gd_false, nthD_zero, nthD_succ, isB_true, isB_false, isB_undef, pickV_true, pickV_false, binV_add, binV_sub, binV_mul, binV_eql, binV_neq, binV_lss, binV_leq, binV_gtr, binV_geq, unV_not, nt, nf, Bool.false_eq_true, dt, df, decide_true, decide_false, withV_some, aggO_some, ptrTo_eq, ↓aO_some, aO_some, ↓andB_true, andB_true, gz, gs, seqC, retC, skipC, exitC, blockC, condC, cells_agg], by simp only [↓opStep_eq, ↓reduceIte, tg_set, toTm_cons, toTm_nil, fieldPtr_ptr, Nat.add_zero, Nat.zero_add, Nat.reduceAdd, Nat.reduceEqDiff, Int.reduceEq, Int.reduceLT, Int.reduceLE, Int.reduceNe, ↓kO_some, ↓kA_some, ↓kH_some, kO_some, kA_some, kH_some, gd_true, gd_false, nthD_zero, nthD_succ, isB_true, isB_false, isB_undef, pickV_true, pickV_false, binV_add, binV_sub, binV_mul, binV_eql, binV_neq, binV_lss, binV_leq, binV_gtr, binV_geq, unV_not, nt, nf, Bool.false_eq_true, dt, df, decide_true, decide_false, withV_some, aggO_some, ptrTo_eq, ↓aO_some, aO_some, ↓andB_true, andB_true, gz, gs, seqC, retC, skipC, exitC, blockC, condC, cells_agg], by simp only [↓opStep_eq, ↓reduceIte, tg_set, toTm_cons, toTm_nil, fieldPtr_ptr, Nat.add_zero, Nat.zero_add, Nat.reduceAdd, Nat.reduceEqDiff, Int.reduceEq, Int.reduceLT, Int.reduceLE, Int.reduceNe, ↓kO_some, ↓kA_some, ↓kH_some, kO_some, kA_some, kH_some, gd_true, gd_false, nthD_zero, nthD_succ, isB_true, isB_false, isB_undef, pickV_true, pickV_false, binV_add, binV_sub, binV_mul, binV_eql, binV_neq, binV_lss, binV_leq, binV_gtr, binV_geq, unV_not, nt, nf, Bool.false_eq_true, dt, df, decide_true, decide_false, withV_some, aggO_some, ptrTo_eq, ↓aO_some, aO_some, ↓andB_true, andB_true, gz, gs, seqC, retC, skipC, exitC, blockC, condC, cells_agg] <;> rfl, rfl⟩ ?_)
  rintro k tm hx ⟨i, acc, rfl, hil, h9, ha, hrd, t0, t5, t8, t9, t10, rfl⟩
  have bad : rd 0 l = none → ∀ tm, C ⟨seqC ⟨r47_11⟩ retC⟩ (callF Try.prog (maskOf masks) outside NG L n) L tm hx fun e tm h' => (e = .norm ∨ e = .ret) ∧ ∃ l_1, q47.f tm h' = some l_1 ∧ resOf l_1 = rdV l ∧ h' = hx := fun hn tm =>
    C.seq fun K hK => hK .norm _ _ (C.ret ⟨.inr rfl, _, rfl, by simp only [rdV, hn]; simp [resOf], rfl⟩)
  unfold l47_11
  refine C.seq fun K hK => ?_
  simp only [↓opStep_eq, ↓reduceIte, tg_set, toTm_cons, toTm_nil, fieldPtr_ptr, Nat.add_zero, Nat.zero_add, Nat.reduceAdd, Nat.reduceEqDiff, Int.reduceEq, Int.reduceLT, Int.reduceLE, Int.reduceNe, ↓kO_some, ↓kA_some, ↓kH_some, kO_some, kA_some, kH_some, gd_true, gd_false, nthD_zero, nthD_succ, isB_true, isB_false, isB_undef, pickV_true, pickV_false, binV_add, binV_sub, binV_mul, binV_eql, binV_neq, binV_lss, binV_leq, binV_gtr, binV_geq, unV_not, nt, nf, Bool.false_eq_true, dt, df, decide_true, decide_false, withV_some, aggO_some, ptrTo_eq, ↓aO_some, aO_some, ↓andB_true, andB_true, gz, gs, seqC, retC, skipC, exitC, blockC, condC, cells_agg, r47_3, t9, t10]
  refine hK _ _ _ (C.seq (C.cond (decide ((i : Int) < l.length)) (by simp only [↓opStep_eq, ↓reduceIte, tg_set, toTm_cons, toTm_nil, fieldPtr_ptr, Nat.add_zero, Nat.zero_add, Nat.reduceAdd, Nat.reduceEqDiff, Int.reduceEq, Int.reduceLT, Int.reduceLE, Int.reduceNe, ↓kO_some, ↓kA_some, ↓kH_some, kO_some, kA_some, kH_some, gd_true, gd_false, nthD_zero, nthD_succ, isB_true, isB_false, isB_undef, pickV_true, pickV_false, binV_add, binV_sub, binV_mul, binV_eql, binV_neq, binV_lss, binV_leq, binV_gtr, binV_geq, unV_not, nt, nf, Bool.false_eq_true, dt, df, decide_true, decide_false, withV_some, aggO_some, ptrTo_eq, ↓aO_some, aO_some, ↓andB_true, andB_true, gz, gs, seqC, retC, skipC, exitC, blockC, condC, cells_agg]) (fun hy => C.skip ?_) fun hy => C.exit ?_))
  · have hlt : i < l.length := by simpa using hy
    obtain ⟨x, hxi⟩ : ∃ x, l[i]? = some x := ⟨l[i], List.getElem?_eq_getElem hlt⟩
    have hdrop : l.drop i = x :: l.drop (i + 1) := by
      rw [List.drop_eq_getElem_cons hlt]
      rw [List.getElem?_eq_getElem hlt] at hxi
      simp only [Option.some.injEq] at hxi
      rw [hxi]
    rw [hdrop] at hrd
    obtain ⟨b, o, e1, e2, _⟩ := hr.at hxi
    refine C.seq (C.block (C.seq fun K hK => ?_))
    simp only [↓opStep_eq, ↓reduceIte, tg_set, toTm_cons, toTm_nil, fieldPtr_ptr, Nat.add_zero, Nat.zero_add, Nat.reduceAdd, Nat.reduceEqDiff, Int.reduceEq, Int.reduceLT, Int.reduceLE, Int.reduceNe, ↓kO_some, ↓kA_some, ↓kH_some, kO_some, kA_some, kH_some, gd_true, gd_false, nthD_zero, nthD_succ, isB_true, isB_false, isB_undef, pickV_true, pickV_false, binV_add, binV_sub, binV_mul, binV_eql, binV_neq, binV_lss, binV_leq, binV_gtr, binV_geq, unV_not, nt, nf, Bool.false_eq_true, dt, df, decide_true, decide_false, withV_some, aggO_some, ptrTo_eq, ↓aO_some, aO_some, ↓andB_true, andB_true, gz, gs, seqC, retC, skipC, exitC, blockC, condC, cells_agg, r47_4, t8, t10, e1, e2]
    refine hK _ _ _ (C.seq (C.seq fun K hK => ?_))
    rw [show ∀ x : CodeT, (⟨x⟩ : Box CodeT).f = x from fun _ => rfl]
    rw [reg47_5 (i := i) (x := x) (by simp only [↓opStep_eq, ↓reduceIte, tg_set, toTm_cons, toTm_nil, fieldPtr_ptr, Nat.add_zero, Nat.zero_add, Nat.reduceAdd, Nat.reduceEqDiff, Int.reduceEq, Int.reduceLT, Int.reduceLE, Int.reduceNe, ↓kO_some, ↓kA_some, ↓kH_some, kO_some, kA_some, kH_some, gd_true, gd_false, nthD_zero, nthD_succ, isB_true, isB_false, isB_undef, pickV_true, pickV_false, binV_add, binV_sub, binV_mul, binV_eql, binV_neq, binV_lss, binV_leq, binV_gtr, binV_geq, unV_not, nt, nf, Bool.false_eq_true, dt, df, decide_true, decide_false, withV_some, aggO_some, ptrTo_eq, ↓aO_some, aO_some, ↓andB_true, andB_true, gz, gs, seqC, retC, skipC, exitC, blockC, condC, cells_agg, t10]) (by simp only [↓opStep_eq, ↓reduceIte, tg_set, toTm_cons, toTm_nil, fieldPtr_ptr, Nat.add_zero, Nat.zero_add, Nat.reduceAdd, Nat.reduceEqDiff, Int.reduceEq, Int.reduceLT, Int.reduceLE, Int.reduceNe, ↓kO_some, ↓kA_some, ↓kH_some, kO_some, kA_some, kH_some, gd_true, gd_false, nthD_zero, nthD_succ, isB_true, isB_false, isB_undef, pickV_true, pickV_false, binV_add, binV_sub, binV_mul, binV_eql, binV_neq, binV_lss, binV_leq, binV_gtr, binV_geq, unV_not, nt, nf, Bool.false_eq_true, dt, df, decide_true, decide_false, withV_some, aggO_some, ptrTo_eq, ↓aO_some, aO_some, ↓andB_true, andB_true, gz, gs, seqC, retC, skipC, exitC, blockC, condC, cells_agg])]
    refine hK _ _ _ (C.cond (decide (i = 9 ∧ 1 < x.toNat)) (by simp only [↓opStep_eq, ↓reduceIte, tg_set, toTm_cons, toTm_nil, fieldPtr_ptr, Nat.add_zero, Nat.zero_add, Nat.reduceAdd, Nat.reduceEqDiff, Int.reduceEq, Int.reduceLT, Int.reduceLE, Int.reduceNe, ↓kO_some, ↓kA_some, ↓kH_some, kO_some, kA_some, kH_some, gd_true, gd_false, nthD_zero, nthD_succ, isB_true, isB_false, isB_undef, pickV_true, pickV_false, binV_add, binV_sub, binV_mul, binV_eql, binV_neq, binV_lss, binV_leq, binV_gtr, binV_geq, unV_not, nt, nf, Bool.false_eq_true, dt, df, decide_true, decide_false, withV_some, aggO_some, ptrTo_eq, ↓aO_some, aO_some, ↓andB_true, andB_true, gz, gs, seqC, retC, skipC, exitC, blockC, condC, cells_agg]) (fun g => C.exit ?_) fun g => C.skip ?_)
    · have g : i = 9 ∧ 1 < x.toNat := of_decide_eq_true g
      refine bad ?_ _
      rw [hrd, rd_cons, if_pos g]; rfl
    have g : ¬ (i = 9 ∧ 1 < x.toNat) := of_decide_eq_false g
    refine C.seq fun K hK => ?_
    rw [show ∀ x : CodeT, (⟨x⟩ : Box CodeT).f = x from fun _ => rfl]
    rw [reg47_6 (i := i) (acc := acc) (x := x) (h9 hlt) (fun e => by omega) ha (by simp only [↓opStep_eq, ↓reduceIte, tg_set, toTm_cons, toTm_nil, fieldPtr_ptr, Nat.add_zero, Nat.zero_add, Nat.reduceAdd, Nat.reduceEqDiff, Int.reduceEq, Int.reduceLT, Int.reduceLE, Int.reduceNe, ↓kO_some, ↓kA_some, ↓kH_some, kO_some, kA_some, kH_some, gd_true, gd_false, nthD_zero, nthD_succ, isB_true, isB_false, isB_undef, pickV_true, pickV_false, binV_add, binV_sub, binV_mul, binV_eql, binV_neq, binV_lss, binV_leq, binV_gtr, binV_geq, unV_not, nt, nf, Bool.false_eq_true, dt, df, decide_true, decide_false, withV_some, aggO_some, ptrTo_eq, ↓aO_some, aO_some, ↓andB_true, andB_true, gz, gs, seqC, retC, skipC, exitC, blockC, condC, cells_agg, t5]) (by simp only [↓opStep_eq, ↓reduceIte, tg_set, toTm_cons, toTm_nil, fieldPtr_ptr, Nat.add_zero, Nat.zero_add, Nat.reduceAdd, Nat.reduceEqDiff, Int.reduceEq, Int.reduceLT, Int.reduceLE, Int.reduceNe, ↓kO_some, ↓kA_some, ↓kH_some, kO_some, kA_some, kH_some, gd_true, gd_false, nthD_zero, nthD_succ, isB_true, isB_false, isB_undef, pickV_true, pickV_false, binV_add, binV_sub, binV_mul, binV_eql, binV_neq, binV_lss, binV_leq, binV_gtr, binV_geq, unV_not, nt, nf, Bool.false_eq_true, dt, df, decide_true, decide_false, withV_some, aggO_some, ptrTo_eq, ↓aO_some, aO_some, ↓andB_true, andB_true, gz, gs, seqC, retC, skipC, exitC, blockC, condC, cells_agg, t10]) (by simp only [↓opStep_eq, ↓reduceIte, tg_set, toTm_cons, toTm_nil, fieldPtr_ptr, Nat.add_zero, Nat.zero_add, Nat.reduceAdd, Nat.reduceEqDiff, Int.reduceEq, Int.reduceLT, Int.reduceLE, Int.reduceNe, ↓kO_some, ↓kA_some, ↓kH_some, kO_some, kA_some, kH_some, gd_true, gd_false, nthD_zero, nthD_succ, isB_true, isB_false, isB_undef, pickV_true, pickV_false, binV_add, binV_sub, binV_mul, binV_eql, binV_neq, binV_lss, binV_leq, binV_gtr, binV_geq, unV_not, nt, nf, Bool.false_eq_true, dt, df, decide_true, decide_false, withV_some, aggO_some, ptrTo_eq, ↓aO_some, aO_some, ↓andB_true, andB_true, gz, gs, seqC, retC, skipC, exitC, blockC, condC, cells_agg])]
    refine hK _ _ _ (C.seq fun K hK => ?_)
    simp only [↓opStep_eq, ↓reduceIte, tg_set, toTm_cons, toTm_nil, fieldPtr_ptr, Nat.add_zero, Nat.zero_add, Nat.reduceAdd, Nat.reduceEqDiff, Int.reduceEq, Int.reduceLT, Int.reduceLE, Int.reduceNe, ↓kO_some, ↓kA_some, ↓kH_some, kO_some, kA_some, kH_some, gd_true, gd_false, nthD_zero, nthD_succ, isB_true, isB_false, isB_undef, pickV_true, pickV_false, binV_add, binV_sub, binV_mul, binV_eql, binV_neq, binV_lss, binV_leq, binV_gtr, binV_geq, unV_not, nt, nf, Bool.false_eq_true, dt, df, decide_true, decide_false, withV_some, aggO_some, ptrTo_eq, ↓aO_some, aO_some, ↓andB_true, andB_true, gz, gs, seqC, retC, skipC, exitC, blockC, condC, cells_agg, r47_7, bv]
    refine hK _ _ _ (C.cond (decide ((x.toNat : Int) < 128)) (by simp only [↓opStep_eq, ↓reduceIte, tg_set, toTm_cons, toTm_nil, fieldPtr_ptr, Nat.add_zero, Nat.zero_add, Nat.reduceAdd, Nat.reduceEqDiff, Int.reduceEq, Int.reduceLT, Int.reduceLE, Int.reduceNe, ↓kO_some, ↓kA_some, ↓kH_some, kO_some, kA_some, kH_some, gd_true, gd_false, nthD_zero, nthD_succ, isB_true, isB_false, isB_undef, pickV_true, pickV_false, binV_add, binV_sub, binV_mul, binV_eql, binV_neq, binV_lss, binV_leq, binV_gtr, binV_geq, unV_not, nt, nf, Bool.false_eq_true, dt, df, decide_true, decide_false, withV_some, aggO_some, ptrTo_eq, ↓aO_some, aO_some, ↓andB_true, andB_true, gz, gs, seqC, retC, skipC, exitC, blockC, condC, cells_agg]) (fun g2 => ?_) fun g2 => C.skip ?_)
    · have g2 : x.toNat < 128 := by have := of_decide_eq_true g2; omega
      refine C.seq (C.seq fun K hK => ?_)
      rw [show ∀ x : CodeT, (⟨x⟩ : Box CodeT).f = x from fun _ => rfl]
      rw [reg47_8 (i := i) (x := x) (by simp only [↓opStep_eq, ↓reduceIte, tg_set, toTm_cons, toTm_nil, fieldPtr_ptr, Nat.add_zero, Nat.zero_add, Nat.reduceAdd, Nat.reduceEqDiff, Int.reduceEq, Int.reduceLT, Int.reduceLE, Int.reduceNe, ↓kO_some, ↓kA_some, ↓kH_some, kO_some, kA_some, kH_some, gd_true, gd_false, nthD_zero, nthD_succ, isB_true, isB_false, isB_undef, pickV_true, pickV_false, binV_add, binV_sub, binV_mul, binV_eql, binV_neq, binV_lss, binV_leq, binV_gtr, binV_geq, unV_not, nt, nf, Bool.false_eq_true, dt, df, decide_true, decide_false, withV_some, aggO_some, ptrTo_eq, ↓aO_some, aO_some, ↓andB_true, andB_true, gz, gs, seqC, retC, skipC, exitC, blockC, condC, cells_agg, t10]) (by simp only [↓opStep_eq, ↓reduceIte, tg_set, toTm_cons, toTm_nil, fieldPtr_ptr, Nat.add_zero, Nat.zero_add, Nat.reduceAdd, Nat.reduceEqDiff, Int.reduceEq, Int.reduceLT, Int.reduceLE, Int.reduceNe, ↓kO_some, ↓kA_some, ↓kH_some, kO_some, kA_some, kH_some, gd_true, gd_false, nthD_zero, nthD_succ, isB_true, isB_false, isB_undef, pickV_true, pickV_false, binV_add, binV_sub, binV_mul, binV_eql, binV_neq, binV_lss, binV_leq, binV_gtr, binV_geq, unV_not, nt, nf, Bool.false_eq_true, dt, df, decide_true, decide_false, withV_some, aggO_some, ptrTo_eq, ↓aO_some, aO_some, ↓andB_true, andB_true, gz, gs, seqC, retC, skipC, exitC, blockC, condC, cells_agg, bv])]
      refine hK _ _ _ (C.cond (decide (x.toNat = 0 ∧ 0 < i)) (by simp only [↓opStep_eq, ↓reduceIte, tg_set, toTm_cons, toTm_nil, fieldPtr_ptr, Nat.add_zero, Nat.zero_add, Nat.reduceAdd, Nat.reduceEqDiff, Int.reduceEq, Int.reduceLT, Int.reduceLE, Int.reduceNe, ↓kO_some, ↓kA_some, ↓kH_some, kO_some, kA_some, kH_some, gd_true, gd_false, nthD_zero, nthD_succ, isB_true, isB_false, isB_undef, pickV_true, pickV_false, binV_add, binV_sub, binV_mul, binV_eql, binV_neq, binV_lss, binV_leq, binV_gtr, binV_geq, unV_not, nt, nf, Bool.false_eq_true, dt, df, decide_true, decide_false, withV_some, aggO_some, ptrTo_eq, ↓aO_some, aO_some, ↓andB_true, andB_true, gz, gs, seqC, retC, skipC, exitC, blockC, condC, cells_agg]) (fun g3 => C.exit ?_) fun g3 => C.skip ?_)
      · have g3 : x.toNat = 0 ∧ 0 < i := of_decide_eq_true g3
        refine bad ?_ _
        rw [hrd, rd_cons, if_neg g, if_pos g2, if_pos g3]; rfl
      · have g3 : ¬ (x.toNat = 0 ∧ 0 < i) := of_decide_eq_false g3
        refine C.seq fun K hK => ?_
        simp only [↓opStep_eq, ↓reduceIte, tg_set, toTm_cons, toTm_nil, fieldPtr_ptr, Nat.add_zero, Nat.zero_add, Nat.reduceAdd, Nat.reduceEqDiff, Int.reduceEq, Int.reduceLT, Int.reduceLE, Int.reduceNe, ↓kO_some, ↓kA_some, ↓kH_some, kO_some, kA_some, kH_some, gd_true, gd_false, nthD_zero, nthD_succ, isB_true, isB_false, isB_undef, pickV_true, pickV_false, binV_add, binV_sub, binV_mul, binV_eql, binV_neq, binV_lss, binV_leq, binV_gtr, binV_geq, unV_not, nt, nf, Bool.false_eq_true, dt, df, decide_true, decide_false, withV_some, aggO_some, ptrTo_eq, ↓aO_some, aO_some, ↓andB_true, andB_true, gz, gs, seqC, retC, skipC, exitC, blockC, condC, cells_agg, r47_9, t10, wrap_succ i (show i < 9223372036854775807 by omega)]
        have hv : rd 0 l = some (acc + x.toNat % 128 * 2 ^ (7 * i), i + 1) := by
          rw [hrd, rd_cons, if_neg g, if_pos g2, if_neg g3]
          simp only [Option.map_some, Nat.mod_eq_of_lt g2, Nat.mul_comm]
        refine hK _ _ _ (C.ret ⟨.inr rfl, _, rfl, ?_, rfl⟩)
        simp only [rdV, hv]
        simp [resOf]
    · have g2 : ¬ x.toNat < 128 := by have := of_decide_eq_false g2; omega
      have hi9 : i ≠ 9 := fun e => g ⟨e, by omega⟩
      have hi := h9 hlt
      intro K hK
      simp only [↓opStep_eq, ↓reduceIte, tg_set, toTm_cons, toTm_nil, fieldPtr_ptr, Nat.add_zero, Nat.zero_add, Nat.reduceAdd, Nat.reduceEqDiff, Int.reduceEq, Int.reduceLT, Int.reduceLE, Int.reduceNe, ↓kO_some, ↓kA_some, ↓kH_some, kO_some, kA_some, kH_some, gd_true, gd_false, nthD_zero, nthD_succ, isB_true, isB_false, isB_undef, pickV_true, pickV_false, binV_add, binV_sub, binV_mul, binV_eql, binV_neq, binV_lss, binV_leq, binV_gtr, binV_geq, unV_not, nt, nf, Bool.false_eq_true, dt, df, decide_true, decide_false, withV_some, aggO_some, ptrTo_eq, ↓aO_some, aO_some, ↓andB_true, andB_true, gz, gs, seqC, retC, skipC, exitC, blockC, condC, cells_agg, r47_10, t10, wrap_succ i (show i < 9223372036854775807 by omega)]
      refine hK _ _ _ ⟨l.length - (i + 1), by omega, i + 1, acc + x.toNat % 128 * 2 ^ (7 * i), rfl, by omega, fun _ => by omega, ?_, ?_, by simp only [↓opStep_eq, ↓reduceIte, tg_set, toTm_cons, toTm_nil, fieldPtr_ptr, Nat.add_zero, Nat.zero_add, Nat.reduceAdd, Nat.reduceEqDiff, Int.reduceEq, Int.reduceLT, Int.reduceLE, Int.reduceNe, ↓kO_some, ↓kA_some, ↓kH_some, kO_some, kA_some, kH_some, gd_true, gd_false, nthD_zero, nthD_succ, isB_true, isB_false, isB_undef, pickV_true, pickV_false, binV_add, binV_sub, binV_mul, binV_eql, binV_neq, binV_lss, binV_leq, binV_gtr, binV_geq, unV_not, nt, nf, Bool.false_eq_true, dt, df, decide_true, decide_false, withV_some, aggO_some, ptrTo_eq, ↓aO_some, aO_some, ↓andB_true, andB_true, gz, gs, seqC, retC, skipC, exitC, blockC, condC, cells_agg, t0], by simp only [↓opStep_eq, ↓reduceIte, tg_set, toTm_cons, toTm_nil, fieldPtr_ptr, Nat.add_zero, Nat.zero_add, Nat.reduceAdd, Nat.reduceEqDiff, Int.reduceEq, Int.reduceLT, Int.reduceLE, Int.reduceNe, ↓kO_some, ↓kA_some, ↓kH_some, kO_some, kA_some, kH_some, gd_true, gd_false, nthD_zero, nthD_succ, isB_true, isB_false, isB_undef, pickV_true, pickV_false, binV_add, binV_sub, binV_mul, binV_eql, binV_neq, binV_lss, binV_leq, binV_gtr, binV_geq, unV_not, nt, nf, Bool.false_eq_true, dt, df, decide_true, decide_false, withV_some, aggO_some, ptrTo_eq, ↓aO_some, aO_some, ↓andB_true, andB_true, gz, gs, seqC, retC, skipC, exitC, blockC, condC, cells_agg], by simp only [↓opStep_eq, ↓reduceIte, tg_set, toTm_cons, toTm_nil, fieldPtr_ptr, Nat.add_zero, Nat.zero_add, Nat.reduceAdd, Nat.reduceEqDiff, Int.reduceEq, Int.reduceLT, Int.reduceLE, Int.reduceNe, ↓kO_some, ↓kA_some, ↓kH_some, kO_some, kA_some, kH_some, gd_true, gd_false, nthD_zero, nthD_succ, isB_true, isB_false, isB_undef, pickV_true, pickV_false, binV_add, binV_sub, binV_mul, binV_eql, binV_neq, binV_lss, binV_leq, binV_gtr, binV_geq, unV_not, nt, nf, Bool.false_eq_true, dt, df, decide_true, decide_false, withV_some, aggO_some, ptrTo_eq, ↓aO_some, aO_some, ↓andB_true, andB_true, gz, gs, seqC, retC, skipC, exitC, blockC, condC, cells_agg, t8], by simp only [↓opStep_eq, ↓reduceIte, tg_set, toTm_cons, toTm_nil, fieldPtr_ptr, Nat.add_zero, Nat.zero_add, Nat.reduceAdd, Nat.reduceEqDiff, Int.reduceEq, Int.reduceLT, Int.reduceLE, Int.reduceNe, ↓kO_some, ↓kA_some, ↓kH_some, kO_some, kA_some, kH_some, gd_true, gd_false, nthD_zero, nthD_succ, isB_true, isB_false, isB_undef, pickV_true, pickV_false, binV_add, binV_sub, binV_mul, binV_eql, binV_neq, binV_lss, binV_leq, binV_gtr, binV_geq, unV_not, nt, nf, Bool.false_eq_true, dt, df, decide_true, decide_false, withV_some, aggO_some, ptrTo_eq, ↓aO_some, aO_some, ↓andB_true, andB_true, gz, gs, seqC, retC, skipC, exitC, blockC, condC, cells_agg, t9], by simp only [↓opStep_eq, ↓reduceIte, tg_set, toTm_cons, toTm_nil, fieldPtr_ptr, Nat.add_zero, Nat.zero_add, Nat.reduceAdd, Nat.reduceEqDiff, Int.reduceEq, Int.reduceLT, Int.reduceLE, Int.reduceNe, ↓kO_some, ↓kA_some, ↓kH_some, kO_some, kA_some, kH_some, gd_true, gd_false, nthD_zero, nthD_succ, isB_true, isB_false, isB_undef, pickV_true, pickV_false, binV_add, binV_sub, binV_mul, binV_eql, binV_neq, binV_lss, binV_leq, binV_gtr, binV_geq, unV_not, nt, nf, Bool.false_eq_true, dt, df, decide_true, decide_false, withV_some, aggO_some, ptrTo_eq, ↓aO_some, aO_some, ↓andB_true, andB_true, gz, gs, seqC, retC, skipC, exitC, blockC, condC, cells_agg], rfl⟩
      · have h1 : x.toNat % 128 * 2 ^ (7 * i) ≤ 127 * 2 ^ (7 * i) := Nat.mul_le_mul_right _ (by omega)
        have h2 : 2 ^ (7 * (i + 1)) = 128 * 2 ^ (7 * i) := by rw [show 7 * (i + 1) = 7 + 7 * i by omega, Nat.pow_add]
        omega
      · rw [hrd, rd_cons, if_neg g, if_neg g2]
        cases rd (i + 1) (l.drop (i + 1)) with
        | none => rfl
        | some p =>
          have h2 : 2 ^ (7 * (i + 1)) = 128 * 2 ^ (7 * i) := by rw [show 7 * (i + 1) = 7 + 7 * i by omega, Nat.pow_add]
          simp only [Option.map_some, Option.some.injEq, Prod.mk.injEq]
          refine ⟨?_, by omega⟩
          rw [h2, Nat.mul_add, Nat.mul_comm (2 ^ (7 * i)) (x.toNat % 128), ← Nat.mul_assoc, Nat.mul_comm (2 ^ (7 * i)) 128, Nat.add_assoc]
  · have hge : i = l.length := by simp at hy; omega
    simp only [if_pos]
    refine bad ?_ _
    rw [hrd, hge, List.drop_length]; rfl
end Go.Proofs.Ytpaolklbogakgaa

namespace Go.Proofs.Ytpaolklbogakgaa
open Go.Ev

theorem u29 : Try.prog.underlying 29 = some (.slice 5) := by kernel_rfl
theorem eql_nil (n c : Nat) : binV Try.prog .eql 29 true (.slice none n c) (.slice none 0 0) = some (.bool true) := by
  simp [binV, binElse, binElse.nilIf, isNilEq, binElse.nilFits, u29, boolRes]
theorem eql_some (a : Addr) (n c : Nat) : binV Try.prog .eql 29 true (.slice (some a) n c) (.slice none 0 0) = some (.bool false) := by
  simp [binV, binElse, binElse.nilIf, isNilEq, binElse.nilFits, u29, boolRes]
theorem lit0 (b : Nat) : mkLit 0 b (fill (repl [(.int .u8 (0))] 0) (pl 1) []) = some (.rw (([] : List UInt8).map bv), .slice (some ⟨b, 0, none⟩) ([] : List UInt8).length ([] : List UInt8).length) := rfl

theorem clone37 (L n : Nat) (v : Value) (l : List UInt8) (h : H) (hr : Rd h v l) (hl : l.length < 1000000) :
    Sp (CF L (n + 1)) 37 [v] h fun r h' => Mine h' r l ∧ Keep nobody h h' ∧ ∀ b, blk r b → h.next ≤ b := by
  refine Sp.body f37 (by simp) fun K hK => ?_
  have k1 := Keep.new h (.rw (([] : List UInt8).map bv))
  obtain ⟨v', h2, e1, e2, e3, e4⟩ := append_own (Mine.rw _ [] (Has.new h (.rw (([] : List UInt8).map bv)))) (hr.keep0 k1).reads.src (by simp; omega)
  have k2 : Keep nobody h h2 := k1.trans e3 fun b hb hs => by simp at hs; omega
  rcases hr with ⟨rfl, rfl⟩ | ⟨b, o, c, x, cs, rfl, _⟩
  · simp only [↓opStep_eq, ↓reduceIte, tg_set, toTm_cons, toTm_nil, fieldPtr_ptr, Nat.add_zero, Nat.zero_add, Nat.reduceAdd, Nat.reduceEqDiff, Int.reduceEq, Int.reduceLT, Int.reduceLE, Int.reduceNe, ↓kO_some, ↓kA_some, ↓kH_some, kO_some, kA_some, kH_some, gd_true, gd_false, nthD_zero, nthD_succ, isB_true, isB_false, isB_undef, pickV_true, pickV_false, binV_add, binV_sub, binV_mul, binV_eql, binV_neq, binV_lss, binV_leq, binV_gtr, binV_geq, unV_not, nt, nf, Bool.false_eq_true, dt, df, decide_true, decide_false, withV_some, aggO_some, ptrTo_eq, ↓aO_some, aO_some, ↓andB_true, andB_true, gz, gs, seqC, retC, skipC, exitC, blockC, condC, cells_agg, c37, r37_0, r37_1, r37_2, eql_nil]
    exact hK _ _ _ ⟨.inr rfl, _, rfl, by simp only [↓opStep_eq, ↓reduceIte, tg_set, toTm_cons, toTm_nil, fieldPtr_ptr, Nat.add_zero, Nat.zero_add, Nat.reduceAdd, Nat.reduceEqDiff, Int.reduceEq, Int.reduceLT, Int.reduceLE, Int.reduceNe, ↓kO_some, ↓kA_some, ↓kH_some, kO_some, kA_some, kH_some, gd_true, gd_false, nthD_zero, nthD_succ, isB_true, isB_false, isB_undef, pickV_true, pickV_false, binV_add, binV_sub, binV_mul, binV_eql, binV_neq, binV_lss, binV_leq, binV_gtr, binV_geq, unV_not, nt, nf, Bool.false_eq_true, dt, df, decide_true, decide_false, withV_some, aggO_some, ptrTo_eq, ↓aO_some, aO_some, ↓andB_true, andB_true, gz, gs, seqC, retC, skipC, exitC, blockC, condC, cells_agg, resOf]; exact .nil, .refl _ _, by simp only [↓opStep_eq, ↓reduceIte, tg_set, toTm_cons, toTm_nil, fieldPtr_ptr, Nat.add_zero, Nat.zero_add, Nat.reduceAdd, Nat.reduceEqDiff, Int.reduceEq, Int.reduceLT, Int.reduceLE, Int.reduceNe, ↓kO_some, ↓kA_some, ↓kH_some, kO_some, kA_some, kH_some, gd_true, gd_false, nthD_zero, nthD_succ, isB_true, isB_false, isB_undef, pickV_true, pickV_false, binV_add, binV_sub, binV_mul, binV_eql, binV_neq, binV_lss, binV_leq, binV_gtr, binV_geq, unV_not, nt, nf, Bool.false_eq_true, dt, df, decide_true, decide_false, withV_some, aggO_some, ptrTo_eq, ↓aO_some, aO_some, ↓andB_true, andB_true, gz, gs, seqC, retC, skipC, exitC, blockC, condC, cells_agg, resOf]; simp⟩
  · simp only [↓opStep_eq, ↓reduceIte, tg_set, toTm_cons, toTm_nil, fieldPtr_ptr, Nat.add_zero, Nat.zero_add, Nat.reduceAdd, Nat.reduceEqDiff, Int.reduceEq, Int.reduceLT, Int.reduceLE, Int.reduceNe, ↓kO_some, ↓kA_some, ↓kH_some, kO_some, kA_some, kH_some, gd_true, gd_false, nthD_zero, nthD_succ, isB_true, isB_false, isB_undef, pickV_true, pickV_false, binV_add, binV_sub, binV_mul, binV_eql, binV_neq, binV_lss, binV_leq, binV_gtr, binV_geq, unV_not, nt, nf, Bool.false_eq_true, dt, df, decide_true, decide_false, withV_some, aggO_some, ptrTo_eq, ↓aO_some, aO_some, ↓andB_true, andB_true, gz, gs, seqC, retC, skipC, exitC, blockC, condC, cells_agg, c37, r37_0, r37_1, r37_3, eql_some, lit0, e1]
    exact hK _ _ _ ⟨.inr rfl, _, rfl, by simpa only [↓opStep_eq, ↓reduceIte, tg_set, toTm_cons, toTm_nil, fieldPtr_ptr, Nat.add_zero, Nat.zero_add, Nat.reduceAdd, Nat.reduceEqDiff, Int.reduceEq, Int.reduceLT, Int.reduceLE, Int.reduceNe, ↓kO_some, ↓kA_some, ↓kH_some, kO_some, kA_some, kH_some, gd_true, gd_false, nthD_zero, nthD_succ, isB_true, isB_false, isB_undef, pickV_true, pickV_false, binV_add, binV_sub, binV_mul, binV_eql, binV_neq, binV_lss, binV_leq, binV_gtr, binV_geq, unV_not, nt, nf, Bool.false_eq_true, dt, df, decide_true, decide_false, withV_some, aggO_some, ptrTo_eq, ↓aO_some, aO_some, ↓andB_true, andB_true, gz, gs, seqC, retC, skipC, exitC, blockC, condC, cells_agg, resOf, List.nil_append] using e2, k2, fun b hb => by
      rcases e4 b (by simpa only [↓opStep_eq, ↓reduceIte, tg_set, toTm_cons, toTm_nil, fieldPtr_ptr, Nat.add_zero, Nat.zero_add, Nat.reduceAdd, Nat.reduceEqDiff, Int.reduceEq, Int.reduceLT, Int.reduceLE, Int.reduceNe, ↓kO_some, ↓kA_some, ↓kH_some, kO_some, kA_some, kH_some, gd_true, gd_false, nthD_zero, nthD_succ, isB_true, isB_false, isB_undef, pickV_true, pickV_false, binV_add, binV_sub, binV_mul, binV_eql, binV_neq, binV_lss, binV_leq, binV_gtr, binV_geq, unV_not, nt, nf, Bool.false_eq_true, dt, df, decide_true, decide_false, withV_some, aggO_some, ptrTo_eq, ↓aO_some, aO_some, ↓andB_true, andB_true, gz, gs, seqC, retC, skipC, exitC, blockC, condC, cells_agg, resOf] using hb) with h | h
      · simp at h; omega
      · simp only [next_new] at h; omega⟩
theorem clone54 (L n : Nat) (v : Value) (l : List UInt8) (h : H) (hr : Rd h v l) (hl : l.length < 1000000) :
    Sp (CF L (n + 1)) 54 [v] h fun r h' => Mine h' r l ∧ Keep nobody h h' ∧ ∀ b, blk r b → h.next ≤ b := by
  refine Sp.body f54 (by simp) fun K hK => ?_
  have k1 := Keep.new h (.rw (([] : List UInt8).map bv))
  obtain ⟨v', h2, e1, e2, e3, e4⟩ := append_own (Mine.rw _ [] (Has.new h (.rw (([] : List UInt8).map bv)))) (hr.keep0 k1).reads.src (by simp; omega)
  have k2 : Keep nobody h h2 := k1.trans e3 fun b hb hs => by simp at hs; omega
  rcases hr with ⟨rfl, rfl⟩ | ⟨b, o, c, x, cs, rfl, _⟩
  · simp only [↓opStep_eq, ↓reduceIte, tg_set, toTm_cons, toTm_nil, fieldPtr_ptr, Nat.add_zero, Nat.zero_add, Nat.reduceAdd, Nat.reduceEqDiff, Int.reduceEq, Int.reduceLT, Int.reduceLE, Int.reduceNe, ↓kO_some, ↓kA_some, ↓kH_some, kO_some, kA_some, kH_some, gd_true, gd_false, nthD_zero, nthD_succ, isB_true, isB_false, isB_undef, pickV_true, pickV_false, binV_add, binV_sub, binV_mul, binV_eql, binV_neq, binV_lss, binV_leq, binV_gtr, binV_geq, unV_not, nt, nf, Bool.false_eq_true, dt, df, decide_true, decide_false, withV_some, aggO_some, ptrTo_eq, ↓aO_some, aO_some, ↓andB_true, andB_true, gz, gs, seqC, retC, skipC, exitC, blockC, condC, cells_agg, c54, r54_0, r54_1, r54_2, eql_nil]
    exact hK _ _ _ ⟨.inr rfl, _, rfl, by simp only [↓opStep_eq, ↓reduceIte, tg_set, toTm_cons, toTm_nil, fieldPtr_ptr, Nat.add_zero, Nat.zero_add, Nat.reduceAdd, Nat.reduceEqDiff, Int.reduceEq, Int.reduceLT, Int.reduceLE, Int.reduceNe, ↓kO_some, ↓kA_some, ↓kH_some, kO_some, kA_some, kH_some, gd_true, gd_false, nthD_zero, nthD_succ, isB_true, isB_false, isB_undef, pickV_true, pickV_false, binV_add, binV_sub, binV_mul, binV_eql, binV_neq, binV_lss, binV_leq, binV_gtr, binV_geq, unV_not, nt, nf, Bool.false_eq_true, dt, df, decide_true, decide_false, withV_some, aggO_some, ptrTo_eq, ↓aO_some, aO_some, ↓andB_true, andB_true, gz, gs, seqC, retC, skipC, exitC, blockC, condC, cells_agg, resOf]; exact .nil, .refl _ _, by simp only [↓opStep_eq, ↓reduceIte, tg_set, toTm_cons, toTm_nil, fieldPtr_ptr, Nat.add_zero, Nat.zero_add, Nat.reduceAdd, Nat.reduceEqDiff, Int.reduceEq, Int.reduceLT, Int.reduceLE, Int.reduceNe, ↓kO_some, ↓kA_some, ↓kH_some, kO_some, kA_some, kH_some, gd_true, gd_false, nthD_zero, nthD_succ, isB_true, isB_false, isB_undef, pickV_true, pickV_false, binV_add, binV_sub, binV_mul, binV_eql, binV_neq, binV_lss, binV_leq, binV_gtr, binV_geq, unV_not, nt, nf, Bool.false_eq_true, dt, df, decide_true, decide_false, withV_some, aggO_some, ptrTo_eq, ↓aO_some, aO_some, ↓andB_true, andB_true, gz, gs, seqC, retC, skipC, exitC, blockC, condC, cells_agg, resOf]; simp⟩
  · simp only [↓opStep_eq, ↓reduceIte, tg_set, toTm_cons, toTm_nil, fieldPtr_ptr, Nat.add_zero, Nat.zero_add, Nat.reduceAdd, Nat.reduceEqDiff, Int.reduceEq, Int.reduceLT, Int.reduceLE, Int.reduceNe, ↓kO_some, ↓kA_some, ↓kH_some, kO_some, kA_some, kH_some, gd_true, gd_false, nthD_zero, nthD_succ, isB_true, isB_false, isB_undef, pickV_true, pickV_false, binV_add, binV_sub, binV_mul, binV_eql, binV_neq, binV_lss, binV_leq, binV_gtr, binV_geq, unV_not, nt, nf, Bool.false_eq_true, dt, df, decide_true, decide_false, withV_some, aggO_some, ptrTo_eq, ↓aO_some, aO_some, ↓andB_true, andB_true, gz, gs, seqC, retC, skipC, exitC, blockC, condC, cells_agg, c54, r54_0, r54_1, r54_3, eql_some, lit0, e1]
    exact hK _ _ _ ⟨.inr rfl, _, rfl, by simpa only [↓opStep_eq, ↓reduceIte, tg_set, toTm_cons, toTm_nil, fieldPtr_ptr, Nat.add_zero, Nat.zero_add, Nat.reduceAdd, Nat.reduceEqDiff, Int.reduceEq, Int.reduceLT, Int.reduceLE, Int.reduceNe, ↓kO_some, ↓kA_some, ↓kH_some, kO_some, kA_some, kH_some, gd_true, gd_false, nthD_zero, nthD_succ, isB_true, isB_false, isB_undef, pickV_true, pickV_false, binV_add, binV_sub, binV_mul, binV_eql, binV_neq, binV_lss, binV_leq, binV_gtr, binV_geq, unV_not, nt, nf, Bool.false_eq_true, dt, df, decide_true, decide_false, withV_some, aggO_some, ptrTo_eq, ↓aO_some, aO_some, ↓andB_true, andB_true, gz, gs, seqC, retC, skipC, exitC, blockC, condC, cells_agg, resOf, List.nil_append] using e2, k2, fun b hb => by
      rcases e4 b (by simpa only [↓opStep_eq, ↓reduceIte, tg_set, toTm_cons, toTm_nil, fieldPtr_ptr, Nat.add_zero, Nat.zero_add, Nat.reduceAdd, Nat.reduceEqDiff, Int.reduceEq, Int.reduceLT, Int.reduceLE, Int.reduceNe, ↓kO_some, ↓kA_some, ↓kH_some, kO_some, kA_some, kH_some, gd_true, gd_false, nthD_zero, nthD_succ, isB_true, isB_false, isB_undef, pickV_true, pickV_false, binV_add, binV_sub, binV_mul, binV_eql, binV_neq, binV_lss, binV_leq, binV_gtr, binV_geq, unV_not, nt, nf, Bool.false_eq_true, dt, df, decide_true, decide_false, withV_some, aggO_some, ptrTo_eq, ↓aO_some, aO_some, ↓andB_true, andB_true, gz, gs, seqC, retC, skipC, exitC, blockC, condC, cells_agg, resOf] using hb) with h | h
      · simp at h; omega
      · simp only [next_new] at h; omega⟩

/-! how long a packet's body is -/
def n4 (a b c d : UInt8) : Nat := a.toNat * 16777216 + b.toNat * 65536 + c.toNat * 256 + d.toNat

theorem wrap_u32 (n : Nat) (h : n < 4294967296) : IntKind.u32.wrap (n : Int) = (n : Int) := by
  rw [wrap_eq] <;> simp [IntKind.min, IntKind.max, IntKind.bits, IntKind.signed] <;> omega
theorem wrap_i64 (n : Nat) (h : n < 9223372036854775808) : IntKind.i64.wrap (n : Int) = (n : Int) := by
  rw [wrap_eq] <;> simp [IntKind.min, IntKind.max, IntKind.bits, IntKind.signed] <;> omega
theorem or_u32 (t : TypeId) (c : Bool) (a b : Nat) (ha : a < 2 ^ 32) (hb : b < 2 ^ 32) : binV Try.prog .or t c (.int .u32 (a : Int)) (.int .u32 (b : Int)) = some (.int .u32 ((a ||| b : Nat) : Int)) := by
  have hor : a ||| b < 2 ^ 32 := Nat.or_lt_two_pow ha hb
  have e : ∀ n : Nat, n < 2 ^ 32 → BitVec.ofInt 32 (n : Int) = BitVec.ofNat 32 n := fun n hn => by
    apply BitVec.eq_of_toNat_eq
    simp
  rw [binV_or]
  show some (Value.int .u32 (IntKind.u32.wrap ((BitVec.ofInt 32 (a : Int) ||| BitVec.ofInt 32 (b : Int)).toNat : Int))) = _
  rw [e a ha, e b hb, BitVec.toNat_or, BitVec.toNat_ofNat, BitVec.toNat_ofNat, Nat.mod_eq_of_lt ha, Nat.mod_eq_of_lt hb, wrap_u32 _ (by simpa using hor)]
theorem shl_u32 (t : TypeId) (c : Bool) (k' : IntKind) (a s : Nat) (h : a * 2 ^ s < 2 ^ 32) (hs : s ≤ 32) : binV Try.prog .shl t c (.int .u32 (a : Int)) (.int k' (s : Int)) = some (.int .u32 ((a * 2 ^ s : Nat) : Int)) := by
  rw [binV_shl2 _ _ _ _ _ _ (by omega)]
  have e : min ((s : Int)).toNat IntKind.u32.bits = s := by
    have : IntKind.u32.bits = 32 := rfl
    rw [this]; omega
  have e2 : (a : Int) * 2 ^ s = ((a * 2 ^ s : Nat) : Int) := by simp
  rw [e, e2, wrap_u32 _ (by simpa using h)]
theorem toInt_bv32 (x : UInt8) : toInt .u32 (bv x) = some (.int .u32 ((x.toNat : Nat) : Int)) := by
  have := x.toNat_lt
  simp only [bv, toInt_int, wrap_u32 x.toNat (by omega)]
theorem or_add (a b k : Nat) (ha : a < 2 ^ k) : b * 2 ^ k ||| a = b * 2 ^ k + a := by
  have := Nat.two_pow_add_eq_or_of_lt ha b
  rw [Nat.mul_comm b, ← this]

theorem bin_size (L n : Nat) (v : Value) (l : List UInt8) (h : H) (hr : Rd h v l) {x0 x1 x2 x3 x4 x5 : UInt8} {r : List UInt8} (hl : l = x0 :: x1 :: x2 :: x3 :: x4 :: x5 :: r) :
    Sp (CF L (n + 1)) 36 [v] h fun r h' => r = .int .i64 (n4 x2 x3 x4 x5 : Int) ∧ Keep nobody h h' := by
  refine Sp.body f36 (by simp) fun K hK => ?_
  have k0 := keep_room h 24
  have hr1 := hr.keep0 k0
  subst hl
  obtain ⟨b2, o2, i2, l2, _⟩ := hr1.at (i := 2) (x := x2) rfl
  obtain ⟨b3, o3, i3, l3, _⟩ := hr1.at (i := 3) (x := x3) rfl
  obtain ⟨b4, o4, i4, l4, _⟩ := hr1.at (i := 4) (x := x4) rfl
  obtain ⟨b5, o5, i5, l5, _⟩ := hr1.at (i := 5) (x := x5) rfl
  have g2 := x2.toNat_lt
  have g3 := x3.toNat_lt
  have g4 := x4.toNat_lt
  have g5 := x5.toNat_lt
  have e24 : (2 : Nat) ^ 24 = 16777216 := rfl
  have e16 : (2 : Nat) ^ 16 = 65536 := rfl
  have e8 : (2 : Nat) ^ 8 = 256 := rfl
  have e32 : (2 : Nat) ^ 32 = 4294967296 := rfl
  have s24 := shl_u32 41 true .u64 x2.toNat 24 (by omega) (by decide)
  have s16 := shl_u32 41 true .u64 x3.toNat 16 (by omega) (by decide)
  have s8 := shl_u32 41 true .u64 x4.toNat 8 (by omega) (by decide)
  have a1 : x2.toNat * 2 ^ 24 ||| x3.toNat * 2 ^ 16 = x2.toNat * 2 ^ 24 + x3.toNat * 2 ^ 16 := or_add _ _ 24 (by omega)
  have a2 : (x2.toNat * 2 ^ 24 + x3.toNat * 2 ^ 16) ||| x4.toNat * 2 ^ 8 = x2.toNat * 2 ^ 24 + x3.toNat * 2 ^ 16 + x4.toNat * 2 ^ 8 := by
    have := or_add (x4.toNat * 2 ^ 8) (x2.toNat * 256 + x3.toNat) 16 (by omega)
    rw [show (x2.toNat * 256 + x3.toNat) * 2 ^ 16 = x2.toNat * 2 ^ 24 + x3.toNat * 2 ^ 16 by omega] at this
    exact this
  have a3 : (x2.toNat * 2 ^ 24 + x3.toNat * 2 ^ 16 + x4.toNat * 2 ^ 8) ||| x5.toNat = x2.toNat * 2 ^ 24 + x3.toNat * 2 ^ 16 + x4.toNat * 2 ^ 8 + x5.toNat := by
    have := or_add x5.toNat (x2.toNat * 65536 + x3.toNat * 256 + x4.toNat) 8 (by omega)
    rw [show (x2.toNat * 65536 + x3.toNat * 256 + x4.toNat) * 2 ^ 8 = x2.toNat * 2 ^ 24 + x3.toNat * 2 ^ 16 + x4.toNat * 2 ^ 8 by omega] at this
    exact this
  have o1 := or_u32 41 false (x2.toNat * 2 ^ 24) (x3.toNat * 2 ^ 16) (by omega) (by omega)
  have o2' := or_u32 41 false (x2.toNat * 2 ^ 24 + x3.toNat * 2 ^ 16) (x4.toNat * 2 ^ 8) (by omega) (by omega)
  have o3' := or_u32 41 false (x2.toNat * 2 ^ 24 + x3.toNat * 2 ^ 16 + x4.toNat * 2 ^ 8) x5.toNat (by omega) (by omega)
  rw [a1] at o1
  rw [a2] at o2'
  rw [a3] at o3'
  have ti : toInt .i64 (.int .u32 ((x2.toNat * 2 ^ 24 + x3.toNat * 2 ^ 16 + x4.toNat * 2 ^ 8 + x5.toNat : Nat) : Int)) = some (.int .i64 (n4 x2 x3 x4 x5 : Int)) := by
    rw [toInt_int, wrap_i64 _ (by omega)]; rfl
  have c2 : ((2 : Nat) : Int) = 2 := rfl
  have c3 : ((3 : Nat) : Int) = 3 := rfl
  have c4 : ((4 : Nat) : Int) = 4 := rfl
  have c5 : ((5 : Nat) : Int) = 5 := rfl
  rw [c2] at i2
  rw [c3] at i3
  rw [c4] at i4
  rw [c5] at i5
  have d24 : ((24 : Nat) : Int) = 24 := rfl
  have d16 : ((16 : Nat) : Int) = 16 := rfl
  have d8 : ((8 : Nat) : Int) = 8 := rfl
  rw [d24] at s24
  rw [d16] at s16
  rw [d8] at s8
  simp only [↓opStep_eq, ↓reduceIte, tg_set, toTm_cons, toTm_nil, fieldPtr_ptr, Nat.add_zero, Nat.zero_add, Nat.reduceAdd, Nat.reduceEqDiff, Int.reduceEq, Int.reduceLT, Int.reduceLE, Int.reduceNe, ↓kO_some, ↓kA_some, ↓kH_some, kO_some, kA_some, kH_some, gd_true, gd_false, nthD_zero, nthD_succ, isB_true, isB_false, isB_undef, pickV_true, pickV_false, binV_add, binV_sub, binV_mul, binV_eql, binV_neq, binV_lss, binV_leq, binV_gtr, binV_geq, unV_not, nt, nf, Bool.false_eq_true, dt, df, decide_true, decide_false, withV_some, aggO_some, ptrTo_eq, ↓aO_some, aO_some, ↓andB_true, andB_true, gz, gs, seqC, retC, skipC, exitC, blockC, condC, cells_agg, c36, r36_0, r36_1, i2, i3, i4, i5, l2, l3, l4, l5, toInt_bv32, s24, s16, s8, o1, o2', o3', ti]
  exact hK _ _ _ ⟨.inr rfl, _, rfl, by simp only [↓opStep_eq, ↓reduceIte, tg_set, toTm_cons, toTm_nil, fieldPtr_ptr, Nat.add_zero, Nat.zero_add, Nat.reduceAdd, Nat.reduceEqDiff, Int.reduceEq, Int.reduceLT, Int.reduceLE, Int.reduceNe, ↓kO_some, ↓kA_some, ↓kH_some, kO_some, kA_some, kH_some, gd_true, gd_false, nthD_zero, nthD_succ, isB_true, isB_false, isB_undef, pickV_true, pickV_false, binV_add, binV_sub, binV_mul, binV_eql, binV_neq, binV_lss, binV_leq, binV_gtr, binV_geq, unV_not, nt, nf, Bool.false_eq_true, dt, df, decide_true, decide_false, withV_some, aggO_some, ptrTo_eq, ↓aO_some, aO_some, ↓andB_true, andB_true, gz, gs, seqC, retC, skipC, exitC, blockC, condC, cells_agg, resOf], k0⟩

end Go.Proofs.Ytpaolklbogakgaa

namespace Go.Proofs.Ytpaolklbogakgaa
open Go.Ev

/-- the packet that bytes begin with -/
def cutR (f : UInt8) (l : List UInt8) : UInt8 × List UInt8 × Nat × Int :=
  if 16384 < l.length then (0, [], 0, 3) else match l with
  | x0 :: x1 :: x2 :: x3 :: x4 :: x5 :: r => if x0 ≠ f then (0, [], 0, 8) else if 4096 < n4 x2 x3 x4 x5 then (0, [], 0, 8) else if l.length < 6 + n4 x2 x3 x4 x5 then (0, [], 0, 0) else (x1, r.take (n4 x2 x3 x4 x5), 6 + n4 x2 x3 x4 x5, 0)
  | x0 :: _ => if x0 ≠ f then (0, [], 0, 8) else (0, [], 0, 0)
  | [] => (0, [], 0, 0)
def CutQ (p : UInt8 × List UInt8 × Nat × Int) (h : H) (r : Value) (h' : H) : Prop := ∃ x, r = .tuple [bv p.1, x, .int .i64 (p.2.2.1 : Int), .int .i64 p.2.2.2].toArray ∧ Mine h' x p.2.1 ∧ Keep nobody h h'

theorem neq_u8 (t : TypeId) (c : Bool) (x y : UInt8) : binV Try.prog .neq t c (bv x) (bv y) = some (.bool (!decide (x = y))) := by
  have e : decide ((x.toNat : Int) = (y.toNat : Int)) = decide (x = y) := by
    rw [decide_eq_decide]
    exact ⟨fun h => UInt8.toNat_inj.1 (by omega), fun h => by rw [h]⟩
  simp only [bv, binV_neq, e]

theorem short_form {l : List UInt8} (h0 : l ≠ []) (h6 : l.length < 6) : ∃ x0 r, l = x0 :: r ∧ ∀ f, ¬ 16384 < l.length → cutR f l = if x0 ≠ f then (0, [], 0, 8) else (0, [], 0, 0) := by
  rcases l with _ | ⟨x0, _ | ⟨x1, _ | ⟨x2, _ | ⟨x3, _ | ⟨x4, _ | ⟨x5, r⟩⟩⟩⟩⟩⟩
  · exact absurd rfl h0
  all_goals first
    | (exfalso; simp at h6; omega)
    | (refine ⟨_, _, rfl, fun f hb => ?_⟩; unfold cutR; rw [if_neg hb])
theorem long_form {l : List UInt8} (h6 : ¬ l.length < 6) : ∃ x0 x1 x2 x3 x4 x5 r, l = x0 :: x1 :: x2 :: x3 :: x4 :: x5 :: r := by
  rcases l with _ | ⟨x0, _ | ⟨x1, _ | ⟨x2, _ | ⟨x3, _ | ⟨x4, _ | ⟨x5, r⟩⟩⟩⟩⟩⟩
  all_goals first
    | exact ⟨_, _, _, _, _, _, _, rfl⟩
    | (exfalso; simp at h6)
theorem Rd.lt {h : H} {v : Value} {l : List UInt8} (a : Rd h v l) {b : Nat} (hb : blk v b) : b < h.next := by
  rcases a with ⟨rfl, rfl⟩ | ⟨b', o, c, x, cs, rfl, h1, _⟩
  · simp at hb
  · simp at hb; subst hb; exact h1.1
theorem Rd.atK {h : H} {v : Value} {l : List UInt8} (a : Rd h v l) {i : Nat} {x : UInt8} (hi : l[i]? = some x) :
    ∃ b o, indexSl 1 v (.int .i64 (i : Int)) = some (.pointer (some ⟨b, o, none⟩)) ∧ ∀ h', Keep nobody h h' → ∀ s, loadOne h' (.pointer (some ⟨b, o, s⟩)) = some (bv x) := by
  obtain ⟨b, o, e1, e2, e3⟩ := a.at hi
  refine ⟨b, o, e1, fun h' k s => ?_⟩
  rw [← e2 s]
  simp only [loadOne, H.cellsOf, k.same b (a.lt e3) id]

theorem bin_cut (L n : Nat) (f : UInt8) (v : Value) (l : List UInt8) (h : H) (hr : Rd h v l) (hl : l.length < 1000000) :
    Sp (CF L (n + 2)) 22 [bv f, v] h fun r h' => CutQ (cutR f l) h r h' := by
  refine Sp.body f22 (by simp) ?_
  have e0 : Value.int .u8 0 = bv 0 := rfl
  unfold c22
  refine C.seq fun K hK => hK .norm _ _ (C.seq (C.block (C.seq fun K hK => ?_)))
  simp only [↓opStep_eq, ↓reduceIte, tg_set, toTm_cons, toTm_nil, fieldPtr_ptr, Nat.add_zero, Nat.zero_add, Nat.reduceAdd, Nat.reduceEqDiff, Int.reduceEq, Int.reduceLT, Int.reduceLE, Int.reduceNe, ↓kO_some, ↓kA_some, ↓kH_some, kO_some, kA_some, kH_some, gd_true, gd_false, nthD_zero, nthD_succ, isB_true, isB_false, isB_undef, pickV_true, pickV_false, binV_add, binV_sub, binV_mul, binV_eql, binV_neq, binV_lss, binV_leq, binV_gtr, binV_geq, unV_not, nt, nf, Bool.false_eq_true, dt, df, decide_true, decide_false, withV_some, aggO_some, ptrTo_eq, ↓aO_some, aO_some, ↓andB_true, andB_true, gz, gs, seqC, retC, skipC, exitC, blockC, condC, cells_agg, r22_1, hr.len]
  refine hK _ _ _ (C.cond (decide (16384 < (l.length : Int))) (by simp only [↓opStep_eq, ↓reduceIte, tg_set, toTm_cons, toTm_nil, fieldPtr_ptr, Nat.add_zero, Nat.zero_add, Nat.reduceAdd, Nat.reduceEqDiff, Int.reduceEq, Int.reduceLT, Int.reduceLE, Int.reduceNe, ↓kO_some, ↓kA_some, ↓kH_some, kO_some, kA_some, kH_some, gd_true, gd_false, nthD_zero, nthD_succ, isB_true, isB_false, isB_undef, pickV_true, pickV_false, binV_add, binV_sub, binV_mul, binV_eql, binV_neq, binV_lss, binV_leq, binV_gtr, binV_geq, unV_not, nt, nf, Bool.false_eq_true, dt, df, decide_true, decide_false, withV_some, aggO_some, ptrTo_eq, ↓aO_some, aO_some, ↓andB_true, andB_true, gz, gs, seqC, retC, skipC, exitC, blockC, condC, cells_agg]) (fun g => C.seq fun K hK => hK .norm _ _ (C.ret ⟨.inr rfl, _, rfl, .slice none 0 0, ?_, ?_, .refl _ _⟩)) fun g => ?_)
  · have g : 16384 < l.length := by have := of_decide_eq_true g; omega
    have : cutR f l = (0, [], 0, 3) := by unfold cutR; rw [if_pos g]
    rw [this]; simp only [↓opStep_eq, ↓reduceIte, tg_set, toTm_cons, toTm_nil, fieldPtr_ptr, Nat.add_zero, Nat.zero_add, Nat.reduceAdd, Nat.reduceEqDiff, Int.reduceEq, Int.reduceLT, Int.reduceLE, Int.reduceNe, ↓kO_some, ↓kA_some, ↓kH_some, kO_some, kA_some, kH_some, gd_true, gd_false, nthD_zero, nthD_succ, isB_true, isB_false, isB_undef, pickV_true, pickV_false, binV_add, binV_sub, binV_mul, binV_eql, binV_neq, binV_lss, binV_leq, binV_gtr, binV_geq, unV_not, nt, nf, Bool.false_eq_true, dt, df, decide_true, decide_false, withV_some, aggO_some, ptrTo_eq, ↓aO_some, aO_some, ↓andB_true, andB_true, gz, gs, seqC, retC, skipC, exitC, blockC, condC, cells_agg, e0]; simp [resOf]
  · have g : 16384 < l.length := by have := of_decide_eq_true g; omega
    have : cutR f l = (0, [], 0, 3) := by unfold cutR; rw [if_pos g]
    rw [this]; exact .nil
  have hb : ¬ 16384 < l.length := by have := of_decide_eq_false g; omega
  refine C.seq fun K hK => ?_
  simp only [↓opStep_eq, ↓reduceIte, tg_set, toTm_cons, toTm_nil, fieldPtr_ptr, Nat.add_zero, Nat.zero_add, Nat.reduceAdd, Nat.reduceEqDiff, Int.reduceEq, Int.reduceLT, Int.reduceLE, Int.reduceNe, ↓kO_some, ↓kA_some, ↓kH_some, kO_some, kA_some, kH_some, gd_true, gd_false, nthD_zero, nthD_succ, isB_true, isB_false, isB_undef, pickV_true, pickV_false, binV_add, binV_sub, binV_mul, binV_eql, binV_neq, binV_lss, binV_leq, binV_gtr, binV_geq, unV_not, nt, nf, Bool.false_eq_true, dt, df, decide_true, decide_false, withV_some, aggO_some, ptrTo_eq, ↓aO_some, aO_some, ↓andB_true, andB_true, gz, gs, seqC, retC, skipC, exitC, blockC, condC, cells_agg, r22_3, hr.len]
  refine hK _ _ _ (C.cond (decide ((l.length : Int) = 0)) (by simp only [↓opStep_eq, ↓reduceIte, tg_set, toTm_cons, toTm_nil, fieldPtr_ptr, Nat.add_zero, Nat.zero_add, Nat.reduceAdd, Nat.reduceEqDiff, Int.reduceEq, Int.reduceLT, Int.reduceLE, Int.reduceNe, ↓kO_some, ↓kA_some, ↓kH_some, kO_some, kA_some, kH_some, gd_true, gd_false, nthD_zero, nthD_succ, isB_true, isB_false, isB_undef, pickV_true, pickV_false, binV_add, binV_sub, binV_mul, binV_eql, binV_neq, binV_lss, binV_leq, binV_gtr, binV_geq, unV_not, nt, nf, Bool.false_eq_true, dt, df, decide_true, decide_false, withV_some, aggO_some, ptrTo_eq, ↓aO_some, aO_some, ↓andB_true, andB_true, gz, gs, seqC, retC, skipC, exitC, blockC, condC, cells_agg]) (fun g => C.seq fun K hK => hK .norm _ _ (C.ret ⟨.inr rfl, _, rfl, .slice none 0 0, ?_, ?_, .refl _ _⟩)) fun g => ?_)
  · have g : l = [] := List.length_eq_zero_iff.1 (by have := of_decide_eq_true g; omega)
    subst g
    simp only [↓opStep_eq, ↓reduceIte, tg_set, toTm_cons, toTm_nil, fieldPtr_ptr, Nat.add_zero, Nat.zero_add, Nat.reduceAdd, Nat.reduceEqDiff, Int.reduceEq, Int.reduceLT, Int.reduceLE, Int.reduceNe, ↓kO_some, ↓kA_some, ↓kH_some, kO_some, kA_some, kH_some, gd_true, gd_false, nthD_zero, nthD_succ, isB_true, isB_false, isB_undef, pickV_true, pickV_false, binV_add, binV_sub, binV_mul, binV_eql, binV_neq, binV_lss, binV_leq, binV_gtr, binV_geq, unV_not, nt, nf, Bool.false_eq_true, dt, df, decide_true, decide_false, withV_some, aggO_some, ptrTo_eq, ↓aO_some, aO_some, ↓andB_true, andB_true, gz, gs, seqC, retC, skipC, exitC, blockC, condC, cells_agg, e0]; simp [resOf, cutR]
  · have g : l = [] := List.length_eq_zero_iff.1 (by have := of_decide_eq_true g; omega)
    subst g
    exact .nil
  have hne : l ≠ [] := fun e => by subst e; simp at g
  obtain ⟨x0, hx0⟩ : ∃ x, l[0]? = some x := ⟨l[0]'(List.length_pos_iff.2 hne), List.getElem?_eq_getElem _⟩
  obtain ⟨b0, o0, i0, l0, _⟩ := hr.at hx0
  have c0 : ((0 : Nat) : Int) = 0 := rfl
  rw [c0] at i0
  have ans : ∀ (tm : T Value) (hx : H) (p : UInt8 × List UInt8 × Nat × Int), cutR f l = p → p.2.1 = [] → p.1 = 0 → p.2.2.1 = 0 → tg tm 4 = bv 0 → tg tm 5 = .slice none 0 0 → tg tm 6 = .int .i64 0 → tg tm 7 = .int .i64 p.2.2.2 → Keep nobody h hx → ∃ q, q22.f tm hx = some q ∧ CutQ (cutR f l) h (resOf q) hx := fun tm hx p hp p1 p2 p3 t4 t5 t6 t7 k => by
    refine ⟨_, rfl, .slice none 0 0, ?_, by rw [hp, p1]; exact .nil, k⟩
    rw [hp, p2, p3]
    simp only [t4, t5, t6, t7]
    simp [resOf]
  refine C.seq (C.seq fun K hK => ?_)
  simp only [↓opStep_eq, ↓reduceIte, tg_set, toTm_cons, toTm_nil, fieldPtr_ptr, Nat.add_zero, Nat.zero_add, Nat.reduceAdd, Nat.reduceEqDiff, Int.reduceEq, Int.reduceLT, Int.reduceLE, Int.reduceNe, ↓kO_some, ↓kA_some, ↓kH_some, kO_some, kA_some, kH_some, gd_true, gd_false, nthD_zero, nthD_succ, isB_true, isB_false, isB_undef, pickV_true, pickV_false, binV_add, binV_sub, binV_mul, binV_eql, binV_neq, binV_lss, binV_leq, binV_gtr, binV_geq, unV_not, nt, nf, Bool.false_eq_true, dt, df, decide_true, decide_false, withV_some, aggO_some, ptrTo_eq, ↓aO_some, aO_some, ↓andB_true, andB_true, gz, gs, seqC, retC, skipC, exitC, blockC, condC, cells_agg, r22_5, i0, l0, neq_u8]
  refine hK _ _ _ (C.cond (!decide (x0 = f)) (by simp only [↓opStep_eq, ↓reduceIte, tg_set, toTm_cons, toTm_nil, fieldPtr_ptr, Nat.add_zero, Nat.zero_add, Nat.reduceAdd, Nat.reduceEqDiff, Int.reduceEq, Int.reduceLT, Int.reduceLE, Int.reduceNe, ↓kO_some, ↓kA_some, ↓kH_some, kO_some, kA_some, kH_some, gd_true, gd_false, nthD_zero, nthD_succ, isB_true, isB_false, isB_undef, pickV_true, pickV_false, binV_add, binV_sub, binV_mul, binV_eql, binV_neq, binV_lss, binV_leq, binV_gtr, binV_geq, unV_not, nt, nf, Bool.false_eq_true, dt, df, decide_true, decide_false, withV_some, aggO_some, ptrTo_eq, ↓aO_some, aO_some, ↓andB_true, andB_true, gz, gs, seqC, retC, skipC, exitC, blockC, condC, cells_agg]) (fun g0 => C.skip (C.cond true (by simp only [↓opStep_eq, ↓reduceIte, tg_set, toTm_cons, toTm_nil, fieldPtr_ptr, Nat.add_zero, Nat.zero_add, Nat.reduceAdd, Nat.reduceEqDiff, Int.reduceEq, Int.reduceLT, Int.reduceLE, Int.reduceNe, ↓kO_some, ↓kA_some, ↓kH_some, kO_some, kA_some, kH_some, gd_true, gd_false, nthD_zero, nthD_succ, isB_true, isB_false, isB_undef, pickV_true, pickV_false, binV_add, binV_sub, binV_mul, binV_eql, binV_neq, binV_lss, binV_leq, binV_gtr, binV_geq, unV_not, nt, nf, Bool.false_eq_true, dt, df, decide_true, decide_false, withV_some, aggO_some, ptrTo_eq, ↓aO_some, aO_some, ↓andB_true, andB_true, gz, gs, seqC, retC, skipC, exitC, blockC, condC, cells_agg, g0]) (fun _ => C.seq fun K hK => hK .norm _ _ (C.ret ⟨.inr rfl, ?_⟩)) fun h => by cases h)) fun g0 => ?_)
  · have g0 : x0 ≠ f := by simpa using g0
    refine ans _ _ (0, [], 0, 8) ?_ rfl rfl rfl (by simp only [↓opStep_eq, ↓reduceIte, tg_set, toTm_cons, toTm_nil, fieldPtr_ptr, Nat.add_zero, Nat.zero_add, Nat.reduceAdd, Nat.reduceEqDiff, Int.reduceEq, Int.reduceLT, Int.reduceLE, Int.reduceNe, ↓kO_some, ↓kA_some, ↓kH_some, kO_some, kA_some, kH_some, gd_true, gd_false, nthD_zero, nthD_succ, isB_true, isB_false, isB_undef, pickV_true, pickV_false, binV_add, binV_sub, binV_mul, binV_eql, binV_neq, binV_lss, binV_leq, binV_gtr, binV_geq, unV_not, nt, nf, Bool.false_eq_true, dt, df, decide_true, decide_false, withV_some, aggO_some, ptrTo_eq, ↓aO_some, aO_some, ↓andB_true, andB_true, gz, gs, seqC, retC, skipC, exitC, blockC, condC, cells_agg, e0]) (by simp only [↓opStep_eq, ↓reduceIte, tg_set, toTm_cons, toTm_nil, fieldPtr_ptr, Nat.add_zero, Nat.zero_add, Nat.reduceAdd, Nat.reduceEqDiff, Int.reduceEq, Int.reduceLT, Int.reduceLE, Int.reduceNe, ↓kO_some, ↓kA_some, ↓kH_some, kO_some, kA_some, kH_some, gd_true, gd_false, nthD_zero, nthD_succ, isB_true, isB_false, isB_undef, pickV_true, pickV_false, binV_add, binV_sub, binV_mul, binV_eql, binV_neq, binV_lss, binV_leq, binV_gtr, binV_geq, unV_not, nt, nf, Bool.false_eq_true, dt, df, decide_true, decide_false, withV_some, aggO_some, ptrTo_eq, ↓aO_some, aO_some, ↓andB_true, andB_true, gz, gs, seqC, retC, skipC, exitC, blockC, condC, cells_agg]) (by simp only [↓opStep_eq, ↓reduceIte, tg_set, toTm_cons, toTm_nil, fieldPtr_ptr, Nat.add_zero, Nat.zero_add, Nat.reduceAdd, Nat.reduceEqDiff, Int.reduceEq, Int.reduceLT, Int.reduceLE, Int.reduceNe, ↓kO_some, ↓kA_some, ↓kH_some, kO_some, kA_some, kH_some, gd_true, gd_false, nthD_zero, nthD_succ, isB_true, isB_false, isB_undef, pickV_true, pickV_false, binV_add, binV_sub, binV_mul, binV_eql, binV_neq, binV_lss, binV_leq, binV_gtr, binV_geq, unV_not, nt, nf, Bool.false_eq_true, dt, df, decide_true, decide_false, withV_some, aggO_some, ptrTo_eq, ↓aO_some, aO_some, ↓andB_true, andB_true, gz, gs, seqC, retC, skipC, exitC, blockC, condC, cells_agg]) (by simp only [↓opStep_eq, ↓reduceIte, tg_set, toTm_cons, toTm_nil, fieldPtr_ptr, Nat.add_zero, Nat.zero_add, Nat.reduceAdd, Nat.reduceEqDiff, Int.reduceEq, Int.reduceLT, Int.reduceLE, Int.reduceNe, ↓kO_some, ↓kA_some, ↓kH_some, kO_some, kA_some, kH_some, gd_true, gd_false, nthD_zero, nthD_succ, isB_true, isB_false, isB_undef, pickV_true, pickV_false, binV_add, binV_sub, binV_mul, binV_eql, binV_neq, binV_lss, binV_leq, binV_gtr, binV_geq, unV_not, nt, nf, Bool.false_eq_true, dt, df, decide_true, decide_false, withV_some, aggO_some, ptrTo_eq, ↓aO_some, aO_some, ↓andB_true, andB_true, gz, gs, seqC, retC, skipC, exitC, blockC, condC, cells_agg]) (.refl _ _)
    by_cases h6 : l.length < 6
    · obtain ⟨y, r, rfl, hc⟩ := short_form hne h6
      have : y = x0 := by simpa using hx0
      subst this
      rw [hc f hb, if_pos g0]
    · obtain ⟨y, x1, x2, x3, x4, x5, r, rfl⟩ := long_form h6
      have : y = x0 := by simpa using hx0
      subst this
      unfold cutR
      rw [if_neg hb]
      simp only [if_pos g0]
  have g0 : x0 = f := by simpa using g0
  subst g0
  by_cases h6 : l.length < 6
  · have h6a : ¬ (6 : Int) ≤ l.length := by omega
    have h6b : (l.length : Int) < 6 := by omega
    have hcut : cutR x0 l = (0, [], 0, 0) := by
      obtain ⟨y, r, rfl, hc⟩ := short_form hne h6
      have : y = x0 := by simpa using hx0
      subst this
      rw [hc y hb, if_neg (fun h => h rfl)]
    intro K hK
    simp only [r22_6, ↓opStep_eq, ↓reduceIte, tg_set, toTm_cons, toTm_nil, fieldPtr_ptr, Nat.add_zero, Nat.zero_add, Nat.reduceAdd, Nat.reduceEqDiff, Int.reduceEq, Int.reduceLT, Int.reduceLE, Int.reduceNe, ↓kO_some, ↓kA_some, ↓kH_some, kO_some, kA_some, kH_some, gd_true, gd_false, nthD_zero, nthD_succ, isB_true, isB_false, isB_undef, pickV_true, pickV_false, binV_add, binV_sub, binV_mul, binV_eql, binV_neq, binV_lss, binV_leq, binV_gtr, binV_geq, unV_not, nt, nf, Bool.false_eq_true, dt, df, decide_true, decide_false, withV_some, aggO_some, ptrTo_eq, ↓aO_some, aO_some, ↓andB_true, andB_true, gz, gs, seqC, retC, skipC, exitC, blockC, condC, cells_agg, hr.len, h6a]
    refine hK _ _ _ (C.cond false (by simp only [↓opStep_eq, ↓reduceIte, tg_set, toTm_cons, toTm_nil, fieldPtr_ptr, Nat.add_zero, Nat.zero_add, Nat.reduceAdd, Nat.reduceEqDiff, Int.reduceEq, Int.reduceLT, Int.reduceLE, Int.reduceNe, ↓kO_some, ↓kA_some, ↓kH_some, kO_some, kA_some, kH_some, gd_true, gd_false, nthD_zero, nthD_succ, isB_true, isB_false, isB_undef, pickV_true, pickV_false, binV_add, binV_sub, binV_mul, binV_eql, binV_neq, binV_lss, binV_leq, binV_gtr, binV_geq, unV_not, nt, nf, Bool.false_eq_true, dt, df, decide_true, decide_false, withV_some, aggO_some, ptrTo_eq, ↓aO_some, aO_some, ↓andB_true, andB_true, gz, gs, seqC, retC, skipC, exitC, blockC, condC, cells_agg]) (fun h => by cases h) fun _ => C.seq (C.seq fun K hK => ?_))
    simp only [r22_8, ↓opStep_eq, ↓reduceIte, tg_set, toTm_cons, toTm_nil, fieldPtr_ptr, Nat.add_zero, Nat.zero_add, Nat.reduceAdd, Nat.reduceEqDiff, Int.reduceEq, Int.reduceLT, Int.reduceLE, Int.reduceNe, ↓kO_some, ↓kA_some, ↓kH_some, kO_some, kA_some, kH_some, gd_true, gd_false, nthD_zero, nthD_succ, isB_true, isB_false, isB_undef, pickV_true, pickV_false, binV_add, binV_sub, binV_mul, binV_eql, binV_neq, binV_lss, binV_leq, binV_gtr, binV_geq, unV_not, nt, nf, Bool.false_eq_true, dt, df, decide_true, decide_false, withV_some, aggO_some, ptrTo_eq, ↓aO_some, aO_some, ↓andB_true, andB_true, gz, gs, seqC, retC, skipC, exitC, blockC, condC, cells_agg, hr.len, h6b]
    refine hK _ _ _ (C.cond true (by simp only [↓opStep_eq, ↓reduceIte, tg_set, toTm_cons, toTm_nil, fieldPtr_ptr, Nat.add_zero, Nat.zero_add, Nat.reduceAdd, Nat.reduceEqDiff, Int.reduceEq, Int.reduceLT, Int.reduceLE, Int.reduceNe, ↓kO_some, ↓kA_some, ↓kH_some, kO_some, kA_some, kH_some, gd_true, gd_false, nthD_zero, nthD_succ, isB_true, isB_false, isB_undef, pickV_true, pickV_false, binV_add, binV_sub, binV_mul, binV_eql, binV_neq, binV_lss, binV_leq, binV_gtr, binV_geq, unV_not, nt, nf, Bool.false_eq_true, dt, df, decide_true, decide_false, withV_some, aggO_some, ptrTo_eq, ↓aO_some, aO_some, ↓andB_true, andB_true, gz, gs, seqC, retC, skipC, exitC, blockC, condC, cells_agg]) (fun _ => C.skip (C.cond true (by simp only [↓opStep_eq, ↓reduceIte, tg_set, toTm_cons, toTm_nil, fieldPtr_ptr, Nat.add_zero, Nat.zero_add, Nat.reduceAdd, Nat.reduceEqDiff, Int.reduceEq, Int.reduceLT, Int.reduceLE, Int.reduceNe, ↓kO_some, ↓kA_some, ↓kH_some, kO_some, kA_some, kH_some, gd_true, gd_false, nthD_zero, nthD_succ, isB_true, isB_false, isB_undef, pickV_true, pickV_false, binV_add, binV_sub, binV_mul, binV_eql, binV_neq, binV_lss, binV_leq, binV_gtr, binV_geq, unV_not, nt, nf, Bool.false_eq_true, dt, df, decide_true, decide_false, withV_some, aggO_some, ptrTo_eq, ↓aO_some, aO_some, ↓andB_true, andB_true, gz, gs, seqC, retC, skipC, exitC, blockC, condC, cells_agg]) (fun _ => C.seq fun K hK => hK .norm _ _ (C.ret ⟨.inr rfl, ?_⟩)) fun h => by cases h)) fun h => by cases h)
    exact ans _ _ (0, [], 0, 0) hcut rfl rfl rfl (by simp only [↓opStep_eq, ↓reduceIte, tg_set, toTm_cons, toTm_nil, fieldPtr_ptr, Nat.add_zero, Nat.zero_add, Nat.reduceAdd, Nat.reduceEqDiff, Int.reduceEq, Int.reduceLT, Int.reduceLE, Int.reduceNe, ↓kO_some, ↓kA_some, ↓kH_some, kO_some, kA_some, kH_some, gd_true, gd_false, nthD_zero, nthD_succ, isB_true, isB_false, isB_undef, pickV_true, pickV_false, binV_add, binV_sub, binV_mul, binV_eql, binV_neq, binV_lss, binV_leq, binV_gtr, binV_geq, unV_not, nt, nf, Bool.false_eq_true, dt, df, decide_true, decide_false, withV_some, aggO_some, ptrTo_eq, ↓aO_some, aO_some, ↓andB_true, andB_true, gz, gs, seqC, retC, skipC, exitC, blockC, condC, cells_agg, e0]) (by simp only [↓opStep_eq, ↓reduceIte, tg_set, toTm_cons, toTm_nil, fieldPtr_ptr, Nat.add_zero, Nat.zero_add, Nat.reduceAdd, Nat.reduceEqDiff, Int.reduceEq, Int.reduceLT, Int.reduceLE, Int.reduceNe, ↓kO_some, ↓kA_some, ↓kH_some, kO_some, kA_some, kH_some, gd_true, gd_false, nthD_zero, nthD_succ, isB_true, isB_false, isB_undef, pickV_true, pickV_false, binV_add, binV_sub, binV_mul, binV_eql, binV_neq, binV_lss, binV_leq, binV_gtr, binV_geq, unV_not, nt, nf, Bool.false_eq_true, dt, df, decide_true, decide_false, withV_some, aggO_some, ptrTo_eq, ↓aO_some, aO_some, ↓andB_true, andB_true, gz, gs, seqC, retC, skipC, exitC, blockC, condC, cells_agg]) (by simp only [↓opStep_eq, ↓reduceIte, tg_set, toTm_cons, toTm_nil, fieldPtr_ptr, Nat.add_zero, Nat.zero_add, Nat.reduceAdd, Nat.reduceEqDiff, Int.reduceEq, Int.reduceLT, Int.reduceLE, Int.reduceNe, ↓kO_some, ↓kA_some, ↓kH_some, kO_some, kA_some, kH_some, gd_true, gd_false, nthD_zero, nthD_succ, isB_true, isB_false, isB_undef, pickV_true, pickV_false, binV_add, binV_sub, binV_mul, binV_eql, binV_neq, binV_lss, binV_leq, binV_gtr, binV_geq, unV_not, nt, nf, Bool.false_eq_true, dt, df, decide_true, decide_false, withV_some, aggO_some, ptrTo_eq, ↓aO_some, aO_some, ↓andB_true, andB_true, gz, gs, seqC, retC, skipC, exitC, blockC, condC, cells_agg]) (by simp only [↓opStep_eq, ↓reduceIte, tg_set, toTm_cons, toTm_nil, fieldPtr_ptr, Nat.add_zero, Nat.zero_add, Nat.reduceAdd, Nat.reduceEqDiff, Int.reduceEq, Int.reduceLT, Int.reduceLE, Int.reduceNe, ↓kO_some, ↓kA_some, ↓kH_some, kO_some, kA_some, kH_some, gd_true, gd_false, nthD_zero, nthD_succ, isB_true, isB_false, isB_undef, pickV_true, pickV_false, binV_add, binV_sub, binV_mul, binV_eql, binV_neq, binV_lss, binV_leq, binV_gtr, binV_geq, unV_not, nt, nf, Bool.false_eq_true, dt, df, decide_true, decide_false, withV_some, aggO_some, ptrTo_eq, ↓aO_some, aO_some, ↓andB_true, andB_true, gz, gs, seqC, retC, skipC, exitC, blockC, condC, cells_agg]) (.refl _ _)
  have h6a : (6 : Int) ≤ l.length := by omega
  have h6b : ¬ (l.length : Int) < 6 := by omega
  obtain ⟨y, x1, x2, x3, x4, x5, r, hlr⟩ := long_form h6
  have : y = x0 := by rw [hlr] at hx0; simpa using hx0
  subst this
  have hcut : cutR y l = if 4096 < n4 x2 x3 x4 x5 then (0, [], 0, 8) else if l.length < 6 + n4 x2 x3 x4 x5 then (0, [], 0, 0) else (x1, r.take (n4 x2 x3 x4 x5), 6 + n4 x2 x3 x4 x5, 0) := by
    unfold cutR
    rw [if_neg hb]
    subst hlr
    simp only [ne_eq, not_true_eq_false, if_false]
  intro K hK
  simp only [r22_6, ↓opStep_eq, ↓reduceIte, tg_set, toTm_cons, toTm_nil, fieldPtr_ptr, Nat.add_zero, Nat.zero_add, Nat.reduceAdd, Nat.reduceEqDiff, Int.reduceEq, Int.reduceLT, Int.reduceLE, Int.reduceNe, ↓kO_some, ↓kA_some, ↓kH_some, kO_some, kA_some, kH_some, gd_true, gd_false, nthD_zero, nthD_succ, isB_true, isB_false, isB_undef, pickV_true, pickV_false, binV_add, binV_sub, binV_mul, binV_eql, binV_neq, binV_lss, binV_leq, binV_gtr, binV_geq, unV_not, nt, nf, Bool.false_eq_true, dt, df, decide_true, decide_false, withV_some, aggO_some, ptrTo_eq, ↓aO_some, aO_some, ↓andB_true, andB_true, gz, gs, seqC, retC, skipC, exitC, blockC, condC, cells_agg, hr.len, h6a]
  refine bin_size L n v l h hr hlr _ fun q h2 hq => ?_
  obtain ⟨rfl, k2⟩ := hq
  simp only [↓opStep_eq, ↓reduceIte, tg_set, toTm_cons, toTm_nil, fieldPtr_ptr, Nat.add_zero, Nat.zero_add, Nat.reduceAdd, Nat.reduceEqDiff, Int.reduceEq, Int.reduceLT, Int.reduceLE, Int.reduceNe, ↓kO_some, ↓kA_some, ↓kH_some, kO_some, kA_some, kH_some, gd_true, gd_false, nthD_zero, nthD_succ, isB_true, isB_false, isB_undef, pickV_true, pickV_false, binV_add, binV_sub, binV_mul, binV_eql, binV_neq, binV_lss, binV_leq, binV_gtr, binV_geq, unV_not, nt, nf, Bool.false_eq_true, dt, df, decide_true, decide_false, withV_some, aggO_some, ptrTo_eq, ↓aO_some, aO_some, ↓andB_true, andB_true, gz, gs, seqC, retC, skipC, exitC, blockC, condC, cells_agg]
  refine hK _ _ _ (C.cond (decide (4096 < (n4 x2 x3 x4 x5 : Int))) (by simp only [↓opStep_eq, ↓reduceIte, tg_set, toTm_cons, toTm_nil, fieldPtr_ptr, Nat.add_zero, Nat.zero_add, Nat.reduceAdd, Nat.reduceEqDiff, Int.reduceEq, Int.reduceLT, Int.reduceLE, Int.reduceNe, ↓kO_some, ↓kA_some, ↓kH_some, kO_some, kA_some, kH_some, gd_true, gd_false, nthD_zero, nthD_succ, isB_true, isB_false, isB_undef, pickV_true, pickV_false, binV_add, binV_sub, binV_mul, binV_eql, binV_neq, binV_lss, binV_leq, binV_gtr, binV_geq, unV_not, nt, nf, Bool.false_eq_true, dt, df, decide_true, decide_false, withV_some, aggO_some, ptrTo_eq, ↓aO_some, aO_some, ↓andB_true, andB_true, gz, gs, seqC, retC, skipC, exitC, blockC, condC, cells_agg]) (fun g => C.seq fun K hK => hK .norm _ _ (C.ret ⟨.inr rfl, ?_⟩)) fun g => ?_)
  · have g : 4096 < n4 x2 x3 x4 x5 := by have := of_decide_eq_true g; omega
    rw [if_pos g] at hcut
    exact ans _ _ (0, [], 0, 8) hcut rfl rfl rfl (by simp only [↓opStep_eq, ↓reduceIte, tg_set, toTm_cons, toTm_nil, fieldPtr_ptr, Nat.add_zero, Nat.zero_add, Nat.reduceAdd, Nat.reduceEqDiff, Int.reduceEq, Int.reduceLT, Int.reduceLE, Int.reduceNe, ↓kO_some, ↓kA_some, ↓kH_some, kO_some, kA_some, kH_some, gd_true, gd_false, nthD_zero, nthD_succ, isB_true, isB_false, isB_undef, pickV_true, pickV_false, binV_add, binV_sub, binV_mul, binV_eql, binV_neq, binV_lss, binV_leq, binV_gtr, binV_geq, unV_not, nt, nf, Bool.false_eq_true, dt, df, decide_true, decide_false, withV_some, aggO_some, ptrTo_eq, ↓aO_some, aO_some, ↓andB_true, andB_true, gz, gs, seqC, retC, skipC, exitC, blockC, condC, cells_agg, e0]) (by simp only [↓opStep_eq, ↓reduceIte, tg_set, toTm_cons, toTm_nil, fieldPtr_ptr, Nat.add_zero, Nat.zero_add, Nat.reduceAdd, Nat.reduceEqDiff, Int.reduceEq, Int.reduceLT, Int.reduceLE, Int.reduceNe, ↓kO_some, ↓kA_some, ↓kH_some, kO_some, kA_some, kH_some, gd_true, gd_false, nthD_zero, nthD_succ, isB_true, isB_false, isB_undef, pickV_true, pickV_false, binV_add, binV_sub, binV_mul, binV_eql, binV_neq, binV_lss, binV_leq, binV_gtr, binV_geq, unV_not, nt, nf, Bool.false_eq_true, dt, df, decide_true, decide_false, withV_some, aggO_some, ptrTo_eq, ↓aO_some, aO_some, ↓andB_true, andB_true, gz, gs, seqC, retC, skipC, exitC, blockC, condC, cells_agg]) (by simp only [↓opStep_eq, ↓reduceIte, tg_set, toTm_cons, toTm_nil, fieldPtr_ptr, Nat.add_zero, Nat.zero_add, Nat.reduceAdd, Nat.reduceEqDiff, Int.reduceEq, Int.reduceLT, Int.reduceLE, Int.reduceNe, ↓kO_some, ↓kA_some, ↓kH_some, kO_some, kA_some, kH_some, gd_true, gd_false, nthD_zero, nthD_succ, isB_true, isB_false, isB_undef, pickV_true, pickV_false, binV_add, binV_sub, binV_mul, binV_eql, binV_neq, binV_lss, binV_leq, binV_gtr, binV_geq, unV_not, nt, nf, Bool.false_eq_true, dt, df, decide_true, decide_false, withV_some, aggO_some, ptrTo_eq, ↓aO_some, aO_some, ↓andB_true, andB_true, gz, gs, seqC, retC, skipC, exitC, blockC, condC, cells_agg]) (by simp only [↓opStep_eq, ↓reduceIte, tg_set, toTm_cons, toTm_nil, fieldPtr_ptr, Nat.add_zero, Nat.zero_add, Nat.reduceAdd, Nat.reduceEqDiff, Int.reduceEq, Int.reduceLT, Int.reduceLE, Int.reduceNe, ↓kO_some, ↓kA_some, ↓kH_some, kO_some, kA_some, kH_some, gd_true, gd_false, nthD_zero, nthD_succ, isB_true, isB_false, isB_undef, pickV_true, pickV_false, binV_add, binV_sub, binV_mul, binV_eql, binV_neq, binV_lss, binV_leq, binV_gtr, binV_geq, unV_not, nt, nf, Bool.false_eq_true, dt, df, decide_true, decide_false, withV_some, aggO_some, ptrTo_eq, ↓aO_some, aO_some, ↓andB_true, andB_true, gz, gs, seqC, retC, skipC, exitC, blockC, condC, cells_agg]) k2
  have g : ¬ 4096 < n4 x2 x3 x4 x5 := by have := of_decide_eq_false g; omega
  rw [if_neg g] at hcut
  have hadd : IntKind.i64.wrap (6 + (n4 x2 x3 x4 x5 : Int)) = ((6 + n4 x2 x3 x4 x5 : Nat) : Int) := by
    rw [show (6 : Int) + (n4 x2 x3 x4 x5 : Int) = ((6 + n4 x2 x3 x4 x5 : Nat) : Int) by omega, wrap_i64 _ (by omega)]
  refine C.seq (C.seq fun K hK => ?_)
  simp only [r22_8, ↓opStep_eq, ↓reduceIte, tg_set, toTm_cons, toTm_nil, fieldPtr_ptr, Nat.add_zero, Nat.zero_add, Nat.reduceAdd, Nat.reduceEqDiff, Int.reduceEq, Int.reduceLT, Int.reduceLE, Int.reduceNe, ↓kO_some, ↓kA_some, ↓kH_some, kO_some, kA_some, kH_some, gd_true, gd_false, nthD_zero, nthD_succ, isB_true, isB_false, isB_undef, pickV_true, pickV_false, binV_add, binV_sub, binV_mul, binV_eql, binV_neq, binV_lss, binV_leq, binV_gtr, binV_geq, unV_not, nt, nf, Bool.false_eq_true, dt, df, decide_true, decide_false, withV_some, aggO_some, ptrTo_eq, ↓aO_some, aO_some, ↓andB_true, andB_true, gz, gs, seqC, retC, skipC, exitC, blockC, condC, cells_agg, hr.len, h6b]
  refine hK _ _ _ (C.cond false (by simp only [↓opStep_eq, ↓reduceIte, tg_set, toTm_cons, toTm_nil, fieldPtr_ptr, Nat.add_zero, Nat.zero_add, Nat.reduceAdd, Nat.reduceEqDiff, Int.reduceEq, Int.reduceLT, Int.reduceLE, Int.reduceNe, ↓kO_some, ↓kA_some, ↓kH_some, kO_some, kA_some, kH_some, gd_true, gd_false, nthD_zero, nthD_succ, isB_true, isB_false, isB_undef, pickV_true, pickV_false, binV_add, binV_sub, binV_mul, binV_eql, binV_neq, binV_lss, binV_leq, binV_gtr, binV_geq, unV_not, nt, nf, Bool.false_eq_true, dt, df, decide_true, decide_false, withV_some, aggO_some, ptrTo_eq, ↓aO_some, aO_some, ↓andB_true, andB_true, gz, gs, seqC, retC, skipC, exitC, blockC, condC, cells_agg]) (fun h => by cases h) fun _ => ?_)
  intro K hK
  simp only [r22_9, ↓opStep_eq, ↓reduceIte, tg_set, toTm_cons, toTm_nil, fieldPtr_ptr, Nat.add_zero, Nat.zero_add, Nat.reduceAdd, Nat.reduceEqDiff, Int.reduceEq, Int.reduceLT, Int.reduceLE, Int.reduceNe, ↓kO_some, ↓kA_some, ↓kH_some, kO_some, kA_some, kH_some, gd_true, gd_false, nthD_zero, nthD_succ, isB_true, isB_false, isB_undef, pickV_true, pickV_false, binV_add, binV_sub, binV_mul, binV_eql, binV_neq, binV_lss, binV_leq, binV_gtr, binV_geq, unV_not, nt, nf, Bool.false_eq_true, dt, df, decide_true, decide_false, withV_some, aggO_some, ptrTo_eq, ↓aO_some, aO_some, ↓andB_true, andB_true, gz, gs, seqC, retC, skipC, exitC, blockC, condC, cells_agg, hr.len]
  refine bin_size L n v l h2 (hr.keep0 k2) hlr _ fun q h3 hq => ?_
  obtain ⟨rfl, k3⟩ := hq
  simp only [↓opStep_eq, ↓reduceIte, tg_set, toTm_cons, toTm_nil, fieldPtr_ptr, Nat.add_zero, Nat.zero_add, Nat.reduceAdd, Nat.reduceEqDiff, Int.reduceEq, Int.reduceLT, Int.reduceLE, Int.reduceNe, ↓kO_some, ↓kA_some, ↓kH_some, kO_some, kA_some, kH_some, gd_true, gd_false, nthD_zero, nthD_succ, isB_true, isB_false, isB_undef, pickV_true, pickV_false, binV_add, binV_sub, binV_mul, binV_eql, binV_neq, binV_lss, binV_leq, binV_gtr, binV_geq, unV_not, nt, nf, Bool.false_eq_true, dt, df, decide_true, decide_false, withV_some, aggO_some, ptrTo_eq, ↓aO_some, aO_some, ↓andB_true, andB_true, gz, gs, seqC, retC, skipC, exitC, blockC, condC, cells_agg, hadd]
  refine hK _ _ _ (C.cond (decide ((l.length : Int) < ((6 + n4 x2 x3 x4 x5 : Nat) : Int))) (by simp only [↓opStep_eq, ↓reduceIte, tg_set, toTm_cons, toTm_nil, fieldPtr_ptr, Nat.add_zero, Nat.zero_add, Nat.reduceAdd, Nat.reduceEqDiff, Int.reduceEq, Int.reduceLT, Int.reduceLE, Int.reduceNe, ↓kO_some, ↓kA_some, ↓kH_some, kO_some, kA_some, kH_some, gd_true, gd_false, nthD_zero, nthD_succ, isB_true, isB_false, isB_undef, pickV_true, pickV_false, binV_add, binV_sub, binV_mul, binV_eql, binV_neq, binV_lss, binV_leq, binV_gtr, binV_geq, unV_not, nt, nf, Bool.false_eq_true, dt, df, decide_true, decide_false, withV_some, aggO_some, ptrTo_eq, ↓aO_some, aO_some, ↓andB_true, andB_true, gz, gs, seqC, retC, skipC, exitC, blockC, condC, cells_agg]) (fun g2 => C.seq fun K hK => hK .norm _ _ (C.ret ⟨.inr rfl, ?_⟩)) fun g2 => C.skip ?_)
  · have g2 : l.length < 6 + n4 x2 x3 x4 x5 := by have := of_decide_eq_true g2; omega
    rw [if_pos g2] at hcut
    exact ans _ _ (0, [], 0, 0) hcut rfl rfl rfl (by simp only [↓opStep_eq, ↓reduceIte, tg_set, toTm_cons, toTm_nil, fieldPtr_ptr, Nat.add_zero, Nat.zero_add, Nat.reduceAdd, Nat.reduceEqDiff, Int.reduceEq, Int.reduceLT, Int.reduceLE, Int.reduceNe, ↓kO_some, ↓kA_some, ↓kH_some, kO_some, kA_some, kH_some, gd_true, gd_false, nthD_zero, nthD_succ, isB_true, isB_false, isB_undef, pickV_true, pickV_false, binV_add, binV_sub, binV_mul, binV_eql, binV_neq, binV_lss, binV_leq, binV_gtr, binV_geq, unV_not, nt, nf, Bool.false_eq_true, dt, df, decide_true, decide_false, withV_some, aggO_some, ptrTo_eq, ↓aO_some, aO_some, ↓andB_true, andB_true, gz, gs, seqC, retC, skipC, exitC, blockC, condC, cells_agg, e0]) (by simp only [↓opStep_eq, ↓reduceIte, tg_set, toTm_cons, toTm_nil, fieldPtr_ptr, Nat.add_zero, Nat.zero_add, Nat.reduceAdd, Nat.reduceEqDiff, Int.reduceEq, Int.reduceLT, Int.reduceLE, Int.reduceNe, ↓kO_some, ↓kA_some, ↓kH_some, kO_some, kA_some, kH_some, gd_true, gd_false, nthD_zero, nthD_succ, isB_true, isB_false, isB_undef, pickV_true, pickV_false, binV_add, binV_sub, binV_mul, binV_eql, binV_neq, binV_lss, binV_leq, binV_gtr, binV_geq, unV_not, nt, nf, Bool.false_eq_true, dt, df, decide_true, decide_false, withV_some, aggO_some, ptrTo_eq, ↓aO_some, aO_some, ↓andB_true, andB_true, gz, gs, seqC, retC, skipC, exitC, blockC, condC, cells_agg]) (by simp only [↓opStep_eq, ↓reduceIte, tg_set, toTm_cons, toTm_nil, fieldPtr_ptr, Nat.add_zero, Nat.zero_add, Nat.reduceAdd, Nat.reduceEqDiff, Int.reduceEq, Int.reduceLT, Int.reduceLE, Int.reduceNe, ↓kO_some, ↓kA_some, ↓kH_some, kO_some, kA_some, kH_some, gd_true, gd_false, nthD_zero, nthD_succ, isB_true, isB_false, isB_undef, pickV_true, pickV_false, binV_add, binV_sub, binV_mul, binV_eql, binV_neq, binV_lss, binV_leq, binV_gtr, binV_geq, unV_not, nt, nf, Bool.false_eq_true, dt, df, decide_true, decide_false, withV_some, aggO_some, ptrTo_eq, ↓aO_some, aO_some, ↓andB_true, andB_true, gz, gs, seqC, retC, skipC, exitC, blockC, condC, cells_agg]) (by simp only [↓opStep_eq, ↓reduceIte, tg_set, toTm_cons, toTm_nil, fieldPtr_ptr, Nat.add_zero, Nat.zero_add, Nat.reduceAdd, Nat.reduceEqDiff, Int.reduceEq, Int.reduceLT, Int.reduceLE, Int.reduceNe, ↓kO_some, ↓kA_some, ↓kH_some, kO_some, kA_some, kH_some, gd_true, gd_false, nthD_zero, nthD_succ, isB_true, isB_false, isB_undef, pickV_true, pickV_false, binV_add, binV_sub, binV_mul, binV_eql, binV_neq, binV_lss, binV_leq, binV_gtr, binV_geq, unV_not, nt, nf, Bool.false_eq_true, dt, df, decide_true, decide_false, withV_some, aggO_some, ptrTo_eq, ↓aO_some, aO_some, ↓andB_true, andB_true, gz, gs, seqC, retC, skipC, exitC, blockC, condC, cells_agg]) (k2.then k3)
  have g2 : ¬ l.length < 6 + n4 x2 x3 x4 x5 := by have := of_decide_eq_false g2; omega
  rw [if_neg g2] at hcut
  refine C.seq fun K hK => ?_
  simp only [r22_11, ↓opStep_eq, ↓reduceIte, tg_set, toTm_cons, toTm_nil, fieldPtr_ptr, Nat.add_zero, Nat.zero_add, Nat.reduceAdd, Nat.reduceEqDiff, Int.reduceEq, Int.reduceLT, Int.reduceLE, Int.reduceNe, ↓kO_some, ↓kA_some, ↓kH_some, kO_some, kA_some, kH_some, gd_true, gd_false, nthD_zero, nthD_succ, isB_true, isB_false, isB_undef, pickV_true, pickV_false, binV_add, binV_sub, binV_mul, binV_eql, binV_neq, binV_lss, binV_leq, binV_gtr, binV_geq, unV_not, nt, nf, Bool.false_eq_true, dt, df, decide_true, decide_false, withV_some, aggO_some, ptrTo_eq, ↓aO_some, aO_some, ↓andB_true, andB_true, gz, gs, seqC, retC, skipC, exitC, blockC, condC, cells_agg]
  refine bin_size L n v l h3 (hr.keep0 (k2.then k3)) hlr _ fun q h4 hq => ?_
  obtain ⟨rfl, k4⟩ := hq
  simp only [↓opStep_eq, ↓reduceIte, tg_set, toTm_cons, toTm_nil, fieldPtr_ptr, Nat.add_zero, Nat.zero_add, Nat.reduceAdd, Nat.reduceEqDiff, Int.reduceEq, Int.reduceLT, Int.reduceLE, Int.reduceNe, ↓kO_some, ↓kA_some, ↓kH_some, kO_some, kA_some, kH_some, gd_true, gd_false, nthD_zero, nthD_succ, isB_true, isB_false, isB_undef, pickV_true, pickV_false, binV_add, binV_sub, binV_mul, binV_eql, binV_neq, binV_lss, binV_leq, binV_gtr, binV_geq, unV_not, nt, nf, Bool.false_eq_true, dt, df, decide_true, decide_false, withV_some, aggO_some, ptrTo_eq, ↓aO_some, aO_some, ↓andB_true, andB_true, gz, gs, seqC, retC, skipC, exitC, blockC, condC, cells_agg, hadd]
  have k24 := (k2.then k3).then k4
  have k0 := keep_room h4 12
  have hr4 := hr.keep0 (k24.then k0)
  have hx1 : l[1]? = some x1 := by rw [hlr]; rfl
  obtain ⟨b1, o1, i1, l1⟩ := hr4.atK hx1
  have c1 : ((1 : Nat) : Int) = 1 := rfl
  rw [c1] at i1
  obtain ⟨v5, e5, r5, _⟩ := hr4.mid (some (.int .i64 ((6 : Nat) : Int))) 6 (6 + n4 x2 x3 x4 x5) (.inr rfl) (by omega) (by omega) .i64
  have c6 : ((6 : Nat) : Int) = 6 := rfl
  rw [c6] at e5
  have hbody : (l.take (6 + n4 x2 x3 x4 x5)).drop 6 = r.take (n4 x2 x3 x4 x5) := by
    rw [List.drop_take, hlr]; simp
  rw [hbody] at r5
  refine hK _ _ _ (C.seq fun K hK => ?_)
  simp only [r22_12, ↓opStep_eq, ↓reduceIte, tg_set, toTm_cons, toTm_nil, fieldPtr_ptr, Nat.add_zero, Nat.zero_add, Nat.reduceAdd, Nat.reduceEqDiff, Int.reduceEq, Int.reduceLT, Int.reduceLE, Int.reduceNe, ↓kO_some, ↓kA_some, ↓kH_some, kO_some, kA_some, kH_some, gd_true, gd_false, nthD_zero, nthD_succ, isB_true, isB_false, isB_undef, pickV_true, pickV_false, binV_add, binV_sub, binV_mul, binV_eql, binV_neq, binV_lss, binV_leq, binV_gtr, binV_geq, unV_not, nt, nf, Bool.false_eq_true, dt, df, decide_true, decide_false, withV_some, aggO_some, ptrTo_eq, ↓aO_some, aO_some, ↓andB_true, andB_true, gz, gs, seqC, retC, skipC, exitC, blockC, condC, cells_agg, i1, l1 _ (Keep.refl _ _), e5]
  refine clone37 L n v5 _ _ r5 (by simp; omega) _ fun w h5 hw => ?_
  obtain ⟨m5, k5, _⟩ := hw
  have hO1 := hO_self (show veq 64 (bv x1) (bv x1) = true from veq_int .u8 _)
  simp only [↓opStep_eq, ↓reduceIte, tg_set, toTm_cons, toTm_nil, fieldPtr_ptr, Nat.add_zero, Nat.zero_add, Nat.reduceAdd, Nat.reduceEqDiff, Int.reduceEq, Int.reduceLT, Int.reduceLE, Int.reduceNe, ↓kO_some, ↓kA_some, ↓kH_some, kO_some, kA_some, kH_some, gd_true, gd_false, nthD_zero, nthD_succ, isB_true, isB_false, isB_undef, pickV_true, pickV_false, binV_add, binV_sub, binV_mul, binV_eql, binV_neq, binV_lss, binV_leq, binV_gtr, binV_geq, unV_not, nt, nf, Bool.false_eq_true, dt, df, decide_true, decide_false, withV_some, aggO_some, ptrTo_eq, ↓aO_some, aO_some, ↓andB_true, andB_true, gz, gs, seqC, retC, skipC, exitC, blockC, condC, cells_agg, l1 _ k5, hO1]
  refine hK _ _ _ (C.ret ⟨.inr rfl, _, rfl, w, ?_, by rw [hcut]; exact m5, (k24.then k0).then k5⟩)
  rw [hcut]
  simp only [↓opStep_eq, ↓reduceIte, tg_set, toTm_cons, toTm_nil, fieldPtr_ptr, Nat.add_zero, Nat.zero_add, Nat.reduceAdd, Nat.reduceEqDiff, Int.reduceEq, Int.reduceLT, Int.reduceLE, Int.reduceNe, ↓kO_some, ↓kA_some, ↓kH_some, kO_some, kA_some, kH_some, gd_true, gd_false, nthD_zero, nthD_succ, isB_true, isB_false, isB_undef, pickV_true, pickV_false, binV_add, binV_sub, binV_mul, binV_eql, binV_neq, binV_lss, binV_leq, binV_gtr, binV_geq, unV_not, nt, nf, Bool.false_eq_true, dt, df, decide_true, decide_false, withV_some, aggO_some, ptrTo_eq, ↓aO_some, aO_some, ↓andB_true, andB_true, gz, gs, seqC, retC, skipC, exitC, blockC, condC, cells_agg]
  simp [resOf]
end Go.Proofs.Ytpaolklbogakgaa
