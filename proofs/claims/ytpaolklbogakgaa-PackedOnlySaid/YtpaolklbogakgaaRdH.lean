import Derived.Test.YtpaolklbogakgaaRdA
set_option linter.unusedSimpArgs false
set_option linter.unusedVariables false
namespace Go.Proofs.Ytpaolklbogakgaa
open Go.Ev

end Go.Proofs.Ytpaolklbogakgaa

namespace Go.Proofs.Ytpaolklbogakgaa
open Go.Ev

/-- the number of bytes, the lowest first -/
def val : List UInt8 → Nat
  | [] => 0
  | x :: r => x.toNat % 128 + 128 * val r
section
variable {call : CallT} {L : Nat} {tm : T Value} {h : H} {K : KE} {v : Value} {l : List UInt8}
end
end Go.Proofs.Ytpaolklbogakgaa

namespace Go.Proofs.Ytpaolklbogakgaa
open Go.Ev

end Go.Proofs.Ytpaolklbogakgaa

namespace Go.Proofs.Ytpaolklbogakgaa
open Go.Ev

/-- a text that bytes begin with, and the rest -/
def cutS (l : List UInt8) : Option (List UInt8 × List UInt8) := match rd 0 l with
  | none => none
  | some (n, k) => if l.length - k < n then none else some ((l.drop k).take n, l.drop (k + n))
def cutE (l : List UInt8) : Int := if (cutS l).isSome then 0 else 8
def cutT (l : List UInt8) : List UInt8 := match cutS l with | some p => p.1 | none => []
def cutO (l : List UInt8) : List UInt8 := match cutS l with | some p => p.2 | none => []

theorem cutO_len (l : List UInt8) : (cutO l).length ≤ l.length := by
  unfold cutO cutS
  cases rd 0 l with
  | none => simp
  | some p =>
    obtain ⟨n, k⟩ := p
    simp only
    split
    · rename_i h
      split at h
      · cases h
      · simp only [Option.some.injEq] at h; subst h; simp
    · simp
theorem cutT_len (l : List UInt8) : (cutT l).length ≤ l.length := by
  unfold cutT cutS
  cases rd 0 l with
  | none => simp
  | some p =>
    obtain ⟨n, k⟩ := p
    simp only
    split
    · rename_i h
      split at h
      · cases h
      · simp only [Option.some.injEq] at h; subst h; simp; omega
    · simp

theorem sub_i64 (a b : Nat) (h : b ≤ a) (ha : a < 9223372036854775808) : IntKind.i64.wrap ((a : Int) - (b : Int)) = ((a - b : Nat) : Int) := by
  rw [show (a : Int) - (b : Int) = ((a - b : Nat) : Int) by omega, wrap_i64 _ (by omega)]
theorem add_i64 (a b : Nat) (ha : a + b < 9223372036854775808) : IntKind.i64.wrap ((a : Int) + (b : Int)) = ((a + b : Nat) : Int) := by
  rw [show (a : Int) + (b : Int) = ((a + b : Nat) : Int) by omega, wrap_i64 _ ha]
theorem toU64 (k : IntKind) (n : Nat) (h : n < 18446744073709551616) : toInt .u64 (.int k (n : Int)) = some (.int .u64 (n : Int)) := by rw [toInt_int, wrap_u64 _ h]
theorem toI64 (k : IntKind) (n : Nat) (h : n < 9223372036854775808) : toInt .i64 (.int k (n : Int)) = some (.int .i64 (n : Int)) := by rw [toInt_int, wrap_i64 _ h]

theorem code_cut (L n : Nat) (v : Value) (l : List UInt8) (h : H) (hr : Rd h v l) (hL : l.length < L) (h63 : l.length < 1000000) :
    Sp (CF L (n + 2)) 53 [v] h fun r h' => ∃ x y, r = .tuple [x, y, .int .i64 (cutE l)].toArray ∧ Rd h' x (cutT l) ∧ Rd h' y (cutO l) ∧ Keep nobody h h' := by
  refine Sp.body f53 (by simp) fun K hK => ?_
  simp only [↓opStep_eq, ↓reduceIte, tg_set, toTm_cons, toTm_nil, fieldPtr_ptr, Nat.add_zero, Nat.zero_add, Nat.reduceAdd, Nat.reduceEqDiff, Int.reduceEq, Int.reduceLT, Int.reduceLE, Int.reduceNe, ↓kO_some, ↓kA_some, ↓kH_some, kO_some, kA_some, kH_some, gd_true, gd_false, nthD_zero, nthD_succ, isB_true, isB_false, isB_undef, pickV_true, pickV_false, binV_add, binV_sub, binV_mul, binV_eql, binV_neq, binV_lss, binV_leq, binV_gtr, binV_geq, unV_not, nt, nf, Bool.false_eq_true, dt, df, decide_true, decide_false, withV_some, aggO_some, ptrTo_eq, ↓aO_some, aO_some, ↓andB_true, andB_true, gz, gs, seqC, retC, skipC, exitC, blockC, condC, cells_agg, c53, r53_0, r53_1]
  refine code_read L n v l h hr hL h63 _ fun r h' hv => ?_
  obtain ⟨rfl, rfl⟩ := hv
  cases hrd : rd 0 l with
  | none =>
    have hE : cutE l = 8 := by simp [cutE, cutS, hrd]
    have hT : cutT l = [] := by simp [cutT, cutS, hrd]
    have hO : cutO l = [] := by simp [cutO, cutS, hrd]
    have h8 : ¬ (8 : Int) = 0 := by decide
    simp only [rdV, hrd, tupNth_tuple, ↓opStep_eq, ↓reduceIte, tg_set, toTm_cons, toTm_nil, fieldPtr_ptr, Nat.add_zero, Nat.zero_add, Nat.reduceAdd, Nat.reduceEqDiff, Int.reduceEq, Int.reduceLT, Int.reduceLE, Int.reduceNe, ↓kO_some, ↓kA_some, ↓kH_some, kO_some, kA_some, kH_some, gd_true, gd_false, nthD_zero, nthD_succ, isB_true, isB_false, isB_undef, pickV_true, pickV_false, binV_add, binV_sub, binV_mul, binV_eql, binV_neq, binV_lss, binV_leq, binV_gtr, binV_geq, unV_not, nt, nf, Bool.false_eq_true, dt, df, decide_true, decide_false, withV_some, aggO_some, ptrTo_eq, ↓aO_some, aO_some, ↓andB_true, andB_true, gz, gs, seqC, retC, skipC, exitC, blockC, condC, cells_agg, r53_2, Bool.true_or, Bool.false_or, Bool.or_true, Bool.or_false, Bool.true_and, Bool.false_and, Bool.and_true, Bool.and_false, r53_3]
    exact hK _ _ _ ⟨.inr rfl, _, rfl, .slice none 0 0, .slice none 0 0, by rw [hE]; simp only [↓opStep_eq, ↓reduceIte, tg_set, toTm_cons, toTm_nil, fieldPtr_ptr, Nat.add_zero, Nat.zero_add, Nat.reduceAdd, Nat.reduceEqDiff, Int.reduceEq, Int.reduceLT, Int.reduceLE, Int.reduceNe, ↓kO_some, ↓kA_some, ↓kH_some, kO_some, kA_some, kH_some, gd_true, gd_false, nthD_zero, nthD_succ, isB_true, isB_false, isB_undef, pickV_true, pickV_false, binV_add, binV_sub, binV_mul, binV_eql, binV_neq, binV_lss, binV_leq, binV_gtr, binV_geq, unV_not, nt, nf, Bool.false_eq_true, dt, df, decide_true, decide_false, withV_some, aggO_some, ptrTo_eq, ↓aO_some, aO_some, ↓andB_true, andB_true, gz, gs, seqC, retC, skipC, exitC, blockC, condC, cells_agg]; simp [resOf], by rw [hT]; exact .inl ⟨rfl, rfl⟩, by rw [hO]; exact .inl ⟨rfl, rfl⟩, .refl _ _⟩
  | some p =>
    obtain ⟨m, k⟩ := p
    obtain ⟨b1, b2, b3⟩ := rd_bound l 0 m k hrd (by decide)
    have h264 : 2 ^ (64 - 7 * 0) = 18446744073709551616 := rfl
    rw [h264] at b1
    have hsub := sub_i64 l.length k b3 (by omega)
    have hu := toU64 .i64 (l.length - k) (by omega)
    by_cases hlt : ((l.length - k : Nat) : Int) < (m : Int)
    · have hlt' : l.length - k < m := by omega
      have hS : cutS l = none := by simp only [cutS, hrd]; rw [if_pos hlt']
      have hE : cutE l = 8 := by simp [cutE, hS]
      have hT : cutT l = [] := by simp [cutT, hS]
      have hO : cutO l = [] := by simp [cutO, hS]
      simp only [rdV, hrd, tupNth_tuple, ↓opStep_eq, ↓reduceIte, tg_set, toTm_cons, toTm_nil, fieldPtr_ptr, Nat.add_zero, Nat.zero_add, Nat.reduceAdd, Nat.reduceEqDiff, Int.reduceEq, Int.reduceLT, Int.reduceLE, Int.reduceNe, ↓kO_some, ↓kA_some, ↓kH_some, kO_some, kA_some, kH_some, gd_true, gd_false, nthD_zero, nthD_succ, isB_true, isB_false, isB_undef, pickV_true, pickV_false, binV_add, binV_sub, binV_mul, binV_eql, binV_neq, binV_lss, binV_leq, binV_gtr, binV_geq, unV_not, nt, nf, Bool.false_eq_true, dt, df, decide_true, decide_false, withV_some, aggO_some, ptrTo_eq, ↓aO_some, aO_some, ↓andB_true, andB_true, gz, gs, seqC, retC, skipC, exitC, blockC, condC, cells_agg, r53_2, Bool.true_or, Bool.false_or, Bool.or_true, Bool.or_false, Bool.true_and, Bool.false_and, Bool.and_true, Bool.and_false, r53_3, hr.len, hsub, hu, hlt]
      exact hK _ _ _ ⟨.inr rfl, _, rfl, .slice none 0 0, .slice none 0 0, by rw [hE]; simp only [↓opStep_eq, ↓reduceIte, tg_set, toTm_cons, toTm_nil, fieldPtr_ptr, Nat.add_zero, Nat.zero_add, Nat.reduceAdd, Nat.reduceEqDiff, Int.reduceEq, Int.reduceLT, Int.reduceLE, Int.reduceNe, ↓kO_some, ↓kA_some, ↓kH_some, kO_some, kA_some, kH_some, gd_true, gd_false, nthD_zero, nthD_succ, isB_true, isB_false, isB_undef, pickV_true, pickV_false, binV_add, binV_sub, binV_mul, binV_eql, binV_neq, binV_lss, binV_leq, binV_gtr, binV_geq, unV_not, nt, nf, Bool.false_eq_true, dt, df, decide_true, decide_false, withV_some, aggO_some, ptrTo_eq, ↓aO_some, aO_some, ↓andB_true, andB_true, gz, gs, seqC, retC, skipC, exitC, blockC, condC, cells_agg]; simp [resOf], by rw [hT]; exact .inl ⟨rfl, rfl⟩, by rw [hO]; exact .inl ⟨rfl, rfl⟩, .refl _ _⟩
    · have hlt' : ¬ l.length - k < m := by omega
      have hS : cutS l = some ((l.drop k).take m, l.drop (k + m)) := by simp only [cutS, hrd]; rw [if_neg hlt']
      have hE : cutE l = 0 := by simp [cutE, hS]
      have hT : cutT l = (l.drop k).take m := by simp [cutT, hS]
      have hO : cutO l = l.drop (k + m) := by simp [cutO, hS]
      have k0 := keep_room h' 14
      have hr0 := hr.keep0 k0
      obtain ⟨w1, s1, r1, _⟩ := hr0.from k b3
      obtain ⟨w2, s2, r2, _⟩ := r1.mid none 0 m (.inl ⟨rfl, rfl⟩) (by omega) (by rw [List.length_drop]; omega) .u64
      obtain ⟨w3, s3, r3, _⟩ := hr0.from (k + m) (by omega)
      have ti := toI64 .u64 m (by omega)
      have ad := add_i64 k m (by omega)
      simp only [rdV, hrd, tupNth_tuple, ↓opStep_eq, ↓reduceIte, tg_set, toTm_cons, toTm_nil, fieldPtr_ptr, Nat.add_zero, Nat.zero_add, Nat.reduceAdd, Nat.reduceEqDiff, Int.reduceEq, Int.reduceLT, Int.reduceLE, Int.reduceNe, ↓kO_some, ↓kA_some, ↓kH_some, kO_some, kA_some, kH_some, gd_true, gd_false, nthD_zero, nthD_succ, isB_true, isB_false, isB_undef, pickV_true, pickV_false, binV_add, binV_sub, binV_mul, binV_eql, binV_neq, binV_lss, binV_leq, binV_gtr, binV_geq, unV_not, nt, nf, Bool.false_eq_true, dt, df, decide_true, decide_false, withV_some, aggO_some, ptrTo_eq, ↓aO_some, aO_some, ↓andB_true, andB_true, gz, gs, seqC, retC, skipC, exitC, blockC, condC, cells_agg, r53_2, Bool.true_or, Bool.false_or, Bool.or_true, Bool.or_false, Bool.true_and, Bool.false_and, Bool.and_true, Bool.and_false, hr.len, hsub, hu, hlt, r53_4, s1, s2, s3, ti, ad]
      exact hK _ _ _ ⟨.inr rfl, _, rfl, w2, w3, by rw [hE]; simp only [↓opStep_eq, ↓reduceIte, tg_set, toTm_cons, toTm_nil, fieldPtr_ptr, Nat.add_zero, Nat.zero_add, Nat.reduceAdd, Nat.reduceEqDiff, Int.reduceEq, Int.reduceLT, Int.reduceLE, Int.reduceNe, ↓kO_some, ↓kA_some, ↓kH_some, kO_some, kA_some, kH_some, gd_true, gd_false, nthD_zero, nthD_succ, isB_true, isB_false, isB_undef, pickV_true, pickV_false, binV_add, binV_sub, binV_mul, binV_eql, binV_neq, binV_lss, binV_leq, binV_gtr, binV_geq, unV_not, nt, nf, Bool.false_eq_true, dt, df, decide_true, decide_false, withV_some, aggO_some, ptrTo_eq, ↓aO_some, aO_some, ↓andB_true, andB_true, gz, gs, seqC, retC, skipC, exitC, blockC, condC, cells_agg]; simp [resOf], by rw [hT]; simpa using r2, by rw [hO]; exact r3, k0⟩

theorem code_Cut (L n : Nat) (v : Value) (l : List UInt8) (h : H) (hr : Rd h v l) (hL : l.length < L) (h63 : l.length < 1000000) :
    Sp (CF L (n + 3)) 48 [v] h fun r h' => ∃ y, r = .tuple [.string ⟨(cutT l).toArray⟩, y, .int .i64 (cutE l)].toArray ∧ Mine h' y (cutO l) ∧ Keep nobody h h' ∧ ∀ b, blk y b → h.next ≤ b := by
  refine Sp.body f48 (by simp) fun K hK => ?_
  simp only [↓opStep_eq, ↓reduceIte, tg_set, toTm_cons, toTm_nil, fieldPtr_ptr, Nat.add_zero, Nat.zero_add, Nat.reduceAdd, Nat.reduceEqDiff, Int.reduceEq, Int.reduceLT, Int.reduceLE, Int.reduceNe, ↓kO_some, ↓kA_some, ↓kH_some, kO_some, kA_some, kH_some, gd_true, gd_false, nthD_zero, nthD_succ, isB_true, isB_false, isB_undef, pickV_true, pickV_false, binV_add, binV_sub, binV_mul, binV_eql, binV_neq, binV_lss, binV_leq, binV_gtr, binV_geq, unV_not, nt, nf, Bool.false_eq_true, dt, df, decide_true, decide_false, withV_some, aggO_some, ptrTo_eq, ↓aO_some, aO_some, ↓andB_true, andB_true, gz, gs, seqC, retC, skipC, exitC, blockC, condC, cells_agg, c48, r48_0, r48_1]
  refine code_cut L n v l h hr hL h63 _ fun r h2 hv => ?_
  obtain ⟨x, y, rfl, hx, hy, k2⟩ := hv
  have k0 := keep_room h2 8
  have hx0 := hx.keep0 k0
  have hy0 := hy.keep0 k0
  have hlen := cutO_len l
  simp only [tupNth_tuple, ↓opStep_eq, ↓reduceIte, tg_set, toTm_cons, toTm_nil, fieldPtr_ptr, Nat.add_zero, Nat.zero_add, Nat.reduceAdd, Nat.reduceEqDiff, Int.reduceEq, Int.reduceLT, Int.reduceLE, Int.reduceNe, ↓kO_some, ↓kA_some, ↓kH_some, kO_some, kA_some, kH_some, gd_true, gd_false, nthD_zero, nthD_succ, isB_true, isB_false, isB_undef, pickV_true, pickV_false, binV_add, binV_sub, binV_mul, binV_eql, binV_neq, binV_lss, binV_leq, binV_gtr, binV_geq, unV_not, nt, nf, Bool.false_eq_true, dt, df, decide_true, decide_false, withV_some, aggO_some, ptrTo_eq, ↓aO_some, aO_some, ↓andB_true, andB_true, gz, gs, seqC, retC, skipC, exitC, blockC, condC, cells_agg, r48_2, hx0.str]
  refine clone54 L (n + 1) y (cutO l) _ hy0 (by omega) _ fun w h3 hw => ?_
  obtain ⟨m3, k3, f3⟩ := hw
  have hO := hO_self (veq_str ⟨(cutT l).toArray⟩)
  simp only [↓opStep_eq, ↓reduceIte, tg_set, toTm_cons, toTm_nil, fieldPtr_ptr, Nat.add_zero, Nat.zero_add, Nat.reduceAdd, Nat.reduceEqDiff, Int.reduceEq, Int.reduceLT, Int.reduceLE, Int.reduceNe, ↓kO_some, ↓kA_some, ↓kH_some, kO_some, kA_some, kH_some, gd_true, gd_false, nthD_zero, nthD_succ, isB_true, isB_false, isB_undef, pickV_true, pickV_false, binV_add, binV_sub, binV_mul, binV_eql, binV_neq, binV_lss, binV_leq, binV_gtr, binV_geq, unV_not, nt, nf, Bool.false_eq_true, dt, df, decide_true, decide_false, withV_some, aggO_some, ptrTo_eq, ↓aO_some, aO_some, ↓andB_true, andB_true, gz, gs, seqC, retC, skipC, exitC, blockC, condC, cells_agg, (hx0.keep0 k3).str, hO]
  exact hK _ _ _ ⟨.inr rfl, _, rfl, w, by simp only [↓opStep_eq, ↓reduceIte, tg_set, toTm_cons, toTm_nil, fieldPtr_ptr, Nat.add_zero, Nat.zero_add, Nat.reduceAdd, Nat.reduceEqDiff, Int.reduceEq, Int.reduceLT, Int.reduceLE, Int.reduceNe, ↓kO_some, ↓kA_some, ↓kH_some, kO_some, kA_some, kH_some, gd_true, gd_false, nthD_zero, nthD_succ, isB_true, isB_false, isB_undef, pickV_true, pickV_false, binV_add, binV_sub, binV_mul, binV_eql, binV_neq, binV_lss, binV_leq, binV_gtr, binV_geq, unV_not, nt, nf, Bool.false_eq_true, dt, df, decide_true, decide_false, withV_some, aggO_some, ptrTo_eq, ↓aO_some, aO_some, ↓andB_true, andB_true, gz, gs, seqC, retC, skipC, exitC, blockC, condC, cells_agg]; simp [resOf], m3, (k2.then k0).then k3, fun b hb => by have := f3 b hb; have := k2.next; simp only at *; omega⟩

end Go.Proofs.Ytpaolklbogakgaa

namespace Go.Proofs.Ytpaolklbogakgaa
open Go.Ev

theorem putAt_one : ∀ (cs : List Value) (o : Nat) (x : Value), o < cs.length → putAt cs o [x] = some (cs.set o x)
  | [], o, x, h => by simp at h
  | y :: cs, 0, x, h => by cases cs <;> rfl
  | y :: cs, o + 1, x, h => by simp [putAt, putAt_one cs o x (by simpa using h)]
theorem store_cell {h : H} {b o : Nat} {s} {cs : List Value} {x : Value} (a : Has h b (.rw cs)) (ho : o < cs.length) (hx : x.cells = #[x]) (h1 : ones [x] = true) :
    storeV 1 h (.pointer (some ⟨b, o, s⟩)) x = some (h.put b (.rw (cs.set o x))) := by
  unfold storeV
  simp only [hx, List.size_toArray, List.length_cons, List.length_nil, Nat.zero_add, Nat.beq_refl, H.write, h1, a.2]
  rw [putAt_one _ _ _ ho]
theorem Rd.cells {h : H} {v : Value} {l : List UInt8} (a : Rd h v l) : v.cells = #[v] := by
  rcases a with ⟨rfl, _⟩ | ⟨b, o, c, x, cs, rfl, _⟩ <;> rfl
theorem Rd.ones {h : H} {v : Value} {l : List UInt8} (a : Rd h v l) : ones [v] = true := by
  rcases a with ⟨rfl, _⟩ | ⟨b, o, c, x, cs, rfl, _⟩ <;> rfl
@[simp] theorem nilChk_some (a : Addr) : nilChk (.pointer (some a)) = some (.pointer (some a)) := (rfl)

/-- what a reader's number is, and what is left -/
def numS (l : List UInt8) : Nat × List UInt8 × Bool := match rd 0 l with
  | some (n, k) => (n, l.drop k, true)
  | none => (0, [], false)
def txtS (l : List UInt8) : List UInt8 × List UInt8 × Bool := match cutS l with
  | some (s, r) => (s, r, true)
  | none => ([], [], false)

/-- a reader -/
def Rdr (h : H) (b : Nat) (v : Value) (l : List UInt8) (ok : Bool) : Prop := Has h b (.rw [v, .bool ok]) ∧ Rd h v l ∧ ¬ blk v b

theorem rd_number (L n : Nat) (b : Nat) (v : Value) (l : List UInt8) (ok : Bool) (h : H) (hr : Rdr h b v l ok) (hL : l.length < L) (h63 : l.length < 1000000) :
    Sp (CF L (n + 2)) 38 [.pointer (some ⟨b, 0, none⟩)] h fun r h' => r = .int .u64 ((numS l).1 : Int) ∧ (∃ v', Rdr h' b v' (numS l).2.1 (ok && (numS l).2.2) ∧ ∀ c, blk v' c → blk v c ∨ h.next ≤ c) ∧ Keep (· = b) h h' := by
  obtain ⟨hb, hv, nb⟩ := hr
  refine Sp.body f38 (by simp) fun K hK => ?_
  have ld : ∀ o s, loadOne h (.pointer (some ⟨b, o, s⟩)) = [v, .bool ok][o]? := fun o s => loadOne_has hb rfl
  simp only [↓opStep_eq, ↓reduceIte, tg_set, toTm_cons, toTm_nil, fieldPtr_ptr, Nat.add_zero, Nat.zero_add, Nat.reduceAdd, Nat.reduceEqDiff, Int.reduceEq, Int.reduceLT, Int.reduceLE, Int.reduceNe, ↓kO_some, ↓kA_some, ↓kH_some, kO_some, kA_some, kH_some, gd_true, gd_false, nthD_zero, nthD_succ, isB_true, isB_false, isB_undef, pickV_true, pickV_false, binV_add, binV_sub, binV_mul, binV_eql, binV_neq, binV_lss, binV_leq, binV_gtr, binV_geq, unV_not, nt, nf, Bool.false_eq_true, dt, df, decide_true, decide_false, withV_some, aggO_some, ptrTo_eq, ↓aO_some, aO_some, ↓andB_true, andB_true, gz, gs, seqC, retC, skipC, exitC, blockC, condC, cells_agg, nilChk_some, c38, r38_0, r38_1, ld]
  refine code_read L n v l h hv hL h63 _ fun r h2 hr => ?_
  obtain ⟨rfl, rfl⟩ := hr
  cases hrd : rd 0 l with
  | none =>
    have hS : numS l = (0, [], false) := by simp [numS, hrd]
    have h8 : ¬ (8 : Int) = 0 := by decide
    have s1 := store_cell (o := 1) (s := none) (x := .bool false) hb (by simp) rfl rfl
    have hb1 : Has (h2.put b (.rw ([v, .bool ok].set 1 (.bool false)))) b (.rw [v, .bool false]) := Has.put hb.1
    have s2 := store_cell (o := 0) (s := none) (x := .slice none 0 0) hb1 (by simp) rfl rfl
    simp only [List.set_cons_succ, List.set_cons_zero] at s1 s2
    simp only [rdV, hrd, tupNth_tuple, ↓opStep_eq, ↓reduceIte, tg_set, toTm_cons, toTm_nil, fieldPtr_ptr, Nat.add_zero, Nat.zero_add, Nat.reduceAdd, Nat.reduceEqDiff, Int.reduceEq, Int.reduceLT, Int.reduceLE, Int.reduceNe, ↓kO_some, ↓kA_some, ↓kH_some, kO_some, kA_some, kH_some, gd_true, gd_false, nthD_zero, nthD_succ, isB_true, isB_false, isB_undef, pickV_true, pickV_false, binV_add, binV_sub, binV_mul, binV_eql, binV_neq, binV_lss, binV_leq, binV_gtr, binV_geq, unV_not, nt, nf, Bool.false_eq_true, dt, df, decide_true, decide_false, withV_some, aggO_some, ptrTo_eq, ↓aO_some, aO_some, ↓andB_true, andB_true, gz, gs, seqC, retC, skipC, exitC, blockC, condC, cells_agg, nilChk_some, r38_2, r38_3, r38_4, s1, s2]
    refine hK _ _ _ ⟨.inr rfl, _, rfl, by rw [hS]; simp only [↓opStep_eq, ↓reduceIte, tg_set, toTm_cons, toTm_nil, fieldPtr_ptr, Nat.add_zero, Nat.zero_add, Nat.reduceAdd, Nat.reduceEqDiff, Int.reduceEq, Int.reduceLT, Int.reduceLE, Int.reduceNe, ↓kO_some, ↓kA_some, ↓kH_some, kO_some, kA_some, kH_some, gd_true, gd_false, nthD_zero, nthD_succ, isB_true, isB_false, isB_undef, pickV_true, pickV_false, binV_add, binV_sub, binV_mul, binV_eql, binV_neq, binV_lss, binV_leq, binV_gtr, binV_geq, unV_not, nt, nf, Bool.false_eq_true, dt, df, decide_true, decide_false, withV_some, aggO_some, ptrTo_eq, ↓aO_some, aO_some, ↓andB_true, andB_true, gz, gs, seqC, retC, skipC, exitC, blockC, condC, cells_agg, resOf]; rfl, ?_, (Keep.put _ _ _).trans (Keep.put _ _ _) fun _ _ h => h⟩
    rw [hS]
    exact ⟨.slice none 0 0, ⟨by simpa using Has.put (x := .rw [.slice none 0 0, .bool false]) hb1.1, .inl ⟨rfl, rfl⟩, by simp⟩, by simp⟩
  | some p =>
    obtain ⟨m, k⟩ := p
    obtain ⟨b1, b2, b3⟩ := rd_bound l 0 m k hrd (by decide)
    have hS : numS l = (m, l.drop k, true) := by simp [numS, hrd]
    obtain ⟨w, s1, r1, bw⟩ := hv.from k b3
    have s2 := store_cell (o := 0) (s := none) (x := w) hb (by simp) r1.cells r1.ones
    simp only [List.set_cons_zero] at s2
    simp only [rdV, hrd, tupNth_tuple, ↓opStep_eq, ↓reduceIte, tg_set, toTm_cons, toTm_nil, fieldPtr_ptr, Nat.add_zero, Nat.zero_add, Nat.reduceAdd, Nat.reduceEqDiff, Int.reduceEq, Int.reduceLT, Int.reduceLE, Int.reduceNe, ↓kO_some, ↓kA_some, ↓kH_some, kO_some, kA_some, kH_some, gd_true, gd_false, nthD_zero, nthD_succ, isB_true, isB_false, isB_undef, pickV_true, pickV_false, binV_add, binV_sub, binV_mul, binV_eql, binV_neq, binV_lss, binV_leq, binV_gtr, binV_geq, unV_not, nt, nf, Bool.false_eq_true, dt, df, decide_true, decide_false, withV_some, aggO_some, ptrTo_eq, ↓aO_some, aO_some, ↓andB_true, andB_true, gz, gs, seqC, retC, skipC, exitC, blockC, condC, cells_agg, nilChk_some, r38_2, r38_5, r38_6, ld, s1, s2]
    refine hK _ _ _ ⟨.inr rfl, _, rfl, by rw [hS]; simp only [↓opStep_eq, ↓reduceIte, tg_set, toTm_cons, toTm_nil, fieldPtr_ptr, Nat.add_zero, Nat.zero_add, Nat.reduceAdd, Nat.reduceEqDiff, Int.reduceEq, Int.reduceLT, Int.reduceLE, Int.reduceNe, ↓kO_some, ↓kA_some, ↓kH_some, kO_some, kA_some, kH_some, gd_true, gd_false, nthD_zero, nthD_succ, isB_true, isB_false, isB_undef, pickV_true, pickV_false, binV_add, binV_sub, binV_mul, binV_eql, binV_neq, binV_lss, binV_leq, binV_gtr, binV_geq, unV_not, nt, nf, Bool.false_eq_true, dt, df, decide_true, decide_false, withV_some, aggO_some, ptrTo_eq, ↓aO_some, aO_some, ↓andB_true, andB_true, gz, gs, seqC, retC, skipC, exitC, blockC, condC, cells_agg, resOf], ?_, Keep.put _ _ _⟩
    rw [hS]
    exact ⟨w, ⟨by simpa using Has.put (x := .rw [w, .bool ok]) hb.1, r1.keep (Keep.put _ _ _) fun c hc e => nb (e ▸ bw c hc), fun hc => nb (bw b hc)⟩, fun c hc => .inl (bw c hc)⟩

theorem rd_text (L n : Nat) (b : Nat) (v : Value) (l : List UInt8) (ok : Bool) (h : H) (hr : Rdr h b v l ok) (hL : l.length < L) (h63 : l.length < 1000000) :
    Sp (CF L (n + 4)) 39 [.pointer (some ⟨b, 0, none⟩)] h fun r h' => r = .string ⟨(txtS l).1.toArray⟩ ∧ (∃ v', Rdr h' b v' (txtS l).2.1 (ok && (txtS l).2.2) ∧ ∀ c, blk v' c → blk v c ∨ h.next ≤ c) ∧ Keep (· = b) h h' := by
  obtain ⟨hb, hv, nb⟩ := hr
  refine Sp.body f39 (by simp) fun K hK => ?_
  have ld : ∀ o s, loadOne h (.pointer (some ⟨b, o, s⟩)) = [v, .bool ok][o]? := fun o s => loadOne_has hb rfl
  simp only [↓opStep_eq, ↓reduceIte, tg_set, toTm_cons, toTm_nil, fieldPtr_ptr, Nat.add_zero, Nat.zero_add, Nat.reduceAdd, Nat.reduceEqDiff, Int.reduceEq, Int.reduceLT, Int.reduceLE, Int.reduceNe, ↓kO_some, ↓kA_some, ↓kH_some, kO_some, kA_some, kH_some, gd_true, gd_false, nthD_zero, nthD_succ, isB_true, isB_false, isB_undef, pickV_true, pickV_false, binV_add, binV_sub, binV_mul, binV_eql, binV_neq, binV_lss, binV_leq, binV_gtr, binV_geq, unV_not, nt, nf, Bool.false_eq_true, dt, df, decide_true, decide_false, withV_some, aggO_some, ptrTo_eq, ↓aO_some, aO_some, ↓andB_true, andB_true, gz, gs, seqC, retC, skipC, exitC, blockC, condC, cells_agg, nilChk_some, c39, r39_0, r39_1, ld]
  refine code_Cut L n v l h hv hL h63 _ fun r h2 hr => ?_
  obtain ⟨y, rfl, my, k2, fy⟩ := hr
  have hb2 := hb.keep0 k2
  have hem : (strB []) = ⟨(([] : List UInt8)).toArray⟩ := rfl
  cases hc : cutS l with
  | none =>
    have hS : txtS l = ([], [], false) := by simp [txtS, hc]
    have hE : cutE l = 8 := by simp [cutE, hc]
    have h8 : ¬ (8 : Int) = 0 := by decide
    have s1 := store_cell (o := 1) (s := none) (x := .bool false) hb2 (by simp) rfl rfl
    have hb1 : Has (h2.put b (.rw ([v, .bool ok].set 1 (.bool false)))) b (.rw [v, .bool false]) := Has.put hb2.1
    have s2 := store_cell (o := 0) (s := none) (x := .slice none 0 0) hb1 (by simp) rfl rfl
    simp only [List.set_cons_succ, List.set_cons_zero] at s1 s2
    simp only [hE, tupNth_tuple, ↓opStep_eq, ↓reduceIte, tg_set, toTm_cons, toTm_nil, fieldPtr_ptr, Nat.add_zero, Nat.zero_add, Nat.reduceAdd, Nat.reduceEqDiff, Int.reduceEq, Int.reduceLT, Int.reduceLE, Int.reduceNe, ↓kO_some, ↓kA_some, ↓kH_some, kO_some, kA_some, kH_some, gd_true, gd_false, nthD_zero, nthD_succ, isB_true, isB_false, isB_undef, pickV_true, pickV_false, binV_add, binV_sub, binV_mul, binV_eql, binV_neq, binV_lss, binV_leq, binV_gtr, binV_geq, unV_not, nt, nf, Bool.false_eq_true, dt, df, decide_true, decide_false, withV_some, aggO_some, ptrTo_eq, ↓aO_some, aO_some, ↓andB_true, andB_true, gz, gs, seqC, retC, skipC, exitC, blockC, condC, cells_agg, nilChk_some, r39_2, r39_3, r39_4, s1, s2]
    refine hK _ _ _ ⟨.inr rfl, _, rfl, by rw [hS, ← hem]; simp only [↓opStep_eq, ↓reduceIte, tg_set, toTm_cons, toTm_nil, fieldPtr_ptr, Nat.add_zero, Nat.zero_add, Nat.reduceAdd, Nat.reduceEqDiff, Int.reduceEq, Int.reduceLT, Int.reduceLE, Int.reduceNe, ↓kO_some, ↓kA_some, ↓kH_some, kO_some, kA_some, kH_some, gd_true, gd_false, nthD_zero, nthD_succ, isB_true, isB_false, isB_undef, pickV_true, pickV_false, binV_add, binV_sub, binV_mul, binV_eql, binV_neq, binV_lss, binV_leq, binV_gtr, binV_geq, unV_not, nt, nf, Bool.false_eq_true, dt, df, decide_true, decide_false, withV_some, aggO_some, ptrTo_eq, ↓aO_some, aO_some, ↓andB_true, andB_true, gz, gs, seqC, retC, skipC, exitC, blockC, condC, cells_agg, resOf], ?_, ((k2.mono fun _ _ h => h.elim).trans (Keep.put _ _ _) fun _ _ h => h).trans (Keep.put _ _ _) fun _ _ h => h⟩
    rw [hS]
    exact ⟨.slice none 0 0, ⟨by simpa using Has.put (x := .rw [.slice none 0 0, .bool false]) hb1.1, .inl ⟨rfl, rfl⟩, by simp⟩, by simp⟩
  | some p =>
    obtain ⟨s, rst⟩ := p
    have hS : txtS l = (s, rst, true) := by simp [txtS, hc]
    have hE : cutE l = 0 := by simp [cutE, hc]
    have hT : cutT l = s := by simp [cutT, hc]
    have hO : cutO l = rst := by simp [cutO, hc]
    have hlen := cutO_len l
    rw [hO] at my hlen
    have ry := rd_of_mine my (by omega)
    have ny : ¬ blk y b := fun hy => by have := fy b hy; have := hb.1; omega
    have s2 := store_cell (o := 0) (s := none) (x := y) hb2 (by simp) ry.cells ry.ones
    simp only [List.set_cons_zero] at s2
    simp only [hE, hT, tupNth_tuple, ↓opStep_eq, ↓reduceIte, tg_set, toTm_cons, toTm_nil, fieldPtr_ptr, Nat.add_zero, Nat.zero_add, Nat.reduceAdd, Nat.reduceEqDiff, Int.reduceEq, Int.reduceLT, Int.reduceLE, Int.reduceNe, ↓kO_some, ↓kA_some, ↓kH_some, kO_some, kA_some, kH_some, gd_true, gd_false, nthD_zero, nthD_succ, isB_true, isB_false, isB_undef, pickV_true, pickV_false, binV_add, binV_sub, binV_mul, binV_eql, binV_neq, binV_lss, binV_leq, binV_gtr, binV_geq, unV_not, nt, nf, Bool.false_eq_true, dt, df, decide_true, decide_false, withV_some, aggO_some, ptrTo_eq, ↓aO_some, aO_some, ↓andB_true, andB_true, gz, gs, seqC, retC, skipC, exitC, blockC, condC, cells_agg, nilChk_some, r39_2, r39_5, r39_6, s2]
    refine hK _ _ _ ⟨.inr rfl, _, rfl, by rw [hS]; simp only [↓opStep_eq, ↓reduceIte, tg_set, toTm_cons, toTm_nil, fieldPtr_ptr, Nat.add_zero, Nat.zero_add, Nat.reduceAdd, Nat.reduceEqDiff, Int.reduceEq, Int.reduceLT, Int.reduceLE, Int.reduceNe, ↓kO_some, ↓kA_some, ↓kH_some, kO_some, kA_some, kH_some, gd_true, gd_false, nthD_zero, nthD_succ, isB_true, isB_false, isB_undef, pickV_true, pickV_false, binV_add, binV_sub, binV_mul, binV_eql, binV_neq, binV_lss, binV_leq, binV_gtr, binV_geq, unV_not, nt, nf, Bool.false_eq_true, dt, df, decide_true, decide_false, withV_some, aggO_some, ptrTo_eq, ↓aO_some, aO_some, ↓andB_true, andB_true, gz, gs, seqC, retC, skipC, exitC, blockC, condC, cells_agg, resOf], ?_, (k2.mono fun _ _ h => h.elim).trans (Keep.put _ _ _) fun _ _ h => h⟩
    rw [hS]
    exact ⟨y, ⟨by simpa using Has.put (x := .rw [y, .bool ok]) hb2.1, ry.keep (Keep.put _ _ _) fun c hc e => ny (e ▸ hc), ny⟩, fun c hc => .inr (fy c hc)⟩
end Go.Proofs.Ytpaolklbogakgaa

namespace Go.Proofs.Ytpaolklbogakgaa
open Go.Ev

/-! a slice of items that is being made -/
inductive MineI (h : H) : Value → List Itm → Prop where
  | nil : MineI h (.slice none 0 0) []
  | op (b cap : Nat) (l : List Itm) : Nat.ble OPEN cap = true → Nat.beq (szOf cap) 5 = true → Has h b (.op (cellsOf l) 5) → MineI h (.slice (some ⟨b, 0, none⟩) l.length cap) l
theorem MineI.items {h : H} {v : Value} {l : List Itm} (m : MineI h v l) : ItemsAt h v l := by
  cases m with
  | nil => exact .inl ⟨rfl, rfl⟩
  | op b cap l _ _ hb => exact .inr ⟨b, 0, cap, _, _, rfl, hb, rfl, by rw [cellsOf_len, Nat.zero_add]; exact Nat.le_refl _, by rw [List.drop_zero, List.take_of_length_le (by rw [cellsOf_len]; exact Nat.le_refl _)]⟩
theorem MineI.keep {S : Nat → Prop} {h h' : H} {v : Value} {l : List Itm} (m : MineI h v l) (k : Keep S h h') (hn : ∀ b, blk v b → ¬ S b) : MineI h' v l := by
  cases m with
  | nil => exact .nil
  | op b cap l c1 c2 hb => exact .op b cap l c1 c2 (hb.keep k (hn b (by simp)))
theorem MineI.keep0 {h h' : H} {v : Value} {l : List Itm} (m : MineI h v l) (k : Keep nobody h h') : MineI h' v l := m.keep k fun _ _ => id
theorem MineI.lt {h : H} {v : Value} {l : List Itm} (m : MineI h v l) {b : Nat} (hb : blk v b) : b < h.next := by
  cases m with
  | nil => simp at hb
  | op b' cap l _ _ h1 => simp at hb; subst hb; exact h1.1

theorem opCap_size5 (lb : Nat) : Nat.beq (szOf (opCap lb 5)) 5 = true := by
  rw [szOf_opCap (lb := lb) (e := 5) (by omega)]; exact Nat.beq_refl 5
theorem ones_item (x : Itm) : ones x.cells = true := rfl

theorem appOpen_end5 {h : H} {b cp n : Nat} {l : List Itm} {x : Itm} (hb : Has h b (.op (cellsOf l) 5)) (e0 : Nat.beq (szOf cp) 5 = true) :
    appOpen 5 h ⟨b, 0, none⟩ l.length cp n x.cells = grow (h.del b) (cellsOf l) x.cells (l.length + n) 5 := by
  have hc : x.cells = (.string x.key) :: [.string x.val, .int .u32 x.flags, .int .i64 x.till, .int .u64 x.uniq] := rfl
  have hl : (cellsOf l).length = l.length * 5 := by rw [cellsOf_len]; omega
  have e3 : putAt (cellsOf l) (0 + l.length * 5) x.cells = none := by
    rw [Nat.zero_add, ← hl, hc]; exact putAt_end _ _ _
  have e4 : cut (cellsOf l) 0 = some (cellsOf l) := by simpa using cut_eq (cellsOf l) 0 (by simp)
  have e5 : Nat.beq (0 + l.length * 5) (cellsOf l).length = true := by rw [hl, Nat.zero_add]; exact Nat.beq_refl _
  unfold appOpen
  simp only [e0, ones_item, Bool.and_self, hb.2]
  simp only [e3, e5, e4]

theorem append_item {h : H} {v : Value} {l : List Itm} {x : Itm} (m : MineI h v l) (hsz : l.length ≤ 1000) :
    ∃ v' h', appendV 5 56 (h.new (.rw x.cells)) v (.slice (some ⟨h.next, 0, none⟩) 1 1) = some (v', h') ∧ MineI h' v' (l ++ [x]) ∧ Keep (blk v) h h' ∧ (∀ b, blk v' b → blk v b ∨ h.next ≤ b) := by
  have k1 := Keep.new h (.rw x.cells)
  have hrow : firstV (h.new (.rw x.cells)) 5 1 (.slice (some ⟨h.next, 0, none⟩) 1 1) = some x.cells := by
    simp only [firstV]
    rw [row_has (Has.new h (.rw x.cells)) rfl (by simp)]
    rfl
  have hv : ∀ base sl sc, appendV 5 56 (h.new (.rw x.cells)) (.slice base sl sc) (.slice (some ⟨h.next, 0, none⟩) 1 1) = appTo 5 56 (h.new (.rw x.cells)) base sl sc 1 x.cells := fun base sl sc => by
    unfold appendV
    simp only [lenV, hrow]
    rfl
  have hg : ∀ (h0 : H), h0.next = h.next + 1 → Keep (blk v) h h0 → ∃ v' h', grow h0 (cellsOf l) x.cells (l.length + 1) 5 = some (v', h') ∧ MineI h' v' (l ++ [x]) ∧ Keep (blk v) h h' ∧ (∀ b, blk v' b → blk v b ∨ h.next ≤ b) := fun h0 hn hk => by
    refine ⟨_, _, rfl, ?_, hk.then (.new _ _), fun b hb => by simp at hb; omega⟩
    have e1 : cellsOf l ++ x.cells = cellsOf (l ++ [x]) := by simp [cellsOf]
    have e2 : l.length + 1 = (l ++ [x]).length := by simp
    rw [e1, e2]
    exact .op _ _ _ (Nat.ble_eq_true_of_le (by unfold OPEN opCap; omega)) (opCap_size5 _) (.new _ _)
  cases m with
  | nil =>
    rw [hv]
    have : appTo 5 56 (h.new (.rw x.cells)) none 0 0 1 x.cells = grow (h.new (.rw x.cells)) [] x.cells (0 + 1) 5 := by
      unfold appTo
      rw [Nat.ble_eq_true_of_le (show (0 + 1) * 56 ≤ 140737488355328 by omega), Nat.ble_eq_true_of_le (show 0 + 1 ≤ 9223372036854775807 by omega)]
      rfl
    rw [this]
    exact hg _ rfl (k1.mono fun _ _ h => h.elim)
  | op b cap l c1 c2 hb =>
    rw [hv]
    have hb1 := hb.keep0 k1
    have : appTo 5 56 (h.new (.rw x.cells)) (some ⟨b, 0, none⟩) l.length cap 1 x.cells = appOpen 5 (h.new (.rw x.cells)) ⟨b, 0, none⟩ l.length cap 1 x.cells := by
      unfold appTo
      rw [Nat.ble_eq_true_of_le (show (l.length + 1) * 56 ≤ 140737488355328 by omega), Nat.ble_eq_true_of_le (show l.length + 1 ≤ 9223372036854775807 by omega)]
      simp only [c1, Bool.and_self]
    rw [this, appOpen_end5 hb1 c2]
    refine hg ((h.new (.rw x.cells)).del b) rfl ?_
    exact (k1.mono fun _ _ h => h.elim).trans (Keep.del _ b) fun k _ e => by simp [e]

/-! what a body's items are -/
def nums : Nat → List UInt8 → Option (List Nat × List UInt8)
  | 0, l => some ([], l)
  | j + 1, l => match rd 0 l with
    | none => none
    | some (n, k) => match nums j (l.drop k) with
      | none => none
      | some (ns, r) => some (n :: ns, r)
def ofNums (k v : List UInt8) : List Nat → Option Itm
  | [f, u, q] => if 4294967295 < f ∨ 1099511627776 < u then none else some ⟨⟨k.toArray⟩, ⟨v.toArray⟩, f, u, q⟩
  | _ => none
def pItem (l : List UInt8) : Option (Itm × List UInt8) := match cutS l with
  | none => none
  | some (k, l1) => match cutS l1 with
    | none => none
    | some (v, l2) => match nums 3 l2 with
      | none => none
      | some (ns, r) => match ofNums k v ns with
        | none => none
        | some x => some (x, r)
def pItems : Nat → List UInt8 → Option (List Itm × List UInt8)
  | 0, l => some ([], l)
  | n + 1, l => match pItem l with
    | none => none
    | some (x, r) => match pItems n r with
      | none => none
      | some (xs, r') => some (x :: xs, r')

theorem cutS_len {l s r : List UInt8} (h : cutS l = some (s, r)) : r.length ≤ l.length ∧ s.length ≤ l.length := by
  have h1 := cutO_len l
  have h2 := cutT_len l
  simp only [cutO, cutT, h] at h1 h2
  exact ⟨h1, h2⟩
end Go.Proofs.Ytpaolklbogakgaa
