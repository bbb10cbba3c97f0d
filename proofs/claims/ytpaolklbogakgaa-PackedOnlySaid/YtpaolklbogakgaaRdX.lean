import Derived.Test.YtpaolklbogakgaaRdU
set_option linter.unusedSimpArgs false
set_option linter.unusedVariables false
namespace Go.Proofs.Ytpaolklbogakgaa
open Go.Ev

theorem pItems_len : ∀ (n : Nat) (l : List UInt8) (xs : List Itm) (r : List UInt8), pItems n l = some (xs, r) → xs.length = n
  | 0, l, xs, r, h => by simp [pItems] at h; rw [h.1]; rfl
  | n + 1, l, xs, r, h => by
    simp only [pItems] at h
    split at h
    · cases h
    · rename_i x l1 _
      split at h
      · cases h
      · rename_i ys r1 h1
        simp only [Option.some.injEq, Prod.mk.injEq] at h
        rw [← h.1, List.length_cons, pItems_len n _ _ _ h1]
theorem pRes_items {l : List UInt8} {x0 x1 : UInt8} {num : Nat} {xs : List Itm} (h : pRes l = some (x0, x1, num, xs)) : xs.length ≤ 8 := by
  rcases l with _ | ⟨y0, _ | ⟨y1, b⟩⟩
  · cases h
  · cases h
  · simp only [pRes] at h
    split at h
    · cases h
    · split at h
      · cases h
      · split at h
        · cases h
        · split at h
          · cases h
          · rename_i hm _ xs' rest hp
            split at h
            · simp only [Option.some.injEq, Prod.mk.injEq] at h
              rw [← h.2.2.2, pItems_len _ _ _ _ hp]; omega
            · cases h
theorem pShape_items {k : UInt8} {l : List UInt8} {a : Ans} (h : pShape k l = some a) : a.r.items.length ≤ 8 := by
  unfold pShape at h
  split at h
  · split at h
    · rename_i hp
      simp only [Option.some.injEq] at h
      rw [← h]; exact pRes_items hp
    · cases h
  · split at h
    · split at h
      · split at h
        · simp only [Option.some.injEq] at h; rw [← h]; exact Nat.zero_le _
        · cases h
      · cases h
    · split at h
      · simp only [Option.some.injEq] at h; rw [← h]; exact Nat.zero_le _
      · split at h
        · simp only [Option.some.injEq] at h; rw [← h]; exact Nat.zero_le _
        · cases h
theorem readR_items {l : List UInt8} {a : Ans} (h : (readR l).1 = some a) : a.r.items.length ≤ 8 := by
  unfold readR at h
  split at h
  · cases h
  · split at h
    · cases h
    · rename_i a' hp
      simp only [Option.some.injEq] at h
      subst h
      unfold pOf at hp
      split at hp
      · rename_i a'' hs
        split at hp
        · simp only [Option.some.injEq] at hp
          rw [← hp]; exact pShape_items hs
        · cases hp
      · cases hp

/-- what was read, whichever it is -/
def theA (o : Option Ans) : Ans := match o with
  | some a => a
  | none => plainA 0 false (strB [])
theorem GotP.ans {o : Option Ans} {h : H} {av : Value} (g : GotP o h av) : ∃ iv, av = (withIv (theA o) iv).v ∧ MineI h iv (theA o).r.items := by
  cases o with
  | none => exact ⟨noIv, g, .nil⟩
  | some a => exact g

/-- two answers that hold the same are the same -/
theorem ans_same (L n : Nat) (a : Ans) (v1 v2 : Value) (h : H) (i1 : ItemsAt h v1 a.r.items) (i2 : ItemsAt h v2 a.r.items) (hL : a.r.items.length < L) (hl : a.r.items.length < 1000000) :
    Sp (CF L (n + 2)) 13 [(withIv a v1).v, (withIv a v2).v] h fun r h' => r = .bool true ∧ Keep nobody h h' := by
  refine Sp.body f13 (by simp) ?_
  have hc1 : (Value.cells (withIv a v1).v).toList = [.int .u8 a.kind, .int .u8 a.of, .int .u8 a.r.kind, v1, .int .u64 a.r.num, .bool a.yes, .string a.key] := rfl
  have hc2 : (Value.cells (withIv a v2).v).toList = [.int .u8 a.kind, .int .u8 a.of, .int .u8 a.r.kind, v2, .int .u64 a.r.num, .bool a.yes, .string a.key] := rfl
  have k1 := Keep.new h (.rw [.int .u8 a.kind, .int .u8 a.of, .int .u8 a.r.kind, v1, .int .u64 a.r.num, .bool a.yes, .string a.key])
  have b1 := Has.new h (.rw [.int .u8 a.kind, .int .u8 a.of, .int .u8 a.r.kind, v1, .int .u64 a.r.num, .bool a.yes, .string a.key])
  unfold c13
  refine C.seq fun K hK => ?_
  simp only [↓opStep_eq, ↓reduceIte, tg_set, toTm_cons, toTm_nil, fieldPtr_ptr, Nat.add_zero, Nat.zero_add, Nat.reduceAdd, Nat.reduceEqDiff, Int.reduceEq, Int.reduceLT, Int.reduceLE, Int.reduceNe, ↓kO_some, ↓kA_some, ↓kH_some, kO_some, kA_some, kH_some, gd_true, gd_false, nthD_zero, nthD_succ, isB_true, isB_false, isB_undef, pickV_true, pickV_false, binV_add, binV_sub, binV_mul, binV_eql, binV_neq, binV_lss, binV_leq, binV_gtr, binV_geq, unV_not, nt, nf, Bool.false_eq_true, dt, df, decide_true, decide_false, withV_some, aggO_some, ptrTo_eq, ↓aO_some, aO_some, ↓andB_true, andB_true, gz, gs, seqC, retC, skipC, exitC, blockC, condC, cells_agg, r13_0, hc1]
  generalize h.new (.rw [.int .u8 a.kind, .int .u8 a.of, .int .u8 a.r.kind, v1, .int .u64 a.r.num, .bool a.yes, .string a.key]) = h1 at *
  have k2 := Keep.new h1 (.rw [.int .u8 a.kind, .int .u8 a.of, .int .u8 a.r.kind, v2, .int .u64 a.r.num, .bool a.yes, .string a.key])
  have b2 := Has.new h1 (.rw [.int .u8 a.kind, .int .u8 a.of, .int .u8 a.r.kind, v2, .int .u64 a.r.num, .bool a.yes, .string a.key])
  simp only [↓opStep_eq, ↓reduceIte, tg_set, toTm_cons, toTm_nil, fieldPtr_ptr, Nat.add_zero, Nat.zero_add, Nat.reduceAdd, Nat.reduceEqDiff, Int.reduceEq, Int.reduceLT, Int.reduceLE, Int.reduceNe, ↓kO_some, ↓kA_some, ↓kH_some, kO_some, kA_some, kH_some, gd_true, gd_false, nthD_zero, nthD_succ, isB_true, isB_false, isB_undef, pickV_true, pickV_false, binV_add, binV_sub, binV_mul, binV_eql, binV_neq, binV_lss, binV_leq, binV_gtr, binV_geq, unV_not, nt, nf, Bool.false_eq_true, dt, df, decide_true, decide_false, withV_some, aggO_some, ptrTo_eq, ↓aO_some, aO_some, ↓andB_true, andB_true, gz, gs, seqC, retC, skipC, exitC, blockC, condC, cells_agg, hc2]
  generalize h1.new (.rw [.int .u8 a.kind, .int .u8 a.of, .int .u8 a.r.kind, v2, .int .u64 a.r.num, .bool a.yes, .string a.key]) = h2 at *
  have b1' := b1.keep0 k2
  have k12 := k1.then k2
  have ld1 : ∀ hx, Keep nobody h2 hx → ∀ o s, loadOne hx (.pointer (some ⟨h.next, o, s⟩)) = [.int .u8 a.kind, .int .u8 a.of, .int .u8 a.r.kind, v1, .int .u64 a.r.num, .bool a.yes, .string a.key][o]? := fun hx k o s => loadOne_has (b1'.keep0 k) rfl
  have ld2 : ∀ hx, Keep nobody h2 hx → ∀ o s, loadOne hx (.pointer (some ⟨h1.next, o, s⟩)) = [.int .u8 a.kind, .int .u8 a.of, .int .u8 a.r.kind, v2, .int .u64 a.r.num, .bool a.yes, .string a.key][o]? := fun hx k o s => loadOne_has (b2.keep0 k) rfl
  have la1 : ∀ s, loadAgg 3 h2 (.pointer (some ⟨h.next, 2, s⟩)) = some (.agg [.int .u8 a.r.kind, v1, .int .u64 a.r.num].toArray) := fun s => loadAgg_has b1' rfl (by simp)
  have la2 : ∀ s, loadAgg 3 h2 (.pointer (some ⟨h1.next, 2, s⟩)) = some (.agg [.int .u8 a.r.kind, v2, .int .u64 a.r.num].toArray) := fun s => loadAgg_has b2 rfl (by simp)
  have r2 := Keep.refl nobody h2
  have hb : ∀ (t : TypeId) (c x : Bool), Try.prog.underlying t = some .bool → binV Try.prog .eql t c (.bool x) (.bool x) = some (.bool true) := fun t c x ht => by
    show boolRes .eql (match Try.prog.underlying t with | some .bool => some (bEq x x) | _ => none) = _
    rw [ht]; cases x <;> rfl
  have hb4 := fun x => hb 4 false x (by kernel_rfl)
  have hs : binV Try.prog .eql 9 false (.string a.key) (.string a.key) = some (.bool true) := by rw [strV_eql, leB_eq]; simp
  refine hK _ _ _ (C.seq fun K hK => ?_)
  simp only [↓opStep_eq, ↓reduceIte, tg_set, toTm_cons, toTm_nil, fieldPtr_ptr, Nat.add_zero, Nat.zero_add, Nat.reduceAdd, Nat.reduceEqDiff, Int.reduceEq, Int.reduceLT, Int.reduceLE, Int.reduceNe, ↓kO_some, ↓kA_some, ↓kH_some, kO_some, kA_some, kH_some, gd_true, gd_false, nthD_zero, nthD_succ, isB_true, isB_false, isB_undef, pickV_true, pickV_false, binV_add, binV_sub, binV_mul, binV_eql, binV_neq, binV_lss, binV_leq, binV_gtr, binV_geq, unV_not, nt, nf, Bool.false_eq_true, dt, df, decide_true, decide_false, withV_some, aggO_some, ptrTo_eq, ↓aO_some, aO_some, ↓andB_true, andB_true, gz, gs, seqC, retC, skipC, exitC, blockC, condC, cells_agg, Bool.true_or, Bool.false_or, Bool.or_true, Bool.or_false, Bool.true_and, Bool.false_and, Bool.and_true, Bool.and_false, r13_1, ld1 _ r2, ld2 _ r2, la1, la2]
  refine res_same L n a.r.kind a.r.num v1 v2 a.r.items h2 (i1.keep0 k12) (i2.keep0 k12) hL hl _ fun r h3 hv => ?_
  obtain ⟨rfl, k3⟩ := hv
  simp only [↓opStep_eq, ↓reduceIte, tg_set, toTm_cons, toTm_nil, fieldPtr_ptr, Nat.add_zero, Nat.zero_add, Nat.reduceAdd, Nat.reduceEqDiff, Int.reduceEq, Int.reduceLT, Int.reduceLE, Int.reduceNe, ↓kO_some, ↓kA_some, ↓kH_some, kO_some, kA_some, kH_some, gd_true, gd_false, nthD_zero, nthD_succ, isB_true, isB_false, isB_undef, pickV_true, pickV_false, binV_add, binV_sub, binV_mul, binV_eql, binV_neq, binV_lss, binV_leq, binV_gtr, binV_geq, unV_not, nt, nf, Bool.false_eq_true, dt, df, decide_true, decide_false, withV_some, aggO_some, ptrTo_eq, ↓aO_some, aO_some, ↓andB_true, andB_true, gz, gs, seqC, retC, skipC, exitC, blockC, condC, cells_agg, Bool.true_or, Bool.false_or, Bool.or_true, Bool.or_false, Bool.true_and, Bool.false_and, Bool.and_true, Bool.and_false, ld1 _ k3, ld2 _ k3, hb4, hs]
  exact hK _ _ _ (C.ret ⟨.inr rfl, _, rfl, by simp only [↓opStep_eq, ↓reduceIte, tg_set, toTm_cons, toTm_nil, fieldPtr_ptr, Nat.add_zero, Nat.zero_add, Nat.reduceAdd, Nat.reduceEqDiff, Int.reduceEq, Int.reduceLT, Int.reduceLE, Int.reduceNe, ↓kO_some, ↓kA_some, ↓kH_some, kO_some, kA_some, kH_some, gd_true, gd_false, nthD_zero, nthD_succ, isB_true, isB_false, isB_undef, pickV_true, pickV_false, binV_add, binV_sub, binV_mul, binV_eql, binV_neq, binV_lss, binV_leq, binV_gtr, binV_geq, unV_not, nt, nf, Bool.false_eq_true, dt, df, decide_true, decide_false, withV_some, aggO_some, ptrTo_eq, ↓aO_some, aO_some, ↓andB_true, andB_true, gz, gs, seqC, retC, skipC, exitC, blockC, condC, cells_agg]; rfl, k12.then k3⟩)

end Go.Proofs.Ytpaolklbogakgaa

namespace Go.Proofs.Ytpaolklbogakgaa
open Go.Ev

theorem store7_new (h : H) {cs : List Value} (hl : cs.length = 7) (h1 : ones cs = true) : storeV 7 (h.new (.rw Z7)) (.pointer (some ⟨h.next, 0, none⟩)) (.agg cs.toArray) = some ((h.new (.rw Z7)).put h.next (.rw cs)) := by
  have hst := store_new h 7 none Z7 (.agg cs.toArray) rfl (by simpa using hl) (by simpa using h1)
  have hcc : (Value.cells (.agg cs.toArray)).toList = cs := by simp
  rw [hcc] at hst
  exact hst

end Go.Proofs.Ytpaolklbogakgaa

namespace Go.Proofs.Ytpaolklbogakgaa
open Go.Ev Go.RowKit

section
variable {H : Type} {enc : TypeId × Value → H}
end
end Go.Proofs.Ytpaolklbogakgaa
