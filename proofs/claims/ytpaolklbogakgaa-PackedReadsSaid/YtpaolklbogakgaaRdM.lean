import Derived.Test.YtpaolklbogakgaaRdK
set_option linter.unusedSimpArgs false
set_option linter.unusedVariables false
namespace Go.Proofs.Ytpaolklbogakgaa
open Go.Ev

/-- what a result's body is -/
def pRes : List UInt8 → Option (UInt8 × UInt8 × Nat × List Itm)
  | x0 :: x1 :: b => match rd 0 b with
    | none => none
    | some (num, k1) => match rd 0 (b.drop k1) with
      | none => none
      | some (many, k2) => if 8 < many then none else match pItems many ((b.drop k1).drop k2) with
        | none => none
        | some (xs, rest) => if rest = [] then some (x0, x1, num, xs) else none
  | _ => none

def Shape7 (v : Value) : Prop := ∃ cs : List Value, v = .agg cs.toArray ∧ cs.length = 7 ∧ ones cs = true
abbrev Z7 : List Value := [.int .u8 0, .int .u8 0, .int .u8 0, .slice none 0 0, .int .u64 0, .bool false, .string (strB [])]
abbrev P7 : Nat → Option (Nat × Nat) := plc [(0, 1), (1, 1), (2, 3), (5, 1), (6, 1)]
theorem agg_zero : aggO (fill Z7 P7 []) = some (.agg Z7.toArray) := rfl
theorem agg_kind (k : Value) (hk : k.cells = #[k]) : aggO (fill Z7 P7 [(0, k)]) = some (.agg [k, .int .u8 0, .int .u8 0, .slice none 0 0, .int .u64 0, .bool false, .string (strB [])].toArray) := by
  simp [fill, plc, nth, hk, putAt]
theorem agg_res (x1 : UInt8) : aggO (fill [(.int .u8 (0)), (.slice none 0 0), (.int .u64 (0))] (plc [(0, 1), (1, 1), (2, 1)]) [(0, bv x1)]) = some (.agg [bv x1, .slice none 0 0, .int .u64 0].toArray) := rfl
theorem agg_ans (x0 x1 : UInt8) : aggO (fill Z7 P7 [(0, (.int .u8 (1))), (1, bv x0), (2, .agg [bv x1, .slice none 0 0, .int .u64 0].toArray)]) = some (.agg [.int .u8 1, bv x0, bv x1, .slice none 0 0, .int .u64 0, .bool false, .string (strB [])].toArray) := rfl
theorem z7_shape : Shape7 (.agg Z7.toArray) := ⟨Z7, rfl, rfl, rfl⟩
theorem store7 {h : H} {b : Nat} {s} {cs : List Value} {v : Value} (a : Has h b (.rw cs)) (hl : cs.length = 7) (hv : Shape7 v) : ∃ ds, v = .agg ds.toArray ∧ ds.length = 7 ∧ ones ds = true ∧ storeV 7 h (.pointer (some ⟨b, 0, s⟩)) v = some (h.put b (.rw ds)) := by
  obtain ⟨ds, rfl, h1, h2⟩ := hv
  exact ⟨ds, rfl, h1, h2, by have := store_has (s := s) (v := .agg ds.toArray) a hl.symm (by simpa using h1) (by simpa using h2); simpa using this⟩
theorem load7 {h : H} {b : Nat} {s} {cs : List Value} (a : Has h b (.rw cs)) (hl : cs.length = 7) : loadAgg 7 h (.pointer (some ⟨b, 0, s⟩)) = some (.agg cs.toArray) := by
  rw [loadAgg_has a rfl (by omega), List.drop_zero, List.take_of_length_le (by omega)]
theorem MineI.ones {h : H} {v : Value} {l : List Itm} (m : MineI h v l) : ones [v] = true := by cases m <;> rfl
theorem MineI.cells {h : H} {v : Value} {l : List Itm} (m : MineI h v l) : v.cells = #[v] := by cases m <;> rfl

theorem MineI.ne {h : H} {v : Value} {l : List Itm} {b : Nat} {cs : List Value} (m : MineI h v l) (a : Has h b (.rw cs)) : ¬ blk v b := fun hb => by
  cases m with
  | nil => simp at hb
  | op b' cap l _ _ h1 =>
    simp at hb; subst hb
    have := h1.2.symm.trans a.2
    cases this

def resA (x0 x1 : UInt8) (num : Nat) (iv : Value) (xs : List Itm) : Ans := ⟨1, (x0.toNat : Int), ⟨(x1.toNat : Int), iv, (num : Int), xs⟩, false, strB []⟩

theorem ref_result (L n : Nat) (v : Value) (l : List UInt8) (h : H) (hr : Rd h v l) (hL : 100 < L) (hl : l.length < 1000000) :
    Sp (CF L (n + 5)) 41 [v] h fun r h' => ∃ av b, r = .tuple [av, .bool b].toArray ∧ Keep nobody h h' ∧ Shape7 av ∧ match pRes l with
      | none => b = false
      | some (x0, x1, num, xs) => b = true ∧ xs.length ≤ 8 ∧ num < 18446744073709551616 ∧ (∀ x ∈ xs, x.ok) ∧ ∃ iv, av = (resA x0 x1 num iv xs).v ∧ MineI h' iv xs := by
  refine Sp.body f41 (by simp) ?_
  have k1 := Keep.new h (.rw Z7)
  have b1 := Has.new h (.rw Z7)
  have hnx : (h.new (.rw Z7)).next = h.next + 1 := rfl
  unfold c41
  refine C.seq fun K hK => ?_
  simp only [↓opStep_eq, ↓reduceIte, tg_set, toTm_cons, toTm_nil, fieldPtr_ptr, Nat.add_zero, Nat.zero_add, Nat.reduceAdd, Nat.reduceEqDiff, Int.reduceEq, Int.reduceLT, Int.reduceLE, Int.reduceNe, ↓kO_some, ↓kA_some, ↓kH_some, kO_some, kA_some, kH_some, gd_true, gd_false, nthD_zero, nthD_succ, isB_true, isB_false, isB_undef, pickV_true, pickV_false, binV_add, binV_sub, binV_mul, binV_eql, binV_neq, binV_lss, binV_leq, binV_gtr, binV_geq, unV_not, nt, nf, Bool.false_eq_true, dt, df, decide_true, decide_false, withV_some, aggO_some, ptrTo_eq, ↓aO_some, aO_some, ↓andB_true, andB_true, gz, gs, seqC, retC, skipC, exitC, blockC, condC, cells_agg, r41_0]
  generalize h.new (.rw Z7) = h1 at *
  have fail : ∀ (tm : T Value) (h' : H), pRes l = none → tg tm 2 = .pointer (some ⟨h.next, 0, none⟩) → tg tm 3 = .bool false → Has h' h.next (.rw Z7) → Keep nobody h h' → ∃ q, q41.f tm h' = some q ∧ ∃ av b, resOf q = .tuple [av, .bool b].toArray ∧ Keep nobody h h' ∧ Shape7 av ∧ match pRes l with
      | none => b = false
      | some (x0, x1, num, xs) => b = true ∧ xs.length ≤ 8 ∧ num < 18446744073709551616 ∧ (∀ x ∈ xs, x.ok) ∧ ∃ iv, av = (resA x0 x1 num iv xs).v ∧ MineI h' iv xs := fun tm h' e t2 t3 hb k => by
    refine ⟨[.agg Z7.toArray, .bool false], by simp only [q41, t2, t3, load7 hb rfl], .agg Z7.toArray, false, rfl, k, z7_shape, ?_⟩
    rw [e]
  refine hK _ _ _ (C.seq (C.seq fun K hK => ?_))
  simp only [↓opStep_eq, ↓reduceIte, tg_set, toTm_cons, toTm_nil, fieldPtr_ptr, Nat.add_zero, Nat.zero_add, Nat.reduceAdd, Nat.reduceEqDiff, Int.reduceEq, Int.reduceLT, Int.reduceLE, Int.reduceNe, ↓kO_some, ↓kA_some, ↓kH_some, kO_some, kA_some, kH_some, gd_true, gd_false, nthD_zero, nthD_succ, isB_true, isB_false, isB_undef, pickV_true, pickV_false, binV_add, binV_sub, binV_mul, binV_eql, binV_neq, binV_lss, binV_leq, binV_gtr, binV_geq, unV_not, nt, nf, Bool.false_eq_true, dt, df, decide_true, decide_false, withV_some, aggO_some, ptrTo_eq, ↓aO_some, aO_some, ↓andB_true, andB_true, gz, gs, seqC, retC, skipC, exitC, blockC, condC, cells_agg, r41_1, hr.len]
  have putz : ∀ (hx : H) (s), Has hx h.next (.rw Z7) → storeV 7 hx (.pointer (some ⟨h.next, 0, s⟩)) (.agg Z7.toArray) = some (hx.put h.next (.rw Z7)) := fun hx s hb => by
    obtain ⟨ds, e1, _, _, e2⟩ := store7 (s := s) hb rfl z7_shape
    have : ds = Z7 := by simpa using e1.symm
    rw [e2, this]
  have keepz : ∀ (hx : H), Keep nobody h hx → Keep nobody h (hx.put h.next (.rw Z7)) := fun hx k => k.trans (Keep.put hx h.next _) fun b hb e => by omega
  refine hK _ _ _ (C.cond (decide ((l.length : Int) < 2)) (by simp only [↓opStep_eq, ↓reduceIte, tg_set, toTm_cons, toTm_nil, fieldPtr_ptr, Nat.add_zero, Nat.zero_add, Nat.reduceAdd, Nat.reduceEqDiff, Int.reduceEq, Int.reduceLT, Int.reduceLE, Int.reduceNe, ↓kO_some, ↓kA_some, ↓kH_some, kO_some, kA_some, kH_some, gd_true, gd_false, nthD_zero, nthD_succ, isB_true, isB_false, isB_undef, pickV_true, pickV_false, binV_add, binV_sub, binV_mul, binV_eql, binV_neq, binV_lss, binV_leq, binV_gtr, binV_geq, unV_not, nt, nf, Bool.false_eq_true, dt, df, decide_true, decide_false, withV_some, aggO_some, ptrTo_eq, ↓aO_some, aO_some, ↓andB_true, andB_true, gz, gs, seqC, retC, skipC, exitC, blockC, condC, cells_agg]) (fun g => C.seq fun K hK => ?_) fun g => C.skip ?_)
  · have g : l.length < 2 := by have := of_decide_eq_true g; omega
    have hn : pRes l = none := by
      rcases l with _ | ⟨x0, _ | ⟨x1, r⟩⟩
      · rfl
      · rfl
      · simp at g; omega
    simp only [↓opStep_eq, ↓reduceIte, tg_set, toTm_cons, toTm_nil, fieldPtr_ptr, Nat.add_zero, Nat.zero_add, Nat.reduceAdd, Nat.reduceEqDiff, Int.reduceEq, Int.reduceLT, Int.reduceLE, Int.reduceNe, ↓kO_some, ↓kA_some, ↓kH_some, kO_some, kA_some, kH_some, gd_true, gd_false, nthD_zero, nthD_succ, isB_true, isB_false, isB_undef, pickV_true, pickV_false, binV_add, binV_sub, binV_mul, binV_eql, binV_neq, binV_lss, binV_leq, binV_gtr, binV_geq, unV_not, nt, nf, Bool.false_eq_true, dt, df, decide_true, decide_false, withV_some, aggO_some, ptrTo_eq, ↓aO_some, aO_some, ↓andB_true, andB_true, gz, gs, seqC, retC, skipC, exitC, blockC, condC, cells_agg, r41_2, agg_zero, putz _ _ b1]
    exact hK _ _ _ (C.ret ⟨.inr rfl, fail _ _ hn (by simp only [↓opStep_eq, ↓reduceIte, tg_set, toTm_cons, toTm_nil, fieldPtr_ptr, Nat.add_zero, Nat.zero_add, Nat.reduceAdd, Nat.reduceEqDiff, Int.reduceEq, Int.reduceLT, Int.reduceLE, Int.reduceNe, ↓kO_some, ↓kA_some, ↓kH_some, kO_some, kA_some, kH_some, gd_true, gd_false, nthD_zero, nthD_succ, isB_true, isB_false, isB_undef, pickV_true, pickV_false, binV_add, binV_sub, binV_mul, binV_eql, binV_neq, binV_lss, binV_leq, binV_gtr, binV_geq, unV_not, nt, nf, Bool.false_eq_true, dt, df, decide_true, decide_false, withV_some, aggO_some, ptrTo_eq, ↓aO_some, aO_some, ↓andB_true, andB_true, gz, gs, seqC, retC, skipC, exitC, blockC, condC, cells_agg]) (by simp only [↓opStep_eq, ↓reduceIte, tg_set, toTm_cons, toTm_nil, fieldPtr_ptr, Nat.add_zero, Nat.zero_add, Nat.reduceAdd, Nat.reduceEqDiff, Int.reduceEq, Int.reduceLT, Int.reduceLE, Int.reduceNe, ↓kO_some, ↓kA_some, ↓kH_some, kO_some, kA_some, kH_some, gd_true, gd_false, nthD_zero, nthD_succ, isB_true, isB_false, isB_undef, pickV_true, pickV_false, binV_add, binV_sub, binV_mul, binV_eql, binV_neq, binV_lss, binV_leq, binV_gtr, binV_geq, unV_not, nt, nf, Bool.false_eq_true, dt, df, decide_true, decide_false, withV_some, aggO_some, ptrTo_eq, ↓aO_some, aO_some, ↓andB_true, andB_true, gz, gs, seqC, retC, skipC, exitC, blockC, condC, cells_agg]) (Has.put b1.1) (keepz _ k1)⟩)
  have g : ¬ l.length < 2 := by have := of_decide_eq_false g; omega
  obtain ⟨x0, x1, r, hlr⟩ : ∃ x0 x1 r, l = x0 :: x1 :: r := by
    rcases l with _ | ⟨x0, _ | ⟨x1, r⟩⟩
    · simp at g
    · simp at g
    · exact ⟨_, _, _, rfl⟩
  have hr1 := hr.keep0 k1
  have kr := keep_room h1 10
  have hr2 := hr1.keep0 kr
  obtain ⟨b0, o0, i0, l0⟩ := hr2.atK (i := 0) (x := x0) (by rw [hlr]; rfl)
  obtain ⟨b01, o1, i1, l1⟩ := hr2.atK (i := 1) (x := x1) (by rw [hlr]; rfl)
  have c0 : ((0 : Nat) : Int) = 0 := rfl
  have c1 : ((1 : Nat) : Int) = 1 := rfl
  rw [c0] at i0
  rw [c1] at i1
  refine C.seq fun K hK => ?_
  have bz : Has (H.put ⟨h1.objs, h1.next + 10⟩ (h1.next + 8) (.rw Z7)) (h1.next + 8) (.rw Z7) := Has.put (by simp only; omega)
  have ansS : Shape7 (.agg [.int .u8 1, bv x0, bv x1, .slice none 0 0, .int .u64 0, .bool false, .string (strB [])].toArray) := ⟨_, rfl, rfl, rfl⟩
  obtain ⟨ds, e1, _, _, e2⟩ := store7 (s := none) bz rfl ansS
  have hds : ds = [.int .u8 1, bv x0, bv x1, .slice none 0 0, .int .u64 0, .bool false, .string (strB [])] := by simpa using e1.symm
  rw [hds] at e2
  simp only [r41_3, ↓opStep_eq, ↓reduceIte, tg_set, toTm_cons, toTm_nil, fieldPtr_ptr, Nat.add_zero, Nat.zero_add, Nat.reduceAdd, Nat.reduceEqDiff, Int.reduceEq, Int.reduceLT, Int.reduceLE, Int.reduceNe, ↓kO_some, ↓kA_some, ↓kH_some, kO_some, kA_some, kH_some, gd_true, gd_false, nthD_zero, nthD_succ, isB_true, isB_false, isB_undef, pickV_true, pickV_false, binV_add, binV_sub, binV_mul, binV_eql, binV_neq, binV_lss, binV_leq, binV_gtr, binV_geq, unV_not, nt, nf, Bool.false_eq_true, dt, df, decide_true, decide_false, withV_some, aggO_some, ptrTo_eq, ↓aO_some, aO_some, ↓andB_true, andB_true, gz, gs, seqC, retC, skipC, exitC, blockC, condC, cells_agg, i0, i1, l0 _ (Keep.refl _ _), l1 _ (Keep.refl _ _), agg_res, agg_ans, e2]
  have k2 : Keep nobody h1 ((H.put ⟨h1.objs, h1.next + 10⟩ (h1.next + 8) (.rw Z7)).put (h1.next + 8) (.rw [.int .u8 1, bv x0, bv x1, .slice none 0 0, .int .u64 0, .bool false, .string (strB [])])) :=
    (kr.trans (Keep.put _ _ _) fun b hb e => by omega).trans (Keep.put _ _ _) fun b hb e => by omega
  have b4 : Has ((H.put ⟨h1.objs, h1.next + 10⟩ (h1.next + 8) (.rw Z7)).put (h1.next + 8) (.rw [.int .u8 1, bv x0, bv x1, .slice none 0 0, .int .u64 0, .bool false, .string (strB [])])) (h1.next + 8) (.rw [.int .u8 1, bv x0, bv x1, .slice none 0 0, .int .u64 0, .bool false, .string (strB [])]) := Has.put bz.1
  generalize ((H.put ⟨h1.objs, h1.next + 10⟩ (h1.next + 8) (.rw Z7)).put (h1.next + 8) (.rw [.int .u8 1, bv x0, bv x1, .slice none 0 0, .int .u64 0, .bool false, .string (strB [])])) = h2 at *
  have k12 := k1.then k2
  obtain ⟨w, e3, rw1, bw⟩ := (hr.keep0 k12).from 2 (by omega)
  have c2 : ((2 : Nat) : Int) = 2 := rfl
  rw [c2] at e3
  have hd2 : l.drop 2 = r := by rw [hlr]; rfl
  rw [hd2] at rw1
  have hrl : r.length + 2 = l.length := by rw [hlr]; rfl
  refine hK _ _ _ (C.seq fun K hK => ?_)
  simp only [↓opStep_eq, ↓reduceIte, tg_set, toTm_cons, toTm_nil, fieldPtr_ptr, Nat.add_zero, Nat.zero_add, Nat.reduceAdd, Nat.reduceEqDiff, Int.reduceEq, Int.reduceLT, Int.reduceLE, Int.reduceNe, ↓kO_some, ↓kA_some, ↓kH_some, kO_some, kA_some, kH_some, gd_true, gd_false, nthD_zero, nthD_succ, isB_true, isB_false, isB_undef, pickV_true, pickV_false, binV_add, binV_sub, binV_mul, binV_eql, binV_neq, binV_lss, binV_leq, binV_gtr, binV_geq, unV_not, nt, nf, Bool.false_eq_true, dt, df, decide_true, decide_false, withV_some, aggO_some, ptrTo_eq, ↓aO_some, aO_some, ↓andB_true, andB_true, gz, gs, seqC, retC, skipC, exitC, blockC, condC, cells_agg, r41_4, e3]
  refine hK _ _ _ (C.seq fun K hK => ?_)
  simp only [↓opStep_eq, ↓reduceIte, tg_set, toTm_cons, toTm_nil, fieldPtr_ptr, Nat.add_zero, Nat.zero_add, Nat.reduceAdd, Nat.reduceEqDiff, Int.reduceEq, Int.reduceLT, Int.reduceLE, Int.reduceNe, ↓kO_some, ↓kA_some, ↓kH_some, kO_some, kA_some, kH_some, gd_true, gd_false, nthD_zero, nthD_succ, isB_true, isB_false, isB_undef, pickV_true, pickV_false, binV_add, binV_sub, binV_mul, binV_eql, binV_neq, binV_lss, binV_leq, binV_gtr, binV_geq, unV_not, nt, nf, Bool.false_eq_true, dt, df, decide_true, decide_false, withV_some, aggO_some, ptrTo_eq, ↓aO_some, aO_some, ↓andB_true, andB_true, gz, gs, seqC, retC, skipC, exitC, blockC, condC, cells_agg, r41_5]
  refine ref_read L (n + 3) w r h2 rw1 hL (by omega) _ fun q h3 hv => ?_
  obtain ⟨rfl, rfl⟩ := hv
  have b1' := b1.keep0 k2
  cases hrd : rd 0 r with
  | none =>
    have hn : pRes l = none := by rw [hlr]; simp [pRes, hrd]
    simp only [rdV_none hrd, tupNth_tuple, ↓opStep_eq, ↓reduceIte, tg_set, toTm_cons, toTm_nil, fieldPtr_ptr, Nat.add_zero, Nat.zero_add, Nat.reduceAdd, Nat.reduceEqDiff, Int.reduceEq, Int.reduceLT, Int.reduceLE, Int.reduceNe, ↓kO_some, ↓kA_some, ↓kH_some, kO_some, kA_some, kH_some, gd_true, gd_false, nthD_zero, nthD_succ, isB_true, isB_false, isB_undef, pickV_true, pickV_false, binV_add, binV_sub, binV_mul, binV_eql, binV_neq, binV_lss, binV_leq, binV_gtr, binV_geq, unV_not, nt, nf, Bool.false_eq_true, dt, df, decide_true, decide_false, withV_some, aggO_some, ptrTo_eq, ↓aO_some, aO_some, ↓andB_true, andB_true, gz, gs, seqC, retC, skipC, exitC, blockC, condC, cells_agg]
    refine hK _ _ _ (C.seq (C.seq fun K hK => ?_))
    simp only [↓opStep_eq, ↓reduceIte, tg_set, toTm_cons, toTm_nil, fieldPtr_ptr, Nat.add_zero, Nat.zero_add, Nat.reduceAdd, Nat.reduceEqDiff, Int.reduceEq, Int.reduceLT, Int.reduceLE, Int.reduceNe, ↓kO_some, ↓kA_some, ↓kH_some, kO_some, kA_some, kH_some, gd_true, gd_false, nthD_zero, nthD_succ, isB_true, isB_false, isB_undef, pickV_true, pickV_false, binV_add, binV_sub, binV_mul, binV_eql, binV_neq, binV_lss, binV_leq, binV_gtr, binV_geq, unV_not, nt, nf, Bool.false_eq_true, dt, df, decide_true, decide_false, withV_some, aggO_some, ptrTo_eq, ↓aO_some, aO_some, ↓andB_true, andB_true, gz, gs, seqC, retC, skipC, exitC, blockC, condC, cells_agg, r41_6]
    refine hK _ _ _ (C.cond true (by simp only [↓opStep_eq, ↓reduceIte, tg_set, toTm_cons, toTm_nil, fieldPtr_ptr, Nat.add_zero, Nat.zero_add, Nat.reduceAdd, Nat.reduceEqDiff, Int.reduceEq, Int.reduceLT, Int.reduceLE, Int.reduceNe, ↓kO_some, ↓kA_some, ↓kH_some, kO_some, kA_some, kH_some, gd_true, gd_false, nthD_zero, nthD_succ, isB_true, isB_false, isB_undef, pickV_true, pickV_false, binV_add, binV_sub, binV_mul, binV_eql, binV_neq, binV_lss, binV_leq, binV_gtr, binV_geq, unV_not, nt, nf, Bool.false_eq_true, dt, df, decide_true, decide_false, withV_some, aggO_some, ptrTo_eq, ↓aO_some, aO_some, ↓andB_true, andB_true, gz, gs, seqC, retC, skipC, exitC, blockC, condC, cells_agg]) (fun _ => C.seq fun K hK => ?_) fun h => by cases h)
    simp only [↓opStep_eq, ↓reduceIte, tg_set, toTm_cons, toTm_nil, fieldPtr_ptr, Nat.add_zero, Nat.zero_add, Nat.reduceAdd, Nat.reduceEqDiff, Int.reduceEq, Int.reduceLT, Int.reduceLE, Int.reduceNe, ↓kO_some, ↓kA_some, ↓kH_some, kO_some, kA_some, kH_some, gd_true, gd_false, nthD_zero, nthD_succ, isB_true, isB_false, isB_undef, pickV_true, pickV_false, binV_add, binV_sub, binV_mul, binV_eql, binV_neq, binV_lss, binV_leq, binV_gtr, binV_geq, unV_not, nt, nf, Bool.false_eq_true, dt, df, decide_true, decide_false, withV_some, aggO_some, ptrTo_eq, ↓aO_some, aO_some, ↓andB_true, andB_true, gz, gs, seqC, retC, skipC, exitC, blockC, condC, cells_agg, r41_7, agg_zero, putz _ _ b1']
    exact hK _ _ _ (C.ret ⟨.inr rfl, fail _ _ hn (by simp only [↓opStep_eq, ↓reduceIte, tg_set, toTm_cons, toTm_nil, fieldPtr_ptr, Nat.add_zero, Nat.zero_add, Nat.reduceAdd, Nat.reduceEqDiff, Int.reduceEq, Int.reduceLT, Int.reduceLE, Int.reduceNe, ↓kO_some, ↓kA_some, ↓kH_some, kO_some, kA_some, kH_some, gd_true, gd_false, nthD_zero, nthD_succ, isB_true, isB_false, isB_undef, pickV_true, pickV_false, binV_add, binV_sub, binV_mul, binV_eql, binV_neq, binV_lss, binV_leq, binV_gtr, binV_geq, unV_not, nt, nf, Bool.false_eq_true, dt, df, decide_true, decide_false, withV_some, aggO_some, ptrTo_eq, ↓aO_some, aO_some, ↓andB_true, andB_true, gz, gs, seqC, retC, skipC, exitC, blockC, condC, cells_agg]) (by simp only [↓opStep_eq, ↓reduceIte, tg_set, toTm_cons, toTm_nil, fieldPtr_ptr, Nat.add_zero, Nat.zero_add, Nat.reduceAdd, Nat.reduceEqDiff, Int.reduceEq, Int.reduceLT, Int.reduceLE, Int.reduceNe, ↓kO_some, ↓kA_some, ↓kH_some, kO_some, kA_some, kH_some, gd_true, gd_false, nthD_zero, nthD_succ, isB_true, isB_false, isB_undef, pickV_true, pickV_false, binV_add, binV_sub, binV_mul, binV_eql, binV_neq, binV_lss, binV_leq, binV_gtr, binV_geq, unV_not, nt, nf, Bool.false_eq_true, dt, df, decide_true, decide_false, withV_some, aggO_some, ptrTo_eq, ↓aO_some, aO_some, ↓andB_true, andB_true, gz, gs, seqC, retC, skipC, exitC, blockC, condC, cells_agg]) (Has.put b1'.1) (keepz _ k12)⟩)
  | some p =>
  obtain ⟨num, kk1⟩ := p
  obtain ⟨q1, q2, q3⟩ := rd_bound r 0 num kk1 hrd (by decide)
  have h264 : 2 ^ (64 - 7 * 0) = 18446744073709551616 := rfl
  rw [h264] at q1
  simp only [rdV_some hrd, tupNth_tuple, ↓opStep_eq, ↓reduceIte, tg_set, toTm_cons, toTm_nil, fieldPtr_ptr, Nat.add_zero, Nat.zero_add, Nat.reduceAdd, Nat.reduceEqDiff, Int.reduceEq, Int.reduceLT, Int.reduceLE, Int.reduceNe, ↓kO_some, ↓kA_some, ↓kH_some, kO_some, kA_some, kH_some, gd_true, gd_false, nthD_zero, nthD_succ, isB_true, isB_false, isB_undef, pickV_true, pickV_false, binV_add, binV_sub, binV_mul, binV_eql, binV_neq, binV_lss, binV_leq, binV_gtr, binV_geq, unV_not, nt, nf, Bool.false_eq_true, dt, df, decide_true, decide_false, withV_some, aggO_some, ptrTo_eq, ↓aO_some, aO_some, ↓andB_true, andB_true, gz, gs, seqC, retC, skipC, exitC, blockC, condC, cells_agg]
  refine hK _ _ _ (C.seq (C.seq fun K hK => ?_))
  simp only [↓opStep_eq, ↓reduceIte, tg_set, toTm_cons, toTm_nil, fieldPtr_ptr, Nat.add_zero, Nat.zero_add, Nat.reduceAdd, Nat.reduceEqDiff, Int.reduceEq, Int.reduceLT, Int.reduceLE, Int.reduceNe, ↓kO_some, ↓kA_some, ↓kH_some, kO_some, kA_some, kH_some, gd_true, gd_false, nthD_zero, nthD_succ, isB_true, isB_false, isB_undef, pickV_true, pickV_false, binV_add, binV_sub, binV_mul, binV_eql, binV_neq, binV_lss, binV_leq, binV_gtr, binV_geq, unV_not, nt, nf, Bool.false_eq_true, dt, df, decide_true, decide_false, withV_some, aggO_some, ptrTo_eq, ↓aO_some, aO_some, ↓andB_true, andB_true, gz, gs, seqC, retC, skipC, exitC, blockC, condC, cells_agg, r41_6]
  refine hK _ _ _ (C.cond false (by simp only [↓opStep_eq, ↓reduceIte, tg_set, toTm_cons, toTm_nil, fieldPtr_ptr, Nat.add_zero, Nat.zero_add, Nat.reduceAdd, Nat.reduceEqDiff, Int.reduceEq, Int.reduceLT, Int.reduceLE, Int.reduceNe, ↓kO_some, ↓kA_some, ↓kH_some, kO_some, kA_some, kH_some, gd_true, gd_false, nthD_zero, nthD_succ, isB_true, isB_false, isB_undef, pickV_true, pickV_false, binV_add, binV_sub, binV_mul, binV_eql, binV_neq, binV_lss, binV_leq, binV_gtr, binV_geq, unV_not, nt, nf, Bool.false_eq_true, dt, df, decide_true, decide_false, withV_some, aggO_some, ptrTo_eq, ↓aO_some, aO_some, ↓andB_true, andB_true, gz, gs, seqC, retC, skipC, exitC, blockC, condC, cells_agg]) (fun h => by cases h) fun _ => C.skip (C.seq fun K hK => ?_))
  obtain ⟨w2, e4, rw2, bw2⟩ := rw1.from kk1 q3
  simp only [↓opStep_eq, ↓reduceIte, tg_set, toTm_cons, toTm_nil, fieldPtr_ptr, Nat.add_zero, Nat.zero_add, Nat.reduceAdd, Nat.reduceEqDiff, Int.reduceEq, Int.reduceLT, Int.reduceLE, Int.reduceNe, ↓kO_some, ↓kA_some, ↓kH_some, kO_some, kA_some, kH_some, gd_true, gd_false, nthD_zero, nthD_succ, isB_true, isB_false, isB_undef, pickV_true, pickV_false, binV_add, binV_sub, binV_mul, binV_eql, binV_neq, binV_lss, binV_leq, binV_gtr, binV_geq, unV_not, nt, nf, Bool.false_eq_true, dt, df, decide_true, decide_false, withV_some, aggO_some, ptrTo_eq, ↓aO_some, aO_some, ↓andB_true, andB_true, gz, gs, seqC, retC, skipC, exitC, blockC, condC, cells_agg, r41_8, e4]
  refine hK _ _ _ (C.seq fun K hK => ?_)
  simp only [↓opStep_eq, ↓reduceIte, tg_set, toTm_cons, toTm_nil, fieldPtr_ptr, Nat.add_zero, Nat.zero_add, Nat.reduceAdd, Nat.reduceEqDiff, Int.reduceEq, Int.reduceLT, Int.reduceLE, Int.reduceNe, ↓kO_some, ↓kA_some, ↓kH_some, kO_some, kA_some, kH_some, gd_true, gd_false, nthD_zero, nthD_succ, isB_true, isB_false, isB_undef, pickV_true, pickV_false, binV_add, binV_sub, binV_mul, binV_eql, binV_neq, binV_lss, binV_leq, binV_gtr, binV_geq, unV_not, nt, nf, Bool.false_eq_true, dt, df, decide_true, decide_false, withV_some, aggO_some, ptrTo_eq, ↓aO_some, aO_some, ↓andB_true, andB_true, gz, gs, seqC, retC, skipC, exitC, blockC, condC, cells_agg, r41_9]
  refine ref_read L (n + 3) w2 (r.drop kk1) h3 rw2 hL (by rw [List.length_drop]; omega) _ fun q h4 hv => ?_
  obtain ⟨rfl, rfl⟩ := hv
  cases hrd2 : rd 0 (r.drop kk1) with
  | none =>
    have hn : pRes l = none := by rw [hlr]; simp [pRes, hrd, hrd2]
    simp only [rdV_none hrd2, tupNth_tuple, ↓opStep_eq, ↓reduceIte, tg_set, toTm_cons, toTm_nil, fieldPtr_ptr, Nat.add_zero, Nat.zero_add, Nat.reduceAdd, Nat.reduceEqDiff, Int.reduceEq, Int.reduceLT, Int.reduceLE, Int.reduceNe, ↓kO_some, ↓kA_some, ↓kH_some, kO_some, kA_some, kH_some, gd_true, gd_false, nthD_zero, nthD_succ, isB_true, isB_false, isB_undef, pickV_true, pickV_false, binV_add, binV_sub, binV_mul, binV_eql, binV_neq, binV_lss, binV_leq, binV_gtr, binV_geq, unV_not, nt, nf, Bool.false_eq_true, dt, df, decide_true, decide_false, withV_some, aggO_some, ptrTo_eq, ↓aO_some, aO_some, ↓andB_true, andB_true, gz, gs, seqC, retC, skipC, exitC, blockC, condC, cells_agg]
    refine hK _ _ _ (C.seq (C.seq fun K hK => ?_))
    simp only [↓opStep_eq, ↓reduceIte, tg_set, toTm_cons, toTm_nil, fieldPtr_ptr, Nat.add_zero, Nat.zero_add, Nat.reduceAdd, Nat.reduceEqDiff, Int.reduceEq, Int.reduceLT, Int.reduceLE, Int.reduceNe, ↓kO_some, ↓kA_some, ↓kH_some, kO_some, kA_some, kH_some, gd_true, gd_false, nthD_zero, nthD_succ, isB_true, isB_false, isB_undef, pickV_true, pickV_false, binV_add, binV_sub, binV_mul, binV_eql, binV_neq, binV_lss, binV_leq, binV_gtr, binV_geq, unV_not, nt, nf, Bool.false_eq_true, dt, df, decide_true, decide_false, withV_some, aggO_some, ptrTo_eq, ↓aO_some, aO_some, ↓andB_true, andB_true, gz, gs, seqC, retC, skipC, exitC, blockC, condC, cells_agg, r41_10]
    refine hK _ _ _ (C.cond true (by simp only [↓opStep_eq, ↓reduceIte, tg_set, toTm_cons, toTm_nil, fieldPtr_ptr, Nat.add_zero, Nat.zero_add, Nat.reduceAdd, Nat.reduceEqDiff, Int.reduceEq, Int.reduceLT, Int.reduceLE, Int.reduceNe, ↓kO_some, ↓kA_some, ↓kH_some, kO_some, kA_some, kH_some, gd_true, gd_false, nthD_zero, nthD_succ, isB_true, isB_false, isB_undef, pickV_true, pickV_false, binV_add, binV_sub, binV_mul, binV_eql, binV_neq, binV_lss, binV_leq, binV_gtr, binV_geq, unV_not, nt, nf, Bool.false_eq_true, dt, df, decide_true, decide_false, withV_some, aggO_some, ptrTo_eq, ↓aO_some, aO_some, ↓andB_true, andB_true, gz, gs, seqC, retC, skipC, exitC, blockC, condC, cells_agg]) (fun _ => C.seq fun K hK => ?_) fun h => by cases h)
    simp only [↓opStep_eq, ↓reduceIte, tg_set, toTm_cons, toTm_nil, fieldPtr_ptr, Nat.add_zero, Nat.zero_add, Nat.reduceAdd, Nat.reduceEqDiff, Int.reduceEq, Int.reduceLT, Int.reduceLE, Int.reduceNe, ↓kO_some, ↓kA_some, ↓kH_some, kO_some, kA_some, kH_some, gd_true, gd_false, nthD_zero, nthD_succ, isB_true, isB_false, isB_undef, pickV_true, pickV_false, binV_add, binV_sub, binV_mul, binV_eql, binV_neq, binV_lss, binV_leq, binV_gtr, binV_geq, unV_not, nt, nf, Bool.false_eq_true, dt, df, decide_true, decide_false, withV_some, aggO_some, ptrTo_eq, ↓aO_some, aO_some, ↓andB_true, andB_true, gz, gs, seqC, retC, skipC, exitC, blockC, condC, cells_agg, r41_11, agg_zero, putz _ _ b1']
    exact hK _ _ _ (C.ret ⟨.inr rfl, fail _ _ hn (by simp only [↓opStep_eq, ↓reduceIte, tg_set, toTm_cons, toTm_nil, fieldPtr_ptr, Nat.add_zero, Nat.zero_add, Nat.reduceAdd, Nat.reduceEqDiff, Int.reduceEq, Int.reduceLT, Int.reduceLE, Int.reduceNe, ↓kO_some, ↓kA_some, ↓kH_some, kO_some, kA_some, kH_some, gd_true, gd_false, nthD_zero, nthD_succ, isB_true, isB_false, isB_undef, pickV_true, pickV_false, binV_add, binV_sub, binV_mul, binV_eql, binV_neq, binV_lss, binV_leq, binV_gtr, binV_geq, unV_not, nt, nf, Bool.false_eq_true, dt, df, decide_true, decide_false, withV_some, aggO_some, ptrTo_eq, ↓aO_some, aO_some, ↓andB_true, andB_true, gz, gs, seqC, retC, skipC, exitC, blockC, condC, cells_agg]) (by simp only [↓opStep_eq, ↓reduceIte, tg_set, toTm_cons, toTm_nil, fieldPtr_ptr, Nat.add_zero, Nat.zero_add, Nat.reduceAdd, Nat.reduceEqDiff, Int.reduceEq, Int.reduceLT, Int.reduceLE, Int.reduceNe, ↓kO_some, ↓kA_some, ↓kH_some, kO_some, kA_some, kH_some, gd_true, gd_false, nthD_zero, nthD_succ, isB_true, isB_false, isB_undef, pickV_true, pickV_false, binV_add, binV_sub, binV_mul, binV_eql, binV_neq, binV_lss, binV_leq, binV_gtr, binV_geq, unV_not, nt, nf, Bool.false_eq_true, dt, df, decide_true, decide_false, withV_some, aggO_some, ptrTo_eq, ↓aO_some, aO_some, ↓andB_true, andB_true, gz, gs, seqC, retC, skipC, exitC, blockC, condC, cells_agg]) (Has.put b1'.1) (keepz _ k12)⟩)
  | some p =>
  obtain ⟨many, kk2⟩ := p
  obtain ⟨s1, s2, s3⟩ := rd_bound (r.drop kk1) 0 many kk2 hrd2 (by decide)
  simp only [rdV_some hrd2, tupNth_tuple, ↓opStep_eq, ↓reduceIte, tg_set, toTm_cons, toTm_nil, fieldPtr_ptr, Nat.add_zero, Nat.zero_add, Nat.reduceAdd, Nat.reduceEqDiff, Int.reduceEq, Int.reduceLT, Int.reduceLE, Int.reduceNe, ↓kO_some, ↓kA_some, ↓kH_some, kO_some, kA_some, kH_some, gd_true, gd_false, nthD_zero, nthD_succ, isB_true, isB_false, isB_undef, pickV_true, pickV_false, binV_add, binV_sub, binV_mul, binV_eql, binV_neq, binV_lss, binV_leq, binV_gtr, binV_geq, unV_not, nt, nf, Bool.false_eq_true, dt, df, decide_true, decide_false, withV_some, aggO_some, ptrTo_eq, ↓aO_some, aO_some, ↓andB_true, andB_true, gz, gs, seqC, retC, skipC, exitC, blockC, condC, cells_agg]
  refine hK _ _ _ (C.seq (C.seq fun K hK => ?_))
  by_cases h8 : (8 : Int) < (many : Int)
  · have h8' : 8 < many := by omega
    have hn : pRes l = none := by rw [hlr]; simp [pRes, hrd, hrd2, h8']
    simp only [↓opStep_eq, ↓reduceIte, tg_set, toTm_cons, toTm_nil, fieldPtr_ptr, Nat.add_zero, Nat.zero_add, Nat.reduceAdd, Nat.reduceEqDiff, Int.reduceEq, Int.reduceLT, Int.reduceLE, Int.reduceNe, ↓kO_some, ↓kA_some, ↓kH_some, kO_some, kA_some, kH_some, gd_true, gd_false, nthD_zero, nthD_succ, isB_true, isB_false, isB_undef, pickV_true, pickV_false, binV_add, binV_sub, binV_mul, binV_eql, binV_neq, binV_lss, binV_leq, binV_gtr, binV_geq, unV_not, nt, nf, Bool.false_eq_true, dt, df, decide_true, decide_false, withV_some, aggO_some, ptrTo_eq, ↓aO_some, aO_some, ↓andB_true, andB_true, gz, gs, seqC, retC, skipC, exitC, blockC, condC, cells_agg, r41_10, h8]
    refine hK _ _ _ (C.cond true (by simp only [↓opStep_eq, ↓reduceIte, tg_set, toTm_cons, toTm_nil, fieldPtr_ptr, Nat.add_zero, Nat.zero_add, Nat.reduceAdd, Nat.reduceEqDiff, Int.reduceEq, Int.reduceLT, Int.reduceLE, Int.reduceNe, ↓kO_some, ↓kA_some, ↓kH_some, kO_some, kA_some, kH_some, gd_true, gd_false, nthD_zero, nthD_succ, isB_true, isB_false, isB_undef, pickV_true, pickV_false, binV_add, binV_sub, binV_mul, binV_eql, binV_neq, binV_lss, binV_leq, binV_gtr, binV_geq, unV_not, nt, nf, Bool.false_eq_true, dt, df, decide_true, decide_false, withV_some, aggO_some, ptrTo_eq, ↓aO_some, aO_some, ↓andB_true, andB_true, gz, gs, seqC, retC, skipC, exitC, blockC, condC, cells_agg]) (fun _ => C.seq fun K hK => ?_) fun h => by cases h)
    simp only [↓opStep_eq, ↓reduceIte, tg_set, toTm_cons, toTm_nil, fieldPtr_ptr, Nat.add_zero, Nat.zero_add, Nat.reduceAdd, Nat.reduceEqDiff, Int.reduceEq, Int.reduceLT, Int.reduceLE, Int.reduceNe, ↓kO_some, ↓kA_some, ↓kH_some, kO_some, kA_some, kH_some, gd_true, gd_false, nthD_zero, nthD_succ, isB_true, isB_false, isB_undef, pickV_true, pickV_false, binV_add, binV_sub, binV_mul, binV_eql, binV_neq, binV_lss, binV_leq, binV_gtr, binV_geq, unV_not, nt, nf, Bool.false_eq_true, dt, df, decide_true, decide_false, withV_some, aggO_some, ptrTo_eq, ↓aO_some, aO_some, ↓andB_true, andB_true, gz, gs, seqC, retC, skipC, exitC, blockC, condC, cells_agg, r41_11, agg_zero, putz _ _ b1']
    exact hK _ _ _ (C.ret ⟨.inr rfl, fail _ _ hn (by simp only [↓opStep_eq, ↓reduceIte, tg_set, toTm_cons, toTm_nil, fieldPtr_ptr, Nat.add_zero, Nat.zero_add, Nat.reduceAdd, Nat.reduceEqDiff, Int.reduceEq, Int.reduceLT, Int.reduceLE, Int.reduceNe, ↓kO_some, ↓kA_some, ↓kH_some, kO_some, kA_some, kH_some, gd_true, gd_false, nthD_zero, nthD_succ, isB_true, isB_false, isB_undef, pickV_true, pickV_false, binV_add, binV_sub, binV_mul, binV_eql, binV_neq, binV_lss, binV_leq, binV_gtr, binV_geq, unV_not, nt, nf, Bool.false_eq_true, dt, df, decide_true, decide_false, withV_some, aggO_some, ptrTo_eq, ↓aO_some, aO_some, ↓andB_true, andB_true, gz, gs, seqC, retC, skipC, exitC, blockC, condC, cells_agg]) (by simp only [↓opStep_eq, ↓reduceIte, tg_set, toTm_cons, toTm_nil, fieldPtr_ptr, Nat.add_zero, Nat.zero_add, Nat.reduceAdd, Nat.reduceEqDiff, Int.reduceEq, Int.reduceLT, Int.reduceLE, Int.reduceNe, ↓kO_some, ↓kA_some, ↓kH_some, kO_some, kA_some, kH_some, gd_true, gd_false, nthD_zero, nthD_succ, isB_true, isB_false, isB_undef, pickV_true, pickV_false, binV_add, binV_sub, binV_mul, binV_eql, binV_neq, binV_lss, binV_leq, binV_gtr, binV_geq, unV_not, nt, nf, Bool.false_eq_true, dt, df, decide_true, decide_false, withV_some, aggO_some, ptrTo_eq, ↓aO_some, aO_some, ↓andB_true, andB_true, gz, gs, seqC, retC, skipC, exitC, blockC, condC, cells_agg]) (Has.put b1'.1) (keepz _ k12)⟩)
  have h8' : ¬ 8 < many := by omega
  simp only [↓opStep_eq, ↓reduceIte, tg_set, toTm_cons, toTm_nil, fieldPtr_ptr, Nat.add_zero, Nat.zero_add, Nat.reduceAdd, Nat.reduceEqDiff, Int.reduceEq, Int.reduceLT, Int.reduceLE, Int.reduceNe, ↓kO_some, ↓kA_some, ↓kH_some, kO_some, kA_some, kH_some, gd_true, gd_false, nthD_zero, nthD_succ, isB_true, isB_false, isB_undef, pickV_true, pickV_false, binV_add, binV_sub, binV_mul, binV_eql, binV_neq, binV_lss, binV_leq, binV_gtr, binV_geq, unV_not, nt, nf, Bool.false_eq_true, dt, df, decide_true, decide_false, withV_some, aggO_some, ptrTo_eq, ↓aO_some, aO_some, ↓andB_true, andB_true, gz, gs, seqC, retC, skipC, exitC, blockC, condC, cells_agg, r41_10, h8]
  refine hK _ _ _ (C.cond false (by simp only [↓opStep_eq, ↓reduceIte, tg_set, toTm_cons, toTm_nil, fieldPtr_ptr, Nat.add_zero, Nat.zero_add, Nat.reduceAdd, Nat.reduceEqDiff, Int.reduceEq, Int.reduceLT, Int.reduceLE, Int.reduceNe, ↓kO_some, ↓kA_some, ↓kH_some, kO_some, kA_some, kH_some, gd_true, gd_false, nthD_zero, nthD_succ, isB_true, isB_false, isB_undef, pickV_true, pickV_false, binV_add, binV_sub, binV_mul, binV_eql, binV_neq, binV_lss, binV_leq, binV_gtr, binV_geq, unV_not, nt, nf, Bool.false_eq_true, dt, df, decide_true, decide_false, withV_some, aggO_some, ptrTo_eq, ↓aO_some, aO_some, ↓andB_true, andB_true, gz, gs, seqC, retC, skipC, exitC, blockC, condC, cells_agg]) (fun h => by cases h) fun _ => C.skip (C.seq fun K hK => ?_))
  obtain ⟨w3, e5, rw3, bw3⟩ := rw2.from kk2 s3
  have tm8 := toI64 .u64 many (by omega)
  simp only [↓opStep_eq, ↓reduceIte, tg_set, toTm_cons, toTm_nil, fieldPtr_ptr, Nat.add_zero, Nat.zero_add, Nat.reduceAdd, Nat.reduceEqDiff, Int.reduceEq, Int.reduceLT, Int.reduceLE, Int.reduceNe, ↓kO_some, ↓kA_some, ↓kH_some, kO_some, kA_some, kH_some, gd_true, gd_false, nthD_zero, nthD_succ, isB_true, isB_false, isB_undef, pickV_true, pickV_false, binV_add, binV_sub, binV_mul, binV_eql, binV_neq, binV_lss, binV_leq, binV_gtr, binV_geq, unV_not, nt, nf, Bool.false_eq_true, dt, df, decide_true, decide_false, withV_some, aggO_some, ptrTo_eq, ↓aO_some, aO_some, ↓andB_true, andB_true, gz, gs, seqC, retC, skipC, exitC, blockC, condC, cells_agg, r41_12, e5, tm8]
  refine ref_items L n w3 ((r.drop kk1).drop kk2) many h4 rw3 hL (by simp only [List.length_drop]; omega) (by omega) _ fun q h5 hv => ?_
  obtain ⟨k5, hv⟩ := hv
  have b4' := b4.keep0 k5
  have b1'' := b1'.keep0 k5
  have num64 : (Value.int .u64 (num : Int)).cells = #[Value.int .u64 (num : Int)] := rfl
  -- the stores behind
  have fin : ∀ (iv w4 : Value) (ok : Bool) (rest : List UInt8) (tm : T Value), tg tm 2 = .pointer (some ⟨h.next, 0, none⟩) → tg tm 4 = .pointer (some ⟨h1.next + 8, 0, none⟩) → tg tm 5 = .int .u64 (num : Int) → tg tm 11 = iv → tg tm 12 = w4 → tg tm 13 = .bool ok → iv.cells = #[iv] → ones [iv] = true → lenSl w4 = some (.int .i64 (rest.length : Int)) →
      C ⟨seqC ⟨r41_13⟩ ⟨seqC ⟨r41_14⟩ ⟨seqC ⟨r41_15⟩ retC⟩⟩⟩ (CF L (n + 4)) L tm h5 fun e tm' h' => e = .ret ∧ tg tm' 2 = .pointer (some ⟨h.next, 0, none⟩) ∧ tg tm' 3 = .bool (ok && decide (rest = [])) ∧ Has h' h.next (.rw [.int .u8 1, bv x0, bv x1, iv, .int .u64 (num : Int), .bool false, .string (strB [])]) ∧ Keep (fun b => b = h1.next + 8 ∨ b = h.next) h5 h' := fun iv w4 ok rest tm t2 t4 t5 t11 t12 t13 hiv hiv1 hw4 => by
    have s1 := store_cell (o := 4) (s := none) (x := .int .u64 (num : Int)) b4' (by simp) rfl rfl
    simp only [List.set_cons_succ, List.set_cons_zero] at s1
    have k6 := Keep.put h5 (h1.next + 8) (.rw [.int .u8 1, bv x0, bv x1, .slice none 0 0, .int .u64 (num : Int), .bool false, .string (strB [])])
    have b6 : Has (h5.put (h1.next + 8) (.rw [.int .u8 1, bv x0, bv x1, .slice none 0 0, .int .u64 (num : Int), .bool false, .string (strB [])])) (h1.next + 8) (.rw [.int .u8 1, bv x0, bv x1, .slice none 0 0, .int .u64 (num : Int), .bool false, .string (strB [])]) := Has.put b4'.1
    have z6 := b1''.keep k6 (fun e => by omega)
    generalize h5.put (h1.next + 8) (.rw [.int .u8 1, bv x0, bv x1, .slice none 0 0, .int .u64 (num : Int), .bool false, .string (strB [])]) = h6 at *
    have s2 := store_cell (o := 3) (s := none) (x := iv) b6 (by simp) hiv hiv1
    simp only [List.set_cons_succ, List.set_cons_zero] at s2
    have k7 := Keep.put h6 (h1.next + 8) (.rw [.int .u8 1, bv x0, bv x1, iv, .int .u64 (num : Int), .bool false, .string (strB [])])
    have b7 : Has (h6.put (h1.next + 8) (.rw [.int .u8 1, bv x0, bv x1, iv, .int .u64 (num : Int), .bool false, .string (strB [])])) (h1.next + 8) (.rw [.int .u8 1, bv x0, bv x1, iv, .int .u64 (num : Int), .bool false, .string (strB [])]) := Has.put b6.1
    have z7 := z6.keep k7 (fun e => by omega)
    generalize h6.put (h1.next + 8) (.rw [.int .u8 1, bv x0, bv x1, iv, .int .u64 (num : Int), .bool false, .string (strB [])]) = h7 at *
    have hone : ones [.int .u8 1, bv x0, bv x1, iv, .int .u64 (num : Int), .bool false, .string (strB [])] = true := by
      have : ∀ (l : List Value), ones (.int .u8 1 :: bv x0 :: bv x1 :: l) = ones l := fun _ => rfl
      rw [this]
      have h2 : ∀ (x : Value) (l : List Value), ones [x] = true → ones l = true → ones (x :: l) = true := fun x l hx hl => by
        cases x <;> first | exact hl | cases hx
      exact h2 _ _ hiv1 rfl
    have lo : ∀ s, loadAgg 7 h7 (.pointer (some ⟨h1.next + 8, 0, s⟩)) = some (.agg [.int .u8 1, bv x0, bv x1, iv, .int .u64 (num : Int), .bool false, .string (strB [])].toArray) := fun s => load7 b7 rfl
    obtain ⟨ds, e1, _, _, e2⟩ := store7 (s := none) (v := .agg [.int .u8 1, bv x0, bv x1, iv, .int .u64 (num : Int), .bool false, .string (strB [])].toArray) z7 rfl ⟨_, rfl, rfl, hone⟩
    have hds : ds = [.int .u8 1, bv x0, bv x1, iv, .int .u64 (num : Int), .bool false, .string (strB [])] := by simpa using e1.symm
    rw [hds] at e2
    have kk : Keep (fun b => b = h1.next + 8 ∨ b = h.next) h5 (h7.put h.next (.rw [.int .u8 1, bv x0, bv x1, iv, .int .u64 (num : Int), .bool false, .string (strB [])])) :=
      ((k6.mono fun _ _ e => .inl e).trans k7 fun _ _ e => .inl e).trans (Keep.put h7 h.next _) fun _ _ e => .inr e
    refine C.seq fun K hK => ?_
    simp only [↓opStep_eq, ↓reduceIte, tg_set, toTm_cons, toTm_nil, fieldPtr_ptr, Nat.add_zero, Nat.zero_add, Nat.reduceAdd, Nat.reduceEqDiff, Int.reduceEq, Int.reduceLT, Int.reduceLE, Int.reduceNe, ↓kO_some, ↓kA_some, ↓kH_some, kO_some, kA_some, kH_some, gd_true, gd_false, nthD_zero, nthD_succ, isB_true, isB_false, isB_undef, pickV_true, pickV_false, binV_add, binV_sub, binV_mul, binV_eql, binV_neq, binV_lss, binV_leq, binV_gtr, binV_geq, unV_not, nt, nf, Bool.false_eq_true, dt, df, decide_true, decide_false, withV_some, aggO_some, ptrTo_eq, ↓aO_some, aO_some, ↓andB_true, andB_true, gz, gs, seqC, retC, skipC, exitC, blockC, condC, cells_agg, r41_13, t4, t5, s1]
    refine hK _ _ _ (C.seq fun K hK => ?_)
    simp only [↓opStep_eq, ↓reduceIte, tg_set, toTm_cons, toTm_nil, fieldPtr_ptr, Nat.add_zero, Nat.zero_add, Nat.reduceAdd, Nat.reduceEqDiff, Int.reduceEq, Int.reduceLT, Int.reduceLE, Int.reduceNe, ↓kO_some, ↓kA_some, ↓kH_some, kO_some, kA_some, kH_some, gd_true, gd_false, nthD_zero, nthD_succ, isB_true, isB_false, isB_undef, pickV_true, pickV_false, binV_add, binV_sub, binV_mul, binV_eql, binV_neq, binV_lss, binV_leq, binV_gtr, binV_geq, unV_not, nt, nf, Bool.false_eq_true, dt, df, decide_true, decide_false, withV_some, aggO_some, ptrTo_eq, ↓aO_some, aO_some, ↓andB_true, andB_true, gz, gs, seqC, retC, skipC, exitC, blockC, condC, cells_agg, r41_14, t4, t11, s2]
    refine hK _ _ _ (C.seq fun K hK => ?_)
    cases ok
    · simp only [↓opStep_eq, ↓reduceIte, tg_set, toTm_cons, toTm_nil, fieldPtr_ptr, Nat.add_zero, Nat.zero_add, Nat.reduceAdd, Nat.reduceEqDiff, Int.reduceEq, Int.reduceLT, Int.reduceLE, Int.reduceNe, ↓kO_some, ↓kA_some, ↓kH_some, kO_some, kA_some, kH_some, gd_true, gd_false, nthD_zero, nthD_succ, isB_true, isB_false, isB_undef, pickV_true, pickV_false, binV_add, binV_sub, binV_mul, binV_eql, binV_neq, binV_lss, binV_leq, binV_gtr, binV_geq, unV_not, nt, nf, Bool.false_eq_true, dt, df, decide_true, decide_false, withV_some, aggO_some, ptrTo_eq, ↓aO_some, aO_some, ↓andB_true, andB_true, gz, gs, seqC, retC, skipC, exitC, blockC, condC, cells_agg, r41_15, t4, t2, t13, lo, e2]
      exact hK _ _ _ (C.ret ⟨rfl, by simp only [↓opStep_eq, ↓reduceIte, tg_set, toTm_cons, toTm_nil, fieldPtr_ptr, Nat.add_zero, Nat.zero_add, Nat.reduceAdd, Nat.reduceEqDiff, Int.reduceEq, Int.reduceLT, Int.reduceLE, Int.reduceNe, ↓kO_some, ↓kA_some, ↓kH_some, kO_some, kA_some, kH_some, gd_true, gd_false, nthD_zero, nthD_succ, isB_true, isB_false, isB_undef, pickV_true, pickV_false, binV_add, binV_sub, binV_mul, binV_eql, binV_neq, binV_lss, binV_leq, binV_gtr, binV_geq, unV_not, nt, nf, Bool.false_eq_true, dt, df, decide_true, decide_false, withV_some, aggO_some, ptrTo_eq, ↓aO_some, aO_some, ↓andB_true, andB_true, gz, gs, seqC, retC, skipC, exitC, blockC, condC, cells_agg, t2], by simp only [↓opStep_eq, ↓reduceIte, tg_set, toTm_cons, toTm_nil, fieldPtr_ptr, Nat.add_zero, Nat.zero_add, Nat.reduceAdd, Nat.reduceEqDiff, Int.reduceEq, Int.reduceLT, Int.reduceLE, Int.reduceNe, ↓kO_some, ↓kA_some, ↓kH_some, kO_some, kA_some, kH_some, gd_true, gd_false, nthD_zero, nthD_succ, isB_true, isB_false, isB_undef, pickV_true, pickV_false, binV_add, binV_sub, binV_mul, binV_eql, binV_neq, binV_lss, binV_leq, binV_gtr, binV_geq, unV_not, nt, nf, Bool.false_eq_true, dt, df, decide_true, decide_false, withV_some, aggO_some, ptrTo_eq, ↓aO_some, aO_some, ↓andB_true, andB_true, gz, gs, seqC, retC, skipC, exitC, blockC, condC, cells_agg, Bool.false_and], Has.put z7.1, kk⟩)
    · by_cases hrest : (rest.length : Int) = 0
      · have hr' : rest = [] := List.length_eq_zero_iff.1 (by omega)
        simp only [↓opStep_eq, ↓reduceIte, tg_set, toTm_cons, toTm_nil, fieldPtr_ptr, Nat.add_zero, Nat.zero_add, Nat.reduceAdd, Nat.reduceEqDiff, Int.reduceEq, Int.reduceLT, Int.reduceLE, Int.reduceNe, ↓kO_some, ↓kA_some, ↓kH_some, kO_some, kA_some, kH_some, gd_true, gd_false, nthD_zero, nthD_succ, isB_true, isB_false, isB_undef, pickV_true, pickV_false, binV_add, binV_sub, binV_mul, binV_eql, binV_neq, binV_lss, binV_leq, binV_gtr, binV_geq, unV_not, nt, nf, Bool.false_eq_true, dt, df, decide_true, decide_false, withV_some, aggO_some, ptrTo_eq, ↓aO_some, aO_some, ↓andB_true, andB_true, gz, gs, seqC, retC, skipC, exitC, blockC, condC, cells_agg, r41_15, t4, t2, t13, t12, hw4, hrest, lo, e2]
        exact hK _ _ _ (C.ret ⟨rfl, by simp only [↓opStep_eq, ↓reduceIte, tg_set, toTm_cons, toTm_nil, fieldPtr_ptr, Nat.add_zero, Nat.zero_add, Nat.reduceAdd, Nat.reduceEqDiff, Int.reduceEq, Int.reduceLT, Int.reduceLE, Int.reduceNe, ↓kO_some, ↓kA_some, ↓kH_some, kO_some, kA_some, kH_some, gd_true, gd_false, nthD_zero, nthD_succ, isB_true, isB_false, isB_undef, pickV_true, pickV_false, binV_add, binV_sub, binV_mul, binV_eql, binV_neq, binV_lss, binV_leq, binV_gtr, binV_geq, unV_not, nt, nf, Bool.false_eq_true, dt, df, decide_true, decide_false, withV_some, aggO_some, ptrTo_eq, ↓aO_some, aO_some, ↓andB_true, andB_true, gz, gs, seqC, retC, skipC, exitC, blockC, condC, cells_agg, t2], by simp only [↓opStep_eq, ↓reduceIte, tg_set, toTm_cons, toTm_nil, fieldPtr_ptr, Nat.add_zero, Nat.zero_add, Nat.reduceAdd, Nat.reduceEqDiff, Int.reduceEq, Int.reduceLT, Int.reduceLE, Int.reduceNe, ↓kO_some, ↓kA_some, ↓kH_some, kO_some, kA_some, kH_some, gd_true, gd_false, nthD_zero, nthD_succ, isB_true, isB_false, isB_undef, pickV_true, pickV_false, binV_add, binV_sub, binV_mul, binV_eql, binV_neq, binV_lss, binV_leq, binV_gtr, binV_geq, unV_not, nt, nf, Bool.false_eq_true, dt, df, decide_true, decide_false, withV_some, aggO_some, ptrTo_eq, ↓aO_some, aO_some, ↓andB_true, andB_true, gz, gs, seqC, retC, skipC, exitC, blockC, condC, cells_agg, Bool.true_and, hr'], Has.put z7.1, kk⟩)
      · have hr' : ¬ rest = [] := fun e => hrest (by rw [e]; rfl)
        simp only [↓opStep_eq, ↓reduceIte, tg_set, toTm_cons, toTm_nil, fieldPtr_ptr, Nat.add_zero, Nat.zero_add, Nat.reduceAdd, Nat.reduceEqDiff, Int.reduceEq, Int.reduceLT, Int.reduceLE, Int.reduceNe, ↓kO_some, ↓kA_some, ↓kH_some, kO_some, kA_some, kH_some, gd_true, gd_false, nthD_zero, nthD_succ, isB_true, isB_false, isB_undef, pickV_true, pickV_false, binV_add, binV_sub, binV_mul, binV_eql, binV_neq, binV_lss, binV_leq, binV_gtr, binV_geq, unV_not, nt, nf, Bool.false_eq_true, dt, df, decide_true, decide_false, withV_some, aggO_some, ptrTo_eq, ↓aO_some, aO_some, ↓andB_true, andB_true, gz, gs, seqC, retC, skipC, exitC, blockC, condC, cells_agg, r41_15, t4, t2, t13, t12, hw4, hrest, lo, e2]
        exact hK _ _ _ (C.ret ⟨rfl, by simp only [↓opStep_eq, ↓reduceIte, tg_set, toTm_cons, toTm_nil, fieldPtr_ptr, Nat.add_zero, Nat.zero_add, Nat.reduceAdd, Nat.reduceEqDiff, Int.reduceEq, Int.reduceLT, Int.reduceLE, Int.reduceNe, ↓kO_some, ↓kA_some, ↓kH_some, kO_some, kA_some, kH_some, gd_true, gd_false, nthD_zero, nthD_succ, isB_true, isB_false, isB_undef, pickV_true, pickV_false, binV_add, binV_sub, binV_mul, binV_eql, binV_neq, binV_lss, binV_leq, binV_gtr, binV_geq, unV_not, nt, nf, Bool.false_eq_true, dt, df, decide_true, decide_false, withV_some, aggO_some, ptrTo_eq, ↓aO_some, aO_some, ↓andB_true, andB_true, gz, gs, seqC, retC, skipC, exitC, blockC, condC, cells_agg, t2], by simp only [↓opStep_eq, ↓reduceIte, tg_set, toTm_cons, toTm_nil, fieldPtr_ptr, Nat.add_zero, Nat.zero_add, Nat.reduceAdd, Nat.reduceEqDiff, Int.reduceEq, Int.reduceLT, Int.reduceLE, Int.reduceNe, ↓kO_some, ↓kA_some, ↓kH_some, kO_some, kA_some, kH_some, gd_true, gd_false, nthD_zero, nthD_succ, isB_true, isB_false, isB_undef, pickV_true, pickV_false, binV_add, binV_sub, binV_mul, binV_eql, binV_neq, binV_lss, binV_leq, binV_gtr, binV_geq, unV_not, nt, nf, Bool.false_eq_true, dt, df, decide_true, decide_false, withV_some, aggO_some, ptrTo_eq, ↓aO_some, aO_some, ↓andB_true, andB_true, gz, gs, seqC, retC, skipC, exitC, blockC, condC, cells_agg, Bool.true_and, hr'], Has.put z7.1, kk⟩)
  have shp : ∀ iv, ones [iv] = true → Shape7 (.agg [.int .u8 1, bv x0, bv x1, iv, .int .u64 (num : Int), .bool false, .string (strB [])].toArray) := fun iv hiv1 => by
    refine ⟨_, rfl, rfl, ?_⟩
    have : ∀ (l : List Value), ones (.int .u8 1 :: bv x0 :: bv x1 :: l) = ones l := fun _ => rfl
    rw [this]
    have h2 : ∀ (x : Value) (l : List Value), ones [x] = true → ones l = true → ones (x :: l) = true := fun x l hx hl => by
      cases x <;> first | exact hl | cases hx
    exact h2 _ _ hiv1 rfl
  have kend : ∀ h', Keep (fun b => b = h1.next + 8 ∨ b = h.next) h5 h' → Keep nobody h h' := fun h' k => (k12.then k5).trans k fun b hb e => by rcases e with e | e <;> omega
  cases hp : pItems many ((r.drop kk1).drop kk2) with
  | none =>
    rw [hp] at hv
    subst hv
    have hn : pRes l = none := by rw [hlr]; simp only [pRes, hrd, hrd2, if_neg h8', hp]
    simp only [tupNth_tuple, ↓opStep_eq, ↓reduceIte, tg_set, toTm_cons, toTm_nil, fieldPtr_ptr, Nat.add_zero, Nat.zero_add, Nat.reduceAdd, Nat.reduceEqDiff, Int.reduceEq, Int.reduceLT, Int.reduceLE, Int.reduceNe, ↓kO_some, ↓kA_some, ↓kH_some, kO_some, kA_some, kH_some, gd_true, gd_false, nthD_zero, nthD_succ, isB_true, isB_false, isB_undef, pickV_true, pickV_false, binV_add, binV_sub, binV_mul, binV_eql, binV_neq, binV_lss, binV_leq, binV_gtr, binV_geq, unV_not, nt, nf, Bool.false_eq_true, dt, df, decide_true, decide_false, withV_some, aggO_some, ptrTo_eq, ↓aO_some, aO_some, ↓andB_true, andB_true, gz, gs, seqC, retC, skipC, exitC, blockC, condC, cells_agg]
    refine hK _ _ _ ((fin (.slice none 0 0) (.slice none 0 0) false [] _ (by simp only [↓opStep_eq, ↓reduceIte, tg_set, toTm_cons, toTm_nil, fieldPtr_ptr, Nat.add_zero, Nat.zero_add, Nat.reduceAdd, Nat.reduceEqDiff, Int.reduceEq, Int.reduceLT, Int.reduceLE, Int.reduceNe, ↓kO_some, ↓kA_some, ↓kH_some, kO_some, kA_some, kH_some, gd_true, gd_false, nthD_zero, nthD_succ, isB_true, isB_false, isB_undef, pickV_true, pickV_false, binV_add, binV_sub, binV_mul, binV_eql, binV_neq, binV_lss, binV_leq, binV_gtr, binV_geq, unV_not, nt, nf, Bool.false_eq_true, dt, df, decide_true, decide_false, withV_some, aggO_some, ptrTo_eq, ↓aO_some, aO_some, ↓andB_true, andB_true, gz, gs, seqC, retC, skipC, exitC, blockC, condC, cells_agg]) (by simp only [↓opStep_eq, ↓reduceIte, tg_set, toTm_cons, toTm_nil, fieldPtr_ptr, Nat.add_zero, Nat.zero_add, Nat.reduceAdd, Nat.reduceEqDiff, Int.reduceEq, Int.reduceLT, Int.reduceLE, Int.reduceNe, ↓kO_some, ↓kA_some, ↓kH_some, kO_some, kA_some, kH_some, gd_true, gd_false, nthD_zero, nthD_succ, isB_true, isB_false, isB_undef, pickV_true, pickV_false, binV_add, binV_sub, binV_mul, binV_eql, binV_neq, binV_lss, binV_leq, binV_gtr, binV_geq, unV_not, nt, nf, Bool.false_eq_true, dt, df, decide_true, decide_false, withV_some, aggO_some, ptrTo_eq, ↓aO_some, aO_some, ↓andB_true, andB_true, gz, gs, seqC, retC, skipC, exitC, blockC, condC, cells_agg]) (by simp only [↓opStep_eq, ↓reduceIte, tg_set, toTm_cons, toTm_nil, fieldPtr_ptr, Nat.add_zero, Nat.zero_add, Nat.reduceAdd, Nat.reduceEqDiff, Int.reduceEq, Int.reduceLT, Int.reduceLE, Int.reduceNe, ↓kO_some, ↓kA_some, ↓kH_some, kO_some, kA_some, kH_some, gd_true, gd_false, nthD_zero, nthD_succ, isB_true, isB_false, isB_undef, pickV_true, pickV_false, binV_add, binV_sub, binV_mul, binV_eql, binV_neq, binV_lss, binV_leq, binV_gtr, binV_geq, unV_not, nt, nf, Bool.false_eq_true, dt, df, decide_true, decide_false, withV_some, aggO_some, ptrTo_eq, ↓aO_some, aO_some, ↓andB_true, andB_true, gz, gs, seqC, retC, skipC, exitC, blockC, condC, cells_agg]) (by simp only [↓opStep_eq, ↓reduceIte, tg_set, toTm_cons, toTm_nil, fieldPtr_ptr, Nat.add_zero, Nat.zero_add, Nat.reduceAdd, Nat.reduceEqDiff, Int.reduceEq, Int.reduceLT, Int.reduceLE, Int.reduceNe, ↓kO_some, ↓kA_some, ↓kH_some, kO_some, kA_some, kH_some, gd_true, gd_false, nthD_zero, nthD_succ, isB_true, isB_false, isB_undef, pickV_true, pickV_false, binV_add, binV_sub, binV_mul, binV_eql, binV_neq, binV_lss, binV_leq, binV_gtr, binV_geq, unV_not, nt, nf, Bool.false_eq_true, dt, df, decide_true, decide_false, withV_some, aggO_some, ptrTo_eq, ↓aO_some, aO_some, ↓andB_true, andB_true, gz, gs, seqC, retC, skipC, exitC, blockC, condC, cells_agg]) (by simp only [↓opStep_eq, ↓reduceIte, tg_set, toTm_cons, toTm_nil, fieldPtr_ptr, Nat.add_zero, Nat.zero_add, Nat.reduceAdd, Nat.reduceEqDiff, Int.reduceEq, Int.reduceLT, Int.reduceLE, Int.reduceNe, ↓kO_some, ↓kA_some, ↓kH_some, kO_some, kA_some, kH_some, gd_true, gd_false, nthD_zero, nthD_succ, isB_true, isB_false, isB_undef, pickV_true, pickV_false, binV_add, binV_sub, binV_mul, binV_eql, binV_neq, binV_lss, binV_leq, binV_gtr, binV_geq, unV_not, nt, nf, Bool.false_eq_true, dt, df, decide_true, decide_false, withV_some, aggO_some, ptrTo_eq, ↓aO_some, aO_some, ↓andB_true, andB_true, gz, gs, seqC, retC, skipC, exitC, blockC, condC, cells_agg]) (by simp only [↓opStep_eq, ↓reduceIte, tg_set, toTm_cons, toTm_nil, fieldPtr_ptr, Nat.add_zero, Nat.zero_add, Nat.reduceAdd, Nat.reduceEqDiff, Int.reduceEq, Int.reduceLT, Int.reduceLE, Int.reduceNe, ↓kO_some, ↓kA_some, ↓kH_some, kO_some, kA_some, kH_some, gd_true, gd_false, nthD_zero, nthD_succ, isB_true, isB_false, isB_undef, pickV_true, pickV_false, binV_add, binV_sub, binV_mul, binV_eql, binV_neq, binV_lss, binV_leq, binV_gtr, binV_geq, unV_not, nt, nf, Bool.false_eq_true, dt, df, decide_true, decide_false, withV_some, aggO_some, ptrTo_eq, ↓aO_some, aO_some, ↓andB_true, andB_true, gz, gs, seqC, retC, skipC, exitC, blockC, condC, cells_agg]) rfl rfl rfl).mono fun e tm' h' q => ?_)
    obtain ⟨rfl, q2, q3, q4, q5⟩ := q
    refine ⟨.inr rfl, [.agg [.int .u8 1, bv x0, bv x1, .slice none 0 0, .int .u64 (num : Int), .bool false, .string (strB [])].toArray, .bool (false && decide (([] : List UInt8) = []))], by simp only [q41, q2, q3, load7 q4 rfl], .agg [.int .u8 1, bv x0, bv x1, .slice none 0 0, .int .u64 (num : Int), .bool false, .string (strB [])].toArray, false, by simp [resOf], kend _ q5, shp _ rfl, ?_⟩
    rw [hn]
  | some p =>
    obtain ⟨xs, rest⟩ := p
    rw [hp] at hv
    obtain ⟨iv, w4, rfl, mi, rw4, hxl, oks⟩ := hv
    simp only [tupNth_tuple, ↓opStep_eq, ↓reduceIte, tg_set, toTm_cons, toTm_nil, fieldPtr_ptr, Nat.add_zero, Nat.zero_add, Nat.reduceAdd, Nat.reduceEqDiff, Int.reduceEq, Int.reduceLT, Int.reduceLE, Int.reduceNe, ↓kO_some, ↓kA_some, ↓kH_some, kO_some, kA_some, kH_some, gd_true, gd_false, nthD_zero, nthD_succ, isB_true, isB_false, isB_undef, pickV_true, pickV_false, binV_add, binV_sub, binV_mul, binV_eql, binV_neq, binV_lss, binV_leq, binV_gtr, binV_geq, unV_not, nt, nf, Bool.false_eq_true, dt, df, decide_true, decide_false, withV_some, aggO_some, ptrTo_eq, ↓aO_some, aO_some, ↓andB_true, andB_true, gz, gs, seqC, retC, skipC, exitC, blockC, condC, cells_agg]
    refine hK _ _ _ ((fin iv w4 true rest _ (by simp only [↓opStep_eq, ↓reduceIte, tg_set, toTm_cons, toTm_nil, fieldPtr_ptr, Nat.add_zero, Nat.zero_add, Nat.reduceAdd, Nat.reduceEqDiff, Int.reduceEq, Int.reduceLT, Int.reduceLE, Int.reduceNe, ↓kO_some, ↓kA_some, ↓kH_some, kO_some, kA_some, kH_some, gd_true, gd_false, nthD_zero, nthD_succ, isB_true, isB_false, isB_undef, pickV_true, pickV_false, binV_add, binV_sub, binV_mul, binV_eql, binV_neq, binV_lss, binV_leq, binV_gtr, binV_geq, unV_not, nt, nf, Bool.false_eq_true, dt, df, decide_true, decide_false, withV_some, aggO_some, ptrTo_eq, ↓aO_some, aO_some, ↓andB_true, andB_true, gz, gs, seqC, retC, skipC, exitC, blockC, condC, cells_agg]) (by simp only [↓opStep_eq, ↓reduceIte, tg_set, toTm_cons, toTm_nil, fieldPtr_ptr, Nat.add_zero, Nat.zero_add, Nat.reduceAdd, Nat.reduceEqDiff, Int.reduceEq, Int.reduceLT, Int.reduceLE, Int.reduceNe, ↓kO_some, ↓kA_some, ↓kH_some, kO_some, kA_some, kH_some, gd_true, gd_false, nthD_zero, nthD_succ, isB_true, isB_false, isB_undef, pickV_true, pickV_false, binV_add, binV_sub, binV_mul, binV_eql, binV_neq, binV_lss, binV_leq, binV_gtr, binV_geq, unV_not, nt, nf, Bool.false_eq_true, dt, df, decide_true, decide_false, withV_some, aggO_some, ptrTo_eq, ↓aO_some, aO_some, ↓andB_true, andB_true, gz, gs, seqC, retC, skipC, exitC, blockC, condC, cells_agg]) (by simp only [↓opStep_eq, ↓reduceIte, tg_set, toTm_cons, toTm_nil, fieldPtr_ptr, Nat.add_zero, Nat.zero_add, Nat.reduceAdd, Nat.reduceEqDiff, Int.reduceEq, Int.reduceLT, Int.reduceLE, Int.reduceNe, ↓kO_some, ↓kA_some, ↓kH_some, kO_some, kA_some, kH_some, gd_true, gd_false, nthD_zero, nthD_succ, isB_true, isB_false, isB_undef, pickV_true, pickV_false, binV_add, binV_sub, binV_mul, binV_eql, binV_neq, binV_lss, binV_leq, binV_gtr, binV_geq, unV_not, nt, nf, Bool.false_eq_true, dt, df, decide_true, decide_false, withV_some, aggO_some, ptrTo_eq, ↓aO_some, aO_some, ↓andB_true, andB_true, gz, gs, seqC, retC, skipC, exitC, blockC, condC, cells_agg]) (by simp only [↓opStep_eq, ↓reduceIte, tg_set, toTm_cons, toTm_nil, fieldPtr_ptr, Nat.add_zero, Nat.zero_add, Nat.reduceAdd, Nat.reduceEqDiff, Int.reduceEq, Int.reduceLT, Int.reduceLE, Int.reduceNe, ↓kO_some, ↓kA_some, ↓kH_some, kO_some, kA_some, kH_some, gd_true, gd_false, nthD_zero, nthD_succ, isB_true, isB_false, isB_undef, pickV_true, pickV_false, binV_add, binV_sub, binV_mul, binV_eql, binV_neq, binV_lss, binV_leq, binV_gtr, binV_geq, unV_not, nt, nf, Bool.false_eq_true, dt, df, decide_true, decide_false, withV_some, aggO_some, ptrTo_eq, ↓aO_some, aO_some, ↓andB_true, andB_true, gz, gs, seqC, retC, skipC, exitC, blockC, condC, cells_agg]) (by simp only [↓opStep_eq, ↓reduceIte, tg_set, toTm_cons, toTm_nil, fieldPtr_ptr, Nat.add_zero, Nat.zero_add, Nat.reduceAdd, Nat.reduceEqDiff, Int.reduceEq, Int.reduceLT, Int.reduceLE, Int.reduceNe, ↓kO_some, ↓kA_some, ↓kH_some, kO_some, kA_some, kH_some, gd_true, gd_false, nthD_zero, nthD_succ, isB_true, isB_false, isB_undef, pickV_true, pickV_false, binV_add, binV_sub, binV_mul, binV_eql, binV_neq, binV_lss, binV_leq, binV_gtr, binV_geq, unV_not, nt, nf, Bool.false_eq_true, dt, df, decide_true, decide_false, withV_some, aggO_some, ptrTo_eq, ↓aO_some, aO_some, ↓andB_true, andB_true, gz, gs, seqC, retC, skipC, exitC, blockC, condC, cells_agg]) (by simp only [↓opStep_eq, ↓reduceIte, tg_set, toTm_cons, toTm_nil, fieldPtr_ptr, Nat.add_zero, Nat.zero_add, Nat.reduceAdd, Nat.reduceEqDiff, Int.reduceEq, Int.reduceLT, Int.reduceLE, Int.reduceNe, ↓kO_some, ↓kA_some, ↓kH_some, kO_some, kA_some, kH_some, gd_true, gd_false, nthD_zero, nthD_succ, isB_true, isB_false, isB_undef, pickV_true, pickV_false, binV_add, binV_sub, binV_mul, binV_eql, binV_neq, binV_lss, binV_leq, binV_gtr, binV_geq, unV_not, nt, nf, Bool.false_eq_true, dt, df, decide_true, decide_false, withV_some, aggO_some, ptrTo_eq, ↓aO_some, aO_some, ↓andB_true, andB_true, gz, gs, seqC, retC, skipC, exitC, blockC, condC, cells_agg]) mi.cells mi.ones rw4.len).mono fun e tm' h' q => ?_)
    obtain ⟨rfl, q2, q3, q4, q5⟩ := q
    refine ⟨.inr rfl, [.agg [.int .u8 1, bv x0, bv x1, iv, .int .u64 (num : Int), .bool false, .string (strB [])].toArray, .bool (true && decide (rest = []))], by simp only [q41, q2, q3, load7 q4 rfl], .agg [.int .u8 1, bv x0, bv x1, iv, .int .u64 (num : Int), .bool false, .string (strB [])].toArray, decide (rest = []), by simp [resOf], kend _ q5, shp _ mi.ones, ?_⟩
    by_cases hrest : rest = []
    · have hs : pRes l = some (x0, x1, num, xs) := by rw [hlr]; simp only [pRes, hrd, hrd2, if_neg h8', hp, if_pos hrest]
      rw [hs]
      exact ⟨by simp [hrest], by omega, q1, oks, iv, rfl, mi.keep q5 fun b hb e => by
        rcases e with rfl | rfl
        · exact mi.ne b4' hb
        · exact mi.ne b1'' hb⟩
    · have hn : pRes l = none := by rw [hlr]; simp only [pRes, hrd, hrd2, if_neg h8', hp, if_neg hrest]
      rw [hn]
      simp [hrest]
end Go.Proofs.Ytpaolklbogakgaa
namespace Go.Proofs.Ytpaolklbogakgaa
open Go.Ev

abbrev noIv : Value := .slice none 0 0
def plainA (kind : UInt8) (yes : Bool) (key : ByteArray) : Ans := ⟨(kind.toNat : Int), 0, ⟨0, noIv, 0, []⟩, yes, key⟩
def withIv (a : Ans) (iv : Value) : Ans := ⟨a.kind, a.of, ⟨a.r.kind, iv, a.r.num, a.r.items⟩, a.yes, a.key⟩
/-- what a packet's body is, may it be or not -/
def pShape (kind : UInt8) (l : List UInt8) : Option Ans :=
  if kind = 1 then match pRes l with
    | some (x0, x1, num, xs) => some (resA x0 x1 num noIv xs)
    | none => none
  else if kind = 2 ∨ kind = 3 then match l with
    | [y] => if y.toNat < 2 then some (plainA kind (decide (y.toNat = 1)) (strB [])) else none
    | _ => none
  else if kind = 7 then some (plainA kind false ⟨l.toArray⟩)
  else if l = [] then some (plainA kind false (strB [])) else none
def pOf (kind : UInt8) (l : List UInt8) : Option Ans := match pShape kind l with
  | some a => if mayB a then some a else none
  | none => none
theorem may_iv (a : Ans) (iv : Value) : mayB (withIv a iv) = mayB a := rfl

theorem veq_int' (k : IntKind) (n : Int) (m : Nat) : veq (m + 1) (.int k n) (.int k n) = true := by
  show (kEq k k && iEq n n) = true
  rw [kEq_self, iEq_dec]; simp
theorem veq_str' (s : ByteArray) (m : Nat) : veq (m + 1) (.string s) (.string s) = true := by
  show leB s.data.toList s.data.toList = true
  rw [leB_eq]; simp
theorem veq_bool' (b : Bool) (m : Nat) : veq (m + 1) (.bool b) (.bool b) = true := by cases b <;> rfl
theorem ItemsAt.veq' {h : H} {v : Value} {l : List Itm} (a : ItemsAt h v l) (m : Nat) : Go.Ev.veq (m + 1) v v = true := by
  rcases a with ⟨rfl, rfl⟩ | ⟨b, o, c, x, cs, rfl, _⟩
  · rfl
  · show ((Nat.beq b b && Nat.beq o o && true) && Nat.beq l.length l.length && Nat.beq c c) = true
    simp only [Nat.beq_refl, Bool.and_self]
theorem veq_ans {h : H} {a : Ans} (hi : ItemsAt h a.r.iv a.r.items) : veq 64 a.v a.v = true := by
  show veq.vlq (veq 63) a.cells.toArray.toList a.cells.toArray.toList = true
  simp only [Ans.cells, veq.vlq, veq_int', veq_str', veq_bool', ItemsAt.veq' hi, Bool.and_self]
theorem ItemsAt.ones {h : H} {v : Value} {l : List Itm} (a : ItemsAt h v l) : Go.Ev.ones [v] = true := by
  rcases a with ⟨rfl, rfl⟩ | ⟨b, o, c, x, cs, rfl, _⟩ <;> rfl
theorem ones_cons {x : Value} {l : List Value} (hx : ones [x] = true) (hl : ones l = true) : ones (x :: l) = true := by
  cases x <;> first | exact hl | cases hx
theorem ans_shape {a : Ans} (h : ones [a.r.iv] = true) : Shape7 a.v := ⟨a.cells, rfl, rfl, ones_cons (x := .int .u8 a.kind) rfl (ones_cons (x := .int .u8 a.of) rfl (ones_cons (x := .int .u8 a.r.kind) rfl (ones_cons h rfl)))⟩
theorem ans_ones {a : Ans} (h : ones [a.r.iv] = true) : ones a.r.cells = true := ones_cons (x := .int .u8 a.r.kind) rfl (ones_cons h rfl)

/-- an answer that has been read: as it lies -/
def Got (h : H) (a : Ans) (av : Value) : Prop := ∃ iv, av = (withIv a iv).v ∧ MineI h iv a.r.items

section
variable {call : CallT} {L : Nat} {tm : T Value} {h : H} {K : KE} {v : Value} {l : List UInt8}
theorem reg25_6 (hr : Rd h v l) (t1 : tg tm 1 = v) :
    r25_6 call L tm [] h K = K .norm (T.set tm 7 (.bool (decide (l.length = 1 ∧ (l[0]?.getD 0).toNat < 2)))) [] h := by
  by_cases h1 : (l.length : Int) = 1
  · have h1' : l.length = 1 := by omega
    obtain ⟨x, hx⟩ : ∃ x, l[0]? = some x := ⟨l[0]'(by omega), List.getElem?_eq_getElem (by omega)⟩
    obtain ⟨b, o, e1, e2, _⟩ := hr.at hx
    have c0 : ((0 : Nat) : Int) = 0 := rfl
    rw [c0] at e1
    by_cases h2 : (x.toNat : Int) < 2
    · have h2' : x.toNat < 2 := by omega
      simp only [r25_6, ↓opStep_eq, ↓reduceIte, tg_set, toTm_cons, toTm_nil, fieldPtr_ptr, Nat.add_zero, Nat.zero_add, Nat.reduceAdd, Nat.reduceEqDiff, Int.reduceEq, Int.reduceLT, Int.reduceLE, Int.reduceNe, ↓kO_some, ↓kA_some, ↓kH_some, kO_some, kA_some, kH_some, gd_true, gd_false, nthD_zero, nthD_succ, isB_true, isB_false, isB_undef, pickV_true, pickV_false, binV_add, binV_sub, binV_mul, binV_eql, binV_neq, binV_lss, binV_leq, binV_gtr, binV_geq, unV_not, nt, nf, Bool.false_eq_true, dt, df, decide_true, decide_false, withV_some, aggO_some, ptrTo_eq, ↓aO_some, aO_some, ↓andB_true, andB_true, gz, gs, seqC, retC, skipC, exitC, blockC, condC, cells_agg, t1, hr.len, e1, e2, bv, h1, h2]
      rw [hx]; simp [h1', h2']
    · have h2' : ¬ x.toNat < 2 := by omega
      simp only [r25_6, ↓opStep_eq, ↓reduceIte, tg_set, toTm_cons, toTm_nil, fieldPtr_ptr, Nat.add_zero, Nat.zero_add, Nat.reduceAdd, Nat.reduceEqDiff, Int.reduceEq, Int.reduceLT, Int.reduceLE, Int.reduceNe, ↓kO_some, ↓kA_some, ↓kH_some, kO_some, kA_some, kH_some, gd_true, gd_false, nthD_zero, nthD_succ, isB_true, isB_false, isB_undef, pickV_true, pickV_false, binV_add, binV_sub, binV_mul, binV_eql, binV_neq, binV_lss, binV_leq, binV_gtr, binV_geq, unV_not, nt, nf, Bool.false_eq_true, dt, df, decide_true, decide_false, withV_some, aggO_some, ptrTo_eq, ↓aO_some, aO_some, ↓andB_true, andB_true, gz, gs, seqC, retC, skipC, exitC, blockC, condC, cells_agg, t1, hr.len, e1, e2, bv, h1, h2]
      rw [hx]; simp [h2']
  · have h1' : ¬ l.length = 1 := by omega
    simp only [r25_6, ↓opStep_eq, ↓reduceIte, tg_set, toTm_cons, toTm_nil, fieldPtr_ptr, Nat.add_zero, Nat.zero_add, Nat.reduceAdd, Nat.reduceEqDiff, Int.reduceEq, Int.reduceLT, Int.reduceLE, Int.reduceNe, ↓kO_some, ↓kA_some, ↓kH_some, kO_some, kA_some, kH_some, gd_true, gd_false, nthD_zero, nthD_succ, isB_true, isB_false, isB_undef, pickV_true, pickV_false, binV_add, binV_sub, binV_mul, binV_eql, binV_neq, binV_lss, binV_leq, binV_gtr, binV_geq, unV_not, nt, nf, Bool.false_eq_true, dt, df, decide_true, decide_false, withV_some, aggO_some, ptrTo_eq, ↓aO_some, aO_some, ↓andB_true, andB_true, gz, gs, seqC, retC, skipC, exitC, blockC, condC, cells_agg, t1, hr.len, h1]
    simp [h1']
theorem reg25_7 {b6 : Nat} {kd : Value} {g : Bool} (hr : Rd h v l) (t1 : tg tm 1 = v) (t6 : tg tm 6 = .pointer (some ⟨b6, 0, none⟩)) (t7 : tg tm 7 = .bool g) (hg : g = true → l.length = 1) (hb : Has h b6 (.rw [kd, .int .u8 0, .int .u8 0, noIv, .int .u64 0, .bool false, .string (strB [])])) :
    r25_7 call L tm [] h K = K .norm tm [] (h.put b6 (.rw [kd, .int .u8 0, .int .u8 0, noIv, .int .u64 0, .bool (g && decide ((l[0]?.getD 0).toNat = 1)), .string (strB [])])) := by
  have st := fun y : Bool => store_cell (o := 5) (s := none) (x := .bool y) hb (by simp) rfl rfl
  simp only [List.set_cons_succ, List.set_cons_zero] at st
  cases g
  · simp only [r25_7, ↓opStep_eq, ↓reduceIte, tg_set, toTm_cons, toTm_nil, fieldPtr_ptr, Nat.add_zero, Nat.zero_add, Nat.reduceAdd, Nat.reduceEqDiff, Int.reduceEq, Int.reduceLT, Int.reduceLE, Int.reduceNe, ↓kO_some, ↓kA_some, ↓kH_some, kO_some, kA_some, kH_some, gd_true, gd_false, nthD_zero, nthD_succ, isB_true, isB_false, isB_undef, pickV_true, pickV_false, binV_add, binV_sub, binV_mul, binV_eql, binV_neq, binV_lss, binV_leq, binV_gtr, binV_geq, unV_not, nt, nf, Bool.false_eq_true, dt, df, decide_true, decide_false, withV_some, aggO_some, ptrTo_eq, ↓aO_some, aO_some, ↓andB_true, andB_true, gz, gs, seqC, retC, skipC, exitC, blockC, condC, cells_agg, t1, t6, t7, st, Bool.false_and]
  · have h1' := hg rfl
    obtain ⟨x, hx⟩ : ∃ x, l[0]? = some x := ⟨l[0]'(by omega), List.getElem?_eq_getElem (by omega)⟩
    obtain ⟨b, o, e1, e2, _⟩ := hr.at hx
    have c0 : ((0 : Nat) : Int) = 0 := rfl
    rw [c0] at e1
    by_cases h2 : (x.toNat : Int) = 1
    · have h2' : x.toNat = 1 := by omega
      simp only [r25_7, ↓opStep_eq, ↓reduceIte, tg_set, toTm_cons, toTm_nil, fieldPtr_ptr, Nat.add_zero, Nat.zero_add, Nat.reduceAdd, Nat.reduceEqDiff, Int.reduceEq, Int.reduceLT, Int.reduceLE, Int.reduceNe, ↓kO_some, ↓kA_some, ↓kH_some, kO_some, kA_some, kH_some, gd_true, gd_false, nthD_zero, nthD_succ, isB_true, isB_false, isB_undef, pickV_true, pickV_false, binV_add, binV_sub, binV_mul, binV_eql, binV_neq, binV_lss, binV_leq, binV_gtr, binV_geq, unV_not, nt, nf, Bool.false_eq_true, dt, df, decide_true, decide_false, withV_some, aggO_some, ptrTo_eq, ↓aO_some, aO_some, ↓andB_true, andB_true, gz, gs, seqC, retC, skipC, exitC, blockC, condC, cells_agg, t1, t6, t7, e1, e2, bv, h2, st]
      rw [hx]; simp [h2']
    · have h2' : ¬ x.toNat = 1 := by omega
      simp only [r25_7, ↓opStep_eq, ↓reduceIte, tg_set, toTm_cons, toTm_nil, fieldPtr_ptr, Nat.add_zero, Nat.zero_add, Nat.reduceAdd, Nat.reduceEqDiff, Int.reduceEq, Int.reduceLT, Int.reduceLE, Int.reduceNe, ↓kO_some, ↓kA_some, ↓kH_some, kO_some, kA_some, kH_some, gd_true, gd_false, nthD_zero, nthD_succ, isB_true, isB_false, isB_undef, pickV_true, pickV_false, binV_add, binV_sub, binV_mul, binV_eql, binV_neq, binV_lss, binV_leq, binV_gtr, binV_geq, unV_not, nt, nf, Bool.false_eq_true, dt, df, decide_true, decide_false, withV_some, aggO_some, ptrTo_eq, ↓aO_some, aO_some, ↓andB_true, andB_true, gz, gs, seqC, retC, skipC, exitC, blockC, condC, cells_agg, t1, t6, t7, e1, e2, bv, h2, st]
      rw [hx]; simp [h2']
end

def InP (p : Option Ans) (g : Bool) (h : H) (av : Value) : Prop := match p with
  | none => g = false
  | some a => g = true ∧ Got h a av ∧ a.r.items.length ≤ 8 ∧ ∀ x ∈ a.r.items, x.ok
def OfP (p : Option Ans) (b : Bool) (h : H) (av : Value) : Prop := match p with
  | none => b = false
  | some a => b = mayB a ∧ Got h a av

/-- the end: a look at what was read -/
theorem end25 {L n : Nat} {tm : T Value} {h0 h : H} {b4 b6 : Nat} {g : Bool} {av : Value} {p : Option Ans} (hL : 100 < L) (t4 : tg tm 4 = .pointer (some ⟨b4, 0, none⟩)) (t6 : tg tm 6 = .pointer (some ⟨b6, 0, none⟩)) (t7 : tg tm 7 = .bool g)
    (hb4 : Has h b4 (.rw Z7)) (hne : b4 ≠ b6) {cs : List Value} (hav : av = .agg cs.toArray) (hb6 : Has h b6 (.rw cs)) (hsh : Shape7 av) (hp : InP p g h av) (k0 : Keep nobody h0 h) (hf4 : h0.next ≤ b4) :
    C ⟨seqC ⟨r25_11⟩ retC⟩ (CF L (n + 4)) L tm h fun e tm' h' => (e = .norm ∨ e = .ret) ∧ ∃ q, q25.f tm' h' = some q ∧ ∃ b, resOf q = .tuple [av, .bool b].toArray ∧ Keep nobody h0 h' ∧ OfP p b h' av := by
  subst hav
  obtain ⟨ds, e1, dl, d1⟩ := hsh
  have hds : cs = ds := by simpa using e1
  subst hds
  have kr := keep_room h 8
  have b4r := hb4.keep0 kr
  have b6r := hb6.keep0 kr
  have la : ∀ hx, Has hx b6 (.rw cs) → ∀ s, loadAgg 7 hx (.pointer (some ⟨b6, 0, s⟩)) = some (.agg cs.toArray) := fun hx hb s => load7 hb dl
  refine C.seq fun K hK => ?_
  have fin : ∀ (h' : H) (b : Bool), Keep nobody h h' → OfP p b h' (.agg cs.toArray) → K .norm (T.set tm 5 (.bool b)) [] (h'.put b4 (.rw cs)) = true := fun h' b k hq => by
    refine hK _ _ _ (C.ret ⟨.inr rfl, [.agg cs.toArray, .bool b], ?_, b, rfl, (k0.then k).trans (Keep.put _ _ _) fun c hc e => by omega, ?_⟩)
    · simp only [q25, ↓opStep_eq, ↓reduceIte, tg_set, toTm_cons, toTm_nil, fieldPtr_ptr, Nat.add_zero, Nat.zero_add, Nat.reduceAdd, Nat.reduceEqDiff, Int.reduceEq, Int.reduceLT, Int.reduceLE, Int.reduceNe, ↓kO_some, ↓kA_some, ↓kH_some, kO_some, kA_some, kH_some, gd_true, gd_false, nthD_zero, nthD_succ, isB_true, isB_false, isB_undef, pickV_true, pickV_false, binV_add, binV_sub, binV_mul, binV_eql, binV_neq, binV_lss, binV_leq, binV_gtr, binV_geq, unV_not, nt, nf, Bool.false_eq_true, dt, df, decide_true, decide_false, withV_some, aggO_some, ptrTo_eq, ↓aO_some, aO_some, ↓andB_true, andB_true, gz, gs, seqC, retC, skipC, exitC, blockC, condC, cells_agg, t4, load7 (Has.put (hb4.keep0 k).1) dl]
    · cases p with
      | none => exact hq
      | some a =>
        obtain ⟨q1, iv, q2, q3⟩ := hq
        exact ⟨q1, iv, q2, q3.keep (Keep.put _ _ _) fun c hc e => q3.ne (hb4.keep0 k) (e ▸ hc)⟩
  have st : ∀ h', Has h' b4 (.rw Z7) → storeV 7 h' (.pointer (some ⟨b4, 0, none⟩)) (.agg cs.toArray) = some (h'.put b4 (.rw cs)) := fun h' hb => by
    obtain ⟨ds, e1, _, _, e2⟩ := store7 (s := none) hb rfl ⟨cs, rfl, dl, d1⟩
    have : cs = ds := by simpa using e1
    rw [e2, this]
  cases g
  · have hpn : p = none := by
      cases p with
      | none => rfl
      | some a => exact absurd hp.1 (by decide)
    subst hpn
    simp only [r25_11, ↓opStep_eq, ↓reduceIte, tg_set, toTm_cons, toTm_nil, fieldPtr_ptr, Nat.add_zero, Nat.zero_add, Nat.reduceAdd, Nat.reduceEqDiff, Int.reduceEq, Int.reduceLT, Int.reduceLE, Int.reduceNe, ↓kO_some, ↓kA_some, ↓kH_some, kO_some, kA_some, kH_some, gd_true, gd_false, nthD_zero, nthD_succ, isB_true, isB_false, isB_undef, pickV_true, pickV_false, binV_add, binV_sub, binV_mul, binV_eql, binV_neq, binV_lss, binV_leq, binV_gtr, binV_geq, unV_not, nt, nf, Bool.false_eq_true, dt, df, decide_true, decide_false, withV_some, aggO_some, ptrTo_eq, ↓aO_some, aO_some, ↓andB_true, andB_true, gz, gs, seqC, retC, skipC, exitC, blockC, condC, cells_agg, t4, t6, t7, la _ b6r, ite2, st _ b4r]
    exact fin _ false kr rfl
  · cases p with
    | none => cases hp
    | some a =>
      obtain ⟨_, ⟨iv, hav, mi⟩, h8, oks⟩ := hp
      have hit : ItemsAt (⟨h.objs, h.next + 8⟩ : H) (withIv a iv).r.iv (withIv a iv).r.items := (mi.keep0 kr).items
      simp only [r25_11, ↓opStep_eq, ↓reduceIte, tg_set, toTm_cons, toTm_nil, fieldPtr_ptr, Nat.add_zero, Nat.zero_add, Nat.reduceAdd, Nat.reduceEqDiff, Int.reduceEq, Int.reduceLT, Int.reduceLE, Int.reduceNe, ↓kO_some, ↓kA_some, ↓kH_some, kO_some, kA_some, kH_some, gd_true, gd_false, nthD_zero, nthD_succ, isB_true, isB_false, isB_undef, pickV_true, pickV_false, binV_add, binV_sub, binV_mul, binV_eql, binV_neq, binV_lss, binV_leq, binV_gtr, binV_geq, unV_not, nt, nf, Bool.false_eq_true, dt, df, decide_true, decide_false, withV_some, aggO_some, ptrTo_eq, ↓aO_some, aO_some, ↓andB_true, andB_true, gz, gs, seqC, retC, skipC, exitC, blockC, condC, cells_agg, t4, t6, t7, la _ b6r, ite2]
      rw [hav]
      refine ref_may L (n + 1) (withIv a iv) _ hit (by show a.r.items.length < L; omega) (by show a.r.items.length < _; omega) (ans_ones mi.ones) _ fun r h2 hv => ?_
      obtain ⟨rfl, k2⟩ := hv
      have hO := hO_self (veq_ans hit)
      have la2 : loadAgg 7 h2 (.pointer (some ⟨b6, 0, none⟩)) = some (withIv a iv).v := by rw [la h2 (b6r.keep0 k2) none, hav]
      have st2 := st h2 (b4r.keep0 k2)
      rw [hav] at st2
      simp only [↓opStep_eq, ↓reduceIte, tg_set, toTm_cons, toTm_nil, fieldPtr_ptr, Nat.add_zero, Nat.zero_add, Nat.reduceAdd, Nat.reduceEqDiff, Int.reduceEq, Int.reduceLT, Int.reduceLE, Int.reduceNe, ↓kO_some, ↓kA_some, ↓kH_some, kO_some, kA_some, kH_some, gd_true, gd_false, nthD_zero, nthD_succ, isB_true, isB_false, isB_undef, pickV_true, pickV_false, binV_add, binV_sub, binV_mul, binV_eql, binV_neq, binV_lss, binV_leq, binV_gtr, binV_geq, unV_not, nt, nf, Bool.false_eq_true, dt, df, decide_true, decide_false, withV_some, aggO_some, ptrTo_eq, ↓aO_some, aO_some, ↓andB_true, andB_true, gz, gs, seqC, retC, skipC, exitC, blockC, condC, cells_agg, la2, hO, st2, may_iv]
      have := fin h2 (mayB a) (kr.then k2) ⟨rfl, iv, hav, mi.keep0 (kr.then k2)⟩
      exact this
end Go.Proofs.Ytpaolklbogakgaa
