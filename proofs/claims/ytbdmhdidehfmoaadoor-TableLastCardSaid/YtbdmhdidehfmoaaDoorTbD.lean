import Derived.Test.YtbdmhdidehfmoaaDoorTbC
set_option linter.unusedSimpArgs false
set_option linter.unusedVariables false
namespace Go.Proofs.YtbdmhdidehfmoaaDoor
open Go.Ev

theorem keep_room (h : H) (n : Nat) : Keep nobody h ⟨h.objs, h.next + n⟩ := ⟨Nat.le_add_right _ _, fun _ _ _ => rfl⟩
theorem wrap_i64 (n : Nat) (h : n < 9223372036854775808) : IntKind.i64.wrap (n : Int) = (n : Int) := by
  rw [wrap_eq] <;> simp [IntKind.min, IntKind.max, IntKind.bits, IntKind.signed] <;> omega
theorem bnd_nat (k : IntKind) (n d y : Nat) (h : n ≤ y) : bnd (some (.int k (n : Int))) d y = some n := by
  simp only [bnd, asNat_nat, Nat.ble_eq_true_of_le h]

def zE : List Value := [.int .i64 0, .string (strB []), .int .i64 0]

theorem open_len {cap len : Nat} (c : OpenC cap) (h : len ≤ 1000000) : Nat.ble len cap = true := by
  have := Nat.le_of_ble_eq_true c.1
  exact Nat.ble_eq_true_of_le (by unfold OPEN at this; omega)

theorem cellsE_erase (es : List Ent) (i : Nat) (hi : i < es.length) : cellsE (es.eraseIdx i) = (cellsE es).take (3 * i) ++ (cellsE es).drop (3 * (i + 1)) := by
  rw [cellsE_take, cellsE_drop, ← cellsE_append, List.eraseIdx_eq_take_drop_succ]

/-- what is behind an entry is copied down -/
theorem copy_down {O : Nat → Tag} {h : H} {tag : Tag} {es : List Ent} {b cap2 cap5 i : Nat} {cs : List Value} (hb : Has h b (.op cs 3)) (l : 3 * es.length ≤ cs.length) (t : cs.take (3 * es.length) = cellsE es) (o : O b = tag) (hi : i < es.length) (hsz : es.length ≤ 1000000) (c2 : OpenC cap2) (lb2 : es.length ≤ lbOf cap2) :
    ∃ cs1 cap1 h1, appendV 3 32 h (.slice (some ⟨b, 0, none⟩) i cap2) (.slice (some ⟨b, (i + 1) * 3, none⟩) (es.length - (i + 1)) cap5) = some (.slice (some ⟨b, 0, none⟩) (es.length - 1) cap1, h1) ∧ OpenC cap1 ∧ es.length ≤ lbOf cap1 ∧ Has h1 b (.op cs1 3) ∧ cs1.length = cs.length ∧ cs1.take (3 * (es.length - 1)) = cellsE (es.eraseIdx i) ∧ Keep (fun b => O b = tag) h h1 := by
  have hrow : h.row b ((i + 1) * 3) ((es.length - (i + 1)) * 3) = some ((cs.drop ((i + 1) * 3)).take ((es.length - (i + 1)) * 3)) := row_has hb rfl (by omega)
  have hnl : ((cs.drop ((i + 1) * 3)).take ((es.length - (i + 1)) * 3)).length = (es.length - (i + 1)) * 3 := by simp; omega
  have hnew : (cs.drop ((i + 1) * 3)).take ((es.length - (i + 1)) * 3) = cellsE (es.drop (i + 1)) := by
    rw [← cellsE_drop, ← t, List.drop_take]
    rw [show 3 * (i + 1) = (i + 1) * 3 by omega, show (es.length - (i + 1)) * 3 = 3 * es.length - (i + 1) * 3 by omega]
  have ap : appendV 3 32 h (.slice (some ⟨b, 0, none⟩) i cap2) (.slice (some ⟨b, (i + 1) * 3, none⟩) (es.length - (i + 1)) cap5) = appTo 3 32 h (some ⟨b, 0, none⟩) i cap2 (es.length - (i + 1)) ((cs.drop ((i + 1) * 3)).take ((es.length - (i + 1)) * 3)) := by
    unfold appendV
    simp only [lenV, firstV, hrow, hnl, Nat.beq_refl]
  rw [ap]
  have hpre : cs.take (3 * i) = (cellsE es).take (3 * i) := by rw [← t, List.take_take, Nat.min_eq_left (by omega)]
  have hon : Ev.ones ((cs.drop ((i + 1) * 3)).take ((es.length - (i + 1)) * 3)) = true := by rw [hnew]; exact cellsE_ones _
  generalize hnw : (cs.drop ((i + 1) * 3)).take ((es.length - (i + 1)) * 3) = new at *
  have her := cellsE_erase es i hi
  by_cases hz : es.length - (i + 1) = 0
  · have e0 : appTo 3 32 h (some ⟨b, 0, none⟩) i cap2 (es.length - (i + 1)) new = some (.slice (some ⟨b, 0, none⟩) i cap2, h) := by
      rw [hz]
      simp only [appTo, open_len c2 (show i ≤ 1000000 by omega)]
    have hii : i = es.length - 1 := by omega
    refine ⟨cs, cap2, h, by rw [e0, ← hii], c2, lb2, hb, rfl, ?_, .refl _ _⟩
    rw [← hii, hpre, her, List.drop_of_length_le (by rw [cellsE_len]; omega), List.append_nil]
  · obtain ⟨q, hq⟩ : ∃ q, es.length - (i + 1) = q + 1 := ⟨es.length - (i + 1) - 1, by omega⟩
    have e0 : appTo 3 32 h (some ⟨b, 0, none⟩) i cap2 (q + 1) new = appOpen 3 h ⟨b, 0, none⟩ i cap2 (q + 1) new := by
      unfold appTo
      simp only
      rw [Nat.ble_eq_true_of_le (show (i + (q + 1)) * 32 ≤ 140737488355328 by omega), Nat.ble_eq_true_of_le (show i + (q + 1) ≤ 9223372036854775807 by omega)]
      simp only [c2.1, Bool.and_self]
    have e3 := putAt_at cs (0 + i * 3) new (by rw [hnl]; omega)
    have e4 : appOpen 3 h ⟨b, 0, none⟩ i cap2 (q + 1) new = some (.slice (some ⟨b, 0, none⟩) (i + (q + 1)) (opCap (Nat.max (lbOf cap2) (i + (q + 1))) 3), h.put b (.op (cs.take (0 + i * 3) ++ new ++ cs.drop (0 + i * 3 + new.length)) 3)) := by
      unfold appOpen
      simp only [c2.2, hon, Bool.and_self, hb.2, e3]
    rw [hq, e0, e4]
    refine ⟨_, _, _, by rw [show i + (q + 1) = es.length - 1 by omega], openC _, ?_, .put hb.1, ?_, ?_, (Keep.put h b _).mono fun k _ e => by rw [e]; exact o⟩
    · rw [lbOf_opCap (by omega)]; exact Nat.le_trans lb2 (Nat.le_max_left _ _)
    · simp only [List.length_append, hnl, List.length_take, List.length_drop]; omega
    · rw [her, hnew, ← cellsE_drop, show 0 + i * 3 = 3 * i by omega, hpre]
      rw [List.take_append_of_le_length (by simp only [List.length_append, List.length_take, List.length_drop, cellsE_len]; omega), List.take_of_length_le (by simp only [List.length_append, List.length_take, List.length_drop, cellsE_len]; omega)]

/-- the row without one entry -/
theorem Own.delete {O : Nat → Tag} {h : H} {tag : Tag} {v : Value} {es : List Ent} (a : Own O h tag v es) {i : Nat} (hi : i < es.length) (hsz : es.length ≤ 1000000) :
    ∃ v1 v2 v5 v6 h1 v4 h2, sliceSl 3 v (some (.int .i64 (i : Int))) (some (.int .i64 ((i + 1 : Nat) : Int))) (some (.int .i64 (es.length : Int))) = some v1 ∧ sliceSl 3 v none (some (.int .i64 (i : Int))) none = some v2 ∧ sliceSl 3 v (some (.int .i64 ((i + 1 : Nat) : Int))) none none = some v5 ∧
      appendV 3 32 h v2 v5 = some (v6, h1) ∧ lenSl v6 = some (.int .i64 ((es.length - 1 : Nat) : Int)) ∧ sliceSl 3 v6 (some (.int .i64 ((es.length - 1 : Nat) : Int))) (some (.int .i64 (es.length : Int))) none = some v4 ∧ clearS zE h1 v4 = some h2 ∧
      Own O h2 tag v6 (es.eraseIdx i) ∧ Keep (fun b => O b = tag) h h2 := by
  rcases a with ⟨rfl, rfl⟩ | ⟨b, cap, cs, rfl, c, hb, m, l, t, o⟩
  · simp at hi
  have hel : (es.eraseIdx i).length = es.length - 1 := List.length_eraseIdx_of_lt hi
  have e1 : ∃ v1, sliceSl 3 (.slice (some ⟨b, 0, none⟩) es.length cap) (some (.int .i64 (i : Int))) (some (.int .i64 ((i + 1 : Nat) : Int))) (some (.int .i64 (es.length : Int))) = some v1 := by
    have hbn : bnds (some (.int .i64 (i : Int))) (some (.int .i64 ((i + 1 : Nat) : Int))) (some (.int .i64 (es.length : Int))) es.length es.length = some (i, i + 1, es.length) := by
      simp only [bnds]
      rw [bnd_nat _ _ _ _ (Nat.le_refl _)]; simp only
      rw [bnd_nat _ _ _ _ hi]; simp only
      rw [bnd_nat _ _ _ _ (Nat.le_succ i)]
    have hc : (Nat.beq (szOf cap) 3 && Nat.ble 1 es.length && Nat.ble es.length 9223372036854775807) = true := by
      rw [c.2, Nat.ble_eq_true_of_le (show 1 ≤ es.length by omega), Nat.ble_eq_true_of_le (show es.length ≤ 9223372036854775807 by omega)]; rfl
    have hn : Nat.beq es.length i = false := by rw [Bool.eq_false_iff]; intro e; have := Nat.eq_of_beq_eq_true e; omega
    simp only [sliceSl, c.1, hc, hbn, hn]
    exact ⟨_, rfl⟩
  obtain ⟨v1, e1⟩ := e1
  have e2 : sliceSl 3 (.slice (some ⟨b, 0, none⟩) es.length cap) none (some (.int .i64 (i : Int))) none = some (.slice (some ⟨b, 0, none⟩) i (opCap (Nat.max es.length (lbOf cap)) 3)) := by
    have hbn : bnds none (some (.int .i64 (i : Int))) none es.length (Nat.max es.length (lbOf cap)) = some (0, i, Nat.max es.length (lbOf cap)) := by
      simp only [bnds, bnd, asNat_nat]
      rw [Nat.ble_eq_true_of_le (Nat.le_trans (Nat.le_of_lt hi) (Nat.le_max_left _ _))]
    simp only [sliceSl, c.1, c.2, hbn, addOff, Nat.zero_mul, Nat.add_zero, Nat.sub_zero]
  have e5 : sliceSl 3 (.slice (some ⟨b, 0, none⟩) es.length cap) (some (.int .i64 ((i + 1 : Nat) : Int))) none none = some (.slice (some ⟨b, (i + 1) * 3, none⟩) (es.length - (i + 1)) (opCap (Nat.max es.length (lbOf cap) - (i + 1)) 3)) := by
    have hbn : bnds (some (.int .i64 ((i + 1 : Nat) : Int))) none none es.length (Nat.max es.length (lbOf cap)) = some (i + 1, es.length, Nat.max es.length (lbOf cap)) := by
      simp only [bnds]
      have h1 : ∀ d y, bnd none d y = some d := fun _ _ => rfl
      simp only [h1]
      rw [bnd_nat _ _ _ _ hi]
    simp only [sliceSl, c.1, c.2, hbn, addOff, Nat.zero_add]
  have c2 := openC (Nat.max es.length (lbOf cap))
  have lb2 : es.length ≤ lbOf (opCap (Nat.max es.length (lbOf cap)) 3) := by rw [lbOf_opCap (by omega)]; exact Nat.le_max_left _ _
  generalize opCap (Nat.max es.length (lbOf cap)) 3 = cap2 at *
  generalize opCap (Nat.max es.length (lbOf cap) - (i + 1)) 3 = cap5 at *
  have app := copy_down (O := O) (cap5 := cap5) hb l t o hi hsz c2 lb2
  obtain ⟨cs1, cap1, h1, e6, c1, lb1, hb1, hl1, t1, k1⟩ := app
  have hclr : ∃ v4 h2, sliceSl 3 (.slice (some ⟨b, 0, none⟩) (es.length - 1) cap1) (some (.int .i64 ((es.length - 1 : Nat) : Int))) (some (.int .i64 (es.length : Int))) none = some v4 ∧ clearS zE h1 v4 = some h2 ∧ ∃ cs2, Has h2 b (.op cs2 3) ∧ cs2.length = cs.length ∧ cs2.take (3 * (es.length - 1)) = cellsE (es.eraseIdx i) ∧ Keep (fun b => O b = tag) h1 h2 := by
    have hbn : bnds (some (.int .i64 ((es.length - 1 : Nat) : Int))) (some (.int .i64 (es.length : Int))) none (es.length - 1) (Nat.max (es.length - 1) (lbOf cap1)) = some (es.length - 1, es.length, Nat.max (es.length - 1) (lbOf cap1)) := by
      simp only [bnds]
      have h1 : ∀ d y, bnd none d y = some d := fun _ _ => rfl
      simp only [h1]
      rw [bnd_nat _ _ _ _ (Nat.le_trans lb1 (Nat.le_max_right _ _))]; simp only
      rw [bnd_nat _ _ _ _ (by omega)]
    have hz : repl zE 1 = zE := rfl
    refine ⟨.slice (some ⟨b, (es.length - 1) * 3, none⟩) 1 (opCap (Nat.max (es.length - 1) (lbOf cap1) - (es.length - 1)) 3), h1.put b (.op (cs1.take ((es.length - 1) * 3) ++ zE ++ cs1.drop ((es.length - 1) * 3 + 3)) 3), ?_, ?_, _, .put hb1.1, ?_, ?_, (Keep.put h1 b _).mono fun k _ e => by rw [e]; exact o⟩
    · simp only [sliceSl, c1.1, c1.2, hbn, addOff, Nat.zero_add]
      rw [show es.length - (es.length - 1) = 1 by omega]
    · simp only [clearS, H.write, hz]
      have h1 : Ev.ones zE = true := rfl
      rw [h1, hb1.2]
      simp only
      rw [putAt_at cs1 _ zE (by show _ + 3 ≤ _; omega)]
      rfl
    · simp only [List.length_append, List.length_take, List.length_drop]; show _ + 3 + _ = _; omega
    · rw [← t1, List.append_assoc, List.take_append_of_le_length (by simp; omega), List.take_take, Nat.min_eq_left (by omega)]
  obtain ⟨v4, h2, e7, e8, cs2, hb2, hl2, t2, k2⟩ := hclr
  refine ⟨v1, _, _, _, h1, v4, h2, e1, e2, e5, e6, rfl, e7, e8, .inr ⟨b, cap1, cs2, by rw [hel], c1, hb2, by rw [hl2]; exact m, by omega, by rw [hel]; exact t2, o⟩, k1.trans k2 fun _ _ h => h⟩

theorem delete_law (L n : Nat) {O : Nat → Tag} {h : H} {tag : Tag} {v : Value} {es : List Ent} (a : Own O h tag v es) {i : Nat} (hi : i < es.length) (hsz : es.length ≤ 1000000) :
    Sp (callF Tryd.prog (maskOf masks) outside NG L (n + 1)) 38 [v, .int .i64 (i : Int), .int .i64 ((i + 1 : Nat) : Int)] h fun r h' => Own O h' tag r (es.eraseIdx i) ∧ Keep (fun b => O b = tag) h h' := by
  refine Sp.body f38 (by simp) ?_
  unfold c38
  refine C.seq fun K hK => hK .norm _ _ (C.seq fun K hK => ?_)
  obtain ⟨v1, _, _, _, _, _, _, e1, _⟩ := a.delete hi hsz
  simp only [↓opStep_eq, ↓reduceIte, tg_set, toTm_cons, toTm_nil, fieldPtr_ptr, Nat.add_zero, Nat.zero_add, Nat.reduceAdd, Nat.reduceEqDiff, Int.reduceEq, Int.reduceLT, Int.reduceLE, Int.reduceNe, ↓kO_some, ↓kA_some, ↓kH_some, kO_some, kA_some, kH_some, gd_true, gd_false, nthD_zero, nthD_succ, isB_true, isB_false, isB_undef, pickV_true, pickV_false, binV_add, binV_sub, binV_mul, binV_eql, binV_neq, binV_lss, binV_leq, binV_gtr, binV_geq, unV_not, nt, nf, Bool.false_eq_true, dt, df, decide_true, decide_false, withV_some, aggO_some, ptrTo_eq, ↓aO_some, aO_some, ↓andB_true, andB_true, gz, gs, seqC, retC, skipC, exitC, blockC, condC, cells_agg, r38_1, a.len, e1]
  have hne : ¬ (i : Int) = ((i + 1 : Nat) : Int) := by omega
  refine hK _ _ _ (C.seq (C.seq fun K hK => ?_))
  simp only [↓opStep_eq, ↓reduceIte, tg_set, toTm_cons, toTm_nil, fieldPtr_ptr, Nat.add_zero, Nat.zero_add, Nat.reduceAdd, Nat.reduceEqDiff, Int.reduceEq, Int.reduceLT, Int.reduceLE, Int.reduceNe, ↓kO_some, ↓kA_some, ↓kH_some, kO_some, kA_some, kH_some, gd_true, gd_false, nthD_zero, nthD_succ, isB_true, isB_false, isB_undef, pickV_true, pickV_false, binV_add, binV_sub, binV_mul, binV_eql, binV_neq, binV_lss, binV_leq, binV_gtr, binV_geq, unV_not, nt, nf, Bool.false_eq_true, dt, df, decide_true, decide_false, withV_some, aggO_some, ptrTo_eq, ↓aO_some, aO_some, ↓andB_true, andB_true, gz, gs, seqC, retC, skipC, exitC, blockC, condC, cells_agg, r38_2, hne]
  refine hK _ _ _ (C.cond false (by simp only [↓opStep_eq, ↓reduceIte, tg_set, toTm_cons, toTm_nil, fieldPtr_ptr, Nat.add_zero, Nat.zero_add, Nat.reduceAdd, Nat.reduceEqDiff, Int.reduceEq, Int.reduceLT, Int.reduceLE, Int.reduceNe, ↓kO_some, ↓kA_some, ↓kH_some, kO_some, kA_some, kH_some, gd_true, gd_false, nthD_zero, nthD_succ, isB_true, isB_false, isB_undef, pickV_true, pickV_false, binV_add, binV_sub, binV_mul, binV_eql, binV_neq, binV_lss, binV_leq, binV_gtr, binV_geq, unV_not, nt, nf, Bool.false_eq_true, dt, df, decide_true, decide_false, withV_some, aggO_some, ptrTo_eq, ↓aO_some, aO_some, ↓andB_true, andB_true, gz, gs, seqC, retC, skipC, exitC, blockC, condC, cells_agg]) (fun g => by cases g) fun g => C.skip ?_)
  refine C.seq fun K hK => ?_
  simp only [↓opStep_eq, ↓reduceIte, tg_set, toTm_cons, toTm_nil, fieldPtr_ptr, Nat.add_zero, Nat.zero_add, Nat.reduceAdd, Nat.reduceEqDiff, Int.reduceEq, Int.reduceLT, Int.reduceLE, Int.reduceNe, ↓kO_some, ↓kA_some, ↓kH_some, kO_some, kA_some, kH_some, gd_true, gd_false, nthD_zero, nthD_succ, isB_true, isB_false, isB_undef, pickV_true, pickV_false, binV_add, binV_sub, binV_mul, binV_eql, binV_neq, binV_lss, binV_leq, binV_gtr, binV_geq, unV_not, nt, nf, Bool.false_eq_true, dt, df, decide_true, decide_false, withV_some, aggO_some, ptrTo_eq, ↓aO_some, aO_some, ↓andB_true, andB_true, gz, gs, seqC, retC, skipC, exitC, blockC, condC, cells_agg, r38_4, a.len]
  refine hK _ _ _ (C.seq fun K hK => ?_)
  have kr := keep_room h 8
  obtain ⟨_, v2, v5, v6, h1, v4, h2, _, e2, e5, e6, el, e7, e8, own, k⟩ := (a.keep kr (O' := O) fun _ _ h => ⟨id, h⟩).delete hi hsz
  simp only [↓opStep_eq, ↓reduceIte, tg_set, toTm_cons, toTm_nil, fieldPtr_ptr, Nat.add_zero, Nat.zero_add, Nat.reduceAdd, Nat.reduceEqDiff, Int.reduceEq, Int.reduceLT, Int.reduceLE, Int.reduceNe, ↓kO_some, ↓kA_some, ↓kH_some, kO_some, kA_some, kH_some, gd_true, gd_false, nthD_zero, nthD_succ, isB_true, isB_false, isB_undef, pickV_true, pickV_false, binV_add, binV_sub, binV_mul, binV_eql, binV_neq, binV_lss, binV_leq, binV_gtr, binV_geq, unV_not, nt, nf, Bool.false_eq_true, dt, df, decide_true, decide_false, withV_some, aggO_some, ptrTo_eq, ↓aO_some, aO_some, ↓andB_true, andB_true, gz, gs, seqC, retC, skipC, exitC, blockC, condC, cells_agg, r38_5, e2, e5, e6]
  refine hK _ _ _ (C.seq fun K hK => ?_)
  have e8' : clearS [(.int .i64 (0)), (.string (strB [])), (.int .i64 (0))] h1 v4 = some h2 := e8
  simp only [↓opStep_eq, ↓reduceIte, tg_set, toTm_cons, toTm_nil, fieldPtr_ptr, Nat.add_zero, Nat.zero_add, Nat.reduceAdd, Nat.reduceEqDiff, Int.reduceEq, Int.reduceLT, Int.reduceLE, Int.reduceNe, ↓kO_some, ↓kA_some, ↓kH_some, kO_some, kA_some, kH_some, gd_true, gd_false, nthD_zero, nthD_succ, isB_true, isB_false, isB_undef, pickV_true, pickV_false, binV_add, binV_sub, binV_mul, binV_eql, binV_neq, binV_lss, binV_leq, binV_gtr, binV_geq, unV_not, nt, nf, Bool.false_eq_true, dt, df, decide_true, decide_false, withV_some, aggO_some, ptrTo_eq, ↓aO_some, aO_some, ↓andB_true, andB_true, gz, gs, seqC, retC, skipC, exitC, blockC, condC, cells_agg, r38_6, el, e7, e8']
  refine hK _ _ _ (C.seq fun K hK => hK .norm _ _ (C.ret ⟨.inr rfl, _, rfl, ?_, ?_⟩))
  · simp only [↓opStep_eq, ↓reduceIte, tg_set, toTm_cons, toTm_nil, fieldPtr_ptr, Nat.add_zero, Nat.zero_add, Nat.reduceAdd, Nat.reduceEqDiff, Int.reduceEq, Int.reduceLT, Int.reduceLE, Int.reduceNe, ↓kO_some, ↓kA_some, ↓kH_some, kO_some, kA_some, kH_some, gd_true, gd_false, nthD_zero, nthD_succ, isB_true, isB_false, isB_undef, pickV_true, pickV_false, binV_add, binV_sub, binV_mul, binV_eql, binV_neq, binV_lss, binV_leq, binV_gtr, binV_geq, unV_not, nt, nf, Bool.false_eq_true, dt, df, decide_true, decide_false, withV_some, aggO_some, ptrTo_eq, ↓aO_some, aO_some, ↓andB_true, andB_true, gz, gs, seqC, retC, skipC, exitC, blockC, condC, cells_agg, resOf]; exact own
  · exact (kr.mono fun _ _ h => h.elim).trans k fun _ _ h => h
end Go.Proofs.YtbdmhdidehfmoaaDoor
