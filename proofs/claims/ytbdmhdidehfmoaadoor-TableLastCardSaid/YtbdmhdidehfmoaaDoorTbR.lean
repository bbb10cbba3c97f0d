import Derived.Test.YtbdmhdidehfmoaaDoorTbQ
set_option linter.unusedSimpArgs false
set_option linter.unusedVariables false
namespace Go.Proofs.YtbdmhdidehfmoaaDoor
open Go.Ev

theorem erase_mem {es : List Ent} {j : Nat} : ∀ e' ∈ es.eraseIdx j, ∃ e0 ∈ es, e0.t = e'.t ∧ e0.k = e'.k := fun e' he' => ⟨e', List.mem_of_mem_eraseIdx he', rfl, rfl⟩
theorem Good.del_now {N : Nat} {now old : List (List Ent)} {a : Nat} (g : Good N now old a) {i j : Nat} {es : List Ent} {e : Ent} (h : now[i]? = some es) (hj : es[j]? = some e) : Good N (now.set i (es.eraseIdx j)) old a ∧ now.flatten.length = (now.set i (es.eraseIdx j)).flatten.length + 1 ∧ (now.flatten ++ old.flatten).Perm (e :: ((now.set i (es.eraseIdx j)).flatten ++ old.flatten)) := by
  have p := flat_set h (erase_perm hj)
  have hl := p.length_eq
  rw [List.length_cons] at hl
  have P : (now.flatten ++ old.flatten).Perm (e :: ((now.set i (es.eraseIdx j)).flatten ++ old.flatten)) := by have := p.append_right old.flatten; exact this
  have hc := g.cnt
  refine ⟨⟨hash_set g.hn h fun e' he' => .inl (erase_mem e' he'), g.ho, g.at_, by rw [List.length_set]; exact g.pos, by rw [List.length_set]; exact g.len, g.olen, ?_, by omega⟩, hl, P⟩
  have u := (P.map Ent.key).nodup_iff.1 g.uniq
  rw [List.map_cons, List.nodup_cons] at u
  exact u.2
theorem Good.del_old {N : Nat} {now old : List (List Ent)} {a : Nat} (g : Good N now old a) {i j : Nat} {es : List Ent} {e : Ent} (h : old[i]? = some es) (hj : es[j]? = some e) : Good N now (old.set i (es.eraseIdx j)) a ∧ old.flatten.length = (old.set i (es.eraseIdx j)).flatten.length + 1 ∧ (now.flatten ++ old.flatten).Perm (e :: (now.flatten ++ (old.set i (es.eraseIdx j)).flatten)) := by
  have p := flat_set h (erase_perm hj)
  have hl := p.length_eq
  rw [List.length_cons] at hl
  have P : (now.flatten ++ old.flatten).Perm (e :: (now.flatten ++ (old.set i (es.eraseIdx j)).flatten)) := (p.append_left _).trans List.perm_middle
  have hc := g.cnt
  refine ⟨⟨g.hn, hash_set g.ho h fun e' he' => .inl (erase_mem e' he'), fun i' es' hi he => ?_, g.pos, g.len, by rw [List.length_set]; exact g.olen, ?_, by omega⟩, hl, P⟩
  · by_cases hii : i = i'
    · subst hii
      have := g.at_ _ _ hi h
      rw [this] at hj; simp at hj
    · rw [List.getElem?_set_ne hii] at he
      exact g.at_ _ _ hi he
  · have u := (P.map Ent.key).nodup_iff.1 g.uniq
    rw [List.map_cons, List.nodup_cons] at u
    exact u.2

def DelR (l : List Ent) (t : Int) (k : ByteArray) (d : Bool) : Prop := (d = true ∧ ∃ e ∈ l, Is t k e) ∨ (d = false ∧ ∀ e ∈ l, ¬ Is t k e)

theorem del_T (L n N : Nat) (hN : N ≤ 100000) (hL : 300000 < L) {O : Nat → Tag} {h : H} {b : Nat} {l : List Ent} {m0 : Nat} (st : St N O h b l m0) {t : Int} {k : ByteArray} (hv : validN t k) :
    Sp (CF L (n + 5)) 10 [.pointer (some ⟨b, 0, none⟩), nameV t k] h fun r h' => ∃ O' mv d, St N O' h' b (without l t k) mv ∧ mv ≤ 4 ∧ Fr O h O' h' ∧ r = .tuple [.bool d, .int .i64 0].toArray ∧ DelR l t k d := by
  refine Sp.body f10 (by simp) ?_
  unfold c10
  have k1 := Keep.new h (.rw [.int .i64 t, .string k])
  have b1 := Has.new h (.rw [.int .i64 t, .string k])
  have o1 := st.far (Nat.le_refl h.next)
  have st1 := st.keep0 k1
  refine C.seq fun K hK => ?_
  simp only [↓opStep_eq, ↓reduceIte, tg_set, toTm_cons, toTm_nil, fieldPtr_ptr, Nat.add_zero, Nat.zero_add, Nat.reduceAdd, Nat.reduceEqDiff, Int.reduceEq, Int.reduceLT, Int.reduceLE, Int.reduceNe, ↓kO_some, ↓kA_some, ↓kH_some, kO_some, kA_some, kH_some, gd_true, gd_false, nthD_zero, nthD_succ, isB_true, isB_false, isB_undef, pickV_true, pickV_false, binV_add, binV_sub, binV_mul, binV_eql, binV_neq, binV_lss, binV_leq, binV_gtr, binV_geq, unV_not, nt, nf, Bool.false_eq_true, dt, df, decide_true, decide_false, withV_some, aggO_some, ptrTo_eq, ↓aO_some, aO_some, ↓andB_true, andB_true, gz, gs, seqC, retC, skipC, exitC, blockC, condC, cells_agg, r10_0, cells_agg]
  generalize h.new (.rw [.int .i64 t, .string k]) = h1 at *
  have lda : ∀ hx, Has hx h.next (.rw [.int .i64 t, .string k]) → ∀ s, loadAgg 2 hx (.pointer (some ⟨h.next, 0, s⟩)) = some (nameV t k) := fun hx b s => loadAgg_has b rfl (by simp)
  refine hK _ _ _ (C.seq (C.seq fun K hK => ?_))
  obtain ⟨_, _, _, _, _, _, hb, ob⟩ := st1.has
  simp only [↓opStep_eq, ↓reduceIte, tg_set, toTm_cons, toTm_nil, fieldPtr_ptr, Nat.add_zero, Nat.zero_add, Nat.reduceAdd, Nat.reduceEqDiff, Int.reduceEq, Int.reduceLT, Int.reduceLE, Int.reduceNe, ↓kO_some, ↓kA_some, ↓kH_some, kO_some, kA_some, kH_some, gd_true, gd_false, nthD_zero, nthD_succ, isB_true, isB_false, isB_undef, pickV_true, pickV_false, binV_add, binV_sub, binV_mul, binV_eql, binV_neq, binV_lss, binV_leq, binV_gtr, binV_geq, unV_not, nt, nf, Bool.false_eq_true, dt, df, decide_true, decide_false, withV_some, aggO_some, ptrTo_eq, ↓aO_some, aO_some, ↓andB_true, andB_true, gz, gs, seqC, retC, skipC, exitC, blockC, condC, cells_agg, r10_1, lda _ b1]
  refine asked_law L (n + 3) hb t k _ fun r h2 hq => ?_
  obtain ⟨rfl, k2⟩ := hq
  rw [if_pos hv]
  have b2 := b1.keep0 k2
  have st2 := st1.keep0 k2
  refine hK _ _ _ (C.seq fun K hK => ?_)
  simp only [↓opStep_eq, ↓reduceIte, tg_set, toTm_cons, toTm_nil, fieldPtr_ptr, Nat.add_zero, Nat.zero_add, Nat.reduceAdd, Nat.reduceEqDiff, Int.reduceEq, Int.reduceLT, Int.reduceLE, Int.reduceNe, ↓kO_some, ↓kA_some, ↓kH_some, kO_some, kA_some, kH_some, gd_true, gd_false, nthD_zero, nthD_succ, isB_true, isB_false, isB_undef, pickV_true, pickV_false, binV_add, binV_sub, binV_mul, binV_eql, binV_neq, binV_lss, binV_leq, binV_gtr, binV_geq, unV_not, nt, nf, Bool.false_eq_true, dt, df, decide_true, decide_false, withV_some, aggO_some, ptrTo_eq, ↓aO_some, aO_some, ↓andB_true, andB_true, gz, gs, seqC, retC, skipC, exitC, blockC, condC, cells_agg, Bool.true_or, Bool.false_or, Bool.or_true, Bool.or_false, Bool.true_and, Bool.false_and, Bool.and_true, Bool.and_false, r10_2]
  refine hK _ _ _ (C.cond false (by simp only [↓opStep_eq, ↓reduceIte, tg_set, toTm_cons, toTm_nil, fieldPtr_ptr, Nat.add_zero, Nat.zero_add, Nat.reduceAdd, Nat.reduceEqDiff, Int.reduceEq, Int.reduceLT, Int.reduceLE, Int.reduceNe, ↓kO_some, ↓kA_some, ↓kH_some, kO_some, kA_some, kH_some, gd_true, gd_false, nthD_zero, nthD_succ, isB_true, isB_false, isB_undef, pickV_true, pickV_false, binV_add, binV_sub, binV_mul, binV_eql, binV_neq, binV_lss, binV_leq, binV_gtr, binV_geq, unV_not, nt, nf, Bool.false_eq_true, dt, df, decide_true, decide_false, withV_some, aggO_some, ptrTo_eq, ↓aO_some, aO_some, ↓andB_true, andB_true, gz, gs, seqC, retC, skipC, exitC, blockC, condC, cells_agg]) (fun g => by cases g) fun g => C.skip (C.seq fun K hK => ?_))
  simp only [↓opStep_eq, ↓reduceIte, tg_set, toTm_cons, toTm_nil, fieldPtr_ptr, Nat.add_zero, Nat.zero_add, Nat.reduceAdd, Nat.reduceEqDiff, Int.reduceEq, Int.reduceLT, Int.reduceLE, Int.reduceNe, ↓kO_some, ↓kA_some, ↓kH_some, kO_some, kA_some, kH_some, gd_true, gd_false, nthD_zero, nthD_succ, isB_true, isB_false, isB_undef, pickV_true, pickV_false, binV_add, binV_sub, binV_mul, binV_eql, binV_neq, binV_lss, binV_leq, binV_gtr, binV_geq, unV_not, nt, nf, Bool.false_eq_true, dt, df, decide_true, decide_false, withV_some, aggO_some, ptrTo_eq, ↓aO_some, aO_some, ↓andB_true, andB_true, gz, gs, seqC, retC, skipC, exitC, blockC, condC, cells_agg, r10_4]
  refine step_law L n N hN hL st2 _ fun r h3 hq => ?_
  obtain ⟨O3, mv, st3, hmv, fr3⟩ := hq
  have fr := (Fr.of0 (O := O) (k1.then k2)).trans fr3
  have b3 := fr3.has b2 o1
  have hlk := hv.2.2.2
  refine hK _ _ _ (C.seq fun K hK => ?_)
  have kr := keep_room h3 14
  obtain ⟨now, old, a, v1, v2, tab, gg, pm⟩ := st3.keep0 kr
  have hcnt := gg.cnt
  have hu : (l.map Ent.key).Nodup := (pm.map _).nodup_iff.1 gg.uniq
  have notab : ∀ s : Bool, Tag.tab = .base s ∨ (∃ i, Tag.tab = .row s i) → False := fun s h => by rcases h with h | ⟨_, h⟩ <;> cases h
  simp only [↓opStep_eq, ↓reduceIte, tg_set, toTm_cons, toTm_nil, fieldPtr_ptr, Nat.add_zero, Nat.zero_add, Nat.reduceAdd, Nat.reduceEqDiff, Int.reduceEq, Int.reduceLT, Int.reduceLE, Int.reduceNe, ↓kO_some, ↓kA_some, ↓kH_some, kO_some, kA_some, kH_some, gd_true, gd_false, nthD_zero, nthD_succ, isB_true, isB_false, isB_undef, pickV_true, pickV_false, binV_add, binV_sub, binV_mul, binV_eql, binV_neq, binV_lss, binV_leq, binV_gtr, binV_geq, unV_not, nt, nf, Bool.false_eq_true, dt, df, decide_true, decide_false, withV_some, aggO_some, ptrTo_eq, ↓aO_some, aO_some, ↓andB_true, andB_true, gz, gs, seqC, retC, skipC, exitC, blockC, condC, cells_agg, r10_5, nilChk_some, lda _ (b3.keep0 kr)]
  refine del_law L (n + 1) N (o := 0) (m := (now.flatten.length : Int)) tab.hb (by simp [tcells]) rfl rfl tab.ob tab.now t k (fun i es he => Nat.le_trans (row_le he) (show now.flatten.length ≤ N by omega)) (by omega) (by omega) (by omega) (by omega) (by omega) _ fun r h4 hq => ?_
  rcases hq with ⟨rfl, k4, no1⟩ | ⟨B, vs', es, j, e, rfl, hv1, obB, h1e, h2e, het, hek, rp', hb', kd⟩
  · have no1' := no_flat gg.hn no1
    have tab4 := tab.keep0 k4
    have k4' := kr.then k4
    simp only [↓opStep_eq, ↓reduceIte, tg_set, toTm_cons, toTm_nil, fieldPtr_ptr, Nat.add_zero, Nat.zero_add, Nat.reduceAdd, Nat.reduceEqDiff, Int.reduceEq, Int.reduceLT, Int.reduceLE, Int.reduceNe, ↓kO_some, ↓kA_some, ↓kH_some, kO_some, kA_some, kH_some, gd_true, gd_false, nthD_zero, nthD_succ, isB_true, isB_false, isB_undef, pickV_true, pickV_false, binV_add, binV_sub, binV_mul, binV_eql, binV_neq, binV_lss, binV_leq, binV_gtr, binV_geq, unV_not, nt, nf, Bool.false_eq_true, dt, df, decide_true, decide_false, withV_some, aggO_some, ptrTo_eq, ↓aO_some, aO_some, ↓andB_true, andB_true, gz, gs, seqC, retC, skipC, exitC, blockC, condC, cells_agg, ite2, nilChk_some, lda _ (b3.keep0 k4')]
    refine del_law L (n + 1) N (o := 2) (m := (old.flatten.length : Int)) tab4.hb (by simp [tcells]) rfl rfl tab4.ob tab4.old t k (fun i es he => Nat.le_trans (row_le he) (show old.flatten.length ≤ N by omega)) (by omega) (by omega) (by omega) (by omega) (by omega) _ fun r h5 hq => ?_
    rcases hq with ⟨rfl, k5, no2⟩ | ⟨B, vs', es, j, e, rfl, hv1, obB, h1e, h2e, het, hek, rp', hb', kd⟩
    · have no2' := no_flat gg.ho no2
      have hno : ∀ e ∈ l, ¬ Is t k e := fun e he hm => by
        have := pm.mem_iff.2 he
        rw [List.mem_append] at this
        rcases this with h | h
        · exact no1' e h hm
        · exact no2' e h hm
      refine hK _ _ _ (C.ret ⟨.inr rfl, _, rfl, O3, mv, false, ?_, hmv, fr.trans (Fr.of0 (k4'.then k5)), by simp only [↓opStep_eq, ↓reduceIte, tg_set, toTm_cons, toTm_nil, fieldPtr_ptr, Nat.add_zero, Nat.zero_add, Nat.reduceAdd, Nat.reduceEqDiff, Int.reduceEq, Int.reduceLT, Int.reduceLE, Int.reduceNe, ↓kO_some, ↓kA_some, ↓kH_some, kO_some, kA_some, kH_some, gd_true, gd_false, nthD_zero, nthD_succ, isB_true, isB_false, isB_undef, pickV_true, pickV_false, binV_add, binV_sub, binV_mul, binV_eql, binV_neq, binV_lss, binV_leq, binV_gtr, binV_geq, unV_not, nt, nf, Bool.false_eq_true, dt, df, decide_true, decide_false, withV_some, aggO_some, ptrTo_eq, ↓aO_some, aO_some, ↓andB_true, andB_true, gz, gs, seqC, retC, skipC, exitC, blockC, condC, cells_agg, resOf], .inr ⟨rfl, hno⟩⟩)
      rw [without_none hno]
      exact ⟨now, old, a, v1, v2, tab4.keep0 k5, gg, pm⟩
    · obtain ⟨g6, n6, p6⟩ := gg.del_old h1e h2e
      have hle : 0 < old.length ∧ old.length ≤ 1000000 := by
        have hi := (List.getElem?_eq_some_iff.1 h1e).1
        rcases tab.old with ⟨_, h⟩ | ⟨_, _, _, _, _, h⟩
        · rw [h] at hi; simp at hi
        · exact ⟨by omega, h⟩
      have kn : ∀ c, c < h4.next → (O3 c = .base false ∨ ∃ i, O3 c = .row false i) → ¬ (O3 c = .row true (idx t k old.length) ∨ c = B ∨ c = b) ∧ O3 c = O3 c := fun c _ ho => ⟨(by
        rintro (e | e | e)
        · rw [e] at ho; rcases ho with ho | ⟨_, ho⟩ <;> cases ho
        · rw [e, obB] at ho; rcases ho with ho | ⟨_, ho⟩ <;> cases ho
        · rw [e, tab.ob] at ho; exact notab _ ho), rfl⟩
      have frd : Fr O3 h4 O3 h5 := ⟨kd.mono fun c _ e => (by
        rcases e with e | e | e
        · rw [e]; exact Tag.noConfusion
        · rw [e, obB]; exact Tag.noConfusion
        · rw [e, tab.ob]; exact Tag.noConfusion), fun _ _ h => h⟩
      refine hK _ _ _ (C.ret ⟨.inr rfl, _, rfl, O3, mv, true, ⟨now, _, a, v1, v2, ⟨?_, tab.ob, tab4.now.keep kd kn, .inr ⟨B, vs', by rw [List.length_set]; exact hv1, rp', by rw [List.length_set]; exact hle.1, by rw [List.length_set]; exact hle.2⟩, fun c hc => tab4.far c (Nat.le_trans kd.next hc)⟩, g6, ?_⟩, hmv, fr.trans ((Fr.of0 k4').trans frd), by simp only [↓opStep_eq, ↓reduceIte, tg_set, toTm_cons, toTm_nil, fieldPtr_ptr, Nat.add_zero, Nat.zero_add, Nat.reduceAdd, Nat.reduceEqDiff, Int.reduceEq, Int.reduceLT, Int.reduceLE, Int.reduceNe, ↓kO_some, ↓kA_some, ↓kH_some, kO_some, kA_some, kH_some, gd_true, gd_false, nthD_zero, nthD_succ, isB_true, isB_false, isB_undef, pickV_true, pickV_false, binV_add, binV_sub, binV_mul, binV_eql, binV_neq, binV_lss, binV_leq, binV_gtr, binV_geq, unV_not, nt, nf, Bool.false_eq_true, dt, df, decide_true, decide_false, withV_some, aggO_some, ptrTo_eq, ↓aO_some, aO_some, ↓andB_true, andB_true, gz, gs, seqC, retC, skipC, exitC, blockC, condC, cells_agg, resOf], .inl ⟨rfl, e, pm.mem_iff.1 (List.mem_append_right _ (flat_mem h1e (List.mem_of_getElem? h2e))), het, hek⟩⟩)
      · have e1 : (old.flatten.length : Int) - 1 = ((old.set (idx t k old.length) (es.eraseIdx j)).flatten.length : Int) := by omega
        rw [e1] at hb'
        exact hb'
      · exact (without_of (pm.symm.trans p6) ⟨het, hek⟩ hu).symm
  · obtain ⟨g6, n6, p6⟩ := gg.del_now h1e h2e
    have hle : 0 < now.length ∧ now.length ≤ 1000000 := by
      have hi := (List.getElem?_eq_some_iff.1 h1e).1
      rcases tab.now with ⟨_, h⟩ | ⟨_, _, _, _, _, h⟩
      · rw [h] at hi; simp at hi
      · exact ⟨by omega, h⟩
    have kn : ∀ c, c < (⟨h3.objs, h3.next + 14⟩ : H).next → (O3 c = .base true ∨ ∃ i, O3 c = .row true i) → ¬ (O3 c = .row false (idx t k now.length) ∨ c = B ∨ c = b) ∧ O3 c = O3 c := fun c _ ho => ⟨(by
      rintro (e | e | e)
      · rw [e] at ho; rcases ho with ho | ⟨_, ho⟩ <;> cases ho
      · rw [e, obB] at ho; rcases ho with ho | ⟨_, ho⟩ <;> cases ho
      · rw [e, tab.ob] at ho; exact notab _ ho), rfl⟩
    have frd : Fr O3 (⟨h3.objs, h3.next + 14⟩ : H) O3 h4 := ⟨kd.mono fun c _ e => (by
      rcases e with e | e | e
      · rw [e]; exact Tag.noConfusion
      · rw [e, obB]; exact Tag.noConfusion
      · rw [e, tab.ob]; exact Tag.noConfusion), fun _ _ h => h⟩
    simp only [↓opStep_eq, ↓reduceIte, tg_set, toTm_cons, toTm_nil, fieldPtr_ptr, Nat.add_zero, Nat.zero_add, Nat.reduceAdd, Nat.reduceEqDiff, Int.reduceEq, Int.reduceLT, Int.reduceLE, Int.reduceNe, ↓kO_some, ↓kA_some, ↓kH_some, kO_some, kA_some, kH_some, gd_true, gd_false, nthD_zero, nthD_succ, isB_true, isB_false, isB_undef, pickV_true, pickV_false, binV_add, binV_sub, binV_mul, binV_eql, binV_neq, binV_lss, binV_leq, binV_gtr, binV_geq, unV_not, nt, nf, Bool.false_eq_true, dt, df, decide_true, decide_false, withV_some, aggO_some, ptrTo_eq, ↓aO_some, aO_some, ↓andB_true, andB_true, gz, gs, seqC, retC, skipC, exitC, blockC, condC, cells_agg, ite2]
    refine hK _ _ _ (C.ret ⟨.inr rfl, _, rfl, O3, mv, true, ⟨_, old, a, v1, v2, ⟨?_, tab.ob, .inr ⟨B, vs', by rw [List.length_set]; exact hv1, rp', by rw [List.length_set]; exact hle.1, by rw [List.length_set]; exact hle.2⟩, tab.old.keep kd kn, fun c hc => tab.far c (Nat.le_trans kd.next hc)⟩, g6, ?_⟩, hmv, fr.trans ((Fr.of0 kr).trans frd), by simp only [↓opStep_eq, ↓reduceIte, tg_set, toTm_cons, toTm_nil, fieldPtr_ptr, Nat.add_zero, Nat.zero_add, Nat.reduceAdd, Nat.reduceEqDiff, Int.reduceEq, Int.reduceLT, Int.reduceLE, Int.reduceNe, ↓kO_some, ↓kA_some, ↓kH_some, kO_some, kA_some, kH_some, gd_true, gd_false, nthD_zero, nthD_succ, isB_true, isB_false, isB_undef, pickV_true, pickV_false, binV_add, binV_sub, binV_mul, binV_eql, binV_neq, binV_lss, binV_leq, binV_gtr, binV_geq, unV_not, nt, nf, Bool.false_eq_true, dt, df, decide_true, decide_false, withV_some, aggO_some, ptrTo_eq, ↓aO_some, aO_some, ↓andB_true, andB_true, gz, gs, seqC, retC, skipC, exitC, blockC, condC, cells_agg, resOf], .inl ⟨rfl, e, pm.mem_iff.1 (List.mem_append_left _ (flat_mem h1e (List.mem_of_getElem? h2e))), het, hek⟩⟩)
    · have e1 : (now.flatten.length : Int) - 1 = ((now.set (idx t k now.length) (es.eraseIdx j)).flatten.length : Int) := by omega
      rw [e1] at hb'
      exact hb'
    · exact (without_of (pm.symm.trans p6) ⟨het, hek⟩ hu).symm
end Go.Proofs.YtbdmhdidehfmoaaDoor
