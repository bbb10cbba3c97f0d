import Derived.Test.YtbdmhdidehfmoaaDoorTbM
set_option linter.unusedSimpArgs false
set_option linter.unusedVariables false
namespace Go.Proofs.YtbdmhdidehfmoaaDoor
open Go.Ev

theorem St.keep0 {N : Nat} {O : Nat → Tag} {h h' : H} {b : Nat} {l : List Ent} {mv : Nat} (st : St N O h b l mv) (k : Keep nobody h h') : St N O h' b l mv := by
  obtain ⟨now, old, a, v1, v2, tab, g, pm⟩ := st
  exact ⟨now, old, a, v1, v2, tab.keep0 k, g, pm⟩
theorem St.perm {N : Nat} {O : Nat → Tag} {h : H} {b : Nat} {l l' : List Ent} {mv : Nat} (st : St N O h b l mv) (p : l.Perm l') : St N O h b l' mv := by
  obtain ⟨now, old, a, v1, v2, tab, g, pm⟩ := st
  exact ⟨now, old, a, v1, v2, tab, g, pm.trans p⟩
theorem St.far {N : Nat} {O : Nat → Tag} {h : H} {b : Nat} {l : List Ent} {mv : Nat} (st : St N O h b l mv) {c : Nat} (hc : h.next ≤ c) : O c = .other := by
  obtain ⟨now, old, a, v1, v2, tab, g, pm⟩ := st
  exact tab.far c hc
theorem St.cnt {N : Nat} {O : Nat → Tag} {h : H} {b : Nat} {l : List Ent} {mv : Nat} (st : St N O h b l mv) : l.length ≤ N := by
  obtain ⟨now, old, a, v1, v2, tab, g, pm⟩ := st
  rw [← pm.length_eq, List.length_append]; exact g.cnt
theorem St.uniq {N : Nat} {O : Nat → Tag} {h : H} {b : Nat} {l : List Ent} {mv : Nat} (st : St N O h b l mv) : (l.map Ent.key).Nodup := by
  obtain ⟨now, old, a, v1, v2, tab, g, pm⟩ := st
  exact (pm.map _).nodup_iff.1 g.uniq
theorem St.has {N : Nat} {O : Nat → Tag} {h : H} {b : Nat} {l : List Ent} {mv : Nat} (st : St N O h b l mv) : ∃ v1 v2 n1 n2 a m, Has h b (.rw (tcells v1 n1 v2 n2 a m)) ∧ O b = .tab := by
  obtain ⟨now, old, a, v1, v2, tab, g, pm⟩ := st
  exact ⟨_, _, _, _, _, _, tab.hb, tab.ob⟩

abbrev Is (t : Int) (k : ByteArray) (e : Ent) : Prop := e.t = t ∧ e.k = k
theorem no_flat {rs : List (List Ent)} {t : Int} {k : ByteArray} (hn : ∀ (i : Nat) es, rs[i]? = some es → ∀ e ∈ es, idx e.t e.k rs.length = i ∧ e.k.size ≤ 32) (h : ∀ es, rs[idx t k rs.length]? = some es → ∀ e ∈ es, ¬ (e.t = t ∧ e.k = k)) : ∀ e ∈ rs.flatten, ¬ Is t k e := fun e he hm => by
  obtain ⟨es, h1, h2⟩ := List.mem_flatten.1 he
  obtain ⟨i, hi⟩ := List.getElem?_of_mem h1
  obtain ⟨e1, _⟩ := hn i es hi e h2
  rw [hm.1, hm.2] at e1
  rw [← e1] at hi
  exact h es hi e h2 hm

/-- a found entry's number -/
theorem found_x {O : Nat → Tag} {h h' : H} {s : Bool} {v : Value} {rs : List (List Ent)} {t : Int} {k : ByteArray} {r : Value} (q : FindQ O h s v rs t k r) (kk : Keep nobody h h') (hn : r ≠ .pointer none) : ∃ e bb o, e ∈ rs.flatten ∧ Is t k e ∧ r = .pointer (some ⟨bb, o, none⟩) ∧ ∀ s, loadOne h' (.pointer (some ⟨bb, o + 2, s⟩)) = some (.int .i64 e.x) := by
  rcases q with ⟨hr, _⟩ | ⟨B, vs, vi, es, j, e, _, rp, h1, h2, h3, h4, h5, h6⟩
  · exact absurd hr hn
  · obtain ⟨bb, cs, ix, _, hb, hl, hc, _⟩ := ((rp.own _ _ _ h1 h2).keep kk (O' := O) fun _ _ h => ⟨id, h⟩).at h3
    rw [ix] at h6
    cases h6
    exact ⟨e, bb, 3 * j, flat_mem h2 (List.mem_of_getElem? h3), ⟨h4, h5⟩, rfl, fun s => Ent.at_x hb hl hc s⟩

def GetQ (l : List Ent) (t : Int) (k : ByteArray) (r : Value) : Prop := (∃ e ∈ l, Is t k e ∧ r = .tuple [.int .i64 e.x, .bool true, .int .i64 0].toArray) ∨ ((∀ e ∈ l, ¬ Is t k e) ∧ r = .tuple [.int .i64 0, .bool false, .int .i64 0].toArray)

theorem lit2p (b : Nat) (p q : Addr) : mkLit 2 b (fill (repl [(.pointer none)] 2) (pl 1) [(0, .pointer (some p)), (1, .pointer (some q))]) = some (.rw [.pointer (some p), .pointer (some q)], .slice (some ⟨b, 0, none⟩) 2 2) := rfl

theorem get_law (L n N : Nat) (hN : N ≤ 100000) (hL : 300000 < L) {O : Nat → Tag} {h : H} {b : Nat} {l : List Ent} {m0 : Nat} (st : St N O h b l m0) {t : Int} {k : ByteArray} (hv : validN t k) :
    Sp (CF L (n + 5)) 13 [.pointer (some ⟨b, 0, none⟩), nameV t k] h fun r h' => ∃ O' mv, St N O' h' b l mv ∧ mv ≤ 4 ∧ Fr O h O' h' ∧ GetQ l t k r := by
  refine Sp.body f13 (by simp) ?_
  unfold c13
  have k1 := Keep.new h (.rw [.int .i64 t, .string k])
  have b1 := Has.new h (.rw [.int .i64 t, .string k])
  have o1 := st.far (Nat.le_refl h.next)
  have st1 := st.keep0 k1
  refine C.seq fun K hK => ?_
  simp only [↓opStep_eq, ↓reduceIte, tg_set, toTm_cons, toTm_nil, fieldPtr_ptr, Nat.add_zero, Nat.zero_add, Nat.reduceAdd, Nat.reduceEqDiff, Int.reduceEq, Int.reduceLT, Int.reduceLE, Int.reduceNe, ↓kO_some, ↓kA_some, ↓kH_some, kO_some, kA_some, kH_some, gd_true, gd_false, nthD_zero, nthD_succ, isB_true, isB_false, isB_undef, pickV_true, pickV_false, binV_add, binV_sub, binV_mul, binV_eql, binV_neq, binV_lss, binV_leq, binV_gtr, binV_geq, unV_not, nt, nf, Bool.false_eq_true, dt, df, decide_true, decide_false, withV_some, aggO_some, ptrTo_eq, ↓aO_some, aO_some, ↓andB_true, andB_true, gz, gs, seqC, retC, skipC, exitC, blockC, condC, cells_agg, r13_0, cells_agg]
  generalize h.new (.rw [.int .i64 t, .string k]) = h1 at *
  have lda : ∀ hx, Has hx h.next (.rw [.int .i64 t, .string k]) → ∀ s, loadAgg 2 hx (.pointer (some ⟨h.next, 0, s⟩)) = some (nameV t k) := fun hx b s => loadAgg_has b rfl (by simp)
  refine hK _ _ _ (C.seq (C.seq fun K hK => ?_))
  obtain ⟨_, _, _, _, _, _, hb, ob⟩ := st1.has
  simp only [↓opStep_eq, ↓reduceIte, tg_set, toTm_cons, toTm_nil, fieldPtr_ptr, Nat.add_zero, Nat.zero_add, Nat.reduceAdd, Nat.reduceEqDiff, Int.reduceEq, Int.reduceLT, Int.reduceLE, Int.reduceNe, ↓kO_some, ↓kA_some, ↓kH_some, kO_some, kA_some, kH_some, gd_true, gd_false, nthD_zero, nthD_succ, isB_true, isB_false, isB_undef, pickV_true, pickV_false, binV_add, binV_sub, binV_mul, binV_eql, binV_neq, binV_lss, binV_leq, binV_gtr, binV_geq, unV_not, nt, nf, Bool.false_eq_true, dt, df, decide_true, decide_false, withV_some, aggO_some, ptrTo_eq, ↓aO_some, aO_some, ↓andB_true, andB_true, gz, gs, seqC, retC, skipC, exitC, blockC, condC, cells_agg, r13_1, lda _ b1]
  refine asked_law L (n + 3) hb t k _ fun r h2 hq => ?_
  obtain ⟨rfl, k2⟩ := hq
  rw [if_pos hv]
  have b2 := b1.keep0 k2
  have st2 := st1.keep0 k2
  refine hK _ _ _ (C.seq fun K hK => ?_)
  simp only [↓opStep_eq, ↓reduceIte, tg_set, toTm_cons, toTm_nil, fieldPtr_ptr, Nat.add_zero, Nat.zero_add, Nat.reduceAdd, Nat.reduceEqDiff, Int.reduceEq, Int.reduceLT, Int.reduceLE, Int.reduceNe, ↓kO_some, ↓kA_some, ↓kH_some, kO_some, kA_some, kH_some, gd_true, gd_false, nthD_zero, nthD_succ, isB_true, isB_false, isB_undef, pickV_true, pickV_false, binV_add, binV_sub, binV_mul, binV_eql, binV_neq, binV_lss, binV_leq, binV_gtr, binV_geq, unV_not, nt, nf, Bool.false_eq_true, dt, df, decide_true, decide_false, withV_some, aggO_some, ptrTo_eq, ↓aO_some, aO_some, ↓andB_true, andB_true, gz, gs, seqC, retC, skipC, exitC, blockC, condC, cells_agg, Bool.true_or, Bool.false_or, Bool.or_true, Bool.or_false, Bool.true_and, Bool.false_and, Bool.and_true, Bool.and_false, r13_2]
  refine hK _ _ _ (C.cond false (by simp only [↓opStep_eq, ↓reduceIte, tg_set, toTm_cons, toTm_nil, fieldPtr_ptr, Nat.add_zero, Nat.zero_add, Nat.reduceAdd, Nat.reduceEqDiff, Int.reduceEq, Int.reduceLT, Int.reduceLE, Int.reduceNe, ↓kO_some, ↓kA_some, ↓kH_some, kO_some, kA_some, kH_some, gd_true, gd_false, nthD_zero, nthD_succ, isB_true, isB_false, isB_undef, pickV_true, pickV_false, binV_add, binV_sub, binV_mul, binV_eql, binV_neq, binV_lss, binV_leq, binV_gtr, binV_geq, unV_not, nt, nf, Bool.false_eq_true, dt, df, decide_true, decide_false, withV_some, aggO_some, ptrTo_eq, ↓aO_some, aO_some, ↓andB_true, andB_true, gz, gs, seqC, retC, skipC, exitC, blockC, condC, cells_agg]) (fun g => by cases g) fun g => C.skip (C.seq fun K hK => ?_))
  simp only [↓opStep_eq, ↓reduceIte, tg_set, toTm_cons, toTm_nil, fieldPtr_ptr, Nat.add_zero, Nat.zero_add, Nat.reduceAdd, Nat.reduceEqDiff, Int.reduceEq, Int.reduceLT, Int.reduceLE, Int.reduceNe, ↓kO_some, ↓kA_some, ↓kH_some, kO_some, kA_some, kH_some, gd_true, gd_false, nthD_zero, nthD_succ, isB_true, isB_false, isB_undef, pickV_true, pickV_false, binV_add, binV_sub, binV_mul, binV_eql, binV_neq, binV_lss, binV_leq, binV_gtr, binV_geq, unV_not, nt, nf, Bool.false_eq_true, dt, df, decide_true, decide_false, withV_some, aggO_some, ptrTo_eq, ↓aO_some, aO_some, ↓andB_true, andB_true, gz, gs, seqC, retC, skipC, exitC, blockC, condC, cells_agg, r13_4]
  refine step_law L n N hN hL st2 _ fun r h3 hq => ?_
  obtain ⟨O3, mv, st3, hmv, fr3⟩ := hq
  have fr := (Fr.of0 (O := O) (k1.then k2)).trans fr3
  have b3 := fr3.has b2 o1
  have hlk := hv.2.2.2
  refine hK _ _ _ (C.seq (C.seq fun K hK => ?_))
  have kr := keep_room h3 9
  have kp : Keep nobody h3 ((⟨h3.objs, h3.next + 9⟩ : H).put (h3.next + 6) (.rw [.pointer (some ⟨b, 0, none⟩), .pointer (some ⟨b, 2, none⟩)])) := ⟨kr.next, fun c hc hn => ((Keep.put _ (h3.next + 6) _).same c (by show c < h3.next + 9; omega) (by omega)).trans (kr.same c hc hn)⟩
  have b6 : Has ((⟨h3.objs, h3.next + 9⟩ : H).put (h3.next + 6) (.rw [.pointer (some ⟨b, 0, none⟩), .pointer (some ⟨b, 2, none⟩)])) (h3.next + 6) (.rw [.pointer (some ⟨b, 0, none⟩), .pointer (some ⟨b, 2, none⟩)]) := Has.put (by show _ < h3.next + 9; omega)
  simp only [↓opStep_eq, ↓reduceIte, tg_set, toTm_cons, toTm_nil, fieldPtr_ptr, Nat.add_zero, Nat.zero_add, Nat.reduceAdd, Nat.reduceEqDiff, Int.reduceEq, Int.reduceLT, Int.reduceLE, Int.reduceNe, ↓kO_some, ↓kA_some, ↓kH_some, kO_some, kA_some, kH_some, gd_true, gd_false, nthD_zero, nthD_succ, isB_true, isB_false, isB_undef, pickV_true, pickV_false, binV_add, binV_sub, binV_mul, binV_eql, binV_neq, binV_lss, binV_leq, binV_gtr, binV_geq, unV_not, nt, nf, Bool.false_eq_true, dt, df, decide_true, decide_false, withV_some, aggO_some, ptrTo_eq, ↓aO_some, aO_some, ↓andB_true, andB_true, gz, gs, seqC, retC, skipC, exitC, blockC, condC, cells_agg, r13_5, nilChk_some, lit2p, lenSl_slice]
  generalize (⟨h3.objs, h3.next + 9⟩ : H).put (h3.next + 6) (.rw [.pointer (some ⟨b, 0, none⟩), .pointer (some ⟨b, 2, none⟩)]) = h4 at *
  obtain ⟨now, old, a, v1, v2, tab, gg, pm⟩ := st3.keep0 kp
  have hcnt := gg.cnt
  refine hK .norm _ _ ?_
  refine C.block (C.loop (fun q tm' hx => ∃ i, q = 2 - i ∧ i ≤ 2 ∧ tg tm' 3 = .pointer (some ⟨h.next, 0, none⟩) ∧ tg tm' 25 = .slice (some ⟨h3.next + 6, 0, none⟩) 2 2 ∧ tg tm' 26 = .int .i64 2 ∧ tg tm' 27 = .int .i64 (i : Int) ∧ (1 ≤ i → ∀ e ∈ now.flatten, ¬ Is t k e) ∧ (2 ≤ i → ∀ e ∈ old.flatten, ¬ Is t k e) ∧ Keep nobody h4 hx) 2 (by omega)
    ⟨0, rfl, by omega, by simp only [↓opStep_eq, ↓reduceIte, tg_set, toTm_cons, toTm_nil, fieldPtr_ptr, Nat.add_zero, Nat.zero_add, Nat.reduceAdd, Nat.reduceEqDiff, Int.reduceEq, Int.reduceLT, Int.reduceLE, Int.reduceNe, ↓kO_some, ↓kA_some, ↓kH_some, kO_some, kA_some, kH_some, gd_true, gd_false, nthD_zero, nthD_succ, isB_true, isB_false, isB_undef, pickV_true, pickV_false, binV_add, binV_sub, binV_mul, binV_eql, binV_neq, binV_lss, binV_leq, binV_gtr, binV_geq, unV_not, nt, nf, Bool.false_eq_true, dt, df, decide_true, decide_false, withV_some, aggO_some, ptrTo_eq, ↓aO_some, aO_some, ↓andB_true, andB_true, gz, gs, seqC, retC, skipC, exitC, blockC, condC, cells_agg], by simp only [↓opStep_eq, ↓reduceIte, tg_set, toTm_cons, toTm_nil, fieldPtr_ptr, Nat.add_zero, Nat.zero_add, Nat.reduceAdd, Nat.reduceEqDiff, Int.reduceEq, Int.reduceLT, Int.reduceLE, Int.reduceNe, ↓kO_some, ↓kA_some, ↓kH_some, kO_some, kA_some, kH_some, gd_true, gd_false, nthD_zero, nthD_succ, isB_true, isB_false, isB_undef, pickV_true, pickV_false, binV_add, binV_sub, binV_mul, binV_eql, binV_neq, binV_lss, binV_leq, binV_gtr, binV_geq, unV_not, nt, nf, Bool.false_eq_true, dt, df, decide_true, decide_false, withV_some, aggO_some, ptrTo_eq, ↓aO_some, aO_some, ↓andB_true, andB_true, gz, gs, seqC, retC, skipC, exitC, blockC, condC, cells_agg], by simp only [↓opStep_eq, ↓reduceIte, tg_set, toTm_cons, toTm_nil, fieldPtr_ptr, Nat.add_zero, Nat.zero_add, Nat.reduceAdd, Nat.reduceEqDiff, Int.reduceEq, Int.reduceLT, Int.reduceLE, Int.reduceNe, ↓kO_some, ↓kA_some, ↓kH_some, kO_some, kA_some, kH_some, gd_true, gd_false, nthD_zero, nthD_succ, isB_true, isB_false, isB_undef, pickV_true, pickV_false, binV_add, binV_sub, binV_mul, binV_eql, binV_neq, binV_lss, binV_leq, binV_gtr, binV_geq, unV_not, nt, nf, Bool.false_eq_true, dt, df, decide_true, decide_false, withV_some, aggO_some, ptrTo_eq, ↓aO_some, aO_some, ↓andB_true, andB_true, gz, gs, seqC, retC, skipC, exitC, blockC, condC, cells_agg] <;> rfl, by simp only [↓opStep_eq, ↓reduceIte, tg_set, toTm_cons, toTm_nil, fieldPtr_ptr, Nat.add_zero, Nat.zero_add, Nat.reduceAdd, Nat.reduceEqDiff, Int.reduceEq, Int.reduceLT, Int.reduceLE, Int.reduceNe, ↓kO_some, ↓kA_some, ↓kH_some, kO_some, kA_some, kH_some, gd_true, gd_false, nthD_zero, nthD_succ, isB_true, isB_false, isB_undef, pickV_true, pickV_false, binV_add, binV_sub, binV_mul, binV_eql, binV_neq, binV_lss, binV_leq, binV_gtr, binV_geq, unV_not, nt, nf, Bool.false_eq_true, dt, df, decide_true, decide_false, withV_some, aggO_some, ptrTo_eq, ↓aO_some, aO_some, ↓andB_true, andB_true, gz, gs, seqC, retC, skipC, exitC, blockC, condC, cells_agg] <;> rfl, (fun h => by omega), (fun h => by omega), .refl _ _⟩ ?_)
  rintro q tm' hx ⟨i, rfl, hi, t3, t25, t26, t27, no1, no2, kx⟩
  unfold l13_12
  refine C.seq fun K hK => ?_
  simp only [↓opStep_eq, ↓reduceIte, tg_set, toTm_cons, toTm_nil, fieldPtr_ptr, Nat.add_zero, Nat.zero_add, Nat.reduceAdd, Nat.reduceEqDiff, Int.reduceEq, Int.reduceLT, Int.reduceLE, Int.reduceNe, ↓kO_some, ↓kA_some, ↓kH_some, kO_some, kA_some, kH_some, gd_true, gd_false, nthD_zero, nthD_succ, isB_true, isB_false, isB_undef, pickV_true, pickV_false, binV_add, binV_sub, binV_mul, binV_eql, binV_neq, binV_lss, binV_leq, binV_gtr, binV_geq, unV_not, nt, nf, Bool.false_eq_true, dt, df, decide_true, decide_false, withV_some, aggO_some, ptrTo_eq, ↓aO_some, aO_some, ↓andB_true, andB_true, gz, gs, seqC, retC, skipC, exitC, blockC, condC, cells_agg, r13_6, t26, t27]
  refine hK _ _ _ (C.seq (C.cond (decide ((i : Int) < 2)) (by simp only [↓opStep_eq, ↓reduceIte, tg_set, toTm_cons, toTm_nil, fieldPtr_ptr, Nat.add_zero, Nat.zero_add, Nat.reduceAdd, Nat.reduceEqDiff, Int.reduceEq, Int.reduceLT, Int.reduceLE, Int.reduceNe, ↓kO_some, ↓kA_some, ↓kH_some, kO_some, kA_some, kH_some, gd_true, gd_false, nthD_zero, nthD_succ, isB_true, isB_false, isB_undef, pickV_true, pickV_false, binV_add, binV_sub, binV_mul, binV_eql, binV_neq, binV_lss, binV_leq, binV_gtr, binV_geq, unV_not, nt, nf, Bool.false_eq_true, dt, df, decide_true, decide_false, withV_some, aggO_some, ptrTo_eq, ↓aO_some, aO_some, ↓andB_true, andB_true, gz, gs, seqC, retC, skipC, exitC, blockC, condC, cells_agg]) (fun g => C.skip ?_) fun g => C.exit ?_))
  · have g2 : i < 2 := by have := of_decide_eq_true g; omega
    -- the side
    obtain ⟨s, o, v, rs, ld6, ra, hp, hh, hsub, hrl, hnext⟩ : ∃ (s : Bool) (o : Nat) (v : Value) (rs : List (List Ent)), [Value.pointer (some ⟨b, 0, none⟩), .pointer (some ⟨b, 2, none⟩)][i]? = some (.pointer (some ⟨b, o, none⟩)) ∧ RowsAt O3 hx s v rs ∧ (∀ hy, Keep nobody hx hy → ∀ s, loadOne hy (.pointer (some ⟨b, o, s⟩)) = some v) ∧ (∀ (i : Nat) es, rs[i]? = some es → ∀ e ∈ es, idx e.t e.k rs.length = i ∧ e.k.size ≤ 32) ∧ (∀ e, e ∈ rs.flatten → e ∈ now.flatten ++ old.flatten) ∧ rs.flatten.length ≤ N ∧ ((∀ e ∈ rs.flatten, ¬ Is t k e) → (1 ≤ i + 1 → ∀ e ∈ now.flatten, ¬ Is t k e) ∧ (2 ≤ i + 1 → ∀ e ∈ old.flatten, ¬ Is t k e)) := by
      have tx := tab.keep0 kx
      rcases i with _ | _ | i
      · exact ⟨false, 0, v1, now, rfl, tx.now, fun hy ky s => by rw [tld (tx.hb.keep0 ky)]; rfl, gg.hn, fun e he => List.mem_append_left _ he, by omega, fun h => ⟨fun _ => h, fun h => by omega⟩⟩
      · exact ⟨true, 2, v2, old, rfl, tx.old, fun hy ky s => by rw [tld (tx.hb.keep0 ky)]; rfl, gg.ho, fun e he => List.mem_append_right _ he, by omega, fun h => ⟨fun _ => no1 (by omega), fun _ => h⟩⟩
      · omega
    have ix : indexSl 1 (.slice (some ⟨h3.next + 6, 0, none⟩) 2 2) (.int .i64 (i : Int)) = some (.pointer (some ⟨h3.next + 6, i, none⟩)) := by
      simp only [indexSl, asNat_nat, addOff]
      rw [Nat.ble_eq_true_of_le (by omega)]
      simp only [Nat.zero_add, Nat.mul_one]
    have ldp : loadOne hx (.pointer (some ⟨h3.next + 6, i, none⟩)) = some (.pointer (some ⟨b, o, none⟩)) := by
      rw [loadOne_has (b6.keep0 kx) rfl]; exact ld6
    have bx := (b3.keep0 kp).keep0 kx
    refine C.seq (C.block (C.seq fun K hK => ?_))
    simp only [↓opStep_eq, ↓reduceIte, tg_set, toTm_cons, toTm_nil, fieldPtr_ptr, Nat.add_zero, Nat.zero_add, Nat.reduceAdd, Nat.reduceEqDiff, Int.reduceEq, Int.reduceLT, Int.reduceLE, Int.reduceNe, ↓kO_some, ↓kA_some, ↓kH_some, kO_some, kA_some, kH_some, gd_true, gd_false, nthD_zero, nthD_succ, isB_true, isB_false, isB_undef, pickV_true, pickV_false, binV_add, binV_sub, binV_mul, binV_eql, binV_neq, binV_lss, binV_leq, binV_gtr, binV_geq, unV_not, nt, nf, Bool.false_eq_true, dt, df, decide_true, decide_false, withV_some, aggO_some, ptrTo_eq, ↓aO_some, aO_some, ↓andB_true, andB_true, gz, gs, seqC, retC, skipC, exitC, blockC, condC, cells_agg, r13_7, t25, t27, ix, ldp]
    refine hK _ _ _ (C.seq fun K hK => ?_)
    simp only [↓opStep_eq, ↓reduceIte, tg_set, toTm_cons, toTm_nil, fieldPtr_ptr, Nat.add_zero, Nat.zero_add, Nat.reduceAdd, Nat.reduceEqDiff, Int.reduceEq, Int.reduceLT, Int.reduceLE, Int.reduceNe, ↓kO_some, ↓kA_some, ↓kH_some, kO_some, kA_some, kH_some, gd_true, gd_false, nthD_zero, nthD_succ, isB_true, isB_false, isB_undef, pickV_true, pickV_false, binV_add, binV_sub, binV_mul, binV_eql, binV_neq, binV_lss, binV_leq, binV_gtr, binV_geq, unV_not, nt, nf, Bool.false_eq_true, dt, df, decide_true, decide_false, withV_some, aggO_some, ptrTo_eq, ↓aO_some, aO_some, ↓andB_true, andB_true, gz, gs, seqC, retC, skipC, exitC, blockC, condC, cells_agg, r13_8, t3, lda _ bx]
    refine find_law L (n + 1) N ra t k ⟨b, o, none⟩ hp (fun i es he => Nat.le_trans (row_le he) hrl) (by omega) (by omega) (by omega) (by omega) _ fun r h5 hq => ?_
    obtain ⟨fq, k5⟩ := hq
    refine hK _ _ _ (C.seq fun K hK => ?_)
    have kall := kx.then k5
    by_cases hr : r = .pointer none
    · subst hr
      have hno : ∀ e ∈ rs.flatten, ¬ Is t k e := by
        rcases fq with ⟨_, h⟩ | ⟨B, vs, vi, es, j, e, _, rp, h1, h2, h3, h4, h5, h6⟩
        · exact no_flat hh h
        · exfalso
          obtain ⟨bb, cs, ix, _⟩ := (rp.own _ _ _ h1 h2).at h3
          rw [ix] at h6; cases h6
      simp only [↓opStep_eq, ↓reduceIte, tg_set, toTm_cons, toTm_nil, fieldPtr_ptr, Nat.add_zero, Nat.zero_add, Nat.reduceAdd, Nat.reduceEqDiff, Int.reduceEq, Int.reduceLT, Int.reduceLE, Int.reduceNe, ↓kO_some, ↓kA_some, ↓kH_some, kO_some, kA_some, kH_some, gd_true, gd_false, nthD_zero, nthD_succ, isB_true, isB_false, isB_undef, pickV_true, pickV_false, binV_add, binV_sub, binV_mul, binV_eql, binV_neq, binV_lss, binV_leq, binV_gtr, binV_geq, unV_not, nt, nf, Bool.false_eq_true, dt, df, decide_true, decide_false, withV_some, aggO_some, ptrTo_eq, ↓aO_some, aO_some, ↓andB_true, andB_true, gz, gs, seqC, retC, skipC, exitC, blockC, condC, cells_agg, r13_9, ent_nil]
      refine hK _ _ _ (C.cond false (by simp only [↓opStep_eq, ↓reduceIte, tg_set, toTm_cons, toTm_nil, fieldPtr_ptr, Nat.add_zero, Nat.zero_add, Nat.reduceAdd, Nat.reduceEqDiff, Int.reduceEq, Int.reduceLT, Int.reduceLE, Int.reduceNe, ↓kO_some, ↓kA_some, ↓kH_some, kO_some, kA_some, kH_some, gd_true, gd_false, nthD_zero, nthD_succ, isB_true, isB_false, isB_undef, pickV_true, pickV_false, binV_add, binV_sub, binV_mul, binV_eql, binV_neq, binV_lss, binV_leq, binV_gtr, binV_geq, unV_not, nt, nf, Bool.false_eq_true, dt, df, decide_true, decide_false, withV_some, aggO_some, ptrTo_eq, ↓aO_some, aO_some, ↓andB_true, andB_true, gz, gs, seqC, retC, skipC, exitC, blockC, condC, cells_agg]) (fun g => by cases g) fun g => C.skip fun K hK => ?_)
      have hw : IntKind.i64.wrap ((i : Int) + 1) = ((i + 1 : Nat) : Int) := by
        rw [show (i : Int) + 1 = ((i + 1 : Nat) : Int) by omega, wrap_i64 _ (by omega)]
      simp only [↓opStep_eq, ↓reduceIte, tg_set, toTm_cons, toTm_nil, fieldPtr_ptr, Nat.add_zero, Nat.zero_add, Nat.reduceAdd, Nat.reduceEqDiff, Int.reduceEq, Int.reduceLT, Int.reduceLE, Int.reduceNe, ↓kO_some, ↓kA_some, ↓kH_some, kO_some, kA_some, kH_some, gd_true, gd_false, nthD_zero, nthD_succ, isB_true, isB_false, isB_undef, pickV_true, pickV_false, binV_add, binV_sub, binV_mul, binV_eql, binV_neq, binV_lss, binV_leq, binV_gtr, binV_geq, unV_not, nt, nf, Bool.false_eq_true, dt, df, decide_true, decide_false, withV_some, aggO_some, ptrTo_eq, ↓aO_some, aO_some, ↓andB_true, andB_true, gz, gs, seqC, retC, skipC, exitC, blockC, condC, cells_agg, r13_11, t27, hw]
      exact hK _ _ _ ⟨2 - (i + 1), by omega, i + 1, rfl, by omega, by simp only [↓opStep_eq, ↓reduceIte, tg_set, toTm_cons, toTm_nil, fieldPtr_ptr, Nat.add_zero, Nat.zero_add, Nat.reduceAdd, Nat.reduceEqDiff, Int.reduceEq, Int.reduceLT, Int.reduceLE, Int.reduceNe, ↓kO_some, ↓kA_some, ↓kH_some, kO_some, kA_some, kH_some, gd_true, gd_false, nthD_zero, nthD_succ, isB_true, isB_false, isB_undef, pickV_true, pickV_false, binV_add, binV_sub, binV_mul, binV_eql, binV_neq, binV_lss, binV_leq, binV_gtr, binV_geq, unV_not, nt, nf, Bool.false_eq_true, dt, df, decide_true, decide_false, withV_some, aggO_some, ptrTo_eq, ↓aO_some, aO_some, ↓andB_true, andB_true, gz, gs, seqC, retC, skipC, exitC, blockC, condC, cells_agg, t3], by simp only [↓opStep_eq, ↓reduceIte, tg_set, toTm_cons, toTm_nil, fieldPtr_ptr, Nat.add_zero, Nat.zero_add, Nat.reduceAdd, Nat.reduceEqDiff, Int.reduceEq, Int.reduceLT, Int.reduceLE, Int.reduceNe, ↓kO_some, ↓kA_some, ↓kH_some, kO_some, kA_some, kH_some, gd_true, gd_false, nthD_zero, nthD_succ, isB_true, isB_false, isB_undef, pickV_true, pickV_false, binV_add, binV_sub, binV_mul, binV_eql, binV_neq, binV_lss, binV_leq, binV_gtr, binV_geq, unV_not, nt, nf, Bool.false_eq_true, dt, df, decide_true, decide_false, withV_some, aggO_some, ptrTo_eq, ↓aO_some, aO_some, ↓andB_true, andB_true, gz, gs, seqC, retC, skipC, exitC, blockC, condC, cells_agg, t25], by simp only [↓opStep_eq, ↓reduceIte, tg_set, toTm_cons, toTm_nil, fieldPtr_ptr, Nat.add_zero, Nat.zero_add, Nat.reduceAdd, Nat.reduceEqDiff, Int.reduceEq, Int.reduceLT, Int.reduceLE, Int.reduceNe, ↓kO_some, ↓kA_some, ↓kH_some, kO_some, kA_some, kH_some, gd_true, gd_false, nthD_zero, nthD_succ, isB_true, isB_false, isB_undef, pickV_true, pickV_false, binV_add, binV_sub, binV_mul, binV_eql, binV_neq, binV_lss, binV_leq, binV_gtr, binV_geq, unV_not, nt, nf, Bool.false_eq_true, dt, df, decide_true, decide_false, withV_some, aggO_some, ptrTo_eq, ↓aO_some, aO_some, ↓andB_true, andB_true, gz, gs, seqC, retC, skipC, exitC, blockC, condC, cells_agg, t26], by simp only [↓opStep_eq, ↓reduceIte, tg_set, toTm_cons, toTm_nil, fieldPtr_ptr, Nat.add_zero, Nat.zero_add, Nat.reduceAdd, Nat.reduceEqDiff, Int.reduceEq, Int.reduceLT, Int.reduceLE, Int.reduceNe, ↓kO_some, ↓kA_some, ↓kH_some, kO_some, kA_some, kH_some, gd_true, gd_false, nthD_zero, nthD_succ, isB_true, isB_false, isB_undef, pickV_true, pickV_false, binV_add, binV_sub, binV_mul, binV_eql, binV_neq, binV_lss, binV_leq, binV_gtr, binV_geq, unV_not, nt, nf, Bool.false_eq_true, dt, df, decide_true, decide_false, withV_some, aggO_some, ptrTo_eq, ↓aO_some, aO_some, ↓andB_true, andB_true, gz, gs, seqC, retC, skipC, exitC, blockC, condC, cells_agg], (hnext hno).1, (hnext hno).2, kall⟩
    · obtain ⟨e, bb, oo, he, hm, rfl, hx2⟩ := found_x fq k5 hr
      simp only [↓opStep_eq, ↓reduceIte, tg_set, toTm_cons, toTm_nil, fieldPtr_ptr, Nat.add_zero, Nat.zero_add, Nat.reduceAdd, Nat.reduceEqDiff, Int.reduceEq, Int.reduceLT, Int.reduceLE, Int.reduceNe, ↓kO_some, ↓kA_some, ↓kH_some, kO_some, kA_some, kH_some, gd_true, gd_false, nthD_zero, nthD_succ, isB_true, isB_false, isB_undef, pickV_true, pickV_false, binV_add, binV_sub, binV_mul, binV_eql, binV_neq, binV_lss, binV_leq, binV_gtr, binV_geq, unV_not, nt, nf, Bool.false_eq_true, dt, df, decide_true, decide_false, withV_some, aggO_some, ptrTo_eq, ↓aO_some, aO_some, ↓andB_true, andB_true, gz, gs, seqC, retC, skipC, exitC, blockC, condC, cells_agg, r13_9, ent_nnil]
      refine hK _ _ _ (C.cond true (by simp only [↓opStep_eq, ↓reduceIte, tg_set, toTm_cons, toTm_nil, fieldPtr_ptr, Nat.add_zero, Nat.zero_add, Nat.reduceAdd, Nat.reduceEqDiff, Int.reduceEq, Int.reduceLT, Int.reduceLE, Int.reduceNe, ↓kO_some, ↓kA_some, ↓kH_some, kO_some, kA_some, kH_some, gd_true, gd_false, nthD_zero, nthD_succ, isB_true, isB_false, isB_undef, pickV_true, pickV_false, binV_add, binV_sub, binV_mul, binV_eql, binV_neq, binV_lss, binV_leq, binV_gtr, binV_geq, unV_not, nt, nf, Bool.false_eq_true, dt, df, decide_true, decide_false, withV_some, aggO_some, ptrTo_eq, ↓aO_some, aO_some, ↓andB_true, andB_true, gz, gs, seqC, retC, skipC, exitC, blockC, condC, cells_agg]) (fun g => C.seq fun K hK => ?_) fun g => by cases g)
      simp only [↓opStep_eq, ↓reduceIte, tg_set, toTm_cons, toTm_nil, fieldPtr_ptr, Nat.add_zero, Nat.zero_add, Nat.reduceAdd, Nat.reduceEqDiff, Int.reduceEq, Int.reduceLT, Int.reduceLE, Int.reduceNe, ↓kO_some, ↓kA_some, ↓kH_some, kO_some, kA_some, kH_some, gd_true, gd_false, nthD_zero, nthD_succ, isB_true, isB_false, isB_undef, pickV_true, pickV_false, binV_add, binV_sub, binV_mul, binV_eql, binV_neq, binV_lss, binV_leq, binV_gtr, binV_geq, unV_not, nt, nf, Bool.false_eq_true, dt, df, decide_true, decide_false, withV_some, aggO_some, ptrTo_eq, ↓aO_some, aO_some, ↓andB_true, andB_true, gz, gs, seqC, retC, skipC, exitC, blockC, condC, cells_agg, r13_10, nilChk_some, hx2]
      refine hK _ _ _ (C.ret ⟨.inr rfl, _, rfl, O3, mv, ⟨now, old, a, v1, v2, tab.keep0 kall, gg, pm⟩, hmv, fr.trans (Fr.of0 (kp.then kall)), .inl ⟨e, pm.mem_iff.1 (hsub e he), hm, ?_⟩⟩)
      simp only [↓opStep_eq, ↓reduceIte, tg_set, toTm_cons, toTm_nil, fieldPtr_ptr, Nat.add_zero, Nat.zero_add, Nat.reduceAdd, Nat.reduceEqDiff, Int.reduceEq, Int.reduceLT, Int.reduceLE, Int.reduceNe, ↓kO_some, ↓kA_some, ↓kH_some, kO_some, kA_some, kH_some, gd_true, gd_false, nthD_zero, nthD_succ, isB_true, isB_false, isB_undef, pickV_true, pickV_false, binV_add, binV_sub, binV_mul, binV_eql, binV_neq, binV_lss, binV_leq, binV_gtr, binV_geq, unV_not, nt, nf, Bool.false_eq_true, dt, df, decide_true, decide_false, withV_some, aggO_some, ptrTo_eq, ↓aO_some, aO_some, ↓andB_true, andB_true, gz, gs, seqC, retC, skipC, exitC, blockC, condC, cells_agg, resOf]
  · simp only [if_pos]
    have g2 : i = 2 := by have := of_decide_eq_false g; omega
    refine C.seq fun K hK => hK .norm _ _ (C.ret ⟨.inr rfl, _, rfl, O3, mv, ⟨now, old, a, v1, v2, tab.keep0 kx, gg, pm⟩, hmv, fr.trans (Fr.of0 (kp.then kx)), .inr ⟨fun e he hm => ?_, ?_⟩⟩)
    · have := pm.mem_iff.2 he
      rw [List.mem_append] at this
      rcases this with h | h
      · exact no1 (by omega) e h hm
      · exact no2 (by omega) e h hm
    · simp only [↓opStep_eq, ↓reduceIte, tg_set, toTm_cons, toTm_nil, fieldPtr_ptr, Nat.add_zero, Nat.zero_add, Nat.reduceAdd, Nat.reduceEqDiff, Int.reduceEq, Int.reduceLT, Int.reduceLE, Int.reduceNe, ↓kO_some, ↓kA_some, ↓kH_some, kO_some, kA_some, kH_some, gd_true, gd_false, nthD_zero, nthD_succ, isB_true, isB_false, isB_undef, pickV_true, pickV_false, binV_add, binV_sub, binV_mul, binV_eql, binV_neq, binV_lss, binV_leq, binV_gtr, binV_geq, unV_not, nt, nf, Bool.false_eq_true, dt, df, decide_true, decide_false, withV_some, aggO_some, ptrTo_eq, ↓aO_some, aO_some, ↓andB_true, andB_true, gz, gs, seqC, retC, skipC, exitC, blockC, condC, cells_agg, resOf]
end Go.Proofs.YtbdmhdidehfmoaaDoor
