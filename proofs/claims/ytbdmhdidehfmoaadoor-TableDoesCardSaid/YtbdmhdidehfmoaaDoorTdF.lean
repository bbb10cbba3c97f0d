import Derived.Test.YtbdmhdidehfmoaaDoorTdA
set_option linter.unusedSimpArgs false
set_option linter.unusedVariables false
namespace Go.Proofs.YtbdmhdidehfmoaaDoor
open Go.Ev

theorem St.keepO {N : Nat} {O : Nat → Tag} {h h' : H} {b : Nat} {l : List Ent} {mv : Nat} (st : St N O h b l mv) {S : Nat → Prop} (k : Keep S h h') (hs : ∀ c, S c → O c = .other) : St N O h' b l mv := by
  obtain ⟨now, old, a, v1, v2, tab, g, pm⟩ := st
  have hn : ∀ (s : Bool) (c : Nat), c < h.next → (O c = .base s ∨ ∃ i, O c = .row s i) → ¬ S c ∧ O c = O c := fun s c _ ho => ⟨(fun e => by
    rw [hs c e] at ho
    rcases ho with ho | ⟨_, ho⟩ <;> cases ho), rfl⟩
  exact ⟨now, old, a, v1, v2, ⟨tab.hb.keep k fun e => (by have := hs b e; rw [tab.ob] at this; cases this), tab.ob, tab.now.keep k (hn false), tab.old.keep k (hn true), fun c hc => tab.far c (Nat.le_trans k.next hc)⟩, g, pm⟩
theorem Sb.put {N : Nat} {O : Nat → Tag} {h : H} {b : Nat} {l : List Ent} {m : Nat} {v : Value} {es : List Ent} (s : Sb N O h b l m v es) {c : Nat} (x : AObj) (hc : O c = .other) (hv : ¬ blk v c) : Sb N O (h.put c x) b l m v es :=
  ⟨s.st.keepO (Keep.put h c x) fun d e => by rw [e]; exact hc, s.mv, s.rw.keep (Keep.put h c x) fun d hd e => hv (by rw [← e]; exact hd), s.ot, s.bo⟩
theorem GetQ.form {l : List Ent} {t : Int} {k : ByteArray} {r : Value} (g : GetQ l t k r) : ∃ n i, r = .tuple [.int .i64 n, .bool i, .int .i64 0].toArray := by
  rcases g with ⟨e, _, _, rfl⟩ | ⟨_, rfl⟩
  · exact ⟨_, _, rfl⟩
  · exact ⟨_, _, rfl⟩
theorem rem4 (n : Nat) : binV Tryd.prog .rem 5 true (.int .u8 (n : Int)) (.int .u8 4) = some (.int .u8 ((n % 4 : Nat) : Int)) := rem_nat 5 true .u8 n 4 (by omega)
theorem St.blen {N : Nat} {O : Nat → Tag} {h : H} {b : Nat} {l es : List Ent} {m : Nat} (st : St N O h b l m) (bo : Both l es) : es.length ≤ N := by rw [← bo.pm.length_eq]; exact st.cnt

def OneQ (N : Nat) (O : Nat → Tag) (h : H) (b : Nat) (l : List Ent) (r : Value) (h' : H) : Prop :=
  ∃ O' l' m' v' es', Sb N O' h' b l' m' v' es' ∧ l'.length ≤ l.length + 1 ∧ Fr O h O' h' ∧ r = .tuple [.agg [v'].toArray, .bool true].toArray

section
variable {L n N : Nat} {O : Nat → Tag} {h : H} {b m0 kd : Nat} {l es : List Ent} {v : Value} {t x : Int} {k : ByteArray}

/-- what stands behind the arguments' copies -/
structure Cp (O : Nat → Tag) (h0 h : H) (v : Value) (kd : Nat) (t x : Int) (k : ByteArray) (tm : T Value) (b : Nat) : Prop where
  b4 : Has h h0.next (.rw [v])
  b5 : Has h (h0.next + 1) (.rw [.int .u8 (kd : Int), .int .i64 t, .string k, .int .i64 x])
  b6 : Has h (h0.next + 2) (.rw [.slice none 0 0])
  t0 : tg tm 0 = .pointer (some ⟨b, 0, none⟩)
  t4 : tg tm 4 = .pointer (some ⟨h0.next, 0, none⟩)
  t5 : tg tm 5 = .pointer (some ⟨h0.next + 1, 0, none⟩)
  t6 : tg tm 6 = .pointer (some ⟨h0.next + 2, 0, none⟩)
theorem Cp.set {h0 h : H} {tm : T Value} (c : Cp O h0 h v kd t x k tm b) {j : Nat} {w : Value} (hj : j ≠ 0 ∧ j ≠ 4 ∧ j ≠ 5 ∧ j ≠ 6) : Cp O h0 h v kd t x k (T.set tm j w) b := by
  obtain ⟨c1, c2, c3, c4, c5, c6, c7⟩ := c
  refine ⟨c1, c2, c3, ?_, ?_, ?_, ?_⟩
  · rw [tg_set, if_neg hj.1]; exact c4
  · rw [tg_set, if_neg hj.2.1]; exact c5
  · rw [tg_set, if_neg hj.2.2.1]; exact c6
  · rw [tg_set, if_neg hj.2.2.2]; exact c7
theorem Cp.name {h0 h : H} {tm : T Value} (c : Cp O h0 h v kd t x k tm b) (s) : loadAgg 2 h (.pointer (some ⟨h0.next + 1, 1, s⟩)) = some (nameV t k) := loadAgg_has c.b5 rfl (by simp)
theorem Cp.num {h0 h : H} {tm : T Value} (c : Cp O h0 h v kd t x k tm b) (s) : loadOne h (.pointer (some ⟨h0.next + 1, 3, s⟩)) = some (.int .i64 x) := by rw [loadOne_has c.b5 rfl]; rfl
theorem Cp.keep0 {h0 h h' : H} {tm : T Value} (c : Cp O h0 h v kd t x k tm b) (kk : Keep nobody h h') : Cp O h0 h' v kd t x k tm b := ⟨c.b4.keep0 kk, c.b5.keep0 kk, c.b6.keep0 kk, c.t0, c.t4, c.t5, c.t6⟩
theorem Cp.fr {h0 h h' : H} {O' : Nat → Tag} {tm : T Value} (c : Cp O h0 h v kd t x k tm b) (fr : Fr O h O' h') (far : ∀ c, h0.next ≤ c → O c = .other) : Cp O' h0 h' v kd t x k tm b :=
  ⟨fr.has c.b4 (far _ (Nat.le_refl _)), fr.has c.b5 (far _ (by omega)), fr.has c.b6 (far _ (by omega)), c.t0, c.t4, c.t5, c.t6⟩
end

/-- the end of a call: the table's rows are told -/
theorem fin_put {O O' : Nat → Tag} {h h' : H} {c : Nat} (fr : Fr O h O' h') (hc : h.next ≤ c) (x : AObj) : Fr O h O' (h'.put c x) := ⟨fr.keep.trans (Keep.put _ _ _) fun d hd e => by omega, fr.same⟩

section
variable {L n N : Nat} {O : Nat → Tag} {h : H} {b m0 : Nat} {l : List Ent} {t x : Int} {k : ByteArray}
theorem get_any (hN : N ≤ 100000) (hL : 300000 < L) (st : St N O h b l m0) (hm : m0 ≤ 4) : Sp (CF L (n + 5)) 13 [.pointer (some ⟨b, 0, none⟩), nameV t k] h fun r h' => ∃ O' mv, St N O' h' b l mv ∧ mv ≤ 4 ∧ Fr O h O' h' ∧ (∃ n i e, r = .tuple [.int .i64 n, .bool i, .int .i64 e].toArray) ∧ ∀ es r', Both l es → GetD es (t, k) r' → r' = r := by
  by_cases hv : validN t k
  · refine (get_law L n N hN hL st hv).mono fun r h' ⟨O', mv, st', hm', fr, gq⟩ => ⟨O', mv, st', hm', fr, ?_, fun es r' bo gd => (bo.get (x := (t, k)) hv gq gd).symm⟩
    obtain ⟨n, i, e⟩ := gq.form
    exact ⟨n, i, 0, e⟩
  · refine (get_bad L n N st hv).mono fun r h' ⟨kk, e⟩ => ⟨O, m0, st.keep0 kk, hm, .of0 kk, ⟨_, _, _, e⟩, fun es r' bo gd => ?_⟩
    rcases gd with ⟨_, e'⟩ | ⟨hv', _⟩
    · rw [e, e']
    · exact absurd hv' hv
theorem put_any (hN : N ≤ 100000) (hL : 300000 < L) (st : St N O h b l m0) (hm : m0 ≤ 4) (hroom : l.length < N) : Sp (CF L (n + 5)) 11 [.pointer (some ⟨b, 0, none⟩), nameV t k, .int .i64 x] h fun r h' => ∃ O' mv l', St N O' h' b l' mv ∧ mv ≤ 4 ∧ Fr O h O' h' ∧ l'.length ≤ l.length + 1 ∧ ∃ e, r = .int .i64 e ∧
    ∀ es v lo r' h2, Both l es → Rw h2 v es → PutD es (t, k) x v lo r' h2 → ∃ v' es', r' = .tuple [.agg [v'].toArray, .int .i64 e].toArray ∧ Rw h2 v' es' ∧ Both l' es' ∧ ((∀ c, blk v' c → lo ≤ c) ∨ v' = v) := by
  by_cases hv : validN t k
  · refine (put_T L n N hN hL st hv x hroom).mono fun r h' ⟨O', mv, st', hm', fr, e⟩ => ⟨O', mv, _, st', hm', fr, ?_, 0, e, fun es v lo r' h2 bo rw pd => ?_⟩
    · have := List.length_filter_le (fun e => !decide (Is t k e)) l
      show (List.filter _ _).length + 1 ≤ _; omega
    · rcases pd with ⟨hv', _⟩ | ⟨_, i, is, v', f, rw', hlo, e'⟩
      · exact absurd hv hv'
      · exact ⟨v', _, e', rw', bo.put f x, .inl hlo⟩
  · refine (put_bad L n N st hv x).mono fun r h' ⟨kk, e⟩ => ⟨O, m0, l, st.keep0 kk, hm, .of0 kk, by omega, 8, e, fun es v lo r' h2 bo rw pd => ?_⟩
    rcases pd with ⟨_, e'⟩ | ⟨hv', _⟩
    · exact ⟨v, es, e', rw, bo, .inr rfl⟩
    · exact absurd hv' hv
theorem del_any (hN : N ≤ 100000) (hL : 300000 < L) (st : St N O h b l m0) (hm : m0 ≤ 4) : Sp (CF L (n + 5)) 10 [.pointer (some ⟨b, 0, none⟩), nameV t k] h fun r h' => ∃ O' mv l', St N O' h' b l' mv ∧ mv ≤ 4 ∧ Fr O h O' h' ∧ l'.length ≤ l.length + 1 ∧ ∃ i e, r = .tuple [.bool i, .int .i64 e].toArray ∧
    ∀ es v lo r' h2, Both l es → Rw h2 v es → DelD es (t, k) v lo r' h2 → ∃ v' es', r' = .tuple [.agg [v'].toArray, .bool i, .int .i64 e].toArray ∧ Rw h2 v' es' ∧ Both l' es' ∧ ((∀ c, blk v' c → lo ≤ c) ∨ v' = v) := by
  by_cases hv : validN t k
  · refine (del_T L n N hN hL st hv).mono fun r h' ⟨O', mv, d, st', hm', fr, e, dr⟩ => ⟨O', mv, _, st', hm', fr, ?_, d, 0, e, fun es v lo r' h2 bo rw pd => ?_⟩
    · have := List.length_filter_le (fun e => !decide (Is t k e)) l
      show (List.filter _ _).length ≤ _; omega
    · rcases pd with ⟨hv', _⟩ | ⟨_, i, is, f, ⟨hi, e'⟩ | ⟨hi, v', rw', hlo, e'⟩⟩
      · exact absurd hv hv'
      · have hd := bo.found f dr
        have hb := bo.del f
        have hw : es.take i ++ es.drop (if is = true then i + 1 else i) = es := by rw [hi, if_neg (by decide), List.take_append_drop]
        rw [hw] at hb
        exact ⟨v, es, by rw [e', hd, hi], rw, hb, .inr rfl⟩
      · have hd := bo.found f dr
        have hb := bo.del f
        rw [if_pos hi] at hb
        exact ⟨v', _, by rw [e', hd, hi], rw', hb, .inl hlo⟩
  · refine (del_bad L n N st hv).mono fun r h' ⟨kk, e⟩ => ⟨O, m0, l, st.keep0 kk, hm, .of0 kk, by omega, false, 8, e, fun es v lo r' h2 bo rw pd => ?_⟩
    rcases pd with ⟨_, e'⟩ | ⟨hv', _⟩
    · exact ⟨v, es, e', rw, bo, .inr rfl⟩
    · exact absurd hv' hv
end

def Arm (N : Nat) (O : Nat → Tag) (h : H) (b : Nat) (l : List Ent) : Ex → T Value → H → Prop := fun e tm h' => e = .ret ∧ ∃ r, q18.f tm h' = some r ∧ OneQ N O h b l (resOf r) h'

section
variable {L n N : Nat} {O : Nat → Tag} {h h3 : H} {b m0 kd : Nat} {l es : List Ent} {v : Value} {t x : Int} {k : ByteArray} {tm : T Value}

theorem get_arm (hN : N ≤ 100000) (hL : 300000 < L) (s : Sb N O h b l m0 v es) (k03 : Keep nobody h h3) (cp : Cp O h h3 v kd t x k tm b) : C ⟨seqC ⟨r18_3⟩ ⟨seqC ⟨r18_4⟩ ⟨seqC ⟨r18_5⟩ retC⟩⟩⟩ (CF L (n + 5)) L tm h3 (Arm N O h b l) := by
  have far : ∀ c, h.next ≤ c → O c = .other := fun c hc => s.st.far hc
  have s3 := s.keep0 k03
  have hes := s.st.blen s.bo
  refine C.seq fun K hK => ?_
  simp only [↓opStep_eq, ↓reduceIte, ↓EW, EV, Nat.reduceAdd, Nat.reduceEqDiff, Int.reduceEq, Int.reduceLT, Int.reduceLE, Int.reduceNe, seqC, retC, skipC, exitC, blockC, condC, r18_3, cp.t0, cp.t5, cp.name]
  refine get_any hN hL s3.st s3.mv _ fun r h4 hq => ?_
  obtain ⟨O4, m4, st4, hm4, fr4, ⟨n0, i0, e0, rfl⟩, hg⟩ := hq
  obtain ⟨rw4, ot4⟩ := fr4.rw s3.rw s3.ot
  have cp4 := cp.fr fr4 far
  simp only [↓opStep_eq, ↓reduceIte, ↓EW, EV, Nat.reduceAdd, Nat.reduceEqDiff, Int.reduceEq, Int.reduceLT, Int.reduceLE, Int.reduceNe, seqC, retC, skipC, exitC, blockC, condC, tupNth_tuple]
  refine hK _ _ _ (C.seq fun K hK => ?_)
  simp only [↓opStep_eq, ↓reduceIte, ↓EW, EV, Nat.reduceAdd, Nat.reduceEqDiff, Int.reduceEq, Int.reduceLT, Int.reduceLE, Int.reduceNe, seqC, retC, skipC, exitC, blockC, condC, r18_4, cp.t4, cp.t5, la1 cp4.b4, cp4.name]
  refine get31_law L (n + 2) rw4 (t, k) (by omega) (by omega) _ fun r h5 hq => ?_
  obtain ⟨gd, k5⟩ := hq
  have e := hg es r s.bo gd
  subst e
  have cp5 := cp4.keep0 k5
  obtain ⟨vp, vq, vc, hvf⟩ := s.rw.form
  simp only [↓opStep_eq, ↓reduceIte, ↓EW, EV, Nat.reduceAdd, Nat.reduceEqDiff, Int.reduceEq, Int.reduceLT, Int.reduceLE, Int.reduceNe, seqC, retC, skipC, exitC, blockC, condC, tupNth_tuple]
  refine hK _ _ _ (C.seq fun K hK => ?_)
  rw [show ∀ x : CodeT, (⟨x⟩ : Box CodeT).f = x from fun _ => rfl]
  rw [r18_5_eq (i := i0) (n := n0) (e := e0) (by rw [← hvf]; exact cp5.b4) cp5.b6 (by simp only [↓opStep_eq, ↓reduceIte, ↓EW, EV, Nat.reduceAdd, Nat.reduceEqDiff, Int.reduceEq, Int.reduceLT, Int.reduceLE, Int.reduceNe, seqC, retC, skipC, exitC, blockC, condC, cp.t4]) (by simp only [↓opStep_eq, ↓reduceIte, ↓EW, EV, Nat.reduceAdd, Nat.reduceEqDiff, Int.reduceEq, Int.reduceLT, Int.reduceLE, Int.reduceNe, seqC, retC, skipC, exitC, blockC, condC, cp.t6]) (by simp only [↓opStep_eq, ↓reduceIte, ↓EW, EV, Nat.reduceAdd, Nat.reduceEqDiff, Int.reduceEq, Int.reduceLT, Int.reduceLE, Int.reduceNe, seqC, retC, skipC, exitC, blockC, condC]) (by simp only [↓opStep_eq, ↓reduceIte, ↓EW, EV, Nat.reduceAdd, Nat.reduceEqDiff, Int.reduceEq, Int.reduceLT, Int.reduceLE, Int.reduceNe, seqC, retC, skipC, exitC, blockC, condC]) (by simp only [↓opStep_eq, ↓reduceIte, ↓EW, EV, Nat.reduceAdd, Nat.reduceEqDiff, Int.reduceEq, Int.reduceLT, Int.reduceLE, Int.reduceNe, seqC, retC, skipC, exitC, blockC, condC]) (by simp only [↓opStep_eq, ↓reduceIte, ↓EW, EV, Nat.reduceAdd, Nat.reduceEqDiff, Int.reduceEq, Int.reduceLT, Int.reduceLE, Int.reduceNe, seqC, retC, skipC, exitC, blockC, condC]) (by simp only [↓opStep_eq, ↓reduceIte, ↓EW, EV, Nat.reduceAdd, Nat.reduceEqDiff, Int.reduceEq, Int.reduceLT, Int.reduceLE, Int.reduceNe, seqC, retC, skipC, exitC, blockC, condC]) (by simp only [↓opStep_eq, ↓reduceIte, ↓EW, EV, Nat.reduceAdd, Nat.reduceEqDiff, Int.reduceEq, Int.reduceLT, Int.reduceLE, Int.reduceNe, seqC, retC, skipC, exitC, blockC, condC])]
  have fr5 : Fr O h O4 h5 := ((Fr.of0 k03).trans fr4).trans (Fr.of0 k5)
  have s5 : Sb N O4 h5 b l m4 v es := ⟨st4.keep0 k5, hm4, rw4.keep0 k5, ot4, s.bo⟩
  have o6 : O4 (h.next + 2) = .other := fr4.same _ (by have := cp.b6.1; omega) (far _ (by omega))
  refine hK _ _ _ (C.ret ⟨rfl, [.agg [v].toArray, .bool true], ?_, O4, l, m4, v, es, s5.put _ o6 (fun hb => ?_), by omega, fin_put fr5 (by omega) _, rfl⟩)
  · simp only [q18, ↓opStep_eq, ↓reduceIte, ↓EW, EV, Nat.reduceAdd, Nat.reduceEqDiff, Int.reduceEq, Int.reduceLT, Int.reduceLE, Int.reduceNe, seqC, retC, skipC, exitC, blockC, condC, cp.t6]
    rw [la1 (Has.put cp5.b6.1), hvf]
  · have := s.rw.lt hb; omega

theorem del_arm (hN : N ≤ 100000) (hL : 300000 < L) (s : Sb N O h b l m0 v es) (k03 : Keep nobody h h3) (cp : Cp O h h3 v kd t x k tm b) : C ⟨seqC ⟨r18_7⟩ ⟨seqC ⟨r18_8⟩ ⟨seqC ⟨r18_9⟩ retC⟩⟩⟩ (CF L (n + 5)) L tm h3 (Arm N O h b l) := by
  have far : ∀ c, h.next ≤ c → O c = .other := fun c hc => s.st.far hc
  have s3 := s.keep0 k03
  have hes := s.st.blen s.bo
  refine C.seq fun K hK => ?_
  simp only [↓opStep_eq, ↓reduceIte, ↓EW, EV, Nat.reduceAdd, Nat.reduceEqDiff, Int.reduceEq, Int.reduceLT, Int.reduceLE, Int.reduceNe, seqC, retC, skipC, exitC, blockC, condC, r18_7, cp.t0, cp.t5, cp.name]
  refine del_any hN hL s3.st s3.mv _ fun r h4 hq => ?_
  obtain ⟨O4, m4, l4, st4, hm4, fr4, hl4, i0, e0, rfl, hg⟩ := hq
  obtain ⟨rw4, ot4⟩ := fr4.rw s3.rw s3.ot
  have cp4 := cp.fr fr4 far
  simp only [↓opStep_eq, ↓reduceIte, ↓EW, EV, Nat.reduceAdd, Nat.reduceEqDiff, Int.reduceEq, Int.reduceLT, Int.reduceLE, Int.reduceNe, seqC, retC, skipC, exitC, blockC, condC, tupNth_tuple]
  refine hK _ _ _ (C.seq fun K hK => ?_)
  simp only [↓opStep_eq, ↓reduceIte, ↓EW, EV, Nat.reduceAdd, Nat.reduceEqDiff, Int.reduceEq, Int.reduceLT, Int.reduceLE, Int.reduceNe, seqC, retC, skipC, exitC, blockC, condC, r18_8, cp.t4, cp.t5, la1 cp4.b4, cp4.name]
  refine del32_law L (n + 2) rw4 (t, k) (by omega) (by omega) _ fun r h5 hq => ?_
  obtain ⟨gd, k5⟩ := hq
  obtain ⟨v', es', rfl, rw', bo', hv'⟩ := hg es v h4.next r h5 s.bo (rw4.keep0 k5) gd
  have cp5 := cp4.keep0 k5
  obtain ⟨vp, vq, vc, rfl⟩ := rw'.form
  have b7 := Has.new h5 (.rw [.slice none 0 0])
  have st7 := st1 b7 vp vq vc none
  have k7 := keep_alloc h5 (.rw [.slice none 0 0]) (.rw [.slice vp vq vc])
  have b8 := has_alloc h5 (.rw [.slice none 0 0]) (.rw [.slice vp vq vc])
  simp only [↓opStep_eq, ↓reduceIte, ↓EW, EV, Nat.reduceAdd, Nat.reduceEqDiff, Int.reduceEq, Int.reduceLT, Int.reduceLE, Int.reduceNe, seqC, retC, skipC, exitC, blockC, condC, tupNth_tuple, st7]
  refine hK _ _ _ (C.seq fun K hK => ?_)
  have cp7 := cp5.keep0 k7
  generalize (h5.new (.rw [.slice none 0 0])).put h5.next (.rw [.slice vp vq vc]) = h7 at *
  rw [show ∀ x : CodeT, (⟨x⟩ : Box CodeT).f = x from fun _ => rfl]
  rw [r18_9_eq (i := i0) (e := e0) b8 cp7.b6 (by simp only [↓opStep_eq, ↓reduceIte, ↓EW, EV, Nat.reduceAdd, Nat.reduceEqDiff, Int.reduceEq, Int.reduceLT, Int.reduceLE, Int.reduceNe, seqC, retC, skipC, exitC, blockC, condC]) (by simp only [↓opStep_eq, ↓reduceIte, ↓EW, EV, Nat.reduceAdd, Nat.reduceEqDiff, Int.reduceEq, Int.reduceLT, Int.reduceLE, Int.reduceNe, seqC, retC, skipC, exitC, blockC, condC, cp.t6]) (by simp only [↓opStep_eq, ↓reduceIte, ↓EW, EV, Nat.reduceAdd, Nat.reduceEqDiff, Int.reduceEq, Int.reduceLT, Int.reduceLE, Int.reduceNe, seqC, retC, skipC, exitC, blockC, condC]) (by simp only [↓opStep_eq, ↓reduceIte, ↓EW, EV, Nat.reduceAdd, Nat.reduceEqDiff, Int.reduceEq, Int.reduceLT, Int.reduceLE, Int.reduceNe, seqC, retC, skipC, exitC, blockC, condC]) (by simp only [↓opStep_eq, ↓reduceIte, ↓EW, EV, Nat.reduceAdd, Nat.reduceEqDiff, Int.reduceEq, Int.reduceLT, Int.reduceLE, Int.reduceNe, seqC, retC, skipC, exitC, blockC, condC]) (by simp only [↓opStep_eq, ↓reduceIte, ↓EW, EV, Nat.reduceAdd, Nat.reduceEqDiff, Int.reduceEq, Int.reduceLT, Int.reduceLE, Int.reduceNe, seqC, retC, skipC, exitC, blockC, condC])]
  have k57 := k5.then k7
  have fr7 : Fr O h O4 h7 := ((Fr.of0 k03).trans fr4).trans (Fr.of0 k57)
  have hlow : h.next + 2 < h4.next := cp4.b6.1
  have s7 : Sb N O4 h7 b l4 m4 (.slice vp vq vc) es' := ⟨st4.keep0 k57, hm4, rw'.keep0 k7, fun c hc => by
    rcases hv' with hv' | hv'
    · exact st4.far (hv' c hc)
    · rw [hv'] at hc; exact ot4 c hc, bo'⟩
  have o6 : O4 (h.next + 2) = .other := fr4.same _ (by have := cp.b6.1; omega) (far _ (by omega))
  refine hK _ _ _ (C.ret ⟨rfl, [.agg [.slice vp vq vc].toArray, .bool true], ?_, O4, l4, m4, _, es', s7.put _ o6 (fun hb => ?_), hl4, fin_put fr7 (by omega) _, rfl⟩)
  · simp only [q18, ↓opStep_eq, ↓reduceIte, ↓EW, EV, Nat.reduceAdd, Nat.reduceEqDiff, Int.reduceEq, Int.reduceLT, Int.reduceLE, Int.reduceNe, seqC, retC, skipC, exitC, blockC, condC, cp.t6]
    rw [la1 (Has.put cp7.b6.1)]
  · rcases hv' with hv' | hv'
    · have := hv' _ hb; omega
    · rw [hv'] at hb; have := s.rw.lt hb; omega

theorem put_arm (hN : N ≤ 100000) (hL : 300000 < L) (hroom : l.length < N) (s : Sb N O h b l m0 v es) (k03 : Keep nobody h h3) (cp : Cp O h h3 v kd t x k tm b) : C ⟨seqC ⟨r18_10⟩ ⟨seqC ⟨r18_11⟩ ⟨seqC ⟨r18_12⟩ retC⟩⟩⟩ (CF L (n + 5)) L tm h3 (Arm N O h b l) := by
  have far : ∀ c, h.next ≤ c → O c = .other := fun c hc => s.st.far hc
  have s3 := s.keep0 k03
  have hes := s.st.blen s.bo
  refine C.seq fun K hK => ?_
  simp only [↓opStep_eq, ↓reduceIte, ↓EW, EV, Nat.reduceAdd, Nat.reduceEqDiff, Int.reduceEq, Int.reduceLT, Int.reduceLE, Int.reduceNe, seqC, retC, skipC, exitC, blockC, condC, r18_10, cp.t0, cp.t5, cp.name, cp.num]
  refine put_any hN hL s3.st s3.mv hroom _ fun r h4 hq => ?_
  obtain ⟨O4, m4, l4, st4, hm4, fr4, hl4, e0, rfl, hg⟩ := hq
  obtain ⟨rw4, ot4⟩ := fr4.rw s3.rw s3.ot
  have cp4 := cp.fr fr4 far
  refine hK _ _ _ (C.seq fun K hK => ?_)
  simp only [↓opStep_eq, ↓reduceIte, ↓EW, EV, Nat.reduceAdd, Nat.reduceEqDiff, Int.reduceEq, Int.reduceLT, Int.reduceLE, Int.reduceNe, seqC, retC, skipC, exitC, blockC, condC, r18_11, cp.t4, cp.t5, la1 cp4.b4, cp4.name, cp4.num]
  refine put33_law L (n + 2) rw4 (t, k) x (by omega) (by omega) _ fun r h5 hq => ?_
  obtain ⟨gd, k5⟩ := hq
  obtain ⟨v', es', rfl, rw', bo', hv'⟩ := hg es v h4.next r h5 s.bo (rw4.keep0 k5) gd
  have cp5 := cp4.keep0 k5
  obtain ⟨vp, vq, vc, rfl⟩ := rw'.form
  have b7 := Has.new h5 (.rw [.slice none 0 0])
  have st7 := st1 b7 vp vq vc none
  have k7 := keep_alloc h5 (.rw [.slice none 0 0]) (.rw [.slice vp vq vc])
  have b8 := has_alloc h5 (.rw [.slice none 0 0]) (.rw [.slice vp vq vc])
  simp only [↓opStep_eq, ↓reduceIte, ↓EW, EV, Nat.reduceAdd, Nat.reduceEqDiff, Int.reduceEq, Int.reduceLT, Int.reduceLE, Int.reduceNe, seqC, retC, skipC, exitC, blockC, condC, tupNth_tuple, st7]
  refine hK _ _ _ (C.seq fun K hK => ?_)
  have cp7 := cp5.keep0 k7
  generalize (h5.new (.rw [.slice none 0 0])).put h5.next (.rw [.slice vp vq vc]) = h7 at *
  simp only [↓opStep_eq, ↓reduceIte, ↓EW, EV, Nat.reduceAdd, Nat.reduceEqDiff, Int.reduceEq, Int.reduceLT, Int.reduceLE, Int.reduceNe, seqC, retC, skipC, exitC, blockC, condC, r18_12, cp.t6, la1 b8, st1 cp7.b6, decide_true]
  have k57 := k5.then k7
  have fr7 : Fr O h O4 h7 := ((Fr.of0 k03).trans fr4).trans (Fr.of0 k57)
  have hlow : h.next + 2 < h4.next := cp4.b6.1
  have s7 : Sb N O4 h7 b l4 m4 (.slice vp vq vc) es' := ⟨st4.keep0 k57, hm4, rw'.keep0 k7, fun c hc => by
    rcases hv' with hv' | hv'
    · exact st4.far (hv' c hc)
    · rw [hv'] at hc; exact ot4 c hc, bo'⟩
  have o6 : O4 (h.next + 2) = .other := fr4.same _ (by have := cp.b6.1; omega) (far _ (by omega))
  refine hK _ _ _ (C.ret ⟨rfl, [.agg [.slice vp vq vc].toArray, .bool true], ?_, O4, l4, m4, _, es', s7.put _ o6 (fun hb => ?_), hl4, fin_put fr7 (by omega) _, rfl⟩)
  · simp only [q18, ↓opStep_eq, ↓reduceIte, ↓EW, EV, Nat.reduceAdd, Nat.reduceEqDiff, Int.reduceEq, Int.reduceLT, Int.reduceLE, Int.reduceNe, seqC, retC, skipC, exitC, blockC, condC, cp.t6]
    rw [la1 (Has.put cp7.b6.1)]
  · rcases hv' with hv' | hv'
    · have := hv' _ hb; omega
    · rw [hv'] at hb; have := s.rw.lt hb; omega
end

theorem one_law (L n N : Nat) (hN : N ≤ 100000) (hL : 300000 < L) {O : Nat → Tag} {h : H} {b : Nat} {l : List Ent} {m0 : Nat} {v : Value} {es : List Ent} (s : Sb N O h b l m0 v es) (kd : Nat) (t : Int) (k : ByteArray) (x : Int) (hroom : l.length < N) :
    Sp (CF L (n + 6)) 18 [.pointer (some ⟨b, 0, none⟩), .agg [v].toArray, doV kd t k x] h (OneQ N O h b l) := by
  refine Sp.body f18 (by simp) ?_
  unfold c18
  have fin : ∀ {e : Ex} {tm : T Value} {h' : H}, Arm N O h b l e tm h' → (e = .norm ∨ e = .ret) ∧ ∃ r, q18.f tm h' = some r ∧ OneQ N O h b l (resOf r) h' := fun a => ⟨.inr a.1, a.2⟩
  refine C.seq fun K hK => ?_
  simp only [↓opStep_eq, ↓reduceIte, ↓EW, EV, Nat.reduceAdd, Nat.reduceEqDiff, Int.reduceEq, Int.reduceLT, Int.reduceLE, Int.reduceNe, seqC, retC, skipC, exitC, blockC, condC, r18_0, agg1, cells4]
  have k1 := Keep.new h (.rw [v])
  have b1 := Has.new h (.rw [v])
  have n1 : (h.new (.rw [v])).next = h.next + 1 := rfl
  generalize h.new (.rw [v]) = h1 at *
  have k2 := Keep.new h1 (.rw [.int .u8 (kd : Int), .int .i64 t, .string k, .int .i64 x])
  have b2 := Has.new h1 (.rw [.int .u8 (kd : Int), .int .i64 t, .string k, .int .i64 x])
  have n2 : (h1.new (.rw [.int .u8 (kd : Int), .int .i64 t, .string k, .int .i64 x])).next = h1.next + 1 := rfl
  generalize h1.new (.rw [.int .u8 (kd : Int), .int .i64 t, .string k, .int .i64 x]) = h2 at *
  have k3 := Keep.new h2 (.rw [.slice none 0 0])
  have b3 := Has.new h2 (.rw [.slice none 0 0])
  rw [n2] at b3
  rw [n1] at b3 b2
  have k03 := (k1.then k2).then k3
  have en2 : h2.next = h.next + 2 := by rw [n2, n1]
  rw [en2, n1]
  generalize h2.new (.rw [.slice none 0 0]) = h3 at *
  refine hK _ _ _ (C.seq (C.seq fun K hK => ?_))
  have cp0 : ∀ tm', tg tm' 0 = .pointer (some ⟨b, 0, none⟩) → tg tm' 4 = .pointer (some ⟨h.next, 0, none⟩) → tg tm' 5 = .pointer (some ⟨h.next + 1, 0, none⟩) → tg tm' 6 = .pointer (some ⟨h.next + 2, 0, none⟩) → Cp O h h3 v kd t x k tm' b := fun tm' u0 u4 u5 u6 =>
    ⟨(b1.keep0 k2).keep0 k3, b2.keep0 k3, b3, u0, u4, u5, u6⟩
  have lk : ∀ s, loadOne h3 (.pointer (some ⟨h.next + 1, 0, s⟩)) = some (.int .u8 (kd : Int)) := fun s => by rw [loadOne_has (b2.keep0 k3) rfl]; rfl
  simp only [↓opStep_eq, ↓reduceIte, ↓EW, EV, Nat.reduceAdd, Nat.reduceEqDiff, Int.reduceEq, Int.reduceLT, Int.reduceLE, Int.reduceNe, seqC, retC, skipC, exitC, blockC, condC, r18_1, lk, rem4]
  refine hK _ _ _ (C.block (C.seq fun K hK => ?_))
  simp only [↓opStep_eq, ↓reduceIte, ↓EW, EV, Nat.reduceAdd, Nat.reduceEqDiff, Int.reduceEq, Int.reduceLT, Int.reduceLE, Int.reduceNe, seqC, retC, skipC, exitC, blockC, condC, r18_2]
  refine hK _ _ _ (C.cond (decide (((kd % 4 : Nat) : Int) = 0)) (by simp only [↓opStep_eq, ↓reduceIte, ↓EW, EV, Nat.reduceAdd, Nat.reduceEqDiff, Int.reduceEq, Int.reduceLT, Int.reduceLE, Int.reduceNe, seqC, retC, skipC, exitC, blockC, condC]) (fun g => ?_) fun g => C.seq fun K hK => ?_)
  · refine (get_arm (n := n) hN hL s k03 (cp0 _ (by simp only [↓opStep_eq, ↓reduceIte, ↓EW, EV, Nat.reduceAdd, Nat.reduceEqDiff, Int.reduceEq, Int.reduceLT, Int.reduceLE, Int.reduceNe, seqC, retC, skipC, exitC, blockC, condC]) (by simp only [↓opStep_eq, ↓reduceIte, ↓EW, EV, Nat.reduceAdd, Nat.reduceEqDiff, Int.reduceEq, Int.reduceLT, Int.reduceLE, Int.reduceNe, seqC, retC, skipC, exitC, blockC, condC]) (by simp only [↓opStep_eq, ↓reduceIte, ↓EW, EV, Nat.reduceAdd, Nat.reduceEqDiff, Int.reduceEq, Int.reduceLT, Int.reduceLE, Int.reduceNe, seqC, retC, skipC, exitC, blockC, condC]) (by simp only [↓opStep_eq, ↓reduceIte, ↓EW, EV, Nat.reduceAdd, Nat.reduceEqDiff, Int.reduceEq, Int.reduceLT, Int.reduceLE, Int.reduceNe, seqC, retC, skipC, exitC, blockC, condC]))).mono fun e tm h' a => ?_
    obtain ⟨rfl, a2⟩ := a
    exact ⟨.inr rfl, a2⟩
  · simp only [↓opStep_eq, ↓reduceIte, ↓EW, EV, Nat.reduceAdd, Nat.reduceEqDiff, Int.reduceEq, Int.reduceLT, Int.reduceLE, Int.reduceNe, seqC, retC, skipC, exitC, blockC, condC, r18_6]
    refine hK _ _ _ (C.cond (decide (((kd % 4 : Nat) : Int) = 3)) (by simp only [↓opStep_eq, ↓reduceIte, ↓EW, EV, Nat.reduceAdd, Nat.reduceEqDiff, Int.reduceEq, Int.reduceLT, Int.reduceLE, Int.reduceNe, seqC, retC, skipC, exitC, blockC, condC]) (fun g => ?_) fun g => C.skip ?_)
    · refine (del_arm (n := n) hN hL s k03 (cp0 _ (by simp only [↓opStep_eq, ↓reduceIte, ↓EW, EV, Nat.reduceAdd, Nat.reduceEqDiff, Int.reduceEq, Int.reduceLT, Int.reduceLE, Int.reduceNe, seqC, retC, skipC, exitC, blockC, condC]) (by simp only [↓opStep_eq, ↓reduceIte, ↓EW, EV, Nat.reduceAdd, Nat.reduceEqDiff, Int.reduceEq, Int.reduceLT, Int.reduceLE, Int.reduceNe, seqC, retC, skipC, exitC, blockC, condC]) (by simp only [↓opStep_eq, ↓reduceIte, ↓EW, EV, Nat.reduceAdd, Nat.reduceEqDiff, Int.reduceEq, Int.reduceLT, Int.reduceLE, Int.reduceNe, seqC, retC, skipC, exitC, blockC, condC]) (by simp only [↓opStep_eq, ↓reduceIte, ↓EW, EV, Nat.reduceAdd, Nat.reduceEqDiff, Int.reduceEq, Int.reduceLT, Int.reduceLE, Int.reduceNe, seqC, retC, skipC, exitC, blockC, condC]))).mono fun e tm h' a => ?_
      obtain ⟨rfl, a2⟩ := a
      exact ⟨.inr rfl, a2⟩
    · refine (put_arm (n := n) hN hL hroom s k03 (cp0 _ (by simp only [↓opStep_eq, ↓reduceIte, ↓EW, EV, Nat.reduceAdd, Nat.reduceEqDiff, Int.reduceEq, Int.reduceLT, Int.reduceLE, Int.reduceNe, seqC, retC, skipC, exitC, blockC, condC]) (by simp only [↓opStep_eq, ↓reduceIte, ↓EW, EV, Nat.reduceAdd, Nat.reduceEqDiff, Int.reduceEq, Int.reduceLT, Int.reduceLE, Int.reduceNe, seqC, retC, skipC, exitC, blockC, condC]) (by simp only [↓opStep_eq, ↓reduceIte, ↓EW, EV, Nat.reduceAdd, Nat.reduceEqDiff, Int.reduceEq, Int.reduceLT, Int.reduceLE, Int.reduceNe, seqC, retC, skipC, exitC, blockC, condC]) (by simp only [↓opStep_eq, ↓reduceIte, ↓EW, EV, Nat.reduceAdd, Nat.reduceEqDiff, Int.reduceEq, Int.reduceLT, Int.reduceLE, Int.reduceNe, seqC, retC, skipC, exitC, blockC, condC]))).mono fun e tm h' a => ?_
      obtain ⟨rfl, a2⟩ := a
      exact ⟨.inr rfl, a2⟩
end Go.Proofs.YtbdmhdidehfmoaaDoor

namespace Go.Proofs.YtbdmhdidehfmoaaDoor
open Go.Ev

/-! ### the document's names -/
theorem Nl.low {h : H} {lo lo' : Nat} {v : Value} {ns : List Nm} (a : Nl h lo v ns) (hl : lo' ≤ lo) : Nl h lo' v ns := by
  rcases a with a | ⟨b, cap, e, c, hb, l⟩
  · exact .inl a
  · exact .inr ⟨b, cap, e, c, hb, by omega⟩
theorem Nl.len {h : H} {lo : Nat} {v : Value} {ns : List Nm} (a : Nl h lo v ns) : lenSl v = some (.int .i64 (ns.length : Int)) := by
  rcases a with ⟨rfl, rfl⟩ | ⟨b, cap, rfl, _⟩ <;> rfl
theorem Nl.arr {h : H} {lo : Nat} {v : Value} {ns : List Nm} (a : Nl h lo v ns) : (v = .slice none 0 0 ∧ ns = []) ∨ ∃ B, Arr h B v ns.length (fun k => ns.getD k default) := by
  rcases a with a | ⟨b, cap, rfl, _, hb, _⟩
  · exact .inl a
  · refine .inr ⟨b, cap, _, 2, rfl, hb, by rw [cellsN_len]; omega, fun k hk => ?_⟩
    have : ns[k]? = some (ns.getD k default) := by rw [List.getD_eq_getElem?_getD, List.getElem?_eq_getElem hk]; rfl
    exact cellsN_at ns k _ this
/-- a row of names that is read -/
def Rn (h : H) (v : Value) (n : Nat) (f : Nat → Nm) : Prop := (v = .slice none 0 0 ∧ n = 0) ∨ ∃ B, Arr h B v n f
theorem Rn.keep0 {h h' : H} {v : Value} {n : Nat} {f : Nat → Nm} (a : Rn h v n f) (k : Keep nobody h h') : Rn h' v n f := by
  rcases a with a | ⟨B, a⟩
  · exact .inl a
  · exact .inr ⟨B, a.keep0 k⟩
theorem Rn.len {h : H} {v : Value} {n : Nat} {f : Nat → Nm} (a : Rn h v n f) : lenSl v = some (.int .i64 (n : Int)) := by
  rcases a with ⟨rfl, rfl⟩ | ⟨B, a⟩
  · rfl
  · exact a.len
theorem Rn.at {h : H} {v : Value} {n : Nat} {f : Nat → Nm} (a : Rn h v n f) {i : Nat} (hi : i < n) : ∃ b, indexSl 2 v (.int .i64 (i : Int)) = some (.pointer (some ⟨b, i * 2, none⟩)) ∧ ∀ s, loadAgg 2 h (.pointer (some ⟨b, i * 2, s⟩)) = some (f i).v := by
  rcases a with ⟨rfl, rfl⟩ | ⟨B, a⟩
  · omega
  · exact ⟨B, a.ix hi, a.ld hi⟩

theorem all19_law (L n : Nat) {h : H} {v : Value} {es : List Ent} (a : Rw h v es) (hL : es.length < L) (hsz : es.length ≤ 100000) :
    Sp (CF L (n + 1)) 19 [.agg [v].toArray] h fun r h' => Nl h' h.next r (es.map Ent.key) ∧ Keep nobody h h' := by
  refine Sp.body f19 (by simp) ?_
  unfold c19
  have k1 := Keep.new h (.rw [v])
  have b1 := Has.new h (.rw [v])
  refine C.seq fun K hK => ?_
  simp only [↓opStep_eq, ↓reduceIte, ↓EW, EV, Nat.reduceAdd, Nat.reduceEqDiff, Int.reduceEq, Int.reduceLT, Int.reduceLE, Int.reduceNe, seqC, retC, skipC, exitC, blockC, condC, r19_0, agg1]
  generalize h.new (.rw [v]) = h1 at *
  refine hK _ _ _ (C.seq fun K hK => ?_)
  simp only [↓opStep_eq, ↓reduceIte, ↓EW, EV, Nat.reduceAdd, Nat.reduceEqDiff, Int.reduceEq, Int.reduceLT, Int.reduceLE, Int.reduceNe, seqC, retC, skipC, exitC, blockC, condC, r19_1]
  refine hK .norm _ _ (C.seq (C.seq fun K hK => ?_))
  simp only [↓opStep_eq, ↓reduceIte, ↓EW, EV, Nat.reduceAdd, Nat.reduceEqDiff, Int.reduceEq, Int.reduceLT, Int.reduceLE, Int.reduceNe, seqC, retC, skipC, exitC, blockC, condC, r19_2]
  refine hK .norm _ _ ?_
  refine C.block (C.loop (fun q tm' hx => ∃ i, q = es.length - i ∧ i ≤ es.length ∧ Keep nobody h1 hx ∧ Nl hx h1.next (tg tm' 3) ((es.take i).map Ent.key) ∧ tg tm' 1 = .pointer (some ⟨h.next, 0, none⟩) ∧ tg tm' 4 = .int .i64 (i : Int)) es.length hL
    ⟨0, rfl, by omega, .refl _ _, .inl ⟨by simp only [↓opStep_eq, ↓reduceIte, ↓EW, EV, Nat.reduceAdd, Nat.reduceEqDiff, Int.reduceEq, Int.reduceLT, Int.reduceLE, Int.reduceNe, seqC, retC, skipC, exitC, blockC, condC], rfl⟩, by simp only [↓opStep_eq, ↓reduceIte, ↓EW, EV, Nat.reduceAdd, Nat.reduceEqDiff, Int.reduceEq, Int.reduceLT, Int.reduceLE, Int.reduceNe, seqC, retC, skipC, exitC, blockC, condC], by simp only [↓opStep_eq, ↓reduceIte, ↓EW, EV, Nat.reduceAdd, Nat.reduceEqDiff, Int.reduceEq, Int.reduceLT, Int.reduceLE, Int.reduceNe, seqC, retC, skipC, exitC, blockC, condC] <;> rfl⟩ ?_)
  rintro q tm hx ⟨i, rfl, hi, kx, nl, t1, t4⟩
  unfold l19_6
  have c1 := b1.keep0 kx
  have ld1 : ∀ s, loadOne hx (.pointer (some ⟨h.next, 0, s⟩)) = some v := fun s => by rw [loadOne_has c1 rfl]; rfl
  have ax := (a.keep0 k1).keep0 kx
  refine C.seq (C.seq fun K hK => ?_)
  simp only [↓opStep_eq, ↓reduceIte, ↓EW, EV, Nat.reduceAdd, Nat.reduceEqDiff, Int.reduceEq, Int.reduceLT, Int.reduceLE, Int.reduceNe, seqC, retC, skipC, exitC, blockC, condC, r19_3, t1, t4, ld1, ax.len]
  refine hK _ _ _ (C.cond (decide ((i : Int) < (es.length : Int))) (by simp only [↓opStep_eq, ↓reduceIte, ↓EW, EV, Nat.reduceAdd, Nat.reduceEqDiff, Int.reduceEq, Int.reduceLT, Int.reduceLE, Int.reduceNe, seqC, retC, skipC, exitC, blockC, condC]) (fun g => C.skip ?_) fun g => C.exit ?_)
  · have g : i < es.length := by have := of_decide_eq_true g; omega
    obtain ⟨e, he⟩ : ∃ e, es[i]? = some e := ⟨es[i]'g, List.getElem?_eq_getElem g⟩
    obtain ⟨b, ix, la, lx⟩ := ax.at he
    have k2 := Keep.new hx (.rw [.int .i64 e.t, .string e.k])
    have b2 := Has.new hx (.rw [.int .i64 e.t, .string e.k])
    refine C.seq (C.block fun K hK => ?_)
    simp only [↓opStep_eq, ↓reduceIte, ↓EW, EV, Nat.reduceAdd, Nat.reduceEqDiff, Int.reduceEq, Int.reduceLT, Int.reduceLE, Int.reduceNe, seqC, retC, skipC, exitC, blockC, condC, r19_5, t1, t4, ld1, ix, la, mkN]
    generalize hx.new (.rw [.int .i64 e.t, .string e.k]) = h2 at *
    obtain ⟨v', h3, e3, nl3, k3⟩ := (nl.keep0 k2).append e.key (lb := hx.next) b2 (by have := kx.next; have := k2.next; omega) (by simp; omega)
    simp only [↓opStep_eq, ↓reduceIte, ↓EW, EV, Nat.reduceAdd, Nat.reduceEqDiff, Int.reduceEq, Int.reduceLT, Int.reduceLE, Int.reduceNe, seqC, retC, skipC, exitC, blockC, condC, e3]
    refine hK _ _ _ fun K hK => ?_
    have w := wadd1 i (by omega)
    simp only [↓opStep_eq, ↓reduceIte, ↓EW, EV, Nat.reduceAdd, Nat.reduceEqDiff, Int.reduceEq, Int.reduceLT, Int.reduceLE, Int.reduceNe, seqC, retC, skipC, exitC, blockC, condC, r19_4, t4, w]
    exact hK _ _ _ ⟨es.length - (i + 1), by omega, i + 1, rfl, by omega, (kx.then k2).trans k3 fun c hc h => by omega, by simp only [↓opStep_eq, ↓reduceIte, ↓EW, EV, Nat.reduceAdd, Nat.reduceEqDiff, Int.reduceEq, Int.reduceLT, Int.reduceLE, Int.reduceNe, seqC, retC, skipC, exitC, blockC, condC]; rw [List.take_add_one, he, Option.toList_some, List.map_append]; exact nl3, by simp only [↓opStep_eq, ↓reduceIte, ↓EW, EV, Nat.reduceAdd, Nat.reduceEqDiff, Int.reduceEq, Int.reduceLT, Int.reduceLE, Int.reduceNe, seqC, retC, skipC, exitC, blockC, condC, t1], by simp only [↓opStep_eq, ↓reduceIte, ↓EW, EV, Nat.reduceAdd, Nat.reduceEqDiff, Int.reduceEq, Int.reduceLT, Int.reduceLE, Int.reduceNe, seqC, retC, skipC, exitC, blockC, condC]⟩
  · simp only [if_pos]
    have g : i = es.length := by have := of_decide_eq_false g; omega
    subst g
    rw [List.take_length] at nl
    refine C.seq fun K hK => ?_
    simp only [↓opStep_eq, ↓reduceIte, ↓EW, EV, Nat.reduceAdd, Nat.reduceEqDiff, Int.reduceEq, Int.reduceLT, Int.reduceLE, Int.reduceNe, seqC, retC, skipC, exitC, blockC, condC, r19_6]
    exact hK .norm _ _ (C.ret ⟨.inr rfl, _, rfl, by simp only [↓opStep_eq, ↓reduceIte, ↓EW, EV, Nat.reduceAdd, Nat.reduceEqDiff, Int.reduceEq, Int.reduceLT, Int.reduceLE, Int.reduceNe, seqC, retC, skipC, exitC, blockC, condC, resOf]; exact nl.low k1.next, k1.then kx⟩)
theorem name_neq (t t' : Int) (k k' : ByteArray) : binV Tryd.prog .neq 27 false (nameV t k) (nameV t' k') = some (.bool (!decide (t = t' ∧ k = k'))) := by
  show aggEq Tryd.prog .neq 27 (nameV t k) (nameV t' k') = _
  unfold aggEq
  rw [guard27]
  show boolRes .neq (eqV Tryd.prog 200 27 (nameV t k) (nameV t' k')) = _
  rw [show nameV t k = .agg #[.int .i64 t, .string k] from rfl, show nameV t' k' = .agg #[.int .i64 t', .string k'] from rfl, eqv_name]
  simp only [leB_eq, iEq_dec, chain]
  by_cases h1 : t = t'
  · by_cases h2 : k = k'
    · subst h1; subst h2; simp; rfl
    · have h3 : (k.data.toList == k'.data.toList) = false := by
        rw [beq_eq_false_iff_ne]; exact fun h => h2 ((bytes_eq _ _).1 h)
      rw [h3, decide_eq_true h1, decide_eq_false (fun h => h2 h.2)]; rfl
  · rw [decide_eq_false h1, decide_eq_false (fun h => h1 h.1)]; rfl
theorem name_neq_self (x : Nm) : binV Tryd.prog .neq 27 false x.v x.v = some (.bool false) := by
  have h := name_neq x.1 x.1 x.2 x.2
  rw [decide_eq_true ⟨rfl, rfl⟩] at h
  exact h

theorem same_law17 (L m : Nat) {h : H} {v w : Value} {n : Nat} {f : Nat → Nm} (a : Rn h v n f) (b : Rn h w n f) (hL : n < L) (hsz : n ≤ 100000) :
    Sp (CF L (m + 1)) 17 [v, w] h fun r h' => r = .bool true ∧ Keep nobody h h' := by
  refine Sp.body f17 (by simp) ?_
  unfold c17
  refine C.seq fun K hK => ?_
  simp only [↓opStep_eq, ↓reduceIte, ↓EW, EV, Nat.reduceAdd, Nat.reduceEqDiff, Int.reduceEq, Int.reduceLT, Int.reduceLE, Int.reduceNe, seqC, retC, skipC, exitC, blockC, condC, r17_0]
  refine hK .norm _ _ (C.seq (C.seq fun K hK => ?_))
  simp only [↓opStep_eq, ↓reduceIte, ↓EW, EV, Nat.reduceAdd, Nat.reduceEqDiff, Int.reduceEq, Int.reduceLT, Int.reduceLE, Int.reduceNe, seqC, retC, skipC, exitC, blockC, condC, r17_1, a.len, b.len]
  refine hK _ _ _ (C.cond false (by simp only [↓opStep_eq, ↓reduceIte, ↓EW, EV, Nat.reduceAdd, Nat.reduceEqDiff, Int.reduceEq, Int.reduceLT, Int.reduceLE, Int.reduceNe, seqC, retC, skipC, exitC, blockC, condC]) (fun g => by cases g) fun _ => C.skip (C.seq (C.seq fun K hK => ?_)))
  simp only [↓opStep_eq, ↓reduceIte, ↓EW, EV, Nat.reduceAdd, Nat.reduceEqDiff, Int.reduceEq, Int.reduceLT, Int.reduceLE, Int.reduceNe, seqC, retC, skipC, exitC, blockC, condC, r17_3]
  refine hK .norm _ _ ?_
  refine C.block (C.loop (fun q tm' hx => ∃ i, q = n - i ∧ i ≤ n ∧ Keep nobody h hx ∧ tg tm' 0 = v ∧ tg tm' 1 = w ∧ tg tm' 5 = .int .i64 (i : Int)) n hL
    ⟨0, rfl, by omega, .refl _ _, by simp only [↓opStep_eq, ↓reduceIte, ↓EW, EV, Nat.reduceAdd, Nat.reduceEqDiff, Int.reduceEq, Int.reduceLT, Int.reduceLE, Int.reduceNe, seqC, retC, skipC, exitC, blockC, condC], by simp only [↓opStep_eq, ↓reduceIte, ↓EW, EV, Nat.reduceAdd, Nat.reduceEqDiff, Int.reduceEq, Int.reduceLT, Int.reduceLE, Int.reduceNe, seqC, retC, skipC, exitC, blockC, condC], by simp only [↓opStep_eq, ↓reduceIte, ↓EW, EV, Nat.reduceAdd, Nat.reduceEqDiff, Int.reduceEq, Int.reduceLT, Int.reduceLE, Int.reduceNe, seqC, retC, skipC, exitC, blockC, condC] <;> rfl⟩ ?_)
  rintro q tm hx ⟨i, rfl, hi, kx, t0, t1, t5⟩
  unfold l17_8
  refine C.seq (C.seq fun K hK => ?_)
  simp only [↓opStep_eq, ↓reduceIte, ↓EW, EV, Nat.reduceAdd, Nat.reduceEqDiff, Int.reduceEq, Int.reduceLT, Int.reduceLE, Int.reduceNe, seqC, retC, skipC, exitC, blockC, condC, r17_4, t0, t5, a.len]
  refine hK _ _ _ (C.cond (decide ((i : Int) < (n : Int))) (by simp only [↓opStep_eq, ↓reduceIte, ↓EW, EV, Nat.reduceAdd, Nat.reduceEqDiff, Int.reduceEq, Int.reduceLT, Int.reduceLE, Int.reduceNe, seqC, retC, skipC, exitC, blockC, condC]) (fun g => C.skip ?_) fun g => C.exit ?_)
  · have g : i < n := by have := of_decide_eq_true g; omega
    have kr := kx.then (keep_room hx 9)
    obtain ⟨p, ixp, lp⟩ := (a.keep0 kr).at g
    obtain ⟨q, ixq, lq⟩ := (b.keep0 kr).at g
    refine C.seq (C.block (C.seq fun K hK => ?_))
    simp only [↓opStep_eq, ↓reduceIte, ↓EW, EV, Nat.reduceAdd, Nat.reduceEqDiff, Int.reduceEq, Int.reduceLT, Int.reduceLE, Int.reduceNe, seqC, retC, skipC, exitC, blockC, condC, r17_6, t0, t1, t5, ixp, ixq, lp, lq, name_neq_self]
    refine hK _ _ _ (C.cond false (by simp only [↓opStep_eq, ↓reduceIte, ↓EW, EV, Nat.reduceAdd, Nat.reduceEqDiff, Int.reduceEq, Int.reduceLT, Int.reduceLE, Int.reduceNe, seqC, retC, skipC, exitC, blockC, condC]) (fun g => by cases g) fun _ => C.skip fun K hK => ?_)
    have w' := wadd1 i (by omega)
    simp only [↓opStep_eq, ↓reduceIte, ↓EW, EV, Nat.reduceAdd, Nat.reduceEqDiff, Int.reduceEq, Int.reduceLT, Int.reduceLE, Int.reduceNe, seqC, retC, skipC, exitC, blockC, condC, r17_5, t5, w']
    exact hK _ _ _ ⟨n - (i + 1), by omega, i + 1, rfl, by omega, kr, by simp only [↓opStep_eq, ↓reduceIte, ↓EW, EV, Nat.reduceAdd, Nat.reduceEqDiff, Int.reduceEq, Int.reduceLT, Int.reduceLE, Int.reduceNe, seqC, retC, skipC, exitC, blockC, condC, t0], by simp only [↓opStep_eq, ↓reduceIte, ↓EW, EV, Nat.reduceAdd, Nat.reduceEqDiff, Int.reduceEq, Int.reduceLT, Int.reduceLE, Int.reduceNe, seqC, retC, skipC, exitC, blockC, condC, t1], by simp only [↓opStep_eq, ↓reduceIte, ↓EW, EV, Nat.reduceAdd, Nat.reduceEqDiff, Int.reduceEq, Int.reduceLT, Int.reduceLE, Int.reduceNe, seqC, retC, skipC, exitC, blockC, condC]⟩
  · simp only [if_pos]
    refine C.seq fun K hK => ?_
    simp only [↓opStep_eq, ↓reduceIte, ↓EW, EV, Nat.reduceAdd, Nat.reduceEqDiff, Int.reduceEq, Int.reduceLT, Int.reduceLE, Int.reduceNe, seqC, retC, skipC, exitC, blockC, condC, r17_8]
    exact hK .norm _ _ (C.ret ⟨.inr rfl, _, rfl, by simp only [↓opStep_eq, ↓reduceIte, ↓EW, EV, Nat.reduceAdd, Nat.reduceEqDiff, Int.reduceEq, Int.reduceLT, Int.reduceLE, Int.reduceNe, seqC, retC, skipC, exitC, blockC, condC, resOf], kx⟩)

/-! ### two rows in order that have the same names -/
theorem sorted_same : ∀ {a b : List Nm}, a.Pairwise ltN → b.Pairwise ltN → (∀ x, x ∈ a ↔ x ∈ b) → a = b
  | [], [], _, _, _ => rfl
  | [], y :: b, _, _, h => absurd ((h y).2 (by simp)) (by simp)
  | x :: a, [], _, _, h => absurd ((h x).1 (by simp)) (by simp)
  | x :: a, y :: b, ha, hb, h => by
    obtain ⟨a1, a2⟩ := List.pairwise_cons.1 ha
    obtain ⟨b1, b2⟩ := List.pairwise_cons.1 hb
    have hxy : x = y := by
      have h1 := (h x).1 (by simp)
      have h2 := (h y).2 (by simp)
      simp only [List.mem_cons] at h1 h2
      rcases h1 with h1 | h1
      · exact h1
      · rcases h2 with h2 | h2
        · exact h2.symm
        · exact absurd (ltN_tr _ _ _ (b1 x h1) (a1 y h2)) (ltN_irr _)
    subst hxy
    congr 1
    refine sorted_same a2 b2 fun z => ⟨fun hz => ?_, fun hz => ?_⟩
    · have := (h z).1 (by simp [hz])
      simp only [List.mem_cons] at this
      rcases this with rfl | this
      · exact absurd (a1 _ hz) (ltN_irr _)
      · exact this
    · have := (h z).2 (by simp [hz])
      simp only [List.mem_cons] at this
      rcases this with rfl | this
      · exact absurd (b1 _ hz) (ltN_irr _)
      · exact this
theorem AllQ.names {h : H} {v : Value} {l es : List Ent} {f : Nat → Nm} (q : AllQ h v l f) (bo : Both l es) : ∀ k, k < l.length → f k = (es.map Ent.key).getD k default := by
  have e : (List.range l.length).map f = es.map Ent.key := by
    refine sorted_same ?_ ?_ fun x => ?_
    · rw [List.pairwise_map]
      refine List.Pairwise.imp_of_mem (fun {a b} ha hb hlt => ?_) List.pairwise_lt_range
      exact q.so a b (Nat.zero_le _) hlt (List.mem_range.1 hb)
    · rw [List.pairwise_map]; exact bo.so
    · simp only [List.mem_map, List.mem_range]
      constructor
      · rintro ⟨k, hk, rfl⟩
        obtain ⟨e, he, h2⟩ := q.to k hk
        exact ⟨e, bo.pm.mem_iff.1 he, h2⟩
      · rintro ⟨e, he, rfl⟩
        exact q.of e (bo.pm.mem_iff.2 he)
  intro k hk
  rw [← e, List.getD_eq_getElem?_getD, List.getElem?_map, List.getElem?_range hk]
  rfl
theorem AllQ.rn {h : H} {v : Value} {l es : List Ent} {f : Nat → Nm} (q : AllQ h v l f) (bo : Both l es) : Rn h v l.length (fun k => (es.map Ent.key).getD k default) := by
  rcases q.mem with ⟨e, e2⟩ | ⟨B, cap, cs, e, h1, h2, h3, h4⟩
  · exact .inl ⟨e, by rw [e2]; rfl⟩
  · exact .inr ⟨B, cap, cs, e, h1, h2, h3, fun k hk => by rw [← q.names bo k hk]; exact h4 k hk⟩
theorem Nl.rn {h : H} {lo : Nat} {v : Value} {l es : List Ent} (a : Nl h lo v (es.map Ent.key)) (bo : Both l es) : Rn h v l.length (fun k => (es.map Ent.key).getD k default) := by
  have hl : (es.map Ent.key).length = l.length := by rw [List.length_map, bo.pm.length_eq]
  rcases a.arr with ⟨e, e2⟩ | ⟨B, a⟩
  · exact .inl ⟨e, by rw [← hl, e2]; rfl⟩
  · rw [hl] at a; exact .inr ⟨B, a⟩
end Go.Proofs.YtbdmhdidehfmoaaDoor

namespace Go.Proofs.YtbdmhdidehfmoaaDoor
open Go.Ev

/-! ### the calls that are asked for -/
structure Dd where
  kd : Nat
  t : Int
  k : ByteArray
  x : Int
def Dd.cells (d : Dd) : List Value := [.int .u8 (d.kd : Int), .int .i64 d.t, .string d.k, .int .i64 d.x]
def cellsD : List Dd → List Value
  | [] => []
  | d :: r => d.cells ++ cellsD r
theorem cellsD_len : ∀ ds, (cellsD ds).length = 4 * ds.length
  | [] => rfl
  | d :: r => by simp [cellsD, cellsD_len r, Dd.cells]; omega
theorem cellsD_at : ∀ (ds : List Dd) (i : Nat) (d : Dd), ds[i]? = some d → ((cellsD ds).drop (i * 4)).take 4 = d.cells
  | [], i, d, h => by simp at h
  | c :: r, 0, d, h => by simp at h; subst h; simp [cellsD, Dd.cells]
  | c :: r, i + 1, d, h => by
    have := cellsD_at r i d (by simpa using h)
    rw [show (i + 1) * 4 = i * 4 + 1 + 1 + 1 + 1 by omega]
    simpa [cellsD, Dd.cells] using this
def Rd (h : H) (v : Value) (ds : List Dd) : Prop := (v = .slice none 0 0 ∧ ds = []) ∨ ∃ B cap, v = .slice (some ⟨B, 0, none⟩) ds.length cap ∧ Has h B (.ro (cellsD ds))
theorem Rd.keep0 {h h' : H} {v : Value} {ds : List Dd} (a : Rd h v ds) (k : Keep nobody h h') : Rd h' v ds := by
  rcases a with a | ⟨B, cap, e, hb⟩
  · exact .inl a
  · exact .inr ⟨B, cap, e, hb.keep0 k⟩
theorem Rd.len {h : H} {v : Value} {ds : List Dd} (a : Rd h v ds) : lenSl v = some (.int .i64 (ds.length : Int)) := by
  rcases a with ⟨rfl, rfl⟩ | ⟨B, cap, rfl, _⟩ <;> rfl
theorem Rd.at {h : H} {v : Value} {ds : List Dd} (a : Rd h v ds) {i : Nat} {d : Dd} (hi : ds[i]? = some d) :
    ∃ B, indexSl 4 v (.int .i64 (i : Int)) = some (.pointer (some ⟨B, i * 4, none⟩)) ∧ ∀ s, loadAgg 4 h (.pointer (some ⟨B, i * 4, s⟩)) = some (doV d.kd d.t d.k d.x) := by
  have hlt := (List.getElem?_eq_some_iff.1 hi).1
  rcases a with ⟨rfl, rfl⟩ | ⟨B, cap, rfl, hb⟩
  · simp at hlt
  · refine ⟨B, ?_, fun s => ?_⟩
    · simp only [indexSl, asNat_nat, addOff]
      rw [Nat.ble_eq_true_of_le hlt]
      simp only [Nat.zero_add]
    · rw [loadAgg_has hb rfl (by rw [cellsD_len]; omega), cellsD_at ds i d hi]; rfl

theorem Rw.nb {h : H} {v w : Value} {es : List Ent} (a : Rw h v es) {c : Nat} (hc : Has h c (.rw [w])) : ¬ blk v c := fun hb => by
  rcases a with ⟨rfl, _⟩ | ⟨b, cap, rfl, _, g⟩
  · rw [blk_nil] at hb; exact hb
  · rw [blk_some] at hb; subst hb
    have := g.2
    rw [hc.2] at this; cases this

theorem r5_15_eq {call : CallT} {L : Nat} {tm : T Value} {h : H} {K : KE} {b4 mv n : Nat} {v : Value} {es : List Ent} (hm : mv ≤ 4) (a : Rw h v es) (hn : es.length = n) (h4 : Has h b4 (.rw [v])) (t4 : tg tm 4 = .pointer (some ⟨b4, 0, none⟩)) (t7 : tg tm 7 = .bool true)
    (t9 : tg tm 9 = .int .i64 0) (t11 : tg tm 11 = .int .i64 0) (t8 : tg tm 8 = .int .i64 (n : Int)) (t10 : tg tm 10 = .int .i64 (mv : Int)) : r5_15 call L tm [] h K = K .norm (T.set tm 78 (.bool false)) [] h := by
  have ld : ∀ s, loadOne h (.pointer (some ⟨b4, 0, s⟩)) = some v := fun s => by rw [loadOne_has h4 rfl]; rfl
  have h1 : ¬ ((mv : Nat) : Int) < 0 := by omega
  have h2 : ¬ (4 : Int) < (mv : Int) := by omega
  simp only [↓opStep_eq, ↓reduceIte, ↓EW, EV, Nat.reduceAdd, Nat.reduceEqDiff, Int.reduceEq, Int.reduceLT, Int.reduceLE, Int.reduceNe, seqC, retC, skipC, exitC, blockC, condC, Bool.true_or, Bool.false_or, Bool.or_true, Bool.or_false, Bool.true_and, Bool.false_and, Bool.and_true, Bool.and_false, r5_15, t4, t7, t9, t11, t8, t10, ld, a.len, hn, h1, h2]

/-- the temporaries that stay -/
structure Tw (v0 : Value) (b b4 : Nat) (tm : T Value) : Prop where
  t0 : tg tm 0 = v0
  t3 : tg tm 3 = .pointer (some ⟨b, 0, none⟩)
  t4 : tg tm 4 = .pointer (some ⟨b4, 0, none⟩)
theorem Tw.set {v0 : Value} {b b4 : Nat} {tm : T Value} (x : Tw v0 b b4 tm) {j : Nat} {w : Value} (hj : j ≠ 0 ∧ j ≠ 3 ∧ j ≠ 4) : Tw v0 b b4 (T.set tm j w) := by
  obtain ⟨x0, x1, x2⟩ := x
  refine ⟨?_, ?_, ?_⟩
  · rw [tg_set, if_neg hj.1]; exact x0
  · rw [tg_set, if_neg hj.2.1]; exact x1
  · rw [tg_set, if_neg hj.2.2]; exact x2

/-- both, between two calls -/
structure Mid (N : Nat) (h0 : H) (O : Nat → Tag) (h : H) (b b4 : Nat) (l es : List Ent) (m : Nat) (v : Value) : Prop where
  k : Keep nobody h0 h
  ho : ∀ c, c < h0.next → O c = .other
  sb : Sb N O h b l m v es
  hb : Has h b4 (.rw [v])
  o4 : O b4 = .other
  lo : h0.next ≤ b4

theorem zeros4 (h : H) (kd : Nat) (t x : Int) (k : ByteArray) : storeV 4 (h.new (.rw [(.int .u8 (0)), (.int .i64 (0)), (.string (strB [])), (.int .i64 (0))])) (.pointer (some ⟨h.next, 0, none⟩)) (doV kd t k x) = some ((h.new (.rw [(.int .u8 (0)), (.int .i64 (0)), (.string (strB [])), (.int .i64 (0))])).put h.next (.rw [.int .u8 (kd : Int), .int .i64 t, .string k, .int .i64 x])) := by
  have := store_new h 4 none [(.int .u8 (0)), (.int .i64 (0)), (.string (strB [])), (.int .i64 (0))] (doV kd t k x) rfl (by simp [doV]) (by simp [doV, ones])
  simpa [doV] using this

theorem does_loop (L m : Nat) (hL : 300000 < L) {h0 hx : H} {O : Nat → Tag} {b b4 : Nat} {v0 v : Value} {ds : List Dd} (rd : Rd h0 v0 ds) (hds : ds.length ≤ 400) (gl0 : Gl h0) (mid : Mid 401 h0 O hx b b4 [] [] 0 v) (tm : T Value) (x : Tw v0 b b4 tm) (Q : Ex → T Value → H → Prop)
    (hQ : ∀ O' l es m' v' h' tm', Mid 401 h0 O' h' b b4 l es m' v' → Tw v0 b b4 tm' → Q .norm tm' h') (hR : ∀ tm' h', tg tm' 2 = .bool true → Q .ret tm' h') :
    C ⟨seqC ⟨r5_5⟩ ⟨blockC 0 (loopB l5_17)⟩⟩ (CF L (m + 27)) L tm hx Q := by
  refine C.seq fun K hK => ?_
  simp only [↓opStep_eq, ↓reduceIte, ↓EW, EV, Nat.reduceAdd, Nat.reduceEqDiff, Int.reduceEq, Int.reduceLT, Int.reduceLE, Int.reduceNe, seqC, retC, skipC, exitC, blockC, condC, r5_5]
  refine hK .norm _ _ ?_
  refine C.block (C.loop (fun q tm' hy => ∃ i O l es mv v, q = ds.length - i ∧ i ≤ ds.length ∧ l.length ≤ i ∧ Mid 401 h0 O hy b b4 l es mv v ∧ Tw v0 b b4 tm' ∧ tg tm' 5 = .int .i64 (i : Int)) ds.length (by omega)
    ⟨0, O, [], [], 0, v, rfl, by omega, Nat.le_refl _, mid, x.set (by omega), by simp only [↓opStep_eq, ↓reduceIte, ↓EW, EV, Nat.reduceAdd, Nat.reduceEqDiff, Int.reduceEq, Int.reduceLT, Int.reduceLE, Int.reduceNe, seqC, retC, skipC, exitC, blockC, condC] <;> rfl⟩ ?_)
  clear x mid
  rintro q tm hy ⟨i, O, l, es, mv, v, rfl, hi, hli, mid, x, t5⟩
  unfold l5_17
  refine C.seq (C.seq fun K hK => ?_)
  simp only [↓opStep_eq, ↓reduceIte, ↓EW, EV, Nat.reduceAdd, Nat.reduceEqDiff, Int.reduceEq, Int.reduceLT, Int.reduceLE, Int.reduceNe, seqC, retC, skipC, exitC, blockC, condC, r5_6, x.t0, t5, rd.len]
  refine hK _ _ _ (C.cond (decide ((i : Int) < (ds.length : Int))) (by simp only [↓opStep_eq, ↓reduceIte, ↓EW, EV, Nat.reduceAdd, Nat.reduceEqDiff, Int.reduceEq, Int.reduceLT, Int.reduceLE, Int.reduceNe, seqC, retC, skipC, exitC, blockC, condC]) (fun g => C.skip ?_) fun g => C.exit ?_)
  · have g : i < ds.length := by have := of_decide_eq_true g; omega
    obtain ⟨d, hd⟩ : ∃ d, ds[i]? = some d := ⟨ds[i]'g, List.getElem?_eq_getElem g⟩
    obtain ⟨B, ix, la⟩ := (rd.keep0 mid.k).at hd
    refine C.seq (C.block (C.seq fun K hK => ?_))
    simp only [↓opStep_eq, ↓reduceIte, ↓EW, EV, Nat.reduceAdd, Nat.reduceEqDiff, Int.reduceEq, Int.reduceLT, Int.reduceLE, Int.reduceNe, seqC, retC, skipC, exitC, blockC, condC, r5_8, x.t0, t5, ix, la, zeros4]
    have k1 := keep_alloc hy (.rw [(.int .u8 (0)), (.int .i64 (0)), (.string (strB [])), (.int .i64 (0))]) (.rw [.int .u8 (d.kd : Int), .int .i64 d.t, .string d.k, .int .i64 d.x])
    have b1 := has_alloc hy (.rw [(.int .u8 (0)), (.int .i64 (0)), (.string (strB [])), (.int .i64 (0))]) (.rw [.int .u8 (d.kd : Int), .int .i64 d.t, .string d.k, .int .i64 d.x])
    generalize (hy.new (.rw [(.int .u8 (0)), (.int .i64 (0)), (.string (strB [])), (.int .i64 (0))])).put hy.next (.rw [.int .u8 (d.kd : Int), .int .i64 d.t, .string d.k, .int .i64 d.x]) = h1 at *
    have ldk : ∀ s, loadOne h1 (.pointer (some ⟨hy.next, 2, s⟩)) = some (.string d.k) := fun s => by rw [loadOne_has b1 rfl]; rfl
    have lda : ∀ s, loadAgg 4 h1 (.pointer (some ⟨hy.next, 0, s⟩)) = some (doV d.kd d.t d.k d.x) := fun s => loadAgg_has b1 rfl (by simp)
    refine hK _ _ _ (C.seq (C.seq fun K hK => ?_))
    simp only [↓opStep_eq, ↓reduceIte, ↓EW, EV, Nat.reduceAdd, Nat.reduceEqDiff, Int.reduceEq, Int.reduceLT, Int.reduceLE, Int.reduceNe, seqC, retC, skipC, exitC, blockC, condC, r5_9, ldk, lenStr_string]
    refine hK _ _ _ (C.cond (decide ((10000 : Int) < (d.k.size : Int))) (by simp only [↓opStep_eq, ↓reduceIte, ↓EW, EV, Nat.reduceAdd, Nat.reduceEqDiff, Int.reduceEq, Int.reduceLT, Int.reduceLE, Int.reduceNe, seqC, retC, skipC, exitC, blockC, condC]) (fun _ => C.seq fun K hK => ?_) fun _ => C.skip (C.seq fun K hK => ?_))
    · simp only [↓opStep_eq, ↓reduceIte, ↓EW, EV, Nat.reduceAdd, Nat.reduceEqDiff, Int.reduceEq, Int.reduceLT, Int.reduceLE, Int.reduceNe, seqC, retC, skipC, exitC, blockC, condC, r5_10]
      exact hK .norm _ _ (C.ret (hR _ _ (by simp only [↓opStep_eq, ↓reduceIte, ↓EW, EV, Nat.reduceAdd, Nat.reduceEqDiff, Int.reduceEq, Int.reduceLT, Int.reduceLE, Int.reduceNe, seqC, retC, skipC, exitC, blockC, condC])))
    simp only [↓opStep_eq, ↓reduceIte, ↓EW, EV, Nat.reduceAdd, Nat.reduceEqDiff, Int.reduceEq, Int.reduceLT, Int.reduceLE, Int.reduceNe, seqC, retC, skipC, exitC, blockC, condC, r5_11]
    refine hK .norm _ _ (C.seq fun K hK => ?_)
    have b4a := mid.hb.keep0 k1
    simp only [↓opStep_eq, ↓reduceIte, ↓EW, EV, Nat.reduceAdd, Nat.reduceEqDiff, Int.reduceEq, Int.reduceLT, Int.reduceLE, Int.reduceNe, seqC, retC, skipC, exitC, blockC, condC, r5_12, x.t3, x.t4, la1 b4a, lda]
    refine one_law L (m + 21) 401 (by decide) hL (mid.sb.keep0 k1) d.kd d.t d.k d.x (by omega) _ fun r h2 hq => ?_
    obtain ⟨O2, l2, m2, v2, es2, s2, hl2, fr2, rfl⟩ := hq
    obtain ⟨k02, ho2⟩ := base_step (mid.k.then k1) mid.ho fr2
    have b42 := fr2.has b4a mid.o4
    have o42 := fr2.same b4 b4a.1 mid.o4
    obtain ⟨vp, vq, vc, hvf⟩ := s2.rw.form
    have st4 : ∀ s, storeV 1 h2 (.pointer (some ⟨b4, 0, s⟩)) (.agg [v2].toArray) = some (h2.put b4 (.rw [v2])) := fun s => by rw [hvf]; exact st1 b42 vp vq vc s
    simp only [↓opStep_eq, ↓reduceIte, ↓EW, EV, Nat.reduceAdd, Nat.reduceEqDiff, Int.reduceEq, Int.reduceLT, Int.reduceLE, Int.reduceNe, seqC, retC, skipC, exitC, blockC, condC, tupNth_tuple, st4]
    have s3 := s2.put (.rw [v2]) o42 (s2.rw.nb b42)
    have b43 : Has (h2.put b4 (.rw [v2])) b4 (.rw [v2]) := Has.put b42.1
    have k03 : Keep nobody h0 (h2.put b4 (.rw [v2])) := k02.trans (Keep.put _ _ _) fun c hc e => by have := mid.lo; omega
    generalize h2.put b4 (.rw [v2]) = h3 at *
    refine hK _ _ _ (C.seq fun K hK => ?_)
    simp only [↓opStep_eq, ↓reduceIte, ↓EW, EV, Nat.reduceAdd, Nat.reduceEqDiff, Int.reduceEq, Int.reduceLT, Int.reduceLE, Int.reduceNe, seqC, retC, skipC, exitC, blockC, condC, r5_13, x.t3]
    refine len_law L (m + 25) 401 (by decide) s3.st (gl0.keep0 k03) _ fun r h4 hq => ?_
    obtain ⟨rfl, k4⟩ := hq
    simp only [↓opStep_eq, ↓reduceIte, ↓EW, EV, Nat.reduceAdd, Nat.reduceEqDiff, Int.reduceEq, Int.reduceLT, Int.reduceLE, Int.reduceNe, seqC, retC, skipC, exitC, blockC, condC, tupNth_tuple]
    refine hK _ _ _ (C.seq fun K hK => ?_)
    simp only [↓opStep_eq, ↓reduceIte, ↓EW, EV, Nat.reduceAdd, Nat.reduceEqDiff, Int.reduceEq, Int.reduceLT, Int.reduceLE, Int.reduceNe, seqC, retC, skipC, exitC, blockC, condC, r5_14, x.t3]
    refine moved_law L (m + 25) 401 (s3.st.keep0 k4) (gl0.keep0 (k03.then k4)) _ fun r h5 hq => ?_
    obtain ⟨rfl, k5⟩ := hq
    simp only [↓opStep_eq, ↓reduceIte, ↓EW, EV, Nat.reduceAdd, Nat.reduceEqDiff, Int.reduceEq, Int.reduceLT, Int.reduceLE, Int.reduceNe, seqC, retC, skipC, exitC, blockC, condC, tupNth_tuple]
    have k45 := k4.then k5
    refine hK _ _ _ (C.seq fun K hK => ?_)
    rw [show ∀ x : CodeT, (⟨x⟩ : Box CodeT).f = x from fun _ => rfl]
    rw [r5_15_eq (b4 := b4) (n := l2.length) s3.mv (s3.rw.keep0 k45) s3.bo.pm.length_eq.symm (b43.keep0 k45) (by simp only [↓opStep_eq, ↓reduceIte, ↓EW, EV, Nat.reduceAdd, Nat.reduceEqDiff, Int.reduceEq, Int.reduceLT, Int.reduceLE, Int.reduceNe, seqC, retC, skipC, exitC, blockC, condC, x.t4]) (by simp only [↓opStep_eq, ↓reduceIte, ↓EW, EV, Nat.reduceAdd, Nat.reduceEqDiff, Int.reduceEq, Int.reduceLT, Int.reduceLE, Int.reduceNe, seqC, retC, skipC, exitC, blockC, condC]) (by simp only [↓opStep_eq, ↓reduceIte, ↓EW, EV, Nat.reduceAdd, Nat.reduceEqDiff, Int.reduceEq, Int.reduceLT, Int.reduceLE, Int.reduceNe, seqC, retC, skipC, exitC, blockC, condC]) (by simp only [↓opStep_eq, ↓reduceIte, ↓EW, EV, Nat.reduceAdd, Nat.reduceEqDiff, Int.reduceEq, Int.reduceLT, Int.reduceLE, Int.reduceNe, seqC, retC, skipC, exitC, blockC, condC]) (by simp only [↓opStep_eq, ↓reduceIte, ↓EW, EV, Nat.reduceAdd, Nat.reduceEqDiff, Int.reduceEq, Int.reduceLT, Int.reduceLE, Int.reduceNe, seqC, retC, skipC, exitC, blockC, condC]) (by simp only [↓opStep_eq, ↓reduceIte, ↓EW, EV, Nat.reduceAdd, Nat.reduceEqDiff, Int.reduceEq, Int.reduceLT, Int.reduceLE, Int.reduceNe, seqC, retC, skipC, exitC, blockC, condC])]
    refine hK _ _ _ (C.cond false (by simp only [↓opStep_eq, ↓reduceIte, ↓EW, EV, Nat.reduceAdd, Nat.reduceEqDiff, Int.reduceEq, Int.reduceLT, Int.reduceLE, Int.reduceNe, seqC, retC, skipC, exitC, blockC, condC]) (fun g => by cases g) fun _ => C.skip fun K hK => ?_)
    have w := wadd1 i (by omega)
    simp only [↓opStep_eq, ↓reduceIte, ↓EW, EV, Nat.reduceAdd, Nat.reduceEqDiff, Int.reduceEq, Int.reduceLT, Int.reduceLE, Int.reduceNe, seqC, retC, skipC, exitC, blockC, condC, r5_7, t5, w]
    exact hK _ _ _ ⟨ds.length - (i + 1), by omega, i + 1, O2, l2, es2, m2, v2, rfl, by omega, by omega, ⟨k03.then k45, ho2, s3.keep0 k45, b43.keep0 k45, o42, mid.lo⟩,
      (((((((((x.set (by omega)).set (by omega)).set (by omega)).set (by omega)).set (by omega)).set (by omega)).set (by omega)).set (by omega)).set (by omega)).set (by omega) |>.set (by omega), by simp only [↓opStep_eq, ↓reduceIte, ↓EW, EV, Nat.reduceAdd, Nat.reduceEqDiff, Int.reduceEq, Int.reduceLT, Int.reduceLE, Int.reduceNe, seqC, retC, skipC, exitC, blockC, condC]⟩
  · simp only [if_pos]
    exact hQ O l es mv v hy _ mid (x.set (by omega))
end Go.Proofs.YtbdmhdidehfmoaaDoor

namespace Go.Proofs.YtbdmhdidehfmoaaDoor
open Go.Ev

theorem aggNine : aggO (fill [(.int .i64 (0)), (.string (strB []))] (plc [(0, 1), (1, 1)]) [(0, (.int .i64 (9)))]) = some (nameV 9 (strB [])) := rfl
theorem aggNil : aggO (fill [(.slice none 0 0)] (plc [(0, 1)]) []) = some (.agg [.slice none 0 0].toArray) := rfl

theorem Mid.keep0 {N : Nat} {h0 h h' : H} {O : Nat → Tag} {b b4 m : Nat} {l es : List Ent} {v : Value} (a : Mid N h0 O h b b4 l es m v) (k : Keep nobody h h') : Mid N h0 O h' b b4 l es m v :=
  ⟨a.k.then k, a.ho, a.sb.keep0 k, a.hb.keep0 k, a.o4, a.lo⟩
/-- what is told is written over: nothing of the table's or the document's -/
theorem Mid.over {N : Nat} {h0 h h' : H} {O : Nat → Tag} {b b4 m lo : Nat} {l es : List Ent} {v : Value} (a : Mid N h0 O h b b4 l es m v) {S : Nat → Prop} (k : Keep S h h') (hs : ∀ c, S c → lo ≤ c) (h1 : h0.next ≤ lo) (h2 : b4 < lo) (h3 : ∀ c, blk v c → c < lo) (h4 : ∀ c, lo ≤ c → O c = .other) : Mid N h0 O h' b b4 l es m v :=
  ⟨a.k.trans k fun c hc e => by have := hs c e; omega, a.ho, ⟨a.sb.st.keepO k fun c e => h4 c (hs c e), a.sb.mv, a.sb.rw.keep k fun c hc e => by have := hs c e; have := h3 c hc; omega, a.sb.ot, a.sb.bo⟩, a.hb.keep k fun e => by have := hs _ e; omega, a.o4, a.lo⟩

theorem over_loop (L m : Nat) (hL : 300000 < L) {hx : H} {b b4 n B : Nat} {v0 v : Value} {f : Nat → Nm} (hn : n ≤ 100000) (ar : (v = .slice none 0 0 ∧ n = 0) ∨ Arr hx B v n f) (tm : T Value) (x : Tw v0 b b4 tm) (t12 : tg tm 12 = v) (Q : Ex → T Value → H → Prop)
    (hQ : ∀ h' tm', Keep (· = B) hx h' → h'.next = hx.next → Tw v0 b b4 tm' → Q .norm tm' h') :
    C ⟨seqC ⟨r5_20⟩ ⟨blockC 2 (loopB l5_25)⟩⟩ (CF L (m + 27)) L tm hx Q := by
  refine C.seq fun K hK => ?_
  simp only [↓opStep_eq, ↓reduceIte, ↓EW, EV, Nat.reduceAdd, Nat.reduceEqDiff, Int.reduceEq, Int.reduceLT, Int.reduceLE, Int.reduceNe, seqC, retC, skipC, exitC, blockC, condC, r5_20]
  refine hK .norm _ _ ?_
  have hlen : lenSl v = some (.int .i64 (n : Int)) := by
    rcases ar with ⟨rfl, rfl⟩ | a
    · rfl
    · exact a.len
  refine C.block (C.loop (fun q tm' hy => ∃ i f, q = n - i ∧ i ≤ n ∧ Keep (· = B) hx hy ∧ hy.next = hx.next ∧ ((v = .slice none 0 0 ∧ n = 0) ∨ Arr hy B v n f) ∧ Tw v0 b b4 tm' ∧ tg tm' 12 = v ∧ tg tm' 14 = .int .i64 (i : Int)) n (by omega)
    ⟨0, f, rfl, by omega, .refl _ _, rfl, ar, x.set (by omega), by simp only [↓opStep_eq, ↓reduceIte, ↓EW, EV, Nat.reduceAdd, Nat.reduceEqDiff, Int.reduceEq, Int.reduceLT, Int.reduceLE, Int.reduceNe, seqC, retC, skipC, exitC, blockC, condC, t12], by simp only [↓opStep_eq, ↓reduceIte, ↓EW, EV, Nat.reduceAdd, Nat.reduceEqDiff, Int.reduceEq, Int.reduceLT, Int.reduceLE, Int.reduceNe, seqC, retC, skipC, exitC, blockC, condC] <;> rfl⟩ ?_)
  clear x t12 ar
  rintro q tm hy ⟨i, f, rfl, hi, ky, hny, ar, x, t12, t14⟩
  unfold l5_25
  refine C.seq (C.seq fun K hK => ?_)
  simp only [↓opStep_eq, ↓reduceIte, ↓EW, EV, Nat.reduceAdd, Nat.reduceEqDiff, Int.reduceEq, Int.reduceLT, Int.reduceLE, Int.reduceNe, seqC, retC, skipC, exitC, blockC, condC, r5_21, t12, t14, hlen]
  refine hK _ _ _ (C.cond (decide ((i : Int) < (n : Int))) (by simp only [↓opStep_eq, ↓reduceIte, ↓EW, EV, Nat.reduceAdd, Nat.reduceEqDiff, Int.reduceEq, Int.reduceLT, Int.reduceLE, Int.reduceNe, seqC, retC, skipC, exitC, blockC, condC]) (fun g => C.skip ?_) fun g => C.exit ?_)
  · have g : i < n := by have := of_decide_eq_true g; omega
    have a : Arr hy B v n f := by
      rcases ar with ⟨_, e⟩ | a
      · omega
      · exact a
    obtain ⟨h2, st, a2, k2, n2⟩ := a.st g ((9, strB []) : Nm)
    refine C.seq (C.block fun K hK => ?_)
    simp only [↓opStep_eq, ↓reduceIte, ↓EW, EV, Nat.reduceAdd, Nat.reduceEqDiff, Int.reduceEq, Int.reduceLT, Int.reduceLE, Int.reduceNe, seqC, retC, skipC, exitC, blockC, condC, r5_23, aggNine, t12, t14, a.ix g, st]
    refine hK _ _ _ fun K hK => ?_
    have w := wadd1 i (by omega)
    simp only [↓opStep_eq, ↓reduceIte, ↓EW, EV, Nat.reduceAdd, Nat.reduceEqDiff, Int.reduceEq, Int.reduceLT, Int.reduceLE, Int.reduceNe, seqC, retC, skipC, exitC, blockC, condC, r5_22, t14, w]
    exact hK _ _ _ ⟨n - (i + 1), by omega, i + 1, _, rfl, by omega, ky.trans k2 fun _ _ e => e, by rw [n2, hny], .inr a2, (x.set (by omega)).set (by omega), by simp only [↓opStep_eq, ↓reduceIte, ↓EW, EV, Nat.reduceAdd, Nat.reduceEqDiff, Int.reduceEq, Int.reduceLT, Int.reduceLE, Int.reduceNe, seqC, retC, skipC, exitC, blockC, condC, t12], by simp only [↓opStep_eq, ↓reduceIte, ↓EW, EV, Nat.reduceAdd, Nat.reduceEqDiff, Int.reduceEq, Int.reduceLT, Int.reduceLE, Int.reduceNe, seqC, retC, skipC, exitC, blockC, condC]⟩
  · simp only [if_pos]
    exact hQ hy _ ky hny (x.set (by omega))

theorem does_law (L n : Nat) (hL : 300000 < L) (v0 : Value) (ds : List Dd) (h : H) (rd : Rd h v0 ds) (gl : Gl h) :
    Sp (CF L (n + 28)) 5 [v0] h fun r h' => r = .bool true := by
  refine Sp.body f5 (by simp) ?_
  unfold c5
  refine C.seq fun K hK => ?_
  simp only [↓opStep_eq, ↓reduceIte, ↓EW, EV, Nat.reduceAdd, Nat.reduceEqDiff, Int.reduceEq, Int.reduceLT, Int.reduceLE, Int.reduceNe, seqC, retC, skipC, exitC, blockC, condC, r5_0]
  refine hK .norm _ _ (C.seq (C.seq fun K hK => ?_))
  simp only [↓opStep_eq, ↓reduceIte, ↓EW, EV, Nat.reduceAdd, Nat.reduceEqDiff, Int.reduceEq, Int.reduceLT, Int.reduceLE, Int.reduceNe, seqC, retC, skipC, exitC, blockC, condC, r5_1, rd.len]
  refine hK _ _ _ (C.cond (decide ((400 : Int) < (ds.length : Int))) (by simp only [↓opStep_eq, ↓reduceIte, ↓EW, EV, Nat.reduceAdd, Nat.reduceEqDiff, Int.reduceEq, Int.reduceLT, Int.reduceLE, Int.reduceNe, seqC, retC, skipC, exitC, blockC, condC]) (fun g => C.seq fun K hK => ?_) fun g => C.skip (C.seq fun K hK => ?_))
  · simp only [↓opStep_eq, ↓reduceIte, ↓EW, EV, Nat.reduceAdd, Nat.reduceEqDiff, Int.reduceEq, Int.reduceLT, Int.reduceLE, Int.reduceNe, seqC, retC, skipC, exitC, blockC, condC, r5_2]
    exact hK .norm _ _ (C.ret ⟨.inr rfl, _, rfl, by simp only [↓opStep_eq, ↓reduceIte, ↓EW, EV, Nat.reduceAdd, Nat.reduceEqDiff, Int.reduceEq, Int.reduceLT, Int.reduceLE, Int.reduceNe, seqC, retC, skipC, exitC, blockC, condC, resOf]⟩)
  have hds : ds.length ≤ 400 := by have := of_decide_eq_false g; omega
  simp only [↓opStep_eq, ↓reduceIte, ↓EW, EV, Nat.reduceAdd, Nat.reduceEqDiff, Int.reduceEq, Int.reduceLT, Int.reduceLE, Int.reduceNe, seqC, retC, skipC, exitC, blockC, condC, r5_3]
  refine new_law L (n + 26) 401 h _ fun r h1 hq => ?_
  obtain ⟨O, b, rfl, st, k1, ho⟩ := hq
  refine hK _ _ _ (C.seq fun K hK => ?_)
  have k2 := keep_alloc h1 (.rw [.slice none 0 0]) (.rw [.slice none 0 0])
  have b2 := has_alloc h1 (.rw [.slice none 0 0]) (.rw [.slice none 0 0])
  simp only [↓opStep_eq, ↓reduceIte, ↓EW, EV, Nat.reduceAdd, Nat.reduceEqDiff, Int.reduceEq, Int.reduceLT, Int.reduceLE, Int.reduceNe, seqC, retC, skipC, exitC, blockC, condC, r5_4, aggNil, st1 (Has.new h1 (.rw [.slice none 0 0])) none 0 0]
  generalize (h1.new (.rw [.slice none 0 0])).put h1.next (.rw [.slice none 0 0]) = h2 at *
  have mid : Mid 401 h O h2 b h1.next [] [] 0 (.slice none 0 0) :=
    ⟨k1.then k2, ho, ⟨st.keep0 k2, by omega, .inl ⟨rfl, rfl⟩, fun c hc => by rw [blk_nil] at hc; exact hc.elim, ⟨.refl _, .nil⟩⟩, b2, st.far (Nat.le_refl _), k1.next⟩
  refine hK _ _ _ (C.seq ?_)
  refine does_loop L n hL rd hds gl mid _ ⟨by simp only [↓opStep_eq, ↓reduceIte, ↓EW, EV, Nat.reduceAdd, Nat.reduceEqDiff, Int.reduceEq, Int.reduceLT, Int.reduceLE, Int.reduceNe, seqC, retC, skipC, exitC, blockC, condC], by simp only [↓opStep_eq, ↓reduceIte, ↓EW, EV, Nat.reduceAdd, Nat.reduceEqDiff, Int.reduceEq, Int.reduceLT, Int.reduceLE, Int.reduceNe, seqC, retC, skipC, exitC, blockC, condC], by simp only [↓opStep_eq, ↓reduceIte, ↓EW, EV, Nat.reduceAdd, Nat.reduceEqDiff, Int.reduceEq, Int.reduceLT, Int.reduceLE, Int.reduceNe, seqC, retC, skipC, exitC, blockC, condC]⟩ _ (fun O l es m v h3 tm mid x => ?_) fun tm h3 t2 => ⟨.inr rfl, _, rfl, by simp only [resOf, t2]⟩
  have hl : l.length ≤ 401 := mid.sb.st.cnt
  have hes : es.length ≤ 401 := mid.sb.st.blen mid.sb.bo
  refine C.seq fun K hK => ?_
  simp only [↓opStep_eq, ↓reduceIte, ↓EW, EV, Nat.reduceAdd, Nat.reduceEqDiff, Int.reduceEq, Int.reduceLT, Int.reduceLE, Int.reduceNe, seqC, retC, skipC, exitC, blockC, condC, r5_17, x.t3]
  refine all_law L n 401 (by decide) hL mid.sb.st (gl.keep0 mid.k) _ fun r h4 hq => ?_
  obtain ⟨v4, f4, rfl, aq4, k4, far4⟩ := hq
  have mid4 := mid.keep0 k4
  have rn4 := aq4.rn mid.sb.bo
  simp only [↓opStep_eq, ↓reduceIte, ↓EW, EV, Nat.reduceAdd, Nat.reduceEqDiff, Int.reduceEq, Int.reduceLT, Int.reduceLE, Int.reduceNe, seqC, retC, skipC, exitC, blockC, condC, tupNth_tuple]
  refine hK _ _ _ (C.seq (C.seq fun K hK => ?_))
  simp only [↓opStep_eq, ↓reduceIte, ↓EW, EV, Nat.reduceAdd, Nat.reduceEqDiff, Int.reduceEq, Int.reduceLT, Int.reduceLE, Int.reduceNe, seqC, retC, skipC, exitC, blockC, condC, Bool.true_or, Bool.false_or, Bool.or_true, Bool.or_false, Bool.true_and, Bool.false_and, Bool.and_true, Bool.and_false, r5_18, x.t4, la1 mid4.hb]
  refine all19_law L (n + 26) mid4.sb.rw (by omega) (by omega) _ fun r h5 hq => ?_
  obtain ⟨nl5, k5⟩ := hq
  refine same_law17 L (n + 26) (rn4.keep0 k5) (nl5.rn mid.sb.bo) (by omega) (by omega) _ fun r h6 hq => ?_
  obtain ⟨rfl, k6⟩ := hq
  simp only [↓opStep_eq, ↓reduceIte, ↓EW, EV, Nat.reduceAdd, Nat.reduceEqDiff, Int.reduceEq, Int.reduceLT, Int.reduceLE, Int.reduceNe, seqC, retC, skipC, exitC, blockC, condC, Bool.true_or, Bool.false_or, Bool.or_true, Bool.or_false, Bool.true_and, Bool.false_and, Bool.and_true, Bool.and_false]
  have k46 := k5.then k6
  have mid6 := mid4.keep0 k46
  refine hK _ _ _ (C.cond false (by simp only [↓opStep_eq, ↓reduceIte, ↓EW, EV, Nat.reduceAdd, Nat.reduceEqDiff, Int.reduceEq, Int.reduceLT, Int.reduceLE, Int.reduceNe, seqC, retC, skipC, exitC, blockC, condC]) (fun g => by cases g) fun _ => C.skip (C.seq ?_))
  obtain ⟨B, arr, hB⟩ : ∃ B, ((v4 = .slice none 0 0 ∧ l.length = 0) ∨ Arr h6 B v4 l.length (fun k => (es.map Ent.key).getD k default)) ∧ (v4 = .slice none 0 0 ∨ h3.next ≤ B) := by
    rcases rn4.keep0 k46 with e | ⟨B, a⟩
    · exact ⟨0, .inl e, .inl e.1⟩
    · refine ⟨B, .inr a, .inr (far4 B ?_)⟩
      obtain ⟨cap, cs, e, h1, _⟩ := a.ex
      rw [h1, blk_some]
  by_cases hz : v4 = .slice none 0 0 ∧ l.length = 0
  · -- no name
    refine over_loop L n hL (B := h6.next) (n := 0) (v := v4) (f := fun _ => default) (by omega) (.inl ⟨hz.1, rfl⟩) _ ((x.set (by omega)).set (by omega) |>.set (by omega)) (by simp only [↓opStep_eq, ↓reduceIte, ↓EW, EV, Nat.reduceAdd, Nat.reduceEqDiff, Int.reduceEq, Int.reduceLT, Int.reduceLE, Int.reduceNe, seqC, retC, skipC, exitC, blockC, condC]) _ fun h7 tm7 k7 n7 x7 => ?_
    have mid7 := mid6.over k7 (lo := h6.next) (fun c e => by omega) mid6.k.next mid6.hb.1 (fun c hc => mid6.sb.rw.lt hc) (fun c hc => mid6.sb.st.far hc)
    refine C.seq fun K hK => ?_
    simp only [↓opStep_eq, ↓reduceIte, ↓EW, EV, Nat.reduceAdd, Nat.reduceEqDiff, Int.reduceEq, Int.reduceLT, Int.reduceLE, Int.reduceNe, seqC, retC, skipC, exitC, blockC, condC, r5_24, x7.t3]
    refine all_law L n 401 (by decide) hL mid7.sb.st (gl.keep0 mid7.k) _ fun r h8 hq => ?_
    obtain ⟨v8, f8, rfl, aq8, k8, far8⟩ := hq
    have mid8 := mid7.keep0 k8
    simp only [↓opStep_eq, ↓reduceIte, ↓EW, EV, Nat.reduceAdd, Nat.reduceEqDiff, Int.reduceEq, Int.reduceLT, Int.reduceLE, Int.reduceNe, seqC, retC, skipC, exitC, blockC, condC, tupNth_tuple]
    refine hK _ _ _ (C.seq fun K hK => ?_)
    simp only [↓opStep_eq, ↓reduceIte, ↓EW, EV, Nat.reduceAdd, Nat.reduceEqDiff, Int.reduceEq, Int.reduceLT, Int.reduceLE, Int.reduceNe, seqC, retC, skipC, exitC, blockC, condC, Bool.true_or, Bool.false_or, Bool.or_true, Bool.or_false, Bool.true_and, Bool.false_and, Bool.and_true, Bool.and_false, r5_25, x7.t4, la1 mid8.hb]
    refine all19_law L (n + 26) mid8.sb.rw (by omega) (by omega) _ fun r h9 hq => ?_
    obtain ⟨nl9, k9⟩ := hq
    refine same_law17 L (n + 26) ((aq8.rn mid.sb.bo).keep0 k9) (nl9.rn mid.sb.bo) (by omega) (by omega) _ fun r h10 hq => ?_
    obtain ⟨rfl, k10⟩ := hq
    exact hK _ _ _ (C.ret ⟨.inr rfl, _, rfl, by simp only [↓opStep_eq, ↓reduceIte, ↓EW, EV, Nat.reduceAdd, Nat.reduceEqDiff, Int.reduceEq, Int.reduceLT, Int.reduceLE, Int.reduceNe, seqC, retC, skipC, exitC, blockC, condC, resOf]⟩)
  · have a : Arr h6 B v4 l.length (fun k => (es.map Ent.key).getD k default) := by
      rcases arr with e | a
      · exact absurd e hz
      · exact a
    have hBlo : h3.next ≤ B := by
      rcases hB with e | e
      · obtain ⟨cap, cs, e2, h1, _⟩ := a.ex
        rw [e] at h1; cases h1
      · exact e
    refine over_loop L n hL (B := B) (n := l.length) (v := v4) (by omega) (.inr a) _ ((x.set (by omega)).set (by omega) |>.set (by omega)) (by simp only [↓opStep_eq, ↓reduceIte, ↓EW, EV, Nat.reduceAdd, Nat.reduceEqDiff, Int.reduceEq, Int.reduceLT, Int.reduceLE, Int.reduceNe, seqC, retC, skipC, exitC, blockC, condC]) _ fun h7 tm7 k7 n7 x7 => ?_
    have mid7 := mid6.over k7 (lo := h3.next) (fun c e => by omega) mid.k.next mid.hb.1 (fun c hc => mid.sb.rw.lt hc) (fun c hc => mid.sb.st.far hc)
    refine C.seq fun K hK => ?_
    simp only [↓opStep_eq, ↓reduceIte, ↓EW, EV, Nat.reduceAdd, Nat.reduceEqDiff, Int.reduceEq, Int.reduceLT, Int.reduceLE, Int.reduceNe, seqC, retC, skipC, exitC, blockC, condC, r5_24, x7.t3]
    refine all_law L n 401 (by decide) hL mid7.sb.st (gl.keep0 mid7.k) _ fun r h8 hq => ?_
    obtain ⟨v8, f8, rfl, aq8, k8, far8⟩ := hq
    have mid8 := mid7.keep0 k8
    simp only [↓opStep_eq, ↓reduceIte, ↓EW, EV, Nat.reduceAdd, Nat.reduceEqDiff, Int.reduceEq, Int.reduceLT, Int.reduceLE, Int.reduceNe, seqC, retC, skipC, exitC, blockC, condC, tupNth_tuple]
    refine hK _ _ _ (C.seq fun K hK => ?_)
    simp only [↓opStep_eq, ↓reduceIte, ↓EW, EV, Nat.reduceAdd, Nat.reduceEqDiff, Int.reduceEq, Int.reduceLT, Int.reduceLE, Int.reduceNe, seqC, retC, skipC, exitC, blockC, condC, Bool.true_or, Bool.false_or, Bool.or_true, Bool.or_false, Bool.true_and, Bool.false_and, Bool.and_true, Bool.and_false, r5_25, x7.t4, la1 mid8.hb]
    refine all19_law L (n + 26) mid8.sb.rw (by omega) (by omega) _ fun r h9 hq => ?_
    obtain ⟨nl9, k9⟩ := hq
    refine same_law17 L (n + 26) ((aq8.rn mid.sb.bo).keep0 k9) (nl9.rn mid.sb.bo) (by omega) (by omega) _ fun r h10 hq => ?_
    obtain ⟨rfl, k10⟩ := hq
    exact hK _ _ _ (C.ret ⟨.inr rfl, _, rfl, by simp only [↓opStep_eq, ↓reduceIte, ↓EW, EV, Nat.reduceAdd, Nat.reduceEqDiff, Int.reduceEq, Int.reduceLT, Int.reduceLE, Int.reduceNe, seqC, retC, skipC, exitC, blockC, condC, resOf]⟩)
end Go.Proofs.YtbdmhdidehfmoaaDoor
