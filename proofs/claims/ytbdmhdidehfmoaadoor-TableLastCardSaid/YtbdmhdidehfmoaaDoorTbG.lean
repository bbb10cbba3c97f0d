import Derived.Test.YtbdmhdidehfmoaaDoorTbF
set_option linter.unusedSimpArgs false
set_option linter.unusedVariables false
namespace Go.Proofs.YtbdmhdidehfmoaaDoor
open Go.Ev

theorem store_one {h : H} {b o : Nat} {s} {cs : List Value} {v : Value} (a : Has h b (.rw cs)) (ho : o < cs.length) (hv : v.cells = #[v]) (h1 : ones [v] = true) : storeV 1 h (.pointer (some ⟨b, o, s⟩)) v = some (h.put b (.rw (cs.set o v))) := by
  unfold storeV
  have e1 : v.cells.size = 1 := by rw [hv]; rfl
  have e2 : v.cells.toList = [v] := by rw [hv]
  simp only [e1, e2, Nat.beq_refl, H.write, h1, a.2]
  rw [putAt_one _ _ _ ho]
theorem store_op {h : H} {b o e : Nat} {s} {cs : List Value} {v : Value} (a : Has h b (.op cs e)) (ho : o < cs.length) (hv : v.cells = #[v]) (h1 : ones [v] = true) : storeV 1 h (.pointer (some ⟨b, o, s⟩)) v = some (h.put b (.op (cs.set o v) e)) := by
  unfold storeV
  have e1 : v.cells.size = 1 := by rw [hv]; rfl
  have e2 : v.cells.toList = [v] := by rw [hv]
  simp only [e1, e2, Nat.beq_refl, H.write, h1, a.2]
  rw [putAt_one _ _ _ ho]
theorem store_int {h : H} {b o : Nat} {s} {cs : List Value} {k : IntKind} {n : Int} (a : Has h b (.rw cs)) (ho : o < cs.length) : storeV 1 h (.pointer (some ⟨b, o, s⟩)) (.int k n) = some (h.put b (.rw (cs.set o (.int k n)))) := store_one a ho rfl rfl

/-- a row is turned -/
theorem RowsP.set {S : Nat → Prop} {O O' : Nat → Tag} {h h' : H} {s : Bool} {B : Nat} {vs : List Value} {rs : List (List Ent)} (a : RowsP O h s B vs rs) {i : Nat} {v' : Value} {es' : List Ent} (hi : i < rs.length) (k : Keep S h h') (hS : ∀ b, S b → O b = .row s i) (hO : ∀ b, b < h.next → O' b = O b) (ow : Own O' h' (.row s i) v' es') :
    RowsP O' (h'.put B (.rw (vs.set i v'))) s B (vs.set i v') (rs.set i es') := by
  have hB : O' B = .base s := (hO B a.hb.1).trans a.ob
  have hb' := a.hb.keep k fun hs => by have := hS _ hs; rw [a.ob] at this; cases this
  refine ⟨Has.put hb'.1, hB, by rw [List.length_set, List.length_set, a.len], fun j v es h1 h2 => ?_⟩
  have kp := Keep.put h' B (.rw (vs.set i v'))
  by_cases hij : i = j
  · subst hij
    rw [List.getElem?_set_self (by rw [a.len]; exact hi)] at h1
    rw [List.getElem?_set_self hi] at h2
    cases h1; cases h2
    exact ow.keep kp fun b hb ho => ⟨(fun e => by subst e; rw [hB] at ho; cases ho), ho⟩
  · rw [List.getElem?_set_ne hij] at h1 h2
    refine (a.own j v es h1 h2).keep ((k.mono (S' := fun b => S b ∨ b = B) fun _ _ h => .inl h).trans kp fun _ _ e => .inr e) fun b hb ho => ⟨?_, (hO b hb).trans ho⟩
    rintro (e | e)
    · have := hS b e; rw [ho] at this; cases this; exact hij rfl
    · subst e; rw [a.ob] at ho; cases ho


theorem mkE (b : Nat) (e : Ent) : mkLit 1 b (fill (repl [(.int .i64 (0)), (.string (strB [])), (.int .i64 (0))] 1) (pl 3) [(0, .agg e.cells.toArray)]) = some (.rw e.cells, .slice (some ⟨b, 0, none⟩) 1 1) := rfl

/-- what a put leaves -/
structure PutQ (O : Nat → Tag) (h : H) (s : Bool) (b o B : Nat) (tc vs : List Value) (rs : List (List Ent)) (i : Nat) (es' : List Ent) (n' : Int) (O' : Nat → Tag) (h' : H) : Prop where
  keep : Keep (fun c => O c = .row s i ∨ c = B ∨ c = b) h h'
  same : ∀ c, c < h.next → O' c = O c
  far : ∀ c, h'.next ≤ c → O' c = O c
  some : ∀ c, O' c = O c ∨ O' c = .row s i
  tab : Has h' b (.rw (tc.set (o + 1) (.int .i64 n')))
  rows : ∃ vs', RowsP O' h' s B vs' (rs.set i es')

theorem put_law (L n N : Nat) {O : Nat → Tag} {h : H} {s : Bool} {b o B : Nat} {tc vs : List Value} {rs : List (List Ent)} {m : Nat} (hb : Has h b (.rw tc)) (ho : o + 1 < tc.length) (hv : tc[o]? = some (.slice (some ⟨B, 0, none⟩) rs.length rs.length)) (hm : tc[o + 1]? = some (.int .i64 (m : Int))) (htag : O b = .tab) (rp : RowsP O h s B vs rs) (hpos : 0 < rs.length) (hle : rs.length ≤ 1000000) (e : Ent)
    {es : List Ent} (hes : rs[idx e.t e.k rs.length]? = some es) (hsz : es.length ≤ 1000000) (hm2 : m ≤ 1000000) (hL : e.k.size + 1 < L) (hk : e.k.size ≤ 100000) :
    Sp (CF L (n + 3)) 25 [.pointer (some ⟨b, o, none⟩), .agg e.cells.toArray] h fun r h' => r = .tuple #[] ∧ ∃ O', PutQ O h s b o B tc vs rs (idx e.t e.k rs.length) (es ++ [e]) ((m + 1 : Nat) : Int) O' h' := by
  refine Sp.body f25 (by simp) ?_
  unfold c25
  have k1 := Keep.new h (.rw e.cells)
  have b1 := Has.new h (.rw e.cells)
  have hc : (Value.cells (.agg e.cells.toArray)).toList = e.cells := by simp
  refine C.seq fun K hK => ?_
  simp only [↓opStep_eq, ↓reduceIte, tg_set, toTm_cons, toTm_nil, fieldPtr_ptr, Nat.add_zero, Nat.zero_add, Nat.reduceAdd, Nat.reduceEqDiff, Int.reduceEq, Int.reduceLT, Int.reduceLE, Int.reduceNe, ↓kO_some, ↓kA_some, ↓kH_some, kO_some, kA_some, kH_some, gd_true, gd_false, nthD_zero, nthD_succ, isB_true, isB_false, isB_undef, pickV_true, pickV_false, binV_add, binV_sub, binV_mul, binV_eql, binV_neq, binV_lss, binV_leq, binV_gtr, binV_geq, unV_not, nt, nf, Bool.false_eq_true, dt, df, decide_true, decide_false, withV_some, aggO_some, ptrTo_eq, ↓aO_some, aO_some, ↓andB_true, andB_true, gz, gs, seqC, retC, skipC, exitC, blockC, condC, cells_agg, r25_0, hc]
  generalize h.new (.rw e.cells) = h1 at *
  have lda2 : ∀ hx, Has hx h.next (.rw e.cells) → ∀ s, loadAgg 2 hx (.pointer (some ⟨h.next, 0, s⟩)) = some (nameV e.t e.k) := fun hx b s => loadAgg_has b rfl (by simp [Ent.cells])
  have lda3 : ∀ hx, Has hx h.next (.rw e.cells) → ∀ s, loadAgg 3 hx (.pointer (some ⟨h.next, 0, s⟩)) = some (.agg e.cells.toArray) := fun hx b s => loadAgg_has b rfl (by simp [Ent.cells])
  refine hK _ _ _ (C.seq fun K hK => ?_)
  simp only [↓opStep_eq, ↓reduceIte, tg_set, toTm_cons, toTm_nil, fieldPtr_ptr, Nat.add_zero, Nat.zero_add, Nat.reduceAdd, Nat.reduceEqDiff, Int.reduceEq, Int.reduceLT, Int.reduceLE, Int.reduceNe, ↓kO_some, ↓kA_some, ↓kH_some, kO_some, kA_some, kH_some, gd_true, gd_false, nthD_zero, nthD_succ, isB_true, isB_false, isB_undef, pickV_true, pickV_false, binV_add, binV_sub, binV_mul, binV_eql, binV_neq, binV_lss, binV_leq, binV_gtr, binV_geq, unV_not, nt, nf, Bool.false_eq_true, dt, df, decide_true, decide_false, withV_some, aggO_some, ptrTo_eq, ↓aO_some, aO_some, ↓andB_true, andB_true, gz, gs, seqC, retC, skipC, exitC, blockC, condC, cells_agg, r25_1, lda2 _ b1]
  refine row_law L n e.t e.k ⟨b, o, none⟩ B rs.length h1 (fun hx kx s => by rw [loadOne_has (hb.keep0 (k1.then kx)) rfl]; exact hv) hpos hle hL hk _ fun r h2 hq => ?_
  obtain ⟨rfl, k2⟩ := hq
  have k12 := k1.then k2
  have hlt := idx_lt e.t e.k hpos hle
  obtain ⟨vi, es1, e1, e2, ow, ldr⟩ := rp.at hlt
  rw [hes] at e2
  cases e2
  refine hK _ _ _ (C.seq fun K hK => ?_)
  have kr := keep_room h2 9
  have kp := Keep.put ⟨h2.objs, h2.next + 9⟩ (h2.next + 5) (.rw e.cells)
  have k3 : Keep nobody h2 ((⟨h2.objs, h2.next + 9⟩ : H).put (h2.next + 5) (.rw e.cells)) := ⟨kr.next, fun c hc hn => (kp.same c (by show c < h2.next + 9; omega) (by omega)).trans (kr.same c hc hn)⟩
  have b5 : Has ((⟨h2.objs, h2.next + 9⟩ : H).put (h2.next + 5) (.rw e.cells)) (h2.next + 5) (.rw e.cells) := Has.put (by show _ < h2.next + 9; omega)
  have k13 := k12.then k3
  have owr := ow.keep k13 (O' := O) fun _ _ h => ⟨id, h⟩
  have fv : firstV ((⟨h2.objs, h2.next + 9⟩ : H).put (h2.next + 5) (.rw e.cells)) 3 1 (.slice (some ⟨h2.next + 5, 0, none⟩) 1 1) = some e.cells := by
    simp only [firstV]
    rw [row_has b5 rfl (by simp [Ent.cells])]; rfl
  obtain ⟨v', h4, O', ea, own', ka, sa, fa, oa⟩ := owr.append e (x := .slice (some ⟨h2.next + 5, 0, none⟩) 1 1) rfl fv hsz
  have hB4 : Has h4 B (.rw vs) := (rp.hb.keep0 k13).keep ka fun hs => by rw [rp.ob] at hs; cases hs
  have ld5 : ∀ s, loadOne (⟨h2.objs, h2.next + 9⟩ : H) (.pointer (some ⟨B, idx e.t e.k rs.length, s⟩)) = some vi := fun s => ldr _ (k12.then kr) s
  have ob : ∃ a q c, v' = .slice a q c := own'.form
  have st : ∀ s, storeV 1 h4 (.pointer (some ⟨B, idx e.t e.k rs.length, s⟩)) v' = some (h4.put B (.rw (vs.set (idx e.t e.k rs.length) v'))) := fun s => by
    obtain ⟨a, q, c, rfl⟩ := ob
    exact store_one hB4 (by rw [rp.len]; exact hlt) rfl rfl
  have hlt2 : h1.next ≤ h2.next := k2.next
  have k04 : Keep (fun c => O c = .row s (idx e.t e.k rs.length)) h h4 := (k13.mono fun _ _ h => h.elim).trans ka fun _ _ h => h
  have hn3 : h.next ≤ ((⟨h2.objs, h2.next + 9⟩ : H).put (h2.next + 5) (.rw e.cells)).next := k13.next
  have rset := rp.set (O' := O') (v' := v') (es' := es ++ [e]) hlt k04 (fun _ h => h) (fun c hc => sa c (by omega)) own'
  have kB := Keep.put h4 B (.rw (vs.set (idx e.t e.k rs.length) v'))
  have hbB : b ≠ B := fun h => by rw [h, rp.ob] at htag; cases htag
  have hb5 : Has (h4.put B (.rw (vs.set (idx e.t e.k rs.length) v'))) b (.rw tc) := ((hb.keep k04 fun h => by rw [htag] at h; cases h)).keep kB hbB
  have b1r : Has (⟨h2.objs, h2.next + 9⟩ : H) h.next (.rw e.cells) := (b1.keep0 k2).keep0 kr
  simp only [↓opStep_eq, ↓reduceIte, tg_set, toTm_cons, toTm_nil, fieldPtr_ptr, Nat.add_zero, Nat.zero_add, Nat.reduceAdd, Nat.reduceEqDiff, Int.reduceEq, Int.reduceLT, Int.reduceLE, Int.reduceNe, ↓kO_some, ↓kA_some, ↓kH_some, kO_some, kA_some, kH_some, gd_true, gd_false, nthD_zero, nthD_succ, isB_true, isB_false, isB_undef, pickV_true, pickV_false, binV_add, binV_sub, binV_mul, binV_eql, binV_neq, binV_lss, binV_leq, binV_gtr, binV_geq, unV_not, nt, nf, Bool.false_eq_true, dt, df, decide_true, decide_false, withV_some, aggO_some, ptrTo_eq, ↓aO_some, aO_some, ↓andB_true, andB_true, gz, gs, seqC, retC, skipC, exitC, blockC, condC, cells_agg, r25_2, nilChk_some, ld5, lda3 _ b1r, mkE, ea, st]
  refine hK _ _ _ fun K hK => ?_
  have ld6 : ∀ s, loadOne (h4.put B (.rw (vs.set (idx e.t e.k rs.length) v'))) (.pointer (some ⟨b, o + 1, s⟩)) = some (.int .i64 (m : Int)) := fun s => by rw [loadOne_has hb5 rfl]; exact hm
  have hw : IntKind.i64.wrap ((m : Int) + 1) = ((m + 1 : Nat) : Int) := by
    rw [show (m : Int) + 1 = ((m + 1 : Nat) : Int) by omega, wrap_i64 _ (by omega)]
  have st7 := fun s => store_int (s := s) (k := .i64) (n := ((m + 1 : Nat) : Int)) hb5 ho
  simp only [↓opStep_eq, ↓reduceIte, tg_set, toTm_cons, toTm_nil, fieldPtr_ptr, Nat.add_zero, Nat.zero_add, Nat.reduceAdd, Nat.reduceEqDiff, Int.reduceEq, Int.reduceLT, Int.reduceLE, Int.reduceNe, ↓kO_some, ↓kA_some, ↓kH_some, kO_some, kA_some, kH_some, gd_true, gd_false, nthD_zero, nthD_succ, isB_true, isB_false, isB_undef, pickV_true, pickV_false, binV_add, binV_sub, binV_mul, binV_eql, binV_neq, binV_lss, binV_leq, binV_gtr, binV_geq, unV_not, nt, nf, Bool.false_eq_true, dt, df, decide_true, decide_false, withV_some, aggO_some, ptrTo_eq, ↓aO_some, aO_some, ↓andB_true, andB_true, gz, gs, seqC, retC, skipC, exitC, blockC, condC, cells_agg, r25_3, nilChk_some, ld6, hw, st7]
  have kb := Keep.put (h4.put B (.rw (vs.set (idx e.t e.k rs.length) v'))) b (.rw (tc.set (o + 1) (.int .i64 ((m + 1 : Nat) : Int))))
  refine hK _ _ _ ⟨.inl rfl, _, rfl, rfl, O', ⟨?_, fun c hc => sa c (by omega), fun c hc => fa c hc, oa, Has.put hb5.1, _, rset.keep kb fun c hc ho => ⟨fun e => ?_, rfl⟩⟩⟩
  · exact ((k04.mono fun _ _ h => Or.inl h).trans kB fun _ _ h => .inr (.inl h)).trans kb fun _ _ h => .inr (.inr h)
  · rw [e, sa b (by have := hb.1; omega), htag] at ho
    rcases ho with ho | ⟨_, ho⟩ <;> cases ho
end Go.Proofs.YtbdmhdidehfmoaaDoor
