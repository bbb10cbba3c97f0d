import Derived.Test.YtpoedopdcpejmaaWeA
set_option linter.unusedSimpArgs false
set_option linter.unusedVariables false
namespace Go.Proofs.Ytpoedopdcpejmaa
open Go.Ev

theorem nodup_of {α β : Type} {f : α → β} : ∀ {l : List α}, (l.map f).Nodup → l.Nodup
  | [], _ => .nil
  | x :: r, h => by
    rw [List.map_cons, List.nodup_cons] at h
    exact List.nodup_cons.2 ⟨fun hm => h.1 (List.mem_map.2 ⟨x, hm, rfl⟩), nodup_of h.2⟩

/-! ### names being gathered, in blocks of their own -/
def Nq (P : Nat → Prop) (h : H) (v : Value) (ns : List Nm) : Prop := (v = .slice none 0 0 ∧ ns = []) ∨ ∃ b cap, v = .slice (some ⟨b, 0, none⟩) ns.length cap ∧ OpenC2 cap ∧ Has h b (.op (cellsN ns) 2) ∧ P b
theorem Nq.keep {P S : Nat → Prop} {h h' : H} {v : Value} {ns : List Nm} (a : Nq P h v ns) (k : Keep S h h') (hs : ∀ c, S c → ¬ P c) : Nq P h' v ns := by
  rcases a with a | ⟨b, cap, e, c, hb, l⟩
  · exact .inl a
  · exact .inr ⟨b, cap, e, c, hb.keep k fun e => hs b e l, l⟩
theorem Nq.keep0 {P : Nat → Prop} {h h' : H} {v : Value} {ns : List Nm} (a : Nq P h v ns) (k : Keep nobody h h') : Nq P h' v ns := a.keep k fun _ e => e.elim
theorem Nq.mono {P P' : Nat → Prop} {h : H} {v : Value} {ns : List Nm} (a : Nq P h v ns) (hp : ∀ c, c < h.next → P c → P' c) : Nq P' h v ns := by
  rcases a with a | ⟨b, cap, e, c, hb, l⟩
  · exact .inl a
  · exact .inr ⟨b, cap, e, c, hb, hp b hb.1 l⟩
theorem Nq.len {P : Nat → Prop} {h : H} {v : Value} {ns : List Nm} (a : Nq P h v ns) : lenSl v = some (.int .i64 (ns.length : Int)) := by
  rcases a with ⟨rfl, rfl⟩ | ⟨b, cap, rfl, _⟩ <;> rfl
theorem Nq.append {P : Nat → Prop} {h : H} {v : Value} {ns : List Nm} (a : Nq P h v ns) (x : Nm) {lb : Nat} (hb : Has h lb (.rw [.int .i64 x.1, .string x.2])) (hP : ∀ c, h.next ≤ c → P c) (hsz : ns.length ≤ 1000000) :
    ∃ v' h', appendV 2 24 h v (.slice (some ⟨lb, 0, none⟩) 1 1) = some (v', h') ∧ Nq P h' v' (ns ++ [x]) ∧ Keep P h h' := by
  have fv : firstV h 2 1 (.slice (some ⟨lb, 0, none⟩) 1 1) = some [.int .i64 x.1, .string x.2] := by
    simp only [firstV]
    rw [row_has hb rfl (by simp)]; rfl
  have hap : ∀ base sl sc, appendV 2 24 h (.slice base sl sc) (.slice (some ⟨lb, 0, none⟩) 1 1) = appTo 2 24 h base sl sc 1 [.int .i64 x.1, .string x.2] := fun base sl sc => by
    unfold appendV
    simp only [lenV, fv]
    rfl
  have hgrow : ∀ (h0 : H), h0.next = h.next → Keep P h h0 → ∃ v' h', grow h0 (cellsN ns) [.int .i64 x.1, .string x.2] (ns.length + 1) 2 = some (v', h') ∧ Nq P h' v' (ns ++ [x]) ∧ Keep P h h' := fun h0 hn hk => by
    have e : cellsN (ns ++ [x]) = cellsN ns ++ [.int .i64 x.1, .string x.2] := by rw [cellsN_append]; rfl
    exact ⟨_, _, rfl, .inr ⟨h0.next, opCap (ns.length + 1) 2, by simp, openC2 _, by rw [e]; exact .new _ _, hP _ (by omega)⟩, hk.then (.new _ _)⟩
  rcases a with ⟨rfl, rfl⟩ | ⟨b, cap, rfl, c, hb1, l⟩
  · rw [hap]
    have : appTo 2 24 h none 0 0 1 [.int .i64 x.1, .string x.2] = grow h [] [.int .i64 x.1, .string x.2] 1 2 := rfl
    rw [this]
    exact hgrow h rfl (.refl _ _)
  · rw [hap]
    have h1 : appTo 2 24 h (some ⟨b, 0, none⟩) ns.length cap 1 [.int .i64 x.1, .string x.2] = appOpen 2 h ⟨b, 0, none⟩ ns.length cap 1 [.int .i64 x.1, .string x.2] := by
      unfold appTo
      simp only
      rw [Nat.ble_eq_true_of_le (show (ns.length + 1) * 24 ≤ 140737488355328 by omega), Nat.ble_eq_true_of_le (show ns.length + 1 ≤ 9223372036854775807 by omega)]
      simp only [c.1, Bool.and_self]
    rw [h1]
    unfold appOpen
    have h2 : Ev.ones [Value.int .i64 x.1, .string x.2] = true := rfl
    have e3 : putAt (cellsN ns) (0 + ns.length * 2) [Value.int .i64 x.1, .string x.2] = none := by
      rw [show 0 + ns.length * 2 = (cellsN ns).length by rw [cellsN_len]; omega]
      exact putAt_end _ _ _
    have e4 : cut (cellsN ns) 0 = some (cellsN ns) := by simpa using cut_eq (cellsN ns) 0 (by simp)
    have e5 : Nat.beq (0 + ns.length * 2) (cellsN ns).length = true := by rw [show 0 + ns.length * 2 = (cellsN ns).length by rw [cellsN_len]; omega]; exact Nat.beq_refl _
    simp only [c.2, h2, Bool.and_self, hb1.2, e3, e4, e5]
    exact hgrow (h.del b) rfl ((Keep.del h b).mono fun k _ e => by rw [e]; exact l)

section
variable {O : Nat → Prop} {h : H} {b U now lo : Nat} {l : List En} {sv : List Value} {ks : Nat → List Nm}
theorem take_law (L n : Nat) (w : Wm O h b U now l sv ks) {i : Nat} (hi : i < 448) {v : Value} {ns : List Nm} (nq : Nq (lo ≤ ·) h v ns) (hlo : lo ≤ h.next) (hO : ∀ c, O c → c < lo) (hsz : ns.length + (ks i).length ≤ 100000) (hL : 300000 < L) :
    Sp (CF L (n + 1)) 25 [.pointer (some ⟨b, 2 + i, none⟩), v] h fun r h' => ∃ sv' ns', Wm O h' b U now l sv' (ksSet ks i []) ∧ Nq (lo ≤ ·) h' r ns' ∧ ns'.Perm (ns ++ ks i) ∧ Keep (fun c => O c ∨ lo ≤ c) h h' := by
  refine Sp.body f25 (by simp) ?_
  unfold c25
  obtain ⟨v0, hv, ldv⟩ := w.ldSlot hi
  refine C.seq fun K hK => ?_
  simp only [↓opStep_eq, ↓reduceIte, ↓EW, EV, Nat.reduceAdd, Nat.reduceEqDiff, Int.reduceEq, Int.reduceLT, Int.reduceLE, Int.reduceNe, seqC, retC, skipC, exitC, blockC, condC, r25_0]
  refine hK .norm _ _ (C.seq (C.seq fun K hK => ?_))
  -- behind the loop
  have fin : ∀ (h2 : H) (tm : T Value) (ns' : List Nm), Wm O h2 b U now l sv ks → Nq (lo ≤ ·) h2 (tg tm 1) ns' → ns'.Perm (ns ++ ks i) → Keep (fun c => lo ≤ c) h h2 → tg tm 0 = .pointer (some ⟨b, 2 + i, none⟩) →
      C ⟨seqC ⟨r25_5⟩ ⟨seqC ⟨r25_6⟩ retC⟩⟩ (CF L n) L tm h2 fun e tm h' => (e = .norm ∨ e = .ret) ∧ ∃ l_1, q25.f tm h' = some l_1 ∧ ∃ sv' ns', Wm O h' b U now l sv' (ksSet ks i []) ∧ Nq (lo ≤ ·) h' (resOf l_1) ns' ∧ ns'.Perm (ns ++ ks i) ∧ Keep (fun c => O c ∨ lo ≤ c) h h' := fun h2 tm ns' w2 nq2 pm k2 t0 => by
    refine C.seq fun K hK => ?_
    have hs := stMap (s := none) (m := none) w2.hb (o := 2 + i) (by rw [wcells_len w2]; omega)
    rw [wset now U sv i _ (by rw [w2.len]; exact hi)] at hs
    simp only [↓opStep_eq, ↓reduceIte, ↓EW, EV, Nat.reduceAdd, Nat.reduceEqDiff, Int.reduceEq, Int.reduceLT, Int.reduceLE, Int.reduceNe, seqC, retC, skipC, exitC, blockC, condC, r25_5, t0, nilChk_some, hs]
    refine hK _ _ _ (C.seq fun K hK => ?_)
    simp only [↓opStep_eq, ↓reduceIte, ↓EW, EV, Nat.reduceAdd, Nat.reduceEqDiff, Int.reduceEq, Int.reduceLT, Int.reduceLE, Int.reduceNe, seqC, retC, skipC, exitC, blockC, condC, r25_6]
    refine hK _ _ _ (C.ret ⟨.inr rfl, _, rfl, _, ns', w2.clear hi (ksSet ks i []) (ksSet_at _ _ _) (fun j hj => ksSet_ne _ _ _ hj), ?_, pm, (k2.mono (S' := fun c => O c ∨ lo ≤ c) fun c _ e => .inr e).trans (Keep.put _ b _) fun c _ e => .inl (by rw [e]; exact w2.ob)⟩)
    simp only [↓opStep_eq, ↓reduceIte, ↓EW, EV, Nat.reduceAdd, Nat.reduceEqDiff, Int.reduceEq, Int.reduceLT, Int.reduceLE, Int.reduceNe, seqC, retC, skipC, exitC, blockC, condC, resOf]
    exact nq2.keep (Keep.put h2 b _) fun c e hc => by have := hO b w2.ob; have e : c = b := e; omega
  rcases w.slot i v0 hv with ⟨rfl, hk⟩ | ⟨B, rfl, mB, oB, nb, nU⟩
  · -- no map
    have k1 := Keep.new h .nit
    have b1 := Has.new h .nit
    have w1 := w.keep0 k1
    have nq1 := nq.keep0 k1
    simp only [↓opStep_eq, ↓reduceIte, ↓EW, EV, Nat.reduceAdd, Nat.reduceEqDiff, Int.reduceEq, Int.reduceLT, Int.reduceLE, Int.reduceNe, seqC, retC, skipC, exitC, blockC, condC, r25_1, nilChk_some, ldv, rangeMap]
    generalize h.new .nit = h1 at *
    refine hK _ _ _ ?_
    refine C.block (C.loop (fun q tm' hx => hx = h1 ∧ tg tm' 0 = .pointer (some ⟨b, 2 + i, none⟩) ∧ tg tm' 1 = v ∧ tg tm' 9 = .pointer (some ⟨h.next, 0, none⟩)) 1 (by omega)
      ⟨rfl, by simp only [↓opStep_eq, ↓reduceIte, ↓EW, EV, Nat.reduceAdd, Nat.reduceEqDiff, Int.reduceEq, Int.reduceLT, Int.reduceLE, Int.reduceNe, seqC, retC, skipC, exitC, blockC, condC], by simp only [↓opStep_eq, ↓reduceIte, ↓EW, EV, Nat.reduceAdd, Nat.reduceEqDiff, Int.reduceEq, Int.reduceLT, Int.reduceLE, Int.reduceNe, seqC, retC, skipC, exitC, blockC, condC], by simp only [↓opStep_eq, ↓reduceIte, ↓EW, EV, Nat.reduceAdd, Nat.reduceEqDiff, Int.reduceEq, Int.reduceLT, Int.reduceLE, Int.reduceNe, seqC, retC, skipC, exitC, blockC, condC]⟩ ?_)
    rintro q tm hx ⟨rfl, t0, t1, t9⟩
    unfold l25_5
    refine C.seq fun K hK => ?_
    have hn : ∀ K, nextV false hx (.pointer (some ⟨h.next, 0, none⟩)) K = K (.tuple #[.bool false]) hx := fun K => by unfold nextV; simp only [b1.2]
    simp only [↓opStep_eq, ↓reduceIte, ↓EW, EV, Nat.reduceAdd, Nat.reduceEqDiff, Int.reduceEq, Int.reduceLT, Int.reduceLE, Int.reduceNe, seqC, retC, skipC, exitC, blockC, condC, r25_2, t9, hn, tupNth_tuple]
    refine hK _ _ _ (C.seq (C.cond false (by simp only [↓opStep_eq, ↓reduceIte, ↓EW, EV, Nat.reduceAdd, Nat.reduceEqDiff, Int.reduceEq, Int.reduceLT, Int.reduceLE, Int.reduceNe, seqC, retC, skipC, exitC, blockC, condC]) (fun g => by cases g) fun _ => C.exit ?_))
    simp only [if_pos]
    exact fin hx _ ns w1 (by simp only [↓opStep_eq, ↓reduceIte, ↓EW, EV, Nat.reduceAdd, Nat.reduceEqDiff, Int.reduceEq, Int.reduceLT, Int.reduceLE, Int.reduceNe, seqC, retC, skipC, exitC, blockC, condC, t1]; exact nq1) (by rw [hk, List.append_nil]) (k1.mono fun _ _ e => e.elim) (by simp only [↓opStep_eq, ↓reduceIte, ↓EW, EV, Nat.reduceAdd, Nat.reduceEqDiff, Int.reduceEq, Int.reduceLT, Int.reduceLE, Int.reduceNe, seqC, retC, skipC, exitC, blockC, condC, t0])
  · obtain ⟨ts, c, mt, pm⟩ := mB
    have hm : rangeMap h (.map (some B)) = some (ptrTo h.next, h.new (.mit B c [] c)) := by unfold rangeMap; simp only [mt.has.2]
    have k1 := Keep.new h (.mit B c [] c)
    have b1 := Has.new h (.mit B c [] c)
    have w1 := w.keep0 k1
    have nq1 : Nq (fun c => lo ≤ c ∧ c ≠ h.next) (h.new (.mit B c [] c)) v ns := (nq.mono (P' := fun c => lo ≤ c ∧ c ≠ h.next) fun d hd e => ⟨e, by omega⟩).keep0 k1
    have hBlo : B < lo := hO B oB
    have hnx : (h.new (.mit B c [] c)).next = h.next + 1 := rfl
    simp only [↓opStep_eq, ↓reduceIte, ↓EW, EV, Nat.reduceAdd, Nat.reduceEqDiff, Int.reduceEq, Int.reduceLT, Int.reduceLE, Int.reduceNe, seqC, retC, skipC, exitC, blockC, condC, r25_1, nilChk_some, ldv, hm]
    generalize h.new (.mit B c [] c) = h1 at *
    refine hK _ _ _ ?_
    have htl : ts.length = (ks i).length := by
      have := pm.length_eq
      unfold slotM at this
      simpa using this
    refine C.block (C.loop (fun q tm' hx => ∃ us : List Te, q = ts.length - us.length ∧ (∀ u ∈ us, u ∈ ts) ∧ (us.map (·.2.2)).Nodup ∧ Keep (fun c => lo ≤ c) h1 hx ∧ Has hx h.next (.mit B c (us.map (·.2.2)) c) ∧ Nq (fun c => lo ≤ c ∧ c ≠ h.next) hx (tg tm' 1) (ns ++ us.map (·.1)) ∧ tg tm' 0 = .pointer (some ⟨b, 2 + i, none⟩) ∧ tg tm' 9 = .pointer (some ⟨h.next, 0, none⟩)) ts.length (by omega)
      ⟨[], rfl, (fun _ h => by cases h), .nil, .refl _ _, b1, by simp only [↓opStep_eq, ↓reduceIte, ↓EW, EV, Nat.reduceAdd, Nat.reduceEqDiff, Int.reduceEq, Int.reduceLT, Int.reduceLE, Int.reduceNe, seqC, retC, skipC, exitC, blockC, condC, List.map_nil, List.append_nil]; exact nq1, by simp only [↓opStep_eq, ↓reduceIte, ↓EW, EV, Nat.reduceAdd, Nat.reduceEqDiff, Int.reduceEq, Int.reduceLT, Int.reduceLE, Int.reduceNe, seqC, retC, skipC, exitC, blockC, condC], by simp only [↓opStep_eq, ↓reduceIte, ↓EW, EV, Nat.reduceAdd, Nat.reduceEqDiff, Int.reduceEq, Int.reduceLT, Int.reduceLE, Int.reduceNe, seqC, retC, skipC, exitC, blockC, condC]⟩ ?_)
    rintro q tm hx ⟨us, rfl, hus, hnd, kx, bx, nqx, t0, t9⟩
    have wx := w1.keepO kx fun c e oc => by have := hO c oc; omega
    have mx := (mt.keep (k1.mono (S' := fun c => lo ≤ c) fun _ _ e => e.elim |> id) (by omega)).keep kx (by omega)
    have usn : us.Nodup := nodup_of hnd
    have hule : us.length ≤ ts.length := List.Nodup.length_le_of_subset usn fun u hu => hus u hu
    unfold l25_5
    refine C.seq fun K hK => ?_
    simp only [↓opStep_eq, ↓reduceIte, ↓EW, EV, Nat.reduceAdd, Nat.reduceEqDiff, Int.reduceEq, Int.reduceLT, Int.reduceLE, Int.reduceNe, seqC, retC, skipC, exitC, blockC, condC, r25_2, t9]
    refine next_nm mx bx (fun u hu hns => ?_) fun hall => ?_
    · simp only [↓opStep_eq, ↓reduceIte, ↓EW, EV, Nat.reduceAdd, Nat.reduceEqDiff, Int.reduceEq, Int.reduceLT, Int.reduceLE, Int.reduceNe, seqC, retC, skipC, exitC, blockC, condC, tupNth_tuple]
      refine hK _ _ _ (C.seq (C.cond true (by simp only [↓opStep_eq, ↓reduceIte, ↓EW, EV, Nat.reduceAdd, Nat.reduceEqDiff, Int.reduceEq, Int.reduceLT, Int.reduceLE, Int.reduceNe, seqC, retC, skipC, exitC, blockC, condC]) (fun _ => C.skip ?_) fun g => by cases g))
      have hne : us.length < ts.length := by
        have h1 : (u :: us).Nodup := List.nodup_cons.2 ⟨fun hm => hns (List.mem_map.2 ⟨u, hm, rfl⟩), usn⟩
        have := List.Nodup.length_le_of_subset h1 (l₂ := ts) fun y hy => by
          simp only [List.mem_cons] at hy
          rcases hy with rfl | hy
          · exact hu
          · exact hus y hy
        simp only [List.length_cons] at this
        omega
      have k2 := Keep.put hx h.next (.mit B c (us.map (·.2.2) ++ [u.2.2]) c)
      have b2 : Has (hx.put h.next (.mit B c (us.map (·.2.2) ++ [u.2.2]) c)) h.next (.mit B c (us.map (·.2.2) ++ [u.2.2]) c) := Has.put bx.1
      have m2 := mx.keep k2 (by omega)
      have nq2 := nqx.keep k2 fun d e hd => hd.2 e
      have k02 : Keep (fun c => lo ≤ c) h1 (hx.put h.next (.mit B c (us.map (·.2.2) ++ [u.2.2]) c)) := kx.trans k2 fun d _ e => by have e : d = h.next := e; omega
      generalize hx.put h.next (.mit B c (us.map (·.2.2) ++ [u.2.2]) c) = h2 at *
      have en := entry_nm m2 hu b2
      refine C.block (C.seq fun K hK => ?_)
      have k3 := keep_alloc h2 (.rw [.int .i64 0, .string (strB [])]) (.rw [.int .i64 u.1.1, .string u.1.2])
      have b3 := has_alloc h2 (.rw [.int .i64 0, .string (strB [])]) (.rw [.int .i64 u.1.1, .string u.1.2])
      have s3 := store2_new h2 [.int .i64 0, .string (strB [])] u.1.1 u.1.2 rfl
      simp only [↓opStep_eq, ↓reduceIte, ↓EW, EV, Nat.reduceAdd, Nat.reduceEqDiff, Int.reduceEq, Int.reduceLT, Int.reduceLE, Int.reduceNe, seqC, retC, skipC, exitC, blockC, condC, r25_3, t9, en, tupNth_tuple, s3]
      generalize (h2.new (.rw [.int .i64 0, .string (strB [])])).put h2.next (.rw [.int .i64 u.1.1, .string u.1.2]) = h3 at *
      refine hK _ _ _ fun K hK => ?_
      have k4 := Keep.new h3 (.rw [.int .i64 u.1.1, .string u.1.2])
      have b4 := Has.new h3 (.rw [.int .i64 u.1.1, .string u.1.2])
      have n4 : (h3.new (.rw [.int .i64 u.1.1, .string u.1.2])).next = h3.next + 1 := rfl
      simp only [↓opStep_eq, ↓reduceIte, ↓EW, EV, Nat.reduceAdd, Nat.reduceEqDiff, Int.reduceEq, Int.reduceLT, Int.reduceLE, Int.reduceNe, seqC, retC, skipC, exitC, blockC, condC, r25_4, load2 b3, mkN]
      generalize h3.new (.rw [.int .i64 u.1.1, .string u.1.2]) = h4 at *
      have hnx4 : h.next < h4.next := by have := (b2.keep0 k3).1; omega
      obtain ⟨v5, h5, e5, nq5, k5⟩ := ((nq2.keep0 k3).keep0 k4).append u.1 b4 (fun d hd => ⟨by omega, by omega⟩) (by simp only [List.length_append, List.length_map]; omega)
      simp only [↓opStep_eq, ↓reduceIte, ↓EW, EV, Nat.reduceAdd, Nat.reduceEqDiff, Int.reduceEq, Int.reduceLT, Int.reduceLE, Int.reduceNe, seqC, retC, skipC, exitC, blockC, condC, e5]
      have b5 := ((b2.keep0 k3).keep0 k4).keep k5 fun e => e.2 rfl
      refine hK _ _ _ ⟨ts.length - (us ++ [u]).length, by simp only [List.length_append, List.length_cons, List.length_nil]; omega, us ++ [u], rfl, fun y hy => ?_, ?_, ((k02.then k3).then k4).trans k5 fun d _ e => e.1, by rw [List.map_append]; exact b5, ?_, by simp only [↓opStep_eq, ↓reduceIte, ↓EW, EV, Nat.reduceAdd, Nat.reduceEqDiff, Int.reduceEq, Int.reduceLT, Int.reduceLE, Int.reduceNe, seqC, retC, skipC, exitC, blockC, condC, t0], by simp only [↓opStep_eq, ↓reduceIte, ↓EW, EV, Nat.reduceAdd, Nat.reduceEqDiff, Int.reduceEq, Int.reduceLT, Int.reduceLE, Int.reduceNe, seqC, retC, skipC, exitC, blockC, condC, t9]⟩
      · rw [List.mem_append, List.mem_singleton] at hy
        rcases hy with hy | rfl
        · exact hus y hy
        · exact hu
      · rw [List.map_append, List.nodup_append]
        refine ⟨hnd, by simp, fun a ha d hd => ?_⟩
        simp only [List.map_cons, List.map_nil, List.mem_singleton] at hd
        subst hd
        intro e; subst e; exact hns ha
      · simp only [↓opStep_eq, ↓reduceIte, ↓EW, EV, Nat.reduceAdd, Nat.reduceEqDiff, Int.reduceEq, Int.reduceLT, Int.reduceLE, Int.reduceNe, seqC, retC, skipC, exitC, blockC, condC]
        rw [List.map_append, ← List.append_assoc]
        exact nq5
    · simp only [↓opStep_eq, ↓reduceIte, ↓EW, EV, Nat.reduceAdd, Nat.reduceEqDiff, Int.reduceEq, Int.reduceLT, Int.reduceLE, Int.reduceNe, seqC, retC, skipC, exitC, blockC, condC, tupNth_tuple]
      refine hK _ _ _ (C.seq (C.cond false (by simp only [↓opStep_eq, ↓reduceIte, ↓EW, EV, Nat.reduceAdd, Nat.reduceEqDiff, Int.reduceEq, Int.reduceLT, Int.reduceLE, Int.reduceNe, seqC, retC, skipC, exitC, blockC, condC]) (fun g => by cases g) fun _ => C.exit ?_))
      simp only [if_pos]
      refine fin hx _ (ns ++ us.map (·.1)) wx ?_ ?_ (k1.mono (S' := fun c => lo ≤ c) (fun _ _ e => e.elim) |>.trans kx fun _ _ e => e) (by simp only [↓opStep_eq, ↓reduceIte, ↓EW, EV, Nat.reduceAdd, Nat.reduceEqDiff, Int.reduceEq, Int.reduceLT, Int.reduceLE, Int.reduceNe, seqC, retC, skipC, exitC, blockC, condC, t0])
      · simp only [↓opStep_eq, ↓reduceIte, ↓EW, EV, Nat.reduceAdd, Nat.reduceEqDiff, Int.reduceEq, Int.reduceLT, Int.reduceLE, Int.reduceNe, seqC, retC, skipC, exitC, blockC, condC]
        exact nqx.mono fun d _ e => e.1
      · refine List.Perm.append_left _ ?_
        have p1 : us.Perm ts := (List.perm_ext_iff_of_nodup usn (nodup_of mt.borns)).2 fun u => ⟨fun hu => hus u hu, fun hu => by
          obtain ⟨y, hy, e⟩ := List.mem_map.1 (hall u hu)
          have := nd_same mt.borns (hus y hy) hu e
          rw [← this]; exact hy⟩
        have p2 := pm.map (·.1)
        rw [List.map_map] at p2
        have e2 : (slotM (ks i)).map (·.1) = ks i := by
          unfold slotM
          rw [List.map_map]
          show (ks i).map (fun x => x) = ks i
          rw [List.map_id']
        rw [e2] at p2
        exact (p1.map (·.1)).trans p2
end
end Go.Proofs.Ytpoedopdcpejmaa

namespace Go.Proofs.Ytpoedopdcpejmaa
open Go.Ev

/-! ### the first of numbers that is not zero -/
def orL : List Int → Int
  | [] => 0
  | x :: r => if x ≠ 0 then x else orL r
theorem orL_skip : ∀ (l : List Int) (i : Nat), (∀ k z, k < i → l[k]? = some z → z = 0) → orL l = orL (l.drop i)
  | l, 0, _ => by simp
  | [], i + 1, _ => by simp
  | x :: r, i + 1, h => by
    have hx : x = 0 := h 0 x (by omega) rfl
    rw [List.drop_succ_cons, ← orL_skip r i fun k z hk hz => h (k + 1) z (by omega) (by simpa using hz)]
    show (if x ≠ 0 then x else orL r) = orL r
    rw [if_neg (by simp [hx])]
theorem or_all (L n : Nat) (l : List Int) {b : Nat} {h : H} (hb : Has h b (.rw (l.map (Value.int .i64)))) (hL : l.length < L) (hl : l.length ≤ 1000) : Sp (CF L (n + 1)) 29 [.slice (some ⟨b, 0, none⟩) l.length l.length] h fun r h' => r = .int .i64 (orL l) ∧ Keep nobody h h' := by
  refine Sp.body f29 (by simp) ?_
  unfold c29
  refine C.seq fun K hK => hK .norm _ _ (C.seq fun K hK => hK .norm _ _ (C.seq (C.seq fun K hK => ?_)))
  simp only [↓opStep_eq, ↓reduceIte, ↓EW, EV, Nat.reduceAdd, Nat.reduceEqDiff, Int.reduceEq, Int.reduceLT, Int.reduceLE, Int.reduceNe, seqC, retC, skipC, exitC, blockC, condC, r29_2, lenSl_slice]
  refine hK .norm _ _ ?_
  refine C.block (C.loop (fun k tm' hx => ∃ i, k = l.length - i ∧ i ≤ l.length ∧ hx = h ∧ tg tm' 3 = .int .i64 0 ∧ tg tm' 6 = .slice (some ⟨b, 0, none⟩) l.length l.length ∧ tg tm' 7 = .int .i64 (l.length : Int) ∧ tg tm' 8 = .int .i64 (i : Int) ∧ ∀ (k : Nat) z, k < i → l[k]? = some z → z = 0) l.length (by omega)
    ⟨0, rfl, by omega, rfl, by simp only [↓opStep_eq, ↓reduceIte, ↓EW, EV, Nat.reduceAdd, Nat.reduceEqDiff, Int.reduceEq, Int.reduceLT, Int.reduceLE, Int.reduceNe, seqC, retC, skipC, exitC, blockC, condC], by simp only [↓opStep_eq, ↓reduceIte, ↓EW, EV, Nat.reduceAdd, Nat.reduceEqDiff, Int.reduceEq, Int.reduceLT, Int.reduceLE, Int.reduceNe, seqC, retC, skipC, exitC, blockC, condC], by simp only [↓opStep_eq, ↓reduceIte, ↓EW, EV, Nat.reduceAdd, Nat.reduceEqDiff, Int.reduceEq, Int.reduceLT, Int.reduceLE, Int.reduceNe, seqC, retC, skipC, exitC, blockC, condC], by simp only [↓opStep_eq, ↓reduceIte, ↓EW, EV, Nat.reduceAdd, Nat.reduceEqDiff, Int.reduceEq, Int.reduceLT, Int.reduceLE, Int.reduceNe, seqC, retC, skipC, exitC, blockC, condC] <;> rfl, fun k z hk => by omega⟩ ?_)
  rintro k tm hx ⟨i, rfl, hi, rfl, t3, t6, t7, t8, hz⟩
  unfold l29_8
  refine C.seq fun K hK => ?_
  simp only [↓opStep_eq, ↓reduceIte, ↓EW, EV, Nat.reduceAdd, Nat.reduceEqDiff, Int.reduceEq, Int.reduceLT, Int.reduceLE, Int.reduceNe, seqC, retC, skipC, exitC, blockC, condC, r29_3, t7, t8]
  refine hK _ _ _ (C.seq (C.cond (decide ((i : Int) < (l.length : Int))) (by simp only [↓opStep_eq, ↓reduceIte, ↓EW, EV, Nat.reduceAdd, Nat.reduceEqDiff, Int.reduceEq, Int.reduceLT, Int.reduceLE, Int.reduceNe, seqC, retC, skipC, exitC, blockC, condC]) (fun g => C.skip ?_) fun g => C.exit ?_))
  · have g : i < l.length := by have := of_decide_eq_true g; omega
    have ix : indexSl 1 (.slice (some ⟨b, 0, none⟩) l.length l.length) (.int .i64 (i : Int)) = some (.pointer (some ⟨b, i, none⟩)) := by
      simp only [indexSl, asNat_nat, addOff]
      rw [Nat.ble_eq_true_of_le (by omega)]
      simp only [Nat.zero_add, Nat.mul_one]
    obtain ⟨z, hzz⟩ : ∃ z, l[i]? = some z := ⟨l[i]'g, List.getElem?_eq_getElem g⟩
    have ld : loadOne hx (.pointer (some ⟨b, i, none⟩)) = some (.int .i64 z) := by rw [loadOne_has hb rfl, List.getElem?_map, hzz]; rfl
    have hd : l.drop i = z :: l.drop (i + 1) := by rw [List.drop_eq_getElem_cons g, (List.getElem?_eq_some_iff.1 hzz).2]
    refine C.seq (C.block (C.seq fun K hK => ?_))
    simp only [↓opStep_eq, ↓reduceIte, ↓EW, EV, Nat.reduceAdd, Nat.reduceEqDiff, Int.reduceEq, Int.reduceLT, Int.reduceLE, Int.reduceNe, seqC, retC, skipC, exitC, blockC, condC, r29_4, t6, t8, ix, ld]
    refine hK _ _ _ (C.seq fun K hK => ?_)
    simp only [↓opStep_eq, ↓reduceIte, ↓EW, EV, Nat.reduceAdd, Nat.reduceEqDiff, Int.reduceEq, Int.reduceLT, Int.reduceLE, Int.reduceNe, seqC, retC, skipC, exitC, blockC, condC, r29_5, t3]
    refine hK _ _ _ (C.cond (!decide (z = 0)) (by simp only [↓opStep_eq, ↓reduceIte, ↓EW, EV, Nat.reduceAdd, Nat.reduceEqDiff, Int.reduceEq, Int.reduceLT, Int.reduceLE, Int.reduceNe, seqC, retC, skipC, exitC, blockC, condC]) (fun g2 => C.seq fun K hK => ?_) fun g2 => C.skip fun K hK => ?_)
    · have g2 : z ≠ 0 := by rw [Bool.not_eq_true'] at g2; exact of_decide_eq_false g2
      simp only [↓opStep_eq, ↓reduceIte, ↓EW, EV, Nat.reduceAdd, Nat.reduceEqDiff, Int.reduceEq, Int.reduceLT, Int.reduceLE, Int.reduceNe, seqC, retC, skipC, exitC, blockC, condC, r29_6]
      refine hK .norm _ _ (C.ret ⟨.inr rfl, _, rfl, ?_, .refl _ _⟩)
      simp only [↓opStep_eq, ↓reduceIte, ↓EW, EV, Nat.reduceAdd, Nat.reduceEqDiff, Int.reduceEq, Int.reduceLT, Int.reduceLE, Int.reduceNe, seqC, retC, skipC, exitC, blockC, condC, resOf]
      rw [orL_skip l i hz, hd]
      show _ = Value.int .i64 (if z ≠ 0 then z else orL (l.drop (i + 1)))
      rw [if_pos g2]
    · have g2 : z = 0 := by rw [Bool.not_eq_false'] at g2; exact of_decide_eq_true g2
      have w := wadd1 i (by omega)
      simp only [↓opStep_eq, ↓reduceIte, ↓EW, EV, Nat.reduceAdd, Nat.reduceEqDiff, Int.reduceEq, Int.reduceLT, Int.reduceLE, Int.reduceNe, seqC, retC, skipC, exitC, blockC, condC, r29_7, t8, w]
      refine hK _ _ _ ⟨l.length - (i + 1), by omega, i + 1, rfl, by omega, rfl, by simp only [↓opStep_eq, ↓reduceIte, ↓EW, EV, Nat.reduceAdd, Nat.reduceEqDiff, Int.reduceEq, Int.reduceLT, Int.reduceLE, Int.reduceNe, seqC, retC, skipC, exitC, blockC, condC, t3], by simp only [↓opStep_eq, ↓reduceIte, ↓EW, EV, Nat.reduceAdd, Nat.reduceEqDiff, Int.reduceEq, Int.reduceLT, Int.reduceLE, Int.reduceNe, seqC, retC, skipC, exitC, blockC, condC, t6], by simp only [↓opStep_eq, ↓reduceIte, ↓EW, EV, Nat.reduceAdd, Nat.reduceEqDiff, Int.reduceEq, Int.reduceLT, Int.reduceLE, Int.reduceNe, seqC, retC, skipC, exitC, blockC, condC, t7], by simp only [↓opStep_eq, ↓reduceIte, ↓EW, EV, Nat.reduceAdd, Nat.reduceEqDiff, Int.reduceEq, Int.reduceLT, Int.reduceLE, Int.reduceNe, seqC, retC, skipC, exitC, blockC, condC], fun k y hk hy => ?_⟩
      by_cases e : k = i
      · subst e; rw [hzz] at hy; cases hy; exact g2
      · exact hz k y (by omega) hy
  · simp only [if_pos]
    have g : i = l.length := by have := of_decide_eq_false g; omega
    refine C.seq fun K hK => ?_
    simp only [↓opStep_eq, ↓reduceIte, ↓EW, EV, Nat.reduceAdd, Nat.reduceEqDiff, Int.reduceEq, Int.reduceLT, Int.reduceLE, Int.reduceNe, seqC, retC, skipC, exitC, blockC, condC, r29_8, t3]
    refine hK .norm _ _ (C.ret ⟨.inr rfl, _, rfl, ?_, .refl _ _⟩)
    simp only [↓opStep_eq, ↓reduceIte, ↓EW, EV, Nat.reduceAdd, Nat.reduceEqDiff, Int.reduceEq, Int.reduceLT, Int.reduceLE, Int.reduceNe, seqC, retC, skipC, exitC, blockC, condC, resOf]
    rw [orL_skip l i hz, g, List.drop_length]; rfl

/-! ### the order of what is due -/
def whF (m : List En) (x : Nm) : Nat := match m.find? (fun e => decide (e.1 = x)) with | some e => e.2 | none => 0
theorem whF_of {m : List En} (nd : (m.map (·.1)).Nodup) {x : Nm} {u : Nat} (h : (x, u) ∈ m) : whF m x = u := by
  unfold whF
  cases hq : m.find? (fun e => decide (e.1 = x)) with
  | none => have := List.find?_eq_none.1 hq _ h; simp at this
  | some e =>
    have h1 := List.find?_some hq
    have h2 := List.mem_of_find?_eq_some hq
    have : e = (x, u) := nd_same nd h2 h (of_decide_eq_true h1)
    rw [this]
theorem whF_not {m : List En} {x : Nm} (h : ∀ e ∈ m, e.1 ≠ x) : whF m x = 0 := by
  unfold whF
  have : m.find? (fun e => decide (e.1 = x)) = none := List.find?_eq_none.2 fun e he => by simp [h e he]
  rw [this]
def ltW (m : List En) (x y : Nm) : Prop := whF m x < whF m y ∨ (whF m x = whF m y ∧ ltN x y)
theorem ltW_irr (m : List En) (x : Nm) : ¬ ltW m x x := fun h => by
  rcases h with h | ⟨_, h⟩
  · omega
  · exact ltN_irr _ h
theorem ltW_tr (m : List En) (x y z : Nm) (h1 : ltW m x y) (h2 : ltW m y z) : ltW m x z := by
  rcases h1 with h1 | ⟨h1, h1'⟩
  · rcases h2 with h2 | ⟨h2, _⟩
    · exact .inl (by omega)
    · exact .inl (by omega)
  · rcases h2 with h2 | ⟨h2, h2'⟩
    · exact .inl (by omega)
    · exact .inr ⟨by omega, ltN_tr _ _ _ h1' h2'⟩
theorem ltW_tot (m : List En) (x y : Nm) (h : x ≠ y) : ltW m x y ∨ ltW m y x := by
  rcases Nat.lt_trichotomy (whF m x) (whF m y) with e | e | e
  · exact .inl (.inl e)
  · rcases ltN_tot x y h with g | g
    · exact .inl (.inr ⟨e, g⟩)
    · exact .inr (.inr ⟨e.symm, g⟩)
  · exact .inr (.inl e)
theorem orW (m : List En) (x y : Nm) : orL [cmpI (whF m x) (whF m y), cmpI x.1 y.1, Go.Lib.compareBytes x.2.data.toList y.2.data.toList] < 0 ↔ ltW m x y := by
  have h2 := or_ltN x y
  have e3 : orL [cmpI x.1 y.1, Go.Lib.compareBytes x.2.data.toList y.2.data.toList] = (if cmpI x.1 y.1 ≠ 0 then cmpI x.1 y.1 else Go.Lib.compareBytes x.2.data.toList y.2.data.toList) := by
    show (if cmpI x.1 y.1 ≠ 0 then cmpI x.1 y.1 else (if Go.Lib.compareBytes x.2.data.toList y.2.data.toList ≠ 0 then Go.Lib.compareBytes x.2.data.toList y.2.data.toList else 0)) = _
    by_cases h : Go.Lib.compareBytes x.2.data.toList y.2.data.toList = 0
    · rw [if_neg (by simp [h] : ¬ Go.Lib.compareBytes x.2.data.toList y.2.data.toList ≠ 0), h]
    · rw [if_pos h]
  show (if cmpI (whF m x) (whF m y) ≠ 0 then cmpI (whF m x) (whF m y) else orL [cmpI x.1 y.1, Go.Lib.compareBytes x.2.data.toList y.2.data.toList]) < 0 ↔ _
  rw [e3]
  rcases Nat.lt_trichotomy (whF m x) (whF m y) with h1 | h1 | h1
  · have e : cmpI (whF m x) (whF m y) = -1 := by unfold cmpI; rw [if_pos (by omega)]
    rw [e, if_pos (by decide)]
    exact ⟨fun _ => .inl h1, fun _ => by decide⟩
  · have e : cmpI (whF m x) (whF m y) = 0 := by unfold cmpI; rw [if_neg (by omega), if_neg (by omega)]
    rw [e, if_neg (by decide), h2]
    exact ⟨fun h => .inr ⟨h1, h⟩, fun h => h.elim (fun h => by omega) fun h => h.2⟩
  · have e : cmpI (whF m x) (whF m y) = 1 := by unfold cmpI; rw [if_neg (by omega), if_pos (by omega)]
    rw [e, if_pos (by decide)]
    exact ⟨fun h => absurd h (by decide), fun h => h.elim (fun h => by omega) fun h => by omega⟩

theorem veq_int (k : IntKind) (z : Int) : veq 64 (.int k z) (.int k z) = true := by
  have e1 : iEq z z = true := by rw [iEq_dec]; simp
  show (kEq k k && iEq z z) = true
  rw [kEq_self, e1]; rfl
theorem hO_int (k : IntKind) (z : Int) (b : Bool) : hO (some (.int k z)) (.int k z) b = b := by unfold hO; simp only [veq_int]
theorem lit3i (b : Nat) (x y z : Int) : mkLit 3 b (fill (repl [(.int .i64 (0))] 3) (pl 1) [(0, .int .i64 x), (1, .int .i64 y), (2, .int .i64 z)]) = some (.rw ([x, y, z].map (Value.int .i64)), .slice (some ⟨b, 0, none⟩) 3 3) := rfl

theorem look_when {h : H} {W : Nat} {m : List En} (mp : Mp h W (untilM m)) (nd : (m.map (·.1)).Nodup) (x : Nm) : lookV Try.prog 39 (.int .i64 0) false h (.map (some W)) x.v = some (.int .i64 (whF m x : Int)) := by
  rcases here m x with ⟨u, hx⟩ | hno
  · rw [mp.of (until_mem hx), whF_of nd hx]
  · rw [mp.not (until_not hno), whF_not hno]; rfl

theorem less_law (L n : Nat) (hL : 10 < L) {h : H} {D W : Nat} {m : List En} (hD : Has h D (.rw [Value.map (some W)])) (mp : Mp h W (untilM m)) (nd : (m.map (·.1)).Nodup) (x y : Nm) :
    Sp (CF L (n + 4)) 28 [x.v, y.v, .pointer (some ⟨D, 0, none⟩)] h fun r h' => ∃ c : Int, r = .int .i64 c ∧ (c < 0 ↔ ltW m x y) ∧ Keep nobody h h' := by
  refine Sp.body f28 (by simp) ?_
  unfold c28
  refine C.seq fun K hK => ?_
  have k1 := Keep.new h (.rw [.int .i64 x.1, .string x.2])
  have b1 := Has.new h (.rw [.int .i64 x.1, .string x.2])
  simp only [↓opStep_eq, ↓reduceIte, ↓EW, EV, Nat.reduceAdd, Nat.reduceEqDiff, Int.reduceEq, Int.reduceLT, Int.reduceLE, Int.reduceNe, seqC, retC, skipC, exitC, blockC, condC, r28_0, cells2]
  generalize h.new (.rw [.int .i64 x.1, .string x.2]) = h1 at *
  have k2 := Keep.new h1 (.rw [.int .i64 y.1, .string y.2])
  have b2 := Has.new h1 (.rw [.int .i64 y.1, .string y.2])
  generalize h1.new (.rw [.int .i64 y.1, .string y.2]) = h2 at *
  refine hK _ _ _ (C.seq fun K hK => ?_)
  have kr := keep_room h2 20
  have b1 := (b1.keep0 k2).keep0 kr
  have b2 := b2.keep0 kr
  have k03 := (k1.then k2).then kr
  have hD3 := hD.keep0 k03
  have mp3 := mp.keep0 k03
  have l1 : ∀ o s, loadOne (⟨h2.objs, h2.next + 20⟩ : H) (.pointer (some ⟨h.next, o, s⟩)) = [.int .i64 x.1, .string x.2][o]? := fun o s => loadOne_has b1 rfl
  have l2 : ∀ o s, loadOne (⟨h2.objs, h2.next + 20⟩ : H) (.pointer (some ⟨h1.next, o, s⟩)) = [.int .i64 y.1, .string y.2][o]? := fun o s => loadOne_has b2 rfl
  have lD : ∀ s, loadOne (⟨h2.objs, h2.next + 20⟩ : H) (.pointer (some ⟨D, 0, s⟩)) = some (.map (some W)) := fun s => by rw [loadOne_has hD3 rfl]; rfl
  simp only [↓opStep_eq, ↓reduceIte, ↓EW, EV, Nat.reduceAdd, Nat.reduceEqDiff, Int.reduceEq, Int.reduceLT, Int.reduceLE, Int.reduceNe, seqC, retC, skipC, exitC, blockC, condC, r28_1, lD, load2 b1, load2 b2, look_when mp3 nd, l1, l2]
  refine compare_law L (n + 1) _ _ _ _ fun r h3 hq => ?_
  obtain ⟨rfl, rfl⟩ := hq
  simp only [↓opStep_eq, ↓reduceIte, ↓EW, EV, Nat.reduceAdd, Nat.reduceEqDiff, Int.reduceEq, Int.reduceLT, Int.reduceLE, Int.reduceNe, seqC, retC, skipC, exitC, blockC, condC, l1, l2, hO_str, hO_int]
  refine compare_law L (n + 1) x.1 y.1 _ _ fun r h3 hq => ?_
  obtain ⟨rfl, rfl⟩ := hq
  simp only [↓opStep_eq, ↓reduceIte, ↓EW, EV, Nat.reduceAdd, Nat.reduceEqDiff, Int.reduceEq, Int.reduceLT, Int.reduceLE, Int.reduceNe, seqC, retC, skipC, exitC, blockC, condC, l1, l2, hO_str, hO_int]
  refine strings_law L n x.2 y.2 _ _ fun r h3 hq => ?_
  obtain ⟨rfl, rfl⟩ := hq
  simp only [↓opStep_eq, ↓reduceIte, ↓EW, EV, Nat.reduceAdd, Nat.reduceEqDiff, Int.reduceEq, Int.reduceLT, Int.reduceLE, Int.reduceNe, seqC, retC, skipC, exitC, blockC, condC, lit3i]
  have kp : Keep nobody h2 ((⟨h2.objs, h2.next + 20⟩ : H).put (h2.next + 17) (.rw ([cmpI (whF m x) (whF m y), cmpI x.1 y.1, Go.Lib.compareBytes x.2.data.toList y.2.data.toList].map (Value.int .i64)))) := ⟨kr.next, fun c hc hn => ((Keep.put _ (h2.next + 17) _).same c (by show c < h2.next + 20; omega) (by omega)).trans (kr.same c hc hn)⟩
  have b6 : Has ((⟨h2.objs, h2.next + 20⟩ : H).put (h2.next + 17) (.rw ([cmpI (whF m x) (whF m y), cmpI x.1 y.1, Go.Lib.compareBytes x.2.data.toList y.2.data.toList].map (Value.int .i64)))) (h2.next + 17) _ := Has.put (by show _ < h2.next + 20; omega)
  refine or_all L (n + 2) _ b6 (by simp; omega) (by simp) _ fun r h4 hq => ?_
  obtain ⟨rfl, k4⟩ := hq
  exact hK _ _ _ (C.ret ⟨.inr rfl, _, rfl, _, by simp only [↓opStep_eq, ↓reduceIte, ↓EW, EV, Nat.reduceAdd, Nat.reduceEqDiff, Int.reduceEq, Int.reduceLT, Int.reduceLE, Int.reduceNe, seqC, retC, skipC, exitC, blockC, condC, resOf], orW m x y, ((k1.then k2).then kp).then k4⟩)
theorem due_cm (L B D W : Nat) (m : List En) (nd : (m.map (·.1)).Nodup) (hL : 10 < L) (h1 : D ≠ B) (h2 : W ≠ B) : Cm L B (.func (.func 28) [].toArray [.pointer (some ⟨D, 0, none⟩)].toArray) (ltW m) (fun h => Has h D (.rw [Value.map (some W)]) ∧ Mp h W (untilM m)) :=
  ⟨fun h h' k ok => ⟨ok.1.keep k h1, ok.2.keep k h2⟩, ⟨28, [.pointer (some ⟨D, 0, none⟩)], fun a b => rfl, fun n x y hx ok => less_law L n hL ok.1 ok.2 nd x y⟩, ltW_irr m, ltW_tr m, ltW_tot m⟩

/-! ### the names that are due, in order -/
structure DueQ (h' : H) (v : Value) (ns : List Nm) (m : List En) (ns' : List Nm) : Prop where
  rn : Rn h' v ns'.length (fun k => ns'.getD k (0, .empty))
  so : ns'.Pairwise (ltW m)
  mem : ∀ x, x ∈ ns' ↔ x ∈ ns
theorem sort_due (L n : Nat) {P : Nat → Prop} {h : H} {v : Value} {ns : List Nm} (nq : Nq P h v ns) (hnd : ns.Nodup) (hn : ns.length < 60000) (hL : 300000 < L) {D W : Nat} {m : List En} (hD : Has h D (.rw [Value.map (some W)])) (mp : Mp h W (untilM m)) (nd : (m.map (·.1)).Nodup) (nD : ¬ P D) (nW : ¬ P W) :
    Sp (CF L (n + 26)) 27 [v, .func (.func 28) [].toArray [.pointer (some ⟨D, 0, none⟩)].toArray] h fun r h' => (∃ ns', DueQ h' v ns m ns') ∧ Keep P h h' := by
  rcases nq with ⟨rfl, rfl⟩ | ⟨b, cap, rfl, _, hb, hPb⟩
  · refine (sort_nil (n + 22) h (by omega)).mono fun r h' k => ⟨⟨[], .inl ⟨rfl, rfl⟩, .nil, fun x => Iff.rfl⟩, k.mono fun _ _ e => e.elim⟩
  · have nth : ∀ k, k < ns.length → ns[k]? = some (ns.getD k (0, .empty)) := fun k hk => by rw [List.getD_eq_getElem?_getD, List.getElem?_eq_getElem hk]; rfl
    have arr : Arr h b (.slice (some ⟨b, 0, none⟩) ns.length cap) ns.length (fun k => ns.getD k (0, .empty)) := ⟨cap, cellsN ns, 2, rfl, hb, by rw [cellsN_len]; exact Nat.le_refl _, fun k hk => cellsN_at ns k _ (nth k hk)⟩
    have inj : Inj (fun k => ns.getD k (0, .empty)) ns.length := fun p q hp hq he => by
      have h1 := nth p hp
      have h2 := nth q hq
      have he' : ns.getD p (0, .empty) = ns.getD q (0, .empty) := he
      rw [← he'] at h2
      exact (List.getElem?_inj hp hnd).1 (h1.trans h2.symm)
    have hDb : D ≠ b := fun e => nD (by rw [e]; exact hPb)
    have hWb : W ≠ b := fun e => nW (by rw [e]; exact hPb)
    have en : Env L b (.slice (some ⟨b, 0, none⟩) ns.length cap) (.func (.func 28) [].toArray [.pointer (some ⟨D, 0, none⟩)].toArray) ns.length 0 ns.length (ltW m) (fun h => Has h D (.rw [Value.map (some W)]) ∧ Mp h W (untilM m)) (fun k => ns.getD k (0, .empty)) h :=
      ⟨due_cm L b D W m nd (by omega) hDb hWb, ⟨hD, mp⟩, fun h1 ok1 cb hcb h2 hx ok2 k => ⟨ok2.1.keep k (by have := ok1.1.1; omega), ok2.2.keep k (by have := ok1.2.lt; omega)⟩, inj, Nat.le_refl _, hn, by omega, by omega, fun h => absurd h (Nat.lt_irrefl 0)⟩
    refine (sort_law (m := n) en arr).mono fun r h' ⟨f2, arr2, sw2, so2, k7⟩ => ⟨⟨(List.range ns.length).map f2, ?_, ?_, fun x => ?_⟩, k7.mono fun c _ e => by rw [e]; exact hPb⟩
    · rw [List.length_map, List.length_range]
      obtain ⟨cap2, cs, e, g1, g2, g3, g4⟩ := arr2.ex
      refine .inr ⟨b, cap2, cs, e, g1, g2, g3, fun k hk => ?_⟩
      have : ((List.range ns.length).map f2).getD k (0, .empty) = f2 k := by rw [List.getD_eq_getElem?_getD, List.getElem?_map, List.getElem?_range hk]; rfl
      rw [this]; exact g4 k hk
    · rw [List.pairwise_map]
      exact List.Pairwise.imp_of_mem (fun {a c} ha hc hlt => so2 a c (Nat.zero_le _) hlt (List.mem_range.1 hc)) List.pairwise_lt_range
    · rw [List.mem_map]
      constructor
      · rintro ⟨k, hk, rfl⟩
        exact sw2.all (fun x => x ∈ ns) (fun k _ hk => List.mem_of_getElem? (nth k hk)) k (Nat.zero_le _) (List.mem_range.1 hk)
      · intro hx
        obtain ⟨k, hk⟩ := List.getElem?_of_mem hx
        have hk2 := (List.getElem?_eq_some_iff.1 hk).1
        obtain ⟨k', h2, h3⟩ := sw2.symm.all (fun x => ∃ k, k < ns.length ∧ f2 k = x) (fun k _ hk => ⟨k, hk, rfl⟩) k (Nat.zero_le _) hk2
        have hk3 : ns.getD k (0, .empty) = x := by have := nth k hk2; rw [hk] at this; exact (Option.some.inj this).symm
        exact ⟨k', List.mem_range.2 h2, h3.trans hk3⟩
end Go.Proofs.Ytpoedopdcpejmaa

namespace Go.Proofs.Ytpoedopdcpejmaa
open Go.Ev

/-! ### the clock goes on: which slots are gone through -/
/-- so many slots are gone through -/
def Jof (now t : Nat) : Nat := if now = t then 0 else rgF now t * 64 + plc64 t (rgF now t) + 1
theorem div_between {a u t k : Nat} (h1 : a ≤ u) (h2 : u ≤ t) (h : a / k = t / k) : u / k = a / k := by
  have e1 := Nat.div_le_div_right (c := k) h1
  have e2 := Nat.div_le_div_right (c := k) h2
  omega
theorem div_up {a b r s : Nat} (h : a / 64 ^ r = b / 64 ^ r) (hs : r ≤ s) : a / 64 ^ s = b / 64 ^ s := by
  obtain ⟨d, rfl⟩ : ∃ d, s = r + d := ⟨s - r, by omega⟩
  rw [Nat.pow_add, ← Nat.div_div_eq_div_mul, ← Nat.div_div_eq_div_mul, h]
theorem slot_due {now t u : Nat} (ht : t ≤ MAXT) (h1 : now < u) (h2 : u ≤ t) : slotN now u < Jof now t := by
  have hne : now ≠ t := by omega
  have hn : now ≤ MAXT := by omega
  have hu : u ≤ MAXT := by omega
  unfold Jof
  rw [if_neg hne]
  obtain ⟨g1, g2, g3⟩ := rgF_ok hn ht hne
  obtain ⟨r1, r2, r3⟩ := rgF_ok hn hu (show now ≠ u by omega)
  unfold slotN
  generalize rgF now t = g at *
  generalize rgF now u = r at *
  have e1 : u / 64 ^ (g + 1) = now / 64 ^ (g + 1) := div_between (by omega) h2 g2
  have hrg : r ≤ g := by
    apply Decidable.byContradiction; intro hn
    exact r3 (div_up e1.symm (by omega))
  have hp := plc64_lt u r
  rcases Nat.lt_or_eq_of_le hrg with h | h
  · have : (r + 1) * 64 ≤ g * 64 := Nat.mul_le_mul_right _ h
    omega
  · subst h
    have e2 : u / 64 ^ r ≤ t / 64 ^ r := Nat.div_le_div_right h2
    have e3 : u / 64 ^ r / 64 = t / 64 ^ r / 64 := by
      rw [Nat.div_div_eq_div_mul, Nat.div_div_eq_div_mul, ← Nat.pow_succ, e1, g2]
    have : plc64 u r ≤ plc64 t r := by unfold plc64; omega
    omega
theorem slot_stays {now t u : Nat} (hu : u ≤ MAXT) (h0 : now ≤ t) (h1 : t < u) (h2 : Jof now t ≤ slotN now u) : slotN t u = slotN now u := by
  by_cases hne : now = t
  · rw [hne]
  have ht : t ≤ MAXT := by omega
  have hn : now ≤ MAXT := by omega
  unfold Jof at h2
  rw [if_neg hne] at h2
  obtain ⟨g1, g2, g3⟩ := rgF_ok hn ht hne
  obtain ⟨r1, r2, r3⟩ := rgF_ok hn hu (show now ≠ u by omega)
  have hr : rgF t u = rgF now u := by
    refine (Rg.eq ht hu ⟨r1, ?_, ?_⟩).symm
    · exact (div_between h0 (by omega) r2).trans r2
    · unfold slotN at h2
      generalize rgF now t = g at *
      generalize rgF now u = r at *
      intro e
      have hp := plc64_lt u r
      have hgr : g ≤ r := by
        apply Decidable.byContradiction; intro hh
        have : (r + 1) * 64 ≤ g * 64 := Nat.mul_le_mul_right _ (by omega)
        omega
      rcases Nat.lt_or_eq_of_le hgr with h | h
      · exact r3 ((div_up g2 (by omega)).trans e)
      · subst h
        have : plc64 u g = plc64 t g := by unfold plc64; rw [e]
        omega
  unfold slotN
  rw [hr]

/-- what stands in the first so many slots -/
def passed (now : Nat) (l : List En) (J : Nat) : List Nm := (l.filter fun e => decide (slotN now e.2 < J)).map (·.1)
theorem passed_zero (now : Nat) (l : List En) : passed now l 0 = [] := by
  unfold passed
  rw [List.filter_eq_nil_iff.2 fun e _ => by simp]; rfl
theorem passed_succ (now : Nat) (l : List En) (J : Nat) : (passed now l J ++ ksOf now l J).Perm (passed now l (J + 1)) := by
  unfold passed ksOf
  rw [← List.map_append]
  refine List.Perm.map _ ?_
  induction l with
  | nil => exact .refl _
  | cons e l ih =>
    rw [List.filter_cons, List.filter_cons, List.filter_cons]
    by_cases h1 : slotN now e.2 < J
    · rw [if_pos (by simp [h1]), if_neg (by simp; omega), if_pos (by simp; omega)]
      exact ih.cons e
    · by_cases h2 : slotN now e.2 = J
      · rw [if_neg (by simp; omega), if_pos (by simp [h2]), if_pos (by simp; omega)]
        exact List.perm_middle.trans (ih.cons e)
      · rw [if_neg (by simp; omega), if_neg (by simp [h2]), if_neg (by simp; omega)]
        exact ih

/-! ### what is left while the names are gone through -/
noncomputable instance decMem (x : Nm) (l : List Nm) : Decidable (x ∈ l) := Classical.propDecidable _
noncomputable def LQ (l : List En) (t : Nat) (dn : List Nm) : List En := l.filter fun e => !(decide (e.1 ∈ dn) && decide (e.2 ≤ t))
noncomputable def MQ (l : List En) (t : Nat) (dn : List Nm) : List En := l.filter fun e => decide (e.1 ∈ dn) && decide (e.2 ≤ t)
noncomputable def KQ (l : List En) (now t J : Nat) (dn : List Nm) (j : Nat) : List Nm := (l.filter fun e => decide (t < e.2) && (decide (e.1 ∈ dn ∧ slotN t e.2 = j) || decide (J ≤ slotN now e.2 ∧ slotN now e.2 = j))).map (·.1)
theorem LQ_nil (l : List En) (t : Nat) : LQ l t [] = l := List.filter_eq_self.2 fun e _ => by simp
theorem MQ_nil (l : List En) (t : Nat) : MQ l t [] = [] := List.filter_eq_nil_iff.2 fun e _ => by simp
theorem LQ_late {l : List En} {t : Nat} {dn : List Nm} {x : Nm} {u : Nat} (nd : (l.map (·.1)).Nodup) (hx : (x, u) ∈ l) (hu : t < u) : LQ l t (dn ++ [x]) = LQ l t dn := by
  unfold LQ
  apply List.filter_congr
  intro e he
  by_cases h : e.1 = x
  · have : e = (x, u) := nd_same nd he hx h
    subst this
    have : decide (u ≤ t) = false := decide_eq_false (by omega)
    simp only [this, Bool.and_false]
  · have : (e.1 ∈ dn ++ [x]) ↔ e.1 ∈ dn := by simp [h]
    rw [decide_eq_decide.2 this]
theorem MQ_late {l : List En} {t : Nat} {dn : List Nm} {x : Nm} {u : Nat} (nd : (l.map (·.1)).Nodup) (hx : (x, u) ∈ l) (hu : t < u) : MQ l t (dn ++ [x]) = MQ l t dn := by
  unfold MQ
  apply List.filter_congr
  intro e he
  by_cases h : e.1 = x
  · have : e = (x, u) := nd_same nd he hx h
    subst this
    have : decide (u ≤ t) = false := decide_eq_false (by omega)
    simp only [this, Bool.and_false]
  · have : (e.1 ∈ dn ++ [x]) ↔ e.1 ∈ dn := by simp [h]
    rw [decide_eq_decide.2 this]
theorem LQ_due {l : List En} {t : Nat} {dn : List Nm} {x : Nm} {u : Nat} (nd : (l.map (·.1)).Nodup) (hx : (x, u) ∈ l) (hu : u ≤ t) : LQ l t (dn ++ [x]) = wo (LQ l t dn) x := by
  unfold LQ wo
  rw [List.filter_filter]
  apply List.filter_congr
  intro e he
  by_cases h : e.1 = x
  · have : e = (x, u) := nd_same nd he hx h
    subst this
    simp [hu]
  · have : (e.1 ∈ dn ++ [x]) ↔ e.1 ∈ dn := by simp [h]
    have h2 : decide (e.1 ∈ dn ++ [x]) = decide (e.1 ∈ dn) := decide_eq_decide.2 this
    have h3 : decide (e.1 = x) = false := decide_eq_false h
    rw [h2, h3]; simp
/-- one that is taken out of a filter, by its name -/
theorem filter_add {l : List En} (nd : (l.map (·.1)).Nodup) {e0 : En} (h0 : e0 ∈ l) (p q : En → Bool) (hp : p e0 = false) (hq : q e0 = true) (hpq : ∀ e ∈ l, e ≠ e0 → p e = q e) : (e0 :: l.filter p).Perm (l.filter q) := by
  induction l with
  | nil => cases h0
  | cons e l ih =>
    rw [List.map_cons, List.nodup_cons] at nd
    by_cases he : e = e0
    · subst he
      rw [List.filter_cons, List.filter_cons, if_neg (by simp [hp]), if_pos hq]
      refine List.Perm.of_eq ?_
      congr 1
      apply List.filter_congr
      intro y hy
      refine hpq y (by simp [hy]) fun h => ?_
      subst h
      exact nd.1 (List.mem_map.2 ⟨y, hy, rfl⟩)
    · simp only [List.mem_cons] at h0
      have h0 : e0 ∈ l := h0.resolve_left (Ne.symm he)
      have ih := ih nd.2 h0 fun y hy => hpq y (by simp [hy])
      have hpe := hpq e (by simp) he
      rw [List.filter_cons, List.filter_cons]
      by_cases hh : p e = true
      · rw [if_pos hh, if_pos (by rw [← hpe]; exact hh)]
        exact (List.Perm.swap _ _ _).trans (ih.cons e)
      · rw [if_neg hh, if_neg (by rw [← hpe]; exact hh)]
        exact ih
theorem MQ_due {l : List En} {t : Nat} {dn : List Nm} {x : Nm} {u : Nat} (nd : (l.map (·.1)).Nodup) (hx : (x, u) ∈ l) (hu : u ≤ t) (hd : x ∉ dn) : ((x, u) :: MQ l t dn).Perm (MQ l t (dn ++ [x])) := by
  refine filter_add nd hx _ _ (by simp [hd]) (by simp [hu]) fun e he hne => ?_
  have h : e.1 ≠ x := fun h => hne (nd_same nd he hx h)
  have : (e.1 ∈ dn ++ [x]) ↔ e.1 ∈ dn := by simp [h]
  rw [decide_eq_decide.2 this]
theorem MQ_free {l : List En} {t : Nat} {dn : List Nm} {x : Nm} (hd : x ∉ dn) : ∀ e ∈ MQ l t dn, e.1 ≠ x := fun e he h => by
  have := (List.mem_filter.1 he).2
  simp only [Bool.and_eq_true, decide_eq_true_eq] at this
  rw [h] at this; exact hd this.1
theorem KQ_due {l : List En} {now t J : Nat} {dn : List Nm} {x : Nm} {u : Nat} (nd : (l.map (·.1)).Nodup) (hx : (x, u) ∈ l) (hu : u ≤ t) (j : Nat) : KQ l now t J (dn ++ [x]) j = KQ l now t J dn j := by
  unfold KQ
  congr 1
  apply List.filter_congr
  intro e he
  by_cases h : e.1 = x
  · have : e = (x, u) := nd_same nd he hx h
    subst this
    have : decide (t < u) = false := decide_eq_false (by omega)
    simp only [this, Bool.false_and]
  · have : (e.1 ∈ dn ++ [x]) ↔ e.1 ∈ dn := by simp [h]
    simp only [this]
theorem KQ_late {l : List En} {now t J : Nat} {dn : List Nm} {x : Nm} {u : Nat} (nd : (l.map (·.1)).Nodup) (hx : (x, u) ∈ l) (hu : t < u) (hd : x ∉ dn) (hJ : slotN now u < J) (j : Nat) :
    (ksSet (KQ l now t J dn) (slotN t u) (x :: (KQ l now t J dn (slotN t u)).filter fun y => !decide (y = x)) j).Perm (KQ l now t J (dn ++ [x]) j) := by
  have hfree : (KQ l now t J dn (slotN t u)).filter (fun y => !decide (y = x)) = KQ l now t J dn (slotN t u) := List.filter_eq_self.2 fun y hy => by
    obtain ⟨e, he, rfl⟩ := List.mem_map.1 hy
    obtain ⟨he1, he2⟩ := List.mem_filter.1 he
    have : e.1 ≠ x := fun h => by
      have : e = (x, u) := nd_same nd he1 hx h
      subst this
      simp only [Bool.and_eq_true, Bool.or_eq_true, decide_eq_true_eq] at he2
      rcases he2.2 with h | h
      · exact hd h.1
      · omega
    simp [this]
  rw [hfree]
  by_cases e : j = slotN t u
  · subst e
    rw [ksSet_at]
    unfold KQ
    have := (filter_add nd hx (fun e => decide (t < e.2) && (decide (e.1 ∈ dn ∧ slotN t e.2 = slotN t u) || decide (J ≤ slotN now e.2 ∧ slotN now e.2 = slotN t u))) (fun e => decide (t < e.2) && (decide (e.1 ∈ dn ++ [x] ∧ slotN t e.2 = slotN t u) || decide (J ≤ slotN now e.2 ∧ slotN now e.2 = slotN t u))) (by
      have h1 : decide (x ∈ dn ∧ slotN t u = slotN t u) = false := decide_eq_false fun h => hd h.1
      have h2 : decide (J ≤ slotN now u ∧ slotN now u = slotN t u) = false := decide_eq_false fun h => by omega
      show (decide (t < u) && (decide (x ∈ dn ∧ slotN t u = slotN t u) || decide (J ≤ slotN now u ∧ slotN now u = slotN t u))) = false
      rw [h1, h2]; simp) (by simp [hu]) fun e he hne => by
      have h : e.1 ≠ x := fun h => hne (nd_same nd he hx h)
      have : (e.1 ∈ dn ++ [x]) ↔ e.1 ∈ dn := by simp [h]
      simp only [this]).map (·.1)
    exact this
  · rw [ksSet_ne _ _ _ e]
    unfold KQ
    refine List.Perm.map _ (List.Perm.of_eq ?_)
    apply List.filter_congr
    intro e' he
    by_cases h : e'.1 = x
    · have : e' = (x, u) := nd_same nd he hx h
      subst this
      have h1 : decide (x ∈ dn ∧ slotN t u = j) = false := decide_eq_false fun h => hd h.1
      have h2 : decide (x ∈ dn ++ [x] ∧ slotN t u = j) = false := decide_eq_false fun h => e h.2.symm
      simp only [h1, h2]
    · have : (e'.1 ∈ dn ++ [x]) ↔ e'.1 ∈ dn := by simp [h]
      simp only [this]
/-- at the beginning: what was not gone through -/
theorem KQ_begin {l : List En} {now t : Nat} (tm : ∀ e ∈ l, now < e.2 ∧ e.2 ≤ MAXT) (ht : t ≤ MAXT) (j : Nat) : KQ l now t (Jof now t) [] j = if j < Jof now t then [] else ksOf now l j := by
  unfold KQ ksOf
  by_cases h : j < Jof now t
  · rw [if_pos h, List.filter_eq_nil_iff.2]; rfl
    intro e _
    simp only [List.not_mem_nil, false_and, decide_false, Bool.false_or, Bool.and_eq_true, decide_eq_true_eq]
    omega
  · rw [if_neg h]
    congr 1
    apply List.filter_congr
    intro e he
    simp only [List.not_mem_nil, false_and, decide_false, Bool.false_or]
    by_cases hs : slotN now e.2 = j
    · have h1 : t < e.2 := by
        apply Decidable.byContradiction; intro hn
        have := slot_due ht (tm e he).1 (by omega : e.2 ≤ t)
        omega
      rw [decide_eq_true h1, decide_eq_true hs, decide_eq_true ⟨by omega, hs⟩]; rfl
    · have h1 : decide (Jof now t ≤ slotN now e.2 ∧ slotN now e.2 = j) = false := decide_eq_false fun h => hs h.2
      have h2 : decide (slotN now e.2 = j) = false := decide_eq_false hs
      rw [h1, h2, Bool.and_false]
/-- at the end: all by the new clock -/
theorem KQ_end {l : List En} {now t : Nat} {dn : List Nm} (nd : (l.map (·.1)).Nodup) (tm : ∀ e ∈ l, now < e.2 ∧ e.2 ≤ MAXT) (h0 : now ≤ t) (hd : ∀ x, x ∈ dn ↔ x ∈ passed now l (Jof now t)) (j : Nat) :
    KQ l now t (Jof now t) dn j = ksOf t (l.filter fun e => decide (t < e.2)) j := by
  unfold KQ ksOf
  rw [List.filter_filter]
  congr 1
  apply List.filter_congr
  intro e he
  rw [Bool.and_comm]
  by_cases h1 : t < e.2
  · rw [decide_eq_true h1, Bool.and_true, Bool.and_true]
    have hin : e.1 ∈ dn ↔ slotN now e.2 < Jof now t := by
      rw [hd]
      unfold passed
      rw [List.mem_map]
      constructor
      · rintro ⟨e', he', h⟩
        obtain ⟨g1, g2⟩ := List.mem_filter.1 he'
        have := nd_same nd g1 he h
        subst this
        exact of_decide_eq_true g2
      · intro h
        exact ⟨e, List.mem_filter.2 ⟨he, decide_eq_true h⟩, rfl⟩
    by_cases h2 : slotN now e.2 < Jof now t
    · have e2 : decide (Jof now t ≤ slotN now e.2 ∧ slotN now e.2 = j) = false := decide_eq_false fun h => by omega
      rw [e2, Bool.or_false]
      exact decide_eq_decide.2 ⟨fun h => h.2, fun h => ⟨hin.2 h2, h⟩⟩
    · have e1 : decide (e.1 ∈ dn ∧ slotN t e.2 = j) = false := decide_eq_false fun h => h2 (hin.1 h.1)
      rw [e1, Bool.false_or, slot_stays (tm e he).2 h0 h1 (by omega)]
      exact decide_eq_decide.2 ⟨fun h => h.2, fun h => ⟨by omega, h⟩⟩
  · rw [decide_eq_false h1]; simp
theorem LQ_end {l : List En} {now t : Nat} {dn : List Nm} (tm : ∀ e ∈ l, now < e.2 ∧ e.2 ≤ MAXT) (ht : t ≤ MAXT) (hd : ∀ x, x ∈ dn ↔ x ∈ passed now l (Jof now t)) : LQ l t dn = l.filter fun e => decide (t < e.2) := by
  unfold LQ
  apply List.filter_congr
  intro e he
  by_cases h : e.2 ≤ t
  · have : e.1 ∈ dn := (hd _).2 (List.mem_map.2 ⟨e, List.mem_filter.2 ⟨he, decide_eq_true (slot_due ht (tm e he).1 h)⟩, rfl⟩)
    have h2 : decide (t < e.2) = false := decide_eq_false (by omega)
    rw [decide_eq_true this, decide_eq_true h, h2]; rfl
  · have h2 : decide (t < e.2) = true := decide_eq_true (by omega)
    rw [decide_eq_false h, h2]; simp
theorem MQ_end {l : List En} {now t : Nat} {dn : List Nm} (tm : ∀ e ∈ l, now < e.2 ∧ e.2 ≤ MAXT) (ht : t ≤ MAXT) (hd : ∀ x, x ∈ dn ↔ x ∈ passed now l (Jof now t)) : MQ l t dn = l.filter fun e => decide (e.2 ≤ t) := by
  unfold MQ
  apply List.filter_congr
  intro e he
  by_cases h : e.2 ≤ t
  · have : e.1 ∈ dn := (hd _).2 (List.mem_map.2 ⟨e, List.mem_filter.2 ⟨he, decide_eq_true (slot_due ht (tm e he).1 h)⟩, rfl⟩)
    rw [decide_eq_true this]; rfl
  · rw [decide_eq_false h, Bool.and_false]
end Go.Proofs.Ytpoedopdcpejmaa

namespace Go.Proofs.Ytpoedopdcpejmaa
open Go.Ev

def ksD (now : Nat) (l : List En) (D j : Nat) : List Nm := if j < D then [] else ksOf now l j
theorem passed_len (now : Nat) (l : List En) (D : Nat) : (passed now l D).length ≤ l.length := by
  unfold passed
  rw [List.length_map]
  exact List.length_filter_le _ _

/-- the temporaries that stay -/
structure Tk (b t : Nat) (tm : T Value) : Prop where
  t0 : tg tm 0 = .pointer (some ⟨b, 0, none⟩)
  t1 : tg tm 1 = .int .i64 (t : Int)
theorem Tk.set {b t : Nat} {tm : T Value} (x : Tk b t tm) {j : Nat} {w : Value} (hj : j ≠ 0 ∧ j ≠ 1) : Tk b t (T.set tm j w) := by
  obtain ⟨x0, x1⟩ := x
  refine ⟨?_, ?_⟩
  · rw [tg_set, if_neg hj.1]; exact x0
  · rw [tg_set, if_neg hj.2]; exact x1

/-- so far the slots are gone through -/
structure Dr (O : Nat → Prop) (h0 h : H) (b U now : Nat) (l : List En) (D : Nat) (v : Value) : Prop where
  k : Keep (fun c => O c ∨ h0.next ≤ c) h0 h
  w : ∃ sv, Wm O h b U now l sv (ksD now l D)
  n : ∃ ns, Nq (h0.next ≤ ·) h v ns ∧ ns.Perm (passed now l D)

section
variable {O : Nat → Prop} {h0 : H} {b U now t : Nat} {l : List En}
theorem Dr.keep0 {h h' : H} {D : Nat} {v : Value} (d : Dr O h0 h b U now l D v) (k : Keep nobody h h') : Dr O h0 h' b U now l D v := by
  obtain ⟨k1, ⟨sv, w⟩, ns, n1, n2⟩ := d
  exact ⟨k1.then k, ⟨sv, w.keep0 k⟩, ns, n1.keep0 k, n2⟩

/-- one ring's slots -/
theorem ring_loop (L n : Nat) (hL : 300000 < L) (hO : ∀ c, O c → c < h0.next) (hl : l.length ≤ 100000) {r m : Nat} (hr : r ≤ 6) (hm : m ≤ 64) {h : H} {tm : T Value} (d : Dr O h0 h b U now l (r * 64) (tg tm 6)) (x : Tk b t tm) (t8 : tg tm 8 = .int .i64 (r : Int)) (t46 : tg tm 46 = .int .i64 (m : Int)) (t47 : tg tm 47 = .int .i64 0) (g7 : Value) (t7 : tg tm 7 = g7) (Q : Ex → T Value → H → Prop)
    (hQ : ∀ h' tm', Dr O h0 h' b U now l (r * 64 + m) (tg tm' 6) → Tk b t tm' → tg tm' 8 = .int .i64 (r : Int) → tg tm' 7 = g7 → Q .norm tm' h') :
    C ⟨blockC 2 (loopB l12_17)⟩ (CF L (n + 1)) L tm h Q := by
  refine C.block (C.loop (fun q tm' hx => ∃ i, q = m - i ∧ i ≤ m ∧ Dr O h0 hx b U now l (r * 64 + i) (tg tm' 6) ∧ Tk b t tm' ∧ tg tm' 8 = .int .i64 (r : Int) ∧ tg tm' 46 = .int .i64 (m : Int) ∧ tg tm' 47 = .int .i64 (i : Int) ∧ tg tm' 7 = g7) m (by omega)
    ⟨0, rfl, by omega, d, x, t8, t46, t47, t7⟩ ?_)
  clear x t8 t46 t47 t7 d
  rintro q tm hx ⟨i, rfl, hi, d, x, t8, t46, t47, t7⟩
  unfold l12_17
  refine C.seq fun K hK => ?_
  simp only [↓opStep_eq, ↓reduceIte, ↓EW, EV, Nat.reduceAdd, Nat.reduceEqDiff, Int.reduceEq, Int.reduceLT, Int.reduceLE, Int.reduceNe, seqC, retC, skipC, exitC, blockC, condC, r12_14, t46, t47]
  refine hK _ _ _ (C.seq (C.cond (decide ((i : Int) < (m : Int))) (by simp only [↓opStep_eq, ↓reduceIte, ↓EW, EV, Nat.reduceAdd, Nat.reduceEqDiff, Int.reduceEq, Int.reduceLT, Int.reduceLE, Int.reduceNe, seqC, retC, skipC, exitC, blockC, condC]) (fun g => C.skip ?_) fun g => C.exit ?_))
  · have g : i < m := by have := of_decide_eq_true g; omega
    refine C.seq (C.block (C.seq fun K hK => ?_))
    simp only [↓opStep_eq, ↓reduceIte, ↓EW, EV, Nat.reduceAdd, Nat.reduceEqDiff, Int.reduceEq, Int.reduceLT, Int.reduceLE, Int.reduceNe, seqC, retC, skipC, exitC, blockC, condC, r12_15, t47]
    refine hK _ _ _ fun K hK => ?_
    obtain ⟨k1, ⟨sv, w⟩, ns, n1, n2⟩ := d
    have i1 := ixArr 64 7 b 2 r (by omega)
    have i2 := ixArr 1 64 b (2 + r * 64) i (by omega)
    rw [Nat.mul_one, Nat.add_assoc] at i2
    have hks : ksD now l (r * 64 + i) (r * 64 + i) = ksOf now l (r * 64 + i) := by unfold ksD; rw [if_neg (Nat.lt_irrefl _)]
    have hp := passed_succ now l (r * 64 + i)
    have hlen : ns.length + (ksD now l (r * 64 + i) (r * 64 + i)).length ≤ 100000 := by
      have h1 := hp.length_eq
      rw [List.length_append] at h1
      have h2 := passed_len now l (r * 64 + i + 1)
      rw [hks, n2.length_eq]
      omega
    simp only [↓opStep_eq, ↓reduceIte, ↓EW, EV, Nat.reduceAdd, Nat.reduceEqDiff, Int.reduceEq, Int.reduceLT, Int.reduceLE, Int.reduceNe, seqC, retC, skipC, exitC, blockC, condC, r12_16, x.t0, t8, nilChk_some, i1, i2]
    refine take_law L n w (by omega) n1 k1.next hO hlen hL _ fun v' h2 hq => ?_
    obtain ⟨sv2, ns2, w2, n3, n4, k2⟩ := hq
    refine hK _ _ _ fun K hK => ?_
    have wd := wadd1 i (by omega)
    simp only [↓opStep_eq, ↓reduceIte, ↓EW, EV, Nat.reduceAdd, Nat.reduceEqDiff, Int.reduceEq, Int.reduceLT, Int.reduceLE, Int.reduceNe, seqC, retC, skipC, exitC, blockC, condC, r12_17, t47, wd]
    refine hK _ _ _ ⟨m - (i + 1), by omega, i + 1, rfl, by omega, ⟨k1.trans k2 fun _ _ e => e, ⟨sv2, w2.congr (.refl _) fun j _ => ?_⟩, ns2, by simp only [↓opStep_eq, ↓reduceIte, ↓EW, EV, Nat.reduceAdd, Nat.reduceEqDiff, Int.reduceEq, Int.reduceLT, Int.reduceLE, Int.reduceNe, seqC, retC, skipC, exitC, blockC, condC]; exact n3, ?_⟩, ((x.set (by omega)).set (by omega)).set (by omega) |>.set (by omega), by simp only [↓opStep_eq, ↓reduceIte, ↓EW, EV, Nat.reduceAdd, Nat.reduceEqDiff, Int.reduceEq, Int.reduceLT, Int.reduceLE, Int.reduceNe, seqC, retC, skipC, exitC, blockC, condC, t8], by simp only [↓opStep_eq, ↓reduceIte, ↓EW, EV, Nat.reduceAdd, Nat.reduceEqDiff, Int.reduceEq, Int.reduceLT, Int.reduceLE, Int.reduceNe, seqC, retC, skipC, exitC, blockC, condC, t46], by simp only [↓opStep_eq, ↓reduceIte, ↓EW, EV, Nat.reduceAdd, Nat.reduceEqDiff, Int.reduceEq, Int.reduceLT, Int.reduceLE, Int.reduceNe, seqC, retC, skipC, exitC, blockC, condC], by simp only [↓opStep_eq, ↓reduceIte, ↓EW, EV, Nat.reduceAdd, Nat.reduceEqDiff, Int.reduceEq, Int.reduceLT, Int.reduceLE, Int.reduceNe, seqC, retC, skipC, exitC, blockC, condC, t7]⟩
    · refine List.Perm.of_eq ?_
      by_cases e : j = r * 64 + i
      · subst e
        rw [ksSet_at]; unfold ksD; rw [if_pos (by omega)]
      · rw [ksSet_ne _ _ _ e]
        unfold ksD
        by_cases h1 : j < r * 64 + i
        · rw [if_pos h1, if_pos (by omega)]
        · rw [if_neg h1, if_neg (by omega)]
    · rw [hks] at n4
      exact (n4.trans (n2.append_right _)).trans hp
  · simp only [if_pos]
    have g : i = m := by have := of_decide_eq_false g; omega
    subst g
    exact hQ hx _ (by simp only [↓opStep_eq, ↓reduceIte, ↓EW, EV, Nat.reduceAdd, Nat.reduceEqDiff, Int.reduceEq, Int.reduceLT, Int.reduceLE, Int.reduceNe, seqC, retC, skipC, exitC, blockC, condC]; exact d) (x.set (by omega)) (by simp only [↓opStep_eq, ↓reduceIte, ↓EW, EV, Nat.reduceAdd, Nat.reduceEqDiff, Int.reduceEq, Int.reduceLT, Int.reduceLE, Int.reduceNe, seqC, retC, skipC, exitC, blockC, condC, t8]) (by simp only [↓opStep_eq, ↓reduceIte, ↓EW, EV, Nat.reduceAdd, Nat.reduceEqDiff, Int.reduceEq, Int.reduceLT, Int.reduceLE, Int.reduceNe, seqC, retC, skipC, exitC, blockC, condC, t7])

/-- all rings up to the highest one -/
theorem drain_loop (L n : Nat) (hL : 300000 < L) (hO : ∀ c, O c → c < h0.next) (hl : l.length ≤ 100000) (hn : now ≤ MAXT) (ht : t ≤ MAXT) {h : H} {tm : T Value} (d : Dr O h0 h b U now l 0 (tg tm 6)) (x : Tk b t tm) {z : Int} (t7 : tg tm 7 = .int .i64 z) (hz : (now = t ∧ z = -1) ∨ (now ≠ t ∧ z = ((rgF now t : Nat) : Int))) (Q : Ex → T Value → H → Prop)
    (hQ : ∀ h' tm', Dr O h0 h' b U now l (Jof now t) (tg tm' 6) → Tk b t tm' → Q .norm tm' h') :
    C ⟨seqC ⟨r12_7⟩ ⟨blockC 0 (loopB l12_19)⟩⟩ (CF L (n + 1)) L tm h Q := by
  refine C.seq fun K hK => ?_
  simp only [↓opStep_eq, ↓reduceIte, ↓EW, EV, Nat.reduceAdd, Nat.reduceEqDiff, Int.reduceEq, Int.reduceLT, Int.reduceLE, Int.reduceNe, seqC, retC, skipC, exitC, blockC, condC, r12_7]
  refine hK .norm _ _ ?_
  have hg := rgF_le now t
  refine C.block (C.loop (fun q tm' hx => ∃ r, q = 8 - r ∧ r ≤ 7 ∧ ((r : Int) ≤ z + 1) ∧ Dr O h0 hx b U now l (if (r : Int) ≤ z then r * 64 else Jof now t) (tg tm' 6) ∧ Tk b t tm' ∧ tg tm' 8 = .int .i64 (r : Int) ∧ tg tm' 7 = .int .i64 z) 8 (by omega)
    ⟨0, rfl, by omega, ?_, ?_, x.set (by omega), by simp only [↓opStep_eq, ↓reduceIte, ↓EW, EV, Nat.reduceAdd, Nat.reduceEqDiff, Int.reduceEq, Int.reduceLT, Int.reduceLE, Int.reduceNe, seqC, retC, skipC, exitC, blockC, condC] <;> rfl, by simp only [↓opStep_eq, ↓reduceIte, ↓EW, EV, Nat.reduceAdd, Nat.reduceEqDiff, Int.reduceEq, Int.reduceLT, Int.reduceLE, Int.reduceNe, seqC, retC, skipC, exitC, blockC, condC, t7]⟩ ?_)
  · rcases hz with ⟨_, e⟩ | ⟨_, e⟩ <;> omega
  · simp only [↓opStep_eq, ↓reduceIte, ↓EW, EV, Nat.reduceAdd, Nat.reduceEqDiff, Int.reduceEq, Int.reduceLT, Int.reduceLE, Int.reduceNe, seqC, retC, skipC, exitC, blockC, condC]
    split
    · simpa using d
    · rename_i h
      rcases hz with ⟨e, e2⟩ | ⟨_, e⟩
      · have : Jof now t = 0 := by unfold Jof; rw [if_pos e]
        rw [this]; exact d
      · exfalso; omega
  clear x t7 d
  rintro q tm hx ⟨r, rfl, hr, hrz, d, x, t8, t7⟩
  unfold l12_19
  refine C.seq (C.seq fun K hK => ?_)
  simp only [↓opStep_eq, ↓reduceIte, ↓EW, EV, Nat.reduceAdd, Nat.reduceEqDiff, Int.reduceEq, Int.reduceLT, Int.reduceLE, Int.reduceNe, seqC, retC, skipC, exitC, blockC, condC, r12_8, t7, t8]
  refine hK _ _ _ (C.cond (decide ((r : Int) ≤ z)) (by simp only [↓opStep_eq, ↓reduceIte, ↓EW, EV, Nat.reduceAdd, Nat.reduceEqDiff, Int.reduceEq, Int.reduceLT, Int.reduceLE, Int.reduceNe, seqC, retC, skipC, exitC, blockC, condC]) (fun g => C.skip ?_) fun g => C.exit ?_)
  · have g := of_decide_eq_true g
    rw [if_pos g] at d
    obtain ⟨hne, rfl⟩ : now ≠ t ∧ z = ((rgF now t : Nat) : Int) := by
      rcases hz with ⟨_, e⟩ | h
      · omega
      · exact h
    have hJ : Jof now t = rgF now t * 64 + plc64 t (rgF now t) + 1 := by unfold Jof; rw [if_neg hne]
    generalize rgF now t = gg at *
    have hp := plc64_lt t gg
    -- the slots, then the next ring
    have go : ∀ (m : Nat) (tm1 : T Value) (K : KE), m ≤ 64 → (r < gg → m = 64) → (r = gg → m = plc64 t gg + 1) → Dr O h0 hx b U now l (r * 64) (tg tm1 6) → Tk b t tm1 → tg tm1 8 = .int .i64 (r : Int) → tg tm1 9 = .int .i64 ((m : Int) - 1) → tg tm1 7 = .int .i64 (gg : Int) →
        (∀ h' tm', Dr O h0 h' b U now l (r * 64 + m) (tg tm' 6) → Tk b t tm' → tg tm' 8 = .int .i64 (r : Int) → tg tm' 7 = .int .i64 (gg : Int) → K .norm tm' [] h' = true) → (seqC ⟨r12_13⟩ ⟨blockC 2 (loopB l12_17)⟩) (CF L (n + 1)) L tm1 [] hx K = true := fun m tm1 K hm h1 h2 d1 x1 u8 u9 u7 hK1 => by
      show (⟨seqC ⟨r12_13⟩ ⟨blockC 2 (loopB l12_17)⟩⟩ : Box CodeT).f (CF L (n + 1)) L tm1 [] hx K = true
      refine C.seq (Q := fun e tm' h' => K e tm' [] h' = true) (fun K2 hK2 => ?_) K fun _ _ _ h => h
      have wd : IntKind.i64.wrap ((m : Int) - 1 + 1) = (m : Int) := by rw [show (m : Int) - 1 + 1 = (m : Int) by omega]; exact wrap_i64 m (by omega)
      simp only [↓opStep_eq, ↓reduceIte, ↓EW, EV, Nat.reduceAdd, Nat.reduceEqDiff, Int.reduceEq, Int.reduceLT, Int.reduceLE, Int.reduceNe, seqC, retC, skipC, exitC, blockC, condC, r12_13, u9, wd]
      refine hK2 .norm _ _ ?_
      exact ring_loop L n hL hO hl (by omega) hm (by simp only [↓opStep_eq, ↓reduceIte, ↓EW, EV, Nat.reduceAdd, Nat.reduceEqDiff, Int.reduceEq, Int.reduceLT, Int.reduceLE, Int.reduceNe, seqC, retC, skipC, exitC, blockC, condC]; exact d1) ((x1.set (by omega)).set (by omega)) (by simp only [↓opStep_eq, ↓reduceIte, ↓EW, EV, Nat.reduceAdd, Nat.reduceEqDiff, Int.reduceEq, Int.reduceLT, Int.reduceLE, Int.reduceNe, seqC, retC, skipC, exitC, blockC, condC, u8]) (by simp only [↓opStep_eq, ↓reduceIte, ↓EW, EV, Nat.reduceAdd, Nat.reduceEqDiff, Int.reduceEq, Int.reduceLT, Int.reduceLE, Int.reduceNe, seqC, retC, skipC, exitC, blockC, condC]) (by simp only [↓opStep_eq, ↓reduceIte, ↓EW, EV, Nat.reduceAdd, Nat.reduceEqDiff, Int.reduceEq, Int.reduceLT, Int.reduceLE, Int.reduceNe, seqC, retC, skipC, exitC, blockC, condC] <;> rfl) (.int .i64 (gg : Int)) (by simp only [↓opStep_eq, ↓reduceIte, ↓EW, EV, Nat.reduceAdd, Nat.reduceEqDiff, Int.reduceEq, Int.reduceLT, Int.reduceLE, Int.reduceNe, seqC, retC, skipC, exitC, blockC, condC, u7]) _ fun h' tm' d' x' v8 v7 => hK1 h' tm' d' x' v8 v7
    have again : ∀ (m : Nat) h' tm' (Q' : Ex → T Value → Ev.H → Prop), m ≤ 64 → (r < gg → m = 64) → (r = gg → m = plc64 t gg + 1) → Dr O h0 h' b U now l (r * 64 + m) (tg tm' 6) → Tk b t tm' → tg tm' 8 = .int .i64 (r : Int) → tg tm' 7 = .int .i64 (gg : Int) →
        (∀ tm2, (∃ q', q' < 8 - r ∧ ∃ r, q' = 8 - r ∧ r ≤ 7 ∧ ((r : Int) ≤ (gg : Int) + 1) ∧ Dr O h0 h' b U now l (if (r : Int) ≤ (gg : Int) then r * 64 else Jof now t) (tg tm2 6) ∧ Tk b t tm2 ∧ tg tm2 8 = .int .i64 (r : Int) ∧ tg tm2 7 = .int .i64 (gg : Int)) → Q' .norm tm2 h') → C ⟨r12_9⟩ (CF L (n + 1)) L tm' h' Q' := fun m h' tm' Q' hm h1 h2 d' x' v8 v7 hQ' => by
      intro K hK
      have wd := wadd1 r (by omega)
      simp only [↓opStep_eq, ↓reduceIte, ↓EW, EV, Nat.reduceAdd, Nat.reduceEqDiff, Int.reduceEq, Int.reduceLT, Int.reduceLE, Int.reduceNe, seqC, retC, skipC, exitC, blockC, condC, r12_9, v8, wd]
      refine hK _ _ _ (hQ' _ ⟨8 - (r + 1), by omega, r + 1, rfl, by omega, by omega, ?_, x'.set (by omega), by simp only [↓opStep_eq, ↓reduceIte, ↓EW, EV, Nat.reduceAdd, Nat.reduceEqDiff, Int.reduceEq, Int.reduceLT, Int.reduceLE, Int.reduceNe, seqC, retC, skipC, exitC, blockC, condC], by simp only [↓opStep_eq, ↓reduceIte, ↓EW, EV, Nat.reduceAdd, Nat.reduceEqDiff, Int.reduceEq, Int.reduceLT, Int.reduceLE, Int.reduceNe, seqC, retC, skipC, exitC, blockC, condC, v7]⟩)
      simp only [↓opStep_eq, ↓reduceIte, ↓EW, EV, Nat.reduceAdd, Nat.reduceEqDiff, Int.reduceEq, Int.reduceLT, Int.reduceLE, Int.reduceNe, seqC, retC, skipC, exitC, blockC, condC]
      by_cases e : r < gg
      · have em := h1 e
        rw [if_pos (by omega)]
        subst em
        rw [show (r + 1) * 64 = r * 64 + 64 by omega]
        exact d'
      · have er : r = gg := by omega
        have em := h2 er
        rw [if_neg (by omega), hJ]
        subst em
        rw [er] at d'
        exact d'
    refine C.seq (C.block (C.seq fun K hK => ?_))
    simp only [↓opStep_eq, ↓reduceIte, ↓EW, EV, Nat.reduceAdd, Nat.reduceEqDiff, Int.reduceEq, Int.reduceLT, Int.reduceLE, Int.reduceNe, seqC, retC, skipC, exitC, blockC, condC, r12_10]
    refine hK .norm _ _ (C.seq (C.seq fun K hK => ?_))
    simp only [↓opStep_eq, ↓reduceIte, ↓EW, EV, Nat.reduceAdd, Nat.reduceEqDiff, Int.reduceEq, Int.reduceLT, Int.reduceLE, Int.reduceNe, seqC, retC, skipC, exitC, blockC, condC, r12_11, t7, t8]
    refine hK _ _ _ (C.cond (decide ((r : Int) = (gg : Int))) (by simp only [↓opStep_eq, ↓reduceIte, ↓EW, EV, Nat.reduceAdd, Nat.reduceEqDiff, Int.reduceEq, Int.reduceLT, Int.reduceLE, Int.reduceNe, seqC, retC, skipC, exitC, blockC, condC]) (fun g2 => fun K hK => ?_) fun g2 => C.skip ?_)
    · have g2 : r = gg := by have := of_decide_eq_true g2; omega
      subst g2
      simp only [↓opStep_eq, ↓reduceIte, ↓EW, EV, Nat.reduceAdd, Nat.reduceEqDiff, Int.reduceEq, Int.reduceLT, Int.reduceLE, Int.reduceNe, seqC, retC, skipC, exitC, blockC, condC, r12_12, x.t1, t8]
      refine place_law L n t r ht (by omega) _ _ fun v h2 hq => ?_
      obtain ⟨rfl, rfl⟩ := hq
      refine hK .norm _ _ fun K hK => ?_
      rw [show ∀ x : CodeT, (⟨x⟩ : Box CodeT).f = x from fun _ => rfl]
      refine go (plc64 t r + 1) _ K (by omega) (fun h => by omega) (fun _ => rfl) ?_ ?_ ?_ ?_ ?_ fun h' tm' d' x' v8 v7 => hK _ _ _ (again (plc64 t r + 1) h' tm' _ (by omega) (fun h => by omega) (fun _ => rfl) d' x' v8 v7 fun tm2 hh => hh)
      · simp only [↓opStep_eq, ↓reduceIte, ↓EW, EV, Nat.reduceAdd, Nat.reduceEqDiff, Int.reduceEq, Int.reduceLT, Int.reduceLE, Int.reduceNe, seqC, retC, skipC, exitC, blockC, condC]; exact d
      · exact ((x.set (by omega)).set (by omega)).set (by omega) |>.set (by omega)
      · simp only [↓opStep_eq, ↓reduceIte, ↓EW, EV, Nat.reduceAdd, Nat.reduceEqDiff, Int.reduceEq, Int.reduceLT, Int.reduceLE, Int.reduceNe, seqC, retC, skipC, exitC, blockC, condC, t8]
      · simp only [↓opStep_eq, ↓reduceIte, ↓EW, EV, Nat.reduceAdd, Nat.reduceEqDiff, Int.reduceEq, Int.reduceLT, Int.reduceLE, Int.reduceNe, seqC, retC, skipC, exitC, blockC, condC]; congr 1; omega
      · simp only [↓opStep_eq, ↓reduceIte, ↓EW, EV, Nat.reduceAdd, Nat.reduceEqDiff, Int.reduceEq, Int.reduceLT, Int.reduceLE, Int.reduceNe, seqC, retC, skipC, exitC, blockC, condC, t7]
    · have g2 : r < gg := by have := of_decide_eq_false g2; omega
      intro K hK
      rw [show ∀ x : CodeT, (⟨x⟩ : Box CodeT).f = x from fun _ => rfl]
      refine go 64 _ K (by omega) (fun _ => rfl) (fun h => by omega) ?_ ?_ ?_ ?_ ?_ fun h' tm' d' x' v8 v7 => hK _ _ _ (again 64 h' tm' _ (by omega) (fun _ => rfl) (fun h => by omega) d' x' v8 v7 fun tm2 hh => hh)
      · simp only [↓opStep_eq, ↓reduceIte, ↓EW, EV, Nat.reduceAdd, Nat.reduceEqDiff, Int.reduceEq, Int.reduceLT, Int.reduceLE, Int.reduceNe, seqC, retC, skipC, exitC, blockC, condC]; exact d
      · exact ((x.set (by omega)).set (by omega)).set (by omega)
      · simp only [↓opStep_eq, ↓reduceIte, ↓EW, EV, Nat.reduceAdd, Nat.reduceEqDiff, Int.reduceEq, Int.reduceLT, Int.reduceLE, Int.reduceNe, seqC, retC, skipC, exitC, blockC, condC, t8]
      · simp only [↓opStep_eq, ↓reduceIte, ↓EW, EV, Nat.reduceAdd, Nat.reduceEqDiff, Int.reduceEq, Int.reduceLT, Int.reduceLE, Int.reduceNe, seqC, retC, skipC, exitC, blockC, condC] <;> rfl
      · simp only [↓opStep_eq, ↓reduceIte, ↓EW, EV, Nat.reduceAdd, Nat.reduceEqDiff, Int.reduceEq, Int.reduceLT, Int.reduceLE, Int.reduceNe, seqC, retC, skipC, exitC, blockC, condC, t7]
  · simp only [if_pos]
    have g := of_decide_eq_false g
    rw [if_neg g] at d
    exact hQ hx _ (by simp only [↓opStep_eq, ↓reduceIte, ↓EW, EV, Nat.reduceAdd, Nat.reduceEqDiff, Int.reduceEq, Int.reduceLT, Int.reduceLE, Int.reduceNe, seqC, retC, skipC, exitC, blockC, condC]; exact d) (x.set (by omega))
end
end Go.Proofs.Ytpoedopdcpejmaa

namespace Go.Proofs.Ytpoedopdcpejmaa
open Go.Ev

theorem Nq.at {P : Nat → Prop} {h : H} {v : Value} {ns : List Nm} (a : Nq P h v ns) {i : Nat} {x : Nm} (hx : ns[i]? = some x) : ∃ b, indexSl 2 v (.int .i64 (i : Int)) = some (.pointer (some ⟨b, i * 2, none⟩)) ∧ ∀ s, loadAgg 2 h (.pointer (some ⟨b, i * 2, s⟩)) = some x.v := by
  have hi : i < ns.length := (List.getElem?_eq_some_iff.1 hx).1
  rcases a with ⟨rfl, rfl⟩ | ⟨b, cap, rfl, _, hb, _⟩
  · cases hx
  · have nth : ∀ k, k < ns.length → ns[k]? = some (ns.getD k (0, .empty)) := fun k hk => by rw [List.getD_eq_getElem?_getD, List.getElem?_eq_getElem hk]; rfl
    have arr : Arr h b (.slice (some ⟨b, 0, none⟩) ns.length cap) ns.length (fun k => ns.getD k (0, .empty)) := ⟨cap, cellsN ns, 2, rfl, hb, by rw [cellsN_len]; exact Nat.le_refl _, fun k hk => cellsN_at ns k _ (nth k hk)⟩
    have e : ns.getD i (0, .empty) = x := by have := nth i hi; rw [hx] at this; exact (Option.some.inj this).symm
    refine ⟨b, arr.ix hi, fun s => ?_⟩
    rw [arr.ld hi s, e]

structure Q2 (O : Nat → Prop) (h0 : H) (b U Wb D lo2 now t : Nat) (l : List En) (ns : List Nm) (vp : Value) (h : H) (dn : List Nm) (vd : Value) (O' : Nat → Prop) : Prop where
  w : ∃ sv, Wm O' h b U t (LQ l t dn) sv (KQ l now t (Jof now t) dn)
  fw : Fw O h0 O' h
  lo : h0.next ≤ Wb ∧ lo2 ≤ h.next
  mp : Mp h Wb (untilM (MQ l t dn))
  hD : Has h D (.rw [Value.map (some Wb)])
  wb : Wb < lo2 ∧ ¬ O' Wb
  dd : D < lo2 ∧ ¬ O' D ∧ D ≠ Wb
  np : Nq (fun c => c < lo2 ∧ ¬ O' c ∧ c ≠ Wb) h vp ns
  nd : ∃ ds, Nq (fun c => lo2 ≤ c ∧ ¬ O' c) h vd ds ∧ ds.Perm ((MQ l t dn).map (·.1))

section
variable {O O' : Nat → Prop} {h0 h : H} {b U Wb D lo2 now t : Nat} {l : List En} {ns dn : List Nm} {vp vd : Value}
theorem Q2.keep0 {h' : H} (q : Q2 O h0 b U Wb D lo2 now t l ns vp h dn vd O') (k : Keep nobody h h') : Q2 O h0 b U Wb D lo2 now t l ns vp h' dn vd O' := by
  obtain ⟨⟨sv, w⟩, fw, lo, mp, hD, wb, dd, np, ds, nd, pd⟩ := q
  exact ⟨⟨sv, w.keep0 k⟩, fw.trans (Fw.of0 k), ⟨lo.1, Nat.le_trans lo.2 k.next⟩, mp.keep0 k, hD.keep0 k, wb, dd, np.keep0 k, ds, nd.keep0 k, pd⟩
theorem Q2.put {h' : H} {O'' : Nat → Prop} {sv' : List Value} {dn' : List Nm} (q : Q2 O h0 b U Wb D lo2 now t l ns vp h dn vd O') (w' : Wm O'' h' b U t (LQ l t dn') sv' (KQ l now t (Jof now t) dn')) (f : Fw O' h O'' h') (e : MQ l t dn' = MQ l t dn) : Q2 O h0 b U Wb D lo2 now t l ns vp h' dn' vd O'' := by
  obtain ⟨⟨sv, w⟩, fw, lo, mp, hD, wb, dd, np, ds, nd, pd⟩ := q
  refine ⟨⟨sv', w'⟩, fw.trans f, ⟨lo.1, Nat.le_trans lo.2 f.keep.next⟩, ?_, hD.keep f.keep dd.2.1, ⟨wb.1, fun g => wb.2 (f.same _ (by omega) g)⟩, ⟨dd.1, fun g => dd.2.1 (f.same _ (by omega) g), dd.2.2⟩, ?_, ds, ?_, ?_⟩
  · rw [e]; exact mp.keep f.keep wb.2
  · refine ((np.mono (P' := fun c => (c < lo2 ∧ ¬ O'' c ∧ c ≠ Wb) ∧ ¬ O' c) fun c hc p => ⟨⟨p.1, fun g => p.2.1 (f.same c hc g), p.2.2⟩, p.2.1⟩).keep f.keep fun c g p => p.2 g).mono fun c _ p => p.1
  · refine ((nd.mono (P' := fun c => (lo2 ≤ c ∧ ¬ O'' c) ∧ ¬ O' c) fun c hc p => ⟨⟨p.1, fun g => p.2 (f.same c hc g)⟩, p.2⟩).keep f.keep fun c g p => p.2 g).mono fun c _ p => p.1
  · rw [e]; exact pd

theorem LQ_mem {x : Nm} {u : Nat} (hx : (x, u) ∈ l) (hd : x ∉ dn) : (x, u) ∈ LQ l t dn := List.mem_filter.2 ⟨hx, by simp [hd]⟩
theorem MQ_len (l : List En) (t : Nat) (dn : List Nm) : (MQ l t dn).length ≤ l.length := List.length_filter_le _ _

theorem due_loop (L n : Nat) (hL : 300000 < L) (wi : WI now l) (hl : l.length ≤ 100000) (ht : t ≤ MAXT) (hnd : ns.Nodup) (hns : ∀ x ∈ ns, ∃ u, (x, u) ∈ l ∧ slotN now u < Jof now t) (hlen : ns.length ≤ 100000) {tm : T Value} (q : Q2 O h0 b U Wb D lo2 now t l ns vp h [] (tg tm 11) O') (x : Tk b t tm) (t6 : tg tm 6 = vp) (t12 : tg tm 12 = .pointer (some ⟨D, 0, none⟩)) (Q : Ex → T Value → H → Prop)
    (hQ : ∀ h' tm' O'', Q2 O h0 b U Wb D lo2 now t l ns vp h' ns (tg tm' 11) O'' → Tk b t tm' → tg tm' 12 = .pointer (some ⟨D, 0, none⟩) → Q .norm tm' h') :
    C ⟨seqC ⟨r12_21⟩ ⟨blockC 4 (loopB l12_33)⟩⟩ (CF L (n + 4)) L tm h Q := by
  refine C.seq fun K hK => ?_
  simp only [↓opStep_eq, ↓reduceIte, ↓EW, EV, Nat.reduceAdd, Nat.reduceEqDiff, Int.reduceEq, Int.reduceLT, Int.reduceLE, Int.reduceNe, seqC, retC, skipC, exitC, blockC, condC, r12_21, t6, q.np.len]
  refine hK _ _ _ ?_
  refine C.block (C.loop (fun p tm' hx => ∃ i O', p = ns.length - i ∧ i ≤ ns.length ∧ Q2 O h0 b U Wb D lo2 now t l ns vp hx (ns.take i) (tg tm' 11) O' ∧ Tk b t tm' ∧ tg tm' 12 = .pointer (some ⟨D, 0, none⟩) ∧ tg tm' 65 = vp ∧ tg tm' 66 = .int .i64 (ns.length : Int) ∧ tg tm' 67 = .int .i64 (i : Int)) ns.length (by omega)
    ⟨0, O', rfl, by omega, by simp only [↓opStep_eq, ↓reduceIte, ↓EW, EV, Nat.reduceAdd, Nat.reduceEqDiff, Int.reduceEq, Int.reduceLT, Int.reduceLE, Int.reduceNe, seqC, retC, skipC, exitC, blockC, condC]; exact q, ((x.set (by omega)).set (by omega)).set (by omega), by simp only [↓opStep_eq, ↓reduceIte, ↓EW, EV, Nat.reduceAdd, Nat.reduceEqDiff, Int.reduceEq, Int.reduceLT, Int.reduceLE, Int.reduceNe, seqC, retC, skipC, exitC, blockC, condC, t12], by simp only [↓opStep_eq, ↓reduceIte, ↓EW, EV, Nat.reduceAdd, Nat.reduceEqDiff, Int.reduceEq, Int.reduceLT, Int.reduceLE, Int.reduceNe, seqC, retC, skipC, exitC, blockC, condC], by simp only [↓opStep_eq, ↓reduceIte, ↓EW, EV, Nat.reduceAdd, Nat.reduceEqDiff, Int.reduceEq, Int.reduceLT, Int.reduceLE, Int.reduceNe, seqC, retC, skipC, exitC, blockC, condC], by simp only [↓opStep_eq, ↓reduceIte, ↓EW, EV, Nat.reduceAdd, Nat.reduceEqDiff, Int.reduceEq, Int.reduceLT, Int.reduceLE, Int.reduceNe, seqC, retC, skipC, exitC, blockC, condC] <;> rfl⟩ ?_)
  clear x t6 t12 q
  rintro p tm hx ⟨i, O', rfl, hi, q, x, t12, t65, t66, t67⟩
  unfold l12_33
  refine C.seq fun K hK => ?_
  simp only [↓opStep_eq, ↓reduceIte, ↓EW, EV, Nat.reduceAdd, Nat.reduceEqDiff, Int.reduceEq, Int.reduceLT, Int.reduceLE, Int.reduceNe, seqC, retC, skipC, exitC, blockC, condC, r12_22, t66, t67]
  refine hK _ _ _ (C.seq (C.cond (decide ((i : Int) < (ns.length : Int))) (by simp only [↓opStep_eq, ↓reduceIte, ↓EW, EV, Nat.reduceAdd, Nat.reduceEqDiff, Int.reduceEq, Int.reduceLT, Int.reduceLE, Int.reduceNe, seqC, retC, skipC, exitC, blockC, condC]) (fun g => C.skip ?_) fun g => C.exit ?_))
  · have g : i < ns.length := by have := of_decide_eq_true g; omega
    obtain ⟨y, hy⟩ : ∃ y, ns[i]? = some y := ⟨ns[i], List.getElem?_eq_getElem g⟩
    have hmem : y ∈ ns := List.mem_of_getElem? hy
    obtain ⟨u, hu, hsl⟩ := hns y hmem
    have htm := wi.tm _ hu
    have htake : ns.take (i + 1) = ns.take i ++ [y] := by
      rw [List.take_add_one, hy]; rfl
    have hdn : y ∉ ns.take i := fun hm => by
      obtain ⟨k, hk⟩ := List.getElem?_of_mem hm
      rw [List.getElem?_take] at hk
      split at hk
      · rename_i hki
        have := (List.getElem?_inj (by omega) hnd).1 (hk.trans hy.symm)
        omega
      · cases hk
    generalize hdn' : ns.take i = dn at *
    obtain ⟨cb, e1, ld1⟩ := q.np.at hy
    have i1 := wadd1 i (by omega)
    -- behind the round
    have again : ∀ (h' : H) (tm' : T Value) (O'' : Nat → Prop) (Q' : Ex → T Value → Ev.H → Prop), Q2 O h0 b U Wb D lo2 now t l ns vp h' (dn ++ [y]) (tg tm' 11) O'' → Tk b t tm' → tg tm' 12 = .pointer (some ⟨D, 0, none⟩) → tg tm' 65 = vp → tg tm' 66 = .int .i64 (ns.length : Int) → tg tm' 67 = .int .i64 (i : Int) →
        (∀ tm2, (∃ p', p' < ns.length - i ∧ ∃ i O', p' = ns.length - i ∧ i ≤ ns.length ∧ Q2 O h0 b U Wb D lo2 now t l ns vp h' (ns.take i) (tg tm2 11) O' ∧ Tk b t tm2 ∧ tg tm2 12 = .pointer (some ⟨D, 0, none⟩) ∧ tg tm2 65 = vp ∧ tg tm2 66 = .int .i64 (ns.length : Int) ∧ tg tm2 67 = .int .i64 (i : Int)) → Q' .norm tm2 h') → C ⟨r12_30⟩ (CF L (n + 4)) L tm' h' Q' := fun h' tm' O'' Q' q' x' u12 u65 u66 u67 hQ' => by
      intro K hK
      simp only [↓opStep_eq, ↓reduceIte, ↓EW, EV, Nat.reduceAdd, Nat.reduceEqDiff, Int.reduceEq, Int.reduceLT, Int.reduceLE, Int.reduceNe, seqC, retC, skipC, exitC, blockC, condC, r12_30, u67, i1]
      refine hK _ _ _ (hQ' _ ⟨ns.length - (i + 1), by omega, i + 1, O'', rfl, by omega, ?_, x'.set (by omega), by simp only [↓opStep_eq, ↓reduceIte, ↓EW, EV, Nat.reduceAdd, Nat.reduceEqDiff, Int.reduceEq, Int.reduceLT, Int.reduceLE, Int.reduceNe, seqC, retC, skipC, exitC, blockC, condC, u12], by simp only [↓opStep_eq, ↓reduceIte, ↓EW, EV, Nat.reduceAdd, Nat.reduceEqDiff, Int.reduceEq, Int.reduceLT, Int.reduceLE, Int.reduceNe, seqC, retC, skipC, exitC, blockC, condC, u65], by simp only [↓opStep_eq, ↓reduceIte, ↓EW, EV, Nat.reduceAdd, Nat.reduceEqDiff, Int.reduceEq, Int.reduceLT, Int.reduceLE, Int.reduceNe, seqC, retC, skipC, exitC, blockC, condC, u66], by simp only [↓opStep_eq, ↓reduceIte, ↓EW, EV, Nat.reduceAdd, Nat.reduceEqDiff, Int.reduceEq, Int.reduceLT, Int.reduceLE, Int.reduceNe, seqC, retC, skipC, exitC, blockC, condC]⟩)
      rw [htake]
      simp only [↓opStep_eq, ↓reduceIte, ↓EW, EV, Nat.reduceAdd, Nat.reduceEqDiff, Int.reduceEq, Int.reduceLT, Int.reduceLE, Int.reduceNe, seqC, retC, skipC, exitC, blockC, condC]
      exact q'
    refine C.seq (C.block (C.seq fun K hK => ?_))
    have k1 := keep_alloc hx (.rw [.int .i64 0, .string (strB [])]) (.rw [.int .i64 y.1, .string y.2])
    have b1 := has_alloc hx (.rw [.int .i64 0, .string (strB [])]) (.rw [.int .i64 y.1, .string y.2])
    have s1 := store2_new hx [.int .i64 0, .string (strB [])] y.1 y.2 rfl
    have s1' : storeV 2 (hx.new (.rw [.int .i64 0, .string (strB [])])) (.pointer (some ⟨hx.next, 0, none⟩)) y.v = some ((hx.new (.rw [.int .i64 0, .string (strB [])])).put hx.next (.rw [.int .i64 y.1, .string y.2])) := s1
    simp only [↓opStep_eq, ↓reduceIte, ↓EW, EV, Nat.reduceAdd, Nat.reduceEqDiff, Int.reduceEq, Int.reduceLT, Int.reduceLE, Int.reduceNe, seqC, retC, skipC, exitC, blockC, condC, r12_23, t65, t67, e1, ld1, s1']
    obtain ⟨ds, nds, pds⟩ := q.nd
    have nds1 : Nq (fun c => (lo2 ≤ c ∧ ¬ O' c) ∧ c ≠ hx.next) hx (tg tm 11) ds := nds.mono fun c hc p => ⟨p, by omega⟩
    have q1 := q.keep0 k1
    have hcur : ¬ O' hx.next := fun e => by obtain ⟨sv, w⟩ := q.w; have := w.far _ e; omega
    have hlo := q.lo.2
    generalize hc : hx.next = c at *
    replace nds1 := nds1.keep0 k1
    generalize (hx.new (.rw [.int .i64 0, .string (strB [])])).put c (.rw [.int .i64 y.1, .string y.2]) = h1 at *
    refine hK _ _ _ (C.seq fun K hK => ?_)
    have kr := keep_room h1 7
    have q2 := q1.keep0 kr
    have b2 := b1.keep0 kr
    replace nds1 := nds1.keep0 kr
    obtain ⟨sv, w2⟩ := q2.w
    have lk := w2.un.of (until_mem (LQ_mem hu hdn)) (.int .i64 0) false
    simp only [↓opStep_eq, ↓reduceIte, ↓EW, EV, Nat.reduceAdd, Nat.reduceEqDiff, Int.reduceEq, Int.reduceLT, Int.reduceLE, Int.reduceNe, seqC, retC, skipC, exitC, blockC, condC, r12_24, x.t0, nilChk_some, w2.ldUn, load2 b2, lk]
    generalize (⟨h1.objs, h1.next + 7⟩ : H) = h2 at *
    refine hK _ _ _ (C.seq (C.seq fun K hK => ?_))
    simp only [↓opStep_eq, ↓reduceIte, ↓EW, EV, Nat.reduceAdd, Nat.reduceEqDiff, Int.reduceEq, Int.reduceLT, Int.reduceLE, Int.reduceNe, seqC, retC, skipC, exitC, blockC, condC, r12_25, x.t1]
    refine hK _ _ _ (C.cond (decide ((t : Int) < (u : Int))) (by simp only [↓opStep_eq, ↓reduceIte, ↓EW, EV, Nat.reduceAdd, Nat.reduceEqDiff, Int.reduceEq, Int.reduceLT, Int.reduceLE, Int.reduceNe, seqC, retC, skipC, exitC, blockC, condC]) (fun gu => ?_) fun gu => C.skip ?_)
    · have gu : t < u := by have := of_decide_eq_true gu; omega
      refine C.seq fun K hK => ?_
      simp only [↓opStep_eq, ↓reduceIte, ↓EW, EV, Nat.reduceAdd, Nat.reduceEqDiff, Int.reduceEq, Int.reduceLT, Int.reduceLE, Int.reduceNe, seqC, retC, skipC, exitC, blockC, condC, r12_26, x.t0, load2 b2]
      refine put_law L n w2 ht htm.2 (by omega) _ fun r h3 hq => ?_
      obtain ⟨O3, sv3, w3, fw3⟩ := hq
      refine hK _ _ _ (C.exit ?_)
      simp only [↓opStep_eq, ↓reduceIte, ↓EW, EV, Nat.reduceAdd, Nat.reduceEqDiff, Int.reduceEq, Int.reduceLT, Int.reduceLE, Int.reduceNe, seqC, retC, skipC, exitC, blockC, condC]
      refine again h3 _ O3 _ ?_ ?_ ?_ ?_ ?_ ?_ fun tm2 hh => hh
      · simp only [↓opStep_eq, ↓reduceIte, ↓EW, EV, Nat.reduceAdd, Nat.reduceEqDiff, Int.reduceEq, Int.reduceLT, Int.reduceLE, Int.reduceNe, seqC, retC, skipC, exitC, blockC, condC]
        refine q2.put (w3.congr ?_ fun j _ => KQ_late wi.nd hu gu hdn hsl j) fw3 (MQ_late wi.nd hu gu)
        rw [LQ_late wi.nd hu gu]
      · exact (((x.set (by omega)).set (by omega)).set (by omega)).set (by omega)
      · simp only [↓opStep_eq, ↓reduceIte, ↓EW, EV, Nat.reduceAdd, Nat.reduceEqDiff, Int.reduceEq, Int.reduceLT, Int.reduceLE, Int.reduceNe, seqC, retC, skipC, exitC, blockC, condC, t12]
      · simp only [↓opStep_eq, ↓reduceIte, ↓EW, EV, Nat.reduceAdd, Nat.reduceEqDiff, Int.reduceEq, Int.reduceLT, Int.reduceLE, Int.reduceNe, seqC, retC, skipC, exitC, blockC, condC, t65]
      · simp only [↓opStep_eq, ↓reduceIte, ↓EW, EV, Nat.reduceAdd, Nat.reduceEqDiff, Int.reduceEq, Int.reduceLT, Int.reduceLE, Int.reduceNe, seqC, retC, skipC, exitC, blockC, condC, t66]
      · simp only [↓opStep_eq, ↓reduceIte, ↓EW, EV, Nat.reduceAdd, Nat.reduceEqDiff, Int.reduceEq, Int.reduceLT, Int.reduceLE, Int.reduceNe, seqC, retC, skipC, exitC, blockC, condC, t67]
    · have gu : u ≤ t := by have := of_decide_eq_false gu; omega
      refine C.seq fun K hK => ?_
      obtain ⟨o3, eo3, mo3⟩ := q2.mp.set y (.int .i64 (u : Int))
      have em : (y, Value.int .i64 (u : Int)) :: dropN (untilM (MQ l t dn)) y = untilM ((y, u) :: MQ l t dn) := by
        rw [until_drop]
        show _ :: untilM (wo (MQ l t dn) y) = _
        rw [wo_none (MQ_free hdn)]; rfl
      rw [em] at mo3
      have lD : ∀ s, loadOne h2 (.pointer (some ⟨D, 0, s⟩)) = some (.map (some Wb)) := fun s => by rw [loadOne_has q2.hD rfl]; rfl
      have k3 := Keep.put h2 Wb o3
      have hlo2 := q2.lo.2
      have hlo0 := q2.lo.1
      have hwb := q2.wb
      have hdd := q2.dd
      have n3 : (h2.put Wb o3).next = h2.next := rfl
      have b3 := b2.keep k3 fun e => by have e : c = Wb := e; omega
      have w3 := w2.keepO k3 fun d e => by rw [e]; exact hwb.2
      have hD3 := q2.hD.keep k3 hdd.2.2
      have np3 := q2.np.keep k3 fun d e p => p.2.2 e
      replace nds1 := nds1.keep k3 fun d e p => by have e : d = Wb := e; omega
      have fw3 : Fw O h0 O' (h2.put Wb o3) := ⟨q2.fw.keep.trans k3 fun d hd e => by have e : d = Wb := e; omega, q2.fw.same⟩
      simp only [↓opStep_eq, ↓reduceIte, ↓EW, EV, Nat.reduceAdd, Nat.reduceEqDiff, Int.reduceEq, Int.reduceLT, Int.reduceLE, Int.reduceNe, seqC, retC, skipC, exitC, blockC, condC, r12_27, t12, lD, load2 b2, eo3]
      generalize h2.put Wb o3 = h3 at *
      refine hK _ _ _ (C.seq fun K hK => ?_)
      have k4 := Keep.new h3 (.rw [.int .i64 y.1, .string y.2])
      have b4 := Has.new h3 (.rw [.int .i64 y.1, .string y.2])
      have n4 : (h3.new (.rw [.int .i64 y.1, .string y.2])).next = h3.next + 1 := rfl
      simp only [↓opStep_eq, ↓reduceIte, ↓EW, EV, Nat.reduceAdd, Nat.reduceEqDiff, Int.reduceEq, Int.reduceLT, Int.reduceLE, Int.reduceNe, seqC, retC, skipC, exitC, blockC, condC, r12_28, load2 b3, mkN]
      have b3' := b3.keep0 k4
      have w4 := w3.keep0 k4
      have mp4 := mo3.keep0 k4
      have hD4 := hD3.keep0 k4
      have np4 := np3.keep0 k4
      replace nds1 := nds1.keep0 k4
      have fw4 := fw3.trans (Fw.of0 k4)
      generalize h3.new (.rw [.int .i64 y.1, .string y.2]) = h4 at *
      have hc4 : c < h4.next := b3'.1
      obtain ⟨v5, h5, e5, nq5, k5⟩ := nds1.append y b4 (fun d hd => ⟨⟨by omega, fun e => by have := w4.far d e; omega⟩, by omega⟩) (by have := pds.length_eq; rw [List.length_map] at this; have := MQ_len l t dn; omega)
      simp only [↓opStep_eq, ↓reduceIte, ↓EW, EV, Nat.reduceAdd, Nat.reduceEqDiff, Int.reduceEq, Int.reduceLT, Int.reduceLE, Int.reduceNe, seqC, retC, skipC, exitC, blockC, condC, e5]
      have b5 := b3'.keep k5 fun e => e.2 rfl
      have w5 := w4.keepO k5 fun d e => e.1.2
      have mp5 := mp4.keep k5 fun e => by have := e.1.1; omega
      have hD5 := hD4.keep k5 fun e => by have := e.1.1; omega
      have np5 := np4.keep k5 fun d e p => by have := e.1.1; omega
      have n5 := k5.next
      have fw5 : Fw O h0 O' h5 := ⟨fw4.keep.trans k5 fun d hd e => by have := e.1.1; omega, fw4.same⟩
      refine hK _ _ _ fun K hK => ?_
      have k6 := keep_room h5 6
      have w6 := w5.keep0 k6
      obtain ⟨o7, eo7, mo7⟩ := w6.un.del y
      rw [until_drop] at mo7
      simp only [↓opStep_eq, ↓reduceIte, ↓EW, EV, Nat.reduceAdd, Nat.reduceEqDiff, Int.reduceEq, Int.reduceLT, Int.reduceLE, Int.reduceNe, seqC, retC, skipC, exitC, blockC, condC, r12_29, x.t0, nilChk_some, w6.ldUn, load2 (b5.keep0 k6), eo7]
      have k7 := Keep.put (⟨h5.objs, h5.next + 6⟩ : H) U o7
      have n7 : ((⟨h5.objs, h5.next + 6⟩ : H).put U o7).next = h5.next + 6 := rfl
      refine hK _ _ _ (again _ _ O' _ ?_ ?_ ?_ ?_ ?_ ?_ fun tm2 hh => hh)
      · refine ⟨⟨sv, (w6.setUn mo7).congr ?_ fun j _ => ?_⟩, (fw5.trans (Fw.of0 k6)).trans (Wm.put_fw w6.oU o7), ⟨hlo0, by omega⟩, ?_, (hD5.keep0 k6).keep k7 fun e => ?_, hwb, hdd, (np5.keep0 k6).keep k7 fun d e p => ?_, ds ++ [y], ?_, ?_⟩
        · exact .of_eq (LQ_due wi.nd hu gu).symm
        · rw [KQ_due wi.nd hu gu]
        · refine ((mp5.keep0 k6).keep k7 fun e => ?_).perm ((MQ_due wi.nd hu gu hdn).map _)
          have e : Wb = U := e
          exact hwb.2 (by rw [e]; exact w6.oU)
        · have e : D = U := e
          exact hdd.2.1 (by rw [e]; exact w6.oU)
        · have e : d = U := e
          exact p.2.1 (by rw [e]; exact w6.oU)
        · simp only [↓opStep_eq, ↓reduceIte, ↓EW, EV, Nat.reduceAdd, Nat.reduceEqDiff, Int.reduceEq, Int.reduceLT, Int.reduceLE, Int.reduceNe, seqC, retC, skipC, exitC, blockC, condC]
          refine ((nq5.keep0 k6).keep k7 fun d e p => ?_).mono fun d _ p => p.1
          have e : d = U := e
          exact p.1.2 (by rw [e]; exact w6.oU)
        · have p1 := (MQ_due wi.nd hu gu hdn).map (·.1)
          rw [List.map_cons] at p1
          exact (List.perm_append_singleton _ _).trans ((pds.cons y).trans p1)
      · exact ((((x.set (by omega)).set (by omega)).set (by omega)).set (by omega)).set (by omega)
      · simp only [↓opStep_eq, ↓reduceIte, ↓EW, EV, Nat.reduceAdd, Nat.reduceEqDiff, Int.reduceEq, Int.reduceLT, Int.reduceLE, Int.reduceNe, seqC, retC, skipC, exitC, blockC, condC, t12]
      · simp only [↓opStep_eq, ↓reduceIte, ↓EW, EV, Nat.reduceAdd, Nat.reduceEqDiff, Int.reduceEq, Int.reduceLT, Int.reduceLE, Int.reduceNe, seqC, retC, skipC, exitC, blockC, condC, t65]
      · simp only [↓opStep_eq, ↓reduceIte, ↓EW, EV, Nat.reduceAdd, Nat.reduceEqDiff, Int.reduceEq, Int.reduceLT, Int.reduceLE, Int.reduceNe, seqC, retC, skipC, exitC, blockC, condC, t66]
      · simp only [↓opStep_eq, ↓reduceIte, ↓EW, EV, Nat.reduceAdd, Nat.reduceEqDiff, Int.reduceEq, Int.reduceLT, Int.reduceLE, Int.reduceNe, seqC, retC, skipC, exitC, blockC, condC, t67]
  · simp only [if_pos]
    have g : i = ns.length := by have := of_decide_eq_false g; omega
    subst g
    rw [List.take_length] at q
    exact hQ hx _ O' (by simp only [↓opStep_eq, ↓reduceIte, ↓EW, EV, Nat.reduceAdd, Nat.reduceEqDiff, Int.reduceEq, Int.reduceLT, Int.reduceLE, Int.reduceNe, seqC, retC, skipC, exitC, blockC, condC]; exact q) (x.set (by omega)) (by simp only [↓opStep_eq, ↓reduceIte, ↓EW, EV, Nat.reduceAdd, Nat.reduceEqDiff, Int.reduceEq, Int.reduceLT, Int.reduceLE, Int.reduceNe, seqC, retC, skipC, exitC, blockC, condC, t12])
end
end Go.Proofs.Ytpoedopdcpejmaa

namespace Go.Proofs.Ytpoedopdcpejmaa
open Go.Ev

/-- names to be read, in a block of their own -/
def Sn (P : Nat → Prop) (h : H) (v : Value) (ns : List Nm) : Prop := (v = .slice none 0 0 ∧ ns = []) ∨ ∃ B, Arr h B v ns.length (fun k => ns.getD k (0, .empty)) ∧ P B
section
variable {P : Nat → Prop} {h h' : H} {v : Value} {ns : List Nm}
theorem Sn.keep {S : Nat → Prop} (a : Sn P h v ns) (k : Keep S h h') (hs : ∀ c, S c → ¬ P c) : Sn P h' v ns := by
  rcases a with a | ⟨B, a, p⟩
  · exact .inl a
  · exact .inr ⟨B, a.keep k fun e => hs B e p, p⟩
theorem Sn.keep0 (a : Sn P h v ns) (k : Keep nobody h h') : Sn P h' v ns := a.keep k fun _ e => e.elim
theorem Sn.mono {P' : Nat → Prop} (a : Sn P h v ns) (hp : ∀ c, c < h.next → P c → P' c) : Sn P' h v ns := by
  rcases a with a | ⟨B, a, p⟩
  · exact .inl a
  · exact .inr ⟨B, a, hp B a.lt p⟩
theorem Sn.len (a : Sn P h v ns) : lenSl v = some (.int .i64 (ns.length : Int)) := by
  rcases a with ⟨rfl, rfl⟩ | ⟨B, a, p⟩
  · rfl
  · exact a.len
theorem Sn.rn (a : Sn P h v ns) : Rn h v ns.length (fun k => ns.getD k (0, .empty)) := by
  rcases a with ⟨rfl, rfl⟩ | ⟨B, a, p⟩
  · exact .inl ⟨rfl, rfl⟩
  · exact .inr ⟨B, a⟩
theorem Sn.at (a : Sn P h v ns) {i : Nat} {x : Nm} (hx : ns[i]? = some x) : ∃ b, indexSl 2 v (.int .i64 (i : Int)) = some (.pointer (some ⟨b, i * 2, none⟩)) ∧ ∀ s, loadAgg 2 h (.pointer (some ⟨b, i * 2, s⟩)) = some x.v := by
  have hi : i < ns.length := (List.getElem?_eq_some_iff.1 hx).1
  obtain ⟨B, h1, h2⟩ := a.rn.at hi
  refine ⟨B, h1, fun s => ?_⟩
  rw [h2 s]
  show some (ns.getD i (0, .empty)).v = _
  rw [List.getD_eq_getElem?_getD, hx]; rfl
theorem Nq.sn (a : Nq P h v ns) {h2 : H} {ns2 : List Nm} (r : Rn h2 v ns2.length (fun k => ns2.getD k (0, .empty))) : Sn P h2 v ns2 := by
  rcases r with ⟨rfl, e⟩ | ⟨B, r⟩
  · exact .inl ⟨rfl, List.eq_nil_of_length_eq_zero e⟩
  · refine .inr ⟨B, r, ?_⟩
    obtain ⟨cap, cs, e, e1, _⟩ := r.ex
    rcases a with ⟨rfl, _⟩ | ⟨b, cap2, rfl, _, _, hP⟩
    · cases e1
    · injection e1 with e1 _ _
      injection e1 with e1
      injection e1 with e1
      rw [← e1]; exact hP
theorem Nq.sn' (a : Nq P h v ns) : Sn P h v ns := by
  rcases a with a | ⟨b, cap, rfl, _, hb, hP⟩
  · exact .inl a
  · have nth : ∀ k, k < ns.length → ns[k]? = some (ns.getD k (0, .empty)) := fun k hk => by rw [List.getD_eq_getElem?_getD, List.getElem?_eq_getElem hk]; rfl
    exact .inr ⟨b, ⟨cap, cellsN ns, 2, rfl, hb, by rw [cellsN_len]; exact Nat.le_refl _, fun k hk => cellsN_at ns k _ (nth k hk)⟩, hP⟩
end

structure TickQ (O : Nat → Prop) (h h' : H) (b t : Nat) (l : List En) (O' : Nat → Prop) (v : Value) (ns' : List Nm) : Prop where
  wh : Wh O' h' b t (l.filter fun e => decide (t < e.2))
  fw : Fw O h O' h'
  sn : Sn (fun c => h.next ≤ c ∧ ¬ O' c) h' v ns'
  so : ns'.Pairwise (ltW (l.filter fun e => decide (e.2 ≤ t)))
  mem : ∀ x, x ∈ ns' ↔ ∃ u, u ≤ t ∧ (x, u) ∈ l
theorem passed_mem {now : Nat} {l : List En} {J : Nat} {x : Nm} : x ∈ passed now l J ↔ ∃ u, (x, u) ∈ l ∧ slotN now u < J := by
  unfold passed
  rw [List.mem_map]
  constructor
  · rintro ⟨e, he, rfl⟩
    obtain ⟨h1, h2⟩ := List.mem_filter.1 he
    exact ⟨e.2, h1, of_decide_eq_true h2⟩
  · rintro ⟨u, h1, h2⟩
    exact ⟨(x, u), List.mem_filter.2 ⟨h1, decide_eq_true h2⟩, rfl⟩
theorem nd_filter {l : List En} (nd : (l.map (·.1)).Nodup) (p : En → Bool) : ((l.filter p).map (·.1)).Nodup := List.Nodup.sublist ((List.filter_sublist).map _) nd
theorem WI.tick {now t : Nat} {l : List En} (i : WI now l) (ht : t ≤ MAXT) : WI t (l.filter fun e => decide (t < e.2)) :=
  ⟨nd_filter i.nd _, fun e he => by obtain ⟨h1, h2⟩ := List.mem_filter.1 he; exact ⟨of_decide_eq_true h2, (i.tm e h1).2⟩, ht⟩

section
variable {O : Nat → Prop} {h : H} {b now : Nat} {l : List En}
theorem tick_good (L n : Nat) (hL : 300000 < L) (w : Wh O h b now l) (hl : l.length ≤ 50000) (t : Nat) (h1 : now ≤ t) (ht : t ≤ MAXT) {tm : T Value} (x : Tk b t tm) (Q : Ex → T Value → H → Prop)
    (hQ : ∀ tm' h' v O' ns', q12.f tm' h' = some [v, .int .i64 0] → TickQ O h h' b t l O' v ns' → Q .ret tm' h') :
    C ⟨seqC ⟨r12_5⟩ ⟨seqC ⟨r12_6⟩ ⟨seqC ⟨seqC ⟨r12_7⟩ ⟨blockC 0 (loopB l12_19)⟩⟩ ⟨seqC ⟨r12_18⟩ ⟨seqC ⟨r12_19⟩ ⟨seqC ⟨r12_20⟩ ⟨seqC ⟨seqC ⟨r12_21⟩ ⟨blockC 4 (loopB l12_33)⟩⟩ ⟨seqC ⟨r12_31⟩ ⟨seqC ⟨r12_32⟩ retC⟩⟩⟩⟩⟩⟩⟩⟩⟩ (CF L (n + 26)) L tm h Q := by
  have wh0 := w
  obtain ⟨wi, U, sv, w⟩ := w
  refine C.seq fun K hK => ?_
  simp only [↓opStep_eq, ↓reduceIte, ↓EW, EV, Nat.reduceAdd, Nat.reduceEqDiff, Int.reduceEq, Int.reduceLT, Int.reduceLE, Int.reduceNe, seqC, retC, skipC, exitC, blockC, condC, r12_5]
  refine hK .norm _ _ (C.seq fun K hK => ?_)
  simp only [↓opStep_eq, ↓reduceIte, ↓EW, EV, Nat.reduceAdd, Nat.reduceEqDiff, Int.reduceEq, Int.reduceLT, Int.reduceLE, Int.reduceNe, seqC, retC, skipC, exitC, blockC, condC, r12_6, x.t0, x.t1, nilChk_some, w.ldNow]
  refine ring_law L (n + 24) now t wi.hn ht h _ fun r h2 hq => ?_
  obtain ⟨rfl, hr⟩ := hq
  obtain ⟨z, rfl, hz⟩ : ∃ z : Int, r = .int .i64 z ∧ ((now = t ∧ z = -1) ∨ (now ≠ t ∧ z = ((rgF now t : Nat) : Int))) := by
    rcases hr with ⟨e, rfl⟩ | ⟨g, hg, rfl⟩
    · exact ⟨-1, rfl, .inl ⟨e, rfl⟩⟩
    · refine ⟨_, rfl, .inr ⟨fun e => ?_, by rw [hg.eq wi.hn ht]⟩⟩
      subst e; exact hg.2.2 rfl
  refine hK _ _ _ (C.seq ?_)
  refine drain_loop L (n + 25) hL (h0 := h2) (O := O) (b := b) (U := U) (l := l) (fun c hc => w.far c hc) (by omega) wi.hn ht ?_ ((x.set (by omega)).set (by omega)) (by simp only [↓opStep_eq, ↓reduceIte, ↓EW, EV, Nat.reduceAdd, Nat.reduceEqDiff, Int.reduceEq, Int.reduceLT, Int.reduceLE, Int.reduceNe, seqC, retC, skipC, exitC, blockC, condC] <;> rfl) hz _ fun h3 tm3 d x3 => ?_
  · refine ⟨.refl _ _, ⟨sv, w.congr (.refl _) fun j _ => by unfold ksD; rw [if_neg (by omega)]⟩, [], .inl ⟨by simp only [↓opStep_eq, ↓reduceIte, ↓EW, EV, Nat.reduceAdd, Nat.reduceEqDiff, Int.reduceEq, Int.reduceLT, Int.reduceLE, Int.reduceNe, seqC, retC, skipC, exitC, blockC, condC], rfl⟩, by rw [passed_zero]⟩
  obtain ⟨k3, ⟨sv3, w3⟩, ns, nq3, pm⟩ := d
  have hfar : ∀ c, O c → c < h2.next := w.far
  refine C.seq fun K hK => ?_
  have hs := store_one (s := none) (v := .int .i64 (t : Int)) w3.hb (o := 0) (by rw [wcells_len w3]; omega) rfl rfl
  have ew : (wcells now U sv3).set 0 (.int .i64 (t : Int)) = wcells t U sv3 := rfl
  rw [ew] at hs
  simp only [↓opStep_eq, ↓reduceIte, ↓EW, EV, Nat.reduceAdd, Nat.reduceEqDiff, Int.reduceEq, Int.reduceLT, Int.reduceLE, Int.reduceNe, seqC, retC, skipC, exitC, blockC, condC, r12_18, x3.t0, x3.t1, nilChk_some, hs]
  have w4 := w3.setNow t
  have k4 := Keep.put h3 b (.rw (wcells t U sv3))
  have nq4 : Nq (fun c => h2.next ≤ c ∧ c < h3.next) (h3.put b (.rw (wcells t U sv3))) (tg tm3 6) ns := (nq3.mono (P' := fun c => h2.next ≤ c ∧ c < h3.next) fun c hc e => ⟨e, hc⟩).keep k4 fun c e p => by have := hfar b w.ob; have e : c = b := e; omega
  have kk4 : Keep O h2 (h3.put b (.rw (wcells t U sv3))) := (k3.mono (S' := O) fun c hc e => e.elim id fun e => by omega).trans k4 fun c hc e => by rw [e]; exact w.ob
  have n4 : (h3.put b (.rw (wcells t U sv3))).next = h3.next := rfl
  have hn23 := k3.next
  generalize h3.put b (.rw (wcells t U sv3)) = h4 at *
  refine hK .norm _ _ (C.seq fun K hK => ?_)
  simp only [↓opStep_eq, ↓reduceIte, ↓EW, EV, Nat.reduceAdd, Nat.reduceEqDiff, Int.reduceEq, Int.reduceLT, Int.reduceLE, Int.reduceNe, seqC, retC, skipC, exitC, blockC, condC, r12_19]
  refine hK .norm _ _ (C.seq fun K hK => ?_)
  have m5 := Mp.new h4
  have k5 := Keep.new h4 (.map [] 0)
  have n5 : (h4.new (.map [] 0)).next = h4.next + 1 := rfl
  generalize hWb : h4.next = Wb at *
  simp only [↓opStep_eq, ↓reduceIte, ↓EW, EV, Nat.reduceAdd, Nat.reduceEqDiff, Int.reduceEq, Int.reduceLT, Int.reduceLE, Int.reduceNe, seqC, retC, skipC, exitC, blockC, condC, r12_20, hWb]
  generalize h4.new (.map [] 0) = h5 at *
  have k6 := keep_alloc h5 (.rw [Value.map none]) (.rw [Value.map (some Wb)])
  have b6 := has_alloc h5 (.rw [Value.map none]) (.rw [Value.map (some Wb)])
  have s6 : storeV 1 (h5.new (.rw [Value.map none])) (.pointer (some ⟨h5.next, 0, none⟩)) (.map (some Wb)) = some ((h5.new (.rw [Value.map none])).put h5.next (.rw [Value.map (some Wb)])) := stMap (Has.new h5 _) (by simp)
  have n6 : ((h5.new (.rw [Value.map none])).put h5.next (.rw [Value.map (some Wb)])).next = h5.next + 1 := rfl
  generalize hD : h5.next = D at *
  simp only [↓opStep_eq, ↓reduceIte, ↓EW, EV, Nat.reduceAdd, Nat.reduceEqDiff, Int.reduceEq, Int.reduceLT, Int.reduceLE, Int.reduceNe, seqC, retC, skipC, exitC, blockC, condC, ptrTo, hD, s6]
  generalize (h5.new (.rw [Value.map none])).put D (.rw [Value.map (some Wb)]) = h6 at *
  refine hK _ _ _ (C.seq ?_)
  have q6 : Q2 O h2 b U Wb D h6.next now t l ns (tg tm3 6) h6 [] (.slice none 0 0) O := by
    have hWO : ¬ O Wb := fun e => by have := hfar _ e; omega
    have hDO : ¬ O D := fun e => by have := hfar _ e; omega
    refine ⟨⟨sv3, ((w4.keep0 k5).keep0 k6).congr ?_ fun j _ => ?_⟩, ⟨(kk4.then k5).then k6, fun _ _ e => e⟩, ⟨by omega, Nat.le_refl _⟩, ?_, b6, ⟨by omega, hWO⟩, ⟨by omega, hDO, by omega⟩, ?_, [], .inl ⟨rfl, rfl⟩, ?_⟩
    · exact .of_eq (LQ_nil l t).symm
    · exact .of_eq (by rw [KQ_begin wi.tm ht]; rfl)
    · rw [MQ_nil]; exact m5.keep0 k6
    · exact ((nq4.keep0 k5).keep0 k6).mono fun c _ p => ⟨by omega, fun e => by have := hfar _ e; omega, by omega⟩
    · rw [MQ_nil]; exact .nil
  have pnd : (passed now l (Jof now t)).Nodup := nd_filter wi.nd _
  have hmem : ∀ y, y ∈ ns ↔ y ∈ passed now l (Jof now t) := fun y => pm.mem_iff
  have hlen : ns.length ≤ l.length := by rw [pm.length_eq]; exact passed_len now l _
  refine due_loop L (n + 22) hL wi (by omega) ht (pm.nodup_iff.2 pnd) (fun y hy => passed_mem.1 ((hmem y).1 hy)) (by omega) (b := b) (O := O) (O' := O) (U := U) (Wb := Wb) (D := D) (lo2 := h6.next) (h0 := h2) (vp := tg tm3 6) ?_ ((x3.set (by omega)).set (by omega)) (by simp only [↓opStep_eq, ↓reduceIte, ↓EW, EV, Nat.reduceAdd, Nat.reduceEqDiff, Int.reduceEq, Int.reduceLT, Int.reduceLE, Int.reduceNe, seqC, retC, skipC, exitC, blockC, condC]) (by simp only [↓opStep_eq, ↓reduceIte, ↓EW, EV, Nat.reduceAdd, Nat.reduceEqDiff, Int.reduceEq, Int.reduceLT, Int.reduceLE, Int.reduceNe, seqC, retC, skipC, exitC, blockC, condC]) _ fun h7 tm7 O7 q7 x7 u12 => ?_
  · simp only [↓opStep_eq, ↓reduceIte, ↓EW, EV, Nat.reduceAdd, Nat.reduceEqDiff, Int.reduceEq, Int.reduceLT, Int.reduceLE, Int.reduceNe, seqC, retC, skipC, exitC, blockC, condC]; exact q6
  obtain ⟨⟨sv7, w7⟩, fw7, lo7, mp7, hD7, wb7, dd7, np7, ds, nd7, pd7⟩ := q7
  refine C.seq fun K hK => ?_
  have mnd : ((MQ l t ns).map (·.1)).Nodup := nd_filter wi.nd _
  simp only [↓opStep_eq, ↓reduceIte, ↓EW, EV, Nat.reduceAdd, Nat.reduceEqDiff, Int.reduceEq, Int.reduceLT, Int.reduceLE, Int.reduceNe, seqC, retC, skipC, exitC, blockC, condC, r12_31, u12]
  have hdl : ds.length ≤ l.length := by rw [pd7.length_eq, List.length_map]; exact MQ_len l t ns
  refine sort_due L n nd7 (pd7.nodup_iff.2 mnd) (by omega) hL hD7 mp7 mnd (fun e => by have := e.1; omega) (fun e => by have := e.1; omega) _ fun r h8 hq => ?_
  obtain ⟨⟨ns', dq⟩, k8⟩ := hq
  refine hK _ _ _ (C.seq fun K hK => ?_)
  simp only [↓opStep_eq, ↓reduceIte, ↓EW, EV, Nat.reduceAdd, Nat.reduceEqDiff, Int.reduceEq, Int.reduceLT, Int.reduceLE, Int.reduceNe, seqC, retC, skipC, exitC, blockC, condC, r12_32]
  refine hK .norm _ _ (C.ret (hQ _ _ (tg tm7 11) O7 ns' (by simp only [q12, ↓opStep_eq, ↓reduceIte, ↓EW, EV, Nat.reduceAdd, Nat.reduceEqDiff, Int.reduceEq, Int.reduceLT, Int.reduceLE, Int.reduceNe, seqC, retC, skipC, exitC, blockC, condC]) ⟨⟨wi.tick ht, U, sv7, (w7.keepO k8 fun c e => e.2).congr ?_ fun j _ => ?_⟩, ⟨fw7.keep.trans k8 fun c hc e => by have := e.1; omega, fw7.same⟩, ?_, ?_, fun y => ?_⟩))
  · exact .of_eq (LQ_end wi.tm ht hmem)
  · exact .of_eq (KQ_end wi.nd wi.tm h1 hmem j)
  · exact (nd7.sn dq.rn).mono fun c _ e => ⟨by have := e.1; omega, e.2⟩
  · have := dq.so
    rw [MQ_end wi.tm ht hmem] at this
    exact this
  · rw [dq.mem, pd7.mem_iff, MQ_end wi.tm ht hmem, List.mem_map]
    constructor
    · rintro ⟨e, he, rfl⟩
      obtain ⟨g1, g2⟩ := List.mem_filter.1 he
      exact ⟨e.2, of_decide_eq_true g2, g1⟩
    · rintro ⟨u, g1, g2⟩
      exact ⟨(y, u), List.mem_filter.2 ⟨g2, decide_eq_true g1⟩, rfl⟩

theorem tick_law (L n : Nat) (hL : 300000 < L) (w : Wh O h b now l) (hl : l.length ≤ 50000) (t : Int) : Sp (CF L (n + 27)) 12 [.pointer (some ⟨b, 0, none⟩), .int .i64 t] h fun r h' =>
    (¬ ((now : Int) ≤ t ∧ t ≤ 1099511627776) ∧ r = .tuple [.slice none 0 0, .int .i64 2].toArray ∧ h' = h) ∨ ∃ k : Nat, t = (k : Int) ∧ now ≤ k ∧ k ≤ MAXT ∧ ∃ v O' ns', r = .tuple [v, .int .i64 0].toArray ∧ TickQ O h h' b k l O' v ns' := by
  have wh0 := w
  obtain ⟨wi, U, sv, w⟩ := w
  refine Sp.body f12 (by simp) ?_
  unfold c12
  refine C.seq fun K hK => ?_
  simp only [↓opStep_eq, ↓reduceIte, ↓EW, EV, Nat.reduceAdd, Nat.reduceEqDiff, Int.reduceEq, Int.reduceLT, Int.reduceLE, Int.reduceNe, seqC, retC, skipC, exitC, blockC, condC, r12_0]
  refine hK .norm _ _ (C.seq (C.seq fun K hK => ?_))
  simp only [↓opStep_eq, ↓reduceIte, ↓EW, EV, Nat.reduceAdd, Nat.reduceEqDiff, Int.reduceEq, Int.reduceLT, Int.reduceLE, Int.reduceNe, seqC, retC, skipC, exitC, blockC, condC, r12_1]
  refine none22_law L (n + 25) w _ fun r h2 hq => ?_
  obtain ⟨rfl, rfl⟩ := hq
  refine hK _ _ _ (C.cond false (by simp only [↓opStep_eq, ↓reduceIte, ↓EW, EV, Nat.reduceAdd, Nat.reduceEqDiff, Int.reduceEq, Int.reduceLT, Int.reduceLE, Int.reduceNe, seqC, retC, skipC, exitC, blockC, condC]) (fun g => by cases g) fun _ => C.skip (C.seq (C.seq fun K hK => ?_)))
  by_cases ht : (now : Int) ≤ t ∧ t ≤ 1099511627776
  · have g1 : ¬ t < (now : Int) := by omega
    have g2 : ¬ (1099511627776 : Int) < t := by omega
    obtain ⟨k, rfl⟩ : ∃ k : Nat, t = (k : Int) := ⟨t.toNat, by omega⟩
    simp only [↓opStep_eq, ↓reduceIte, ↓EW, EV, Nat.reduceAdd, Nat.reduceEqDiff, Int.reduceEq, Int.reduceLT, Int.reduceLE, Int.reduceNe, seqC, retC, skipC, exitC, blockC, condC, Bool.true_or, Bool.false_or, Bool.or_true, Bool.or_false, Bool.true_and, Bool.false_and, Bool.and_true, Bool.and_false, r12_3, nilChk_some, w.ldNow, g1, g2]
    refine hK _ _ _ (C.cond false (by simp only [↓opStep_eq, ↓reduceIte, ↓EW, EV, Nat.reduceAdd, Nat.reduceEqDiff, Int.reduceEq, Int.reduceLT, Int.reduceLE, Int.reduceNe, seqC, retC, skipC, exitC, blockC, condC]) (fun g => by cases g) fun _ => C.skip ?_)
    refine tick_good L n hL wh0 hl k (by omega) (by unfold MAXT; omega) ⟨by simp only [↓opStep_eq, ↓reduceIte, ↓EW, EV, Nat.reduceAdd, Nat.reduceEqDiff, Int.reduceEq, Int.reduceLT, Int.reduceLE, Int.reduceNe, seqC, retC, skipC, exitC, blockC, condC], by simp only [↓opStep_eq, ↓reduceIte, ↓EW, EV, Nat.reduceAdd, Nat.reduceEqDiff, Int.reduceEq, Int.reduceLT, Int.reduceLE, Int.reduceNe, seqC, retC, skipC, exitC, blockC, condC]⟩ _ fun tm' h' v O' ns' e tq => ⟨.inr rfl, _, e, .inr ⟨k, rfl, by omega, by unfold MAXT; omega, v, O', ns', rfl, tq⟩⟩
  · have fin : ∀ (tm : T Value) (K : KE), (∀ tm' , tg tm' 4 = .slice none 0 0 → tg tm' 5 = .int .i64 2 → K .ret tm' [] h2 = true) → (seqC ⟨r12_4⟩ retC) (CF L (n + 26)) L tm [] h2 K = true := fun tm K hK => by
      simp only [↓opStep_eq, ↓reduceIte, ↓EW, EV, Nat.reduceAdd, Nat.reduceEqDiff, Int.reduceEq, Int.reduceLT, Int.reduceLE, Int.reduceNe, seqC, retC, skipC, exitC, blockC, condC, r12_4, retC]
      exact hK _ (by simp only [↓opStep_eq, ↓reduceIte, ↓EW, EV, Nat.reduceAdd, Nat.reduceEqDiff, Int.reduceEq, Int.reduceLT, Int.reduceLE, Int.reduceNe, seqC, retC, skipC, exitC, blockC, condC]) (by simp only [↓opStep_eq, ↓reduceIte, ↓EW, EV, Nat.reduceAdd, Nat.reduceEqDiff, Int.reduceEq, Int.reduceLT, Int.reduceLE, Int.reduceNe, seqC, retC, skipC, exitC, blockC, condC])
    by_cases h1 : t < (now : Int)
    · simp only [↓opStep_eq, ↓reduceIte, ↓EW, EV, Nat.reduceAdd, Nat.reduceEqDiff, Int.reduceEq, Int.reduceLT, Int.reduceLE, Int.reduceNe, seqC, retC, skipC, exitC, blockC, condC, Bool.true_or, Bool.false_or, Bool.or_true, Bool.or_false, Bool.true_and, Bool.false_and, Bool.and_true, Bool.and_false, r12_3, nilChk_some, w.ldNow, h1]
      refine hK _ _ _ (C.cond true (by simp only [↓opStep_eq, ↓reduceIte, ↓EW, EV, Nat.reduceAdd, Nat.reduceEqDiff, Int.reduceEq, Int.reduceLT, Int.reduceLE, Int.reduceNe, seqC, retC, skipC, exitC, blockC, condC]) (fun _ => fun K hK => fin _ K fun tm' e4 e5 => hK _ _ _ ⟨.inr rfl, [tg tm' 4, tg tm' 5], rfl, .inl ⟨ht, by rw [e4, e5]; rfl, rfl⟩⟩) fun g => by cases g)
    · have h3 : (1099511627776 : Int) < t := by omega
      simp only [↓opStep_eq, ↓reduceIte, ↓EW, EV, Nat.reduceAdd, Nat.reduceEqDiff, Int.reduceEq, Int.reduceLT, Int.reduceLE, Int.reduceNe, seqC, retC, skipC, exitC, blockC, condC, Bool.true_or, Bool.false_or, Bool.or_true, Bool.or_false, Bool.true_and, Bool.false_and, Bool.and_true, Bool.and_false, r12_3, nilChk_some, w.ldNow, h1, h3]
      refine hK _ _ _ (C.cond true (by simp only [↓opStep_eq, ↓reduceIte, ↓EW, EV, Nat.reduceAdd, Nat.reduceEqDiff, Int.reduceEq, Int.reduceLT, Int.reduceLE, Int.reduceNe, seqC, retC, skipC, exitC, blockC, condC]) (fun _ => fun K hK => fin _ K fun tm' e4 e5 => hK _ _ _ ⟨.inr rfl, [tg tm' 4, tg tm' 5], rfl, .inl ⟨ht, by rw [e4, e5]; rfl, rfl⟩⟩) fun g => by cases g)
end
end Go.Proofs.Ytpoedopdcpejmaa
