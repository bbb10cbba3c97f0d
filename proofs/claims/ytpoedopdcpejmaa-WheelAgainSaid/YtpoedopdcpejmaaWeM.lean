import Derived.Test.YtpoedopdcpejmaaWeG
set_option linter.unusedSimpArgs false
set_option linter.unusedVariables false
namespace Go.Proofs.Ytpoedopdcpejmaa
open Go.Ev

theorem sorted_eq {lt : Nm → Nm → Prop} (irr : ∀ x, ¬ lt x x) (tr : ∀ x y z, lt x y → lt y z → lt x z) : ∀ {a b : List Nm}, a.Pairwise lt → b.Pairwise lt → (∀ x, x ∈ a ↔ x ∈ b) → a = b
  | [], [], _, _, _ => rfl
  | [], y :: b, _, _, h => absurd ((h y).2 (by simp)) (by simp)
  | x :: a, [], _, _, h => absurd ((h x).1 (by simp)) (by simp)
  | x :: a, y :: b, ha, hb, h => by
    obtain ⟨a1, a2⟩ := List.pairwise_cons.1 ha
    obtain ⟨b1, b2⟩ := List.pairwise_cons.1 hb
    have hxy : x = y := by
      have h1 := (h x).1 (by simp)
      have h2 := (h y).2 (by simp)
      simp only [List.mem_cons] at h1 h2
      rcases h1 with h1 | h1
      · exact h1
      · rcases h2 with h2 | h2
        · exact h2.symm
        · exact absurd (tr _ _ _ (b1 x h1) (a1 y h2)) (irr _)
    subst hxy
    congr 1
    refine sorted_eq irr tr a2 b2 fun z => ⟨fun hz => ?_, fun hz => ?_⟩
    · have := (h z).1 (by simp [hz])
      simp only [List.mem_cons] at this
      rcases this with rfl | this
      · exact absurd (a1 _ hz) (irr _)
      · exact this
    · have := (h z).2 (by simp [hz])
      simp only [List.mem_cons] at this
      rcases this with rfl | this
      · exact absurd (b1 _ hz) (irr _)
      · exact this
/-- names that can be read -/
def Rl (h : H) (v : Value) (ns : List Nm) : Prop := lenSl v = some (.int .i64 (ns.length : Int)) ∧ ∀ h', Keep nobody h h' → ∀ (i : Nat) x, ns[i]? = some x → ∃ b, indexSl 2 v (.int .i64 (i : Int)) = some (.pointer (some ⟨b, i * 2, none⟩)) ∧ ∀ s, loadAgg 2 h' (.pointer (some ⟨b, i * 2, s⟩)) = some x.v
theorem Rl.keep0 {h h' : H} {v : Value} {ns : List Nm} (a : Rl h v ns) (k : Keep nobody h h') : Rl h' v ns := ⟨a.1, fun h2 k2 i x hx => a.2 h2 (k.then k2) i x hx⟩
theorem Sn.rl {P : Nat → Prop} {h : H} {v : Value} {ns : List Nm} (a : Sn P h v ns) : Rl h v ns := ⟨a.len, fun h' k i x hx => (a.keep0 k).at hx⟩
theorem rl_lit {h : H} {b : Nat} (x y : Nm) (hb : Has h b (.rw (cellsN [x, y]))) : Rl h (.slice (some ⟨b, 0, none⟩) 2 2) [x, y] := ⟨rfl, fun h' k i z hz => by
  have hb := hb.keep0 k
  match i, hz with
  | 0, hz => cases hz; exact ⟨b, rfl, fun s => loadAgg_has hb rfl (by simp [cellsN])⟩
  | 1, hz => cases hz; exact ⟨b, rfl, fun s => loadAgg_has hb rfl (by simp [cellsN])⟩
  | i + 2, hz => simp at hz⟩
theorem same_rl (L m : Nat) {h : H} {v w : Value} {ns : List Nm} (a : Rl h v ns) (b : Rl h w ns) (hL : 300000 < L) (hsz : ns.length ≤ 100000) :
    Sp (CF L (m + 1)) 15 [v, w] h fun r h' => r = .bool true ∧ Keep nobody h h' := by
  refine Sp.body f15 (by simp) ?_
  unfold c15
  refine C.seq fun K hK => ?_
  simp only [↓opStep_eq, ↓reduceIte, ↓EW, EV, Nat.reduceAdd, Nat.reduceEqDiff, Int.reduceEq, Int.reduceLT, Int.reduceLE, Int.reduceNe, seqC, retC, skipC, exitC, blockC, condC, r15_0]
  refine hK .norm _ _ (C.seq (C.seq fun K hK => ?_))
  simp only [↓opStep_eq, ↓reduceIte, ↓EW, EV, Nat.reduceAdd, Nat.reduceEqDiff, Int.reduceEq, Int.reduceLT, Int.reduceLE, Int.reduceNe, seqC, retC, skipC, exitC, blockC, condC, r15_1, a.1, b.1]
  refine hK _ _ _ (C.cond false (by simp only [↓opStep_eq, ↓reduceIte, ↓EW, EV, Nat.reduceAdd, Nat.reduceEqDiff, Int.reduceEq, Int.reduceLT, Int.reduceLE, Int.reduceNe, seqC, retC, skipC, exitC, blockC, condC]) (fun g => by cases g) fun _ => C.skip (C.seq (C.seq fun K hK => ?_)))
  simp only [↓opStep_eq, ↓reduceIte, ↓EW, EV, Nat.reduceAdd, Nat.reduceEqDiff, Int.reduceEq, Int.reduceLT, Int.reduceLE, Int.reduceNe, seqC, retC, skipC, exitC, blockC, condC, r15_3]
  refine hK .norm _ _ ?_
  refine C.block (C.loop (fun q tm' hx => ∃ i, q = ns.length - i ∧ i ≤ ns.length ∧ Keep nobody h hx ∧ tg tm' 0 = v ∧ tg tm' 1 = w ∧ tg tm' 5 = .int .i64 (i : Int)) ns.length (by omega)
    ⟨0, rfl, by omega, .refl _ _, by simp only [↓opStep_eq, ↓reduceIte, ↓EW, EV, Nat.reduceAdd, Nat.reduceEqDiff, Int.reduceEq, Int.reduceLT, Int.reduceLE, Int.reduceNe, seqC, retC, skipC, exitC, blockC, condC], by simp only [↓opStep_eq, ↓reduceIte, ↓EW, EV, Nat.reduceAdd, Nat.reduceEqDiff, Int.reduceEq, Int.reduceLT, Int.reduceLE, Int.reduceNe, seqC, retC, skipC, exitC, blockC, condC], by simp only [↓opStep_eq, ↓reduceIte, ↓EW, EV, Nat.reduceAdd, Nat.reduceEqDiff, Int.reduceEq, Int.reduceLT, Int.reduceLE, Int.reduceNe, seqC, retC, skipC, exitC, blockC, condC] <;> rfl⟩ ?_)
  rintro q tm hx ⟨i, rfl, hi, kx, t0, t1, t5⟩
  unfold l15_8
  refine C.seq (C.seq fun K hK => ?_)
  simp only [↓opStep_eq, ↓reduceIte, ↓EW, EV, Nat.reduceAdd, Nat.reduceEqDiff, Int.reduceEq, Int.reduceLT, Int.reduceLE, Int.reduceNe, seqC, retC, skipC, exitC, blockC, condC, r15_4, t0, t5, a.1]
  refine hK _ _ _ (C.cond (decide ((i : Int) < (ns.length : Int))) (by simp only [↓opStep_eq, ↓reduceIte, ↓EW, EV, Nat.reduceAdd, Nat.reduceEqDiff, Int.reduceEq, Int.reduceLT, Int.reduceLE, Int.reduceNe, seqC, retC, skipC, exitC, blockC, condC]) (fun g => C.skip ?_) fun g => C.exit ?_)
  · have g : i < ns.length := by have := of_decide_eq_true g; omega
    have kr := kx.then (keep_room hx 9)
    obtain ⟨p, ixp, lp⟩ := a.2 _ kr i _ (List.getElem?_eq_getElem g)
    obtain ⟨q, ixq, lq⟩ := b.2 _ kr i _ (List.getElem?_eq_getElem g)
    refine C.seq (C.block (C.seq fun K hK => ?_))
    simp only [↓opStep_eq, ↓reduceIte, ↓EW, EV, Nat.reduceAdd, Nat.reduceEqDiff, Int.reduceEq, Int.reduceLT, Int.reduceLE, Int.reduceNe, seqC, retC, skipC, exitC, blockC, condC, r15_6, t0, t1, t5, ixp, ixq, lp, lq, name_neq_self]
    refine hK _ _ _ (C.cond false (by simp only [↓opStep_eq, ↓reduceIte, ↓EW, EV, Nat.reduceAdd, Nat.reduceEqDiff, Int.reduceEq, Int.reduceLT, Int.reduceLE, Int.reduceNe, seqC, retC, skipC, exitC, blockC, condC]) (fun g => by cases g) fun _ => C.skip fun K hK => ?_)
    have w' := wadd1 i (by omega)
    simp only [↓opStep_eq, ↓reduceIte, ↓EW, EV, Nat.reduceAdd, Nat.reduceEqDiff, Int.reduceEq, Int.reduceLT, Int.reduceLE, Int.reduceNe, seqC, retC, skipC, exitC, blockC, condC, r15_5, t5, w']
    exact hK _ _ _ ⟨ns.length - (i + 1), by omega, i + 1, rfl, by omega, kr, by simp only [↓opStep_eq, ↓reduceIte, ↓EW, EV, Nat.reduceAdd, Nat.reduceEqDiff, Int.reduceEq, Int.reduceLT, Int.reduceLE, Int.reduceNe, seqC, retC, skipC, exitC, blockC, condC, t0], by simp only [↓opStep_eq, ↓reduceIte, ↓EW, EV, Nat.reduceAdd, Nat.reduceEqDiff, Int.reduceEq, Int.reduceLT, Int.reduceLE, Int.reduceNe, seqC, retC, skipC, exitC, blockC, condC, t1], by simp only [↓opStep_eq, ↓reduceIte, ↓EW, EV, Nat.reduceAdd, Nat.reduceEqDiff, Int.reduceEq, Int.reduceLT, Int.reduceLE, Int.reduceNe, seqC, retC, skipC, exitC, blockC, condC]⟩
  · simp only [if_pos]
    refine C.seq fun K hK => ?_
    simp only [↓opStep_eq, ↓reduceIte, ↓EW, EV, Nat.reduceAdd, Nat.reduceEqDiff, Int.reduceEq, Int.reduceLT, Int.reduceLE, Int.reduceNe, seqC, retC, skipC, exitC, blockC, condC, r15_8]
    exact hK .norm _ _ (C.ret ⟨.inr rfl, _, rfl, by simp only [↓opStep_eq, ↓reduceIte, ↓EW, EV, Nat.reduceAdd, Nat.reduceEqDiff, Int.reduceEq, Int.reduceLT, Int.reduceLE, Int.reduceNe, seqC, retC, skipC, exitC, blockC, condC, resOf], kx⟩)

def nmA : Nm := (0, strB [97])
def nmB : Nm := (0, strB [98])
theorem litA : aggO (fill [(.int .i64 (0)), (.string (strB []))] (plc [(0, 1), (1, 1)]) [(1, (.string (strB [97])))]) = some nmA.v := rfl
theorem litB : aggO (fill [(.int .i64 (0)), (.string (strB []))] (plc [(0, 1), (1, 1)]) [(1, (.string (strB [98])))]) = some nmB.v := rfl
theorem litAB (b : Nat) (x y : Nm) : mkLit 2 b (fill (repl [(.int .i64 (0)), (.string (strB []))] 2) (pl 2) [(0, x.v), (1, y.v)]) = some (.rw (cellsN [x, y]), .slice (some ⟨b, 0, none⟩) 2 2) := rfl
theorem nmAB : nmB ≠ nmA := by
  intro h
  have : (strB [98]).data = (strB [97]).data := by rw [show strB [98] = strB [97] from congrArg Prod.snd h]
  revert this; decide
theorem validA : validN nmA.1 nmA.2 := by decide
theorem validB : validN nmB.1 nmB.2 := by decide

theorem AddR.ok {now : Nat} {l l' : List En} {x : Nm} {u : Nat} {e : Int} (a : AddR now l x u l' e) (hv : validN x.1 x.2) (h1 : now < u) (h2 : u ≤ MAXT) : l' = (x, u) :: wo l x ∧ e = 0 := by
  rcases a with ⟨h, _⟩ | ⟨_, h, _⟩ | ⟨_, k, e1, _, _, h3, h4⟩
  · exact absurd hv h
  · exact absurd ⟨by omega, by unfold MAXT at h2; omega⟩ h
  · have : k = u := by omega
    subst this; exact ⟨h3, h4⟩

theorem alive_law (L n : Nat) (hL : 300000 < L) (h : H) : Sp (CF L (n + 28)) 8 [] h fun r h' => r = .bool true ∧ Keep nobody h h' := by
  refine Sp.body f8 (by simp) ?_
  unfold c8
  refine C.seq fun K hK => ?_
  simp only [↓opStep_eq, ↓reduceIte, ↓EW, EV, Nat.reduceAdd, Nat.reduceEqDiff, Int.reduceEq, Int.reduceLT, Int.reduceLE, Int.reduceNe, seqC, retC, skipC, exitC, blockC, condC, r8_0]
  refine hK .norm _ _ (C.seq fun K hK => ?_)
  simp only [↓opStep_eq, ↓reduceIte, ↓EW, EV, Nat.reduceAdd, Nat.reduceEqDiff, Int.reduceEq, Int.reduceLT, Int.reduceLE, Int.reduceNe, seqC, retC, skipC, exitC, blockC, condC, r8_1]
  refine new_law L (n + 26) 10 h _ fun r h1 hq => ?_
  obtain ⟨k1, ⟨hbad, _⟩ | ⟨now, b, O, hz, hn, rfl, w1, fr⟩⟩ := hq
  · exact absurd ⟨by omega, by omega⟩ hbad
  have hz : now = 10 := by omega
  subst hz
  simp only [↓opStep_eq, ↓reduceIte, ↓EW, EV, Nat.reduceAdd, Nat.reduceEqDiff, Int.reduceEq, Int.reduceLT, Int.reduceLE, Int.reduceNe, seqC, retC, skipC, exitC, blockC, condC, tupNth_tuple]
  refine hK _ _ _ (C.seq (C.seq fun K hK => ?_))
  simp only [↓opStep_eq, ↓reduceIte, ↓EW, EV, Nat.reduceAdd, Nat.reduceEqDiff, Int.reduceEq, Int.reduceLT, Int.reduceLE, Int.reduceNe, seqC, retC, skipC, exitC, blockC, condC, Bool.true_or, Bool.false_or, Bool.or_true, Bool.or_false, Bool.true_and, Bool.false_and, Bool.and_true, Bool.and_false, r8_2, ptr_nil]
  refine hK _ _ _ (C.cond false (by simp only [↓opStep_eq, ↓reduceIte, ↓EW, EV, Nat.reduceAdd, Nat.reduceEqDiff, Int.reduceEq, Int.reduceLT, Int.reduceLE, Int.reduceNe, seqC, retC, skipC, exitC, blockC, condC]) (fun g => by cases g) fun _ => C.skip (C.seq fun K hK => ?_))
  simp only [↓opStep_eq, ↓reduceIte, ↓EW, EV, Nat.reduceAdd, Nat.reduceEqDiff, Int.reduceEq, Int.reduceLT, Int.reduceLE, Int.reduceNe, seqC, retC, skipC, exitC, blockC, condC, r8_4, litA]
  refine add_law L (n + 21) w1 nmA 20 _ fun r h2 hq => ?_
  obtain ⟨O2, l2, e2, w2, fw2, rfl, a2⟩ := hq
  obtain ⟨rfl, rfl⟩ := AddR.ok (u := 20) a2 validA (by omega) (by unfold MAXT; omega)
  refine hK _ _ _ (C.seq fun K hK => ?_)
  simp only [↓opStep_eq, ↓reduceIte, ↓EW, EV, Nat.reduceAdd, Nat.reduceEqDiff, Int.reduceEq, Int.reduceLT, Int.reduceLE, Int.reduceNe, seqC, retC, skipC, exitC, blockC, condC, r8_5, litB]
  refine add_law L (n + 21) w2 nmB 12 _ fun r h3 hq => ?_
  obtain ⟨O3, l3, e3, w3, fw3, rfl, a3⟩ := hq
  obtain ⟨rfl, rfl⟩ := AddR.ok (u := 12) a3 validB (by omega) (by unfold MAXT; omega)
  have el : (nmB, 12) :: wo ((nmA, 20) :: wo [] nmA) nmB = [(nmB, 12), (nmA, 20)] := by
    rw [show wo [] nmA = [] from rfl, wo_none]
    intro e he
    rw [List.mem_singleton] at he
    subst he
    exact fun h => nmAB h.symm
  rw [el] at w3
  refine hK _ _ _ (C.seq fun K hK => ?_)
  simp only [↓opStep_eq, ↓reduceIte, ↓EW, EV, Nat.reduceAdd, Nat.reduceEqDiff, Int.reduceEq, Int.reduceLT, Int.reduceLE, Int.reduceNe, seqC, retC, skipC, exitC, blockC, condC, r8_6]
  refine tick_law L n hL w3 (by simp) 11 _ fun r h4 hq => ?_
  rcases hq with ⟨hbad, _⟩ | ⟨k, hk, _, _, v4, O4, ns4, rfl, tq4⟩
  · exact absurd ⟨by omega, by omega⟩ hbad
  have hk : k = 11 := by omega
  subst hk
  have e4 : ns4 = [] := by
    apply List.eq_nil_iff_forall_not_mem.2
    intro y hy
    obtain ⟨u, g1, g2⟩ := (tq4.mem y).1 hy
    simp only [List.mem_cons, Prod.mk.injEq, List.not_mem_nil, or_false] at g2
    omega
  subst e4
  have w4 := tq4.wh
  have fl : ([(nmB, 12), (nmA, 20)] : List En).filter (fun e => decide (11 < e.2)) = [(nmB, 12), (nmA, 20)] := rfl
  rw [fl] at w4
  simp only [↓opStep_eq, ↓reduceIte, ↓EW, EV, Nat.reduceAdd, Nat.reduceEqDiff, Int.reduceEq, Int.reduceLT, Int.reduceLE, Int.reduceNe, seqC, retC, skipC, exitC, blockC, condC, tupNth_tuple]
  refine hK _ _ _ (C.seq fun K hK => ?_)
  simp only [↓opStep_eq, ↓reduceIte, ↓EW, EV, Nat.reduceAdd, Nat.reduceEqDiff, Int.reduceEq, Int.reduceLT, Int.reduceLE, Int.reduceNe, seqC, retC, skipC, exitC, blockC, condC, r8_7]
  refine tick_law L n hL w4 (by simp) 20 _ fun r h5 hq => ?_
  rcases hq with ⟨hbad, _⟩ | ⟨k, hk, _, _, v5, O5, ns5, rfl, tq5⟩
  · exact absurd ⟨by omega, by omega⟩ hbad
  have hk : k = 20 := by omega
  subst hk
  have nd : ((([(nmB, 12), (nmA, 20)] : List En)).map (·.1)).Nodup := w4.1.nd
  have fl2 : ([(nmB, 12), (nmA, 20)] : List En).filter (fun e => decide (e.2 ≤ 20)) = [(nmB, 12), (nmA, 20)] := rfl
  have e5 : ns5 = [nmB, nmA] := by
    have so := tq5.so
    rw [fl2] at so
    refine sorted_eq (ltW_irr _) (ltW_tr _) so ?_ fun y => ?_
    · refine List.pairwise_cons.2 ⟨fun y hy => ?_, List.pairwise_singleton _ _⟩
      rw [List.mem_singleton] at hy
      subst hy
      refine .inl ?_
      rw [whF_of nd (u := 12) (by simp), whF_of nd (u := 20) (by simp)]
      omega
    · rw [tq5.mem]
      simp only [List.mem_cons, Prod.mk.injEq, List.not_mem_nil, or_false]
      constructor
      · rintro ⟨u, _, h | h⟩
        · exact .inl h.1
        · exact .inr h.1
      · rintro (h | h)
        · exact ⟨12, by omega, .inl ⟨h, rfl⟩⟩
        · exact ⟨20, by omega, .inr ⟨h, rfl⟩⟩
  subst e5
  simp only [↓opStep_eq, ↓reduceIte, ↓EW, EV, Nat.reduceAdd, Nat.reduceEqDiff, Int.reduceEq, Int.reduceLT, Int.reduceLE, Int.reduceNe, seqC, retC, skipC, exitC, blockC, condC, tupNth_tuple]
  refine hK _ _ _ (C.seq fun K hK => ?_)
  have k6 := Keep.new h5 (.rw (cellsN [nmB, nmA]))
  have b6 := Has.new h5 (.rw (cellsN [nmB, nmA]))
  have hl4 := tq4.sn.len
  simp only [↓opStep_eq, ↓reduceIte, ↓EW, EV, Nat.reduceAdd, Nat.reduceEqDiff, Int.reduceEq, Int.reduceLT, Int.reduceLE, Int.reduceNe, seqC, retC, skipC, exitC, blockC, condC, Bool.true_or, Bool.false_or, Bool.or_true, Bool.or_false, Bool.true_and, Bool.false_and, Bool.and_true, Bool.and_false, r8_8, hl4, litA, litB, litAB, List.length_nil]
  refine same_rl L (n + 26) (tq5.sn.rl.keep0 k6) (rl_lit nmB nmA b6) hL (by simp) _ fun r h7 hq => ?_
  obtain ⟨rfl, k7⟩ := hq
  simp only [↓opStep_eq, ↓reduceIte, ↓EW, EV, Nat.reduceAdd, Nat.reduceEqDiff, Int.reduceEq, Int.reduceLT, Int.reduceLE, Int.reduceNe, seqC, retC, skipC, exitC, blockC, condC, Bool.true_or, Bool.false_or, Bool.or_true, Bool.or_false, Bool.true_and, Bool.false_and, Bool.and_true, Bool.and_false]
  have fwAll : Fw O h1 O5 h7 := ((((fw2.trans fw3).trans tq4.fw).trans tq5.fw).trans (Fw.of0 k6)).trans (Fw.of0 k7)
  refine hK _ _ _ (C.ret ⟨.inr rfl, _, rfl, by simp only [↓opStep_eq, ↓reduceIte, ↓EW, EV, Nat.reduceAdd, Nat.reduceEqDiff, Int.reduceEq, Int.reduceLT, Int.reduceLE, Int.reduceNe, seqC, retC, skipC, exitC, blockC, condC, resOf], (k1.trans fwAll.keep fun c hc e => by have := fr c e; omega)⟩)
end Go.Proofs.Ytpoedopdcpejmaa

namespace Go.Proofs.Ytpoedopdcpejmaa
open Go.Ev

/-! ### names with their moments, in a row -/
abbrev Dd := Nm × Int
def cellsD : List Dd → List Value
  | [] => []
  | d :: r => .int .i64 d.1.1 :: .string d.1.2 :: .int .i64 d.2 :: cellsD r
theorem cellsD_len : ∀ ds, (cellsD ds).length = 3 * ds.length
  | [] => rfl
  | d :: r => by simp only [cellsD, List.length_cons, cellsD_len r]; omega
theorem cellsD_append : ∀ a b, cellsD (a ++ b) = cellsD a ++ cellsD b
  | [], b => rfl
  | x :: a, b => by simp only [cellsD, List.cons_append, cellsD_append a b]
theorem cellsD_drop : ∀ (ds : List Dd) (n : Nat), (cellsD ds).drop (n * 3) = cellsD (ds.drop n)
  | [], n => by simp [cellsD]
  | d :: r, 0 => rfl
  | d :: r, n + 1 => by
    have : (n + 1) * 3 = n * 3 + 1 + 1 + 1 := by omega
    rw [this]
    simp [cellsD, cellsD_drop r n]
abbrev dV (d : Dd) : Value := .agg [.int .i64 d.1.1, .string d.1.2, .int .i64 d.2].toArray

def Dv (P : Nat → Prop) (h : H) (v : Value) (ds : List Dd) : Prop := (v = .slice none 0 0 ∧ ds = []) ∨ ∃ b cap x, v = .slice (some ⟨b, 0, none⟩) ds.length cap ∧ Has h b x ∧ x.cells? = some (cellsD ds) ∧ P b
structure AtD (h : H) (b o : Nat) (d : Dd) : Prop where
  nm : ∀ s, loadAgg 2 h (.pointer (some ⟨b, o, s⟩)) = some d.1.v
  key : ∀ s, loadOne h (.pointer (some ⟨b, o + 1, s⟩)) = some (.string d.1.2)
  un : ∀ s, loadOne h (.pointer (some ⟨b, o + 2, s⟩)) = some (.int .i64 d.2)
  all : ∀ s, loadAgg 3 h (.pointer (some ⟨b, o, s⟩)) = some (dV d)
section
variable {P : Nat → Prop} {h h' : H} {v : Value} {ds : List Dd}
theorem Dv.keep {S : Nat → Prop} (a : Dv P h v ds) (k : Keep S h h') (hs : ∀ c, S c → ¬ P c) : Dv P h' v ds := by
  rcases a with a | ⟨b, cap, x, e, hb, hx, p⟩
  · exact .inl a
  · exact .inr ⟨b, cap, x, e, hb.keep k fun e => hs b e p, hx, p⟩
theorem Dv.keep0 (a : Dv P h v ds) (k : Keep nobody h h') : Dv P h' v ds := a.keep k fun _ e => e.elim
theorem Dv.mono {P' : Nat → Prop} (a : Dv P h v ds) (hp : ∀ c, c < h.next → P c → P' c) : Dv P' h v ds := by
  rcases a with a | ⟨b, cap, x, e, hb, hx, p⟩
  · exact .inl a
  · exact .inr ⟨b, cap, x, e, hb, hx, hp b hb.1 p⟩
theorem Dv.len (a : Dv P h v ds) : lenSl v = some (.int .i64 (ds.length : Int)) := by
  rcases a with ⟨rfl, rfl⟩ | ⟨b, cap, x, rfl, _⟩ <;> rfl
theorem Dv.at (a : Dv P h v ds) {i : Nat} {d : Dd} (hd : ds[i]? = some d) : ∃ b, indexSl 3 v (.int .i64 (i : Int)) = some (.pointer (some ⟨b, i * 3, none⟩)) ∧ AtD h b (i * 3) d := by
  have hi : i < ds.length := (List.getElem?_eq_some_iff.1 hd).1
  rcases a with ⟨rfl, rfl⟩ | ⟨b, cap, x, rfl, hb, hx, p⟩
  · cases hd
  · have hl := cellsD_len ds
    have hdr : (cellsD ds).drop (i * 3) = .int .i64 d.1.1 :: .string d.1.2 :: .int .i64 d.2 :: cellsD (ds.drop (i + 1)) := by
      rw [cellsD_drop, List.drop_eq_getElem_cons hi]
      have : ds[i] = d := (List.getElem?_eq_some_iff.1 hd).2
      rw [this]; rfl
    have hnth : ∀ j, (cellsD ds)[i * 3 + j]? = ((cellsD ds).drop (i * 3))[j]? := fun j => by rw [List.getElem?_drop]
    refine ⟨b, ?_, ⟨fun s => ?_, fun s => ?_, fun s => ?_, fun s => ?_⟩⟩
    · simp only [indexSl, asNat_nat, addOff]
      rw [Nat.ble_eq_true_of_le hi]
      simp only [Nat.zero_add]
    · rw [loadAgg_has hb hx (by omega), hdr]; rfl
    · rw [loadOne_has hb hx, hnth, hdr]; rfl
    · rw [loadOne_has hb hx, hnth, hdr]; rfl
    · rw [loadAgg_has hb hx (by omega), hdr]; rfl
end

theorem small_law (L n : Nat) (hL : 300000 < L) {P : Nat → Prop} {h : H} {v : Value} {ds : List Dd} (a : Dv P h v ds) : Sp (CF L (n + 1)) 10 [v] h fun r h' => ∃ c, r = .bool c ∧ (c = true → ds.length ≤ 200) ∧ h' = h := by
  refine Sp.body f10 (by simp) ?_
  unfold c10
  refine C.seq fun K hK => ?_
  simp only [↓opStep_eq, ↓reduceIte, ↓EW, EV, Nat.reduceAdd, Nat.reduceEqDiff, Int.reduceEq, Int.reduceLT, Int.reduceLE, Int.reduceNe, seqC, retC, skipC, exitC, blockC, condC, r10_0]
  refine hK .norm _ _ (C.seq (C.seq fun K hK => ?_))
  simp only [↓opStep_eq, ↓reduceIte, ↓EW, EV, Nat.reduceAdd, Nat.reduceEqDiff, Int.reduceEq, Int.reduceLT, Int.reduceLE, Int.reduceNe, seqC, retC, skipC, exitC, blockC, condC, r10_1]
  refine hK .norm _ _ ?_
  refine C.block (C.loop (fun q tm' hx => ∃ i, q = 500 - i ∧ i ≤ 500 ∧ i ≤ ds.length ∧ hx = h ∧ tg tm' 0 = v ∧ tg tm' 3 = .int .i64 (i : Int)) 500 (by omega)
    ⟨0, rfl, by omega, by omega, rfl, by simp only [↓opStep_eq, ↓reduceIte, ↓EW, EV, Nat.reduceAdd, Nat.reduceEqDiff, Int.reduceEq, Int.reduceLT, Int.reduceLE, Int.reduceNe, seqC, retC, skipC, exitC, blockC, condC], by simp only [↓opStep_eq, ↓reduceIte, ↓EW, EV, Nat.reduceAdd, Nat.reduceEqDiff, Int.reduceEq, Int.reduceLT, Int.reduceLE, Int.reduceNe, seqC, retC, skipC, exitC, blockC, condC] <;> rfl⟩ ?_)
  rintro q tm hx ⟨i, rfl, hi, hi2, rfl, t0, t3⟩
  unfold l10_6
  refine C.seq (C.seq fun K hK => ?_)
  have r2 : ∀ K : KE, r10_2 (CF L n) L tm [] hx K = K .norm (T.set tm 11 (.bool (decide (i < ds.length) && decide (i < 500)))) [] hx := fun K => by
    by_cases g1 : i < ds.length
    · have e1 : ((i : Int) < (ds.length : Int)) := by omega
      by_cases g2 : i < 500
      · have e2 : ((i : Int) < 500) := by omega
        simp only [↓opStep_eq, ↓reduceIte, ↓EW, EV, Nat.reduceAdd, Nat.reduceEqDiff, Int.reduceEq, Int.reduceLT, Int.reduceLE, Int.reduceNe, seqC, retC, skipC, exitC, blockC, condC, Bool.true_or, Bool.false_or, Bool.or_true, Bool.or_false, Bool.true_and, Bool.false_and, Bool.and_true, Bool.and_false, r10_2, t0, t3, a.len, e1, e2, g1, g2]
      · have e2 : ¬ ((i : Int) < 500) := by omega
        simp only [↓opStep_eq, ↓reduceIte, ↓EW, EV, Nat.reduceAdd, Nat.reduceEqDiff, Int.reduceEq, Int.reduceLT, Int.reduceLE, Int.reduceNe, seqC, retC, skipC, exitC, blockC, condC, Bool.true_or, Bool.false_or, Bool.or_true, Bool.or_false, Bool.true_and, Bool.false_and, Bool.and_true, Bool.and_false, r10_2, t0, t3, a.len, e1, e2, g1, g2]
    · have e1 : ¬ ((i : Int) < (ds.length : Int)) := by omega
      simp only [↓opStep_eq, ↓reduceIte, ↓EW, EV, Nat.reduceAdd, Nat.reduceEqDiff, Int.reduceEq, Int.reduceLT, Int.reduceLE, Int.reduceNe, seqC, retC, skipC, exitC, blockC, condC, Bool.true_or, Bool.false_or, Bool.or_true, Bool.or_false, Bool.true_and, Bool.false_and, Bool.and_true, Bool.and_false, r10_2, t0, t3, a.len, e1, g1]
  rw [show ∀ x : CodeT, (⟨x⟩ : Box CodeT).f = x from fun _ => rfl]
  rw [r2]
  refine hK _ _ _ (C.cond (decide (i < ds.length) && decide (i < 500)) (by simp only [↓opStep_eq, ↓reduceIte, ↓EW, EV, Nat.reduceAdd, Nat.reduceEqDiff, Int.reduceEq, Int.reduceLT, Int.reduceLE, Int.reduceNe, seqC, retC, skipC, exitC, blockC, condC]) (fun g => C.skip ?_) fun g => C.exit ?_)
  · simp only [Bool.and_eq_true, decide_eq_true_eq] at g
    obtain ⟨b, ix, ad⟩ := a.at (List.getElem?_eq_getElem g.1)
    have kk := ad.key
    refine C.seq (C.block (C.seq fun K hK => ?_))
    simp only [↓opStep_eq, ↓reduceIte, ↓EW, EV, Nat.reduceAdd, Nat.reduceEqDiff, Int.reduceEq, Int.reduceLT, Int.reduceLE, Int.reduceNe, seqC, retC, skipC, exitC, blockC, condC, r10_4, t0, t3, ix, Nat.add_zero, kk, lenStr_string]
    refine hK _ _ _ (C.cond (decide ((10000 : Int) < ((ds[i].1.2.size : Nat) : Int))) (by simp only [↓opStep_eq, ↓reduceIte, ↓EW, EV, Nat.reduceAdd, Nat.reduceEqDiff, Int.reduceEq, Int.reduceLT, Int.reduceLE, Int.reduceNe, seqC, retC, skipC, exitC, blockC, condC]) (fun g2 => C.seq fun K hK => ?_) fun g2 => C.skip fun K hK => ?_)
    · simp only [↓opStep_eq, ↓reduceIte, ↓EW, EV, Nat.reduceAdd, Nat.reduceEqDiff, Int.reduceEq, Int.reduceLT, Int.reduceLE, Int.reduceNe, seqC, retC, skipC, exitC, blockC, condC, r10_5]
      exact hK .norm _ _ (C.ret ⟨.inr rfl, _, rfl, false, by simp only [↓opStep_eq, ↓reduceIte, ↓EW, EV, Nat.reduceAdd, Nat.reduceEqDiff, Int.reduceEq, Int.reduceLT, Int.reduceLE, Int.reduceNe, seqC, retC, skipC, exitC, blockC, condC, resOf], (fun e => by cases e), rfl⟩)
    · have w' := wadd1 i (by omega)
      simp only [↓opStep_eq, ↓reduceIte, ↓EW, EV, Nat.reduceAdd, Nat.reduceEqDiff, Int.reduceEq, Int.reduceLT, Int.reduceLE, Int.reduceNe, seqC, retC, skipC, exitC, blockC, condC, r10_3, t3, w']
      exact hK _ _ _ ⟨500 - (i + 1), by omega, i + 1, rfl, by omega, by omega, rfl, by simp only [↓opStep_eq, ↓reduceIte, ↓EW, EV, Nat.reduceAdd, Nat.reduceEqDiff, Int.reduceEq, Int.reduceLT, Int.reduceLE, Int.reduceNe, seqC, retC, skipC, exitC, blockC, condC, t0], by simp only [↓opStep_eq, ↓reduceIte, ↓EW, EV, Nat.reduceAdd, Nat.reduceEqDiff, Int.reduceEq, Int.reduceLT, Int.reduceLE, Int.reduceNe, seqC, retC, skipC, exitC, blockC, condC]⟩
  · simp only [if_pos]
    refine C.seq fun K hK => ?_
    simp only [↓opStep_eq, ↓reduceIte, ↓EW, EV, Nat.reduceAdd, Nat.reduceEqDiff, Int.reduceEq, Int.reduceLT, Int.reduceLE, Int.reduceNe, seqC, retC, skipC, exitC, blockC, condC, r10_6, t0, a.len]
    exact hK _ _ _ (C.ret ⟨.inr rfl, _, rfl, _, by simp only [↓opStep_eq, ↓reduceIte, ↓EW, EV, Nat.reduceAdd, Nat.reduceEqDiff, Int.reduceEq, Int.reduceLT, Int.reduceLE, Int.reduceNe, seqC, retC, skipC, exitC, blockC, condC, resOf] <;> rfl, fun e => by have := of_decide_eq_true e; omega, rfl⟩)
end Go.Proofs.Ytpoedopdcpejmaa

namespace Go.Proofs.Ytpoedopdcpejmaa
open Go.Ev

def Dq (P : Nat → Prop) (h : H) (v : Value) (ds : List Dd) : Prop := (v = .slice none 0 0 ∧ ds = []) ∨ ∃ b cap, v = .slice (some ⟨b, 0, none⟩) ds.length cap ∧ OpenC cap ∧ Has h b (.op (cellsD ds) 3) ∧ P b
section
variable {P : Nat → Prop} {h h' : H} {v : Value} {ds : List Dd}
theorem Dq.keep {S : Nat → Prop} (a : Dq P h v ds) (k : Keep S h h') (hs : ∀ c, S c → ¬ P c) : Dq P h' v ds := by
  rcases a with a | ⟨b, cap, e, c, hb, p⟩
  · exact .inl a
  · exact .inr ⟨b, cap, e, c, hb.keep k fun e => hs b e p, p⟩
theorem Dq.keep0 (a : Dq P h v ds) (k : Keep nobody h h') : Dq P h' v ds := a.keep k fun _ e => e.elim
theorem Dq.mono {P' : Nat → Prop} (a : Dq P h v ds) (hp : ∀ c, c < h.next → P c → P' c) : Dq P' h v ds := by
  rcases a with a | ⟨b, cap, e, c, hb, p⟩
  · exact .inl a
  · exact .inr ⟨b, cap, e, c, hb, hp b hb.1 p⟩
theorem Dq.dv (a : Dq P h v ds) : Dv P h v ds := by
  rcases a with a | ⟨b, cap, e, c, hb, p⟩
  · exact .inl a
  · exact .inr ⟨b, cap, _, e, hb, rfl, p⟩
theorem litD (b : Nat) (d : Dd) : mkLit 1 b (fill (repl [(.int .i64 (0)), (.string (strB [])), (.int .i64 (0))] 1) (pl 3) [(0, dV d)]) = some (.rw [.int .i64 d.1.1, .string d.1.2, .int .i64 d.2], .slice (some ⟨b, 0, none⟩) 1 1) := rfl
theorem Dq.append (a : Dq P h v ds) (d : Dd) {lb : Nat} (hb : Has h lb (.rw [.int .i64 d.1.1, .string d.1.2, .int .i64 d.2])) (hP : ∀ c, h.next ≤ c → P c) (hsz : ds.length ≤ 1000000) :
    ∃ v' h', appendV 3 32 h v (.slice (some ⟨lb, 0, none⟩) 1 1) = some (v', h') ∧ Dq P h' v' (ds ++ [d]) ∧ Keep P h h' := by
  have fv : firstV h 3 1 (.slice (some ⟨lb, 0, none⟩) 1 1) = some [.int .i64 d.1.1, .string d.1.2, .int .i64 d.2] := by
    simp only [firstV]
    rw [row_has hb rfl (by simp)]; rfl
  have hap : ∀ base sl sc, appendV 3 32 h (.slice base sl sc) (.slice (some ⟨lb, 0, none⟩) 1 1) = appTo 3 32 h base sl sc 1 [.int .i64 d.1.1, .string d.1.2, .int .i64 d.2] := fun base sl sc => by
    unfold appendV
    simp only [lenV, fv]
    rfl
  have hgrow : ∀ (h0 : H), h0.next = h.next → Keep P h h0 → ∃ v' h', grow h0 (cellsD ds) [.int .i64 d.1.1, .string d.1.2, .int .i64 d.2] (ds.length + 1) 3 = some (v', h') ∧ Dq P h' v' (ds ++ [d]) ∧ Keep P h h' := fun h0 hn hk => by
    have e : cellsD (ds ++ [d]) = cellsD ds ++ [.int .i64 d.1.1, .string d.1.2, .int .i64 d.2] := by rw [cellsD_append]; rfl
    exact ⟨_, _, rfl, .inr ⟨h0.next, opCap (ds.length + 1) 3, by simp, openC _, by rw [e]; exact .new _ _, hP _ (by omega)⟩, hk.then (.new _ _)⟩
  rcases a with ⟨rfl, rfl⟩ | ⟨b, cap, rfl, c, hb1, l⟩
  · rw [hap]
    have : appTo 3 32 h none 0 0 1 [.int .i64 d.1.1, .string d.1.2, .int .i64 d.2] = grow h [] [.int .i64 d.1.1, .string d.1.2, .int .i64 d.2] 1 3 := rfl
    rw [this]
    exact hgrow h rfl (.refl _ _)
  · rw [hap]
    have h1 : appTo 3 32 h (some ⟨b, 0, none⟩) ds.length cap 1 [.int .i64 d.1.1, .string d.1.2, .int .i64 d.2] = appOpen 3 h ⟨b, 0, none⟩ ds.length cap 1 [.int .i64 d.1.1, .string d.1.2, .int .i64 d.2] := by
      unfold appTo
      simp only
      rw [Nat.ble_eq_true_of_le (show (ds.length + 1) * 32 ≤ 140737488355328 by omega), Nat.ble_eq_true_of_le (show ds.length + 1 ≤ 9223372036854775807 by omega)]
      simp only [c.1, Bool.and_self]
    rw [h1]
    unfold appOpen
    have h2 : Ev.ones [Value.int .i64 d.1.1, .string d.1.2, .int .i64 d.2] = true := rfl
    have e3 : putAt (cellsD ds) (0 + ds.length * 3) [Value.int .i64 d.1.1, .string d.1.2, .int .i64 d.2] = none := by
      rw [show 0 + ds.length * 3 = (cellsD ds).length by rw [cellsD_len]; omega]
      exact putAt_end _ _ _
    have e4 : cut (cellsD ds) 0 = some (cellsD ds) := by simpa using cut_eq (cellsD ds) 0 (by simp)
    have e5 : Nat.beq (0 + ds.length * 3) (cellsD ds).length = true := by rw [show 0 + ds.length * 3 = (cellsD ds).length by rw [cellsD_len]; omega]; exact Nat.beq_refl _
    simp only [c.2, h2, Bool.and_self, hb1.2, e3, e4, e5]
    exact hgrow (h.del b) rfl ((Keep.del h b).mono fun k _ e => by rw [e]; exact l)
end

/-! ### what is added -/
def okD (now : Nat) (d : Dd) : Prop := validN d.1.1 d.1.2 ∧ (now : Int) < d.2 ∧ d.2 ≤ 1099511627776
def hasN {α : Type} (out : List (Nm × α)) (x : Nm) : Prop := ∃ e ∈ out, e.1 = x
noncomputable instance decHasN {α : Type} (out : List (Nm × α)) (x : Nm) : Decidable (hasN out x) := Classical.propDecidable _
noncomputable instance decOkD (now : Nat) (d : Dd) : Decidable (okD now d) := Classical.propDecidable _
noncomputable def addStep (now : Nat) (out : List En) (d : Dd) : List En := if ¬ hasN out d.1 ∧ okD now d then out ++ [(d.1, d.2.toNat)] else out
noncomputable def addF (now : Nat) (ds : List Dd) : List En := ds.foldl (addStep now) []
def outD (es : List En) : List Dd := es.map fun e => (e.1, (e.2 : Int))

/-- is it among those? -/
theorem again_loop (L n : Nat) (hL : 300000 < L) {P P' : Nat → Prop} {h : H} {w v : Value} {ds : List Dd} {out : List Dd} {i : Nat} {d : Dd} (hd : ds[i]? = some d) (a : Dv P h v ds) (o : Dv P' h w out) (hlen : out.length ≤ 1000) {tm : T Value} (t1 : tg tm 1 = v) (t5 : tg tm 5 = w) (t6 : tg tm 6 = .int .i64 (i : Int)) (t7 : tg tm 7 = .bool false) (g0 : Value) (t0 : tg tm 0 = g0) (Q : Ex → T Value → H → Prop)
    (hQ : ∀ tm' h', Keep nobody h h' → tg tm' 0 = g0 → tg tm' 1 = v → tg tm' 5 = w → tg tm' 6 = .int .i64 (i : Int) → tg tm' 7 = .bool (decide (hasN out d.1)) → Q .norm tm' h') :
    C ⟨seqC ⟨r11_6⟩ ⟨blockC 2 (loopB l11_9)⟩⟩ (CF L n) L tm h Q := by
  refine C.seq fun K hK => ?_
  simp only [↓opStep_eq, ↓reduceIte, ↓EW, EV, Nat.reduceAdd, Nat.reduceEqDiff, Int.reduceEq, Int.reduceLT, Int.reduceLE, Int.reduceNe, seqC, retC, skipC, exitC, blockC, condC, r11_6]
  refine hK .norm _ _ ?_
  refine C.block (C.loop (fun q tm' hx => ∃ k, q = out.length - k ∧ k ≤ out.length ∧ Keep nobody h hx ∧ tg tm' 0 = g0 ∧ tg tm' 1 = v ∧ tg tm' 5 = w ∧ tg tm' 6 = .int .i64 (i : Int) ∧ tg tm' 8 = .int .i64 (k : Int) ∧ tg tm' 7 = .bool (decide (hasN (out.take k) d.1))) out.length (by omega)
    ⟨0, rfl, by omega, .refl _ _, by simp only [↓opStep_eq, ↓reduceIte, ↓EW, EV, Nat.reduceAdd, Nat.reduceEqDiff, Int.reduceEq, Int.reduceLT, Int.reduceLE, Int.reduceNe, seqC, retC, skipC, exitC, blockC, condC, t0], by simp only [↓opStep_eq, ↓reduceIte, ↓EW, EV, Nat.reduceAdd, Nat.reduceEqDiff, Int.reduceEq, Int.reduceLT, Int.reduceLE, Int.reduceNe, seqC, retC, skipC, exitC, blockC, condC, t1], by simp only [↓opStep_eq, ↓reduceIte, ↓EW, EV, Nat.reduceAdd, Nat.reduceEqDiff, Int.reduceEq, Int.reduceLT, Int.reduceLE, Int.reduceNe, seqC, retC, skipC, exitC, blockC, condC, t5], by simp only [↓opStep_eq, ↓reduceIte, ↓EW, EV, Nat.reduceAdd, Nat.reduceEqDiff, Int.reduceEq, Int.reduceLT, Int.reduceLE, Int.reduceNe, seqC, retC, skipC, exitC, blockC, condC, t6], by simp only [↓opStep_eq, ↓reduceIte, ↓EW, EV, Nat.reduceAdd, Nat.reduceEqDiff, Int.reduceEq, Int.reduceLT, Int.reduceLE, Int.reduceNe, seqC, retC, skipC, exitC, blockC, condC] <;> rfl, by simp only [↓opStep_eq, ↓reduceIte, ↓EW, EV, Nat.reduceAdd, Nat.reduceEqDiff, Int.reduceEq, Int.reduceLT, Int.reduceLE, Int.reduceNe, seqC, retC, skipC, exitC, blockC, condC, t7]; rw [decide_eq_false]; rintro ⟨e, he, _⟩; simp at he⟩ ?_)
  clear t0 t1 t5 t6 t7
  rintro q tm hx ⟨k, rfl, hk, kx, t0, t1, t5, t6, t8, t7⟩
  unfold l11_9
  refine C.seq (C.seq fun K hK => ?_)
  simp only [↓opStep_eq, ↓reduceIte, ↓EW, EV, Nat.reduceAdd, Nat.reduceEqDiff, Int.reduceEq, Int.reduceLT, Int.reduceLE, Int.reduceNe, seqC, retC, skipC, exitC, blockC, condC, r11_7, t5, t8, o.len]
  refine hK _ _ _ (C.cond (decide ((k : Int) < (out.length : Int))) (by simp only [↓opStep_eq, ↓reduceIte, ↓EW, EV, Nat.reduceAdd, Nat.reduceEqDiff, Int.reduceEq, Int.reduceLT, Int.reduceLE, Int.reduceNe, seqC, retC, skipC, exitC, blockC, condC]) (fun g => C.skip ?_) fun g => C.exit ?_)
  · have g : k < out.length := by have := of_decide_eq_true g; omega
    have kr := kx.then (keep_room hx 15)
    have hek : out[k]? = some out[k] := List.getElem?_eq_getElem g
    obtain ⟨p, ixp, ap⟩ := (a.keep0 kr).at hd
    obtain ⟨q, ixq, aq⟩ := (o.keep0 kr).at hek
    have ht : out.take (k + 1) = out.take k ++ [out[k]] := by rw [List.take_add_one, hek]; rfl
    have w' := wadd1 k (by omega)
    have r9 : ∀ (b0 : Value) (K : KE), r11_9 (CF L n) L (T.set tm 18 b0) [] hx K = K .norm (T.set (T.set tm 18 b0) 7 (.bool (decide (hasN (out.take (k + 1)) d.1)))) [] ⟨hx.objs, hx.next + 15⟩ := fun b0 K => by
      have nq := name_eql out[k].1.1 d.1.1 out[k].1.2 d.1.2
      have e2 : decide (out[k].1.1 = d.1.1 ∧ out[k].1.2 = d.1.2) = decide (out[k].1 = d.1) := decide_eq_decide.2 ⟨fun h => Prod.ext h.1 h.2, fun h => by rw [h]; exact ⟨rfl, rfl⟩⟩
      rw [e2] at nq
      have nq' : binV Try.prog .eql 39 false out[k].1.v d.1.v = some (.bool (decide (out[k].1 = d.1))) := nq
      by_cases g1 : hasN (out.take k) d.1
      · have g2 : hasN (out.take (k + 1)) d.1 := by
          obtain ⟨e, he, h⟩ := g1
          exact ⟨e, by rw [ht]; exact List.mem_append_left _ he, h⟩
        rw [decide_eq_true g1] at t7
        rw [decide_eq_true g2]
        simp only [↓opStep_eq, ↓reduceIte, ↓EW, EV, Nat.reduceAdd, Nat.reduceEqDiff, Int.reduceEq, Int.reduceLT, Int.reduceLE, Int.reduceNe, seqC, retC, skipC, exitC, blockC, condC, Bool.true_or, Bool.false_or, Bool.or_true, Bool.or_false, Bool.true_and, Bool.false_and, Bool.and_true, Bool.and_false, r11_9, t1, t5, t6, t8, t7, ixp, ixq, Nat.add_zero, ap.nm, aq.nm, nq', ite2]
      · rw [decide_eq_false g1] at t7
        have e3 : decide (hasN (out.take (k + 1)) d.1) = decide (out[k].1 = d.1) := decide_eq_decide.2 ⟨fun ⟨e, he, h⟩ => by
          rw [ht, List.mem_append, List.mem_singleton] at he
          rcases he with he | he
          · exact absurd ⟨e, he, h⟩ g1
          · rw [← he]; exact h, fun h => ⟨out[k], by rw [ht]; exact List.mem_append_right _ (List.mem_singleton.2 rfl), h⟩⟩
        rw [e3]
        simp only [↓opStep_eq, ↓reduceIte, ↓EW, EV, Nat.reduceAdd, Nat.reduceEqDiff, Int.reduceEq, Int.reduceLT, Int.reduceLE, Int.reduceNe, seqC, retC, skipC, exitC, blockC, condC, Bool.true_or, Bool.false_or, Bool.or_true, Bool.or_false, Bool.true_and, Bool.false_and, Bool.and_true, Bool.and_false, r11_9, t1, t5, t6, t8, t7, ixp, ixq, Nat.add_zero, ap.nm, aq.nm, nq', ite2]
    refine C.seq (C.block fun K hK => ?_)
    rw [show ∀ x : CodeT, (⟨x⟩ : Box CodeT).f = x from fun _ => rfl]
    rw [r9]
    refine hK _ _ _ fun K hK => ?_
    simp only [↓opStep_eq, ↓reduceIte, ↓EW, EV, Nat.reduceAdd, Nat.reduceEqDiff, Int.reduceEq, Int.reduceLT, Int.reduceLE, Int.reduceNe, seqC, retC, skipC, exitC, blockC, condC, r11_8, t8, w']
    refine hK _ _ _ ⟨out.length - (k + 1), by omega, k + 1, rfl, by omega, kr, ?_, ?_, ?_, ?_, ?_, ?_⟩
    · simp only [↓opStep_eq, ↓reduceIte, ↓EW, EV, Nat.reduceAdd, Nat.reduceEqDiff, Int.reduceEq, Int.reduceLT, Int.reduceLE, Int.reduceNe, seqC, retC, skipC, exitC, blockC, condC, t0]
    · simp only [↓opStep_eq, ↓reduceIte, ↓EW, EV, Nat.reduceAdd, Nat.reduceEqDiff, Int.reduceEq, Int.reduceLT, Int.reduceLE, Int.reduceNe, seqC, retC, skipC, exitC, blockC, condC, t1]
    · simp only [↓opStep_eq, ↓reduceIte, ↓EW, EV, Nat.reduceAdd, Nat.reduceEqDiff, Int.reduceEq, Int.reduceLT, Int.reduceLE, Int.reduceNe, seqC, retC, skipC, exitC, blockC, condC, t5]
    · simp only [↓opStep_eq, ↓reduceIte, ↓EW, EV, Nat.reduceAdd, Nat.reduceEqDiff, Int.reduceEq, Int.reduceLT, Int.reduceLE, Int.reduceNe, seqC, retC, skipC, exitC, blockC, condC, t6]
    · simp only [↓opStep_eq, ↓reduceIte, ↓EW, EV, Nat.reduceAdd, Nat.reduceEqDiff, Int.reduceEq, Int.reduceLT, Int.reduceLE, Int.reduceNe, seqC, retC, skipC, exitC, blockC, condC]
    · simp only [↓opStep_eq, ↓reduceIte, ↓EW, EV, Nat.reduceAdd, Nat.reduceEqDiff, Int.reduceEq, Int.reduceLT, Int.reduceLE, Int.reduceNe, seqC, retC, skipC, exitC, blockC, condC]
  · simp only [if_pos]
    have g : k = out.length := by have := of_decide_eq_false g; omega
    subst g
    rw [List.take_length] at t7
    exact hQ _ hx kx (by simp only [↓opStep_eq, ↓reduceIte, ↓EW, EV, Nat.reduceAdd, Nat.reduceEqDiff, Int.reduceEq, Int.reduceLT, Int.reduceLE, Int.reduceNe, seqC, retC, skipC, exitC, blockC, condC, t0]) (by simp only [↓opStep_eq, ↓reduceIte, ↓EW, EV, Nat.reduceAdd, Nat.reduceEqDiff, Int.reduceEq, Int.reduceLT, Int.reduceLE, Int.reduceNe, seqC, retC, skipC, exitC, blockC, condC, t1]) (by simp only [↓opStep_eq, ↓reduceIte, ↓EW, EV, Nat.reduceAdd, Nat.reduceEqDiff, Int.reduceEq, Int.reduceLT, Int.reduceLE, Int.reduceNe, seqC, retC, skipC, exitC, blockC, condC, t5]) (by simp only [↓opStep_eq, ↓reduceIte, ↓EW, EV, Nat.reduceAdd, Nat.reduceEqDiff, Int.reduceEq, Int.reduceLT, Int.reduceLE, Int.reduceNe, seqC, retC, skipC, exitC, blockC, condC, t6]) (by simp only [↓opStep_eq, ↓reduceIte, ↓EW, EV, Nat.reduceAdd, Nat.reduceEqDiff, Int.reduceEq, Int.reduceLT, Int.reduceLE, Int.reduceNe, seqC, retC, skipC, exitC, blockC, condC, t7])
end Go.Proofs.Ytpoedopdcpejmaa

namespace Go.Proofs.Ytpoedopdcpejmaa
open Go.Ev

theorem hasN_out (out : List En) (x : Nm) : hasN (outD out) x ↔ hasN out x := by
  unfold hasN outD
  constructor
  · rintro ⟨e, he, h⟩
    obtain ⟨e', he', rfl⟩ := List.mem_map.1 he
    exact ⟨e', he', h⟩
  · rintro ⟨e, he, h⟩
    exact ⟨_, List.mem_map.2 ⟨e, he, rfl⟩, h⟩
theorem outD_len (out : List En) : (outD out).length = out.length := List.length_map _
theorem addStep_len (now : Nat) (out : List En) (d : Dd) : (addStep now out d).length ≤ out.length + 1 := by
  unfold addStep
  split
  · simp
  · omega
theorem addF_snoc (now : Nat) (ds : List Dd) (d : Dd) : addF now (ds ++ [d]) = addStep now (addF now ds) d := by
  unfold addF
  rw [List.foldl_append]; rfl
theorem addF_len' (now : Nat) : ∀ (ds : List Dd) (out : List En), (ds.foldl (addStep now) out).length ≤ out.length + ds.length
  | [], out => by simp
  | d :: r, out => by
    have h1 := addF_len' now r (addStep now out d)
    have h2 := addStep_len now out d
    simp only [List.foldl_cons, List.length_cons]
    omega
theorem addF_len (now : Nat) (ds : List Dd) : (addF now ds).length ≤ ds.length := by
  have := addF_len' now ds []
  simpa [addF] using this

section
variable {O : Nat → Prop} {h : H} {b now : Nat}
structure AddQ (O : Nat → Prop) (h : H) (b now : Nat) (h' : H) (v : Value) (es : List En) (O' : Nat → Prop) : Prop where
  wh : Wh O' h' b now es
  fw : Fw O h O' h'
  out : Dq (fun c => h.next ≤ c ∧ ¬ O' c) h' v (outD es)
theorem AddQ.keep0 {h1 h2 : H} {v : Value} {es : List En} {O' : Nat → Prop} (q : AddQ O h b now h1 v es O') (k : Keep nobody h1 h2) : AddQ O h b now h2 v es O' := ⟨q.wh.keep0 k, q.fw.trans (Fw.of0 k), q.out.keep0 k⟩

theorem add11_law (L n : Nat) (hL : 300000 < L) (w : Wh O h b now []) {v : Value} {ds : List Dd} (a : Dv (fun c => ¬ O c) h v ds) (hlen : ds.length ≤ 200) :
    Sp (CF L (n + 7)) 11 [.pointer (some ⟨b, 0, none⟩), v] h fun r h' => ∃ O', AddQ O h b now h' r (addF now ds) O' := by
  refine Sp.body f11 (by simp) ?_
  unfold c11
  refine C.seq fun K hK => ?_
  simp only [↓opStep_eq, ↓reduceIte, ↓EW, EV, Nat.reduceAdd, Nat.reduceEqDiff, Int.reduceEq, Int.reduceLT, Int.reduceLE, Int.reduceNe, seqC, retC, skipC, exitC, blockC, condC, r11_0]
  refine hK .norm _ _ (C.seq fun K hK => ?_)
  simp only [↓opStep_eq, ↓reduceIte, ↓EW, EV, Nat.reduceAdd, Nat.reduceEqDiff, Int.reduceEq, Int.reduceLT, Int.reduceLE, Int.reduceNe, seqC, retC, skipC, exitC, blockC, condC, r11_1]
  refine hK .norm _ _ (C.seq (C.seq fun K hK => ?_))
  simp only [↓opStep_eq, ↓reduceIte, ↓EW, EV, Nat.reduceAdd, Nat.reduceEqDiff, Int.reduceEq, Int.reduceLT, Int.reduceLE, Int.reduceNe, seqC, retC, skipC, exitC, blockC, condC, r11_2]
  refine hK .norm _ _ ?_
  refine C.block (C.loop (fun q tm' hx => ∃ i O', q = ds.length - i ∧ i ≤ ds.length ∧ AddQ O h b now hx (tg tm' 5) (addF now (ds.take i)) O' ∧ tg tm' 0 = .pointer (some ⟨b, 0, none⟩) ∧ tg tm' 1 = v ∧ tg tm' 6 = .int .i64 (i : Int)) ds.length (by omega)
    ⟨0, O, rfl, by omega, ⟨w, Fw.refl _ _, .inl ⟨by simp only [↓opStep_eq, ↓reduceIte, ↓EW, EV, Nat.reduceAdd, Nat.reduceEqDiff, Int.reduceEq, Int.reduceLT, Int.reduceLE, Int.reduceNe, seqC, retC, skipC, exitC, blockC, condC], rfl⟩⟩, by simp only [↓opStep_eq, ↓reduceIte, ↓EW, EV, Nat.reduceAdd, Nat.reduceEqDiff, Int.reduceEq, Int.reduceLT, Int.reduceLE, Int.reduceNe, seqC, retC, skipC, exitC, blockC, condC], by simp only [↓opStep_eq, ↓reduceIte, ↓EW, EV, Nat.reduceAdd, Nat.reduceEqDiff, Int.reduceEq, Int.reduceLT, Int.reduceLE, Int.reduceNe, seqC, retC, skipC, exitC, blockC, condC], by simp only [↓opStep_eq, ↓reduceIte, ↓EW, EV, Nat.reduceAdd, Nat.reduceEqDiff, Int.reduceEq, Int.reduceLT, Int.reduceLE, Int.reduceNe, seqC, retC, skipC, exitC, blockC, condC] <;> rfl⟩ ?_)
  rintro q tm hx ⟨i, O', rfl, hi, q, t0, t1, t6⟩
  have ax := a.keep q.fw.keep fun c e p => p e
  unfold l11_13
  refine C.seq (C.seq fun K hK => ?_)
  simp only [↓opStep_eq, ↓reduceIte, ↓EW, EV, Nat.reduceAdd, Nat.reduceEqDiff, Int.reduceEq, Int.reduceLT, Int.reduceLE, Int.reduceNe, seqC, retC, skipC, exitC, blockC, condC, r11_3, t1, t6, ax.len]
  refine hK _ _ _ (C.cond (decide ((i : Int) < (ds.length : Int))) (by simp only [↓opStep_eq, ↓reduceIte, ↓EW, EV, Nat.reduceAdd, Nat.reduceEqDiff, Int.reduceEq, Int.reduceLT, Int.reduceLE, Int.reduceNe, seqC, retC, skipC, exitC, blockC, condC]) (fun g => C.skip ?_) fun g => C.exit ?_)
  · have g : i < ds.length := by have := of_decide_eq_true g; omega
    obtain ⟨d, hd⟩ : ∃ d, ds[i]? = some d := ⟨_, List.getElem?_eq_getElem g⟩
    have htake : ds.take (i + 1) = ds.take i ++ [d] := by rw [List.take_add_one, hd]; rfl
    have hout : (addF now (ds.take i)).length ≤ 200 := by have := addF_len now (ds.take i); rw [List.length_take] at this; omega
    have hsn := addF_snoc now (ds.take i) d
    rw [← htake] at hsn
    generalize hes : addF now (ds.take i) = es at *
    have w1 := wadd1 i (by omega)
    -- behind the round
    have again : ∀ (h' : H) (tm' : T Value) (O'' : Nat → Prop) (Q' : Ex → T Value → Ev.H → Prop), AddQ O h b now h' (tg tm' 5) (addF now (ds.take (i + 1))) O'' → tg tm' 0 = .pointer (some ⟨b, 0, none⟩) → tg tm' 1 = v → tg tm' 6 = .int .i64 (i : Int) →
        (∀ tm2, (∃ q', q' < ds.length - i ∧ ∃ i O', q' = ds.length - i ∧ i ≤ ds.length ∧ AddQ O h b now h' (tg tm2 5) (addF now (ds.take i)) O' ∧ tg tm2 0 = .pointer (some ⟨b, 0, none⟩) ∧ tg tm2 1 = v ∧ tg tm2 6 = .int .i64 (i : Int)) → Q' .norm tm2 h') → C ⟨r11_4⟩ (CF L (n + 6)) L tm' h' Q' := fun h' tm' O'' Q' q' u0 u1 u6 hQ' => by
      intro K hK
      simp only [↓opStep_eq, ↓reduceIte, ↓EW, EV, Nat.reduceAdd, Nat.reduceEqDiff, Int.reduceEq, Int.reduceLT, Int.reduceLE, Int.reduceNe, seqC, retC, skipC, exitC, blockC, condC, r11_4, u6, w1]
      refine hK _ _ _ (hQ' _ ⟨ds.length - (i + 1), by omega, i + 1, O'', rfl, by omega, ?_, by simp only [↓opStep_eq, ↓reduceIte, ↓EW, EV, Nat.reduceAdd, Nat.reduceEqDiff, Int.reduceEq, Int.reduceLT, Int.reduceLE, Int.reduceNe, seqC, retC, skipC, exitC, blockC, condC, u0], by simp only [↓opStep_eq, ↓reduceIte, ↓EW, EV, Nat.reduceAdd, Nat.reduceEqDiff, Int.reduceEq, Int.reduceLT, Int.reduceLE, Int.reduceNe, seqC, retC, skipC, exitC, blockC, condC, u1], by simp only [↓opStep_eq, ↓reduceIte, ↓EW, EV, Nat.reduceAdd, Nat.reduceEqDiff, Int.reduceEq, Int.reduceLT, Int.reduceLE, Int.reduceNe, seqC, retC, skipC, exitC, blockC, condC]⟩)
      simp only [↓opStep_eq, ↓reduceIte, ↓EW, EV, Nat.reduceAdd, Nat.reduceEqDiff, Int.reduceEq, Int.reduceLT, Int.reduceLE, Int.reduceNe, seqC, retC, skipC, exitC, blockC, condC]
      exact q'
    refine C.seq (C.block (C.seq fun K hK => ?_))
    simp only [↓opStep_eq, ↓reduceIte, ↓EW, EV, Nat.reduceAdd, Nat.reduceEqDiff, Int.reduceEq, Int.reduceLT, Int.reduceLE, Int.reduceNe, seqC, retC, skipC, exitC, blockC, condC, r11_5]
    refine hK .norm _ _ (C.seq ?_)
    refine again_loop L (n + 6) hL hd ax q.out.dv (by rw [outD_len]; omega) (by simp only [↓opStep_eq, ↓reduceIte, ↓EW, EV, Nat.reduceAdd, Nat.reduceEqDiff, Int.reduceEq, Int.reduceLT, Int.reduceLE, Int.reduceNe, seqC, retC, skipC, exitC, blockC, condC, t1]) (by simp only [↓opStep_eq, ↓reduceIte, ↓EW, EV, Nat.reduceAdd, Nat.reduceEqDiff, Int.reduceEq, Int.reduceLT, Int.reduceLE, Int.reduceNe, seqC, retC, skipC, exitC, blockC, condC]) (by simp only [↓opStep_eq, ↓reduceIte, ↓EW, EV, Nat.reduceAdd, Nat.reduceEqDiff, Int.reduceEq, Int.reduceLT, Int.reduceLE, Int.reduceNe, seqC, retC, skipC, exitC, blockC, condC, t6]) (by simp only [↓opStep_eq, ↓reduceIte, ↓EW, EV, Nat.reduceAdd, Nat.reduceEqDiff, Int.reduceEq, Int.reduceLT, Int.reduceLE, Int.reduceNe, seqC, retC, skipC, exitC, blockC, condC]) _ (by simp only [↓opStep_eq, ↓reduceIte, ↓EW, EV, Nat.reduceAdd, Nat.reduceEqDiff, Int.reduceEq, Int.reduceLT, Int.reduceLE, Int.reduceNe, seqC, retC, skipC, exitC, blockC, condC, t0] <;> rfl) _ fun tm2 h2 k2 u0 u1 u5 u6 u7 => ?_
    have q2 := q.keep0 k2
    have ax2 := ax.keep0 k2
    have kr := keep_room h2 17
    have q3 := q2.keep0 kr
    have ax3 := ax2.keep0 kr
    obtain ⟨p, ixp, ap⟩ := ax3.at hd
    refine C.seq fun K hK => ?_
    by_cases hn : hasN es d.1
    · rw [decide_eq_true ((hasN_out es d.1).2 hn)] at u7
      simp only [↓opStep_eq, ↓reduceIte, ↓EW, EV, Nat.reduceAdd, Nat.reduceEqDiff, Int.reduceEq, Int.reduceLT, Int.reduceLE, Int.reduceNe, seqC, retC, skipC, exitC, blockC, condC, Bool.true_or, Bool.false_or, Bool.or_true, Bool.or_false, Bool.true_and, Bool.false_and, Bool.and_true, Bool.and_false, r11_10, u7, u0, u1, u6, ixp, ite2]
      refine hK _ _ _ (C.cond false (by simp only [↓opStep_eq, ↓reduceIte, ↓EW, EV, Nat.reduceAdd, Nat.reduceEqDiff, Int.reduceEq, Int.reduceLT, Int.reduceLE, Int.reduceNe, seqC, retC, skipC, exitC, blockC, condC]) (fun g => by cases g) fun _ => C.skip ?_)
      refine again _ _ O' _ ?_ ?_ ?_ ?_ fun tm2 hh => hh
      · rw [hsn]
        have : addStep now es d = es := by unfold addStep; rw [if_neg fun h => h.1 hn]
        rw [this]
        simp only [↓opStep_eq, ↓reduceIte, ↓EW, EV, Nat.reduceAdd, Nat.reduceEqDiff, Int.reduceEq, Int.reduceLT, Int.reduceLE, Int.reduceNe, seqC, retC, skipC, exitC, blockC, condC, u5]
        exact q3
      · simp only [↓opStep_eq, ↓reduceIte, ↓EW, EV, Nat.reduceAdd, Nat.reduceEqDiff, Int.reduceEq, Int.reduceLT, Int.reduceLE, Int.reduceNe, seqC, retC, skipC, exitC, blockC, condC, u0]
      · simp only [↓opStep_eq, ↓reduceIte, ↓EW, EV, Nat.reduceAdd, Nat.reduceEqDiff, Int.reduceEq, Int.reduceLT, Int.reduceLE, Int.reduceNe, seqC, retC, skipC, exitC, blockC, condC, u1]
      · simp only [↓opStep_eq, ↓reduceIte, ↓EW, EV, Nat.reduceAdd, Nat.reduceEqDiff, Int.reduceEq, Int.reduceLT, Int.reduceLE, Int.reduceNe, seqC, retC, skipC, exitC, blockC, condC, u6]
    · rw [decide_eq_false fun h => hn ((hasN_out es d.1).1 h)] at u7
      have hwo : wo es d.1 = es := wo_none fun e he h => hn ⟨e, he, h⟩
      have apn := ap.nm
      have apu := ap.un
      simp only [↓opStep_eq, ↓reduceIte, ↓EW, EV, Nat.reduceAdd, Nat.reduceEqDiff, Int.reduceEq, Int.reduceLT, Int.reduceLE, Int.reduceNe, seqC, retC, skipC, exitC, blockC, condC, Bool.true_or, Bool.false_or, Bool.or_true, Bool.or_false, Bool.true_and, Bool.false_and, Bool.and_true, Bool.and_false, r11_10, u7, u0, u1, u6, ixp, ite2, Nat.add_zero, apn, apu]
      refine add_law L n q3.wh d.1 d.2 _ fun r h4 hq => ?_
      obtain ⟨O4, l4, e4, w4, fw4, rfl, a4⟩ := hq
      -- the out row, and the names, are where they were
      have out4 : Dq (fun c => h.next ≤ c ∧ ¬ O4 c) h4 (tg tm 5) (outD es) := ((q3.out.mono (P' := fun c => (h.next ≤ c ∧ ¬ O4 c) ∧ ¬ O' c) fun c hc p => ⟨⟨p.1, fun e => p.2 (fw4.same c hc e)⟩, p.2⟩).keep fw4.keep fun c e p => p.2 e).mono fun c _ p => p.1
      have fw04 := q3.fw.trans fw4
      have bad : ¬ okD now d → l4 = es → e4 ≠ 0 → K .norm (T.set tm2 51 (.bool (decide (e4 = 0)))) [] h4 = true := fun hok hl he => by
        subst hl
        refine hK _ _ _ (C.cond false (by simp only [↓opStep_eq, ↓reduceIte, ↓EW, EV, Nat.reduceAdd, Nat.reduceEqDiff, Int.reduceEq, Int.reduceLT, Int.reduceLE, Int.reduceNe, seqC, retC, skipC, exitC, blockC, condC]; rw [decide_eq_false he]) (fun g => by cases g) fun _ => C.skip ?_)
        refine again _ _ O4 _ ?_ ?_ ?_ ?_ fun tm2 hh => hh
        · rw [hsn]
          have : addStep now l4 d = l4 := by unfold addStep; rw [if_neg fun h => hok h.2]
          rw [this]
          simp only [↓opStep_eq, ↓reduceIte, ↓EW, EV, Nat.reduceAdd, Nat.reduceEqDiff, Int.reduceEq, Int.reduceLT, Int.reduceLE, Int.reduceNe, seqC, retC, skipC, exitC, blockC, condC, u5]
          exact ⟨w4, fw04, out4⟩
        · simp only [↓opStep_eq, ↓reduceIte, ↓EW, EV, Nat.reduceAdd, Nat.reduceEqDiff, Int.reduceEq, Int.reduceLT, Int.reduceLE, Int.reduceNe, seqC, retC, skipC, exitC, blockC, condC, u0]
        · simp only [↓opStep_eq, ↓reduceIte, ↓EW, EV, Nat.reduceAdd, Nat.reduceEqDiff, Int.reduceEq, Int.reduceLT, Int.reduceLE, Int.reduceNe, seqC, retC, skipC, exitC, blockC, condC, u1]
        · simp only [↓opStep_eq, ↓reduceIte, ↓EW, EV, Nat.reduceAdd, Nat.reduceEqDiff, Int.reduceEq, Int.reduceLT, Int.reduceLE, Int.reduceNe, seqC, retC, skipC, exitC, blockC, condC, u6]
      simp only [↓opStep_eq, ↓reduceIte, ↓EW, EV, Nat.reduceAdd, Nat.reduceEqDiff, Int.reduceEq, Int.reduceLT, Int.reduceLE, Int.reduceNe, seqC, retC, skipC, exitC, blockC, condC, Bool.true_or, Bool.false_or, Bool.or_true, Bool.or_false, Bool.true_and, Bool.false_and, Bool.and_true, Bool.and_false]
      rcases a4 with ⟨hv, rfl, rfl⟩ | ⟨_, hv, rfl, rfl⟩ | ⟨hv, k, hk, hk1, hk2, rfl, rfl⟩
      · exact bad (fun h => hv h.1) rfl (by omega)
      · exact bad (fun h => hv h.2) rfl (by omega)
      · rw [hwo] at w4
        have hok : okD now d := ⟨hv, by omega, by unfold MAXT at hk2; omega⟩
        have ax4 := a.keep fw04.keep fun c e p => p e
        obtain ⟨p, ixp, ap⟩ := ax4.at hd
        have apa := ap.all
        refine hK _ _ _ (C.cond true (by simp only [↓opStep_eq, ↓reduceIte, ↓EW, EV, Nat.reduceAdd, Nat.reduceEqDiff, Int.reduceEq, Int.reduceLT, Int.reduceLE, Int.reduceNe, seqC, retC, skipC, exitC, blockC, condC]) (fun _ => ?_) fun g => by cases g)
        intro K hK
        have k5 := Keep.new h4 (.rw [.int .i64 d.1.1, .string d.1.2, .int .i64 d.2])
        have b5 := Has.new h4 (.rw [.int .i64 d.1.1, .string d.1.2, .int .i64 d.2])
        have w5 := w4.keep0 k5
        have fw5 := fw04.trans (Fw.of0 k5)
        have out5 := out4.keep0 k5
        simp only [↓opStep_eq, ↓reduceIte, ↓EW, EV, Nat.reduceAdd, Nat.reduceEqDiff, Int.reduceEq, Int.reduceLT, Int.reduceLE, Int.reduceNe, seqC, retC, skipC, exitC, blockC, condC, r11_11, u1, u6, u5, ixp, apa, litD]
        generalize h4.new (.rw [.int .i64 d.1.1, .string d.1.2, .int .i64 d.2]) = h5 at *
        have hn5 := fw5.keep.next
        obtain ⟨v6, h6, e6, out6, k6⟩ := out5.append d b5 (fun c hc => ⟨by omega, w5.far hc⟩) (by rw [outD_len]; omega)
        simp only [↓opStep_eq, ↓reduceIte, ↓EW, EV, Nat.reduceAdd, Nat.reduceEqDiff, Int.reduceEq, Int.reduceLT, Int.reduceLE, Int.reduceNe, seqC, retC, skipC, exitC, blockC, condC, e6]
        refine hK _ _ _ (again _ _ O4 _ ?_ ?_ ?_ ?_ fun tm2 hh => hh)
        · rw [hsn]
          have e1 : addStep now es d = es ++ [(d.1, k)] := by
            unfold addStep
            rw [if_pos ⟨hn, hok⟩, hk]; rfl
          rw [e1]
          refine ⟨(w5.keepO k6 fun c e => e.2).perm (List.perm_append_singleton _ _).symm, ⟨fw5.keep.trans k6 fun c hc e => by have := e.1; omega, fw5.same⟩, ?_⟩
          have e2 : outD (es ++ [(d.1, k)]) = outD es ++ [d] := by
            unfold outD
            rw [List.map_append]
            congr 1
            show [(d.1, (k : Int))] = [d]
            rw [← hk]
          rw [e2]
          simp only [↓opStep_eq, ↓reduceIte, ↓EW, EV, Nat.reduceAdd, Nat.reduceEqDiff, Int.reduceEq, Int.reduceLT, Int.reduceLE, Int.reduceNe, seqC, retC, skipC, exitC, blockC, condC]
          exact out6
        · simp only [↓opStep_eq, ↓reduceIte, ↓EW, EV, Nat.reduceAdd, Nat.reduceEqDiff, Int.reduceEq, Int.reduceLT, Int.reduceLE, Int.reduceNe, seqC, retC, skipC, exitC, blockC, condC, u0]
        · simp only [↓opStep_eq, ↓reduceIte, ↓EW, EV, Nat.reduceAdd, Nat.reduceEqDiff, Int.reduceEq, Int.reduceLT, Int.reduceLE, Int.reduceNe, seqC, retC, skipC, exitC, blockC, condC, u1]
        · simp only [↓opStep_eq, ↓reduceIte, ↓EW, EV, Nat.reduceAdd, Nat.reduceEqDiff, Int.reduceEq, Int.reduceLT, Int.reduceLE, Int.reduceNe, seqC, retC, skipC, exitC, blockC, condC, u6]
  · simp only [if_pos]
    have g : i = ds.length := by have := of_decide_eq_false g; omega
    subst g
    rw [List.take_length] at q
    refine C.seq fun K hK => ?_
    simp only [↓opStep_eq, ↓reduceIte, ↓EW, EV, Nat.reduceAdd, Nat.reduceEqDiff, Int.reduceEq, Int.reduceLT, Int.reduceLE, Int.reduceNe, seqC, retC, skipC, exitC, blockC, condC, r11_12]
    refine hK .norm _ _ (C.ret ⟨.inr rfl, _, rfl, O', ?_⟩)
    simp only [↓opStep_eq, ↓reduceIte, ↓EW, EV, Nat.reduceAdd, Nat.reduceEqDiff, Int.reduceEq, Int.reduceLT, Int.reduceLE, Int.reduceNe, seqC, retC, skipC, exitC, blockC, condC, resOf]
    exact q
end
end Go.Proofs.Ytpoedopdcpejmaa

namespace Go.Proofs.Ytpoedopdcpejmaa
open Go.Ev

/-- two wheels side by side, above a memory that stays -/
structure Two (h0 h : H) (O1 O2 : Nat → Prop) (b1 b2 n1 n2 : Nat) (l1 l2 : List En) : Prop where
  w1 : Wh O1 h b1 n1 l1
  w2 : Wh O2 h b2 n2 l2
  dj : ∀ c, O1 c → ¬ O2 c
  k : Keep nobody h0 h
  lo1 : ∀ c, O1 c → h0.next ≤ c
  lo2 : ∀ c, O2 c → h0.next ≤ c
section
variable {h0 h h' : H} {O1 O2 O' : Nat → Prop} {b1 b2 n1 n2 n' : Nat} {l1 l2 l' : List En}
theorem Two.sym (t : Two h0 h O1 O2 b1 b2 n1 n2 l1 l2) : Two h0 h O2 O1 b2 b1 n2 n1 l2 l1 := ⟨t.w2, t.w1, fun c e1 e2 => t.dj c e2 e1, t.k, t.lo2, t.lo1⟩
theorem Two.keep0 (t : Two h0 h O1 O2 b1 b2 n1 n2 l1 l2) (k : Keep nobody h h') : Two h0 h' O1 O2 b1 b2 n1 n2 l1 l2 := ⟨t.w1.keep0 k, t.w2.keep0 k, t.dj, t.k.then k, t.lo1, t.lo2⟩
theorem Wh.lt {O : Nat → Prop} {b now : Nat} {l : List En} (w : Wh O h b now l) {c : Nat} (hc : O c) : c < h.next := by
  obtain ⟨i, U, sv, m⟩ := w
  exact m.far c hc
theorem Two.step (t : Two h0 h O1 O2 b1 b2 n1 n2 l1 l2) (w : Wh O' h' b1 n' l') (f : Fw O1 h O' h') : Two h0 h' O' O2 b1 b2 n' n2 l' l2 := by
  refine ⟨w, t.w2.keepO f.keep t.dj, fun c e1 e2 => t.dj c (f.same c (t.w2.lt e2) e1) e2, t.k.trans f.keep fun c hc e => ?_, fun c e => ?_, t.lo2⟩
  · have := t.lo1 c e; omega
  · by_cases hc : c < h.next
    · exact t.lo1 c (f.same c hc e)
    · have := t.k.next; omega
end
theorem wo_wo (l : List En) (x : Nm) (u : Nat) : wo ((x, u) :: wo l x) x = wo l x := by
  show (List.filter _ _) = _
  rw [List.filter_cons, if_neg (by simp)]
  exact wo_none fun e he => (wo_mem.1 he).2

theorem WI.same_tick {now k : Nat} {l : List En} {O O' : Nat → Prop} {h1 h2 h1' h2' : H} {b b' : Nat} {v v' : Value} {Oa Ob : Nat → Prop} {ns ns' : List Nm} (a : TickQ O h1 h2 b k l Oa v ns) (c : TickQ O' h1' h2' b' k l Ob v' ns') : ns' = ns :=
  sorted_eq (ltW_irr _) (ltW_tr _) c.so a.so fun x => by rw [c.mem, a.mem]

theorem nofind_loop (L n : Nat) (hL : 300000 < L) {P : Nat → Prop} {h0 h : H} {v : Value} {ns : List Nm} (a : Sn P h v ns) {x : Nm} {N : Nat} (hN : Has h N (.rw [.int .i64 x.1, .string x.2])) (hx : x ∉ ns) (hlen : ns.length ≤ 100000) {tm : T Value} (t8 : tg tm 8 = .pointer (some ⟨N, 0, none⟩)) (t24 : tg tm 24 = v) (t13 : tg tm 13 = .bool true) (g23 : Value) (t23 : tg tm 23 = g23) (g25 : Value) (t25 : tg tm 25 = g25) (Q : Ex → T Value → H → Prop)
    (hQ : ∀ tm' h', tg tm' 13 = .bool true → tg tm' 23 = g23 → tg tm' 25 = g25 → Q .norm tm' h') :
    C ⟨seqC ⟨r5_20⟩ ⟨blockC 0 (loopB l5_25)⟩⟩ (CF L n) L tm h Q := by
  refine C.seq fun K hK => ?_
  simp only [↓opStep_eq, ↓reduceIte, ↓EW, EV, Nat.reduceAdd, Nat.reduceEqDiff, Int.reduceEq, Int.reduceLT, Int.reduceLE, Int.reduceNe, seqC, retC, skipC, exitC, blockC, condC, r5_20]
  refine hK .norm _ _ ?_
  refine C.block (C.loop (fun q tm' hx => ∃ k, q = ns.length - k ∧ k ≤ ns.length ∧ Keep nobody h hx ∧ tg tm' 8 = .pointer (some ⟨N, 0, none⟩) ∧ tg tm' 24 = v ∧ tg tm' 13 = .bool true ∧ tg tm' 23 = g23 ∧ tg tm' 25 = g25 ∧ tg tm' 26 = .int .i64 (k : Int)) ns.length (by omega)
    ⟨0, rfl, by omega, .refl _ _, by simp only [↓opStep_eq, ↓reduceIte, ↓EW, EV, Nat.reduceAdd, Nat.reduceEqDiff, Int.reduceEq, Int.reduceLT, Int.reduceLE, Int.reduceNe, seqC, retC, skipC, exitC, blockC, condC, t8], by simp only [↓opStep_eq, ↓reduceIte, ↓EW, EV, Nat.reduceAdd, Nat.reduceEqDiff, Int.reduceEq, Int.reduceLT, Int.reduceLE, Int.reduceNe, seqC, retC, skipC, exitC, blockC, condC, t24], by simp only [↓opStep_eq, ↓reduceIte, ↓EW, EV, Nat.reduceAdd, Nat.reduceEqDiff, Int.reduceEq, Int.reduceLT, Int.reduceLE, Int.reduceNe, seqC, retC, skipC, exitC, blockC, condC, t13], by simp only [↓opStep_eq, ↓reduceIte, ↓EW, EV, Nat.reduceAdd, Nat.reduceEqDiff, Int.reduceEq, Int.reduceLT, Int.reduceLE, Int.reduceNe, seqC, retC, skipC, exitC, blockC, condC, t23], by simp only [↓opStep_eq, ↓reduceIte, ↓EW, EV, Nat.reduceAdd, Nat.reduceEqDiff, Int.reduceEq, Int.reduceLT, Int.reduceLE, Int.reduceNe, seqC, retC, skipC, exitC, blockC, condC, t25], by simp only [↓opStep_eq, ↓reduceIte, ↓EW, EV, Nat.reduceAdd, Nat.reduceEqDiff, Int.reduceEq, Int.reduceLT, Int.reduceLE, Int.reduceNe, seqC, retC, skipC, exitC, blockC, condC] <;> rfl⟩ ?_)
  clear t8 t24 t13 t23 t25
  rintro q tm hy ⟨k, rfl, hk, kx, t8, t24, t13, t23, t25, t26⟩
  unfold l5_25
  refine C.seq (C.seq fun K hK => ?_)
  simp only [↓opStep_eq, ↓reduceIte, ↓EW, EV, Nat.reduceAdd, Nat.reduceEqDiff, Int.reduceEq, Int.reduceLT, Int.reduceLE, Int.reduceNe, seqC, retC, skipC, exitC, blockC, condC, r5_21, t24, t26, a.len]
  refine hK _ _ _ (C.cond (decide ((k : Int) < (ns.length : Int))) (by simp only [↓opStep_eq, ↓reduceIte, ↓EW, EV, Nat.reduceAdd, Nat.reduceEqDiff, Int.reduceEq, Int.reduceLT, Int.reduceLE, Int.reduceNe, seqC, retC, skipC, exitC, blockC, condC]) (fun g => C.skip ?_) fun g => C.exit ?_)
  · have g : k < ns.length := by have := of_decide_eq_true g; omega
    have kr := kx.then (keep_room hy 6)
    have hek : ns[k]? = some ns[k] := List.getElem?_eq_getElem g
    obtain ⟨p, ixp, lp⟩ := (a.keep0 kr).at hek
    have hN' := load2 (hN.keep0 kr)
    have nq := name_eql ns[k].1 x.1 ns[k].2 x.2
    rw [decide_eq_false (fun h => hx (by have : ns[k] = x := Prod.ext h.1 h.2; rw [← this]; exact List.getElem_mem g))] at nq
    have nq' : binV Try.prog .eql 39 false ns[k].v (nameV x.1 x.2) = some (.bool false) := nq
    have w' := wadd1 k (by omega)
    refine C.seq (C.block (C.seq fun K hK => ?_))
    simp only [↓opStep_eq, ↓reduceIte, ↓EW, EV, Nat.reduceAdd, Nat.reduceEqDiff, Int.reduceEq, Int.reduceLT, Int.reduceLE, Int.reduceNe, seqC, retC, skipC, exitC, blockC, condC, r5_23, t24, t26, t8, ixp, lp, hN', nq']
    refine hK _ _ _ (C.cond false (by simp only [↓opStep_eq, ↓reduceIte, ↓EW, EV, Nat.reduceAdd, Nat.reduceEqDiff, Int.reduceEq, Int.reduceLT, Int.reduceLE, Int.reduceNe, seqC, retC, skipC, exitC, blockC, condC]) (fun g => by cases g) fun _ => C.skip fun K hK => ?_)
    simp only [↓opStep_eq, ↓reduceIte, ↓EW, EV, Nat.reduceAdd, Nat.reduceEqDiff, Int.reduceEq, Int.reduceLT, Int.reduceLE, Int.reduceNe, seqC, retC, skipC, exitC, blockC, condC, r5_22, t26, w']
    refine hK _ _ _ ⟨ns.length - (k + 1), by omega, k + 1, rfl, by omega, kr, by simp only [↓opStep_eq, ↓reduceIte, ↓EW, EV, Nat.reduceAdd, Nat.reduceEqDiff, Int.reduceEq, Int.reduceLT, Int.reduceLE, Int.reduceNe, seqC, retC, skipC, exitC, blockC, condC, t8], by simp only [↓opStep_eq, ↓reduceIte, ↓EW, EV, Nat.reduceAdd, Nat.reduceEqDiff, Int.reduceEq, Int.reduceLT, Int.reduceLE, Int.reduceNe, seqC, retC, skipC, exitC, blockC, condC, t24], by simp only [↓opStep_eq, ↓reduceIte, ↓EW, EV, Nat.reduceAdd, Nat.reduceEqDiff, Int.reduceEq, Int.reduceLT, Int.reduceLE, Int.reduceNe, seqC, retC, skipC, exitC, blockC, condC, t13], by simp only [↓opStep_eq, ↓reduceIte, ↓EW, EV, Nat.reduceAdd, Nat.reduceEqDiff, Int.reduceEq, Int.reduceLT, Int.reduceLE, Int.reduceNe, seqC, retC, skipC, exitC, blockC, condC, t23], by simp only [↓opStep_eq, ↓reduceIte, ↓EW, EV, Nat.reduceAdd, Nat.reduceEqDiff, Int.reduceEq, Int.reduceLT, Int.reduceLE, Int.reduceNe, seqC, retC, skipC, exitC, blockC, condC, t25], by simp only [↓opStep_eq, ↓reduceIte, ↓EW, EV, Nat.reduceAdd, Nat.reduceEqDiff, Int.reduceEq, Int.reduceLT, Int.reduceLE, Int.reduceNe, seqC, retC, skipC, exitC, blockC, condC]⟩
  · simp only [if_pos]
    exact hQ _ hy (by simp only [↓opStep_eq, ↓reduceIte, ↓EW, EV, Nat.reduceAdd, Nat.reduceEqDiff, Int.reduceEq, Int.reduceLT, Int.reduceLE, Int.reduceNe, seqC, retC, skipC, exitC, blockC, condC, t13]) (by simp only [↓opStep_eq, ↓reduceIte, ↓EW, EV, Nat.reduceAdd, Nat.reduceEqDiff, Int.reduceEq, Int.reduceLT, Int.reduceLE, Int.reduceNe, seqC, retC, skipC, exitC, blockC, condC, t23]) (by simp only [↓opStep_eq, ↓reduceIte, ↓EW, EV, Nat.reduceAdd, Nat.reduceEqDiff, Int.reduceEq, Int.reduceLT, Int.reduceLE, Int.reduceNe, seqC, retC, skipC, exitC, blockC, condC, t25])

theorem again_tail (L n : Nat) (hL : 300000 < L) {h0 h : H} {O1 : Nat → Prop} {b1 n1 : Nat} {l1 : List En} {x : Nm} {N : Nat} (w : Wh O1 h b1 n1 l1) (hl : l1.length ≤ 40000) (hN : Has h N (.rw [.int .i64 x.1, .string x.2])) (nN : ¬ O1 N) (hv : validN x.1 x.2) {tm : T Value} (t8 : tg tm 8 = .pointer (some ⟨N, 0, none⟩)) (t14 : tg tm 14 = .pointer (some ⟨b1, 0, none⟩)) (t13 : tg tm 13 = .bool true) (Q : Ex → T Value → H → Prop)
    (hQ : ∀ tm' h', q5.f tm' h' = some [.bool true] → Q .ret tm' h') :
    C ⟨seqC ⟨r5_16⟩ ⟨seqC ⟨r5_17⟩ ⟨seqC ⟨r5_18⟩ ⟨seqC ⟨r5_19⟩ ⟨seqC ⟨seqC ⟨r5_20⟩ ⟨blockC 0 (loopB l5_25)⟩⟩ ⟨seqC ⟨r5_25⟩ retC⟩⟩⟩⟩⟩⟩ (CF L (n + 27)) L tm h Q := by
  refine C.seq fun K hK => ?_
  simp only [↓opStep_eq, ↓reduceIte, ↓EW, EV, Nat.reduceAdd, Nat.reduceEqDiff, Int.reduceEq, Int.reduceLT, Int.reduceLE, Int.reduceNe, seqC, retC, skipC, exitC, blockC, condC, r5_16, t8, t14, load2 hN]
  refine add_law L (n + 21) w x 1099511627776 _ fun r h2 hq => ?_
  obtain ⟨O2, l2, e2, w2, fw2, rfl, a2⟩ := hq
  have hl2 : l2.length ≤ l1.length + 1 := by
    rcases a2 with ⟨_, rfl, _⟩ | ⟨_, _, rfl, _⟩ | ⟨_, k, _, _, _, rfl, _⟩
    · omega
    · omega
    · have : (wo l1 x).length ≤ l1.length := List.length_filter_le _ _
      simp only [List.length_cons]; omega
  have hN2 := fw2.has hN nN
  have nN2 : ¬ O2 N := fun e => nN (fw2.same N hN.1 e)
  refine hK _ _ _ (C.seq fun K hK => ?_)
  simp only [↓opStep_eq, ↓reduceIte, ↓EW, EV, Nat.reduceAdd, Nat.reduceEqDiff, Int.reduceEq, Int.reduceLT, Int.reduceLE, Int.reduceNe, seqC, retC, skipC, exitC, blockC, condC, r5_17, t8, t14, load2 hN2]
  refine del_law L (n + 22) w2 x _ fun r h3 hq => ?_
  obtain ⟨l3, e3, w3, fw3, rfl, a3⟩ := hq
  have hl3 : l3.length ≤ l2.length ∧ ∀ e ∈ l3, e.1 ≠ x := by
    rcases a3 with ⟨h, _, _⟩ | ⟨_, h, rfl, _⟩ | ⟨_, _, rfl, _⟩
    · exact absurd hv h
    · exact ⟨Nat.le_refl _, h⟩
    · exact ⟨List.length_filter_le _ _, fun e he => (wo_mem.1 he).2⟩
  have hN3 := fw3.has hN2 nN2
  have nN3 : ¬ O2 N := nN2
  refine hK _ _ _ (C.seq fun K hK => ?_)
  simp only [↓opStep_eq, ↓reduceIte, ↓EW, EV, Nat.reduceAdd, Nat.reduceEqDiff, Int.reduceEq, Int.reduceLT, Int.reduceLE, Int.reduceNe, seqC, retC, skipC, exitC, blockC, condC, r5_18, t8, t14, load2 hN3]
  refine until_law L (n + 24) w3 x _ fun r h4 hq => ?_
  obtain ⟨k4, t4, e4, rfl, a4⟩ := hq
  obtain ⟨rfl, rfl⟩ : t4 = 0 ∧ e4 = 6 := by
    rcases a4 with ⟨h, _⟩ | ⟨_, _, h1, h2⟩ | ⟨_, u, h, _⟩
    · exact absurd hv h
    · exact ⟨h1, h2⟩
    · exact absurd rfl (hl3.2 _ h)
  simp only [↓opStep_eq, ↓reduceIte, ↓EW, EV, Nat.reduceAdd, Nat.reduceEqDiff, Int.reduceEq, Int.reduceLT, Int.reduceLE, Int.reduceNe, seqC, retC, skipC, exitC, blockC, condC, tupNth_tuple]
  have w4 := w3.keep0 k4
  have hN4 := hN3.keep0 k4
  refine hK _ _ _ (C.seq fun K hK => ?_)
  simp only [↓opStep_eq, ↓reduceIte, ↓EW, EV, Nat.reduceAdd, Nat.reduceEqDiff, Int.reduceEq, Int.reduceLT, Int.reduceLE, Int.reduceNe, seqC, retC, skipC, exitC, blockC, condC, r5_19, t14]
  refine tick_law L n hL w4 (by omega) 1099511627776 _ fun r h5 hq => ?_
  rcases hq with ⟨hbad, _⟩ | ⟨k, hk, _, _, v5, O5, ns5, rfl, tq5⟩
  · exfalso
    have := w4.1.hn
    unfold MAXT at this
    exact hbad ⟨by omega, by omega⟩
  simp only [↓opStep_eq, ↓reduceIte, ↓EW, EV, Nat.reduceAdd, Nat.reduceEqDiff, Int.reduceEq, Int.reduceLT, Int.reduceLE, Int.reduceNe, seqC, retC, skipC, exitC, blockC, condC, tupNth_tuple]
  have hx5 : x ∉ ns5 := fun hm => by
    obtain ⟨u, _, hu⟩ := (tq5.mem x).1 hm
    exact hl3.2 _ hu rfl
  have hlen5 : ns5.length ≤ 100000 := by
    have nd : ns5.Nodup := tq5.so.imp fun {a b} h e => by subst e; exact ltW_irr _ _ h
    have : ns5.length ≤ (l3.map (·.1)).length := List.Nodup.length_le_of_subset nd fun y hy => by
      obtain ⟨u, _, hu⟩ := (tq5.mem y).1 hy
      exact List.mem_map.2 ⟨_, hu, rfl⟩
    rw [List.length_map] at this
    omega
  refine hK _ _ _ (C.seq ?_)
  refine nofind_loop L (n + 27) hL (h0 := h0) tq5.sn (tq5.fw.has hN4 nN3) hx5 hlen5 (by simp only [↓opStep_eq, ↓reduceIte, ↓EW, EV, Nat.reduceAdd, Nat.reduceEqDiff, Int.reduceEq, Int.reduceLT, Int.reduceLE, Int.reduceNe, seqC, retC, skipC, exitC, blockC, condC, t8]) (by simp only [↓opStep_eq, ↓reduceIte, ↓EW, EV, Nat.reduceAdd, Nat.reduceEqDiff, Int.reduceEq, Int.reduceLT, Int.reduceLE, Int.reduceNe, seqC, retC, skipC, exitC, blockC, condC]) (by simp only [↓opStep_eq, ↓reduceIte, ↓EW, EV, Nat.reduceAdd, Nat.reduceEqDiff, Int.reduceEq, Int.reduceLT, Int.reduceLE, Int.reduceNe, seqC, retC, skipC, exitC, blockC, condC, t13]) (.int .i64 6) (by simp only [↓opStep_eq, ↓reduceIte, ↓EW, EV, Nat.reduceAdd, Nat.reduceEqDiff, Int.reduceEq, Int.reduceLT, Int.reduceLE, Int.reduceNe, seqC, retC, skipC, exitC, blockC, condC]) (.int .i64 0) (by simp only [↓opStep_eq, ↓reduceIte, ↓EW, EV, Nat.reduceAdd, Nat.reduceEqDiff, Int.reduceEq, Int.reduceLT, Int.reduceLE, Int.reduceNe, seqC, retC, skipC, exitC, blockC, condC]) _ fun tm6 h6 u13 u23 u25 => ?_
  refine C.seq fun K hK => ?_
  simp only [↓opStep_eq, ↓reduceIte, ↓EW, EV, Nat.reduceAdd, Nat.reduceEqDiff, Int.reduceEq, Int.reduceLT, Int.reduceLE, Int.reduceNe, seqC, retC, skipC, exitC, blockC, condC, Bool.true_or, Bool.false_or, Bool.or_true, Bool.or_false, Bool.true_and, Bool.false_and, Bool.and_true, Bool.and_false, r5_25, u13, u23, u25]
  exact hK _ _ _ (C.ret (hQ _ _ (by simp only [q5, ↓opStep_eq, ↓reduceIte, ↓EW, EV, Nat.reduceAdd, Nat.reduceEqDiff, Int.reduceEq, Int.reduceLT, Int.reduceLE, Int.reduceNe, seqC, retC, skipC, exitC, blockC, condC])))
end Go.Proofs.Ytpoedopdcpejmaa

namespace Go.Proofs.Ytpoedopdcpejmaa
open Go.Ev

theorem dv_far {P : Nat → Prop} {h : H} {v : Value} {ds : List Dd} (a : Dv P h v ds) {O : Nat → Prop} {h0 : H} (hO : ∀ c, O c → h.next ≤ c) (k : Keep nobody h h0) : Dv (fun c => ¬ O c) h0 v ds :=
  (a.mono (P' := fun c => ¬ O c) fun c hc _ e => by have := hO c e; omega).keep0 k

theorem again_law (L n : Nat) (hL : 300000 < L) {P : Nat → Prop} {h : H} {v : Value} {ds : List Dd} (a : Dv P h v ds) (now one two then_ : Int) (x : Nm) :
    Sp (CF L (n + 29)) 5 [.int .i64 now, v, x.v, .int .i64 one, .int .i64 two, .int .i64 then_] h fun r h' => r = .bool true := by
  refine Sp.body f5 (by simp) ?_
  unfold c5
  have k1 := Keep.new h (.rw [.int .i64 x.1, .string x.2])
  have b1 := Has.new h (.rw [.int .i64 x.1, .string x.2])
  refine C.seq fun K hK => ?_
  simp only [↓opStep_eq, ↓reduceIte, ↓EW, EV, Nat.reduceAdd, Nat.reduceEqDiff, Int.reduceEq, Int.reduceLT, Int.reduceLE, Int.reduceNe, seqC, retC, skipC, exitC, blockC, condC, r5_0, cells2]
  have a1 := a.keep0 k1
  generalize hN : h.next = N at *
  generalize h.new (.rw [.int .i64 x.1, .string x.2]) = h1 at *
  refine hK _ _ _ (C.seq fun K hK => ?_)
  simp only [↓opStep_eq, ↓reduceIte, ↓EW, EV, Nat.reduceAdd, Nat.reduceEqDiff, Int.reduceEq, Int.reduceLT, Int.reduceLE, Int.reduceNe, seqC, retC, skipC, exitC, blockC, condC, r5_1]
  refine alive_law L n hL h1 _ fun r h2 hq => ?_
  obtain ⟨rfl, k2⟩ := hq
  have a2 := a1.keep0 k2
  have b2 := b1.keep0 k2
  refine hK _ _ _ (C.seq (C.seq fun K hK => ?_))
  simp only [↓opStep_eq, ↓reduceIte, ↓EW, EV, Nat.reduceAdd, Nat.reduceEqDiff, Int.reduceEq, Int.reduceLT, Int.reduceLE, Int.reduceNe, seqC, retC, skipC, exitC, blockC, condC, r5_2]
  refine hK _ _ _ (C.cond false (by simp only [↓opStep_eq, ↓reduceIte, ↓EW, EV, Nat.reduceAdd, Nat.reduceEqDiff, Int.reduceEq, Int.reduceLT, Int.reduceLE, Int.reduceNe, seqC, retC, skipC, exitC, blockC, condC]) (fun g => by cases g) fun _ => C.skip (C.seq fun K hK => ?_))
  simp only [↓opStep_eq, ↓reduceIte, ↓EW, EV, Nat.reduceAdd, Nat.reduceEqDiff, Int.reduceEq, Int.reduceLT, Int.reduceLE, Int.reduceNe, seqC, retC, skipC, exitC, blockC, condC, r5_4]
  refine new_law L (n + 27) now h2 _ fun r h3 hq => ?_
  obtain ⟨k3, hnew⟩ := hq
  rcases hnew with ⟨hbad, rfl⟩ | ⟨t0, p1, O1, rfl, ht0, rfl, w1, fr1⟩
  · simp only [↓opStep_eq, ↓reduceIte, ↓EW, EV, Nat.reduceAdd, Nat.reduceEqDiff, Int.reduceEq, Int.reduceLT, Int.reduceLE, Int.reduceNe, seqC, retC, skipC, exitC, blockC, condC, tupNth_tuple]
    refine hK _ _ _ (C.seq fun K hK => ?_)
    simp only [↓opStep_eq, ↓reduceIte, ↓EW, EV, Nat.reduceAdd, Nat.reduceEqDiff, Int.reduceEq, Int.reduceLT, Int.reduceLE, Int.reduceNe, seqC, retC, skipC, exitC, blockC, condC, r5_5]
    refine new_law L (n + 27) now h3 _ fun r h4 hq => ?_
    obtain ⟨k4, hnew⟩ := hq
    rcases hnew with ⟨_, rfl⟩ | ⟨t0, p1, O1, rfl, ht0, _⟩
    · simp only [↓opStep_eq, ↓reduceIte, ↓EW, EV, Nat.reduceAdd, Nat.reduceEqDiff, Int.reduceEq, Int.reduceLT, Int.reduceLE, Int.reduceNe, seqC, retC, skipC, exitC, blockC, condC, tupNth_tuple]
      refine hK _ _ _ (C.seq (C.seq fun K hK => ?_))
      simp only [↓opStep_eq, ↓reduceIte, ↓EW, EV, Nat.reduceAdd, Nat.reduceEqDiff, Int.reduceEq, Int.reduceLT, Int.reduceLE, Int.reduceNe, seqC, retC, skipC, exitC, blockC, condC, Bool.true_or, Bool.false_or, Bool.or_true, Bool.or_false, Bool.true_and, Bool.false_and, Bool.and_true, Bool.and_false, r5_6]
      refine hK _ _ _ (C.cond true (by simp only [↓opStep_eq, ↓reduceIte, ↓EW, EV, Nat.reduceAdd, Nat.reduceEqDiff, Int.reduceEq, Int.reduceLT, Int.reduceLE, Int.reduceNe, seqC, retC, skipC, exitC, blockC, condC]) (fun _ => C.seq fun K hK => ?_) fun g => by cases g)
      simp only [↓opStep_eq, ↓reduceIte, ↓EW, EV, Nat.reduceAdd, Nat.reduceEqDiff, Int.reduceEq, Int.reduceLT, Int.reduceLE, Int.reduceNe, seqC, retC, skipC, exitC, blockC, condC, Bool.true_or, Bool.false_or, Bool.or_true, Bool.or_false, Bool.true_and, Bool.false_and, Bool.and_true, Bool.and_false, r5_7]
      exact hK _ _ _ (C.ret ⟨.inr rfl, _, rfl, by simp only [↓opStep_eq, ↓reduceIte, ↓EW, EV, Nat.reduceAdd, Nat.reduceEqDiff, Int.reduceEq, Int.reduceLT, Int.reduceLE, Int.reduceNe, seqC, retC, skipC, exitC, blockC, condC, resOf]⟩)
    · exact absurd ⟨by omega, by unfold MAXT at ht0; omega⟩ hbad
  simp only [↓opStep_eq, ↓reduceIte, ↓EW, EV, Nat.reduceAdd, Nat.reduceEqDiff, Int.reduceEq, Int.reduceLT, Int.reduceLE, Int.reduceNe, seqC, retC, skipC, exitC, blockC, condC, tupNth_tuple]
  refine hK _ _ _ (C.seq fun K hK => ?_)
  simp only [↓opStep_eq, ↓reduceIte, ↓EW, EV, Nat.reduceAdd, Nat.reduceEqDiff, Int.reduceEq, Int.reduceLT, Int.reduceLE, Int.reduceNe, seqC, retC, skipC, exitC, blockC, condC, r5_5]
  refine new_law L (n + 27) (t0 : Int) h3 _ fun r h4 hq => ?_
  obtain ⟨k4, hnew⟩ := hq
  rcases hnew with ⟨hbad, rfl⟩ | ⟨t0', p2, O2, ht, _, rfl, w2, fr2⟩
  · exact absurd ⟨by omega, by unfold MAXT at ht0; omega⟩ hbad
  obtain rfl : t0' = t0 := by omega
  simp only [↓opStep_eq, ↓reduceIte, ↓EW, EV, Nat.reduceAdd, Nat.reduceEqDiff, Int.reduceEq, Int.reduceLT, Int.reduceLE, Int.reduceNe, seqC, retC, skipC, exitC, blockC, condC, tupNth_tuple]
  have a4 : Dv P h4 v ds := (a2.keep0 k3).keep0 k4
  have b4 := (b2.keep0 k3).keep0 k4
  have two4 : Two h2 h4 O1 O2 p1 p2 t0' t0' [] [] := ⟨w1.keep0 k4, w2, fun c e1 e2 => by have := w1.lt e1; have := fr2 c e2; omega, k3.then k4, fr1, fun c e => by have := fr2 c e; have := k3.next; omega⟩
  refine hK _ _ _ (C.seq (C.seq fun K hK => ?_))
  simp only [↓opStep_eq, ↓reduceIte, ↓EW, EV, Nat.reduceAdd, Nat.reduceEqDiff, Int.reduceEq, Int.reduceLT, Int.reduceLE, Int.reduceNe, seqC, retC, skipC, exitC, blockC, condC, Bool.true_or, Bool.false_or, Bool.or_true, Bool.or_false, Bool.true_and, Bool.false_and, Bool.and_true, Bool.and_false, r5_6]
  refine small_law L (n + 27) hL a4 _ fun r h5 hq => ?_
  obtain ⟨c, rfl, hc, rfl⟩ := hq
  have early : ∀ (tm : T Value) (K : KE), tg tm 13 = .bool true → tg tm 15 = .int .i64 0 → tg tm 17 = .int .i64 0 → (∀ tm', q5.f tm' h5 = some [.bool true] → K .ret tm' [] h5 = true) → (seqC ⟨r5_7⟩ retC) (CF L (n + 28)) L tm [] h5 K = true := fun tm K u13 u15 u17 hK => by
    simp only [↓opStep_eq, ↓reduceIte, ↓EW, EV, Nat.reduceAdd, Nat.reduceEqDiff, Int.reduceEq, Int.reduceLT, Int.reduceLE, Int.reduceNe, seqC, retC, skipC, exitC, blockC, condC, Bool.true_or, Bool.false_or, Bool.or_true, Bool.or_false, Bool.true_and, Bool.false_and, Bool.and_true, Bool.and_false, r5_7, retC, u13, u15, u17]
    exact hK _ (by simp only [q5, ↓opStep_eq, ↓reduceIte, ↓EW, EV, Nat.reduceAdd, Nat.reduceEqDiff, Int.reduceEq, Int.reduceLT, Int.reduceLE, Int.reduceNe, seqC, retC, skipC, exitC, blockC, condC])
  have l4 : ∀ o s, loadOne h5 (.pointer (some ⟨N, o, s⟩)) = [.int .i64 x.1, .string x.2][o]? := fun o s => loadOne_has b4 rfl
  cases c with
  | false =>
    simp only [↓opStep_eq, ↓reduceIte, ↓EW, EV, Nat.reduceAdd, Nat.reduceEqDiff, Int.reduceEq, Int.reduceLT, Int.reduceLE, Int.reduceNe, seqC, retC, skipC, exitC, blockC, condC, Bool.true_or, Bool.false_or, Bool.or_true, Bool.or_false, Bool.true_and, Bool.false_and, Bool.and_true, Bool.and_false]
    refine hK _ _ _ (C.cond true (by simp only [↓opStep_eq, ↓reduceIte, ↓EW, EV, Nat.reduceAdd, Nat.reduceEqDiff, Int.reduceEq, Int.reduceLT, Int.reduceLE, Int.reduceNe, seqC, retC, skipC, exitC, blockC, condC]) (fun _ => fun K hK => ?_) fun g => by cases g)
    rw [show ∀ x : CodeT, (⟨x⟩ : Box CodeT).f = x from fun _ => rfl]
    refine early _ K ?_ ?_ ?_ fun tm' e => hK _ _ _ ⟨.inr rfl, _, e, rfl⟩
    · simp only [↓opStep_eq, ↓reduceIte, ↓EW, EV, Nat.reduceAdd, Nat.reduceEqDiff, Int.reduceEq, Int.reduceLT, Int.reduceLE, Int.reduceNe, seqC, retC, skipC, exitC, blockC, condC]
    · simp only [↓opStep_eq, ↓reduceIte, ↓EW, EV, Nat.reduceAdd, Nat.reduceEqDiff, Int.reduceEq, Int.reduceLT, Int.reduceLE, Int.reduceNe, seqC, retC, skipC, exitC, blockC, condC]
    · simp only [↓opStep_eq, ↓reduceIte, ↓EW, EV, Nat.reduceAdd, Nat.reduceEqDiff, Int.reduceEq, Int.reduceLT, Int.reduceLE, Int.reduceNe, seqC, retC, skipC, exitC, blockC, condC]
  | true =>
  have hds := hc rfl
  by_cases hk : ((10000 : Int) < (x.2.size : Int))
  · simp only [↓opStep_eq, ↓reduceIte, ↓EW, EV, Nat.reduceAdd, Nat.reduceEqDiff, Int.reduceEq, Int.reduceLT, Int.reduceLE, Int.reduceNe, seqC, retC, skipC, exitC, blockC, condC, Bool.true_or, Bool.false_or, Bool.or_true, Bool.or_false, Bool.true_and, Bool.false_and, Bool.and_true, Bool.and_false, l4, lenStr_string, hk]
    refine hK _ _ _ (C.cond true (by simp only [↓opStep_eq, ↓reduceIte, ↓EW, EV, Nat.reduceAdd, Nat.reduceEqDiff, Int.reduceEq, Int.reduceLT, Int.reduceLE, Int.reduceNe, seqC, retC, skipC, exitC, blockC, condC]) (fun _ => fun K hK => ?_) fun g => by cases g)
    rw [show ∀ x : CodeT, (⟨x⟩ : Box CodeT).f = x from fun _ => rfl]
    refine early _ K ?_ ?_ ?_ fun tm' e => hK _ _ _ ⟨.inr rfl, _, e, rfl⟩
    · simp only [↓opStep_eq, ↓reduceIte, ↓EW, EV, Nat.reduceAdd, Nat.reduceEqDiff, Int.reduceEq, Int.reduceLT, Int.reduceLE, Int.reduceNe, seqC, retC, skipC, exitC, blockC, condC]
    · simp only [↓opStep_eq, ↓reduceIte, ↓EW, EV, Nat.reduceAdd, Nat.reduceEqDiff, Int.reduceEq, Int.reduceLT, Int.reduceLE, Int.reduceNe, seqC, retC, skipC, exitC, blockC, condC]
    · simp only [↓opStep_eq, ↓reduceIte, ↓EW, EV, Nat.reduceAdd, Nat.reduceEqDiff, Int.reduceEq, Int.reduceLT, Int.reduceLE, Int.reduceNe, seqC, retC, skipC, exitC, blockC, condC]
  simp only [↓opStep_eq, ↓reduceIte, ↓EW, EV, Nat.reduceAdd, Nat.reduceEqDiff, Int.reduceEq, Int.reduceLT, Int.reduceLE, Int.reduceNe, seqC, retC, skipC, exitC, blockC, condC, Bool.true_or, Bool.false_or, Bool.or_true, Bool.or_false, Bool.true_and, Bool.false_and, Bool.and_true, Bool.and_false, l4, lenStr_string, hk]
  refine hK _ _ _ (C.cond false (by simp only [↓opStep_eq, ↓reduceIte, ↓EW, EV, Nat.reduceAdd, Nat.reduceEqDiff, Int.reduceEq, Int.reduceLT, Int.reduceLE, Int.reduceNe, seqC, retC, skipC, exitC, blockC, condC]) (fun g => by cases g) fun _ => C.skip (C.seq fun K hK => ?_))
  -- the names are added to both
  simp only [↓opStep_eq, ↓reduceIte, ↓EW, EV, Nat.reduceAdd, Nat.reduceEqDiff, Int.reduceEq, Int.reduceLT, Int.reduceLE, Int.reduceNe, seqC, retC, skipC, exitC, blockC, condC, r5_8]
  refine add11_law L (n + 21) hL two4.w1 (dv_far a2 two4.lo1 two4.k) hds _ fun r h6 hq => ?_
  obtain ⟨O3, q6⟩ := hq
  have two6 := two4.step q6.wh q6.fw
  have hN2 : N < h2.next := b2.1
  refine hK _ _ _ (C.seq fun K hK => ?_)
  simp only [↓opStep_eq, ↓reduceIte, ↓EW, EV, Nat.reduceAdd, Nat.reduceEqDiff, Int.reduceEq, Int.reduceLT, Int.reduceLE, Int.reduceNe, seqC, retC, skipC, exitC, blockC, condC, r5_9]
  refine add11_law L (n + 21) hL two6.w2 (dv_far a2 two6.lo2 two6.k) hds _ fun r h7 hq => ?_
  obtain ⟨O4, q7⟩ := hq
  have two7 := (two6.sym.step q7.wh q7.fw).sym
  have hes : (addF t0' ds).length ≤ 200 := Nat.le_trans (addF_len _ _) hds
  generalize addF t0' ds = es at *
  have nameAt : ∀ {hz : H}, Keep nobody h2 hz → Has hz N (.rw [.int .i64 x.1, .string x.2]) := fun k => b2.keep0 k
  refine hK _ _ _ (C.seq (C.seq fun K hK => ?_))
  -- what was so far
  have done : ∀ (tm : T Value) (hz : H) (K : KE), tg tm 13 = .bool true → (∀ tm', q5.f tm' hz = some [.bool true] → K .ret tm' [] hz = true) → (seqC ⟨r5_11⟩ retC) (CF L (n + 28)) L tm [] hz K = true := fun tm hz K u13 hK => by
    simp only [↓opStep_eq, ↓reduceIte, ↓EW, EV, Nat.reduceAdd, Nat.reduceEqDiff, Int.reduceEq, Int.reduceLT, Int.reduceLE, Int.reduceNe, seqC, retC, skipC, exitC, blockC, condC, r5_11, retC, u13]
    exact hK _ (by simp only [q5, ↓opStep_eq, ↓reduceIte, ↓EW, EV, Nat.reduceAdd, Nat.reduceEqDiff, Int.reduceEq, Int.reduceLT, Int.reduceLE, Int.reduceNe, seqC, retC, skipC, exitC, blockC, condC])
  have ld7 := load2 (nameAt two7.k)
  simp only [↓opStep_eq, ↓reduceIte, ↓EW, EV, Nat.reduceAdd, Nat.reduceEqDiff, Int.reduceEq, Int.reduceLT, Int.reduceLE, Int.reduceNe, seqC, retC, skipC, exitC, blockC, condC, Bool.true_or, Bool.false_or, Bool.or_true, Bool.or_false, Bool.true_and, Bool.false_and, Bool.and_true, Bool.and_false, r5_10, ld7]
  refine add_law L (n + 22) two7.w1 x one _ fun r h8 hq => ?_
  obtain ⟨O5, l8, e8, w8, fw8, rfl, a8⟩ := hq
  have two8 := two7.step w8 fw8
  have ld8 := load2 (nameAt two8.k)
  rcases a8 with ⟨_, _, rfl⟩ | ⟨_, _, _, rfl⟩ | ⟨hv, ka, rfl, hka1, hka2, rfl, rfl⟩
  · simp only [↓opStep_eq, ↓reduceIte, ↓EW, EV, Nat.reduceAdd, Nat.reduceEqDiff, Int.reduceEq, Int.reduceLT, Int.reduceLE, Int.reduceNe, seqC, retC, skipC, exitC, blockC, condC, Bool.true_or, Bool.false_or, Bool.or_true, Bool.or_false, Bool.true_and, Bool.false_and, Bool.and_true, Bool.and_false]
    refine hK _ _ _ (C.cond true (by simp only [↓opStep_eq, ↓reduceIte, ↓EW, EV, Nat.reduceAdd, Nat.reduceEqDiff, Int.reduceEq, Int.reduceLT, Int.reduceLE, Int.reduceNe, seqC, retC, skipC, exitC, blockC, condC]) (fun _ => fun K hK => ?_) fun g => by cases g)
    exact done _ h8 K (by simp only [↓opStep_eq, ↓reduceIte, ↓EW, EV, Nat.reduceAdd, Nat.reduceEqDiff, Int.reduceEq, Int.reduceLT, Int.reduceLE, Int.reduceNe, seqC, retC, skipC, exitC, blockC, condC]) fun tm' e => hK _ _ _ ⟨.inr rfl, _, e, rfl⟩
  · simp only [↓opStep_eq, ↓reduceIte, ↓EW, EV, Nat.reduceAdd, Nat.reduceEqDiff, Int.reduceEq, Int.reduceLT, Int.reduceLE, Int.reduceNe, seqC, retC, skipC, exitC, blockC, condC, Bool.true_or, Bool.false_or, Bool.or_true, Bool.or_false, Bool.true_and, Bool.false_and, Bool.and_true, Bool.and_false]
    refine hK _ _ _ (C.cond true (by simp only [↓opStep_eq, ↓reduceIte, ↓EW, EV, Nat.reduceAdd, Nat.reduceEqDiff, Int.reduceEq, Int.reduceLT, Int.reduceLE, Int.reduceNe, seqC, retC, skipC, exitC, blockC, condC]) (fun _ => fun K hK => ?_) fun g => by cases g)
    exact done _ h8 K (by simp only [↓opStep_eq, ↓reduceIte, ↓EW, EV, Nat.reduceAdd, Nat.reduceEqDiff, Int.reduceEq, Int.reduceLT, Int.reduceLE, Int.reduceNe, seqC, retC, skipC, exitC, blockC, condC]) fun tm' e => hK _ _ _ ⟨.inr rfl, _, e, rfl⟩
  simp only [↓opStep_eq, ↓reduceIte, ↓EW, EV, Nat.reduceAdd, Nat.reduceEqDiff, Int.reduceEq, Int.reduceLT, Int.reduceLE, Int.reduceNe, seqC, retC, skipC, exitC, blockC, condC, Bool.true_or, Bool.false_or, Bool.or_true, Bool.or_false, Bool.true_and, Bool.false_and, Bool.and_true, Bool.and_false, ld8]
  refine add_law L (n + 22) two8.w1 x two _ fun r h9 hq => ?_
  obtain ⟨O6, l9, e9, w9, fw9, rfl, a9⟩ := hq
  have two9 := two8.step w9 fw9
  have ld9 := load2 (nameAt two9.k)
  rcases a9 with ⟨_, _, rfl⟩ | ⟨_, _, _, rfl⟩ | ⟨_, kb, rfl, hkb1, hkb2, rfl, rfl⟩
  · simp only [↓opStep_eq, ↓reduceIte, ↓EW, EV, Nat.reduceAdd, Nat.reduceEqDiff, Int.reduceEq, Int.reduceLT, Int.reduceLE, Int.reduceNe, seqC, retC, skipC, exitC, blockC, condC, Bool.true_or, Bool.false_or, Bool.or_true, Bool.or_false, Bool.true_and, Bool.false_and, Bool.and_true, Bool.and_false]
    refine hK _ _ _ (C.cond true (by simp only [↓opStep_eq, ↓reduceIte, ↓EW, EV, Nat.reduceAdd, Nat.reduceEqDiff, Int.reduceEq, Int.reduceLT, Int.reduceLE, Int.reduceNe, seqC, retC, skipC, exitC, blockC, condC]) (fun _ => fun K hK => ?_) fun g => by cases g)
    exact done _ h9 K (by simp only [↓opStep_eq, ↓reduceIte, ↓EW, EV, Nat.reduceAdd, Nat.reduceEqDiff, Int.reduceEq, Int.reduceLT, Int.reduceLE, Int.reduceNe, seqC, retC, skipC, exitC, blockC, condC]) fun tm' e => hK _ _ _ ⟨.inr rfl, _, e, rfl⟩
  · simp only [↓opStep_eq, ↓reduceIte, ↓EW, EV, Nat.reduceAdd, Nat.reduceEqDiff, Int.reduceEq, Int.reduceLT, Int.reduceLE, Int.reduceNe, seqC, retC, skipC, exitC, blockC, condC, Bool.true_or, Bool.false_or, Bool.or_true, Bool.or_false, Bool.true_and, Bool.false_and, Bool.and_true, Bool.and_false]
    refine hK _ _ _ (C.cond true (by simp only [↓opStep_eq, ↓reduceIte, ↓EW, EV, Nat.reduceAdd, Nat.reduceEqDiff, Int.reduceEq, Int.reduceLT, Int.reduceLE, Int.reduceNe, seqC, retC, skipC, exitC, blockC, condC]) (fun _ => fun K hK => ?_) fun g => by cases g)
    exact done _ h9 K (by simp only [↓opStep_eq, ↓reduceIte, ↓EW, EV, Nat.reduceAdd, Nat.reduceEqDiff, Int.reduceEq, Int.reduceLT, Int.reduceLE, Int.reduceNe, seqC, retC, skipC, exitC, blockC, condC]) fun tm' e => hK _ _ _ ⟨.inr rfl, _, e, rfl⟩
  simp only [↓opStep_eq, ↓reduceIte, ↓EW, EV, Nat.reduceAdd, Nat.reduceEqDiff, Int.reduceEq, Int.reduceLT, Int.reduceLE, Int.reduceNe, seqC, retC, skipC, exitC, blockC, condC, Bool.true_or, Bool.false_or, Bool.or_true, Bool.or_false, Bool.true_and, Bool.false_and, Bool.and_true, Bool.and_false, ld9]
  refine add_law L (n + 22) two9.w2 x (kb : Int) _ fun r h10 hq => ?_
  obtain ⟨O7, l10, e10, w10, fw10, rfl, a10⟩ := hq
  have two10 := (two9.sym.step w10 fw10).sym
  obtain ⟨rfl, rfl⟩ := AddR.ok (u := kb) a10 hv hkb1 hkb2
  simp only [↓opStep_eq, ↓reduceIte, ↓EW, EV, Nat.reduceAdd, Nat.reduceEqDiff, Int.reduceEq, Int.reduceLT, Int.reduceLE, Int.reduceNe, seqC, retC, skipC, exitC, blockC, condC, Bool.true_or, Bool.false_or, Bool.or_true, Bool.or_false, Bool.true_and, Bool.false_and, Bool.and_true, Bool.and_false]
  refine hK _ _ _ (C.cond false (by simp only [↓opStep_eq, ↓reduceIte, ↓EW, EV, Nat.reduceAdd, Nat.reduceEqDiff, Int.reduceEq, Int.reduceLT, Int.reduceLE, Int.reduceNe, seqC, retC, skipC, exitC, blockC, condC]) (fun g => by cases g) fun _ => C.skip (C.seq fun K hK => ?_))
  have hw12 : (x, kb) :: wo ((x, ka) :: wo es x) x = (x, kb) :: wo es x := by rw [wo_wo]
  have two11 : Two h2 h10 O6 O7 p1 p2 t0' t0' ((x, kb) :: wo es x) ((x, kb) :: wo es x) := by
    have := two10
    rw [hw12] at this
    exact this
  have hll : ((x, kb) :: wo es x).length ≤ 30000 := by
    have : (wo es x).length ≤ es.length := List.length_filter_le _ _
    simp only [List.length_cons]; omega
  generalize (x, kb) :: wo es x = l at *
  -- both go on
  simp only [↓opStep_eq, ↓reduceIte, ↓EW, EV, Nat.reduceAdd, Nat.reduceEqDiff, Int.reduceEq, Int.reduceLT, Int.reduceLE, Int.reduceNe, seqC, retC, skipC, exitC, blockC, condC, r5_12]
  refine tick_law L (n + 1) hL two11.w1 (by omega) then_ _ fun r h12 hq => ?_
  have finish : ∀ (hz : H) (tm : T Value) (Oz : Nat → Prop) (nz : Nat) (lz : List En) (O2z : Nat → Prop) (n2z : Nat) (l2z : List En) (K : KE), Two h2 hz Oz O2z p1 p2 nz n2z lz l2z → lz.length ≤ 40000 → tg tm 8 = .pointer (some ⟨N, 0, none⟩) → tg tm 14 = .pointer (some ⟨p1, 0, none⟩) → tg tm 13 = .bool true → (∀ tm' h', q5.f tm' h' = some [.bool true] → K .ret tm' [] h' = true) → (seqC ⟨r5_16⟩ ⟨seqC ⟨r5_17⟩ ⟨seqC ⟨r5_18⟩ ⟨seqC ⟨r5_19⟩ ⟨seqC ⟨seqC ⟨r5_20⟩ ⟨blockC 0 (loopB l5_25)⟩⟩ ⟨seqC ⟨r5_25⟩ retC⟩⟩⟩⟩⟩) (CF L (n + 28)) L tm [] hz K = true := fun hz tm Oz nz lz O2z n2z l2z K tw hlz u8 u14 u13 hK => by
    refine again_tail L (n + 1) hL (h0 := h2) tw.w1 hlz (nameAt tw.k) (fun e => by have := tw.lo1 N e; omega) hv u8 u14 u13 (fun e tm' h' => K e tm' [] h' = true) hK K fun _ _ _ h => h
  rcases hq with ⟨hbad, rfl, rfl⟩ | ⟨k, rfl, hk1, hk2, v12, O8, ns12, rfl, tq12⟩
  · simp only [↓opStep_eq, ↓reduceIte, ↓EW, EV, Nat.reduceAdd, Nat.reduceEqDiff, Int.reduceEq, Int.reduceLT, Int.reduceLE, Int.reduceNe, seqC, retC, skipC, exitC, blockC, condC, tupNth_tuple]
    refine hK _ _ _ (C.seq fun K hK => ?_)
    simp only [↓opStep_eq, ↓reduceIte, ↓EW, EV, Nat.reduceAdd, Nat.reduceEqDiff, Int.reduceEq, Int.reduceLT, Int.reduceLE, Int.reduceNe, seqC, retC, skipC, exitC, blockC, condC, r5_13]
    refine tick_law L (n + 1) hL two11.w2 (by omega) then_ _ fun r h13 hq => ?_
    rcases hq with ⟨_, rfl, rfl⟩ | ⟨k, rfl, hk1, hk2, _⟩
    · simp only [↓opStep_eq, ↓reduceIte, ↓EW, EV, Nat.reduceAdd, Nat.reduceEqDiff, Int.reduceEq, Int.reduceLT, Int.reduceLE, Int.reduceNe, seqC, retC, skipC, exitC, blockC, condC, tupNth_tuple]
      refine hK _ _ _ (C.seq (C.seq fun K hK => ?_))
      simp only [↓opStep_eq, ↓reduceIte, ↓EW, EV, Nat.reduceAdd, Nat.reduceEqDiff, Int.reduceEq, Int.reduceLT, Int.reduceLE, Int.reduceNe, seqC, retC, skipC, exitC, blockC, condC, Bool.true_or, Bool.false_or, Bool.or_true, Bool.or_false, Bool.true_and, Bool.false_and, Bool.and_true, Bool.and_false, r5_14]
      have nl : Rl h13 (.slice none 0 0) [] := ⟨rfl, fun h' k i x hx => by simp at hx⟩
      refine same_rl L (n + 27) nl nl hL (by simp) _ fun r h14 hq => ?_
      obtain ⟨rfl, k14⟩ := hq
      simp only [↓opStep_eq, ↓reduceIte, ↓EW, EV, Nat.reduceAdd, Nat.reduceEqDiff, Int.reduceEq, Int.reduceLT, Int.reduceLE, Int.reduceNe, seqC, retC, skipC, exitC, blockC, condC, Bool.true_or, Bool.false_or, Bool.or_true, Bool.or_false, Bool.true_and, Bool.false_and, Bool.and_true, Bool.and_false]
      refine hK _ _ _ (C.cond false (by simp only [↓opStep_eq, ↓reduceIte, ↓EW, EV, Nat.reduceAdd, Nat.reduceEqDiff, Int.reduceEq, Int.reduceLT, Int.reduceLE, Int.reduceNe, seqC, retC, skipC, exitC, blockC, condC]) (fun g => by cases g) fun _ => C.skip fun K hK => ?_)
      exact finish h14 _ O6 _ l O7 _ l K (two11.keep0 k14) (by omega) (by simp only [↓opStep_eq, ↓reduceIte, ↓EW, EV, Nat.reduceAdd, Nat.reduceEqDiff, Int.reduceEq, Int.reduceLT, Int.reduceLE, Int.reduceNe, seqC, retC, skipC, exitC, blockC, condC]) (by simp only [↓opStep_eq, ↓reduceIte, ↓EW, EV, Nat.reduceAdd, Nat.reduceEqDiff, Int.reduceEq, Int.reduceLT, Int.reduceLE, Int.reduceNe, seqC, retC, skipC, exitC, blockC, condC]) (by simp only [↓opStep_eq, ↓reduceIte, ↓EW, EV, Nat.reduceAdd, Nat.reduceEqDiff, Int.reduceEq, Int.reduceLT, Int.reduceLE, Int.reduceNe, seqC, retC, skipC, exitC, blockC, condC]) fun tm' h' e => hK _ _ _ ⟨.inr rfl, _, e, rfl⟩
    · exact absurd ⟨by omega, by unfold MAXT at hk2; omega⟩ hbad
  · simp only [↓opStep_eq, ↓reduceIte, ↓EW, EV, Nat.reduceAdd, Nat.reduceEqDiff, Int.reduceEq, Int.reduceLT, Int.reduceLE, Int.reduceNe, seqC, retC, skipC, exitC, blockC, condC, tupNth_tuple]
    have two12 := two11.step tq12.wh tq12.fw
    refine hK _ _ _ (C.seq fun K hK => ?_)
    simp only [↓opStep_eq, ↓reduceIte, ↓EW, EV, Nat.reduceAdd, Nat.reduceEqDiff, Int.reduceEq, Int.reduceLT, Int.reduceLE, Int.reduceNe, seqC, retC, skipC, exitC, blockC, condC, r5_13]
    refine tick_law L (n + 1) hL two12.w2 (by omega) (k : Int) _ fun r h13 hq => ?_
    rcases hq with ⟨hbad, rfl, rfl⟩ | ⟨k', hk', _, _, v13, O9, ns13, rfl, tq13⟩
    · exact absurd ⟨by omega, by unfold MAXT at hk2; omega⟩ hbad
    obtain rfl : k' = k := by omega
    have two13 := (two12.sym.step tq13.wh tq13.fw).sym
    have ens : ns13 = ns12 := WI.same_tick (now := 0) tq12 tq13
    subst ens
    have sn12 : Sn (fun c => ¬ O7 c) h13 v12 ns13 := (tq12.sn.mono (P' := fun c => ¬ O7 c) fun c hc p e => by have := two11.w2.lt e; have := p.1; omega).keep tq13.fw.keep fun c e p => p e
    have hlen : ns13.length ≤ 100000 := by
      have nd : ns13.Nodup := tq13.so.imp fun {a b} h e => by subst e; exact ltW_irr _ _ h
      have : ns13.length ≤ (l.map (·.1)).length := List.Nodup.length_le_of_subset nd fun y hy => by
        obtain ⟨u, _, hu⟩ := (tq13.mem y).1 hy
        exact List.mem_map.2 ⟨_, hu, rfl⟩
      rw [List.length_map] at this
      omega
    simp only [↓opStep_eq, ↓reduceIte, ↓EW, EV, Nat.reduceAdd, Nat.reduceEqDiff, Int.reduceEq, Int.reduceLT, Int.reduceLE, Int.reduceNe, seqC, retC, skipC, exitC, blockC, condC, tupNth_tuple]
    refine hK _ _ _ (C.seq (C.seq fun K hK => ?_))
    simp only [↓opStep_eq, ↓reduceIte, ↓EW, EV, Nat.reduceAdd, Nat.reduceEqDiff, Int.reduceEq, Int.reduceLT, Int.reduceLE, Int.reduceNe, seqC, retC, skipC, exitC, blockC, condC, Bool.true_or, Bool.false_or, Bool.or_true, Bool.or_false, Bool.true_and, Bool.false_and, Bool.and_true, Bool.and_false, r5_14]
    refine same_rl L (n + 27) sn12.rl tq13.sn.rl hL hlen _ fun r h14 hq => ?_
    obtain ⟨rfl, k14⟩ := hq
    simp only [↓opStep_eq, ↓reduceIte, ↓EW, EV, Nat.reduceAdd, Nat.reduceEqDiff, Int.reduceEq, Int.reduceLT, Int.reduceLE, Int.reduceNe, seqC, retC, skipC, exitC, blockC, condC, Bool.true_or, Bool.false_or, Bool.or_true, Bool.or_false, Bool.true_and, Bool.false_and, Bool.and_true, Bool.and_false]
    refine hK _ _ _ (C.cond false (by simp only [↓opStep_eq, ↓reduceIte, ↓EW, EV, Nat.reduceAdd, Nat.reduceEqDiff, Int.reduceEq, Int.reduceLT, Int.reduceLE, Int.reduceNe, seqC, retC, skipC, exitC, blockC, condC]) (fun g => by cases g) fun _ => C.skip fun K hK => ?_)
    have hfl : (l.filter fun e => decide (k' < e.2)).length ≤ l.length := List.length_filter_le _ _
    exact finish h14 _ O8 _ _ O9 _ _ K (two13.keep0 k14) (Nat.le_trans hfl (by omega)) (by simp only [↓opStep_eq, ↓reduceIte, ↓EW, EV, Nat.reduceAdd, Nat.reduceEqDiff, Int.reduceEq, Int.reduceLT, Int.reduceLE, Int.reduceNe, seqC, retC, skipC, exitC, blockC, condC]) (by simp only [↓opStep_eq, ↓reduceIte, ↓EW, EV, Nat.reduceAdd, Nat.reduceEqDiff, Int.reduceEq, Int.reduceLT, Int.reduceLE, Int.reduceNe, seqC, retC, skipC, exitC, blockC, condC]) (by simp only [↓opStep_eq, ↓reduceIte, ↓EW, EV, Nat.reduceAdd, Nat.reduceEqDiff, Int.reduceEq, Int.reduceLT, Int.reduceLE, Int.reduceNe, seqC, retC, skipC, exitC, blockC, condC]) fun tm' h' e => hK _ _ _ ⟨.inr rfl, _, e, rfl⟩
end Go.Proofs.Ytpoedopdcpejmaa

set_option maxRecDepth 100000
namespace Go.Proofs.Ytpoedopdcpejmaa
open Go.Ev Go.RowKit Go.ChangeShapes

theorem w22 : Try.prog.underlying 22 = some (.slice 41) := by kernel_rfl
theorem w41 : Try.prog.underlying 41 = some (.struct (fieldsOf Try.prog 41)) := by kernel_rfl
theorem n41 : (fieldsOf Try.prog 41).toList.map (fun f => (f.type, f.offset)) = [(39, 0), (3, 2)] := by kernel_rfl
theorem z41 : Try.prog.cellsOf 41 = 3 := by kernel_rfl
theorem w39 : Try.prog.underlying 39 = some (.struct (fieldsOf Try.prog 39)) := by kernel_rfl
theorem n39 : (fieldsOf Try.prog 39).toList.map (fun f => (f.type, f.offset)) = [(3, 0), (9, 1)] := by kernel_rfl
theorem z39 : Try.prog.cellsOf 39 = 2 := by kernel_rfl
theorem w3 : Try.prog.underlying 3 = some (.int .i64) := by kernel_rfl
theorem w9 : Try.prog.underlying 9 = some .string := by kernel_rfl
theorem z3 : Try.prog.cellsOf 3 = 1 := by kernel_rfl
theorem z9 : Try.prog.cellsOf 9 = 1 := by kernel_rfl
theorem gor : NoGor Try.prog := noGor_of (by kernel_rfl)
theorem xok : XOK Try.prog outside := xok_cons Try.func56 (by kernel_rfl) (by kernel_rfl) (by kernel_rfl) xok_nil
theorem slice_of {v : Value} {p : Option Addr} {l c : Nat} (e : v.cells.toList = [.slice p l c]) : v = .slice p l c ∨ ∃ a, v = .agg a := by
  cases v with
  | agg a => exact .inr ⟨a, rfl⟩
  | slice p' l' c' => exact .inl (by have : [Value.slice p' l' c'] = [.slice p l c] := e; simpa using this)
  | bool => exact absurd e (by intro h; have := List.head_eq_of_cons_eq h; cases this)
  | _ => exact absurd e (by intro h; have := List.head_eq_of_cons_eq h; cases this)
theorem int_of {v : Value} {k : IntKind} {z : Int} (e : v.cells.toList = [.int k z]) : v = .int k z ∨ ∃ a, v = .agg a := by
  cases v with
  | agg a => exact .inr ⟨a, rfl⟩
  | int k' z' => exact .inl (by have : [Value.int k' z'] = [.int k z] := e; simpa using this)
  | bool => exact absurd e (by intro h; have := List.head_eq_of_cons_eq h; cases this)
  | _ => exact absurd e (by intro h; have := List.head_eq_of_cons_eq h; cases this)

theorem cellsD_in : ∀ (l : List Dd) (j : Nat) (v : Value), (cellsD l)[j]? = some v → ∃ (i k : Nat) (x : Dd), l[i]? = some x ∧ j = i * 3 + k ∧ k < 3 ∧ [Value.int .i64 x.1.1, .string x.1.2, .int .i64 x.2][k]? = some v
  | [], j, v, h => by simp [cellsD] at h
  | x :: l, j, v, h => by
    have e : cellsD (x :: l) = [Value.int .i64 x.1.1, .string x.1.2, .int .i64 x.2] ++ cellsD l := rfl
    rw [e] at h
    by_cases hj : j < 3
    · rw [List.getElem?_append_left (by simpa using hj)] at h
      exact ⟨0, j, x, rfl, by omega, hj, h⟩
    · rw [List.getElem?_append_right (by simp; omega)] at h
      obtain ⟨i, k, y, h1, h2, h3, h4⟩ := cellsD_in l _ v h
      simp only [List.length_cons, List.length_nil] at h2
      exact ⟨i + 1, k, y, by simpa using h1, by omega, h3, h4⟩
theorem dd_cst {x : Dd} {k : Nat} {v : Value} (h : [Value.int .i64 x.1.1, .string x.1.2, .int .i64 x.2][k]? = some v) : cstOk v = true := by
  have := List.mem_of_getElem? h
  simp only [List.mem_cons, List.not_mem_nil, or_false] at this
  rcases this with rfl | rfl | rfl <;> rfl

section
variable {H : Type} {enc : TypeId × Value → H}
theorem open_due {w : World} {base : Nat} {sp : Nat → Bool} {held : Bool} {n : Nat} {cs : List Value} {x : DataW H × List MemPlace} (h : DataW.trod enc Try.prog w base sp held n 41 cs = some x) : ∃ d : Dd, cs = [Value.int .i64 d.1.1, .string d.1.2, .int .i64 d.2] := by
  obtain ⟨hl, hf⟩ := trod_fields w41 n41 h
  rw [z41] at hl
  rcases cs with _ | ⟨c0, _ | ⟨c1, _ | ⟨c2, _ | ⟨c3, r⟩⟩⟩⟩ <;> simp at hl
  obtain ⟨m1, y1, h1⟩ := hf 0 39 0 rfl
  obtain ⟨m2, y2, h2⟩ := hf 1 3 2 rfl
  rw [z39] at h1
  rw [z3] at h2
  obtain ⟨hl2, hf2⟩ := trod_fields w39 n39 h1
  obtain ⟨k0, x0, g0⟩ := hf2 0 3 0 rfl
  obtain ⟨k1, x1, g1⟩ := hf2 1 9 1 rfl
  rw [z3] at g0
  rw [z9] at g1
  obtain ⟨t, e1, _, _⟩ := DataW.trod_int w3 g0
  obtain ⟨k, e2, _, _⟩ := DataW.trod_string w9 g1
  obtain ⟨xx, e3, _, _⟩ := DataW.trod_int w3 h2
  simp at e1 e2 e3
  subst e1 e2 e3
  exact ⟨((t, k), xx), rfl⟩
theorem int_at {W : World} {n : Nat} {v : Value} {x : DataW H × List MemPlace} (hok : Value.okWide Try.prog W .any 0 3 v) (h : DataW.trod enc Try.prog W 0 (fun _ => true) true n 3 v.cells.toList = some x) : ∃ z, v = .int .i64 z := by
  have hok2 : Cell.ok Try.prog W .any 0 3 v := by
    unfold Value.okWide at hok
    rw [w3] at hok
    unfold Cell.okWide at hok
    rw [w3] at hok
    exact hok
  obtain ⟨z, e, _, _⟩ := DataW.trod_int w3 h
  rcases int_of e with h | ⟨a, rfl⟩
  · exact ⟨z, h⟩
  · exfalso; unfold Cell.ok at hok2; rw [w3] at hok2; exact hok2
theorem name_at {W : World} {n : Nat} {v : Value} {x : DataW H × List MemPlace} (hok : Value.okWide Try.prog W .any 0 39 v) (h : DataW.trod enc Try.prog W 0 (fun _ => true) true n 39 v.cells.toList = some x) : ∃ y : Nm, ∀ σ : Sg, VR σ y.v v := by
  unfold Value.okWide at hok
  rw [w39] at hok
  obtain ⟨cs, rfl, hsz, _⟩ := hok
  obtain ⟨hl2, hf2⟩ := trod_fields w39 n39 h
  obtain ⟨k0, x0, g0⟩ := hf2 0 3 0 rfl
  obtain ⟨k1, x1, g1⟩ := hf2 1 9 1 rfl
  rw [z3] at g0
  rw [z9] at g1
  rw [z39] at hl2
  simp only [cells_agg] at hl2 g0 g1
  obtain ⟨l⟩ := cs
  simp only at hl2 g0 g1
  rcases l with _ | ⟨c0, _ | ⟨c1, _ | ⟨c2, r⟩⟩⟩ <;> simp at hl2
  obtain ⟨t, e1, _, _⟩ := DataW.trod_int w3 g0
  obtain ⟨k, e2, _, _⟩ := DataW.trod_string w9 g1
  simp at e1 e2
  subst e1 e2
  refine ⟨(t, k), fun σ => ?_⟩
  have hl : LR σ [Value.int .i64 t, .string k] [Value.int .i64 t, .string k] := .cons (.int _ _) (.cons (.string _) (.nil _))
  exact .agg _ _ rfl fun i x y hx hy => hl.2 i x y (by simpa using hx) (by simpa using hy)

/-- names with moments that lie in memory, as the evaluator has them -/
theorem dues_at {W : World} {n : Nat} {v : Value} {x : DataW H × List MemPlace} (hok : Value.okWide Try.prog W .any 0 22 v) (h : DataW.trod enc Try.prog W 0 (fun _ => true) true n 22 v.cells.toList = some x) :
    ∃ o : Option (List Value × CB), (∀ p, o = some p → RosOk W p) ∧ ∀ (B : Nat) (σ : Sg) (h0 : Ev.H), (∀ p, o = some p → Has h0 B (.ro p.1) ∧ σ B = some p.2) → ∃ (v' : Value) (l : List Dd), Dv (fun _ => True) h0 v' l ∧ VR σ v' v := by
  have hok2 : Cell.ok Try.prog W .any 0 22 v := by
    unfold Value.okWide at hok
    rw [w22] at hok
    unfold Cell.okWide at hok
    rw [w22] at hok
    exact hok
  rcases DataW.trod_slice w22 h with ⟨e, _⟩ | ⟨a, len, cap, elems, rest, m', _, e, _, _, hlc, hcm, hlen, hel, _, _⟩
  · have hv : v = .slice none 0 0 := by
      rcases slice_of e with h | ⟨a, rfl⟩
      · exact h
      · exfalso; unfold Cell.ok at hok2; rw [w22] at hok2; exact hok2
    subst hv
    exact ⟨none, (fun p h => by cases h), fun B σ h0 _ => ⟨.slice none 0 0, [], .inl ⟨rfl, rfl⟩, .slNil _ _⟩⟩
  · have hv : v = .slice (some a) len cap := by
      rcases slice_of e with h | ⟨a, rfl⟩
      · exact h
      · exfalso; unfold Cell.ok at hok2; rw [w22] at hok2; exact hok2
    subst hv
    unfold Cell.ok at hok2
    rw [w22] at hok2
    obtain ⟨_, _, _, hspot, row, cells, hshape, _⟩ := hok2
    have hblk : a.block < W.heap.size := by
      unfold World.shape? at hshape
      split at hshape
      · rename_i c el _ hh
        exact (Array.getElem?_eq_some_iff.1 hh).1
      · cases hshape
    have hone : ∀ i : Fin len, ∃ d : Dd, W.cells? 0 (a.add (i.val * 3)) 3 = some [Value.int .i64 d.1.1, .string d.1.2, .int .i64 d.2] := fun i => by
      have h1 := hel i.val i.isLt
      rw [z41, List.getElem?_eq_getElem (by omega)] at h1
      simp only [Option.bind_eq_some_iff] at h1
      obtain ⟨c5, h2, h3⟩ := h1
      obtain ⟨d, rfl⟩ := open_due h3
      exact ⟨d, h2⟩
    obtain ⟨f, hf⟩ := Classical.axiomOfChoice hone
    let l := List.ofFn f
    have hil : l.length = len := by simp [l]
    have hit : ∀ (i : Nat) (x : Dd), l[i]? = some x → ∀ k, k < 3 → W.cell? ⟨a.block, a.off + (i * 3 + k), none⟩ = [Value.int .i64 x.1.1, .string x.1.2, .int .i64 x.2][k]? := fun i x hx => by
      have hlt : i < len := by
        by_cases hlt : i < len
        · exact hlt
        · rw [List.getElem?_eq_none (by omega)] at hx; cases hx
      have hx' : f ⟨i, hlt⟩ = x := by simpa [l, hlt] using hx
      have h2 := hf ⟨i, hlt⟩
      rw [hx'] at h2
      intro k hk
      have h3 := (World.cells?_some h2).2.2 k hk
      rw [← h3]
      obtain ⟨ab, ao, asp⟩ := a
      simp only at hspot
      subst hspot
      simp only [Addr.add]
      by_cases e1 : i * 3 = 0
      · by_cases e2 : k = 0
        · simp [e1, e2]
        · simp [e1, e2]
      · by_cases e2 : k = 0
        · simp [e1, e2]
        · simp [e1, e2, Nat.add_assoc]
    have hcells : ∀ j v, (cellsD l)[j]? = some v → W.cell? ⟨a.block, a.off + j, none⟩ = some v ∧ cstOk v = true := fun j v hv => by
      obtain ⟨i, k, x, h1, rfl, h3, h4⟩ := cellsD_in l j v hv
      exact ⟨by rw [hit i x h1 k h3, h4], dd_cst h4⟩
    have hcO : cap < OPEN := by have := hcm; unfold maxLen at this; unfold OPEN; omega
    refine ⟨some (cellsD l, ⟨a.block, a.off, 3 * len, 3⟩), fun p h => ?_, fun B σ h0 hB => ?_⟩
    · simp only [Option.some.injEq] at h; subst h; exact ⟨hblk, hcells⟩
    obtain ⟨hh, hσ⟩ := hB _ rfl
    have hV : VR σ (.slice (some ⟨B, 0, none⟩) len cap) (.slice (some a) len cap) := by
      have := VR.sl (σ := σ) B 0 len cap ⟨a.block, a.off, 3 * len, 3⟩ hσ hcO
      obtain ⟨ab, ao, asp⟩ := a
      simp only at hspot
      subst hspot
      exact this
    exact ⟨.slice (some ⟨B, 0, none⟩) len cap, l, .inr ⟨B, cap, _, by rw [hil], hh, rfl, trivial⟩, hV⟩
end
end Go.Proofs.Ytpoedopdcpejmaa

set_option maxRecDepth 100000
namespace Go.Proofs.Ytpoedopdcpejmaa
open Go.Ev Go.RowKit Go.ChangeShapes

section
variable {H : Type} {enc : TypeId × Value → H}
theorem trodAll_six {P : Program} {w : World} {base : Nat} {spare : Nat → Bool} {held : Bool} {t1 t2 t3 t4 t5 t6 : TypeId} {args : Array Value} {ds : List (DataW H)} {ps : List MemPlace} (h : DataW.TrodAll enc P w base spare held [t1, t2, t3, t4, t5, t6] args.toList ds ps) :
    ∃ v1 v2 v3 v4 v5 v6 d1 d2 d3 d4 d5 d6 p1 p2 p3 p4 p5 p6, args = #[v1, v2, v3, v4, v5, v6] ∧ ds = [d1, d2, d3, d4, d5, d6] ∧ DataW.Trod enc P w base spare held t1 v1 d1 p1 ∧ DataW.Trod enc P w base spare held t2 v2 d2 p2 ∧ DataW.Trod enc P w base spare held t3 v3 d3 p3 ∧ DataW.Trod enc P w base spare held t4 v4 d4 p4 ∧ DataW.Trod enc P w base spare held t5 v5 d5 p5 ∧ DataW.Trod enc P w base spare held t6 v6 d6 p6 := by
  obtain ⟨v1, vs1, d1, ds1, p1, q1, hargs, rfl, rfl, h1, r1⟩ := trodAll_cons h
  obtain ⟨v2, vs2, d2, ds2, p2, q2, rfl, rfl, rfl, h2, r2⟩ := trodAll_cons r1
  obtain ⟨v3, vs3, d3, ds3, p3, q3, rfl, rfl, rfl, h3, r3⟩ := trodAll_cons r2
  obtain ⟨v4, vs4, d4, ds4, p4, q4, rfl, rfl, rfl, h4, r4⟩ := trodAll_cons r3
  obtain ⟨v5, vs5, d5, ds5, p5, q5, rfl, rfl, rfl, h5, r5⟩ := trodAll_cons r4
  obtain ⟨v6, vs6, d6, ds6, p6, q6, rfl, rfl, rfl, h6, r6⟩ := trodAll_cons r5
  obtain ⟨rfl, rfl, rfl⟩ := trodAll_nil r6
  exact ⟨v1, v2, v3, v4, v5, v6, d1, d2, d3, d4, d5, d6, p1, p2, p3, p4, p5, p6, by cases args; simp_all, rfl, h1, h2, h3, h4, h5, h6⟩

/-- the walk -/
theorem wheelAgain_walk {W : World} {n1 n2 n3 n4 n5 n6 : Nat} {v1 v2 v3 v4 v5 v6 : Value} {x1 x2 x3 x4 x5 x6 : DataW H × List MemPlace} (ok1 : Value.okWide Try.prog W .any 0 3 v1) (h1 : DataW.trod enc Try.prog W 0 (fun _ => true) true n1 3 v1.cells.toList = some x1)
    (ok2 : Value.okWide Try.prog W .any 0 22 v2) (h2 : DataW.trod enc Try.prog W 0 (fun _ => true) true n2 22 v2.cells.toList = some x2) (ok3 : Value.okWide Try.prog W .any 0 39 v3) (h3 : DataW.trod enc Try.prog W 0 (fun _ => true) true n3 39 v3.cells.toList = some x3)
    (ok4 : Value.okWide Try.prog W .any 0 3 v4) (h4 : DataW.trod enc Try.prog W 0 (fun _ => true) true n4 3 v4.cells.toList = some x4) (ok5 : Value.okWide Try.prog W .any 0 3 v5) (h5 : DataW.trod enc Try.prog W 0 (fun _ => true) true n5 3 v5.cells.toList = some x5) (ok6 : Value.okWide Try.prog W .any 0 3 v6) (h6 : DataW.trod enc Try.prog W 0 (fun _ => true) true n6 3 v6.cells.toList = some x6) :
    Calls Try.prog 5 #[v1, v2, v3, v4, v5, v6] W fun e W' => e = .returned (.bool true) ∧ Below W.heap.size W W' := by
  obtain ⟨now, rfl⟩ := int_at ok1 h1
  obtain ⟨o, p, q⟩ := dues_at ok2 h2
  obtain ⟨y, vy⟩ := name_at ok3 h3
  obtain ⟨one, rfl⟩ := int_at ok4 h4
  obtain ⟨two, rfl⟩ := int_at ok5 h5
  obtain ⟨tn, rfl⟩ := int_at ok6 h6
  have r : Rel (rosσ [o]) (rosH [o]) W := ros_rel fun p' hp => by
    simp only [List.mem_cons, List.not_mem_nil, or_false] at hp
    exact p p' hp.symm
  obtain ⟨v', l, hr, vb⟩ := q 0 (rosσ [o]) (rosH [o]) fun p hp => ros_has (by rw [hp]; rfl)
  exact calls_of_sp gor Try.checked.mixed xok Try.func5 (by kernel_rfl) (again_law 400000 0 (by decide) hr now one two tn y) r (fun g hg => absurd hg (Nat.not_lt_zero _)) (.cons (.int _ _) (.cons vb (.cons (vy _) (.cons (.int _ _) (.cons (.int _ _) (.cons (.int _ _) (.nil _))))))) ros_ro
end
end Go.Proofs.Ytpoedopdcpejmaa
