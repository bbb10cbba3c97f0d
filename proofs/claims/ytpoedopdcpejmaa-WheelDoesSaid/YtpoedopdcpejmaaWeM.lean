import Derived.Test.YtpoedopdcpejmaaWeG
set_option linter.unusedSimpArgs false
set_option linter.unusedVariables false
namespace Go.Proofs.Ytpoedopdcpejmaa
open Go.Ev

theorem sorted_eq {lt : Nm → Nm → Prop} (irr : ∀ x, ¬ lt x x) (tr : ∀ x y z, lt x y → lt y z → lt x z) : ∀ {a b : List Nm}, a.Pairwise lt → b.Pairwise lt → (∀ x, x ∈ a ↔ x ∈ b) → a = b
  | [], [], _, _, _ => rfl
  | [], y :: b, _, _, h => absurd ((h y).2 (by simp)) (by simp)
  | x :: a, [], _, _, h => absurd ((h x).1 (by simp)) (by simp)
  | x :: a, y :: b, ha, hb, h => by
    obtain ⟨a1, a2⟩ := List.pairwise_cons.1 ha
    obtain ⟨b1, b2⟩ := List.pairwise_cons.1 hb
    have hxy : x = y := by
      have h1 := (h x).1 (by simp)
      have h2 := (h y).2 (by simp)
      simp only [List.mem_cons] at h1 h2
      rcases h1 with h1 | h1
      · exact h1
      · rcases h2 with h2 | h2
        · exact h2.symm
        · exact absurd (tr _ _ _ (b1 x h1) (a1 y h2)) (irr _)
    subst hxy
    congr 1
    refine sorted_eq irr tr a2 b2 fun z => ⟨fun hz => ?_, fun hz => ?_⟩
    · have := (h z).1 (by simp [hz])
      simp only [List.mem_cons] at this
      rcases this with rfl | this
      · exact absurd (a1 _ hz) (irr _)
      · exact this
    · have := (h z).2 (by simp [hz])
      simp only [List.mem_cons] at this
      rcases this with rfl | this
      · exact absurd (b1 _ hz) (irr _)
      · exact this
/-- names that can be read -/
def Rl (h : H) (v : Value) (ns : List Nm) : Prop := lenSl v = some (.int .i64 (ns.length : Int)) ∧ ∀ h', Keep nobody h h' → ∀ (i : Nat) x, ns[i]? = some x → ∃ b, indexSl 2 v (.int .i64 (i : Int)) = some (.pointer (some ⟨b, i * 2, none⟩)) ∧ ∀ s, loadAgg 2 h' (.pointer (some ⟨b, i * 2, s⟩)) = some x.v
theorem Rl.keep0 {h h' : H} {v : Value} {ns : List Nm} (a : Rl h v ns) (k : Keep nobody h h') : Rl h' v ns := ⟨a.1, fun h2 k2 i x hx => a.2 h2 (k.then k2) i x hx⟩
theorem Sn.rl {P : Nat → Prop} {h : H} {v : Value} {ns : List Nm} (a : Sn P h v ns) : Rl h v ns := ⟨a.len, fun h' k i x hx => (a.keep0 k).at hx⟩
theorem same_rl (L m : Nat) {h : H} {v w : Value} {ns : List Nm} (a : Rl h v ns) (b : Rl h w ns) (hL : 300000 < L) (hsz : ns.length ≤ 100000) :
    Sp (CF L (m + 1)) 15 [v, w] h fun r h' => r = .bool true ∧ Keep nobody h h' := by
  refine Sp.body f15 (by simp) ?_
  unfold c15
  refine C.seq fun K hK => ?_
  simp only [↓opStep_eq, ↓reduceIte, ↓EW, EV, Nat.reduceAdd, Nat.reduceEqDiff, Int.reduceEq, Int.reduceLT, Int.reduceLE, Int.reduceNe, seqC, retC, skipC, exitC, blockC, condC, r15_0]
  refine hK .norm _ _ (C.seq (C.seq fun K hK => ?_))
  simp only [↓opStep_eq, ↓reduceIte, ↓EW, EV, Nat.reduceAdd, Nat.reduceEqDiff, Int.reduceEq, Int.reduceLT, Int.reduceLE, Int.reduceNe, seqC, retC, skipC, exitC, blockC, condC, r15_1, a.1, b.1]
  refine hK _ _ _ (C.cond false (by simp only [↓opStep_eq, ↓reduceIte, ↓EW, EV, Nat.reduceAdd, Nat.reduceEqDiff, Int.reduceEq, Int.reduceLT, Int.reduceLE, Int.reduceNe, seqC, retC, skipC, exitC, blockC, condC]) (fun g => by cases g) fun _ => C.skip (C.seq (C.seq fun K hK => ?_)))
  simp only [↓opStep_eq, ↓reduceIte, ↓EW, EV, Nat.reduceAdd, Nat.reduceEqDiff, Int.reduceEq, Int.reduceLT, Int.reduceLE, Int.reduceNe, seqC, retC, skipC, exitC, blockC, condC, r15_3]
  refine hK .norm _ _ ?_
  refine C.block (C.loop (fun q tm' hx => ∃ i, q = ns.length - i ∧ i ≤ ns.length ∧ Keep nobody h hx ∧ tg tm' 0 = v ∧ tg tm' 1 = w ∧ tg tm' 5 = .int .i64 (i : Int)) ns.length (by omega)
    ⟨0, rfl, by omega, .refl _ _, by simp only [↓opStep_eq, ↓reduceIte, ↓EW, EV, Nat.reduceAdd, Nat.reduceEqDiff, Int.reduceEq, Int.reduceLT, Int.reduceLE, Int.reduceNe, seqC, retC, skipC, exitC, blockC, condC], by simp only [↓opStep_eq, ↓reduceIte, ↓EW, EV, Nat.reduceAdd, Nat.reduceEqDiff, Int.reduceEq, Int.reduceLT, Int.reduceLE, Int.reduceNe, seqC, retC, skipC, exitC, blockC, condC], by simp only [↓opStep_eq, ↓reduceIte, ↓EW, EV, Nat.reduceAdd, Nat.reduceEqDiff, Int.reduceEq, Int.reduceLT, Int.reduceLE, Int.reduceNe, seqC, retC, skipC, exitC, blockC, condC] <;> rfl⟩ ?_)
  rintro q tm hx ⟨i, rfl, hi, kx, t0, t1, t5⟩
  unfold l15_8
  refine C.seq (C.seq fun K hK => ?_)
  simp only [↓opStep_eq, ↓reduceIte, ↓EW, EV, Nat.reduceAdd, Nat.reduceEqDiff, Int.reduceEq, Int.reduceLT, Int.reduceLE, Int.reduceNe, seqC, retC, skipC, exitC, blockC, condC, r15_4, t0, t5, a.1]
  refine hK _ _ _ (C.cond (decide ((i : Int) < (ns.length : Int))) (by simp only [↓opStep_eq, ↓reduceIte, ↓EW, EV, Nat.reduceAdd, Nat.reduceEqDiff, Int.reduceEq, Int.reduceLT, Int.reduceLE, Int.reduceNe, seqC, retC, skipC, exitC, blockC, condC]) (fun g => C.skip ?_) fun g => C.exit ?_)
  · have g : i < ns.length := by have := of_decide_eq_true g; omega
    have kr := kx.then (keep_room hx 9)
    obtain ⟨p, ixp, lp⟩ := a.2 _ kr i _ (List.getElem?_eq_getElem g)
    obtain ⟨q, ixq, lq⟩ := b.2 _ kr i _ (List.getElem?_eq_getElem g)
    refine C.seq (C.block (C.seq fun K hK => ?_))
    simp only [↓opStep_eq, ↓reduceIte, ↓EW, EV, Nat.reduceAdd, Nat.reduceEqDiff, Int.reduceEq, Int.reduceLT, Int.reduceLE, Int.reduceNe, seqC, retC, skipC, exitC, blockC, condC, r15_6, t0, t1, t5, ixp, ixq, lp, lq, name_neq_self]
    refine hK _ _ _ (C.cond false (by simp only [↓opStep_eq, ↓reduceIte, ↓EW, EV, Nat.reduceAdd, Nat.reduceEqDiff, Int.reduceEq, Int.reduceLT, Int.reduceLE, Int.reduceNe, seqC, retC, skipC, exitC, blockC, condC]) (fun g => by cases g) fun _ => C.skip fun K hK => ?_)
    have w' := wadd1 i (by omega)
    simp only [↓opStep_eq, ↓reduceIte, ↓EW, EV, Nat.reduceAdd, Nat.reduceEqDiff, Int.reduceEq, Int.reduceLT, Int.reduceLE, Int.reduceNe, seqC, retC, skipC, exitC, blockC, condC, r15_5, t5, w']
    exact hK _ _ _ ⟨ns.length - (i + 1), by omega, i + 1, rfl, by omega, kr, by simp only [↓opStep_eq, ↓reduceIte, ↓EW, EV, Nat.reduceAdd, Nat.reduceEqDiff, Int.reduceEq, Int.reduceLT, Int.reduceLE, Int.reduceNe, seqC, retC, skipC, exitC, blockC, condC, t0], by simp only [↓opStep_eq, ↓reduceIte, ↓EW, EV, Nat.reduceAdd, Nat.reduceEqDiff, Int.reduceEq, Int.reduceLT, Int.reduceLE, Int.reduceNe, seqC, retC, skipC, exitC, blockC, condC, t1], by simp only [↓opStep_eq, ↓reduceIte, ↓EW, EV, Nat.reduceAdd, Nat.reduceEqDiff, Int.reduceEq, Int.reduceLT, Int.reduceLE, Int.reduceNe, seqC, retC, skipC, exitC, blockC, condC]⟩
  · simp only [if_pos]
    refine C.seq fun K hK => ?_
    simp only [↓opStep_eq, ↓reduceIte, ↓EW, EV, Nat.reduceAdd, Nat.reduceEqDiff, Int.reduceEq, Int.reduceLT, Int.reduceLE, Int.reduceNe, seqC, retC, skipC, exitC, blockC, condC, r15_8]
    exact hK .norm _ _ (C.ret ⟨.inr rfl, _, rfl, by simp only [↓opStep_eq, ↓reduceIte, ↓EW, EV, Nat.reduceAdd, Nat.reduceEqDiff, Int.reduceEq, Int.reduceLT, Int.reduceLE, Int.reduceNe, seqC, retC, skipC, exitC, blockC, condC, resOf], kx⟩)

theorem AddR.ok {now : Nat} {l l' : List En} {x : Nm} {u : Nat} {e : Int} (a : AddR now l x u l' e) (hv : validN x.1 x.2) (h1 : now < u) (h2 : u ≤ MAXT) : l' = (x, u) :: wo l x ∧ e = 0 := by
  rcases a with ⟨h, _⟩ | ⟨_, h, _⟩ | ⟨_, k, e1, _, _, h3, h4⟩
  · exact absurd hv h
  · exact absurd ⟨by omega, by unfold MAXT at h2; omega⟩ h
  · have : k = u := by omega
    subst this; exact ⟨h3, h4⟩

end Go.Proofs.Ytpoedopdcpejmaa

namespace Go.Proofs.Ytpoedopdcpejmaa
open Go.Ev

/-! ### names with their moments, in a row -/
abbrev Dd := Nm × Int
def cellsD : List Dd → List Value
  | [] => []
  | d :: r => .int .i64 d.1.1 :: .string d.1.2 :: .int .i64 d.2 :: cellsD r
theorem cellsD_len : ∀ ds, (cellsD ds).length = 3 * ds.length
  | [] => rfl
  | d :: r => by simp only [cellsD, List.length_cons, cellsD_len r]; omega
theorem cellsD_append : ∀ a b, cellsD (a ++ b) = cellsD a ++ cellsD b
  | [], b => rfl
  | x :: a, b => by simp only [cellsD, List.cons_append, cellsD_append a b]
theorem cellsD_drop : ∀ (ds : List Dd) (n : Nat), (cellsD ds).drop (n * 3) = cellsD (ds.drop n)
  | [], n => by simp [cellsD]
  | d :: r, 0 => rfl
  | d :: r, n + 1 => by
    have : (n + 1) * 3 = n * 3 + 1 + 1 + 1 := by omega
    rw [this]
    simp [cellsD, cellsD_drop r n]
abbrev dV (d : Dd) : Value := .agg [.int .i64 d.1.1, .string d.1.2, .int .i64 d.2].toArray

def Dv (P : Nat → Prop) (h : H) (v : Value) (ds : List Dd) : Prop := (v = .slice none 0 0 ∧ ds = []) ∨ ∃ b cap x, v = .slice (some ⟨b, 0, none⟩) ds.length cap ∧ Has h b x ∧ x.cells? = some (cellsD ds) ∧ P b
structure AtD (h : H) (b o : Nat) (d : Dd) : Prop where
  nm : ∀ s, loadAgg 2 h (.pointer (some ⟨b, o, s⟩)) = some d.1.v
  key : ∀ s, loadOne h (.pointer (some ⟨b, o + 1, s⟩)) = some (.string d.1.2)
  un : ∀ s, loadOne h (.pointer (some ⟨b, o + 2, s⟩)) = some (.int .i64 d.2)
  all : ∀ s, loadAgg 3 h (.pointer (some ⟨b, o, s⟩)) = some (dV d)
section
variable {P : Nat → Prop} {h h' : H} {v : Value} {ds : List Dd}
theorem Dv.keep {S : Nat → Prop} (a : Dv P h v ds) (k : Keep S h h') (hs : ∀ c, S c → ¬ P c) : Dv P h' v ds := by
  rcases a with a | ⟨b, cap, x, e, hb, hx, p⟩
  · exact .inl a
  · exact .inr ⟨b, cap, x, e, hb.keep k fun e => hs b e p, hx, p⟩
theorem Dv.keep0 (a : Dv P h v ds) (k : Keep nobody h h') : Dv P h' v ds := a.keep k fun _ e => e.elim
theorem Dv.mono {P' : Nat → Prop} (a : Dv P h v ds) (hp : ∀ c, c < h.next → P c → P' c) : Dv P' h v ds := by
  rcases a with a | ⟨b, cap, x, e, hb, hx, p⟩
  · exact .inl a
  · exact .inr ⟨b, cap, x, e, hb, hx, hp b hb.1 p⟩
theorem Dv.len (a : Dv P h v ds) : lenSl v = some (.int .i64 (ds.length : Int)) := by
  rcases a with ⟨rfl, rfl⟩ | ⟨b, cap, x, rfl, _⟩ <;> rfl
theorem Dv.at (a : Dv P h v ds) {i : Nat} {d : Dd} (hd : ds[i]? = some d) : ∃ b, indexSl 3 v (.int .i64 (i : Int)) = some (.pointer (some ⟨b, i * 3, none⟩)) ∧ AtD h b (i * 3) d := by
  have hi : i < ds.length := (List.getElem?_eq_some_iff.1 hd).1
  rcases a with ⟨rfl, rfl⟩ | ⟨b, cap, x, rfl, hb, hx, p⟩
  · cases hd
  · have hl := cellsD_len ds
    have hdr : (cellsD ds).drop (i * 3) = .int .i64 d.1.1 :: .string d.1.2 :: .int .i64 d.2 :: cellsD (ds.drop (i + 1)) := by
      rw [cellsD_drop, List.drop_eq_getElem_cons hi]
      have : ds[i] = d := (List.getElem?_eq_some_iff.1 hd).2
      rw [this]; rfl
    have hnth : ∀ j, (cellsD ds)[i * 3 + j]? = ((cellsD ds).drop (i * 3))[j]? := fun j => by rw [List.getElem?_drop]
    refine ⟨b, ?_, ⟨fun s => ?_, fun s => ?_, fun s => ?_, fun s => ?_⟩⟩
    · simp only [indexSl, asNat_nat, addOff]
      rw [Nat.ble_eq_true_of_le hi]
      simp only [Nat.zero_add]
    · rw [loadAgg_has hb hx (by omega), hdr]; rfl
    · rw [loadOne_has hb hx, hnth, hdr]; rfl
    · rw [loadOne_has hb hx, hnth, hdr]; rfl
    · rw [loadAgg_has hb hx (by omega), hdr]; rfl
end

end Go.Proofs.Ytpoedopdcpejmaa

namespace Go.Proofs.Ytpoedopdcpejmaa
open Go.Ev

def Dq (P : Nat → Prop) (h : H) (v : Value) (ds : List Dd) : Prop := (v = .slice none 0 0 ∧ ds = []) ∨ ∃ b cap, v = .slice (some ⟨b, 0, none⟩) ds.length cap ∧ OpenC cap ∧ Has h b (.op (cellsD ds) 3) ∧ P b
section
variable {P : Nat → Prop} {h h' : H} {v : Value} {ds : List Dd}
theorem Dq.keep {S : Nat → Prop} (a : Dq P h v ds) (k : Keep S h h') (hs : ∀ c, S c → ¬ P c) : Dq P h' v ds := by
  rcases a with a | ⟨b, cap, e, c, hb, p⟩
  · exact .inl a
  · exact .inr ⟨b, cap, e, c, hb.keep k fun e => hs b e p, p⟩
theorem Dq.keep0 (a : Dq P h v ds) (k : Keep nobody h h') : Dq P h' v ds := a.keep k fun _ e => e.elim
theorem Dq.mono {P' : Nat → Prop} (a : Dq P h v ds) (hp : ∀ c, c < h.next → P c → P' c) : Dq P' h v ds := by
  rcases a with a | ⟨b, cap, e, c, hb, p⟩
  · exact .inl a
  · exact .inr ⟨b, cap, e, c, hb, hp b hb.1 p⟩
theorem Dq.dv (a : Dq P h v ds) : Dv P h v ds := by
  rcases a with a | ⟨b, cap, e, c, hb, p⟩
  · exact .inl a
  · exact .inr ⟨b, cap, _, e, hb, rfl, p⟩
theorem litD (b : Nat) (d : Dd) : mkLit 1 b (fill (repl [(.int .i64 (0)), (.string (strB [])), (.int .i64 (0))] 1) (pl 3) [(0, dV d)]) = some (.rw [.int .i64 d.1.1, .string d.1.2, .int .i64 d.2], .slice (some ⟨b, 0, none⟩) 1 1) := rfl
theorem Dq.append (a : Dq P h v ds) (d : Dd) {lb : Nat} (hb : Has h lb (.rw [.int .i64 d.1.1, .string d.1.2, .int .i64 d.2])) (hP : ∀ c, h.next ≤ c → P c) (hsz : ds.length ≤ 1000000) :
    ∃ v' h', appendV 3 32 h v (.slice (some ⟨lb, 0, none⟩) 1 1) = some (v', h') ∧ Dq P h' v' (ds ++ [d]) ∧ Keep P h h' := by
  have fv : firstV h 3 1 (.slice (some ⟨lb, 0, none⟩) 1 1) = some [.int .i64 d.1.1, .string d.1.2, .int .i64 d.2] := by
    simp only [firstV]
    rw [row_has hb rfl (by simp)]; rfl
  have hap : ∀ base sl sc, appendV 3 32 h (.slice base sl sc) (.slice (some ⟨lb, 0, none⟩) 1 1) = appTo 3 32 h base sl sc 1 [.int .i64 d.1.1, .string d.1.2, .int .i64 d.2] := fun base sl sc => by
    unfold appendV
    simp only [lenV, fv]
    rfl
  have hgrow : ∀ (h0 : H), h0.next = h.next → Keep P h h0 → ∃ v' h', grow h0 (cellsD ds) [.int .i64 d.1.1, .string d.1.2, .int .i64 d.2] (ds.length + 1) 3 = some (v', h') ∧ Dq P h' v' (ds ++ [d]) ∧ Keep P h h' := fun h0 hn hk => by
    have e : cellsD (ds ++ [d]) = cellsD ds ++ [.int .i64 d.1.1, .string d.1.2, .int .i64 d.2] := by rw [cellsD_append]; rfl
    exact ⟨_, _, rfl, .inr ⟨h0.next, opCap (ds.length + 1) 3, by simp, openC _, by rw [e]; exact .new _ _, hP _ (by omega)⟩, hk.then (.new _ _)⟩
  rcases a with ⟨rfl, rfl⟩ | ⟨b, cap, rfl, c, hb1, l⟩
  · rw [hap]
    have : appTo 3 32 h none 0 0 1 [.int .i64 d.1.1, .string d.1.2, .int .i64 d.2] = grow h [] [.int .i64 d.1.1, .string d.1.2, .int .i64 d.2] 1 3 := rfl
    rw [this]
    exact hgrow h rfl (.refl _ _)
  · rw [hap]
    have h1 : appTo 3 32 h (some ⟨b, 0, none⟩) ds.length cap 1 [.int .i64 d.1.1, .string d.1.2, .int .i64 d.2] = appOpen 3 h ⟨b, 0, none⟩ ds.length cap 1 [.int .i64 d.1.1, .string d.1.2, .int .i64 d.2] := by
      unfold appTo
      simp only
      rw [Nat.ble_eq_true_of_le (show (ds.length + 1) * 32 ≤ 140737488355328 by omega), Nat.ble_eq_true_of_le (show ds.length + 1 ≤ 9223372036854775807 by omega)]
      simp only [c.1, Bool.and_self]
    rw [h1]
    unfold appOpen
    have h2 : Ev.ones [Value.int .i64 d.1.1, .string d.1.2, .int .i64 d.2] = true := rfl
    have e3 : putAt (cellsD ds) (0 + ds.length * 3) [Value.int .i64 d.1.1, .string d.1.2, .int .i64 d.2] = none := by
      rw [show 0 + ds.length * 3 = (cellsD ds).length by rw [cellsD_len]; omega]
      exact putAt_end _ _ _
    have e4 : cut (cellsD ds) 0 = some (cellsD ds) := by simpa using cut_eq (cellsD ds) 0 (by simp)
    have e5 : Nat.beq (0 + ds.length * 3) (cellsD ds).length = true := by rw [show 0 + ds.length * 3 = (cellsD ds).length by rw [cellsD_len]; omega]; exact Nat.beq_refl _
    simp only [c.2, h2, Bool.and_self, hb1.2, e3, e4, e5]
    exact hgrow (h.del b) rfl ((Keep.del h b).mono fun k _ e => by rw [e]; exact l)
end

/-! ### what is added -/
def okD (now : Nat) (d : Dd) : Prop := validN d.1.1 d.1.2 ∧ (now : Int) < d.2 ∧ d.2 ≤ 1099511627776
def hasN {α : Type} (out : List (Nm × α)) (x : Nm) : Prop := ∃ e ∈ out, e.1 = x
noncomputable instance decHasN {α : Type} (out : List (Nm × α)) (x : Nm) : Decidable (hasN out x) := Classical.propDecidable _
noncomputable instance decOkD (now : Nat) (d : Dd) : Decidable (okD now d) := Classical.propDecidable _
def outD (es : List En) : List Dd := es.map fun e => (e.1, (e.2 : Int))

end Go.Proofs.Ytpoedopdcpejmaa

namespace Go.Proofs.Ytpoedopdcpejmaa
open Go.Ev

theorem outD_len (out : List En) : (outD out).length = out.length := List.length_map _
section
variable {O : Nat → Prop} {h : H} {b now : Nat}
structure AddQ (O : Nat → Prop) (h : H) (b now : Nat) (h' : H) (v : Value) (es : List En) (O' : Nat → Prop) : Prop where
  wh : Wh O' h' b now es
  fw : Fw O h O' h'
  out : Dq (fun c => h.next ≤ c ∧ ¬ O' c) h' v (outD es)
theorem AddQ.keep0 {h1 h2 : H} {v : Value} {es : List En} {O' : Nat → Prop} (q : AddQ O h b now h1 v es O') (k : Keep nobody h1 h2) : AddQ O h b now h2 v es O' := ⟨q.wh.keep0 k, q.fw.trans (Fw.of0 k), q.out.keep0 k⟩

end
end Go.Proofs.Ytpoedopdcpejmaa

namespace Go.Proofs.Ytpoedopdcpejmaa
open Go.Ev

/-- two wheels side by side, above a memory that stays -/
structure Two (h0 h : H) (O1 O2 : Nat → Prop) (b1 b2 n1 n2 : Nat) (l1 l2 : List En) : Prop where
  w1 : Wh O1 h b1 n1 l1
  w2 : Wh O2 h b2 n2 l2
  dj : ∀ c, O1 c → ¬ O2 c
  k : Keep nobody h0 h
  lo1 : ∀ c, O1 c → h0.next ≤ c
  lo2 : ∀ c, O2 c → h0.next ≤ c
section
variable {h0 h h' : H} {O1 O2 O' : Nat → Prop} {b1 b2 n1 n2 n' : Nat} {l1 l2 l' : List En}
theorem Two.keep0 (t : Two h0 h O1 O2 b1 b2 n1 n2 l1 l2) (k : Keep nobody h h') : Two h0 h' O1 O2 b1 b2 n1 n2 l1 l2 := ⟨t.w1.keep0 k, t.w2.keep0 k, t.dj, t.k.then k, t.lo1, t.lo2⟩
theorem Wh.lt {O : Nat → Prop} {b now : Nat} {l : List En} (w : Wh O h b now l) {c : Nat} (hc : O c) : c < h.next := by
  obtain ⟨i, U, sv, m⟩ := w
  exact m.far c hc
theorem Two.step (t : Two h0 h O1 O2 b1 b2 n1 n2 l1 l2) (w : Wh O' h' b1 n' l') (f : Fw O1 h O' h') : Two h0 h' O' O2 b1 b2 n' n2 l' l2 := by
  refine ⟨w, t.w2.keepO f.keep t.dj, fun c e1 e2 => t.dj c (f.same c (t.w2.lt e2) e1) e2, t.k.trans f.keep fun c hc e => ?_, fun c e => ?_, t.lo2⟩
  · have := t.lo1 c e; omega
  · by_cases hc : c < h.next
    · exact t.lo1 c (f.same c hc e)
    · have := t.k.next; omega
end
end Go.Proofs.Ytpoedopdcpejmaa

namespace Go.Proofs.Ytpoedopdcpejmaa
open Go.Ev

/-! ### the order by moments, in all the names -/
theorem whF_filter {l : List En} (nd : (l.map (·.1)).Nodup) {p : En → Bool} {x : Nm} {u : Nat} (h : (x, u) ∈ l) (hp : p (x, u) = true) : whF (l.filter p) x = u := whF_of (nd_filter nd p) (List.mem_filter.2 ⟨h, hp⟩)
theorem pw_all {l : List En} (nd : (l.map (·.1)).Nodup) {p : En → Bool} {ns : List Nm} (so : ns.Pairwise (ltW (l.filter p))) (hm : ∀ x ∈ ns, ∃ u, (x, u) ∈ l ∧ p (x, u) = true) : ns.Pairwise (ltW l) := by
  refine List.Pairwise.imp_of_mem (fun {x y} hx hy h => ?_) so
  obtain ⟨u, hu, pu⟩ := hm x hx
  obtain ⟨w, hw, pw⟩ := hm y hy
  unfold ltW at h ⊢
  rw [whF_filter nd hu pu, whF_filter nd hw pw] at h
  rw [whF_of nd hu, whF_of nd hw]
  exact h
/-- what is due by a moment, in order -/
structure By (l : List En) (k : Nat) (ns : List Nm) : Prop where
  so : ns.Pairwise (ltW l)
  mem : ∀ x, x ∈ ns ↔ ∃ u, u ≤ k ∧ (x, u) ∈ l
theorem By.eq {l : List En} {k : Nat} {a b : List Nm} (x : By l k a) (y : By l k b) : a = b := sorted_eq (ltW_irr _) (ltW_tr _) x.so y.so fun z => by rw [x.mem, y.mem]
theorem By.step {l : List En} (nd : (l.map (·.1)).Nodup) {k k' : Nat} {a b : List Nm} (x : By l k a) (hk : k ≤ k') (so : b.Pairwise (ltW ((l.filter fun e => decide (k < e.2)).filter fun e => decide (e.2 ≤ k')))) (mem : ∀ x, x ∈ b ↔ ∃ u, u ≤ k' ∧ (x, u) ∈ l.filter fun e => decide (k < e.2)) : By l k' (a ++ b) := by
  have hb : ∀ y ∈ b, ∃ u, (y, u) ∈ l ∧ (k < u ∧ u ≤ k') := fun y hy => by
    obtain ⟨u, h1, h2⟩ := (mem y).1 hy
    obtain ⟨h3, h4⟩ := List.mem_filter.1 h2
    exact ⟨u, h3, of_decide_eq_true h4, h1⟩
  have sb : b.Pairwise (ltW l) := by
    rw [List.filter_filter] at so
    refine pw_all nd so fun y hy => ?_
    obtain ⟨u, h1, h2, h3⟩ := hb y hy
    exact ⟨u, h1, by simp [h2, h3]⟩
  refine ⟨List.pairwise_append.2 ⟨x.so, sb, fun y hy z hz => ?_⟩, fun y => ?_⟩
  · obtain ⟨u, h1, h2⟩ := (x.mem y).1 hy
    obtain ⟨w, h3, h4, h5⟩ := hb z hz
    refine .inl ?_
    rw [whF_of nd h2, whF_of nd h3]
    omega
  · rw [List.mem_append, x.mem]
    constructor
    · rintro (⟨u, h1, h2⟩ | hy)
      · exact ⟨u, by omega, h2⟩
      · obtain ⟨u, h1, h2, h3⟩ := hb y hy
        exact ⟨u, h3, h1⟩
    · rintro ⟨u, h1, h2⟩
      by_cases g : u ≤ k
      · exact .inl ⟨u, g, h2⟩
      · exact .inr ((mem y).2 ⟨u, h1, List.mem_filter.2 ⟨h2, decide_eq_true (by omega)⟩⟩)
theorem By.first {l : List En} {now k : Nat} (nd : (l.map (·.1)).Nodup) {b : List Nm} (so : b.Pairwise (ltW (l.filter fun e => decide (e.2 ≤ k)))) (mem : ∀ x, x ∈ b ↔ ∃ u, u ≤ k ∧ (x, u) ∈ l) : By l k b :=
  ⟨pw_all nd so fun x hx => by obtain ⟨u, h1, h2⟩ := (mem x).1 hx; exact ⟨u, h2, decide_eq_true h1⟩, mem⟩
end Go.Proofs.Ytpoedopdcpejmaa

namespace Go.Proofs.Ytpoedopdcpejmaa
open Go.Ev

/-- what stays while the answers are gone through -/
structure Gd (hT : H) (O : Nat → Prop) (b k : Nat) (es : List En) (hv : Value) (dv : Value) (ns : List Nm) : Prop where
  wh : Wh O hT b k (es.filter fun e => decide (k < e.2))
  nd : (es.map (·.1)).Nodup
  ok : ∀ e ∈ es, validN e.1.1 e.1.2
  have_ : Dv (fun c => c < hT.next) hT hv (outD es)
  due : Sn (fun c => c < hT.next) hT dv ns
  by_ : By es k ns
  len : es.length ≤ 200

section
variable {hT h : H} {O : Nat → Prop} {b k : Nat} {es : List En} {hv dv : Value} {ns : List Nm}
theorem Gd.at (g : Gd hT O b k es hv dv ns) (kp : Keep (fun c => hT.next ≤ c) hT h) : Wh O h b k (es.filter fun e => decide (k < e.2)) ∧ Dv (fun c => c < hT.next) h hv (outD es) ∧ Sn (fun c => c < hT.next) h dv ns :=
  ⟨g.wh.keepO kp fun c e => g.wh.far e, g.have_.keep kp fun c e p => by omega, g.due.keep kp fun c e p => by omega⟩
theorem outD_at {es : List En} {i : Nat} {e : En} (h : es[i]? = some e) : (outD es)[i]? = some (e.1, (e.2 : Int)) := by
  unfold outD
  rw [List.getElem?_map, h]; rfl

end
end Go.Proofs.Ytpoedopdcpejmaa

set_option maxRecDepth 100000
namespace Go.Proofs.Ytpoedopdcpejmaa
open Go.Ev Go.RowKit Go.ChangeShapes

theorem w39 : Try.prog.underlying 39 = some (.struct (fieldsOf Try.prog 39)) := by kernel_rfl
theorem n39 : (fieldsOf Try.prog 39).toList.map (fun f => (f.type, f.offset)) = [(3, 0), (9, 1)] := by kernel_rfl
theorem z39 : Try.prog.cellsOf 39 = 2 := by kernel_rfl
theorem w3 : Try.prog.underlying 3 = some (.int .i64) := by kernel_rfl
theorem w9 : Try.prog.underlying 9 = some .string := by kernel_rfl
theorem z3 : Try.prog.cellsOf 3 = 1 := by kernel_rfl
theorem z9 : Try.prog.cellsOf 9 = 1 := by kernel_rfl
theorem gor : NoGor Try.prog := noGor_of (by kernel_rfl)
theorem xok : XOK Try.prog outside := xok_cons Try.func56 (by kernel_rfl) (by kernel_rfl) (by kernel_rfl) xok_nil
theorem slice_of {v : Value} {p : Option Addr} {l c : Nat} (e : v.cells.toList = [.slice p l c]) : v = .slice p l c ∨ ∃ a, v = .agg a := by
  cases v with
  | agg a => exact .inr ⟨a, rfl⟩
  | slice p' l' c' => exact .inl (by have : [Value.slice p' l' c'] = [.slice p l c] := e; simpa using this)
  | bool => exact absurd e (by intro h; have := List.head_eq_of_cons_eq h; cases this)
  | _ => exact absurd e (by intro h; have := List.head_eq_of_cons_eq h; cases this)
theorem int_of {v : Value} {k : IntKind} {z : Int} (e : v.cells.toList = [.int k z]) : v = .int k z ∨ ∃ a, v = .agg a := by
  cases v with
  | agg a => exact .inr ⟨a, rfl⟩
  | int k' z' => exact .inl (by have : [Value.int k' z'] = [.int k z] := e; simpa using this)
  | bool => exact absurd e (by intro h; have := List.head_eq_of_cons_eq h; cases this)
  | _ => exact absurd e (by intro h; have := List.head_eq_of_cons_eq h; cases this)

section
variable {H : Type} {enc : TypeId × Value → H}
theorem int_at {W : World} {n : Nat} {v : Value} {x : DataW H × List MemPlace} (hok : Value.okWide Try.prog W .any 0 3 v) (h : DataW.trod enc Try.prog W 0 (fun _ => true) true n 3 v.cells.toList = some x) : ∃ z, v = .int .i64 z := by
  have hok2 : Cell.ok Try.prog W .any 0 3 v := by
    unfold Value.okWide at hok
    rw [w3] at hok
    unfold Cell.okWide at hok
    rw [w3] at hok
    exact hok
  obtain ⟨z, e, _, _⟩ := DataW.trod_int w3 h
  rcases int_of e with h | ⟨a, rfl⟩
  · exact ⟨z, h⟩
  · exfalso; unfold Cell.ok at hok2; rw [w3] at hok2; exact hok2
end
end Go.Proofs.Ytpoedopdcpejmaa
