import Derived.Test.YtpoedopdcpejmaaWeM
set_option linter.unusedSimpArgs false
set_option linter.unusedVariables false
namespace Go.Proofs.Ytpoedopdcpejmaa
open Go.Ev

/-! ### the document's wheel -/
abbrev rfV (z : Int) (v : Value) : Value := .agg [.int .i64 z, v].toArray
theorem Dq.form {P : Nat → Prop} {h : H} {v : Value} {ds : List Dd} (a : Dq P h v ds) : ∃ p q c, v = .slice p q c := by
  rcases a with ⟨rfl, _⟩ | ⟨b, cap, rfl, _⟩
  · exact ⟨_, _, _, rfl⟩
  · exact ⟨_, _, _, rfl⟩
theorem rfCells (z : Int) (p : Option Addr) (q c : Nat) : (Value.cells (rfV z (.slice p q c))).toList = [.int .i64 z, .slice p q c] := by simp
theorem rfNil (z : Int) : aggO (fill [(.int .i64 (0)), (.slice none 0 0)] (plc [(0, 1), (1, 1)]) [(0, .int .i64 z)]) = some (rfV z (.slice none 0 0)) := rfl
theorem rfNil0 : aggO (fill [(.int .i64 (0)), (.slice none 0 0)] (plc [(0, 1), (1, 1)]) []) = some (rfV 0 (.slice none 0 0)) := rfl
theorem rfLit (z : Int) (p : Option Addr) (q c : Nat) : aggO (fill [(.int .i64 (0)), (.slice none 0 0)] (plc [(0, 1), (1, 1)]) [(0, .int .i64 z), (1, .slice p q c)]) = some (rfV z (.slice p q c)) := rfl
theorem storeR {h : H} {b : Nat} {y : Int} {w : Value} (a : Has h b (.rw [.int .i64 y, w])) (z : Int) (p : Option Addr) (q c : Nat) (s) : storeV 2 h (.pointer (some ⟨b, 0, s⟩)) (rfV z (.slice p q c)) = some (h.put b (.rw [.int .i64 z, .slice p q c])) := by
  have := store_has (s := s) (v := rfV z (.slice p q c)) a (n := 2) rfl (by simp) (by simp [Ev.ones])
  rw [rfCells] at this
  exact this
theorem loadR {h : H} {b : Nat} {z : Int} {v : Value} (a : Has h b (.rw [.int .i64 z, v])) (s) : loadAgg 2 h (.pointer (some ⟨b, 0, s⟩)) = some (rfV z v) := loadAgg_has a rfl (by simp)
theorem load0 {h : H} {b : Nat} {z : Int} {v : Value} (a : Has h b (.rw [.int .i64 z, v])) (s) : loadOne h (.pointer (some ⟨b, 0, s⟩)) = some (.int .i64 z) := by rw [loadOne_has a rfl]; rfl
theorem load1 {h : H} {b : Nat} {z : Int} {v : Value} (a : Has h b (.rw [.int .i64 z, v])) (s) : loadOne h (.pointer (some ⟨b, 1, s⟩)) = some v := by rw [loadOne_has a rfl]; rfl

theorem refnew_law (L n : Nat) (z : Int) (h : H) : Sp (CF L (n + 1)) 20 [.int .i64 z] h fun r h' => Keep nobody h h' ∧ ((¬ (0 ≤ z ∧ z ≤ 1099511627776) ∧ r = .tuple [rfV 0 (.slice none 0 0), .int .i64 2].toArray) ∨ ((0 ≤ z ∧ z ≤ 1099511627776) ∧ r = .tuple [rfV z (.slice none 0 0), .int .i64 0].toArray)) := by
  refine Sp.body f20 (by simp) ?_
  unfold c20
  have k1 := Keep.new h (.rw [.int .i64 0, .slice none 0 0])
  have b1 := Has.new h (.rw [.int .i64 0, .slice none 0 0])
  refine C.seq fun K hK => ?_
  simp only [↓opStep_eq, ↓reduceIte, ↓EW, EV, Nat.reduceAdd, Nat.reduceEqDiff, Int.reduceEq, Int.reduceLT, Int.reduceLE, Int.reduceNe, seqC, retC, skipC, exitC, blockC, condC, r20_0, ptrTo]
  have hfar : ∀ x : AObj, Keep nobody h ((h.new (.rw [.int .i64 0, .slice none 0 0])).put h.next x) := fun x => keep_alloc h _ x
  generalize hN : h.next = N at *
  have st0 := fun p q c => storeR (s := none) b1 0 p q c
  have stz := fun p q c => storeR (s := none) b1 z p q c
  have hlt := b1.1
  generalize h.new (.rw [.int .i64 0, .slice none 0 0]) = h1 at *
  have bad : ¬ (0 ≤ z ∧ z ≤ 1099511627776) → ∀ (tm : T Value) (K : KE), tg tm 2 = .pointer (some ⟨N, 0, none⟩) → (∀ tm', tg tm' 2 = .pointer (some ⟨N, 0, none⟩) → tg tm' 3 = .int .i64 2 → K .ret tm' [] (h1.put N (.rw [.int .i64 0, .slice none 0 0])) = true) → (seqC ⟨r20_2⟩ retC) (CF L n) L tm [] h1 K = true := fun hb tm K u2 hK => by
    simp only [↓opStep_eq, ↓reduceIte, ↓EW, EV, Nat.reduceAdd, Nat.reduceEqDiff, Int.reduceEq, Int.reduceLT, Int.reduceLE, Int.reduceNe, seqC, retC, skipC, exitC, blockC, condC, r20_2, retC, rfNil0, u2, st0]
    exact hK _ (by simp only [↓opStep_eq, ↓reduceIte, ↓EW, EV, Nat.reduceAdd, Nat.reduceEqDiff, Int.reduceEq, Int.reduceLT, Int.reduceLE, Int.reduceNe, seqC, retC, skipC, exitC, blockC, condC, u2]) (by simp only [↓opStep_eq, ↓reduceIte, ↓EW, EV, Nat.reduceAdd, Nat.reduceEqDiff, Int.reduceEq, Int.reduceLT, Int.reduceLE, Int.reduceNe, seqC, retC, skipC, exitC, blockC, condC])
  refine hK _ _ _ (C.seq (C.seq fun K hK => ?_))
  by_cases hz : 0 ≤ z ∧ z ≤ 1099511627776
  · have g1 : ¬ z < 0 := by omega
    have g2 : ¬ (1099511627776 : Int) < z := by omega
    simp only [↓opStep_eq, ↓reduceIte, ↓EW, EV, Nat.reduceAdd, Nat.reduceEqDiff, Int.reduceEq, Int.reduceLT, Int.reduceLE, Int.reduceNe, seqC, retC, skipC, exitC, blockC, condC, Bool.true_or, Bool.false_or, Bool.or_true, Bool.or_false, Bool.true_and, Bool.false_and, Bool.and_true, Bool.and_false, r20_1, g1, g2]
    refine hK _ _ _ (C.cond false (by simp only [↓opStep_eq, ↓reduceIte, ↓EW, EV, Nat.reduceAdd, Nat.reduceEqDiff, Int.reduceEq, Int.reduceLT, Int.reduceLE, Int.reduceNe, seqC, retC, skipC, exitC, blockC, condC]) (fun g => by cases g) fun _ => C.skip (C.seq fun K hK => ?_))
    simp only [↓opStep_eq, ↓reduceIte, ↓EW, EV, Nat.reduceAdd, Nat.reduceEqDiff, Int.reduceEq, Int.reduceLT, Int.reduceLE, Int.reduceNe, seqC, retC, skipC, exitC, blockC, condC, r20_3, rfNil, stz]
    refine hK _ _ _ (C.ret ⟨.inr rfl, [rfV z (.slice none 0 0), .int .i64 0], ?_, hfar _, .inr ⟨hz, rfl⟩⟩)
    simp only [↓opStep_eq, ↓reduceIte, ↓EW, EV, Nat.reduceAdd, Nat.reduceEqDiff, Int.reduceEq, Int.reduceLT, Int.reduceLE, Int.reduceNe, seqC, retC, skipC, exitC, blockC, condC, q20, loadR (Has.put hlt)]
  · by_cases g1 : z < 0
    · simp only [↓opStep_eq, ↓reduceIte, ↓EW, EV, Nat.reduceAdd, Nat.reduceEqDiff, Int.reduceEq, Int.reduceLT, Int.reduceLE, Int.reduceNe, seqC, retC, skipC, exitC, blockC, condC, Bool.true_or, Bool.false_or, Bool.or_true, Bool.or_false, Bool.true_and, Bool.false_and, Bool.and_true, Bool.and_false, r20_1, g1]
      refine hK _ _ _ (C.cond true (by simp only [↓opStep_eq, ↓reduceIte, ↓EW, EV, Nat.reduceAdd, Nat.reduceEqDiff, Int.reduceEq, Int.reduceLT, Int.reduceLE, Int.reduceNe, seqC, retC, skipC, exitC, blockC, condC]) (fun _ => fun K hK => ?_) fun g => by cases g)
      rw [show ∀ x : CodeT, (⟨x⟩ : Box CodeT).f = x from fun _ => rfl]
      refine bad hz _ K ?_ fun tm' e2 e3 => hK _ _ _ ⟨.inr rfl, [rfV 0 (.slice none 0 0), .int .i64 2], ?_, hfar _, .inl ⟨hz, rfl⟩⟩
      · simp only [↓opStep_eq, ↓reduceIte, ↓EW, EV, Nat.reduceAdd, Nat.reduceEqDiff, Int.reduceEq, Int.reduceLT, Int.reduceLE, Int.reduceNe, seqC, retC, skipC, exitC, blockC, condC]
      · simp only [↓opStep_eq, ↓reduceIte, ↓EW, EV, Nat.reduceAdd, Nat.reduceEqDiff, Int.reduceEq, Int.reduceLT, Int.reduceLE, Int.reduceNe, seqC, retC, skipC, exitC, blockC, condC, q20, e2, e3, loadR (Has.put hlt)]
    · have g2 : (1099511627776 : Int) < z := by omega
      simp only [↓opStep_eq, ↓reduceIte, ↓EW, EV, Nat.reduceAdd, Nat.reduceEqDiff, Int.reduceEq, Int.reduceLT, Int.reduceLE, Int.reduceNe, seqC, retC, skipC, exitC, blockC, condC, Bool.true_or, Bool.false_or, Bool.or_true, Bool.or_false, Bool.true_and, Bool.false_and, Bool.and_true, Bool.and_false, r20_1, g1, g2]
      refine hK _ _ _ (C.cond true (by simp only [↓opStep_eq, ↓reduceIte, ↓EW, EV, Nat.reduceAdd, Nat.reduceEqDiff, Int.reduceEq, Int.reduceLT, Int.reduceLE, Int.reduceNe, seqC, retC, skipC, exitC, blockC, condC]) (fun _ => fun K hK => ?_) fun g => by cases g)
      rw [show ∀ x : CodeT, (⟨x⟩ : Box CodeT).f = x from fun _ => rfl]
      refine bad hz _ K ?_ fun tm' e2 e3 => hK _ _ _ ⟨.inr rfl, [rfV 0 (.slice none 0 0), .int .i64 2], ?_, hfar _, .inl ⟨hz, rfl⟩⟩
      · simp only [↓opStep_eq, ↓reduceIte, ↓EW, EV, Nat.reduceAdd, Nat.reduceEqDiff, Int.reduceEq, Int.reduceLT, Int.reduceLE, Int.reduceNe, seqC, retC, skipC, exitC, blockC, condC]
      · simp only [↓opStep_eq, ↓reduceIte, ↓EW, EV, Nat.reduceAdd, Nat.reduceEqDiff, Int.reduceEq, Int.reduceLT, Int.reduceLE, Int.reduceNe, seqC, retC, skipC, exitC, blockC, condC, q20, e2, e3, loadR (Has.put hlt)]

/-- a name's place -/
structure Fd (es : List En) (x : Nm) (z : Int) : Prop where
  at_ : ∀ (i : Nat) e, es[i]? = some e → ((i : Int) = z ↔ e.1 = x)
  is : (z = -1 ∧ ∀ e ∈ es, e.1 ≠ x) ∨ ∃ (i u : Nat), z = (i : Int) ∧ es[i]? = some (x, u)
theorem name_at_ne (es : List En) (nd : (es.map (·.1)).Nodup) {i j : Nat} {e e' : En} (h1 : es[i]? = some e) (h2 : es[j]? = some e') (h : e.1 = e'.1) : i = j := by
  have hi : i < (es.map (·.1)).length := by rw [List.length_map]; exact (List.getElem?_eq_some_iff.1 h1).1
  refine (List.getElem?_inj hi nd).1 ?_
  rw [List.getElem?_map, List.getElem?_map, h1, h2]
  show some e.1 = some e'.1
  rw [h]
theorem find_law (L n : Nat) (hL : 300000 < L) {P : Nat → Prop} {h : H} {p : Option Addr} {q c : Nat} {es : List En} (a : Dq P h (.slice p q c) (outD es)) (nd : (es.map (·.1)).Nodup) (hlen : es.length ≤ 1000) (now : Int) (x : Nm) :
    Sp (CF L (n + 1)) 45 [rfV now (.slice p q c), x.v] h fun r h' => Keep nobody h h' ∧ ∃ z, r = .int .i64 z ∧ Fd es x z := by
  refine Sp.body f45 (by simp) ?_
  unfold c45
  have k1 := Keep.new h (.rw [.int .i64 now, .slice p q c])
  have b1 := Has.new h (.rw [.int .i64 now, .slice p q c])
  refine C.seq fun K hK => ?_
  simp only [↓opStep_eq, ↓reduceIte, ↓EW, EV, Nat.reduceAdd, Nat.reduceEqDiff, Int.reduceEq, Int.reduceLT, Int.reduceLE, Int.reduceNe, seqC, retC, skipC, exitC, blockC, condC, r45_0, rfCells, cells2]
  have a1 := a.keep0 k1
  generalize h.next = B at *
  generalize h.new (.rw [.int .i64 now, .slice p q c]) = h1 at *
  have k2 := Keep.new h1 (.rw [.int .i64 x.1, .string x.2])
  have b2 := Has.new h1 (.rw [.int .i64 x.1, .string x.2])
  have a2 := a1.keep0 k2
  have b1' := b1.keep0 k2
  generalize h1.next = N at *
  generalize h1.new (.rw [.int .i64 x.1, .string x.2]) = h2 at *
  refine hK _ _ _ (C.seq (C.seq fun K hK => ?_))
  simp only [↓opStep_eq, ↓reduceIte, ↓EW, EV, Nat.reduceAdd, Nat.reduceEqDiff, Int.reduceEq, Int.reduceLT, Int.reduceLE, Int.reduceNe, seqC, retC, skipC, exitC, blockC, condC, r45_1]
  refine hK .norm _ _ ?_
  refine C.block (C.loop (fun m tm' hx => ∃ i, m = es.length - i ∧ i ≤ es.length ∧ Keep nobody h2 hx ∧ (∀ e ∈ es.take i, e.1 ≠ x) ∧ tg tm' 2 = .pointer (some ⟨B, 0, none⟩) ∧ tg tm' 3 = .pointer (some ⟨N, 0, none⟩) ∧ tg tm' 5 = .int .i64 (i : Int)) es.length (by omega)
    ⟨0, rfl, by omega, .refl _ _, (fun e he => by simp at he), by simp only [↓opStep_eq, ↓reduceIte, ↓EW, EV, Nat.reduceAdd, Nat.reduceEqDiff, Int.reduceEq, Int.reduceLT, Int.reduceLE, Int.reduceNe, seqC, retC, skipC, exitC, blockC, condC], by simp only [↓opStep_eq, ↓reduceIte, ↓EW, EV, Nat.reduceAdd, Nat.reduceEqDiff, Int.reduceEq, Int.reduceLT, Int.reduceLE, Int.reduceNe, seqC, retC, skipC, exitC, blockC, condC], by simp only [↓opStep_eq, ↓reduceIte, ↓EW, EV, Nat.reduceAdd, Nat.reduceEqDiff, Int.reduceEq, Int.reduceLT, Int.reduceLE, Int.reduceNe, seqC, retC, skipC, exitC, blockC, condC] <;> rfl⟩ ?_)
  rintro m tm hx ⟨i, rfl, hi, kx, hno, t2, t3, t5⟩
  have ax := a2.keep0 kx
  have bx := b1'.keep0 kx
  have hl := ax.dv.len
  rw [outD_len] at hl
  unfold l45_6
  refine C.seq (C.seq fun K hK => ?_)
  simp only [↓opStep_eq, ↓reduceIte, ↓EW, EV, Nat.reduceAdd, Nat.reduceEqDiff, Int.reduceEq, Int.reduceLT, Int.reduceLE, Int.reduceNe, seqC, retC, skipC, exitC, blockC, condC, r45_2, t2, t5, load1 bx, hl]
  refine hK _ _ _ (C.cond (decide ((i : Int) < (es.length : Int))) (by simp only [↓opStep_eq, ↓reduceIte, ↓EW, EV, Nat.reduceAdd, Nat.reduceEqDiff, Int.reduceEq, Int.reduceLT, Int.reduceLE, Int.reduceNe, seqC, retC, skipC, exitC, blockC, condC]) (fun g => C.skip ?_) fun g => C.exit ?_)
  · have g : i < es.length := by have := of_decide_eq_true g; omega
    obtain ⟨⟨y, w⟩, he⟩ : ∃ e, es[i]? = some e := ⟨_, List.getElem?_eq_getElem g⟩
    have kr := kx.then (keep_room hx 8)
    have br := b1'.keep0 kr
    have cr := b2.keep0 kr
    obtain ⟨p2, ixp, ap⟩ := (a2.keep0 kr).dv.at (outD_at he)
    have apn := ap.nm
    have nq : binV Try.prog .eql 39 false y.v (nameV x.1 x.2) = some (.bool (decide (y = x))) := by
      have := name_eql y.1 x.1 y.2 x.2
      have e : decide (y.1 = x.1 ∧ y.2 = x.2) = decide (y = x) := decide_eq_decide.2 ⟨fun h => Prod.ext h.1 h.2, fun h => by rw [h]; exact ⟨rfl, rfl⟩⟩
      rw [e] at this
      exact this
    have w1 := wadd1 i (by omega)
    refine C.seq (C.block (C.seq fun K hK => ?_))
    simp only [↓opStep_eq, ↓reduceIte, ↓EW, EV, Nat.reduceAdd, Nat.reduceEqDiff, Int.reduceEq, Int.reduceLT, Int.reduceLE, Int.reduceNe, seqC, retC, skipC, exitC, blockC, condC, r45_4, t2, t3, t5, load1 br, load2 cr, ixp, Nat.add_zero, apn, nq]
    refine hK _ _ _ (C.cond (decide (y = x)) (by simp only [↓opStep_eq, ↓reduceIte, ↓EW, EV, Nat.reduceAdd, Nat.reduceEqDiff, Int.reduceEq, Int.reduceLT, Int.reduceLE, Int.reduceNe, seqC, retC, skipC, exitC, blockC, condC]) (fun gy => C.seq fun K hK => ?_) fun gy => C.skip fun K hK => ?_)
    · have gy := of_decide_eq_true gy
      subst gy
      simp only [↓opStep_eq, ↓reduceIte, ↓EW, EV, Nat.reduceAdd, Nat.reduceEqDiff, Int.reduceEq, Int.reduceLT, Int.reduceLE, Int.reduceNe, seqC, retC, skipC, exitC, blockC, condC, r45_5, t5]
      refine hK .norm _ _ (C.ret ⟨.inr rfl, _, rfl, (k1.then k2).then kr, (i : Int), by simp only [↓opStep_eq, ↓reduceIte, ↓EW, EV, Nat.reduceAdd, Nat.reduceEqDiff, Int.reduceEq, Int.reduceLT, Int.reduceLE, Int.reduceNe, seqC, retC, skipC, exitC, blockC, condC, resOf], fun j e hj => ?_, .inr ⟨i, w, rfl, he⟩⟩)
      constructor
      · intro hji
        have : j = i := by omega
        subst this
        rw [hj] at he; cases he; rfl
      · intro hx'
        rw [name_at_ne es nd hj he hx']
    · have gy := of_decide_eq_false gy
      simp only [↓opStep_eq, ↓reduceIte, ↓EW, EV, Nat.reduceAdd, Nat.reduceEqDiff, Int.reduceEq, Int.reduceLT, Int.reduceLE, Int.reduceNe, seqC, retC, skipC, exitC, blockC, condC, r45_3, t5, w1]
      refine hK _ _ _ ⟨es.length - (i + 1), by omega, i + 1, rfl, by omega, kr, fun e he' => ?_, by simp only [↓opStep_eq, ↓reduceIte, ↓EW, EV, Nat.reduceAdd, Nat.reduceEqDiff, Int.reduceEq, Int.reduceLT, Int.reduceLE, Int.reduceNe, seqC, retC, skipC, exitC, blockC, condC, t2], by simp only [↓opStep_eq, ↓reduceIte, ↓EW, EV, Nat.reduceAdd, Nat.reduceEqDiff, Int.reduceEq, Int.reduceLT, Int.reduceLE, Int.reduceNe, seqC, retC, skipC, exitC, blockC, condC, t3], by simp only [↓opStep_eq, ↓reduceIte, ↓EW, EV, Nat.reduceAdd, Nat.reduceEqDiff, Int.reduceEq, Int.reduceLT, Int.reduceLE, Int.reduceNe, seqC, retC, skipC, exitC, blockC, condC]⟩
      rw [List.take_add_one, he, List.mem_append] at he'
      rcases he' with he' | he'
      · exact hno e he'
      · simp at he'; subst he'; exact gy
  · simp only [if_pos]
    have g : i = es.length := by have := of_decide_eq_false g; omega
    subst g
    rw [List.take_length] at hno
    refine C.seq fun K hK => ?_
    simp only [↓opStep_eq, ↓reduceIte, ↓EW, EV, Nat.reduceAdd, Nat.reduceEqDiff, Int.reduceEq, Int.reduceLT, Int.reduceLE, Int.reduceNe, seqC, retC, skipC, exitC, blockC, condC, r45_6]
    refine hK .norm _ _ (C.ret ⟨.inr rfl, _, rfl, (k1.then k2).then kx, -1, by simp only [↓opStep_eq, ↓reduceIte, ↓EW, EV, Nat.reduceAdd, Nat.reduceEqDiff, Int.reduceEq, Int.reduceLT, Int.reduceLE, Int.reduceNe, seqC, retC, skipC, exitC, blockC, condC, resOf], fun j e hj => ?_, .inl ⟨rfl, hno⟩⟩)
    constructor
    · intro h; omega
    · intro h; exact absurd h (hno e (List.mem_of_getElem? hj))
end Go.Proofs.Ytpoedopdcpejmaa

namespace Go.Proofs.Ytpoedopdcpejmaa
open Go.Ev

theorem wo_app (a b : List En) (x : Nm) : wo (a ++ b) x = wo a x ++ wo b x := List.filter_append ..
theorem outD_app (a b : List En) : outD (a ++ b) = outD a ++ outD b := List.map_append ..
theorem wo_len (l : List En) (x : Nm) : (wo l x).length ≤ l.length := List.length_filter_le _ _

theorem without_law (L n : Nat) (hL : 300000 < L) {P : Nat → Prop} {h : H} {p : Option Addr} {q c : Nat} {es : List En} (a : Dq P h (.slice p q c) (outD es)) (hlen : es.length ≤ 1000) (now : Int) {x : Nm} {z : Int} (hz : ∀ (i : Nat) e, es[i]? = some e → ((i : Int) = z ↔ e.1 = x)) :
    Sp (CF L (n + 1)) 46 [rfV now (.slice p q c), .int .i64 z] h fun r h' => Keep nobody h h' ∧ ∃ p' q' c', r = rfV now (.slice p' q' c') ∧ Dq (h.next ≤ ·) h' (.slice p' q' c') (outD (wo es x)) := by
  refine Sp.body f46 (by simp) ?_
  unfold c46
  have k1 := Keep.new h (.rw [.int .i64 now, .slice p q c])
  have b1 := Has.new h (.rw [.int .i64 now, .slice p q c])
  refine C.seq fun K hK => ?_
  simp only [↓opStep_eq, ↓reduceIte, ↓EW, EV, Nat.reduceAdd, Nat.reduceEqDiff, Int.reduceEq, Int.reduceLT, Int.reduceLE, Int.reduceNe, seqC, retC, skipC, exitC, blockC, condC, r46_0, rfCells, ptrTo]
  have a1 := a.keep0 k1
  have hn1 : (h.new (.rw [.int .i64 now, .slice p q c])).next = h.next + 1 := rfl
  generalize hB : h.next = B at *
  generalize h.new (.rw [.int .i64 now, .slice p q c]) = h1 at *
  have k2 := Keep.new h1 (.rw [.int .i64 0, .slice none 0 0])
  have b2 := Has.new h1 (.rw [.int .i64 0, .slice none 0 0])
  have a2 := a1.keep0 k2
  have b1' := b1.keep0 k2
  have hn2 : (h1.new (.rw [.int .i64 0, .slice none 0 0])).next = h1.next + 1 := rfl
  generalize hR : h1.next = R at *
  generalize h1.new (.rw [.int .i64 0, .slice none 0 0]) = h2 at *
  refine hK _ _ _ (C.seq fun K hK => ?_)
  simp only [↓opStep_eq, ↓reduceIte, ↓EW, EV, Nat.reduceAdd, Nat.reduceEqDiff, Int.reduceEq, Int.reduceLT, Int.reduceLE, Int.reduceNe, seqC, retC, skipC, exitC, blockC, condC, r46_1]
  refine hK .norm _ _ (C.seq (C.seq fun K hK => ?_))
  simp only [↓opStep_eq, ↓reduceIte, ↓EW, EV, Nat.reduceAdd, Nat.reduceEqDiff, Int.reduceEq, Int.reduceLT, Int.reduceLE, Int.reduceNe, seqC, retC, skipC, exitC, blockC, condC, r46_2]
  refine hK .norm _ _ ?_
  refine C.block (C.loop (fun m tm' hx => ∃ i, m = es.length - i ∧ i ≤ es.length ∧ Keep nobody h2 hx ∧ Dq (h2.next ≤ ·) hx (tg tm' 5) (outD (wo (es.take i) x)) ∧ tg tm' 1 = .int .i64 z ∧ tg tm' 2 = .pointer (some ⟨B, 0, none⟩) ∧ tg tm' 4 = .pointer (some ⟨R, 0, none⟩) ∧ tg tm' 6 = .int .i64 (i : Int)) es.length (by omega)
    ⟨0, rfl, by omega, .refl _ _, .inl ⟨by simp only [↓opStep_eq, ↓reduceIte, ↓EW, EV, Nat.reduceAdd, Nat.reduceEqDiff, Int.reduceEq, Int.reduceLT, Int.reduceLE, Int.reduceNe, seqC, retC, skipC, exitC, blockC, condC], rfl⟩, by simp only [↓opStep_eq, ↓reduceIte, ↓EW, EV, Nat.reduceAdd, Nat.reduceEqDiff, Int.reduceEq, Int.reduceLT, Int.reduceLE, Int.reduceNe, seqC, retC, skipC, exitC, blockC, condC], by simp only [↓opStep_eq, ↓reduceIte, ↓EW, EV, Nat.reduceAdd, Nat.reduceEqDiff, Int.reduceEq, Int.reduceLT, Int.reduceLE, Int.reduceNe, seqC, retC, skipC, exitC, blockC, condC], by simp only [↓opStep_eq, ↓reduceIte, ↓EW, EV, Nat.reduceAdd, Nat.reduceEqDiff, Int.reduceEq, Int.reduceLT, Int.reduceLE, Int.reduceNe, seqC, retC, skipC, exitC, blockC, condC], by simp only [↓opStep_eq, ↓reduceIte, ↓EW, EV, Nat.reduceAdd, Nat.reduceEqDiff, Int.reduceEq, Int.reduceLT, Int.reduceLE, Int.reduceNe, seqC, retC, skipC, exitC, blockC, condC] <;> rfl⟩ ?_)
  rintro m tm hx ⟨i, rfl, hi, kx, dq, t1, t2, t4, t6⟩
  have ax := a2.keep0 kx
  have bx := b1'.keep0 kx
  have hl := ax.dv.len
  rw [outD_len] at hl
  unfold l46_7
  refine C.seq (C.seq fun K hK => ?_)
  simp only [↓opStep_eq, ↓reduceIte, ↓EW, EV, Nat.reduceAdd, Nat.reduceEqDiff, Int.reduceEq, Int.reduceLT, Int.reduceLE, Int.reduceNe, seqC, retC, skipC, exitC, blockC, condC, r46_3, t2, t6, load1 bx, hl]
  refine hK _ _ _ (C.cond (decide ((i : Int) < (es.length : Int))) (by simp only [↓opStep_eq, ↓reduceIte, ↓EW, EV, Nat.reduceAdd, Nat.reduceEqDiff, Int.reduceEq, Int.reduceLT, Int.reduceLE, Int.reduceNe, seqC, retC, skipC, exitC, blockC, condC]) (fun g => C.skip ?_) fun g => C.exit ?_)
  · have g : i < es.length := by have := of_decide_eq_true g; omega
    obtain ⟨⟨y, w⟩, he⟩ : ∃ e, es[i]? = some e := ⟨_, List.getElem?_eq_getElem g⟩
    have htk : es.take (i + 1) = es.take i ++ [(y, w)] := by rw [List.take_add_one, he]; rfl
    have w1 := wadd1 i (by omega)
    refine C.seq (C.block (C.seq fun K hK => ?_))
    simp only [↓opStep_eq, ↓reduceIte, ↓EW, EV, Nat.reduceAdd, Nat.reduceEqDiff, Int.reduceEq, Int.reduceLT, Int.reduceLE, Int.reduceNe, seqC, retC, skipC, exitC, blockC, condC, r46_5, t1, t6]
    refine hK _ _ _ (C.cond (!decide ((i : Int) = z)) (by simp only [↓opStep_eq, ↓reduceIte, ↓EW, EV, Nat.reduceAdd, Nat.reduceEqDiff, Int.reduceEq, Int.reduceLT, Int.reduceLE, Int.reduceNe, seqC, retC, skipC, exitC, blockC, condC]) (fun gy => fun K hK => ?_) fun gy => C.skip fun K hK => ?_)
    · have gy : ¬ (i : Int) = z := by simpa using gy
      have hy : y ≠ x := fun e => gy ((hz i _ he).2 e)
      obtain ⟨p2, ixp, ap⟩ := ax.dv.at (outD_at he)
      have apa := ap.all
      have k3 := Keep.new hx (.rw [.int .i64 y.1, .string y.2, .int .i64 (w : Int)])
      have b3 := Has.new hx (.rw [.int .i64 y.1, .string y.2, .int .i64 (w : Int)])
      simp only [↓opStep_eq, ↓reduceIte, ↓EW, EV, Nat.reduceAdd, Nat.reduceEqDiff, Int.reduceEq, Int.reduceLT, Int.reduceLE, Int.reduceNe, seqC, retC, skipC, exitC, blockC, condC, r46_6, t2, t6, load1 bx, ixp, apa, litD]
      have dq3 := dq.keep0 k3
      have hnx := kx.next
      have hn3 : (hx.new (.rw [.int .i64 y.1, .string y.2, .int .i64 (w : Int)])).next = hx.next + 1 := rfl
      generalize hx.new (.rw [.int .i64 y.1, .string y.2, .int .i64 (w : Int)]) = h3 at *
      obtain ⟨v4, h4, e4, dq4, k4⟩ := dq3.append (y, (w : Int)) b3 (fun c hc => by omega) (by rw [outD_len]; have := wo_len (es.take i) x; rw [List.length_take] at this; omega)
      simp only [↓opStep_eq, ↓reduceIte, ↓EW, EV, Nat.reduceAdd, Nat.reduceEqDiff, Int.reduceEq, Int.reduceLT, Int.reduceLE, Int.reduceNe, seqC, retC, skipC, exitC, blockC, condC, e4]
      refine hK _ _ _ fun K hK => ?_
      simp only [↓opStep_eq, ↓reduceIte, ↓EW, EV, Nat.reduceAdd, Nat.reduceEqDiff, Int.reduceEq, Int.reduceLT, Int.reduceLE, Int.reduceNe, seqC, retC, skipC, exitC, blockC, condC, r46_4, t6, w1]
      refine hK _ _ _ ⟨es.length - (i + 1), by omega, i + 1, rfl, by omega, (kx.then k3).trans k4 fun c hc e => by omega, ?_, by simp only [↓opStep_eq, ↓reduceIte, ↓EW, EV, Nat.reduceAdd, Nat.reduceEqDiff, Int.reduceEq, Int.reduceLT, Int.reduceLE, Int.reduceNe, seqC, retC, skipC, exitC, blockC, condC, t1], by simp only [↓opStep_eq, ↓reduceIte, ↓EW, EV, Nat.reduceAdd, Nat.reduceEqDiff, Int.reduceEq, Int.reduceLT, Int.reduceLE, Int.reduceNe, seqC, retC, skipC, exitC, blockC, condC, t2], by simp only [↓opStep_eq, ↓reduceIte, ↓EW, EV, Nat.reduceAdd, Nat.reduceEqDiff, Int.reduceEq, Int.reduceLT, Int.reduceLE, Int.reduceNe, seqC, retC, skipC, exitC, blockC, condC, t4], by simp only [↓opStep_eq, ↓reduceIte, ↓EW, EV, Nat.reduceAdd, Nat.reduceEqDiff, Int.reduceEq, Int.reduceLT, Int.reduceLE, Int.reduceNe, seqC, retC, skipC, exitC, blockC, condC]⟩
      have e5 : outD (wo (es.take (i + 1)) x) = outD (wo (es.take i) x) ++ [(y, (w : Int))] := by
        rw [htk, wo_app, outD_app]
        congr 1
        show outD (List.filter _ [(y, w)]) = _
        rw [List.filter_cons, if_pos (by simp [hy])]; rfl
      rw [e5]
      simp only [↓opStep_eq, ↓reduceIte, ↓EW, EV, Nat.reduceAdd, Nat.reduceEqDiff, Int.reduceEq, Int.reduceLT, Int.reduceLE, Int.reduceNe, seqC, retC, skipC, exitC, blockC, condC]
      exact dq4
    · have gy : (i : Int) = z := by simpa using gy
      have hy : y = x := (hz i _ he).1 gy
      simp only [↓opStep_eq, ↓reduceIte, ↓EW, EV, Nat.reduceAdd, Nat.reduceEqDiff, Int.reduceEq, Int.reduceLT, Int.reduceLE, Int.reduceNe, seqC, retC, skipC, exitC, blockC, condC, r46_4, t6, w1]
      refine hK _ _ _ ⟨es.length - (i + 1), by omega, i + 1, rfl, by omega, kx, ?_, by simp only [↓opStep_eq, ↓reduceIte, ↓EW, EV, Nat.reduceAdd, Nat.reduceEqDiff, Int.reduceEq, Int.reduceLT, Int.reduceLE, Int.reduceNe, seqC, retC, skipC, exitC, blockC, condC, t1], by simp only [↓opStep_eq, ↓reduceIte, ↓EW, EV, Nat.reduceAdd, Nat.reduceEqDiff, Int.reduceEq, Int.reduceLT, Int.reduceLE, Int.reduceNe, seqC, retC, skipC, exitC, blockC, condC, t2], by simp only [↓opStep_eq, ↓reduceIte, ↓EW, EV, Nat.reduceAdd, Nat.reduceEqDiff, Int.reduceEq, Int.reduceLT, Int.reduceLE, Int.reduceNe, seqC, retC, skipC, exitC, blockC, condC, t4], by simp only [↓opStep_eq, ↓reduceIte, ↓EW, EV, Nat.reduceAdd, Nat.reduceEqDiff, Int.reduceEq, Int.reduceLT, Int.reduceLE, Int.reduceNe, seqC, retC, skipC, exitC, blockC, condC]⟩
      have e5 : wo (es.take (i + 1)) x = wo (es.take i) x := by
        rw [htk, wo_app]
        have : wo [(y, w)] x = [] := by
          show List.filter _ [(y, w)] = _
          rw [List.filter_cons, if_neg (by simp [hy])]; rfl
        rw [this, List.append_nil]
      rw [e5]
      simp only [↓opStep_eq, ↓reduceIte, ↓EW, EV, Nat.reduceAdd, Nat.reduceEqDiff, Int.reduceEq, Int.reduceLT, Int.reduceLE, Int.reduceNe, seqC, retC, skipC, exitC, blockC, condC]
      exact dq
  · simp only [if_pos]
    have g : i = es.length := by have := of_decide_eq_false g; omega
    subst g
    rw [List.take_length] at dq
    obtain ⟨p', q', c', e5⟩ := dq.form
    rw [e5] at dq
    have cx := b2.keep0 kx
    have st := storeR (s := none) cx now p' q' c'
    refine C.seq fun K hK => ?_
    simp only [↓opStep_eq, ↓reduceIte, ↓EW, EV, Nat.reduceAdd, Nat.reduceEqDiff, Int.reduceEq, Int.reduceLT, Int.reduceLE, Int.reduceNe, seqC, retC, skipC, exitC, blockC, condC, r46_7, t2, t4, e5, load0 bx, rfLit, st]
    have kk : Keep nobody h (hx.put R (.rw [.int .i64 now, .slice p' q' c'])) := ((k1.then k2).then kx).trans (Keep.put hx R _) fun c hc e => by have e : c = R := e; omega
    have hnx := kx.next
    have dq5 : Dq (B ≤ ·) (hx.put R (.rw [.int .i64 now, .slice p' q' c'])) (.slice p' q' c') (outD (wo es x)) := (dq.keep (Keep.put hx R (.rw [.int .i64 now, .slice p' q' c'])) fun c e hc => by have e : c = R := e; omega).mono fun c _ hc => by omega
    refine hK _ _ _ (C.ret ⟨.inr rfl, [rfV now (.slice p' q' c')], ?_, kk, p', q', c', rfl, dq5⟩)
    simp only [↓opStep_eq, ↓reduceIte, ↓EW, EV, Nat.reduceAdd, Nat.reduceEqDiff, Int.reduceEq, Int.reduceLT, Int.reduceLE, Int.reduceNe, seqC, retC, skipC, exitC, blockC, condC, q46, t4, loadR (Has.put cx.1)]

/-! ### Del, Until -/
def RDel (es : List En) (x : Nm) (es' : List En) (e : Int) : Prop := (¬ validN x.1 x.2 ∧ es' = es ∧ e = 8) ∨ (validN x.1 x.2 ∧ (∀ y ∈ es, y.1 ≠ x) ∧ es' = es ∧ e = 6) ∨ (validN x.1 x.2 ∧ (∃ u, (x, u) ∈ es) ∧ es' = wo es x ∧ e = 0)
theorem rdel_law (L n : Nat) (hL : 300000 < L) {P : Nat → Prop} {h : H} {p : Option Addr} {q c : Nat} {es : List En} (a : Dq P h (.slice p q c) (outD es)) (nd : (es.map (·.1)).Nodup) (hlen : es.length ≤ 1000) (now : Int) (x : Nm) :
    Sp (CF L (n + 3)) 34 [rfV now (.slice p q c), x.v] h fun r h' => Keep nobody h h' ∧ ∃ p' q' c' es' e, r = .tuple [rfV now (.slice p' q' c'), .int .i64 e].toArray ∧ Dq (fun d => P d ∨ h.next ≤ d) h' (.slice p' q' c') (outD es') ∧ RDel es x es' e := by
  refine Sp.body f34 (by simp) ?_
  unfold c34
  have k1 := Keep.new h (.rw [.int .i64 now, .slice p q c])
  have b1 := Has.new h (.rw [.int .i64 now, .slice p q c])
  refine C.seq fun K hK => ?_
  simp only [↓opStep_eq, ↓reduceIte, ↓EW, EV, Nat.reduceAdd, Nat.reduceEqDiff, Int.reduceEq, Int.reduceLT, Int.reduceLE, Int.reduceNe, seqC, retC, skipC, exitC, blockC, condC, r34_0, rfCells, cells2, ptrTo]
  have a1 := a.keep0 k1
  have hn1 : (h.new (.rw [.int .i64 now, .slice p q c])).next = h.next + 1 := rfl
  generalize hB : h.next = B at *
  generalize h.new (.rw [.int .i64 now, .slice p q c]) = h1 at *
  have k2 := Keep.new h1 (.rw [.int .i64 x.1, .string x.2])
  have b2 := Has.new h1 (.rw [.int .i64 x.1, .string x.2])
  have a2 := a1.keep0 k2
  have b1 := b1.keep0 k2
  have hn2 : (h1.new (.rw [.int .i64 x.1, .string x.2])).next = h1.next + 1 := rfl
  generalize hN : h1.next = N at *
  generalize h1.new (.rw [.int .i64 x.1, .string x.2]) = h2 at *
  have k3 := Keep.new h2 (.rw [.int .i64 0, .slice none 0 0])
  have b3 := Has.new h2 (.rw [.int .i64 0, .slice none 0 0])
  have a3 := a2.keep0 k3
  have b1 := b1.keep0 k3
  have b2 := b2.keep0 k3
  have hn3 : (h2.new (.rw [.int .i64 0, .slice none 0 0])).next = h2.next + 1 := rfl
  generalize hR : h2.next = R at *
  generalize h2.new (.rw [.int .i64 0, .slice none 0 0]) = h3 at *
  have k03 : Keep nobody h h3 := (k1.then k2).then k3
  refine hK _ _ _ (C.seq (C.seq fun K hK => ?_))
  simp only [↓opStep_eq, ↓reduceIte, ↓EW, EV, Nat.reduceAdd, Nat.reduceEqDiff, Int.reduceEq, Int.reduceLT, Int.reduceLE, Int.reduceNe, seqC, retC, skipC, exitC, blockC, condC, r34_1, load2 b2]
  refine name43_law L n x.1 x.2 h3 _ fun r h4 hq => ?_
  obtain ⟨rfl, k4⟩ := hq
  have a4 := a3.keep0 k4
  have b1 := b1.keep0 k4
  have b2 := b2.keep0 k4
  have b3 := b3.keep0 k4
  have k04 := k03.then k4
  -- the same wheel again
  have same : ∀ (hz : H), Keep nobody h4 hz → Keep nobody h (hz.put R (.rw [.int .i64 now, .slice p q c])) ∧ Dq (fun d => P d ∨ B ≤ d) (hz.put R (.rw [.int .i64 now, .slice p q c])) (.slice p q c) (outD es) := fun hz kz => by
    refine ⟨(k04.then kz).trans (Keep.put hz R _) fun d hd e => by have e : d = R := e; omega, ?_⟩
    refine (((a.mono (P' := fun d => P d ∧ d < B) fun d hd e => ⟨e, by omega⟩).keep0 (k04.then kz)).keep (Keep.put hz R (.rw [.int .i64 now, .slice p q c])) fun d e hd => by have e : d = R := e; omega).mono fun d _ e => .inl e.1
  by_cases hv : validN x.1 x.2
  · simp only [↓opStep_eq, ↓reduceIte, ↓EW, EV, Nat.reduceAdd, Nat.reduceEqDiff, Int.reduceEq, Int.reduceLT, Int.reduceLE, Int.reduceNe, seqC, retC, skipC, exitC, blockC, condC, hv, decide_true, decide_false]
    refine hK _ _ _ (C.cond false (by simp only [↓opStep_eq, ↓reduceIte, ↓EW, EV, Nat.reduceAdd, Nat.reduceEqDiff, Int.reduceEq, Int.reduceLT, Int.reduceLE, Int.reduceNe, seqC, retC, skipC, exitC, blockC, condC, Bool.not_true]) (fun g => by cases g) fun _ => C.skip (C.seq fun K hK => ?_))
    simp only [↓opStep_eq, ↓reduceIte, ↓EW, EV, Nat.reduceAdd, Nat.reduceEqDiff, Int.reduceEq, Int.reduceLT, Int.reduceLE, Int.reduceNe, seqC, retC, skipC, exitC, blockC, condC, r34_3, loadR b1, load2 b2]
    refine find_law L (n + 1) hL a4 nd hlen now x _ fun r h5 hq => ?_
    obtain ⟨k5, z, rfl, fd⟩ := hq
    have b1 := b1.keep0 k5
    have b3 := b3.keep0 k5
    have a5 := a4.keep0 k5
    refine hK _ _ _ (C.seq (C.seq fun K hK => ?_))
    simp only [↓opStep_eq, ↓reduceIte, ↓EW, EV, Nat.reduceAdd, Nat.reduceEqDiff, Int.reduceEq, Int.reduceLT, Int.reduceLE, Int.reduceNe, seqC, retC, skipC, exitC, blockC, condC, r34_4]
    rcases fd.is with ⟨rfl, hno⟩ | ⟨i, u, rfl, he⟩
    · refine hK _ _ _ (C.cond true (by simp only [↓opStep_eq, ↓reduceIte, ↓EW, EV, Nat.reduceAdd, Nat.reduceEqDiff, Int.reduceEq, Int.reduceLT, Int.reduceLE, Int.reduceNe, seqC, retC, skipC, exitC, blockC, condC] <;> rfl) (fun _ => C.seq fun K hK => ?_) fun g => by cases g)
      have st := storeR (s := none) b3 now p q c
      obtain ⟨k6, dq6⟩ := same h5 k5
      simp only [↓opStep_eq, ↓reduceIte, ↓EW, EV, Nat.reduceAdd, Nat.reduceEqDiff, Int.reduceEq, Int.reduceLT, Int.reduceLE, Int.reduceNe, seqC, retC, skipC, exitC, blockC, condC, r34_5, loadR b1, st]
      refine hK _ _ _ (C.ret ⟨.inr rfl, [rfV now (.slice p q c), .int .i64 6], ?_, k6, p, q, c, es, 6, rfl, dq6, .inr (.inl ⟨hv, hno, rfl, rfl⟩)⟩)
      simp only [↓opStep_eq, ↓reduceIte, ↓EW, EV, Nat.reduceAdd, Nat.reduceEqDiff, Int.reduceEq, Int.reduceLT, Int.reduceLE, Int.reduceNe, seqC, retC, skipC, exitC, blockC, condC, q34, loadR (Has.put b3.1)]
    · have hneg : ¬ ((i : Int) < 0) := by omega
      refine hK _ _ _ (C.cond false (by simp only [↓opStep_eq, ↓reduceIte, ↓EW, EV, Nat.reduceAdd, Nat.reduceEqDiff, Int.reduceEq, Int.reduceLT, Int.reduceLE, Int.reduceNe, seqC, retC, skipC, exitC, blockC, condC, hneg] <;> rfl) (fun g => by cases g) fun _ => C.skip (C.seq fun K hK => ?_))
      simp only [↓opStep_eq, ↓reduceIte, ↓EW, EV, Nat.reduceAdd, Nat.reduceEqDiff, Int.reduceEq, Int.reduceLT, Int.reduceLE, Int.reduceNe, seqC, retC, skipC, exitC, blockC, condC, r34_6, loadR b1]
      refine without_law L (n + 1) hL a5 hlen now fd.at_ _ fun r h6 hq => ?_
      obtain ⟨k6, p', q', c', rfl, dq6⟩ := hq
      have b3 := b3.keep0 k6
      have st := storeR (s := none) b3 now p' q' c'
      simp only [↓opStep_eq, ↓reduceIte, ↓EW, EV, Nat.reduceAdd, Nat.reduceEqDiff, Int.reduceEq, Int.reduceLT, Int.reduceLE, Int.reduceNe, seqC, retC, skipC, exitC, blockC, condC, st]
      have hn5 := k5.next
      have hn4 := k4.next
      refine hK _ _ _ (C.ret ⟨.inr rfl, [rfV now (.slice p' q' c'), .int .i64 0], ?_, ((k04.then k5).then k6).trans (Keep.put h6 R _) fun d hd e => by have e : d = R := e; omega, p', q', c', wo es x, 0, rfl, (dq6.keep (Keep.put h6 R (.rw [.int .i64 now, .slice p' q' c'])) fun d e hd => by have e : d = R := e; omega).mono fun d _ e => .inr (by omega), .inr (.inr ⟨hv, ⟨u, List.mem_of_getElem? he⟩, rfl, rfl⟩)⟩)
      simp only [↓opStep_eq, ↓reduceIte, ↓EW, EV, Nat.reduceAdd, Nat.reduceEqDiff, Int.reduceEq, Int.reduceLT, Int.reduceLE, Int.reduceNe, seqC, retC, skipC, exitC, blockC, condC, q34, loadR (Has.put b3.1)]
  · simp only [↓opStep_eq, ↓reduceIte, ↓EW, EV, Nat.reduceAdd, Nat.reduceEqDiff, Int.reduceEq, Int.reduceLT, Int.reduceLE, Int.reduceNe, seqC, retC, skipC, exitC, blockC, condC, hv, decide_true, decide_false]
    refine hK _ _ _ (C.cond true (by simp only [↓opStep_eq, ↓reduceIte, ↓EW, EV, Nat.reduceAdd, Nat.reduceEqDiff, Int.reduceEq, Int.reduceLT, Int.reduceLE, Int.reduceNe, seqC, retC, skipC, exitC, blockC, condC, Bool.not_false]) (fun _ => C.seq fun K hK => ?_) fun g => by cases g)
    have st := storeR (s := none) b3 now p q c
    obtain ⟨k6, dq6⟩ := same h4 (.refl _ _)
    simp only [↓opStep_eq, ↓reduceIte, ↓EW, EV, Nat.reduceAdd, Nat.reduceEqDiff, Int.reduceEq, Int.reduceLT, Int.reduceLE, Int.reduceNe, seqC, retC, skipC, exitC, blockC, condC, r34_2, loadR b1, st]
    refine hK _ _ _ (C.ret ⟨.inr rfl, [rfV now (.slice p q c), .int .i64 8], ?_, k6, p, q, c, es, 8, rfl, dq6, .inl ⟨hv, rfl, rfl⟩⟩)
    simp only [↓opStep_eq, ↓reduceIte, ↓EW, EV, Nat.reduceAdd, Nat.reduceEqDiff, Int.reduceEq, Int.reduceLT, Int.reduceLE, Int.reduceNe, seqC, retC, skipC, exitC, blockC, condC, q34, loadR (Has.put b3.1)]

def RUntil (es : List En) (x : Nm) (t e : Int) : Prop := (¬ validN x.1 x.2 ∧ t = 0 ∧ e = 8) ∨ (validN x.1 x.2 ∧ (∀ y ∈ es, y.1 ≠ x) ∧ t = 0 ∧ e = 6) ∨ (validN x.1 x.2 ∧ ∃ u : Nat, (x, u) ∈ es ∧ t = (u : Int) ∧ e = 0)
theorem runtil_law (L n : Nat) (hL : 300000 < L) {P : Nat → Prop} {h : H} {p : Option Addr} {q c : Nat} {es : List En} (a : Dq P h (.slice p q c) (outD es)) (nd : (es.map (·.1)).Nodup) (hlen : es.length ≤ 1000) (now : Int) (x : Nm) :
    Sp (CF L (n + 3)) 35 [rfV now (.slice p q c), x.v] h fun r h' => Keep nobody h h' ∧ ∃ t e, r = .tuple [.int .i64 t, .int .i64 e].toArray ∧ RUntil es x t e := by
  refine Sp.body f35 (by simp) ?_
  unfold c35
  have k1 := Keep.new h (.rw [.int .i64 now, .slice p q c])
  have b1 := Has.new h (.rw [.int .i64 now, .slice p q c])
  refine C.seq fun K hK => ?_
  simp only [↓opStep_eq, ↓reduceIte, ↓EW, EV, Nat.reduceAdd, Nat.reduceEqDiff, Int.reduceEq, Int.reduceLT, Int.reduceLE, Int.reduceNe, seqC, retC, skipC, exitC, blockC, condC, r35_0, rfCells, cells2]
  have a1 := a.keep0 k1
  generalize hB : h.next = B at *
  generalize h.new (.rw [.int .i64 now, .slice p q c]) = h1 at *
  have k2 := Keep.new h1 (.rw [.int .i64 x.1, .string x.2])
  have b2 := Has.new h1 (.rw [.int .i64 x.1, .string x.2])
  have a2 := a1.keep0 k2
  have b1 := b1.keep0 k2
  generalize hN : h1.next = N at *
  generalize h1.new (.rw [.int .i64 x.1, .string x.2]) = h2 at *
  refine hK _ _ _ (C.seq (C.seq fun K hK => ?_))
  simp only [↓opStep_eq, ↓reduceIte, ↓EW, EV, Nat.reduceAdd, Nat.reduceEqDiff, Int.reduceEq, Int.reduceLT, Int.reduceLE, Int.reduceNe, seqC, retC, skipC, exitC, blockC, condC, r35_1, load2 b2]
  refine name43_law L n x.1 x.2 h2 _ fun r h4 hq => ?_
  obtain ⟨rfl, k4⟩ := hq
  have a4 := a2.keep0 k4
  have b1 := b1.keep0 k4
  have b2 := b2.keep0 k4
  have k04 : Keep nobody h h4 := (k1.then k2).then k4
  by_cases hv : validN x.1 x.2
  · simp only [↓opStep_eq, ↓reduceIte, ↓EW, EV, Nat.reduceAdd, Nat.reduceEqDiff, Int.reduceEq, Int.reduceLT, Int.reduceLE, Int.reduceNe, seqC, retC, skipC, exitC, blockC, condC, hv, decide_true, decide_false]
    refine hK _ _ _ (C.cond false (by simp only [↓opStep_eq, ↓reduceIte, ↓EW, EV, Nat.reduceAdd, Nat.reduceEqDiff, Int.reduceEq, Int.reduceLT, Int.reduceLE, Int.reduceNe, seqC, retC, skipC, exitC, blockC, condC, Bool.not_true]) (fun g => by cases g) fun _ => C.skip (C.seq fun K hK => ?_))
    simp only [↓opStep_eq, ↓reduceIte, ↓EW, EV, Nat.reduceAdd, Nat.reduceEqDiff, Int.reduceEq, Int.reduceLT, Int.reduceLE, Int.reduceNe, seqC, retC, skipC, exitC, blockC, condC, r35_3, loadR b1, load2 b2]
    refine find_law L (n + 1) hL a4 nd hlen now x _ fun r h5 hq => ?_
    obtain ⟨k5, z, rfl, fd⟩ := hq
    have b1 := b1.keep0 k5
    have a5 := a4.keep0 k5
    refine hK _ _ _ (C.seq (C.seq fun K hK => ?_))
    simp only [↓opStep_eq, ↓reduceIte, ↓EW, EV, Nat.reduceAdd, Nat.reduceEqDiff, Int.reduceEq, Int.reduceLT, Int.reduceLE, Int.reduceNe, seqC, retC, skipC, exitC, blockC, condC, r35_4]
    rcases fd.is with ⟨rfl, hno⟩ | ⟨i, u, rfl, he⟩
    · refine hK _ _ _ (C.cond true (by simp only [↓opStep_eq, ↓reduceIte, ↓EW, EV, Nat.reduceAdd, Nat.reduceEqDiff, Int.reduceEq, Int.reduceLT, Int.reduceLE, Int.reduceNe, seqC, retC, skipC, exitC, blockC, condC] <;> rfl) (fun _ => C.seq fun K hK => ?_) fun g => by cases g)
      simp only [↓opStep_eq, ↓reduceIte, ↓EW, EV, Nat.reduceAdd, Nat.reduceEqDiff, Int.reduceEq, Int.reduceLT, Int.reduceLE, Int.reduceNe, seqC, retC, skipC, exitC, blockC, condC, r35_5]
      exact hK .norm _ _ (C.ret ⟨.inr rfl, _, rfl, k04.then k5, 0, 6, by simp only [↓opStep_eq, ↓reduceIte, ↓EW, EV, Nat.reduceAdd, Nat.reduceEqDiff, Int.reduceEq, Int.reduceLT, Int.reduceLE, Int.reduceNe, seqC, retC, skipC, exitC, blockC, condC, resOf], .inr (.inl ⟨hv, hno, rfl, rfl⟩)⟩)
    · have hneg : ¬ ((i : Int) < 0) := by omega
      refine hK _ _ _ (C.cond false (by simp only [↓opStep_eq, ↓reduceIte, ↓EW, EV, Nat.reduceAdd, Nat.reduceEqDiff, Int.reduceEq, Int.reduceLT, Int.reduceLE, Int.reduceNe, seqC, retC, skipC, exitC, blockC, condC, hneg] <;> rfl) (fun g => by cases g) fun _ => C.skip (C.seq fun K hK => ?_))
      obtain ⟨p2, ixp, ap⟩ := a5.dv.at (outD_at he)
      have apu := ap.un
      simp only [↓opStep_eq, ↓reduceIte, ↓EW, EV, Nat.reduceAdd, Nat.reduceEqDiff, Int.reduceEq, Int.reduceLT, Int.reduceLE, Int.reduceNe, seqC, retC, skipC, exitC, blockC, condC, r35_6, load1 b1, ixp, apu]
      exact hK _ _ _ (C.ret ⟨.inr rfl, _, rfl, k04.then k5, (u : Int), 0, by simp only [↓opStep_eq, ↓reduceIte, ↓EW, EV, Nat.reduceAdd, Nat.reduceEqDiff, Int.reduceEq, Int.reduceLT, Int.reduceLE, Int.reduceNe, seqC, retC, skipC, exitC, blockC, condC, resOf], .inr (.inr ⟨hv, u, List.mem_of_getElem? he, rfl, rfl⟩)⟩)
  · simp only [↓opStep_eq, ↓reduceIte, ↓EW, EV, Nat.reduceAdd, Nat.reduceEqDiff, Int.reduceEq, Int.reduceLT, Int.reduceLE, Int.reduceNe, seqC, retC, skipC, exitC, blockC, condC, hv, decide_true, decide_false]
    refine hK _ _ _ (C.cond true (by simp only [↓opStep_eq, ↓reduceIte, ↓EW, EV, Nat.reduceAdd, Nat.reduceEqDiff, Int.reduceEq, Int.reduceLT, Int.reduceLE, Int.reduceNe, seqC, retC, skipC, exitC, blockC, condC, Bool.not_false]) (fun _ => C.seq fun K hK => ?_) fun g => by cases g)
    simp only [↓opStep_eq, ↓reduceIte, ↓EW, EV, Nat.reduceAdd, Nat.reduceEqDiff, Int.reduceEq, Int.reduceLT, Int.reduceLE, Int.reduceNe, seqC, retC, skipC, exitC, blockC, condC, r35_2]
    exact hK .norm _ _ (C.ret ⟨.inr rfl, _, rfl, k04, 0, 8, by simp only [↓opStep_eq, ↓reduceIte, ↓EW, EV, Nat.reduceAdd, Nat.reduceEqDiff, Int.reduceEq, Int.reduceLT, Int.reduceLE, Int.reduceNe, seqC, retC, skipC, exitC, blockC, condC, resOf], .inl ⟨hv, rfl, rfl⟩⟩)
end Go.Proofs.Ytpoedopdcpejmaa

namespace Go.Proofs.Ytpoedopdcpejmaa
open Go.Ev

/-! ### Tick, in the document's way -/
/-- two sets of new blocks, apart -/
structure Sep (lo hi : Nat) (S1 S2 : Nat → Prop) : Prop where
  s1 : ∀ c, S1 c → lo ≤ c ∧ c < hi
  s2 : ∀ c, S2 c → lo ≤ c ∧ c < hi
  dj : ∀ c, S1 c → ¬ S2 c
structure RTickQ (lo : Nat) (h' : H) (es : List En) (k : Nat) (ev dv : Value) : Prop where
  row : Dq (lo ≤ ·) h' ev (outD (es.filter fun e => decide (k < e.2)))
  due : Nq (lo ≤ ·) h' dv ((es.filter fun e => decide (e.2 ≤ k)).map (·.1))
theorem rtick_law (L n : Nat) (hL : 300000 < L) {P : Nat → Prop} {h : H} {p : Option Addr} {q c : Nat} {es : List En} (a : Dq P h (.slice p q c) (outD es)) (hlen : es.length ≤ 1000) (now : Nat) (t : Int) :
    Sp (CF L (n + 1)) 36 [rfV (now : Int) (.slice p q c), .int .i64 t] h fun r h' => Keep nobody h h' ∧ ((¬ ((now : Int) ≤ t ∧ t ≤ 1099511627776) ∧ r = .tuple [rfV (now : Int) (.slice p q c), .slice none 0 0, .int .i64 2].toArray) ∨
      ∃ (k : Nat) (p' : Option Addr) (q' c' : Nat) (dv : Value), t = (k : Int) ∧ now ≤ k ∧ k ≤ MAXT ∧ r = .tuple [rfV (k : Int) (.slice p' q' c'), dv, .int .i64 0].toArray ∧ RTickQ h.next h' es k (.slice p' q' c') dv) := by
  refine Sp.body f36 (by simp) ?_
  unfold c36
  have k1 := Keep.new h (.rw [.int .i64 (now : Int), .slice p q c])
  have b1 := Has.new h (.rw [.int .i64 (now : Int), .slice p q c])
  refine C.seq fun K hK => ?_
  simp only [↓opStep_eq, ↓reduceIte, ↓EW, EV, Nat.reduceAdd, Nat.reduceEqDiff, Int.reduceEq, Int.reduceLT, Int.reduceLE, Int.reduceNe, seqC, retC, skipC, exitC, blockC, condC, r36_0, rfCells, ptrTo]
  have a1 := a.keep0 k1
  have hn1 : (h.new (.rw [.int .i64 (now : Int), .slice p q c])).next = h.next + 1 := rfl
  generalize hB : h.next = B at *
  generalize h.new (.rw [.int .i64 (now : Int), .slice p q c]) = h1 at *
  have k2 := Keep.new h1 (.rw [.int .i64 0, .slice none 0 0])
  have b2 := Has.new h1 (.rw [.int .i64 0, .slice none 0 0])
  have a2 := a1.keep0 k2
  have b1 := b1.keep0 k2
  have hn2 : (h1.new (.rw [.int .i64 0, .slice none 0 0])).next = h1.next + 1 := rfl
  generalize hR : h1.next = R at *
  generalize h1.new (.rw [.int .i64 0, .slice none 0 0]) = h2 at *
  have k02 : Keep nobody h h2 := k1.then k2
  refine hK _ _ _ (C.seq (C.seq fun K hK => ?_))
  by_cases ht : (now : Int) ≤ t ∧ t ≤ 1099511627776
  · have g1 : ¬ t < (now : Int) := by omega
    have g2 : ¬ (1099511627776 : Int) < t := by omega
    obtain ⟨k, rfl⟩ : ∃ k : Nat, t = (k : Int) := ⟨t.toNat, by omega⟩
    simp only [↓opStep_eq, ↓reduceIte, ↓EW, EV, Nat.reduceAdd, Nat.reduceEqDiff, Int.reduceEq, Int.reduceLT, Int.reduceLE, Int.reduceNe, seqC, retC, skipC, exitC, blockC, condC, Bool.true_or, Bool.false_or, Bool.or_true, Bool.or_false, Bool.true_and, Bool.false_and, Bool.and_true, Bool.and_false, r36_1, load0 b1, g1, g2]
    refine hK _ _ _ (C.cond false (by simp only [↓opStep_eq, ↓reduceIte, ↓EW, EV, Nat.reduceAdd, Nat.reduceEqDiff, Int.reduceEq, Int.reduceLT, Int.reduceLE, Int.reduceNe, seqC, retC, skipC, exitC, blockC, condC]) (fun g => by cases g) fun _ => C.skip (C.seq fun K hK => ?_))
    simp only [↓opStep_eq, ↓reduceIte, ↓EW, EV, Nat.reduceAdd, Nat.reduceEqDiff, Int.reduceEq, Int.reduceLT, Int.reduceLE, Int.reduceNe, seqC, retC, skipC, exitC, blockC, condC, r36_3]
    refine hK .norm _ _ (C.seq fun K hK => ?_)
    simp only [↓opStep_eq, ↓reduceIte, ↓EW, EV, Nat.reduceAdd, Nat.reduceEqDiff, Int.reduceEq, Int.reduceLT, Int.reduceLE, Int.reduceNe, seqC, retC, skipC, exitC, blockC, condC, r36_4]
    refine hK .norm _ _ (C.seq (C.seq fun K hK => ?_))
    simp only [↓opStep_eq, ↓reduceIte, ↓EW, EV, Nat.reduceAdd, Nat.reduceEqDiff, Int.reduceEq, Int.reduceLT, Int.reduceLE, Int.reduceNe, seqC, retC, skipC, exitC, blockC, condC, r36_5]
    refine hK .norm _ _ ?_
    refine C.block (C.loop (fun m tm' hx => ∃ i S1 S2, m = es.length - i ∧ i ≤ es.length ∧ Keep nobody h2 hx ∧ Sep h2.next hx.next S1 S2 ∧ Nq S1 hx (tg tm' 7) (((es.take i).filter fun e => decide (e.2 ≤ k)).map (·.1)) ∧ Dq S2 hx (tg tm' 8) (outD ((es.take i).filter fun e => decide (k < e.2))) ∧ tg tm' 1 = .int .i64 (k : Int) ∧ tg tm' 2 = .pointer (some ⟨B, 0, none⟩) ∧ tg tm' 4 = .pointer (some ⟨R, 0, none⟩) ∧ tg tm' 9 = .int .i64 (i : Int)) es.length (by omega)
      ⟨0, fun _ => False, fun _ => False, rfl, by omega, .refl _ _, ⟨fun _ e => e.elim, fun _ e => e.elim, fun _ e => e.elim⟩, .inl ⟨by simp only [↓opStep_eq, ↓reduceIte, ↓EW, EV, Nat.reduceAdd, Nat.reduceEqDiff, Int.reduceEq, Int.reduceLT, Int.reduceLE, Int.reduceNe, seqC, retC, skipC, exitC, blockC, condC], rfl⟩, .inl ⟨by simp only [↓opStep_eq, ↓reduceIte, ↓EW, EV, Nat.reduceAdd, Nat.reduceEqDiff, Int.reduceEq, Int.reduceLT, Int.reduceLE, Int.reduceNe, seqC, retC, skipC, exitC, blockC, condC], rfl⟩, by simp only [↓opStep_eq, ↓reduceIte, ↓EW, EV, Nat.reduceAdd, Nat.reduceEqDiff, Int.reduceEq, Int.reduceLT, Int.reduceLE, Int.reduceNe, seqC, retC, skipC, exitC, blockC, condC], by simp only [↓opStep_eq, ↓reduceIte, ↓EW, EV, Nat.reduceAdd, Nat.reduceEqDiff, Int.reduceEq, Int.reduceLT, Int.reduceLE, Int.reduceNe, seqC, retC, skipC, exitC, blockC, condC], by simp only [↓opStep_eq, ↓reduceIte, ↓EW, EV, Nat.reduceAdd, Nat.reduceEqDiff, Int.reduceEq, Int.reduceLT, Int.reduceLE, Int.reduceNe, seqC, retC, skipC, exitC, blockC, condC], by simp only [↓opStep_eq, ↓reduceIte, ↓EW, EV, Nat.reduceAdd, Nat.reduceEqDiff, Int.reduceEq, Int.reduceLT, Int.reduceLE, Int.reduceNe, seqC, retC, skipC, exitC, blockC, condC] <;> rfl⟩ ?_)
    rintro m tm hx ⟨i, S1, S2, rfl, hi, kx, sp, nq, dq, t1, t2, t4, t9⟩
    have ax := a2.keep0 kx
    have bx := b1.keep0 kx
    have hl := ax.dv.len
    rw [outD_len] at hl
    have hnx := kx.next
    unfold l36_11
    refine C.seq (C.seq fun K hK => ?_)
    simp only [↓opStep_eq, ↓reduceIte, ↓EW, EV, Nat.reduceAdd, Nat.reduceEqDiff, Int.reduceEq, Int.reduceLT, Int.reduceLE, Int.reduceNe, seqC, retC, skipC, exitC, blockC, condC, r36_6, t2, t9, load1 bx, hl]
    refine hK _ _ _ (C.cond (decide ((i : Int) < (es.length : Int))) (by simp only [↓opStep_eq, ↓reduceIte, ↓EW, EV, Nat.reduceAdd, Nat.reduceEqDiff, Int.reduceEq, Int.reduceLT, Int.reduceLE, Int.reduceNe, seqC, retC, skipC, exitC, blockC, condC]) (fun g => C.skip ?_) fun g => C.exit ?_)
    · have g : i < es.length := by have := of_decide_eq_true g; omega
      obtain ⟨⟨y, w⟩, he⟩ : ∃ e, es[i]? = some e := ⟨_, List.getElem?_eq_getElem g⟩
      have htk : es.take (i + 1) = es.take i ++ [(y, w)] := by rw [List.take_add_one, he]; rfl
      have w1 := wadd1 i (by omega)
      obtain ⟨p2, ixp, ap⟩ := ax.dv.at (outD_at he)
      have apu := ap.un
      have apn := ap.nm
      have apa := ap.all
      have hlen2 : (es.take i).length ≤ 1000 := by rw [List.length_take]; omega
      refine C.seq (C.block (C.seq fun K hK => ?_))
      simp only [↓opStep_eq, ↓reduceIte, ↓EW, EV, Nat.reduceAdd, Nat.reduceEqDiff, Int.reduceEq, Int.reduceLT, Int.reduceLE, Int.reduceNe, seqC, retC, skipC, exitC, blockC, condC, r36_8, t1, t2, t9, load1 bx, ixp, apu]
      refine hK _ _ _ (C.cond (decide ((w : Int) ≤ (k : Int))) (by simp only [↓opStep_eq, ↓reduceIte, ↓EW, EV, Nat.reduceAdd, Nat.reduceEqDiff, Int.reduceEq, Int.reduceLT, Int.reduceLE, Int.reduceNe, seqC, retC, skipC, exitC, blockC, condC]) (fun gy => fun K hK => ?_) fun gy => fun K hK => ?_)
      · have gy : w ≤ k := by have := of_decide_eq_true gy; omega
        have k3 := Keep.new hx (.rw [.int .i64 y.1, .string y.2])
        have b3 := Has.new hx (.rw [.int .i64 y.1, .string y.2])
        simp only [↓opStep_eq, ↓reduceIte, ↓EW, EV, Nat.reduceAdd, Nat.reduceEqDiff, Int.reduceEq, Int.reduceLT, Int.reduceLE, Int.reduceNe, seqC, retC, skipC, exitC, blockC, condC, r36_9, t2, t9, load1 bx, ixp, Nat.add_zero, apn, mkN]
        have nq3 := (nq.mono (P' := fun d => S1 d ∨ hx.next ≤ d) fun d _ e => .inl e).keep0 k3
        have dq3 := dq.keep0 k3
        have hn3 : (hx.new (.rw [.int .i64 y.1, .string y.2])).next = hx.next + 1 := rfl
        generalize hx.new (.rw [.int .i64 y.1, .string y.2]) = h3 at *
        obtain ⟨v4, h4, e4, nq4, k4⟩ := nq3.append y b3 (fun d hd => .inr (by omega)) (by rw [List.length_map]; have := List.length_filter_le (fun e : En => decide (e.2 ≤ k)) (es.take i); omega)
        simp only [↓opStep_eq, ↓reduceIte, ↓EW, EV, Nat.reduceAdd, Nat.reduceEqDiff, Int.reduceEq, Int.reduceLT, Int.reduceLE, Int.reduceNe, seqC, retC, skipC, exitC, blockC, condC, e4]
        refine hK _ _ _ fun K hK => ?_
        simp only [↓opStep_eq, ↓reduceIte, ↓EW, EV, Nat.reduceAdd, Nat.reduceEqDiff, Int.reduceEq, Int.reduceLT, Int.reduceLE, Int.reduceNe, seqC, retC, skipC, exitC, blockC, condC, r36_7, t9, w1]
        have hn4 := k4.next
        refine hK _ _ _ ⟨es.length - (i + 1), by omega, i + 1, fun d => (S1 d ∨ hx.next ≤ d) ∧ d < h4.next, S2, rfl, by omega, (kx.then k3).trans k4 fun d hd e => e.elim (fun e => by have := sp.s1 d e; omega) fun e => by omega, ⟨fun d e => ⟨e.1.elim (fun e' => (sp.s1 d e').1) fun e' => by omega, e.2⟩, fun d e => ⟨(sp.s2 d e).1, by have := (sp.s2 d e).2; omega⟩, fun d e e2 => e.1.elim (fun e' => sp.dj d e' e2) fun e' => by have := (sp.s2 d e2).2; omega⟩, ?_, ?_, by simp only [↓opStep_eq, ↓reduceIte, ↓EW, EV, Nat.reduceAdd, Nat.reduceEqDiff, Int.reduceEq, Int.reduceLT, Int.reduceLE, Int.reduceNe, seqC, retC, skipC, exitC, blockC, condC, t1], by simp only [↓opStep_eq, ↓reduceIte, ↓EW, EV, Nat.reduceAdd, Nat.reduceEqDiff, Int.reduceEq, Int.reduceLT, Int.reduceLE, Int.reduceNe, seqC, retC, skipC, exitC, blockC, condC, t2], by simp only [↓opStep_eq, ↓reduceIte, ↓EW, EV, Nat.reduceAdd, Nat.reduceEqDiff, Int.reduceEq, Int.reduceLT, Int.reduceLE, Int.reduceNe, seqC, retC, skipC, exitC, blockC, condC, t4], by simp only [↓opStep_eq, ↓reduceIte, ↓EW, EV, Nat.reduceAdd, Nat.reduceEqDiff, Int.reduceEq, Int.reduceLT, Int.reduceLE, Int.reduceNe, seqC, retC, skipC, exitC, blockC, condC]⟩
        · have e5 : ((es.take (i + 1)).filter fun e => decide (e.2 ≤ k)).map (·.1) = ((es.take i).filter fun e => decide (e.2 ≤ k)).map (·.1) ++ [y] := by
            rw [htk, List.filter_append, List.map_append]
            congr 1
            rw [List.filter_cons, if_pos (by simp [gy])]; rfl
          rw [e5]
          simp only [↓opStep_eq, ↓reduceIte, ↓EW, EV, Nat.reduceAdd, Nat.reduceEqDiff, Int.reduceEq, Int.reduceLT, Int.reduceLE, Int.reduceNe, seqC, retC, skipC, exitC, blockC, condC]
          exact nq4.mono fun d hd e => ⟨e, hd⟩
        · have e5 : (es.take (i + 1)).filter (fun e => decide (k < e.2)) = (es.take i).filter (fun e => decide (k < e.2)) := by
            rw [htk, List.filter_append]
            have : [(y, w)].filter (fun e : En => decide (k < e.2)) = [] := by rw [List.filter_cons, if_neg (by simp; omega)]; rfl
            rw [this, List.append_nil]
          rw [e5]
          simp only [↓opStep_eq, ↓reduceIte, ↓EW, EV, Nat.reduceAdd, Nat.reduceEqDiff, Int.reduceEq, Int.reduceLT, Int.reduceLE, Int.reduceNe, seqC, retC, skipC, exitC, blockC, condC]
          exact dq3.keep k4 fun d e e2 => e.elim (fun e => sp.dj d e e2) fun e => by have := (sp.s2 d e2).2; omega
      · have gy : k < w := by have := of_decide_eq_false gy; omega
        have k3 := Keep.new hx (.rw [.int .i64 y.1, .string y.2, .int .i64 (w : Int)])
        have b3 := Has.new hx (.rw [.int .i64 y.1, .string y.2, .int .i64 (w : Int)])
        simp only [↓opStep_eq, ↓reduceIte, ↓EW, EV, Nat.reduceAdd, Nat.reduceEqDiff, Int.reduceEq, Int.reduceLT, Int.reduceLE, Int.reduceNe, seqC, retC, skipC, exitC, blockC, condC, r36_10, t2, t9, load1 bx, ixp, apa, litD]
        have nq3 := nq.keep0 k3
        have dq3 := (dq.mono (P' := fun d => S2 d ∨ hx.next ≤ d) fun d _ e => .inl e).keep0 k3
        have hn3 : (hx.new (.rw [.int .i64 y.1, .string y.2, .int .i64 (w : Int)])).next = hx.next + 1 := rfl
        generalize hx.new (.rw [.int .i64 y.1, .string y.2, .int .i64 (w : Int)]) = h3 at *
        obtain ⟨v4, h4, e4, dq4, k4⟩ := dq3.append (y, (w : Int)) b3 (fun d hd => .inr (by omega)) (by rw [outD_len]; have := List.length_filter_le (fun e : En => decide (k < e.2)) (es.take i); omega)
        simp only [↓opStep_eq, ↓reduceIte, ↓EW, EV, Nat.reduceAdd, Nat.reduceEqDiff, Int.reduceEq, Int.reduceLT, Int.reduceLE, Int.reduceNe, seqC, retC, skipC, exitC, blockC, condC, e4]
        refine hK _ _ _ fun K hK => ?_
        simp only [↓opStep_eq, ↓reduceIte, ↓EW, EV, Nat.reduceAdd, Nat.reduceEqDiff, Int.reduceEq, Int.reduceLT, Int.reduceLE, Int.reduceNe, seqC, retC, skipC, exitC, blockC, condC, r36_7, t9, w1]
        have hn4 := k4.next
        refine hK _ _ _ ⟨es.length - (i + 1), by omega, i + 1, S1, fun d => (S2 d ∨ hx.next ≤ d) ∧ d < h4.next, rfl, by omega, (kx.then k3).trans k4 fun d hd e => e.elim (fun e => by have := sp.s2 d e; omega) fun e => by omega, ⟨fun d e => ⟨(sp.s1 d e).1, by have := (sp.s1 d e).2; omega⟩, fun d e => ⟨e.1.elim (fun e' => (sp.s2 d e').1) fun e' => by omega, e.2⟩, fun d e e2 => e2.1.elim (fun e' => sp.dj d e e') fun e' => by have := (sp.s1 d e).2; omega⟩, ?_, ?_, by simp only [↓opStep_eq, ↓reduceIte, ↓EW, EV, Nat.reduceAdd, Nat.reduceEqDiff, Int.reduceEq, Int.reduceLT, Int.reduceLE, Int.reduceNe, seqC, retC, skipC, exitC, blockC, condC, t1], by simp only [↓opStep_eq, ↓reduceIte, ↓EW, EV, Nat.reduceAdd, Nat.reduceEqDiff, Int.reduceEq, Int.reduceLT, Int.reduceLE, Int.reduceNe, seqC, retC, skipC, exitC, blockC, condC, t2], by simp only [↓opStep_eq, ↓reduceIte, ↓EW, EV, Nat.reduceAdd, Nat.reduceEqDiff, Int.reduceEq, Int.reduceLT, Int.reduceLE, Int.reduceNe, seqC, retC, skipC, exitC, blockC, condC, t4], by simp only [↓opStep_eq, ↓reduceIte, ↓EW, EV, Nat.reduceAdd, Nat.reduceEqDiff, Int.reduceEq, Int.reduceLT, Int.reduceLE, Int.reduceNe, seqC, retC, skipC, exitC, blockC, condC]⟩
        · have e5 : (es.take (i + 1)).filter (fun e => decide (e.2 ≤ k)) = (es.take i).filter (fun e => decide (e.2 ≤ k)) := by
            rw [htk, List.filter_append]
            have : [(y, w)].filter (fun e : En => decide (e.2 ≤ k)) = [] := by rw [List.filter_cons, if_neg (by simp; omega)]; rfl
            rw [this, List.append_nil]
          rw [e5]
          simp only [↓opStep_eq, ↓reduceIte, ↓EW, EV, Nat.reduceAdd, Nat.reduceEqDiff, Int.reduceEq, Int.reduceLT, Int.reduceLE, Int.reduceNe, seqC, retC, skipC, exitC, blockC, condC]
          exact nq3.keep k4 fun d e e2 => e.elim (fun e => sp.dj d e2 e) fun e => by have := (sp.s1 d e2).2; omega
        · have e5 : outD ((es.take (i + 1)).filter fun e => decide (k < e.2)) = outD ((es.take i).filter fun e => decide (k < e.2)) ++ [(y, (w : Int))] := by
            rw [htk, List.filter_append, outD_app]
            congr 1
            rw [List.filter_cons, if_pos (by simp [gy])]; rfl
          rw [e5]
          simp only [↓opStep_eq, ↓reduceIte, ↓EW, EV, Nat.reduceAdd, Nat.reduceEqDiff, Int.reduceEq, Int.reduceLT, Int.reduceLE, Int.reduceNe, seqC, retC, skipC, exitC, blockC, condC]
          exact dq4.mono fun d hd e => ⟨e, hd⟩
    · simp only [if_pos]
      have g : i = es.length := by have := of_decide_eq_false g; omega
      subst g
      rw [List.take_length] at nq dq
      obtain ⟨p', q', c', e5⟩ := dq.form
      rw [e5] at dq
      have cx := b2.keep0 kx
      have st := storeR (s := none) cx (k : Int) p' q' c'
      refine C.seq fun K hK => ?_
      simp only [↓opStep_eq, ↓reduceIte, ↓EW, EV, Nat.reduceAdd, Nat.reduceEqDiff, Int.reduceEq, Int.reduceLT, Int.reduceLE, Int.reduceNe, seqC, retC, skipC, exitC, blockC, condC, r36_11, t1, t4, e5, rfLit, st]
      have kp := Keep.put hx R (.rw [.int .i64 (k : Int), .slice p' q' c'])
      have kk : Keep nobody h (hx.put R (.rw [.int .i64 (k : Int), .slice p' q' c'])) := (k02.then kx).trans kp fun d hd e => by have e : d = R := e; omega
      refine hK _ _ _ (C.ret ⟨.inr rfl, [rfV (k : Int) (.slice p' q' c'), tg tm 7, .int .i64 0], ?_, kk, .inr ⟨k, p', q', c', tg tm 7, rfl, by omega, by unfold MAXT; omega, rfl, (dq.keep kp fun d e hd => ?_).mono fun d _ hd => ?_, (nq.keep kp fun d e hd => ?_).mono fun d _ hd => ?_⟩⟩)
      · simp only [↓opStep_eq, ↓reduceIte, ↓EW, EV, Nat.reduceAdd, Nat.reduceEqDiff, Int.reduceEq, Int.reduceLT, Int.reduceLE, Int.reduceNe, seqC, retC, skipC, exitC, blockC, condC, q36, t4, loadR (Has.put cx.1)]
      · have := (sp.s2 d hd).1
        have e : d = R := e
        omega
      · have := (sp.s2 d hd).1; omega
      · have := (sp.s1 d hd).1
        have e : d = R := e
        omega
      · have := (sp.s1 d hd).1; omega
  · have bad : ∀ (tm : T Value) (K : KE), tg tm 2 = .pointer (some ⟨B, 0, none⟩) → tg tm 4 = .pointer (some ⟨R, 0, none⟩) → (∀ tm', q36.f tm' (h2.put R (.rw [.int .i64 (now : Int), .slice p q c])) = some [rfV (now : Int) (.slice p q c), .slice none 0 0, .int .i64 2] → K .ret tm' [] (h2.put R (.rw [.int .i64 (now : Int), .slice p q c])) = true) → (seqC ⟨r36_2⟩ retC) (CF L n) L tm [] h2 K = true := fun tm K u2 u4 hK => by
      have st := storeR (s := none) b2 (now : Int) p q c
      simp only [↓opStep_eq, ↓reduceIte, ↓EW, EV, Nat.reduceAdd, Nat.reduceEqDiff, Int.reduceEq, Int.reduceLT, Int.reduceLE, Int.reduceNe, seqC, retC, skipC, exitC, blockC, condC, r36_2, retC, u2, u4, loadR b1, st]
      exact hK _ (by simp only [↓opStep_eq, ↓reduceIte, ↓EW, EV, Nat.reduceAdd, Nat.reduceEqDiff, Int.reduceEq, Int.reduceLT, Int.reduceLE, Int.reduceNe, seqC, retC, skipC, exitC, blockC, condC, q36, u4, loadR (Has.put b2.1)])
    have kk : Keep nobody h (h2.put R (.rw [.int .i64 (now : Int), .slice p q c])) := k02.trans (Keep.put h2 R _) fun d hd e => by have e : d = R := e; omega
    by_cases h1 : t < (now : Int)
    · simp only [↓opStep_eq, ↓reduceIte, ↓EW, EV, Nat.reduceAdd, Nat.reduceEqDiff, Int.reduceEq, Int.reduceLT, Int.reduceLE, Int.reduceNe, seqC, retC, skipC, exitC, blockC, condC, Bool.true_or, Bool.false_or, Bool.or_true, Bool.or_false, Bool.true_and, Bool.false_and, Bool.and_true, Bool.and_false, r36_1, load0 b1, h1]
      refine hK _ _ _ (C.cond true (by simp only [↓opStep_eq, ↓reduceIte, ↓EW, EV, Nat.reduceAdd, Nat.reduceEqDiff, Int.reduceEq, Int.reduceLT, Int.reduceLE, Int.reduceNe, seqC, retC, skipC, exitC, blockC, condC]) (fun _ => fun K hK => ?_) fun g => by cases g)
      rw [show ∀ x : CodeT, (⟨x⟩ : Box CodeT).f = x from fun _ => rfl]
      refine bad _ K ?_ ?_ fun tm' e => hK _ _ _ ⟨.inr rfl, _, e, kk, .inl ⟨ht, rfl⟩⟩
      · simp only [↓opStep_eq, ↓reduceIte, ↓EW, EV, Nat.reduceAdd, Nat.reduceEqDiff, Int.reduceEq, Int.reduceLT, Int.reduceLE, Int.reduceNe, seqC, retC, skipC, exitC, blockC, condC]
      · simp only [↓opStep_eq, ↓reduceIte, ↓EW, EV, Nat.reduceAdd, Nat.reduceEqDiff, Int.reduceEq, Int.reduceLT, Int.reduceLE, Int.reduceNe, seqC, retC, skipC, exitC, blockC, condC]
    · have h3 : (1099511627776 : Int) < t := by omega
      simp only [↓opStep_eq, ↓reduceIte, ↓EW, EV, Nat.reduceAdd, Nat.reduceEqDiff, Int.reduceEq, Int.reduceLT, Int.reduceLE, Int.reduceNe, seqC, retC, skipC, exitC, blockC, condC, Bool.true_or, Bool.false_or, Bool.or_true, Bool.or_false, Bool.true_and, Bool.false_and, Bool.and_true, Bool.and_false, r36_1, load0 b1, h1, h3]
      refine hK _ _ _ (C.cond true (by simp only [↓opStep_eq, ↓reduceIte, ↓EW, EV, Nat.reduceAdd, Nat.reduceEqDiff, Int.reduceEq, Int.reduceLT, Int.reduceLE, Int.reduceNe, seqC, retC, skipC, exitC, blockC, condC]) (fun _ => fun K hK => ?_) fun g => by cases g)
      rw [show ∀ x : CodeT, (⟨x⟩ : Box CodeT).f = x from fun _ => rfl]
      refine bad _ K ?_ ?_ fun tm' e => hK _ _ _ ⟨.inr rfl, _, e, kk, .inl ⟨ht, rfl⟩⟩
      · simp only [↓opStep_eq, ↓reduceIte, ↓EW, EV, Nat.reduceAdd, Nat.reduceEqDiff, Int.reduceEq, Int.reduceLT, Int.reduceLE, Int.reduceNe, seqC, retC, skipC, exitC, blockC, condC]
      · simp only [↓opStep_eq, ↓reduceIte, ↓EW, EV, Nat.reduceAdd, Nat.reduceEqDiff, Int.reduceEq, Int.reduceLT, Int.reduceLE, Int.reduceNe, seqC, retC, skipC, exitC, blockC, condC]
end Go.Proofs.Ytpoedopdcpejmaa
