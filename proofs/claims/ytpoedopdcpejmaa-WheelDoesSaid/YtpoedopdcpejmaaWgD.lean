import Derived.Test.YtpoedopdcpejmaaWgA
set_option linter.unusedSimpArgs false
set_option linter.unusedVariables false
namespace Go.Proofs.Ytpoedopdcpejmaa
open Go.Ev

/-! ### Add, in the document's way -/
def ltE (e : En) (x : Nm) (u : Nat) : Prop := e.2 < u ∨ (e.2 = u ∧ ltN e.1 x)

section
variable {P : Nat → Prop} {h : H} {p : Option Addr} {q c : Nat} {es : List En} {N B : Nat} {x : Nm} {z : Int} {u i : Nat} {tm : T Value}
theorem r37_7_end {call : CallT} {L : Nat} {K : KE} (a : Dq P h (.slice p q c) (outD es)) (b3 : Has h B (.rw [.int .i64 z, .slice p q c])) (t3 : tg tm 3 = .pointer (some ⟨B, 0, none⟩)) (t8 : tg tm 8 = .int .i64 (i : Int)) (hi : es.length ≤ i) :
    r37_7 call L tm [] h K = K .norm (T.set tm 62 (.bool false)) [] ⟨h.objs, h.next + 35⟩ := by
  have kr := keep_room h 35
  have b3 := b3.keep0 kr
  have hl := (a.keep0 kr).dv.len
  rw [outD_len] at hl
  have g : ¬ ((i : Int) < (es.length : Int)) := by omega
  simp only [↓opStep_eq, ↓reduceIte, ↓EW, EV, Nat.reduceAdd, Nat.reduceEqDiff, Int.reduceEq, Int.reduceLT, Int.reduceLE, Int.reduceNe, seqC, retC, skipC, exitC, blockC, condC, Bool.true_or, Bool.false_or, Bool.or_true, Bool.or_false, Bool.true_and, Bool.false_and, Bool.and_true, Bool.and_false, r37_7, t3, t8, load1 b3, hl, g, ite2]
theorem r37_7_lt {call : CallT} {L : Nat} {K : KE} (a : Dq P h (.slice p q c) (outD es)) (b3 : Has h B (.rw [.int .i64 z, .slice p q c])) (t2 : tg tm 2 = .int .i64 (u : Int)) (t3 : tg tm 3 = .pointer (some ⟨B, 0, none⟩)) (t8 : tg tm 8 = .int .i64 (i : Int)) {e : En} (he : es[i]? = some e) (hlt : e.2 < u) :
    r37_7 call L tm [] h K = K .norm (T.set tm 62 (.bool true)) [] ⟨h.objs, h.next + 35⟩ := by
  have kr := keep_room h 35
  have b3 := b3.keep0 kr
  have hl := (a.keep0 kr).dv.len
  rw [outD_len] at hl
  obtain ⟨p2, ixp, ap⟩ := (a.keep0 kr).dv.at (outD_at he)
  have apu := ap.un
  have hi := (List.getElem?_eq_some_iff.1 he).1
  have g : ((i : Int) < (es.length : Int)) := by omega
  have g2 : ((e.2 : Int) < (u : Int)) := by omega
  simp only [↓opStep_eq, ↓reduceIte, ↓EW, EV, Nat.reduceAdd, Nat.reduceEqDiff, Int.reduceEq, Int.reduceLT, Int.reduceLE, Int.reduceNe, seqC, retC, skipC, exitC, blockC, condC, Bool.true_or, Bool.false_or, Bool.or_true, Bool.or_false, Bool.true_and, Bool.false_and, Bool.and_true, Bool.and_false, r37_7, t2, t3, t8, load1 b3, hl, g, g2, ixp, apu, ite2]
theorem r37_7_gt {call : CallT} {L : Nat} {K : KE} (a : Dq P h (.slice p q c) (outD es)) (b3 : Has h B (.rw [.int .i64 z, .slice p q c])) (t2 : tg tm 2 = .int .i64 (u : Int)) (t3 : tg tm 3 = .pointer (some ⟨B, 0, none⟩)) (t8 : tg tm 8 = .int .i64 (i : Int)) {e : En} (he : es[i]? = some e) (hlt : u < e.2) :
    r37_7 call L tm [] h K = K .norm (T.set tm 62 (.bool false)) [] ⟨h.objs, h.next + 35⟩ := by
  have kr := keep_room h 35
  have b3 := b3.keep0 kr
  have hl := (a.keep0 kr).dv.len
  rw [outD_len] at hl
  obtain ⟨p2, ixp, ap⟩ := (a.keep0 kr).dv.at (outD_at he)
  have apu := ap.un
  have hi := (List.getElem?_eq_some_iff.1 he).1
  have g : ((i : Int) < (es.length : Int)) := by omega
  have g2 : ¬ ((e.2 : Int) < (u : Int)) := by omega
  have g3 : ¬ ((e.2 : Int) = (u : Int)) := by omega
  simp only [↓opStep_eq, ↓reduceIte, ↓EW, EV, Nat.reduceAdd, Nat.reduceEqDiff, Int.reduceEq, Int.reduceLT, Int.reduceLE, Int.reduceNe, seqC, retC, skipC, exitC, blockC, condC, Bool.true_or, Bool.false_or, Bool.or_true, Bool.or_false, Bool.true_and, Bool.false_and, Bool.and_true, Bool.and_false, r37_7, t2, t3, t8, load1 b3, hl, g, g2, g3, ixp, apu, ite2]
theorem r37_7_eq {call : CallT} {L : Nat} {K : KE} (a : Dq P h (.slice p q c) (outD es)) (b3 : Has h B (.rw [.int .i64 z, .slice p q c])) (b4 : Has h N (.rw [.int .i64 x.1, .string x.2])) (t2 : tg tm 2 = .int .i64 (u : Int)) (t3 : tg tm 3 = .pointer (some ⟨B, 0, none⟩)) (t4 : tg tm 4 = .pointer (some ⟨N, 0, none⟩)) (t8 : tg tm 8 = .int .i64 (i : Int)) {e : En} (he : es[i]? = some e) (hu : e.2 = u) :
    r37_7 call L tm [] h K = call 17 [e.1.v, x.v] ⟨h.objs, h.next + 35⟩ (fun v31 h => kO (pickV (.bool true) v31 (.bool false)) [] h fun v32 ds h => kO (pickV (.bool false) (.bool true) v32) ds h fun v33 ds h => kO (pickV (.bool true) v33 (.bool false)) ds h fun v34 ds h => K .norm (T.set tm 62 v34) ds h) := by
  have kr := keep_room h 35
  have b3 := b3.keep0 kr
  have b4 := b4.keep0 kr
  have hl := (a.keep0 kr).dv.len
  rw [outD_len] at hl
  obtain ⟨p2, ixp, ap⟩ := (a.keep0 kr).dv.at (outD_at he)
  have apu := ap.un
  have apn := ap.nm
  have hi := (List.getElem?_eq_some_iff.1 he).1
  have g : ((i : Int) < (es.length : Int)) := by omega
  have g2 : ¬ ((u : Int) < (u : Int)) := by omega
  have g3 : ((e.2 : Int) = (u : Int)) := by omega
  simp only [↓opStep_eq, ↓reduceIte, ↓EW, EV, Nat.reduceAdd, Nat.reduceEqDiff, Int.reduceEq, Int.reduceLT, Int.reduceLE, Int.reduceNe, seqC, retC, skipC, exitC, blockC, condC, Bool.true_or, Bool.false_or, Bool.or_true, Bool.or_false, Bool.true_and, Bool.false_and, Bool.and_true, Bool.and_false, r37_7, t2, t3, t4, t8, load1 b3, load2 b4, hl, g, g2, g3, ixp, apu, apn, Nat.add_zero, ite2]
end
end Go.Proofs.Ytpoedopdcpejmaa

namespace Go.Proofs.Ytpoedopdcpejmaa
open Go.Ev

theorem cellsD_take : ∀ (es : List Dd) (n : Nat), (cellsD es).take (n * 3) = cellsD (es.take n)
  | [], n => by simp [cellsD]
  | e :: r, 0 => rfl
  | e :: r, n + 1 => by
    have : (n + 1) * 3 = n * 3 + 1 + 1 + 1 := by omega
    rw [this]
    simp [cellsD, cellsD_take r n]
theorem ones_cellsD : ∀ ns, Ev.ones (cellsD ns) = true
  | [] => rfl
  | x :: r => by
    show Ev.ones (.int .i64 x.1.1 :: .string x.1.2 :: .int .i64 x.2 :: cellsD r) = true
    have := ones_cellsD r
    simp only [Ev.ones] at this ⊢
    exact this
def SrcD (h : H) (x : Value) (es : List Dd) : Prop := lenV x = some es.length ∧ firstV h 3 es.length x = some (cellsD es)
theorem Dq.pre {h : H} {v : Value} {es : List Dd} {P : Nat → Prop} (a : Dq P h v es) (i : Nat) (hi : i ≤ es.length) : ∃ x, sliceSl 3 v none (some (.int .i64 (i : Int))) none = some x ∧ SrcD h x (es.take i) := by
  rcases a with ⟨rfl, rfl⟩ | ⟨b, cap, rfl, c, hb, _⟩
  · have : i = 0 := by simpa using hi
    subst this
    exact ⟨.slice none 0 0, rfl, rfl, rfl⟩
  · refine ⟨.slice (some ⟨b, 0, none⟩) i (opCap (Nat.max es.length (lbOf cap)) 3), ?_, ?_, ?_⟩
    · have hb2 : bnds none (some (.int .i64 (i : Int))) none es.length (Nat.max es.length (lbOf cap)) = some (0, i, Nat.max es.length (lbOf cap)) := by
        simp only [bnds, bnd, asNat_nat]
        rw [Nat.ble_eq_true_of_le (Nat.le_trans hi (Nat.le_max_left _ _))]
      simp only [sliceSl, c.1, c.2, hb2, addOff, Nat.zero_mul, Nat.add_zero, Nat.sub_zero]
    · rw [List.length_take, Nat.min_eq_left hi]; rfl
    · rw [List.length_take, Nat.min_eq_left hi]
      simp only [firstV]
      rw [row_has hb rfl (by rw [cellsD_len]; omega), List.drop_zero, cellsD_take]
theorem Dq.suf {h : H} {v : Value} {es : List Dd} {P : Nat → Prop} (a : Dq P h v es) (i : Nat) (hi : i ≤ es.length) : ∃ x, sliceSl 3 v (some (.int .i64 (i : Int))) none none = some x ∧ SrcD h x (es.drop i) := by
  rcases a with ⟨rfl, rfl⟩ | ⟨b, cap, rfl, c, hb, _⟩
  · have : i = 0 := by simpa using hi
    subst this
    exact ⟨.slice none 0 0, rfl, rfl, rfl⟩
  · refine ⟨.slice (some ⟨b, 0 + i * 3, none⟩) (es.length - i) (opCap (Nat.max es.length (lbOf cap) - i) 3), ?_, ?_, ?_⟩
    · have hb2 : bnds (some (.int .i64 (i : Int))) none none es.length (Nat.max es.length (lbOf cap)) = some (i, es.length, Nat.max es.length (lbOf cap)) := by
        simp only [bnds, bnd, asNat_nat]
        rw [Nat.ble_eq_true_of_le hi]
      simp only [sliceSl, c.1, c.2, hb2, addOff]
    · rw [List.length_drop]; rfl
    · rw [List.length_drop]
      simp only [firstV]
      rw [row_has hb rfl (by rw [cellsD_len]; omega)]
      have e1 : (cellsD es).drop (0 + i * 3) = cellsD (es.drop i) := by rw [Nat.zero_add, cellsD_drop]
      rw [e1, List.take_of_length_le (by rw [cellsD_len, List.length_drop]; omega)]

theorem Dq.app {h : H} {P : Nat → Prop} {v x : Value} {es xs : List Dd} (a : Dq P h v es) (s : SrcD h x xs) (hP : ∀ c, h.next ≤ c → P c) (hsz : es.length + xs.length ≤ 1000000) :
    ∃ v' h', appendV 3 32 h v x = some (v', h') ∧ Dq P h' v' (es ++ xs) ∧ Keep P h h' := by
  obtain ⟨s1, s2⟩ := s
  have hap : ∀ base sl sc, appendV 3 32 h (.slice base sl sc) x = appTo 3 32 h base sl sc xs.length (cellsD xs) := fun base sl sc => by
    unfold appendV
    simp only [s1, s2]
    rw [show Nat.beq (cellsD xs).length (xs.length * 3) = true by rw [cellsD_len, Nat.mul_comm]; exact Nat.beq_refl _]
  cases xs with
  | nil =>
    rw [List.append_nil]
    rcases a with ⟨rfl, rfl⟩ | ⟨b, cap, rfl, c, hb, l⟩
    · rw [hap]; exact ⟨_, _, rfl, .inl ⟨rfl, rfl⟩, .refl _ _⟩
    · rw [hap]
      refine ⟨.slice (some ⟨b, 0, none⟩) es.length cap, h, ?_, .inr ⟨b, cap, rfl, c, hb, l⟩, .refl _ _⟩
      have h1 : Nat.ble es.length cap = true := by
        have := Nat.le_of_ble_eq_true c.1
        exact Nat.ble_eq_true_of_le (by unfold OPEN at this; omega)
      show (match Nat.ble es.length cap with | true => some (Value.slice (some ⟨b, 0, none⟩) es.length cap, h) | false => none) = _
      rw [h1]
  | cons y ys =>
    have hl : (y :: ys).length = ys.length + 1 := rfl
    have hgrow : ∀ (h0 : H), h0.next = h.next → Keep P h h0 → ∃ v' h', grow h0 (cellsD es) (cellsD (y :: ys)) (es.length + (y :: ys).length) 3 = some (v', h') ∧ Dq P h' v' (es ++ y :: ys) ∧ Keep P h h' := fun h0 hn hk => by
      exact ⟨_, _, rfl, .inr ⟨h0.next, opCap (es.length + (y :: ys).length) 3, by rw [List.length_append], openC _, by rw [cellsD_append]; exact .new _ _, hP _ (by omega)⟩, hk.then (.new _ _)⟩
    rcases a with ⟨rfl, rfl⟩ | ⟨b, cap, rfl, c, hb1, l⟩
    · rw [hap]
      have : appTo 3 32 h none 0 0 (y :: ys).length (cellsD (y :: ys)) = grow h [] (cellsD (y :: ys)) (0 + (y :: ys).length) 3 := by
        unfold appTo
        simp only [hl]
        rw [Nat.ble_eq_true_of_le (show (0 + (ys.length + 1)) * 32 ≤ 140737488355328 by simp at hsz; omega), Nat.ble_eq_true_of_le (show 0 + (ys.length + 1) ≤ 9223372036854775807 by simp at hsz; omega)]
        rfl
      rw [this]
      exact hgrow h rfl (.refl _ _)
    · rw [hap]
      have h1 : appTo 3 32 h (some ⟨b, 0, none⟩) es.length cap (y :: ys).length (cellsD (y :: ys)) = appOpen 3 h ⟨b, 0, none⟩ es.length cap (y :: ys).length (cellsD (y :: ys)) := by
        unfold appTo
        simp only [hl]
        rw [Nat.ble_eq_true_of_le (show (es.length + (ys.length + 1)) * 32 ≤ 140737488355328 by simp at hsz; omega), Nat.ble_eq_true_of_le (show es.length + (ys.length + 1) ≤ 9223372036854775807 by simp at hsz; omega)]
        simp only [c.1, Bool.and_self]
      rw [h1]
      unfold appOpen
      have h2 := ones_cellsD (y :: ys)
      have e3 : putAt (cellsD es) (0 + es.length * 3) (cellsD (y :: ys)) = none := by
        rw [show 0 + es.length * 3 = (cellsD es).length by rw [cellsD_len]; omega]
        exact putAt_end _ _ _
      have e4 : cut (cellsD es) 0 = some (cellsD es) := by simpa using cut_eq (cellsD es) 0 (by simp)
      have e5 : Nat.beq (0 + es.length * 3) (cellsD es).length = true := by rw [show 0 + es.length * 3 = (cellsD es).length by rw [cellsD_len]; omega]; exact Nat.beq_refl _
      simp only [c.2, h2, Bool.and_self, hb1.2, e3, e4, e5]
      exact hgrow (h.del b) rfl ((Keep.del h b).mono fun k _ e => by rw [e]; exact l)

theorem aggD (x : Nm) (u : Int) : aggO (fill [(.int .i64 (0)), (.string (strB [])), (.int .i64 (0))] (plc [(0, 2), (2, 1)]) [(0, nameV x.1 x.2), (1, .int .i64 u)]) = some (dV (x, u)) := rfl
theorem Dq.spot {P : Nat → Prop} {h : H} {p : Option Addr} {q c : Nat} {ds : List Dd} (a : Dq P h (.slice p q c) ds) : p = none ∨ ∃ b, p = some ⟨b, 0, none⟩ := by
  rcases a with ⟨e, _⟩ | ⟨b, cap, e, _⟩
  · injection e with e _ _; exact .inl e
  · injection e with e _ _; exact .inr ⟨b, e⟩
theorem veq_rf (z : Int) {p : Option Addr} (q c : Nat) (hp : p = none ∨ ∃ b, p = some ⟨b, 0, none⟩) : veq 64 (rfV z (.slice p q c)) (rfV z (.slice p q c)) = true := by
  have e1 : iEq z z = true := by rw [iEq_dec]; simp
  rcases hp with rfl | ⟨b, rfl⟩
  · show veq.vlq (veq 63) [Value.int .i64 z, .slice none q c] [Value.int .i64 z, .slice none q c] = true
    simp [veq.vlq, veq, e1, kEq_self]
  · show veq.vlq (veq 63) [Value.int .i64 z, .slice (some ⟨b, 0, none⟩) q c] [Value.int .i64 z, .slice (some ⟨b, 0, none⟩) q c] = true
    simp [veq.vlq, veq, veq.aEq, e1, kEq_self]
theorem hO_rf (z : Int) {p : Option Addr} (q c : Nat) (hp : p = none ∨ ∃ b, p = some ⟨b, 0, none⟩) (b : Bool) : hO (some (rfV z (.slice p q c))) (rfV z (.slice p q c)) b = b := by
  unfold hO
  simp only [veq_rf z q c hp]

def RAdd (now : Nat) (es : List En) (x : Nm) (u : Int) (es' : List En) (e : Int) : Prop := (¬ validN x.1 x.2 ∧ es' = es ∧ e = 8) ∨ (validN x.1 x.2 ∧ ¬ ((now : Int) < u ∧ u ≤ 1099511627776) ∧ es' = es ∧ e = 2) ∨
  (validN x.1 x.2 ∧ ∃ k at_ : Nat, u = (k : Int) ∧ now < k ∧ k ≤ MAXT ∧ at_ ≤ (wo es x).length ∧ (∀ e ∈ (wo es x).take at_, ltE e x k) ∧ (∀ e, (wo es x)[at_]? = some e → ¬ ltE e x k) ∧ es' = (wo es x).take at_ ++ (x, k) :: (wo es x).drop at_ ∧ e = 0)

/-- where it belongs -/
theorem place_loop (L n : Nat) (hL : 300000 < L) {P : Nat → Prop} {h : H} {p : Option Addr} {q c : Nat} {es : List En} (a : Dq P h (.slice p q c) (outD es)) (hlen : es.length ≤ 1000) {N B : Nat} {x : Nm} {z : Int} {u : Nat} (b3 : Has h B (.rw [.int .i64 z, .slice p q c])) (b4 : Has h N (.rw [.int .i64 x.1, .string x.2])) {tm : T Value} (t2 : tg tm 2 = .int .i64 (u : Int)) (t3 : tg tm 3 = .pointer (some ⟨B, 0, none⟩)) (t4 : tg tm 4 = .pointer (some ⟨N, 0, none⟩)) (g6 : Value) (t6 : tg tm 6 = g6) (t8 : tg tm 8 = .int .i64 0) (Q : Ex → T Value → H → Prop)
    (hQ : ∀ tm' h' (i : Nat), Keep nobody h h' → i ≤ es.length → (∀ e ∈ es.take i, ltE e x u) → (∀ e, es[i]? = some e → ¬ ltE e x u) → tg tm' 2 = .int .i64 (u : Int) → tg tm' 3 = .pointer (some ⟨B, 0, none⟩) → tg tm' 4 = .pointer (some ⟨N, 0, none⟩) → tg tm' 6 = g6 → tg tm' 8 = .int .i64 (i : Int) → Q .norm tm' h') :
    C ⟨blockC 0 (loopB l37_9)⟩ (CF L (n + 1)) L tm h Q := by
  refine C.block (C.loop (fun m tm' hx => ∃ i, m = es.length - i ∧ i ≤ es.length ∧ Keep nobody h hx ∧ (∀ e ∈ es.take i, ltE e x u) ∧ tg tm' 2 = .int .i64 (u : Int) ∧ tg tm' 3 = .pointer (some ⟨B, 0, none⟩) ∧ tg tm' 4 = .pointer (some ⟨N, 0, none⟩) ∧ tg tm' 6 = g6 ∧ tg tm' 8 = .int .i64 (i : Int)) es.length (by omega)
    ⟨0, rfl, by omega, .refl _ _, (fun e he => by simp at he), t2, t3, t4, t6, t8⟩ ?_)
  clear t2 t3 t4 t6 t8
  rintro m tm hx ⟨i, rfl, hi, kx, hlt, t2, t3, t4, t6, t8⟩
  have ax := a.keep0 kx
  have bx := b3.keep0 kx
  have cx := b4.keep0 kx
  have w1 := wadd1 i (by omega)
  have kr := kx.then (keep_room hx 35)
  unfold l37_9
  -- one further
  have go : ∀ (h' : H) (tm' : T Value) (e : En), es[i]? = some e → ltE e x u → Keep nobody h h' → tg tm' 2 = .int .i64 (u : Int) → tg tm' 3 = .pointer (some ⟨B, 0, none⟩) → tg tm' 4 = .pointer (some ⟨N, 0, none⟩) → tg tm' 6 = g6 → tg tm' 8 = .int .i64 (i : Int) → ∀ Q' : Ex → T Value → Ev.H → Prop,
      (∀ tm2, (∃ m', m' < es.length - i ∧ ∃ i, m' = es.length - i ∧ i ≤ es.length ∧ Keep nobody h h' ∧ (∀ e ∈ es.take i, ltE e x u) ∧ tg tm2 2 = .int .i64 (u : Int) ∧ tg tm2 3 = .pointer (some ⟨B, 0, none⟩) ∧ tg tm2 4 = .pointer (some ⟨N, 0, none⟩) ∧ tg tm2 6 = g6 ∧ tg tm2 8 = .int .i64 (i : Int)) → Q' .norm tm2 h') → C ⟨blockC 1 ⟨r37_8⟩⟩ (CF L (n + 1)) L tm' h' Q' := fun h' tm' e he hle k' u2 u3 u4 u6 u8 Q' hQ' => by
    have hi2 := (List.getElem?_eq_some_iff.1 he).1
    refine C.block fun K hK => ?_
    simp only [↓opStep_eq, ↓reduceIte, ↓EW, EV, Nat.reduceAdd, Nat.reduceEqDiff, Int.reduceEq, Int.reduceLT, Int.reduceLE, Int.reduceNe, seqC, retC, skipC, exitC, blockC, condC, r37_8, u8, w1]
    refine hK _ _ _ (hQ' _ ⟨es.length - (i + 1), by omega, i + 1, rfl, by omega, k', fun e' he' => ?_, by simp only [↓opStep_eq, ↓reduceIte, ↓EW, EV, Nat.reduceAdd, Nat.reduceEqDiff, Int.reduceEq, Int.reduceLT, Int.reduceLE, Int.reduceNe, seqC, retC, skipC, exitC, blockC, condC, u2], by simp only [↓opStep_eq, ↓reduceIte, ↓EW, EV, Nat.reduceAdd, Nat.reduceEqDiff, Int.reduceEq, Int.reduceLT, Int.reduceLE, Int.reduceNe, seqC, retC, skipC, exitC, blockC, condC, u3], by simp only [↓opStep_eq, ↓reduceIte, ↓EW, EV, Nat.reduceAdd, Nat.reduceEqDiff, Int.reduceEq, Int.reduceLT, Int.reduceLE, Int.reduceNe, seqC, retC, skipC, exitC, blockC, condC, u4], by simp only [↓opStep_eq, ↓reduceIte, ↓EW, EV, Nat.reduceAdd, Nat.reduceEqDiff, Int.reduceEq, Int.reduceLT, Int.reduceLE, Int.reduceNe, seqC, retC, skipC, exitC, blockC, condC, u6], by simp only [↓opStep_eq, ↓reduceIte, ↓EW, EV, Nat.reduceAdd, Nat.reduceEqDiff, Int.reduceEq, Int.reduceLT, Int.reduceLE, Int.reduceNe, seqC, retC, skipC, exitC, blockC, condC]⟩)
    rw [List.take_add_one, he, List.mem_append] at he'
    rcases he' with he' | he'
    · exact hlt e' he'
    · simp at he'; subst he'; exact hle
  refine C.seq (C.seq fun K hK => ?_)
  rw [show ∀ x : CodeT, (⟨x⟩ : Box CodeT).f = x from fun _ => rfl]
  by_cases g : i < es.length
  · obtain ⟨e, he⟩ : ∃ e, es[i]? = some e := ⟨_, List.getElem?_eq_getElem g⟩
    rcases Nat.lt_trichotomy e.2 u with h1 | h1 | h1
    · rw [r37_7_lt ax bx t2 t3 t8 he h1]
      refine hK _ _ _ (C.cond true (by simp only [↓opStep_eq, ↓reduceIte, ↓EW, EV, Nat.reduceAdd, Nat.reduceEqDiff, Int.reduceEq, Int.reduceLT, Int.reduceLE, Int.reduceNe, seqC, retC, skipC, exitC, blockC, condC]) (fun _ => C.skip ?_) fun g => by cases g)
      refine go _ _ e he (.inl h1) kr ?_ ?_ ?_ ?_ ?_ _ fun tm2 hh => hh
      · simp only [↓opStep_eq, ↓reduceIte, ↓EW, EV, Nat.reduceAdd, Nat.reduceEqDiff, Int.reduceEq, Int.reduceLT, Int.reduceLE, Int.reduceNe, seqC, retC, skipC, exitC, blockC, condC, t2]
      · simp only [↓opStep_eq, ↓reduceIte, ↓EW, EV, Nat.reduceAdd, Nat.reduceEqDiff, Int.reduceEq, Int.reduceLT, Int.reduceLE, Int.reduceNe, seqC, retC, skipC, exitC, blockC, condC, t3]
      · simp only [↓opStep_eq, ↓reduceIte, ↓EW, EV, Nat.reduceAdd, Nat.reduceEqDiff, Int.reduceEq, Int.reduceLT, Int.reduceLE, Int.reduceNe, seqC, retC, skipC, exitC, blockC, condC, t4]
      · simp only [↓opStep_eq, ↓reduceIte, ↓EW, EV, Nat.reduceAdd, Nat.reduceEqDiff, Int.reduceEq, Int.reduceLT, Int.reduceLE, Int.reduceNe, seqC, retC, skipC, exitC, blockC, condC, t6]
      · simp only [↓opStep_eq, ↓reduceIte, ↓EW, EV, Nat.reduceAdd, Nat.reduceEqDiff, Int.reduceEq, Int.reduceLT, Int.reduceLE, Int.reduceNe, seqC, retC, skipC, exitC, blockC, condC, t8]
    · rw [r37_7_eq ax bx cx t2 t3 t4 t8 he h1]
      refine less_all L n e.1 x _ _ fun r h2 hq => ?_
      obtain ⟨rfl, k2⟩ := hq
      simp only [↓opStep_eq, ↓reduceIte, ↓EW, EV, Nat.reduceAdd, Nat.reduceEqDiff, Int.reduceEq, Int.reduceLT, Int.reduceLE, Int.reduceNe, seqC, retC, skipC, exitC, blockC, condC, Bool.true_or, Bool.false_or, Bool.or_true, Bool.or_false, Bool.true_and, Bool.false_and, Bool.and_true, Bool.and_false]
      refine hK _ _ _ (C.cond (decide (ltN e.1 x)) (by simp only [↓opStep_eq, ↓reduceIte, ↓EW, EV, Nat.reduceAdd, Nat.reduceEqDiff, Int.reduceEq, Int.reduceLT, Int.reduceLE, Int.reduceNe, seqC, retC, skipC, exitC, blockC, condC]) (fun gy => C.skip ?_) fun gy => C.exit ?_)
      · refine go _ _ e he (.inr ⟨h1, of_decide_eq_true gy⟩) (kr.then k2) ?_ ?_ ?_ ?_ ?_ _ fun tm2 hh => hh
        · simp only [↓opStep_eq, ↓reduceIte, ↓EW, EV, Nat.reduceAdd, Nat.reduceEqDiff, Int.reduceEq, Int.reduceLT, Int.reduceLE, Int.reduceNe, seqC, retC, skipC, exitC, blockC, condC, t2]
        · simp only [↓opStep_eq, ↓reduceIte, ↓EW, EV, Nat.reduceAdd, Nat.reduceEqDiff, Int.reduceEq, Int.reduceLT, Int.reduceLE, Int.reduceNe, seqC, retC, skipC, exitC, blockC, condC, t3]
        · simp only [↓opStep_eq, ↓reduceIte, ↓EW, EV, Nat.reduceAdd, Nat.reduceEqDiff, Int.reduceEq, Int.reduceLT, Int.reduceLE, Int.reduceNe, seqC, retC, skipC, exitC, blockC, condC, t4]
        · simp only [↓opStep_eq, ↓reduceIte, ↓EW, EV, Nat.reduceAdd, Nat.reduceEqDiff, Int.reduceEq, Int.reduceLT, Int.reduceLE, Int.reduceNe, seqC, retC, skipC, exitC, blockC, condC, t6]
        · simp only [↓opStep_eq, ↓reduceIte, ↓EW, EV, Nat.reduceAdd, Nat.reduceEqDiff, Int.reduceEq, Int.reduceLT, Int.reduceLE, Int.reduceNe, seqC, retC, skipC, exitC, blockC, condC, t8]
      · simp only [if_pos]
        refine hQ _ _ i (kr.then k2) hi hlt (fun e' he' => ?_) ?_ ?_ ?_ ?_ ?_
        · rw [he] at he'; cases he'
          rintro (h | ⟨_, h⟩)
          · omega
          · exact of_decide_eq_false gy h
        · simp only [↓opStep_eq, ↓reduceIte, ↓EW, EV, Nat.reduceAdd, Nat.reduceEqDiff, Int.reduceEq, Int.reduceLT, Int.reduceLE, Int.reduceNe, seqC, retC, skipC, exitC, blockC, condC, t2]
        · simp only [↓opStep_eq, ↓reduceIte, ↓EW, EV, Nat.reduceAdd, Nat.reduceEqDiff, Int.reduceEq, Int.reduceLT, Int.reduceLE, Int.reduceNe, seqC, retC, skipC, exitC, blockC, condC, t3]
        · simp only [↓opStep_eq, ↓reduceIte, ↓EW, EV, Nat.reduceAdd, Nat.reduceEqDiff, Int.reduceEq, Int.reduceLT, Int.reduceLE, Int.reduceNe, seqC, retC, skipC, exitC, blockC, condC, t4]
        · simp only [↓opStep_eq, ↓reduceIte, ↓EW, EV, Nat.reduceAdd, Nat.reduceEqDiff, Int.reduceEq, Int.reduceLT, Int.reduceLE, Int.reduceNe, seqC, retC, skipC, exitC, blockC, condC, t6]
        · simp only [↓opStep_eq, ↓reduceIte, ↓EW, EV, Nat.reduceAdd, Nat.reduceEqDiff, Int.reduceEq, Int.reduceLT, Int.reduceLE, Int.reduceNe, seqC, retC, skipC, exitC, blockC, condC, t8]
    · rw [r37_7_gt ax bx t2 t3 t8 he h1]
      refine hK _ _ _ (C.cond false (by simp only [↓opStep_eq, ↓reduceIte, ↓EW, EV, Nat.reduceAdd, Nat.reduceEqDiff, Int.reduceEq, Int.reduceLT, Int.reduceLE, Int.reduceNe, seqC, retC, skipC, exitC, blockC, condC]) (fun g => by cases g) fun _ => C.exit ?_)
      simp only [if_pos]
      refine hQ _ _ i kr hi hlt (fun e' he' => ?_) ?_ ?_ ?_ ?_ ?_
      · rw [he] at he'; cases he'
        rintro (h | ⟨h, _⟩) <;> omega
      · simp only [↓opStep_eq, ↓reduceIte, ↓EW, EV, Nat.reduceAdd, Nat.reduceEqDiff, Int.reduceEq, Int.reduceLT, Int.reduceLE, Int.reduceNe, seqC, retC, skipC, exitC, blockC, condC, t2]
      · simp only [↓opStep_eq, ↓reduceIte, ↓EW, EV, Nat.reduceAdd, Nat.reduceEqDiff, Int.reduceEq, Int.reduceLT, Int.reduceLE, Int.reduceNe, seqC, retC, skipC, exitC, blockC, condC, t3]
      · simp only [↓opStep_eq, ↓reduceIte, ↓EW, EV, Nat.reduceAdd, Nat.reduceEqDiff, Int.reduceEq, Int.reduceLT, Int.reduceLE, Int.reduceNe, seqC, retC, skipC, exitC, blockC, condC, t4]
      · simp only [↓opStep_eq, ↓reduceIte, ↓EW, EV, Nat.reduceAdd, Nat.reduceEqDiff, Int.reduceEq, Int.reduceLT, Int.reduceLE, Int.reduceNe, seqC, retC, skipC, exitC, blockC, condC, t6]
      · simp only [↓opStep_eq, ↓reduceIte, ↓EW, EV, Nat.reduceAdd, Nat.reduceEqDiff, Int.reduceEq, Int.reduceLT, Int.reduceLE, Int.reduceNe, seqC, retC, skipC, exitC, blockC, condC, t8]
  · rw [r37_7_end ax bx t3 t8 (by omega)]
    refine hK _ _ _ (C.cond false (by simp only [↓opStep_eq, ↓reduceIte, ↓EW, EV, Nat.reduceAdd, Nat.reduceEqDiff, Int.reduceEq, Int.reduceLT, Int.reduceLE, Int.reduceNe, seqC, retC, skipC, exitC, blockC, condC]) (fun g => by cases g) fun _ => C.exit ?_)
    simp only [if_pos]
    refine hQ _ _ i kr hi hlt (fun e' he' => ?_) ?_ ?_ ?_ ?_ ?_
    · rw [List.getElem?_eq_none (by omega)] at he'; cases he'
    · simp only [↓opStep_eq, ↓reduceIte, ↓EW, EV, Nat.reduceAdd, Nat.reduceEqDiff, Int.reduceEq, Int.reduceLT, Int.reduceLE, Int.reduceNe, seqC, retC, skipC, exitC, blockC, condC, t2]
    · simp only [↓opStep_eq, ↓reduceIte, ↓EW, EV, Nat.reduceAdd, Nat.reduceEqDiff, Int.reduceEq, Int.reduceLT, Int.reduceLE, Int.reduceNe, seqC, retC, skipC, exitC, blockC, condC, t3]
    · simp only [↓opStep_eq, ↓reduceIte, ↓EW, EV, Nat.reduceAdd, Nat.reduceEqDiff, Int.reduceEq, Int.reduceLT, Int.reduceLE, Int.reduceNe, seqC, retC, skipC, exitC, blockC, condC, t4]
    · simp only [↓opStep_eq, ↓reduceIte, ↓EW, EV, Nat.reduceAdd, Nat.reduceEqDiff, Int.reduceEq, Int.reduceLT, Int.reduceLE, Int.reduceNe, seqC, retC, skipC, exitC, blockC, condC, t6]
    · simp only [↓opStep_eq, ↓reduceIte, ↓EW, EV, Nat.reduceAdd, Nat.reduceEqDiff, Int.reduceEq, Int.reduceLT, Int.reduceLE, Int.reduceNe, seqC, retC, skipC, exitC, blockC, condC, t8]
end Go.Proofs.Ytpoedopdcpejmaa

namespace Go.Proofs.Ytpoedopdcpejmaa
open Go.Ev

theorem outD_take (l : List En) (i : Nat) : outD (l.take i) = (outD l).take i := List.map_take ..
theorem outD_drop (l : List En) (i : Nat) : outD (l.drop i) = (outD l).drop i := List.map_drop ..

theorem radd_law (L n : Nat) (hL : 300000 < L) {P : Nat → Prop} {h : H} {p : Option Addr} {q c : Nat} {es : List En} (a : Dq P h (.slice p q c) (outD es)) (nd : (es.map (·.1)).Nodup) (hlen : es.length ≤ 1000) (now : Nat) (x : Nm) (u : Int) :
    Sp (CF L (n + 3)) 37 [rfV (now : Int) (.slice p q c), x.v, .int .i64 u] h fun r h' => Keep nobody h h' ∧ ∃ p' q' c' es' e, r = .tuple [rfV (now : Int) (.slice p' q' c'), .int .i64 e].toArray ∧ Dq (fun d => P d ∨ h.next ≤ d) h' (.slice p' q' c') (outD es') ∧ RAdd now es x u es' e := by
  refine Sp.body f37 (by simp) ?_
  unfold c37
  have k1 := Keep.new h (.rw [.int .i64 (now : Int), .slice p q c])
  have b1 := Has.new h (.rw [.int .i64 (now : Int), .slice p q c])
  refine C.seq fun K hK => ?_
  simp only [↓opStep_eq, ↓reduceIte, ↓EW, EV, Nat.reduceAdd, Nat.reduceEqDiff, Int.reduceEq, Int.reduceLT, Int.reduceLE, Int.reduceNe, seqC, retC, skipC, exitC, blockC, condC, r37_0, rfCells, cells2, ptrTo]
  have a1 := a.keep0 k1
  have hn1 : (h.new (.rw [.int .i64 (now : Int), .slice p q c])).next = h.next + 1 := rfl
  generalize hB : h.next = B at *
  generalize h.new (.rw [.int .i64 (now : Int), .slice p q c]) = h1 at *
  have k2 := Keep.new h1 (.rw [.int .i64 x.1, .string x.2])
  have b2 := Has.new h1 (.rw [.int .i64 x.1, .string x.2])
  have a2 := a1.keep0 k2
  have b1 := b1.keep0 k2
  have hn2 : (h1.new (.rw [.int .i64 x.1, .string x.2])).next = h1.next + 1 := rfl
  generalize hN : h1.next = N at *
  generalize h1.new (.rw [.int .i64 x.1, .string x.2]) = h2 at *
  have k3 := Keep.new h2 (.rw [.int .i64 0, .slice none 0 0])
  have b3 := Has.new h2 (.rw [.int .i64 0, .slice none 0 0])
  have a3 := a2.keep0 k3
  have b1 := b1.keep0 k3
  have b2 := b2.keep0 k3
  have hn3 : (h2.new (.rw [.int .i64 0, .slice none 0 0])).next = h2.next + 1 := rfl
  generalize hR : h2.next = R at *
  generalize h2.new (.rw [.int .i64 0, .slice none 0 0]) = h3 at *
  have k03 : Keep nobody h h3 := (k1.then k2).then k3
  refine hK _ _ _ (C.seq (C.seq fun K hK => ?_))
  simp only [↓opStep_eq, ↓reduceIte, ↓EW, EV, Nat.reduceAdd, Nat.reduceEqDiff, Int.reduceEq, Int.reduceLT, Int.reduceLE, Int.reduceNe, seqC, retC, skipC, exitC, blockC, condC, r37_1, load2 b2]
  refine name43_law L n x.1 x.2 h3 _ fun r h4 hq => ?_
  obtain ⟨rfl, k4⟩ := hq
  have a4 := a3.keep0 k4
  have b1 := b1.keep0 k4
  have b2 := b2.keep0 k4
  have b3 := b3.keep0 k4
  have k04 := k03.then k4
  have hn4 := k4.next
  have same : Keep nobody h (h4.put R (.rw [.int .i64 (now : Int), .slice p q c])) ∧ Dq (fun d => P d ∨ B ≤ d) (h4.put R (.rw [.int .i64 (now : Int), .slice p q c])) (.slice p q c) (outD es) := by
    refine ⟨k04.trans (Keep.put h4 R _) fun d hd e => by have e : d = R := e; omega, ?_⟩
    refine (((a.mono (P' := fun d => P d ∧ d < B) fun d hd e => ⟨e, by omega⟩).keep0 k04).keep (Keep.put h4 R (.rw [.int .i64 (now : Int), .slice p q c])) fun d e hd => by have e : d = R := e; omega).mono fun d _ e => .inl e.1
  obtain ⟨ks, dqs⟩ := same
  have st0 := storeR (s := none) b3 (now : Int) p q c
  by_cases hv : validN x.1 x.2
  · simp only [↓opStep_eq, ↓reduceIte, ↓EW, EV, Nat.reduceAdd, Nat.reduceEqDiff, Int.reduceEq, Int.reduceLT, Int.reduceLE, Int.reduceNe, seqC, retC, skipC, exitC, blockC, condC, hv, decide_true, decide_false]
    refine hK _ _ _ (C.cond false (by simp only [↓opStep_eq, ↓reduceIte, ↓EW, EV, Nat.reduceAdd, Nat.reduceEqDiff, Int.reduceEq, Int.reduceLT, Int.reduceLE, Int.reduceNe, seqC, retC, skipC, exitC, blockC, condC, Bool.not_true]) (fun g => by cases g) fun _ => C.skip (C.seq (C.seq fun K hK => ?_)))
    by_cases hu : (now : Int) < u ∧ u ≤ 1099511627776
    · have g1 : ¬ u ≤ (now : Int) := by omega
      have g2 : ¬ (1099511627776 : Int) < u := by omega
      obtain ⟨k, rfl⟩ : ∃ k : Nat, u = (k : Int) := ⟨u.toNat, by omega⟩
      simp only [↓opStep_eq, ↓reduceIte, ↓EW, EV, Nat.reduceAdd, Nat.reduceEqDiff, Int.reduceEq, Int.reduceLT, Int.reduceLE, Int.reduceNe, seqC, retC, skipC, exitC, blockC, condC, Bool.true_or, Bool.false_or, Bool.or_true, Bool.or_false, Bool.true_and, Bool.false_and, Bool.and_true, Bool.and_false, r37_3, load0 b1, g1, g2]
      refine hK _ _ _ (C.cond false (by simp only [↓opStep_eq, ↓reduceIte, ↓EW, EV, Nat.reduceAdd, Nat.reduceEqDiff, Int.reduceEq, Int.reduceLT, Int.reduceLE, Int.reduceNe, seqC, retC, skipC, exitC, blockC, condC]) (fun g => by cases g) fun _ => C.skip (C.seq fun K hK => ?_))
      have kr := keep_room h4 6
      have a5 := a4.keep0 kr
      have b1 := b1.keep0 kr
      have b2 := b2.keep0 kr
      have b3 := b3.keep0 kr
      have k05 := k04.then kr
      have hn5 := kr.next
      simp only [↓opStep_eq, ↓reduceIte, ↓EW, EV, Nat.reduceAdd, Nat.reduceEqDiff, Int.reduceEq, Int.reduceLT, Int.reduceLE, Int.reduceNe, seqC, retC, skipC, exitC, blockC, condC, r37_5, loadR b1, load2 b2]
      generalize (⟨h4.objs, h4.next + 6⟩ : H) = h5 at *
      refine find_law L (n + 1) hL a5 nd hlen (now : Int) x _ fun r h6 hq => ?_
      obtain ⟨k6, z, rfl, fd⟩ := hq
      have a6 := a5.keep0 k6
      have b1 := b1.keep0 k6
      have b2 := b2.keep0 k6
      have b3 := b3.keep0 k6
      have hn6 := k6.next
      simp only [↓opStep_eq, ↓reduceIte, ↓EW, EV, Nat.reduceAdd, Nat.reduceEqDiff, Int.reduceEq, Int.reduceLT, Int.reduceLE, Int.reduceNe, seqC, retC, skipC, exitC, blockC, condC, loadR b1, hO_rf (now : Int) q c a.spot]
      refine without_law L (n + 1) hL a6 hlen (now : Int) fd.at_ _ fun r h7 hq => ?_
      obtain ⟨k7, p', q', c', rfl, dq7⟩ := hq
      have b1 := b1.keep0 k7
      have b2 := b2.keep0 k7
      have b3 := b3.keep0 k7
      have st := storeR (s := none) b1 (now : Int) p' q' c'
      have kp := Keep.put h7 B (.rw [.int .i64 (now : Int), .slice p' q' c'])
      simp only [↓opStep_eq, ↓reduceIte, ↓EW, EV, Nat.reduceAdd, Nat.reduceEqDiff, Int.reduceEq, Int.reduceLT, Int.reduceLE, Int.reduceNe, seqC, retC, skipC, exitC, blockC, condC, st]
      have b1 : Has (h7.put B (.rw [.int .i64 (now : Int), .slice p' q' c'])) B (.rw [.int .i64 (now : Int), .slice p' q' c']) := .put b1.1
      have b2 := b2.keep kp fun e => by have e : N = B := e; omega
      have b3 := b3.keep kp fun e => by have e : R = B := e; omega
      have dq8 := dq7.keep kp fun d e hd => by have e : d = B := e; omega
      have k08 : Keep nobody h (h7.put B (.rw [.int .i64 (now : Int), .slice p' q' c'])) := ((k05.then k6).then k7).trans kp fun d hd e => by have e : d = B := e; omega
      have hn8 : (h7.put B (.rw [.int .i64 (now : Int), .slice p' q' c'])).next = h7.next := rfl
      have hn7 := k7.next
      generalize h7.put B (.rw [.int .i64 (now : Int), .slice p' q' c']) = h8 at *
      refine hK _ _ _ (C.seq fun K hK => ?_)
      simp only [↓opStep_eq, ↓reduceIte, ↓EW, EV, Nat.reduceAdd, Nat.reduceEqDiff, Int.reduceEq, Int.reduceLT, Int.reduceLE, Int.reduceNe, seqC, retC, skipC, exitC, blockC, condC, r37_6]
      refine hK .norm _ _ (C.seq ?_)
      have hwl : (wo es x).length ≤ 1000 := Nat.le_trans (wo_len es x) hlen
      refine place_loop L (n + 1) hL dq8 hwl (u := k) b1 b2 ?_ ?_ ?_ (.pointer (some ⟨R, 0, none⟩)) ?_ ?_ _ fun tm9 h9 i k9 hi hlt hge u2 u3 u4 u6 u8 => ?_
      · simp only [↓opStep_eq, ↓reduceIte, ↓EW, EV, Nat.reduceAdd, Nat.reduceEqDiff, Int.reduceEq, Int.reduceLT, Int.reduceLE, Int.reduceNe, seqC, retC, skipC, exitC, blockC, condC]
      · simp only [↓opStep_eq, ↓reduceIte, ↓EW, EV, Nat.reduceAdd, Nat.reduceEqDiff, Int.reduceEq, Int.reduceLT, Int.reduceLE, Int.reduceNe, seqC, retC, skipC, exitC, blockC, condC]
      · simp only [↓opStep_eq, ↓reduceIte, ↓EW, EV, Nat.reduceAdd, Nat.reduceEqDiff, Int.reduceEq, Int.reduceLT, Int.reduceLE, Int.reduceNe, seqC, retC, skipC, exitC, blockC, condC]
      · simp only [↓opStep_eq, ↓reduceIte, ↓EW, EV, Nat.reduceAdd, Nat.reduceEqDiff, Int.reduceEq, Int.reduceLT, Int.reduceLE, Int.reduceNe, seqC, retC, skipC, exitC, blockC, condC]
      · simp only [↓opStep_eq, ↓reduceIte, ↓EW, EV, Nat.reduceAdd, Nat.reduceEqDiff, Int.reduceEq, Int.reduceLT, Int.reduceLE, Int.reduceNe, seqC, retC, skipC, exitC, blockC, condC]
      have b1 := b1.keep0 k9
      have b2 := b2.keep0 k9
      have b3 := b3.keep0 k9
      have dq9 := dq8.keep0 k9
      have hn9 := k9.next
      have k09 := k08.then k9
      have dq9' : Dq (fun d => h6.next ≤ d ∧ d < h9.next) h9 (.slice p' q' c') (outD (wo es x)) := dq9.mono fun d hd e => ⟨e, hd⟩
      refine C.seq fun K hK => ?_
      simp only [↓opStep_eq, ↓reduceIte, ↓EW, EV, Nat.reduceAdd, Nat.reduceEqDiff, Int.reduceEq, Int.reduceLT, Int.reduceLE, Int.reduceNe, seqC, retC, skipC, exitC, blockC, condC, r37_9]
      refine hK .norm _ _ (C.seq fun K hK => ?_)
      obtain ⟨xs, exs, sxs⟩ := dq9.pre i (by rw [outD_len]; exact hi)
      have n0 : Dq (h9.next ≤ ·) h9 (.slice none 0 0) [] := .inl ⟨rfl, rfl⟩
      obtain ⟨v10, h10, e10, dq10, k10⟩ := n0.app sxs (fun d hd => hd) (by simp [outD_len]; omega)
      simp only [↓opStep_eq, ↓reduceIte, ↓EW, EV, Nat.reduceAdd, Nat.reduceEqDiff, Int.reduceEq, Int.reduceLT, Int.reduceLE, Int.reduceNe, seqC, retC, skipC, exitC, blockC, condC, r37_10, u3, u8, load1 b1, exs, e10]
      have b1 := b1.keep k10 fun e => by have := b1.1; omega
      have b2 := b2.keep k10 fun e => by have := b2.1; omega
      have b3 := b3.keep k10 fun e => by have := b3.1; omega
      have dqr := dq9'.keep k10 fun d e hd => by omega
      have hn10 := k10.next
      refine hK _ _ _ (C.seq fun K hK => ?_)
      have k11 := Keep.new h10 (.rw [.int .i64 x.1, .string x.2, .int .i64 (k : Int)])
      have b11 := Has.new h10 (.rw [.int .i64 x.1, .string x.2, .int .i64 (k : Int)])
      simp only [↓opStep_eq, ↓reduceIte, ↓EW, EV, Nat.reduceAdd, Nat.reduceEqDiff, Int.reduceEq, Int.reduceLT, Int.reduceLE, Int.reduceNe, seqC, retC, skipC, exitC, blockC, condC, r37_11, u2, u4, load2 b2, aggD, litD]
      have dq11 := dq10.keep0 k11
      have b1 := b1.keep0 k11
      have b3 := b3.keep0 k11
      have dqr := dqr.keep0 k11
      have hn11 : (h10.new (.rw [.int .i64 x.1, .string x.2, .int .i64 (k : Int)])).next = h10.next + 1 := rfl
      generalize h10.new (.rw [.int .i64 x.1, .string x.2, .int .i64 (k : Int)]) = h11 at *
      rw [List.nil_append] at dq11
      obtain ⟨v12, h12, e12, dq12, k12⟩ := dq11.append (x, (k : Int)) b11 (fun d hd => by omega) (by rw [List.length_take, outD_len]; omega)
      simp only [↓opStep_eq, ↓reduceIte, ↓EW, EV, Nat.reduceAdd, Nat.reduceEqDiff, Int.reduceEq, Int.reduceLT, Int.reduceLE, Int.reduceNe, seqC, retC, skipC, exitC, blockC, condC, e12]
      have b1 := b1.keep k12 fun e => by omega
      have b3 := b3.keep k12 fun e => by omega
      have dqr := dqr.keep k12 fun d e hd => by omega
      have hn12 := k12.next
      refine hK _ _ _ (C.seq fun K hK => ?_)
      obtain ⟨ys, eys, sys⟩ := dqr.suf i (by rw [outD_len]; exact hi)
      obtain ⟨v13, h13, e13, dq13, k13⟩ := dq12.app sys (fun d hd => by omega) (by simp [outD_len]; omega)
      simp only [↓opStep_eq, ↓reduceIte, ↓EW, EV, Nat.reduceAdd, Nat.reduceEqDiff, Int.reduceEq, Int.reduceLT, Int.reduceLE, Int.reduceNe, seqC, retC, skipC, exitC, blockC, condC, r37_12, u3, u8, load1 b1, eys, e13]
      have b1 := b1.keep k13 fun e => by omega
      have b3 := b3.keep k13 fun e => by omega
      have hn13 := k13.next
      refine hK _ _ _ (C.seq fun K hK => ?_)
      obtain ⟨p2, q2, c2, e2⟩ := dq13.form
      subst e2
      have st2 := storeR (s := none) b3 (now : Int) p2 q2 c2
      simp only [↓opStep_eq, ↓reduceIte, ↓EW, EV, Nat.reduceAdd, Nat.reduceEqDiff, Int.reduceEq, Int.reduceLT, Int.reduceLE, Int.reduceNe, seqC, retC, skipC, exitC, blockC, condC, r37_13, u3, u6, load0 b1, rfLit, st2]
      have kq := Keep.put h13 R (.rw [.int .i64 (now : Int), .slice p2 q2 c2])
      have eo : outD ((wo es x).take i ++ (x, k) :: (wo es x).drop i) = (outD (wo es x)).take i ++ [(x, (k : Int))] ++ (outD (wo es x)).drop i := by
        rw [← outD_take, ← outD_drop]
        unfold outD
        rw [List.map_append, List.map_cons, List.append_assoc]; rfl
      have dqz : Dq (fun d => P d ∨ B ≤ d) (h13.put R (.rw [.int .i64 (now : Int), .slice p2 q2 c2])) (.slice p2 q2 c2) (outD ((wo es x).take i ++ (x, k) :: (wo es x).drop i)) := by
        rw [eo]
        exact (dq13.keep kq fun d e hd => by have e : d = R := e; omega).mono fun d _ hd => .inr (by omega)
      refine hK _ _ _ (C.ret ⟨.inr rfl, [rfV (now : Int) (.slice p2 q2 c2), .int .i64 0], ?_, (((((k09.trans k10 fun d hd e => by omega).then k11).trans k12 fun d hd e => by omega).trans k13 fun d hd e => by omega).trans kq fun d hd e => by have e : d = R := e; omega), p2, q2, c2, _, 0, rfl, dqz, .inr (.inr ⟨hv, k, i, rfl, by omega, by unfold MAXT; omega, hi, hlt, hge, rfl, rfl⟩)⟩)
      simp only [↓opStep_eq, ↓reduceIte, ↓EW, EV, Nat.reduceAdd, Nat.reduceEqDiff, Int.reduceEq, Int.reduceLT, Int.reduceLE, Int.reduceNe, seqC, retC, skipC, exitC, blockC, condC, q37, u6, loadR (Has.put b3.1)]
    · have bad : ∀ (tm : T Value) (K : KE), tg tm 3 = .pointer (some ⟨B, 0, none⟩) → tg tm 6 = .pointer (some ⟨R, 0, none⟩) → (∀ tm', q37.f tm' (h4.put R (.rw [.int .i64 (now : Int), .slice p q c])) = some [rfV (now : Int) (.slice p q c), .int .i64 2] → K .ret tm' [] (h4.put R (.rw [.int .i64 (now : Int), .slice p q c])) = true) → (seqC ⟨r37_4⟩ retC) (CF L (n + 2)) L tm [] h4 K = true := fun tm K u3 u6 hK => by
        simp only [↓opStep_eq, ↓reduceIte, ↓EW, EV, Nat.reduceAdd, Nat.reduceEqDiff, Int.reduceEq, Int.reduceLT, Int.reduceLE, Int.reduceNe, seqC, retC, skipC, exitC, blockC, condC, r37_4, retC, u3, u6, loadR b1, st0]
        exact hK _ (by simp only [↓opStep_eq, ↓reduceIte, ↓EW, EV, Nat.reduceAdd, Nat.reduceEqDiff, Int.reduceEq, Int.reduceLT, Int.reduceLE, Int.reduceNe, seqC, retC, skipC, exitC, blockC, condC, q37, u6, loadR (Has.put b3.1)])
      by_cases h1 : u ≤ (now : Int)
      · simp only [↓opStep_eq, ↓reduceIte, ↓EW, EV, Nat.reduceAdd, Nat.reduceEqDiff, Int.reduceEq, Int.reduceLT, Int.reduceLE, Int.reduceNe, seqC, retC, skipC, exitC, blockC, condC, Bool.true_or, Bool.false_or, Bool.or_true, Bool.or_false, Bool.true_and, Bool.false_and, Bool.and_true, Bool.and_false, r37_3, load0 b1, h1]
        refine hK _ _ _ (C.cond true (by simp only [↓opStep_eq, ↓reduceIte, ↓EW, EV, Nat.reduceAdd, Nat.reduceEqDiff, Int.reduceEq, Int.reduceLT, Int.reduceLE, Int.reduceNe, seqC, retC, skipC, exitC, blockC, condC]) (fun _ => fun K hK => ?_) fun g => by cases g)
        rw [show ∀ x : CodeT, (⟨x⟩ : Box CodeT).f = x from fun _ => rfl]
        refine bad _ K ?_ ?_ fun tm' e => hK _ _ _ ⟨.inr rfl, _, e, ks, p, q, c, es, 2, rfl, dqs, .inr (.inl ⟨hv, hu, rfl, rfl⟩)⟩
        · simp only [↓opStep_eq, ↓reduceIte, ↓EW, EV, Nat.reduceAdd, Nat.reduceEqDiff, Int.reduceEq, Int.reduceLT, Int.reduceLE, Int.reduceNe, seqC, retC, skipC, exitC, blockC, condC]
        · simp only [↓opStep_eq, ↓reduceIte, ↓EW, EV, Nat.reduceAdd, Nat.reduceEqDiff, Int.reduceEq, Int.reduceLT, Int.reduceLE, Int.reduceNe, seqC, retC, skipC, exitC, blockC, condC]
      · have h3 : (1099511627776 : Int) < u := by omega
        simp only [↓opStep_eq, ↓reduceIte, ↓EW, EV, Nat.reduceAdd, Nat.reduceEqDiff, Int.reduceEq, Int.reduceLT, Int.reduceLE, Int.reduceNe, seqC, retC, skipC, exitC, blockC, condC, Bool.true_or, Bool.false_or, Bool.or_true, Bool.or_false, Bool.true_and, Bool.false_and, Bool.and_true, Bool.and_false, r37_3, load0 b1, h1, h3]
        refine hK _ _ _ (C.cond true (by simp only [↓opStep_eq, ↓reduceIte, ↓EW, EV, Nat.reduceAdd, Nat.reduceEqDiff, Int.reduceEq, Int.reduceLT, Int.reduceLE, Int.reduceNe, seqC, retC, skipC, exitC, blockC, condC]) (fun _ => fun K hK => ?_) fun g => by cases g)
        rw [show ∀ x : CodeT, (⟨x⟩ : Box CodeT).f = x from fun _ => rfl]
        refine bad _ K ?_ ?_ fun tm' e => hK _ _ _ ⟨.inr rfl, _, e, ks, p, q, c, es, 2, rfl, dqs, .inr (.inl ⟨hv, hu, rfl, rfl⟩)⟩
        · simp only [↓opStep_eq, ↓reduceIte, ↓EW, EV, Nat.reduceAdd, Nat.reduceEqDiff, Int.reduceEq, Int.reduceLT, Int.reduceLE, Int.reduceNe, seqC, retC, skipC, exitC, blockC, condC]
        · simp only [↓opStep_eq, ↓reduceIte, ↓EW, EV, Nat.reduceAdd, Nat.reduceEqDiff, Int.reduceEq, Int.reduceLT, Int.reduceLE, Int.reduceNe, seqC, retC, skipC, exitC, blockC, condC]
  · simp only [↓opStep_eq, ↓reduceIte, ↓EW, EV, Nat.reduceAdd, Nat.reduceEqDiff, Int.reduceEq, Int.reduceLT, Int.reduceLE, Int.reduceNe, seqC, retC, skipC, exitC, blockC, condC, hv, decide_true, decide_false]
    refine hK _ _ _ (C.cond true (by simp only [↓opStep_eq, ↓reduceIte, ↓EW, EV, Nat.reduceAdd, Nat.reduceEqDiff, Int.reduceEq, Int.reduceLT, Int.reduceLE, Int.reduceNe, seqC, retC, skipC, exitC, blockC, condC, Bool.not_false]) (fun _ => C.seq fun K hK => ?_) fun g => by cases g)
    simp only [↓opStep_eq, ↓reduceIte, ↓EW, EV, Nat.reduceAdd, Nat.reduceEqDiff, Int.reduceEq, Int.reduceLT, Int.reduceLE, Int.reduceNe, seqC, retC, skipC, exitC, blockC, condC, r37_2, loadR b1, st0]
    refine hK _ _ _ (C.ret ⟨.inr rfl, [rfV (now : Int) (.slice p q c), .int .i64 8], ?_, ks, p, q, c, es, 8, rfl, dqs, .inl ⟨hv, rfl, rfl⟩⟩)
    simp only [↓opStep_eq, ↓reduceIte, ↓EW, EV, Nat.reduceAdd, Nat.reduceEqDiff, Int.reduceEq, Int.reduceLT, Int.reduceLE, Int.reduceNe, seqC, retC, skipC, exitC, blockC, condC, q37, loadR (Has.put b3.1)]
end Go.Proofs.Ytpoedopdcpejmaa

namespace Go.Proofs.Ytpoedopdcpejmaa
open Go.Ev

/-! ### the wheel beside the document's -/
structure Bth (l es : List En) : Prop where
  pm : l.Perm es
  so : es.Pairwise fun a b => ltE a b.1 b.2
theorem ltE_tr {a b c : En} (h1 : ltE a b.1 b.2) (h2 : ltE b c.1 c.2) : ltE a c.1 c.2 := by
  rcases h1 with h1 | ⟨h1, h1'⟩
  · rcases h2 with h2 | ⟨h2, _⟩
    · exact .inl (by omega)
    · exact .inl (by omega)
  · rcases h2 with h2 | ⟨h2, h2'⟩
    · exact .inl (by omega)
    · exact .inr ⟨by omega, ltN_tr _ _ _ h1' h2'⟩
theorem ltE_tot {a b : En} (h : a.1 ≠ b.1) (h1 : ¬ ltE a b.1 b.2) : ltE b a.1 a.2 := by
  rcases Nat.lt_trichotomy a.2 b.2 with e | e | e
  · exact absurd (.inl e) h1
  · rcases ltN_tot a.1 b.1 h with g | g
    · exact absurd (.inr ⟨e, g⟩) h1
    · exact .inr ⟨e.symm, g⟩
  · exact .inl e
section
variable {l es : List En}
theorem Bth.nd (b : Bth l es) (nd : (l.map (·.1)).Nodup) : (es.map (·.1)).Nodup := (b.pm.map _).nodup_iff.1 nd
theorem Bth.wo (b : Bth l es) (x : Nm) : Bth (wo l x) (wo es x) := ⟨b.pm.filter _, b.so.sublist List.filter_sublist⟩
theorem Bth.tick (b : Bth l es) (k : Nat) : Bth (l.filter fun e => decide (k < e.2)) (es.filter fun e => decide (k < e.2)) := ⟨b.pm.filter _, b.so.sublist List.filter_sublist⟩
theorem Bth.add (b : Bth l es) {x : Nm} {k i : Nat} (hi : i ≤ (Proofs.Ytpoedopdcpejmaa.wo es x).length) (hlt : ∀ e ∈ (Proofs.Ytpoedopdcpejmaa.wo es x).take i, ltE e x k) (hge : ∀ e, (Proofs.Ytpoedopdcpejmaa.wo es x)[i]? = some e → ¬ ltE e x k) :
    Bth ((x, k) :: Proofs.Ytpoedopdcpejmaa.wo l x) ((Proofs.Ytpoedopdcpejmaa.wo es x).take i ++ (x, k) :: (Proofs.Ytpoedopdcpejmaa.wo es x).drop i) := by
  obtain ⟨pm, so⟩ := b.wo x
  have hne : ∀ e ∈ Proofs.Ytpoedopdcpejmaa.wo es x, e.1 ≠ x := fun e he => (wo_mem.1 he).2
  generalize Proofs.Ytpoedopdcpejmaa.wo es x = w at *
  have hsplit : w.take i ++ w.drop i = w := List.take_append_drop i w
  refine ⟨?_, ?_⟩
  · refine (pm.cons (x, k)).trans ?_
    rw [← hsplit]
    simp only [List.take_append_drop]
    have : ((x, k) :: (w.take i ++ w.drop i)).Perm (w.take i ++ (x, k) :: w.drop i) := List.perm_middle.symm
    rw [hsplit] at this
    exact this
  · rw [← hsplit] at so
    obtain ⟨s1, s2, s3⟩ := List.pairwise_append.1 so
    have hdrop : ∀ e ∈ w.drop i, ltE (x, k) e.1 e.2 := fun e he => by
      cases hq : w.drop i with
      | nil => rw [hq] at he; cases he
      | cons f r =>
        have hf : w[i]? = some f := by
          have : (w.drop i)[0]? = some f := by rw [hq]; rfl
          rw [List.getElem?_drop] at this
          simpa using this
        have hfx : f.1 ≠ x := hne f (List.mem_of_getElem? hf)
        have h1 : ltE (x, k) f.1 f.2 := ltE_tot (a := f) (b := (x, k)) hfx (hge f hf)
        rw [hq] at he s2
        simp only [List.mem_cons] at he
        rcases he with rfl | he
        · exact h1
        · exact ltE_tr (b := f) h1 ((List.pairwise_cons.1 s2).1 e he)
    refine List.pairwise_append.2 ⟨s1, List.pairwise_cons.2 ⟨fun e he => hdrop e he, s2⟩, fun a ha c hc => ?_⟩
    simp only [List.mem_cons] at hc
    rcases hc with rfl | hc
    · exact hlt a ha
    · exact s3 a ha c hc
theorem Bth.due (b : Bth l es) (nd : (l.map (·.1)).Nodup) (k : Nat) : By l k ((es.filter fun e => decide (e.2 ≤ k)).map (·.1)) := by
  refine ⟨List.pairwise_map.2 ?_, fun x => ?_⟩
  · refine List.Pairwise.imp_of_mem (fun {a c} ha hc h => ?_) (b.so.sublist List.filter_sublist)
    have ha : (a.1, a.2) ∈ l := b.pm.mem_iff.2 (List.mem_filter.1 ha).1
    have hc : (c.1, c.2) ∈ l := b.pm.mem_iff.2 (List.mem_filter.1 hc).1
    unfold ltW
    rw [whF_of nd ha, whF_of nd hc]
    exact h
  · rw [List.mem_map]
    constructor
    · rintro ⟨e, he, rfl⟩
      obtain ⟨h1, h2⟩ := List.mem_filter.1 he
      exact ⟨e.2, of_decide_eq_true h2, b.pm.mem_iff.2 h1⟩
    · rintro ⟨u, h1, h2⟩
      exact ⟨(x, u), List.mem_filter.2 ⟨b.pm.mem_iff.1 h2, decide_eq_true h1⟩, rfl⟩
theorem Bth.here (b : Bth l es) {x : Nm} : (∃ u, (x, u) ∈ l) ↔ ∃ u, (x, u) ∈ es := ⟨fun ⟨u, h⟩ => ⟨u, b.pm.mem_iff.1 h⟩, fun ⟨u, h⟩ => ⟨u, b.pm.mem_iff.2 h⟩⟩
theorem Bth.del (b : Bth l es) {x : Nm} {l' es' : List En} {e f : Int} (d : DelR l x l' e) (r : RDel es x es' f) : e = f ∧ Bth l' es' := by
  rcases d with ⟨h, rfl, rfl⟩ | ⟨h, hn, rfl, rfl⟩ | ⟨h, hx, rfl, rfl⟩
  · rcases r with ⟨_, rfl, rfl⟩ | ⟨g, _⟩ | ⟨g, _⟩
    · exact ⟨rfl, b⟩
    · exact absurd g h
    · exact absurd g h
  · rcases r with ⟨g, _⟩ | ⟨_, _, rfl, rfl⟩ | ⟨_, ⟨u, hu⟩, _⟩
    · exact absurd h g
    · exact ⟨rfl, b⟩
    · exact absurd rfl (hn _ (b.pm.mem_iff.2 hu))
  · rcases r with ⟨g, _⟩ | ⟨_, hn, _⟩ | ⟨_, _, rfl, rfl⟩
    · exact absurd h g
    · obtain ⟨u, hu⟩ := hx
      exact absurd rfl (hn _ (b.pm.mem_iff.1 hu))
    · exact ⟨rfl, b.wo x⟩
theorem Bth.until_ (b : Bth l es) (nd : (l.map (·.1)).Nodup) {x : Nm} {t e t' e' : Int} (d : UntilR l x t e) (r : RUntil es x t' e') : t = t' ∧ e = e' := by
  rcases d with ⟨h, rfl, rfl⟩ | ⟨h, hn, rfl, rfl⟩ | ⟨h, u, hx, rfl, rfl⟩
  · rcases r with ⟨_, rfl, rfl⟩ | ⟨g, _⟩ | ⟨g, _⟩
    · exact ⟨rfl, rfl⟩
    · exact absurd g h
    · exact absurd g h
  · rcases r with ⟨g, _⟩ | ⟨_, _, rfl, rfl⟩ | ⟨_, u, hu, _⟩
    · exact absurd h g
    · exact ⟨rfl, rfl⟩
    · exact absurd rfl (hn _ (b.pm.mem_iff.2 hu))
  · rcases r with ⟨g, _⟩ | ⟨_, hn, _⟩ | ⟨_, w, hw, rfl, rfl⟩
    · exact absurd h g
    · exact absurd rfl (hn _ (b.pm.mem_iff.1 hx))
    · have := nd_same nd hx (b.pm.mem_iff.2 hw) rfl
      have : u = w := congrArg Prod.snd this
      subst this
      exact ⟨rfl, rfl⟩
theorem Bth.addR (b : Bth l es) {now : Nat} {x : Nm} {u : Int} {l' es' : List En} {e f : Int} (d : AddR now l x u l' e) (r : RAdd now es x u es' f) : e = f ∧ Bth l' es' ∧ l'.length ≤ l.length + 1 := by
  rcases d with ⟨h, rfl, rfl⟩ | ⟨h, hn, rfl, rfl⟩ | ⟨h, k, hk, hk1, hk2, rfl, rfl⟩
  · rcases r with ⟨_, rfl, rfl⟩ | ⟨g, _⟩ | ⟨g, _⟩
    · exact ⟨rfl, b, by omega⟩
    · exact absurd g h
    · exact absurd g h
  · rcases r with ⟨g, _⟩ | ⟨_, _, rfl, rfl⟩ | ⟨_, k, _, hk, hk1, hk2, _⟩
    · exact absurd h g
    · exact ⟨rfl, b, by omega⟩
    · exact absurd ⟨by omega, by unfold MAXT at hk2; omega⟩ hn
  · rcases r with ⟨g, _⟩ | ⟨_, hn, _⟩ | ⟨_, k', i, hk', _, _, hi, hlt, hge, rfl, rfl⟩
    · exact absurd h g
    · exact absurd ⟨by omega, by unfold MAXT at hk2; omega⟩ hn
    · have : k' = k := by omega
      subst this
      refine ⟨rfl, b.add hi hlt hge, ?_⟩
      have := wo_len l x
      simp only [List.length_cons]; omega
end

theorem wipe_loop (L n : Nat) (hL : 300000 < L) {P : Nat → Prop} {h : H} {v : Value} {ns : List Nm} (a : Sn P h v ns) (hlen : ns.length ≤ 100000) {tm : T Value} (t15 : tg tm 15 = v) (g6 : Value) (t6 : tg tm 6 = g6) (g17 : Value) (t17 : tg tm 17 = g17) (g20 : Value) (t20 : tg tm 20 = g20) (Q : Ex → T Value → H → Prop)
    (hQ : ∀ tm' h', Keep P h h' → tg tm' 6 = g6 → tg tm' 17 = g17 → tg tm' 20 = g20 → Q .norm tm' h') :
    C ⟨seqC ⟨r21_14⟩ ⟨blockC 1 (loopB l21_18)⟩⟩ (CF L n) L tm h Q := by
  have hl := a.len
  refine C.seq fun K hK => ?_
  simp only [↓opStep_eq, ↓reduceIte, ↓EW, EV, Nat.reduceAdd, Nat.reduceEqDiff, Int.reduceEq, Int.reduceLT, Int.reduceLE, Int.reduceNe, seqC, retC, skipC, exitC, blockC, condC, r21_14]
  refine hK .norm _ _ ?_
  refine C.block (C.loop (fun m tm' hx => ∃ i, m = ns.length - i ∧ i ≤ ns.length ∧ Keep P h hx ∧ (ns.length = 0 ∨ ∃ B f, P B ∧ Arr hx B v ns.length f) ∧ tg tm' 15 = v ∧ tg tm' 6 = g6 ∧ tg tm' 17 = g17 ∧ tg tm' 20 = g20 ∧ tg tm' 21 = .int .i64 (i : Int)) ns.length (by omega)
    ⟨0, rfl, by omega, .refl _ _, by
      rcases a with ⟨_, rfl⟩ | ⟨B, a, p⟩
      · exact .inl rfl
      · exact .inr ⟨B, _, p, a⟩, by simp only [↓opStep_eq, ↓reduceIte, ↓EW, EV, Nat.reduceAdd, Nat.reduceEqDiff, Int.reduceEq, Int.reduceLT, Int.reduceLE, Int.reduceNe, seqC, retC, skipC, exitC, blockC, condC, t15], by simp only [↓opStep_eq, ↓reduceIte, ↓EW, EV, Nat.reduceAdd, Nat.reduceEqDiff, Int.reduceEq, Int.reduceLT, Int.reduceLE, Int.reduceNe, seqC, retC, skipC, exitC, blockC, condC, t6], by simp only [↓opStep_eq, ↓reduceIte, ↓EW, EV, Nat.reduceAdd, Nat.reduceEqDiff, Int.reduceEq, Int.reduceLT, Int.reduceLE, Int.reduceNe, seqC, retC, skipC, exitC, blockC, condC, t17], by simp only [↓opStep_eq, ↓reduceIte, ↓EW, EV, Nat.reduceAdd, Nat.reduceEqDiff, Int.reduceEq, Int.reduceLT, Int.reduceLE, Int.reduceNe, seqC, retC, skipC, exitC, blockC, condC, t20], by simp only [↓opStep_eq, ↓reduceIte, ↓EW, EV, Nat.reduceAdd, Nat.reduceEqDiff, Int.reduceEq, Int.reduceLT, Int.reduceLE, Int.reduceNe, seqC, retC, skipC, exitC, blockC, condC] <;> rfl⟩ ?_)
  clear t15 t6 t17 t20
  rintro m tm hx ⟨i, rfl, hi, kx, ha, t15, t6, t17, t20, t21⟩
  unfold l21_18
  refine C.seq (C.seq fun K hK => ?_)
  simp only [↓opStep_eq, ↓reduceIte, ↓EW, EV, Nat.reduceAdd, Nat.reduceEqDiff, Int.reduceEq, Int.reduceLT, Int.reduceLE, Int.reduceNe, seqC, retC, skipC, exitC, blockC, condC, r21_15, t15, t21, hl]
  refine hK _ _ _ (C.cond (decide ((i : Int) < (ns.length : Int))) (by simp only [↓opStep_eq, ↓reduceIte, ↓EW, EV, Nat.reduceAdd, Nat.reduceEqDiff, Int.reduceEq, Int.reduceLT, Int.reduceLE, Int.reduceNe, seqC, retC, skipC, exitC, blockC, condC]) (fun g => C.skip ?_) fun g => C.exit ?_)
  · have g : i < ns.length := by have := of_decide_eq_true g; omega
    have w1 := wadd1 i (by omega)
    rcases ha with h0 | ⟨B, f, pB, ar⟩
    · omega
    have ix := ar.ix g
    obtain ⟨h2, st, ar2, k2, _⟩ := ar.st g (7, strB [])
    have lit : aggO (fill [(.int .i64 (0)), (.string (strB []))] (plc [(0, 1), (1, 1)]) [(0, (.int .i64 (7)))]) = some (Nm.v (7, strB [])) := rfl
    refine C.seq (C.block fun K hK => ?_)
    simp only [↓opStep_eq, ↓reduceIte, ↓EW, EV, Nat.reduceAdd, Nat.reduceEqDiff, Int.reduceEq, Int.reduceLT, Int.reduceLE, Int.reduceNe, seqC, retC, skipC, exitC, blockC, condC, r21_17, t15, t21, lit, ix, st]
    refine hK _ _ _ fun K hK => ?_
    simp only [↓opStep_eq, ↓reduceIte, ↓EW, EV, Nat.reduceAdd, Nat.reduceEqDiff, Int.reduceEq, Int.reduceLT, Int.reduceLE, Int.reduceNe, seqC, retC, skipC, exitC, blockC, condC, r21_16, t21, w1]
    refine hK _ _ _ ⟨ns.length - (i + 1), by omega, i + 1, rfl, by omega, kx.trans k2 fun c hc e => by rw [e]; exact pB, .inr ⟨B, _, pB, ar2⟩, by simp only [↓opStep_eq, ↓reduceIte, ↓EW, EV, Nat.reduceAdd, Nat.reduceEqDiff, Int.reduceEq, Int.reduceLT, Int.reduceLE, Int.reduceNe, seqC, retC, skipC, exitC, blockC, condC, t15], by simp only [↓opStep_eq, ↓reduceIte, ↓EW, EV, Nat.reduceAdd, Nat.reduceEqDiff, Int.reduceEq, Int.reduceLT, Int.reduceLE, Int.reduceNe, seqC, retC, skipC, exitC, blockC, condC, t6], by simp only [↓opStep_eq, ↓reduceIte, ↓EW, EV, Nat.reduceAdd, Nat.reduceEqDiff, Int.reduceEq, Int.reduceLT, Int.reduceLE, Int.reduceNe, seqC, retC, skipC, exitC, blockC, condC, t17], by simp only [↓opStep_eq, ↓reduceIte, ↓EW, EV, Nat.reduceAdd, Nat.reduceEqDiff, Int.reduceEq, Int.reduceLT, Int.reduceLE, Int.reduceNe, seqC, retC, skipC, exitC, blockC, condC, t20], by simp only [↓opStep_eq, ↓reduceIte, ↓EW, EV, Nat.reduceAdd, Nat.reduceEqDiff, Int.reduceEq, Int.reduceLT, Int.reduceLE, Int.reduceNe, seqC, retC, skipC, exitC, blockC, condC]⟩
  · simp only [if_pos]
    exact hQ _ hx kx (by simp only [↓opStep_eq, ↓reduceIte, ↓EW, EV, Nat.reduceAdd, Nat.reduceEqDiff, Int.reduceEq, Int.reduceLT, Int.reduceLE, Int.reduceNe, seqC, retC, skipC, exitC, blockC, condC, t6]) (by simp only [↓opStep_eq, ↓reduceIte, ↓EW, EV, Nat.reduceAdd, Nat.reduceEqDiff, Int.reduceEq, Int.reduceLT, Int.reduceLE, Int.reduceNe, seqC, retC, skipC, exitC, blockC, condC, t17]) (by simp only [↓opStep_eq, ↓reduceIte, ↓EW, EV, Nat.reduceAdd, Nat.reduceEqDiff, Int.reduceEq, Int.reduceLT, Int.reduceLE, Int.reduceNe, seqC, retC, skipC, exitC, blockC, condC, t20])
end Go.Proofs.Ytpoedopdcpejmaa

namespace Go.Proofs.Ytpoedopdcpejmaa
open Go.Ev

def doV (kd : Nat) (x : Nm) (u : Int) : Value := .agg [.int .u8 (kd : Int), .int .i64 x.1, .string x.2, .int .i64 u].toArray
theorem cells4 (kd : Nat) (x : Nm) (u : Int) : (Value.cells (doV kd x u)).toList = [.int .u8 (kd : Int), .int .i64 x.1, .string x.2, .int .i64 u] := by simp [doV]
theorem rem5 (n : Nat) : binV Try.prog .rem 5 true (.int .u8 (n : Int)) (.int .u8 5) = some (.int .u8 ((n % 5 : Nat) : Int)) := rem_nat 5 true .u8 n 5 (by omega)

/-- the wheel and the document's, in memory -/
structure Mid (O : Nat → Prop) (h : H) (b now : Nat) (l es : List En) (v : Value) : Prop where
  wh : Wh O h b now l
  bt : Bth l es
  row : Dq (fun d => ¬ O d) h v (outD es)
def OneQ (O : Nat → Prop) (h : H) (b : Nat) (l : List En) (r : Value) (h' : H) : Prop :=
  ∃ O' now' l' es' p q c, Mid O' h' b now' l' es' (.slice p q c) ∧ l'.length ≤ l.length + 1 ∧ Fw O h O' h' ∧ r = .tuple [rfV (now' : Int) (.slice p q c), .bool true].toArray

structure Cp (h0 h : H) (z : Int) (v : Value) (kd : Nat) (x : Nm) (u : Int) (tm : T Value) (b : Nat) : Prop where
  b4 : Has h h0.next (.rw [.int .i64 z, v])
  b5 : Has h (h0.next + 1) (.rw [.int .u8 (kd : Int), .int .i64 x.1, .string x.2, .int .i64 u])
  b6 : Has h (h0.next + 2) (.rw [.int .i64 0, .slice none 0 0])
  t0 : tg tm 0 = .pointer (some ⟨b, 0, none⟩)
  t4 : tg tm 4 = .pointer (some ⟨h0.next, 0, none⟩)
  t5 : tg tm 5 = .pointer (some ⟨h0.next + 1, 0, none⟩)
  t6 : tg tm 6 = .pointer (some ⟨h0.next + 2, 0, none⟩)
section
variable {h0 h h' : H} {z : Int} {v : Value} {kd b : Nat} {x : Nm} {u : Int} {tm : T Value}
theorem Cp.name (c : Cp h0 h z v kd x u tm b) (s) : loadAgg 2 h (.pointer (some ⟨h0.next + 1, 1, s⟩)) = some x.v := by rw [loadAgg_has c.b5 rfl (by simp)]; rfl
theorem Cp.num (c : Cp h0 h z v kd x u tm b) (s) : loadOne h (.pointer (some ⟨h0.next + 1, 3, s⟩)) = some (.int .i64 u) := by rw [loadOne_has c.b5 rfl]; rfl
theorem Cp.keep {S : Nat → Prop} (c : Cp h0 h z v kd x u tm b) (k : Keep S h h') (hs : ∀ d, S d → d < h0.next ∨ h0.next + 3 ≤ d) : Cp h0 h' z v kd x u tm b :=
  ⟨c.b4.keep k fun e => by have := hs _ e; omega, c.b5.keep k fun e => by have := hs _ e; omega, c.b6.keep k fun e => by have := hs _ e; omega, c.t0, c.t4, c.t5, c.t6⟩
theorem Cp.keep0 (c : Cp h0 h z v kd x u tm b) (k : Keep nobody h h') : Cp h0 h' z v kd x u tm b := c.keep k fun _ e => e.elim
end
def Arm (O : Nat → Prop) (h : H) (b : Nat) (l : List En) : Ex → T Value → H → Prop := fun e tm h' => e = .ret ∧ ∃ r, q21.f tm h' = some r ∧ OneQ O h b l (resOf r) h'

section
variable {L n : Nat} {O : Nat → Prop} {h h3 : H} {b now kd : Nat} {l es : List En} {p : Option Addr} {q c : Nat} {x : Nm} {u : Int} {tm : T Value}
/-- the end of a call -/
theorem arm_end {O' : Nat → Prop} {h' : H} {now' : Nat} {l' es' : List En} {p' : Option Addr} {q' c' : Nat} (wh0 : Wh O h b now l) (wh : Wh O' h' b now' l') (fw : Fw O h O' h') (bt : Bth l' es') (row : Dq (fun d => ¬ O' d ∧ (d < h.next ∨ h.next + 3 ≤ d)) h' (.slice p' q' c') (outD es')) (hl : l'.length ≤ l.length + 1) (b6 : Has h' (h.next + 2) (.rw [.int .i64 0, .slice none 0 0])) (nO : ¬ O' (h.next + 2)) {tm : T Value} (t6 : tg tm 6 = .pointer (some ⟨h.next + 2, 0, none⟩)) (t7 : tg tm 7 = .bool true) :
    Arm O h b l .ret tm (h'.put (h.next + 2) (.rw [.int .i64 (now' : Int), .slice p' q' c'])) := by
  have kp := Keep.put h' (h.next + 2) (.rw [.int .i64 (now' : Int), .slice p' q' c'])
  refine ⟨rfl, [rfV (now' : Int) (.slice p' q' c'), .bool true], ?_, O', now', l', es', p', q', c', ⟨wh.keepO kp fun d e => by rw [e]; exact nO, bt, (row.keep kp fun d e hd => by have e : d = h.next + 2 := e; omega).mono fun d _ hd => hd.1⟩, hl, ⟨fw.keep.trans kp fun d hd e => by have e : d = h.next + 2 := e; omega, fw.same⟩, rfl⟩
  simp only [q21, ↓opStep_eq, ↓reduceIte, ↓EW, EV, Nat.reduceAdd, Nat.reduceEqDiff, Int.reduceEq, Int.reduceLT, Int.reduceLE, Int.reduceNe, seqC, retC, skipC, exitC, blockC, condC, t6, t7, loadR (Has.put b6.1)]

theorem del_arm (hL : 300000 < L) (s : Mid O h b now l es (.slice p q c)) (hlen : es.length ≤ 1000) (k03 : Keep nobody h h3) (hn3 : h3.next = h.next + 3) (cp : Cp h h3 (now : Int) (.slice p q c) kd x u tm b) : C ⟨seqC ⟨r21_3⟩ ⟨seqC ⟨r21_4⟩ ⟨seqC ⟨r21_5⟩ retC⟩⟩⟩ (CF L (n + 28)) L tm h3 (Arm O h b l) := by
  have far : ∀ d, h.next ≤ d → ¬ O d := fun d hd => s.wh.far hd
  have row3 := (s.row.mono (P' := fun d => ¬ O d ∧ d < h.next) fun d hd e => ⟨e, hd⟩).keep0 k03
  have ndl := s.wh.1.nd
  refine C.seq fun K hK => ?_
  simp only [↓opStep_eq, ↓reduceIte, ↓EW, EV, Nat.reduceAdd, Nat.reduceEqDiff, Int.reduceEq, Int.reduceLT, Int.reduceLE, Int.reduceNe, seqC, retC, skipC, exitC, blockC, condC, r21_3, cp.t0, cp.t5, cp.name]
  refine del_law L (n + 23) (s.wh.keep0 k03) x _ fun r h4 hq => ?_
  obtain ⟨l4, e4, w4, fw4, rfl, d4⟩ := hq
  have row4 := row3.keep fw4.keep fun d e hd => hd.1 e
  have cp4 := cp.keep fw4.keep fun d e => .inl (by apply Decidable.byContradiction; intro hn; exact far d (by omega) e)
  have hn4 := fw4.keep.next
  refine hK _ _ _ (C.seq fun K hK => ?_)
  simp only [↓opStep_eq, ↓reduceIte, ↓EW, EV, Nat.reduceAdd, Nat.reduceEqDiff, Int.reduceEq, Int.reduceLT, Int.reduceLE, Int.reduceNe, seqC, retC, skipC, exitC, blockC, condC, r21_4, cp.t4, cp.t5, loadR cp4.b4, cp4.name]
  refine rdel_law L (n + 25) hL row4 (s.bt.nd ndl) hlen (now : Int) x _ fun r h5 hq => ?_
  obtain ⟨k5, p', q', c', es', e5, rfl, row5, r5⟩ := hq
  obtain ⟨rfl, bt5⟩ := s.bt.del d4 r5
  have cp5 := cp4.keep0 k5
  have st7 := fun s => storeR (s := s) (Has.new h5 (.rw [.int .i64 0, .slice none 0 0])) (now : Int) p' q' c'
  have k7 := keep_alloc h5 (.rw [.int .i64 0, .slice none 0 0]) (.rw [.int .i64 (now : Int), .slice p' q' c'])
  have b8 := has_alloc h5 (.rw [.int .i64 0, .slice none 0 0]) (.rw [.int .i64 (now : Int), .slice p' q' c'])
  simp only [↓opStep_eq, ↓reduceIte, ↓EW, EV, Nat.reduceAdd, Nat.reduceEqDiff, Int.reduceEq, Int.reduceLT, Int.reduceLE, Int.reduceNe, seqC, retC, skipC, exitC, blockC, condC, tupNth_tuple, st7]
  refine hK _ _ _ (C.seq fun K hK => ?_)
  have cp7 := cp5.keep0 k7
  have row7 := row5.keep0 k7
  have w7 := (w4.keep0 k5).keep0 k7
  have fw7 : Fw O h O _ := (((Fw.of0 (O := O) k03).trans fw4).trans (Fw.of0 k5)).trans (Fw.of0 k7)
  generalize (h5.new (.rw [.int .i64 0, .slice none 0 0])).put h5.next (.rw [.int .i64 (now : Int), .slice p' q' c']) = h7 at *
  have stz := storeR (s := none) cp7.b6 (now : Int) p' q' c'
  simp only [↓opStep_eq, ↓reduceIte, ↓EW, EV, Nat.reduceAdd, Nat.reduceEqDiff, Int.reduceEq, Int.reduceLT, Int.reduceLE, Int.reduceNe, seqC, retC, skipC, exitC, blockC, condC, r21_5, cp.t6, loadR b8, stz, decide_true, eq_self]
  have hl4 : l4.length ≤ l.length + 1 := by
    rcases d4 with ⟨_, rfl, _⟩ | ⟨_, _, rfl, _⟩ | ⟨_, _, rfl, _⟩
    · omega
    · omega
    · have := wo_len l x; omega
  refine hK _ _ _ (C.ret (arm_end s.wh w7 fw7 bt5 (row7.mono fun d _ hd => ?_) hl4 cp7.b6 (far _ (by omega)) (by simp only [↓opStep_eq, ↓reduceIte, ↓EW, EV, Nat.reduceAdd, Nat.reduceEqDiff, Int.reduceEq, Int.reduceLT, Int.reduceLE, Int.reduceNe, seqC, retC, skipC, exitC, blockC, condC, cp.t6]) (by simp only [↓opStep_eq, ↓reduceIte, ↓EW, EV, Nat.reduceAdd, Nat.reduceEqDiff, Int.reduceEq, Int.reduceLT, Int.reduceLE, Int.reduceNe, seqC, retC, skipC, exitC, blockC, condC])))
  rcases hd with hd | hd
  · exact ⟨hd.1, .inl hd.2⟩
  · exact ⟨far d (by omega), .inr (by omega)⟩

theorem until_arm (hL : 300000 < L) (s : Mid O h b now l es (.slice p q c)) (hlen : es.length ≤ 1000) (k03 : Keep nobody h h3) (hn3 : h3.next = h.next + 3) (cp : Cp h h3 (now : Int) (.slice p q c) kd x u tm b) : C ⟨seqC ⟨r21_7⟩ ⟨seqC ⟨r21_8⟩ ⟨seqC ⟨r21_9⟩ retC⟩⟩⟩ (CF L (n + 28)) L tm h3 (Arm O h b l) := by
  have far : ∀ d, h.next ≤ d → ¬ O d := fun d hd => s.wh.far hd
  have row3 := (s.row.mono (P' := fun d => ¬ O d ∧ d < h.next) fun d hd e => ⟨e, hd⟩).keep0 k03
  have ndl := s.wh.1.nd
  refine C.seq fun K hK => ?_
  simp only [↓opStep_eq, ↓reduceIte, ↓EW, EV, Nat.reduceAdd, Nat.reduceEqDiff, Int.reduceEq, Int.reduceLT, Int.reduceLE, Int.reduceNe, seqC, retC, skipC, exitC, blockC, condC, r21_7, cp.t0, cp.t5, cp.name]
  refine until_law L (n + 25) (s.wh.keep0 k03) x _ fun r h4 hq => ?_
  obtain ⟨k4, t4, e4, rfl, d4⟩ := hq
  have row4 := row3.keep0 k4
  have cp4 := cp.keep0 k4
  simp only [↓opStep_eq, ↓reduceIte, ↓EW, EV, Nat.reduceAdd, Nat.reduceEqDiff, Int.reduceEq, Int.reduceLT, Int.reduceLE, Int.reduceNe, seqC, retC, skipC, exitC, blockC, condC, tupNth_tuple]
  refine hK _ _ _ (C.seq fun K hK => ?_)
  simp only [↓opStep_eq, ↓reduceIte, ↓EW, EV, Nat.reduceAdd, Nat.reduceEqDiff, Int.reduceEq, Int.reduceLT, Int.reduceLE, Int.reduceNe, seqC, retC, skipC, exitC, blockC, condC, r21_8, cp.t4, cp.t5, loadR cp4.b4, cp4.name]
  refine runtil_law L (n + 25) hL row4 (s.bt.nd ndl) hlen (now : Int) x _ fun r h5 hq => ?_
  obtain ⟨k5, t5, e5, rfl, r5⟩ := hq
  obtain ⟨rfl, rfl⟩ := s.bt.until_ ndl d4 r5
  have cp5 := cp4.keep0 k5
  have row5 := row4.keep0 k5
  simp only [↓opStep_eq, ↓reduceIte, ↓EW, EV, Nat.reduceAdd, Nat.reduceEqDiff, Int.reduceEq, Int.reduceLT, Int.reduceLE, Int.reduceNe, seqC, retC, skipC, exitC, blockC, condC, tupNth_tuple]
  refine hK _ _ _ (C.seq fun K hK => ?_)
  have stz := storeR (s := none) cp5.b6 (now : Int) p q c
  simp only [↓opStep_eq, ↓reduceIte, ↓EW, EV, Nat.reduceAdd, Nat.reduceEqDiff, Int.reduceEq, Int.reduceLT, Int.reduceLE, Int.reduceNe, seqC, retC, skipC, exitC, blockC, condC, Bool.true_or, Bool.false_or, Bool.or_true, Bool.or_false, Bool.true_and, Bool.false_and, Bool.and_true, Bool.and_false, r21_9, cp.t4, cp.t6, loadR cp5.b4, stz, decide_true, eq_self]
  refine hK _ _ _ (C.ret (arm_end s.wh (((s.wh.keep0 k03).keep0 k4).keep0 k5) (Fw.of0 ((k03.then k4).then k5)) s.bt (row5.mono fun d _ hd => ⟨hd.1, .inl hd.2⟩) (by omega) cp5.b6 (far _ (by omega)) (by simp only [↓opStep_eq, ↓reduceIte, ↓EW, EV, Nat.reduceAdd, Nat.reduceEqDiff, Int.reduceEq, Int.reduceLT, Int.reduceLE, Int.reduceNe, seqC, retC, skipC, exitC, blockC, condC, cp.t6]) (by simp only [↓opStep_eq, ↓reduceIte, ↓EW, EV, Nat.reduceAdd, Nat.reduceEqDiff, Int.reduceEq, Int.reduceLT, Int.reduceLE, Int.reduceNe, seqC, retC, skipC, exitC, blockC, condC])))

theorem add_arm (hL : 300000 < L) (s : Mid O h b now l es (.slice p q c)) (hlen : es.length ≤ 1000) (k03 : Keep nobody h h3) (hn3 : h3.next = h.next + 3) (cp : Cp h h3 (now : Int) (.slice p q c) kd x u tm b) : C ⟨seqC ⟨r21_19⟩ ⟨seqC ⟨r21_20⟩ ⟨seqC ⟨r21_21⟩ retC⟩⟩⟩ (CF L (n + 28)) L tm h3 (Arm O h b l) := by
  have far : ∀ d, h.next ≤ d → ¬ O d := fun d hd => s.wh.far hd
  have row3 := (s.row.mono (P' := fun d => ¬ O d ∧ d < h.next) fun d hd e => ⟨e, hd⟩).keep0 k03
  have ndl := s.wh.1.nd
  refine C.seq fun K hK => ?_
  simp only [↓opStep_eq, ↓reduceIte, ↓EW, EV, Nat.reduceAdd, Nat.reduceEqDiff, Int.reduceEq, Int.reduceLT, Int.reduceLE, Int.reduceNe, seqC, retC, skipC, exitC, blockC, condC, r21_19, cp.t0, cp.t5, cp.name, cp.num]
  refine add_law L (n + 22) (s.wh.keep0 k03) x u _ fun r h4 hq => ?_
  obtain ⟨O4, l4, e4, w4, fw4, rfl, d4⟩ := hq
  have row4 : Dq (fun d => ¬ O4 d ∧ d < h.next) h4 (.slice p q c) (outD es) := ((row3.mono (P' := fun d => (¬ O4 d ∧ d < h.next) ∧ ¬ O d) fun d hd e => ⟨⟨fun g => e.1 (fw4.same d hd g), e.2⟩, e.1⟩).keep fw4.keep fun d e hd => hd.2 e).mono fun d _ hd => hd.1
  have cp4 := cp.keep fw4.keep fun d e => .inl (by apply Decidable.byContradiction; intro hn; exact far d (by omega) e)
  have hn4 := fw4.keep.next
  refine hK _ _ _ (C.seq fun K hK => ?_)
  simp only [↓opStep_eq, ↓reduceIte, ↓EW, EV, Nat.reduceAdd, Nat.reduceEqDiff, Int.reduceEq, Int.reduceLT, Int.reduceLE, Int.reduceNe, seqC, retC, skipC, exitC, blockC, condC, r21_20, cp.t4, cp.t5, loadR cp4.b4, cp4.name, cp4.num]
  refine radd_law L (n + 25) hL row4 (s.bt.nd ndl) hlen now x u _ fun r h5 hq => ?_
  obtain ⟨k5, p', q', c', es', e5, rfl, row5, r5⟩ := hq
  obtain ⟨rfl, bt5, hl4⟩ := s.bt.addR d4 r5
  have cp5 := cp4.keep0 k5
  have st7 := fun s => storeR (s := s) (Has.new h5 (.rw [.int .i64 0, .slice none 0 0])) (now : Int) p' q' c'
  have k7 := keep_alloc h5 (.rw [.int .i64 0, .slice none 0 0]) (.rw [.int .i64 (now : Int), .slice p' q' c'])
  have b8 := has_alloc h5 (.rw [.int .i64 0, .slice none 0 0]) (.rw [.int .i64 (now : Int), .slice p' q' c'])
  simp only [↓opStep_eq, ↓reduceIte, ↓EW, EV, Nat.reduceAdd, Nat.reduceEqDiff, Int.reduceEq, Int.reduceLT, Int.reduceLE, Int.reduceNe, seqC, retC, skipC, exitC, blockC, condC, tupNth_tuple, st7]
  refine hK _ _ _ (C.seq fun K hK => ?_)
  have cp7 := cp5.keep0 k7
  have row7 := row5.keep0 k7
  have w7 := (w4.keep0 k5).keep0 k7
  have fw7 : Fw O h O4 _ := (((Fw.of0 (O := O) k03).trans fw4).trans (Fw.of0 k5)).trans (Fw.of0 k7)
  generalize (h5.new (.rw [.int .i64 0, .slice none 0 0])).put h5.next (.rw [.int .i64 (now : Int), .slice p' q' c']) = h7 at *
  have stz := storeR (s := none) cp7.b6 (now : Int) p' q' c'
  simp only [↓opStep_eq, ↓reduceIte, ↓EW, EV, Nat.reduceAdd, Nat.reduceEqDiff, Int.reduceEq, Int.reduceLT, Int.reduceLE, Int.reduceNe, seqC, retC, skipC, exitC, blockC, condC, r21_21, cp.t6, loadR b8, stz, decide_true, eq_self]
  refine hK _ _ _ (C.ret (arm_end s.wh w7 fw7 bt5 (row7.mono fun d _ hd => ?_) hl4 cp7.b6 (fun g => far (h.next + 2) (by omega) (fw4.same _ (by omega) g)) (by simp only [↓opStep_eq, ↓reduceIte, ↓EW, EV, Nat.reduceAdd, Nat.reduceEqDiff, Int.reduceEq, Int.reduceLT, Int.reduceLE, Int.reduceNe, seqC, retC, skipC, exitC, blockC, condC, cp.t6]) (by simp only [↓opStep_eq, ↓reduceIte, ↓EW, EV, Nat.reduceAdd, Nat.reduceEqDiff, Int.reduceEq, Int.reduceLT, Int.reduceLE, Int.reduceNe, seqC, retC, skipC, exitC, blockC, condC])))
  rcases hd with hd | hd
  · exact ⟨hd.1, .inl hd.2⟩
  · exact ⟨w4.far hd, .inr (by omega)⟩

theorem tick_arm (hL : 300000 < L) (s : Mid O h b now l es (.slice p q c)) (hlen : es.length ≤ 1000) (k03 : Keep nobody h h3) (hn3 : h3.next = h.next + 3) (cp : Cp h h3 (now : Int) (.slice p q c) kd x u tm b) : C ⟨seqC ⟨r21_11⟩ ⟨seqC ⟨r21_12⟩ ⟨seqC ⟨r21_13⟩ ⟨seqC ⟨seqC ⟨r21_14⟩ ⟨blockC 1 (loopB l21_18)⟩⟩ ⟨seqC ⟨r21_18⟩ retC⟩⟩⟩⟩⟩ (CF L (n + 28)) L tm h3 (Arm O h b l) := by
  have far : ∀ d, h.next ≤ d → ¬ O d := fun d hd => s.wh.far hd
  have row3 := (s.row.mono (P' := fun d => ¬ O d ∧ d < h.next) fun d hd e => ⟨e, hd⟩).keep0 k03
  have ndl := s.wh.1.nd
  have hll : l.length = es.length := s.bt.pm.length_eq
  refine C.seq fun K hK => ?_
  simp only [↓opStep_eq, ↓reduceIte, ↓EW, EV, Nat.reduceAdd, Nat.reduceEqDiff, Int.reduceEq, Int.reduceLT, Int.reduceLE, Int.reduceNe, seqC, retC, skipC, exitC, blockC, condC, r21_11, cp.t0, cp.t5, cp.num]
  refine tick_law L (n + 1) hL (s.wh.keep0 k03) (by omega) u _ fun r h4 hq => ?_
  rcases hq with ⟨hbad, rfl, rfl⟩ | ⟨k, rfl, hk1, hk2, v4, O4, ns4, rfl, tq⟩
  · simp only [↓opStep_eq, ↓reduceIte, ↓EW, EV, Nat.reduceAdd, Nat.reduceEqDiff, Int.reduceEq, Int.reduceLT, Int.reduceLE, Int.reduceNe, seqC, retC, skipC, exitC, blockC, condC, tupNth_tuple]
    refine hK _ _ _ (C.seq fun K hK => ?_)
    simp only [↓opStep_eq, ↓reduceIte, ↓EW, EV, Nat.reduceAdd, Nat.reduceEqDiff, Int.reduceEq, Int.reduceLT, Int.reduceLE, Int.reduceNe, seqC, retC, skipC, exitC, blockC, condC, r21_12, cp.t4, cp.t5, loadR cp.b4, cp.num]
    refine rtick_law L (n + 27) hL row3 hlen now u _ fun r h5 hq => ?_
    obtain ⟨k5, ⟨_, rfl⟩ | ⟨k, _, _, _, _, hk, hk1, hk2, _⟩⟩ := hq
    · have cp5 := cp.keep0 k5
      have st7 := fun s => storeR (s := s) (Has.new h5 (.rw [.int .i64 0, .slice none 0 0])) (now : Int) p q c
      have k7 := keep_alloc h5 (.rw [.int .i64 0, .slice none 0 0]) (.rw [.int .i64 (now : Int), .slice p q c])
      have b8 := has_alloc h5 (.rw [.int .i64 0, .slice none 0 0]) (.rw [.int .i64 (now : Int), .slice p q c])
      simp only [↓opStep_eq, ↓reduceIte, ↓EW, EV, Nat.reduceAdd, Nat.reduceEqDiff, Int.reduceEq, Int.reduceLT, Int.reduceLE, Int.reduceNe, seqC, retC, skipC, exitC, blockC, condC, tupNth_tuple, st7]
      refine hK _ _ _ (C.seq fun K hK => ?_)
      have cp7 := cp5.keep0 k7
      have row7 := (row3.keep0 k5).keep0 k7
      have w7 := ((s.wh.keep0 k03).keep0 k5).keep0 k7
      have k07 := (k03.then k5).then k7
      generalize (h5.new (.rw [.int .i64 0, .slice none 0 0])).put h5.next (.rw [.int .i64 (now : Int), .slice p q c]) = h7 at *
      have nl : Rl h7 (.slice none 0 0) [] := ⟨rfl, fun h' k i x hx => by simp at hx⟩
      simp only [↓opStep_eq, ↓reduceIte, ↓EW, EV, Nat.reduceAdd, Nat.reduceEqDiff, Int.reduceEq, Int.reduceLT, Int.reduceLE, Int.reduceNe, seqC, retC, skipC, exitC, blockC, condC, Bool.true_or, Bool.false_or, Bool.or_true, Bool.or_false, Bool.true_and, Bool.false_and, Bool.and_true, Bool.and_false, r21_13]
      refine same_rl L (n + 27) nl nl hL (by simp) _ fun r h8 hq => ?_
      obtain ⟨rfl, k8⟩ := hq
      simp only [↓opStep_eq, ↓reduceIte, ↓EW, EV, Nat.reduceAdd, Nat.reduceEqDiff, Int.reduceEq, Int.reduceLT, Int.reduceLE, Int.reduceNe, seqC, retC, skipC, exitC, blockC, condC, Bool.true_or, Bool.false_or, Bool.or_true, Bool.or_false, Bool.true_and, Bool.false_and, Bool.and_true, Bool.and_false]
      have cp8 := cp7.keep0 k8
      have sn0 : Sn (fun d => False) h8 (.slice none 0 0) [] := .inl ⟨rfl, rfl⟩
      refine hK _ _ _ (C.seq ?_)
      refine wipe_loop L (n + 28) hL sn0 (by simp) ?_ (.pointer (some ⟨h.next + 2, 0, none⟩)) ?_ (.pointer (some ⟨h5.next, 0, none⟩)) ?_ (.bool true) ?_ _ fun tm9 h9 k9 u6 u17 u20 => ?_
      · simp only [↓opStep_eq, ↓reduceIte, ↓EW, EV, Nat.reduceAdd, Nat.reduceEqDiff, Int.reduceEq, Int.reduceLT, Int.reduceLE, Int.reduceNe, seqC, retC, skipC, exitC, blockC, condC]
      · simp only [↓opStep_eq, ↓reduceIte, ↓EW, EV, Nat.reduceAdd, Nat.reduceEqDiff, Int.reduceEq, Int.reduceLT, Int.reduceLE, Int.reduceNe, seqC, retC, skipC, exitC, blockC, condC, cp.t6]
      · simp only [↓opStep_eq, ↓reduceIte, ↓EW, EV, Nat.reduceAdd, Nat.reduceEqDiff, Int.reduceEq, Int.reduceLT, Int.reduceLE, Int.reduceNe, seqC, retC, skipC, exitC, blockC, condC]
      · simp only [↓opStep_eq, ↓reduceIte, ↓EW, EV, Nat.reduceAdd, Nat.reduceEqDiff, Int.reduceEq, Int.reduceLT, Int.reduceLE, Int.reduceNe, seqC, retC, skipC, exitC, blockC, condC]
      have k9 : Keep nobody h8 h9 := k9.mono fun _ _ e => e.elim
      have cp9 := cp8.keep0 k9
      have b9 := (b8.keep0 k8).keep0 k9
      have stz := storeR (s := none) cp9.b6 (now : Int) p q c
      refine C.seq fun K hK => ?_
      simp only [↓opStep_eq, ↓reduceIte, ↓EW, EV, Nat.reduceAdd, Nat.reduceEqDiff, Int.reduceEq, Int.reduceLT, Int.reduceLE, Int.reduceNe, seqC, retC, skipC, exitC, blockC, condC, r21_18, u6, u17, u20, loadR b9, stz]
      exact hK _ _ _ (C.ret (arm_end s.wh ((w7.keep0 k8).keep0 k9) (Fw.of0 ((k07.then k8).then k9)) s.bt (((row7.keep0 k8).keep0 k9).mono fun d _ hd => ⟨hd.1, .inl hd.2⟩) (by omega) cp9.b6 (far _ (by omega)) (by simp only [↓opStep_eq, ↓reduceIte, ↓EW, EV, Nat.reduceAdd, Nat.reduceEqDiff, Int.reduceEq, Int.reduceLT, Int.reduceLE, Int.reduceNe, seqC, retC, skipC, exitC, blockC, condC, u6]) (by simp only [↓opStep_eq, ↓reduceIte, ↓EW, EV, Nat.reduceAdd, Nat.reduceEqDiff, Int.reduceEq, Int.reduceLT, Int.reduceLE, Int.reduceNe, seqC, retC, skipC, exitC, blockC, condC])))
    · exact absurd ⟨by omega, by unfold MAXT at hk2; omega⟩ hbad
  · simp only [↓opStep_eq, ↓reduceIte, ↓EW, EV, Nat.reduceAdd, Nat.reduceEqDiff, Int.reduceEq, Int.reduceLT, Int.reduceLE, Int.reduceNe, seqC, retC, skipC, exitC, blockC, condC, tupNth_tuple]
    have cp4 := cp.keep tq.fw.keep fun d e => .inl (by apply Decidable.byContradiction; intro hn; exact far d (by omega) e)
    have row4 := row3.keep tq.fw.keep fun d e hd => hd.1 e
    have hn4 := tq.fw.keep.next
    refine hK _ _ _ (C.seq fun K hK => ?_)
    simp only [↓opStep_eq, ↓reduceIte, ↓EW, EV, Nat.reduceAdd, Nat.reduceEqDiff, Int.reduceEq, Int.reduceLT, Int.reduceLE, Int.reduceNe, seqC, retC, skipC, exitC, blockC, condC, r21_12, cp.t4, cp.t5, loadR cp4.b4, cp4.num]
    refine rtick_law L (n + 27) hL row4 hlen now (k : Int) _ fun r h5 hq => ?_
    obtain ⟨k5, ⟨hbad, _⟩ | ⟨k', p', q', c', dv, hk, _, _, rfl, rq⟩⟩ := hq
    · exact absurd ⟨by omega, by unfold MAXT at hk2; omega⟩ hbad
    obtain rfl : k' = k := by omega
    have cp5 := cp4.keep0 k5
    have st7 := fun s => storeR (s := s) (Has.new h5 (.rw [.int .i64 0, .slice none 0 0])) (k' : Int) p' q' c'
    have k7 := keep_alloc h5 (.rw [.int .i64 0, .slice none 0 0]) (.rw [.int .i64 (k' : Int), .slice p' q' c'])
    have b8 := has_alloc h5 (.rw [.int .i64 0, .slice none 0 0]) (.rw [.int .i64 (k' : Int), .slice p' q' c'])
    have hn5 := k5.next
    have by1 : By l k' ns4 := .first (now := now) ndl tq.so tq.mem
    have ens : (es.filter fun e => decide (e.2 ≤ k')).map (·.1) = ns4 := (s.bt.due ndl k').eq by1
    have due5 := rq.due
    rw [ens] at due5
    have hns : ns4.length ≤ 100000 := by
      rw [← ens, List.length_map]
      have := List.length_filter_le (fun e : En => decide (e.2 ≤ k')) es
      omega
    simp only [↓opStep_eq, ↓reduceIte, ↓EW, EV, Nat.reduceAdd, Nat.reduceEqDiff, Int.reduceEq, Int.reduceLT, Int.reduceLE, Int.reduceNe, seqC, retC, skipC, exitC, blockC, condC, tupNth_tuple, st7]
    refine hK _ _ _ (C.seq fun K hK => ?_)
    have cp7 := cp5.keep0 k7
    have row7 := rq.row.keep0 k7
    have due7 := due5.keep0 k7
    have sn7 := ((tq.sn.mono (P' := fun d => (h3.next ≤ d ∧ d < h4.next) ∧ ¬ O4 d) fun d hd e => ⟨⟨e.1, hd⟩, e.2⟩).keep0 k5).keep0 k7
    have w7 := (tq.wh.keep0 k5).keep0 k7
    have fw7 : Fw O h O4 _ := (((Fw.of0 (O := O) k03).trans tq.fw).trans (Fw.of0 k5)).trans (Fw.of0 k7)
    generalize (h5.new (.rw [.int .i64 0, .slice none 0 0])).put h5.next (.rw [.int .i64 (k' : Int), .slice p' q' c']) = h7 at *
    simp only [↓opStep_eq, ↓reduceIte, ↓EW, EV, Nat.reduceAdd, Nat.reduceEqDiff, Int.reduceEq, Int.reduceLT, Int.reduceLE, Int.reduceNe, seqC, retC, skipC, exitC, blockC, condC, Bool.true_or, Bool.false_or, Bool.or_true, Bool.or_false, Bool.true_and, Bool.false_and, Bool.and_true, Bool.and_false, r21_13]
    refine same_rl L (n + 27) sn7.rl due7.sn'.rl hL hns _ fun r h8 hq => ?_
    obtain ⟨rfl, k8⟩ := hq
    simp only [↓opStep_eq, ↓reduceIte, ↓EW, EV, Nat.reduceAdd, Nat.reduceEqDiff, Int.reduceEq, Int.reduceLT, Int.reduceLE, Int.reduceNe, seqC, retC, skipC, exitC, blockC, condC, Bool.true_or, Bool.false_or, Bool.or_true, Bool.or_false, Bool.true_and, Bool.false_and, Bool.and_true, Bool.and_false]
    have cp8 := cp7.keep0 k8
    refine hK _ _ _ (C.seq ?_)
    refine wipe_loop L (n + 28) hL (sn7.keep0 k8) hns ?_ (.pointer (some ⟨h.next + 2, 0, none⟩)) ?_ (.pointer (some ⟨h5.next, 0, none⟩)) ?_ (.bool true) ?_ _ fun tm9 h9 k9 u6 u17 u20 => ?_
    · simp only [↓opStep_eq, ↓reduceIte, ↓EW, EV, Nat.reduceAdd, Nat.reduceEqDiff, Int.reduceEq, Int.reduceLT, Int.reduceLE, Int.reduceNe, seqC, retC, skipC, exitC, blockC, condC]
    · simp only [↓opStep_eq, ↓reduceIte, ↓EW, EV, Nat.reduceAdd, Nat.reduceEqDiff, Int.reduceEq, Int.reduceLT, Int.reduceLE, Int.reduceNe, seqC, retC, skipC, exitC, blockC, condC, cp.t6]
    · simp only [↓opStep_eq, ↓reduceIte, ↓EW, EV, Nat.reduceAdd, Nat.reduceEqDiff, Int.reduceEq, Int.reduceLT, Int.reduceLE, Int.reduceNe, seqC, retC, skipC, exitC, blockC, condC]
    · simp only [↓opStep_eq, ↓reduceIte, ↓EW, EV, Nat.reduceAdd, Nat.reduceEqDiff, Int.reduceEq, Int.reduceLT, Int.reduceLE, Int.reduceNe, seqC, retC, skipC, exitC, blockC, condC]
    have cp9 := cp8.keep k9 fun d e => .inr (by have := e.1.1; omega)
    have b9 := (b8.keep0 k8).keep k9 fun e => by have := e.1.2; omega
    have row9 := (row7.keep0 k8).keep k9 fun d e hd => by have := e.1.2; omega
    have w9 := (w7.keep0 k8).keepO k9 fun d e => e.2
    have fw8 : Fw O h O4 h8 := fw7.trans (Fw.of0 k8)
    have fw9 : Fw O h O4 h9 := ⟨fw8.keep.trans k9 fun d hd e => by have := e.1.1; omega, fw8.same⟩
    have stz := storeR (s := none) cp9.b6 (k' : Int) p' q' c'
    have hfl : (l.filter fun e => decide (k' < e.2)).length ≤ l.length := List.length_filter_le _ _
    refine C.seq fun K hK => ?_
    simp only [↓opStep_eq, ↓reduceIte, ↓EW, EV, Nat.reduceAdd, Nat.reduceEqDiff, Int.reduceEq, Int.reduceLT, Int.reduceLE, Int.reduceNe, seqC, retC, skipC, exitC, blockC, condC, r21_18, u6, u17, u20, loadR b9, stz]
    refine hK _ _ _ (C.ret (arm_end s.wh w9 fw9 (s.bt.tick k') (row9.mono fun d _ hd => ⟨tq.wh.far (by omega), .inr (by omega)⟩) (Nat.le_trans hfl (by omega)) cp9.b6 (fun g => far (h.next + 2) (by omega) (tq.fw.same _ (by omega) g)) (by simp only [↓opStep_eq, ↓reduceIte, ↓EW, EV, Nat.reduceAdd, Nat.reduceEqDiff, Int.reduceEq, Int.reduceLT, Int.reduceLE, Int.reduceNe, seqC, retC, skipC, exitC, blockC, condC, u6]) (by simp only [↓opStep_eq, ↓reduceIte, ↓EW, EV, Nat.reduceAdd, Nat.reduceEqDiff, Int.reduceEq, Int.reduceLT, Int.reduceLE, Int.reduceNe, seqC, retC, skipC, exitC, blockC, condC])))
end

theorem one_law (L n : Nat) (hL : 300000 < L) {O : Nat → Prop} {h : H} {b now : Nat} {l es : List En} {p : Option Addr} {q c : Nat} (s : Mid O h b now l es (.slice p q c)) (hlen : es.length ≤ 1000) (kd : Nat) (x : Nm) (u : Int) :
    Sp (CF L (n + 29)) 21 [.pointer (some ⟨b, 0, none⟩), rfV (now : Int) (.slice p q c), doV kd x u] h (OneQ O h b l) := by
  refine Sp.body f21 (by simp) ?_
  unfold c21
  have fin : ∀ {e : Ex} {tm : T Value} {h' : H}, Arm O h b l e tm h' → (e = .norm ∨ e = .ret) ∧ ∃ r, q21.f tm h' = some r ∧ OneQ O h b l (resOf r) h' := fun a => ⟨.inr a.1, a.2⟩
  refine C.seq fun K hK => ?_
  simp only [↓opStep_eq, ↓reduceIte, ↓EW, EV, Nat.reduceAdd, Nat.reduceEqDiff, Int.reduceEq, Int.reduceLT, Int.reduceLE, Int.reduceNe, seqC, retC, skipC, exitC, blockC, condC, r21_0, rfCells, cells4, ptrTo]
  have k1 := Keep.new h (.rw [.int .i64 (now : Int), .slice p q c])
  have b1 := Has.new h (.rw [.int .i64 (now : Int), .slice p q c])
  have n1 : (h.new (.rw [.int .i64 (now : Int), .slice p q c])).next = h.next + 1 := rfl
  generalize h.new (.rw [.int .i64 (now : Int), .slice p q c]) = h1 at *
  have k2 := Keep.new h1 (.rw [.int .u8 (kd : Int), .int .i64 x.1, .string x.2, .int .i64 u])
  have b2 := Has.new h1 (.rw [.int .u8 (kd : Int), .int .i64 x.1, .string x.2, .int .i64 u])
  have n2 : (h1.new (.rw [.int .u8 (kd : Int), .int .i64 x.1, .string x.2, .int .i64 u])).next = h1.next + 1 := rfl
  generalize h1.new (.rw [.int .u8 (kd : Int), .int .i64 x.1, .string x.2, .int .i64 u]) = h2 at *
  have k3 := Keep.new h2 (.rw [.int .i64 0, .slice none 0 0])
  have b3 := Has.new h2 (.rw [.int .i64 0, .slice none 0 0])
  have n3 : (h2.new (.rw [.int .i64 0, .slice none 0 0])).next = h2.next + 1 := rfl
  rw [n2] at b3
  rw [n1] at b3 b2
  have k03 := (k1.then k2).then k3
  have en2 : h2.next = h.next + 2 := by rw [n2, n1]
  rw [en2, n1]
  have hn3 : (h2.new (.rw [.int .i64 0, .slice none 0 0])).next = h.next + 3 := by rw [n3, en2]
  generalize h2.new (.rw [.int .i64 0, .slice none 0 0]) = h3 at *
  refine hK _ _ _ (C.seq (C.seq fun K hK => ?_))
  have cp0 : ∀ tm', tg tm' 0 = .pointer (some ⟨b, 0, none⟩) → tg tm' 4 = .pointer (some ⟨h.next, 0, none⟩) → tg tm' 5 = .pointer (some ⟨h.next + 1, 0, none⟩) → tg tm' 6 = .pointer (some ⟨h.next + 2, 0, none⟩) → Cp h h3 (now : Int) (.slice p q c) kd x u tm' b := fun tm' u0 u4 u5 u6 =>
    ⟨(b1.keep0 k2).keep0 k3, b2.keep0 k3, b3, u0, u4, u5, u6⟩
  have lk : ∀ s, loadOne h3 (.pointer (some ⟨h.next + 1, 0, s⟩)) = some (.int .u8 (kd : Int)) := fun s => by rw [loadOne_has (b2.keep0 k3) rfl]; rfl
  simp only [↓opStep_eq, ↓reduceIte, ↓EW, EV, Nat.reduceAdd, Nat.reduceEqDiff, Int.reduceEq, Int.reduceLT, Int.reduceLE, Int.reduceNe, seqC, retC, skipC, exitC, blockC, condC, r21_1, lk, rem5]
  refine hK _ _ _ (C.block (C.seq fun K hK => ?_))
  simp only [↓opStep_eq, ↓reduceIte, ↓EW, EV, Nat.reduceAdd, Nat.reduceEqDiff, Int.reduceEq, Int.reduceLT, Int.reduceLE, Int.reduceNe, seqC, retC, skipC, exitC, blockC, condC, r21_2]
  refine hK _ _ _ (C.cond (decide (((kd % 5 : Nat) : Int) = 2)) (by simp only [↓opStep_eq, ↓reduceIte, ↓EW, EV, Nat.reduceAdd, Nat.reduceEqDiff, Int.reduceEq, Int.reduceLT, Int.reduceLE, Int.reduceNe, seqC, retC, skipC, exitC, blockC, condC]) (fun g => ?_) fun g => C.seq fun K hK => ?_)
  · refine (del_arm (n := n) hL s hlen k03 hn3 (cp0 _ (by simp only [↓opStep_eq, ↓reduceIte, ↓EW, EV, Nat.reduceAdd, Nat.reduceEqDiff, Int.reduceEq, Int.reduceLT, Int.reduceLE, Int.reduceNe, seqC, retC, skipC, exitC, blockC, condC]) (by simp only [↓opStep_eq, ↓reduceIte, ↓EW, EV, Nat.reduceAdd, Nat.reduceEqDiff, Int.reduceEq, Int.reduceLT, Int.reduceLE, Int.reduceNe, seqC, retC, skipC, exitC, blockC, condC]) (by simp only [↓opStep_eq, ↓reduceIte, ↓EW, EV, Nat.reduceAdd, Nat.reduceEqDiff, Int.reduceEq, Int.reduceLT, Int.reduceLE, Int.reduceNe, seqC, retC, skipC, exitC, blockC, condC]) (by simp only [↓opStep_eq, ↓reduceIte, ↓EW, EV, Nat.reduceAdd, Nat.reduceEqDiff, Int.reduceEq, Int.reduceLT, Int.reduceLE, Int.reduceNe, seqC, retC, skipC, exitC, blockC, condC]))).mono fun e tm h' a => ?_
    obtain ⟨rfl, a2⟩ := a
    exact ⟨.inr rfl, a2⟩
  · simp only [↓opStep_eq, ↓reduceIte, ↓EW, EV, Nat.reduceAdd, Nat.reduceEqDiff, Int.reduceEq, Int.reduceLT, Int.reduceLE, Int.reduceNe, seqC, retC, skipC, exitC, blockC, condC, r21_6]
    refine hK _ _ _ (C.cond (decide (((kd % 5 : Nat) : Int) = 3)) (by simp only [↓opStep_eq, ↓reduceIte, ↓EW, EV, Nat.reduceAdd, Nat.reduceEqDiff, Int.reduceEq, Int.reduceLT, Int.reduceLE, Int.reduceNe, seqC, retC, skipC, exitC, blockC, condC]) (fun g => ?_) fun g => C.seq fun K hK => ?_)
    · refine (until_arm (n := n) hL s hlen k03 hn3 (cp0 _ (by simp only [↓opStep_eq, ↓reduceIte, ↓EW, EV, Nat.reduceAdd, Nat.reduceEqDiff, Int.reduceEq, Int.reduceLT, Int.reduceLE, Int.reduceNe, seqC, retC, skipC, exitC, blockC, condC]) (by simp only [↓opStep_eq, ↓reduceIte, ↓EW, EV, Nat.reduceAdd, Nat.reduceEqDiff, Int.reduceEq, Int.reduceLT, Int.reduceLE, Int.reduceNe, seqC, retC, skipC, exitC, blockC, condC]) (by simp only [↓opStep_eq, ↓reduceIte, ↓EW, EV, Nat.reduceAdd, Nat.reduceEqDiff, Int.reduceEq, Int.reduceLT, Int.reduceLE, Int.reduceNe, seqC, retC, skipC, exitC, blockC, condC]) (by simp only [↓opStep_eq, ↓reduceIte, ↓EW, EV, Nat.reduceAdd, Nat.reduceEqDiff, Int.reduceEq, Int.reduceLT, Int.reduceLE, Int.reduceNe, seqC, retC, skipC, exitC, blockC, condC]))).mono fun e tm h' a => ?_
      obtain ⟨rfl, a2⟩ := a
      exact ⟨.inr rfl, a2⟩
    · simp only [↓opStep_eq, ↓reduceIte, ↓EW, EV, Nat.reduceAdd, Nat.reduceEqDiff, Int.reduceEq, Int.reduceLT, Int.reduceLE, Int.reduceNe, seqC, retC, skipC, exitC, blockC, condC, r21_10]
      refine hK _ _ _ (C.cond (decide (((kd % 5 : Nat) : Int) = 4)) (by simp only [↓opStep_eq, ↓reduceIte, ↓EW, EV, Nat.reduceAdd, Nat.reduceEqDiff, Int.reduceEq, Int.reduceLT, Int.reduceLE, Int.reduceNe, seqC, retC, skipC, exitC, blockC, condC]) (fun g => ?_) fun g => C.skip ?_)
      · refine (tick_arm (n := n) hL s hlen k03 hn3 (cp0 _ (by simp only [↓opStep_eq, ↓reduceIte, ↓EW, EV, Nat.reduceAdd, Nat.reduceEqDiff, Int.reduceEq, Int.reduceLT, Int.reduceLE, Int.reduceNe, seqC, retC, skipC, exitC, blockC, condC]) (by simp only [↓opStep_eq, ↓reduceIte, ↓EW, EV, Nat.reduceAdd, Nat.reduceEqDiff, Int.reduceEq, Int.reduceLT, Int.reduceLE, Int.reduceNe, seqC, retC, skipC, exitC, blockC, condC]) (by simp only [↓opStep_eq, ↓reduceIte, ↓EW, EV, Nat.reduceAdd, Nat.reduceEqDiff, Int.reduceEq, Int.reduceLT, Int.reduceLE, Int.reduceNe, seqC, retC, skipC, exitC, blockC, condC]) (by simp only [↓opStep_eq, ↓reduceIte, ↓EW, EV, Nat.reduceAdd, Nat.reduceEqDiff, Int.reduceEq, Int.reduceLT, Int.reduceLE, Int.reduceNe, seqC, retC, skipC, exitC, blockC, condC]))).mono fun e tm h' a => ?_
        obtain ⟨rfl, a2⟩ := a
        exact ⟨.inr rfl, a2⟩
      · refine (add_arm (n := n) hL s hlen k03 hn3 (cp0 _ (by simp only [↓opStep_eq, ↓reduceIte, ↓EW, EV, Nat.reduceAdd, Nat.reduceEqDiff, Int.reduceEq, Int.reduceLT, Int.reduceLE, Int.reduceNe, seqC, retC, skipC, exitC, blockC, condC]) (by simp only [↓opStep_eq, ↓reduceIte, ↓EW, EV, Nat.reduceAdd, Nat.reduceEqDiff, Int.reduceEq, Int.reduceLT, Int.reduceLE, Int.reduceNe, seqC, retC, skipC, exitC, blockC, condC]) (by simp only [↓opStep_eq, ↓reduceIte, ↓EW, EV, Nat.reduceAdd, Nat.reduceEqDiff, Int.reduceEq, Int.reduceLT, Int.reduceLE, Int.reduceNe, seqC, retC, skipC, exitC, blockC, condC]) (by simp only [↓opStep_eq, ↓reduceIte, ↓EW, EV, Nat.reduceAdd, Nat.reduceEqDiff, Int.reduceEq, Int.reduceLT, Int.reduceLE, Int.reduceNe, seqC, retC, skipC, exitC, blockC, condC]))).mono fun e tm h' a => fin a
end Go.Proofs.Ytpoedopdcpejmaa

namespace Go.Proofs.Ytpoedopdcpejmaa
open Go.Ev

/-! ### calls in a row -/
structure Do4 where
  kd : Nat
  x : Nm
  u : Int
def Do4.cells (d : Do4) : List Value := [.int .u8 (d.kd : Int), .int .i64 d.x.1, .string d.x.2, .int .i64 d.u]
def cellsF : List Do4 → List Value
  | [] => []
  | d :: r => d.cells ++ cellsF r
theorem cellsF_len : ∀ ds, (cellsF ds).length = 4 * ds.length
  | [] => rfl
  | d :: r => by simp [cellsF, cellsF_len r, Do4.cells]; omega
theorem cellsF_at : ∀ (ds : List Do4) (i : Nat) (d : Do4), ds[i]? = some d → ((cellsF ds).drop (i * 4)).take 4 = d.cells
  | [], i, d, h => by simp at h
  | c :: r, 0, d, h => by simp at h; subst h; simp [cellsF, Do4.cells]
  | c :: r, i + 1, d, h => by
    have := cellsF_at r i d (by simpa using h)
    rw [show (i + 1) * 4 = i * 4 + 1 + 1 + 1 + 1 by omega]
    simpa [cellsF, Do4.cells] using this
def Rd (h : H) (v : Value) (ds : List Do4) : Prop := (v = .slice none 0 0 ∧ ds = []) ∨ ∃ B cap, v = .slice (some ⟨B, 0, none⟩) ds.length cap ∧ Has h B (.ro (cellsF ds))
theorem Rd.keep0 {h h' : H} {v : Value} {ds : List Do4} (a : Rd h v ds) (k : Keep nobody h h') : Rd h' v ds := by
  rcases a with a | ⟨B, cap, e, hb⟩
  · exact .inl a
  · exact .inr ⟨B, cap, e, hb.keep0 k⟩
theorem Rd.len {h : H} {v : Value} {ds : List Do4} (a : Rd h v ds) : lenSl v = some (.int .i64 (ds.length : Int)) := by
  rcases a with ⟨rfl, rfl⟩ | ⟨B, cap, rfl, _⟩ <;> rfl
theorem Rd.at {h : H} {v : Value} {ds : List Do4} (a : Rd h v ds) {i : Nat} {d : Do4} (hi : ds[i]? = some d) :
    ∃ B, indexSl 4 v (.int .i64 (i : Int)) = some (.pointer (some ⟨B, i * 4, none⟩)) ∧ ∀ s, loadAgg 4 h (.pointer (some ⟨B, i * 4, s⟩)) = some (doV d.kd d.x d.u) := by
  have hlt := (List.getElem?_eq_some_iff.1 hi).1
  rcases a with ⟨rfl, rfl⟩ | ⟨B, cap, rfl, hb⟩
  · simp at hlt
  · refine ⟨B, ?_, fun s => ?_⟩
    · simp only [indexSl, asNat_nat, addOff]
      rw [Nat.ble_eq_true_of_le hlt]
      simp only [Nat.zero_add]
    · rw [loadAgg_has hb rfl (by rw [cellsF_len]; omega), cellsF_at ds i d hi]; rfl
theorem Dq.ne {P : Nat → Prop} {h : H} {v : Value} {ds : List Dd} (a : Dq P h v ds) {R : Nat} {w : List Value} (hR : Has h R (.rw w)) : Dq (fun d => P d ∧ d ≠ R) h v ds := by
  rcases a with a | ⟨b, cap, e, c, hb, p⟩
  · exact .inl a
  · refine .inr ⟨b, cap, e, c, hb, p, fun g => ?_⟩
    subst g
    have := hb.2
    rw [hR.2] at this; cases this
theorem zeros4 (h : H) (kd : Nat) (x : Nm) (u : Int) : storeV 4 (h.new (.rw [(.int .u8 (0)), (.int .i64 (0)), (.string (strB [])), (.int .i64 (0))])) (.pointer (some ⟨h.next, 0, none⟩)) (doV kd x u) = some ((h.new (.rw [(.int .u8 (0)), (.int .i64 (0)), (.string (strB [])), (.int .i64 (0))])).put h.next (.rw [.int .u8 (kd : Int), .int .i64 x.1, .string x.2, .int .i64 u])) := by
  have := store_new h 4 none [(.int .u8 (0)), (.int .i64 (0)), (.string (strB [])), (.int .i64 (0))] (doV kd x u) rfl (by simp [doV]) (by simp [doV, ones])
  rw [cells4] at this
  exact this
theorem ptr_nil2 : binV Try.prog .eql 25 true (.pointer none) (.pointer none) = some (.bool true) := by kernel_rfl
theorem bool_neq : ∀ (a : Bool), binV Try.prog .neq 4 false (.bool a) (.bool a) = some (.bool false)
  | true => by kernel_rfl
  | false => by kernel_rfl

/-- so far both go alike -/
structure Dm (h0 h : H) (b R : Nat) (O : Nat → Prop) (now : Nat) (l es : List En) (v : Value) : Prop where
  mid : Mid O h b now l es v
  k : Keep nobody h0 h
  lo : ∀ c, O c → h0.next ≤ c
  nR : ¬ O R
  hR : Has h R (.rw [.int .i64 (now : Int), v])
  lR : h0.next ≤ R
theorem Mid.keep0 {O : Nat → Prop} {h h' : H} {b now : Nat} {l es : List En} {v : Value} (m : Mid O h b now l es v) (k : Keep nobody h h') : Mid O h' b now l es v := ⟨m.wh.keep0 k, m.bt, m.row.keep0 k⟩
theorem Dm.keep0 {h0 h h' : H} {b R : Nat} {O : Nat → Prop} {now : Nat} {l es : List En} {v : Value} (d : Dm h0 h b R O now l es v) (k : Keep nobody h h') : Dm h0 h' b R O now l es v := ⟨d.mid.keep0 k, d.k.then k, d.lo, d.nR, d.hR.keep0 k, d.lR⟩

theorem does_law (L n : Nat) (hL : 300000 < L) {h : H} {v : Value} {ds : List Do4} (a : Rd h v ds) (z : Int) :
    Sp (CF L (n + 30)) 7 [.int .i64 z, v] h fun r h' => r = .bool true := by
  refine Sp.body f7 (by simp) ?_
  unfold c7
  refine C.seq fun K hK => ?_
  simp only [↓opStep_eq, ↓reduceIte, ↓EW, EV, Nat.reduceAdd, Nat.reduceEqDiff, Int.reduceEq, Int.reduceLT, Int.reduceLE, Int.reduceNe, seqC, retC, skipC, exitC, blockC, condC, r7_0]
  refine hK .norm _ _ (C.seq (C.seq fun K hK => ?_))
  have hl := a.len
  simp only [↓opStep_eq, ↓reduceIte, ↓EW, EV, Nat.reduceAdd, Nat.reduceEqDiff, Int.reduceEq, Int.reduceLT, Int.reduceLE, Int.reduceNe, seqC, retC, skipC, exitC, blockC, condC, r7_1, hl]
  refine hK _ _ _ (C.cond (decide ((300 : Int) < (ds.length : Int))) (by simp only [↓opStep_eq, ↓reduceIte, ↓EW, EV, Nat.reduceAdd, Nat.reduceEqDiff, Int.reduceEq, Int.reduceLT, Int.reduceLE, Int.reduceNe, seqC, retC, skipC, exitC, blockC, condC]) (fun g => C.seq fun K hK => ?_) fun g => C.skip (C.seq fun K hK => ?_))
  · simp only [↓opStep_eq, ↓reduceIte, ↓EW, EV, Nat.reduceAdd, Nat.reduceEqDiff, Int.reduceEq, Int.reduceLT, Int.reduceLE, Int.reduceNe, seqC, retC, skipC, exitC, blockC, condC, r7_2]
    exact hK .norm _ _ (C.ret ⟨.inr rfl, _, rfl, by simp only [↓opStep_eq, ↓reduceIte, ↓EW, EV, Nat.reduceAdd, Nat.reduceEqDiff, Int.reduceEq, Int.reduceLT, Int.reduceLE, Int.reduceNe, seqC, retC, skipC, exitC, blockC, condC, resOf]⟩)
  have hds : ds.length ≤ 300 := by have := of_decide_eq_false g; omega
  simp only [↓opStep_eq, ↓reduceIte, ↓EW, EV, Nat.reduceAdd, Nat.reduceEqDiff, Int.reduceEq, Int.reduceLT, Int.reduceLE, Int.reduceNe, seqC, retC, skipC, exitC, blockC, condC, r7_3]
  refine new_law L (n + 28) z h _ fun r h1 hq => ?_
  obtain ⟨k1, hnew⟩ := hq
  -- behind the row
  have last : ∀ (tm : T Value) (hz : H), C ⟨seqC ⟨r7_19⟩ retC⟩ (CF L (n + 29)) L tm hz fun e tm h' => (e = .norm ∨ e = .ret) ∧ ∃ l_1, q7.f tm h' = some l_1 ∧ resOf l_1 = .bool true := fun tm hz => by
    refine C.seq fun K hK => ?_
    simp only [↓opStep_eq, ↓reduceIte, ↓EW, EV, Nat.reduceAdd, Nat.reduceEqDiff, Int.reduceEq, Int.reduceLT, Int.reduceLE, Int.reduceNe, seqC, retC, skipC, exitC, blockC, condC, r7_19]
    exact hK .norm _ _ (C.ret ⟨.inr rfl, _, rfl, by simp only [↓opStep_eq, ↓reduceIte, ↓EW, EV, Nat.reduceAdd, Nat.reduceEqDiff, Int.reduceEq, Int.reduceLT, Int.reduceLE, Int.reduceNe, seqC, retC, skipC, exitC, blockC, condC, resOf]⟩)
  rcases hnew with ⟨hbad, rfl⟩ | ⟨t0, b, O, rfl, ht0, rfl, w1, fr1⟩
  · simp only [↓opStep_eq, ↓reduceIte, ↓EW, EV, Nat.reduceAdd, Nat.reduceEqDiff, Int.reduceEq, Int.reduceLT, Int.reduceLE, Int.reduceNe, seqC, retC, skipC, exitC, blockC, condC, tupNth_tuple]
    refine hK _ _ _ (C.seq fun K hK => ?_)
    simp only [↓opStep_eq, ↓reduceIte, ↓EW, EV, Nat.reduceAdd, Nat.reduceEqDiff, Int.reduceEq, Int.reduceLT, Int.reduceLE, Int.reduceNe, seqC, retC, skipC, exitC, blockC, condC, r7_4]
    refine refnew_law L (n + 28) z h1 _ fun r h2 hq => ?_
    obtain ⟨k2, ⟨_, rfl⟩ | ⟨hg, _⟩⟩ := hq
    · have st7 := fun s => storeR (s := s) (Has.new h2 (.rw [.int .i64 0, .slice none 0 0])) 0 none 0 0
      have k3 := keep_alloc h2 (.rw [.int .i64 0, .slice none 0 0]) (.rw [.int .i64 0, .slice none 0 0])
      simp only [↓opStep_eq, ↓reduceIte, ↓EW, EV, Nat.reduceAdd, Nat.reduceEqDiff, Int.reduceEq, Int.reduceLT, Int.reduceLE, Int.reduceNe, seqC, retC, skipC, exitC, blockC, condC, tupNth_tuple, st7]
      generalize (h2.new (.rw [.int .i64 0, .slice none 0 0])).put h2.next (.rw [.int .i64 0, .slice none 0 0]) = h3 at *
      refine hK _ _ _ (C.seq (C.seq fun K hK => ?_))
      simp only [↓opStep_eq, ↓reduceIte, ↓EW, EV, Nat.reduceAdd, Nat.reduceEqDiff, Int.reduceEq, Int.reduceLT, Int.reduceLE, Int.reduceNe, seqC, retC, skipC, exitC, blockC, condC, Bool.true_or, Bool.false_or, Bool.or_true, Bool.or_false, Bool.true_and, Bool.false_and, Bool.and_true, Bool.and_false, r7_5, ptr_nil2, bool_neq, eq_self, decide_true, Bool.not_true]
      refine hK _ _ _ (C.cond false (by simp only [↓opStep_eq, ↓reduceIte, ↓EW, EV, Nat.reduceAdd, Nat.reduceEqDiff, Int.reduceEq, Int.reduceLT, Int.reduceLE, Int.reduceNe, seqC, retC, skipC, exitC, blockC, condC]) (fun g => by cases g) fun _ => C.skip (C.seq (C.seq fun K hK => ?_)))
      simp only [↓opStep_eq, ↓reduceIte, ↓EW, EV, Nat.reduceAdd, Nat.reduceEqDiff, Int.reduceEq, Int.reduceLT, Int.reduceLE, Int.reduceNe, seqC, retC, skipC, exitC, blockC, condC, r7_7]
      refine hK .norm _ _ ?_
      refine C.block (C.loop (fun q tm' hx => tg tm' 1 = v ∧ tg tm' 8 = .int .i64 2 ∧ tg tm' 9 = .int .i64 0) 1 (by omega) ⟨by simp only [↓opStep_eq, ↓reduceIte, ↓EW, EV, Nat.reduceAdd, Nat.reduceEqDiff, Int.reduceEq, Int.reduceLT, Int.reduceLE, Int.reduceNe, seqC, retC, skipC, exitC, blockC, condC], by simp only [↓opStep_eq, ↓reduceIte, ↓EW, EV, Nat.reduceAdd, Nat.reduceEqDiff, Int.reduceEq, Int.reduceLT, Int.reduceLE, Int.reduceNe, seqC, retC, skipC, exitC, blockC, condC], by simp only [↓opStep_eq, ↓reduceIte, ↓EW, EV, Nat.reduceAdd, Nat.reduceEqDiff, Int.reduceEq, Int.reduceLT, Int.reduceLE, Int.reduceNe, seqC, retC, skipC, exitC, blockC, condC]⟩ ?_)
      rintro q tm hx ⟨t1, t8, t9⟩
      unfold l7_19
      refine C.seq (C.seq fun K hK => ?_)
      have r8 : ∀ K : KE, r7_8 (CF L (n + 29)) L tm [] hx K = K .norm (T.set tm 46 (.bool false)) [] hx := fun K => by
        by_cases g0 : (0 : Int) < (ds.length : Int)
        · simp only [↓opStep_eq, ↓reduceIte, ↓EW, EV, Nat.reduceAdd, Nat.reduceEqDiff, Int.reduceEq, Int.reduceLT, Int.reduceLE, Int.reduceNe, seqC, retC, skipC, exitC, blockC, condC, Bool.true_or, Bool.false_or, Bool.or_true, Bool.or_false, Bool.true_and, Bool.false_and, Bool.and_true, Bool.and_false, r7_8, t1, t8, t9, hl, g0]
        · simp only [↓opStep_eq, ↓reduceIte, ↓EW, EV, Nat.reduceAdd, Nat.reduceEqDiff, Int.reduceEq, Int.reduceLT, Int.reduceLE, Int.reduceNe, seqC, retC, skipC, exitC, blockC, condC, Bool.true_or, Bool.false_or, Bool.or_true, Bool.or_false, Bool.true_and, Bool.false_and, Bool.and_true, Bool.and_false, r7_8, t1, t8, t9, hl, g0]
      rw [show ∀ x : CodeT, (⟨x⟩ : Box CodeT).f = x from fun _ => rfl]
      rw [r8]
      refine hK _ _ _ (C.cond false (by simp only [↓opStep_eq, ↓reduceIte, ↓EW, EV, Nat.reduceAdd, Nat.reduceEqDiff, Int.reduceEq, Int.reduceLT, Int.reduceLE, Int.reduceNe, seqC, retC, skipC, exitC, blockC, condC]) (fun g => by cases g) fun _ => C.exit ?_)
      simp only [if_pos]
      exact last _ _
    · exact absurd hg hbad
  simp only [↓opStep_eq, ↓reduceIte, ↓EW, EV, Nat.reduceAdd, Nat.reduceEqDiff, Int.reduceEq, Int.reduceLT, Int.reduceLE, Int.reduceNe, seqC, retC, skipC, exitC, blockC, condC, tupNth_tuple]
  refine hK _ _ _ (C.seq fun K hK => ?_)
  simp only [↓opStep_eq, ↓reduceIte, ↓EW, EV, Nat.reduceAdd, Nat.reduceEqDiff, Int.reduceEq, Int.reduceLT, Int.reduceLE, Int.reduceNe, seqC, retC, skipC, exitC, blockC, condC, r7_4]
  refine refnew_law L (n + 28) (t0 : Int) h1 _ fun r h2 hq => ?_
  obtain ⟨k2, ⟨hbad, _⟩ | ⟨_, rfl⟩⟩ := hq
  · exact absurd ⟨by omega, by unfold MAXT at ht0; omega⟩ hbad
  have st7 := fun s => storeR (s := s) (Has.new h2 (.rw [.int .i64 0, .slice none 0 0])) (t0 : Int) none 0 0
  have k3 := keep_alloc h2 (.rw [.int .i64 0, .slice none 0 0]) (.rw [.int .i64 (t0 : Int), .slice none 0 0])
  have b3 := has_alloc h2 (.rw [.int .i64 0, .slice none 0 0]) (.rw [.int .i64 (t0 : Int), .slice none 0 0])
  simp only [↓opStep_eq, ↓reduceIte, ↓EW, EV, Nat.reduceAdd, Nat.reduceEqDiff, Int.reduceEq, Int.reduceLT, Int.reduceLE, Int.reduceNe, seqC, retC, skipC, exitC, blockC, condC, tupNth_tuple, st7]
  have hn1 := k1.next
  have hn2 := k2.next
  have dm : Dm h _ b h2.next O t0 [] [] (.slice none 0 0) := ⟨⟨(w1.keep0 k2).keep0 k3, ⟨.nil, .nil⟩, .inl ⟨rfl, rfl⟩⟩, (k1.then k2).then k3, fr1, fun e => by have := w1.lt e; omega, b3, by omega⟩
  generalize (h2.new (.rw [.int .i64 0, .slice none 0 0])).put h2.next (.rw [.int .i64 (t0 : Int), .slice none 0 0]) = h3 at *
  generalize h2.next = R at *
  refine hK _ _ _ (C.seq (C.seq fun K hK => ?_))
  simp only [↓opStep_eq, ↓reduceIte, ↓EW, EV, Nat.reduceAdd, Nat.reduceEqDiff, Int.reduceEq, Int.reduceLT, Int.reduceLE, Int.reduceNe, seqC, retC, skipC, exitC, blockC, condC, Bool.true_or, Bool.false_or, Bool.or_true, Bool.or_false, Bool.true_and, Bool.false_and, Bool.and_true, Bool.and_false, r7_5, ptr_nil, bool_neq, eq_self, decide_true, Bool.not_true]
  refine hK _ _ _ (C.cond false (by simp only [↓opStep_eq, ↓reduceIte, ↓EW, EV, Nat.reduceAdd, Nat.reduceEqDiff, Int.reduceEq, Int.reduceLT, Int.reduceLE, Int.reduceNe, seqC, retC, skipC, exitC, blockC, condC]) (fun g => by cases g) fun _ => C.skip (C.seq (C.seq fun K hK => ?_)))
  simp only [↓opStep_eq, ↓reduceIte, ↓EW, EV, Nat.reduceAdd, Nat.reduceEqDiff, Int.reduceEq, Int.reduceLT, Int.reduceLE, Int.reduceNe, seqC, retC, skipC, exitC, blockC, condC, r7_7]
  refine hK .norm _ _ ?_
  refine C.block (C.loop (fun q tm' hx => ∃ i O now l es p q2 c, q = ds.length - i ∧ i ≤ ds.length ∧ l.length ≤ i ∧ Dm h hx b R O now l es (.slice p q2 c) ∧ tg tm' 1 = v ∧ tg tm' 5 = .pointer (some ⟨b, 0, none⟩) ∧ tg tm' 7 = .pointer (some ⟨R, 0, none⟩) ∧ tg tm' 8 = .int .i64 0 ∧ tg tm' 9 = .int .i64 (i : Int)) ds.length (by omega)
    ⟨0, O, t0, [], [], none, 0, 0, rfl, by omega, by simp, dm, by simp only [↓opStep_eq, ↓reduceIte, ↓EW, EV, Nat.reduceAdd, Nat.reduceEqDiff, Int.reduceEq, Int.reduceLT, Int.reduceLE, Int.reduceNe, seqC, retC, skipC, exitC, blockC, condC], by simp only [↓opStep_eq, ↓reduceIte, ↓EW, EV, Nat.reduceAdd, Nat.reduceEqDiff, Int.reduceEq, Int.reduceLT, Int.reduceLE, Int.reduceNe, seqC, retC, skipC, exitC, blockC, condC], by simp only [↓opStep_eq, ↓reduceIte, ↓EW, EV, Nat.reduceAdd, Nat.reduceEqDiff, Int.reduceEq, Int.reduceLT, Int.reduceLE, Int.reduceNe, seqC, retC, skipC, exitC, blockC, condC], by simp only [↓opStep_eq, ↓reduceIte, ↓EW, EV, Nat.reduceAdd, Nat.reduceEqDiff, Int.reduceEq, Int.reduceLT, Int.reduceLE, Int.reduceNe, seqC, retC, skipC, exitC, blockC, condC], by simp only [↓opStep_eq, ↓reduceIte, ↓EW, EV, Nat.reduceAdd, Nat.reduceEqDiff, Int.reduceEq, Int.reduceLT, Int.reduceLE, Int.reduceNe, seqC, retC, skipC, exitC, blockC, condC] <;> rfl⟩ ?_)
  clear dm
  rintro q tm hx ⟨i, O, now, l, es, p, q2, c, rfl, hi, hli, dm, t1, t5, t7, t8, t9⟩
  have ax := a.keep0 dm.k
  have hes : es.length ≤ 1000 := by have := dm.mid.bt.pm.length_eq; omega
  unfold l7_19
  refine C.seq (C.seq fun K hK => ?_)
  have r8 : ∀ K : KE, r7_8 (CF L (n + 29)) L tm [] hx K = K .norm (T.set tm 46 (.bool (decide (i < ds.length)))) [] hx := fun K => by
    by_cases g0 : i < ds.length
    · have g1 : (i : Int) < (ds.length : Int) := by omega
      simp only [↓opStep_eq, ↓reduceIte, ↓EW, EV, Nat.reduceAdd, Nat.reduceEqDiff, Int.reduceEq, Int.reduceLT, Int.reduceLE, Int.reduceNe, seqC, retC, skipC, exitC, blockC, condC, Bool.true_or, Bool.false_or, Bool.or_true, Bool.or_false, Bool.true_and, Bool.false_and, Bool.and_true, Bool.and_false, r7_8, t1, t8, t9, hl, g0, g1]
    · have g1 : ¬ (i : Int) < (ds.length : Int) := by omega
      simp only [↓opStep_eq, ↓reduceIte, ↓EW, EV, Nat.reduceAdd, Nat.reduceEqDiff, Int.reduceEq, Int.reduceLT, Int.reduceLE, Int.reduceNe, seqC, retC, skipC, exitC, blockC, condC, Bool.true_or, Bool.false_or, Bool.or_true, Bool.or_false, Bool.true_and, Bool.false_and, Bool.and_true, Bool.and_false, r7_8, t1, t8, t9, hl, g0, g1]
  rw [show ∀ x : CodeT, (⟨x⟩ : Box CodeT).f = x from fun _ => rfl]
  rw [r8]
  refine hK _ _ _ (C.cond (decide (i < ds.length)) (by simp only [↓opStep_eq, ↓reduceIte, ↓EW, EV, Nat.reduceAdd, Nat.reduceEqDiff, Int.reduceEq, Int.reduceLT, Int.reduceLE, Int.reduceNe, seqC, retC, skipC, exitC, blockC, condC]) (fun g => C.skip ?_) fun g => C.exit ?_)
  · have g := of_decide_eq_true g
    obtain ⟨d, hd⟩ : ∃ d, ds[i]? = some d := ⟨_, List.getElem?_eq_getElem g⟩
    obtain ⟨B, ixp, lp⟩ := ax.at hd
    have w1 := wadd1 i (by omega)
    refine C.seq (C.block (C.seq fun K hK => ?_))
    have st4 := zeros4 hx d.kd d.x d.u
    have k4 := keep_alloc hx (.rw [(.int .u8 (0)), (.int .i64 (0)), (.string (strB [])), (.int .i64 (0))]) (.rw [.int .u8 (d.kd : Int), .int .i64 d.x.1, .string d.x.2, .int .i64 d.u])
    have b4 := has_alloc hx (.rw [(.int .u8 (0)), (.int .i64 (0)), (.string (strB [])), (.int .i64 (0))]) (.rw [.int .u8 (d.kd : Int), .int .i64 d.x.1, .string d.x.2, .int .i64 d.u])
    simp only [↓opStep_eq, ↓reduceIte, ↓EW, EV, Nat.reduceAdd, Nat.reduceEqDiff, Int.reduceEq, Int.reduceLT, Int.reduceLE, Int.reduceNe, seqC, retC, skipC, exitC, blockC, condC, r7_10, t1, t9, ixp, lp, st4]
    have dm4 := dm.keep0 k4
    generalize (hx.new (.rw [(.int .u8 (0)), (.int .i64 (0)), (.string (strB [])), (.int .i64 (0))])).put hx.next (.rw [.int .u8 (d.kd : Int), .int .i64 d.x.1, .string d.x.2, .int .i64 d.u]) = h4 at *
    generalize hx.next = X at *
    have lx : ∀ s, loadAgg 4 h4 (.pointer (some ⟨X, 0, s⟩)) = some (doV d.kd d.x d.u) := fun s => by rw [loadAgg_has b4 rfl (by simp)]; rfl
    have lk : ∀ s, loadOne h4 (.pointer (some ⟨X, 2, s⟩)) = some (.string d.x.2) := fun s => by rw [loadOne_has b4 rfl]; rfl
    refine hK _ _ _ (C.seq (C.seq fun K hK => ?_))
    simp only [↓opStep_eq, ↓reduceIte, ↓EW, EV, Nat.reduceAdd, Nat.reduceEqDiff, Int.reduceEq, Int.reduceLT, Int.reduceLE, Int.reduceNe, seqC, retC, skipC, exitC, blockC, condC, r7_11, lk, lenStr_string]
    refine hK _ _ _ (C.cond (decide ((10000 : Int) < (d.x.2.size : Int))) (by simp only [↓opStep_eq, ↓reduceIte, ↓EW, EV, Nat.reduceAdd, Nat.reduceEqDiff, Int.reduceEq, Int.reduceLT, Int.reduceLE, Int.reduceNe, seqC, retC, skipC, exitC, blockC, condC]) (fun g2 => C.seq fun K hK => ?_) fun g2 => C.skip (C.seq fun K hK => ?_))
    · simp only [↓opStep_eq, ↓reduceIte, ↓EW, EV, Nat.reduceAdd, Nat.reduceEqDiff, Int.reduceEq, Int.reduceLT, Int.reduceLE, Int.reduceNe, seqC, retC, skipC, exitC, blockC, condC, r7_12]
      exact hK .norm _ _ (C.ret ⟨.inr rfl, _, rfl, by simp only [↓opStep_eq, ↓reduceIte, ↓EW, EV, Nat.reduceAdd, Nat.reduceEqDiff, Int.reduceEq, Int.reduceLT, Int.reduceLE, Int.reduceNe, seqC, retC, skipC, exitC, blockC, condC, resOf]⟩)
    simp only [↓opStep_eq, ↓reduceIte, ↓EW, EV, Nat.reduceAdd, Nat.reduceEqDiff, Int.reduceEq, Int.reduceLT, Int.reduceLE, Int.reduceNe, seqC, retC, skipC, exitC, blockC, condC, r7_13]
    refine hK .norm _ _ (C.seq fun K hK => ?_)
    simp only [↓opStep_eq, ↓reduceIte, ↓EW, EV, Nat.reduceAdd, Nat.reduceEqDiff, Int.reduceEq, Int.reduceLT, Int.reduceLE, Int.reduceNe, seqC, retC, skipC, exitC, blockC, condC, r7_14, t5, t7, loadR dm4.hR, lx]
    refine one_law L n hL dm4.mid hes d.kd d.x d.u _ fun r h5 hq => ?_
    obtain ⟨O5, now5, l5, es5, p5, q5, c5, m5, hl5, fw5, rfl⟩ := hq
    have hR5 := dm4.hR.keep fw5.keep dm4.nR
    have nR5 : ¬ O5 R := fun e => dm4.nR (fw5.same R dm4.hR.1 e)
    have st5 := storeR (s := none) hR5 (now5 : Int) p5 q5 c5
    have kp := Keep.put h5 R (.rw [.int .i64 (now5 : Int), .slice p5 q5 c5])
    have lR := dm4.lR
    have hn04 := dm4.k.next
    have dm6 : Dm h (h5.put R (.rw [.int .i64 (now5 : Int), .slice p5 q5 c5])) b R O5 now5 l5 es5 (.slice p5 q5 c5) :=
      ⟨⟨m5.wh.keepO kp fun d e => by rw [e]; exact nR5, m5.bt, ((m5.row.ne hR5).keep kp fun d e hd => hd.2 e).mono fun d _ hd => hd.1⟩, (dm4.k.trans fw5.keep fun d hd e => by have := dm4.lo d e; omega).trans kp fun d hd e => by have e : d = R := e; omega, fun d e => by
        by_cases hd : d < h4.next
        · exact dm4.lo d (fw5.same d hd e)
        · omega, nR5, .put hR5.1, lR⟩
    simp only [↓opStep_eq, ↓reduceIte, ↓EW, EV, Nat.reduceAdd, Nat.reduceEqDiff, Int.reduceEq, Int.reduceLT, Int.reduceLE, Int.reduceNe, seqC, retC, skipC, exitC, blockC, condC, tupNth_tuple, st5]
    generalize h5.put R (.rw [.int .i64 (now5 : Int), .slice p5 q5 c5]) = h6 at *
    refine hK _ _ _ (C.seq fun K hK => ?_)
    simp only [↓opStep_eq, ↓reduceIte, ↓EW, EV, Nat.reduceAdd, Nat.reduceEqDiff, Int.reduceEq, Int.reduceLT, Int.reduceLE, Int.reduceNe, seqC, retC, skipC, exitC, blockC, condC, r7_15, t5]
    refine len_law L (n + 27) dm6.mid.wh _ fun r h7 hq => ?_
    obtain ⟨rfl, rfl⟩ := hq
    simp only [↓opStep_eq, ↓reduceIte, ↓EW, EV, Nat.reduceAdd, Nat.reduceEqDiff, Int.reduceEq, Int.reduceLT, Int.reduceLE, Int.reduceNe, seqC, retC, skipC, exitC, blockC, condC, tupNth_tuple]
    refine hK _ _ _ (C.seq fun K hK => ?_)
    simp only [↓opStep_eq, ↓reduceIte, ↓EW, EV, Nat.reduceAdd, Nat.reduceEqDiff, Int.reduceEq, Int.reduceLT, Int.reduceLE, Int.reduceNe, seqC, retC, skipC, exitC, blockC, condC, r7_16, t5]
    refine now_law L (n + 27) dm6.mid.wh _ fun r h8 hq => ?_
    obtain ⟨rfl, rfl⟩ := hq
    have hlr := dm6.mid.row.dv.len
    rw [outD_len, ← dm6.mid.bt.pm.length_eq] at hlr
    simp only [↓opStep_eq, ↓reduceIte, ↓EW, EV, Nat.reduceAdd, Nat.reduceEqDiff, Int.reduceEq, Int.reduceLT, Int.reduceLE, Int.reduceNe, seqC, retC, skipC, exitC, blockC, condC, tupNth_tuple]
    refine hK _ _ _ (C.seq (fun K hK => ?_))
    simp only [↓opStep_eq, ↓reduceIte, ↓EW, EV, Nat.reduceAdd, Nat.reduceEqDiff, Int.reduceEq, Int.reduceLT, Int.reduceLE, Int.reduceNe, seqC, retC, skipC, exitC, blockC, condC, Bool.true_or, Bool.false_or, Bool.or_true, Bool.or_false, Bool.true_and, Bool.false_and, Bool.and_true, Bool.and_false, r7_17, t7, load0 dm6.hR, load1 dm6.hR, hlr, eq_self, decide_true, Bool.not_true]
    refine hK _ _ _ (C.cond false (by simp only [↓opStep_eq, ↓reduceIte, ↓EW, EV, Nat.reduceAdd, Nat.reduceEqDiff, Int.reduceEq, Int.reduceLT, Int.reduceLE, Int.reduceNe, seqC, retC, skipC, exitC, blockC, condC]) (fun g => by cases g) fun _ => C.skip fun K hK => ?_)
    simp only [↓opStep_eq, ↓reduceIte, ↓EW, EV, Nat.reduceAdd, Nat.reduceEqDiff, Int.reduceEq, Int.reduceLT, Int.reduceLE, Int.reduceNe, seqC, retC, skipC, exitC, blockC, condC, r7_9, t9, w1]
    exact hK _ _ _ ⟨ds.length - (i + 1), by omega, i + 1, O5, now5, l5, es5, p5, q5, c5, rfl, by omega, by omega, dm6, by simp only [↓opStep_eq, ↓reduceIte, ↓EW, EV, Nat.reduceAdd, Nat.reduceEqDiff, Int.reduceEq, Int.reduceLT, Int.reduceLE, Int.reduceNe, seqC, retC, skipC, exitC, blockC, condC, t1], by simp only [↓opStep_eq, ↓reduceIte, ↓EW, EV, Nat.reduceAdd, Nat.reduceEqDiff, Int.reduceEq, Int.reduceLT, Int.reduceLE, Int.reduceNe, seqC, retC, skipC, exitC, blockC, condC, t5], by simp only [↓opStep_eq, ↓reduceIte, ↓EW, EV, Nat.reduceAdd, Nat.reduceEqDiff, Int.reduceEq, Int.reduceLT, Int.reduceLE, Int.reduceNe, seqC, retC, skipC, exitC, blockC, condC, t7], by simp only [↓opStep_eq, ↓reduceIte, ↓EW, EV, Nat.reduceAdd, Nat.reduceEqDiff, Int.reduceEq, Int.reduceLT, Int.reduceLE, Int.reduceNe, seqC, retC, skipC, exitC, blockC, condC, t8], by simp only [↓opStep_eq, ↓reduceIte, ↓EW, EV, Nat.reduceAdd, Nat.reduceEqDiff, Int.reduceEq, Int.reduceLT, Int.reduceLE, Int.reduceNe, seqC, retC, skipC, exitC, blockC, condC]⟩
  · simp only [if_pos]
    exact last _ _
end Go.Proofs.Ytpoedopdcpejmaa

set_option maxRecDepth 100000
namespace Go.Proofs.Ytpoedopdcpejmaa
open Go.Ev Go.RowKit

theorem w55 : Try.prog.underlying 55 = some (.slice 62) := by kernel_rfl
theorem w62 : Try.prog.underlying 62 = some (.struct (fieldsOf Try.prog 62)) := by kernel_rfl
theorem n62 : (fieldsOf Try.prog 62).toList.map (fun f => (f.type, f.offset)) = [(5, 0), (39, 1), (3, 3)] := by kernel_rfl
theorem z62 : Try.prog.cellsOf 62 = 4 := by kernel_rfl
theorem w5 : Try.prog.underlying 5 = some (.int .u8) := by kernel_rfl
theorem z5 : Try.prog.cellsOf 5 = 1 := by kernel_rfl

theorem cellsF_in : ∀ (l : List Do4) (j : Nat) (v : Value), (cellsF l)[j]? = some v → ∃ (i k : Nat) (x : Do4), l[i]? = some x ∧ j = i * 4 + k ∧ k < 4 ∧ x.cells[k]? = some v
  | [], j, v, h => by simp [cellsF] at h
  | x :: l, j, v, h => by
    have e : cellsF (x :: l) = x.cells ++ cellsF l := rfl
    rw [e] at h
    have hl : x.cells.length = 4 := rfl
    by_cases hj : j < 4
    · rw [List.getElem?_append_left (by omega)] at h
      exact ⟨0, j, x, rfl, by omega, hj, h⟩
    · rw [List.getElem?_append_right (by omega), hl] at h
      obtain ⟨i, k, y, h1, h2, h3, h4⟩ := cellsF_in l _ v h
      exact ⟨i + 1, k, y, by simpa using h1, by omega, h3, h4⟩
theorem do_cst {x : Do4} {k : Nat} {v : Value} (h : x.cells[k]? = some v) : cstOk v = true := by
  have := List.mem_of_getElem? h
  simp only [Do4.cells, List.mem_cons, List.not_mem_nil, or_false] at this
  rcases this with rfl | rfl | rfl | rfl <;> rfl

section
variable {H : Type} {enc : TypeId × Value → H}
theorem open_do {w : World} {base : Nat} {sp : Nat → Bool} {held : Bool} {n : Nat} {cs : List Value} {x : DataW H × List MemPlace} (h : DataW.trod enc Try.prog w base sp held n 62 cs = some x) : ∃ d : Do4, cs = d.cells := by
  obtain ⟨hl, hf⟩ := trod_fields w62 n62 h
  rw [z62] at hl
  rcases cs with _ | ⟨c0, _ | ⟨c1, _ | ⟨c2, _ | ⟨c3, _ | ⟨c4, r⟩⟩⟩⟩⟩ <;> simp at hl
  obtain ⟨m0, y0, h0⟩ := hf 0 5 0 rfl
  obtain ⟨m1, y1, h1⟩ := hf 1 39 1 rfl
  obtain ⟨m2, y2, h2⟩ := hf 2 3 3 rfl
  rw [z5] at h0
  rw [z39] at h1
  rw [z3] at h2
  obtain ⟨hl2, hf2⟩ := trod_fields w39 n39 h1
  obtain ⟨k0, x0, g0⟩ := hf2 0 3 0 rfl
  obtain ⟨k1, x1, g1⟩ := hf2 1 9 1 rfl
  rw [z3] at g0
  rw [z9] at g1
  obtain ⟨kd, e0, _, q0⟩ := DataW.trod_int w5 h0
  obtain ⟨t, e1, _, _⟩ := DataW.trod_int w3 g0
  obtain ⟨k, e2, _, _⟩ := DataW.trod_string w9 g1
  obtain ⟨xx, e3, _, _⟩ := DataW.trod_int w3 h2
  simp at e0 e1 e2 e3
  subst e0 e1 e2 e3
  have := bounds_u8 q0
  refine ⟨⟨kd.toNat, (t, k), xx⟩, ?_⟩
  have hk : ((kd.toNat : Nat) : Int) = kd := by omega
  simp only [Do4.cells, hk]

/-- calls that lie in memory, as the evaluator has them -/
theorem dos_at {W : World} {n : Nat} {v : Value} {x : DataW H × List MemPlace} (hok : Value.okWide Try.prog W .any 0 55 v) (h : DataW.trod enc Try.prog W 0 (fun _ => true) true n 55 v.cells.toList = some x) :
    ∃ o : Option (List Value × CB), (∀ p, o = some p → RosOk W p) ∧ ∀ (B : Nat) (σ : Sg) (h0 : Ev.H), (∀ p, o = some p → Has h0 B (.ro p.1) ∧ σ B = some p.2) → ∃ (v' : Value) (l : List Do4), Rd h0 v' l ∧ VR σ v' v := by
  have hok2 : Cell.ok Try.prog W .any 0 55 v := by
    unfold Value.okWide at hok
    rw [w55] at hok
    unfold Cell.okWide at hok
    rw [w55] at hok
    exact hok
  rcases DataW.trod_slice w55 h with ⟨e, _⟩ | ⟨a, len, cap, elems, rest, m', _, e, _, _, hlc, hcm, hlen, hel, _, _⟩
  · have hv : v = .slice none 0 0 := by
      rcases slice_of e with h | ⟨a, rfl⟩
      · exact h
      · exfalso; unfold Cell.ok at hok2; rw [w55] at hok2; exact hok2
    subst hv
    exact ⟨none, (fun p h => by cases h), fun B σ h0 _ => ⟨.slice none 0 0, [], .inl ⟨rfl, rfl⟩, .slNil _ _⟩⟩
  · have hv : v = .slice (some a) len cap := by
      rcases slice_of e with h | ⟨a, rfl⟩
      · exact h
      · exfalso; unfold Cell.ok at hok2; rw [w55] at hok2; exact hok2
    subst hv
    unfold Cell.ok at hok2
    rw [w55] at hok2
    obtain ⟨_, _, _, hspot, row, cells, hshape, _⟩ := hok2
    have hblk : a.block < W.heap.size := by
      unfold World.shape? at hshape
      split at hshape
      · rename_i c el _ hh
        exact (Array.getElem?_eq_some_iff.1 hh).1
      · cases hshape
    have hone : ∀ i : Fin len, ∃ d : Do4, W.cells? 0 (a.add (i.val * 4)) 4 = some d.cells := fun i => by
      have h1 := hel i.val i.isLt
      rw [z62, List.getElem?_eq_getElem (by omega)] at h1
      simp only [Option.bind_eq_some_iff] at h1
      obtain ⟨c5, h2, h3⟩ := h1
      obtain ⟨d, rfl⟩ := open_do h3
      exact ⟨d, h2⟩
    obtain ⟨f, hf⟩ := Classical.axiomOfChoice hone
    let l := List.ofFn f
    have hil : l.length = len := by simp [l]
    have hit : ∀ (i : Nat) (x : Do4), l[i]? = some x → ∀ k, k < 4 → W.cell? ⟨a.block, a.off + (i * 4 + k), none⟩ = x.cells[k]? := fun i x hx => by
      have hlt : i < len := by
        by_cases hlt : i < len
        · exact hlt
        · rw [List.getElem?_eq_none (by omega)] at hx; cases hx
      have hx' : f ⟨i, hlt⟩ = x := by simpa [l, hlt] using hx
      have h2 := hf ⟨i, hlt⟩
      rw [hx'] at h2
      intro k hk
      have h3 := (World.cells?_some h2).2.2 k hk
      rw [← h3]
      obtain ⟨ab, ao, asp⟩ := a
      simp only at hspot
      subst hspot
      simp only [Addr.add]
      by_cases e1 : i * 4 = 0
      · by_cases e2 : k = 0
        · simp [e1, e2]
        · simp [e1, e2]
      · by_cases e2 : k = 0
        · simp [e1, e2]
        · simp [e1, e2, Nat.add_assoc]
    have hcells : ∀ j v, (cellsF l)[j]? = some v → W.cell? ⟨a.block, a.off + j, none⟩ = some v ∧ cstOk v = true := fun j v hv => by
      obtain ⟨i, k, x, h1, rfl, h3, h4⟩ := cellsF_in l j v hv
      exact ⟨by rw [hit i x h1 k h3, h4], do_cst h4⟩
    have hcO : cap < OPEN := by have := hcm; unfold maxLen at this; unfold OPEN; omega
    refine ⟨some (cellsF l, ⟨a.block, a.off, 4 * len, 4⟩), fun p h => ?_, fun B σ h0 hB => ?_⟩
    · simp only [Option.some.injEq] at h; subst h; exact ⟨hblk, hcells⟩
    obtain ⟨hh, hσ⟩ := hB _ rfl
    have hV : VR σ (.slice (some ⟨B, 0, none⟩) len cap) (.slice (some a) len cap) := by
      have := VR.sl (σ := σ) B 0 len cap ⟨a.block, a.off, 4 * len, 4⟩ hσ hcO
      obtain ⟨ab, ao, asp⟩ := a
      simp only at hspot
      subst hspot
      exact this
    exact ⟨.slice (some ⟨B, 0, none⟩) len cap, l, .inr ⟨B, cap, by rw [hil], hh⟩, hV⟩

/-- the walk -/
theorem wheelDoes_walk {W : World} {n1 n2 : Nat} {v1 v2 : Value} {x1 x2 : DataW H × List MemPlace} (ok1 : Value.okWide Try.prog W .any 0 3 v1) (h1 : DataW.trod enc Try.prog W 0 (fun _ => true) true n1 3 v1.cells.toList = some x1)
    (ok2 : Value.okWide Try.prog W .any 0 55 v2) (h2 : DataW.trod enc Try.prog W 0 (fun _ => true) true n2 55 v2.cells.toList = some x2) :
    Calls Try.prog 7 #[v1, v2] W fun e W' => e = .returned (.bool true) ∧ Below W.heap.size W W' := by
  obtain ⟨now, rfl⟩ := int_at ok1 h1
  obtain ⟨o, p, q⟩ := dos_at ok2 h2
  have r : Rel (rosσ [o]) (rosH [o]) W := ros_rel fun p' hp => by
    simp only [List.mem_cons, List.not_mem_nil, or_false] at hp
    exact p p' hp.symm
  obtain ⟨v', l, hr, vb⟩ := q 0 (rosσ [o]) (rosH [o]) fun p hp => ros_has (by rw [hp]; rfl)
  exact calls_of_sp gor Try.checked.mixed xok Try.func7 (by kernel_rfl) (does_law 400000 0 (by decide) hr now) r (fun g hg => absurd hg (Nat.not_lt_zero _)) (.cons (.int _ _) (.cons vb (.nil _))) ros_ro
end
end Go.Proofs.Ytpoedopdcpejmaa
