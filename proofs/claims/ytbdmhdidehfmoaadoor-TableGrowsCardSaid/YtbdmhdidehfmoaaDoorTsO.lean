import Derived.Test.YtbdmhdidehfmoaaDoorTsL
set_option linter.unusedSimpArgs false
set_option linter.unusedVariables false
namespace Go.Proofs.YtbdmhdidehfmoaaDoor
open Go.Ev

theorem strV_lss (t : TypeId) (c : Bool) (x y : ByteArray) : binV Tryd.prog .lss t c (.string x) (.string y) = some (.bool (ltB x.data.toList y.data.toList)) := rfl
theorem r20_1_eq {call : CallT} {L : Nat} {tm : T Value} {h : H} {K : KE} {x y : Nm} {p q : Nat} (hp : Has h p (.rw [.int .i64 x.1, .string x.2])) (hq : Has h q (.rw [.int .i64 y.1, .string y.2])) (t2 : tg tm 2 = .pointer (some ⟨p, 0, none⟩)) (t3 : tg tm 3 = .pointer (some ⟨q, 0, none⟩)) (hlt : ltN x y) :
    r20_1 call L tm [] h K = K .norm (T.set tm 4 (.bool true)) [] h := by
  have l1 : ∀ o s, loadOne h (.pointer (some ⟨p, o, s⟩)) = [.int .i64 x.1, .string x.2][o]? := fun o s => loadOne_has hp rfl
  have l2 : ∀ o s, loadOne h (.pointer (some ⟨q, o, s⟩)) = [.int .i64 y.1, .string y.2][o]? := fun o s => loadOne_has hq rfl
  by_cases h1 : x.1 < y.1
  · simp only [↓opStep_eq, ↓reduceIte, ↓EW, EV, Nat.reduceAdd, Nat.reduceEqDiff, Int.reduceEq, Int.reduceLT, Int.reduceLE, Int.reduceNe, seqC, retC, skipC, exitC, blockC, condC, Bool.true_or, Bool.false_or, Bool.or_true, Bool.or_false, Bool.true_and, Bool.false_and, Bool.and_true, Bool.and_false, r20_1, t2, t3, l1, l2, h1]
  · rcases hlt with h2 | ⟨h2, h3⟩
    · exact absurd h2 h1
    · have h4 : ¬ y.1 < y.1 := by omega
      simp only [↓opStep_eq, ↓reduceIte, ↓EW, EV, Nat.reduceAdd, Nat.reduceEqDiff, Int.reduceEq, Int.reduceLT, Int.reduceLE, Int.reduceNe, seqC, retC, skipC, exitC, blockC, condC, Bool.true_or, Bool.false_or, Bool.or_true, Bool.or_false, Bool.true_and, Bool.false_and, Bool.and_true, Bool.and_false, r20_1, t2, t3, l1, l2, h2, h4, strV_lss, h3]
theorem less20_law (L n : Nat) {x y : Nm} (h : H) (hlt : ltN x y) : Sp (CF L (n + 1)) 20 [x.v, y.v] h fun r h' => r = .bool true ∧ Keep nobody h h' := by
  refine Sp.body f20 (by simp) ?_
  unfold c20
  refine C.seq fun K hK => ?_
  have k1 := Keep.new h (.rw [.int .i64 x.1, .string x.2])
  have b1 := Has.new h (.rw [.int .i64 x.1, .string x.2])
  have hcx : (Value.cells x.v).toList = [.int .i64 x.1, .string x.2] := by simp [Nm.v]
  have hcy : (Value.cells y.v).toList = [.int .i64 y.1, .string y.2] := by simp [Nm.v]
  simp only [↓opStep_eq, ↓reduceIte, ↓EW, EV, Nat.reduceAdd, Nat.reduceEqDiff, Int.reduceEq, Int.reduceLT, Int.reduceLE, Int.reduceNe, seqC, retC, skipC, exitC, blockC, condC, r20_0, hcx, hcy]
  generalize h.new (.rw [.int .i64 x.1, .string x.2]) = h1 at *
  have k2 := Keep.new h1 (.rw [.int .i64 y.1, .string y.2])
  have b2 := Has.new h1 (.rw [.int .i64 y.1, .string y.2])
  generalize h1.new (.rw [.int .i64 y.1, .string y.2]) = h2 at *
  refine hK _ _ _ (C.seq fun K hK => ?_)
  rw [show ∀ x : CodeT, (⟨x⟩ : Box CodeT).f = x from fun _ => rfl]
  rw [r20_1_eq (b1.keep0 k2) b2 (by simp only [↓opStep_eq, ↓reduceIte, ↓EW, EV, Nat.reduceAdd, Nat.reduceEqDiff, Int.reduceEq, Int.reduceLT, Int.reduceLE, Int.reduceNe, seqC, retC, skipC, exitC, blockC, condC]) (by simp only [↓opStep_eq, ↓reduceIte, ↓EW, EV, Nat.reduceAdd, Nat.reduceEqDiff, Int.reduceEq, Int.reduceLT, Int.reduceLE, Int.reduceNe, seqC, retC, skipC, exitC, blockC, condC]) hlt]
  exact hK _ _ _ (C.ret ⟨.inr rfl, _, rfl, by simp only [↓opStep_eq, ↓reduceIte, ↓EW, EV, Nat.reduceAdd, Nat.reduceEqDiff, Int.reduceEq, Int.reduceLT, Int.reduceLE, Int.reduceNe, seqC, retC, skipC, exitC, blockC, condC, resOf], k1.then k2⟩)

/-! ### the plain law: the names of numbers -/
def gE (i : Nat) : Ent := ⟨tOf i, nm i, (i : Int)⟩
def gl : Nat → List Ent
  | 0 => []
  | i + 1 => gE i :: gl i
theorem is_g {i j : Nat} (hi : i < 16384) (hj : j < 16384) : Is (tOf j) (nm j) (gE i) ↔ i = j := ⟨fun h => nm_inj hi hj h.2, fun h => by rw [h]; exact ⟨rfl, rfl⟩⟩
theorem gl_mem : ∀ (n : Nat) (e : Ent), e ∈ gl n → ∃ i, i < n ∧ e = gE i
  | n + 1, e, h => by
    simp only [gl, List.mem_cons] at h
    rcases h with rfl | h
    · exact ⟨n, by omega, rfl⟩
    · obtain ⟨i, h1, h2⟩ := gl_mem n e h
      exact ⟨i, by omega, h2⟩
theorem gl_without (n : Nat) (hn : n < 16384) : without (gl n) (tOf n) (nm n) = gl n := without_none fun e he hm => by
  obtain ⟨i, h1, rfl⟩ := gl_mem n e he
  have := (is_g (by omega) hn).1 hm
  omega
theorem gl_len : ∀ n, (gl n).length = n
  | 0 => rfl
  | n + 1 => by simp [gl, gl_len n]
theorem gl_perm : ∀ n, (gl n).Perm ((List.range n).map gE)
  | 0 => .refl _
  | n + 1 => by
    rw [List.range_succ, List.map_append]
    exact ((gl_perm n).cons _).trans (List.perm_append_comm (l₁ := [gE n]))
/-- who is left -/
def lv (back : Bool) (n i j : Nat) : Bool := if back then decide (j < n - i) else decide (i ≤ j)
def pick (back : Bool) (n i : Nat) : Nat := if back then n - 1 - i else i
def rl (back : Bool) (n i : Nat) : List Ent := ((List.range n).filter (lv back n i)).map gE
theorem rl_zero (back : Bool) (n : Nat) : rl back n 0 = (List.range n).map gE := by
  unfold rl
  rw [List.filter_eq_self.2]
  intro j hj
  have := List.mem_range.1 hj
  cases back <;> simp [lv, this]
theorem rl_end (back : Bool) (n : Nat) : rl back n n = [] := by
  unfold rl
  rw [List.filter_eq_nil_iff.2]
  · rfl
  · intro j hj
    have := List.mem_range.1 hj
    cases back <;> simp [lv]; omega
theorem pick_lt {back : Bool} {n i : Nat} (h : i < n) : pick back n i < n := by cases back <;> simp [pick] <;> omega
theorem rl_mem {back : Bool} {n i : Nat} (h : i < n) : gE (pick back n i) ∈ rl back n i := by
  refine List.mem_map.2 ⟨_, List.mem_filter.2 ⟨List.mem_range.2 (pick_lt h), ?_⟩, rfl⟩
  cases back <;> simp [lv, pick]; omega
theorem rl_of {back : Bool} {n i : Nat} (hn : n < 16384) (h : i < n) {e : Ent} (he : e ∈ rl back n i) (hm : Is (tOf (pick back n i)) (nm (pick back n i)) e) : e = gE (pick back n i) := by
  obtain ⟨j, hj, rfl⟩ := List.mem_map.1 he
  have h1 := List.mem_range.1 (List.mem_filter.1 hj).1
  rw [(is_g (by omega) (by have := pick_lt (back := back) h; omega)).1 hm]
theorem rl_succ {back : Bool} {n i : Nat} (hn : n < 16384) (h : i < n) : without (rl back n i) (tOf (pick back n i)) (nm (pick back n i)) = rl back n (i + 1) := by
  unfold without rl
  rw [List.filter_map, List.filter_filter]
  congr 1
  apply List.filter_congr
  intro j hj
  have hj := List.mem_range.1 hj
  have h1 : decide (Is (tOf (pick back n i)) (nm (pick back n i)) (gE j)) = decide (j = pick back n i) := decide_eq_decide.2 (is_g (by omega) (by have := pick_lt (back := back) h; omega))
  show ((!decide (Is (tOf (pick back n i)) (nm (pick back n i)) (gE j))) && lv back n i j) = _
  rw [h1]
  cases back
  · simp only [lv, pick, if_false, Bool.false_eq_true]
    by_cases e : j = i
    · subst e; simp
    · simp only [e, decide_false, Bool.not_false, Bool.true_and]; exact decide_eq_decide.2 (by omega)
  · simp only [lv, pick, if_true]
    by_cases e : j = n - 1 - i
    · rw [decide_eq_true e]; simp; omega
    · simp only [e, decide_false, Bool.not_false, Bool.true_and]; exact decide_eq_decide.2 (by omega)
end Go.Proofs.YtbdmhdidehfmoaaDoor

namespace Go.Proofs.YtbdmhdidehfmoaaDoor
open Go.Ev

theorem r6_12_eq {call : CallT} {L : Nat} {tm : T Value} {h : H} {K : KE} {mv : Nat} (hm : mv ≤ 4) (t8 : tg tm 8 = .int .i64 0) (t10 : tg tm 10 = .int .i64 0) (t9 : tg tm 9 = .int .i64 (mv : Int)) :
    r6_12 call L tm [] h K = K .norm (T.set tm 60 (.bool false)) [] h := by
  have h2 : ¬ (4 : Int) < (mv : Int) := by omega
  simp only [↓opStep_eq, ↓reduceIte, ↓EW, EV, Nat.reduceAdd, Nat.reduceEqDiff, Int.reduceEq, Int.reduceLT, Int.reduceLE, Int.reduceNe, seqC, retC, skipC, exitC, blockC, condC, Bool.true_or, Bool.false_or, Bool.or_true, Bool.or_false, Bool.true_and, Bool.false_and, Bool.and_true, Bool.and_false, r6_12, t8, t9, t10, h2]
theorem r6_29_eq {call : CallT} {L : Nat} {tm : T Value} {h : H} {K : KE} {k : Nat} (t18 : tg tm 18 = .int .i64 0) (t17 : tg tm 17 = .bool true) (t16 : tg tm 16 = .int .i64 (k : Int)) (t15 : tg tm 15 = .int .i64 (k : Int)) :
    r6_29 call L tm [] h K = K .norm (T.set tm 120 (.bool false)) [] h := by
  simp only [↓opStep_eq, ↓reduceIte, ↓EW, EV, Nat.reduceAdd, Nat.reduceEqDiff, Int.reduceEq, Int.reduceLT, Int.reduceLE, Int.reduceNe, seqC, retC, skipC, exitC, blockC, condC, Bool.true_or, Bool.false_or, Bool.or_true, Bool.or_false, Bool.true_and, Bool.false_and, Bool.and_true, Bool.and_false, r6_29, t18, t17, t16, t15]
theorem r6_33_eq {call : CallT} {L : Nat} {tm : T Value} {h : H} {K : KE} {mv : Nat} (hm : mv ≤ 4) (t20 : tg tm 20 = .int .i64 0) (t19 : tg tm 19 = .bool true) (t22 : tg tm 22 = .int .i64 0) (t21 : tg tm 21 = .int .i64 (mv : Int)) :
    r6_33 call L tm [] h K = K .norm (T.set tm 146 (.bool false)) [] h := by
  have h2 : ¬ (4 : Int) < (mv : Int) := by omega
  simp only [↓opStep_eq, ↓reduceIte, ↓EW, EV, Nat.reduceAdd, Nat.reduceEqDiff, Int.reduceEq, Int.reduceLT, Int.reduceLE, Int.reduceNe, seqC, retC, skipC, exitC, blockC, condC, Bool.true_or, Bool.false_or, Bool.or_true, Bool.or_false, Bool.true_and, Bool.false_and, Bool.and_true, Bool.and_false, r6_33, t20, t19, t22, t21, h2]
theorem r6_4_eq {call : CallT} {L : Nat} {tm : T Value} {h : H} {K : KE} {z : Int} (t0 : tg tm 0 = .int .i64 z) : r6_4 call L tm [] h K = K .norm (T.set tm 33 (.bool (decide (z < 0 ∨ 3000 < z)))) [] h := by
  by_cases h1 : z < 0
  · simp only [↓opStep_eq, ↓reduceIte, ↓EW, EV, Nat.reduceAdd, Nat.reduceEqDiff, Int.reduceEq, Int.reduceLT, Int.reduceLE, Int.reduceNe, seqC, retC, skipC, exitC, blockC, condC, Bool.true_or, Bool.false_or, Bool.or_true, Bool.or_false, Bool.true_and, Bool.false_and, Bool.and_true, Bool.and_false, r6_4, t0, h1, true_or]
  · by_cases h2 : (3000 : Int) < z
    · simp only [↓opStep_eq, ↓reduceIte, ↓EW, EV, Nat.reduceAdd, Nat.reduceEqDiff, Int.reduceEq, Int.reduceLT, Int.reduceLE, Int.reduceNe, seqC, retC, skipC, exitC, blockC, condC, Bool.true_or, Bool.false_or, Bool.or_true, Bool.or_false, Bool.true_and, Bool.false_and, Bool.and_true, Bool.and_false, r6_4, t0, h1, h2, or_true]
    · simp only [↓opStep_eq, ↓reduceIte, ↓EW, EV, Nat.reduceAdd, Nat.reduceEqDiff, Int.reduceEq, Int.reduceLT, Int.reduceLE, Int.reduceNe, seqC, retC, skipC, exitC, blockC, condC, Bool.true_or, Bool.false_or, Bool.or_true, Bool.or_false, Bool.true_and, Bool.false_and, Bool.and_true, Bool.and_false, r6_4, t0, h1, h2, or_false]

/-- the temporaries that stay -/
structure Tg (n b : Nat) (back : Bool) (tm : T Value) : Prop where
  t0 : tg tm 0 = .int .i64 (n : Int)
  t1 : tg tm 1 = .bool back
  t5 : tg tm 5 = .bool true
  t6 : tg tm 6 = .pointer (some ⟨b, 0, none⟩)
theorem Tg.set {n b : Nat} {back : Bool} {tm : T Value} (x : Tg n b back tm) {j : Nat} {w : Value} (hj : j ≠ 0 ∧ j ≠ 1 ∧ j ≠ 5 ∧ j ≠ 6) : Tg n b back (T.set tm j w) := by
  obtain ⟨x0, x1, x2, x4⟩ := x
  refine ⟨?_, ?_, ?_, ?_⟩
  · rw [tg_set, if_neg hj.1]; exact x0
  · rw [tg_set, if_neg hj.2.1]; exact x1
  · rw [tg_set, if_neg hj.2.2.1]; exact x2
  · rw [tg_set, if_neg hj.2.2.2]; exact x4

/-- the names are put -/
theorem grow_loop (L m : Nat) (hL : 300000 < L) {h0 hx : H} {O : Nat → Tag} {n b : Nat} {back : Bool} (hn : n ≤ 3000) (gl0 : Gl h0) (k0 : Keep nobody h0 hx) (ho : ∀ c, c < h0.next → O c = .other) (st : St 3001 O hx b [] 0) (tm : T Value) (x : Tg n b back tm) (t7 : tg tm 7 = .int .i64 0) (Q : Ex → T Value → H → Prop)
    (hQ : ∀ O' mv h' tm', Keep nobody h0 h' → (∀ c, c < h0.next → O' c = .other) → St 3001 O' h' b (gl n) mv → Tg n b back tm' → Q .norm tm' h') :
    C ⟨blockC 0 (loopB l6_14)⟩ (CF L (m + 27)) L tm hx Q := by
  refine C.block (C.loop (fun k tm' hy => ∃ i O mv, k = n - i ∧ i ≤ n ∧ Keep nobody h0 hy ∧ (∀ c, c < h0.next → O c = .other) ∧ St 3001 O hy b (gl i) mv ∧ Tg n b back tm' ∧ tg tm' 7 = .int .i64 (i : Int)) n (by omega)
    ⟨0, O, 0, rfl, by omega, k0, ho, st, x, t7⟩ ?_)
  clear x t7 st ho k0
  rintro k tm hy ⟨i, O, mv, rfl, hi, ky, ho, st, x, t7⟩
  unfold l6_14
  refine C.seq (C.seq fun K hK => ?_)
  simp only [↓opStep_eq, ↓reduceIte, ↓EW, EV, Nat.reduceAdd, Nat.reduceEqDiff, Int.reduceEq, Int.reduceLT, Int.reduceLE, Int.reduceNe, seqC, retC, skipC, exitC, blockC, condC, r6_8, t7, x.t0]
  refine hK _ _ _ (C.cond (decide ((i : Int) < (n : Int))) (by simp only [↓opStep_eq, ↓reduceIte, ↓EW, EV, Nat.reduceAdd, Nat.reduceEqDiff, Int.reduceEq, Int.reduceLT, Int.reduceLE, Int.reduceNe, seqC, retC, skipC, exitC, blockC, condC]) (fun g => C.skip ?_) fun g => C.exit ?_)
  · have gi : i < n := by have := of_decide_eq_true g; omega
    have hval : validN (tOf i) (nm i) := nm_valid _
    refine C.seq (C.block (C.seq fun K hK => ?_))
    simp only [↓opStep_eq, ↓reduceIte, ↓EW, EV, Nat.reduceAdd, Nat.reduceEqDiff, Int.reduceEq, Int.reduceLT, Int.reduceLE, Int.reduceNe, seqC, retC, skipC, exitC, blockC, condC, r6_10, t7, x.t6]
    refine many_law L (m + 25) i (by omega) hy _ fun r h1 hq => ?_
    obtain ⟨rfl, k1⟩ := hq
    have en : nameV ((i % 4 : Nat) : Int) (nm i) = nameV (tOf i) (nm i) := rfl
    rw [en]
    refine put_T L (m + 22) 3001 (by decide) hL (st.keep0 k1) hval (i : Int) (by rw [gl_len]; omega) _ fun r h2 hq => ?_
    obtain ⟨O2, mv2, st2, hm2, fr2, rfl⟩ := hq
    rw [gl_without i (by omega)] at st2
    obtain ⟨k02, ho2⟩ := base_step (ky.then k1) ho fr2
    refine hK _ _ _ (C.seq fun K hK => ?_)
    simp only [↓opStep_eq, ↓reduceIte, ↓EW, EV, Nat.reduceAdd, Nat.reduceEqDiff, Int.reduceEq, Int.reduceLT, Int.reduceLE, Int.reduceNe, seqC, retC, skipC, exitC, blockC, condC, r6_11, x.t6]
    refine moved_law L (m + 25) 3001 st2 (gl0.keep0 k02) _ fun r h3 hq => ?_
    obtain ⟨rfl, k3⟩ := hq
    simp only [↓opStep_eq, ↓reduceIte, ↓EW, EV, Nat.reduceAdd, Nat.reduceEqDiff, Int.reduceEq, Int.reduceLT, Int.reduceLE, Int.reduceNe, seqC, retC, skipC, exitC, blockC, condC, tupNth_tuple]
    refine hK _ _ _ (C.seq fun K hK => ?_)
    rw [show ∀ x : CodeT, (⟨x⟩ : Box CodeT).f = x from fun _ => rfl]
    rw [r6_12_eq hm2 (by simp only [↓opStep_eq, ↓reduceIte, ↓EW, EV, Nat.reduceAdd, Nat.reduceEqDiff, Int.reduceEq, Int.reduceLT, Int.reduceLE, Int.reduceNe, seqC, retC, skipC, exitC, blockC, condC]) (by simp only [↓opStep_eq, ↓reduceIte, ↓EW, EV, Nat.reduceAdd, Nat.reduceEqDiff, Int.reduceEq, Int.reduceLT, Int.reduceLE, Int.reduceNe, seqC, retC, skipC, exitC, blockC, condC]) (by simp only [↓opStep_eq, ↓reduceIte, ↓EW, EV, Nat.reduceAdd, Nat.reduceEqDiff, Int.reduceEq, Int.reduceLT, Int.reduceLE, Int.reduceNe, seqC, retC, skipC, exitC, blockC, condC])]
    refine hK _ _ _ (C.cond false (by simp only [↓opStep_eq, ↓reduceIte, ↓EW, EV, Nat.reduceAdd, Nat.reduceEqDiff, Int.reduceEq, Int.reduceLT, Int.reduceLE, Int.reduceNe, seqC, retC, skipC, exitC, blockC, condC]) (fun g => by cases g) fun g => C.skip fun K hK => ?_)
    have w := wadd1 i (by omega)
    simp only [↓opStep_eq, ↓reduceIte, ↓EW, EV, Nat.reduceAdd, Nat.reduceEqDiff, Int.reduceEq, Int.reduceLT, Int.reduceLE, Int.reduceNe, seqC, retC, skipC, exitC, blockC, condC, r6_9, t7, w]
    exact hK _ _ _ ⟨n - (i + 1), by omega, i + 1, O2, mv2, rfl, by omega, k02.then k3, ho2, st2.keep0 k3, (x.set (by omega)).set (by omega) |>.set (by omega) |>.set (by omega) |>.set (by omega) |>.set (by omega), by simp only [↓opStep_eq, ↓reduceIte, ↓EW, EV, Nat.reduceAdd, Nat.reduceEqDiff, Int.reduceEq, Int.reduceLT, Int.reduceLE, Int.reduceNe, seqC, retC, skipC, exitC, blockC, condC]⟩
  · simp only [if_pos]
    have gi : i = n := by have := of_decide_eq_false g; omega
    subst gi
    exact hQ O mv hy _ ky ho st (x.set (by omega))

/-- they stand in order -/
theorem order_loop (L m : Nat) (hL : 300000 < L) {hx : H} {n b : Nat} {back : Bool} {v : Value} {f : Nat → Nm} {l : List Ent} (hl : l.length = n) (hn : n ≤ 3000) (aq : AllQ hx v l f) (tm : T Value) (x : Tg n b back tm) (t11 : tg tm 11 = v) (t13 : tg tm 13 = .int .i64 1) (Q : Ex → T Value → H → Prop)
    (hQ : ∀ h' tm', Keep nobody hx h' → Tg n b back tm' → Q .norm tm' h') :
    C ⟨blockC 2 (loopB l6_23)⟩ (CF L (m + 27)) L tm hx Q := by
  have hlen : lenSl v = some (.int .i64 (n : Int)) := by
    rcases aq.mem with ⟨rfl, e⟩ | ⟨B, a⟩
    · rw [← hl, e]; rfl
    · rw [← hl]; exact a.len
  refine C.block (C.loop (fun k tm' hy => ∃ i, k = n - i ∧ 1 ≤ i ∧ Keep nobody hx hy ∧ Tg n b back tm' ∧ tg tm' 11 = v ∧ tg tm' 13 = .int .i64 (i : Int)) (n - 1) (by omega)
    ⟨1, rfl, by omega, .refl _ _, x, t11, t13⟩ ?_)
  clear x t11 t13
  rintro k tm hy ⟨i, rfl, hi, ky, x, t11, t13⟩
  unfold l6_23
  refine C.seq (C.seq fun K hK => ?_)
  simp only [↓opStep_eq, ↓reduceIte, ↓EW, EV, Nat.reduceAdd, Nat.reduceEqDiff, Int.reduceEq, Int.reduceLT, Int.reduceLE, Int.reduceNe, seqC, retC, skipC, exitC, blockC, condC, r6_18, t11, t13, hlen]
  refine hK _ _ _ (C.cond (decide ((i : Int) < (n : Int))) (by simp only [↓opStep_eq, ↓reduceIte, ↓EW, EV, Nat.reduceAdd, Nat.reduceEqDiff, Int.reduceEq, Int.reduceLT, Int.reduceLE, Int.reduceNe, seqC, retC, skipC, exitC, blockC, condC]) (fun g => C.skip ?_) fun g => C.exit ?_)
  · have gi : i < n := by have := of_decide_eq_true g; omega
    obtain ⟨B, a⟩ : ∃ B, Arr hx B v l.length f := by
      rcases aq.mem with ⟨_, e⟩ | h
      · rw [e] at hl; simp at hl; omega
      · exact h
    rw [hl] at a
    have kr := ky.then (keep_room hy 11)
    have ar := a.keep0 kr
    have w := wsub1 i hi (by omega)
    have hlt := aq.so (i - 1) i (by omega) (by omega) (by omega)
    refine C.seq (C.block (C.seq fun K hK => ?_))
    simp only [↓opStep_eq, ↓reduceIte, ↓EW, EV, Nat.reduceAdd, Nat.reduceEqDiff, Int.reduceEq, Int.reduceLT, Int.reduceLE, Int.reduceNe, seqC, retC, skipC, exitC, blockC, condC, r6_20, t11, t13, w, ar.ix (show i - 1 < n by omega), ar.ix gi, ar.ld (show i - 1 < n by omega), ar.ld gi]
    refine less20_law L (m + 26) _ hlt _ fun r h3 hq => ?_
    obtain ⟨rfl, k3⟩ := hq
    simp only [↓opStep_eq, ↓reduceIte, ↓EW, EV, Nat.reduceAdd, Nat.reduceEqDiff, Int.reduceEq, Int.reduceLT, Int.reduceLE, Int.reduceNe, seqC, retC, skipC, exitC, blockC, condC]
    refine hK _ _ _ (C.cond false (by simp only [↓opStep_eq, ↓reduceIte, ↓EW, EV, Nat.reduceAdd, Nat.reduceEqDiff, Int.reduceEq, Int.reduceLT, Int.reduceLE, Int.reduceNe, seqC, retC, skipC, exitC, blockC, condC]) (fun g => by cases g) fun g => C.skip fun K hK => ?_)
    have w2 := wadd1 i (by omega)
    simp only [↓opStep_eq, ↓reduceIte, ↓EW, EV, Nat.reduceAdd, Nat.reduceEqDiff, Int.reduceEq, Int.reduceLT, Int.reduceLE, Int.reduceNe, seqC, retC, skipC, exitC, blockC, condC, r6_19, t13, w2]
    exact hK _ _ _ ⟨n - (i + 1), by omega, i + 1, rfl, by omega, kr.then k3, (x.set (by omega)).set (by omega) |>.set (by omega), by simp only [↓opStep_eq, ↓reduceIte, ↓EW, EV, Nat.reduceAdd, Nat.reduceEqDiff, Int.reduceEq, Int.reduceLT, Int.reduceLE, Int.reduceNe, seqC, retC, skipC, exitC, blockC, condC, t11], by simp only [↓opStep_eq, ↓reduceIte, ↓EW, EV, Nat.reduceAdd, Nat.reduceEqDiff, Int.reduceEq, Int.reduceLT, Int.reduceLE, Int.reduceNe, seqC, retC, skipC, exitC, blockC, condC]⟩
  · simp only [if_pos]
    exact hQ hy _ ky (x.set (by omega))

/-- they are taken out again -/
theorem shrink_loop (L m : Nat) (hL : 300000 < L) {h0 hx : H} {O : Nat → Tag} {n b mv0 : Nat} {back : Bool} (hn : n ≤ 3000) (gl0 : Gl h0) (k0 : Keep nobody h0 hx) (ho : ∀ c, c < h0.next → O c = .other) (st : St 3001 O hx b (rl back n 0) mv0) (tm : T Value) (x : Tg n b back tm) (t14 : tg tm 14 = .int .i64 0) (Q : Ex → T Value → H → Prop)
    (hQ : ∀ O' mv h' tm', Keep nobody h0 h' → (∀ c, c < h0.next → O' c = .other) → St 3001 O' h' b [] mv → Tg n b back tm' → Q .norm tm' h') :
    C ⟨blockC 4 (loopB l6_37)⟩ (CF L (m + 27)) L tm hx Q := by
  refine C.block (C.loop (fun k tm' hy => ∃ i O mv, k = n - i ∧ i ≤ n ∧ Keep nobody h0 hy ∧ (∀ c, c < h0.next → O c = .other) ∧ St 3001 O hy b (rl back n i) mv ∧ Tg n b back tm' ∧ tg tm' 14 = .int .i64 (i : Int)) n (by omega)
    ⟨0, O, mv0, rfl, by omega, k0, ho, st, x, t14⟩ ?_)
  clear x t14 st ho k0
  rintro k tm hy ⟨i, O, mv, rfl, hi, ky, ho, st, x, t14⟩
  unfold l6_37
  refine C.seq (C.seq fun K hK => ?_)
  simp only [↓opStep_eq, ↓reduceIte, ↓EW, EV, Nat.reduceAdd, Nat.reduceEqDiff, Int.reduceEq, Int.reduceLT, Int.reduceLE, Int.reduceNe, seqC, retC, skipC, exitC, blockC, condC, r6_23, t14, x.t0]
  refine hK _ _ _ (C.cond (decide ((i : Int) < (n : Int))) (by simp only [↓opStep_eq, ↓reduceIte, ↓EW, EV, Nat.reduceAdd, Nat.reduceEqDiff, Int.reduceEq, Int.reduceLT, Int.reduceLE, Int.reduceNe, seqC, retC, skipC, exitC, blockC, condC]) (fun g => C.skip ?_) fun g => C.exit ?_)
  · have gi : i < n := by have := of_decide_eq_true g; omega
    have hpl := pick_lt (back := back) gi
    have hval : validN (tOf (pick back n i)) (nm (pick back n i)) := nm_valid _
    -- behind the choice of the name
    have behind : ∀ (tm1 : T Value) (Q' : Ex → T Value → Ev.H → Prop), Tg n b back tm1 → tg tm1 14 = .int .i64 (i : Int) → tg tm1 15 = .int .i64 ((pick back n i : Nat) : Int) → (∀ O' mv' h' tm', Keep nobody h0 h' → (∀ c, c < h0.next → O' c = .other) → St 3001 O' h' b (rl back n (i + 1)) mv' → Tg n b back tm' → tg tm' 14 = .int .i64 (i : Int) → Q' .norm tm' h') →
        C ⟨seqC ⟨r6_28⟩ ⟨seqC ⟨seqC ⟨r6_29⟩ ⟨condC ⟨fun _ tm => tg tm 120⟩ ⟨seqC ⟨r6_30⟩ retC⟩ skipC⟩⟩ ⟨seqC ⟨r6_31⟩ ⟨seqC ⟨r6_32⟩ ⟨seqC ⟨r6_33⟩ ⟨condC ⟨fun _ tm => tg tm 146⟩ ⟨seqC ⟨r6_34⟩ retC⟩ skipC⟩⟩⟩⟩⟩⟩ (CF L (m + 27)) L tm1 hy Q' := fun tm1 Q' x1 u14 u15 hQ' => by
      refine C.seq fun K hK => ?_
      simp only [↓opStep_eq, ↓reduceIte, ↓EW, EV, Nat.reduceAdd, Nat.reduceEqDiff, Int.reduceEq, Int.reduceLT, Int.reduceLE, Int.reduceNe, seqC, retC, skipC, exitC, blockC, condC, r6_28, u15, x1.t6]
      refine many_law L (m + 25) (pick back n i) (by omega) hy _ fun r h1 hq => ?_
      obtain ⟨rfl, k1⟩ := hq
      have en : nameV ((pick back n i % 4 : Nat) : Int) (nm (pick back n i)) = nameV (tOf (pick back n i)) (nm (pick back n i)) := rfl
      rw [en]
      refine get_law L (m + 22) 3001 (by decide) hL (st.keep0 k1) hval _ fun r h2 hq => ?_
      obtain ⟨O2, mv2, st2, hm2, fr2, gq⟩ := hq
      obtain ⟨k02, ho2⟩ := base_step (ky.then k1) ho fr2
      have hr : r = .tuple [.int .i64 ((pick back n i : Nat) : Int), .bool true, .int .i64 0].toArray := by
        rcases gq with ⟨e, he, hm, rfl⟩ | ⟨no, _⟩
        · rw [rl_of (by omega) gi he hm]; rfl
        · exact absurd ((is_g (by omega) (by omega)).2 rfl) (no _ (rl_mem gi))
      subst hr
      simp only [↓opStep_eq, ↓reduceIte, ↓EW, EV, Nat.reduceAdd, Nat.reduceEqDiff, Int.reduceEq, Int.reduceLT, Int.reduceLE, Int.reduceNe, seqC, retC, skipC, exitC, blockC, condC, tupNth_tuple]
      refine hK _ _ _ (C.seq (C.seq fun K hK => ?_))
      rw [show ∀ x : CodeT, (⟨x⟩ : Box CodeT).f = x from fun _ => rfl]
      rw [r6_29_eq (k := pick back n i) (by simp only [↓opStep_eq, ↓reduceIte, ↓EW, EV, Nat.reduceAdd, Nat.reduceEqDiff, Int.reduceEq, Int.reduceLT, Int.reduceLE, Int.reduceNe, seqC, retC, skipC, exitC, blockC, condC]) (by simp only [↓opStep_eq, ↓reduceIte, ↓EW, EV, Nat.reduceAdd, Nat.reduceEqDiff, Int.reduceEq, Int.reduceLT, Int.reduceLE, Int.reduceNe, seqC, retC, skipC, exitC, blockC, condC]) (by simp only [↓opStep_eq, ↓reduceIte, ↓EW, EV, Nat.reduceAdd, Nat.reduceEqDiff, Int.reduceEq, Int.reduceLT, Int.reduceLE, Int.reduceNe, seqC, retC, skipC, exitC, blockC, condC]) (by simp only [↓opStep_eq, ↓reduceIte, ↓EW, EV, Nat.reduceAdd, Nat.reduceEqDiff, Int.reduceEq, Int.reduceLT, Int.reduceLE, Int.reduceNe, seqC, retC, skipC, exitC, blockC, condC, u15])]
      refine hK _ _ _ (C.cond false (by simp only [↓opStep_eq, ↓reduceIte, ↓EW, EV, Nat.reduceAdd, Nat.reduceEqDiff, Int.reduceEq, Int.reduceLT, Int.reduceLE, Int.reduceNe, seqC, retC, skipC, exitC, blockC, condC]) (fun g => by cases g) fun g => C.skip (C.seq fun K hK => ?_))
      simp only [↓opStep_eq, ↓reduceIte, ↓EW, EV, Nat.reduceAdd, Nat.reduceEqDiff, Int.reduceEq, Int.reduceLT, Int.reduceLE, Int.reduceNe, seqC, retC, skipC, exitC, blockC, condC, r6_31, u15, x1.t6]
      refine many_law L (m + 25) (pick back n i) (by omega) h2 _ fun r h3 hq => ?_
      obtain ⟨rfl, k3⟩ := hq
      rw [en]
      refine del_T L (m + 22) 3001 (by decide) hL (st2.keep0 k3) hval _ fun r h4 hq => ?_
      obtain ⟨O4, mv4, d, st4, hm4, fr4, rfl, dr⟩ := hq
      rw [rl_succ (by omega) gi] at st4
      obtain ⟨k04, ho4⟩ := base_step (k02.then k3) ho2 fr4
      have hd : d = true := by
        rcases dr with ⟨h, _⟩ | ⟨_, no⟩
        · exact h
        · exact absurd ((is_g (by omega) (by omega)).2 rfl) (no _ (rl_mem gi))
      subst hd
      simp only [↓opStep_eq, ↓reduceIte, ↓EW, EV, Nat.reduceAdd, Nat.reduceEqDiff, Int.reduceEq, Int.reduceLT, Int.reduceLE, Int.reduceNe, seqC, retC, skipC, exitC, blockC, condC, tupNth_tuple]
      refine hK _ _ _ (C.seq fun K hK => ?_)
      simp only [↓opStep_eq, ↓reduceIte, ↓EW, EV, Nat.reduceAdd, Nat.reduceEqDiff, Int.reduceEq, Int.reduceLT, Int.reduceLE, Int.reduceNe, seqC, retC, skipC, exitC, blockC, condC, r6_32, x1.t6]
      refine moved_law L (m + 25) 3001 st4 (gl0.keep0 k04) _ fun r h5 hq => ?_
      obtain ⟨rfl, k5⟩ := hq
      simp only [↓opStep_eq, ↓reduceIte, ↓EW, EV, Nat.reduceAdd, Nat.reduceEqDiff, Int.reduceEq, Int.reduceLT, Int.reduceLE, Int.reduceNe, seqC, retC, skipC, exitC, blockC, condC, tupNth_tuple]
      refine hK _ _ _ (C.seq fun K hK => ?_)
      rw [show ∀ x : CodeT, (⟨x⟩ : Box CodeT).f = x from fun _ => rfl]
      rw [r6_33_eq hm4 (by simp only [↓opStep_eq, ↓reduceIte, ↓EW, EV, Nat.reduceAdd, Nat.reduceEqDiff, Int.reduceEq, Int.reduceLT, Int.reduceLE, Int.reduceNe, seqC, retC, skipC, exitC, blockC, condC]) (by simp only [↓opStep_eq, ↓reduceIte, ↓EW, EV, Nat.reduceAdd, Nat.reduceEqDiff, Int.reduceEq, Int.reduceLT, Int.reduceLE, Int.reduceNe, seqC, retC, skipC, exitC, blockC, condC]) (by simp only [↓opStep_eq, ↓reduceIte, ↓EW, EV, Nat.reduceAdd, Nat.reduceEqDiff, Int.reduceEq, Int.reduceLT, Int.reduceLE, Int.reduceNe, seqC, retC, skipC, exitC, blockC, condC]) (by simp only [↓opStep_eq, ↓reduceIte, ↓EW, EV, Nat.reduceAdd, Nat.reduceEqDiff, Int.reduceEq, Int.reduceLT, Int.reduceLE, Int.reduceNe, seqC, retC, skipC, exitC, blockC, condC])]
      refine hK _ _ _ (C.cond false (by simp only [↓opStep_eq, ↓reduceIte, ↓EW, EV, Nat.reduceAdd, Nat.reduceEqDiff, Int.reduceEq, Int.reduceLT, Int.reduceLE, Int.reduceNe, seqC, retC, skipC, exitC, blockC, condC]) (fun g => by cases g) fun g => C.skip ?_)
      refine hQ' O4 mv4 h5 _ (k04.then k5) ho4 (st4.keep0 k5) ((((((((((x1.set (by omega)).set (by omega)).set (by omega)).set (by omega)).set (by omega)).set (by omega)).set (by omega)).set (by omega)).set (by omega))) ?_
      simp only [↓opStep_eq, ↓reduceIte, ↓EW, EV, Nat.reduceAdd, Nat.reduceEqDiff, Int.reduceEq, Int.reduceLT, Int.reduceLE, Int.reduceNe, seqC, retC, skipC, exitC, blockC, condC, u14]
    -- the next one
    have again : ∀ O' mv' h' tm' (Q' : Ex → T Value → Ev.H → Prop), Keep nobody h0 h' → (∀ c, c < h0.next → O' c = .other) → St 3001 O' h' b (rl back n (i + 1)) mv' → Tg n b back tm' → tg tm' 14 = .int .i64 (i : Int) → (∀ tm2, (∃ k', k' < n - i ∧ ∃ i O mv, k' = n - i ∧ i ≤ n ∧ Keep nobody h0 h' ∧ (∀ c, c < h0.next → O c = .other) ∧ St 3001 O h' b (rl back n i) mv ∧ Tg n b back tm2 ∧ tg tm2 14 = .int .i64 (i : Int)) → Q' .norm tm2 h') → C ⟨r6_24⟩ (CF L (m + 27)) L tm' h' Q' := fun O' mv' h' tm' Q' kk hoo sst xx u14 hQ' => by
      intro K hK
      have w := wadd1 i (by omega)
      simp only [↓opStep_eq, ↓reduceIte, ↓EW, EV, Nat.reduceAdd, Nat.reduceEqDiff, Int.reduceEq, Int.reduceLT, Int.reduceLE, Int.reduceNe, seqC, retC, skipC, exitC, blockC, condC, r6_24, u14, w]
      exact hK _ _ _ (hQ' _ ⟨n - (i + 1), by omega, i + 1, O', mv', rfl, by omega, kk, hoo, sst, xx.set (by omega), by simp only [↓opStep_eq, ↓reduceIte, ↓EW, EV, Nat.reduceAdd, Nat.reduceEqDiff, Int.reduceEq, Int.reduceLT, Int.reduceLE, Int.reduceNe, seqC, retC, skipC, exitC, blockC, condC]⟩)
    refine C.seq (C.block (C.seq fun K hK => ?_))
    simp only [↓opStep_eq, ↓reduceIte, ↓EW, EV, Nat.reduceAdd, Nat.reduceEqDiff, Int.reduceEq, Int.reduceLT, Int.reduceLE, Int.reduceNe, seqC, retC, skipC, exitC, blockC, condC, r6_25, t14]
    refine hK _ _ _ (C.seq (C.seq fun K hK => ?_))
    simp only [↓opStep_eq, ↓reduceIte, ↓EW, EV, Nat.reduceAdd, Nat.reduceEqDiff, Int.reduceEq, Int.reduceLT, Int.reduceLE, Int.reduceNe, seqC, retC, skipC, exitC, blockC, condC, r6_26, x.t1]
    refine hK _ _ _ (C.cond back (by simp only [↓opStep_eq, ↓reduceIte, ↓EW, EV, Nat.reduceAdd, Nat.reduceEqDiff, Int.reduceEq, Int.reduceLT, Int.reduceLE, Int.reduceNe, seqC, retC, skipC, exitC, blockC, condC]) (fun gb => fun K hK => ?_) fun gb => C.skip ?_)
    · subst gb
      have w1 := wsub1 n (by omega) (by omega)
      have w2 := wsub (n - 1) i (by omega) (by omega)
      simp only [↓opStep_eq, ↓reduceIte, ↓EW, EV, Nat.reduceAdd, Nat.reduceEqDiff, Int.reduceEq, Int.reduceLT, Int.reduceLE, Int.reduceNe, seqC, retC, skipC, exitC, blockC, condC, r6_27, t14, x.t0, w1, w2]
      refine hK _ _ _ (behind _ _ ((((x.set (by omega)).set (by omega)).set (by omega)).set (by omega)) ?_ ?_ fun O' mv' h' tm' kk hoo sst xx u14 => again O' mv' h' tm' _ kk hoo sst xx u14 fun tm2 hh => hh)
      · simp only [↓opStep_eq, ↓reduceIte, ↓EW, EV, Nat.reduceAdd, Nat.reduceEqDiff, Int.reduceEq, Int.reduceLT, Int.reduceLE, Int.reduceNe, seqC, retC, skipC, exitC, blockC, condC, t14]
      · simp only [↓opStep_eq, ↓reduceIte, ↓EW, EV, Nat.reduceAdd, Nat.reduceEqDiff, Int.reduceEq, Int.reduceLT, Int.reduceLE, Int.reduceNe, seqC, retC, skipC, exitC, blockC, condC]; rfl
    · subst gb
      refine behind _ _ (((x.set (by omega)).set (by omega)).set (by omega)) ?_ ?_ fun O' mv' h' tm' kk hoo sst xx u14 => again O' mv' h' tm' _ kk hoo sst xx u14 fun tm2 hh => hh
      · simp only [↓opStep_eq, ↓reduceIte, ↓EW, EV, Nat.reduceAdd, Nat.reduceEqDiff, Int.reduceEq, Int.reduceLT, Int.reduceLE, Int.reduceNe, seqC, retC, skipC, exitC, blockC, condC, t14]
      · simp only [↓opStep_eq, ↓reduceIte, ↓EW, EV, Nat.reduceAdd, Nat.reduceEqDiff, Int.reduceEq, Int.reduceLT, Int.reduceLE, Int.reduceNe, seqC, retC, skipC, exitC, blockC, condC]; rfl
  · simp only [if_pos]
    have gi : i = n := by have := of_decide_eq_false g; omega
    subst gi
    rw [rl_end] at st
    exact hQ O mv hy _ ky ho st (x.set (by omega))

/-- THE LAW -/
theorem grows_law (L m : Nat) (hL : 300000 < L) (z : Int) (back : Bool) (h : H) (gl0 : Gl h) : Sp (CF L (m + 28)) 6 [.int .i64 z, .bool back] h fun r h' => r = .bool true := by
  refine Sp.body f6 (by simp) ?_
  unfold c6
  refine C.seq fun K hK => hK .norm _ _ (C.seq fun K hK => ?_)
  simp only [↓opStep_eq, ↓reduceIte, ↓EW, EV, Nat.reduceAdd, Nat.reduceEqDiff, Int.reduceEq, Int.reduceLT, Int.reduceLE, Int.reduceNe, seqC, retC, skipC, exitC, blockC, condC, r6_1]
  refine alive_law L (m + 21) hL h gl0 _ fun r h1 hq => ?_
  obtain ⟨rfl, k1⟩ := hq
  refine hK _ _ _ (C.seq (C.seq fun K hK => ?_))
  simp only [↓opStep_eq, ↓reduceIte, ↓EW, EV, Nat.reduceAdd, Nat.reduceEqDiff, Int.reduceEq, Int.reduceLT, Int.reduceLE, Int.reduceNe, seqC, retC, skipC, exitC, blockC, condC, Bool.true_or, Bool.false_or, Bool.or_true, Bool.or_false, Bool.true_and, Bool.false_and, Bool.and_true, Bool.and_false, r6_2]
  refine hK _ _ _ (C.cond false (by simp only [↓opStep_eq, ↓reduceIte, ↓EW, EV, Nat.reduceAdd, Nat.reduceEqDiff, Int.reduceEq, Int.reduceLT, Int.reduceLE, Int.reduceNe, seqC, retC, skipC, exitC, blockC, condC]) (fun g => by cases g) fun g => C.skip (C.seq (C.seq fun K hK => ?_)))
  rw [show ∀ x : CodeT, (⟨x⟩ : Box CodeT).f = x from fun _ => rfl]
  rw [r6_4_eq (z := z) (by simp only [↓opStep_eq, ↓reduceIte, ↓EW, EV, Nat.reduceAdd, Nat.reduceEqDiff, Int.reduceEq, Int.reduceLT, Int.reduceLE, Int.reduceNe, seqC, retC, skipC, exitC, blockC, condC])]
  refine hK _ _ _ (C.cond (decide (z < 0 ∨ 3000 < z)) (by simp only [↓opStep_eq, ↓reduceIte, ↓EW, EV, Nat.reduceAdd, Nat.reduceEqDiff, Int.reduceEq, Int.reduceLT, Int.reduceLE, Int.reduceNe, seqC, retC, skipC, exitC, blockC, condC]) (fun g => C.seq fun K hK => hK .norm _ _ (C.ret ⟨.inr rfl, _, rfl, ?_⟩)) fun g => C.skip ?_)
  · simp only [↓opStep_eq, ↓reduceIte, ↓EW, EV, Nat.reduceAdd, Nat.reduceEqDiff, Int.reduceEq, Int.reduceLT, Int.reduceLE, Int.reduceNe, seqC, retC, skipC, exitC, blockC, condC, resOf]
  · have g := of_decide_eq_false g
    obtain ⟨n, rfl⟩ : ∃ n : Nat, z = (n : Int) := ⟨z.toNat, by omega⟩
    have hn : n ≤ 3000 := by omega
    refine C.seq fun K hK => ?_
    simp only [↓opStep_eq, ↓reduceIte, ↓EW, EV, Nat.reduceAdd, Nat.reduceEqDiff, Int.reduceEq, Int.reduceLT, Int.reduceLE, Int.reduceNe, seqC, retC, skipC, exitC, blockC, condC, r6_6]
    refine new_law L (m + 26) 3001 h1 _ fun r h2 hq => ?_
    obtain ⟨O, b, rfl, st, k2, ho⟩ := hq
    have k02 := k1.then k2
    have ho' : ∀ c, c < h.next → O c = .other := fun c hc => ho c (Nat.lt_of_lt_of_le hc k1.next)
    refine hK _ _ _ (C.seq (C.seq fun K hK => hK .norm _ _ ?_))
    refine grow_loop L m hL hn gl0 k02 ho' st _ (back := back) ⟨by simp only [↓opStep_eq, ↓reduceIte, ↓EW, EV, Nat.reduceAdd, Nat.reduceEqDiff, Int.reduceEq, Int.reduceLT, Int.reduceLE, Int.reduceNe, seqC, retC, skipC, exitC, blockC, condC], by simp only [↓opStep_eq, ↓reduceIte, ↓EW, EV, Nat.reduceAdd, Nat.reduceEqDiff, Int.reduceEq, Int.reduceLT, Int.reduceLE, Int.reduceNe, seqC, retC, skipC, exitC, blockC, condC], by simp only [↓opStep_eq, ↓reduceIte, ↓EW, EV, Nat.reduceAdd, Nat.reduceEqDiff, Int.reduceEq, Int.reduceLT, Int.reduceLE, Int.reduceNe, seqC, retC, skipC, exitC, blockC, condC], by simp only [↓opStep_eq, ↓reduceIte, ↓EW, EV, Nat.reduceAdd, Nat.reduceEqDiff, Int.reduceEq, Int.reduceLT, Int.reduceLE, Int.reduceNe, seqC, retC, skipC, exitC, blockC, condC]⟩ (by simp only [↓opStep_eq, ↓reduceIte, ↓EW, EV, Nat.reduceAdd, Nat.reduceEqDiff, Int.reduceEq, Int.reduceLT, Int.reduceLE, Int.reduceNe, seqC, retC, skipC, exitC, blockC, condC]) _ fun O3 mv3 h3 tm3 k03 ho3 st3 x3 => ?_
    refine C.seq fun K hK => ?_
    simp only [↓opStep_eq, ↓reduceIte, ↓EW, EV, Nat.reduceAdd, Nat.reduceEqDiff, Int.reduceEq, Int.reduceLT, Int.reduceLE, Int.reduceNe, seqC, retC, skipC, exitC, blockC, condC, r6_14, x3.t6]
    refine all_law L m 3001 (by decide) hL st3 (gl0.keep0 k03) _ fun r h4 hq => ?_
    obtain ⟨v, f, rfl, aq, k4, _⟩ := hq
    have hlen : lenSl v = some (.int .i64 (n : Int)) := by
      rcases aq.mem with ⟨rfl, e⟩ | ⟨B, a⟩
      · have := gl_len n
        rw [e] at this
        rw [← this]; rfl
      · have := a.len
        rw [gl_len] at this; exact this
    simp only [↓opStep_eq, ↓reduceIte, ↓EW, EV, Nat.reduceAdd, Nat.reduceEqDiff, Int.reduceEq, Int.reduceLT, Int.reduceLE, Int.reduceNe, seqC, retC, skipC, exitC, blockC, condC, tupNth_tuple]
    refine hK _ _ _ (C.seq (C.seq fun K hK => ?_))
    simp only [↓opStep_eq, ↓reduceIte, ↓EW, EV, Nat.reduceAdd, Nat.reduceEqDiff, Int.reduceEq, Int.reduceLT, Int.reduceLE, Int.reduceNe, seqC, retC, skipC, exitC, blockC, condC, Bool.true_or, Bool.false_or, Bool.or_true, Bool.or_false, Bool.true_and, Bool.false_and, Bool.and_true, Bool.and_false, r6_15, x3.t0, hlen]
    refine hK _ _ _ (C.cond false (by simp only [↓opStep_eq, ↓reduceIte, ↓EW, EV, Nat.reduceAdd, Nat.reduceEqDiff, Int.reduceEq, Int.reduceLT, Int.reduceLE, Int.reduceNe, seqC, retC, skipC, exitC, blockC, condC]) (fun g => by cases g) fun g => C.skip (C.seq (C.seq fun K hK => hK .norm _ _ ?_)))
    have x4 : Tg n b back ((tm3.set 11 v).set 12 (.int .i64 0) |>.set 73 (.bool false)) := ((x3.set (by omega)).set (by omega)).set (by omega)
    refine order_loop L m hL (gl_len n) hn aq _ (x4.set (by omega)) (by simp only [↓opStep_eq, ↓reduceIte, ↓EW, EV, Nat.reduceAdd, Nat.reduceEqDiff, Int.reduceEq, Int.reduceLT, Int.reduceLE, Int.reduceNe, seqC, retC, skipC, exitC, blockC, condC]) (by simp only [↓opStep_eq, ↓reduceIte, ↓EW, EV, Nat.reduceAdd, Nat.reduceEqDiff, Int.reduceEq, Int.reduceLT, Int.reduceLE, Int.reduceNe, seqC, retC, skipC, exitC, blockC, condC]) _ fun h5 tm5 k5 x5 => ?_
    refine C.seq (C.seq fun K hK => hK .norm _ _ ?_)
    have k05 := (k03.then k4).then k5
    have st5 : St 3001 O3 h5 b (rl back n 0) mv3 := by
      rw [rl_zero]
      exact ((st3.keep0 k4).keep0 k5).perm (gl_perm n)
    refine shrink_loop L m hL hn gl0 k05 ho3 st5 _ (x5.set (by omega)) (by simp only [↓opStep_eq, ↓reduceIte, ↓EW, EV, Nat.reduceAdd, Nat.reduceEqDiff, Int.reduceEq, Int.reduceLT, Int.reduceLE, Int.reduceNe, seqC, retC, skipC, exitC, blockC, condC]) _ fun O6 mv6 h6 tm6 k06 ho6 st6 x6 => ?_
    refine C.seq fun K hK => ?_
    simp only [↓opStep_eq, ↓reduceIte, ↓EW, EV, Nat.reduceAdd, Nat.reduceEqDiff, Int.reduceEq, Int.reduceLT, Int.reduceLE, Int.reduceNe, seqC, retC, skipC, exitC, blockC, condC, r6_35, x6.t6]
    refine len_law L (m + 25) 3001 (by decide) st6 (gl0.keep0 k06) _ fun r h7 hq => ?_
    obtain ⟨rfl, k7⟩ := hq
    have e0 : (([] : List Ent).length : Int) = 0 := rfl
    rw [e0]
    simp only [↓opStep_eq, ↓reduceIte, ↓EW, EV, Nat.reduceAdd, Nat.reduceEqDiff, Int.reduceEq, Int.reduceLT, Int.reduceLE, Int.reduceNe, seqC, retC, skipC, exitC, blockC, condC, tupNth_tuple]
    refine hK _ _ _ (C.seq fun K hK => ?_)
    simp only [↓opStep_eq, ↓reduceIte, ↓EW, EV, Nat.reduceAdd, Nat.reduceEqDiff, Int.reduceEq, Int.reduceLT, Int.reduceLE, Int.reduceNe, seqC, retC, skipC, exitC, blockC, condC, Bool.true_or, Bool.false_or, Bool.or_true, Bool.or_false, Bool.true_and, Bool.false_and, Bool.and_true, Bool.and_false, r6_36, x6.t5]
    exact hK _ _ _ (C.ret ⟨.inr rfl, _, rfl, by simp only [↓opStep_eq, ↓reduceIte, ↓EW, EV, Nat.reduceAdd, Nat.reduceEqDiff, Int.reduceEq, Int.reduceLT, Int.reduceLE, Int.reduceNe, seqC, retC, skipC, exitC, blockC, condC, resOf]⟩)
end Go.Proofs.YtbdmhdidehfmoaaDoor

set_option maxRecDepth 100000
namespace Go.Proofs.YtbdmhdidehfmoaaDoor
open Go.Ev Go.RowKit

theorem v3 : Tryd.prog.underlying 3 = some (.int .i64) := by kernel_rfl
theorem v4 : Tryd.prog.underlying 4 = some .bool := by kernel_rfl
theorem gor : NoGor Tryd.prog := noGor_of (by kernel_rfl)
theorem xok : XOK Tryd.prog outside := xok_cons Tryd.func56 (by kernel_rfl) (by kernel_rfl) (by kernel_rfl) xok_nil
theorem int_of {v : Value} {k : IntKind} {n : Int} (e : v.cells.toList = [.int k n]) : v = .int k n ∨ ∃ a, v = .agg a := by
  cases v with
  | agg a => exact .inr ⟨a, rfl⟩
  | int k' n' => exact .inl (by have : [Value.int k' n'] = [.int k n] := e; simpa using this)
  | _ => exact absurd e (by intro h; have := List.head_eq_of_cons_eq h; cases this)
theorem bool_of {v : Value} {b : Bool} (e : v.cells.toList = [.bool b]) : v = .bool b ∨ ∃ a, v = .agg a := by
  cases v with
  | agg a => exact .inr ⟨a, rfl⟩
  | bool b' => exact .inl (by have : [Value.bool b'] = [.bool b] := e; simpa using this)
  | _ => exact absurd e (by intro h; have := List.head_eq_of_cons_eq h; cases this)

section
variable {H : Type} {enc : TypeId × Value → H}
theorem int_at {W : World} {n : Nat} {v : Value} {x : DataW H × List MemPlace} (hok : Value.okWide Tryd.prog W .any 0 3 v) (h : DataW.trod enc Tryd.prog W 0 (fun _ => true) true n 3 v.cells.toList = some x) : ∃ z : Int, v = .int .i64 z := by
  obtain ⟨z, e, _⟩ := DataW.trod_int v3 h
  rcases int_of e with h | ⟨a, rfl⟩
  · exact ⟨z, h⟩
  · exfalso
    unfold Value.okWide at hok
    rw [v3] at hok
    unfold Cell.okWide at hok
    rw [v3] at hok
    unfold Cell.ok at hok
    rw [v3] at hok
    exact hok
theorem bool_at {W : World} {n : Nat} {v : Value} {x : DataW H × List MemPlace} (hok : Value.okWide Tryd.prog W .any 0 4 v) (h : DataW.trod enc Tryd.prog W 0 (fun _ => true) true n 4 v.cells.toList = some x) : ∃ b : Bool, v = .bool b := by
  obtain ⟨z, e, _⟩ := DataW.trod_bool v4 h
  rcases bool_of e with h | ⟨a, rfl⟩
  · exact ⟨z, h⟩
  · exfalso
    unfold Value.okWide at hok
    rw [v4] at hok
    unfold Cell.okWide at hok
    rw [v4] at hok
    unfold Cell.ok at hok
    rw [v4] at hok
    exact hok

/-- the walk -/
theorem tableGrows_walk {W : World} (g0 : W.cell? ⟨0, 0, none⟩ = some (.int .i64 0)) (g1 : W.cell? ⟨0, 1, none⟩ = some (.string kS)) (z : Int) (back : Bool) :
    Calls Tryd.prog 6 #[.int .i64 z, .bool back] W fun e W' => e = .returned (.bool true) ∧ Below W.heap.size W W' := by
  let og : Option (List Value × CB) := some ([.int .i64 0, .string kS], ⟨0, 0, 0, 0⟩)
  have hog : RosOk W ([.int .i64 0, .string kS], ⟨0, 0, 0, 0⟩) := ⟨World.block_lt_of_cell? W _ g0, fun j v hj => by
    match j, hj with
    | 0, hj => simp at hj; subst hj; exact ⟨g0, rfl⟩
    | 1, hj => simp at hj; subst hj; exact ⟨g1, rfl⟩
    | j + 2, hj => simp at hj⟩
  have r : Rel (rosσ [og]) (rosH [og]) W := ros_rel fun p' hp => by
    simp only [List.mem_cons, List.not_mem_nil, or_false] at hp
    have : p' = ([.int .i64 0, .string kS], ⟨0, 0, 0, 0⟩) := Option.some.inj hp
    subst this; exact hog
  have hg := ros_has (bs := [og]) (B := 0) (p := ([.int .i64 0, .string kS], ⟨0, 0, 0, 0⟩)) rfl
  exact calls_of_sp gor Tryd.checked.mixed xok Tryd.func6 (by kernel_rfl) (grows_law 400000 0 (by decide) z back (rosH [og]) hg.1) r (fun g hg' => ⟨⟨0, 0, 0, 0⟩, (by rw [show g = 0 from Nat.lt_one_iff.1 hg']; exact hg.2), (Nat.lt_one_iff.1 hg').symm, rfl⟩) (.cons (.int _ _) (.cons (.bool _) (.nil _))) ros_ro
end
end Go.Proofs.YtbdmhdidehfmoaaDoor
