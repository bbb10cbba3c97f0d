import Derived.Test.YtbdmhdidehfmoaaDoorTbM
set_option linter.unusedSimpArgs false
set_option linter.unusedVariables false
namespace Go.Proofs.YtbdmhdidehfmoaaDoor
open Go.Ev

theorem store2_new (h : H) (cs : List Value) (t : Int) (k : ByteArray) (hc : cs.length = 2) : storeV 2 (h.new (.rw cs)) (.pointer (some ⟨h.next, 0, none⟩)) (nameV t k) = some ((h.new (.rw cs)).put h.next (.rw [.int .i64 t, .string k])) := by
  have := store_new h 2 none cs (nameV t k) hc.symm (by simp) (by simp [ones])
  simpa using this
theorem load2 {h : H} {b : Nat} {t : Int} {k : ByteArray} (hb : Has h b (.rw [.int .i64 t, .string k])) (s) : loadAgg 2 h (.pointer (some ⟨b, 0, s⟩)) = some (nameV t k) := loadAgg_has hb rfl (by simp)

theorem name_law (L n : Nat) (t : Int) (k : ByteArray) (h : H) : Sp (CF L (n + 1)) 15 [.int .i64 t, .string k] h fun r h' => r = nameV t k ∧ Keep nobody h h' := by
  refine Sp.body f15 (by simp) ?_
  unfold c15
  have a2 : aggO (fill [(.int .i64 (0)), (.string (strB []))] (plc [(0, 1), (1, 1)]) [(0, (.int .i64 t)), (1, (.string k))]) = some (nameV t k) := rfl
  refine C.seq fun K hK => ?_
  simp only [↓opStep_eq, ↓reduceIte, ↓EW, EV, Nat.reduceAdd, Nat.reduceEqDiff, Int.reduceEq, Int.reduceLT, Int.reduceLE, Int.reduceNe, seqC, retC, skipC, exitC, blockC, condC, r15_0]
  refine hK _ _ _ (C.seq fun K hK => ?_)
  have s2 := store2_new h [.int .i64 0, .string (strB [])] t k rfl
  have k2 := keep_alloc h (.rw [.int .i64 0, .string (strB [])]) (.rw [.int .i64 t, .string k])
  have b2 := has_alloc h (.rw [.int .i64 0, .string (strB [])]) (.rw [.int .i64 t, .string k])
  simp only [↓opStep_eq, ↓reduceIte, ↓EW, EV, Nat.reduceAdd, Nat.reduceEqDiff, Int.reduceEq, Int.reduceLT, Int.reduceLE, Int.reduceNe, seqC, retC, skipC, exitC, blockC, condC, r15_1, a2, s2]
  generalize (h.new (.rw [.int .i64 0, .string (strB [])])).put h.next (.rw [.int .i64 t, .string k]) = h2 at *
  have ql : ∀ tm, tg tm 4 = .pointer (some ⟨h.next, 0, none⟩) → q15.f tm h2 = some [nameV t k] := fun tm ht => by
    show (match loadAgg 2 h2 (tg tm 4) with | some v => (match (some [] : Option (List Value)) with | some l => some (v :: l) | none => none) | none => none) = _
    rw [ht, load2 b2]
  exact hK _ _ _ (C.ret ⟨.inr rfl, _, ql _ (by simp only [↓opStep_eq, ↓reduceIte, ↓EW, EV, Nat.reduceAdd, Nat.reduceEqDiff, Int.reduceEq, Int.reduceLT, Int.reduceLE, Int.reduceNe, seqC, retC, skipC, exitC, blockC, condC]), rfl, k2⟩)

def nm (i : Nat) : ByteArray := ⟨[UInt8.ofNat (97 + i % 26), UInt8.ofNat (97 + i / 26 % 26), UInt8.ofNat (97 + i / 676 % 26)].toArray⟩
theorem tmod_nat (n k : Nat) : (n : Int).tmod (k : Int) = ((n % k : Nat) : Int) := by
  rw [Int.tmod_eq_emod_of_nonneg (by omega)]; rfl
theorem rem_nat (t : TypeId) (c : Bool) (k : IntKind) (n m : Nat) (hm : 0 < m) : binV Tryd.prog .rem t c (.int k (n : Int)) (.int k (m : Int)) = some (.int k ((n % m : Nat) : Int)) := by
  rw [binV_rem _ _ _ _ _ (by omega), tmod_nat]
theorem quo_nat (t : TypeId) (c : Bool) (n m : Nat) (hm : 0 < m) (hn : n ≤ 1000000) : binV Tryd.prog .quo t c (.int .i64 (n : Int)) (.int .i64 (m : Int)) = some (.int .i64 ((n / m : Nat) : Int)) := by
  rw [binV_quo _ _ _ _ _ (by omega), tdiv_nat, wrap_i64 _ (by have := Nat.div_le_self n m; omega)]
theorem lit3 (b : Nat) (x y z : UInt8) : mkLit 3 b (fill (repl [(.int .u8 (0))] 3) (pl 1) [(0, bv x), (1, bv y), (2, bv z)]) = some (.rw ([x, y, z].map bv), .slice (some ⟨b, 0, none⟩) [x, y, z].length [x, y, z].length) := rfl

theorem many_law (L n : Nat) (i : Nat) (hi : i ≤ 1000000) (h : H) : Sp (CF L (n + 2)) 9 [.int .i64 (i : Int)] h fun r h' => r = nameV ((i % 4 : Nat) : Int) (nm i) ∧ Keep nobody h h' := by
  refine Sp.body f9 (by simp) ?_
  unfold c9
  refine C.seq fun K hK => ?_
  simp only [↓opStep_eq, ↓reduceIte, ↓EW, EV, Nat.reduceAdd, Nat.reduceEqDiff, Int.reduceEq, Int.reduceLT, Int.reduceLE, Int.reduceNe, seqC, retC, skipC, exitC, blockC, condC, r9_0]
  have n1 : (h.new (.rw [.int .i64 0, .string (strB [])])).next = h.next + 1 := rfl
  have k1 := Keep.new h (.rw [.int .i64 0, .string (strB [])])
  have b1 := Has.new h (.rw [.int .i64 0, .string (strB [])])
  generalize h.new (.rw [.int .i64 0, .string (strB [])]) = h1 at *
  refine hK _ _ _ (C.seq fun K hK => ?_)
  have e1 := rem_nat 3 true .i64 i 4 (by decide)
  have e2 := rem_nat 3 true .i64 i 26 (by decide)
  have e3 := quo_nat 3 true i 26 (by decide) hi
  have e4 := rem_nat 3 true .i64 (i / 26) 26 (by decide)
  have e5 := quo_nat 3 true i 676 (by decide) hi
  have e6 := rem_nat 3 true .i64 (i / 676) 26 (by decide)
  have w : ∀ m : Nat, IntKind.i64.wrap (97 + ((m % 26 : Nat) : Int)) = ((97 + m % 26 : Nat) : Int) := fun m => by
    rw [show (97 : Int) + ((m % 26 : Nat) : Int) = ((97 + m % 26 : Nat) : Int) by omega, wrap_i64 _ (by omega)]
  have c4 : ((4 : Nat) : Int) = 4 := rfl
  have c26 : ((26 : Nat) : Int) = 26 := rfl
  have c676 : ((676 : Nat) : Int) = 676 := rfl
  rw [c4] at e1
  rw [c26] at e2 e3 e4 e6
  rw [c676] at e5
  have k2 := Keep.new h1 (.rw ([UInt8.ofNat (97 + i % 26), UInt8.ofNat (97 + i / 26 % 26), UInt8.ofNat (97 + i / 676 % 26)].map bv))
  have st := (Mine.rw h1.next [UInt8.ofNat (97 + i % 26), UInt8.ofNat (97 + i / 26 % 26), UInt8.ofNat (97 + i / 676 % 26)] (Has.new h1 _)).reads.str
  simp only [↓opStep_eq, ↓reduceIte, ↓EW, EV, Nat.reduceAdd, Nat.reduceEqDiff, Int.reduceEq, Int.reduceLT, Int.reduceLE, Int.reduceNe, seqC, retC, skipC, exitC, blockC, condC, r9_1, e1, e2, e3, e4, e5, e6, w, toInt_u8, lit3]
  generalize h1.new (.rw ([UInt8.ofNat (97 + i % 26), UInt8.ofNat (97 + i / 26 % 26), UInt8.ofNat (97 + i / 676 % 26)].map bv)) = h2 at *
  simp only [↓opStep_eq, ↓reduceIte, ↓EW, EV, Nat.reduceAdd, Nat.reduceEqDiff, Int.reduceEq, Int.reduceLT, Int.reduceLE, Int.reduceNe, seqC, retC, skipC, exitC, blockC, condC, st]
  refine name_law L n _ (nm i) h2 _ fun r h3 hq => ?_
  obtain ⟨rfl, k3⟩ := hq
  have k13 := k2.then k3
  have b3 := b1.keep0 k13
  have s2 : storeV 2 h3 (.pointer (some ⟨h.next, 0, none⟩)) (nameV ((i % 4 : Nat) : Int) (nm i)) = some (h3.put h.next (.rw [.int .i64 ((i % 4 : Nat) : Int), .string (nm i)])) := by
    have := store_has (s := none) (v := nameV ((i % 4 : Nat) : Int) (nm i)) b3 (n := 2) rfl (by simp) (by simp [ones])
    simpa using this
  have kp := Keep.put h3 h.next (.rw [.int .i64 ((i % 4 : Nat) : Int), .string (nm i)])
  have b4 : Has (h3.put h.next (.rw [.int .i64 ((i % 4 : Nat) : Int), .string (nm i)])) h.next (.rw [.int .i64 ((i % 4 : Nat) : Int), .string (nm i)]) := Has.put b3.1
  simp only [↓opStep_eq, ↓reduceIte, ↓EW, EV, Nat.reduceAdd, Nat.reduceEqDiff, Int.reduceEq, Int.reduceLT, Int.reduceLE, Int.reduceNe, seqC, retC, skipC, exitC, blockC, condC, s2]
  have kall : Keep nobody h (h3.put h.next (.rw [.int .i64 ((i % 4 : Nat) : Int), .string (nm i)])) := (k1.then k13).trans kp fun c hc e => by omega
  generalize h3.put h.next (.rw [.int .i64 ((i % 4 : Nat) : Int), .string (nm i)]) = h4 at *
  have ql : ∀ tm, tg tm 2 = .pointer (some ⟨h.next, 0, none⟩) → q9.f tm h4 = some [nameV ((i % 4 : Nat) : Int) (nm i)] := fun tm ht => by
    show (match loadAgg 2 h4 (tg tm 2) with | some v => (match (some [] : Option (List Value)) with | some l => some (v :: l) | none => none) | none => none) = _
    rw [ht, load2 b4]
  exact hK _ _ _ (C.ret ⟨.inr rfl, _, ql _ (by simp only [↓opStep_eq, ↓reduceIte, ↓EW, EV, Nat.reduceAdd, Nat.reduceEqDiff, Int.reduceEq, Int.reduceLT, Int.reduceLE, Int.reduceNe, seqC, retC, skipC, exitC, blockC, condC]), rfl, kall⟩)
theorem nm_valid (i : Nat) : validN ((i % 4 : Nat) : Int) (nm i) := ⟨by omega, by omega, (by decide : ¬ (3 : Nat) = 0), (by decide : (3 : Nat) ≤ 32)⟩
theorem nm_inj {i j : Nat} (hi : i < 16384) (hj : j < 16384) (h : nm i = nm j) : i = j := by
  have h1 := congrArg (fun s : ByteArray => s.data.toList) h
  simp only [nm, List.cons.injEq, and_true] at h1
  obtain ⟨a, b, c⟩ := h1
  have key : ∀ m : Nat, (UInt8.ofNat (97 + m % 26)).toNat = 97 + m % 26 := fun m => by
    rw [UInt8.toNat_ofNat_of_lt' (by simp [UInt8.size]; omega)]
  have a' := congrArg UInt8.toNat a
  have b' := congrArg UInt8.toNat b
  have c' := congrArg UInt8.toNat c
  rw [key, key] at a' b' c'
  omega
end Go.Proofs.YtbdmhdidehfmoaaDoor

namespace Go.Proofs.YtbdmhdidehfmoaaDoor
open Go.Ev

theorem ptr_nil' (b : Nat) : binV Tryd.prog .eql 24 true (.pointer (some ⟨b, 0, none⟩)) (.pointer none) = some (.bool false) := ptr_nil _
abbrev kA : ByteArray := strB [97]
theorem kA_valid0 : validN 0 kA := by decide
theorem kA_valid1 : validN 1 kA := by decide
theorem al1 : without [] 0 kA = [] := rfl
theorem al2 : (⟨1, kA, 6⟩ : Ent) :: without [⟨0, kA, 5⟩] 1 kA = [⟨1, kA, 6⟩, ⟨0, kA, 5⟩] := by
  rw [without_none]
  intro e he hm
  simp at he; subst he; exact absurd hm.1 (by decide)
theorem al3 : (⟨0, kA, 7⟩ : Ent) :: without [⟨1, kA, 6⟩, ⟨0, kA, 5⟩] 0 kA = [⟨0, kA, 7⟩, ⟨1, kA, 6⟩] := by
  have h1 : ¬ Is 0 kA ⟨1, kA, 6⟩ := fun h => absurd h.1 (by decide)
  have h2 : Is 0 kA ⟨0, kA, 5⟩ := ⟨rfl, rfl⟩
  unfold without
  rw [List.filter_cons, if_pos (by rw [decide_eq_false h1]; rfl), List.filter_cons, if_neg (by rw [decide_eq_true h2]; simp), List.filter_nil]

theorem Fr.gl {O O' : Nat → Tag} {h h' : H} (a : Fr O h O' h') (g : Gl h) (o : O 0 = .other) : Gl h' := a.has g o

theorem alive_law (L n : Nat) (hL : 300000 < L) (h : H) (gl : Gl h) : Sp (CF L (n + 6)) 7 [] h fun r h' => r = .bool true ∧ Keep nobody h h' := by
  refine Sp.body f7 (by simp) ?_
  unfold c7
  refine C.seq fun K hK => hK .norm _ _ (C.seq fun K hK => ?_)
  simp only [↓opStep_eq, ↓reduceIte, ↓EW, EV, Nat.reduceAdd, Nat.reduceEqDiff, Int.reduceEq, Int.reduceLT, Int.reduceLE, Int.reduceNe, seqC, retC, skipC, exitC, blockC, condC, r7_1]
  refine new_law L (n + 4) 10 h _ fun r h1 hq => ?_
  obtain ⟨O, b, rfl, st, k1, ho⟩ := hq
  have o0 : O 0 = .other := ho 0 gl.1
  have gl1 : Gl h1 := gl.keep0 k1
  refine hK _ _ _ (C.seq (C.seq fun K hK => ?_))
  simp only [↓opStep_eq, ↓reduceIte, ↓EW, EV, Nat.reduceAdd, Nat.reduceEqDiff, Int.reduceEq, Int.reduceLT, Int.reduceLE, Int.reduceNe, seqC, retC, skipC, exitC, blockC, condC, r7_2, ptr_nil']
  refine hK _ _ _ (C.cond false (by simp only [↓opStep_eq, ↓reduceIte, ↓EW, EV, Nat.reduceAdd, Nat.reduceEqDiff, Int.reduceEq, Int.reduceLT, Int.reduceLE, Int.reduceNe, seqC, retC, skipC, exitC, blockC, condC]) (fun g => by cases g) fun g => C.skip (C.seq fun K hK => ?_))
  -- the first
  simp only [↓opStep_eq, ↓reduceIte, ↓EW, EV, Nat.reduceAdd, Nat.reduceEqDiff, Int.reduceEq, Int.reduceLT, Int.reduceLE, Int.reduceNe, seqC, retC, skipC, exitC, blockC, condC, r7_4]
  refine name_law L (n + 4) 0 kA h1 _ fun r h2 hq => ?_
  obtain ⟨rfl, k2⟩ := hq
  refine put_T L n 10 (by decide) hL (st.keep0 k2) kA_valid0 5 (by decide) _ fun r h3 hq => ?_
  obtain ⟨O1, m1, st1, _, fr1, rfl⟩ := hq
  rw [al1] at st1
  have fr01 := (Fr.of0 (O := O) k2).trans fr1
  have hk : ∀ c, c < h.next → O1 c = .other := fun c hc => fr01.same c (Nat.lt_of_lt_of_le hc k1.next) (ho c hc)
  refine hK _ _ _ (C.seq fun K hK => ?_)
  -- the second
  simp only [↓opStep_eq, ↓reduceIte, ↓EW, EV, Nat.reduceAdd, Nat.reduceEqDiff, Int.reduceEq, Int.reduceLT, Int.reduceLE, Int.reduceNe, seqC, retC, skipC, exitC, blockC, condC, r7_5]
  refine name_law L (n + 4) 1 kA h3 _ fun r h4 hq => ?_
  obtain ⟨rfl, k4⟩ := hq
  refine put_T L n 10 (by decide) hL (st1.keep0 k4) kA_valid1 6 (by decide) _ fun r h5 hq => ?_
  obtain ⟨O2, m2, st2, _, fr2, rfl⟩ := hq
  rw [al2] at st2
  have fr02 := fr01.trans ((Fr.of0 (O := O1) k4).trans fr2)
  refine hK _ _ _ (C.seq fun K hK => ?_)
  -- the third
  simp only [↓opStep_eq, ↓reduceIte, ↓EW, EV, Nat.reduceAdd, Nat.reduceEqDiff, Int.reduceEq, Int.reduceLT, Int.reduceLE, Int.reduceNe, seqC, retC, skipC, exitC, blockC, condC, r7_6]
  refine name_law L (n + 4) 0 kA h5 _ fun r h6 hq => ?_
  obtain ⟨rfl, k6⟩ := hq
  refine put_T L n 10 (by decide) hL (st2.keep0 k6) kA_valid0 7 (by decide) _ fun r h7 hq => ?_
  obtain ⟨O3, m3, st3, _, fr3, rfl⟩ := hq
  rw [al3] at st3
  have fr03 := fr02.trans ((Fr.of0 (O := O2) k6).trans fr3)
  refine hK _ _ _ (C.seq fun K hK => ?_)
  -- it is got
  simp only [↓opStep_eq, ↓reduceIte, ↓EW, EV, Nat.reduceAdd, Nat.reduceEqDiff, Int.reduceEq, Int.reduceLT, Int.reduceLE, Int.reduceNe, seqC, retC, skipC, exitC, blockC, condC, r7_7]
  refine name_law L (n + 4) 0 kA h7 _ fun r h8 hq => ?_
  obtain ⟨rfl, k8⟩ := hq
  refine get_law L n 10 (by decide) hL (st3.keep0 k8) kA_valid0 _ fun r h9 hq => ?_
  obtain ⟨O4, m4, st4, _, fr4, gq⟩ := hq
  have fr04 := fr03.trans ((Fr.of0 (O := O3) k8).trans fr4)
  have hr : r = .tuple [.int .i64 7, .bool true, .int .i64 0].toArray := by
    rcases gq with ⟨e, he, hm, rfl⟩ | ⟨no, _⟩
    · simp only [List.mem_cons, List.not_mem_nil, or_false] at he
      rcases he with rfl | rfl
      · rfl
      · exact absurd hm.1 (by decide)
    · exact absurd ⟨rfl, rfl⟩ (no ⟨0, kA, 7⟩ (by simp))
  subst hr
  simp only [↓opStep_eq, ↓reduceIte, ↓EW, EV, Nat.reduceAdd, Nat.reduceEqDiff, Int.reduceEq, Int.reduceLT, Int.reduceLE, Int.reduceNe, seqC, retC, skipC, exitC, blockC, condC, tupNth_tuple]
  refine hK _ _ _ (C.seq fun K hK => ?_)
  simp only [↓opStep_eq, ↓reduceIte, ↓EW, EV, Nat.reduceAdd, Nat.reduceEqDiff, Int.reduceEq, Int.reduceLT, Int.reduceLE, Int.reduceNe, seqC, retC, skipC, exitC, blockC, condC, r7_8]
  refine len_law L (n + 3) 10 (by decide) st4 (fr04.gl gl1 o0) _ fun r h10 hq => ?_
  obtain ⟨rfl, k10⟩ := hq
  have e2 : (([⟨0, kA, 7⟩, ⟨1, kA, 6⟩] : List Ent).length : Int) = 2 := rfl
  rw [e2]
  simp only [↓opStep_eq, ↓reduceIte, ↓EW, EV, Nat.reduceAdd, Nat.reduceEqDiff, Int.reduceEq, Int.reduceLT, Int.reduceLE, Int.reduceNe, seqC, retC, skipC, exitC, blockC, condC, tupNth_tuple]
  refine hK _ _ _ (C.seq fun K hK => ?_)
  have kall : Keep nobody h h10 := by
    refine (k1.trans fr04.keep fun c hc hn => hn (ho c hc)).then k10
  simp only [↓opStep_eq, ↓reduceIte, ↓EW, EV, Nat.reduceAdd, Nat.reduceEqDiff, Int.reduceEq, Int.reduceLT, Int.reduceLE, Int.reduceNe, seqC, retC, skipC, exitC, blockC, condC, Bool.true_or, Bool.false_or, Bool.or_true, Bool.or_false, Bool.true_and, Bool.false_and, Bool.and_true, Bool.and_false, r7_9]
  exact hK _ _ _ (C.ret ⟨.inr rfl, _, rfl, by simp only [↓opStep_eq, ↓reduceIte, ↓EW, EV, Nat.reduceAdd, Nat.reduceEqDiff, Int.reduceEq, Int.reduceLT, Int.reduceLE, Int.reduceNe, seqC, retC, skipC, exitC, blockC, condC, resOf], kall⟩)
end Go.Proofs.YtbdmhdidehfmoaaDoor

namespace Go.Proofs.YtbdmhdidehfmoaaDoor
open Go.Ev

/-! ### the plain law: what was put last -/
def tOf (a : Nat) : Int := ((a % 4 : Nat) : Int)
def la (c : Nat → Nat) (i : Nat) : Nat → Nat
  | 0 => i
  | m + 1 => if i < m ∧ c m / 4 = c i / 4 then m else la c i m
section
variable {c : Nat → Nat}
end
end Go.Proofs.YtbdmhdidehfmoaaDoor

namespace Go.Proofs.YtbdmhdidehfmoaaDoor
open Go.Ev

/-! ### the calls in memory -/
def u16v (c : Nat) : Value := .int .u16 (c : Int)
def Ru (h : H) (v : Value) (cs : List Nat) : Prop :=
  (v = .slice none 0 0 ∧ cs = []) ∨ ∃ b o cap x vs, v = .slice (some ⟨b, o, none⟩) cs.length cap ∧ Has h b x ∧ x.cells? = some vs ∧ o + cs.length ≤ vs.length ∧ (vs.drop o).take cs.length = cs.map u16v
theorem Ru.keep0 {h h' : H} {v : Value} {cs : List Nat} (a : Ru h v cs) (k : Keep nobody h h') : Ru h' v cs := by
  rcases a with a | ⟨b, o, cap, x, vs, e, hb, r⟩
  · exact .inl a
  · exact .inr ⟨b, o, cap, x, vs, e, hb.keep0 k, r⟩
theorem Ru.len {h : H} {v : Value} {cs : List Nat} (a : Ru h v cs) : lenSl v = some (.int .i64 (cs.length : Int)) := by
  rcases a with ⟨rfl, rfl⟩ | ⟨b, o, cap, x, vs, rfl, _⟩ <;> rfl
theorem Ru.at {h : H} {v : Value} {cs : List Nat} (a : Ru h v cs) {i : Nat} (hi : i < cs.length) : ∃ p, indexSl 1 v (.int .i64 (i : Int)) = some p ∧ ∀ h', Keep nobody h h' → loadOne h' p = some (.int .u16 ((cs.getD i 0 : Nat) : Int)) := by
  rcases a with ⟨rfl, rfl⟩ | ⟨b, o, cap, x, vs, rfl, hb, hx, hl, ht⟩
  · simp at hi
  · refine ⟨.pointer (some ⟨b, o + i, none⟩), ?_, fun h' k => ?_⟩
    · simp only [indexSl, asNat_nat, addOff]
      rw [Nat.ble_eq_true_of_le (by omega)]
      simp only [Nat.mul_one]
    · rw [loadOne_has (hb.keep0 k) hx]
      have h1 : ((vs.drop o).take cs.length)[i]? = some (u16v (cs[i]'hi)) := by rw [ht, List.getElem?_map, List.getElem?_eq_getElem hi]; rfl
      rw [List.getElem?_take, if_pos hi, List.getElem?_drop] at h1
      rw [h1, List.getD_eq_getElem?_getD, List.getElem?_eq_getElem hi]; rfl

theorem base_step {O O' : Nat → Tag} {h0 hx h' : H} (k : Keep nobody h0 hx) (ho : ∀ c, c < h0.next → O c = .other) (fr : Fr O hx O' h') : Keep nobody h0 h' ∧ ∀ c, c < h0.next → O' c = .other :=
  ⟨k.trans fr.keep fun c hc hn => hn (ho c hc), fun c hc => fr.same c (Nat.lt_of_lt_of_le hc k.next) (ho c hc)⟩

end Go.Proofs.YtbdmhdidehfmoaaDoor

namespace Go.Proofs.YtbdmhdidehfmoaaDoor
open Go.Ev

end Go.Proofs.YtbdmhdidehfmoaaDoor

namespace Go.Proofs.YtbdmhdidehfmoaaDoor
open Go.Ev

def Xp (b hv : Nat) (tm : T Value) : Prop := tg tm 3 = .bool true ∧ tg tm 4 = .pointer (some ⟨b, 0, none⟩) ∧ tg tm 10 = .int .i64 (hv : Int)
theorem Xp.set {b hv : Nat} {tm : T Value} (x : Xp b hv tm) {j : Nat} {w : Value} (hj : j ≠ 3 ∧ j ≠ 4 ∧ j ≠ 10) : Xp b hv (T.set tm j w) := by
  obtain ⟨x1, x2, x3⟩ := x
  refine ⟨?_, ?_, ?_⟩
  · rw [tg_set, if_neg hj.1]; exact x1
  · rw [tg_set, if_neg hj.2.1]; exact x2
  · rw [tg_set, if_neg hj.2.2]; exact x3

end Go.Proofs.YtbdmhdidehfmoaaDoor
