import Derived.Test.YthofbmfcpfibdaaDoorWrG
set_option linter.unusedSimpArgs false
set_option linter.unusedVariables false
namespace Go.Proofs.YthofbmfcpfibdaaDoor
open Go.Ev

/-! ### bytes.Index, of a line's end -/
theorem f71 : funcB Tryd.prog (maskOf masks) outside NG 71 = ⟨fun _ _ args h K => xK (xVal NG .idxByte h args) K⟩ := by kernel_rfl
theorem f58 : funcB Tryd.prog (maskOf masks) outside NG 58 = ⟨fun _ _ args h K => xK (xVal NG (.index 0) h args) K⟩ := by kernel_rfl
theorem Rd.bytesX {h : H} {v : Value} {l : List UInt8} (a : Rd h v l) : bytesX h v = some l := by
  rcases a with ⟨rfl, rfl⟩ | ⟨b, o, c, x, cs, rfl, h1, h2, h3, h4, _⟩
  · rfl
  · show (match h.row b o l.length with | some l => bytesOf l | none => none) = _
    rw [row_has h1 h2 h3, h4]
    exact bytesOf_bv l
theorem idx71 (L n : Nat) {v : Value} {l : List UInt8} {h : H} (hr : Rd h v l) : Sp (CF L (n + 1)) 71 [v, .int .u8 13] h fun r h' => r = .int .i64 (idxL 13 l 0) ∧ h' = h := fun K hK => by
  unfold CF
  rw [callF_succ, f71]
  show xK (match Go.Ev.bytesX h v with | some s => some (.int .i64 (idxL (u8Nat 13) s 0), h) | none => none) K = true
  rw [hr.bytesX]
  exact hK (.int .i64 (idxL 13 l 0)) h ⟨rfl, rfl⟩
theorem idx56 (L n : Nat) {v : Value} {l : List UInt8} {h : H} (hr : Rd h v l) : Sp (CF L (n + 2)) 56 [v, .int .u8 13] h fun r h' => r = .int .i64 (idxL 13 l 0) ∧ h' = h := by
  refine Sp.body f56 (by simp) ?_
  unfold c56
  refine C.seq fun K hK => ?_
  simp only [EV, Nat.reduceAdd, r56_0]
  refine hK .norm _ _ (C.seq fun K hK => ?_)
  simp only [↓reduceIte, EV, Nat.reduceEqDiff, r56_1]
  refine idx71 L n hr _ fun r h2 hq => ?_
  obtain ⟨rfl, rfl⟩ := hq
  refine hK _ _ _ (C.ret ⟨.inr rfl, _, rfl, ?_, rfl⟩)
  simp only [↓reduceIte, EV, resOf]
theorem index58 (L n : Nat) {v sep : Value} {l : List UInt8} {h : H} {m : Nat} (hr : Rd h v l) (hs : Rd h sep [13, 10]) (hl : l.length ≤ 1000) (hM : Has h 0 (.ro [.int .i64 (m : Int)])) (h2 : 2 ≤ m) :
    Sp (CF L (n + 1)) 58 [v, sep] h fun r h' => r = .int .i64 (crlf l) ∧ h' = h := fun K hK => by
  unfold CF
  rw [callF_succ, f58]
  have ld := loadOne_has (s := none) (o := 0) hM rfl
  have e : xIndex NG 0 h l [13, 10] = some (.int .i64 (findL [13, 10] l 0)) := by
    unfold xIndex
    show (match loadOne h (.pointer (some ⟨0, 0, none⟩)) with
      | some (.int .i64 (.ofNat m)) => match Nat.ble 2 2 && Nat.ble 2 m && Nat.ble l.length 4294967280 with
        | true => some (Value.int .i64 (findL [13, 10] l 0))
        | false => none
      | _ => none) = _
    rw [ld]
    show (match Nat.ble 2 2 && Nat.ble 2 m && Nat.ble l.length 4294967280 with
        | true => some (Value.int .i64 (findL [13, 10] l 0))
        | false => none) = _
    rw [Nat.ble_eq_true_of_le h2, Nat.ble_eq_true_of_le (show l.length ≤ 4294967280 by omega)]
    rfl
  show xK (match Go.Ev.bytesX h v, Go.Ev.bytesX h sep with
      | some a, some b => match xIndex NG 0 h a b with | some v => some (v, h) | none => none
      | _, _ => none) K = true
  rw [hr.bytesX, hs.bytesX]
  show xK (match xIndex NG 0 h l [13, 10] with | some v => some (v, h) | none => none) K = true
  rw [e]
  exact hK (.int .i64 (crlf l)) h ⟨rfl, rfl⟩
theorem equal57 (L n : Nat) {v w : Value} {a b : List UInt8} {h : H} (hv : Rd h v a) (hw : Rd h w b) : Sp (CF L (n + 1)) 57 [v, w] h fun r h' => r = .bool (decide (a = b)) ∧ h' = h := by
  refine Sp.body f57 (by simp) ?_
  unfold c57
  refine C.seq fun K hK => ?_
  simp only [EV, Nat.reduceAdd, r57_0]
  refine hK .norm _ _ (C.seq fun K hK => ?_)
  have q : binV Tryd.prog .eql 9 false (.string ⟨a.toArray⟩) (.string ⟨b.toArray⟩) = some (.bool (decide (a = b))) := sv_eql 9 false a b
  simp only [↓reduceIte, EV, Nat.reduceEqDiff, r57_1, hv.str, hw.str, q]
  refine hK _ _ _ (C.ret ⟨.inr rfl, _, rfl, ?_, rfl⟩)
  simp only [↓reduceIte, EV, resOf]
theorem beq13 (x : UInt8) : Nat.beq x.toNat 13 = decide (x = 13) := by
  by_cases g : x = 13
  · subst g; rfl
  · rw [decide_eq_false g, Bool.eq_false_iff]
    intro e; exact g (UInt8.toNat_inj.1 (Nat.eq_of_beq_eq_true e))
theorem idx13 : ∀ (l : List UInt8) (k : Nat), (idxL 13 l k = -1 ∧ ∀ j : Nat, l[j]? ≠ some 13) ∨ ∃ i : Nat, idxL 13 l k = ((i + k : Nat) : Int) ∧ l[i]? = some 13 ∧ ∀ j : Nat, j < i → l[j]? ≠ some 13
  | [], k => .inl ⟨rfl, fun j h => by simp at h⟩
  | x :: r, k => by
    have e : idxL 13 (x :: r) k = match Nat.beq x.toNat 13 with | true => Int.ofNat k | false => idxL 13 r (k + 1) := rfl
    rw [e, beq13]
    by_cases g : x = 13
    · rw [decide_eq_true g]
      exact .inr ⟨0, by simp, by simp [g], fun j h => by omega⟩
    · rw [decide_eq_false g]
      rcases idx13 r (k + 1) with ⟨h1, h2⟩ | ⟨i, h1, h2, h3⟩
      · refine .inl ⟨h1, fun j => ?_⟩
        cases j with
        | zero => simpa using g
        | succ j => simpa using h2 j
      · refine .inr ⟨i + 1, by show idxL 13 r (k + 1) = _; rw [h1]; congr 1; omega, by simpa using h2, fun j hj => ?_⟩
        cases j with
        | zero => simpa using g
        | succ j => simpa using h3 j (by omega)
theorem at_drop {l : List UInt8} {i j : Nat} : At (l.drop i) j ↔ At l (i + j) := by
  unfold At
  rw [List.getElem?_drop, List.getElem?_drop, Nat.add_assoc]
theorem crlf_drop {l : List UInt8} {i : Nat} (hn : ∀ j, j < i → ¬ At l j) : (crlf (l.drop i) = -1 ∧ crlf l = -1) ∨ ∃ k : Nat, crlf (l.drop i) = (k : Int) ∧ crlf l = ((i + k : Nat) : Int) ∧ i + k + 1 < l.length := by
  rcases crlf_spec (l.drop i) with ⟨h1, h2⟩ | ⟨k, h1, h2, h3⟩
  · refine .inl ⟨h1, crlf_none fun j => ?_⟩
    by_cases g : j < i
    · exact hn j g
    · have := h2 (j - i)
      rw [at_drop, show i + (j - i) = j by omega] at this
      exact this
  · have hat := at_drop.1 h2
    refine .inr ⟨k, h1, crlf_at hat fun j hj => ?_, hat.lt⟩
    by_cases g : j < i
    · exact hn j g
    · have := h3 (j - i) (by omega)
      rw [at_drop, show i + (j - i) = j by omega] at this
      exact this
/-- on to the next 13 -/
theorem skip13 {l : List UInt8} {i : Nat} (h0 : l[i]? ≠ some 13) (hi : i + 1 < l.length) (hn : ∀ j, j < i → ¬ At l j) :
    (idxL 13 ((l.take (l.length - 1)).drop (i + 1)) 0 = -1 ∧ crlf l = -1) ∨ ∃ o : Nat, idxL 13 ((l.take (l.length - 1)).drop (i + 1)) 0 = (o : Int) ∧ l[i + (o + 1)]? = some 13 ∧ i + (o + 1) + 1 < l.length ∧ ∀ j, j < i + (o + 1) → ¬ At l j := by
  have key : ∀ j, i < j → At l j → ((l.take (l.length - 1)).drop (i + 1))[j - (i + 1)]? = some 13 := fun j hj ha => by
    rw [List.getElem?_drop, show i + 1 + (j - (i + 1)) = j by omega, List.getElem?_take, if_pos (by have := ha.lt; omega)]
    exact ha.1
  have ni : ¬ At l i := fun ha => h0 ha.1
  rcases idx13 ((l.take (l.length - 1)).drop (i + 1)) 0 with ⟨h1, h2⟩ | ⟨o, h1, h2, h3⟩
  · refine .inl ⟨h1, crlf_none fun j ha => ?_⟩
    rcases Nat.lt_trichotomy j i with g | g | g
    · exact hn j g ha
    · rw [g] at ha; exact ni ha
    · exact h2 _ (key j g ha)
  · have hlt := (List.getElem?_eq_some_iff.1 h2).1
    simp only [List.length_drop, List.length_take] at hlt
    refine .inr ⟨o, by simpa using h1, ?_, by omega, fun j hj ha => ?_⟩
    · rw [List.getElem?_drop, List.getElem?_take, if_pos (by omega)] at h2
      rw [← h2]; congr 1; omega
    · rcases Nat.lt_trichotomy j i with g | g | g
      · exact hn j g ha
      · rw [g] at ha; exact ni ha
      · exact h3 (j - (i + 1)) (by omega) (key j g ha)
theorem neq_u8 (t : TypeId) (c : Bool) (x y : UInt8) : binV Tryd.prog .neq t c (bv x) (bv y) = some (.bool (!decide (x = y))) := by
  have e : ((x.toNat : Int) = (y.toNat : Int)) ↔ x = y := by
    rw [Int.ofNat_inj]; exact UInt8.toNat_inj
  show binV Tryd.prog .neq t c (.int .u8 (x.toNat : Int)) (.int .u8 (y.toNat : Int)) = _
  rw [binV_neq]
  by_cases g : x = y
  · rw [decide_eq_true g, decide_eq_true (e.2 g)]
  · rw [decide_eq_false g, decide_eq_false fun h => g (e.1 h)]

theorem wreg28_26 (L n : Nat) {v sep : Value} {l : List UInt8} {h : H} {tm : T Value} {i : Nat} {Q : Ex → T Value → H → Prop} (hr : Rd h v l) (hs : Rd h sep [13, 10]) (hl : l.length ≤ 1000) (h13 : l[i]? = some 13) (hi : i + 1 < l.length)
    (t0 : tg tm 0 = v) (t1 : tg tm 1 = sep) (ti : tg tm 8 = .int .i64 (i : Int)) (tc : tg tm 7 = bv 10) (tn : tg tm 5 = .int .i64 2)
    (hQ : Q .norm (T.set tm 105 (.bool (decide (At l i)))) h) : C ⟨r28_26⟩ (CF L (n + 1)) L tm h Q := fun K hK => by
  rw [box_f]
  obtain ⟨y, hy⟩ : ∃ y, l[i + 1]? = some y := ⟨_, List.getElem?_eq_getElem hi⟩
  obtain ⟨b, o, e1, e2, _⟩ := hr.at hy
  have w : IntKind.i64.wrap ((i : Int) + 1) = ((i + 1 : Nat) : Int) := by
    rw [show (i : Int) + 1 = ((i + 1 : Nat) : Int) by omega]; exact wrap_lt _ (by omega)
  have w2 : IntKind.i64.wrap ((i : Int) + 2) = ((i + 2 : Nat) : Int) := by
    rw [show (i : Int) + 2 = ((i + 2 : Nat) : Int) by omega]; exact wrap_lt _ (by omega)
  have ha : At l i ↔ y = 10 := by simp [At, h13, hy]
  by_cases g : y = 10
  · rw [decide_eq_true (ha.2 g)] at hQ
    obtain ⟨v2, s1, s2, _⟩ := hr.mid (some (.int .i64 (i : Int))) i (i + 2) (.inr rfl) (by omega) (by omega) .i64
    simp only [↓opStep_eq, ↓reduceIte, ↓EW, EV, r28_26, t0, t1, ti, tc, tn, w, w2, e1, e2, eql_u8, decide_eq_true g, s1]
    refine equal57 L n s2 hs _ fun r h2 hq => ?_
    obtain ⟨rfl, hh⟩ := hq
    rw [hh]
    have hc : (l.take (i + 2)).drop i = [13, 10] := by
      rw [List.drop_take, show i + 2 - i = 2 by omega]
      obtain ⟨p1, q1⟩ := List.getElem?_eq_some_iff.1 h13
      obtain ⟨p2, q2⟩ := List.getElem?_eq_some_iff.1 hy
      rw [List.drop_eq_getElem_cons p1, List.drop_eq_getElem_cons p2, q1, q2, g]
      rfl
    simp only [decide_eq_true hc]
    exact hK _ _ _ hQ
  · rw [decide_eq_false fun h => g (ha.1 h)] at hQ
    simp only [↓opStep_eq, ↓reduceIte, ↓EW, EV, r28_26, t0, ti, tc, w, e1, e2, eql_u8, decide_eq_false g]
    exact hK _ _ _ hQ

theorem wreg28_46 (L n : Nat) {v sep : Value} {l : List UInt8} {h : H} {tm : T Value} {i : Nat} {Q : Ex → T Value → H → Prop} (hr : Rd h v l) (hs : Rd h sep [13, 10]) (hl : l.length ≤ 1000) (h13 : l[i]? = some 13) (hi : i + 1 < l.length)
    (t0 : tg tm 0 = v) (t1 : tg tm 1 = sep) (ti : tg tm 15 = .int .i64 (i : Int)) (tc : tg tm 14 = bv 10) (tn : tg tm 5 = .int .i64 2)
    (hQ : Q .norm (T.set tm 174 (.bool (decide (At l i)))) h) : C ⟨r28_46⟩ (CF L (n + 1)) L tm h Q := fun K hK => by
  rw [box_f]
  obtain ⟨y, hy⟩ : ∃ y, l[i + 1]? = some y := ⟨_, List.getElem?_eq_getElem hi⟩
  obtain ⟨b, o, e1, e2, _⟩ := hr.at hy
  have w : IntKind.i64.wrap ((i : Int) + 1) = ((i + 1 : Nat) : Int) := by
    rw [show (i : Int) + 1 = ((i + 1 : Nat) : Int) by omega]; exact wrap_lt _ (by omega)
  have w2 : IntKind.i64.wrap ((i : Int) + 2) = ((i + 2 : Nat) : Int) := by
    rw [show (i : Int) + 2 = ((i + 2 : Nat) : Int) by omega]; exact wrap_lt _ (by omega)
  have ha : At l i ↔ y = 10 := by simp [At, h13, hy]
  by_cases g : y = 10
  · rw [decide_eq_true (ha.2 g)] at hQ
    obtain ⟨v2, s1, s2, _⟩ := hr.mid (some (.int .i64 (i : Int))) i (i + 2) (.inr rfl) (by omega) (by omega) .i64
    simp only [↓opStep_eq, ↓reduceIte, ↓EW, EV, r28_46, t0, t1, ti, tc, tn, w, w2, e1, e2, eql_u8, decide_eq_true g, s1]
    refine equal57 L n s2 hs _ fun r h2 hq => ?_
    obtain ⟨rfl, hh⟩ := hq
    rw [hh]
    have hc : (l.take (i + 2)).drop i = [13, 10] := by
      rw [List.drop_take, show i + 2 - i = 2 by omega]
      obtain ⟨p1, q1⟩ := List.getElem?_eq_some_iff.1 h13
      obtain ⟨p2, q2⟩ := List.getElem?_eq_some_iff.1 hy
      rw [List.drop_eq_getElem_cons p1, List.drop_eq_getElem_cons p2, q1, q2, g]
      rfl
    simp only [decide_eq_true hc]
    exact hK _ _ _ hQ
  · rw [decide_eq_false fun h => g (ha.1 h)] at hQ
    simp only [↓opStep_eq, ↓reduceIte, ↓EW, EV, r28_46, t0, ti, tc, w, e1, e2, eql_u8, decide_eq_false g]
    exact hK _ _ _ hQ
end Go.Proofs.YthofbmfcpfibdaaDoor

namespace Go.Proofs.YthofbmfcpfibdaaDoor
open Go.Ev

/-! ### the rolling hash -/
/-- one step (the factor stands in front: Nat.mul unfolds on its second argument) -/
def hstep (a x : Nat) : Nat := (16777619 * a + x) % 4294967296
def hsh (l : List UInt8) (a : Nat) : Nat := l.foldl (fun a x => hstep a x.toNat) a
theorem hsh_take {l : List UInt8} {i : Nat} {c : UInt8} (h : l[i]? = some c) : hsh (l.take (i + 1)) 0 = hstep (hsh (l.take i) 0) c.toNat := by
  unfold hsh
  rw [List.take_add_one, h, List.foldl_append]
  simp only [Option.toList, List.foldl_cons, List.foldl_nil]
theorem hsh2 : hsh [13, 10] 0 = 218109057 := by simp [hsh, hstep]
theorem hsh0 : hsh [] 0 = 0 := rfl
theorem u32w (x : Int) : IntKind.u32.wrap x = x % 4294967296 := rfl
theorem hash_step {a : Nat} {c : UInt8} : IntKind.u32.wrap (IntKind.u32.wrap ((a : Int) * 16777619) + IntKind.u32.wrap (c.toNat : Int)) = ((hstep a c.toNat : Nat) : Int) := by
  rw [u32w, u32w, u32w]
  unfold hstep
  omega
theorem hash72 (L n : Nat) {v : Value} {h0 : H} (hL : 100 ≤ L) (hr : Rd h0 v [13, 10]) : Sp (CF L (n + 1)) 72 [v] h0 fun r h' => r = .tuple #[.int .u32 218109057, .int .u32 637696617] ∧ h' = h0 := by
  refine Sp.body f72 (by simp) ?_
  unfold c72
  refine C.seq fun K hK => ?_
  simp only [EV, r72_0]
  refine hK .norm _ _ (C.seq fun K hK => ?_)
  simp only [r72_1]
  refine hK .norm _ _ (C.seq (C.seq fun K hK => ?_))
  simp only [r72_2]
  refine hK .norm _ _ (C.block ?_)
  have hl : lenSl v = some (.int .i64 2) := hr.len
  have key : ∀ tm, tg tm 0 = v → tg tm 4 = .int .u32 0 → tg tm 5 = .int .i64 0 → C (loopB l72_6) (CF L n) L tm h0 fun e tm' h' => e = .exit 0 ∧ h' = h0 ∧ tg tm' 0 = v ∧ tg tm' 4 = .int .u32 218109057 := fun tm t0 t4 t5 => by
    refine C.loop (L := L) (fun k tm h' => ∃ pos : Nat, k = 2 - pos ∧ pos ≤ 2 ∧ tg tm 0 = v ∧ tg tm 5 = .int .i64 (pos : Int) ∧ tg tm 4 = .int .u32 (hsh (([13, 10] : List UInt8).take pos) 0 : Nat) ∧ h' = h0) 2 (by omega) ⟨0, rfl, by omega, t0, t5, by rw [t4, List.take_zero, hsh0]; rfl, rfl⟩ ?_
    rintro k tm h' ⟨pos, rfl, hp, t0, t5, t4, rfl⟩
    refine C.seq (C.seq fun K hK => ?_)
    by_cases g : pos < 2
    · have g' : (pos : Int) < 2 := by omega
      obtain ⟨c, hc⟩ : ∃ c, ([13, 10] : List UInt8)[pos]? = some c := ⟨_, List.getElem?_eq_getElem (by simpa using g)⟩
      obtain ⟨b, o, e1, e2, _⟩ := hr.at hc
      simp only [EV, r72_3, t0, t5, hl, decide_eq_true g']
      refine hK _ _ _ (C.cond true (by simp only [↓reduceIte, EV]) (fun _ => C.skip (C.seq (C.block fun K hK => ?_))) fun g => by cases g)
      have bve : bv c = .int .u8 (c.toNat : Int) := rfl
      simp only [↓reduceIte, EV, Nat.reduceEqDiff, r72_5, t0, t4, t5, e1, e2, bve, toInt_int, hash_step]
      refine hK _ _ _ fun K hK => ?_
      have w : IntKind.i64.wrap ((pos : Int) + 1) = ((pos + 1 : Nat) : Int) := by
        rw [show (pos : Int) + 1 = ((pos + 1 : Nat) : Int) by omega]; exact wrap_lt _ (by omega)
      simp only [↓reduceIte, EV, Nat.reduceEqDiff, r72_4, t5, w]
      exact hK _ _ _ ⟨2 - (pos + 1), by omega, pos + 1, rfl, by omega, by simp only [↓reduceIte, EV, Nat.reduceEqDiff, t0], by simp only [↓reduceIte, EV], by simp only [↓reduceIte, EV, Nat.reduceEqDiff]; rw [hsh_take hc], rfl⟩
    · have g' : ¬ (pos : Int) < 2 := by omega
      have hp2 : pos = 2 := by omega
      subst hp2
      simp only [EV, r72_3, t0, t5, hl, decide_eq_false g']
      refine hK _ _ _ (C.cond false (by simp only [↓reduceIte, EV]) (fun g => by cases g) fun _ => C.exit ⟨rfl, rfl, by simp only [↓reduceIte, EV, Nat.reduceEqDiff, t0], ?_⟩)
      simp only [↓reduceIte, EV, Nat.reduceEqDiff, t4]
      rw [show ([13, 10] : List UInt8).take 2 = [13, 10] from rfl, hsh2]
      rfl
  refine (key _ (by simp only [↓reduceIte, EV, Nat.reduceEqDiff]) (by simp only [↓reduceIte, EV, Nat.reduceEqDiff]) (by simp only [↓reduceIte, EV])).mono ?_
  rintro e tm' h' ⟨rfl, rfl, t0, t4⟩
  show if 0 = 0 then _ else _
  rw [if_pos rfl]
  refine C.seq fun K hK => ?_
  simp only [r72_6]
  refine hK _ _ _ (C.seq (C.seq fun K hK => ?_))
  simp only [↓reduceIte, EV, Nat.reduceEqDiff, r72_7, t0, hl]
  refine hK _ _ _ (C.block ?_)
  have key2 : ∀ tm, tg tm 4 = .int .u32 218109057 → tg tm 6 = .int .u32 1 → tg tm 7 = .int .u32 16777619 → tg tm 8 = .int .i64 2 → C (loopB l72_14) (CF L n) L tm h' fun e tm' h2 => e = .exit 2 ∧ h2 = h' ∧ tg tm' 4 = .int .u32 218109057 ∧ tg tm' 6 = .int .u32 637696617 := fun tm t4 t6 t7 t8 => by
    refine C.loop (L := L) (fun k tm h2 => h2 = h' ∧ tg tm 4 = .int .u32 218109057 ∧ (k = 2 ∧ tg tm 6 = .int .u32 1 ∧ tg tm 7 = .int .u32 16777619 ∧ tg tm 8 = .int .i64 2 ∨ k = 1 ∧ tg tm 6 = .int .u32 1 ∧ tg tm 7 = .int .u32 637696617 ∧ tg tm 8 = .int .i64 1 ∨ k = 0 ∧ tg tm 6 = .int .u32 637696617 ∧ tg tm 8 = .int .i64 0)) 2 (by omega) ⟨rfl, t4, .inl ⟨rfl, t6, t7, t8⟩⟩ ?_
    rintro k tm h2 ⟨rfl, t4, (⟨rfl, t6, t7, t8⟩ | ⟨rfl, t6, t7, t8⟩ | ⟨rfl, t6, t8⟩)⟩
    · have d1 : decide ((0 : Int) < 2) = true := rfl
      have a1 : binV Tryd.prog .and 3 true (.int .i64 2) (.int .i64 1) = some (.int .i64 0) := by kernel_rfl
      have m1 : binV Tryd.prog .mul 46 false (.int .u32 16777619) (.int .u32 16777619) = some (.int .u32 637696617) := by kernel_rfl
      have s1 : binV Tryd.prog .shr 3 true (.int .i64 2) (.int .u64 1) = some (.int .i64 1) := by kernel_rfl
      have n1 : (!decide ((0 : Int) = 0)) = false := rfl
      refine C.seq (C.seq fun K hK => ?_)
      simp only [EV, Int.reduceLT, r72_8, t8]
      refine hK _ _ _ (C.cond true (by simp only [↓reduceIte, EV]) (fun _ => C.skip (C.seq (C.block (C.seq (C.seq fun K hK => ?_))))) fun g => by cases g)
      simp only [↓reduceIte, EV, Nat.reduceEqDiff, r72_10, t8, a1]
      refine hK _ _ _ (C.cond false (by simp only [↓reduceIte, EV]) (fun g => by cases g) fun _ => C.skip fun K hK => ?_)
      simp only [↓reduceIte, r72_12, tg_set, Nat.reduceEqDiff, t7, m1, kO_some]
      refine hK _ _ _ fun K hK => ?_
      simp only [↓reduceIte, r72_9, tg_set, Nat.reduceEqDiff, t8, s1, kO_some]
      exact hK _ _ _ ⟨1, by omega, rfl, by simp only [↓reduceIte, EV, Nat.reduceEqDiff, t4], .inr (.inl ⟨rfl, by simp only [↓reduceIte, EV, Nat.reduceEqDiff, t6], by simp only [↓reduceIte, EV, Nat.reduceEqDiff], by simp only [↓reduceIte, EV]⟩)⟩
    · have d1 : decide ((0 : Int) < 1) = true := rfl
      have a1 : binV Tryd.prog .and 3 true (.int .i64 1) (.int .i64 1) = some (.int .i64 1) := by kernel_rfl
      have m0 : binV Tryd.prog .mul 46 false (.int .u32 1) (.int .u32 637696617) = some (.int .u32 637696617) := by kernel_rfl
      have s1 : binV Tryd.prog .shr 3 true (.int .i64 1) (.int .u64 1) = some (.int .i64 0) := by kernel_rfl
      have n1 : (!decide ((1 : Int) = 0)) = true := rfl
      refine C.seq (C.seq fun K hK => ?_)
      simp only [EV, Int.reduceLT, r72_8, t8]
      refine hK _ _ _ (C.cond true (by simp only [↓reduceIte, EV]) (fun _ => C.skip (C.seq (C.block (C.seq (C.seq fun K hK => ?_))))) fun g => by cases g)
      simp only [↓reduceIte, EV, Nat.reduceEqDiff, Int.reduceEq, r72_10, t8, a1]
      refine hK _ _ _ (C.cond true (by simp only [↓reduceIte, EV]) (fun _ => fun K hK => ?_) fun g => by cases g)
      simp only [↓reduceIte, r72_11, tg_set, Nat.reduceEqDiff, t6, t7, m0, kO_some]
      refine hK _ _ _ fun K hK => ?_
      simp only [↓reduceIte, EV, Nat.reduceEqDiff, r72_12, t7]
      refine hK _ _ _ fun K hK => ?_
      simp only [↓reduceIte, r72_9, tg_set, Nat.reduceEqDiff, t8, s1, kO_some]
      exact hK _ _ _ ⟨0, by omega, rfl, by simp only [↓reduceIte, EV, Nat.reduceEqDiff, t4], .inr (.inr ⟨rfl, by simp only [↓reduceIte, EV, Nat.reduceEqDiff], by simp only [↓reduceIte, EV]⟩)⟩
    · have d1 : decide ((0 : Int) < 0) = false := rfl
      refine C.seq (C.seq fun K hK => ?_)
      simp only [EV, Int.reduceLT, r72_8, t8]
      exact hK _ _ _ (C.cond false (by simp only [↓reduceIte, EV]) (fun g => by cases g) fun _ => C.exit ⟨rfl, rfl, by simp only [↓reduceIte, EV, Nat.reduceEqDiff, t4], by simp only [↓reduceIte, EV, Nat.reduceEqDiff, t6]⟩)
  refine (key2 _ (by simp only [↓reduceIte, EV, Nat.reduceEqDiff, t4]) (by simp only [↓reduceIte, EV, Nat.reduceEqDiff]) (by simp only [↓reduceIte, EV, Nat.reduceEqDiff]) (by simp only [↓reduceIte, EV])).mono ?_
  rintro e tm2 h2 ⟨rfl, rfl, t4, t6⟩
  show if 2 = 2 then _ else _
  rw [if_pos rfl]
  refine C.seq fun K hK => ?_
  simp only [r72_13, t4, t6]
  refine hK _ _ _ (C.ret ⟨.inr rfl, _, rfl, ?_, rfl⟩)
  simp only [↓reduceIte, EV, Nat.reduceEqDiff, resOf]
end Go.Proofs.YthofbmfcpfibdaaDoor

namespace Go.Proofs.YthofbmfcpfibdaaDoor
open Go.Ev

def hp (a b : Nat) : Nat := hstep (hstep 0 a) b
theorem hp_two (a b : UInt8) : hsh [a, b] 0 = hp a.toNat b.toNat := rfl
theorem hp_end : hp 13 10 = 218109057 := by simp [hp, hstep]
theorem hp_next (a b c : UInt8) : IntKind.u32.wrap (IntKind.u32.wrap (IntKind.u32.wrap (((hp a.toNat b.toNat : Nat) : Int) * 16777619) + IntKind.u32.wrap (c.toNat : Int)) - IntKind.u32.wrap (637696617 * IntKind.u32.wrap (a.toNat : Int))) = ((hp b.toNat c.toNat : Nat) : Int) := by
  have h1 := a.toNat_lt
  have h2 := b.toNat_lt
  have h3 := c.toNat_lt
  generalize a.toNat = x at *
  generalize b.toNat = y at *
  generalize c.toNat = z at *
  rw [u32w, u32w, u32w, u32w, u32w, u32w]
  unfold hp hstep
  omega
theorem two_at {l : List UInt8} {i : Nat} {a b : UInt8} (h1 : l[i]? = some a) (h2 : l[i + 1]? = some b) : (l.take (i + 2)).drop i = [a, b] := by
  rw [List.drop_take, show i + 2 - i = 2 by omega]
  obtain ⟨p1, q1⟩ := List.getElem?_eq_some_iff.1 h1
  obtain ⟨p2, q2⟩ := List.getElem?_eq_some_iff.1 h2
  rw [List.drop_eq_getElem_cons p1, List.drop_eq_getElem_cons p2, q1, q2]
  rfl
theorem chk_at {l : List UInt8} {i : Nat} {a b : UInt8} (h1 : l[i]? = some a) (h2 : l[i + 1]? = some b) : At l i ↔ [a, b] = ([13, 10] : List UInt8) := by simp [At, h1, h2]
theorem chk_hash {l : List UInt8} {i : Nat} {a b : UInt8} (h1 : l[i]? = some a) (h2 : l[i + 1]? = some b) (h : ¬ ((hp a.toNat b.toNat : Nat) : Int) = 218109057) : ¬ At l i := fun ha => by
  have := (chk_at h1 h2).1 ha
  simp only [List.cons.injEq, and_true] at this
  obtain ⟨rfl, rfl⟩ := this
  exact h (by rw [show (13 : UInt8).toNat = 13 from rfl, show (10 : UInt8).toNat = 10 from rfl, hp_end]; rfl)
theorem rk60 (L n : Nat) {v sep : Value} {l : List UInt8} {h0 : H} (hL : 1000 ≤ L) (hr : Rd h0 v l) (hs : Rd h0 sep [13, 10]) (hl : l.length ≤ 600) (h2 : 2 ≤ l.length) :
    Sp (CF L (n + 2)) 60 [v, sep] h0 fun r h' => r = .int .i64 (crlf l) ∧ Keep nobody h0 h' := by
  refine Sp.body f60 (by simp) ?_
  unfold c60
  obtain ⟨x0, hx0⟩ : ∃ x, l[0]? = some x := ⟨_, List.getElem?_eq_getElem (by omega)⟩
  obtain ⟨x1, hx1⟩ : ∃ x, l[1]? = some x := ⟨_, List.getElem?_eq_getElem (by omega)⟩
  refine C.seq fun K hK => ?_
  simp only [EV, Nat.reduceAdd, r60_0]
  refine hK .norm _ _ (C.seq fun K hK => ?_)
  simp only [↓reduceIte, EV, Nat.reduceEqDiff, r60_1]
  refine hash72 L n (by omega) hs _ fun r h2' hq => ?_
  obtain ⟨rfl, hh⟩ := hq
  rw [hh]; clear hh
  have e : ∀ i, tupNth i (.tuple #[.int .u32 218109057, .int .u32 637696617]) = [Value.int .u32 218109057, .int .u32 637696617][i]? := fun i => tupNth_tuple i _
  simp only [EV, e]
  refine hK _ _ _ (C.seq fun K hK => ?_)
  have hl2 : lenSl sep = some (.int .i64 2) := hs.len
  simp only [↓reduceIte, EV, Nat.reduceEqDiff, r60_2, hl2]
  refine hK _ _ _ (C.seq fun K hK => ?_)
  simp only [r60_3]
  refine hK _ _ _ (C.seq (C.seq fun K hK => ?_))
  simp only [r60_4]
  refine hK _ _ _ (C.block ?_)
  have key : ∀ tm, tg tm 0 = v → tg tm 1 = sep → tg tm 5 = .int .u32 218109057 → tg tm 6 = .int .u32 637696617 → tg tm 7 = .int .i64 2 → tg tm 8 = .int .u32 0 → tg tm 9 = .int .i64 0 → C (loopB l60_8) (CF L (n + 1)) L tm h0 fun e tm' h' => e = .exit 0 ∧ h' = h0 ∧ tg tm' 0 = v ∧ tg tm' 1 = sep ∧ tg tm' 5 = .int .u32 218109057 ∧ tg tm' 6 = .int .u32 637696617 ∧ tg tm' 7 = .int .i64 2 ∧ tg tm' 8 = .int .u32 (hp x0.toNat x1.toNat : Nat) := fun tm t0 t1 t5 t6 t7 t8 t9 => by
    refine C.loop (L := L) (fun k tm h' => ∃ pos : Nat, k = 2 - pos ∧ pos ≤ 2 ∧ tg tm 0 = v ∧ tg tm 1 = sep ∧ tg tm 5 = .int .u32 218109057 ∧ tg tm 6 = .int .u32 637696617 ∧ tg tm 7 = .int .i64 2 ∧ tg tm 9 = .int .i64 (pos : Int) ∧ tg tm 8 = .int .u32 (hsh (l.take pos) 0 : Nat) ∧ h' = h0) 2 (by omega) ⟨0, rfl, by omega, t0, t1, t5, t6, t7, t9, by rw [t8, List.take_zero, hsh0]; rfl, rfl⟩ ?_
    rintro k tm h' ⟨pos, rfl, hp', t0, t1, t5, t6, t7, t9, t8, rfl⟩
    refine C.seq (C.seq fun K hK => ?_)
    by_cases g : pos < 2
    · have g' : (pos : Int) < 2 := by omega
      obtain ⟨c, hc⟩ : ∃ c, l[pos]? = some c := ⟨_, List.getElem?_eq_getElem (by omega)⟩
      obtain ⟨b, o, e1, e2, _⟩ := hr.at hc
      simp only [EV, r60_5, t7, t9, decide_eq_true g']
      refine hK _ _ _ (C.cond true (by simp only [↓reduceIte, EV]) (fun _ => C.skip (C.seq (C.block fun K hK => ?_))) fun g => by cases g)
      have bve : bv c = .int .u8 (c.toNat : Int) := rfl
      simp only [↓reduceIte, EV, Nat.reduceEqDiff, r60_7, t0, t8, t9, e1, e2, bve, toInt_int, hash_step]
      refine hK _ _ _ fun K hK => ?_
      have w : IntKind.i64.wrap ((pos : Int) + 1) = ((pos + 1 : Nat) : Int) := by
        rw [show (pos : Int) + 1 = ((pos + 1 : Nat) : Int) by omega]; exact wrap_lt _ (by omega)
      simp only [↓reduceIte, EV, Nat.reduceEqDiff, r60_6, t9, w]
      exact hK _ _ _ ⟨2 - (pos + 1), by omega, pos + 1, rfl, by omega, by simp only [↓reduceIte, EV, Nat.reduceEqDiff, t0], by simp only [↓reduceIte, EV, Nat.reduceEqDiff, t1], by simp only [↓reduceIte, EV, Nat.reduceEqDiff, t5], by simp only [↓reduceIte, EV, Nat.reduceEqDiff, t6], by simp only [↓reduceIte, EV, Nat.reduceEqDiff, t7], by simp only [↓reduceIte, EV], by simp only [↓reduceIte, EV, Nat.reduceEqDiff]; rw [hsh_take hc], rfl⟩
    · have g' : ¬ (pos : Int) < 2 := by omega
      have hp2 : pos = 2 := by omega
      subst hp2
      simp only [EV, r60_5, t7, t9, decide_eq_false g']
      refine hK _ _ _ (C.cond false (by simp only [↓reduceIte, EV]) (fun g => by cases g) fun _ => C.exit ⟨rfl, rfl, by simp only [↓reduceIte, EV, Nat.reduceEqDiff, t0], by simp only [↓reduceIte, EV, Nat.reduceEqDiff, t1], by simp only [↓reduceIte, EV, Nat.reduceEqDiff, t5], by simp only [↓reduceIte, EV, Nat.reduceEqDiff, t6], by simp only [↓reduceIte, EV, Nat.reduceEqDiff, t7], ?_⟩)
      have := two_at (i := 0) hx0 hx1
      rw [Nat.zero_add, List.drop_zero] at this
      simp only [↓reduceIte, EV, Nat.reduceEqDiff, t8]
      rw [this, hp_two]
  refine (key _ (by simp only [↓reduceIte, EV, Nat.reduceEqDiff]) (by simp only [↓reduceIte, EV, Nat.reduceEqDiff]) (by simp only [↓reduceIte, EV, Nat.reduceEqDiff]) (by simp only [↓reduceIte, EV, Nat.reduceEqDiff]) (by simp only [↓reduceIte, EV, Nat.reduceEqDiff]) (by simp only [↓reduceIte, EV, Nat.reduceEqDiff]) (by simp only [↓reduceIte, EV])).mono ?_
  rintro e tm h' ⟨rfl, rfl, t0, t1, t5, t6, t7, t8⟩
  show if 0 = 0 then _ else _
  rw [if_pos rfl]
  have kn : Keep nobody h' ⟨h'.objs, h'.next + 12⟩ := ⟨by show h'.next ≤ h'.next + 12; omega, fun _ _ _ => rfl⟩
  have rest : ∀ (tm : T Value), tg tm 0 = v → tg tm 1 = sep → tg tm 5 = .int .u32 218109057 → tg tm 6 = .int .u32 637696617 → tg tm 7 = .int .i64 2 → tg tm 8 = .int .u32 (hp x0.toNat x1.toNat : Nat) → ¬ At l 0 →
      C ⟨seqC ⟨seqC ⟨r60_10⟩ ⟨blockC 2 (loopB l60_19)⟩⟩ ⟨seqC ⟨r60_18⟩ retC⟩⟩ (CF L (n + 1)) L tm ⟨h'.objs, h'.next + 12⟩ fun e tm2 h2 => e = .ret ∧ tg tm2 4 = .int .i64 (crlf l) ∧ Keep nobody h' h2 := fun tm t0 t1 t5 t6 t7 t8 hn0 => by
    refine C.seq (C.seq fun K hK => ?_)
    simp only [r60_10, t7]
    refine hK _ _ _ (C.block ?_)
    refine (C.loop (L := L) (fun k tm h2 => ∃ (pos : Nat) (a b : UInt8), k = l.length - (pos + 2) ∧ pos + 2 ≤ l.length ∧ tg tm 0 = v ∧ tg tm 1 = sep ∧ tg tm 5 = .int .u32 218109057 ∧ tg tm 6 = .int .u32 637696617 ∧ tg tm 7 = .int .i64 2 ∧ tg tm 10 = .int .i64 ((pos + 2 : Nat) : Int) ∧ l[pos]? = some a ∧ l[pos + 1]? = some b ∧ tg tm 8 = .int .u32 (hp a.toNat b.toNat : Nat) ∧ (∀ j, j < pos + 1 → ¬ At l j) ∧ Keep nobody h' h2) (l.length - 2) (by omega)
      ⟨0, x0, x1, by omega, by omega, by simp only [↓reduceIte, EV, Nat.reduceEqDiff, t0], by simp only [↓reduceIte, EV, Nat.reduceEqDiff, t1], by simp only [↓reduceIte, EV, Nat.reduceEqDiff, t5], by simp only [↓reduceIte, EV, Nat.reduceEqDiff, t6], by simp only [↓reduceIte, EV, Nat.reduceEqDiff, t7], by simp only [↓reduceIte, EV]; rfl, hx0, hx1, by simp only [↓reduceIte, EV, Nat.reduceEqDiff, t8], fun j hj => by rw [show j = 0 by omega]; exact hn0, kn⟩ ?_ :
      C (loopB l60_19) _ L _ _ fun e tm2 h2 => Keep nobody h' h2 ∧ (e = .exit 2 ∧ crlf l = -1 ∨ e = .ret ∧ tg tm2 4 = .int .i64 (crlf l))).mono ?_
    · rintro k tm h2 ⟨pos, a, b, rfl, hp', t0, t1, t5, t6, t7, t10, ha, hb, t8, hn, kp⟩
      have hr2 := hr.keep0 kp
      have hs2 := hs.keep0 kp
      refine C.seq (C.seq fun K hK => ?_)
      by_cases g : pos + 2 < l.length
      · have g' : ((pos + 2 : Nat) : Int) < (l.length : Int) := by omega
        obtain ⟨c, hc⟩ : ∃ c, l[pos + 2]? = some c := ⟨_, List.getElem?_eq_getElem g⟩
        obtain ⟨p, o, e1, e2, _⟩ := hr2.at hc
        obtain ⟨p', o', e1', e2', _⟩ := hr2.at ha
        simp only [EV, r60_11, t0, t10, hr2.len, decide_eq_true g']
        refine hK _ _ _ (C.cond true (by simp only [↓reduceIte, EV]) (fun _ => C.skip (C.block (C.seq fun K hK => ?_))) fun g => by cases g)
        simp only [↓reduceIte, EV, Nat.reduceEqDiff, r60_12, t8]
        refine hK _ _ _ (C.seq fun K hK => ?_)
        have bvc : bv c = .int .u8 (c.toNat : Int) := rfl
        have bva : bv a = .int .u8 (a.toNat : Int) := rfl
        simp only [↓reduceIte, EV, Nat.reduceEqDiff, r60_13, t0, t10, e1, e2, bvc, toInt_int]
        refine hK _ _ _ (C.seq fun K hK => ?_)
        have w0 : IntKind.i64.wrap (((pos + 2 : Nat) : Int) - 2) = (pos : Int) := by
          rw [show ((pos + 2 : Nat) : Int) - 2 = (pos : Int) by omega]; exact wrap_lt _ (by omega)
        simp only [↓reduceIte, EV, Nat.reduceEqDiff, r60_14, t0, t6, t7, t10, w0, e1', e2', bva, toInt_int, hp_next]
        refine hK _ _ _ (C.seq fun K hK => ?_)
        have w1 : IntKind.i64.wrap (((pos + 2 : Nat) : Int) + 1) = ((pos + 1 + 2 : Nat) : Int) := by
          rw [show ((pos + 2 : Nat) : Int) + 1 = ((pos + 1 + 2 : Nat) : Int) by omega]; exact wrap_lt _ (by omega)
        simp only [↓reduceIte, EV, Nat.reduceEqDiff, r60_15, t10, w1]
        refine hK _ _ _ (C.seq fun K hK => ?_)
        have w2 : IntKind.i64.wrap (((pos + 1 + 2 : Nat) : Int) - 2) = ((pos + 1 : Nat) : Int) := by
          rw [show ((pos + 1 + 2 : Nat) : Int) - 2 = ((pos + 1 : Nat) : Int) by omega]; exact wrap_lt _ (by omega)
        have k15 : Keep nobody h2 ⟨h2.objs, h2.next + 15⟩ := ⟨by show h2.next ≤ h2.next + 15; omega, fun _ _ _ => rfl⟩
        have hr3 := hr2.keep0 k15
        have hs3 := hs2.keep0 k15
        obtain ⟨v2, s1, s2, _⟩ := hr3.mid (some (.int .i64 ((pos + 1 : Nat) : Int))) (pos + 1) (pos + 1 + 2) (.inr rfl) (by omega) (by omega) .i64
        rw [two_at hb (by rw [← hc])] at s2
        have goOn : ¬ At l (pos + 1) → ∀ (tm' : T Value), tg tm' 0 = v → tg tm' 1 = sep → tg tm' 5 = .int .u32 218109057 → tg tm' 6 = .int .u32 637696617 → tg tm' 7 = .int .i64 2 → tg tm' 10 = .int .i64 ((pos + 1 + 2 : Nat) : Int) → tg tm' 8 = .int .u32 (hp b.toNat c.toNat : Nat) → ∃ k', k' < l.length - (pos + 2) ∧ ∃ (pos : Nat) (a b : UInt8), k' = l.length - (pos + 2) ∧ pos + 2 ≤ l.length ∧ tg tm' 0 = v ∧ tg tm' 1 = sep ∧ tg tm' 5 = .int .u32 218109057 ∧ tg tm' 6 = .int .u32 637696617 ∧ tg tm' 7 = .int .i64 2 ∧ tg tm' 10 = .int .i64 ((pos + 2 : Nat) : Int) ∧ l[pos]? = some a ∧ l[pos + 1]? = some b ∧ tg tm' 8 = .int .u32 (hp a.toNat b.toNat : Nat) ∧ (∀ j, j < pos + 1 → ¬ At l j) ∧ Keep nobody h' ⟨h2.objs, h2.next + 15⟩ := fun hna tm' x0 x1 x5 x6 x7 x10 x8 =>
          ⟨l.length - (pos + 1 + 2), by omega, pos + 1, b, c, rfl, by omega, x0, x1, x5, x6, x7, x10, hb, by rw [← hc], x8, fun j hj => by
            by_cases g : j < pos + 1
            · exact hn j g
            · rw [show j = pos + 1 by omega]; exact hna, kp.then k15⟩
        by_cases q : ((hp b.toNat c.toNat : Nat) : Int) = 218109057
        · have sq : binV Tryd.prog .eql 9 false (.string ⟨([b, c] : List UInt8).toArray⟩) (.string ⟨([13, 10] : List UInt8).toArray⟩) = some (.bool (decide (([b, c] : List UInt8) = [13, 10]))) := sv_eql 9 false [b, c] [13, 10]
          have st2 := s2.str
          have st3 := hs3.str
          simp only [↓reduceIte, ↓EW, EV, Nat.reduceEqDiff, r60_16, t0, t1, t5, t7, decide_eq_true q, w2, s1, st2, st3, sq]
          by_cases hat : ([b, c] : List UInt8) = [13, 10]
          · have hat' : At l (pos + 1) := (chk_at hb (by rw [← hc])).2 hat
            rw [decide_eq_true hat]
            refine hK _ _ _ (C.cond true (by simp only [↓reduceIte, EV]) (fun _ => C.seq fun K hK => ?_) fun g => by cases g)
            simp only [↓reduceIte, EV, Nat.reduceEqDiff, r60_17, t7, w2]
            refine hK _ _ _ (C.ret ⟨kp.then k15, .inr ⟨rfl, ?_⟩⟩)
            rw [crlf_at hat' hn]
            simp only [↓reduceIte, EV]
          · have hat' : ¬ At l (pos + 1) := fun h => hat ((chk_at hb (by rw [← hc])).1 h)
            rw [decide_eq_false hat]
            exact hK _ _ _ (C.cond false (by simp only [↓reduceIte, EV]) (fun g => by cases g) fun _ => C.skip (goOn hat' _ (by simp only [↓reduceIte, EV, Nat.reduceEqDiff, t0]) (by simp only [↓reduceIte, EV, Nat.reduceEqDiff, t1]) (by simp only [↓reduceIte, EV, Nat.reduceEqDiff, t5]) (by simp only [↓reduceIte, EV, Nat.reduceEqDiff, t6]) (by simp only [↓reduceIte, EV, Nat.reduceEqDiff, t7]) (by simp only [↓reduceIte, EV, Nat.reduceEqDiff]) (by simp only [↓reduceIte, EV, Nat.reduceEqDiff])))
        · simp only [↓reduceIte, EV, Nat.reduceEqDiff, r60_16, t5, decide_eq_false q]
          exact hK _ _ _ (C.cond false (by simp only [↓reduceIte, EV]) (fun g => by cases g) fun _ => C.skip (goOn (chk_hash hb (by rw [← hc]) q) _ (by simp only [↓reduceIte, EV, Nat.reduceEqDiff, t0]) (by simp only [↓reduceIte, EV, Nat.reduceEqDiff, t1]) (by simp only [↓reduceIte, EV, Nat.reduceEqDiff, t5]) (by simp only [↓reduceIte, EV, Nat.reduceEqDiff, t6]) (by simp only [↓reduceIte, EV, Nat.reduceEqDiff, t7]) (by simp only [↓reduceIte, EV, Nat.reduceEqDiff]) (by simp only [↓reduceIte, EV, Nat.reduceEqDiff])))
      · have g' : ¬ ((pos + 2 : Nat) : Int) < (l.length : Int) := by omega
        simp only [EV, r60_11, t0, t10, hr2.len, decide_eq_false g']
        refine hK _ _ _ (C.cond false (by simp only [↓reduceIte, EV]) (fun g => by cases g) fun _ => C.exit ⟨kp, .inl ⟨rfl, crlf_none fun j ha => ?_⟩⟩)
        have := ha.lt
        exact hn j (by omega) ha
    · rintro e tm2 h2 ⟨kp, (⟨rfl, hc⟩ | ⟨rfl, t4⟩)⟩
      · show if 2 = 2 then _ else _
        rw [if_pos rfl]
        refine C.seq fun K hK => ?_
        simp only [r60_18]
        refine hK _ _ _ (C.ret ⟨rfl, ?_, kp⟩)
        rw [hc]
        simp only [↓reduceIte, EV]
      · exact ⟨rfl, t4, kp⟩
  have fin : ∀ e tm2 h2, (e = Ex.ret ∧ tg tm2 4 = .int .i64 (crlf l) ∧ Keep nobody h' h2) → (e = .norm ∨ e = .ret) ∧ ∃ l', q60.f tm2 h2 = some l' ∧ (resOf l' = .int .i64 (crlf l) ∧ Keep nobody h' h2) := by
    rintro e tm2 h2 ⟨rfl, t4, kp⟩
    refine ⟨.inr rfl, _, rfl, ?_, kp⟩
    simp only [resOf, t4]
  have hr2 := hr.keep0 kn
  have hs2 := hs.keep0 kn
  obtain ⟨v2, s1, s2, _⟩ := hr2.mid none 0 2 (.inl ⟨rfl, rfl⟩) (by omega) (by omega) .i64
  rw [two_at (i := 0) hx0 hx1] at s2
  refine C.seq (C.seq fun K hK => ?_)
  have s1' : sliceSl 1 v none (some (.int .i64 2)) none = some v2 := s1
  by_cases q : ((hp x0.toNat x1.toNat : Nat) : Int) = 218109057
  · have sq : binV Tryd.prog .eql 9 false (.string ⟨([x0, x1] : List UInt8).toArray⟩) (.string ⟨([13, 10] : List UInt8).toArray⟩) = some (.bool (decide (([x0, x1] : List UInt8) = [13, 10]))) := sv_eql 9 false [x0, x1] [13, 10]
    have st2 := s2.str
    have st3 := hs2.str
    simp only [↓EW, EV, r60_8, t0, t1, t5, t7, t8, decide_eq_true q, s1', st2, st3, sq]
    by_cases hat : ([x0, x1] : List UInt8) = [13, 10]
    · have hat' : At l 0 := (chk_at hx0 hx1).2 hat
      rw [decide_eq_true hat]
      refine hK _ _ _ (C.cond true (by simp only [↓reduceIte, EV]) (fun _ => C.seq fun K hK => ?_) fun g => by cases g)
      simp only [r60_9]
      refine hK _ _ _ (C.ret (fin _ _ _ ⟨rfl, ?_, kn⟩))
      rw [crlf_at hat' fun j hj => by omega]
      simp only [↓reduceIte, EV]; rfl
    · have hat' : ¬ At l 0 := fun h => hat ((chk_at hx0 hx1).1 h)
      rw [decide_eq_false hat]
      exact hK _ _ _ (C.cond false (by simp only [↓reduceIte, EV]) (fun g => by cases g) fun _ => C.skip ((rest _ (by simp only [↓reduceIte, EV, Nat.reduceEqDiff, t0]) (by simp only [↓reduceIte, EV, Nat.reduceEqDiff, t1]) (by simp only [↓reduceIte, EV, Nat.reduceEqDiff, t5]) (by simp only [↓reduceIte, EV, Nat.reduceEqDiff, t6]) (by simp only [↓reduceIte, EV, Nat.reduceEqDiff, t7]) (by simp only [↓reduceIte, EV, Nat.reduceEqDiff, t8]) hat').mono fin))
  · simp only [EV, r60_8, t5, t8, decide_eq_false q]
    exact hK _ _ _ (C.cond false (by simp only [↓reduceIte, EV]) (fun g => by cases g) fun _ => C.skip ((rest _ (by simp only [↓reduceIte, EV, Nat.reduceEqDiff, t0]) (by simp only [↓reduceIte, EV, Nat.reduceEqDiff, t1]) (by simp only [↓reduceIte, EV, Nat.reduceEqDiff, t5]) (by simp only [↓reduceIte, EV, Nat.reduceEqDiff, t6]) (by simp only [↓reduceIte, EV, Nat.reduceEqDiff, t7]) (by simp only [↓reduceIte, EV, Nat.reduceEqDiff, t8]) (chk_hash hx0 hx1 q)).mono fin))
end Go.Proofs.YthofbmfcpfibdaaDoor
