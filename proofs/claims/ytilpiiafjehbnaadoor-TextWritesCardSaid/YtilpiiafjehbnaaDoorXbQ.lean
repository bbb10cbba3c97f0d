import Derived.Test.YtilpiiafjehbnaaDoorXbO
set_option linter.unusedSimpArgs false
set_option linter.unusedVariables false
namespace Go.Proofs.YtilpiiafjehbnaaDoor
open Go.Ev

theorem cat_str (t : TypeId) (c : Bool) (x : List UInt8) (s : ByteArray) (h : x.length + s.size ≤ 1000000) : binV Tryd.prog .add t c (sv x) (.string s) = some (sv (x ++ s.data.toList)) := by
  rw [str_sv]; exact cat_sv t c _ _ h
theorem arr_size (l : List UInt8) : (⟨l.toArray⟩ : ByteArray).size = l.length := by simp [ByteArray.size]
theorem list_size (s : ByteArray) : s.data.toList.length = s.size := rfl
theorem text20 (L m : Nat) {z : Nat} (hz : z < 18446744073709551616) (h : H) : Sp (CF L (m + 20)) 19 [.int .u64 (z : Int)] h fun r h' => r = .string ⟨(dec z).toArray⟩ ∧ h' = h := text_law L 19 z m (by omega) hz h
theorem joinR_app : ∀ a b : List (List UInt8), joinR (a ++ b) = joinR a ++ joinR b
  | [], b => rfl
  | x :: a, b => by simp only [List.cons_append, joinR, joinR_app a b, List.append_assoc]
def n1 (c : Cmd) (k : Nat) : List UInt8 := if hg k = true then joinR [dec c.flags.toNat, dec c.fo.toNat] else []
def n2 (c : Cmd) (k : Nat) : List UInt8 := if hv k = true then joinR [dec c.val.size] else []
def n3 (c : Cmd) (k : Nat) : List UInt8 := if hc k = true then joinR [dec c.uniq.toNat] else []
def n4 (c : Cmd) (k : Nat) : List UInt8 := if hb k = true then joinR [dec c.by'.toNat] else []
def n5 (c : Cmd) (k : Nat) : List UInt8 := if k = 9 then joinR [dec c.fo.toNat] else []
theorem nums_eq (c : Cmd) {k : Nat} (h1 : 1 ≤ k) (h2 : k ≤ 11) : joinR (numsL c k) = n1 c k ++ n2 c k ++ n3 c k ++ n4 c k ++ n5 c k := by
  have hcs : k = 1 ∨ k = 2 ∨ k = 3 ∨ k = 4 ∨ k = 5 ∨ k = 6 ∨ k = 7 ∨ k = 8 ∨ k = 9 ∨ k = 10 ∨ k = 11 := by omega
  rcases hcs with rfl | rfl | rfl | rfl | rfl | rfl | rfl | rfl | rfl | rfl | rfl <;> simp [numsL, n1, n2, n3, n4, n5, hg, hv, hc, hb, joinR]
section
variable {L m : Nat} {tm : T Value} {h0 h : H} {b : Nat} {c : Cmd} {k : Nat} {acc : List UInt8}
/-- on the way: the text so far -/
structure Stp (c : Cmd) (h0 : H) (b : Nat) (acc : List UInt8) (tm : T Value) (h : H) : Prop where
  t1 : tg tm 1 = .pointer (some ⟨b, 0, none⟩)
  t4 : tg tm 4 = sv acc
  kp : Keep nobody h0 h
  has : Has h b (.rw c.cells (some 26))
theorem Stp.ld (a : Stp c h0 b acc tm h) : ∀ o s, loadOne h (.pointer (some ⟨b, o, s⟩)) = c.cells[o]? := fun o s => loadOne_has a.has rfl
/-- the numbers as naturals -/
theorem ncell (m : May c k) (hf : c.fit) : c.cells = [.int .u8 c.kind, .int .i64 c.ten, c.kv, .string c.val, .int .u32 ((c.flags.toNat : Nat) : Int), .int .i64 ((c.fo.toNat : Nat) : Int), .int .u64 ((c.uniq.toNat : Nat) : Int), .int .u64 ((c.by'.toNat : Nat) : Int)] := by
  have h1 := hf.flags
  have h2 := hf.uniq
  have h3 := hf.by'
  have h4 := m.fo
  rw [hcell, show ((c.flags.toNat : Nat) : Int) = c.flags by omega, show ((c.fo.toNat : Nat) : Int) = c.fo by omega, show ((c.uniq.toNat : Nat) : Int) = c.uniq by omega, show ((c.by'.toNat : Nat) : Int) = c.by' by omega]
theorem cblank (ha : acc.length ≤ 3000) : binV Tryd.prog .add 9 true (sv acc) (.string (strB [32])) = some (sv (acc ++ [32])) := cat_sv 9 true acc [32] (by simp only [List.length_cons, List.length_nil]; omega)
theorem cdec (z : Nat) (ha : acc.length ≤ 3000) (hz : z < 18446744073709551616) : binV Tryd.prog .add 9 false (sv (acc ++ [32])) (.string ⟨(dec z).toArray⟩) = some (sv (acc ++ (32 :: dec z))) := by
  have d := dec_len 19 z (by omega)
  rw [cat_str 9 false _ _ (by rw [arr_size, List.length_append]; simp only [List.length_cons, List.length_nil]; omega)]
  simp
theorem step1 (hm : May c k) (hf : c.fit) (hkk : c.kind = (k : Int)) (ha : acc.length ≤ 1000) (a : Stp c h0 b acc tm h) :
    C ⟨seqC ⟨r18_7⟩ ⟨condC ⟨fun _ tm => tg tm 33⟩ ⟨r18_8⟩ skipC⟩⟩ (CF L (m + 20)) L tm h fun e tm' h' => e = .norm ∧ Stp c h0 b (acc ++ n1 c k) tm' h' := by
  have ld := a.ld
  have h1 := hf.flags
  have h4 := hm.fo
  obtain ⟨t1, t4, kp, has⟩ := a
  refine C.seq fun K hK => ?_
  have e7 : r18_7 (CF L (m + 20)) L tm [] h K = K .norm (T.set tm 33 (.bool (hg k))) [] h := by
    rw [hg_int]
    by_cases g1 : 2 ≤ (k : Int) <;> by_cases g2 : (k : Int) ≤ 5 <;> simp only [↓opStep_eq, ↓reduceIte, ↓EW, EV, Nat.reduceAdd, Nat.reduceEqDiff, Int.reduceEq, Int.reduceLT, Int.reduceLE, Int.reduceNe, seqC, retC, skipC, exitC, blockC, condC, r18_7, t1, ld, hcell, hkk, g1, g2, Bool.true_or, Bool.false_or, Bool.or_true, Bool.or_false, Bool.true_and, Bool.false_and, Bool.and_true, Bool.and_false]
  rw [box_f, e7]
  cases hgk : hg k with
  | false =>
    refine hK .norm _ _ (C.cond false (by simp only [↓opStep_eq, ↓reduceIte, ↓EW, EV, Nat.reduceAdd, Nat.reduceEqDiff, Int.reduceEq, Int.reduceLT, Int.reduceLE, Int.reduceNe, seqC, retC, skipC, exitC, blockC, condC]) (fun g => by cases g) fun _ => C.skip ⟨rfl, ?_⟩)
    have : n1 c k = [] := by unfold n1; rw [hgk]; rfl
    rw [this, List.append_nil]
    exact ⟨by simp only [↓opStep_eq, ↓reduceIte, ↓EW, EV, Nat.reduceAdd, Nat.reduceEqDiff, Int.reduceEq, Int.reduceLT, Int.reduceLE, Int.reduceNe, seqC, retC, skipC, exitC, blockC, condC, t1], by simp only [↓opStep_eq, ↓reduceIte, ↓EW, EV, Nat.reduceAdd, Nat.reduceEqDiff, Int.reduceEq, Int.reduceLT, Int.reduceLE, Int.reduceNe, seqC, retC, skipC, exitC, blockC, condC, t4], kp, has⟩
  | true =>
    refine hK .norm _ _ (C.cond true (by simp only [↓opStep_eq, ↓reduceIte, ↓EW, EV, Nat.reduceAdd, Nat.reduceEqDiff, Int.reduceEq, Int.reduceLT, Int.reduceLE, Int.reduceNe, seqC, retC, skipC, exitC, blockC, condC]) (fun _ => fun K hK => ?_) fun g => by cases g)
    have k0 := keep_room h 14
    have has1 := has.keep0 k0
    have ldg : ∀ h', Has h' b (.rw c.cells (some 26)) → ∀ o s, loadOne h' (.pointer (some ⟨b, o, s⟩)) = c.cells[o]? := fun h' hb o s => loadOne_has hb rfl
    have fl : toInt .u64 (.int .u32 ((c.flags.toNat : Nat) : Int)) = some (.int .u64 ((c.flags.toNat : Nat) : Int)) := by rw [toInt_int, wrap_u64 _ (by omega)]
    have ti : toInt .u64 (.int .i64 ((c.fo.toNat : Nat) : Int)) = some (.int .u64 ((c.fo.toNat : Nat) : Int)) := by rw [toInt_int, wrap_u64 _ (by omega)]
    have hso := hO_self (veq_int .i64 ((c.fo.toNat : Nat) : Int))
    have dl := dec_len 19 c.flags.toNat (by omega)
    simp only [↓opStep_eq, ↓reduceIte, ↓EW, EV, Nat.reduceAdd, Nat.reduceEqDiff, Int.reduceEq, Int.reduceLT, Int.reduceLE, Int.reduceNe, seqC, retC, skipC, exitC, blockC, condC, r18_8, t1, t4, ldg _ has1, ncell hm hf, fl, ti, cblank (acc := acc) (by omega)]
    refine text20 L m (by omega) _ _ fun v h2 hq => ?_
    obtain ⟨rfl, rfl⟩ := hq
    simp only [↓opStep_eq, ↓reduceIte, ↓EW, EV, Nat.reduceAdd, Nat.reduceEqDiff, Int.reduceEq, Int.reduceLT, Int.reduceLE, Int.reduceNe, seqC, retC, skipC, exitC, blockC, condC, ldg _ has1, ncell hm hf, hso, Bool.and_true, cdec c.flags.toNat (acc := acc) (by omega) (by omega), cblank (acc := acc ++ (32 :: dec c.flags.toNat)) (by simp only [List.length_append, List.length_cons]; omega)]
    refine text20 L m (by omega) _ _ fun v h2 hq => ?_
    obtain ⟨rfl, rfl⟩ := hq
    simp only [↓opStep_eq, ↓reduceIte, ↓EW, EV, Nat.reduceAdd, Nat.reduceEqDiff, Int.reduceEq, Int.reduceLT, Int.reduceLE, Int.reduceNe, seqC, retC, skipC, exitC, blockC, condC, cdec c.fo.toNat (acc := acc ++ (32 :: dec c.flags.toNat)) (by simp only [List.length_append, List.length_cons]; omega) (by omega)]
    refine hK .norm _ _ ⟨rfl, ?_⟩
    have : acc ++ n1 c k = acc ++ (32 :: dec c.flags.toNat) ++ (32 :: dec c.fo.toNat) := by unfold n1; rw [hgk]; simp [joinR]
    rw [this]
    exact ⟨by simp only [↓opStep_eq, ↓reduceIte, ↓EW, EV, Nat.reduceAdd, Nat.reduceEqDiff, Int.reduceEq, Int.reduceLT, Int.reduceLE, Int.reduceNe, seqC, retC, skipC, exitC, blockC, condC, t1], by simp only [↓opStep_eq, ↓reduceIte, ↓EW, EV, Nat.reduceAdd, Nat.reduceEqDiff, Int.reduceEq, Int.reduceLT, Int.reduceLE, Int.reduceNe, seqC, retC, skipC, exitC, blockC, condC], kp.then k0, has1⟩
theorem step2 (hm : May c k) (hf : c.fit) (hkk : c.kind = (k : Int)) (ha : acc.length ≤ 2000) (a : Stp c h0 b acc tm h) :
    C ⟨seqC ⟨r18_9⟩ ⟨condC ⟨fun _ tm => tg tm 59⟩ ⟨r18_10⟩ skipC⟩⟩ (CF L (m + 20)) L tm h fun e tm' h' => e = .norm ∧ Stp c h0 b (acc ++ n2 c k) tm' h' := by
  have ld := a.ld
  have h4 := hm.val
  obtain ⟨t1, t4, kp, has⟩ := a
  refine C.seq fun K hK => ?_
  have e7 : r18_9 (CF L (m + 20)) L tm [] h K = K .norm (T.set tm 59 (.bool (hv k))) [] h := by
    rw [hv_int, hg_int]
    by_cases g1 : 2 ≤ (k : Int) <;> by_cases g2 : (k : Int) ≤ 5 <;> by_cases g3 : (k : Int) = 8 <;> simp only [↓opStep_eq, ↓reduceIte, ↓EW, EV, Nat.reduceAdd, Nat.reduceEqDiff, Int.reduceEq, Int.reduceLT, Int.reduceLE, Int.reduceNe, seqC, retC, skipC, exitC, blockC, condC, r18_9, t1, ld, hcell, hkk, g1, g2, g3, Bool.true_or, Bool.false_or, Bool.or_true, Bool.or_false, Bool.true_and, Bool.false_and, Bool.and_true, Bool.and_false]
  rw [box_f, e7]
  cases hgk : hv k with
  | false =>
    refine hK .norm _ _ (C.cond false (by simp only [↓opStep_eq, ↓reduceIte, ↓EW, EV, Nat.reduceAdd, Nat.reduceEqDiff, Int.reduceEq, Int.reduceLT, Int.reduceLE, Int.reduceNe, seqC, retC, skipC, exitC, blockC, condC]) (fun g => by cases g) fun _ => C.skip ⟨rfl, ?_⟩)
    have : n2 c k = [] := by unfold n2; rw [hgk]; rfl
    rw [this, List.append_nil]
    exact ⟨by simp only [↓opStep_eq, ↓reduceIte, ↓EW, EV, Nat.reduceAdd, Nat.reduceEqDiff, Int.reduceEq, Int.reduceLT, Int.reduceLE, Int.reduceNe, seqC, retC, skipC, exitC, blockC, condC, t1], by simp only [↓opStep_eq, ↓reduceIte, ↓EW, EV, Nat.reduceAdd, Nat.reduceEqDiff, Int.reduceEq, Int.reduceLT, Int.reduceLE, Int.reduceNe, seqC, retC, skipC, exitC, blockC, condC, t4], kp, has⟩
  | true =>
    refine hK .norm _ _ (C.cond true (by simp only [↓opStep_eq, ↓reduceIte, ↓EW, EV, Nat.reduceAdd, Nat.reduceEqDiff, Int.reduceEq, Int.reduceLT, Int.reduceLE, Int.reduceNe, seqC, retC, skipC, exitC, blockC, condC]) (fun _ => fun K hK => ?_) fun g => by cases g)
    have ti : toInt .u64 (.int .i64 (c.val.size : Int)) = some (.int .u64 (c.val.size : Int)) := by rw [toInt_int, wrap_u64 _ (by omega)]
    simp only [↓opStep_eq, ↓reduceIte, ↓EW, EV, Nat.reduceAdd, Nat.reduceEqDiff, Int.reduceEq, Int.reduceLT, Int.reduceLE, Int.reduceNe, seqC, retC, skipC, exitC, blockC, condC, r18_10, t1, t4, ld, hcell, lenStr_string, ti, cblank (acc := acc) (by omega)]
    refine text20 L m (by omega) _ _ fun v h2 hq => ?_
    obtain ⟨rfl, rfl⟩ := hq
    simp only [↓opStep_eq, ↓reduceIte, ↓EW, EV, Nat.reduceAdd, Nat.reduceEqDiff, Int.reduceEq, Int.reduceLT, Int.reduceLE, Int.reduceNe, seqC, retC, skipC, exitC, blockC, condC, cdec c.val.size (acc := acc) (by omega) (by omega)]
    refine hK .norm _ _ ⟨rfl, ?_⟩
    have : acc ++ n2 c k = acc ++ (32 :: dec c.val.size) := by unfold n2; rw [hgk]; simp [joinR]
    rw [this]
    exact ⟨by simp only [↓opStep_eq, ↓reduceIte, ↓EW, EV, Nat.reduceAdd, Nat.reduceEqDiff, Int.reduceEq, Int.reduceLT, Int.reduceLE, Int.reduceNe, seqC, retC, skipC, exitC, blockC, condC, t1], by simp only [↓opStep_eq, ↓reduceIte, ↓EW, EV, Nat.reduceAdd, Nat.reduceEqDiff, Int.reduceEq, Int.reduceLT, Int.reduceLE, Int.reduceNe, seqC, retC, skipC, exitC, blockC, condC], kp, has⟩
theorem step3 (hm : May c k) (hf : c.fit) (hkk : c.kind = (k : Int)) (ha : acc.length ≤ 2000) (a : Stp c h0 b acc tm h) :
    C ⟨seqC ⟨r18_11⟩ ⟨condC ⟨fun _ tm => tg tm 70⟩ ⟨r18_12⟩ skipC⟩⟩ (CF L (m + 20)) L tm h fun e tm' h' => e = .norm ∧ Stp c h0 b (acc ++ n3 c k) tm' h' := by
  have ld := a.ld
  have h4 := hf.uniq
  obtain ⟨t1, t4, kp, has⟩ := a
  refine C.seq fun K hK => ?_
  by_cases g : (k : Int) = 5
  · have hgk : hc k = true := by rw [hc_int]; exact decide_eq_true g
    simp only [↓opStep_eq, ↓reduceIte, ↓EW, EV, Nat.reduceAdd, Nat.reduceEqDiff, Int.reduceEq, Int.reduceLT, Int.reduceLE, Int.reduceNe, seqC, retC, skipC, exitC, blockC, condC, r18_11, t1, ld, hcell, hkk, g]
    refine hK .norm _ _ (C.cond true (by simp only [↓opStep_eq, ↓reduceIte, ↓EW, EV, Nat.reduceAdd, Nat.reduceEqDiff, Int.reduceEq, Int.reduceLT, Int.reduceLE, Int.reduceNe, seqC, retC, skipC, exitC, blockC, condC]) (fun _ => fun K hK => ?_) fun g => by cases g)
    simp only [↓opStep_eq, ↓reduceIte, ↓EW, EV, Nat.reduceAdd, Nat.reduceEqDiff, Int.reduceEq, Int.reduceLT, Int.reduceLE, Int.reduceNe, seqC, retC, skipC, exitC, blockC, condC, r18_12, t1, t4, ld, ncell hm hf, cblank (acc := acc) (by omega)]
    refine text20 L m (by omega) _ _ fun v h2 hq => ?_
    obtain ⟨rfl, rfl⟩ := hq
    simp only [↓opStep_eq, ↓reduceIte, ↓EW, EV, Nat.reduceAdd, Nat.reduceEqDiff, Int.reduceEq, Int.reduceLT, Int.reduceLE, Int.reduceNe, seqC, retC, skipC, exitC, blockC, condC, cdec c.uniq.toNat (acc := acc) (by omega) (by omega)]
    refine hK .norm _ _ ⟨rfl, ?_⟩
    have : acc ++ n3 c k = acc ++ (32 :: dec c.uniq.toNat) := by unfold n3; rw [hgk]; simp [joinR]
    rw [this]
    exact ⟨by simp only [↓opStep_eq, ↓reduceIte, ↓EW, EV, Nat.reduceAdd, Nat.reduceEqDiff, Int.reduceEq, Int.reduceLT, Int.reduceLE, Int.reduceNe, seqC, retC, skipC, exitC, blockC, condC, t1], by simp only [↓opStep_eq, ↓reduceIte, ↓EW, EV, Nat.reduceAdd, Nat.reduceEqDiff, Int.reduceEq, Int.reduceLT, Int.reduceLE, Int.reduceNe, seqC, retC, skipC, exitC, blockC, condC], kp, has⟩
  · have hgk : hc k = false := by rw [hc_int]; exact decide_eq_false g
    simp only [↓opStep_eq, ↓reduceIte, ↓EW, EV, Nat.reduceAdd, Nat.reduceEqDiff, Int.reduceEq, Int.reduceLT, Int.reduceLE, Int.reduceNe, seqC, retC, skipC, exitC, blockC, condC, r18_11, t1, ld, hcell, hkk, g]
    refine hK .norm _ _ (C.cond false (by simp only [↓opStep_eq, ↓reduceIte, ↓EW, EV, Nat.reduceAdd, Nat.reduceEqDiff, Int.reduceEq, Int.reduceLT, Int.reduceLE, Int.reduceNe, seqC, retC, skipC, exitC, blockC, condC]) (fun g => by cases g) fun _ => C.skip ⟨rfl, ?_⟩)
    have : n3 c k = [] := by unfold n3; rw [hgk]; rfl
    rw [this, List.append_nil]
    exact ⟨by simp only [↓opStep_eq, ↓reduceIte, ↓EW, EV, Nat.reduceAdd, Nat.reduceEqDiff, Int.reduceEq, Int.reduceLT, Int.reduceLE, Int.reduceNe, seqC, retC, skipC, exitC, blockC, condC, t1], by simp only [↓opStep_eq, ↓reduceIte, ↓EW, EV, Nat.reduceAdd, Nat.reduceEqDiff, Int.reduceEq, Int.reduceLT, Int.reduceLE, Int.reduceNe, seqC, retC, skipC, exitC, blockC, condC, t4], kp, has⟩
theorem step4 (hm : May c k) (hf : c.fit) (hkk : c.kind = (k : Int)) (ha : acc.length ≤ 2000) (a : Stp c h0 b acc tm h) :
    C ⟨seqC ⟨r18_13⟩ ⟨condC ⟨fun _ tm => tg tm 84⟩ ⟨r18_14⟩ skipC⟩⟩ (CF L (m + 20)) L tm h fun e tm' h' => e = .norm ∧ Stp c h0 b (acc ++ n4 c k) tm' h' := by
  have ld := a.ld
  have h4 := hf.by'
  obtain ⟨t1, t4, kp, has⟩ := a
  refine C.seq fun K hK => ?_
  have e7 : r18_13 (CF L (m + 20)) L tm [] h K = K .norm (T.set tm 84 (.bool (hb k))) [] h := by
    rw [hb_int]
    by_cases g1 : (k : Int) = 6 <;> by_cases g2 : (k : Int) = 7 <;> simp only [↓opStep_eq, ↓reduceIte, ↓EW, EV, Nat.reduceAdd, Nat.reduceEqDiff, Int.reduceEq, Int.reduceLT, Int.reduceLE, Int.reduceNe, seqC, retC, skipC, exitC, blockC, condC, r18_13, t1, ld, hcell, hkk, g1, g2, Bool.true_or, Bool.false_or, Bool.or_true, Bool.or_false, Bool.true_and, Bool.false_and, Bool.and_true, Bool.and_false]
  rw [box_f, e7]
  cases hgk : hb k with
  | false =>
    refine hK .norm _ _ (C.cond false (by simp only [↓opStep_eq, ↓reduceIte, ↓EW, EV, Nat.reduceAdd, Nat.reduceEqDiff, Int.reduceEq, Int.reduceLT, Int.reduceLE, Int.reduceNe, seqC, retC, skipC, exitC, blockC, condC]) (fun g => by cases g) fun _ => C.skip ⟨rfl, ?_⟩)
    have : n4 c k = [] := by unfold n4; rw [hgk]; rfl
    rw [this, List.append_nil]
    exact ⟨by simp only [↓opStep_eq, ↓reduceIte, ↓EW, EV, Nat.reduceAdd, Nat.reduceEqDiff, Int.reduceEq, Int.reduceLT, Int.reduceLE, Int.reduceNe, seqC, retC, skipC, exitC, blockC, condC, t1], by simp only [↓opStep_eq, ↓reduceIte, ↓EW, EV, Nat.reduceAdd, Nat.reduceEqDiff, Int.reduceEq, Int.reduceLT, Int.reduceLE, Int.reduceNe, seqC, retC, skipC, exitC, blockC, condC, t4], kp, has⟩
  | true =>
    refine hK .norm _ _ (C.cond true (by simp only [↓opStep_eq, ↓reduceIte, ↓EW, EV, Nat.reduceAdd, Nat.reduceEqDiff, Int.reduceEq, Int.reduceLT, Int.reduceLE, Int.reduceNe, seqC, retC, skipC, exitC, blockC, condC]) (fun _ => fun K hK => ?_) fun g => by cases g)
    simp only [↓opStep_eq, ↓reduceIte, ↓EW, EV, Nat.reduceAdd, Nat.reduceEqDiff, Int.reduceEq, Int.reduceLT, Int.reduceLE, Int.reduceNe, seqC, retC, skipC, exitC, blockC, condC, r18_14, t1, t4, ld, ncell hm hf, cblank (acc := acc) (by omega)]
    refine text20 L m (by omega) _ _ fun v h2 hq => ?_
    obtain ⟨rfl, rfl⟩ := hq
    simp only [↓opStep_eq, ↓reduceIte, ↓EW, EV, Nat.reduceAdd, Nat.reduceEqDiff, Int.reduceEq, Int.reduceLT, Int.reduceLE, Int.reduceNe, seqC, retC, skipC, exitC, blockC, condC, cdec c.by'.toNat (acc := acc) (by omega) (by omega)]
    refine hK .norm _ _ ⟨rfl, ?_⟩
    have : acc ++ n4 c k = acc ++ (32 :: dec c.by'.toNat) := by unfold n4; rw [hgk]; simp [joinR]
    rw [this]
    exact ⟨by simp only [↓opStep_eq, ↓reduceIte, ↓EW, EV, Nat.reduceAdd, Nat.reduceEqDiff, Int.reduceEq, Int.reduceLT, Int.reduceLE, Int.reduceNe, seqC, retC, skipC, exitC, blockC, condC, t1], by simp only [↓opStep_eq, ↓reduceIte, ↓EW, EV, Nat.reduceAdd, Nat.reduceEqDiff, Int.reduceEq, Int.reduceLT, Int.reduceLE, Int.reduceNe, seqC, retC, skipC, exitC, blockC, condC], kp, has⟩
theorem step5 (hm : May c k) (hf : c.fit) (hkk : c.kind = (k : Int)) (ha : acc.length ≤ 2000) (a : Stp c h0 b acc tm h) :
    C ⟨seqC ⟨r18_15⟩ ⟨condC ⟨fun _ tm => tg tm 93⟩ ⟨r18_16⟩ skipC⟩⟩ (CF L (m + 20)) L tm h fun e tm' h' => e = .norm ∧ Stp c h0 b (acc ++ n5 c k) tm' h' := by
  have ld := a.ld
  have h4 := hm.fo
  obtain ⟨t1, t4, kp, has⟩ := a
  refine C.seq fun K hK => ?_
  by_cases g : (k : Int) = 9
  · have hgk : k = 9 := by omega
    have ti : toInt .u64 (.int .i64 ((c.fo.toNat : Nat) : Int)) = some (.int .u64 ((c.fo.toNat : Nat) : Int)) := by rw [toInt_int, wrap_u64 _ (by omega)]
    simp only [↓opStep_eq, ↓reduceIte, ↓EW, EV, Nat.reduceAdd, Nat.reduceEqDiff, Int.reduceEq, Int.reduceLT, Int.reduceLE, Int.reduceNe, seqC, retC, skipC, exitC, blockC, condC, r18_15, t1, ld, hcell, hkk, g]
    refine hK .norm _ _ (C.cond true (by simp only [↓opStep_eq, ↓reduceIte, ↓EW, EV, Nat.reduceAdd, Nat.reduceEqDiff, Int.reduceEq, Int.reduceLT, Int.reduceLE, Int.reduceNe, seqC, retC, skipC, exitC, blockC, condC]) (fun _ => fun K hK => ?_) fun g => by cases g)
    simp only [↓opStep_eq, ↓reduceIte, ↓EW, EV, Nat.reduceAdd, Nat.reduceEqDiff, Int.reduceEq, Int.reduceLT, Int.reduceLE, Int.reduceNe, seqC, retC, skipC, exitC, blockC, condC, r18_16, t1, t4, ld, ncell hm hf, ti, cblank (acc := acc) (by omega)]
    refine text20 L m (by omega) _ _ fun v h2 hq => ?_
    obtain ⟨rfl, rfl⟩ := hq
    simp only [↓opStep_eq, ↓reduceIte, ↓EW, EV, Nat.reduceAdd, Nat.reduceEqDiff, Int.reduceEq, Int.reduceLT, Int.reduceLE, Int.reduceNe, seqC, retC, skipC, exitC, blockC, condC, cdec c.fo.toNat (acc := acc) (by omega) (by omega)]
    refine hK .norm _ _ ⟨rfl, ?_⟩
    have : acc ++ n5 c k = acc ++ (32 :: dec c.fo.toNat) := by unfold n5; rw [if_pos hgk]; simp [joinR]
    rw [this]
    exact ⟨by simp only [↓opStep_eq, ↓reduceIte, ↓EW, EV, Nat.reduceAdd, Nat.reduceEqDiff, Int.reduceEq, Int.reduceLT, Int.reduceLE, Int.reduceNe, seqC, retC, skipC, exitC, blockC, condC, t1], by simp only [↓opStep_eq, ↓reduceIte, ↓EW, EV, Nat.reduceAdd, Nat.reduceEqDiff, Int.reduceEq, Int.reduceLT, Int.reduceLE, Int.reduceNe, seqC, retC, skipC, exitC, blockC, condC], kp, has⟩
  · have hgk : ¬ k = 9 := by omega
    simp only [↓opStep_eq, ↓reduceIte, ↓EW, EV, Nat.reduceAdd, Nat.reduceEqDiff, Int.reduceEq, Int.reduceLT, Int.reduceLE, Int.reduceNe, seqC, retC, skipC, exitC, blockC, condC, r18_15, t1, ld, hcell, hkk, g]
    refine hK .norm _ _ (C.cond false (by simp only [↓opStep_eq, ↓reduceIte, ↓EW, EV, Nat.reduceAdd, Nat.reduceEqDiff, Int.reduceEq, Int.reduceLT, Int.reduceLE, Int.reduceNe, seqC, retC, skipC, exitC, blockC, condC]) (fun g => by cases g) fun _ => C.skip ⟨rfl, ?_⟩)
    have : n5 c k = [] := by unfold n5; rw [if_neg hgk]
    rw [this, List.append_nil]
    exact ⟨by simp only [↓opStep_eq, ↓reduceIte, ↓EW, EV, Nat.reduceAdd, Nat.reduceEqDiff, Int.reduceEq, Int.reduceLT, Int.reduceLE, Int.reduceNe, seqC, retC, skipC, exitC, blockC, condC, t1], by simp only [↓opStep_eq, ↓reduceIte, ↓EW, EV, Nat.reduceAdd, Nat.reduceEqDiff, Int.reduceEq, Int.reduceLT, Int.reduceLE, Int.reduceNe, seqC, retC, skipC, exitC, blockC, condC, t4], kp, has⟩
end
end Go.Proofs.YtilpiiafjehbnaaDoor

namespace Go.Proofs.YtilpiiafjehbnaaDoor
open Go.Ev

def nameV : List Value := nameN.map sv
theorem ix12 (b i : Nat) (h : i < 12) : indexArr 1 12 (.pointer (some ⟨b, 0, none⟩)) (.int .u8 (i : Int)) = some (.pointer (some ⟨b, i, none⟩)) := by
  simp only [indexArr, asNat_nat]
  rw [Nat.ble_eq_true_of_le h]
  simp [addOff]
theorem r18_1_eq : r18_1 = fun call _ tm ds h K => kA (some (.rw (List.replicate 12 (.string (strB []))) (some 64), ptrTo h.next)) ds h (fun v1 ds h => kH (withV undef (storeV 12 h v1 (.agg nameV.toArray))) ds (fun v2 ds h => K .norm (T.set tm 3 v1) ds h)) := rfl
theorem names_at {k : Nat} (h : k < 12) : nameV[k]? = some (sv (nameN.getD k [])) := by
  unfold nameV
  rw [List.getElem?_map, List.getD_eq_getElem?_getD, List.getElem?_eq_getElem (show k < nameN.length from h)]; rfl
theorem joinR_take {l : List (List UInt8)} {i : Nat} {p : List UInt8} (h : l[i]? = some p) : joinR (l.take (i + 1)) = joinR (l.take i) ++ (32 :: p) := by
  rw [List.take_add_one, h, joinR_app]; simp [joinR]
theorem joinR_le {l : List (List UInt8)} (h : l.length ≤ 8) (h2 : ∀ p ∈ l, p.length ≤ 32) (i : Nat) : (joinR (l.take i)).length ≤ 264 := by
  have h3 := sumL_le (l.take i) 32 fun p hp => h2 p (List.mem_of_mem_take hp)
  have h4 : (l.take i).length ≤ 8 := by rw [List.length_take]; omega
  have h5 : 32 * (l.take i).length ≤ 32 * 8 := Nat.mul_le_mul_left _ h4
  rw [joinR_len]; omega
theorem line_law (L m : Nat) (hL : 2000 ≤ L) {c : Cmd} {k : Nat} {h : H} (hkk : c.kind = (k : Int)) (hm : May c k) (hf : c.fit) (hs : Strs h c.kv c.keys) :
    Sp (CF L (m + 21)) 18 [c.v] h fun r h' => r = sv (lineL c k) ∧ Keep nobody h h' := by
  have hcc : (Value.cells c.v).toList = c.cells := rfl
  have k1 := Keep.new h (.rw c.cells (some 26))
  have b1 := Has.new h (.rw c.cells (some 26))
  have hs1 := hs.keep0 k1
  refine Sp.body f18 (by simp) ?_
  unfold c18
  refine C.seq fun K hK => ?_
  simp only [↓opStep_eq, ↓reduceIte, ↓EW, EV, Nat.reduceAdd, Nat.reduceEqDiff, Int.reduceEq, Int.reduceLT, Int.reduceLE, Int.reduceNe, seqC, retC, skipC, exitC, blockC, condC, r18_0, hcc]
  have nn1 : (h.new (.rw c.cells (some 26))).next = h.next + 1 := rfl
  generalize h.new (.rw c.cells (some 26)) = h1 at *
  refine hK .norm _ _ (C.seq fun K hK => ?_)
  have st := store_new h1 12 none (List.replicate 12 (.string (strB []))) (some 64) (.agg nameV.toArray) rfl rfl rfl
  have ec : (Value.cells (.agg nameV.toArray)).toList = nameV := rfl
  rw [ec] at st
  have k2 := keep_alloc h1 (.rw (List.replicate 12 (.string (strB []))) (some 64)) (.rw nameV (some 64))
  have b2 := has_alloc h1 (.rw (List.replicate 12 (.string (strB []))) (some 64)) (.rw nameV (some 64))
  rw [box_f, r18_1_eq]
  simp only [↓opStep_eq, ↓reduceIte, ↓EW, EV, Nat.reduceAdd, Nat.reduceEqDiff, Int.reduceEq, Int.reduceLT, Int.reduceLE, Int.reduceNe, seqC, retC, skipC, exitC, blockC, condC, ptrTo, st]
  generalize (h1.new (.rw (List.replicate 12 (.string (strB []))) (some 64))).put h1.next (.rw nameV (some 64)) = h2 at *
  have b12 := b1.keep0 k2
  have hs2 := hs1.keep0 k2
  have ld : ∀ o s, loadOne h2 (.pointer (some ⟨h.next, o, s⟩)) = c.cells[o]? := fun o s => loadOne_has b12 rfl
  obtain ⟨mk1, mk2⟩ := hm.kind
  have ln : ∀ s, loadOne h2 (.pointer (some ⟨h1.next, k, s⟩)) = some (sv (nameN.getD k [])) := fun s => by rw [loadOne_has b2 rfl, names_at (by omega)]
  refine hK .norm _ _ (C.seq fun K hK => ?_)
  simp only [↓opStep_eq, ↓reduceIte, ↓EW, EV, Nat.reduceAdd, Nat.reduceEqDiff, Int.reduceEq, Int.reduceLT, Int.reduceLE, Int.reduceNe, seqC, retC, skipC, exitC, blockC, condC, r18_2, ld, hcell, hkk, ix12 _ k (by omega), ln]
  refine hK .norm _ _ (C.seq (C.seq fun K hK => ?_))
  simp only [↓opStep_eq, ↓reduceIte, ↓EW, EV, Nat.reduceAdd, Nat.reduceEqDiff, Int.reduceEq, Int.reduceLT, Int.reduceLE, Int.reduceNe, seqC, retC, skipC, exitC, blockC, condC, r18_3]
  obtain ⟨nl, nn⟩ := name_len k mk1 mk2
  have kl : c.keys.length ≤ 8 := Nat.le_trans hm.keys.2 (hi_le k)
  refine hK .norm _ _ (C.block ?_)
  refine (C.loop (L := L) (fun kk tm h3 => ∃ i : Nat, kk = c.keys.length - i ∧ i ≤ c.keys.length ∧ tg tm 1 = .pointer (some ⟨h.next, 0, none⟩) ∧ tg tm 5 = .int .i64 (i : Int) ∧ tg tm 4 = sv (nameN.getD k [] ++ joinR (c.keys.take i)) ∧ h3 = h2) c.keys.length (by omega)
    ⟨0, rfl, Nat.zero_le _, by simp only [↓opStep_eq, ↓reduceIte, ↓EW, EV, Nat.reduceAdd, Nat.reduceEqDiff, Int.reduceEq, Int.reduceLT, Int.reduceLE, Int.reduceNe, seqC, retC, skipC, exitC, blockC, condC], by simp only [↓opStep_eq, ↓reduceIte, ↓EW, EV, Nat.reduceAdd, Nat.reduceEqDiff, Int.reduceEq, Int.reduceLT, Int.reduceLE, Int.reduceNe, seqC, retC, skipC, exitC, blockC, condC]; rfl, by simp only [↓opStep_eq, ↓reduceIte, ↓EW, EV, Nat.reduceAdd, Nat.reduceEqDiff, Int.reduceEq, Int.reduceLT, Int.reduceLE, Int.reduceNe, seqC, retC, skipC, exitC, blockC, condC, List.take_zero, joinR, List.append_nil], rfl⟩ ?_ : C (loopB l18_7) _ L _ h2 fun e tm h3 => e = .exit 0 ∧ h3 = h2 ∧ tg tm 1 = .pointer (some ⟨h.next, 0, none⟩) ∧ tg tm 4 = sv (nameN.getD k [] ++ joinR c.keys)).mono ?_
  · rintro kk tm h3 ⟨i, rfl, hil, t1, t5, t4, rfl⟩
    unfold l18_7
    refine C.seq (C.seq fun K hK => ?_)
    by_cases g : i < c.keys.length
    · have g' : (i : Int) < (c.keys.length : Int) := by omega
      obtain ⟨p, hp⟩ : ∃ p, c.keys[i]? = some p := ⟨_, List.getElem?_eq_getElem g⟩
      obtain ⟨bb, oo, ix, lx⟩ := hs2.at hp
      have pl := hm.len p (List.mem_of_getElem? hp)
      have jl := joinR_le kl hm.len i
      simp only [↓opStep_eq, ↓reduceIte, ↓EW, EV, Nat.reduceAdd, Nat.reduceEqDiff, Int.reduceEq, Int.reduceLT, Int.reduceLE, Int.reduceNe, seqC, retC, skipC, exitC, blockC, condC, r18_4, t1, t5, ld, hcell, hs2.len, decide_eq_true g']
      refine hK .norm _ _ (C.cond true (by simp only [↓opStep_eq, ↓reduceIte, ↓EW, EV, Nat.reduceAdd, Nat.reduceEqDiff, Int.reduceEq, Int.reduceLT, Int.reduceLE, Int.reduceNe, seqC, retC, skipC, exitC, blockC, condC]) (fun _ => C.skip (C.seq (C.block fun K hK => ?_))) fun g => by cases g)
      have c2 : binV Tryd.prog .add 9 false (sv (nameN.getD k [] ++ joinR (c.keys.take i) ++ [32])) (sv p) = some (sv (nameN.getD k [] ++ joinR (c.keys.take (i + 1)))) := by
        rw [cat_sv 9 false _ _ (by simp only [List.length_append, List.length_cons, List.length_nil]; omega), joinR_take hp]
        simp
      simp only [↓opStep_eq, ↓reduceIte, ↓EW, EV, Nat.reduceAdd, Nat.reduceEqDiff, Int.reduceEq, Int.reduceLT, Int.reduceLE, Int.reduceNe, seqC, retC, skipC, exitC, blockC, condC, r18_6, t1, t4, t5, ld, hcell, ix, lx, cblank (acc := nameN.getD k [] ++ joinR (c.keys.take i)) (by rw [List.length_append]; omega), c2]
      refine hK .norm _ _ fun K hK => ?_
      simp only [↓opStep_eq, ↓reduceIte, ↓EW, EV, Nat.reduceAdd, Nat.reduceEqDiff, Int.reduceEq, Int.reduceLT, Int.reduceLE, Int.reduceNe, seqC, retC, skipC, exitC, blockC, condC, r18_5, t5, wrap_succ i (by omega)]
      exact hK .norm _ _ ⟨c.keys.length - (i + 1), by omega, i + 1, rfl, by omega, by simp only [↓opStep_eq, ↓reduceIte, ↓EW, EV, Nat.reduceAdd, Nat.reduceEqDiff, Int.reduceEq, Int.reduceLT, Int.reduceLE, Int.reduceNe, seqC, retC, skipC, exitC, blockC, condC, t1], by simp only [↓opStep_eq, ↓reduceIte, ↓EW, EV, Nat.reduceAdd, Nat.reduceEqDiff, Int.reduceEq, Int.reduceLT, Int.reduceLE, Int.reduceNe, seqC, retC, skipC, exitC, blockC, condC], by simp only [↓opStep_eq, ↓reduceIte, ↓EW, EV, Nat.reduceAdd, Nat.reduceEqDiff, Int.reduceEq, Int.reduceLT, Int.reduceLE, Int.reduceNe, seqC, retC, skipC, exitC, blockC, condC], rfl⟩
    · have g' : ¬ (i : Int) < (c.keys.length : Int) := by omega
      obtain rfl : i = c.keys.length := by omega
      rw [List.take_length] at t4
      simp only [↓opStep_eq, ↓reduceIte, ↓EW, EV, Nat.reduceAdd, Nat.reduceEqDiff, Int.reduceEq, Int.reduceLT, Int.reduceLE, Int.reduceNe, seqC, retC, skipC, exitC, blockC, condC, r18_4, t1, t5, ld, hcell, hs2.len, decide_eq_false g']
      refine hK .norm _ _ (C.cond false (by simp only [↓opStep_eq, ↓reduceIte, ↓EW, EV, Nat.reduceAdd, Nat.reduceEqDiff, Int.reduceEq, Int.reduceLT, Int.reduceLE, Int.reduceNe, seqC, retC, skipC, exitC, blockC, condC]) (fun g => by cases g) fun _ => C.exit ⟨rfl, rfl, by simp only [↓opStep_eq, ↓reduceIte, ↓EW, EV, Nat.reduceAdd, Nat.reduceEqDiff, Int.reduceEq, Int.reduceLT, Int.reduceLE, Int.reduceNe, seqC, retC, skipC, exitC, blockC, condC, t1], by simp only [↓opStep_eq, ↓reduceIte, ↓EW, EV, Nat.reduceAdd, Nat.reduceEqDiff, Int.reduceEq, Int.reduceLT, Int.reduceLE, Int.reduceNe, seqC, retC, skipC, exitC, blockC, condC, t4]⟩)
  rintro e tm h3 ⟨rfl, rfl, t1, t4⟩
  show if 0 = 0 then _ else _
  rw [if_pos rfl]
  have jl := joinR_le kl hm.len c.keys.length
  rw [List.take_length] at jl
  have d1 := dec_len 19 c.flags.toNat (by have := hf.flags; omega)
  have d2 := dec_len 19 c.fo.toNat (by have := hm.fo; omega)
  have d3 := dec_len 19 c.val.size (by have := hm.val; omega)
  have d4 := dec_len 19 c.uniq.toNat (by have := hf.uniq; omega)
  have d5 := dec_len 19 c.by'.toNat (by have := hf.by'; omega)
  have l1 : (n1 c k).length ≤ 42 := by unfold n1; split <;> simp [joinR] <;> omega
  have l2 : (n2 c k).length ≤ 21 := by unfold n2; split <;> simp [joinR] <;> omega
  have l3 : (n3 c k).length ≤ 21 := by unfold n3; split <;> simp [joinR] <;> omega
  have l4 : (n4 c k).length ≤ 21 := by unfold n4; split <;> simp [joinR] <;> omega
  have l5 : (n5 c k).length ≤ 21 := by unfold n5; split <;> simp [joinR] <;> omega
  have s0 : Stp c h3 h.next (nameN.getD k [] ++ joinR c.keys) tm h3 := ⟨t1, t4, .refl _ _, b12⟩
  have a0 : (nameN.getD k [] ++ joinR c.keys).length ≤ 300 := by rw [List.length_append]; omega
  have jn := nums_eq c mk1 mk2
  have hlin : nameN.getD k [] ++ joinR (c.keys ++ numsL c k) = nameN.getD k [] ++ joinR c.keys ++ n1 c k ++ n2 c k ++ n3 c k ++ n4 c k ++ n5 c k := by
    rw [joinR_app, jn]; simp only [List.append_assoc]
  generalize nameN.getD k [] ++ joinR c.keys = acc at *
  refine C.seq ((step1 (m := m) hm hf hkk (by omega) s0).mono ?_)
  rintro e tm1 h4 ⟨rfl, s1⟩
  refine C.seq ((step2 (m := m) hm hf hkk (by simp only [List.length_append]; omega) s1).mono ?_)
  rintro e tm2 h5 ⟨rfl, s2⟩
  refine C.seq ((step3 (m := m) hm hf hkk (by simp only [List.length_append]; omega) s2).mono ?_)
  rintro e tm3 h6 ⟨rfl, s3⟩
  refine C.seq ((step4 (m := m) hm hf hkk (by simp only [List.length_append]; omega) s3).mono ?_)
  rintro e tm4 h7 ⟨rfl, s4⟩
  refine C.seq ((step5 (m := m) hm hf hkk (by simp only [List.length_append]; omega) s4).mono ?_)
  rintro e tm5 h8 ⟨rfl, s5⟩
  rw [← hlin] at s5
  have ln2 : (nameN.getD k [] ++ joinR (c.keys ++ numsL c k)).length ≤ 500 := by rw [hlin]; simp only [List.length_append]; omega
  have hl0 : lineL c k = nameN.getD k [] ++ joinR (c.keys ++ numsL c k) ++ [13, 10] ++ (if hv k = true then c.val.data.toList ++ [13, 10] else []) := rfl
  generalize nameN.getD k [] ++ joinR (c.keys ++ numsL c k) = acc2 at *
  have ld8 := s5.ld
  obtain ⟨t1, t4, kp, has8⟩ := s5
  refine C.seq fun K hK => ?_
  have c9 : binV Tryd.prog .add 9 true (sv acc2) (.string (strB [13, 10])) = some (sv (acc2 ++ [13, 10])) := cat_sv 9 true acc2 [13, 10] (by simp only [List.length_cons, List.length_nil]; omega)
  simp only [↓opStep_eq, ↓reduceIte, ↓EW, EV, Nat.reduceAdd, Nat.reduceEqDiff, Int.reduceEq, Int.reduceLT, Int.reduceLE, Int.reduceNe, seqC, retC, skipC, exitC, blockC, condC, r18_17, t4, c9]
  refine hK .norm _ _ (C.seq (C.seq fun K hK => ?_))
  have t1' : tg (T.set tm5 4 (sv (acc2 ++ [13, 10]))) 1 = .pointer (some ⟨h.next, 0, none⟩) := by simp only [↓opStep_eq, ↓reduceIte, ↓EW, EV, Nat.reduceAdd, Nat.reduceEqDiff, Int.reduceEq, Int.reduceLT, Int.reduceLE, Int.reduceNe, seqC, retC, skipC, exitC, blockC, condC, t1]
  have t4' : tg (T.set tm5 4 (sv (acc2 ++ [13, 10]))) 4 = sv (acc2 ++ [13, 10]) := by simp only [↓opStep_eq, ↓reduceIte, ↓EW, EV, Nat.reduceAdd, Nat.reduceEqDiff, Int.reduceEq, Int.reduceLT, Int.reduceLE, Int.reduceNe, seqC, retC, skipC, exitC, blockC, condC]
  generalize T.set tm5 4 (sv (acc2 ++ [13, 10])) = tm6 at *
  have e18 : r18_18 (CF L (m + 20)) L tm6 [] h8 K = K .norm (T.set tm6 115 (.bool (hv k))) [] h8 := by
    rw [hv_int, hg_int]
    by_cases g1 : 2 ≤ (k : Int) <;> by_cases g2 : (k : Int) ≤ 5 <;> by_cases g3 : (k : Int) = 8 <;> simp only [↓opStep_eq, ↓reduceIte, ↓EW, EV, Nat.reduceAdd, Nat.reduceEqDiff, Int.reduceEq, Int.reduceLT, Int.reduceLE, Int.reduceNe, seqC, retC, skipC, exitC, blockC, condC, r18_18, t1', ld8, hcell, hkk, g1, g2, g3, Bool.true_or, Bool.false_or, Bool.or_true, Bool.or_false, Bool.true_and, Bool.false_and, Bool.and_true, Bool.and_false]
  rw [box_f, e18]
  have fin : ∀ (tm : T Value), tg tm 4 = sv (lineL c k) → C ⟨seqC ⟨r18_20⟩ retC⟩ (CF L (m + 20)) L tm h8 fun e tm h' => (e = .norm ∨ e = .ret) ∧ ∃ l, q18.f tm h' = some l ∧ resOf l = sv (lineL c k) ∧ Keep nobody h h' := fun tm t4 => by
    refine C.seq fun K hK => ?_
    simp only [↓opStep_eq, ↓reduceIte, ↓EW, EV, Nat.reduceAdd, Nat.reduceEqDiff, Int.reduceEq, Int.reduceLT, Int.reduceLE, Int.reduceNe, seqC, retC, skipC, exitC, blockC, condC, r18_20, t4]
    refine hK .norm _ _ (C.ret ⟨.inr rfl, _, rfl, ?_, (k1.then k2).then kp⟩)
    simp only [↓opStep_eq, ↓reduceIte, ↓EW, EV, Nat.reduceAdd, Nat.reduceEqDiff, Int.reduceEq, Int.reduceLT, Int.reduceLE, Int.reduceNe, seqC, retC, skipC, exitC, blockC, condC, resOf]
  cases hh : hv k with
  | false =>
    refine hK .norm _ _ (C.cond false (by simp only [↓opStep_eq, ↓reduceIte, ↓EW, EV, Nat.reduceAdd, Nat.reduceEqDiff, Int.reduceEq, Int.reduceLT, Int.reduceLE, Int.reduceNe, seqC, retC, skipC, exitC, blockC, condC]) (fun g => by cases g) fun _ => C.skip (fin _ ?_))
    simp only [↓opStep_eq, ↓reduceIte, ↓EW, EV, Nat.reduceAdd, Nat.reduceEqDiff, Int.reduceEq, Int.reduceLT, Int.reduceLE, Int.reduceNe, seqC, retC, skipC, exitC, blockC, condC, t4']
    rw [hl0, hh]; simp
  | true =>
    have vl := hm.val
    have c10 : binV Tryd.prog .add 9 false (sv (acc2 ++ [13, 10])) (.string c.val) = some (sv (acc2 ++ [13, 10] ++ c.val.data.toList)) := cat_str 9 false _ _ (by simp only [List.length_append, List.length_cons, List.length_nil]; omega)
    have c11 : binV Tryd.prog .add 9 true (sv (acc2 ++ [13, 10] ++ c.val.data.toList)) (.string (strB [13, 10])) = some (sv (acc2 ++ [13, 10] ++ c.val.data.toList ++ [13, 10])) := cat_sv 9 true _ [13, 10] (by simp only [List.length_append, list_size, List.length_cons, List.length_nil]; omega)
    refine hK .norm _ _ (C.cond true (by simp only [↓opStep_eq, ↓reduceIte, ↓EW, EV, Nat.reduceAdd, Nat.reduceEqDiff, Int.reduceEq, Int.reduceLT, Int.reduceLE, Int.reduceNe, seqC, retC, skipC, exitC, blockC, condC]) (fun _ => fun K hK => ?_) fun g => by cases g)
    simp only [↓opStep_eq, ↓reduceIte, ↓EW, EV, Nat.reduceAdd, Nat.reduceEqDiff, Int.reduceEq, Int.reduceLT, Int.reduceLE, Int.reduceNe, seqC, retC, skipC, exitC, blockC, condC, r18_19, t1', t4', ld8, hcell, c10, c11]
    refine hK .norm _ _ (fin _ ?_)
    simp only [↓opStep_eq, ↓reduceIte, ↓EW, EV, Nat.reduceAdd, Nat.reduceEqDiff, Int.reduceEq, Int.reduceLT, Int.reduceLE, Int.reduceNe, seqC, retC, skipC, exitC, blockC, condC]
    rw [hl0, hh]; simp
end Go.Proofs.YtilpiiafjehbnaaDoor
