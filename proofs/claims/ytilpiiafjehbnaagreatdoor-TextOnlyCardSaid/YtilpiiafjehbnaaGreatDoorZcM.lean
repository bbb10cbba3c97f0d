import Derived.Test.YtilpiiafjehbnaaGreatDoorZcJ
set_option linter.unusedSimpArgs false
set_option linter.unusedVariables false
namespace Go.Proofs.YtilpiiafjehbnaaGreatDoor
open Go.Ev
def NOk (s : PS) : Prop := s.ok = true → -1 ≤ s.n ∧ s.n ≤ 512
theorem word_nok {s : PS} (h : NOk s) : NOk s.word.2 := by
 unfold PS.word
 split
 · intro e; cases e
 · exact h
theorem nok_and {s t : PS} {b : Bool} (h : NOk s) (hn : t.n = s.n) (ho : t.ok = (s.ok && b)) : NOk t := fun e => by
 rw [ho] at e
 rw [hn]
 exact h (by cases hs : s.ok with | true => rfl | false => rw [hs] at e; cases e)
theorem num_nok {s : PS} (m : Nat) (h : NOk s) : NOk (s.num m).2 := nok_and (word_nok h) rfl rfl
theorem key_nok {s : PS} (h : NOk s) : NOk s.key := nok_and (word_nok h) rfl rfl
theorem all_nok : ∀ (f : Nat) (s : PS), NOk s → NOk (PS.all f s)
 | 0, s, h => h
 | f + 1, s, h => by
   unfold PS.all
   split
   · exact h
   · exact all_nok f _ (key_nok h)
theorem n_nok {s : PS} : NOk s.nN := fun e => by
 have hu : upN s.word.1 512 = true := by
   have : (s.word.2.ok && upN s.word.1 512) = true := e
   exact (Bool.and_eq_true _ _ ▸ this : _ ∧ _).2
 have := (zN_up (by decide) hu).2
 show -1 ≤ IntKind.i64.wrap ((zN s.word.1 512 : Nat) : Int) ∧ IntKind.i64.wrap ((zN s.word.1 512 : Nat) : Int) ≤ 512
 rw [wrap_lt _ (by omega)]
 omega
theorem cmdL_nok : ∀ x ∈ cmdL, ∀ s : PS, NOk s → NOk (x.2 s) := by
 intro x hx s hs
 have cm : ∀ k, NOk { s with kind := 1, ck := k } := fun k => hs
 simp only [cmdL, List.mem_cons, List.not_mem_nil, or_false] at hx
 rcases hx with rfl | rfl | rfl | rfl | rfl | rfl | rfl | rfl | rfl | rfl | rfl | rfl | rfl | rfl | rfl
 · exact cm 11
 · exact num_nok (s := ({ s with kind := 1, ck := 9 } : PS).key) 1099511627776 (key_nok (cm 9))
 · exact num_nok (s := ({ s with kind := 1, ck := 7 } : PS).key) 18446744073709551615 (key_nok (cm 7))
 · exact num_nok (s := ({ s with kind := 1, ck := 6 } : PS).key) 18446744073709551615 (key_nok (cm 6))
 · exact n_nok (s := ({ s with kind := 1, ck := 8 } : PS).key)
 · exact num_nok (s := ({ s with kind := 1, ck := 5 } : PS).puts) 18446744073709551615 n_nok
 · exact n_nok
 · exact n_nok
 · exact n_nok
 · exact all_nok _ _ (key_nok (cm 10))
 · exact all_nok _ _ (key_nok (cm 1))
 · exact hs
 · exact hs
 · exact nok_and (word_nok hs) rfl rfl
 · exact nok_and (word_nok (num_nok 3 hs)) rfl rfl
theorem lineP_n {l : List UInt8} (h : (lineP l).2.2 = true) : -1 ≤ (lineP l).2.1 ∧ (lineP l).2.1 ≤ 512 := by
 unfold lineP at h ⊢
 split at h
 · cases h
 · rename_i E e
   split at h
   · cases h
   · rename_i hb
     rw [if_neg hb]
     obtain ⟨x, hx, rfl⟩ := lookL_mem _ _ _ e
     refine cmdL_nok x hx _ (word_nok fun _ => ⟨Int.le_refl _, by show (-1 : Int) ≤ 512; decide⟩) ?_
     unfold badP at hb
     cases ho : (x.2 (PS.init l).word.2).ok with
     | true => rfl
     | false => rw [ho] at hb; exact absurd rfl hb
def RQ.bad (c : Bool) : RQ := ⟨6, 0, [], [], 0, 0, 0, 0, 0, [], false, c⟩
def nextP (b : List UInt8) : RQ × Nat :=
 if crlf (b.take 514) < 0 then (if b.length < 514 then (.zero, 0) else (.bad true, b.length))
 else
   let i := (crlf (b.take 514)).toNat
   let q := lineP (b.take i)
   if q.2.2 = false then (.bad false, i + 2)
   else if q.2.1 < 0 then (q.1, i + 2)
   else if b.length < i + 2 + q.2.1.toNat + 2 then (.zero, 0)
   else if ¬ At b (i + 2 + q.2.1.toNat) then (.bad true, i + 2 + q.2.1.toNat + 2)
   else ({ q.1 with val := (b.take (i + 2 + q.2.1.toNat)).drop (i + 2) }, i + 2 + q.2.1.toNat + 2)
theorem nextP_neg {b : List UInt8} (h : crlf (b.take 514) = -1) : nextP b = if b.length < 514 then (.zero, 0) else (.bad true, b.length) := by
 unfold nextP
 rw [h, if_pos (by decide)]
theorem nextP_pos {b : List UInt8} {i : Nat} (h : crlf (b.take 514) = (i : Int)) : nextP b =
   if (lineP (b.take i)).2.2 = false then (.bad false, i + 2)
   else if (lineP (b.take i)).2.1 < 0 then ((lineP (b.take i)).1, i + 2)
   else if b.length < i + 2 + (lineP (b.take i)).2.1.toNat + 2 then (.zero, 0)
   else if ¬ At b (i + 2 + (lineP (b.take i)).2.1.toNat) then (.bad true, i + 2 + (lineP (b.take i)).2.1.toNat + 2)
   else ({ (lineP (b.take i)).1 with val := (b.take (i + 2 + (lineP (b.take i)).2.1.toNat)).drop (i + 2) }, i + 2 + (lineP (b.take i)).2.1.toNat + 2) := by
 unfold nextP
 rw [h, if_neg (by omega)]
 rfl
def NextQ (b : List UInt8) (h0 : H) (r : Value) (h' : H) : Prop := Keep nobody h0 h' ∧ ∃ kv, r = .tuple #[(nextP b).1.v kv, .int .i64 ((nextP b).2 : Int)] ∧ Strs h' kv (nextP b).1.keys ∧ ∀ c, blk kv c → h0.next ≤ c
def nilV : Value := .slice none 0 0
theorem nil_ones : ∀ r, ones (nilV :: r) = ones r := fun _ => rfl
theorem strs_ones {h : H} {v : Value} {l : List (List UInt8)} (a : Strs h v l) : ∀ r, ones (v :: r) = ones r := by
 rcases a with ⟨rfl, _⟩ | ⟨b, o, c, x, cs, rfl, _⟩ <;> exact fun _ => rfl
theorem zero13' : aggO (fill [(.int .u8 (0)), (.int .u8 (0)), (.int .i64 (0)), (.slice none 0 0), (.string (strB [])), (.int .u32 (0)), (.int .i64 (0)), (.int .u64 (0)), (.int .u64 (0)), (.int .i64 (0)), (.string (strB [])), (.bool false), (.bool false)] (plc [(0, 1), (1, 8), (9, 1), (10, 1), (11, 1), (12, 1)]) []) = some (RQ.zero.v nilV) := rfl
theorem bad13 : aggO (fill [(.int .u8 (0)), (.int .u8 (0)), (.int .i64 (0)), (.slice none 0 0), (.string (strB [])), (.int .u32 (0)), (.int .i64 (0)), (.int .u64 (0)), (.int .u64 (0)), (.int .i64 (0)), (.string (strB [])), (.bool false), (.bool false)] (plc [(0, 1), (1, 8), (9, 1), (10, 1), (11, 1), (12, 1)]) [(0, (.int .u8 (6)))]) = some ((RQ.bad false).v nilV) := rfl
theorem bad13c : aggO (fill [(.int .u8 (0)), (.int .u8 (0)), (.int .i64 (0)), (.slice none 0 0), (.string (strB [])), (.int .u32 (0)), (.int .i64 (0)), (.int .u64 (0)), (.int .u64 (0)), (.int .i64 (0)), (.string (strB [])), (.bool false), (.bool false)] (plc [(0, 1), (1, 8), (9, 1), (10, 1), (11, 1), (12, 1)]) [(0, (.int .u8 (6))), (5, (.bool true))]) = some ((RQ.bad true).v nilV) := rfl
theorem put13 {h : H} {Z : Nat} {cs : List Value} {q : RQ} {kv : Value} (hb : Has h Z (.rw cs (some 28))) (hc : cs.length = 13) (ho : ∀ r, ones (kv :: r) = ones r) (sp : Option Nat) : storeV 13 h (.pointer (some ⟨Z, 0, sp⟩)) (q.v kv) = some (h.put Z (.rw (q.cells kv) (some 28))) := store_has hb hc.symm rfl (ones13 ho _)
theorem get13 {h : H} {Z : Nat} {q : RQ} {kv : Value} (hb : Has h Z (.rw (q.cells kv) (some 28))) (sp : Option Nat) : loadAgg 13 h (.pointer (some ⟨Z, 0, sp⟩)) = some (q.v kv) := loadAgg_has (o := 0) (n := 13) hb rfl (by show 0 + 13 ≤ 13; omega)
theorem ret18 {b : List UInt8} {h0 h : H} {Z n : Nat} {tm : T Value} {q : RQ} {kv : Value} (t2 : tg tm 2 = .pointer (some ⟨Z, 0, none⟩)) (t3 : tg tm 3 = .int .i64 (n : Int)) (hz : Has h Z (.rw (q.cells kv) (some 28))) (hk : Keep nobody h0 h) (hs : Strs h kv q.keys) (hown : ∀ c, blk kv c → h0.next ≤ c) (e : nextP b = (q, n)) :
   ∃ l, q18.f tm h = some l ∧ NextQ b h0 (resOf l) h := by
 refine ⟨[q.v kv, .int .i64 (n : Int)], by simp only [q18, t2, t3, get13 hz], hk, kv, by rw [e]; rfl, by rw [e]; exact hs, hown⟩
theorem put_old {h0 h : H} {Z : Nat} {x : AObj} (kp : Keep nobody h0 h) (hz : h0.next ≤ Z) : Keep nobody h0 (h.put Z x) := kp.trans (Keep.put h Z x) fun b hb e => by subst e; omega
theorem strs_nil (h : H) : Strs h nilV [] := .inl ⟨rfl, rfl⟩
theorem nil_own (n : Nat) : ∀ c, blk nilV c → n ≤ c := fun c hc => by simp [nilV] at hc
theorem law18 (L n : Nat) (hL : 2000 ≤ L) {v : Value} {b : List UInt8} {h : H} {e : Value} {m : Int} (ev : Env0 e h) (h7 : 7 < h.next) (hM : Has h 0 (.ro [.int .i64 m])) (hr : Rd h v b) (hb : b.length ≤ 16384) :
   Sp (CF L (n + 13)) 18 [v] h (NextQ b h) := by
 refine Sp.body f18 (by simp) ?_
 unfold c18
 refine C.seq fun K hK => ?_
 have b0 := Has.new h (.rw (RQ.zero.cells nilV) (some 28))
 have k0 := Keep.new h (.rw (RQ.zero.cells nilV) (some 28))
 have n0 : (h.new (.rw (RQ.zero.cells nilV) (some 28))).next = h.next + 1 := rfl
 have hz : h.new (.rw [.int .u8 0, .int .u8 0, .int .i64 0, .slice none 0 0, .string (strB []), .int .u32 0, .int .i64 0, .int .u64 0, .int .u64 0, .int .i64 0, .string (strB []), .bool false, .bool false] (some 28)) = h.new (.rw (RQ.zero.cells nilV) (some 28)) := rfl
 simp only [↓EW, EV, r18_0, hz]
 generalize hZ : h.next = Z at *
 generalize h.new (.rw (RQ.zero.cells nilV) (some 28)) = h1 at *
 refine hK _ _ _ (C.seq fun K hK => ?_)
 have hr1 := hr.keep0 k0
 obtain ⟨w2, ew2, rw2, _⟩ := hr1.mid none 0 (min b.length 514) (.inl ⟨rfl, rfl⟩) (Nat.zero_le _) (Nat.min_le_left _ _) .i64
 have et : (b.take (min b.length 514)).drop 0 = b.take 514 := by
   rw [List.drop_zero]
   by_cases g : b.length ≤ 514
   · rw [Nat.min_eq_left g, List.take_of_length_le (Nat.le_refl _), List.take_of_length_le g]
   · rw [Nat.min_eq_right (by omega)]
 rw [et] at rw2
 simp only [seval, EV, r18_1, hr1.len, min514, ew2]
 refine hK _ _ _ (C.seq fun K hK => ?_)
 have b5 := Has.new h1 (.rw ([13, 10].map bv) (some 5))
 have k5 := Keep.new h1 (.rw ([13, 10].map bv) (some 5))
 simp only [seval, EV, r18_2, lit2]
 have n5 : (h1.new (.rw ([13, 10].map bv) (some 5))).next = h1.next + 1 := rfl
 generalize h1.new (.rw ([13, 10].map bv) (some 5)) = h2 at *
 obtain ⟨h3, em, k3⟩ := mark_eq (n := 2) (c := 2) b5
 simp only [EV, em]
 have sep : Rd h3 (.slice (some ⟨h1.next, 0, none⟩) 2 2) [13, 10] := .inr ⟨h1.next, 0, 2, _, _, rfl, b5.keep0 k3, rfl, by decide, rfl, .inr ⟨rfl, by decide⟩⟩
 have k03 := k0.then (k5.then k3)
 refine index28 L (n + 9) (by omega) (rw2.keep0 (k5.then k3)) sep (by rw [List.length_take]; omega) (hM.keep0 k03) _ fun r h4 hq => ?_
 obtain ⟨rfl, k4⟩ := hq
 have k14 := k5.then (k3.then k4)
 have k04 := k0.then k14
 have ev4 := ev.keep0 k04
 have hr4 := hr1.keep0 k14
 have b04 := b0.keep0 k14
 have hlt4 : 7 < h4.next := Nat.lt_of_lt_of_le (by omega) k04.next
 have zl : h.next ≤ Z := by omega
 refine hK _ _ _ ?_
 rcases crlf_cases b with hc | ⟨i, hc⟩
 · have hP := nextP_neg hc
   rw [hc]
   refine C.seq (C.block (C.seq fun K hK => ?_))
   have d0 : decide ((-1 : Int) < 0) = true := rfl
   by_cases g : (b.length : Int) < 514
   · rw [if_pos (by omega)] at hP
     simp only [seval, ↓opStep_eq, ↓EW, EV, r18_3, hr4.len, dT g]
     refine hK _ _ _ (C.ct (C.seq fun K hK => ?_))
     simp only [seval, EV, r18_4, zero13', put13 b04 rfl nil_ones]
     exact hK _ _ _ (C.ret ⟨.inr rfl, ret18 (by simp only [↓reduceIte, EV, Nat.reduceEqDiff]) (n := 0) (by simp only [↓reduceIte, EV]; rfl) (Has.put b04.1) (put_old k04 zl) (strs_nil _) (nil_own _) hP⟩)
   · rw [if_neg (by omega)] at hP
     simp only [seval, ↓opStep_eq, ↓EW, EV, r18_3, hr4.len, dF g]
     refine hK _ _ _ (C.cf <| C.seq fun K hK => ?_)
     simp only [seval, EV, r18_5]
     refine hK _ _ _ (C.ct (C.seq fun K hK => ?_))
     simp only [seval, EV, r18_6, bad13c, hr4.len, put13 b04 rfl nil_ones]
     exact hK _ _ _ (C.ret ⟨.inr rfl, ret18 (by simp only [seval, EV]) (by simp only [seval, EV]) (Has.put b04.1) (put_old k04 zl) (strs_nil _) (nil_own _) hP⟩)
 have hP := nextP_pos hc
 obtain ⟨hi1, hi2, _⟩ := crlf_pos hc
 rw [hc]
 have d0 : decide ((i : Int) < 0) = false := dF (by omega)
 refine C.seq (C.block (C.seq fun K hK => ?_))
 simp only [seval, ↓opStep_eq, ↓EW, EV, r18_3, d0]
 refine hK _ _ _ (C.cf <| C.seq fun K hK => ?_)
 simp only [seval, EV, r18_5, d0]
 refine hK _ _ _ (C.cf <| C.skip (C.seq fun K hK => ?_))
 obtain ⟨w3, ew3, rw3, _⟩ := hr4.mid none 0 i (.inl ⟨rfl, rfl⟩) (Nat.zero_le _) (by omega) .i64
 rw [List.drop_zero] at rw3
 have est : bytesStr h4 w3 = some (sv (b.take i)) := rw3.str
 simp only [seval, ↓EW, EV, r18_7, ew3, est]
 refine law30 L n hL (by rw [List.length_take]; omega) ev4 hlt4 _ fun r h5 hq => ?_
 obtain ⟨k45, kv, rfl, hs, own⟩ := hq
 have bnd := @lineP_n (b.take i)
 generalize lineP (b.take i) = q at *
 obtain ⟨q, m', is⟩ := q
 dsimp only at hP hs bnd
 have t3 : ∀ (x y z : Value) i, tupNth i (.tuple #[x, y, z]) = [x, y, z][i]? := fun x y z i => tupNth_tuple i [x, y, z]
 have st : storeV 13 (h5.new (.rw (RQ.zero.cells nilV) (some 28))) (.pointer (some ⟨h5.next, 0, none⟩)) (q.v kv) = some ((h5.new (.rw (RQ.zero.cells nilV) (some 28))).put h5.next (.rw (q.cells kv) (some 28))) := put13 (Has.new h5 _) rfl hs.ones.2 none
 have hz5 : h5.new (.rw [.int .u8 0, .int .u8 0, .int .i64 0, .slice none 0 0, .string (strB []), .int .u32 0, .int .i64 0, .int .u64 0, .int .u64 0, .int .i64 0, .string (strB []), .bool false, .bool false] (some 28)) = h5.new (.rw (RQ.zero.cells nilV) (some 28)) := rfl
 simp only [EV, t3, hz5, st]
 have b6 : Has ((h5.new (.rw (RQ.zero.cells nilV) (some 28))).put h5.next (.rw (q.cells kv) (some 28))) h5.next (.rw (q.cells kv) (some 28)) := Has.put (Nat.lt_succ_self _)
 have k6 := keep_alloc h5 (.rw (RQ.zero.cells nilV) (some 28)) (.rw (q.cells kv) (some 28))
 have nY : Z < h5.next := Nat.lt_of_lt_of_le (Nat.lt_of_lt_of_le (by omega : Z < h1.next) k14.next) k45.next
 generalize hY : h5.next = Y at *
 generalize (h5.new (.rw (RQ.zero.cells nilV) (some 28))).put Y (.rw (q.cells kv) (some 28)) = h6 at *
 have k46 := k45.then k6
 have k06 := k04.then k46
 have b06 := b04.keep0 k46
 have hr6 := hr4.keep0 k46
 have hs6 : Strs h6 kv q.keys := hs.strs.keep0 k6
 have own' : ∀ c, blk kv c → h.next ≤ c := fun c hc => Nat.le_trans k04.next (own c hc)
 have w2 : IntKind.i64.wrap ((i : Int) + 2) = ((i + 2 : Nat) : Int) := by
   rw [show (i : Int) + 2 = ((i + 2 : Nat) : Int) by omega]; exact wrap_lt _ (by omega)
 refine hK _ _ _ (C.seq fun K hK => ?_)
 simp only [seval, EV, r18_8, w2]
 refine hK _ _ _ (C.seq (C.block (C.seq fun K hK => ?_)))
 cases is with
 | false =>
   rw [if_pos rfl] at hP
   simp only [seval, EV, r18_9]
   refine hK _ _ _ (C.ct (C.seq fun K hK => ?_))
   simp only [seval, EV, r18_10, bad13, put13 b06 rfl nil_ones]
   exact hK _ _ _ (C.ret ⟨.inr rfl, ret18 (by simp only [seval, EV]) (by simp only [seval, EV]) (Has.put b06.1) (put_old k06 zl) (strs_nil _) (nil_own _) hP⟩)
 | true =>
   rw [if_neg (by decide)] at hP
   obtain ⟨bn1, bn2⟩ := bnd rfl
   simp only [seval, EV, r18_9]
   refine hK _ _ _ (C.cf <| C.seq fun K hK => ?_)
   by_cases g1 : m' < 0
   · rw [if_pos g1] at hP
     simp only [seval, EV, r18_11, dT g1]
     refine hK _ _ _ (C.ct (C.seq fun K hK => ?_))
     simp only [seval, EV, r18_12, get13 b6, put13 b06 rfl hs.ones.2]
     exact hK _ _ _ (C.ret ⟨.inr rfl, ret18 (by simp only [seval, EV]) (by simp only [seval, EV]) (Has.put b06.1) (put_old k06 zl) (hs6.keep (Keep.put h6 Z _) fun c hc e => by have := own c hc; have := k14.next; omega) own' hP⟩)
   rw [if_neg g1] at hP
   obtain ⟨m, rfl⟩ : ∃ m : Nat, m' = (m : Int) := ⟨m'.toNat, by omega⟩
   rw [show ((m : Nat) : Int).toNat = m from rfl] at hP
   have w3 : IntKind.i64.wrap (((i + 2 : Nat) : Int) + (m : Int)) = ((i + 2 + m : Nat) : Int) := by
     rw [show ((i + 2 : Nat) : Int) + (m : Int) = ((i + 2 + m : Nat) : Int) by omega]; exact wrap_lt _ (by omega)
   have w4 : IntKind.i64.wrap (((i + 2 + m : Nat) : Int) + 2) = ((i + 2 + m + 2 : Nat) : Int) := by
     rw [show ((i + 2 + m : Nat) : Int) + 2 = ((i + 2 + m + 2 : Nat) : Int) by omega]; exact wrap_lt _ (by omega)
   simp only [seval, EV, r18_11, dF g1]
   refine hK _ _ _ (C.cf <| C.seq fun K hK => ?_)
   by_cases g2 : (b.length : Int) < ((i + 2 + m + 2 : Nat) : Int)
   · rw [if_pos (by omega)] at hP
     simp only [seval, EV, r18_13, hr6.len, w3, w4, dT g2]
     refine hK _ _ _ (C.ct (C.seq fun K hK => ?_))
     simp only [seval, EV, r18_14, zero13', put13 b06 rfl nil_ones]
     exact hK _ _ _ (C.ret ⟨.inr rfl, ret18 (by simp only [↓reduceIte, EV, Nat.reduceEqDiff]) (n := 0) (by simp only [↓reduceIte, EV]; rfl) (Has.put b06.1) (put_old k06 zl) (strs_nil _) (nil_own _) hP⟩)
   rw [if_neg (by omega)] at hP
   simp only [seval, EV, r18_13, hr6.len, w3, w4, dF g2]
   refine hK _ _ _ (C.cf <| C.seq fun K hK => ?_)
   obtain ⟨w5, ew5, rw5, _⟩ := hr6.mid (some (.int .i64 ((i + 2 + m : Nat) : Int))) (i + 2 + m) (i + 2 + m + 2) (.inr rfl) (by omega) (by omega) .i64
   have est5 : bytesStr h6 w5 = some (sv ((b.take (i + 2 + m + 2)).drop (i + 2 + m))) := rw5.str
   have ab := at_bytes (l := b) (i := i + 2 + m) (by omega)
   have qn : ∀ c, binV Tryz.prog .neq 9 c (sv ((b.take (i + 2 + m + 2)).drop (i + 2 + m))) (.string (strB [13, 10])) = some (.bool (!decide ((b.take (i + 2 + m + 2)).drop (i + 2 + m) = [13, 10]))) := fun c => sv_neq 9 c _ [13, 10]
   by_cases g3 : At b (i + 2 + m)
   · rw [if_neg (fun h => h g3)] at hP
     simp only [seval, EV, r18_15, w3, w4, ew5, est5, qn, dT (ab.2 g3)]
     refine hK _ _ _ (C.cf <| C.skip (C.seq fun K hK => ?_))
     obtain ⟨w6, ew6, rw6, _⟩ := hr6.mid (some (.int .i64 ((i + 2 : Nat) : Int))) (i + 2) (i + 2 + m) (.inr rfl) (by omega) (by omega) .i64
     have est6 : bytesStr h6 w6 = some (sv ((b.take (i + 2 + m)).drop (i + 2))) := rw6.str
     generalize (b.take (i + 2 + m)).drop (i + 2) = val at *
     have st6 : ∀ sp, storeV 1 h6 (.pointer (some ⟨Y, 4, sp⟩)) (sv val) = some (h6.put Y (.rw (({ q with val := val } : RQ).cells kv) (some 28))) := fun sp => store_one b6 rfl rfl rfl
     simp only [seval, EV, r18_17, w3, ew6, est6, st6]
     have bY := Has.put (x := .rw (({ q with val := val } : RQ).cells kv) (some 28)) b6.1
     have kY := Keep.put h6 Y (.rw (({ q with val := val } : RQ).cells kv) (some 28))
     have b0Y := b06.keep kY (by omega)
     have hsY : Strs (h6.put Y (.rw (({ q with val := val } : RQ).cells kv) (some 28))) kv q.keys := hs6.keep kY fun c hc e => by have := hs.strs.lt hc; omega
     have k0Y := put_old (x := .rw (({ q with val := val } : RQ).cells kv) (some 28)) k06 (by omega : h.next ≤ Y)
     generalize h6.put Y (.rw (({ q with val := val } : RQ).cells kv) (some 28)) = h7' at *
     refine hK _ _ _ (C.seq fun K hK => ?_)
     simp only [seval, EV, r18_18, get13 bY, w3, w4, put13 b0Y rfl hs.ones.2]
     exact hK _ _ _ (C.ret ⟨.inr rfl, ret18 (by simp only [seval, EV]) (by simp only [seval, EV]) (Has.put b0Y.1) (put_old k0Y zl) (hsY.keep (Keep.put h7' Z _) fun c hc e => by have := own c hc; have := k14.next; omega) own' hP⟩)
   · rw [if_pos g3] at hP
     simp only [seval, EV, r18_15, w3, w4, ew5, est5, qn, dF (fun h => g3 (ab.1 h))]
     refine hK _ _ _ (C.ct (C.seq fun K hK => ?_))
     simp only [seval, EV, r18_16, bad13c, w3, w4, put13 b06 rfl nil_ones]
     exact hK _ _ _ (C.ret ⟨.inr rfl, ret18 (by simp only [seval, EV]) (by simp only [seval, EV]) (Has.put b06.1) (put_old k06 zl) (strs_nil _) (nil_own _) hP⟩)
def rowsR (l : List (RQ × Value)) : List Value := l.flatMap fun x => x.1.cells x.2
theorem rowsR_len (l : List (RQ × Value)) : (rowsR l).length = 13 * l.length := by
 induction l with
 | nil => rfl
 | cons x r ih =>
   show (x.1.cells x.2 ++ rowsR r).length = _
   rw [List.length_append, ih, List.length_cons]
   show 13 + 13 * r.length = _
   omega
theorem rowsR_at : ∀ (l : List (RQ × Value)) (i : Nat) (x : RQ × Value), l[i]? = some x → i * 13 + 13 ≤ (rowsR l).length ∧ ((rowsR l).drop (i * 13)).take 13 = x.1.cells x.2
 | [], i, x, h => by simp at h
 | y :: r, 0, x, h => by
   have : y = x := by simpa using h
   subst this
   refine ⟨by rw [rowsR_len, List.length_cons]; omega, ?_⟩
   rw [show 0 * 13 = 0 from rfl, List.drop_zero]
   show (y.1.cells y.2 ++ rowsR r).take 13 = _
   rw [List.take_append_of_le_length (by show 13 ≤ 13; omega)]
   rfl
 | y :: r, i + 1, x, h => by
   have h' : r[i]? = some x := by simpa using h
   obtain ⟨h1, h2⟩ := rowsR_at r i x h'
   refine ⟨by rw [rowsR_len] at h1 ⊢; rw [List.length_cons]; omega, ?_⟩
   show (((y.1.cells y.2 ++ rowsR r)).drop ((i + 1) * 13)).take 13 = _
   rw [show (i + 1) * 13 = 13 + i * 13 by omega, ← List.drop_drop, show (y.1.cells y.2 ++ rowsR r).drop 13 = rowsR r from rfl]
   exact h2
inductive MineR (h : H) : Value → List (RQ × Value) → Prop where
 | nil : MineR h (.slice none 0 0) []
 | op (b cap : Nat) (l : List (RQ × Value)) : Nat.ble OPEN cap = true → Nat.beq (szOf cap) 13 = true → Has h b (.op (rowsR l) 13 (some 28)) → MineR h (.slice (some ⟨b, 0, none⟩) l.length cap) l
theorem MineR.keep {S : Nat → Prop} {h h' : H} {v : Value} {l : List (RQ × Value)} (m : MineR h v l) (k : Keep S h h') (hn : ∀ b, blk v b → ¬ S b) : MineR h' v l := by
 cases m with
 | nil => exact .nil
 | op b cap l c1 c2 hb => exact .op b cap l c1 c2 (hb.keep k (hn b (by simp)))
theorem MineR.lt {h : H} {v : Value} {l : List (RQ × Value)} (m : MineR h v l) {b : Nat} (hb : blk v b) : b < h.next := by
 cases m with
 | nil => simp at hb
 | op b' cap l _ _ h1 => simp at hb; subst hb; exact h1.1
structure Reqs (n0 : Nat) (h : H) (v : Value) (l : List RQ) : Prop where
 ex : ∃ xs : List (RQ × Value), xs.map (·.1) = l ∧ MineR h v xs ∧ ∀ x ∈ xs, Strs h x.2 x.1.keys ∧ ∀ c, blk x.2 c → n0 ≤ c ∧ ¬ blk v c
 own : ∀ c, blk v c → n0 ≤ c
theorem Reqs.nil (n0 : Nat) (h : H) : Reqs n0 h nilV [] := ⟨⟨[], rfl, .nil, fun x hx => by simp at hx⟩, nil_own n0⟩
theorem Reqs.keep0 {n0 : Nat} {h h' : H} {v : Value} {l : List RQ} (a : Reqs n0 h v l) (k : Keep nobody h h') : Reqs n0 h' v l := by
 obtain ⟨xs, e, m, hx⟩ := a.ex
 exact ⟨⟨xs, e, m.keep k fun _ _ => id, fun x hm => ⟨(hx x hm).1.keep0 k, (hx x hm).2⟩⟩, a.own⟩
theorem Reqs.len {n0 : Nat} {h : H} {v : Value} {l : List RQ} (a : Reqs n0 h v l) : lenSl v = some (.int .i64 (l.length : Int)) := by
 obtain ⟨xs, rfl, m, hx⟩ := a.ex
 rw [List.length_map]
 cases m <;> rfl
theorem Reqs.at {n0 : Nat} {h : H} {v : Value} {l : List RQ} (a : Reqs n0 h v l) {i : Nat} {q : RQ} (hi : l[i]? = some q) :
   ∃ b o kv, indexSl 13 v (.int .i64 (i : Int)) = some (.pointer (some ⟨b, o, none⟩)) ∧ (∀ hx, Keep nobody h hx → ∀ s, loadAgg 13 hx (.pointer (some ⟨b, o, s⟩)) = some (q.v kv)) ∧ Strs h kv q.keys := by
 obtain ⟨xs, rfl, m, hx⟩ := a.ex
 rw [List.getElem?_map] at hi
 cases hxi : xs[i]? with
 | none => rw [hxi] at hi; cases hi
 | some x =>
   rw [hxi] at hi
   have : x.1 = q := by simpa using hi
   subst this
   have hlt : i < xs.length := (List.getElem?_eq_some_iff.1 hxi).1
   obtain ⟨h1, h2⟩ := rowsR_at xs i x hxi
   cases m with
   | nil => simp at hlt
   | op b cap xs c1 c2 hb =>
     refine ⟨b, 0 + i * 13, x.2, ?_, fun hx k s => ?_, (hx x (List.mem_of_getElem? hxi)).1⟩
     · simp only [indexSl, asNat_nat, addOff]
       rw [Nat.ble_eq_true_of_le (by omega)]
     · rw [loadAgg_has (hb.keep0 k) rfl (by omega), Nat.zero_add, h2]; rfl
theorem nextP_le (b : List UInt8) : (nextP b).2 ≤ b.length := by
 rcases crlf_cases b with hc | ⟨i, hc⟩
 · rw [nextP_neg hc]
   split
   · exact Nat.zero_le _
   · exact Nat.le_refl _
 · have := (crlf_pos hc).1
   rw [nextP_pos hc]
   split
   · show i + 2 ≤ _; omega
   · split
     · show i + 2 ≤ _; omega
     · split
       · exact Nat.zero_le _
       · rename_i h3
         split
         · show i + 2 + _ + 2 ≤ _; omega
         · show i + 2 + _ + 2 ≤ _; omega
def nextE (b : List UInt8) : RQ × Nat × Int := if 16384 < b.length then (.zero, 0, 3) else ((nextP b).1, (nextP b).2, 0)
def NextR (b : List UInt8) (h0 : H) (r : Value) (h' : H) : Prop := Keep nobody h0 h' ∧ ∃ kv, r = .tuple #[(nextE b).1.v kv, .int .i64 ((nextE b).2.1 : Int), .int .i64 (nextE b).2.2] ∧ Strs h' kv (nextE b).1.keys ∧ ∀ c, blk kv c → h0.next ≤ c
theorem ret10 {b : List UInt8} {h0 h : H} {Z n : Nat} {er : Int} {tm : T Value} {q : RQ} {kv : Value} (t2 : tg tm 2 = .pointer (some ⟨Z, 0, none⟩)) (t3 : tg tm 3 = .int .i64 (n : Int)) (t4 : tg tm 4 = .int .i64 er) (hz : Has h Z (.rw (q.cells kv) (some 28))) (hk : Keep nobody h0 h) (hs : Strs h kv q.keys) (hown : ∀ c, blk kv c → h0.next ≤ c) (e : nextE b = (q, n, er)) :
   ∃ l, q10.f tm h = some l ∧ NextR b h0 (resOf l) h := by
 refine ⟨[q.v kv, .int .i64 (n : Int), .int .i64 er], by simp only [q10, t2, t3, t4, get13 hz], hk, kv, by rw [e]; rfl, by rw [e]; exact hs, hown⟩
theorem own13 {h : H} {q : RQ} {kv : Value} (ho : ∀ r, ones (kv :: r) = ones r) : storeV 13 (h.new (.rw (RQ.zero.cells nilV) (some 28))) (.pointer (some ⟨h.next, 0, none⟩)) (q.v kv) = some ((h.new (.rw (RQ.zero.cells nilV) (some 28))).put h.next (.rw (q.cells kv) (some 28))) := put13 (Has.new h _) rfl ho none
theorem new13 (h : H) : h.new (.rw [.int .u8 0, .int .u8 0, .int .i64 0, .slice none 0 0, .string (strB []), .int .u32 0, .int .i64 0, .int .u64 0, .int .u64 0, .int .i64 0, .string (strB []), .bool false, .bool false] (some 28)) = h.new (.rw (RQ.zero.cells nilV) (some 28)) := rfl
theorem law10 (L n : Nat) (hL : 2000 ≤ L) {v : Value} {b : List UInt8} {h : H} {e : Value} {m : Int} (ev : Env0 e h) (h7 : 7 < h.next) (hM : Has h 0 (.ro [.int .i64 m])) (hr : Rd h v b) (hb : b.length ≤ 100000) :
   Sp (CF L (n + 14)) 10 [v] h (NextR b h) := by
 refine Sp.body f10 (by simp) ?_
 unfold c10
 refine C.seq fun K hK => ?_
 have b0 := Has.new h (.rw (RQ.zero.cells nilV) (some 28))
 have k0 := Keep.new h (.rw (RQ.zero.cells nilV) (some 28))
 have n0 : (h.new (.rw (RQ.zero.cells nilV) (some 28))).next = h.next + 1 := rfl
 simp only [↓EW, EV, r10_0, new13]
 generalize hZ : h.next = Z at *
 generalize h.new (.rw (RQ.zero.cells nilV) (some 28)) = h1 at *
 have zl : h.next ≤ Z := by omega
 have hr1 := hr.keep0 k0
 refine hK _ _ _ (C.seq (C.seq fun K hK => ?_))
 by_cases g : (16384 : Int) < (b.length : Int)
 · have hE : nextE b = (.zero, 0, 3) := by unfold nextE; rw [if_pos (by omega)]
   simp only [seval, EV, r10_1, hr1.len, dT g]
   refine hK _ _ _ (C.ct (C.seq fun K hK => ?_))
   simp only [seval, EV, r10_2, zero13', put13 b0 rfl nil_ones]
   exact hK _ _ _ (C.ret ⟨.inr rfl, ret10 (by simp only [↓reduceIte, EV, Nat.reduceEqDiff]) (n := 0) (by simp only [↓reduceIte, EV, Nat.reduceEqDiff]; rfl) (by simp only [↓reduceIte, EV]) (Has.put b0.1) (put_old k0 zl) (strs_nil _) (nil_own _) hE⟩)
 have hE : nextE b = ((nextP b).1, (nextP b).2, 0) := by unfold nextE; rw [if_neg (by omega)]
 simp only [seval, EV, r10_1, hr1.len, dF g]
 refine hK _ _ _ (C.cf <| C.skip (C.seq fun K hK => ?_))
 simp only [seval, ↓EW, EV, r10_3]
 refine law18 L n hL (ev.keep0 k0) (by omega) (hM.keep0 k0) hr1 (by omega) _ fun r h2 hq => ?_
 obtain ⟨k2, kv, rfl, hs, own⟩ := hq
 simp only [EV, tup2, new13, own13 (strs_ones hs)]
 have b6 : Has ((h2.new (.rw (RQ.zero.cells nilV) (some 28))).put h2.next (.rw ((nextP b).1.cells kv) (some 28))) h2.next (.rw ((nextP b).1.cells kv) (some 28)) := Has.put (Nat.lt_succ_self _)
 have k6 := keep_alloc h2 (.rw (RQ.zero.cells nilV) (some 28)) (.rw ((nextP b).1.cells kv) (some 28))
 have nn := k2.next
 generalize hY : h2.next = Y at *
 generalize (h2.new (.rw (RQ.zero.cells nilV) (some 28))).put Y (.rw ((nextP b).1.cells kv) (some 28)) = h6 at *
 have b06 := b0.keep0 (k2.then k6)
 have k06 := k0.then (k2.then k6)
 refine hK _ _ _ (C.seq fun K hK => ?_)
 simp only [seval, EV, r10_4, get13 b6, put13 b06 rfl (strs_ones hs)]
 exact hK _ _ _ (C.ret ⟨.inr rfl, ret10 (by simp only [seval, EV]) (by simp only [seval, EV]) (by simp only [seval, EV]) (Has.put b06.1) (put_old k06 zl) ((hs.keep0 k6).keep (Keep.put h6 Z _) fun c hc e => by have := own c hc; omega) (fun c hc => by have := own c hc; omega) hE⟩)
--@@ end
end Go.Proofs.YtilpiiafjehbnaaGreatDoor
