import Derived.Test.YtilpiiafjehbnaaGreatDoorZcW
set_option linter.unusedSimpArgs false
set_option linter.unusedVariables false
namespace Go.Proofs.YtilpiiafjehbnaaGreatDoor
open Go.Ev
theorem crlf_none5 {b : List UInt8} (h : ∀ j, j + 2 ≤ 514 → ¬ At b j) : crlf (b.take 514) = -1 := by
 rcases crlf_spec (b.take 514) with ⟨h1, _⟩ | ⟨j, h1, h2, _⟩
 · exact h1
 · obtain ⟨h3, h4⟩ := At.take.1 h2
   exact absurd h3 (h j (by omega))
theorem crlf_first {b : List UInt8} {j : Nat} (hj : At b j) (h5 : j ≤ 512) (h : ∀ i, i < j → ¬ At b i) : crlf (b.take 514) = (j : Int) := by
 have ht : At (b.take 514) j := At.take.2 ⟨hj, by omega⟩
 rcases crlf_spec (b.take 514) with ⟨h1, h2⟩ | ⟨i, h1, h2, h3⟩
 · exact absurd ht (h2 j)
 · obtain ⟨h4, h5'⟩ := At.take.1 h2
   have : i = j := by
     by_cases e : i < j
     · exact absurd h4 (h i e)
     · by_cases e2 : j < i
       · exact absurd ht (h3 j e2)
       · omega
   rw [h1, this]
theorem scan19 (L n : Nat) (hL : 2000 ≤ L) {v : Value} {b : List UInt8} {Z : Nat} {tm : T Value} {h : H} (hr : Rd h v b) (hb : b.length ≤ 100000) (t0 : tg tm 0 = v) (t2 : tg tm 2 = .pointer (some ⟨Z, 0, none⟩)) (t4 : tg tm 4 = .int .i64 (-1)) :
   C ⟨seqC ⟨r19_2⟩ ⟨blockC 0 (loopB l19_7)⟩⟩ (CF L n) L tm h fun e tm' h' => e = .norm ∧ h' = h ∧ tg tm' 0 = v ∧ tg tm' 2 = .pointer (some ⟨Z, 0, none⟩) ∧ tg tm' 4 = .int .i64 (crlf (b.take 514)) := by
 refine C.seq fun K hK => ?_
 simp only [r19_2]
 refine hK _ _ _ (C.block ?_)
 refine (C.loop (L := L) (fun m tm' h' => ∃ i : Nat, m = 514 - i ∧ i ≤ 513 ∧ h' = h ∧ tg tm' 0 = v ∧ tg tm' 2 = .pointer (some ⟨Z, 0, none⟩) ∧ tg tm' 5 = .int .i64 (i : Int) ∧ ((tg tm' 4 = .int .i64 (-1) ∧ ∀ j, j < i → ¬ At b j) ∨ ∃ j : Nat, tg tm' 4 = .int .i64 (j : Int) ∧ At b j ∧ j ≤ 512 ∧ ∀ i, i < j → ¬ At b i)) 514 (by omega)
   ⟨0, rfl, by omega, rfl, by simp only [↓reduceIte, EV, Nat.reduceEqDiff, t0], by simp only [↓reduceIte, EV, Nat.reduceEqDiff, t2], by simp only [↓reduceIte, EV]; rfl, .inl ⟨by simp only [↓reduceIte, EV, Nat.reduceEqDiff, t4], fun j hj => by omega⟩⟩ fun m tm' h' hi => ?_ :
   C (loopB l19_7) _ L _ h fun e tm' h' => e = .exit 0 ∧ h' = h ∧ tg tm' 0 = v ∧ tg tm' 2 = .pointer (some ⟨Z, 0, none⟩) ∧ tg tm' 4 = .int .i64 (crlf (b.take 514))).mono ?_
 · obtain ⟨i, hm, hi, rfl, t0, t2, t5, hj⟩ := hi
   have w1 : IntKind.i64.wrap ((i : Int) + 1) = ((i + 1 : Nat) : Int) := by
     rw [show (i : Int) + 1 = ((i + 1 : Nat) : Int) by omega]; exact wrap_lt _ (by omega)
   unfold l19_7
   refine C.seq (C.seq fun K hK => ?_)
   have out : ∀ tm', tg tm' 0 = v → tg tm' 2 = .pointer (some ⟨Z, 0, none⟩) → tg tm' 4 = .int .i64 (crlf (b.take 514)) → tg tm' 21 = .bool false → ∀ Q : Ex → T Value → H → Prop, Q (.exit 0) tm' h' → C ⟨condC (tC 21) skipC (exitC 0)⟩ (CF L n) L tm' h' Q := fun tm' e0 e2 e4 e21 Q hQ => C.cond false (by simp only [EV, e21]) (fun g => by cases g) fun _ => fun K hK => by simp only [exitC]; exact hK _ _ _ hQ
   rcases hj with ⟨t4, hno⟩ | ⟨j, t4, ha, hj5, hno⟩
   · by_cases g1 : ((i + 1 : Nat) : Int) < (b.length : Int)
     · by_cases g2 : (i : Int) ≤ 512
       · have d0 : decide ((-1 : Int) < 0) = true := rfl
         simp only [seval, ↓opStep_eq, ↓EW, EV, r19_3, t5, t0, hr.len, t4, w1, dT g1, dT g2]
         refine hK _ _ _ (C.ct (C.skip (C.seq (C.block (C.seq fun K hK => ?_)))))
         have hx : b[i]? = some b[i] := List.getElem?_eq_getElem (by omega)
         have hy : b[i + 1]? = some b[i + 1] := List.getElem?_eq_getElem (by omega)
         obtain ⟨b1, o1, e1, l1, _⟩ := hr.at hx
         obtain ⟨b2, o2, e2, l2, _⟩ := hr.at hy
         have q1 : ∀ cc, binV Tryz.prog .eql 5 cc (bv b[i]) (.int .u8 13) = some (.bool (decide (b[i] = 13))) := fun cc => eql_u8 5 cc b[i] 13
         have q2 : ∀ cc, binV Tryz.prog .eql 5 cc (bv b[i + 1]) (.int .u8 10) = some (.bool (decide (b[i + 1] = 10))) := fun cc => eql_u8 5 cc b[i + 1] 10
         have next : ∀ tm'', tg tm'' 0 = v → tg tm'' 2 = .pointer (some ⟨Z, 0, none⟩) → tg tm'' 5 = .int .i64 (i : Int) → ((tg tm'' 4 = .int .i64 (-1) ∧ ∀ j, j < i + 1 → ¬ At b j) ∨ ∃ j : Nat, tg tm'' 4 = .int .i64 (j : Int) ∧ At b j ∧ j ≤ 512 ∧ ∀ i, i < j → ¬ At b i) → C ⟨r19_4⟩ (CF L n) L tm'' h' fun e tm' h'' => match e with | .norm => ∃ k' < m, ∃ i : Nat, k' = 514 - i ∧ i ≤ 513 ∧ h'' = h' ∧ tg tm' 0 = v ∧ tg tm' 2 = .pointer (some ⟨Z, 0, none⟩) ∧ tg tm' 5 = .int .i64 (i : Int) ∧ ((tg tm' 4 = .int .i64 (-1) ∧ ∀ j, j < i → ¬ At b j) ∨ ∃ j : Nat, tg tm' 4 = .int .i64 (j : Int) ∧ At b j ∧ j ≤ 512 ∧ ∀ i, i < j → ¬ At b i) | e => e = .exit 0 ∧ h'' = h' ∧ tg tm' 0 = v ∧ tg tm' 2 = .pointer (some ⟨Z, 0, none⟩) ∧ tg tm' 4 = .int .i64 (crlf (b.take 514)) := fun tm'' e0 e2 e5 hor => by
           intro K hK
           rw [box_f]
           simp only [EV, r19_4, e5, w1]
           refine hK _ _ _ ⟨514 - (i + 1), by omega, i + 1, rfl, by omega, rfl, by simp only [seval, EV, e0], by simp only [seval, EV, e2], by simp only [seval, EV], ?_⟩
           rcases hor with ⟨e4, hn⟩ | ⟨j, e4, hn⟩
           · exact .inl ⟨by simp only [seval, EV, e4], hn⟩
           · exact .inr ⟨j, by simp only [seval, EV, e4], hn⟩
         have hat : At b i ↔ b[i] = 13 ∧ b[i + 1] = 10 := by unfold At; rw [hx, hy]; simp
         by_cases g3 : b[i] = 13
         · by_cases g4 : b[i + 1] = 10
           · simp only [seval, ↓opStep_eq, ↓EW, EV, r19_5, t0, t5, e1, l1, q1, w1, e2, l2, q2, dT g3, dT g4]
             refine hK _ _ _ (C.ct (fun K hK => ?_))
             rw [box_f]
             simp only [seval, EV, r19_6, t5]
             exact hK _ _ _ (next _ (by simp only [seval, EV, t0]) (by simp only [seval, EV, t2]) (by simp only [seval, EV, t5]) (.inr ⟨i, by simp only [seval, EV], hat.2 ⟨g3, g4⟩, by omega, hno⟩))
           · simp only [seval, ↓opStep_eq, ↓EW, EV, r19_5, t0, t5, e1, l1, q1, w1, e2, l2, q2, dT g3, dF g4]
             refine hK _ _ _ (C.cf <| C.skip (next _ (by simp only [seval, EV, t0]) (by simp only [seval, EV, t2]) (by simp only [seval, EV, t5]) (.inl ⟨by simp only [seval, EV, t4], fun j hj => ?_⟩)))
             by_cases e : j = i
             · subst e; exact fun h => g4 (hat.1 h).2
             · exact hno j (by omega)
         · simp only [seval, ↓opStep_eq, ↓EW, EV, r19_5, t0, t5, e1, l1, q1, dF g3]
           refine hK _ _ _ (C.cf <| C.skip (next _ (by simp only [seval, EV, t0]) (by simp only [seval, EV, t2]) (by simp only [seval, EV, t5]) (.inl ⟨by simp only [seval, EV, t4], fun j hj => ?_⟩)))
           by_cases e : j = i
           · subst e; exact fun h => g3 (hat.1 h).1
           · exact hno j (by omega)
       · have hc : crlf (b.take 514) = -1 := crlf_none5 fun j hj => hno j (by omega)
         simp only [seval, ↓opStep_eq, ↓EW, EV, r19_3, t5, t0, hr.len, w1, dT g1, dF g2]
         exact hK _ _ _ (out _ (by simp only [seval, EV, t0]) (by simp only [seval, EV, t2]) (by simp only [seval, EV, t4, hc]) (by simp only [seval, EV]) _ ⟨rfl, rfl, by simp only [seval, EV, t0], by simp only [seval, EV, t2], by simp only [seval, EV, t4, hc]⟩)
     · have hc : crlf (b.take 514) = -1 := crlf_none5 fun j hj ha => by
         by_cases e : j < i
         · exact hno j e ha
         · have := ha.lt; omega
       simp only [seval, ↓opStep_eq, ↓EW, EV, r19_3, t5, t0, hr.len, w1, dF g1]
       exact hK _ _ _ (out _ (by simp only [seval, EV, t0]) (by simp only [seval, EV, t2]) (by simp only [seval, EV, t4, hc]) (by simp only [seval, EV]) _ ⟨rfl, rfl, by simp only [seval, EV, t0], by simp only [seval, EV, t2], by simp only [seval, EV, t4, hc]⟩)
   · have hc := crlf_first ha hj5 hno
     have d0 : decide ((j : Int) < 0) = false := dF (by omega)
     by_cases g1 : ((i + 1 : Nat) : Int) < (b.length : Int)
     · by_cases g2 : (i : Int) ≤ 512
       · simp only [seval, ↓opStep_eq, ↓EW, EV, r19_3, t5, t0, hr.len, t4, w1, dT g1, dT g2, d0]
         exact hK _ _ _ (out _ (by simp only [seval, EV, t0]) (by simp only [seval, EV, t2]) (by simp only [seval, EV, t4, hc]) (by simp only [seval, EV]) _ ⟨rfl, rfl, by simp only [seval, EV, t0], by simp only [seval, EV, t2], by simp only [seval, EV, t4, hc]⟩)
       · simp only [seval, ↓opStep_eq, ↓EW, EV, r19_3, t5, t0, hr.len, w1, dT g1, dF g2]
         exact hK _ _ _ (out _ (by simp only [seval, EV, t0]) (by simp only [seval, EV, t2]) (by simp only [seval, EV, t4, hc]) (by simp only [seval, EV]) _ ⟨rfl, rfl, by simp only [seval, EV, t0], by simp only [seval, EV, t2], by simp only [seval, EV, t4, hc]⟩)
     · simp only [seval, ↓opStep_eq, ↓EW, EV, r19_3, t5, t0, hr.len, w1, dF g1]
       exact hK _ _ _ (out _ (by simp only [seval, EV, t0]) (by simp only [seval, EV, t2]) (by simp only [seval, EV, t4, hc]) (by simp only [seval, EV]) _ ⟨rfl, rfl, by simp only [seval, EV, t0], by simp only [seval, EV, t2], by simp only [seval, EV, t4, hc]⟩)
 · rintro e tm' h' ⟨rfl, hq⟩
   exact ⟨rfl, hq⟩
theorem law19 (L n : Nat) (hL : 2000 ≤ L) {v : Value} {b : List UInt8} {h : H} (hr : Rd h v b) (hb : b.length ≤ 100000) :
   Sp (CF L (n + 6)) 19 [v] h (NextQ b h) := by
 refine Sp.body f19 (by simp) ?_
 have eq1819 : q19 = q18 := rfl
 unfold c19
 refine C.seq fun K hK => ?_
 have b0 := Has.new h (.rw (RQ.zero.cells nilV) (some 28))
 have k04 := Keep.new h (.rw (RQ.zero.cells nilV) (some 28))
 have n0 : (h.new (.rw (RQ.zero.cells nilV) (some 28))).next = h.next + 1 := rfl
 simp only [↓EW, EV, r19_0, new13]
 generalize hZ : h.next = Z at *
 generalize h.new (.rw (RQ.zero.cells nilV) (some 28)) = h4 at *
 refine hK _ _ _ (C.seq fun K hK => ?_)
 have hr4 := hr.keep0 k04
 have zl : h.next ≤ Z := by omega
 simp only [r19_1]
 refine hK _ _ _ (C.seq ((scan19 L (n + 5) hL hr4 hb (Z := Z) (by simp only [seval, EV]) (by simp only [seval, EV]) (by simp only [seval, EV])).mono ?_))
 rintro e tm h4' ⟨rfl, rfl, e0, e2, e4⟩
 rw [eq1819]
 rcases crlf_cases b with hc | ⟨i, hc⟩
 · have hP := nextP_neg hc
   rw [hc] at e4
   have d0 : decide ((-1 : Int) < 0) = true := rfl
   refine C.seq (C.seq fun K hK => ?_)
   simp only [seval, EV, r19_7, e4]
   refine hK _ _ _ (C.ct (C.seq (C.seq fun K hK => ?_)))
   by_cases g : (b.length : Int) < 514
   · rw [if_pos (by omega)] at hP
     simp only [seval, EV, r19_8, e0, hr4.len, dT g]
     refine hK _ _ _ (C.ct (C.seq fun K hK => ?_))
     simp only [seval, EV, r19_9, e2, zero13', put13 b0 rfl nil_ones]
     exact hK _ _ _ (C.ret ⟨.inr rfl, ret18 (by simp only [↓reduceIte, EV, Nat.reduceEqDiff, e2]) (n := 0) (by simp only [↓reduceIte, EV]; rfl) (Has.put b0.1) (put_old k04 zl) (strs_nil _) (nil_own _) hP⟩)
   · rw [if_neg (by omega)] at hP
     simp only [seval, EV, r19_8, e0, hr4.len, dF g]
     refine hK _ _ _ (C.cf <| C.skip (C.seq fun K hK => ?_))
     simp only [seval, EV, r19_10, e0, e2, bad13c, hr4.len, put13 b0 rfl nil_ones]
     exact hK _ _ _ (C.ret ⟨.inr rfl, ret18 (by simp only [seval, EV, e2]) (by simp only [seval, EV]) (Has.put b0.1) (put_old k04 zl) (strs_nil _) (nil_own _) hP⟩)
 have hP := nextP_pos hc
 obtain ⟨hi1, hi2, _⟩ := crlf_pos hc
 rw [hc] at e4
 have d0 : decide ((i : Int) < 0) = false := dF (by omega)
 refine C.seq (C.seq fun K hK => ?_)
 simp only [EV, r19_7, e4, d0]
 refine hK _ _ _ (C.cf <| C.skip (C.seq fun K hK => ?_))
 obtain ⟨w3, ew3, rw3, _⟩ := hr4.mid none 0 i (.inl ⟨rfl, rfl⟩) (Nat.zero_le _) (by omega) .i64
 rw [List.drop_zero] at rw3
 have est : bytesStr h4' w3 = some (sv (b.take i)) := rw3.str
 simp only [seval, ↓EW, EV, r19_11, e0, e4, ew3, est]
 refine law31 L n hL (by rw [List.length_take]; omega) _ _ fun r h5 hq => ?_
 obtain ⟨k45, q, kv, m', rfl, hs, own, hq2⟩ := hq
 have bnd := @lineP_n (b.take i)
 generalize lineP (b.take i) = p at *
 obtain ⟨p, mp, is⟩ := p
 dsimp only at hP hq2 bnd
 simp only [EV, tup3, new13, own13 (strs_ones hs)]
 have b6 : Has ((h5.new (.rw (RQ.zero.cells nilV) (some 28))).put h5.next (.rw (q.cells kv) (some 28))) h5.next (.rw (q.cells kv) (some 28)) := Has.put (Nat.lt_succ_self _)
 have k6 := keep_alloc h5 (.rw (RQ.zero.cells nilV) (some 28)) (.rw (q.cells kv) (some 28))
 have nY : Z < h5.next := Nat.lt_of_lt_of_le (by omega : Z < h4'.next) k45.next
 have own : ∀ c, blk kv c → Z < c := fun c hc => by have := own c hc; omega
 generalize hY : h5.next = Y at *
 generalize (h5.new (.rw (RQ.zero.cells nilV) (some 28))).put Y (.rw (q.cells kv) (some 28)) = h6 at *
 have k46 := k45.then k6
 have k06 := k04.then k46
 have b06 := b0.keep0 k46
 have hr6 := hr4.keep0 k46
 have hs6 : Strs h6 kv q.keys := hs.keep0 k6
 have own' : ∀ c, blk kv c → h.next ≤ c := fun c hc => by have := own c hc; omega
 have w2 : IntKind.i64.wrap ((i : Int) + 2) = ((i + 2 : Nat) : Int) := by
   rw [show (i : Int) + 2 = ((i + 2 : Nat) : Int) by omega]; exact wrap_lt _ (by omega)
 refine hK _ _ _ (C.seq fun K hK => ?_)
 simp only [seval, EV, r19_12, e4, w2]
 refine hK _ _ _ (C.seq (C.seq fun K hK => ?_))
 cases is with
 | false =>
   rw [if_pos rfl] at hP
   simp only [seval, EV, r19_13]
   refine hK _ _ _ (C.ct (C.seq fun K hK => ?_))
   simp only [seval, EV, r19_14, e2, bad13, put13 b06 rfl nil_ones]
   exact hK _ _ _ (C.ret ⟨.inr rfl, ret18 (by simp only [seval, EV, e2]) (by simp only [seval, EV]) (Has.put b06.1) (put_old k06 zl) (strs_nil _) (nil_own _) hP⟩)
 | true =>
   rw [if_neg (by decide)] at hP
   obtain ⟨bn1, bn2⟩ := bnd rfl
   obtain ⟨rfl, rfl⟩ := hq2 rfl
   simp only [seval, EV, r19_13]
   refine hK _ _ _ (C.cf <| C.skip (C.seq (C.seq fun K hK => ?_)))
   by_cases g1 : m' < 0
   · rw [if_pos g1] at hP
     simp only [seval, EV, r19_15, dT g1]
     refine hK _ _ _ (C.ct (C.seq fun K hK => ?_))
     simp only [seval, EV, r19_16, e2, get13 b6, put13 b06 rfl (strs_ones hs)]
     exact hK _ _ _ (C.ret ⟨.inr rfl, ret18 (by simp only [seval, EV, e2]) (by simp only [seval, EV]) (Has.put b06.1) (put_old k06 zl) (hs6.keep (Keep.put h6 Z _) fun c hc e => by have := own c hc; omega) own' hP⟩)
   rw [if_neg g1] at hP
   obtain ⟨m, rfl⟩ : ∃ m : Nat, m' = (m : Int) := ⟨m'.toNat, by omega⟩
   rw [show ((m : Nat) : Int).toNat = m from rfl] at hP
   have w3 : IntKind.i64.wrap (((i + 2 : Nat) : Int) + (m : Int)) = ((i + 2 + m : Nat) : Int) := by
     rw [show ((i + 2 : Nat) : Int) + (m : Int) = ((i + 2 + m : Nat) : Int) by omega]; exact wrap_lt _ (by omega)
   have w4 : IntKind.i64.wrap (((i + 2 + m : Nat) : Int) + 2) = ((i + 2 + m + 2 : Nat) : Int) := by
     rw [show ((i + 2 + m : Nat) : Int) + 2 = ((i + 2 + m + 2 : Nat) : Int) by omega]; exact wrap_lt _ (by omega)
   have w5 : IntKind.i64.wrap (((i + 2 + m : Nat) : Int) + 1) = ((i + 2 + m + 1 : Nat) : Int) := by
     rw [show ((i + 2 + m : Nat) : Int) + 1 = ((i + 2 + m + 1 : Nat) : Int) by omega]; exact wrap_lt _ (by omega)
   simp only [seval, EV, r19_15, dF g1]
   refine hK _ _ _ (C.cf <| C.skip (C.seq (C.seq fun K hK => ?_)))
   by_cases g2 : (b.length : Int) < ((i + 2 + m + 2 : Nat) : Int)
   · rw [if_pos (by omega)] at hP
     simp only [seval, EV, r19_17, e0, hr6.len, w3, w4, dT g2]
     refine hK _ _ _ (C.ct (C.seq fun K hK => ?_))
     simp only [seval, EV, r19_18, e2, zero13', put13 b06 rfl nil_ones]
     exact hK _ _ _ (C.ret ⟨.inr rfl, ret18 (by simp only [↓reduceIte, EV, Nat.reduceEqDiff, e2]) (n := 0) (by simp only [↓reduceIte, EV]; rfl) (Has.put b06.1) (put_old k06 zl) (strs_nil _) (nil_own _) hP⟩)
   rw [if_neg (by omega)] at hP
   simp only [seval, EV, r19_17, e0, hr6.len, w3, w4, dF g2]
   refine hK _ _ _ (C.cf <| C.skip (C.seq (C.seq fun K hK => ?_)))
   have hx : b[i + 2 + m]? = some b[i + 2 + m] := List.getElem?_eq_getElem (by omega)
   have hy : b[i + 2 + m + 1]? = some b[i + 2 + m + 1] := List.getElem?_eq_getElem (by omega)
   obtain ⟨b1, o1, e1, l1, _⟩ := hr6.at hx
   obtain ⟨b2, o2, e2', l2, _⟩ := hr6.at hy
   have q1 : ∀ cc, binV Tryz.prog .neq 5 cc (bv b[i + 2 + m]) (.int .u8 13) = some (.bool (!decide (b[i + 2 + m] = 13))) := fun cc => neq_u8 5 cc b[i + 2 + m] 13
   have q2 : ∀ cc, binV Tryz.prog .neq 5 cc (bv b[i + 2 + m + 1]) (.int .u8 10) = some (.bool (!decide (b[i + 2 + m + 1] = 10))) := fun cc => neq_u8 5 cc b[i + 2 + m + 1] 10
   have hat : At b (i + 2 + m) ↔ b[i + 2 + m] = 13 ∧ b[i + 2 + m + 1] = 10 := by unfold At; rw [hx, hy]; simp
   have bad : ∀ tm', tg tm' 2 = .pointer (some ⟨Z, 0, none⟩) → tg tm' 4 = .int .i64 ((i + 2 : Nat) : Int) → tg tm' 7 = .int .i64 (m : Int) → ¬ At b (i + 2 + m) → C ⟨seqC ⟨r19_20⟩ retC⟩ (CF L (n + 5)) L tm' h6 fun e tm h' => e = .ret ∧ ∃ r, q18.f tm h' = some r ∧ NextQ b h (resOf r) h' := fun tm' t2 t4 t7 hn => by
     rw [if_pos hn] at hP
     refine C.seq fun K hK => ?_
     simp only [EV, r19_20, t2, t4, t7, bad13c, w3, w4, put13 b06 rfl nil_ones]
     exact hK _ _ _ (C.ret ⟨rfl, ret18 (by simp only [seval, EV, t2]) (by simp only [seval, EV]) (Has.put b06.1) (put_old k06 zl) (strs_nil _) (nil_own _) hP⟩)
   by_cases g3 : b[i + 2 + m] = 13
   · by_cases g4 : b[i + 2 + m + 1] = 10
     · rw [if_neg (fun h => h (hat.2 ⟨g3, g4⟩))] at hP
       simp only [seval, ↓opStep_eq, ↓EW, EV, r19_19, e0, w3, e1, l1, q1, w5, e2', l2, q2, dT g3, dT g4]
       refine hK _ _ _ (C.cf <| C.skip (C.seq fun K hK => ?_))
       obtain ⟨w6, ew6, rw6, _⟩ := hr6.mid (some (.int .i64 ((i + 2 : Nat) : Int))) (i + 2) (i + 2 + m) (.inr rfl) (by omega) (by omega) .i64
       have est6 : bytesStr h6 w6 = some (sv ((b.take (i + 2 + m)).drop (i + 2))) := rw6.str
       generalize (b.take (i + 2 + m)).drop (i + 2) = val at *
       have st6 : ∀ sp, storeV 1 h6 (.pointer (some ⟨Y, 4, sp⟩)) (sv val) = some (h6.put Y (.rw (({ q with val := val } : RQ).cells kv) (some 28))) := fun sp => store_one b6 rfl rfl rfl
       simp only [seval, EV, r19_21, e0, w3, ew6, est6, st6]
       have bY := Has.put (x := .rw (({ q with val := val } : RQ).cells kv) (some 28)) b6.1
       have kY := Keep.put h6 Y (.rw (({ q with val := val } : RQ).cells kv) (some 28))
       have b0Y := b06.keep kY (by omega)
       have hsY : Strs (h6.put Y (.rw (({ q with val := val } : RQ).cells kv) (some 28))) kv q.keys := hs6.keep kY fun c hc e => by have := hs.lt hc; omega
       have k0Y := put_old (x := .rw (({ q with val := val } : RQ).cells kv) (some 28)) k06 (by omega : h.next ≤ Y)
       generalize h6.put Y (.rw (({ q with val := val } : RQ).cells kv) (some 28)) = h7' at *
       refine hK _ _ _ (C.seq fun K hK => ?_)
       simp only [seval, EV, r19_22, e2, get13 bY, w3, w4, put13 b0Y rfl (strs_ones hs)]
       exact hK _ _ _ (C.ret ⟨.inr rfl, ret18 (by simp only [seval, EV, e2]) (by simp only [seval, EV]) (Has.put b0Y.1) (put_old k0Y zl) (hsY.keep (Keep.put h7' Z _) fun c hc e => by have := own c hc; omega) own' hP⟩)
     · simp only [seval, ↓opStep_eq, ↓EW, EV, r19_19, e0, w3, e1, l1, q1, w5, e2', l2, q2, dT g3, dF g4]
       refine hK _ _ _ (C.ct ((bad _ (by simp only [seval, EV, e2]) (by simp only [seval, EV]) (by simp only [seval, EV]) fun h => g4 (hat.1 h).2).mono ?_))
       rintro e tm' h' ⟨rfl, hq⟩
       exact ⟨.inr rfl, hq⟩
   · simp only [seval, ↓opStep_eq, ↓EW, EV, r19_19, e0, w3, e1, l1, q1, dF g3]
     refine hK _ _ _ (C.ct ((bad _ (by simp only [seval, EV, e2]) (by simp only [seval, EV]) (by simp only [seval, EV]) fun h => g3 (hat.1 h).1).mono ?_))
     rintro e tm' h' ⟨rfl, hq⟩
     exact ⟨.inr rfl, hq⟩
theorem law12 (L n : Nat) (hL : 2000 ≤ L) {v : Value} {b : List UInt8} {h : H} (hr : Rd h v b) (hb : b.length ≤ 100000) :
   Sp (CF L (n + 7)) 12 [v] h (NextR b h) := by
 refine Sp.body f12 (by simp) ?_
 have eq1012 : q12 = q10 := rfl
 rw [eq1012]
 unfold c12
 refine C.seq fun K hK => ?_
 have b0 := Has.new h (.rw (RQ.zero.cells nilV) (some 28))
 have k0 := Keep.new h (.rw (RQ.zero.cells nilV) (some 28))
 have n0 : (h.new (.rw (RQ.zero.cells nilV) (some 28))).next = h.next + 1 := rfl
 simp only [↓EW, EV, r12_0, new13]
 generalize hZ : h.next = Z at *
 generalize h.new (.rw (RQ.zero.cells nilV) (some 28)) = h1 at *
 have zl : h.next ≤ Z := by omega
 have hr1 := hr.keep0 k0
 refine hK _ _ _ (C.seq (C.seq fun K hK => ?_))
 by_cases g : (16384 : Int) < (b.length : Int)
 · have hE : nextE b = (.zero, 0, 3) := by unfold nextE; rw [if_pos (by omega)]
   simp only [seval, EV, r12_1, hr1.len, dT g]
   refine hK _ _ _ (C.ct (C.seq fun K hK => ?_))
   simp only [seval, EV, r12_2, zero13', put13 b0 rfl nil_ones]
   exact hK _ _ _ (C.ret ⟨.inr rfl, ret10 (by simp only [↓reduceIte, EV, Nat.reduceEqDiff]) (n := 0) (by simp only [↓reduceIte, EV, Nat.reduceEqDiff]; rfl) (by simp only [↓reduceIte, EV]) (Has.put b0.1) (put_old k0 zl) (strs_nil _) (nil_own _) hE⟩)
 have hE : nextE b = ((nextP b).1, (nextP b).2, 0) := by unfold nextE; rw [if_neg (by omega)]
 simp only [seval, EV, r12_1, hr1.len, dF g]
 refine hK _ _ _ (C.cf <| C.skip (C.seq fun K hK => ?_))
 simp only [seval, ↓EW, EV, r12_3]
 refine law19 L n hL hr1 hb _ fun r h2 hq => ?_
 obtain ⟨k2, kv, rfl, hs, own⟩ := hq
 simp only [EV, tup2, new13, own13 (strs_ones hs)]
 have b6 : Has ((h2.new (.rw (RQ.zero.cells nilV) (some 28))).put h2.next (.rw ((nextP b).1.cells kv) (some 28))) h2.next (.rw ((nextP b).1.cells kv) (some 28)) := Has.put (Nat.lt_succ_self _)
 have k6 := keep_alloc h2 (.rw (RQ.zero.cells nilV) (some 28)) (.rw ((nextP b).1.cells kv) (some 28))
 have nn := k2.next
 generalize hY : h2.next = Y at *
 generalize (h2.new (.rw (RQ.zero.cells nilV) (some 28))).put Y (.rw ((nextP b).1.cells kv) (some 28)) = h6 at *
 have b06 := b0.keep0 (k2.then k6)
 have k06 := k0.then (k2.then k6)
 refine hK _ _ _ (C.seq fun K hK => ?_)
 simp only [seval, EV, r12_4, get13 b6, put13 b06 rfl (strs_ones hs)]
 exact hK _ _ _ (C.ret ⟨.inr rfl, ret10 (by simp only [seval, EV]) (by simp only [seval, EV]) (by simp only [seval, EV]) (Has.put b06.1) (put_old k06 zl) ((hs.keep0 k6).keep (Keep.put h6 Z _) fun c hc e => by have := own c hc; omega) (fun c hc => by have := own c hc; omega) hE⟩)
structure S13 (h0 : H) (v : Value) (at_ : Nat) (ov : Value) (xs : List RQ) (more : Bool) (tm : T Value) (h : H) : Prop where
 t0 : tg tm 0 = v
 t5 : tg tm 5 = ov
 t6 : tg tm 6 = .int .i64 (at_ : Int)
 t7 : tg tm 7 = .bool more
 m : Reqs h0.next h ov xs
 keep : Keep nobody h0 h
theorem body13 (L n : Nat) (hL : 2000 ≤ L) {v : Value} {b : List UInt8} {h0 : H} (hr : Rd h0 v b) (hb : b.length ≤ 16384) {at_ f : Nat} {ov : Value} {xs : List RQ} {tm : T Value} {h : H} (hat : at_ ≤ b.length) (hx : xs.length ≤ at_) (a : S13 h0 v at_ ov xs true tm h) :
   C ⟨blockC 1 ⟨seqC ⟨r13_7⟩ ⟨seqC ⟨r13_8⟩ ⟨seqC ⟨seqC ⟨r13_9⟩ ⟨condC (tC 34) ⟨r13_10⟩ skipC⟩⟩ ⟨r13_11⟩⟩⟩⟩⟩ (CF L (n + 7)) L tm h fun e tm' h' => e = .norm ∧ ∃ at' ov' xs' more, S13 h0 v at' ov' xs' more tm' h' ∧ at' ≤ b.length ∧ xs'.length ≤ at' ∧ (if more = true then at_ < at' ∧ allP b (f + 1) at_ xs = allP b f at' xs' else allP b (f + 1) at_ xs = (xs', at')) := by
 generalize hG : allP b (f + 1) at_ xs = G
 unfold allP at hG
 refine C.block (C.seq fun K hK => ?_)
 obtain ⟨w, ew, rw1, _⟩ := (hr.keep0 a.keep).from at_ hat
 have hdl : (b.drop at_).length = b.length - at_ := List.length_drop
 have hle := nextP_le (b.drop at_)
 simp only [↓EW, EV, r13_7, a.t0, a.t6, ew]
 refine law19 L (n + 1) hL rw1 (by omega) _ fun r h2 hq => ?_
 obtain ⟨k2, kv, rfl, hs, own⟩ := hq
 generalize nextP (b.drop at_) = qn at *
 obtain ⟨q, nn⟩ := qn
 dsimp only at hG hs hle
 simp only [EV, tup2, new13, own13 (strs_ones hs)]
 have b6 : Has ((h2.new (.rw (RQ.zero.cells nilV) (some 28))).put h2.next (.rw (q.cells kv) (some 28))) h2.next (.rw (q.cells kv) (some 28)) := Has.put (Nat.lt_succ_self _)
 have k6 := keep_alloc h2 (.rw (RQ.zero.cells nilV) (some 28)) (.rw (q.cells kv) (some 28))
 have n2 := k2.next
 have n6 := k6.next
 have nown : ∀ c, blk ov c → c < h.next := fun c hc => by
   obtain ⟨ys, _, mm, _⟩ := a.m.ex
   exact mm.lt hc
 generalize hY : h2.next = Y at *
 generalize (h2.new (.rw (RQ.zero.cells nilV) (some 28))).put Y (.rw (q.cells kv) (some 28)) = h6 at *
 have a6 := a.m.keep0 (k2.then k6)
 have k06 := a.keep.then (k2.then k6)
 have n06 := a.keep.next
 have ld : ∀ o s, loadOne h6 (.pointer (some ⟨Y, o, s⟩)) = (q.cells kv)[o]? := fun o s => loadOne_has b6 rfl
 have ldc : ∀ s, loadOne h6 (.pointer (some ⟨Y, 12, s⟩)) = some (.bool q.close) := fun s => ld 12 s
 have ldk : ∀ s, loadOne h6 (.pointer (some ⟨Y, 0, s⟩)) = some (.int .u8 q.kind) := fun s => ld 0 s
 have w1 : IntKind.i64.wrap ((at_ : Int) + (nn : Int)) = ((at_ + nn : Nat) : Int) := by
   rw [show (at_ : Int) + (nn : Int) = ((at_ + nn : Nat) : Int) by omega]; exact wrap_lt _ (by omega)
 refine hK _ _ _ (C.seq (C.mono (Q := fun e tm' h' => e = .norm ∧ h' = h6 ∧ tg tm' 0 = v ∧ tg tm' 5 = ov ∧ tg tm' 6 = .int .i64 (at_ : Int) ∧ tg tm' 8 = .pointer (some ⟨Y, 0, none⟩) ∧ tg tm' 9 = .int .i64 (nn : Int) ∧ tg tm' 7 = .bool (decide (0 < nn) && (!q.close && !decide (q.kind = 5)))) ?_ ?_))
 · intro K hK
   rw [box_f]
   by_cases g1 : (0 : Int) < (nn : Int)
   · have d1 : decide (0 < nn) = true := dT (by omega)
     rw [d1] at hK
     cases hc : q.close with
     | true =>
       rw [hc] at ldc hK
       simp only [seval, ↓opStep_eq, ↓EW, EV, r13_8, dT g1, ldc]
       exact hK _ _ _ ⟨rfl, rfl, by simp only [seval, EV, a.t0], by simp only [seval, EV, a.t5], by simp only [seval, EV, a.t6], by simp only [seval, EV], by simp only [seval, EV], by simp only [seval, EV, Bool.false_and, Bool.and_false]⟩
     | false =>
       rw [hc] at ldc hK
       by_cases g2 : q.kind = 5
       · rw [dT g2] at hK
         simp only [seval, ↓opStep_eq, ↓EW, EV, r13_8, dT g1, ldc, ldk, dT g2]
         exact hK _ _ _ ⟨rfl, rfl, by simp only [seval, EV, a.t0], by simp only [seval, EV, a.t5], by simp only [seval, EV, a.t6], by simp only [seval, EV], by simp only [seval, EV], by simp only [seval, EV, Bool.and_false]⟩
       · rw [dF g2] at hK
         simp only [seval, ↓opStep_eq, ↓EW, EV, r13_8, dT g1, ldc, ldk, dF g2]
         exact hK _ _ _ ⟨rfl, rfl, by simp only [seval, EV, a.t0], by simp only [seval, EV, a.t5], by simp only [seval, EV, a.t6], by simp only [seval, EV], by simp only [seval, EV], by simp only [seval, EV, Bool.and_true]⟩
   · have d1 : decide (0 < nn) = false := dF (by omega)
     rw [d1] at hK
     simp only [seval, ↓opStep_eq, ↓EW, EV, r13_8, dF g1]
     exact hK _ _ _ ⟨rfl, rfl, by simp only [seval, EV, a.t0], by simp only [seval, EV, a.t5], by simp only [seval, EV, a.t6], by simp only [seval, EV], by simp only [seval, EV], by simp only [seval, EV, Bool.false_and]⟩
 rintro e tm1 h1 ⟨rfl, rfl, t0, t5, t6, t8, t9, t7⟩
 have last : ∀ (tm' : T Value) (h' : H) ov' xs', tg tm' 0 = v → tg tm' 5 = ov' → tg tm' 6 = .int .i64 (at_ : Int) → tg tm' 9 = .int .i64 (nn : Int) → tg tm' 7 = .bool (decide (0 < nn) && (!q.close && !decide (q.kind = 5))) → Reqs h0.next h' ov' xs' → Keep nobody h0 h' → xs'.length ≤ at_ + nn → (xs' = if nn = 0 then xs else xs ++ [q]) → C ⟨r13_11⟩ (CF L (n + 7)) L tm' h' fun e tm' h' => e = .norm ∧ ∃ at' ov' xs' more, S13 h0 v at' ov' xs' more tm' h' ∧ at' ≤ b.length ∧ xs'.length ≤ at' ∧ (if more = true then at_ < at' ∧ G = allP b f at' xs' else G = (xs', at')) := fun tm' h' ov' xs' t0 t5 t6 t9 t7 hm hk hl hx' => by
   intro K hK
   rw [box_f]
   simp only [EV, r13_11, t6, t9, w1]
   refine hK _ _ _ ⟨rfl, at_ + nn, ov', xs', (decide (0 < nn) && (!q.close && !decide (q.kind = 5))), ⟨by simp only [seval, EV, t0], by simp only [seval, EV, t5], by simp only [seval, EV], by simp only [seval, EV, t7], hm, hk⟩, by omega, hl, ?_⟩
   by_cases g1 : nn = 0
   · rw [if_pos g1] at hG hx'
     subst hx' g1
     exact hG.symm
   · rw [if_neg g1] at hG hx'
     subst hx'
     have d1 : decide (0 < nn) = true := dT (by omega)
     rw [d1]
     cases hc : q.close with
     | true =>
       rw [hc, Bool.true_or, if_pos rfl] at hG
       exact hG.symm
     | false =>
       rw [hc, Bool.false_or] at hG
       by_cases g2 : q.kind = 5
       · rw [dT g2, if_pos rfl] at hG
         rw [dT g2]
         exact hG.symm
       · rw [dF g2, if_neg (by decide)] at hG
         rw [dF g2]
         exact ⟨by omega, hG.symm⟩
 refine C.seq (C.seq fun K hK => ?_)
 by_cases g1 : (0 : Int) < (nn : Int)
 · simp only [EV, r13_9, t9, dT g1]
   refine hK _ _ _ (C.ct (fun K hK => ?_))
   obtain ⟨ov', h7', ea, a7, k7, own7⟩ := a6.push (q := q) (kv := kv) (hs.keep0 k6) (fun c hc => ⟨by have := own c hc; omega, fun hv => by have := own c hc; have := nown c hv; omega⟩) (by omega) (by omega)
   have k07 : Keep nobody h0 h7' := k06.trans k7 fun c hc hv => by have := a.m.own c hv; omega
   rw [box_f]
   simp only [seval, EV, r13_10, t8, t5, get13 b6, lit_req, ea]
   refine hK _ _ _ (C.mono (last _ h7' ov' (xs ++ [q]) (by simp only [seval, EV, t0]) (by simp only [seval, EV]) (by simp only [seval, EV, t6]) (by simp only [seval, EV, t9]) (by simp only [seval, EV, t7]) a7 k07 (by rw [List.length_append]; show xs.length + 1 ≤ _; omega) (by rw [if_neg (by omega)])) ?_)
   rintro e tm' h' ⟨rfl, hq⟩
   exact ⟨rfl, hq⟩
 · simp only [EV, r13_9, t9, dF g1]
   refine hK _ _ _ (C.cf <| C.skip (C.mono (last _ h1 ov xs (by simp only [seval, EV, t0]) (by simp only [seval, EV, t5]) (by simp only [seval, EV, t6]) (by simp only [seval, EV, t9]) (by simp only [seval, EV, t7]) a6 k06 (by omega) (by rw [if_pos (by omega)])) ?_))
   rintro e tm' h' ⟨rfl, hq⟩
   exact ⟨rfl, hq⟩
theorem law13 (L n : Nat) (hL : 2000 ≤ L) {v : Value} {b : List UInt8} {h : H} (hr : Rd h v b) (hb : b.length ≤ 100000) (hLb : 16384 < b.length ∨ b.length + 1 < L) :
   Sp (CF L (n + 8)) 13 [v] h (AllR b h) := by
 refine Sp.body f13 (by simp) ?_
 have fin : ∀ (G : List RQ × Nat) (er : Int), allE b = (G.1, G.2, er) → ∀ (tm : T Value) (h' : H) v', Keep nobody h h' → q13.f tm h' = some [v', .int .i64 (G.2 : Int), .int .i64 er] → Reqs h.next h' v' G.1 → ∃ l, q13.f tm h' = some l ∧ AllR b h (resOf l) h' := fun G er he tm h' v' kp hq hm => ⟨_, hq, kp, v', by rw [he]; rfl, by rw [he]; exact hm⟩
 unfold c13
 refine C.seq fun K hK => ?_
 simp only [EV, r13_0]
 refine hK _ _ _ (C.seq (C.seq fun K hK => ?_))
 by_cases g : (16384 : Int) < (b.length : Int)
 · simp only [seval, EV, r13_1, hr.len, dT g]
   refine hK _ _ _ (C.ct (C.seq fun K hK => ?_))
   simp only [r13_2]
   exact hK _ _ _ (C.ret ⟨.inr rfl, fin ([], 0) 3 (by unfold allE; rw [if_pos (by omega)]) _ _ nilV (.refl _ _) (by simp only [seval, EV, q13]; rfl) (.nil _ _)⟩)
 have hE : allE b = ((allP b (b.length + 1) 0 []).1, (allP b (b.length + 1) 0 []).2, 0) := by unfold allE; rw [if_neg (by omega)]
 generalize hg : allP b (b.length + 1) 0 [] = G at *
 simp only [seval, EV, r13_1, hr.len, dF g]
 refine hK _ _ _ (C.cf <| C.skip (C.seq fun K hK => ?_))
 simp only [r13_3]
 refine hK _ _ _ (C.seq fun K hK => ?_)
 simp only [r13_4]
 refine hK _ _ _ (C.seq fun K hK => ?_)
 simp only [r13_5]
 refine hK _ _ _ (C.seq (C.block ?_))
 refine (C.loop (L := L) (fun m tm' h' => ∃ at_ ov xs more, at_ ≤ b.length ∧ xs.length ≤ at_ ∧ S13 h v at_ ov xs more tm' h' ∧ (if more = true then ∃ f, m = b.length - at_ + 1 ∧ m ≤ f ∧ G = allP b f at_ xs else m = 0 ∧ G = (xs, at_))) (b.length + 1) (by omega)
   ⟨0, nilV, [], true, Nat.zero_le _, Nat.zero_le _, ⟨by simp only [↓reduceIte, EV, Nat.reduceEqDiff], by simp only [↓reduceIte, EV, Nat.reduceEqDiff]; rfl, by simp only [↓reduceIte, EV, Nat.reduceEqDiff]; rfl, by simp only [↓reduceIte, EV], .nil _ _, .refl _ _⟩, by rw [if_pos rfl]; exact ⟨b.length + 1, by omega, Nat.le_refl _, hg.symm⟩⟩ fun m tm' h' hi => ?_ :
   C (loopB l13_12) _ L _ h fun e tm' h' => e = .exit 0 ∧ ∃ ov, S13 h v G.2 ov G.1 false tm' h').mono ?_
 · obtain ⟨at_, ov, xs, more, hat, hx, a, hf⟩ := hi
   unfold l13_12
   refine C.seq (C.seq fun K hK => ?_)
   have to13 : ∀ tm'', tg tm'' 0 = tg tm' 0 → tg tm'' 5 = tg tm' 5 → tg tm'' 6 = tg tm' 6 → tg tm'' 7 = tg tm' 7 → S13 h v at_ ov xs more tm'' h' := fun tm'' e0 e5 e6 e7 => ⟨e0.trans a.t0, e5.trans a.t5, e6.trans a.t6, e7.trans a.t7, a.m, a.keep⟩
   cases more with
   | false =>
     obtain ⟨_, hf⟩ := hf
     subst hf
     simp only [r13_6, a.t7]
     refine hK _ _ _ (C.cf <| fun K hK => ?_)
     simp only [exitC]
     exact hK _ _ _ ⟨rfl, ov, to13 _ (by simp only [seval, EV]) (by simp only [seval, EV]) (by simp only [seval, EV]) (by simp only [seval, EV])⟩
   | true =>
     rw [if_pos rfl] at hf
     obtain ⟨f, hm, hmf, hG'⟩ := hf
     obtain ⟨f, rfl⟩ : ∃ f', f = f' + 1 := ⟨f - 1, by omega⟩
     simp only [r13_6, a.t7]
     refine hK _ _ _ (C.ct (C.skip (C.mono (body13 L n hL hr (by omega) hat hx (to13 _ (by simp only [seval, EV]) (by simp only [seval, EV]) (by simp only [seval, EV]) (by simp only [seval, EV])) (f := f)) ?_)))
     rintro e tm3 h3 ⟨rfl, at', ov', xs', more', a', h2, h3', hp⟩
     cases more' with
     | false =>
       refine ⟨0, by omega, at', ov', xs', false, h2, h3', a', ?_⟩
       rw [if_neg (by decide)] at hp ⊢
       exact ⟨rfl, hG'.trans hp⟩
     | true =>
       rw [if_pos rfl] at hp
       refine ⟨b.length - at' + 1, by omega, at', ov', xs', true, h2, h3', a', ?_⟩
       rw [if_pos rfl]
       exact ⟨f, rfl, by omega, hG'.trans hp.2⟩
 · rintro e tm' h' ⟨rfl, ov, a⟩
   show C _ _ _ _ _ _
   refine C.seq fun K hK => ?_
   simp only [r13_12, a.t5, a.t6]
   exact hK _ _ _ (C.ret ⟨.inr rfl, fin G 0 hE _ _ ov a.keep (by simp only [seval, EV, q13]) a.m⟩)
theorem neqS (t : TypeId) (c : Bool) (k : IntKind) (x : Int) : binV Tryz.prog .neq t c (.int k x) (.int k x) = some (.bool false) := by rw [binV_neq, dT rfl]; rfl
theorem eqlS (t : TypeId) (c : Bool) (k : IntKind) (x : Int) : binV Tryz.prog .eql t c (.int k x) (.int k x) = some (.bool true) := by rw [binV_eql, dT rfl]
theorem neqV (t : TypeId) (c : Bool) (w : List UInt8) : binV Tryz.prog .neq t c (sv w) (sv w) = some (.bool false) := by
 have := sv_neq t c w w
 rw [dT rfl] at this
 exact this
theorem eqlV (t : TypeId) (c : Bool) (w : List UInt8) : binV Tryz.prog .eql t c (sv w) (sv w) = some (.bool true) := by
 have := sv_eql t c w w
 rw [dT rfl] at this
 exact this
theorem eqlB (b : Bool) : binV Tryz.prog .eql 4 false (.bool b) (.bool b) = some (.bool true) := by rw [bool_eq]; cases b <;> rfl
theorem pickV_true (a b : Value) : pickV (.bool true) a b = some a := rfl
def cmdQ (q : RQ) (kv : Value) : Cmd := ⟨q.ck, 0, kv, ⟨q.val.toArray⟩, q.flags, q.fo, q.uniq, q.by', q.keys⟩
theorem reg20_1 {call : CallT} {L : Nat} {q : RQ} {kv1 kv2 : Value} {A B : Nat} {h : H} {tm : T Value} (h1 : Has h A (.rw (cmdQ q kv1).cells (some 26))) (h2 : Has h B (.rw (cmdQ q kv2).cells (some 26))) (s1 : Strs h kv1 q.keys) (s2 : Strs h kv2 q.keys) (t2 : tg tm 2 = .pointer (some ⟨A, 0, none⟩)) (t3 : tg tm 3 = .pointer (some ⟨B, 0, none⟩)) {Q : Ex → T Value → H → Prop}
   (hQ : Q .norm (T.set tm 61 (.bool false)) h) : C ⟨r20_1⟩ call L tm h Q := fun K hK => by
 rw [box_f]
 unfold r20_1
 have len1 := s1.len
 have len2 := s2.len
 have la0 : loadOne h (.pointer (some ⟨A, 0, none⟩)) = some (.int .u8 q.ck) := loadOne_has h1 rfl
 have lb0 : loadOne h (.pointer (some ⟨B, 0, none⟩)) = some (.int .u8 q.ck) := loadOne_has h2 rfl
 have la1 : loadOne h (.pointer (some ⟨A, 1, none⟩)) = some (.int .i64 0) := loadOne_has h1 rfl
 have lb1 : loadOne h (.pointer (some ⟨B, 1, none⟩)) = some (.int .i64 0) := loadOne_has h2 rfl
 have la2 : loadOne h (.pointer (some ⟨A, 2, none⟩)) = some (kv1) := loadOne_has h1 rfl
 have lb2 : loadOne h (.pointer (some ⟨B, 2, none⟩)) = some (kv2) := loadOne_has h2 rfl
 have la3 : loadOne h (.pointer (some ⟨A, 3, none⟩)) = some (sv q.val) := loadOne_has h1 rfl
 have lb3 : loadOne h (.pointer (some ⟨B, 3, none⟩)) = some (sv q.val) := loadOne_has h2 rfl
 have la4 : loadOne h (.pointer (some ⟨A, 4, none⟩)) = some (.int .u32 q.flags) := loadOne_has h1 rfl
 have lb4 : loadOne h (.pointer (some ⟨B, 4, none⟩)) = some (.int .u32 q.flags) := loadOne_has h2 rfl
 have la5 : loadOne h (.pointer (some ⟨A, 5, none⟩)) = some (.int .i64 q.fo) := loadOne_has h1 rfl
 have lb5 : loadOne h (.pointer (some ⟨B, 5, none⟩)) = some (.int .i64 q.fo) := loadOne_has h2 rfl
 have la6 : loadOne h (.pointer (some ⟨A, 6, none⟩)) = some (.int .u64 q.uniq) := loadOne_has h1 rfl
 have lb6 : loadOne h (.pointer (some ⟨B, 6, none⟩)) = some (.int .u64 q.uniq) := loadOne_has h2 rfl
 have la7 : loadOne h (.pointer (some ⟨A, 7, none⟩)) = some (.int .u64 q.by') := loadOne_has h1 rfl
 have lb7 : loadOne h (.pointer (some ⟨B, 7, none⟩)) = some (.int .u64 q.by') := loadOne_has h2 rfl
 try rw [bx]
 refine ops_s ?_
 simp only [↓OF, NK, t2, fieldPtr_ptr, Nat.zero_add]
 refine ops_s ?_
 simp only [↓OF, NK, la0]
 refine ops_s ?_
 simp only [↓OF, NK, t3, fieldPtr_ptr, Nat.zero_add]
 refine ops_s ?_
 simp only [↓OF, NK, lb0]
 refine ops_s ?_
 simp only [↓OF, NK, neqS]
 refine ops_s ?_
 simp only [↓OF, NK]
 refine ops_s ?_
 simp only [↓OF, NK, t2, fieldPtr_ptr, Nat.zero_add]
 refine ops_s ?_
 simp only [↓OF, NK, la1]
 refine ops_s ?_
 simp only [↓OF, NK, t3, fieldPtr_ptr, Nat.zero_add]
 refine ops_s ?_
 simp only [↓OF, NK, lb1]
 refine ops_s ?_
 simp only [↓OF, NK, neqS]
 refine ops_s ?_
 simp only [↓OF, NK, pickV_false]
 refine ops_s ?_
 simp only [↓OF, NK]
 refine ops_s ?_
 simp only [↓OF, NK, t2, fieldPtr_ptr, Nat.zero_add]
 refine ops_s ?_
 simp only [↓OF, NK, la3]
 refine ops_s ?_
 simp only [↓OF, NK, t3, fieldPtr_ptr, Nat.zero_add]
 refine ops_s ?_
 simp only [↓OF, NK, lb3]
 refine ops_s ?_
 simp only [↓OF, NK, neqV]
 refine ops_s ?_
 simp only [↓OF, NK, pickV_false]
 refine ops_s ?_
 simp only [↓OF, NK]
 refine ops_s ?_
 simp only [↓OF, NK, t2, fieldPtr_ptr, Nat.zero_add]
 refine ops_s ?_
 simp only [↓OF, NK, la4]
 refine ops_s ?_
 simp only [↓OF, NK, t3, fieldPtr_ptr, Nat.zero_add]
 refine ops_s ?_
 simp only [↓OF, NK, lb4]
 refine ops_s ?_
 simp only [↓OF, NK, neqS]
 refine ops_s ?_
 simp only [↓OF, NK, pickV_false]
 refine ops_s ?_
 simp only [↓OF, NK]
 refine ops_s ?_
 simp only [↓OF, NK, t2, fieldPtr_ptr, Nat.zero_add]
 refine ops_s ?_
 simp only [↓OF, NK, la5]
 refine ops_s ?_
 simp only [↓OF, NK, t3, fieldPtr_ptr, Nat.zero_add]
 refine ops_s ?_
 simp only [↓OF, NK, lb5]
 refine ops_s ?_
 simp only [↓OF, NK, neqS]
 refine ops_s ?_
 simp only [↓OF, NK, pickV_false]
 refine ops_s ?_
 simp only [↓OF, NK]
 refine ops_s ?_
 simp only [↓OF, NK, t2, fieldPtr_ptr, Nat.zero_add]
 refine ops_s ?_
 simp only [↓OF, NK, la6]
 refine ops_s ?_
 simp only [↓OF, NK, t3, fieldPtr_ptr, Nat.zero_add]
 refine ops_s ?_
 simp only [↓OF, NK, lb6]
 refine ops_s ?_
 simp only [↓OF, NK, neqS]
 refine ops_s ?_
 simp only [↓OF, NK, pickV_false]
 refine ops_s ?_
 simp only [↓OF, NK]
 refine ops_s ?_
 simp only [↓OF, NK, t2, fieldPtr_ptr, Nat.zero_add]
 refine ops_s ?_
 simp only [↓OF, NK, la7]
 refine ops_s ?_
 simp only [↓OF, NK, t3, fieldPtr_ptr, Nat.zero_add]
 refine ops_s ?_
 simp only [↓OF, NK, lb7]
 refine ops_s ?_
 simp only [↓OF, NK, neqS]
 refine ops_s ?_
 simp only [↓OF, NK, pickV_false]
 refine ops_s ?_
 simp only [↓OF, NK]
 refine ops_s ?_
 simp only [↓OF, NK, t2, fieldPtr_ptr, Nat.zero_add]
 refine ops_s ?_
 simp only [↓OF, NK, la2]
 refine ops_s ?_
 simp only [↓OF, NK, len1]
 refine ops_s ?_
 simp only [↓OF, NK, t3, fieldPtr_ptr, Nat.zero_add]
 refine ops_s ?_
 simp only [↓OF, NK, lb2]
 refine ops_s ?_
 simp only [↓OF, NK, len2]
 refine ops_s ?_
 simp only [↓OF, NK, neqS]
 refine ops_s ?_
 simp only [↓OF, NK, pickV_false]
 exact hK _ _ _ hQ
theorem law20 (L n : Nat) (hL : 2000 ≤ L) {q : RQ} {kv1 kv2 : Value} {h : H} (s1 : Strs h kv1 q.keys) (s2 : Strs h kv2 q.keys) (hk : q.keys.length ≤ 1000) :
   Sp (CF L (n + 1)) 20 [(cmdQ q kv1).v, (cmdQ q kv2).v] h fun r h' => r = .bool true ∧ Keep nobody h h' := by
 refine Sp.body f20 (by simp) ?_
 have hc1 : (Value.cells (cmdQ q kv1).v).toList = (cmdQ q kv1).cells := rfl
 have hc2 : (Value.cells (cmdQ q kv2).v).toList = (cmdQ q kv2).cells := rfl
 have k1 := Keep.new h (.rw (cmdQ q kv1).cells (some 26))
 have b1 := Has.new h (.rw (cmdQ q kv1).cells (some 26))
 unfold c20
 refine C.seq fun K hK => ?_
 simp only [seval, ↓EW, EV, r20_0, hc1]
 generalize h.new (.rw (cmdQ q kv1).cells (some 26)) = h1 at *
 have k2 := Keep.new h1 (.rw (cmdQ q kv2).cells (some 26))
 have b2 := Has.new h1 (.rw (cmdQ q kv2).cells (some 26))
 simp only [hc2]
 generalize h1.new (.rw (cmdQ q kv2).cells (some 26)) = h2 at *
 have b1' := b1.keep0 k2
 have k12 := k1.then k2
 have s1' := s1.keep0 k12
 have s2' := s2.keep0 k12
 generalize h.next = A at *
 generalize h1.next = B at *
 refine hK _ _ _ (C.seq (C.seq (reg20_1 b1' b2 s1' s2' (by simp only [seval, EV]) (by simp only [seval, EV]) ?_)))
 refine C.cf <| C.skip (C.seq (C.seq fun K hK => ?_))
 simp only [r20_3]
 refine hK _ _ _ (C.block ?_)
 refine (C.loop (L := L) (fun m tm' h' => ∃ i, m = q.keys.length - i ∧ i ≤ q.keys.length ∧ Keep nobody h2 h' ∧ tg tm' 2 = .pointer (some ⟨A, 0, none⟩) ∧ tg tm' 3 = .pointer (some ⟨B, 0, none⟩) ∧ tg tm' 5 = .int .i64 (i : Int)) q.keys.length (by omega)
   ⟨0, by omega, Nat.zero_le _, .refl _ _, by simp only [↓reduceIte, EV, Nat.reduceEqDiff], by simp only [↓reduceIte, EV, Nat.reduceEqDiff], by simp only [↓reduceIte, EV]; rfl⟩ fun m tm' h' hi => ?_ :
   C (loopB l20_8) _ L _ h2 fun e tm' h' => e = .exit 0 ∧ Keep nobody h2 h').mono ?_
 · obtain ⟨i, hm, hi, kk, t2, t3, t5⟩ := hi
   have lk1 : ∀ hx, Keep nobody h2 hx → ∀ s, loadOne hx (.pointer (some ⟨A, 2, s⟩)) = some kv1 := fun hx k s => loadOne_has (b1'.keep0 k) rfl
   have lk2 : ∀ hx, Keep nobody h2 hx → ∀ s, loadOne hx (.pointer (some ⟨B, 2, s⟩)) = some kv2 := fun hx k s => loadOne_has (b2.keep0 k) rfl
   unfold l20_8
   refine C.seq (C.seq fun K hK => ?_)
   by_cases g : (i : Int) < (q.keys.length : Int)
   · simp only [EV, r20_4, t2, lk1 h' kk, s1'.len, t5, dT g]
     refine hK _ _ _ (C.ct (C.skip (C.seq (C.block (C.seq fun K hK => ?_)))))
     obtain ⟨p, hp⟩ : ∃ p, q.keys[i]? = some p := ⟨_, List.getElem?_eq_getElem (by omega)⟩
     have kr := keep_room h' 11
     have kx := kk.then kr
     generalize hh : (⟨h'.objs, h'.next + 11⟩ : H) = hx at *
     obtain ⟨b, o, e1, l1⟩ := (s1'.keep0 kx).at hp
     obtain ⟨b', o', e2, l2⟩ := (s2'.keep0 kx).at hp
     have w1 : IntKind.i64.wrap ((i : Int) + 1) = ((i + 1 : Nat) : Int) := by
       rw [show (i : Int) + 1 = ((i + 1 : Nat) : Int) by omega]; exact wrap_lt _ (by omega)
     simp only [seval, EV, r20_6, hh, t2, t3, t5, lk1 hx kx, lk2 hx kx, e1, e2, l1, l2, neqV]
     refine hK _ _ _ (C.cf <| C.skip fun K hK => ?_)
     rw [box_f]
     simp only [seval, EV, r20_5, t5, w1]
     exact hK _ _ _ ⟨q.keys.length - (i + 1), by omega, i + 1, rfl, by omega, kx, by simp only [seval, EV, t2], by simp only [seval, EV, t3], by simp only [seval, EV]⟩
   · simp only [EV, r20_4, t2, lk1 h' kk, s1'.len, t5, dF g]
     refine hK _ _ _ (C.cf <| fun K hK => ?_)
     simp only [exitC]
     exact hK _ _ _ ⟨rfl, kk⟩
 · rintro e tm' h' ⟨rfl, kk⟩
   show C _ _ _ _ _ _
   refine C.seq fun K hK => ?_
   simp only [r20_8]
   exact hK _ _ _ (C.ret ⟨.inr rfl, [.bool true], by simp only [seval, EV, q20], rfl, k12.then kk⟩)
theorem reg14_1 (L n : Nat) (hL : 2000 ≤ L) {q : RQ} {kv1 kv2 : Value} {A B : Nat} {h : H} {tm : T Value} (h1 : Has h A (.rw (q.cells kv1) (some 28))) (h2 : Has h B (.rw (q.cells kv2) (some 28))) (s1 : Strs h kv1 q.keys) (s2 : Strs h kv2 q.keys) (hk : q.keys.length ≤ 1000) (t2 : tg tm 2 = .pointer (some ⟨A, 0, none⟩)) (t3 : tg tm 3 = .pointer (some ⟨B, 0, none⟩)) {Q : Ex → T Value → H → Prop}
   (hQ : ∀ hx, Keep nobody h hx → Q .norm (T.set tm 4 (.bool true)) hx) : C ⟨r14_1⟩ (CF L (n + 1)) L tm h Q := fun K hK => by
 rw [box_f]
 unfold r14_1
 have s20 := law20 L n hL s1 s2 hk
 have lga : loadAgg 8 h (.pointer (some ⟨A, 1, none⟩)) = some (cmdQ q kv1).v := loadAgg_has (o := 1) (n := 8) (cs := q.cells kv1) h1 rfl (by show 1 + 8 ≤ 13; omega)
 have lgb : loadAgg 8 h (.pointer (some ⟨B, 1, none⟩)) = some (cmdQ q kv2).v := loadAgg_has (o := 1) (n := 8) (cs := q.cells kv2) h2 rfl (by show 1 + 8 ≤ 13; omega)
 have la0 : loadOne h (.pointer (some ⟨A, 0, none⟩)) = some (.int .u8 q.kind) := loadOne_has h1 rfl
 have lb0 : loadOne h (.pointer (some ⟨B, 0, none⟩)) = some (.int .u8 q.kind) := loadOne_has h2 rfl
 have a9 : ∀ hx, Keep nobody h hx → loadOne hx (.pointer (some ⟨A, 9, none⟩)) = some (.int .i64 q.rten) := fun hx k => loadOne_has (h1.keep0 k) rfl
 have b9 : ∀ hx, Keep nobody h hx → loadOne hx (.pointer (some ⟨B, 9, none⟩)) = some (.int .i64 q.rten) := fun hx k => loadOne_has (h2.keep0 k) rfl
 have a10 : ∀ hx, Keep nobody h hx → loadOne hx (.pointer (some ⟨A, 10, none⟩)) = some (sv q.sec) := fun hx k => loadOne_has (h1.keep0 k) rfl
 have b10 : ∀ hx, Keep nobody h hx → loadOne hx (.pointer (some ⟨B, 10, none⟩)) = some (sv q.sec) := fun hx k => loadOne_has (h2.keep0 k) rfl
 have a11 : ∀ hx, Keep nobody h hx → loadOne hx (.pointer (some ⟨A, 11, none⟩)) = some (.bool q.on) := fun hx k => loadOne_has (h1.keep0 k) rfl
 have b11 : ∀ hx, Keep nobody h hx → loadOne hx (.pointer (some ⟨B, 11, none⟩)) = some (.bool q.on) := fun hx k => loadOne_has (h2.keep0 k) rfl
 have a12 : ∀ hx, Keep nobody h hx → loadOne hx (.pointer (some ⟨A, 12, none⟩)) = some (.bool q.close) := fun hx k => loadOne_has (h1.keep0 k) rfl
 have b12 : ∀ hx, Keep nobody h hx → loadOne hx (.pointer (some ⟨B, 12, none⟩)) = some (.bool q.close) := fun hx k => loadOne_has (h2.keep0 k) rfl
 try rw [bx]
 refine ops_s ?_
 simp only [↓OF, NK, t2, fieldPtr_ptr, Nat.zero_add]
 refine ops_s ?_
 simp only [↓OF, NK, la0]
 refine ops_s ?_
 simp only [↓OF, NK, t3, fieldPtr_ptr, Nat.zero_add]
 refine ops_s ?_
 simp only [↓OF, NK, lb0]
 refine ops_s ?_
 simp only [↓OF, NK, eqlS]
 refine ops_s ?_
 simp only [↓OF, NK]
 refine ops_s ?_
 simp only [↓OF, NK, t2, fieldPtr_ptr, Nat.zero_add]
 refine ops_s ?_
 simp only [↓OF, NK, lga]
 refine ops_s ?_
 simp only [↓OF, NK, t3, fieldPtr_ptr, Nat.zero_add]
 refine ops_s ?_
 simp only [↓OF, NK, lgb]
 refine ops_s ?_
 simp only [NK]
 refine s20 _ fun r hx hq => ?_
 obtain ⟨rfl, kx⟩ := hq
 have la9 := a9 hx kx
 have la10 := a10 hx kx
 have la11 := a11 hx kx
 have la12 := a12 hx kx
 have lb9 := b9 hx kx
 have lb10 := b10 hx kx
 have lb11 := b11 hx kx
 have lb12 := b12 hx kx
 try rw [bx]
 refine ops_s ?_
 simp only [↓OF, NK, pickV_true]
 refine ops_s ?_
 simp only [↓OF, NK]
 refine ops_s ?_
 simp only [↓OF, NK, t2, fieldPtr_ptr, Nat.zero_add]
 refine ops_s ?_
 simp only [↓OF, NK, la9]
 refine ops_s ?_
 simp only [↓OF, NK, t3, fieldPtr_ptr, Nat.zero_add]
 refine ops_s ?_
 simp only [↓OF, NK, lb9]
 refine ops_s ?_
 simp only [↓OF, NK, eqlS]
 refine ops_s ?_
 simp only [↓OF, NK, pickV_true]
 refine ops_s ?_
 simp only [↓OF, NK]
 refine ops_s ?_
 simp only [↓OF, NK, t2, fieldPtr_ptr, Nat.zero_add]
 refine ops_s ?_
 simp only [↓OF, NK, la10]
 refine ops_s ?_
 simp only [↓OF, NK, t3, fieldPtr_ptr, Nat.zero_add]
 refine ops_s ?_
 simp only [↓OF, NK, lb10]
 refine ops_s ?_
 simp only [↓OF, NK, eqlV]
 refine ops_s ?_
 simp only [↓OF, NK, pickV_true]
 refine ops_s ?_
 simp only [↓OF, NK]
 refine ops_s ?_
 simp only [↓OF, NK, t2, fieldPtr_ptr, Nat.zero_add]
 refine ops_s ?_
 simp only [↓OF, NK, la11]
 refine ops_s ?_
 simp only [↓OF, NK, t3, fieldPtr_ptr, Nat.zero_add]
 refine ops_s ?_
 simp only [↓OF, NK, lb11]
 refine ops_s ?_
 simp only [↓OF, NK, eqlB]
 refine ops_s ?_
 simp only [↓OF, NK, pickV_true]
 refine ops_s ?_
 simp only [↓OF, NK]
 refine ops_s ?_
 simp only [↓OF, NK, t2, fieldPtr_ptr, Nat.zero_add]
 refine ops_s ?_
 simp only [↓OF, NK, la12]
 refine ops_s ?_
 simp only [↓OF, NK, t3, fieldPtr_ptr, Nat.zero_add]
 refine ops_s ?_
 simp only [↓OF, NK, lb12]
 refine ops_s ?_
 simp only [↓OF, NK, eqlB]
 refine ops_s ?_
 simp only [↓OF, NK, pickV_true]
 refine ops_s ?_
 simp only [↓OF, NK]
 exact hK _ _ _ (hQ hx kx)
theorem law14 (L n : Nat) (hL : 2000 ≤ L) {q : RQ} {kv1 kv2 : Value} {h : H} (s1 : Strs h kv1 q.keys) (s2 : Strs h kv2 q.keys) (hk : q.keys.length ≤ 1000) :
   Sp (CF L (n + 2)) 14 [q.v kv1, q.v kv2] h fun r h' => r = .bool true ∧ Keep nobody h h' := by
 refine Sp.body f14 (by simp) ?_
 have hc1 : (Value.cells (q.v kv1)).toList = q.cells kv1 := rfl
 have hc2 : (Value.cells (q.v kv2)).toList = q.cells kv2 := rfl
 have k1 := Keep.new h (.rw (q.cells kv1) (some 28))
 have b1 := Has.new h (.rw (q.cells kv1) (some 28))
 unfold c14
 refine C.seq fun K hK => ?_
 simp only [seval, ↓EW, EV, r14_0, hc1]
 generalize h.new (.rw (q.cells kv1) (some 28)) = h1 at *
 have k2 := Keep.new h1 (.rw (q.cells kv2) (some 28))
 have b2 := Has.new h1 (.rw (q.cells kv2) (some 28))
 simp only [hc2]
 generalize h1.new (.rw (q.cells kv2) (some 28)) = h2 at *
 have k12 := k1.then k2
 refine hK _ _ _ (C.seq (reg14_1 L n hL (b1.keep0 k2) b2 (s1.keep0 k12) (s2.keep0 k12) hk (by simp only [seval, EV]) (by simp only [seval, EV]) fun hx kx => C.ret ⟨.inr rfl, [.bool true], by simp only [seval, EV, q14], rfl, k12.then kx⟩))
theorem law15 (L n : Nat) (hL : 2000 ≤ L) {n1 n2 : Nat} {v1 v2 : Value} {l : List RQ} {h : H} (a1 : Reqs n1 h v1 l) (a2 : Reqs n2 h v2 l) (hk : ∀ q ∈ l, q.keys.length ≤ 1000) (hl : l.length < L) (h9 : l.length ≤ 100000) :
   Sp (CF L (n + 3)) 15 [v1, v2] h fun r h' => r = .bool true ∧ Keep nobody h h' := by
 refine Sp.body f15 (by simp) ?_
 unfold c15
 refine C.seq fun K hK => ?_
 simp only [seval, EV, r15_0]
 refine hK _ _ _ (C.seq (C.seq fun K hK => ?_))
 simp only [seval, EV, r15_1, a1.len, a2.len]
 refine hK _ _ _ (C.cf <| C.skip (C.seq (C.seq fun K hK => ?_)))
 simp only [r15_3]
 refine hK _ _ _ (C.block ?_)
 refine (C.loop (L := L) (fun m tm' h' => ∃ i, m = l.length - i ∧ i ≤ l.length ∧ Keep nobody h h' ∧ tg tm' 0 = v1 ∧ tg tm' 1 = v2 ∧ tg tm' 5 = .int .i64 (i : Int)) l.length (by omega)
   ⟨0, by omega, Nat.zero_le _, .refl _ _, by simp only [↓reduceIte, EV, Nat.reduceEqDiff], by simp only [↓reduceIte, EV, Nat.reduceEqDiff], by simp only [↓reduceIte, EV]; rfl⟩ fun m tm' h' hi => ?_ :
   C (loopB l15_8) _ L _ h fun e tm' h' => e = .exit 0 ∧ Keep nobody h h').mono ?_
 · obtain ⟨i, hm, hi, kk, t0, t1, t5⟩ := hi
   unfold l15_8
   refine C.seq (C.seq fun K hK => ?_)
   by_cases g : (i : Int) < (l.length : Int)
   · simp only [EV, r15_4, t0, a1.len, t5, dT g]
     refine hK _ _ _ (C.ct (C.skip (C.seq (C.block (C.seq fun K hK => ?_)))))
     obtain ⟨q, hq⟩ : ∃ q, l[i]? = some q := ⟨_, List.getElem?_eq_getElem (by omega)⟩
     have kr := keep_room h' 10
     have kx := kk.then kr
     generalize hh : (⟨h'.objs, h'.next + 10⟩ : H) = hx at *
     obtain ⟨b, o, kv1, e1, l1, s1⟩ := a1.at hq
     obtain ⟨b', o', kv2, e2, l2, s2⟩ := a2.at hq
     have w1 : IntKind.i64.wrap ((i : Int) + 1) = ((i + 1 : Nat) : Int) := by
       rw [show (i : Int) + 1 = ((i + 1 : Nat) : Int) by omega]; exact wrap_lt _ (by omega)
     simp only [seval, EV, r15_6, hh, t0, t1, t5, e1, e2, l1 hx kx, l2 hx kx]
     refine law14 L n hL (s1.keep0 kx) (s2.keep0 kx) (hk q (List.mem_of_getElem? hq)) _ fun r hy hqq => ?_
     obtain ⟨rfl, ky⟩ := hqq
     simp only [EV]
     refine hK _ _ _ (C.cf <| C.skip fun K hK => ?_)
     rw [box_f]
     simp only [seval, EV, r15_5, t5, w1]
     exact hK _ _ _ ⟨l.length - (i + 1), by omega, i + 1, rfl, by omega, kx.then ky, by simp only [seval, EV, t0], by simp only [seval, EV, t1], by simp only [seval, EV]⟩
   · simp only [EV, r15_4, t0, a1.len, t5, dF g]
     refine hK _ _ _ (C.cf <| fun K hK => ?_)
     simp only [exitC]
     exact hK _ _ _ ⟨rfl, kk⟩
 · rintro e tm' h' ⟨rfl, kk⟩
   show C _ _ _ _ _ _
   refine C.seq fun K hK => ?_
   simp only [r15_8]
   exact hK _ _ _ (C.ret ⟨.inr rfl, [.bool true], by simp only [seval, EV, q15], rfl, kk⟩)
end Go.Proofs.YtilpiiafjehbnaaGreatDoor
