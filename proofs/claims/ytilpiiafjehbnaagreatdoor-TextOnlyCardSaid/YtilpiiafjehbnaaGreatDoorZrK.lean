import Derived.Test.YtilpiiafjehbnaaGreatDoorZrG
set_option linter.unusedSimpArgs false
set_option linter.unusedVariables false
namespace Go.Proofs.YtilpiiafjehbnaaGreatDoor
open Go.Ev
theorem f62 : funcB Tryz.prog (maskOf masks) outside NG 62 = ⟨fun _ _ args h K => xK (xVal NG .idxByte h args) K⟩ := by kernel_rfl
theorem f45 : funcB Tryz.prog (maskOf masks) outside NG 45 = ⟨fun _ _ args h K => xK (xVal NG (.index 0) h args) K⟩ := by kernel_rfl
theorem Rd.bytesX {h : H} {v : Value} {l : List UInt8} (a : Rd h v l) : bytesX h v = some l := by
 rcases a with ⟨rfl, rfl⟩ | ⟨b, o, c, x, cs, rfl, h1, h2, h3, h4, _⟩
 · rfl
 · show (match h.row b o l.length with | some l => bytesOf l | none => none) = _
   rw [row_has h1 h2 h3, h4]
   exact bytesOf_bv l
theorem idx71 (L n : Nat) {v : Value} {l : List UInt8} {h : H} (hr : Rd h v l) : Sp (CF L (n + 1)) 62 [v, .int .u8 13] h fun r h' => r = .int .i64 (idxL 13 l 0) ∧ h' = h := fun K hK => by
 unfold CF
 rw [callF_succ, f62]
 show xK (match Go.Ev.bytesX h v with | some s => some (.int .i64 (idxL (u8Nat 13) s 0), h) | none => none) K = true
 rw [hr.bytesX]
 exact hK (.int .i64 (idxL 13 l 0)) h ⟨rfl, rfl⟩
theorem idx56 (L n : Nat) {v : Value} {l : List UInt8} {h : H} (hr : Rd h v l) : Sp (CF L (n + 2)) 43 [v, .int .u8 13] h fun r h' => r = .int .i64 (idxL 13 l 0) ∧ h' = h := by
 refine Sp.body f43 (by simp) ?_
 unfold c43
 refine C.seq fun K hK => ?_
 simp only [seval, EV, r43_0]
 refine hK .norm _ _ (C.seq fun K hK => ?_)
 simp only [seval, EV, r43_1]
 refine idx71 L n hr _ fun r h2 hq => ?_
 obtain ⟨rfl, rfl⟩ := hq
 refine hK _ _ _ (C.ret ⟨.inr rfl, _, rfl, ?_, rfl⟩)
 simp only [seval, EV, resOf]
theorem index58 (L n : Nat) {v sep : Value} {l : List UInt8} {h : H} {m : Nat} (hr : Rd h v l) (hs : Rd h sep [13, 10]) (hl : l.length ≤ 1000) (hM : Has h 0 (.ro [.int .i64 (m : Int)])) (h2 : 2 ≤ m) :
   Sp (CF L (n + 1)) 45 [v, sep] h fun r h' => r = .int .i64 (crlf l) ∧ h' = h := fun K hK => by
 unfold CF
 rw [callF_succ, f45]
 have ld := loadOne_has (s := none) (o := 0) hM rfl
 have e : xIndex NG 0 h l [13, 10] = some (.int .i64 (findL [13, 10] l 0)) := by
   unfold xIndex
   show (match loadOne h (.pointer (some ⟨0, 0, none⟩)) with
     | some (.int .i64 (.ofNat m)) => match Nat.ble 2 2 && Nat.ble 2 m && Nat.ble l.length 4294967280 with
       | true => some (Value.int .i64 (findL [13, 10] l 0))
       | false => none
     | _ => none) = _
   rw [ld]
   show (match Nat.ble 2 2 && Nat.ble 2 m && Nat.ble l.length 4294967280 with
       | true => some (Value.int .i64 (findL [13, 10] l 0))
       | false => none) = _
   rw [Nat.ble_eq_true_of_le h2, Nat.ble_eq_true_of_le (show l.length ≤ 4294967280 by omega)]
   rfl
 show xK (match Go.Ev.bytesX h v, Go.Ev.bytesX h sep with
     | some a, some b => match xIndex NG 0 h a b with | some v => some (v, h) | none => none
     | _, _ => none) K = true
 rw [hr.bytesX, hs.bytesX]
 show xK (match xIndex NG 0 h l [13, 10] with | some v => some (v, h) | none => none) K = true
 rw [e]
 exact hK (.int .i64 (crlf l)) h ⟨rfl, rfl⟩
theorem equal57 (L n : Nat) {v w : Value} {a b : List UInt8} {h : H} (hv : Rd h v a) (hw : Rd h w b) : Sp (CF L (n + 1)) 44 [v, w] h fun r h' => r = .bool (decide (a = b)) ∧ h' = h := by
 refine Sp.body f44 (by simp) ?_
 unfold c44
 refine C.seq fun K hK => ?_
 simp only [seval, EV, r44_0]
 refine hK .norm _ _ (C.seq fun K hK => ?_)
 have q : binV Tryz.prog .eql 9 false (.string ⟨a.toArray⟩) (.string ⟨b.toArray⟩) = some (.bool (decide (a = b))) := sv_eql 9 false a b
 simp only [seval, EV, r44_1, hv.str, hw.str, q]
 refine hK _ _ _ (C.ret ⟨.inr rfl, _, rfl, ?_, rfl⟩)
 simp only [seval, EV, resOf]
theorem beq13 (x : UInt8) : Nat.beq x.toNat 13 = decide (x = 13) := by
 by_cases g : x = 13
 · subst g; rfl
 · rw [dF g, Bool.eq_false_iff]
   intro e; exact g (UInt8.toNat_inj.1 (Nat.eq_of_beq_eq_true e))
theorem idx13 : ∀ (l : List UInt8) (k : Nat), (idxL 13 l k = -1 ∧ ∀ j : Nat, l[j]? ≠ some 13) ∨ ∃ i : Nat, idxL 13 l k = ((i + k : Nat) : Int) ∧ l[i]? = some 13 ∧ ∀ j : Nat, j < i → l[j]? ≠ some 13
 | [], k => .inl ⟨rfl, fun j h => by simp at h⟩
 | x :: r, k => by
   have e : idxL 13 (x :: r) k = match Nat.beq x.toNat 13 with | true => Int.ofNat k | false => idxL 13 r (k + 1) := rfl
   rw [e, beq13]
   by_cases g : x = 13
   · rw [dT g]
     exact .inr ⟨0, by simp, by simp [g], fun j h => by omega⟩
   · rw [dF g]
     rcases idx13 r (k + 1) with ⟨h1, h2⟩ | ⟨i, h1, h2, h3⟩
     · refine .inl ⟨h1, fun j => ?_⟩
       cases j with
       | zero => simpa using g
       | succ j => simpa using h2 j
     · refine .inr ⟨i + 1, by show idxL 13 r (k + 1) = _; rw [h1]; congr 1; omega, by simpa using h2, fun j hj => ?_⟩
       cases j with
       | zero => simpa using g
       | succ j => simpa using h3 j (by omega)
theorem at_drop {l : List UInt8} {i j : Nat} : At (l.drop i) j ↔ At l (i + j) := by
 unfold At
 rw [List.getElem?_drop, List.getElem?_drop, Nat.add_assoc]
theorem crlf_drop {l : List UInt8} {i : Nat} (hn : ∀ j, j < i → ¬ At l j) : (crlf (l.drop i) = -1 ∧ crlf l = -1) ∨ ∃ k : Nat, crlf (l.drop i) = (k : Int) ∧ crlf l = ((i + k : Nat) : Int) ∧ i + k + 1 < l.length := by
 rcases crlf_spec (l.drop i) with ⟨h1, h2⟩ | ⟨k, h1, h2, h3⟩
 · refine .inl ⟨h1, crlf_none fun j => ?_⟩
   by_cases g : j < i
   · exact hn j g
   · have := h2 (j - i)
     rw [at_drop, show i + (j - i) = j by omega] at this
     exact this
 · have hat := at_drop.1 h2
   refine .inr ⟨k, h1, crlf_at hat fun j hj => ?_, hat.lt⟩
   by_cases g : j < i
   · exact hn j g
   · have := h3 (j - i) (by omega)
     rw [at_drop, show i + (j - i) = j by omega] at this
     exact this
theorem skip13 {l : List UInt8} {i : Nat} (h0 : l[i]? ≠ some 13) (hi : i + 1 < l.length) (hn : ∀ j, j < i → ¬ At l j) :
   (idxL 13 ((l.take (l.length - 1)).drop (i + 1)) 0 = -1 ∧ crlf l = -1) ∨ ∃ o : Nat, idxL 13 ((l.take (l.length - 1)).drop (i + 1)) 0 = (o : Int) ∧ l[i + (o + 1)]? = some 13 ∧ i + (o + 1) + 1 < l.length ∧ ∀ j, j < i + (o + 1) → ¬ At l j := by
 have key : ∀ j, i < j → At l j → ((l.take (l.length - 1)).drop (i + 1))[j - (i + 1)]? = some 13 := fun j hj ha => by
   rw [List.getElem?_drop, show i + 1 + (j - (i + 1)) = j by omega, List.getElem?_take, if_pos (by have := ha.lt; omega)]
   exact ha.1
 have ni : ¬ At l i := fun ha => h0 ha.1
 rcases idx13 ((l.take (l.length - 1)).drop (i + 1)) 0 with ⟨h1, h2⟩ | ⟨o, h1, h2, h3⟩
 · refine .inl ⟨h1, crlf_none fun j ha => ?_⟩
   rcases Nat.lt_trichotomy j i with g | g | g
   · exact hn j g ha
   · rw [g] at ha; exact ni ha
   · exact h2 _ (key j g ha)
 · have hlt := (List.getElem?_eq_some_iff.1 h2).1
   simp only [List.length_drop, List.length_take] at hlt
   refine .inr ⟨o, by simpa using h1, ?_, by omega, fun j hj ha => ?_⟩
   · rw [List.getElem?_drop, List.getElem?_take, if_pos (by omega)] at h2
     rw [← h2]; congr 1; omega
   · rcases Nat.lt_trichotomy j i with g | g | g
     · exact hn j g ha
     · rw [g] at ha; exact ni ha
     · exact h3 (j - (i + 1)) (by omega) (key j g ha)
theorem neq_u8 (t : TypeId) (c : Bool) (x y : UInt8) : binV Tryz.prog .neq t c (bv x) (bv y) = some (.bool (!decide (x = y))) := by
 have e : ((x.toNat : Int) = (y.toNat : Int)) ↔ x = y := by
   rw [Int.ofNat_inj]; exact UInt8.toNat_inj
 show binV Tryz.prog .neq t c (.int .u8 (x.toNat : Int)) (.int .u8 (y.toNat : Int)) = _
 rw [binV_neq]
 by_cases g : x = y
 · rw [dT g, dT (e.2 g)]
 · rw [dF g, dF fun h => g (e.1 h)]
theorem wreg28_26 (L n : Nat) {v sep : Value} {l : List UInt8} {h : H} {tm : T Value} {i : Nat} {Q : Ex → T Value → H → Prop} (hr : Rd h v l) (hs : Rd h sep [13, 10]) (hl : l.length ≤ 1000) (h13 : l[i]? = some 13) (hi : i + 1 < l.length)
   (t0 : tg tm 0 = v) (t1 : tg tm 1 = sep) (ti : tg tm 8 = .int .i64 (i : Int)) (tc : tg tm 7 = bv 10) (tn : tg tm 5 = .int .i64 2)
   (hQ : Q .norm (T.set tm 105 (.bool (decide (At l i)))) h) : C ⟨r29_26⟩ (CF L (n + 1)) L tm h Q := fun K hK => by
 rw [box_f]
 obtain ⟨y, hy⟩ : ∃ y, l[i + 1]? = some y := ⟨_, List.getElem?_eq_getElem hi⟩
 obtain ⟨b, o, e1, e2, _⟩ := hr.at hy
 have w : IntKind.i64.wrap ((i : Int) + 1) = ((i + 1 : Nat) : Int) := by
   rw [show (i : Int) + 1 = ((i + 1 : Nat) : Int) by omega]; exact wrap_lt _ (by omega)
 have w2 : IntKind.i64.wrap ((i : Int) + 2) = ((i + 2 : Nat) : Int) := by
   rw [show (i : Int) + 2 = ((i + 2 : Nat) : Int) by omega]; exact wrap_lt _ (by omega)
 have ha : At l i ↔ y = 10 := by simp [At, h13, hy]
 by_cases g : y = 10
 · rw [dT (ha.2 g)] at hQ
   obtain ⟨v2, s1, s2, _⟩ := hr.mid (some (.int .i64 (i : Int))) i (i + 2) (.inr rfl) (by omega) (by omega) .i64
   simp only [seval, ↓opStep_eq, ↓EW, EV, r29_26, t0, t1, ti, tc, tn, w, w2, e1, e2, eql_u8, dT g, s1]
   refine equal57 L n s2 hs _ fun r h2 hq => ?_
   obtain ⟨rfl, hh⟩ := hq
   rw [hh]
   have hc : (l.take (i + 2)).drop i = [13, 10] := by
     rw [List.drop_take, show i + 2 - i = 2 by omega]
     obtain ⟨p1, q1⟩ := List.getElem?_eq_some_iff.1 h13
     obtain ⟨p2, q2⟩ := List.getElem?_eq_some_iff.1 hy
     rw [List.drop_eq_getElem_cons p1, List.drop_eq_getElem_cons p2, q1, q2, g]
     rfl
   simp only [dT hc]
   exact hK _ _ _ hQ
 · rw [dF fun h => g (ha.1 h)] at hQ
   simp only [seval, ↓opStep_eq, ↓EW, EV, r29_26, t0, ti, tc, w, e1, e2, eql_u8, dF g]
   exact hK _ _ _ hQ
theorem wreg28_46 (L n : Nat) {v sep : Value} {l : List UInt8} {h : H} {tm : T Value} {i : Nat} {Q : Ex → T Value → H → Prop} (hr : Rd h v l) (hs : Rd h sep [13, 10]) (hl : l.length ≤ 1000) (h13 : l[i]? = some 13) (hi : i + 1 < l.length)
   (t0 : tg tm 0 = v) (t1 : tg tm 1 = sep) (ti : tg tm 15 = .int .i64 (i : Int)) (tc : tg tm 14 = bv 10) (tn : tg tm 5 = .int .i64 2)
   (hQ : Q .norm (T.set tm 174 (.bool (decide (At l i)))) h) : C ⟨r29_46⟩ (CF L (n + 1)) L tm h Q := fun K hK => by
 rw [box_f]
 obtain ⟨y, hy⟩ : ∃ y, l[i + 1]? = some y := ⟨_, List.getElem?_eq_getElem hi⟩
 obtain ⟨b, o, e1, e2, _⟩ := hr.at hy
 have w : IntKind.i64.wrap ((i : Int) + 1) = ((i + 1 : Nat) : Int) := by
   rw [show (i : Int) + 1 = ((i + 1 : Nat) : Int) by omega]; exact wrap_lt _ (by omega)
 have w2 : IntKind.i64.wrap ((i : Int) + 2) = ((i + 2 : Nat) : Int) := by
   rw [show (i : Int) + 2 = ((i + 2 : Nat) : Int) by omega]; exact wrap_lt _ (by omega)
 have ha : At l i ↔ y = 10 := by simp [At, h13, hy]
 by_cases g : y = 10
 · rw [dT (ha.2 g)] at hQ
   obtain ⟨v2, s1, s2, _⟩ := hr.mid (some (.int .i64 (i : Int))) i (i + 2) (.inr rfl) (by omega) (by omega) .i64
   simp only [seval, ↓opStep_eq, ↓EW, EV, r29_46, t0, t1, ti, tc, tn, w, w2, e1, e2, eql_u8, dT g, s1]
   refine equal57 L n s2 hs _ fun r h2 hq => ?_
   obtain ⟨rfl, hh⟩ := hq
   rw [hh]
   have hc : (l.take (i + 2)).drop i = [13, 10] := by
     rw [List.drop_take, show i + 2 - i = 2 by omega]
     obtain ⟨p1, q1⟩ := List.getElem?_eq_some_iff.1 h13
     obtain ⟨p2, q2⟩ := List.getElem?_eq_some_iff.1 hy
     rw [List.drop_eq_getElem_cons p1, List.drop_eq_getElem_cons p2, q1, q2, g]
     rfl
   simp only [dT hc]
   exact hK _ _ _ hQ
 · rw [dF fun h => g (ha.1 h)] at hQ
   simp only [seval, ↓opStep_eq, ↓EW, EV, r29_46, t0, ti, tc, w, e1, e2, eql_u8, dF g]
   exact hK _ _ _ hQ
def hstep (a x : Nat) : Nat := (16777619 * a + x) % 4294967296
def hsh (l : List UInt8) (a : Nat) : Nat := l.foldl (fun a x => hstep a x.toNat) a
theorem hsh_take {l : List UInt8} {i : Nat} {c : UInt8} (h : l[i]? = some c) : hsh (l.take (i + 1)) 0 = hstep (hsh (l.take i) 0) c.toNat := by
 unfold hsh
 rw [List.take_add_one, h, List.foldl_append]
 simp only [Option.toList, List.foldl_cons, List.foldl_nil]
theorem hsh2 : hsh [13, 10] 0 = 218109057 := by simp [hsh, hstep]
theorem hsh0 : hsh [] 0 = 0 := rfl
theorem u32w (x : Int) : IntKind.u32.wrap x = x % 4294967296 := rfl
theorem hash_step {a : Nat} {c : UInt8} : IntKind.u32.wrap (IntKind.u32.wrap ((a : Int) * 16777619) + IntKind.u32.wrap (c.toNat : Int)) = ((hstep a c.toNat : Nat) : Int) := by
 rw [u32w, u32w, u32w]
 unfold hstep
 omega
theorem hash72 (L n : Nat) {v : Value} {h0 : H} (hL : 100 ≤ L) (hr : Rd h0 v [13, 10]) : Sp (CF L (n + 1)) 63 [v] h0 fun r h' => r = .tuple #[.int .u32 218109057, .int .u32 637696617] ∧ h' = h0 := by
 refine Sp.body f63 (by simp) ?_
 unfold c63
 refine C.seq fun K hK => ?_
 simp only [EV, r63_0]
 refine hK .norm _ _ (C.seq fun K hK => ?_)
 simp only [r63_1]
 refine hK .norm _ _ (C.seq (C.seq fun K hK => ?_))
 simp only [r63_2]
 refine hK .norm _ _ (C.block ?_)
 have hl : lenSl v = some (.int .i64 2) := hr.len
 have key : ∀ tm, tg tm 0 = v → tg tm 4 = .int .u32 0 → tg tm 5 = .int .i64 0 → C (loopB l63_6) (CF L n) L tm h0 fun e tm' h' => e = .exit 0 ∧ h' = h0 ∧ tg tm' 0 = v ∧ tg tm' 4 = .int .u32 218109057 := fun tm t0 t4 t5 => by
   refine C.loop (L := L) (fun k tm h' => ∃ pos : Nat, k = 2 - pos ∧ pos ≤ 2 ∧ tg tm 0 = v ∧ tg tm 5 = .int .i64 (pos : Int) ∧ tg tm 4 = .int .u32 (hsh (([13, 10] : List UInt8).take pos) 0 : Nat) ∧ h' = h0) 2 (by omega) ⟨0, rfl, by omega, t0, t5, by rw [t4, List.take_zero, hsh0]; rfl, rfl⟩ ?_
   rintro k tm h' ⟨pos, rfl, hp, t0, t5, t4, rfl⟩
   refine C.seq (C.seq fun K hK => ?_)
   by_cases g : pos < 2
   · have g' : (pos : Int) < 2 := by omega
     obtain ⟨c, hc⟩ : ∃ c, ([13, 10] : List UInt8)[pos]? = some c := ⟨_, List.getElem?_eq_getElem (by simpa using g)⟩
     obtain ⟨b, o, e1, e2, _⟩ := hr.at hc
     simp only [EV, r63_3, t0, t5, hl, dT g']
     refine hK _ _ _ (C.ct (C.skip (C.seq (C.block fun K hK => ?_))))
     have bve : bv c = .int .u8 (c.toNat : Int) := rfl
     simp only [seval, EV, r63_5, t0, t4, t5, e1, e2, bve, toInt_int, hash_step]
     refine hK _ _ _ fun K hK => ?_
     have w : IntKind.i64.wrap ((pos : Int) + 1) = ((pos + 1 : Nat) : Int) := by
       rw [show (pos : Int) + 1 = ((pos + 1 : Nat) : Int) by omega]; exact wrap_lt _ (by omega)
     simp only [seval, EV, r63_4, t5, w]
     exact hK _ _ _ ⟨2 - (pos + 1), by omega, pos + 1, rfl, by omega, by simp only [seval, EV, t0], by simp only [seval, EV], by simp only [seval, EV]; rw [hsh_take hc], rfl⟩
   · have g' : ¬ (pos : Int) < 2 := by omega
     have hp2 : pos = 2 := by omega
     subst hp2
     simp only [EV, r63_3, t0, t5, hl, dF g']
     refine hK _ _ _ (C.cf <| C.exit ⟨rfl, rfl, by simp only [seval, EV, t0], ?_⟩)
     simp only [seval, EV, t4]
     rw [show ([13, 10] : List UInt8).take 2 = [13, 10] from rfl, hsh2]
     rfl
 refine (key _ (by simp only [seval, EV]) (by simp only [seval, EV]) (by simp only [seval, EV])).mono ?_
 rintro e tm' h' ⟨rfl, rfl, t0, t4⟩
 show if 0 = 0 then _ else _
 rw [if_pos rfl]
 refine C.seq fun K hK => ?_
 simp only [r63_6]
 refine hK _ _ _ (C.seq (C.seq fun K hK => ?_))
 simp only [seval, EV, r63_7, t0, hl]
 refine hK _ _ _ (C.block ?_)
 have key2 : ∀ tm, tg tm 4 = .int .u32 218109057 → tg tm 6 = .int .u32 1 → tg tm 7 = .int .u32 16777619 → tg tm 8 = .int .i64 2 → C (loopB l63_14) (CF L n) L tm h' fun e tm' h2 => e = .exit 2 ∧ h2 = h' ∧ tg tm' 4 = .int .u32 218109057 ∧ tg tm' 6 = .int .u32 637696617 := fun tm t4 t6 t7 t8 => by
   refine C.loop (L := L) (fun k tm h2 => h2 = h' ∧ tg tm 4 = .int .u32 218109057 ∧ (k = 2 ∧ tg tm 6 = .int .u32 1 ∧ tg tm 7 = .int .u32 16777619 ∧ tg tm 8 = .int .i64 2 ∨ k = 1 ∧ tg tm 6 = .int .u32 1 ∧ tg tm 7 = .int .u32 637696617 ∧ tg tm 8 = .int .i64 1 ∨ k = 0 ∧ tg tm 6 = .int .u32 637696617 ∧ tg tm 8 = .int .i64 0)) 2 (by omega) ⟨rfl, t4, .inl ⟨rfl, t6, t7, t8⟩⟩ ?_
   rintro k tm h2 ⟨rfl, t4, (⟨rfl, t6, t7, t8⟩ | ⟨rfl, t6, t7, t8⟩ | ⟨rfl, t6, t8⟩)⟩
   · have d1 : decide ((0 : Int) < 2) = true := rfl
     have a1 : binV Tryz.prog .and 3 true (.int .i64 2) (.int .i64 1) = some (.int .i64 0) := by kernel_rfl
     have m1 : binV Tryz.prog .mul 23 false (.int .u32 16777619) (.int .u32 16777619) = some (.int .u32 637696617) := by kernel_rfl
     have s1 : binV Tryz.prog .shr 3 true (.int .i64 2) (.int .u64 1) = some (.int .i64 1) := by kernel_rfl
     have n1 : (!decide ((0 : Int) = 0)) = false := rfl
     refine C.seq (C.seq fun K hK => ?_)
     simp only [seval, EV, r63_8, t8]
     refine hK _ _ _ (C.ct (C.skip (C.seq (C.block (C.seq (C.seq fun K hK => ?_))))))
     simp only [seval, EV, r63_10, t8, a1]
     refine hK _ _ _ (C.cf <| C.skip fun K hK => ?_)
     simp only [seval, r63_12, tg_set, t7, m1, kO_some]
     refine hK _ _ _ fun K hK => ?_
     simp only [seval, r63_9, tg_set, t8, s1, kO_some]
     exact hK _ _ _ ⟨1, by omega, rfl, by simp only [seval, EV, t4], .inr (.inl ⟨rfl, by simp only [seval, EV, t6], by simp only [seval, EV], by simp only [seval, EV]⟩)⟩
   · have d1 : decide ((0 : Int) < 1) = true := rfl
     have a1 : binV Tryz.prog .and 3 true (.int .i64 1) (.int .i64 1) = some (.int .i64 1) := by kernel_rfl
     have m0 : binV Tryz.prog .mul 23 false (.int .u32 1) (.int .u32 637696617) = some (.int .u32 637696617) := by kernel_rfl
     have s1 : binV Tryz.prog .shr 3 true (.int .i64 1) (.int .u64 1) = some (.int .i64 0) := by kernel_rfl
     have n1 : (!decide ((1 : Int) = 0)) = true := rfl
     refine C.seq (C.seq fun K hK => ?_)
     simp only [seval, EV, r63_8, t8]
     refine hK _ _ _ (C.ct (C.skip (C.seq (C.block (C.seq (C.seq fun K hK => ?_))))))
     simp only [seval, EV, r63_10, t8, a1]
     refine hK _ _ _ (C.ct (fun K hK => ?_))
     simp only [seval, r63_11, tg_set, t6, t7, m0, kO_some]
     refine hK _ _ _ fun K hK => ?_
     simp only [seval, EV, r63_12, t7]
     refine hK _ _ _ fun K hK => ?_
     simp only [seval, r63_9, tg_set, t8, s1, kO_some]
     exact hK _ _ _ ⟨0, by omega, rfl, by simp only [seval, EV, t4], .inr (.inr ⟨rfl, by simp only [seval, EV], by simp only [seval, EV]⟩)⟩
   · have d1 : decide ((0 : Int) < 0) = false := rfl
     refine C.seq (C.seq fun K hK => ?_)
     simp only [seval, EV, r63_8, t8]
     exact hK _ _ _ (C.cf <| C.exit ⟨rfl, rfl, by simp only [seval, EV, t4], by simp only [seval, EV, t6]⟩)
 refine (key2 _ (by simp only [seval, EV, t4]) (by simp only [seval, EV]) (by simp only [seval, EV]) (by simp only [seval, EV])).mono ?_
 rintro e tm2 h2 ⟨rfl, rfl, t4, t6⟩
 show if 2 = 2 then _ else _
 rw [if_pos rfl]
 refine C.seq fun K hK => ?_
 simp only [r63_13, t4, t6]
 refine hK _ _ _ (C.ret ⟨.inr rfl, _, rfl, ?_, rfl⟩)
 simp only [seval, EV, resOf]
def hp (a b : Nat) : Nat := hstep (hstep 0 a) b
theorem hp_two (a b : UInt8) : hsh [a, b] 0 = hp a.toNat b.toNat := rfl
theorem hp_end : hp 13 10 = 218109057 := by simp [hp, hstep]
theorem hp_next (a b c : UInt8) : IntKind.u32.wrap (IntKind.u32.wrap (IntKind.u32.wrap (((hp a.toNat b.toNat : Nat) : Int) * 16777619) + IntKind.u32.wrap (c.toNat : Int)) - IntKind.u32.wrap (637696617 * IntKind.u32.wrap (a.toNat : Int))) = ((hp b.toNat c.toNat : Nat) : Int) := by
 have h1 := a.toNat_lt
 have h2 := b.toNat_lt
 have h3 := c.toNat_lt
 generalize a.toNat = x at *
 generalize b.toNat = y at *
 generalize c.toNat = z at *
 rw [u32w, u32w, u32w, u32w, u32w, u32w]
 unfold hp hstep
 omega
theorem two_at {l : List UInt8} {i : Nat} {a b : UInt8} (h1 : l[i]? = some a) (h2 : l[i + 1]? = some b) : (l.take (i + 2)).drop i = [a, b] := by
 rw [List.drop_take, show i + 2 - i = 2 by omega]
 obtain ⟨p1, q1⟩ := List.getElem?_eq_some_iff.1 h1
 obtain ⟨p2, q2⟩ := List.getElem?_eq_some_iff.1 h2
 rw [List.drop_eq_getElem_cons p1, List.drop_eq_getElem_cons p2, q1, q2]
 rfl
theorem chk_at {l : List UInt8} {i : Nat} {a b : UInt8} (h1 : l[i]? = some a) (h2 : l[i + 1]? = some b) : At l i ↔ [a, b] = ([13, 10] : List UInt8) := by simp [At, h1, h2]
theorem chk_hash {l : List UInt8} {i : Nat} {a b : UInt8} (h1 : l[i]? = some a) (h2 : l[i + 1]? = some b) (h : ¬ ((hp a.toNat b.toNat : Nat) : Int) = 218109057) : ¬ At l i := fun ha => by
 have := (chk_at h1 h2).1 ha
 simp only [List.cons.injEq, and_true] at this
 obtain ⟨rfl, rfl⟩ := this
 exact h (by rw [show (13 : UInt8).toNat = 13 from rfl, show (10 : UInt8).toNat = 10 from rfl, hp_end]; rfl)
theorem rk60 (L n : Nat) {v sep : Value} {l : List UInt8} {h0 : H} (hL : 1000 ≤ L) (hr : Rd h0 v l) (hs : Rd h0 sep [13, 10]) (hl : l.length ≤ 600) (h2 : 2 ≤ l.length) :
   Sp (CF L (n + 2)) 47 [v, sep] h0 fun r h' => r = .int .i64 (crlf l) ∧ Keep nobody h0 h' := by
 refine Sp.body f47 (by simp) ?_
 unfold c47
 obtain ⟨x0, hx0⟩ : ∃ x, l[0]? = some x := ⟨_, List.getElem?_eq_getElem (by omega)⟩
 obtain ⟨x1, hx1⟩ : ∃ x, l[1]? = some x := ⟨_, List.getElem?_eq_getElem (by omega)⟩
 refine C.seq fun K hK => ?_
 simp only [seval, EV, r47_0]
 refine hK .norm _ _ (C.seq fun K hK => ?_)
 simp only [seval, EV, r47_1]
 refine hash72 L n (by omega) hs _ fun r h2' hq => ?_
 obtain ⟨rfl, hh⟩ := hq
 rw [hh]; clear hh
 have e : ∀ i, tupNth i (.tuple #[.int .u32 218109057, .int .u32 637696617]) = [Value.int .u32 218109057, .int .u32 637696617][i]? := fun i => tupNth_tuple i _
 simp only [EV, e]
 refine hK _ _ _ (C.seq fun K hK => ?_)
 have hl2 : lenSl sep = some (.int .i64 2) := hs.len
 simp only [seval, EV, r47_2, hl2]
 refine hK _ _ _ (C.seq fun K hK => ?_)
 simp only [r47_3]
 refine hK _ _ _ (C.seq (C.seq fun K hK => ?_))
 simp only [r47_4]
 refine hK _ _ _ (C.block ?_)
 have key : ∀ tm, tg tm 0 = v → tg tm 1 = sep → tg tm 5 = .int .u32 218109057 → tg tm 6 = .int .u32 637696617 → tg tm 7 = .int .i64 2 → tg tm 8 = .int .u32 0 → tg tm 9 = .int .i64 0 → C (loopB l47_8) (CF L (n + 1)) L tm h0 fun e tm' h' => e = .exit 0 ∧ h' = h0 ∧ tg tm' 0 = v ∧ tg tm' 1 = sep ∧ tg tm' 5 = .int .u32 218109057 ∧ tg tm' 6 = .int .u32 637696617 ∧ tg tm' 7 = .int .i64 2 ∧ tg tm' 8 = .int .u32 (hp x0.toNat x1.toNat : Nat) := fun tm t0 t1 t5 t6 t7 t8 t9 => by
   refine C.loop (L := L) (fun k tm h' => ∃ pos : Nat, k = 2 - pos ∧ pos ≤ 2 ∧ tg tm 0 = v ∧ tg tm 1 = sep ∧ tg tm 5 = .int .u32 218109057 ∧ tg tm 6 = .int .u32 637696617 ∧ tg tm 7 = .int .i64 2 ∧ tg tm 9 = .int .i64 (pos : Int) ∧ tg tm 8 = .int .u32 (hsh (l.take pos) 0 : Nat) ∧ h' = h0) 2 (by omega) ⟨0, rfl, by omega, t0, t1, t5, t6, t7, t9, by rw [t8, List.take_zero, hsh0]; rfl, rfl⟩ ?_
   rintro k tm h' ⟨pos, rfl, hp', t0, t1, t5, t6, t7, t9, t8, rfl⟩
   refine C.seq (C.seq fun K hK => ?_)
   by_cases g : pos < 2
   · have g' : (pos : Int) < 2 := by omega
     obtain ⟨c, hc⟩ : ∃ c, l[pos]? = some c := ⟨_, List.getElem?_eq_getElem (by omega)⟩
     obtain ⟨b, o, e1, e2, _⟩ := hr.at hc
     simp only [EV, r47_5, t7, t9, dT g']
     refine hK _ _ _ (C.ct (C.skip (C.seq (C.block fun K hK => ?_))))
     have bve : bv c = .int .u8 (c.toNat : Int) := rfl
     simp only [seval, EV, r47_7, t0, t8, t9, e1, e2, bve, toInt_int, hash_step]
     refine hK _ _ _ fun K hK => ?_
     have w : IntKind.i64.wrap ((pos : Int) + 1) = ((pos + 1 : Nat) : Int) := by
       rw [show (pos : Int) + 1 = ((pos + 1 : Nat) : Int) by omega]; exact wrap_lt _ (by omega)
     simp only [seval, EV, r47_6, t9, w]
     exact hK _ _ _ ⟨2 - (pos + 1), by omega, pos + 1, rfl, by omega, by simp only [seval, EV, t0], by simp only [seval, EV, t1], by simp only [seval, EV, t5], by simp only [seval, EV, t6], by simp only [seval, EV, t7], by simp only [seval, EV], by simp only [seval, EV]; rw [hsh_take hc], rfl⟩
   · have g' : ¬ (pos : Int) < 2 := by omega
     have hp2 : pos = 2 := by omega
     subst hp2
     simp only [EV, r47_5, t7, t9, dF g']
     refine hK _ _ _ (C.cf <| C.exit ⟨rfl, rfl, by simp only [seval, EV, t0], by simp only [seval, EV, t1], by simp only [seval, EV, t5], by simp only [seval, EV, t6], by simp only [seval, EV, t7], ?_⟩)
     have := two_at (i := 0) hx0 hx1
     rw [Nat.zero_add, List.drop_zero] at this
     simp only [seval, EV, t8]
     rw [this, hp_two]
 refine (key _ (by simp only [seval, EV]) (by simp only [seval, EV]) (by simp only [seval, EV]) (by simp only [seval, EV]) (by simp only [seval, EV]) (by simp only [seval, EV]) (by simp only [seval, EV])).mono ?_
 rintro e tm h' ⟨rfl, rfl, t0, t1, t5, t6, t7, t8⟩
 show if 0 = 0 then _ else _
 rw [if_pos rfl]
 have kn : Keep nobody h' ⟨h'.objs, h'.next + 12⟩ := ⟨by show h'.next ≤ h'.next + 12; omega, fun _ _ _ => rfl⟩
 have rest : ∀ (tm : T Value), tg tm 0 = v → tg tm 1 = sep → tg tm 5 = .int .u32 218109057 → tg tm 6 = .int .u32 637696617 → tg tm 7 = .int .i64 2 → tg tm 8 = .int .u32 (hp x0.toNat x1.toNat : Nat) → ¬ At l 0 →
     C ⟨seqC ⟨seqC ⟨r47_10⟩ ⟨blockC 2 (loopB l47_19)⟩⟩ ⟨seqC ⟨r47_18⟩ retC⟩⟩ (CF L (n + 1)) L tm ⟨h'.objs, h'.next + 12⟩ fun e tm2 h2 => e = .ret ∧ tg tm2 4 = .int .i64 (crlf l) ∧ Keep nobody h' h2 := fun tm t0 t1 t5 t6 t7 t8 hn0 => by
   refine C.seq (C.seq fun K hK => ?_)
   simp only [r47_10, t7]
   refine hK _ _ _ (C.block ?_)
   refine (C.loop (L := L) (fun k tm h2 => ∃ (pos : Nat) (a b : UInt8), k = l.length - (pos + 2) ∧ pos + 2 ≤ l.length ∧ tg tm 0 = v ∧ tg tm 1 = sep ∧ tg tm 5 = .int .u32 218109057 ∧ tg tm 6 = .int .u32 637696617 ∧ tg tm 7 = .int .i64 2 ∧ tg tm 10 = .int .i64 ((pos + 2 : Nat) : Int) ∧ l[pos]? = some a ∧ l[pos + 1]? = some b ∧ tg tm 8 = .int .u32 (hp a.toNat b.toNat : Nat) ∧ (∀ j, j < pos + 1 → ¬ At l j) ∧ Keep nobody h' h2) (l.length - 2) (by omega)
     ⟨0, x0, x1, by omega, by omega, by simp only [↓reduceIte, EV, Nat.reduceEqDiff, t0], by simp only [↓reduceIte, EV, Nat.reduceEqDiff, t1], by simp only [↓reduceIte, EV, Nat.reduceEqDiff, t5], by simp only [↓reduceIte, EV, Nat.reduceEqDiff, t6], by simp only [↓reduceIte, EV, Nat.reduceEqDiff, t7], by simp only [↓reduceIte, EV]; rfl, hx0, hx1, by simp only [↓reduceIte, EV, Nat.reduceEqDiff, t8], fun j hj => by rw [show j = 0 by omega]; exact hn0, kn⟩ ?_ :
     C (loopB l47_19) _ L _ _ fun e tm2 h2 => Keep nobody h' h2 ∧ (e = .exit 2 ∧ crlf l = -1 ∨ e = .ret ∧ tg tm2 4 = .int .i64 (crlf l))).mono ?_
   · rintro k tm h2 ⟨pos, a, b, rfl, hp', t0, t1, t5, t6, t7, t10, ha, hb, t8, hn, kp⟩
     have hr2 := hr.keep0 kp
     have hs2 := hs.keep0 kp
     refine C.seq (C.seq fun K hK => ?_)
     by_cases g : pos + 2 < l.length
     · have g' : ((pos + 2 : Nat) : Int) < (l.length : Int) := by omega
       obtain ⟨c, hc⟩ : ∃ c, l[pos + 2]? = some c := ⟨_, List.getElem?_eq_getElem g⟩
       obtain ⟨p, o, e1, e2, _⟩ := hr2.at hc
       obtain ⟨p', o', e1', e2', _⟩ := hr2.at ha
       simp only [EV, r47_11, t0, t10, hr2.len, dT g']
       refine hK _ _ _ (C.ct (C.skip (C.block (C.seq fun K hK => ?_))))
       simp only [seval, EV, r47_12, t8]
       refine hK _ _ _ (C.seq fun K hK => ?_)
       have bvc : bv c = .int .u8 (c.toNat : Int) := rfl
       have bva : bv a = .int .u8 (a.toNat : Int) := rfl
       simp only [seval, EV, r47_13, t0, t10, e1, e2, bvc, toInt_int]
       refine hK _ _ _ (C.seq fun K hK => ?_)
       have w0 : IntKind.i64.wrap (((pos + 2 : Nat) : Int) - 2) = (pos : Int) := by
         rw [show ((pos + 2 : Nat) : Int) - 2 = (pos : Int) by omega]; exact wrap_lt _ (by omega)
       simp only [seval, EV, r47_14, t0, t6, t7, t10, w0, e1', e2', bva, toInt_int, hp_next]
       refine hK _ _ _ (C.seq fun K hK => ?_)
       have w1 : IntKind.i64.wrap (((pos + 2 : Nat) : Int) + 1) = ((pos + 1 + 2 : Nat) : Int) := by
         rw [show ((pos + 2 : Nat) : Int) + 1 = ((pos + 1 + 2 : Nat) : Int) by omega]; exact wrap_lt _ (by omega)
       simp only [seval, EV, r47_15, t10, w1]
       refine hK _ _ _ (C.seq fun K hK => ?_)
       have w2 : IntKind.i64.wrap (((pos + 1 + 2 : Nat) : Int) - 2) = ((pos + 1 : Nat) : Int) := by
         rw [show ((pos + 1 + 2 : Nat) : Int) - 2 = ((pos + 1 : Nat) : Int) by omega]; exact wrap_lt _ (by omega)
       have k15 : Keep nobody h2 ⟨h2.objs, h2.next + 15⟩ := ⟨by show h2.next ≤ h2.next + 15; omega, fun _ _ _ => rfl⟩
       have hr3 := hr2.keep0 k15
       have hs3 := hs2.keep0 k15
       obtain ⟨v2, s1, s2, _⟩ := hr3.mid (some (.int .i64 ((pos + 1 : Nat) : Int))) (pos + 1) (pos + 1 + 2) (.inr rfl) (by omega) (by omega) .i64
       rw [two_at hb (by rw [← hc])] at s2
       have goOn : ¬ At l (pos + 1) → ∀ (tm' : T Value), tg tm' 0 = v → tg tm' 1 = sep → tg tm' 5 = .int .u32 218109057 → tg tm' 6 = .int .u32 637696617 → tg tm' 7 = .int .i64 2 → tg tm' 10 = .int .i64 ((pos + 1 + 2 : Nat) : Int) → tg tm' 8 = .int .u32 (hp b.toNat c.toNat : Nat) → ∃ k', k' < l.length - (pos + 2) ∧ ∃ (pos : Nat) (a b : UInt8), k' = l.length - (pos + 2) ∧ pos + 2 ≤ l.length ∧ tg tm' 0 = v ∧ tg tm' 1 = sep ∧ tg tm' 5 = .int .u32 218109057 ∧ tg tm' 6 = .int .u32 637696617 ∧ tg tm' 7 = .int .i64 2 ∧ tg tm' 10 = .int .i64 ((pos + 2 : Nat) : Int) ∧ l[pos]? = some a ∧ l[pos + 1]? = some b ∧ tg tm' 8 = .int .u32 (hp a.toNat b.toNat : Nat) ∧ (∀ j, j < pos + 1 → ¬ At l j) ∧ Keep nobody h' ⟨h2.objs, h2.next + 15⟩ := fun hna tm' x0 x1 x5 x6 x7 x10 x8 =>
         ⟨l.length - (pos + 1 + 2), by omega, pos + 1, b, c, rfl, by omega, x0, x1, x5, x6, x7, x10, hb, by rw [← hc], x8, fun j hj => by
           by_cases g : j < pos + 1
           · exact hn j g
           · rw [show j = pos + 1 by omega]; exact hna, kp.then k15⟩
       by_cases q : ((hp b.toNat c.toNat : Nat) : Int) = 218109057
       · have sq : binV Tryz.prog .eql 9 false (.string ⟨([b, c] : List UInt8).toArray⟩) (.string ⟨([13, 10] : List UInt8).toArray⟩) = some (.bool (decide (([b, c] : List UInt8) = [13, 10]))) := sv_eql 9 false [b, c] [13, 10]
         have st2 := s2.str
         have st3 := hs3.str
         simp only [seval, ↓EW, EV, r47_16, t0, t1, t5, t7, dT q, w2, s1, st2, st3, sq]
         by_cases hat : ([b, c] : List UInt8) = [13, 10]
         · have hat' : At l (pos + 1) := (chk_at hb (by rw [← hc])).2 hat
           rw [dT hat]
           refine hK _ _ _ (C.ct (C.seq fun K hK => ?_))
           simp only [seval, EV, r47_17, t7, w2]
           refine hK _ _ _ (C.ret ⟨kp.then k15, .inr ⟨rfl, ?_⟩⟩)
           rw [crlf_at hat' hn]
           simp only [seval, EV]
         · have hat' : ¬ At l (pos + 1) := fun h => hat ((chk_at hb (by rw [← hc])).1 h)
           rw [dF hat]
           exact hK _ _ _ (C.cf <| C.skip (goOn hat' _ (by simp only [seval, EV, t0]) (by simp only [seval, EV, t1]) (by simp only [seval, EV, t5]) (by simp only [seval, EV, t6]) (by simp only [seval, EV, t7]) (by simp only [seval, EV]) (by simp only [seval, EV])))
       · simp only [seval, EV, r47_16, t5, dF q]
         exact hK _ _ _ (C.cf <| C.skip (goOn (chk_hash hb (by rw [← hc]) q) _ (by simp only [seval, EV, t0]) (by simp only [seval, EV, t1]) (by simp only [seval, EV, t5]) (by simp only [seval, EV, t6]) (by simp only [seval, EV, t7]) (by simp only [seval, EV]) (by simp only [seval, EV])))
     · have g' : ¬ ((pos + 2 : Nat) : Int) < (l.length : Int) := by omega
       simp only [EV, r47_11, t0, t10, hr2.len, dF g']
       refine hK _ _ _ (C.cf <| C.exit ⟨kp, .inl ⟨rfl, crlf_none fun j ha => ?_⟩⟩)
       have := ha.lt
       exact hn j (by omega) ha
   · rintro e tm2 h2 ⟨kp, (⟨rfl, hc⟩ | ⟨rfl, t4⟩)⟩
     · show if 2 = 2 then _ else _
       rw [if_pos rfl]
       refine C.seq fun K hK => ?_
       simp only [r47_18]
       refine hK _ _ _ (C.ret ⟨rfl, ?_, kp⟩)
       rw [hc]
       simp only [seval, EV]
     · exact ⟨rfl, t4, kp⟩
 have fin : ∀ e tm2 h2, (e = Ex.ret ∧ tg tm2 4 = .int .i64 (crlf l) ∧ Keep nobody h' h2) → (e = .norm ∨ e = .ret) ∧ ∃ l', q47.f tm2 h2 = some l' ∧ (resOf l' = .int .i64 (crlf l) ∧ Keep nobody h' h2) := by
   rintro e tm2 h2 ⟨rfl, t4, kp⟩
   refine ⟨.inr rfl, _, rfl, ?_, kp⟩
   simp only [resOf, t4]
 have hr2 := hr.keep0 kn
 have hs2 := hs.keep0 kn
 obtain ⟨v2, s1, s2, _⟩ := hr2.mid none 0 2 (.inl ⟨rfl, rfl⟩) (by omega) (by omega) .i64
 rw [two_at (i := 0) hx0 hx1] at s2
 refine C.seq (C.seq fun K hK => ?_)
 have s1' : sliceSl 1 v none (some (.int .i64 2)) none = some v2 := s1
 by_cases q : ((hp x0.toNat x1.toNat : Nat) : Int) = 218109057
 · have sq : binV Tryz.prog .eql 9 false (.string ⟨([x0, x1] : List UInt8).toArray⟩) (.string ⟨([13, 10] : List UInt8).toArray⟩) = some (.bool (decide (([x0, x1] : List UInt8) = [13, 10]))) := sv_eql 9 false [x0, x1] [13, 10]
   have st2 := s2.str
   have st3 := hs2.str
   simp only [↓EW, EV, r47_8, t0, t1, t5, t7, t8, dT q, s1', st2, st3, sq]
   by_cases hat : ([x0, x1] : List UInt8) = [13, 10]
   · have hat' : At l 0 := (chk_at hx0 hx1).2 hat
     rw [dT hat]
     refine hK _ _ _ (C.ct (C.seq fun K hK => ?_))
     simp only [r47_9]
     refine hK _ _ _ (C.ret (fin _ _ _ ⟨rfl, ?_, kn⟩))
     rw [crlf_at hat' fun j hj => by omega]
     simp only [↓reduceIte, EV]; rfl
   · have hat' : ¬ At l 0 := fun h => hat ((chk_at hx0 hx1).1 h)
     rw [dF hat]
     exact hK _ _ _ (C.cf <| C.skip ((rest _ (by simp only [seval, EV, t0]) (by simp only [seval, EV, t1]) (by simp only [seval, EV, t5]) (by simp only [seval, EV, t6]) (by simp only [seval, EV, t7]) (by simp only [seval, EV, t8]) hat').mono fin))
 · simp only [EV, r47_8, t5, t8, dF q]
   exact hK _ _ _ (C.cf <| C.skip ((rest _ (by simp only [seval, EV, t0]) (by simp only [seval, EV, t1]) (by simp only [seval, EV, t5]) (by simp only [seval, EV, t6]) (by simp only [seval, EV, t7]) (by simp only [seval, EV, t8]) (chk_hash hx0 hx1 q)).mono fin))
theorem wrapS (i k : Nat) (h : i + k < 1000000) : IntKind.i64.wrap ((i : Int) + (k : Int)) = ((i + k : Nat) : Int) := by
 rw [show (i : Int) + (k : Int) = ((i + k : Nat) : Int) by omega]; exact wrap_lt _ h
theorem wrap1 (i : Nat) (h : i + 1 < 1000000) : IntKind.i64.wrap ((i : Int) + 1) = ((i + 1 : Nat) : Int) := wrapS i 1 h
theorem cut59 (L n i : Nat) (hi : i < 100000) (h : H) : Sp (CF L (n + 1)) 46 [.int .i64 (i : Int)] h fun r h' => r = .int .i64 (((i + 16) / 8 : Nat) : Int) ∧ h' = h := by
 refine Sp.body f46 (by simp) ?_
 unfold c46
 refine C.seq fun K hK => ?_
 simp only [EV, r46_0]
 refine hK .norm _ _ (C.seq fun K hK => ?_)
 have w : IntKind.i64.wrap ((i : Int) + 16) = ((i + 16 : Nat) : Int) := wrapS i 16 (by omega)
 have q : ∀ c, binV Tryz.prog .quo 3 c (.int .i64 ((i + 16 : Nat) : Int)) (.int .i64 8) = some (.int .i64 (((i + 16) / 8 : Nat) : Int)) := fun c => by
   rw [binV_quo _ _ _ _ _ (by omega), show (8 : Int) = ((8 : Nat) : Int) from rfl, ← Int.ofNat_tdiv, wrap_lt _ (by omega)]
 simp only [seval, EV, r46_1, w, q]
 refine hK _ _ _ (C.ret ⟨.inr rfl, _, rfl, ?_, rfl⟩)
 simp only [seval, EV, resOf]
structure StA (v sep : Value) (l : List UInt8) (tm : T Value) (i f : Nat) : Prop where
 t0 : tg tm 0 = v
 t1 : tg tm 1 = sep
 t5 : tg tm 5 = .int .i64 2
 ta : tg tm 6 = bv 13
 tb : tg tm 7 = bv 10
 ti : tg tm 8 = .int .i64 (i : Int)
 tt : tg tm 9 = .int .i64 ((l.length - 1 : Nat) : Int)
 tf : tg tm 10 = .int .i64 (f : Int)
theorem preA (L n : Nat) {v sep : Value} {l : List UInt8} {tm : T Value} {h : H} {i f : Nat} (hr : Rd h v l) (hl : l.length ≤ 600) (hi : i + 1 < l.length) (s : StA v sep l tm i f) (hn : ∀ j, j < i → ¬ At l j) :
   C ⟨seqC ⟨r29_21⟩ ⟨condC (tC 75) ⟨seqC ⟨r29_22⟩ ⟨seqC ⟨seqC ⟨r29_23⟩ ⟨condC (tC 84) ⟨seqC ⟨r29_24⟩ retC⟩ skipC⟩⟩ ⟨r29_25⟩⟩⟩ skipC⟩⟩ (CF L (n + 2)) L tm h fun e tm' h' => h' = h ∧ ((e = .norm ∧ ∃ i', i ≤ i' ∧ i' + 1 < l.length ∧ l[i']? = some 13 ∧ (∀ j, j < i' → ¬ At l j) ∧ StA v sep l tm' i' f) ∨ (e = .ret ∧ tg tm' 4 = .int .i64 (-1) ∧ crlf l = -1)) := by
 obtain ⟨t0, t1, t5, ta, tb, ti, tt, tf⟩ := s
 obtain ⟨x, hx⟩ : ∃ x, l[i]? = some x := ⟨_, List.getElem?_eq_getElem (by omega)⟩
 obtain ⟨b, o, e1, e2, _⟩ := hr.at hx
 refine C.seq fun K hK => ?_
 by_cases g : x = 13
 · simp only [EV, r29_21, t0, ta, ti, e1, e2, neq_u8, dT g]
   refine hK _ _ _ (C.cf <| C.skip ⟨rfl, .inl ⟨rfl, i, Nat.le_refl _, hi, by rw [hx, g], hn, ?_⟩⟩)
   exact ⟨by simp only [seval, EV, t0], by simp only [seval, EV, t1], by simp only [seval, EV, t5], by simp only [seval, EV, ta], by simp only [seval, EV, tb], by simp only [seval, EV, ti], by simp only [seval, EV, tt], by simp only [seval, EV, tf]⟩
 · simp only [EV, r29_21, t0, ta, ti, e1, e2, neq_u8, dF g]
   refine hK _ _ _ (C.ct (C.seq fun K hK => ?_))
   obtain ⟨v2, s1, s2, _⟩ := hr.mid (some (.int .i64 ((i + 1 : Nat) : Int))) (i + 1) (l.length - 1) (.inr rfl) (by omega) (by omega) .i64
   have b13 : bv 13 = .int .u8 13 := rfl
   simp only [seval, EV, r29_22, t0, ta, ti, tt, wrap1 i (by omega), s1, b13]
   refine idx56 L n s2 _ fun r h2 hq => ?_
   obtain ⟨rfl, hh⟩ := hq
   rw [hh]; clear hh
   rcases skip13 (by rw [hx]; simpa using g) hi hn with ⟨q1, q2⟩ | ⟨o, q1, q2, q903, q904⟩
   · rw [q1]
     have d : decide ((-1 : Int) < 0) = true := rfl
     refine hK _ _ _ (C.seq (C.seq fun K hK => ?_))
     simp only [seval, EV, r29_23]
     refine hK _ _ _ (C.ct (C.seq fun K hK => ?_))
     simp only [r29_24]
     exact hK _ _ _ (C.ret ⟨rfl, .inr ⟨rfl, by simp only [seval, EV], q2⟩⟩)
   · rw [q1]
     have d : ¬ (o : Int) < 0 := by omega
     refine hK _ _ _ (C.seq (C.seq fun K hK => ?_))
     simp only [seval, EV, r29_23, dF d]
     refine hK _ _ _ (C.cf <| C.skip fun K hK => ?_)
     simp only [seval, EV, r29_25, ti, wrap1 o (by omega), wrapS i (o + 1) (by omega)]
     exact hK _ _ _ ⟨rfl, .inl ⟨rfl, i + (o + 1), by omega, q903, q2, q904, ⟨by simp only [seval, EV, t0], by simp only [seval, EV, t1], by simp only [seval, EV, t5], by simp only [seval, EV, ta], by simp only [seval, EV, tb], by simp only [seval, EV], by simp only [seval, EV, tt], by simp only [seval, EV, tf]⟩⟩⟩
structure StB (v sep : Value) (l : List UInt8) (tm : T Value) (i f : Nat) : Prop where
 t0 : tg tm 0 = v
 t1 : tg tm 1 = sep
 t5 : tg tm 5 = .int .i64 2
 ta : tg tm 13 = bv 13
 tb : tg tm 14 = bv 10
 ti : tg tm 15 = .int .i64 (i : Int)
 tt : tg tm 17 = .int .i64 ((l.length - 1 : Nat) : Int)
 tf : tg tm 16 = .int .i64 (f : Int)
theorem preB (L n : Nat) {v sep : Value} {l : List UInt8} {tm : T Value} {h : H} {i f : Nat} (hr : Rd h v l) (hl : l.length ≤ 600) (hi : i + 1 < l.length) (s : StB v sep l tm i f) (hn : ∀ j, j < i → ¬ At l j) :
   C ⟨seqC ⟨r29_42⟩ ⟨condC (tC 144) ⟨seqC ⟨r29_43⟩ ⟨seqC ⟨seqC ⟨r29_44⟩ ⟨condC (tC 153) (exitC 3) skipC⟩⟩ ⟨r29_45⟩⟩⟩ skipC⟩⟩ (CF L (n + 2)) L tm h fun e tm' h' => h' = h ∧ ((e = .norm ∧ ∃ i', i ≤ i' ∧ i' + 1 < l.length ∧ l[i']? = some 13 ∧ (∀ j, j < i' → ¬ At l j) ∧ StB v sep l tm' i' f) ∨ (e = .exit 3 ∧ crlf l = -1)) := by
 obtain ⟨t0, t1, t5, ta, tb, ti, tt, tf⟩ := s
 obtain ⟨x, hx⟩ : ∃ x, l[i]? = some x := ⟨_, List.getElem?_eq_getElem (by omega)⟩
 obtain ⟨b, o, e1, e2, _⟩ := hr.at hx
 refine C.seq fun K hK => ?_
 by_cases g : x = 13
 · simp only [EV, r29_42, t0, ta, ti, e1, e2, neq_u8, dT g]
   refine hK _ _ _ (C.cf <| C.skip ⟨rfl, .inl ⟨rfl, i, Nat.le_refl _, hi, by rw [hx, g], hn, ?_⟩⟩)
   exact ⟨by simp only [seval, EV, t0], by simp only [seval, EV, t1], by simp only [seval, EV, t5], by simp only [seval, EV, ta], by simp only [seval, EV, tb], by simp only [seval, EV, ti], by simp only [seval, EV, tt], by simp only [seval, EV, tf]⟩
 · simp only [EV, r29_42, t0, ta, ti, e1, e2, neq_u8, dF g]
   refine hK _ _ _ (C.ct (C.seq fun K hK => ?_))
   obtain ⟨v2, s1, s2, _⟩ := hr.mid (some (.int .i64 ((i + 1 : Nat) : Int))) (i + 1) (l.length - 1) (.inr rfl) (by omega) (by omega) .i64
   have b13 : bv 13 = .int .u8 13 := rfl
   simp only [seval, EV, r29_43, t0, ta, ti, tt, wrap1 i (by omega), s1, b13]
   refine idx56 L n s2 _ fun r h2 hq => ?_
   obtain ⟨rfl, hh⟩ := hq
   rw [hh]; clear hh
   rcases skip13 (by rw [hx]; simpa using g) hi hn with ⟨q1, q2⟩ | ⟨o, q1, q2, q903, q904⟩
   · rw [q1]
     have d : decide ((-1 : Int) < 0) = true := rfl
     refine hK _ _ _ (C.seq (C.seq fun K hK => ?_))
     simp only [seval, EV, r29_44]
     exact hK _ _ _ (C.ct (C.exit ⟨rfl, .inr ⟨rfl, q2⟩⟩))
   · rw [q1]
     have d : ¬ (o : Int) < 0 := by omega
     refine hK _ _ _ (C.seq (C.seq fun K hK => ?_))
     simp only [seval, EV, r29_44, dF d]
     refine hK _ _ _ (C.cf <| C.skip fun K hK => ?_)
     simp only [seval, EV, r29_45, ti, wrap1 o (by omega), wrapS i (o + 1) (by omega)]
     exact hK _ _ _ ⟨rfl, .inl ⟨rfl, i + (o + 1), by omega, q903, q2, q904, ⟨by simp only [seval, EV, t0], by simp only [seval, EV, t1], by simp only [seval, EV, t5], by simp only [seval, EV, ta], by simp only [seval, EV, tb], by simp only [seval, EV], by simp only [seval, EV, tt], by simp only [seval, EV, tf]⟩⟩⟩
theorem loopA (L n : Nat) (hL : 1000 ≤ L) {v sep : Value} {l : List UInt8} {tm : T Value} {h : H} {m : Nat} (hr : Rd h v l) (hs : Rd h sep [13, 10]) (hl : l.length ≤ 600) (h2 : 2 ≤ l.length) (hM : Has h 0 (.ro [.int .i64 (m : Int)])) (hm : 2 ≤ m) (s : StA v sep l tm 0 0) :
   C (loopB l29_35) (CF L (n + 2)) L tm h fun e tm' h' => h' = h ∧ ((e = .exit 1 ∧ crlf l = -1) ∨ (e = .ret ∧ tg tm' 4 = .int .i64 (crlf l))) := by
 refine C.loop (L := L) (fun k tm h' => h' = h ∧ ∃ i f, k = l.length - i ∧ i < l.length ∧ f ≤ i ∧ StA v sep l tm i f ∧ ∀ j, j < i → ¬ At l j) l.length (by omega) ⟨rfl, 0, 0, rfl, by omega, Nat.le_refl _, s, fun j hj => by omega⟩ ?_
 rintro k tm h' ⟨rfl, i, f, rfl, hi, hf, s, hn⟩
 refine C.seq (C.seq fun K hK => ?_)
 by_cases g : i + 1 < l.length
 · have g' : (i : Int) < ((l.length - 1 : Nat) : Int) := by omega
   simp only [EV, r29_20, s.ti, s.tt, dT g']
   refine hK _ _ _ (C.ct (C.skip (C.block (C.seq ?_))))
   refine (preA L n hr hl g (sep := sep) (f := f) ⟨by simp only [seval, EV, s.t0], by simp only [seval, EV, s.t1], by simp only [seval, EV, s.t5], by simp only [seval, EV, s.ta], by simp only [seval, EV, s.tb], by simp only [seval, EV, s.ti], by simp only [seval, EV, s.tt], by simp only [seval, EV, s.tf]⟩ hn).mono ?_
   rintro e tm1 h1 ⟨rfl, (⟨rfl, i', hii, hi', h13, hn', s'⟩ | ⟨rfl, t4, hc⟩)⟩
   · refine C.seq (C.seq (wreg28_26 L (n + 1) hr hs (by omega) h13 hi' s'.t0 s'.t1 s'.ti s'.tb s'.t5 ?_))
     by_cases ha : At l i'
     · rw [dT ha]
       refine C.ct (C.seq fun K hK => ?_)
       simp only [seval, EV, r29_27, s'.ti]
       refine hK _ _ _ (C.ret ⟨rfl, .inr ⟨rfl, ?_⟩⟩)
       rw [crlf_at ha hn']
       simp only [seval, EV]
     · rw [dF ha]
       have hn2 : ∀ j, j < i' + 1 → ¬ At l j := fun j hj => by
         by_cases g : j < i'
         · exact hn' j g
         · rw [show j = i' by omega]; exact ha
       refine C.cf <| C.skip (C.seq fun K hK => ?_)
       simp only [seval, EV, r29_28, s'.tf, wrap1 f (by omega)]
       refine hK _ _ _ (C.seq fun K hK => ?_)
       simp only [seval, EV, r29_29, s'.ti, wrap1 i' (by omega)]
       refine hK _ _ _ (C.seq fun K hK => ?_)
       simp only [seval, EV, r29_30]
       refine cut59 L (n + 1) (i' + 1) (by omega) h1 _ fun r h2' hq => ?_
       obtain ⟨rfl, hh⟩ := hq
       rw [hh]; clear hh
       by_cases gc : (((i' + 1 + 16) / 8 : Nat) : Int) < ((f + 1 : Nat) : Int)
       · simp only [EV, dT gc]
         refine hK _ _ _ (C.ct (C.seq fun K hK => ?_))
         obtain ⟨v2, s1, s2, _⟩ := hr.from (i' + 1) (by omega)
         simp only [seval, EV, r29_31, s'.t0, s'.t1, s1]
         refine index58 L (n + 1) s2 hs (by simp; omega) hM hm _ fun r h3 hq => ?_
         obtain ⟨rfl, hh⟩ := hq
         rw [hh]; clear hh
         rcases crlf_drop hn2 with ⟨q1, q2⟩ | ⟨o, q1, q2, q903⟩
         · rw [q1]
           have d : decide ((0 : Int) ≤ -1) = false := rfl
           refine hK _ _ _ (C.seq (C.seq fun K hK => ?_))
           simp only [seval, EV, r29_32]
           refine hK _ _ _ (C.cf <| C.skip (C.seq fun K hK => ?_))
           simp only [r29_34]
           refine hK _ _ _ (C.ret ⟨rfl, .inr ⟨rfl, ?_⟩⟩)
           rw [q2]; simp only [seval, EV]
         · rw [q1]
           have d : (0 : Int) ≤ (o : Int) := by omega
           refine hK _ _ _ (C.seq (C.seq fun K hK => ?_))
           simp only [seval, EV, r29_32, dT d]
           refine hK _ _ _ (C.ct (C.seq fun K hK => ?_))
           simp only [seval, EV, r29_33, wrapS o (i' + 1) (by omega)]
           refine hK _ _ _ (C.ret ⟨rfl, .inr ⟨rfl, ?_⟩⟩)
           rw [q2, show i' + 1 + o = o + (i' + 1) by omega]; simp only [seval, EV]
       · simp only [EV, dF gc]
         exact hK _ _ _ (C.cf <| C.skip ⟨l.length - (i' + 1), by omega, rfl, i' + 1, f + 1, rfl, by omega, by omega, ⟨by simp only [seval, EV, s'.t0], by simp only [seval, EV, s'.t1], by simp only [seval, EV, s'.t5], by simp only [seval, EV, s'.ta], by simp only [seval, EV, s'.tb], by simp only [seval, EV], by simp only [seval, EV, s'.tt], by simp only [seval, EV]⟩, hn2⟩)
   · exact ⟨rfl, .inr ⟨rfl, by rw [t4, hc]⟩⟩
 · have g' : ¬ (i : Int) < ((l.length - 1 : Nat) : Int) := by omega
   simp only [EV, r29_20, s.ti, s.tt, dF g']
   refine hK _ _ _ (C.cf <| C.exit ⟨rfl, .inl ⟨rfl, crlf_none fun j ha => ?_⟩⟩)
   have := ha.lt
   exact hn j (by omega) ha
theorem shr4 (i : Nat) (hi : i < 100000) (c : Bool) : binV Tryz.prog .shr 3 c (.int .i64 (i : Int)) (.int .u64 4) = some (.int .i64 ((i / 16 : Nat) : Int)) := by
 rw [binV_shr2 (P := Tryz.prog) 3 c .i64 .u64 _ 4 (by decide)]
 show some (Value.int .i64 ((i : Int).fdiv (2 ^ 4))) = _
 congr 2
 rw [show (2 : Int) ^ 4 = ((16 : Nat) : Int) from rfl, ← Int.ofNat_fdiv]
theorem loopBB (L n : Nat) (hL : 1000 ≤ L) {v sep : Value} {l : List UInt8} {tm : T Value} {h : H} (hr : Rd h v l) (hs : Rd h sep [13, 10]) (hl : l.length ≤ 600) (h2 : 2 ≤ l.length) (s : StB v sep l tm 0 0) :
   C (loopB l29_56) (CF L (n + 2)) L tm h fun e tm' h' => Keep nobody h h' ∧ ((e = .exit 3 ∧ crlf l = -1) ∨ (e = .ret ∧ tg tm' 4 = .int .i64 (crlf l))) := by
 have krefl : Keep nobody h h := ⟨Nat.le_refl _, fun _ _ _ => rfl⟩
 refine C.loop (L := L) (fun k tm h' => h' = h ∧ ∃ i f, k = l.length - i ∧ i < l.length ∧ f ≤ i ∧ StB v sep l tm i f ∧ ∀ j, j < i → ¬ At l j) l.length (by omega) ⟨rfl, 0, 0, rfl, by omega, Nat.le_refl _, s, fun j hj => by omega⟩ ?_
 rintro k tm h' ⟨rfl, i, f, rfl, hi, hf, s, hn⟩
 refine C.seq (C.seq fun K hK => ?_)
 by_cases g : i + 1 < l.length
 · have g' : (i : Int) < ((l.length - 1 : Nat) : Int) := by omega
   simp only [EV, r29_41, s.ti, s.tt, dT g']
   refine hK _ _ _ (C.ct (C.skip (C.block (C.seq ?_))))
   refine (preB L n hr hl g (sep := sep) (f := f) ⟨by simp only [seval, EV, s.t0], by simp only [seval, EV, s.t1], by simp only [seval, EV, s.t5], by simp only [seval, EV, s.ta], by simp only [seval, EV, s.tb], by simp only [seval, EV, s.ti], by simp only [seval, EV, s.tt], by simp only [seval, EV, s.tf]⟩ hn).mono ?_
   rintro e tm1 h1 ⟨rfl, (⟨rfl, i', hii, hi', h13, hn', s'⟩ | ⟨rfl, hc⟩)⟩
   · refine C.seq (C.seq (wreg28_46 L (n + 1) hr hs (by omega) h13 hi' s'.t0 s'.t1 s'.ti s'.tb s'.t5 ?_))
     by_cases ha : At l i'
     · rw [dT ha]
       refine C.ct (C.seq fun K hK => ?_)
       simp only [seval, EV, r29_47, s'.ti]
       refine hK _ _ _ (C.ret ⟨krefl, .inr ⟨rfl, ?_⟩⟩)
       rw [crlf_at ha hn']
       simp only [seval, EV]
     · rw [dF ha]
       have hn2 : ∀ j, j < i' + 1 → ¬ At l j := fun j hj => by
         by_cases g : j < i'
         · exact hn' j g
         · rw [show j = i' by omega]; exact ha
       refine C.cf <| C.skip (C.seq fun K hK => ?_)
       simp only [seval, EV, r29_48, s'.ti, wrap1 i' (by omega)]
       refine hK _ _ _ (C.seq fun K hK => ?_)
       simp only [seval, EV, r29_49, s'.tf, wrap1 f (by omega)]
       refine hK _ _ _ (C.seq fun K hK => ?_)
       have w4 : IntKind.i64.wrap (4 + (((i' + 1) / 16 : Nat) : Int)) = ((4 + (i' + 1) / 16 : Nat) : Int) := wrapS 4 ((i' + 1) / 16) (by omega)
       have stay : ∀ tm', tg tm' 0 = v → tg tm' 1 = sep → tg tm' 5 = .int .i64 2 → tg tm' 13 = bv 13 → tg tm' 14 = bv 10 → tg tm' 15 = .int .i64 ((i' + 1 : Nat) : Int) → tg tm' 17 = .int .i64 ((l.length - 1 : Nat) : Int) → tg tm' 16 = .int .i64 ((f + 1 : Nat) : Int) → ∃ k', k' < l.length - i ∧ h1 = h1 ∧ ∃ i f, k' = l.length - i ∧ i < l.length ∧ f ≤ i ∧ StB v sep l tm' i f ∧ ∀ j, j < i → ¬ At l j :=
         fun tm' x0 x1 x5 xa xb xi xt xf => ⟨l.length - (i' + 1), by omega, rfl, i' + 1, f + 1, rfl, by omega, by omega, ⟨x0, x1, x5, xa, xb, xi, xt, xf⟩, hn2⟩
       by_cases gc : ((4 + (i' + 1) / 16 : Nat) : Int) ≤ ((f + 1 : Nat) : Int)
       · by_cases gt : ((i' + 1 : Nat) : Int) < ((l.length - 1 : Nat) : Int)
         · simp only [seval, ↓opStep_eq, ↓EW, EV, r29_50, s'.tt, shr4 (i' + 1) (by omega), w4, dT gc, dT gt]
           refine hK _ _ _ (C.ct (C.seq fun K hK => ?_))
           obtain ⟨v2, s1, s2, _⟩ := hr.from (i' + 1) (by omega)
           simp only [seval, EV, r29_51, s'.t0, s'.t1, s1]
           refine rk60 L n hL s2 hs (by simp; omega) (by simp; omega) _ fun r h3 hq => ?_
           obtain ⟨rfl, kk⟩ := hq
           rcases crlf_drop hn2 with ⟨q1, q2⟩ | ⟨o, q1, q2, q903⟩
           · rw [q1]
             have d : decide ((-1 : Int) < 0) = true := rfl
             refine hK _ _ _ (C.seq (C.seq fun K hK => ?_))
             simp only [seval, EV, r29_52]
             refine hK _ _ _ (C.ct (C.seq fun K hK => ?_))
             simp only [r29_53]
             refine hK _ _ _ (C.ret ⟨kk, .inr ⟨rfl, ?_⟩⟩)
             rw [q2]; simp only [seval, EV]
           · rw [q1]
             have d : ¬ (o : Int) < 0 := by omega
             refine hK _ _ _ (C.seq (C.seq fun K hK => ?_))
             simp only [seval, EV, r29_52, dF d]
             refine hK _ _ _ (C.cf <| C.skip (C.seq fun K hK => ?_))
             simp only [seval, EV, r29_54, wrapS (i' + 1) o (by omega)]
             refine hK _ _ _ (C.ret ⟨kk, .inr ⟨rfl, ?_⟩⟩)
             rw [q2]; simp only [seval, EV]
         · simp only [seval, ↓opStep_eq, ↓EW, EV, r29_50, s'.tt, shr4 (i' + 1) (by omega), w4, dT gc, dF gt]
           exact hK _ _ _ (C.cf <| C.skip (stay _ (by simp only [seval, EV, s'.t0]) (by simp only [seval, EV, s'.t1]) (by simp only [seval, EV, s'.t5]) (by simp only [seval, EV, s'.ta]) (by simp only [seval, EV, s'.tb]) (by simp only [seval, EV]) (by simp only [seval, EV, s'.tt]) (by simp only [seval, EV])))
       · simp only [seval, ↓opStep_eq, ↓EW, EV, r29_50, shr4 (i' + 1) (by omega), w4, dF gc]
         exact hK _ _ _ (C.cf <| C.skip (stay _ (by simp only [seval, EV, s'.t0]) (by simp only [seval, EV, s'.t1]) (by simp only [seval, EV, s'.t5]) (by simp only [seval, EV, s'.ta]) (by simp only [seval, EV, s'.tb]) (by simp only [seval, EV]) (by simp only [seval, EV, s'.tt]) (by simp only [seval, EV])))
   · exact ⟨krefl, .inl ⟨rfl, hc⟩⟩
 · have g' : ¬ (i : Int) < ((l.length - 1 : Nat) : Int) := by omega
   simp only [EV, r29_41, s.ti, s.tt, dF g']
   refine hK _ _ _ (C.cf <| C.exit ⟨krefl, .inl ⟨rfl, crlf_none fun j ha => ?_⟩⟩)
   have := ha.lt
   exact hn j (by omega) ha
theorem index28 (L n : Nat) (hL : 1000 ≤ L) {v sep : Value} {l : List UInt8} {h0 : H} {m : Int} (hr : Rd h0 v l) (hs : Rd h0 sep [13, 10]) (hl : l.length ≤ 600) (hM : Has h0 0 (.ro [.int .i64 m])) :
   Sp (CF L (n + 3)) 29 [v, sep] h0 fun r h' => r = .int .i64 (crlf l) ∧ Keep nobody h0 h' := by
 have krefl : Keep nobody h0 h0 := ⟨Nat.le_refl _, fun _ _ _ => rfl⟩
 have hl2 : lenSl sep = some (.int .i64 2) := hs.len
 have d0 : decide ((2 : Int) = 0) = false := rfl
 have d1 : decide ((2 : Int) = 1) = false := rfl
 obtain ⟨b0, o0, i0, l0, _⟩ := hs.at (i := 0) (x := 13) rfl
 obtain ⟨b1, o1, i1, l1, _⟩ := hs.at (i := 1) (x := 10) rfl
 have i0' : indexSl 1 sep (.int .i64 0) = some (.pointer (some ⟨b0, o0, none⟩)) := i0
 have i1' : indexSl 1 sep (.int .i64 1) = some (.pointer (some ⟨b1, o1, none⟩)) := i1
 have ldM : ∀ s, loadOne h0 (.pointer (some ⟨0, 0, s⟩)) = some (.int .i64 m) := fun s => loadOne_has hM rfl
 refine Sp.body f29 (by simp) ?_
 unfold c29
 refine C.seq fun K hK => ?_
 simp only [seval, EV, r29_0]
 refine hK .norm _ _ (C.seq fun K hK => ?_)
 simp only [seval, EV, r29_1, hl2]
 refine hK .norm _ _ (C.seq (C.block (C.seq fun K hK => ?_)))
 simp only [seval, EV, r29_2]
 refine hK .norm _ _ (C.cf <| C.seq fun K hK => ?_)
 simp only [seval, EV, r29_4]
 refine hK .norm _ _ (C.cf <| C.seq fun K hK => ?_)
 by_cases g2 : (2 : Int) = (l.length : Int)
 · simp only [seval, EV, r29_6, hr.len, dT g2]
   refine hK .norm _ _ (C.ct (C.seq (C.seq fun K hK => ?_)))
   simp only [seval, EV, r29_7]
   refine equal57 L (n + 1) hs hr _ fun r h2 hq => ?_
   obtain ⟨rfl, hh⟩ := hq
   rw [hh]; clear hh
   obtain ⟨x0, x1, rfl⟩ : ∃ x0 x1, l = [x0, x1] := by
     rcases l with _ | ⟨a, _ | ⟨b, _ | ⟨c, r⟩⟩⟩ <;> simp at g2
     · exact ⟨a, b, rfl⟩
     · omega
   have ca := chk_at (l := [x0, x1]) (i := 0) (a := x0) (b := x1) rfl rfl
   by_cases q : ([13, 10] : List UInt8) = [x0, x1]
   · rw [dT q]
     refine hK _ _ _ (C.ct (C.seq fun K hK => ?_))
     simp only [r29_8]
     refine hK _ _ _ (C.ret ⟨.inr rfl, _, rfl, ?_, krefl⟩)
     rw [crlf_at (ca.2 q.symm) fun j hj => by omega]
     simp only [↓reduceIte, EV, resOf]; rfl
   · rw [dF q]
     refine hK _ _ _ (C.cf <| C.skip (C.seq fun K hK => ?_))
     simp only [r29_9]
     refine hK _ _ _ (C.ret ⟨.inr rfl, _, rfl, ?_, krefl⟩)
     rw [crlf_none fun j ha => by
       have h1 := ha.lt
       have h2 : ([x0, x1] : List UInt8).length = 2 := rfl
       have h3 : j = 0 := by omega
       rw [h3] at ha
       exact q (ca.1 ha).symm]
     simp only [seval, EV, resOf]
 simp only [seval, EV, r29_6, hr.len, dF g2]
 refine hK .norm _ _ (C.cf <| C.seq fun K hK => ?_)
 by_cases g3 : (l.length : Int) < 2
 · simp only [seval, EV, r29_10, hr.len, dT g3]
   refine hK .norm _ _ (C.ct (C.seq fun K hK => ?_))
   simp only [r29_11]
   refine hK _ _ _ (C.ret ⟨.inr rfl, _, rfl, ?_, krefl⟩)
   rw [crlf_none fun j ha => by have := ha.lt; omega]
   simp only [seval, EV, resOf]
 have hlen : 3 ≤ l.length := by omega
 have w1 : IntKind.i64.wrap ((l.length : Int) - 2) = ((l.length - 2 : Nat) : Int) := by
   rw [show (l.length : Int) - 2 = ((l.length - 2 : Nat) : Int) by omega]; exact wrap_lt _ (by omega)
 have w2 : IntKind.i64.wrap (((l.length - 2 : Nat) : Int) + 1) = ((l.length - 1 : Nat) : Int) := by
   rw [show ((l.length - 2 : Nat) : Int) + 1 = ((l.length - 1 : Nat) : Int) by omega]; exact wrap_lt _ (by omega)
 simp only [seval, EV, r29_10, hr.len, dF g3]
 refine hK .norm _ _ (C.cf <| C.seq fun K hK => ?_)
 by_cases gm : (2 : Int) ≤ m
 · obtain ⟨m', rfl⟩ : ∃ m' : Nat, m = (m' : Int) := ⟨m.toNat, by omega⟩
   simp only [seval, EV, r29_12, ldM, dT gm]
   refine hK .norm _ _ (C.ct (C.seq (C.seq fun K hK => ?_)))
   by_cases g64 : (l.length : Int) ≤ 64
   · simp only [seval, EV, r29_13, hr.len, dT g64]
     refine hK .norm _ _ (C.ct (C.seq fun K hK => ?_))
     simp only [seval, EV, r29_14]
     refine index58 L (n + 1) hr hs (by omega) hM (by omega) _ fun r h3 hq => ?_
     obtain ⟨rfl, hh⟩ := hq
     rw [hh]; clear hh
     refine hK _ _ _ (C.ret ⟨.inr rfl, _, rfl, ?_, krefl⟩)
     simp only [seval, EV, resOf]
   simp only [seval, EV, r29_13, hr.len, dF g64]
   refine hK .norm _ _ (C.cf <| C.skip (C.seq fun K hK => ?_))
   simp only [seval, EV, r29_15, i0', l0]
   refine hK .norm _ _ (C.seq fun K hK => ?_)
   simp only [seval, EV, r29_16, i1', l1]
   refine hK .norm _ _ (C.seq fun K hK => ?_)
   simp only [r29_17]
   refine hK .norm _ _ (C.seq fun K hK => ?_)
   simp only [↓reduceIte, EV, Nat.reduceEqDiff, r29_18, hr.len, w1, w2]
   refine hK .norm _ _ (C.seq fun K hK => ?_)
   simp only [r29_19]
   refine hK .norm _ _ (C.seq (C.block ((loopA L n hL hr hs hl (by omega) hM (by omega) ⟨by simp only [↓reduceIte, EV, Nat.reduceEqDiff], by simp only [↓reduceIte, EV, Nat.reduceEqDiff], by simp only [↓reduceIte, EV, Nat.reduceEqDiff], by simp only [↓reduceIte, EV, Nat.reduceEqDiff], by simp only [↓reduceIte, EV, Nat.reduceEqDiff], by simp only [↓reduceIte, EV, Nat.reduceEqDiff]; rfl, by simp only [↓reduceIte, EV, Nat.reduceEqDiff], by simp only [↓reduceIte, EV]; rfl⟩).mono ?_)))
   rintro e tm' h' ⟨rfl, (⟨rfl, hc⟩ | ⟨rfl, t4⟩)⟩
   · show if 1 = 1 then _ else _
     rw [if_pos rfl]
     refine C.seq fun K hK => ?_
     simp only [r29_35]
     refine hK _ _ _ (C.ret ⟨.inr rfl, _, rfl, ?_, krefl⟩)
     rw [hc]; simp only [seval, EV, resOf]
   · refine ⟨.inr rfl, _, rfl, ?_, krefl⟩
     simp only [resOf, t4]
 simp only [seval, EV, r29_12, ldM, dF gm]
 refine hK .norm _ _ (C.cf <| C.skip (C.seq fun K hK => ?_))
 simp only [seval, EV, r29_36, i0', l0]
 refine hK .norm _ _ (C.seq fun K hK => ?_)
 simp only [seval, EV, r29_37, i1', l1]
 refine hK .norm _ _ (C.seq fun K hK => ?_)
 simp only [r29_38]
 refine hK .norm _ _ (C.seq fun K hK => ?_)
 simp only [r29_39]
 refine hK .norm _ _ (C.seq fun K hK => ?_)
 simp only [↓reduceIte, EV, Nat.reduceEqDiff, r29_40, hr.len, w1, w2]
 refine hK .norm _ _ (C.seq (C.block ((loopBB L n hL hr hs hl (by omega) ⟨by simp only [↓reduceIte, EV, Nat.reduceEqDiff], by simp only [↓reduceIte, EV, Nat.reduceEqDiff], by simp only [↓reduceIte, EV, Nat.reduceEqDiff], by simp only [↓reduceIte, EV, Nat.reduceEqDiff], by simp only [↓reduceIte, EV, Nat.reduceEqDiff], by simp only [↓reduceIte, EV, Nat.reduceEqDiff]; rfl, by simp only [↓reduceIte, EV], by simp only [↓reduceIte, EV, Nat.reduceEqDiff]; rfl⟩).mono ?_)))
 rintro e tm' h' ⟨kk, (⟨rfl, hc⟩ | ⟨rfl, t4⟩)⟩
 · show if 3 = 3 then _ else _
   rw [if_pos rfl]
   refine C.seq fun K hK => ?_
   simp only [r29_55]
   refine hK _ _ _ (C.ret ⟨.inr rfl, _, rfl, ?_, kk⟩)
   rw [hc]; simp only [seval, EV, resOf]
 · refine ⟨.inr rfl, _, rfl, ?_, kk⟩
   simp only [resOf, t4]
theorem leB_self : ∀ l : List UInt8, leB l l = true
 | [] => rfl
 | x :: r => by
   show (match Nat.beq x.toNat x.toNat with | true => leB r r | false => false) = true
   rw [Nat.beq_refl]
   exact leB_self r
theorem u9' : Tryz.prog.underlying 9 = some .string := by kernel_rfl
theorem keyOk_sv (k : List UInt8) : keyOk Tryz.prog 9 (sv k) = true := by
 have e : eqV Tryz.prog 200 9 (sv k) (sv k) = some (leB k k) := by
   show eqV Tryz.prog (199 + 1) 9 (sv k) (sv k) = _
   unfold eqV
   rw [u9']
   rfl
 unfold keyOk
 rw [e, leB_self]
def knownB (k : Nat) : Bool := decide (1 ≤ k) && decide (k ≤ 11)
def zA : Ans := ⟨0, 0, ⟨0, .slice none 0 0, 0, []⟩, false, strB []⟩
theorem put_keep {h0 h : H} {B : Nat} {x : AObj} (k : Keep nobody h0 h) (hB : h0.next ≤ B) : Keep nobody h0 (h.put B x) := k.trans (S' := (· = B)) (Keep.put _ _ _) fun k hk e => by omega
end Go.Proofs.YtilpiiafjehbnaaGreatDoor
