import Derived.Test.YtilpiiafjehbnaaGreatDoorZrY
set_option linter.unusedSimpArgs false
set_option linter.unusedVariables false
namespace Go.Proofs.YtilpiiafjehbnaaGreatDoor
open Go.Ev
theorem sumL_drop {ps : List (List UInt8)} {i : Nat} {p : List UInt8} (h : ps[i]? = some p) : sumL (ps.drop i) = p.length + sumL (ps.drop (i + 1)) := by
 have hl := List.getElem?_eq_some_iff.1 h
 obtain ⟨hl, rfl⟩ := hl
 rw [List.drop_eq_getElem_cons hl]; rfl
theorem joinR_drop {ps : List (List UInt8)} {i : Nat} {p : List UInt8} (h : ps[i]? = some p) : joinR (ps.drop i) = 32 :: p ++ joinR (ps.drop (i + 1)) := by
 have hl := List.getElem?_eq_some_iff.1 h
 obtain ⟨hl, rfl⟩ := hl
 rw [List.drop_eq_getElem_cons hl]; rfl
theorem wrap_big {n : Int} (h1 : -9000000000000000000 ≤ n) (h2 : n ≤ 9223372036854775807) : IntKind.i64.wrap n = n := wrap_eq _ _ (by show (-9223372036854775808 : Int) ≤ _; omega) (by show n ≤ 9223372036854775807; omega)
theorem loop1_law (L : Nat) (call : CallT) {h : H} {v : Value} {ps : List (List UInt8)} (hb : Strs h v ps) (hs : ps.length + sumL ps ≤ 1000000) (hL : ps.length < L) {tm : T Value} {n1 : Nat}
   (hn1 : n1 + sumL ps ≤ 1000000)
   (t0 : tg tm 0 = v) (t1 : tg tm 1 = sv [32]) (t39 : tg tm 39 = v) (t40 : tg tm 40 = .int .i64 (ps.length : Int)) (t41 : tg tm 41 = .int .i64 0) (t5 : tg tm 5 = .int .i64 (n1 : Int)) :
   C (loopB l27_18) call L tm h fun e tm' h' => e = .exit 1 ∧ h' = h ∧ tg tm' 0 = v ∧ tg tm' 1 = sv [32] ∧ tg tm' 5 = .int .i64 ((n1 + sumL ps : Nat) : Int) := by
 refine C.loop (fun k tm h' => ∃ i m : Nat, k = ps.length - i ∧ i ≤ ps.length ∧ m + sumL (ps.drop i) = n1 + sumL ps ∧ h' = h ∧ tg tm 0 = v ∧ tg tm 1 = sv [32] ∧ tg tm 39 = v ∧ tg tm 40 = .int .i64 (ps.length : Int) ∧ tg tm 41 = .int .i64 (i : Int) ∧ tg tm 5 = .int .i64 (m : Int)) ps.length hL ⟨0, n1, rfl, Nat.zero_le _, by simp, rfl, t0, t1, t39, t40, t41, t5⟩ fun k tm h' hi => ?_
 obtain ⟨i, m, hk, hi, hm, rfl, t0, t1, t39, t40, t41, t5⟩ := hi
 refine C.seq fun K hK => ?_
 by_cases g : i < ps.length
 · have g' : (i : Int) < (ps.length : Int) := by omega
   obtain ⟨p, hp⟩ : ∃ p, ps[i]? = some p := ⟨_, List.getElem?_eq_getElem g⟩
   have hd := sumL_drop hp
   obtain ⟨bb, oo, ix, ld⟩ := hb.at hp
   simp only [EV, r27_12, t40, t41, dT g']
   refine hK .norm _ _ (C.seq (C.ct (C.skip (C.seq (C.block (C.seq fun K hK => ?_))))))
   simp only [seval, EV, r27_13, t39, t41, ix, ld]
   refine hK .norm _ _ (C.seq (C.seq fun K hK => ?_))
   have w1 : IntKind.i64.wrap (9223372036854775807 - (m : Int)) = 9223372036854775807 - (m : Int) := wrap_big (by omega) (by omega)
   have g2 : ¬ (9223372036854775807 - (m : Int) < (p.length : Int)) := by omega
   simp only [seval, EV, r27_14, sv_len, t5, w1, dF g2]
   refine hK .norm _ _ (C.cf <| C.skip fun K hK => ?_)
   have w2 : IntKind.i64.wrap ((m : Int) + (p.length : Int)) = ((m + p.length : Nat) : Int) := by rw [wrap_big (by omega) (by omega)]; omega
   simp only [seval, EV, r27_16, sv_len, t5, w2]
   refine hK .norm _ _ fun K hK => ?_
   have w3 : IntKind.i64.wrap ((i : Int) + 1) = ((i + 1 : Nat) : Int) := by rw [wrap_big (by omega) (by omega)]; omega
   simp only [seval, EV, r27_17, t41, w3]
   refine hK .norm _ _ ⟨ps.length - (i + 1), by omega, i + 1, m + p.length, rfl, by omega, by omega, rfl, ?_, ?_, ?_, ?_, ?_, ?_⟩ <;> simp only [seval, EV, t0, t1, t39, t40]
 · have g' : ¬ (i : Int) < (ps.length : Int) := by omega
   simp only [EV, r27_12, t40, t41, dF g']
   obtain rfl : i = ps.length := by omega
   rw [List.drop_length] at hm
   simp only [sumL, Nat.add_zero] at hm
   refine hK .norm _ _ (C.seq (C.cf <| C.exit ⟨rfl, rfl, by simp only [seval, EV, t0], by simp only [seval, EV, t1], by simp only [seval, EV, t5, hm]⟩))
theorem loop2_law (L n : Nat) {n0 : Nat} {h : H} {v : Value} {B : Nat} {p0 : List UInt8} {ps : List (List UInt8)} (hb : Strs h v ps) (hR : ∀ b, blk v b → b < n0) (hs : p0.length + ps.length + sumL ps ≤ 1000000) (hL : ps.length < L) {tm : T Value}
   (hB : Bld n0 h B p0)
   (t1 : tg tm 1 = sv [32]) (t8 : tg tm 8 = .pointer (some ⟨B, 0, none⟩)) (t63 : tg tm 63 = v) (t64 : tg tm 64 = .int .i64 (ps.length : Int)) (t65 : tg tm 65 = .int .i64 0) :
   C (loopB l27_28) (CF L (n + 3)) L tm h fun e tm' h' => e = .exit 3 ∧ Bld n0 h' B (p0 ++ joinR ps) ∧ Keep (From n0) h h' ∧ tg tm' 8 = .pointer (some ⟨B, 0, none⟩) := by
 refine C.loop (fun k tm h' => ∃ (i : Nat) (acc : List UInt8), k = ps.length - i ∧ i ≤ ps.length ∧ acc ++ joinR (ps.drop i) = p0 ++ joinR ps ∧ Bld n0 h' B acc ∧ Keep (From n0) h h' ∧ tg tm 1 = sv [32] ∧ tg tm 8 = .pointer (some ⟨B, 0, none⟩) ∧ tg tm 63 = v ∧ tg tm 64 = .int .i64 (ps.length : Int) ∧ tg tm 65 = .int .i64 (i : Int)) ps.length hL ⟨0, p0, rfl, Nat.zero_le _, rfl, hB, .refl _ _, t1, t8, t63, t64, t65⟩ fun k tm h' hi => ?_
 obtain ⟨i, acc, hk, hi, ha, hB, kp, t1, t8, t63, t64, t65⟩ := hi
 have hlen := congrArg List.length ha
 simp only [List.length_append, joinR_len, List.length_drop] at hlen
 refine C.seq fun K hK => ?_
 by_cases g : i < ps.length
 · have g' : (i : Int) < (ps.length : Int) := by omega
   obtain ⟨p, hp⟩ : ∃ p, ps[i]? = some p := ⟨_, List.getElem?_eq_getElem g⟩
   have hj := joinR_drop hp
   have hd := sumL_drop hp
   obtain ⟨bb, oo, ix, ld⟩ := (hb.keep kp (fun b hb e => by have := hR b hb; unfold From at e; omega)).at hp
   simp only [EV, r27_22, t64, t65, dT g']
   refine hK .norm _ _ (C.seq (C.ct (C.skip (C.seq (C.block (C.seq fun K hK => ?_))))))
   simp only [seval, EV, r27_23, t63, t65, ix, ld]
   refine hK .norm _ _ (C.seq fun K hK => ?_)
   simp only [seval, EV, r27_24, t8, t1]
   refine writeString_law L n hB (m := [32]) (by simp; omega) _ fun r h1 hq => ?_
   obtain ⟨B1, k1⟩ := hq
   refine hK .norm _ _ fun K hK => ?_
   simp only [seval, EV, r27_25, t8]
   refine writeString_law L n B1 (m := p) (by simp; omega) _ fun r h2 hq => ?_
   obtain ⟨B2, k2⟩ := hq
   refine hK .norm _ _ fun K hK => ?_
   have w3 : IntKind.i64.wrap ((i : Int) + 1) = ((i + 1 : Nat) : Int) := by rw [wrap_big (by omega) (by omega)]; omega
   simp only [seval, EV, r27_26, t65, w3]
   refine hK .norm _ _ ⟨ps.length - (i + 1), by omega, i + 1, acc ++ [32] ++ p, rfl, by omega, ?_, B2, (kp.trans k1 fun _ _ e => e).trans k2 fun _ _ e => e, ?_, ?_, ?_, ?_, ?_⟩
   · rw [← ha, hj]; simp
   all_goals simp only [seval, EV, t1, t8, t63, t64]
 · have g' : ¬ (i : Int) < (ps.length : Int) := by omega
   simp only [EV, r27_22, t64, t65, dF g']
   obtain rfl : i = ps.length := by omega
   rw [List.drop_length] at ha
   simp only [joinR, List.append_nil] at ha
   subst ha
   refine hK .norm _ _ (C.seq (C.cf <| C.exit ⟨rfl, hB, kp, by simp only [seval, EV, t8]⟩))
theorem join_law (L n : Nat) {h : H} {v : Value} {p0 : List UInt8} {ps : List (List UInt8)} (hb : Strs h v (p0 :: ps)) (hs : p0.length + ps.length + sumL ps ≤ 100000) (hL : ps.length + 1 < L) (hp0 : p0 ≠ []) :
   Sp (CF L (n + 4)) 27 [v, sv [32]] h fun r h' => r = sv (p0 ++ joinR ps) ∧ Keep nobody h h' := by
 have hlen := hb.len
 simp only [List.length_cons] at hlen
 obtain ⟨b0, o0, ix0, ld0⟩ := hb.at (i := 0) (p := p0) rfl
 have ixz : indexSl 1 v (.int .i64 0) = some (.pointer (some ⟨b0, o0, none⟩)) := ix0
 refine Sp.body f27 (by simp) ?_
 unfold c27
 refine C.seq fun K hK => ?_
 simp only [seval, EV, r27_0]
 refine hK .norm _ _ (C.seq (C.seq fun K hK => ?_))
 simp only [seval, EV, r27_1, hlen]
 have g1 : ¬ ((ps.length + 1 : Nat) : Int) = 0 := by omega
 refine hK .norm _ _ (C.block (C.seq fun K hK => ?_))
 simp only [seval, EV, r27_2, dF g1]
 refine hK .norm _ _ (C.cf <| C.seq fun K hK => ?_)
 by_cases h1 : ps = []
 · subst h1
   have g2 : ((([] : List (List UInt8)).length + 1 : Nat) : Int) = 1 := rfl
   simp only [seval, EV, r27_4, g2]
   refine hK .norm _ _ (C.ct (C.seq fun K hK => ?_))
   simp only [seval, EV, r27_5, ixz, ld0]
   refine hK .norm _ _ (C.ret ⟨.inr rfl, _, rfl, ?_, .refl _ _⟩)
   simp only [seval, EV, resOf, joinR, List.append_nil]
 have h1 : 0 < ps.length := List.length_pos_iff.2 h1
 have g2 : ¬ ((ps.length + 1 : Nat) : Int) = 1 := by omega
 simp only [seval, EV, r27_4, dF g2]
 refine hK .norm _ _ (C.cf <| C.skip (C.seq fun K hK => ?_))
 simp only [r27_6]
 refine hK .norm _ _ (C.seq (C.seq fun K hK => ?_))
 have sl : lenStr (sv [32]) = some (.int .i64 1) := rfl
 simp only [seval, EV, r27_7, sl]
 refine hK .norm _ _ (C.ct (C.seq (C.seq fun K hK => ?_)))
 have w1 : IntKind.i64.wrap (((ps.length + 1 : Nat) : Int) - 1) = (ps.length : Int) := by rw [wrap_big (by omega) (by omega)]; omega
 have q1 : binV Tryz.prog .quo 3 true (.int .i64 9223372036854775807) (.int .i64 (ps.length : Int)) = some (.int .i64 ((9223372036854775807 / ps.length : Nat) : Int)) := by
   have e := binV_quo (P := Tryz.prog) 3 true .i64 ((9223372036854775807 : Nat) : Int) (ps.length : Int) (by omega)
   rw [← Int.ofNat_tdiv] at e
   have hle : 9223372036854775807 / ps.length ≤ 9223372036854775807 := Nat.div_le_self _ _
   generalize 9223372036854775807 / ps.length = z at *
   rw [wrap_big (by omega) (by omega)] at e
   exact e
 have g3 : ¬ (((9223372036854775807 / ps.length : Nat) : Int) ≤ 1) := by
   have : 2 ≤ 9223372036854775807 / ps.length := (Nat.le_div_iff_mul_le (by omega)).2 (by omega)
   generalize 9223372036854775807 / ps.length = z at *
   omega
 simp only [seval, EV, r27_8, sl, hlen, w1, q1, dF g3]
 refine hK .norm _ _ (C.cf <| C.skip fun K hK => ?_)
 have w2 : IntKind.i64.wrap (1 * (ps.length : Int)) = (ps.length : Int) := by rw [Int.one_mul, wrap_big (by omega) (by omega)]
 have w3 : IntKind.i64.wrap (0 + (ps.length : Int)) = (ps.length : Int) := by rw [Int.zero_add, wrap_big (by omega) (by omega)]
 simp only [seval, EV, r27_10, sl, hlen, w1, w2, w3]
 refine hK .norm _ _ (C.seq (C.seq fun K hK => ?_))
 simp only [seval, EV, r27_11, hlen]
 refine hK .norm _ _ (C.block ((loop1_law L _ (ps := p0 :: ps) (n1 := ps.length) hb (by simp only [List.length_cons, sumL]; omega) (by simpa using hL) (by simp only [sumL]; omega) (by simp only [seval, EV]) (by simp only [seval, EV]) (by simp only [seval, EV]) (by simp only [seval, EV]; rfl) (by simp only [seval, EV]) (by simp only [seval, EV])).mono ?_))
 rintro e tm h' ⟨rfl, rfl, t0, t1, t5⟩
 show if 1 = 1 then _ else _
 rw [if_pos rfl]
 refine C.seq fun K hK => ?_
 simp only [↓EW, EV, r27_18]
 have k1 := Keep.new h' (.rw [.pointer none, .slice none 0 0] (some 74))
 have b1 := Has.new h' (.rw [.pointer none, .slice none 0 0] (some 74))
 have hb1 := hb.keep0 k1
 generalize hh1 : h'.new (.rw [.pointer none, .slice none 0 0] (some 74)) = h1' at *
 refine hK .norm _ _ (C.seq fun K hK => ?_)
 simp only [seval, EV, r27_19, t5]
 refine grow_law L n b1 (Nat.le_refl _) (m := ps.length + sumL (p0 :: ps)) (by simp only [sumL]; omega) (by omega) _ fun r h2 hq => ?_
 obtain ⟨B2, k2⟩ := hq
 have old : ∀ b, blk v b → b < h'.next := fun b hbb => hb.lt hbb
 have hb2 := hb1.keep k2 fun b hbb e => by have := old b hbb; unfold From at e; omega
 obtain ⟨b2', o2', ix2, ld2⟩ := hb2.at (i := 0) (p := p0) rfl
 have ixz2 : indexSl 1 v (.int .i64 0) = some (.pointer (some ⟨b2', o2', none⟩)) := ix2
 refine hK .norm _ _ (C.seq fun K hK => ?_)
 simp only [seval, EV, r27_20, t0, ixz2, ld2]
 refine writeString_law L n B2 (m := p0) (by simp; omega) _ fun r h3 hq => ?_
 obtain ⟨B3, k3⟩ := hq
 have hb3 := hb2.keep k3 fun b hbb e => by have := old b hbb; unfold From at e; omega
 obtain ⟨v', cu, hb4, sub⟩ := hb3.tail h1 (by omega)
 refine hK .norm _ _ (C.seq (C.seq fun K hK => ?_))
 simp only [seval, EV, r27_21, t0, cu, hb4.len]
 refine hK .norm _ _ (C.block ((loop2_law L n (n0 := h'.next) (p0 := p0) (ps := ps) hb4 (fun b hbb => old b (sub b hbb)) (by omega) (by omega) B3 (by simp only [seval, EV, t1]) (by simp only [seval, EV]) (by simp only [seval, EV]) (by simp only [seval, EV]) (by simp only [seval, EV])).mono ?_))
 rintro e tm4 h4 ⟨rfl, B4, k4, t8⟩
 show if 3 = 3 then _ else _
 rw [if_pos rfl]
 refine C.seq fun K hK => ?_
 simp only [r27_27, t8]
 refine string_law L (n + 2) B4 (by simp [hp0]) (by simp only [List.length_append, joinR_len]; omega) _ fun r h5 hq => ?_
 obtain ⟨rfl, k5⟩ := hq
 refine hK .norm _ _ (C.ret ⟨.inr rfl, _, rfl, ?_, ?_⟩)
 · simp only [seval, EV, resOf]; rfl
 · exact ((((k1.mono (S' := From h'.next) fun _ _ e => e.elim).trans k2 fun _ _ e => e).trans k3 fun _ _ e => e).trans k4 fun _ _ e => e).trans k5 (fun _ _ e => e) |>.mono fun k hk e => by unfold From at e; omega
structure Cmd where
 kind : Int
 ten : Int
 kv : Value
 val : ByteArray
 flags : Int
 fo : Int
 uniq : Int
 by' : Int
 keys : List (List UInt8)
structure Rq where
 kind : Int
 c : Cmd
 ten : Int
 sec : ByteArray
 on : Bool
 close : Bool
def Cmd.cells (c : Cmd) : List Value := [.int .u8 c.kind, .int .i64 c.ten, c.kv, .string c.val, .int .u32 c.flags, .int .i64 c.fo, .int .u64 c.uniq, .int .u64 c.by']
def Cmd.v (c : Cmd) : Value := .agg c.cells.toArray
def Rq.cells (r : Rq) : List Value := [.int .u8 r.kind, .int .u8 r.c.kind, .int .i64 r.c.ten, r.c.kv, .string r.c.val, .int .u32 r.c.flags, .int .i64 r.c.fo, .int .u64 r.c.uniq, .int .u64 r.c.by', .int .i64 r.ten, .string r.sec, .bool r.on, .bool r.close]
def Rq.v (r : Rq) : Value := .agg r.cells.toArray
structure Cmd.fit (c : Cmd) : Prop where
 kind : 0 ≤ c.kind ∧ c.kind < 256
 flags : 0 ≤ c.flags ∧ c.flags < 4294967296
 uniq : 0 ≤ c.uniq ∧ c.uniq < 18446744073709551616
 by' : 0 ≤ c.by' ∧ c.by' < 18446744073709551616
structure Cmd.slim (c : Cmd) : Prop where
 val : c.val.size ≤ 2000
 many : c.keys.length ≤ 40
 keys : ∀ k ∈ c.keys, k.length ≤ 200
def okW (mx : Nat) (p : List UInt8) : Bool := plainL p && (!decide ((p.length : Int) = 0) && decide ((p.length : Int) ≤ (mx : Int)))
theorem index_fn (L n : Nat) {s : ByteArray} (hs : s.size < L) (h0 : H) :
   Sp (CF L (n + 3)) 35 [.string s, .func (.func 36) #[] #[]] h0 fun r h' => (∃ i : Int, r = .int .i64 i ∧ (i < 0 ↔ plainL s.data.toList = true)) ∧ Keep nobody h0 h' := by
 refine Sp.body f35 (by simp) ?_
 unfold c35
 refine C.seq fun K hK => ?_
 simp only [seval, EV, r35_0]
 refine hK .norm _ _ (C.seq fun K hK => ?_)
 simp only [seval, EV, r35_1]
 refine runes_law L n hs h0 _ fun r h' hq => ?_
 obtain ⟨⟨i, rfl, hi⟩, kp⟩ := hq
 refine hK _ _ _ (C.ret ⟨.inr rfl, _, rfl, ⟨i, ?_, hi⟩, kp⟩)
 simp only [seval, EV, resOf]
theorem plain_law (L n mx : Nat) {p : List UInt8} (hs : p.length < L) (h0 : H) :
   Sp (CF L (n + 4)) 25 [sv p, .int .i64 (mx : Int)] h0 fun r h' => r = .bool (okW mx p) ∧ Keep nobody h0 h' := by
 refine Sp.body f25 (by simp) ?_
 unfold c25
 refine C.seq fun K hK => ?_
 simp only [seval, EV, r25_0]
 refine hK .norm _ _ (C.seq fun K hK => ?_)
 by_cases g1 : (1 : Int) ≤ (p.length : Int)
 · by_cases g2 : (p.length : Int) ≤ (mx : Int)
   · simp only [seval, ↓opStep_eq, ↓EW, EV, r25_1, sv_len, dT g1, dT g2]
     refine index_fn L n (s := ⟨p.toArray⟩) (by simpa [ByteArray.size] using hs) h0 _ fun r h' hq => ?_
     obtain ⟨⟨i, rfl, hi⟩, kp⟩ := hq
     simp only [EV]
     refine hK _ _ _ (C.ret ⟨.inr rfl, _, rfl, ?_, kp⟩)
     simp only [seval, EV, resOf]
     congr 1
     unfold okW
     have e1 : decide (i < 0) = plainL p := by rw [Bool.eq_iff_iff, decide_eq_true_iff]; exact hi
     rw [e1, dF (show ¬ (p.length : Int) = 0 by omega), dT g2]
     simp
   · simp only [seval, ↓opStep_eq, ↓EW, EV, r25_1, sv_len, dT g1, dF g2]
     refine hK _ _ _ (C.ret ⟨.inr rfl, _, rfl, ?_, .refl _ _⟩)
     simp only [seval, EV, resOf, okW, dF g2, Bool.and_false]
 · simp only [seval, ↓opStep_eq, ↓EW, EV, r25_1, sv_len, dF g1]
   refine hK _ _ _ (C.ret ⟨.inr rfl, _, rfl, ?_, .refl _ _⟩)
   simp only [seval, EV, resOf, okW]
   rw [dT (show (p.length : Int) = 0 by omega)]
   simp
theorem key_fn (L n : Nat) {p : List UInt8} (hs : p.length < L) (h0 : H) :
   Sp (CF L (n + 5)) 24 [sv p] h0 fun r h' => r = .bool (!okW 32 p) ∧ Keep nobody h0 h' := by
 refine Sp.body f24 (by simp) ?_
 unfold c24
 refine C.seq fun K hK => ?_
 simp only [EV, r24_0]
 refine hK .norm _ _ (C.seq fun K hK => ?_)
 simp only [seval, EV, r24_1]
 refine plain_law L n 32 hs h0 _ fun r h' hq => ?_
 obtain ⟨rfl, kp⟩ := hq
 simp only [EV]
 refine hK _ _ _ (C.ret ⟨.inr rfl, _, rfl, ?_, kp⟩)
 simp only [seval, EV, resOf]
theorem index_gen (L n g : Nat) (p : List UInt8 → Bool) (v : Value) (l : List (List UInt8)) (h : H) (hi : Strs h v l) (hL : l.length < L) (h63 : l.length < 9223372036854775807)
   (hp : ∀ x ∈ l, ∀ h, Sp (CF L n) g [sv x] h fun r h' => r = .bool (p x) ∧ Keep nobody h h') :
   Sp (CF L (n + 1)) 34 [v, .func (.func g) #[] #[]] h fun r h' => (∃ k : Int, r = .int .i64 k ∧ decide (0 ≤ k) = l.any p) ∧ Keep nobody h h' := by
 refine Sp.body f34 (by simp) ?_
 unfold c34
 refine C.seq fun K hK => hK .norm _ _ ?_
 refine C.seq (C.seq fun K hK => ?_)
 simp only [seval, EV, r34_1, hi.len]
 refine hK .norm _ _ ?_
 refine C.block (C.loop (fun k tm h1 => ∃ i : Nat, k = l.length - i ∧ i ≤ l.length ∧ tg tm 0 = v ∧ tg tm 1 = .func (.func g) #[] #[] ∧ tg tm 7 = .int .i64 (l.length : Int) ∧ tg tm 8 = .int .i64 (i : Int) ∧ (l.take i).all (fun x => !p x) = true ∧ Keep nobody h h1) l.length hL
   ⟨0, by simp, by simp, by simp, by simp, by simp, by simp, by simp, .refl _ _⟩ ?_)
 rintro k tm h1 ⟨i, rfl, hil, t0, t1, t7, t8, hall, hk⟩
 unfold l34_7
 refine C.seq fun K hK => ?_
 by_cases g : i < l.length
 · have g' : (i : Int) < (l.length : Int) := by omega
   obtain ⟨x, hx⟩ : ∃ x, l[i]? = some x := ⟨l[i], List.getElem?_eq_getElem g⟩
   obtain ⟨b, o, e1, e4⟩ := (hi.keep0 hk).at hx
   simp only [EV, r34_2, t7, t8, dT g']
   refine hK .norm _ _ (C.seq (C.ct (C.skip ?_)))
   refine C.seq (C.block (C.seq fun K hK => ?_))
   simp only [seval, EV, r34_3, t8]
   refine hK .norm _ _ (C.seq fun K hK => ?_)
   simp only [seval, EV, r34_4, t0, t1, e1, e4, goCall, funcArgs]
   refine hp x (List.mem_of_getElem? hx) h1 _ fun r h2 hr => ?_
   obtain ⟨rfl, hk2⟩ := hr
   cases hpx : p x with
   | true =>
     refine hK .norm _ _ (C.ct (C.seq fun K hK => ?_))
     simp only [seval, EV, r34_5]
     refine hK .norm _ _ (C.ret ⟨.inr rfl, _, rfl, ⟨i, by simp only [seval, EV, resOf], ?_⟩, hk.then hk2⟩)
     rw [dT (by omega)]
     symm
     rw [List.any_eq_true]
     exact ⟨x, List.mem_of_getElem? hx, hpx⟩
   | false =>
     refine hK .norm _ _ (C.cf <| C.skip fun K hK => ?_)
     simp only [seval, EV, r34_6, t8, wrap_succ i (by omega)]
     refine hK .norm _ _ ⟨l.length - (i + 1), by omega, i + 1, rfl, by omega, by simp only [seval, EV, t0], by simp only [seval, EV, t1], by simp only [seval, EV, t7], ?_, ?_, hk.then hk2⟩
     · simp only [seval, EV]
     · rw [List.take_add_one, hx]
       simp only [List.all_append, hall, Bool.true_and]
       simp [hpx]
 · have g' : ¬ (i : Int) < (l.length : Int) := by omega
   have hge : i = l.length := by omega
   simp only [EV, r34_2, t7, t8, dF g']
   refine hK .norm _ _ (C.seq (C.cf <| C.exit ?_))
   simp only [if_pos]
   refine C.seq fun K hK => ?_
   simp only [r34_7]
   refine hK .norm _ _ (C.ret ⟨.inr rfl, _, rfl, ⟨-1, by simp only [seval, EV, resOf], ?_⟩, hk⟩)
   rw [hge, List.take_length] at hall
   rw [dF (by omega)]
   symm
   rw [List.any_eq_false]
   intro x hx
   have := List.all_eq_true.1 hall x hx
   simpa using this
theorem contains_gen (L n g : Nat) (p : List UInt8 → Bool) (v : Value) (l : List (List UInt8)) (h : H) (hi : Strs h v l) (hL : l.length < L) (h63 : l.length < 9223372036854775807)
   (hp : ∀ x ∈ l, ∀ h, Sp (CF L n) g [sv x] h fun r h' => r = .bool (p x) ∧ Keep nobody h h') :
   Sp (CF L (n + 2)) 23 [v, .func (.func g) #[] #[]] h fun r h' => r = .bool (l.any p) ∧ Keep nobody h h' := by
 refine Sp.body f23 (by simp) ?_
 unfold c23
 refine C.seq fun K hK => ?_
 simp only [seval, EV, r23_0]
 refine hK .norm _ _ (C.seq fun K hK => ?_)
 simp only [seval, EV, r23_1]
 refine index_gen L n g p v l h hi hL h63 hp _ fun r h2 hr => ?_
 obtain ⟨⟨k, rfl, hk⟩, h3⟩ := hr
 simp only [EV, hk]
 refine hK _ _ _ (C.ret ⟨.inr rfl, _, rfl, ?_, h3⟩)
 simp only [seval, EV, resOf]
theorem tens_int (L n : Nat) (hL : 1000 ≤ L) {x : Nat} (hx : x < 9223372036854775808) {h : H} (hG : Has h 1 (.ro powC)) :
   Sp (CF L (n + 5)) 28 [.int .i64 (x : Int)] h fun r h' => r = sv (dec x) ∧ Keep nobody h h' := by
 refine Sp.body f28 (by simp) ?_
 unfold c28
 refine C.seq fun K hK => ?_
 simp only [EV, r28_0]
 refine hK .norm _ _ (C.seq fun K hK => ?_)
 have q : toInt .u64 (.int .i64 (x : Int)) = some (.int .u64 (x : Int)) := by rw [toInt_int, wrap_u64 _ (by omega)]
 simp only [seval, EV, r28_1, q]
 refine format2_law L n hL (by omega) hG _ fun r h1 hq => ?_
 obtain ⟨rfl, k1⟩ := hq
 refine hK _ _ _ (C.ret ⟨.inr rfl, _, rfl, ?_, k1⟩)
 simp only [seval, EV, resOf]; rfl
theorem tens_u32 (L n : Nat) (hL : 1000 ≤ L) {x : Nat} (hx : x < 4294967296) {h : H} (hG : Has h 1 (.ro powC)) :
   Sp (CF L (n + 5)) 37 [.int .u32 (x : Int)] h fun r h' => r = sv (dec x) ∧ Keep nobody h h' := by
 refine Sp.body f37 (by simp) ?_
 unfold c37
 refine C.seq fun K hK => ?_
 simp only [EV, r37_0]
 refine hK .norm _ _ (C.seq fun K hK => ?_)
 have q : toInt .u64 (.int .u32 (x : Int)) = some (.int .u64 (x : Int)) := by rw [toInt_int, wrap_u64 _ (by omega)]
 simp only [seval, EV, r37_1, q]
 refine format2_law L n hL (by omega) hG _ fun r h1 hq => ?_
 obtain ⟨rfl, k1⟩ := hq
 refine hK _ _ _ (C.ret ⟨.inr rfl, _, rfl, ?_, k1⟩)
 simp only [seval, EV, resOf]; rfl
theorem tens_u64 (L n : Nat) (hL : 1000 ≤ L) {x : Nat} (hx : x < 18446744073709551616) {h : H} (hG : Has h 1 (.ro powC)) :
   Sp (CF L (n + 5)) 38 [.int .u64 (x : Int)] h fun r h' => r = sv (dec x) ∧ Keep nobody h h' := by
 refine Sp.body f38 (by simp) ?_
 unfold c38
 refine C.seq fun K hK => ?_
 simp only [EV, r38_0]
 refine hK .norm _ _ (C.seq fun K hK => ?_)
 simp only [seval, EV, r38_1]
 refine format2_law L n hL hx hG _ fun r h1 hq => ?_
 obtain ⟨rfl, k1⟩ := hq
 refine hK _ _ _ (C.ret ⟨.inr rfl, _, rfl, ?_, k1⟩)
 simp only [seval, EV, resOf]; rfl
theorem index_law (L n : Nat) {v : Value} {l : List (List UInt8)} {k : List UInt8} {h : H} (hi : Strs h v l) (hL : l.length < L) (h63 : l.length < 1000000) :
   Sp (CF L (n + 1)) 94 [v, sv k] h fun r h' => (∃ i : Int, r = .int .i64 i ∧ (0 ≤ i ↔ k ∈ l)) ∧ h' = h := by
 refine Sp.body f94 (by simp) ?_
 unfold c94
 refine C.seq fun K hK => hK .norm _ _ ?_
 refine C.seq (C.seq fun K hK => ?_)
 simp only [seval, EV, r94_1, hi.len]
 refine hK .norm _ _ ?_
 refine C.block (C.loop (fun kk tm h1 => ∃ i : Nat, kk = l.length - i ∧ i ≤ l.length ∧ tg tm 0 = v ∧ tg tm 1 = sv k ∧ tg tm 7 = .int .i64 (l.length : Int) ∧ tg tm 8 = .int .i64 (i : Int) ∧ k ∉ l.take i ∧ h1 = h) l.length hL
   ⟨0, by simp, by simp, by simp, by simp, by simp, by simp, by simp, rfl⟩ ?_)
 rintro kk tm h1 ⟨i, rfl, hil, t0, t1, t7, t8, hn, rfl⟩
 unfold l94_7
 refine C.seq fun K hK => ?_
 by_cases g : i < l.length
 · have g' : (i : Int) < (l.length : Int) := by omega
   obtain ⟨x, hx⟩ : ∃ x, l[i]? = some x := ⟨l[i], List.getElem?_eq_getElem g⟩
   obtain ⟨b, o, e1, e4⟩ := hi.at hx
   simp only [EV, r94_2, t7, t8, dT g']
   refine hK .norm _ _ (C.seq (C.ct (C.skip ?_)))
   refine C.seq (C.block (C.seq fun K hK => ?_))
   simp only [seval, EV, r94_3, t8]
   refine hK .norm _ _ (C.seq fun K hK => ?_)
   simp only [seval, EV, r94_4, t0, t1, e1, e4, sv_eql]
   by_cases gx : k = x
   · rw [dT gx]
     refine hK .norm _ _ (C.ct (C.seq fun K hK => ?_))
     simp only [seval, EV, r94_5]
     refine hK .norm _ _ (C.ret ⟨.inr rfl, _, rfl, ⟨i, by simp only [seval, EV, resOf], ?_⟩, rfl⟩)
     exact ⟨fun _ => gx ▸ List.mem_of_getElem? hx, fun _ => by omega⟩
   · rw [dF gx]
     refine hK .norm _ _ (C.cf <| C.skip fun K hK => ?_)
     simp only [seval, EV, r94_6, t8, wrap_succ i (by omega)]
     refine hK .norm _ _ ⟨l.length - (i + 1), by omega, i + 1, rfl, by omega, by simp only [seval, EV, t0], by simp only [seval, EV, t1], by simp only [seval, EV, t7], ?_, ?_, rfl⟩
     · simp only [seval, EV]
     · rw [List.take_add_one, hx]
       simp [hn, gx]
 · have g' : ¬ (i : Int) < (l.length : Int) := by omega
   have hge : i = l.length := by omega
   simp only [EV, r94_2, t7, t8, dF g']
   refine hK .norm _ _ (C.seq (C.cf <| C.exit ?_))
   simp only [if_pos]
   refine C.seq fun K hK => ?_
   simp only [r94_7]
   refine hK .norm _ _ (C.ret ⟨.inr rfl, _, rfl, ⟨-1, by simp only [seval, EV, resOf], ?_⟩, rfl⟩)
   rw [hge, List.take_length] at hn
   exact ⟨fun e => by omega, fun e => absurd e hn⟩
theorem contains_law (L n : Nat) {v : Value} {l : List (List UInt8)} {k : List UInt8} {h : H} (hi : Strs h v l) (hL : l.length < L) (h63 : l.length < 1000000) :
   Sp (CF L (n + 2)) 82 [v, sv k] h fun r h' => r = .bool (decide (k ∈ l)) ∧ h' = h := by
 refine Sp.body f82 (by simp) ?_
 unfold c82
 refine C.seq fun K hK => ?_
 simp only [seval, EV, r82_0]
 refine hK .norm _ _ (C.seq fun K hK => ?_)
 simp only [seval, EV, r82_1]
 refine index_law L n hi hL h63 _ fun r h2 hr => ?_
 obtain ⟨⟨i, rfl, hk⟩, rfl⟩ := hr
 simp only [EV]
 refine hK _ _ _ (C.ret ⟨.inr rfl, _, rfl, ?_, rfl⟩)
 simp only [seval, EV, resOf]
 congr 1
 rw [Bool.eq_iff_iff, decide_eq_true_iff, decide_eq_true_iff]; exact hk
def hm (k : Nat) : Bool := k == 1 || k == 10
def hn (k : Nat) : Bool := k == 11
def hv (k : Nat) : Bool := k == 2 || k == 3 || k == 4 || k == 5 || k == 8
def hf (k : Nat) : Bool := k == 2 || k == 3 || k == 4 || k == 5 || k == 9
def hg (k : Nat) : Bool := k == 2 || k == 3 || k == 4 || k == 5
def hc (k : Nat) : Bool := k == 5
def hb (k : Nat) : Bool := k == 6 || k == 7
def hasN (k : Nat) : Int := [0, 129, 142, 142, 142, 158, 160, 160, 130, 132, 129, 192].getD k 0
noncomputable def isAnd (a b : Int) (x : Int) : Bool := match binV Tryz.prog .and 3 true (.int .i64 a) (.int .i64 b) with | some (.int .i64 y) => iEq x y | _ => false
theorem isAnd_eq {a b x : Int} (h : isAnd a b x = true) : binV Tryz.prog .and 3 true (.int .i64 a) (.int .i64 b) = some (.int .i64 x) := by
 unfold isAnd at h
 split at h
 · rename_i y e
   rw [iEq_dec] at h
   rw [e, of_decide_eq_true h]
 · cases h
theorem allAnd : (List.range 12).all (fun k => isAnd (hasN k) 1 (if hm k = true then 1 else 0) && isAnd (hasN k) 64 (if hn k = true then 64 else 0) && isAnd (hasN k) 2 (if hv k = true then 2 else 0) && isAnd (hasN k) 4 (if hf k = true then 4 else 0) && isAnd (hasN k) 8 (if hg k = true then 8 else 0) && isAnd (hasN k) 16 (if hc k = true then 16 else 0) && isAnd (hasN k) 32 (if hb k = true then 32 else 0)) = true := by kernel_rfl
theorem and_all {k : Nat} (h : k < 12) : (((((isAnd (hasN k) 1 (if hm k = true then 1 else 0) = true ∧ isAnd (hasN k) 64 (if hn k = true then 64 else 0) = true) ∧ isAnd (hasN k) 2 (if hv k = true then 2 else 0) = true) ∧ isAnd (hasN k) 4 (if hf k = true then 4 else 0) = true) ∧ isAnd (hasN k) 8 (if hg k = true then 8 else 0) = true) ∧ isAnd (hasN k) 16 (if hc k = true then 16 else 0) = true) ∧ isAnd (hasN k) 32 (if hb k = true then 32 else 0) = true := by
 have := List.all_eq_true.1 allAnd k (List.mem_range.2 h)
 simpa only [Bool.and_eq_true] using this
theorem has_law (L n : Nat) {k : Nat} (h : H) : Sp (CF L (n + 1)) 56 [.int .u8 (k : Int)] h fun r h' => r = .int .i64 (hasN k) ∧ h' = h := by
 refine Sp.body f56 (by simp) fun K hK => ?_
 by_cases hk : 1 ≤ k ∧ k ≤ 11
 · have : k = 1 ∨ k = 2 ∨ k = 3 ∨ k = 4 ∨ k = 5 ∨ k = 6 ∨ k = 7 ∨ k = 8 ∨ k = 9 ∨ k = 10 ∨ k = 11 := by omega
   rcases this with rfl | rfl | rfl | rfl | rfl | rfl | rfl | rfl | rfl | rfl | rfl <;>
     simp only [seval, EV, seqC, retC, skipC, blockC, condC, c56, r56_0, r56_1, r56_2, r56_3, r56_4, r56_5, r56_6, r56_7, r56_8, r56_9, r56_10, r56_11, r56_12, r56_13, r56_14, r56_15, r56_16, r56_17, r56_18, r56_19, Int.cast_ofNat_Int] <;>
     refine hK _ _ _ ⟨.inr rfl, _, rfl, ?_, rfl⟩ <;> simp only [seval, EV, resOf] <;> rfl
 · have z : hasN k = 0 := by
     unfold hasN
     match k with
     | 0 => rfl
     | k + 12 => rfl
     | 1 | 2 | 3 | 4 | 5 | 6 | 7 | 8 | 9 | 10 | 11 => omega
   have g1 : ¬ (k : Int) = 1 := by omega
   have g2 : ¬ (k : Int) = 2 := by omega
   have g3 : ¬ (k : Int) = 3 := by omega
   have g4 : ¬ (k : Int) = 4 := by omega
   have g5 : ¬ (k : Int) = 5 := by omega
   have g6 : ¬ (k : Int) = 6 := by omega
   have g7 : ¬ (k : Int) = 7 := by omega
   have g8 : ¬ (k : Int) = 8 := by omega
   have g9 : ¬ (k : Int) = 9 := by omega
   have g10 : ¬ (k : Int) = 10 := by omega
   have g11 : ¬ (k : Int) = 11 := by omega
   simp only [seval, EV, seqC, retC, skipC, blockC, condC, c56, r56_0, r56_1, r56_2, r56_3, r56_5, r56_6, r56_7, r56_9, r56_11, r56_12, r56_14, r56_16, r56_18, r56_20, g1, g2, g3, g4, g5, g6, g7, g8, g9, g10, g11]
   refine hK _ _ _ ⟨.inr rfl, _, rfl, ?_, rfl⟩
   rw [z]
   simp only [seval, EV, resOf]
def lenB (p : List UInt8) : Bool := decide (1 ≤ p.length) && decide (p.length ≤ 32)
def keysB (lo hi : Nat) (l : List (List UInt8)) : Bool := (decide (lo ≤ l.length) && decide (l.length ≤ hi)) && (l.all lenB && decide l.Nodup)
def loK (k : Nat) : Nat := if hn k = true then 0 else 1
def hiK (k : Nat) : Nat := if hm k = true then 8 else if hn k = true then 0 else 1
theorem nodup_take {l : List (List UInt8)} {i : Nat} {p : List UInt8} (h : l[i]? = some p) : (l.take (i + 1)).Nodup ↔ (l.take i).Nodup ∧ p ∉ l.take i := by
 rw [List.take_add_one, h]
 simp only [Option.toList_some, List.nodup_append, List.nodup_cons, List.not_mem_nil, not_false_eq_true, List.nodup_nil, and_self, true_and, List.mem_singleton]
 constructor
 · rintro ⟨h1, h2⟩; exact ⟨h1, fun hp => h2 p hp p rfl rfl⟩
 · rintro ⟨h1, h2⟩; exact ⟨h1, fun a ha b hb e => h2 (hb ▸ e ▸ ha)⟩
theorem hcell (c : Cmd) : c.cells = [.int .u8 c.kind, .int .i64 c.ten, c.kv, .string c.val, .int .u32 c.flags, .int .i64 c.fo, .int .u64 c.uniq, .int .u64 c.by'] := rfl
section
variable {L n : Nat} {tm : T Value} {h : H} {b : Nat} {K : KE} {c : Cmd} {k : Nat} {call : CallT}
theorem regx34_6 (hl : ∀ o s, loadOne h (.pointer (some ⟨b, o, s⟩)) = c.cells[o]?) {len lo hi : Int} (hn : lenSl c.kv = some (.int .i64 len)) (t2 : tg tm 2 = .pointer (some ⟨b, 0, none⟩)) (t5 : tg tm 5 = .int .i64 lo) (t6 : tg tm 6 = .int .i64 hi) :
   r57_6 call L tm [] h K = K .norm (T.set tm 28 (.bool (decide (len < lo) || decide (hi < len)))) [] h := by
 by_cases g1 : len < lo <;> by_cases g2 : hi < len <;> simp only [seval, ↓opStep_eq, ↓EW, EV, r57_6, t2, t5, t6, hl, hcell, hn, g1, g2, Bool.or_true, Bool.or_false]
theorem regx34_11 {l : List (List UInt8)} {p : List UInt8} {i : Nat} (hL : 1000 < L) (hlen : l.length ≤ 1000) (hl : ∀ o s, loadOne h (.pointer (some ⟨b, o, s⟩)) = c.cells[o]?) (hs : Strs h c.kv l) (hp : l[i]? = some p) (t2 : tg tm 2 = .pointer (some ⟨b, 0, none⟩)) (t7 : tg tm 7 = .int .i64 (i : Int)) (t8 : tg tm 8 = sv p)
   (hK : K .norm (T.set tm 52 (.bool (!lenB p || decide (p ∈ l.take i)))) [] h = true) : r57_11 (CF L (n + 2)) L tm [] h K = true := by
 obtain ⟨v', e1, e2⟩ := hs.take (i := i) (List.getElem?_eq_some_iff.1 hp).1
 by_cases g1 : (p.length : Int) < 1
 · have e : lenB p = false := by unfold lenB; rw [dF (by omega)]; rfl
   rw [e] at hK
   simp only [seval, ↓opStep_eq, ↓EW, EV, r57_11, t2, t7, t8, sv_len, g1]
   exact hK
 by_cases g2 : 32 < (p.length : Int)
 · have e : lenB p = false := by unfold lenB; rw [dF (show ¬ p.length ≤ 32 by omega), Bool.and_false]
   rw [e] at hK
   simp only [seval, ↓opStep_eq, ↓EW, EV, r57_11, t2, t7, t8, sv_len, g1, g2]
   exact hK
 · have e : lenB p = true := by unfold lenB; rw [dT (by omega), dT (by omega)]; rfl
   rw [e] at hK
   simp only [seval, ↓opStep_eq, ↓EW, EV, r57_11, t2, t7, t8, sv_len, g1, g2, hl, hcell, e1]
   refine contains_law L n e2 (by rw [List.length_take]; omega) (by rw [List.length_take]; omega) _ fun r h2 hr => ?_
   obtain ⟨rfl, rfl⟩ := hr
   simpa only [↓opStep_eq, ↓reduceIte, ↓EW, EV, Nat.reduceAdd, Nat.reduceEqDiff, Int.reduceEq, Int.reduceLT, Int.reduceLE, Int.reduceNe, seqC, retC, skipC, exitC, blockC, condC, Bool.not_true, Bool.false_or] using hK
end
theorem keyed_law (L n : Nat) (hL : 1000 < L) {c : Cmd} {k : Nat} {h : H} (hk : k < 12) (hs : Strs h c.kv c.keys) (sl : c.keys.length ≤ 1000) :
   Sp (CF L (n + 3)) 57 [c.v, .int .i64 (hasN k)] h fun r h' => r = .bool (keysB (loK k) (hiK k) c.keys) ∧ Keep nobody h h' := by
 obtain ⟨⟨⟨⟨⟨⟨a1, a64⟩, _⟩, _⟩, _⟩, _⟩, _⟩ := and_all hk
 have a1 := isAnd_eq a1
 have a64 := isAnd_eq a64
 have hcc : (Value.cells c.v).toList = c.cells := rfl
 have k1 := Keep.new h (.rw c.cells (some 26))
 have b1 := Has.new h (.rw c.cells (some 26))
 have hs1 := hs.keep0 k1
 refine Sp.body f57 (by simp) ?_
 unfold c57
 refine C.seq fun K hK => ?_
 simp only [seval, ↓EW, EV, r57_0, hcc]
 generalize h.new (.rw c.cells (some 26)) = h1 at *
 have ld : ∀ o s, loadOne h1 (.pointer (some ⟨h.next, o, s⟩)) = c.cells[o]? := fun o s => loadOne_has b1 rfl
 refine hK .norm _ _ (C.seq fun K hK => ?_)
 simp only [r57_1]
 refine hK .norm _ _ (C.seq (C.block ?_))
 refine C.mono (Q := fun e tm h' => e = .norm ∧ h' = h1 ∧ tg tm 2 = .pointer (some ⟨h.next, 0, none⟩) ∧ tg tm 5 = .int .i64 (loK k : Int) ∧ tg tm 6 = .int .i64 (hiK k : Int)) (fun K hK => ?_) ?_
 · cases e1 : hm k with
   | true =>
     have e2 : hn k = false := by
       unfold hm at e1; unfold hn
       simp only [Bool.or_eq_true, beq_iff_eq] at e1
       rw [Bool.eq_false_iff]; simp; omega
     rw [e1] at a1
     simp only [seval, EV, seqC, condC, r57_2, r57_3, a1]
     refine hK _ _ _ ⟨rfl, rfl, ?_, ?_, ?_⟩ <;> simp only [seval, EV, loK, hiK, e1, e2] <;> rfl
   | false =>
     rw [e1] at a1
     cases e2 : hn k with
     | true =>
       rw [e2] at a64
       simp only [seval, EV, seqC, condC, r57_2, r57_4, r57_5, a1, a64]
       refine hK _ _ _ ⟨rfl, rfl, ?_, ?_, ?_⟩ <;> simp only [seval, EV, loK, hiK, e1, e2] <;> rfl
     | false =>
       rw [e2] at a64
       simp only [seval, EV, seqC, skipC, condC, r57_2, r57_4, a1, a64]
       refine hK _ _ _ ⟨rfl, rfl, ?_, ?_, ?_⟩ <;> simp only [seval, EV, loK, hiK, e1, e2] <;> rfl
 rintro e tm h' ⟨rfl, rfl, t2, t5, t6⟩
 refine C.seq (C.seq fun K hK => ?_)
 show r57_6 (CF L (n + 2)) L tm [] h' K = true
 rw [regx34_6 ld hs1.len t2 t5 t6]
 have e0 : (decide ((c.keys.length : Int) < (loK k : Int)) || decide ((hiK k : Int) < (c.keys.length : Int))) = !(decide (loK k ≤ c.keys.length) && decide (c.keys.length ≤ hiK k)) := by
   rw [Bool.not_and]
   congr 1
   · rw [← decide_not]; congr 1; exact propext ⟨fun _ => by omega, fun _ => by omega⟩
   · rw [← decide_not]; congr 1; exact propext ⟨fun _ => by omega, fun _ => by omega⟩
 rw [e0]
 generalize hr : (decide (loK k ≤ c.keys.length) && decide (c.keys.length ≤ hiK k)) = rng at *
 have hkb : keysB (loK k) (hiK k) c.keys = (rng && (c.keys.all lenB && decide c.keys.Nodup)) := by unfold keysB; rw [hr]
 rw [hkb] at hK
 cases rng with
 | false =>
   refine hK .norm _ _ (C.ct (C.seq fun K hK => ?_))
   simp only [EV, r57_7]
   refine hK .norm _ _ (C.ret ⟨.inr rfl, _, rfl, ?_, k1⟩)
   simp only [seval, EV, resOf, Bool.false_and]
 | true =>
   refine hK .norm _ _ (C.cf <| C.skip (C.seq (C.seq fun K hK => ?_)))
   simp only [seval, EV, r57_8, t2, ld, hcell, hs1.len]
   refine hK .norm _ _ (C.block ?_)
   refine (C.loop (L := L) (fun kk tm h1' => ∃ i : Nat, kk = c.keys.length - i ∧ i ≤ c.keys.length ∧ tg tm 2 = .pointer (some ⟨h.next, 0, none⟩) ∧ tg tm 30 = c.kv ∧ tg tm 31 = .int .i64 (c.keys.length : Int) ∧ tg tm 32 = .int .i64 (i : Int) ∧ (c.keys.take i).all lenB = true ∧ (c.keys.take i).Nodup ∧ h1' = h') c.keys.length (by omega)
     ⟨0, rfl, Nat.zero_le _, by simp only [↓reduceIte, EV, Nat.reduceEqDiff, t2], by simp only [↓reduceIte, EV, Nat.reduceEqDiff], by simp only [↓reduceIte, EV, Nat.reduceEqDiff], by simp only [↓reduceIte, EV]; rfl, rfl, by simp, rfl⟩ ?_ : C (loopB l57_14) _ L _ h' fun e tm h1' => h1' = h' ∧ (e = .exit 1 ∧ (c.keys.all lenB && decide c.keys.Nodup) = true ∨ e = .ret ∧ tg tm 4 = .bool false ∧ (c.keys.all lenB && decide c.keys.Nodup) = false)).mono ?_
   · rintro kk tm h1' ⟨i, rfl, hil, t2, t30, t31, t32, hall, hnd, rfl⟩
     unfold l57_14
     refine C.seq fun K hK => ?_
     by_cases g : i < c.keys.length
     · have g' : (i : Int) < (c.keys.length : Int) := by omega
       obtain ⟨p, hp⟩ : ∃ p, c.keys[i]? = some p := ⟨_, List.getElem?_eq_getElem g⟩
       obtain ⟨bb, oo, ix, lx⟩ := hs1.at hp
       simp only [EV, r57_9, t31, t32, dT g']
       refine hK .norm _ _ (C.seq (C.ct (C.skip (C.seq (C.block (C.seq fun K hK => ?_))))))
       simp only [seval, EV, r57_10, t30, t32, ix, lx]
       refine hK .norm _ _ (C.seq fun K hK => ?_)
       refine regx34_11 (n := n) hL sl ld hs1 hp (by simp only [seval, EV, t2]) (by simp only [seval, EV]) (by simp only [seval, EV]) ?_
       cases hbad : (!lenB p || decide (p ∈ c.keys.take i)) with
       | true =>
         refine hK .norm _ _ (C.ct (C.seq fun K hK => ?_))
         simp only [r57_12]
         refine hK .norm _ _ (C.ret ⟨rfl, .inr ⟨rfl, by simp only [seval, EV], ?_⟩⟩)
         simp only [Bool.or_eq_true, Bool.not_eq_true', decide_eq_true_eq] at hbad
         rw [Bool.and_eq_false_iff]
         rcases hbad with hb | hb
         · exact .inl (List.all_eq_false.2 ⟨p, List.mem_of_getElem? hp, by simp [hb]⟩)
         · refine .inr (dF fun hnn => ?_)
           have h2 : (c.keys.take (i + 1)).Nodup := hnn.sublist (List.take_sublist _ _)
           exact ((nodup_take hp).1 h2).2 hb
       | false =>
         simp only [Bool.or_eq_false_iff, Bool.not_eq_false', decide_eq_false_iff_not] at hbad
         refine hK .norm _ _ (C.cf <| C.skip fun K hK => ?_)
         simp only [seval, EV, r57_13, t32, wrap_succ i (by omega)]
         refine hK .norm _ _ ⟨c.keys.length - (i + 1), by omega, i + 1, rfl, by omega, by simp only [seval, EV, t2], by simp only [seval, EV, t30], by simp only [seval, EV, t31], by simp only [seval, EV], ?_, (nodup_take hp).2 ⟨hnd, hbad.2⟩, rfl⟩
         rw [List.take_add_one, hp, List.all_append, hall]
         simp [hbad.1]
     · have g' : ¬ (i : Int) < (c.keys.length : Int) := by omega
       obtain rfl : i = c.keys.length := by omega
       rw [List.take_length] at hall hnd
       simp only [EV, r57_9, t31, t32, dF g']
       refine hK .norm _ _ (C.seq (C.cf <| C.exit ⟨rfl, .inl ⟨rfl, ?_⟩⟩))
       rw [hall, dT hnd]; rfl
   · rintro e tm h1' ⟨rfl, (⟨rfl, hq⟩ | ⟨rfl, t4, hq⟩)⟩
     · show if 1 = 1 then _ else _
       rw [if_pos rfl]
       refine C.seq fun K hK => ?_
       simp only [r57_14]
       refine hK .norm _ _ (C.ret ⟨.inr rfl, _, rfl, ?_, k1⟩)
       simp only [seval, EV, resOf, hq, Bool.and_true]
     · refine ⟨.inr rfl, _, rfl, ?_, k1⟩
       simp only [resOf, hq, t4, Bool.and_false]
def mayA (c : Cmd) (k : Nat) : Bool := (decide (1 ≤ k) && decide (k ≤ 11)) && ((decide (0 ≤ c.ten) && decide (c.ten < 4)) && keysB (loK k) (hiK k) c.keys)
def mayB (c : Cmd) (k : Nat) : Bool :=
 mayA c k && ((decide ((c.val.size : Int) ≤ 512) && (hv k || decide ((c.val.size : Int) = 0))) && ((decide (0 ≤ c.fo) && decide (c.fo ≤ 1099511627776) && (hf k || decide (c.fo = 0))) &&
 ((hg k || decide (c.flags = 0)) && (hc k || decide (c.uniq = 0)) && (hb k || decide (c.by' = 0)))))
theorem hasN_zero {k : Nat} : decide (hasN k = 0) = !(decide (1 ≤ k) && decide (k ≤ 11)) := by
 by_cases h : 1 ≤ k ∧ k ≤ 11
 · have : k = 1 ∨ k = 2 ∨ k = 3 ∨ k = 4 ∨ k = 5 ∨ k = 6 ∨ k = 7 ∨ k = 8 ∨ k = 9 ∨ k = 10 ∨ k = 11 := by omega
   rcases this with rfl | rfl | rfl | rfl | rfl | rfl | rfl | rfl | rfl | rfl | rfl <;> rfl
 · match k with
   | 0 => rfl
   | k + 12 =>
     rw [show hasN (k + 12) = 0 from rfl, dF (show ¬ k + 12 ≤ 11 by omega), Bool.and_false]; rfl
   | 1 | 2 | 3 | 4 | 5 | 6 | 7 | 8 | 9 | 10 | 11 => omega
section
variable {L n : Nat} {tm : T Value} {h : H} {b : Nat} {K : KE} {c : Cmd} {k : Nat} {call : CallT}
theorem regx21_8 (hk : k < 12) (hl : ∀ o s, loadOne h (.pointer (some ⟨b, o, s⟩)) = c.cells[o]?) (t1 : tg tm 1 = .pointer (some ⟨b, 0, none⟩)) (t3 : tg tm 3 = .int .i64 (hasN k)) :
   r33_8 call L tm [] h K = K .norm (T.set tm 20 (.bool (!(hv k || decide ((c.val.size : Int) = 0))))) [] h := by
 obtain ⟨⟨⟨⟨⟨⟨_, _⟩, a⟩, _⟩, _⟩, _⟩, _⟩ := and_all hk
 have a := isAnd_eq a
 cases e : hv k <;> rw [e] at a <;> by_cases g : (c.val.size : Int) = 0 <;> simp only [seval, ↓opStep_eq, ↓EW, EV, r33_8, t1, t3, hl, hcell, a, str_nempty, g, Bool.or_true, Bool.or_false]
theorem regx21_12 (hk : k < 12) (hl : ∀ o s, loadOne h (.pointer (some ⟨b, o, s⟩)) = c.cells[o]?) (t1 : tg tm 1 = .pointer (some ⟨b, 0, none⟩)) (t3 : tg tm 3 = .int .i64 (hasN k)) :
   r33_12 call L tm [] h K = K .norm (T.set tm 33 (.bool (!(hf k || decide (c.fo = 0))))) [] h := by
 obtain ⟨⟨⟨⟨⟨⟨_, _⟩, _⟩, a⟩, _⟩, _⟩, _⟩ := and_all hk
 have a := isAnd_eq a
 cases e : hf k <;> rw [e] at a <;> by_cases g : c.fo = 0 <;> simp only [seval, ↓opStep_eq, ↓EW, EV, r33_12, t1, t3, hl, hcell, a, g, Bool.or_true, Bool.or_false]
theorem regx21_14 (hk : k < 12) (hl : ∀ o s, loadOne h (.pointer (some ⟨b, o, s⟩)) = c.cells[o]?) (t1 : tg tm 1 = .pointer (some ⟨b, 0, none⟩)) (t3 : tg tm 3 = .int .i64 (hasN k)) :
   r33_14 call L tm [] h K = K .norm (T.set tm 2 (.bool ((hg k || decide (c.flags = 0)) && (hc k || decide (c.uniq = 0)) && (hb k || decide (c.by' = 0))))) [] h := by
 obtain ⟨⟨⟨⟨⟨⟨_, _⟩, _⟩, _⟩, a⟩, a2⟩, a3⟩ := and_all hk
 have a := isAnd_eq a
 have a2 := isAnd_eq a2
 have a3 := isAnd_eq a3
 cases e : hg k <;> rw [e] at a <;> cases e2 : hc k <;> rw [e2] at a2 <;> cases e3 : hb k <;> rw [e3] at a3 <;>
   by_cases g : c.flags = 0 <;> by_cases g2 : c.uniq = 0 <;> by_cases g3 : c.by' = 0 <;> simp only [seval, ↓opStep_eq, ↓EW, EV, r33_14, t1, t3, hl, hcell, a, a2, a3, g, g2, g3, Bool.or_true, Bool.or_false, Bool.and_true, Bool.and_false]
end
theorem may_law (L n : Nat) (hL : 1000 < L) {c : Cmd} {k : Nat} {h : H} (hkk : c.kind = (k : Int)) (hs : Strs h c.kv c.keys) (sl : c.keys.length ≤ 1000) :
   Sp (CF L (n + 4)) 33 [c.v] h fun r h' => r = .bool (mayB c k) ∧ Keep nobody h h' := by
 have hcc : (Value.cells c.v).toList = c.cells := rfl
 have k1 := Keep.new h (.rw c.cells (some 26))
 have b1 := Has.new h (.rw c.cells (some 26))
 have hs1 := hs.keep0 k1
 refine Sp.body f33 (by simp) ?_
 unfold c33
 refine C.seq fun K hK => ?_
 simp only [seval, ↓EW, EV, r33_0, hcc]
 generalize h.new (.rw c.cells (some 26)) = h1 at *
 have ldg : ∀ h2, Has h2 h.next (.rw c.cells (some 26)) → ∀ o s, loadOne h2 (.pointer (some ⟨h.next, o, s⟩)) = c.cells[o]? := fun h2 hb o s => loadOne_has hb rfl
 have ld := ldg h1 b1
 refine hK .norm _ _ (C.seq fun K hK => ?_)
 simp only [seval, EV, r33_1, ld, hcell, hkk]
 refine has_law L (n + 2) h1 _ fun r h2 hq => ?_
 obtain ⟨rfl, rfl⟩ := hq
 have fls : ∀ {tm : T Value} {h' : H}, Keep nobody h h' → mayB c k = false → tg tm 2 = .bool false → (Ex.ret = .norm ∨ Ex.ret = .ret) ∧ ∃ l, q33.f tm h' = some l ∧ resOf l = .bool (mayB c k) ∧ Keep nobody h h' := fun {tm h'} kk hm t2 => ⟨.inr rfl, _, rfl, by simp only [resOf, t2, hm], kk⟩
 refine hK .norm _ _ (C.seq (C.block ?_))
 -- the first case
 refine C.seq (C.mono (Q := fun e tm h' => e = .norm ∧ Keep nobody h2 h' ∧ tg tm 1 = .pointer (some ⟨h.next, 0, none⟩) ∧ tg tm 3 = .int .i64 (hasN k) ∧ tg tm 7 = .bool (!mayA c k)) (fun K hK => ?_) ?_)
 · cases e1 : (decide (1 ≤ k) && decide (k ≤ 11)) with
   | false =>
     have z := hasN_zero (k := k)
     rw [e1] at z
     simp only [seval, EV, seqC, skipC, condC, r33_2, z]
     refine hK _ _ _ ⟨rfl, .refl _ _, ?_, ?_, ?_⟩ <;> simp only [seval, EV, mayA, e1, Bool.false_and]
   | true =>
     have z := hasN_zero (k := k)
     rw [e1] at z
     have z : decide (hasN k = 0) = false := z
     have e1b := e1
     simp only [Bool.and_eq_true, decide_eq_true_eq] at e1
     by_cases g1 : c.ten < 0
     · simp only [seval, EV, seqC, skipC, condC, r33_2, r33_3, z, ld, hcell, g1]
       refine hK _ _ _ ⟨rfl, .refl _ _, ?_, ?_, ?_⟩ <;> simp only [seval, EV, mayA, dF (show ¬ 0 ≤ c.ten by omega), Bool.false_and, Bool.and_false]
     by_cases g2 : 4 ≤ c.ten
     · simp only [seval, EV, seqC, skipC, condC, r33_2, r33_3, r33_4, z, ld, hcell, g1, g2]
       refine hK _ _ _ ⟨rfl, .refl _ _, ?_, ?_, ?_⟩ <;> simp only [seval, EV, mayA, dF (show ¬ c.ten < 4 by omega), Bool.false_and, Bool.and_false]
     · have lag : ∀ s, loadAgg 8 h2 (.pointer (some ⟨h.next, 0, s⟩)) = some c.v := fun s => loadAgg_has b1 rfl (by show 0 + 8 ≤ 8; omega)
       simp only [seval, EV, seqC, condC, r33_2, r33_3, r33_4, r33_5, z, ld, hcell, g1, g2, lag]
       refine keyed_law L n hL (by omega) hs1 sl _ fun r h3 hq => ?_
       obtain ⟨rfl, k3⟩ := hq
       simp only [EV]
       refine hK _ _ _ ⟨rfl, k3, ?_, ?_, ?_⟩ <;> simp only [seval, EV, mayA, e1b, dT (show 0 ≤ c.ten by omega), dT (show c.ten < 4 by omega), Bool.true_and, Bool.and_true]
 rintro e tm h3 ⟨rfl, k3, t1, t3, t7⟩
 have b3 := b1.keep0 k3
 have ld3 := ldg h3 b3
 have kk := k1.then k3
 cases e1 : mayA c k with
 | false =>
   rw [e1] at t7
   refine C.cond true (by simp only [EV, t7]) (fun _ => C.seq fun K hK => ?_) fun g => by cases g
   simp only [r33_6]
   refine hK .norm _ _ (C.ret (fls kk ?_ (by simp only [seval, EV])))
   unfold mayB
   rw [e1]; rfl
 | true =>
   rw [e1] at t7
   have e1' := e1
   simp only [mayA, Bool.and_eq_true, decide_eq_true_eq] at e1'
   have hk12 : k < 12 := by omega
   have m1 : mayB c k = ((decide ((c.val.size : Int) ≤ 512) && (hv k || decide ((c.val.size : Int) = 0))) && ((decide (0 ≤ c.fo) && decide (c.fo ≤ 1099511627776) && (hf k || decide (c.fo = 0))) && ((hg k || decide (c.flags = 0)) && (hc k || decide (c.uniq = 0)) && (hb k || decide (c.by' = 0))))) := by
     unfold mayB
     rw [e1]; rfl
   refine C.cond false (by simp only [EV, t7]) (fun g => by cases g) fun _ => C.seq (C.mono (Q := fun e tm h' => e = .norm ∧ h' = h3 ∧ tg tm 1 = .pointer (some ⟨h.next, 0, none⟩) ∧ tg tm 3 = .int .i64 (hasN k) ∧ tg tm 20 = .bool (!(decide ((c.val.size : Int) ≤ 512) && (hv k || decide ((c.val.size : Int) = 0))))) (C.seq fun K hK => ?_) ?_)
   · by_cases g1 : 512 < (c.val.size : Int)
     · simp only [EV, r33_7, t1, ld3, hcell, lenStr_string, g1]
       refine hK .norm _ _ (C.ct (C.skip ⟨rfl, rfl, ?_, ?_, ?_⟩)) <;> simp only [seval, EV, t1, t3, dF (show ¬ (c.val.size : Int) ≤ 512 by omega), Bool.false_and]
     · simp only [EV, r33_7, t1, ld3, hcell, lenStr_string, g1]
       refine hK .norm _ _ (C.cf <| fun K hK => ?_)
       show r33_8 (CF L (n + 3)) L _ [] h3 K = true
       rw [regx21_8 hk12 ld3 (by simp only [seval, EV, t1]) (by simp only [seval, EV, t3])]
       refine hK .norm _ _ ⟨rfl, rfl, ?_, ?_, ?_⟩ <;> simp only [seval, EV, t1, t3, dT (show (c.val.size : Int) ≤ 512 by omega), Bool.true_and]
   rintro e tm4 h4 ⟨rfl, rfl, t1, t3, t20⟩
   cases e2 : (decide ((c.val.size : Int) ≤ 512) && (hv k || decide ((c.val.size : Int) = 0))) with
   | false =>
     rw [e2] at t20 m1
     refine C.cond true (by simp only [EV, t20]) (fun _ => C.seq fun K hK => ?_) fun g => by cases g
     simp only [r33_9]
     exact hK .norm _ _ (C.ret (fls kk m1 (by simp only [seval, EV])))
   | true =>
     rw [e2] at t20 m1
     rw [Bool.true_and] at m1
     refine C.cond false (by simp only [EV, t20]) (fun g => by cases g) fun _ => C.seq (C.mono (Q := fun e tm h' => e = .norm ∧ h' = h4 ∧ tg tm 1 = .pointer (some ⟨h.next, 0, none⟩) ∧ tg tm 3 = .int .i64 (hasN k) ∧ tg tm 33 = .bool (!(decide (0 ≤ c.fo) && decide (c.fo ≤ 1099511627776) && (hf k || decide (c.fo = 0))))) (C.seq fun K hK => ?_) ?_)
     · by_cases g1 : c.fo < 0
       · simp only [EV, r33_10, t1, ld3, hcell, g1]
         refine hK .norm _ _ (C.ct (C.skip ⟨rfl, rfl, ?_, ?_, ?_⟩)) <;> simp only [seval, EV, t1, t3, dF (show ¬ 0 ≤ c.fo by omega), Bool.false_and]
       · simp only [EV, r33_10, t1, ld3, hcell, g1]
         refine hK .norm _ _ (C.cf <| C.seq fun K hK => ?_)
         by_cases g2 : 1099511627776 < c.fo
         · simp only [seval, EV, r33_11, t1, ld3, hcell, g2]
           refine hK .norm _ _ (C.ct (C.skip ⟨rfl, rfl, ?_, ?_, ?_⟩)) <;> simp only [seval, EV, t1, t3, dF (show ¬ c.fo ≤ 1099511627776 by omega), Bool.false_and, Bool.and_false]
         · simp only [seval, EV, r33_11, t1, ld3, hcell, g2]
           refine hK .norm _ _ (C.cf <| fun K hK => ?_)
           show r33_12 (CF L (n + 3)) L _ [] h4 K = true
           rw [regx21_12 hk12 ld3 (by simp only [seval, EV, t1]) (by simp only [seval, EV, t3])]
           refine hK .norm _ _ ⟨rfl, rfl, ?_, ?_, ?_⟩ <;> simp only [seval, EV, t1, t3, dT (show 0 ≤ c.fo by omega), dT (show c.fo ≤ 1099511627776 by omega), Bool.true_and, Bool.and_true]
     rintro e tm5 h5 ⟨rfl, rfl, t1, t3, t33⟩
     cases e3 : (decide (0 ≤ c.fo) && decide (c.fo ≤ 1099511627776) && (hf k || decide (c.fo = 0))) with
     | false =>
       rw [e3] at t33 m1
       refine C.cond true (by simp only [EV, t33]) (fun _ => C.seq fun K hK => ?_) fun g => by cases g
       simp only [r33_13]
       exact hK .norm _ _ (C.ret (fls kk m1 (by simp only [seval, EV])))
     | true =>
       rw [e3] at t33 m1
       rw [Bool.true_and] at m1
       refine C.cond false (by simp only [EV, t33]) (fun g => by cases g) fun _ => C.skip (C.seq fun K hK => ?_)
       show r33_14 (CF L (n + 3)) L _ [] h5 K = true
       rw [regx21_14 hk12 ld3 t1 t3]
       refine hK .norm _ _ (C.ret ⟨.inr rfl, _, rfl, ?_, kk⟩)
       simp only [seval, EV, resOf, m1]
theorem check_law (L n : Nat) (hL : 1000 < L) {c : Cmd} {k : Nat} {h : H} (hkk : c.kind = (k : Int)) (hs : Strs h c.kv c.keys) (sl : c.keys.length ≤ 1000) :
   Sp (CF L (n + 5)) 22 [c.v] h fun r h' => r = .int .i64 (if mayB c k = true then 0 else 100) ∧ Keep nobody h h' := by
 refine Sp.body f22 (by simp) ?_
 unfold c22
 refine C.seq fun K hK => ?_
 have hcc : (Value.cells c.v).toList = c.cells := rfl
 simp only [seval, ↓EW, EV, r22_0, hcc]
 have k1 := Keep.new h (.rw c.cells (some 26))
 have b1 := Has.new h (.rw c.cells (some 26))
 have hs1 := hs.keep0 k1
 generalize h.new (.rw c.cells (some 26)) = h1 at *
 have lag : ∀ s, loadAgg 8 h1 (.pointer (some ⟨h.next, 0, s⟩)) = some c.v := fun s => loadAgg_has b1 rfl (by show 0 + 8 ≤ 8; omega)
 refine hK .norm _ _ (C.seq (C.seq fun K hK => ?_))
 simp only [seval, EV, r22_1, lag]
 refine may_law L n hL hkk hs1 sl _ fun r h2 hq => ?_
 obtain ⟨rfl, k2⟩ := hq
 cases hm : mayB c k with
 | false =>
   simp only [EV]
   refine hK .norm _ _ (C.ct (C.seq fun K hK => ?_))
   simp only [r22_2]
   refine hK .norm _ _ (C.ret ⟨.inr rfl, _, rfl, ?_, k1.then k2⟩)
   simp only [seval, EV, resOf, hm]
 | true =>
   simp only [EV]
   refine hK .norm _ _ (C.cf <| C.skip (C.seq fun K hK => ?_))
   simp only [r22_3]
   refine hK .norm _ _ (C.ret ⟨.inr rfl, _, rfl, ?_, k1.then k2⟩)
   simp only [seval, EV, resOf, hm]
section
variable {L n : Nat} {tm : T Value} {h : H} {b : Nat} {K : KE} {c : Cmd} {k : Nat} {call : CallT}
end
section
variable {L n : Nat} {tm : T Value} {h : H} {b : Nat} {K : KE} {c : Cmd} {k : Nat} {call : CallT}
theorem lag8 (hb : Has h b (.rw c.cells (some 26))) : ∀ s, loadAgg 8 h (.pointer (some ⟨b, 0, s⟩)) = some c.v := fun s => loadAgg_has hb rfl (by show 0 + 8 ≤ 8; omega)
end
end Go.Proofs.YtilpiiafjehbnaaGreatDoor
