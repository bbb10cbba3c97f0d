import Derived.Test.YthofbmfcpfibdaaDoorWuB
set_option linter.unusedSimpArgs false
set_option linter.unusedVariables false
namespace Go.Proofs.YthofbmfcpfibdaaDoor
open Go.Ev

/-! ### the first example -/
def x0 : Itm := ⟨strB [107], strB [97, 98], 7, 0, 3⟩
def gotB (B : Nat) : Ans := ⟨1, 1, ⟨1, .slice (some ⟨B, 0, none⟩) 1 1, 0, [x0]⟩, false, strB []⟩
theorem got_law (L n : Nat) (h : H) : Sp (CF L (n + 1)) 37 [] h fun r h' => ∃ B, r = (gotB B).v ∧ ItemsAt h' (gotB B).r.iv (gotB B).r.items ∧ B < h'.next ∧ Keep nobody h h' := by
  refine Sp.body f37 (by simp) ?_
  unfold c37
  refine C.seq fun K hK => ?_
  have hz : ∀ h : H, h.new (.rw [(.int .u8 (0)), (.int .u8 (0)), (.int .u8 (0)), (.slice none 0 0), (.int .u64 (0)), (.bool false), (.string (strB []))] (some 27)) = h.new (.rw zA.cells (some 27)) := fun _ => rfl
  have hzi : ∀ h : H, h.new (.rw [(.string (strB [])), (.string (strB [])), (.int .u32 (0)), (.int .i64 (0)), (.int .u64 (0))] (some 48)) = h.new (.rw zI.cells (some 48)) := fun _ => rfl
  have b0 := Has.new h (.rw zA.cells (some 27))
  have k0 := Keep.new h (.rw zA.cells (some 27))
  simp only [↓EW, EV, r37_0, hz]
  generalize h.new (.rw zA.cells (some 27)) = h1 at *
  refine hK _ _ _ (C.seq fun K hK => ?_)
  have f1 : aggO (fill [(.string (strB [])), (.string (strB [])), (.int .u32 (0)), (.int .i64 (0)), (.int .u64 (0))] (plc [(0, 1), (1, 1), (2, 1), (3, 1), (4, 1)]) [(0, (.string (strB [107]))), (1, (.string (strB [97, 98]))), (2, (.int .u32 (7))), (4, (.int .u64 (3)))]) = some x0.v := rfl
  have st5 : storeV 5 (h1.new (.rw zI.cells (some 48))) (.pointer (some ⟨h1.next, 0, none⟩)) x0.v = some ((h1.new (.rw zI.cells (some 48))).put h1.next (.rw x0.cells (some 48))) := put5 (Has.new _ _) rfl
  simp only [↓EW, EV, r37_1, f1, hzi, st5]
  have b1 := has_alloc h1 (.rw zI.cells (some 48)) (.rw x0.cells (some 48))
  have k1 := keep_alloc h1 (.rw zI.cells (some 48)) (.rw x0.cells (some 48))
  have b01 := b0.keep0 k1
  generalize (h1.new (.rw zI.cells (some 48))).put h1.next (.rw x0.cells (some 48)) = h2 at *
  generalize h1.next = B1 at *
  refine hK _ _ _ (C.seq fun K hK => ?_)
  have g5 := get5 (s := none) b1
  have b2 := Has.new h2 (.rw x0.cells (some 48))
  have k2 := Keep.new h2 (.rw x0.cells (some 48))
  have b02 := b01.keep0 k2
  have hlt : h.next < h2.next := b01.1
  have f2 : aggO (fill [(.int .u8 (0)), (.slice none 0 0), (.int .u64 (0))] (plc [(0, 1), (1, 1), (2, 1)]) [(0, (.int .u8 (1))), (1, .slice (some ⟨h2.next, 0, none⟩) 1 1)]) = some (.agg #[.int .u8 1, .slice (some ⟨h2.next, 0, none⟩) 1 1, .int .u64 0]) := rfl
  have f3 : aggO (fill [(.int .u8 (0)), (.int .u8 (0)), (.int .u8 (0)), (.slice none 0 0), (.int .u64 (0)), (.bool false), (.string (strB []))] (plc [(0, 1), (1, 1), (2, 3), (5, 1), (6, 1)]) [(0, (.int .u8 (1))), (1, (.int .u8 (1))), (2, (.agg #[.int .u8 1, .slice (some ⟨h2.next, 0, none⟩) 1 1, .int .u64 0]))]) = some (gotB h2.next).v := rfl
  have p7 := put7 (s := none) (a := gotB h2.next) b02 rfl rfl
  simp only [↓reduceIte, EV, Nat.reduceEqDiff, r37_2, g5, lit_item, f2, f3, p7]
  have b03 := Has.put (x := .rw (gotB h2.next).cells (some 27)) b02.1
  have b23 := has_other (y := .rw (gotB h2.next).cells (some 27)) b2 (show h2.next ≠ h.next by omega)
  have kk := put_keep (x := .rw (gotB h2.next).cells (some 27)) ((k0.then k1).then k2) (Nat.le_refl h.next)
  generalize (h2.new (.rw x0.cells (some 48))).put h.next (.rw (gotB h2.next).cells (some 27)) = h3 at *
  generalize h2.next = B at *
  refine hK _ _ _ (C.ret ⟨.inr rfl, [(gotB B).v], ?_, B, rfl, .inr ⟨B, 0, 1, _, _, rfl, b23, rfl, by show 0 + 5 * 1 ≤ 5; decide, rfl⟩, b23.1, kk⟩)
  simp only [↓reduceIte, EV, Nat.reduceEqDiff, q37, get7 b03]
theorem got_out (B : Nat) : outL (gotB B) = (strB [86, 65, 76, 85, 69, 32, 107, 32, 55, 32, 48, 32, 51, 32, 50, 13, 10, 97, 98, 13, 10, 69, 78, 68, 13, 10]).data.toList ∧ writeB (gotB B) = true := by
  have hw : writeB (gotB B) = true := rfl
  refine ⟨?_, hw⟩
  unfold outL
  rw [if_pos hw]
  have hl : linesL (gotB B) = (VAL ++ (32 :: [107] ++ (32 :: dec 7 ++ (32 :: dec 0 ++ (32 :: dec 3 ++ (32 :: dec 2 ++ []))))) ++ [13, 10] ++ [97, 98] ++ [13, 10] ++ []) ++ endW ++ [] := rfl
  rw [hl, dec_lo (show 7 < 10 by decide), dec_lo (show 0 < 10 by decide), dec_lo (show 3 < 10 by decide), dec_lo (show 2 < 10 by decide)]
  rfl
theorem alive_law (L n : Nat) (hL : 2000 ≤ L) {h : H} (hG : Has h 1 (.ro powC)) : Sp (CF L (n + 9)) 17 [] h fun r h' => r = .bool true ∧ Keep nobody h h' := by
  refine Sp.body f17 (by simp) ?_
  unfold c17
  refine C.seq fun K hK => hK .norm _ _ (C.seq fun K hK => ?_)
  rw [box_f]
  simp only [EV, r17_1]
  refine got_law L (n + 7) h _ fun r h1 hq => ?_
  obtain ⟨B, rfl, hi, hb, k1⟩ := hq
  obtain ⟨o1, o2⟩ := got_out B
  refine write_law L n hL (a := gotB B) ⟨by show 0 ≤ 1000; decide, by show 1 ≤ 40; decide, fun x hx => by
    have : x = x0 := by simpa [gotB] using hx
    subst this; decide⟩ ⟨⟨by show (0 : Int) ≤ 0; decide, by show (0 : Int) < 18446744073709551616; decide⟩, fun x hx => by
    have : x = x0 := by simpa [gotB] using hx
    subst this; exact ⟨by decide, by decide, by decide⟩⟩ hi (fun c hc => by
    have : B = c := by simpa [gotB] using hc
    omega) (hG.keep0 k1) _ fun r h2 hq => ?_
  obtain ⟨⟨v, rfl, rd⟩, k2⟩ := hq
  rw [o1] at rd
  have hs := rd.str
  have h0 : (if writeB (gotB B) = true then (0 : Int) else 8) = 0 := if_pos o2
  simp only [EV, tup2, h0]
  refine hK _ _ _ (C.seq fun K hK => ?_)
  have qs := str_same 9 true (strB [86, 65, 76, 85, 69, 32, 107, 32, 55, 32, 48, 32, 51, 32, 50, 13, 10, 97, 98, 13, 10, 69, 78, 68, 13, 10])
  have hs' : bytesStr h2 v = some (.string (strB [86, 65, 76, 85, 69, 32, 107, 32, 55, 32, 48, 32, 51, 32, 50, 13, 10, 97, 98, 13, 10, 69, 78, 68, 13, 10])) := hs
  simp only [↓opStep_eq, ↓reduceIte, ↓EW, EV, Nat.reduceEqDiff, r17_2, hs', qs]
  exact hK _ _ _ (C.ret ⟨.inr rfl, _, rfl, by simp only [↓reduceIte, EV, resOf], k1.then k2⟩)
end Go.Proofs.YthofbmfcpfibdaaDoor

namespace Go.Proofs.YthofbmfcpfibdaaDoor
open Go.Ev

theorem may_of_nat {a : Ans} (h : mayB a = true) : ((a.of.toNat : Nat) : Int) = a.of := by
  by_cases h1 : a.kind = 1
  · have := ((may_of h).one h1).1
    omega
  · unfold mayB bodyB zeroB at h
    simp only [if_neg h1, Bool.and_eq_true, decide_eq_true_eq] at h
    obtain ⟨⟨⟨_, ⟨⟨z1, _⟩, _⟩, _⟩, _⟩, _⟩ := h
    rw [z1]; rfl
theorem Got.items_eq {k : Nat} {G : Got} {a : Ans} (h : ∀ iv, withIv (G.a k) iv = withIv a iv) : (G.a k).r.items = a.r.items := by
  have := congrArg (fun x : Ans => x.r.items) (h (.slice Option.none 0 0))
  exact this
/-- THE LAW: what is written is read back -/
theorem back_law (L n : Nat) (hL : 2000 ≤ L) {a : Ans} {v : Value} {more : List UInt8} {h0 : H} {e : Value} {m : Int} (he : ErrC e) (hG : Has h0 5 (.ro [e])) (hM : Has h0 0 (.ro [.int .i64 m])) (hP : Has h0 1 (.ro powC)) (hf : a.fit) (hi : ItemsAt h0 a.r.iv a.r.items) (hlt : ∀ b, blk a.r.iv b → b < h0.next) (hones : ones a.r.cells = true) (hr : Rd h0 v more) :
    Sp (CF L (n + 10)) 6 [a.v, v] h0 fun r h' => r = .bool true := by
  refine Sp.body f6 (by simp) ?_
  unfold c6
  refine C.seq fun K hK => ?_
  have hc : (Value.cells a.v).toList = a.cells := rfl
  simp only [↓reduceIte, ↓EW, EV, Nat.reduceAdd, Nat.reduceEqDiff, r6_0, hc]
  have k1 := Keep.new h0 (.rw a.cells (some 27))
  have b1 := Has.new h0 (.rw a.cells (some 27))
  generalize h0.new (.rw a.cells (some 27)) = h1 at *
  refine hK _ _ _ (C.seq fun K hK => ?_)
  simp only [r6_1]
  refine alive_law L n hL (hP.keep0 k1) _ fun r h2 hq => ?_
  obtain ⟨rfl, k2⟩ := hq
  have k02 := k1.then k2
  have b2 := b1.keep0 k2
  refine hK _ _ _ (C.seq (C.seq fun K hK => ?_))
  have g2 := get7 (s := none) b2
  simp only [↓opStep_eq, ↓reduceIte, ↓EW, EV, Nat.reduceEqDiff, r6_2, g2]
  refine ref_long L (n + 8) a h2 (hi.keep0 k02) (by omega) _ fun r h3 hq => ?_
  obtain ⟨c, rfl, hsl, k3⟩ := hq
  have k03 := k02.then k3
  have b3 := b2.keep0 k3
  have hr3 := hr.keep0 k03
  have out : ∀ tm, tg tm 5 = .bool true → C ⟨seqC ⟨r6_3⟩ retC⟩ (CF L (n + 9)) L tm h3 fun e tm' h' => e = .ret ∧ ∃ l, q6.f tm' h' = some l ∧ resOf l = .bool true := fun tm t5 => by
    refine C.seq fun K hK => ?_
    simp only [r6_3, t5]
    exact hK _ _ _ (C.ret ⟨rfl, _, rfl, by simp only [↓reduceIte, EV, resOf]⟩)
  cases c with
  | true =>
    simp only [↓reduceIte, EV]
    refine hK _ _ _ (C.cond true (by simp only [↓reduceIte, EV]) (fun _ => (out _ (by simp only [↓reduceIte, EV, Nat.reduceEqDiff])).mono ?_) fun g => by cases g)
    rintro e tm' h' ⟨rfl, hq⟩
    exact ⟨.inr rfl, hq⟩
  | false =>
  by_cases g : (8000 : Int) < (more.length : Int)
  · simp only [↓reduceIte, EV, hr3.len, decide_eq_true g]
    refine hK _ _ _ (C.cond true (by simp only [↓reduceIte, EV]) (fun _ => (out _ (by simp only [↓reduceIte, EV, Nat.reduceEqDiff])).mono ?_) fun g => by cases g)
    rintro e tm' h' ⟨rfl, hq⟩
    exact ⟨.inr rfl, hq⟩
  simp only [↓reduceIte, EV, hr3.len, decide_eq_false g]
  refine hK _ _ _ (C.cond false (by simp only [↓reduceIte, EV]) (fun g => by cases g) fun _ => C.skip (C.seq fun K hK => ?_))
  clear out
  obtain ⟨s1, s2, s3⟩ := hsl rfl
  have sl : Slim L a := ⟨s1, s2, fun x hx => (s3 x hx).1⟩
  have g3 := get7 (s := none) b3
  simp only [↓reduceIte, EV, Nat.reduceEqDiff, r6_4, g3]
  refine write_law L (n + 1) hL sl hf (hi.keep0 k03) (fun b hb => Nat.lt_of_lt_of_le (hlt b hb) k03.next) (hP.keep0 k03) _ fun r h4 hq => ?_
  obtain ⟨⟨w, rfl, rd⟩, k4⟩ := hq
  have k04 := k03.then k4
  have b4 := b3.keep0 k4
  simp only [EV, tup2]
  refine hK _ _ _ (C.seq (C.seq fun K hK => ?_))
  cases hw : writeB a with
  | false =>
    have ho : outL a = [] := by unfold outL; rw [if_neg (by rw [hw]; simp)]
    rw [ho] at rd
    have rl := rd.len
    have d8 : (if false = true then (0 : Int) else 8) = 8 := rfl
    have dn : decide ((8 : Int) = 0) = false := rfl
    have rl' : lenSl w = some (.int .i64 0) := rl
    have d0 : decide ((0 : Int) = 0) = true := rfl
    simp only [↓reduceIte, EV, Int.reduceEq, r6_5]
    refine hK _ _ _ (C.cond true (by simp only [↓reduceIte, EV]) (fun _ => C.seq fun K hK => ?_) fun g => by cases g)
    simp only [↓reduceIte, EV, Nat.reduceEqDiff, r6_6, rl']
    exact hK _ _ _ (C.ret ⟨.inr rfl, _, rfl, by simp only [↓reduceIte, EV, resOf]⟩)
  | true =>
    have ho : outL a = linesL a ++ [13, 10] := by unfold outL; rw [if_pos hw]
    have hmy : mayB a = true := by
      unfold writeB at hw
      exact (Bool.and_eq_true _ _ ▸ hw : _ ∧ _).1
    have hlen := linesL_len (may_of hmy) hf
    rw [ho] at rd
    have hlen2 : (linesL a ++ [13, 10]).length ≤ 7002 := by simp only [List.length_append, List.length_cons, List.length_nil]; omega
    have bp := back_plain hw hf more (by omega)
    have hk := may_of_nat hmy
    generalize hout : linesL a ++ [13, 10] = out at *
    have d0 : (if true = true then (0 : Int) else 8) = 0 := rfl
    have dn : decide ((0 : Int) = 0) = true := rfl
    simp only [↓reduceIte, EV, r6_5]
    refine hK _ _ _ (C.cond false (by simp only [↓reduceIte, EV]) (fun g => by cases g) fun _ => C.skip (C.seq fun K hK => ?_))
    simp only [↓reduceIte, EV, Nat.reduceEqDiff, r6_7, rd.len]
    refine hK _ _ _ (C.seq fun K hK => hK .norm _ _ (C.seq fun K hK => ?_))
    obtain ⟨w5, h5, e5, m5, k5, f5⟩ := append_own (e := 5) (h := h4) (v := .slice none 0 0) (x := w) (l := []) (m := out) .nil rd.src (by simp; omega)
    rw [List.nil_append] at m5
    have k5' : Keep nobody h4 h5 := k5.mono fun b _ hb => by simp at hb
    have k05 := k04.then k5'
    simp only [↓reduceIte, EV, Nat.reduceEqDiff, r6_9, e5]
    refine hK _ _ _ (C.seq fun K hK => ?_)
    obtain ⟨w6, h6, e6, m6, k6, _⟩ := append_own (e := 5) (h := h5) (v := w5) (x := v) (l := out) (m := more) m5 (hr.keep0 k05).reads.src (by omega)
    have f5' : ∀ b, blk w5 b → h4.next ≤ b := fun b hb => (f5 b hb).resolve_left fun h => by simp at h
    have k6' : Keep nobody h4 h6 := k5'.trans k6 fun b hb hc => by have := f5' b hc; omega
    have k06 := k04.then k6'
    have b6 := b4.keep0 k6'
    simp only [↓reduceIte, EV, Nat.reduceEqDiff, r6_10, e6]
    refine hK _ _ _ (C.seq fun K hK => ?_)
    have rd6 := rd_of_mine m6 (by rw [List.length_append]; omega)
    have ld : ∀ s, loadOne h6 (.pointer (some ⟨h0.next, 1, s⟩)) = some (.int .u8 ((a.of.toNat : Nat) : Int)) := fun s => by
      rw [loadOne_has b6 rfl, hk]; rfl
    simp only [↓reduceIte, ↓EW, EV, Nat.reduceEqDiff, r6_11, ld]
    refine read13_law L (n + 1) hL (k := a.of.toNat) he (hG.keep0 k06) (hM.keep0 k06) rd6 (by rw [List.length_append]; omega) _ fun r h7 hq => ?_
    obtain ⟨gv, k7⟩ := hq
    obtain ⟨iv, rfl, mi, h8⟩ := gv.all (all_ok _ _)
    obtain ⟨p1, p2, p3⟩ := bp _ rfl
    have hit := Got.items_eq p3
    rw [p3 iv, p1, p2]
    generalize readAll a.of.toNat (out ++ more) = G at *
    have t3 : ∀ (x y z : Value) i, tupNth i (.tuple #[x, y, z]) = [x, y, z][i]? := fun x y z i => tupNth_tuple i [x, y, z]
    have s7 : storeV 7 (h7.new (.rw [(.int .u8 (0)), (.int .u8 (0)), (.int .u8 (0)), (.slice none 0 0), (.int .u64 (0)), (.bool false), (.string (strB []))] (some 27))) (.pointer (some ⟨h7.next, 0, none⟩)) (withIv a iv).v = some ((h7.new (.rw zA.cells (some 27))).put h7.next (.rw (withIv a iv).cells (some 27))) := put7 (Has.new _ _) rfl (ones_iv mi)
    simp only [EV, t3, s7]
    have k8 := keep_alloc h7 (.rw zA.cells (some 27)) (.rw (withIv a iv).cells (some 27))
    have b10 := has_alloc h7 (.rw zA.cells (some 27)) (.rw (withIv a iv).cells (some 27))
    have i1 := (mi.keep0 k8).items
    generalize (h7.new (.rw zA.cells (some 27))).put h7.next (.rw (withIv a iv).cells (some 27)) = h8' at *
    have k08 := (k06.then k7).then k8
    have b28 := (b6.keep0 k7).keep0 k8
    have i2 := hi.keep0 k08
    refine hK _ _ _ (C.seq fun K hK => ?_)
    have la1 := get7 (s := none) b10
    have la2 := get7 (s := none) b28
    have d2 : decide ((out.length : Int) = (out.length : Int)) = true := decide_eq_true rfl
    rw [hit] at i1
    have hs : Sp (CF L (n + 9)) 15 [(withIv a iv).v, a.v] h8' fun r h' => r = .bool true ∧ Keep nobody h8' h' := ans_same L (n + 7) a iv a.r.iv h8' i1 i2 (by omega) (by omega)
    simp only [↓opStep_eq, ↓reduceIte, ↓EW, EV, Nat.reduceEqDiff, r6_12, la1, la2]
    refine hs _ fun r h9 hv => ?_
    obtain ⟨rfl, k9⟩ := hv
    exact hK _ _ _ (C.ret ⟨.inr rfl, _, rfl, by simp only [↓reduceIte, EV, resOf]⟩)
end Go.Proofs.YthofbmfcpfibdaaDoor

set_option maxRecDepth 100000
namespace Go.Proofs.YthofbmfcpfibdaaDoor
open Go.Ev Go.RowKit

/-- a variable that the row lists -/
theorem laid_var {P : Program} {w : World} {n : String} {d : DataW Unit} : ∀ {l : List (String × DataW Unit)} {ps : List MemPlace}, DataW.LaidVars P w l ps → (n, d) ∈ l →
    ∃ g t cs fuel p, P.globalNamed n = some g ∧ (P.globals[g]?).map (·.type) = some t ∧ w.var? P n = some cs ∧ DataW.trod (fun _ => ()) P w 0 (fun _ => true) false fuel t cs.toList = some (d, p)
  | [], _, _, hm => by cases hm
  | (n', d') :: r, ps, h, hm => by
    obtain ⟨g, t, cs, fuel, p, q, h1, h2, h3, h4, h5, _⟩ := h
    rcases List.mem_cons.1 hm with e | hm
    · cases e; exact ⟨g, t, cs, fuel, p, h1, h2, h3, h4⟩
    · exact laid_var h5 hm
def powZ : List Int := (List.range 20).map fun i => ((10 ^ i : Nat) : Int)
theorem powZ_lay : (Rows.laid_internal_strconv_uint64pow10 : DataW Unit) = .agg (powZ.map fun n => .lit (.int .u64 n)) := by kernel_rfl
theorem u127 : Tryd.prog.underlying 127 = some (.array 20 23) := by kernel_rfl
/-- what the condition gives: the powers of ten -/
theorem pow_cell {W : World} {l : List (String × DataW Unit)} (hl : (l.all fun x => x.2.handleName?.isNone) = true) (hm : ("internal/strconv.uint64pow10", Rows.laid_internal_strconv_uint64pow10) ∈ l) (h : laidMetH Tryd.prog l W) (r : Nat) (hr : r < 20) : W.cell? ⟨1, r, none⟩ = some (.int .u64 ((10 ^ r : Nat) : Int)) := by
  rw [MakeChecks.laidMetH_plain _ _ _ hl] at h
  obtain ⟨ps, hv, _, _⟩ := h
  obtain ⟨g, t, cs, fuel, p, hg, ht, hv, hd⟩ := laid_var hv hm
  obtain rfl := Option.some.inj ((show Tryd.prog.globalNamed "internal/strconv.uint64pow10" = some 1 by kernel_rfl).symm.trans hg)
  obtain rfl := Option.some.inj ((show (Tryd.prog.globals[1]?).map (·.type) = some 127 by kernel_rfl).symm.trans ht)
  obtain ⟨xs, m, _, ex, _, hl, hel⟩ := DataW.trod_array u127 hd
  have hE := hel r hr
  rw [s23, Nat.mul_one, List.getElem?_eq_getElem (by omega)] at hE
  obtain ⟨z, e1, e2, _⟩ := DataW.trod_int u23 hE
  have hlen : powZ.length = 20 := by simp [powZ]
  rw [powZ_lay] at ex
  have e3 : (xs.map (·.1)) = powZ.map fun n => .lit (.int .u64 n) := (DataW.agg.inj (Prod.mk.inj ex).1).symm
  have e4 : (xs.map (·.1))[r]? = (powZ.map fun n => (DataW.lit (.int .u64 n) : DataW Unit))[r]? := by rw [e3]
  rw [List.getElem?_map, List.getElem?_map, List.getElem?_eq_getElem (by omega : r < xs.length), List.getElem?_eq_getElem (by omega : r < powZ.length), e2] at e4
  have hz : z = ((10 ^ r : Nat) : Int) := by
    simp only [Option.map_some, Option.some.injEq, DataW.lit.injEq, Lit.int.injEq, true_and] at e4
    rw [e4]
    unfold powZ
    rw [List.getElem_map, List.getElem_range]
  rw [World.var?_cell hg hv r, ← hz]
  have : cs.toList[r]? = some (.int .u64 z) := by
    have h0 : ((cs.toList.drop r).take 1)[0]? = some (.int .u64 z) := by rw [e1]; rfl
    simpa using h0
  simpa using this

theorem pow_ros {W : World} (hc : ∀ r, r < 20 → W.cell? ⟨1, r, none⟩ = some (.int .u64 ((10 ^ r : Nat) : Int))) : RosOk W (powC, ⟨1, 0, 0, 0⟩) := by
  have hb := World.block_lt_of_cell? W _ (hc 0 (by omega))
  refine ⟨hb, fun j v hj => ?_⟩
  have hj' : j < 20 := by
    have := (List.getElem?_eq_some_iff.1 hj).1
    simpa [powC] using this
  rw [powC_at hj'] at hj
  cases hj
  exact ⟨by simpa using hc j hj', rfl⟩
def glP (m : Int) (a : Addr) : Ros := [some ([.int .i64 m], ⟨0, 0, 0, 0⟩), some (powC, ⟨1, 0, 0, 0⟩), some ([], ⟨2, 0, 0, 0⟩), some ([], ⟨3, 0, 0, 0⟩), some ([], ⟨4, 0, 0, 0⟩), some ([.iface 147 (.pointer (some ⟨6, 0, none⟩))], ⟨5, 0, 0, 0⟩), some ([], ⟨a.block, a.off, 0, 0⟩)]
theorem glP_rel {W : World} {m : Int} {a : Addr} (h0 : W.cell? ⟨0, 0, none⟩ = some (.int .i64 m)) (hc : ∀ r, r < 20 → W.cell? ⟨1, r, none⟩ = some (.int .u64 ((10 ^ r : Nat) : Int))) (h5 : W.cell? ⟨5, 0, none⟩ = some (.iface 147 (.pointer (some a)))) (hs : a.spot = none) (hb : a.block < W.heap.size) (bs : Ros) (hv : ∀ p, some p ∈ bs → RosOk W p) :
    Rel (rosσ (glP m a ++ bs)) (rosH (glP m a ++ bs)) W := by
  have l5 := World.block_lt_of_cell? W _ h5
  have l5' : 5 < W.heap.size := l5
  have e6 : rosσ (glP m a ++ bs) 6 = some ⟨a.block, a.off, 0, 0⟩ := rfl
  refine ros_relV fun p hp => ?_
  rcases List.mem_append.1 hp with hp | hp
  · simp only [glP, List.mem_cons, List.not_mem_nil, or_false, Option.some.injEq] at hp
    rcases hp with rfl | rfl | rfl | rfl | rfl | rfl | rfl
    · refine ⟨by show 0 < _; omega, fun j v hj => ?_⟩
      match j, hj with
      | 0, hj => simp at hj; subst hj; exact ⟨_, h0, .int _ _⟩
      | j + 1, hj => simp at hj
    · exact ros_cst (pow_ros hc)
    · exact ⟨by show 2 < _; omega, fun j v hj => by cases hj⟩
    · exact ⟨by show 3 < _; omega, fun j v hj => by cases hj⟩
    · exact ⟨by show 4 < _; omega, fun j v hj => by cases hj⟩
    · refine ⟨by show 5 < _; omega, fun j v hj => ?_⟩
      match j, hj with
      | 0, hj =>
        simp at hj; subst hj
        refine ⟨_, h5, .iface _ _ _ ?_⟩
        have := VR.ptr (σ := rosσ (glP m a ++ bs)) 6 0 _ e6
        obtain ⟨ab, ao, asp⟩ := a
        simp only at hs
        subst hs
        exact this
      | j + 1, hj => simp at hj
    · exact ⟨hb, fun j v hj => by cases hj⟩
  · exact ros_cst (hv p hp)
theorem glP_glob (m : Int) (a : Addr) (bs : Ros) : Glob (rosσ (glP m a ++ bs)) NG := fun g hg => by
  have hg' : g < 6 := hg
  rcases (show g = 0 ∨ g = 1 ∨ g = 2 ∨ g = 3 ∨ g = 4 ∨ g = 5 by omega) with rfl | rfl | rfl | rfl | rfl | rfl <;> exact ⟨_, rfl, rfl, rfl⟩

section
variable {H : Type} {enc : TypeId × Value → H}
/-- the walk -/
theorem wordsBack_walk {W : World} {m : Int} {a : Addr} (c0 : W.cell? ⟨0, 0, none⟩ = some (.int .i64 m)) (hc : ∀ r, r < 20 → W.cell? ⟨1, r, none⟩ = some (.int .u64 ((10 ^ r : Nat) : Int))) (c5 : W.cell? ⟨5, 0, none⟩ = some (.iface 147 (.pointer (some a)))) (hs : a.spot = none) (hb : a.block < W.heap.size) {n1 n2 : Nat} {v1 v2 : Value} {x1 x2 : DataW H × List MemPlace} (hok1 : Value.okWide Tryd.prog W .any 0 27 v1) (h1 : DataW.trod enc Tryd.prog W 0 (fun _ => true) true n1 27 v1.cells.toList = some x1)
    (hok2 : Value.okWide Tryd.prog W .any 0 29 v2) (h2 : DataW.trod enc Tryd.prog W 0 (fun _ => true) true n2 29 v2.cells.toList = some x2) :
    Calls Tryd.prog 6 #[v1, v2] W fun e W' => e = .returned (.bool true) ∧ Below W.heap.size W W' := by
  obtain ⟨o1, p1, q1⟩ := answer_at hok1 h1
  obtain ⟨o2, p2, q2⟩ := bytes_at hok2 h2
  have r := glP_rel (m := m) (a := a) c0 hc c5 hs hb [o1, o2] fun p' hp => by
    simp only [List.mem_cons, List.not_mem_nil, or_false] at hp
    rcases hp with hp | hp
    · exact p1 p' hp.symm
    · exact p2 p' hp.symm
  have g0 := ros_has (bs := glP m a ++ [o1, o2]) (B := 0) (p := ([.int .i64 m], ⟨0, 0, 0, 0⟩)) rfl
  have g1 := ros_has (bs := glP m a ++ [o1, o2]) (B := 1) (p := (powC, ⟨1, 0, 0, 0⟩)) rfl
  have g5 := ros_has (bs := glP m a ++ [o1, o2]) (B := 5) (p := ([.iface 147 (.pointer (some ⟨6, 0, none⟩))], ⟨5, 0, 0, 0⟩)) rfl
  obtain ⟨w, hf, hi, hones, va⟩ := q1 7 (rosσ (glP m a ++ [o1, o2])) (rosH (glP m a ++ [o1, o2])) fun p hp => ros_has (by rw [hp]; rfl)
  obtain ⟨v', l, hr, vb⟩ := q2 8 (rosσ (glP m a ++ [o1, o2])) (rosH (glP m a ++ [o1, o2])) fun p hp => ros_has (by rw [hp]; rfl)
  have hlt : ∀ b, blk w.r.iv b → b < (rosH (glP m a ++ [o1, o2])).next := fun b hb => by
    rcases hi with ⟨e, _⟩ | ⟨b', o', c, x, cs, e, hx, _⟩
    · rw [e] at hb; simp at hb
    · rw [e] at hb; simp at hb; subst hb; exact hx.1
  exact calls_of_sp gor Tryd.checked.mixed xok Tryd.func6 (by kernel_rfl) (back_law 2000 0 (by decide) err_ok g5.1 g0.1 g1.1 hf hi hlt hones hr) r (glP_glob m a [o1, o2]) (.cons va (.cons vb (.nil _))) ros_ro
end
end Go.Proofs.YthofbmfcpfibdaaDoor
