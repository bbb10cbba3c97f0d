import Derived.Test.YthofbmfcpfibdaaDoorWuB
set_option linter.unusedSimpArgs false
set_option linter.unusedVariables false
namespace Go.Proofs.YthofbmfcpfibdaaDoor
open Go.Ev

/-! ### the first example -/
def x0 : Itm := ⟨strB [107], strB [97, 98], 7, 0, 3⟩
def gotB (B : Nat) : Ans := ⟨1, 1, ⟨1, .slice (some ⟨B, 0, none⟩) 1 1, 0, [x0]⟩, false, strB []⟩
theorem got_law (L n : Nat) (h : H) : Sp (CF L (n + 1)) 37 [] h fun r h' => ∃ B, r = (gotB B).v ∧ ItemsAt h' (gotB B).r.iv (gotB B).r.items ∧ B < h'.next ∧ Keep nobody h h' := by
  refine Sp.body f37 (by simp) ?_
  unfold c37
  refine C.seq fun K hK => ?_
  have hz : ∀ h : H, h.new (.rw [(.int .u8 (0)), (.int .u8 (0)), (.int .u8 (0)), (.slice none 0 0), (.int .u64 (0)), (.bool false), (.string (strB []))] (some 27)) = h.new (.rw zA.cells (some 27)) := fun _ => rfl
  have hzi : ∀ h : H, h.new (.rw [(.string (strB [])), (.string (strB [])), (.int .u32 (0)), (.int .i64 (0)), (.int .u64 (0))] (some 48)) = h.new (.rw zI.cells (some 48)) := fun _ => rfl
  have b0 := Has.new h (.rw zA.cells (some 27))
  have k0 := Keep.new h (.rw zA.cells (some 27))
  simp only [↓EW, EV, r37_0, hz]
  generalize h.new (.rw zA.cells (some 27)) = h1 at *
  refine hK _ _ _ (C.seq fun K hK => ?_)
  have f1 : aggO (fill [(.string (strB [])), (.string (strB [])), (.int .u32 (0)), (.int .i64 (0)), (.int .u64 (0))] (plc [(0, 1), (1, 1), (2, 1), (3, 1), (4, 1)]) [(0, (.string (strB [107]))), (1, (.string (strB [97, 98]))), (2, (.int .u32 (7))), (4, (.int .u64 (3)))]) = some x0.v := rfl
  have st5 : storeV 5 (h1.new (.rw zI.cells (some 48))) (.pointer (some ⟨h1.next, 0, none⟩)) x0.v = some ((h1.new (.rw zI.cells (some 48))).put h1.next (.rw x0.cells (some 48))) := put5 (Has.new _ _) rfl
  simp only [↓EW, EV, r37_1, f1, hzi, st5]
  have b1 := has_alloc h1 (.rw zI.cells (some 48)) (.rw x0.cells (some 48))
  have k1 := keep_alloc h1 (.rw zI.cells (some 48)) (.rw x0.cells (some 48))
  have b01 := b0.keep0 k1
  generalize (h1.new (.rw zI.cells (some 48))).put h1.next (.rw x0.cells (some 48)) = h2 at *
  generalize h1.next = B1 at *
  refine hK _ _ _ (C.seq fun K hK => ?_)
  have g5 := get5 (s := none) b1
  have b2 := Has.new h2 (.rw x0.cells (some 48))
  have k2 := Keep.new h2 (.rw x0.cells (some 48))
  have b02 := b01.keep0 k2
  have hlt : h.next < h2.next := b01.1
  have f2 : aggO (fill [(.int .u8 (0)), (.slice none 0 0), (.int .u64 (0))] (plc [(0, 1), (1, 1), (2, 1)]) [(0, (.int .u8 (1))), (1, .slice (some ⟨h2.next, 0, none⟩) 1 1)]) = some (.agg #[.int .u8 1, .slice (some ⟨h2.next, 0, none⟩) 1 1, .int .u64 0]) := rfl
  have f3 : aggO (fill [(.int .u8 (0)), (.int .u8 (0)), (.int .u8 (0)), (.slice none 0 0), (.int .u64 (0)), (.bool false), (.string (strB []))] (plc [(0, 1), (1, 1), (2, 3), (5, 1), (6, 1)]) [(0, (.int .u8 (1))), (1, (.int .u8 (1))), (2, (.agg #[.int .u8 1, .slice (some ⟨h2.next, 0, none⟩) 1 1, .int .u64 0]))]) = some (gotB h2.next).v := rfl
  have p7 := put7 (s := none) (a := gotB h2.next) b02 rfl rfl
  simp only [↓reduceIte, EV, Nat.reduceEqDiff, r37_2, g5, lit_item, f2, f3, p7]
  have b03 := Has.put (x := .rw (gotB h2.next).cells (some 27)) b02.1
  have b23 := has_other (y := .rw (gotB h2.next).cells (some 27)) b2 (show h2.next ≠ h.next by omega)
  have kk := put_keep (x := .rw (gotB h2.next).cells (some 27)) ((k0.then k1).then k2) (Nat.le_refl h.next)
  generalize (h2.new (.rw x0.cells (some 48))).put h.next (.rw (gotB h2.next).cells (some 27)) = h3 at *
  generalize h2.next = B at *
  refine hK _ _ _ (C.ret ⟨.inr rfl, [(gotB B).v], ?_, B, rfl, .inr ⟨B, 0, 1, _, _, rfl, b23, rfl, by show 0 + 5 * 1 ≤ 5; decide, rfl⟩, b23.1, kk⟩)
  simp only [↓reduceIte, EV, Nat.reduceEqDiff, q37, get7 b03]
theorem got_out (B : Nat) : outL (gotB B) = (strB [86, 65, 76, 85, 69, 32, 107, 32, 55, 32, 48, 32, 51, 32, 50, 13, 10, 97, 98, 13, 10, 69, 78, 68, 13, 10]).data.toList ∧ writeB (gotB B) = true := by
  have hw : writeB (gotB B) = true := rfl
  refine ⟨?_, hw⟩
  unfold outL
  rw [if_pos hw]
  have hl : linesL (gotB B) = (VAL ++ (32 :: [107] ++ (32 :: dec 7 ++ (32 :: dec 0 ++ (32 :: dec 3 ++ (32 :: dec 2 ++ []))))) ++ [13, 10] ++ [97, 98] ++ [13, 10] ++ []) ++ endW ++ [] := rfl
  rw [hl, dec_lo (show 7 < 10 by decide), dec_lo (show 0 < 10 by decide), dec_lo (show 3 < 10 by decide), dec_lo (show 2 < 10 by decide)]
  rfl
theorem alive_law (L n : Nat) (hL : 2000 ≤ L) {h : H} (hG : Has h 1 (.ro powC)) : Sp (CF L (n + 9)) 17 [] h fun r h' => r = .bool true ∧ Keep nobody h h' := by
  refine Sp.body f17 (by simp) ?_
  unfold c17
  refine C.seq fun K hK => hK .norm _ _ (C.seq fun K hK => ?_)
  rw [box_f]
  simp only [EV, r17_1]
  refine got_law L (n + 7) h _ fun r h1 hq => ?_
  obtain ⟨B, rfl, hi, hb, k1⟩ := hq
  obtain ⟨o1, o2⟩ := got_out B
  refine write_law L n hL (a := gotB B) ⟨by show 0 ≤ 1000; decide, by show 1 ≤ 40; decide, fun x hx => by
    have : x = x0 := by simpa [gotB] using hx
    subst this; decide⟩ ⟨⟨by show (0 : Int) ≤ 0; decide, by show (0 : Int) < 18446744073709551616; decide⟩, fun x hx => by
    have : x = x0 := by simpa [gotB] using hx
    subst this; exact ⟨by decide, by decide, by decide⟩⟩ hi (fun c hc => by
    have : B = c := by simpa [gotB] using hc
    omega) (hG.keep0 k1) _ fun r h2 hq => ?_
  obtain ⟨⟨v, rfl, rd⟩, k2⟩ := hq
  rw [o1] at rd
  have hs := rd.str
  have h0 : (if writeB (gotB B) = true then (0 : Int) else 8) = 0 := if_pos o2
  simp only [EV, tup2, h0]
  refine hK _ _ _ (C.seq fun K hK => ?_)
  have qs := str_same 9 true (strB [86, 65, 76, 85, 69, 32, 107, 32, 55, 32, 48, 32, 51, 32, 50, 13, 10, 97, 98, 13, 10, 69, 78, 68, 13, 10])
  have hs' : bytesStr h2 v = some (.string (strB [86, 65, 76, 85, 69, 32, 107, 32, 55, 32, 48, 32, 51, 32, 50, 13, 10, 97, 98, 13, 10, 69, 78, 68, 13, 10])) := hs
  simp only [↓opStep_eq, ↓reduceIte, ↓EW, EV, Nat.reduceEqDiff, r17_2, hs', qs]
  exact hK _ _ _ (C.ret ⟨.inr rfl, _, rfl, by simp only [↓reduceIte, EV, resOf], k1.then k2⟩)
end Go.Proofs.YthofbmfcpfibdaaDoor

namespace Go.Proofs.YthofbmfcpfibdaaDoor
open Go.Ev

end Go.Proofs.YthofbmfcpfibdaaDoor

set_option maxRecDepth 100000
namespace Go.Proofs.YthofbmfcpfibdaaDoor
open Go.Ev Go.RowKit

/-- a variable that the row lists -/
theorem laid_var {P : Program} {w : World} {n : String} {d : DataW Unit} : ∀ {l : List (String × DataW Unit)} {ps : List MemPlace}, DataW.LaidVars P w l ps → (n, d) ∈ l →
    ∃ g t cs fuel p, P.globalNamed n = some g ∧ (P.globals[g]?).map (·.type) = some t ∧ w.var? P n = some cs ∧ DataW.trod (fun _ => ()) P w 0 (fun _ => true) false fuel t cs.toList = some (d, p)
  | [], _, _, hm => by cases hm
  | (n', d') :: r, ps, h, hm => by
    obtain ⟨g, t, cs, fuel, p, q, h1, h2, h3, h4, h5, _⟩ := h
    rcases List.mem_cons.1 hm with e | hm
    · cases e; exact ⟨g, t, cs, fuel, p, h1, h2, h3, h4⟩
    · exact laid_var h5 hm
def powZ : List Int := (List.range 20).map fun i => ((10 ^ i : Nat) : Int)
theorem powZ_lay : (Rows.laid_internal_strconv_uint64pow10 : DataW Unit) = .agg (powZ.map fun n => .lit (.int .u64 n)) := by kernel_rfl
theorem u127 : Tryd.prog.underlying 127 = some (.array 20 23) := by kernel_rfl
/-- what the condition gives: the powers of ten -/
theorem pow_cell {W : World} {l : List (String × DataW Unit)} (hl : (l.all fun x => x.2.handleName?.isNone) = true) (hm : ("internal/strconv.uint64pow10", Rows.laid_internal_strconv_uint64pow10) ∈ l) (h : laidMetH Tryd.prog l W) (r : Nat) (hr : r < 20) : W.cell? ⟨1, r, none⟩ = some (.int .u64 ((10 ^ r : Nat) : Int)) := by
  rw [MakeChecks.laidMetH_plain _ _ _ hl] at h
  obtain ⟨ps, hv, _, _⟩ := h
  obtain ⟨g, t, cs, fuel, p, hg, ht, hv, hd⟩ := laid_var hv hm
  obtain rfl := Option.some.inj ((show Tryd.prog.globalNamed "internal/strconv.uint64pow10" = some 1 by kernel_rfl).symm.trans hg)
  obtain rfl := Option.some.inj ((show (Tryd.prog.globals[1]?).map (·.type) = some 127 by kernel_rfl).symm.trans ht)
  obtain ⟨xs, m, _, ex, _, hl, hel⟩ := DataW.trod_array u127 hd
  have hE := hel r hr
  rw [s23, Nat.mul_one, List.getElem?_eq_getElem (by omega)] at hE
  obtain ⟨z, e1, e2, _⟩ := DataW.trod_int u23 hE
  have hlen : powZ.length = 20 := by simp [powZ]
  rw [powZ_lay] at ex
  have e3 : (xs.map (·.1)) = powZ.map fun n => .lit (.int .u64 n) := (DataW.agg.inj (Prod.mk.inj ex).1).symm
  have e4 : (xs.map (·.1))[r]? = (powZ.map fun n => (DataW.lit (.int .u64 n) : DataW Unit))[r]? := by rw [e3]
  rw [List.getElem?_map, List.getElem?_map, List.getElem?_eq_getElem (by omega : r < xs.length), List.getElem?_eq_getElem (by omega : r < powZ.length), e2] at e4
  have hz : z = ((10 ^ r : Nat) : Int) := by
    simp only [Option.map_some, Option.some.injEq, DataW.lit.injEq, Lit.int.injEq, true_and] at e4
    rw [e4]
    unfold powZ
    rw [List.getElem_map, List.getElem_range]
  rw [World.var?_cell hg hv r, ← hz]
  have : cs.toList[r]? = some (.int .u64 z) := by
    have h0 : ((cs.toList.drop r).take 1)[0]? = some (.int .u64 z) := by rw [e1]; rfl
    simpa using h0
  simpa using this

theorem pow_ros {W : World} (hc : ∀ r, r < 20 → W.cell? ⟨1, r, none⟩ = some (.int .u64 ((10 ^ r : Nat) : Int))) : RosOk W (powC, ⟨1, 0, 0, 0⟩) := by
  have hb := World.block_lt_of_cell? W _ (hc 0 (by omega))
  refine ⟨hb, fun j v hj => ?_⟩
  have hj' : j < 20 := by
    have := (List.getElem?_eq_some_iff.1 hj).1
    simpa [powC] using this
  rw [powC_at hj'] at hj
  cases hj
  exact ⟨by simpa using hc j hj', rfl⟩
def glP (m : Int) (a : Addr) : Ros := [some ([.int .i64 m], ⟨0, 0, 0, 0⟩), some (powC, ⟨1, 0, 0, 0⟩), some ([], ⟨2, 0, 0, 0⟩), some ([], ⟨3, 0, 0, 0⟩), some ([], ⟨4, 0, 0, 0⟩), some ([.iface 147 (.pointer (some ⟨6, 0, none⟩))], ⟨5, 0, 0, 0⟩), some ([], ⟨a.block, a.off, 0, 0⟩)]
theorem glP_rel {W : World} {m : Int} {a : Addr} (h0 : W.cell? ⟨0, 0, none⟩ = some (.int .i64 m)) (hc : ∀ r, r < 20 → W.cell? ⟨1, r, none⟩ = some (.int .u64 ((10 ^ r : Nat) : Int))) (h5 : W.cell? ⟨5, 0, none⟩ = some (.iface 147 (.pointer (some a)))) (hs : a.spot = none) (hb : a.block < W.heap.size) (bs : Ros) (hv : ∀ p, some p ∈ bs → RosOk W p) :
    Rel (rosσ (glP m a ++ bs)) (rosH (glP m a ++ bs)) W := by
  have l5 := World.block_lt_of_cell? W _ h5
  have l5' : 5 < W.heap.size := l5
  have e6 : rosσ (glP m a ++ bs) 6 = some ⟨a.block, a.off, 0, 0⟩ := rfl
  refine ros_relV fun p hp => ?_
  rcases List.mem_append.1 hp with hp | hp
  · simp only [glP, List.mem_cons, List.not_mem_nil, or_false, Option.some.injEq] at hp
    rcases hp with rfl | rfl | rfl | rfl | rfl | rfl | rfl
    · refine ⟨by show 0 < _; omega, fun j v hj => ?_⟩
      match j, hj with
      | 0, hj => simp at hj; subst hj; exact ⟨_, h0, .int _ _⟩
      | j + 1, hj => simp at hj
    · exact ros_cst (pow_ros hc)
    · exact ⟨by show 2 < _; omega, fun j v hj => by cases hj⟩
    · exact ⟨by show 3 < _; omega, fun j v hj => by cases hj⟩
    · exact ⟨by show 4 < _; omega, fun j v hj => by cases hj⟩
    · refine ⟨by show 5 < _; omega, fun j v hj => ?_⟩
      match j, hj with
      | 0, hj =>
        simp at hj; subst hj
        refine ⟨_, h5, .iface _ _ _ ?_⟩
        have := VR.ptr (σ := rosσ (glP m a ++ bs)) 6 0 _ e6
        obtain ⟨ab, ao, asp⟩ := a
        simp only at hs
        subst hs
        exact this
      | j + 1, hj => simp at hj
    · exact ⟨hb, fun j v hj => by cases hj⟩
  · exact ros_cst (hv p hp)
theorem glP_glob (m : Int) (a : Addr) (bs : Ros) : Glob (rosσ (glP m a ++ bs)) NG := fun g hg => by
  have hg' : g < 6 := hg
  rcases (show g = 0 ∨ g = 1 ∨ g = 2 ∨ g = 3 ∨ g = 4 ∨ g = 5 by omega) with rfl | rfl | rfl | rfl | rfl | rfl <;> exact ⟨_, rfl, rfl, rfl⟩

section
variable {H : Type} {enc : TypeId × Value → H}
end
end Go.Proofs.YthofbmfcpfibdaaDoor

set_option maxRecDepth 20000
namespace Go.Proofs.YthofbmfcpfibdaaDoor
open Go.Ev

/-! ### what is read in one line is written as that line (plain) -/
structure BackLine (k : Nat) (s : List UInt8) (a : Ans) : Prop where
  w : writeB a = true
  l : linesL a = s
  f : a.fit
  key : a.key.size ≤ 1000
  items : a.r.items = []
  of_ : a.kind = 1 → a.of = (k : Int)
theorem whr_at (w : List UInt8) : ∀ (l : List (List UInt8)) (j : Nat), (whr w l j = -1) ∨ ∃ i, whr w l j = ((j + i : Nat) : Int) ∧ l[i]? = some w
  | [], _ => .inl rfl
  | p :: r, j => by
    by_cases h : w = p
    · refine .inr ⟨0, ?_, by rw [h]; rfl⟩
      show (if w = p then (j : Int) else whr w r (j + 1)) = _
      rw [if_pos h]; rfl
    · have e : whr w (p :: r) j = whr w r (j + 1) := by
        show (if w = p then (j : Int) else whr w r (j + 1)) = _
        rw [if_neg h]
      rw [e]
      rcases whr_at w r (j + 1) with h1 | ⟨i, h1, h2⟩
      · exact .inl h1
      · exact .inr ⟨i + 1, by rw [h1]; congr 1; omega, h2⟩
theorem whr_word {w : List UInt8} (h : 0 < whr w wordB 0) : ∃ i : Nat, i < 8 ∧ 2 ≤ i ∧ whr w wordB 0 = (i : Int) ∧ w = wordB.getD i [] := by
  rcases whr_at w wordB 0 with h1 | ⟨i, h1, h2⟩
  · rw [h1] at h; exact absurd h (by decide)
  · have hi : i < 8 := (List.getElem?_eq_some_iff.1 h2).1
    have hw : w = wordB.getD i [] := by rw [List.getD_eq_getElem?_getD, h2]; rfl
    refine ⟨i, hi, ?_, by rw [h1]; congr 1; omega, hw⟩
    rcases Nat.lt_or_ge i 2 with g | g
    · have : w = [] := by
        rw [hw]
        rcases (show i = 0 ∨ i = 1 by omega) with rfl | rfl <;> rfl
      rw [this] at h
      exact absurd h (by decide)
    · exact g
theorem res_ok : ∀ k, k < 12 → 1 ≤ k → ∀ i, i < 8 → 2 ≤ i → writeB (resA k ((i : Nat) : Int)) = true := by decide
theorem done_ok0 : ∀ k, k < 12 → 2 ≤ k → writeB (doneA k 0) = true := by decide
theorem known_iff {k : Nat} (h : knownB k = true) : 1 ≤ k ∧ k ≤ 11 := by
  unfold knownB at h
  exact ⟨of_decide_eq_true (Bool.and_eq_true _ _ ▸ h : _ ∧ _).1, of_decide_eq_true (Bool.and_eq_true _ _ ▸ h : _ ∧ _).2⟩
theorem done_ok {k m : Nat} (h2 : 2 ≤ k) (h11 : k ≤ 11) (hc : countsB k = true) (h10 : k ≠ 10 ∨ m ≤ 8) : writeB (doneA k m) = true := by
  unfold writeB mayB bodyB keyB yesB zeroB resultB kindsB manyB numB numB2 doneA
  simp only
  rw [hc]
  have e1 : decide ((k : Int) < 1) = false := decide_eq_false (by omega)
  have e2 : decide ((11 : Int) < (k : Int)) = false := decide_eq_false (by omega)
  have e3 : (decide ((k : Int) = 10) && decide ((8 : Int) < (m : Int))) = false := by
    rcases h10 with h | h
    · rw [decide_eq_false (show ¬ (k : Int) = 10 by omega)]; rfl
    · rw [decide_eq_false (show ¬ (8 : Int) < (m : Int) by omega), Bool.and_false]
  rw [e1, e2, e3]
  have e4 : (!decide ((m : Int) = 0) && !(decide True && true)) = false := by simp
  rw [e4]
  rfl
theorem fit0 (a : Ans) (m : Nat) (h : a.r.num = (m : Int)) (hm : m < 18446744073709551616) (hi : a.r.items = []) : a.fit := ⟨by omega, fun x hx => by rw [hi] at hx; cases hx⟩
theorem bare_back {s : List UInt8} {a : Ans} (h : bareF s bareT = some a) : ∃ k y, a = bareA k y ∧ writeB (bareA k y) = true ∧ linesL (bareA k y) = s ∧ k ≠ 1 := by
  have : ∀ (T : List (List UInt8 × Ans)), bareF s T = some a → ∃ p ∈ T, p.1 = s ∧ p.2 = a := fun T => by
    induction T with
    | nil => intro h; cases h
    | cons p r ih =>
      intro h
      obtain ⟨k, b⟩ := p
      unfold bareF at h
      split at h
      · rename_i e
        cases h
        exact ⟨(k, _), List.mem_cons_self .., e.symm, rfl⟩
      · obtain ⟨p, hp, h1⟩ := ih h
        exact ⟨p, List.mem_cons_of_mem _ hp, h1⟩
  obtain ⟨p, hp, rfl, rfl⟩ := this bareT h
  simp only [bareT, List.mem_cons, List.not_mem_nil, or_false] at hp
  rcases hp with rfl | rfl | rfl | rfl | rfl | rfl | rfl
  · exact ⟨2, true, rfl, rfl, rfl, by decide⟩
  · exact ⟨2, false, rfl, rfl, rfl, by decide⟩
  · exact ⟨3, true, rfl, rfl, rfl, by decide⟩
  · exact ⟨3, false, rfl, rfl, rfl, by decide⟩
  · exact ⟨4, false, rfl, rfl, rfl, by decide⟩
  · exact ⟨5, false, rfl, rfl, rfl, by decide⟩
  · exact ⟨6, false, rfl, rfl, rfl, by decide⟩
theorem lines_bwd {k : Nat} {s : List UInt8} {a : Ans} (h : lineA k (cutS s) = some a) : BackLine k s a := by
  obtain ⟨w, ps, hcut, hs⟩ := join_cut s.length s (Nat.le_refl _)
  rw [hcut] at h
  unfold lineA at h
  have e0 : (w :: ps).getD 0 [] = w := rfl
  rw [e0] at h
  have one : (w :: ps).length = 1 → s = w := fun hl => by
    have : ps = [] := List.length_eq_zero_iff.1 (by rw [List.length_cons] at hl; omega)
    rw [hs, this]; exact List.append_nil w
  split at h
  · rename_i h1
    obtain ⟨i, i8, i2, hi, hw⟩ := whr_word h1.2
    rw [hi] at h
    split at h
    · rename_i hk
      obtain ⟨k1, k2⟩ := known_iff hk
      cases h
      refine ⟨res_ok k (by omega) k1 i i8 i2, ?_, fit0 _ 0 rfl (by decide) rfl, by show 0 ≤ 1000; decide, rfl, fun _ => rfl⟩
      rw [one h1.1, hw]
      unfold linesL
      rw [if_pos (show (resA k (i : Int)).kind = 1 from rfl), if_neg (show ¬ (resA k (i : Int)).r.kind = 1 from fun h => by have : (i : Int) = 1 := h; omega)]
      show (wordN.getD i (strB [])).data.toList = _
      have := wordV i i8
      injection this with this
      rw [this]
    · cases h
  · split at h
    · rename_i h1
      obtain ⟨hr, hne⟩ := h1
      unfold isRow at hr
      obtain ⟨hk, hw⟩ := (Bool.and_eq_true _ _ ▸ hr : _ ∧ _)
      have hw := of_decide_eq_true hw
      obtain ⟨k1, k2⟩ := known_iff hk
      have k3 : 2 ≤ k := by
        rcases Nat.lt_or_ge k 2 with g | g
        · have : k = 1 := by omega
          subst this
          exact absurd hw hne
        · exact g
      have hlines : ∀ m : Nat, linesL (doneA k m) = rowB k ++ cntL k m := fun m => by
        unfold linesL
        rw [if_pos (show (doneA k m).kind = 1 from rfl), if_pos (show (doneA k m).r.kind = 1 from rfl)]
        rfl
      split at h
      · rename_i hc
        split at h
        · rename_i hl
          cases h
          refine ⟨done_ok0 k (by omega) k3, ?_, fit0 _ 0 rfl (by decide) rfl, by show 0 ≤ 1000; decide, rfl, fun _ => rfl⟩
          rw [hlines 0, one hl, hw]
          unfold cntL
          rw [if_neg (by rw [hc]; simp), List.append_nil]
        · cases h
      · rename_i hc
        have hc : countsB k = true := by simpa using hc
        split at h
        · cases h
        · rename_i hl
          have hl2 : (w :: ps).length = 2 := Decidable.of_not_not hl
          split at h
          · rename_i hn
            obtain ⟨n1, n2⟩ := hn
            obtain ⟨d1, d2, d3⟩ := numI_some n1
            cases h
            refine ⟨done_ok k3 k2 hc n2, ?_, fit0 _ (numG (w :: ps) 1) rfl d3 rfl, by show 0 ≤ 1000; decide, rfl, fun _ => rfl⟩
            rw [hlines, hs]
            unfold cntL
            rw [if_pos hc]
            match ps, hl2, d1 with
            | [p], _, d1 =>
              have dp : p = dec (numG [w, p] 1) := d1
              show rowB k ++ 32 :: dec (numG [w, p] 1) = w ++ (32 :: p ++ [])
              rw [← dp, hw, List.append_nil]
          · cases h
    · split at h
      · rename_i h1
        obtain ⟨h2, hw⟩ := h1
        split at h
        · rename_i hkw
          cases h
          unfold keyW at hkw
          simp only [Bool.and_eq_true, decide_eq_true_eq] at hkw
          obtain ⟨⟨q1, q2⟩, q3⟩ := hkw
          refine ⟨?_, ?_, fit0 _ 0 rfl (by decide) rfl, by show ((w :: ps).getD 1 []).length ≤ 1000; omega, rfl, fun h => by cases h⟩
          · have hsz : ((⟨((w :: ps).getD 1 []).toArray⟩ : ByteArray).size : Int) = (((w :: ps).getD 1 []).length : Int) := rfl
            unfold writeB mayB bodyB keyB yesB zeroB keysB pushA
            simp only [hsz]
            rw [q3]
            have e1 : decide ((1 : Int) ≤ (((w :: ps).getD 1 []).length : Int)) = true := decide_eq_true (by omega)
            have e2 : decide ((((w :: ps).getD 1 []).length : Int) ≤ 32) = true := decide_eq_true (by omega)
            rw [e1, e2]
            rfl
          · match ps, h2 with
            | [p], _ =>
              rw [hs, hw]
              show ([80, 85, 83, 72, 32] : List UInt8) ++ p = [80, 85, 83, 72] ++ (32 :: p ++ [])
              rw [List.append_nil]
              rfl
        · cases h
      · split at h
        · rename_i h1
          obtain ⟨kd, y, rfl, hwr, hl, hne⟩ := bare_back h
          exact ⟨hwr, by rw [one h1]; exact hl, fit0 _ 0 rfl (by decide) rfl, by show 0 ≤ 1000; decide, rfl, fun h => absurd h hne⟩
        · cases h
/-- what is read as an answer may be, and is written as the bytes that it was read of (plain) -/
theorem only_plain {k : Nat} {b : List UInt8} {G : Got} (h : readAll k b = G) :
    (∃ e, G = .none e) ∨ (G.e = 0 ∧ ∃ n : Nat, G.n = (n : Int) ∧ 0 < n ∧ n ≤ b.length ∧ writeB (G.a k) = true ∧ outL (G.a k) = b.take n ∧ (G.a k).fit ∧ (G.a k).key.size ≤ 1000 ∧ (∀ x ∈ (G.a k).r.items, x.key.size ≤ 1000) ∧ ((G.a k).kind = 1 → (G.a k).of = (k : Int))) := by
  unfold readAll at h
  split at h
  · exact .inl ⟨_, h.symm⟩
  · cases G with
    | none e => exact .inl ⟨e, rfl⟩
    | line a n =>
      right
      obtain ⟨_, s, hl, htk, hn, hnb⟩ := single_bwd k b 9 0 [] a n h
      obtain ⟨q1, q2, q3, q4, q5, q6⟩ := lines_bwd hl
      refine ⟨rfl, n, rfl, by omega, hnb, q1, ?_, q3, q4, (fun x hx => by
        have hx' : x ∈ a.r.items := hx
        rw [q5] at hx'; cases hx'), q6⟩
      show outL a = _
      unfold outL
      rw [if_pos q1, q2, htk]
    | items l n =>
      right
      have ok := read_ok k b 9 0 [] (by decide)
      rw [h] at ok
      have ok : l.length ≤ 8 := ok
      obtain ⟨hk, ys, hz, hys, hn1, hn2, htk⟩ := chain_bwd k b 9 0 [] l n (Nat.zero_le _) h
      rw [List.nil_append] at hz
      subst hz
      subst hk
      rw [List.drop_zero, Nat.sub_zero] at htk
      have hm : mayB (getA 1 l (.slice Option.none 0 0)) = true := by
        have hg : goodItems l = true := List.all_eq_true.2 fun x hx => decide_eq_true (hys x hx).1.err
        have e8 : decide ((8 : Int) < (l.length : Int)) = false := decide_eq_false (by omega)
        unfold mayB bodyB keyB yesB resultB manyB getA
        simp only
        rw [hg, e8]
        have e9 : (decide ((0 : Int) < (l.length : Int)) && !(decide True && decide (((1 : Nat) : Int) = 1))) = false := by simp
        rw [e9]
        rfl
      have hkp : keysB (getA 1 l (.slice Option.none 0 0)) = true := by
        unfold keysB
        have : (l.all fun x => plainL x.key.data.toList) = true := List.all_eq_true.2 fun x hx => (hys x hx).2
        show (plainL (strB []).data.toList && (l.all fun x => plainL x.key.data.toList)) = true
        rw [this]; rfl
      have hw : writeB (getA 1 l (.slice Option.none 0 0)) = true := by unfold writeB; rw [hm, hkp]; rfl
      have hll : linesL (getA 1 l (.slice Option.none 0 0)) = l.flatMap vline ++ endW := by
        unfold linesL
        rw [if_pos (show (getA 1 l (.slice Option.none 0 0)).kind = 1 from rfl), if_pos (show (getA 1 l (.slice Option.none 0 0)).r.kind = 1 from rfl)]
        show l.flatMap vline ++ rowL 1 ++ cntL 1 0 = _
        have e1 : rowL 1 = endW := rfl
        have e2 : cntL 1 0 = [] := rfl
        rw [e1, e2, List.append_nil]
      have hlen := congrArg List.length htk
      rw [List.length_take, List.length_append, List.length_append] at hlen
      have h3 : endW.length = 3 := rfl
      have h2 : ([13, 10] : List UInt8).length = 2 := rfl
      refine ⟨rfl, n, rfl, by omega, hn2, hw, ?_, ⟨by show (0 : Int) ≤ 0 ∧ (0 : Int) < _; decide, fun x hx => (hys x hx).1.ok⟩, by show 0 ≤ 1000; decide, (fun x hx => by have := (hys x hx).1.key; omega), fun _ => rfl⟩
      show outL (getA 1 l (.slice Option.none 0 0)) = _
      unfold outL
      rw [if_pos hw, hll, htk, List.append_assoc]
end Go.Proofs.YthofbmfcpfibdaaDoor

namespace Go.Proofs.YthofbmfcpfibdaaDoor
open Go.Ev

theorem withIv_facts (a : Ans) (iv : Value) : writeB (withIv a iv) = writeB a ∧ outL (withIv a iv) = outL a ∧ mayB (withIv a iv) = mayB a := ⟨rfl, rfl, rfl⟩
/-- THE LAW: what is read is written again -/
theorem only_law (L n : Nat) (hL : 2000 ≤ L) {v : Value} {b : List UInt8} {k : Nat} {h0 : H} {e : Value} {m : Int} (he : ErrC e) (hG : Has h0 5 (.ro [e])) (hM : Has h0 0 (.ro [.int .i64 m])) (hP : Has h0 1 (.ro powC)) (hr : Rd h0 v b) :
    Sp (CF L (n + 10)) 7 [v, .int .u8 (k : Int)] h0 fun r h' => r = .bool true := by
  refine Sp.body f7 (by simp) ?_
  unfold c7
  refine C.seq fun K hK => hK .norm _ _ (C.seq fun K hK => ?_)
  rw [box_f]
  simp only [EV, Nat.reduceAdd, r7_1]
  refine alive_law L n hL hP _ fun r h1 hq => ?_
  obtain ⟨rfl, k1⟩ := hq
  refine hK _ _ _ (C.seq (C.seq fun K hK => ?_))
  have hr1 := hr.keep0 k1
  by_cases g : (6000 : Int) < (b.length : Int)
  · simp only [↓reduceIte, EV, Nat.reduceEqDiff, r7_2, hr1.len, decide_eq_true g]
    refine hK _ _ _ (C.cond true (by simp only [↓reduceIte, EV]) (fun _ => C.seq fun K hK => ?_) fun g => by cases g)
    simp only [↓reduceIte, EV, Nat.reduceEqDiff, r7_3]
    exact hK _ _ _ (C.ret ⟨.inr rfl, _, rfl, by simp only [↓reduceIte, EV, resOf]⟩)
  simp only [↓reduceIte, ↓EW, EV, Nat.reduceEqDiff, r7_2, hr1.len, decide_eq_false g]
  refine hK _ _ _ (C.cond false (by simp only [↓reduceIte, EV]) (fun g => by cases g) fun _ => C.skip (C.seq fun K hK => ?_))
  have g13 := read13_law L (n + 1) hL (k := k) he (hG.keep0 k1) (hM.keep0 k1) hr1 (by omega)
  have t3 : ∀ (x y z : Value) i, tupNth i (.tuple #[x, y, z]) = [x, y, z][i]? := fun x y z i => tupNth_tuple i [x, y, z]
  simp only [↓reduceIte, ↓EW, EV, Nat.reduceEqDiff, r7_4]
  refine g13 _ fun r h2 hv => ?_
  obtain ⟨gv, k2⟩ := hv
  have ok := all_ok k b
  have op := only_plain (k := k) (b := b) rfl
  obtain ⟨iv, rfl, mi, h8⟩ := gv.all ok
  clear gv
  generalize readAll k b = G at *
  have s1 : storeV 7 (h2.new (.rw [(.int .u8 (0)), (.int .u8 (0)), (.int .u8 (0)), (.slice none 0 0), (.int .u64 (0)), (.bool false), (.string (strB []))] (some 27))) (.pointer (some ⟨h2.next, 0, none⟩)) (withIv (G.a k) iv).v = some ((h2.new (.rw zA.cells (some 27))).put h2.next (.rw (withIv (G.a k) iv).cells (some 27))) := put7 (Has.new _ _) rfl (ones_iv mi)
  simp only [EV, t3, s1]
  have k3 := keep_alloc h2 (.rw zA.cells (some 27)) (.rw (withIv (G.a k) iv).cells (some 27))
  have b6 := has_alloc h2 (.rw zA.cells (some 27)) (.rw (withIv (G.a k) iv).cells (some 27))
  have m3 := mi.keep0 k3
  generalize (h2.new (.rw zA.cells (some 27))).put h2.next (.rw (withIv (G.a k) iv).cells (some 27)) = h3 at *
  have k03 := (k1.then k2).then k3
  refine hK _ _ _ (C.seq (C.seq fun K hK => ?_))
  have g7 := get7 (s := none) b6
  have d0 : decide ((0 : Int) = 0) = true := rfl
  rcases op with ⟨e', rfl⟩ | ⟨ge, N, gn, N0, Nb, q1, q2, q3, q4, q5, q6⟩
  · have hf : aggO (fill [(.int .u8 (0)), (.int .u8 (0)), (.int .u8 (0)), (.slice none 0 0), (.int .u64 (0)), (.bool false), (.string (strB []))] (plc [(0, 1), (1, 1), (2, 3), (5, 1), (6, 1)]) []) = some (withIv zA (.slice none 0 0)).v := rfl
    have en : (Got.none e').n = 0 := rfl
    have hs : Sp (CF L (n + 9)) 15 [(withIv ((Got.none e').a k) iv).v, (withIv zA (.slice none 0 0)).v] h3 fun r h' => r = .bool true ∧ Keep nobody h3 h' := ans_same L (n + 7) zA iv (.slice none 0 0) h3 m3.items (.inl ⟨rfl, rfl⟩) (by show 0 < L; omega) (by show 0 < 1000000; decide)
    have fin : ∀ tm, tg tm 6 = .pointer (some ⟨h2.next, 0, none⟩) → tg tm 7 = .int .i64 0 → C ⟨seqC ⟨r7_6⟩ retC⟩ (CF L (n + 9)) L tm h3 fun e tm' h' => e = .ret ∧ ∃ l, q7.f tm' h' = some l ∧ resOf l = .bool true := fun tm t6 t7 => by
      refine C.seq fun K hK => ?_
      simp only [↓EW, EV, r7_6, t6, t7, g7, hf]
      refine hs _ fun r h4 hv => ?_
      obtain ⟨rfl, k4⟩ := hv
      simp only [EV]
      exact hK _ _ _ (C.ret ⟨rfl, _, rfl, by simp only [↓reduceIte, EV, resOf]⟩)
    by_cases g : (Got.none e').e = 0
    · simp only [↓reduceIte, ↓EW, EV, Nat.reduceEqDiff, r7_5, decide_eq_true g, en]
      refine hK _ _ _ (C.cond true (by simp only [↓reduceIte, EV]) (fun _ => (fin _ (by simp only [↓reduceIte, EV, Nat.reduceEqDiff]) (by simp only [↓reduceIte, EV, Nat.reduceEqDiff])).mono ?_) fun g => by cases g)
      rintro e tm' h' ⟨rfl, hq⟩
      exact ⟨.inr rfl, hq⟩
    · simp only [↓reduceIte, EV, r7_5, decide_eq_false g, en]
      refine hK _ _ _ (C.cond true (by simp only [↓reduceIte, EV]) (fun _ => (fin _ (by simp only [↓reduceIte, EV, Nat.reduceEqDiff]) (by simp only [↓reduceIte, EV, Nat.reduceEqDiff])).mono ?_) fun g => by cases g)
      rintro e tm' h' ⟨rfl, hq⟩
      exact ⟨.inr rfl, hq⟩
  · generalize G.a k = A at *
    have nN : ¬ (N : Int) = 0 := by omega
    rw [ge, gn]
    simp only [↓reduceIte, ↓EW, EV, Nat.reduceEqDiff, r7_5, decide_eq_false nN]
    refine hK _ _ _ (C.cond false (by simp only [↓reduceIte, EV]) (fun g => by cases g) fun _ => C.skip (C.seq fun K hK => ?_))
    obtain ⟨w1, w2, w3⟩ := withIv_facts A iv
    have hmy : mayB A = true := by
      unfold writeB at q1
      exact (Bool.and_eq_true _ _ ▸ q1 : _ ∧ _).1
    have fit' : (withIv A iv).fit := ⟨q3.num, q3.items⟩
    have sl : Slim L (withIv A iv) := ⟨q4, by show A.r.items.length ≤ 40; omega, q5⟩
    simp only [↓reduceIte, EV, Nat.reduceEqDiff, r7_7, g7]
    refine write_law L (n + 1) hL (a := withIv A iv) sl fit' m3.items (fun c hc => m3.lt hc) (hP.keep0 k03) _ fun r h4 hq => ?_
    obtain ⟨⟨w, rfl, rd⟩, k4⟩ := hq
    rw [w2, q2] at rd
    have e0 : (if writeB (withIv A iv) = true then (0 : Int) else 8) = 0 := by rw [w1, q1]; rfl
    simp only [EV, tup2, e0]
    refine hK _ _ _ (C.seq fun K hK => ?_)
    have kr := keep_room h4 34
    have hr4 := hr1.keep0 ((k2.then k3).then k4)
    have hr5 := hr4.keep0 kr
    have rd5 := rd.keep0 kr
    have b65 := (b6.keep0 k4).keep0 kr
    have m5 := (m3.keep0 k4).keep0 kr
    rw [box_f]
    have ln : decide ((N : Int) ≤ (b.length : Int)) = true := decide_eq_true (by omega)
    have rs := rd5.str
    obtain ⟨w', e1, rd', _⟩ := hr5.mid none 0 N (.inl ⟨rfl, rfl⟩) (Nat.zero_le _) Nb .i64
    rw [List.drop_zero] at rd'
    have rs' := rd'.str
    have qs := str_same 9 false ⟨(b.take N).toArray⟩
    have g75 := get7 (s := none) b65
    have lnb := hr5.len
    have ck := words_check L (n + 2) (withIv A iv) ⟨h4.objs, h4.next + 34⟩ m5.items (by show A.r.items.length < L; omega) (by show A.r.items.length < 9223372036854775807; omega)
    have e8 : (if mayB (withIv A iv) = true then (0 : Int) else 8) = 0 := by rw [w3, hmy]; rfl
    rw [e8] at ck
    have ldk : ∀ hx, Keep nobody ⟨h4.objs, h4.next + 34⟩ hx → ∀ s, loadOne hx (.pointer (some ⟨h2.next, 0, s⟩)) = some (.int .u8 A.kind) := fun hx kx s => loadOne_has (b65.keep0 kx) rfl
    have ldo : ∀ hx, Keep nobody ⟨h4.objs, h4.next + 34⟩ hx → ∀ s, loadOne hx (.pointer (some ⟨h2.next, 1, s⟩)) = some (.int .u8 A.of) := fun hx kx s => loadOne_has (b65.keep0 kx) rfl
    simp only [↓reduceIte, ↓EW, EV, Nat.reduceEqDiff, r7_8, lnb, ln, rs, e1, rs', qs, g75, ite2]
    refine ck _ fun r h6 hv => ?_
    obtain ⟨rfl, k6⟩ := hv
    by_cases gk : A.kind = 1
    · have dk : decide (A.of = (k : Int)) = true := decide_eq_true (q6 gk)
      simp only [EV, ldk _ k6, ldo _ k6, decide_eq_true gk, dk]
      exact hK _ _ _ (C.ret ⟨.inr rfl, _, rfl, by simp only [↓reduceIte, EV, resOf]⟩)
    · simp only [EV, ldk _ k6, decide_eq_false gk]
      exact hK _ _ _ (C.ret ⟨.inr rfl, _, rfl, by simp only [↓reduceIte, EV, resOf]⟩)
end Go.Proofs.YthofbmfcpfibdaaDoor

set_option maxRecDepth 100000
namespace Go.Proofs.YthofbmfcpfibdaaDoor
open Go.Ev Go.RowKit

section
variable {H : Type} {enc : TypeId × Value → H}
/-- the walk -/
theorem wordsOnly_walk {W : World} {m : Int} {a : Addr} (c0 : W.cell? ⟨0, 0, none⟩ = some (.int .i64 m)) (hc : ∀ r, r < 20 → W.cell? ⟨1, r, none⟩ = some (.int .u64 ((10 ^ r : Nat) : Int))) (c5 : W.cell? ⟨5, 0, none⟩ = some (.iface 147 (.pointer (some a)))) (hs : a.spot = none) (hb : a.block < W.heap.size) {n1 n2 : Nat} {v1 v2 : Value} {x1 x2 : DataW H × List MemPlace} (hok : Value.okWide Tryd.prog W .any 0 29 v1) (h1 : DataW.trod enc Tryd.prog W 0 (fun _ => true) true n1 29 v1.cells.toList = some x1)
    (hok2 : Value.okWide Tryd.prog W .any 0 5 v2) (h2 : DataW.trod enc Tryd.prog W 0 (fun _ => true) true n2 5 v2.cells.toList = some x2) :
    Calls Tryd.prog 7 #[v1, v2] W fun e W' => e = .returned (.bool true) ∧ Below W.heap.size W W' := by
  obtain ⟨o, p, q⟩ := bytes_at hok h1
  obtain ⟨z, e2, _, w2⟩ := DataW.trod_int u5 h2
  have b2 := bounds_u8 w2
  have hv2 : v2 = .int .u8 (z.toNat : Int) := by
    rw [show (z.toNat : Int) = z by omega]
    have ok2 : Cell.ok Tryd.prog W .any 0 5 v2 := by
      unfold Value.okWide at hok2
      rw [u5] at hok2
      unfold Cell.okWide at hok2
      rw [u5] at hok2
      exact hok2
    cases v2 <;> simp [Value.cells] at e2
    case int => simp_all
    case agg => exfalso; unfold Cell.ok at ok2; rw [u5] at ok2; exact ok2
  subst hv2
  have r := glP_rel (m := m) (a := a) c0 hc c5 hs hb [o] fun p' hp => by
    simp only [List.mem_cons, List.not_mem_nil, or_false] at hp
    exact p p' hp.symm
  have g0 := ros_has (bs := glP m a ++ [o]) (B := 0) (p := ([.int .i64 m], ⟨0, 0, 0, 0⟩)) rfl
  have g1 := ros_has (bs := glP m a ++ [o]) (B := 1) (p := (powC, ⟨1, 0, 0, 0⟩)) rfl
  have g5 := ros_has (bs := glP m a ++ [o]) (B := 5) (p := ([.iface 147 (.pointer (some ⟨6, 0, none⟩))], ⟨5, 0, 0, 0⟩)) rfl
  obtain ⟨v', l, hr, va⟩ := q 7 (rosσ (glP m a ++ [o])) (rosH (glP m a ++ [o])) fun p hp => ros_has (by rw [hp]; rfl)
  exact calls_of_sp gor Tryd.checked.mixed xok Tryd.func7 (by kernel_rfl) (only_law 2000 0 (by decide) (k := z.toNat) err_ok g5.1 g0.1 g1.1 hr) r (glP_glob m a [o]) (.cons va (.cons (.int _ _) (.nil _))) ros_ro
end
end Go.Proofs.YthofbmfcpfibdaaDoor
