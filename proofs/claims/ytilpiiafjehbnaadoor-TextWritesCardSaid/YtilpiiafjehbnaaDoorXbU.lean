import Derived.Test.YtilpiiafjehbnaaDoorXbS
set_option linter.unusedSimpArgs false
set_option linter.unusedVariables false
set_option maxRecDepth 100000
namespace Go.Proofs.YtilpiiafjehbnaaDoor
open Go.Ev Go.RowKit

theorem u28 : Tryd.prog.underlying 28 = some (.struct (fieldsOf Tryd.prog 28)) := by kernel_rfl
theorem u26 : Tryd.prog.underlying 26 = some (.struct (fieldsOf Tryd.prog 26)) := by kernel_rfl
theorem u22 : Tryd.prog.underlying 22 = some (.slice 9) := by kernel_rfl
theorem u23 : Tryd.prog.underlying 23 = some (.int .u32) := by kernel_rfl
theorem u24 : Tryd.prog.underlying 24 = some (.int .u64) := by kernel_rfl
theorem u9 : Tryd.prog.underlying 9 = some .string := by kernel_rfl
theorem u5 : Tryd.prog.underlying 5 = some (.int .u8) := by kernel_rfl
theorem u3 : Tryd.prog.underlying 3 = some (.int .i64) := by kernel_rfl
theorem u4 : Tryd.prog.underlying 4 = some .bool := by kernel_rfl
theorem m28 : (fieldsOf Tryd.prog 28).toList.map (fun f => (f.type, f.offset)) = [(5, 0), (26, 1), (3, 9), (9, 10), (4, 11), (4, 12)] := by kernel_rfl
theorem m26 : (fieldsOf Tryd.prog 26).toList.map (fun f => (f.type, f.offset)) = [(5, 0), (3, 1), (22, 2), (9, 3), (23, 4), (3, 5), (24, 6), (24, 7)] := by kernel_rfl
theorem s28 : Tryd.prog.cellsOf 28 = 13 := by kernel_rfl
theorem s26 : Tryd.prog.cellsOf 26 = 8 := by kernel_rfl
theorem s22 : Tryd.prog.cellsOf 22 = 1 := by kernel_rfl
theorem s23 : Tryd.prog.cellsOf 23 = 1 := by kernel_rfl
theorem s24 : Tryd.prog.cellsOf 24 = 1 := by kernel_rfl
theorem s9 : Tryd.prog.cellsOf 9 = 1 := by kernel_rfl
theorem s5 : Tryd.prog.cellsOf 5 = 1 := by kernel_rfl
theorem s3 : Tryd.prog.cellsOf 3 = 1 := by kernel_rfl
theorem s4 : Tryd.prog.cellsOf 4 = 1 := by kernel_rfl
theorem ct28 : Tryd.prog.cellTypes Tryd.prog.depth 28 = some [5, 5, 3, 22, 9, 23, 3, 24, 24, 3, 9, 4, 4] := by kernel_rfl

section
variable {H : Type} {enc : TypeId × Value → H} {w : World} {base : Nat} {sp : Nat → Bool} {held : Bool}
theorem open_request {n : Nat} {cs : List Value} {x : DataW H × List MemPlace} (h : DataW.trod enc Tryd.prog w base sp held n 28 cs = some x) :
    ∃ (kind ck ct fl fo un by' ten : Int) (on cl : Bool) (val sec : ByteArray) (kv : Value), cs = [.int .u8 kind, .int .u8 ck, .int .i64 ct, kv, .string val, .int .u32 fl, .int .i64 fo, .int .u64 un, .int .u64 by', .int .i64 ten, .string sec, .bool on, .bool cl] ∧
      (0 ≤ ck ∧ ck < 256) ∧ (0 ≤ fl ∧ fl < 4294967296) ∧ (0 ≤ un ∧ un < 18446744073709551616) ∧ (0 ≤ by' ∧ by' < 18446744073709551616) ∧ ∃ m y, DataW.trod enc Tryd.prog w base sp held m 22 [kv] = some y := by
  obtain ⟨hl, hf⟩ := trod_fields u28 m28 h
  rw [s28] at hl
  match cs, hl with
  | [c0, c1, c2, c3, c4, c5, c6, c7, c8, c9, c10, c11, c12], _ =>
    obtain ⟨m0, y0, h0⟩ := hf 0 5 0 rfl
    obtain ⟨m1, y1, h1⟩ := hf 1 26 1 rfl
    obtain ⟨m2, y2, h2⟩ := hf 2 3 9 rfl
    obtain ⟨m3, y3, h3⟩ := hf 3 9 10 rfl
    obtain ⟨m4, y4, h4⟩ := hf 4 4 11 rfl
    obtain ⟨m5, y5, h5⟩ := hf 5 4 12 rfl
    rw [s5] at h0
    rw [s26] at h1
    rw [s3] at h2
    rw [s9] at h3
    rw [s4] at h4 h5
    obtain ⟨_, hf2⟩ := trod_fields u26 m26 h1
    obtain ⟨n0, z0, g0⟩ := hf2 0 5 0 rfl
    obtain ⟨n1, z1, g1⟩ := hf2 1 3 1 rfl
    obtain ⟨n2, z2, g2⟩ := hf2 2 22 2 rfl
    obtain ⟨n3, z3, g3⟩ := hf2 3 9 3 rfl
    obtain ⟨n4, z4, g4⟩ := hf2 4 23 4 rfl
    obtain ⟨n5, z5, g5⟩ := hf2 5 3 5 rfl
    obtain ⟨n6, z6, g6⟩ := hf2 6 24 6 rfl
    obtain ⟨n7, z7, g7⟩ := hf2 7 24 7 rfl
    rw [s5] at g0
    rw [s3] at g1 g5
    rw [s22] at g2
    rw [s9] at g3
    rw [s23] at g4
    rw [s24] at g6 g7
    obtain ⟨k, e0, _, _⟩ := DataW.trod_int u5 h0
    obtain ⟨t, e2, _, _⟩ := DataW.trod_int u3 h2
    obtain ⟨s, e3, _, _⟩ := DataW.trod_string u9 h3
    obtain ⟨o, e4, _⟩ := DataW.trod_bool u4 h4
    obtain ⟨cl, e5, _⟩ := DataW.trod_bool u4 h5
    obtain ⟨ck, d0, _, w0⟩ := DataW.trod_int u5 g0
    obtain ⟨ct, d1, _, _⟩ := DataW.trod_int u3 g1
    obtain ⟨v, d3, _, _⟩ := DataW.trod_string u9 g3
    obtain ⟨fl, d4, _, w4⟩ := DataW.trod_int u23 g4
    obtain ⟨fo, d5, _, _⟩ := DataW.trod_int u3 g5
    obtain ⟨un, d6, _, w6⟩ := DataW.trod_int u24 g6
    obtain ⟨by', d7, _, w7⟩ := DataW.trod_int u24 g7
    simp at e0 e2 e3 e4 e5 d0 d1 d3 d4 d5 d6 d7
    subst e0 e2 e3 e4 e5 d0 d1 d3 d4 d5 d6 d7
    have := bounds_u8 w0
    have := bounds_u32 w4
    have := bounds_u64 w6
    have := bounds_u64 w7
    exact ⟨k, ck, ct, fl, fo, un, by', t, o, cl, v, s, c3, rfl, by omega, by omega, by omega, by omega, n2, z2, by simpa using g2⟩
end
section
variable {H : Type} {enc : TypeId × Value → H}
theorem request_at {W : World} {n : Nat} {v : Value} {x : DataW H × List MemPlace} (hok : Value.okWide Tryd.prog W .any 0 28 v) (h : DataW.trod enc Tryd.prog W 0 (fun _ => true) true n 28 v.cells.toList = some x) :
    ∃ o : Option (List Value × CB), (∀ p, o = some p → RosOk W p) ∧ ∀ (B : Nat) (σ : Sg) (h0 : Ev.H), (∀ p, o = some p → Has h0 B (.ro p.1) ∧ σ B = some p.2) → ∃ r : Rq, r.ok ∧ Strs h0 r.c.kv r.c.keys ∧ VR σ r.v v := by
  unfold Value.okWide at hok
  rw [u28] at hok
  obtain ⟨cs, rfl, hsz, ts, hts, _, hrow⟩ := hok
  rw [ct28] at hts
  cases hts
  obtain ⟨kind, ck, ct, fl, fo, un, by', ten, on, cl, val, sec, kv, hcs, o1, o2, o3, o4, m, y, hs⟩ := open_request h
  simp only [cells_agg] at hcs
  have vr : ∀ (σ : Sg) (kv' : Value), VR σ kv' kv → ∀ keys, VR σ (Rq.v ⟨kind, ⟨ck, ct, kv', val, fl, fo, un, by', keys⟩, ten, sec, on, cl⟩) (.agg cs) := fun σ kv' hv keys => by
    have hl : LR σ [Value.int .u8 kind, .int .u8 ck, .int .i64 ct, kv', .string val, .int .u32 fl, .int .i64 fo, .int .u64 un, .int .u64 by', .int .i64 ten, .string sec, .bool on, .bool cl] cs.toList := by
      rw [hcs]
      exact .cons (.int _ _) (.cons (.int _ _) (.cons (.int _ _) (.cons hv (.cons (.string _) (.cons (.int _ _) (.cons (.int _ _) (.cons (.int _ _) (.cons (.int _ _) (.cons (.int _ _) (.cons (.string _) (.cons (.bool _) (.cons (.bool _) (.nil _)))))))))))))
    refine .agg _ _ (by simpa [Rq.cells] using hl.1) fun i x y hx hy => hl.2 i x y (by simpa [Rq.cells] using hx) (by simpa using hy)
  rcases DataW.trod_slice u22 hs with ⟨e, _⟩ | ⟨a, len, cap, elems, rest, m', _, e, _, _, hlc, hcm, hlen, hel, _, _⟩
  · simp only [List.cons.injEq, and_true] at e
    subst e
    exact ⟨none, (fun p h => by cases h), fun B σ h0 _ => ⟨⟨kind, ⟨ck, ct, .slice none 0 0, val, fl, fo, un, by', []⟩, ten, sec, on, cl⟩, ⟨o1, ⟨o1, o2, o3, o4⟩, rfl⟩, .inl ⟨rfl, rfl⟩, vr _ _ (.slNil _ _) _⟩⟩
  · simp only [List.cons.injEq, and_true] at e
    subst e
    have hcell : cs[3]? = some (.slice (some a) len cap) := by
      have : cs.toList[3]? = some (.slice (some a) len cap) := by rw [hcs]; rfl
      simpa using this
    obtain ⟨u, hu, hco⟩ := hrow 3 _ hcell
    have hu22 : u = 22 := by simpa using hu.symm
    subst hu22
    have hok2 : Cell.ok Tryd.prog W .any 0 22 (.slice (some a) len cap) := by
      unfold Cell.okWide at hco
      rw [u22] at hco
      exact hco
    unfold Cell.ok at hok2
    rw [u22] at hok2
    obtain ⟨_, _, _, hspot, row, cells, hshape, _⟩ := hok2
    have hblk : a.block < W.heap.size := by
      unfold World.shape? at hshape
      split at hshape
      · rename_i c el _ hh
        exact (Array.getElem?_eq_some_iff.1 hh).1
      · cases hshape
    have hone : ∀ i : Fin len, ∃ p : List UInt8, W.cells? 0 (a.add (i.val * 1)) 1 = some [sv p] := fun i => by
      have h1 := hel i.val i.isLt
      rw [s9, List.getElem?_eq_getElem (by omega)] at h1
      simp only [Option.bind_eq_some_iff] at h1
      obtain ⟨c5, h2, h3⟩ := h1
      obtain ⟨s, rfl, _, _⟩ := DataW.trod_string u9 h3
      exact ⟨s.data.toList, h2⟩
    obtain ⟨f, hf⟩ := Classical.axiomOfChoice hone
    let keys := List.ofFn f
    have hil : keys.length = len := by simp [keys]
    have hcells : ∀ j v, (keys.map sv)[j]? = some v → W.cell? ⟨a.block, a.off + j, none⟩ = some v ∧ cstOk v = true := fun j v hv => by
      rw [List.getElem?_map] at hv
      obtain ⟨y, hy, rfl⟩ := Option.map_eq_some_iff.1 hv
      have hlt : j < len := by
        by_cases hlt : j < len
        · exact hlt
        · rw [List.getElem?_eq_none (by omega)] at hy; cases hy
      have hy' : f ⟨j, hlt⟩ = y := by simpa [keys, hlt] using hy
      have h2 := hf ⟨j, hlt⟩
      rw [hy'] at h2
      refine ⟨?_, rfl⟩
      have h3 := (World.cells?_some h2).2.2 0 (by omega)
      have e0 : [sv y][0]? = some (sv y) := rfl
      rw [e0] at h3
      rw [← h3]
      obtain ⟨ab, ao, asp⟩ := a
      simp only at hspot
      subst hspot
      simp only [Addr.add, Nat.mul_one]
      by_cases e1 : j = 0
      · simp [e1]
      · simp [e1]
    have hcO : cap < OPEN := by have := hcm; unfold maxLen at this; unfold OPEN; omega
    have hble : Nat.ble OPEN cap = false := by
      rw [Bool.eq_false_iff]; intro e; have := Nat.le_of_ble_eq_true e; omega
    refine ⟨some (keys.map sv, ⟨a.block, a.off, 1 * len, 1⟩), fun p h => ?_, fun B σ h0 hB => ?_⟩
    · simp only [Option.some.injEq] at h; subst h; exact ⟨hblk, hcells⟩
    obtain ⟨hh, hσ⟩ := hB _ rfl
    have hV : VR σ (.slice (some ⟨B, 0, none⟩) len cap) (.slice (some a) len cap) := by
      have := VR.sl (σ := σ) B 0 len cap ⟨a.block, a.off, 1 * len, 1⟩ hσ hcO
      obtain ⟨ab, ao, asp⟩ := a
      simp only at hspot
      subst hspot
      exact this
    exact ⟨⟨kind, ⟨ck, ct, .slice (some ⟨B, 0, none⟩) len cap, val, fl, fo, un, by', keys⟩, ten, sec, on, cl⟩, ⟨o1, ⟨o1, o2, o3, o4⟩, rfl⟩, .inr ⟨B, 0, cap, _, _, by rw [hil], hh, rfl, by simp, by rw [List.drop_zero, List.take_of_length_le (by simp)], .inl ⟨hble, by rw [hil]; exact hlc⟩⟩, vr _ _ hV _⟩
end
end Go.Proofs.YtilpiiafjehbnaaDoor

set_option maxRecDepth 100000
namespace Go.Proofs.YtilpiiafjehbnaaDoor
open Go.Ev Go.RowKit

theorem gor : NoGor Tryd.prog := noGor_of (by kernel_rfl)
theorem xok : XOK Tryd.prog outside := xok_cons Tryd.func41 (by kernel_rfl) (by kernel_rfl) (by kernel_rfl) (xok_noZero (e := 5) (t := 30) (ps := #[3]) Tryd.func42 (by kernel_rfl) (by kernel_rfl) (by kernel_rfl) (by kernel_rfl) (by kernel_rfl) xok_nil)

/-- a variable that the row lists -/
theorem laid_var {P : Program} {w : World} {n : String} {d : DataW Unit} : ∀ {l : List (String × DataW Unit)} {ps : List MemPlace}, DataW.LaidVars P w l ps → (n, d) ∈ l →
    ∃ g t cs fuel p, P.globalNamed n = some g ∧ (P.globals[g]?).map (·.type) = some t ∧ w.var? P n = some cs ∧ DataW.trod (fun _ => ()) P w 0 (fun _ => true) false fuel t cs.toList = some (d, p)
  | [], _, _, hm => by cases hm
  | (n', d') :: r, ps, h, hm => by
    obtain ⟨g, t, cs, fuel, p, q, h1, h2, h3, h4, h5, _⟩ := h
    rcases List.mem_cons.1 hm with e | hm
    · cases e; exact ⟨g, t, cs, fuel, p, h1, h2, h3, h4⟩
    · exact laid_var h5 hm
def powZ : List Int := (List.range 20).map fun i => ((10 ^ i : Nat) : Int)
theorem powZ_lay : (Rows.laid_internal_strconv_uint64pow10 : DataW Unit) = .agg (powZ.map fun n => .lit (.int .u64 n)) := by kernel_rfl
theorem u82 : Tryd.prog.underlying 82 = some (.array 20 24) := by kernel_rfl
/-- what the condition gives: the powers of ten -/
theorem pow_cell {W : World} {l : List (String × DataW Unit)} (hl : (l.all fun x => x.2.handleName?.isNone) = true) (hm : ("internal/strconv.uint64pow10", Rows.laid_internal_strconv_uint64pow10) ∈ l) (h : laidMetH Tryd.prog l W) (r : Nat) (hr : r < 20) : W.cell? ⟨1, r, none⟩ = some (.int .u64 ((10 ^ r : Nat) : Int)) := by
  rw [MakeChecks.laidMetH_plain _ _ _ hl] at h
  obtain ⟨ps, hv, _, _⟩ := h
  obtain ⟨g, t, cs, fuel, p, hg, ht, hv, hd⟩ := laid_var hv hm
  obtain rfl := Option.some.inj ((show Tryd.prog.globalNamed "internal/strconv.uint64pow10" = some 1 by kernel_rfl).symm.trans hg)
  obtain rfl := Option.some.inj ((show (Tryd.prog.globals[1]?).map (·.type) = some 82 by kernel_rfl).symm.trans ht)
  obtain ⟨xs, m, _, ex, _, hl, hel⟩ := DataW.trod_array u82 hd
  have hE := hel r hr
  rw [s24, Nat.mul_one, List.getElem?_eq_getElem (by omega)] at hE
  obtain ⟨z, e1, e2, _⟩ := DataW.trod_int u24 hE
  have hlen : powZ.length = 20 := by simp [powZ]
  rw [powZ_lay] at ex
  have e3 : (xs.map (·.1)) = powZ.map fun n => .lit (.int .u64 n) := (DataW.agg.inj (Prod.mk.inj ex).1).symm
  have e4 : (xs.map (·.1))[r]? = (powZ.map fun n => (DataW.lit (.int .u64 n) : DataW Unit))[r]? := by rw [e3]
  rw [List.getElem?_map, List.getElem?_map, List.getElem?_eq_getElem (by omega : r < xs.length), List.getElem?_eq_getElem (by omega : r < powZ.length), e2] at e4
  have hz : z = ((10 ^ r : Nat) : Int) := by
    simp only [Option.map_some, Option.some.injEq, DataW.lit.injEq, Lit.int.injEq, true_and] at e4
    rw [e4]
    unfold powZ
    rw [List.getElem_map, List.getElem_range]
  rw [World.var?_cell hg hv r, ← hz]
  have : cs.toList[r]? = some (.int .u64 z) := by
    have h0 : ((cs.toList.drop r).take 1)[0]? = some (.int .u64 z) := by rw [e1]; rfl
    simpa using h0
  simpa using this

section
variable {H : Type} {enc : TypeId × Value → H}
theorem ros_pow {W : World} (hc : ∀ r, r < 20 → W.cell? ⟨1, r, none⟩ = some (.int .u64 ((10 ^ r : Nat) : Int))) : RosOk W (powC, ⟨1, 0, 0, 0⟩) ∧ RosOk W ([], ⟨0, 0, 0, 0⟩) := by
  have hb := World.block_lt_of_cell? W _ (hc 0 (by omega))
  refine ⟨⟨hb, fun j v hj => ?_⟩, ⟨Nat.lt_trans (by decide : 0 < 1) hb, fun j v hj => by cases hj⟩⟩
  have hj' : j < 20 := by
    have := (List.getElem?_eq_some_iff.1 hj).1
    simpa [powC] using this
  rw [powC_at hj'] at hj
  cases hj
  exact ⟨by simpa using hc j hj', rfl⟩
/-- the walk -/
theorem textWrites_walk {W : World} (hc : ∀ r, r < 20 → W.cell? ⟨1, r, none⟩ = some (.int .u64 ((10 ^ r : Nat) : Int))) {n : Nat} {v : Value} {x : DataW H × List MemPlace} (hok : Value.okWide Tryd.prog W .any 0 28 v) (h : DataW.trod enc Tryd.prog W 0 (fun _ => true) true n 28 v.cells.toList = some x) :
    Calls Tryd.prog 3 #[v] W fun e W' => e = .returned (.bool true) ∧ Below W.heap.size W W' := by
  obtain ⟨o, p, q⟩ := request_at hok h
  obtain ⟨ho, hz⟩ := ros_pow hc
  let o0 : Option (List Value × CB) := some ([], ⟨0, 0, 0, 0⟩)
  let o1 : Option (List Value × CB) := some (powC, ⟨1, 0, 0, 0⟩)
  have r : Rel (rosσ [o0, o1, o]) (rosH [o0, o1, o]) W := ros_rel fun p' hp => by
    simp only [List.mem_cons, List.not_mem_nil, or_false] at hp
    rcases hp with hp | hp | hp
    · obtain rfl := Option.some.inj hp; exact hz
    · obtain rfl := Option.some.inj hp; exact ho
    · exact p p' hp.symm
  have g0 := ros_has (bs := [o0, o1, o]) (B := 0) (p := ([], ⟨0, 0, 0, 0⟩)) rfl
  have g1 := ros_has (bs := [o0, o1, o]) (B := 1) (p := (powC, ⟨1, 0, 0, 0⟩)) rfl
  obtain ⟨a, hr, hi, va⟩ := q 2 (rosσ [o0, o1, o]) (rosH [o0, o1, o]) fun p hp => ros_has (by rw [hp]; rfl)
  refine calls_of_sp gor Tryd.checked.mixed xok Tryd.func3 (by kernel_rfl) (law_law 2000 0 (by decide) (h := rosH [o0, o1, o]) hr hi g1.1) r (fun g hg => ?_) (.cons va (.nil _)) ros_ro
  have hg' : g < 2 := hg
  rcases (show g = 0 ∨ g = 1 by omega) with rfl | rfl
  · exact ⟨_, g0.2, rfl, rfl⟩
  · exact ⟨_, g1.2, rfl, rfl⟩
end
end Go.Proofs.YtilpiiafjehbnaaDoor
