import Derived.Test.YthofbmfcpfibdaaDoorWxI
set_option linter.unusedSimpArgs false
set_option linter.unusedVariables false
set_option maxRecDepth 100000
namespace Go.Proofs.YthofbmfcpfibdaaDoor
open Go.Ev Go.RowKit

theorem u27 : Tryd.prog.underlying 27 = some (.struct (fieldsOf Tryd.prog 27)) := by kernel_rfl
theorem u25 : Tryd.prog.underlying 25 = some (.struct (fieldsOf Tryd.prog 25)) := by kernel_rfl
theorem u48 : Tryd.prog.underlying 48 = some (.struct (fieldsOf Tryd.prog 48)) := by kernel_rfl
theorem u22 : Tryd.prog.underlying 22 = some (.slice 48) := by kernel_rfl
theorem u46 : Tryd.prog.underlying 46 = some (.int .u32) := by kernel_rfl
theorem u23 : Tryd.prog.underlying 23 = some (.int .u64) := by kernel_rfl
theorem u9 : Tryd.prog.underlying 9 = some .string := by kernel_rfl
theorem u5 : Tryd.prog.underlying 5 = some (.int .u8) := by kernel_rfl
theorem u3 : Tryd.prog.underlying 3 = some (.int .i64) := by kernel_rfl
theorem u4 : Tryd.prog.underlying 4 = some .bool := by kernel_rfl
theorem m27 : (fieldsOf Tryd.prog 27).toList.map (fun f => (f.type, f.offset)) = [(5, 0), (5, 1), (25, 2), (4, 5), (9, 6)] := by kernel_rfl
theorem m25 : (fieldsOf Tryd.prog 25).toList.map (fun f => (f.type, f.offset)) = [(5, 0), (22, 1), (23, 2)] := by kernel_rfl
theorem m48 : (fieldsOf Tryd.prog 48).toList.map (fun f => (f.type, f.offset)) = [(9, 0), (9, 1), (46, 2), (3, 3), (23, 4)] := by kernel_rfl
theorem s27 : Tryd.prog.cellsOf 27 = 7 := by kernel_rfl
theorem s25 : Tryd.prog.cellsOf 25 = 3 := by kernel_rfl
theorem s48 : Tryd.prog.cellsOf 48 = 5 := by kernel_rfl
theorem s22 : Tryd.prog.cellsOf 22 = 1 := by kernel_rfl
theorem s46 : Tryd.prog.cellsOf 46 = 1 := by kernel_rfl
theorem s23 : Tryd.prog.cellsOf 23 = 1 := by kernel_rfl
theorem s9 : Tryd.prog.cellsOf 9 = 1 := by kernel_rfl
theorem s5 : Tryd.prog.cellsOf 5 = 1 := by kernel_rfl
theorem s3 : Tryd.prog.cellsOf 3 = 1 := by kernel_rfl
theorem s4 : Tryd.prog.cellsOf 4 = 1 := by kernel_rfl
theorem ct27 : Tryd.prog.cellTypes Tryd.prog.depth 27 = some [5, 5, 5, 22, 23, 4, 9] := by kernel_rfl

section
variable {H : Type} {enc : TypeId × Value → H} {w : World} {base : Nat} {sp : Nat → Bool} {held : Bool}

theorem open_item {n : Nat} {cs : List Value} {x : DataW H × List MemPlace} (h : DataW.trod enc Tryd.prog w base sp held n 48 cs = some x) : ∃ it : Itm, it.ok ∧ cs = it.cells := by
  obtain ⟨hl, hf⟩ := trod_fields u48 m48 h
  rw [s48] at hl
  rcases cs with _ | ⟨c0, _ | ⟨c1, _ | ⟨c2, _ | ⟨c3, _ | ⟨c4, _ | ⟨c5, r⟩⟩⟩⟩⟩⟩ <;> simp at hl
  obtain ⟨m0, y0, h0⟩ := hf 0 9 0 rfl
  obtain ⟨m1, y1, h1⟩ := hf 1 9 1 rfl
  obtain ⟨m2, y2, h2⟩ := hf 2 46 2 rfl
  obtain ⟨m3, y3, h3⟩ := hf 3 3 3 rfl
  obtain ⟨m4, y4, h4⟩ := hf 4 23 4 rfl
  rw [s9] at h0 h1
  rw [s46] at h2
  rw [s3] at h3
  rw [s23] at h4
  obtain ⟨k, e0, _, _⟩ := DataW.trod_string u9 h0
  obtain ⟨v, e1, _, _⟩ := DataW.trod_string u9 h1
  obtain ⟨f, e2, _, w2⟩ := DataW.trod_int u46 h2
  obtain ⟨t, e3, _, w3⟩ := DataW.trod_int u3 h3
  obtain ⟨u, e4, _, w4⟩ := DataW.trod_int u23 h4
  simp at e0 e1 e2 e3 e4
  subst e0 e1 e2 e3 e4
  have := bounds_u32 w2
  have := bounds_i64 w3
  have := bounds_u64 w4
  exact ⟨⟨k, v, f, t, u⟩, ⟨⟨by simp only; omega, by simp only; omega⟩, ⟨by simp only; omega, by simp only; omega⟩, ⟨by simp only; omega, by simp only; omega⟩⟩, rfl⟩

theorem open_answer {n : Nat} {cs : List Value} {x : DataW H × List MemPlace} (h : DataW.trod enc Tryd.prog w base sp held n 27 cs = some x) :
    ∃ kind of rk num : Int, ∃ (yes : Bool) (key : ByteArray) (iv : Value), cs = [.int .u8 kind, .int .u8 of, .int .u8 rk, iv, .int .u64 num, .bool yes, .string key] ∧ (0 ≤ kind ∧ kind < 256) ∧ (0 ≤ of ∧ of < 256) ∧ (0 ≤ rk ∧ rk < 256) ∧ (0 ≤ num ∧ num < 18446744073709551616) ∧
      ∃ m y, DataW.trod enc Tryd.prog w base sp held m 22 [iv] = some y := by
  obtain ⟨hl, hf⟩ := trod_fields u27 m27 h
  rw [s27] at hl
  rcases cs with _ | ⟨c0, _ | ⟨c1, _ | ⟨c2, _ | ⟨c3, _ | ⟨c4, _ | ⟨c5, _ | ⟨c6, _ | ⟨c7, r⟩⟩⟩⟩⟩⟩⟩⟩ <;> simp at hl
  obtain ⟨m0, y0, h0⟩ := hf 0 5 0 rfl
  obtain ⟨m1, y1, h1⟩ := hf 1 5 1 rfl
  obtain ⟨m2, y2, h2⟩ := hf 2 25 2 rfl
  obtain ⟨m3, y3, h3⟩ := hf 3 4 5 rfl
  obtain ⟨m4, y4, h4⟩ := hf 4 9 6 rfl
  rw [s5] at h0 h1
  rw [s25] at h2
  rw [s4] at h3
  rw [s9] at h4
  obtain ⟨hl2, hf2⟩ := trod_fields u25 m25 h2
  obtain ⟨n0, z0, g0⟩ := hf2 0 5 0 rfl
  obtain ⟨n1, z1, g1⟩ := hf2 1 22 1 rfl
  obtain ⟨n2, z2, g2⟩ := hf2 2 23 2 rfl
  rw [s5] at g0
  rw [s22] at g1
  rw [s23] at g2
  obtain ⟨k, e0, _, w0⟩ := DataW.trod_int u5 h0
  obtain ⟨o, e1, _, w1⟩ := DataW.trod_int u5 h1
  obtain ⟨b, e3, _⟩ := DataW.trod_bool u4 h3
  obtain ⟨s, e4, _, _⟩ := DataW.trod_string u9 h4
  obtain ⟨rk, d0, _, v0⟩ := DataW.trod_int u5 g0
  obtain ⟨nm, d2, _, v2⟩ := DataW.trod_int u23 g2
  simp at e0 e1 e3 e4 d0 d2
  subst e0 e1 e3 e4 d0 d2
  have := bounds_u8 w0
  have := bounds_u8 w1
  have := bounds_u8 v0
  have := bounds_u64 v2
  exact ⟨k, o, rk, nm, b, s, c3, rfl, by omega, by omega, by omega, by omega, n1, z1, by simpa using g1⟩
end

theorem cellsOf_at : ∀ (l : List Itm) (j : Nat) (v : Value), (cellsOf l)[j]? = some v → ∃ (i k : Nat) (x : Itm), l[i]? = some x ∧ j = i * 5 + k ∧ k < 5 ∧ x.cells[k]? = some v
  | [], j, v, h => by simp [cellsOf] at h
  | x :: l, j, v, h => by
    have e : cellsOf (x :: l) = x.cells ++ cellsOf l := rfl
    rw [e] at h
    by_cases hj : j < 5
    · rw [List.getElem?_append_left (by simpa using hj)] at h
      exact ⟨0, j, x, rfl, by omega, hj, h⟩
    · rw [List.getElem?_append_right (by simp; omega)] at h
      obtain ⟨i, k, y, h1, h2, h3, h4⟩ := cellsOf_at l _ v h
      simp only [Itm.cells_len] at h2
      exact ⟨i + 1, k, y, by simpa using h1, by omega, h3, h4⟩
theorem item_cst {x : Itm} {k : Nat} {v : Value} (h : x.cells[k]? = some v) : cstOk v = true := by
  have := List.mem_of_getElem? h
  simp only [Itm.cells, List.mem_cons, List.not_mem_nil, or_false] at this
  rcases this with rfl | rfl | rfl | rfl | rfl <;> rfl

section
variable {H : Type} {enc : TypeId × Value → H}
theorem answer_at {W : World} {n : Nat} {v : Value} {x : DataW H × List MemPlace} (hok : Value.okWide Tryd.prog W .any 0 27 v) (h : DataW.trod enc Tryd.prog W 0 (fun _ => true) true n 27 v.cells.toList = some x) :
    ∃ o : Option (List Value × CB), (∀ p, o = some p → RosOk W p) ∧ ∀ (B : Nat) (σ : Sg) (h0 : Ev.H), (∀ p, o = some p → Has h0 B (.ro p.1) ∧ σ B = some p.2) → ∃ a : Ans, a.fit ∧ ItemsAt h0 a.r.iv a.r.items ∧ ones a.r.cells = true ∧ VR σ a.v v := by
  unfold Value.okWide at hok
  rw [u27] at hok
  obtain ⟨cs, rfl, hsz, ts, hts, _, hrow⟩ := hok
  rw [ct27] at hts
  cases hts
  obtain ⟨kind, of, rk, num, yes, key, iv, hcs, o1, o2, o3, o4, m, y, hs⟩ := open_answer h
  simp only [cells_agg] at hcs
  have vr : ∀ (σ : Sg) (iv' : Value), VR σ iv' iv → ∀ items, VR σ (Ans.v ⟨kind, of, ⟨rk, iv', num, items⟩, yes, key⟩) (.agg cs) := fun σ iv' hv items => by
    have hl : LR σ [Value.int .u8 kind, .int .u8 of, .int .u8 rk, iv', .int .u64 num, .bool yes, .string key] cs.toList := by
      rw [hcs]
      exact .cons (.int _ _) (.cons (.int _ _) (.cons (.int _ _) (.cons hv (.cons (.int _ _) (.cons (.bool _) (.cons (.string _) (.nil _)))))))
    refine .agg _ _ (by simpa [Ans.cells] using hl.1) fun i x y hx hy => hl.2 i x y (by simpa [Ans.cells] using hx) (by simpa using hy)
  rcases DataW.trod_slice u22 hs with ⟨e, _⟩ | ⟨a, len, cap, elems, rest, m', _, e, _, _, hlc, hcm, hlen, hel, _, _⟩
  · simp only [List.cons.injEq, and_true] at e
    subst e
    exact ⟨none, (fun p h => by cases h), fun B σ h0 _ => ⟨⟨kind, of, ⟨rk, .slice none 0 0, num, []⟩, yes, key⟩, ⟨by simp only; omega, fun x hx => by cases hx⟩, .inl ⟨rfl, rfl⟩, rfl, vr _ _ (.slNil _ _) _⟩⟩
  · simp only [List.cons.injEq, and_true] at e
    subst e
    -- where it lies
    have hcell : cs[3]? = some (.slice (some a) len cap) := by
      have : cs.toList[3]? = some (.slice (some a) len cap) := by rw [hcs]; rfl
      simpa using this
    obtain ⟨u, hu, hco⟩ := hrow 3 _ hcell
    have hu22 : u = 22 := by simpa using hu.symm
    subst hu22
    have hok2 : Cell.ok Tryd.prog W .any 0 22 (.slice (some a) len cap) := by
      unfold Cell.okWide at hco
      rw [u22] at hco
      exact hco
    unfold Cell.ok at hok2
    rw [u22] at hok2
    obtain ⟨_, _, _, hspot, row, cells, hshape, _⟩ := hok2
    have hblk : a.block < W.heap.size := by
      unfold World.shape? at hshape
      split at hshape
      · rename_i c el _ hh
        exact (Array.getElem?_eq_some_iff.1 hh).1
      · cases hshape
    have hone : ∀ i : Fin len, ∃ it : Itm, it.ok ∧ W.cells? 0 (a.add (i.val * 5)) 5 = some it.cells := fun i => by
      have h1 := hel i.val i.isLt
      rw [s48, List.getElem?_eq_getElem (by omega)] at h1
      simp only [Option.bind_eq_some_iff] at h1
      obtain ⟨c5, h2, h3⟩ := h1
      obtain ⟨it, h4, rfl⟩ := open_item h3
      exact ⟨it, h4, h2⟩
    obtain ⟨f, hf⟩ := Classical.axiomOfChoice hone
    let items := List.ofFn f
    have hil : items.length = len := by simp [items]
    have hit : ∀ (i : Nat) (x : Itm), items[i]? = some x → x.ok ∧ ∀ k, k < 5 → W.cell? ⟨a.block, a.off + (i * 5 + k), none⟩ = x.cells[k]? := fun i x hx => by
      have hlt : i < len := by
        by_cases hlt : i < len
        · exact hlt
        · rw [List.getElem?_eq_none (by omega)] at hx; cases hx
      have hx' : f ⟨i, hlt⟩ = x := by simpa [items, hlt] using hx
      obtain ⟨h1, h2⟩ := hf ⟨i, hlt⟩
      rw [hx'] at h1 h2
      refine ⟨h1, fun k hk => ?_⟩
      have h3 := (World.cells?_some h2).2.2 k hk
      rw [← h3]
      obtain ⟨ab, ao, asp⟩ := a
      simp only at hspot
      subst hspot
      simp only [Addr.add]
      by_cases e1 : i * 5 = 0
      · by_cases e2 : k = 0
        · simp [e1, e2]
        · simp [e1, e2]
      · by_cases e2 : k = 0
        · simp [e1, e2]
        · simp [e1, e2, Nat.add_assoc]
    have hcells : ∀ j v, (cellsOf items)[j]? = some v → W.cell? ⟨a.block, a.off + j, none⟩ = some v ∧ cstOk v = true := fun j v hv => by
      obtain ⟨i, k, x, h1, rfl, h3, h4⟩ := cellsOf_at items j v hv
      exact ⟨by rw [(hit i x h1).2 k h3, h4], item_cst h4⟩
    refine ⟨some (cellsOf items, ⟨a.block, a.off, 5 * len, 5⟩), fun p h => ?_, fun B σ h0 hB => ?_⟩
    · simp only [Option.some.injEq] at h; subst h; exact ⟨hblk, hcells⟩
    obtain ⟨hh, hσ⟩ := hB _ rfl
    have hV : VR σ (.slice (some ⟨B, 0, none⟩) len cap) (.slice (some a) len cap) := by
      have := VR.sl (σ := σ) B 0 len cap ⟨a.block, a.off, 5 * len, 5⟩ hσ (by have := hcm; unfold maxLen at this; unfold OPEN; omega)
      obtain ⟨ab, ao, asp⟩ := a
      simp only at hspot
      subst hspot
      exact this
    refine ⟨⟨kind, of, ⟨rk, .slice (some ⟨B, 0, none⟩) len cap, num, items⟩, yes, key⟩, ⟨by simp only; omega, fun x hx => ?_⟩, .inr ⟨B, 0, cap, _, _, by rw [hil], hh, rfl, by rw [cellsOf_len, Nat.zero_add]; exact Nat.le_refl _, ?_⟩, rfl, vr _ _ hV _⟩
    · obtain ⟨i, hi⟩ := List.getElem?_of_mem hx
      exact (hit i x hi).1
    · rw [List.drop_zero, List.take_of_length_le (by rw [cellsOf_len]; exact Nat.le_refl _)]

end
end Go.Proofs.YthofbmfcpfibdaaDoor

set_option maxRecDepth 100000
namespace Go.Proofs.YthofbmfcpfibdaaDoor
open Go.Ev Go.RowKit

theorem gor : NoGor Tryd.prog := noGor_of (by kernel_rfl)
theorem xok : XOK Tryd.prog outside := xok_cons Tryd.func78 (by kernel_rfl) (by kernel_rfl) (by kernel_rfl) (xok_noZero (e := 5) (t := 29) (ps := #[3]) Tryd.func86 (by kernel_rfl) (by kernel_rfl) (by kernel_rfl) (by kernel_rfl) (by kernel_rfl) xok_nil)

/-- a variable that the row lists -/
theorem laid_var {P : Program} {w : World} {n : String} {d : DataW Unit} : ∀ {l : List (String × DataW Unit)} {ps : List MemPlace}, DataW.LaidVars P w l ps → (n, d) ∈ l →
    ∃ g t cs fuel p, P.globalNamed n = some g ∧ (P.globals[g]?).map (·.type) = some t ∧ w.var? P n = some cs ∧ DataW.trod (fun _ => ()) P w 0 (fun _ => true) false fuel t cs.toList = some (d, p)
  | [], _, _, hm => by cases hm
  | (n', d') :: r, ps, h, hm => by
    obtain ⟨g, t, cs, fuel, p, q, h1, h2, h3, h4, h5, _⟩ := h
    rcases List.mem_cons.1 hm with e | hm
    · cases e; exact ⟨g, t, cs, fuel, p, h1, h2, h3, h4⟩
    · exact laid_var h5 hm
def powZ : List Int := (List.range 20).map fun i => ((10 ^ i : Nat) : Int)
theorem powZ_lay : (Rows.laid_internal_strconv_uint64pow10 : DataW Unit) = .agg (powZ.map fun n => .lit (.int .u64 n)) := by kernel_rfl
theorem u127 : Tryd.prog.underlying 127 = some (.array 20 23) := by kernel_rfl
/-- what the condition gives: the powers of ten -/
theorem pow_cell {W : World} {l : List (String × DataW Unit)} (hl : (l.all fun x => x.2.handleName?.isNone) = true) (hm : ("internal/strconv.uint64pow10", Rows.laid_internal_strconv_uint64pow10) ∈ l) (h : laidMetH Tryd.prog l W) (r : Nat) (hr : r < 20) : W.cell? ⟨1, r, none⟩ = some (.int .u64 ((10 ^ r : Nat) : Int)) := by
  rw [MakeChecks.laidMetH_plain _ _ _ hl] at h
  obtain ⟨ps, hv, _, _⟩ := h
  obtain ⟨g, t, cs, fuel, p, hg, ht, hv, hd⟩ := laid_var hv hm
  obtain rfl := Option.some.inj ((show Tryd.prog.globalNamed "internal/strconv.uint64pow10" = some 1 by kernel_rfl).symm.trans hg)
  obtain rfl := Option.some.inj ((show (Tryd.prog.globals[1]?).map (·.type) = some 127 by kernel_rfl).symm.trans ht)
  obtain ⟨xs, m, _, ex, _, hl, hel⟩ := DataW.trod_array u127 hd
  have hE := hel r hr
  rw [s23, Nat.mul_one, List.getElem?_eq_getElem (by omega)] at hE
  obtain ⟨z, e1, e2, _⟩ := DataW.trod_int u23 hE
  have hlen : powZ.length = 20 := by simp [powZ]
  rw [powZ_lay] at ex
  have e3 : (xs.map (·.1)) = powZ.map fun n => .lit (.int .u64 n) := (DataW.agg.inj (Prod.mk.inj ex).1).symm
  have e4 : (xs.map (·.1))[r]? = (powZ.map fun n => (DataW.lit (.int .u64 n) : DataW Unit))[r]? := by rw [e3]
  rw [List.getElem?_map, List.getElem?_map, List.getElem?_eq_getElem (by omega : r < xs.length), List.getElem?_eq_getElem (by omega : r < powZ.length), e2] at e4
  have hz : z = ((10 ^ r : Nat) : Int) := by
    simp only [Option.map_some, Option.some.injEq, DataW.lit.injEq, Lit.int.injEq, true_and] at e4
    rw [e4]
    unfold powZ
    rw [List.getElem_map, List.getElem_range]
  rw [World.var?_cell hg hv r, ← hz]
  have : cs.toList[r]? = some (.int .u64 z) := by
    have h0 : ((cs.toList.drop r).take 1)[0]? = some (.int .u64 z) := by rw [e1]; rfl
    simpa using h0
  simpa using this

section
variable {H : Type} {enc : TypeId × Value → H}
theorem ros_pow {W : World} (hc : ∀ r, r < 20 → W.cell? ⟨1, r, none⟩ = some (.int .u64 ((10 ^ r : Nat) : Int))) : RosOk W (powC, ⟨1, 0, 0, 0⟩) ∧ RosOk W ([], ⟨0, 0, 0, 0⟩) := by
  have hb := World.block_lt_of_cell? W _ (hc 0 (by omega))
  refine ⟨⟨hb, fun j v hj => ?_⟩, ⟨Nat.lt_trans (by decide : 0 < 1) hb, fun j v hj => by cases hj⟩⟩
  have hj' : j < 20 := by
    have := (List.getElem?_eq_some_iff.1 hj).1
    simpa [powC] using this
  rw [powC_at hj'] at hj
  cases hj
  exact ⟨by simpa using hc j hj', rfl⟩
/-- the walk -/
theorem wordsWrites_walk {W : World} (hc : ∀ r, r < 20 → W.cell? ⟨1, r, none⟩ = some (.int .u64 ((10 ^ r : Nat) : Int))) {n : Nat} {v : Value} {x : DataW H × List MemPlace} (hok : Value.okWide Tryd.prog W .any 0 27 v) (h : DataW.trod enc Tryd.prog W 0 (fun _ => true) true n 27 v.cells.toList = some x) :
    Calls Tryd.prog 3 #[v] W fun e W' => e = .returned (.bool true) ∧ Below W.heap.size W W' := by
  obtain ⟨o, p, q⟩ := answer_at hok h
  obtain ⟨ho, hz⟩ := ros_pow hc
  let o0 : Option (List Value × CB) := some ([], ⟨0, 0, 0, 0⟩)
  let o1 : Option (List Value × CB) := some (powC, ⟨1, 0, 0, 0⟩)
  have r : Rel (rosσ [o0, o1, o]) (rosH [o0, o1, o]) W := ros_rel fun p' hp => by
    simp only [List.mem_cons, List.not_mem_nil, or_false] at hp
    rcases hp with hp | hp | hp
    · obtain rfl := Option.some.inj hp; exact hz
    · obtain rfl := Option.some.inj hp; exact ho
    · exact p p' hp.symm
  have g0 := ros_has (bs := [o0, o1, o]) (B := 0) (p := ([], ⟨0, 0, 0, 0⟩)) rfl
  have g1 := ros_has (bs := [o0, o1, o]) (B := 1) (p := (powC, ⟨1, 0, 0, 0⟩)) rfl
  obtain ⟨a, hf, hi, hones, va⟩ := q 2 (rosσ [o0, o1, o]) (rosH [o0, o1, o]) fun p hp => ros_has (by rw [hp]; rfl)
  have hlt : ∀ b, blk a.r.iv b → b < (rosH [o0, o1, o]).next := fun b hb => by
    rcases hi with ⟨e, _⟩ | ⟨b', o', c, x, cs, e, hx, _⟩
    · rw [e] at hb; simp at hb
    · rw [e] at hb; simp at hb; subst hb; exact hx.1
  refine calls_of_sp gor Tryd.checked.mixed xok Tryd.func3 (by kernel_rfl) (law_law 2000 0 (by decide) (h := rosH [o0, o1, o]) hf hi hlt hones g1.1) r (fun g hg => ?_) (.cons va (.nil _)) ros_ro
  have hg' : g < 2 := hg
  rcases (show g = 0 ∨ g = 1 by omega) with rfl | rfl
  · exact ⟨_, g0.2, rfl, rfl⟩
  · exact ⟨_, g1.2, rfl, rfl⟩
end
end Go.Proofs.YthofbmfcpfibdaaDoor
