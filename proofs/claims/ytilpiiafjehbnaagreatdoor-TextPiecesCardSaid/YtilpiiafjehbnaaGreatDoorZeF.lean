import Derived.Test.YtilpiiafjehbnaaGreatDoorZeB
set_option linter.unusedSimpArgs false
set_option linter.unusedVariables false
namespace Go.Proofs.YtilpiiafjehbnaaGreatDoor
open Go.Ev
def PS.sum (s : PS) : Nat := s.keys.length + s.ws.length
theorem word_sum' (s : PS) : s.word.2.sum ≤ s.sum := by
 unfold PS.word PS.sum
 split
 · exact Nat.le_refl _
 · rename_i p r hws
   show s.keys.length + r.length ≤ s.keys.length + s.ws.length
   rw [hws, List.length_cons]; omega
theorem num_sum' (s : PS) (m : Nat) : (s.num m).2.sum ≤ s.sum := num_sum s m
theorem key_sum' (s : PS) : s.key.sum ≤ s.sum + 1 := key_sum s
theorem all_sum : ∀ (f : Nat) (s : PS), (PS.all f s).sum ≤ s.sum
 | 0, s => Nat.le_refl _
 | f + 1, s => by
   unfold PS.all
   split
   · exact Nat.le_refl _
   · rename_i h
     have := all_sum f s.key
     have h2 := key_ws h
     unfold PS.sum at this ⊢
     omega
theorem puts_sum (s : PS) : s.puts.sum ≤ s.sum + 1 :=
 Nat.le_trans (num_sum' s.key.flagsN.foN 512) (Nat.le_trans (num_sum' s.key.flagsN 1099511627776) (Nat.le_trans (num_sum' s.key 4294967295) (key_sum' s)))
theorem cmdL_sum : ∀ x ∈ cmdL, ∀ s : PS, (x.2 s).sum ≤ s.sum + 1 := by
 intro x hx s
 simp only [cmdL, List.mem_cons, List.not_mem_nil, or_false] at hx
 rcases hx with rfl | rfl | rfl | rfl | rfl | rfl | rfl | rfl | rfl | rfl | rfl | rfl | rfl | rfl | rfl
 · exact Nat.le_succ _
 · exact Nat.le_trans (num_sum' ({ s with kind := 1, ck := 9 } : PS).key 1099511627776) (key_sum' _)
 · exact Nat.le_trans (num_sum' ({ s with kind := 1, ck := 7 } : PS).key 18446744073709551615) (key_sum' _)
 · exact Nat.le_trans (num_sum' ({ s with kind := 1, ck := 6 } : PS).key 18446744073709551615) (key_sum' _)
 · exact Nat.le_trans (num_sum' ({ s with kind := 1, ck := 8 } : PS).key 512) (key_sum' _)
 · exact Nat.le_trans (num_sum' ({ s with kind := 1, ck := 5 } : PS).puts 18446744073709551615) (puts_sum _)
 · exact puts_sum ({ s with kind := 1, ck := 4 } : PS)
 · exact puts_sum ({ s with kind := 1, ck := 3 } : PS)
 · exact puts_sum ({ s with kind := 1, ck := 2 } : PS)
 · exact Nat.le_trans (all_sum _ _) (key_sum' ({ s with kind := 1, ck := 10 } : PS))
 · exact Nat.le_trans (all_sum _ _) (key_sum' ({ s with kind := 1, ck := 1 } : PS))
 · exact Nat.le_succ _
 · exact Nat.le_succ _
 · exact Nat.le_succ_of_le (word_sum' s)
 · exact Nat.le_succ_of_le (Nat.le_trans (word_sum' (s.num 3).2) (num_sum' s 3))
theorem lineP_keys (l : List UInt8) : (lineP l).1.keys.length ≤ l.length + 2 := by
 unfold lineP
 split
 · exact Nat.zero_le _
 · rename_i E e
   split
   · exact Nat.zero_le _
   · obtain ⟨x, hx, rfl⟩ := lookL_mem _ _ _ e
     have h1 := cmdL_sum x hx (PS.init l).word.2
     have h2 := word_sum' (PS.init l)
     have h3 := (cut_len l).1
     have h4 : (PS.init l).sum = (cutS l).length := Nat.zero_add _
     show (x.2 (PS.init l).word.2).keys.length ≤ _
     have h5 : (x.2 (PS.init l).word.2).keys.length ≤ (x.2 (PS.init l).word.2).sum := Nat.le_add_right _ _
     omega
theorem nextP_keys (b : List UInt8) : (nextP b).1.keys.length ≤ 1000 := by
 rcases crlf_cases b with hc | ⟨i, hc⟩
 · rw [nextP_neg hc]
   split <;> exact Nat.zero_le _
 · have h1 := (crlf_pos hc)
   have h2 : (b.take i).length ≤ 514 := by
     rw [List.length_take]
     have := h1.1
     omega
   have h3 := lineP_keys (b.take i)
   rw [nextP_pos hc]
   split
   · exact Nat.zero_le _
   · split
     · show (lineP (b.take i)).1.keys.length ≤ _; omega
     · split
       · exact Nat.zero_le _
       · split
         · exact Nat.zero_le _
         · show (lineP (b.take i)).1.keys.length ≤ _; omega
theorem allP_keys (b : List UInt8) : ∀ (f at_ : Nat) (xs : List RQ), (∀ q ∈ xs, q.keys.length ≤ 1000) → xs.length ≤ at_ → at_ ≤ b.length → (∀ q ∈ (allP b f at_ xs).1, q.keys.length ≤ 1000) ∧ (allP b f at_ xs).1.length ≤ (allP b f at_ xs).2 ∧ (allP b f at_ xs).2 ≤ b.length
 | 0, at_, xs, h, h1, h2 => ⟨h, h1, h2⟩
 | f + 1, at_, xs, h, h1, h2 => by
   have hx : ∀ q ∈ xs ++ [(nextP (b.drop at_)).1], q.keys.length ≤ 1000 := fun q hq => by
     rcases List.mem_append.1 hq with hq | hq
     · exact h q hq
     · simp at hq; subst hq; exact nextP_keys _
   have hle := nextP_le (b.drop at_)
   rw [List.length_drop] at hle
   unfold allP
   split
   · exact ⟨h, h1, h2⟩
   · rename_i g
     have hl : (xs ++ [(nextP (b.drop at_)).1]).length ≤ at_ + (nextP (b.drop at_)).2 := by
       rw [List.length_append]; show xs.length + 1 ≤ _; omega
     split
     · exact ⟨hx, hl, by show at_ + _ ≤ _; omega⟩
     · exact allP_keys b f _ _ hx hl (by omega)
theorem allE_keys (b : List UInt8) : (∀ q ∈ (allE b).1, q.keys.length ≤ 1000) ∧ (allE b).1.length ≤ (allE b).2.1 ∧ (allE b).2.1 ≤ b.length := by
 unfold allE
 split
 · exact ⟨fun q hq => by simp at hq, Nat.zero_le _, Nat.zero_le _⟩
 · exact allP_keys b (b.length + 1) 0 [] (fun q hq => by simp at hq) (Nat.zero_le _) (Nat.zero_le _)
theorem t3 (x y z : Value) (i : Nat) : tupNth i (.tuple #[x, y, z]) = [x, y, z][i]? := tupNth_tuple i [x, y, z]
end Go.Proofs.YtilpiiafjehbnaaGreatDoor
set_option maxRecDepth 100000
namespace Go.Proofs.YtilpiiafjehbnaaGreatDoor
open Go.Ev Go.RowKit
theorem gor : NoGor Tryz.prog := noGor_of (by kernel_rfl)
theorem xok : XOK Tryz.prog outside := xok_index Tryz.func45 (by kernel_rfl) (by kernel_rfl) (by kernel_rfl) (by kernel_rfl) (xok_cons Tryz.func62 (by kernel_rfl) (by kernel_rfl) (by kernel_rfl) (xok_cons Tryz.func83 (by kernel_rfl) (by kernel_rfl) (by kernel_rfl) (xok_noZero (e := 5) (t := 34) (ps := #[3]) Tryz.func84 (by kernel_rfl) (by kernel_rfl) (by kernel_rfl) (by kernel_rfl) (by kernel_rfl) (xok_cons Tryz.func102 (by kernel_rfl) (by kernel_rfl) (by kernel_rfl) (xok_index Tryz.func111 (by kernel_rfl) (by kernel_rfl) (by kernel_rfl) (by kernel_rfl) (xok_cons Tryz.func122 (by kernel_rfl) (by kernel_rfl) (by kernel_rfl) (xok_nil)))))))
theorem u34 : Tryz.prog.underlying 34 = some (.slice 5) := by kernel_rfl
theorem u5 : Tryz.prog.underlying 5 = some (.int .u8) := by kernel_rfl
theorem u24 : Tryz.prog.underlying 24 = some (.int .u64) := by kernel_rfl
theorem s24 : Tryz.prog.cellsOf 24 = 1 := by kernel_rfl
theorem s5 : Tryz.prog.cellsOf 5 = 1 := by kernel_rfl
section
variable {H : Type} {enc : TypeId × Value → H}
theorem bytes_at {W : World} {n : Nat} {v : Value} {x : DataW H × List MemPlace} (hok : Value.okWide Tryz.prog W .any 0 34 v) (h : DataW.trod enc Tryz.prog W 0 (fun _ => true) true n 34 v.cells.toList = some x) :
   ∃ o : Option (List Value × CB), (∀ p, o = some p → RosOk W p) ∧ ∀ (B : Nat) (σ : Sg) (h0 : Ev.H), (∀ p, o = some p → Has h0 B (.ro p.1) ∧ σ B = some p.2) → ∃ (v' : Value) (l : List UInt8), Rd h0 v' l ∧ VR σ v' v := by
 have hok2 : Cell.ok Tryz.prog W .any 0 34 v := by
   unfold Value.okWide at hok
   rw [u34] at hok
   unfold Cell.okWide at hok
   rw [u34] at hok
   exact hok
 rcases DataW.trod_slice u34 h with ⟨e, _⟩ | ⟨a, len, cap, elems, rest, m', _, e, _, _, hlc, hcm, hlen, hel, _, _⟩
 · have hv : v = .slice none 0 0 := by
     cases v <;> simp [Value.cells] at e
     case slice => simp_all
     case agg => exfalso; unfold Cell.ok at hok2; rw [u34] at hok2; exact hok2
   subst hv
   exact ⟨none, (fun p h => by cases h), fun B σ h0 _ => ⟨.slice none 0 0, [], .inl ⟨rfl, rfl⟩, .slNil _ _⟩⟩
 · have hv : v = .slice (some a) len cap := by
     cases v <;> simp [Value.cells] at e
     case slice => simp_all
     case agg => exfalso; unfold Cell.ok at hok2; rw [u34] at hok2; exact hok2
   subst hv
   unfold Cell.ok at hok2
   rw [u34] at hok2
   obtain ⟨_, _, _, hspot, row, cells, hshape, _⟩ := hok2
   have hblk : a.block < W.heap.size := by
     unfold World.shape? at hshape
     split at hshape
     · rename_i c el _ hh
       exact (Array.getElem?_eq_some_iff.1 hh).1
     · cases hshape
   have hone : ∀ i : Fin len, ∃ y : UInt8, W.cells? 0 (a.add (i.val * 1)) 1 = some [bv y] := fun i => by
     have h1 := hel i.val i.isLt
     rw [s5, List.getElem?_eq_getElem (by omega)] at h1
     simp only [Option.bind_eq_some_iff] at h1
     obtain ⟨c5, h2, h3⟩ := h1
     obtain ⟨z, rfl, _, w⟩ := DataW.trod_int u5 h3
     have := bounds_u8 w
     refine ⟨UInt8.ofNat z.toNat, ?_⟩
     have hz : bv (UInt8.ofNat z.toNat) = .int .u8 z := by
       unfold bv
       congr 1
       rw [UInt8.toNat_ofNat_of_lt' (by simp [UInt8.size]; omega)]
       omega
     rw [hz]; exact h2
   obtain ⟨f, hf⟩ := Classical.axiomOfChoice hone
   let l := List.ofFn f
   have hil : l.length = len := by simp [l]
   have hcells : ∀ j v, (l.map bv)[j]? = some v → W.cell? ⟨a.block, a.off + j, none⟩ = some v ∧ cstOk v = true := fun j v hv => by
     rw [List.getElem?_map] at hv
     obtain ⟨y, hy, rfl⟩ := Option.map_eq_some_iff.1 hv
     have hlt : j < len := by
       by_cases hlt : j < len
       · exact hlt
       · rw [List.getElem?_eq_none (by omega)] at hy; cases hy
     have hy' : f ⟨j, hlt⟩ = y := by simpa [l, hlt] using hy
     have h2 := hf ⟨j, hlt⟩
     rw [hy'] at h2
     refine ⟨?_, rfl⟩
     have h3 := (World.cells?_some h2).2.2 0 (by omega)
     have e0 : [bv y][0]? = some (bv y) := rfl
     rw [e0] at h3
     rw [← h3]
     obtain ⟨ab, ao, asp⟩ := a
     simp only at hspot
     subst hspot
     simp only [Addr.add, Nat.mul_one]
     by_cases e1 : j = 0
     · simp [e1]
     · simp [e1]
   have hcO : cap < OPEN := by have := hcm; unfold maxLen at this; unfold OPEN; omega
   have hble : Nat.ble OPEN cap = false := by
     rw [Bool.eq_false_iff]; intro e; have := Nat.le_of_ble_eq_true e; omega
   refine ⟨some (l.map bv, ⟨a.block, a.off, 1 * len, 1⟩), fun p h => ?_, fun B σ h0 hB => ?_⟩
   · simp only [Option.some.injEq] at h; subst h; exact ⟨hblk, hcells⟩
   obtain ⟨hh, hσ⟩ := hB _ rfl
   have hV : VR σ (.slice (some ⟨B, 0, none⟩) len cap) (.slice (some a) len cap) := by
     have := VR.sl (σ := σ) B 0 len cap ⟨a.block, a.off, 1 * len, 1⟩ hσ hcO
     obtain ⟨ab, ao, asp⟩ := a
     simp only at hspot
     subst hspot
     exact this
   exact ⟨.slice (some ⟨B, 0, none⟩) len cap, l, .inr ⟨B, 0, cap, _, _, by rw [hil], hh, rfl, by simp, by rw [List.drop_zero, List.take_of_length_le (by simp)], .inr ⟨hble, by omega⟩⟩, hV⟩
end
theorem star : "*" ++ "errors.errorString" = "*errors.errorString" := by decide
theorem row162 (u : TypeId) (h : Tryz.prog.typeName? 3 u = some "*errors.errorString") : u = 162 :=
 Go.typeName_ptr_named (nm := "errors.errorString") (by rw [star]; kernel_rfl) (by kernel_rfl) (by decide) u (by rw [star]; exact h)
theorem u162 : Tryz.prog.underlying 162 = some (.pointer 164) := by kernel_rfl
noncomputable def msOf : Array (String × TypeId) := match Tryz.prog.underlying 77 with | some (.interface ms) => ms | _ => #[]
theorem u77 : Tryz.prog.underlying 77 = some (.interface msOf) := by kernel_rfl
theorem err_cell {n : String} {text : List UInt8} {r : List (String × DataW Unit)} {W : World} {g : Nat}
   (h : laidMet Tryz.prog ((n, .iface "*errors.errorString" (.ptr (.agg [.lit (.string text)]))) :: r) W)
   (hg : Tryz.prog.globalNamed n = some g) (ht : (Tryz.prog.globals[g]?).map (·.type) = some 77) :
   ∃ a : Addr, W.cell? ⟨g, 0, none⟩ = some (.iface 162 (.pointer (some a))) ∧ a.spot = none ∧ a.block < W.heap.size := by
 obtain ⟨ps, ⟨g0, t0, cs0, f0, p0, q0, hg0, ht0, hv0, hd0, _, e0⟩, _, hrows⟩ := h
 obtain rfl := Option.some.inj (hg.symm.trans hg0)
 obtain rfl := Option.some.inj (ht.symm.trans ht0)
 subst e0
 obtain ⟨l0⟩ := cs0
 have hi := u77
 obtain ⟨f1, u, v, rfl, hn, h1⟩ := iface_of_trod hi hd0
 obtain rfl := row162 u hn
 have hc : W.cell? ⟨g, 0, none⟩ = some (.iface 162 v) := by simpa using World.var?_cell hg0 hv0 0
 have ok : Value.okWide Tryz.prog W .any 0 162 v := (hrows g 0 (by simp [MemPlace.row])).2 162 v hc
 obtain ⟨f2, a, cs', q, hv, hcells, h2, _⟩ := ptr_of_trod u162 h1
 unfold Value.okWide at ok
 simp only [u162] at ok
 unfold Cell.okWide at ok
 simp only [u162] at ok
 have hv' : v = .pointer (some a) := by
   cases v <;> simp [Value.cells, Cell.ok] at ok hv
   subst hv
   rfl
 subst hv'
 unfold Cell.ok at ok
 rw [u162] at ok
 obtain ⟨_, hspot, row, cells, hshape, _⟩ := ok
 refine ⟨a, hc, hspot, ?_⟩
 unfold World.shape? at hshape
 split at hshape
 · rename_i c el _ hh
   exact (Array.getElem?_eq_some_iff.1 hh).1
 · cases hshape
theorem ros_relV {w : World} {bs : Ros} (hv : ∀ p, some p ∈ bs → p.2.blk < w.heap.size ∧ ∀ j v, p.1[j]? = some v → ∃ v', w.cell? ⟨p.2.blk, p.2.off + j, none⟩ = some v' ∧ VR (rosσ bs) v v') : Rel (rosσ bs) (rosH bs) w := by
 refine ⟨fun B hB => ?_, fun B c h => ?_, fun B x hx => ?_, fun B x B' x' c c' hx hm => ?_⟩
 · have hB : bs.length ≤ B := hB
   simp [rosσ, List.getElem?_eq_none hB]
 · simp only [rosσ] at h
   split at h
   · rename_i p hp
     simp only [Option.some.injEq] at h
     subst h
     exact (hv p (List.mem_of_getElem? hp)).1
   · cases h
 · obtain ⟨_, p, hp, rfl⟩ := rosO_get bs 0 B x hx
   rw [Nat.sub_zero] at hp
   exact ⟨p.2, (ros_has hp).2, fun j v h => (hv p (List.mem_of_getElem? hp)).2 j v h⟩
 · rw [ros_ro B x hx] at hm; cases hm
theorem ros_cst {w : World} {σ : Sg} {p : List Value × CB} (h : RosOk w p) : p.2.blk < w.heap.size ∧ ∀ j v, p.1[j]? = some v → ∃ v', w.cell? ⟨p.2.blk, p.2.off + j, none⟩ = some v' ∧ VR σ v v' :=
 ⟨h.1, fun j v hj => ⟨v, (h.2 j v hj).1, cstOk_vr (h.2 j v hj).2⟩⟩
theorem laid_var {P : Program} {w : World} {n : String} {d : DataW Unit} : ∀ {l : List (String × DataW Unit)} {ps : List MemPlace}, DataW.LaidVars P w l ps → (n, d) ∈ l →
   ∃ g t cs fuel p, P.globalNamed n = some g ∧ (P.globals[g]?).map (·.type) = some t ∧ w.var? P n = some cs ∧ DataW.trod (fun _ => ()) P w 0 (fun _ => true) false fuel t cs.toList = some (d, p)
 | [], _, _, hm => by cases hm
 | (n', d') :: r, ps, h, hm => by
   obtain ⟨g, t, cs, fuel, p, q, h1, h2, h3, h4, h5, _⟩ := h
   rcases List.mem_cons.1 hm with e | hm
   · cases e; exact ⟨g, t, cs, fuel, p, h1, h2, h3, h4⟩
   · exact laid_var h5 hm
def powZ : List Int := (List.range 20).map fun i => ((10 ^ i : Nat) : Int)
theorem powZ_lay : (Rows.laid_internal_strconv_uint64pow10 : DataW Unit) = .agg (powZ.map fun n => .lit (.int .u64 n)) := by kernel_rfl
theorem uPOW : Tryz.prog.underlying 122 = some (.array 20 24) := by kernel_rfl
theorem pow_cell {W : World} {l : List (String × DataW Unit)} (hl : (l.all fun x => x.2.handleName?.isNone) = true) (hm : ("internal/strconv.uint64pow10", Rows.laid_internal_strconv_uint64pow10) ∈ l) (h : laidMetH Tryz.prog l W) (r : Nat) (hr : r < 20) : W.cell? ⟨1, r, none⟩ = some (.int .u64 ((10 ^ r : Nat) : Int)) := by
 rw [MakeChecks.laidMetH_plain _ _ _ hl] at h
 obtain ⟨ps, hv, _, _⟩ := h
 obtain ⟨g, t, cs, fuel, p, hg, ht, hv, hd⟩ := laid_var hv hm
 obtain rfl := Option.some.inj ((show Tryz.prog.globalNamed "internal/strconv.uint64pow10" = some 1 by kernel_rfl).symm.trans hg)
 obtain rfl := Option.some.inj ((show (Tryz.prog.globals[1]?).map (·.type) = some 122 by kernel_rfl).symm.trans ht)
 obtain ⟨xs, m, _, ex, _, hl, hel⟩ := DataW.trod_array uPOW hd
 have hE := hel r hr
 rw [s24, Nat.mul_one, List.getElem?_eq_getElem (by omega)] at hE
 obtain ⟨z, e1, e2, _⟩ := DataW.trod_int u24 hE
 have hlen : powZ.length = 20 := by simp [powZ]
 rw [powZ_lay] at ex
 have e3 : (xs.map (·.1)) = powZ.map fun n => .lit (.int .u64 n) := (DataW.agg.inj (Prod.mk.inj ex).1).symm
 have e4 : (xs.map (·.1))[r]? = (powZ.map fun n => (DataW.lit (.int .u64 n) : DataW Unit))[r]? := by rw [e3]
 rw [List.getElem?_map, List.getElem?_map, List.getElem?_eq_getElem (by omega : r < xs.length), List.getElem?_eq_getElem (by omega : r < powZ.length), e2] at e4
 have hz : z = ((10 ^ r : Nat) : Int) := by
   simp only [Option.map_some, Option.some.injEq, DataW.lit.injEq, Lit.int.injEq, true_and] at e4
   rw [e4]
   unfold powZ
   rw [List.getElem_map, List.getElem_range]
 rw [World.var?_cell hg hv r, ← hz]
 have : cs.toList[r]? = some (.int .u64 z) := by
   have h0 : ((cs.toList.drop r).take 1)[0]? = some (.int .u64 z) := by rw [e1]; rfl
   simpa using h0
 simpa using this
theorem pow_ros {W : World} (hc : ∀ r, r < 20 → W.cell? ⟨1, r, none⟩ = some (.int .u64 ((10 ^ r : Nat) : Int))) : RosOk W (powC, ⟨1, 0, 0, 0⟩) := by
 have hb := World.block_lt_of_cell? W _ (hc 0 (by omega))
 refine ⟨hb, fun j v hj => ?_⟩
 have hj' : j < 20 := by
   have := (List.getElem?_eq_some_iff.1 hj).1
   simpa [powC] using this
 rw [powC_at hj'] at hj
 cases hj
 exact ⟨by simpa using hc j hj', rfl⟩
def glZ (m : Int) (a : Addr) : Ros := [some ([.int .i64 m], ⟨0, 0, 0, 0⟩), some (powC, ⟨1, 0, 0, 0⟩), some ([], ⟨2, 0, 0, 0⟩), some ([], ⟨3, 0, 0, 0⟩), some ([], ⟨4, 0, 0, 0⟩), some ([], ⟨5, 0, 0, 0⟩), some ([], ⟨6, 0, 0, 0⟩), some ([.iface 162 (.pointer (some ⟨8, 0, none⟩))], ⟨7, 0, 0, 0⟩), some ([], ⟨a.block, a.off, 0, 0⟩)]
structure GlobZ (W : World) (m : Int) (a : Addr) : Prop where
 c0 : W.cell? ⟨0, 0, none⟩ = some (.int .i64 m)
 pw : ∀ r, r < 20 → W.cell? ⟨1, r, none⟩ = some (.int .u64 ((10 ^ r : Nat) : Int))
 c7 : W.cell? ⟨7, 0, none⟩ = some (.iface 162 (.pointer (some a)))
 sp : a.spot = none
 lt : a.block < W.heap.size
theorem glZ_rel {W : World} {m : Int} {a : Addr} (z : GlobZ W m a) (bs : Ros) (hv : ∀ p, some p ∈ bs → RosOk W p) :
   Rel (rosσ (glZ m a ++ bs)) (rosH (glZ m a ++ bs)) W := by
 obtain ⟨h0, hc, h5, hs, hb⟩ := z
 have l5 := World.block_lt_of_cell? W _ h5
 have l5' : 7 < W.heap.size := l5
 have e6 : rosσ (glZ m a ++ bs) 8 = some ⟨a.block, a.off, 0, 0⟩ := rfl
 refine ros_relV fun p hp => ?_
 rcases List.mem_append.1 hp with hp | hp
 · simp only [glZ, List.mem_cons, List.not_mem_nil, or_false, Option.some.injEq] at hp
   rcases hp with rfl | rfl | rfl | rfl | rfl | rfl | rfl | rfl | rfl
   · refine ⟨by show 0 < _; omega, fun j v hj => ?_⟩
     match j, hj with
     | 0, hj => simp at hj; subst hj; exact ⟨_, h0, .int _ _⟩
     | j + 1, hj => simp at hj
   · exact ros_cst (pow_ros hc)
   · exact ⟨by show 2 < _; omega, fun j v hj => by cases hj⟩
   · exact ⟨by show 3 < _; omega, fun j v hj => by cases hj⟩
   · exact ⟨by show 4 < _; omega, fun j v hj => by cases hj⟩
   · exact ⟨by show 5 < _; omega, fun j v hj => by cases hj⟩
   · exact ⟨by show 6 < _; omega, fun j v hj => by cases hj⟩
   · refine ⟨by show 7 < _; omega, fun j v hj => ?_⟩
     match j, hj with
     | 0, hj =>
       simp at hj; subst hj
       refine ⟨_, h5, .iface _ _ _ ?_⟩
       have := VR.ptr (σ := rosσ (glZ m a ++ bs)) 8 0 _ e6
       obtain ⟨ab, ao, asp⟩ := a
       simp only at hs
       subst hs
       exact this
     | j + 1, hj => simp at hj
   · exact ⟨hb, fun j v hj => by cases hj⟩
 · exact ros_cst (hv p hp)
theorem err_ok8 : ErrC (.iface 162 (.pointer (some ⟨8, 0, none⟩))) := ⟨rfl, rfl, by decide⟩
theorem glZ_glob (m : Int) (a : Addr) (bs : Ros) : Glob (rosσ (glZ m a ++ bs)) NG := fun g hg => by
 have hg' : g < 8 := hg
 rcases (show g = 0 ∨ g = 1 ∨ g = 2 ∨ g = 3 ∨ g = 4 ∨ g = 5 ∨ g = 6 ∨ g = 7 by omega) with rfl | rfl | rfl | rfl | rfl | rfl | rfl | rfl <;> exact ⟨_, rfl, rfl, rfl⟩
theorem glZ_env (m : Int) (a : Addr) (bs : Ros) : Env0 (.iface 162 (.pointer (some ⟨8, 0, none⟩))) (rosH (glZ m a ++ bs)) ∧ 7 < (rosH (glZ m a ++ bs)).next ∧ Has (rosH (glZ m a ++ bs)) 0 (.ro [.int .i64 m]) := by
 have g0 := ros_has (bs := glZ m a ++ bs) (B := 0) (p := ([.int .i64 m], ⟨0, 0, 0, 0⟩)) rfl
 have g1 := ros_has (bs := glZ m a ++ bs) (B := 1) (p := (powC, ⟨1, 0, 0, 0⟩)) rfl
 have g7 := ros_has (bs := glZ m a ++ bs) (B := 7) (p := ([.iface 162 (.pointer (some ⟨8, 0, none⟩))], ⟨7, 0, 0, 0⟩)) rfl
 exact ⟨⟨err_ok8, g7.1, g1.1⟩, g7.1.1, g0.1⟩
theorem is_law (L n : Nat) (hL : 2000 ≤ L) {l : List UInt8} {q : RQ} {kv : Value} {k : Nat} {h : H} {e : Value} {m : Int} (ev : Env0 e h) (h7 : 7 < h.next) (hM : Has h 0 (.ro [.int .i64 m])) (hs : Strs h kv q.keys) (hk : q.keys.length ≤ 1000) (hl : l.length ≤ 16384) (hn : nextE l = (q, k, 0)) :
   Sp (CF L (n + 15)) 8 [sv l, q.v kv, .int .i64 (k : Int)] h fun r h' => r = .bool true ∧ Keep nobody h h' := by
 refine Sp.body f8 (by simp) ?_
 have hc1 : (Value.cells (q.v kv)).toList = q.cells kv := rfl
 have k1 := Keep.new h (.rw (q.cells kv) (some 28))
 have b1 := Has.new h (.rw (q.cells kv) (some 28))
 have n1 : (h.new (.rw (q.cells kv) (some 28))).next = h.next + 1 := rfl
 unfold c8
 refine C.seq fun K hK => ?_
 simp only [seval, ↓EW, EV, r8_0, hc1]
 generalize hB : h.next = B at *
 generalize h.new (.rw (q.cells kv) (some 28)) = h1 at *
 refine hK _ _ _ (C.seq fun K hK => ?_)
 obtain ⟨cap, mb⟩ : ∃ cap, mkBytes 5 h1.next (sv l) = some (.op (l.map bv) 1 (some 5), .slice (some ⟨h1.next, 0, none⟩) l.length cap) ∧ Nat.ble OPEN cap = true ∧ Nat.beq (szOf cap) 1 = true := by
   refine ⟨opCap l.length 1, rfl, Nat.ble_eq_true_of_le (by unfold OPEN opCap; omega), ?_⟩
   rw [szOf_opCap (lb := l.length) (e := 1) (by omega)]; rfl
 obtain ⟨mb, o1, o2⟩ := mb
 have k2 := Keep.new h1 (.op (l.map bv) 1 (some 5))
 have b2 := Has.new h1 (.op (l.map bv) 1 (some 5))
 have rd2 : Rd (h1.new (.op (l.map bv) 1 (some 5))) (.slice (some ⟨h1.next, 0, none⟩) l.length cap) l := rd_of_mine (.op _ _ _ (some 5) o1 o2 b2) (by omega)
 simp only [seval, ↓EW, EV, r8_1, mb]
 generalize h1.new (.op (l.map bv) 1 (some 5)) = h2 at *
 have k12 := k1.then k2
 have nn := k2.next
 refine law10 L n hL (ev.keep0 k12) (by omega) (hM.keep0 k12) rd2 (by omega) _ fun r h3 hv => ?_
 obtain ⟨k3, kv3, rfl, s3, _⟩ := hv
 rw [hn] at s3 ⊢
 simp only [EV, t3, new13, own13 (strs_ones s3)]
 have k4 := keep_alloc h3 (.rw (RQ.zero.cells nilV) (some 28)) (.rw (q.cells kv3) (some 28))
 have b4 := has_alloc h3 (.rw (RQ.zero.cells nilV) (some 28)) (.rw (q.cells kv3) (some 28))
 have s4 := s3.keep0 k4
 generalize (h3.new (.rw (RQ.zero.cells nilV) (some 28))).put h3.next (.rw (q.cells kv3) (some 28)) = h4 at *
 have k24 := k3.then k4
 have b1' := b1.keep0 (k2.then k24)
 have s1' := hs.keep0 (k12.then k24)
 refine hK _ _ _ (C.seq fun K hK => ?_)
 rw [box_f]
 unfold r8_2
 try rw [bx]
 refine ops_s ?_
 simp only [seval, ↓OF, NK, tg_set]
 refine ops_s ?_
 simp only [↓OF, NK, eqlS]
 refine ops_s ?_
 simp only [↓OF, NK]
 refine ops_s ?_
 simp only [seval, ↓OF, NK, tg_set]
 refine ops_s ?_
 simp only [seval, ↓OF, NK, tg_set]
 refine ops_s ?_
 simp only [↓OF, NK, eqlS]
 refine ops_s ?_
 simp only [↓OF, NK, pickV_true]
 refine ops_s ?_
 simp only [↓OF, NK]
 refine ops_s ?_
 simp only [seval, ↓OF, NK, tg_set, get13 b4]
 refine ops_s ?_
 simp only [seval, ↓OF, NK, tg_set, get13 b1']
 refine ops_s ?_
 simp only [NK]
 refine law14 L (n + 12) hL s4 s1' hk _ fun r h5 hv => ?_
 obtain ⟨rfl, k5⟩ := hv
 refine ops_s ?_
 simp only [↓OF, NK, pickV_true]
 refine ops_s ?_
 simp only [↓OF, NK]
 exact hK _ _ _ (C.ret ⟨.inr rfl, _, rfl, by simp only [seval, EV, resOf], (k12.then k24).then k5⟩)
def exQ1 : RQ := ⟨1, 1, [[97], [98]], [], 0, 0, 0, 0, 0, [], false, false⟩
def exQ2 : RQ := ⟨1, 2, [[97]], [120, 121], 0, 5, 0, 0, 0, [], false, false⟩
def exW1 : List UInt8 := [103, 101, 116, 32, 97, 32, 98, 13, 10]
def exW2 : List UInt8 := [115, 101, 116, 32, 97, 32, 48, 32, 53, 32, 50, 13, 10, 120, 121, 13, 10, 103, 101, 116]
theorem n1_eq : nextE exW1 = (exQ1, 9, 0) := by kernel_rfl
theorem n2_eq : nextE exW2 = (exQ2, 17, 0) := by kernel_rfl
theorem litA (b : Nat) : mkLit 9 2 b (fill (repl [(.string (strB []))] 2) (pl 1) [(0, (.string (strB [97]))), (1, (.string (strB [98])))]) = some (.rw (exQ1.keys.map sv) (some 9), .slice (some ⟨b, 0, none⟩) 2 2) := rfl
theorem litB (b : Nat) : mkLit 9 1 b (fill (repl [(.string (strB []))] 1) (pl 1) [(0, (.string (strB [97])))]) = some (.rw (exQ2.keys.map sv) (some 9), .slice (some ⟨b, 0, none⟩) 1 1) := rfl
theorem aggA (b : Nat) : aggO (fill [(.int .u8 (0)), (.int .i64 (0)), (.slice none 0 0), (.string (strB [])), (.int .u32 (0)), (.int .i64 (0)), (.int .u64 (0)), (.int .u64 (0))] (plc [(0, 1), (1, 1), (2, 1), (3, 1), (4, 1), (5, 1), (6, 1), (7, 1)]) [(0, (.int .u8 (1))), (2, .slice (some ⟨b, 0, none⟩) 2 2)]) = some (cmdQ exQ1 (.slice (some ⟨b, 0, none⟩) 2 2)).v := rfl
theorem aggA' (b : Nat) : aggO (fill [(.int .u8 (0)), (.int .u8 (0)), (.int .i64 (0)), (.slice none 0 0), (.string (strB [])), (.int .u32 (0)), (.int .i64 (0)), (.int .u64 (0)), (.int .u64 (0)), (.int .i64 (0)), (.string (strB [])), (.bool false), (.bool false)] (plc [(0, 1), (1, 8), (9, 1), (10, 1), (11, 1), (12, 1)]) [(0, (.int .u8 (1))), (1, (cmdQ exQ1 (.slice (some ⟨b, 0, none⟩) 2 2)).v)]) = some (exQ1.v (.slice (some ⟨b, 0, none⟩) 2 2)) := rfl
theorem aggB (b : Nat) : aggO (fill [(.int .u8 (0)), (.int .i64 (0)), (.slice none 0 0), (.string (strB [])), (.int .u32 (0)), (.int .i64 (0)), (.int .u64 (0)), (.int .u64 (0))] (plc [(0, 1), (1, 1), (2, 1), (3, 1), (4, 1), (5, 1), (6, 1), (7, 1)]) [(0, (.int .u8 (2))), (2, .slice (some ⟨b, 0, none⟩) 1 1), (5, (.int .i64 (5))), (3, (.string (strB [120, 121])))]) = some (cmdQ exQ2 (.slice (some ⟨b, 0, none⟩) 1 1)).v := rfl
theorem aggB' (b : Nat) : aggO (fill [(.int .u8 (0)), (.int .u8 (0)), (.int .i64 (0)), (.slice none 0 0), (.string (strB [])), (.int .u32 (0)), (.int .i64 (0)), (.int .u64 (0)), (.int .u64 (0)), (.int .i64 (0)), (.string (strB [])), (.bool false), (.bool false)] (plc [(0, 1), (1, 8), (9, 1), (10, 1), (11, 1), (12, 1)]) [(0, (.int .u8 (1))), (1, (cmdQ exQ2 (.slice (some ⟨b, 0, none⟩) 1 1)).v)]) = some (exQ2.v (.slice (some ⟨b, 0, none⟩) 1 1)) := rfl
theorem alive_law (L n : Nat) (hL : 2000 ≤ L) {h : H} {e : Value} {m : Int} (ev : Env0 e h) (h7 : 7 < h.next) (hM : Has h 0 (.ro [.int .i64 m])) :
   Sp (CF L (n + 16)) 11 [] h fun r h' => r = .bool true ∧ Keep nobody h h' := by
 refine Sp.body f11 (by simp) ?_
 unfold c11
 refine C.seq fun K hK => ?_
 simp only [EV, r11_0]
 refine hK _ _ _ (C.seq fun K hK => ?_)
 have k1 := Keep.new h (.rw (exQ1.keys.map sv) (some 9))
 have b1 := strs_lit (Has.new h (.rw (exQ1.keys.map sv) (some 9))) (by decide)
 simp only [↓EW, EV, r11_1, litA, aggA, aggA']
 generalize h.new (.rw (exQ1.keys.map sv) (some 9)) = h1 at *
 have k2 := keep_alloc h1 (.rw (RQ.zero.cells nilV) (some 28)) (.rw (exQ1.cells (.slice (some ⟨h.next, 0, none⟩) 2 2)) (some 28))
 have b2 := has_alloc h1 (.rw (RQ.zero.cells nilV) (some 28)) (.rw (exQ1.cells (.slice (some ⟨h.next, 0, none⟩) 2 2)) (some 28))
 simp only [EV, new13, own13 (q := exQ1) (kv := .slice (some ⟨h.next, 0, none⟩) 2 2) (strs_ones b1)]
 generalize (h1.new (.rw (RQ.zero.cells nilV) (some 28))).put h1.next (.rw (exQ1.cells (.slice (some ⟨h.next, 0, none⟩) 2 2)) (some 28)) = h2 at *
 have k02 := k1.then k2
 refine hK _ _ _ (C.seq fun K hK => ?_)
 have k3 := Keep.new h2 (.rw (exQ2.keys.map sv) (some 9))
 have b3 := strs_lit (Has.new h2 (.rw (exQ2.keys.map sv) (some 9))) (by decide)
 simp only [↓EW, EV, r11_2, litB, aggB, aggB']
 generalize h2.new (.rw (exQ2.keys.map sv) (some 9)) = h3 at *
 have k4 := keep_alloc h3 (.rw (RQ.zero.cells nilV) (some 28)) (.rw (exQ2.cells (.slice (some ⟨h2.next, 0, none⟩) 1 1)) (some 28))
 have b4 := has_alloc h3 (.rw (RQ.zero.cells nilV) (some 28)) (.rw (exQ2.cells (.slice (some ⟨h2.next, 0, none⟩) 1 1)) (some 28))
 simp only [EV, new13, own13 (q := exQ2) (kv := .slice (some ⟨h2.next, 0, none⟩) 1 1) (strs_ones b3)]
 generalize (h3.new (.rw (RQ.zero.cells nilV) (some 28))).put h3.next (.rw (exQ2.cells (.slice (some ⟨h2.next, 0, none⟩) 1 1)) (some 28)) = h4 at *
 have k24 := k3.then k4
 have k04 := k02.then k24
 have b2' := b2.keep0 k24
 have nn := k04.next
 refine hK _ _ _ (C.seq fun K hK => ?_)
 have g1 := is_law L n hL (ev.keep0 k04) (by omega) (hM.keep0 k04) (b1.keep0 (k2.then k24)) (by decide) (by decide) n1_eq
 simp only [seval, EV, r11_3, get13 b2']
 refine g1 _ fun r h5 hv => ?_
 obtain ⟨rfl, k5⟩ := hv
 have k05 := k04.then k5
 have nn5 := k5.next
 have g2 := is_law L n hL (ev.keep0 k05) (by omega) (hM.keep0 k05) (b3.keep0 (k4.then k5)) (by decide) (by decide) n2_eq
 simp only [EV, get13 (b4.keep0 k5)]
 refine g2 _ fun r h6 hv => ?_
 obtain ⟨rfl, k6⟩ := hv
 exact hK _ _ _ (C.ret ⟨.inr rfl, [.bool true], by simp only [seval, EV, q11], rfl, k05.then k6⟩)
theorem at_app {a c : List UInt8} {j : Nat} (h : j + 1 < a.length) : At (a ++ c) j ↔ At a j := by
 unfold At
 rw [List.getElem?_append_left (by omega), List.getElem?_append_left (by omega)]
theorem take_app {a c : List UInt8} {n : Nat} (h : n ≤ a.length) : (a ++ c).take n = a.take n := by
 rw [List.take_append_of_le_length h]
theorem nextP_more {a : List UInt8} (c : List UInt8) (h : (nextP a).2 ≠ 0) (hc : (nextP a).1.close = false) : nextP (a ++ c) = nextP a := by
 rcases crlf_cases a with e | ⟨i, e⟩
 · rw [nextP_neg e] at h hc
   split at h
   · exact absurd rfl h
   · rename_i g
     rw [if_neg g] at hc
     cases hc
 · obtain ⟨h1, h2, h3⟩ := crlf_pos e
   have hf : ∀ j, j < i → ¬ At a j := fun j hj hA => by
     rcases crlf_spec (a.take 514) with ⟨e2, h4⟩ | ⟨k, e2, h4, h5⟩
     · rw [e] at e2; omega
     · have : k = i := by rw [e] at e2; omega
       subst this
       exact h5 j hj (At.take.2 ⟨hA, by omega⟩)
   have e' : crlf ((a ++ c).take 514) = (i : Int) := by
     refine crlf_first ((at_app (by omega)).2 h3) h2 fun j hj hA => hf j hj ((at_app (by omega)).1 hA)
   have et : (a ++ c).take i = a.take i := take_app (by omega)
   rw [nextP_pos e] at h hc ⊢
   rw [nextP_pos e', et]
   split at h
   · rename_i g1; rw [if_pos g1, if_pos g1]
   rename_i g1
   rw [if_neg g1] at hc ⊢
   split at h
   · rename_i g2; rw [if_neg g1, if_pos g2, if_pos g2]
   rename_i g2
   rw [if_neg g2] at hc ⊢
   split at h
   · exact absurd rfl h
   rename_i g3
   rw [if_neg g3] at hc ⊢
   rw [if_neg g1, if_neg g2, if_neg (by rw [List.length_append]; omega)]
   have ha : At (a ++ c) (i + 2 + (lineP (a.take i)).2.1.toNat) ↔ At a (i + 2 + (lineP (a.take i)).2.1.toNat) := at_app (by omega)
   by_cases g4 : At a (i + 2 + (lineP (a.take i)).2.1.toNat)
   · rw [if_neg (fun x => x (ha.2 g4)), if_neg (fun x => x g4), take_app (by omega)]
   · rw [if_pos (fun x => g4 (ha.1 x)), if_pos g4]
def stopQ (q : RQ) : Bool := q.close || decide (q.kind = 5)
theorem allP_app (b : List UInt8) : ∀ (f at_ : Nat) (xs ys : List RQ), allP b f at_ (xs ++ ys) = (xs ++ (allP b f at_ ys).1, (allP b f at_ ys).2)
 | 0, at_, xs, ys => rfl
 | f + 1, at_, xs, ys => by
   unfold allP
   split
   · rfl
   · split
     · rw [List.append_assoc]
     · rw [List.append_assoc]; exact allP_app b f _ xs _
theorem allP_fuel (b : List UInt8) : ∀ (f g at_ : Nat) (xs : List RQ), at_ ≤ b.length → b.length - at_ < f → b.length - at_ < g → allP b f at_ xs = allP b g at_ xs
 | 0, _, _, _, _, h, _ => absurd h (Nat.not_lt_zero _)
 | _ + 1, 0, _, _, _, _, h => absurd h (Nat.not_lt_zero _)
 | f + 1, g + 1, at_, xs, hat, hf, hg => by
   have hle := nextP_le (b.drop at_)
   rw [List.length_drop] at hle
   unfold allP
   split
   · rfl
   · split
     · rfl
     · exact allP_fuel b f g _ _ (by omega) (by omega) (by omega)
theorem allP_drop (b : List UInt8) (m : Nat) : ∀ (f at_ : Nat) (xs : List RQ), allP (b.drop m) f at_ xs = ((allP b f (m + at_) xs).1, (allP b f (m + at_) xs).2 - m)
 | 0, at_, xs => by show (xs, at_) = (xs, m + at_ - m); rw [Nat.add_sub_cancel_left]
 | f + 1, at_, xs => by
   unfold allP
   rw [List.drop_drop]
   split
   · rw [Nat.add_sub_cancel_left]
   · split
     · show (_, _) = (_, m + at_ + _ - m)
       rw [Nat.add_assoc, Nat.add_sub_cancel_left]
     · rw [allP_drop b m f, Nat.add_assoc]
theorem allP_ge (b : List UInt8) : ∀ (f at_ : Nat) (xs : List RQ), at_ ≤ (allP b f at_ xs).2
 | 0, at_, xs => Nat.le_refl _
 | f + 1, at_, xs => by
   unfold allP
   split
   · exact Nat.le_refl _
   · split
     · exact Nat.le_add_right _ _
     · exact Nat.le_trans (Nat.le_add_right _ _) (allP_ge b f _ _)
theorem allP_cut (b c : List UInt8) : ∀ (f at_ : Nat) (xs : List RQ), at_ ≤ b.length → b.length - at_ < f →
   ∃ g, (b ++ c).length - (allP b f at_ xs).2 < g ∧
   ((∃ q, (allP b f at_ xs).1.getLast? = some q ∧ q.close = true ∧ xs.length < (allP b f at_ xs).1.length) ∨
    (∃ q, (allP b f at_ xs).1.getLast? = some q ∧ q.kind = 5 ∧ xs.length < (allP b f at_ xs).1.length ∧ allP (b ++ c) (f + c.length) at_ xs = allP b f at_ xs) ∨
    (((allP b f at_ xs).1.length = xs.length ∨ ∃ q, (allP b f at_ xs).1.getLast? = some q ∧ stopQ q = false) ∧ allP (b ++ c) (f + c.length) at_ xs = allP (b ++ c) g (allP b f at_ xs).2 (allP b f at_ xs).1))
 | 0, at_, xs, hat, hf => absurd hf (Nat.not_lt_zero _)
 | f + 1, at_, xs, hat, hf => by
   have hle := nextP_le (b.drop at_)
   rw [List.length_drop] at hle
   have ed : (b ++ c).drop at_ = b.drop at_ ++ c := List.drop_append_of_le_length hat
   generalize hA : allP b (f + 1) at_ xs = A
   unfold allP at hA
   have hlen : (b ++ c).length = b.length + c.length := List.length_append
   split at hA
   · subst hA
     exact ⟨f + 1 + c.length, by show _ - at_ < _; omega, .inr (.inr ⟨.inl rfl, rfl⟩)⟩
   · rename_i g1
     by_cases gc : (nextP (b.drop at_)).1.close = true
     · rw [if_pos (by rw [gc]; rfl)] at hA
       subst hA
       exact ⟨(b ++ c).length + 1, by omega, .inl ⟨_, List.getLast?_concat .., gc, by show xs.length < (xs ++ [_]).length; rw [List.length_append]; exact Nat.lt_succ_self _⟩⟩
     · have gc' : (nextP (b.drop at_)).1.close = false := by simpa using gc
       have en := nextP_more c g1 gc'
       rw [← ed] at en
       have e1 : f + 1 + c.length = (f + c.length) + 1 := by omega
       by_cases g5 : (nextP (b.drop at_)).1.kind = 5
       · rw [if_pos (by rw [dT g5, Bool.or_true])] at hA
         subst hA
         refine ⟨(b ++ c).length + 1, by omega, .inr (.inl ⟨_, List.getLast?_concat .., g5, by show xs.length < (xs ++ [_]).length; rw [List.length_append]; exact Nat.lt_succ_self _, ?_⟩)⟩
         rw [e1]
         unfold allP
         rw [en, if_neg g1, if_pos (by rw [dT g5, Bool.or_true])]
       · have hs : ¬ ((nextP (b.drop at_)).1.close || decide ((nextP (b.drop at_)).1.kind = 5)) = true := by rw [gc', dF g5]; decide
         rw [if_neg hs] at hA
         have ew : allP (b ++ c) (f + 1 + c.length) at_ xs = allP (b ++ c) (f + c.length) (at_ + (nextP (b.drop at_)).2) (xs ++ [(nextP (b.drop at_)).1]) := by
           rw [e1]
           conv => lhs; unfold allP
           rw [en, if_neg g1, if_neg hs]
         obtain ⟨g, hg, hr⟩ := allP_cut b c f (at_ + (nextP (b.drop at_)).2) (xs ++ [(nextP (b.drop at_)).1]) (by omega) (by omega)
         rw [hA] at hg hr
         have hl : (xs ++ [(nextP (b.drop at_)).1]).length = xs.length + 1 := by rw [List.length_append]; rfl
         refine ⟨g, hg, ?_⟩
         rw [ew]
         rcases hr with ⟨q, h1, h2, h3⟩ | ⟨q, h1, h2, h3, h4⟩ | ⟨h1, h2⟩
         · exact .inl ⟨q, h1, h2, by omega⟩
         · exact .inr (.inl ⟨q, h1, h2, by omega, h4⟩)
         · refine .inr (.inr ⟨.inr ?_, h2⟩)
           rcases h1 with h1 | h1
           · have h0 := allP_app b f (at_ + (nextP (b.drop at_)).2) (xs ++ [(nextP (b.drop at_)).1]) []
             rw [List.append_nil, hA] at h0
             have h5 : (allP b f (at_ + (nextP (b.drop at_)).2) []).1 = [] := by
               have := congrArg (fun p => p.1.length) h0
               simp only [List.length_append] at this
               refine List.eq_nil_of_length_eq_zero ?_
               rw [List.length_append] at h1
               omega
             refine ⟨(nextP (b.drop at_)).1, ?_, by unfold stopQ; rw [gc', dF g5]; rfl⟩
             rw [congrArg (·.1) h0]
             show (xs ++ [(nextP (b.drop at_)).1] ++ _).getLast? = _
             rw [h5, List.append_nil]
             exact List.getLast?_concat ..
           · exact h1
theorem ones13a {kv : Value} (hk : ∀ r, ones (kv :: r) = ones r) (q : RQ) (r : List Value) : ones (q.cells kv ++ r) = ones r := by
 unfold RQ.cells
 show ones (kv :: _) = _
 rw [hk]; rfl
theorem ones_rows : ∀ (l : List (RQ × Value)), (∀ x ∈ l, ∀ r, ones (x.2 :: r) = ones r) → ones (rowsR l) = true
 | [], _ => rfl
 | x :: r, h => by
   show ones (x.1.cells x.2 ++ rowsR r) = true
   rw [ones13a (h x (List.mem_cons_self ..))]
   exact ones_rows r fun y hy => h y (List.mem_cons_of_mem _ hy)
theorem rowsR_app (l m : List (RQ × Value)) : rowsR (l ++ m) = rowsR l ++ rowsR m := List.flatMap_append
theorem app_rows {h : H} {v w : Value} {xs ys : List (RQ × Value)} (m : MineR h v xs) (mw : MineR h w ys) (ho : ∀ x ∈ ys, ∀ r, ones (x.2 :: r) = ones r) (hsz : xs.length + ys.length ≤ 20000) :
   ∃ v' h', appendV 28 13 128 h v w = some (v', h') ∧ MineR h' v' (xs ++ ys) ∧ Keep (blk v) h h' ∧ (∀ b, blk v' b → blk v b ∨ h.next ≤ b) := by
 have stay : ∀ base sl sc, v = .slice base sl sc → lenV w = some 0 → firstV h 13 0 w = some [] → ys = [] → ∃ v' h', appendV 28 13 128 h v w = some (v', h') ∧ MineR h' v' (xs ++ ys) ∧ Keep (blk v) h h' ∧ (∀ b, blk v' b → blk v b ∨ h.next ≤ b) := fun base sl sc hv hl hf hy => by
   subst hy
   rw [List.append_nil]
   refine ⟨v, h, ?_, m, .refl _ _, fun b hb => .inl hb⟩
   have hle : Nat.ble sl sc = true := by
     cases m with
     | nil => cases hv; rfl
     | op b cap l c1 c2 hb =>
       cases hv
       refine Nat.ble_eq_true_of_le ?_
       have := Nat.le_of_ble_eq_true c1
       unfold OPEN at this
       simp only [List.length_nil] at hsz
       omega
   subst hv
   unfold appendV
   simp only [hl, hf]
   show appTo 28 13 128 h base sl sc 0 [] = _
   unfold appTo
   simp only [hle]
 cases mw with
 | nil =>
   cases m with
   | nil => exact stay _ _ _ rfl rfl rfl rfl
   | op b cap l c1 c2 hb => exact stay _ _ _ rfl rfl rfl rfl
 | op bw capw ys cw1 cw2 hbw =>
   have hrow : firstV h 13 ys.length (.slice (some ⟨bw, 0, none⟩) ys.length capw) = some (rowsR ys) := by
     simp only [firstV]
     have hl := rowsR_len ys
     rw [row_has hbw rfl (by rw [hl]; omega), List.drop_zero, List.take_of_length_le (by rw [hl]; omega)]
   by_cases hy : ys = []
   · subst hy
     have hrow0 : firstV h 13 0 (.slice (some ⟨bw, 0, none⟩) 0 capw) = some [] := hrow
     cases m with
     | nil => exact stay _ _ _ rfl rfl hrow0 rfl
     | op b cap l c1 c2 hb => exact stay _ _ _ rfl rfl hrow0 rfl
   obtain ⟨k, hk⟩ : ∃ k, ys.length = k + 1 := ⟨ys.length - 1, by have := List.length_pos_iff.2 hy; omega⟩
   have hlb : Nat.beq (rowsR ys).length (ys.length * 13) = true := by rw [rowsR_len, Nat.mul_comm]; exact Nat.beq_refl _
   have ho' := ones_rows ys ho
   have hne : rowsR ys ≠ [] := fun e => by
     have := rowsR_len ys
     rw [e, hk] at this
     simp at this
   have hv : ∀ base sl sc, appendV 28 13 128 h (.slice base sl sc) (.slice (some ⟨bw, 0, none⟩) ys.length capw) = appTo 28 13 128 h base sl sc ys.length (rowsR ys) := fun base sl sc => by
     unfold appendV
     simp only [lenV, hrow, hlb]
   have hg : ∀ (h0 : H), h0.next = h.next → Keep (blk v) h h0 → ∃ v' h', grow h0 (rowsR xs) (rowsR ys) (xs.length + ys.length) 13 (some 28) = some (v', h') ∧ MineR h' v' (xs ++ ys) ∧ Keep (blk v) h h' ∧ (∀ b, blk v' b → blk v b ∨ h.next ≤ b) := fun h0 hn hk => by
     refine ⟨_, _, rfl, ?_, hk.then (.new _ _), fun b hb => by simp at hb; omega⟩
     have e1 : rowsR xs ++ rowsR ys = rowsR (xs ++ ys) := (rowsR_app xs ys).symm
     have e2 : xs.length + ys.length = (xs ++ ys).length := by simp
     rw [e1, e2]
     exact .op _ _ _ (Nat.ble_eq_true_of_le (by unfold OPEN opCap; omega)) (opCap_size13 _) (.new _ _)
   cases m with
   | nil =>
     rw [hv]
     have : appTo 28 13 128 h none 0 0 ys.length (rowsR ys) = grow h [] (rowsR ys) (0 + ys.length) 13 (some 28) := by
       unfold appTo
       rw [hk, Nat.ble_eq_true_of_le (show (0 + (k + 1)) * 128 ≤ 140737488355328 by omega), Nat.ble_eq_true_of_le (show 0 + (k + 1) ≤ 9223372036854775807 by omega)]
       rfl
     rw [this]
     exact hg _ rfl (.refl _ _)
   | op b cap xs c1 c2 hb =>
     rw [hv]
     have : appTo 28 13 128 h (some ⟨b, 0, none⟩) xs.length cap ys.length (rowsR ys) = appOpen 28 13 h ⟨b, 0, none⟩ xs.length cap ys.length (rowsR ys) := by
       unfold appTo
       rw [hk, Nat.ble_eq_true_of_le (show (xs.length + (k + 1)) * 128 ≤ 140737488355328 by omega), Nat.ble_eq_true_of_le (show xs.length + (k + 1) ≤ 9223372036854775807 by omega)]
       simp only [c1, Bool.and_self]
     rw [this]
     have hl : (rowsR xs).length = xs.length * 13 := by rw [rowsR_len]; omega
     have e3 : putAt (rowsR xs) (0 + xs.length * 13) (rowsR ys) = none := by
       rw [Nat.zero_add, ← hl]
       obtain ⟨y, t, e⟩ := List.exists_cons_of_ne_nil hne
       rw [e]
       exact putAt_end _ _ _
     have e4 : cut (rowsR xs) 0 = some (rowsR xs) := by simpa using cut_eq (rowsR xs) 0 (by simp)
     have e5 : Nat.beq (0 + xs.length * 13) (rowsR xs).length = true := by rw [hl, Nat.zero_add]; exact Nat.beq_refl _
     have : appOpen 28 13 h ⟨b, 0, none⟩ xs.length cap ys.length (rowsR ys) = grow (h.del b) (rowsR xs) (rowsR ys) (xs.length + ys.length) 13 (some 28) := by
       unfold appOpen
       simp only [c2, ho', Bool.and_self, hb.2]
       simp only [e3, e5, e4]
       rfl
     rw [this]
     refine hg (h.del b) rfl ?_
     exact (Keep.del h b).mono fun k _ e => by simp [e]
theorem app_reqs {na nb : Nat} {h0 h : H} {v w : Value} {l l' : List RQ} (a : Reqs na h v l) (b : Reqs nb h0 w l') (k : Keep nobody h0 h) (sep : ∀ c, blk v c → h0.next ≤ c) (hsz : l.length + l'.length ≤ 20000) :
   ∃ v' h', appendV 28 13 128 h v w = some (v', h') ∧ Reqs 0 h' v' (l ++ l') ∧ Keep (blk v) h h' ∧ (∀ b, blk v' b → blk v b ∨ h.next ≤ b) := by
 obtain ⟨xs, rfl, m, hx⟩ := a.ex
 obtain ⟨ys, rfl, mw, hy⟩ := b.ex
 rw [List.length_map, List.length_map] at hsz
 have hn := k.next
 obtain ⟨v', h', e, m', k', hb⟩ := app_rows m (mw.keep k fun _ _ => id) (fun x hm => strs_ones (hy x hm).1) hsz
 refine ⟨v', h', e, ⟨⟨xs ++ ys, by simp, m', fun x hm => ?_⟩, fun _ _ => Nat.zero_le _⟩, k', hb⟩
 rcases List.mem_append.1 hm with hm | hm
 · obtain ⟨h1, h2⟩ := hx x hm
   refine ⟨h1.keep k' fun c hc => (h2 c hc).2, fun c hc => ⟨Nat.zero_le _, fun hv => ?_⟩⟩
   rcases hb c hv with h3 | h3
   · exact (h2 c hc).2 h3
   · have := h1.lt hc; omega
 · obtain ⟨h1, h2⟩ := hy x hm
   have hlt : ∀ c, blk x.2 c → c < h0.next := fun c hc => h1.lt hc
   refine ⟨(h1.keep0 k).keep k' fun c hc hv => ?_, fun c hc => ⟨Nat.zero_le _, fun hv => ?_⟩⟩
   · have := hlt c hc; have := sep c hv; omega
   · have := hlt c hc
     rcases hb c hv with h3 | h3
     · have := sep c h3; omega
     · omega
theorem Reqs.keep2 {S : Nat → Prop} {n0 : Nat} {hq h h' : H} {v : Value} {l : List RQ} (a : Reqs n0 hq v l) (k0 : Keep nobody hq h) (k : Keep S h h') (hn : ∀ c, c < hq.next → ¬ S c) : Reqs n0 h' v l := by
 obtain ⟨xs, e, m, hx⟩ := a.ex
 exact ⟨⟨xs, e, (m.keep k0 fun _ _ => id).keep k fun c hc => hn c (m.lt hc), fun x hm => ⟨((hx x hm).1.keep0 k0).keep k fun c hc => hn c ((hx x hm).1.lt hc), (hx x hm).2⟩⟩, a.own⟩
theorem Reqs.lt {n0 : Nat} {h : H} {v : Value} {l : List RQ} (a : Reqs n0 h v l) {c : Nat} (hc : blk v c) : c < h.next := by
 obtain ⟨xs, e, m, hx⟩ := a.ex
 exact m.lt hc
theorem allE_of {b : List UInt8} (h : b.length ≤ 16384) : allE b = ((allP b (b.length + 1) 0 []).1, (allP b (b.length + 1) 0 []).2, 0) := by unfold allE; rw [if_neg (by omega)]
theorem pieces_plain {b : List UInt8} (h : b.length ≤ 16384) {k : Nat} (hk : k ≤ b.length) :
   (∃ q, (allE (b.take k)).1.getLast? = some q ∧ stopQ q = true ∧ ((allE (b.take k)).1.length ≤ (allE b).1.length ∨ q.close = true)) ∨
   (((allE (b.take k)).1 = [] ∨ ∃ q, (allE (b.take k)).1.getLast? = some q ∧ stopQ q = false) ∧ (allE b).1 = (allE (b.take k)).1 ++ (allE (b.drop (allE (b.take k)).2.1)).1 ∧ (allE b).2.1 = (allE (b.take k)).2.1 + (allE (b.drop (allE (b.take k)).2.1)).2.1) := by
 have hl : (b.take k).length = k := by rw [List.length_take]; omega
 have hE := allE_of (b := b.take k) (by omega)
 have hB := allE_of h
 have hle := (allE_keys (b.take k)).2.2
 have hcut := allP_cut (b.take k) (b.drop k) ((b.take k).length + 1) 0 [] (Nat.zero_le _) (by omega)
 rw [List.take_append_drop] at hcut
 rw [hE] at hle ⊢
 obtain ⟨g, hg, hc⟩ := hcut
 have hf : (b.take k).length + 1 + (b.drop k).length = b.length + 1 := by rw [hl, List.length_drop]; omega
 rw [hf] at hc
 rw [hB]
 generalize allP (b.take k) ((b.take k).length + 1) 0 [] = O at *
 dsimp only at hle ⊢
 rcases hc with ⟨q, h1, h2, _⟩ | ⟨q, h1, h2, _, h4⟩ | ⟨h1, h2⟩
 · exact .inl ⟨q, h1, by unfold stopQ; rw [h2]; rfl, .inr h2⟩
 · exact .inl ⟨q, h1, by unfold stopQ; rw [dT h2, Bool.or_true], .inl (by rw [h4]; exact Nat.le_refl _)⟩
 · refine .inr ⟨h1.imp (fun e => List.eq_nil_of_length_eq_zero e) id, ?_⟩
   have hO : O.2 ≤ b.length := by omega
   have hd : (b.drop O.2).length = b.length - O.2 := List.length_drop
   rw [allE_of (b := b.drop O.2) (by omega), allP_drop, h2]
   have h3 := allP_app b g O.2 O.1 []
   rw [List.append_nil] at h3
   rw [h3, allP_fuel b g ((b.drop O.2).length + 1) O.2 [] hO hg (by omega)]
   have h4 := allP_ge b ((b.drop O.2).length + 1) O.2 []
   refine ⟨rfl, ?_⟩
   show _ = O.2 + ((allP b ((b.drop O.2).length + 1) (O.2 + 0) []).2 - O.2)
   simp only [Nat.add_zero]
   omega
theorem reg5_2 {call : CallT} {L : Nat} {tm : T Value} {h : H} {v : Value} {b : List UInt8} {z : Int} (hr : Rd h v b) (t0 : tg tm 0 = v) (t1 : tg tm 1 = .int .i64 z) (t5 : tg tm 5 = .bool true) {Q : Ex → T Value → H → Prop}
   (hQ : Q .norm (T.set tm 34 (.bool (decide (3000 < b.length ∨ z < 0 ∨ (b.length : Int) < z)))) h) : C ⟨r5_2⟩ call L tm h Q := fun K hK => by
 rw [box_f]
 unfold r5_2
 try rw [bx]
 by_cases c1 : (3000 : Int) < (b.length : Int)
 · rw [dT (show 3000 < b.length ∨ z < 0 ∨ (b.length : Int) < z by omega)] at hQ
   refine ops_s ?_
   simp only [↓OF, NK, t0]
   refine ops_s ?_
   simp only [↓OF, NK, hr.len]
   refine ops_s ?_
   simp only [↓OF, NK, binV_gtr, dT c1]
   refine ops_s ?_
   simp only [↓OF, NK]
   refine ops_k ?_
   refine ops_k ?_
   refine ops_s ?_
   simp only [↓OF, NK, pickV_true]
   refine ops_s ?_
   simp only [↓OF, NK]
   refine ops_k ?_
   refine ops_k ?_
   refine ops_k ?_
   refine ops_k ?_
   refine ops_s ?_
   simp only [↓OF, NK, pickV_true]
   refine ops_s ?_
   simp only [↓OF, NK]
   refine ops_k ?_
   refine ops_k ?_
   refine ops_s ?_
   simp only [↓OF, NK, pickV_true]
   exact hK _ _ _ hQ
 by_cases c2 : z < 0
 · rw [dT (show 3000 < b.length ∨ z < 0 ∨ (b.length : Int) < z by omega)] at hQ
   refine ops_s ?_
   simp only [↓OF, NK, t0]
   refine ops_s ?_
   simp only [↓OF, NK, hr.len]
   refine ops_s ?_
   simp only [↓OF, NK, binV_gtr, dF c1]
   refine ops_s ?_
   simp only [↓OF, NK]
   refine ops_s ?_
   simp only [↓OF, NK, t1]
   refine ops_s ?_
   simp only [↓OF, NK, binV_lss, dT c2]
   refine ops_s ?_
   simp only [↓OF, NK, pickV_false]
   refine ops_s ?_
   simp only [↓OF, NK]
   refine ops_k ?_
   refine ops_k ?_
   refine ops_k ?_
   refine ops_k ?_
   refine ops_s ?_
   simp only [↓OF, NK, pickV_true]
   refine ops_s ?_
   simp only [↓OF, NK]
   refine ops_k ?_
   refine ops_k ?_
   refine ops_s ?_
   simp only [↓OF, NK, pickV_true]
   exact hK _ _ _ hQ
 by_cases c3 : (b.length : Int) < z
 · rw [dT (show 3000 < b.length ∨ z < 0 ∨ (b.length : Int) < z by omega)] at hQ
   refine ops_s ?_
   simp only [↓OF, NK, t0]
   refine ops_s ?_
   simp only [↓OF, NK, hr.len]
   refine ops_s ?_
   simp only [↓OF, NK, binV_gtr, dF c1]
   refine ops_s ?_
   simp only [↓OF, NK]
   refine ops_s ?_
   simp only [↓OF, NK, t1]
   refine ops_s ?_
   simp only [↓OF, NK, binV_lss, dF c2]
   refine ops_s ?_
   simp only [↓OF, NK, pickV_false]
   refine ops_s ?_
   simp only [↓OF, NK]
   refine ops_s ?_
   simp only [↓OF, NK, t1]
   refine ops_s ?_
   simp only [↓OF, NK, t0]
   refine ops_s ?_
   simp only [↓OF, NK, hr.len]
   refine ops_s ?_
   simp only [↓OF, NK, binV_gtr, dT c3]
   refine ops_s ?_
   simp only [↓OF, NK, pickV_false]
   refine ops_s ?_
   simp only [↓OF, NK]
   refine ops_k ?_
   refine ops_k ?_
   refine ops_s ?_
   simp only [↓OF, NK, pickV_true]
   exact hK _ _ _ hQ
 rw [dF (show ¬ (3000 < b.length ∨ z < 0 ∨ (b.length : Int) < z) by omega)] at hQ
 refine ops_s ?_
 simp only [↓OF, NK, t0]
 refine ops_s ?_
 simp only [↓OF, NK, hr.len]
 refine ops_s ?_
 simp only [↓OF, NK, binV_gtr, dF c1]
 refine ops_s ?_
 simp only [↓OF, NK]
 refine ops_s ?_
 simp only [↓OF, NK, t1]
 refine ops_s ?_
 simp only [↓OF, NK, binV_lss, dF c2]
 refine ops_s ?_
 simp only [↓OF, NK, pickV_false]
 refine ops_s ?_
 simp only [↓OF, NK]
 refine ops_s ?_
 simp only [↓OF, NK, t1]
 refine ops_s ?_
 simp only [↓OF, NK, t0]
 refine ops_s ?_
 simp only [↓OF, NK, hr.len]
 refine ops_s ?_
 simp only [↓OF, NK, binV_gtr, dF c3]
 refine ops_s ?_
 simp only [↓OF, NK, pickV_false]
 refine ops_s ?_
 simp only [↓OF, NK]
 refine ops_s ?_
 simp only [↓OF, NK, t5]
 refine ops_s ?_
 simp only [↓OF, NK, unV_not, Bool.not_true]
 refine ops_s ?_
 simp only [↓OF, NK, pickV_false]
 exact hK _ _ _ hQ
theorem reg5_6 {call : CallT} {L : Nat} {tm : T Value} {h : H} {v : Value} {b : List UInt8} {k n m : Nat} (hr : Rd h v b) (t0 : tg tm 0 = v) (t1 : tg tm 1 = .int .i64 (k : Int)) (t7 : tg tm 7 = .int .i64 (n : Int)) (t8 : tg tm 8 = .int .i64 0) (t10 : tg tm 10 = .int .i64 (m : Int)) (t11 : tg tm 11 = .int .i64 0) (h1 : m ≤ k) (h2 : n ≤ b.length) {Q : Ex → T Value → H → Prop}
   (hQ : Q .norm (T.set tm 66 (.bool false)) h) : C ⟨r5_6⟩ call L tm h Q := fun K hK => by
 rw [box_f]
 unfold r5_6
 try rw [bx]
 have c1 : ¬ (k : Int) < (m : Int) := by omega
 have c2 : ¬ (b.length : Int) < (n : Int) := by omega
 refine ops_s ?_
 simp only [↓OF, NK, t8]
 refine ops_s ?_
 simp only [↓OF, NK, neqS]
 refine ops_s ?_
 simp only [↓OF, NK]
 refine ops_s ?_
 simp only [↓OF, NK, t11]
 refine ops_s ?_
 simp only [↓OF, NK, neqS]
 refine ops_s ?_
 simp only [↓OF, NK, pickV_false]
 refine ops_s ?_
 simp only [↓OF, NK]
 refine ops_s ?_
 simp only [↓OF, NK, t10]
 refine ops_s ?_
 simp only [↓OF, NK, t1]
 refine ops_s ?_
 simp only [↓OF, NK, binV_gtr, dF c1]
 refine ops_s ?_
 simp only [↓OF, NK, pickV_false]
 refine ops_s ?_
 simp only [↓OF, NK]
 refine ops_s ?_
 simp only [↓OF, NK, t7]
 refine ops_s ?_
 simp only [↓OF, NK, t0]
 refine ops_s ?_
 simp only [↓OF, NK, hr.len]
 refine ops_s ?_
 simp only [↓OF, NK, binV_gtr, dF c2]
 refine ops_s ?_
 simp only [↓OF, NK, pickV_false]
 exact hK _ _ _ hQ
theorem reg5_10 {call : CallT} {L : Nat} {tm : T Value} {h : H} {q : RQ} {kv : Value} {Z : Nat} (hz : Has h Z (.rw (q.cells kv) (some 28))) (t12 : tg tm 12 = .pointer (some ⟨Z, 0, none⟩)) {Q : Ex → T Value → H → Prop}
   (hQ : Q .norm (T.set tm 82 (.bool (stopQ q))) h) : C ⟨r5_10⟩ call L tm h Q := fun K hK => by
 rw [box_f]
 unfold r5_10
 try rw [bx]
 have ldc : loadOne h (.pointer (some ⟨Z, 12, none⟩)) = some (.bool q.close) := loadOne_has hz rfl
 have ldk : loadOne h (.pointer (some ⟨Z, 0, none⟩)) = some (.int .u8 q.kind) := loadOne_has hz rfl
 unfold stopQ at hQ
 cases hc : q.close with
 | true =>
   rw [hc] at ldc hQ
   refine ops_s ?_
   simp only [↓OF, NK, t12, fieldPtr_ptr, Nat.zero_add]
   refine ops_s ?_
   simp only [↓OF, NK, ldc]
   refine ops_s ?_
   simp only [↓OF, NK]
   refine ops_k ?_
   refine ops_k ?_
   refine ops_k ?_
   refine ops_s ?_
   simp only [↓OF, NK, pickV_true]
   exact hK _ _ _ hQ
 | false =>
   rw [hc, Bool.false_or] at hQ
   rw [hc] at ldc
   refine ops_s ?_
   simp only [↓OF, NK, t12, fieldPtr_ptr, Nat.zero_add]
   refine ops_s ?_
   simp only [↓OF, NK, ldc]
   refine ops_s ?_
   simp only [↓OF, NK]
   refine ops_s ?_
   simp only [↓OF, NK, t12, fieldPtr_ptr, Nat.zero_add]
   refine ops_s ?_
   simp only [↓OF, NK, ldk]
   refine ops_s ?_
   simp only [↓OF, NK, binV_eql]
   refine ops_s ?_
   simp only [↓OF, NK, pickV_false]
   exact hK _ _ _ hQ
theorem reg5_16 (L n : Nat) (hL : 2000 ≤ L) {tm : T Value} {h : H} {k m : Nat} {n1 n2 : Nat} {v1 v2 : Value} {l : List RQ} (a1 : Reqs n1 h v1 l) (a2 : Reqs n2 h v2 l) (hk : ∀ q ∈ l, q.keys.length ≤ 1000) (hl : l.length < L) (h9 : l.length ≤ 100000)
   (t15 : tg tm 15 = .int .i64 0) (t10 : tg tm 10 = .int .i64 (m : Int)) (t14 : tg tm 14 = .int .i64 (k : Int)) (t7 : tg tm 7 = .int .i64 ((m + k : Nat) : Int)) (t16 : tg tm 16 = v1) (t6 : tg tm 6 = v2) (hm : m + k ≤ 100000) {Q : Ex → T Value → H → Prop}
   (hQ : ∀ hx, Keep nobody h hx → Q .norm (T.set tm 4 (.bool true)) hx) : C ⟨r5_16⟩ (CF L (n + 3)) L tm h Q := fun K hK => by
 rw [box_f]
 unfold r5_16
 try rw [bx]
 have w : IntKind.i64.wrap ((m : Int) + (k : Int)) = ((m + k : Nat) : Int) := by
   rw [show (m : Int) + (k : Int) = ((m + k : Nat) : Int) by omega]; exact wrap_lt _ (by omega)
 refine ops_s ?_
 simp only [↓OF, NK, t15]
 refine ops_s ?_
 simp only [↓OF, NK, eqlS]
 refine ops_s ?_
 simp only [↓OF, NK]
 refine ops_s ?_
 simp only [↓OF, NK, t10]
 refine ops_s ?_
 simp only [↓OF, NK, t14]
 refine ops_s ?_
 simp only [↓OF, NK, binV_add, w]
 refine ops_s ?_
 simp only [↓OF, NK, t7]
 refine ops_s ?_
 simp only [↓OF, NK, eqlS]
 refine ops_s ?_
 simp only [↓OF, NK, pickV_true]
 refine ops_s ?_
 simp only [↓OF, NK]
 refine ops_s ?_
 simp only [↓OF, NK, t16]
 refine ops_s ?_
 simp only [↓OF, NK, t6]
 refine ops_s ?_
 simp only [NK]
 refine law15 L n hL a1 a2 hk hl h9 _ fun r hx hv => ?_
 obtain ⟨rfl, kx⟩ := hv
 refine ops_s ?_
 simp only [↓OF, NK, pickV_true]
 refine ops_s ?_
 simp only [↓OF, NK]
 exact hK _ _ _ (hQ hx kx)
theorem pieces_law (L n : Nat) (hL : 20000 ≤ L) {h0 : H} {v : Value} {b : List UInt8} {z : Int} {e : Value} {m : Int} (ev : Env0 e h0) (h7 : 7 < h0.next) (hM : Has h0 0 (.ro [.int .i64 m])) (hr : Rd h0 v b) :
   Sp (CF L (n + 24)) 5 [v, .int .i64 z] h0 fun r h' => r = .bool true := by
 refine Sp.body f5 (by simp) ?_
 unfold c5
 have done : ∀ (tm : T Value) (h : H), tg tm 4 = .bool true → ∃ l, q5.f tm h = some l ∧ resOf l = .bool true := fun tm h t4 => ⟨_, rfl, by simp only [resOf, t4]⟩
 refine C.seq fun K hK => ?_
 simp only [seval, EV, r5_0]
 refine hK _ _ _ (C.seq fun K hK => ?_)
 simp only [r5_1]
 refine alive_law L (n + 7) (by omega) ev h7 hM _ fun r h1 hv => ?_
 obtain ⟨rfl, k1⟩ := hv
 refine hK _ _ _ (C.seq (C.seq (reg5_2 (z := z) (hr.keep0 k1) (by simp only [seval, EV]) (by simp only [seval, EV]) (by simp only [seval, EV]) ?_)))
 by_cases g : 3000 < b.length ∨ z < 0 ∨ (b.length : Int) < z
 · rw [dT g]
   refine C.ct (C.seq fun K hK => ?_)
   simp only [seval, EV, r5_3]
   exact hK _ _ _ (C.ret ⟨.inr rfl, done _ _ (by simp only [seval, EV])⟩)
 rw [dF g]
 refine C.cf <| C.skip (C.seq fun K hK => ?_)
 obtain ⟨k, rfl⟩ : ∃ k : Nat, z = (k : Int) := ⟨z.toNat, by omega⟩
 have hb : b.length ≤ 3000 := by omega
 have hkb : k ≤ b.length := by omega
 have n1 := k1.next
 have hr1 := hr.keep0 k1
 have g9 := law9 L (n + 8) (by omega) (ev.keep0 k1) (by omega) (hM.keep0 k1) hr1 (by omega) (by omega)
 simp only [seval, EV, r5_4]
 refine g9 _ fun r h2 hv => ?_
 obtain ⟨k2, lv, rfl, qA⟩ := hv
 simp only [EV, t3]
 have k02 := k1.then k2
 have n2 := k02.next
 refine hK _ _ _ (C.seq fun K hK => ?_)
 obtain ⟨w, ew, rw2, _⟩ := (hr.keep0 k02).mid none 0 k (.inl ⟨rfl, rfl⟩) (Nat.zero_le _) hkb .i64
 rw [List.drop_zero] at rw2
 have hlk : (b.take k).length = k := by rw [List.length_take]; omega
 have g9 := law9 L (n + 8) (by omega) (ev.keep0 k02) (by omega) (hM.keep0 k02) rw2 (by omega) (by omega)
 simp only [seval, EV, r5_5, ew]
 refine g9 _ fun r h3 hv => ?_
 obtain ⟨k3, ov, rfl, qO⟩ := hv
 simp only [EV, t3]
 have k03 := k02.then k3
 have n3 := k03.next
 have pl := pieces_plain (b := b) (by omega) hkb
 have akA := allE_keys b
 have akO := allE_keys (b.take k)
 have eA : (allE b).2.2 = 0 := by rw [allE_of (by omega)]
 have eO : (allE (b.take k)).2.2 = 0 := by rw [allE_of (by omega)]
 rw [eA, eO]
 have qA3 := qA.keep0 k3
 refine hK _ _ _ (C.seq (C.seq (reg5_6 (k := k) (n := (allE b).2.1) (m := (allE (b.take k)).2.1) (hr.keep0 k03) (by simp only [seval, EV]) (by simp only [seval, EV]) (by simp only [seval, EV]) (by simp only [seval, EV]) (by simp only [seval, EV]) (by simp only [seval, EV]) (by omega) (by omega) ?_)))
 refine C.cf <| C.skip (C.seq (C.seq fun K hK => ?_))
 generalize hO : allE (b.take k) = O at *
 generalize hA : allE b = A at *
 have rest : ∀ (tm : T Value) (hx : H), Keep nobody h3 hx → A.1 = O.1 ++ (allE (b.drop O.2.1)).1 → A.2.1 = O.2.1 + (allE (b.drop O.2.1)).2.1 → tg tm 0 = v → tg tm 6 = lv → tg tm 7 = .int .i64 (A.2.1 : Int) → tg tm 9 = ov → tg tm 10 = .int .i64 (O.2.1 : Int) → C ⟨seqC ⟨r5_12⟩ ⟨seqC ⟨r5_13⟩ ⟨seqC ⟨r5_14⟩ ⟨seqC ⟨r5_15⟩ ⟨seqC ⟨r5_16⟩ retC⟩⟩⟩⟩⟩ (CF L (n + 23)) L tm hx fun e tm' h' => (e = .norm ∨ e = .ret) ∧ ∃ l, q5.f tm' h' = some l ∧ resOf l = .bool true := fun tm hx kx p1 p2 t0 t6 t7 t9 t10 => by
   have k0x := k03.then kx
   have n0x := k0x.next
   refine C.seq fun K hK => ?_
   obtain ⟨w2, ew2, rw3, _⟩ := (hr.keep0 k0x).from O.2.1 (by omega)
   have hld : (b.drop O.2.1).length = b.length - O.2.1 := List.length_drop
   have akT := allE_keys (b.drop O.2.1)
   have eT : (allE (b.drop O.2.1)).2.2 = 0 := by rw [allE_of (by omega)]
   have g9 := law9 L (n + 8) (by omega) (ev.keep0 k0x) (by omega) (hM.keep0 k0x) rw3 (by omega) (by omega)
   simp only [EV, r5_12, t0, t10, ew2]
   refine g9 _ fun r h4 hv => ?_
   obtain ⟨k4, tv, rfl, qT⟩ := hv
   rw [eT]
   simp only [EV, t3]
   refine hK _ _ _ (C.seq fun K hK => ?_)
   simp only [r5_13]
   refine hK _ _ _ (C.seq fun K hK => ?_)
   have kx4 := kx.then k4
   obtain ⟨v5, h5, e5, q5', k5, b5⟩ := app_reqs (Reqs.nil 0 h4) (qO.keep0 kx4) (.refl _ _) (fun c hc => by simp [nilV] at hc) (by show 0 + _ ≤ _; omega)
   rw [List.nil_append] at q5'
   have k5' : Keep nobody h4 h5 := k5.mono fun c _ hc => by simp [nilV] at hc
   have b5' : ∀ c, blk v5 c → h4.next ≤ c := fun c hc => (b5 c hc).elim (fun h => by simp [nilV] at h) id
   have e5' : appendV 28 13 128 h4 (.slice none 0 0) ov = some (v5, h5) := e5
   simp only [seval, EV, r5_14, t9, e5']
   refine hK _ _ _ (C.seq fun K hK => ?_)
   obtain ⟨v6, h6, e6, q6, k6, b6⟩ := app_reqs q5' qT k5' b5' (by omega)
   simp only [seval, EV, r5_15, e6]
   refine hK _ _ _ (C.seq (reg5_16 L (n + 20) (by omega) (k := (allE (b.drop O.2.1)).2.1) (m := O.2.1) (n1 := 0) (n2 := h1.next) (v1 := v6) (v2 := lv) (l := A.1) (by rw [p1]; exact q6) (qA3.keep2 (kx4.then k5') k6 fun c hc hv => by have := b5' c hv; have := kx4.next; omega) akA.1 (by omega) (by omega) (by simp only [seval, EV]) (by simp only [seval, EV, t10]) (by simp only [seval, EV]) (by simp only [seval, EV, t7, p2]) (by simp only [seval, EV]) (by simp only [seval, EV, t6]) (by omega) fun hy ky => C.ret ⟨.inr rfl, done _ _ (by simp only [seval, EV])⟩))
 by_cases g0 : (0 : Int) < (O.1.length : Int)
 · have hne : O.1 ≠ [] := fun e => by rw [e] at g0; exact absurd g0 (by decide)
   simp only [seval, EV, r5_8, qO.len, dT g0]
   refine hK _ _ _ (C.ct (C.seq fun K hK => ?_))
   obtain ⟨q, hq⟩ : ∃ q, O.1[O.1.length - 1]? = some q := ⟨_, List.getElem?_eq_getElem (by omega)⟩
   have hlast : O.1.getLast? = some q := by rw [List.getLast?_eq_getElem?]; exact hq
   have w1 : IntKind.i64.wrap ((O.1.length : Int) - 1) = ((O.1.length - 1 : Nat) : Int) := by
     rw [show (O.1.length : Int) - 1 = ((O.1.length - 1 : Nat) : Int) by omega]; exact wrap_lt _ (by omega)
   obtain ⟨bb, oo, kv, ei, ld, sq⟩ := qO.at hq
   have k6 := keep_alloc h3 (.rw (RQ.zero.cells nilV) (some 28)) (.rw (q.cells kv) (some 28))
   have b6 := has_alloc h3 (.rw (RQ.zero.cells nilV) (some 28)) (.rw (q.cells kv) (some 28))
   simp only [seval, ↓EW, EV, r5_9, qO.len, w1, ei, ld h3 (.refl _ _) none, new13, own13 (strs_ones sq)]
   generalize (h3.new (.rw (RQ.zero.cells nilV) (some 28))).put h3.next (.rw (q.cells kv) (some 28)) = h4 at *
   refine hK _ _ _ (C.seq (reg5_10 b6 (by simp only [seval, EV]) ?_))
   cases hs : stopQ q with
   | true =>
     refine C.ct (C.seq fun K hK => ?_)
     have hor : O.1.length ≤ A.1.length ∨ q.close = true := by
       rcases pl with ⟨q', h1, h2, h3⟩ | ⟨h1, _⟩
       · rw [hlast] at h1; cases h1; exact h3
       · rcases h1 with h1 | ⟨q', h1, h2⟩
         · exact absurd h1 hne
         · rw [hlast] at h1; cases h1; rw [hs] at h2; cases h2
     have ldc : ∀ s, loadOne h4 (.pointer (some ⟨h3.next, 12, s⟩)) = some (.bool q.close) := fun s => loadOne_has b6 rfl
     by_cases g1 : (O.1.length : Int) ≤ (A.1.length : Int)
     · simp only [seval, EV, r5_11, qO.len, qA3.len, dT g1]
       exact hK _ _ _ (C.ret ⟨.inr rfl, done _ _ (by simp only [seval, EV])⟩)
     · have hcl : q.close = true := hor.resolve_left (by omega)
       rw [hcl] at ldc
       simp only [seval, EV, r5_11, qO.len, qA3.len, dF g1, ldc]
       exact hK _ _ _ (C.ret ⟨.inr rfl, done _ _ (by simp only [seval, EV])⟩)
   | false =>
     refine C.cf <| C.skip ?_
     rcases pl with ⟨q', h1, h2, h3⟩ | ⟨_, p1, p2⟩
     · rw [hlast] at h1; cases h1; rw [hs] at h2; cases h2
     · exact rest _ h4 k6 p1 p2 (by simp only [seval, EV]) (by simp only [seval, EV]) (by simp only [seval, EV]) (by simp only [seval, EV]) (by simp only [seval, EV])
 · simp only [seval, EV, r5_8, qO.len, dF g0]
   refine hK _ _ _ (C.cf <| C.skip ?_)
   rcases pl with ⟨q', h1, h2, h3⟩ | ⟨_, p1, p2⟩
   · have : O.1 = [] := List.eq_nil_of_length_eq_zero (by omega)
     rw [this] at h1; cases h1
   · exact rest _ h3 (.refl _ _) p1 p2 (by simp only [seval, EV]) (by simp only [seval, EV]) (by simp only [seval, EV]) (by simp only [seval, EV]) (by simp only [seval, EV])
end Go.Proofs.YtilpiiafjehbnaaGreatDoor
set_option maxRecDepth 100000
namespace Go.Proofs.YtilpiiafjehbnaaGreatDoor
open Go.Ev Go.RowKit
theorem und3 : Tryz.prog.underlying 3 = some (.int .i64) := by kernel_rfl
section
variable {H : Type} {enc : TypeId × Value → H}
theorem textPieces_walk {W : World} {m : Int} {a : Addr} (z : GlobZ W m a) {n1 n2 : Nat} {v1 v2 : Value} {x1 x2 : DataW H × List MemPlace} (hok : Value.okWide Tryz.prog W .any 0 34 v1) (h1 : DataW.trod enc Tryz.prog W 0 (fun _ => true) true n1 34 v1.cells.toList = some x1)
   (hok2 : Value.okWide Tryz.prog W .any 0 3 v2) (h2 : DataW.trod enc Tryz.prog W 0 (fun _ => true) true n2 3 v2.cells.toList = some x2) :
   Calls Tryz.prog 5 #[v1, v2] W fun e W' => e = .returned (.bool true) ∧ Below W.heap.size W W' := by
 obtain ⟨o, p, q⟩ := bytes_at hok h1
 obtain ⟨c, e2, _, w2⟩ := DataW.trod_int und3 h2
 have hv2 : v2 = .int .i64 c := by
   have ok2 : Cell.ok Tryz.prog W .any 0 3 v2 := by
     unfold Value.okWide at hok2
     rw [und3] at hok2
     unfold Cell.okWide at hok2
     rw [und3] at hok2
     exact hok2
   cases v2 <;> simp [Value.cells] at e2
   case int => simp_all
   case agg => exfalso; unfold Cell.ok at ok2; rw [und3] at ok2; exact ok2
 subst hv2
 have r := glZ_rel z [o] fun p' hp => by
   simp only [List.mem_cons, List.not_mem_nil, or_false] at hp
   exact p p' hp.symm
 obtain ⟨ev, h7, g0⟩ := glZ_env m a [o]
 obtain ⟨v', l, hr, va⟩ := q 9 (rosσ (glZ m a ++ [o])) (rosH (glZ m a ++ [o])) fun p hp => ros_has (by rw [hp]; rfl)
 exact calls_of_sp gor Tryz.checked.mixed xok Tryz.func5 (by kernel_rfl) (pieces_law 20000 0 (by decide) (z := c) ev h7 g0 hr) r (glZ_glob m a [o]) (.cons va (.cons (.int _ _) (.nil _))) ros_ro
end
end Go.Proofs.YtilpiiafjehbnaaGreatDoor
