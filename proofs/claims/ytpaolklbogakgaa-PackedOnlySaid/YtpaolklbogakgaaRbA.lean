import Derived.Test.YtpaolklbogakgaaRdX
set_option linter.unusedSimpArgs false
set_option linter.unusedVariables false
namespace Go.Proofs.Ytpaolklbogakgaa
open Go.Ev

theorem u8_or128 (n : Nat) : (UInt8.ofNat n ||| 128).toNat = n % 128 + 128 := by
  have h2 : ∀ z : Fin 256, (UInt8.ofNat z.val ||| 128).toNat = z.val % 128 + 128 := by decide +kernel
  have h3 : UInt8.ofNat n = UInt8.ofNat (n % 256) := by
    apply UInt8.toNat_inj.1; simp [UInt8.toNat_ofNat]
  have h4 := h2 ⟨n % 256, by omega⟩
  simp only at h4
  rw [h3, h4]; omega

end Go.Proofs.Ytpaolklbogakgaa

namespace Go.Proofs.Ytpaolklbogakgaa
open Go.Ev

/-- the answer that shows that the program is not asleep -/
def liveA : Ans := ⟨1, 6, ⟨1, noIv, 300, []⟩, false, strB []⟩
theorem live_ok : liveA.ok := ⟨by decide, by decide, by decide, by decide, fun x hx => by cases hx⟩
theorem small_0 : small 0 = [0] := by rw [small.eq_def]; rfl
theorem small_300 : small 300 = [172, 2] := by
  rw [small.eq_def, if_neg (by decide), small.eq_def, if_pos (by decide)]; rfl
theorem live_bytes : ansBytes liveA = [6, 1, 172, 2, 0] := by
  have e : ansBytes liveA = [u8 6, u8 1] ++ (small 300 ++ small 0) ++ [] := rfl
  rw [e, small_0, small_300]; rfl
theorem live_may : mayB liveA = true := by decide
theorem live_err : wErr liveA = 0 := by
  unfold wErr; rw [live_bytes, if_pos live_may, if_neg (by decide)]
theorem live_w : wBytes liveA = [178, 1, 0, 0, 0, 5, 6, 1, 172, 2, 0] := by
  unfold wBytes; rw [live_bytes, if_pos live_may, if_neg (by decide)]; rfl
theorem agg_live1 : aggO (fill [(.int .u8 (0)), (.slice none 0 0), (.int .u64 (0))] (plc [(0, 1), (1, 1), (2, 1)]) [(0, (.int .u8 (1))), (2, (.int .u64 (300)))]) = some (.agg [.int .u8 1, .slice none 0 0, .int .u64 300].toArray) := rfl
theorem agg_live2 : aggO (fill Z7 P7 [(0, (.int .u8 (1))), (1, (.int .u8 (6))), (2, .agg [.int .u8 1, .slice none 0 0, .int .u64 300].toArray)]) = some liveA.v := rfl
theorem lit11 (b : Nat) : mkLit 11 b (fill (repl [(.int .u8 (0))] 11) (pl 1) [(0, (.int .u8 (178))), (1, (.int .u8 (1))), (2, (.int .u8 (0))), (3, (.int .u8 (0))), (4, (.int .u8 (0))), (5, (.int .u8 (5))), (6, (.int .u8 (6))), (7, (.int .u8 (1))), (8, (.int .u8 (172))), (9, (.int .u8 (2))), (10, (.int .u8 (0)))]) = some (.rw (([178, 1, 0, 0, 0, 5, 6, 1, 172, 2, 0] : List UInt8).map bv), .slice (some ⟨b, 0, none⟩) 11 11) := rfl

theorem alive (L n : Nat) (h : H) (hL : 100 < L) : Sp (CF L (n + 9)) 14 [] h fun r h' => r = .bool true ∧ Keep nobody h h' := by
  refine Sp.body f14 (by simp) ?_
  unfold c14
  refine C.seq fun K hK => hK .norm _ _ (C.seq fun K hK => ?_)
  simp only [↓opStep_eq, ↓reduceIte, tg_set, toTm_cons, toTm_nil, fieldPtr_ptr, Nat.add_zero, Nat.zero_add, Nat.reduceAdd, Nat.reduceEqDiff, Int.reduceEq, Int.reduceLT, Int.reduceLE, Int.reduceNe, ↓kO_some, ↓kA_some, ↓kH_some, kO_some, kA_some, kH_some, gd_true, gd_false, nthD_zero, nthD_succ, isB_true, isB_false, isB_undef, pickV_true, pickV_false, binV_add, binV_sub, binV_mul, binV_eql, binV_neq, binV_lss, binV_leq, binV_gtr, binV_geq, unV_not, nt, nf, Bool.false_eq_true, dt, df, decide_true, decide_false, withV_some, aggO_some, ptrTo_eq, ↓aO_some, aO_some, ↓andB_true, andB_true, gz, gs, seqC, retC, skipC, exitC, blockC, condC, cells_agg, r14_1, agg_live1, agg_live2]
  refine packed_write L n liveA h live_ok (.inl ⟨rfl, rfl⟩) hL (by show 0 < L; omega) (by decide) _ fun r h2 hv => ?_
  obtain ⟨x, rfl, m, k, _⟩ := hv
  rw [live_w] at m
  simp only [tupNth_tuple, ↓opStep_eq, ↓reduceIte, tg_set, toTm_cons, toTm_nil, fieldPtr_ptr, Nat.add_zero, Nat.zero_add, Nat.reduceAdd, Nat.reduceEqDiff, Int.reduceEq, Int.reduceLT, Int.reduceLE, Int.reduceNe, ↓kO_some, ↓kA_some, ↓kH_some, kO_some, kA_some, kH_some, gd_true, gd_false, nthD_zero, nthD_succ, isB_true, isB_false, isB_undef, pickV_true, pickV_false, binV_add, binV_sub, binV_mul, binV_eql, binV_neq, binV_lss, binV_leq, binV_gtr, binV_geq, unV_not, nt, nf, Bool.false_eq_true, dt, df, decide_true, decide_false, withV_some, aggO_some, ptrTo_eq, ↓aO_some, aO_some, ↓andB_true, andB_true, gz, gs, seqC, retC, skipC, exitC, blockC, condC, cells_agg, live_err]
  refine hK _ _ _ (C.seq fun K hK => ?_)
  have m2 : Mine (h2.new (.rw (([178, 1, 0, 0, 0, 5, 6, 1, 172, 2, 0] : List UInt8).map bv))) (.slice (some ⟨h2.next, 0, none⟩) 11 11) [178, 1, 0, 0, 0, 5, 6, 1, 172, 2, 0] := Mine.rw h2.next [178, 1, 0, 0, 0, 5, 6, 1, 172, 2, 0] (Has.new h2 _)
  have k2 := Keep.new h2 (.rw (([178, 1, 0, 0, 0, 5, 6, 1, 172, 2, 0] : List UInt8).map bv))
  have st1 := m.reads.str
  have st2 := m2.reads.str
  have hs : ∀ s : ByteArray, binV Try.prog .eql 9 false (.string s) (.string s) = some (.bool true) := fun s => by rw [strV_eql, leB_eq]; simp
  generalize hl : ([178, 1, 0, 0, 0, 5, 6, 1, 172, 2, 0] : List UInt8) = bs at *
  have lit := lit11 h2.next
  rw [hl] at lit
  simp only [↓opStep_eq, ↓reduceIte, tg_set, toTm_cons, toTm_nil, fieldPtr_ptr, Nat.add_zero, Nat.zero_add, Nat.reduceAdd, Nat.reduceEqDiff, Int.reduceEq, Int.reduceLT, Int.reduceLE, Int.reduceNe, ↓kO_some, ↓kA_some, ↓kH_some, kO_some, kA_some, kH_some, gd_true, gd_false, nthD_zero, nthD_succ, isB_true, isB_false, isB_undef, pickV_true, pickV_false, binV_add, binV_sub, binV_mul, binV_eql, binV_neq, binV_lss, binV_leq, binV_gtr, binV_geq, unV_not, nt, nf, Bool.false_eq_true, dt, df, decide_true, decide_false, withV_some, aggO_some, ptrTo_eq, ↓aO_some, aO_some, ↓andB_true, andB_true, gz, gs, seqC, retC, skipC, exitC, blockC, condC, cells_agg, Bool.true_or, Bool.false_or, Bool.or_true, Bool.or_false, Bool.true_and, Bool.false_and, Bool.and_true, Bool.and_false, r14_2, st1, lit, st2, hs]
  exact hK _ _ _ (C.ret ⟨.inr rfl, _, rfl, by simp only [↓opStep_eq, ↓reduceIte, tg_set, toTm_cons, toTm_nil, fieldPtr_ptr, Nat.add_zero, Nat.zero_add, Nat.reduceAdd, Nat.reduceEqDiff, Int.reduceEq, Int.reduceLT, Int.reduceLE, Int.reduceNe, ↓kO_some, ↓kA_some, ↓kH_some, kO_some, kA_some, kH_some, gd_true, gd_false, nthD_zero, nthD_succ, isB_true, isB_false, isB_undef, pickV_true, pickV_false, binV_add, binV_sub, binV_mul, binV_eql, binV_neq, binV_lss, binV_leq, binV_gtr, binV_geq, unV_not, nt, nf, Bool.false_eq_true, dt, df, decide_true, decide_false, withV_some, aggO_some, ptrTo_eq, ↓aO_some, aO_some, ↓andB_true, andB_true, gz, gs, seqC, retC, skipC, exitC, blockC, condC, cells_agg]; rfl, k.then k2⟩)
end Go.Proofs.Ytpaolklbogakgaa

namespace Go.Proofs.Ytpaolklbogakgaa
open Go.Ev

end Go.Proofs.Ytpaolklbogakgaa

namespace Go.Proofs.Ytpaolklbogakgaa
open Go.Ev Go.RowKit

section
variable {H : Type} {enc : TypeId × Value → H}
/-- bytes that lie in memory, as the evaluator has them -/
theorem bytes_at {W : World} {n : Nat} {v : Value} {x : DataW H × List MemPlace} (hok : Value.okWide Try.prog W .any 0 29 v) (h : DataW.trod enc Try.prog W 0 (fun _ => true) true n 29 v.cells.toList = some x) :
    ∃ o : Option (List Value × CB), (∀ p, o = some p → RosOk W p) ∧ ∀ (B : Nat) (σ : Sg) (h0 : Ev.H), (∀ p, o = some p → Has h0 B (.ro p.1) ∧ σ B = some p.2) → ∃ (v' : Value) (l : List UInt8), Rd h0 v' l ∧ VR σ v' v := by
  have hok2 : Cell.ok Try.prog W .any 0 29 v := by
    unfold Value.okWide at hok
    rw [u29] at hok
    unfold Cell.okWide at hok
    rw [u29] at hok
    exact hok
  rcases DataW.trod_slice u29 h with ⟨e, _⟩ | ⟨a, len, cap, elems, rest, m', _, e, _, _, hlc, hcm, hlen, hel, _, _⟩
  · have hv : v = .slice none 0 0 := by
      cases v <;> simp [Value.cells] at e
      case slice => simp_all
      case agg => exfalso; unfold Cell.ok at hok2; rw [u29] at hok2; exact hok2
    subst hv
    exact ⟨none, (fun p h => by cases h), fun B σ h0 _ => ⟨.slice none 0 0, [], .inl ⟨rfl, rfl⟩, .slNil _ _⟩⟩
  · have hv : v = .slice (some a) len cap := by
      cases v <;> simp [Value.cells] at e
      case slice => simp_all
      case agg => exfalso; unfold Cell.ok at hok2; rw [u29] at hok2; exact hok2
    subst hv
    unfold Cell.ok at hok2
    rw [u29] at hok2
    obtain ⟨_, _, _, hspot, row, cells, hshape, _⟩ := hok2
    have hblk : a.block < W.heap.size := by
      unfold World.shape? at hshape
      split at hshape
      · rename_i c el _ hh
        exact (Array.getElem?_eq_some_iff.1 hh).1
      · cases hshape
    have hone : ∀ i : Fin len, ∃ y : UInt8, W.cells? 0 (a.add (i.val * 1)) 1 = some [bv y] := fun i => by
      have h1 := hel i.val i.isLt
      rw [s5, List.getElem?_eq_getElem (by omega)] at h1
      simp only [Option.bind_eq_some_iff] at h1
      obtain ⟨c5, h2, h3⟩ := h1
      obtain ⟨z, rfl, _, w⟩ := DataW.trod_int u5 h3
      have := bounds_u8 w
      refine ⟨UInt8.ofNat z.toNat, ?_⟩
      have hz : bv (UInt8.ofNat z.toNat) = .int .u8 z := by
        unfold bv
        congr 1
        rw [UInt8.toNat_ofNat_of_lt' (by simp [UInt8.size]; omega)]
        omega
      rw [hz]; exact h2
    obtain ⟨f, hf⟩ := Classical.axiomOfChoice hone
    let l := List.ofFn f
    have hil : l.length = len := by simp [l]
    have hcells : ∀ j v, (l.map bv)[j]? = some v → W.cell? ⟨a.block, a.off + j, none⟩ = some v ∧ cstOk v = true := fun j v hv => by
      rw [List.getElem?_map] at hv
      obtain ⟨y, hy, rfl⟩ := Option.map_eq_some_iff.1 hv
      have hlt : j < len := by
        by_cases hlt : j < len
        · exact hlt
        · rw [List.getElem?_eq_none (by omega)] at hy; cases hy
      have hy' : f ⟨j, hlt⟩ = y := by simpa [l, hlt] using hy
      have h2 := hf ⟨j, hlt⟩
      rw [hy'] at h2
      refine ⟨?_, rfl⟩
      have h3 := (World.cells?_some h2).2.2 0 (by omega)
      have e0 : [bv y][0]? = some (bv y) := rfl
      rw [e0] at h3
      rw [← h3]
      obtain ⟨ab, ao, asp⟩ := a
      simp only at hspot
      subst hspot
      simp only [Addr.add, Nat.mul_one]
      by_cases e1 : j = 0
      · simp [e1]
      · simp [e1]
    have hcO : cap < OPEN := by have := hcm; unfold maxLen at this; unfold OPEN; omega
    have hble : Nat.ble OPEN cap = false := by
      rw [Bool.eq_false_iff]; intro e; have := Nat.le_of_ble_eq_true e; omega
    refine ⟨some (l.map bv, ⟨a.block, a.off, 1 * len, 1⟩), fun p h => ?_, fun B σ h0 hB => ?_⟩
    · simp only [Option.some.injEq] at h; subst h; exact ⟨hblk, hcells⟩
    obtain ⟨hh, hσ⟩ := hB _ rfl
    have hV : VR σ (.slice (some ⟨B, 0, none⟩) len cap) (.slice (some a) len cap) := by
      have := VR.sl (σ := σ) B 0 len cap ⟨a.block, a.off, 1 * len, 1⟩ hσ hcO
      obtain ⟨ab, ao, asp⟩ := a
      simp only at hspot
      subst hspot
      exact this
    exact ⟨.slice (some ⟨B, 0, none⟩) len cap, l, .inr ⟨B, 0, cap, _, _, by rw [hil], hh, rfl, by simp, by rw [List.drop_zero, List.take_of_length_le (by simp)], .inr ⟨hble, by omega⟩⟩, hV⟩

end
end Go.Proofs.Ytpaolklbogakgaa

namespace Go.Proofs.Ytpaolklbogakgaa
open Go.Ev

/-- a number has one form alone -/
theorem rd_canon : ∀ (l : List UInt8) (i n k : Nat), rd i l = some (n, k) → l.take k = small n ∧ (0 < i → 0 < n)
  | [], i, n, k, h => by simp [rd] at h
  | x :: r, i, n, k, h => by
    rw [rd_cons] at h
    split at h
    · cases h
    · split at h
      · rename_i hx
        split at h
        · cases h
        · rename_i h0
          simp only [Option.some.injEq, Prod.mk.injEq] at h
          obtain ⟨rfl, rfl⟩ := h
          refine ⟨?_, fun hi => by omega⟩
          rw [small.eq_def, if_pos hx]
          simp
      · rename_i hx
        rw [Option.map_eq_some_iff] at h
        obtain ⟨⟨n', k'⟩, h1, h2⟩ := h
        simp only [Prod.mk.injEq] at h2
        obtain ⟨rfl, rfl⟩ := h2
        obtain ⟨c1, c2⟩ := rd_canon r (i + 1) n' k' h1
        have hn := c2 (by omega)
        refine ⟨?_, fun _ => by omega⟩
        have hx8 : x.toNat < 256 := x.toNat_lt
        rw [List.take_succ_cons, c1, small.eq_def (x.toNat % 128 + 128 * n'), if_neg (by omega)]
        congr 1
        · apply UInt8.toNat_inj.1
          rw [u8_or128]; omega
        · congr 1; omega
theorem rd_split {l : List UInt8} {n k : Nat} (h : rd 0 l = some (n, k)) : l = small n ++ l.drop k := by
  rw [← (rd_canon l 0 n k h).1, List.take_append_drop]

theorem cutS_split {l s r : List UInt8} (h : cutS l = some (s, r)) : l = txt ⟨s.toArray⟩ ++ r := by
  unfold cutS at h
  split at h
  · cases h
  · rename_i n k hrd
    split at h
    · cases h
    · rename_i hn
      simp only [Option.some.injEq, Prod.mk.injEq] at h
      obtain ⟨rfl, rfl⟩ := h
      have hs := rd_split hrd
      have hlen : ((l.drop k).take n).length = n := by rw [List.length_take, List.length_drop]; omega
      have e : txt ⟨((l.drop k).take n).toArray⟩ = small n ++ (l.drop k).take n := by
        show small ((l.drop k).take n).toArray.size ++ ((l.drop k).take n).toArray.toList = _
        simp only [List.size_toArray, hlen]
      rw [e, List.append_assoc, ← List.drop_drop, List.take_append_drop]
      exact hs

theorem nums3_split {l r : List UInt8} {ns : List Nat} (h : nums 3 l = some (ns, r)) : ∃ f u q, ns = [f, u, q] ∧ l = small f ++ (small u ++ (small q ++ r)) ∧ q < 18446744073709551616 := by
  simp only [nums] at h
  cases h1 : rd 0 l with
  | none => rw [h1] at h; cases h
  | some p1 =>
    obtain ⟨f, k1⟩ := p1
    rw [h1] at h
    simp only at h
    cases h2 : rd 0 (l.drop k1) with
    | none => rw [h2] at h; cases h
    | some p2 =>
      obtain ⟨u, k2⟩ := p2
      rw [h2] at h
      simp only at h
      cases h3 : rd 0 ((l.drop k1).drop k2) with
      | none => rw [h3] at h; cases h
      | some p3 =>
        obtain ⟨q, k3⟩ := p3
        rw [h3] at h
        simp only [Option.some.injEq, Prod.mk.injEq] at h
        obtain ⟨rfl, rfl⟩ := h
        refine ⟨f, u, q, rfl, ?_, (rd_bound _ 0 q k3 h3 (by decide)).1⟩
        rw [← rd_split h3, ← rd_split h2, ← rd_split h1]

theorem pItem_split {l r : List UInt8} {x : Itm} (h : pItem l = some (x, r)) : l = itemBytes x ++ r ∧ x.ok := by
  unfold pItem at h
  split at h
  · cases h
  · rename_i k l1 h1
    split at h
    · cases h
    · rename_i v l2 h2
      split at h
      · cases h
      · rename_i ns r3 h3
        obtain ⟨f, u, q, rfl, h4, hq⟩ := nums3_split h3
        simp only [ofNums] at h
        split at h
        · cases h
        · rename_i x' hx
          split at hx
          · cases hx
          · rename_i hlim
            simp only [Option.some.injEq, Prod.mk.injEq] at h hx
            obtain ⟨rfl, rfl⟩ := h
            subst hx
            have hw : IntKind.u64.wrap (u : Int) = (u : Int) := wrap_u64 u (by omega)
            refine ⟨?_, ⟨⟨by simp only; omega, by simp only; omega⟩, ⟨by simp only; omega, by simp only; omega⟩, ⟨by simp only; omega, by simp only; omega⟩⟩⟩
            simp only [itemBytes, hw, Int.toNat_natCast, List.append_assoc]
            rw [← h4, ← cutS_split h2, ← cutS_split h1]

theorem pItems_split : ∀ (n : Nat) (l r : List UInt8) (xs : List Itm), pItems n l = some (xs, r) → l = xs.flatMap itemBytes ++ r ∧ ∀ x ∈ xs, x.ok
  | 0, l, r, xs, h => by
    simp only [pItems, Option.some.injEq, Prod.mk.injEq] at h
    obtain ⟨rfl, rfl⟩ := h
    exact ⟨rfl, by simp⟩
  | n + 1, l, r, xs, h => by
    simp only [pItems] at h
    split at h
    · cases h
    · rename_i x l1 h1
      split at h
      · cases h
      · rename_i ys r' h2
        simp only [Option.some.injEq, Prod.mk.injEq] at h
        obtain ⟨rfl, rfl⟩ := h
        obtain ⟨e1, o1⟩ := pItem_split h1
        obtain ⟨e2, o2⟩ := pItems_split n _ _ _ h2
        refine ⟨?_, fun y hy => ?_⟩
        · rw [List.flatMap_cons, List.append_assoc, ← e2, ← e1]
        · rcases List.mem_cons.1 hy with rfl | hy
          · exact o1
          · exact o2 y hy

theorem u8_of_toNat (x : UInt8) : u8 (x.toNat : Int) = x := by
  apply UInt8.toNat_inj.1
  simp [u8]

theorem pRes_split {l : List UInt8} {x0 x1 : UInt8} {num : Nat} {xs : List Itm} (h : pRes l = some (x0, x1, num, xs)) :
    l = resBytes (x0.toNat : Int) ⟨(x1.toNat : Int), noIv, (num : Int), xs⟩ ∧ (∀ x ∈ xs, x.ok) ∧ num < 18446744073709551616 := by
  rcases l with _ | ⟨y0, _ | ⟨y1, b⟩⟩
  · cases h
  · cases h
  · simp only [pRes] at h
    split at h
    · cases h
    · rename_i num' k1 h1
      split at h
      · cases h
      · rename_i many k2 h2
        split at h
        · cases h
        · split at h
          · cases h
          · rename_i xs' rest h3
            split at h
            · rename_i hre
              subst hre
              simp only [Option.some.injEq, Prod.mk.injEq] at h
              obtain ⟨rfl, rfl, rfl, rfl⟩ := h
              obtain ⟨e3, o3⟩ := pItems_split _ _ _ _ h3
              have hl := pItems_len _ _ _ _ h3
              refine ⟨?_, o3, (rd_bound b 0 num' k1 h1 (by decide)).1⟩
              simp only [resBytes, u8_of_toNat, Int.toNat_natCast, hl]
              rw [List.append_nil] at e3
              rw [List.append_assoc, List.append_assoc, ← e3, ← rd_split h2, ← rd_split h1]
              rfl
            · cases h

theorem pShape_split {k : UInt8} {l : List UInt8} {a : Ans} (h : pShape k l = some a) : ansBytes a = l ∧ u8 a.kind = k ∧ a.ok := by
  unfold pShape at h
  have kk := u8_of_toNat k
  have kb := k.toNat_lt
  have plain : ∀ (y : Bool) (s : ByteArray), (plainA k y s).ok := fun y s => ⟨⟨by simp only [plainA]; omega, by simp only [plainA]; omega⟩, ⟨by simp only [plainA]; omega, by simp only [plainA]; omega⟩, ⟨by simp only [plainA]; omega, by simp only [plainA]; omega⟩, ⟨by simp only [plainA]; omega, by simp only [plainA]; omega⟩, fun x hx => by cases hx⟩
  have kt : ∀ z : Nat, z < 256 → ((k.toNat : Int) = (z : Int) ↔ k = UInt8.ofNat z) := fun z hz => by
    constructor
    · intro h; apply UInt8.toNat_inj.1; simp [UInt8.toNat_ofNat]; omega
    · intro h; rw [h]; simp [UInt8.toNat_ofNat]; omega
  have t1 : (k.toNat : Int) = 1 ↔ k = 1 := kt 1 (by omega)
  have t2 : (k.toNat : Int) = 2 ↔ k = 2 := kt 2 (by omega)
  have t3 : (k.toNat : Int) = 3 ↔ k = 3 := kt 3 (by omega)
  have t7 : (k.toNat : Int) = 7 ↔ k = 7 := kt 7 (by omega)
  split at h
  · rename_i h1
    split at h
    · rename_i x0 x1 num xs hp
      simp only [Option.some.injEq] at h
      subst h
      obtain ⟨e, o, hn⟩ := pRes_split hp
      refine ⟨?_, by rw [h1]; rfl, ⟨by simp [resA], ?_, ?_, ?_, o⟩⟩
      · rw [e]; rfl
      · have := x0.toNat_lt; constructor <;> simp only [resA] <;> omega
      · have := x1.toNat_lt; constructor <;> simp only [resA] <;> omega
      · constructor <;> simp only [resA] <;> omega
    · cases h
  · rename_i h1
    have n1 : ¬ (k.toNat : Int) = 1 := fun e => h1 (t1.1 e)
    split at h
    · rename_i h23
      have n23 : (k.toNat : Int) = 2 ∨ (k.toNat : Int) = 3 := h23.imp t2.2 t3.2
      split at h
      · rename_i y
        split at h
        · rename_i hy
          simp only [Option.some.injEq] at h
          subst h
          refine ⟨?_, kk, plain _ _⟩
          unfold ansBytes
          rw [if_neg (show ¬ (plainA k (decide (y.toNat = 1)) (strB [])).kind = 1 from n1), if_pos (show (plainA k (decide (y.toNat = 1)) (strB [])).kind = 2 ∨ (plainA k (decide (y.toNat = 1)) (strB [])).kind = 3 from n23)]
          by_cases hy1 : y.toNat = 1
          · have : y = 1 := UInt8.toNat_inj.1 hy1
            subst this; rfl
          · have : y = 0 := UInt8.toNat_inj.1 (by show y.toNat = 0; omega)
            subst this; rfl
        · cases h
      · cases h
    · rename_i h23
      have n23 : ¬ ((k.toNat : Int) = 2 ∨ (k.toNat : Int) = 3) := fun e => h23 (e.imp t2.1 t3.1)
      split at h
      · rename_i h7
        simp only [Option.some.injEq] at h
        subst h
        refine ⟨?_, kk, plain _ _⟩
        unfold ansBytes
        rw [if_neg (show ¬ (plainA k false ⟨l.toArray⟩).kind = 1 from n1), if_neg (show ¬ ((plainA k false ⟨l.toArray⟩).kind = 2 ∨ (plainA k false ⟨l.toArray⟩).kind = 3) from n23), if_pos (show (plainA k false ⟨l.toArray⟩).kind = 7 from t7.2 h7)]
        rfl
      · rename_i h7
        split at h
        · rename_i hl
          simp only [Option.some.injEq] at h
          subst h
          refine ⟨?_, kk, plain _ _⟩
          unfold ansBytes
          rw [if_neg (show ¬ (plainA k false (strB [])).kind = 1 from n1), if_neg (show ¬ ((plainA k false (strB [])).kind = 2 ∨ (plainA k false (strB [])).kind = 3) from n23), if_neg (show ¬ (plainA k false (strB [])).kind = 7 from fun e => h7 (t7.1 e)), hl]
        · cases h

end Go.Proofs.Ytpaolklbogakgaa

namespace Go.Proofs.Ytpaolklbogakgaa
open Go.Ev

theorem len4_n4 (a b c d : UInt8) : len4 (n4 a b c d) = [a, b, c, d] := by
  have ha := a.toNat_lt; have hb := b.toNat_lt; have hc := c.toNat_lt; have hd := d.toNat_lt
  have key : ∀ (z : UInt8) (m : Nat), m % 256 = z.toNat → UInt8.ofNat m = z := fun z m h => UInt8.toNat_inj.1 (by rw [UInt8.toNat_ofNat', h])
  simp only [len4, n4]
  rw [key a _ (by omega), key b _ (by omega), key c _ (by omega), key d _ (by omega)]

theorem cutR_six (x0 x1 x2 x3 x4 x5 : UInt8) (r : List UInt8) (h : (x0 :: x1 :: x2 :: x3 :: x4 :: x5 :: r).length ≤ 16384) : cutR 178 (x0 :: x1 :: x2 :: x3 :: x4 :: x5 :: r) = if x0 ≠ 178 then (0, [], 0, 8) else if 4096 < n4 x2 x3 x4 x5 then (0, [], 0, 8) else if (x0 :: x1 :: x2 :: x3 :: x4 :: x5 :: r).length < 6 + n4 x2 x3 x4 x5 then (0, [], 0, 0) else (x1, r.take (n4 x2 x3 x4 x5), 6 + n4 x2 x3 x4 x5, 0) := by
  unfold cutR
  rw [if_neg (by omega)]
theorem cutR_big {l : List UInt8} (h : 16384 < l.length) : cutR 178 l = (0, [], 0, 3) := by unfold cutR; rw [if_pos h]
theorem cutR_nil : cutR 178 [] = (0, [], 0, 0) := by unfold cutR; rw [if_neg (by simp)]

theorem pack_take (x1 x2 x3 x4 x5 : UInt8) (r : List UInt8) (m : Nat) (hyl : (r.take m).length = m) (l4 : len4 m = [x2, x3, x4, x5]) : (178 :: x1 :: x2 :: x3 :: x4 :: x5 :: r).take (6 + m) = pack 178 x1 (r.take m) := by
  have e : pack 178 x1 (r.take m) = 178 :: x1 :: x2 :: x3 :: x4 :: x5 :: r.take m := by
    unfold pack
    rw [hyl, l4]
    simp only [List.cons_append, List.nil_append]
  rw [e, show 6 + m = m + 1 + 1 + 1 + 1 + 1 + 1 by omega]
  simp only [List.take_succ_cons]
theorem six_ok (x0 x1 x2 x3 x4 x5 : UInt8) (r : List UInt8) (m : Nat) (k : UInt8) (y : List UInt8) (n : Nat)
  (h : (if x0 ≠ 178 then ((0 : UInt8), ([] : List UInt8), 0, (8 : Int)) else if 4096 < m then (0, [], 0, 8) else if (x0 :: x1 :: x2 :: x3 :: x4 :: x5 :: r).length < 6 + m then (0, [], 0, 0) else (x1, r.take m, 6 + m, 0)) = (k, y, n, 0)) (hn : n ≠ 0) : x0 = 178 ∧ m ≤ 4096 ∧ 6 + m ≤ (x0 :: x1 :: x2 :: x3 :: x4 :: x5 :: r).length ∧ x1 = k ∧ r.take m = y ∧ 6 + m = n := by
  have no : ∀ (a : UInt8) (b : List UInt8) (e : Int), (a, b, 0, e) = (k, y, n, (0 : Int)) → False := fun a b e h => by
    simp only [Prod.mk.injEq] at h; exact hn h.2.2.1.symm
  by_cases h0 : x0 = 178
  · rw [if_neg (by simpa using h0)] at h
    by_cases h4 : 4096 < m
    · rw [if_pos h4] at h; exact (no _ _ _ h).elim
    · rw [if_neg h4] at h
      by_cases hl : (x0 :: x1 :: x2 :: x3 :: x4 :: x5 :: r).length < 6 + m
      · rw [if_pos hl] at h; exact (no _ _ _ h).elim
      · rw [if_neg hl] at h
        simp only [Prod.mk.injEq] at h
        exact ⟨h0, by omega, by omega, h.1, h.2.1, h.2.2.1⟩
  · rw [if_pos h0] at h; exact (no _ _ _ h).elim

theorem six_take (x0 x1 x2 x3 x4 x5 : UInt8) (r : List UInt8) (k : UInt8) (y : List UInt8) (n : Nat) (hb : (x0 :: x1 :: x2 :: x3 :: x4 :: x5 :: r).length ≤ 16384) (h : cutR 178 (x0 :: x1 :: x2 :: x3 :: x4 :: x5 :: r) = (k, y, n, 0)) (hn : n ≠ 0) : (x0 :: x1 :: x2 :: x3 :: x4 :: x5 :: r).take n = pack 178 k y ∧ y.length ≤ 4096 ∧ n ≤ (x0 :: x1 :: x2 :: x3 :: x4 :: x5 :: r).length ∧ n = 6 + y.length := by
  rw [cutR_six _ _ _ _ _ _ _ hb] at h
  have l4 := len4_n4 x2 x3 x4 x5
  generalize n4 x2 x3 x4 x5 = m at h l4
  obtain ⟨e0, h4, hl, e1, e2, e3⟩ := six_ok _ _ _ _ _ _ _ _ _ _ _ h hn
  have hyl : (r.take m).length = m := by
    rw [List.length_take]
    simp only [List.length_cons] at hl
    omega
  rw [← e1, ← e2, ← e3, e0, hyl]
  rw [e0] at hl
  exact ⟨pack_take _ _ _ _ _ _ _ hyl l4, h4, hl, rfl⟩
theorem cutR_split {l : List UInt8} {k : UInt8} {y : List UInt8} {n : Nat} (h : cutR 178 l = (k, y, n, 0)) (hn : n ≠ 0) : l.take n = pack 178 k y ∧ y.length ≤ 4096 ∧ n ≤ l.length ∧ n = 6 + y.length := by
  have no : ∀ (a : UInt8) (b : List UInt8) (e : Int), (a, b, 0, e) = (k, y, n, (0 : Int)) → False := fun a b e h => by
    simp only [Prod.mk.injEq] at h; exact hn h.2.2.1.symm
  by_cases hb : 16384 < l.length
  · rw [cutR_big hb] at h; exact (no _ _ _ h).elim
  · by_cases h6 : l.length < 6
    · by_cases h0 : l = []
      · rw [h0, cutR_nil] at h; exact (no _ _ _ h).elim
      · obtain ⟨x0, r, _, hc⟩ := short_form h0 h6
        rw [hc 178 hb] at h
        by_cases hx : x0 ≠ 178
        · rw [if_pos hx] at h; exact (no _ _ _ h).elim
        · rw [if_neg hx] at h; exact (no _ _ _ h).elim
    · obtain ⟨x0, x1, x2, x3, x4, x5, r, rfl⟩ : ∃ x0 x1 x2 x3 x4 x5 r, l = x0 :: x1 :: x2 :: x3 :: x4 :: x5 :: r := by
        rcases l with _ | ⟨x0, _ | ⟨x1, _ | ⟨x2, _ | ⟨x3, _ | ⟨x4, _ | ⟨x5, r⟩⟩⟩⟩⟩⟩
        · exact absurd h6 (by simp)
        · exact absurd h6 (by simp)
        · exact absurd h6 (by simp)
        · exact absurd h6 (by simp)
        · exact absurd h6 (by simp)
        · exact absurd h6 (by simp)
        · exact ⟨_, _, _, _, _, _, _, rfl⟩
      exact six_take _ _ _ _ _ _ _ _ _ _ (Nat.le_of_not_lt hb) h hn

theorem readR_split {l : List UInt8} {a : Ans} (h : (readR l).1 = some a) : mayB a = true ∧ a.ok ∧ wErr a = 0 ∧ (readR l).2.2 = 0 ∧ (readR l).2.1 ≠ 0 ∧ (readR l).2.1 ≤ l.length ∧ wBytes a = l.take (readR l).2.1 := by
  generalize hc : cutR 178 l = p at *
  obtain ⟨k, y, n, e⟩ := p
  have hR : readR l = if e ≠ 0 ∨ n = 0 then (none, 0, e) else match pOf k y with
    | none => (none, 0, 8)
    | some a => (some a, n, 0) := by unfold readR; rw [hc]; rfl
  rw [hR] at h ⊢
  split at h
  · cases h
  · rename_i hne
    have he : e = 0 := by by_cases he : e = 0
                          · exact he
                          · exact absurd (.inl he) hne
    have hn : n ≠ 0 := fun h => hne (.inr h)
    subst he
    rw [if_neg hne]
    cases hp : pOf k y with
    | none => rw [hp] at h; cases h
    | some a' =>
      rw [hp] at h
      simp only [Option.some.injEq] at h
      subst h
      unfold pOf at hp
      split at hp
      · rename_i a'' hs
        split at hp
        · rename_i hm
          simp only [Option.some.injEq] at hp
          subst hp
          obtain ⟨e1, e2, ok⟩ := pShape_split hs
          obtain ⟨s1, s2, s3, s4⟩ := cutR_split hc hn
          have hlt : ¬ (4096 : Int) < ((ansBytes a'').length : Int) := by rw [e1]; omega
          refine ⟨hm, ok, ?_, rfl, hn, s3, ?_⟩
          · unfold wErr; rw [if_pos hm, if_neg hlt]
          · unfold wBytes; rw [if_pos hm, if_neg hlt, e1, e2]; exact s1.symm
        · cases hp
      · cases hp
theorem readR_none {l : List UInt8} (h : (readR l).1 = none) : (readR l).2.1 = 0 := by
  unfold readR at h ⊢
  split
  · rfl
  · rename_i hne
    rw [if_neg hne] at h
    split
    · rfl
    · rename_i a hp
      rw [hp] at h; cases h
end Go.Proofs.Ytpaolklbogakgaa

namespace Go.Proofs.Ytpaolklbogakgaa
open Go.Ev Go.RowKit

theorem wErr_iv (a : Ans) (iv : Value) : wErr (withIv a iv) = wErr a := rfl
theorem wBytes_iv (a : Ans) (iv : Value) : wBytes (withIv a iv) = wBytes a := rfl
theorem ok_iv {a : Ans} (ok : a.ok) (iv : Value) : (withIv a iv).ok := ⟨ok.kind, ok.of, ok.rk, ok.num, ok.items⟩

theorem only_law (L n : Nat) (v : Value) (l : List UInt8) (h : H) (hr : Rd h v l) (hL : 20000 < L) :
    Sp (CF L (n + 10)) 7 [v] h fun r h' => r = .bool true := by
  refine Sp.body f7 (by simp) ?_
  unfold c7
  refine C.seq fun K hK => hK .norm _ _ (C.seq fun K hK => ?_)
  simp only [↓opStep_eq, ↓reduceIte, tg_set, toTm_cons, toTm_nil, fieldPtr_ptr, Nat.add_zero, Nat.zero_add, Nat.reduceAdd, Nat.reduceEqDiff, Int.reduceEq, Int.reduceLT, Int.reduceLE, Int.reduceNe, ↓kO_some, ↓kA_some, ↓kH_some, kO_some, kA_some, kH_some, gd_true, gd_false, nthD_zero, nthD_succ, isB_true, isB_false, isB_undef, pickV_true, pickV_false, binV_add, binV_sub, binV_mul, binV_eql, binV_neq, binV_lss, binV_leq, binV_gtr, binV_geq, unV_not, nt, nf, Bool.false_eq_true, dt, df, decide_true, decide_false, withV_some, aggO_some, ptrTo_eq, ↓aO_some, aO_some, ↓andB_true, andB_true, gz, gs, seqC, retC, skipC, exitC, blockC, condC, cells_agg, r7_1]
  refine alive L n h (by omega) _ fun r h1 hv => ?_
  obtain ⟨rfl, k1⟩ := hv
  refine hK _ _ _ (C.seq (C.seq fun K hK => ?_))
  have r1 := hr.keep0 k1
  by_cases h6 : (6000 : Int) < (l.length : Int)
  · simp only [r7_2, ↓opStep_eq, ↓reduceIte, tg_set, toTm_cons, toTm_nil, fieldPtr_ptr, Nat.add_zero, Nat.zero_add, Nat.reduceAdd, Nat.reduceEqDiff, Int.reduceEq, Int.reduceLT, Int.reduceLE, Int.reduceNe, ↓kO_some, ↓kA_some, ↓kH_some, kO_some, kA_some, kH_some, gd_true, gd_false, nthD_zero, nthD_succ, isB_true, isB_false, isB_undef, pickV_true, pickV_false, binV_add, binV_sub, binV_mul, binV_eql, binV_neq, binV_lss, binV_leq, binV_gtr, binV_geq, unV_not, nt, nf, Bool.false_eq_true, dt, df, decide_true, decide_false, withV_some, aggO_some, ptrTo_eq, ↓aO_some, aO_some, ↓andB_true, andB_true, gz, gs, seqC, retC, skipC, exitC, blockC, condC, cells_agg, Bool.true_or, Bool.false_or, Bool.or_true, Bool.or_false, Bool.true_and, Bool.false_and, Bool.and_true, Bool.and_false, hr.len, h6]
    exact hK _ _ _ (C.cond true (by simp only [↓opStep_eq, ↓reduceIte, tg_set, toTm_cons, toTm_nil, fieldPtr_ptr, Nat.add_zero, Nat.zero_add, Nat.reduceAdd, Nat.reduceEqDiff, Int.reduceEq, Int.reduceLT, Int.reduceLE, Int.reduceNe, ↓kO_some, ↓kA_some, ↓kH_some, kO_some, kA_some, kH_some, gd_true, gd_false, nthD_zero, nthD_succ, isB_true, isB_false, isB_undef, pickV_true, pickV_false, binV_add, binV_sub, binV_mul, binV_eql, binV_neq, binV_lss, binV_leq, binV_gtr, binV_geq, unV_not, nt, nf, Bool.false_eq_true, dt, df, decide_true, decide_false, withV_some, aggO_some, ptrTo_eq, ↓aO_some, aO_some, ↓andB_true, andB_true, gz, gs, seqC, retC, skipC, exitC, blockC, condC, cells_agg]) (fun g => C.seq fun K hK => hK .norm _ _ (C.ret ⟨.inr rfl, _, rfl, by simp only [↓opStep_eq, ↓reduceIte, tg_set, toTm_cons, toTm_nil, fieldPtr_ptr, Nat.add_zero, Nat.zero_add, Nat.reduceAdd, Nat.reduceEqDiff, Int.reduceEq, Int.reduceLT, Int.reduceLE, Int.reduceNe, ↓kO_some, ↓kA_some, ↓kH_some, kO_some, kA_some, kH_some, gd_true, gd_false, nthD_zero, nthD_succ, isB_true, isB_false, isB_undef, pickV_true, pickV_false, binV_add, binV_sub, binV_mul, binV_eql, binV_neq, binV_lss, binV_leq, binV_gtr, binV_geq, unV_not, nt, nf, Bool.false_eq_true, dt, df, decide_true, decide_false, withV_some, aggO_some, ptrTo_eq, ↓aO_some, aO_some, ↓andB_true, andB_true, gz, gs, seqC, retC, skipC, exitC, blockC, condC, cells_agg, resOf]⟩)) fun g => by cases g)
  · simp only [r7_2, ↓opStep_eq, ↓reduceIte, tg_set, toTm_cons, toTm_nil, fieldPtr_ptr, Nat.add_zero, Nat.zero_add, Nat.reduceAdd, Nat.reduceEqDiff, Int.reduceEq, Int.reduceLT, Int.reduceLE, Int.reduceNe, ↓kO_some, ↓kA_some, ↓kH_some, kO_some, kA_some, kH_some, gd_true, gd_false, nthD_zero, nthD_succ, isB_true, isB_false, isB_undef, pickV_true, pickV_false, binV_add, binV_sub, binV_mul, binV_eql, binV_neq, binV_lss, binV_leq, binV_gtr, binV_geq, unV_not, nt, nf, Bool.false_eq_true, dt, df, decide_true, decide_false, withV_some, aggO_some, ptrTo_eq, ↓aO_some, aO_some, ↓andB_true, andB_true, gz, gs, seqC, retC, skipC, exitC, blockC, condC, cells_agg, Bool.true_or, Bool.false_or, Bool.or_true, Bool.or_false, Bool.true_and, Bool.false_and, Bool.and_true, Bool.and_false, hr.len, h6]
    refine hK _ _ _ (C.cond false (by simp only [↓opStep_eq, ↓reduceIte, tg_set, toTm_cons, toTm_nil, fieldPtr_ptr, Nat.add_zero, Nat.zero_add, Nat.reduceAdd, Nat.reduceEqDiff, Int.reduceEq, Int.reduceLT, Int.reduceLE, Int.reduceNe, ↓kO_some, ↓kA_some, ↓kH_some, kO_some, kA_some, kH_some, gd_true, gd_false, nthD_zero, nthD_succ, isB_true, isB_false, isB_undef, pickV_true, pickV_false, binV_add, binV_sub, binV_mul, binV_eql, binV_neq, binV_lss, binV_leq, binV_gtr, binV_geq, unV_not, nt, nf, Bool.false_eq_true, dt, df, decide_true, decide_false, withV_some, aggO_some, ptrTo_eq, ↓aO_some, aO_some, ↓andB_true, andB_true, gz, gs, seqC, retC, skipC, exitC, blockC, condC, cells_agg]) (fun g => by cases g) fun g => C.skip ?_)
    refine C.seq fun K hK => ?_
    simp only [↓opStep_eq, ↓reduceIte, tg_set, toTm_cons, toTm_nil, fieldPtr_ptr, Nat.add_zero, Nat.zero_add, Nat.reduceAdd, Nat.reduceEqDiff, Int.reduceEq, Int.reduceLT, Int.reduceLE, Int.reduceNe, ↓kO_some, ↓kA_some, ↓kH_some, kO_some, kA_some, kH_some, gd_true, gd_false, nthD_zero, nthD_succ, isB_true, isB_false, isB_undef, pickV_true, pickV_false, binV_add, binV_sub, binV_mul, binV_eql, binV_neq, binV_lss, binV_leq, binV_gtr, binV_geq, unV_not, nt, nf, Bool.false_eq_true, dt, df, decide_true, decide_false, withV_some, aggO_some, ptrTo_eq, ↓aO_some, aO_some, ↓andB_true, andB_true, gz, gs, seqC, retC, skipC, exitC, blockC, condC, cells_agg, r7_4]
    refine packed_Read L (n + 1) v l h1 r1 (by omega) (by omega) (by omega) _ fun r h2 hv => ?_
    obtain ⟨av1, rfl, k2, g1⟩ := hv
    obtain ⟨iv1, rfl, mi1⟩ := g1.ans
    have s1 := store7_new h2 (cs := (withIv (theA (readR l).1) iv1).cells) rfl (by
      obtain ⟨cs, h1, _, h3⟩ := ans_shape (a := withIv (theA (readR l).1) iv1) mi1.ones
      have : (withIv (theA (readR l).1) iv1).cells = cs := by simpa [Ans.v] using h1
      rw [this]; exact h3)
    have k3 := keep_alloc h2 (.rw Z7) (.rw (withIv (theA (readR l).1) iv1).cells)
    have b3 := has_alloc h2 (.rw Z7) (.rw (withIv (theA (readR l).1) iv1).cells)
    simp only [tupNth_tuple, ↓opStep_eq, ↓reduceIte, tg_set, toTm_cons, toTm_nil, fieldPtr_ptr, Nat.add_zero, Nat.zero_add, Nat.reduceAdd, Nat.reduceEqDiff, Int.reduceEq, Int.reduceLT, Int.reduceLE, Int.reduceNe, ↓kO_some, ↓kA_some, ↓kH_some, kO_some, kA_some, kH_some, gd_true, gd_false, nthD_zero, nthD_succ, isB_true, isB_false, isB_undef, pickV_true, pickV_false, binV_add, binV_sub, binV_mul, binV_eql, binV_neq, binV_lss, binV_leq, binV_gtr, binV_geq, unV_not, nt, nf, Bool.false_eq_true, dt, df, decide_true, decide_false, withV_some, aggO_some, ptrTo_eq, ↓aO_some, aO_some, ↓andB_true, andB_true, gz, gs, seqC, retC, skipC, exitC, blockC, condC, cells_agg, Ans.v, s1]
    generalize (h2.new (.rw Z7)).put h2.next (.rw (withIv (theA (readR l).1) iv1).cells) = h3 at *
    have i1 := (mi1.keep0 k3).items
    have la1 : loadAgg 7 h3 (.pointer (some ⟨h2.next, 0, none⟩)) = some (withIv (theA (readR l).1) iv1).v := load7 b3 rfl
    have r3 := (r1.keep0 k2).keep0 k3
    refine hK _ _ _ (C.seq (C.seq fun K hK => ?_))
    cases hq : (readR l).1 with
    | none =>
      rw [hq] at la1 i1
      have hn0 := readR_none hq
      have hc : (((readR l).2.1 : Nat) : Int) = 0 := by rw [hn0]; rfl
      rw [hc]
      have go : ∀ (tm : T Value) (Q : Ex → T Value → Ev.H → Prop), tg tm 4 = .pointer (some ⟨h2.next, 0, none⟩) → tg tm 5 = .int .i64 0 → (∀ tm' h', tg tm' 2 = .bool true → Q .ret tm' h') → C ⟨seqC ⟨r7_6⟩ retC⟩ (CF L (n + 9)) L tm h3 Q := fun tm Q t4 t5 hQ => by
        refine C.seq fun K hK => ?_
        have agg : aggO (fill [(.int .u8 (0)), (.int .u8 (0)), (.int .u8 (0)), (.slice none 0 0), (.int .u64 (0)), (.bool false), (.string (strB []))] (plc [(0, 1), (1, 1), (2, 3), (5, 1), (6, 1)]) []) = some (withIv (theA none) noIv).v := rfl
        simp only [↓opStep_eq, ↓reduceIte, tg_set, toTm_cons, toTm_nil, fieldPtr_ptr, Nat.add_zero, Nat.zero_add, Nat.reduceAdd, Nat.reduceEqDiff, Int.reduceEq, Int.reduceLT, Int.reduceLE, Int.reduceNe, ↓kO_some, ↓kA_some, ↓kH_some, kO_some, kA_some, kH_some, gd_true, gd_false, nthD_zero, nthD_succ, isB_true, isB_false, isB_undef, pickV_true, pickV_false, binV_add, binV_sub, binV_mul, binV_eql, binV_neq, binV_lss, binV_leq, binV_gtr, binV_geq, unV_not, nt, nf, Bool.false_eq_true, dt, df, decide_true, decide_false, withV_some, aggO_some, ptrTo_eq, ↓aO_some, aO_some, ↓andB_true, andB_true, gz, gs, seqC, retC, skipC, exitC, blockC, condC, cells_agg, r7_6, t4, la1, agg]
        refine ans_same L (n + 7) (theA none) iv1 noIv h3 i1 (.inl ⟨rfl, rfl⟩) (by show 0 < L; omega) (by decide) _ fun r h4 hv => ?_
        obtain ⟨rfl, _⟩ := hv
        simp only [↓opStep_eq, ↓reduceIte, tg_set, toTm_cons, toTm_nil, fieldPtr_ptr, Nat.add_zero, Nat.zero_add, Nat.reduceAdd, Nat.reduceEqDiff, Int.reduceEq, Int.reduceLT, Int.reduceLE, Int.reduceNe, ↓kO_some, ↓kA_some, ↓kH_some, kO_some, kA_some, kH_some, gd_true, gd_false, nthD_zero, nthD_succ, isB_true, isB_false, isB_undef, pickV_true, pickV_false, binV_add, binV_sub, binV_mul, binV_eql, binV_neq, binV_lss, binV_leq, binV_gtr, binV_geq, unV_not, nt, nf, Bool.false_eq_true, dt, df, decide_true, decide_false, withV_some, aggO_some, ptrTo_eq, ↓aO_some, aO_some, ↓andB_true, andB_true, gz, gs, seqC, retC, skipC, exitC, blockC, condC, cells_agg, Bool.true_or, Bool.false_or, Bool.or_true, Bool.or_false, Bool.true_and, Bool.false_and, Bool.and_true, Bool.and_false, t5]
        exact hK _ _ _ (C.ret (hQ _ _ (by simp only [↓opStep_eq, ↓reduceIte, tg_set, toTm_cons, toTm_nil, fieldPtr_ptr, Nat.add_zero, Nat.zero_add, Nat.reduceAdd, Nat.reduceEqDiff, Int.reduceEq, Int.reduceLT, Int.reduceLE, Int.reduceNe, ↓kO_some, ↓kA_some, ↓kH_some, kO_some, kA_some, kH_some, gd_true, gd_false, nthD_zero, nthD_succ, isB_true, isB_false, isB_undef, pickV_true, pickV_false, binV_add, binV_sub, binV_mul, binV_eql, binV_neq, binV_lss, binV_leq, binV_gtr, binV_geq, unV_not, nt, nf, Bool.false_eq_true, dt, df, decide_true, decide_false, withV_some, aggO_some, ptrTo_eq, ↓aO_some, aO_some, ↓andB_true, andB_true, gz, gs, seqC, retC, skipC, exitC, blockC, condC, cells_agg])))
      by_cases he : (readR l).2.2 = 0
      · simp only [↓opStep_eq, ↓reduceIte, tg_set, toTm_cons, toTm_nil, fieldPtr_ptr, Nat.add_zero, Nat.zero_add, Nat.reduceAdd, Nat.reduceEqDiff, Int.reduceEq, Int.reduceLT, Int.reduceLE, Int.reduceNe, ↓kO_some, ↓kA_some, ↓kH_some, kO_some, kA_some, kH_some, gd_true, gd_false, nthD_zero, nthD_succ, isB_true, isB_false, isB_undef, pickV_true, pickV_false, binV_add, binV_sub, binV_mul, binV_eql, binV_neq, binV_lss, binV_leq, binV_gtr, binV_geq, unV_not, nt, nf, Bool.false_eq_true, dt, df, decide_true, decide_false, withV_some, aggO_some, ptrTo_eq, ↓aO_some, aO_some, ↓andB_true, andB_true, gz, gs, seqC, retC, skipC, exitC, blockC, condC, cells_agg, Bool.true_or, Bool.false_or, Bool.or_true, Bool.or_false, Bool.true_and, Bool.false_and, Bool.and_true, Bool.and_false, r7_5, he]
        exact hK _ _ _ (C.cond true (by simp only [↓opStep_eq, ↓reduceIte, tg_set, toTm_cons, toTm_nil, fieldPtr_ptr, Nat.add_zero, Nat.zero_add, Nat.reduceAdd, Nat.reduceEqDiff, Int.reduceEq, Int.reduceLT, Int.reduceLE, Int.reduceNe, ↓kO_some, ↓kA_some, ↓kH_some, kO_some, kA_some, kH_some, gd_true, gd_false, nthD_zero, nthD_succ, isB_true, isB_false, isB_undef, pickV_true, pickV_false, binV_add, binV_sub, binV_mul, binV_eql, binV_neq, binV_lss, binV_leq, binV_gtr, binV_geq, unV_not, nt, nf, Bool.false_eq_true, dt, df, decide_true, decide_false, withV_some, aggO_some, ptrTo_eq, ↓aO_some, aO_some, ↓andB_true, andB_true, gz, gs, seqC, retC, skipC, exitC, blockC, condC, cells_agg]) (fun g => by
          refine go _ _ ?_ ?_ fun tm' h' t2 => ⟨.inr rfl, _, rfl, t2⟩
          · simp only [↓opStep_eq, ↓reduceIte, tg_set, toTm_cons, toTm_nil, fieldPtr_ptr, Nat.add_zero, Nat.zero_add, Nat.reduceAdd, Nat.reduceEqDiff, Int.reduceEq, Int.reduceLT, Int.reduceLE, Int.reduceNe, ↓kO_some, ↓kA_some, ↓kH_some, kO_some, kA_some, kH_some, gd_true, gd_false, nthD_zero, nthD_succ, isB_true, isB_false, isB_undef, pickV_true, pickV_false, binV_add, binV_sub, binV_mul, binV_eql, binV_neq, binV_lss, binV_leq, binV_gtr, binV_geq, unV_not, nt, nf, Bool.false_eq_true, dt, df, decide_true, decide_false, withV_some, aggO_some, ptrTo_eq, ↓aO_some, aO_some, ↓andB_true, andB_true, gz, gs, seqC, retC, skipC, exitC, blockC, condC, cells_agg]
          · simp only [↓opStep_eq, ↓reduceIte, tg_set, toTm_cons, toTm_nil, fieldPtr_ptr, Nat.add_zero, Nat.zero_add, Nat.reduceAdd, Nat.reduceEqDiff, Int.reduceEq, Int.reduceLT, Int.reduceLE, Int.reduceNe, ↓kO_some, ↓kA_some, ↓kH_some, kO_some, kA_some, kH_some, gd_true, gd_false, nthD_zero, nthD_succ, isB_true, isB_false, isB_undef, pickV_true, pickV_false, binV_add, binV_sub, binV_mul, binV_eql, binV_neq, binV_lss, binV_leq, binV_gtr, binV_geq, unV_not, nt, nf, Bool.false_eq_true, dt, df, decide_true, decide_false, withV_some, aggO_some, ptrTo_eq, ↓aO_some, aO_some, ↓andB_true, andB_true, gz, gs, seqC, retC, skipC, exitC, blockC, condC, cells_agg]) fun g => by cases g)
      · simp only [↓opStep_eq, ↓reduceIte, tg_set, toTm_cons, toTm_nil, fieldPtr_ptr, Nat.add_zero, Nat.zero_add, Nat.reduceAdd, Nat.reduceEqDiff, Int.reduceEq, Int.reduceLT, Int.reduceLE, Int.reduceNe, ↓kO_some, ↓kA_some, ↓kH_some, kO_some, kA_some, kH_some, gd_true, gd_false, nthD_zero, nthD_succ, isB_true, isB_false, isB_undef, pickV_true, pickV_false, binV_add, binV_sub, binV_mul, binV_eql, binV_neq, binV_lss, binV_leq, binV_gtr, binV_geq, unV_not, nt, nf, Bool.false_eq_true, dt, df, decide_true, decide_false, withV_some, aggO_some, ptrTo_eq, ↓aO_some, aO_some, ↓andB_true, andB_true, gz, gs, seqC, retC, skipC, exitC, blockC, condC, cells_agg, Bool.true_or, Bool.false_or, Bool.or_true, Bool.or_false, Bool.true_and, Bool.false_and, Bool.and_true, Bool.and_false, r7_5, he]
        exact hK _ _ _ (C.cond true (by simp only [↓opStep_eq, ↓reduceIte, tg_set, toTm_cons, toTm_nil, fieldPtr_ptr, Nat.add_zero, Nat.zero_add, Nat.reduceAdd, Nat.reduceEqDiff, Int.reduceEq, Int.reduceLT, Int.reduceLE, Int.reduceNe, ↓kO_some, ↓kA_some, ↓kH_some, kO_some, kA_some, kH_some, gd_true, gd_false, nthD_zero, nthD_succ, isB_true, isB_false, isB_undef, pickV_true, pickV_false, binV_add, binV_sub, binV_mul, binV_eql, binV_neq, binV_lss, binV_leq, binV_gtr, binV_geq, unV_not, nt, nf, Bool.false_eq_true, dt, df, decide_true, decide_false, withV_some, aggO_some, ptrTo_eq, ↓aO_some, aO_some, ↓andB_true, andB_true, gz, gs, seqC, retC, skipC, exitC, blockC, condC, cells_agg]) (fun g => by
          refine go _ _ ?_ ?_ fun tm' h' t2 => ⟨.inr rfl, _, rfl, t2⟩
          · simp only [↓opStep_eq, ↓reduceIte, tg_set, toTm_cons, toTm_nil, fieldPtr_ptr, Nat.add_zero, Nat.zero_add, Nat.reduceAdd, Nat.reduceEqDiff, Int.reduceEq, Int.reduceLT, Int.reduceLE, Int.reduceNe, ↓kO_some, ↓kA_some, ↓kH_some, kO_some, kA_some, kH_some, gd_true, gd_false, nthD_zero, nthD_succ, isB_true, isB_false, isB_undef, pickV_true, pickV_false, binV_add, binV_sub, binV_mul, binV_eql, binV_neq, binV_lss, binV_leq, binV_gtr, binV_geq, unV_not, nt, nf, Bool.false_eq_true, dt, df, decide_true, decide_false, withV_some, aggO_some, ptrTo_eq, ↓aO_some, aO_some, ↓andB_true, andB_true, gz, gs, seqC, retC, skipC, exitC, blockC, condC, cells_agg]
          · simp only [↓opStep_eq, ↓reduceIte, tg_set, toTm_cons, toTm_nil, fieldPtr_ptr, Nat.add_zero, Nat.zero_add, Nat.reduceAdd, Nat.reduceEqDiff, Int.reduceEq, Int.reduceLT, Int.reduceLE, Int.reduceNe, ↓kO_some, ↓kA_some, ↓kH_some, kO_some, kA_some, kH_some, gd_true, gd_false, nthD_zero, nthD_succ, isB_true, isB_false, isB_undef, pickV_true, pickV_false, binV_add, binV_sub, binV_mul, binV_eql, binV_neq, binV_lss, binV_leq, binV_gtr, binV_geq, unV_not, nt, nf, Bool.false_eq_true, dt, df, decide_true, decide_false, withV_some, aggO_some, ptrTo_eq, ↓aO_some, aO_some, ↓andB_true, andB_true, gz, gs, seqC, retC, skipC, exitC, blockC, condC, cells_agg]) fun g => by cases g)
    | some a =>
      rw [hq] at la1 i1 b3
      obtain ⟨hm, ok, w0, e0, n0, nl, wb⟩ := readR_split hq
      have hi8 := readR_items hq
      generalize (readR l).2.1 = m at *
      rw [e0]
      have n0' : ¬ (m : Int) = 0 := by omega
      simp only [↓opStep_eq, ↓reduceIte, tg_set, toTm_cons, toTm_nil, fieldPtr_ptr, Nat.add_zero, Nat.zero_add, Nat.reduceAdd, Nat.reduceEqDiff, Int.reduceEq, Int.reduceLT, Int.reduceLE, Int.reduceNe, ↓kO_some, ↓kA_some, ↓kH_some, kO_some, kA_some, kH_some, gd_true, gd_false, nthD_zero, nthD_succ, isB_true, isB_false, isB_undef, pickV_true, pickV_false, binV_add, binV_sub, binV_mul, binV_eql, binV_neq, binV_lss, binV_leq, binV_gtr, binV_geq, unV_not, nt, nf, Bool.false_eq_true, dt, df, decide_true, decide_false, withV_some, aggO_some, ptrTo_eq, ↓aO_some, aO_some, ↓andB_true, andB_true, gz, gs, seqC, retC, skipC, exitC, blockC, condC, cells_agg, Bool.true_or, Bool.false_or, Bool.or_true, Bool.or_false, Bool.true_and, Bool.false_and, Bool.and_true, Bool.and_false, r7_5, n0']
      refine hK _ _ _ (C.cond false (by simp only [↓opStep_eq, ↓reduceIte, tg_set, toTm_cons, toTm_nil, fieldPtr_ptr, Nat.add_zero, Nat.zero_add, Nat.reduceAdd, Nat.reduceEqDiff, Int.reduceEq, Int.reduceLT, Int.reduceLE, Int.reduceNe, ↓kO_some, ↓kA_some, ↓kH_some, kO_some, kA_some, kH_some, gd_true, gd_false, nthD_zero, nthD_succ, isB_true, isB_false, isB_undef, pickV_true, pickV_false, binV_add, binV_sub, binV_mul, binV_eql, binV_neq, binV_lss, binV_leq, binV_gtr, binV_geq, unV_not, nt, nf, Bool.false_eq_true, dt, df, decide_true, decide_false, withV_some, aggO_some, ptrTo_eq, ↓aO_some, aO_some, ↓andB_true, andB_true, gz, gs, seqC, retC, skipC, exitC, blockC, condC, cells_agg]) (fun g => by cases g) fun g => C.skip ?_)
      refine C.seq fun K hK => ?_
      simp only [↓opStep_eq, ↓reduceIte, tg_set, toTm_cons, toTm_nil, fieldPtr_ptr, Nat.add_zero, Nat.zero_add, Nat.reduceAdd, Nat.reduceEqDiff, Int.reduceEq, Int.reduceLT, Int.reduceLE, Int.reduceNe, ↓kO_some, ↓kA_some, ↓kH_some, kO_some, kA_some, kH_some, gd_true, gd_false, nthD_zero, nthD_succ, isB_true, isB_false, isB_undef, pickV_true, pickV_false, binV_add, binV_sub, binV_mul, binV_eql, binV_neq, binV_lss, binV_leq, binV_gtr, binV_geq, unV_not, nt, nf, Bool.false_eq_true, dt, df, decide_true, decide_false, withV_some, aggO_some, ptrTo_eq, ↓aO_some, aO_some, ↓andB_true, andB_true, gz, gs, seqC, retC, skipC, exitC, blockC, condC, cells_agg, r7_7, la1]
      refine packed_write L (n + 1) (withIv a iv1) h3 (ok_iv ok iv1) i1 (by omega) (by show a.r.items.length < L; omega) (by show a.r.items.length < _; omega) _ fun r h4 hv => ?_
      obtain ⟨x, rfl, m4, k4, f4⟩ := hv
      rw [wBytes_iv, wb] at m4
      simp only [↓opStep_eq, ↓reduceIte, tg_set, toTm_cons, toTm_nil, fieldPtr_ptr, Nat.add_zero, Nat.zero_add, Nat.reduceAdd, Nat.reduceEqDiff, Int.reduceEq, Int.reduceLT, Int.reduceLE, Int.reduceNe, ↓kO_some, ↓kA_some, ↓kH_some, kO_some, kA_some, kH_some, gd_true, gd_false, nthD_zero, nthD_succ, isB_true, isB_false, isB_undef, pickV_true, pickV_false, binV_add, binV_sub, binV_mul, binV_eql, binV_neq, binV_lss, binV_leq, binV_gtr, binV_geq, unV_not, nt, nf, Bool.false_eq_true, dt, df, decide_true, decide_false, withV_some, aggO_some, ptrTo_eq, ↓aO_some, aO_some, ↓andB_true, andB_true, gz, gs, seqC, retC, skipC, exitC, blockC, condC, cells_agg, tupNth_tuple, wErr_iv, w0]
      refine hK _ _ _ (C.seq fun K hK => ?_)
      have kr := keep_room h4 23
      have r4 := (r3.keep0 k4).keep0 kr
      obtain ⟨v', es, rs, _⟩ := r4.mid none 0 m (.inl ⟨rfl, rfl⟩) (Nat.zero_le _) nl .i64
      have st1 := (m4.keep0 kr).reads.str
      have st2 := rs.str
      rw [List.drop_zero] at st2
      have la4 : loadAgg 7 ⟨h4.objs, h4.next + 23⟩ (.pointer (some ⟨h2.next, 0, none⟩)) = some (withIv a iv1).v := load7 ((b3.keep0 k4).keep0 kr) rfl
      have hs : ∀ s : ByteArray, binV Try.prog .eql 9 false (.string s) (.string s) = some (.bool true) := fun s => by rw [strV_eql, leB_eq]; simp
      have hle : (m : Int) ≤ (l.length : Int) := by omega
      have i4 := i1.keep0 (k4.then kr)
      simp only [↓opStep_eq, ↓reduceIte, tg_set, toTm_cons, toTm_nil, fieldPtr_ptr, Nat.add_zero, Nat.zero_add, Nat.reduceAdd, Nat.reduceEqDiff, Int.reduceEq, Int.reduceLT, Int.reduceLE, Int.reduceNe, ↓kO_some, ↓kA_some, ↓kH_some, kO_some, kA_some, kH_some, gd_true, gd_false, nthD_zero, nthD_succ, isB_true, isB_false, isB_undef, pickV_true, pickV_false, binV_add, binV_sub, binV_mul, binV_eql, binV_neq, binV_lss, binV_leq, binV_gtr, binV_geq, unV_not, nt, nf, Bool.false_eq_true, dt, df, decide_true, decide_false, withV_some, aggO_some, ptrTo_eq, ↓aO_some, aO_some, ↓andB_true, andB_true, gz, gs, seqC, retC, skipC, exitC, blockC, condC, cells_agg, Bool.true_or, Bool.false_or, Bool.or_true, Bool.or_false, Bool.true_and, Bool.false_and, Bool.and_true, Bool.and_false, r7_8, ite2, r4.len, hle, st1, es, st2, hs, la4]
      refine words_check L (n + 2) (withIv a iv1) _ i4 (by show a.r.items.length < L; omega) (by show a.r.items.length < _; omega) _ fun r h6 hv => ?_
      have hm' : mayB (withIv a iv1) = true := hm
      rw [hm'] at hv
      obtain ⟨rfl, _⟩ := hv
      simp only [↓opStep_eq, ↓reduceIte, tg_set, toTm_cons, toTm_nil, fieldPtr_ptr, Nat.add_zero, Nat.zero_add, Nat.reduceAdd, Nat.reduceEqDiff, Int.reduceEq, Int.reduceLT, Int.reduceLE, Int.reduceNe, ↓kO_some, ↓kA_some, ↓kH_some, kO_some, kA_some, kH_some, gd_true, gd_false, nthD_zero, nthD_succ, isB_true, isB_false, isB_undef, pickV_true, pickV_false, binV_add, binV_sub, binV_mul, binV_eql, binV_neq, binV_lss, binV_leq, binV_gtr, binV_geq, unV_not, nt, nf, Bool.false_eq_true, dt, df, decide_true, decide_false, withV_some, aggO_some, ptrTo_eq, ↓aO_some, aO_some, ↓andB_true, andB_true, gz, gs, seqC, retC, skipC, exitC, blockC, condC, cells_agg, Bool.true_or, Bool.false_or, Bool.or_true, Bool.or_false, Bool.true_and, Bool.false_and, Bool.and_true, Bool.and_false]
      exact hK _ _ _ (C.ret ⟨.inr rfl, _, rfl, by simp only [↓opStep_eq, ↓reduceIte, tg_set, toTm_cons, toTm_nil, fieldPtr_ptr, Nat.add_zero, Nat.zero_add, Nat.reduceAdd, Nat.reduceEqDiff, Int.reduceEq, Int.reduceLT, Int.reduceLE, Int.reduceNe, ↓kO_some, ↓kA_some, ↓kH_some, kO_some, kA_some, kH_some, gd_true, gd_false, nthD_zero, nthD_succ, isB_true, isB_false, isB_undef, pickV_true, pickV_false, binV_add, binV_sub, binV_mul, binV_eql, binV_neq, binV_lss, binV_leq, binV_gtr, binV_geq, unV_not, nt, nf, Bool.false_eq_true, dt, df, decide_true, decide_false, withV_some, aggO_some, ptrTo_eq, ↓aO_some, aO_some, ↓andB_true, andB_true, gz, gs, seqC, retC, skipC, exitC, blockC, condC, cells_agg]; rfl⟩)

section
variable {H : Type} {enc : TypeId × Value → H}
/-- the walk -/
theorem packedOnly_walk {W : World} {n : Nat} {v : Value} {x : DataW H × List MemPlace} (hok : Value.okWide Try.prog W .any 0 29 v) (h : DataW.trod enc Try.prog W 0 (fun _ => true) true n 29 v.cells.toList = some x) :
    Calls Try.prog 7 #[v] W fun e W' => e = .returned (.bool true) ∧ Below W.heap.size W W' := by
  obtain ⟨o, p, q⟩ := bytes_at hok h
  have r : Rel (rosσ [o]) (rosH [o]) W := ros_rel fun p' hp => by
    simp only [List.mem_cons, List.not_mem_nil, or_false] at hp
    exact p p' hp.symm
  obtain ⟨v', l, hr, vb⟩ := q 0 (rosσ [o]) (rosH [o]) fun p hp => ros_has (by rw [hp]; rfl)
  exact calls_of_sp gor Try.checked.mixed xok Try.func7 (by kernel_rfl) (only_law 30000 0 v' l (rosH [o]) hr (by decide)) r (fun g hg => absurd hg (Nat.not_lt_zero _)) (.cons vb (.nil _)) ros_ro
end
end Go.Proofs.Ytpaolklbogakgaa
