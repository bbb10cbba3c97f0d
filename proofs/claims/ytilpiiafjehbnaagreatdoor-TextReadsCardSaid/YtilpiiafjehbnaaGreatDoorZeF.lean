import Derived.Test.YtilpiiafjehbnaaGreatDoorZeB
set_option linter.unusedSimpArgs false
set_option linter.unusedVariables false
namespace Go.Proofs.YtilpiiafjehbnaaGreatDoor
open Go.Ev
def PS.sum (s : PS) : Nat := s.keys.length + s.ws.length
theorem word_sum' (s : PS) : s.word.2.sum ≤ s.sum := by
 unfold PS.word PS.sum
 split
 · exact Nat.le_refl _
 · rename_i p r hws
   show s.keys.length + r.length ≤ s.keys.length + s.ws.length
   rw [hws, List.length_cons]; omega
theorem num_sum' (s : PS) (m : Nat) : (s.num m).2.sum ≤ s.sum := num_sum s m
theorem key_sum' (s : PS) : s.key.sum ≤ s.sum + 1 := key_sum s
theorem all_sum : ∀ (f : Nat) (s : PS), (PS.all f s).sum ≤ s.sum
 | 0, s => Nat.le_refl _
 | f + 1, s => by
   unfold PS.all
   split
   · exact Nat.le_refl _
   · rename_i h
     have := all_sum f s.key
     have h2 := key_ws h
     unfold PS.sum at this ⊢
     omega
theorem puts_sum (s : PS) : s.puts.sum ≤ s.sum + 1 :=
 Nat.le_trans (num_sum' s.key.flagsN.foN 512) (Nat.le_trans (num_sum' s.key.flagsN 1099511627776) (Nat.le_trans (num_sum' s.key 4294967295) (key_sum' s)))
theorem cmdL_sum : ∀ x ∈ cmdL, ∀ s : PS, (x.2 s).sum ≤ s.sum + 1 := by
 intro x hx s
 simp only [cmdL, List.mem_cons, List.not_mem_nil, or_false] at hx
 rcases hx with rfl | rfl | rfl | rfl | rfl | rfl | rfl | rfl | rfl | rfl | rfl | rfl | rfl | rfl | rfl
 · exact Nat.le_succ _
 · exact Nat.le_trans (num_sum' ({ s with kind := 1, ck := 9 } : PS).key 1099511627776) (key_sum' _)
 · exact Nat.le_trans (num_sum' ({ s with kind := 1, ck := 7 } : PS).key 18446744073709551615) (key_sum' _)
 · exact Nat.le_trans (num_sum' ({ s with kind := 1, ck := 6 } : PS).key 18446744073709551615) (key_sum' _)
 · exact Nat.le_trans (num_sum' ({ s with kind := 1, ck := 8 } : PS).key 512) (key_sum' _)
 · exact Nat.le_trans (num_sum' ({ s with kind := 1, ck := 5 } : PS).puts 18446744073709551615) (puts_sum _)
 · exact puts_sum ({ s with kind := 1, ck := 4 } : PS)
 · exact puts_sum ({ s with kind := 1, ck := 3 } : PS)
 · exact puts_sum ({ s with kind := 1, ck := 2 } : PS)
 · exact Nat.le_trans (all_sum _ _) (key_sum' ({ s with kind := 1, ck := 10 } : PS))
 · exact Nat.le_trans (all_sum _ _) (key_sum' ({ s with kind := 1, ck := 1 } : PS))
 · exact Nat.le_succ _
 · exact Nat.le_succ _
 · exact Nat.le_succ_of_le (word_sum' s)
 · exact Nat.le_succ_of_le (Nat.le_trans (word_sum' (s.num 3).2) (num_sum' s 3))
theorem lineP_keys (l : List UInt8) : (lineP l).1.keys.length ≤ l.length + 2 := by
 unfold lineP
 split
 · exact Nat.zero_le _
 · rename_i E e
   split
   · exact Nat.zero_le _
   · obtain ⟨x, hx, rfl⟩ := lookL_mem _ _ _ e
     have h1 := cmdL_sum x hx (PS.init l).word.2
     have h2 := word_sum' (PS.init l)
     have h3 := (cut_len l).1
     have h4 : (PS.init l).sum = (cutS l).length := Nat.zero_add _
     show (x.2 (PS.init l).word.2).keys.length ≤ _
     have h5 : (x.2 (PS.init l).word.2).keys.length ≤ (x.2 (PS.init l).word.2).sum := Nat.le_add_right _ _
     omega
theorem nextP_keys (b : List UInt8) : (nextP b).1.keys.length ≤ 1000 := by
 rcases crlf_cases b with hc | ⟨i, hc⟩
 · rw [nextP_neg hc]
   split <;> exact Nat.zero_le _
 · have h1 := (crlf_pos hc)
   have h2 : (b.take i).length ≤ 514 := by
     rw [List.length_take]
     have := h1.1
     omega
   have h3 := lineP_keys (b.take i)
   rw [nextP_pos hc]
   split
   · exact Nat.zero_le _
   · split
     · show (lineP (b.take i)).1.keys.length ≤ _; omega
     · split
       · exact Nat.zero_le _
       · split
         · exact Nat.zero_le _
         · show (lineP (b.take i)).1.keys.length ≤ _; omega
theorem nextE_keys (b : List UInt8) : (nextE b).1.keys.length ≤ 1000 := by
 unfold nextE
 split
 · exact Nat.zero_le _
 · exact nextP_keys b
theorem allP_keys (b : List UInt8) : ∀ (f at_ : Nat) (xs : List RQ), (∀ q ∈ xs, q.keys.length ≤ 1000) → xs.length ≤ at_ → at_ ≤ b.length → (∀ q ∈ (allP b f at_ xs).1, q.keys.length ≤ 1000) ∧ (allP b f at_ xs).1.length ≤ (allP b f at_ xs).2 ∧ (allP b f at_ xs).2 ≤ b.length
 | 0, at_, xs, h, h1, h2 => ⟨h, h1, h2⟩
 | f + 1, at_, xs, h, h1, h2 => by
   have hx : ∀ q ∈ xs ++ [(nextP (b.drop at_)).1], q.keys.length ≤ 1000 := fun q hq => by
     rcases List.mem_append.1 hq with hq | hq
     · exact h q hq
     · simp at hq; subst hq; exact nextP_keys _
   have hle := nextP_le (b.drop at_)
   rw [List.length_drop] at hle
   unfold allP
   split
   · exact ⟨h, h1, h2⟩
   · rename_i g
     have hl : (xs ++ [(nextP (b.drop at_)).1]).length ≤ at_ + (nextP (b.drop at_)).2 := by
       rw [List.length_append]; show xs.length + 1 ≤ _; omega
     split
     · exact ⟨hx, hl, by show at_ + _ ≤ _; omega⟩
     · exact allP_keys b f _ _ hx hl (by omega)
theorem allE_keys (b : List UInt8) : (∀ q ∈ (allE b).1, q.keys.length ≤ 1000) ∧ (allE b).1.length ≤ (allE b).2.1 ∧ (allE b).2.1 ≤ b.length := by
 unfold allE
 split
 · exact ⟨fun q hq => by simp at hq, Nat.zero_le _, Nat.zero_le _⟩
 · exact allP_keys b (b.length + 1) 0 [] (fun q hq => by simp at hq) (Nat.zero_le _) (Nat.zero_le _)
theorem allE_small {b : List UInt8} : (allE b).1.length ≤ 16384 := by
 have h := allE_keys b
 by_cases g : 16384 < b.length
 · unfold allE; rw [if_pos g]; exact Nat.zero_le _
 · omega
theorem reg4_1 {call : CallT} {L : Nat} {tm : T Value} {h : H} {K : KE} {v : Value} {l : List UInt8} (hr : Rd h v l) (t0 : tg tm 0 = v) :
   r4_1 call L tm [] h K = K .norm (T.set tm 28 (.bool (decide (3000 < l.length ∧ l.length ≤ 16384 ∨ 17000 < l.length)))) [] h := by
 by_cases h1 : (3000 : Int) < (l.length : Int)
 · by_cases h2 : (l.length : Int) ≤ 16384
   · rw [dT (show 3000 < l.length ∧ l.length ≤ 16384 ∨ 17000 < l.length by omega)]
     simp only [seval, ↓opStep_eq, ↓EW, EV, r4_1, t0, hr.len, dT h1, dT h2]
   · by_cases h3 : (17000 : Int) < (l.length : Int)
     · rw [dT (show 3000 < l.length ∧ l.length ≤ 16384 ∨ 17000 < l.length by omega)]
       simp only [seval, ↓opStep_eq, ↓EW, EV, r4_1, t0, hr.len, dT h1, dF h2, dT h3]
     · rw [dF (show ¬ (3000 < l.length ∧ l.length ≤ 16384 ∨ 17000 < l.length) by omega)]
       simp only [seval, ↓opStep_eq, ↓EW, EV, r4_1, t0, hr.len, dT h1, dF h2, dF h3]
 · have h3 : ¬ (17000 : Int) < (l.length : Int) := by omega
   rw [dF (show ¬ (3000 < l.length ∧ l.length ≤ 16384 ∨ 17000 < l.length) by omega)]
   simp only [seval, ↓opStep_eq, ↓EW, EV, r4_1, t0, hr.len, dF h1, dF h3]
theorem t3 (x y z : Value) (i : Nat) : tupNth i (.tuple #[x, y, z]) = [x, y, z][i]? := tupNth_tuple i [x, y, z]
theorem eqlV9 (l : List UInt8) : binV Tryz.prog .eql 9 false (.string ⟨l.toArray⟩) (.string ⟨l.toArray⟩) = some (.bool true) := by
 have := sv_eql 9 false l l
 rw [dT rfl] at this
 exact this
theorem reads_law (L n : Nat) (hL : 20000 ≤ L) {h0 : H} {v : Value} {l : List UInt8} {e : Value} {m : Int} (ev : Env0 e h0) (h7 : 7 < h0.next) (hM : Has h0 0 (.ro [.int .i64 m])) (hr : Rd h0 v l) :
   Sp (CF L (n + 24)) 4 [v] h0 fun r h' => r = .bool true := by
 refine Sp.body f4 (by simp) ?_
 unfold c4
 refine C.seq fun K hK => hK .norm _ _ (C.seq (C.seq fun K hK => ?_))
 rw [box_f, reg4_1 hr (by simp only [seval, EV])]
 by_cases g : 3000 < l.length ∧ l.length ≤ 16384 ∨ 17000 < l.length
 · rw [dT g]
   refine hK _ _ _ (C.cond true (by simp only [seval, EV]) (fun g => C.seq fun K hK => hK .norm _ _ (C.ret ⟨.inr rfl, _, rfl, by simp only [seval, EV, resOf]⟩)) fun g => by cases g)
 rw [dF g]
 refine hK _ _ _ (C.cf <| C.skip ?_)
 refine C.seq fun K hK => hK .norm _ _ (C.seq fun K hK => ?_)
 obtain ⟨w, h1, e1, m1, k1, _⟩ := append_own (e := 5) (h := h0) (v := .slice none 0 0) (x := v) (l := []) (m := l) .nil hr.reads.src (by simp; omega)
 rw [List.nil_append] at m1
 have k1' : Keep nobody h0 h1 := k1.mono fun b _ hb => by simp at hb
 have n01 := k1'.next
 simp only [seval, EV, r4_4, e1]
 refine hK _ _ _ (C.seq fun K hK => ?_)
 have rw1 := rd_of_mine m1 (by omega)
 have g10 := law10 L (n + 9) (by omega) (ev.keep0 k1') (by omega) (hM.keep0 k1') rw1 (by omega)
 simp only [seval, ↓EW, EV, r4_5]
 refine g10 _ fun r h2 hv => ?_
 obtain ⟨k2, kv1, rfl, s1, own1⟩ := hv
 simp only [EV, t3, new13, own13 (strs_ones s1)]
 have k3 := keep_alloc h2 (.rw (RQ.zero.cells nilV) (some 28)) (.rw ((nextE l).1.cells kv1) (some 28))
 have b3 := has_alloc h2 (.rw (RQ.zero.cells nilV) (some 28)) (.rw ((nextE l).1.cells kv1) (some 28))
 have s13 := s1.keep0 k3
 generalize (h2.new (.rw (RQ.zero.cells nilV) (some 28))).put h2.next (.rw ((nextE l).1.cells kv1) (some 28)) = h3 at *
 have k03 := (k1'.then k2).then k3
 refine hK _ _ _ (C.seq fun K hK => ?_)
 have g12 := law12 L (n + 16) (by omega) (hr.keep0 k03) (by omega)
 simp only [seval, ↓EW, EV, r4_6]
 refine g12 _ fun r h4 hv => ?_
 obtain ⟨k4, kv2, rfl, s2, own2⟩ := hv
 simp only [EV, t3, new13, own13 (strs_ones s2)]
 have k5 := keep_alloc h4 (.rw (RQ.zero.cells nilV) (some 28)) (.rw ((nextE l).1.cells kv2) (some 28))
 have b5 := has_alloc h4 (.rw (RQ.zero.cells nilV) (some 28)) (.rw ((nextE l).1.cells kv2) (some 28))
 have s25 := s2.keep0 k5
 generalize (h4.new (.rw (RQ.zero.cells nilV) (some 28))).put h4.next (.rw ((nextE l).1.cells kv2) (some 28)) = h5 at *
 have k35 := k4.then k5
 have k05 := k03.then k35
 refine hK _ _ _ (C.seq fun K hK => ?_)
 have n05 := k05.next
 have rw5 := rw1.keep0 ((k2.then k3).then k35)
 have g9 := law9 L (n + 8) (by omega) (ev.keep0 k05) (by omega) (hM.keep0 k05) rw5 (by omega) (by omega)
 simp only [seval, EV, r4_7]
 refine g9 _ fun r h6 hv => ?_
 obtain ⟨k6, lv1, rfl, q1⟩ := hv
 simp only [EV, t3]
 have k06 := k05.then k6
 refine hK _ _ _ (C.seq fun K hK => ?_)
 have g13 := law13 L (n + 15) (by omega) (hr.keep0 k06) (by omega) (by omega)
 simp only [seval, EV, r4_8]
 refine g13 _ fun r h7' hv => ?_
 obtain ⟨k7, lv2, rfl, q2⟩ := hv
 simp only [EV, t3]
 have k07 := k06.then k7
 refine hK _ _ _ (C.seq fun K hK => ?_)
 have k67 := k6.then k7
 have b3' := b3.keep0 (k35.then k67)
 have b5' := b5.keep0 k67
 have s1' := s13.keep0 (k35.then k67)
 have s2' := s25.keep0 k67
 have q1' := q1.keep0 k7
 have r0 := hr.keep0 k07
 have r1 := rw5.keep0 k67
 have nk := nextE_keys l
 have ak := allE_keys l
 have asm := allE_small (b := l)
 generalize nextE l = N at *
 generalize allE l = A at *
 rw [box_f]
 unfold r4_9
 try rw [bx]
 refine ops_s ?_
 simp only [seval, ↓OF, NK, tg_set, get13 b3']
 refine ops_s ?_
 simp only [seval, ↓OF, NK, tg_set, get13 b5']
 refine ops_s ?_
 simp only [NK]
 refine law14 L (n + 21) (by omega) s1' s2' nk _ fun r h8 hv => ?_
 obtain ⟨rfl, k8⟩ := hv
 try rw [bx]
 refine ops_s ?_
 simp only [↓OF, NK]
 refine ops_s ?_
 simp only [seval, ↓OF, NK, tg_set]
 refine ops_s ?_
 simp only [seval, ↓OF, NK, tg_set]
 refine ops_s ?_
 simp only [↓OF, NK, eqlS]
 refine ops_s ?_
 simp only [↓OF, NK, pickV_true]
 refine ops_s ?_
 simp only [↓OF, NK]
 refine ops_s ?_
 simp only [seval, ↓OF, NK, tg_set]
 refine ops_s ?_
 simp only [seval, ↓OF, NK, tg_set]
 refine ops_s ?_
 simp only [↓OF, NK, eqlS]
 refine ops_s ?_
 simp only [↓OF, NK, pickV_true]
 refine ops_s ?_
 simp only [↓OF, NK]
 refine ops_s ?_
 simp only [seval, ↓OF, NK, tg_set]
 refine ops_s ?_
 simp only [seval, ↓OF, NK, tg_set]
 refine ops_s ?_
 simp only [NK]
 refine law15 L (n + 20) (by omega) (q1'.keep0 k8) (q2.keep0 k8) ak.1 (by omega) (by omega) _ fun r h9 hv => ?_
 obtain ⟨rfl, k9⟩ := hv
 have rr0 := (r0.keep0 (k8.then k9)).str
 have rr1 := (r1.keep0 (k8.then k9)).str
 try rw [bx]
 refine ops_s ?_
 simp only [↓OF, NK, pickV_true]
 refine ops_s ?_
 simp only [↓OF, NK]
 refine ops_s ?_
 simp only [seval, ↓OF, NK, tg_set]
 refine ops_s ?_
 simp only [seval, ↓OF, NK, tg_set]
 refine ops_s ?_
 simp only [↓OF, NK, eqlS]
 refine ops_s ?_
 simp only [↓OF, NK, pickV_true]
 refine ops_s ?_
 simp only [↓OF, NK]
 refine ops_s ?_
 simp only [seval, ↓OF, NK, tg_set]
 refine ops_s ?_
 simp only [seval, ↓OF, NK, tg_set]
 refine ops_s ?_
 simp only [↓OF, NK, eqlS]
 refine ops_s ?_
 simp only [↓OF, NK, pickV_true]
 refine ops_s ?_
 simp only [↓OF, NK]
 refine ops_s ?_
 simp only [seval, ↓OF, NK, tg_set]
 refine ops_s ?_
 simp only [↓OF, NK, rr1]
 refine ops_s ?_
 simp only [seval, ↓OF, NK, tg_set]
 refine ops_s ?_
 simp only [↓OF, NK, rr0]
 refine ops_s ?_
 simp only [↓OF, NK, eqlV9]
 refine ops_s ?_
 simp only [↓OF, NK, pickV_true]
 refine ops_s ?_
 simp only [↓OF, NK]
 exact hK _ _ _ (C.ret ⟨.inr rfl, _, rfl, by simp only [seval, EV, resOf]⟩)
end Go.Proofs.YtilpiiafjehbnaaGreatDoor
set_option maxRecDepth 100000
namespace Go.Proofs.YtilpiiafjehbnaaGreatDoor
open Go.Ev Go.RowKit
theorem gor : NoGor Tryz.prog := noGor_of (by kernel_rfl)
theorem xok : XOK Tryz.prog outside := xok_index Tryz.func45 (by kernel_rfl) (by kernel_rfl) (by kernel_rfl) (by kernel_rfl) (xok_cons Tryz.func62 (by kernel_rfl) (by kernel_rfl) (by kernel_rfl) (xok_cons Tryz.func83 (by kernel_rfl) (by kernel_rfl) (by kernel_rfl) (xok_noZero (e := 5) (t := 34) (ps := #[3]) Tryz.func84 (by kernel_rfl) (by kernel_rfl) (by kernel_rfl) (by kernel_rfl) (by kernel_rfl) (xok_cons Tryz.func102 (by kernel_rfl) (by kernel_rfl) (by kernel_rfl) (xok_index Tryz.func111 (by kernel_rfl) (by kernel_rfl) (by kernel_rfl) (by kernel_rfl) (xok_cons Tryz.func122 (by kernel_rfl) (by kernel_rfl) (by kernel_rfl) (xok_nil)))))))
theorem u34 : Tryz.prog.underlying 34 = some (.slice 5) := by kernel_rfl
theorem u5 : Tryz.prog.underlying 5 = some (.int .u8) := by kernel_rfl
theorem u24 : Tryz.prog.underlying 24 = some (.int .u64) := by kernel_rfl
theorem s24 : Tryz.prog.cellsOf 24 = 1 := by kernel_rfl
theorem s5 : Tryz.prog.cellsOf 5 = 1 := by kernel_rfl
section
variable {H : Type} {enc : TypeId × Value → H}
theorem bytes_at {W : World} {n : Nat} {v : Value} {x : DataW H × List MemPlace} (hok : Value.okWide Tryz.prog W .any 0 34 v) (h : DataW.trod enc Tryz.prog W 0 (fun _ => true) true n 34 v.cells.toList = some x) :
   ∃ o : Option (List Value × CB), (∀ p, o = some p → RosOk W p) ∧ ∀ (B : Nat) (σ : Sg) (h0 : Ev.H), (∀ p, o = some p → Has h0 B (.ro p.1) ∧ σ B = some p.2) → ∃ (v' : Value) (l : List UInt8), Rd h0 v' l ∧ VR σ v' v := by
 have hok2 : Cell.ok Tryz.prog W .any 0 34 v := by
   unfold Value.okWide at hok
   rw [u34] at hok
   unfold Cell.okWide at hok
   rw [u34] at hok
   exact hok
 rcases DataW.trod_slice u34 h with ⟨e, _⟩ | ⟨a, len, cap, elems, rest, m', _, e, _, _, hlc, hcm, hlen, hel, _, _⟩
 · have hv : v = .slice none 0 0 := by
     cases v <;> simp [Value.cells] at e
     case slice => simp_all
     case agg => exfalso; unfold Cell.ok at hok2; rw [u34] at hok2; exact hok2
   subst hv
   exact ⟨none, (fun p h => by cases h), fun B σ h0 _ => ⟨.slice none 0 0, [], .inl ⟨rfl, rfl⟩, .slNil _ _⟩⟩
 · have hv : v = .slice (some a) len cap := by
     cases v <;> simp [Value.cells] at e
     case slice => simp_all
     case agg => exfalso; unfold Cell.ok at hok2; rw [u34] at hok2; exact hok2
   subst hv
   unfold Cell.ok at hok2
   rw [u34] at hok2
   obtain ⟨_, _, _, hspot, row, cells, hshape, _⟩ := hok2
   have hblk : a.block < W.heap.size := by
     unfold World.shape? at hshape
     split at hshape
     · rename_i c el _ hh
       exact (Array.getElem?_eq_some_iff.1 hh).1
     · cases hshape
   have hone : ∀ i : Fin len, ∃ y : UInt8, W.cells? 0 (a.add (i.val * 1)) 1 = some [bv y] := fun i => by
     have h1 := hel i.val i.isLt
     rw [s5, List.getElem?_eq_getElem (by omega)] at h1
     simp only [Option.bind_eq_some_iff] at h1
     obtain ⟨c5, h2, h3⟩ := h1
     obtain ⟨z, rfl, _, w⟩ := DataW.trod_int u5 h3
     have := bounds_u8 w
     refine ⟨UInt8.ofNat z.toNat, ?_⟩
     have hz : bv (UInt8.ofNat z.toNat) = .int .u8 z := by
       unfold bv
       congr 1
       rw [UInt8.toNat_ofNat_of_lt' (by simp [UInt8.size]; omega)]
       omega
     rw [hz]; exact h2
   obtain ⟨f, hf⟩ := Classical.axiomOfChoice hone
   let l := List.ofFn f
   have hil : l.length = len := by simp [l]
   have hcells : ∀ j v, (l.map bv)[j]? = some v → W.cell? ⟨a.block, a.off + j, none⟩ = some v ∧ cstOk v = true := fun j v hv => by
     rw [List.getElem?_map] at hv
     obtain ⟨y, hy, rfl⟩ := Option.map_eq_some_iff.1 hv
     have hlt : j < len := by
       by_cases hlt : j < len
       · exact hlt
       · rw [List.getElem?_eq_none (by omega)] at hy; cases hy
     have hy' : f ⟨j, hlt⟩ = y := by simpa [l, hlt] using hy
     have h2 := hf ⟨j, hlt⟩
     rw [hy'] at h2
     refine ⟨?_, rfl⟩
     have h3 := (World.cells?_some h2).2.2 0 (by omega)
     have e0 : [bv y][0]? = some (bv y) := rfl
     rw [e0] at h3
     rw [← h3]
     obtain ⟨ab, ao, asp⟩ := a
     simp only at hspot
     subst hspot
     simp only [Addr.add, Nat.mul_one]
     by_cases e1 : j = 0
     · simp [e1]
     · simp [e1]
   have hcO : cap < OPEN := by have := hcm; unfold maxLen at this; unfold OPEN; omega
   have hble : Nat.ble OPEN cap = false := by
     rw [Bool.eq_false_iff]; intro e; have := Nat.le_of_ble_eq_true e; omega
   refine ⟨some (l.map bv, ⟨a.block, a.off, 1 * len, 1⟩), fun p h => ?_, fun B σ h0 hB => ?_⟩
   · simp only [Option.some.injEq] at h; subst h; exact ⟨hblk, hcells⟩
   obtain ⟨hh, hσ⟩ := hB _ rfl
   have hV : VR σ (.slice (some ⟨B, 0, none⟩) len cap) (.slice (some a) len cap) := by
     have := VR.sl (σ := σ) B 0 len cap ⟨a.block, a.off, 1 * len, 1⟩ hσ hcO
     obtain ⟨ab, ao, asp⟩ := a
     simp only at hspot
     subst hspot
     exact this
   exact ⟨.slice (some ⟨B, 0, none⟩) len cap, l, .inr ⟨B, 0, cap, _, _, by rw [hil], hh, rfl, by simp, by rw [List.drop_zero, List.take_of_length_le (by simp)], .inr ⟨hble, by omega⟩⟩, hV⟩
end
theorem star : "*" ++ "errors.errorString" = "*errors.errorString" := by decide
theorem row162 (u : TypeId) (h : Tryz.prog.typeName? 3 u = some "*errors.errorString") : u = 162 :=
 Go.typeName_ptr_named (nm := "errors.errorString") (by rw [star]; kernel_rfl) (by kernel_rfl) (by decide) u (by rw [star]; exact h)
theorem u162 : Tryz.prog.underlying 162 = some (.pointer 164) := by kernel_rfl
noncomputable def msOf : Array (String × TypeId) := match Tryz.prog.underlying 77 with | some (.interface ms) => ms | _ => #[]
theorem u77 : Tryz.prog.underlying 77 = some (.interface msOf) := by kernel_rfl
theorem err_cell {n : String} {text : List UInt8} {r : List (String × DataW Unit)} {W : World} {g : Nat}
   (h : laidMet Tryz.prog ((n, .iface "*errors.errorString" (.ptr (.agg [.lit (.string text)]))) :: r) W)
   (hg : Tryz.prog.globalNamed n = some g) (ht : (Tryz.prog.globals[g]?).map (·.type) = some 77) :
   ∃ a : Addr, W.cell? ⟨g, 0, none⟩ = some (.iface 162 (.pointer (some a))) ∧ a.spot = none ∧ a.block < W.heap.size := by
 obtain ⟨ps, ⟨g0, t0, cs0, f0, p0, q0, hg0, ht0, hv0, hd0, _, e0⟩, _, hrows⟩ := h
 obtain rfl := Option.some.inj (hg.symm.trans hg0)
 obtain rfl := Option.some.inj (ht.symm.trans ht0)
 subst e0
 obtain ⟨l0⟩ := cs0
 have hi := u77
 obtain ⟨f1, u, v, rfl, hn, h1⟩ := iface_of_trod hi hd0
 obtain rfl := row162 u hn
 have hc : W.cell? ⟨g, 0, none⟩ = some (.iface 162 v) := by simpa using World.var?_cell hg0 hv0 0
 have ok : Value.okWide Tryz.prog W .any 0 162 v := (hrows g 0 (by simp [MemPlace.row])).2 162 v hc
 obtain ⟨f2, a, cs', q, hv, hcells, h2, _⟩ := ptr_of_trod u162 h1
 unfold Value.okWide at ok
 simp only [u162] at ok
 unfold Cell.okWide at ok
 simp only [u162] at ok
 have hv' : v = .pointer (some a) := by
   cases v <;> simp [Value.cells, Cell.ok] at ok hv
   subst hv
   rfl
 subst hv'
 unfold Cell.ok at ok
 rw [u162] at ok
 obtain ⟨_, hspot, row, cells, hshape, _⟩ := ok
 refine ⟨a, hc, hspot, ?_⟩
 unfold World.shape? at hshape
 split at hshape
 · rename_i c el _ hh
   exact (Array.getElem?_eq_some_iff.1 hh).1
 · cases hshape
theorem ros_relV {w : World} {bs : Ros} (hv : ∀ p, some p ∈ bs → p.2.blk < w.heap.size ∧ ∀ j v, p.1[j]? = some v → ∃ v', w.cell? ⟨p.2.blk, p.2.off + j, none⟩ = some v' ∧ VR (rosσ bs) v v') : Rel (rosσ bs) (rosH bs) w := by
 refine ⟨fun B hB => ?_, fun B c h => ?_, fun B x hx => ?_, fun B x B' x' c c' hx hm => ?_⟩
 · have hB : bs.length ≤ B := hB
   simp [rosσ, List.getElem?_eq_none hB]
 · simp only [rosσ] at h
   split at h
   · rename_i p hp
     simp only [Option.some.injEq] at h
     subst h
     exact (hv p (List.mem_of_getElem? hp)).1
   · cases h
 · obtain ⟨_, p, hp, rfl⟩ := rosO_get bs 0 B x hx
   rw [Nat.sub_zero] at hp
   exact ⟨p.2, (ros_has hp).2, fun j v h => (hv p (List.mem_of_getElem? hp)).2 j v h⟩
 · rw [ros_ro B x hx] at hm; cases hm
theorem ros_cst {w : World} {σ : Sg} {p : List Value × CB} (h : RosOk w p) : p.2.blk < w.heap.size ∧ ∀ j v, p.1[j]? = some v → ∃ v', w.cell? ⟨p.2.blk, p.2.off + j, none⟩ = some v' ∧ VR σ v v' :=
 ⟨h.1, fun j v hj => ⟨v, (h.2 j v hj).1, cstOk_vr (h.2 j v hj).2⟩⟩
theorem laid_var {P : Program} {w : World} {n : String} {d : DataW Unit} : ∀ {l : List (String × DataW Unit)} {ps : List MemPlace}, DataW.LaidVars P w l ps → (n, d) ∈ l →
   ∃ g t cs fuel p, P.globalNamed n = some g ∧ (P.globals[g]?).map (·.type) = some t ∧ w.var? P n = some cs ∧ DataW.trod (fun _ => ()) P w 0 (fun _ => true) false fuel t cs.toList = some (d, p)
 | [], _, _, hm => by cases hm
 | (n', d') :: r, ps, h, hm => by
   obtain ⟨g, t, cs, fuel, p, q, h1, h2, h3, h4, h5, _⟩ := h
   rcases List.mem_cons.1 hm with e | hm
   · cases e; exact ⟨g, t, cs, fuel, p, h1, h2, h3, h4⟩
   · exact laid_var h5 hm
def powZ : List Int := (List.range 20).map fun i => ((10 ^ i : Nat) : Int)
theorem powZ_lay : (Rows.laid_internal_strconv_uint64pow10 : DataW Unit) = .agg (powZ.map fun n => .lit (.int .u64 n)) := by kernel_rfl
theorem uPOW : Tryz.prog.underlying 122 = some (.array 20 24) := by kernel_rfl
theorem pow_cell {W : World} {l : List (String × DataW Unit)} (hl : (l.all fun x => x.2.handleName?.isNone) = true) (hm : ("internal/strconv.uint64pow10", Rows.laid_internal_strconv_uint64pow10) ∈ l) (h : laidMetH Tryz.prog l W) (r : Nat) (hr : r < 20) : W.cell? ⟨1, r, none⟩ = some (.int .u64 ((10 ^ r : Nat) : Int)) := by
 rw [MakeChecks.laidMetH_plain _ _ _ hl] at h
 obtain ⟨ps, hv, _, _⟩ := h
 obtain ⟨g, t, cs, fuel, p, hg, ht, hv, hd⟩ := laid_var hv hm
 obtain rfl := Option.some.inj ((show Tryz.prog.globalNamed "internal/strconv.uint64pow10" = some 1 by kernel_rfl).symm.trans hg)
 obtain rfl := Option.some.inj ((show (Tryz.prog.globals[1]?).map (·.type) = some 122 by kernel_rfl).symm.trans ht)
 obtain ⟨xs, m, _, ex, _, hl, hel⟩ := DataW.trod_array uPOW hd
 have hE := hel r hr
 rw [s24, Nat.mul_one, List.getElem?_eq_getElem (by omega)] at hE
 obtain ⟨z, e1, e2, _⟩ := DataW.trod_int u24 hE
 have hlen : powZ.length = 20 := by simp [powZ]
 rw [powZ_lay] at ex
 have e3 : (xs.map (·.1)) = powZ.map fun n => .lit (.int .u64 n) := (DataW.agg.inj (Prod.mk.inj ex).1).symm
 have e4 : (xs.map (·.1))[r]? = (powZ.map fun n => (DataW.lit (.int .u64 n) : DataW Unit))[r]? := by rw [e3]
 rw [List.getElem?_map, List.getElem?_map, List.getElem?_eq_getElem (by omega : r < xs.length), List.getElem?_eq_getElem (by omega : r < powZ.length), e2] at e4
 have hz : z = ((10 ^ r : Nat) : Int) := by
   simp only [Option.map_some, Option.some.injEq, DataW.lit.injEq, Lit.int.injEq, true_and] at e4
   rw [e4]
   unfold powZ
   rw [List.getElem_map, List.getElem_range]
 rw [World.var?_cell hg hv r, ← hz]
 have : cs.toList[r]? = some (.int .u64 z) := by
   have h0 : ((cs.toList.drop r).take 1)[0]? = some (.int .u64 z) := by rw [e1]; rfl
   simpa using h0
 simpa using this
theorem pow_ros {W : World} (hc : ∀ r, r < 20 → W.cell? ⟨1, r, none⟩ = some (.int .u64 ((10 ^ r : Nat) : Int))) : RosOk W (powC, ⟨1, 0, 0, 0⟩) := by
 have hb := World.block_lt_of_cell? W _ (hc 0 (by omega))
 refine ⟨hb, fun j v hj => ?_⟩
 have hj' : j < 20 := by
   have := (List.getElem?_eq_some_iff.1 hj).1
   simpa [powC] using this
 rw [powC_at hj'] at hj
 cases hj
 exact ⟨by simpa using hc j hj', rfl⟩
def glZ (m : Int) (a : Addr) : Ros := [some ([.int .i64 m], ⟨0, 0, 0, 0⟩), some (powC, ⟨1, 0, 0, 0⟩), some ([], ⟨2, 0, 0, 0⟩), some ([], ⟨3, 0, 0, 0⟩), some ([], ⟨4, 0, 0, 0⟩), some ([], ⟨5, 0, 0, 0⟩), some ([], ⟨6, 0, 0, 0⟩), some ([.iface 162 (.pointer (some ⟨8, 0, none⟩))], ⟨7, 0, 0, 0⟩), some ([], ⟨a.block, a.off, 0, 0⟩)]
structure GlobZ (W : World) (m : Int) (a : Addr) : Prop where
 c0 : W.cell? ⟨0, 0, none⟩ = some (.int .i64 m)
 pw : ∀ r, r < 20 → W.cell? ⟨1, r, none⟩ = some (.int .u64 ((10 ^ r : Nat) : Int))
 c7 : W.cell? ⟨7, 0, none⟩ = some (.iface 162 (.pointer (some a)))
 sp : a.spot = none
 lt : a.block < W.heap.size
theorem glZ_rel {W : World} {m : Int} {a : Addr} (z : GlobZ W m a) (bs : Ros) (hv : ∀ p, some p ∈ bs → RosOk W p) :
   Rel (rosσ (glZ m a ++ bs)) (rosH (glZ m a ++ bs)) W := by
 obtain ⟨h0, hc, h5, hs, hb⟩ := z
 have l5 := World.block_lt_of_cell? W _ h5
 have l5' : 7 < W.heap.size := l5
 have e6 : rosσ (glZ m a ++ bs) 8 = some ⟨a.block, a.off, 0, 0⟩ := rfl
 refine ros_relV fun p hp => ?_
 rcases List.mem_append.1 hp with hp | hp
 · simp only [glZ, List.mem_cons, List.not_mem_nil, or_false, Option.some.injEq] at hp
   rcases hp with rfl | rfl | rfl | rfl | rfl | rfl | rfl | rfl | rfl
   · refine ⟨by show 0 < _; omega, fun j v hj => ?_⟩
     match j, hj with
     | 0, hj => simp at hj; subst hj; exact ⟨_, h0, .int _ _⟩
     | j + 1, hj => simp at hj
   · exact ros_cst (pow_ros hc)
   · exact ⟨by show 2 < _; omega, fun j v hj => by cases hj⟩
   · exact ⟨by show 3 < _; omega, fun j v hj => by cases hj⟩
   · exact ⟨by show 4 < _; omega, fun j v hj => by cases hj⟩
   · exact ⟨by show 5 < _; omega, fun j v hj => by cases hj⟩
   · exact ⟨by show 6 < _; omega, fun j v hj => by cases hj⟩
   · refine ⟨by show 7 < _; omega, fun j v hj => ?_⟩
     match j, hj with
     | 0, hj =>
       simp at hj; subst hj
       refine ⟨_, h5, .iface _ _ _ ?_⟩
       have := VR.ptr (σ := rosσ (glZ m a ++ bs)) 8 0 _ e6
       obtain ⟨ab, ao, asp⟩ := a
       simp only at hs
       subst hs
       exact this
     | j + 1, hj => simp at hj
   · exact ⟨hb, fun j v hj => by cases hj⟩
 · exact ros_cst (hv p hp)
theorem err_ok8 : ErrC (.iface 162 (.pointer (some ⟨8, 0, none⟩))) := ⟨rfl, rfl, by decide⟩
theorem glZ_glob (m : Int) (a : Addr) (bs : Ros) : Glob (rosσ (glZ m a ++ bs)) NG := fun g hg => by
 have hg' : g < 8 := hg
 rcases (show g = 0 ∨ g = 1 ∨ g = 2 ∨ g = 3 ∨ g = 4 ∨ g = 5 ∨ g = 6 ∨ g = 7 by omega) with rfl | rfl | rfl | rfl | rfl | rfl | rfl | rfl <;> exact ⟨_, rfl, rfl, rfl⟩
theorem glZ_env (m : Int) (a : Addr) (bs : Ros) : Env0 (.iface 162 (.pointer (some ⟨8, 0, none⟩))) (rosH (glZ m a ++ bs)) ∧ 7 < (rosH (glZ m a ++ bs)).next ∧ Has (rosH (glZ m a ++ bs)) 0 (.ro [.int .i64 m]) := by
 have g0 := ros_has (bs := glZ m a ++ bs) (B := 0) (p := ([.int .i64 m], ⟨0, 0, 0, 0⟩)) rfl
 have g1 := ros_has (bs := glZ m a ++ bs) (B := 1) (p := (powC, ⟨1, 0, 0, 0⟩)) rfl
 have g7 := ros_has (bs := glZ m a ++ bs) (B := 7) (p := ([.iface 162 (.pointer (some ⟨8, 0, none⟩))], ⟨7, 0, 0, 0⟩)) rfl
 exact ⟨⟨err_ok8, g7.1, g1.1⟩, g7.1.1, g0.1⟩
end Go.Proofs.YtilpiiafjehbnaaGreatDoor
set_option maxRecDepth 100000
namespace Go.Proofs.YtilpiiafjehbnaaGreatDoor
open Go.Ev Go.RowKit
section
variable {H : Type} {enc : TypeId × Value → H}
theorem textReads_walk {W : World} {m : Int} {a : Addr} (z : GlobZ W m a) {n1 : Nat} {v1 : Value} {x1 : DataW H × List MemPlace} (hok : Value.okWide Tryz.prog W .any 0 34 v1) (h1 : DataW.trod enc Tryz.prog W 0 (fun _ => true) true n1 34 v1.cells.toList = some x1) :
   Calls Tryz.prog 4 #[v1] W fun e W' => e = .returned (.bool true) ∧ Below W.heap.size W W' := by
 obtain ⟨o, p, q⟩ := bytes_at hok h1
 have r := glZ_rel z [o] fun p' hp => by
   simp only [List.mem_cons, List.not_mem_nil, or_false] at hp
   exact p p' hp.symm
 obtain ⟨ev, h7, g0⟩ := glZ_env m a [o]
 obtain ⟨v', l, hr, va⟩ := q 9 (rosσ (glZ m a ++ [o])) (rosH (glZ m a ++ [o])) fun p hp => ros_has (by rw [hp]; rfl)
 exact calls_of_sp gor Tryz.checked.mixed xok Tryz.func4 (by kernel_rfl) (reads_law 20000 0 (by decide) ev h7 g0 hr) r (glZ_glob m a [o]) (.cons va (.nil _)) ros_ro
end
end Go.Proofs.YtilpiiafjehbnaaGreatDoor
