import Derived.Test.YtilpiiafjehbnaaGreatDoorZbD
set_option linter.unusedSimpArgs false
set_option linter.unusedVariables false
namespace Go.Proofs.YtilpiiafjehbnaaGreatDoor
open Go.Ev
def tab (p : List UInt8) : List Value := (List.range 256).map fun c => .bool (decide (UInt8.ofNat c ∈ p))
theorem tab_len (p : List UInt8) : (tab p).length = 256 := by simp [tab]
theorem tab_at (p : List UInt8) (c : UInt8) : (tab p)[c.toNat]? = some (.bool (decide (c ∈ p))) := by
 have hc : c.toNat < 256 := c.toNat_lt
 unfold tab
 rw [List.getElem?_map, List.getElem?_range hc]
 show some (Value.bool (decide (UInt8.ofNat c.toNat ∈ p))) = _
 rw [UInt8.ofNat_toNat]
theorem putAt_set : ∀ (cs : List Value) (o : Nat) (v : Value), o < cs.length → putAt cs o [v] = some (cs.set o v)
 | [], o, v, h => by simp at h
 | x :: xs, 0, v, _ => by cases xs <;> rfl
 | x :: xs, o + 1, v, h => by
   have ih := putAt_set xs o v (by simpa using h)
   simp only [putAt, ih, List.set]
theorem tab_put (p : List UInt8) (c : UInt8) : putAt (tab p) c.toNat [.bool true] = some (tab (p ++ [c])) := by
 have hc : c.toNat < 256 := c.toNat_lt
 rw [putAt_set _ _ _ (by rw [tab_len]; exact hc)]
 congr 1
 refine List.ext_getElem (by rw [List.length_set, tab_len, tab_len]) fun i h1 h2 => ?_
 rw [tab_len] at h2
 rw [List.getElem_set]
 have e : ∀ q, (tab q)[i]'(by rw [tab_len]; exact h2) = .bool (decide (UInt8.ofNat i ∈ q)) := fun q => by
   unfold tab
   rw [List.getElem_map, List.getElem_range]
 by_cases g : c.toNat = i
 · rw [if_pos g, e]
   have : UInt8.ofNat i = c := by rw [← g]; exact UInt8.ofNat_toNat
   rw [this, dT (List.mem_append_right _ (List.mem_singleton.2 rfl))]
 · rw [if_neg g, e, e]
   have hne : UInt8.ofNat i ≠ c := fun h => g (by rw [← h]; exact UInt8.toNat_ofNat_of_lt' h2)
   have : (UInt8.ofNat i ∈ p ++ [c]) ↔ UInt8.ofNat i ∈ p := by
     rw [List.mem_append, List.mem_singleton]
     exact ⟨fun h => h.resolve_right hne, .inl⟩
   by_cases g2 : UInt8.ofNat i ∈ p
   · rw [dT g2, dT (this.2 g2)]
   · rw [dF g2, dF fun h => g2 (this.1 h)]
theorem ones_tab (p : List UInt8) : ones (tab p) = true := by
 have : ∀ l : List Nat, ones (l.map fun c => Value.bool (decide (UInt8.ofNat c ∈ p))) = true := fun l => by
   induction l with
   | nil => rfl
   | cons x r ih => exact ih
 exact this _
theorem asNat_u8 (i : Nat) : asNat (.int .u8 (i : Int)) = some i := rfl
theorem ix256 (b : Nat) (c : UInt8) : indexArr 1 256 (.pointer (some ⟨b, 0, none⟩)) (bv c) = some (.pointer (some ⟨b, c.toNat, none⟩)) := by
 have hc : c.toNat < 256 := c.toNat_lt
 show indexArr 1 256 (.pointer (some ⟨b, 0, none⟩)) (.int .u8 (c.toNat : Int)) = _
 simp only [indexArr, asNat_u8]
 rw [Nat.ble_eq_true_of_le (show c.toNat + 1 ≤ 256 by omega)]
 simp [addOff]
theorem nilChk_ptr (a : Addr) : nilChk (.pointer (some a)) = some (.pointer (some a)) := rfl
theorem contains_law124 (L n : Nat) {h : H} {B : Nat} {p : List UInt8} {ty : Option TypeId} (c : UInt8) (hb : Has h B (.rw (tab p) ty)) : Sp (CF L (n + 1)) 124 [.pointer (some ⟨B, 0, none⟩), bv c] h fun r h' => r = .bool (decide (c ∈ p)) ∧ h' = h := by
 refine Sp.body f124 (by simp) ?_
 unfold c124
 refine C.seq fun K hK => hK .norm _ _ (C.seq fun K hK => ?_)
 have ld : ∀ s, loadOne h (.pointer (some ⟨B, c.toNat, s⟩)) = some (.bool (decide (c ∈ p))) := fun s => by rw [loadOne_has hb rfl, tab_at]
 rw [box_f]
 simp only [seval, EV, r124_1, nilChk_ptr, ix256, ld]
 exact hK _ _ _ (C.ret ⟨.inr rfl, _, rfl, by simp only [seval, EV, resOf], rfl⟩)
theorem put256 {h : H} {B : Nat} {s : Option Nat} {cs : List Value} {ty : Option TypeId} {p : List UInt8} (hb : Has h B (.rw cs ty)) (hc : cs.length = 256) : storeV 256 h (.pointer (some ⟨B, 0, s⟩)) (.agg (tab p).toArray) = some (h.put B (.rw (tab p) ty)) := by
 have := store_has (s := s) (v := .agg (tab p).toArray) hb hc.symm (by show (tab p).toArray.size = 256; rw [List.size_toArray, tab_len]) (by show ones (tab p).toArray.toList = true; exact ones_tab p)
 exact this
theorem get256 {h : H} {B : Nat} {s : Option Nat} {p : List UInt8} {ty : Option TypeId} (hb : Has h B (.rw (tab p) ty)) : loadAgg 256 h (.pointer (some ⟨B, 0, s⟩)) = some (.agg (tab p).toArray) := by
 rw [loadAgg_has hb rfl (by rw [tab_len]; omega), List.drop_zero, List.take_of_length_le (by rw [tab_len]; exact Nat.le_refl _)]
theorem tab_nil : tab [] = List.replicate 256 (.bool false) := by
 have : (fun c : Nat => Value.bool (decide (UInt8.ofNat c ∈ ([] : List UInt8)))) = fun _ => .bool false := funext fun c => by simp
 unfold tab
 rw [this]
 simp [List.map_const']
theorem set_law (L n : Nat) {p : List UInt8} (hL : p.length < L) (hp : ∀ c ∈ p, c.toNat < 128) (h1000 : p.length < 1000) {h0 : H} : Sp (CF L (n + 1)) 115 [sv p] h0 fun r h' => r = .tuple #[.agg (tab p).toArray, .bool true] ∧ Keep nobody h0 h' := by
 refine Sp.body f115 (by simp) ?_
 unfold c115
 refine C.seq fun K hK => ?_
 have b0 := Has.new h0 (.rw (tab []) (some 137))
 have k0 := Keep.new h0 (.rw (tab []) (some 137))
 have hr : r115_0 = fun call _ tm ds h K => K .norm (T.set (T.set tm 2 (ptrTo h.next)) 3 (.bool false)) ds (h.new (.rw (tab []) (some 137))) := by
   rw [tab_nil]; kernel_rfl
 rw [box_f, hr]
 dsimp only
 rw [ptrTo_eq]
 generalize h0.new (.rw (tab []) (some 137)) = h1 at *
 refine hK .norm _ _ (C.seq (C.seq fun K hK => ?_))
 simp only [EV, r115_1]
 refine hK _ _ _ (C.block ?_)
 refine (C.loop (L := L) (fun m tm h' => ∃ i, m = p.length - i ∧ i ≤ p.length ∧ tg tm 0 = sv p ∧ tg tm 2 = .pointer (some ⟨h0.next, 0, none⟩) ∧ tg tm 4 = .int .i64 (i : Int) ∧ Has h' h0.next (.rw (tab (p.take i)) (some 137)) ∧ Keep nobody h0 h') p.length hL
   ⟨0, rfl, Nat.zero_le _, by simp only [↓reduceIte, EV, Nat.reduceEqDiff], by simp only [↓reduceIte, EV, Nat.reduceEqDiff], by simp only [↓reduceIte, EV]; rfl, b0, k0⟩ fun m tm h' hi => ?_ : C (loopB l115_8) _ L _ h1 fun e tm' h' => e = .exit 0 ∧ tg tm' 2 = .pointer (some ⟨h0.next, 0, none⟩) ∧ Has h' h0.next (.rw (tab p) (some 137)) ∧ Keep nobody h0 h').mono ?_
 · obtain ⟨i, hm, hil, t0, t2, t4, hb, kp⟩ := hi
   unfold l115_8
   refine C.seq (C.seq fun K hK => ?_)
   by_cases g : i < p.length
   · have g' : (i : Int) < (p.length : Int) := by omega
     obtain ⟨c, hc⟩ : ∃ c, p[i]? = some c := ⟨_, List.getElem?_eq_getElem g⟩
     have hlow := hp c (List.mem_of_getElem? hc)
     have e1 := sv_ix hc
     simp only [EV, r115_2, t0, t4, sv_len, dT g']
     refine hK _ _ _ (C.ct (C.skip (C.seq (C.block (C.seq fun K hK => ?_)))))
     simp only [seval, EV, r115_4, t0, t4, e1]
     refine hK _ _ _ (C.seq (C.seq fun K hK => ?_))
     have q : binV Tryz.prog .geq 5 true (bv c) (.int .u8 128) = some (.bool false) := by
       show binV Tryz.prog .geq 5 true (.int .u8 (c.toNat : Int)) (.int .u8 128) = _
       rw [binV_geq, dF (show ¬ (128 : Int) ≤ (c.toNat : Int) by omega)]
     simp only [seval, EV, r115_5, q]
     refine hK _ _ _ (C.cf <| C.skip fun K hK => ?_)
     have tk : tab (p.take i ++ [c]) = tab (p.take (i + 1)) := by rw [List.take_add_one, hc]; rfl
     have st : storeV 1 h' (.pointer (some ⟨h0.next, c.toNat, none⟩)) (.bool true) = some (h'.put h0.next (.rw (tab (p.take (i + 1))) (some 137))) := by
       have := store_one (s := none) (v := .bool true) hb rfl rfl (tab_put (p.take i) c)
       rw [tk] at this
       exact this
     rw [box_f]
     simp only [seval, EV, r115_7, t2, ix256, st]
     refine hK .norm _ _ ?_
     intro K hK
     rw [box_f]
     have w : IntKind.i64.wrap ((i : Int) + 1) = ((i + 1 : Nat) : Int) := wrap_succ i (by omega)
     simp only [seval, EV, r115_3, t4, w]
     exact hK _ _ _ ⟨p.length - (i + 1), by omega, i + 1, rfl, by omega, by simp only [seval, EV, t0], by simp only [seval, EV, t2], by simp only [seval, EV], Has.put hb.1, put_keep kp (Nat.le_refl _)⟩
   · have g' : ¬ (i : Int) < (p.length : Int) := by omega
     have hi : i = p.length := by omega
     rw [hi, List.take_length] at hb
     simp only [EV, r115_2, t0, t4, sv_len, dF g']
     exact hK _ _ _ (C.cf <| C.exit ⟨rfl, by simp only [seval, EV, t2], hb, kp⟩)
 · rintro e tm' h' ⟨rfl, t2, hb, kp⟩
   show if 0 = 0 then _ else _
   rw [if_pos rfl]
   refine C.seq fun K hK => ?_
   have g2 := get256 (s := none) hb
   have p2 := put256 (s := none) (p := p) hb (tab_len p)
   have g3 := get256 (s := none) (Has.put (x := .rw (tab p) (some 137)) hb.1)
   simp only [EV, r115_8, t2, g2, p2]
   refine hK _ _ _ (C.ret ⟨.inr rfl, [.agg (tab p).toArray, .bool true], ?_, rfl, put_keep kp (Nat.le_refl _)⟩)
   simp only [seval, EV, q115, t2, g3]
theorem right_law (L n : Nat) {l p : List UInt8} {B : Nat} {ty : Option TypeId} (hL : l.length < L) (hl : l.length < 100000) {h : H} (hb : Has h B (.rw (tab p) ty)) :
   Sp (CF L (n + 2)) 117 [sv l, .pointer (some ⟨B, 0, none⟩)] h fun r h' => (∃ j, j ≤ l.length ∧ r = sv (l.take j) ∧ (∀ c, l[j - 1]? = some c → 0 < j → c ∉ p) ∧ ∀ i c, j ≤ i → l[i]? = some c → c ∈ p) ∧ h' = h := by
 refine Sp.body f117 (by simp) ?_
 unfold c117
 refine C.seq fun K hK => ?_
 simp only [seval, EV, r117_0]
 refine hK _ _ _ (C.seq (C.block ?_))
 refine (C.loop (L := L) (fun m tm h' => ∃ j, m = j ∧ j ≤ l.length ∧ tg tm 0 = sv (l.take j) ∧ tg tm 1 = .pointer (some ⟨B, 0, none⟩) ∧ (∀ i c, j ≤ i → l[i]? = some c → c ∈ p) ∧ h' = h) l.length hL
   ⟨l.length, rfl, Nat.le_refl _, by rw [List.take_length]; simp only [seval, EV], by simp only [seval, EV], (fun i c hi hc => by rw [List.getElem?_eq_none hi] at hc; cases hc), rfl⟩ fun m tm h' hi => ?_ :
   C (loopB l117_4) _ L _ h fun e tm' h' => e = .exit 0 ∧ ∃ j, j ≤ l.length ∧ tg tm' 0 = sv (l.take j) ∧ (∀ c, l[j - 1]? = some c → 0 < j → c ∉ p) ∧ (∀ i c, j ≤ i → l[i]? = some c → c ∈ p) ∧ h' = h).mono ?_
 · obtain ⟨j, hm, hj, t0, t1, hall, rfl⟩ := hi
   unfold l117_4
   have hlen : (l.take j).length = j := by rw [List.length_take]; omega
   refine C.seq (C.seq fun K hK => ?_)
   by_cases g : 0 < j
   · have g' : (0 : Int) < ((l.take j).length : Int) := by omega
     obtain ⟨c, hc⟩ : ∃ c, l[j - 1]? = some c := ⟨_, List.getElem?_eq_getElem (by omega)⟩
     have hc' : (l.take j)[j - 1]? = some c := by rw [List.getElem?_take, if_pos (by omega)]; exact hc
     have e1 := sv_ix hc'
     have w : IntKind.i64.wrap (((l.take j).length : Int) - 1) = ((j - 1 : Nat) : Int) := by
       rw [hlen, show (j : Int) - 1 = ((j - 1 : Nat) : Int) by omega]; exact wrap_lt _ (by omega)
     simp only [EV, r117_1, t0, sv_len, dT g']
     refine hK _ _ _ (C.ct (C.skip (C.block (C.seq (C.seq fun K hK => ?_)))))
     simp only [seval, EV, r117_2, t0, t1, sv_len, w, e1]
     refine contains_law124 L n c hb _ fun r h2 hq => ?_
     obtain ⟨rfl, hh⟩ := hq
     rw [hh]; clear hh
     by_cases gc : c ∈ p
     · simp only [EV, dT gc]
       refine hK _ _ _ (C.cf <| C.skip fun K hK => ?_)
       have e2 := sv_mid (l := l.take j) (lo := none) (k := 0) (n := j - 1) (.inl ⟨rfl, rfl⟩) (Nat.zero_le _) (by omega)
       have e3 : ((l.take j).take (j - 1)).drop 0 = l.take (j - 1) := by rw [List.drop_zero, List.take_take, Nat.min_eq_left (by omega)]
       rw [e3] at e2
       rw [box_f]
       simp only [seval, EV, r117_3, t0, sv_len, w, e2]
       refine hK _ _ _ ⟨j - 1, by omega, j - 1, rfl, by omega, by simp only [seval, EV], by simp only [seval, EV, t1], fun i c' hi hc2 => ?_, rfl⟩
       by_cases e : i = j - 1
       · rw [e, hc] at hc2; cases hc2; exact gc
       · exact hall i c' (by omega) hc2
     · simp only [EV, dF gc]
       refine hK _ _ _ (C.ct (C.exit ?_))
       show if 1 = 0 then _ else _
       rw [if_neg (by decide)]
       exact ⟨rfl, j, hj, by simp only [seval, EV, t0], (fun c' h1 _ => by rw [hc] at h1; cases h1; exact gc), hall, rfl⟩
   · have g' : ¬ (0 : Int) < ((l.take j).length : Int) := by omega
     simp only [EV, r117_1, t0, sv_len, dF g']
     exact hK _ _ _ (C.cf <| C.exit ⟨rfl, j, hj, by simp only [seval, EV, t0], fun c' _ h => absurd h g, hall, rfl⟩)
 · rintro e tm' h' ⟨rfl, j, hj, t0, h1, h2, rfl⟩
   show if 0 = 0 then _ else _
   rw [if_pos rfl]
   refine C.seq fun K hK => ?_
   simp only [r117_4, t0]
   exact hK _ _ _ (C.ret ⟨.inr rfl, _, rfl, ⟨j, hj, by simp only [seval, EV, resOf], h1, h2⟩, rfl⟩)
theorem left_law (L n : Nat) {l p : List UInt8} {B : Nat} {ty : Option TypeId} (hL : l.length < L) (hl : l.length < 100000) {h : H} (hb : Has h B (.rw (tab p) ty)) :
   Sp (CF L (n + 2)) 116 [sv l, .pointer (some ⟨B, 0, none⟩)] h fun r h' => (∃ j, j ≤ l.length ∧ r = sv (l.drop j) ∧ (∀ c, l[j]? = some c → c ∉ p) ∧ ∀ i c, i < j → l[i]? = some c → c ∈ p) ∧ h' = h := by
 refine Sp.body f116 (by simp) ?_
 unfold c116
 refine C.seq fun K hK => ?_
 simp only [seval, EV, r116_0]
 refine hK _ _ _ (C.seq (C.block ?_))
 refine (C.loop (L := L) (fun m tm h' => ∃ j, m = l.length - j ∧ j ≤ l.length ∧ tg tm 0 = sv (l.drop j) ∧ tg tm 1 = .pointer (some ⟨B, 0, none⟩) ∧ (∀ i c, i < j → l[i]? = some c → c ∈ p) ∧ h' = h) l.length hL
   ⟨0, rfl, Nat.zero_le _, by rw [List.drop_zero]; simp only [seval, EV], by simp only [seval, EV], fun i c hi => by omega, rfl⟩ fun m tm h' hi => ?_ :
   C (loopB l116_4) _ L _ h fun e tm' h' => e = .exit 0 ∧ ∃ j, j ≤ l.length ∧ tg tm' 0 = sv (l.drop j) ∧ (∀ c, l[j]? = some c → c ∉ p) ∧ (∀ i c, i < j → l[i]? = some c → c ∈ p) ∧ h' = h).mono ?_
 · obtain ⟨j, hm, hj, t0, t1, hall, rfl⟩ := hi
   unfold l116_4
   have hlen : (l.drop j).length = l.length - j := List.length_drop
   refine C.seq (C.seq fun K hK => ?_)
   by_cases g : j < l.length
   · have g' : (0 : Int) < ((l.drop j).length : Int) := by omega
     obtain ⟨c, hc⟩ : ∃ c, l[j]? = some c := ⟨_, List.getElem?_eq_getElem g⟩
     have hc' : (l.drop j)[0]? = some c := by rw [List.getElem?_drop]; exact hc
     have e1 : indexStr (sv (l.drop j)) (.int .i64 0) = some (bv c) := sv_ix hc'
     simp only [EV, r116_1, t0, sv_len, dT g']
     refine hK _ _ _ (C.ct (C.skip (C.block (C.seq (C.seq fun K hK => ?_)))))
     simp only [seval, EV, r116_2, t0, t1, e1]
     refine contains_law124 L n c hb _ fun r h2 hq => ?_
     obtain ⟨rfl, hh⟩ := hq
     rw [hh]; clear hh
     by_cases gc : c ∈ p
     · simp only [EV, dT gc]
       refine hK _ _ _ (C.cf <| C.skip fun K hK => ?_)
       have e2 : sliceStr (sv (l.drop j)) (some (.int .i64 1)) none none = some (sv (l.drop (j + 1))) := by
         have := sv_from (l := l.drop j) (k := 1) (by omega)
         rw [List.drop_drop] at this
         exact this
       rw [box_f]
       simp only [seval, EV, r116_3, t0, e2]
       refine hK _ _ _ ⟨l.length - (j + 1), by omega, j + 1, rfl, by omega, by simp only [seval, EV], by simp only [seval, EV, t1], fun i c' hi hc2 => ?_, rfl⟩
       by_cases e : i = j
       · rw [e, hc] at hc2; cases hc2; exact gc
       · exact hall i c' (by omega) hc2
     · simp only [EV, dF gc]
       refine hK _ _ _ (C.ct (C.exit ?_))
       show if 1 = 0 then _ else _
       rw [if_neg (by decide)]
       exact ⟨rfl, j, hj, by simp only [seval, EV, t0], (fun c' h1 => by rw [hc] at h1; cases h1; exact gc), hall, rfl⟩
   · have g' : ¬ (0 : Int) < ((l.drop j).length : Int) := by omega
     simp only [EV, r116_1, t0, sv_len, dF g']
     exact hK _ _ _ (C.cf <| C.exit ⟨rfl, j, hj, by simp only [seval, EV, t0], (fun c' h => by rw [List.getElem?_eq_none (by omega)] at h; cases h), hall, rfl⟩)
 · rintro e tm' h' ⟨rfl, j, hj, t0, h1, h2, rfl⟩
   show if 0 = 0 then _ else _
   rw [if_pos rfl]
   refine C.seq fun K hK => ?_
   simp only [r116_4, t0]
   exact hK _ _ _ (C.ret ⟨.inr rfl, _, rfl, ⟨j, hj, by simp only [seval, EV, resOf], h1, h2⟩, rfl⟩)
def digW : List UInt8 := [48, 49, 50, 51, 52, 53, 54, 55, 56, 57]
theorem dig_mem (c : UInt8) : c ∈ digW ↔ dig c = true := by
 constructor
 · intro h
   simp only [digW, List.mem_cons, List.not_mem_nil, or_false] at h
   rcases h with rfl | rfl | rfl | rfl | rfl | rfl | rfl | rfl | rfl | rfl <;> rfl
 · intro h
   obtain ⟨h1, h2⟩ := dig_of h
   have e : c = UInt8.ofNat c.toNat := UInt8.ofNat_toNat.symm
   have : c.toNat = 48 ∨ c.toNat = 49 ∨ c.toNat = 50 ∨ c.toNat = 51 ∨ c.toNat = 52 ∨ c.toNat = 53 ∨ c.toNat = 54 ∨ c.toNat = 55 ∨ c.toNat = 56 ∨ c.toNat = 57 := by omega
   rcases this with g | g | g | g | g | g | g | g | g | g <;> rw [e, g] <;> decide
theorem trim_law (L n : Nat) {l : List UInt8} (hL : 1000 ≤ L) (hl : l.length < 1000) (hne : l ≠ []) {h0 : H} :
   Sp (CF L (n + 3)) 104 [sv l, sv digW] h0 fun r h' => (∃ x, r = sv x ∧ (x = [] ↔ l.all dig = true)) ∧ Keep nobody h0 h' := by
 refine Sp.body f104 (by simp) ?_
 unfold c104
 have q1 : ∀ c, binV Tryz.prog .eql 9 c (sv l) (.string (strB [])) = some (.bool false) := fun c => by
   have := sv_eql 9 c l []
   rw [dF hne] at this
   exact this
 have q2 : ∀ c, binV Tryz.prog .eql 9 c (sv digW) (.string (strB [])) = some (.bool false) := fun c => sv_eql 9 c digW []
 have l10 : lenStr (sv digW) = some (.int .i64 10) := rfl
 have d10 : decide ((10 : Int) = 1) = false := rfl
 have hr : r104_5 = fun call _ tm ds h K => call 115 [(tg tm 1)] h (fun v h => (fun v1 ds h =>
     kO (tupNth 0 v1) ds h (fun v3 ds h =>
     kO (tupNth 1 v1) ds h (fun v4 ds h =>
     kA (some (.rw (tab []) (some 137), ptrTo h.next)) ds h (fun v5 ds h =>
     kH (withV undef (storeV 256 h v5 v3)) ds (fun v6 ds h =>
     K .norm (T.set (T.set tm 5 v5) 6 v4) ds h))))) v ds h) := by
   rw [tab_nil]; kernel_rfl
 refine C.seq fun K hK => ?_
 simp only [seval, EV, r104_0]
 refine hK _ _ _ (C.seq (C.seq fun K hK => ?_))
 simp only [seval, ↓EW, EV, r104_1, q1, q2]
 refine hK _ _ _ (C.cf <| C.skip (C.seq (C.seq fun K hK => ?_)))
 simp only [seval, ↓opStep_eq, ↓EW, EV, r104_3, l10]
 refine hK _ _ _ (C.cf <| C.skip (C.seq (C.seq fun K hK => ?_)))
 rw [box_f, hr]
 simp only [seval, ↓EW, EV]
 refine set_law L (n + 1) (p := digW) (by show 10 < L; omega) (by decide) (by decide) _ fun r h1 hq => ?_
 obtain ⟨rfl, k1⟩ := hq
 have st : storeV 256 (h1.new (.rw (tab []) (some 137))) (.pointer (some ⟨h1.next, 0, none⟩)) (.agg (tab digW).toArray) = some ((h1.new (.rw (tab []) (some 137))).put h1.next (.rw (tab digW) (some 137))) := put256 (Has.new _ _) (tab_len [])
 have t2 : ∀ (x y : Value) i, tupNth i (.tuple #[x, y]) = [x, y][i]? := fun x y i => tupNth_tuple i [x, y]
 simp only [EV, t2, st]
 have b5 := has_alloc h1 (.rw (tab []) (some 137)) (.rw (tab digW) (some 137))
 have k2 := k1.then (keep_alloc h1 (.rw (tab []) (some 137)) (.rw (tab digW) (some 137)))
 generalize (h1.new (.rw (tab []) (some 137))).put h1.next (.rw (tab digW) (some 137)) = h2 at *
 refine hK _ _ _ (C.seq fun K hK => ?_)
 simp only [seval, EV, r104_6]
 refine hK _ _ _ (C.ct (C.seq fun K hK => ?_))
 simp only [seval, EV, r104_7]
 refine right_law L n (l := l) (p := digW) (by omega) (by omega) b5 _ fun r h3 hq => ?_
 obtain ⟨⟨j, hj, rfl, r1, r2⟩, hh⟩ := hq
 rw [hh]; clear hh
 refine left_law L n (l := l.take j) (p := digW) (by rw [List.length_take]; omega) (by rw [List.length_take]; omega) b5 _ fun r h4 hq => ?_
 obtain ⟨⟨i, hi, rfl, s1, s2⟩, hh⟩ := hq
 rw [hh]; clear hh
 refine hK _ _ _ (C.ret ⟨.inr rfl, _, rfl, ⟨(l.take j).drop i, by simp only [seval, EV, resOf], ?_⟩, k2⟩)
 have hlt : (l.take j).length = j := by rw [List.length_take]; omega
 constructor
 · intro he
   have hij : i = j := by
     have := congrArg List.length he
     rw [List.length_drop, hlt, List.length_nil] at this
     omega
   refine List.all_eq_true.2 fun c hc => ?_
   obtain ⟨k, hk⟩ := List.getElem?_of_mem hc
   refine (dig_mem c).1 ?_
   by_cases g : k < j
   · exact s2 k c (by omega) (by rw [List.getElem?_take, if_pos g]; exact hk)
   · exact r2 k c (by omega) hk
 · intro ha
   have h0 : j = 0 := by
     rcases Nat.eq_zero_or_pos j with h | h
     · exact h
     · obtain ⟨c, hc⟩ : ∃ c, l[j - 1]? = some c := ⟨_, List.getElem?_eq_getElem (by omega)⟩
       exact absurd ((dig_mem c).2 (List.all_eq_true.1 ha c (List.mem_of_getElem? hc))) (r1 c hc h)
   subst h0
   simp
def upN (l : List UInt8) (m : Nat) : Bool := (numN l).isSome && decide ((numN l).getD 0 ≤ m)
theorem dec_mono : ∀ (k n m : Nat), n ≤ k → n ≤ m → (dec n).length ≤ (dec m).length
 | 0, n, m, hk, h => by
   have : n = 0 := by omega
   subst this
   rw [dec_lo (show 0 < 10 by decide)]
   exact (dec_spec m).2.2.1
 | k + 1, n, m, hk, h => by
   by_cases h1 : n < 10
   · rw [dec_lo h1]
     exact (dec_spec m).2.2.1
   · rw [dec_hi h1, dec_hi (show ¬ m < 10 by omega), List.length_append, List.length_append]
     have := dec_mono k (n / 10) (m / 10) (by omega) (by omega)
     simp only [List.length_singleton]; omega
theorem upN_false {l : List UInt8} {m : Nat} (h : ∀ n, numN l = some n → ¬ n ≤ m) : upN l m = false := by
 unfold upN
 cases hn : numN l with
 | none => rfl
 | some n => exact dF (h n hn)
def badN (l : List UInt8) (m : Nat) : Bool := decide ((l.length : Int) < 1) || (decide (((dec m).length : Int) < (l.length : Int)) || ((decide (l[0]? = some 48) && decide (1 < (l.length : Int))) || !l.all dig))
theorem bad_up {l : List UInt8} {m : Nat} (h : badN l m = true) : upN l m = false := by
 refine upN_false fun n hn hm => ?_
 have e := dec_num hn
 have hl := dec_mono n n m (Nat.le_refl _) hm
 rw [← e] at hl
 unfold numN at hn
 split at hn
 · rename_i g
   obtain ⟨g1, g2, g3⟩ := g
   have hp := shape_pos g1
   unfold shapeN at g1
   unfold badN at h
   rw [dF (show ¬ (l.length : Int) < 1 by omega), dF (show ¬ ((dec m).length : Int) < (l.length : Int) by omega), g2] at h
   rw [dF (show ¬ l.length < 1 by omega), dF (show ¬ 20 < l.length by omega)] at g1
   by_cases h0 : l[0]? = some 48
   · rw [dT h0] at g1 h
     by_cases h1 : 1 < l.length
     · rw [dT h1] at g1; cases g1
     · rw [dF (show ¬ 1 < (l.length : Int) by omega)] at h; cases h
   · rw [dF h0] at h; cases h
 · cases hn
theorem good_num {l : List UInt8} {m : Nat} (hm : m < 18446744073709551616) (h : badN l m = false) : 1 ≤ l.length ∧ l.length ≤ 20 ∧ l.all dig = true ∧ (valN l 0 < 18446744073709551616 → numN l = some (valN l 0)) ∧ (¬ valN l 0 < 18446744073709551616 → numN l = none) := by
 have hd := dec_len 19 m (by omega)
 unfold badN at h
 simp only [Bool.or_eq_false_iff, decide_eq_false_iff_not, Bool.not_eq_false'] at h
 obtain ⟨h1, h2, h3, h4⟩ := h
 have hs : shapeN l = true := by
   unfold shapeN
   rw [dF (show ¬ l.length < 1 by omega), dF (show ¬ 20 < l.length by omega)]
   by_cases h0 : l[0]? = some 48
   · rw [dT h0] at h3 ⊢
     have : ¬ 1 < l.length := fun g => by rw [dT (show 1 < (l.length : Int) by omega)] at h3; cases h3
     rw [dF this]; rfl
   · rw [dF h0]; rfl
 refine ⟨by omega, by omega, h4, fun hv => numN_good ⟨hs, h4, hv⟩, fun hv => numN_bad fun h => hv h.2.2⟩
theorem reg92_1 (L n : Nat) (hL : 2000 ≤ L) {l : List UInt8} {m : Nat} (hm : m < 18446744073709551616) (hl : l.length < 1000) {h : H} {tm : T Value} (hP : Has h 1 (.ro powC)) (t0 : tg tm 0 = sv l) (t1 : tg tm 1 = .int .u64 (m : Int)) {Q : Ex → T Value → H → Prop}
   (hQ : ∀ h', Keep nobody h h' → Q .norm (T.set tm 33 (.bool (badN l m))) h') : C ⟨r92_1⟩ (CF L (n + 4)) L tm h Q := fun K hK => by
 rw [box_f]
 unfold r92_1
 have hf := format2_law L n (by omega) hm hP
 have dl : lenStr (.string ⟨(dec m).toArray⟩) = some (.int .i64 ((dec m).length : Int)) := sv_len _
 by_cases c1 : (l.length : Int) < 1
 · have hb : badN l m = true := by unfold badN; rw [dT c1]; rfl
   rw [hb] at hQ
   try rw [bx]
   refine ops_s ?_
   simp only [↓OF, NK, t0]
   refine ops_s ?_
   simp only [↓OF, NK, sv_len]
   refine ops_s ?_
   simp only [↓OF, NK, binV_lss, dT c1]
   refine ops_s ?_
   simp only [↓OF, NK]
   refine ops_k ?_
   refine ops_k ?_
   refine ops_k ?_
   refine ops_k ?_
   refine ops_k ?_
   refine ops_k ?_
   refine ops_s ?_
   simp only [↓OF, NK, pickV_true]
   refine ops_s ?_
   simp only [↓OF, NK]
   refine ops_k ?_
   refine ops_k ?_
   refine ops_k ?_
   refine ops_k ?_
   refine ops_k ?_
   refine ops_k ?_
   refine ops_k ?_
   refine ops_k ?_
   refine ops_s ?_
   simp only [↓OF, NK, pickV_true]
   refine ops_s ?_
   simp only [↓OF, NK]
   refine ops_k ?_
   refine ops_k ?_
   refine ops_k ?_
   refine ops_s ?_
   simp only [↓OF, NK, pickV_true]
   exact hK _ _ _ (hQ _ (.refl _ _))
 by_cases c2 : ((dec m).length : Int) < (l.length : Int)
 · have hb : badN l m = true := by unfold badN; rw [dT c2, Bool.true_or, Bool.or_true]
   rw [hb] at hQ
   try rw [bx]
   refine ops_s ?_
   simp only [↓OF, NK, t0]
   refine ops_s ?_
   simp only [↓OF, NK, sv_len]
   refine ops_s ?_
   simp only [↓OF, NK, binV_lss, dF c1]
   refine ops_s ?_
   simp only [↓OF, NK]
   refine ops_s ?_
   simp only [↓OF, NK, t0]
   refine ops_s ?_
   simp only [↓OF, NK, sv_len]
   refine ops_s ?_
   simp only [↓OF, NK, t1]
   refine ops_s ?_
   simp only [NK]
   refine hf _ fun r h2 hq => ?_
   obtain ⟨rfl, k2⟩ := hq
   try rw [bx]
   refine ops_s ?_
   simp only [↓OF, NK, dl]
   refine ops_s ?_
   simp only [↓OF, NK, binV_gtr, dT c2]
   refine ops_s ?_
   simp only [↓OF, NK, pickV_false]
   refine ops_s ?_
   simp only [↓OF, NK]
   refine ops_k ?_
   refine ops_k ?_
   refine ops_k ?_
   refine ops_k ?_
   refine ops_k ?_
   refine ops_k ?_
   refine ops_k ?_
   refine ops_k ?_
   refine ops_s ?_
   simp only [↓OF, NK, pickV_true]
   refine ops_s ?_
   simp only [↓OF, NK]
   refine ops_k ?_
   refine ops_k ?_
   refine ops_k ?_
   refine ops_s ?_
   simp only [↓OF, NK, pickV_true]
   exact hK _ _ _ (hQ _ k2)
 obtain ⟨c, hc⟩ : ∃ c, l[0]? = some c := ⟨_, List.getElem?_eq_getElem (by omega)⟩
 have e0 : indexStr (sv l) (.int .i64 0) = some (bv c) := sv_ix hc
 have q := fun (b : Bool) => eql_48 5 b c
 have trim : ∀ h2, Keep nobody h h2 → (decide (l[0]? = some 48) && decide (1 < (l.length : Int))) = false → Sp (CF L (n + 4)) 104 [sv l, .string (strB [48, 49, 50, 51, 52, 53, 54, 55, 56, 57])] h2 fun r h' => (∃ x, r = sv x ∧ (x = [] ↔ l.all dig = true)) ∧ Keep nobody h2 h' := fun h2 _ _ => trim_law L (n + 1) (by omega) hl (fun e => by rw [e] at c1; exact c1 (by decide))
 have fin : ∀ h2, Keep nobody h h2 → (decide (l[0]? = some 48) && decide (1 < (l.length : Int))) = false → ∀ r h3, ((∃ x, r = sv x ∧ (x = [] ↔ l.all dig = true)) ∧ Keep nobody h2 h3) → ∃ b, (∀ cc, binV Tryz.prog .neq 9 cc r (.string (strB [])) = some (.bool b)) ∧ badN l m = b ∧ Keep nobody h h3 := fun h2 k2 hz r h3 hq => by
   obtain ⟨⟨x, rfl, hx⟩, k3⟩ := hq
   refine ⟨!decide (x = []), fun cc => sv_neq 9 cc x [], ?_, k2.then k3⟩
   unfold badN
   rw [dF c1, dF c2, hz]
   by_cases g : x = []
   · rw [dT g, hx.1 g]; rfl
   · rw [dF g]
     cases ha : l.all dig with
     | true => exact absurd (hx.2 ha) g
     | false => rfl
 by_cases c3 : c = 48
 · have hc48 : decide (l[0]? = some 48) = true := dT (by rw [hc, c3])
   by_cases c4 : (1 : Int) < (l.length : Int)
   · have hb : badN l m = true := by unfold badN; rw [hc48, dT c4, Bool.true_and, Bool.true_or, Bool.or_true, Bool.or_true]
     rw [hb] at hQ
     try rw [bx]
     refine ops_s ?_
     simp only [↓OF, NK, t0]
     refine ops_s ?_
     simp only [↓OF, NK, sv_len]
     refine ops_s ?_
     simp only [↓OF, NK, binV_lss, dF c1]
     refine ops_s ?_
     simp only [↓OF, NK]
     refine ops_s ?_
     simp only [↓OF, NK, t0]
     refine ops_s ?_
     simp only [↓OF, NK, sv_len]
     refine ops_s ?_
     simp only [↓OF, NK, t1]
     refine ops_s ?_
     simp only [NK]
     refine hf _ fun r h2 hq => ?_
     obtain ⟨rfl, k2⟩ := hq
     try rw [bx]
     refine ops_s ?_
     simp only [↓OF, NK, dl]
     refine ops_s ?_
     simp only [↓OF, NK, binV_gtr, dF c2]
     refine ops_s ?_
     simp only [↓OF, NK, pickV_false]
     refine ops_s ?_
     simp only [↓OF, NK]
     refine ops_s ?_
     simp only [↓OF, NK, t0]
     refine ops_s ?_
     simp only [↓OF, NK, e0]
     refine ops_s ?_
     simp only [↓OF, NK, q, dT c3]
     refine ops_s ?_
     simp only [↓OF, NK]
     refine ops_s ?_
     simp only [↓OF, NK, t0]
     refine ops_s ?_
     simp only [↓OF, NK, sv_len]
     refine ops_s ?_
     simp only [↓OF, NK, binV_gtr, dT c4]
     refine ops_s ?_
     simp only [↓OF, NK, pickV_true]
     refine ops_s ?_
     simp only [↓OF, NK, pickV_false]
     refine ops_s ?_
     simp only [↓OF, NK]
     refine ops_k ?_
     refine ops_k ?_
     refine ops_k ?_
     refine ops_s ?_
     simp only [↓OF, NK, pickV_true]
     exact hK _ _ _ (hQ _ k2)
   · have hz : (decide (l[0]? = some 48) && decide (1 < (l.length : Int))) = false := by rw [dF c4, Bool.and_false]
     try rw [bx]
     refine ops_s ?_
     simp only [↓OF, NK, t0]
     refine ops_s ?_
     simp only [↓OF, NK, sv_len]
     refine ops_s ?_
     simp only [↓OF, NK, binV_lss, dF c1]
     refine ops_s ?_
     simp only [↓OF, NK]
     refine ops_s ?_
     simp only [↓OF, NK, t0]
     refine ops_s ?_
     simp only [↓OF, NK, sv_len]
     refine ops_s ?_
     simp only [↓OF, NK, t1]
     refine ops_s ?_
     simp only [NK]
     refine hf _ fun r h2 hq => ?_
     obtain ⟨rfl, k2⟩ := hq
     try rw [bx]
     refine ops_s ?_
     simp only [↓OF, NK, dl]
     refine ops_s ?_
     simp only [↓OF, NK, binV_gtr, dF c2]
     refine ops_s ?_
     simp only [↓OF, NK, pickV_false]
     refine ops_s ?_
     simp only [↓OF, NK]
     refine ops_s ?_
     simp only [↓OF, NK, t0]
     refine ops_s ?_
     simp only [↓OF, NK, e0]
     refine ops_s ?_
     simp only [↓OF, NK, q, dT c3]
     refine ops_s ?_
     simp only [↓OF, NK]
     refine ops_s ?_
     simp only [↓OF, NK, t0]
     refine ops_s ?_
     simp only [↓OF, NK, sv_len]
     refine ops_s ?_
     simp only [↓OF, NK, binV_gtr, dF c4]
     refine ops_s ?_
     simp only [↓OF, NK, pickV_true]
     refine ops_s ?_
     simp only [↓OF, NK, pickV_false]
     refine ops_s ?_
     simp only [↓OF, NK]
     refine ops_s ?_
     simp only [↓OF, NK, t0]
     refine ops_s ?_
     simp only [NK]
     refine trim h2 k2 hz _ fun r h3 hq => ?_
     obtain ⟨b, hb, hbad, k3⟩ := fin h2 k2 hz r h3 hq
     rw [hbad] at hQ
     try rw [bx]
     refine ops_s ?_
     simp only [↓OF, NK, hb]
     refine ops_s ?_
     simp only [↓OF, NK, pickV_false]
     exact hK _ _ _ (hQ _ k3)
 · have hz : (decide (l[0]? = some 48) && decide (1 < (l.length : Int))) = false := by rw [dF (fun e => c3 (by rw [hc] at e; exact Option.some.inj e)), Bool.false_and]
   try rw [bx]
   refine ops_s ?_
   simp only [↓OF, NK, t0]
   refine ops_s ?_
   simp only [↓OF, NK, sv_len]
   refine ops_s ?_
   simp only [↓OF, NK, binV_lss, dF c1]
   refine ops_s ?_
   simp only [↓OF, NK]
   refine ops_s ?_
   simp only [↓OF, NK, t0]
   refine ops_s ?_
   simp only [↓OF, NK, sv_len]
   refine ops_s ?_
   simp only [↓OF, NK, t1]
   refine ops_s ?_
   simp only [NK]
   refine hf _ fun r h2 hq => ?_
   obtain ⟨rfl, k2⟩ := hq
   try rw [bx]
   refine ops_s ?_
   simp only [↓OF, NK, dl]
   refine ops_s ?_
   simp only [↓OF, NK, binV_gtr, dF c2]
   refine ops_s ?_
   simp only [↓OF, NK, pickV_false]
   refine ops_s ?_
   simp only [↓OF, NK]
   refine ops_s ?_
   simp only [↓OF, NK, t0]
   refine ops_s ?_
   simp only [↓OF, NK, e0]
   refine ops_s ?_
   simp only [↓OF, NK, q, dF c3]
   refine ops_s ?_
   simp only [↓OF, NK]
   refine ops_k ?_
   refine ops_k ?_
   refine ops_k ?_
   refine ops_s ?_
   simp only [↓OF, NK, pickV_false]
   refine ops_s ?_
   simp only [↓OF, NK, pickV_false]
   refine ops_s ?_
   simp only [↓OF, NK]
   refine ops_s ?_
   simp only [↓OF, NK, t0]
   refine ops_s ?_
   simp only [NK]
   refine trim h2 k2 hz _ fun r h3 hq => ?_
   obtain ⟨b, hb, hbad, k3⟩ := fin h2 k2 hz r h3 hq
   rw [hbad] at hQ
   try rw [bx]
   refine ops_s ?_
   simp only [↓OF, NK, hb]
   refine ops_s ?_
   simp only [↓OF, NK, pickV_false]
   exact hK _ _ _ (hQ _ k3)
def zN (l : List UInt8) (m : Nat) : Nat := if badN l m = true then 0 else if valN l 0 < 18446744073709551616 then valN l 0 else 18446744073709551615
theorem zN_up {l : List UInt8} {m : Nat} (hm : m < 18446744073709551616) (h : upN l m = true) : zN l m = (numN l).getD 0 ∧ zN l m ≤ m := by
 have hb : badN l m = false := by
   cases hb : badN l m with
   | false => rfl
   | true => rw [bad_up hb] at h; cases h
 obtain ⟨_, _, _, hv, hv'⟩ := good_num hm hb
 unfold upN at h
 unfold zN
 rw [if_neg (by rw [hb]; decide)]
 by_cases g : valN l 0 < 18446744073709551616
 · rw [hv g] at h ⊢
   rw [if_pos g]
   exact ⟨rfl, of_decide_eq_true h⟩
 · rw [hv' g] at h; cases h
theorem number_law (L n : Nat) (hL : 2000 ≤ L) {l : List UInt8} {m : Nat} (hm : m < 18446744073709551616) (hl : l.length < 1000) {e : Value} (he : ErrC e) {h0 : H} (hG : Has h0 7 (.ro [e])) (hP : Has h0 1 (.ro powC)) :
   Sp (CF L (n + 5)) 92 [sv l, .int .u64 (m : Int)] h0 fun r h' => r = .tuple #[.int .u64 (zN l m : Int), .bool (upN l m)] ∧ Keep nobody h0 h' := by
 refine Sp.body f92 (by simp) ?_
 unfold c92
 refine C.seq fun K hK => ?_
 simp only [seval, EV, r92_0]
 refine hK _ _ _ (C.seq (C.seq (reg92_1 L n hL hm hl hP (by simp only [seval, EV]) (by simp only [seval, EV]) fun h1 k1 => ?_)))
 cases hb : badN l m with
 | true =>
   have hu := bad_up hb
   refine C.ct (C.seq fun K hK => ?_)
   simp only [r92_2]
   exact hK _ _ _ (C.ret ⟨.inr rfl, _, rfl, by simp only [seval, EV, resOf, hu]; unfold zN; rw [if_pos hb]; rfl, k1⟩)
 | false =>
   obtain ⟨h1', h20, hd, hv, hv'⟩ := good_num hm hb
   refine C.cf <| C.skip (C.seq fun K hK => ?_)
   simp only [seval, EV, r92_3]
   refine par85 L n (by omega) he h1' h20 hd (hG.keep0 k1) _ fun r h2 hq => ?_
   obtain ⟨hr, k2⟩ := hq
   have t2 : ∀ (x y : Value) i, tupNth i (.tuple #[x, y]) = [x, y][i]? := fun x y i => tupNth_tuple i [x, y]
   by_cases g : valN l 0 < 18446744073709551616
   · rw [if_pos g] at hr
     subst hr
     have hn := hv g
     simp only [EV, t2]
     refine hK _ _ _ (C.seq fun K hK => ?_)
     have q0 : binV Tryz.prog .eql 77 true .nilIface .nilIface = some (.bool true) := by kernel_rfl
     have hu : upN l m = decide ((valN l 0 : Int) ≤ (m : Int)) := by
       unfold upN
       rw [hn]
       show decide (valN l 0 ≤ m) = _
       by_cases c : valN l 0 ≤ m
       · rw [dT c, dT (by omega)]
       · rw [dF c, dF (by omega)]
     simp only [seval, ↓opStep_eq, ↓EW, EV, r92_4, q0]
     refine hK _ _ _ (C.ret ⟨.inr rfl, _, rfl, by simp only [seval, EV, resOf, hu]; unfold zN; rw [if_neg (by rw [hb]; decide), if_pos g], k1.then k2⟩)
   · rw [if_neg g] at hr
     obtain ⟨b, rfl⟩ := hr
     have hn := hv' g
     have hu : upN l m = false := by unfold upN; rw [hn]; rfl
     simp only [EV, t2]
     refine hK _ _ _ (C.seq fun K hK => ?_)
     have q0 : binV Tryz.prog .eql 77 true (.iface 154 (.pointer (some ⟨b, 0, none⟩))) .nilIface = some (.bool false) := by kernel_rfl
     simp only [seval, ↓opStep_eq, ↓EW, EV, r92_4, q0]
     exact hK _ _ _ (C.ret ⟨.inr rfl, _, rfl, by simp only [seval, EV, resOf, hu]; unfold zN; rw [if_neg (by rw [hb]; decide), if_neg g]; rfl, k1.then k2⟩)
end Go.Proofs.YtilpiiafjehbnaaGreatDoor
