import Derived.Test.YtilpiiafjehbnaaGreatDoorZrA
set_option linter.unusedSimpArgs false
set_option linter.unusedVariables false
namespace Go.Proofs.YtilpiiafjehbnaaGreatDoor
open Go.Ev
theorem copy_all {h : H} {b : Nat} {cs : List Value} {ty : Option TypeId} {l : List UInt8} (hb : Has h b (.rw cs ty)) (hl : cs.length = l.length) (hp : l ≠ []) :
   copyV 1 h (.slice (some ⟨b, 0, none⟩) l.length l.length) (sv l) = some (.int .i64 (l.length : Int), h.put b (.rw (l.map bv) ty)) := by
 have mm : Nat.min l.length l.length = l.length := Nat.min_self _
 have e1 : lenV (sv l) = some l.length := rfl
 have e2 : firstV h 1 (Nat.min l.length l.length) (sv l) = some (l.map bv) := by
   show some ((l.take (Nat.min l.length l.length)).map bv) = _
   rw [mm, List.take_of_length_le (Nat.le_refl _)]
 rw [mm] at e2
 have e3 : h.write b 0 (l.map bv) = some (h.put b (.rw (l.map bv) ty)) := by
   simp only [H.write, ones_bv, hb.2]
   rw [putAt_zero _ _ (by simp [hl])]
 simp only [copyV, e1, mm, e2]
 obtain ⟨x, r, hx⟩ : ∃ x r, l.map bv = x :: r := by
   rcases l with _ | ⟨x, r⟩
   · exact absurd rfl hp
   · exact ⟨_, _, rfl⟩
 rw [hx] at e3 ⊢
 simp only [copyTo, e3, withV_some]
 rfl
theorem str_all {h : H} {b : Nat} {l : List UInt8} (hb : Has h b (.rw (l.map bv) (some 5))) (hp : l ≠ []) (h2 : l.length ≤ 1000) :
   strOf 5 h (.pointer (some ⟨b, 0, none⟩)) (.int .i64 (l.length : Int)) = some (sv l, h.put b (.ro (l.map bv))) := by
 obtain ⟨n, hn⟩ : ∃ n, l.length = n + 1 := ⟨l.length - 1, by have := List.length_pos_iff.2 hp; omega⟩
 have e4 : takeN (l.map bv) (n + 1) = some (l.map bv) := by
   have := takeN_eq (l.map bv) (n + 1) (by simp [hn])
   rw [this, List.take_of_length_le (by simp [hn])]
 have e5 : bytesIn (l.map bv) = some l := by
   have : ∀ l : List UInt8, bytesIn (l.map bv) = some l := fun l => by
     induction l with
     | nil => rfl
     | cons x r ih =>
       show (match Nat.ble x.toNat 255 with | true => (match bytesIn (r.map bv) with | some t => some (UInt8.ofNat x.toNat :: t) | none => none) | false => none) = _
       rw [Nat.ble_eq_true_of_le (by have := x.toNat_lt; omega), ih]
       simp
   exact this l
 rw [hn]
 show (match Nat.ble (n + 1) 9223372036854775807 with | true => strAt 5 h (n + 1) (.pointer (some ⟨b, 0, none⟩)) | false => none) = _
 rw [Nat.ble_eq_true_of_le (by omega)]
 simp only [strAt, hb.2]
 show (match Nat.beq 5 5, takeN (l.map bv) (n + 1) with | true, some l' => (match bytesIn l' with | some bs => some (Value.string ⟨bs.toArray⟩, h.put b (.ro (l.map bv))) | none => none) | _, _ => none) = _
 rw [e4]
 show (match bytesIn (l.map bv) with | some bs => some (Value.string ⟨bs.toArray⟩, h.put b (.ro (l.map bv))) | none => none) = _
 rw [e5]; rfl
theorem clone_law (L n : Nat) {l : List UInt8} (hp : l ≠ []) (h2 : l.length ≤ 1000) {h0 : H} :
   Sp (CF L (n + 1)) 135 [sv l] h0 fun r h' => r = sv l ∧ Keep nobody h0 h' := by
 refine Sp.body f135 (by simp) ?_
 unfold c135
 have hpos := List.length_pos_iff.2 hp
 refine C.seq fun K hK => ?_
 simp only [EV, r135_0]
 refine hK .norm _ _ (C.seq (C.seq fun K hK => ?_))
 have g : ¬ (l.length : Int) = 0 := by omega
 simp only [seval, EV, r135_1, sv_len, dF g]
 refine hK .norm _ _ (C.cf <| C.skip (C.seq fun K hK => ?_))
 have mk : ∀ b, mkSlice 5 [(.int .u8 (0))] 1 b (.int .i64 (l.length : Int)) (.int .i64 (l.length : Int)) = some (.rw (List.replicate l.length (.int .u8 0)) (some 5), .slice (some ⟨b, 0, none⟩) l.length l.length) := fun b => by
   simp only [mkSlice, asNat_nat]
   rw [Nat.ble_eq_true_of_le (Nat.le_refl _), Nat.ble_eq_true_of_le (show 1 * l.length ≤ 281474976710656 by omega), Nat.ble_eq_true_of_le (show l.length ≤ 9223372036854775807 by omega), repl_one]
   rfl
 simp only [seval, EV, r135_3, sv_len, mk]
 have b1 := Has.new h0 (.rw (List.replicate l.length (.int .u8 0)) (some 5))
 have k1 := Keep.new h0 (.rw (List.replicate l.length (.int .u8 0)) (some 5))
 generalize h0.new (.rw (List.replicate l.length (.int .u8 0)) (some 5)) = h1 at *
 refine hK .norm _ _ (C.seq fun K hK => ?_)
 have e := copy_all b1 (by simp) hp
 have b2 := Has.put (x := .rw (l.map bv) (some 5)) b1.1
 have k2 := Keep.put h1 h0.next (.rw (l.map bv) (some 5))
 have k12 := k1.trans (S' := (· = h0.next)) k2 fun k hk e => by omega
 simp only [seval, EV, r135_4, e]
 generalize h1.put h0.next (.rw (l.map bv) (some 5)) = h2' at *
 refine hK .norm _ _ (C.seq fun K hK => ?_)
 have ix : indexSl 1 (.slice (some ⟨h0.next, 0, none⟩) l.length l.length) (.int .i64 0) = some (.pointer (some ⟨h0.next, 0, none⟩)) := by
   simp only [indexSl, asNat_zero, addOff]
   rw [Nat.ble_eq_true_of_le (show 0 + 1 ≤ l.length by omega)]
 have e2 := str_all b2 hp h2
 have k3 := Keep.put h2' h0.next (.ro (l.map bv))
 have k13 := k12.trans (S' := (· = h0.next)) k3 fun k hk e => by omega
 simp only [seval, EV, r135_5, ix, e2, lenSl_slice]
 refine hK .norm _ _ (C.ret ⟨.inr rfl, _, rfl, ?_, k13⟩)
 simp only [seval, EV, resOf]
structure ErrC (e : Value) : Prop where
 one : e.cells = #[e]
 ones : ones [e] = true
 eq : veq 64 e e = true
theorem range_law (L n : Nat) {l : List UInt8} {e a : Value} (he : ErrC e) (ha : a.cells = #[a]) (hp : l ≠ []) (h2 : l.length ≤ 1000) {h0 : H} (hG : Has h0 7 (.ro [e])) :
   Sp (CF L (n + 2)) 130 [a, sv l] h0 fun r h' => (∃ b, r = .pointer (some ⟨b, 0, none⟩)) ∧ Keep nobody h0 h' := by
 refine Sp.body f130 (by simp) ?_
 unfold c130
 refine C.seq fun K hK => ?_
 simp only [seval, EV, r130_0]
 refine hK .norm _ _ (C.seq fun K hK => ?_)
 have kn : Keep nobody h0 ⟨h0.objs, h0.next + 7⟩ := ⟨by show h0.next ≤ h0.next + 7; omega, fun _ _ _ => rfl⟩
 have ld := loadOne_has (s := none) (o := 0) (hG.keep0 kn) rfl
 simp only [seval, ↓EW, EV, r130_1, ld]
 refine clone_law L n hp h2 _ fun r h3 hr => ?_
 obtain ⟨rfl, k2⟩ := hr
 have ld2 := loadOne_has (s := none) (o := 0) ((hG.keep0 kn).keep0 k2) rfl
 have fl : aggO (fill [(.string (strB [])), (.string (strB [])), .nilIface] (plc [(0, 1), (1, 1), (2, 1)]) [(0, a), (1, sv l), (2, e)]) = some (.agg #[a, sv l, e]) := by
   simp only [fill, plc, nth, ha, sv_cells, he.one, putAt]
   rfl
 simp only [EV, ld2, hO, he.eq, fl, Bool.and_true]
 refine hK _ _ _ (C.ret ⟨.inr rfl, _, rfl, ⟨h0.next + 5, by simp only [seval, EV, resOf]⟩, ?_⟩)
 exact (kn.then k2).trans (S' := (· = h0.next + 5)) (Keep.put _ _ _) fun k hk e => by omega
theorem toError_law (L n : Nat) {l : List UInt8} {e a x y : Value} (he : ErrC e) (ha : a.cells = #[a]) (hp : l ≠ []) (h2 : l.length ≤ 1000) {h0 : H} (hG : Has h0 7 (.ro [e])) :
   Sp (CF L (n + 3)) 121 [a, sv l, x, y, .iface 152 (.int .i64 1)] h0 fun r h' => (∃ b, r = .iface 154 (.pointer (some ⟨b, 0, none⟩))) ∧ Keep nobody h0 h' := by
 refine Sp.body f121 (by simp) ?_
 unfold c121
 refine C.seq fun K hK => ?_
 simp only [seval, EV, r121_0]
 refine hK .norm _ _ (C.seq (C.seq fun K hK => ?_))
 simp only [seval, EV, r121_1]
 refine hK .norm _ _ (C.block (C.seq fun K hK => ?_))
 have e1 : binV Tryz.prog .eql 77 false (.iface 152 (.int .i64 1)) (.iface 152 (.int .i64 2)) = some (.bool false) := by kernel_rfl
 have e2 : binV Tryz.prog .eql 77 false (.iface 152 (.int .i64 1)) (.iface 152 (.int .i64 1)) = some (.bool true) := by kernel_rfl
 simp only [seval, ↓EW, EV, r121_2, e1]
 refine hK .norm _ _ (C.cf <| C.seq fun K hK => ?_)
 simp only [seval, ↓EW, EV, r121_4, e2]
 refine hK .norm _ _ (C.ct (C.seq fun K hK => ?_))
 simp only [seval, ↓EW, EV, r121_5]
 refine range_law L n he ha hp h2 hG _ fun r h3 hr => ?_
 obtain ⟨⟨b, rfl⟩, k2⟩ := hr
 refine hK _ _ _ (C.ret ⟨.inr rfl, _, rfl, ⟨b, by simp only [seval, EV, resOf]⟩, k2⟩)
def parV (l : List UInt8) : Value := if valN l 0 < 18446744073709551616 then .tuple #[.int .u64 (valN l 0 : Nat), .nilIface] else .tuple #[.int .u64 18446744073709551615, .iface 152 (.int .i64 1)]
theorem par95 (L n : Nat) {l : List UInt8} (hL : 1000 ≤ L) (h1 : 1 ≤ l.length) (h20 : l.length ≤ 20) (hd : l.all dig = true) {h0 : H} :
   Sp (CF L (n + 1)) 120 [sv l, .int .i64 10, .int .i64 64] h0 fun r h' => r = parV l ∧ Keep nobody h0 h' := by
 refine Sp.body f120 (by simp) ?_
 unfold c120
 refine C.seq fun K hK => ?_
 simp only [seval, EV, r120_0]
 have e0 : ∀ c, binV Tryz.prog .eql 9 c (sv l) (.string (strB [])) = some (.bool (decide (l = []))) := fun c => sv_eql 9 c l []
 have g0 : ¬ l = [] := fun e => by rw [e] at h1; simp at h1
 refine hK .norm _ _ (C.seq (C.seq fun K hK => ?_))
 simp only [seval, EV, r120_1, e0, dF g0]
 refine hK .norm _ _ (C.cf <| C.skip (C.seq fun K hK => ?_))
 have d1 : decide ((10 : Int) = 0) = false := rfl
 have d2 : decide ((2 : Int) ≤ 10) = true := rfl
 have d3 : decide ((10 : Int) ≤ 36) = true := rfl
 have d4 : decide ((64 : Int) = 0) = false := rfl
 have d5 : decide ((64 : Int) < 0) = false := rfl
 have d6 : decide ((64 : Int) < 64) = false := rfl
 have d7 : decide ((10 : Int) = 10) = true := rfl
 simp only [seval, EV, r120_3]
 refine hK .norm _ _ (C.seq fun K hK => ?_)
 simp only [seval, EV, r120_4]
 refine hK .norm _ _ (C.seq (C.block (C.seq fun K hK => ?_)))
 simp only [seval, ↓EW, EV, r120_6]
 refine hK .norm _ _ (C.ct (C.skip (C.seq (C.seq fun K hK => ?_))))
 simp only [seval, EV, r120_21]
 refine hK .norm _ _ (C.cf <| C.seq fun K hK => ?_)
 simp only [seval, ↓EW, EV, r120_23]
 refine hK .norm _ _ (C.cf <| C.skip (C.seq fun K hK => ?_))
 simp only [r120_25]
 refine hK .norm _ _ (C.seq (C.seq fun K hK => ?_))
 simp only [seval, EV, r120_26]
 refine hK .norm _ _ (C.block (C.seq fun K hK => ?_))
 simp only [seval, EV, r120_28]
 refine hK .norm _ _ (C.ct (fun K hK => ?_))
 simp only [r120_29]
 refine hK .norm _ _ (C.seq fun K hK => ?_)
 have t64 : toInt .u64 (.int .i64 64) = some (.int .u64 64) := rfl
 have s64 : binV Tryz.prog .shl 24 true (.int .u64 1) (.int .u64 64) = some (.int .u64 0) := by kernel_rfl
 have m64 : binV Tryz.prog .sub 24 true (.int .u64 0) (.int .u64 1) = some (.int .u64 18446744073709551615) := by kernel_rfl
 simp only [seval, r120_32, tg_set, t64, kO_some, s64, m64]
 refine hK .norm _ _ (C.seq fun K hK => ?_)
 simp only [r120_33]
 refine hK .norm _ _ (C.seq fun K hK => ?_)
 simp only [r120_34]
 refine hK .norm _ _ (C.seq (C.seq fun K hK => ?_))
 have mb : ∀ b, mkBytes 5 b (sv l) = some (.op (l.map bv) 1 (some 5), .slice (some ⟨b, 0, none⟩) l.length (opCap l.length 1)) := fun b => rfl
 have o1 := opCap_open l.length
 have o2 := opCap_size l.length
 generalize opCap l.length 1 = cap at mb o1 o2
 simp only [seval, EV, r120_35, mb, lenSl_slice]
 have k1 := Keep.new h0 (.op (l.map bv) 1 (some 5))
 have hm : Rd (h0.new (.op (l.map bv) 1 (some 5))) (.slice (some ⟨h0.next, 0, none⟩) l.length cap) l := rd_of_mine (.op _ _ _ (some 5) o1 o2 (Has.new _ _)) (by omega)
 generalize h0.new (.op (l.map bv) 1 (some 5)) = h1 at *
 generalize Value.slice (some ⟨h0.next, 0, none⟩) l.length cap = V at *
 refine hK .norm _ _ (C.block ?_)
 have key : ∀ tm, tg tm 1 = .int .i64 10 → tg tm 8 = .bool false → tg tm 10 = .int .u64 1844674407370955162 → tg tm 11 = .int .u64 18446744073709551615 → tg tm 12 = .bool false → tg tm 13 = .int .u64 0 → tg tm 99 = V → tg tm 100 = .int .i64 (l.length : Int) → tg tm 101 = .int .i64 0 →
     C (loopB l120_56) (CF L n) L tm h1 fun e tm' h' => h' = h1 ∧ (e = .exit 3 ∧ tg tm' 12 = .bool false ∧ tg tm' 13 = .int .u64 (valN l 0 : Nat) ∧ valN l 0 < 18446744073709551616 ∨ e = .ret ∧ tg tm' 6 = .int .u64 18446744073709551615 ∧ tg tm' 7 = .iface 152 (.int .i64 1) ∧ ¬ valN l 0 < 18446744073709551616) := fun tm t1 t8 t10 t11 t12 t13 t99 t100 t101 => by
   refine C.loop (L := L) (fun k tm h' => ∃ pos : Nat, k = l.length - pos ∧ pos ≤ l.length ∧ tg tm 1 = .int .i64 10 ∧ tg tm 8 = .bool false ∧ tg tm 10 = .int .u64 1844674407370955162 ∧ tg tm 11 = .int .u64 18446744073709551615 ∧ tg tm 12 = .bool false ∧ tg tm 13 = .int .u64 (valN (l.take pos) 0 : Nat) ∧ tg tm 99 = V ∧ tg tm 100 = .int .i64 (l.length : Int) ∧ tg tm 101 = .int .i64 (pos : Int) ∧ valN (l.take pos) 0 < 18446744073709551616 ∧ h' = h1) l.length (by omega)
     ⟨0, rfl, Nat.zero_le _, t1, t8, t10, t11, t12, by rw [t13]; rfl, t99, t100, t101, by simp [valN], rfl⟩ ?_
   rintro k tm h' ⟨pos, rfl, hp, t1, t8, t10, t11, t12, t13, t99, t100, t101, hv, rfl⟩
   refine C.seq fun K hK => ?_
   by_cases g : pos < l.length
   · have g' : (pos : Int) < (l.length : Int) := by omega
     obtain ⟨c, hc⟩ : ∃ c, l[pos]? = some c := ⟨_, List.getElem?_eq_getElem g⟩
     obtain ⟨b, o, ix, ld, _⟩ := hm.at hc
     have hdc := List.all_eq_true.1 hd c (List.mem_of_getElem? hc)
     obtain ⟨c1, c2⟩ := dig_of hdc
     simp only [EV, r120_36, t100, t101, dT g']
     refine hK _ _ _ (C.seq (C.ct (C.skip (C.seq (C.block (C.seq fun K hK => ?_))))))
     simp only [seval, EV, r120_37, t99, t101, ix, ld]
     refine hK _ _ _ (C.seq fun K hK => ?_)
     simp only [r120_38]
     refine hK _ _ _ (C.seq (C.block (C.seq fun K hK => ?_)))
     have bve : bv c = .int .u8 (c.toNat : Int) := rfl
     have n95 : ¬ ((c.toNat : Int) = 95) := by omega
     simp only [seval, EV, r120_40, bve, dF n95]
     refine hK _ _ _ (C.cf <| C.seq fun K hK => ?_)
     have l948 : (48 : Int) ≤ (c.toNat : Int) := by omega
     have l44 : (c.toNat : Int) ≤ 57 := by omega
     simp only [seval, ↓EW, EV, r120_42, dT l948, dT l44]
     refine hK _ _ _ (C.ct (fun K hK => ?_))
     have w1 : IntKind.u8.wrap ((c.toNat : Int) - 48) = ((c.toNat - 48 : Nat) : Int) := by
       rw [show (c.toNat : Int) - 48 = ((c.toNat - 48 : Nat) : Int) by omega]
       exact wrap_eq _ _ (by show (0 : Int) ≤ _; omega) (by show _ ≤ (255 : Int); omega)
     simp only [seval, EV, r120_43, w1]
     have hd9 : c.toNat - 48 ≤ 9 := by omega
     have hnext := valN_take hc
     generalize hdv : c.toNat - 48 = d at *
     refine hK _ _ _ (C.seq (C.seq fun K hK => ?_))
     have t10u : toInt .u8 (.int .i64 10) = some (.int .u8 10) := rfl
     have n10 : ¬ ((10 : Int) ≤ (d : Int)) := by omega
     simp only [seval, EV, r120_46, t1, t10u, dF n10]
     refine hK _ _ _ (C.cf <| C.skip (C.seq (C.seq fun K hK => ?_)))
     generalize ha : valN (l.take pos) 0 = a at *
     have hpart := valN_part l (pos + 1)
     rw [hnext] at hpart
     by_cases go : (1844674407370955162 : Int) ≤ (a : Int)
     · simp only [seval, EV, r120_48, t10, t13, dT go]
       refine hK _ _ _ (C.ct (C.seq fun K hK => ?_))
       simp only [seval, ↓EW, EV, r120_49, t11]
       refine hK _ _ _ (C.ret ⟨rfl, .inr ⟨rfl, by simp only [seval, EV], by simp only [seval, EV], by omega⟩⟩)
     simp only [seval, EV, r120_48, t10, t13, dF go]
     refine hK _ _ _ (C.cf <| C.skip (C.seq fun K hK => ?_))
     have t10v : toInt .u64 (.int .i64 10) = some (.int .u64 10) := rfl
     have w5 : IntKind.u64.wrap ((a : Int) * 10) = ((10 * a : Nat) : Int) := by
       rw [show (a : Int) * 10 = ((10 * a : Nat) : Int) by omega]; exact wrap_u64 _ (by omega)
     simp only [seval, EV, r120_50, t1, t13, t10v, w5]
     refine hK _ _ _ (C.seq fun K hK => ?_)
     have td : toInt .u64 (.int .u8 (d : Int)) = some (.int .u64 (d : Int)) := by rw [toInt_int, wrap_u64 _ (by omega)]
     by_cases gv : 10 * a + d < 18446744073709551616
     · have w6 : IntKind.u64.wrap (((10 * a : Nat) : Int) + (d : Int)) = ((10 * a + d : Nat) : Int) := by
         rw [show ((10 * a : Nat) : Int) + (d : Int) = ((10 * a + d : Nat) : Int) by omega]; exact wrap_u64 _ gv
       have q1 : ¬ (((10 * a + d : Nat) : Int) < ((10 * a : Nat) : Int)) := by omega
       have q2 : ¬ ((18446744073709551615 : Int) < ((10 * a + d : Nat) : Int)) := by omega
       simp only [seval, EV, r120_51, td, w6]
       refine hK _ _ _ (C.seq (C.seq fun K hK => ?_))
       simp only [seval, ↓opStep_eq, ↓EW, EV, r120_52, t11, dF q1, dF q2]
       refine hK _ _ _ (C.cf <| C.skip fun K hK => ?_)
       simp only [seval, EV, r120_54]
       refine hK _ _ _ fun K hK => ?_
       have w7 : IntKind.i64.wrap ((pos : Int) + 1) = ((pos + 1 : Nat) : Int) := by
         rw [show (pos : Int) + 1 = ((pos + 1 : Nat) : Int) by omega]; exact wrap_lt _ (by omega)
       simp only [seval, EV, r120_55, t101, w7]
       exact hK _ _ _ ⟨l.length - (pos + 1), by omega, pos + 1, rfl, by omega, by simp only [seval, EV, t1], by simp only [seval, EV, t8], by simp only [seval, EV, t10], by simp only [seval, EV, t11], by simp only [seval, EV, t12], by simp only [seval, EV]; rw [hnext], by simp only [seval, EV, t99], by simp only [seval, EV, t100], by simp only [seval, EV], by rw [hnext]; omega, rfl⟩
     · have w6 : IntKind.u64.wrap (((10 * a : Nat) : Int) + (d : Int)) = ((10 * a + d - 18446744073709551616 : Nat) : Int) := by
         rw [show ((10 * a : Nat) : Int) + (d : Int) = ((10 * a + d : Nat) : Int) by omega]
         show ((10 * a + d : Nat) : Int) % 18446744073709551616 = _
         omega
       have q1 : ((10 * a + d - 18446744073709551616 : Nat) : Int) < ((10 * a : Nat) : Int) := by omega
       simp only [seval, EV, r120_51, td, w6]
       refine hK _ _ _ (C.seq (C.seq fun K hK => ?_))
       simp only [seval, ↓opStep_eq, ↓EW, EV, r120_52, dT q1]
       refine hK _ _ _ (C.ct (C.seq fun K hK => ?_))
       simp only [seval, ↓EW, EV, r120_53, t11]
       refine hK _ _ _ (C.ret ⟨rfl, .inr ⟨rfl, by simp only [seval, EV], by simp only [seval, EV], by omega⟩⟩)
   · have g' : ¬ (pos : Int) < (l.length : Int) := by omega
     rw [List.take_of_length_le (by omega)] at hv t13
     simp only [EV, r120_36, t100, t101, dF g']
     exact hK _ _ _ (C.seq (C.cf <| C.exit ⟨rfl, .inl ⟨rfl, by simp only [seval, EV, t12], by simp only [seval, EV, t13], hv⟩⟩))
 refine (key _ (by simp only [seval, EV]) (by simp only [seval, EV]) (by simp only [seval, EV]) (by simp only [seval, EV]) (by simp only [seval, EV]) (by simp only [seval, EV]) (by simp only [seval, EV]) (by simp only [seval, EV]) (by simp only [seval, EV])).mono ?_
 rintro e tm' h' ⟨rfl, (⟨rfl, t12, t13, hv⟩ | ⟨rfl, t6, t7, hv⟩)⟩
 · show if 3 = 3 then _ else _
   rw [if_pos rfl]
   refine C.seq (C.seq fun K hK => ?_)
   simp only [seval, ↓opStep_eq, ↓EW, EV, r120_56, t12]
   refine hK _ _ _ (C.cf <| C.skip (C.seq fun K hK => ?_))
   simp only [seval, EV, r120_58, t13]
   refine hK _ _ _ (C.ret ⟨.inr rfl, _, rfl, ?_, k1⟩)
   unfold parV
   rw [if_pos hv]
   simp only [seval, EV, resOf]
 · refine ⟨.inr rfl, _, rfl, ?_, k1⟩
   unfold parV
   rw [if_neg hv]
   simp only [resOf, t6, t7]
theorem par85 (L n : Nat) {l : List UInt8} {e : Value} (hL : 1000 ≤ L) (he : ErrC e) (h1 : 1 ≤ l.length) (h20 : l.length ≤ 20) (hd : l.all dig = true) {h0 : H} (hG : Has h0 7 (.ro [e])) :
   Sp (CF L (n + 4)) 105 [sv l, .int .i64 10, .int .i64 64] h0 fun r h' => (if valN l 0 < 18446744073709551616 then r = .tuple #[.int .u64 (valN l 0 : Nat), .nilIface] else ∃ b, r = .tuple #[.int .u64 18446744073709551615, .iface 154 (.pointer (some ⟨b, 0, none⟩))]) ∧ Keep nobody h0 h' := by
 have hp : l ≠ [] := fun e => by rw [e] at h1; simp at h1
 refine Sp.body f105 (by simp) ?_
 unfold c105
 refine C.seq fun K hK => ?_
 simp only [seval, EV, r105_0]
 refine hK .norm _ _ (C.seq fun K hK => ?_)
 simp only [seval, EV, r105_1]
 refine par95 L (n + 2) hL h1 h20 hd _ fun r h2 hr => ?_
 obtain ⟨rfl, k1⟩ := hr
 unfold parV
 by_cases g : valN l 0 < 18446744073709551616
 · rw [if_pos g]
   have e : ∀ i, tupNth i (.tuple #[.int .u64 (valN l 0 : Nat), .nilIface]) = [Value.int .u64 (valN l 0 : Nat), .nilIface][i]? := fun i => tupNth_tuple i _
   simp only [EV, e]
   refine hK _ _ _ (C.seq (C.seq fun K hK => ?_))
   have q : binV Tryz.prog .neq 77 true .nilIface .nilIface = some (.bool false) := by kernel_rfl
   simp only [seval, EV, r105_2, q]
   refine hK _ _ _ (C.cf <| C.skip (C.seq fun K hK => ?_))
   simp only [seval, EV, r105_4]
   refine hK _ _ _ (C.ret ⟨.inr rfl, _, rfl, ?_, k1⟩)
   rw [if_pos g]
   simp only [seval, EV, resOf]
 · rw [if_neg g]
   have e : ∀ i, tupNth i (.tuple #[.int .u64 18446744073709551615, .iface 152 (.int .i64 1)]) = [Value.int .u64 18446744073709551615, .iface 152 (.int .i64 1)][i]? := fun i => tupNth_tuple i _
   simp only [EV, e]
   refine hK _ _ _ (C.seq (C.seq fun K hK => ?_))
   have q : binV Tryz.prog .neq 77 true (.iface 152 (.int .i64 1)) .nilIface = some (.bool true) := by kernel_rfl
   simp only [seval, EV, r105_2, q]
   refine hK _ _ _ (C.ct (C.seq fun K hK => ?_))
   simp only [seval, EV, r105_3]
   refine toError_law L n he rfl hp (by omega) (hG.keep0 k1) _ fun r h3 hr => ?_
   obtain ⟨⟨b, rfl⟩, k2⟩ := hr
   refine hK _ _ _ (C.ret ⟨.inr rfl, _, rfl, ?_, k1.then k2⟩)
   rw [if_neg g]
   refine ⟨b, ?_⟩
   simp only [seval, EV, resOf]
theorem Strs.load {h : H} {v : Value} {l : List (List UInt8)} (a : Strs h v l) {i : Nat} {p : List UInt8} (hi : l[i]? = some p) :
   ∃ b o, indexSl 1 v (.int .i64 (i : Int)) = some (.pointer (some ⟨b, o, none⟩)) ∧ ∀ h', Strs h' v l → ∀ s, loadOne h' (.pointer (some ⟨b, o, s⟩)) = some (sv p) := by
 obtain ⟨b, o, e1, e2⟩ := a.at hi
 refine ⟨b, o, e1, fun h' a' s => ?_⟩
 obtain ⟨b', o', e1', e2'⟩ := a'.at hi
 rw [e1] at e1'
 cases e1'
 exact e2' s
section
variable {call : CallT} {L : Nat} {tm : T Value} {h : H} {K : KE} {v : Value} {n : Nat} {w0 w1 : List UInt8} {b0 o0 b1 o1 : Nat}
end
end Go.Proofs.YtilpiiafjehbnaaGreatDoor
