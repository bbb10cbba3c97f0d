import Derived.Test.YthofbmfcpfibdaaDoorWrA
set_option linter.unusedSimpArgs false
set_option linter.unusedVariables false
namespace Go.Proofs.YthofbmfcpfibdaaDoor
open Go.Ev

/-! ### strconv.ParseUint, of digits -/
theorem copy_all {h : H} {b : Nat} {cs : List Value} {ty : Option TypeId} {l : List UInt8} (hb : Has h b (.rw cs ty)) (hl : cs.length = l.length) (hp : l ≠ []) :
    copyV 1 h (.slice (some ⟨b, 0, none⟩) l.length l.length) (sv l) = some (.int .i64 (l.length : Int), h.put b (.rw (l.map bv) ty)) := by
  have mm : Nat.min l.length l.length = l.length := Nat.min_self _
  have e1 : lenV (sv l) = some l.length := rfl
  have e2 : firstV h 1 (Nat.min l.length l.length) (sv l) = some (l.map bv) := by
    show some ((l.take (Nat.min l.length l.length)).map bv) = _
    rw [mm, List.take_of_length_le (Nat.le_refl _)]
  rw [mm] at e2
  have e3 : h.write b 0 (l.map bv) = some (h.put b (.rw (l.map bv) ty)) := by
    simp only [H.write, ones_bv, hb.2]
    rw [putAt_zero _ _ (by simp [hl])]
  simp only [copyV, e1, mm, e2]
  obtain ⟨x, r, hx⟩ : ∃ x r, l.map bv = x :: r := by
    rcases l with _ | ⟨x, r⟩
    · exact absurd rfl hp
    · exact ⟨_, _, rfl⟩
  rw [hx] at e3 ⊢
  simp only [copyTo, e3, withV_some]
  rfl
theorem str_all {h : H} {b : Nat} {l : List UInt8} (hb : Has h b (.rw (l.map bv) (some 5))) (hp : l ≠ []) (h2 : l.length ≤ 1000) :
    strOf 5 h (.pointer (some ⟨b, 0, none⟩)) (.int .i64 (l.length : Int)) = some (sv l, h.put b (.ro (l.map bv))) := by
  obtain ⟨n, hn⟩ : ∃ n, l.length = n + 1 := ⟨l.length - 1, by have := List.length_pos_iff.2 hp; omega⟩
  have e4 : takeN (l.map bv) (n + 1) = some (l.map bv) := by
    have := takeN_eq (l.map bv) (n + 1) (by simp [hn])
    rw [this, List.take_of_length_le (by simp [hn])]
  have e5 : bytesIn (l.map bv) = some l := by
    have : ∀ l : List UInt8, bytesIn (l.map bv) = some l := fun l => by
      induction l with
      | nil => rfl
      | cons x r ih =>
        show (match Nat.ble x.toNat 255 with | true => (match bytesIn (r.map bv) with | some t => some (UInt8.ofNat x.toNat :: t) | none => none) | false => none) = _
        rw [Nat.ble_eq_true_of_le (by have := x.toNat_lt; omega), ih]
        simp
    exact this l
  rw [hn]
  show (match Nat.ble (n + 1) 9223372036854775807 with | true => strAt 5 h (n + 1) (.pointer (some ⟨b, 0, none⟩)) | false => none) = _
  rw [Nat.ble_eq_true_of_le (by omega)]
  simp only [strAt, hb.2]
  show (match Nat.beq 5 5, takeN (l.map bv) (n + 1) with | true, some l' => (match bytesIn l' with | some bs => some (Value.string ⟨bs.toArray⟩, h.put b (.ro (l.map bv))) | none => none) | _, _ => none) = _
  rw [e4]
  show (match bytesIn (l.map bv) with | some bs => some (Value.string ⟨bs.toArray⟩, h.put b (.ro (l.map bv))) | none => none) = _
  rw [e5]; rfl
theorem clone_law (L n : Nat) {l : List UInt8} (hp : l ≠ []) (h2 : l.length ≤ 1000) {h0 : H} :
    Sp (CF L (n + 1)) 112 [sv l] h0 fun r h' => r = sv l ∧ Keep nobody h0 h' := by
  refine Sp.body f112 (by simp) ?_
  unfold c112
  have hpos := List.length_pos_iff.2 hp
  refine C.seq fun K hK => ?_
  simp only [EV, r112_0]
  refine hK .norm _ _ (C.seq (C.seq fun K hK => ?_))
  have g : ¬ (l.length : Int) = 0 := by omega
  simp only [↓reduceIte, EV, Nat.reduceEqDiff, r112_1, sv_len, decide_eq_false g]
  refine hK .norm _ _ (C.cond false (by simp only [↓reduceIte, EV]) (fun g => by cases g) fun _ => C.skip (C.seq fun K hK => ?_))
  have mk : ∀ b, mkSlice 5 [(.int .u8 (0))] 1 b (.int .i64 (l.length : Int)) (.int .i64 (l.length : Int)) = some (.rw (List.replicate l.length (.int .u8 0)) (some 5), .slice (some ⟨b, 0, none⟩) l.length l.length) := fun b => by
    simp only [mkSlice, asNat_nat]
    rw [Nat.ble_eq_true_of_le (Nat.le_refl _), Nat.ble_eq_true_of_le (show 1 * l.length ≤ 281474976710656 by omega), Nat.ble_eq_true_of_le (show l.length ≤ 9223372036854775807 by omega), repl_one]
    rfl
  simp only [↓reduceIte, EV, Nat.reduceEqDiff, r112_3, sv_len, mk]
  have b1 := Has.new h0 (.rw (List.replicate l.length (.int .u8 0)) (some 5))
  have k1 := Keep.new h0 (.rw (List.replicate l.length (.int .u8 0)) (some 5))
  generalize h0.new (.rw (List.replicate l.length (.int .u8 0)) (some 5)) = h1 at *
  refine hK .norm _ _ (C.seq fun K hK => ?_)
  have e := copy_all b1 (by simp) hp
  have b2 := Has.put (x := .rw (l.map bv) (some 5)) b1.1
  have k2 := Keep.put h1 h0.next (.rw (l.map bv) (some 5))
  have k12 := k1.trans (S' := (· = h0.next)) k2 fun k hk e => by omega
  simp only [↓reduceIte, EV, Nat.reduceEqDiff, r112_4, e]
  generalize h1.put h0.next (.rw (l.map bv) (some 5)) = h2' at *
  refine hK .norm _ _ (C.seq fun K hK => ?_)
  have ix : indexSl 1 (.slice (some ⟨h0.next, 0, none⟩) l.length l.length) (.int .i64 0) = some (.pointer (some ⟨h0.next, 0, none⟩)) := by
    simp only [indexSl, asNat_zero, addOff]
    rw [Nat.ble_eq_true_of_le (show 0 + 1 ≤ l.length by omega)]
  have e2 := str_all b2 hp h2
  have k3 := Keep.put h2' h0.next (.ro (l.map bv))
  have k13 := k12.trans (S' := (· = h0.next)) k3 fun k hk e => by omega
  simp only [↓reduceIte, EV, r112_5, ix, e2, lenSl_slice]
  refine hK .norm _ _ (C.ret ⟨.inr rfl, _, rfl, ?_, k13⟩)
  simp only [↓reduceIte, EV, resOf]
/-- an error that a package has -/
structure ErrC (e : Value) : Prop where
  one : e.cells = #[e]
  ones : ones [e] = true
  eq : veq 64 e e = true
theorem range_law (L n : Nat) {l : List UInt8} {e a : Value} (he : ErrC e) (ha : a.cells = #[a]) (hp : l ≠ []) (h2 : l.length ≤ 1000) {h0 : H} (hG : Has h0 5 (.ro [e])) :
    Sp (CF L (n + 2)) 107 [a, sv l] h0 fun r h' => (∃ b, r = .pointer (some ⟨b, 0, none⟩)) ∧ Keep nobody h0 h' := by
  refine Sp.body f107 (by simp) ?_
  unfold c107
  refine C.seq fun K hK => ?_
  simp only [EV, Nat.reduceAdd, r107_0]
  refine hK .norm _ _ (C.seq fun K hK => ?_)
  have kn : Keep nobody h0 ⟨h0.objs, h0.next + 7⟩ := ⟨by show h0.next ≤ h0.next + 7; omega, fun _ _ _ => rfl⟩
  have ld := loadOne_has (s := none) (o := 0) (hG.keep0 kn) rfl
  simp only [↓reduceIte, ↓EW, EV, Nat.reduceEqDiff, r107_1, ld]
  refine clone_law L n hp h2 _ fun r h3 hr => ?_
  obtain ⟨rfl, k2⟩ := hr
  have ld2 := loadOne_has (s := none) (o := 0) ((hG.keep0 kn).keep0 k2) rfl
  have fl : aggO (fill [(.string (strB [])), (.string (strB [])), .nilIface] (plc [(0, 1), (1, 1), (2, 1)]) [(0, a), (1, sv l), (2, e)]) = some (.agg #[a, sv l, e]) := by
    simp only [fill, plc, nth, ha, sv_cells, he.one, putAt]
    rfl
  simp only [EV, ld2, hO, he.eq, fl, Bool.and_true]
  refine hK _ _ _ (C.ret ⟨.inr rfl, _, rfl, ⟨h0.next + 5, by simp only [↓reduceIte, EV, resOf]⟩, ?_⟩)
  exact (kn.then k2).trans (S' := (· = h0.next + 5)) (Keep.put _ _ _) fun k hk e => by omega
theorem toError_law (L n : Nat) {l : List UInt8} {e a x y : Value} (he : ErrC e) (ha : a.cells = #[a]) (hp : l ≠ []) (h2 : l.length ≤ 1000) {h0 : H} (hG : Has h0 5 (.ro [e])) :
    Sp (CF L (n + 3)) 96 [a, sv l, x, y, .iface 135 (.int .i64 1)] h0 fun r h' => (∃ b, r = .iface 137 (.pointer (some ⟨b, 0, none⟩))) ∧ Keep nobody h0 h' := by
  refine Sp.body f96 (by simp) ?_
  unfold c96
  refine C.seq fun K hK => ?_
  simp only [EV, Nat.reduceAdd, r96_0]
  refine hK .norm _ _ (C.seq (C.seq fun K hK => ?_))
  simp only [↓reduceIte, EV, Nat.reduceEqDiff, r96_1]
  refine hK .norm _ _ (C.block (C.seq fun K hK => ?_))
  have e1 : binV Tryd.prog .eql 76 false (.iface 135 (.int .i64 1)) (.iface 135 (.int .i64 2)) = some (.bool false) := by kernel_rfl
  have e2 : binV Tryd.prog .eql 76 false (.iface 135 (.int .i64 1)) (.iface 135 (.int .i64 1)) = some (.bool true) := by kernel_rfl
  simp only [↓reduceIte, ↓EW, EV, r96_2, e1]
  refine hK .norm _ _ (C.cond false (by simp only [↓reduceIte, EV]) (fun g => by cases g) fun _ => C.seq fun K hK => ?_)
  simp only [↓reduceIte, ↓EW, EV, Nat.reduceEqDiff, r96_4, e2]
  refine hK .norm _ _ (C.cond true (by simp only [↓reduceIte, EV]) (fun _ => C.seq fun K hK => ?_) fun g => by cases g)
  simp only [↓reduceIte, ↓EW, EV, Nat.reduceEqDiff, r96_5]
  refine range_law L n he ha hp h2 hG _ fun r h3 hr => ?_
  obtain ⟨⟨b, rfl⟩, k2⟩ := hr
  refine hK _ _ _ (C.ret ⟨.inr rfl, _, rfl, ⟨b, by simp only [↓reduceIte, EV, resOf]⟩, k2⟩)
end Go.Proofs.YthofbmfcpfibdaaDoor

namespace Go.Proofs.YthofbmfcpfibdaaDoor
open Go.Ev

def parV (l : List UInt8) : Value := if valN l 0 < 18446744073709551616 then .tuple #[.int .u64 (valN l 0 : Nat), .nilIface] else .tuple #[.int .u64 18446744073709551615, .iface 135 (.int .i64 1)]
theorem par95 (L n : Nat) {l : List UInt8} (hL : 1000 ≤ L) (h1 : 1 ≤ l.length) (h20 : l.length ≤ 20) (hd : l.all dig = true) {h0 : H} :
    Sp (CF L (n + 1)) 95 [sv l, .int .i64 10, .int .i64 64] h0 fun r h' => r = parV l ∧ Keep nobody h0 h' := by
  refine Sp.body f95 (by simp) ?_
  unfold c95
  refine C.seq fun K hK => ?_
  simp only [EV, Nat.reduceAdd, r95_0]
  have e0 : ∀ c, binV Tryd.prog .eql 9 c (sv l) (.string (strB [])) = some (.bool (decide (l = []))) := fun c => sv_eql 9 c l []
  have g0 : ¬ l = [] := fun e => by rw [e] at h1; simp at h1
  refine hK .norm _ _ (C.seq (C.seq fun K hK => ?_))
  simp only [↓reduceIte, EV, Nat.reduceEqDiff, r95_1, e0, decide_eq_false g0]
  refine hK .norm _ _ (C.cond false (by simp only [↓reduceIte, EV]) (fun g => by cases g) fun _ => C.skip (C.seq fun K hK => ?_))
  have d1 : decide ((10 : Int) = 0) = false := rfl
  have d2 : decide ((2 : Int) ≤ 10) = true := rfl
  have d3 : decide ((10 : Int) ≤ 36) = true := rfl
  have d4 : decide ((64 : Int) = 0) = false := rfl
  have d5 : decide ((64 : Int) < 0) = false := rfl
  have d6 : decide ((64 : Int) < 64) = false := rfl
  have d7 : decide ((10 : Int) = 10) = true := rfl
  simp only [↓reduceIte, EV, Nat.reduceEqDiff, Int.reduceEq, r95_3]
  refine hK .norm _ _ (C.seq fun K hK => ?_)
  simp only [↓reduceIte, EV, Nat.reduceEqDiff, r95_4]
  refine hK .norm _ _ (C.seq (C.block (C.seq fun K hK => ?_)))
  simp only [↓reduceIte, ↓EW, EV, Nat.reduceEqDiff, Int.reduceLE, r95_6]
  refine hK .norm _ _ (C.cond true (by simp only [↓reduceIte, EV]) (fun _ => C.skip (C.seq (C.seq fun K hK => ?_))) fun g => by cases g)
  simp only [↓reduceIte, EV, Nat.reduceEqDiff, Int.reduceEq, r95_21]
  refine hK .norm _ _ (C.cond false (by simp only [↓reduceIte, EV]) (fun g => by cases g) fun _ => C.seq fun K hK => ?_)
  simp only [↓reduceIte, ↓EW, EV, Nat.reduceEqDiff, Int.reduceLT, r95_23]
  refine hK .norm _ _ (C.cond false (by simp only [↓reduceIte, EV]) (fun g => by cases g) fun _ => C.skip (C.seq fun K hK => ?_))
  simp only [r95_25]
  refine hK .norm _ _ (C.seq (C.seq fun K hK => ?_))
  simp only [↓reduceIte, EV, Nat.reduceEqDiff, r95_26]
  refine hK .norm _ _ (C.block (C.seq fun K hK => ?_))
  simp only [↓reduceIte, EV, r95_28]
  refine hK .norm _ _ (C.cond true (by simp only [↓reduceIte, EV]) (fun _ => fun K hK => ?_) fun g => by cases g)
  simp only [r95_29]
  refine hK .norm _ _ (C.seq fun K hK => ?_)
  have t64 : toInt .u64 (.int .i64 64) = some (.int .u64 64) := rfl
  have s64 : binV Tryd.prog .shl 23 true (.int .u64 1) (.int .u64 64) = some (.int .u64 0) := by kernel_rfl
  have m64 : binV Tryd.prog .sub 23 true (.int .u64 0) (.int .u64 1) = some (.int .u64 18446744073709551615) := by kernel_rfl
  simp only [↓reduceIte, r95_32, tg_set, Nat.reduceEqDiff, t64, kO_some, s64, m64]
  refine hK .norm _ _ (C.seq fun K hK => ?_)
  simp only [r95_33]
  refine hK .norm _ _ (C.seq fun K hK => ?_)
  simp only [r95_34]
  refine hK .norm _ _ (C.seq (C.seq fun K hK => ?_))
  have mb : ∀ b, mkBytes 5 b (sv l) = some (.op (l.map bv) 1 (some 5), .slice (some ⟨b, 0, none⟩) l.length (opCap l.length 1)) := fun b => rfl
  have o1 := opCap_open l.length
  have o2 := opCap_size l.length
  generalize opCap l.length 1 = cap at mb o1 o2
  simp only [↓reduceIte, EV, Nat.reduceEqDiff, r95_35, mb, lenSl_slice]
  have k1 := Keep.new h0 (.op (l.map bv) 1 (some 5))
  have hm : Rd (h0.new (.op (l.map bv) 1 (some 5))) (.slice (some ⟨h0.next, 0, none⟩) l.length cap) l := rd_of_mine (.op _ _ _ (some 5) o1 o2 (Has.new _ _)) (by omega)
  generalize h0.new (.op (l.map bv) 1 (some 5)) = h1 at *
  generalize Value.slice (some ⟨h0.next, 0, none⟩) l.length cap = V at *
  refine hK .norm _ _ (C.block ?_)
  have key : ∀ tm, tg tm 1 = .int .i64 10 → tg tm 8 = .bool false → tg tm 10 = .int .u64 1844674407370955162 → tg tm 11 = .int .u64 18446744073709551615 → tg tm 12 = .bool false → tg tm 13 = .int .u64 0 → tg tm 99 = V → tg tm 100 = .int .i64 (l.length : Int) → tg tm 101 = .int .i64 0 →
      C (loopB l95_56) (CF L n) L tm h1 fun e tm' h' => h' = h1 ∧ (e = .exit 3 ∧ tg tm' 12 = .bool false ∧ tg tm' 13 = .int .u64 (valN l 0 : Nat) ∧ valN l 0 < 18446744073709551616 ∨ e = .ret ∧ tg tm' 6 = .int .u64 18446744073709551615 ∧ tg tm' 7 = .iface 135 (.int .i64 1) ∧ ¬ valN l 0 < 18446744073709551616) := fun tm t1 t8 t10 t11 t12 t13 t99 t100 t101 => by
    refine C.loop (L := L) (fun k tm h' => ∃ pos : Nat, k = l.length - pos ∧ pos ≤ l.length ∧ tg tm 1 = .int .i64 10 ∧ tg tm 8 = .bool false ∧ tg tm 10 = .int .u64 1844674407370955162 ∧ tg tm 11 = .int .u64 18446744073709551615 ∧ tg tm 12 = .bool false ∧ tg tm 13 = .int .u64 (valN (l.take pos) 0 : Nat) ∧ tg tm 99 = V ∧ tg tm 100 = .int .i64 (l.length : Int) ∧ tg tm 101 = .int .i64 (pos : Int) ∧ valN (l.take pos) 0 < 18446744073709551616 ∧ h' = h1) l.length (by omega)
      ⟨0, rfl, Nat.zero_le _, t1, t8, t10, t11, t12, by rw [t13]; rfl, t99, t100, t101, by simp [valN], rfl⟩ ?_
    rintro k tm h' ⟨pos, rfl, hp, t1, t8, t10, t11, t12, t13, t99, t100, t101, hv, rfl⟩
    refine C.seq fun K hK => ?_
    by_cases g : pos < l.length
    · have g' : (pos : Int) < (l.length : Int) := by omega
      obtain ⟨c, hc⟩ : ∃ c, l[pos]? = some c := ⟨_, List.getElem?_eq_getElem g⟩
      obtain ⟨b, o, ix, ld, _⟩ := hm.at hc
      have hdc := List.all_eq_true.1 hd c (List.mem_of_getElem? hc)
      obtain ⟨c1, c2⟩ := dig_of hdc
      simp only [EV, r95_36, t100, t101, decide_eq_true g']
      refine hK _ _ _ (C.seq (C.cond true (by simp only [↓reduceIte, EV]) (fun _ => C.skip (C.seq (C.block (C.seq fun K hK => ?_)))) fun g => by cases g))
      simp only [↓reduceIte, EV, Nat.reduceEqDiff, r95_37, t99, t101, ix, ld]
      refine hK _ _ _ (C.seq fun K hK => ?_)
      simp only [r95_38]
      refine hK _ _ _ (C.seq (C.block (C.seq fun K hK => ?_)))
      have bve : bv c = .int .u8 (c.toNat : Int) := rfl
      have n95 : ¬ ((c.toNat : Int) = 95) := by omega
      simp only [↓reduceIte, EV, Nat.reduceEqDiff, r95_40, bve, decide_eq_false n95]
      refine hK _ _ _ (C.cond false (by simp only [↓reduceIte, EV]) (fun g => by cases g) fun _ => C.seq fun K hK => ?_)
      have l48 : (48 : Int) ≤ (c.toNat : Int) := by omega
      have l57 : (c.toNat : Int) ≤ 57 := by omega
      simp only [↓reduceIte, ↓EW, EV, Nat.reduceEqDiff, r95_42, decide_eq_true l48, decide_eq_true l57]
      refine hK _ _ _ (C.cond true (by simp only [↓reduceIte, EV]) (fun _ => fun K hK => ?_) fun g => by cases g)
      have w1 : IntKind.u8.wrap ((c.toNat : Int) - 48) = ((c.toNat - 48 : Nat) : Int) := by
        rw [show (c.toNat : Int) - 48 = ((c.toNat - 48 : Nat) : Int) by omega]
        exact wrap_eq _ _ (by show (0 : Int) ≤ _; omega) (by show _ ≤ (255 : Int); omega)
      simp only [↓reduceIte, EV, Nat.reduceEqDiff, r95_43, w1]
      have hd9 : c.toNat - 48 ≤ 9 := by omega
      have hnext := valN_take hc
      generalize hdv : c.toNat - 48 = d at *
      refine hK _ _ _ (C.seq (C.seq fun K hK => ?_))
      have t10u : toInt .u8 (.int .i64 10) = some (.int .u8 10) := rfl
      have n10 : ¬ ((10 : Int) ≤ (d : Int)) := by omega
      simp only [↓reduceIte, EV, Nat.reduceEqDiff, r95_46, t1, t10u, decide_eq_false n10]
      refine hK _ _ _ (C.cond false (by simp only [↓reduceIte, EV]) (fun g => by cases g) fun _ => C.skip (C.seq (C.seq fun K hK => ?_)))
      generalize ha : valN (l.take pos) 0 = a at *
      have hpart := valN_part l (pos + 1)
      rw [hnext] at hpart
      by_cases go : (1844674407370955162 : Int) ≤ (a : Int)
      · simp only [↓reduceIte, EV, Nat.reduceEqDiff, r95_48, t10, t13, decide_eq_true go]
        refine hK _ _ _ (C.cond true (by simp only [↓reduceIte, EV]) (fun _ => C.seq fun K hK => ?_) fun g => by cases g)
        simp only [↓reduceIte, ↓EW, EV, Nat.reduceEqDiff, r95_49, t11]
        refine hK _ _ _ (C.ret ⟨rfl, .inr ⟨rfl, by simp only [↓reduceIte, EV, Nat.reduceEqDiff], by simp only [↓reduceIte, EV], by omega⟩⟩)
      simp only [↓reduceIte, EV, Nat.reduceEqDiff, r95_48, t10, t13, decide_eq_false go]
      refine hK _ _ _ (C.cond false (by simp only [↓reduceIte, EV]) (fun g => by cases g) fun _ => C.skip (C.seq fun K hK => ?_))
      have t10v : toInt .u64 (.int .i64 10) = some (.int .u64 10) := rfl
      have w5 : IntKind.u64.wrap ((a : Int) * 10) = ((10 * a : Nat) : Int) := by
        rw [show (a : Int) * 10 = ((10 * a : Nat) : Int) by omega]; exact wrap_u64 _ (by omega)
      simp only [↓reduceIte, EV, Nat.reduceEqDiff, r95_50, t1, t13, t10v, w5]
      refine hK _ _ _ (C.seq fun K hK => ?_)
      have td : toInt .u64 (.int .u8 (d : Int)) = some (.int .u64 (d : Int)) := by rw [toInt_int, wrap_u64 _ (by omega)]
      by_cases gv : 10 * a + d < 18446744073709551616
      · have w6 : IntKind.u64.wrap (((10 * a : Nat) : Int) + (d : Int)) = ((10 * a + d : Nat) : Int) := by
          rw [show ((10 * a : Nat) : Int) + (d : Int) = ((10 * a + d : Nat) : Int) by omega]; exact wrap_u64 _ gv
        have q1 : ¬ (((10 * a + d : Nat) : Int) < ((10 * a : Nat) : Int)) := by omega
        have q2 : ¬ ((18446744073709551615 : Int) < ((10 * a + d : Nat) : Int)) := by omega
        simp only [↓reduceIte, EV, Nat.reduceEqDiff, r95_51, td, w6]
        refine hK _ _ _ (C.seq (C.seq fun K hK => ?_))
        simp only [↓opStep_eq, ↓reduceIte, ↓EW, EV, Nat.reduceEqDiff, r95_52, t11, decide_eq_false q1, decide_eq_false q2]
        refine hK _ _ _ (C.cond false (by simp only [↓reduceIte, EV]) (fun g => by cases g) fun _ => C.skip fun K hK => ?_)
        simp only [↓reduceIte, EV, Nat.reduceEqDiff, r95_54]
        refine hK _ _ _ fun K hK => ?_
        have w7 : IntKind.i64.wrap ((pos : Int) + 1) = ((pos + 1 : Nat) : Int) := by
          rw [show (pos : Int) + 1 = ((pos + 1 : Nat) : Int) by omega]; exact wrap_lt _ (by omega)
        simp only [↓reduceIte, EV, Nat.reduceEqDiff, r95_55, t101, w7]
        exact hK _ _ _ ⟨l.length - (pos + 1), by omega, pos + 1, rfl, by omega, by simp only [↓reduceIte, EV, Nat.reduceEqDiff, t1], by simp only [↓reduceIte, EV, Nat.reduceEqDiff, t8], by simp only [↓reduceIte, EV, Nat.reduceEqDiff, t10], by simp only [↓reduceIte, EV, Nat.reduceEqDiff, t11], by simp only [↓reduceIte, EV, Nat.reduceEqDiff, t12], by simp only [↓reduceIte, EV, Nat.reduceEqDiff]; rw [hnext], by simp only [↓reduceIte, EV, Nat.reduceEqDiff, t99], by simp only [↓reduceIte, EV, Nat.reduceEqDiff, t100], by simp only [↓reduceIte, EV], by rw [hnext]; omega, rfl⟩
      · have w6 : IntKind.u64.wrap (((10 * a : Nat) : Int) + (d : Int)) = ((10 * a + d - 18446744073709551616 : Nat) : Int) := by
          rw [show ((10 * a : Nat) : Int) + (d : Int) = ((10 * a + d : Nat) : Int) by omega]
          show ((10 * a + d : Nat) : Int) % 18446744073709551616 = _
          omega
        have q1 : ((10 * a + d - 18446744073709551616 : Nat) : Int) < ((10 * a : Nat) : Int) := by omega
        simp only [↓reduceIte, EV, Nat.reduceEqDiff, r95_51, td, w6]
        refine hK _ _ _ (C.seq (C.seq fun K hK => ?_))
        simp only [↓opStep_eq, ↓reduceIte, ↓EW, EV, Nat.reduceEqDiff, r95_52, decide_eq_true q1]
        refine hK _ _ _ (C.cond true (by simp only [↓reduceIte, EV]) (fun _ => C.seq fun K hK => ?_) fun g => by cases g)
        simp only [↓reduceIte, ↓EW, EV, Nat.reduceEqDiff, r95_53, t11]
        refine hK _ _ _ (C.ret ⟨rfl, .inr ⟨rfl, by simp only [↓reduceIte, EV, Nat.reduceEqDiff], by simp only [↓reduceIte, EV], by omega⟩⟩)
    · have g' : ¬ (pos : Int) < (l.length : Int) := by omega
      rw [List.take_of_length_le (by omega)] at hv t13
      simp only [EV, r95_36, t100, t101, decide_eq_false g']
      exact hK _ _ _ (C.seq (C.cond false (by simp only [↓reduceIte, EV]) (fun g => by cases g) fun _ => C.exit ⟨rfl, .inl ⟨rfl, by simp only [↓reduceIte, EV, Nat.reduceEqDiff, t12], by simp only [↓reduceIte, EV, Nat.reduceEqDiff, t13], hv⟩⟩))
  refine (key _ (by simp only [↓reduceIte, EV, Nat.reduceEqDiff]) (by simp only [↓reduceIte, EV, Nat.reduceEqDiff]) (by simp only [↓reduceIte, EV, Nat.reduceEqDiff]) (by simp only [↓reduceIte, EV, Nat.reduceEqDiff]) (by simp only [↓reduceIte, EV, Nat.reduceEqDiff]) (by simp only [↓reduceIte, EV, Nat.reduceEqDiff]) (by simp only [↓reduceIte, EV, Nat.reduceEqDiff]) (by simp only [↓reduceIte, EV, Nat.reduceEqDiff]) (by simp only [↓reduceIte, EV])).mono ?_
  rintro e tm' h' ⟨rfl, (⟨rfl, t12, t13, hv⟩ | ⟨rfl, t6, t7, hv⟩)⟩
  · show if 3 = 3 then _ else _
    rw [if_pos rfl]
    refine C.seq (C.seq fun K hK => ?_)
    simp only [↓opStep_eq, ↓reduceIte, ↓EW, EV, r95_56, t12]
    refine hK _ _ _ (C.cond false (by simp only [↓reduceIte, EV]) (fun g => by cases g) fun _ => C.skip (C.seq fun K hK => ?_))
    simp only [↓reduceIte, EV, Nat.reduceEqDiff, r95_58, t13]
    refine hK _ _ _ (C.ret ⟨.inr rfl, _, rfl, ?_, k1⟩)
    unfold parV
    rw [if_pos hv]
    simp only [↓reduceIte, EV, Nat.reduceEqDiff, resOf]
  · refine ⟨.inr rfl, _, rfl, ?_, k1⟩
    unfold parV
    rw [if_neg hv]
    simp only [resOf, t6, t7]
end Go.Proofs.YthofbmfcpfibdaaDoor

namespace Go.Proofs.YthofbmfcpfibdaaDoor
open Go.Ev

theorem par85 (L n : Nat) {l : List UInt8} {e : Value} (hL : 1000 ≤ L) (he : ErrC e) (h1 : 1 ≤ l.length) (h20 : l.length ≤ 20) (hd : l.all dig = true) {h0 : H} (hG : Has h0 5 (.ro [e])) :
    Sp (CF L (n + 4)) 85 [sv l, .int .i64 10, .int .i64 64] h0 fun r h' => (if valN l 0 < 18446744073709551616 then r = .tuple #[.int .u64 (valN l 0 : Nat), .nilIface] else ∃ x b, r = .tuple #[x, .iface 137 (.pointer (some ⟨b, 0, none⟩))]) ∧ Keep nobody h0 h' := by
  have hp : l ≠ [] := fun e => by rw [e] at h1; simp at h1
  refine Sp.body f85 (by simp) ?_
  unfold c85
  refine C.seq fun K hK => ?_
  simp only [EV, Nat.reduceAdd, r85_0]
  refine hK .norm _ _ (C.seq fun K hK => ?_)
  simp only [↓reduceIte, EV, Nat.reduceEqDiff, r85_1]
  refine par95 L (n + 2) hL h1 h20 hd _ fun r h2 hr => ?_
  obtain ⟨rfl, k1⟩ := hr
  unfold parV
  by_cases g : valN l 0 < 18446744073709551616
  · rw [if_pos g]
    have e : ∀ i, tupNth i (.tuple #[.int .u64 (valN l 0 : Nat), .nilIface]) = [Value.int .u64 (valN l 0 : Nat), .nilIface][i]? := fun i => tupNth_tuple i _
    simp only [EV, e]
    refine hK _ _ _ (C.seq (C.seq fun K hK => ?_))
    have q : binV Tryd.prog .neq 76 true .nilIface .nilIface = some (.bool false) := by kernel_rfl
    simp only [↓reduceIte, EV, r85_2, q]
    refine hK _ _ _ (C.cond false (by simp only [↓reduceIte, EV]) (fun g => by cases g) fun _ => C.skip (C.seq fun K hK => ?_))
    simp only [↓reduceIte, EV, Nat.reduceEqDiff, r85_4]
    refine hK _ _ _ (C.ret ⟨.inr rfl, _, rfl, ?_, k1⟩)
    rw [if_pos g]
    simp only [↓reduceIte, EV, Nat.reduceEqDiff, resOf]
  · rw [if_neg g]
    have e : ∀ i, tupNth i (.tuple #[.int .u64 18446744073709551615, .iface 135 (.int .i64 1)]) = [Value.int .u64 18446744073709551615, .iface 135 (.int .i64 1)][i]? := fun i => tupNth_tuple i _
    simp only [EV, e]
    refine hK _ _ _ (C.seq (C.seq fun K hK => ?_))
    have q : binV Tryd.prog .neq 76 true (.iface 135 (.int .i64 1)) .nilIface = some (.bool true) := by kernel_rfl
    simp only [↓reduceIte, EV, r85_2, q]
    refine hK _ _ _ (C.cond true (by simp only [↓reduceIte, EV]) (fun _ => C.seq fun K hK => ?_) fun g => by cases g)
    simp only [↓reduceIte, EV, Nat.reduceEqDiff, r85_3]
    refine toError_law L n he rfl hp (by omega) (hG.keep0 k1) _ fun r h3 hr => ?_
    obtain ⟨⟨b, rfl⟩, k2⟩ := hr
    refine hK _ _ _ (C.ret ⟨.inr rfl, _, rfl, ?_, k1.then k2⟩)
    rw [if_neg g]
    refine ⟨.int .u64 18446744073709551615, b, ?_⟩
    simp only [↓reduceIte, EV, Nat.reduceEqDiff, resOf]
theorem reg76_1 {call : CallT} {L : Nat} {tm : T Value} {h : H} {K : KE} {l : List UInt8} (t0 : tg tm 0 = sv l) : r76_1 call L tm [] h K = K .norm (T.set tm 25 (.bool (!shapeN l))) [] h := by
  unfold shapeN
  by_cases g1 : l.length < 1
  · have g1' : (l.length : Int) < 1 := by omega
    simp only [↓opStep_eq, ↓reduceIte, ↓EW, EV, r76_1, t0, sv_len, decide_eq_true g1, decide_eq_true g1', Bool.true_or]
  have g1' : ¬ (l.length : Int) < 1 := by omega
  by_cases g2 : (20 : Int) < (l.length : Int)
  · simp only [↓opStep_eq, ↓reduceIte, ↓EW, EV, r76_1, t0, decide_eq_false g1, decide_eq_false g1', sv_len, decide_eq_true g2, decide_eq_true (show 20 < l.length by omega), Bool.true_or, Bool.or_true]
  obtain ⟨c, hc⟩ : ∃ c, l[0]? = some c := ⟨_, List.getElem?_eq_getElem (by omega)⟩
  have ix : indexStr (sv l) (.int .i64 0) = some (bv c) := sv_ix (i := 0) hc
  by_cases g3 : c = 48
  · have hc' : l[0]? = some 48 := by rw [hc, g3]
    have g4 : decide ((1 : Int) < (l.length : Int)) = decide (1 < l.length) := by
      by_cases g : 1 < l.length
      · rw [decide_eq_true g, decide_eq_true (by omega)]
      · rw [decide_eq_false g, decide_eq_false (by omega)]
    simp only [↓opStep_eq, ↓reduceIte, ↓EW, EV, r76_1, t0, decide_eq_false g1, decide_eq_false g1', sv_len, decide_eq_false g2, decide_eq_false (show ¬ 20 < l.length by omega), ix, eql_48, decide_eq_true g3, g4, decide_eq_true hc', Bool.false_or, Bool.or_false, Bool.true_and, Bool.not_not]
  · have hc' : ¬ l[0]? = some 48 := by rw [hc]; simpa using g3
    simp only [↓opStep_eq, ↓reduceIte, ↓EW, EV, r76_1, t0, decide_eq_false g1, decide_eq_false g1', sv_len, decide_eq_false g2, decide_eq_false (show ¬ 20 < l.length by omega), ix, eql_48, decide_eq_false g3, decide_eq_false hc', Bool.or_false, Bool.false_and]
theorem itemNum_law (L n : Nat) {l : List UInt8} {e : Value} (hL : 1000 ≤ L) (he : ErrC e) {h0 : H} (hG : Has h0 5 (.ro [e])) :
    Sp (CF L (n + 5)) 76 [sv l] h0 fun r h' => r = numV (numN l) ∧ Keep nobody h0 h' := by
  refine Sp.body f76 (by simp) ?_
  unfold c76
  refine C.seq fun K hK => ?_
  simp only [EV, r76_0]
  refine hK .norm _ _ (C.seq (C.seq fun K hK => ?_))
  rw [box_f, reg76_1 (l := l) (by simp only [↓reduceIte, EV, Nat.reduceEqDiff])]
  cases hs : shapeN l with
  | false =>
    refine hK .norm _ _ (C.cond true (by simp only [↓reduceIte, EV]) (fun _ => C.seq fun K hK => ?_) fun g => by cases g)
    simp only [EV, r76_2]
    refine hK .norm _ _ (C.ret ⟨.inr rfl, _, rfl, ?_, ⟨Nat.le_refl _, fun _ _ _ => rfl⟩⟩)
    rw [numN_bad (by rw [hs]; simp)]
    simp only [↓reduceIte, EV, Nat.reduceEqDiff, resOf]; rfl
  | true =>
    have hlen := shape_pos hs
    have hsl : (⟨l.toArray⟩ : ByteArray).size = l.length := rfl
    have hdl : (⟨l.toArray⟩ : ByteArray).data.toList = l := rfl
    refine hK .norm _ _ (C.cond false (by simp only [↓reduceIte, EV]) (fun g => by cases g) fun _ => C.skip (C.seq (C.seq fun K hK => ?_)))
    have rs : ∀ h : H, rangeStr h (sv l) = some (.pointer (some ⟨h.next, 0, none⟩), h.new (.sit ⟨l.toArray⟩ 0)) := fun h => rfl
    simp only [↓reduceIte, EV, Nat.reduceEqDiff, r76_3, rs]
    have k1 := Keep.new h0 (.sit ⟨l.toArray⟩ 0)
    have b1 := Has.new h0 (.sit ⟨l.toArray⟩ 0)
    generalize h0.new (.sit ⟨l.toArray⟩ 0) = h1 at *
    refine hK _ _ _ (C.block ?_)
    refine (C.loop (L := L) (fun k tm h' => ∃ pos, k = l.length - pos ∧ pos ≤ l.length ∧ tg tm 0 = sv l ∧ tg tm 27 = .pointer (some ⟨h0.next, 0, none⟩) ∧ Has h' h0.next (.sit ⟨l.toArray⟩ pos) ∧ (l.take pos).all dig = true ∧ Keep nobody h0 h') l.length (by omega) ⟨0, rfl, Nat.zero_le _, by simp only [↓reduceIte, EV, Nat.reduceEqDiff], by simp only [↓reduceIte, EV], b1, rfl, k1⟩ fun k tm h' hi => ?_ :
      C (loopB l76_8) _ L _ h1 fun e tm' h' => Keep nobody h0 h' ∧ (e = .exit 0 ∧ tg tm' 0 = sv l ∧ l.all dig = true ∨ e = .ret ∧ tg tm' 2 = .int .u64 0 ∧ tg tm' 3 = .bool false ∧ l.all dig = false)).mono ?_
    · obtain ⟨pos, hk, hp, t0, t27, b, hall, kp⟩ := hi
      refine C.seq fun K hK => ?_
      have hn : ∀ K : KV, nextV true h' (tg tm 27) K = nextStr h' ⟨l.toArray⟩ pos (h'.put h0.next) K := fun K => by
        rw [t27]
        simp only [nextV, b.2]
      by_cases g : pos < l.length
      · obtain ⟨c, hc⟩ : ∃ c, l[pos]? = some c := ⟨_, List.getElem?_eq_getElem g⟩
        have hget := get_at (s := ⟨l.toArray⟩) hc
        simp only [r76_4, hn, nextStr_some (s := ⟨l.toArray⟩) g, tup3, EV]
        refine hK _ _ _ (C.seq (C.cond true (by simp only [↓reduceIte, EV]) (fun _ => C.skip (C.block (C.seq fun K hK => ?_))) fun g => by cases g))
        simp only [↓reduceIte, EV, Nat.reduceEqDiff, r76_5, tup3]
        refine hK _ _ _ (C.seq fun K hK => ?_)
        have k2 := Keep.put h' h0.next (.sit ⟨l.toArray⟩ (pos + (Utf8.decode ⟨l.toArray⟩ pos).2))
        have b2 := Has.put (x := .sit ⟨l.toArray⟩ (pos + (Utf8.decode ⟨l.toArray⟩ pos).2)) b.1
        have k3 : Keep nobody h0 (h'.put h0.next (.sit ⟨l.toArray⟩ (pos + (Utf8.decode ⟨l.toArray⟩ pos).2))) := kp.trans k2 fun k hk e => by omega
        generalize h'.put h0.next (.sit ⟨l.toArray⟩ (pos + (Utf8.decode ⟨l.toArray⟩ pos).2)) = h2 at *
        by_cases gp : dig c = true
        · obtain ⟨c1, c2⟩ := dig_of gp
          have hd : Utf8.decode ⟨l.toArray⟩ pos = (c.toNat, 1) := by rw [dec_low (by rw [hget]; omega), hget]
          rw [hd] at b2 ⊢
          have q1 : ¬ (Int.ofNat c.toNat < 48) := by show ¬ ((c.toNat : Int) < 48); omega
          have q2 : ¬ ((57 : Int) < Int.ofNat c.toNat) := by show ¬ ((57 : Int) < (c.toNat : Int)); omega
          simp only [↓reduceIte, ↓EW, EV, r76_6, decide_eq_false q1, decide_eq_false q2]
          refine hK _ _ _ (C.cond false (by simp only [↓reduceIte, EV]) (fun g => by cases g) fun _ => C.skip ⟨l.length - (pos + 1), by omega, pos + 1, rfl, by omega, by simp only [↓reduceIte, EV, Nat.reduceEqDiff, t0], by simp only [↓reduceIte, EV, Nat.reduceEqDiff, t27], b2, ?_, k3⟩)
          rw [List.take_add_one, List.all_append, hall, hc]
          simp [gp]
        · have gp' : dig c = false := by simpa using gp
          have hd : Int.ofNat (Utf8.decode ⟨l.toArray⟩ pos).1 < 48 ∨ ¬ (Int.ofNat (Utf8.decode ⟨l.toArray⟩ pos).1 < 48) ∧ (57 : Int) < Int.ofNat (Utf8.decode ⟨l.toArray⟩ pos).1 := by
            simp only [Int.ofNat_eq_natCast]
            by_cases hc8 : c.toNat < 128
            · rw [dec_low (by rw [hget]; exact hc8), hget]
              unfold dig at gp'
              rw [Bool.and_eq_false_iff, decide_eq_false_iff_not, decide_eq_false_iff_not] at gp'
              simp only
              omega
            · have := dec_high (s := ⟨l.toArray⟩) (i := pos) (by rw [hget]; omega)
              omega
          have bad : l.all dig = false := by
            rw [List.all_eq_false]
            exact ⟨c, List.mem_of_getElem? hc, by simp [gp']⟩
          have fin : ∀ tm, C (⟨condC ⟨fun _ tm => tg tm 36⟩ ⟨seqC ⟨r76_7⟩ retC⟩ skipC⟩) (CF L (n + 4)) L (T.set tm 36 (.bool true)) h2 fun e tm' h' => Keep nobody h0 h' ∧ (e = .ret ∧ tg tm' 2 = .int .u64 0 ∧ tg tm' 3 = .bool false) := fun tm => by
            refine C.cond true (by simp only [↓reduceIte, EV]) (fun _ => C.seq fun K hK => ?_) fun g => by cases g
            simp only [r76_7]
            exact hK _ _ _ (C.ret ⟨k3, rfl, by simp only [↓reduceIte, EV, Nat.reduceEqDiff], by simp only [↓reduceIte, EV]⟩)
          rcases hd with q1 | ⟨q1, q2⟩
          · simp only [↓reduceIte, EV, r76_6, decide_eq_true q1]
            refine hK _ _ _ ((fin _).mono ?_)
            rintro e tm' h' ⟨k, rfl, x1, x2⟩
            exact ⟨k, .inr ⟨rfl, x1, x2, bad⟩⟩
          · simp only [↓reduceIte, ↓EW, EV, r76_6, decide_eq_false q1, decide_eq_true q2]
            refine hK _ _ _ ((fin _).mono ?_)
            rintro e tm' h' ⟨k, rfl, x1, x2⟩
            exact ⟨k, .inr ⟨rfl, x1, x2, bad⟩⟩
      · simp only [r76_4, hn, nextStr_none (s := ⟨l.toArray⟩) g, tup1, EV]
        refine hK _ _ _ (C.seq (C.cond false (by simp only [↓reduceIte, EV]) (fun g => by cases g) fun _ => C.exit ⟨kp, .inl ⟨rfl, by simp only [↓reduceIte, EV, Nat.reduceEqDiff, t0], ?_⟩⟩))
        rw [List.take_of_length_le (by omega)] at hall
        exact hall
    · rintro e1 tm' h' ⟨kp, (⟨rfl, t0, hall⟩ | ⟨rfl, t2, t3, hbad⟩)⟩
      · show if 0 = 0 then _ else _
        rw [if_pos rfl]
        refine C.seq fun K hK => ?_
        simp only [r76_8, t0]
        refine par85 L n hL he hlen.1 hlen.2 hall (hG.keep0 kp) _ fun r h3 hr => ?_
        obtain ⟨hr, k2⟩ := hr
        by_cases g : valN l 0 < 18446744073709551616
        · rw [if_pos g] at hr
          subst hr
          have e : ∀ i, tupNth i (.tuple #[.int .u64 (valN l 0 : Nat), .nilIface]) = [Value.int .u64 (valN l 0 : Nat), .nilIface][i]? := fun i => tupNth_tuple i _
          simp only [EV, e]
          refine hK _ _ _ (C.seq (C.seq fun K hK => ?_))
          have q : binV Tryd.prog .neq 76 true .nilIface .nilIface = some (.bool false) := by kernel_rfl
          simp only [↓reduceIte, EV, r76_9, q]
          refine hK _ _ _ (C.cond false (by simp only [↓reduceIte, EV]) (fun g => by cases g) fun _ => C.skip (C.seq fun K hK => ?_))
          simp only [↓reduceIte, EV, Nat.reduceEqDiff, r76_11]
          refine hK _ _ _ (C.ret ⟨.inr rfl, _, rfl, ?_, kp.then k2⟩)
          rw [numN_good ⟨hs, hall, g⟩]
          simp only [↓reduceIte, EV, Nat.reduceEqDiff, resOf]; rfl
        · rw [if_neg g] at hr
          obtain ⟨x, b, rfl⟩ := hr
          have e : ∀ i, tupNth i (.tuple #[x, .iface 137 (.pointer (some ⟨b, 0, none⟩))]) = [x, .iface 137 (.pointer (some ⟨b, 0, none⟩))][i]? := fun i => tupNth_tuple i _
          simp only [EV, e]
          refine hK _ _ _ (C.seq (C.seq fun K hK => ?_))
          have q : binV Tryd.prog .neq 76 true (.iface 137 (.pointer (some ⟨b, 0, none⟩))) .nilIface = some (.bool true) := by kernel_rfl
          simp only [↓reduceIte, EV, r76_9, q]
          refine hK _ _ _ (C.cond true (by simp only [↓reduceIte, EV]) (fun _ => C.seq fun K hK => ?_) fun g => by cases g)
          simp only [r76_10]
          refine hK _ _ _ (C.ret ⟨.inr rfl, _, rfl, ?_, kp.then k2⟩)
          rw [numN_bad fun h => g h.2.2]
          simp only [↓reduceIte, EV, Nat.reduceEqDiff, resOf]; rfl
      · refine ⟨.inr rfl, _, rfl, ?_, kp⟩
        rw [numN_bad fun h => by rw [hbad] at h; cases h.2.1]
        simp only [resOf, t2, t3]; rfl
theorem num62_law (L n : Nat) {l : List UInt8} {m : Nat} {e : Value} (hL : 1000 ≤ L) (he : ErrC e) {h0 : H} (hG : Has h0 5 (.ro [e])) :
    Sp (CF L (n + 6)) 62 [sv l, .int .u64 (m : Int)] h0 fun r h' => r = uptoV (numN l) m ∧ Keep nobody h0 h' := by
  refine Sp.body f62 (by simp) ?_
  unfold c62
  refine C.seq fun K hK => ?_
  simp only [EV, Nat.reduceAdd, r62_0]
  refine hK .norm _ _ (C.seq fun K hK => ?_)
  simp only [↓reduceIte, EV, Nat.reduceEqDiff, r62_1]
  refine itemNum_law L n hL he hG _ fun r h2 hr => ?_
  obtain ⟨rfl, k⟩ := hr
  cases hn : numN l with
  | none =>
    have e : ∀ i, tupNth i (numV none) = [Value.int .u64 0, .bool false][i]? := fun i => tupNth_tuple i _
    simp only [EV, e]
    refine hK _ _ _ (C.seq fun K hK => ?_)
    simp only [↓opStep_eq, ↓reduceIte, ↓EW, EV, Nat.reduceEqDiff, r62_2]
    refine hK _ _ _ (C.ret ⟨.inr rfl, _, rfl, ?_, k⟩)
    rw [hn]; simp only [↓reduceIte, EV, Nat.reduceEqDiff, resOf]; rfl
  | some k' =>
    have e : ∀ i, tupNth i (numV (some k')) = [Value.int .u64 (k' : Int), .bool true][i]? := fun i => tupNth_tuple i _
    simp only [EV, e]
    refine hK _ _ _ (C.seq fun K hK => ?_)
    have ed : decide ((k' : Int) ≤ (m : Int)) = decide (k' ≤ m) := by
      by_cases g : k' ≤ m
      · rw [decide_eq_true g, decide_eq_true (by omega)]
      · rw [decide_eq_false g, decide_eq_false (by omega)]
    simp only [↓opStep_eq, ↓reduceIte, ↓EW, EV, Nat.reduceEqDiff, r62_2, ed]
    refine hK _ _ _ (C.ret ⟨.inr rfl, _, rfl, ?_, k⟩)
    rw [hn]; simp only [↓reduceIte, EV, Nat.reduceEqDiff, resOf, uptoV, Option.getD_some, Option.isSome_some, Bool.true_and]
end Go.Proofs.YthofbmfcpfibdaaDoor

namespace Go.Proofs.YthofbmfcpfibdaaDoor
open Go.Ev

/-! ### a VALUE's line -/
def vw : List UInt8 := [86, 65, 76, 85, 69]
def headV (ws : List (List UInt8)) : Bool := decide (ws.length = 6) && (decide (ws.getD 0 [] = vw) && (plainL (ws.getD 1 []) && (!decide ((ws.getD 1 []).length = 0) && decide ((ws.getD 1 []).length ≤ 32))))
def numG (ws : List (List UInt8)) (i : Nat) : Nat := (numN (ws.getD i [])).getD 0
def numI (ws : List (List UInt8)) (i m : Nat) : Bool := (numN (ws.getD i [])).isSome && decide (numG ws i ≤ m)
def itmV (ws : List (List UInt8)) : Itm := ⟨⟨(ws.getD 1 []).toArray⟩, strB [], IntKind.u32.wrap (numG ws 2), IntKind.i64.wrap (numG ws 3), numG ws 4⟩
def zI : Itm := ⟨strB [], strB [], 0, 0, 0⟩
def nV (ws : List (List UInt8)) : Int := IntKind.i64.wrap (numG ws 5)
def okV (ws : List (List UInt8)) : Bool := ((numI ws 2 4294967295 && numI ws 3 1099511627776) && numI ws 4 18446744073709551615) && numI ws 5 512
def valueV (ws : List (List UInt8)) : Value := if headV ws = true then .tuple #[(itmV ws).v, .int .i64 (nV ws), .bool (okV ws)] else .tuple #[zI.v, .int .i64 0, .bool false]
theorem upto0 (ws : List (List UInt8)) (i m : Nat) : tupNth 0 (uptoV (numN (ws.getD i [])) m) = some (.int .u64 (numG ws i : Int)) := rfl
theorem upto1 (ws : List (List UInt8)) (i m : Nat) : tupNth 1 (uptoV (numN (ws.getD i [])) m) = some (.bool (numI ws i m)) := rfl
theorem Strs.load {h : H} {v : Value} {l : List (List UInt8)} (a : Strs h v l) {i : Nat} {p : List UInt8} (hi : l[i]? = some p) :
    ∃ b o, indexSl 1 v (.int .i64 (i : Int)) = some (.pointer (some ⟨b, o, none⟩)) ∧ ∀ h', Strs h' v l → ∀ s, loadOne h' (.pointer (some ⟨b, o, s⟩)) = some (sv p) := by
  obtain ⟨b, o, e1, e2⟩ := a.at hi
  refine ⟨b, o, e1, fun h' a' s => ?_⟩
  obtain ⟨b', o', e1', e2'⟩ := a'.at hi
  rw [e1] at e1'
  cases e1'
  exact e2' s
theorem six {ws : List (List UInt8)} (h : ws.length = 6) : ∀ i, i < 6 → ws[i]? = some (ws.getD i []) := fun i hi => by
  rw [List.getD_eq_getElem?_getD, List.getElem?_eq_getElem (by omega)]; rfl
theorem fillI (k : List UInt8) (x y z : Int) : aggO (fill [(.string (strB [])), (.string (strB [])), (.int .u32 (0)), (.int .i64 (0)), (.int .u64 (0))] (plc [(0, 1), (1, 1), (2, 1), (3, 1), (4, 1)]) [(0, sv k), (2, .int .u32 x), (3, .int .i64 y), (4, .int .u64 z)]) = some (Itm.v ⟨⟨k.toArray⟩, strB [], x, y, z⟩) := rfl
theorem fillZ : aggO (fill [(.string (strB [])), (.string (strB [])), (.int .u32 (0)), (.int .i64 (0)), (.int .u64 (0))] (plc [(0, 1), (1, 1), (2, 1), (3, 1), (4, 1)]) []) = some zI.v := rfl
theorem itm_ones (x : Itm) : ones x.cells = true := rfl

section
variable {call : CallT} {L : Nat} {tm : T Value} {h : H} {K : KE} {v : Value} {n : Nat} {w0 w1 : List UInt8} {b0 o0 b1 o1 : Nat}
theorem leaf30_a (t0 : tg tm 0 = v) (hl : lenSl v = some (.int .i64 (n : Int))) (g : ¬ (n : Int) = 6) : r30_1 call L tm [] h K = K .norm (T.set tm 42 (.bool true)) [] h := by
  simp only [↓opStep_eq, ↓reduceIte, ↓EW, EV, r30_1, t0, hl, decide_eq_false g]
theorem leaf30_b (t0 : tg tm 0 = v) (hl : lenSl v = some (.int .i64 6)) (i0 : indexSl 1 v (.int .i64 0) = some (.pointer (some ⟨b0, o0, none⟩))) (l0 : ∀ s, loadOne h (.pointer (some ⟨b0, o0, s⟩)) = some (sv w0)) (g0 : ¬ w0 = vw) : r30_1 call L tm [] h K = K .norm (T.set tm 42 (.bool true)) [] h := by
  have q0 : ∀ c, binV Tryd.prog .neq 9 c (sv w0) (.string (strB [86, 65, 76, 85, 69])) = some (.bool (!decide (w0 = vw))) := fun c => sv_neq 9 c w0 vw
  have d6 : decide ((6 : Int) = 6) = true := rfl
  simp only [↓opStep_eq, ↓reduceIte, ↓EW, EV, r30_1, t0, hl, i0, l0, q0, decide_eq_false g0]
theorem leaf30_c (t0 : tg tm 0 = v) (hl : lenSl v = some (.int .i64 6)) (i0 : indexSl 1 v (.int .i64 0) = some (.pointer (some ⟨b0, o0, none⟩))) (l0 : ∀ s, loadOne h (.pointer (some ⟨b0, o0, s⟩)) = some (sv w0)) (g0 : w0 = vw)
    (i1 : indexSl 1 v (.int .i64 1) = some (.pointer (some ⟨b1, o1, none⟩))) (l1 : ∀ s, loadOne h (.pointer (some ⟨b1, o1, s⟩)) = some (sv w1)) (g1 : (w1.length : Int) < 1) : r30_1 call L tm [] h K = K .norm (T.set tm 42 (.bool true)) [] h := by
  have q0 : ∀ c, binV Tryd.prog .neq 9 c (sv w0) (.string (strB [86, 65, 76, 85, 69])) = some (.bool (!decide (w0 = vw))) := fun c => sv_neq 9 c w0 vw
  have d6 : decide ((6 : Int) = 6) = true := rfl
  simp only [↓opStep_eq, ↓reduceIte, ↓EW, EV, r30_1, t0, hl, i0, l0, q0, decide_eq_true g0, i1, l1, sv_len, decide_eq_true g1]
theorem leaf30_d (t0 : tg tm 0 = v) (hl : lenSl v = some (.int .i64 6)) (i0 : indexSl 1 v (.int .i64 0) = some (.pointer (some ⟨b0, o0, none⟩))) (l0 : ∀ s, loadOne h (.pointer (some ⟨b0, o0, s⟩)) = some (sv w0)) (g0 : w0 = vw)
    (i1 : indexSl 1 v (.int .i64 1) = some (.pointer (some ⟨b1, o1, none⟩))) (l1 : ∀ s, loadOne h (.pointer (some ⟨b1, o1, s⟩)) = some (sv w1)) (g1 : ¬ (w1.length : Int) < 1) (g2 : (32 : Int) < (w1.length : Int)) : r30_1 call L tm [] h K = K .norm (T.set tm 42 (.bool true)) [] h := by
  have q0 : ∀ c, binV Tryd.prog .neq 9 c (sv w0) (.string (strB [86, 65, 76, 85, 69])) = some (.bool (!decide (w0 = vw))) := fun c => sv_neq 9 c w0 vw
  have d6 : decide ((6 : Int) = 6) = true := rfl
  simp only [↓opStep_eq, ↓reduceIte, ↓EW, EV, r30_1, t0, hl, i0, l0, q0, decide_eq_true g0, i1, l1, sv_len, decide_eq_false g1, decide_eq_true g2]
theorem leaf30_e (t0 : tg tm 0 = v) (hl : lenSl v = some (.int .i64 6)) (i0 : indexSl 1 v (.int .i64 0) = some (.pointer (some ⟨b0, o0, none⟩))) (l0 : ∀ s, loadOne h (.pointer (some ⟨b0, o0, s⟩)) = some (sv w0)) (g0 : w0 = vw)
    (i1 : indexSl 1 v (.int .i64 1) = some (.pointer (some ⟨b1, o1, none⟩))) (l1 : ∀ s, loadOne h (.pointer (some ⟨b1, o1, s⟩)) = some (sv w1)) (g1 : ¬ (w1.length : Int) < 1) (g2 : ¬ (32 : Int) < (w1.length : Int)) {Q : Value → H → Prop} (hs : Sp call 18 [sv w1] h fun r h' => (∃ c, r = .bool c ∧ Q r h')) (hK : ∀ c h', Q (.bool c) h' → K .norm (T.set tm 42 (.bool (!c))) [] h' = true) : r30_1 call L tm [] h K = true := by
  have q0 : ∀ c, binV Tryd.prog .neq 9 c (sv w0) (.string (strB [86, 65, 76, 85, 69])) = some (.bool (!decide (w0 = vw))) := fun c => sv_neq 9 c w0 vw
  have d6 : decide ((6 : Int) = 6) = true := rfl
  simp only [↓opStep_eq, ↓reduceIte, ↓EW, EV, r30_1, t0, hl, i0, l0, q0, decide_eq_true g0, i1, l1, sv_len, decide_eq_false g1, decide_eq_false g2]
  refine hs _ fun r h2 hr => ?_
  obtain ⟨c, rfl, hq⟩ := hr
  simp only [EV]
  exact hK c h2 hq
end

theorem wreg30_1 (L n : Nat) {v : Value} {ws : List (List UInt8)} {h : H} {tm : T Value} {Q : Ex → T Value → H → Prop} (hL : 2000 ≤ L) (hs : Strs h v ws) (hw : ∀ p ∈ ws, p.length ≤ 1000) (t0 : tg tm 0 = v)
    (hQ : ∀ h', Keep nobody h h' → Q .norm (T.set tm 42 (.bool (!headV ws))) h') : C ⟨r30_1⟩ (CF L (n + 4)) L tm h Q := fun K hK => by
  rw [box_f]
  have krefl : Keep nobody h h := ⟨Nat.le_refl _, fun _ _ _ => rfl⟩
  unfold headV at hQ
  by_cases g6 : ws.length = 6
  rotate_left
  · have g6' : ¬ (ws.length : Int) = 6 := by omega
    rw [decide_eq_false g6] at hQ
    rw [leaf30_a t0 hs.len g6']
    exact hK _ _ _ (hQ h krefl)
  have g6' : (ws.length : Int) = 6 := by omega
  have hl6 : lenSl v = some (.int .i64 6) := by rw [hs.len, g6']
  have hx := six g6
  rw [decide_eq_true g6] at hQ
  obtain ⟨b0, o0, i0, l0⟩ := hs.load (hx 0 (by omega))
  obtain ⟨b1, o1, i1, l1⟩ := hs.load (hx 1 (by omega))
  have hlen1 : (ws.getD 1 []).length ≤ 1000 := hw _ (List.mem_of_getElem? (hx 1 (by omega)))
  have i0' : indexSl 1 v (.int .i64 0) = some (.pointer (some ⟨b0, o0, none⟩)) := i0
  have i1' : indexSl 1 v (.int .i64 1) = some (.pointer (some ⟨b1, o1, none⟩)) := i1
  have lh0 := l0 h hs
  have lh1 := l1 h hs
  generalize ws.getD 0 [] = w0 at *
  generalize ws.getD 1 [] = w1 at *
  have q0 : ∀ c, binV Tryd.prog .neq 9 c (sv w0) (.string (strB [86, 65, 76, 85, 69])) = some (.bool (!decide (w0 = vw))) := fun c => sv_neq 9 c w0 vw
  by_cases g0 : w0 = vw
  rotate_left
  · rw [decide_eq_false g0] at hQ
    rw [leaf30_b t0 hl6 i0' lh0 g0]
    exact hK _ _ _ (hQ h krefl)
  rw [decide_eq_true g0] at hQ
  by_cases g1 : (w1.length : Int) < 1
  · have g1' : w1.length = 0 := by omega
    rw [decide_eq_true g1'] at hQ
    simp only [Bool.not_true, Bool.false_and, Bool.and_false, Bool.not_false] at hQ
    rw [leaf30_c t0 hl6 i0' lh0 g0 i1' lh1 g1]
    exact hK _ _ _ (hQ h krefl)
  have g1' : ¬ w1.length = 0 := by omega
  rw [decide_eq_false g1'] at hQ
  by_cases g2 : (32 : Int) < (w1.length : Int)
  · have g2' : ¬ w1.length ≤ 32 := by omega
    rw [decide_eq_false g2'] at hQ
    simp only [Bool.and_false, Bool.not_false] at hQ
    rw [leaf30_d t0 hl6 i0' lh0 g0 i1' lh1 g1 g2]
    exact hK _ _ _ (hQ h krefl)
  have g2' : w1.length ≤ 32 := by omega
  rw [decide_eq_true g2'] at hQ
  refine leaf30_e t0 hl6 i0' lh0 g0 i1' lh1 g1 g2 (Q := fun r h' => r = .bool (plainL w1) ∧ Keep nobody h h') ((plain_law L n (s := ⟨w1.toArray⟩) (by show w1.length < L; omega) h).mono fun r h' hr => ⟨_, hr.1, hr⟩) fun c h2 hq => ?_
  obtain ⟨hc, k⟩ := hq
  cases hc
  have := hQ h2 k
  simp only [Bool.true_and, Bool.not_false, Bool.and_true] at this
  exact hK _ _ _ this

theorem wreg30_7 (L n : Nat) {v : Value} {ws : List (List UInt8)} {h : H} {tm : T Value} {B : Nat} {cs : List Value} {Q : Ex → T Value → H → Prop} (hs : Strs h v ws) (g6 : ws.length = 6) (t0 : tg tm 0 = v) (t2 : tg tm 2 = .pointer (some ⟨B, 0, none⟩)) (hB : Has h B (.rw cs (some 48))) (hc : cs.length = 5)
    (t5 : tg tm 5 = .int .u64 (numG ws 2)) (t6 : tg tm 6 = .bool (numI ws 2 4294967295)) (t7 : tg tm 7 = .int .u64 (numG ws 3)) (t8 : tg tm 8 = .bool (numI ws 3 1099511627776)) (t9 : tg tm 9 = .int .u64 (numG ws 4)) (t10 : tg tm 10 = .bool (numI ws 4 18446744073709551615)) (t11 : tg tm 11 = .int .u64 (numG ws 5)) (t12 : tg tm 12 = .bool (numI ws 5 512))
    (hQ : Q .norm (T.set (T.set tm 3 (.int .i64 (nV ws))) 4 (.bool (okV ws))) (h.put B (.rw (itmV ws).cells (some 48)))) : C ⟨r30_7⟩ (CF L n) L tm h Q := fun K hK => by
  rw [box_f]
  have hx := six g6
  obtain ⟨b1, o1, i1, l1⟩ := hs.load (hx 1 (by omega))
  have i1' : indexSl 1 v (.int .i64 1) = some (.pointer (some ⟨b1, o1, none⟩)) := i1
  have lh1 := l1 h hs
  have st : storeV 5 h (.pointer (some ⟨B, 0, none⟩)) (itmV ws).v = some (h.put B (.rw (itmV ws).cells (some 48))) := store_has hB (by omega) rfl (itm_ones _)
  unfold itmV at st
  unfold okV nV itmV at hQ
  generalize numI ws 2 4294967295 = a2 at *
  generalize numI ws 3 1099511627776 = a3 at *
  generalize numI ws 4 18446744073709551615 = a4 at *
  generalize numI ws 5 512 = a5 at *
  cases a2 <;> cases a3 <;> cases a4 <;>
    (simp only [↓opStep_eq, ↓reduceIte, ↓EW, EV, r30_7, t0, t2, t5, t6, t7, t8, t9, t10, t11, t12, i1', lh1, toInt_int, fillI, st]
     exact hK _ _ _ hQ)
theorem value_law (L n : Nat) {v : Value} {ws : List (List UInt8)} {h0 : H} {e : Value} (he : ErrC e) (hL : 2000 ≤ L) (hs : Strs h0 v ws) (hw : ∀ p ∈ ws, p.length ≤ 1000) (hG : Has h0 5 (.ro [e])) :
    Sp (CF L (n + 7)) 30 [v] h0 fun r h' => r = valueV ws ∧ Keep nobody h0 h' := by
  refine Sp.body f30 (by simp) ?_
  unfold c30
  refine C.seq fun K hK => ?_
  simp only [↓EW, EV, r30_0]
  have k1 := Keep.new h0 (.rw [(.string (strB [])), (.string (strB [])), (.int .u32 (0)), (.int .i64 (0)), (.int .u64 (0))] (some 48))
  have b1 := Has.new h0 (.rw [(.string (strB [])), (.string (strB [])), (.int .u32 (0)), (.int .i64 (0)), (.int .u64 (0))] (some 48))
  generalize h0.new (.rw [(.string (strB [])), (.string (strB [])), (.int .u32 (0)), (.int .i64 (0)), (.int .u64 (0))] (some 48)) = h1 at *
  refine hK .norm _ _ (C.seq (C.seq (wreg30_1 L (n + 2) hL (hs.keep0 k1) hw (by simp only [↓reduceIte, EV, Nat.reduceEqDiff]) fun h2 k2 => ?_)))
  have k02 := k1.then k2
  have b2 := b1.keep0 k2
  unfold valueV
  by_cases hh : headV ws = true
  rotate_left
  · rw [if_neg hh]
    have hf : headV ws = false := by simpa using hh
    rw [hf]
    refine C.cond true (by simp only [↓reduceIte, EV]) (fun _ => C.seq fun K hK => ?_) fun g => by cases g
    have st : storeV 5 h2 (.pointer (some ⟨h0.next, 0, none⟩)) zI.v = some (h2.put h0.next (.rw zI.cells (some 48))) := store_has b2 rfl rfl rfl
    simp only [↓reduceIte, EV, Nat.reduceEqDiff, r30_2, fillZ, st]
    have b3 := Has.put (x := .rw zI.cells (some 48)) b2.1
    have la := loadAgg_has (n := 5) (s := none) b3 rfl (by show 0 + 5 ≤ 5; omega)
    refine hK _ _ _ (C.ret ⟨.inr rfl, [zI.v, .int .i64 0, .bool false], ?_, rfl, k02.trans (S' := (· = h0.next)) (Keep.put _ _ _) fun k hk e => by omega⟩)
    simp only [↓reduceIte, EV, Nat.reduceEqDiff, q30, la]
    rfl
  rw [if_pos hh, hh]
  have g6 : ws.length = 6 := by
    unfold headV at hh
    simp only [Bool.and_eq_true, decide_eq_true_eq] at hh
    exact hh.1
  have hx := six g6
  refine C.cond false (by simp only [↓reduceIte, EV]) (fun g => by cases g) fun _ => C.skip (C.seq fun K hK => ?_)
  have hs2 := hs.keep0 k02
  obtain ⟨p2, o2, i2, l2⟩ := hs2.load (hx 2 (by omega))
  obtain ⟨p3, o3, i3, l3⟩ := hs2.load (hx 3 (by omega))
  obtain ⟨p4, o4, i4, l4⟩ := hs2.load (hx 4 (by omega))
  obtain ⟨p5, o5, i5, l5⟩ := hs2.load (hx 5 (by omega))
  have i2' : indexSl 1 v (.int .i64 2) = some (.pointer (some ⟨p2, o2, none⟩)) := i2
  have i3' : indexSl 1 v (.int .i64 3) = some (.pointer (some ⟨p3, o3, none⟩)) := i3
  have i4' : indexSl 1 v (.int .i64 4) = some (.pointer (some ⟨p4, o4, none⟩)) := i4
  have i5' : indexSl 1 v (.int .i64 5) = some (.pointer (some ⟨p5, o5, none⟩)) := i5
  simp only [↓reduceIte, EV, Nat.reduceEqDiff, r30_3, i2', l2 _ (hs.keep0 k02)]
  refine (num62_law L n (show 1000 ≤ L by omega) he (hG.keep0 k02) (l := ws.getD 2 []) (m := 4294967295) : Sp _ 62 _ _ _) _ fun r h3 hr => ?_
  obtain ⟨rfl, k3⟩ := hr
  have k03 := k02.then k3
  simp only [EV, upto0, upto1]
  refine hK _ _ _ (C.seq fun K hK => ?_)
  simp only [↓reduceIte, EV, Nat.reduceEqDiff, r30_4, i3', l3 _ (hs.keep0 k03)]
  refine (num62_law L n (show 1000 ≤ L by omega) he (hG.keep0 k03) (l := ws.getD 3 []) (m := 1099511627776) : Sp _ 62 _ _ _) _ fun r h4 hr => ?_
  obtain ⟨rfl, k4⟩ := hr
  have k04 := k03.then k4
  simp only [EV, upto0, upto1]
  refine hK _ _ _ (C.seq fun K hK => ?_)
  simp only [↓reduceIte, EV, Nat.reduceEqDiff, r30_5, i4', l4 _ (hs.keep0 k04)]
  refine (num62_law L n (show 1000 ≤ L by omega) he (hG.keep0 k04) (l := ws.getD 4 []) (m := 18446744073709551615) : Sp _ 62 _ _ _) _ fun r h5 hr => ?_
  obtain ⟨rfl, k5⟩ := hr
  have k05 := k04.then k5
  simp only [EV, upto0, upto1]
  refine hK _ _ _ (C.seq fun K hK => ?_)
  simp only [↓reduceIte, EV, Nat.reduceEqDiff, r30_6, i5', l5 _ (hs.keep0 k05)]
  refine (num62_law L n (show 1000 ≤ L by omega) he (hG.keep0 k05) (l := ws.getD 5 []) (m := 512) : Sp _ 62 _ _ _) _ fun r h6 hr => ?_
  obtain ⟨rfl, k6⟩ := hr
  have k06 := k05.then k6
  simp only [EV, upto0, upto1]
  have bB := (((b2.keep0 k3).keep0 k4).keep0 k5).keep0 k6
  refine hK _ _ _ (C.seq (wreg30_7 L _ (hs.keep0 k06) g6 (by simp only [↓reduceIte, EV, Nat.reduceEqDiff]) (by simp only [↓reduceIte, EV, Nat.reduceEqDiff]) (bB) rfl (by simp only [↓reduceIte, EV, Nat.reduceEqDiff]) (by simp only [↓reduceIte, EV, Nat.reduceEqDiff]) (by simp only [↓reduceIte, EV, Nat.reduceEqDiff]) (by simp only [↓reduceIte, EV, Nat.reduceEqDiff]) (by simp only [↓reduceIte, EV, Nat.reduceEqDiff]) (by simp only [↓reduceIte, EV, Nat.reduceEqDiff]) (by simp only [↓reduceIte, EV, Nat.reduceEqDiff]) (by simp only [↓reduceIte, EV]) ?_))
  have b3 := Has.put (x := .rw (itmV ws).cells (some 48)) bB.1
  have la := loadAgg_has (n := 5) (s := none) b3 rfl (by show 0 + 5 ≤ 5; omega)
  refine C.ret ⟨.inr rfl, [(itmV ws).v, .int .i64 (nV ws), .bool (okV ws)], ?_, rfl, k06.trans (S' := (· = h0.next)) (Keep.put _ _ _) fun k hk e => by omega⟩
  simp only [↓reduceIte, EV, Nat.reduceEqDiff, q30, la]
  rfl

end Go.Proofs.YthofbmfcpfibdaaDoor
