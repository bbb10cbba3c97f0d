import Derived.Test.YthofbmfcpfibdaaDoorWdZ
set_option linter.unusedSimpArgs false
set_option linter.unusedVariables false
namespace Go.Proofs.YthofbmfcpfibdaaDoor
open Go.Ev

theorem keep_room (h : H) (n : Nat) : Keep nobody h ⟨h.objs, h.next + n⟩ := ⟨Nat.le_add_right _ _, fun _ _ _ => rfl⟩
theorem hO_self {v : Value} (hv : veq 64 v v = true) (b : Bool) : hO (some v) v b = b := by unfold hO; simp only [hv]
theorem veq_int (k : IntKind) (n : Int) : veq 64 (.int k n) (.int k n) = true := by
  show (kEq k k && iEq n n) = true
  rw [kEq_self, iEq_dec]; simp
theorem veq_str (s : ByteArray) : veq 64 (.string s) (.string s) = true := by
  show leB s.data.toList s.data.toList = true
  rw [leB_eq]; simp
theorem Bld.lt {n0 : Nat} {h : H} {B : Nat} {l : List UInt8} (a : Bld n0 h B l) : B < h.next := by
  obtain ⟨p, v, hb, _⟩ := a; exact hb.1

/-! ### what a good item is -/
structure Itm.good (x : Itm) : Prop where
  ok : x.ok
  err : x.err = 0
theorem Itm.good.key {x : Itm} (g : x.good) : x.key.size ≤ 32 := by
  have := g.err
  unfold Itm.err Itm.long at this
  split at this
  · omega
  · rename_i h
    simp only [Bool.or_eq_true, decide_eq_true_eq, not_or] at h
    omega
theorem Itm.good.val {x : Itm} (g : x.good) : x.val.size ≤ 512 := by
  have := g.err
  unfold Itm.err Itm.long at this
  split at this
  · omega
  · rename_i h
    simp only [Bool.or_eq_true, decide_eq_true_eq, not_or] at h
    omega
theorem Itm.good.till {x : Itm} (g : x.good) : 0 ≤ x.till ∧ x.till ≤ 1099511627776 := by
  have := g.err
  unfold Itm.err at this
  split at this
  · omega
  · split at this
    · rename_i h
      unfold momentB at h
      simpa using h
    · omega
def VAL : List UInt8 := [86, 65, 76, 85, 69]
def parts (x : Itm) : List (List UInt8) := [x.key.data.toList, dec x.flags.toNat, dec x.till.toNat, dec x.uniq.toNat, dec x.val.size]
/-- an item's lines -/
def vline (x : Itm) : List UInt8 := VAL ++ joinR (parts x) ++ [13, 10] ++ x.val.data.toList ++ [13, 10]
theorem parts_len {x : Itm} (g : x.good) : sumL (parts x) ≤ 112 := by
  have h1 := g.key
  have h2 := dec_len 19 x.flags.toNat (by have := g.ok.flags; omega)
  have h3 := dec_len 19 x.till.toNat (by have := g.till; omega)
  have h4 := dec_len 19 x.uniq.toNat (by have := g.ok.uniq; omega)
  have h5 := dec_len 19 x.val.size (by have := g.val; omega)
  have e : x.key.data.toList.length = x.key.size := rfl
  simp only [parts, sumL, e]; omega
theorem vline_len {x : Itm} (g : x.good) : (vline x).length ≤ 700 := by
  have h1 := parts_len g
  have h2 := g.val
  have e : x.val.data.toList.length = x.val.size := rfl
  have h3 := joinR_len (parts x)
  have e2 : (parts x).length = 5 := rfl
  simp only [vline, List.length_append, h3, e, e2, VAL, List.length_cons, List.length_nil]; omega
theorem cat_sv (t : TypeId) (c : Bool) (x y : List UInt8) (h : x.length + y.length ≤ 1000000) : binV Tryd.prog .add t c (sv x) (sv y) = some (sv (x ++ y)) := cat_eq t c x y h
theorem str_sv (s : ByteArray) : Value.string s = sv s.data.toList := rfl
theorem text_u64 {L n : Nat} (hL : 1000 ≤ L) {z : Nat} (hz : z < 18446744073709551616) {h : H} (hG : Has h 1 (.ro powC)) :
    Sp (CF L (n + 5)) 43 [.int .u64 (z : Int)] h fun r h' => r = sv (dec z) ∧ Keep nobody h h' := itext_law L n hL hz hG

theorem item_line (L n : Nat) (hL : 1000 ≤ L) {n0 : Nat} {h : H} {tm : T Value} {b5 B : Nat} {x : Itm} {acc : List UInt8} (g : x.good) (hb : Has h b5 (.rw x.cells (some 48))) (hG : Has h 1 (.ro powC)) (t5 : tg tm 5 = .pointer (some ⟨b5, 0, none⟩)) (t3 : tg tm 3 = .pointer (some ⟨B, 0, none⟩))
    (hB : Bld n0 h B acc) (ha : acc.length ≤ 100000) :
    C ⟨r22_5⟩ (CF L (n + 5)) L tm h fun e tm' h' => e = .norm ∧ tm' = tm ∧ Bld n0 h' B (acc ++ vline x) ∧ Keep (From n0) h h' := fun K hK => by
  have k0 := keep_room h 26
  have hb1 := hb.keep0 k0
  have hG1 := hG.keep0 k0
  have r1 := g.ok.flags
  have r2 := g.till
  have r3 := g.ok.uniq
  have r4 := g.val
  have ld : ∀ (h : H), Has h b5 (.rw x.cells (some 48)) → ∀ o s, loadOne h (.pointer (some ⟨b5, o, s⟩)) = [Value.string x.key, .string x.val, .int .u32 x.flags, .int .i64 x.till, .int .u64 ((x.uniq.toNat : Nat) : Int)][o]? := fun h hb o s => by
    rw [loadOne_has hb rfl, Itm.cells, show ((x.uniq.toNat : Nat) : Int) = x.uniq by have := g.ok.uniq; omega]
  have fl : toInt .u64 (.int .u32 x.flags) = some (.int .u64 ((x.flags.toNat : Nat) : Int)) := by
    rw [toInt_int, show x.flags = ((x.flags.toNat : Nat) : Int) by omega, wrap_u64 _ (by omega)]; rfl
  have ti : toInt .u64 (.int .i64 x.till) = some (.int .u64 ((x.till.toNat : Nat) : Int)) := by
    rw [toInt_int, show x.till = ((x.till.toNat : Nat) : Int) by omega, wrap_u64 _ (by omega)]; rfl
  have vl : toInt .u64 (.int .i64 (x.val.size : Int)) = some (.int .u64 (x.val.size : Int)) := by
    rw [toInt_int, wrap_u64 _ (by omega)]
  have hs1 := hO_self (veq_str x.val)
  have hs0 := hO_self (veq_str x.key)
  have hs3 := hO_self (veq_int .i64 x.till)
  have hs4 := hO_self (veq_int .u64 ((x.uniq.toNat : Nat) : Int))
  show (⟨r22_5⟩ : Box CodeT).f (CF L (n + 5)) L tm [] h K = true
  simp only [r22_5, EV, t5, ld _ hb1, fl, ti, vl, lenStr_string]
  refine text_u64 hL (by omega) hG1 _ fun v1 h1 hv => ?_
  obtain ⟨rfl, k1⟩ := hv
  simp only [EV, ld _ (hb1.keep0 k1), hs0, hs1, hs3, hs4, Bool.and_true]
  refine text_u64 hL (by omega) (hG1.keep0 k1) _ fun v2 h2 hv => ?_
  obtain ⟨rfl, k2⟩ := hv
  have k2 := k1.then k2
  simp only [EV, ld _ (hb1.keep0 k2), hs0, hs1, hs4]
  refine text_u64 hL (by omega) (hG1.keep0 k2) _ fun v3 h3 hv => ?_
  obtain ⟨rfl, k3⟩ := hv
  have k3 := k2.then k3
  simp only [EV, ld _ (hb1.keep0 k3), hs0, hs1]
  refine text_u64 hL (by omega) (hG1.keep0 k3) _ fun v4 h4 hv => ?_
  obtain ⟨rfl, k4⟩ := hv
  have k4 := k3.then k4
  have lit : mkLit 9 6 (h.next + 18) (fill (repl [(.string (strB []))] 6) (pl 1) [(0, (.string (strB [86, 65, 76, 85, 69]))), (1, .string x.key), (2, sv (dec x.flags.toNat)), (3, sv (dec x.till.toNat)), (4, sv (dec x.uniq.toNat)), (5, sv (dec x.val.size))]) = some (.rw ((VAL :: parts x).map sv) (some 9), .slice (some ⟨h.next + 18, 0, none⟩) 6 6) := rfl
  simp only [EV, ld _ (hb1.keep0 k4), hs0, hs1, lit]
  have n4 := k4.next
  simp only at n4
  have kp := Keep.put h4 (h.next + 18) (.rw ((VAL :: parts x).map sv) (some 9))
  have hR : Has (h4.put (h.next + 18) (.rw ((VAL :: parts x).map sv) (some 9))) (h.next + 18) (.rw ((VAL :: parts x).map sv) (some 9)) := Has.put (by omega)
  have kk : Keep nobody h (h4.put (h.next + 18) (.rw ((VAL :: parts x).map sv) (some 9))) := (k0.then k4).trans kp fun k hk e => by omega
  generalize h4.put (h.next + 18) (.rw ((VAL :: parts x).map sv) (some 9)) = h5 at *
  have hs := parts_len g
  have hj := join_law L (n + 1) (p0 := VAL) (ps := parts x) hR (show 0 < 5 by omega) (by show 5 + 5 + _ ≤ _; omega) (by show 5 + 1 < L; omega) (by decide)
  refine hj _ fun v6 h6 hv => ?_
  obtain ⟨rfl, k6⟩ := hv
  have k7 := kk.then k6
  have hb6 := hb.keep0 k7
  have jl : (VAL ++ joinR (parts x)).length ≤ 200 := by
    have h3 := joinR_len (parts x)
    have e2 : (parts x).length = 5 := rfl
    simp only [List.length_append, h3, e2, VAL, List.length_cons, List.length_nil]; omega
  have e : x.val.data.toList.length = x.val.size := rfl
  have c1 : binV Tryd.prog .add 9 true (.string ⟨(VAL ++ joinR (parts x)).toArray⟩) (.string (strB [13, 10])) = some (sv (VAL ++ joinR (parts x) ++ [13, 10])) := cat_sv 9 true _ [13, 10] (by simp only [List.length_cons, List.length_nil]; omega)
  have c2 : binV Tryd.prog .add 9 false (sv (VAL ++ joinR (parts x) ++ [13, 10])) (.string x.val) = some (sv (VAL ++ joinR (parts x) ++ [13, 10] ++ x.val.data.toList)) := by
    rw [str_sv]
    exact cat_sv 9 false _ _ (by rw [List.length_append]; simp only [e, List.length_cons, List.length_nil]; omega)
  have c3 : binV Tryd.prog .add 9 true (sv (VAL ++ joinR (parts x) ++ [13, 10] ++ x.val.data.toList)) (.string (strB [13, 10])) = some (sv (vline x)) := cat_sv 9 true _ [13, 10] (by rw [List.length_append, List.length_append]; simp only [e, List.length_cons, List.length_nil]; omega)
  simp only [EV, ld _ hb6, hs1, c1, c2, c3, t3]
  have hl := vline_len g
  refine writeString_law L (n + 2) (hB.keep k7 fun _ e => e.elim) (m := vline x) (by omega) _ fun v8 h8 hv => ?_
  obtain ⟨B8, k8⟩ := hv
  exact hK _ _ _ ⟨rfl, rfl, B8, (k7.mono fun _ _ e => e.elim).trans k8 fun _ _ e => e⟩
end Go.Proofs.YthofbmfcpfibdaaDoor

namespace Go.Proofs.YthofbmfcpfibdaaDoor
open Go.Ev

def rIx (k : Nat) : Nat := [6, 5, 0, 0, 0, 0, 1, 1, 0, 2, 3, 4].getD k 6
def rowL (k : Nat) : List UInt8 := (rowN.getD k (strB [])).data.toList
theorem rows_ok : (List.range 12).all (fun k => Nat.beq k 0 || ((List.range 6).all (fun j => (leB (rowsN.getD j (strB [])).data.toList (rowL k) == Nat.beq j (rIx k))) && Nat.blt (rIx k) 6 && leB (rowsN.getD (rIx k) (strB [])).data.toList (rowL k) && Nat.ble 1 (rowL k).length && Nat.ble (rowL k).length 10)) = true := by kernel_rfl
theorem row_eq {k j : Nat} (h1 : 1 ≤ k) (h2 : k ≤ 11) (hj : j < 6) : leB (rowsN.getD j (strB [])).data.toList (rowL k) = Nat.beq j (rIx k) := by
  have h := List.all_eq_true.1 rows_ok k (List.mem_range.2 (by omega))
  simp only [Bool.or_eq_true, Bool.and_eq_true] at h
  rcases h with h | ⟨⟨⟨⟨h, _⟩, _⟩, _⟩, _⟩
  · have := Nat.eq_of_beq_eq_true h; omega
  · simpa using List.all_eq_true.1 h j (List.mem_range.2 hj)
theorem row_at {k : Nat} (h1 : 1 ≤ k) (h2 : k ≤ 11) : rIx k < 6 ∧ (rowsN.getD (rIx k) (strB [])).data.toList = rowL k ∧ 1 ≤ (rowL k).length ∧ (rowL k).length ≤ 10 := by
  have h := List.all_eq_true.1 rows_ok k (List.mem_range.2 (by omega))
  simp only [Bool.or_eq_true, Bool.and_eq_true] at h
  rcases h with h | ⟨⟨⟨⟨_, h⟩, h3⟩, h4⟩, h5⟩
  · have := Nat.eq_of_beq_eq_true h; omega
  · rw [leB_eq] at h3
    exact ⟨by simpa using h, by simpa using h3, Nat.le_of_ble_eq_true h4, Nat.le_of_ble_eq_true h5⟩
theorem rows_ix : ∀ i : Nat, i < 6 → indexAgg false 1 6 (.agg (rowsN.map Value.string).toArray) (.int .i64 (i : Int)) = some (.string (rowsN.getD i (strB [])))
  | 0, _ => rfl
  | 1, _ => rfl
  | 2, _ => rfl
  | 3, _ => rfl
  | 4, _ => rfl
  | 5, _ => rfl
  | n + 6, h => by omega

def cntL (k : Nat) (num : Int) : List UInt8 := if countsB k then 32 :: dec num.toNat else []
def doneL (a : Ans) (k : Nat) : List UInt8 := a.r.items.flatMap vline ++ rowL k ++ cntL k a.r.num
theorem flat_len : ∀ l : List Itm, (∀ x ∈ l, x.good) → (l.flatMap vline).length ≤ 700 * l.length
  | [], _ => by simp
  | x :: l, h => by
    have h1 := flat_len l fun y hy => h y (by simp [hy])
    have h2 := vline_len (h x (by simp))
    simp only [List.flatMap_cons, List.length_append, List.length_cons]; omega
theorem flat_take {l : List Itm} {i : Nat} {x : Itm} (h : l[i]? = some x) : (l.take (i + 1)).flatMap vline = (l.take i).flatMap vline ++ vline x := by
  rw [List.take_add_one, h, List.flatMap_append]; simp

section
variable {L n : Nat} {n0 : Nat} {h0 : H} {a : Ans} {k B b1 : Nat}
theorem items_loop (hL : 1000 ≤ L) (hg : ∀ x ∈ a.r.items, x.good) (h8 : a.r.items.length ≤ 8) {h : H} {tm : T Value} (hi : ItemsAt h a.r.iv a.r.items) (hold : ∀ b, blk a.r.iv b → b < n0) (hG : Has h 1 (.ro powC)) (hn1 : 1 < n0)
    (hB : Bld n0 h B []) (hn0 : n0 ≤ h.next) {t1 : Value} (e1 : tg tm 1 = t1)
    (t3 : tg tm 3 = .pointer (some ⟨B, 0, none⟩)) (t10 : tg tm 10 = a.r.iv) (t11 : tg tm 11 = .int .i64 (a.r.items.length : Int)) (t12 : tg tm 12 = .int .i64 0) :
    C (loopB l22_7) (CF L (n + 5)) L tm h fun e tm' h' => e = .exit 0 ∧ Bld n0 h' B (a.r.items.flatMap vline) ∧ Keep (From n0) h h' ∧ tg tm' 1 = t1 ∧ tg tm' 3 = .pointer (some ⟨B, 0, none⟩) := by
  refine C.loop (fun k tm h' => ∃ i : Nat, k = a.r.items.length - i ∧ i ≤ a.r.items.length ∧ Bld n0 h' B ((a.r.items.take i).flatMap vline) ∧ Keep (From n0) h h' ∧ tg tm 1 = t1 ∧ tg tm 3 = .pointer (some ⟨B, 0, none⟩) ∧ tg tm 10 = a.r.iv ∧ tg tm 11 = .int .i64 (a.r.items.length : Int) ∧ tg tm 12 = .int .i64 (i : Int)) a.r.items.length (by omega) ⟨0, rfl, Nat.zero_le _, hB, .refl _ _, e1, t3, t10, t11, t12⟩ fun k tm h' hh => ?_
  obtain ⟨i, hk, hii, hB, kp, e1, t3, t10, t11, t12⟩ := hh
  refine C.seq fun K hK => ?_
  by_cases g : i < a.r.items.length
  · have g' : (i : Int) < (a.r.items.length : Int) := by omega
    obtain ⟨x, hx⟩ : ∃ x, a.r.items[i]? = some x := ⟨_, List.getElem?_eq_getElem g⟩
    have gx := hg x (List.mem_of_getElem? hx)
    obtain ⟨b, o, ex, _, _, _, el⟩ := (hi.keep kp fun b hb e => by have := hold b hb; unfold From at e; omega).at hx
    simp only [EV, r22_3, t11, t12, decide_eq_true g']
    refine hK .norm _ _ (C.seq (C.cond true (by simp only [↓reduceIte, EV]) (fun _ => C.skip (C.seq (C.block (C.seq fun K hK => ?_)))) fun g => by cases g))
    have st := store_new h' 5 none [(.string (strB [])), (.string (strB [])), (.int .u32 (0)), (.int .i64 (0)), (.int .u64 (0))] (some 48) x.v rfl rfl rfl
    have ka := keep_alloc h' (.rw [(.string (strB [])), (.string (strB [])), (.int .u32 (0)), (.int .i64 (0)), (.int .u64 (0))] (some 48)) (.rw x.cells (some 48))
    have ba := has_alloc h' (.rw [(.string (strB [])), (.string (strB [])), (.int .u32 (0)), (.int .i64 (0)), (.int .u64 (0))] (some 48)) (.rw x.cells (some 48))
    have ec : (Value.cells x.v).toList = x.cells := rfl
    rw [ec] at st
    simp only [↓reduceIte, ↓EW, EV, Nat.reduceEqDiff, r22_4, t10, t12, ex, el, ptrTo, st]
    generalize (h'.new (.rw [(.string (strB [])), (.string (strB [])), (.int .u32 (0)), (.int .i64 (0)), (.int .u64 (0))] (some 48))).put h'.next (.rw x.cells (some 48)) = h2 at *
    refine hK .norm _ _ ?_
    have hlen : ((a.r.items.take i).flatMap vline).length ≤ 700 * 8 := by
      have := flat_len (a.r.items.take i) fun x hx => hg x (List.mem_of_mem_take hx)
      rw [List.length_take] at this
      omega
    have hG2 : Has h2 1 (.ro powC) := (hG.keep kp (by unfold From; omega)).keep0 ka
    refine (item_line L n hL gx ba hG2 (by simp only [↓reduceIte, EV]) (by simp only [↓reduceIte, EV, Nat.reduceEqDiff, t3]) (hB.keep ka fun _ e => e.elim) (by omega)).mono fun e tm' h3 hq => ?_
    obtain ⟨rfl, rfl, B3, k3⟩ := hq
    intro K hK
    have w3 : IntKind.i64.wrap ((i : Int) + 1) = ((i + 1 : Nat) : Int) := by rw [wrap_big (by omega) (by omega)]; omega
    simp only [↓reduceIte, EV, Nat.reduceEqDiff, r22_6, t12, w3]
    refine hK .norm _ _ ⟨a.r.items.length - (i + 1), by omega, i + 1, rfl, by omega, ?_, (kp.trans (ka.mono (S' := From n0) fun _ _ e => e.elim) fun _ _ e => e).trans k3 fun _ _ e => e, ?_, ?_, ?_, ?_, ?_⟩
    · rw [flat_take hx]; exact B3
    all_goals simp only [↓reduceIte, EV, Nat.reduceEqDiff, e1, t3, t10, t11]
  · have g' : ¬ (i : Int) < (a.r.items.length : Int) := by omega
    obtain rfl : i = a.r.items.length := by omega
    rw [List.take_length] at hB
    simp only [EV, r22_3, t11, t12, decide_eq_false g']
    refine hK .norm _ _ (C.seq (C.cond false (by simp only [↓reduceIte, EV]) (fun g => by cases g) fun _ => C.exit ⟨rfl, hB, kp, by simp only [↓reduceIte, EV, Nat.reduceEqDiff, e1], by simp only [↓reduceIte, EV, Nat.reduceEqDiff, t3]⟩))
theorem rows_loop (hL : 1000 ≤ L) (h1 : 1 ≤ k) (h2 : k ≤ 11) {h : H} {tm : T Value} {acc : List UInt8} (ha : acc.length ≤ 10000) (hB : Bld n0 h B acc) (e1 : tg tm 1 = .pointer (some ⟨b1, 0, none⟩)) (t3 : tg tm 3 = .pointer (some ⟨B, 0, none⟩)) {x : AObj} {cs : List Value} (hb : Has h b1 x) (hx : x.cells? = some cs) (hc : cs[1]? = some (.int .u8 (k : Int))) (hb1 : b1 < n0)
    (t43 : tg tm 43 = .agg (rowsN.map Value.string).toArray) (t44 : tg tm 44 = .int .i64 0) :
    C (loopB l22_14) (CF L (n + 5)) L tm h fun e tm' h' => e = .exit 2 ∧ Bld n0 h' B (acc ++ rowL k) ∧ Keep (From n0) h h' ∧ tg tm' 1 = .pointer (some ⟨b1, 0, none⟩) ∧ tg tm' 3 = .pointer (some ⟨B, 0, none⟩) := by
  obtain ⟨r1, r2, r3, r4⟩ := row_at h1 h2
  refine C.loop (fun kk tm h' => ∃ i : Nat, kk = 6 - i ∧ i ≤ 6 ∧ Bld n0 h' B (if rIx k < i then acc ++ rowL k else acc) ∧ Keep (From n0) h h' ∧ tg tm 1 = .pointer (some ⟨b1, 0, none⟩) ∧ tg tm 3 = .pointer (some ⟨B, 0, none⟩) ∧ tg tm 43 = .agg (rowsN.map Value.string).toArray ∧ tg tm 44 = .int .i64 (i : Int)) 6 (by omega) ⟨0, rfl, Nat.zero_le _, hB, .refl _ _, e1, t3, t43, t44⟩ fun kk tm h' hh => ?_
  obtain ⟨i, hk, hii, hB, kp, e1, t3, t43, t44⟩ := hh
  refine C.seq fun K hK => ?_
  by_cases g : i < 6
  · have g' : (i : Int) < 6 := by omega
    have hb' := hb.keep kp (by unfold From; omega)
    have l1 : ∀ s, loadOne h' (.pointer (some ⟨b1, 1, s⟩)) = some (.int .u8 (k : Int)) := fun s => by rw [loadOne_has hb' hx, hc]
    simp only [EV, r22_8, t44, decide_eq_true g']
    refine hK .norm _ _ (C.seq (C.cond true (by simp only [↓reduceIte, EV]) (fun _ => C.skip (C.seq (C.block (C.seq fun K hK => ?_)))) fun g => by cases g))
    simp only [↓reduceIte, EV, Nat.reduceEqDiff, r22_9, t43, t44, rows_ix i g]
    refine hK .norm _ _ (C.seq fun K hK => ?_)
    simp only [↓reduceIte, EV, Nat.reduceEqDiff, r22_10, e1, l1]
    refine of_law L (n + 4) _ k h1 h2 h' _ fun r h2' hq => ?_
    obtain ⟨rfl, rfl⟩ := hq
    have rq := row_eq h1 h2 g
    unfold rowL at rq
    simp only [rq]
    have w3 : IntKind.i64.wrap ((i : Int) + 1) = ((i + 1 : Nat) : Int) := by rw [wrap_big (by omega) (by omega)]; omega
    by_cases gi : i = rIx k
    · have e := Nat.beq_refl i
      have hbq : Nat.beq i (rIx k) = true := by rw [← gi]; exact e
      simp only [hbq]
      rw [if_neg (by omega)] at hB
      refine hK .norm _ _ (C.cond true (by simp only [↓reduceIte, EV]) (fun _ => fun K hK => ?_) fun g => by cases g)
      simp only [↓reduceIte, EV, Nat.reduceEqDiff, r22_11, t3]
      have hrow : (Value.string (rowsN.getD i (strB []))) = .string ⟨(rowL k).toArray⟩ := by
        rw [gi, ← r2]
      rw [hrow]
      refine writeString_law L (n + 2) hB (m := rowL k) (by omega) _ fun r h3 hq => ?_
      obtain ⟨B3, k3⟩ := hq
      refine hK .norm _ _ fun K hK => ?_
      simp only [↓reduceIte, EV, Nat.reduceEqDiff, r22_12, t44, w3]
      refine hK .norm _ _ ⟨6 - (i + 1), by omega, i + 1, rfl, by omega, ?_, kp.trans k3 fun _ _ e => e, ?_, ?_, ?_, ?_⟩
      · rw [if_pos (by omega)]; exact B3
      all_goals simp only [↓reduceIte, EV, Nat.reduceEqDiff, e1, t3, t43]
    · have hbq : Nat.beq i (rIx k) = false := by
        rw [Bool.eq_false_iff]; intro e; exact gi (Nat.eq_of_beq_eq_true e)
      simp only [hbq]
      refine hK .norm _ _ (C.cond false (by simp only [↓reduceIte, EV]) (fun g => by cases g) fun _ => C.skip fun K hK => ?_)
      simp only [↓reduceIte, EV, Nat.reduceEqDiff, r22_12, t44, w3]
      refine hK .norm _ _ ⟨6 - (i + 1), by omega, i + 1, rfl, by omega, ?_, kp, ?_, ?_, ?_, ?_⟩
      · by_cases gl : rIx k < i
        · rw [if_pos gl] at hB; rw [if_pos (by omega)]; exact hB
        · rw [if_neg gl] at hB; rw [if_neg (by omega)]; exact hB
      all_goals simp only [↓reduceIte, EV, Nat.reduceEqDiff, e1, t3, t43]
  · have g' : ¬ (i : Int) < 6 := by omega
    rw [if_pos (by omega)] at hB
    simp only [EV, r22_8, t44, decide_eq_false g']
    refine hK .norm _ _ (C.seq (C.cond false (by simp only [↓reduceIte, EV]) (fun g => by cases g) fun _ => C.exit ⟨rfl, hB, kp, by simp only [↓reduceIte, EV, Nat.reduceEqDiff, e1], by simp only [↓reduceIte, EV, Nat.reduceEqDiff, t3]⟩))
end
theorem doneL_len {a : Ans} {k : Nat} (h1 : 1 ≤ k) (h2 : k ≤ 11) (hg : ∀ x ∈ a.r.items, x.good) (h8 : a.r.items.length ≤ 8) (hn : 0 ≤ a.r.num ∧ a.r.num < 18446744073709551616) : (doneL a k).length ≤ 6000 ∧ doneL a k ≠ [] := by
  have e1 := flat_len a.r.items hg
  obtain ⟨_, _, r3, r4⟩ := row_at h1 h2
  have e2 := dec_len 19 a.r.num.toNat (by omega)
  have e3 : (cntL k a.r.num).length ≤ 21 := by
    unfold cntL; split
    · simp only [List.length_cons]; omega
    · simp
  constructor
  · simp only [doneL, List.length_append]; omega
  · intro e
    have := congrArg List.length e
    simp only [doneL, List.length_append, List.length_nil] at this
    omega
theorem done_law (L n : Nat) (hL : 1000 ≤ L) {a : Ans} {k : Nat} {h : H} (hk : a.of = (k : Int)) (h1 : 1 ≤ k) (h2 : k ≤ 11) (hg : ∀ x ∈ a.r.items, x.good) (h8 : a.r.items.length ≤ 8) (hn : 0 ≤ a.r.num ∧ a.r.num < 18446744073709551616) (hi : ItemsAt h a.r.iv a.r.items) (hlt : ∀ b, blk a.r.iv b → b < h.next) (hG : Has h 1 (.ro powC)) :
    Sp (CF L (n + 6)) 22 [a.v] h fun r h' => r = sv (doneL a k) ∧ Keep nobody h h' := by
  refine Sp.body f22 (by simp) ?_
  unfold c22
  refine C.seq fun K hK => ?_
  have hc : (Value.cells a.v).toList = a.cells := rfl
  simp only [↓reduceIte, ↓EW, EV, r22_0, hc]
  have k1 := Keep.new h (.rw a.cells (some 27))
  have b1 := Has.new h (.rw a.cells (some 27))
  have hi1 := hi.keep0 k1
  have hG1 := hG.keep0 k1
  have hn1 : (h.new (.rw a.cells (some 27))).next = h.next + 1 := rfl
  generalize h.new (.rw a.cells (some 27)) = h1' at *
  refine hK .norm _ _ (C.seq fun K hK => ?_)
  simp only [↓EW, EV, r22_1]
  have k2 := Keep.new h1' (.rw [(.pointer none), (.slice none 0 0)] (some 74))
  have B2 := Bld.fresh (n0 := h.next + 1) h1' (by omega)
  have b2 := b1.keep0 k2
  have hi2 := hi1.keep0 k2
  have hG2 := hG1.keep0 k2
  have hn2 : (h1'.new (.rw [(.pointer none), (.slice none 0 0)] (some 74))).next = h1'.next + 1 := rfl
  generalize h1'.new (.rw [(.pointer none), (.slice none 0 0)] (some 74)) = h2' at *
  refine hK .norm _ _ (C.seq (C.seq fun K hK => ?_))
  have l3 : ∀ s, loadOne h2' (.pointer (some ⟨h.next, 3, s⟩)) = some a.r.iv := fun s => loadOne_has b2 rfl
  simp only [↓reduceIte, EV, Nat.reduceAdd, Nat.reduceEqDiff, r22_2, l3, hi2.len]
  have hgt : 1 < h.next + 1 := by have := hG.1; omega
  refine hK .norm _ _ (C.block ((items_loop (L := L) (n := n) (a := a) (B := h1'.next) (n0 := h.next + 1) hL hg h8 hi2 (fun b hb => by have := hlt b hb; omega) hG2 hgt B2 (by omega) (t1 := .pointer (some ⟨h.next, 0, none⟩)) (by simp only [↓reduceIte, EV, Nat.reduceEqDiff]) (by simp only [↓reduceIte, EV, Nat.reduceEqDiff]) (by simp only [↓reduceIte, EV, Nat.reduceEqDiff]) (by simp only [↓reduceIte, EV, Nat.reduceEqDiff]) (by simp only [↓reduceIte, EV])).mono ?_))
  rintro e tm3 h3 ⟨rfl, B3, k3, t1, t3⟩
  show if 0 = 0 then _ else _
  rw [if_pos rfl]
  have b3 := b2.keep k3 (by unfold From; omega)
  have hG3 := hG2.keep k3 (by unfold From; omega)
  refine C.seq (C.seq fun K hK => ?_)
  simp only [r22_7]
  refine rows_law L (n + 4) h3 _ fun r h4 hq => ?_
  obtain ⟨rfl, k4⟩ := hq
  have e1 := flat_len a.r.items hg
  refine hK .norm _ _ (C.block ((rows_loop (L := L) (n := n) (k := k) (b1 := h.next) hL h1 h2 (acc := a.r.items.flatMap vline) (by omega) (B3.keep k4 fun _ e => e.elim) (by simp only [↓reduceIte, EV, Nat.reduceEqDiff, t1]) (by simp only [↓reduceIte, EV, Nat.reduceEqDiff, t3]) (b3.keep0 k4) rfl (by rw [← hk]; rfl) (by omega) (by simp only [↓reduceIte, EV, Nat.reduceEqDiff]) (by simp only [↓reduceIte, EV])).mono ?_))
  rintro e tm5 h5 ⟨rfl, B5, k5, t1, t3⟩
  show if 2 = 2 then _ else _
  rw [if_pos rfl]
  have b5 := (b3.keep0 k4).keep k5 (by unfold From; omega)
  have hG5 := (hG3.keep0 k4).keep k5 (by unfold From; omega)
  obtain ⟨_, _, r3, r4⟩ := row_at h1 h2
  have kk : Keep (From (h.next + 1)) h h5 := ((((k1.then k2).mono fun _ _ e => e.elim).trans k3 fun _ _ e => e).trans (k4.mono (S' := From (h.next + 1)) fun _ _ e => e.elim) fun _ _ e => e).trans k5 fun _ _ e => e
  have fin : ∀ (tm : T Value) (h6 : H), tg tm 3 = .pointer (some ⟨h1'.next, 0, none⟩) → Bld (h.next + 1) h6 h1'.next (doneL a k) → Keep (From (h.next + 1)) h h6 → C ⟨seqC ⟨r22_15⟩ retC⟩ (CF L (n + 5)) L tm h6 fun e tm h' => (e = .norm ∨ e = .ret) ∧ ∃ l, q22.f tm h' = some l ∧ resOf l = sv (doneL a k) ∧ Keep nobody h h' := fun tm h6 t3 B6 k6 => by
    refine C.seq fun K hK => ?_
    obtain ⟨l1, l2⟩ := doneL_len h1 h2 hg h8 hn
    simp only [r22_15, t3]
    refine string_law L (n + 4) B6 l2 (by omega) _ fun r h7 hq => ?_
    obtain ⟨rfl, k7⟩ := hq
    refine hK .norm _ _ (C.ret ⟨.inr rfl, _, rfl, ?_, (k6.trans k7 fun _ _ e => e).mono fun b hb e => by unfold From at e; omega⟩)
    simp only [↓reduceIte, EV, resOf]; rfl
  have l1 : ∀ s, loadOne h5 (.pointer (some ⟨h.next, 1, s⟩)) = some (.int .u8 (k : Int)) := fun s => by rw [loadOne_has b5 rfl, ← hk]; rfl
  refine C.seq (C.seq fun K hK => ?_)
  simp only [EV, r22_13, t1, l1]
  refine words_counts L (n + 4) _ h5 _ fun r h6 hq => ?_
  obtain ⟨rfl, rfl⟩ := hq
  by_cases gc : countsB (k : Int) = true
  · simp only [gc]
    refine hK .norm _ _ (C.cond true (by simp only [↓reduceIte, EV]) (fun _ => fun K hK => ?_) fun g => by cases g)
    have l4 : ∀ s, loadOne h6 (.pointer (some ⟨h.next, 4, s⟩)) = some (.int .u64 ((a.r.num.toNat : Nat) : Int)) := fun s => by
      rw [loadOne_has b5 rfl, show ((a.r.num.toNat : Nat) : Int) = a.r.num by omega]; rfl
    simp only [↓reduceIte, EV, Nat.reduceAdd, Nat.reduceEqDiff, r22_14, t1, l4]
    refine text_u64 hL (by omega) hG5 _ fun r h7 hq => ?_
    obtain ⟨rfl, k7⟩ := hq
    have e2 := dec_len 19 a.r.num.toNat (by omega)
    have c1 : binV Tryd.prog .add 9 true (.string (strB [32])) (sv (dec a.r.num.toNat)) = some (.string ⟨(32 :: dec a.r.num.toNat).toArray⟩) := cat_sv 9 true [32] _ (by simp only [List.length_cons, List.length_nil]; omega)
    simp only [EV, c1, t3]
    refine writeString_law L (n + 2) (B5.keep k7 fun _ e => e.elim) (m := 32 :: dec a.r.num.toNat) (by rw [List.length_append]; simp only [List.length_cons]; omega) _ fun r h8' hq => ?_
    obtain ⟨B8, k8⟩ := hq
    refine hK .norm _ _ (fin _ _ (by simp only [↓reduceIte, EV, Nat.reduceEqDiff, t3]) ?_ ((kk.trans (k7.mono (S' := From (h.next + 1)) fun _ _ e => e.elim) fun _ _ e => e).trans k8 fun _ _ e => e))
    have : doneL a k = a.r.items.flatMap vline ++ rowL k ++ (32 :: dec a.r.num.toNat) := by
      simp only [doneL, cntL, gc, if_pos]
    rw [this]; exact B8
  · have gc' : countsB (k : Int) = false := by simpa using gc
    simp only [gc']
    refine hK .norm _ _ (C.cond false (by simp only [↓reduceIte, EV]) (fun g => by cases g) fun _ => C.skip (fin _ _ (by simp only [↓reduceIte, EV, Nat.reduceEqDiff, t3]) ?_ kk))
    have : doneL a k = a.r.items.flatMap vline ++ rowL k := by
      simp [doneL, cntL, gc']
    rw [this]; exact B5
end Go.Proofs.YthofbmfcpfibdaaDoor

namespace Go.Proofs.YthofbmfcpfibdaaDoor
open Go.Ev

theorem cat_str (t : TypeId) (c : Bool) (x : List UInt8) (s : ByteArray) (h : x.length + s.size ≤ 1000000) : binV Tryd.prog .add t c (sv x) (.string s) = some (sv (x ++ s.data.toList)) := by
  rw [str_sv]; exact cat_sv t c _ _ h
theorem arr_size (l : List UInt8) : (⟨l.toArray⟩ : ByteArray).size = l.length := by simp [ByteArray.size]
theorem list_size (s : ByteArray) : s.data.toList.length = s.size := rfl
end Go.Proofs.YthofbmfcpfibdaaDoor

namespace Go.Proofs.YthofbmfcpfibdaaDoor
open Go.Ev

structure May (a : Ans) : Prop where
  kind : 1 ≤ a.kind ∧ a.kind ≤ 7
  one : a.kind = 1 → (1 ≤ a.of ∧ a.of ≤ 11) ∧ (1 ≤ a.r.kind ∧ a.r.kind ≤ 7)
  few : a.r.items.length ≤ 8
  good : ∀ x ∈ a.r.items, x.err = 0
  key : a.key.size ≤ 32
theorem may_of {a : Ans} (h : mayB a = true) : May a := by
  unfold mayB at h
  simp only [Bool.and_eq_true] at h
  obtain ⟨⟨h1, h2⟩, _⟩ := h
  have hk : a.key.size ≤ 32 := by
    unfold keyB at h2
    split at h2
    · simp only [Bool.and_eq_true, decide_eq_true_eq] at h2; omega
    · simp only [decide_eq_true_eq] at h2; omega
  unfold bodyB at h1
  split at h1
  · rename_i hk1
    unfold resultB kindsB at h1
    simp only [Bool.and_eq_true, Bool.not_eq_true', Bool.or_eq_false_iff, decide_eq_false_iff_not] at h1
    obtain ⟨⟨⟨h3, h4⟩, h5⟩, h6⟩ := h1
    refine ⟨by omega, fun _ => by omega, by omega, fun x hx => ?_, hk⟩
    unfold goodItems at h6
    simpa using List.all_eq_true.1 h6 x hx
  · rename_i hk1
    unfold zeroB at h1
    simp only [Bool.and_eq_true, decide_eq_true_eq] at h1
    obtain ⟨⟨h3, h4⟩, ⟨⟨_, _⟩, h5⟩⟩ := h1
    have h6 : a.r.items.length = 0 := by omega
    refine ⟨by omega, fun e => absurd e hk1, by omega, fun x hx => ?_, hk⟩
    rw [List.length_eq_zero_iff.1 h6] at hx; cases hx
def sWelcome : ByteArray := strB [87, 69, 76, 67, 79, 77, 69]
def sUnknown : ByteArray := strB [85, 78, 75, 78, 79, 87, 78]
def sTracked : ByteArray := strB [84, 82, 65, 67, 75, 69, 68]
def sUntracked : ByteArray := strB [85, 78, 84, 82, 65, 67, 75, 69, 68]
/-- the lines of an answer, without the last end -/
def linesL (a : Ans) : List UInt8 :=
  if a.kind = 1 then (if a.r.kind = 1 then doneL a a.of.toNat else (wordN.getD a.r.kind.toNat (strB [])).data.toList)
  else if a.kind = 2 then (if a.yes = true then sWelcome else sUnknown).data.toList
  else if a.kind = 3 then (if a.yes = true then sTracked else sUntracked).data.toList
  else if a.kind = 4 then [80, 79, 78, 71]
  else if a.kind = 5 then [66, 89, 69]
  else if a.kind = 6 then [69, 82, 82, 79, 82]
  else [80, 85, 83, 72, 32] ++ a.key.data.toList
structure Ans.fit (a : Ans) : Prop where
  num : 0 ≤ a.r.num ∧ a.r.num < 18446744073709551616
  items : ∀ x ∈ a.r.items, x.ok
section
variable {L n : Nat} {h0 : H} {a : Ans} {b1 : Nat}
end
end Go.Proofs.YthofbmfcpfibdaaDoor
