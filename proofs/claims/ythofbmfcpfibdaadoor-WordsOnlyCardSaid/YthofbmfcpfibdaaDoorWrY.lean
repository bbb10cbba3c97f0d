import Derived.Test.YthofbmfcpfibdaaDoorWrO
set_option linter.unusedSimpArgs false
set_option linter.unusedVariables false
set_option maxRecDepth 100000
namespace Go.Proofs.YthofbmfcpfibdaaDoor
open Go.Ev

def withIv (a : Ans) (iv : Value) : Ans := { a with r := { a.r with iv := iv } }
def chain : List Bool → Option Bool
  | [] => some true
  | b :: r => match some b with
    | some true => chain r
    | some false => some false
    | none => none
theorem eqv_item (k v : ByteArray) (f u q : Int) : eqV Tryd.prog 200 48 (.agg #[.string k, .string v, .int .u32 f, .int .i64 u, .int .u64 q]) (.agg #[.string k, .string v, .int .u32 f, .int .i64 u, .int .u64 q]) = chain [leB k.data.toList k.data.toList, leB v.data.toList v.data.toList, iEq f f, iEq u u, iEq q q] := by kernel_rfl
theorem guard48 : Program.eqGuardType Tryd.prog (Program.depth Tryd.prog) 48 = false := by kernel_rfl
theorem item_neq (x : Itm) : binV Tryd.prog .neq 48 false x.v x.v = some (.bool false) := by
  show aggEq Tryd.prog .neq 48 x.v x.v = _
  unfold aggEq
  rw [guard48]
  show boolRes .neq (eqV Tryd.prog 200 48 x.v x.v) = _
  have := eqv_item x.key x.val x.flags x.till x.uniq
  rw [show x.v = .agg #[.string x.key, .string x.val, .int .u32 x.flags, .int .i64 x.till, .int .u64 x.uniq] from rfl, this]
  simp only [leB_eq, iEq_dec, decide_true, beq_self_eq_true, chain]
  rfl

/-- two results that hold the same are the same -/
theorem res_same (L n : Nat) (kd nm : Int) (v1 v2 : Value) (l : List Itm) (h : H) (i1 : ItemsAt h v1 l) (i2 : ItemsAt h v2 l) (hL : l.length < L) (hl : l.length < 1000000) :
    Sp (CF L (n + 1)) 36 [.agg [.int .u8 kd, v1, .int .u64 nm].toArray, .agg [.int .u8 kd, v2, .int .u64 nm].toArray] h fun r h' => r = .bool true ∧ Keep nobody h h' := by
  refine Sp.body f36 (by simp) ?_
  have k1 := Keep.new h (.rw [.int .u8 kd, v1, .int .u64 nm] (some 25))
  have b1 := Has.new h (.rw [.int .u8 kd, v1, .int .u64 nm] (some 25))
  have n1 : (h.new (.rw [.int .u8 kd, v1, .int .u64 nm] (some 25))).next = h.next + 1 := rfl
  unfold c36
  refine C.seq fun K hK => ?_
  simp only [↓reduceIte, ↓EW, EV, Nat.reduceAdd, Nat.reduceEqDiff, r36_0]
  generalize h.new (.rw [.int .u8 kd, v1, .int .u64 nm] (some 25)) = h1 at *
  have k2 := Keep.new h1 (.rw [.int .u8 kd, v2, .int .u64 nm] (some 25))
  have b2 := Has.new h1 (.rw [.int .u8 kd, v2, .int .u64 nm] (some 25))
  generalize h1.new (.rw [.int .u8 kd, v2, .int .u64 nm] (some 25)) = h2 at *
  have b1' := b1.keep0 k2
  have k12 := k1.then k2
  have ld1 : ∀ hx, Keep nobody h2 hx → ∀ o s, loadOne hx (.pointer (some ⟨h.next, o, s⟩)) = [.int .u8 kd, v1, .int .u64 nm][o]? := fun hx k o s => loadOne_has (b1'.keep0 k) rfl
  have ld2 : ∀ hx, Keep nobody h2 hx → ∀ o s, loadOne hx (.pointer (some ⟨h1.next, o, s⟩)) = [.int .u8 kd, v2, .int .u64 nm][o]? := fun hx k o s => loadOne_has (b2.keep0 k) rfl
  have r2 := Keep.refl nobody h2
  refine hK _ _ _ (C.seq (C.seq fun K hK => ?_))
  simp only [↓opStep_eq, ↓reduceIte, ↓EW, EV, Nat.reduceEqDiff, r36_1, ld1 _ r2, ld2 _ r2, i1.len, i2.len]
  refine hK _ _ _ (C.cond false (by simp only [↓reduceIte, EV]) (fun h => by cases h) fun _ => C.skip ?_)
  refine C.seq (C.seq fun K hK => hK .norm _ _ ?_)
  refine C.block (C.loop (fun k tm' hx => ∃ i, k = l.length - i ∧ i ≤ l.length ∧ tg tm' 2 = .pointer (some ⟨h.next, 0, none⟩) ∧ tg tm' 3 = .pointer (some ⟨h1.next, 0, none⟩) ∧ tg tm' 5 = .int .i64 (i : Int) ∧ Keep nobody h2 hx) l.length hL
    ⟨0, rfl, by omega, by simp only [↓reduceIte, EV, Nat.reduceEqDiff], by simp only [↓reduceIte, EV, Nat.reduceEqDiff], by simp only [↓reduceIte, EV] <;> rfl, r2⟩ ?_)
  rintro k tm' hx ⟨i, rfl, hi, t2, t3, t5, kx⟩
  unfold l36_8
  refine C.seq (C.seq fun K hK => ?_)
  simp only [EV, r36_4, t2, t5, ld1 _ kx, i1.len]
  refine hK _ _ _ (C.cond (decide ((i : Int) < (l.length : Int))) (by simp only [↓reduceIte, EV]) (fun g => C.skip ?_) fun g => C.exit ?_)
  · have g : i < l.length := by have := of_decide_eq_true g; omega
    obtain ⟨x, hxx⟩ : ∃ x, l[i]? = some x := ⟨l[i]'g, List.getElem?_eq_getElem g⟩
    have kr := keep_room hx 11
    have kxr := kx.then kr
    have k2r := k12.then kxr
    obtain ⟨c1, o1, e1, _, _, _, a1⟩ := (i1.keep0 k2r).at hxx
    obtain ⟨c2, o2, e2, _, _, _, a2⟩ := (i2.keep0 k2r).at hxx
    refine C.seq (C.block (C.seq fun K hK => ?_))
    simp only [↓reduceIte, EV, Nat.reduceEqDiff, r36_6, t2, t3, t5, ld1 _ kxr, ld2 _ kxr, e1, e2, a1, a2, item_neq]
    refine hK _ _ _ (C.cond false (by simp only [↓reduceIte, EV]) (fun h => by cases h) fun _ => C.skip fun K hK => ?_)
    have hw : IntKind.i64.wrap ((i : Int) + 1) = ((i + 1 : Nat) : Int) := by
      exact wrap_succ i (by omega)
    simp only [↓reduceIte, EV, Nat.reduceEqDiff, r36_5, t5, hw]
    exact hK _ _ _ ⟨l.length - (i + 1), by omega, i + 1, rfl, by omega, by simp only [↓reduceIte, EV, Nat.reduceEqDiff, t2], by simp only [↓reduceIte, EV, Nat.reduceEqDiff, t3], by simp only [↓reduceIte, EV], kxr⟩
  · simp only [if_pos]
    refine C.seq fun K hK => ?_
    simp only [r36_8]
    exact hK _ _ _ (C.ret ⟨.inr rfl, _, rfl, by simp only [↓reduceIte, EV]; rfl, k12.then kx⟩)
/-- two answers that hold the same are the same -/
theorem ans_same (L n : Nat) (a : Ans) (v1 v2 : Value) (h : H) (i1 : ItemsAt h v1 a.r.items) (i2 : ItemsAt h v2 a.r.items) (hL : a.r.items.length < L) (hl : a.r.items.length < 1000000) :
    Sp (CF L (n + 2)) 15 [(withIv a v1).v, (withIv a v2).v] h fun r h' => r = .bool true ∧ Keep nobody h h' := by
  refine Sp.body f15 (by simp) ?_
  have hc1 : (Value.cells (withIv a v1).v).toList = [.int .u8 a.kind, .int .u8 a.of, .int .u8 a.r.kind, v1, .int .u64 a.r.num, .bool a.yes, .string a.key] := rfl
  have hc2 : (Value.cells (withIv a v2).v).toList = [.int .u8 a.kind, .int .u8 a.of, .int .u8 a.r.kind, v2, .int .u64 a.r.num, .bool a.yes, .string a.key] := rfl
  have k1 := Keep.new h (.rw [.int .u8 a.kind, .int .u8 a.of, .int .u8 a.r.kind, v1, .int .u64 a.r.num, .bool a.yes, .string a.key] (some 27))
  have b1 := Has.new h (.rw [.int .u8 a.kind, .int .u8 a.of, .int .u8 a.r.kind, v1, .int .u64 a.r.num, .bool a.yes, .string a.key] (some 27))
  unfold c15
  refine C.seq fun K hK => ?_
  simp only [↓reduceIte, ↓EW, EV, Nat.reduceAdd, Nat.reduceEqDiff, r15_0, hc1]
  generalize h.new (.rw [.int .u8 a.kind, .int .u8 a.of, .int .u8 a.r.kind, v1, .int .u64 a.r.num, .bool a.yes, .string a.key] (some 27)) = h1 at *
  have k2 := Keep.new h1 (.rw [.int .u8 a.kind, .int .u8 a.of, .int .u8 a.r.kind, v2, .int .u64 a.r.num, .bool a.yes, .string a.key] (some 27))
  have b2 := Has.new h1 (.rw [.int .u8 a.kind, .int .u8 a.of, .int .u8 a.r.kind, v2, .int .u64 a.r.num, .bool a.yes, .string a.key] (some 27))
  simp only [hc2]
  generalize h1.new (.rw [.int .u8 a.kind, .int .u8 a.of, .int .u8 a.r.kind, v2, .int .u64 a.r.num, .bool a.yes, .string a.key] (some 27)) = h2 at *
  have b1' := b1.keep0 k2
  have k12 := k1.then k2
  have ld1 : ∀ hx, Keep nobody h2 hx → ∀ o s, loadOne hx (.pointer (some ⟨h.next, o, s⟩)) = [.int .u8 a.kind, .int .u8 a.of, .int .u8 a.r.kind, v1, .int .u64 a.r.num, .bool a.yes, .string a.key][o]? := fun hx k o s => loadOne_has (b1'.keep0 k) rfl
  have ld2 : ∀ hx, Keep nobody h2 hx → ∀ o s, loadOne hx (.pointer (some ⟨h1.next, o, s⟩)) = [.int .u8 a.kind, .int .u8 a.of, .int .u8 a.r.kind, v2, .int .u64 a.r.num, .bool a.yes, .string a.key][o]? := fun hx k o s => loadOne_has (b2.keep0 k) rfl
  have la1 : ∀ s, loadAgg 3 h2 (.pointer (some ⟨h.next, 2, s⟩)) = some (.agg [.int .u8 a.r.kind, v1, .int .u64 a.r.num].toArray) := fun s => loadAgg_has b1' rfl (by simp)
  have la2 : ∀ s, loadAgg 3 h2 (.pointer (some ⟨h1.next, 2, s⟩)) = some (.agg [.int .u8 a.r.kind, v2, .int .u64 a.r.num].toArray) := fun s => loadAgg_has b2 rfl (by simp)
  have r2 := Keep.refl nobody h2
  have hb : ∀ (t : TypeId) (c x : Bool), Tryd.prog.underlying t = some .bool → binV Tryd.prog .eql t c (.bool x) (.bool x) = some (.bool true) := fun t c x ht => by
    show boolRes .eql (match Tryd.prog.underlying t with | some .bool => some (bEq x x) | _ => none) = _
    rw [ht]; cases x <;> rfl
  have hb4 := fun x => hb 4 false x (by kernel_rfl)
  have hs : binV Tryd.prog .eql 9 false (.string a.key) (.string a.key) = some (.bool true) := by rw [strV_eql, leB_eq]; simp
  refine hK _ _ _ (C.seq fun K hK => ?_)
  simp only [↓opStep_eq, ↓reduceIte, ↓EW, EV, Nat.reduceEqDiff, r15_1, ld1 _ r2, ld2 _ r2, la1, la2]
  refine res_same L n a.r.kind a.r.num v1 v2 a.r.items h2 (i1.keep0 k12) (i2.keep0 k12) hL hl _ fun r h3 hv => ?_
  obtain ⟨rfl, k3⟩ := hv
  simp only [↓reduceIte, EV, ld1 _ k3, ld2 _ k3, hb4, hs]
  exact hK _ _ _ (C.ret ⟨.inr rfl, _, rfl, by simp only [↓reduceIte, EV]; rfl, k12.then k3⟩)

end Go.Proofs.YthofbmfcpfibdaaDoor

namespace Go.Proofs.YthofbmfcpfibdaaDoor
open Go.Ev

/-! ### the document's answer of one line: plain -/
/-- is a word the one that an answer stands as? -/
def hit (s : List UInt8) (k : Int) (y : Bool) : Prop := mayB (bareA k y) = true ∧ linesL (bareA k y) = s
end Go.Proofs.YthofbmfcpfibdaaDoor

namespace Go.Proofs.YthofbmfcpfibdaaDoor
open Go.Ev

/-! ### the document's answer of one line: what it has, and the words of results -/
structure S35 (h0 : H) (s : List UInt8) (k : Nat) (v : Value) (B4 : Nat) (tm : T Value) (h : H) : Prop where
  t0 : tg tm 0 = sv s
  t1 : tg tm 1 = .int .u8 (k : Int)
  t4 : tg tm 4 = .pointer (some ⟨B4, 0, none⟩)
  t6 : tg tm 6 = v
  t7 : tg tm 7 = .bool (knownB k)
  b4 : Has h B4 (.rw zA.cells (some 27))
  lt : h0.next ≤ B4
  keep : Keep nobody h0 h
  st : Strs h v (cutS s)
theorem S35.to {h0 : H} {s : List UInt8} {k : Nat} {v : Value} {B4 : Nat} {tm tm' : T Value} {h h' : H} (a : S35 h0 s k v B4 tm h) (kp : Keep nobody h h') (e0 : tg tm' 0 = tg tm 0) (e1 : tg tm' 1 = tg tm 1) (e4 : tg tm' 4 = tg tm 4) (e6 : tg tm' 6 = tg tm 6) (e7 : tg tm' 7 = tg tm 7) : S35 h0 s k v B4 tm' h' :=
  ⟨e0.trans a.t0, e1.trans a.t1, e4.trans a.t4, e6.trans a.t6, e7.trans a.t7, a.b4.keep0 kp, a.lt, a.keep.then kp, a.st.keep0 kp⟩
theorem wordV : ∀ i : Nat, i < 8 → Value.string (wordN.getD i (strB [])) = sv (wordB.getD i [])
  | 0, _ => rfl | 1, _ => rfl | 2, _ => rfl | 3, _ => rfl | 4, _ => rfl | 5, _ => rfl | 6, _ => rfl | 7, _ => rfl
  | i + 8, h => by omega
end Go.Proofs.YthofbmfcpfibdaaDoor

namespace Go.Proofs.YthofbmfcpfibdaaDoor
open Go.Ev

end Go.Proofs.YthofbmfcpfibdaaDoor

namespace Go.Proofs.YthofbmfcpfibdaaDoor
open Go.Ev

end Go.Proofs.YthofbmfcpfibdaaDoor

namespace Go.Proofs.YthofbmfcpfibdaaDoor
open Go.Ev

/-! ### a slice of items that is being made -/
inductive MineI (h : H) : Value → List Itm → Prop where
  | nil : MineI h (.slice none 0 0) []
  | op (b cap : Nat) (l : List Itm) : Nat.ble OPEN cap = true → Nat.beq (szOf cap) 5 = true → Has h b (.op (cellsOf l) 5 (some 48)) → MineI h (.slice (some ⟨b, 0, none⟩) l.length cap) l
theorem MineI.items {h : H} {v : Value} {l : List Itm} (m : MineI h v l) : ItemsAt h v l := by
  cases m with
  | nil => exact .inl ⟨rfl, rfl⟩
  | op b cap l _ _ hb => exact .inr ⟨b, 0, cap, _, _, rfl, hb, rfl, by rw [cellsOf_len, Nat.zero_add]; exact Nat.le_refl _, by rw [List.drop_zero, List.take_of_length_le (by rw [cellsOf_len]; exact Nat.le_refl _)]⟩
theorem MineI.keep {S : Nat → Prop} {h h' : H} {v : Value} {l : List Itm} (m : MineI h v l) (k : Keep S h h') (hn : ∀ b, blk v b → ¬ S b) : MineI h' v l := by
  cases m with
  | nil => exact .nil
  | op b cap l c1 c2 hb => exact .op b cap l c1 c2 (hb.keep k (hn b (by simp)))
theorem MineI.keep0 {h h' : H} {v : Value} {l : List Itm} (m : MineI h v l) (k : Keep nobody h h') : MineI h' v l := m.keep k fun _ _ => id
theorem MineI.lt {h : H} {v : Value} {l : List Itm} (m : MineI h v l) {b : Nat} (hb : blk v b) : b < h.next := by
  cases m with
  | nil => simp at hb
  | op b' cap l _ _ h1 => simp at hb; subst hb; exact h1.1
theorem MineI.ones {h : H} {v : Value} {l : List Itm} (m : MineI h v l) : ones [v] = true := by cases m <;> rfl
theorem MineI.cells {h : H} {v : Value} {l : List Itm} (m : MineI h v l) : v.cells = #[v] := by cases m <;> rfl
theorem MineI.ne {h : H} {v : Value} {l : List Itm} {b : Nat} {cs : List Value} {ty : Option TypeId} (m : MineI h v l) (a : Has h b (.rw cs ty)) : ¬ blk v b := fun hb => by
  cases m with
  | nil => simp at hb
  | op b' cap l _ _ h1 =>
    simp at hb; subst hb
    have := h1.2.symm.trans a.2
    cases this
theorem opCap_size5 (lb : Nat) : Nat.beq (szOf (opCap lb 5)) 5 = true := by
  rw [szOf_opCap (lb := lb) (e := 5) (by omega)]; exact Nat.beq_refl 5
theorem ones_item (x : Itm) : ones x.cells = true := rfl
theorem lit_item (b : Nat) (x : Itm) : mkLit 48 1 b (fill (repl [(.string (strB [])), (.string (strB [])), (.int .u32 (0)), (.int .i64 (0)), (.int .u64 (0))] 1) (pl 5) [(0, x.v)]) = some (.rw x.cells (some 48), .slice (some ⟨b, 0, none⟩) 1 1) := rfl
theorem appOpen_end5 {h : H} {b cp n : Nat} {l : List Itm} {x : Itm} (hb : Has h b (.op (cellsOf l) 5 (some 48))) (e0 : Nat.beq (szOf cp) 5 = true) :
    appOpen 48 5 h ⟨b, 0, none⟩ l.length cp n x.cells = grow (h.del b) (cellsOf l) x.cells (l.length + n) 5 (some 48) := by
  have hc : x.cells = (.string x.key) :: [.string x.val, .int .u32 x.flags, .int .i64 x.till, .int .u64 x.uniq] := rfl
  have hl : (cellsOf l).length = l.length * 5 := by rw [cellsOf_len]; omega
  have e3 : putAt (cellsOf l) (0 + l.length * 5) x.cells = none := by
    rw [Nat.zero_add, ← hl, hc]; exact putAt_end _ _ _
  have e4 : cut (cellsOf l) 0 = some (cellsOf l) := by simpa using cut_eq (cellsOf l) 0 (by simp)
  have e5 : Nat.beq (0 + l.length * 5) (cellsOf l).length = true := by rw [hl, Nat.zero_add]; exact Nat.beq_refl _
  unfold appOpen
  simp only [e0, ones_item, Bool.and_self, hb.2]
  simp only [e3, e5, e4]
  rfl
theorem append_item {h : H} {v : Value} {l : List Itm} {x : Itm} (m : MineI h v l) (hsz : l.length ≤ 1000) :
    ∃ v' h', appendV 48 5 56 (h.new (.rw x.cells (some 48))) v (.slice (some ⟨h.next, 0, none⟩) 1 1) = some (v', h') ∧ MineI h' v' (l ++ [x]) ∧ Keep (blk v) h h' ∧ (∀ b, blk v' b → blk v b ∨ h.next ≤ b) := by
  have k1 := Keep.new h (.rw x.cells (some 48))
  have hrow : firstV (h.new (.rw x.cells (some 48))) 5 1 (.slice (some ⟨h.next, 0, none⟩) 1 1) = some x.cells := by
    simp only [firstV]
    rw [row_has (Has.new h (.rw x.cells (some 48))) rfl (by show 0 + 1 * 5 ≤ 5; omega)]
    rfl
  have hv : ∀ base sl sc, appendV 48 5 56 (h.new (.rw x.cells (some 48))) (.slice base sl sc) (.slice (some ⟨h.next, 0, none⟩) 1 1) = appTo 48 5 56 (h.new (.rw x.cells (some 48))) base sl sc 1 x.cells := fun base sl sc => by
    unfold appendV
    simp only [lenV, hrow]
    rfl
  have hg : ∀ (h0 : H), h0.next = h.next + 1 → Keep (blk v) h h0 → ∃ v' h', grow h0 (cellsOf l) x.cells (l.length + 1) 5 (some 48) = some (v', h') ∧ MineI h' v' (l ++ [x]) ∧ Keep (blk v) h h' ∧ (∀ b, blk v' b → blk v b ∨ h.next ≤ b) := fun h0 hn hk => by
    refine ⟨_, _, rfl, ?_, hk.then (.new _ _), fun b hb => by simp at hb; omega⟩
    have e1 : cellsOf l ++ x.cells = cellsOf (l ++ [x]) := by simp [cellsOf]
    have e2 : l.length + 1 = (l ++ [x]).length := by simp
    rw [e1, e2]
    exact .op _ _ _ (Nat.ble_eq_true_of_le (by unfold OPEN opCap; omega)) (opCap_size5 _) (.new _ _)
  cases m with
  | nil =>
    rw [hv]
    have : appTo 48 5 56 (h.new (.rw x.cells (some 48))) none 0 0 1 x.cells = grow (h.new (.rw x.cells (some 48))) [] x.cells (0 + 1) 5 (some 48) := by
      unfold appTo
      rw [Nat.ble_eq_true_of_le (show (0 + 1) * 56 ≤ 140737488355328 by omega), Nat.ble_eq_true_of_le (show 0 + 1 ≤ 9223372036854775807 by omega)]
      rfl
    rw [this]
    exact hg _ rfl (k1.mono fun _ _ h => h.elim)
  | op b cap l c1 c2 hb =>
    rw [hv]
    have hb1 := hb.keep0 k1
    have : appTo 48 5 56 (h.new (.rw x.cells (some 48))) (some ⟨b, 0, none⟩) l.length cap 1 x.cells = appOpen 48 5 (h.new (.rw x.cells (some 48))) ⟨b, 0, none⟩ l.length cap 1 x.cells := by
      unfold appTo
      rw [Nat.ble_eq_true_of_le (show (l.length + 1) * 56 ≤ 140737488355328 by omega), Nat.ble_eq_true_of_le (show l.length + 1 ≤ 9223372036854775807 by omega)]
      simp only [c1, Bool.and_self]
    rw [this, appOpen_end5 hb1 c2]
    refine hg ((h.new (.rw x.cells (some 48))).del b) rfl ?_
    exact (k1.mono fun _ _ h => h.elim).trans (Keep.del _ b) fun k _ e => by simp [e]

/-! ### what is read, as a plain function -/
inductive Got where
  | none (e : Int)
  | line (a : Ans) (n : Nat)
  | items (l : List Itm) (n : Nat)

def itmB (ws : List (List UInt8)) (v : List UInt8) : Itm := { itmV ws with val := ⟨v.toArray⟩ }
def nB (ws : List (List UInt8)) : Nat := numG ws 5
/-- is it a VALUE's line? -/
def isV (ws : List (List UInt8)) : Bool := headV ws && okV ws
/-- what is behind the lines of items -/
def lastP (k at_ : Nat) (xs : List Itm) (s : List UInt8) : Got :=
  if k = 1 ∧ s = endW then .items xs (at_ + s.length + 2)
  else match lineA k (cutS s) with
    | some a => if at_ = 0 then .line a (s.length + 2) else .none 8
    | none => .none 8
def readP (k : Nat) (b : List UInt8) : Nat → Nat → List Itm → Got
  | 0, _, _ => .none 0
  | f + 1, at_, xs =>
    if crlf ((b.drop at_).take 514) < 0 then (if (b.drop at_).length < 514 then .none 0 else .none 8)
    else
      let s := (b.drop at_).take (crlf ((b.drop at_).take 514)).toNat
      if k = 1 ∧ isV (cutS s) = true ∧ xs.length < 8 then
        if (b.drop at_).length < s.length + nB (cutS s) + 4 then .none 0
        else if ¬ At (b.drop at_) (s.length + 2 + nB (cutS s)) then .none 8
        else readP k b f (at_ + (s.length + nB (cutS s) + 4)) (xs ++ [itmB (cutS s) (((b.drop at_).take (s.length + 2 + nB (cutS s))).drop (s.length + 2))])
      else lastP k at_ xs s
def readAll (k : Nat) (b : List UInt8) : Got := if 16384 < b.length then .none 3 else readP k b 9 0 []
def getA (k : Nat) (l : List Itm) (iv : Value) : Ans := ⟨1, k, ⟨1, iv, 0, l⟩, false, strB []⟩
def GotV (k : Nat) (h : H) (r : Value) : Got → Prop
  | .none e => r = .tuple #[zA.v, .int .i64 0, .int .i64 e]
  | .line a n => r = .tuple #[a.v, .int .i64 (n : Int), .int .i64 0]
  | .items l n => ∃ iv, MineI h iv l ∧ r = .tuple #[(getA k l iv).v, .int .i64 (n : Int), .int .i64 0]
end Go.Proofs.YthofbmfcpfibdaaDoor

namespace Go.Proofs.YthofbmfcpfibdaaDoor
open Go.Ev

/-! ### what both readers have in their loops -/
structure SR (h0 : H) (v : Value) (k B4 B7 at_ : Nat) (iv : Value) (xs : List Itm) (tm : T Value) (h : H) : Prop where
  t0 : tg tm 0 = v
  t1 : tg tm 1 = .int .u8 (k : Int)
  t4 : tg tm 4 = .pointer (some ⟨B4, 0, none⟩)
  t7 : tg tm 7 = .pointer (some ⟨B7, 0, none⟩)
  t8 : tg tm 8 = .int .i64 (at_ : Int)
  b4 : Has h B4 (.rw zA.cells (some 27))
  b7 : Has h B7 (.rw (getA k xs iv).cells (some 27))
  m : MineI h iv xs
  own : ∀ c, blk iv c → h0.next ≤ c
  lt : h0.next ≤ B4 ∧ B4 < B7
  keep : Keep nobody h0 h
theorem SR.to {h0 : H} {v : Value} {k B4 B7 at_ at' : Nat} {iv : Value} {xs : List Itm} {tm tm' : T Value} {h h' : H} (a : SR h0 v k B4 B7 at_ iv xs tm h) (kp : Keep nobody h h') (e0 : tg tm' 0 = tg tm 0) (e1 : tg tm' 1 = tg tm 1) (e4 : tg tm' 4 = tg tm 4) (e7 : tg tm' 7 = tg tm 7) (e8 : tg tm' 8 = .int .i64 (at' : Int)) : SR h0 v k B4 B7 at' iv xs tm' h' :=
  ⟨e0.trans a.t0, e1.trans a.t1, e4.trans a.t4, e7.trans a.t7, e8, a.b4.keep0 kp, a.b7.keep0 kp, a.m.keep0 kp, a.own, a.lt, a.keep.then kp⟩
/-- how the answer is given back -/
def RG (h0 : H) (k : Nat) (G : Got) (tm : T Value) (h : H) : Prop := ∃ l, q13.f tm h = some l ∧ GotV k h (resOf l) G ∧ Keep nobody h0 h
theorem fin_q {h : H} {B : Nat} {tm : T Value} {a : Ans} {n e : Int} (hb : Has h B (.rw a.cells (some 27))) (t4 : tg tm 4 = .pointer (some ⟨B, 0, none⟩)) (t5 : tg tm 5 = .int .i64 n) (t6 : tg tm 6 = .int .i64 e) : q13.f tm h = some [a.v, .int .i64 n, .int .i64 e] := by
  simp only [q13, t4, t5, t6, get7 hb]
theorem ones_getA {h : H} {k : Nat} {iv : Value} {xs : List Itm} (m : MineI h iv xs) : ones (getA k xs iv).cells = true := by cases m <;> rfl
noncomputable def zR (c : Int) : CodeT := fun call _ tm ds h K =>
  kO (aggO (fill [(.int .u8 (0)), (.int .u8 (0)), (.int .u8 (0)), (.slice none 0 0), (.int .u64 (0)), (.bool false), (.string (strB []))] (plc [(0, 1), (1, 1), (2, 3), (5, 1), (6, 1)]) [])) ds h (fun v0 ds h =>
  kH (withV undef (storeV 7 h (tg tm 4) v0)) ds (fun v1 ds h =>
  K .norm (T.set (T.set tm 5 (.int .i64 (0))) 6 (.int .i64 c)) ds h))
theorem zfill : aggO (fill [(.int .u8 (0)), (.int .u8 (0)), (.int .u8 (0)), (.slice none 0 0), (.int .u64 (0)), (.bool false), (.string (strB []))] (plc [(0, 1), (1, 1), (2, 3), (5, 1), (6, 1)]) []) = some zA.v := rfl
theorem zero_at {call : CallT} {L : Nat} (c : Int) {h0 h : H} {k B4 : Nat} {tm : T Value} (t4 : tg tm 4 = .pointer (some ⟨B4, 0, none⟩)) (b4 : Has h B4 (.rw zA.cells (some 27))) (lt : h0.next ≤ B4) (kp : Keep nobody h0 h) : C ⟨seqC ⟨zR c⟩ retC⟩ call L tm h fun e tm' h' => e = .ret ∧ RG h0 k (.none c) tm' h' := by
  refine C.seq fun K hK => ?_
  have p0 := put7 (s := none) (a := zA) b4 rfl rfl
  have b40 := Has.put (x := .rw zA.cells (some 27)) b4.1
  have kp0 := put_keep (x := .rw zA.cells (some 27)) kp lt
  simp only [EV, zR, t4, zfill, p0]
  exact hK _ _ _ (C.ret ⟨rfl, _, fin_q b40 (by simp only [↓reduceIte, EV, Nat.reduceEqDiff, t4]) (by simp only [↓reduceIte, EV, Nat.reduceEqDiff]) (by simp only [↓reduceIte, EV]), rfl, kp0⟩)
theorem put5 {h : H} {B : Nat} {s : Option Nat} {cs : List Value} {x : Itm} (hb : Has h B (.rw cs (some 48))) (hc : cs.length = 5) : storeV 5 h (.pointer (some ⟨B, 0, s⟩)) x.v = some (h.put B (.rw x.cells (some 48))) := store_has hb hc.symm rfl rfl
theorem get5 {h : H} {B : Nat} {s : Option Nat} {x : Itm} (hb : Has h B (.rw x.cells (some 48))) : loadAgg 5 h (.pointer (some ⟨B, 0, s⟩)) = some x.v := loadAgg_has hb rfl (by show 0 + 5 ≤ 5; omega)
/-- one more item -/
theorem push13 {call : CallT} {L : Nat} {h0 : H} {v w : Value} {rest : List UInt8} {k B4 B7 B12 at_ i n : Nat} {iv : Value} {xs : List Itm} {x : Itm} {tm : T Value} {h : H} (a : SR h0 v k B4 B7 at_ iv xs tm h) (b12 : Has h B12 (.rw x.cells (some 48))) (lt12 : B7 < B12) (hw : Rd h w rest) (t9 : tg tm 9 = w) (t10 : tg tm 10 = .int .i64 (i : Int)) (t12 : tg tm 12 = .pointer (some ⟨B12, 0, none⟩)) (t13 : tg tm 13 = .int .i64 (n : Int))
    (hlen : i + 2 + n ≤ rest.length) (hs : rest.length < 100000) (x8 : xs.length ≤ 8) {D : Box CodeT} {Q : Ex → T Value → H → Prop}
    (hQ : ∀ h' iv', SR h0 v k B4 B7 at_ iv' (xs ++ [{ x with val := ⟨((rest.take (i + 2 + n)).drop (i + 2)).toArray⟩ }]) tm h' → C D call L tm h' Q) : C ⟨seqC ⟨r13_18⟩ ⟨seqC ⟨r13_19⟩ D⟩⟩ call L tm h Q := by
  obtain ⟨t0, t1, t4, t7, t8, b4, b7, m, own, lt, kp⟩ := a
  have w2 : IntKind.i64.wrap ((i : Int) + 2) = ((i + 2 : Nat) : Int) := by
    rw [show (i : Int) + 2 = ((i + 2 : Nat) : Int) by omega]; exact wrap_lt _ (by omega)
  have w3 : IntKind.i64.wrap (((i + 2 : Nat) : Int) + (n : Int)) = ((i + 2 + n : Nat) : Int) := by
    rw [show ((i + 2 : Nat) : Int) + (n : Int) = ((i + 2 + n : Nat) : Int) by omega]; exact wrap_lt _ (by omega)
  obtain ⟨w', e1, rd', _⟩ := hw.mid (some (.int .i64 ((i + 2 : Nat) : Int))) (i + 2) (i + 2 + n) (.inr rfl) (by omega) hlen .i64
  generalize hv : ((rest.take (i + 2 + n)).drop (i + 2)) = val at *
  have est := rd'.str
  have st : storeV 1 h (.pointer (some ⟨B12, 1, none⟩)) (.string ⟨val.toArray⟩) = some (h.put B12 (.rw ({ x with val := ⟨val.toArray⟩ } : Itm).cells (some 48))) := store_one b12 rfl rfl rfl
  refine C.seq fun K hK => ?_
  simp only [EV, r13_18, t9, t10, t13, w2, w3, e1, est, t12, st]
  refine hK _ _ _ (C.seq fun K hK => ?_)
  generalize ({ x with val := ⟨val.toArray⟩ } : Itm) = x' at *
  have b12' := Has.put (x := .rw x'.cells (some 48)) b12.1
  have b7' := has_other (y := .rw x'.cells (some 48)) b7 (show B7 ≠ B12 by omega)
  have b4' := has_other (y := .rw x'.cells (some 48)) b4 (show B4 ≠ B12 by omega)
  have m' := m.keep (Keep.put h B12 (.rw x'.cells (some 48))) fun c hc e => m.ne b12 (e ▸ hc)
  have kp' := put_keep (x := .rw x'.cells (some 48)) kp (show h0.next ≤ B12 by omega)
  generalize h.put B12 (.rw x'.cells (some 48)) = h2 at *
  have ld : ∀ s, loadOne h2 (.pointer (some ⟨B7, 3, s⟩)) = some iv := fun s => loadOne_has b7' rfl
  have g5 := get5 (s := none) b12'
  obtain ⟨iv', h3, e3, m3, k3, own3⟩ := append_item (x := x') m' (by omega)
  have b73 := b7'.keep k3 (m'.ne b7')
  have b43 := b4'.keep k3 (m'.ne b4')
  have st7 : storeV 1 h3 (.pointer (some ⟨B7, 3, none⟩)) iv' = some (h3.put B7 (.rw (getA k (xs ++ [x']) iv').cells (some 27))) := store_one b73 m3.cells m3.ones rfl
  simp only [EV, Nat.reduceAdd, r13_19, t7, ld, t12, g5, lit_item, e3, st7]
  refine hK _ _ _ (hQ _ iv' ⟨t0, t1, t4, t7, t8, has_other b43 (show B4 ≠ B7 by omega), Has.put b73.1, m3.keep (Keep.put h3 B7 _) fun c hc e => m3.ne b73 (e ▸ hc), fun c hc => ?_, lt, ?_⟩)
  · rcases own3 c hc with h | h
    · exact own c h
    · exact Nat.le_trans kp'.next h
  · exact put_keep (kp'.trans k3 fun c hc hb => by have := own c hb; omega) (by omega)
/-- the plain function, step by step -/
theorem crlf_pos {l : List UInt8} {i : Nat} (h : crlf (l.take 514) = (i : Int)) : i + 1 < l.length ∧ i ≤ 512 ∧ At l i := by
  rcases crlf_spec (l.take 514) with ⟨h1, _⟩ | ⟨j, h1, h2, _⟩
  · rw [h1] at h; omega
  · have : j = i := by rw [h1] at h; omega
    subst this
    obtain ⟨h3, h4⟩ := At.take.1 h2
    exact ⟨h3.lt, by omega, h3⟩
theorem crlf_cases (l : List UInt8) : crlf (l.take 514) = -1 ∨ ∃ i : Nat, crlf (l.take 514) = (i : Int) := by
  rcases crlf_spec (l.take 514) with ⟨h1, _⟩ | ⟨j, h1, _⟩
  · exact .inl h1
  · exact .inr ⟨j, h1⟩
theorem readP_neg {k f at_ : Nat} {b : List UInt8} {xs : List Itm} (h : crlf ((b.drop at_).take 514) = -1) : readP k b (f + 1) at_ xs = if (b.drop at_).length < 514 then .none 0 else .none 8 := by
  unfold readP
  rw [h, if_pos (by decide)]
theorem readP_pos {k f at_ i : Nat} {b s : List UInt8} {xs : List Itm} (h : crlf ((b.drop at_).take 514) = (i : Int)) (hs : (b.drop at_).take i = s) : readP k b (f + 1) at_ xs =
      if k = 1 ∧ isV (cutS s) = true ∧ xs.length < 8 then
        if (b.drop at_).length < i + nB (cutS s) + 4 then .none 0
        else if ¬ At (b.drop at_) (i + 2 + nB (cutS s)) then .none 8
        else readP k b f (at_ + (i + nB (cutS s) + 4)) (xs ++ [itmB (cutS s) (((b.drop at_).take (i + 2 + nB (cutS s))).drop (i + 2))])
      else lastP k at_ xs s := by
  have hi := crlf_pos h
  have hl : s.length = i := by rw [← hs, List.length_take]; omega
  rw [readP]
  rw [h, if_neg (by omega)]
  have : (i : Int).toNat = i := rfl
  rw [this, hs]
  dsimp only
  rw [hl]
theorem valueV_eq (ws : List (List UInt8)) : ∃ (x : Itm) (n : Int), valueV ws = .tuple #[x.v, .int .i64 n, .bool (isV ws)] ∧ (isV ws = true → x = itmV ws ∧ n = (nB ws : Int) ∧ nB ws ≤ 512) := by
  unfold valueV isV
  cases hh : headV ws with
  | false => exact ⟨zI, 0, rfl, fun h => by cases h⟩
  | true =>
    refine ⟨itmV ws, nV ws, rfl, fun h => ⟨rfl, ?_, ?_⟩⟩
    · have h5 : numI ws 5 512 = true := by
        unfold okV at h
        rw [Bool.true_and] at h
        exact (Bool.and_eq_true _ _ ▸ h : _ ∧ _).2
      unfold numI at h5
      have := of_decide_eq_true (Bool.and_eq_true _ _ ▸ h5 : _ ∧ _).2
      exact wrap_lt _ (by omega)
    · have h5 : numI ws 5 512 = true := by
        unfold okV at h
        rw [Bool.true_and] at h
        exact (Bool.and_eq_true _ _ ▸ h : _ ∧ _).2
      unfold numI at h5
      exact of_decide_eq_true (Bool.and_eq_true _ _ ▸ h5 : _ ∧ _).2
theorem end_iff (s : List UInt8) : ((cutS s).length = 1 ∧ (cutS s).getD 0 [] = endW) ↔ s = endW := by
  rcases split32 s with h | ⟨q, r, rfl, hq⟩
  · rw [cutS_one s h]
    exact ⟨fun h => h.2, fun h => ⟨rfl, h⟩⟩
  · rw [cutS_app q r hq]
    have hr : 0 < (cutS r).length := List.length_pos_iff.2 (cutS_ne r)
    constructor
    · rintro ⟨h, _⟩
      rw [List.length_cons] at h
      omega
    · intro h
      have hm : (32 : UInt8) ∈ q ++ 32 :: r := List.mem_append_right _ (List.mem_cons_self ..)
      rw [h] at hm
      exact absurd hm (by decide)
end Go.Proofs.YthofbmfcpfibdaaDoor

namespace Go.Proofs.YthofbmfcpfibdaaDoor
open Go.Ev

theorem fin_items {call : CallT} {L : Nat} {h0 : H} {v : Value} {k B4 B7 at_ n : Nat} {iv : Value} {xs : List Itm} {tm tm' : T Value} {h : H} (a : SR h0 v k B4 B7 at_ iv xs tm h) (e4 : tg tm' 4 = .pointer (some ⟨B4, 0, none⟩)) (e5 : tg tm' 5 = .int .i64 (n : Int)) (e6 : tg tm' 6 = .int .i64 0) : RG h0 k (.items xs n) tm' (h.put B4 (.rw (getA k xs iv).cells (some 27))) := by
  refine ⟨_, fin_q (a := getA k xs iv) (Has.put a.b4.1) e4 e5 e6, ⟨iv, a.m.keep (Keep.put h B4 _) fun c hc e => a.m.ne a.b4 (e ▸ hc), rfl⟩, put_keep a.keep a.lt.1⟩
/-- the program: what is behind the lines of items -/
theorem tailL13 (L n : Nat) (hL : 2000 ≤ L) {h0 : H} {v wv : Value} {s : List UInt8} {k B4 B7 at_ : Nat} {iv : Value} {xs : List Itm} {tm : T Value} {h : H} {e : Value} (he : ErrC e) (hG : Has h0 5 (.ro [e])) (a : SR h0 v k B4 B7 at_ iv xs tm h) (t10 : tg tm 10 = .int .i64 (s.length : Int)) (t11 : tg tm 11 = wv) (hs : Strs h wv (cutS s)) (hl : s.length ≤ 512) (hat : at_ ≤ 20000) :
    C ⟨seqC ⟨seqC ⟨r13_21⟩ ⟨condC ⟨fun _ tm => tg tm 130⟩ ⟨seqC ⟨r13_22⟩ retC⟩ skipC⟩⟩ ⟨seqC ⟨seqC ⟨r13_23⟩ ⟨seqC ⟨r13_24⟩ ⟨condC ⟨fun _ tm => tg tm 146⟩ ⟨seqC ⟨r13_25⟩ retC⟩ skipC⟩⟩⟩ ⟨seqC ⟨r13_26⟩ retC⟩⟩⟩ (CF L (n + 7)) L tm h fun e tm' h' => e = .ret ∧ RG h0 k (lastP k at_ xs s) tm' h' := by
  have hne : 0 < (cutS s).length := List.length_pos_iff.2 (cutS_ne s)
  have hx : (cutS s)[0]? = some ((cutS s).getD 0 []) := by rw [List.getD_eq_getElem?_getD, List.getElem?_eq_getElem hne]; rfl
  obtain ⟨b, o, e1, e2⟩ := hs.load hx
  have e1' : indexSl 1 wv (.int .i64 0) = some (.pointer (some ⟨b, o, none⟩)) := e1
  have ld := e2 _ hs
  have ei := end_iff s
  have hle : ∀ p ∈ cutS s, p.length ≤ 1000 := fun p hp => by have := cutS_le s p hp; omega
  have qe : ∀ c, binV Tryd.prog .eql 9 c (sv ((cutS s).getD 0 [])) (.string (strB [69, 78, 68])) = some (.bool (decide ((cutS s).getD 0 [] = endW))) := fun c => sv_eql 9 c _ endW
  have w1 : IntKind.i64.wrap ((s.length : Int) + 2) = ((s.length + 2 : Nat) : Int) := by
    rw [show (s.length : Int) + 2 = ((s.length + 2 : Nat) : Int) by omega]; exact wrap_lt _ (by omega)
  have w2 : IntKind.i64.wrap ((at_ : Int) + (s.length : Int)) = ((at_ + s.length : Nat) : Int) := by
    rw [show (at_ : Int) + (s.length : Int) = ((at_ + s.length : Nat) : Int) by omega]; exact wrap_lt _ (by omega)
  have w3 : IntKind.i64.wrap (((at_ + s.length : Nat) : Int) + 2) = ((at_ + s.length + 2 : Nat) : Int) := by
    rw [show ((at_ + s.length : Nat) : Int) + 2 = ((at_ + s.length + 2 : Nat) : Int) by omega]; exact wrap_lt _ (by omega)
  generalize hG' : lastP k at_ xs s = G
  unfold lastP at hG'
  have rest : ¬ (k = 1 ∧ s = endW) → C ⟨seqC ⟨seqC ⟨r13_23⟩ ⟨seqC ⟨r13_24⟩ ⟨condC ⟨fun _ tm => tg tm 146⟩ ⟨seqC ⟨r13_25⟩ retC⟩ skipC⟩⟩⟩ ⟨seqC ⟨r13_26⟩ retC⟩⟩ (CF L (n + 7)) L (T.set tm 130 (.bool false)) h fun e tm' h' => e = .ret ∧ RG h0 k G tm' h' := fun hn => by
    rw [if_neg hn] at hG'
    refine C.seq (C.seq fun K hK => ?_)
    simp only [↓reduceIte, ↓EW, EV, Nat.reduceEqDiff, r13_23, t11, a.t1]
    refine single_law L n hL (k := k) he (hG.keep0 a.keep) hs hne hle _ fun r h2 hq => ?_
    obtain ⟨⟨x, rfl, o1, hx2⟩, k2⟩ := hq
    have st : storeV 7 (h2.new (.rw [(.int .u8 (0)), (.int .u8 (0)), (.int .u8 (0)), (.slice none 0 0), (.int .u64 (0)), (.bool false), (.string (strB []))] (some 27))) (.pointer (some ⟨h2.next, 0, none⟩)) x.v = some ((h2.new (.rw zA.cells (some 27))).put h2.next (.rw x.cells (some 27))) := put7 (Has.new _ _) rfl o1
    have t2 : ∀ (x y : Value) i, tupNth i (.tuple #[x, y]) = [x, y][i]? := fun x y i => tupNth_tuple i [x, y]
    simp only [EV, t2, st]
    have b15 := has_alloc h2 (.rw zA.cells (some 27)) (.rw x.cells (some 27))
    have k3 := k2.then (keep_alloc h2 (.rw zA.cells (some 27)) (.rw x.cells (some 27)))
    generalize (h2.new (.rw zA.cells (some 27))).put h2.next (.rw x.cells (some 27)) = h3 at *
    generalize h2.next = B15 at *
    have a3 := a.to (tm' := tm) k3 rfl rfl rfl rfl a.t8
    refine hK _ _ _ (C.seq fun K hK => ?_)
    have zero : ∀ tm', tg tm' 4 = .pointer (some ⟨B4, 0, none⟩) → G = .none 8 → C ⟨seqC ⟨r13_26⟩ retC⟩ (CF L (n + 7)) L tm' h3 fun e tm' h' => e = .ret ∧ RG h0 k G tm' h' := fun tm' e4 hg => by
      rw [hg]
      exact (zero_at 8 e4 a3.b4 a3.lt.1 a3.keep : C ⟨seqC ⟨r13_26⟩ retC⟩ (CF L (n + 7)) L tm' h3 _)
    cases ho : lineA k (cutS s) with
    | none =>
      rw [ho] at hG'
      simp only [↓reduceIte, EV, r13_24, Option.isSome_none]
      exact hK _ _ _ (C.cond false (by simp only [↓reduceIte, EV]) (fun g => by cases g) fun _ => C.skip (zero _ (by simp only [↓reduceIte, EV, Nat.reduceEqDiff, a.t4]) hG'.symm))
    | some y =>
      rw [ho] at hG' hx2
      have := hx2 y rfl
      subst this
      by_cases gz : (at_ : Int) = 0
      · have hg : (if at_ = 0 then Got.line x (s.length + 2) else .none 8) = G := hG'
        rw [if_pos (by omega)] at hg
        simp only [↓reduceIte, ↓EW, EV, Nat.reduceEqDiff, r13_24, Option.isSome_some, a.t8, decide_eq_true gz]
        refine hK _ _ _ (C.cond true (by simp only [↓reduceIte, EV]) (fun _ => C.seq fun K hK => ?_) fun g => by cases g)
        have g7 := get7 (s := none) b15
        have p7 := put7 (s := none) (a := x) a3.b4 rfl o1
        simp only [↓reduceIte, EV, Nat.reduceEqDiff, r13_25, a.t4, t10, w1, g7, p7]
        refine hK _ _ _ (C.ret ⟨rfl, ?_⟩)
        rw [← hg]
        exact ⟨_, fin_q (a := x) (Has.put a3.b4.1) (by simp only [↓reduceIte, EV, Nat.reduceEqDiff, a.t4]) (by simp only [↓reduceIte, EV, Nat.reduceEqDiff]) (by simp only [↓reduceIte, EV]), rfl, put_keep a3.keep a3.lt.1⟩
      · have hg : (if at_ = 0 then Got.line x (s.length + 2) else .none 8) = G := hG'
        rw [if_neg (by omega)] at hg
        simp only [↓reduceIte, ↓EW, EV, Nat.reduceEqDiff, r13_24, Option.isSome_some, a.t8, decide_eq_false gz]
        exact hK _ _ _ (C.cond false (by simp only [↓reduceIte, EV]) (fun g => by cases g) fun _ => C.skip (zero _ (by simp only [↓reduceIte, EV, Nat.reduceEqDiff, a.t4]) hg.symm))
  refine C.seq (C.seq fun K hK => ?_)
  by_cases g1 : ((cutS s).length : Int) = 1
  · by_cases ge : (cutS s).getD 0 [] = endW
    · have hse := ei.1 ⟨show (cutS s).length = 1 by omega, ge⟩
      by_cases gk : (k : Int) = 1
      · rw [if_pos (show k = 1 ∧ s = endW from ⟨by omega, hse⟩)] at hG'
        simp only [↓opStep_eq, ↓reduceIte, ↓EW, EV, r13_21, t11, hs.len, decide_eq_true g1, e1', ld, qe, decide_eq_true ge, a.t1, decide_eq_true gk]
        refine hK _ _ _ (C.cond true (by simp only [↓reduceIte, EV]) (fun _ => C.seq fun K hK => ?_) fun g => by cases g)
        have g7 := get7 (s := none) a.b7
        have p7 := put7 (s := none) (a := getA k xs iv) a.b4 rfl (ones_getA a.m)
        simp only [↓reduceIte, EV, Nat.reduceEqDiff, r13_22, a.t4, a.t7, a.t8, t10, g7, w2, w3, p7]
        refine hK _ _ _ (C.ret ⟨rfl, ?_⟩)
        rw [← hG']
        exact fin_items (call := CF L (n + 7)) (L := L) a (by simp only [↓reduceIte, EV, Nat.reduceEqDiff, a.t4]) (by simp only [↓reduceIte, EV, Nat.reduceEqDiff]) (by simp only [↓reduceIte, EV])
      · simp only [↓opStep_eq, ↓reduceIte, ↓EW, EV, r13_21, t11, hs.len, decide_eq_true g1, e1', ld, qe, decide_eq_true ge, a.t1, decide_eq_false gk]
        exact hK _ _ _ (C.cond false (by simp only [↓reduceIte, EV]) (fun g => by cases g) fun _ => C.skip (rest fun h => gk (by omega)))
    · simp only [↓opStep_eq, ↓reduceIte, ↓EW, EV, r13_21, t11, hs.len, decide_eq_true g1, e1', ld, qe, decide_eq_false ge]
      exact hK _ _ _ (C.cond false (by simp only [↓reduceIte, EV]) (fun g => by cases g) fun _ => C.skip (rest fun h => ge (ei.2 h.2).2))
  · simp only [↓opStep_eq, ↓reduceIte, ↓EW, EV, r13_21, t11, hs.len, decide_eq_false g1]
    exact hK _ _ _ (C.cond false (by simp only [↓reduceIte, EV]) (fun g => by cases g) fun _ => C.skip (rest fun h => g1 (by have := (ei.2 h.2).1; omega)))
end Go.Proofs.YthofbmfcpfibdaaDoor

namespace Go.Proofs.YthofbmfcpfibdaaDoor
open Go.Ev

theorem mark_eq {h : H} {b n c : Nat} {cs : List Value} {ty : Option TypeId} (hb : Has h b (.rw cs ty)) : ∃ h', markV h (.slice (some ⟨b, 0, none⟩) n c) = some (.slice (some ⟨b, 0, none⟩) n c, h') ∧ Keep nobody h h' := by
  refine ⟨h.put b (.rw cs ty), ?_, ⟨Nat.le_refl _, fun k hk _ => ?_⟩⟩
  · simp only [markV, hb.2]
  · by_cases e : k = b
    · subst e
      exact (Has.put (x := .rw cs ty) hk).2.trans hb.2.symm
    · exact (Keep.put h b (.rw cs ty)).same k hk e
theorem lit2 (b : Nat) : mkLit 5 2 b (fill (repl [(.int .u8 (0))] 2) (pl 1) [(0, (.int .u8 (13))), (1, (.int .u8 (10)))]) = some (.rw ([13, 10].map bv) (some 5), .slice (some ⟨b, 0, none⟩) 2 2) := rfl
theorem min514 (n : Nat) : foldMM false [.int .i64 (n : Int), .int .i64 514] = some (.int .i64 ((min n 514 : Nat) : Int)) := by
  show (match mmI false [.int .i64 514] (n : Int) with | some m => some (Value.int .i64 m) | none => none) = _
  show some (Value.int .i64 (match iLt 514 (n : Int) with | true => 514 | false => (n : Int))) = _
  rw [iLt_eq]
  by_cases g : (514 : Int) < (n : Int)
  · rw [decide_eq_true g, Nat.min_eq_right (by omega)]; rfl
  · rw [decide_eq_false g, Nat.min_eq_left (by omega)]
theorem at_bytes {l : List UInt8} {i : Nat} (h : i + 2 ≤ l.length) : ((l.take (i + 2)).drop i = [13, 10]) ↔ At l i := by
  have h1 : i < l.length := by omega
  have h2 : i + 1 < l.length := by omega
  have e : (l.take (i + 2)).drop i = [l[i], l[i + 1]] := by
    rw [List.drop_take, show i + 2 - i = 2 by omega, List.drop_eq_getElem_cons h1, List.drop_eq_getElem_cons h2]; rfl
  rw [e]
  unfold At
  rw [List.getElem?_eq_getElem h1, List.getElem?_eq_getElem h2]
  simp
/-- the program: where the first line ends -/
theorem line13 (L n : Nat) (hL : 2000 ≤ L) {h0 : H} {v : Value} {b : List UInt8} {k B4 B7 at_ : Nat} {iv : Value} {xs : List Itm} {tm : T Value} {h : H} {m : Int} (hM : Has h0 0 (.ro [.int .i64 m])) (hr : Rd h0 v b) (hb : b.length ≤ 16384) (hat : at_ ≤ b.length) (a : SR h0 v k B4 B7 at_ iv xs tm h) {D : Box CodeT} {Q : Ex → T Value → H → Prop}
    (hQ : ∀ w tm' h', Rd h' w (b.drop at_) → SR h0 v k B4 B7 at_ iv xs tm' h' → tg tm' 9 = w → tg tm' 10 = .int .i64 (crlf ((b.drop at_).take 514)) → C D (CF L (n + 3)) L tm' h' Q) : C ⟨seqC ⟨r13_5⟩ ⟨seqC ⟨r13_6⟩ D⟩⟩ (CF L (n + 3)) L tm h Q := by
  obtain ⟨w, ew, rw0, _⟩ := (hr.keep0 a.keep).from at_ hat
  refine C.seq fun K hK => ?_
  simp only [EV, r13_5, a.t0, a.t8, ew]
  refine hK _ _ _ (C.seq fun K hK => ?_)
  generalize hrest : b.drop at_ = rest at *
  have hlr : rest.length ≤ 16384 := by rw [← hrest, List.length_drop]; omega
  obtain ⟨w2, ew2, rw2, _⟩ := rw0.mid none 0 (min rest.length 514) (.inl ⟨rfl, rfl⟩) (Nat.zero_le _) (Nat.min_le_left _ _) .i64
  have et : (rest.take (min rest.length 514)).drop 0 = rest.take 514 := by
    rw [List.drop_zero]
    by_cases g : rest.length ≤ 514
    · rw [Nat.min_eq_left g, List.take_of_length_le (Nat.le_refl _), List.take_of_length_le g]
    · rw [Nat.min_eq_right (by omega)]
  rw [et] at rw2
  have b5 := Has.new h (.rw ([13, 10].map bv) (some 5))
  have k5 := Keep.new h (.rw ([13, 10].map bv) (some 5))
  simp only [↓reduceIte, EV, r13_6, rw0.len, min514, ew2, lit2]
  generalize h.new (.rw ([13, 10].map bv) (some 5)) = h1 at *
  obtain ⟨h2, em, k2⟩ := mark_eq (n := 2) (c := 2) b5
  simp only [EV, em]
  have k02 := k5.then k2
  have a2 := a.to (tm' := tm) k02 rfl rfl rfl rfl a.t8
  have sep : Rd h2 (.slice (some ⟨h.next, 0, none⟩) 2 2) [13, 10] := .inr ⟨h.next, 0, 2, _, _, rfl, b5.keep0 k2, rfl, by decide, rfl, .inr ⟨rfl, by decide⟩⟩
  refine index28 L n (by omega) (rw2.keep0 k02) sep (by rw [List.length_take]; omega) (hM.keep0 a2.keep) _ fun r h3 hq => ?_
  obtain ⟨rfl, k3⟩ := hq
  exact hK _ _ _ (hQ w _ h3 (rw0.keep0 (k02.then k3)) (a2.to k3 (by simp only [↓reduceIte, EV, Nat.reduceEqDiff]) (by simp only [↓reduceIte, EV, Nat.reduceEqDiff]) (by simp only [↓reduceIte, EV, Nat.reduceEqDiff]) (by simp only [↓reduceIte, EV, Nat.reduceEqDiff]) (by simp only [↓reduceIte, EV, Nat.reduceEqDiff, a.t8])) (by simp only [↓reduceIte, EV, Nat.reduceEqDiff]) (by simp only [↓reduceIte, EV]))
/-- the program: one line of an item, or what is behind them -/
theorem body13 (L n : Nat) (hL : 2000 ≤ L) {h0 : H} {v : Value} {b : List UInt8} {k B4 B7 at_ f : Nat} {iv : Value} {xs : List Itm} {tm : T Value} {h : H} {e : Value} {m : Int} (he : ErrC e) (hG : Has h0 5 (.ro [e])) (hM : Has h0 0 (.ro [.int .i64 m])) (hr : Rd h0 v b) (hb : b.length ≤ 16384) (hat : at_ ≤ b.length) (x8 : xs.length ≤ 8) (a : SR h0 v k B4 B7 at_ iv xs tm h) :
    C l13_27 (CF L (n + 7)) L tm h fun e tm' h' => (e = .norm ∧ ∃ at' iv' xs', SR h0 v k B4 B7 at' iv' xs' tm' h' ∧ at' ≤ b.length ∧ xs'.length = xs.length + 1 ∧ xs'.length ≤ 8 ∧ readP k b (f + 1) at_ xs = readP k b f at' xs') ∨ (e = .ret ∧ RG h0 k (readP k b (f + 1) at_ xs) tm' h') := by
  unfold l13_27
  refine C.block (line13 L (n + 4) hL hM hr hb hat a fun w tm1 h1 rw1 a1 t9 t10 => ?_)
  have hlr : (b.drop at_).length ≤ 16384 := by rw [List.length_drop]; omega
  have hdl : (b.drop at_).length = b.length - at_ := List.length_drop
  rcases crlf_cases (b.drop at_) with hc | ⟨i, hc⟩
  · have hP := readP_neg (k := k) (f := f) (xs := xs) hc
    generalize readP k b (f + 1) at_ xs = G at *
    refine C.seq (C.block (C.seq fun K hK => ?_))
    have d0 : decide ((-1 : Int) < 0) = true := rfl
    rw [hc] at t10
    by_cases g : ((b.drop at_).length : Int) < 514
    · rw [if_pos (by omega)] at hP
      simp only [↓opStep_eq, ↓reduceIte, ↓EW, EV, Int.reduceLT, r13_7, t10, t9, rw1.len, decide_eq_true g]
      refine hK _ _ _ (C.cond true (by simp only [↓reduceIte, EV]) (fun _ => (zero_at (h0 := h0) (k := k) 0 (by simp only [↓reduceIte, EV, Nat.reduceEqDiff, a1.t4]) a1.b4 a1.lt.1 a1.keep : C ⟨seqC ⟨r13_8⟩ retC⟩ (CF L (n + 7)) L _ h1 _).mono ?_) fun g => by cases g)
      rintro e tm' h' ⟨rfl, hq⟩
      exact .inr ⟨rfl, by rw [hP]; exact hq⟩
    · rw [if_neg (by omega)] at hP
      simp only [↓opStep_eq, ↓reduceIte, ↓EW, EV, Int.reduceLT, r13_7, t10, t9, rw1.len, decide_eq_false g]
      refine hK _ _ _ (C.cond false (by simp only [↓reduceIte, EV]) (fun g => by cases g) fun _ => C.seq fun K hK => ?_)
      simp only [↓reduceIte, EV, Nat.reduceEqDiff, Int.reduceLT, r13_9, t10]
      refine hK _ _ _ (C.cond true (by simp only [↓reduceIte, EV]) (fun _ => (zero_at (h0 := h0) (k := k) 8 (by simp only [↓reduceIte, EV, Nat.reduceEqDiff, a1.t4]) a1.b4 a1.lt.1 a1.keep : C ⟨seqC ⟨r13_10⟩ retC⟩ (CF L (n + 7)) L _ h1 _).mono ?_) fun g => by cases g)
      rintro e tm' h' ⟨rfl, hq⟩
      exact .inr ⟨rfl, by rw [hP]; exact hq⟩
  obtain ⟨i1, i2, i3⟩ := crlf_pos hc
  obtain ⟨s, hs⟩ : ∃ s, (b.drop at_).take i = s := ⟨_, rfl⟩
  have hP := readP_pos (k := k) (f := f) (xs := xs) hc hs
  have hsl : s.length = i := by rw [← hs, List.length_take]; omega
  rw [hc] at t10
  have n0 : ¬ (i : Int) < 0 := by omega
  refine C.seq (C.block (C.seq fun K hK => ?_))
  simp only [↓opStep_eq, ↓reduceIte, ↓EW, EV, r13_7, t10, decide_eq_false n0]
  refine hK _ _ _ (C.cond false (by simp only [↓reduceIte, EV]) (fun g => by cases g) fun _ => C.seq fun K hK => ?_)
  simp only [↓reduceIte, EV, Nat.reduceEqDiff, r13_9, t10, decide_eq_false n0]
  refine hK _ _ _ (C.cond false (by simp only [↓reduceIte, EV]) (fun g => by cases g) fun _ => C.skip (C.seq fun K hK => ?_))
  obtain ⟨w2, ew2, rw2, _⟩ := rw1.mid none 0 i (.inl ⟨rfl, rfl⟩) (Nat.zero_le _) (by omega) .i64
  rw [List.drop_zero, hs] at rw2
  simp only [↓reduceIte, EV, Nat.reduceEqDiff, r13_11, t9, t10, ew2, rw2.str]
  have hsp : Sp (CF L (n + 7)) 29 [.string ⟨s.toArray⟩, .string (strB [32])] h1 fun r h' => Strs h' r (cutS s) ∧ Keep nobody h1 h' ∧ ∀ b, blk r b → h1.next ≤ b := split_law L (n + 1) (l := s) (by omega) (by omega)
  refine hsp _ fun wv h2 hq => ?_
  obtain ⟨st2, k2, _⟩ := hq
  have a2 : SR h0 v k B4 B7 at_ iv xs (T.set (T.set (T.set tm1 35 (.bool false)) 44 (.bool false)) 11 wv) h2 := a1.to k2 (by simp only [↓reduceIte, EV, Nat.reduceEqDiff]) (by simp only [↓reduceIte, EV, Nat.reduceEqDiff]) (by simp only [↓reduceIte, EV, Nat.reduceEqDiff]) (by simp only [↓reduceIte, EV, Nat.reduceEqDiff]) (by simp only [↓reduceIte, EV, Nat.reduceEqDiff, a1.t8])
  have rw3 := rw1.keep0 k2
  refine hK _ _ _ (C.seq (C.seq fun K hK => ?_))
  have hle : ∀ p ∈ cutS s, p.length ≤ 1000 := fun p hp => by have := cutS_le s p hp; omega
  simp only [↓reduceIte, ↓EW, EV, r13_12]
  refine value_law L n he hL st2 hle (hG.keep0 a2.keep) _ fun r h3 hq => ?_
  obtain ⟨rfl, k3⟩ := hq
  obtain ⟨x, nx, ev, hx⟩ := valueV_eq (cutS s)
  have t3 : ∀ (x y z : Value) i, tupNth i (.tuple #[x, y, z]) = [x, y, z][i]? := fun x y z i => tupNth_tuple i [x, y, z]
  have st5 : storeV 5 (h3.new (.rw [(.string (strB [])), (.string (strB [])), (.int .u32 (0)), (.int .i64 (0)), (.int .u64 (0))] (some 48))) (.pointer (some ⟨h3.next, 0, none⟩)) x.v = some ((h3.new (.rw zI.cells (some 48))).put h3.next (.rw x.cells (some 48))) := put5 (Has.new _ _) rfl
  simp only [EV, ev, t3, st5]
  have b12 := has_alloc h3 (.rw zI.cells (some 48)) (.rw x.cells (some 48))
  have k4 := k3.then (keep_alloc h3 (.rw zI.cells (some 48)) (.rw x.cells (some 48)))
  have l7 : B7 < h3.next := Nat.lt_of_lt_of_le a2.b7.1 k3.next
  generalize (h3.new (.rw zI.cells (some 48))).put h3.next (.rw x.cells (some 48)) = h4 at *
  generalize h3.next = B12 at *
  have a4 : SR h0 v k B4 B7 at_ iv xs (T.set (T.set (T.set (T.set (T.set (T.set tm1 35 (.bool false)) 44 (.bool false)) 11 wv) 12 (.pointer (some ⟨B12, 0, none⟩))) 13 (.int .i64 nx)) 14 (.bool (isV (cutS s)))) h4 := a2.to k4 (by simp only [↓reduceIte, EV, Nat.reduceEqDiff]) (by simp only [↓reduceIte, EV, Nat.reduceEqDiff]) (by simp only [↓reduceIte, EV, Nat.reduceEqDiff]) (by simp only [↓reduceIte, EV, Nat.reduceEqDiff]) (by simp only [↓reduceIte, EV, Nat.reduceEqDiff, a1.t8])
  have y9 : tg (T.set (T.set (T.set (T.set (T.set (T.set tm1 35 (.bool false)) 44 (.bool false)) 11 wv) 12 (.pointer (some ⟨B12, 0, none⟩))) 13 (.int .i64 nx)) 14 (.bool (isV (cutS s)))) 9 = w := by simp only [↓reduceIte, EV, Nat.reduceEqDiff, t9]
  have y10 : tg (T.set (T.set (T.set (T.set (T.set (T.set tm1 35 (.bool false)) 44 (.bool false)) 11 wv) 12 (.pointer (some ⟨B12, 0, none⟩))) 13 (.int .i64 nx)) 14 (.bool (isV (cutS s)))) 10 = .int .i64 (i : Int) := by simp only [↓reduceIte, EV, Nat.reduceEqDiff, t10]
  have y11 : tg (T.set (T.set (T.set (T.set (T.set (T.set tm1 35 (.bool false)) 44 (.bool false)) 11 wv) 12 (.pointer (some ⟨B12, 0, none⟩))) 13 (.int .i64 nx)) 14 (.bool (isV (cutS s)))) 11 = wv := by simp only [↓reduceIte, EV, Nat.reduceEqDiff]
  have y12 : tg (T.set (T.set (T.set (T.set (T.set (T.set tm1 35 (.bool false)) 44 (.bool false)) 11 wv) 12 (.pointer (some ⟨B12, 0, none⟩))) 13 (.int .i64 nx)) 14 (.bool (isV (cutS s)))) 12 = .pointer (some ⟨B12, 0, none⟩) := by simp only [↓reduceIte, EV, Nat.reduceEqDiff]
  have y13 : tg (T.set (T.set (T.set (T.set (T.set (T.set tm1 35 (.bool false)) 44 (.bool false)) 11 wv) 12 (.pointer (some ⟨B12, 0, none⟩))) 13 (.int .i64 nx)) 14 (.bool (isV (cutS s)))) 13 = .int .i64 nx := by simp only [↓reduceIte, EV, Nat.reduceEqDiff]
  have y14 : tg (T.set (T.set (T.set (T.set (T.set (T.set tm1 35 (.bool false)) 44 (.bool false)) 11 wv) 12 (.pointer (some ⟨B12, 0, none⟩))) 13 (.int .i64 nx)) 14 (.bool (isV (cutS s)))) 14 = .bool (isV (cutS s)) := by simp only [↓reduceIte, EV]
  refine hK _ _ _ (C.seq ?_)
  generalize T.set (T.set (T.set (T.set (T.set (T.set tm1 35 (.bool false)) 44 (.bool false)) 11 wv) 12 (.pointer (some ⟨B12, 0, none⟩))) 13 (.int .i64 nx)) 14 (.bool (isV (cutS s))) = tm4 at *
  have rw4 := rw3.keep0 k4
  have st4 := st2.keep0 k4
  have tail : ¬ (k = 1 ∧ isV (cutS s) = true ∧ xs.length < 8) → ∀ tm', SR h0 v k B4 B7 at_ iv xs tm' h4 → tg tm' 10 = .int .i64 (i : Int) → tg tm' 11 = wv →
      C ⟨seqC ⟨seqC ⟨r13_21⟩ ⟨condC ⟨fun _ tm => tg tm 130⟩ ⟨seqC ⟨r13_22⟩ retC⟩ skipC⟩⟩ ⟨seqC ⟨seqC ⟨r13_23⟩ ⟨seqC ⟨r13_24⟩ ⟨condC ⟨fun _ tm => tg tm 146⟩ ⟨seqC ⟨r13_25⟩ retC⟩ skipC⟩⟩⟩ ⟨seqC ⟨r13_26⟩ retC⟩⟩⟩ (CF L (n + 7)) L tm' h4 fun e tm' h' => e = .ret ∧ RG h0 k (readP k b (f + 1) at_ xs) tm' h' := fun hn tm' a' z10 z11 => by
    rw [hP, if_neg hn]
    exact tailL13 L n hL he hG a' (by rw [hsl]; exact z10) z11 st4 (by omega) (by omega)
  intro K hK
  have none_ : ¬ (k = 1 ∧ isV (cutS s) = true ∧ xs.length < 8) → K .norm (T.set tm4 70 (.bool false)) [] h4 = true := fun hn => by
    refine hK _ _ _ (C.cond false (by simp only [↓reduceIte, EV]) (fun g => by cases g) fun _ => C.skip ((tail hn _ (a4.to (.refl _ _) (by simp only [↓reduceIte, EV, Nat.reduceEqDiff]) (by simp only [↓reduceIte, EV, Nat.reduceEqDiff]) (by simp only [↓reduceIte, EV, Nat.reduceEqDiff]) (by simp only [↓reduceIte, EV, Nat.reduceEqDiff]) (by simp only [↓reduceIte, EV, Nat.reduceEqDiff, a4.t8])) (by simp only [↓reduceIte, EV, Nat.reduceEqDiff, y10]) (by simp only [↓reduceIte, EV, Nat.reduceEqDiff, y11])).mono ?_))
    rintro e tm' h' ⟨rfl, hq⟩
    exact .inr ⟨rfl, hq⟩
  rw [box_f]
  cases hv : isV (cutS s) with
  | false =>
    rw [hv] at y14
    simp only [↓opStep_eq, ↓reduceIte, ↓EW, EV, r13_13, y14]
    exact none_ fun h => by rw [hv] at h; cases h.2.1
  | true =>
    rw [hv] at y14
    by_cases gk : (k : Int) = 1
    rotate_left
    · simp only [↓opStep_eq, ↓reduceIte, ↓EW, EV, r13_13, y14, a4.t1, decide_eq_false gk]
      exact none_ fun h => gk (by omega)
    have ld3 : ∀ s, loadOne h4 (.pointer (some ⟨B7, 3, s⟩)) = some iv := fun s => loadOne_has a4.b7 rfl
    by_cases g8 : (xs.length : Int) < 8
    rotate_left
    · simp only [↓opStep_eq, ↓reduceIte, ↓EW, EV, Nat.reduceAdd, r13_13, y14, a4.t1, decide_eq_true gk, a4.t7, ld3, a4.m.items.len, decide_eq_false g8]
      exact none_ fun h => g8 (by omega)
    simp only [↓opStep_eq, ↓reduceIte, ↓EW, EV, Nat.reduceAdd, r13_13, y14, a4.t1, decide_eq_true gk, a4.t7, ld3, a4.m.items.len, decide_eq_true g8]
    rw [if_pos (show k = 1 ∧ isV (cutS s) = true ∧ xs.length < 8 from ⟨by omega, hv, by omega⟩)] at hP
    obtain ⟨rfl, rfl, hn5⟩ := hx hv
    generalize nB (cutS s) = n5 at *
    clear none_ tail
    have a5 : SR h0 v k B4 B7 at_ iv xs (T.set tm4 70 (.bool true)) h4 := a4.to (.refl _ _) (by simp only [↓reduceIte, EV, Nat.reduceEqDiff]) (by simp only [↓reduceIte, EV, Nat.reduceEqDiff]) (by simp only [↓reduceIte, EV, Nat.reduceEqDiff]) (by simp only [↓reduceIte, EV, Nat.reduceEqDiff]) (by simp only [↓reduceIte, EV, Nat.reduceEqDiff, a4.t8])
    refine hK _ _ _ (C.cond true (by simp only [↓reduceIte, EV]) (fun _ => C.seq (C.block (C.seq fun K hK => ?_))) fun g => by cases g)
    have w1 : IntKind.i64.wrap ((i : Int) + (n5 : Int)) = ((i + n5 : Nat) : Int) := by
      rw [show (i : Int) + (n5 : Int) = ((i + n5 : Nat) : Int) by omega]; exact wrap_lt _ (by omega)
    have w2 : IntKind.i64.wrap (((i + n5 : Nat) : Int) + 4) = ((i + n5 + 4 : Nat) : Int) := by
      rw [show ((i + n5 : Nat) : Int) + 4 = ((i + n5 + 4 : Nat) : Int) by omega]; exact wrap_lt _ (by omega)
    have w3 : IntKind.i64.wrap ((i : Int) + 2) = ((i + 2 : Nat) : Int) := by
      rw [show (i : Int) + 2 = ((i + 2 : Nat) : Int) by omega]; exact wrap_lt _ (by omega)
    have w4 : IntKind.i64.wrap (((i + 2 : Nat) : Int) + (n5 : Int)) = ((i + 2 + n5 : Nat) : Int) := by
      rw [show ((i + 2 : Nat) : Int) + (n5 : Int) = ((i + 2 + n5 : Nat) : Int) by omega]; exact wrap_lt _ (by omega)
    have w5 : IntKind.i64.wrap ((i : Int) + 4) = ((i + 4 : Nat) : Int) := by
      rw [show (i : Int) + 4 = ((i + 4 : Nat) : Int) by omega]; exact wrap_lt _ (by omega)
    have w6 : IntKind.i64.wrap (((i + 4 : Nat) : Int) + (n5 : Int)) = ((i + 2 + n5 + 2 : Nat) : Int) := by
      rw [show ((i + 4 : Nat) : Int) + (n5 : Int) = ((i + 2 + n5 + 2 : Nat) : Int) by omega]; exact wrap_lt _ (by omega)
    by_cases gl : ((b.drop at_).length : Int) < ((i + n5 + 4 : Nat) : Int)
    · rw [if_pos (show (b.drop at_).length < i + n5 + 4 by omega)] at hP
      simp only [↓reduceIte, EV, Nat.reduceEqDiff, r13_14, y9, y10, y13, rw4.len, w1, w2, decide_eq_true gl]
      refine hK _ _ _ (C.cond true (by simp only [↓reduceIte, EV]) (fun _ => (zero_at (h0 := h0) (k := k) 0 (by simp only [↓reduceIte, EV, Nat.reduceEqDiff, a4.t4]) a4.b4 a4.lt.1 a4.keep : C ⟨seqC ⟨r13_15⟩ retC⟩ (CF L (n + 7)) L _ h4 _).mono ?_) fun g => by cases g)
      rintro e tm' h' ⟨rfl, hq⟩
      exact .inr ⟨rfl, by rw [hP]; exact hq⟩
    rw [if_neg (show ¬ (b.drop at_).length < i + n5 + 4 by omega)] at hP
    simp only [↓reduceIte, EV, Nat.reduceEqDiff, r13_14, y9, y10, y13, rw4.len, w1, w2, decide_eq_false gl]
    refine hK _ _ _ (C.cond false (by simp only [↓reduceIte, EV]) (fun g => by cases g) fun _ => C.seq fun K hK => ?_)
    have lo := rw4.mid (some (.int .i64 ((i + 2 + n5 : Nat) : Int))) (i + 2 + n5) (i + 2 + n5 + 2) (.inr rfl) (by omega) (by omega) .i64
    obtain ⟨w7, ew7, rw7, _⟩ := lo
    have ab := at_bytes (l := b.drop at_) (i := i + 2 + n5) (by omega)
    have qn : binV Tryd.prog .neq 9 true (.string ⟨(((b.drop at_).take (i + 2 + n5 + 2)).drop (i + 2 + n5)).toArray⟩) (.string (strB [13, 10])) = some (.bool (!decide (((b.drop at_).take (i + 2 + n5 + 2)).drop (i + 2 + n5) = [13, 10]))) := sv_neq 9 true _ [13, 10]
    by_cases ga : At (b.drop at_) (i + 2 + n5)
    rotate_left
    · rw [if_pos ga] at hP
      rw [decide_eq_false fun h => ga (ab.1 h)] at qn
      simp only [↓reduceIte, EV, Nat.reduceEqDiff, r13_16, y9, y10, y13, w3, w4, w5, w6, ew7, rw7.str, qn]
      refine hK _ _ _ (C.cond true (by simp only [↓reduceIte, EV]) (fun _ => (zero_at (h0 := h0) (k := k) 8 (by simp only [↓reduceIte, EV, Nat.reduceEqDiff, a4.t4]) a4.b4 a4.lt.1 a4.keep : C ⟨seqC ⟨r13_17⟩ retC⟩ (CF L (n + 7)) L _ h4 _).mono ?_) fun g => by cases g)
      rintro e tm' h' ⟨rfl, hq⟩
      exact .inr ⟨rfl, by rw [hP]; exact hq⟩
    rw [if_neg (fun h => h ga)] at hP
    rw [decide_eq_true (ab.2 ga)] at qn
    simp only [↓reduceIte, EV, Nat.reduceEqDiff, r13_16, y9, y10, y13, w3, w4, w5, w6, ew7, rw7.str, qn]
    refine hK _ _ _ (C.cond false (by simp only [↓reduceIte, EV]) (fun g => by cases g) fun _ => C.skip ?_)
    refine push13 (rest := b.drop at_) (i := i) (n := n5) (B12 := B12) (a5.to (at' := at_) (.refl _ _) (by simp only [↓reduceIte, EV, Nat.reduceEqDiff]) (by simp only [↓reduceIte, EV, Nat.reduceEqDiff]) (by simp only [↓reduceIte, EV, Nat.reduceEqDiff]) (by simp only [↓reduceIte, EV, Nat.reduceEqDiff]) (by simp only [↓reduceIte, EV, Nat.reduceEqDiff, a5.t8])) b12 l7 rw4 (by simp only [↓reduceIte, EV, Nat.reduceEqDiff, y9]) (by simp only [↓reduceIte, EV, Nat.reduceEqDiff, y10]) (by simp only [↓reduceIte, EV, Nat.reduceEqDiff, y12]) (by simp only [↓reduceIte, EV, Nat.reduceEqDiff, y13]) (by omega) (by omega) x8 fun h5 iv5 a6 => ?_
    refine C.seq fun K hK => ?_
    have w8 : IntKind.i64.wrap ((at_ : Int) + ((i + n5 + 4 : Nat) : Int)) = ((at_ + (i + n5 + 4) : Nat) : Int) := by
      rw [show (at_ : Int) + ((i + n5 + 4 : Nat) : Int) = ((at_ + (i + n5 + 4) : Nat) : Int) by omega]; exact wrap_lt _ (by omega)
    have z8 := a6.t8
    simp only [↓reduceIte, EV, Nat.reduceEqDiff] at z8
    simp only [↓reduceIte, EV, Nat.reduceEqDiff, r13_20, y10, y13, z8, w1, w2, w8]
    refine hK _ _ _ (C.exit ?_)
    show if 1 = 1 then _ else _
    rw [if_pos rfl]
    refine .inl ⟨rfl, at_ + (i + n5 + 4), iv5, _, a6.to (.refl _ _) (by simp only [↓reduceIte, EV, Nat.reduceEqDiff]) (by simp only [↓reduceIte, EV, Nat.reduceEqDiff]) (by simp only [↓reduceIte, EV, Nat.reduceEqDiff]) (by simp only [↓reduceIte, EV, Nat.reduceEqDiff]) (by simp only [↓reduceIte, EV]), by omega, by rw [List.length_append]; rfl, by rw [List.length_append]; show xs.length + 1 ≤ 8; omega, hP⟩
end Go.Proofs.YthofbmfcpfibdaaDoor
