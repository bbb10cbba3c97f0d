import Derived.Test.YtpaolklbogakgaaRdH
set_option linter.unusedSimpArgs false
set_option linter.unusedVariables false
namespace Go.Proofs.Ytpaolklbogakgaa
open Go.Ev

end Go.Proofs.Ytpaolklbogakgaa

namespace Go.Proofs.Ytpaolklbogakgaa
open Go.Ev

theorem lit_item (b : Nat) (x : Itm) : mkLit 1 b (fill (repl [(.string (strB [])), (.string (strB [])), (.int .u32 (0)), (.int .i64 (0)), (.int .u64 (0))] 1) (pl 5) [(0, x.v)]) = some (.rw x.cells, .slice (some ⟨b, 0, none⟩) 1 1) := rfl

end Go.Proofs.Ytpaolklbogakgaa

namespace Go.Proofs.Ytpaolklbogakgaa
open Go.Ev

/-- what a result's body is -/
def pRes : List UInt8 → Option (UInt8 × UInt8 × Nat × List Itm)
  | x0 :: x1 :: b => match rd 0 b with
    | none => none
    | some (num, k1) => match rd 0 (b.drop k1) with
      | none => none
      | some (many, k2) => if 8 < many then none else match pItems many ((b.drop k1).drop k2) with
        | none => none
        | some (xs, rest) => if rest = [] then some (x0, x1, num, xs) else none
  | _ => none

def Shape7 (v : Value) : Prop := ∃ cs : List Value, v = .agg cs.toArray ∧ cs.length = 7 ∧ ones cs = true
abbrev Z7 : List Value := [.int .u8 0, .int .u8 0, .int .u8 0, .slice none 0 0, .int .u64 0, .bool false, .string (strB [])]
abbrev P7 : Nat → Option (Nat × Nat) := plc [(0, 1), (1, 1), (2, 3), (5, 1), (6, 1)]
theorem agg_zero : aggO (fill Z7 P7 []) = some (.agg Z7.toArray) := rfl
theorem agg_kind (k : Value) (hk : k.cells = #[k]) : aggO (fill Z7 P7 [(0, k)]) = some (.agg [k, .int .u8 0, .int .u8 0, .slice none 0 0, .int .u64 0, .bool false, .string (strB [])].toArray) := by
  simp [fill, plc, nth, hk, putAt]
theorem z7_shape : Shape7 (.agg Z7.toArray) := ⟨Z7, rfl, rfl, rfl⟩
theorem store7 {h : H} {b : Nat} {s} {cs : List Value} {v : Value} (a : Has h b (.rw cs)) (hl : cs.length = 7) (hv : Shape7 v) : ∃ ds, v = .agg ds.toArray ∧ ds.length = 7 ∧ ones ds = true ∧ storeV 7 h (.pointer (some ⟨b, 0, s⟩)) v = some (h.put b (.rw ds)) := by
  obtain ⟨ds, rfl, h1, h2⟩ := hv
  exact ⟨ds, rfl, h1, h2, by have := store_has (s := s) (v := .agg ds.toArray) a hl.symm (by simpa using h1) (by simpa using h2); simpa using this⟩
theorem load7 {h : H} {b : Nat} {s} {cs : List Value} (a : Has h b (.rw cs)) (hl : cs.length = 7) : loadAgg 7 h (.pointer (some ⟨b, 0, s⟩)) = some (.agg cs.toArray) := by
  rw [loadAgg_has a rfl (by omega), List.drop_zero, List.take_of_length_le (by omega)]
theorem MineI.ones {h : H} {v : Value} {l : List Itm} (m : MineI h v l) : ones [v] = true := by cases m <;> rfl
theorem MineI.cells {h : H} {v : Value} {l : List Itm} (m : MineI h v l) : v.cells = #[v] := by cases m <;> rfl

theorem MineI.ne {h : H} {v : Value} {l : List Itm} {b : Nat} {cs : List Value} (m : MineI h v l) (a : Has h b (.rw cs)) : ¬ blk v b := fun hb => by
  cases m with
  | nil => simp at hb
  | op b' cap l _ _ h1 =>
    simp at hb; subst hb
    have := h1.2.symm.trans a.2
    cases this

def resA (x0 x1 : UInt8) (num : Nat) (iv : Value) (xs : List Itm) : Ans := ⟨1, (x0.toNat : Int), ⟨(x1.toNat : Int), iv, (num : Int), xs⟩, false, strB []⟩

end Go.Proofs.Ytpaolklbogakgaa

namespace Go.Proofs.Ytpaolklbogakgaa
open Go.Ev

abbrev noIv : Value := .slice none 0 0
def plainA (kind : UInt8) (yes : Bool) (key : ByteArray) : Ans := ⟨(kind.toNat : Int), 0, ⟨0, noIv, 0, []⟩, yes, key⟩
def withIv (a : Ans) (iv : Value) : Ans := ⟨a.kind, a.of, ⟨a.r.kind, iv, a.r.num, a.r.items⟩, a.yes, a.key⟩
/-- what a packet's body is, may it be or not -/
def pShape (kind : UInt8) (l : List UInt8) : Option Ans :=
  if kind = 1 then match pRes l with
    | some (x0, x1, num, xs) => some (resA x0 x1 num noIv xs)
    | none => none
  else if kind = 2 ∨ kind = 3 then match l with
    | [y] => if y.toNat < 2 then some (plainA kind (decide (y.toNat = 1)) (strB [])) else none
    | _ => none
  else if kind = 7 then some (plainA kind false ⟨l.toArray⟩)
  else if l = [] then some (plainA kind false (strB [])) else none
def pOf (kind : UInt8) (l : List UInt8) : Option Ans := match pShape kind l with
  | some a => if mayB a then some a else none
  | none => none
theorem may_iv (a : Ans) (iv : Value) : mayB (withIv a iv) = mayB a := rfl

theorem veq_int' (k : IntKind) (n : Int) (m : Nat) : veq (m + 1) (.int k n) (.int k n) = true := by
  show (kEq k k && iEq n n) = true
  rw [kEq_self, iEq_dec]; simp
theorem ItemsAt.ones {h : H} {v : Value} {l : List Itm} (a : ItemsAt h v l) : Go.Ev.ones [v] = true := by
  rcases a with ⟨rfl, rfl⟩ | ⟨b, o, c, x, cs, rfl, _⟩ <;> rfl
theorem ones_cons {x : Value} {l : List Value} (hx : ones [x] = true) (hl : ones l = true) : ones (x :: l) = true := by
  cases x <;> first | exact hl | cases hx
theorem ans_shape {a : Ans} (h : ones [a.r.iv] = true) : Shape7 a.v := ⟨a.cells, rfl, rfl, ones_cons (x := .int .u8 a.kind) rfl (ones_cons (x := .int .u8 a.of) rfl (ones_cons (x := .int .u8 a.r.kind) rfl (ones_cons h rfl)))⟩
/-- an answer that has been read: as it lies -/
def Got (h : H) (a : Ans) (av : Value) : Prop := ∃ iv, av = (withIv a iv).v ∧ MineI h iv a.r.items

section
variable {call : CallT} {L : Nat} {tm : T Value} {h : H} {K : KE} {v : Value} {l : List UInt8}
end

def InP (p : Option Ans) (g : Bool) (h : H) (av : Value) : Prop := match p with
  | none => g = false
  | some a => g = true ∧ Got h a av ∧ a.r.items.length ≤ 8 ∧ ∀ x ∈ a.r.items, x.ok
end Go.Proofs.Ytpaolklbogakgaa

namespace Go.Proofs.Ytpaolklbogakgaa
open Go.Ev

theorem eql_u8 (t : TypeId) (c : Bool) (x y : UInt8) : binV Try.prog .eql t c (bv x) (bv y) = some (.bool (decide (x = y))) := by
  have e : decide ((x.toNat : Int) = (y.toNat : Int)) = decide (x = y) := by
    rw [decide_eq_decide]
    exact ⟨fun h => UInt8.toNat_inj.1 (by omega), fun h => by rw [h]⟩
  simp only [bv, binV_eql, e]

theorem plain_got (h : H) (kind : UInt8) (yes : Bool) (key : ByteArray) : Got h (plainA kind yes key) (.agg [bv kind, .int .u8 0, .int .u8 0, noIv, .int .u64 0, .bool yes, .string key].toArray) := ⟨noIv, rfl, .nil⟩
theorem plain_shape (kind : UInt8) (yes : Bool) (key : ByteArray) : Shape7 (.agg [bv kind, .int .u8 0, .int .u8 0, noIv, .int .u64 0, .bool yes, .string key].toArray) := ⟨_, rfl, rfl, rfl⟩

end Go.Proofs.Ytpaolklbogakgaa

namespace Go.Proofs.Ytpaolklbogakgaa
open Go.Ev

/-- what a reader answers -/
def readR (l : List UInt8) : Option Ans × Nat × Int :=
  if (cutR 178 l).2.2.2 ≠ 0 ∨ (cutR 178 l).2.2.1 = 0 then (none, 0, (cutR 178 l).2.2.2) else match pOf (cutR 178 l).1 (cutR 178 l).2.1 with
  | none => (none, 0, 8)
  | some a => (some a, (cutR 178 l).2.2.1, 0)
def GotP (o : Option Ans) (h : H) (av : Value) : Prop := match o with
  | none => av = .agg Z7.toArray
  | some a => Got h a av
def ReadQ (q : Option Ans × Nat × Int) (h : H) (r : Value) (h' : H) : Prop := ∃ av, r = .tuple [av, .int .i64 (q.2.1 : Int), .int .i64 q.2.2].toArray ∧ Keep nobody h h' ∧ GotP q.1 h' av

theorem cutR_len (f : UInt8) (l : List UInt8) : (cutR f l).2.1.length ≤ l.length := by
  unfold cutR
  split
  · simp
  · split
    · split
      · simp
      · split
        · simp
        · split
          · simp
          · simp; omega
    · split <;> simp
    · simp

end Go.Proofs.Ytpaolklbogakgaa

namespace Go.Proofs.Ytpaolklbogakgaa
open Go.Ev

/-! an item as the reader takes it: two texts, three numbers, one behind the other -/
def T1 (l : List UInt8) := txtS l
def T2 (l : List UInt8) := txtS (T1 l).2.1
def N1 (l : List UInt8) := numS (T2 l).2.1
def N2 (l : List UInt8) := numS (N1 l).2.1
def N3 (l : List UInt8) := numS (N2 l).2.1
def okF (l : List UInt8) : Bool := (T1 l).2.2 && (T2 l).2.2 && (N1 l).2.2 && (N2 l).2.2 && (N3 l).2.2
def itF (l : List UInt8) : Itm := ⟨⟨(T1 l).1.toArray⟩, ⟨(T2 l).1.toArray⟩, (N1 l).1, (N2 l).1, (N3 l).1⟩

theorem txtS_nil : txtS [] = ([], [], false) := by simp [txtS, cutS, rd]
theorem numS_nil : numS [] = (0, [], false) := by simp [numS, rd]
theorem txtS_len (l : List UInt8) : (txtS l).2.1.length ≤ l.length := by
  unfold txtS
  cases h : cutS l with
  | none => simp
  | some p => exact (cutS_len (s := p.1) (r := p.2) h).1
theorem numS_len (l : List UInt8) : (numS l).2.1.length ≤ l.length := by
  unfold numS
  cases h : rd 0 l with
  | none => simp
  | some p => simp
theorem numS_lt (l : List UInt8) : (numS l).1 < 18446744073709551616 := by
  unfold numS
  cases h : rd 0 l with
  | none => simp
  | some p => exact (rd_bound l 0 p.1 p.2 h (by decide)).1
theorem five_len (l : List UInt8) : (T1 l).2.1.length ≤ l.length ∧ (T2 l).2.1.length ≤ l.length ∧ (N1 l).2.1.length ≤ l.length ∧ (N2 l).2.1.length ≤ l.length ∧ (N3 l).2.1.length ≤ l.length := by
  have h1 := txtS_len l
  have h2 := txtS_len (T1 l).2.1
  have h3 := numS_len (T2 l).2.1
  have h4 := numS_len (N1 l).2.1
  have h5 := numS_len (N2 l).2.1
  simp only [T1, T2, N1, N2, N3] at *
  omega

theorem five (l : List UInt8) : if okF l then pItem l = (if 4294967295 < (N1 l).1 ∨ 1099511627776 < (N2 l).1 then none else some (itF l, (N3 l).2.1)) else pItem l = none ∧ (N3 l).2.1 = [] := by
  cases h1 : cutS l with
  | none =>
    have a1 : T1 l = ([], [], false) := by simp [T1, txtS, h1]
    have a2 : T2 l = ([], [], false) := by simp [T2, a1, txtS_nil]
    have a3 : N1 l = (0, [], false) := by simp [N1, a2, numS_nil]
    have a4 : N2 l = (0, [], false) := by simp [N2, a3, numS_nil]
    have a5 : N3 l = (0, [], false) := by simp [N3, a4, numS_nil]
    simp [okF, a1, a2, a3, a4, a5, pItem, h1]
  | some p =>
  obtain ⟨k, l1⟩ := p
  have a1 : T1 l = (k, l1, true) := by simp [T1, txtS, h1]
  cases h2 : cutS l1 with
  | none =>
    have a2 : T2 l = ([], [], false) := by simp [T2, a1, txtS, h2]
    have a3 : N1 l = (0, [], false) := by simp [N1, a2, numS_nil]
    have a4 : N2 l = (0, [], false) := by simp [N2, a3, numS_nil]
    have a5 : N3 l = (0, [], false) := by simp [N3, a4, numS_nil]
    simp [okF, a1, a2, a3, a4, a5, pItem, h1, h2]
  | some p =>
  obtain ⟨v, l2⟩ := p
  have a2 : T2 l = (v, l2, true) := by simp [T2, a1, txtS, h2]
  cases h3 : rd 0 l2 with
  | none =>
    have a3 : N1 l = (0, [], false) := by simp [N1, a2, numS, h3]
    have a4 : N2 l = (0, [], false) := by simp [N2, a3, numS_nil]
    have a5 : N3 l = (0, [], false) := by simp [N3, a4, numS_nil]
    simp [okF, a1, a2, a3, a4, a5, pItem, h1, h2, h3, nums]
  | some p =>
  obtain ⟨f, k1⟩ := p
  have a3 : N1 l = (f, l2.drop k1, true) := by simp [N1, a2, numS, h3]
  cases h4 : rd 0 (l2.drop k1) with
  | none =>
    have a4 : N2 l = (0, [], false) := by simp [N2, a3, numS, h4]
    have a5 : N3 l = (0, [], false) := by simp [N3, a4, numS_nil]
    simp [okF, a1, a2, a3, a4, a5, pItem, h1, h2, h3, h4, nums]
  | some p =>
  obtain ⟨u, k2⟩ := p
  have a4 : N2 l = (u, (l2.drop k1).drop k2, true) := by simp only [N2, a3, numS, h4]
  cases h5 : rd 0 ((l2.drop k1).drop k2) with
  | none =>
    have a5 : N3 l = (0, [], false) := by simp only [N3, a4, numS, h5]
    have hp : pItem l = none := by simp only [pItem, h1, h2, h3, h4, h5, nums]
    simp [okF, a1, a2, a3, a4, a5, hp]
  | some p =>
  obtain ⟨q, k3⟩ := p
  have a5 : N3 l = (q, ((l2.drop k1).drop k2).drop k3, true) := by simp only [N3, a4, numS, h5]
  have hok : okF l = true := by simp [okF, a1, a2, a3, a4, a5]
  rw [if_pos hok]
  simp only [pItem, h1, h2, h3, h4, h5, nums, ofNums, itF, a1, a2, a3, a4, a5]
  by_cases hlim : 4294967295 < f ∨ 1099511627776 < u
  · simp only [if_pos hlim]
  · simp only [if_neg hlim]
end Go.Proofs.Ytpaolklbogakgaa
