import Derived.Test.YtilpiiafjehbnaaGreatDoorEvV
namespace Go.Ev
set_option linter.unusedSimpArgs false
set_option linter.unusedVariables false
variable {P : Program}
@[simp] theorem tg_set (tm : T Value) (i j : Nat) (v : Value) : tg (T.set tm i v) j = if i = j then v else tg tm j := by
 have h := T.get_set tm i j v
 unfold tg getT
 unfold T.get at h
 rw [h]
 split <;> rfl
@[simp] theorem toTm_nil (i : Nat) (t : T Value) : toTm [] i t = t := (rfl)
@[simp] theorem toTm_cons (v : Value) (r : List Value) (i : Nat) (t : T Value) : toTm (v :: r) i t = toTm r (i + 1) (t.set i v) := (rfl)
@[simp] theorem nthD_zero (v : Value) (r : List Value) : nthD 0 (v :: r) = v := (rfl)
@[simp] theorem nthD_succ (n : Nat) (v : Value) (r : List Value) : nthD (n + 1) (v :: r) = nthD n r := (rfl)
theorem nt : (!true) = false := (rfl)
theorem nf : (!false) = true := (rfl)
theorem gz {α : Type} (a : α) (l : List α) : (a :: l)[0]? = some a := (rfl)
theorem gs {α : Type} (a : α) (l : List α) (n : Nat) : (a :: l)[n + 1]? = l[n]? := (rfl)
theorem dt : decide True = true := (rfl)
theorem df : decide False = false := (rfl)
@[simp] theorem kO_some (v : Value) (ds : Defs) (h : H) (K : OpK) : kO (some v) ds h K = K v ds h := (rfl)
@[simp] theorem kA_some (x : AObj) (v : Value) (ds : Defs) (h : H) (K : OpK) : kA (some (x, v)) ds h K = K v ds (h.new x) := (rfl)
@[simp] theorem kH_some (v : Value) (h : H) (ds : Defs) (K : OpK) : kH (some (v, h)) ds K = K v ds h := (rfl)
@[simp] theorem gd_true (one : OpK → Bool) (ds : Defs) (h : H) (K : OpK) : gd true one ds h K = one K := (rfl)
@[simp] theorem gd_false (one : OpK → Bool) (ds : Defs) (h : H) (K : OpK) : gd false one ds h K = K undef ds h := (rfl)
@[simp] theorem isB_true (b : Bool) : isB true (.bool b) = b := (rfl)
@[simp] theorem isB_false (b : Bool) : isB false (.bool b) = !b := (rfl)
@[simp] theorem isB_undef (w : Bool) : isB w undef = false := (rfl)
@[simp] theorem pickV_true (a b : Value) : pickV (.bool true) a b = some a := (rfl)
@[simp] theorem pickV_false (a b : Value) : pickV (.bool false) a b = some b := (rfl)
@[simp] theorem withV_some (v : Value) (h : H) : withV v (some h) = some (v, h) := (rfl)
@[simp] theorem aggO_some (l : List Value) : aggO (some l) = some (.agg l.toArray) := (rfl)
@[congr] theorem kO_congr {o o' : Option Value} {ds : Defs} {h : H} {K : OpK} (e : o = o') : kO o ds h K = kO o' ds h K := by rw [e]
@[congr] theorem kA_congr {o o' : Option (AObj × Value)} {ds : Defs} {h : H} {K : OpK} (e : o = o') : kA o ds h K = kA o' ds h K := by rw [e]
@[congr] theorem kH_congr {o o' : Option (Value × H)} {ds : Defs} {K : OpK} (e : o = o') : kH o ds K = kH o' ds K := by rw [e]
@[congr] theorem aO_congr {o o' : Option (AObj × Value)} {K : AObj → Value → Bool} (e : o = o') : aO o K = aO o' K := by rw [e]
@[congr] theorem gd_congr {g g' : Bool} {one : OpK → Bool} {ds : Defs} {h : H} {K : OpK} (e : g = g') : gd g one ds h K = gd g' one ds h K := by rw [e]
@[congr] theorem andB_congr {a a' b : Bool} (e : a = a') : andB a b = andB a' b := by rw [e]
@[congr] theorem callF_congr {P : Program} {Sf : Nat → Nat} {X : List (Nat × XK)} {NG L n f : Nat} {args args' : List Value} {h : H} {K : KV} (e : args = args') : callF P Sf X NG L n f args h K = callF P Sf X NG L n f args' h K := by rw [e]
@[simp] theorem andB_true (b : Bool) : andB true b = b := (rfl)
@[simp] theorem aO_some (x : AObj) (v : Value) (K : AObj → Value → Bool) : aO (some (x, v)) K = K x v := (rfl)
theorem opStep_eq (one : Box OpT) (put : Box (Value → T Value → T Value)) (want : Box (List Value → T Value → Bool)) (rest : Box OpsT) (call : CallT) (env : List Value) (tm : T Value) (ds : Defs) (h : H) (K : KE) :
   opStep one put want rest call env tm ds h K = if want.f env tm = true then one.f call env tm ds h (fun v ds h => rest.f call (v :: env) (put.f v tm) ds h K) else rest.f call (undef :: env) (put.f undef tm) ds h K := by
 unfold opStep
 cases want.f env tm <;> rfl
@[simp] theorem kEq_self (k : IntKind) : kEq k k = true := by cases k <;> rfl
theorem iEq_dec (a b : Int) : iEq a b = decide (a = b) := (iEq_eq a b).trans rfl
attribute [local simp] iLt_eq iEq_dec
section
variable (t : TypeId) (c : Bool) (k : IntKind) (x y : Int)
@[simp] theorem binV_add : binV P .add t c (.int k x) (.int k y) = some (.int k (k.wrap (x + y))) := by simp [binV, binInt, orRun, intOp]
@[simp] theorem binV_sub : binV P .sub t c (.int k x) (.int k y) = some (.int k (k.wrap (x - y))) := by simp [binV, binInt, orRun, intOp]
@[simp] theorem binV_mul : binV P .mul t c (.int k x) (.int k y) = some (.int k (k.wrap (x * y))) := by simp [binV, binInt, orRun, intOp]
@[simp] theorem binV_eql : binV P .eql t c (.int k x) (.int k y) = some (.bool (decide (x = y))) := by simp [binV, binInt, orRun, intOp]
@[simp] theorem binV_neq : binV P .neq t c (.int k x) (.int k y) = some (.bool (!decide (x = y))) := by simp [binV, binInt, orRun, intOp]
@[simp] theorem binV_lss : binV P .lss t c (.int k x) (.int k y) = some (.bool (decide (x < y))) := by simp [binV, binInt, orRun, intOp]
@[simp] theorem binV_leq : binV P .leq t c (.int k x) (.int k y) = some (.bool (decide (x ≤ y))) := by
 simp [binV, binInt, orRun, intOp]
 by_cases h : y < x <;> simp [h] <;> omega
@[simp] theorem binV_gtr : binV P .gtr t c (.int k x) (.int k y) = some (.bool (decide (y < x))) := by simp [binV, binInt, orRun, intOp]
@[simp] theorem binV_geq : binV P .geq t c (.int k x) (.int k y) = some (.bool (decide (y ≤ x))) := by
 simp [binV, binInt, orRun, intOp]
 by_cases h : x < y <;> simp [h] <;> omega
theorem binV_quo (h : y ≠ 0) : binV P .quo t c (.int k x) (.int k y) = some (.int k (k.wrap (x.tdiv y))) := by simp [binV, binInt, orRun, intOp, h]
theorem binV_rem (h : y ≠ 0) : binV P .rem t c (.int k x) (.int k y) = some (.int k (x.tmod y)) := by simp [binV, binInt, orRun, intOp, h]
end
@[simp] theorem unV_not (b : Bool) : unV .not (.bool b) = some (.bool (!b)) := (rfl)
theorem toInt_int (k k' : IntKind) (n : Int) : toInt k (.int k' n) = some (.int k (k.wrap n)) := (rfl)
@[simp] theorem lenStr_string (s : ByteArray) : lenStr (.string s) = some (.int .i64 (s.size : Int)) := (rfl)
@[simp] theorem lenSl_slice (a : Option Addr) (n c : Nat) : lenSl (.slice a n c) = some (.int .i64 (n : Int)) := (rfl)
@[simp] theorem asNat_nat (k : IntKind) (n : Nat) : asNat (.int k (n : Int)) = some n := (rfl)
@[simp] theorem asNat_lit (k : IntKind) (n : Nat) : asNat (.int k (OfNat.ofNat n : Int)) = some n := (rfl)
@[simp] theorem asNat_zero (k : IntKind) : asNat (.int k 0) = some 0 := (rfl)
@[simp] theorem asNat_one (k : IntKind) : asNat (.int k 1) = some 1 := (rfl)
@[simp] theorem tupNth_tuple (i : Nat) (l : List Value) : tupNth i (.tuple l.toArray) = l[i]? := by simp [tupNth, nth_eq]
@[simp] theorem fieldPtr_ptr (off : Nat) (b o : Nat) (s) : fieldPtr off (.pointer (some ⟨b, o, s⟩)) = some (.pointer (some ⟨b, o + off, none⟩)) := (rfl)
theorem wrap_eq (k : IntKind) (n : Int) (h1 : k.min ≤ n) (h2 : n ≤ k.max) : k.wrap n = n := by
 cases k <;> simp [IntKind.wrap, IntKind.min, IntKind.max, IntKind.bits, IntKind.signed] at * <;> omega
structure Keep (S : Nat → Prop) (h h' : H) : Prop where
 next : h.next ≤ h'.next
 same : ∀ b, b < h.next → ¬ S b → h'.objs.get b = h.objs.get b
def nobody : Nat → Prop := fun _ => False
theorem Keep.refl (S : Nat → Prop) (h : H) : Keep S h h := ⟨Nat.le_refl _, fun _ _ _ => rfl⟩
theorem Keep.trans {S S' : Nat → Prop} {h h1 h2 : H} (a : Keep S h h1) (b : Keep S' h1 h2) (hs : ∀ k, k < h.next → S' k → S k) : Keep S h h2 :=
 ⟨Nat.le_trans a.next b.next, fun k hk hn => (b.same k (Nat.lt_of_lt_of_le hk a.next) (fun s => hn (hs k hk s))).trans (a.same k hk hn)⟩
theorem Keep.then {S : Nat → Prop} {h h1 h2 : H} (a : Keep S h h1) (b : Keep nobody h1 h2) : Keep S h h2 := a.trans b fun _ _ h => h.elim
theorem Keep.mono {S S' : Nat → Prop} {h h1 : H} (a : Keep S h h1) (hs : ∀ k, k < h.next → S k → S' k) : Keep S' h h1 := ⟨a.next, fun k hk hn => a.same k hk fun s => hn (hs k hk s)⟩
theorem Keep.new (h : H) (x : AObj) : Keep nobody h (h.new x) := ⟨Nat.le_succ _, fun b hb _ => by
 show (h.objs.set h.next x).get b = _
 rw [T.get_set, if_neg (by omega)]⟩
theorem Keep.put (h : H) (b : Nat) (x : AObj) : Keep (· = b) h (h.put b x) := ⟨Nat.le_refl _, fun k hk hn => by
 show (h.objs.set b x).get k = _
 rw [T.get_set, if_neg (fun e => hn e.symm)]⟩
theorem Keep.del (h : H) (b : Nat) : Keep (· = b) h (h.del b) := ⟨Nat.le_refl _, fun k hk hn => by
 show (h.objs.del b).get k = _
 rw [T.get_del, if_neg (fun e => hn e.symm)]⟩
def Has (h : H) (b : Nat) (x : AObj) : Prop := b < h.next ∧ h.objs.get b = some x
theorem Has.keep {S : Nat → Prop} {h h' : H} {b : Nat} {x : AObj} (a : Has h b x) (k : Keep S h h') (hn : ¬ S b) : Has h' b x := ⟨Nat.lt_of_lt_of_le a.1 k.next, (k.same b a.1 hn).trans a.2⟩
theorem Has.keep0 {h h' : H} {b : Nat} {x : AObj} (a : Has h b x) (k : Keep nobody h h') : Has h' b x := a.keep k id
theorem Has.new (h : H) (x : AObj) : Has (h.new x) h.next x := ⟨Nat.lt_succ_self _, by show (h.objs.set h.next x).get h.next = _; rw [T.get_set, if_pos rfl]⟩
theorem Has.put {h : H} {b : Nat} {x : AObj} (hb : b < h.next) : Has (h.put b x) b x := ⟨hb, by show (h.objs.set b x).get b = _; rw [T.get_set, if_pos rfl]⟩
@[simp] theorem next_new (h : H) (x : AObj) : (h.new x).next = h.next + 1 := rfl
@[simp] theorem next_put (h : H) (b : Nat) (x : AObj) : (h.put b x).next = h.next := rfl
theorem Has.cells {h : H} {b : Nat} {x : AObj} (a : Has h b x) : h.cellsOf b = x.cells? := by simp [H.cellsOf, a.2]
theorem loadOne_has {h : H} {b o : Nat} {s} {x : AObj} {cs : List Value} (a : Has h b x) (hx : x.cells? = some cs) : loadOne h (.pointer (some ⟨b, o, s⟩)) = cs[o]? := by
 simp [loadOne, a.cells, hx, nth_eq]
theorem cut_eq {α : Type} : ∀ (l : List α) (i : Nat), i ≤ l.length → cut l i = some (l.drop i)
 | [], i, h => by simp at h; subst h; rfl
 | x :: xs, 0, _ => rfl
 | x :: xs, i + 1, h => by simpa [cut] using cut_eq xs i (by simpa using h)
theorem takeN_eq {α : Type} : ∀ (l : List α) (i : Nat), i ≤ l.length → takeN l i = some (l.take i)
 | [], i, h => by simp at h; subst h; rfl
 | x :: xs, 0, _ => rfl
 | x :: xs, i + 1, h => by simp [takeN, takeN_eq xs i (by simpa using h)]
theorem putAt_end {α : Type} : ∀ (l : List α) (y : α) (ys : List α), putAt l l.length (y :: ys) = none
 | [], y, ys => rfl
 | x :: xs, y, ys => by simp [putAt, putAt_end xs y ys]
theorem row_has {h : H} {b o n : Nat} {x : AObj} {cs : List Value} (a : Has h b x) (hx : x.cells? = some cs) (hn : o + n ≤ cs.length) : h.row b o n = some ((cs.drop o).take n) := by
 simp only [H.row, a.cells, hx]
 rw [cut_eq _ _ (by omega)]
 simp only
 rw [takeN_eq _ _ (by simp; omega)]
theorem putAt_zero {α : Type} : ∀ (cs l : List α), l.length = cs.length → putAt cs 0 l = some l
 | [], [], _ => rfl
 | [], _ :: _, h => by simp at h
 | x :: xs, [], h => by simp at h
 | x :: xs, y :: ys, h => by simp [putAt, putAt_zero xs ys (by simpa using h)]
theorem store_has {h : H} {b n : Nat} {s} {cs : List Value} {ty : Option TypeId} {v : Value} (a : Has h b (.rw cs ty)) (hn : n = cs.length) (hv : v.cells.size = n) (h1 : ones v.cells.toList = true) :
   storeV n h (.pointer (some ⟨b, 0, s⟩)) v = some (h.put b (.rw v.cells.toList ty)) := by
 unfold storeV
 simp only [hv, Nat.beq_refl, H.write, h1, a.2]
 rw [putAt_zero _ _ (by simp [hv, hn])]
theorem store_new (h : H) (n : Nat) (s) (cs : List Value) (ty : Option TypeId) (v : Value) (hn : n = cs.length) (hv : v.cells.size = n) (h1 : ones v.cells.toList = true) :
   storeV n (h.new (.rw cs ty)) (.pointer (some ⟨h.next, 0, s⟩)) v = some ((h.new (.rw cs ty)).put h.next (.rw v.cells.toList ty)) := store_has (Has.new h _) hn hv h1
theorem keep_alloc (h : H) (x y : AObj) : Keep nobody h ((h.new x).put h.next y) := ⟨Nat.le_succ _, fun b hb _ => by
 show ((h.objs.set h.next x).set h.next y).get b = _
 rw [T.get_set, if_neg (by omega), T.get_set, if_neg (by omega)]⟩
theorem has_alloc (h : H) (x y : AObj) : Has ((h.new x).put h.next y) h.next y := Has.put (Nat.lt_succ_self _)
theorem strV_eql (t : TypeId) (c : Bool) (x y : ByteArray) : binV P .eql t c (.string x) (.string y) = some (.bool (leB x.data.toList y.data.toList)) := rfl
theorem strV_neq (t : TypeId) (c : Bool) (x y : ByteArray) : binV P .neq t c (.string x) (.string y) = some (.bool (!leB x.data.toList y.data.toList)) := rfl
theorem leB_empty (x : ByteArray) : leB x.data.toList (strB []).data.toList = decide ((x.size : Int) = 0) := by
 rw [leB_eq]
 have : (strB []).data.toList = [] := rfl
 rw [this]
 cases h : x.data.toList with
 | nil =>
   have : x.size = 0 := by simp [ByteArray.size, ← Array.length_toList, h]
   simp [this]
 | cons a l =>
   have : x.size = l.length + 1 := by simp [ByteArray.size, ← Array.length_toList, h]
   simp [this]; omega
theorem str_empty (t : TypeId) (c : Bool) (x : ByteArray) : binV P .eql t c (.string x) (.string (strB [])) = some (.bool (decide ((x.size : Int) = 0))) := by rw [strV_eql, leB_empty]
theorem str_nempty (t : TypeId) (c : Bool) (x : ByteArray) : binV P .neq t c (.string x) (.string (strB [])) = some (.bool (!decide ((x.size : Int) = 0))) := by rw [strV_neq, leB_empty]
@[simp] theorem cells_agg (a : Array Value) : Value.cells (.agg a) = a := (rfl)
@[simp] theorem getD_new (h : H) (cs : List Value) (ty : Option TypeId) (o : Nat) (s) : loadOne (h.new (.rw cs ty)) (.pointer (some ⟨h.next, o, s⟩)) = cs[o]? := loadOne_has (Has.new h (.rw cs ty)) rfl
theorem loadAgg_has {h : H} {b o n : Nat} {s} {x : AObj} {cs : List Value} (a : Has h b x) (hx : x.cells? = some cs) (hn : o + n ≤ cs.length) : loadAgg n h (.pointer (some ⟨b, o, s⟩)) = some (.agg ((cs.drop o).take n).toArray) := by
 simp [loadAgg, row_has a hx hn]
@[simp] theorem ptrTo_eq (b : Nat) : ptrTo b = .pointer (some ⟨b, 0, none⟩) := (rfl)
def bv (x : UInt8) : Value := .int .u8 (x.toNat : Int)
theorem bytesOf_bv : ∀ l : List UInt8, bytesOf (l.map bv) = some l
 | [] => rfl
 | x :: l => by
   show (match bytesOf (l.map bv) with | some t => some (UInt8.ofNat x.toNat :: t) | none => none) = _
   rw [bytesOf_bv l]
   simp
theorem ones_bv : ∀ l : List UInt8, ones (l.map bv) = true
 | [] => rfl
 | x :: l => ones_bv l
theorem wrapu8 (x : Nat) : IntKind.u8.wrap (x : Int) = ((x % 256 : Nat) : Int) := by
 simp [IntKind.wrap, IntKind.bits, IntKind.signed]
theorem lit2 (e : TypeId) (b : Nat) (x y : UInt8) : mkLit e 2 b (fill (repl [(.int .u8 (0))] 2) (pl 1) [(0, bv x), (1, bv y)]) = some (.rw ([x, y].map bv) (some e), .slice (some ⟨b, 0, none⟩) [x, y].length [x, y].length) := rfl
def Reads (h : H) (v : Value) (l : List UInt8) : Prop :=
 (v = .slice none 0 0 ∧ l = []) ∨ ∃ b o c x cs, v = .slice (some ⟨b, o, none⟩) l.length c ∧ Has h b x ∧ x.cells? = some cs ∧ o + l.length ≤ cs.length ∧ (cs.drop o).take l.length = l.map bv
inductive Mine (h : H) : Value → List UInt8 → Prop where
 | nil : Mine h (.slice none 0 0) []
 | op (b cap : Nat) (l : List UInt8) (ty : Option TypeId) : Nat.ble OPEN cap = true → Nat.beq (szOf cap) 1 = true → Has h b (.op (l.map bv) 1 ty) → Mine h (.slice (some ⟨b, 0, none⟩) l.length cap) l
 | rw (b : Nat) (l : List UInt8) (ty : Option TypeId) : Has h b (.rw (l.map bv) ty) → Mine h (.slice (some ⟨b, 0, none⟩) l.length l.length) l
def blk (v : Value) : Nat → Prop := fun b => ∃ o n c, v = .slice (some ⟨b, o, none⟩) n c
@[simp] theorem blk_nil (n c b : Nat) : blk (.slice none n c) b ↔ False := ⟨fun ⟨_, _, _, h⟩ => by simp at h, fun h => h.elim⟩
@[simp] theorem blk_some (a : Nat) (o n c b : Nat) : blk (.slice (some ⟨a, o, none⟩) n c) b ↔ a = b := ⟨fun ⟨_, _, _, h⟩ => by simp at h; exact h.1.1, fun h => ⟨o, n, c, by rw [h]⟩⟩
theorem Mine.reads {h : H} {v : Value} {l : List UInt8} (a : Mine h v l) : Reads h v l := by
 cases a with
 | nil => exact .inl ⟨rfl, rfl⟩
 | op b lb l ty _ _ hb => exact .inr ⟨b, 0, _, _, _, rfl, hb, rfl, by simp, by rw [List.drop_zero, List.take_of_length_le (by simp)]⟩
 | rw b l ty hb => exact .inr ⟨b, 0, _, _, _, rfl, hb, rfl, by simp, by rw [List.drop_zero, List.take_of_length_le (by simp)]⟩
theorem Mine.keep {S : Nat → Prop} {h h' : H} {v : Value} {l : List UInt8} (a : Mine h v l) (k : Keep S h h') (hn : ∀ b, blk v b → ¬ S b) : Mine h' v l := by
 cases a with
 | nil => exact .nil
 | op b lb l ty c1 c2 hb => exact .op b lb l ty c1 c2 (hb.keep k (hn b (by simp)))
 | rw b l ty hb => exact .rw b l ty (hb.keep k (hn b (by simp)))
theorem Mine.keep0 {h h' : H} {v : Value} {l : List UInt8} (a : Mine h v l) (k : Keep nobody h h') : Mine h' v l := a.keep k fun _ _ => id
theorem Mine.lt {h : H} {v : Value} {l : List UInt8} (a : Mine h v l) {b : Nat} (hb : blk v b) : b < h.next := by
 cases a with
 | nil => simp at hb
 | op b lb l ty _ _ h1 => simp at hb; subst hb; exact h1.1
 | rw b l ty h1 => simp at hb; subst hb; exact h1.1
theorem Reads.keep {S : Nat → Prop} {h h' : H} {v : Value} {l : List UInt8} (a : Reads h v l) (k : Keep S h h') (hn : ∀ b, blk v b → ¬ S b) : Reads h' v l := by
 rcases a with a | ⟨b, o, c, x, cs, rfl, h1, h2, h3, h4⟩
 · exact .inl a
 · exact .inr ⟨b, o, c, x, cs, rfl, h1.keep k (hn b (by simp)), h2, h3, h4⟩
theorem Reads.keep0 {h h' : H} {v : Value} {l : List UInt8} (a : Reads h v l) (k : Keep nobody h h') : Reads h' v l := a.keep k fun _ _ => id
theorem Reads.len {h : H} {v : Value} {l : List UInt8} (a : Reads h v l) : lenSl v = some (.int .i64 (l.length : Int)) := by
 rcases a with ⟨rfl, rfl⟩ | ⟨b, o, c, x, cs, rfl, h1, h2, h3, h4⟩ <;> rfl
theorem Reads.str {h : H} {v : Value} {l : List UInt8} (a : Reads h v l) : bytesStr h v = some (.string ⟨l.toArray⟩) := by
 rcases a with ⟨rfl, rfl⟩ | ⟨b, o, c, x, cs, rfl, h1, h2, h3, h4⟩
 · rfl
 · simp only [bytesStr]
   rw [row_has h1 h2 h3, h4]
   simp only [bytesOf_bv]
def Src (h : H) (x : Value) (l : List UInt8) : Prop := lenV x = some l.length ∧ firstV h 1 l.length x = some (l.map bv)
theorem Reads.src {h : H} {v : Value} {l : List UInt8} (a : Reads h v l) : Src h v l := by
 rcases a with ⟨rfl, rfl⟩ | ⟨b, o, c, x, cs, rfl, h1, h2, h3, h4⟩
 · exact ⟨rfl, rfl⟩
 · refine ⟨rfl, ?_⟩
   simp only [firstV, Nat.mul_one]
   rw [row_has h1 h2 h3, h4]
theorem str_src (h : H) (s : ByteArray) : Src h (.string s) s.data.toList := by
 refine ⟨rfl, ?_⟩
 simp only [firstV, List.take_length]
 rfl
theorem opCap_open (lb : Nat) : Nat.ble OPEN (opCap lb 1) = true := Nat.ble_eq_true_of_le (by unfold OPEN opCap; omega)
theorem opCap_size (lb : Nat) : Nat.beq (szOf (opCap lb 1)) 1 = true := by
 rw [szOf_opCap (lb := lb) (e := 1) (by omega)]; exact Nat.beq_refl 1
theorem appOpen_end {e : TypeId} {ty : Option TypeId} {h : H} {b cp n : Nat} {l : List UInt8} {y : Value} {ys : List Value} (hb : Has h b (.op (l.map bv) 1 ty)) (h1 : ones (y :: ys) = true) (e0 : Nat.beq (szOf cp) 1 = true) :
   appOpen e 1 h ⟨b, 0, none⟩ l.length cp n (y :: ys) = grow (h.del b) (l.map bv) (y :: ys) (l.length + n) 1 (tyIf e 0 ty) := by
 have e3 : putAt (l.map bv) (0 + l.length * 1) (y :: ys) = none := by
   have := putAt_end (l.map bv) y ys
   rw [List.length_map] at this
   rw [Nat.zero_add, Nat.mul_one]; exact this
 have e4 : cut (l.map bv) 0 = some (l.map bv) := by simpa using cut_eq (l.map bv) 0 (by simp)
 have e5 : Nat.beq (0 + l.length * 1) (l.map bv).length = true := by rw [List.length_map, Nat.zero_add, Nat.mul_one]; exact Nat.beq_refl _
 unfold appOpen
 simp only [e0, h1, Bool.and_self, hb.2]
 simp only [e3, e5, e4]
theorem appExact_full {e : TypeId} {ty : Option TypeId} {h : H} {b n : Nat} {l : List UInt8} {new : List Value} (hb : Has h b (.rw (l.map bv) ty)) (hn : 0 < n) :
   appExact e 1 h ⟨b, 0, none⟩ l.length l.length n new = grow h (l.map bv) new (l.length + n) 1 (some e) := by
 unfold appExact
 have e2 : Nat.ble (l.length + n) l.length = false := by
   rw [Bool.eq_false_iff]; intro e; have := Nat.le_of_ble_eq_true e; omega
 have e3 : h.row b 0 (l.length * 1) = some (l.map bv) := by
   rw [row_has hb rfl (by simp), List.drop_zero, List.take_of_length_le (by simp)]
 simp only [e2, e3]
theorem appTo_none {e : TypeId} {h : H} {n : Nat} {new : List Value} (h1 : 0 < n) (h2 : n ≤ 140737488355328) : appTo e 1 1 h none 0 0 n new = grow h [] new (0 + n) 1 (some e) := by
 obtain ⟨m, rfl⟩ : ∃ m, n = m + 1 := ⟨n - 1, by omega⟩
 unfold appTo
 rw [Nat.ble_eq_true_of_le (show (0 + (m + 1)) * 1 ≤ 140737488355328 by omega), Nat.ble_eq_true_of_le (show 0 + (m + 1) ≤ 9223372036854775807 by omega)]
 rfl
theorem appTo_open {e : TypeId} {h : H} {a : Addr} {sl sc n : Nat} {new : List Value} (h1 : 0 < n) (h2 : sl + n ≤ 140737488355328) (h3 : Nat.ble OPEN sc = true) : appTo e 1 1 h (some a) sl sc n new = appOpen e 1 h a sl sc n new := by
 obtain ⟨m, rfl⟩ : ∃ m, n = m + 1 := ⟨n - 1, by omega⟩
 unfold appTo
 rw [Nat.ble_eq_true_of_le (show (sl + (m + 1)) * 1 ≤ 140737488355328 by omega), Nat.ble_eq_true_of_le (show sl + (m + 1) ≤ 9223372036854775807 by omega)]
 simp only [h3, Bool.and_self]
theorem appTo_exact {e : TypeId} {h : H} {a : Addr} {sl sc n : Nat} {new : List Value} (h1 : 0 < n) (h2 : sl + n ≤ 140737488355328) (h3 : Nat.ble OPEN sc = false) : appTo e 1 1 h (some a) sl sc n new = appExact e 1 h a sl sc n new := by
 obtain ⟨m, rfl⟩ : ∃ m, n = m + 1 := ⟨n - 1, by omega⟩
 unfold appTo
 rw [Nat.ble_eq_true_of_le (show (sl + (m + 1)) * 1 ≤ 140737488355328 by omega), Nat.ble_eq_true_of_le (show sl + (m + 1) ≤ 9223372036854775807 by omega)]
 simp only [h3, Bool.and_self]
theorem appendV_eq {e : TypeId} {h : H} {base : Option Addr} {sl sc : Nat} {x : Value} {m : List UInt8} (hx : Src h x m) : appendV e 1 1 h (.slice base sl sc) x = appTo e 1 1 h base sl sc m.length (m.map bv) := by
 unfold appendV
 simp only [hx.1, hx.2, List.length_map, Nat.mul_one, Nat.beq_refl]
theorem grow_own {ty : Option TypeId} {S : Nat → Prop} {h h0 : H} {l m : List UInt8} (h1 : h0.next = h.next) (hk : Keep S h h0) : ∃ v' h', grow h0 (l.map bv) (m.map bv) (l.length + m.length) 1 ty = some (v', h') ∧ Mine h' v' (l ++ m) ∧ Keep S h h' ∧ (∀ b, blk v' b → h.next ≤ b) := by
 refine ⟨_, _, rfl, ?_, hk.then (.new _ _), fun b hb => by simp at hb; omega⟩
 rw [← List.length_append, ← List.map_append]
 exact .op _ _ _ _ (opCap_open _) (opCap_size _) (.new _ _)
theorem append_own {e : TypeId} {h : H} {v x : Value} {l m : List UInt8} (a : Mine h v l) (hx : Src h x m) (hsz : l.length + m.length ≤ 140737488355328) :
   ∃ v' h', appendV e 1 1 h v x = some (v', h') ∧ Mine h' v' (l ++ m) ∧ Keep (blk v) h h' ∧ (∀ b, blk v' b → blk v b ∨ h.next ≤ b) := by
 by_cases h0 : m.length = 0
 · have : m = [] := List.length_eq_zero_iff.1 h0
   subst this
   have h1 : (∃ s l' c, v = .slice s l' c ∧ l' ≤ c) := by
     cases a with
     | nil => exact ⟨_, _, _, rfl, Nat.le_refl _⟩
     | op b cap l ty c1 _ hb => exact ⟨_, _, _, rfl, by have := Nat.le_of_ble_eq_true c1; unfold OPEN at this; omega⟩
     | rw b l ty hb => exact ⟨_, _, _, rfl, Nat.le_refl _⟩
   obtain ⟨s, l', c, rfl, h2⟩ := h1
   refine ⟨_, h, ?_, by simpa using a, .refl _ _, fun b hb => .inl hb⟩
   rw [appendV_eq hx]
   simp only [List.length_nil, appTo, Nat.ble_eq_true_of_le h2]
 · have hp : 0 < m.length := by omega
   cases a with
   | nil =>
     rw [appendV_eq hx, appTo_none hp (by simpa using hsz)]
     obtain ⟨v', h', e1, e2, e3, e4⟩ := grow_own (h := h) (h0 := h) (l := []) (m := m) rfl (Keep.refl (blk (.slice none 0 0)) h)
     exact ⟨v', h', e1, e2, e3, fun b hb => .inr (e4 b hb)⟩
   | op b cap l ty c1 c2 hb =>
     obtain ⟨y, ys, rfl⟩ : ∃ y ys, m = y :: ys := List.exists_cons_of_length_pos hp
     rw [appendV_eq hx, appTo_open hp hsz c1, List.map_cons, appOpen_end hb (ones_bv (y :: ys)) c2, ← List.map_cons]
     obtain ⟨v', h', e1, e2, e3, e4⟩ := grow_own (h := h) (h0 := h.del b) (l := l) (m := y :: ys) rfl (S := blk (.slice (some ⟨b, 0, none⟩) l.length cap)) ((Keep.del h b).mono fun k _ e => by simp [e])
     exact ⟨v', h', e1, e2, e3, fun b hb => .inr (e4 b hb)⟩
   | rw b l ty hb =>
     have e1 : Nat.ble OPEN l.length = false := by
       rw [Bool.eq_false_iff]; intro e; have := Nat.le_of_ble_eq_true e; unfold OPEN at this; omega
     rw [appendV_eq hx, appTo_exact hp hsz e1, appExact_full hb hp]
     obtain ⟨v', h', e1, e2, e3, e4⟩ := grow_own (h := h) (h0 := h) (l := l) (m := m) rfl (Keep.refl (blk (.slice (some ⟨b, 0, none⟩) l.length l.length)) h)
     exact ⟨v', h', e1, e2, e3, fun b hb => .inr (e4 b hb)⟩
def Sp (call : CallT) (f : Nat) (args : List Value) (h : H) (Q : Value → H → Prop) : Prop := ∀ K : KV, (∀ v h', Q v h' → K v h' = true) → call f args h K = true
theorem Sp.mono {call : CallT} {f : Nat} {args : List Value} {h : H} {Q Q' : Value → H → Prop} (a : Sp call f args h Q) (hq : ∀ v h', Q v h' → Q' v h') : Sp call f args h Q' := fun K hK => a K fun v h' q => hK v h' (hq v h' q)
def C (c : Box CodeT) (call : CallT) (L : Nat) (tm : T Value) (h : H) (Q : Ex → T Value → H → Prop) : Prop := ∀ K : KE, (∀ e tm' h', Q e tm' h' → K e tm' [] h' = true) → c.f call L tm [] h K = true
theorem C.mono {c : Box CodeT} {call : CallT} {L : Nat} {tm : T Value} {h : H} {Q Q' : Ex → T Value → H → Prop} (a : C c call L tm h Q) (hq : ∀ e tm' h', Q e tm' h' → Q' e tm' h') : C c call L tm h Q' := fun K hK => a K fun e tm' h' q => hK e tm' h' (hq e tm' h' q)
section
variable {call : CallT} {L : Nat} {tm : T Value} {h : H} {Q : Ex → T Value → H → Prop}
theorem C.skip (hq : Q .norm tm h) : C skipC call L tm h Q := fun K hK => hK _ _ _ hq
theorem C.ret (hq : Q .ret tm h) : C retC call L tm h Q := fun K hK => hK _ _ _ hq
theorem C.exit {i : Nat} (hq : Q (.exit i) tm h) : C (exitC i) call L tm h Q := fun K hK => hK _ _ _ hq
theorem C.seq {a b : Box CodeT} (ha : C a call L tm h fun e tm' h' => match e with | .norm => C b call L tm' h' Q | e => Q e tm' h') : C ⟨seqC a b⟩ call L tm h Q := fun K hK => by
 refine ha _ fun e tm' h' q => ?_
 cases e with
 | norm => exact q K hK
 | exit i => exact hK _ _ _ q
 | goto i => exact hK _ _ _ q
 | ret => exact hK _ _ _ q
theorem C.cond {x : Box EvT} {a b : Box CodeT} (c : Bool) (hx : x.f [] tm = .bool c) (ha : c = true → C a call L tm h Q) (hb : c = false → C b call L tm h Q) : C ⟨condC x a b⟩ call L tm h Q := fun K hK => by
 show condC x a b call L tm [] h K = true
 unfold condC
 rw [hx]
 cases c with
 | true => exact ha rfl K hK
 | false => exact hb rfl K hK
theorem C.block {i : Nat} {b : Box CodeT} (hb : C b call L tm h fun e tm' h' => match e with | .exit j => if i = j then Q .norm tm' h' else Q (.exit j) tm' h' | e => Q e tm' h') : C ⟨blockC i b⟩ call L tm h Q := fun K hK => by
 refine hb _ fun e tm' h' q => ?_
 cases e with
 | norm => exact hK _ _ _ q
 | exit j =>
   simp only at q
   split at q
   · rename_i e
     subst e
     simp only [Nat.beq_refl]
     exact hK _ _ _ q
   · rename_i e
     have : Nat.beq i j = false := by rw [Bool.eq_false_iff]; intro e'; exact e (Nat.eq_of_beq_eq_true e')
     simp only [this]
     exact hK _ _ _ q
 | goto i => exact hK _ _ _ q
 | ret => exact hK _ _ _ q
theorem C.loop {b : Box CodeT} (I : Nat → T Value → H → Prop) (k : Nat) (hk : k < L) (h0 : I k tm h)
   (hb : ∀ k tm h, I k tm h → C b call L tm h fun e tm' h' => match e with | .norm => ∃ k', k' < k ∧ I k' tm' h' | e => Q e tm' h') : C (loopB b) call L tm h Q := fun K hK => by
 have : ∀ (n k : Nat), k < n → ∀ tm h, I k tm h → loopC b call L n tm [] h K = true := by
   intro n
   induction n with
   | zero => intro k hk; omega
   | succ n ih =>
     intro k hk tm h hi
     refine hb k tm h hi _ fun e tm' h' q => ?_
     cases e with
     | norm => obtain ⟨k', h1, h2⟩ := q; exact ih k' (by omega) tm' h' h2
     | exit j => exact hK _ _ _ q
     | goto i => exact hK _ _ _ q
     | ret => exact hK _ _ _ q
 exact this L k hk tm h h0
end
theorem Sp.body {P : Program} {Sf : Nat → Nat} {X : List (Nat × XK)} {NG L n nt f : Nat} {c : Box CodeT} {q : Box (T Value → H → Option (List Value))} (hf : funcB P Sf X NG f = ⟨bodyC nt c q⟩) {args : List Value} (hn : args.length ≤ nt) {h : H} {Q : Value → H → Prop}
   (hc : C c (callF P Sf X NG L n) L (toTm args 0 .e) h fun e tm h' => (e = .norm ∨ e = .ret) ∧ ∃ l, q.f tm h' = some l ∧ Q (resOf l) h') : Sp (callF P Sf X NG L (n + 1)) f args h Q := fun K hK => by
 show (funcB P Sf X NG f).f (callF P Sf X NG L n) L args h K = true
 rw [hf]
 show bodyC nt c q (callF P Sf X NG L n) L args h K = true
 unfold bodyC
 rw [Nat.ble_eq_true_of_le hn]
 refine hc _ fun e tm h' hq => ?_
 obtain ⟨he, l, h1, h2⟩ := hq
 rcases he with rfl | rfl <;> simp only [kR, h1] <;> exact hK _ _ h2
end Go.Ev
