import Derived.Test.YtilpiiafjehbnaaGreatDoorZaB
set_option linter.unusedSimpArgs false
set_option linter.unusedVariables false
namespace Go.Proofs.YtilpiiafjehbnaaGreatDoor
open Go.Ev
noncomputable abbrev CF (L n : Nat) : CallT := callF Tryz.prog (maskOf masks) outside NG L n
structure Itm where
 key : ByteArray
 val : ByteArray
 flags : Int
 till : Int
 uniq : Int
structure Itm.ok (x : Itm) : Prop where
 flags : 0 ≤ x.flags ∧ x.flags < 4294967296
 till : -9223372036854775808 ≤ x.till ∧ x.till ≤ 9223372036854775807
 uniq : 0 ≤ x.uniq ∧ x.uniq < 18446744073709551616
def Itm.cells (x : Itm) : List Value := [.string x.key, .string x.val, .int .u32 x.flags, .int .i64 x.till, .int .u64 x.uniq]
def Itm.v (x : Itm) : Value := .agg x.cells.toArray
def countsB (c : Int) : Bool := decide (c = 6) || decide (c = 7) || decide (c = 10)
def momentB (t : Int) : Bool := decide (0 ≤ t) && decide (t ≤ 1099511627776)
def Itm.long (x : Itm) : Bool := decide ((x.key.size : Int) < 1) || decide (32 < (x.key.size : Int)) || decide (512 < (x.val.size : Int))
def Itm.err (x : Itm) : Int := if x.long then 3 else if momentB x.till then 0 else 2
def cellsOf (l : List Itm) : List Value := l.flatMap Itm.cells
@[simp] theorem Itm.cells_len (x : Itm) : x.cells.length = 5 := rfl
theorem cellsOf_len : ∀ l : List Itm, (cellsOf l).length = 5 * l.length
 | [] => rfl
 | x :: l => by
   have := cellsOf_len l
   simp only [cellsOf, List.flatMap_cons, List.length_append, Itm.cells_len, List.length_cons] at *
   omega
theorem cellsOf_drop : ∀ (l : List Itm) (i : Nat) (x : Itm), l[i]? = some x → ((cellsOf l).drop (i * 5)).take 5 = x.cells
 | [], i, x, h => by simp at h
 | y :: l, 0, x, h => by simp at h; subst h; simp [cellsOf, Itm.cells]
 | y :: l, i + 1, x, h => by
   have := cellsOf_drop l i x (by simpa using h)
   rw [show (i + 1) * 5 = i * 5 + 5 by omega]
   simpa [cellsOf, Itm.cells] using this
def ItemsAt (h : H) (v : Value) (l : List Itm) : Prop :=
 (v = .slice none 0 0 ∧ l = []) ∨ ∃ b o c x cs, v = .slice (some ⟨b, o, none⟩) l.length c ∧ Has h b x ∧ x.cells? = some cs ∧ o + 5 * l.length ≤ cs.length ∧ (cs.drop o).take (5 * l.length) = cellsOf l
theorem ItemsAt.keep {S : Nat → Prop} {h h' : H} {v : Value} {l : List Itm} (a : ItemsAt h v l) (k : Keep S h h') (hn : ∀ b, blk v b → ¬ S b) : ItemsAt h' v l := by
 rcases a with a | ⟨b, o, c, x, cs, rfl, h1, h2, h3, h4⟩
 · exact .inl a
 · exact .inr ⟨b, o, c, x, cs, rfl, h1.keep k (hn b (by simp)), h2, h3, h4⟩
theorem ItemsAt.keep0 {h h' : H} {v : Value} {l : List Itm} (a : ItemsAt h v l) (k : Keep nobody h h') : ItemsAt h' v l := a.keep k fun _ _ => id
theorem ItemsAt.len {h : H} {v : Value} {l : List Itm} (a : ItemsAt h v l) : lenSl v = some (.int .i64 (l.length : Int)) := by
 rcases a with ⟨rfl, rfl⟩ | ⟨b, o, c, x, cs, rfl, h1, h2, h3, h4⟩ <;> rfl
theorem ItemsAt.at {h : H} {v : Value} {l : List Itm} (a : ItemsAt h v l) {i : Nat} {x : Itm} (hi : l[i]? = some x) :
   ∃ b o, indexSl 5 v (.int .i64 (i : Int)) = some (.pointer (some ⟨b, o, none⟩)) ∧ b < h.next ∧ blk v b ∧ (∀ j s, j < 5 → loadOne h (.pointer (some ⟨b, o + j, s⟩)) = x.cells[j]?) ∧ ∀ s, loadAgg 5 h (.pointer (some ⟨b, o, s⟩)) = some x.v := by
 have hl : i < l.length := by
   by_cases hl : i < l.length
   · exact hl
   · rw [List.getElem?_eq_none (by omega)] at hi; cases hi
 rcases a with ⟨rfl, rfl⟩ | ⟨b, o, c, y, cs, rfl, h1, h2, h3, h4⟩
 · simp at hl
 · have h5 : (cs.drop (o + i * 5)).take 5 = x.cells := by
     rw [← cellsOf_drop l i x hi, ← h4, ← List.drop_drop, List.drop_take, List.take_take, Nat.min_eq_left (by omega)]
   refine ⟨b, o + i * 5, ?_, h1.1, by simp, fun j s hj => ?_, fun s => ?_⟩
   · simp only [indexSl, asNat_nat, addOff]
     rw [Nat.ble_eq_true_of_le (by omega)]
   · rw [loadOne_has h1 h2, ← h5, List.getElem?_take, if_pos hj, List.getElem?_drop]
   · rw [loadAgg_has h1 h2 (by omega), h5]; rfl
theorem wrap_succ (i : Nat) (h : i < 9223372036854775807) : IntKind.i64.wrap ((i : Int) + 1) = ((i + 1 : Nat) : Int) := by
 rw [wrap_eq] <;> simp [IntKind.min, IntKind.max, IntKind.bits, IntKind.signed] <;> omega
structure Res where
 kind : Int
 iv : Value
 num : Int
 items : List Itm
structure Ans where
 kind : Int
 of : Int
 r : Res
 yes : Bool
 key : ByteArray
def Res.cells (r : Res) : List Value := [.int .u8 r.kind, r.iv, .int .u64 r.num]
def Res.v (r : Res) : Value := .agg r.cells.toArray
def Ans.cells (a : Ans) : List Value := [.int .u8 a.kind, .int .u8 a.of, .int .u8 a.r.kind, a.r.iv, .int .u64 a.r.num, .bool a.yes, .string a.key]
def Ans.v (a : Ans) : Value := .agg a.cells.toArray
def dec (n : Nat) : List UInt8 := if n < 10 then [UInt8.ofNat (48 + n)] else dec (n / 10) ++ [UInt8.ofNat (48 + n % 10)]
theorem wrap_u64 (n : Nat) (h : n < 18446744073709551616) : IntKind.u64.wrap (n : Int) = (n : Int) := wrap_eq _ _ (by show (0 : Int) ≤ _; omega) (by show (n : Int) ≤ 18446744073709551615; omega)
theorem cat_eq (t : TypeId) (c : Bool) (x y : List UInt8) (h : x.length + y.length ≤ 1000000) : binV Tryz.prog .add t c (.string ⟨x.toArray⟩) (.string ⟨y.toArray⟩) = some (.string ⟨(x ++ y).toArray⟩) := by
 show catV ⟨x.toArray⟩ ⟨y.toArray⟩ = _
 unfold catV
 have e1 : (⟨x.toArray⟩ : ByteArray).size = x.length := by simp [ByteArray.size]
 have e2 : (⟨y.toArray⟩ : ByteArray).size = y.length := by simp [ByteArray.size]
 rw [e1, e2, Nat.ble_eq_true_of_le (by omega)]
theorem dec_len : ∀ (d n : Nat), n < 10 ^ (d + 1) → (dec n).length ≤ d + 1
 | 0, n, h => by
   unfold dec
   rw [if_pos (by omega)]; simp
 | d + 1, n, h => by
   unfold dec
   split
   · simp
   · have := dec_len d (n / 10) (Nat.div_lt_of_lt_mul (by rw [Nat.pow_succ] at h; omega))
     simp only [List.length_append, List.length_cons, List.length_nil]; omega
def sl36 (n : Nat) : Option Value := sliceStr (.string (strB [48, 49, 50, 51, 52, 53, 54, 55, 56, 57, 97, 98, 99, 100, 101, 102, 103, 104, 105, 106, 107, 108, 109, 110, 111, 112, 113, 114, 115, 116, 117, 118, 119, 120, 121, 122])) (some (.int .i64 (n : Int))) (some (.int .i64 ((n + 1 : Nat) : Int))) none
def sl200 (n : Nat) : Option Value := sliceStr SM (some (.int .i64 ((n * 2 : Nat) : Int))) (some (.int .i64 ((n * 2 + 2 : Nat) : Int))) none
def isStr (o : Option Value) (l : List UInt8) : Bool := match o with | some (.string s) => leB s.data.toList l | _ => false
theorem isStr_eq {o : Option Value} {l : List UInt8} (h : isStr o l = true) : o = some (.string ⟨l.toArray⟩) := by
 unfold isStr at h
 split at h
 · rename_i s
   rw [leB_eq] at h
   have : s.data.toList = l := by simpa using h
   congr 2
   apply ByteArray.ext
   rw [← this]
 · cases h
theorem all36 : (List.range 10).all (fun n => isStr (sl36 n) [UInt8.ofNat (48 + n)]) = true := by kernel_rfl
theorem all200 : (List.range 100).all (fun n => isStr (sl200 n) [UInt8.ofNat (48 + n / 10), UInt8.ofNat (48 + n % 10)]) = true := by kernel_rfl
theorem sl36_eq {n : Nat} (h : n < 10) : sl36 n = some (.string ⟨[UInt8.ofNat (48 + n)].toArray⟩) := isStr_eq (List.all_eq_true.1 all36 n (List.mem_range.2 h))
theorem sl200_eq {n : Nat} (h : n < 100) : sl200 n = some (.string ⟨[UInt8.ofNat (48 + n / 10), UInt8.ofNat (48 + n % 10)].toArray⟩) := isStr_eq (List.all_eq_true.1 all200 n (List.mem_range.2 h))
theorem wrap_small (n : Nat) (h : n < 1000) : IntKind.i64.wrap (n : Int) = (n : Int) := wrap_eq _ _ (by show (-9223372036854775808 : Int) ≤ _; omega) (by show (n : Int) ≤ 9223372036854775807; omega)
theorem small_law (L m : Nat) {n : Nat} (hn : n < 100) (h : H) : Sp (CF L (m + 1)) 85 [.int .i64 (n : Int)] h fun r h' => r = .string ⟨(dec n).toArray⟩ ∧ h' = h := by
 refine Sp.body f85 (by simp) ?_
 unfold c85
 refine C.seq fun K hK => ?_
 simp only [EV, r85_0]
 refine hK .norm _ _ (C.seq (C.seq fun K hK => ?_))
 simp only [seval, EV, r85_1]
 refine hK _ _ _ (C.cond (decide ((n : Int) < 10)) (by simp only [seval, EV]) (fun g => C.seq fun K hK => ?_) fun g => C.skip (C.seq fun K hK => ?_))
 · have g : n < 10 := by have := of_decide_eq_true g; omega
   have w : IntKind.i64.wrap ((n : Int) + 1) = ((n + 1 : Nat) : Int) := by
     rw [show (n : Int) + 1 = ((n + 1 : Nat) : Int) by omega]; exact wrap_small _ (by omega)
   have e := sl36_eq g
   unfold sl36 at e
   simp only [seval, EV, r85_2, w, e]
   refine hK _ _ _ (C.ret ⟨.inr rfl, _, rfl, ?_, rfl⟩)
   unfold dec
   rw [if_pos g]
   simp only [seval, EV, resOf]
 · have g : ¬ n < 10 := by have := of_decide_eq_false g; omega
   have w1 : IntKind.i64.wrap ((n : Int) * 2) = ((n * 2 : Nat) : Int) := by
     rw [show (n : Int) * 2 = ((n * 2 : Nat) : Int) by omega]; exact wrap_small _ (by omega)
   have w2 : IntKind.i64.wrap (((n * 2 : Nat) : Int) + 2) = ((n * 2 + 2 : Nat) : Int) := by
     rw [show ((n * 2 : Nat) : Int) + 2 = ((n * 2 + 2 : Nat) : Int) by omega]; exact wrap_small _ (by omega)
   have e := sl200_eq hn
   unfold sl200 at e
   simp only [seval, EV, r85_3, w1, w2, e]
   refine hK _ _ _ (C.ret ⟨.inr rfl, _, rfl, ?_, rfl⟩)
   have hd : dec n = [UInt8.ofNat (48 + n / 10), UInt8.ofNat (48 + n % 10)] := by
     conv => lhs; unfold dec
     rw [if_neg g]
     unfold dec
     rw [if_pos (by omega)]; rfl
   rw [hd]
   simp only [seval, EV, resOf]
theorem binV_shr2 {P : Program} (t : TypeId) (c : Bool) (k k' : IntKind) (x y : Int) (h : 0 ≤ y) : binV P .shr t c (.int k x) (.int k' y) = some (.int k (x.fdiv (2 ^ (min y.toNat k.bits)))) := by
 have h' : ¬ y < 0 := by omega
 simp [binV, binInt, orRun, intOp, pureRun, binOp, Op.shift, h']
 cases kEq k k' <;> rfl
theorem bool2_law (L n : Nat) (c : Bool) (h : H) : Sp (CF L (n + 1)) 97 [.bool c] h fun r h' => r = .int .i64 (if c = true then 1 else 0) ∧ h' = h := by
 refine Sp.body f97 (by simp) ?_
 unfold c97
 refine C.seq fun K hK => ?_
 simp only [EV, r97_0]
 refine hK .norm _ _ (C.seq (C.seq fun K hK => ?_))
 simp only [seval, EV, r97_1]
 refine hK .norm _ _ (C.cond c (by simp only [seval, EV]) (fun g => C.seq fun K hK => ?_) fun g => C.skip (C.seq fun K hK => ?_))
 · subst g
   simp only [r97_2]
   exact hK .norm _ _ (C.ret ⟨.inr rfl, _, rfl, by simp only [seval, EV, resOf], rfl⟩)
 · subst g
   simp only [r97_3]
   exact hK .norm _ _ (C.ret ⟨.inr rfl, _, rfl, by simp only [seval, EV, resOf], rfl⟩)
theorem log_law (L n b : Nat) (hb : b ≤ 64) (h : H) : Sp (CF L (n + 1)) 95 [.int .i64 (b : Int)] h fun r h' => r = .int .i64 ((b * 78913 / 262144 : Nat) : Int) ∧ h' = h := by
 refine Sp.body f95 (by simp) ?_
 unfold c95
 refine C.seq fun K hK => ?_
 simp only [EV, r95_0]
 refine hK .norm _ _ (C.seq fun K hK => ?_)
 have w : IntKind.i64.wrap ((b : Int) * 78913) = ((b * 78913 : Nat) : Int) := by
   rw [show (b : Int) * 78913 = ((b * 78913 : Nat) : Int) by omega]
   exact wrap_eq _ _ (by show (-9223372036854775808 : Int) ≤ _; omega) (by show ((b * 78913 : Nat) : Int) ≤ 9223372036854775807; omega)
 have s : ∀ c, binV Tryz.prog .shr 3 c (.int .i64 ((b * 78913 : Nat) : Int)) (.int .u64 18) = some (.int .i64 ((b * 78913 / 262144 : Nat) : Int)) := fun c => by
   rw [binV_shr2 (P := Tryz.prog) 3 c .i64 .u64 _ 18 (by decide)]
   have e : (2 : Int) ^ (min (18 : Int).toNat IntKind.i64.bits) = 262144 := by decide
   rw [e, Int.fdiv_eq_ediv_of_nonneg _ (by decide)]; rfl
 simp only [seval, EV, r95_1, w, s]
 exact hK _ _ _ (C.ret ⟨.inr rfl, _, rfl, by simp only [seval, EV, resOf], rfl⟩)
def ix8t (y : Nat) : Option Value := indexStr (.string (strB [0, 1, 2, 2, 3, 3, 3, 3, 4, 4, 4, 4, 4, 4, 4, 4, 5, 5, 5, 5, 5, 5, 5, 5, 5, 5, 5, 5, 5, 5, 5, 5, 6, 6, 6, 6, 6, 6, 6, 6, 6, 6, 6, 6, 6, 6, 6, 6, 6, 6, 6, 6, 6, 6, 6, 6, 6, 6, 6, 6, 6, 6, 6, 6, 7, 7, 7, 7, 7, 7, 7, 7, 7, 7, 7, 7, 7, 7, 7, 7, 7, 7, 7, 7, 7, 7, 7, 7, 7, 7, 7, 7, 7, 7, 7, 7, 7, 7, 7, 7, 7, 7, 7, 7, 7, 7, 7, 7, 7, 7, 7, 7, 7, 7, 7, 7, 7, 7, 7, 7, 7, 7, 7, 7, 7, 7, 7, 7, 8, 8, 8, 8, 8, 8, 8, 8, 8, 8, 8, 8, 8, 8, 8, 8, 8, 8, 8, 8, 8, 8, 8, 8, 8, 8, 8, 8, 8, 8, 8, 8, 8, 8, 8, 8, 8, 8, 8, 8, 8, 8, 8, 8, 8, 8, 8, 8, 8, 8, 8, 8, 8, 8, 8, 8, 8, 8, 8, 8, 8, 8, 8, 8, 8, 8, 8, 8, 8, 8, 8, 8, 8, 8, 8, 8, 8, 8, 8, 8, 8, 8, 8, 8, 8, 8, 8, 8, 8, 8, 8, 8, 8, 8, 8, 8, 8, 8, 8, 8, 8, 8, 8, 8, 8, 8, 8, 8, 8, 8, 8, 8, 8, 8, 8, 8, 8, 8, 8, 8, 8, 8, 8, 8, 8, 8, 8, 8])) (.int .u8 (y : Int))
def okBits (y : Nat) (o : Option Value) : Bool := match o with | some (.int .u8 (.ofNat t)) => Nat.blt y (2 ^ t) && (Nat.beq y 0 || Nat.ble (2 ^ t) (2 * y)) && Nat.ble t 8 | _ => false
theorem all256 : (List.range 256).all (fun y => okBits y (ix8t y)) = true := by kernel_rfl
theorem ix8t_eq {y : Nat} (h : y < 256) : ∃ t : Nat, ix8t y = some (.int .u8 (t : Int)) ∧ y < 2 ^ t ∧ (0 < y → 2 ^ t ≤ 2 * y) ∧ t ≤ 8 := by
 have h1 := List.all_eq_true.1 all256 y (List.mem_range.2 h)
 unfold okBits at h1
 split at h1
 · rename_i t e
   simp only [Bool.and_eq_true, Bool.or_eq_true] at h1
   obtain ⟨⟨h2, h3⟩, h4⟩ := h1
   refine ⟨t, e, by simpa using h2, fun hy => ?_, Nat.le_of_ble_eq_true h4⟩
   rcases h3 with h3 | h3
   · have := Nat.eq_of_beq_eq_true h3; omega
   · exact Nat.le_of_ble_eq_true h3
 · cases h1
theorem bits_up {x s t : Nat} (h1 : x / 2 ^ s < 2 ^ t) : x < 2 ^ (t + s) := by
 rw [Nat.pow_add]
 exact (Nat.div_lt_iff_lt_mul (Nat.two_pow_pos s)).1 h1
theorem bits_dn {x s t : Nat} (h1 : 2 ^ t ≤ 2 * (x / 2 ^ s)) : 2 ^ (t + s) ≤ 2 * x := by
 rw [Nat.pow_add]
 calc 2 ^ t * 2 ^ s ≤ 2 * (x / 2 ^ s) * 2 ^ s := Nat.mul_le_mul_right _ h1
   _ = 2 * (x / 2 ^ s * 2 ^ s) := by rw [Nat.mul_assoc]
   _ ≤ 2 * x := Nat.mul_le_mul_left _ (Nat.div_mul_le_self _ _)
theorem shr_u64 (c : Bool) (x s : Nat) (hs : s ≤ 64) : binV Tryz.prog .shr 24 c (.int .u64 (x : Int)) (.int .u64 (s : Int)) = some (.int .u64 ((x / 2 ^ s : Nat) : Int)) := by
 rw [binV_shr2 (P := Tryz.prog) 24 c .u64 .u64 _ _ (by omega)]
 have e : min ((s : Int).toNat) IntKind.u64.bits = s := by
   show min ((s : Int).toNat) 64 = s
   omega
 rw [e, Int.fdiv_eq_ediv_of_nonneg _ (by exact_mod_cast Nat.zero_le _)]
 congr 2
theorem wrap_lt (n : Nat) (h : n < 1000000) : IntKind.i64.wrap (n : Int) = (n : Int) := wrap_eq _ _ (by show (-9223372036854775808 : Int) ≤ _; omega) (by show (n : Int) ≤ 9223372036854775807; omega)
def Bits (x t : Nat) : Prop := x < 2 ^ t ∧ (0 < x → 2 ^ t ≤ 2 * x) ∧ t ≤ 64
set_option maxRecDepth 20000 in
theorem len_tail1 (L n : Nat) {x y s : Nat} (hy : y = x / 2 ^ s) (hy2 : y < 256) (hs : s ≤ 56) {tm : T Value} (h : H) (t0 : tg tm 0 = .int .u64 (y : Int)) (t2 : tg tm 2 = .int .i64 (s : Int)) (hx : s = 0 ∨ 0 < y) :
   C ⟨seqC ⟨r96_10⟩ retC⟩ (CF L n) L tm h fun e tm' h' => (e = .norm ∨ e = .ret) ∧ ∃ l, q96.f tm' h' = some l ∧ ∃ t : Nat, resOf l = .int .i64 (t : Int) ∧ Bits x t ∧ h' = h := by
 obtain ⟨t, e, h1, h2, h3⟩ := ix8t_eq hy2
 unfold ix8t at e
 refine C.seq fun K hK => ?_
 have c1 : toInt .u8 (.int .u64 (y : Int)) = some (.int .u8 (y : Int)) := by
   show some (Value.int .u8 (IntKind.u8.wrap (y : Int))) = _
   rw [wrapu8, Nat.mod_eq_of_lt hy2]
 have c2 : toInt .i64 (.int .u8 (t : Int)) = some (.int .i64 (t : Int)) := by
   show some (Value.int .i64 (IntKind.i64.wrap (t : Int))) = _
   rw [wrap_lt _ (by omega)]
 have w : IntKind.i64.wrap ((s : Int) + (t : Int)) = ((s + t : Nat) : Int) := by
   rw [show (s : Int) + (t : Int) = ((s + t : Nat) : Int) by omega]; exact wrap_lt _ (by omega)
 simp only [EV, r96_10, t0, t2, c1, e, c2, w]
 refine hK _ _ _ (C.ret ⟨.inr rfl, _, rfl, s + t, by simp only [seval, EV, resOf], ⟨?_, fun hp => ?_, by omega⟩, rfl⟩)
 · subst hy
   rw [Nat.add_comm]; exact bits_up h1
 · subst hy
   rw [Nat.add_comm]
   rcases hx with rfl | hx
   · exact bits_dn (h2 (by simpa using hp))
   · exact bits_dn (h2 hx)
def LenQ (x : Nat) (h : H) : Ex → T Value → H → Prop := fun e tm' h' => (e = .norm ∨ e = .ret) ∧ ∃ l, q96.f tm' h' = some l ∧ ∃ t : Nat, resOf l = .int .i64 (t : Int) ∧ Bits x t ∧ h' = h
theorem len_tail2 (L n : Nat) {x y s : Nat} (hy : y = x / 2 ^ s) (hy2 : y < 65536) (hs : s ≤ 48) {tm : T Value} (h : H) (t0 : tg tm 0 = .int .u64 (y : Int)) (t2 : tg tm 2 = .int .i64 (s : Int)) (hx : s = 0 ∨ 0 < y) :
   C ⟨seqC ⟨seqC ⟨r96_7⟩ ⟨condC (tC 14) ⟨seqC ⟨r96_8⟩ ⟨r96_9⟩⟩ skipC⟩⟩ ⟨seqC ⟨r96_10⟩ retC⟩⟩ (CF L n) L tm h (LenQ x h) := by
 refine C.seq (C.seq fun K hK => ?_)
 simp only [EV, r96_7, t0]
 refine hK _ _ _ (C.cond (decide ((256 : Int) ≤ (y : Int))) (by simp only [seval, EV]) (fun g => C.seq fun K hK => ?_) fun g => C.skip ?_)
 · have g : 256 ≤ y := by have := of_decide_eq_true g; omega
   have e := shr_u64 true y 8 (by omega)
   have e' : binV Tryz.prog .shr 24 true (.int .u64 (y : Int)) (.int .u64 8) = some (.int .u64 ((y / 2 ^ 8 : Nat) : Int)) := e
   simp only [seval, EV, r96_8, t0, e']
   refine hK _ _ _ fun K hK => ?_
   have w : IntKind.i64.wrap ((s : Int) + 8) = ((s + 8 : Nat) : Int) := by
     rw [show (s : Int) + 8 = ((s + 8 : Nat) : Int) by omega]; exact wrap_lt _ (by omega)
   simp only [seval, EV, r96_9, t2, w]
   refine hK _ _ _ ?_
   refine len_tail1 L n (x := x) (y := y / 2 ^ 8) (s := s + 8) ?_ (by omega) (by omega) h (by simp only [seval, EV]) (by simp only [seval, EV]) (.inr (by omega))
   rw [hy, Nat.div_div_eq_div_mul, ← Nat.pow_add]
 · have g : y < 256 := by have := of_decide_eq_false g; omega
   exact len_tail1 L n hy g (by omega) h (by simp only [seval, EV, t0]) (by simp only [seval, EV, t2]) hx
theorem len_tail3 (L n : Nat) {x y s : Nat} (hy : y = x / 2 ^ s) (hy2 : y < 4294967296) (hs : s ≤ 32) {tm : T Value} (h : H) (t0 : tg tm 0 = .int .u64 (y : Int)) (t2 : tg tm 2 = .int .i64 (s : Int)) (hx : s = 0 ∨ 0 < y) :
   C ⟨seqC ⟨seqC ⟨r96_4⟩ ⟨condC (tC 8) ⟨seqC ⟨r96_5⟩ ⟨r96_6⟩⟩ skipC⟩⟩ ⟨seqC ⟨seqC ⟨r96_7⟩ ⟨condC (tC 14) ⟨seqC ⟨r96_8⟩ ⟨r96_9⟩⟩ skipC⟩⟩ ⟨seqC ⟨r96_10⟩ retC⟩⟩⟩ (CF L n) L tm h (LenQ x h) := by
 refine C.seq (C.seq fun K hK => ?_)
 simp only [EV, r96_4, t0]
 refine hK _ _ _ (C.cond (decide ((65536 : Int) ≤ (y : Int))) (by simp only [seval, EV]) (fun g => C.seq fun K hK => ?_) fun g => C.skip ?_)
 · have g : 65536 ≤ y := by have := of_decide_eq_true g; omega
   have e := shr_u64 true y 16 (by omega)
   have e' : binV Tryz.prog .shr 24 true (.int .u64 (y : Int)) (.int .u64 16) = some (.int .u64 ((y / 2 ^ 16 : Nat) : Int)) := e
   simp only [seval, EV, r96_5, t0, e']
   refine hK _ _ _ fun K hK => ?_
   have w : IntKind.i64.wrap ((s : Int) + 16) = ((s + 16 : Nat) : Int) := by
     rw [show (s : Int) + 16 = ((s + 16 : Nat) : Int) by omega]; exact wrap_lt _ (by omega)
   simp only [seval, EV, r96_6, t2, w]
   refine hK _ _ _ ?_
   refine len_tail2 L n (x := x) (y := y / 2 ^ 16) (s := s + 16) ?_ (by omega) (by omega) h (by simp only [seval, EV]) (by simp only [seval, EV]) (.inr (by omega))
   rw [hy, Nat.div_div_eq_div_mul, ← Nat.pow_add]
 · have g : y < 65536 := by have := of_decide_eq_false g; omega
   exact len_tail2 L n hy g (by omega) h (by simp only [seval, EV, t0]) (by simp only [seval, EV, t2]) hx
theorem len64_law (L n : Nat) {x : Nat} (hx : x < 18446744073709551616) (h : H) : Sp (CF L (n + 1)) 96 [.int .u64 (x : Int)] h fun r h' => ∃ t : Nat, r = .int .i64 (t : Int) ∧ Bits x t ∧ h' = h := by
 refine Sp.body f96 (by simp) ?_
 unfold c96
 refine C.seq fun K hK => ?_
 simp only [EV, r96_0]
 refine hK .norm _ _ (C.seq (C.seq fun K hK => ?_))
 simp only [seval, EV, r96_1]
 refine hK _ _ _ (C.cond (decide ((4294967296 : Int) ≤ (x : Int))) (by simp only [seval, EV]) (fun g => C.seq fun K hK => ?_) fun g => C.skip ?_)
 · have g : 4294967296 ≤ x := by have := of_decide_eq_true g; omega
   have e := shr_u64 true x 32 (by omega)
   have e' : binV Tryz.prog .shr 24 true (.int .u64 (x : Int)) (.int .u64 32) = some (.int .u64 ((x / 2 ^ 32 : Nat) : Int)) := e
   simp only [seval, EV, r96_2, e']
   refine hK _ _ _ fun K hK => ?_
   simp only [r96_3]
   refine hK .norm _ _ ?_
   exact len_tail3 L n (x := x) (y := x / 2 ^ 32) (s := 32) rfl (by omega) (by omega) h (by simp only [seval, EV]) (by simp only [seval, EV] <;> rfl) (.inr (by omega))
 · have g : x < 4294967296 := by have := of_decide_eq_false g; omega
   exact len_tail3 L n (x := x) (y := x) (s := 0) (by simp) g (by omega) h (by simp only [seval, EV]) (by simp only [seval, EV] <;> rfl) (.inl rfl)
def powC : List Value := (List.range 20).map fun i => .int .u64 ((10 ^ i : Nat) : Int)
theorem powC_at {i : Nat} (h : i < 20) : powC[i]? = some (.int .u64 ((10 ^ i : Nat) : Int)) := by
 unfold powC
 rw [List.getElem?_map, List.getElem?_range h]; rfl
theorem dec_len_eq : ∀ (d n : Nat), 10 ^ d ≤ n → n < 10 ^ (d + 1) → 0 < n → (dec n).length = d + 1
 | 0, n, h, h2, _ => by
   unfold dec
   rw [if_pos (by omega)]; simp
 | d + 1, n, h, h2, _ => by
   have hp : 0 < 10 ^ d := Nat.pow_pos (by omega)
   have h10 : ¬ n < 10 := by rw [Nat.pow_succ] at h; omega
   unfold dec
   rw [if_neg h10]
   have h3 : 10 ^ d ≤ n / 10 := (Nat.le_div_iff_mul_le (by omega)).2 (by rw [Nat.pow_succ] at h; exact h)
   have h4 : n / 10 < 10 ^ (d + 1) := Nat.div_lt_of_lt_mul (by rw [Nat.pow_succ] at h2; omega)
   have := dec_len_eq d (n / 10) h3 h4 (by omega)
   rw [List.length_append, this]; rfl
theorem nd_all : (List.range 65).all (fun b => Nat.beq b 0 || (Nat.ble (2 ^ b) (10 ^ (b * 78913 / 262144 + 1)) && (Nat.beq (b * 78913 / 262144) 0 || Nat.ble (10 ^ (b * 78913 / 262144 - 1)) (2 ^ (b - 1))) && Nat.ble (b * 78913 / 262144) 19)) = true := by kernel_rfl
theorem nd_ok {b : Nat} (h : b ≤ 64) (h0 : 0 < b) : 2 ^ b ≤ 10 ^ (b * 78913 / 262144 + 1) ∧ (b * 78913 / 262144 = 0 ∨ 10 ^ (b * 78913 / 262144 - 1) ≤ 2 ^ (b - 1)) ∧ b * 78913 / 262144 ≤ 19 := by
 have h1 := List.all_eq_true.1 nd_all b (List.mem_range.2 (by omega))
 simp only [Bool.or_eq_true, Bool.and_eq_true] at h1
 rcases h1 with h1 | ⟨⟨h1, h2⟩, h3⟩
 · have := Nat.eq_of_beq_eq_true h1; omega
 · refine ⟨Nat.le_of_ble_eq_true h1, ?_, Nat.le_of_ble_eq_true h3⟩
   rcases h2 with h2 | h2
   · exact .inl (Nat.eq_of_beq_eq_true h2)
   · exact .inr (Nat.le_of_ble_eq_true h2)
theorem ix20 (b i : Nat) (h : i < 20) : indexArr 1 20 (.pointer (some ⟨b, 0, none⟩)) (.int .i64 (i : Int)) = some (.pointer (some ⟨b, i, none⟩)) := by
 simp only [indexArr, asNat_nat]
 rw [Nat.ble_eq_true_of_le h]
 simp [addOff]
theorem numDigits_law (L n : Nat) {x : Nat} (h0 : 0 < x) (hx : x < 18446744073709551616) {h : H} (hG : Has h 1 (.ro powC)) : Sp (CF L (n + 2)) 86 [.int .u64 (x : Int)] h fun r h' => r = .int .i64 ((dec x).length : Int) ∧ h' = h := by
 refine Sp.body f86 (by simp) ?_
 unfold c86
 refine C.seq fun K hK => ?_
 simp only [EV, r86_0]
 refine hK .norm _ _ (C.seq fun K hK => ?_)
 simp only [seval, EV, r86_1]
 refine len64_law L n hx h _ fun r h1 hq => ?_
 obtain ⟨b, rfl, ⟨b1, b2, b3⟩, rfl⟩ := hq
 have hb0 : 0 < b := by
   rcases Nat.eq_zero_or_pos b with e | e
   · subst e; simp at b1; omega
   · exact e
 refine log_law L n b b3 h1 _ fun r h2 hq => ?_
 obtain ⟨rfl, rfl⟩ := hq
 obtain ⟨n1, n2, n3⟩ := nd_ok b3 hb0
 generalize hd : b * 78913 / 262144 = d at *
 refine hK _ _ _ (C.seq fun K hK => ?_)
 have ld : ∀ s, loadOne h2 (.pointer (some ⟨1, d, s⟩)) = some (.int .u64 ((10 ^ d : Nat) : Int)) := fun s => by rw [loadOne_has hG rfl, powC_at (by omega)]
 have e10 : ((10 ^ d : Nat) : Int) ≤ (x : Int) ↔ 10 ^ d ≤ x := Int.ofNat_le
 simp only [seval, EV, r86_2, ix20 1 d (by omega), ld]
 refine bool2_law L n _ h2 _ fun r h3 hq => ?_
 obtain ⟨rfl, rfl⟩ := hq
 have b2 := b2 h0
 have hp : 2 ^ b = 2 * 2 ^ (b - 1) := by
   obtain ⟨c, rfl⟩ : ∃ c, b = c + 1 := ⟨b - 1, by omega⟩
   rw [Nat.pow_succ, Nat.add_sub_cancel, Nat.mul_comm]
 by_cases g : 10 ^ d ≤ x
 · have hlen := dec_len_eq d x g (by omega) h0
   have w : IntKind.i64.wrap ((d : Int) + 1) = ((d + 1 : Nat) : Int) := by
     rw [show (d : Int) + 1 = ((d + 1 : Nat) : Int) by omega]; exact wrap_lt _ (by omega)
   have g' : ((10 ^ d : Nat) : Int) ≤ (x : Int) := e10.2 g
   simp only [seval, EV, dT g', w]
   refine hK _ _ _ (C.ret ⟨.inr rfl, _, rfl, ?_, rfl⟩)
   rw [hlen]
   simp only [seval, EV, resOf]
 · have g' : ¬ ((10 ^ d : Nat) : Int) ≤ (x : Int) := fun e => g (e10.1 e)
   have hd0 : d ≠ 0 := fun e => by subst e; simp at g; omega
   have hlow : 10 ^ (d - 1) ≤ x := by
     rcases n2 with e | e
     · exact absurd e hd0
     · omega
   have hlen := dec_len_eq (d - 1) x hlow (by rw [Nat.sub_add_cancel (by omega)]; omega) h0
   have w : IntKind.i64.wrap ((d : Int) + 0) = ((d : Nat) : Int) := by
     rw [Int.add_zero]; exact wrap_lt _ (by omega)
   simp only [seval, EV, dF g', w]
   refine hK _ _ _ (C.ret ⟨.inr rfl, _, rfl, ?_, rfl⟩)
   rw [hlen, Nat.sub_add_cancel (by omega)]
   simp only [seval, EV, resOf]
end Go.Proofs.YtilpiiafjehbnaaGreatDoor
