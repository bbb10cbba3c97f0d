import Derived.Test.YtilpiiafjehbnaaGreatDoorEvA
import Derived.Orders
import Derived.Laws.Sem
import Derived.Laws.Append
import Derived.Deep.MidRow
import Derived.Below
namespace Go.Ev
open Go.RowKit
set_option linter.unusedVariables false
def Pos.val : Pos → Nat
 | .h => 1
 | .o p => 2 * p.val
 | .i p => 2 * p.val + 1
theorem toPosF_succ (f k : Nat) : toPosF (f + 1) k = Bool.rec (Bool.rec (Pos.i (toPosF f (k / 2))) (Pos.o (toPosF f (k / 2))) (Nat.beq (k % 2) 0)) Pos.h (Nat.ble k 1) := rfl
theorem toPosF_val : ∀ (f k : Nat), 1 ≤ k → k ≤ f → (toPosF f k).val = k
 | 0, k, h1, h2 => by omega
 | f + 1, k, h1, h2 => by
   rw [toPosF_succ]
   cases hb : Nat.ble k 1 with
   | true => have : k = 1 := by have := Nat.le_of_ble_eq_true hb; omega
             simp [Pos.val, this]
   | false =>
     have hk : 1 < k := by
       rcases Nat.lt_or_ge 1 k with h | h
       · exact h
       · rw [Nat.ble_eq_true_of_le h] at hb; cases hb
     have ih := toPosF_val f (k / 2) (by omega) (by omega)
     cases he : Nat.beq (k % 2) 0 with
     | true => have := Nat.eq_of_beq_eq_true he
               simp only [Pos.val, ih]; omega
     | false => have : k % 2 ≠ 0 := Nat.ne_of_beq_eq_false he
                simp only [Pos.val, ih]; omega
theorem toPos_inj {a b : Nat} (h : toPos (Nat.succ a) = toPos (Nat.succ b)) : a = b := by
 have h1 := toPosF_val (a + 1) (a + 1) (by omega) (by omega)
 have h2 := toPosF_val (b + 1) (b + 1) (by omega) (by omega)
 have : toPosF (a + 1) (a + 1) = toPosF (b + 1) (b + 1) := h
 rw [this, h2] at h1
 omega
section
variable {α : Type}
theorem T.getP_e (p : Pos) : (T.e : T α).getP p = none := by cases p <;> rfl
theorem T.getP_setP : ∀ (p q : Pos) (t : T α) (x : Option α), (t.setP p x).getP q = if p = q then x else t.getP q
 | .h, q, t, x => by
   cases t <;> cases q <;> first
     | rfl
     | (rename_i q; exact (T.getP_e q).trans rfl)
 | .o p, q, t, x => by
   cases t with
   | e => cases q with
     | h => rfl
     | o q => show (T.e.setP p x).getP q = _; rw [T.getP_setP p q .e x]; simp only [Pos.o.injEq, T.getP_e]
     | i q => exact (T.getP_e q).trans rfl
   | n l v r => cases q with
     | h => rfl
     | o q => show (l.setP p x).getP q = _; rw [T.getP_setP p q l x]; simp only [Pos.o.injEq]; rfl
     | i q => rfl
 | .i p, q, t, x => by
   cases t with
   | e => cases q with
     | h => rfl
     | o q => exact (T.getP_e q).trans rfl
     | i q => show (T.e.setP p x).getP q = _; rw [T.getP_setP p q .e x]; simp only [Pos.i.injEq, T.getP_e]
   | n l v r => cases q with
     | h => rfl
     | o q => rfl
     | i q => show (r.setP p x).getP q = _; rw [T.getP_setP p q r x]; simp only [Pos.i.injEq]; rfl
theorem T.get_e (i : Nat) : (T.e : T α).get i = none := T.getP_e _
theorem T.get_set (t : T α) (i j : Nat) (x : α) : (t.set i x).get j = if i = j then some x else t.get j := by
 unfold T.set T.get
 rw [T.getP_setP]
 by_cases h : i = j
 · subst h; simp
 · rw [if_neg (fun e => h (toPos_inj e)), if_neg h]
theorem T.get_del (t : T α) (i j : Nat) : (t.del i).get j = if i = j then none else t.get j := by
 unfold T.del T.get
 rw [T.getP_setP]
 by_cases h : i = j
 · subst h; simp
 · rw [if_neg (fun e => h (toPos_inj e)), if_neg h]
theorem nth_eq : ∀ (l : List α) (i : Nat), nth l i = l[i]?
 | [], i => by cases i <;> rfl
 | x :: xs, 0 => rfl
 | x :: xs, i + 1 => by rw [List.getElem?_cons_succ]; exact nth_eq xs i
theorem setNth_some : ∀ {l : List α} {i : Nat} {y : α} {l' : List α}, setNth l i y = some l' → i < l.length ∧ l' = l.set i y
 | [], i, y, l', h => by simp [setNth] at h
 | x :: xs, 0, y, l', h => by simp [setNth] at h; subst h; simp
 | x :: xs, i + 1, y, l', h => by
   simp only [setNth] at h
   split at h
   · rename_i t ht
     have := setNth_some ht
     simp at h; subst h
     simp [this.1, this.2]
   · cases h
theorem cut_some : ∀ {l : List α} {i : Nat} {r : List α}, cut l i = some r → i ≤ l.length ∧ r = l.drop i
 | [], 0, r, h => by simp [cut] at h; subst h; simp
 | [], i + 1, r, h => by simp [cut] at h
 | x :: xs, 0, r, h => by simp [cut] at h; subst h; simp
 | x :: xs, i + 1, r, h => by
   have := cut_some (l := xs) (i := i) h
   simp [this.1, this.2]
theorem takeN_some : ∀ {l : List α} {n : Nat} {r : List α}, takeN l n = some r → n ≤ l.length ∧ r = l.take n
 | [], 0, r, h => by simp [takeN] at h; subst h; simp
 | [], i + 1, r, h => by simp [takeN] at h
 | x :: xs, 0, r, h => by simp [takeN] at h; subst h; simp
 | x :: xs, i + 1, r, h => by
   simp only [takeN] at h
   split at h
   · rename_i t ht
     have := takeN_some ht
     simp at h; subst h
     simp [this.1, this.2]
   · cases h
theorem putAt_some : ∀ {l : List α} {i : Nat} {ys l' : List α}, putAt l i ys = some l' → i + ys.length ≤ l.length ∧ l'.length = l.length ∧
   ∀ j, l'[j]? = if i ≤ j ∧ j < i + ys.length then ys[j - i]? else l[j]?
 | [], 0, [], l', h => by simp [putAt] at h; subst h; simp
 | [], 0, y :: ys, l', h => by simp [putAt] at h
 | [], i + 1, ys, l', h => by simp [putAt] at h
 | x :: xs, 0, [], l', h => by simp [putAt] at h; subst h; simp
 | x :: xs, 0, y :: ys, l', h => by
   simp only [putAt] at h
   split at h
   · rename_i t ht
     have := putAt_some ht
     simp at h; subst h
     refine ⟨by simp; omega, by simp [this.2.1], fun j => ?_⟩
     cases j with
     | zero => simp
     | succ j =>
       simp only [List.getElem?_cons_succ, this.2.2 j, List.length_cons, Nat.zero_add, Nat.sub_zero]
       by_cases hj : j < ys.length
       · rw [if_pos ⟨by omega, hj⟩, if_pos ⟨by omega, by omega⟩]
       · rw [if_neg (by omega), if_neg (by omega)]
   · cases h
 | x :: xs, i + 1, ys, l', h => by
   simp only [putAt] at h
   split at h
   · rename_i t ht
     have := putAt_some ht
     simp at h; subst h
     refine ⟨by simp; omega, by simp [this.2.1], fun j => ?_⟩
     cases j with
     | zero => simp
     | succ j =>
       simp only [List.getElem?_cons_succ, this.2.2 j]
       by_cases hj : i ≤ j ∧ j < i + ys.length
       · rw [if_pos hj, if_pos ⟨by omega, by omega⟩]; congr 1; omega
       · rw [if_neg hj, if_neg (by omega)]
   · cases h
theorem repl_length (z : List α) : ∀ n, (repl z n).length = n * z.length
 | 0 => by simp [repl]
 | n + 1 => by simp [repl, repl_length z n, Nat.add_mul]; omega
theorem repl_get (z : List α) : ∀ n j, j < n * z.length → (repl z n)[j]? = z[j % z.length]?
 | 0, j, h => by simp at h
 | n + 1, j, h => by
   simp only [repl]
   by_cases hj : j < z.length
   · rw [List.getElem?_append_left hj, Nat.mod_eq_of_lt hj]
   · rw [List.getElem?_append_right (by omega), repl_get z n _ (by rw [Nat.add_mul] at h; omega), Nat.mod_eq_sub_mod (Nat.le_of_not_lt hj)]
end
structure CB where
 blk : Nat
 off : Nat
 len : Nat
 esz : Nat
abbrev Sg := Nat → Option CB
def Sg.le (σ σ' : Sg) : Prop := ∀ B c, σ B = some c → σ' B = some c
theorem Sg.le_refl (σ : Sg) : σ.le σ := fun _ _ h => h
theorem Sg.le_trans {a b c : Sg} (h : a.le b) (k : b.le c) : a.le c := fun B x hx => k B x (h B x hx)
theorem szOf_opCap {lb e : Nat} (h : e < 18446744073709551616) : szOf (opCap lb e) = e := by unfold szOf opCap; omega
theorem lbOf_opCap {lb e : Nat} (h : e < 18446744073709551616) : lbOf (opCap lb e) = lb := by unfold lbOf opCap; omega
theorem open_opCap (lb e : Nat) : OPEN ≤ opCap lb e := by unfold OPEN opCap; omega
inductive VR (σ : Sg) : Value → Value → Prop where
 | bool (b : Bool) : VR σ (.bool b) (.bool b)
 | int (k : IntKind) (n : Int) : VR σ (.int k n) (.int k n)
 | float (k : FloatKind) (b : Nat) : VR σ (.float k b) (.float k b)
 | string (s : ByteArray) : VR σ (.string s) (.string s)
 | ptrNil : VR σ (.pointer none) (.pointer none)
 | ptr (B i : Nat) (c : CB) (h : σ B = some c) : VR σ (.pointer (some ⟨B, i, none⟩)) (.pointer (some ⟨c.blk, c.off + i, none⟩))
 | slNil (n c : Nat) : VR σ (.slice none n c) (.slice none n c)
 | sl (B i n k : Nat) (c : CB) (h : σ B = some c) (hk : k < OPEN) : VR σ (.slice (some ⟨B, i, none⟩) n k) (.slice (some ⟨c.blk, c.off + i, none⟩) n k)
 | slO (B i n k : Nat) (c : CB) (h : σ B = some c) (hn : n ≤ k) (hk : i + k * c.esz = c.len) (lb : Nat) (hl : lb ≤ k) (he : c.esz < 18446744073709551616) : VR σ (.slice (some ⟨B, i, none⟩) n (opCap lb c.esz)) (.slice (some ⟨c.blk, c.off + i, none⟩) n k)
 | slE (B i o : Nat) (c : CB) (h : σ B = some c) (hi : i = c.len) (he : c.esz < 18446744073709551616) : VR σ (.slice (some ⟨B, i, none⟩) 0 (opCap 0 c.esz)) (.slice (some ⟨c.blk, o, none⟩) 0 0)
 | mapNil : VR σ (.map none) (.map none)
 | map (B : Nat) (c : CB) (h : σ B = some c) (h0 : c.off = 0) : VR σ (.map (some B)) (.map (some c.blk))
 | nilFunc : VR σ .nilFunc .nilFunc
 | func (f : Fn) (a b a' b' : Array Value) (ha : a.size = a'.size) (hb : b.size = b'.size)
     (ka : ∀ (i : Nat) x y, a[i]? = some x → a'[i]? = some y → VR σ x y) (kb : ∀ (i : Nat) x y, b[i]? = some x → b'[i]? = some y → VR σ x y) : VR σ (.func f a b) (.func f a' b')
 | nilIface : VR σ .nilIface .nilIface
 | iface (t : TypeId) (v v' : Value) (h : VR σ v v') : VR σ (.iface t v) (.iface t v')
 | agg (a a' : Array Value) (ha : a.size = a'.size) (ka : ∀ (i : Nat) x y, a[i]? = some x → a'[i]? = some y → VR σ x y) : VR σ (.agg a) (.agg a')
 | tuple (a a' : Array Value) (ha : a.size = a'.size) (ka : ∀ (i : Nat) x y, a[i]? = some x → a'[i]? = some y → VR σ x y) : VR σ (.tuple a) (.tuple a')
theorem VR.mono {σ σ' : Sg} (hs : σ.le σ') {v v' : Value} (h : VR σ v v') : VR σ' v v' := by
 induction h with
 | bool => exact .bool _
 | int => exact .int _ _
 | float => exact .float _ _
 | string => exact .string _
 | ptrNil => exact .ptrNil
 | ptr B i c h => exact .ptr B i c (hs _ _ h)
 | slNil => exact .slNil _ _
 | sl B i n k c h hk => exact .sl B i n k c (hs _ _ h) hk
 | slO B i n k c h hn hk lb hl he => exact .slO B i n k c (hs _ _ h) hn hk lb hl he
 | slE B i o c h hi he => exact .slE B i o c (hs _ _ h) hi he
 | mapNil => exact .mapNil
 | map B c h h0 => exact .map B c (hs _ _ h) h0
 | nilFunc => exact .nilFunc
 | func f a b a' b' ha hb _ _ ka kb => exact .func f a b a' b' ha hb ka kb
 | nilIface => exact .nilIface
 | iface t v v' _ ih => exact .iface t v v' ih
 | agg a a' ha _ ka => exact .agg a a' ha ka
 | tuple a a' ha _ ka => exact .tuple a a' ha ka
theorem VR.undef (σ : Sg) : VR σ undef undef := .tuple #[] #[] rfl (fun i x y h => by simp at h)
def LR (σ : Sg) (l l' : List Value) : Prop := l.length = l'.length ∧ ∀ (i : Nat) x y, l[i]? = some x → l'[i]? = some y → VR σ x y
theorem LR.nil (σ : Sg) : LR σ [] [] := ⟨rfl, fun i x y h => by simp at h⟩
theorem LR.cons {σ : Sg} {x y : Value} {l l' : List Value} (h : VR σ x y) (k : LR σ l l') : LR σ (x :: l) (y :: l') :=
 ⟨by simp [k.1], fun i a b ha hb => by
   cases i with
   | zero => simp at ha hb; subst ha; subst hb; exact h
   | succ i => exact k.2 i a b (by simpa using ha) (by simpa using hb)⟩
theorem LR.uncons {σ : Sg} {x : Value} {l l' : List Value} (h : LR σ (x :: l) l') : ∃ y r, l' = y :: r ∧ VR σ x y ∧ LR σ l r := by
 obtain ⟨h1, h2⟩ := h
 cases l' with
 | nil => simp at h1
 | cons y r => exact ⟨y, r, rfl, h2 0 x y rfl rfl, by simpa using h1, fun i a b ha hb => h2 (i + 1) a b (by simpa using ha) (by simpa using hb)⟩
theorem LR.nil_left {σ : Sg} {l' : List Value} (h : LR σ [] l') : l' = [] := by
 have := h.1; cases l' with | nil => rfl | cons => simp at this
theorem LR.mono {σ σ' : Sg} (hs : σ.le σ') {l l' : List Value} (h : LR σ l l') : LR σ' l l' := ⟨h.1, fun i x y hx hy => (h.2 i x y hx hy).mono hs⟩
theorem LR.append {σ : Sg} {a a' b b' : List Value} (h : LR σ a a') (k : LR σ b b') : LR σ (a ++ b) (a' ++ b') := by
 refine ⟨by simp [h.1, k.1], fun i x y hx hy => ?_⟩
 have hlen := h.1
 by_cases hi : i < a.length
 · rw [List.getElem?_append_left hi] at hx; rw [List.getElem?_append_left (by omega)] at hy; exact h.2 i x y hx hy
 · rw [List.getElem?_append_right (by omega)] at hx; rw [List.getElem?_append_right (by omega)] at hy
   have := h.1; rw [this] at hx; exact k.2 _ x y hx hy
theorem LR.drop {σ : Sg} {a a' : List Value} (h : LR σ a a') (n : Nat) : LR σ (a.drop n) (a'.drop n) :=
 ⟨by simp [h.1], fun i x y hx hy => h.2 (n + i) x y (by simpa using hx) (by simpa using hy)⟩
theorem LR.take {σ : Sg} {a a' : List Value} (h : LR σ a a') (n : Nat) : LR σ (a.take n) (a'.take n) := by
 refine ⟨by simp [h.1], fun i x y hx hy => ?_⟩
 rw [List.getElem?_take] at hx hy
 split at hx
 · rename_i hi; rw [if_pos hi] at hy; exact h.2 i x y hx hy
 · cases hx
theorem LR.get {σ : Sg} {a a' : List Value} (h : LR σ a a') {i : Nat} {x : Value} (hx : a[i]? = some x) : ∃ y, a'[i]? = some y ∧ VR σ x y := by
 have hi : i < a.length := (List.getElem?_eq_some_iff.1 hx).1
 have hi' : i < a'.length := by rw [← h.1]; exact hi
 exact ⟨a'[i], List.getElem?_eq_getElem hi', h.2 i x _ hx (List.getElem?_eq_getElem hi')⟩
theorem LR.of_arrays {σ : Sg} {a a' : Array Value} (ha : a.size = a'.size) (ka : ∀ (i : Nat) x y, a[i]? = some x → a'[i]? = some y → VR σ x y) : LR σ a.toList a'.toList :=
 ⟨by simpa using ha, fun i x y hx hy => ka i x y (by simpa using hx) (by simpa using hy)⟩
theorem VR.agg_of {σ : Sg} {l l' : List Value} (h : LR σ l l') : VR σ (.agg l.toArray) (.agg l'.toArray) :=
 .agg _ _ (by simpa using h.1) (fun i x y hx hy => h.2 i x y (by simpa using hx) (by simpa using hy))
theorem VR.tuple_of {σ : Sg} {l l' : List Value} (h : LR σ l l') : VR σ (.tuple l.toArray) (.tuple l'.toArray) :=
 .tuple _ _ (by simpa using h.1) (fun i x y hx hy => h.2 i x y (by simpa using hx) (by simpa using hy))
theorem LR.set {σ : Sg} {a a' : List Value} (h : LR σ a a') (i : Nat) {x y : Value} (k : VR σ x y) : LR σ (a.set i x) (a'.set i y) := by
 refine ⟨by simp [h.1], fun j u v hu hv => ?_⟩
 rw [List.getElem?_set] at hu hv
 by_cases hij : i = j
 · subst hij
   rw [if_pos rfl] at hu hv
   split at hu
   · split at hv
     · simp at hu hv; subst hu; subst hv; exact k
     · cases hv
   · cases hu
 · rw [if_neg hij] at hu hv; exact h.2 j u v hu hv
theorem VR.cells {σ : Sg} {v v' : Value} (h : VR σ v v') : LR σ v.cells.toList v'.cells.toList := by
 cases h with
 | agg a a' ha ka => exact LR.of_arrays ha ka
 | bool => exact LR.cons (.bool _) (LR.nil _)
 | int => exact LR.cons (.int _ _) (LR.nil _)
 | float => exact LR.cons (.float _ _) (LR.nil _)
 | string => exact LR.cons (.string _) (LR.nil _)
 | ptrNil => exact LR.cons .ptrNil (LR.nil _)
 | ptr B i c h => exact LR.cons (.ptr B i c h) (LR.nil _)
 | slNil => exact LR.cons (.slNil _ _) (LR.nil _)
 | sl B i n k c h hk => exact LR.cons (.sl B i n k c h hk) (LR.nil _)
 | slO B i n k c h hn hk lb hl he => exact LR.cons (.slO B i n k c h hn hk lb hl he) (LR.nil _)
 | slE B i o c h hi he => exact LR.cons (.slE B i o c h hi he) (LR.nil _)
 | mapNil => exact LR.cons .mapNil (LR.nil _)
 | map B c h h0 => exact LR.cons (.map B c h h0) (LR.nil _)
 | nilFunc => exact LR.cons .nilFunc (LR.nil _)
 | func f a b a' b' ha hb ka kb => exact LR.cons (.func f a b a' b' ha hb ka kb) (LR.nil _)
 | nilIface => exact LR.cons .nilIface (LR.nil _)
 | iface t v v' h => exact LR.cons (.iface t v v' h) (LR.nil _)
 | tuple a a' ha ka => exact LR.cons (.tuple a a' ha ka) (LR.nil _)
theorem ones_mem : ∀ {l : List Value}, ones l = true → ∀ v ∈ l, v.oneCell' = true
 | [], _, v, h => by cases h
 | x :: r, h, v, hv => by
   have hx : x.oneCell' = true ∧ ones r = true := by cases x <;> simp_all [ones, Value.oneCell']
   cases hv with
   | head => exact hx.1
   | tail _ hv => exact ones_mem hx.2 v hv
theorem VR.one {σ : Sg} {v v' : Value} (h : VR σ v v') (h1 : v.oneCell' = true) : v'.oneCell' = true := by
 cases h <;> first | rfl | (simp [Value.oneCell'] at h1)
theorem LR.ones {σ : Sg} {l l' : List Value} (h : LR σ l l') (h1 : ones l = true) : ∀ v ∈ l', v.oneCell' = true := by
 intro v hv
 obtain ⟨i, hi, rfl⟩ := List.getElem_of_mem hv
 have hi' : i < l.length := by rw [h.1]; exact hi
 exact (h.2 i l[i] l'[i] (List.getElem?_eq_getElem hi') (List.getElem?_eq_getElem hi)).one (ones_mem h1 _ (List.getElem_mem hi'))
def cellsR (σ : Sg) (w : World) (c : CB) (cs : List Value) : Prop :=
 ∀ j v, cs[j]? = some v → ∃ v', w.cell? ⟨c.blk, c.off + j, none⟩ = some v' ∧ VR σ v v'
structure ER (σ : Sg) (e e' : MapEntry) : Prop where
 key : VR σ e.key e'.key
 val : VR σ e.val e'.val
 born : e.born = e'.born
def EsR (σ : Sg) (l l' : List MapEntry) : Prop := l.length = l'.length ∧ ∀ (i : Nat) x y, l[i]? = some x → l'[i]? = some y → ER σ x y
structure LitR (σ : Sg) (es : List (ByteArray × Value)) (es' : List MapEntry) : Prop where
 to : ∀ e ∈ es, ∃ e' ∈ es', e'.key = .string e.1 ∧ VR σ e.2 e'.val
 back : ∀ e' ∈ es', ∃ e ∈ es, e'.key = .string e.1
 one : ∀ a ∈ es', ∀ b ∈ es', a.key = b.key → a = b
 uniq : ∀ a ∈ es, ∀ b ∈ es, a.1 = b.1 → a = b
def Unfz (w : World) (b : Nat) : Prop := ∀ cs t lo hi, w.heap[b]? = some (.cells cs t (lo, hi)) → lo = hi ∨ cs.size ≤ lo
def There (w : World) (b o n : Nat) : Prop := w.there b o n ∧ Unfz w b
def TyR (w : World) (c : CB) : Option TypeId → Prop
 | none => True
 | some t => c.off = 0 ∧ ∃ C fr, w.heap[c.blk]? = some (.cells C t fr)
def ObjR (σ : Sg) (w : World) (c : CB) : AObj → Prop
 | .ro cs => cellsR σ w c cs
 | .rw cs ty => cellsR σ w c cs ∧ cs.length ≤ c.len ∧ There w c.blk c.off c.len ∧ TyR w c ty
 | .op cs e ty => cellsR σ w c cs ∧ cs.length ≤ c.len ∧ There w c.blk c.off c.len ∧ e = c.esz ∧ TyR w c ty
 | .map es k => c.off = 0 ∧ ∃ es' : Array MapEntry, w.heap[c.blk]? = some (.map es' k) ∧ EsR σ es es'.toList
 | .lit es => c.off = 0 ∧ ∃ (es' : Array MapEntry) (k : Nat), w.heap[c.blk]? = some (.map es' k) ∧ LitR σ es es'.toList
 | .sit s p => c.off = 0 ∧ w.heap[c.blk]? = some (.stringIter s p)
 | .mit m since seen st => c.off = 0 ∧ ∃ cm, σ m = some cm ∧ cm.off = 0 ∧ w.heap[c.blk]? = some (.mapIter (some cm.blk) since seen.toArray st)
 | .nit => c.off = 0 ∧ w.heap[c.blk]? = some (.mapIter none 0 #[] 0)
def AObj.mut : AObj → Bool
 | .ro _ => false
 | _ => true
structure Rel (σ : Sg) (h : H) (w : World) : Prop where
 fresh : ∀ B, h.next ≤ B → σ B = none
 inb : ∀ B c, σ B = some c → c.blk < w.heap.size
 obj : ∀ B x, h.objs.get B = some x → ∃ c, σ B = some c ∧ ObjR σ w c x
 excl : ∀ B x B' x' c c', h.objs.get B = some x → x.mut = true → h.objs.get B' = some x' → B ≠ B' → σ B = some c → σ B' = some c' → c.blk ≠ c'.blk
def Own (σ : Sg) (h : H) (k : Nat) : Prop := ∃ B x c, h.objs.get B = some x ∧ x.mut = true ∧ σ B = some c ∧ c.blk = k
def Uses (σ : Sg) (h : H) (k : Nat) : Prop := ∃ B x c, h.objs.get B = some x ∧ σ B = some c ∧ c.blk = k
structure Kept (own : Nat → Prop) (w w' : World) : Prop where
 os : w'.os = w.os
 tape : w'.tape = w.tape
 output : w'.output = w.output
 size : w.heap.size ≤ w'.heap.size
 block : ∀ k, k < w.heap.size → ¬ own k → w'.heap[k]? = w.heap[k]?
structure Ext (σ : Sg) (h : H) (w : World) (σ' : Sg) (h' : H) (w' : World) : Prop where
 le : σ.le σ'
 kept : Kept (Own σ h) w w'
 own : ∀ k, k < w.heap.size → Own σ' h' k → Own σ h k
 next : h.next ≤ h'.next
 uses : ∀ k, k < w.heap.size → Uses σ' h' k → Uses σ h k
 old : ∀ B, B < h.next → σ' B = σ B
 gone : ∀ B, B < h.next → h.objs.get B = none → h'.objs.get B = none
theorem Kept.refl (own : Nat → Prop) (w : World) : Kept own w w := ⟨rfl, rfl, rfl, Nat.le_refl _, fun _ _ _ => rfl⟩
theorem Kept.drew (own : Nat → Prop) (w : World) : Kept own w { w with drawn := w.drawn + 1 } := ⟨rfl, rfl, rfl, Nat.le_refl _, fun _ _ _ => rfl⟩
theorem Ext.refl (σ : Sg) (h : H) (w : World) : Ext σ h w σ h w := ⟨Sg.le_refl _, .refl _ _, fun _ _ h => h, Nat.le_refl _, fun _ _ h => h, fun _ _ => rfl, fun _ _ h => h⟩
theorem Ext.trans {σ : Sg} {h : H} {w : World} {σ1 : Sg} {h1 : H} {w1 : World} {σ2 : Sg} {h2 : H} {w2 : World}
   (a : Ext σ h w σ1 h1 w1) (b : Ext σ1 h1 w1 σ2 h2 w2) : Ext σ h w σ2 h2 w2 where
 le := Sg.le_trans a.le b.le
 kept := ⟨b.kept.os.trans a.kept.os, b.kept.tape.trans a.kept.tape, b.kept.output.trans a.kept.output, Nat.le_trans a.kept.size b.kept.size, fun k hk ho =>
   (b.kept.block k (Nat.lt_of_lt_of_le hk a.kept.size) (fun o => ho (a.own k hk o))).trans (a.kept.block k hk ho)⟩
 own := fun k hk o => a.own k hk (b.own k (Nat.lt_of_lt_of_le hk a.kept.size) o)
 next := Nat.le_trans a.next b.next
 uses := fun k hk u => a.uses k hk (b.uses k (Nat.lt_of_lt_of_le hk a.kept.size) u)
 old := fun B hB => (b.old B (Nat.lt_of_lt_of_le hB a.next)).trans (a.old B hB)
 gone := fun B hB hn => b.gone B (Nat.lt_of_lt_of_le hB a.next) (a.gone B hB hn)
theorem TyR.same {w w' : World} {c : CB} {ty : Option TypeId} (h : TyR w c ty) (hb : w'.heap[c.blk]? = w.heap[c.blk]?) : TyR w' c ty := by
 cases ty with
 | none => trivial
 | some t => obtain ⟨h0, C, fr, h1⟩ := h; exact ⟨h0, C, fr, hb.trans h1⟩
theorem ObjR.same {σ : Sg} {w w' : World} {c : CB} {x : AObj} (h : ObjR σ w c x) (hb : w'.heap[c.blk]? = w.heap[c.blk]?) : ObjR σ w' c x := by
 have hc : ∀ i, w'.cell? ⟨c.blk, i, none⟩ = w.cell? ⟨c.blk, i, none⟩ := fun i => World.cell?_of_block (w := w) hb
 have hf : ∀ i, w'.frozen? ⟨c.blk, i, none⟩ = w.frozen? ⟨c.blk, i, none⟩ := fun i => World.frozen?_of_block (w := w) hb
 have hcs : ∀ cs, cellsR σ w c cs → cellsR σ w' c cs := fun cs k j v hv => by rw [hc]; exact k j v hv
 have ht : ∀ o n, There w c.blk o n → There w' c.blk o n := fun o n k => ⟨fun j hj => by rw [hc, hf]; exact k.1 j hj, fun cs t lo hi h => k.2 cs t lo hi (hb ▸ h)⟩
 cases x with
 | ro cs => exact hcs _ h
 | rw cs ty => exact ⟨hcs _ h.1, h.2.1, ht _ _ h.2.2.1, h.2.2.2.same hb⟩
 | op cs e ty => exact ⟨hcs _ h.1, h.2.1, ht _ _ h.2.2.1, h.2.2.2.1, h.2.2.2.2.same hb⟩
 | map es k => obtain ⟨h0, es', he, hr⟩ := h; exact ⟨h0, es', hb.trans he, hr⟩
 | lit es => obtain ⟨h0, es', k, he, hr⟩ := h; exact ⟨h0, es', k, hb.trans he, hr⟩
 | sit s p => exact ⟨h.1, hb.trans h.2⟩
 | mit m since seen st => obtain ⟨h0, cm, h1, h2, h3⟩ := h; exact ⟨h0, cm, h1, h2, hb.trans h3⟩
 | nit => exact ⟨h.1, hb.trans h.2⟩
theorem EsR.mono {σ σ' : Sg} (hs : σ.le σ') {l l' : List MapEntry} (h : EsR σ l l') : EsR σ' l l' :=
 ⟨h.1, fun i x y hx hy => let k := h.2 i x y hx hy; ⟨k.key.mono hs, k.val.mono hs, k.born⟩⟩
theorem cellsR.mono {σ σ' : Sg} (hs : σ.le σ') {w : World} {c : CB} {cs : List Value} (h : cellsR σ w c cs) : cellsR σ' w c cs :=
 fun j v hv => let ⟨v', a, b⟩ := h j v hv; ⟨v', a, b.mono hs⟩
theorem ObjR.mono {σ σ' : Sg} (hs : σ.le σ') {w : World} {c : CB} {x : AObj} (h : ObjR σ w c x) : ObjR σ' w c x := by
 cases x with
 | ro cs => exact cellsR.mono hs h
 | rw cs ty => exact ⟨cellsR.mono hs h.1, h.2⟩
 | op cs e ty => exact ⟨cellsR.mono hs h.1, h.2⟩
 | map es k => obtain ⟨h0, es', he, hr⟩ := h; exact ⟨h0, es', he, hr.mono hs⟩
 | lit es => obtain ⟨h0, es', k, he, hr⟩ := h; exact ⟨h0, es', k, he, fun e hm => let ⟨e', h1, h2, h3⟩ := hr.to e hm; ⟨e', h1, h2, h3.mono hs⟩, hr.back, hr.one, hr.uniq⟩
 | sit s p => exact h
 | mit m since seen st => obtain ⟨h0, cm, h1, h2⟩ := h; exact ⟨h0, cm, hs _ _ h1, h2⟩
 | nit => exact h
theorem Rel.drew {σ : Sg} {h : H} {w : World} (r : Rel σ h w) : Rel σ h { w with drawn := w.drawn + 1 } :=
 ⟨r.fresh, r.inb, fun B x hx => let ⟨c, hc, ho⟩ := r.obj B x hx; ⟨c, hc, ho.same rfl⟩, r.excl⟩
theorem Ext.drew (σ : Sg) (h : H) (w : World) : Ext σ h w σ h { w with drawn := w.drawn + 1 } := ⟨Sg.le_refl _, .drew _ _, fun _ _ h => h, Nat.le_refl _, fun _ _ h => h, fun _ _ => rfl, fun _ _ h => h⟩
def Sg.upd (σ : Sg) (B : Nat) (c : CB) : Sg := fun b => if b = B then some c else σ b
theorem Sg.upd_same (σ : Sg) (B : Nat) (c : CB) : σ.upd B c B = some c := by simp [Sg.upd]
theorem Sg.upd_other (σ : Sg) {B b : Nat} (c : CB) (h : b ≠ B) : σ.upd B c b = σ b := by simp [Sg.upd, h]
theorem Sg.le_upd {σ : Sg} {B : Nat} (c : CB) (h : σ B = none) : σ.le (σ.upd B c) := fun b x hx => by
 by_cases hb : b = B
 · subst hb; rw [h] at hx; cases hx
 · rw [Sg.upd_other σ c hb]; exact hx
theorem Rel.alloc {σ : Sg} {h : H} {w : World} (r : Rel σ h w) (o : Obj) (x : AObj) (c : CB) (hc : c.blk = w.heap.size)
   (hx : ObjR (σ.upd h.next c) (w.alloc o) c x) : Rel (σ.upd h.next c) (h.new x) (w.alloc o) ∧ Ext σ h w (σ.upd h.next c) (h.new x) (w.alloc o) := by
 have hn : σ h.next = none := r.fresh _ (Nat.le_refl _)
 have hle := Sg.le_upd c hn
 have hget : ∀ B, (h.new x).objs.get B = if h.next = B then some x else h.objs.get B := fun B => T.get_set _ _ _ _
 have hsz : (w.alloc o).heap.size = w.heap.size + 1 := by simp
 have hold : ∀ k, k < w.heap.size → (w.alloc o).heap[k]? = w.heap[k]? := fun k hk => Below.heap_alloc _ _ _ hk
 have hgn : ∀ B y, h.objs.get B = some y → B ≠ h.next := fun B y hy e => by
   obtain ⟨c', h1, _⟩ := r.obj B y hy
   rw [e, hn] at h1; cases h1
 refine ⟨⟨fun B hB => ?_, fun B c' h' => ?_, fun B y hy => ?_, fun B y B' y' c1 c2 hy hm hy' hne h1 h2 => ?_⟩, ⟨hle, ⟨rfl, rfl, rfl, by omega, fun k hk _ => hold k hk⟩, fun k hk ho => ?_, by simp [H.new], fun k hk ho => ?_, fun B hB => Sg.upd_other σ c (by omega), fun B hB hn' => by rw [hget, if_neg (by omega)]; exact hn'⟩⟩
 · have : B ≠ h.next := by simp [H.new] at hB; omega
   rw [Sg.upd_other σ c this]; exact r.fresh B (by simp [H.new] at hB; omega)
 · by_cases hB : B = h.next
   · subst hB; rw [Sg.upd_same] at h'; cases h'; omega
   · rw [Sg.upd_other σ c hB] at h'; have := r.inb B c' h'; omega
 · rw [hget] at hy
   split at hy
   · rename_i e; subst e; cases hy; exact ⟨c, Sg.upd_same _ _ _, hx⟩
   · obtain ⟨c', h1, h2⟩ := r.obj B y hy
     exact ⟨c', hle _ _ h1, (h2.mono hle).same (hold _ (r.inb _ _ h1))⟩
 · rw [hget] at hy hy'
   by_cases e1 : h.next = B
   · subst e1
     rw [if_neg hne] at hy'
     rw [Sg.upd_same] at h1; cases h1
     obtain ⟨c', k1, _⟩ := r.obj B' y' hy'
     rw [Sg.upd_other σ c (fun e => hne e.symm), k1] at h2; cases h2
     have := r.inb _ _ k1; omega
   · rw [if_neg e1] at hy
     by_cases e2 : h.next = B'
     · subst e2
       rw [Sg.upd_same] at h2; cases h2
       obtain ⟨c', k1, _⟩ := r.obj B y hy
       rw [Sg.upd_other σ c hne, k1] at h1; cases h1
       have := r.inb _ _ k1; omega
     · rw [if_neg e2] at hy'
       rw [Sg.upd_other σ c (fun e => e1 e.symm)] at h1
       rw [Sg.upd_other σ c (fun e => e2 e.symm)] at h2
       exact r.excl B y B' y' c1 c2 hy hm hy' hne h1 h2
 · obtain ⟨B, y, c', hy, hm, h1, h2⟩ := ho
   rw [hget] at hy
   by_cases e1 : h.next = B
   · subst e1; rw [Sg.upd_same] at h1; cases h1; omega
   · rw [if_neg e1] at hy; rw [Sg.upd_other σ c (fun e => e1 e.symm)] at h1
     exact ⟨B, y, c', hy, hm, h1, h2⟩
 · obtain ⟨B, y, c', hy, h1, h2⟩ := ho
   rw [hget] at hy
   by_cases e1 : h.next = B
   · subst e1; rw [Sg.upd_same] at h1; cases h1; omega
   · rw [if_neg e1] at hy; rw [Sg.upd_other σ c (fun e => e1 e.symm)] at h1
     exact ⟨B, y, c', hy, h1, h2⟩
theorem Rel.writeX {σ : Sg} {h : H} {w w' : World} (r : Rel σ h w) {B : Nat} {x y : AObj} {c : CB} (hx : h.objs.get B = some x) (hm : x.mut = true) (hc : σ B = some c)
   (hy : ObjR σ w' c y) (hk : ∀ k, k ≠ c.blk → w'.heap[k]? = w.heap[k]?) (hs : w'.heap.size = w.heap.size) (hos : w'.os = w.os) (ht : w'.tape = w.tape) (ho : w'.output = w.output) :
   Rel σ (h.put B y) w' ∧ Ext σ h w σ (h.put B y) w' := by
 have hget : ∀ b, (h.put B y).objs.get b = if B = b then some y else h.objs.get b := fun b => T.get_set _ _ _ _
 refine ⟨⟨r.fresh, fun b c' h' => by rw [hs]; exact r.inb b c' h', fun b z hz => ?_, fun b z b' z' c1 c2 hz hmz hz' hne h1 h2 => ?_⟩, ⟨Sg.le_refl _, ⟨hos, ht, ho, by omega, fun k _ hno => hk k (fun e => hno ⟨B, x, c, hx, hm, hc, e.symm⟩)⟩, fun k _ hown => ?_, Nat.le_refl _, fun k _ huse => ?_, fun _ _ => rfl, fun b hb hn => by rw [hget, if_neg (fun e => by subst e; rw [hx] at hn; cases hn)]; exact hn⟩⟩
 · rw [hget] at hz
   by_cases e : B = b
   · subst e; rw [if_pos rfl] at hz; cases hz; exact ⟨c, hc, hy⟩
   · rw [if_neg e] at hz
     obtain ⟨c', h1, h2⟩ := r.obj b z hz
     exact ⟨c', h1, h2.same (hk _ (fun e2 => r.excl B x b z c c' hx hm hz e hc h1 e2.symm))⟩
 · rw [hget] at hz hz'
   have hz0 : ∃ z0, h.objs.get b = some z0 ∧ z0.mut = true := by
     by_cases e : B = b
     · subst e; exact ⟨x, hx, hm⟩
     · rw [if_neg e] at hz; exact ⟨z, hz, hmz⟩
   have hz0' : ∃ z0, h.objs.get b' = some z0 := by
     by_cases e : B = b'
     · subst e; exact ⟨x, hx⟩
     · rw [if_neg e] at hz'; exact ⟨z', hz'⟩
   obtain ⟨z0, g1, g2⟩ := hz0
   obtain ⟨z1, g3⟩ := hz0'
   exact r.excl b z0 b' z1 c1 c2 g1 g2 g3 hne h1 h2
 · obtain ⟨b, z, c', hz, hmz, h1, h2⟩ := hown
   rw [hget] at hz
   by_cases e : B = b
   · subst e; exact ⟨B, x, c', hx, hm, h1, h2⟩
   · rw [if_neg e] at hz; exact ⟨b, z, c', hz, hmz, h1, h2⟩
 · obtain ⟨b, z, c', hz, h1, h2⟩ := huse
   rw [hget] at hz
   by_cases e : B = b
   · subst e; exact ⟨B, x, c', hx, h1, h2⟩
   · rw [if_neg e] at hz; exact ⟨b, z, c', hz, h1, h2⟩
theorem Rel.write {σ : Sg} {h : H} {w w' : World} (r : Rel σ h w) {B : Nat} {x y : AObj} {c : CB} (hx : h.objs.get B = some x) (hm : x.mut = true) (hym : y.mut = true) (hc : σ B = some c)
   (hy : ObjR σ w' c y) (hk : ∀ k, k ≠ c.blk → w'.heap[k]? = w.heap[k]?) (hs : w'.heap.size = w.heap.size) (hos : w'.os = w.os) (ht : w'.tape = w.tape) (ho : w'.output = w.output) :
   Rel σ (h.put B y) w' ∧ Ext σ h w σ (h.put B y) w' := r.writeX hx hm hc hy hk hs hos ht ho
theorem Rel.forget {σ : Sg} {h : H} {w : World} (r : Rel σ h w) (B : Nat) : Rel σ (h.del B) w ∧ (∀ k, Own σ (h.del B) k → Own σ h k) ∧ (∀ k, Uses σ (h.del B) k → Uses σ h k) := by
 have hget : ∀ b, (h.del B).objs.get b = if B = b then none else h.objs.get b := fun b => T.get_del _ _ _
 have hsome : ∀ b z, (h.del B).objs.get b = some z → h.objs.get b = some z := fun b z hz => by
   rw [hget] at hz
   split at hz
   · cases hz
   · exact hz
 exact ⟨⟨r.fresh, r.inb, fun b z hz => r.obj b z (hsome b z hz), fun b z b' z' c1 c2 hz hm hz' => r.excl b z b' z' c1 c2 (hsome _ _ hz) hm (hsome _ _ hz')⟩,
   fun k ⟨b, z, c, hz, hm, h1, h2⟩ => ⟨b, z, c, hsome _ _ hz, hm, h1, h2⟩, fun k ⟨b, z, c, hz, h1, h2⟩ => ⟨b, z, c, hsome _ _ hz, h1, h2⟩⟩
end Go.Ev
