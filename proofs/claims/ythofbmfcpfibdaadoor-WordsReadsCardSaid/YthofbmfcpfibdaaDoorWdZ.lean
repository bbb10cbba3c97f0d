import Derived.Test.YthofbmfcpfibdaaDoorWdK
set_option linter.unusedSimpArgs false
set_option linter.unusedVariables false
namespace Go.Proofs.YthofbmfcpfibdaaDoor
open Go.Ev

/-! ### plain keys, on both sides -/
def pb (b : UInt8) : Bool := decide (33 ≤ b.toNat) && decide (b.toNat ≤ 126)
def plainL (l : List UInt8) : Bool := l.all pb
theorem get_at {s : ByteArray} {i : Nat} {b : UInt8} (h : s.data.toList[i]? = some b) : s.get! i = b := by
  obtain ⟨d⟩ := s
  show d[i]! = b
  have h' : d[i]? = some b := by simpa using h
  rw [getElem!_def, h']
theorem dec_low {s : ByteArray} {i : Nat} (h : (s.get! i).toNat < 128) : Utf8.decode s i = ((s.get! i).toNat, 1) := by
  unfold Utf8.decode
  simp only [Nat.add_zero]
  rw [if_pos h]
theorem dec_high {s : ByteArray} {i : Nat} (h : 128 ≤ (s.get! i).toNat) : 128 ≤ (Utf8.decode s i).1 := by
  unfold Utf8.decode
  simp only [Nat.add_zero]
  rw [if_neg (by omega)]
  repeat' split
  all_goals simp only [Utf8.runeError]
  all_goals first | omega | (simp only [ge_iff_le, Bool.and_eq_true, decide_eq_true_eq] at *; omega)
theorem bool_eq : ∀ a b : Bool, binV Tryd.prog .eql 4 false (.bool a) (.bool b) = some (.bool (a == b))
  | true, true => by kernel_rfl
  | true, false => by kernel_rfl
  | false, true => by kernel_rfl
  | false, false => by kernel_rfl
theorem rune_law (L n : Nat) (c : Nat) (h : H) : Sp (CF L (n + 1)) 39 [.int .i32 (c : Int)] h fun r h' => r = .bool (decide ((c : Int) < 33) || decide ((126 : Int) < (c : Int))) ∧ h' = h := by
  refine Sp.body f39 (by simp) ?_
  unfold c39
  refine C.seq fun K hK => ?_
  simp only [EV, r39_0]
  refine hK .norm _ _ (C.seq fun K hK => ?_)
  by_cases g1 : (c : Int) < 33
  · simp only [↓reduceIte, EV, Nat.reduceEqDiff, r39_1, decide_eq_true g1]
    refine hK _ _ _ (C.ret ⟨.inr rfl, _, rfl, ?_, rfl⟩)
    simp only [↓reduceIte, EV, resOf]
    rw [decide_eq_true g1]; rfl
  · simp only [↓reduceIte, ↓EW, EV, Nat.reduceEqDiff, r39_1, decide_eq_false g1]
    refine hK _ _ _ (C.ret ⟨.inr rfl, _, rfl, ?_, rfl⟩)
    simp only [↓reduceIte, EV, resOf]
    rw [decide_eq_false g1]; rfl
theorem nextStr_some {h : H} {s : ByteArray} {pos : Nat} {put : AObj → H} {K : KV} (hp : pos < s.size) : nextStr h s pos put K = K (.tuple #[.bool true, .int .i64 (Int.ofNat pos), .int .i32 (Int.ofNat (Utf8.decode s pos).1)]) (put (.sit s (pos + (Utf8.decode s pos).2))) := by
  unfold nextStr
  rw [Nat.ble_eq_true_of_le hp]
theorem nextStr_none {h : H} {s : ByteArray} {pos : Nat} {put : AObj → H} {K : KV} (hp : ¬ pos < s.size) : nextStr h s pos put K = K (.tuple #[.bool false]) h := by
  unfold nextStr
  rw [show Nat.ble (pos + 1) s.size = false by rw [Bool.eq_false_iff]; intro e; exact hp (Nat.le_of_ble_eq_true e)]
theorem tup3 (i : Nat) (a b c : Value) : tupNth i (.tuple #[a, b, c]) = [a, b, c][i]? := tupNth_tuple i [a, b, c]
theorem tup1 (i : Nat) (a : Value) : tupNth i (.tuple #[a]) = [a][i]? := tupNth_tuple i [a]
theorem runes_law (L n : Nat) {s : ByteArray} (hs : s.size < L) (h0 : H) :
    Sp (CF L (n + 2)) 65 [.string s, .func (.func 39) #[] #[], .bool true] h0 fun r h' => (∃ i : Int, r = .int .i64 i ∧ (i < 0 ↔ plainL s.data.toList = true)) ∧ Keep nobody h0 h' := by
  have hsl : s.size = s.data.toList.length := rfl
  refine Sp.body f65 (by simp) ?_
  unfold c65
  refine C.seq fun K hK => ?_
  simp only [EV, Nat.reduceAdd, r65_0]
  refine hK .norm _ _ (C.seq (C.seq fun K hK => ?_))
  simp only [↓reduceIte, EV, Nat.reduceEqDiff, r65_1, rangeStr]
  have k1 := Keep.new h0 (.sit s 0)
  have b1 := Has.new h0 (.sit s 0)
  generalize h0.new (.sit s 0) = h1 at *
  refine hK _ _ _ (C.block ?_)
  refine (C.loop (L := L) (fun k tm h' => ∃ pos, k = s.size - pos ∧ pos ≤ s.size ∧ tg tm 1 = .func (.func 39) #[] #[] ∧ tg tm 2 = .bool true ∧ tg tm 10 = .pointer (some ⟨h0.next, 0, none⟩) ∧ Has h' h0.next (.sit s pos) ∧ (s.data.toList.take pos).all pb = true ∧ Keep nobody h0 h') s.size hs ⟨0, rfl, Nat.zero_le _, by simp only [↓reduceIte, EV, Nat.reduceEqDiff], by simp only [↓reduceIte, EV, Nat.reduceEqDiff], by simp only [↓reduceIte, EV], b1, rfl, k1⟩ fun k tm h' hi => ?_ :
    C (loopB l65_6) _ L _ h1 fun e tm' h' => Keep nobody h0 h' ∧ (e = .exit 0 ∧ plainL s.data.toList = true ∨ e = .ret ∧ ∃ i : Int, tg tm' 6 = .int .i64 i ∧ 0 ≤ i ∧ plainL s.data.toList = false)).mono ?_
  · obtain ⟨pos, hk, hp, t1, t2, t10, b, hall, kp⟩ := hi
    refine C.seq fun K hK => ?_
    have hn : ∀ K : KV, nextV true h' (tg tm 10) K = nextStr h' s pos (h'.put h0.next) K := fun K => by
      rw [t10]
      simp only [nextV, b.2]
    by_cases g : pos < s.size
    · obtain ⟨c, hc⟩ : ∃ c, s.data.toList[pos]? = some c := ⟨_, List.getElem?_eq_getElem (by omega)⟩
      have hget := get_at hc
      simp only [r65_2, hn, nextStr_some g, tup3, EV]
      refine hK _ _ _ (C.seq (C.cond true (by simp only [↓reduceIte, EV]) (fun _ => C.skip (C.block (C.seq fun K hK => ?_))) fun g => by cases g))
      simp only [↓reduceIte, EV, Nat.reduceEqDiff, r65_3, tup3]
      refine hK _ _ _ (C.seq fun K hK => ?_)
      have k2 := Keep.put h' h0.next (.sit s (pos + (Utf8.decode s pos).2))
      have b2 := Has.put (x := .sit s (pos + (Utf8.decode s pos).2)) b.1
      have k3 : Keep nobody h0 (h'.put h0.next (.sit s (pos + (Utf8.decode s pos).2))) := kp.trans k2 fun k hk e => by omega
      generalize h'.put h0.next (.sit s (pos + (Utf8.decode s pos).2)) = h2 at *
      simp only [↓reduceIte, EV, Nat.reduceEqDiff, r65_4, t1, t2, funcArgs, goCall]
      refine rune_law L n _ h2 _ fun r h3 hq => ?_
      obtain ⟨rfl, rfl⟩ := hq
      simp only [EV, bool_eq]
      by_cases gp : pb c = true
      · have gp' := gp
        unfold pb at gp'
        simp only [Bool.and_eq_true, decide_eq_true_eq] at gp'
        have hd : Utf8.decode s pos = (c.toNat, 1) := by rw [dec_low (by rw [hget]; omega), hget]
        rw [hd] at b2 ⊢
        have e1 : (decide ((c.toNat : Int) < 33) || decide ((126 : Int) < (c.toNat : Int))) = false := by
          rw [decide_eq_false (by omega), decide_eq_false (by omega)]; rfl
        simp only [e1]
        refine hK _ _ _ (C.cond false (by simp only [↓reduceIte, EV]; rfl) (fun g => by cases g) fun _ => C.skip ⟨s.size - (pos + 1), by omega, pos + 1, rfl, by omega, by simp only [↓reduceIte, EV, Nat.reduceEqDiff, t1], by simp only [↓reduceIte, EV, Nat.reduceEqDiff, t2], by simp only [↓reduceIte, EV, Nat.reduceEqDiff, t10], b2, ?_, k3⟩)
        rw [List.take_add_one, List.all_append, hall, hc]
        simp [gp]
      · have gp' : pb c = false := by simpa using gp
        have hd : (decide ((((Utf8.decode s pos).1 : Nat) : Int) < 33) || decide ((126 : Int) < (((Utf8.decode s pos).1 : Nat) : Int))) = true := by
          by_cases hc8 : c.toNat < 128
          · rw [dec_low (by rw [hget]; exact hc8), hget]
            unfold pb at gp'
            rw [Bool.and_eq_false_iff, decide_eq_false_iff_not, decide_eq_false_iff_not] at gp'
            simp only [Bool.or_eq_true, decide_eq_true_eq]
            omega
          · have := dec_high (s := s) (i := pos) (by rw [hget]; omega)
            simp only [Bool.or_eq_true, decide_eq_true_eq]
            omega
        simp only [Int.ofNat_eq_natCast, hd]
        refine hK _ _ _ (C.cond true (by simp only [↓reduceIte, EV]; rfl) (fun _ => C.seq fun K hK => ?_) fun g => by cases g)
        simp only [↓reduceIte, EV, Nat.reduceEqDiff, r65_5]
        refine hK _ _ _ (C.ret ⟨k3, .inr ⟨rfl, (pos : Int), by simp only [↓reduceIte, EV], by omega, ?_⟩⟩)
        unfold plainL
        rw [List.all_eq_false]
        exact ⟨c, List.mem_of_getElem? hc, by simp [gp']⟩
    · simp only [r65_2, hn, nextStr_none g, tup1, EV]
      refine hK _ _ _ (C.seq (C.cond false (by simp only [↓reduceIte, EV]) (fun g => by cases g) fun _ => C.exit ⟨kp, .inl ⟨rfl, ?_⟩⟩))
      rw [List.take_of_length_le (by omega)] at hall
      exact hall
  · rintro e tm' h' ⟨kp, (⟨rfl, hp⟩ | ⟨rfl, i, t6, hi, hp⟩)⟩
    · show if 0 = 0 then _ else _
      rw [if_pos rfl]
      refine C.seq fun K hK => ?_
      simp only [r65_6]
      refine hK _ _ _ (C.ret ⟨.inr rfl, _, rfl, ⟨-1, by simp only [↓reduceIte, EV, resOf], by simp [hp]⟩, kp⟩)
    · exact ⟨.inr rfl, _, rfl, ⟨i, by simp only [resOf, t6], by rw [hp]; simp; omega⟩, kp⟩
theorem plain_law (L n : Nat) {s : ByteArray} (hs : s.size < L) (h0 : H) :
    Sp (CF L (n + 4)) 18 [.string s] h0 fun r h' => r = .bool (plainL s.data.toList) ∧ Keep nobody h0 h' := by
  refine Sp.body f18 (by simp) ?_
  unfold c18
  refine C.seq fun K hK => ?_
  simp only [EV, r18_0]
  refine hK .norm _ _ (C.seq fun K hK => ?_)
  simp only [↓reduceIte, EV, Nat.reduceEqDiff, r18_1]
  have h38 : Sp (CF L (n + 3)) 38 [.string s, .func (.func 39) #[] #[]] h0 fun r h' => (∃ i : Int, r = .int .i64 i ∧ (i < 0 ↔ plainL s.data.toList = true)) ∧ Keep nobody h0 h' := by
    refine Sp.body f38 (by simp) ?_
    unfold c38
    refine C.seq fun K hK => ?_
    simp only [EV, Nat.reduceAdd, r38_0]
    refine hK .norm _ _ (C.seq fun K hK => ?_)
    simp only [↓reduceIte, EV, Nat.reduceEqDiff, r38_1]
    refine runes_law L n hs h0 _ fun r h' hq => ?_
    obtain ⟨⟨i, rfl, hi⟩, kp⟩ := hq
    refine hK _ _ _ (C.ret ⟨.inr rfl, _, rfl, ⟨i, ?_, hi⟩, kp⟩)
    simp only [↓reduceIte, EV, resOf]
  refine h38 _ fun r h' hq => ?_
  obtain ⟨⟨i, rfl, hi⟩, kp⟩ := hq
  simp only [EV]
  refine hK _ _ _ (C.ret ⟨.inr rfl, _, rfl, ?_, kp⟩)
  simp only [↓reduceIte, EV, resOf]
  congr 1
  rw [Bool.eq_iff_iff, decide_eq_true_iff]; exact hi
end Go.Proofs.YthofbmfcpfibdaaDoor

namespace Go.Proofs.YthofbmfcpfibdaaDoor
open Go.Ev

theorem ixstr {s : ByteArray} {i : Nat} {c : UInt8} (h : s.data.toList[i]? = some c) : indexStr (.string s) (.int .i64 (i : Int)) = some (.int .u8 (c.toNat : Int)) := by
  simp only [indexStr, asNat_nat, nth_eq, h]
  rfl
theorem r50_4_eq {call : CallT} {L : Nat} {tm : T Value} {h : H} {K : KE} {s : ByteArray} {pos : Nat} {c : UInt8} (t0 : tg tm 0 = .string s) (t5 : tg tm 5 = .int .i64 (pos : Int)) (hc : s.data.toList[pos]? = some c) :
    r50_4 call L tm [] h K = K .norm (T.set tm 21 (.bool (!pb c))) [] h := by
  have ix := ixstr hc
  by_cases g1 : (c.toNat : Int) < 33
  · have e : pb c = false := by
      unfold pb; rw [decide_eq_false (by omega)]; rfl
    simp only [↓opStep_eq, ↓reduceIte, ↓EW, EV, r50_4, t0, t5, ix, decide_eq_true g1, e]
  by_cases g2 : (126 : Int) < (c.toNat : Int)
  · have e : pb c = false := by
      unfold pb; rw [decide_eq_false (show ¬ c.toNat ≤ 126 by omega), Bool.and_false]
    simp only [↓opStep_eq, ↓reduceIte, ↓EW, EV, r50_4, t0, t5, ix, decide_eq_false g1, decide_eq_true g2, e]
  · have e : pb c = true := by
      unfold pb; rw [decide_eq_true (by omega), decide_eq_true (by omega)]; rfl
    simp only [↓opStep_eq, ↓reduceIte, ↓EW, EV, r50_4, t0, t5, ix, decide_eq_false g1, decide_eq_false g2, e]
end Go.Proofs.YthofbmfcpfibdaaDoor

namespace Go.Proofs.YthofbmfcpfibdaaDoor
open Go.Ev

/-! ### strings.Builder -/
theorem callF_succ {P : Program} {Sf : Nat → Nat} {X : List (Nat × XK)} {NG L n f : Nat} {args : List Value} {h : H} {K : KV} : callF P Sf X NG L (n + 1) f args h K = (funcB P Sf X NG f).f (callF P Sf X NG L n) L args h K := rfl
/-- a row of bytes that a builder holds -/
def OpR (h : H) (v : Value) (l : List UInt8) : Prop := (v = .slice none 0 0 ∧ l = []) ∨ ∃ b cap, v = .slice (some ⟨b, 0, none⟩) l.length cap ∧ Nat.ble OPEN cap = true ∧ Nat.beq (szOf cap) 1 = true ∧ Has h b (.op (l.map bv) 1 (some 5))
theorem OpR.keep {S : Nat → Prop} {h h' : H} {v : Value} {l : List UInt8} (a : OpR h v l) (k : Keep S h h') (hn : ∀ b, blk v b → ¬ S b) : OpR h' v l := by
  rcases a with a | ⟨b, cap, rfl, h1, h2, h3⟩
  · exact .inl a
  · exact .inr ⟨b, cap, rfl, h1, h2, h3.keep k (hn b (by simp))⟩
theorem OpR.lt {h : H} {v : Value} {l : List UInt8} (a : OpR h v l) {b : Nat} (hb : blk v b) : b < h.next := by
  rcases a with ⟨rfl, _⟩ | ⟨b', cap, rfl, h1, h2, h3⟩
  · simp at hb
  · simp at hb; subst hb; exact h3.1
/-- a builder in the making at block B; all its blocks stand from n0 on -/
def Bld (n0 : Nat) (h : H) (B : Nat) (l : List UInt8) : Prop :=
  ∃ p v, Has h B (.rw [p, v] (some 74)) ∧ (p = .pointer none ∨ p = .pointer (some ⟨B, 0, none⟩)) ∧ OpR h v l ∧ n0 ≤ B ∧ ∀ b, blk v b → n0 ≤ b ∧ b ≠ B
theorem Bld.keep {n0 : Nat} {S : Nat → Prop} {h h' : H} {B : Nat} {l : List UInt8} (a : Bld n0 h B l) (k : Keep S h h') (hs : ∀ b, S b → h.next ≤ b) : Bld n0 h' B l := by
  obtain ⟨p, v, h1, h2, h3, h4, h5⟩ := a
  exact ⟨p, v, h1.keep k fun s => by have := hs _ s; have := h1.1; omega, h2, h3.keep k fun b hb s => by have := hs _ s; have := h3.lt hb; omega, h4, h5⟩
end Go.Proofs.YthofbmfcpfibdaaDoor

namespace Go.Proofs.YthofbmfcpfibdaaDoor
open Go.Ev

end Go.Proofs.YthofbmfcpfibdaaDoor

namespace Go.Proofs.YthofbmfcpfibdaaDoor
open Go.Ev

/-! ### strings.Join -/
def sv (p : List UInt8) : Value := .string ⟨p.toArray⟩
def sumL : List (List UInt8) → Nat
  | [] => 0
  | p :: r => p.length + sumL r
def joinR : List (List UInt8) → List UInt8
  | [] => []
  | p :: r => 32 :: p ++ joinR r
theorem joinR_len : ∀ r, (joinR r).length = r.length + sumL r
  | [] => rfl
  | p :: r => by
    simp only [joinR, List.length_append, List.length_cons, joinR_len r, sumL]; omega
theorem sv_len (p : List UInt8) : lenStr (sv p) = some (.int .i64 (p.length : Int)) := rfl
theorem wrap_big {n : Int} (h1 : -9000000000000000000 ≤ n) (h2 : n ≤ 9223372036854775807) : IntKind.i64.wrap n = n := wrap_eq _ _ (by show (-9223372036854775808 : Int) ≤ _; omega) (by show n ≤ 9223372036854775807; omega)
end Go.Proofs.YthofbmfcpfibdaaDoor

namespace Go.Proofs.YthofbmfcpfibdaaDoor
open Go.Ev

theorem keep_room (h : H) (n : Nat) : Keep nobody h ⟨h.objs, h.next + n⟩ := ⟨Nat.le_add_right _ _, fun _ _ _ => rfl⟩
theorem hO_self {v : Value} (hv : veq 64 v v = true) (b : Bool) : hO (some v) v b = b := by unfold hO; simp only [hv]
theorem veq_int (k : IntKind) (n : Int) : veq 64 (.int k n) (.int k n) = true := by
  show (kEq k k && iEq n n) = true
  rw [kEq_self, iEq_dec]; simp
theorem veq_str (s : ByteArray) : veq 64 (.string s) (.string s) = true := by
  show leB s.data.toList s.data.toList = true
  rw [leB_eq]; simp
theorem Bld.lt {n0 : Nat} {h : H} {B : Nat} {l : List UInt8} (a : Bld n0 h B l) : B < h.next := by
  obtain ⟨p, v, hb, _⟩ := a; exact hb.1

/-! ### what a good item is -/
structure Itm.good (x : Itm) : Prop where
  ok : x.ok
  err : x.err = 0
theorem Itm.good.key {x : Itm} (g : x.good) : x.key.size ≤ 32 := by
  have := g.err
  unfold Itm.err Itm.long at this
  split at this
  · omega
  · rename_i h
    simp only [Bool.or_eq_true, decide_eq_true_eq, not_or] at h
    omega
theorem Itm.good.val {x : Itm} (g : x.good) : x.val.size ≤ 512 := by
  have := g.err
  unfold Itm.err Itm.long at this
  split at this
  · omega
  · rename_i h
    simp only [Bool.or_eq_true, decide_eq_true_eq, not_or] at h
    omega
theorem Itm.good.till {x : Itm} (g : x.good) : 0 ≤ x.till ∧ x.till ≤ 1099511627776 := by
  have := g.err
  unfold Itm.err at this
  split at this
  · omega
  · split at this
    · rename_i h
      unfold momentB at h
      simpa using h
    · omega
def VAL : List UInt8 := [86, 65, 76, 85, 69]
def parts (x : Itm) : List (List UInt8) := [x.key.data.toList, dec x.flags.toNat, dec x.till.toNat, dec x.uniq.toNat, dec x.val.size]
/-- an item's lines -/
def vline (x : Itm) : List UInt8 := VAL ++ joinR (parts x) ++ [13, 10] ++ x.val.data.toList ++ [13, 10]
theorem parts_len {x : Itm} (g : x.good) : sumL (parts x) ≤ 112 := by
  have h1 := g.key
  have h2 := dec_len 19 x.flags.toNat (by have := g.ok.flags; omega)
  have h3 := dec_len 19 x.till.toNat (by have := g.till; omega)
  have h4 := dec_len 19 x.uniq.toNat (by have := g.ok.uniq; omega)
  have h5 := dec_len 19 x.val.size (by have := g.val; omega)
  have e : x.key.data.toList.length = x.key.size := rfl
  simp only [parts, sumL, e]; omega
theorem vline_len {x : Itm} (g : x.good) : (vline x).length ≤ 700 := by
  have h1 := parts_len g
  have h2 := g.val
  have e : x.val.data.toList.length = x.val.size := rfl
  have h3 := joinR_len (parts x)
  have e2 : (parts x).length = 5 := rfl
  simp only [vline, List.length_append, h3, e, e2, VAL, List.length_cons, List.length_nil]; omega
theorem cat_sv (t : TypeId) (c : Bool) (x y : List UInt8) (h : x.length + y.length ≤ 1000000) : binV Tryd.prog .add t c (sv x) (sv y) = some (sv (x ++ y)) := cat_eq t c x y h
theorem str_sv (s : ByteArray) : Value.string s = sv s.data.toList := rfl
end Go.Proofs.YthofbmfcpfibdaaDoor

namespace Go.Proofs.YthofbmfcpfibdaaDoor
open Go.Ev

def rIx (k : Nat) : Nat := [6, 5, 0, 0, 0, 0, 1, 1, 0, 2, 3, 4].getD k 6
def rowL (k : Nat) : List UInt8 := (rowN.getD k (strB [])).data.toList
theorem rows_ok : (List.range 12).all (fun k => Nat.beq k 0 || ((List.range 6).all (fun j => (leB (rowsN.getD j (strB [])).data.toList (rowL k) == Nat.beq j (rIx k))) && Nat.blt (rIx k) 6 && leB (rowsN.getD (rIx k) (strB [])).data.toList (rowL k) && Nat.ble 1 (rowL k).length && Nat.ble (rowL k).length 10)) = true := by kernel_rfl
theorem row_at {k : Nat} (h1 : 1 ≤ k) (h2 : k ≤ 11) : rIx k < 6 ∧ (rowsN.getD (rIx k) (strB [])).data.toList = rowL k ∧ 1 ≤ (rowL k).length ∧ (rowL k).length ≤ 10 := by
  have h := List.all_eq_true.1 rows_ok k (List.mem_range.2 (by omega))
  simp only [Bool.or_eq_true, Bool.and_eq_true] at h
  rcases h with h | ⟨⟨⟨⟨_, h⟩, h3⟩, h4⟩, h5⟩
  · have := Nat.eq_of_beq_eq_true h; omega
  · rw [leB_eq] at h3
    exact ⟨by simpa using h, by simpa using h3, Nat.le_of_ble_eq_true h4, Nat.le_of_ble_eq_true h5⟩
def cntL (k : Nat) (num : Int) : List UInt8 := if countsB k then 32 :: dec num.toNat else []
def doneL (a : Ans) (k : Nat) : List UInt8 := a.r.items.flatMap vline ++ rowL k ++ cntL k a.r.num
theorem flat_len : ∀ l : List Itm, (∀ x ∈ l, x.good) → (l.flatMap vline).length ≤ 700 * l.length
  | [], _ => by simp
  | x :: l, h => by
    have h1 := flat_len l fun y hy => h y (by simp [hy])
    have h2 := vline_len (h x (by simp))
    simp only [List.flatMap_cons, List.length_append, List.length_cons]; omega
theorem flat_take {l : List Itm} {i : Nat} {x : Itm} (h : l[i]? = some x) : (l.take (i + 1)).flatMap vline = (l.take i).flatMap vline ++ vline x := by
  rw [List.take_add_one, h, List.flatMap_append]; simp

section
variable {L n : Nat} {n0 : Nat} {h0 : H} {a : Ans} {k B b1 : Nat}
end
end Go.Proofs.YthofbmfcpfibdaaDoor

namespace Go.Proofs.YthofbmfcpfibdaaDoor
open Go.Ev

theorem cat_str (t : TypeId) (c : Bool) (x : List UInt8) (s : ByteArray) (h : x.length + s.size ≤ 1000000) : binV Tryd.prog .add t c (sv x) (.string s) = some (sv (x ++ s.data.toList)) := by
  rw [str_sv]; exact cat_sv t c _ _ h
theorem strB_size (l : List Nat) : (strB l).size = l.length := by simp [strB, ByteArray.size]
theorem strB_list (l : List Nat) : (strB l).data.toList = l.map UInt8.ofNat := by simp [strB]
theorem arr_size (l : List UInt8) : (⟨l.toArray⟩ : ByteArray).size = l.length := by simp [ByteArray.size]
theorem arr_list (l : List UInt8) : (⟨l.toArray⟩ : ByteArray).data.toList = l := rfl
theorem list_size (s : ByteArray) : s.data.toList.length = s.size := rfl
theorem text20 (L m : Nat) {z : Nat} (hz : z < 18446744073709551616) (h : H) : Sp (CF L (m + 20)) 52 [.int .u64 (z : Int)] h fun r h' => r = .string ⟨(dec z).toArray⟩ ∧ h' = h := text_law L 19 z m (by omega) hz h
theorem ref_line (L m : Nat) {h : H} {tm : T Value} {b5 : Nat} {x : Itm} {acc : List UInt8} (g : x.good) (hb : Has h b5 (.rw x.cells (some 48))) (t5 : tg tm 5 = .pointer (some ⟨b5, 0, none⟩)) (t3 : tg tm 3 = sv acc) (ha : acc.length ≤ 100000) :
    C ⟨r26_25⟩ (CF L (m + 20)) L tm h fun e tm' h' => e = .norm ∧ tm' = T.set tm 3 (sv (acc ++ vline x)) ∧ Keep nobody h h' := fun K hK => by
  have k0 := keep_room h 35
  have hb1 := hb.keep0 k0
  have r1 := g.ok.flags
  have r2 := g.till
  have r3 := g.ok.uniq
  have r4 := g.val
  have r5 := g.key
  have d1 := dec_len 19 x.flags.toNat (by omega)
  have d2 := dec_len 19 x.till.toNat (by omega)
  have d3 := dec_len 19 x.uniq.toNat (by omega)
  have d4 := dec_len 19 x.val.size (by omega)
  generalize hh : (⟨h.objs, h.next + 35⟩ : H) = h1 at *
  have ld : ∀ o s, loadOne h1 (.pointer (some ⟨b5, o, s⟩)) = [Value.string x.key, .string x.val, .int .u32 x.flags, .int .i64 x.till, .int .u64 ((x.uniq.toNat : Nat) : Int)][o]? := fun o s => by
    rw [loadOne_has hb1 rfl, Itm.cells, show ((x.uniq.toNat : Nat) : Int) = x.uniq by have := g.ok.uniq; omega]
  have fl : toInt .u64 (.int .u32 x.flags) = some (.int .u64 ((x.flags.toNat : Nat) : Int)) := by
    rw [toInt_int, show x.flags = ((x.flags.toNat : Nat) : Int) by omega, wrap_u64 _ (by omega)]; rfl
  have ti : toInt .u64 (.int .i64 x.till) = some (.int .u64 ((x.till.toNat : Nat) : Int)) := by
    rw [toInt_int, show x.till = ((x.till.toNat : Nat) : Int) by omega, wrap_u64 _ (by omega)]; rfl
  have vl : toInt .u64 (.int .i64 (x.val.size : Int)) = some (.int .u64 (x.val.size : Int)) := by
    rw [toInt_int, wrap_u64 _ (by omega)]
  have hs1 := hO_self (veq_str x.val)
  have hs0 := hO_self (veq_str x.key)
  have hs3 := hO_self (veq_int .i64 x.till)
  have hs4 := hO_self (veq_int .u64 ((x.uniq.toNat : Nat) : Int))
  show (⟨r26_25⟩ : Box CodeT).f (CF L (m + 20)) L tm [] h K = true
  simp (disch := (simp only [List.length_append, strB_size, strB_list, arr_size, arr_list, list_size, List.length_map, List.length_cons, List.length_nil]; omega)) only [r26_25, hh, EV, t5, t3, ld, fl, ti, vl, lenStr_string, cat_str]
  refine text20 L m (by omega) h1 _ fun v1 h2 hv => ?_
  obtain ⟨rfl, rfl⟩ := hv
  simp (disch := (simp only [List.length_append, strB_size, strB_list, arr_size, arr_list, list_size, List.length_map, List.length_cons, List.length_nil]; omega)) only [EV, ld, hs0, hs1, hs3, hs4, Bool.and_true, cat_str]
  refine text20 L m (by omega) h2 _ fun v2 h3 hv => ?_
  obtain ⟨rfl, rfl⟩ := hv
  simp (disch := (simp only [List.length_append, strB_size, strB_list, arr_size, arr_list, list_size, List.length_map, List.length_cons, List.length_nil]; omega)) only [EV, ld, hs0, hs1, hs4, cat_str]
  refine text20 L m (by omega) h3 _ fun v3 h4 hv => ?_
  obtain ⟨rfl, rfl⟩ := hv
  simp (disch := (simp only [List.length_append, strB_size, strB_list, arr_size, arr_list, list_size, List.length_map, List.length_cons, List.length_nil]; omega)) only [EV, ld, hs0, hs1, cat_str]
  refine text20 L m (by omega) h4 _ fun v4 h5 hv => ?_
  obtain ⟨rfl, rfl⟩ := hv
  simp (disch := (simp only [List.length_append, strB_size, strB_list, arr_size, arr_list, list_size, List.length_map, List.length_cons, List.length_nil]; omega)) only [EV, ld, hs0, hs1, cat_str]
  refine hK _ _ _ ⟨rfl, ?_, k0⟩
  congr 1
  simp [vline, parts, joinR, VAL, strB_list]
end Go.Proofs.YthofbmfcpfibdaaDoor

namespace Go.Proofs.YthofbmfcpfibdaaDoor
open Go.Ev

structure May (a : Ans) : Prop where
  kind : 1 ≤ a.kind ∧ a.kind ≤ 7
  one : a.kind = 1 → (1 ≤ a.of ∧ a.of ≤ 11) ∧ (1 ≤ a.r.kind ∧ a.r.kind ≤ 7)
  few : a.r.items.length ≤ 8
  good : ∀ x ∈ a.r.items, x.err = 0
  key : a.key.size ≤ 32
theorem may_of {a : Ans} (h : mayB a = true) : May a := by
  unfold mayB at h
  simp only [Bool.and_eq_true] at h
  obtain ⟨⟨h1, h2⟩, _⟩ := h
  have hk : a.key.size ≤ 32 := by
    unfold keyB at h2
    split at h2
    · simp only [Bool.and_eq_true, decide_eq_true_eq] at h2; omega
    · simp only [decide_eq_true_eq] at h2; omega
  unfold bodyB at h1
  split at h1
  · rename_i hk1
    unfold resultB kindsB at h1
    simp only [Bool.and_eq_true, Bool.not_eq_true', Bool.or_eq_false_iff, decide_eq_false_iff_not] at h1
    obtain ⟨⟨⟨h3, h4⟩, h5⟩, h6⟩ := h1
    refine ⟨by omega, fun _ => by omega, by omega, fun x hx => ?_, hk⟩
    unfold goodItems at h6
    simpa using List.all_eq_true.1 h6 x hx
  · rename_i hk1
    unfold zeroB at h1
    simp only [Bool.and_eq_true, decide_eq_true_eq] at h1
    obtain ⟨⟨h3, h4⟩, ⟨⟨_, _⟩, h5⟩⟩ := h1
    have h6 : a.r.items.length = 0 := by omega
    refine ⟨by omega, fun e => absurd e hk1, by omega, fun x hx => ?_, hk⟩
    rw [List.length_eq_zero_iff.1 h6] at hx; cases hx
def sWelcome : ByteArray := strB [87, 69, 76, 67, 79, 77, 69]
def sUnknown : ByteArray := strB [85, 78, 75, 78, 79, 87, 78]
def sTracked : ByteArray := strB [84, 82, 65, 67, 75, 69, 68]
def sUntracked : ByteArray := strB [85, 78, 84, 82, 65, 67, 75, 69, 68]
/-- the lines of an answer, without the last end -/
def linesL (a : Ans) : List UInt8 :=
  if a.kind = 1 then (if a.r.kind = 1 then doneL a a.of.toNat else (wordN.getD a.r.kind.toNat (strB [])).data.toList)
  else if a.kind = 2 then (if a.yes = true then sWelcome else sUnknown).data.toList
  else if a.kind = 3 then (if a.yes = true then sTracked else sUntracked).data.toList
  else if a.kind = 4 then [80, 79, 78, 71]
  else if a.kind = 5 then [66, 89, 69]
  else if a.kind = 6 then [69, 82, 82, 79, 82]
  else [80, 85, 83, 72, 32] ++ a.key.data.toList
structure Ans.fit (a : Ans) : Prop where
  num : 0 ≤ a.r.num ∧ a.r.num < 18446744073709551616
  items : ∀ x ∈ a.r.items, x.ok
section
variable {L n : Nat} {h0 : H} {a : Ans} {b1 : Nat}
theorem ref_loop (hL : 1000 ≤ L) (hg : ∀ x ∈ a.r.items, x.good) (h8 : a.r.items.length ≤ 8) {h : H} {tm : T Value} (hi : ItemsAt h a.r.iv a.r.items) (b : Has h b1 (.rw a.cells (some 27))) (e1 : tg tm 1 = .pointer (some ⟨b1, 0, none⟩)) (t3 : tg tm 3 = sv []) (t4 : tg tm 4 = .int .i64 0) :
    C (loopB l26_26) (CF L (n + 20)) L tm h fun e tm' h' => e = .exit 1 ∧ tg tm' 3 = sv (a.r.items.flatMap vline) ∧ Keep nobody h h' ∧ tg tm' 1 = .pointer (some ⟨b1, 0, none⟩) := by
  refine C.loop (fun k tm h' => ∃ i : Nat, k = a.r.items.length - i ∧ i ≤ a.r.items.length ∧ tg tm 3 = sv ((a.r.items.take i).flatMap vline) ∧ Keep nobody h h' ∧ tg tm 1 = .pointer (some ⟨b1, 0, none⟩) ∧ tg tm 4 = .int .i64 (i : Int)) a.r.items.length (by omega) ⟨0, rfl, Nat.zero_le _, t3, .refl _ _, e1, t4⟩ fun k tm h' hh => ?_
  obtain ⟨i, hk, hii, t3, kp, e1, t4⟩ := hh
  have b' := b.keep0 kp
  have hi' := hi.keep0 kp
  have l3 : ∀ s, loadOne h' (.pointer (some ⟨b1, 3, s⟩)) = some a.r.iv := fun s => loadOne_has b' rfl
  refine C.seq (C.seq fun K hK => ?_)
  by_cases g : i < a.r.items.length
  · have g' : (i : Int) < (a.r.items.length : Int) := by omega
    obtain ⟨x, hx⟩ : ∃ x, a.r.items[i]? = some x := ⟨_, List.getElem?_eq_getElem g⟩
    have gx := hg x (List.mem_of_getElem? hx)
    obtain ⟨bb, o, ex, _, _, _, el⟩ := hi'.at hx
    simp only [EV, Nat.reduceAdd, r26_22, e1, l3, hi'.len, t4, decide_eq_true g']
    refine hK .norm _ _ (C.cond true (by simp only [↓reduceIte, EV]) (fun _ => C.skip (C.seq (C.block (C.seq fun K hK => ?_)))) fun g => by cases g)
    have st := store_new h' 5 none [(.string (strB [])), (.string (strB [])), (.int .u32 (0)), (.int .i64 (0)), (.int .u64 (0))] (some 48) x.v rfl rfl rfl
    have ka := keep_alloc h' (.rw [(.string (strB [])), (.string (strB [])), (.int .u32 (0)), (.int .i64 (0)), (.int .u64 (0))] (some 48)) (.rw x.cells (some 48))
    have ba := has_alloc h' (.rw [(.string (strB [])), (.string (strB [])), (.int .u32 (0)), (.int .i64 (0)), (.int .u64 (0))] (some 48)) (.rw x.cells (some 48))
    have ec : (Value.cells x.v).toList = x.cells := rfl
    rw [ec] at st
    simp only [↓reduceIte, ↓EW, EV, Nat.reduceAdd, Nat.reduceEqDiff, r26_24, e1, l3, t4, ex, el, ptrTo, st]
    generalize (h'.new (.rw [(.string (strB [])), (.string (strB [])), (.int .u32 (0)), (.int .i64 (0)), (.int .u64 (0))] (some 48))).put h'.next (.rw x.cells (some 48)) = h2 at *
    refine hK .norm _ _ ?_
    have hlen : ((a.r.items.take i).flatMap vline).length ≤ 700 * 8 := by
      have := flat_len (a.r.items.take i) fun x hx => hg x (List.mem_of_mem_take hx)
      rw [List.length_take] at this
      omega
    refine (ref_line L n (acc := (a.r.items.take i).flatMap vline) gx ba (by simp only [↓reduceIte, EV]) (by simp only [↓reduceIte, EV, Nat.reduceEqDiff, t3]) (by omega)).mono fun e tm' h3 hq => ?_
    obtain ⟨rfl, rfl, k3⟩ := hq
    intro K hK
    have w3 : IntKind.i64.wrap ((i : Int) + 1) = ((i + 1 : Nat) : Int) := by rw [wrap_big (by omega) (by omega)]; omega
    simp only [↓reduceIte, EV, Nat.reduceEqDiff, r26_23, t4, w3]
    refine hK .norm _ _ ⟨a.r.items.length - (i + 1), by omega, i + 1, rfl, by omega, ?_, (kp.then ka).then k3, ?_, ?_⟩
    · rw [flat_take hx]; simp only [↓reduceIte, EV, Nat.reduceEqDiff]
    all_goals simp only [↓reduceIte, EV, Nat.reduceEqDiff, e1]
  · have g' : ¬ (i : Int) < (a.r.items.length : Int) := by omega
    obtain rfl : i = a.r.items.length := by omega
    rw [List.take_length] at t3
    simp only [EV, Nat.reduceAdd, r26_22, e1, l3, hi'.len, t4, decide_eq_false g']
    refine hK .norm _ _ (C.cond false (by simp only [↓reduceIte, EV]) (fun g => by cases g) fun _ => C.exit ⟨rfl, by simp only [↓reduceIte, EV, Nat.reduceEqDiff, t3], kp, by simp only [↓reduceIte, EV, Nat.reduceEqDiff, e1]⟩)
end
theorem lines_law (L n : Nat) (hL : 1000 ≤ L) {a : Ans} {h : H} (hm : May a) (hf : a.fit) (hi : ItemsAt h a.r.iv a.r.items) (hones : ones a.r.cells = true) :
    Sp (CF L (n + 21)) 26 [a.v] h fun r h' => r = sv (linesL a) ∧ Keep nobody h h' := by
  refine Sp.body f26 (by simp) ?_
  unfold c26
  refine C.seq fun K hK => ?_
  have hc : (Value.cells a.v).toList = a.cells := rfl
  simp only [↓reduceIte, ↓EW, EV, r26_0, hc]
  have k1 := Keep.new h (.rw a.cells (some 27))
  have b1 := Has.new h (.rw a.cells (some 27))
  have hi1 := hi.keep0 k1
  generalize h.new (.rw a.cells (some 27)) = h1' at *
  have ld : ∀ o s, loadOne h1' (.pointer (some ⟨h.next, o, s⟩)) = a.cells[o]? := fun o s => loadOne_has b1 rfl
  refine hK .norm _ _ (C.seq ?_)
  have hk := hm.kind
  have : a.kind = 1 ∨ a.kind = 2 ∨ a.kind = 3 ∨ a.kind = 4 ∨ a.kind = 5 ∨ a.kind = 6 ∨ a.kind = 7 := by omega
  have hcell : a.cells = [.int .u8 a.kind, .int .u8 a.of, .int .u8 a.r.kind, a.r.iv, .int .u64 a.r.num, .bool a.yes, .string a.key] := rfl
  rcases this with e | e | e | e | e | e | e
  · obtain ⟨ho, hr⟩ := hm.one e
    intro K hK
    simp only [↓reduceIte, EV, Nat.reduceEqDiff, Int.reduceEq, seqC, skipC, blockC, condC, r26_1, r26_2, r26_6, r26_10, r26_12, r26_14, r26_16, ld, hcell, e]
    refine hK _ _ _ (C.seq (C.seq fun K hK => ?_))
    by_cases g : a.r.kind = 1
    · simp only [↓reduceIte, EV, Nat.reduceEqDiff, r26_18, ld, hcell, g]
      refine hK .norm _ _ (C.cond false (by simp only [↓reduceIte, EV]) (fun g => by cases g) fun _ => C.skip (C.seq fun K hK => ?_))
      simp only [r26_20]
      refine hK .norm _ _ (C.seq (C.seq fun K hK => ?_))
      simp only [r26_21]
      refine hK .norm _ _ (C.block ((ref_loop (n := n) hL (fun x hx => ⟨hf.items x hx, hm.good x hx⟩) hm.few hi1 b1 (by simp only [↓reduceIte, EV, Nat.reduceEqDiff]) (by simp only [↓reduceIte, EV, Nat.reduceEqDiff]; rfl) (by simp only [↓reduceIte, EV])).mono ?_))
      rintro e2 tm2 h2 ⟨rfl, t3, k2, t1⟩
      show if 1 = 1 then _ else _
      rw [if_pos rfl]
      have hg : ∀ x ∈ a.r.items, x.good := fun x hx => ⟨hf.items x hx, hm.good x hx⟩
      have fl := flat_len a.r.items hg
      have few := hm.few
      have b2 := b1.keep0 k2
      have ld2 : ∀ o s, loadOne h2 (.pointer (some ⟨h.next, o, s⟩)) = a.cells[o]? := fun o s => loadOne_has b2 rfl
      obtain ⟨k, hk⟩ : ∃ k : Nat, a.of = (k : Int) := ⟨a.of.toNat, by omega⟩
      have hk1 : 1 ≤ k ∧ k ≤ 11 := by omega
      obtain ⟨_, _, rr3, rr4⟩ := row_at hk1.1 hk1.2
      refine C.seq fun K hK => ?_
      simp only [EV, r26_26, t1, ld2, hcell, hk]
      refine row_law L (n + 19) k (by omega) h2 _ fun r h3 hq => ?_
      obtain ⟨rfl, k3⟩ := hq
      have c1 := cat_str 9 false (a.r.items.flatMap vline) (rowN.getD k (strB [])) (by have : (rowN.getD k (strB [])).size = (rowL k).length := rfl; omega)
      simp only [EV, t3, c1]
      have b3 := b2.keep0 k3
      have ld3 : ∀ o s, loadOne h3 (.pointer (some ⟨h.next, o, s⟩)) = a.cells[o]? := fun o s => loadOne_has b3 rfl
      refine hK .norm _ _ (C.seq (C.seq fun K hK => ?_))
      simp only [↓reduceIte, EV, Nat.reduceEqDiff, r26_27, t1, ld3, hcell, hk]
      refine ref_counts L (n + 19) _ h3 _ fun r h4 hq => ?_
      obtain ⟨rfl, rfl⟩ := hq
      have hlin : linesL a = doneL a k := by
        unfold linesL; rw [if_pos e, if_pos g, hk]; rfl
      have fin : ∀ (tm : T Value) (h6 : H), tg tm 3 = sv (doneL a k) → Keep nobody h h6 → C ⟨seqC ⟨r26_29⟩ retC⟩ (CF L (n + 20)) L tm h6 fun e tm h' => (e = .norm ∨ e = .ret) ∧ ∃ l, q26.f tm h' = some l ∧ resOf l = sv (linesL a) ∧ Keep nobody h h' := fun tm h6 t3 k6 => by
        refine C.seq fun K hK => ?_
        simp only [r26_29, t3]
        refine hK .norm _ _ (C.ret ⟨.inr rfl, _, rfl, ?_, k6⟩)
        rw [hlin]
        simp only [↓reduceIte, EV, resOf]
      by_cases gc : countsB (k : Int) = true
      · simp only [gc]
        refine hK .norm _ _ (C.cond true (by simp only [↓reduceIte, EV]) (fun _ => fun K hK => ?_) fun g => by cases g)
        have l4 : ∀ s, loadOne h4 (.pointer (some ⟨h.next, 4, s⟩)) = some (.int .u64 ((a.r.num.toNat : Nat) : Int)) := fun s => by
          rw [ld3, show ((a.r.num.toNat : Nat) : Int) = a.r.num by have := hf.num; omega]; rfl
        have e2 := dec_len 19 a.r.num.toNat (by have := hf.num; omega)
        have c2 := cat_str 9 true (a.r.items.flatMap vline ++ (rowN.getD k (strB [])).data.toList) (strB [32]) (by rw [List.length_append]; have : (rowN.getD k (strB [])).data.toList.length = (rowL k).length := rfl; rw [strB_size]; simp only [List.length_cons, List.length_nil]; omega)
        simp only [↓reduceIte, EV, Nat.reduceAdd, Nat.reduceEqDiff, r26_28, t1, l4, c2]
        refine text20 L n (by have := hf.num; omega) h4 _ fun r h7 hq => ?_
        obtain ⟨rfl, rfl⟩ := hq
        have c3 := cat_str 9 false (a.r.items.flatMap vline ++ (rowN.getD k (strB [])).data.toList ++ (strB [32]).data.toList) ⟨(dec a.r.num.toNat).toArray⟩ (by rw [List.length_append, List.length_append]; have : (rowN.getD k (strB [])).data.toList.length = (rowL k).length := rfl; rw [strB_list, arr_size]; simp only [List.map_cons, List.map_nil, List.length_cons, List.length_nil]; omega)
        simp only [EV, c3]
        refine hK .norm _ _ (fin _ _ ?_ ((k1.then k2).then k3))
        simp only [↓reduceIte, EV]
        congr 1
        simp [doneL, cntL, gc, rowL, strB_list]
      · have gc' : countsB (k : Int) = false := by simpa using gc
        simp only [gc']
        refine hK .norm _ _ (C.cond false (by simp only [↓reduceIte, EV]) (fun g => by cases g) fun _ => C.skip (fin _ _ ?_ ((k1.then k2).then k3)))
        simp only [↓reduceIte, EV, Nat.reduceEqDiff]
        congr 1
        simp [doneL, cntL, gc', rowL]
    · obtain ⟨k, hk⟩ : ∃ k : Nat, a.r.kind = (k : Int) := ⟨a.r.kind.toNat, by omega⟩
      have gk : ¬ ((k : Int) = 1) := by omega
      simp only [↓reduceIte, EV, Nat.reduceEqDiff, r26_18, ld, hcell, hk, decide_eq_false gk]
      refine hK .norm _ _ (C.cond true (by simp only [↓reduceIte, EV]) (fun _ => C.seq fun K hK => ?_) fun g => by cases g)
      simp only [↓reduceIte, EV, Nat.reduceEqDiff, r26_19, ld, hcell, hk]
      refine word_law L (n + 19) k (by omega) h1' _ fun r h2 hq => ?_
      obtain ⟨rfl, k2⟩ := hq
      refine hK .norm _ _ (C.ret ⟨.inr rfl, _, rfl, ?_, k1.then k2⟩)
      have hlin : linesL a = (wordN.getD k (strB [])).data.toList := by
        unfold linesL; rw [if_pos e, if_neg g, hk]; rfl
      rw [hlin, ← str_sv]
      simp only [↓reduceIte, EV, resOf]
  · intro K hK
    have hlin : linesL a = (if a.yes = true then sWelcome else sUnknown).data.toList := by
      unfold linesL; rw [if_neg (by omega), if_pos e]
    rw [hlin, ← str_sv] at hK
    cases hy : a.yes with
    | true =>
      simp only [↓reduceIte, EV, Nat.reduceEqDiff, seqC, retC, blockC, condC, r26_1, r26_2, r26_3, r26_4, ld, hcell, e, hy]
      refine hK _ _ _ ⟨.inr rfl, _, rfl, ?_, k1⟩
      simp only [↓reduceIte, EV, resOf, hy]; rfl
    | false =>
      simp only [↓reduceIte, EV, Nat.reduceEqDiff, seqC, retC, skipC, blockC, condC, r26_1, r26_2, r26_3, r26_5, ld, hcell, e, hy]
      refine hK _ _ _ ⟨.inr rfl, _, rfl, ?_, k1⟩
      simp only [↓reduceIte, EV, resOf, hy]; rfl
  · intro K hK
    have hlin : linesL a = (if a.yes = true then sTracked else sUntracked).data.toList := by
      unfold linesL; rw [if_neg (by omega), if_neg (by omega), if_pos e]
    rw [hlin, ← str_sv] at hK
    cases hy : a.yes with
    | true =>
      simp only [↓reduceIte, EV, Nat.reduceEqDiff, Int.reduceEq, seqC, retC, blockC, condC, r26_1, r26_2, r26_6, r26_7, r26_8, ld, hcell, e, hy]
      refine hK _ _ _ ⟨.inr rfl, _, rfl, ?_, k1⟩
      simp only [↓reduceIte, EV, resOf, hy]; rfl
    | false =>
      simp only [↓reduceIte, EV, Nat.reduceEqDiff, Int.reduceEq, seqC, retC, skipC, blockC, condC, r26_1, r26_2, r26_6, r26_7, r26_9, ld, hcell, e, hy]
      refine hK _ _ _ ⟨.inr rfl, _, rfl, ?_, k1⟩
      simp only [↓reduceIte, EV, resOf, hy]; rfl
  · intro K hK
    have hlin : linesL a = [80, 79, 78, 71] := by
      unfold linesL; rw [if_neg (by omega), if_neg (by omega), if_neg (by omega), if_pos e]
    rw [hlin] at hK
    simp only [↓reduceIte, EV, Nat.reduceEqDiff, Int.reduceEq, seqC, retC, blockC, condC, r26_1, r26_2, r26_6, r26_10, r26_11, ld, hcell, e]
    refine hK _ _ _ ⟨.inr rfl, _, rfl, ?_, k1⟩
    simp only [↓reduceIte, EV, resOf]; rfl
  · intro K hK
    have hlin : linesL a = [66, 89, 69] := by
      unfold linesL; rw [if_neg (by omega), if_neg (by omega), if_neg (by omega), if_neg (by omega), if_pos e]
    rw [hlin] at hK
    simp only [↓reduceIte, EV, Nat.reduceEqDiff, Int.reduceEq, seqC, retC, blockC, condC, r26_1, r26_2, r26_6, r26_10, r26_12, r26_13, ld, hcell, e]
    refine hK _ _ _ ⟨.inr rfl, _, rfl, ?_, k1⟩
    simp only [↓reduceIte, EV, resOf]; rfl
  · intro K hK
    have hlin : linesL a = [69, 82, 82, 79, 82] := by
      unfold linesL; rw [if_neg (by omega), if_neg (by omega), if_neg (by omega), if_neg (by omega), if_neg (by omega), if_pos e]
    rw [hlin] at hK
    simp only [↓reduceIte, EV, Nat.reduceEqDiff, Int.reduceEq, seqC, retC, blockC, condC, r26_1, r26_2, r26_6, r26_10, r26_12, r26_14, r26_15, ld, hcell, e]
    refine hK _ _ _ ⟨.inr rfl, _, rfl, ?_, k1⟩
    simp only [↓reduceIte, EV, resOf]; rfl
  · intro K hK
    have hlin : linesL a = [80, 85, 83, 72, 32] ++ a.key.data.toList := by
      unfold linesL; rw [if_neg (by omega), if_neg (by omega), if_neg (by omega), if_neg (by omega), if_neg (by omega), if_neg (by omega)]
    rw [hlin] at hK
    have c1 : binV Tryd.prog .add 9 true (.string (strB [80, 85, 83, 72, 32])) (.string a.key) = some (sv ([80, 85, 83, 72, 32] ++ a.key.data.toList)) := cat_str 9 true [80, 85, 83, 72, 32] a.key (by have := hm.key; simp only [List.length_cons, List.length_nil]; omega)
    simp only [↓reduceIte, EV, Nat.reduceEqDiff, Int.reduceEq, seqC, retC, blockC, condC, r26_1, r26_2, r26_6, r26_10, r26_12, r26_14, r26_16, r26_17, ld, hcell, e, c1]
    refine hK _ _ _ ⟨.inr rfl, _, rfl, ?_, k1⟩
    simp only [↓reduceIte, EV, resOf]
end Go.Proofs.YthofbmfcpfibdaaDoor

namespace Go.Proofs.YthofbmfcpfibdaaDoor
open Go.Ev

/-! ### Write -/
end Go.Proofs.YthofbmfcpfibdaaDoor

namespace Go.Proofs.YthofbmfcpfibdaaDoor
open Go.Ev

end Go.Proofs.YthofbmfcpfibdaaDoor

namespace Go.Proofs.YthofbmfcpfibdaaDoor
open Go.Ev

/-! ### the document's Write -/
section
variable {L n : Nat} {a : Ans} {b1 : Nat}
end
end Go.Proofs.YthofbmfcpfibdaaDoor

namespace Go.Proofs.YthofbmfcpfibdaaDoor
open Go.Ev

end Go.Proofs.YthofbmfcpfibdaaDoor

set_option maxRecDepth 100000
namespace Go.Proofs.YthofbmfcpfibdaaDoor
open Go.Ev Go.RowKit

theorem u5 : Tryd.prog.underlying 5 = some (.int .u8) := by kernel_rfl
theorem u3 : Tryd.prog.underlying 3 = some (.int .i64) := by kernel_rfl
theorem u4 : Tryd.prog.underlying 4 = some .bool := by kernel_rfl
theorem m25 : (fieldsOf Tryd.prog 25).toList.map (fun f => (f.type, f.offset)) = [(5, 0), (22, 1), (23, 2)] := by kernel_rfl
theorem s5 : Tryd.prog.cellsOf 5 = 1 := by kernel_rfl
section
variable {H : Type} {enc : TypeId × Value → H} {w : World} {base : Nat} {sp : Nat → Bool} {held : Bool}

end

section
variable {H : Type} {enc : TypeId × Value → H}
end
end Go.Proofs.YthofbmfcpfibdaaDoor
