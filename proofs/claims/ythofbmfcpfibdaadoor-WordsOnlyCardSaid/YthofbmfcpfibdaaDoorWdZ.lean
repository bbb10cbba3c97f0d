import Derived.Test.YthofbmfcpfibdaaDoorWdV
set_option linter.unusedSimpArgs false
set_option linter.unusedVariables false
namespace Go.Proofs.YthofbmfcpfibdaaDoor
open Go.Ev

/-! ### plain keys, on both sides -/
def pb (b : UInt8) : Bool := decide (33 ≤ b.toNat) && decide (b.toNat ≤ 126)
def plainL (l : List UInt8) : Bool := l.all pb
theorem get_at {s : ByteArray} {i : Nat} {b : UInt8} (h : s.data.toList[i]? = some b) : s.get! i = b := by
  obtain ⟨d⟩ := s
  show d[i]! = b
  have h' : d[i]? = some b := by simpa using h
  rw [getElem!_def, h']
theorem dec_low {s : ByteArray} {i : Nat} (h : (s.get! i).toNat < 128) : Utf8.decode s i = ((s.get! i).toNat, 1) := by
  unfold Utf8.decode
  simp only [Nat.add_zero]
  rw [if_pos h]
theorem dec_high {s : ByteArray} {i : Nat} (h : 128 ≤ (s.get! i).toNat) : 128 ≤ (Utf8.decode s i).1 := by
  unfold Utf8.decode
  simp only [Nat.add_zero]
  rw [if_neg (by omega)]
  repeat' split
  all_goals simp only [Utf8.runeError]
  all_goals first | omega | (simp only [ge_iff_le, Bool.and_eq_true, decide_eq_true_eq] at *; omega)
theorem bool_eq : ∀ a b : Bool, binV Tryd.prog .eql 4 false (.bool a) (.bool b) = some (.bool (a == b))
  | true, true => by kernel_rfl
  | true, false => by kernel_rfl
  | false, true => by kernel_rfl
  | false, false => by kernel_rfl
theorem rune_law (L n : Nat) (c : Nat) (h : H) : Sp (CF L (n + 1)) 39 [.int .i32 (c : Int)] h fun r h' => r = .bool (decide ((c : Int) < 33) || decide ((126 : Int) < (c : Int))) ∧ h' = h := by
  refine Sp.body f39 (by simp) ?_
  unfold c39
  refine C.seq fun K hK => ?_
  simp only [EV, r39_0]
  refine hK .norm _ _ (C.seq fun K hK => ?_)
  by_cases g1 : (c : Int) < 33
  · simp only [↓reduceIte, EV, Nat.reduceEqDiff, r39_1, decide_eq_true g1]
    refine hK _ _ _ (C.ret ⟨.inr rfl, _, rfl, ?_, rfl⟩)
    simp only [↓reduceIte, EV, resOf]
    rw [decide_eq_true g1]; rfl
  · simp only [↓reduceIte, ↓EW, EV, Nat.reduceEqDiff, r39_1, decide_eq_false g1]
    refine hK _ _ _ (C.ret ⟨.inr rfl, _, rfl, ?_, rfl⟩)
    simp only [↓reduceIte, EV, resOf]
    rw [decide_eq_false g1]; rfl
theorem nextStr_some {h : H} {s : ByteArray} {pos : Nat} {put : AObj → H} {K : KV} (hp : pos < s.size) : nextStr h s pos put K = K (.tuple #[.bool true, .int .i64 (Int.ofNat pos), .int .i32 (Int.ofNat (Utf8.decode s pos).1)]) (put (.sit s (pos + (Utf8.decode s pos).2))) := by
  unfold nextStr
  rw [Nat.ble_eq_true_of_le hp]
theorem nextStr_none {h : H} {s : ByteArray} {pos : Nat} {put : AObj → H} {K : KV} (hp : ¬ pos < s.size) : nextStr h s pos put K = K (.tuple #[.bool false]) h := by
  unfold nextStr
  rw [show Nat.ble (pos + 1) s.size = false by rw [Bool.eq_false_iff]; intro e; exact hp (Nat.le_of_ble_eq_true e)]
theorem tup3 (i : Nat) (a b c : Value) : tupNth i (.tuple #[a, b, c]) = [a, b, c][i]? := tupNth_tuple i [a, b, c]
theorem tup1 (i : Nat) (a : Value) : tupNth i (.tuple #[a]) = [a][i]? := tupNth_tuple i [a]
theorem runes_law (L n : Nat) {s : ByteArray} (hs : s.size < L) (h0 : H) :
    Sp (CF L (n + 2)) 65 [.string s, .func (.func 39) #[] #[], .bool true] h0 fun r h' => (∃ i : Int, r = .int .i64 i ∧ (i < 0 ↔ plainL s.data.toList = true)) ∧ Keep nobody h0 h' := by
  have hsl : s.size = s.data.toList.length := rfl
  refine Sp.body f65 (by simp) ?_
  unfold c65
  refine C.seq fun K hK => ?_
  simp only [EV, Nat.reduceAdd, r65_0]
  refine hK .norm _ _ (C.seq (C.seq fun K hK => ?_))
  simp only [↓reduceIte, EV, Nat.reduceEqDiff, r65_1, rangeStr]
  have k1 := Keep.new h0 (.sit s 0)
  have b1 := Has.new h0 (.sit s 0)
  generalize h0.new (.sit s 0) = h1 at *
  refine hK _ _ _ (C.block ?_)
  refine (C.loop (L := L) (fun k tm h' => ∃ pos, k = s.size - pos ∧ pos ≤ s.size ∧ tg tm 1 = .func (.func 39) #[] #[] ∧ tg tm 2 = .bool true ∧ tg tm 10 = .pointer (some ⟨h0.next, 0, none⟩) ∧ Has h' h0.next (.sit s pos) ∧ (s.data.toList.take pos).all pb = true ∧ Keep nobody h0 h') s.size hs ⟨0, rfl, Nat.zero_le _, by simp only [↓reduceIte, EV, Nat.reduceEqDiff], by simp only [↓reduceIte, EV, Nat.reduceEqDiff], by simp only [↓reduceIte, EV], b1, rfl, k1⟩ fun k tm h' hi => ?_ :
    C (loopB l65_6) _ L _ h1 fun e tm' h' => Keep nobody h0 h' ∧ (e = .exit 0 ∧ plainL s.data.toList = true ∨ e = .ret ∧ ∃ i : Int, tg tm' 6 = .int .i64 i ∧ 0 ≤ i ∧ plainL s.data.toList = false)).mono ?_
  · obtain ⟨pos, hk, hp, t1, t2, t10, b, hall, kp⟩ := hi
    refine C.seq fun K hK => ?_
    have hn : ∀ K : KV, nextV true h' (tg tm 10) K = nextStr h' s pos (h'.put h0.next) K := fun K => by
      rw [t10]
      simp only [nextV, b.2]
    by_cases g : pos < s.size
    · obtain ⟨c, hc⟩ : ∃ c, s.data.toList[pos]? = some c := ⟨_, List.getElem?_eq_getElem (by omega)⟩
      have hget := get_at hc
      simp only [r65_2, hn, nextStr_some g, tup3, EV]
      refine hK _ _ _ (C.seq (C.cond true (by simp only [↓reduceIte, EV]) (fun _ => C.skip (C.block (C.seq fun K hK => ?_))) fun g => by cases g))
      simp only [↓reduceIte, EV, Nat.reduceEqDiff, r65_3, tup3]
      refine hK _ _ _ (C.seq fun K hK => ?_)
      have k2 := Keep.put h' h0.next (.sit s (pos + (Utf8.decode s pos).2))
      have b2 := Has.put (x := .sit s (pos + (Utf8.decode s pos).2)) b.1
      have k3 : Keep nobody h0 (h'.put h0.next (.sit s (pos + (Utf8.decode s pos).2))) := kp.trans k2 fun k hk e => by omega
      generalize h'.put h0.next (.sit s (pos + (Utf8.decode s pos).2)) = h2 at *
      simp only [↓reduceIte, EV, Nat.reduceEqDiff, r65_4, t1, t2, funcArgs, goCall]
      refine rune_law L n _ h2 _ fun r h3 hq => ?_
      obtain ⟨rfl, rfl⟩ := hq
      simp only [EV, bool_eq]
      by_cases gp : pb c = true
      · have gp' := gp
        unfold pb at gp'
        simp only [Bool.and_eq_true, decide_eq_true_eq] at gp'
        have hd : Utf8.decode s pos = (c.toNat, 1) := by rw [dec_low (by rw [hget]; omega), hget]
        rw [hd] at b2 ⊢
        have e1 : (decide ((c.toNat : Int) < 33) || decide ((126 : Int) < (c.toNat : Int))) = false := by
          rw [decide_eq_false (by omega), decide_eq_false (by omega)]; rfl
        simp only [e1]
        refine hK _ _ _ (C.cond false (by simp only [↓reduceIte, EV]; rfl) (fun g => by cases g) fun _ => C.skip ⟨s.size - (pos + 1), by omega, pos + 1, rfl, by omega, by simp only [↓reduceIte, EV, Nat.reduceEqDiff, t1], by simp only [↓reduceIte, EV, Nat.reduceEqDiff, t2], by simp only [↓reduceIte, EV, Nat.reduceEqDiff, t10], b2, ?_, k3⟩)
        rw [List.take_add_one, List.all_append, hall, hc]
        simp [gp]
      · have gp' : pb c = false := by simpa using gp
        have hd : (decide ((((Utf8.decode s pos).1 : Nat) : Int) < 33) || decide ((126 : Int) < (((Utf8.decode s pos).1 : Nat) : Int))) = true := by
          by_cases hc8 : c.toNat < 128
          · rw [dec_low (by rw [hget]; exact hc8), hget]
            unfold pb at gp'
            rw [Bool.and_eq_false_iff, decide_eq_false_iff_not, decide_eq_false_iff_not] at gp'
            simp only [Bool.or_eq_true, decide_eq_true_eq]
            omega
          · have := dec_high (s := s) (i := pos) (by rw [hget]; omega)
            simp only [Bool.or_eq_true, decide_eq_true_eq]
            omega
        simp only [Int.ofNat_eq_natCast, hd]
        refine hK _ _ _ (C.cond true (by simp only [↓reduceIte, EV]; rfl) (fun _ => C.seq fun K hK => ?_) fun g => by cases g)
        simp only [↓reduceIte, EV, Nat.reduceEqDiff, r65_5]
        refine hK _ _ _ (C.ret ⟨k3, .inr ⟨rfl, (pos : Int), by simp only [↓reduceIte, EV], by omega, ?_⟩⟩)
        unfold plainL
        rw [List.all_eq_false]
        exact ⟨c, List.mem_of_getElem? hc, by simp [gp']⟩
    · simp only [r65_2, hn, nextStr_none g, tup1, EV]
      refine hK _ _ _ (C.seq (C.cond false (by simp only [↓reduceIte, EV]) (fun g => by cases g) fun _ => C.exit ⟨kp, .inl ⟨rfl, ?_⟩⟩))
      rw [List.take_of_length_le (by omega)] at hall
      exact hall
  · rintro e tm' h' ⟨kp, (⟨rfl, hp⟩ | ⟨rfl, i, t6, hi, hp⟩)⟩
    · show if 0 = 0 then _ else _
      rw [if_pos rfl]
      refine C.seq fun K hK => ?_
      simp only [r65_6]
      refine hK _ _ _ (C.ret ⟨.inr rfl, _, rfl, ⟨-1, by simp only [↓reduceIte, EV, resOf], by simp [hp]⟩, kp⟩)
    · exact ⟨.inr rfl, _, rfl, ⟨i, by simp only [resOf, t6], by rw [hp]; simp; omega⟩, kp⟩
theorem plain_law (L n : Nat) {s : ByteArray} (hs : s.size < L) (h0 : H) :
    Sp (CF L (n + 4)) 18 [.string s] h0 fun r h' => r = .bool (plainL s.data.toList) ∧ Keep nobody h0 h' := by
  refine Sp.body f18 (by simp) ?_
  unfold c18
  refine C.seq fun K hK => ?_
  simp only [EV, r18_0]
  refine hK .norm _ _ (C.seq fun K hK => ?_)
  simp only [↓reduceIte, EV, Nat.reduceEqDiff, r18_1]
  have h38 : Sp (CF L (n + 3)) 38 [.string s, .func (.func 39) #[] #[]] h0 fun r h' => (∃ i : Int, r = .int .i64 i ∧ (i < 0 ↔ plainL s.data.toList = true)) ∧ Keep nobody h0 h' := by
    refine Sp.body f38 (by simp) ?_
    unfold c38
    refine C.seq fun K hK => ?_
    simp only [EV, Nat.reduceAdd, r38_0]
    refine hK .norm _ _ (C.seq fun K hK => ?_)
    simp only [↓reduceIte, EV, Nat.reduceEqDiff, r38_1]
    refine runes_law L n hs h0 _ fun r h' hq => ?_
    obtain ⟨⟨i, rfl, hi⟩, kp⟩ := hq
    refine hK _ _ _ (C.ret ⟨.inr rfl, _, rfl, ⟨i, ?_, hi⟩, kp⟩)
    simp only [↓reduceIte, EV, resOf]
  refine h38 _ fun r h' hq => ?_
  obtain ⟨⟨i, rfl, hi⟩, kp⟩ := hq
  simp only [EV]
  refine hK _ _ _ (C.ret ⟨.inr rfl, _, rfl, ?_, kp⟩)
  simp only [↓reduceIte, EV, resOf]
  congr 1
  rw [Bool.eq_iff_iff, decide_eq_true_iff]; exact hi
end Go.Proofs.YthofbmfcpfibdaaDoor

namespace Go.Proofs.YthofbmfcpfibdaaDoor
open Go.Ev

theorem ixstr {s : ByteArray} {i : Nat} {c : UInt8} (h : s.data.toList[i]? = some c) : indexStr (.string s) (.int .i64 (i : Int)) = some (.int .u8 (c.toNat : Int)) := by
  simp only [indexStr, asNat_nat, nth_eq, h]
  rfl
end Go.Proofs.YthofbmfcpfibdaaDoor

namespace Go.Proofs.YthofbmfcpfibdaaDoor
open Go.Ev

/-! ### strings.Builder -/
theorem f78 : funcB Tryd.prog (maskOf masks) outside NG 78 = ⟨fun _ _ args h K => xK (xVal NG .same h args) K⟩ := by kernel_rfl
theorem f86 : funcB Tryd.prog (maskOf masks) outside NG 86 = ⟨fun _ _ args h K => xK (xVal NG (.noZero 5) h args) K⟩ := by kernel_rfl
theorem callF_succ {P : Program} {Sf : Nat → Nat} {X : List (Nat × XK)} {NG L n f : Nat} {args : List Value} {h : H} {K : KV} : callF P Sf X NG L (n + 1) f args h K = (funcB P Sf X NG f).f (callF P Sf X NG L n) L args h K := rfl
theorem same_law (L n : Nat) (v : Value) (h : H) : Sp (CF L (n + 1)) 78 [v] h fun r h' => r = v ∧ h' = h := fun K hK => by
  unfold CF
  rw [callF_succ, f78]
  exact hK v h ⟨rfl, rfl⟩
theorem xNoZero (NG m : Nat) (hm : m ≤ 281474976710656) (h : H) : xVal NG (.noZero 5) h [.int .i64 (m : Int)] = some (.slice (some ⟨h.next, 0, none⟩) m (opCap m 1), h.new (.op [] 1 (some 5))) := by
  unfold xVal
  simp only
  show (match Nat.ble m 281474976710656 with | true => _ | false => none) = _
  rw [Nat.ble_eq_true_of_le hm]
theorem noZero_law (L n : Nat) (m : Nat) (hm : m ≤ 281474976710656) (h : H) : Sp (CF L (n + 1)) 86 [.int .i64 (m : Int)] h fun r h' => (∃ cap, Nat.ble OPEN cap = true ∧ Nat.beq (szOf cap) 1 = true ∧ r = .slice (some ⟨h.next, 0, none⟩) m cap) ∧ h' = h.new (.op [] 1 (some 5)) := fun K hK => by
  unfold CF
  rw [callF_succ, f86]
  have e := xNoZero NG m hm h
  have o1 := opCap_open m
  have o2 := opCap_size m
  generalize opCap m 1 = cap at e o1 o2
  simp only [e, xK]
  exact hK _ _ ⟨⟨cap, o1, o2, rfl⟩, rfl⟩

/-- a row of bytes that a builder holds -/
def OpR (h : H) (v : Value) (l : List UInt8) : Prop := (v = .slice none 0 0 ∧ l = []) ∨ ∃ b cap, v = .slice (some ⟨b, 0, none⟩) l.length cap ∧ Nat.ble OPEN cap = true ∧ Nat.beq (szOf cap) 1 = true ∧ Has h b (.op (l.map bv) 1 (some 5))
theorem OpR.keep {S : Nat → Prop} {h h' : H} {v : Value} {l : List UInt8} (a : OpR h v l) (k : Keep S h h') (hn : ∀ b, blk v b → ¬ S b) : OpR h' v l := by
  rcases a with a | ⟨b, cap, rfl, h1, h2, h3⟩
  · exact .inl a
  · exact .inr ⟨b, cap, rfl, h1, h2, h3.keep k (hn b (by simp))⟩
theorem OpR.lt {h : H} {v : Value} {l : List UInt8} (a : OpR h v l) {b : Nat} (hb : blk v b) : b < h.next := by
  rcases a with ⟨rfl, _⟩ | ⟨b', cap, rfl, h1, h2, h3⟩
  · simp at hb
  · simp at hb; subst hb; exact h3.1
theorem tyIf_same : tyIf 5 0 (some 5) = some 5 := rfl
theorem grow_opr {S : Nat → Prop} {h h0 : H} {l m : List UInt8} (h1 : h0.next = h.next) (hk : Keep S h h0) : ∃ v' h', grow h0 (l.map bv) (m.map bv) (l.length + m.length) 1 (some 5) = some (v', h') ∧ OpR h' v' (l ++ m) ∧ Keep S h h' ∧ (∀ b, blk v' b → h.next ≤ b) := by
  refine ⟨_, _, rfl, ?_, hk.then (.new _ _), fun b hb => by simp at hb; omega⟩
  refine .inr ⟨h0.next, _, by rw [← List.length_append], opCap_open _, opCap_size _, ?_⟩
  rw [← List.map_append]; exact .new _ _
theorem append_opr {h : H} {v x : Value} {l m : List UInt8} (a : OpR h v l) (hx : Ev.Src h x m) (hsz : l.length + m.length ≤ 140737488355328) :
    ∃ v' h', appendV 5 1 1 h v x = some (v', h') ∧ OpR h' v' (l ++ m) ∧ Keep (blk v) h h' ∧ (∀ b, blk v' b → blk v b ∨ h.next ≤ b) := by
  by_cases h0 : m.length = 0
  · have : m = [] := List.length_eq_zero_iff.1 h0
    subst this
    have h1 : (∃ s l' c, v = .slice s l' c ∧ l' ≤ c) := by
      rcases a with ⟨rfl, _⟩ | ⟨b, cap, rfl, c1, _, hb⟩
      · exact ⟨_, _, _, rfl, Nat.le_refl _⟩
      · refine ⟨_, _, _, rfl, ?_⟩
        have := Nat.le_of_ble_eq_true c1; unfold OPEN at this
        have : l.length ≤ 140737488355328 := by simpa using hsz
        omega
    obtain ⟨s, l', c, rfl, h2⟩ := h1
    refine ⟨_, h, ?_, by simpa using a, .refl _ _, fun b hb => .inl hb⟩
    rw [appendV_eq hx]
    simp only [List.length_nil, appTo, Nat.ble_eq_true_of_le h2]
  · have hp : 0 < m.length := by omega
    rcases a with ⟨rfl, rfl⟩ | ⟨b, cap, rfl, c1, c2, hb⟩
    · rw [appendV_eq hx, appTo_none hp (by simpa using hsz)]
      obtain ⟨v', h', e1, e2, e3, e4⟩ := grow_opr (h := h) (h0 := h) (l := []) (m := m) rfl (Keep.refl (blk (.slice none 0 0)) h)
      exact ⟨v', h', e1, e2, e3, fun b hb => .inr (e4 b hb)⟩
    · obtain ⟨y, ys, rfl⟩ : ∃ y ys, m = y :: ys := List.exists_cons_of_length_pos hp
      rw [appendV_eq hx, appTo_open hp hsz c1, List.map_cons, appOpen_end hb (ones_bv (y :: ys)) c2, ← List.map_cons, tyIf_same]
      obtain ⟨v', h', e1, e2, e3, e4⟩ := grow_opr (h := h) (h0 := h.del b) (l := l) (m := y :: ys) rfl (S := blk (.slice (some ⟨b, 0, none⟩) l.length cap)) ((Keep.del h b).mono fun k _ e => by simp [e])
      exact ⟨v', h', e1, e2, e3, fun b hb => .inr (e4 b hb)⟩

/-- what stands in blocks from n0 on may change -/
def From (n0 : Nat) : Nat → Prop := fun b => n0 ≤ b
/-- a builder in the making at block B; all its blocks stand from n0 on -/
def Bld (n0 : Nat) (h : H) (B : Nat) (l : List UInt8) : Prop :=
  ∃ p v, Has h B (.rw [p, v] (some 74)) ∧ (p = .pointer none ∨ p = .pointer (some ⟨B, 0, none⟩)) ∧ OpR h v l ∧ n0 ≤ B ∧ ∀ b, blk v b → n0 ≤ b ∧ b ≠ B
theorem Bld.keep {n0 : Nat} {S : Nat → Prop} {h h' : H} {B : Nat} {l : List UInt8} (a : Bld n0 h B l) (k : Keep S h h') (hs : ∀ b, S b → h.next ≤ b) : Bld n0 h' B l := by
  obtain ⟨p, v, h1, h2, h3, h4, h5⟩ := a
  exact ⟨p, v, h1.keep k fun s => by have := hs _ s; have := h1.1; omega, h2, h3.keep k fun b hb s => by have := hs _ s; have := h3.lt hb; omega, h4, h5⟩
theorem Bld.fresh {n0 : Nat} (h : H) (hn : n0 ≤ h.next) : Bld n0 (h.new (.rw [.pointer none, .slice none 0 0] (some 74))) h.next [] :=
  ⟨_, _, Has.new _ _, .inl rfl, .inl ⟨rfl, rfl⟩, hn, fun b hb => by simp at hb⟩

theorem ptr_none : binV Tryd.prog .eql 72 true (.pointer none) (.pointer none) = some (.bool true) := by kernel_rfl
theorem ptr_some (a : Addr) : binV Tryd.prog .eql 72 true (.pointer (some a)) (.pointer none) = some (.bool false) := by kernel_rfl
theorem ptr_self (B : Nat) : binV Tryd.prog .neq 72 false (.pointer (some ⟨B, 0, none⟩)) (.pointer (some ⟨B, 0, none⟩)) = some (.bool false) := by
  have e : binV Tryd.prog .neq 72 false (.pointer (some ⟨B, 0, none⟩)) (.pointer (some ⟨B, 0, none⟩)) = boolRes .neq (match sameAt ⟨B, 0, none⟩ ⟨B, 0, none⟩ with | some r => some r | none => none) := by kernel_rfl
  rw [e]
  have : sameAt ⟨B, 0, none⟩ ⟨B, 0, none⟩ = some true := by
    unfold sameAt
    simp only [Nat.beq_refl]
    rfl
  rw [this]; rfl
theorem nilChk_some (a : Addr) : nilChk (.pointer (some a)) = some (.pointer (some a)) := rfl
theorem copyCheck_law (L n : Nat) {h : H} {B : Nat} {p v : Value} (hb : Has h B (.rw [p, v] (some 74))) (hp : p = .pointer none ∨ p = .pointer (some ⟨B, 0, none⟩)) :
    Sp (CF L (n + 2)) 66 [.pointer (some ⟨B, 0, none⟩)] h fun r h' => Has h' B (.rw [.pointer (some ⟨B, 0, none⟩), v] (some 74)) ∧ Keep (· = B) h h' := by
  refine Sp.body f66 (by simp) ?_
  unfold c66
  refine C.seq fun K hK => ?_
  have l0 : ∀ s, loadOne h (.pointer (some ⟨B, 0, s⟩)) = some p := fun s => loadOne_has hb rfl
  rcases hp with rfl | rfl
  · simp only [↓reduceIte, EV, r66_0, nilChk_some, l0, ptr_none]
    refine hK .norm _ _ (C.cond true (by simp only [↓reduceIte, EV]) (fun _ => fun K hK => ?_) fun g => by cases g)
    have e1 : ptrUns h (.pointer (some ⟨B, 0, none⟩)) = some (.pointer (some ⟨B, 0, none⟩)) := by
      simp only [ptrUns, hb.cells]; rfl
    simp only [↓reduceIte, EV, Nat.reduceEqDiff, r66_1, e1]
    refine same_law L n _ h _ fun r h' hq => ?_
    obtain ⟨rfl, rfl⟩ := hq
    have e2 : unsPtr 74 2 h' (.pointer (some ⟨B, 0, none⟩)) = some (.pointer (some ⟨B, 0, none⟩)) := by
      simp only [unsPtr, hb.2]; rfl
    have s1 := store_one (s := none) (v := .pointer (some ⟨B, 0, none⟩)) hb rfl rfl (show putAt [.pointer none, v] 0 [.pointer (some ⟨B, 0, none⟩)] = some [.pointer (some ⟨B, 0, none⟩), v] from rfl)
    simp only [EV, e2, nilChk_some, s1]
    exact hK .norm _ _ ⟨.inl rfl, _, rfl, Has.put hb.1, .put _ _ _⟩
  · simp only [↓reduceIte, EV, r66_0, nilChk_some, l0, ptr_some]
    refine hK .norm _ _ (C.cond false (by simp only [↓reduceIte, EV]) (fun g => by cases g) fun _ => C.seq fun K hK => ?_)
    simp only [↓reduceIte, EV, Nat.reduceEqDiff, r66_2, nilChk_some, l0, ptr_self]
    refine hK .norm _ _ (C.cond false (by simp only [↓reduceIte, EV]) (fun g => by cases g) fun _ => C.skip ⟨.inl rfl, _, rfl, hb, .refl _ _⟩)
theorem writeString_law (L n : Nat) {n0 : Nat} {h : H} {B : Nat} {l m : List UInt8} (a : Bld n0 h B l) (hsz : l.length + m.length ≤ 1000000) :
    Sp (CF L (n + 3)) 41 [.pointer (some ⟨B, 0, none⟩), .string ⟨m.toArray⟩] h fun r h' => Bld n0 h' B (l ++ m) ∧ Keep (From n0) h h' := by
  obtain ⟨p, v, hb, hp, ho, hB, hbl⟩ := a
  refine Sp.body f41 (by simp) ?_
  unfold c41
  refine C.seq fun K hK => ?_
  simp only [EV, Nat.reduceAdd, r41_0]
  refine hK .norm _ _ (C.seq fun K hK => ?_)
  simp only [↓reduceIte, EV, Nat.reduceEqDiff, r41_1]
  refine copyCheck_law L n hb hp _ fun r h1 hq => ?_
  obtain ⟨b1, k1⟩ := hq
  have o1 := ho.keep k1 fun b hb e => (hbl b hb).2 e
  refine hK _ _ _ (C.seq fun K hK => ?_)
  have l1 : ∀ s, loadOne h1 (.pointer (some ⟨B, 1, s⟩)) = some v := fun s => loadOne_has b1 rfl
  obtain ⟨v2, h2, e2, o2, k2, n2⟩ := append_opr o1 (str_src h1 ⟨m.toArray⟩) (by show l.length + m.length ≤ _; omega)
  have b2 := b1.keep k2 fun hb => (hbl B hb).2 rfl
  have hv2 : ∃ s c d, v2 = .slice s c d := by
    rcases o2 with ⟨rfl, _⟩ | ⟨b, cap, rfl, _⟩ <;> exact ⟨_, _, _, rfl⟩
  have s1 : storeV 1 h2 (.pointer (some ⟨B, 1, none⟩)) v2 = some (h2.put B (.rw [.pointer (some ⟨B, 0, none⟩), v2] (some 74))) := by
    obtain ⟨s, c, d, rfl⟩ := hv2
    exact store_one b2 rfl rfl rfl
  simp only [↓reduceIte, EV, Nat.reduceEqDiff, r41_2, nilChk_some, l1, e2, s1]
  refine hK _ _ _ (C.seq fun K hK => ?_)
  simp only [↓reduceIte, EV, Nat.reduceEqDiff, r41_3, lenStr_string]
  have n3 : ∀ b, blk v2 b → n0 ≤ b ∧ b ≠ B := fun b hb => by
    rcases n2 b hb with e | e
    · exact hbl b e
    · have := k1.next; have := b1.1; have := hb; exact ⟨by omega, by omega⟩
  have k3 := Keep.put h2 B (.rw [.pointer (some ⟨B, 0, none⟩), v2] (some 74))
  refine hK _ _ _ (C.ret ⟨.inr rfl, _, rfl, ⟨_, v2, Has.put b2.1, .inr rfl, o2.keep k3 fun b hb e => (n3 b hb).2 e, hB, n3⟩, ?_⟩)
  refine ((k1.mono (S' := From n0) fun _ _ e => ?_).trans k2 fun b _ hb => (hbl b hb).1).trans k3 fun b _ e => ?_
  · rw [e]; exact hB
  · rw [e]; exact hB
theorem bytesIn_bv : ∀ l : List UInt8, bytesIn (l.map bv) = some l
  | [] => rfl
  | x :: l => by
    have h : x.toNat ≤ 255 := by have := x.toNat_lt; omega
    show (match Nat.ble x.toNat 255 with | true => (match bytesIn (l.map bv) with | some t => some (UInt8.ofNat x.toNat :: t) | none => none) | false => none) = _
    rw [Nat.ble_eq_true_of_le h, bytesIn_bv l]
    simp
theorem takeN_all {α : Type} (l : List α) : takeN l l.length = some l := by rw [takeN_eq _ _ (Nat.le_refl _), List.take_length]
theorem string_law (L n : Nat) {n0 : Nat} {h : H} {B : Nat} {l : List UInt8} (a : Bld n0 h B l) (h0 : l ≠ []) (hsz : l.length ≤ 1000000) :
    Sp (CF L (n + 1)) 47 [.pointer (some ⟨B, 0, none⟩)] h fun r h' => r = .string ⟨l.toArray⟩ ∧ Keep (From n0) h h' := by
  obtain ⟨p, v, hb, hp, ho, hB, hbl⟩ := a
  refine Sp.body f47 (by simp) ?_
  unfold c47
  refine C.seq fun K hK => ?_
  simp only [EV, r47_0]
  refine hK .norm _ _ (C.seq fun K hK => ?_)
  rcases ho with ⟨_, rfl⟩ | ⟨b, cap, rfl, c1, c2, hx⟩
  · exact absurd rfl h0
  have hlen : 0 < l.length := List.length_pos_iff.2 h0
  have kk : Keep nobody h (⟨h.objs, h.next + 12⟩ : H) := ⟨Nat.le_add_right _ _, fun _ _ _ => rfl⟩
  have hb1 := hb.keep0 kk
  have hx1 := hx.keep0 kk
  have l1 : ∀ s, loadOne (⟨h.objs, h.next + 12⟩ : H) (.pointer (some ⟨B, 1, s⟩)) = some (.slice (some ⟨b, 0, none⟩) l.length cap) := fun s => loadOne_has hb1 rfl
  have d1 : dataV (.slice (some ⟨b, 0, none⟩) l.length cap) = some (.pointer (some ⟨b, 0, none⟩)) := by
    simp only [dataV, c1]
    rw [Nat.ble_eq_true_of_le (Nat.le_trans hlen (Nat.le_max_left _ _))]
  have st : strOf 5 (⟨h.objs, h.next + 12⟩ : H) (.pointer (some ⟨b, 0, none⟩)) (.int .i64 (l.length : Int)) = some (.string ⟨l.toArray⟩, (⟨h.objs, h.next + 12⟩ : H).put b (.ro (l.map bv))) := by
    obtain ⟨y, ys, rfl⟩ := List.exists_cons_of_ne_nil h0
    show (match Nat.ble (ys.length + 1) 9223372036854775807 with | true => strAt 5 (⟨h.objs, h.next + 12⟩ : H) (ys.length + 1) (.pointer (some ⟨b, 0, none⟩)) | false => none) = _
    rw [Nat.ble_eq_true_of_le (by simp at hsz; omega)]
    have hx2 := hx1.2
    have tk : takeN ((y :: ys).map bv) (ys.length + 1) = some ((y :: ys).map bv) := by
      have := takeN_all ((y :: ys).map bv)
      simpa using this
    simp only [strAt, hx2]
    show (match Nat.beq 5 5, takeN ((y :: ys).map bv) (ys.length + 1) with | true, some l => (match bytesIn l with | some bs => some (Value.string ⟨bs.toArray⟩, (⟨h.objs, h.next + 12⟩ : H).put b (.ro ((y :: ys).map bv))) | none => none) | _, _ => none) = _
    rw [tk]
    show (match bytesIn ((y :: ys).map bv) with | some bs => some (Value.string ⟨bs.toArray⟩, (⟨h.objs, h.next + 12⟩ : H).put b (.ro ((y :: ys).map bv))) | none => none) = _
    rw [bytesIn_bv]
  simp only [↓reduceIte, EV, Nat.reduceEqDiff, r47_1, nilChk_some, l1, d1, lenSl_slice, st]
  refine hK _ _ _ (C.ret ⟨.inr rfl, _, rfl, ?_, ?_⟩)
  · simp only [↓reduceIte, EV, resOf]
  · exact (kk.mono fun _ _ e => e.elim).trans (.put _ _ _) fun k _ e => by
      rw [e]; exact (hbl b (by simp)).1
end Go.Proofs.YthofbmfcpfibdaaDoor

namespace Go.Proofs.YthofbmfcpfibdaaDoor
open Go.Ev

theorem capV_zero : capV (.slice none 0 0) = some (.int .i64 0) := rfl
theorem cut_open (b m cap : Nat) (h1 : Nat.ble OPEN cap = true) (h2 : Nat.beq (szOf cap) 1 = true) : ∃ cap', sliceSl 1 (.slice (some ⟨b, 0, none⟩) m cap) none (some (.int .i64 0)) none = some (.slice (some ⟨b, 0, none⟩) 0 cap') ∧ Nat.ble OPEN cap' = true ∧ Nat.beq (szOf cap') 1 = true := by
  have e : bnds none (some (.int .i64 0)) none m (Nat.max m (lbOf cap)) = some (0, 0, Nat.max m (lbOf cap)) := by
    simp only [bnds, bnd, asNat_zero]
    rw [Nat.ble_eq_true_of_le (Nat.zero_le _)]
  simp only [sliceSl, h1, h2, e]
  exact ⟨_, rfl, opCap_open _, opCap_size _⟩
theorem grow0_law (L n : Nat) {n0 : Nat} {h : H} {B m : Nat} (hb : Has h B (.rw [.pointer (some ⟨B, 0, none⟩), .slice none 0 0] (some 74))) (hB : n0 ≤ B) (hm : m ≤ 1000000) :
    Sp (CF L (n + 2)) 79 [.pointer (some ⟨B, 0, none⟩), .int .i64 (m : Int)] h fun r h' => Bld n0 h' B [] ∧ Keep (From n0) h h' := by
  refine Sp.body f79 (by simp) ?_
  unfold c79
  refine C.seq fun K hK => ?_
  have kk : Keep nobody h (⟨h.objs, h.next + 16⟩ : H) := ⟨Nat.le_add_right _ _, fun _ _ _ => rfl⟩
  have hb1 := hb.keep0 kk
  have l1 : ∀ s, loadOne (⟨h.objs, h.next + 16⟩ : H) (.pointer (some ⟨B, 1, s⟩)) = some (.slice none 0 0) := fun s => loadOne_has hb1 rfl
  have w1 : IntKind.i64.wrap ((0 : Int) + (m : Int)) = (m : Int) := by
    rw [Int.zero_add]; exact wrap_eq _ _ (by show (-9223372036854775808 : Int) ≤ _; omega) (by show (m : Int) ≤ 9223372036854775807; omega)
  have w0 : IntKind.i64.wrap (2 * (0 : Int)) = 0 := rfl
  simp only [↓reduceIte, EV, Nat.reduceAdd, Nat.reduceEqDiff, r79_0, nilChk_some, l1, capV_zero, w0, w1, lenSl_slice]
  refine noZero_law L n m (by omega) _ _ fun r h2 hq => ?_
  obtain ⟨⟨cap0, o1, o2, rfl⟩, rfl⟩ := hq
  have k2 := Keep.new (⟨h.objs, h.next + 16⟩ : H) (.op [] 1 (some 5))
  have hb2 := hb1.keep0 k2
  have b2 := Has.new (⟨h.objs, h.next + 16⟩ : H) (.op [] 1 (some 5))
  have l2 : ∀ s, loadOne ((⟨h.objs, h.next + 16⟩ : H).new (.op [] 1 (some 5))) (.pointer (some ⟨B, 1, s⟩)) = some (.slice none 0 0) := fun s => loadOne_has hb2 rfl
  have hO : hO (loadOne ((⟨h.objs, h.next + 16⟩ : H).new (.op [] 1 (some 5))) (.pointer (some ⟨B, 1, none⟩))) (.slice none 0 0) true = true := by
    rw [l2]; rfl
  have k3 : Keep nobody h ((⟨h.objs, h.next + 16⟩ : H).new (.op [] 1 (some 5))) := kk.then k2
  obtain ⟨cap, hcut, hopn, hsz⟩ := cut_open (h.next + 16) m cap0 o1 o2
  simp only [show ((0 : Nat) : Int) = 0 from rfl, hO, Bool.and_true, andB_true, hcut, kO_some]
  generalize (⟨h.objs, h.next + 16⟩ : H).new (.op [] 1 (some 5)) = h3 at *
  refine hK .norm _ _ (C.seq fun K hK => ?_)
  have cp : copyV 1 h3 (.slice (some ⟨h.next + 16, 0, none⟩) 0 cap) (.slice none 0 0) = some (.int .i64 0, h3) := rfl
  simp only [↓reduceIte, EV, Nat.reduceEqDiff, r79_1, nilChk_some, l2, cp]
  refine hK .norm _ _ fun K hK => ?_
  have s1 := store_one (s := none) (o := 1) (v := .slice (some ⟨h.next + 16, 0, none⟩) 0 cap) hb2 rfl rfl (show putAt [Value.pointer (some ⟨B, 0, none⟩), .slice none 0 0] 1 [Value.slice (some ⟨h.next + 16, 0, none⟩) 0 cap] = some [Value.pointer (some ⟨B, 0, none⟩), .slice (some ⟨h.next + 16, 0, none⟩) 0 cap] from rfl)
  simp only [↓reduceIte, EV, Nat.reduceEqDiff, r79_2, nilChk_some, s1]
  have hne : h.next + 16 ≠ B := by have := hb.1; omega
  have k4 := Keep.put h3 B (.rw [.pointer (some ⟨B, 0, none⟩), .slice (some ⟨h.next + 16, 0, none⟩) 0 cap] (some 74))
  refine hK .norm _ _ ⟨.inl rfl, _, rfl, ⟨_, _, Has.put hb2.1, .inr rfl, .inr ⟨h.next + 16, cap, rfl, hopn, hsz, b2.keep k4 hne⟩, hB, fun b hb' => ?_⟩, (k3.mono fun _ _ e => e.elim).trans k4 fun k _ e => by rw [e]; exact hB⟩
  simp only [blk_some] at hb'
  have := hb.1
  omega
theorem grow_law (L n : Nat) {n0 : Nat} {h : H} {B m : Nat} (hb : Has h B (.rw [.pointer none, .slice none 0 0] (some 74))) (hB : n0 ≤ B) (hm : m ≤ 1000000) (hm0 : 0 < m) :
    Sp (CF L (n + 3)) 67 [.pointer (some ⟨B, 0, none⟩), .int .i64 (m : Int)] h fun r h' => Bld n0 h' B [] ∧ Keep (From n0) h h' := by
  refine Sp.body f67 (by simp) ?_
  unfold c67
  refine C.seq fun K hK => ?_
  simp only [↓reduceIte, EV, Nat.reduceAdd, Nat.reduceEqDiff, r67_0]
  refine copyCheck_law L n hb (.inl rfl) _ fun r h1 hq => ?_
  obtain ⟨b1, k1⟩ := hq
  refine hK .norm _ _ (C.seq (C.seq fun K hK => ?_))
  have g1 : ¬ (m : Int) < 0 := by omega
  simp only [↓reduceIte, EV, r67_1, decide_eq_false g1]
  refine hK .norm _ _ (C.cond false (by simp only [↓reduceIte, EV]) (fun g => by cases g) fun _ => C.skip (C.seq fun K hK => ?_))
  have kk : Keep nobody h1 (⟨h1.objs, h1.next + 13⟩ : H) := ⟨Nat.le_add_right _ _, fun _ _ _ => rfl⟩
  have b2 := b1.keep0 kk
  have l1 : ∀ s, loadOne (⟨h1.objs, h1.next + 13⟩ : H) (.pointer (some ⟨B, 1, s⟩)) = some (.slice none 0 0) := fun s => loadOne_has b2 rfl
  have w0 : IntKind.i64.wrap ((0 : Int) - 0) = 0 := rfl
  have g2 : (0 : Int) < (m : Int) := by omega
  simp only [↓reduceIte, EV, Nat.reduceEqDiff, r67_3, nilChk_some, l1, capV_zero, lenSl_slice, show ((0 : Nat) : Int) = 0 from rfl, w0, decide_eq_true g2]
  refine hK .norm _ _ (C.cond true (by simp only [↓reduceIte, EV]) (fun _ => fun K hK => ?_) fun g => by cases g)
  simp only [↓reduceIte, EV, Nat.reduceEqDiff, r67_4]
  refine grow0_law L n b2 hB hm _ fun r h2 hq => ?_
  obtain ⟨b3, k3⟩ := hq
  refine hK .norm _ _ ⟨.inl rfl, _, rfl, b3, (k1.mono (S' := From n0) fun k _ e => ?_).trans ((kk.mono fun _ _ e => e.elim).trans k3 fun _ _ e => e) fun _ _ e => e⟩
  rw [e]; exact hB
end Go.Proofs.YthofbmfcpfibdaaDoor

namespace Go.Proofs.YthofbmfcpfibdaaDoor
open Go.Ev

/-! ### strings.Join -/
def sv (p : List UInt8) : Value := .string ⟨p.toArray⟩
def sumL : List (List UInt8) → Nat
  | [] => 0
  | p :: r => p.length + sumL r
def joinR : List (List UInt8) → List UInt8
  | [] => []
  | p :: r => 32 :: p ++ joinR r
theorem joinR_len : ∀ r, (joinR r).length = r.length + sumL r
  | [] => rfl
  | p :: r => by
    simp only [joinR, List.length_append, List.length_cons, joinR_len r, sumL]; omega
theorem sumL_drop {ps : List (List UInt8)} {i : Nat} {p : List UInt8} (h : ps[i]? = some p) : sumL (ps.drop i) = p.length + sumL (ps.drop (i + 1)) := by
  have hl := List.getElem?_eq_some_iff.1 h
  obtain ⟨hl, rfl⟩ := hl
  rw [List.drop_eq_getElem_cons hl]; rfl
theorem joinR_drop {ps : List (List UInt8)} {i : Nat} {p : List UInt8} (h : ps[i]? = some p) : joinR (ps.drop i) = 32 :: p ++ joinR (ps.drop (i + 1)) := by
  have hl := List.getElem?_eq_some_iff.1 h
  obtain ⟨hl, rfl⟩ := hl
  rw [List.drop_eq_getElem_cons hl]; rfl
theorem sv_len (p : List UInt8) : lenStr (sv p) = some (.int .i64 (p.length : Int)) := rfl
theorem wrap_big {n : Int} (h1 : -9000000000000000000 ≤ n) (h2 : n ≤ 9223372036854775807) : IntKind.i64.wrap n = n := wrap_eq _ _ (by show (-9223372036854775808 : Int) ≤ _; omega) (by show n ≤ 9223372036854775807; omega)
theorem ix1o (R o i n c : Nat) (h : i < n) : indexSl 1 (.slice (some ⟨R, o, none⟩) n c) (.int .i64 (i : Int)) = some (.pointer (some ⟨R, o + i, none⟩)) := by
  simp only [indexSl, asNat_nat, addOff]
  rw [Nat.ble_eq_true_of_le h]
  simp
theorem cut_one (R m : Nat) (h : 0 < m) (h2 : m ≤ 1000000) : sliceSl 1 (.slice (some ⟨R, 0, none⟩) (m + 1) (m + 1)) (some (.int .i64 1)) none none = some (.slice (some ⟨R, 1, none⟩) m m) := by
  have e1 : Nat.ble OPEN (m + 1) = false := by
    rw [Bool.eq_false_iff]; intro e; have := Nat.le_of_ble_eq_true e; unfold OPEN at this; omega
  have e2 : bnds (some (.int .i64 1)) none none (m + 1) (m + 1) = some (1, m + 1, m + 1) := by
    simp only [bnds, bnd, asNat_one]
    rw [Nat.ble_eq_true_of_le (show 1 ≤ m + 1 by omega)]
  have e3 : Nat.beq (m + 1) 1 = false := by
    rw [Bool.eq_false_iff]; intro e; have := Nat.eq_of_beq_eq_true e; omega
  simp only [sliceSl, e1, e2, e3]
  simp [addOff]
theorem loop1_law (L : Nat) (call : CallT) {h : H} {R : Nat} {ps : List (List UInt8)} {ty : Option TypeId} (hb : Has h R (.rw (ps.map sv) ty)) (hs : ps.length + sumL ps ≤ 1000000) (hL : ps.length < L) {tm : T Value} {n1 : Nat}
    (hn1 : n1 + sumL ps ≤ 1000000)
    (t0 : tg tm 0 = .slice (some ⟨R, 0, none⟩) ps.length ps.length) (t1 : tg tm 1 = sv [32]) (t39 : tg tm 39 = .slice (some ⟨R, 0, none⟩) ps.length ps.length) (t40 : tg tm 40 = .int .i64 (ps.length : Int)) (t41 : tg tm 41 = .int .i64 0) (t5 : tg tm 5 = .int .i64 (n1 : Int)) :
    C (loopB l42_18) call L tm h fun e tm' h' => e = .exit 1 ∧ h' = h ∧ tg tm' 0 = .slice (some ⟨R, 0, none⟩) ps.length ps.length ∧ tg tm' 1 = sv [32] ∧ tg tm' 5 = .int .i64 ((n1 + sumL ps : Nat) : Int) := by
  refine C.loop (fun k tm h' => ∃ i m : Nat, k = ps.length - i ∧ i ≤ ps.length ∧ m + sumL (ps.drop i) = n1 + sumL ps ∧ h' = h ∧ tg tm 0 = .slice (some ⟨R, 0, none⟩) ps.length ps.length ∧ tg tm 1 = sv [32] ∧ tg tm 39 = .slice (some ⟨R, 0, none⟩) ps.length ps.length ∧ tg tm 40 = .int .i64 (ps.length : Int) ∧ tg tm 41 = .int .i64 (i : Int) ∧ tg tm 5 = .int .i64 (m : Int)) ps.length hL ⟨0, n1, rfl, Nat.zero_le _, by simp, rfl, t0, t1, t39, t40, t41, t5⟩ fun k tm h' hi => ?_
  obtain ⟨i, m, hk, hi, hm, rfl, t0, t1, t39, t40, t41, t5⟩ := hi
  refine C.seq fun K hK => ?_
  by_cases g : i < ps.length
  · have g' : (i : Int) < (ps.length : Int) := by omega
    obtain ⟨p, hp⟩ : ∃ p, ps[i]? = some p := ⟨_, List.getElem?_eq_getElem g⟩
    have hd := sumL_drop hp
    have ld : ∀ s, loadOne h' (.pointer (some ⟨R, i, s⟩)) = some (sv p) := fun s => by rw [loadOne_has hb rfl, List.getElem?_map, hp]; rfl
    simp only [EV, r42_12, t40, t41, decide_eq_true g']
    refine hK .norm _ _ (C.seq (C.cond true (by simp only [↓reduceIte, EV]) (fun _ => C.skip (C.seq (C.block (C.seq fun K hK => ?_)))) fun g => by cases g))
    simp only [↓reduceIte, EV, Nat.reduceEqDiff, r42_13, t39, t41, ix1 R i _ _ g, ld]
    refine hK .norm _ _ (C.seq (C.seq fun K hK => ?_))
    have w1 : IntKind.i64.wrap (9223372036854775807 - (m : Int)) = 9223372036854775807 - (m : Int) := wrap_big (by omega) (by omega)
    have g2 : ¬ (9223372036854775807 - (m : Int) < (p.length : Int)) := by omega
    simp only [↓reduceIte, EV, Nat.reduceEqDiff, r42_14, sv_len, t5, w1, decide_eq_false g2]
    refine hK .norm _ _ (C.cond false (by simp only [↓reduceIte, EV]) (fun g => by cases g) fun _ => C.skip fun K hK => ?_)
    have w2 : IntKind.i64.wrap ((m : Int) + (p.length : Int)) = ((m + p.length : Nat) : Int) := by rw [wrap_big (by omega) (by omega)]; omega
    simp only [↓reduceIte, EV, Nat.reduceEqDiff, r42_16, sv_len, t5, w2]
    refine hK .norm _ _ fun K hK => ?_
    have w3 : IntKind.i64.wrap ((i : Int) + 1) = ((i + 1 : Nat) : Int) := by rw [wrap_big (by omega) (by omega)]; omega
    simp only [↓reduceIte, EV, Nat.reduceEqDiff, r42_17, t41, w3]
    refine hK .norm _ _ ⟨ps.length - (i + 1), by omega, i + 1, m + p.length, rfl, by omega, by omega, rfl, ?_, ?_, ?_, ?_, ?_, ?_⟩ <;> simp only [↓reduceIte, EV, Nat.reduceEqDiff, t0, t1, t39, t40]
  · have g' : ¬ (i : Int) < (ps.length : Int) := by omega
    simp only [EV, r42_12, t40, t41, decide_eq_false g']
    obtain rfl : i = ps.length := by omega
    rw [List.drop_length] at hm
    simp only [sumL, Nat.add_zero] at hm
    refine hK .norm _ _ (C.seq (C.cond false (by simp only [↓reduceIte, EV]) (fun g => by cases g) fun _ => C.exit ⟨rfl, rfl, by simp only [↓reduceIte, EV, Nat.reduceEqDiff, t0], by simp only [↓reduceIte, EV, Nat.reduceEqDiff, t1], by simp only [↓reduceIte, EV, Nat.reduceEqDiff, t5, hm]⟩))
theorem loop2_law (L n : Nat) {n0 : Nat} {h : H} {R B : Nat} {p0 : List UInt8} {ps : List (List UInt8)} {ty : Option TypeId} (hb : Has h R (.rw ((p0 :: ps).map sv) ty)) (hR : R < n0) (hs : p0.length + ps.length + sumL ps ≤ 1000000) (hL : ps.length < L) {tm : T Value}
    (hB : Bld n0 h B p0)
    (t1 : tg tm 1 = sv [32]) (t8 : tg tm 8 = .pointer (some ⟨B, 0, none⟩)) (t63 : tg tm 63 = .slice (some ⟨R, 1, none⟩) ps.length ps.length) (t64 : tg tm 64 = .int .i64 (ps.length : Int)) (t65 : tg tm 65 = .int .i64 0) :
    C (loopB l42_28) (CF L (n + 3)) L tm h fun e tm' h' => e = .exit 3 ∧ Bld n0 h' B (p0 ++ joinR ps) ∧ Keep (From n0) h h' ∧ tg tm' 8 = .pointer (some ⟨B, 0, none⟩) := by
  refine C.loop (fun k tm h' => ∃ (i : Nat) (acc : List UInt8), k = ps.length - i ∧ i ≤ ps.length ∧ acc ++ joinR (ps.drop i) = p0 ++ joinR ps ∧ Bld n0 h' B acc ∧ Keep (From n0) h h' ∧ tg tm 1 = sv [32] ∧ tg tm 8 = .pointer (some ⟨B, 0, none⟩) ∧ tg tm 63 = .slice (some ⟨R, 1, none⟩) ps.length ps.length ∧ tg tm 64 = .int .i64 (ps.length : Int) ∧ tg tm 65 = .int .i64 (i : Int)) ps.length hL ⟨0, p0, rfl, Nat.zero_le _, rfl, hB, .refl _ _, t1, t8, t63, t64, t65⟩ fun k tm h' hi => ?_
  obtain ⟨i, acc, hk, hi, ha, hB, kp, t1, t8, t63, t64, t65⟩ := hi
  have hlen := congrArg List.length ha
  simp only [List.length_append, joinR_len, List.length_drop] at hlen
  refine C.seq fun K hK => ?_
  by_cases g : i < ps.length
  · have g' : (i : Int) < (ps.length : Int) := by omega
    obtain ⟨p, hp⟩ : ∃ p, ps[i]? = some p := ⟨_, List.getElem?_eq_getElem g⟩
    have hj := joinR_drop hp
    have hd := sumL_drop hp
    have hb' := hb.keep kp (by unfold From; omega)
    have ld : ∀ s, loadOne h' (.pointer (some ⟨R, 1 + i, s⟩)) = some (sv p) := fun s => by
      rw [loadOne_has hb' rfl, List.getElem?_map, Nat.add_comm, List.getElem?_cons_succ, hp]; rfl
    simp only [EV, r42_22, t64, t65, decide_eq_true g']
    refine hK .norm _ _ (C.seq (C.cond true (by simp only [↓reduceIte, EV]) (fun _ => C.skip (C.seq (C.block (C.seq fun K hK => ?_)))) fun g => by cases g))
    simp only [↓reduceIte, EV, Nat.reduceEqDiff, r42_23, t63, t65, ix1o R 1 i _ _ g, ld]
    refine hK .norm _ _ (C.seq fun K hK => ?_)
    simp only [↓reduceIte, EV, Nat.reduceEqDiff, r42_24, t8, t1]
    refine writeString_law L n hB (m := [32]) (by simp; omega) _ fun r h1 hq => ?_
    obtain ⟨B1, k1⟩ := hq
    refine hK .norm _ _ fun K hK => ?_
    simp only [↓reduceIte, EV, Nat.reduceEqDiff, r42_25, t8]
    refine writeString_law L n B1 (m := p) (by simp; omega) _ fun r h2 hq => ?_
    obtain ⟨B2, k2⟩ := hq
    refine hK .norm _ _ fun K hK => ?_
    have w3 : IntKind.i64.wrap ((i : Int) + 1) = ((i + 1 : Nat) : Int) := by rw [wrap_big (by omega) (by omega)]; omega
    simp only [↓reduceIte, EV, Nat.reduceEqDiff, r42_26, t65, w3]
    refine hK .norm _ _ ⟨ps.length - (i + 1), by omega, i + 1, acc ++ [32] ++ p, rfl, by omega, ?_, B2, (kp.trans k1 fun _ _ e => e).trans k2 fun _ _ e => e, ?_, ?_, ?_, ?_, ?_⟩
    · rw [← ha, hj]; simp
    all_goals simp only [↓reduceIte, EV, Nat.reduceEqDiff, t1, t8, t63, t64]
  · have g' : ¬ (i : Int) < (ps.length : Int) := by omega
    simp only [EV, r42_22, t64, t65, decide_eq_false g']
    obtain rfl : i = ps.length := by omega
    rw [List.drop_length] at ha
    simp only [joinR, List.append_nil] at ha
    subst ha
    refine hK .norm _ _ (C.seq (C.cond false (by simp only [↓reduceIte, EV]) (fun g => by cases g) fun _ => C.exit ⟨rfl, hB, kp, by simp only [↓reduceIte, EV, Nat.reduceEqDiff, t8]⟩))
theorem join_law (L n : Nat) {h : H} {R : Nat} {p0 : List UInt8} {ps : List (List UInt8)} {ty : Option TypeId} (hb : Has h R (.rw ((p0 :: ps).map sv) ty)) (h1 : 0 < ps.length) (hs : p0.length + ps.length + sumL ps ≤ 100000) (hL : ps.length + 1 < L) (hp0 : p0 ≠ []) :
    Sp (CF L (n + 4)) 42 [.slice (some ⟨R, 0, none⟩) (ps.length + 1) (ps.length + 1), sv [32]] h fun r h' => r = .string ⟨(p0 ++ joinR ps).toArray⟩ ∧ Keep nobody h h' := by
  refine Sp.body f42 (by simp) ?_
  unfold c42
  refine C.seq fun K hK => ?_
  simp only [EV, Nat.reduceAdd, r42_0]
  refine hK .norm _ _ (C.seq (C.seq fun K hK => ?_))
  simp only [↓reduceIte, EV, Nat.reduceEqDiff, r42_1, lenSl_slice]
  have g1 : ¬ ((ps.length + 1 : Nat) : Int) = 0 := by omega
  have g2 : ¬ ((ps.length + 1 : Nat) : Int) = 1 := by omega
  refine hK .norm _ _ (C.block (C.seq fun K hK => ?_))
  simp only [↓reduceIte, EV, r42_2, decide_eq_false g1]
  refine hK .norm _ _ (C.cond false (by simp only [↓reduceIte, EV]) (fun g => by cases g) fun _ => C.seq fun K hK => ?_)
  simp only [↓reduceIte, EV, Nat.reduceEqDiff, r42_4, decide_eq_false g2]
  refine hK .norm _ _ (C.cond false (by simp only [↓reduceIte, EV]) (fun g => by cases g) fun _ => C.skip (C.seq fun K hK => ?_))
  simp only [r42_6]
  refine hK .norm _ _ (C.seq (C.seq fun K hK => ?_))
  have sl : lenStr (sv [32]) = some (.int .i64 1) := rfl
  simp only [↓reduceIte, EV, Nat.reduceEqDiff, Int.reduceLT, r42_7, sl]
  refine hK .norm _ _ (C.cond true (by simp only [↓reduceIte, EV]) (fun _ => C.seq (C.seq fun K hK => ?_)) fun g => by cases g)
  have w1 : IntKind.i64.wrap (((ps.length + 1 : Nat) : Int) - 1) = (ps.length : Int) := by rw [wrap_big (by omega) (by omega)]; omega
  have q1 : binV Tryd.prog .quo 3 true (.int .i64 9223372036854775807) (.int .i64 (ps.length : Int)) = some (.int .i64 ((9223372036854775807 / ps.length : Nat) : Int)) := by
    have e := binV_quo (P := Tryd.prog) 3 true .i64 ((9223372036854775807 : Nat) : Int) (ps.length : Int) (by omega)
    rw [← Int.ofNat_tdiv] at e
    have hle : 9223372036854775807 / ps.length ≤ 9223372036854775807 := Nat.div_le_self _ _
    generalize 9223372036854775807 / ps.length = z at *
    rw [wrap_big (by omega) (by omega)] at e
    exact e
  have g3 : ¬ (((9223372036854775807 / ps.length : Nat) : Int) ≤ 1) := by
    have : 2 ≤ 9223372036854775807 / ps.length := (Nat.le_div_iff_mul_le (by omega)).2 (by omega)
    generalize 9223372036854775807 / ps.length = z at *
    omega
  simp only [↓reduceIte, EV, Nat.reduceEqDiff, r42_8, sl, lenSl_slice, w1, q1, decide_eq_false g3]
  refine hK .norm _ _ (C.cond false (by simp only [↓reduceIte, EV]) (fun g => by cases g) fun _ => C.skip fun K hK => ?_)
  have w2 : IntKind.i64.wrap (1 * (ps.length : Int)) = (ps.length : Int) := by rw [Int.one_mul, wrap_big (by omega) (by omega)]
  have w3 : IntKind.i64.wrap (0 + (ps.length : Int)) = (ps.length : Int) := by rw [Int.zero_add, wrap_big (by omega) (by omega)]
  simp only [↓reduceIte, EV, Nat.reduceEqDiff, r42_10, sl, lenSl_slice, w1, w2, w3]
  refine hK .norm _ _ (C.seq (C.seq fun K hK => ?_))
  simp only [↓reduceIte, EV, Nat.reduceEqDiff, r42_11, lenSl_slice]
  refine hK .norm _ _ (C.block ((loop1_law L _ (ps := p0 :: ps) (n1 := ps.length) hb (by simp only [List.length_cons, sumL]; omega) (by simpa using hL) (by simp only [sumL]; omega) (by simp only [↓reduceIte, EV, Nat.reduceEqDiff]; rfl) (by simp only [↓reduceIte, EV, Nat.reduceEqDiff]) (by simp only [↓reduceIte, EV, Nat.reduceEqDiff]; rfl) (by simp only [↓reduceIte, EV, Nat.reduceEqDiff]; rfl) (by simp only [↓reduceIte, EV]) (by simp only [↓reduceIte, EV, Nat.reduceEqDiff])).mono ?_))
  rintro e tm h' ⟨rfl, rfl, t0, t1, t5⟩
  show if 1 = 1 then _ else _
  rw [if_pos rfl]
  refine C.seq fun K hK => ?_
  simp only [↓EW, EV, r42_18]
  have k1 := Keep.new h' (.rw [.pointer none, .slice none 0 0] (some 74))
  have b1 := Has.new h' (.rw [.pointer none, .slice none 0 0] (some 74))
  have hb1 := hb.keep0 k1
  have hRlt := hb.1
  generalize hh1 : h'.new (.rw [.pointer none, .slice none 0 0] (some 74)) = h1' at *
  refine hK .norm _ _ (C.seq fun K hK => ?_)
  simp only [↓reduceIte, EV, Nat.reduceEqDiff, r42_19, t5]
  refine grow_law L n b1 (Nat.le_refl _) (m := ps.length + sumL (p0 :: ps)) (by simp only [sumL]; omega) (by omega) _ fun r h2 hq => ?_
  obtain ⟨B2, k2⟩ := hq
  have hb2 := hb1.keep k2 (by unfold From; omega)
  have ld0 : ∀ s, loadOne h2 (.pointer (some ⟨R, 0, s⟩)) = some (sv p0) := fun s => loadOne_has hb2 rfl
  have ixz : indexSl 1 (.slice (some ⟨R, 0, none⟩) (p0 :: ps).length (p0 :: ps).length) (.int .i64 0) = some (.pointer (some ⟨R, 0, none⟩)) := ix1 R 0 _ _ (by simp)
  refine hK .norm _ _ (C.seq fun K hK => ?_)
  simp only [↓reduceIte, EV, Nat.reduceEqDiff, r42_20, t0, ixz, ld0]
  refine writeString_law L n B2 (m := p0) (by simp; omega) _ fun r h3 hq => ?_
  obtain ⟨B3, k3⟩ := hq
  have hb3 := hb2.keep k3 (by unfold From; omega)
  refine hK .norm _ _ (C.seq (C.seq fun K hK => ?_))
  have cu : sliceSl 1 (.slice (some ⟨R, 0, none⟩) (p0 :: ps).length (p0 :: ps).length) (some (.int .i64 1)) none none = some (.slice (some ⟨R, 1, none⟩) ps.length ps.length) := cut_one R ps.length h1 (by omega)
  simp only [↓reduceIte, EV, Nat.reduceEqDiff, r42_21, t0, cu, lenSl_slice]
  refine hK .norm _ _ (C.block ((loop2_law L n (n0 := h'.next) (p0 := p0) (ps := ps) hb3 hRlt (by omega) (by omega) B3 (by simp only [↓reduceIte, EV, Nat.reduceEqDiff, t1]) (by simp only [↓reduceIte, EV, Nat.reduceEqDiff]) (by simp only [↓reduceIte, EV, Nat.reduceEqDiff]) (by simp only [↓reduceIte, EV, Nat.reduceEqDiff]) (by simp only [↓reduceIte, EV])).mono ?_))
  rintro e tm4 h4 ⟨rfl, B4, k4, t8⟩
  show if 3 = 3 then _ else _
  rw [if_pos rfl]
  refine C.seq fun K hK => ?_
  simp only [r42_27, t8]
  refine string_law L (n + 2) B4 (by simp [hp0]) (by simp only [List.length_append, joinR_len]; omega) _ fun r h5 hq => ?_
  obtain ⟨rfl, k5⟩ := hq
  refine hK .norm _ _ (C.ret ⟨.inr rfl, _, rfl, ?_, ?_⟩)
  · simp only [↓reduceIte, EV, resOf]
  · exact ((((k1.mono (S' := From h'.next) fun _ _ e => e.elim).trans k2 fun _ _ e => e).trans k3 fun _ _ e => e).trans k4 fun _ _ e => e).trans k5 (fun _ _ e => e) |>.mono fun k hk e => by unfold From at e; omega
end Go.Proofs.YthofbmfcpfibdaaDoor
