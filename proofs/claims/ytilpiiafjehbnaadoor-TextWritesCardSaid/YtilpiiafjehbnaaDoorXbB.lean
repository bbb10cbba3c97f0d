import Derived.Test.YtilpiiafjehbnaaDoorXaZ
set_option linter.unusedSimpArgs false
set_option linter.unusedVariables false
namespace Go.Proofs.YtilpiiafjehbnaaDoor
open Go.Ev

/-! ### strings.Builder -/
theorem f41 : funcB Tryd.prog (maskOf masks) outside NG 41 = ⟨fun _ _ args h K => xK (xVal NG .same h args) K⟩ := by kernel_rfl
theorem f42 : funcB Tryd.prog (maskOf masks) outside NG 42 = ⟨fun _ _ args h K => xK (xVal NG (.noZero 5) h args) K⟩ := by kernel_rfl
theorem callF_succ {P : Program} {Sf : Nat → Nat} {X : List (Nat × XK)} {NG L n f : Nat} {args : List Value} {h : H} {K : KV} : callF P Sf X NG L (n + 1) f args h K = (funcB P Sf X NG f).f (callF P Sf X NG L n) L args h K := rfl
theorem same_law (L n : Nat) (v : Value) (h : H) : Sp (CF L (n + 1)) 41 [v] h fun r h' => r = v ∧ h' = h := fun K hK => by
  unfold CF
  rw [callF_succ, f41]
  exact hK v h ⟨rfl, rfl⟩
theorem xNoZero (NG m : Nat) (hm : m ≤ 281474976710656) (h : H) : xVal NG (.noZero 5) h [.int .i64 (m : Int)] = some (.slice (some ⟨h.next, 0, none⟩) m (opCap m 1), h.new (.op [] 1 (some 5))) := by
  unfold xVal
  simp only
  show (match Nat.ble m 281474976710656 with | true => _ | false => none) = _
  rw [Nat.ble_eq_true_of_le hm]
theorem noZero_law (L n : Nat) (m : Nat) (hm : m ≤ 281474976710656) (h : H) : Sp (CF L (n + 1)) 42 [.int .i64 (m : Int)] h fun r h' => (∃ cap, Nat.ble OPEN cap = true ∧ Nat.beq (szOf cap) 1 = true ∧ r = .slice (some ⟨h.next, 0, none⟩) m cap) ∧ h' = h.new (.op [] 1 (some 5)) := fun K hK => by
  unfold CF
  rw [callF_succ, f42]
  have e := xNoZero NG m hm h
  have o1 := opCap_open m
  have o2 := opCap_size m
  generalize opCap m 1 = cap at e o1 o2
  simp only [e, xK]
  exact hK _ _ ⟨⟨cap, o1, o2, rfl⟩, rfl⟩

/-- a row of bytes that a builder holds -/
def OpR (h : H) (v : Value) (l : List UInt8) : Prop := (v = .slice none 0 0 ∧ l = []) ∨ ∃ b cap, v = .slice (some ⟨b, 0, none⟩) l.length cap ∧ Nat.ble OPEN cap = true ∧ Nat.beq (szOf cap) 1 = true ∧ Has h b (.op (l.map bv) 1 (some 5))
theorem OpR.keep {S : Nat → Prop} {h h' : H} {v : Value} {l : List UInt8} (a : OpR h v l) (k : Keep S h h') (hn : ∀ b, blk v b → ¬ S b) : OpR h' v l := by
  rcases a with a | ⟨b, cap, rfl, h1, h2, h3⟩
  · exact .inl a
  · exact .inr ⟨b, cap, rfl, h1, h2, h3.keep k (hn b (by simp))⟩
theorem OpR.lt {h : H} {v : Value} {l : List UInt8} (a : OpR h v l) {b : Nat} (hb : blk v b) : b < h.next := by
  rcases a with ⟨rfl, _⟩ | ⟨b', cap, rfl, h1, h2, h3⟩
  · simp at hb
  · simp at hb; subst hb; exact h3.1
theorem tyIf_same : tyIf 5 0 (some 5) = some 5 := rfl
theorem grow_opr {S : Nat → Prop} {h h0 : H} {l m : List UInt8} (h1 : h0.next = h.next) (hk : Keep S h h0) : ∃ v' h', grow h0 (l.map bv) (m.map bv) (l.length + m.length) 1 (some 5) = some (v', h') ∧ OpR h' v' (l ++ m) ∧ Keep S h h' ∧ (∀ b, blk v' b → h.next ≤ b) := by
  refine ⟨_, _, rfl, ?_, hk.then (.new _ _), fun b hb => by simp at hb; omega⟩
  refine .inr ⟨h0.next, _, by rw [← List.length_append], opCap_open _, opCap_size _, ?_⟩
  rw [← List.map_append]; exact .new _ _
theorem append_opr {h : H} {v x : Value} {l m : List UInt8} (a : OpR h v l) (hx : Ev.Src h x m) (hsz : l.length + m.length ≤ 140737488355328) :
    ∃ v' h', appendV 5 1 1 h v x = some (v', h') ∧ OpR h' v' (l ++ m) ∧ Keep (blk v) h h' ∧ (∀ b, blk v' b → blk v b ∨ h.next ≤ b) := by
  by_cases h0 : m.length = 0
  · have : m = [] := List.length_eq_zero_iff.1 h0
    subst this
    have h1 : (∃ s l' c, v = .slice s l' c ∧ l' ≤ c) := by
      rcases a with ⟨rfl, _⟩ | ⟨b, cap, rfl, c901, _, hb⟩
      · exact ⟨_, _, _, rfl, Nat.le_refl _⟩
      · refine ⟨_, _, _, rfl, ?_⟩
        have := Nat.le_of_ble_eq_true c901; unfold OPEN at this
        have : l.length ≤ 140737488355328 := by simpa using hsz
        omega
    obtain ⟨s, l', c, rfl, h2⟩ := h1
    refine ⟨_, h, ?_, by simpa using a, .refl _ _, fun b hb => .inl hb⟩
    rw [appendV_eq hx]
    simp only [List.length_nil, appTo, Nat.ble_eq_true_of_le h2]
  · have hp : 0 < m.length := by omega
    rcases a with ⟨rfl, rfl⟩ | ⟨b, cap, rfl, c901, c902, hb⟩
    · rw [appendV_eq hx, appTo_none hp (by simpa using hsz)]
      obtain ⟨v', h', e1, e2, e3, e4⟩ := grow_opr (h := h) (h0 := h) (l := []) (m := m) rfl (Keep.refl (blk (.slice none 0 0)) h)
      exact ⟨v', h', e1, e2, e3, fun b hb => .inr (e4 b hb)⟩
    · obtain ⟨y, ys, rfl⟩ : ∃ y ys, m = y :: ys := List.exists_cons_of_length_pos hp
      rw [appendV_eq hx, appTo_open hp hsz c901, List.map_cons, appOpen_end hb (ones_bv (y :: ys)) c902, ← List.map_cons, tyIf_same]
      obtain ⟨v', h', e1, e2, e3, e4⟩ := grow_opr (h := h) (h0 := h.del b) (l := l) (m := y :: ys) rfl (S := blk (.slice (some ⟨b, 0, none⟩) l.length cap)) ((Keep.del h b).mono fun k _ e => by simp [e])
      exact ⟨v', h', e1, e2, e3, fun b hb => .inr (e4 b hb)⟩

/-- what stands in blocks from n0 on may change -/
def From (n0 : Nat) : Nat → Prop := fun b => n0 ≤ b
/-- a builder in the making at block B; all its blocks stand from n0 on -/
def Bld (n0 : Nat) (h : H) (B : Nat) (l : List UInt8) : Prop :=
  ∃ p v, Has h B (.rw [p, v] (some 55)) ∧ (p = .pointer none ∨ p = .pointer (some ⟨B, 0, none⟩)) ∧ OpR h v l ∧ n0 ≤ B ∧ ∀ b, blk v b → n0 ≤ b ∧ b ≠ B
theorem Bld.keep {n0 : Nat} {S : Nat → Prop} {h h' : H} {B : Nat} {l : List UInt8} (a : Bld n0 h B l) (k : Keep S h h') (hs : ∀ b, S b → h.next ≤ b) : Bld n0 h' B l := by
  obtain ⟨p, v, h1, h2, h3, h4, h5⟩ := a
  exact ⟨p, v, h1.keep k fun s => by have := hs _ s; have := h1.1; omega, h2, h3.keep k fun b hb s => by have := hs _ s; have := h3.lt hb; omega, h4, h5⟩
theorem ptr_none : binV Tryd.prog .eql 53 true (.pointer none) (.pointer none) = some (.bool true) := by kernel_rfl
theorem ptr_some (a : Addr) : binV Tryd.prog .eql 53 true (.pointer (some a)) (.pointer none) = some (.bool false) := by kernel_rfl
theorem ptr_self (B : Nat) : binV Tryd.prog .neq 53 false (.pointer (some ⟨B, 0, none⟩)) (.pointer (some ⟨B, 0, none⟩)) = some (.bool false) := by
  have e : binV Tryd.prog .neq 53 false (.pointer (some ⟨B, 0, none⟩)) (.pointer (some ⟨B, 0, none⟩)) = boolRes .neq (match sameAt ⟨B, 0, none⟩ ⟨B, 0, none⟩ with | some r => some r | none => none) := by kernel_rfl
  rw [e]
  have : sameAt ⟨B, 0, none⟩ ⟨B, 0, none⟩ = some true := by
    unfold sameAt
    simp only [Nat.beq_refl]
    rfl
  rw [this]; rfl
theorem nilChk_some (a : Addr) : nilChk (.pointer (some a)) = some (.pointer (some a)) := rfl
theorem copyCheck_law (L n : Nat) {h : H} {B : Nat} {p v : Value} (hb : Has h B (.rw [p, v] (some 55))) (hp : p = .pointer none ∨ p = .pointer (some ⟨B, 0, none⟩)) :
    Sp (CF L (n + 2)) 36 [.pointer (some ⟨B, 0, none⟩)] h fun r h' => Has h' B (.rw [.pointer (some ⟨B, 0, none⟩), v] (some 55)) ∧ Keep (· = B) h h' := by
  refine Sp.body f36 (by simp) ?_
  unfold c36
  refine C.seq fun K hK => ?_
  have l900 : ∀ s, loadOne h (.pointer (some ⟨B, 0, s⟩)) = some p := fun s => loadOne_has hb rfl
  rcases hp with rfl | rfl
  · simp only [↓opStep_eq, ↓reduceIte, ↓EW, EV, Nat.reduceAdd, Nat.reduceEqDiff, Int.reduceEq, Int.reduceLT, Int.reduceLE, Int.reduceNe, seqC, retC, skipC, exitC, blockC, condC, r36_0, nilChk_some, l900, ptr_none]
    refine hK .norm _ _ (C.cond true (by simp only [↓opStep_eq, ↓reduceIte, ↓EW, EV, Nat.reduceAdd, Nat.reduceEqDiff, Int.reduceEq, Int.reduceLT, Int.reduceLE, Int.reduceNe, seqC, retC, skipC, exitC, blockC, condC]) (fun _ => fun K hK => ?_) fun g => by cases g)
    have e1 : ptrUns h (.pointer (some ⟨B, 0, none⟩)) = some (.pointer (some ⟨B, 0, none⟩)) := by
      simp only [ptrUns, hb.cells]; rfl
    simp only [↓opStep_eq, ↓reduceIte, ↓EW, EV, Nat.reduceAdd, Nat.reduceEqDiff, Int.reduceEq, Int.reduceLT, Int.reduceLE, Int.reduceNe, seqC, retC, skipC, exitC, blockC, condC, r36_1, e1]
    refine same_law L n _ h _ fun r h' hq => ?_
    obtain ⟨rfl, rfl⟩ := hq
    have e2 : unsPtr 55 2 h' (.pointer (some ⟨B, 0, none⟩)) = some (.pointer (some ⟨B, 0, none⟩)) := by
      simp only [unsPtr, hb.2]; rfl
    have s1 := store_one (s := none) (v := .pointer (some ⟨B, 0, none⟩)) hb rfl rfl (show putAt [.pointer none, v] 0 [.pointer (some ⟨B, 0, none⟩)] = some [.pointer (some ⟨B, 0, none⟩), v] from rfl)
    simp only [↓opStep_eq, ↓reduceIte, ↓EW, EV, Nat.reduceAdd, Nat.reduceEqDiff, Int.reduceEq, Int.reduceLT, Int.reduceLE, Int.reduceNe, seqC, retC, skipC, exitC, blockC, condC, e2, nilChk_some, s1]
    exact hK .norm _ _ ⟨.inl rfl, _, rfl, Has.put hb.1, .put _ _ _⟩
  · simp only [↓opStep_eq, ↓reduceIte, ↓EW, EV, Nat.reduceAdd, Nat.reduceEqDiff, Int.reduceEq, Int.reduceLT, Int.reduceLE, Int.reduceNe, seqC, retC, skipC, exitC, blockC, condC, r36_0, nilChk_some, l900, ptr_some]
    refine hK .norm _ _ (C.cond false (by simp only [↓opStep_eq, ↓reduceIte, ↓EW, EV, Nat.reduceAdd, Nat.reduceEqDiff, Int.reduceEq, Int.reduceLT, Int.reduceLE, Int.reduceNe, seqC, retC, skipC, exitC, blockC, condC]) (fun g => by cases g) fun _ => C.seq fun K hK => ?_)
    simp only [↓opStep_eq, ↓reduceIte, ↓EW, EV, Nat.reduceAdd, Nat.reduceEqDiff, Int.reduceEq, Int.reduceLT, Int.reduceLE, Int.reduceNe, seqC, retC, skipC, exitC, blockC, condC, r36_2, nilChk_some, l900, ptr_self]
    refine hK .norm _ _ (C.cond false (by simp only [↓opStep_eq, ↓reduceIte, ↓EW, EV, Nat.reduceAdd, Nat.reduceEqDiff, Int.reduceEq, Int.reduceLT, Int.reduceLE, Int.reduceNe, seqC, retC, skipC, exitC, blockC, condC]) (fun g => by cases g) fun _ => C.skip ⟨.inl rfl, _, rfl, hb, .refl _ _⟩)
theorem writeString_law (L n : Nat) {n0 : Nat} {h : H} {B : Nat} {l m : List UInt8} (a : Bld n0 h B l) (hsz : l.length + m.length ≤ 1000000) :
    Sp (CF L (n + 3)) 28 [.pointer (some ⟨B, 0, none⟩), .string ⟨m.toArray⟩] h fun r h' => Bld n0 h' B (l ++ m) ∧ Keep (From n0) h h' := by
  obtain ⟨p, v, hb, hp, ho, hB, hbl⟩ := a
  refine Sp.body f28 (by simp) ?_
  unfold c28
  refine C.seq fun K hK => ?_
  simp only [↓opStep_eq, ↓reduceIte, ↓EW, EV, Nat.reduceAdd, Nat.reduceEqDiff, Int.reduceEq, Int.reduceLT, Int.reduceLE, Int.reduceNe, seqC, retC, skipC, exitC, blockC, condC, r28_0]
  refine hK .norm _ _ (C.seq fun K hK => ?_)
  simp only [↓opStep_eq, ↓reduceIte, ↓EW, EV, Nat.reduceAdd, Nat.reduceEqDiff, Int.reduceEq, Int.reduceLT, Int.reduceLE, Int.reduceNe, seqC, retC, skipC, exitC, blockC, condC, r28_1]
  refine copyCheck_law L n hb hp _ fun r h1 hq => ?_
  obtain ⟨b1, k1⟩ := hq
  have o1 := ho.keep k1 fun b hb e => (hbl b hb).2 e
  refine hK _ _ _ (C.seq fun K hK => ?_)
  have l901 : ∀ s, loadOne h1 (.pointer (some ⟨B, 1, s⟩)) = some v := fun s => loadOne_has b1 rfl
  obtain ⟨v2, h2, e2, o2, k2, n2⟩ := append_opr o1 (str_src h1 ⟨m.toArray⟩) (by show l.length + m.length ≤ _; omega)
  have b2 := b1.keep k2 fun hb => (hbl B hb).2 rfl
  have hv2 : ∃ s c d, v2 = .slice s c d := by
    rcases o2 with ⟨rfl, _⟩ | ⟨b, cap, rfl, _⟩ <;> exact ⟨_, _, _, rfl⟩
  have s1 : storeV 1 h2 (.pointer (some ⟨B, 1, none⟩)) v2 = some (h2.put B (.rw [.pointer (some ⟨B, 0, none⟩), v2] (some 55))) := by
    obtain ⟨s, c, d, rfl⟩ := hv2
    exact store_one b2 rfl rfl rfl
  simp only [↓opStep_eq, ↓reduceIte, ↓EW, EV, Nat.reduceAdd, Nat.reduceEqDiff, Int.reduceEq, Int.reduceLT, Int.reduceLE, Int.reduceNe, seqC, retC, skipC, exitC, blockC, condC, r28_2, nilChk_some, l901, e2, s1]
  refine hK _ _ _ (C.seq fun K hK => ?_)
  simp only [↓opStep_eq, ↓reduceIte, ↓EW, EV, Nat.reduceAdd, Nat.reduceEqDiff, Int.reduceEq, Int.reduceLT, Int.reduceLE, Int.reduceNe, seqC, retC, skipC, exitC, blockC, condC, r28_3, lenStr_string]
  have n3 : ∀ b, blk v2 b → n0 ≤ b ∧ b ≠ B := fun b hb => by
    rcases n2 b hb with e | e
    · exact hbl b e
    · have := k1.next; have := b1.1; have := hb; exact ⟨by omega, by omega⟩
  have k3 := Keep.put h2 B (.rw [.pointer (some ⟨B, 0, none⟩), v2] (some 55))
  refine hK _ _ _ (C.ret ⟨.inr rfl, _, rfl, ⟨_, v2, Has.put b2.1, .inr rfl, o2.keep k3 fun b hb e => (n3 b hb).2 e, hB, n3⟩, ?_⟩)
  refine ((k1.mono (S' := From n0) fun _ _ e => ?_).trans k2 fun b _ hb => (hbl b hb).1).trans k3 fun b _ e => ?_
  · rw [e]; exact hB
  · rw [e]; exact hB
theorem bytesIn_bv : ∀ l : List UInt8, bytesIn (l.map bv) = some l
  | [] => rfl
  | x :: l => by
    have h : x.toNat ≤ 255 := by have := x.toNat_lt; omega
    show (match Nat.ble x.toNat 255 with | true => (match bytesIn (l.map bv) with | some t => some (UInt8.ofNat x.toNat :: t) | none => none) | false => none) = _
    rw [Nat.ble_eq_true_of_le h, bytesIn_bv l]
    simp
theorem takeN_all {α : Type} (l : List α) : takeN l l.length = some l := by rw [takeN_eq _ _ (Nat.le_refl _), List.take_length]
theorem string_law (L n : Nat) {n0 : Nat} {h : H} {B : Nat} {l : List UInt8} (a : Bld n0 h B l) (h0 : l ≠ []) (hsz : l.length ≤ 1000000) :
    Sp (CF L (n + 1)) 29 [.pointer (some ⟨B, 0, none⟩)] h fun r h' => r = .string ⟨l.toArray⟩ ∧ Keep (From n0) h h' := by
  obtain ⟨p, v, hb, hp, ho, hB, hbl⟩ := a
  refine Sp.body f29 (by simp) ?_
  unfold c29
  refine C.seq fun K hK => ?_
  simp only [↓opStep_eq, ↓reduceIte, ↓EW, EV, Nat.reduceAdd, Nat.reduceEqDiff, Int.reduceEq, Int.reduceLT, Int.reduceLE, Int.reduceNe, seqC, retC, skipC, exitC, blockC, condC, r29_0]
  refine hK .norm _ _ (C.seq fun K hK => ?_)
  rcases ho with ⟨_, rfl⟩ | ⟨b, cap, rfl, c901, c902, hx⟩
  · exact absurd rfl h0
  have hlen : 0 < l.length := List.length_pos_iff.2 h0
  have kk : Keep nobody h (⟨h.objs, h.next + 12⟩ : H) := ⟨Nat.le_add_right _ _, fun _ _ _ => rfl⟩
  have hb1 := hb.keep0 kk
  have hx1 := hx.keep0 kk
  have l901 : ∀ s, loadOne (⟨h.objs, h.next + 12⟩ : H) (.pointer (some ⟨B, 1, s⟩)) = some (.slice (some ⟨b, 0, none⟩) l.length cap) := fun s => loadOne_has hb1 rfl
  have d1 : dataV (.slice (some ⟨b, 0, none⟩) l.length cap) = some (.pointer (some ⟨b, 0, none⟩)) := by
    simp only [dataV, c901]
    rw [Nat.ble_eq_true_of_le (Nat.le_trans hlen (Nat.le_max_left _ _))]
  have st : strOf 5 (⟨h.objs, h.next + 12⟩ : H) (.pointer (some ⟨b, 0, none⟩)) (.int .i64 (l.length : Int)) = some (.string ⟨l.toArray⟩, (⟨h.objs, h.next + 12⟩ : H).put b (.ro (l.map bv))) := by
    obtain ⟨y, ys, rfl⟩ := List.exists_cons_of_ne_nil h0
    show (match Nat.ble (ys.length + 1) 9223372036854775807 with | true => strAt 5 (⟨h.objs, h.next + 12⟩ : H) (ys.length + 1) (.pointer (some ⟨b, 0, none⟩)) | false => none) = _
    rw [Nat.ble_eq_true_of_le (by simp at hsz; omega)]
    have hx2 := hx1.2
    have tk : takeN ((y :: ys).map bv) (ys.length + 1) = some ((y :: ys).map bv) := by
      have := takeN_all ((y :: ys).map bv)
      simpa using this
    simp only [strAt, hx2]
    show (match Nat.beq 5 5, takeN ((y :: ys).map bv) (ys.length + 1) with | true, some l => (match bytesIn l with | some bs => some (Value.string ⟨bs.toArray⟩, (⟨h.objs, h.next + 12⟩ : H).put b (.ro ((y :: ys).map bv))) | none => none) | _, _ => none) = _
    rw [tk]
    show (match bytesIn ((y :: ys).map bv) with | some bs => some (Value.string ⟨bs.toArray⟩, (⟨h.objs, h.next + 12⟩ : H).put b (.ro ((y :: ys).map bv))) | none => none) = _
    rw [bytesIn_bv]
  simp only [↓opStep_eq, ↓reduceIte, ↓EW, EV, Nat.reduceAdd, Nat.reduceEqDiff, Int.reduceEq, Int.reduceLT, Int.reduceLE, Int.reduceNe, seqC, retC, skipC, exitC, blockC, condC, r29_1, nilChk_some, l901, d1, lenSl_slice, st]
  refine hK _ _ _ (C.ret ⟨.inr rfl, _, rfl, ?_, ?_⟩)
  · simp only [↓opStep_eq, ↓reduceIte, ↓EW, EV, Nat.reduceAdd, Nat.reduceEqDiff, Int.reduceEq, Int.reduceLT, Int.reduceLE, Int.reduceNe, seqC, retC, skipC, exitC, blockC, condC, resOf]
  · exact (kk.mono fun _ _ e => e.elim).trans (.put _ _ _) fun k _ e => by
      rw [e]; exact (hbl b (by simp)).1
end Go.Proofs.YtilpiiafjehbnaaDoor

namespace Go.Proofs.YtilpiiafjehbnaaDoor
open Go.Ev

theorem capV_zero : capV (.slice none 0 0) = some (.int .i64 0) := rfl
theorem cut_open (b m cap : Nat) (h1 : Nat.ble OPEN cap = true) (h2 : Nat.beq (szOf cap) 1 = true) : ∃ cap', sliceSl 1 (.slice (some ⟨b, 0, none⟩) m cap) none (some (.int .i64 0)) none = some (.slice (some ⟨b, 0, none⟩) 0 cap') ∧ Nat.ble OPEN cap' = true ∧ Nat.beq (szOf cap') 1 = true := by
  have e : bnds none (some (.int .i64 0)) none m (Nat.max m (lbOf cap)) = some (0, 0, Nat.max m (lbOf cap)) := by
    simp only [bnds, bnd, asNat_zero]
    rw [Nat.ble_eq_true_of_le (Nat.zero_le _)]
  simp only [sliceSl, h1, h2, e]
  exact ⟨_, rfl, opCap_open _, opCap_size _⟩
theorem grow0_law (L n : Nat) {n0 : Nat} {h : H} {B m : Nat} (hb : Has h B (.rw [.pointer (some ⟨B, 0, none⟩), .slice none 0 0] (some 55))) (hB : n0 ≤ B) (hm : m ≤ 1000000) :
    Sp (CF L (n + 2)) 37 [.pointer (some ⟨B, 0, none⟩), .int .i64 (m : Int)] h fun r h' => Bld n0 h' B [] ∧ Keep (From n0) h h' := by
  refine Sp.body f37 (by simp) ?_
  unfold c37
  refine C.seq fun K hK => ?_
  have kk : Keep nobody h (⟨h.objs, h.next + 16⟩ : H) := ⟨Nat.le_add_right _ _, fun _ _ _ => rfl⟩
  have hb1 := hb.keep0 kk
  have l901 : ∀ s, loadOne (⟨h.objs, h.next + 16⟩ : H) (.pointer (some ⟨B, 1, s⟩)) = some (.slice none 0 0) := fun s => loadOne_has hb1 rfl
  have w1 : IntKind.i64.wrap ((0 : Int) + (m : Int)) = (m : Int) := by
    rw [Int.zero_add]; exact wrap_eq _ _ (by show (-9223372036854775808 : Int) ≤ _; omega) (by show (m : Int) ≤ 9223372036854775807; omega)
  have w0 : IntKind.i64.wrap (2 * (0 : Int)) = 0 := rfl
  simp only [↓opStep_eq, ↓reduceIte, ↓EW, EV, Nat.reduceAdd, Nat.reduceEqDiff, Int.reduceEq, Int.reduceLT, Int.reduceLE, Int.reduceNe, seqC, retC, skipC, exitC, blockC, condC, r37_0, nilChk_some, l901, capV_zero, w0, w1, lenSl_slice]
  refine noZero_law L n m (by omega) _ _ fun r h2 hq => ?_
  obtain ⟨⟨cap0, o1, o2, rfl⟩, rfl⟩ := hq
  have k2 := Keep.new (⟨h.objs, h.next + 16⟩ : H) (.op [] 1 (some 5))
  have hb2 := hb1.keep0 k2
  have b2 := Has.new (⟨h.objs, h.next + 16⟩ : H) (.op [] 1 (some 5))
  have l902 : ∀ s, loadOne ((⟨h.objs, h.next + 16⟩ : H).new (.op [] 1 (some 5))) (.pointer (some ⟨B, 1, s⟩)) = some (.slice none 0 0) := fun s => loadOne_has hb2 rfl
  have hO : hO (loadOne ((⟨h.objs, h.next + 16⟩ : H).new (.op [] 1 (some 5))) (.pointer (some ⟨B, 1, none⟩))) (.slice none 0 0) true = true := by
    rw [l902]; rfl
  have k3 : Keep nobody h ((⟨h.objs, h.next + 16⟩ : H).new (.op [] 1 (some 5))) := kk.then k2
  obtain ⟨cap, hcut, hopn, hsz⟩ := cut_open (h.next + 16) m cap0 o1 o2
  simp only [Int.ofNat_zero, Int.cast_ofNat_Int, show ((0 : Nat) : Int) = 0 from rfl, hO, Bool.and_true, andB_true, hcut, kO_some]
  generalize (⟨h.objs, h.next + 16⟩ : H).new (.op [] 1 (some 5)) = h3 at *
  refine hK .norm _ _ (C.seq fun K hK => ?_)
  have cp : copyV 1 h3 (.slice (some ⟨h.next + 16, 0, none⟩) 0 cap) (.slice none 0 0) = some (.int .i64 0, h3) := rfl
  simp only [↓opStep_eq, ↓reduceIte, ↓EW, EV, Nat.reduceAdd, Nat.reduceEqDiff, Int.reduceEq, Int.reduceLT, Int.reduceLE, Int.reduceNe, seqC, retC, skipC, exitC, blockC, condC, r37_1, nilChk_some, l902, cp]
  refine hK .norm _ _ fun K hK => ?_
  have s1 := store_one (s := none) (o := 1) (v := .slice (some ⟨h.next + 16, 0, none⟩) 0 cap) hb2 rfl rfl (show putAt [Value.pointer (some ⟨B, 0, none⟩), .slice none 0 0] 1 [Value.slice (some ⟨h.next + 16, 0, none⟩) 0 cap] = some [Value.pointer (some ⟨B, 0, none⟩), .slice (some ⟨h.next + 16, 0, none⟩) 0 cap] from rfl)
  simp only [↓opStep_eq, ↓reduceIte, ↓EW, EV, Nat.reduceAdd, Nat.reduceEqDiff, Int.reduceEq, Int.reduceLT, Int.reduceLE, Int.reduceNe, seqC, retC, skipC, exitC, blockC, condC, r37_2, nilChk_some, s1]
  have hne : h.next + 16 ≠ B := by have := hb.1; omega
  have k4 := Keep.put h3 B (.rw [.pointer (some ⟨B, 0, none⟩), .slice (some ⟨h.next + 16, 0, none⟩) 0 cap] (some 55))
  refine hK .norm _ _ ⟨.inl rfl, _, rfl, ⟨_, _, Has.put hb2.1, .inr rfl, .inr ⟨h.next + 16, cap, rfl, hopn, hsz, b2.keep k4 hne⟩, hB, fun b hb' => ?_⟩, (k3.mono fun _ _ e => e.elim).trans k4 fun k _ e => by rw [e]; exact hB⟩
  simp only [blk_some] at hb'
  have := hb.1
  omega
theorem grow_law (L n : Nat) {n0 : Nat} {h : H} {B m : Nat} (hb : Has h B (.rw [.pointer none, .slice none 0 0] (some 55))) (hB : n0 ≤ B) (hm : m ≤ 1000000) (hm0 : 0 < m) :
    Sp (CF L (n + 3)) 27 [.pointer (some ⟨B, 0, none⟩), .int .i64 (m : Int)] h fun r h' => Bld n0 h' B [] ∧ Keep (From n0) h h' := by
  refine Sp.body f27 (by simp) ?_
  unfold c27
  refine C.seq fun K hK => ?_
  simp only [↓opStep_eq, ↓reduceIte, ↓EW, EV, Nat.reduceAdd, Nat.reduceEqDiff, Int.reduceEq, Int.reduceLT, Int.reduceLE, Int.reduceNe, seqC, retC, skipC, exitC, blockC, condC, r27_0]
  refine copyCheck_law L n hb (.inl rfl) _ fun r h1 hq => ?_
  obtain ⟨b1, k1⟩ := hq
  refine hK .norm _ _ (C.seq (C.seq fun K hK => ?_))
  have g1 : ¬ (m : Int) < 0 := by omega
  simp only [↓opStep_eq, ↓reduceIte, ↓EW, EV, Nat.reduceAdd, Nat.reduceEqDiff, Int.reduceEq, Int.reduceLT, Int.reduceLE, Int.reduceNe, seqC, retC, skipC, exitC, blockC, condC, r27_1, decide_eq_false g1]
  refine hK .norm _ _ (C.cond false (by simp only [↓opStep_eq, ↓reduceIte, ↓EW, EV, Nat.reduceAdd, Nat.reduceEqDiff, Int.reduceEq, Int.reduceLT, Int.reduceLE, Int.reduceNe, seqC, retC, skipC, exitC, blockC, condC]) (fun g => by cases g) fun _ => C.skip (C.seq fun K hK => ?_))
  have kk : Keep nobody h1 (⟨h1.objs, h1.next + 13⟩ : H) := ⟨Nat.le_add_right _ _, fun _ _ _ => rfl⟩
  have b2 := b1.keep0 kk
  have l901 : ∀ s, loadOne (⟨h1.objs, h1.next + 13⟩ : H) (.pointer (some ⟨B, 1, s⟩)) = some (.slice none 0 0) := fun s => loadOne_has b2 rfl
  have w0 : IntKind.i64.wrap ((0 : Int) - 0) = 0 := rfl
  have g2 : (0 : Int) < (m : Int) := by omega
  simp only [↓opStep_eq, ↓reduceIte, ↓EW, EV, Nat.reduceAdd, Nat.reduceEqDiff, Int.reduceEq, Int.reduceLT, Int.reduceLE, Int.reduceNe, seqC, retC, skipC, exitC, blockC, condC, r27_3, nilChk_some, l901, capV_zero, lenSl_slice, show ((0 : Nat) : Int) = 0 from rfl, w0, decide_eq_true g2]
  refine hK .norm _ _ (C.cond true (by simp only [↓opStep_eq, ↓reduceIte, ↓EW, EV, Nat.reduceAdd, Nat.reduceEqDiff, Int.reduceEq, Int.reduceLT, Int.reduceLE, Int.reduceNe, seqC, retC, skipC, exitC, blockC, condC]) (fun _ => fun K hK => ?_) fun g => by cases g)
  simp only [↓opStep_eq, ↓reduceIte, ↓EW, EV, Nat.reduceAdd, Nat.reduceEqDiff, Int.reduceEq, Int.reduceLT, Int.reduceLE, Int.reduceNe, seqC, retC, skipC, exitC, blockC, condC, r27_4]
  refine grow0_law L n b2 hB hm _ fun r h2 hq => ?_
  obtain ⟨b3, k3⟩ := hq
  refine hK .norm _ _ ⟨.inl rfl, _, rfl, b3, (k1.mono (S' := From n0) fun k _ e => ?_).trans ((kk.mono fun _ _ e => e.elim).trans k3 fun _ _ e => e) fun _ _ e => e⟩
  rw [e]; exact hB
end Go.Proofs.YtilpiiafjehbnaaDoor
