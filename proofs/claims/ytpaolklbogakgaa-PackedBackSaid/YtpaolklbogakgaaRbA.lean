import Derived.Test.YtpaolklbogakgaaRdX
set_option linter.unusedSimpArgs false
set_option linter.unusedVariables false
namespace Go.Proofs.Ytpaolklbogakgaa
open Go.Ev

theorem u8_or128 (n : Nat) : (UInt8.ofNat n ||| 128).toNat = n % 128 + 128 := by
  have h2 : ∀ z : Fin 256, (UInt8.ofNat z.val ||| 128).toNat = z.val % 128 + 128 := by decide +kernel
  have h3 : UInt8.ofNat n = UInt8.ofNat (n % 256) := by
    apply UInt8.toNat_inj.1; simp [UInt8.toNat_ofNat]
  have h4 := h2 ⟨n % 256, by omega⟩
  simp only at h4
  rw [h3, h4]; omega

theorem rd_small : ∀ (j i n : Nat) (more : List UInt8), j + i = 9 → n < 2 ^ (64 - 7 * i) → (0 < i → 0 < n) → rd i (small n ++ more) = some (n, (small n).length)
  | j, i, n, more, hi, hn, hp => by
    by_cases h : n < 128
    · have e : small n = [UInt8.ofNat n] := by unfold small; rw [if_pos h]
      have et : (UInt8.ofNat n).toNat = n := by simp [UInt8.toNat_ofNat]; omega
      rw [e, List.singleton_append, rd_cons, et]
      have h9 : ¬ (i = 9 ∧ 1 < n) := fun ⟨a, b⟩ => by subst a; simp at hn; omega
      rw [if_neg h9, if_pos h, if_neg (fun ⟨a, b⟩ => by have := hp b; omega)]
      rfl
    · have e : small n = (UInt8.ofNat n ||| 128) :: small (n / 128) := by rw [small.eq_def]; rw [if_neg h]
      match j, hi with
      | 0, hi =>
        have : i = 9 := by omega
        subst this
        simp at hn; omega
      | j + 1, hi =>
        rw [e, List.cons_append, rd_cons, u8_or128]
        have h9 : ¬ (i = 9 ∧ 1 < n % 128 + 128) := fun ⟨a, _⟩ => by omega
        rw [if_neg h9, if_neg (by omega), rd_small j (i + 1) (n / 128) more (by omega) ?_ (by omega)]
        · simp only [Option.map_some, List.length_cons]
          congr 2
          omega
        · have e : 2 ^ (64 - 7 * i) = 128 * 2 ^ (64 - 7 * (i + 1)) := by
            rw [show 64 - 7 * i = 7 + (64 - 7 * (i + 1)) by omega, Nat.pow_add]
          omega
theorem rd_num (n : Nat) (more : List UInt8) (hn : n < 18446744073709551616) : rd 0 (small n ++ more) = some (n, (small n).length) := rd_small 9 0 n more rfl hn (by omega)

theorem cutS_txt (s : ByteArray) (more : List UInt8) (hs : s.size < 18446744073709551616) : cutS (txt s ++ more) = some (s.data.toList, more) := by
  have hl : s.data.toList.length = s.size := rfl
  have e : txt s ++ more = small s.size ++ (s.data.toList ++ more) := by simp [txt]
  unfold cutS
  rw [e, rd_num _ _ hs]
  simp only
  rw [if_neg (by simp only [List.length_append]; omega), List.drop_left, ← List.drop_drop, List.drop_left, List.take_left' hl, List.drop_left' hl]

theorem nums_three (f u q : Nat) (more : List UInt8) (hf : f < 18446744073709551616) (hu : u < 18446744073709551616) (hq : q < 18446744073709551616) :
    nums 3 (small f ++ (small u ++ (small q ++ more))) = some ([f, u, q], more) := by
  simp only [nums, rd_num _ _ hf, List.drop_left, rd_num _ _ hu, rd_num _ _ hq]

theorem pItem_of (x : Itm) (more : List UInt8) (ok : x.ok) (he : x.err = 0) : pItem (itemBytes x ++ more) = some (x, more) := by
  have sl := slim_of_err he
  have hm : momentB x.till = true := by
    have hl : x.long = false := by
      rw [Bool.eq_false_iff]; intro hl
      simp [Itm.err, hl] at he
    unfold Itm.err at he
    rw [hl] at he
    simp only [Bool.false_eq_true, if_false] at he
    by_cases h : momentB x.till = true
    · exact h
    · rw [if_neg h] at he; exact absurd he (by decide)
  simp only [momentB, Bool.and_eq_true, decide_eq_true_eq] at hm
  have hw : IntKind.u64.wrap x.till = x.till := by
    obtain ⟨t, ht⟩ : ∃ t : Nat, x.till = (t : Int) := ⟨x.till.toNat, by omega⟩
    rw [ht, wrap_u64 _ (by omega)]
  have e : itemBytes x ++ more = txt x.key ++ (txt x.val ++ (small x.flags.toNat ++ (small x.till.toNat ++ (small x.uniq.toNat ++ more)))) := by
    simp only [itemBytes, hw, List.append_assoc]
  have of := ok.flags
  have ou := ok.uniq
  have k1 := sl.key
  have k2 := sl.val
  rw [e]
  simp only [pItem, cutS_txt x.key _ (by omega), cutS_txt x.val _ (by omega), nums_three x.flags.toNat x.till.toNat x.uniq.toNat more (by omega) (by omega) (by omega), ofNums]
  rw [if_neg (by omega)]
  have h1 : ((x.flags.toNat : Nat) : Int) = x.flags := by omega
  have h2 : ((x.till.toNat : Nat) : Int) = x.till := by omega
  have h3 : ((x.uniq.toNat : Nat) : Int) = x.uniq := by omega
  simp only [h1, h2, h3]

theorem pItems_of : ∀ (l : List Itm) (more : List UInt8), (∀ x ∈ l, x.ok ∧ x.err = 0) → pItems l.length (l.flatMap itemBytes ++ more) = some (l, more)
  | [], more, _ => rfl
  | x :: l, more, h => by
    have hx := h x (by simp)
    rw [List.flatMap_cons, List.append_assoc]
    simp only [List.length_cons, pItems, pItem_of x _ hx.1 hx.2, pItems_of l more fun y hy => h y (by simp [hy])]

theorem pRes_of (of : Int) (r : Res) (hn : 0 ≤ r.num ∧ r.num < 18446744073709551616) (h8 : r.items.length ≤ 8) (hi : ∀ x ∈ r.items, x.ok ∧ x.err = 0) :
    pRes (resBytes of r) = some (u8 of, u8 r.kind, r.num.toNat, r.items) := by
  have e : resBytes of r = u8 of :: u8 r.kind :: (small r.num.toNat ++ (small r.items.length ++ (r.items.flatMap itemBytes ++ []))) := by
    simp [resBytes]
  rw [e]
  simp only [pRes, rd_num r.num.toNat _ (by omega), List.drop_left, rd_num r.items.length _ (by omega)]
  rw [if_neg (by omega), pItems_of _ _ hi]
  rfl

theorem u8_toNat {z : Int} (h0 : 0 ≤ z) (h1 : z < 256) : ((u8 z).toNat : Int) = z := by
  have := u8_bv h0 h1
  simp only [bv, Value.int.injEq, true_and] at this
  omega

theorem key_empty {s : ByteArray} (h : s.size = 0) : s = strB [] := by
  obtain ⟨d⟩ := s
  have : d = #[] := Array.size_eq_zero_iff.1 h
  subst this; rfl

theorem pShape_of (a : Ans) (ok : a.ok) (hm : mayB a = true) : pShape (u8 a.kind) (ansBytes a) = some (withIv a noIv) := by
  have hk := u8_toNat ok.kind.1 ok.kind.2
  have ho := u8_toNat ok.of.1 ok.of.2
  have hr := u8_toNat ok.rk.1 ok.rk.2
  have keq : ∀ z : Nat, z < 256 → (u8 a.kind = UInt8.ofNat z ↔ a.kind = (z : Int)) := fun z hz => by
    constructor
    · intro h; rw [h] at hk; rw [← hk]; simp [UInt8.toNat_ofNat]; omega
    · intro h; apply UInt8.toNat_inj.1; simp [UInt8.toNat_ofNat]; omega
  have k1 : u8 a.kind = 1 ↔ a.kind = 1 := keq 1 (by omega)
  have k2 : u8 a.kind = 2 ↔ a.kind = 2 := keq 2 (by omega)
  have k3 : u8 a.kind = 3 ↔ a.kind = 3 := keq 3 (by omega)
  have k7 : u8 a.kind = 7 ↔ a.kind = 7 := keq 7 (by omega)
  simp only [mayB, Bool.and_eq_true, Bool.not_eq_true'] at hm
  obtain ⟨⟨hb, hkey⟩, hy⟩ := hm
  unfold pShape ansBytes
  by_cases g1 : a.kind = 1
  · rw [if_pos (k1.2 g1), if_pos g1]
    simp only [bodyB, g1, if_true, resultB, Bool.and_eq_true, Bool.not_eq_true', Bool.or_eq_false_iff, decide_eq_false_iff_not] at hb
    obtain ⟨⟨⟨_, _, h8⟩, _⟩, hg⟩ := hb
    have hi : ∀ x ∈ a.r.items, x.ok ∧ x.err = 0 := fun x hx => ⟨ok.items x hx, by simpa using List.all_eq_true.1 hg x hx⟩
    rw [pRes_of a.of a.r ok.num (by omega) hi]
    have hyes : a.yes = false := by simpa [yesB, g1] using hy
    have hks : a.key = strB [] := key_empty (by rw [keyB, if_neg (by omega : ¬ a.kind = 7), decide_eq_true_eq] at hkey; omega)
    simp only [resA, withIv, ho, hr, hyes, hks, g1]
    have h1 : ((a.r.num.toNat : Nat) : Int) = a.r.num := by have := ok.num; omega
    rw [h1]
  · rw [if_neg (fun h => g1 (k1.1 h)), if_neg g1]
    simp only [bodyB, g1, if_false, zeroB, Bool.and_eq_true, decide_eq_true_eq] at hb
    obtain ⟨_, ⟨⟨zo, zk⟩, zn⟩, zl⟩ := hb
    have zi : a.r.items = [] := List.length_eq_zero_iff.1 (by omega)
    have hw : ∀ (y : Bool) (k : ByteArray), a.yes = y → a.key = k → withIv a noIv = plainA (u8 a.kind) y k := fun y k h1 h2 => by
      simp only [withIv, plainA, hk, zo, zk, zn, zi, h1, h2]
    by_cases g23 : a.kind = 2 ∨ a.kind = 3
    · have g7 : ¬ a.kind = 7 := by omega
      have hks : a.key = strB [] := key_empty (by rw [keyB, if_neg g7, decide_eq_true_eq] at hkey; omega)
      rw [if_pos (g23.imp k2.2 k3.2), if_pos g23]
      cases hyy : a.yes
      · rw [hw false _ hyy hks]; rfl
      · rw [hw true _ hyy hks]; rfl
    · have hyes : a.yes = false := by
        have : ¬ a.kind = 2 := fun h => g23 (.inl h)
        have : ¬ a.kind = 3 := fun h => g23 (.inr h)
        simpa [yesB, *] using hy
      rw [if_neg (fun h => g23 (h.imp k2.1 k3.1)), if_neg g23]
      by_cases g7 : a.kind = 7
      · rw [if_pos (k7.2 g7), if_pos g7, hw false a.key hyes rfl]
      · have hks : a.key = strB [] := key_empty (by rw [keyB, if_neg g7, decide_eq_true_eq] at hkey; omega)
        rw [if_neg (fun h => g7 (k7.1 h)), if_neg g7, if_pos rfl, hw false _ hyes hks]

theorem n4_len4 (n : Nat) (h : n < 4294967296) : n4 (UInt8.ofNat (n / 16777216)) (UInt8.ofNat (n / 65536)) (UInt8.ofNat (n / 256)) (UInt8.ofNat n) = n := by
  simp only [n4, UInt8.toNat_ofNat']; omega

theorem cutR_pack (k : UInt8) (l more : List UInt8) (h1 : l.length ≤ 4096) (h2 : (pack 178 k l ++ more).length ≤ 16384) : cutR 178 (pack 178 k l ++ more) = (k, l, 6 + l.length, 0) := by
  have e : pack 178 k l ++ more = 178 :: k :: UInt8.ofNat (l.length / 16777216) :: UInt8.ofNat (l.length / 65536) :: UInt8.ofNat (l.length / 256) :: UInt8.ofNat l.length :: (l ++ more) := by simp [pack, len4]
  rw [e] at h2 ⊢
  unfold cutR
  rw [if_neg (by omega)]
  simp only [n4_len4 l.length (by omega)]
  rw [if_neg (by simp), if_neg (by omega), if_neg (by simp only [List.length_cons, List.length_append]; omega), List.take_left]

theorem readR_pack (a : Ans) (ok : a.ok) (hm : mayB a = true) (more : List UInt8) (h1 : (ansBytes a).length ≤ 4096) (h2 : more.length ≤ 8000) :
    readR (pack 178 (u8 a.kind) (ansBytes a) ++ more) = (some (withIv a noIv), (pack 178 (u8 a.kind) (ansBytes a)).length, 0) := by
  have hpl : (pack 178 (u8 a.kind) (ansBytes a)).length = 6 + (ansBytes a).length := by simp [pack, len4]; omega
  have hc := cutR_pack (u8 a.kind) (ansBytes a) more h1 (by rw [List.length_append, hpl]; omega)
  unfold readR
  rw [hc]
  simp only
  rw [if_neg (by omega)]
  have hm' : mayB (withIv a noIv) = true := by rw [may_iv]; exact hm
  simp only [pOf, pShape_of a ok hm, hm', if_true, hpl]
end Go.Proofs.Ytpaolklbogakgaa

namespace Go.Proofs.Ytpaolklbogakgaa
open Go.Ev

/-- the answer that shows that the program is not asleep -/
def liveA : Ans := ⟨1, 6, ⟨1, noIv, 300, []⟩, false, strB []⟩
theorem live_ok : liveA.ok := ⟨by decide, by decide, by decide, by decide, fun x hx => by cases hx⟩
theorem small_0 : small 0 = [0] := by rw [small.eq_def]; rfl
theorem small_300 : small 300 = [172, 2] := by
  rw [small.eq_def, if_neg (by decide), small.eq_def, if_pos (by decide)]; rfl
theorem live_bytes : ansBytes liveA = [6, 1, 172, 2, 0] := by
  have e : ansBytes liveA = [u8 6, u8 1] ++ (small 300 ++ small 0) ++ [] := rfl
  rw [e, small_0, small_300]; rfl
theorem live_may : mayB liveA = true := by decide
theorem live_err : wErr liveA = 0 := by
  unfold wErr; rw [live_bytes, if_pos live_may, if_neg (by decide)]
theorem live_w : wBytes liveA = [178, 1, 0, 0, 0, 5, 6, 1, 172, 2, 0] := by
  unfold wBytes; rw [live_bytes, if_pos live_may, if_neg (by decide)]; rfl
theorem agg_live1 : aggO (fill [(.int .u8 (0)), (.slice none 0 0), (.int .u64 (0))] (plc [(0, 1), (1, 1), (2, 1)]) [(0, (.int .u8 (1))), (2, (.int .u64 (300)))]) = some (.agg [.int .u8 1, .slice none 0 0, .int .u64 300].toArray) := rfl
theorem agg_live2 : aggO (fill Z7 P7 [(0, (.int .u8 (1))), (1, (.int .u8 (6))), (2, .agg [.int .u8 1, .slice none 0 0, .int .u64 300].toArray)]) = some liveA.v := rfl
theorem lit11 (b : Nat) : mkLit 11 b (fill (repl [(.int .u8 (0))] 11) (pl 1) [(0, (.int .u8 (178))), (1, (.int .u8 (1))), (2, (.int .u8 (0))), (3, (.int .u8 (0))), (4, (.int .u8 (0))), (5, (.int .u8 (5))), (6, (.int .u8 (6))), (7, (.int .u8 (1))), (8, (.int .u8 (172))), (9, (.int .u8 (2))), (10, (.int .u8 (0)))]) = some (.rw (([178, 1, 0, 0, 0, 5, 6, 1, 172, 2, 0] : List UInt8).map bv), .slice (some ⟨b, 0, none⟩) 11 11) := rfl

theorem alive (L n : Nat) (h : H) (hL : 100 < L) : Sp (CF L (n + 9)) 14 [] h fun r h' => r = .bool true ∧ Keep nobody h h' := by
  refine Sp.body f14 (by simp) ?_
  unfold c14
  refine C.seq fun K hK => hK .norm _ _ (C.seq fun K hK => ?_)
  simp only [↓opStep_eq, ↓reduceIte, tg_set, toTm_cons, toTm_nil, fieldPtr_ptr, Nat.add_zero, Nat.zero_add, Nat.reduceAdd, Nat.reduceEqDiff, Int.reduceEq, Int.reduceLT, Int.reduceLE, Int.reduceNe, ↓kO_some, ↓kA_some, ↓kH_some, kO_some, kA_some, kH_some, gd_true, gd_false, nthD_zero, nthD_succ, isB_true, isB_false, isB_undef, pickV_true, pickV_false, binV_add, binV_sub, binV_mul, binV_eql, binV_neq, binV_lss, binV_leq, binV_gtr, binV_geq, unV_not, nt, nf, Bool.false_eq_true, dt, df, decide_true, decide_false, withV_some, aggO_some, ptrTo_eq, ↓aO_some, aO_some, ↓andB_true, andB_true, gz, gs, seqC, retC, skipC, exitC, blockC, condC, cells_agg, r14_1, agg_live1, agg_live2]
  refine packed_write L n liveA h live_ok (.inl ⟨rfl, rfl⟩) hL (by show 0 < L; omega) (by decide) _ fun r h2 hv => ?_
  obtain ⟨x, rfl, m, k, _⟩ := hv
  rw [live_w] at m
  simp only [tupNth_tuple, ↓opStep_eq, ↓reduceIte, tg_set, toTm_cons, toTm_nil, fieldPtr_ptr, Nat.add_zero, Nat.zero_add, Nat.reduceAdd, Nat.reduceEqDiff, Int.reduceEq, Int.reduceLT, Int.reduceLE, Int.reduceNe, ↓kO_some, ↓kA_some, ↓kH_some, kO_some, kA_some, kH_some, gd_true, gd_false, nthD_zero, nthD_succ, isB_true, isB_false, isB_undef, pickV_true, pickV_false, binV_add, binV_sub, binV_mul, binV_eql, binV_neq, binV_lss, binV_leq, binV_gtr, binV_geq, unV_not, nt, nf, Bool.false_eq_true, dt, df, decide_true, decide_false, withV_some, aggO_some, ptrTo_eq, ↓aO_some, aO_some, ↓andB_true, andB_true, gz, gs, seqC, retC, skipC, exitC, blockC, condC, cells_agg, live_err]
  refine hK _ _ _ (C.seq fun K hK => ?_)
  have m2 : Mine (h2.new (.rw (([178, 1, 0, 0, 0, 5, 6, 1, 172, 2, 0] : List UInt8).map bv))) (.slice (some ⟨h2.next, 0, none⟩) 11 11) [178, 1, 0, 0, 0, 5, 6, 1, 172, 2, 0] := Mine.rw h2.next [178, 1, 0, 0, 0, 5, 6, 1, 172, 2, 0] (Has.new h2 _)
  have k2 := Keep.new h2 (.rw (([178, 1, 0, 0, 0, 5, 6, 1, 172, 2, 0] : List UInt8).map bv))
  have st1 := m.reads.str
  have st2 := m2.reads.str
  have hs : ∀ s : ByteArray, binV Try.prog .eql 9 false (.string s) (.string s) = some (.bool true) := fun s => by rw [strV_eql, leB_eq]; simp
  generalize hl : ([178, 1, 0, 0, 0, 5, 6, 1, 172, 2, 0] : List UInt8) = bs at *
  have lit := lit11 h2.next
  rw [hl] at lit
  simp only [↓opStep_eq, ↓reduceIte, tg_set, toTm_cons, toTm_nil, fieldPtr_ptr, Nat.add_zero, Nat.zero_add, Nat.reduceAdd, Nat.reduceEqDiff, Int.reduceEq, Int.reduceLT, Int.reduceLE, Int.reduceNe, ↓kO_some, ↓kA_some, ↓kH_some, kO_some, kA_some, kH_some, gd_true, gd_false, nthD_zero, nthD_succ, isB_true, isB_false, isB_undef, pickV_true, pickV_false, binV_add, binV_sub, binV_mul, binV_eql, binV_neq, binV_lss, binV_leq, binV_gtr, binV_geq, unV_not, nt, nf, Bool.false_eq_true, dt, df, decide_true, decide_false, withV_some, aggO_some, ptrTo_eq, ↓aO_some, aO_some, ↓andB_true, andB_true, gz, gs, seqC, retC, skipC, exitC, blockC, condC, cells_agg, Bool.true_or, Bool.false_or, Bool.or_true, Bool.or_false, Bool.true_and, Bool.false_and, Bool.and_true, Bool.and_false, r14_2, st1, lit, st2, hs]
  exact hK _ _ _ (C.ret ⟨.inr rfl, _, rfl, by simp only [↓opStep_eq, ↓reduceIte, tg_set, toTm_cons, toTm_nil, fieldPtr_ptr, Nat.add_zero, Nat.zero_add, Nat.reduceAdd, Nat.reduceEqDiff, Int.reduceEq, Int.reduceLT, Int.reduceLE, Int.reduceNe, ↓kO_some, ↓kA_some, ↓kH_some, kO_some, kA_some, kH_some, gd_true, gd_false, nthD_zero, nthD_succ, isB_true, isB_false, isB_undef, pickV_true, pickV_false, binV_add, binV_sub, binV_mul, binV_eql, binV_neq, binV_lss, binV_leq, binV_gtr, binV_geq, unV_not, nt, nf, Bool.false_eq_true, dt, df, decide_true, decide_false, withV_some, aggO_some, ptrTo_eq, ↓aO_some, aO_some, ↓andB_true, andB_true, gz, gs, seqC, retC, skipC, exitC, blockC, condC, cells_agg]; rfl, k.then k2⟩)
end Go.Proofs.Ytpaolklbogakgaa

namespace Go.Proofs.Ytpaolklbogakgaa
open Go.Ev

theorem werr_bytes {a : Ans} (h : wErr a ≠ 0) : wBytes a = [] := by
  unfold wErr at h; unfold wBytes
  split
  · rename_i hm
    rw [if_pos hm] at h
    split
    · rfl
    · rename_i hl; rw [if_neg hl] at h; exact absurd rfl h
  · rfl
theorem werr_zero {a : Ans} (h : wErr a = 0) : mayB a = true ∧ (ansBytes a).length ≤ 4096 ∧ wBytes a = pack 178 (u8 a.kind) (ansBytes a) := by
  unfold wErr at h; unfold wBytes
  split at h
  · rename_i hm
    split at h
    · exact absurd h (by decide)
    · rename_i hl
      rw [if_pos hm, if_neg hl]
      exact ⟨hm, by omega, rfl⟩
  · exact absurd h (by decide)

theorem back_law (L n : Nat) (a : Ans) (v : Value) (more : List UInt8) (h : H) (ok : a.ok) (hi : ItemsAt h a.r.iv a.r.items) (hr : Rd h v more) (hL : 20000 < L) (hones : ones a.r.cells = true) :
    Sp (CF L (n + 10)) 6 [a.v, v] h fun r h' => r = .bool true := by
  refine Sp.body f6 (by simp) ?_
  have hc : (Value.cells a.v).toList = a.cells := rfl
  have k1 := Keep.new h (.rw a.cells)
  have b1 := Has.new h (.rw a.cells)
  generalize hh : h.new (.rw a.cells) = h1 at *
  have lda : ∀ (hx : H), Has hx h.next (.rw a.cells) → ∀ s, loadAgg 7 hx (.pointer (some ⟨h.next, 0, s⟩)) = some a.v := fun hx hb s => loadAgg_has hb rfl (by simp [Ans.cells])
  unfold c6
  refine C.seq fun K hK => ?_
  simp only [↓opStep_eq, ↓reduceIte, tg_set, toTm_cons, toTm_nil, fieldPtr_ptr, Nat.add_zero, Nat.zero_add, Nat.reduceAdd, Nat.reduceEqDiff, Int.reduceEq, Int.reduceLT, Int.reduceLE, Int.reduceNe, ↓kO_some, ↓kA_some, ↓kH_some, kO_some, kA_some, kH_some, gd_true, gd_false, nthD_zero, nthD_succ, isB_true, isB_false, isB_undef, pickV_true, pickV_false, binV_add, binV_sub, binV_mul, binV_eql, binV_neq, binV_lss, binV_leq, binV_gtr, binV_geq, unV_not, nt, nf, Bool.false_eq_true, dt, df, decide_true, decide_false, withV_some, aggO_some, ptrTo_eq, ↓aO_some, aO_some, ↓andB_true, andB_true, gz, gs, seqC, retC, skipC, exitC, blockC, condC, cells_agg, r6_0, hc, hh]
  refine hK _ _ _ (C.seq fun K hK => ?_)
  simp only [↓opStep_eq, ↓reduceIte, tg_set, toTm_cons, toTm_nil, fieldPtr_ptr, Nat.add_zero, Nat.zero_add, Nat.reduceAdd, Nat.reduceEqDiff, Int.reduceEq, Int.reduceLT, Int.reduceLE, Int.reduceNe, ↓kO_some, ↓kA_some, ↓kH_some, kO_some, kA_some, kH_some, gd_true, gd_false, nthD_zero, nthD_succ, isB_true, isB_false, isB_undef, pickV_true, pickV_false, binV_add, binV_sub, binV_mul, binV_eql, binV_neq, binV_lss, binV_leq, binV_gtr, binV_geq, unV_not, nt, nf, Bool.false_eq_true, dt, df, decide_true, decide_false, withV_some, aggO_some, ptrTo_eq, ↓aO_some, aO_some, ↓andB_true, andB_true, gz, gs, seqC, retC, skipC, exitC, blockC, condC, cells_agg, r6_1]
  refine alive L n h1 (by omega) _ fun r h2 hv => ?_
  obtain ⟨rfl, k2⟩ := hv
  have k12 := k1.then k2
  refine hK _ _ _ (C.seq (C.seq fun K hK => ?_))
  rw [show ∀ x : CodeT, (⟨x⟩ : Box CodeT).f = x from fun _ => rfl]
  unfold r6_2
  try rw [show ∀ x : OpsT, (⟨x⟩ : Box OpsT).f = x from fun _ => rfl]
  refine ops_step (by rfl) ?_
  simp only [tg_set, Nat.reduceEqDiff, reduceIte, lda _ (b1.keep0 k2), kO_some]
  refine ops_step (by rfl) ?_
  simp only [nthD_zero, nthD_succ, toTm_nil]
  refine ref_long L (n + 8) a h2 (hi.keep0 k12) (by omega) _ fun r h3 hv => ?_
  obtain ⟨c, rfl, hc40, k3⟩ := hv
  have k13 := k12.then k3
  have r3 := hr.keep0 k13
  have rest : ∀ (tm : T Value), c = false → more.length ≤ 8000 → tg tm 2 = .pointer (some ⟨h.next, 0, none⟩) → tg tm 1 = v →
      C ⟨seqC ⟨r6_4⟩ ⟨seqC ⟨seqC ⟨r6_5⟩ ⟨condC ⟨fun _ tm => tg tm 32⟩ ⟨seqC ⟨r6_6⟩ retC⟩ skipC⟩⟩ ⟨seqC ⟨r6_7⟩ ⟨seqC ⟨r6_8⟩ ⟨seqC ⟨r6_9⟩ ⟨seqC ⟨r6_10⟩ ⟨seqC ⟨r6_11⟩ ⟨seqC ⟨r6_12⟩ retC⟩⟩⟩⟩⟩⟩⟩⟩ (CF L (n + 9)) L tm h3 fun e tm' h' => (e = .norm ∨ e = .ret) ∧ ∃ q, q6.f tm' h' = some q ∧ resOf q = .bool true := fun tm hcf hml t2 t1 => by
    have h40 := hc40 hcf
    have b3 := (b1.keep0 k2).keep0 k3
    refine C.seq fun K hK => ?_
    simp only [↓opStep_eq, ↓reduceIte, tg_set, toTm_cons, toTm_nil, fieldPtr_ptr, Nat.add_zero, Nat.zero_add, Nat.reduceAdd, Nat.reduceEqDiff, Int.reduceEq, Int.reduceLT, Int.reduceLE, Int.reduceNe, ↓kO_some, ↓kA_some, ↓kH_some, kO_some, kA_some, kH_some, gd_true, gd_false, nthD_zero, nthD_succ, isB_true, isB_false, isB_undef, pickV_true, pickV_false, binV_add, binV_sub, binV_mul, binV_eql, binV_neq, binV_lss, binV_leq, binV_gtr, binV_geq, unV_not, nt, nf, Bool.false_eq_true, dt, df, decide_true, decide_false, withV_some, aggO_some, ptrTo_eq, ↓aO_some, aO_some, ↓andB_true, andB_true, gz, gs, seqC, retC, skipC, exitC, blockC, condC, cells_agg, r6_4, t2, lda _ b3]
    refine packed_write L (n + 1) a h3 ok (hi.keep0 k13) (by omega) (by omega) (by omega) _ fun r h4 hv => ?_
    obtain ⟨x, rfl, m4, k4, f4⟩ := hv
    simp only [↓opStep_eq, ↓reduceIte, tg_set, toTm_cons, toTm_nil, fieldPtr_ptr, Nat.add_zero, Nat.zero_add, Nat.reduceAdd, Nat.reduceEqDiff, Int.reduceEq, Int.reduceLT, Int.reduceLE, Int.reduceNe, ↓kO_some, ↓kA_some, ↓kH_some, kO_some, kA_some, kH_some, gd_true, gd_false, nthD_zero, nthD_succ, isB_true, isB_false, isB_undef, pickV_true, pickV_false, binV_add, binV_sub, binV_mul, binV_eql, binV_neq, binV_lss, binV_leq, binV_gtr, binV_geq, unV_not, nt, nf, Bool.false_eq_true, dt, df, decide_true, decide_false, withV_some, aggO_some, ptrTo_eq, ↓aO_some, aO_some, ↓andB_true, andB_true, gz, gs, seqC, retC, skipC, exitC, blockC, condC, cells_agg, tupNth_tuple]
    refine hK _ _ _ (C.seq (C.seq fun K hK => ?_))
    simp only [↓opStep_eq, ↓reduceIte, tg_set, toTm_cons, toTm_nil, fieldPtr_ptr, Nat.add_zero, Nat.zero_add, Nat.reduceAdd, Nat.reduceEqDiff, Int.reduceEq, Int.reduceLT, Int.reduceLE, Int.reduceNe, ↓kO_some, ↓kA_some, ↓kH_some, kO_some, kA_some, kH_some, gd_true, gd_false, nthD_zero, nthD_succ, isB_true, isB_false, isB_undef, pickV_true, pickV_false, binV_add, binV_sub, binV_mul, binV_eql, binV_neq, binV_lss, binV_leq, binV_gtr, binV_geq, unV_not, nt, nf, Bool.false_eq_true, dt, df, decide_true, decide_false, withV_some, aggO_some, ptrTo_eq, ↓aO_some, aO_some, ↓andB_true, andB_true, gz, gs, seqC, retC, skipC, exitC, blockC, condC, cells_agg, r6_5]
    refine hK _ _ _ (C.cond (!decide (wErr a = 0)) (by simp only [↓opStep_eq, ↓reduceIte, tg_set, toTm_cons, toTm_nil, fieldPtr_ptr, Nat.add_zero, Nat.zero_add, Nat.reduceAdd, Nat.reduceEqDiff, Int.reduceEq, Int.reduceLT, Int.reduceLE, Int.reduceNe, ↓kO_some, ↓kA_some, ↓kH_some, kO_some, kA_some, kH_some, gd_true, gd_false, nthD_zero, nthD_succ, isB_true, isB_false, isB_undef, pickV_true, pickV_false, binV_add, binV_sub, binV_mul, binV_eql, binV_neq, binV_lss, binV_leq, binV_gtr, binV_geq, unV_not, nt, nf, Bool.false_eq_true, dt, df, decide_true, decide_false, withV_some, aggO_some, ptrTo_eq, ↓aO_some, aO_some, ↓andB_true, andB_true, gz, gs, seqC, retC, skipC, exitC, blockC, condC, cells_agg]) (fun g => C.seq fun K hK => ?_) fun g => C.skip ?_)
    · have g : wErr a ≠ 0 := by rw [Bool.not_eq_true'] at g; exact of_decide_eq_false g
      have hl := m4.reads.len
      rw [werr_bytes g] at hl
      have hz : (([] : List UInt8).length : Int) = 0 := rfl
      rw [hz] at hl
      simp only [↓opStep_eq, ↓reduceIte, tg_set, toTm_cons, toTm_nil, fieldPtr_ptr, Nat.add_zero, Nat.zero_add, Nat.reduceAdd, Nat.reduceEqDiff, Int.reduceEq, Int.reduceLT, Int.reduceLE, Int.reduceNe, ↓kO_some, ↓kA_some, ↓kH_some, kO_some, kA_some, kH_some, gd_true, gd_false, nthD_zero, nthD_succ, isB_true, isB_false, isB_undef, pickV_true, pickV_false, binV_add, binV_sub, binV_mul, binV_eql, binV_neq, binV_lss, binV_leq, binV_gtr, binV_geq, unV_not, nt, nf, Bool.false_eq_true, dt, df, decide_true, decide_false, withV_some, aggO_some, ptrTo_eq, ↓aO_some, aO_some, ↓andB_true, andB_true, gz, gs, seqC, retC, skipC, exitC, blockC, condC, cells_agg, r6_6, hl]
      exact hK _ _ _ (C.ret ⟨.inr rfl, _, rfl, by simp only [↓opStep_eq, ↓reduceIte, tg_set, toTm_cons, toTm_nil, fieldPtr_ptr, Nat.add_zero, Nat.zero_add, Nat.reduceAdd, Nat.reduceEqDiff, Int.reduceEq, Int.reduceLT, Int.reduceLE, Int.reduceNe, ↓kO_some, ↓kA_some, ↓kH_some, kO_some, kA_some, kH_some, gd_true, gd_false, nthD_zero, nthD_succ, isB_true, isB_false, isB_undef, pickV_true, pickV_false, binV_add, binV_sub, binV_mul, binV_eql, binV_neq, binV_lss, binV_leq, binV_gtr, binV_geq, unV_not, nt, nf, Bool.false_eq_true, dt, df, decide_true, decide_false, withV_some, aggO_some, ptrTo_eq, ↓aO_some, aO_some, ↓andB_true, andB_true, gz, gs, seqC, retC, skipC, exitC, blockC, condC, cells_agg]; rfl⟩)
    · have g : wErr a = 0 := by rw [Bool.not_eq_false'] at g; exact of_decide_eq_true g
      obtain ⟨hm, h4k, hw⟩ := werr_zero g
      have hpl : (pack 178 (u8 a.kind) (ansBytes a)).length = 6 + (ansBytes a).length := by simp [pack, len4]; omega
      rw [hw] at m4
      have hR := readR_pack a ok hm more h4k hml
      generalize pack 178 (u8 a.kind) (ansBytes a) = pk at *
      have hl := m4.reads.len
      refine C.seq fun K hK => ?_
      simp only [↓opStep_eq, ↓reduceIte, tg_set, toTm_cons, toTm_nil, fieldPtr_ptr, Nat.add_zero, Nat.zero_add, Nat.reduceAdd, Nat.reduceEqDiff, Int.reduceEq, Int.reduceLT, Int.reduceLE, Int.reduceNe, ↓kO_some, ↓kA_some, ↓kH_some, kO_some, kA_some, kH_some, gd_true, gd_false, nthD_zero, nthD_succ, isB_true, isB_false, isB_undef, pickV_true, pickV_false, binV_add, binV_sub, binV_mul, binV_eql, binV_neq, binV_lss, binV_leq, binV_gtr, binV_geq, unV_not, nt, nf, Bool.false_eq_true, dt, df, decide_true, decide_false, withV_some, aggO_some, ptrTo_eq, ↓aO_some, aO_some, ↓andB_true, andB_true, gz, gs, seqC, retC, skipC, exitC, blockC, condC, cells_agg, r6_7, hl]
      refine hK _ _ _ (C.seq fun K hK => hK .norm _ _ (C.seq fun K hK => ?_))
      obtain ⟨w, h5, e5, m5, k5, f5⟩ := append_own (h := h4) (v := .slice none 0 0) (x := x) (l := []) (m := pk) .nil m4.reads.src (by simp; omega)
      rw [List.nil_append] at m5
      have k5' : Keep nobody h4 h5 := k5.mono fun b _ hb => by simp at hb
      simp only [↓opStep_eq, ↓reduceIte, tg_set, toTm_cons, toTm_nil, fieldPtr_ptr, Nat.add_zero, Nat.zero_add, Nat.reduceAdd, Nat.reduceEqDiff, Int.reduceEq, Int.reduceLT, Int.reduceLE, Int.reduceNe, ↓kO_some, ↓kA_some, ↓kH_some, kO_some, kA_some, kH_some, gd_true, gd_false, nthD_zero, nthD_succ, isB_true, isB_false, isB_undef, pickV_true, pickV_false, binV_add, binV_sub, binV_mul, binV_eql, binV_neq, binV_lss, binV_leq, binV_gtr, binV_geq, unV_not, nt, nf, Bool.false_eq_true, dt, df, decide_true, decide_false, withV_some, aggO_some, ptrTo_eq, ↓aO_some, aO_some, ↓andB_true, andB_true, gz, gs, seqC, retC, skipC, exitC, blockC, condC, cells_agg, r6_9, e5]
      refine hK _ _ _ (C.seq fun K hK => ?_)
      have r5 := (r3.keep0 k4).keep0 k5'
      obtain ⟨w2, h6, e6, m6, k6, f6⟩ := append_own (h := h5) (v := w) (x := v) (l := pk) (m := more) m5 r5.reads.src (by omega)
      have k6' : Keep nobody h4 h6 := k5'.trans k6 fun b hb hw => by
        rcases f5 b hw with h | h
        · simp at h
        · omega
      simp only [↓opStep_eq, ↓reduceIte, tg_set, toTm_cons, toTm_nil, fieldPtr_ptr, Nat.add_zero, Nat.zero_add, Nat.reduceAdd, Nat.reduceEqDiff, Int.reduceEq, Int.reduceLT, Int.reduceLE, Int.reduceNe, ↓kO_some, ↓kA_some, ↓kH_some, kO_some, kA_some, kH_some, gd_true, gd_false, nthD_zero, nthD_succ, isB_true, isB_false, isB_undef, pickV_true, pickV_false, binV_add, binV_sub, binV_mul, binV_eql, binV_neq, binV_lss, binV_leq, binV_gtr, binV_geq, unV_not, nt, nf, Bool.false_eq_true, dt, df, decide_true, decide_false, withV_some, aggO_some, ptrTo_eq, ↓aO_some, aO_some, ↓andB_true, andB_true, gz, gs, seqC, retC, skipC, exitC, blockC, condC, cells_agg, r6_10, t1, e6]
      refine hK _ _ _ (C.seq fun K hK => ?_)
      have rw6 := rd_of_mine m6 (by rw [List.length_append]; omega)
      simp only [↓opStep_eq, ↓reduceIte, tg_set, toTm_cons, toTm_nil, fieldPtr_ptr, Nat.add_zero, Nat.zero_add, Nat.reduceAdd, Nat.reduceEqDiff, Int.reduceEq, Int.reduceLT, Int.reduceLE, Int.reduceNe, ↓kO_some, ↓kA_some, ↓kH_some, kO_some, kA_some, kH_some, gd_true, gd_false, nthD_zero, nthD_succ, isB_true, isB_false, isB_undef, pickV_true, pickV_false, binV_add, binV_sub, binV_mul, binV_eql, binV_neq, binV_lss, binV_leq, binV_gtr, binV_geq, unV_not, nt, nf, Bool.false_eq_true, dt, df, decide_true, decide_false, withV_some, aggO_some, ptrTo_eq, ↓aO_some, aO_some, ↓andB_true, andB_true, gz, gs, seqC, retC, skipC, exitC, blockC, condC, cells_agg, r6_11]
      refine packed_Read L (n + 1) w2 (pk ++ more) h6 rw6 (by rw [List.length_append]; omega) (by omega) (by rw [List.length_append]; omega) _ fun r h7 hv => ?_
      rw [hR] at hv
      obtain ⟨av, rfl, k7, iv, rfl, mi⟩ := hv
      have haw : (withIv (withIv a noIv) iv).v = (withIv a iv).v := rfl
      have s1 := store7_new h7 (cs := (withIv a iv).cells) rfl (by
        obtain ⟨cs, h1, _, h3⟩ := ans_shape (a := withIv a iv) mi.ones
        have : (withIv a iv).cells = cs := by simpa [Ans.v] using h1
        rw [this]; exact h3)
      have k8 := keep_alloc h7 (.rw Z7) (.rw (withIv a iv).cells)
      have b10 := has_alloc h7 (.rw Z7) (.rw (withIv a iv).cells)
      rw [haw]
      simp only [tupNth_tuple, ↓opStep_eq, ↓reduceIte, tg_set, toTm_cons, toTm_nil, fieldPtr_ptr, Nat.add_zero, Nat.zero_add, Nat.reduceAdd, Nat.reduceEqDiff, Int.reduceEq, Int.reduceLT, Int.reduceLE, Int.reduceNe, ↓kO_some, ↓kA_some, ↓kH_some, kO_some, kA_some, kH_some, gd_true, gd_false, nthD_zero, nthD_succ, isB_true, isB_false, isB_undef, pickV_true, pickV_false, binV_add, binV_sub, binV_mul, binV_eql, binV_neq, binV_lss, binV_leq, binV_gtr, binV_geq, unV_not, nt, nf, Bool.false_eq_true, dt, df, decide_true, decide_false, withV_some, aggO_some, ptrTo_eq, ↓aO_some, aO_some, ↓andB_true, andB_true, gz, gs, seqC, retC, skipC, exitC, blockC, condC, cells_agg, Ans.v, s1]
      generalize (h7.new (.rw Z7)).put h7.next (.rw (withIv a iv).cells) = h8 at *
      refine hK _ _ _ (C.seq fun K hK => ?_)
      have k38 := ((k4.then k6').then k7).then k8
      have la1 : loadAgg 7 h8 (.pointer (some ⟨h7.next, 0, none⟩)) = some (withIv a iv).v := load7 b10 rfl
      have la2 : loadAgg 7 h8 (.pointer (some ⟨h.next, 0, none⟩)) = some (withIv a a.r.iv).v := lda _ (b3.keep0 k38) none
      have mi8 := (mi.keep0 k8).items
      have hi8 := hi.keep0 (k13.then k38)
      rw [show ∀ x : CodeT, (⟨x⟩ : Box CodeT).f = x from fun _ => rfl]
      unfold r6_12
      try rw [show ∀ x : OpsT, (⟨x⟩ : Box OpsT).f = x from fun _ => rfl]
      iterate 10 (refine ops_step (by rfl) ?_; simp only [↓reduceIte, tg_set, toTm_cons, toTm_nil, fieldPtr_ptr, Nat.add_zero, Nat.zero_add, Nat.reduceAdd, Nat.reduceEqDiff, Int.reduceEq, Int.reduceLT, Int.reduceLE, Int.reduceNe, ↓kO_some, ↓kA_some, ↓kH_some, kO_some, kA_some, kH_some, gd_true, gd_false, nthD_zero, nthD_succ, isB_true, isB_false, isB_undef, pickV_true, pickV_false, binV_add, binV_sub, binV_mul, binV_eql, binV_neq, binV_lss, binV_leq, binV_gtr, binV_geq, unV_not, nt, nf, Bool.false_eq_true, dt, df, decide_true, decide_false, withV_some, aggO_some, ptrTo_eq, ↓aO_some, aO_some, ↓andB_true, andB_true, gz, gs, seqC, retC, skipC, exitC, blockC, condC, cells_agg, Bool.true_or, Bool.false_or, Bool.or_true, Bool.or_false, Bool.true_and, Bool.false_and, Bool.and_true, Bool.and_false, t2, la1, la2])
      refine ops_step (by rfl) ?_
      simp only [nthD_zero, nthD_succ, toTm_nil]
      refine ans_same L (n + 7) a iv a.r.iv h8 mi8 hi8 (by omega) (by omega) _ fun r h9 hv => ?_
      obtain ⟨rfl, k9⟩ := hv
      simp only [↓opStep_eq, ↓reduceIte, tg_set, toTm_cons, toTm_nil, fieldPtr_ptr, Nat.add_zero, Nat.zero_add, Nat.reduceAdd, Nat.reduceEqDiff, Int.reduceEq, Int.reduceLT, Int.reduceLE, Int.reduceNe, ↓kO_some, ↓kA_some, ↓kH_some, kO_some, kA_some, kH_some, gd_true, gd_false, nthD_zero, nthD_succ, isB_true, isB_false, isB_undef, pickV_true, pickV_false, binV_add, binV_sub, binV_mul, binV_eql, binV_neq, binV_lss, binV_leq, binV_gtr, binV_geq, unV_not, nt, nf, Bool.false_eq_true, dt, df, decide_true, decide_false, withV_some, aggO_some, ptrTo_eq, ↓aO_some, aO_some, ↓andB_true, andB_true, gz, gs, seqC, retC, skipC, exitC, blockC, condC, cells_agg, Bool.true_or, Bool.false_or, Bool.or_true, Bool.or_false, Bool.true_and, Bool.false_and, Bool.and_true, Bool.and_false]
      exact hK _ _ _ (C.ret ⟨.inr rfl, _, rfl, by simp only [↓opStep_eq, ↓reduceIte, tg_set, toTm_cons, toTm_nil, fieldPtr_ptr, Nat.add_zero, Nat.zero_add, Nat.reduceAdd, Nat.reduceEqDiff, Int.reduceEq, Int.reduceLT, Int.reduceLE, Int.reduceNe, ↓kO_some, ↓kA_some, ↓kH_some, kO_some, kA_some, kH_some, gd_true, gd_false, nthD_zero, nthD_succ, isB_true, isB_false, isB_undef, pickV_true, pickV_false, binV_add, binV_sub, binV_mul, binV_eql, binV_neq, binV_lss, binV_leq, binV_gtr, binV_geq, unV_not, nt, nf, Bool.false_eq_true, dt, df, decide_true, decide_false, withV_some, aggO_some, ptrTo_eq, ↓aO_some, aO_some, ↓andB_true, andB_true, gz, gs, seqC, retC, skipC, exitC, blockC, condC, cells_agg]; rfl⟩)
  -- the rest of the condition
  cases c
  · by_cases h8 : (8000 : Int) < (more.length : Int)
    · simp only [↓opStep_eq, ↓reduceIte, tg_set, toTm_cons, toTm_nil, fieldPtr_ptr, Nat.add_zero, Nat.zero_add, Nat.reduceAdd, Nat.reduceEqDiff, Int.reduceEq, Int.reduceLT, Int.reduceLE, Int.reduceNe, ↓kO_some, ↓kA_some, ↓kH_some, kO_some, kA_some, kH_some, gd_true, gd_false, nthD_zero, nthD_succ, isB_true, isB_false, isB_undef, pickV_true, pickV_false, binV_add, binV_sub, binV_mul, binV_eql, binV_neq, binV_lss, binV_leq, binV_gtr, binV_geq, unV_not, nt, nf, Bool.false_eq_true, dt, df, decide_true, decide_false, withV_some, aggO_some, ptrTo_eq, ↓aO_some, aO_some, ↓andB_true, andB_true, gz, gs, seqC, retC, skipC, exitC, blockC, condC, cells_agg, Bool.true_or, Bool.false_or, Bool.or_true, Bool.or_false, Bool.true_and, Bool.false_and, Bool.and_true, Bool.and_false, r3.len, h8]
      exact hK _ _ _ (C.cond true (by simp only [↓opStep_eq, ↓reduceIte, tg_set, toTm_cons, toTm_nil, fieldPtr_ptr, Nat.add_zero, Nat.zero_add, Nat.reduceAdd, Nat.reduceEqDiff, Int.reduceEq, Int.reduceLT, Int.reduceLE, Int.reduceNe, ↓kO_some, ↓kA_some, ↓kH_some, kO_some, kA_some, kH_some, gd_true, gd_false, nthD_zero, nthD_succ, isB_true, isB_false, isB_undef, pickV_true, pickV_false, binV_add, binV_sub, binV_mul, binV_eql, binV_neq, binV_lss, binV_leq, binV_gtr, binV_geq, unV_not, nt, nf, Bool.false_eq_true, dt, df, decide_true, decide_false, withV_some, aggO_some, ptrTo_eq, ↓aO_some, aO_some, ↓andB_true, andB_true, gz, gs, seqC, retC, skipC, exitC, blockC, condC, cells_agg]) (fun g => C.seq fun K hK => hK .norm _ _ (C.ret ⟨.inr rfl, _, rfl, by simp only [↓opStep_eq, ↓reduceIte, tg_set, toTm_cons, toTm_nil, fieldPtr_ptr, Nat.add_zero, Nat.zero_add, Nat.reduceAdd, Nat.reduceEqDiff, Int.reduceEq, Int.reduceLT, Int.reduceLE, Int.reduceNe, ↓kO_some, ↓kA_some, ↓kH_some, kO_some, kA_some, kH_some, gd_true, gd_false, nthD_zero, nthD_succ, isB_true, isB_false, isB_undef, pickV_true, pickV_false, binV_add, binV_sub, binV_mul, binV_eql, binV_neq, binV_lss, binV_leq, binV_gtr, binV_geq, unV_not, nt, nf, Bool.false_eq_true, dt, df, decide_true, decide_false, withV_some, aggO_some, ptrTo_eq, ↓aO_some, aO_some, ↓andB_true, andB_true, gz, gs, seqC, retC, skipC, exitC, blockC, condC, cells_agg, resOf]⟩)) fun g => by cases g)
    · simp only [↓opStep_eq, ↓reduceIte, tg_set, toTm_cons, toTm_nil, fieldPtr_ptr, Nat.add_zero, Nat.zero_add, Nat.reduceAdd, Nat.reduceEqDiff, Int.reduceEq, Int.reduceLT, Int.reduceLE, Int.reduceNe, ↓kO_some, ↓kA_some, ↓kH_some, kO_some, kA_some, kH_some, gd_true, gd_false, nthD_zero, nthD_succ, isB_true, isB_false, isB_undef, pickV_true, pickV_false, binV_add, binV_sub, binV_mul, binV_eql, binV_neq, binV_lss, binV_leq, binV_gtr, binV_geq, unV_not, nt, nf, Bool.false_eq_true, dt, df, decide_true, decide_false, withV_some, aggO_some, ptrTo_eq, ↓aO_some, aO_some, ↓andB_true, andB_true, gz, gs, seqC, retC, skipC, exitC, blockC, condC, cells_agg, Bool.true_or, Bool.false_or, Bool.or_true, Bool.or_false, Bool.true_and, Bool.false_and, Bool.and_true, Bool.and_false, r3.len, h8]
      exact hK _ _ _ (C.cond false (by simp only [↓opStep_eq, ↓reduceIte, tg_set, toTm_cons, toTm_nil, fieldPtr_ptr, Nat.add_zero, Nat.zero_add, Nat.reduceAdd, Nat.reduceEqDiff, Int.reduceEq, Int.reduceLT, Int.reduceLE, Int.reduceNe, ↓kO_some, ↓kA_some, ↓kH_some, kO_some, kA_some, kH_some, gd_true, gd_false, nthD_zero, nthD_succ, isB_true, isB_false, isB_undef, pickV_true, pickV_false, binV_add, binV_sub, binV_mul, binV_eql, binV_neq, binV_lss, binV_leq, binV_gtr, binV_geq, unV_not, nt, nf, Bool.false_eq_true, dt, df, decide_true, decide_false, withV_some, aggO_some, ptrTo_eq, ↓aO_some, aO_some, ↓andB_true, andB_true, gz, gs, seqC, retC, skipC, exitC, blockC, condC, cells_agg]) (fun g => by cases g) fun g => C.skip (rest _ rfl (by omega) (by simp only [↓opStep_eq, ↓reduceIte, tg_set, toTm_cons, toTm_nil, fieldPtr_ptr, Nat.add_zero, Nat.zero_add, Nat.reduceAdd, Nat.reduceEqDiff, Int.reduceEq, Int.reduceLT, Int.reduceLE, Int.reduceNe, ↓kO_some, ↓kA_some, ↓kH_some, kO_some, kA_some, kH_some, gd_true, gd_false, nthD_zero, nthD_succ, isB_true, isB_false, isB_undef, pickV_true, pickV_false, binV_add, binV_sub, binV_mul, binV_eql, binV_neq, binV_lss, binV_leq, binV_gtr, binV_geq, unV_not, nt, nf, Bool.false_eq_true, dt, df, decide_true, decide_false, withV_some, aggO_some, ptrTo_eq, ↓aO_some, aO_some, ↓andB_true, andB_true, gz, gs, seqC, retC, skipC, exitC, blockC, condC, cells_agg]) (by simp only [↓opStep_eq, ↓reduceIte, tg_set, toTm_cons, toTm_nil, fieldPtr_ptr, Nat.add_zero, Nat.zero_add, Nat.reduceAdd, Nat.reduceEqDiff, Int.reduceEq, Int.reduceLT, Int.reduceLE, Int.reduceNe, ↓kO_some, ↓kA_some, ↓kH_some, kO_some, kA_some, kH_some, gd_true, gd_false, nthD_zero, nthD_succ, isB_true, isB_false, isB_undef, pickV_true, pickV_false, binV_add, binV_sub, binV_mul, binV_eql, binV_neq, binV_lss, binV_leq, binV_gtr, binV_geq, unV_not, nt, nf, Bool.false_eq_true, dt, df, decide_true, decide_false, withV_some, aggO_some, ptrTo_eq, ↓aO_some, aO_some, ↓andB_true, andB_true, gz, gs, seqC, retC, skipC, exitC, blockC, condC, cells_agg])))
  · simp only [↓opStep_eq, ↓reduceIte, tg_set, toTm_cons, toTm_nil, fieldPtr_ptr, Nat.add_zero, Nat.zero_add, Nat.reduceAdd, Nat.reduceEqDiff, Int.reduceEq, Int.reduceLT, Int.reduceLE, Int.reduceNe, ↓kO_some, ↓kA_some, ↓kH_some, kO_some, kA_some, kH_some, gd_true, gd_false, nthD_zero, nthD_succ, isB_true, isB_false, isB_undef, pickV_true, pickV_false, binV_add, binV_sub, binV_mul, binV_eql, binV_neq, binV_lss, binV_leq, binV_gtr, binV_geq, unV_not, nt, nf, Bool.false_eq_true, dt, df, decide_true, decide_false, withV_some, aggO_some, ptrTo_eq, ↓aO_some, aO_some, ↓andB_true, andB_true, gz, gs, seqC, retC, skipC, exitC, blockC, condC, cells_agg, Bool.true_or, Bool.false_or, Bool.or_true, Bool.or_false, Bool.true_and, Bool.false_and, Bool.and_true, Bool.and_false]
    exact hK _ _ _ (C.cond true (by simp only [↓opStep_eq, ↓reduceIte, tg_set, toTm_cons, toTm_nil, fieldPtr_ptr, Nat.add_zero, Nat.zero_add, Nat.reduceAdd, Nat.reduceEqDiff, Int.reduceEq, Int.reduceLT, Int.reduceLE, Int.reduceNe, ↓kO_some, ↓kA_some, ↓kH_some, kO_some, kA_some, kH_some, gd_true, gd_false, nthD_zero, nthD_succ, isB_true, isB_false, isB_undef, pickV_true, pickV_false, binV_add, binV_sub, binV_mul, binV_eql, binV_neq, binV_lss, binV_leq, binV_gtr, binV_geq, unV_not, nt, nf, Bool.false_eq_true, dt, df, decide_true, decide_false, withV_some, aggO_some, ptrTo_eq, ↓aO_some, aO_some, ↓andB_true, andB_true, gz, gs, seqC, retC, skipC, exitC, blockC, condC, cells_agg]) (fun g => C.seq fun K hK => hK .norm _ _ (C.ret ⟨.inr rfl, _, rfl, by simp only [↓opStep_eq, ↓reduceIte, tg_set, toTm_cons, toTm_nil, fieldPtr_ptr, Nat.add_zero, Nat.zero_add, Nat.reduceAdd, Nat.reduceEqDiff, Int.reduceEq, Int.reduceLT, Int.reduceLE, Int.reduceNe, ↓kO_some, ↓kA_some, ↓kH_some, kO_some, kA_some, kH_some, gd_true, gd_false, nthD_zero, nthD_succ, isB_true, isB_false, isB_undef, pickV_true, pickV_false, binV_add, binV_sub, binV_mul, binV_eql, binV_neq, binV_lss, binV_leq, binV_gtr, binV_geq, unV_not, nt, nf, Bool.false_eq_true, dt, df, decide_true, decide_false, withV_some, aggO_some, ptrTo_eq, ↓aO_some, aO_some, ↓andB_true, andB_true, gz, gs, seqC, retC, skipC, exitC, blockC, condC, cells_agg, resOf]⟩)) fun g => by cases g)
end Go.Proofs.Ytpaolklbogakgaa

namespace Go.Proofs.Ytpaolklbogakgaa
open Go.Ev Go.RowKit

section
variable {H : Type} {enc : TypeId × Value → H}
/-- an answer that lies in memory, as the evaluator has it -/
theorem answer_at {W : World} {n : Nat} {v : Value} {x : DataW H × List MemPlace} (hok : Value.okWide Try.prog W .any 0 27 v) (h : DataW.trod enc Try.prog W 0 (fun _ => true) true n 27 v.cells.toList = some x) :
    ∃ o : Option (List Value × CB), (∀ p, o = some p → RosOk W p) ∧ ∀ (B : Nat) (σ : Sg) (h0 : Ev.H), (∀ p, o = some p → Has h0 B (.ro p.1) ∧ σ B = some p.2) → ∃ a : Ans, a.ok ∧ ItemsAt h0 a.r.iv a.r.items ∧ ones a.r.cells = true ∧ VR σ a.v v := by
  unfold Value.okWide at hok
  rw [u27] at hok
  obtain ⟨cs, rfl, hsz, ts, hts, _, hrow⟩ := hok
  rw [ct27] at hts
  cases hts
  obtain ⟨kind, of, rk, num, yes, key, iv, hcs, o1, o2, o3, o4, m, y, hs⟩ := open_answer h
  simp only [cells_agg] at hcs
  have vr : ∀ (σ : Sg) (iv' : Value), VR σ iv' iv → ∀ items, VR σ (Ans.v ⟨kind, of, ⟨rk, iv', num, items⟩, yes, key⟩) (.agg cs) := fun σ iv' hv items => by
    have hl : LR σ [Value.int .u8 kind, .int .u8 of, .int .u8 rk, iv', .int .u64 num, .bool yes, .string key] cs.toList := by
      rw [hcs]
      exact .cons (.int _ _) (.cons (.int _ _) (.cons (.int _ _) (.cons hv (.cons (.int _ _) (.cons (.bool _) (.cons (.string _) (.nil _)))))))
    refine .agg _ _ (by simpa [Ans.cells] using hl.1) fun i x y hx hy => hl.2 i x y (by simpa [Ans.cells] using hx) (by simpa using hy)
  rcases DataW.trod_slice u22 hs with ⟨e, _⟩ | ⟨a, len, cap, elems, rest, m', _, e, _, _, hlc, hcm, hlen, hel, _, _⟩
  · simp only [List.cons.injEq, and_true] at e
    subst e
    exact ⟨none, (fun p h => by cases h), fun B σ h0 _ => ⟨⟨kind, of, ⟨rk, .slice none 0 0, num, []⟩, yes, key⟩, ⟨o1, o2, o3, o4, fun x hx => by cases hx⟩, .inl ⟨rfl, rfl⟩, rfl, vr _ _ (.slNil _ _) _⟩⟩
  · simp only [List.cons.injEq, and_true] at e
    subst e
    -- where it lies
    have hcell : cs[3]? = some (.slice (some a) len cap) := by
      have : cs.toList[3]? = some (.slice (some a) len cap) := by rw [hcs]; rfl
      simpa using this
    obtain ⟨u, hu, hco⟩ := hrow 3 _ hcell
    have hu22 : u = 22 := by simpa using hu.symm
    subst hu22
    have hok2 : Cell.ok Try.prog W .any 0 22 (.slice (some a) len cap) := by
      unfold Cell.okWide at hco
      rw [u22] at hco
      exact hco
    unfold Cell.ok at hok2
    rw [u22] at hok2
    obtain ⟨_, _, _, hspot, row, cells, hshape, _⟩ := hok2
    have hblk : a.block < W.heap.size := by
      unfold World.shape? at hshape
      split at hshape
      · rename_i c el _ hh
        exact (Array.getElem?_eq_some_iff.1 hh).1
      · cases hshape
    have hone : ∀ i : Fin len, ∃ it : Itm, it.ok ∧ W.cells? 0 (a.add (i.val * 5)) 5 = some it.cells := fun i => by
      have h1 := hel i.val i.isLt
      rw [s43, List.getElem?_eq_getElem (by omega)] at h1
      simp only [Option.bind_eq_some_iff] at h1
      obtain ⟨c5, h2, h3⟩ := h1
      obtain ⟨it, h4, rfl⟩ := open_item h3
      exact ⟨it, h4, h2⟩
    obtain ⟨f, hf⟩ := Classical.axiomOfChoice hone
    let items := List.ofFn f
    have hil : items.length = len := by simp [items]
    have hit : ∀ (i : Nat) (x : Itm), items[i]? = some x → x.ok ∧ ∀ k, k < 5 → W.cell? ⟨a.block, a.off + (i * 5 + k), none⟩ = x.cells[k]? := fun i x hx => by
      have hlt : i < len := by
        by_cases hlt : i < len
        · exact hlt
        · rw [List.getElem?_eq_none (by omega)] at hx; cases hx
      have hx' : f ⟨i, hlt⟩ = x := by simpa [items, hlt] using hx
      obtain ⟨h1, h2⟩ := hf ⟨i, hlt⟩
      rw [hx'] at h1 h2
      refine ⟨h1, fun k hk => ?_⟩
      have h3 := (World.cells?_some h2).2.2 k hk
      rw [← h3]
      obtain ⟨ab, ao, asp⟩ := a
      simp only at hspot
      subst hspot
      simp only [Addr.add]
      by_cases e1 : i * 5 = 0
      · by_cases e2 : k = 0
        · simp [e1, e2]
        · simp [e1, e2]
      · by_cases e2 : k = 0
        · simp [e1, e2]
        · simp [e1, e2, Nat.add_assoc]
    have hcells : ∀ j v, (cellsOf items)[j]? = some v → W.cell? ⟨a.block, a.off + j, none⟩ = some v ∧ cstOk v = true := fun j v hv => by
      obtain ⟨i, k, x, h1, rfl, h3, h4⟩ := cellsOf_at items j v hv
      exact ⟨by rw [(hit i x h1).2 k h3, h4], item_cst h4⟩
    refine ⟨some (cellsOf items, ⟨a.block, a.off, 5 * len, 5⟩), fun p h => ?_, fun B σ h0 hB => ?_⟩
    · simp only [Option.some.injEq] at h; subst h; exact ⟨hblk, hcells⟩
    obtain ⟨hh, hσ⟩ := hB _ rfl
    have hV : VR σ (.slice (some ⟨B, 0, none⟩) len cap) (.slice (some a) len cap) := by
      have := VR.sl (σ := σ) B 0 len cap ⟨a.block, a.off, 5 * len, 5⟩ hσ (by have := hcm; unfold maxLen at this; unfold OPEN; omega)
      obtain ⟨ab, ao, asp⟩ := a
      simp only at hspot
      subst hspot
      exact this
    refine ⟨⟨kind, of, ⟨rk, .slice (some ⟨B, 0, none⟩) len cap, num, items⟩, yes, key⟩, ⟨o1, o2, o3, o4, fun x hx => ?_⟩, .inr ⟨B, 0, cap, _, _, by rw [hil], hh, rfl, by rw [cellsOf_len, Nat.zero_add]; exact Nat.le_refl _, ?_⟩, rfl, vr _ _ hV _⟩
    · obtain ⟨i, hi⟩ := List.getElem?_of_mem hx
      exact (hit i x hi).1
    · rw [List.drop_zero, List.take_of_length_le (by rw [cellsOf_len]; exact Nat.le_refl _)]

/-- bytes that lie in memory, as the evaluator has them -/
theorem bytes_at {W : World} {n : Nat} {v : Value} {x : DataW H × List MemPlace} (hok : Value.okWide Try.prog W .any 0 29 v) (h : DataW.trod enc Try.prog W 0 (fun _ => true) true n 29 v.cells.toList = some x) :
    ∃ o : Option (List Value × CB), (∀ p, o = some p → RosOk W p) ∧ ∀ (B : Nat) (σ : Sg) (h0 : Ev.H), (∀ p, o = some p → Has h0 B (.ro p.1) ∧ σ B = some p.2) → ∃ (v' : Value) (l : List UInt8), Rd h0 v' l ∧ VR σ v' v := by
  have hok2 : Cell.ok Try.prog W .any 0 29 v := by
    unfold Value.okWide at hok
    rw [u29] at hok
    unfold Cell.okWide at hok
    rw [u29] at hok
    exact hok
  rcases DataW.trod_slice u29 h with ⟨e, _⟩ | ⟨a, len, cap, elems, rest, m', _, e, _, _, hlc, hcm, hlen, hel, _, _⟩
  · have hv : v = .slice none 0 0 := by
      cases v <;> simp [Value.cells] at e
      case slice => simp_all
      case agg => exfalso; unfold Cell.ok at hok2; rw [u29] at hok2; exact hok2
    subst hv
    exact ⟨none, (fun p h => by cases h), fun B σ h0 _ => ⟨.slice none 0 0, [], .inl ⟨rfl, rfl⟩, .slNil _ _⟩⟩
  · have hv : v = .slice (some a) len cap := by
      cases v <;> simp [Value.cells] at e
      case slice => simp_all
      case agg => exfalso; unfold Cell.ok at hok2; rw [u29] at hok2; exact hok2
    subst hv
    unfold Cell.ok at hok2
    rw [u29] at hok2
    obtain ⟨_, _, _, hspot, row, cells, hshape, _⟩ := hok2
    have hblk : a.block < W.heap.size := by
      unfold World.shape? at hshape
      split at hshape
      · rename_i c el _ hh
        exact (Array.getElem?_eq_some_iff.1 hh).1
      · cases hshape
    have hone : ∀ i : Fin len, ∃ y : UInt8, W.cells? 0 (a.add (i.val * 1)) 1 = some [bv y] := fun i => by
      have h1 := hel i.val i.isLt
      rw [s5, List.getElem?_eq_getElem (by omega)] at h1
      simp only [Option.bind_eq_some_iff] at h1
      obtain ⟨c5, h2, h3⟩ := h1
      obtain ⟨z, rfl, _, w⟩ := DataW.trod_int u5 h3
      have := bounds_u8 w
      refine ⟨UInt8.ofNat z.toNat, ?_⟩
      have hz : bv (UInt8.ofNat z.toNat) = .int .u8 z := by
        unfold bv
        congr 1
        rw [UInt8.toNat_ofNat_of_lt' (by simp [UInt8.size]; omega)]
        omega
      rw [hz]; exact h2
    obtain ⟨f, hf⟩ := Classical.axiomOfChoice hone
    let l := List.ofFn f
    have hil : l.length = len := by simp [l]
    have hcells : ∀ j v, (l.map bv)[j]? = some v → W.cell? ⟨a.block, a.off + j, none⟩ = some v ∧ cstOk v = true := fun j v hv => by
      rw [List.getElem?_map] at hv
      obtain ⟨y, hy, rfl⟩ := Option.map_eq_some_iff.1 hv
      have hlt : j < len := by
        by_cases hlt : j < len
        · exact hlt
        · rw [List.getElem?_eq_none (by omega)] at hy; cases hy
      have hy' : f ⟨j, hlt⟩ = y := by simpa [l, hlt] using hy
      have h2 := hf ⟨j, hlt⟩
      rw [hy'] at h2
      refine ⟨?_, rfl⟩
      have h3 := (World.cells?_some h2).2.2 0 (by omega)
      have e0 : [bv y][0]? = some (bv y) := rfl
      rw [e0] at h3
      rw [← h3]
      obtain ⟨ab, ao, asp⟩ := a
      simp only at hspot
      subst hspot
      simp only [Addr.add, Nat.mul_one]
      by_cases e1 : j = 0
      · simp [e1]
      · simp [e1]
    have hcO : cap < OPEN := by have := hcm; unfold maxLen at this; unfold OPEN; omega
    have hble : Nat.ble OPEN cap = false := by
      rw [Bool.eq_false_iff]; intro e; have := Nat.le_of_ble_eq_true e; omega
    refine ⟨some (l.map bv, ⟨a.block, a.off, 1 * len, 1⟩), fun p h => ?_, fun B σ h0 hB => ?_⟩
    · simp only [Option.some.injEq] at h; subst h; exact ⟨hblk, hcells⟩
    obtain ⟨hh, hσ⟩ := hB _ rfl
    have hV : VR σ (.slice (some ⟨B, 0, none⟩) len cap) (.slice (some a) len cap) := by
      have := VR.sl (σ := σ) B 0 len cap ⟨a.block, a.off, 1 * len, 1⟩ hσ hcO
      obtain ⟨ab, ao, asp⟩ := a
      simp only at hspot
      subst hspot
      exact this
    exact ⟨.slice (some ⟨B, 0, none⟩) len cap, l, .inr ⟨B, 0, cap, _, _, by rw [hil], hh, rfl, by simp, by rw [List.drop_zero, List.take_of_length_le (by simp)], .inr ⟨hble, by omega⟩⟩, hV⟩

/-- the walk -/
theorem packedBack_walk {W : World} {n1 n2 : Nat} {v1 v2 : Value} {x1 x2 : DataW H × List MemPlace} (hok1 : Value.okWide Try.prog W .any 0 27 v1) (h1 : DataW.trod enc Try.prog W 0 (fun _ => true) true n1 27 v1.cells.toList = some x1)
    (hok2 : Value.okWide Try.prog W .any 0 29 v2) (h2 : DataW.trod enc Try.prog W 0 (fun _ => true) true n2 29 v2.cells.toList = some x2) :
    Calls Try.prog 6 #[v1, v2] W fun e W' => e = .returned (.bool true) ∧ Below W.heap.size W W' := by
  obtain ⟨o1, p1, q1⟩ := answer_at hok1 h1
  obtain ⟨o2, p2, q2⟩ := bytes_at hok2 h2
  have r : Rel (rosσ [o1, o2]) (rosH [o1, o2]) W := ros_rel fun p hp => by
    simp only [List.mem_cons, List.not_mem_nil, or_false] at hp
    rcases hp with h | h
    · exact p1 p h.symm
    · exact p2 p h.symm
  obtain ⟨a, ok, hi, ho, va⟩ := q1 0 (rosσ [o1, o2]) (rosH [o1, o2]) fun p hp => ros_has (by rw [hp]; rfl)
  obtain ⟨v', l, hr, vb⟩ := q2 1 (rosσ [o1, o2]) (rosH [o1, o2]) fun p hp => ros_has (by rw [hp]; rfl)
  exact calls_of_sp gor Try.checked.mixed xok Try.func6 (by kernel_rfl) (back_law 30000 0 a v' l (rosH [o1, o2]) ok hi hr (by decide) ho) r (fun g hg => absurd hg (Nat.not_lt_zero _)) (.cons va (.cons vb (.nil _))) ros_ro
end
end Go.Proofs.Ytpaolklbogakgaa
