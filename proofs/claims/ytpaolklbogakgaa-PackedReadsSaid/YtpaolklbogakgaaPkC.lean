import Derived.Test.YtpaolklbogakgaaPkB
import Derived.Test.YtpaolklbogakgaaEvW
set_option linter.unusedSimpArgs false
set_option linter.unusedVariables false
namespace Go.Proofs.Ytpaolklbogakgaa
open Go.Ev
noncomputable abbrev CF (L n : Nat) : CallT := callF Try.prog (maskOf masks) outside NG L n

/-- a number in one to ten bytes -/
def small (n : Nat) : List UInt8 := if n < 128 then [UInt8.ofNat n] else (UInt8.ofNat n ||| 128) :: small (n / 128)

theorem small_len : ∀ (k n : Nat), n < 128 ^ k → 0 < k → (small n).length ≤ k
  | 0, n, _, h => absurd h (by decide)
  | k + 1, n, h, _ => by
    unfold small
    split
    · simp
    · rename_i hn
      have : k ≠ 0 := by rintro rfl; omega
      have := small_len k (n / 128) (by rw [Nat.pow_succ] at h; exact Nat.div_lt_of_lt_mul (by omega)) (by omega)
      simp; omega

theorem code_small (L n : Nat) (hL : 100 < L) (x : Nat) (hx : x < 18446744073709551616) (h : H) :
    Sp (CF L (n + 1)) 29 [.int .u64 (x : Int)] h fun v h' => Mine h' v (small x) ∧ Keep nobody h h' ∧ ∀ b, blk v b → h.next ≤ b := by
  refine Sp.body f29 (by simp) ?_
  unfold c29
  refine C.seq fun K hK => hK .norm _ _ ?_
  refine C.seq fun K hK => hK .norm _ _ ?_
  have hlen := small_len 10 x (by omega) (by omega)
  refine C.seq (C.block (C.loop (fun k tm h1 => ∃ (y : Nat) (pre : List UInt8) (v : Value), k = (small y).length ∧ tg tm 0 = .int .u64 (y : Int) ∧ tg tm 3 = v ∧ Mine h1 v pre ∧ pre ++ small y = small x ∧ Keep nobody h h1 ∧ (∀ b, blk v b → h.next ≤ b)) (small x).length (by omega)
    ⟨x, [], .slice none 0 0, rfl, by simp, by simp, .nil, rfl, .refl _ _, by simp⟩ ?_))
  rintro k tm h1 ⟨y, pre, v, rfl, ht0, ht3, hm, hs, hk, hf⟩
  have hpl : pre.length + (small y).length ≤ 10 := by rw [← List.length_append, hs]; exact hlen
  have hyp : 0 < (small y).length := by unfold small; split <;> simp
  unfold l29_5
  refine C.seq (C.seq fun K hK => ?_)
  simp only [r29_2, ht0, binV_gtr, kO_some]
  refine hK .norm _ _ (C.cond (decide ((127 : Int) < y)) (by simp) (fun hy => C.skip ?_) fun hy => C.exit ?_)
  · have hy : 128 ≤ y := by simp at hy; omega
    refine C.seq (C.block fun K hK => ?_)
    obtain ⟨v', h2, e1, e2, e3, e4⟩ := app_lit (bs := [UInt8.ofNat y ||| 128]) hm (by simp; omega)
    have h128 : Value.int .u8 128 = bv 128 := rfl
    simp only [List.length_cons, List.length_nil, List.map_cons, List.map_nil, Nat.zero_add] at e1
    simp [r29_4, ht0, ht3, toInt_u8, h128, binV_or_u8, lit1, e1]
    refine hK .norm _ _ ?_
    intro K hK
    have hs2 : small y = (UInt8.ofNat y ||| 128) :: small (y / 128) := by rw [small, if_neg (by omega)]
    have hdiv : (y : Int).fdiv 128 = ((y / 128 : Nat) : Int) := by
      rw [Int.fdiv_eq_ediv_of_nonneg _ (by omega)]; rfl
    simp [r29_3, ht0, binV_shr, IntKind.bits, hdiv]
    refine hK .norm _ _ ⟨(small (y / 128)).length, by rw [hs2]; simp, y / 128, pre ++ [UInt8.ofNat y ||| 128], v', rfl, by simp, by simp, e2, by rw [List.append_assoc]; simpa [hs2] using hs, hk.trans e3 fun b h1 h2 => absurd (hf b h2) (by omega), fun b hb => (e4 b hb).elim (hf b) fun h => Nat.le_trans hk.next h⟩
  · have hy : y < 128 := by simp at hy; omega
    simp only [if_pos]
    refine C.seq fun K hK => ?_
    obtain ⟨v', h2, e1, e2, e3, e4⟩ := app_lit (bs := [UInt8.ofNat y]) hm (by simp; omega)
    simp only [List.length_cons, List.length_nil, List.map_cons, List.map_nil, Nat.zero_add] at e1
    have hs2 : small y = [UInt8.ofNat y] := by rw [small, if_pos (by omega)]
    simp [r29_5, ht0, ht3, toInt_u8, lit1, e1]
    refine hK .norm _ _ (C.ret ⟨.inr rfl, [v'], by simp [q29], ?_, hk.trans e3 fun b h1 h2 => absurd (hf b h2) (by omega), fun b hb => (e4 b hb).elim (hf b) fun h => Nat.le_trans hk.next h⟩)
    rw [← hs, hs2]; exact e2
end Go.Proofs.Ytpaolklbogakgaa
