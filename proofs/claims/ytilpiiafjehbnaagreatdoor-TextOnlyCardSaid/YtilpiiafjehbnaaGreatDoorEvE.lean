import Derived.Test.YtilpiiafjehbnaaGreatDoorEvD
namespace Go.Ev
open Go.RowKit
set_option linter.unusedSimpArgs false
set_option linter.unusedVariables false
variable {P : Program} {σ : Sg}
theorem intOp_sound {op : BinOp} {k : IntKind} {x y : Int} {v : Value} (h : (intOp op).f k x y = some v) (t : TypeId) (w : World) : VR σ v v ∧ (binOp op t (.int k x) (.int k y)).run P w = .ok v w := by
 cases op <;> simp only [intOp] at h
 case quo =>
   rw [iEq_eq] at h
   split at h
   · cases h
   · rename_i hb
     simp only [Option.some.injEq] at h; subst h
     have : y ≠ 0 := by simpa using hb
     exact ⟨.int _ _, by simp [binOp, Op.intDiv, this]⟩
 case rem =>
   rw [iEq_eq] at h
   split at h
   · cases h
   · rename_i hb
     simp only [Option.some.injEq] at h; subst h
     have : y ≠ 0 := by simpa using hb
     exact ⟨.int _ _, by simp [binOp, Op.intDiv, this]⟩
 all_goals first
   | (cases h; done)
   | (simp only [Option.some.injEq] at h; subst h
      first
        | (refine ⟨.int _ _, ?_⟩; simp [binOp, Op.intArith]; done)
        | (refine ⟨.bool _, ?_⟩; simp [binOp, Op.intCmp, iEq_eq, iLt_eq, bne]; done)
        | (refine ⟨.bool _, ?_⟩; simp [binOp, Op.intCmp, iEq_eq, iLt_eq, bne]; rw [Bool.eq_iff_iff]; simp))
theorem pureRun_int {op : BinOp} {k k' : IntKind} {x y : Int} {t : TypeId} {v : Value} (h : pureRun P (binOp op t (.int k x) (.int k' y)) = some v) (w : World) : VR σ v v ∧ (binOp op t (.int k x) (.int k' y)).run P w = .ok v w := by
 by_cases hs : op = .shl ∨ op = .shr
 · by_cases hy : y < 0
   · rcases hs with rfl | rfl <;> simp [pureRun, binOp, Op.shift, hy, runtimePanic] at h
   · rcases hs with rfl | rfl <;> simp only [binOp, Op.shift, hy, if_false] at h ⊢ <;> obtain rfl := Option.some.inj h <;> exact ⟨.int _ _, rfl⟩
 · by_cases hk : k = k'
   · subst hk
     cases op <;> simp at hs
     case quo =>
       by_cases hy : y = 0
       · simp [pureRun, binOp, Op.intDiv, hy, runtimePanic] at h
       · simp only [binOp, Op.intDiv, hy, if_false, ne_eq, not_true_eq_false] at h ⊢; obtain rfl := Option.some.inj h; exact ⟨.int _ _, rfl⟩
     case rem =>
       by_cases hy : y = 0
       · simp [pureRun, binOp, Op.intDiv, hy, runtimePanic] at h
       · simp only [binOp, Op.intDiv, hy, if_false, ne_eq, not_true_eq_false] at h ⊢; obtain rfl := Option.some.inj h; exact ⟨.int _ _, rfl⟩
     all_goals
       simp only [binOp, Op.intArith, Op.intBits, Op.intCmp, if_false, ne_eq, not_true_eq_false] at h ⊢
       obtain rfl := Option.some.inj h
       first
         | exact ⟨.int _ _, rfl⟩
         | exact ⟨.bool _, rfl⟩
   · cases op <;> simp at hs <;> simp [pureRun, binOp, hk] at h
theorem less_not : ∀ (x y : List UInt8), Op.bytesLess y x = !(Op.bytesLess x y || x == y)
 | [], [] => rfl
 | [], _ :: _ => rfl
 | _ :: _, [] => rfl
 | a :: x, b :: y => by
   have ih := less_not x y
   simp only [Op.bytesLess]
   rcases Nat.lt_trichotomy a.toNat b.toNat with h | h | h
   · have h1 : a < b := h
     have h2 : ¬ b < a := fun k => Nat.lt_asymm h k
     have h3 : a ≠ b := fun e => by subst e; exact Nat.lt_irrefl _ h
     have h4 : b ≠ a := fun e => h3 e.symm
     simp [h1, h2, h3, h4]
   · have h3 : a = b := UInt8.toNat_inj.1 h
     subst h3
     have h2 : ¬ a < a := fun k => Nat.lt_irrefl _ k
     simp [h2, ih]
   · have h1 : b < a := h
     have h2 : ¬ a < b := fun k => Nat.lt_asymm h k
     have h3 : a ≠ b := fun e => by subst e; exact Nat.lt_irrefl _ h
     simp [h1, h2, h3]
theorem strV_sound {op : BinOp} {x y : ByteArray} {v : Value} (h : strV op x y = some v) (t : TypeId) (w : World) : VR σ v v ∧ (binOp op t (.string x) (.string y)).run P w = .ok v w := by
 have e : ∀ a b : ByteArray, (a.toList == b.toList) = (a.data.toList == b.data.toList) := fun a b => by rw [ByteArray.toList_eq, ByteArray.toList_eq]
 cases op <;> simp only [strV] at h
 case add =>
   unfold catV at h
   split at h
   · rename_i hb
     have := Nat.le_of_ble_eq_true hb
     simp only [Option.some.injEq] at h; subst h
     refine ⟨.string _, ?_⟩
     have hc : ¬ (((x.size + y.size : Nat) : Int) > IntKind.i64.max) := by
       simp [IntKind.max, IntKind.signed, IntKind.bits]; omega
     have hcat : (⟨(x.data.toList ++ y.data.toList).toArray⟩ : ByteArray) = x ++ y := by
       apply ByteArray.ext; apply Array.ext'; simp
     simp only [binOp, Op.stringOp, hc, if_false, Sem.run_pure, hcat]
   · cases h
 all_goals first
   | (cases h; done)
   | (simp only [Option.some.injEq] at h; subst h
      refine ⟨.bool _, ?_⟩
      simp only [binOp, Op.stringOp, Sem.run_pure, leB_eq, ltB_eq, ByteArray.toList_eq]
      all_goals first
        | rfl
        | (rw [less_not x.data.toList y.data.toList]; done)
        | (rw [less_not x.data.toList y.data.toList]; simp; done)
        | (rw [less_not y.data.toList x.data.toList]; simp; done))
theorem part_run {t : TypeId} {b : Bool} {cs cs' : List Value} {off : Nat} {v : Value} (hc : LR σ cs cs') (he : isAgg? P t = some b) (h : partV b (P.cellsOf t) cs off = some v) (w : World) :
   ∃ v', VR σ v v' ∧ (part t cs'.toArray off).run P w = .ok v' w := by
 obtain ⟨v', hv, hr⟩ := partV_sound (P := P) hc he h
 exact ⟨v', hv, hr w⟩
theorem eqV_sound : ∀ (d : Nat),
   (∀ (t : TypeId) (x y x' y' : Value) (r : Bool), eqV P d t x y = some r → VR σ x x' → VR σ y y' → ∀ D, d ≤ D → ∀ w, (Op.equalIn D t x' y').run P w = .ok r w) ∧
   (∀ (xs ys xs' ys' : List Value) (l : List Field) (r : Bool), eqFs P d xs ys l = some r → LR σ xs xs' → LR σ ys ys' → ∀ D, d ≤ D → ∀ w, (Op.eqFields D xs'.toArray ys'.toArray l).run P w = .ok r w)
 | 0 => ⟨fun t x y x' y' r h => by simp [eqV] at h, fun xs ys xs' ys' l r h => by simp [eqFs] at h⟩
 | d + 1 => by
   obtain ⟨ih1, ih2⟩ := eqV_sound d
   refine ⟨fun t x y x' y' r h hx hy D hD w => ?_, fun xs ys xs' ys' l r h hx hy D hD w => ?_⟩
   · obtain ⟨D, rfl⟩ : ∃ m, D = m + 1 := ⟨D - 1, by omega⟩
     simp only [eqV] at h
     split at h
     · rename_i hu
       split at h
       · rename_i a b
         simp only [Option.some.injEq] at h; subst h
         rw [hx.bool_inv, hy.bool_inv, run_equalIn_bool' w D t a b hu, bEq_eq]
       · cases h
     · rename_i k hu
       split at h
       · rename_i ka a kb b
         split at h
         · rename_i hk
           have := kEq_eq hk; subst this
           simp only [Option.some.injEq] at h; subst h
           rw [hx.int_inv, hy.int_inv, run_equalIn_int w D t _ _ a b hu, iEq_eq]
         · cases h
       · cases h
     · rename_i hu
       split at h
       · rename_i a b
         simp only [Option.some.injEq] at h; subst h
         rw [hx.string_inv, hy.string_inv, run_equalIn_string w D t a b hu, leB_eq, ByteArray.toList_eq, ByteArray.toList_eq]
       · cases h
     · rename_i fs hu
       split at h
       · rename_i hp
         split at h
         · rename_i a b
           cases hx with
           | agg _ a' ha ka =>
             cases hy with
             | agg _ b' hb kb =>
               have hf : P.fieldsOf t = fs := by simp [Program.fieldsOf, hu]
               have := ih2 _ _ _ _ _ _ h (LR.of_arrays ha ka) (LR.of_arrays hb kb) D (by omega) w
               rw [run_equalIn_struct w D t a' b' (by rw [hf]; exact hu) hp, hf]
               simpa using this
         · cases h
       · cases h
     · cases h
   · simp only [eqFs] at h
     split at h
     · simp only [Option.some.injEq] at h; subst h; rfl
     · rename_i f r'
       split at h
       · rename_i b hn hb
         split at h
         · rename_i x y hpx hpy
           obtain ⟨x', hx1, hx2⟩ := part_run (P := P) hx hb hpx w
           obtain ⟨y', hy1, hy2⟩ := part_run (P := P) hy hb hpy w
           have hne : f.name ≠ "_" := by simpa using hn
           have hD1 : ∃ D', D = D' + 1 := ⟨D - 1, by omega⟩
           split at h
           · rename_i he
             have h1 := ih1 _ _ _ _ _ _ he hx1 hy1 D (by omega) w
             have h2 := ih2 _ _ _ _ _ _ h hx hy D (by omega) w
             simp only [Op.eqFields, hne, ne_eq, not_false_eq_true, if_true, Sem.run_bind, hx2, hy2, h1, Result.andThen_ok, Bool.not_true, Bool.false_eq_true, if_false]
             exact h2
           · rename_i he
             simp only [Option.some.injEq] at h; subst h
             have h1 := ih1 _ _ _ _ _ _ he hx1 hy1 D (by omega) w
             simp only [Op.eqFields, hne, ne_eq, not_false_eq_true, if_true, Sem.run_bind, hx2, hy2, h1, Result.andThen_ok, Bool.not_false, Sem.run_pure]
           · cases h
         · cases h
       · cases h
theorem boolRes_some {op : BinOp} {r : Option Bool} {v : Value} (h : boolRes op r = some v) : ∃ b, r = some b ∧ ((op = .eql ∧ v = .bool b) ∨ (op = .neq ∧ v = .bool (!b))) := by
 unfold boolRes at h
 cases r with
 | none => cases h
 | some b => cases op <;> simp_all
theorem eql_of {op : BinOp} {t : TypeId} {x y v : Value} {b : Bool} (hv : (op = .eql ∧ v = .bool b) ∨ (op = .neq ∧ v = .bool (!b))) (hq : ∀ w, (Op.equalIn 10000 t x y).run P w = .ok b w)
   (hshape : (∀ k n, x ≠ .int k n) ∧ (∀ s, x ≠ .string s) ∧ (∀ k n, x ≠ .float k n) ∧ (∀ k a b, x ≠ .complex k a b)) (w : World) : VR σ v v ∧ (binOp op t x y).run P w = .ok v w := by
 obtain ⟨h1, h2, h3, h4⟩ := hshape
 rcases hv with ⟨rfl, rfl⟩ | ⟨rfl, rfl⟩
 all_goals
   refine ⟨.bool _, ?_⟩
   have hq' : (Op.equal t x y).run P w = .ok b w := hq w
   cases x <;> first
     | (exact absurd rfl (h1 _ _))
     | (exact absurd rfl (h2 _))
     | (exact absurd rfl (h3 _ _))
     | (exact absurd rfl (h4 _ _ _))
     | (simp only [binOp, Sem.run_bind, hq', Result.andThen_ok, Sem.run_pure])
theorem aggEq_sound {op : BinOp} {t : TypeId} {a b : Array Value} {x' y' v : Value} (hx : VR σ (.agg a) x') (hy : VR σ (.agg b) y') (h : aggEq P op t (.agg a) (.agg b) = some v) (x y : Operand) (w : World) :
   VR σ v v ∧ (do eqGuard op t x y x' y'; binOp op t x' y' : Sem Value).run P w = .ok v w := by
 unfold aggEq at h
 split at h
 · rename_i hg
   obtain ⟨r, hr, hv⟩ := boolRes_some h
   have hq := (eqV_sound (P := P) (σ := σ) 200).1 _ _ _ _ _ _ hr hx hy 10000 (by omega)
   cases hx with
   | agg _ a' ha ka =>
     cases hy with
     | agg _ b' hb kb =>
       have key := fun w => eql_of (σ := σ) (P := P) hv hq ⟨by simp, by simp, by simp, by simp⟩ w
       refine ⟨(key w).1, ?_⟩
       have hgd : ∀ w, (eqGuard op t x y (.agg a') (.agg b')).run P w = .ok () w := fun w => by
         rcases hv with ⟨rfl, _⟩ | ⟨rfl, _⟩ <;> simp [eqGuard, hg]
       simp only [Sem.run_bind, hgd, Result.andThen_ok]
       exact (key w).2
 · cases h
theorem isNilEq_sound {x y x' y' : Value} {r : Bool} (h : isNilEq x y = some r) (hx : VR σ x x') (hy : VR σ y y') : isNilEq x' y' = some r := by
 cases hx <;> cases hy <;> first
   | (simp [isNilEq] at h ⊢ <;> exact h)
   | (rename_i B i c hc B' i' c' hc'
      simp only [isNilEq, sameAt] at h ⊢
      split at h
      · rename_i hb
        simp only [Bool.and_eq_true] at hb
        have e1 := Nat.eq_of_beq_eq_true hb.1.1.1
        have e2 := Nat.eq_of_beq_eq_true hb.1.1.2
        subst e1; subst e2
        rw [hc] at hc'; cases hc'
        simp only [Nat.beq_refl, Option.isNone, Bool.and_self]
        exact h
      · cases h)
theorem sameAt_eq {a b : Addr} {r : Bool} (h : sameAt a b = some r) : a = b ∧ r = true := by
 unfold sameAt at h
 split at h
 · rename_i hb
   simp only [Bool.and_eq_true] at hb
   have e1 := Nat.eq_of_beq_eq_true hb.1.1.1
   have e2 := Nat.eq_of_beq_eq_true hb.1.1.2
   obtain ⟨x, y, z⟩ := a
   obtain ⟨x', y', z'⟩ := b
   cases z <;> cases z' <;> simp at hb e1 e2 h
   exact ⟨by rw [e1, e2], h⟩
 · cases h
theorem nilFits_sound {t : TypeId} {x x' : Value} (h : binElse.nilFits P t x = true) (hx : VR σ x x') : binElse.nilFits P t x' = true := by
 unfold binElse.nilFits at h ⊢
 cases hu : P.underlying t with
 | none => simp [hu] at h
 | some d => simp only [hu] at h ⊢; cases hx <;> simp_all
theorem nil_ptr {t e : TypeId} (hu : P.underlying t = some (.pointer e)) {p : Option Addr} (hi : p.isSome = true → (P.info? e).isSome = true) {y : Value} {r : Bool} (h : isNilEq (.pointer p) y = some r) (w : World) (D : Nat) : (Op.equalIn (D + 1) t (.pointer p) y).run P w = .ok r w := by
 have : ∃ q, y = .pointer q := by cases p <;> cases y <;> simp [isNilEq] at h <;> exact ⟨_, rfl⟩
 obtain ⟨q, rfl⟩ := this
 cases p with
 | none => cases q <;> simp [isNilEq] at h <;> subst h <;> simp [Op.equalIn, run_underlying hu]
 | some a => cases q with
   | none => simp [isNilEq] at h; subst h; simp [Op.equalIn, run_underlying hu]
   | some b =>
     obtain ⟨rfl, rfl⟩ := sameAt_eq h
     obtain ⟨i, hi⟩ := Option.isSome_iff_exists.1 (hi rfl)
     have hs : (sameAddr a a).run P w = .ok true w := by simp [sameAddr]
     simp only [Op.equalIn, Sem.run_bind, run_underlying hu, Result.andThen_ok, run_sizeOf w hi]
     by_cases h0 : P.cellsOf e = 0
     · simp [h0]
     · simp [h0, hs]
theorem nil_slice {t e : TypeId} (hu : P.underlying t = some (.slice e)) {p : Option Addr} {n c : Nat} {y : Value} {r : Bool} (h : isNilEq (.slice p n c) y = some r) (w : World) (D : Nat) : (Op.equalIn (D + 1) t (.slice p n c) y).run P w = .ok r w := by
 have : ∃ q m d, y = .slice q m d := by cases p <;> cases y <;> simp [isNilEq] at h <;> exact ⟨_, _, _, rfl⟩
 obtain ⟨q, m, d, rfl⟩ := this
 cases p <;> cases q <;> simp [isNilEq] at h <;> subst h <;> simp [Op.equalIn, run_underlying hu]
theorem nil_map {t k e : TypeId} (hu : P.underlying t = some (.map k e)) {p : Option Nat} {y : Value} {r : Bool} (h : isNilEq (.map p) y = some r) (w : World) (D : Nat) : (Op.equalIn (D + 1) t (.map p) y).run P w = .ok r w := by
 have : ∃ q, y = .map q := by cases p <;> cases y <;> simp [isNilEq] at h <;> exact ⟨_, rfl⟩
 obtain ⟨q, rfl⟩ := this
 cases p <;> cases q <;> simp [isNilEq] at h <;> subst h <;> simp [Op.equalIn, run_underlying hu]
theorem nil_nf {t : TypeId} {ps rs : Array TypeId} {vv : Bool} (hu : P.underlying t = some (.func ps rs vv)) {y : Value} {r : Bool} (h : isNilEq .nilFunc y = some r) (w : World) (D : Nat) : (Op.equalIn (D + 1) t .nilFunc y).run P w = .ok r w := by
 cases y <;> simp [isNilEq] at h <;> subst h <;> simp [Op.equalIn, run_underlying hu]
theorem nil_fn {t : TypeId} {ps rs : Array TypeId} {vv : Bool} (hu : P.underlying t = some (.func ps rs vv)) {f : Fn} {a b : Array Value} {y : Value} {r : Bool} (h : isNilEq (.func f a b) y = some r) (w : World) (D : Nat) : (Op.equalIn (D + 1) t (.func f a b) y).run P w = .ok r w := by
 cases y <;> simp [isNilEq] at h <;> subst h <;> simp [Op.equalIn, run_underlying hu]
theorem nil_ni {t : TypeId} {ms : Array (String × TypeId)} (hu : P.underlying t = some (.interface ms)) {y : Value} {r : Bool} (h : isNilEq .nilIface y = some r) (w : World) (D : Nat) : (Op.equalIn (D + 1) t .nilIface y).run P w = .ok r w := by
 cases y <;> simp [isNilEq] at h <;> subst h <;> simp [Op.equalIn, run_underlying hu]
theorem nil_if {t u : TypeId} {ms : Array (String × TypeId)} (hu : P.underlying t = some (.interface ms)) {v y : Value} {r : Bool} (h : isNilEq (.iface u v) y = some r) (w : World) (D : Nat) : (Op.equalIn (D + 1) t (.iface u v) y).run P w = .ok r w := by
 cases y <;> simp [isNilEq] at h <;> subst h <;> simp [Op.equalIn, run_underlying hu]
def Plain (x : Value) : Prop := (∀ k n, x ≠ .int k n) ∧ (∀ s, x ≠ .string s) ∧ (∀ k n, x ≠ .float k n) ∧ (∀ k a b, x ≠ .complex k a b)
theorem ifEq_eq {t : TypeId} {x y : Value} {r : Bool} (h : binElse.ifEq P t x y = some r) (w : World) (D : Nat) : (Op.equalIn (D + 2) t x y).run P w = .ok r w ∧ Plain x := by
 unfold binElse.ifEq at h
 split at h
 case h_2 => cases h
 rename_i t1 x
 split at h
 case h_2 => cases h
 rename_i t2 y
 split at h
 case h_2 => cases h
 rename_i k n
 split at h
 case h_2 => cases h
 rename_i l m
 split at h
 case h_2 => cases h
 rename_i ms i kk hb hu hi hu1
 rw [Bool.and_eq_true] at hb
 have ht : t1 = t2 := Nat.eq_of_beq_eq_true hb.1
 have hk := kEq_eq hb.2
 subst ht; subst hk
 split at h
 case h_2 => cases h
 rename_i hc
 cases h
 refine ⟨?_, by simp [Plain]⟩
 have e1 := run_equalIn_int (P := P) w D t1 k kk n m hu1
 show (Op.equalIn ((D + 1) + 1) t _ _).run P w = _
 unfold Op.equalIn
 simp only [Sem.run_bind, run_underlying hu, Result.andThen_ok]
 have e2 : (typeInfo t1).run P w = .ok i w := by simp [typeInfo, hi]
 simp [e2, hc, e1, iEq_eq]
theorem nilIf_eq {t : TypeId} {x y : Value} {r : Bool} (h : binElse.nilIf P t x y = some r) (w : World) (D : Nat) : (Op.equalIn (D + 2) t x y).run P w = .ok r w ∧ Plain x := by
 unfold binElse.nilIf at h
 split at h
 · rename_i r' hr
   split at h
   · rename_i hf
     simp only [Option.some.injEq] at h; subst h
     unfold binElse.nilFits at hf
     cases hu : P.underlying t with
     | none => simp [hu] at hf
     | some d =>
       simp only [hu] at hf
       cases d with
       | pointer e =>
         cases x with
         | pointer p => exact ⟨nil_ptr hu (fun hp => by cases p with | none => cases hp | some a => exact hf) hr w (D + 1), by simp [Plain]⟩
         | _ => simp at hf
       | slice e => cases x <;> simp at hf; exact ⟨nil_slice hu hr w (D + 1), by simp [Plain]⟩
       | map k e => cases x <;> simp at hf; exact ⟨nil_map hu hr w (D + 1), by simp [Plain]⟩
       | func a b c => cases x <;> simp at hf; exact ⟨nil_fn hu hr w (D + 1), by simp [Plain]⟩; exact ⟨nil_nf hu hr w (D + 1), by simp [Plain]⟩
       | interface ms => cases x <;> simp at hf; exact ⟨nil_if hu hr w (D + 1), by simp [Plain]⟩; exact ⟨nil_ni hu hr w (D + 1), by simp [Plain]⟩
       | _ => simp at hf
   · cases h
 · exact ifEq_eq h w D
theorem eqGuard_pass {op : BinOp} {t : TypeId} {x y : Operand} {a b : Value} (h1 : ¬ (a = .nilIface ∧ b = .nilIface ∧ isCst x = false ∧ isCst y = false)) (h2 : ∀ c d, ¬ (a = .agg c ∧ b = .agg d)) (w : World) :
   (eqGuard op t x y a b).run P w = .ok () w := by
 have hc : ∀ z : Operand, (match z with | .const _ => true | _ => false) = isCst z := fun z => by cases z <;> rfl
 cases op
 case eql =>
   simp only [eqGuard, Bool.not_true, Bool.false_eq_true, if_false, hc]
   split
   · clear h2
     cases x <;> cases y <;> simp_all [isCst]
   · exact absurd ⟨rfl, rfl⟩ (h2 _ _)
   · rfl
 case neq =>
   simp only [eqGuard, Bool.not_true, Bool.false_eq_true, if_false, hc]
   split
   · clear h2
     cases x <;> cases y <;> simp_all [isCst]
   · exact absurd ⟨rfl, rfl⟩ (h2 _ _)
   · rfl
 all_goals simp [eqGuard]
theorem VR.agg_inv {a : Array Value} {v' : Value} (h : VR σ (.agg a) v') : ∃ a', v' = .agg a' := by cases h; exact ⟨_, rfl⟩
theorem VR.agg_left {v : Value} {a' : Array Value} (h : VR σ v (.agg a')) : ∃ a, v = .agg a := by cases h; exact ⟨_, rfl⟩
theorem VR.ni_left {v : Value} (h : VR σ v .nilIface) : v = .nilIface := by cases h; rfl
theorem binElse_sound {op : BinOp} {t : TypeId} {a b a' b' v : Value} {x y : Operand} (ha : VR σ a a') (hb : VR σ b b') (h : binElse P op t (isCst x || isCst y) a b = some v) (w : World) :
   VR σ v v ∧ (do eqGuard op t x y a' b'; binOp op t a' b' : Sem Value).run P w = .ok v w := by
 unfold binElse at h
 split at h
 · -- bools
   rename_i p q
   obtain ⟨r, hr, hv⟩ := boolRes_some h
   rw [ha.bool_inv, hb.bool_inv]
   split at hr
   · rename_i hu
     simp only [Option.some.injEq] at hr; subst hr
     have key := eql_of (σ := σ) (P := P) (t := t) (x := .bool p) (y := .bool q) hv (fun w => by rw [run_equalIn_bool' w _ t p q hu, bEq_eq]) ⟨by simp, by simp, by simp, by simp⟩ w
     refine ⟨key.1, ?_⟩
     simp only [Sem.run_bind, eqGuard_pass (P := P) (op := op) (t := t) (x := x) (y := y) (a := .bool p) (b := .bool q) (by simp) (by simp) w, Result.andThen_ok]
     exact key.2
   · cases hr
 · exact aggEq_sound ha hb h x y w
 · split at h
   · rename_i hcst
     obtain ⟨r, hr, hv⟩ := boolRes_some h
     cases ha; cases hb
     have key := eql_of (σ := σ) (P := P) hv (fun w => (nilIf_eq hr w 9998).1) (nilIf_eq hr w 9998).2 w
     refine ⟨key.1, ?_⟩
     simp only [Sem.run_bind, eqGuard_pass (P := P) (op := op) (t := t) (x := x) (y := y) (a := .nilIface) (b := .nilIface) (by
       rintro ⟨_, _, h1, h2⟩; simp [h1, h2] at hcst) (by simp) w, Result.andThen_ok]
     exact key.2
   · cases h
 · rename_i hn1 hn2 hn3
   obtain ⟨r, hr, hv⟩ := boolRes_some h
   have hr' : binElse.nilIf P t a' b' = some r := by
     unfold binElse.nilIf at hr ⊢
     split at hr
     · rename_i r' h1
       split at hr
       · rename_i h2
         simp only [Option.some.injEq] at hr; subst hr
         rw [isNilEq_sound h1 ha hb, nilFits_sound h2 ha]
       · cases hr
     · rename_i hno
       have h0 := hr
       unfold binElse.ifEq at h0
       split at h0
       case h_2 => cases h0
       rename_i t1 x1
       split at h0
       case h_2 => cases h0
       rename_i t2 y1
       split at h0
       case h_2 => cases h0
       rename_i k n
       split at h0
       case h_2 => cases h0
       rename_i l m
       have iv : ∀ {t : TypeId} {k : IntKind} {n : Int} {z : Value}, VR σ (.iface t (.int k n)) z → z = .iface t (.int k n) := fun h => by
         cases h; rename_i h; cases h; rfl
       rw [iv ha, iv hb]
       exact hr
   have key := eql_of (σ := σ) (P := P) hv (fun w => (nilIf_eq hr' w 9998).1) (nilIf_eq hr' w 9998).2 w
   refine ⟨key.1, ?_⟩
   simp only [Sem.run_bind, eqGuard_pass (P := P) (op := op) (t := t) (x := x) (y := y) (a := a') (b := b') (by
     rintro ⟨h1, h2, _, _⟩
     subst h1; subst h2
     have e1 := ha.ni_left; have e2 := hb.ni_left
     subst e1; subst e2
     exact hn3 rfl rfl) (by
     rintro c d ⟨h1, h2⟩
     subst h1; subst h2
     obtain ⟨_, e1⟩ := ha.agg_left; obtain ⟨_, e2⟩ := hb.agg_left
     subst e1; subst e2
     exact hn2 _ _ rfl rfl) w, Result.andThen_ok]
   exact key.2
theorem binV_sound {op : BinOp} {t : TypeId} {a b a' b' v : Value} {x y : Operand} (ha : VR σ a a') (hb : VR σ b b') (h : binV P op t (isCst x || isCst y) a b = some v) (w : World) :
   VR σ v v ∧ (do eqGuard op t x y a' b'; binOp op t a' b' : Sem Value).run P w = .ok v w := by
 unfold binV at h
 split at h
 · rename_i k n
   have := ha.int_inv; subst this
   unfold binInt at h
   split at h
   · rename_i k' m
     have := hb.int_inv; subst this
     have key : VR σ v v ∧ (binOp op t (.int k n) (.int k' m)).run P w = .ok v w := by
       split at h
       · rename_i hk
         have := kEq_eq hk; subst this
         unfold orRun at h
         split at h
         · rename_i v' hv'
           simp only [Option.some.injEq] at h; subst h
           exact intOp_sound hv' t w
         · exact pureRun_int h w
       · exact pureRun_int h w
     refine ⟨key.1, ?_⟩
     simp only [Sem.run_bind, eqGuard_pass (P := P) (op := op) (t := t) (x := x) (y := y) (a := .int k n) (b := .int k' m) (by simp) (by simp) w, Result.andThen_ok]
     exact key.2
   · cases h
 · rename_i s
   have := ha.string_inv; subst this
   unfold binStr at h
   split at h
   · rename_i s'
     have := hb.string_inv; subst this
     have key := strV_sound (σ := σ) (P := P) h t w
     refine ⟨key.1, ?_⟩
     simp only [Sem.run_bind, eqGuard_pass (P := P) (op := op) (t := t) (x := x) (y := y) (a := .string s) (b := .string s') (by simp) (by simp) w, Result.andThen_ok]
     exact key.2
   · cases h
 · exact binElse_sound ha hb h w
theorem unV_sound {op : UnOp} {x x' v : Value} (hx : VR σ x x') (h : unV op x = some v) (w : World) : VR σ v v ∧ (Op.unary op x').run P w = .ok v w := by
 unfold unV at h
 split at h
 · split at h
   · rename_i b
     simp only [Option.some.injEq] at h; subst h
     rw [hx.bool_inv]; exact ⟨.bool _, rfl⟩
   · cases h
 · split at h
   · rename_i k n
     simp only [Option.some.injEq] at h; subst h
     rw [hx.int_inv]; exact ⟨.int _ _, rfl⟩
   · cases h
 · split at h
   · rename_i k n
     simp only [Option.some.injEq] at h; subst h
     rw [hx.int_inv]; exact ⟨.int _ _, rfl⟩
   · cases h
 · cases h
theorem mmI_max : ∀ (l l' : List Value) (k : IntKind) (x n : Int), mmI true l x = some n → LR σ l l' → ∀ w, (l'.foldlM Builtin.max2 (.int k x)).run P w = .ok (.int k n) w
 | [], l', k, x, n, h, hl, w => by
   have := hl.nil_left; subst this
   simp only [mmI, Option.some.injEq] at h; subst h; rfl
 | v :: r, l', k, x, n, h, hl, w => by
   obtain ⟨y', r', rfl, hv, hr⟩ := hl.uncons
   simp only [mmI] at h
   split at h
   · rename_i kk y
     have := hv.int_inv; subst this
     rw [List.foldlM_cons, Sem.run_bind]
     simp only [Builtin.max2, Sem.run_pure, Result.andThen_ok]
     rw [iLt_eq] at h
     by_cases hxy : x < y
     · simp only [hxy, decide_true] at h
       rw [if_pos (show y > x from hxy)]
       exact mmI_max r r' k _ n h hr w
     · simp only [hxy, decide_false] at h
       rw [if_neg (show ¬ y > x from hxy)]
       exact mmI_max r r' k _ n h hr w
   · cases h
theorem mmI_min : ∀ (l l' : List Value) (k : IntKind) (x n : Int), mmI false l x = some n → LR σ l l' → ∀ w, (l'.foldlM Builtin.min2 (.int k x)).run P w = .ok (.int k n) w
 | [], l', k, x, n, h, hl, w => by
   have := hl.nil_left; subst this
   simp only [mmI, Option.some.injEq] at h; subst h; rfl
 | v :: r, l', k, x, n, h, hl, w => by
   obtain ⟨y', r', rfl, hv, hr⟩ := hl.uncons
   simp only [mmI] at h
   split at h
   · rename_i kk y
     have := hv.int_inv; subst this
     rw [List.foldlM_cons, Sem.run_bind]
     simp only [Builtin.min2, Sem.run_pure, Result.andThen_ok]
     rw [iLt_eq] at h
     by_cases hxy : y < x
     · simp only [hxy, decide_true] at h
       rw [if_pos hxy]
       exact mmI_min r r' k _ n h hr w
     · simp only [hxy, decide_false] at h
       rw [if_neg hxy]
       exact mmI_min r r' k _ n h hr w
   · cases h
theorem foldMM_sound {mx : Bool} {l l' : List Value} {v : Value} (hl : LR σ l l') (h : foldMM mx l = some v) (ts : Array TypeId) (t : TypeId) (w : World) :
   VR σ v v ∧ (if mx then Builtin.max_ ts t l'.toArray else Builtin.min_ ts t l'.toArray).run P w = .ok v w := by
 unfold foldMM at h
 split at h
 · obtain ⟨y', r', rfl, hv, hr⟩ := hl.uncons
   split at h
   · rename_i k x
     have := hv.int_inv; subst this
     split at h
     · rename_i n hn
       simp only [Option.some.injEq] at h; subst h
       refine ⟨.int _ _, ?_⟩
       cases mx with
       | true => simpa [Builtin.max_] using mmI_max _ _ k x n hn hr w
       | false => simpa [Builtin.min_] using mmI_min _ _ k x n hn hr w
     · cases h
   · cases h
 · cases h
end Go.Ev
