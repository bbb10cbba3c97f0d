import Derived.Test.YtilpiiafjehbnaaGreatDoorEvS
import Derived.Laws.Externs
import Derived.ProofKit
import Derived.Scope
import Derived.Lib.Bytealg
import Derived.Lib.BytesEntry
import Derived.Lib.IndexEntry
import Derived.Lib.MakeNoZero
namespace Go.Ev
open Go.RowKit
set_option linter.unusedSimpArgs false
set_option linter.unusedVariables false
variable {P : Program} {σ : Sg}
def exOf : Ex → Exit
 | .norm => .normal
 | .exit i => .exit i
 | .goto i => .goto i
 | .ret => .ret
theorem code_sound {call : CallT} {NG : Nat} (hcall : CallOK P NG call) (hgor : NoGor P) (hmix : P.follows .mixedOrders = true) {S : SG} (hS : S.g = NG) :
   ∀ (c : Code) (L : Nat) (tm : T Value) (h : H) (K : KE) (σ : Sg) (a : Act) (w : World) (Q : Exit → Act → World → Prop), (codeB P S c).f call L tm [] h K = true → St S σ [] [] tm a → Rel σ h w →
     (∀ e tm' h' a' w' σ', K e tm' [] h' = true → St S σ' [] [] tm' a' → Rel σ' h' w' → Ext σ h w σ' h' w' → Q (exOf e) a' w') → c.wp P Q a w := by
 intro c
 induction c with
 | skip => intro L tm h K σ a w Q H hst r hQ; exact wp_skip (hQ .norm tm h a w σ H hst r (.refl _ _ _))
 | label l => intro L tm h K σ a w Q H hst r hQ; exact wp_label (hQ .norm tm h a w σ H hst r (.refl _ _ _))
 | exit i => intro L tm h K σ a w Q H hst r hQ; exact wp_exit (hQ (.exit i) tm h a w σ H hst r (.refl _ _ _))
 | ret => intro L tm h K σ a w Q H hst r hQ; exact wp_ret (hQ .ret tm h a w σ H hst r (.refl _ _ _))
 | seq x y ihx ihy =>
   intro L tm h K σ a w Q H hst r hQ
   refine wp_seq (ihx L tm h _ σ a w _ H hst r fun e tm' h' a' w' σ' k1 k2 k3 k4 => ?_)
   cases e with
   | norm => exact ihy L tm' h' K σ' a' w' Q k1 k2 k3 fun e2 tm2 h2 a2 w2 σ2 g1 g2 g3 g4 => hQ e2 tm2 h2 a2 w2 σ2 g1 g2 g3 (k4.trans g4)
   | exit i => exact hQ (.exit i) tm' h' a' w' σ' k1 k2 k3 k4
   | goto i => exact hQ (.goto i) tm' h' a' w' σ' k1 k2 k3 k4
   | ret => exact hQ .ret tm' h' a' w' σ' k1 k2 k3 k4
 | cond x t e iht ihe =>
   intro L tm h K σ a w Q H hst r hQ
   simp only [codeB] at H
   split at H
   · rename_i hk
     have hx := hst.fr x hk
     simp only [condC] at H
     split at H
     · rename_i hv
       have : eval ⟨S, []⟩ x [] tm = .bool true := hv
       rw [this] at hx
       exact wp_cond_true hx.bool_inv (iht L tm h K σ a w Q H hst r hQ)
     · rename_i hv
       have : eval ⟨S, []⟩ x [] tm = .bool false := hv
       rw [this] at hx
       exact wp_cond_false hx.bool_inv (ihe L tm h K σ a w Q H hst r hQ)
     · cases H
   · simp [stop] at H
 | block i c ih =>
   intro L tm h K σ a w Q H hst r hQ
   refine wp_block (ih L tm h _ σ a w _ H hst r fun e tm' h' a' w' σ' k1 k2 k3 k4 => ?_)
   cases e with
   | norm => exact hQ .norm tm' h' a' w' σ' k1 k2 k3 k4
   | exit j =>
     simp only [exOf, Exit.inBlock]
     simp only at k1
     split at k1
     · rename_i hb
       rw [if_pos (Nat.eq_of_beq_eq_true hb).symm]
       exact hQ .norm tm' h' a' w' σ' k1 k2 k3 k4
     · rename_i hb
       rw [if_neg (Ne.symm (Nat.ne_of_beq_eq_false hb))]
       exact hQ (.exit j) tm' h' a' w' σ' k1 k2 k3 k4
   | goto j => exact hQ (.goto j) tm' h' a' w' σ' k1 k2 k3 k4
   | ret => exact hQ .ret tm' h' a' w' σ' k1 k2 k3 k4
 | loop c ih =>
   intro L tm h K σ a w Q H hst r hQ
   refine wp_loop_rounds L ?_
   have key : ∀ (n : Nat) (tm : T Value) (h1 : Ev.H) (σ1 : Sg) (a : Act) (w1 : World), loopC (codeB P S c) call L n tm [] h1 K = true → St S σ1 [] [] tm a → Rel σ1 h1 w1 → Ext σ h w σ1 h1 w1 → Code.rounds P c Q n a w1 := by
     intro n
     induction n with
     | zero => intro tm h1 σ1 a w1 H; simp [loopC] at H
     | succ n ihn =>
       intro tm h1 σ1 a w1 H hst r he
       refine ih L tm h1 _ σ1 a w1 _ H hst r fun e tm' h' a' w' σ' k1 k2 k3 k4 => ?_
       cases e with
       | norm => exact ihn tm' h' σ' a' w' k1 k2 k3 (he.trans k4)
       | exit j => exact hQ (.exit j) tm' h' a' w' σ' k1 k2 k3 (he.trans k4)
       | goto j => exact hQ (.goto j) tm' h' a' w' σ' k1 k2 k3 (he.trans k4)
       | ret => exact hQ .ret tm' h' a' w' σ' k1 k2 k3 (he.trans k4)
   exact key L tm h σ a w H hst r (.refl _ _ _)
 | region id ops d =>
   intro L tm h K σ a w Q H hst r hQ
   cases d with
   | false =>
     exact wp_region_list (ops_sound hcall hgor hS (σ0 := σ) (h0 := h) (w0 := w) (fun tm' h' a' w' σ' k1 k2 k3 k4 => hQ .norm tm' h' a' w' σ' k1 k2 k3 k4) ops.toList [] [] tm h σ a w H hst r (.refl _ _ _))
   | true =>
     exact draw_sound (L := L) hcall hgor hmix hS H hst r (fun tm' h' a' w' σ' k1 k2 k3 k4 => hQ .norm tm' h' a' w' σ' k1 k2 k3 k4)
 | rangeFunc f ps x y => intro L tm h K σ a w Q H; simp [codeB, stop] at H
 | scope c ih =>
   intro L tm h K σ a w Q H hst r hQ
   refine wp_scope_straight (ih L tm h _ σ a w _ H hst r fun e tm' h' a' w' σ' k1 k2 k3 k4 => ?_)
   cases e with
   | norm => exact hQ .norm tm' h' a' w' σ' k1 k2 k3 k4
   | exit j => exact hQ (.exit j) tm' h' a' w' σ' k1 k2 k3 k4
   | goto j => simp at k1
   | ret => exact hQ .ret tm' h' a' w' σ' k1 k2 k3 k4
 | goto i => intro L tm h K σ a w Q H; simp [codeB, stop] at H
 | refuse s => intro L tm h K σ a w Q H; simp [codeB, stop] at H
def resF (tmps : Array Value) : ResultVar → Sem Value
 | .tmp t => pure (tmps.getD t undef)
 | .cell b t => do loadVar t (← asAddr (tmps.getD b undef))
theorem asAddr_run (x : Addr) (w : World) : (asAddr (.pointer (some x))).run P w = .ok x w := rfl
theorem res_sound {S : SG} {tm : T Value} {a : Act} {h : H} {w : World} (hst : St S σ [] [] tm a) (r : Rel σ h w) : ∀ (l : List ResultVar) (vs : List Value), (resB P S l).f tm h = some vs →
   ∃ vs', LR σ vs vs' ∧ (l.mapM (resF a.tmps)).run P w = .ok vs' w
 | [], vs, H => by
   simp only [resB, Option.some.injEq] at H; subst H
   exact ⟨[], LR.nil _, by simp⟩
 | .tmp t :: l, vs, H => by
   simp only [resB] at H
   split at H
   · rename_i hb
     simp only at H
     split at H
     · rename_i vs0 hvs
       simp only [Option.some.injEq] at H; subst H
       obtain ⟨vs', k1, k2⟩ := res_sound hst r l vs0 hvs
       have hv := hst.fr (.tmp t) (by simp [known, idx, hb])
       exact ⟨a.tmps.getD t undef :: vs', LR.cons hv k1, by rw [List.mapM_cons]; simp only [resF, Sem.run_bind, Sem.run_pure, Result.andThen_ok, k2]⟩
     · cases H
   · simp at H
 | .cell b t :: l, vs, H => by
   simp only [resB] at H
   split at H
   · rename_i hb
     simp only at H
     split at H
     · rename_i v hlv
       split at H
       · rename_i vs0 hvs
         simp only [Option.some.injEq] at H; subst H
         obtain ⟨vs', k1, k2⟩ := res_sound hst r l vs0 hvs
         have hv := hst.fr (.tmp b) (by simp [known, idx, hb])
         obtain ⟨v', g1, B, i, g2, g3⟩ := loadV_sound (P := P) r.read hv hlv
         have g2' : a.tmps.getD b undef = .pointer (some ⟨B, i, none⟩) := g2
         exact ⟨v' :: vs', LR.cons g1 k1, by rw [List.mapM_cons]; simp only [resF, Sem.run_bind, Sem.run_pure, Result.andThen_ok, k2, g2', asAddr_run, g3]⟩
       · cases H
     · cases H
   · simp at H
theorem resOf_rel {l l' : List Value} (h : LR σ l l') : VR σ (resOf l) (if hh : l'.toArray.size = 1 then l'.toArray[0] else .tuple l'.toArray) := by
 cases l with
 | nil => have := h.nil_left; subst this; exact VR.tuple_of h
 | cons x r =>
   obtain ⟨y, r', rfl, h1, h2⟩ := h.uncons
   cases r with
   | nil => have := h2.nil_left; subst this; exact h1
   | cons z r =>
     obtain ⟨y2, r2, rfl, _, _⟩ := h2.uncons
     exact VR.tuple_of h
theorem toTm_get : ∀ (l : List Value) (i : Nat) (t : T Value) (j : Nat), getT (toPos (Nat.succ j)) (toTm l i t) = if i ≤ j ∧ j < i + l.length then l.getD (j - i) undef else getT (toPos (Nat.succ j)) t
 | [], i, t, j => by rw [if_neg (by simp only [List.length_nil]; omega)]; rfl
 | v :: r, i, t, j => by
   have : toTm (v :: r) i t = toTm r (i + 1) (t.set i v) := rfl
   rw [this, toTm_get r (i + 1) _ j]
   have hset : getT (toPos (Nat.succ j)) (t.set i v) = if i = j then v else getT (toPos (Nat.succ j)) t := by
     unfold T.set
     rw [getT_setP]
     by_cases h : i = j
     · subst h; simp
     · rw [if_neg (fun e => h (toPos_inj e)), if_neg h]
   by_cases h1 : i + 1 ≤ j ∧ j < i + 1 + r.length
   · rw [if_pos h1, if_pos (by simp; omega)]
     rw [show j - i = (j - (i + 1)) + 1 by omega]
     simp
   · rw [if_neg h1, hset]
     by_cases h2 : i = j
     · subst h2; simp
     · rw [if_neg h2, if_neg (by simp; omega)]
theorem start_st {S : SG} {args args' : List Value} (hl : LR σ args args') (hg : Glob σ S.g) (hn : args.length ≤ S.n) :
   St S σ [] [] (toTm args 0 .e) { tmps := args'.toArray ++ Array.replicate (S.n - args'.toArray.size) undef, defers := [] } where
 env := fun t k hk => by simp [idx] at hk
 tm := fun t _ => by
   rw [toTm_get]
   have hlen := hl.1
   simp only [Nat.zero_le, true_and, Nat.zero_add, Nat.sub_zero]
   by_cases ht : t < args.length
   · rw [if_pos ht]
     have e1 : args[t]? = some args[t] := List.getElem?_eq_getElem ht
     have ht' : t < args'.length := by omega
     have e2 : args'[t]? = some args'[t] := List.getElem?_eq_getElem ht'
     have := hl.2 t _ _ e1 e2
     simp only [List.getD_eq_getElem?_getD, e1, Option.getD_some, Array.getD_eq_getD_getElem?]
     rw [Array.getElem?_append_left (by simpa using ht')]
     simpa [e2] using this
   · rw [if_neg ht]
     have : (args'.toArray ++ Array.replicate (S.n - args'.toArray.size) undef).getD t undef = undef := by
       simp only [Array.getD_eq_getD_getElem?]
       rw [Array.getElem?_append_right (by simp; omega)]
       simp only [Array.getElem?_replicate]
       split <;> rfl
     rw [this]
     have : getT (toPos (Nat.succ t)) (T.e : T Value) = undef := by unfold getT; rw [T.getP_e]
     rw [this]
     exact VR.undef σ
 glob := hg
 size := by have := hl.1; simp; omega
 defs := rfl
def entryOf : XK → (Array Value → Sem Value)
 | .cmp => Extern.BytealgCompare.compare
 | .idxByte => Extern.BytealgIndexByte.indexByte
 | .same => Extern.AbiNoEscape.same
 | .count => Extern.BytealgCount.count
 | .index _ => Extern.BytealgIndex.index
 | .noZero _ => Extern.AbiNoEscape.same
def entryOK (P : Program) (k : XK) (ent : Array Value → Sem Value) : Prop :=
 match k with
 | .index g => ent = Extern.BytealgIndex.index ∧ P.globals.findIdx? (·.name == "internal/bytealg.MaxLen") = some g
 | .noZero e => ∃ ps t, ent = Extern.BytealgMakeNoZero.makeNoZero ps #[t] ∧ P.underlying t = some (.slice e) ∧ P.cellsOf e = 1
 | k => ent = entryOf k
def XOK (P : Program) (X : List (Nat × XK)) : Prop := ∀ p ∈ X, ∃ fn ent, P.funcs[p.1]? = some fn ∧ fn.body.isNone = true ∧ Extern.findNext fn = none ∧ Extern.find fn = some ent ∧ entryOK P p.2 ent
theorem xOf_mem : ∀ {X : List (Nat × XK)} {f : Nat} {k : XK}, xOf X f = some k → (f, k) ∈ X
 | [], f, k, h => by cases h
 | (g, j) :: r, f, k, h => by
   unfold xOf at h
   split at h
   · rename_i hb
     simp only [Option.some.injEq] at h
     rw [Nat.eq_of_beq_eq_true hb, h]; simp
   · simp [xOf_mem h]
theorem bytesX_sound {h : H} {w : World} {x x' : Value} {l : List UInt8} (r : RelR σ h w) (hx : VR σ x x') (hl : bytesX h x = some l) : (Extern.Bytes.bytesOf x').run P w = .ok ⟨l.toArray⟩ w := by
 unfold bytesX at hl
 split at hl
 · simp only [Option.some.injEq] at hl; subst hl
   rw [hx.string_inv]; rfl
 · simp only [Option.some.injEq] at hl; subst hl
   cases hx; rfl
 · rename_i a len cap
   split at hl
   · rename_i l0 hrow
     obtain ⟨ns, rfl, rfl⟩ := bytesOf_some hl
     have key : ∀ (blk o cap' : Nat) (l' : List Value), LR σ (ns.map (Value.int .u8)) l' → (ns.map (Value.int .u8)).length = len → w.rangeAt blk o l' →
         (Extern.Bytes.bytesOf (.slice (some ⟨blk, o, none⟩) len cap')).run P w = .ok ⟨(ns.map (fun n => UInt8.ofNat n.toNat)).toArray⟩ w := by
       intro blk o cap' l' h1 h2 h3
       have e := h1.ints; subst e
       have := Lib.run_loadBytesX (P := P) w ns ⟨blk, o, none⟩ .empty (fun j x hj => by
         rw [Addr.add_mid]; exact h3 j _ (by simp [hj]))
       have h2' : ns.length = len := by simpa using h2
       rw [h2'] at this
       show (Extern.Bytes.loadBytes ⟨blk, o, none⟩ len .empty).run P w = _
       rw [this]
       congr 1
       apply ByteArray.ext
       show (#[] : Array UInt8) ++ (Lib.bytesOf ns).toArray = _
       simp [Lib.bytesOf]
     cases hx with
     | sl B i n k c hc hk =>
       obtain ⟨l', h2, h3, h4⟩ := row_some hc hrow r
       exact key _ _ _ l' h2 h3 h4
     | slO B i n k c hc hn hk =>
       obtain ⟨l', h2, h3, h4⟩ := row_some hc hrow r
       exact key _ _ _ l' h2 h3 h4
     | slE B i o c hc hi =>
       obtain ⟨l', h2, h3, h4⟩ := row_some hc hrow r
       have : ns = [] := by simpa using h3
       subst this
       exact key _ _ _ [] (LR.nil _) rfl (fun j v hv => by simp at hv)
   · cases hl
 · cases hl
theorem idxL_eq (c : UInt8) : ∀ (l : List UInt8) (i : Nat), idxL c.toNat l i = if Lib.indexByte l c = -1 then -1 else Lib.indexByte l c + i
 | [], i => rfl
 | x :: l, i => by
   have ih := idxL_eq c l (i + 1)
   have hge := Lib.indexByte_ge l c
   unfold idxL Lib.indexByte
   split
   · rename_i hb
     have : x = c := UInt8.toNat_inj.1 (Nat.eq_of_beq_eq_true hb)
     subst this
     simp
   · rename_i hb
     have : (x == c) = false := by
       cases hxc : x == c with
       | false => rfl
       | true => rw [eq_of_beq hxc, Nat.beq_refl] at hb; cases hb
     rw [ih, this]
     simp only [Bool.false_eq_true, if_false, beq_iff_eq]
     split
     · rename_i h; simp [h]
     · rename_i h
       rw [if_neg (by omega)]; push_cast; omega
theorem cntL_eq (c : UInt8) : ∀ (l : List UInt8) (n : Nat), cntL c.toNat l n = n + Lib.countByte l c
 | [], n => by simp [cntL, Lib.countByte]
 | x :: l, n => by
   unfold cntL
   unfold Lib.countByte
   rw [List.count_cons]
   split
   · rename_i hb
     have : x = c := UInt8.toNat_inj.1 (Nat.eq_of_beq_eq_true hb)
     subst this
     rw [cntL_eq]; simp [Lib.countByte]; omega
   · rename_i hb
     have : (x == c) = false := by
       cases hxc : x == c with
       | false => rfl
       | true => rw [eq_of_beq hxc, Nat.beq_refl] at hb; cases hb
     rw [cntL_eq, this]; simp [Lib.countByte]
theorem preL_eq : ∀ (b a : List UInt8), preL b a = b.isPrefixOf a
 | [], a => by simp [preL]
 | x :: b, [] => by simp [preL]
 | x :: b, y :: a => by
   simp only [preL, List.isPrefixOf_cons_cons]
   split
   · rename_i hb
     have : x = y := UInt8.toNat_inj.1 (Nat.eq_of_beq_eq_true hb)
     subst this
     rw [preL_eq]; simp
   · rename_i hb
     have : (x == y) = false := by
       cases hxc : x == y with
       | false => rfl
       | true => rw [eq_of_beq hxc, Nat.beq_refl] at hb; cases hb
     rw [this]; rfl
theorem findL_eq (b : List UInt8) : ∀ (a : List UInt8) (i : Nat), findL b a i = if Lib.index a b = -1 then -1 else Lib.index a b + i
 | [], i => by cases b <;> simp [findL, Lib.index]
 | x :: a, i => by
   have ih := findL_eq b a (i + 1)
   have hge := Lib.index_ge a b
   unfold findL Lib.index
   rw [preL_eq]
   split
   · rename_i hb; rw [hb]; simp
   · rename_i hb
     rw [ih, hb]
     simp only [Bool.false_eq_true, if_false, beq_iff_eq]
     split
     · rename_i h; simp [h]
     · rename_i h
       rw [if_neg (by omega)]; push_cast; omega
theorem findL_zero (a b : List UInt8) : findL b a 0 = Lib.index a b := by
 rw [findL_eq]; split
 · rename_i h; exact h.symm
 · simp
theorem idxL_zero (c : UInt8) (a : List UInt8) : idxL c.toNat a 0 = Lib.indexByte a c := by
 rw [idxL_eq]; split
 · rename_i h; exact h.symm
 · simp
theorem xVal_sound {NG : Nat} {k : XK} {args args' : List Value} {v : Value} {h h' : H} {w : World} {ent : Array Value → Sem Value} (he : entryOK P k ent) (r : Rel σ h w) (hg : Glob σ NG) (hv : xVal NG k h args = some (v, h')) (hl : LR σ args args') :
   ∃ v' w' σ', VR σ' v v' ∧ (ent args'.toArray).run P w = .ok v' w' ∧ Rel σ' h' w' ∧ Ext σ h w σ' h' w' := by
 unfold xVal at hv
 split at hv
 · -- cmp
   split at hv
   · rename_i a b
     simp only [Option.some.injEq, Prod.mk.injEq] at hv
     obtain ⟨rfl, rfl⟩ := hv
     obtain ⟨x, q, rfl, h1, h2⟩ := hl.uncons
     obtain ⟨y, q2, rfl, h3, h4⟩ := h2.uncons
     have := h4.nil_left; subst this
     rw [h1.string_inv, h3.string_inv]
     simp only [entryOK, entryOf] at he; subst he
     refine ⟨_, w, σ, .int _ _, ?_, r, .refl _ _ _⟩
     change Sem.run P (do pure (goInt (Extern.BytealgCompare.cmp (← Extern.Bytes.bytesOf (.string a)) (← Extern.Bytes.bytesOf (.string b))))) w = _
     simp [Extern.Bytes.bytesOf, goInt]
   · cases hv
 · -- idxByte
   split at hv
   · rename_i x0 c
     split at hv
     · rename_i s hs
       simp only [Option.some.injEq, Prod.mk.injEq] at hv
       obtain ⟨rfl, rfl⟩ := hv
       obtain ⟨x, q, rfl, h1, h2⟩ := hl.uncons
       obtain ⟨y, q2, rfl, h3, h4⟩ := h2.uncons
       have := h4.nil_left; subst this
       rw [h3.int_inv]
       simp only [entryOK, entryOf] at he; subst he
       have hb := bytesX_sound (P := P) r.read h1 hs
       have hr := Lib.run_indexByteString (P := P) ⟨s.toArray⟩ c w
       refine ⟨_, w, σ, .int _ _, ?_, r, .refl _ _ _⟩
       change Sem.run P (do
         let b ← Extern.Bytes.bytesOf x
         let c ← Extern.Bytes.asByte (.int .u8 c)
         match (List.range b.size).find? fun i => b[i]! == c with
         | some i => pure (goInt i)
         | none => pure (goInt (-1))) w = _
       change Sem.run P (do
         let b ← Extern.Bytes.bytesOf (.string ⟨s.toArray⟩)
         let c ← Extern.Bytes.asByte (.int .u8 c)
         match (List.range b.size).find? fun i => b[i]! == c with
         | some i => pure (goInt i)
         | none => pure (goInt (-1))) w = _ at hr
       have hb2 : (Extern.Bytes.bytesOf (.string ⟨s.toArray⟩)).run P w = .ok ⟨s.toArray⟩ w := rfl
       rw [Sem.run_bind, hb, ← hb2, ← Sem.run_bind, hr]
       unfold u8Nat
       rw [idxL_zero]
     · cases hv
   · cases hv
 · -- count
   split at hv
   · rename_i x0 c
     split at hv
     · rename_i s hs
       simp only [Option.some.injEq, Prod.mk.injEq] at hv
       obtain ⟨rfl, rfl⟩ := hv
       obtain ⟨x, q, rfl, h1, h2⟩ := hl.uncons
       obtain ⟨y, q2, rfl, h3, h4⟩ := h2.uncons
       have := h4.nil_left; subst this
       rw [h3.int_inv]
       simp only [entryOK, entryOf] at he; subst he
       have hb := bytesX_sound (P := P) r.read h1 hs
       have hr := Lib.run_countString (P := P) ⟨s.toArray⟩ c w
       refine ⟨_, w, σ, .int _ _, ?_, r, .refl _ _ _⟩
       change Sem.run P (do
         let b ← Extern.Bytes.bytesOf x
         let c' ← Extern.Bytes.asByte (.int .u8 c)
         pure (goInt (b.foldl (fun n x => if x == c' then n + 1 else n) (0 : Nat)))) w = _
       change Sem.run P (do
         let b ← Extern.Bytes.bytesOf (.string ⟨s.toArray⟩)
         let c' ← Extern.Bytes.asByte (.int .u8 c)
         pure (goInt (b.foldl (fun n x => if x == c' then n + 1 else n) (0 : Nat)))) w = _ at hr
       have hb2 : (Extern.Bytes.bytesOf (.string ⟨s.toArray⟩)).run P w = .ok ⟨s.toArray⟩ w := rfl
       rw [Sem.run_bind, hb, ← hb2, ← Sem.run_bind, hr]
       unfold u8Nat
       rw [cntL_eq]; simp
     · cases hv
   · cases hv
 · -- index
   rename_i g
   split at hv
   · rename_i x0 y0
     split at hv
     · rename_i s t hs ht
       split at hv
       · rename_i v0 hx
         simp only [Option.some.injEq, Prod.mk.injEq] at hv
         obtain ⟨rfl, rfl⟩ := hv
         obtain ⟨x, q, rfl, h1, h2⟩ := hl.uncons
         obtain ⟨y, q2, rfl, h3, h4⟩ := h2.uncons
         have := h4.nil_left; subst this
         obtain ⟨rfl, hfind⟩ := he
         have hb1 := bytesX_sound (P := P) r.read h1 hs
         have hb2 := bytesX_sound (P := P) r.read h3 ht
         unfold xIndex at hx
         split at hx
         · cases hx
         · rename_i hng
           have hng := Nat.le_of_ble_eq_true hng
           split at hx
           · rename_i m hm
             split at hx
             · rename_i hc
               simp only [Bool.and_eq_true] at hc
               have c1 := Nat.le_of_ble_eq_true hc.1.1
               have c2 := Nat.le_of_ble_eq_true hc.1.2
               have c3 := Nat.le_of_ble_eq_true hc.2
               simp only [Option.some.injEq] at hx; subst hx
               obtain ⟨c, g1, g2, g3⟩ := hg g (by omega)
               have hcell : w.cell? ⟨g, 0, none⟩ = some (.int .i64 (Int.ofNat m)) := by
                 unfold loadOne at hm
                 simp only at hm
                 split at hm
                 · rename_i cs hcs
                   rw [nth_eq] at hm
                   obtain ⟨y', k1, k2⟩ := cellsOf_some g1 hcs r.read _ _ hm
                   rw [k2.int_inv, g2, g3] at k1
                   exact k1
                 · cases hm
               have hr := Lib.run_indexString (P := P) ⟨s.toArray⟩ ⟨t.toArray⟩ w g (Int.ofNat m) hfind hcell c1 (Int.ofNat_le.2 c2) (by have : (⟨s.toArray⟩ : ByteArray).size = s.length := rfl; omega)
               refine ⟨_, w, σ, .int _ _, ?_, r, .refl _ _ _⟩
               have body : ∀ a b : Value, Extern.BytealgIndex.index #[a, b] = (do
                 let a' ← Extern.Bytes.bytesOf a
                 let b' ← Extern.Bytes.bytesOf b
                 if b'.size < 2 || (b'.size : Int) > (← Extern.BytealgIndex.maxLen) then
                   unsupported (.noEntry "extern/internal/bytealg.Index.length")
                 if a'.size ≥ 2 ^ 32 - 15 then
                   unsupported (.noEntry "extern/internal/bytealg.Index: a haystack of 2^32 - 15 bytes or more")
                 match (List.range (a'.size + 1 - b'.size)).find? fun i => a'.extract i (i + b'.size) == b' with
                 | some i => pure (goInt i)
                 | none => pure (goInt (-1))) := fun a b => rfl
               have p1 : (Extern.Bytes.bytesOf (.string ⟨s.toArray⟩)).run P w = .ok ⟨s.toArray⟩ w := rfl
               have p2 : (Extern.Bytes.bytesOf (.string ⟨t.toArray⟩)).run P w = .ok ⟨t.toArray⟩ w := rfl
               rw [body] at hr
               change (Extern.BytealgIndex.index #[x, y]).run P w = _
               rw [body]
               rw [Sem.run_bind, p1, Result.andThen_ok, Sem.run_bind, p2, Result.andThen_ok] at hr
               rw [Sem.run_bind, hb1, Result.andThen_ok, Sem.run_bind, hb2, Result.andThen_ok, hr, findL_zero]
             · cases hx
           · cases hx
       · cases hv
     · cases hv
   · cases hv
 · -- noZero
   rename_i e
   split at hv
   · rename_i x0
     split at hv
     · rename_i n
       split at hv
       · rename_i hb
         have hb := Nat.le_of_ble_eq_true hb
         simp only [Option.some.injEq, Prod.mk.injEq] at hv
         obtain ⟨rfl, rfl⟩ := hv
         obtain ⟨x, q, rfl, h1, h2⟩ := hl.uncons
         have := h2.nil_left; subst this
         rw [h1.int_inv]
         obtain ⟨ps, t, rfl, hu, h1c⟩ := he
         obtain ⟨cs, hrun, hcap, _⟩ := Lib.run_makeNoZero (P := P) w ps t e hu n hb
         have rd : Rel σ h w.drew.drew := r.drew.drew
         have ed : Ext σ h w σ h w.drew.drew := (Ext.drew σ h w).trans (Ext.drew σ h w.drew)
         obtain ⟨r1, r2⟩ := rd.alloc (.cells cs e) (.op [] 1 (some e)) ⟨w.heap.size, 0, cs.size, 1⟩ rfl
           ⟨fun j v hj => by simp at hj, Nat.zero_le _, new_there w.drew.drew cs e (0, 0) (.inl rfl) _ (Nat.le_refl _), rfl, rfl, cs, (0, 0), heap_new _ _⟩
         exact ⟨_, _, _, .slO h.next 0 n cs.size _ (Sg.upd_same _ _ _) hcap (by simp) n hcap (by simp), hrun, r1, ed.trans r2⟩
       · cases hv
     · cases hv
   · cases hv
 · -- same
   split at hv
   · rename_i v0
     simp only [Option.some.injEq, Prod.mk.injEq] at hv
     obtain ⟨rfl, rfl⟩ := hv
     obtain ⟨x, q, rfl, h1, h2⟩ := hl.uncons
     have := h2.nil_left; subst this
     simp only [entryOK, entryOf] at he; subst he
     exact ⟨x, w, σ, h1, rfl, r, .refl _ _ _⟩
   · cases hv
theorem callF_ok (hgor : NoGor P) (hmix : P.follows .mixedOrders = true) (Sf : Nat → Nat) {X : List (Nat × XK)} (hX : XOK P X) (NG L : Nat) : ∀ n, CallOK P NG (callF P Sf X NG L n)
 | 0 => fun f args h K σ w args' H => by simp [callF] at H
 | n + 1 => fun f args h K σ w args' H r hg hl => by
   have hcall := callF_ok hgor hmix Sf hX NG L n
   simp only [callF, funcB] at H
   split at H
   · rename_i fn hf
     split at H
     · rename_i c hb
       refine .inl ⟨fn, hf, by rw [hb]; rfl, ?_⟩
       simp only [bodyC] at H
       split at H
       · rename_i hle
         have hle := Nat.le_of_ble_eq_true hle
         refine calls_of_wp hf hb ?_
         refine code_sound hcall hgor hmix (S := ⟨Sf f, NG, fn.ntmps⟩) rfl c L _ h _ σ _ w _ H (start_st (S := ⟨Sf f, NG, fn.ntmps⟩) hl hg hle) r fun e tm' h' a' w' σ' k1 k2 k3 k4 => ?_
         have fin : ∀ (H1 : kR ((resB P ⟨Sf f, NG, fn.ntmps⟩ fn.results.toList).f tm' h') h' K = true), a'.defers = [] ∧ ∃ v, (results fn a'.tmps).run P w' = .ok v w' ∧ Post K σ h w (.returned v) w' := fun H1 => by
           unfold kR at H1
           split at H1
           · rename_i vs hvs
             obtain ⟨vs', g1, g2⟩ := res_sound k2 k3 fn.results.toList vs hvs
             refine ⟨k2.defs, _, ?_, resOf vs, _, σ', h', rfl, H1, resOf_rel g1, k3, k4⟩
             have hres : results fn a'.tmps = (do let vs ← fn.results.mapM (resF a'.tmps); pure (if h : vs.size = 1 then vs[0] else .tuple vs)) := rfl
             rw [hres, Array.mapM_eq_mapM_toList]
             simp only [Sem.run_bind, Sem.run_map, g2, Result.andThen_ok, Sem.run_pure]
           · cases H1
         cases e with
         | norm => exact fin k1
         | ret => exact fin k1
         | exit i => simp at k1
         | goto i => simp at k1
       · cases H
     · rename_i hb
       split at H
       · rename_i k hk
         simp only [xK] at H
         split at H
         · rename_i v h2 hv
           obtain ⟨fn', ent, e1, e2, e3, e4, e5⟩ := hX _ (xOf_mem hk)
           rw [hf] at e1; cases e1
           obtain ⟨v', w2, σ2, g1, g2, g3, g4⟩ := xVal_sound (P := P) e5 r hg hv hl
           refine .inr ⟨v', w2, ?_, v, v', σ2, h2, rfl, H, g1, g3, g4⟩
           have hname := hgor f fn hf
           rw [run_callFunc_extern hf (by simpa using hname) e2 e3 e4, g2]
           rfl
         · cases H
       · simp at H
   · simp at H
def isT : KV := fun v _ => match v with | .bool b => b | _ => false
end Go.Ev
