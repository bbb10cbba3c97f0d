import Derived.Test.YtilpiiafjehbnaaGreatDoorEvY
set_option linter.unusedVariables false
namespace Go.Ev
def pI : Box (Value → T Value → T Value) := ⟨fun _ t => t⟩
noncomputable def pS (n : Nat) : Box (Value → T Value → T Value) := ⟨fun v t => T.set t n v⟩
def wT : Box (List Value → T Value → Bool) := ⟨fun _ _ => true⟩
noncomputable def wB (b : Bool) (n : Nat) : Box (List Value → T Value → Bool) := ⟨fun e _ => isB b (nthD n e)⟩
noncomputable def oK (x : List Value → T Value → H → Option Value) : Box OpT := ⟨fun _ e t d h K => kO (x e t h) d h K⟩
noncomputable def oN (n : Nat) : Box OpT := ⟨fun _ e _ d h K => kO (some (nthD n e)) d h K⟩
noncomputable def oT (n : Nat) : Box OpT := ⟨fun _ _ t d h K => kO (some (tg t n)) d h K⟩
noncomputable def tC (n : Nat) : Box EvT := ⟨fun _ t => tg t n⟩
theorem pI_f (v : Value) (t : T Value) : pI.f v t = t := (rfl)
theorem pS_f (n : Nat) (v : Value) (t : T Value) : (pS n).f v t = T.set t n v := (rfl)
theorem wT_f (e : List Value) (t : T Value) : wT.f e t = true := (rfl)
theorem wB_f (b : Bool) (n : Nat) (e : List Value) (t : T Value) : (wB b n).f e t = isB b (nthD n e) := (rfl)
theorem oK_f (x : List Value → T Value → H → Option Value) (c : CallT) (e : List Value) (t : T Value) (d : Defs) (h : H) (K : OpK) : (oK x).f c e t d h K = kO (x e t h) d h K := (rfl)
theorem oN_f (n : Nat) (c : CallT) (e : List Value) (t : T Value) (d : Defs) (h : H) (K : OpK) : (oN n).f c e t d h K = kO (some (nthD n e)) d h K := (rfl)
theorem oT_f (n : Nat) (c : CallT) (e : List Value) (t : T Value) (d : Defs) (h : H) (K : OpK) : (oT n).f c e t d h K = kO (some (tg t n)) d h K := (rfl)
theorem tC_f (n : Nat) (e : List Value) (t : T Value) : (tC n).f e t = tg t n := (rfl)
theorem bx (x : OpsT) : (⟨x⟩ : Box OpsT).f = x := (rfl)
theorem dF {p : Prop} [Decidable p] (h : ¬ p) : decide p = false := decide_eq_false h
theorem dT {p : Prop} [Decidable p] (h : p) : decide p = true := decide_eq_true h
theorem ops_s {one : Box OpT} {put : Box (Value → T Value → T Value)} {want : Box (List Value → T Value → Bool)} {rest : OpsT} {call : CallT} {env : List Value} {tm : T Value} {ds : Defs} {h : H} {K : KE}
   (h1 : one.f call env tm ds h (fun v ds h => rest call (v :: env) (put.f v tm) ds h K) = true) (hw : want.f env tm = true := by rfl) : opStep one put want ⟨rest⟩ call env tm ds h K = true := by
 rw [opStep_eq, if_pos hw]
 exact h1
theorem ops_k {one : Box OpT} {put : Box (Value → T Value → T Value)} {want : Box (List Value → T Value → Bool)} {rest : OpsT} {call : CallT} {env : List Value} {tm : T Value} {ds : Defs} {h : H} {K : KE}
   (h1 : rest call (undef :: env) (put.f undef tm) ds h K = true) (hw : want.f env tm = false := by rfl) : opStep one put want ⟨rest⟩ call env tm ds h K = true := by
 rw [opStep_eq, if_neg (by rw [hw]; decide)]
 exact h1
theorem EW : type_of% (And.intro @kO_some (And.intro @kA_some (And.intro @kH_some (And.intro @aO_some (And.intro @andB_true (And.intro @oK_f (And.intro @oN_f (@oT_f)))))))) := And.intro @kO_some (And.intro @kA_some (And.intro @kH_some (And.intro @aO_some (And.intro @andB_true (And.intro @oK_f (And.intro @oN_f (@oT_f)))))))
theorem EV : type_of% (And.intro @tg_set (And.intro @toTm_cons (And.intro @toTm_nil (And.intro @fieldPtr_ptr (And.intro @Nat.add_zero (And.intro @Nat.zero_add (And.intro @kO_some (And.intro @kA_some (And.intro @kH_some (And.intro @gd_true (And.intro @gd_false (And.intro @nthD_zero (And.intro @nthD_succ (And.intro @isB_true (And.intro @isB_false (And.intro @isB_undef (And.intro @pickV_true (And.intro @pickV_false (And.intro @binV_add (And.intro @binV_sub (And.intro @binV_mul (And.intro @binV_eql (And.intro @binV_neq (And.intro @binV_lss (And.intro @binV_leq (And.intro @binV_gtr (And.intro @binV_geq (And.intro @unV_not (And.intro @nt (And.intro @nf (And.intro @Bool.false_eq_true (And.intro @dt (And.intro @df (And.intro @decide_true (And.intro @decide_false (And.intro @withV_some (And.intro @aggO_some (And.intro @ptrTo_eq (And.intro @aO_some (And.intro @andB_true (And.intro @gz (And.intro @gs (And.intro @cells_agg (And.intro @pI_f (And.intro @pS_f (And.intro @wT_f (And.intro @wB_f (@tC_f)))))))))))))))))))))))))))))))))))))))))))))))) := And.intro @tg_set (And.intro @toTm_cons (And.intro @toTm_nil (And.intro @fieldPtr_ptr (And.intro @Nat.add_zero (And.intro @Nat.zero_add (And.intro @kO_some (And.intro @kA_some (And.intro @kH_some (And.intro @gd_true (And.intro @gd_false (And.intro @nthD_zero (And.intro @nthD_succ (And.intro @isB_true (And.intro @isB_false (And.intro @isB_undef (And.intro @pickV_true (And.intro @pickV_false (And.intro @binV_add (And.intro @binV_sub (And.intro @binV_mul (And.intro @binV_eql (And.intro @binV_neq (And.intro @binV_lss (And.intro @binV_leq (And.intro @binV_gtr (And.intro @binV_geq (And.intro @unV_not (And.intro @nt (And.intro @nf (And.intro @Bool.false_eq_true (And.intro @dt (And.intro @df (And.intro @decide_true (And.intro @decide_false (And.intro @withV_some (And.intro @aggO_some (And.intro @ptrTo_eq (And.intro @aO_some (And.intro @andB_true (And.intro @gz (And.intro @gs (And.intro @cells_agg (And.intro @pI_f (And.intro @pS_f (And.intro @wT_f (And.intro @wB_f (@tC_f)))))))))))))))))))))))))))))))))))))))))))))))
theorem OF : type_of% (And.intro @oK_f (And.intro @oN_f (@oT_f))) := And.intro @oK_f (And.intro @oN_f (@oT_f))
theorem NK : type_of% (And.intro @nthD_zero (And.intro @nthD_succ (And.intro @kO_some (And.intro @pI_f (@pS_f))))) := And.intro @nthD_zero (And.intro @nthD_succ (And.intro @kO_some (And.intro @pI_f (@pS_f))))
theorem C.ct {call : CallT} {L : Nat} {tm : T Value} {h : H} {Q : Ex → T Value → H → Prop} {x : Box EvT} {a b : Box CodeT} (ha : C a call L tm h Q) (hx : x.f [] tm = .bool true := by simp only [seval, EV]) : C ⟨condC x a b⟩ call L tm h Q := C.cond true hx (fun _ => ha) fun g => by cases g
theorem C.cf {call : CallT} {L : Nat} {tm : T Value} {h : H} {Q : Ex → T Value → H → Prop} {x : Box EvT} {a b : Box CodeT} (hb : C b call L tm h Q) (hx : x.f [] tm = .bool false := by simp only [seval, EV]) : C ⟨condC x a b⟩ call L tm h Q := C.cond false hx (fun g => by cases g) fun _ => hb
end Go.Ev
