import Derived.Test.YtilpiiafjehbnaaGreatDoorEvM
import Derived.Tactics
import Derived.LoopN
namespace Go.Ev
open Go.RowKit
set_option linter.unusedSimpArgs false
set_option linter.unusedVariables false
variable {P : Program} {σ : Sg}
def Glob (σ : Sg) (n : Nat) : Prop := ∀ g, g < n → ∃ c, σ g = some c ∧ c.blk = g ∧ c.off = 0
theorem Glob.mono {σ' : Sg} {n : Nat} (hs : σ.le σ') (h : Glob σ n) : Glob σ' n := fun g hg => let ⟨c, h1, h2⟩ := h g hg; ⟨c, hs _ _ h1, h2⟩
def NoGor (P : Program) : Prop := ∀ (f : Nat) (fn : Func), P.funcs[f]? = some fn → fn.name ≠ "runtime.NumGoroutine"
def Post (K : KV) (σ : Sg) (h : H) (w : World) : Ending → World → Prop := fun e w' =>
 ∃ v v' σ' h', e = .returned v' ∧ K v h' = true ∧ VR σ' v v' ∧ Rel σ' h' w' ∧ Ext σ h w σ' h' w'
def CallOK (P : Program) (NG : Nat) (call : CallT) : Prop := ∀ (f : Nat) (args : List Value) (h : H) (K : KV) (σ : Sg) (w : World) (args' : List Value),
 call f args h K = true → Rel σ h w → Glob σ NG → LR σ args args' →
 (∃ fn, P.funcs[f]? = some fn ∧ fn.body.isSome = true ∧ Calls P f args'.toArray w (Post K σ h w)) ∨
 (∃ v' w', (callFunc f args'.toArray).run P w = .ok (.value v') w' ∧ Post K σ h w (.returned v') w')
theorem Rel.drawn {h : H} {w : World} (r : Rel σ h w) (n : Nat) : Rel σ h { w with drawn := n } :=
 ⟨r.fresh, r.inb, fun B x hx => let ⟨c, hc, ho⟩ := r.obj B x hx; ⟨c, hc, ho.same rfl⟩, r.excl⟩
theorem Ext.drawn (σ : Sg) (h : H) (w : World) (n : Nat) : Ext σ h w σ h { w with drawn := n } :=
 ⟨Sg.le_refl _, ⟨rfl, rfl, rfl, Nat.le_refl _, fun _ _ _ => rfl⟩, fun _ _ h => h, Nat.le_refl _, fun _ _ h => h, fun _ _ => rfl, fun _ _ h => h⟩
theorem does_wp {h h' : H} {w : World} {o : Oper} {a : Act} {v : Value} {Next : Act → World → Prop} {Q : Exit → Act → World → Prop} (hd : Does P σ h w o a v h')
   (hn : ∀ v' σ' w', VR σ' v v' → Rel σ' h' w' → Ext σ h w σ' h' w' → Next (a.put o.dst v') w') : o.wp P a w Next Q := by
 obtain ⟨σ', w', v', hr, h1, h2, h3⟩ := hd
 unfold Oper.wp
 rcases hr with hr | ⟨hr, rfl⟩
 · rw [hr]; exact hn _ _ _ h1 h2 h3
 · rw [hr]; exact hn _ _ _ h1 h2 h3
theorem callFunc_run {f : Nat} {fn : Func} (hg : NoGor P) (hf : P.funcs[f]? = some fn) (hb : fn.body.isSome = true) (args : Array Value) (w : World) :
   (callFunc f args).run P w = .ok (.enter f args) w := by
 have h1 := hg f fn hf
 have h3 : fn.body ≠ none := fun e => by rw [e] at hb; cases hb
 simp [callFunc, hf, h1, h3]
theorem funcArgs_some {x x' : Value} {args args' : List Value} {g : Nat} {l : List Value} (h : funcArgs x args = some (g, l)) (hx : VR σ x x') (ha : LR σ args args') :
   ∃ first captured, x' = .func (.func g) first captured ∧ LR σ l (first.toList ++ (args' ++ captured.toList)) := by
 unfold funcArgs at h
 split at h
 · simp only [Option.some.injEq, Prod.mk.injEq] at h
   obtain ⟨rfl, rfl⟩ := h
   cases hx with
   | func f a b a' b' ha' hb ka kb =>
     exact ⟨a', b', rfl, (LR.of_arrays ha' ka).append (ha.append (LR.of_arrays hb kb))⟩
 · cases h
theorem heavyO_sound {call : CallT} {NG : Nat} (hcall : CallOK P NG call) (hgor : NoGor P) {sc : Sc} {kn : Operand → Bool} {env : List Value} {tm : T Value} {a : Act} {o : Oper} {h : H} {w : World} {K : OpK}
   (hF : FR σ sc kn env tm a) (hk : o.op.operands.toList.all kn = true) (r : Rel σ h w) (hg : Glob σ NG)
   (hv : (heavyO P sc o.op).f call env tm [] h K = true) (Next : Act → World → Prop) (Q : Exit → Act → World → Prop)
   (hn : ∀ v v' σ' h' w', K v [] h' = true → VR σ' v v' → Rel σ' h' w' → Ext σ h w σ' h' w' → Next (a.put o.dst v') w') : o.wp P a w Next Q := by
 have hk' : ∀ x, x ∈ o.op.operands.toList → kn x = true := fun x hx => List.all_eq_true.1 hk x hx
 have plain : (∀ c, o.op ≠ .call c) → kH ((heavyB P sc o.op).f env tm h) [] K = true → o.wp P a w Next Q := fun hnc hv => by
   unfold kH at hv
   split at hv
   · rename_i v h' hb
     exact does_wp (heavy_sound hF hk r hnc hb) fun v' σ' w' h1 h2 h3 => hn v v' σ' h' w' hv h1 h2 h3
   · cases hv
 cases hop : o.op with
 | call c =>
   rw [hop] at hv hk'
   simp only [heavyO, callB] at hv
   split at hv
   · rename_i f hcal
     simp only [goCall] at hv
     split at hv
     · rename_i g l hfa
       have hf := hF f (hk' f (by simp [Op.operands, Call.operands, hcal]))
       have hargs := hF.list (l := c.args.toList) (List.all_eq_true.2 fun z hz => hk' z (by simp [Op.operands, Call.operands, hcal]; right; simpa using hz))
       obtain ⟨first, captured, e1, e2⟩ := funcArgs_some hfa hf hargs
       have harr : first ++ c.args.map a.eval ++ captured = (first.toList ++ (c.args.toList.map a.eval ++ captured.toList)).toArray := by
         apply Array.ext'
         simp
       have hr : (execOp a.eval o).run P w = (callFunc g (first.toList ++ (c.args.toList.map a.eval ++ captured.toList)).toArray).run P w := by
         rw [← harr]
         simp only [execOp, hop, resolve, hcal, Deferred.ofValue, e1, Sem.run_bind, Sem.run_pure, Result.andThen_ok, invoke]
       rcases hcall g l h _ σ w _ hv r hg e2 with ⟨fn, h1, h2, h3⟩ | ⟨v', w', h1, h2⟩
       · unfold Oper.wp
         rw [hr, callFunc_run hgor h1 h2]
         show Calls P g _ w _
         refine h3.mono fun e w' hp => ?_
         obtain ⟨v, v', σ', h', rfl, k1, k2, k3, k4⟩ := hp
         exact hn v v' σ' h' w' k1 k2 k3 k4
       · unfold Oper.wp
         rw [hr, h1]
         obtain ⟨v, v2, σ', h', e, k1, k2, k3, k4⟩ := h2
         cases e
         exact hn v v' σ' h' w' k1 k2 k3 k4
     · cases hv
   · simp at hv
   · rename_i b hcal
     simp only [kH] at hv
     split at hv
     · rename_i v h' hb
       exact does_wp (heavyCall_sound hF hop hcal hk r hb) fun v' σ' w' h1 h2 h3 => hn v v' σ' h' w' hv h1 h2 h3
     · cases hv
 | defer c => rw [hop] at hv; simp [heavyO] at hv
 | next it s =>
   rw [hop] at hv hk'
   simp only [heavyO] at hv
   have h1 := hF it (hk' it (by simp [Op.operands]))
   obtain ⟨v, v', h', w', k1, k2, k3, k4, k5⟩ := next_sound (P := P) (ty := o.type) r h1 hv
   unfold Oper.wp
   have hrun : (execOp a.eval o).run P w = .ok (.value v') w' := by simp [execOp, hop, k1]
   rw [hrun]
   exact hn v v' σ h' w' k2 k3 k4 k5
 | _ =>
   rw [hop] at hv
   refine plain (fun c e => by rw [hop] at e; cases e) ?_
   rw [hop]
   exact hv
theorem value_wp {w w' : World} {o : Oper} {a : Act} {v' : Value} {Next : Act → World → Prop} {Q : Exit → Act → World → Prop} (hr : (execOp a.eval o).run P w = .ok (.value v') w') (hn : Next (a.put o.dst v') w') : o.wp P a w Next Q := by
 unfold Oper.wp; rw [hr]; exact hn
theorem oneB_sound {call : CallT} {NG : Nat} (hcall : CallOK P NG call) (hgor : NoGor P) {sc : Sc} {env : List Value} {tm : T Value} {a : Act} {o : Oper} {h : H} {w : World} {K : OpK}
   (hF : FR σ sc (known sc) env tm a) (r : Rel σ h w) (hg : Glob σ NG)
   (hv : (oneB P sc o.op).f call env tm [] h K = true) (Next : Act → World → Prop) (Q : Exit → Act → World → Prop)
   (hn : ∀ v v' σ' h' w', K v [] h' = true → VR σ' v v' → Rel σ' h' w' → Ext σ h w σ' h' w' → Next (a.put o.dst v') w') : o.wp P a w Next Q := by
 unfold oneB at hv
 split at hv
 · rename_i hk
   split at hv
   · simp only [kO] at hv
     split at hv
     · rename_i v hp
       obtain ⟨v', h1, h2⟩ := pure_sound (P := P) hF hk hp
       exact value_wp (h2 w) (hn v v' σ h w hv h1 r (.refl _ _ _))
     · cases hv
   · simp only [kO] at hv
     split at hv
     · rename_i v hp
       obtain ⟨v', h1, h2⟩ := read_sound (P := P) hF hk r.read hp
       exact value_wp h2 (hn v v' σ h w hv h1 r (.refl _ _ _))
     · cases hv
   · simp only [kA] at hv
     split at hv
     · rename_i x v hp
       obtain ⟨d, obj, c, v', h1, h2, h3, h4⟩ := alloc_sound (P := P) (w := w) hF hk hp
       have hfr := r.fresh _ (Nat.le_refl _)
       obtain ⟨k1, k2⟩ := h4 (σ.upd h.next c) (Sg.le_upd c hfr) (Sg.upd_same _ _ _)
       obtain ⟨r1, r2⟩ := (r.drawn (w.drawn + d)).alloc obj x c h2 k2
       exact value_wp h1 (hn v v' _ _ _ hv k1 r1 ((Ext.drawn σ h w _).trans r2))
     · cases hv
   · exact heavyO_sound hcall hgor hF hk r hg hv Next Q hn
 · cases hv
structure St (S : SG) (σ : Sg) (done : List (Option Nat)) (env : List Value) (tm : T Value) (a : Act) : Prop where
 env : ∀ t k, idx t done = some k → VR σ (nthD k env) (a.tmps.getD t undef)
 tm : ∀ t, Nat.testBit S.m t = true → VR σ (getT (toPos (Nat.succ t)) tm) (a.tmps.getD t undef)
 glob : Glob σ S.g
 size : a.tmps.size = S.n
 defs : a.defers = []
theorem St.mono {S : SG} {σ' : Sg} {done : List (Option Nat)} {env : List Value} {tm : T Value} {a : Act} (hs : σ.le σ') (h : St S σ done env tm a) : St S σ' done env tm a :=
 ⟨fun t k hk => (h.env t k hk).mono hs, fun t ht => (h.tm t ht).mono hs, h.glob.mono hs, h.size, h.defs⟩
theorem St.start {S : SG} {done : List (Option Nat)} {env : List Value} {tm : T Value} {a : Act} (h : St S σ done env tm a) : St S σ [] [] tm a :=
 ⟨fun t k hk => by simp [idx] at hk, h.tm, h.glob, h.size, h.defs⟩
theorem St.fr {S : SG} {done : List (Option Nat)} {env : List Value} {tm : T Value} {a : Act} (h : St S σ done env tm a) : FR σ ⟨S, done⟩ (known ⟨S, done⟩) env tm a := by
 intro x hx
 cases x with
 | tmp t =>
   simp only [known] at hx
   unfold eval opnd
   simp only
   cases hi : idx t done with
   | some k => exact h.env t k hi
   | none => rw [hi] at hx; exact h.tm t hx
 | const v => exact cstOk_vr hx
 | global g =>
   obtain ⟨c, h1, h2, h3⟩ := h.glob g (Nat.le_of_ble_eq_true hx)
   have := VR.ptr (σ := σ) g 0 c h1
   rw [h2, h3] at this
   exact this
 | func f => exact .func _ _ _ _ _ rfl rfl (fun i x y h => by simp at h) (fun i x y h => by simp at h)
theorem getT_setP (p q : Pos) (tm : T Value) (v : Value) : getT q (tm.setP p (some v)) = if p = q then v else getT q tm := by
 unfold getT
 rw [T.getP_setP]
 split <;> rfl
theorem putB_get {S : SG} {d : Tmp} {v : Value} {tm : T Value} {t : Nat} : getT (toPos (Nat.succ t)) ((putB S (some d)).f v tm) = if d = t ∧ Nat.testBit S.m d = true then v else getT (toPos (Nat.succ t)) tm := by
 unfold putB
 simp only
 split
 · rename_i hb
   show getT _ (tm.setP (toPos (Nat.succ d)) (some v)) = _
   rw [getT_setP]
   by_cases hd : d = t
   · subst hd; simp [hb]
   · rw [if_neg (fun e => hd (toPos_inj e)), if_neg (fun e => hd e.1)]
 · rename_i hb
   rw [if_neg (by simp [hb])]
theorem getD_put {a : Act} {d t : Nat} {v : Value} (hd : d < a.tmps.size) : (a.put (some d) v).tmps.getD t undef = if d = t then v else a.tmps.getD t undef := by
 show (a.tmps.setIfInBounds d v).getD t undef = _
 simp only [Array.getD_eq_getD_getElem?, Array.getElem?_setIfInBounds]
 by_cases h : d = t
 · subst h; simp [hd]
 · simp [h]
theorem put_size {a : Act} {d : Option Tmp} {v : Value} : (a.put d v).tmps.size = a.tmps.size := by
 cases d <;> simp [Act.put]
theorem put_defers {a : Act} {d : Option Tmp} {v : Value} : (a.put d v).defers = a.defers := by
 cases d <;> rfl
theorem St.put {S : SG} {done : List (Option Nat)} {env : List Value} {tm : T Value} {a : Act} (h : St S σ done env tm a) {d : Option Tmp} (hd : dstOk S d = true) {v v' : Value} (hv : VR σ v v') :
   St S σ (d :: done) (v :: env) ((putB S d).f v tm) (a.put d v') := by
 cases d with
 | none =>
   refine ⟨fun t k hk => ?_, h.tm, h.glob, h.size, h.defs⟩
   simp only [idx] at hk
   split at hk
   · rename_i j hj
     simp only [Option.some.injEq] at hk; subst hk
     exact h.env t j hj
   · cases hk
 | some d =>
   have hlt : d < a.tmps.size := by rw [h.size]; exact Nat.le_of_ble_eq_true hd
   refine ⟨fun t k hk => ?_, fun t ht => ?_, h.glob, by rw [put_size]; exact h.size, by rw [put_defers]; exact h.defs⟩
   · rw [getD_put hlt]
     simp only [idx] at hk
     split at hk
     · rename_i hb
       simp only [Option.some.injEq] at hk; subst hk
       rw [if_pos (Nat.eq_of_beq_eq_true hb)]
       exact hv
     · rename_i hb
       rw [if_neg (Nat.ne_of_beq_eq_false hb)]
       split at hk
       · rename_i j hj
         simp only [Option.some.injEq] at hk; subst hk
         exact h.env t j hj
       · cases hk
   · rw [getD_put hlt, putB_get]
     by_cases hdt : d = t
     · subst hdt; simp [ht, hv]
     · rw [if_neg (fun e => hdt e.1), if_neg hdt]; exact h.tm t ht
theorem isB_iff {w : Bool} {v v' : Value} (hv : VR σ v v') : isB w v = true ↔ v' = .bool w := by
 cases hv with
 | bool b => cases b <;> cases w <;> simp [isB]
 | _ => simp [isB]
theorem want_sound {sc : Sc} {ops : Array Oper} {env : List Value} {tm : T Value} {a : Act} {o : Oper}
   (hF : ∀ j w oj d, o.guard = some (j, w) → ops[j]? = some oj → oj.dst = some d → VR σ (eval sc (.tmp d) env tm) (a.tmps.getD d undef)) (hok : wantOk sc ops o.guard = true) :
   (wantB sc ops o.guard).f env tm = Region.wanted o (yielded ops a.tmps) := by
 unfold wantOk at hok
 unfold wantB Region.wanted
 split
 · rename_i hgd; simp [hgd]
 · rename_i j w hgd
   rw [hgd] at hok
   simp only at hok
   split at hok
   · rename_i oj hoj
     split at hok
     · rename_i d hd
       have h1 := hF j w oj d hgd hoj hd
       simp only [hgd, hoj, hd, yielded, Option.bind_some]
       rw [Bool.eq_iff_iff, isB_iff h1]
       have hy : a.tmps.getD d undef = (a.tmps[d]?).getD undef := by simp
       rw [hy]
       cases hq : a.tmps[d]? with
       | none => simp [undef]
       | some u => cases u <;> simp
     · cases hok
   · cases hok
theorem ops_sound {call : CallT} {NG : Nat} (hcall : CallOK P NG call) (hgor : NoGor P) {S : SG} (hS : S.g = NG) {ops : Array Oper} {K : KE} {Q : Exit → Act → World → Prop} {σ0 : Sg} {h0 : H} {w0 : World}
   (hQ : ∀ tm h a w σ, K .norm tm [] h = true → St S σ [] [] tm a → Rel σ h w → Ext σ0 h0 w0 σ h w → Q .normal a w) :
   ∀ (l : List Oper) (done : List (Option Nat)) (env : List Value) (tm : T Value) (h : H) (σ : Sg) (a : Act) (w : World), (opsB P S ops done l).f call env tm [] h K = true →
     St S σ done env tm a → Rel σ h w → Ext σ0 h0 w0 σ h w → wpList P ops Q l a w
 | [], done, env, tm, h, σ, a, w, hv, hst, r, he => hQ tm h a w σ hv hst.start r he
 | o :: l, done, env, tm, h, σ, a, w, hv, hst, r, he => by
   simp only [opsB] at hv
   split at hv
   · rename_i hok
     simp only [Bool.and_eq_true] at hok
     have hw := want_sound (σ := σ) (sc := ⟨S, done⟩) (ops := ops) (env := env) (tm := tm) (a := a) (o := o) (fun j w oj d h1 h2 h3 => by
       have hkn : known ⟨S, done⟩ (.tmp d) = true := by
         have := hok.1
         simpa [wantOk, h1, h2, h3] using this
       exact hst.fr (.tmp d) hkn) hok.1
     simp only [opStep] at hv
     simp only [wpList]
     rw [← hw]
     split at hv
     · rename_i hwt
       rw [if_pos hwt]
       refine .inl (oneB_sound hcall hgor hst.fr r (hS ▸ hst.glob) hv _ _ fun v v' σ' h' w' k1 k2 k3 k4 => ?_)
       exact ops_sound hcall hgor hS hQ l _ _ _ h' σ' _ w' k1 ((hst.mono k4.le).put hok.2 k2) k3 (he.trans k4)
     · rename_i hwt
       rw [if_neg (by simp [hwt])]
       exact ops_sound hcall hgor hS hQ l _ _ _ h σ _ w hv (hst.put hok.2 (VR.undef σ)) r he
   · cases hv
end Go.Ev
