import Derived.Test.YtilpiiafjehbnaaGreatDoorEvF
namespace Go.Ev
open Go.RowKit
set_option linter.unusedSimpArgs false
set_option linter.unusedVariables false
variable {P : Program} {σ : Sg}
theorem Gives.exec {v : Value} {s : Sem Value} {o : Oper} {a : Act} (h : Gives P σ v s) (he : execOp a.eval o = (do pure (.value (← s)) : Sem Next)) :
   ∃ v', VR σ v v' ∧ ∀ w, (execOp a.eval o).run P w = .ok (.value v') w := by
 obtain ⟨v', hv, hr⟩ := h
 exact ⟨v', hv, fun w => by rw [he]; simp [hr]⟩
theorem resolve_builtin {b : Builtin} {c : Call} {ρ : Operand → Value} (hc : c.callee = .builtin b) (t : TypeId) (w : World) :
   ∃ k, (do let d ← resolve ρ c t; invoke d.target d.args : Sem Next).run P w = (builtin b c.argTypes t k (c.args.map ρ)).run P w := by
 refine ⟨?_, ?_⟩
 rotate_left
 · simp only [resolve, hc, invoke, Sem.run_bind, Sem.run_pure, Result.andThen_ok]
   rfl
theorem args_map {c : Call} {ρ : Operand → Value} {l : List Operand} (h : c.args.toList = l) : c.args.map ρ = (l.map ρ).toArray := by
 rw [← h]; apply Array.ext'; simp
theorem capV_sound {x x' v : Value} (hx : VR σ x x') (h : capV x = some v) {t e : TypeId} (hu : P.underlying t = some (.slice e)) (ty : TypeId) :
   ∃ n : Nat, v = .int .i64 (Int.ofNat n) ∧ ∀ w, (Builtin.cap_ #[t] ty #[x']).run P w = .ok (.int .i64 (Int.ofNat n)) w := by
 unfold capV at h
 split at h
 · split at h
   · cases h
   · rename_i c b0 hb
     simp only [Option.some.injEq] at h; subst h
     have hlt : c < OPEN := by
       rcases Nat.lt_or_ge c OPEN with h | h
       · exact h
       · rw [Nat.ble_eq_true_of_le h] at hb; cases hb
     refine ⟨c, rfl, fun w => ?_⟩
     cases hx with
     | slNil => simp [Builtin.cap_, run_underlying hu, goInt]
     | sl B i n k c h hk => simp [Builtin.cap_, run_underlying hu, goInt]
     | slO B i n k c h hn hk lb hl he => exact absurd hlt (Nat.not_lt_of_le (open_opCap _ _))
     | slE B i o c h hi he => exact absurd hlt (Nat.not_lt_of_le (open_opCap _ _))
 · cases h
theorem dataV_sound {x x' v : Value} (hx : VR σ x x') (h : dataV x = some v) (ts : Array TypeId) (ty : TypeId) :
   ∃ v', VR σ v v' ∧ ∀ w, (Builtin.unsafeSliceData_ ts ty #[x']).run P w = .ok v' w := by
 have row : ∀ (a : Addr) (n c : Nat) (w : World), 1 ≤ c → (Builtin.unsafeSliceData_ ts ty #[.slice (some a) n c]).run P w = .ok (.pointer (some a)) w := fun a n c w hc => by
   obtain ⟨k, rfl⟩ : ∃ k, c = k + 1 := ⟨c - 1, by omega⟩
   rfl
 unfold dataV at h
 split at h
 · simp only [Option.some.injEq] at h; subst h
   cases hx
   exact ⟨_, .ptrNil, fun w => rfl⟩
 · split at h
   · split at h
     · rename_i a n c b1 ho b2 hb
       simp only [Option.some.injEq] at h; subst h
       have hb := Nat.le_of_ble_eq_true hb
       have ho := Nat.le_of_ble_eq_true ho
       cases hx with
       | sl B i n k c h hk => exact absurd hk (Nat.not_lt_of_le ho)
       | slO B i n k c h hn hk lb hl he =>
         rw [lbOf_opCap he] at hb
         exact ⟨_, .ptr B i c h, fun w => row _ _ _ w (Nat.le_trans hb (Nat.max_le.2 ⟨hn, hl⟩))⟩
       | slE B i o c h hi he =>
         rw [lbOf_opCap he] at hb
         simp at hb
     · cases h
   · split at h
     · rename_i a n c b1 ho b2 hb
       simp only [Option.some.injEq] at h; subst h
       have hb := Nat.le_of_ble_eq_true hb
       cases hx with
       | sl B i n k c h hk => exact ⟨_, .ptr B i c h, fun w => row _ _ _ w hb⟩
       | slO B i n k c h hn hk lb hl he => rw [Nat.ble_eq_true_of_le (open_opCap _ _)] at ho; cases ho
       | slE B i o c h hi he => rw [Nat.ble_eq_true_of_le (open_opCap _ _)] at ho; cases ho
     · cases h
 · cases h
theorem pure_sound {sc : Sc} {kn : Operand → Bool} {env : List Value} {tm : T Value} {a : Act} {o : Oper} {v : Value} (hF : FR σ sc kn env tm a) (hk : o.op.operands.toList.all (kn) = true)
   (h : (pureB P sc o.op).f env tm = some v) : ∃ v', VR σ v v' ∧ ∀ w, (execOp a.eval o).run P w = .ok (.value v') w := by
 have hk' : ∀ x, x ∈ o.op.operands.toList → kn x = true := fun x hx => List.all_eq_true.1 hk x hx
 cases hop : o.op with
 | move x =>
   rw [hop] at h hk'
   simp only [pureB, Option.some.injEq] at h; subst h
   exact ⟨_, hF x (hk' x (by simp [Op.operands])), fun w => by simp [execOp, hop]⟩
 | assign x =>
   rw [hop] at h hk'
   simp only [pureB, Option.some.injEq] at h; subst h
   exact ⟨_, hF x (hk' x (by simp [Op.operands])), fun w => by simp [execOp, hop]⟩
 | pick c x y =>
   rw [hop] at h hk'
   have h1 := hF c (hk' c (by simp [Op.operands]))
   have h2 := hF x (hk' x (by simp [Op.operands]))
   have h3 := hF y (hk' y (by simp [Op.operands]))
   simp only [pureB, pickV] at h
   split at h
   · rename_i hb
     rw [hb] at h1
     simp only [Option.some.injEq] at h; subst h
     exact ⟨_, h2, fun w => by simp [execOp, hop, h1.bool_inv, asBool]⟩
   · rename_i hb
     rw [hb] at h1
     simp only [Option.some.injEq] at h; subst h
     exact ⟨_, h3, fun w => by simp [execOp, hop, h1.bool_inv, asBool]⟩
   · cases h
 | nilCheck x =>
   rw [hop] at h hk'
   exact nilChk_sound (hF x (hk' x (by simp [Op.operands]))) hop rfl h
 | extract x i =>
   rw [hop] at h hk'
   have h1 := hF x (hk' x (by simp [Op.operands]))
   simp only [pureB, tupNth] at h
   split at h
   · rename_i vs hvs
     rw [hvs] at h1
     rw [nth_eq] at h
     generalize hax : a.eval x = ax at h1
     cases h1 with
     | tuple _ vs' ha ka =>
       obtain ⟨y, hy, hv⟩ := (LR.of_arrays ha ka).get h
       refine ⟨y, hv, fun w => ?_⟩
       have hy' : vs'[i]? = some y := by simpa using hy
       simp [execOp, hop, hax, Instr.extract, hy']
   · cases h
 | fieldAddr t x f =>
   rw [hop] at h hk'
   have h1 := hF x (hk' x (by simp [Op.operands]))
   simp only [pureB, pureFieldA] at h
   split at h
   · rename_i fs hu
     split at h
     · rename_i fd hfd
       split at h
       · cases h
       · rename_i n hn
         exact (fieldPtr_sound h1 hu hfd hn h).exec (by simp [execOp, hop])
     · cases h
   · cases h
 | field t x f =>
   rw [hop] at h hk'
   have h1 := hF x (hk' x (by simp [Op.operands]))
   simp only [pureB, pureField] at h
   split at h
   · rename_i fs hu
     split at h
     · rename_i fd hfd
       split at h
       · rename_i b hb
         exact (fieldOf_sound h1 hu hfd hb h).exec (by simp [execOp, hop])
       · cases h
     · cases h
   · cases h
 | indexAddr t x i =>
   rw [hop] at h hk'
   have h1 := hF x (hk' x (by simp [Op.operands]))
   have h2 := hF i (hk' i (by simp [Op.operands]))
   simp only [pureB, pureIndexA] at h
   split at h
   · rename_i e hu
     split at h
     · rename_i b hb
       exact (indexSl_sound h1 h2 hu hb h).exec (by simp [execOp, hop])
     · cases h
   · rename_i n e hu
     split at h
     · rename_i b hb
       exact (indexArr_sound h1 h2 hu hb h).exec (by simp [execOp, hop])
     · cases h
   · cases h
 | index t x i =>
   rw [hop] at h hk'
   have h1 := hF x (hk' x (by simp [Op.operands]))
   have h2 := hF i (hk' i (by simp [Op.operands]))
   simp only [pureB, pureIndex] at h
   split at h
   · rename_i hu
     exact (indexStr_sound h1 h2 hu h).exec (by simp [execOp, hop])
   · rename_i n e hu
     split at h
     · rename_i b hb
       exact (indexAgg_sound h1 h2 hu hb h).exec (by simp [execOp, hop])
     · cases h
   · cases h
 | slice t x lo hi mx =>
   rw [hop] at h hk'
   have h1 := hF x (hk' x (by simp [Op.operands]))
   have h2 : OR' σ ((evalO sc lo).f env tm) (lo.map a.eval) := hF.opt fun y hy => hk' y (by simp [Op.operands, hy])
   have h3 : OR' σ ((evalO sc hi).f env tm) (hi.map a.eval) := hF.opt fun y hy => hk' y (by simp [Op.operands, hy])
   have h4 : OR' σ ((evalO sc mx).f env tm) (mx.map a.eval) := hF.opt fun y hy => hk' y (by simp [Op.operands, hy])
   simp only [pureB, pureSlice] at h
   split at h
   · rename_i hu
     exact (sliceStr_sound h1 h2 h3 h4 hu h).exec (by simp [execOp, hop])
   · rename_i e hu
     split at h
     · rename_i b hb
       exact (sliceSl_sound h1 h2 h3 h4 hu hb h).exec (by simp [execOp, hop])
     · cases h
   · rename_i n e hu
     split at h
     · cases h
     · cases h
     · rename_i b hb hn
       exact (sliceArr_sound h1 h2 h3 h4 hu hb hn h).exec (by simp [execOp, hop])
   · cases h
 | binOp op t x y t' =>
   rw [hop] at h hk'
   have h1 := hF x (hk' x (by simp [Op.operands]))
   have h2 := hF y (hk' y (by simp [Op.operands]))
   simp only [pureB] at h
   refine ⟨v, (binV_sound h1 h2 h default).1, fun w => ?_⟩
   have := (binV_sound (P := P) h1 h2 h w).2
   simp only [execOp, hop, Sem.run_bind, this, Result.andThen_ok, Sem.run_pure]
 | unOp op t x =>
   rw [hop] at h hk'
   have h1 := hF x (hk' x (by simp [Op.operands]))
   simp only [pureB] at h
   refine ⟨v, (unV_sound (P := P) h1 h default).1, fun w => ?_⟩
   simp [execOp, hop, (unV_sound (P := P) h1 h w).2]
 | convert s d x =>
   rw [hop] at h hk'
   have h1 := hF x (hk' x (by simp [Op.operands]))
   simp only [pureB, pureConv] at h
   split at h
   · rename_i ds k hs hd
     simp only [toInt] at h
     split at h
     · rename_i kk n hn
       rw [hn] at h1
       simp only [Option.some.injEq] at h; subst h
       refine ⟨_, .int _ _, fun w => ?_⟩
       have : (convert s d (.int kk n)).run P w = .ok (.int k (k.wrap n)) w := by
         simp only [convert, Sem.run_bind, run_underlying hs, run_underlying hd, Result.andThen_ok]
         cases ds <;> simp [Conv.intToInt]
       simp [execOp, hop, h1.int_inv, this]
     · cases h
   · rename_i hs hd
     simp only [toStr] at h
     split at h
     · rename_i st hn
       rw [hn] at h1
       simp only [Option.some.injEq] at h; subst h
       refine ⟨_, .string _, fun w => ?_⟩
       simp [execOp, hop, h1.string_inv, convert, run_underlying hs, run_underlying hd]
     · cases h
   · cases h
 | build t ps =>
   rw [hop] at h hk'
   have hps := hF.parts (l := ps.toList) (List.all_eq_true.2 fun p hp => hk' p.2 (by
     simp only [Op.operands, List.mem_map]
     exact ⟨p, hp, rfl⟩))
   simp only [pureB, pureBuild] at h
   have hex : execOp a.eval o = (do pure (.value (← Instr.build t (ps.toList.map fun (p : Nat × Operand) => (p.1, a.eval p.2)).toArray)) : Sem Next) := by
     have e : (ps.toList.map fun (p : Nat × Operand) => (p.1, a.eval p.2)).toArray = ps.map fun (p : Nat × Operand) => (p.1, a.eval p.2) := by apply Array.ext'; simp
     rw [e]
     simp only [execOp, hop]
   split at h
   · rename_i z hz
     split at h
     · rename_i fs hu
       split at h
       · rename_i hfs
         simp only [aggO] at h
         split at h
         · rename_i l hl
           simp only [Option.some.injEq] at h; subst h
           exact (build_sound hz hu hfs hps.1 hps.2 hl).exec hex
         · cases h
       · cases h
     · rename_i n e hu
       split at h
       · rename_i b hb
         simp only [aggO] at h
         split at h
         · rename_i l hl
           simp only [Option.some.injEq] at h; subst h
           exact (buildA_sound hz hu hb hps.1 hps.2 hl).exec hex
         · cases h
       · cases h
     · cases h
   · cases h
 | makeInterface t x =>
   rw [hop] at h hk'
   have h1 := hF x (hk' x (by simp [Op.operands]))
   simp only [pureB, pureIface] at h
   split at h
   · cases h
   · rename_i d hu hd
     simp only [Option.some.injEq] at h; subst h
     refine ⟨_, .iface _ _ _ h1, fun w => ?_⟩
     have : (Instr.makeInterface t (a.eval x)).run P w = .ok (.iface t (a.eval x)) w := by
       simp only [Instr.makeInterface, Sem.run_bind, run_underlying hd, Result.andThen_ok]
       cases d <;> first | rfl | exact (hu _ rfl).elim
     simp [execOp, hop, this]
   · cases h
 | makeFunc fn x y =>
   rw [hop] at h hk'
   have h1 := hF.list (l := x.toList) (List.all_eq_true.2 fun z hz => hk' z (by simp [Op.operands]; left; simpa using hz))
   have h2 := hF.list (l := y.toList) (List.all_eq_true.2 fun z hz => hk' z (by simp [Op.operands]; right; simpa using hz))
   simp only [pureB, Option.some.injEq] at h; subst h
   refine ⟨.func fn (x.map a.eval) (y.map a.eval), ?_, fun w => by simp [execOp, hop, Instr.makeFunc]⟩
   refine .func _ _ _ _ _ (by simpa using h1.1) (by simpa using h2.1) (fun i u z hu hz => h1.2 i u z (by simpa using hu) (by simpa using hz)) (fun i u z hu hz => h2.2 i u z (by simpa using hu) (by simpa using hz))
 | call c =>
   rw [hop] at h hk'
   simp only [pureB, pureCall] at h
   split at h
   · -- cap
     rename_i hc
     split at h
     · rename_i t x ht hx
       have h1 := hF x (hk' x (by simp [Op.operands, Call.operands]; right; rw [← Array.mem_toList_iff, hx]; simp))
       have hty : c.argTypes = #[t] := by rw [← Array.toList_inj]; simpa using ht
       simp only [pureCap] at h
       split at h
       · rename_i e hu
         obtain ⟨n, rfl, hcap⟩ := capV_sound (P := P) h1 h hu o.type
         refine ⟨_, .int _ _, fun w => ?_⟩
         simp only [execOp, hop]
         obtain ⟨k, hk⟩ := resolve_builtin (P := P) (ρ := a.eval) hc o.type w
         rw [hk, args_map hx, hty]
         simp [builtin, hcap]
       · cases h
     · cases h
   · -- unsafe.SliceData
     rename_i hc
     split at h
     · rename_i x hx
       have h1 := hF x (hk' x (by simp [Op.operands, Call.operands]; right; rw [← Array.mem_toList_iff, hx]; simp))
       obtain ⟨v', k1, k2⟩ := dataV_sound (P := P) h1 h c.argTypes o.type
       refine ⟨v', k1, fun w => ?_⟩
       simp only [execOp, hop]
       obtain ⟨k, hk⟩ := resolve_builtin (P := P) (ρ := a.eval) hc o.type w
       rw [hk, args_map hx]
       simp [builtin, k2]
     · cases h
   · rename_i hc
     split at h
     · rename_i t x ht hx
       have h1 := hF x (hk' x (by simp [Op.operands, Call.operands]; right; rw [← Array.mem_toList_iff, hx]; simp))
       have hty : c.argTypes = #[t] := by rw [← Array.toList_inj]; simpa using ht
       have hlen : ∀ (n : Nat) (x' : Value), a.eval x = x' → (∀ w, (Builtin.len_ #[t] o.type #[x']).run P w = .ok (.int .i64 (Int.ofNat n)) w) → ∀ w, (execOp a.eval o).run P w = .ok (.value (.int .i64 (Int.ofNat n))) w := by
         intro n x' hax hl w
         simp only [execOp, hop]
         obtain ⟨k, hk⟩ := resolve_builtin (P := P) (ρ := a.eval) hc o.type w
         rw [hk, args_map hx, hty]
         simp [builtin, hax, hl]
       simp only [pureLen] at h
       split at h
       · rename_i hu
         simp only [lenStr] at h
         split at h
         · rename_i s hs
           rw [hs] at h1
           simp only [Option.some.injEq] at h; subst h
           exact ⟨_, .int _ _, hlen s.size _ h1.string_inv fun w => by simp [Builtin.len_, run_underlying hu, goInt]⟩
         · cases h
       · rename_i e hu
         simp only [lenSl] at h
         split at h
         · rename_i b n cc hs
           rw [hs] at h1
           simp only [Option.some.injEq] at h; subst h
           generalize hax : a.eval x = ax at h1
           refine ⟨_, .int _ _, hlen n _ hax fun w => ?_⟩
           cases h1 <;> simp [Builtin.len_, run_underlying hu, goInt]
         · cases h
       · rename_i n e hu
         simp only [Option.some.injEq] at h; subst h
         refine ⟨_, .int _ _, hlen n _ rfl fun w => ?_⟩
         simp [Builtin.len_, run_underlying hu, goInt]
       · cases h
     · cases h
   · rename_i hc
     have h1 := hF.list (l := c.args.toList) (List.all_eq_true.2 fun z hz => hk' z (by simp [Op.operands, Call.operands, hc]; simpa using hz))
     refine ⟨v, (foldMM_sound (P := P) h1 h c.argTypes o.type default).1, fun w => ?_⟩
     have := (foldMM_sound (P := P) h1 h c.argTypes o.type w).2
     simp only [execOp, hop]
     obtain ⟨k, hk⟩ := resolve_builtin (P := P) (ρ := a.eval) hc o.type w
     rw [hk]
     simp only [Bool.false_eq_true, if_false] at this
     rw [← args_map (ρ := a.eval) (rfl : c.args.toList = c.args.toList)] at this
     simp [builtin, this]
   · rename_i hc
     have h1 := hF.list (l := c.args.toList) (List.all_eq_true.2 fun z hz => hk' z (by simp [Op.operands, Call.operands, hc]; simpa using hz))
     refine ⟨v, (foldMM_sound (P := P) h1 h c.argTypes o.type default).1, fun w => ?_⟩
     have := (foldMM_sound (P := P) h1 h c.argTypes o.type w).2
     simp only [execOp, hop]
     obtain ⟨k, hk⟩ := resolve_builtin (P := P) (ρ := a.eval) hc o.type w
     rw [hk]
     simp only [if_true] at this
     rw [← args_map (ρ := a.eval) (rfl : c.args.toList = c.args.toList)] at this
     simp [builtin, this]
   · cases h
 | _ => rw [hop] at h; cases h
end Go.Ev
