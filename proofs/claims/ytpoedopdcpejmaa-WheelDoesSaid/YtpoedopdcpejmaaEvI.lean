import Derived.Test.YtpoedopdcpejmaaEvH
import Derived.Laws.NewBlocks
namespace Go.Ev
open Go.RowKit
set_option linter.unusedSimpArgs false
set_option linter.unusedVariables false
variable {P : Program} {σ : Sg}

theorem mapOf_some {h : H} {m m' : Value} {es : List MapEntry} {w : World} (r : RelR σ h w) (hm : VR σ m m') (hes : mapOf h m = some es) :
    ∃ es', EsR σ es es' ∧ ((m' = .map none ∧ es' = []) ∨ ∃ b clock, m' = .map (some b) ∧ w.heap[b]? = some (.map es'.toArray clock)) := by
  unfold mapOf at hes
  split at hes
  · simp only [Option.some.injEq] at hes; subst hes
    cases hm
    exact ⟨[], ⟨rfl, fun i x y hx => by simp at hx⟩, .inl ⟨rfl, rfl⟩⟩
  · rename_i rr
    split at hes
    · rename_i es0 k hobj
      simp only [Option.some.injEq] at hes; subst hes
      cases hm with
      | map B c hc h0 =>
        obtain ⟨_, es', he, hr⟩ := r _ _ _ hobj hc
        exact ⟨es'.toList, hr, .inr ⟨_, k, rfl, by simpa using he⟩⟩
    · cases hes
  · cases hes

theorem run_getObj_map {w : World} {b : Nat} {es : Array MapEntry} {k : Nat} (h : w.heap[b]? = some (.map es k)) : (getObj b).run P w = .ok (.map es k) w := by
  simp [getObj, Sem.run, h]

theorem zeroV_some {t : TypeId} {z : Value} (h : zeroV? P t = some z) : VR σ z z ∧ ∀ w, (zeroValue t).run P w = .ok z w := by
  unfold zeroV? at h
  split at h
  · rename_i i hi
    split at h
    · rename_i zv hz
      split at h
      · rename_i hall
        simp only [Option.some.injEq] at h; subst h
        exact ⟨cstOk_vr hall, fun w => by simp [zeroValue, typeInfo, hi, hz]⟩
      · cases h
    · cases h
  · cases h

theorem lookV_sound {t kt et : TypeId} {z : Value} {ok : Bool} {h : H} {m m' k k' v : Value} {w : World} (r : RelR σ h w) (hu : P.underlying t = some (.map kt et)) (hz : zeroV? P et = some z)
    (hm : VR σ m m') (hk : VR σ k k') (hl : lookV P kt z ok h m k = some v) : ∃ v', VR σ v v' ∧ (Instr.lookup t m' k' ok).run P w = .ok v' w := by
  unfold lookV at hl
  split at hl
  · rename_i es hes
    obtain ⟨es', he, hcase⟩ := mapOf_some r hm hes
    obtain ⟨hzv, hzr⟩ := zeroV_some (P := P) (σ := σ) hz
    unfold found at hl
    have fin : ∀ (r' : Option (Nat × Value)) (v' : Value), (∀ (e : Bool) w, (Instr.checkKey e 10000 kt k').run P w = .ok () w) → (∀ w, (Instr.findKey kt k' es').run P w = .ok r' w) →
        (match r' with | some (_, x) => (if ok then Value.tuple #[x, .bool true] else x) | none => (if ok then Value.tuple #[z, .bool false] else z)) = v' → (Instr.lookup t m' k' ok).run P w = .ok v' w := by
      intro r' v' h1 h2 h3
      unfold Instr.lookup
      rcases hcase with ⟨rfl, rfl⟩ | ⟨b, clock, rfl, hb⟩
      · simp only [Sem.run_bind, run_underlying hu, Result.andThen_ok, Sem.run_pure, h1]
        have h2' := h2 w
        (try simp only [Array.toList_empty])
        rw [h2']
        cases r' with
        | none => simp only [Result.andThen_ok, Sem.run_bind, hzr, Sem.run_pure, ← h3]
        | some q => simp only [Result.andThen_ok, Sem.run_bind, Sem.run_pure, ← h3]
      · simp only [Sem.run_bind, run_underlying hu, Result.andThen_ok, run_getObj_map hb, Sem.run_pure, h1]
        have h2' := h2 w
        rw [h2']
        cases r' with
        | none => simp only [Result.andThen_ok, Sem.run_bind, hzr, Sem.run_pure, ← h3]
        | some q => simp only [Result.andThen_ok, Sem.run_bind, Sem.run_pure, ← h3]
    split at hl
    · rename_i j e hf
      obtain ⟨h1, r', h2, h3⟩ := findK_sound (P := P) hf hk he
      simp only [Option.some.injEq] at hl; subst hl
      cases r' with
      | none => exact h3.elim
      | some q =>
        obtain ⟨j', x⟩ := q
        obtain ⟨_, _, e', _, hee, rfl⟩ := h3
        refine ⟨_, ?_, fin _ _ h1 h2 rfl⟩
        cases ok with
        | true => exact VR.tuple_of (LR.cons hee.val (LR.cons (.bool _) (LR.nil _)))
        | false => exact hee.val
    · rename_i hf
      obtain ⟨h1, r', h2, h3⟩ := findK_sound (P := P) hf hk he
      simp only [Option.some.injEq] at hl; subst hl
      cases r' with
      | some q => exact h3.elim
      | none =>
        refine ⟨_, ?_, fin _ _ h1 h2 rfl⟩
        cases ok with
        | true => exact VR.tuple_of (LR.cons hzv (LR.cons (.bool _) (LR.nil _)))
        | false => exact hzv
    · cases hl
  · cases hl

theorem beqN (a b : Nat) : (a == b) = Nat.beq a b := by rw [Bool.eq_iff_iff]; simp [Nat.beq_eq]

theorem find_rel {stamp : Nat} : ∀ {l l' : List MapEntry}, EsR σ l l' → ∀ {e : MapEntry}, l.find? (fun e => Nat.beq e.born stamp) = some e → ∃ e', l'.find? (fun e => e.born == stamp) = some e' ∧ ER σ e e'
  | [], l', h, e, hf => by cases hf
  | x :: l, l', h, e, hf => by
    obtain ⟨y, r, rfl, h1, h2⟩ := h.uncons
    rw [List.find?_cons] at hf
    split at hf
    · rename_i hb
      simp only [Option.some.injEq] at hf; subst hf
      exact ⟨y, by rw [List.find?_cons, show (y.born == stamp) = true by rw [← h1.born, beqN]; exact hb], h1⟩
    · rename_i hb
      obtain ⟨e', k1, k2⟩ := find_rel h2 hf
      refine ⟨e', ?_, k2⟩
      rw [List.find?_cons, show (y.born == stamp) = false by rw [← h1.born, beqN]; exact hb]
      exact k1

theorem entryV_sound {h : H} {it it' v : Value} {w : World} (r : RelR σ h w) (hx : VR σ it it') (hl : entryV h it = some v) : ∃ v', VR σ v v' ∧ (Instr.entry it').run P w = .ok v' w := by
  unfold entryV at hl
  split at hl
  · rename_i rr
    split at hl
    · rename_i m since seen stepped hobj
      split at hl
      · rename_i stamp hst
        split at hl
        · rename_i es clock hm
          split at hl
          · rename_i hclk
            split at hl
            · rename_i e hf
              simp only [Option.some.injEq] at hl; subst hl
              cases hx with
              | ptr B i c hc =>
                obtain ⟨h0, cm, h1, h2, h3⟩ := r _ _ _ hobj hc
                obtain ⟨_, es', he, hr⟩ := r _ _ _ hm h1
                obtain ⟨e', g1, g2⟩ := find_rel hr hf
                refine ⟨.tuple #[e'.key, e'.val], VR.tuple_of (LR.cons g2.key (LR.cons g2.val (LR.nil _))), ?_⟩
                have hoff : c.off + 0 = 0 := by omega
                have hb : seen.toArray.back? = some stamp := by simpa using hst
                have hg : (getObj c.blk).run P w = .ok (.mapIter (some cm.blk) since seen.toArray stepped) w := by simp [getObj, Sem.run, h3]
                have hfind : es'.find? (fun e => e.born == stamp) = some e' := by rw [← Array.find?_toList]; exact g1
                have hck : clock = stepped := Nat.eq_of_beq_eq_true hclk
                simp [Instr.entry, hoff, hg, hb, run_getObj_map he, hck, hfind]
            · cases hl
          · cases hl
        · cases hl
      · cases hl
    · cases hl
  · cases hl

theorem read_sound {sc : Sc} {kn : Operand → Bool} {env : List Value} {tm : T Value} {a : Act} {o : Oper} {v : Value} {h : H} {w : World} (hF : FR σ sc kn env tm a) (hk : o.op.operands.toList.all (kn) = true) (r : RelR σ h w)
    (hv : (readB P sc o.op).f env tm h = some v) : ∃ v', VR σ v v' ∧ (execOp a.eval o).run P w = .ok (.value v') w := by
  have hk' : ∀ x, x ∈ o.op.operands.toList → kn x = true := fun x hx => List.all_eq_true.1 hk x hx
  cases hop : o.op with
  | entry it =>
    rw [hop] at hv hk'
    have h1 := hF it (hk' it (by simp [Op.operands]))
    simp only [readB] at hv
    obtain ⟨v', k1, k2⟩ := entryV_sound (P := P) r h1 hv
    exact ⟨v', k1, by simp [execOp, hop, k2]⟩
  | load t x =>
    rw [hop] at hv hk'
    have h1 := hF x (hk' x (by simp [Op.operands]))
    simp only [readB] at hv
    obtain ⟨v', k1, B, i, k2, k3⟩ := loadV_sound r h1 hv
    refine ⟨v', k1, ?_⟩
    simp [execOp, hop, k2, Instr.loadAt, Instr.sureAddr, k3]
  | convert s d x =>
    rw [hop] at hv hk'
    have h1 := hF x (hk' x (by simp [Op.operands]))
    simp only [readB, readConv] at hv
    split at hv
    · rename_i e hs hd
      split at hv
      · rename_i he
        obtain ⟨k1, k2, ad, n, c, k3⟩ := bytesStr_sound (P := P) r h1 hv
        refine ⟨v, k1, ?_⟩
        have : (convert s d (a.eval x)).run P w = .ok v w := by
          rw [k3] at k2 ⊢
          rw [run_convert_bytes_string w s d e ad n c hs he hd]
          exact k2
        simp [execOp, hop, this]
      · cases hv
    · cases hv
  | lookup t m k ok =>
    rw [hop] at hv hk'
    have h1 := hF m (hk' m (by simp [Op.operands]))
    have h2 := hF k (hk' k (by simp [Op.operands]))
    simp only [readB, readLook] at hv
    split at hv
    · rename_i kt et hu
      split at hv
      · rename_i z hz
        obtain ⟨v', k1, k2⟩ := lookV_sound r hu hz h1 h2 hv
        exact ⟨v', k1, by simp [execOp, hop, k2]⟩
      · cases hv
    · cases hv
  | call c =>
    rw [hop] at hv hk'
    simp only [readB, readCall] at hv
    split at hv
    · rename_i hc
      split at hv
      · rename_i t x ht hx
        have h1 := hF x (hk' x (by simp [Op.operands, Call.operands]; right; rw [← Array.mem_toList_iff, hx]; simp))
        have hty : c.argTypes = #[t] := by rw [← Array.toList_inj]; simpa using ht
        split at hv
        · rename_i kt et hu
          simp only [lenMap] at hv
          split at hv
          · rename_i es hes
            simp only [Option.some.injEq] at hv; subst hv
            obtain ⟨es', he, hcase⟩ := mapOf_some r h1 hes
            refine ⟨_, .int _ _, ?_⟩
            simp only [execOp, hop]
            obtain ⟨k, hk⟩ := resolve_builtin (P := P) (ρ := a.eval) hc o.type w
            rw [hk, args_map hx, hty]
            have hl : es.length = es'.length := he.1
            rcases hcase with ⟨e1, e2⟩ | ⟨b, clock, e1, hb⟩
            · subst e2
              simp [builtin, e1, Builtin.len_, run_underlying hu, goInt, hl]
            · simp [builtin, e1, Builtin.len_, run_underlying hu, goInt, run_getObj_map hb, hl]
          · cases hv
        · cases hv
      · cases hv
    · cases hv
  | _ => rw [hop] at hv; cases hv

end Go.Ev
