import Derived.Test.YtilpiiafjehbnaaGreatDoorEvJ
import Derived.Deep.Upon
namespace Go.Ev
open Go.RowKit
set_option linter.unusedSimpArgs false
set_option linter.unusedVariables false
variable {P : Program} {σ : Sg}
def Does (P : Program) (σ : Sg) (h : H) (w : World) (o : Oper) (a : Act) (v : Value) (h' : H) : Prop :=
 ∃ σ' w' v', ((execOp a.eval o).run P w = .ok (.value v') w' ∨ ((execOp a.eval o).run P w = .ok .skip w' ∧ v' = undef)) ∧ VR σ' v v' ∧ Rel σ' h' w' ∧ Ext σ h w σ' h' w'
theorem setCells_heap (b : Nat) : ∀ (vs : List Value) (o : Nat) (w : World) (k : Nat), k ≠ b → (w.setCells b o vs).heap[k]? = w.heap[k]?
 | [], _, _, _, _ => rfl
 | v :: r, o, w, k, h => by rw [World.setCells, setCells_heap b r (o + 1) _ k h]; exact Below.heap_setCell w _ v k h
theorem setCells_same (b : Nat) : ∀ (vs : List Value) (o : Nat) (w : World), (w.setCells b o vs).heap.size = w.heap.size ∧ (w.setCells b o vs).os = w.os ∧ (w.setCells b o vs).tape = w.tape ∧ (w.setCells b o vs).output = w.output
 | [], _, _ => ⟨rfl, rfl, rfl, rfl⟩
 | v :: r, o, w => by
   obtain ⟨h1, h2, h3, h4⟩ := setCells_same b r (o + 1) (w.setCell ⟨b, o, none⟩ v)
   rw [World.setCells]
   exact ⟨by rw [h1]; simp, h2, h3, h4⟩
theorem there_sub {w : World} {b o n i m : Nat} (h : w.there b o n) (hi : i + m ≤ n) : w.there b (o + i) m := fun j hj => by
 have := h (i + j) (by omega)
 rwa [← Nat.add_assoc] at this
theorem There.sub {w : World} {b o n i m : Nat} (h : There w b o n) (hi : i + m ≤ n) : There w b (o + i) m := ⟨there_sub h.1 hi, h.2⟩
theorem There.set {w : World} {b o n b' o' : Nat} {vs : List Value} (h : There w b o n) : There (w.setCells b' o' vs) b o n := by
 refine ⟨World.there_setCells h.1 _ _ _, fun cs t lo hi hh => ?_⟩
 have hlt : b < w.heap.size := by
   have := (setCells_same b' vs o' w).1
   rw [← this]; exact (Array.getElem?_eq_some_iff.1 hh).1
 have hk := (World.keptBut_setCells b' (may := fun _ => True) vs o' w (fun _ _ => trivial)).2.2 b hlt
 rw [hh] at hk
 split at hk
 · rename_i c t1 fr c' t1' fr' e1 e2
   simp only [Option.some.injEq, Obj.cells.injEq] at e2
   obtain ⟨rfl, rfl, rfl⟩ := e2
   obtain ⟨_, hf, hsz, _⟩ := hk
   rw [hsz]
   subst hf
   exact h.2 c t1 lo hi e1
 · rename_i e2; cases e2
 · rename_i h1 h2
   exact h.2 cs t lo hi hk.symm
theorem setCell_cells {w : World} {b : Nat} {C : Array Value} {t : TypeId} {fr : Nat × Nat} (h : w.heap[b]? = some (.cells C t fr)) (x : Addr) (v : Value) : ∃ C', (w.setCell x v).heap[b]? = some (.cells C' t fr) := by
 simp only [World.setCell, Array.getElem?_modify]
 split
 · rw [h]; exact ⟨_, rfl⟩
 · exact ⟨C, h⟩
theorem setCells_cells {b b' : Nat} {t : TypeId} {fr : Nat × Nat} : ∀ (vs : List Value) (o : Nat) (w : World) (C : Array Value), w.heap[b]? = some (.cells C t fr) → ∃ C', (w.setCells b' o vs).heap[b]? = some (.cells C' t fr)
 | [], _, _, C, h => ⟨C, h⟩
 | v :: r, o, w, C, h => by
   obtain ⟨C', h'⟩ := setCell_cells h ⟨b', o, none⟩ v
   rw [World.setCells]
   exact setCells_cells r (o + 1) _ C' h'
theorem TyR.set {w : World} {c : CB} {ty : Option TypeId} (h : TyR w c ty) {b o : Nat} {vs : List Value} : TyR (w.setCells b o vs) c ty := by
 cases ty with
 | none => trivial
 | some t =>
   obtain ⟨h0, C, fr, h1⟩ := h
   obtain ⟨C', h2⟩ := setCells_cells (b' := b) vs o w C h1
   exact ⟨h0, C', fr, h2⟩
theorem tyIf_some {e t : TypeId} {off : Nat} {ty : Option TypeId} (h : tyIf e off ty = some t) : off = 0 ∧ t = e ∧ ty = some t := by
 unfold tyIf at h
 split at h
 · split at h
   · rename_i t' b hb
     simp only [Bool.and_eq_true] at hb
     simp only [Option.some.injEq] at h; subst h
     exact ⟨Nat.eq_of_beq_eq_true hb.1, Nat.eq_of_beq_eq_true hb.2, rfl⟩
   · cases h
 · cases h
theorem tyIf_or (e : TypeId) (off : Nat) (ty : Option TypeId) : tyIf e off ty = none ∨ tyIf e off ty = some e := by
 cases h : tyIf e off ty with
 | none => exact .inl rfl
 | some t => exact .inr (by rw [(tyIf_some h).2.1])
theorem put_cells {w : World} {c : CB} {cs cs2 l l' : List Value} {o : Nat} (hc : cellsR σ w c cs) (hle : cs.length ≤ c.len) (ht : There w c.blk c.off c.len) (hp : putAt cs o l = some cs2) (hl : LR σ l l') :
   cellsR σ (w.setCells c.blk (c.off + o) l') c cs2 ∧ cs2.length ≤ c.len ∧ There (w.setCells c.blk (c.off + o) l') c.blk c.off c.len ∧ w.there c.blk (c.off + o) l'.length ∧ o + l.length ≤ cs.length := by
 obtain ⟨h1, h2, h3⟩ := putAt_some hp
 have hlen := hl.1
 have hth : w.there c.blk (c.off + o) l'.length := there_sub ht.1 (by omega)
 refine ⟨fun j v hv => ?_, by omega, ht.set, hth, h1⟩
 rw [h3] at hv
 split at hv
 · rename_i hj
   obtain ⟨y, k1, k2⟩ := hl.get hv
   have hjl : j - o < l'.length := (List.getElem?_eq_some_iff.1 k1).1
   have := World.cell?_setCells_in c.blk l' (c.off + o) w (fun j hj => (hth j hj).1) (j - o) hjl
   refine ⟨y, ?_, k2⟩
   rw [show c.off + j = c.off + o + (j - o) by omega, this]
   rw [List.getElem?_eq_getElem hjl] at k1
   exact k1
 · rename_i hj
   obtain ⟨y, k1, k2⟩ := hc j v hv
   refine ⟨y, ?_, k2⟩
   rw [World.cell?_setCells_out _ _ _ _ _ (fun _ _ => by simp only; omega)]
   exact k1
theorem write_sound {h h' : H} {w : World} (r : Rel σ h w) {B o : Nat} {l l' : List Value} (hw : h.write B o l = some h') (hl : LR σ l l') :
   ∃ c, σ B = some c ∧ w.there c.blk (c.off + o) l'.length ∧ (∀ v ∈ l', v.oneCell' = true) ∧ o + l.length ≤ c.len ∧
     Rel σ h' (w.setCells c.blk (c.off + o) l') ∧ Ext σ h w σ h' (w.setCells c.blk (c.off + o) l') := by
 unfold H.write at hw
 split at hw
 · cases hw
 · rename_i hone
   have h1 := LR.ones hl hone
   split at hw
   · rename_i cs ty hx
     split at hw
     · rename_i l2 hp
       simp only [Option.some.injEq] at hw; subst hw
       obtain ⟨c, hc, hcs, hle, hth, hty⟩ := r.obj _ _ hx
       obtain ⟨k1, k2, k3, k4, k5⟩ := put_cells hcs hle hth hp hl
       obtain ⟨q1, q2, q3, q4⟩ := setCells_same c.blk l' (c.off + o) w
       obtain ⟨r1, r2⟩ := r.write hx rfl (y := .rw l2 ty) rfl hc (w' := w.setCells c.blk (c.off + o) l') ⟨k1, k2, k3, hty.set⟩ (fun k hk => setCells_heap _ _ _ _ _ hk) q1 q2 q3 q4
       exact ⟨c, hc, k4, h1, by omega, r1, r2⟩
     · cases hw
   · rename_i cs e ty hx
     split at hw
     · rename_i l2 hp
       simp only [Option.some.injEq] at hw; subst hw
       obtain ⟨c, hc, hcs, hle, hth, he, hty⟩ := r.obj _ _ hx
       obtain ⟨k1, k2, k3, k4, k5⟩ := put_cells hcs hle hth hp hl
       obtain ⟨q1, q2, q3, q4⟩ := setCells_same c.blk l' (c.off + o) w
       obtain ⟨r1, r2⟩ := r.write hx rfl (y := .op l2 e ty) rfl hc (w' := w.setCells c.blk (c.off + o) l') ⟨k1, k2, k3, he, hty.set⟩ (fun k hk => setCells_heap _ _ _ _ _ hk) q1 q2 q3 q4
       exact ⟨c, hc, k4, h1, by omega, r1, r2⟩
     · cases hw
   · cases hw
theorem run_storeCells_mid (w : World) (b o : Nat) (vs : List Value) (ht : w.there b o vs.length) (h1 : ∀ v ∈ vs, v.oneCell' = true) :
   (storeCells ⟨b, o, none⟩ vs).run P w = .ok () (w.setCells b o vs) := by
 have := run_storeCells_cells (P := P) b o vs 0 w (fun j hj => (ht j hj).1) (fun j hj => (ht j hj).2) h1
 simpa using this
theorem store_sound {t : TypeId} {h h' : H} {x x' y y' : Value} {w : World} (r : Rel σ h w) (hx : VR σ x x') (hy : VR σ y y') (he : ∃ b, isAgg? P t = some b) (hs : storeV (P.cellsOf t) h x y = some h') :
   ∃ w', (Instr.storeAt t x' y').run P w = .ok () w' ∧ Rel σ h' w' ∧ Ext σ h w σ h' w' := by
 unfold storeV at hs
 split at hs
 · split at hs
   · rename_i hsz
     have hsz := Nat.eq_of_beq_eq_true hsz
     cases hx with
     | ptr _ i c hc =>
       have hcl := hy.cells
       obtain ⟨c', k1, k2, k3, k4, k5, k6⟩ := write_sound r hs hcl
       rw [hc] at k1; cases k1
       refine ⟨_, ?_, k5, k6⟩
       have hti : (P.info? t).map (·.size) = some y'.cells.size := by
         obtain ⟨b, hb⟩ := he
         unfold isAgg? at hb
         have : ∃ d, P.underlying t = some d := by
           cases hu : P.underlying t with
           | none => rw [hu] at hb; simp at hb
           | some d => exact ⟨d, rfl⟩
         obtain ⟨d, hd⟩ := this
         obtain ⟨ti, hti⟩ := info_of_underlying hd
         have hl := hcl.1
         simp only [Array.length_toList] at hl
         rw [← hl, hsz, Program.cellsOf, hti]; rfl
       have hty : ∃ ti, P.info? t = some ti ∧ ti.size = y'.cells.size := by
         cases hq : P.info? t with
         | none => simp [hq] at hti
         | some ti => exact ⟨ti, rfl, by simpa [hq] using hti⟩
       obtain ⟨ti, hti1, hti2⟩ := hty
       have hst := run_storeCells_mid (P := P) w c.blk _ y'.cells.toList k2 k3
       have hsz' : y'.cells.size = P.cellsOf t := by simp [Program.cellsOf, hti1, hti2]
       simp [Instr.storeAt, Instr.sureAddr, storeVar, run_sizeOf w hti1, hti2, hst, hsz']
   · cases hs
 · cases hs
theorem zeroCells_size (z : Array Value) (n : Nat) : (Builtin.zeroCells z n).size = n * z.size := by simp [Builtin.zeroCells]
theorem Rel.rename {h : H} {w w' : World} (r : Rel σ h w) {B : Nat} {x y : AObj} {c c' : CB} (hx : h.objs.get B = some x) (hm : x.mut = true) (hc : σ B = some c) (hb : c'.blk = c.blk)
   (hy : ObjR (σ.upd h.next c') w' c' y) (hk : ∀ k, k ≠ c.blk → w'.heap[k]? = w.heap[k]?) (hs : w'.heap.size = w.heap.size) (hos : w'.os = w.os) (ht : w'.tape = w.tape) (ho : w'.output = w.output) :
   Rel (σ.upd h.next c') ((h.del B).new y) w' ∧ Ext σ h w (σ.upd h.next c') ((h.del B).new y) w' := by
 have hn : σ h.next = none := r.fresh _ (Nat.le_refl _)
 have hle := Sg.le_upd c' hn
 have hBn : B ≠ h.next := fun e => by rw [e, hn] at hc; cases hc
 have hget : ∀ b, ((h.del B).new y).objs.get b = if h.next = b then some y else if B = b then none else h.objs.get b := fun b => by
   show ((h.objs.del B).set h.next y).get b = _
   rw [T.get_set, T.get_del]
 have hold : ∀ b z, h.next ≠ b → ((h.del B).new y).objs.get b = some z → B ≠ b ∧ h.objs.get b = some z := fun b z hb hz => by
   rw [hget, if_neg hb] at hz
   split at hz
   · cases hz
   · rename_i e; exact ⟨e, hz⟩
 refine ⟨⟨fun b hb' => ?_, fun b c2 h' => ?_, fun b z hz => ?_, fun b z b' z' c1 c2 hz hmz hz' hne h1 h2 => ?_⟩, ⟨hle, ⟨hos, ht, ho, by omega, fun k _ hno => hk k (fun e => hno ⟨B, x, c, hx, hm, hc, e.symm⟩)⟩, fun k _ hown => ?_, by simp [H.new, H.del], fun k _ huse => ?_, fun b hb' => Sg.upd_other σ c' (by omega), fun b hb' hn' => by rw [hget, if_neg (by omega)]; split <;> first | rfl | exact hn'⟩⟩
 · have : b ≠ h.next := by simp [H.new, H.del] at hb'; omega
   rw [Sg.upd_other σ c' this]; exact r.fresh b (by simp [H.new, H.del] at hb'; omega)
 · rw [hs]
   by_cases e : b = h.next
   · subst e; rw [Sg.upd_same] at h'; cases h'; rw [hb]; exact r.inb _ _ hc
   · rw [Sg.upd_other σ c' e] at h'; exact r.inb b c2 h'
 · by_cases e : h.next = b
   · rw [hget, if_pos e] at hz; subst e; cases hz; exact ⟨c', Sg.upd_same _ _ _, hy⟩
   · obtain ⟨h1, h2⟩ := hold b z e hz
     obtain ⟨c2, k1, k2⟩ := r.obj b z h2
     refine ⟨c2, hle _ _ k1, (k2.mono hle).same (hk _ (fun e2 => r.excl B x b z c c2 hx hm h2 h1 hc k1 e2.symm))⟩
 · by_cases e1 : h.next = b
   · subst e1
     rw [Sg.upd_same] at h1; cases h1
     obtain ⟨q1, q2⟩ := hold b' z' hne hz'
     rw [Sg.upd_other σ c' (fun e => hne e.symm)] at h2
     rw [hb]; exact r.excl B x b' z' c c2 hx hm q2 q1 hc h2
   · obtain ⟨q1, q2⟩ := hold b z e1 hz
     rw [Sg.upd_other σ c' (fun e => e1 e.symm)] at h1
     by_cases e2 : h.next = b'
     · subst e2
       rw [Sg.upd_same] at h2; cases h2
       rw [hb]; exact fun e => r.excl B x b z c c1 hx hm q2 q1 hc h1 e.symm
     · obtain ⟨q3, q4⟩ := hold b' z' e2 hz'
       rw [Sg.upd_other σ c' (fun e => e2 e.symm)] at h2
       exact r.excl b z b' z' c1 c2 q2 hmz q4 hne h1 h2
 · obtain ⟨b, z, c2, hz, hmz, h1, h2⟩ := hown
   by_cases e : h.next = b
   · subst e; rw [Sg.upd_same] at h1; cases h1; exact ⟨B, x, c, hx, hm, hc, by rw [← h2, hb]⟩
   · obtain ⟨_, q2⟩ := hold b z e hz
     rw [Sg.upd_other σ c' (fun e2 => e e2.symm)] at h1
     exact ⟨b, z, c2, q2, hmz, h1, h2⟩
 · obtain ⟨b, z, c2, hz, h1, h2⟩ := huse
   by_cases e : h.next = b
   · subst e; rw [Sg.upd_same] at h1; cases h1; exact ⟨B, x, c, hx, hc, by rw [← h2, hb]⟩
   · obtain ⟨_, q2⟩ := hold b z e hz
     rw [Sg.upd_other σ c' (fun e2 => e e2.symm)] at h1
     exact ⟨b, z, c2, q2, h1, h2⟩
theorem grow_sound {h h' : H} {w : World} (r : Rel σ h w) {old new old' new' : List Value} (ho : LR σ old old') (hn : LR σ new new') {size cap need : Nat} {e : TypeId} {z : Array Value} {v : Value}
   (hlen : old.length + new.length = need * size) (hz : z.size = size) (hcap : need ≤ cap) (hes : size < 18446744073709551616) {ty : Option TypeId} (hty : ty = none ∨ ty = some e) (hg : grow h old new need size ty = some (v, h')) :
   ∃ σ', VR σ' v (.slice (some ⟨w.heap.size, 0, none⟩) need cap) ∧ Rel σ' h' (w.alloc (.cells (old'.toArray ++ new'.toArray ++ Builtin.zeroCells z (cap - need)) e)) ∧
     Ext σ h w σ' h' (w.alloc (.cells (old'.toArray ++ new'.toArray ++ Builtin.zeroCells z (cap - need)) e)) := by
 simp only [grow, Option.some.injEq, Prod.mk.injEq] at hg
 obtain ⟨rfl, rfl⟩ := hg
 have hl := ho.append hn
 have hsz : (old'.toArray ++ new'.toArray ++ Builtin.zeroCells z (cap - need)).size = cap * size := by
   have h1 := ho.1
   have h2 := hn.1
   simp only [Array.size_append, List.size_toArray, zeroCells_size, hz]
   rw [← h1, ← h2, hlen, ← Nat.add_mul]
   congr 1; omega
 have hx : ∀ σ' : Sg, σ.le σ' → ObjR σ' (w.alloc (.cells (old'.toArray ++ new'.toArray ++ Builtin.zeroCells z (cap - need)) e)) ⟨w.heap.size, 0, cap * size, size⟩ (.op (old ++ new) size ty) := fun σ' hle => by
   refine ⟨new_cells w _ e (0, 0) rfl rfl (fun i x hx => ?_), ?_, ?_, rfl, ?_⟩
   · obtain ⟨y, k1, k2⟩ := (hl.mono hle).get hx
     refine ⟨y, ?_, k2⟩
     have hlt := (List.getElem?_eq_some_iff.1 k1).1
     rw [Array.getElem?_append_left (by simpa using hlt)]
     simpa using k1
   · simp only [List.length_append, hlen]; exact Nat.mul_le_mul_right _ hcap
   · exact new_there w _ e (0, 0) (.inl rfl) _ (by rw [hsz]; exact Nat.le_refl _)
   · rcases hty with rfl | rfl
     · trivial
     · exact ⟨rfl, _, _, heap_new _ _⟩
 obtain ⟨r1, r2⟩ := r.alloc _ (.op (old ++ new) size ty) ⟨w.heap.size, 0, cap * size, size⟩ rfl (hx _ (Sg.le_upd _ (r.fresh _ (Nat.le_refl _))))
 exact ⟨_, .slO h.next 0 need cap _ (Sg.upd_same _ _ _) hcap (by simp) need hcap hes, r1, r2⟩
theorem open_sound {h h' : H} {w : World} (r : Rel σ h w) {B i sl n k size es : Nat} {cs old new new' : List Value} {c : CB} {v : Value} {ty0 ty : Option TypeId} (hty : ∀ t, ty = some t → i = 0 ∧ ty0 = some t) (hx : h.objs.get B = some (.op cs es ty0)) (hc : σ B = some c)
   (hn : LR σ new new') (hone : ones new = true) (hpos : i + sl * size = cs.length) (hcut : cut cs i = some old) (hln : new.length = n * size) (hk : i + k * size = c.len) (hfit : sl + n ≤ k) (hes : size < 18446744073709551616)
   (hg : grow (h.del B) old new (sl + n) size ty = some (v, h')) :
   w.there c.blk (c.off + i + sl * size) new'.length ∧ ∃ σ', VR σ' v (.slice (some ⟨c.blk, c.off + i, none⟩) (sl + n) k) ∧ Rel σ' h' (w.setCells c.blk (c.off + i + sl * size) new') ∧
     Ext σ h w σ' h' (w.setCells c.blk (c.off + i + sl * size) new') := by
 simp only [grow, Option.some.injEq, Prod.mk.injEq] at hg
 obtain ⟨rfl, rfl⟩ := hg
 obtain ⟨c', hc', hcs, hle, hth, he, hty0⟩ := r.obj _ _ hx
 rw [hc] at hc'; cases hc'
 obtain ⟨hi, rfl⟩ := cut_some hcut
 have hmul : (sl + n) * size ≤ k * size := Nat.mul_le_mul_right _ hfit
 rw [Nat.add_mul] at hmul
 have hnl := hn.1
 have hth' : w.there c.blk (c.off + i + sl * size) new'.length := by
   have := there_sub (i := i + sl * size) (m := new'.length) hth.1 (by omega)
   rwa [← Nat.add_assoc] at this
 have hle' := Sg.le_upd (σ := σ) (B := h.next) ⟨c.blk, c.off + i, c.len - i, size⟩ (r.fresh _ (Nat.le_refl _))
 obtain ⟨q1, q2, q3, q4⟩ := setCells_same c.blk new' (c.off + i + sl * size) w
 obtain ⟨r1, r2⟩ := r.rename (w' := w.setCells c.blk (c.off + i + sl * size) new') (c' := ⟨c.blk, c.off + i, c.len - i, size⟩) hx rfl hc rfl (y := .op (cs.drop i ++ new) size ty)
   (by
     refine ⟨fun j x hj => ?_, by simp; omega, ?_, rfl, ?_⟩
     · by_cases hjo : j < (cs.drop i).length
       · rw [List.getElem?_append_left hjo, List.getElem?_drop] at hj
         obtain ⟨y, k1, k2⟩ := hcs _ x hj
         refine ⟨y, ?_, k2.mono hle'⟩
         have : j < sl * size := by simp at hjo; omega
         rw [World.cell?_setCells_out _ _ _ _ _ (fun _ _ => by simp only; omega)]
         simp only
         rw [show c.off + i + j = c.off + (i + j) by omega]; exact k1
       · have hdl : (cs.drop i).length = sl * size := by simp; omega
         rw [List.getElem?_append_right (by omega), hdl] at hj
         rw [hdl] at hjo
         obtain ⟨y, k1, k2⟩ := hn.get hj
         have hjl := (List.getElem?_eq_some_iff.1 k1).1
         have := World.cell?_setCells_in c.blk new' (c.off + i + sl * size) w (fun j hj => (hth' j hj).1) _ hjl
         refine ⟨y, ?_, k2.mono hle'⟩
         simp only
         rw [show c.off + i + j = c.off + i + sl * size + (j - sl * size) by omega, this]
         rw [List.getElem?_eq_getElem hjl] at k1
         exact k1
     · exact (hth.sub (by simp only; omega)).set
     · cases hty' : ty with
       | none => trivial
       | some t =>
         obtain ⟨hi0, ht0⟩ := hty t hty'
         rw [ht0] at hty0
         obtain ⟨k0, C, fr, k1⟩ := hty0
         obtain ⟨C', k2⟩ := setCells_cells (b' := c.blk) new' (c.off + i + sl * size) w C k1
         exact ⟨by simp only; omega, C', fr, k2⟩)
   (fun k hk => setCells_heap _ _ _ _ _ hk) q1 q2 q3 q4
 exact ⟨hth', _, .slO h.next 0 (sl + n) k _ (Sg.upd_same _ _ _) hfit (by simp only; omega) (sl + n) hfit hes, r1, r2⟩
theorem lenV_some {x x' : Value} {n : Nat} (h : lenV x = some n) (hx : VR σ x x') (w : World) : (Builtin.lenOf x').run P w = .ok n w := by
 unfold lenV at h
 split at h
 · simp only [Option.some.injEq] at h; subst h
   cases hx <;> rfl
 · simp only [Option.some.injEq] at h; subst h
   rw [hx.string_inv]; rfl
 · cases h
theorem rangeAt_nil (w : World) (b o : Nat) : w.rangeAt b o [] := fun j v hv => by simp at hv
theorem firstV_some {h : H} {w : World} (r : Rel σ h w) {size n m : Nat} {x x' : Value} {l : List Value} (hf : firstV h size n x = some l) (hx : VR σ x x') (hm : lenV x = some m) (hn : n ≤ m) :
   ∃ l', LR σ l l' ∧ (Builtin.firstCells size n x').run P w = .ok l'.toArray w ∧ (Builtin.firstCells size n x').run P w.drew = .ok l'.toArray w.drew := by
 unfold firstV at hf
 split at hf
 · rename_i a len cap
   have key : ∀ (b o cap' : Nat) (l' : List Value), w.rangeAt b o l' → l'.length = n * size →
       (Builtin.firstCells size n (.slice (some ⟨b, o, none⟩) len cap')).run P w = .ok l'.toArray w ∧ (Builtin.firstCells size n (.slice (some ⟨b, o, none⟩) len cap')).run P w.drew = .ok l'.toArray w.drew := fun b o cap' l' h1 h2 => by
     constructor
     · exact run_firstCells_some w size n _ len cap' l' h2 (fun j v hv => by rw [Addr.add_mid]; exact h1 j v hv)
     · exact run_firstCells_some w.drew size n _ len cap' l' h2 (fun j v hv => by rw [Addr.add_mid]; exact (World.rangeAt_drew w _ _ _).2 h1 j v hv)
   cases hx with
   | sl B i _ k c' hc hk =>
     obtain ⟨l', h2, h3, h4⟩ := row_some hc hf r.read
     obtain ⟨k1, k2⟩ := key _ _ cap l' h4 (by rw [← h2.1, h3])
     exact ⟨l', h2, k1, k2⟩
   | slO B i _ k c' hc hn hk =>
     obtain ⟨l', h2, h3, h4⟩ := row_some hc hf r.read
     obtain ⟨k1, k2⟩ := key _ _ k l' h4 (by rw [← h2.1, h3])
     exact ⟨l', h2, k1, k2⟩
   | slE B i o c' hc hi =>
     simp only [lenV, Option.some.injEq] at hm
     have hn0 : n = 0 := by omega
     subst hn0
     obtain ⟨l', h2, h3, h4⟩ := row_some hc hf r.read
     have hl0 : l = [] := by simpa using h3
     subst hl0
     have e := h2.nil_left; subst e
     obtain ⟨k1, k2⟩ := key c'.blk o 0 [] (rangeAt_nil _ _ _) (by simp)
     exact ⟨[], LR.nil _, k1, k2⟩
 · simp only [Option.some.injEq] at hf; subst hf
   cases hx with
   | slNil a b => exact ⟨[], LR.nil _, rfl, rfl⟩
 · rename_i s
   simp only [Option.some.injEq] at hf; subst hf
   rw [hx.string_inv]
   simp only [lenV, Option.some.injEq] at hm
   refine ⟨(s.data.toList.take n).map fun b => .int .u8 (Int.ofNat b.toNat), ⟨rfl, fun i x y h1 h2 => ?_⟩, ?_, ?_⟩
   · rw [h1] at h2; simp only [Option.some.injEq] at h2; subst h2
     simp only [List.getElem?_map, Option.map_eq_some_iff] at h1
     obtain ⟨b, _, rfl⟩ := h1
     exact .int _ _
   all_goals
     simp only [Builtin.firstCells, Sem.run_pure]
     congr 1
     apply Array.ext'
     simp [List.map_take]
 · cases hf
theorem not_int {d : TypeDesc} (hd : ∀ k, d ≠ .int k) : Builtin.append_.match_1 (fun _ => Bool) d (fun _ => true) (fun _ => false) = false := by
 cases d <;> first | rfl | exact absurd rfl (hd _)
theorem run_append_in (w w' : World) {t u ty e : TypeId} {i : TypeInfo} {d : TypeDesc} (ht : P.underlying t = some (.slice e)) (hu : P.underlying u = some d) (hd : ∀ k, d ≠ .int k) (hi : P.info? e = some i)
   {base : Option Addr} {sl sc n : Nat} {x' : Value} {new' : List Value} (hlen : ∀ w, (Builtin.lenOf x').run P w = .ok n w) (hf : (Builtin.firstCells i.size n x').run P w = .ok new'.toArray w) (hfit : sl + n ≤ sc)
   (hst : (match base with | some a => storeCells (a.add (sl * i.size)) new' | none => pure ()).run P w = .ok () w') :
   (Builtin.append_ #[t, u] ty #[.slice base sl sc, x']).run P w = .ok (.slice base (sl + n) sc) w' := by
 have s1 : (sizeOf e).run P w = .ok i.size w := by simp [sizeOf, typeInfo, hi]
 cases base with
 | none =>
   simp only [Sem.run_pure, Result.ok.injEq, true_and] at hst
   subst hst
   simp [Builtin.append_, run_underlying ht, run_underlying hu, s1, not_int hd, hlen, hf, hfit]
 | some a =>
   simp only at hst
   simp [Builtin.append_, run_underlying ht, run_underlying hu, s1, not_int hd, hlen, hf, hfit, hst]
theorem run_append_out (w : World) {t u ty e : TypeId} {i : TypeInfo} {z : Value} {d : TypeDesc} (ht : P.underlying t = some (.slice e)) (hu : P.underlying u = some d) (hd : ∀ k, d ≠ .int k) (hi : P.info? e = some i) (hz : i.zero = some z)
   {base : Option Addr} {sl sc n : Nat} {x' : Value} {old' new' : List Value} (hlen : ∀ w, (Builtin.lenOf x').run P w = .ok n w) (hf : (Builtin.firstCells i.size n x').run P w.drew = .ok new'.toArray w.drew)
   (ho : (Builtin.firstCells i.size sl (.slice base sl sc)).run P w.drew = .ok old'.toArray w.drew) (hfit : sc < sl + n) (h63 : sl + n ≤ 9223372036854775807) (h48 : (sl + n) * i.bytes ≤ 140737488355328) :
   (Builtin.append_ #[t, u] ty #[.slice base sl sc, x']).run P w = .ok (.slice (some ⟨w.heap.size, 0, none⟩) (sl + n) (grownCap w (sl + n) sc e))
     (w.drew.alloc (.cells (old'.toArray ++ new'.toArray ++ Builtin.zeroCells z.cells (grownCap w (sl + n) sc e - (sl + n))) e)) := by
 have hn : ¬ (sl + n ≤ sc) := by omega
 have h63' : ¬ (9223372036854775807 < ((sl : Int) + (n : Int))) := by omega
 have h48' : ¬ (281474976710656 < Builtin.nextslicecap (sl + n) sc * i.bytes) := by have := growslice_fits hfit h48; omega
 have s1 : (sizeOf e).run P w = .ok i.size w := by simp [sizeOf, typeInfo, hi]
 simp [Builtin.append_, run_underlying ht, run_underlying hu, s1, not_int hd, typeInfo, zeroValue, hi, hz, hlen, hn, h63', h48', Question.forced, hf, ho, newRow, grownCap]
 congr 2
 apply Array.ext'
 simp [List.append_assoc]
theorem le_grownCap (w : World) (need old : Nat) (e : TypeId) : need ≤ grownCap w need old e := by simp [grownCap, Question.cut]
theorem append_sound {h h' : H} {w : World} (r : Rel σ h w) {t u ty e : TypeId} {i : TypeInfo} {z : Value} {d : TypeDesc} (ht : P.underlying t = some (.slice e)) (hu : P.underlying u = some d) (hd : ∀ k, d ≠ .int k) (hi : P.info? e = some i) (hz : i.zero = some z)
   (hzs : z.cells.size = i.size) (hpos : 1 ≤ i.size) (hes : i.size < 18446744073709551616) {s s' x x' v : Value} (hs : VR σ s s') (hx : VR σ x x') (ha : appendV e i.size i.bytes h s x = some (v, h')) :
   ∃ σ' w' v', (Builtin.append_ #[t, u] ty #[s', x']).run P w = .ok v' w' ∧ VR σ' v v' ∧ Rel σ' h' w' ∧ Ext σ h w σ' h' w' := by
 unfold appendV at ha
 split at ha
 · rename_i base sl sc
   split at ha
   · rename_i n hn
     split at ha
     · rename_i new hnew
       split at ha
       · rename_i hnl
         have hnl := Nat.eq_of_beq_eq_true hnl
         have hlen := fun w => lenV_some (P := P) hn hx w
         obtain ⟨new', hl, hf, hfd⟩ := firstV_some (P := P) r hnew hx hn (Nat.le_refl n)
         unfold appTo at ha
         split at ha
         · -- nothing comes in
           split at ha
           · rename_i hle
             have hle := Nat.le_of_ble_eq_true hle
             simp only [Option.some.injEq, Prod.mk.injEq] at ha
             obtain ⟨rfl, rfl⟩ := ha
             have hnew0 : new = [] := by simpa using hnl
             subst hnew0
             have e := hl.nil_left; subst e
             have key : ∀ base' sc', sl ≤ sc' → (Builtin.append_ #[t, u] ty #[.slice base' sl sc', x']).run P w = .ok (.slice base' sl sc') w := fun base' sc' hle' => by
               have := run_append_in (P := P) (ty := ty) w w ht hu hd hi (base := base') (sl := sl) (sc := sc') hlen hf (by omega) (by cases base' <;> rfl)
               simpa using this
             refine ⟨σ, w, s', ?_, hs, r, .refl _ _ _⟩
             cases hs with
             | slNil => exact key _ _ hle
             | sl B i n k c hc hk => exact key _ _ hle
             | slO B i n k c hc hn hk => exact key _ _ hn
             | slE B i o c hc hi => exact key _ _ (Nat.le_refl _)
           · cases ha
         · rename_i _ n _
           simp only [Nat.succ_eq_add_one] at *
           split at ha
           · cases ha
           · rename_i hb
             simp only [Bool.and_eq_true] at hb
             have h48 := Nat.le_of_ble_eq_true hb.1
             have h63 := Nat.le_of_ble_eq_true hb.2
             have grown : ∀ (base' : Option Addr) (sc' : Nat) (old old' : List Value) (h0 : H), sc' < sl + (n + 1) → LR σ old old' → old.length = sl * i.size → (Builtin.firstCells i.size sl (.slice base' sl sc')).run P w.drew = .ok old'.toArray w.drew →
                 Rel σ h0 w → Ext σ h w σ h0 w → ∀ ty0, (ty0 = none ∨ ty0 = some e) → grow h0 old new (sl + (n + 1)) i.size ty0 = some (v, h') →
                 ∃ σ' w' v', (Builtin.append_ #[t, u] ty #[.slice base' sl sc', x']).run P w = .ok v' w' ∧ VR σ' v v' ∧ Rel σ' h' w' ∧ Ext σ h w σ' h' w' := fun base' sc' old old' h0 q1 q2 q3 q4 q5 q6 ty0 q8 q7 => by
               have hrun := run_append_out (P := P) (ty := ty) w ht hu hd hi hz (base := base') (sl := sl) (sc := sc') hlen hfd q4 q1 h63 h48
               obtain ⟨σ', k1, k2, k3⟩ := grow_sound (σ := σ) (w := w.drew) (e := e) (z := z.cells) (cap := grownCap w (sl + (n + 1)) sc' e) q5.drew q2 hl (by rw [q3, hnl, ← Nat.add_mul]) hzs (le_grownCap _ _ _ _) hes q8 q7
               exact ⟨σ', _, _, hrun, k1, k2, q6.trans ((Ext.drew σ h0 w).trans k3)⟩
             split at ha
             · split at ha
               · cases hs with
                 | slNil => exact grown none 0 [] [] h (by omega) (LR.nil _) (by simp) (by simp [Builtin.firstCells]) r (.refl _ _ _) _ (.inr rfl) ha
               · cases ha
             · rename_i a
               split at ha
               · rename_i hopen
                 have hopen := Nat.le_of_ble_eq_true hopen
                 unfold appOpen at ha
                 split at ha
                 · rename_i hq
                   simp only [Bool.and_eq_true] at hq
                   have hsc := Nat.eq_of_beq_eq_true hq.1
                   split at ha
                   · rename_i cs es ty0 hobj
                     split at ha
                     · -- cells that are known
                       rename_i cs' hput
                       simp only [Option.some.injEq, Prod.mk.injEq] at ha
                       obtain ⟨rfl, rfl⟩ := ha
                       have hwr : h.write a.block (a.off + sl * i.size) new = some (h.put a.block (.op cs' es ty0)) := by
                         unfold H.write; rw [hq.2]; simp only [hobj, hput]
                       obtain ⟨c, q1, q2, q3, q4, q5, q6⟩ := write_sound r hwr hl
                       have hsl : ∀ B i' c', σ B = some c' → a = ⟨B, i', none⟩ → c' = c := fun B i' c' e1 e2 => by subst e2; rw [e1] at q1; cases q1; rfl
                       cases hs with
                       | sl B i' _ k c' hc hk => omega
                       | slO B i' _ k c' hc hn' hk lb hl' he' =>
                         have := hsl _ _ _ hc rfl; subst this
                         rw [szOf_opCap he'] at hsc
                         have he : c'.esz = i.size := hsc
                         rw [he] at hk
                         have hfit : sl + (n + 1) ≤ k := by
                           have h1 : i' + sl * i.size + (n + 1) * i.size ≤ i' + k * i.size := by rw [hk]; rw [hnl] at q4; exact q4
                           rw [Nat.add_assoc, ← Nat.add_mul] at h1
                           exact Nat.le_of_mul_le_mul_right (Nat.le_of_add_le_add_left h1) hpos
                         refine ⟨σ, _, _, run_append_in (P := P) (ty := ty) w _ ht hu hd hi hlen hf hfit ?_, ?_, q5, q6⟩
                         · simp only [Addr.add_mid]
                           rw [Nat.add_assoc]
                           exact run_storeCells_mid w _ _ new' q2 q3
                         · rw [← he] at hk ⊢
                           rw [lbOf_opCap he']
                           exact .slO B i' _ k c' hc hfit hk _ (Nat.max_le.2 ⟨hl', hfit⟩) he'
                       | slE B i' o c' hc hi' he' =>
                         have := hsl _ _ _ hc rfl; subst this
                         simp only at q4
                         have : 1 ≤ (n + 1) * i.size := Nat.mul_pos (by omega) hpos
                         omega
                     · -- at the end of what is known
                       split at ha
                       · rename_i old hend hcut
                         have hend := Nat.eq_of_beq_eq_true hend
                         have hforget := r.forget a.block
                         have hext : Ext σ h w σ (h.del a.block) w := ⟨Sg.le_refl _, .refl _ _, fun k _ ho => hforget.2.1 k ho, Nat.le_refl _, fun k _ hu => hforget.2.2 k hu, fun _ _ => rfl, fun b _ hn => by show (h.objs.del _).get b = none; rw [T.get_del]; split <;> first | rfl | exact hn⟩
                         obtain ⟨c, q1, q2, q3, q4, q5, q6⟩ := r.obj _ _ hobj
                         obtain ⟨hile, hold⟩ := cut_some hcut
                         have hol : old.length = sl * i.size := by rw [hold]; simp; omega
                         have hoR : ∃ old', LR σ old old' ∧ w.rangeAt c.blk (c.off + a.off) old' := by
                           obtain ⟨old', k1, k2⟩ := rows_of (σ := σ) old w c.blk (c.off + a.off) (fun j v hv => by
                             rw [hold, List.getElem?_drop] at hv
                             obtain ⟨v', k1, k2⟩ := q2 _ v hv
                             exact ⟨v', by rw [Nat.add_assoc]; exact k1, k2⟩)
                           exact ⟨old', k1, k2⟩
                         obtain ⟨old', ho1, ho2⟩ := hoR
                         have hsl : ∀ B i' c', σ B = some c' → a = ⟨B, i', none⟩ → c' = c := fun B i' c' e1 e2 => by subst e2; rw [e1] at q1; cases q1; rfl
                         cases hs with
                         | sl B i' _ k c' hc hk => omega
                         | slO B i' _ k c' hc hn' hk lb hl' he' =>
                           have := hsl _ _ _ hc rfl; subst this
                           rw [szOf_opCap he'] at hsc
                           have he : c'.esz = i.size := hsc
                           rw [he] at hk
                           by_cases hfit : sl + (n + 1) ≤ k
                           · obtain ⟨g1, σ', g2, g3, g4⟩ := open_sound r (fun t ht => ⟨(tyIf_some ht).1, (tyIf_some ht).2.2⟩) hobj hc hl hq.2 hend hcut hnl hk hfit hes ha
                             refine ⟨σ', _, _, run_append_in (P := P) (ty := ty) w _ ht hu hd hi hlen hf hfit ?_, g2, g3, g4⟩
                             simp only [Addr.add_mid]
                             exact run_storeCells_mid w _ _ new' g1 (LR.ones hl hq.2)
                           · refine grown _ k old old' (h.del B) (by omega) ho1 hol ?_ hforget.1 hext _ (tyIf_or _ _ _) ha
                             refine run_firstCells_some w.drew i.size sl _ sl k old' (by rw [← ho1.1, hol]) (fun j v hv => ?_)
                             rw [Addr.add_mid]; exact (World.rangeAt_drew w _ _ _).2 ho2 j v hv
                         | slE B i' o c' hc hi' =>
                           have := hsl _ _ _ hc rfl; subst this
                           have hold0 : old = [] := by simpa using hol
                           subst hold0
                           have e := ho1.nil_left; subst e
                           refine grown _ 0 [] [] (h.del B) (by omega) (LR.nil _) (by simp) ?_ hforget.1 hext _ (tyIf_or _ _ _) ha
                           exact run_firstCells_some w.drew i.size 0 _ 0 0 [] (by simp) (fun j v hv => by simp at hv)
                       · cases ha
                   · cases ha
                 · cases ha
               · rename_i hopen
                 have hopen : sc < OPEN := by
                   rcases Nat.lt_or_ge sc OPEN with h | h
                   · exact h
                   · rw [Nat.ble_eq_true_of_le h] at hopen; cases hopen
                 unfold appExact at ha
                 cases hs with
                 | slO B i' _ k c' hc hn' hk lb hl' he' => have := open_opCap lb c'.esz; omega
                 | slE B i' o c' hc hi' he' => have := open_opCap 0 c'.esz; omega
                 | sl B i' _ k c hc hk =>
                   split at ha
                   · rename_i hfit
                     have hfit := Nat.le_of_ble_eq_true hfit
                     split at ha
                     · rename_i h2 hwr
                       simp only [Option.some.injEq, Prod.mk.injEq] at ha
                       obtain ⟨rfl, rfl⟩ := ha
                       obtain ⟨c2, q1, q2, q3, q4, q5, q6⟩ := write_sound r hwr hl
                       rw [hc] at q1; cases q1
                       refine ⟨σ, _, _, run_append_in (P := P) (ty := ty) w _ ht hu hd hi hlen hf hfit ?_, .sl B i' _ sc c hc hopen, q5, q6⟩
                       simp only [Addr.add_mid]
                       rw [Nat.add_assoc]
                       exact run_storeCells_mid w _ _ new' q2 q3
                     · cases ha
                   · rename_i hfit
                     have hfit : sc < sl + (n + 1) := by
                       rcases Nat.lt_or_ge sc (sl + (n + 1)) with h | h
                       · exact h
                       · rw [Nat.ble_eq_true_of_le h] at hfit; cases hfit
                     split at ha
                     · rename_i old hrow
                       obtain ⟨old', h2, h3, h4⟩ := row_some hc hrow r.read
                       refine grown _ sc old old' h hfit h2 h3 ?_ r (.refl _ _ _) _ (.inr rfl) ha
                       refine run_firstCells_some w.drew i.size sl _ sl sc old' (by rw [← h2.1, h3]) (fun j v hv => ?_)
                       rw [Addr.add_mid]; exact (World.rangeAt_drew w _ _ _).2 h4 j v hv
                     · cases ha
       · cases ha
     · cases ha
   · cases ha
 · cases ha
end Go.Ev
