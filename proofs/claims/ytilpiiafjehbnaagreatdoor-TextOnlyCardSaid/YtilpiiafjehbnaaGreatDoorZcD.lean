import Derived.Test.YtilpiiafjehbnaaGreatDoorZcA
set_option linter.unusedSimpArgs false
set_option linter.unusedVariables false
namespace Go.Proofs.YtilpiiafjehbnaaGreatDoor
open Go.Ev
theorem Strs.tail1 {h : H} {v : Value} {p : List UInt8} {l : List (List UInt8)} (a : Strs h v (p :: l)) (h2 : l.length ≤ 1000000) :
   ∃ v', sliceSl 1 v (some (.int .i64 1)) none none = some v' ∧ Strs h v' l ∧ ∀ b, blk v' b → blk v b := by
 by_cases h1 : 0 < l.length
 · exact a.tail h1 h2
 have hl : l = [] := List.length_eq_zero_iff.1 (by omega)
 subst hl
 rcases a with ⟨_, e⟩ | ⟨b, o, c, x, cs, rfl, hb, hx, h3, h4, hc⟩
 · cases e
 · rcases hc with ⟨c1, c2⟩ | ⟨c1, c2⟩
   · have e2 : bnds (some (.int .i64 1)) none none [p].length c = some (1, [p].length, c) := by
       simp only [bnds, bnd, asNat_one]
       rw [Nat.ble_eq_true_of_le (show 1 ≤ [p].length by simp)]
     by_cases hc1 : c = 1
     · have e3 : Nat.beq c 1 = true := by rw [hc1]; rfl
       refine ⟨.slice (some ⟨b, o, none⟩) 0 0, ?_, .inr ⟨b, o, 0, x, cs, rfl, hb, hx, by simp only [List.length_cons, List.length_nil] at h3 ⊢; omega, rfl, .inl ⟨rfl, Nat.le_refl _⟩⟩, fun b' hb' => by simpa using hb'⟩
       simp only [sliceSl, c1, e2, e3]
       simp
     · have e3 : Nat.beq c 1 = false := by
         rw [Bool.eq_false_iff]; intro e; exact hc1 (Nat.eq_of_beq_eq_true e)
       have hO : Nat.ble OPEN (c - 1) = false := by
         rw [Bool.eq_false_iff]; intro e
         have := Nat.le_of_ble_eq_true e
         have : Nat.ble OPEN c = true := Nat.ble_eq_true_of_le (by omega)
         rw [c1] at this; cases this
       refine ⟨.slice (some ⟨b, o + 1, none⟩) 0 (c - 1), ?_, .inr ⟨b, o + 1, c - 1, x, cs, rfl, hb, hx, by simp only [List.length_cons, List.length_nil] at h3 ⊢; omega, rfl, .inl ⟨hO, Nat.zero_le _⟩⟩, fun b' hb' => by simpa using hb'⟩
       simp only [sliceSl, c1, e2, e3]
       simp [addOff]
   · have e2 : bnds (some (.int .i64 1)) none none [p].length (Nat.max [p].length (lbOf c)) = some (1, [p].length, Nat.max [p].length (lbOf c)) := by
       simp only [bnds, bnd, asNat_one]
       rw [Nat.ble_eq_true_of_le (show 1 ≤ [p].length by simp)]
     have hv : sliceSl 1 (.slice (some ⟨b, o, none⟩) [p].length c) (some (.int .i64 1)) none none = some (.slice (some ⟨b, o + 1, none⟩) 0 (opCap (Nat.max [p].length (lbOf c) - 1) 1)) := by
       simp only [sliceSl, c1, c2, e2]
       simp [addOff]
     have o1 := opCap_open (Nat.max [p].length (lbOf c) - 1)
     have o2 := opCap_size (Nat.max [p].length (lbOf c) - 1)
     generalize opCap (Nat.max [p].length (lbOf c) - 1) 1 = c' at hv o1 o2
     exact ⟨_, hv, .inr ⟨b, o + 1, c', x, cs, rfl, hb, hx, by simp only [List.length_cons, List.length_nil] at h3 ⊢; omega, rfl, .inr ⟨o1, o2⟩⟩, fun b' hb' => by simpa using hb'⟩
structure PS where
 ws : List (List UInt8)
 ok : Bool
 kind : Int
 ck : Int
 keys : List (List UInt8)
 flags : Int
 fo : Int
 uniq : Int
 by' : Int
 rten : Int
 sec : List UInt8
 on : Bool
 n : Int
def PS.cells (s : PS) (lv kv : Value) : List Value := [lv, .bool s.ok, .int .u8 s.kind, .int .u8 s.ck, .int .i64 0, kv, .string (strB []), .int .u32 s.flags, .int .i64 s.fo, .int .u64 s.uniq, .int .u64 s.by', .int .i64 s.rten, sv s.sec, .bool s.on, .bool false, .int .i64 s.n]
def Ch (n2 B b : Nat) : Prop := b = B ∨ n2 ≤ b
structure PM (n2 B : Nat) (s : PS) (h : H) : Prop where
 ex : ∃ lv kv, Has h B (.rw (s.cells lv kv) (some 88)) ∧ (Strs h lv s.ws ∧ ∀ b, blk lv b → b < n2 ∧ b ≠ B) ∧ StrG h kv s.keys ∧ ∀ b, blk kv b → n2 ≤ b
 lt : B < n2 ∧ n2 ≤ h.next
 few : s.keys.length + s.ws.length ≤ 1000
 wl : ∀ p ∈ s.ws, p.length < 1000
theorem StrG.keep {S : Nat → Prop} {h h' : H} {v : Value} {l : List (List UInt8)} (a : StrG h v l) (k : Keep S h h') (hn : ∀ b, blk v b → ¬ S b) : StrG h' v l := by
 rcases a with a | a
 · exact .inl a
 · exact .inr (a.keep k hn)
theorem PM.keep {n2 B : Nat} {s : PS} {h h' : H} (a : PM n2 B s h) (k : Keep nobody h h') : PM n2 B s h' := by
 obtain ⟨lv, kv, hb, ⟨hl, ll⟩, hk, lk⟩ := a.ex
 exact ⟨⟨lv, kv, hb.keep0 k, ⟨hl.keep0 k, ll⟩, hk.keep k fun _ _ => id, lk⟩, ⟨a.lt.1, Nat.le_trans a.lt.2 k.next⟩, a.few, a.wl⟩
theorem ch_put (n2 B : Nat) (h : H) (x : AObj) : Keep (Ch n2 B) h (h.put B x) := (Keep.put h B x).mono fun _ _ e => .inl e
theorem ch_then {n2 B : Nat} {h h1 h2 : H} (a : Keep (Ch n2 B) h h1) (b : Keep (Ch n2 B) h1 h2) : Keep (Ch n2 B) h h2 := a.trans b fun _ _ e => e
theorem ch_no {n2 B : Nat} {h h1 : H} (a : Keep nobody h h1) : Keep (Ch n2 B) h h1 := a.mono fun _ _ e => e.elim
theorem PM.put {n2 B : Nat} {s s' : PS} {h : H} (a : PM n2 B s h) {o : Nat} {v : Value} (hv : v.cells = #[v]) (h1 : ones [v] = true) (hp : ∀ lv kv, putAt (s.cells lv kv) o [v] = some (s'.cells lv kv)) (hw : s'.ws = s.ws) (hk : s'.keys = s.keys) :
   ∃ h', (∀ sp, storeV 1 h (.pointer (some ⟨B, o, sp⟩)) v = some h') ∧ PM n2 B s' h' ∧ Keep (Ch n2 B) h h' := by
 obtain ⟨lv, kv, hb, ⟨hl, ll⟩, hkk, lk⟩ := a.ex
 refine ⟨h.put B (.rw (s'.cells lv kv) (some 88)), fun sp => store_one hb hv h1 (hp lv kv), ⟨⟨lv, kv, Has.put hb.1, ⟨?_, ll⟩, ?_, lk⟩, ⟨a.lt.1, a.lt.2⟩, by rw [hw, hk]; exact a.few, by rw [hw]; exact a.wl⟩, ch_put _ _ _ _⟩
 · rw [hw]; exact hl.keep (Keep.put h B _) fun b hb e => (ll b hb).2 e
 · rw [hk]; exact hkk.keep (Keep.put h B _) fun b hb e => by have := lk b hb; have := a.lt.1; omega
theorem PM.load {n2 B : Nat} {s : PS} {h : H} (a : PM n2 B s h) {o : Nat} {v : Value} (hv : ∀ lv kv, (s.cells lv kv)[o]? = some v) : ∀ sp, loadOne h (.pointer (some ⟨B, o, sp⟩)) = some v := fun sp => by
 obtain ⟨lv, kv, hb, _⟩ := a.ex
 rw [loadOne_has hb rfl, hv]
def PS.word (s : PS) : List UInt8 × PS := match s.ws with
 | [] => ([], { s with ok := false })
 | p :: r => (p, { s with ws := r })
theorem word_law (L n : Nat) {n2 B : Nat} {s : PS} {h : H} (a : PM n2 B s h) : Sp (CF L (n + 1)) 50 [.pointer (some ⟨B, 0, none⟩)] h fun r h' => r = sv s.word.1 ∧ PM n2 B s.word.2 h' ∧ Keep (Ch n2 B) h h' := by
 generalize hW : s.word = W
 unfold PS.word at hW
 refine Sp.body f50 (by simp) ?_
 unfold c50
 obtain ⟨lv, kv, hb, ⟨hl, ll⟩, hkk, lk⟩ := a.ex
 have ld : ∀ sp, loadOne h (.pointer (some ⟨B, 0, sp⟩)) = some lv := fun sp => loadOne_has hb rfl
 refine C.seq fun K hK => hK .norm _ _ (C.seq (C.seq fun K hK => ?_))
 rw [box_f]
 by_cases g : (s.ws.length : Int) = 0
 · have hws : s.ws = [] := List.length_eq_zero_iff.1 (by omega)
   have hw : ([], { s with ok := false }) = W := by rw [← hW]; simp only [hws]
   subst hw
   obtain ⟨h2, st, a2, k2⟩ := a.put (s' := { s with ok := false }) (o := 1) (v := .bool false) rfl rfl (fun lv kv => rfl) rfl rfl
   simp only [seval, EV, r50_1, nilChk_ptr, ld, hl.len, dT g]
   refine hK _ _ _ (C.ct (C.seq fun K hK => ?_))
   simp only [seval, EV, r50_2, nilChk_ptr, st]
   refine hK _ _ _ (C.seq fun K hK => ?_)
   simp only [r50_3]
   exact hK _ _ _ (C.ret ⟨.inr rfl, _, rfl, by simp only [seval, EV, resOf]; rfl, a2, k2⟩)
 · obtain ⟨p, r, hws⟩ : ∃ p r, s.ws = p :: r := List.exists_cons_of_ne_nil fun e => g (by rw [e]; rfl)
   have hw : (p, { s with ws := r }) = W := by rw [← hW]; simp only [hws]
   subst hw
   have hl' := hl
   rw [hws] at hl'
   have few := a.few
   rw [hws, List.length_cons] at few
   obtain ⟨b, o, i0, l0⟩ := hl'.at (i := 0) rfl
   have i0' : indexSl 1 lv (.int .i64 0) = some (.pointer (some ⟨b, o, none⟩)) := i0
   obtain ⟨lv', e1, hl2, lb⟩ := hl'.tail1 (by omega)
   have c1 : lv'.cells = #[lv'] := by
     rcases hl2 with ⟨rfl, _⟩ | ⟨b', o', c, x, cs, rfl, _⟩ <;> rfl
   have o1 : ones [lv'] = true := by
     rcases hl2 with ⟨rfl, _⟩ | ⟨b', o', c, x, cs, rfl, _⟩ <;> rfl
   have st : ∀ sp, storeV 1 h (.pointer (some ⟨B, 0, sp⟩)) lv' = some (h.put B (.rw (PS.cells { s with ws := r } lv' kv) (some 88))) := fun sp => store_one hb c1 o1 rfl
   simp only [seval, EV, r50_1, nilChk_ptr, ld, hl.len, dF g]
   refine hK _ _ _ (C.cf <| C.skip (C.seq fun K hK => ?_))
   simp only [seval, EV, r50_4, nilChk_ptr, ld, i0', l0]
   refine hK _ _ _ (C.seq fun K hK => ?_)
   simp only [seval, EV, r50_5, nilChk_ptr, ld, e1, st]
   refine hK _ _ _ (C.seq fun K hK => ?_)
   simp only [seval, EV, r50_6]
   refine hK _ _ _ (C.ret ⟨.inr rfl, _, rfl, by simp only [seval, EV, resOf], ⟨⟨lv', kv, Has.put hb.1, ⟨hl2.keep (Keep.put h B _) fun c hc e => (ll c (lb c hc)).2 e, fun c hc => ll c (lb c hc)⟩, hkk.keep (Keep.put h B _) fun c hc e => by have := lk c hc; have := a.lt.1; omega, lk⟩, a.lt, by show s.keys.length + r.length ≤ 1000; omega, fun q hq => a.wl q (by rw [hws]; exact List.mem_cons_of_mem _ hq)⟩, ch_put _ _ _ _⟩)
theorem word_len {n2 B : Nat} {s : PS} {h : H} (a : PM n2 B s h) : s.word.1.length < 1000 := by
 unfold PS.word
 split
 · show 0 < 1000; decide
 · rename_i p r hws
   exact a.wl p (by rw [hws]; exact List.mem_cons_self ..)
def PS.num (s : PS) (m : Nat) : Nat × PS := (zN s.word.1 m, { s.word.2 with ok := s.word.2.ok && upN s.word.1 m })
def PS.key (s : PS) : PS := { s.word.2 with ok := s.word.2.ok && okW 32 s.word.1, keys := s.word.2.keys ++ [s.word.1] }
theorem num_law (L n : Nat) (hL : 2000 ≤ L) {n2 B : Nat} {s : PS} {m : Nat} (hm : m < 18446744073709551616) {h : H} {e : Value} (he : ErrC e) (hG : Has h 7 (.ro [e])) (hP : Has h 1 (.ro powC)) (hB : 7 < B) (a : PM n2 B s h) :
   Sp (CF L (n + 6)) 69 [.pointer (some ⟨B, 0, none⟩), .int .u64 (m : Int)] h fun r h' => r = .int .u64 ((s.num m).1 : Int) ∧ PM n2 B (s.num m).2 h' ∧ Keep (Ch n2 B) h h' := by
 have wl := word_len a
 unfold PS.num
 refine Sp.body f69 (by simp) ?_
 unfold c69
 refine C.seq fun K hK => hK .norm _ _ (C.seq fun K hK => ?_)
 rw [box_f]
 simp only [seval, EV, r69_1]
 refine word_law L (n + 4) a _ fun r h1 hq => ?_
 obtain ⟨rfl, a1, k1⟩ := hq
 have lt := a.lt
 have ng : ∀ b, b ≤ 7 → ¬ Ch n2 B b := fun b hb e => by rcases e with e | e <;> omega
 refine number_law L n hL hm wl he (hG.keep k1 (ng 7 (by omega))) (hP.keep k1 (ng 1 (by omega))) _ fun r h2 hq => ?_
 obtain ⟨rfl, k2⟩ := hq
 have a2 := a1.keep k2
 have t2 : ∀ (x y : Value) i, tupNth i (.tuple #[x, y]) = [x, y][i]? := fun x y i => tupNth_tuple i [x, y]
 simp only [EV, t2]
 refine hK _ _ _ (C.seq fun K hK => ?_)
 generalize s.word = W at *
 obtain ⟨w, s1⟩ := W
 simp only at wl a1 a2 ⊢
 have ld := a2.load (o := 1) (v := .bool s1.ok) fun _ _ => rfl
 obtain ⟨h3, st, a3, k3⟩ := a2.put (s' := { s1 with ok := s1.ok && upN w m }) (o := 1) (v := .bool (s1.ok && upN w m)) rfl rfl (fun lv kv => rfl) rfl rfl
 have kk := ch_then (ch_then k1 (ch_no k2)) k3
 cases ho : s1.ok with
 | true =>
   rw [ho] at ld
   have st' : ∀ sp, storeV 1 h2 (.pointer (some ⟨B, 1, sp⟩)) (.bool (upN w m)) = some h3 := by simpa [ho] using st
   rw [ho] at a3
   simp only [seval, ↓EW, EV, r69_2, nilChk_ptr, ld, st']
   refine hK _ _ _ (C.seq fun K hK => ?_)
   simp only [seval, EV, r69_3]
   exact hK _ _ _ (C.ret ⟨.inr rfl, _, rfl, by simp only [seval, EV, resOf], by rw [ho]; exact a3, kk⟩)
 | false =>
   rw [ho] at ld
   have st' : ∀ sp, storeV 1 h2 (.pointer (some ⟨B, 1, sp⟩)) (.bool false) = some h3 := by simpa [ho] using st
   rw [ho] at a3
   simp only [seval, ↓EW, EV, r69_2, nilChk_ptr, ld, st']
   refine hK _ _ _ (C.seq fun K hK => ?_)
   simp only [seval, EV, r69_3]
   exact hK _ _ _ (C.ret ⟨.inr rfl, _, rfl, by simp only [seval, EV, resOf], by rw [ho]; exact a3, kk⟩)
theorem key_law (L n : Nat) (hL : 2000 ≤ L) {n2 B : Nat} {s : PS} {h : H} (h998 : s.keys.length + s.ws.length ≤ 998) (a : PM n2 B s h) :
   Sp (CF L (n + 5)) 68 [.pointer (some ⟨B, 0, none⟩)] h fun r h' => PM n2 B s.key h' ∧ Keep (Ch n2 B) h h' := by
 have wl := word_len a
 have hfew : s.word.2.keys.length + 1 + s.word.2.ws.length ≤ 1000 := by
   unfold PS.word
   split
   · show s.keys.length + 1 + s.ws.length ≤ 1000; omega
   · rename_i p r hws
     show s.keys.length + 1 + r.length ≤ 1000
     rw [hws, List.length_cons] at h998; omega
 unfold PS.key
 refine Sp.body f68 (by simp) ?_
 unfold c68
 refine C.seq fun K hK => ?_
 simp only [seval, EV, r68_0]
 refine word_law L (n + 3) a _ fun r h1 hq => ?_
 obtain ⟨rfl, a1, k1⟩ := hq
 generalize s.word = W at *
 obtain ⟨w, s1⟩ := W
 simp only at wl a1 hfew ⊢
 refine hK _ _ _ (C.seq fun K hK => ?_)
 have ld := a1.load (o := 1) (v := .bool s1.ok) fun _ _ => rfl
 have more : ∀ h2 : H, PM n2 B { s1 with ok := s1.ok && okW 32 w } h2 → Keep (Ch n2 B) h h2 → ∀ tm, tg tm 0 = .pointer (some ⟨B, 0, none⟩) → tg tm 2 = sv w → C ⟨r68_2⟩ (CF L (n + 4)) L tm h2 fun e tm' h' => (e = .norm ∨ e = .ret) ∧ ∃ l, q68.f tm' h' = some l ∧ PM n2 B { s1 with ok := s1.ok && okW 32 w, keys := s1.keys ++ [w] } h' ∧ Keep (Ch n2 B) h h' := fun h2 a2 k2 tm t0 t2 K hK => by
   obtain ⟨lv, kv, hb, ⟨hl, ll⟩, hkk, lk⟩ := a2.ex
   have lt := a2.lt
   have ldk : ∀ sp, loadOne h2 (.pointer (some ⟨B, 5, sp⟩)) = some kv := fun sp => loadOne_has hb rfl
   obtain ⟨v', h3, e3, o3, k3, b3⟩ := app_g (p := w) hkk lt.2 lk (by show s1.keys.length + 1 ≤ 1000000; omega)
   have hb3 := hb.keep k3 (show ¬ n2 ≤ B by omega)
   have hl3 := hl.keep k3 fun b hb e => by have := (ll b hb).1; omega
   have c1 : v'.cells = #[v'] := by obtain ⟨b, c, rfl, _⟩ := o3; rfl
   have o1 : ones [v'] = true := by obtain ⟨b, c, rfl, _⟩ := o3; rfl
   have st : ∀ sp, storeV 1 h3 (.pointer (some ⟨B, 5, sp⟩)) v' = some (h3.put B (.rw (PS.cells { s1 with ok := s1.ok && okW 32 w, keys := s1.keys ++ [w] } lv v') (some 88))) := fun sp => store_one hb3 c1 o1 rfl
   rw [box_f]
   simp only [seval, EV, r68_2, t0, t2, nilChk_ptr, ldk, lit_sv, e3, st]
   refine hK .norm _ _ ⟨.inl rfl, [], rfl, ⟨⟨lv, v', Has.put hb3.1, ⟨hl3.keep (Keep.put h3 B _) fun b hb e => (ll b hb).2 e, ll⟩, .inr (o3.keep (Keep.put h3 B _) fun b hb e => by have := b3 b hb; omega), b3⟩, ⟨lt.1, Nat.le_trans lt.2 k3.next⟩, by show (s1.keys ++ [w]).length + s1.ws.length ≤ 1000; rw [List.length_append, List.length_singleton]; exact hfew, a2.wl⟩, ch_then (ch_then k2 (k3.mono fun _ _ e => .inr e)) (ch_put _ _ _ _)⟩
 cases ho : s1.ok with
 | false =>
   obtain ⟨h2, st, a2, k2⟩ := a1.put (s' := { s1 with ok := s1.ok && okW 32 w }) (o := 1) (v := .bool (s1.ok && okW 32 w)) rfl rfl (fun lv kv => rfl) rfl rfl
   rw [ho] at ld
   have st' : ∀ sp, storeV 1 h1 (.pointer (some ⟨B, 1, sp⟩)) (.bool false) = some h2 := by simpa [ho] using st
   simp only [seval, ↓EW, EV, r68_1, nilChk_ptr, ld, st']
   have := more h2 a2 (ch_then k1 k2)
   refine hK .norm _ _ (this _ ?_ ?_)
   · simp only [seval, EV]
   · simp only [seval, EV]
 | true =>
   rw [ho] at ld
   simp only [seval, ↓EW, EV, r68_1, nilChk_ptr, ld]
   have hp : Sp (CF L (n + 4)) 25 [sv w, .int .i64 32] h1 fun r h' => r = .bool (okW 32 w) ∧ Keep nobody h1 h' := plain_law L n 32 (p := w) (by omega) h1
   refine hp _ fun r h2 hq => ?_
   obtain ⟨rfl, k2⟩ := hq
   have a2 := a1.keep k2
   obtain ⟨h3, st, a3, k3⟩ := a2.put (s' := { s1 with ok := s1.ok && okW 32 w }) (o := 1) (v := .bool (s1.ok && okW 32 w)) rfl rfl (fun lv kv => rfl) rfl rfl
   have st' : ∀ sp, storeV 1 h2 (.pointer (some ⟨B, 1, sp⟩)) (.bool (okW 32 w)) = some h3 := by simpa [ho] using st
   simp only [EV, st']
   have := more h3 a3 (ch_then (ch_then k1 (ch_no k2)) k3)
   refine hK .norm _ _ (this _ ?_ ?_)
   · simp only [seval, EV]
   · simp only [seval, EV]
theorem key_ws {s : PS} (h : s.ws ≠ []) : s.key.ws.length + 1 = s.ws.length ∧ s.key.keys.length = s.keys.length + 1 := by
 obtain ⟨p, r, hws⟩ := List.exists_cons_of_ne_nil h
 unfold PS.key PS.word
 rw [hws]
 exact ⟨rfl, by show (s.keys ++ [p]).length = _; rw [List.length_append]; rfl⟩
theorem key_sum (s : PS) : s.key.keys.length + s.key.ws.length ≤ s.keys.length + s.ws.length + 1 := by
 by_cases h : s.ws = []
 · unfold PS.key PS.word
   rw [h]
   show (s.keys ++ [([] : List UInt8)]).length + ([] : List (List UInt8)).length ≤ s.keys.length + ([] : List (List UInt8)).length + 1
   rw [List.length_append]; simp
 · have := key_ws h; omega
def PS.all : Nat → PS → PS
 | 0, s => s
 | f + 1, s => if s.ws = [] then s else PS.all f s.key
def PS.keys' (s : PS) : PS := PS.all s.key.ws.length s.key
theorem keys70_law (L n : Nat) (hL : 2000 ≤ L) {n2 B : Nat} {s : PS} {h : H} (h9 : s.keys.length + s.ws.length ≤ 900) (a : PM n2 B s h) :
   Sp (CF L (n + 6)) 70 [.pointer (some ⟨B, 0, none⟩)] h fun r h' => PM n2 B s.keys' h' ∧ Keep (Ch n2 B) h h' := by
 unfold PS.keys'
 generalize hG0 : s.key = s0
 generalize hG : PS.all s0.ws.length s0 = G
 refine Sp.body f70 (by simp) ?_
 unfold c70
 refine C.seq fun K hK => ?_
 simp only [seval, EV, r70_0]
 refine key_law L n hL (by omega) a _ fun r h1 hq => ?_
 obtain ⟨a1, k1⟩ := hq
 have hs1 := key_sum s
 rw [hG0] at a1 hs1
 obtain ⟨s1, rfl⟩ : ∃ s1, s1 = s0 := ⟨_, rfl⟩
 refine hK _ _ _ (C.block ?_)
 refine (C.loop (L := L) (fun m tm h' => ∃ s', m = s'.ws.length ∧ s'.keys.length + s'.ws.length ≤ 950 ∧ tg tm 0 = .pointer (some ⟨B, 0, none⟩) ∧ PM n2 B s' h' ∧ PS.all s'.ws.length s' = G ∧ Keep (Ch n2 B) h h') s1.ws.length (by omega)
   ⟨s1, rfl, by omega, by simp only [seval, EV], a1, hG, k1⟩ fun m tm h' hi => ?_ :
   C (loopB l70_3) _ L _ h1 fun e tm' h' => e = .exit 0 ∧ PM n2 B G h' ∧ Keep (Ch n2 B) h h').mono ?_
 · obtain ⟨s', hm, hsum, t0, a', hG', kp⟩ := hi
   unfold l70_3
   obtain ⟨lv, kv, hb, ⟨hl, ll⟩, hkk, lk⟩ := a'.ex
   have ld : ∀ sp, loadOne h' (.pointer (some ⟨B, 0, sp⟩)) = some lv := fun sp => loadOne_has hb rfl
   refine C.seq (C.seq fun K hK => ?_)
   by_cases g : (0 : Int) < (s'.ws.length : Int)
   · simp only [EV, r70_1, t0, nilChk_ptr, ld, hl.len, dT g]
     refine hK _ _ _ (C.ct (C.skip (C.block fun K hK => ?_)))
     rw [box_f]
     simp only [seval, EV, r70_2, t0]
     refine key_law L n hL (by omega) a' _ fun r h2 hq => ?_
     obtain ⟨a2, k2⟩ := hq
     have hne : s'.ws ≠ [] := fun e => by rw [e] at g; exact absurd g (by decide)
     obtain ⟨e1, e2⟩ := key_ws hne
     have hall : PS.all s'.key.ws.length s'.key = G := by
       rw [← hG', ← e1]
       show _ = if s'.ws = [] then s' else PS.all s'.key.ws.length s'.key
       rw [if_neg hne]
     exact hK _ _ _ ⟨s'.key.ws.length, by omega, s'.key, rfl, by omega, by simp only [seval, EV, t0], a2, hall, ch_then kp k2⟩
   · have hz : s'.ws.length = 0 := by omega
     rw [hz] at hG'
     have hG2 : s' = G := hG'
     subst hG2
     simp only [EV, r70_1, t0, nilChk_ptr, ld, hl.len, dF g]
     exact hK _ _ _ (C.cf <| C.exit ⟨rfl, a', kp⟩)
 · rintro e tm' h' ⟨rfl, a', kp⟩
   show if 0 = 0 then _ else _
   rw [if_pos rfl]
   exact ⟨.inl rfl, [], rfl, a', kp⟩
theorem toInt_nat (k : IntKind) (z : Int) (k' : IntKind) : toInt k (.int k' z) = some (.int k (k.wrap z)) := toInt_int _ _ _
def PS.flagsN (s : PS) : PS := { (s.num 4294967295).2 with flags := IntKind.u32.wrap ((s.num 4294967295).1 : Int) }
def PS.foN (s : PS) : PS := { (s.num 1099511627776).2 with fo := IntKind.i64.wrap ((s.num 1099511627776).1 : Int) }
def PS.nN (s : PS) : PS := { (s.num 512).2 with n := IntKind.i64.wrap ((s.num 512).1 : Int) }
def PS.uniqN (s : PS) : PS := { (s.num 18446744073709551615).2 with uniq := ((s.num 18446744073709551615).1 : Int) }
def PS.byN (s : PS) : PS := { (s.num 18446744073709551615).2 with by' := ((s.num 18446744073709551615).1 : Int) }
def PS.puts (s : PS) : PS := s.key.flagsN.foN.nN
structure Env (B : Nat) (e : Value) (h : H) : Prop where
 he : ErrC e
 hG : Has h 7 (.ro [e])
 hP : Has h 1 (.ro powC)
 hB : 7 < B
theorem Env.keep {n2 B : Nat} {e : Value} {h h' : H} (a : Env B e h) (hn : B < n2) (k : Keep (Ch n2 B) h h') : Env B e h' := by
 have hB := a.hB
 have ng : ∀ b, b ≤ 7 → ¬ Ch n2 B b := fun b hb e => by rcases e with e | e <;> omega
 exact ⟨a.he, a.hG.keep k (ng 7 (by omega)), a.hP.keep k (ng 1 (by omega)), hB⟩
theorem Env.keep0 {B : Nat} {e : Value} {h h' : H} (a : Env B e h) (k : Keep nobody h h') : Env B e h' := ⟨a.he, a.hG.keep0 k, a.hP.keep0 k, a.hB⟩
theorem puts_law (L n : Nat) (hL : 2000 ≤ L) {n2 B : Nat} {s : PS} {h : H} {e : Value} (ev : Env B e h) (h9 : s.keys.length + s.ws.length ≤ 900) (a : PM n2 B s h) :
   Sp (CF L (n + 7)) 71 [.pointer (some ⟨B, 0, none⟩)] h fun r h' => PM n2 B s.puts h' ∧ Keep (Ch n2 B) h h' := by
 unfold PS.puts
 refine Sp.body f71 (by simp) ?_
 unfold c71
 refine C.seq fun K hK => ?_
 simp only [seval, EV, r71_0]
 refine key_law L (n + 1) hL (by omega) a _ fun r h1 hq => ?_
 obtain ⟨a1, k1⟩ := hq
 have ev1 := ev.keep a.lt.1 k1
 generalize s.key = s1 at *
 refine hK _ _ _ (C.seq fun K hK => ?_)
 have n1 : Sp (CF L (n + 6)) 69 [.pointer (some ⟨B, 0, none⟩), .int .u64 4294967295] h1 fun r h' => r = .int .u64 ((s1.num 4294967295).1 : Int) ∧ PM n2 B (s1.num 4294967295).2 h' ∧ Keep (Ch n2 B) h1 h' := num_law L n hL (m := 4294967295) (by decide) ev1.he ev1.hG ev1.hP ev1.hB a1
 simp only [seval, EV, r71_1]
 refine n1 _ fun r h2 hq => ?_
 obtain ⟨rfl, a2, k2⟩ := hq
 have ev2 := ev1.keep a.lt.1 k2
 obtain ⟨h3, st, a3, k3⟩ := a2.put (s' := s1.flagsN) (o := 7) (v := .int .u32 (IntKind.u32.wrap ((s1.num 4294967295).1 : Int))) rfl rfl (fun lv kv => rfl) rfl rfl
 simp only [seval, EV, toInt_nat, nilChk_ptr, st]
 have ev3 := ev2.keep a.lt.1 k3
 generalize s1.flagsN = s3 at *
 refine hK _ _ _ (C.seq fun K hK => ?_)
 have n3 : Sp (CF L (n + 6)) 69 [.pointer (some ⟨B, 0, none⟩), .int .u64 1099511627776] h3 fun r h' => r = .int .u64 ((s3.num 1099511627776).1 : Int) ∧ PM n2 B (s3.num 1099511627776).2 h' ∧ Keep (Ch n2 B) h3 h' := num_law L n hL (m := 1099511627776) (by decide) ev3.he ev3.hG ev3.hP ev3.hB a3
 simp only [seval, EV, r71_2]
 refine n3 _ fun r h4 hq => ?_
 obtain ⟨rfl, a4, k4⟩ := hq
 have ev4 := ev3.keep a.lt.1 k4
 obtain ⟨h5, st5, a5, k5⟩ := a4.put (s' := s3.foN) (o := 8) (v := .int .i64 (IntKind.i64.wrap ((s3.num 1099511627776).1 : Int))) rfl rfl (fun lv kv => rfl) rfl rfl
 simp only [seval, EV, toInt_nat, nilChk_ptr, st5]
 have ev5 := ev4.keep a.lt.1 k5
 generalize s3.foN = s5 at *
 refine hK _ _ _ fun K hK => ?_
 rw [box_f]
 have n5 : Sp (CF L (n + 6)) 69 [.pointer (some ⟨B, 0, none⟩), .int .u64 512] h5 fun r h' => r = .int .u64 ((s5.num 512).1 : Int) ∧ PM n2 B (s5.num 512).2 h' ∧ Keep (Ch n2 B) h5 h' := num_law L n hL (m := 512) (by decide) ev5.he ev5.hG ev5.hP ev5.hB a5
 simp only [seval, EV, r71_3]
 refine n5 _ fun r h6 hq => ?_
 obtain ⟨rfl, a6, k6⟩ := hq
 obtain ⟨h7, st7, a7, k7⟩ := a6.put (s' := s5.nN) (o := 15) (v := .int .i64 (IntKind.i64.wrap ((s5.num 512).1 : Int))) rfl rfl (fun lv kv => rfl) rfl rfl
 simp only [EV, toInt_nat, nilChk_ptr, st7]
 exact hK _ _ _ ⟨.inl rfl, [], rfl, a7, ch_then (ch_then (ch_then (ch_then (ch_then (ch_then k1 k2) k3) k4) k5) k6) k7⟩
def PB (B : Nat) : AObj := .rw [.pointer (some ⟨B, 0, none⟩)] (some 85)
theorem veq_ptr (b o : Nat) : veq 64 (.pointer (some ⟨b, o, none⟩)) (.pointer (some ⟨b, o, none⟩)) = true := by
 show (Nat.beq b b && Nat.beq o o && true) = true
 rw [Nat.beq_refl, Nat.beq_refl]; rfl
theorem hO_ptr (b o : Nat) (x : Bool) : hO (some (.pointer (some ⟨b, o, none⟩))) (.pointer (some ⟨b, o, none⟩)) x = x := hO_self (veq_ptr b o) x
structure At2 (n2 B P : Nat) (h : H) : Prop where
 hP : Has h P (PB B)
 lt : P < n2 ∧ P ≠ B ∧ B < n2
theorem At2.keep {n2 B P : Nat} {h h' : H} (a : At2 n2 B P h) (k : Keep (Ch n2 B) h h') : At2 n2 B P h' := ⟨a.hP.keep k fun e => by rcases e with e | e; exact a.lt.2.1 e; have := a.lt.1; omega, a.lt⟩
theorem At2.keep0 {n2 B P : Nat} {h h' : H} (a : At2 n2 B P h) (k : Keep nobody h h') : At2 n2 B P h' := ⟨a.hP.keep0 k, a.lt⟩
theorem At2.ld {n2 B P : Nat} {h : H} (a : At2 n2 B P h) : ∀ sp, loadOne h (.pointer (some ⟨P, 0, sp⟩)) = some (.pointer (some ⟨B, 0, none⟩)) := fun sp => loadOne_has a.hP rfl
def ClQ (n2 B : Nat) (s' : PS) (h : H) : Value → H → Prop := fun r h' => PM n2 B s' h' ∧ Keep (Ch n2 B) h h'
theorem num_sum (s : PS) (m : Nat) : (s.num m).2.keys.length + (s.num m).2.ws.length ≤ s.keys.length + s.ws.length := by
 unfold PS.num PS.word
 split
 · exact Nat.le_refl _
 · rename_i p r hws
   show s.keys.length + r.length ≤ s.keys.length + s.ws.length
   rw [hws, List.length_cons]; omega
theorem f67_law (L n : Nat) (hL : 2000 ≤ L) {n2 B P : Nat} {s : PS} {h : H} {e : Value} (ev : Env B e h) (at2 : At2 n2 B P h) (h9 : s.keys.length + s.ws.length ≤ 890) (a : PM n2 B s h) :
   Sp (CF L (n + 8)) 67 [.pointer (some ⟨P, 0, none⟩)] h (ClQ n2 B (s.key.byN) h) := by
 unfold ClQ
 refine Sp.body f67 (by simp) ?_
 unfold c67
 refine C.seq fun K hK => ?_
 simp only [seval, EV, r67_0, at2.ld]
 refine key_law L (n + 2) hL (by omega) a _ fun r h1 hq => ?_
 obtain ⟨a1, k1⟩ := hq
 have ev1 := ev.keep a.lt.1 k1
 have p1 := at2.keep k1
 generalize s.key = s1 at *
 refine hK _ _ _ fun K hK => ?_
 rw [box_f]
 have kr := keep_room h1 8
 have ev2 := ev1.keep0 kr
 have p2 := p1.keep0 kr
 have a2 := a1.keep kr
 have nm : Sp (CF L (n + 7)) 69 [.pointer (some ⟨B, 0, none⟩), .int .u64 18446744073709551615] ⟨h1.objs, h1.next + 8⟩ fun r h' => r = .int .u64 ((s1.num 18446744073709551615).1 : Int) ∧ PM n2 B (s1.num 18446744073709551615).2 h' ∧ Keep (Ch n2 B) ⟨h1.objs, h1.next + 8⟩ h' := num_law L (n + 1) hL (m := 18446744073709551615) (by decide) ev2.he ev2.hG ev2.hP ev2.hB a2
 simp only [seval, EV, r67_1, p2.ld]
 refine nm _ fun r h3 hq => ?_
 obtain ⟨rfl, a3, k3⟩ := hq
 have p3 := p2.keep k3
 obtain ⟨h4, st, a4, k4⟩ := a3.put (s' := s1.byN) (o := 10) (v := .int .u64 ((s1.num 18446744073709551615).1 : Int)) rfl rfl (fun lv kv => rfl) rfl rfl
 simp only [seval, EV, Bool.and_true, p3.ld, hO_ptr, nilChk_ptr, st]
 exact hK _ _ _ ⟨.inl rfl, [], rfl, a4, ch_then (ch_then (ch_then k1 (ch_no kr)) k3) k4⟩
theorem f72_law (L n : Nat) (hL : 2000 ≤ L) {n2 B P : Nat} {s : PS} {h : H} {e : Value} (ev : Env B e h) (at2 : At2 n2 B P h) (h9 : s.keys.length + s.ws.length ≤ 890) (a : PM n2 B s h) :
   Sp (CF L (n + 8)) 72 [.pointer (some ⟨P, 0, none⟩)] h (ClQ n2 B (s.puts.uniqN) h) := by
 unfold ClQ
 refine Sp.body f72 (by simp) ?_
 unfold c72
 refine C.seq fun K hK => ?_
 simp only [seval, EV, r72_0, at2.ld]
 refine puts_law L n hL ev (by omega) a _ fun r h1 hq => ?_
 obtain ⟨a1, k1⟩ := hq
 have ev1 := ev.keep a.lt.1 k1
 have p1 := at2.keep k1
 generalize s.puts = s1 at *
 refine hK _ _ _ fun K hK => ?_
 rw [box_f]
 have kr := keep_room h1 8
 have ev2 := ev1.keep0 kr
 have p2 := p1.keep0 kr
 have a2 := a1.keep kr
 have nm : Sp (CF L (n + 7)) 69 [.pointer (some ⟨B, 0, none⟩), .int .u64 18446744073709551615] ⟨h1.objs, h1.next + 8⟩ fun r h' => r = .int .u64 ((s1.num 18446744073709551615).1 : Int) ∧ PM n2 B (s1.num 18446744073709551615).2 h' ∧ Keep (Ch n2 B) ⟨h1.objs, h1.next + 8⟩ h' := num_law L (n + 1) hL (m := 18446744073709551615) (by decide) ev2.he ev2.hG ev2.hP ev2.hB a2
 simp only [seval, EV, r72_1, p2.ld]
 refine nm _ fun r h3 hq => ?_
 obtain ⟨rfl, a3, k3⟩ := hq
 have p3 := p2.keep k3
 obtain ⟨h4, st, a4, k4⟩ := a3.put (s' := s1.uniqN) (o := 9) (v := .int .u64 ((s1.num 18446744073709551615).1 : Int)) rfl rfl (fun lv kv => rfl) rfl rfl
 simp only [seval, EV, Bool.and_true, p3.ld, hO_ptr, nilChk_ptr, st]
 exact hK _ _ _ ⟨.inl rfl, [], rfl, a4, ch_then (ch_then (ch_then k1 (ch_no kr)) k3) k4⟩
theorem f73_law (L n : Nat) (hL : 2000 ≤ L) {n2 B P : Nat} {s : PS} {h : H} {e : Value} (ev : Env B e h) (at2 : At2 n2 B P h) (h9 : s.keys.length + s.ws.length ≤ 890) (a : PM n2 B s h) :
   Sp (CF L (n + 8)) 73 [.pointer (some ⟨P, 0, none⟩)] h (ClQ n2 B (s.key.nN) h) := by
 unfold ClQ
 refine Sp.body f73 (by simp) ?_
 unfold c73
 refine C.seq fun K hK => ?_
 simp only [seval, EV, r73_0, at2.ld]
 refine key_law L (n + 2) hL (by omega) a _ fun r h1 hq => ?_
 obtain ⟨a1, k1⟩ := hq
 have ev1 := ev.keep a.lt.1 k1
 have p1 := at2.keep k1
 generalize s.key = s1 at *
 refine hK _ _ _ fun K hK => ?_
 rw [box_f]
 have kr := keep_room h1 7
 have ev2 := ev1.keep0 kr
 have p2 := p1.keep0 kr
 have a2 := a1.keep kr
 have nm : Sp (CF L (n + 7)) 69 [.pointer (some ⟨B, 0, none⟩), .int .u64 512] ⟨h1.objs, h1.next + 7⟩ fun r h' => r = .int .u64 ((s1.num 512).1 : Int) ∧ PM n2 B (s1.num 512).2 h' ∧ Keep (Ch n2 B) ⟨h1.objs, h1.next + 7⟩ h' := num_law L (n + 1) hL (m := 512) (by decide) ev2.he ev2.hG ev2.hP ev2.hB a2
 simp only [seval, EV, r73_1, p2.ld]
 refine nm _ fun r h3 hq => ?_
 obtain ⟨rfl, a3, k3⟩ := hq
 have p3 := p2.keep k3
 obtain ⟨h4, st, a4, k4⟩ := a3.put (s' := s1.nN) (o := 15) (v := .int .i64 (IntKind.i64.wrap ((s1.num 512).1 : Int))) rfl rfl (fun lv kv => rfl) rfl rfl
 simp only [EV, Bool.and_true, p3.ld, hO_ptr, toInt_nat, nilChk_ptr, st]
 exact hK _ _ _ ⟨.inl rfl, [], rfl, a4, ch_then (ch_then (ch_then k1 (ch_no kr)) k3) k4⟩
theorem f74_law (L n : Nat) (hL : 2000 ≤ L) {n2 B P : Nat} {s : PS} {h : H} {e : Value} (ev : Env B e h) (at2 : At2 n2 B P h) (h9 : s.keys.length + s.ws.length ≤ 890) (a : PM n2 B s h) :
   Sp (CF L (n + 8)) 74 [.pointer (some ⟨P, 0, none⟩)] h (ClQ n2 B (s.key.foN) h) := by
 unfold ClQ
 refine Sp.body f74 (by simp) ?_
 unfold c74
 refine C.seq fun K hK => ?_
 simp only [seval, EV, r74_0, at2.ld]
 refine key_law L (n + 2) hL (by omega) a _ fun r h1 hq => ?_
 obtain ⟨a1, k1⟩ := hq
 have ev1 := ev.keep a.lt.1 k1
 have p1 := at2.keep k1
 generalize s.key = s1 at *
 refine hK _ _ _ fun K hK => ?_
 rw [box_f]
 have kr := keep_room h1 9
 have ev2 := ev1.keep0 kr
 have p2 := p1.keep0 kr
 have a2 := a1.keep kr
 have nm : Sp (CF L (n + 7)) 69 [.pointer (some ⟨B, 0, none⟩), .int .u64 1099511627776] ⟨h1.objs, h1.next + 9⟩ fun r h' => r = .int .u64 ((s1.num 1099511627776).1 : Int) ∧ PM n2 B (s1.num 1099511627776).2 h' ∧ Keep (Ch n2 B) ⟨h1.objs, h1.next + 9⟩ h' := num_law L (n + 1) hL (m := 1099511627776) (by decide) ev2.he ev2.hG ev2.hP ev2.hB a2
 simp only [seval, EV, r74_1, p2.ld]
 refine nm _ fun r h3 hq => ?_
 obtain ⟨rfl, a3, k3⟩ := hq
 have p3 := p2.keep k3
 obtain ⟨h4, st, a4, k4⟩ := a3.put (s' := s1.foN) (o := 8) (v := .int .i64 (IntKind.i64.wrap ((s1.num 1099511627776).1 : Int))) rfl rfl (fun lv kv => rfl) rfl rfl
 simp only [seval, EV, Bool.and_true, p3.ld, hO_ptr, toInt_nat, nilChk_ptr, st]
 exact hK _ _ _ ⟨.inl rfl, [], rfl, a4, ch_then (ch_then (ch_then k1 (ch_no kr)) k3) k4⟩
theorem f78_law (L n : Nat) {n2 B P : Nat} {s : PS} {h : H} (at2 : At2 n2 B P h) (a : PM n2 B s h) :
   Sp (CF L (n + 1)) 78 [.pointer (some ⟨P, 0, none⟩)] h (ClQ n2 B { s with kind := 4 } h) := by
 unfold ClQ
 refine Sp.body f78 (by simp) ?_
 unfold c78
 intro K hK
 obtain ⟨h1, st, a1, k1⟩ := a.put (s' := { s with kind := 4 }) (o := 2) (v := .int .u8 4) rfl rfl (fun lv kv => rfl) rfl rfl
 rw [box_f]
 simp only [seval, EV, r78_0, at2.ld, nilChk_ptr, st]
 exact hK _ _ _ ⟨.inl rfl, [], rfl, a1, k1⟩
theorem f79_law (L n : Nat) {n2 B P : Nat} {s : PS} {h : H} (at2 : At2 n2 B P h) (a : PM n2 B s h) :
   Sp (CF L (n + 1)) 79 [.pointer (some ⟨P, 0, none⟩)] h (ClQ n2 B { s with kind := 5 } h) := by
 unfold ClQ
 refine Sp.body f79 (by simp) ?_
 unfold c79
 intro K hK
 obtain ⟨h1, st, a1, k1⟩ := a.put (s' := { s with kind := 5 }) (o := 2) (v := .int .u8 5) rfl rfl (fun lv kv => rfl) rfl rfl
 rw [box_f]
 simp only [seval, EV, r79_0, at2.ld, nilChk_ptr, st]
 exact hK _ _ _ ⟨.inl rfl, [], rfl, a1, k1⟩
theorem f75_law (L n : Nat) {n2 B : Nat} {s : PS} {h : H} (a : PM n2 B s h) : Sp (CF L (n + 1)) 75 [] h (ClQ n2 B s h) := by
 unfold ClQ
 refine Sp.body f75 (by simp) ?_
 unfold c75
 exact C.skip ⟨.inl rfl, [], rfl, a, .refl _ _⟩
def onW : List UInt8 := [111, 110]
def offW : List UInt8 := [111, 102, 102]
def PS.track (s : PS) : PS := { s.word.2 with kind := 3, on := decide (s.word.1 = onW), ok := s.word.2.ok && (decide (s.word.1 = onW) || decide (s.word.1 = offW)) }
def PS.user (s : PS) : PS := { (s.num 3).2.word.2 with kind := 2, rten := IntKind.i64.wrap ((s.num 3).1 : Int), sec := (s.num 3).2.word.1, ok := (s.num 3).2.word.2.ok && okW 16 (s.num 3).2.word.1 }
theorem f77_law (L n : Nat) {n2 B P : Nat} {s : PS} {h : H} (at2 : At2 n2 B P h) (a : PM n2 B s h) :
   Sp (CF L (n + 2)) 77 [.pointer (some ⟨P, 0, none⟩)] h (ClQ n2 B s.track h) := by
 unfold ClQ PS.track
 generalize hW : s.word = W
 refine Sp.body f77 (by simp) ?_
 unfold c77
 refine C.seq fun K hK => ?_
 simp only [seval, EV, r77_0, at2.ld]
 refine word_law L n a _ fun r h1 hq => ?_
 obtain ⟨rfl, a1, k1⟩ := hq
 have p1 := at2.keep k1
 rw [hW] at a1
 rw [hW]
 obtain ⟨w, s1⟩ := W
 simp only at a1 ⊢
 refine hK _ _ _ fun K hK => ?_
 rw [box_f]
 have kr := keep_room h1 28
 have p2 := p1.keep0 kr
 have a2 := a1.keep kr
 have ld := a2.load (o := 1) (v := .bool s1.ok) fun _ _ => rfl
 have q1 : ∀ c, binV Tryz.prog .eql 9 c (sv w) (.string (strB [111, 110])) = some (.bool (decide (w = onW))) := fun c => sv_eql 9 c w onW
 have q2 : ∀ c, binV Tryz.prog .eql 9 c (sv w) (.string (strB [111, 102, 102])) = some (.bool (decide (w = offW))) := fun c => sv_eql 9 c w offW
 obtain ⟨h3, st3, a3, k3⟩ := a2.put (s' := { s1 with kind := 3 }) (o := 2) (v := .int .u8 3) rfl rfl (fun lv kv => rfl) rfl rfl
 have p3 := p2.keep k3
 obtain ⟨h4, st4, a4, k4⟩ := a3.put (s' := { s1 with kind := 3, on := decide (w = onW) }) (o := 13) (v := .bool (decide (w = onW))) rfl rfl (fun lv kv => rfl) rfl rfl
 have p4 := p3.keep k4
 obtain ⟨h5, st5, a5, k5⟩ := a4.put (s' := { s1 with kind := 3, on := decide (w = onW), ok := s1.ok && (decide (w = onW) || decide (w = offW)) }) (o := 1) (v := .bool (s1.ok && (decide (w = onW) || decide (w = offW)))) rfl rfl (fun lv kv => rfl) rfl rfl
 have kk := ch_then (ch_then (ch_then (ch_then k1 (ch_no kr)) k3) k4) k5
 cases ho : s1.ok with
 | false =>
   rw [ho] at ld
   have st5' : ∀ sp, storeV 1 h4 (.pointer (some ⟨B, 1, sp⟩)) (.bool false) = some h5 := by simpa [ho] using st5
   rw [ho] at a5
   simp only [seval, ↓EW, EV, Bool.and_true, r77_1, p2.ld, q1, nilChk_ptr, ld, st3, p3.ld, hO_ptr, st4, p4.ld, st5']
   exact hK _ _ _ ⟨.inl rfl, [], rfl, by rw [ho]; exact a5, kk⟩
 | true =>
   rw [ho] at ld
   by_cases g1 : w = onW
   · have st5' : ∀ sp, storeV 1 h4 (.pointer (some ⟨B, 1, sp⟩)) (.bool true) = some h5 := by simpa [ho, g1] using st5
     rw [dT g1] at st4 q1
     rw [ho] at a5
     simp only [seval, ↓EW, EV, Bool.and_true, r77_1, p2.ld, q1, nilChk_ptr, ld, st3, p3.ld, hO_ptr, st4, p4.ld, st5']
     exact hK _ _ _ ⟨.inl rfl, [], rfl, by rw [ho]; exact a5, kk⟩
   · by_cases g2 : w = offW
     · have st5' : ∀ sp, storeV 1 h4 (.pointer (some ⟨B, 1, sp⟩)) (.bool true) = some h5 := by simpa [ho, g1, g2] using st5
       rw [dF g1] at st4 q1
       rw [dT g2] at q2
       rw [ho] at a5
       simp only [seval, ↓EW, EV, Bool.and_true, r77_1, p2.ld, q1, q2, nilChk_ptr, ld, st3, p3.ld, hO_ptr, st4, p4.ld, st5']
       exact hK _ _ _ ⟨.inl rfl, [], rfl, by rw [ho]; exact a5, kk⟩
     · have st5' : ∀ sp, storeV 1 h4 (.pointer (some ⟨B, 1, sp⟩)) (.bool false) = some h5 := by simpa [ho, g1, g2] using st5
       rw [dF g1] at st4 q1
       rw [dF g2] at q2
       rw [ho] at a5
       simp only [seval, ↓EW, EV, Bool.and_true, r77_1, p2.ld, q1, q2, nilChk_ptr, ld, st3, p3.ld, hO_ptr, st4, p4.ld, st5']
       exact hK _ _ _ ⟨.inl rfl, [], rfl, by rw [ho]; exact a5, kk⟩
theorem f76_law (L n : Nat) (hL : 2000 ≤ L) {n2 B P : Nat} {s : PS} {h : H} {e : Value} (ev : Env B e h) (at2 : At2 n2 B P h) (a : PM n2 B s h) :
   Sp (CF L (n + 7)) 76 [.pointer (some ⟨P, 0, none⟩)] h (ClQ n2 B s.user h) := by
 unfold ClQ PS.user
 generalize hZ : s.num 3 = Z
 obtain ⟨z, s0⟩ := Z
 generalize hW : s0.word = W
 obtain ⟨w, s1⟩ := W
 simp only [hW]
 refine Sp.body f76 (by simp) ?_
 unfold c76
 refine C.seq fun K hK => ?_
 have kr := keep_room h 20
 have ev0 := ev.keep0 kr
 have p0 := at2.keep0 kr
 have a0 := a.keep kr
 have nm : Sp (CF L (n + 6)) 69 [.pointer (some ⟨B, 0, none⟩), .int .u64 3] ⟨h.objs, h.next + 20⟩ fun r h' => r = .int .u64 ((s.num 3).1 : Int) ∧ PM n2 B (s.num 3).2 h' ∧ Keep (Ch n2 B) ⟨h.objs, h.next + 20⟩ h' := num_law L n hL (m := 3) (by decide) ev0.he ev0.hG ev0.hP ev0.hB a0
 rw [hZ] at nm
 rw [box_f]
 simp only [seval, EV, r76_0, p0.ld]
 refine nm _ fun r h1 hq => ?_
 obtain ⟨rfl, a1, k1⟩ := hq
 have p1 := p0.keep k1
 simp only [EV, Bool.and_true, p1.ld, hO_ptr, toInt_nat]
 have wlen := word_len a1
 refine word_law L (n + 5) a1 _ fun r h2 hq => ?_
 obtain ⟨rfl, a2, k2⟩ := hq
 rw [hW] at a2 wlen
 rw [hW]
 simp only at a2 wlen
 have p2 := p1.keep k2
 obtain ⟨h3, st3, a3, k3⟩ := a2.put (s' := { s1 with kind := 2 }) (o := 2) (v := .int .u8 2) rfl rfl (fun lv kv => rfl) rfl rfl
 have p3 := p2.keep k3
 obtain ⟨h4, st4, a4, k4⟩ := a3.put (s' := { s1 with kind := 2, rten := IntKind.i64.wrap (z : Int) }) (o := 11) (v := .int .i64 (IntKind.i64.wrap (z : Int))) rfl rfl (fun lv kv => rfl) rfl rfl
 have p4 := p3.keep k4
 obtain ⟨h5, st5, a5, k5⟩ := a4.put (s' := { s1 with kind := 2, rten := IntKind.i64.wrap (z : Int), sec := w }) (o := 12) (v := sv w) rfl rfl (fun lv kv => rfl) rfl rfl
 have p5 := p4.keep k5
 have kk := ch_then (ch_then (ch_then (ch_then (ch_then (ch_no kr) k1) k2) k3) k4) k5
 simp only [seval, EV, p2.ld, hO_ptr, nilChk_ptr, st3, p3.ld, st4, p4.ld, st5]
 refine hK _ _ _ fun K hK => ?_
 rw [box_f]
 have kr6 := keep_room h5 16
 have p6 := p5.keep0 kr6
 have a6 := a5.keep kr6
 have ld := a6.load (o := 1) (v := .bool s1.ok) fun _ _ => rfl
 have lds := a6.load (o := 12) (v := sv w) fun _ _ => rfl
 cases ho : s1.ok with
 | false =>
   obtain ⟨h7, st7, a7, k7⟩ := a6.put (s' := { s1 with kind := 2, rten := IntKind.i64.wrap (z : Int), sec := w, ok := s1.ok && okW 16 w }) (o := 1) (v := .bool (s1.ok && okW 16 w)) rfl rfl (fun lv kv => rfl) rfl rfl
   have st7' : ∀ sp, storeV 1 ⟨h5.objs, h5.next + 16⟩ (.pointer (some ⟨B, 1, sp⟩)) (.bool false) = some h7 := by simpa [ho] using st7
   rw [ho] at ld
   simp only [seval, EV, Bool.and_true, r76_1, p6.ld, nilChk_ptr, ld, ite2, st7']
   exact hK _ _ _ ⟨.inl rfl, [], rfl, a7, ch_then (ch_then kk (ch_no kr6)) k7⟩
 | true =>
   rw [ho] at ld
   have hp : Sp (CF L (n + 6)) 25 [sv w, .int .i64 16] ⟨h5.objs, h5.next + 16⟩ fun r h' => r = .bool (okW 16 w) ∧ Keep nobody ⟨h5.objs, h5.next + 16⟩ h' := plain_law L (n + 2) 16 (p := w) (by omega) _
   simp only [seval, EV, Bool.and_true, r76_1, p6.ld, nilChk_ptr, ld, lds, ite2]
   refine hp _ fun r h7 hq => ?_
   obtain ⟨rfl, k7⟩ := hq
   have p7 := p6.keep0 k7
   obtain ⟨h8, st8, a8, k8⟩ := (a6.keep k7).put (s' := { s1 with kind := 2, rten := IntKind.i64.wrap (z : Int), sec := w, ok := s1.ok && okW 16 w }) (o := 1) (v := .bool (s1.ok && okW 16 w)) rfl rfl (fun lv kv => rfl) rfl rfl
   have st8' : ∀ sp, storeV 1 h7 (.pointer (some ⟨B, 1, sp⟩)) (.bool (okW 16 w)) = some h8 := by simpa [ho] using st8
   simp only [EV, p7.ld, hO_ptr, st8']
   exact hK _ _ _ ⟨.inl rfl, [], rfl, a8, ch_then (ch_then (ch_then kk (ch_no kr6)) (ch_no k7)) k8⟩
def Cmd65 (P : Nat) (k : Int) (rf : Value) (n0 : Nat) (h : H) (r : Value) : Prop := ∃ kb rb, r = .func (.func 66) #[] #[.pointer (some ⟨kb, 0, none⟩), .pointer (some ⟨P, 0, none⟩), .pointer (some ⟨rb, 0, none⟩)] ∧ Has h kb (.rw [.int .u8 k] (some 5)) ∧ Has h rb (.rw [rf] (some 1)) ∧ n0 ≤ kb ∧ n0 ≤ rb
theorem Cmd65.keep0 {P n0 : Nat} {k : Int} {rf : Value} {h h' : H} {r : Value} (a : Cmd65 P k rf n0 h r) (kp : Keep nobody h h') : Cmd65 P k rf n0 h' r := by
 obtain ⟨kb, rb, e, h1, h2, h3⟩ := a
 exact ⟨kb, rb, e, h1.keep0 kp, h2.keep0 kp, h3⟩
theorem law65 (L n : Nat) {P n0 : Nat} {k : Int} {rf : Value} {h : H} (hf : rf.cells = #[rf]) (hn : n0 ≤ h.next) : Sp (CF L (n + 1)) 65 [.int .u8 k, rf, .pointer (some ⟨P, 0, none⟩)] h fun r h' => Cmd65 P k rf n0 h' r ∧ Keep nobody h h' := by
 refine Sp.body f65 (by simp) ?_
 unfold c65
 refine C.seq fun K hK => ?_
 have c1 : (Value.cells (.int .u8 k)).toList = [.int .u8 k] := rfl
 have c2 : (Value.cells rf).toList = [rf] := by rw [hf]
 have b1 := Has.new h (.rw [.int .u8 k] (some 5))
 have k1 := Keep.new h (.rw [.int .u8 k] (some 5))
 have e1 : (h.new (.rw [.int .u8 k] (some 5))).next = h.next + 1 := rfl
 simp only [seval, ↓EW, EV, r65_0, c1, c2]
 generalize h.new (.rw [.int .u8 k] (some 5)) = h1 at *
 have b2 := Has.new h1 (.rw [rf] (some 1))
 have k2 := Keep.new h1 (.rw [rf] (some 1))
 generalize h1.new (.rw [rf] (some 1)) = h2 at *
 refine hK _ _ _ (C.seq fun K hK => ?_)
 simp only [seval, ↓EW, EV, r65_1]
 exact hK _ _ _ (C.ret ⟨.inr rfl, _, rfl, ⟨h.next, h1.next, by simp only [seval, EV, resOf], b1.keep0 k2, b2, hn, by omega⟩, k1.then k2⟩)
def RunOK (L N B n2 : Nat) (e : Value) (h : H) (fv : Value) (E : PS → PS) : Prop := ∀ (h' : H) (s : PS), Keep (Ch n2 B) h h' → Env B e h' → PM n2 B s h' → s.keys.length + s.ws.length ≤ 880 → ∃ g args, funcArgs fv [] = some (g, args) ∧ Sp (CF L N) g args h' (ClQ n2 B (E s) h')
theorem RunOK.of {L N B n2 : Nat} {e : Value} {h h1 : H} {fv : Value} {E : PS → PS} (a : RunOK L N B n2 e h fv E) (k : Keep (Ch n2 B) h h1) : RunOK L N B n2 e h1 fv E := fun h' s kp ev pm hs => a h' s (ch_then k kp) ev pm hs
def cmdE (k : Int) (E : PS → PS) (s : PS) : PS := E { s with kind := 1, ck := k }
theorem ch_old {n2 B b : Nat} (h1 : b < n2) (h2 : b ≠ B) : ¬ Ch n2 B b := fun e => by rcases e with e | e <;> omega
theorem law66 (L n : Nat) {P B n2 n0 : Nat} {k : Int} {rf fv : Value} {h : H} {e : Value} {E : PS → PS} (hB : B < n0) (hP : At2 n2 B P h) (a : Cmd65 P k rf n0 h fv) (h2 : h.next ≤ n2) (run : RunOK L (n + 8) B n2 e h rf E) : RunOK L (n + 9) B n2 e h fv (cmdE k E) := by
 obtain ⟨kb, rb, rfl, hk, hr, ln1, ln2⟩ := a
 intro h' s kp ev pm hs
 refine ⟨66, [.pointer (some ⟨kb, 0, none⟩), .pointer (some ⟨P, 0, none⟩), .pointer (some ⟨rb, 0, none⟩)], rfl, ?_⟩
 have hk' := hk.keep kp (ch_old (by have := hk.1; omega) (by omega))
 have hr' := hr.keep kp (ch_old (by have := hr.1; omega) (by omega))
 have p' := hP.keep kp
 unfold ClQ cmdE
 refine Sp.body f66 (by simp) ?_
 unfold c66
 refine C.seq fun K hK => ?_
 have kr := keep_room h' 12
 have p0 := p'.keep0 kr
 have hk0 := hk'.keep0 kr
 have hr0 := hr'.keep0 kr
 have a0 := pm.keep kr
 have ldk : ∀ hx, Keep (Ch n2 B) ⟨h'.objs, h'.next + 12⟩ hx → ∀ sp, loadOne hx (.pointer (some ⟨kb, 0, sp⟩)) = some (.int .u8 k) := fun hx kx sp => loadOne_has (hk0.keep kx (ch_old (by have := hk.1; omega) (by omega))) rfl
 have ldr : ∀ hx, Keep (Ch n2 B) ⟨h'.objs, h'.next + 12⟩ hx → ∀ sp, loadOne hx (.pointer (some ⟨rb, 0, sp⟩)) = some rf := fun hx kx sp => loadOne_has (hr0.keep kx (ch_old (by have := hr.1; omega) (by omega))) rfl
 obtain ⟨h3, st3, a3, k3⟩ := a0.put (s' := { s with kind := 1 }) (o := 2) (v := .int .u8 1) rfl rfl (fun lv kv => rfl) rfl rfl
 have p3 := p0.keep k3
 obtain ⟨h4, st4, a4, k4⟩ := a3.put (s' := { s with kind := 1, ck := k }) (o := 3) (v := .int .u8 k) rfl rfl (fun lv kv => rfl) rfl rfl
 have k34 := ch_then k3 k4
 have hOk : ∀ x, hO (some (.int .u8 k)) (.int .u8 k) x = x := fun x => hO_self (veq_int _ _) x
 rw [box_f]
 simp only [seval, EV, Bool.and_true, r66_0, p0.ld, ldk _ (.refl _ _), nilChk_ptr, st3, p3.ld, ldk _ k3, hOk, hO_ptr, st4]
 refine hK _ _ _ fun K hK => ?_
 rw [box_f]
 have k04 := ch_then (ch_no (n2 := n2) (B := B) kr) k34
 obtain ⟨g, args, e1, sp⟩ := run h4 { s with kind := 1, ck := k } (ch_then kp k04) (ev.keep hP.lt.2.2 k04) a4 hs
 simp only [seval, EV, r66_1, ldr _ k34, e1, goCall]
 refine sp _ fun r h5 hq => ?_
 obtain ⟨a5, k5⟩ := hq
 exact hK _ _ _ ⟨.inl rfl, [], rfl, a5, ch_then k04 k5⟩
theorem look_lit {h : H} {M : Nat} {es : List (ByteArray × Value)} (hb : Has h M (.lit es)) (w : List UInt8) : lookV Tryz.prog 9 .nilFunc true h (.map (some M)) (sv w) = some (foundS true .nilFunc (findS w es)) := by
 have hm : mapOf h (.map (some M)) = none := by simp only [mapOf, hb.2]
 have hl : litOf h (.map (some M)) = some es := by simp only [litOf, hb.2]
 unfold lookV
 rw [hm]
 show lookL Tryz.prog 9 .nilFunc true h (.map (some M)) (sv w) = _
 have hk := keyOk_sv w
 unfold lookL
 rw [hl]
 unfold sv at hk ⊢
 dsimp only
 rw [hk]
theorem insV_lit (m i b : Nat) (es : List (Nat × ByteArray × Value)) (w : List Nat) (v : Value) (hm : Nat.testBit m 0 = true) (hn : notIn (strB w) es = true) (hk : keyOk Tryz.prog 9 (.string (strB w)) = true) : insV Tryz.prog 9 m i [⟨0, b, es⟩] (.map (some b)) (.string (strB w)) v = some [⟨0, b, (i, strB w, v) :: es⟩] := by
 unfold insV
 dsimp only
 rw [hk]
 unfold insLt
 simp only [Nat.beq_refl, hm, hn, Bool.and_self]
theorem kL_some (l : List Lt) (K : List Lt → Bool) : kL (some l) K = K l := rfl
theorem ltFree_one (m b : Nat) (es : List (Nat × ByteArray × Value)) (hm : Nat.testBit m 0 = false) : ltFree m [⟨0, b, es⟩] = true := by
 unfold ltFree
 simp only [hm]
 rfl
end Go.Proofs.YtilpiiafjehbnaaGreatDoor
