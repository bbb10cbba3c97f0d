import Derived.Test.YtbdmhdidehfmoaaDoorTbH
set_option linter.unusedSimpArgs false
set_option linter.unusedVariables false
namespace Go.Proofs.YtbdmhdidehfmoaaDoor
open Go.Ev

/-! ### rows as one list -/
theorem flat_set {rs : List (List Ent)} {i : Nat} {es es' : List Ent} {e : Ent} (h : rs[i]? = some es) (p : es.Perm (e :: es')) : rs.flatten.Perm (e :: (rs.set i es').flatten) := by
  have hi := (List.getElem?_eq_some_iff.1 h).1
  have he : rs[i] = es := (List.getElem?_eq_some_iff.1 h).2
  have e1 : rs = rs.take i ++ es :: rs.drop (i + 1) := by
    conv => lhs; rw [← List.take_append_drop i rs]
    rw [List.drop_eq_getElem_cons hi, he]
  have e2 : rs.set i es' = rs.take i ++ es' :: rs.drop (i + 1) := by
    rw [List.set_eq_take_append_cons_drop, if_pos hi]
  rw [e2]
  conv => lhs; rw [e1]
  simp only [List.flatten_append, List.flatten_cons]
  have h1 : ((rs.take i).flatten ++ (es ++ (rs.drop (i + 1)).flatten)).Perm ((rs.take i).flatten ++ (e :: es' ++ (rs.drop (i + 1)).flatten)) := List.Perm.append_left _ (List.Perm.append_right _ p)
  exact h1.trans (by rw [List.cons_append]; exact List.perm_middle)
theorem flat_add {rs : List (List Ent)} {i : Nat} {es : List Ent} (e : Ent) (h : rs[i]? = some es) : (rs.set i (es ++ [e])).flatten.Perm (e :: rs.flatten) := by
  have hi := (List.getElem?_eq_some_iff.1 h).1
  have he : rs[i] = es := (List.getElem?_eq_some_iff.1 h).2
  have h1 := flat_set (rs := rs.set i (es ++ [e])) (i := i) (es := es ++ [e]) (es' := es) (e := e) (List.getElem?_set_self hi) (List.perm_append_comm (l₁ := es) (l₂ := [e]))
  rw [List.set_set, ← he, List.set_getElem_self] at h1
  rw [← he]; exact h1
theorem flat_mem {rs : List (List Ent)} {i : Nat} {es : List Ent} (h : rs[i]? = some es) {e : Ent} (he : e ∈ es) : e ∈ rs.flatten := List.mem_flatten.2 ⟨es, List.mem_of_getElem? h, he⟩
theorem row_le {rs : List (List Ent)} {i : Nat} {es : List Ent} (h : rs[i]? = some es) : es.length ≤ rs.flatten.length := by
  have h1 := List.mem_of_getElem? h
  exact (List.sublist_flatten_of_mem h1).length_le
theorem flat_nil {rs : List (List Ent)} (h : ∀ (i : Nat) es, rs[i]? = some es → es = []) : rs.flatten = [] := by
  apply List.flatten_eq_nil_iff.2
  intro l hl
  obtain ⟨i, hi⟩ := List.getElem?_of_mem hl
  exact h i l hi

/-! ### the table in memory -/
def tcells (v1 : Value) (n1 : Int) (v2 : Value) (n2 at_ mv : Int) : List Value := [v1, .int .i64 n1, v2, .int .i64 n2, .int .i64 at_, .int .i64 mv, .bool true]

structure Tab (O : Nat → Tag) (h : H) (b : Nat) (now old : List (List Ent)) (n1 n2 at_ mv : Int) (v1 v2 : Value) : Prop where
  hb : Has h b (.rw (tcells v1 n1 v2 n2 at_ mv))
  ob : O b = .tab
  now : RowsAt O h false v1 now
  old : RowsAt O h true v2 old
  far : ∀ c, h.next ≤ c → O c = .other

structure Fr (O : Nat → Tag) (h : H) (O' : Nat → Tag) (h' : H) : Prop where
  keep : Keep (fun c => O c ≠ .other) h h'
  same : ∀ c, c < h.next → O c = .other → O' c = .other
theorem Fr.refl (O : Nat → Tag) (h : H) : Fr O h O h := ⟨.refl _ _, fun _ _ h => h⟩
theorem Fr.trans {O O1 O2 : Nat → Tag} {h h1 h2 : H} (a : Fr O h O1 h1) (b : Fr O1 h1 O2 h2) : Fr O h O2 h2 :=
  ⟨a.keep.trans b.keep fun c hc hn ho => hn (a.same c hc ho), fun c hc ho => b.same c (Nat.lt_of_lt_of_le hc a.keep.next) (a.same c hc ho)⟩
theorem Fr.of0 {O : Nat → Tag} {h h' : H} (k : Keep nobody h h') : Fr O h O h' := ⟨k.mono fun _ _ h => h.elim, fun _ _ h => h⟩
/-- a block that is nobody's stays -/
theorem Fr.has {O O' : Nat → Tag} {h h' : H} (a : Fr O h O' h') {b : Nat} {x : AObj} (hb : Has h b x) (ho : O b = .other) : Has h' b x := hb.keep a.keep fun hn => hn ho

theorem Tab.keep0 {O : Nat → Tag} {h h' : H} {b : Nat} {now old : List (List Ent)} {n1 n2 at_ mv : Int} {v1 v2 : Value} (a : Tab O h b now old n1 n2 at_ mv v1 v2) (k : Keep nobody h h') : Tab O h' b now old n1 n2 at_ mv v1 v2 :=
  ⟨a.hb.keep0 k, a.ob, a.now.keep0 k, a.old.keep0 k, fun c hc => a.far c (Nat.le_trans k.next hc)⟩
theorem Tab.put {O : Nat → Tag} {h : H} {b : Nat} {now old : List (List Ent)} {n1 n2 at_ mv m1 m2 at2 mv2 : Int} {v1 v2 : Value} (a : Tab O h b now old n1 n2 at_ mv v1 v2) : Tab O (h.put b (.rw (tcells v1 m1 v2 m2 at2 mv2))) b now old m1 m2 at2 mv2 v1 v2 := by
  have kp := Keep.put h b (.rw (tcells v1 m1 v2 m2 at2 mv2))
  have hn : ∀ (s : Bool) (c : Nat), c < h.next → (O c = .base s ∨ ∃ i, O c = .row s i) → ¬ c = b ∧ O c = O c := fun s c _ ho => ⟨(fun e => by
    rw [e, a.ob] at ho
    rcases ho with ho | ⟨_, ho⟩ <;> cases ho), rfl⟩
  exact ⟨Has.put a.hb.1, a.ob, a.now.keep kp (hn false), a.old.keep kp (hn true), fun c hc => a.far c hc⟩
theorem Tab.frput {O : Nat → Tag} {h : H} {b : Nat} {now old : List (List Ent)} {n1 n2 at_ mv : Int} {v1 v2 : Value} (a : Tab O h b now old n1 n2 at_ mv v1 v2) (x : AObj) : Fr O h O (h.put b x) :=
  ⟨(Keep.put h b x).mono fun c _ e => (by rw [e, a.ob]; decide), fun _ _ h => h⟩
section
variable {h : H} {b : Nat} {v1 v2 : Value} {n1 n2 at_ mv : Int}
theorem tld (a : Has h b (.rw (tcells v1 n1 v2 n2 at_ mv))) (o : Nat) (s) : loadOne h (.pointer (some ⟨b, o, s⟩)) = [v1, .int .i64 n1, v2, .int .i64 n2, .int .i64 at_, .int .i64 mv, .bool true][o]? := loadOne_has a rfl
theorem tst1 (a : Has h b (.rw (tcells v1 n1 v2 n2 at_ mv))) (x : Int) (s) : storeV 1 h (.pointer (some ⟨b, 1, s⟩)) (.int .i64 x) = some (h.put b (.rw (tcells v1 x v2 n2 at_ mv))) := store_int a (by simp [tcells])
theorem tst3 (a : Has h b (.rw (tcells v1 n1 v2 n2 at_ mv))) (x : Int) (s) : storeV 1 h (.pointer (some ⟨b, 3, s⟩)) (.int .i64 x) = some (h.put b (.rw (tcells v1 n1 v2 x at_ mv))) := store_int a (by simp [tcells])
theorem tst4 (a : Has h b (.rw (tcells v1 n1 v2 n2 at_ mv))) (x : Int) (s) : storeV 1 h (.pointer (some ⟨b, 4, s⟩)) (.int .i64 x) = some (h.put b (.rw (tcells v1 n1 v2 n2 x mv))) := store_int a (by simp [tcells])
theorem tst5 (a : Has h b (.rw (tcells v1 n1 v2 n2 at_ mv))) (x : Int) (s) : storeV 1 h (.pointer (some ⟨b, 5, s⟩)) (.int .i64 x) = some (h.put b (.rw (tcells v1 n1 v2 n2 at_ x))) := store_int a (by simp [tcells])
theorem tst_old (a : Has h b (.rw (tcells v1 n1 v2 n2 at_ mv))) (p : Option Addr) (q c : Nat) (x : Int) (s) : storeV 2 h (.pointer (some ⟨b, 2, s⟩)) (.agg [.slice p q c, .int .i64 x].toArray) = some (h.put b (.rw (tcells v1 n1 (.slice p q c) x at_ mv))) := by
  unfold storeV
  show (match Nat.beq 2 2 with | true => h.write b 2 [.slice p q c, .int .i64 x] | false => none) = _
  simp only [Nat.beq_refl, H.write, a.2]
  rfl
theorem tst_now (a : Has h b (.rw (tcells v1 n1 v2 n2 at_ mv))) (p : Option Addr) (q c : Nat) (x : Int) (s) : storeV 2 h (.pointer (some ⟨b, 0, s⟩)) (.agg [.slice p q c, .int .i64 x].toArray) = some (h.put b (.rw (tcells (.slice p q c) x v2 n2 at_ mv))) := by
  unfold storeV
  show (match Nat.beq 2 2 with | true => h.write b 0 [.slice p q c, .int .i64 x] | false => none) = _
  simp only [Nat.beq_refl, H.write, a.2]
  rfl
theorem tla_now (a : Has h b (.rw (tcells v1 n1 v2 n2 at_ mv))) (s) : loadAgg 2 h (.pointer (some ⟨b, 0, s⟩)) = some (.agg [v1, .int .i64 n1].toArray) := loadAgg_has a rfl (by simp [tcells])
end
theorem RowsAt.form {O : Nat → Tag} {h : H} {s : Bool} {v : Value} {rs : List (List Ent)} (a : RowsAt O h s v rs) : ∃ p q c, v = .slice p q c := by
  rcases a with ⟨rfl, _⟩ | ⟨B, vs, rfl, _⟩ <;> exact ⟨_, _, _, rfl⟩

/-! ### turn -/
def rel : Tag → Tag
  | .tab => .tab
  | .base false => .base true
  | .row false i => .row true i
  | _ => .other
theorem RowsAt.turn {S : Nat → Prop} {O O' : Nat → Tag} {h h' : H} {v : Value} {rs : List (List Ent)} (a : RowsAt O h false v rs) (k : Keep S h h') (hs : ∀ c, c < h.next → (O c = .base false ∨ ∃ i, O c = .row false i) → ¬ S c) (ho : ∀ c, c < h.next → O' c = rel (O c)) : RowsAt O' h' true v rs := by
  rcases a with a | ⟨B, vs, e, ⟨hb, ob, len, own⟩, q⟩
  · exact .inl a
  · refine .inr ⟨B, vs, e, ⟨hb.keep k (hs B hb.1 (.inl ob)), by rw [ho B hb.1, ob]; rfl, len, fun i v es h1 h2 => ?_⟩, q⟩
    rcases own i v es h1 h2 with a | ⟨c, cap, cs, e, oc, hc, m, l, t, o⟩
    · exact .inl a
    · exact .inr ⟨c, cap, cs, e, oc, hc.keep k (hs c hc.1 (.inr ⟨i, o⟩)), m, l, t, by rw [ho c hc.1, o]; rfl⟩
theorem repl_len {α : Type} (z : α) : ∀ n, (repl [z] n).length = n
  | 0 => rfl
  | n + 1 => by simp [repl, repl_len z n]
theorem repl_at {α : Type} (z : α) : ∀ (n i : Nat) (x : α), (repl [z] n)[i]? = some x → x = z
  | 0, i, x, h => by simp [repl] at h
  | n + 1, 0, x, h => by simpa [repl, eq_comm] using h
  | n + 1, i + 1, x, h => repl_at z n i x (by simpa [repl] using h)
theorem new_rows {O : Nat → Tag} {h : H} {B n : Nat} (hb : Has h B (.rw (repl [.slice none 0 0] n))) (ob : O B = .base false) : RowsP O h false B (repl [.slice none 0 0] n) (List.replicate n []) :=
  ⟨hb, ob, by rw [repl_len, List.length_replicate], fun i v es h1 h2 => .inl ⟨repl_at _ _ _ _ h1, by
    have := List.mem_of_getElem? h2
    exact List.eq_of_mem_replicate this⟩⟩

theorem turn_law (L n : Nat) {O : Nat → Tag} {h : H} {b : Nat} {now old : List (List Ent)} {n1 n2 at_ mv : Int} {v1 v2 : Value} (a : Tab O h b now old n1 n2 at_ mv v1 v2) (m : Nat) (hm : 0 < m) (hm2 : m ≤ 1000000) :
    Sp (CF L (n + 1)) 34 [.pointer (some ⟨b, 0, none⟩), .int .i64 (m : Int)] h fun r h' => ∃ O' w1, Tab O' h' b (List.replicate m []) now 0 n1 at_ mv w1 v1 ∧ Fr O h O' h' := by
  refine Sp.body f34 (by simp) ?_
  unfold c34
  intro K hK
  have kr := keep_room h 15
  have a1 := a.keep0 kr
  obtain ⟨p, q, c, rfl⟩ := a.now.form
  have mk : mkSlice [(.slice none 0 0)] 24 (h.next + 7) (.int .i64 (m : Int)) (.int .i64 (m : Int)) = some (.rw (repl [.slice none 0 0] m), .slice (some ⟨h.next + 7, 0, none⟩) m m) := by
    simp only [mkSlice, asNat_nat]
    rw [Nat.ble_eq_true_of_le (Nat.le_refl m), Nat.ble_eq_true_of_le (show 24 * m ≤ 281474976710656 by omega), Nat.ble_eq_true_of_le (show m ≤ 9223372036854775807 by omega)]
    rfl
  have agg : aggO (fill [(.slice none 0 0), (.int .i64 (0))] (plc [(0, 1), (1, 1)]) [(0, .slice (some ⟨h.next + 7, 0, none⟩) m m)]) = some (.agg [.slice (some ⟨h.next + 7, 0, none⟩) m m, .int .i64 0].toArray) := rfl
  have hbn : b < h.next := a.hb.1
  have st1 := tst_old a1.hb p q c n1 none
  have hB1 : Has (((⟨h.objs, h.next + 15⟩ : H).put b (.rw (tcells (.slice p q c) n1 (.slice p q c) n1 at_ mv))).put (h.next + 7) (.rw (repl [.slice none 0 0] m))) b (.rw (tcells (.slice p q c) n1 (.slice p q c) n1 at_ mv)) :=
    (Has.put (h := (⟨h.objs, h.next + 15⟩ : H)) (by show b < h.next + 15; omega)).keep (Keep.put _ (h.next + 7) _) (by omega)
  have st2 := tst_now hB1 (some ⟨h.next + 7, 0, none⟩) m m 0 none
  simp only [↓opStep_eq, ↓reduceIte, tg_set, toTm_cons, toTm_nil, fieldPtr_ptr, Nat.add_zero, Nat.zero_add, Nat.reduceAdd, Nat.reduceEqDiff, Int.reduceEq, Int.reduceLT, Int.reduceLE, Int.reduceNe, ↓kO_some, ↓kA_some, ↓kH_some, kO_some, kA_some, kH_some, gd_true, gd_false, nthD_zero, nthD_succ, isB_true, isB_false, isB_undef, pickV_true, pickV_false, binV_add, binV_sub, binV_mul, binV_eql, binV_neq, binV_lss, binV_leq, binV_gtr, binV_geq, unV_not, nt, nf, Bool.false_eq_true, dt, df, decide_true, decide_false, withV_some, aggO_some, ptrTo_eq, ↓aO_some, aO_some, ↓andB_true, andB_true, gz, gs, seqC, retC, skipC, exitC, blockC, condC, cells_agg, r34_0, nilChk_some, tla_now a1.hb, mk, agg, st1, st2]
  have hbase : Has (((⟨h.objs, h.next + 15⟩ : H).put b (.rw (tcells (.slice p q c) n1 (.slice p q c) n1 at_ mv))).put (h.next + 7) (.rw (repl [.slice none 0 0] m))) (h.next + 7) (.rw (repl [.slice none 0 0] m)) := Has.put (by show _ < h.next + 15; omega)
  generalize hz : ((⟨h.objs, h.next + 15⟩ : H).put b (.rw (tcells (.slice p q c) n1 (.slice p q c) n1 at_ mv))).put (h.next + 7) (.rw (repl [.slice none 0 0] m)) = h2 at *
  have hnx : h2.next = h.next + 15 := by rw [← hz]; rfl
  have kall : Keep (fun c => c = b) h (h2.put b (.rw (tcells (.slice (some ⟨h.next + 7, 0, none⟩) m m) 0 (.slice p q c) n1 at_ mv))) := by
    refine ⟨by show h.next ≤ h2.next; omega, fun d hd hn => ?_⟩
    rw [← hz]
    rw [(Keep.put _ b _).same d (by show d < h.next + 15; omega) hn, (Keep.put _ (h.next + 7) _).same d (by show d < h.next + 15; omega) (by omega), (Keep.put _ b _).same d (by show d < h.next + 15; omega) hn]
  refine hK _ _ _ ⟨.inl rfl, _, rfl, upd (fun c => rel (O c)) (h.next + 7) (.base false), _, ⟨Has.put hB1.1, ?_, ?_, ?_, fun d hd => ?_⟩, ⟨kall.mono fun d _ e => (by rw [e, a.ob]; decide), fun d hd ho => ?_⟩⟩
  · rw [upd_ne _ _ _ (by omega), a.ob]; rfl
  · refine .inr ⟨h.next + 7, repl [.slice none 0 0] m, by rw [List.length_replicate], new_rows (hbase.keep (Keep.put _ b _) (by omega)) (upd_same _ _ _), by rw [List.length_replicate]; exact hm, by rw [List.length_replicate]; exact hm2⟩
  · refine a.now.turn kall (fun c hc ho e => ?_) fun c hc => upd_ne _ _ _ (by omega)
    rw [e, a.ob] at ho
    rcases ho with ho | ⟨_, ho⟩ <;> cases ho
  · have hd' : h2.next ≤ d := hd
    rw [upd_ne _ _ _ (by omega), a.far d (by omega)]; rfl
  · rw [upd_ne _ _ _ (by omega), ho]; rfl
end Go.Proofs.YtbdmhdidehfmoaaDoor
