import Derived.Test.YtbdmhdidehfmoaaDoorTbF
set_option linter.unusedSimpArgs false
set_option linter.unusedVariables false
namespace Go.Proofs.YtbdmhdidehfmoaaDoor
open Go.Ev

/-! ### rows as one list -/
theorem flat_set {rs : List (List Ent)} {i : Nat} {es es' : List Ent} {e : Ent} (h : rs[i]? = some es) (p : es.Perm (e :: es')) : rs.flatten.Perm (e :: (rs.set i es').flatten) := by
  have hi := (List.getElem?_eq_some_iff.1 h).1
  have he : rs[i] = es := (List.getElem?_eq_some_iff.1 h).2
  have e1 : rs = rs.take i ++ es :: rs.drop (i + 1) := by
    conv => lhs; rw [← List.take_append_drop i rs]
    rw [List.drop_eq_getElem_cons hi, he]
  have e2 : rs.set i es' = rs.take i ++ es' :: rs.drop (i + 1) := by
    rw [List.set_eq_take_append_cons_drop, if_pos hi]
  rw [e2]
  conv => lhs; rw [e1]
  simp only [List.flatten_append, List.flatten_cons]
  have h1 : ((rs.take i).flatten ++ (es ++ (rs.drop (i + 1)).flatten)).Perm ((rs.take i).flatten ++ (e :: es' ++ (rs.drop (i + 1)).flatten)) := List.Perm.append_left _ (List.Perm.append_right _ p)
  exact h1.trans (by rw [List.cons_append]; exact List.perm_middle)
theorem flat_add {rs : List (List Ent)} {i : Nat} {es : List Ent} (e : Ent) (h : rs[i]? = some es) : (rs.set i (es ++ [e])).flatten.Perm (e :: rs.flatten) := by
  have hi := (List.getElem?_eq_some_iff.1 h).1
  have he : rs[i] = es := (List.getElem?_eq_some_iff.1 h).2
  have h1 := flat_set (rs := rs.set i (es ++ [e])) (i := i) (es := es ++ [e]) (es' := es) (e := e) (List.getElem?_set_self hi) (List.perm_append_comm (l₁ := es) (l₂ := [e]))
  rw [List.set_set, ← he, List.set_getElem_self] at h1
  rw [← he]; exact h1
theorem flat_mem {rs : List (List Ent)} {i : Nat} {es : List Ent} (h : rs[i]? = some es) {e : Ent} (he : e ∈ es) : e ∈ rs.flatten := List.mem_flatten.2 ⟨es, List.mem_of_getElem? h, he⟩
theorem row_le {rs : List (List Ent)} {i : Nat} {es : List Ent} (h : rs[i]? = some es) : es.length ≤ rs.flatten.length := by
  have h1 := List.mem_of_getElem? h
  exact (List.sublist_flatten_of_mem h1).length_le
theorem flat_nil {rs : List (List Ent)} (h : ∀ (i : Nat) es, rs[i]? = some es → es = []) : rs.flatten = [] := by
  apply List.flatten_eq_nil_iff.2
  intro l hl
  obtain ⟨i, hi⟩ := List.getElem?_of_mem hl
  exact h i l hi

/-! ### the table in memory -/
def tcells (v1 : Value) (n1 : Int) (v2 : Value) (n2 at_ mv : Int) : List Value := [v1, .int .i64 n1, v2, .int .i64 n2, .int .i64 at_, .int .i64 mv, .bool true]

structure Tab (O : Nat → Tag) (h : H) (b : Nat) (now old : List (List Ent)) (n1 n2 at_ mv : Int) (v1 v2 : Value) : Prop where
  hb : Has h b (.rw (tcells v1 n1 v2 n2 at_ mv))
  ob : O b = .tab
  now : RowsAt O h false v1 now
  old : RowsAt O h true v2 old
  far : ∀ c, h.next ≤ c → O c = .other

structure Fr (O : Nat → Tag) (h : H) (O' : Nat → Tag) (h' : H) : Prop where
  keep : Keep (fun c => O c ≠ .other) h h'
  same : ∀ c, c < h.next → O c = .other → O' c = .other
theorem Fr.refl (O : Nat → Tag) (h : H) : Fr O h O h := ⟨.refl _ _, fun _ _ h => h⟩
theorem Fr.trans {O O1 O2 : Nat → Tag} {h h1 h2 : H} (a : Fr O h O1 h1) (b : Fr O1 h1 O2 h2) : Fr O h O2 h2 :=
  ⟨a.keep.trans b.keep fun c hc hn ho => hn (a.same c hc ho), fun c hc ho => b.same c (Nat.lt_of_lt_of_le hc a.keep.next) (a.same c hc ho)⟩
theorem Fr.of0 {O : Nat → Tag} {h h' : H} (k : Keep nobody h h') : Fr O h O h' := ⟨k.mono fun _ _ h => h.elim, fun _ _ h => h⟩
/-- a block that is nobody's stays -/
theorem Fr.has {O O' : Nat → Tag} {h h' : H} (a : Fr O h O' h') {b : Nat} {x : AObj} (hb : Has h b x) (ho : O b = .other) : Has h' b x := hb.keep a.keep fun hn => hn ho

theorem Tab.keep0 {O : Nat → Tag} {h h' : H} {b : Nat} {now old : List (List Ent)} {n1 n2 at_ mv : Int} {v1 v2 : Value} (a : Tab O h b now old n1 n2 at_ mv v1 v2) (k : Keep nobody h h') : Tab O h' b now old n1 n2 at_ mv v1 v2 :=
  ⟨a.hb.keep0 k, a.ob, a.now.keep0 k, a.old.keep0 k, fun c hc => a.far c (Nat.le_trans k.next hc)⟩
theorem Tab.put {O : Nat → Tag} {h : H} {b : Nat} {now old : List (List Ent)} {n1 n2 at_ mv m1 m2 at2 mv2 : Int} {v1 v2 : Value} (a : Tab O h b now old n1 n2 at_ mv v1 v2) : Tab O (h.put b (.rw (tcells v1 m1 v2 m2 at2 mv2))) b now old m1 m2 at2 mv2 v1 v2 := by
  have kp := Keep.put h b (.rw (tcells v1 m1 v2 m2 at2 mv2))
  have hn : ∀ (s : Bool) (c : Nat), c < h.next → (O c = .base s ∨ ∃ i, O c = .row s i) → ¬ c = b ∧ O c = O c := fun s c _ ho => ⟨(fun e => by
    rw [e, a.ob] at ho
    rcases ho with ho | ⟨_, ho⟩ <;> cases ho), rfl⟩
  exact ⟨Has.put a.hb.1, a.ob, a.now.keep kp (hn false), a.old.keep kp (hn true), fun c hc => a.far c hc⟩
theorem Tab.frput {O : Nat → Tag} {h : H} {b : Nat} {now old : List (List Ent)} {n1 n2 at_ mv : Int} {v1 v2 : Value} (a : Tab O h b now old n1 n2 at_ mv v1 v2) (x : AObj) : Fr O h O (h.put b x) :=
  ⟨(Keep.put h b x).mono fun c _ e => (by rw [e, a.ob]; decide), fun _ _ h => h⟩
section
variable {h : H} {b : Nat} {v1 v2 : Value} {n1 n2 at_ mv : Int}
theorem tld (a : Has h b (.rw (tcells v1 n1 v2 n2 at_ mv))) (o : Nat) (s) : loadOne h (.pointer (some ⟨b, o, s⟩)) = [v1, .int .i64 n1, v2, .int .i64 n2, .int .i64 at_, .int .i64 mv, .bool true][o]? := loadOne_has a rfl
theorem tst3 (a : Has h b (.rw (tcells v1 n1 v2 n2 at_ mv))) (x : Int) (s) : storeV 1 h (.pointer (some ⟨b, 3, s⟩)) (.int .i64 x) = some (h.put b (.rw (tcells v1 n1 v2 x at_ mv))) := store_int a (by simp [tcells])
theorem tst4 (a : Has h b (.rw (tcells v1 n1 v2 n2 at_ mv))) (x : Int) (s) : storeV 1 h (.pointer (some ⟨b, 4, s⟩)) (.int .i64 x) = some (h.put b (.rw (tcells v1 n1 v2 n2 x mv))) := store_int a (by simp [tcells])
theorem tst5 (a : Has h b (.rw (tcells v1 n1 v2 n2 at_ mv))) (x : Int) (s) : storeV 1 h (.pointer (some ⟨b, 5, s⟩)) (.int .i64 x) = some (h.put b (.rw (tcells v1 n1 v2 n2 at_ x))) := store_int a (by simp [tcells])
theorem tst_old (a : Has h b (.rw (tcells v1 n1 v2 n2 at_ mv))) (p : Option Addr) (q c : Nat) (x : Int) (s) : storeV 2 h (.pointer (some ⟨b, 2, s⟩)) (.agg [.slice p q c, .int .i64 x].toArray) = some (h.put b (.rw (tcells v1 n1 (.slice p q c) x at_ mv))) := by
  unfold storeV
  show (match Nat.beq 2 2 with | true => h.write b 2 [.slice p q c, .int .i64 x] | false => none) = _
  simp only [Nat.beq_refl, H.write, a.2]
  rfl
theorem tst_now (a : Has h b (.rw (tcells v1 n1 v2 n2 at_ mv))) (p : Option Addr) (q c : Nat) (x : Int) (s) : storeV 2 h (.pointer (some ⟨b, 0, s⟩)) (.agg [.slice p q c, .int .i64 x].toArray) = some (h.put b (.rw (tcells (.slice p q c) x v2 n2 at_ mv))) := by
  unfold storeV
  show (match Nat.beq 2 2 with | true => h.write b 0 [.slice p q c, .int .i64 x] | false => none) = _
  simp only [Nat.beq_refl, H.write, a.2]
  rfl
theorem tla_now (a : Has h b (.rw (tcells v1 n1 v2 n2 at_ mv))) (s) : loadAgg 2 h (.pointer (some ⟨b, 0, s⟩)) = some (.agg [v1, .int .i64 n1].toArray) := loadAgg_has a rfl (by simp [tcells])
end
theorem RowsAt.form {O : Nat → Tag} {h : H} {s : Bool} {v : Value} {rs : List (List Ent)} (a : RowsAt O h s v rs) : ∃ p q c, v = .slice p q c := by
  rcases a with ⟨rfl, _⟩ | ⟨B, vs, rfl, _⟩ <;> exact ⟨_, _, _, rfl⟩

/-! ### turn -/
def rel : Tag → Tag
  | .tab => .tab
  | .base false => .base true
  | .row false i => .row true i
  | _ => .other
theorem RowsAt.turn {S : Nat → Prop} {O O' : Nat → Tag} {h h' : H} {v : Value} {rs : List (List Ent)} (a : RowsAt O h false v rs) (k : Keep S h h') (hs : ∀ c, c < h.next → (O c = .base false ∨ ∃ i, O c = .row false i) → ¬ S c) (ho : ∀ c, c < h.next → O' c = rel (O c)) : RowsAt O' h' true v rs := by
  rcases a with a | ⟨B, vs, e, ⟨hb, ob, len, own⟩, q⟩
  · exact .inl a
  · refine .inr ⟨B, vs, e, ⟨hb.keep k (hs B hb.1 (.inl ob)), by rw [ho B hb.1, ob]; rfl, len, fun i v es h1 h2 => ?_⟩, q⟩
    rcases own i v es h1 h2 with a | ⟨c, cap, cs, e, oc, hc, m, l, t, o⟩
    · exact .inl a
    · exact .inr ⟨c, cap, cs, e, oc, hc.keep k (hs c hc.1 (.inr ⟨i, o⟩)), m, l, t, by rw [ho c hc.1, o]; rfl⟩
theorem repl_len {α : Type} (z : α) : ∀ n, (repl [z] n).length = n
  | 0 => rfl
  | n + 1 => by simp [repl, repl_len z n]
theorem repl_at {α : Type} (z : α) : ∀ (n i : Nat) (x : α), (repl [z] n)[i]? = some x → x = z
  | 0, i, x, h => by simp [repl] at h
  | n + 1, 0, x, h => by simpa [repl, eq_comm] using h
  | n + 1, i + 1, x, h => repl_at z n i x (by simpa [repl] using h)
theorem new_rows {O : Nat → Tag} {h : H} {B n : Nat} (hb : Has h B (.rw (repl [.slice none 0 0] n))) (ob : O B = .base false) : RowsP O h false B (repl [.slice none 0 0] n) (List.replicate n []) :=
  ⟨hb, ob, by rw [repl_len, List.length_replicate], fun i v es h1 h2 => .inl ⟨repl_at _ _ _ _ h1, by
    have := List.mem_of_getElem? h2
    exact List.eq_of_mem_replicate this⟩⟩

theorem turn_law (L n : Nat) {O : Nat → Tag} {h : H} {b : Nat} {now old : List (List Ent)} {n1 n2 at_ mv : Int} {v1 v2 : Value} (a : Tab O h b now old n1 n2 at_ mv v1 v2) (m : Nat) (hm : 0 < m) (hm2 : m ≤ 1000000) :
    Sp (CF L (n + 1)) 34 [.pointer (some ⟨b, 0, none⟩), .int .i64 (m : Int)] h fun r h' => ∃ O' w1, Tab O' h' b (List.replicate m []) now 0 n1 at_ mv w1 v1 ∧ Fr O h O' h' := by
  refine Sp.body f34 (by simp) ?_
  unfold c34
  intro K hK
  have kr := keep_room h 15
  have a1 := a.keep0 kr
  obtain ⟨p, q, c, rfl⟩ := a.now.form
  have mk : mkSlice [(.slice none 0 0)] 24 (h.next + 7) (.int .i64 (m : Int)) (.int .i64 (m : Int)) = some (.rw (repl [.slice none 0 0] m), .slice (some ⟨h.next + 7, 0, none⟩) m m) := by
    simp only [mkSlice, asNat_nat]
    rw [Nat.ble_eq_true_of_le (Nat.le_refl m), Nat.ble_eq_true_of_le (show 24 * m ≤ 281474976710656 by omega), Nat.ble_eq_true_of_le (show m ≤ 9223372036854775807 by omega)]
    rfl
  have agg : aggO (fill [(.slice none 0 0), (.int .i64 (0))] (plc [(0, 1), (1, 1)]) [(0, .slice (some ⟨h.next + 7, 0, none⟩) m m)]) = some (.agg [.slice (some ⟨h.next + 7, 0, none⟩) m m, .int .i64 0].toArray) := rfl
  have hbn : b < h.next := a.hb.1
  have st1 := tst_old a1.hb p q c n1 none
  have hB1 : Has (((⟨h.objs, h.next + 15⟩ : H).put b (.rw (tcells (.slice p q c) n1 (.slice p q c) n1 at_ mv))).put (h.next + 7) (.rw (repl [.slice none 0 0] m))) b (.rw (tcells (.slice p q c) n1 (.slice p q c) n1 at_ mv)) :=
    (Has.put (h := (⟨h.objs, h.next + 15⟩ : H)) (by show b < h.next + 15; omega)).keep (Keep.put _ (h.next + 7) _) (by omega)
  have st2 := tst_now hB1 (some ⟨h.next + 7, 0, none⟩) m m 0 none
  simp only [↓opStep_eq, ↓reduceIte, ↓EW, EV, Nat.reduceAdd, Nat.reduceEqDiff, Int.reduceEq, Int.reduceLT, Int.reduceLE, Int.reduceNe, seqC, retC, skipC, exitC, blockC, condC, r34_0, nilChk_some, tla_now a1.hb, mk, agg, st1, st2]
  have hbase : Has (((⟨h.objs, h.next + 15⟩ : H).put b (.rw (tcells (.slice p q c) n1 (.slice p q c) n1 at_ mv))).put (h.next + 7) (.rw (repl [.slice none 0 0] m))) (h.next + 7) (.rw (repl [.slice none 0 0] m)) := Has.put (by show _ < h.next + 15; omega)
  generalize hz : ((⟨h.objs, h.next + 15⟩ : H).put b (.rw (tcells (.slice p q c) n1 (.slice p q c) n1 at_ mv))).put (h.next + 7) (.rw (repl [.slice none 0 0] m)) = h2 at *
  have hnx : h2.next = h.next + 15 := by rw [← hz]; rfl
  have kall : Keep (fun c => c = b) h (h2.put b (.rw (tcells (.slice (some ⟨h.next + 7, 0, none⟩) m m) 0 (.slice p q c) n1 at_ mv))) := by
    refine ⟨by show h.next ≤ h2.next; omega, fun d hd hn => ?_⟩
    rw [← hz]
    rw [(Keep.put _ b _).same d (by show d < h.next + 15; omega) hn, (Keep.put _ (h.next + 7) _).same d (by show d < h.next + 15; omega) (by omega), (Keep.put _ b _).same d (by show d < h.next + 15; omega) hn]
  refine hK _ _ _ ⟨.inl rfl, _, rfl, upd (fun c => rel (O c)) (h.next + 7) (.base false), _, ⟨Has.put hB1.1, ?_, ?_, ?_, fun d hd => ?_⟩, ⟨kall.mono fun d _ e => (by rw [e, a.ob]; decide), fun d hd ho => ?_⟩⟩
  · rw [upd_ne _ _ _ (by omega), a.ob]; rfl
  · refine .inr ⟨h.next + 7, repl [.slice none 0 0] m, by rw [List.length_replicate], new_rows (hbase.keep (Keep.put _ b _) (by omega)) (upd_same _ _ _), by rw [List.length_replicate]; exact hm, by rw [List.length_replicate]; exact hm2⟩
  · refine a.now.turn kall (fun c hc ho e => ?_) fun c hc => upd_ne _ _ _ (by omega)
    rw [e, a.ob] at ho
    rcases ho with ho | ⟨_, ho⟩ <;> cases ho
  · have hd' : h2.next ≤ d := hd
    rw [upd_ne _ _ _ (by omega), a.far d (by omega)]; rfl
  · rw [upd_ne _ _ _ (by omega), ho]; rfl
end Go.Proofs.YtbdmhdidehfmoaaDoor

namespace Go.Proofs.YtbdmhdidehfmoaaDoor
open Go.Ev

abbrev Ent.key (e : Ent) : Int × ByteArray := (e.t, e.k)
structure Good (N : Nat) (now old : List (List Ent)) (a : Nat) : Prop where
  hn : ∀ (i : Nat) es, now[i]? = some es → ∀ e ∈ es, idx e.t e.k now.length = i ∧ e.k.size ≤ 32
  ho : ∀ (i : Nat) es, old[i]? = some es → ∀ e ∈ es, idx e.t e.k old.length = i ∧ e.k.size ≤ 32
  at_ : ∀ (i : Nat) es, i < a → old[i]? = some es → es = []
  pos : 0 < now.length
  len : now.length ≤ N + 4
  olen : old.length ≤ N + 4
  uniq : ((now.flatten ++ old.flatten).map Ent.key).Nodup
  cnt : now.flatten.length + old.flatten.length ≤ N

/-- an old entry goes over -/
theorem Good.move {N : Nat} {now old : List (List Ent)} {a : Nat} (g : Good N now old a) {es fs : List Ent} {e : Ent} (h1 : old[a]? = some (es ++ [e])) (h2 : now[idx e.t e.k now.length]? = some fs) :
    Good N (now.set (idx e.t e.k now.length) (fs ++ [e])) (old.set a es) a ∧ ((now.set (idx e.t e.k now.length) (fs ++ [e])).flatten ++ (old.set a es).flatten).Perm (now.flatten ++ old.flatten) ∧ (now.set (idx e.t e.k now.length) (fs ++ [e])).flatten.length = now.flatten.length + 1 ∧ old.flatten.length = (old.set a es).flatten.length + 1 := by
  have p1 := flat_add e h2
  have p2 := flat_set (es' := es) (e := e) h1 (List.perm_append_comm (l₁ := es) (l₂ := [e]))
  have p : ((now.set (idx e.t e.k now.length) (fs ++ [e])).flatten ++ (old.set a es).flatten).Perm (now.flatten ++ old.flatten) := by
    refine (p1.append_right _).trans ?_
    rw [List.cons_append]
    exact List.perm_middle.symm.trans (p2.symm.append_left _)
  have l1 := p1.length_eq
  have l2 := p2.length_eq
  simp only [List.length_cons] at l1 l2
  have hlt := (List.getElem?_eq_some_iff.1 h2).1
  have hla := (List.getElem?_eq_some_iff.1 h1).1
  refine ⟨⟨fun i es' h e' he' => ?_, fun i es' h e' he' => ?_, fun i es' hi h => ?_, by rw [List.length_set]; exact g.pos, by rw [List.length_set]; exact g.len, by rw [List.length_set]; exact g.olen, (p.map _).nodup_iff.2 g.uniq, ?_⟩, p, l1, l2⟩
  · rw [List.length_set]
    by_cases hi : idx e.t e.k now.length = i
    · rw [← hi, List.getElem?_set_self hlt] at h
      cases h
      rw [List.mem_append, List.mem_singleton] at he'
      rcases he' with he' | rfl
      · rw [← hi]; exact g.hn _ _ h2 _ he'
      · exact ⟨hi, (g.ho _ _ h1 _ (by simp)).2⟩
    · rw [List.getElem?_set_ne hi] at h
      exact g.hn _ _ h _ he'
  · rw [List.length_set]
    by_cases hi : a = i
    · subst hi
      rw [List.getElem?_set_self hla] at h
      cases h
      exact g.ho _ _ h1 _ (by simp [he'])
    · rw [List.getElem?_set_ne hi] at h
      exact g.ho _ _ h _ he'
  · rw [List.getElem?_set_ne (by omega)] at h
    exact g.at_ _ _ hi h
  · have := g.cnt; omega
theorem Good.next {N : Nat} {now old : List (List Ent)} {a : Nat} (g : Good N now old a) (h : old[a]? = some []) : Good N now old (a + 1) := by
  refine { g with at_ := fun i es hi he => ?_ }
  by_cases e : i = a
  · rw [e, h] at he; cases he; rfl
  · exact g.at_ i es (by omega) he
theorem Good.found {N : Nat} {now old : List (List Ent)} {a : Nat} (g : Good N now old a) (h : 0 < old.flatten.length) : a < old.length := by
  by_cases hl : a < old.length
  · exact hl
  · exfalso
    have : old.flatten = [] := flat_nil fun i es he => g.at_ i es (by have := (List.getElem?_eq_some_iff.1 he).1; omega) he
    rw [this] at h; simp at h
theorem Good.clear {N : Nat} {now old : List (List Ent)} {a : Nat} (g : Good N now old a) (h : old.flatten = []) : Good N now [] 0 := by
  have hu := g.uniq
  have hc := g.cnt
  rw [h, List.append_nil] at hu
  refine { g with ho := fun i es he => by simp at he, at_ := fun i es hi => by omega, olen := Nat.zero_le _, uniq := ?_, cnt := ?_ }
  · rw [List.flatten_nil, List.append_nil]; exact hu
  · rw [List.flatten_nil, List.length_nil]; omega
theorem Good.turn {N : Nat} {now : List (List Ent)} (g : Good N now [] 0) {m : Nat} (hm : 0 < m) (hm2 : m ≤ N + 4) : Good N (List.replicate m []) now 0 where
  hn := fun i es he e hee => by
    have := List.eq_of_mem_replicate (List.mem_of_getElem? he)
    subst this; simp at hee
  ho := g.hn
  at_ := fun i es hi => by omega
  pos := by rw [List.length_replicate]; exact hm
  len := by rw [List.length_replicate]; exact hm2
  olen := g.len
  uniq := by
    have : (List.replicate m ([] : List Ent)).flatten = [] := by simp
    rw [this]; simpa using g.uniq
  cnt := by
    have : (List.replicate m ([] : List Ent)).flatten = [] := by simp
    rw [this]; have := g.cnt; simp at this ⊢; exact this

theorem Tab.rows_old {O : Nat → Tag} {h : H} {b : Nat} {now old : List (List Ent)} {n1 n2 at_ mv : Int} {v1 v2 : Value} (a : Tab O h b now old n1 n2 at_ mv v1 v2) {i : Nat} (hi : i < old.length) : ∃ B vs, v2 = .slice (some ⟨B, 0, none⟩) old.length old.length ∧ RowsP O h true B vs old ∧ old.length ≤ 1000000 := by
  rcases a.old with ⟨_, rfl⟩ | ⟨B, vs, e, p, q1, q2⟩
  · simp at hi
  · exact ⟨B, vs, e, p, q2⟩
theorem Tab.rows_now {O : Nat → Tag} {h : H} {b : Nat} {now old : List (List Ent)} {n1 n2 at_ mv : Int} {v1 v2 : Value} (a : Tab O h b now old n1 n2 at_ mv v1 v2) (hp : 0 < now.length) : ∃ B vs, v1 = .slice (some ⟨B, 0, none⟩) now.length now.length ∧ RowsP O h false B vs now ∧ now.length ≤ 1000000 := by
  rcases a.now with ⟨_, rfl⟩ | ⟨B, vs, e, p, q1, q2⟩
  · simp at hp
  · exact ⟨B, vs, e, p, q2⟩

/-- an old row is turned -/
theorem Tab.set_old {O : Nat → Tag} {h : H} {b : Nat} {now old : List (List Ent)} {n1 n2 at_ mv : Int} {v1 : Value} {B : Nat} {vs : List Value} (a : Tab O h b now old n1 n2 at_ mv v1 (.slice (some ⟨B, 0, none⟩) old.length old.length)) (rp : RowsP O h true B vs old) {i : Nat} {v' : Value} {es' : List Ent} (hi : i < old.length) (ow : Own O h (.row true i) v' es') (hle : old.length ≤ 1000000) :
    Tab O (h.put B (.rw (vs.set i v'))) b now (old.set i es') n1 n2 at_ mv v1 (.slice (some ⟨B, 0, none⟩) old.length old.length) ∧ Fr O h O (h.put B (.rw (vs.set i v'))) := by
  have kp := Keep.put h B (.rw (vs.set i v'))
  have hbB : b ≠ B := fun e => by have := a.ob; rw [e, rp.ob] at this; cases this
  refine ⟨⟨a.hb.keep kp hbB, a.ob, a.now.keep kp fun c _ ho => ⟨(fun e => by
    rw [e, rp.ob] at ho
    rcases ho with ho | ⟨_, ho⟩ <;> cases ho), rfl⟩, .inr ⟨B, _, by rw [List.length_set], rp.set hi (.refl nobody h) (fun _ h => h.elim) (fun _ _ => rfl) ow, by rw [List.length_set]; omega, by rw [List.length_set]; exact hle⟩, fun c hc => a.far c hc⟩, ⟨kp.mono fun c _ e => (by rw [e, rp.ob]; decide), fun _ _ h => h⟩⟩

/-- an entry is put among the new ones -/
theorem Tab.after_put {O O' : Nat → Tag} {h h' : H} {b : Nat} {now old : List (List Ent)} {n1 n2 at_ mv m : Int} {v2 : Value} {B i : Nat} {vs : List Value} {es' : List Ent} (a : Tab O h b now old n1 n2 at_ mv (.slice (some ⟨B, 0, none⟩) now.length now.length) v2) (ob : O B = .base false) (hpos : 0 < now.length) (hle : now.length ≤ 1000000)
    (q : PutQ O h false b 0 B (tcells (.slice (some ⟨B, 0, none⟩) now.length now.length) n1 v2 n2 at_ mv) vs now i es' m O' h') :
    Tab O' h' b (now.set i es') old m n2 at_ mv (.slice (some ⟨B, 0, none⟩) now.length now.length) v2 ∧ Fr O h O' h' := by
  obtain ⟨vs', rp'⟩ := q.rows
  refine ⟨⟨q.tab, (q.same b a.hb.1).trans a.ob, .inr ⟨B, vs', by rw [List.length_set], rp', by rw [List.length_set]; exact hpos, by rw [List.length_set]; exact hle⟩, a.old.keep q.keep fun c hc ho => ⟨?_, q.same c hc⟩, fun c hc => (q.far c hc).trans (a.far c (Nat.le_trans q.keep.next hc))⟩, ⟨q.keep.mono fun c _ e => ?_, fun c hc ho => (q.same c hc).trans ho⟩⟩
  · rintro (e | e | e)
    · rw [e] at ho; rcases ho with ho | ⟨_, ho⟩ <;> cases ho
    · rw [e, ob] at ho; rcases ho with ho | ⟨_, ho⟩ <;> cases ho
    · rw [e, a.ob] at ho; rcases ho with ho | ⟨_, ho⟩ <;> cases ho
  · rcases e with e | e | e
    · rw [e]; exact Tag.noConfusion
    · rw [e, ob]; decide
    · rw [e, a.ob]; decide
end Go.Proofs.YtbdmhdidehfmoaaDoor

namespace Go.Proofs.YtbdmhdidehfmoaaDoor
open Go.Ev

theorem r22_1_eq {call : CallT} {L : Nat} {tm : T Value} {h : H} {K : KE} {b : Nat} {v1 v2 : Value} {n1 n2 a mv : Int} (hb : Has h b (.rw (tcells v1 n1 v2 n2 a mv))) (t0 : tg tm 0 = .pointer (some ⟨b, 0, none⟩)) :
    r22_1 call L tm [] h K = K .norm (T.set tm 20 (.bool (decide (0 < n2 ∧ mv < 4)))) [] h := by
  by_cases h1 : 0 < n2
  · by_cases h2 : mv < 4
    · simp only [↓opStep_eq, ↓reduceIte, ↓EW, EV, Nat.reduceAdd, Nat.reduceEqDiff, Int.reduceEq, Int.reduceLT, Int.reduceLE, Int.reduceNe, seqC, retC, skipC, exitC, blockC, condC, Bool.true_or, Bool.false_or, Bool.or_true, Bool.or_false, Bool.true_and, Bool.false_and, Bool.and_true, Bool.and_false, r22_1, t0, nilChk_some, tld hb, h1, h2, and_self]
    · simp only [↓opStep_eq, ↓reduceIte, ↓EW, EV, Nat.reduceAdd, Nat.reduceEqDiff, Int.reduceEq, Int.reduceLT, Int.reduceLE, Int.reduceNe, seqC, retC, skipC, exitC, blockC, condC, Bool.true_or, Bool.false_or, Bool.or_true, Bool.or_false, Bool.true_and, Bool.false_and, Bool.and_true, Bool.and_false, r22_1, t0, nilChk_some, tld hb, h1, h2, and_false]
  · simp only [↓opStep_eq, ↓reduceIte, ↓EW, EV, Nat.reduceAdd, Nat.reduceEqDiff, Int.reduceEq, Int.reduceLT, Int.reduceLE, Int.reduceNe, seqC, retC, skipC, exitC, blockC, condC, Bool.true_or, Bool.false_or, Bool.or_true, Bool.or_false, Bool.true_and, Bool.false_and, Bool.and_true, Bool.and_false, r22_1, t0, nilChk_some, tld hb, h1, false_and]

def Iv (N : Nat) (O : Nat → Tag) (h : H) (b : Nat) (l : List Ent) (O' : Nat → Tag) (h' : H) (now old : List (List Ent)) (a mv : Nat) (v1 v2 : Value) : Prop :=
  Tab O' h' b now old (now.flatten.length : Int) (old.flatten.length : Int) (a : Int) (mv : Int) v1 v2 ∧ Good N now old a ∧ (now.flatten ++ old.flatten).Perm l ∧ mv ≤ 4 ∧ Fr O h O' h'

theorem step_body (L n N : Nat) (hN : N ≤ 100000) (hL : 300000 < L) {O O' : Nat → Tag} {h hx : H} {b : Nat} {l : List Ent} {now old : List (List Ent)} {a mv : Nat} {v1 v2 : Value} (iv : Iv N O h b l O' hx now old a mv v1 v2) (tm : T Value) (t0 : tg tm 0 = .pointer (some ⟨b, 0, none⟩)) (Q : Ex → T Value → H → Prop)
    (hout : old.flatten.length = 0 ∨ 4 ≤ mv → ∀ tm', tg tm' 0 = .pointer (some ⟨b, 0, none⟩) → Q (.exit 0) tm' hx)
    (hnext : ∀ O2 h2 now2 old2 a2 mv2 w1 w2 tm', Iv N O h b l O2 h2 now2 old2 a2 mv2 w1 w2 → (old2.length - a2) + old2.flatten.length < (old.length - a) + old.flatten.length → tg tm' 0 = .pointer (some ⟨b, 0, none⟩) → Q .norm tm' h2) :
    C l22_10 (CF L (n + 3)) L tm hx Q := by
  obtain ⟨tab, g, pm, hmv, fr⟩ := iv
  unfold l22_10
  refine C.seq (C.seq fun K hK => ?_)
  rw [show ∀ x : CodeT, (⟨x⟩ : Box CodeT).f = x from fun _ => rfl]
  rw [r22_1_eq tab.hb t0]
  refine hK _ _ _ (C.cond (decide (0 < (old.flatten.length : Int) ∧ (mv : Int) < 4)) (by simp only [↓opStep_eq, ↓reduceIte, ↓EW, EV, Nat.reduceAdd, Nat.reduceEqDiff, Int.reduceEq, Int.reduceLT, Int.reduceLE, Int.reduceNe, seqC, retC, skipC, exitC, blockC, condC]) (fun hc => C.skip ?_) fun hc => C.exit ?_)
  · have hc := of_decide_eq_true hc
    have hpos : 0 < old.flatten.length := by omega
    have hal := g.found hpos
    obtain ⟨B2, vs2, rfl, rp2, hle2⟩ := tab.rows_old hal
    obtain ⟨B1, vs1, rfl, rp1, hle1⟩ := tab.rows_now g.pos
    have hcnt := g.cnt
    refine C.block (C.seq fun K hK => ?_)
    have kr := keep_room hx 11
    have ix : indexSl 1 (.slice (some ⟨B2, 0, none⟩) old.length old.length) (.int .i64 (a : Int)) = some (.pointer (some ⟨B2, a, none⟩)) := by
      simp only [indexSl, asNat_nat, addOff]
      rw [Nat.ble_eq_true_of_le (by omega)]
      simp only [Nat.zero_add, Nat.mul_one]
    simp only [↓opStep_eq, ↓reduceIte, ↓EW, EV, Nat.reduceAdd, Nat.reduceEqDiff, Int.reduceEq, Int.reduceLT, Int.reduceLE, Int.reduceNe, seqC, retC, skipC, exitC, blockC, condC, r22_2, t0, nilChk_some, tld (tab.hb.keep0 kr), ix]
    obtain ⟨vi, es, e1, e2, ow, ldr⟩ := rp2.at hal
    refine hK _ _ _ (C.seq (C.seq fun K hK => ?_))
    simp only [↓opStep_eq, ↓reduceIte, ↓EW, EV, Nat.reduceAdd, Nat.reduceEqDiff, Int.reduceEq, Int.reduceLT, Int.reduceLE, Int.reduceNe, seqC, retC, skipC, exitC, blockC, condC, r22_3, nilChk_some, ldr _ kr, ow.len]
    refine hK _ _ _ (C.cond (decide ((es.length : Int) = 0)) (by simp only [↓opStep_eq, ↓reduceIte, ↓EW, EV, Nat.reduceAdd, Nat.reduceEqDiff, Int.reduceEq, Int.reduceLT, Int.reduceLE, Int.reduceNe, seqC, retC, skipC, exitC, blockC, condC]) (fun hz => ?_) fun hz => C.skip ?_)
    · -- an empty row
      have hz : es = [] := List.length_eq_zero_iff.1 (by have := of_decide_eq_true hz; omega)
      subst hz
      refine C.seq fun K hK => ?_
      have tb := tab.keep0 kr
      have hw : IntKind.i64.wrap ((a : Int) + 1) = ((a + 1 : Nat) : Int) := by
        rw [show (a : Int) + 1 = ((a + 1 : Nat) : Int) by omega, wrap_i64 _ (by omega)]
      simp only [↓opStep_eq, ↓reduceIte, ↓EW, EV, Nat.reduceAdd, Nat.reduceEqDiff, Int.reduceEq, Int.reduceLT, Int.reduceLE, Int.reduceNe, seqC, retC, skipC, exitC, blockC, condC, r22_4, t0, nilChk_some, tld tb.hb, hw, tst4 tb.hb]
      refine hK _ _ _ (C.exit ?_)
      simp only [if_pos]
      exact hnext O' _ now old (a + 1) mv _ _ _ ⟨tb.put, g.next e2, pm, hmv, fr.trans ((Fr.of0 kr).trans (tb.frput _))⟩ (by omega) (by simp only [↓opStep_eq, ↓reduceIte, ↓EW, EV, Nat.reduceAdd, Nat.reduceEqDiff, Int.reduceEq, Int.reduceLT, Int.reduceLE, Int.reduceNe, seqC, retC, skipC, exitC, blockC, condC, t0])
    · -- the last entry of a row
      have hz : 0 < es.length := by have := of_decide_eq_false hz; omega
      obtain ⟨fs, e, rfl⟩ : ∃ fs e, es = fs ++ [e] := ⟨es.dropLast, es.getLast (by intro h; simp [h] at hz), (List.dropLast_concat_getLast _).symm⟩
      have hfl : (fs ++ [e]).length - 1 = fs.length := by simp
      have hw : IntKind.i64.wrap (((fs ++ [e]).length : Int) - 1) = (fs.length : Int) := by
        rw [show ((fs ++ [e]).length : Int) - 1 = ((fs.length : Nat) : Int) by simp, wrap_i64 _ (by have := row_le e2; simp at this hcnt; omega)]
      refine C.seq fun K hK => ?_
      simp only [↓opStep_eq, ↓reduceIte, ↓EW, EV, Nat.reduceAdd, Nat.reduceEqDiff, Int.reduceEq, Int.reduceLT, Int.reduceLE, Int.reduceNe, seqC, retC, skipC, exitC, blockC, condC, r22_5, nilChk_some, ldr _ kr, ow.len, hw]
      refine hK _ _ _ (C.seq fun K hK => ?_)
      have kr2 := kr.then (keep_room ⟨hx.objs, hx.next + 11⟩ 10)
      have tb := tab.keep0 kr2
      have rpn := rp1.keep0 kr2
      have he : (fs ++ [e])[fs.length]? = some e := by simp
      obtain ⟨bb, cs, ixe, _, hbb, h3, hc3, _⟩ := (ow.keep kr2 (O' := O') fun _ _ h => ⟨id, h⟩).at he
      have lae := fun s => Ent.at_all hbb h3 hc3 s
      simp only [↓opStep_eq, ↓reduceIte, ↓EW, EV, Nat.reduceAdd, Nat.reduceEqDiff, Int.reduceEq, Int.reduceLT, Int.reduceLE, Int.reduceNe, seqC, retC, skipC, exitC, blockC, condC, r22_6, t0, nilChk_some, ldr _ kr2, ixe, lae]
      have hpp := row_le e2
      have hke := g.ho _ _ e2 e (by simp)
      have hli := idx_lt e.t e.k g.pos hle1
      obtain ⟨_, zs, f1, f2, _, _⟩ := rp1.at hli
      have hzs := row_le f2
      have hrow := hfl
      refine put_law L n N (o := 0) (m := now.flatten.length) tb.hb (by simp [tcells]) rfl rfl tb.ob rpn g.pos hle1 e f2 (by omega) (by omega) (by omega) (by omega) _ fun r h4 hq => ?_
      obtain ⟨rfl, O4, pq⟩ := hq
      have h4e : (⟨hx.objs, hx.next + 11 + 10⟩ : H) = ⟨hx.objs, hx.next + 11 + 10⟩ := rfl
      obtain ⟨tab4, fr4⟩ := tb.after_put rp1.ob g.pos hle1 pq
      refine hK _ _ _ (C.seq fun K hK => ?_)
      -- the old row is cut
      have rp24 : RowsP O4 h4 true B2 vs2 old := (rp2.keep0 kr2).keep pq.keep fun c hc ho => ⟨(by
        rintro (e | e | e)
        · rw [e] at ho; rcases ho with ho | ⟨_, ho⟩ <;> cases ho
        · rw [e, rp1.ob] at ho; rcases ho with ho | ⟨_, ho⟩ <;> cases ho
        · rw [e, tab.ob] at ho; rcases ho with ho | ⟨_, ho⟩ <;> cases ho), pq.same c hc⟩
      obtain ⟨v', ecut, owc⟩ := (rp24.own a vi (fs ++ [e]) e1 e2).cut fs.length (by simp)
      rw [List.take_left' rfl] at owc
      have ld4 : ∀ s, loadOne h4 (.pointer (some ⟨B2, a, s⟩)) = some vi := fun s => by rw [loadOne_has rp24.hb rfl]; exact e1
      have st : ∀ s, storeV 1 h4 (.pointer (some ⟨B2, a, s⟩)) v' = some (h4.put B2 (.rw (vs2.set a v'))) := fun s => by
        obtain ⟨p, q, c, rfl⟩ := owc.form
        exact store_one rp24.hb (by rw [rp24.len]; exact hal) rfl rfl
      obtain ⟨tab5, fr5⟩ := tab4.set_old rp24 hal owc hle2
      simp only [↓opStep_eq, ↓reduceIte, ↓EW, EV, Nat.reduceAdd, Nat.reduceEqDiff, Int.reduceEq, Int.reduceLT, Int.reduceLE, Int.reduceNe, seqC, retC, skipC, exitC, blockC, condC, r22_7, nilChk_some, ld4, ecut, st]
      generalize h4.put B2 (.rw (vs2.set a v')) = h5 at *
      obtain ⟨g6, p6, n16, n26⟩ := g.move e2 f2
      refine hK _ _ _ (C.seq fun K hK => ?_)
      have hw2 : IntKind.i64.wrap ((old.flatten.length : Int) - 1) = ((old.set a fs).flatten.length : Int) := by
        rw [show (old.flatten.length : Int) - 1 = ((old.set a fs).flatten.length : Int) by omega, wrap_i64 _ (by omega)]
      simp only [↓opStep_eq, ↓reduceIte, ↓EW, EV, Nat.reduceAdd, Nat.reduceEqDiff, Int.reduceEq, Int.reduceLT, Int.reduceLE, Int.reduceNe, seqC, retC, skipC, exitC, blockC, condC, r22_8, t0, nilChk_some, tld tab5.hb, hw2, tst3 tab5.hb]
      have fr6 := tab5.frput (.rw (tcells (.slice (some ⟨B1, 0, none⟩) now.length now.length) ((now.flatten.length + 1 : Nat) : Int) (.slice (some ⟨B2, 0, none⟩) old.length old.length) ((old.set a fs).flatten.length : Int) (a : Int) (mv : Int)))
      have tab6 := tab5.put (m1 := ((now.flatten.length + 1 : Nat) : Int)) (m2 := ((old.set a fs).flatten.length : Int)) (at2 := (a : Int)) (mv2 := (mv : Int))
      generalize h5.put b (.rw (tcells (.slice (some ⟨B1, 0, none⟩) now.length now.length) ((now.flatten.length + 1 : Nat) : Int) (.slice (some ⟨B2, 0, none⟩) old.length old.length) ((old.set a fs).flatten.length : Int) (a : Int) (mv : Int))) = h6 at *
      refine hK _ _ _ fun K hK => ?_
      have hw3 : IntKind.i64.wrap ((mv : Int) + 1) = ((mv + 1 : Nat) : Int) := by
        rw [show (mv : Int) + 1 = ((mv + 1 : Nat) : Int) by omega, wrap_i64 _ (by omega)]
      simp only [↓opStep_eq, ↓reduceIte, ↓EW, EV, Nat.reduceAdd, Nat.reduceEqDiff, Int.reduceEq, Int.reduceLT, Int.reduceLE, Int.reduceNe, seqC, retC, skipC, exitC, blockC, condC, r22_9, t0, nilChk_some, tld tab6.hb, hw3, tst5 tab6.hb]
      have fr7 := tab6.frput (.rw (tcells (.slice (some ⟨B1, 0, none⟩) now.length now.length) ((now.flatten.length + 1 : Nat) : Int) (.slice (some ⟨B2, 0, none⟩) old.length old.length) ((old.set a fs).flatten.length : Int) (a : Int) ((mv + 1 : Nat) : Int)))
      have tab7 := tab6.put (m1 := ((now.flatten.length + 1 : Nat) : Int)) (m2 := ((old.set a fs).flatten.length : Int)) (at2 := (a : Int)) (mv2 := ((mv + 1 : Nat) : Int))
      refine hK _ _ _ (hnext O4 _ _ _ a (mv + 1) _ _ _ ⟨by rw [n16]; exact tab7, g6, p6.trans pm, by omega, fr.trans ((Fr.of0 kr2).trans (fr4.trans (fr5.trans (fr6.trans fr7))))⟩ ?_ ?_)
      · rw [List.length_set]; omega
      · simp only [↓opStep_eq, ↓reduceIte, ↓EW, EV, Nat.reduceAdd, Nat.reduceEqDiff, Int.reduceEq, Int.reduceLT, Int.reduceLE, Int.reduceNe, seqC, retC, skipC, exitC, blockC, condC, t0]
  · refine hout ?_ _ (by simp only [↓opStep_eq, ↓reduceIte, ↓EW, EV, Nat.reduceAdd, Nat.reduceEqDiff, Int.reduceEq, Int.reduceLT, Int.reduceLE, Int.reduceNe, seqC, retC, skipC, exitC, blockC, condC, t0])
    have hc := of_decide_eq_false hc
    omega
end Go.Proofs.YtbdmhdidehfmoaaDoor

namespace Go.Proofs.YtbdmhdidehfmoaaDoor
open Go.Ev

theorem Tab.clear_old {O : Nat → Tag} {h : H} {b : Nat} {now old : List (List Ent)} {n1 n2 at_ mv at2 : Int} {v1 v2 : Value} (a : Tab O h b now old n1 n2 at_ mv v1 v2) : Tab O (h.put b (.rw (tcells v1 n1 (.slice none 0 0) 0 at2 mv))) b now [] n1 0 at2 mv v1 (.slice none 0 0) := by
  have kp := Keep.put h b (.rw (tcells v1 n1 (.slice none 0 0) 0 at2 mv))
  exact ⟨Has.put a.hb.1, a.ob, a.now.keep kp fun c _ ho => ⟨(fun e => by
    rw [e, a.ob] at ho
    rcases ho with ho | ⟨_, ho⟩ <;> cases ho), rfl⟩, .inl ⟨rfl, rfl⟩, fun c hc => a.far c hc⟩

/-- a table that holds a list, and moved so many -/
def St (N : Nat) (O : Nat → Tag) (h : H) (b : Nat) (l : List Ent) (mv : Nat) : Prop :=
  ∃ (now old : List (List Ent)) (a : Nat) (v1 v2 : Value), Tab O h b now old (now.flatten.length : Int) (old.flatten.length : Int) (a : Int) (mv : Int) v1 v2 ∧ Good N now old a ∧ (now.flatten ++ old.flatten).Perm l

theorem tdiv_nat (n k : Nat) : (n : Int).tdiv (k : Int) = ((n / k : Nat) : Int) := by
  rw [Int.tdiv_eq_ediv_of_nonneg (by omega)]; rfl

theorem r22_15_eq {call : CallT} {L : Nat} {tm : T Value} {h : H} {K : KE} {b : Nat} {v1 v2 : Value} {n1 n2 a mv : Int} {n : Nat} (hb : Has h b (.rw (tcells v1 n1 v2 n2 a mv))) (t0 : tg tm 0 = .pointer (some ⟨b, 0, none⟩)) (t4 : tg tm 4 = .int .i64 (n : Int)) (hn : n ≤ 1000000) :
    r22_15 call L tm [] h K = K .norm (T.set tm 113 (.bool (decide (4 < n ∧ n1 < ((n / 4 : Nat) : Int))))) [] h := by
  have q : binV Tryd.prog .quo 3 true (.int .i64 (n : Int)) (.int .i64 4) = some (.int .i64 ((n / 4 : Nat) : Int)) := by
    rw [binV_quo _ _ _ _ _ (by decide), show (4 : Int) = ((4 : Nat) : Int) from rfl, tdiv_nat, wrap_i64 _ (by omega)]
  by_cases h1 : (4 : Int) < (n : Int)
  · have h1' : 4 < n := by omega
    simp only [↓opStep_eq, ↓reduceIte, ↓EW, EV, Nat.reduceAdd, Nat.reduceEqDiff, Int.reduceEq, Int.reduceLT, Int.reduceLE, Int.reduceNe, seqC, retC, skipC, exitC, blockC, condC, Bool.true_or, Bool.false_or, Bool.or_true, Bool.or_false, Bool.true_and, Bool.false_and, Bool.and_true, Bool.and_false, r22_15, t0, t4, nilChk_some, tld hb, h1, h1', q, true_and]
  · have h1' : ¬ 4 < n := by omega
    simp only [↓opStep_eq, ↓reduceIte, ↓EW, EV, Nat.reduceAdd, Nat.reduceEqDiff, Int.reduceEq, Int.reduceLT, Int.reduceLE, Int.reduceNe, seqC, retC, skipC, exitC, blockC, condC, Bool.true_or, Bool.false_or, Bool.or_true, Bool.or_false, Bool.true_and, Bool.false_and, Bool.and_true, Bool.and_false, r22_15, t0, t4, nilChk_some, tld hb, h1, h1', q, false_and]

theorem step_law (L n N : Nat) (hN : N ≤ 100000) (hL : 300000 < L) {O : Nat → Tag} {h : H} {b : Nat} {l : List Ent} {m0 : Nat} (st : St N O h b l m0) :
    Sp (CF L (n + 4)) 22 [.pointer (some ⟨b, 0, none⟩)] h fun r h' => ∃ O' mv, St N O' h' b l mv ∧ mv ≤ 4 ∧ Fr O h O' h' := by
  obtain ⟨now, old, a, v1, v2, tab, g, pm⟩ := st
  refine Sp.body f22 (by simp) ?_
  unfold c22
  refine C.seq fun K hK => ?_
  simp only [↓opStep_eq, ↓reduceIte, ↓EW, EV, Nat.reduceAdd, Nat.reduceEqDiff, Int.reduceEq, Int.reduceLT, Int.reduceLE, Int.reduceNe, seqC, retC, skipC, exitC, blockC, condC, r22_0, nilChk_some, tst5 tab.hb]
  have hcnt := g.cnt
  have hol := g.olen
  refine hK _ _ _ (C.seq (C.block (C.loop (fun k tm hx => ∃ O' now old a mv v1 v2, k = (old.length - a) + old.flatten.length ∧ tg tm 0 = .pointer (some ⟨b, 0, none⟩) ∧ Iv N O h b l O' hx now old a mv v1 v2) ((old.length - a) + old.flatten.length) (by omega)
    ⟨O, now, old, a, 0, v1, v2, rfl, by simp only [↓opStep_eq, ↓reduceIte, ↓EW, EV, Nat.reduceAdd, Nat.reduceEqDiff, Int.reduceEq, Int.reduceLT, Int.reduceLE, Int.reduceNe, seqC, retC, skipC, exitC, blockC, condC], tab.put, g, pm, by omega, tab.frput _⟩ ?_)))
  rintro k tm hx ⟨O1, now1, old1, a1, mv1, w1, w2, rfl, t0, iv⟩
  refine step_body L n N hN hL iv tm t0 _ (fun hout tm t0 => ?_) fun O2 h2 now2 old2 a2 mv2 u1 u2 tm' iv2 hlt t0' => ⟨_, hlt, O2, now2, old2, a2, mv2, u1, u2, rfl, t0', iv2⟩
  simp only [if_pos]
  clear tab g pm
  obtain ⟨tab, g, pm, hmv, fr⟩ := iv
  have hcnt := g.cnt
  refine C.seq (C.seq fun K hK => ?_)
  simp only [↓opStep_eq, ↓reduceIte, ↓EW, EV, Nat.reduceAdd, Nat.reduceEqDiff, Int.reduceEq, Int.reduceLT, Int.reduceLE, Int.reduceNe, seqC, retC, skipC, exitC, blockC, condC, r22_10, t0, nilChk_some, tld tab.hb]
  refine hK _ _ _ (C.cond (decide (0 < (old1.flatten.length : Int))) (by simp only [↓opStep_eq, ↓reduceIte, ↓EW, EV, Nat.reduceAdd, Nat.reduceEqDiff, Int.reduceEq, Int.reduceLT, Int.reduceLE, Int.reduceNe, seqC, retC, skipC, exitC, blockC, condC]) (fun hc => C.ret ⟨.inr rfl, _, rfl, O1, mv1, ⟨now1, old1, a1, w1, w2, tab, g, pm⟩, hmv, fr⟩) fun hc => C.skip ?_)
  have hz : old1.flatten = [] := List.length_eq_zero_iff.1 (by have := of_decide_eq_false hc; omega)
  have g2 := g.clear hz
  have agg : aggO (fill [(.slice none 0 0), (.int .i64 (0))] (plc [(0, 1), (1, 1)]) []) = some (.agg [.slice none 0 0, .int .i64 0].toArray) := rfl
  have tab1 := tab.clear_old (at2 := (a1 : Int))
  have fr1 := tab.frput (.rw (tcells w1 (now1.flatten.length : Int) (.slice none 0 0) 0 (a1 : Int) (mv1 : Int)))
  have st1 := tst_old tab.hb none 0 0 0
  refine C.seq fun K hK => ?_
  simp only [↓opStep_eq, ↓reduceIte, ↓EW, EV, Nat.reduceAdd, Nat.reduceEqDiff, Int.reduceEq, Int.reduceLT, Int.reduceLE, Int.reduceNe, seqC, retC, skipC, exitC, blockC, condC, r22_11, t0, nilChk_some, agg, st1, tst4 tab1.hb]
  generalize hx.put b (.rw (tcells w1 (now1.flatten.length : Int) (.slice none 0 0) 0 (a1 : Int) (mv1 : Int))) = h2 at *
  have tab2 := tab1.put (m1 := (now1.flatten.length : Int)) (m2 := 0) (at2 := 0) (mv2 := (mv1 : Int))
  have fr2 := tab1.frput (.rw (tcells w1 (now1.flatten.length : Int) (.slice none 0 0) 0 0 (mv1 : Int)))
  generalize h2.put b (.rw (tcells w1 (now1.flatten.length : Int) (.slice none 0 0) 0 0 (mv1 : Int))) = h3 at *
  have fr3 := fr.trans (fr1.trans fr2)
  have pm2 : (now1.flatten ++ ([] : List (List Ent)).flatten).Perm l := by rw [hz] at pm; exact pm
  have st3 : St N O1 h3 b l mv1 := ⟨now1, [], 0, w1, _, tab2, g2, pm2⟩
  have hlen := g.len
  refine hK _ _ _ (C.seq fun K hK => ?_)
  simp only [↓opStep_eq, ↓reduceIte, ↓EW, EV, Nat.reduceAdd, Nat.reduceEqDiff, Int.reduceEq, Int.reduceLT, Int.reduceLE, Int.reduceNe, seqC, retC, skipC, exitC, blockC, condC, r22_12, t0, nilChk_some, tld tab2.hb, tab2.now.len]
  refine hK _ _ _ (C.block (C.seq fun K hK => ?_))
  have hw : IntKind.i64.wrap (2 * (now1.length : Int)) = ((2 * now1.length : Nat) : Int) := by
    rw [show 2 * (now1.length : Int) = ((2 * now1.length : Nat) : Int) by omega, wrap_i64 _ (by omega)]
  simp only [↓opStep_eq, ↓reduceIte, ↓EW, EV, Nat.reduceAdd, Nat.reduceEqDiff, Int.reduceEq, Int.reduceLT, Int.reduceLE, Int.reduceNe, seqC, retC, skipC, exitC, blockC, condC, r22_13, t0, nilChk_some, tld tab2.hb, hw]
  -- a turn
  have turned : ∀ (m : Nat), 0 < m → m ≤ N + 4 → Sp (CF L (n + 3)) 34 [.pointer (some ⟨b, 0, none⟩), .int .i64 (m : Int)] h3 fun r h' => ∃ O' mv, St N O' h' b l mv ∧ mv ≤ 4 ∧ Fr O h O' h' := fun m hm hm2 => by
    refine (turn_law L (n + 2) tab2 m hm (by omega)).mono fun r h' ⟨O', u1, tb, fr'⟩ => ⟨O', mv1, ⟨List.replicate m [], now1, 0, u1, w1, ?_, g2.turn hm hm2, ?_⟩, hmv, fr3.trans fr'⟩
    · have e0 : (List.replicate m ([] : List Ent)).flatten = [] := by simp
      rw [e0]; exact tb
    · have e0 : (List.replicate m ([] : List Ent)).flatten = [] := by simp
      rw [e0, List.nil_append]
      simpa using pm2
  refine hK _ _ _ (C.cond (decide (((2 * now1.length : Nat) : Int) < (now1.flatten.length : Int))) (by simp only [↓opStep_eq, ↓reduceIte, ↓EW, EV, Nat.reduceAdd, Nat.reduceEqDiff, Int.reduceEq, Int.reduceLT, Int.reduceLE, Int.reduceNe, seqC, retC, skipC, exitC, blockC, condC]) (fun hc => fun K hK => ?_) fun hc => C.seq fun K hK => ?_)
  · have hc := of_decide_eq_true hc
    simp only [↓opStep_eq, ↓reduceIte, ↓EW, EV, Nat.reduceAdd, Nat.reduceEqDiff, Int.reduceEq, Int.reduceLT, Int.reduceLE, Int.reduceNe, seqC, retC, skipC, exitC, blockC, condC, r22_14, t0, hw]
    refine turned (2 * now1.length) (by have := g.pos; omega) (by omega) _ fun r h4 hq => ?_
    exact hK _ _ _ ⟨.inl rfl, _, rfl, hq⟩
  · rw [show ∀ x : CodeT, (⟨x⟩ : Box CodeT).f = x from fun _ => rfl]
    rw [r22_15_eq (n := now1.length) tab2.hb (by simp only [↓opStep_eq, ↓reduceIte, ↓EW, EV, Nat.reduceAdd, Nat.reduceEqDiff, Int.reduceEq, Int.reduceLT, Int.reduceLE, Int.reduceNe, seqC, retC, skipC, exitC, blockC, condC, t0]) (by simp only [↓opStep_eq, ↓reduceIte, ↓EW, EV, Nat.reduceAdd, Nat.reduceEqDiff, Int.reduceEq, Int.reduceLT, Int.reduceLE, Int.reduceNe, seqC, retC, skipC, exitC, blockC, condC]) (by omega)]
    refine hK _ _ _ (C.cond (decide (4 < now1.length ∧ (now1.flatten.length : Int) < ((now1.length / 4 : Nat) : Int))) (by simp only [↓opStep_eq, ↓reduceIte, ↓EW, EV, Nat.reduceAdd, Nat.reduceEqDiff, Int.reduceEq, Int.reduceLT, Int.reduceLE, Int.reduceNe, seqC, retC, skipC, exitC, blockC, condC]) (fun hc => fun K hK => ?_) fun hc => C.skip ?_)
    · have hc := of_decide_eq_true hc
      have q : binV Tryd.prog .quo 3 true (.int .i64 (now1.length : Int)) (.int .i64 2) = some (.int .i64 ((now1.length / 2 : Nat) : Int)) := by
        rw [binV_quo _ _ _ _ _ (by decide), show (2 : Int) = ((2 : Nat) : Int) from rfl, tdiv_nat, wrap_i64 _ (by omega)]
      simp only [↓opStep_eq, ↓reduceIte, ↓EW, EV, Nat.reduceAdd, Nat.reduceEqDiff, Int.reduceEq, Int.reduceLT, Int.reduceLE, Int.reduceNe, seqC, retC, skipC, exitC, blockC, condC, r22_16, t0, q]
      refine turned (now1.length / 2) (by omega) (by omega) _ fun r h4 hq => ?_
      exact hK _ _ _ ⟨.inl rfl, _, rfl, hq⟩
    · exact ⟨.inl rfl, _, rfl, O1, mv1, st3, hmv, fr3⟩
end Go.Proofs.YtbdmhdidehfmoaaDoor
