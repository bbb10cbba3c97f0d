import Derived.Test.YtpoedopdcpejmaaWsE
set_option linter.unusedSimpArgs false
set_option linter.unusedVariables false
namespace Go.Proofs.Ytpoedopdcpejmaa
open Go.Ev

/-! ### maps by names -/
theorem nd_same {α β : Type} {f : α → β} : ∀ {l : List α}, (l.map f).Nodup → ∀ {a b : α}, a ∈ l → b ∈ l → f a = f b → a = b
  | [], _, a, b, h, _, _ => by cases h
  | x :: r, nd, a, b, ha, hb, e => by
    rw [List.map_cons, List.nodup_cons] at nd
    simp only [List.mem_cons] at ha hb
    rcases ha with rfl | ha
    · rcases hb with rfl | hb
      · rfl
      · exact absurd (e ▸ List.mem_map.2 ⟨b, hb, rfl⟩) nd.1
    · rcases hb with rfl | hb
      · exact absurd (e ▸ List.mem_map.2 ⟨a, ha, rfl⟩) nd.1
      · exact nd_same nd.2 ha hb e
theorem set_same {α : Type} {l : List α} {j : Nat} {a : α} (h : l[j]? = some a) : l.set j a = l := by
  apply List.ext_getElem?
  intro i
  rw [List.getElem?_set]
  by_cases e : j = i
  · subst e
    rw [if_pos rfl, if_pos (List.getElem?_eq_some_iff.1 h).1, h]
  · rw [if_neg e]
theorem erase_map {α β : Type} (f : α → β) (l : List α) (j : Nat) : (l.map f).eraseIdx j = (l.eraseIdx j).map f := by
  rw [List.eraseIdx_eq_take_drop_succ, List.eraseIdx_eq_take_drop_succ, List.map_append, List.map_take, List.map_drop]
theorem eqv_nm (x y : Nm) : eqV Try.prog 200 39 x.v y.v = some (decide (x = y)) := by
  rw [show x.v = .agg #[.int .i64 x.1, .string x.2] from rfl, show y.v = .agg #[.int .i64 y.1, .string y.2] from rfl, eqv_name]
  simp only [leB_eq, iEq_dec, chain]
  by_cases h1 : x.1 = y.1
  · by_cases h2 : x.2 = y.2
    · rw [decide_eq_true (Prod.ext h1 h2), decide_eq_true h1, h2]; simp
    · have h3 : (x.2.data.toList == y.2.data.toList) = false := by
        rw [beq_eq_false_iff_ne]; exact fun h => h2 ((bytes_eq _ _).1 h)
      rw [h3, decide_eq_true h1, decide_eq_false (fun h => h2 (congrArg Prod.snd h))]
  · rw [decide_eq_false h1, decide_eq_false (fun h => h1 (congrArg Prod.fst h))]
theorem cmpK_nm (x y : Nm) : cmpK Try.prog 39 x.v y.v = some (decide (x = y)) := by
  show eqV Try.prog 200 39 x.v y.v = _
  exact eqv_nm x y
theorem keyOk_nm (x : Nm) : keyOk Try.prog 39 x.v = true := by
  unfold keyOk
  rw [eqv_nm, decide_eq_true rfl]

abbrev Te := Nm × Value × Nat
def mE (t : Te) : MapEntry := { key := t.1.v, val := t.2.1, born := t.2.2 }

theorem find_nm (x : Nm) : ∀ (ts : List Te) (i : Nat), (∃ j t, ts[j]? = some t ∧ t.1 = x ∧ findI Try.prog 39 x.v (ts.map mE) i = some (some (i + j, mE t))) ∨ ((∀ t ∈ ts, t.1 ≠ x) ∧ findI Try.prog 39 x.v (ts.map mE) i = some none)
  | [], i => .inr ⟨(fun _ h => by cases h), rfl⟩
  | t :: r, i => by
    have hc : cmpK Try.prog 39 x.v (mE t).key = some (decide (x = t.1)) := cmpK_nm x t.1
    by_cases h : x = t.1
    · refine .inl ⟨0, t, rfl, h.symm, ?_⟩
      simp only [List.map_cons, findI, hc, decide_eq_true h, Nat.add_zero]
    · rcases find_nm x r (i + 1) with ⟨j, u, h1, h2, h3⟩ | ⟨h1, h2⟩
      · refine .inl ⟨j + 1, u, by simpa using h1, h2, ?_⟩
        simp only [List.map_cons, findI, hc, decide_eq_false h]
        rw [h3, show i + 1 + j = i + (j + 1) by omega]
      · refine .inr ⟨fun u hu => ?_, ?_⟩
        · simp only [List.mem_cons] at hu
          rcases hu with rfl | hu
          · exact Ne.symm h
          · exact h1 u hu
        · simp only [List.map_cons, findI, hc, decide_eq_false h]
          exact h2

/-- a map in memory: what it holds, in some order -/
structure MpT (h : H) (B : Nat) (ts : List Te) (clock : Nat) : Prop where
  has : Has h B (.map (ts.map mE) clock)
  names : (ts.map (·.1)).Nodup
  borns : (ts.map (·.2.2)).Nodup
  old : ∀ t ∈ ts, t.2.2 < clock
def Mp (h : H) (B : Nat) (m : List (Nm × Value)) : Prop := ∃ ts clock, MpT h B ts clock ∧ (ts.map fun t => (t.1, t.2.1)).Perm m
theorem MpT.keep {S : Nat → Prop} {h h' : H} {B clock : Nat} {ts : List Te} (a : MpT h B ts clock) (k : Keep S h h') (hn : ¬ S B) : MpT h' B ts clock := ⟨a.has.keep k hn, a.names, a.borns, a.old⟩
theorem Mp.keep {S : Nat → Prop} {h h' : H} {B : Nat} {m : List (Nm × Value)} (a : Mp h B m) (k : Keep S h h') (hn : ¬ S B) : Mp h' B m := by
  obtain ⟨ts, c, t, p⟩ := a
  exact ⟨ts, c, t.keep k hn, p⟩
theorem Mp.keep0 {h h' : H} {B : Nat} {m : List (Nm × Value)} (a : Mp h B m) (k : Keep nobody h h') : Mp h' B m := a.keep k id
theorem Mp.perm {h : H} {B : Nat} {m m' : List (Nm × Value)} (a : Mp h B m) (p : m.Perm m') : Mp h B m' := by
  obtain ⟨ts, c, t, q⟩ := a
  exact ⟨ts, c, t, q.trans p⟩
theorem Mp.lt {h : H} {B : Nat} {m : List (Nm × Value)} (a : Mp h B m) : B < h.next := by
  obtain ⟨ts, c, t, q⟩ := a
  exact t.has.1
theorem Mp.names {h : H} {B : Nat} {m : List (Nm × Value)} (a : Mp h B m) : (m.map (·.1)).Nodup := by
  obtain ⟨ts, c, t, q⟩ := a
  have := (q.map (·.1)).nodup_iff.1 (by rw [List.map_map]; exact t.names)
  exact this
theorem Mp.new (h : H) : Mp (h.new (.map [] 0)) h.next [] := ⟨[], 0, ⟨.new _ _, .nil, .nil, (fun _ h => by cases h)⟩, .refl _⟩

def dropN (m : List (Nm × Value)) (x : Nm) : List (Nm × Value) := m.filter fun p => !decide (p.1 = x)
theorem dropN_none {m : List (Nm × Value)} {x : Nm} (h : ∀ p ∈ m, p.1 ≠ x) : dropN m x = m := List.filter_eq_self.2 fun p hp => by simp [h p hp]

theorem Mp.of {h : H} {B : Nat} {m : List (Nm × Value)} {x : Nm} {v : Value} (a : Mp h B m) (hx : (x, v) ∈ m) (z : Value) (ok : Bool) : lookV Try.prog 39 z ok h (.map (some B)) x.v = some (match ok with | true => .tuple #[v, .bool true] | false => v) := by
  obtain ⟨ts, c, t, q⟩ := a
  have hm : mapOf h (.map (some B)) = some (ts.map mE) := by simp only [mapOf, t.has.2]
  obtain ⟨u, hu, hue⟩ := List.mem_map.1 (q.mem_iff.2 hx)
  simp only [Prod.mk.injEq] at hue
  unfold lookV
  simp only [hm, findK, keyOk_nm]
  rcases find_nm x ts 0 with ⟨j, w, h1, h2, h3⟩ | ⟨h1, _⟩
  · rw [h3]
    have hw := List.mem_of_getElem? h1
    have : w = u := nd_same t.names hw hu (by rw [h2, hue.1])
    subst this
    cases ok <;> simp [found, mE, hue.2]
  · exact absurd hue.1 (h1 u hu)
theorem Mp.not {h : H} {B : Nat} {m : List (Nm × Value)} {x : Nm} (a : Mp h B m) (hx : ∀ p ∈ m, p.1 ≠ x) (z : Value) (ok : Bool) : lookV Try.prog 39 z ok h (.map (some B)) x.v = some (match ok with | true => .tuple #[z, .bool false] | false => z) := by
  obtain ⟨ts, c, t, q⟩ := a
  have hm : mapOf h (.map (some B)) = some (ts.map mE) := by simp only [mapOf, t.has.2]
  unfold lookV
  simp only [hm, findK, keyOk_nm]
  rcases find_nm x ts 0 with ⟨j, w, h1, h2, h3⟩ | ⟨h1, h2⟩
  · exact absurd h2 (hx (w.1, w.2.1) (q.mem_iff.1 (List.mem_map.2 ⟨w, List.mem_of_getElem? h1, rfl⟩)))
  · rw [h2]; cases ok <;> rfl
theorem Mp.len {h : H} {B : Nat} {m : List (Nm × Value)} (a : Mp h B m) : lenMap h (.map (some B)) = some (.int .i64 (m.length : Int)) := by
  obtain ⟨ts, c, t, q⟩ := a
  have hm : mapOf h (.map (some B)) = some (ts.map mE) := by simp only [mapOf, t.has.2]
  unfold lenMap
  rw [hm]
  have := q.length_eq
  rw [List.length_map] at this
  simp [this]
theorem setNth_eq {α : Type} : ∀ (l : List α) (i : Nat) (x : α), i < l.length → setNth l i x = some (l.set i x)
  | [], i, x, h => by simp at h
  | y :: r, 0, x, h => rfl
  | y :: r, i + 1, x, h => by simp [setNth, setNth_eq r i x (by simpa using h)]
theorem same_nm (x : Nm) : sameK x.v x.v = true := by
  have e1 : iEq x.1 x.1 = true := by rw [iEq_dec]; simp
  have e2 : leB x.2.data.toList x.2.data.toList = true := by rw [leB_eq]; simp
  show same1L [Value.int .i64 x.1, .string x.2] [Value.int .i64 x.1, .string x.2] = true
  simp [same1L, same1, e1, e2, kEq_self]
theorem Mp.set {h : H} {B : Nat} {m : List (Nm × Value)} (a : Mp h B m) (x : Nm) (v : Value) : ∃ o, updM Try.prog 39 h (.map (some B)) x.v v = some (h.put B o) ∧ Mp (h.put B o) B ((x, v) :: dropN m x) := by
  obtain ⟨ts, c, t, q⟩ := a
  unfold updM
  simp only [t.has.2, findK, keyOk_nm]
  rcases find_nm x ts 0 with ⟨j, w, h1, h2, h3⟩ | ⟨h1, h2⟩
  · rw [h3]
    have lj := (List.getElem?_eq_some_iff.1 h1).1
    have ej := (List.getElem?_eq_some_iff.1 h1).2
    have hk : sameK (mE w).key x.v = true := by rw [show (mE w).key = x.v from by rw [← h2]; rfl]; exact same_nm x
    simp only [Nat.zero_add, hk, setNth_eq (ts.map mE) j _ (by simpa using lj)]
    have he : (ts.map mE).set j { mE w with key := x.v, val := v } = (ts.set j (x, v, w.2.2)).map mE := by
      rw [List.map_set]; rfl
    rw [he]
    refine ⟨_, rfl, ts.set j (x, v, w.2.2), c, ⟨.put t.has.1, ?_, ?_, fun u hu => ?_⟩, ?_⟩
    · rw [List.map_set]
      have : (ts.map (·.1)).set j x = ts.map (·.1) :=
         set_same (by rw [List.getElem?_map, h1]; simp [h2])
      show ((ts.map (·.1)).set j x).Nodup
      rw [this]; exact t.names
    · rw [List.map_set]
      have : (ts.map (·.2.2)).set j w.2.2 = ts.map (·.2.2) := by
        exact set_same (by rw [List.getElem?_map, h1]; rfl)
      show ((ts.map (·.2.2)).set j w.2.2).Nodup
      rw [this]; exact t.borns
    · rcases List.mem_or_eq_of_mem_set hu with hu | rfl
      · exact t.old u hu
      · exact t.old w (List.mem_of_getElem? h1)
    · rw [List.map_set]
      have hd : dropN m x = m.filter fun p => !decide (p.1 = x) := rfl
      have q2 : (dropN (ts.map fun t => (t.1, t.2.1)) x).Perm (dropN m x) := q.filter _
      refine List.Perm.trans ?_ (q2.cons _)
      have hl : (ts.map fun t => (t.1, t.2.1)).length = ts.length := by simp
      rw [List.set_eq_take_append_cons_drop, if_pos (by simpa using lj)]
      refine List.perm_middle.trans (List.Perm.cons _ (List.Perm.of_eq ?_))
      have hsplit : (ts.map fun t => (t.1, t.2.1)) = (ts.map fun t => (t.1, t.2.1)).take j ++ (w.1, w.2.1) :: (ts.map fun t => (t.1, t.2.1)).drop (j + 1) := by
        conv => lhs; rw [← List.take_append_drop j (ts.map fun t => (t.1, t.2.1))]
        rw [List.drop_eq_getElem_cons (by simpa using lj)]
        simp [ej]
      have hnd : ∀ p ∈ (ts.map fun t => (t.1, t.2.1)).take j ++ (ts.map fun t => (t.1, t.2.1)).drop (j + 1), p.1 ≠ x := by
        have hn : ((ts.map fun t => (t.1, t.2.1)).map (·.1)).Nodup := by rw [List.map_map]; exact t.names
        rw [hsplit, List.map_append, List.map_cons, List.nodup_append] at hn
        obtain ⟨n1, n2, n3⟩ := hn
        rw [List.nodup_cons] at n2
        intro p hp
        rw [List.mem_append] at hp
        rcases hp with hp | hp
        · rw [← h2]
          exact n3 p.1 (List.mem_map.2 ⟨p, hp, rfl⟩) w.1 (by simp)
        · rw [← h2]
          intro e
          exact n2.1 (by rw [← e]; exact List.mem_map.2 ⟨p, hp, rfl⟩)
      have : dropN (ts.map fun t => (t.1, t.2.1)) x = (ts.map fun t => (t.1, t.2.1)).take j ++ (ts.map fun t => (t.1, t.2.1)).drop (j + 1) := by
        conv => lhs; rw [hsplit]
        show List.filter _ _ = _
        rw [List.filter_append, List.filter_cons, if_neg (by simp [h2]), ← List.filter_append]
        exact List.filter_eq_self.2 fun p hp => by simp [hnd p hp]
      rw [this]
  · rw [h2]
    have he : ts.map mE ++ [{ key := x.v, val := v, born := c }] = (ts ++ [(x, v, c)]).map mE := by rw [List.map_append]; rfl
    simp only [he]
    refine ⟨_, rfl, ts ++ [(x, v, c)], c + 1, ⟨.put t.has.1, ?_, ?_, fun u hu => ?_⟩, ?_⟩
    · rw [List.map_append, List.nodup_append]
      refine ⟨t.names, by simp, fun a ha b hb => ?_⟩
      obtain ⟨u, hu, rfl⟩ := List.mem_map.1 ha
      simp only [List.map_cons, List.map_nil, List.mem_singleton] at hb
      subst hb; exact h1 u hu
    · rw [List.map_append, List.nodup_append]
      refine ⟨t.borns, by simp, fun a ha b hb => ?_⟩
      obtain ⟨u, hu, rfl⟩ := List.mem_map.1 ha
      simp only [List.map_cons, List.map_nil, List.mem_singleton] at hb
      subst hb
      have := t.old u hu
      omega
    · rw [List.mem_append, List.mem_singleton] at hu
      rcases hu with hu | rfl
      · have := t.old u hu; omega
      · show c < c + 1; omega
    · rw [List.map_append]
      have : dropN m x = m := dropN_none fun p hp => by
        obtain ⟨u, hu, hue⟩ := List.mem_map.1 (q.mem_iff.2 hp)
        rw [← hue]; exact h1 u hu
      rw [this]
      exact List.perm_append_comm.trans (q.cons _)
theorem Mp.del {h : H} {B : Nat} {m : List (Nm × Value)} (a : Mp h B m) (x : Nm) : ∃ o, delM Try.prog 39 h (.map (some B)) x.v = some (h.put B o) ∧ Mp (h.put B o) B (dropN m x) := by
  obtain ⟨ts, c, t, q⟩ := a
  unfold delM
  simp only [t.has.2, findK, keyOk_nm]
  rcases find_nm x ts 0 with ⟨j, w, h1, h2, h3⟩ | ⟨h1, h2⟩
  · rw [h3]
    have lj := (List.getElem?_eq_some_iff.1 h1).1
    have ej := (List.getElem?_eq_some_iff.1 h1).2
    have he : delNth (ts.map mE) (0 + j) = (ts.eraseIdx j).map mE := by rw [delNth_eq, Nat.zero_add, erase_map]
    simp only [he]
    refine ⟨_, rfl, ts.eraseIdx j, c, ⟨.put t.has.1, ?_, ?_, fun u hu => t.old u (List.mem_of_mem_eraseIdx hu)⟩, ?_⟩
    · exact List.Nodup.sublist ((List.eraseIdx_sublist ts j).map _) t.names
    · exact List.Nodup.sublist ((List.eraseIdx_sublist ts j).map _) t.borns
    · have q2 : (dropN (ts.map fun t => (t.1, t.2.1)) x).Perm (dropN m x) := q.filter _
      refine List.Perm.trans (List.Perm.of_eq ?_) q2
      have hsplit : ts = ts.take j ++ w :: ts.drop (j + 1) := by
        conv => lhs; rw [← List.take_append_drop j ts]
        rw [List.drop_eq_getElem_cons lj, ej]
      have hnd : ∀ u ∈ ts.take j ++ ts.drop (j + 1), u.1 ≠ x := by
        have hn := t.names
        rw [hsplit, List.map_append, List.map_cons, List.nodup_append] at hn
        obtain ⟨n1, n2, n3⟩ := hn
        rw [List.nodup_cons] at n2
        intro u hu
        rw [List.mem_append] at hu
        rcases hu with hu | hu
        · rw [← h2]; exact n3 u.1 (List.mem_map.2 ⟨u, hu, rfl⟩) w.1 (by simp)
        · rw [← h2]; intro e; exact n2.1 (by rw [← e]; exact List.mem_map.2 ⟨u, hu, rfl⟩)
      have e1 : ts.eraseIdx j = ts.take j ++ ts.drop (j + 1) := List.eraseIdx_eq_take_drop_succ ts j
      rw [e1]
      conv => rhs; rw [hsplit]
      show _ = List.filter _ _
      rw [List.map_append, List.map_append, List.filter_append, List.map_cons, List.filter_cons, if_neg (by simp [h2]), ← List.filter_append, ← List.map_append]
      refine (List.filter_eq_self.2 fun p hp => ?_).symm
      obtain ⟨u, hu, rfl⟩ := List.mem_map.1 hp
      simp [hnd u hu]
  · rw [h2]
    refine ⟨_, rfl, ts, c, ⟨.put t.has.1, t.names, t.borns, t.old⟩, ?_⟩
    have : dropN m x = m := dropN_none fun p hp => by
      obtain ⟨u, hu, hue⟩ := List.mem_map.1 (q.mem_iff.2 hp)
      rw [← hue]; exact h1 u hu
    rw [this]; exact q

/-! ### going through a map -/
theorem memN_iff (x : Nat) : ∀ l, memN x l = true ↔ x ∈ l
  | [] => by simp [memN]
  | y :: r => by
    unfold memN
    cases hb : Nat.beq x y with
    | true => simp [Nat.eq_of_beq_eq_true hb]
    | false => simp [Nat.ne_of_beq_eq_false hb, memN_iff x r]
theorem allK_iff {K : KV} : ∀ {l : List (Value × H)}, (∀ p ∈ l, K p.1 p.2 = true) → allK K l = true
  | [], _ => rfl
  | (v, h) :: r, hk => by
    unfold allK
    rw [hk (v, h) (by simp)]
    exact allK_iff fun p hp => hk p (by simp [hp])
theorem next_nm {h : H} {B R c : Nat} {ts : List Te} {seen : List Nat} (t : MpT h B ts c) (r : Has h R (.mit B c seen c)) {K : KV}
    (h1 : ∀ u ∈ ts, u.2.2 ∉ seen → K (.tuple #[.bool true, u.1.v, u.2.1]) (h.put R (.mit B c (seen ++ [u.2.2]) c)) = true) (h2 : (∀ u ∈ ts, u.2.2 ∈ seen) → K (.tuple #[.bool false]) h = true) :
    nextV false h (.pointer (some ⟨R, 0, none⟩)) K = true := by
  unfold nextV
  simp only [r.2]
  unfold nextMap
  simp only [t.has.2]
  have hg : (!seen.isEmpty && !(ts.map mE).isEmpty && (ts.map mE).all fun e => Nat.ble c e.born) = false := by
    cases ts with
    | nil => simp
    | cons u rest =>
      have : Nat.ble c (mE u).born = false := by
        rw [Bool.eq_false_iff]; intro e
        have := Nat.le_of_ble_eq_true e
        have h3 := t.old u (by simp)
        have : (mE u).born = u.2.2 := rfl
        omega
      simp [this]
  rw [hg]
  simp only
  have hold : ∀ e ∈ (ts.map mE).filter (fun e => !memN e.born seen), Nat.ble (e.born + 1) c = true ∧ Nat.ble c e.born = false := fun e he => by
    obtain ⟨u, hu, rfl⟩ := List.mem_map.1 (List.mem_filter.1 he).1
    have h3 := t.old u hu
    have hb : (mE u).born = u.2.2 := rfl
    refine ⟨Nat.ble_eq_true_of_le (by omega), ?_⟩
    rw [Bool.eq_false_iff]; intro e
    have := Nat.le_of_ble_eq_true e
    omega
  have e1 : ((ts.map mE).filter (fun e => !memN e.born seen)).filter (fun e => Nat.ble (e.born + 1) c) = (ts.map mE).filter (fun e => !memN e.born seen) := List.filter_eq_self.2 fun e he => (hold e he).1
  have e2 : ((ts.map mE).filter (fun e => !memN e.born seen)).filter (fun e => Nat.ble c e.born) = [] := List.filter_eq_nil_iff.2 fun e he => by rw [(hold e he).2]; simp
  rw [e1, e2]
  refine allK_iff fun p hp => ?_
  rw [List.mem_append] at hp
  rcases hp with hp | hp
  · cases hq : (ts.map mE).filter (fun e => !memN e.born seen) with
    | cons a b => rw [hq] at hp; cases hp
    | nil =>
      rw [hq] at hp
      simp only [List.mem_singleton] at hp
      subst hp
      refine h2 fun u hu => ?_
      have := List.filter_eq_nil_iff.1 hq (mE u) (List.mem_map.2 ⟨u, hu, rfl⟩)
      have hb : memN (mE u).born seen = true := by simpa using this
      exact (memN_iff _ _).1 hb
  · rw [List.append_nil] at hp
    obtain ⟨e, he, rfl⟩ := List.mem_map.1 hp
    obtain ⟨he1, he2⟩ := List.mem_filter.1 he
    obtain ⟨u, hu, rfl⟩ := List.mem_map.1 he1
    refine h1 u hu fun hm => ?_
    have : memN (mE u).born seen = true := (memN_iff _ _).2 hm
    rw [this] at he2; simp at he2
theorem entry_nm {h : H} {B R c : Nat} {ts : List Te} {seen : List Nat} {u : Te} (t : MpT h B ts c) (hu : u ∈ ts) (r : Has h R (.mit B c (seen ++ [u.2.2]) c)) : entryV h (.pointer (some ⟨R, 0, none⟩)) = some (.tuple #[u.1.v, u.2.1]) := by
  unfold entryV
  simp only [r.2, List.getLast?_append, List.getLast?_singleton, Option.some_or, t.has.2, Nat.beq_refl]
  have : (ts.map mE).find? (fun e => Nat.beq e.born u.2.2) = some (mE u) := by
    cases hq : (ts.map mE).find? (fun e => Nat.beq e.born u.2.2) with
    | none =>
      have := List.find?_eq_none.1 hq (mE u) (List.mem_map.2 ⟨u, hu, rfl⟩)
      exact absurd (Nat.beq_refl _) this
    | some e =>
      have h1 := List.find?_some hq
      obtain ⟨w, hw, rfl⟩ := List.mem_map.1 (List.mem_of_find?_eq_some hq)
      have hb : w.2.2 = u.2.2 := Nat.eq_of_beq_eq_true h1
      have : w = u := nd_same t.borns hw hu hb
      rw [this]
  rw [this]
  rfl
end Go.Proofs.Ytpoedopdcpejmaa

namespace Go.Proofs.Ytpoedopdcpejmaa
open Go.Ev

/-! ### how many bits a number has -/
def chkLen2 (y : Nat) : Bool := match indexStr (.string tabS) (.int .u8 (Int.ofNat y)) with
  | some (.int .u8 (.ofNat t)) => Nat.ble t 8 && Nat.ble (y + 1) (2 ^ t) && (Nat.beq y 0 || Nat.ble (2 ^ t) (2 * y))
  | _ => false
theorem chkLen2_all : (List.range 256).all chkLen2 = true := by kernel_rfl
theorem tab2_at {y : Nat} (h : y < 256) : ∃ t : Nat, indexStr (.string tabS) (.int .u8 (y : Int)) = some (.int .u8 (t : Int)) ∧ t ≤ 8 ∧ y < 2 ^ t ∧ (0 < y → 2 ^ t ≤ 2 * y) := by
  have h1 := List.all_eq_true.1 chkLen2_all y (List.mem_range.2 h)
  unfold chkLen2 at h1
  split at h1
  · rename_i t ht
    simp only [Bool.and_eq_true, Bool.or_eq_true] at h1
    refine ⟨t, ht, Nat.le_of_ble_eq_true h1.1.1, Nat.le_of_ble_eq_true h1.1.2, fun hy => ?_⟩
    rcases h1.2 with e | e
    · have := Nat.eq_of_beq_eq_true e; omega
    · exact Nat.le_of_ble_eq_true e
  · cases h1
theorem shr_nat (x s : Nat) (hs : s ≤ 32) : binV Try.prog .shr 83 true (.int .u64 (x : Int)) (.int .u64 (s : Int)) = some (.int .u64 ((x / 2 ^ s : Nat) : Int)) := by
  rw [binV_shr2 (P := Try.prog) 83 true .u64 .u64 (x : Int) (s : Int) (by omega)]
  congr 2
  have e : min (s : Int).toNat IntKind.u64.bits = s := by rw [Int.toNat_natCast]; exact Nat.min_eq_left (by show s ≤ 64; omega)
  rw [e, Int.fdiv_eq_ediv_of_nonneg _ (by exact Int.pow_nonneg (by omega))]
  rw [show ((2 : Int) ^ s) = ((2 ^ s : Nat) : Int) from (Int.natCast_pow 2 s).symm]
  rfl

theorem len_full (L n x : Nat) (hx : x < 2 ^ 41) (h : H) : Sp (CF L (n + 1)) 38 [.int .u64 (x : Int)] h fun r h' => h' = h ∧ ∃ t : Nat, r = .int .i64 (t : Int) ∧ t ≤ 64 ∧ x < 2 ^ t ∧ (0 < x → 2 ^ t ≤ 2 * x) := by
  refine Sp.body f38 (by simp) ?_
  unfold c38
  have wu : ∀ y : Nat, y < 256 → toInt .u8 (.int .u64 (y : Int)) = some (.int .u8 (y : Int)) := fun y hy => by
    rw [toInt_int, wrapu8, Nat.mod_eq_of_lt hy]
  have wt : ∀ t : Nat, t ≤ 8 → toInt .i64 (.int .u8 (t : Int)) = some (.int .i64 (t : Int)) := fun t ht => by
    rw [toInt_int, wrap_i64 _ (by omega)]
  -- the end
  have fin : ∀ (y s : Nat) (tm : T Value), y < 256 → s ≤ 56 → (s = 0 ∨ 0 < y) → y = x / 2 ^ s → tg tm 0 = .int .u64 (y : Int) → tg tm 2 = .int .i64 (s : Int) →
      C ⟨seqC ⟨r38_10⟩ retC⟩ (CF L n) L tm h fun e tm h' => (e = .norm ∨ e = .ret) ∧ ∃ l, q38.f tm h' = some l ∧ (h' = h ∧ ∃ t : Nat, resOf l = .int .i64 (t : Int) ∧ t ≤ 64 ∧ x < 2 ^ t ∧ (0 < x → 2 ^ t ≤ 2 * x)) := fun y s tm hy hs hz hys t0 t2 => by
    obtain ⟨t, e1, e2, e3, e4⟩ := tab2_at hy
    refine C.seq fun K hK => ?_
    have w := wadd s t (by omega)
    rw [show ∀ x : CodeT, (⟨x⟩ : Box CodeT).f = x from fun _ => rfl, r38_10_eq]
    simp only [↓opStep_eq, ↓reduceIte, ↓EW, EV, Nat.reduceAdd, Nat.reduceEqDiff, Int.reduceEq, Int.reduceLT, Int.reduceLE, Int.reduceNe, seqC, retC, skipC, exitC, blockC, condC, r55x, t0, t2, wu y hy, e1, wt t e2, w]
    refine hK _ _ _ (C.ret ⟨.inr rfl, _, rfl, rfl, s + t, by simp only [↓opStep_eq, ↓reduceIte, ↓EW, EV, Nat.reduceAdd, Nat.reduceEqDiff, Int.reduceEq, Int.reduceLT, Int.reduceLE, Int.reduceNe, seqC, retC, skipC, exitC, blockC, condC, resOf], by omega, ?_, fun hx0 => ?_⟩)
    · rw [Nat.pow_add]
      have := Nat.lt_of_div_lt_div (a := x) (b := 2 ^ s * 2 ^ t) (c := 2 ^ s) (by rw [Nat.mul_div_cancel_left _ (Nat.pow_pos (by decide)), ← hys]; exact e3)
      exact this
    · rw [Nat.pow_add]
      by_cases hy0 : 0 < y
      · have h1 := e4 hy0
        have h2 : 2 ^ s * y ≤ x := by rw [hys]; exact Nat.mul_div_le x (2 ^ s)
        calc 2 ^ s * 2 ^ t ≤ 2 ^ s * (2 * y) := Nat.mul_le_mul_left _ h1
          _ = 2 * (2 ^ s * y) := by rw [Nat.mul_left_comm]
          _ ≤ 2 * x := Nat.mul_le_mul_left _ h2
      · have hy0 : y = 0 := by omega
        have hs0 : s = 0 := by omega
        subst hs0
        simp at hys
        omega
  have dd : ∀ (y s k : Nat), y = x / 2 ^ s → y / 2 ^ k = x / 2 ^ (s + k) := fun y s k e => by rw [e, Nat.div_div_eq_div_mul, Nat.pow_add]
  have st8 : ∀ (y s : Nat) (tm : T Value), y < 65536 → s ≤ 48 → (s = 0 ∨ 0 < y) → y = x / 2 ^ s → tg tm 0 = .int .u64 (y : Int) → tg tm 2 = .int .i64 (s : Int) →
      C ⟨seqC ⟨seqC ⟨r38_7⟩ ⟨condC ⟨fun _ tm => tg tm 14⟩ ⟨seqC ⟨r38_8⟩ ⟨r38_9⟩⟩ skipC⟩⟩ ⟨seqC ⟨r38_10⟩ retC⟩⟩ (CF L n) L tm h fun e tm h' => (e = .norm ∨ e = .ret) ∧ ∃ l, q38.f tm h' = some l ∧ (h' = h ∧ ∃ t : Nat, resOf l = .int .i64 (t : Int) ∧ t ≤ 64 ∧ x < 2 ^ t ∧ (0 < x → 2 ^ t ≤ 2 * x)) := fun y s tm hy hs hz hys t0 t2 => by
    refine C.seq (C.seq fun K hK => ?_)
    simp only [↓opStep_eq, ↓reduceIte, ↓EW, EV, Nat.reduceAdd, Nat.reduceEqDiff, Int.reduceEq, Int.reduceLT, Int.reduceLE, Int.reduceNe, seqC, retC, skipC, exitC, blockC, condC, r38_7, t0]
    refine hK _ _ _ (C.cond (decide ((256 : Int) ≤ (y : Int))) (by simp only [↓opStep_eq, ↓reduceIte, ↓EW, EV, Nat.reduceAdd, Nat.reduceEqDiff, Int.reduceEq, Int.reduceLT, Int.reduceLE, Int.reduceNe, seqC, retC, skipC, exitC, blockC, condC]) (fun g => ?_) fun g => C.skip ?_)
    · have g : 256 ≤ y := by have := of_decide_eq_true g; omega
      refine C.seq fun K hK => ?_
      have sh := shr_nat y 8 (by omega)
      rw [show ((8 : Nat) : Int) = 8 from rfl] at sh
      simp only [↓opStep_eq, ↓reduceIte, ↓EW, EV, Nat.reduceAdd, Nat.reduceEqDiff, Int.reduceEq, Int.reduceLT, Int.reduceLE, Int.reduceNe, seqC, retC, skipC, exitC, blockC, condC, r38_8, t0, sh]
      refine hK _ _ _ fun K hK => ?_
      have w := wadd s 8 (by omega)
      rw [show ((8 : Nat) : Int) = 8 from rfl] at w
      simp only [↓opStep_eq, ↓reduceIte, ↓EW, EV, Nat.reduceAdd, Nat.reduceEqDiff, Int.reduceEq, Int.reduceLT, Int.reduceLE, Int.reduceNe, seqC, retC, skipC, exitC, blockC, condC, r38_9, t2, w]
      exact hK _ _ _ (fin (y / 2 ^ 8) (s + 8) _ (by omega) (by omega) (.inr (by omega)) (dd y s 8 hys) (by simp only [↓opStep_eq, ↓reduceIte, ↓EW, EV, Nat.reduceAdd, Nat.reduceEqDiff, Int.reduceEq, Int.reduceLT, Int.reduceLE, Int.reduceNe, seqC, retC, skipC, exitC, blockC, condC]) (by simp only [↓opStep_eq, ↓reduceIte, ↓EW, EV, Nat.reduceAdd, Nat.reduceEqDiff, Int.reduceEq, Int.reduceLT, Int.reduceLE, Int.reduceNe, seqC, retC, skipC, exitC, blockC, condC]))
    · have g : y < 256 := by have := of_decide_eq_false g; omega
      exact fin y s _ g (by omega) hz hys (by simp only [↓opStep_eq, ↓reduceIte, ↓EW, EV, Nat.reduceAdd, Nat.reduceEqDiff, Int.reduceEq, Int.reduceLT, Int.reduceLE, Int.reduceNe, seqC, retC, skipC, exitC, blockC, condC, t0]) (by simp only [↓opStep_eq, ↓reduceIte, ↓EW, EV, Nat.reduceAdd, Nat.reduceEqDiff, Int.reduceEq, Int.reduceLT, Int.reduceLE, Int.reduceNe, seqC, retC, skipC, exitC, blockC, condC, t2])
  have st16 : ∀ (y s : Nat) (tm : T Value), y < 4294967296 → s ≤ 32 → (s = 0 ∨ 0 < y) → y = x / 2 ^ s → tg tm 0 = .int .u64 (y : Int) → tg tm 2 = .int .i64 (s : Int) →
      C ⟨seqC ⟨seqC ⟨r38_4⟩ ⟨condC ⟨fun _ tm => tg tm 8⟩ ⟨seqC ⟨r38_5⟩ ⟨r38_6⟩⟩ skipC⟩⟩ ⟨seqC ⟨seqC ⟨r38_7⟩ ⟨condC ⟨fun _ tm => tg tm 14⟩ ⟨seqC ⟨r38_8⟩ ⟨r38_9⟩⟩ skipC⟩⟩ ⟨seqC ⟨r38_10⟩ retC⟩⟩⟩ (CF L n) L tm h fun e tm h' => (e = .norm ∨ e = .ret) ∧ ∃ l, q38.f tm h' = some l ∧ (h' = h ∧ ∃ t : Nat, resOf l = .int .i64 (t : Int) ∧ t ≤ 64 ∧ x < 2 ^ t ∧ (0 < x → 2 ^ t ≤ 2 * x)) := fun y s tm hy hs hz hys t0 t2 => by
    refine C.seq (C.seq fun K hK => ?_)
    simp only [↓opStep_eq, ↓reduceIte, ↓EW, EV, Nat.reduceAdd, Nat.reduceEqDiff, Int.reduceEq, Int.reduceLT, Int.reduceLE, Int.reduceNe, seqC, retC, skipC, exitC, blockC, condC, r38_4, t0]
    refine hK _ _ _ (C.cond (decide ((65536 : Int) ≤ (y : Int))) (by simp only [↓opStep_eq, ↓reduceIte, ↓EW, EV, Nat.reduceAdd, Nat.reduceEqDiff, Int.reduceEq, Int.reduceLT, Int.reduceLE, Int.reduceNe, seqC, retC, skipC, exitC, blockC, condC]) (fun g => ?_) fun g => C.skip ?_)
    · have g : 65536 ≤ y := by have := of_decide_eq_true g; omega
      refine C.seq fun K hK => ?_
      have sh := shr_nat y 16 (by omega)
      rw [show ((16 : Nat) : Int) = 16 from rfl] at sh
      simp only [↓opStep_eq, ↓reduceIte, ↓EW, EV, Nat.reduceAdd, Nat.reduceEqDiff, Int.reduceEq, Int.reduceLT, Int.reduceLE, Int.reduceNe, seqC, retC, skipC, exitC, blockC, condC, r38_5, t0, sh]
      refine hK _ _ _ fun K hK => ?_
      have w := wadd s 16 (by omega)
      rw [show ((16 : Nat) : Int) = 16 from rfl] at w
      simp only [↓opStep_eq, ↓reduceIte, ↓EW, EV, Nat.reduceAdd, Nat.reduceEqDiff, Int.reduceEq, Int.reduceLT, Int.reduceLE, Int.reduceNe, seqC, retC, skipC, exitC, blockC, condC, r38_6, t2, w]
      exact hK _ _ _ (st8 (y / 2 ^ 16) (s + 16) _ (by omega) (by omega) (.inr (by omega)) (dd y s 16 hys) (by simp only [↓opStep_eq, ↓reduceIte, ↓EW, EV, Nat.reduceAdd, Nat.reduceEqDiff, Int.reduceEq, Int.reduceLT, Int.reduceLE, Int.reduceNe, seqC, retC, skipC, exitC, blockC, condC]) (by simp only [↓opStep_eq, ↓reduceIte, ↓EW, EV, Nat.reduceAdd, Nat.reduceEqDiff, Int.reduceEq, Int.reduceLT, Int.reduceLE, Int.reduceNe, seqC, retC, skipC, exitC, blockC, condC]))
    · have g : y < 65536 := by have := of_decide_eq_false g; omega
      exact st8 y s _ g (by omega) hz hys (by simp only [↓opStep_eq, ↓reduceIte, ↓EW, EV, Nat.reduceAdd, Nat.reduceEqDiff, Int.reduceEq, Int.reduceLT, Int.reduceLE, Int.reduceNe, seqC, retC, skipC, exitC, blockC, condC, t0]) (by simp only [↓opStep_eq, ↓reduceIte, ↓EW, EV, Nat.reduceAdd, Nat.reduceEqDiff, Int.reduceEq, Int.reduceLT, Int.reduceLE, Int.reduceNe, seqC, retC, skipC, exitC, blockC, condC, t2])
  refine C.seq fun K hK => ?_
  simp only [↓opStep_eq, ↓reduceIte, ↓EW, EV, Nat.reduceAdd, Nat.reduceEqDiff, Int.reduceEq, Int.reduceLT, Int.reduceLE, Int.reduceNe, seqC, retC, skipC, exitC, blockC, condC, r38_0]
  refine hK .norm _ _ (C.seq (C.seq fun K hK => ?_))
  simp only [↓opStep_eq, ↓reduceIte, ↓EW, EV, Nat.reduceAdd, Nat.reduceEqDiff, Int.reduceEq, Int.reduceLT, Int.reduceLE, Int.reduceNe, seqC, retC, skipC, exitC, blockC, condC, r38_1]
  refine hK _ _ _ (C.cond (decide ((4294967296 : Int) ≤ (x : Int))) (by simp only [↓opStep_eq, ↓reduceIte, ↓EW, EV, Nat.reduceAdd, Nat.reduceEqDiff, Int.reduceEq, Int.reduceLT, Int.reduceLE, Int.reduceNe, seqC, retC, skipC, exitC, blockC, condC]) (fun g => ?_) fun g => C.skip ?_)
  · have g : 4294967296 ≤ x := by have := of_decide_eq_true g; omega
    refine C.seq fun K hK => ?_
    have sh := shr_nat x 32 (by omega)
    rw [show ((32 : Nat) : Int) = 32 from rfl] at sh
    simp only [↓opStep_eq, ↓reduceIte, ↓EW, EV, Nat.reduceAdd, Nat.reduceEqDiff, Int.reduceEq, Int.reduceLT, Int.reduceLE, Int.reduceNe, seqC, retC, skipC, exitC, blockC, condC, r38_2, sh]
    refine hK _ _ _ fun K hK => ?_
    simp only [↓opStep_eq, ↓reduceIte, ↓EW, EV, Nat.reduceAdd, Nat.reduceEqDiff, Int.reduceEq, Int.reduceLT, Int.reduceLE, Int.reduceNe, seqC, retC, skipC, exitC, blockC, condC, r38_3]
    exact hK .norm _ _ (st16 (x / 2 ^ 32) 32 _ (by omega) (by omega) (.inr (by omega)) rfl (by simp only [↓opStep_eq, ↓reduceIte, ↓EW, EV, Nat.reduceAdd, Nat.reduceEqDiff, Int.reduceEq, Int.reduceLT, Int.reduceLE, Int.reduceNe, seqC, retC, skipC, exitC, blockC, condC]) (by simp only [↓opStep_eq, ↓reduceIte, ↓EW, EV, Nat.reduceAdd, Nat.reduceEqDiff, Int.reduceEq, Int.reduceLT, Int.reduceLE, Int.reduceNe, seqC, retC, skipC, exitC, blockC, condC] <;> rfl))
  · have g : x < 4294967296 := by have := of_decide_eq_false g; omega
    exact st16 x 0 _ g (by omega) (.inl rfl) (by simp) (by simp only [↓opStep_eq, ↓reduceIte, ↓EW, EV, Nat.reduceAdd, Nat.reduceEqDiff, Int.reduceEq, Int.reduceLT, Int.reduceLE, Int.reduceNe, seqC, retC, skipC, exitC, blockC, condC]) (by simp only [↓opStep_eq, ↓reduceIte, ↓EW, EV, Nat.reduceAdd, Nat.reduceEqDiff, Int.reduceEq, Int.reduceLT, Int.reduceLE, Int.reduceNe, seqC, retC, skipC, exitC, blockC, condC] <;> rfl)

/-! ### rings and places -/
/-- the highest ring in which two moments differ -/
def Rg (a b r : Nat) : Prop := r ≤ 6 ∧ a / 64 ^ (r + 1) = b / 64 ^ (r + 1) ∧ a / 64 ^ r ≠ b / 64 ^ r
def MAXT : Nat := 1099511627776

theorem xor_zero {a b : Nat} (h : a ^^^ b = 0) : a = b := by
  have : a ^^^ b ^^^ b = b := by rw [h, Nat.zero_xor]
  rwa [Nat.xor_assoc, Nat.xor_self, Nat.xor_zero] at this
theorem xor_div (a b k : Nat) : (a ^^^ b) / 2 ^ k = (a / 2 ^ k) ^^^ (b / 2 ^ k) := by
  rw [← Nat.shiftRight_eq_div_pow, ← Nat.shiftRight_eq_div_pow, ← Nat.shiftRight_eq_div_pow, Nat.shiftRight_xor_distrib]
theorem pow64 (r : Nat) : 64 ^ r = 2 ^ (6 * r) := by rw [Nat.pow_mul]
theorem rg_of {a b t : Nat} (ha : a ≤ MAXT) (hb : b ≤ MAXT) (h1 : a ^^^ b < 2 ^ t) (h2 : 2 ^ t ≤ 2 * (a ^^^ b)) (ht : 1 ≤ t) : Rg a b ((t - 1) / 6) := by
  have hx : a ^^^ b < 2 ^ 41 := Nat.xor_lt_two_pow (by unfold MAXT at ha; omega) (by unfold MAXT at hb; omega)
  have ht2 : t ≤ 41 := by
    apply Decidable.byContradiction; intro hn
    have : 2 ^ 42 ≤ 2 ^ t := Nat.pow_le_pow_right (by decide) (by omega)
    omega
  refine ⟨by omega, ?_, fun he => ?_⟩
  · rw [pow64]
    apply xor_zero
    rw [← xor_div]
    exact Nat.div_eq_of_lt (Nat.lt_of_lt_of_le h1 (Nat.pow_le_pow_right (by decide) (by omega)))
  · have e0 : (a ^^^ b) / 64 ^ ((t - 1) / 6) = 0 := by rw [pow64, xor_div, ← pow64, he, Nat.xor_self]
    have hpos : 0 < 64 ^ ((t - 1) / 6) := Nat.pow_pos (by decide)
    have hlt := (Nat.div_eq_zero_iff_lt hpos).1 e0
    rw [pow64] at hlt
    have h3 : 2 ^ (6 * ((t - 1) / 6)) ≤ 2 ^ (t - 1) := Nat.pow_le_pow_right (by decide) (by omega)
    have h4 : 2 ^ t = 2 * 2 ^ (t - 1) := by
      obtain ⟨u, rfl⟩ : ∃ u, t = u + 1 := ⟨t - 1, by omega⟩
      rw [Nat.add_sub_cancel, Nat.pow_succ, Nat.mul_comm]
    omega
theorem Rg.uniq {a b r s : Nat} (h : Rg a b r) (g : Rg a b s) : r = s := by
  have key : ∀ {r s}, Rg a b r → Rg a b s → ¬ r < s := fun {r s} h g hlt => by
    apply g.2.2
    obtain ⟨d, rfl⟩ : ∃ d, s = r + 1 + d := ⟨s - (r + 1), by omega⟩
    rw [Nat.pow_add, ← Nat.div_div_eq_div_mul, ← Nat.div_div_eq_div_mul, h.2.1]
  rcases Nat.lt_trichotomy r s with e | e | e
  · exact absurd e (key h g)
  · exact e
  · exact absurd e (key g h)

theorem ring_law (L n a b : Nat) (ha : a ≤ MAXT) (hb : b ≤ MAXT) (h : H) : Sp (CF L (n + 2)) 23 [.int .i64 (a : Int), .int .i64 (b : Int)] h fun r h' => h' = h ∧ ((a = b ∧ r = .int .i64 (-1)) ∨ ∃ g, Rg a b g ∧ r = .int .i64 (g : Int)) := by
  refine Sp.body f23 (by simp) ?_
  unfold c23
  refine C.seq fun K hK => ?_
  simp only [↓opStep_eq, ↓reduceIte, ↓EW, EV, Nat.reduceAdd, Nat.reduceEqDiff, Int.reduceEq, Int.reduceLT, Int.reduceLE, Int.reduceNe, seqC, retC, skipC, exitC, blockC, condC, r23_0]
  refine hK .norm _ _ (C.seq (C.seq fun K hK => ?_))
  simp only [↓opStep_eq, ↓reduceIte, ↓EW, EV, Nat.reduceAdd, Nat.reduceEqDiff, Int.reduceEq, Int.reduceLT, Int.reduceLE, Int.reduceNe, seqC, retC, skipC, exitC, blockC, condC, r23_1]
  refine hK _ _ _ (C.cond (decide ((a : Int) = (b : Int))) (by simp only [↓opStep_eq, ↓reduceIte, ↓EW, EV, Nat.reduceAdd, Nat.reduceEqDiff, Int.reduceEq, Int.reduceLT, Int.reduceLE, Int.reduceNe, seqC, retC, skipC, exitC, blockC, condC]) (fun g => C.seq fun K hK => ?_) fun g => C.skip (C.seq fun K hK => ?_))
  · simp only [↓opStep_eq, ↓reduceIte, ↓EW, EV, Nat.reduceAdd, Nat.reduceEqDiff, Int.reduceEq, Int.reduceLT, Int.reduceLE, Int.reduceNe, seqC, retC, skipC, exitC, blockC, condC, r23_2]
    exact hK .norm _ _ (C.ret ⟨.inr rfl, _, rfl, rfl, .inl ⟨by have := of_decide_eq_true g; omega, by simp only [↓opStep_eq, ↓reduceIte, ↓EW, EV, Nat.reduceAdd, Nat.reduceEqDiff, Int.reduceEq, Int.reduceLT, Int.reduceLE, Int.reduceNe, seqC, retC, skipC, exitC, blockC, condC, resOf]⟩⟩)
  · have hne : a ≠ b := by have := of_decide_eq_false g; omega
    have hx : a ^^^ b < 2 ^ 41 := Nat.xor_lt_two_pow (by unfold MAXT at ha; omega) (by unfold MAXT at hb; omega)
    have hx0 : 0 < a ^^^ b := Nat.pos_of_ne_zero fun e => hne (xor_zero e)
    have ex : IntKind.i64.wrap (BitVec.ofInt IntKind.i64.bits (a : Int) ^^^ BitVec.ofInt IntKind.i64.bits (b : Int)).toNat = ((a ^^^ b : Nat) : Int) := by
      have : (BitVec.ofInt IntKind.i64.bits (a : Int) ^^^ BitVec.ofInt IntKind.i64.bits (b : Int)).toNat = a ^^^ b := by
        show (BitVec.ofInt 64 (a : Int) ^^^ BitVec.ofInt 64 (b : Int)).toNat = a ^^^ b
        rw [BitVec.toNat_xor, BitVec.ofInt_natCast, BitVec.ofInt_natCast, BitVec.toNat_ofNat, BitVec.toNat_ofNat, Nat.mod_eq_of_lt (by unfold MAXT at ha; omega), Nat.mod_eq_of_lt (by unfold MAXT at hb; omega)]
      rw [this, wrap_i64 _ (by omega)]
    have eu : toInt .u64 (.int .i64 ((a ^^^ b : Nat) : Int)) = some (.int .u64 ((a ^^^ b : Nat) : Int)) := by
      rw [toInt_int, wrap_eq] <;> simp [IntKind.min, IntKind.max, IntKind.bits, IntKind.signed] <;> omega
    simp only [↓opStep_eq, ↓reduceIte, ↓EW, EV, Nat.reduceAdd, Nat.reduceEqDiff, Int.reduceEq, Int.reduceLT, Int.reduceLE, Int.reduceNe, seqC, retC, skipC, exitC, blockC, condC, r23_3, binV_xor, ex, eu]
    refine len_full L n (a ^^^ b) hx h _ fun r h2 hq => ?_
    obtain ⟨rfl, t, rfl, ht, h1, h2⟩ := hq
    have h2 := h2 hx0
    have ht1 : 1 ≤ t := by
      apply Decidable.byContradiction; intro hn
      have : t = 0 := by omega
      subst this
      rw [Nat.pow_zero] at h1
      omega
    have w := wsub1 t ht1 (by omega)
    have q := quo_nat 3 true (t - 1) 6 (by omega) (by omega)
    rw [show ((6 : Nat) : Int) = 6 from rfl] at q
    simp only [↓opStep_eq, ↓reduceIte, ↓EW, EV, Nat.reduceAdd, Nat.reduceEqDiff, Int.reduceEq, Int.reduceLT, Int.reduceLE, Int.reduceNe, seqC, retC, skipC, exitC, blockC, condC, w, q]
    exact hK _ _ _ (C.ret ⟨.inr rfl, _, rfl, rfl, .inr ⟨(t - 1) / 6, rg_of ha hb h1 h2 ht1, by simp only [↓opStep_eq, ↓reduceIte, ↓EW, EV, Nat.reduceAdd, Nat.reduceEqDiff, Int.reduceEq, Int.reduceLT, Int.reduceLE, Int.reduceNe, seqC, retC, skipC, exitC, blockC, condC, resOf]⟩⟩)

def plc64 (x r : Nat) : Nat := x / 64 ^ r % 64
theorem plc64_lt (x r : Nat) : plc64 x r < 64 := Nat.mod_lt _ (by decide)
theorem place_law (L n x r : Nat) (hx : x ≤ MAXT) (hr : r ≤ 6) (h : H) : Sp (CF L (n + 1)) 24 [.int .i64 (x : Int), .int .i64 (r : Int)] h fun v h' => h' = h ∧ v = .int .i64 (plc64 x r : Int) := by
  refine Sp.body f24 (by simp) ?_
  unfold c24
  refine C.seq fun K hK => ?_
  simp only [↓opStep_eq, ↓reduceIte, ↓EW, EV, Nat.reduceAdd, Nat.reduceEqDiff, Int.reduceEq, Int.reduceLT, Int.reduceLE, Int.reduceNe, seqC, retC, skipC, exitC, blockC, condC, r24_0]
  refine hK .norm _ _ (C.seq fun K hK => ?_)
  have w : IntKind.i64.wrap ((r : Int) * 6) = ((r * 6 : Nat) : Int) := by
    rw [show (r : Int) * 6 = ((r * 6 : Nat) : Int) by omega, wrap_i64 _ (by omega)]
  have sh : binV Try.prog .shr 3 false (.int .i64 (x : Int)) (.int .i64 ((r * 6 : Nat) : Int)) = some (.int .i64 ((x / 64 ^ r : Nat) : Int)) := by
    rw [binV_shr2 (P := Try.prog) 3 false .i64 .i64 (x : Int) ((r * 6 : Nat) : Int) (by omega)]
    congr 2
    have e : min ((r * 6 : Nat) : Int).toNat IntKind.i64.bits = r * 6 := by rw [Int.toNat_natCast]; exact Nat.min_eq_left (by show r * 6 ≤ 64; omega)
    rw [e, Int.fdiv_eq_ediv_of_nonneg _ (by exact Int.pow_nonneg (by omega))]
    rw [show ((2 : Int) ^ (r * 6)) = ((2 ^ (r * 6) : Nat) : Int) from (Int.natCast_pow 2 (r * 6)).symm, pow64, Nat.mul_comm r 6]
    rfl
  have ea : binV Try.prog .and 3 true (.int .i64 ((x / 64 ^ r : Nat) : Int)) (.int .i64 63) = some (.int .i64 ((plc64 x r : Nat) : Int)) := by
    rw [binV_and]
    have hle : x / 64 ^ r ≤ x := Nat.div_le_self _ _
    have : (BitVec.ofInt IntKind.i64.bits ((x / 64 ^ r : Nat) : Int) &&& BitVec.ofInt IntKind.i64.bits 63).toNat = plc64 x r := by
      show (BitVec.ofInt 64 ((x / 64 ^ r : Nat) : Int) &&& BitVec.ofInt 64 ((63 : Nat) : Int)).toNat = plc64 x r
      rw [BitVec.toNat_and, BitVec.ofInt_natCast, BitVec.ofInt_natCast, BitVec.toNat_ofNat, BitVec.toNat_ofNat, Nat.mod_eq_of_lt (by unfold MAXT at hx; omega), Nat.mod_eq_of_lt (by omega)]
      exact Nat.and_two_pow_sub_one_eq_mod _ 6
    rw [this, wrap_i64 _ (by have := plc64_lt x r; omega)]
  simp only [↓opStep_eq, ↓reduceIte, ↓EW, EV, Nat.reduceAdd, Nat.reduceEqDiff, Int.reduceEq, Int.reduceLT, Int.reduceLE, Int.reduceNe, seqC, retC, skipC, exitC, blockC, condC, r24_1, w, sh, ea]
  exact hK _ _ _ (C.ret ⟨.inr rfl, _, rfl, rfl, by simp only [↓opStep_eq, ↓reduceIte, ↓EW, EV, Nat.reduceAdd, Nat.reduceEqDiff, Int.reduceEq, Int.reduceLT, Int.reduceLE, Int.reduceNe, seqC, retC, skipC, exitC, blockC, condC, resOf]⟩)
end Go.Proofs.Ytpoedopdcpejmaa

namespace Go.Proofs.Ytpoedopdcpejmaa
open Go.Ev

/-! ### which slot -/
def rgF (a b : Nat) : Nat := if a / 64 ^ 6 ≠ b / 64 ^ 6 then 6 else if a / 64 ^ 5 ≠ b / 64 ^ 5 then 5 else if a / 64 ^ 4 ≠ b / 64 ^ 4 then 4 else if a / 64 ^ 3 ≠ b / 64 ^ 3 then 3 else if a / 64 ^ 2 ≠ b / 64 ^ 2 then 2 else if a / 64 ^ 1 ≠ b / 64 ^ 1 then 1 else 0
theorem rgF_ok {a b : Nat} (ha : a ≤ MAXT) (hb : b ≤ MAXT) (hne : a ≠ b) : Rg a b (rgF a b) := by
  have e7 : a / 64 ^ 7 = b / 64 ^ 7 := by
    unfold MAXT at ha hb
    rw [Nat.div_eq_of_lt (by omega), Nat.div_eq_of_lt (by omega)]
  unfold rgF
  split
  · rename_i h; exact ⟨by omega, e7, h⟩
  · rename_i h6
    have h6 : a / 64 ^ 6 = b / 64 ^ 6 := Decidable.not_not.1 h6
    split
    · rename_i h; exact ⟨by omega, h6, h⟩
    · rename_i h5
      have h5 : a / 64 ^ 5 = b / 64 ^ 5 := Decidable.not_not.1 h5
      split
      · rename_i h; exact ⟨by omega, h5, h⟩
      · rename_i h4
        have h4 : a / 64 ^ 4 = b / 64 ^ 4 := Decidable.not_not.1 h4
        split
        · rename_i h; exact ⟨by omega, h4, h⟩
        · rename_i h3
          have h3 : a / 64 ^ 3 = b / 64 ^ 3 := Decidable.not_not.1 h3
          split
          · rename_i h; exact ⟨by omega, h3, h⟩
          · rename_i h2
            have h2 : a / 64 ^ 2 = b / 64 ^ 2 := Decidable.not_not.1 h2
            split
            · rename_i h; exact ⟨by omega, h2, h⟩
            · rename_i h1
              have h1 : a / 64 ^ 1 = b / 64 ^ 1 := Decidable.not_not.1 h1
              exact ⟨by omega, h1, by simpa using hne⟩
theorem Rg.eq {a b r : Nat} (ha : a ≤ MAXT) (hb : b ≤ MAXT) (h : Rg a b r) : r = rgF a b := by
  have hne : a ≠ b := fun e => by subst e; exact h.2.2 rfl
  exact h.uniq (rgF_ok ha hb hne)
theorem rgF_le (a b : Nat) : rgF a b ≤ 6 := by
  unfold rgF
  repeat' split
  all_goals omega
def slotN (now u : Nat) : Nat := rgF now u * 64 + plc64 u (rgF now u)
theorem slotN_lt (now u : Nat) : slotN now u < 448 := by
  have := rgF_le now u
  have := plc64_lt u (rgF now u)
  unfold slotN; omega

/-! ### the wheel in memory -/
abbrev En := Nm × Nat
def untilM (l : List En) : List (Nm × Value) := l.map fun e => (e.1, .int .i64 (e.2 : Int))
def slotM (k : List Nm) : List (Nm × Value) := k.map fun x => (x, .bool true)
def wcells (now U : Nat) (sv : List Value) : List Value := .int .i64 (now : Int) :: Value.map (some U) :: (sv ++ [.bool true])

structure Wm (O : Nat → Prop) (h : H) (b U now : Nat) (l : List En) (sv : List Value) (ks : Nat → List Nm) : Prop where
  hb : Has h b (.rw (wcells now U sv))
  ob : O b
  un : Mp h U (untilM l)
  oU : O U
  neU : U ≠ b
  len : sv.length = 448
  slot : ∀ i v, sv[i]? = some v → (v = Value.map none ∧ ks i = []) ∨ ∃ B, v = Value.map (some B) ∧ Mp h B (slotM (ks i)) ∧ O B ∧ B ≠ b ∧ B ≠ U
  apart : ∀ (i j B : Nat), sv[i]? = some (Value.map (some B)) → sv[j]? = some (Value.map (some B)) → i = j
  far : ∀ c, O c → c < h.next

/-- what a call may turn: the wheel's own blocks, and new ones -/
structure Fw (O : Nat → Prop) (h : H) (O' : Nat → Prop) (h' : H) : Prop where
  keep : Keep O h h'
  same : ∀ c, c < h.next → O' c → O c
theorem Fw.refl (O : Nat → Prop) (h : H) : Fw O h O h := ⟨.refl _ _, fun _ _ h => h⟩
theorem Fw.trans {O O1 O2 : Nat → Prop} {h h1 h2 : H} (a : Fw O h O1 h1) (b : Fw O1 h1 O2 h2) : Fw O h O2 h2 :=
  ⟨a.keep.trans b.keep fun c hc hn => a.same c hc hn, fun c hc ho => a.same c hc (b.same c (Nat.lt_of_lt_of_le hc a.keep.next) ho)⟩
theorem Fw.of0 {O : Nat → Prop} {h h' : H} (k : Keep nobody h h') : Fw O h O h' := ⟨k.mono fun _ _ h => h.elim, fun _ _ h => h⟩
theorem Fw.has {O O' : Nat → Prop} {h h' : H} (a : Fw O h O' h') {c : Nat} {x : AObj} (hb : Has h c x) (ho : ¬ O c) : Has h' c x := hb.keep a.keep ho

theorem Wm.keepO {O S : Nat → Prop} {h h' : H} {b U now : Nat} {l : List En} {sv : List Value} {ks : Nat → List Nm} (w : Wm O h b U now l sv ks) (k : Keep S h h') (hs : ∀ c, S c → ¬ O c) : Wm O h' b U now l sv ks where
  hb := w.hb.keep k fun e => hs b e w.ob
  ob := w.ob
  un := w.un.keep k fun e => hs U e w.oU
  oU := w.oU
  neU := w.neU
  len := w.len
  slot := fun i v hv => by
    rcases w.slot i v hv with h1 | ⟨B, h1, h2, h3, h4⟩
    · exact .inl h1
    · exact .inr ⟨B, h1, h2.keep k fun e => hs B e h3, h3, h4⟩
  apart := w.apart
  far := fun c hc => Nat.lt_of_lt_of_le (w.far c hc) k.next
theorem Wm.keep0 {O : Nat → Prop} {h h' : H} {b U now : Nat} {l : List En} {sv : List Value} {ks : Nat → List Nm} (w : Wm O h b U now l sv ks) (k : Keep nobody h h') : Wm O h' b U now l sv ks := w.keepO k fun _ e => e.elim
theorem Wm.congr {O : Nat → Prop} {h : H} {b U now : Nat} {l l' : List En} {sv : List Value} {ks ks' : Nat → List Nm} (w : Wm O h b U now l sv ks) (pl : l.Perm l') (pk : ∀ i, i < 448 → (ks i).Perm (ks' i)) : Wm O h b U now l' sv ks' where
  hb := w.hb
  ob := w.ob
  un := w.un.perm (pl.map _)
  oU := w.oU
  neU := w.neU
  len := w.len
  slot := fun i v hv => by
    have hi : i < 448 := by rw [← w.len]; exact (List.getElem?_eq_some_iff.1 hv).1
    rcases w.slot i v hv with ⟨h1, h2⟩ | ⟨B, h1, h2, h3⟩
    · have := pk i hi
      rw [h2] at this
      exact .inl ⟨h1, this.symm.eq_nil⟩
    · exact .inr ⟨B, h1, h2.perm ((pk i hi).map _), h3⟩
  apart := w.apart
  far := w.far

section
variable {O : Nat → Prop} {h : H} {b U now : Nat} {l : List En} {sv : List Value} {ks : Nat → List Nm}
theorem Wm.ldNow (w : Wm O h b U now l sv ks) (s) : loadOne h (.pointer (some ⟨b, 0, s⟩)) = some (.int .i64 (now : Int)) := by rw [loadOne_has w.hb rfl]; rfl
theorem Wm.ldUn (w : Wm O h b U now l sv ks) (s) : loadOne h (.pointer (some ⟨b, 1, s⟩)) = some (Value.map (some U)) := by rw [loadOne_has w.hb rfl]; rfl
theorem Wm.ldMade (w : Wm O h b U now l sv ks) (s) : loadOne h (.pointer (some ⟨b, 450, s⟩)) = some (.bool true) := by
  rw [loadOne_has w.hb rfl]
  show ((sv ++ [Value.bool true]))[448]? = _
  rw [List.getElem?_append_right (by rw [w.len]; omega), w.len]; rfl
theorem Wm.ldSlot (w : Wm O h b U now l sv ks) {i : Nat} (hi : i < 448) : ∃ v, sv[i]? = some v ∧ ∀ s, loadOne h (.pointer (some ⟨b, 2 + i, s⟩)) = some v := by
  have hl : i < sv.length := by rw [w.len]; exact hi
  refine ⟨sv[i], List.getElem?_eq_getElem hl, fun s => ?_⟩
  rw [loadOne_has w.hb rfl]
  show (Value.int .i64 (now : Int) :: Value.map (some U) :: (sv ++ [Value.bool true]))[2 + i]? = _
  rw [Nat.add_comm, List.getElem?_cons_succ, List.getElem?_cons_succ, List.getElem?_append_left hl, List.getElem?_eq_getElem hl]
theorem wcells_len (w : Wm O h b U now l sv ks) : (wcells now U sv).length = 451 := by
  unfold wcells
  simp [w.len]
theorem stMap {h : H} {b o : Nat} {s} {cs : List Value} {m : Option Nat} (a : Has h b (.rw cs)) (ho : o < cs.length) : storeV 1 h (.pointer (some ⟨b, o, s⟩)) (.map m) = some (h.put b (.rw (cs.set o (.map m)))) := store_one a ho rfl rfl

/-- the map that a slot has is another one -/
theorem Wm.setMap (w : Wm O h b U now l sv ks) {i B : Nat} (hv : sv[i]? = some (Value.map (some B))) {o : AObj} {k : List Nm} (hm : Mp (h.put B o) B (slotM k)) (ks' : Nat → List Nm) (h1 : ks' i = k) (h2 : ∀ j, j ≠ i → ks' j = ks j) : Wm O (h.put B o) b U now l sv ks' := by
  rcases w.slot i _ hv with ⟨e, _⟩ | ⟨B', e, hB, oB, nb, nU⟩
  · cases e
  · simp only [Value.map.injEq, Option.some.injEq] at e
    subst e
    have kp := Keep.put h B o
    refine ⟨w.hb.keep kp fun e => nb e.symm, w.ob, w.un.keep kp fun e => nU e.symm, w.oU, w.neU, w.len, fun j v hj => ?_, w.apart, w.far⟩
    by_cases hij : j = i
    · subst hij
      rw [hv] at hj; cases hj
      exact .inr ⟨B, rfl, by rw [h1]; exact hm, oB, nb, nU⟩
    · rw [h2 j hij]
      rcases w.slot j v hj with e | ⟨C, e, hC, oC, nb', nU'⟩
      · exact .inl e
      · refine .inr ⟨C, e, hC.keep kp fun e2 => ?_, oC, nb', nU'⟩
        subst e2
        rw [e] at hj
        exact hij (w.apart j i C hj hv)
/-- the until map is another one -/
theorem Wm.setUn (w : Wm O h b U now l sv ks) {o : AObj} {l' : List En} (hm : Mp (h.put U o) U (untilM l')) : Wm O (h.put U o) b U now l' sv ks := by
  have kp := Keep.put h U o
  refine ⟨w.hb.keep kp fun e => w.neU e.symm, w.ob, hm, w.oU, w.neU, w.len, fun j v hj => ?_, w.apart, w.far⟩
  rcases w.slot j v hj with e | ⟨C, e, hC, oC, nb', nU'⟩
  · exact .inl e
  · exact .inr ⟨C, e, hC.keep kp fun e2 => nU' e2, oC, nb', nU'⟩
theorem wset (now U : Nat) (sv : List Value) (i : Nat) (v : Value) (hi : i < sv.length) : (wcells now U sv).set (2 + i) v = wcells now U (sv.set i v) := by
  unfold wcells
  rw [Nat.add_comm, List.set_cons_succ, List.set_cons_succ, List.set_append_left _ _ hi]
/-- a slot has a new map -/
theorem Wm.fresh (w : Wm O h b U now l sv ks) {i B : Nat} (hi : i < 448) (hB : Mp h B []) (nO : ¬ O B) (hk : ks i = []) : Wm (fun c => O c ∨ c = B) (h.put b (.rw (wcells now U (sv.set i (Value.map (some B)))))) b U now l (sv.set i (Value.map (some B))) ks := by
  have kp := Keep.put h b (.rw (wcells now U (sv.set i (Value.map (some B)))))
  have hl : i < sv.length := by rw [w.len]; exact hi
  have nb : B ≠ b := fun e => nO (by rw [e]; exact w.ob)
  have nU : B ≠ U := fun e => nO (by rw [e]; exact w.oU)
  refine ⟨.put w.hb.1, .inl w.ob, w.un.keep kp fun e => w.neU e, .inl w.oU, w.neU, by rw [List.length_set]; exact w.len, fun j v hj => ?_, fun j j' C h1 h2 => ?_, fun c hc => ?_⟩
  · rw [List.getElem?_set] at hj
    by_cases e : i = j
    · subst e
      rw [if_pos rfl, if_pos hl] at hj
      cases hj
      exact .inr ⟨B, rfl, by rw [hk]; exact hB.keep kp nb, .inr rfl, nb, nU⟩
    · rw [if_neg e] at hj
      rcases w.slot j v hj with e | ⟨C, e, hC, oC, nb', nU'⟩
      · exact .inl e
      · exact .inr ⟨C, e, hC.keep kp nb', .inl oC, nb', nU'⟩
  · have old : ∀ j, j ≠ i → (sv.set i (Value.map (some B)))[j]? = some (Value.map (some C)) → sv[j]? = some (Value.map (some C)) ∧ C ≠ B := fun j hne hj => by
      rw [List.getElem?_set_ne (Ne.symm hne)] at hj
      refine ⟨hj, fun e => ?_⟩
      rcases w.slot j _ hj with ⟨e', _⟩ | ⟨C', e', _, oC, _⟩
      · cases e'
      · simp only [Value.map.injEq, Option.some.injEq] at e'
        exact nO (by rw [← e, e']; exact oC)
    have at_i : (sv.set i (Value.map (some B)))[i]? = some (Value.map (some B)) := by rw [List.getElem?_set_self hl]
    by_cases e1 : j = i
    · by_cases e2 : j' = i
      · rw [e1, e2]
      · exfalso
        subst e1
        rw [at_i] at h1
        simp only [Option.some.injEq, Value.map.injEq] at h1
        exact (old j' e2 h2).2 h1.symm
    · by_cases e2 : j' = i
      · exfalso
        subst e2
        rw [at_i] at h2
        simp only [Option.some.injEq, Value.map.injEq] at h2
        exact (old j e1 h1).2 h2.symm
      · exact w.apart j j' C (old j e1 h1).1 (old j' e2 h2).1
  · rcases hc with hc | hc
    · exact w.far c hc
    · rw [hc]; exact hB.lt
/-- a slot has none -/
theorem Wm.clear (w : Wm O h b U now l sv ks) {i : Nat} (hi : i < 448) (ks' : Nat → List Nm) (h1 : ks' i = []) (h2 : ∀ j, j ≠ i → ks' j = ks j) : Wm O (h.put b (.rw (wcells now U (sv.set i (Value.map none))))) b U now l (sv.set i (Value.map none)) ks' := by
  have kp := Keep.put h b (.rw (wcells now U (sv.set i (Value.map none))))
  have hl : i < sv.length := by rw [w.len]; exact hi
  refine ⟨.put w.hb.1, w.ob, w.un.keep kp fun e => w.neU e, w.oU, w.neU, by rw [List.length_set]; exact w.len, fun j v hj => ?_, fun j j' C h1 h2 => ?_, w.far⟩
  · rw [List.getElem?_set] at hj
    by_cases e : i = j
    · subst e
      rw [if_pos rfl, if_pos hl] at hj
      cases hj
      exact .inl ⟨rfl, h1⟩
    · rw [if_neg e] at hj
      rw [h2 j (Ne.symm e)]
      rcases w.slot j v hj with e | ⟨C, e, hC, oC, nb', nU'⟩
      · exact .inl e
      · exact .inr ⟨C, e, hC.keep kp nb', oC, nb', nU'⟩
  · have old : ∀ j, (sv.set i (Value.map none))[j]? = some (Value.map (some C)) → sv[j]? = some (Value.map (some C)) := fun j hj => by
      by_cases e : i = j
      · subst e; rw [List.getElem?_set_self hl] at hj; cases hj
      · rwa [List.getElem?_set_ne e] at hj
    exact w.apart j j' C (old j h1) (old j' h2)
/-- the clock is another one -/
theorem Wm.setNow (w : Wm O h b U now l sv ks) (now' : Nat) : Wm O (h.put b (.rw (wcells now' U sv))) b U now' l sv ks := by
  have kp := Keep.put h b (.rw (wcells now' U sv))
  refine ⟨.put w.hb.1, w.ob, w.un.keep kp fun e => w.neU e, w.oU, w.neU, w.len, fun j v hj => ?_, w.apart, w.far⟩
  rcases w.slot j v hj with e | ⟨C, e, hC, oC, nb', nU'⟩
  · exact .inl e
  · exact .inr ⟨C, e, hC.keep kp nb', oC, nb', nU'⟩
theorem Wm.put_fw {c : Nat} (hc : O c) (x : AObj) : Fw O h O (h.put c x) := ⟨(Keep.put h c x).mono fun d _ e => by rw [e]; exact hc, fun _ _ h => h⟩
end
end Go.Proofs.Ytpoedopdcpejmaa

namespace Go.Proofs.Ytpoedopdcpejmaa
open Go.Ev

theorem ptr_nil (a : Addr) : binV Try.prog .eql 25 true (.pointer (some a)) (.pointer none) = some (.bool false) := by kernel_rfl
theorem map_nil : binV Try.prog .eql 50 true (.map none) (.map none) = some (.bool true) := by kernel_rfl
theorem map_nnil (B : Nat) : binV Try.prog .eql 50 true (.map (some B)) (.map none) = some (.bool false) := by kernel_rfl
theorem veq_nm (t : Int) (k : ByteArray) : veq 64 (nameV t k) (nameV t k) = true := by
  have e1 : iEq t t = true := by rw [iEq_dec]; simp
  have e2 : leB k.data.toList k.data.toList = true := by rw [leB_eq]; simp
  show veq.vlq (veq 63) [Value.int .i64 t, .string k] [Value.int .i64 t, .string k] = true
  simp [veq.vlq, veq, e1, e2, kEq_self]
theorem hO_nm (t : Int) (k : ByteArray) (b : Bool) : hO (some (nameV t k)) (nameV t k) b = b := by
  unfold hO
  simp only [veq_nm]

section
variable {O : Nat → Prop} {h : H} {b U now : Nat} {l : List En} {sv : List Value} {ks : Nat → List Nm}
theorem none22_law (L n : Nat) (w : Wm O h b U now l sv ks) : Sp (CF L (n + 1)) 22 [.pointer (some ⟨b, 0, none⟩)] h fun r h' => r = .bool false ∧ h' = h := by
  refine Sp.body f22 (by simp) ?_
  unfold c22
  refine C.seq fun K hK => ?_
  simp only [↓opStep_eq, ↓reduceIte, ↓EW, EV, Nat.reduceAdd, Nat.reduceEqDiff, Int.reduceEq, Int.reduceLT, Int.reduceLE, Int.reduceNe, seqC, retC, skipC, exitC, blockC, condC, r22_0]
  refine hK .norm _ _ (C.seq fun K hK => ?_)
  simp only [↓opStep_eq, ↓reduceIte, ↓EW, EV, Nat.reduceAdd, Nat.reduceEqDiff, Int.reduceEq, Int.reduceLT, Int.reduceLE, Int.reduceNe, seqC, retC, skipC, exitC, blockC, condC, Bool.true_or, Bool.false_or, Bool.or_true, Bool.or_false, Bool.true_and, Bool.false_and, Bool.and_true, Bool.and_false, r22_1, ptr_nil, nilChk_some, w.ldMade]
  exact hK _ _ _ (C.ret ⟨.inr rfl, _, rfl, by simp only [↓opStep_eq, ↓reduceIte, ↓EW, EV, Nat.reduceAdd, Nat.reduceEqDiff, Int.reduceEq, Int.reduceLT, Int.reduceLE, Int.reduceNe, seqC, retC, skipC, exitC, blockC, condC, resOf], rfl⟩)

theorem r32_3_eq {call : CallT} {L : Nat} {tm : T Value} {h : H} {K : KE} {nb : Nat} {t : Int} {k : ByteArray} (hb : Has h nb (.rw [.int .i64 t, .string k])) (t3 : tg tm 3 = .pointer (some ⟨nb, 0, none⟩)) :
    r32_3 call L tm [] h K = K .norm (T.set tm 8 (.bool (!decide (validN t k)))) [] h := by
  have ld : ∀ o s, loadOne h (.pointer (some ⟨nb, o, s⟩)) = [.int .i64 t, .string k][o]? := fun o s => loadOne_has hb rfl
  have e0 : ∀ t c, binV Try.prog .eql t c (.string k) (.string (strB [])) = some (.bool (decide ((k.size : Int) = 0))) := fun t c => str_empty t c k
  by_cases h1 : t < 0
  · have : ¬ validN t k := fun h => by have := h.1; omega
    simp only [↓opStep_eq, ↓reduceIte, ↓EW, EV, Nat.reduceAdd, Nat.reduceEqDiff, Int.reduceEq, Int.reduceLT, Int.reduceLE, Int.reduceNe, seqC, retC, skipC, exitC, blockC, condC, Bool.true_or, Bool.false_or, Bool.or_true, Bool.or_false, Bool.true_and, Bool.false_and, Bool.and_true, Bool.and_false, r32_3, t3, ld, h1, this]
  · by_cases h2 : 4 ≤ t
    · have : ¬ validN t k := fun h => by have := h.2.1; omega
      simp only [↓opStep_eq, ↓reduceIte, ↓EW, EV, Nat.reduceAdd, Nat.reduceEqDiff, Int.reduceEq, Int.reduceLT, Int.reduceLE, Int.reduceNe, seqC, retC, skipC, exitC, blockC, condC, Bool.true_or, Bool.false_or, Bool.or_true, Bool.or_false, Bool.true_and, Bool.false_and, Bool.and_true, Bool.and_false, r32_3, t3, ld, h1, h2, this]
    · by_cases h3 : (k.size : Int) = 0
      · have : ¬ validN t k := fun h => by have := h.2.2.1; omega
        simp only [↓opStep_eq, ↓reduceIte, ↓EW, EV, Nat.reduceAdd, Nat.reduceEqDiff, Int.reduceEq, Int.reduceLT, Int.reduceLE, Int.reduceNe, seqC, retC, skipC, exitC, blockC, condC, Bool.true_or, Bool.false_or, Bool.or_true, Bool.or_false, Bool.true_and, Bool.false_and, Bool.and_true, Bool.and_false, r32_3, t3, ld, h1, h2, e0, h3, this]
      · by_cases h4 : (32 : Int) < (k.size : Int)
        · have : ¬ validN t k := fun h => by have := h.2.2.2; omega
          simp only [↓opStep_eq, ↓reduceIte, ↓EW, EV, Nat.reduceAdd, Nat.reduceEqDiff, Int.reduceEq, Int.reduceLT, Int.reduceLE, Int.reduceNe, seqC, retC, skipC, exitC, blockC, condC, Bool.true_or, Bool.false_or, Bool.or_true, Bool.or_false, Bool.true_and, Bool.false_and, Bool.and_true, Bool.and_false, r32_3, t3, ld, h1, h2, e0, h3, lenStr_string, h4, this]
        · have : validN t k := ⟨by omega, by omega, by omega, by omega⟩
          simp only [↓opStep_eq, ↓reduceIte, ↓EW, EV, Nat.reduceAdd, Nat.reduceEqDiff, Int.reduceEq, Int.reduceLT, Int.reduceLE, Int.reduceNe, seqC, retC, skipC, exitC, blockC, condC, Bool.true_or, Bool.false_or, Bool.or_true, Bool.or_false, Bool.true_and, Bool.false_and, Bool.and_true, Bool.and_false, r32_3, t3, ld, h1, h2, e0, h3, lenStr_string, h4, this]
theorem asked_law (L n : Nat) (w : Wm O h b U now l sv ks) (t : Int) (k : ByteArray) :
    Sp (CF L (n + 2)) 32 [.pointer (some ⟨b, 0, none⟩), nameV t k] h fun r h' => r = .int .i64 (if validN t k then 0 else 8) ∧ Keep nobody h h' := by
  refine Sp.body f32 (by simp) ?_
  unfold c32
  have k1 := Keep.new h (.rw [.int .i64 t, .string k])
  have b1 := Has.new h (.rw [.int .i64 t, .string k])
  have w1 := w.keep0 k1
  refine C.seq fun K hK => ?_
  simp only [↓opStep_eq, ↓reduceIte, ↓EW, EV, Nat.reduceAdd, Nat.reduceEqDiff, Int.reduceEq, Int.reduceLT, Int.reduceLE, Int.reduceNe, seqC, retC, skipC, exitC, blockC, condC, r32_0, cells_agg]
  generalize h.new (.rw [.int .i64 t, .string k]) = h1 at *
  refine hK _ _ _ (C.seq (C.block (C.seq fun K hK => ?_)))
  simp only [↓opStep_eq, ↓reduceIte, ↓EW, EV, Nat.reduceAdd, Nat.reduceEqDiff, Int.reduceEq, Int.reduceLT, Int.reduceLE, Int.reduceNe, seqC, retC, skipC, exitC, blockC, condC, r32_1]
  refine none22_law L n w1 _ fun r h2 hq => ?_
  obtain ⟨rfl, rfl⟩ := hq
  refine hK _ _ _ (C.cond false (by simp only [↓opStep_eq, ↓reduceIte, ↓EW, EV, Nat.reduceAdd, Nat.reduceEqDiff, Int.reduceEq, Int.reduceLT, Int.reduceLE, Int.reduceNe, seqC, retC, skipC, exitC, blockC, condC]) (fun g => by cases g) fun g => C.seq fun K hK => ?_)
  rw [show ∀ x : CodeT, (⟨x⟩ : Box CodeT).f = x from fun _ => rfl]
  rw [r32_3_eq b1 (by simp only [↓opStep_eq, ↓reduceIte, ↓EW, EV, Nat.reduceAdd, Nat.reduceEqDiff, Int.reduceEq, Int.reduceLT, Int.reduceLE, Int.reduceNe, seqC, retC, skipC, exitC, blockC, condC])]
  refine hK _ _ _ (C.cond (!decide (validN t k)) (by simp only [↓opStep_eq, ↓reduceIte, ↓EW, EV, Nat.reduceAdd, Nat.reduceEqDiff, Int.reduceEq, Int.reduceLT, Int.reduceLE, Int.reduceNe, seqC, retC, skipC, exitC, blockC, condC]) (fun g => C.seq fun K hK => hK .norm _ _ (C.ret ⟨.inr rfl, _, rfl, ?_, k1⟩)) fun g => C.skip (C.seq fun K hK => hK .norm _ _ (C.ret ⟨.inr rfl, _, rfl, ?_, k1⟩)))
  · have g : ¬ validN t k := by rw [Bool.not_eq_true'] at g; exact of_decide_eq_false g
    simp only [↓opStep_eq, ↓reduceIte, ↓EW, EV, Nat.reduceAdd, Nat.reduceEqDiff, Int.reduceEq, Int.reduceLT, Int.reduceLE, Int.reduceNe, seqC, retC, skipC, exitC, blockC, condC, resOf]; rw [if_neg g]
  · have g : validN t k := by rw [Bool.not_eq_false'] at g; exact of_decide_eq_true g
    simp only [↓opStep_eq, ↓reduceIte, ↓EW, EV, Nat.reduceAdd, Nat.reduceEqDiff, Int.reduceEq, Int.reduceLT, Int.reduceLE, Int.reduceNe, seqC, retC, skipC, exitC, blockC, condC, resOf]; rw [if_pos g]

theorem ixArr (size n b o i : Nat) (hi : i < n) : indexArr size n (.pointer (some ⟨b, o, none⟩)) (.int .i64 (i : Int)) = some (.pointer (some ⟨b, o + i * size, none⟩)) := by
  simp only [indexArr, asNat_nat, addOff]
  rw [Nat.ble_eq_true_of_le (by omega)]

theorem at_law (L n : Nat) (w : Wm O h b U now l sv ks) {u : Nat} (hn : now ≤ MAXT) (hu : u ≤ MAXT) (hne : now ≠ u) :
    Sp (CF L (n + 3)) 39 [.pointer (some ⟨b, 0, none⟩), .int .i64 (u : Int)] h fun r h' => r = .pointer (some ⟨b, 2 + slotN now u, none⟩) ∧ Keep nobody h h' := by
  refine Sp.body f39 (by simp) ?_
  unfold c39
  refine C.seq fun K hK => ?_
  simp only [↓opStep_eq, ↓reduceIte, ↓EW, EV, Nat.reduceAdd, Nat.reduceEqDiff, Int.reduceEq, Int.reduceLT, Int.reduceLE, Int.reduceNe, seqC, retC, skipC, exitC, blockC, condC, r39_0]
  refine hK .norm _ _ (C.seq fun K hK => ?_)
  simp only [↓opStep_eq, ↓reduceIte, ↓EW, EV, Nat.reduceAdd, Nat.reduceEqDiff, Int.reduceEq, Int.reduceLT, Int.reduceLE, Int.reduceNe, seqC, retC, skipC, exitC, blockC, condC, r39_1, nilChk_some, w.ldNow]
  refine ring_law L n now u hn hu h _ fun r h1 hq => ?_
  obtain ⟨rfl, hr⟩ := hq
  rcases hr with ⟨e, _⟩ | ⟨g, hg, rfl⟩
  · exact absurd e hne
  have eg := hg.eq hn hu
  refine hK _ _ _ (C.seq fun K hK => ?_)
  have i1 := ixArr 64 7 b 2 g (by have := hg.1; omega)
  have i2 := ixArr 1 64 b (2 + g * 64) (plc64 u g) (plc64_lt u g)
  simp only [↓opStep_eq, ↓reduceIte, ↓EW, EV, Nat.reduceAdd, Nat.reduceEqDiff, Int.reduceEq, Int.reduceLT, Int.reduceLE, Int.reduceNe, seqC, retC, skipC, exitC, blockC, condC, r39_2, nilChk_some, i1]
  refine place_law L (n + 1) u g hu hg.1 _ _ fun v h2 hq => ?_
  obtain ⟨rfl, rfl⟩ := hq
  simp only [i2]
  refine hK .norm _ _ (C.ret ⟨.inr rfl, _, rfl, ?_, keep_room _ 10⟩)
  simp only [↓opStep_eq, ↓reduceIte, ↓EW, EV, Nat.reduceAdd, Nat.reduceEqDiff, Int.reduceEq, Int.reduceLT, Int.reduceLE, Int.reduceNe, seqC, retC, skipC, exitC, blockC, condC, resOf]
  unfold slotN
  rw [← eg, Nat.mul_one, Nat.add_assoc]

theorem slot_drop (k : List Nm) (x : Nm) : dropN (slotM k) x = slotM (k.filter fun y => !decide (y = x)) := by
  unfold dropN slotM
  rw [List.filter_map]
  rfl
theorem until_drop (l : List En) (x : Nm) : dropN (untilM l) x = untilM (l.filter fun e => !decide (e.1 = x)) := by
  unfold dropN untilM
  rw [List.filter_map]
  rfl
def ksSet (ks : Nat → List Nm) (i : Nat) (k : List Nm) : Nat → List Nm := fun j => if j = i then k else ks j
theorem ksSet_at (ks : Nat → List Nm) (i : Nat) (k : List Nm) : ksSet ks i k i = k := by simp [ksSet]
theorem ksSet_ne (ks : Nat → List Nm) (i : Nat) (k : List Nm) {j : Nat} (h : j ≠ i) : ksSet ks i k j = ks j := by simp [ksSet, h]

theorem put_law (L n : Nat) (w : Wm O h b U now l sv ks) {x : Nm} {u : Nat} (hn : now ≤ MAXT) (hu : u ≤ MAXT) (hne : now ≠ u) :
    Sp (CF L (n + 4)) 26 [.pointer (some ⟨b, 0, none⟩), x.v, .int .i64 (u : Int)] h fun r h' => ∃ O' sv', Wm O' h' b U now l sv' (ksSet ks (slotN now u) (x :: (ks (slotN now u)).filter fun y => !decide (y = x))) ∧ Fw O h O' h' := by
  refine Sp.body f26 (by simp) ?_
  unfold c26
  have k1 := Keep.new h (.rw [.int .i64 x.1, .string x.2])
  have b1 := Has.new h (.rw [.int .i64 x.1, .string x.2])
  have w1 := w.keep0 k1
  refine C.seq fun K hK => ?_
  simp only [↓opStep_eq, ↓reduceIte, ↓EW, EV, Nat.reduceAdd, Nat.reduceEqDiff, Int.reduceEq, Int.reduceLT, Int.reduceLE, Int.reduceNe, seqC, retC, skipC, exitC, blockC, condC, r26_0, cells2]
  generalize h.new (.rw [.int .i64 x.1, .string x.2]) = h1 at *
  refine hK _ _ _ (C.seq fun K hK => ?_)
  simp only [↓opStep_eq, ↓reduceIte, ↓EW, EV, Nat.reduceAdd, Nat.reduceEqDiff, Int.reduceEq, Int.reduceLT, Int.reduceLE, Int.reduceNe, seqC, retC, skipC, exitC, blockC, condC, r26_1]
  refine at_law L n w1 hn hu hne _ fun r h2 hq => ?_
  obtain ⟨rfl, k2⟩ := hq
  have hi := slotN_lt now u
  generalize slotN now u = i at *
  have w2 := w1.keep0 k2
  have b2 := b1.keep0 k2
  have nO : ¬ O h.next := fun e => by have := w.far _ e; omega
  obtain ⟨v, hv, ldv⟩ := w2.ldSlot hi
  refine hK _ _ _ (C.seq (C.seq fun K hK => ?_))
  -- the end: a slot that has a map
  have fin : ∀ (O3 : Nat → Prop) (h3 : H) (sv3 : List Value) (B : Nat) (tm : T Value), Wm O3 h3 b U now l sv3 ks → sv3[i]? = some (.map (some B)) → Has h3 h.next (.rw [.int .i64 x.1, .string x.2]) → ¬ O3 h.next → Fw O h O3 h3 → tg tm 4 = .pointer (some ⟨h.next, 0, none⟩) → tg tm 6 = .pointer (some ⟨b, 2 + i, none⟩) →
      C ⟨r26_4⟩ (CF L (n + 3)) L tm h3 fun e tm h' => (e = .norm ∨ e = .ret) ∧ ∃ l_1, q26.f tm h' = some l_1 ∧ ∃ O' sv', Wm O' h' b U now l sv' (ksSet ks i (x :: (ks i).filter fun y => !decide (y = x))) ∧ Fw O h O' h' := fun O3 h3 sv3 B tm w3 hB b3 nO3 fw3 t4 t6 => by
    intro K hK
    have kr := keep_room h3 5
    have w4 := w3.keep0 kr
    have b4 := b3.keep0 kr
    obtain ⟨v', hv', ld'⟩ := w4.ldSlot hi
    rw [hB] at hv'; cases hv'
    rcases w4.slot i _ hB with ⟨e, _⟩ | ⟨B', e, mB, oB, nb, nU⟩
    · cases e
    simp only [Value.map.injEq, Option.some.injEq] at e
    subst e
    obtain ⟨o, eo, mo⟩ := mB.set x (.bool true)
    rw [slot_drop] at mo
    simp only [↓opStep_eq, ↓reduceIte, ↓EW, EV, Nat.reduceAdd, Nat.reduceEqDiff, Int.reduceEq, Int.reduceLT, Int.reduceLE, Int.reduceNe, seqC, retC, skipC, exitC, blockC, condC, r26_4, t4, t6, nilChk_some, ld', load2 b4, eo]
    refine hK _ _ _ ⟨.inl rfl, _, rfl, O3, sv3, w4.setMap hB (k := x :: (ks i).filter fun y => !decide (y = x)) mo (ksSet ks i _) (ksSet_at _ _ _) (fun j hj => ksSet_ne _ _ _ hj), (fw3.trans (Fw.of0 kr)).trans (Wm.put_fw oB o)⟩
  rcases w2.slot i v hv with ⟨rfl, hk⟩ | ⟨B, rfl, mB, oB, nb, nU⟩
  · simp only [↓opStep_eq, ↓reduceIte, ↓EW, EV, Nat.reduceAdd, Nat.reduceEqDiff, Int.reduceEq, Int.reduceLT, Int.reduceLE, Int.reduceNe, seqC, retC, skipC, exitC, blockC, condC, r26_2, nilChk_some, ldv, map_nil]
    refine hK _ _ _ (C.cond true (by simp only [↓opStep_eq, ↓reduceIte, ↓EW, EV, Nat.reduceAdd, Nat.reduceEqDiff, Int.reduceEq, Int.reduceLT, Int.reduceLE, Int.reduceNe, seqC, retC, skipC, exitC, blockC, condC]) (fun _ => fun K hK => ?_) fun g => by cases g)
    have k3 := Keep.new h2 (.map [] 0)
    have m3 := Mp.new h2
    have w3 := w2.keep0 k3
    have b3 := b2.keep0 k3
    have hl : (wcells now U sv).length = 451 := wcells_len w
    have hs := stMap (s := none) (m := some h2.next) w3.hb (o := 2 + i) (by rw [hl]; omega)
    rw [wset now U sv i _ (by rw [w.len]; exact hi)] at hs
    simp only [↓opStep_eq, ↓reduceIte, ↓EW, EV, Nat.reduceAdd, Nat.reduceEqDiff, Int.reduceEq, Int.reduceLT, Int.reduceLE, Int.reduceNe, seqC, retC, skipC, exitC, blockC, condC, r26_3, nilChk_some, hs]
    have nOB : ¬ O h2.next := fun e => by have := w2.far _ e; omega
    have w4 := w3.fresh hi m3 nOB hk
    have hlt : h.next < h2.next := b2.1
    have fw4 : Fw O h (fun c => O c ∨ c = h2.next) ((h2.new (.map [] 0)).put b (.rw (wcells now U (sv.set i (.map (some h2.next)))))) :=
      ⟨(((k1.then k2).then k3).mono (S' := O) (fun _ _ e => e.elim)).trans (Keep.put _ b _) fun c hc e => by rw [e]; exact w.ob, fun c hc e => by
        rcases e with e | e
        · exact e
        · have := (k1.then k2).next; omega⟩
    have b4 := b3.keep (Keep.put (h2.new (.map [] 0)) b (.rw (wcells now U (sv.set i (.map (some h2.next)))))) fun e => nO (by have e : h.next = b := e; rw [e]; exact w.ob)
    refine hK _ _ _ (fin _ _ _ h2.next _ w4 (by rw [List.getElem?_set_self (by rw [w.len]; exact hi)]) b4 (fun e => by
      rcases e with e | e
      · exact nO e
      · omega) fw4 (by simp only [↓opStep_eq, ↓reduceIte, ↓EW, EV, Nat.reduceAdd, Nat.reduceEqDiff, Int.reduceEq, Int.reduceLT, Int.reduceLE, Int.reduceNe, seqC, retC, skipC, exitC, blockC, condC]) (by simp only [↓opStep_eq, ↓reduceIte, ↓EW, EV, Nat.reduceAdd, Nat.reduceEqDiff, Int.reduceEq, Int.reduceLT, Int.reduceLE, Int.reduceNe, seqC, retC, skipC, exitC, blockC, condC]))
  · simp only [↓opStep_eq, ↓reduceIte, ↓EW, EV, Nat.reduceAdd, Nat.reduceEqDiff, Int.reduceEq, Int.reduceLT, Int.reduceLE, Int.reduceNe, seqC, retC, skipC, exitC, blockC, condC, r26_2, nilChk_some, ldv, map_nnil]
    refine hK _ _ _ (C.cond false (by simp only [↓opStep_eq, ↓reduceIte, ↓EW, EV, Nat.reduceAdd, Nat.reduceEqDiff, Int.reduceEq, Int.reduceLT, Int.reduceLE, Int.reduceNe, seqC, retC, skipC, exitC, blockC, condC]) (fun g => by cases g) fun _ => C.skip ?_)
    exact fin O h2 sv B _ w2 hv b2 nO (Fw.of0 (k1.then k2)) (by simp only [↓opStep_eq, ↓reduceIte, ↓EW, EV, Nat.reduceAdd, Nat.reduceEqDiff, Int.reduceEq, Int.reduceLT, Int.reduceLE, Int.reduceNe, seqC, retC, skipC, exitC, blockC, condC]) (by simp only [↓opStep_eq, ↓reduceIte, ↓EW, EV, Nat.reduceAdd, Nat.reduceEqDiff, Int.reduceEq, Int.reduceLT, Int.reduceLE, Int.reduceNe, seqC, retC, skipC, exitC, blockC, condC])
end
end Go.Proofs.Ytpoedopdcpejmaa

namespace Go.Proofs.Ytpoedopdcpejmaa
open Go.Ev

structure WI (now : Nat) (l : List En) : Prop where
  nd : (l.map (·.1)).Nodup
  tm : ∀ e ∈ l, now < e.2 ∧ e.2 ≤ MAXT
  hn : now ≤ MAXT
def ksOf (now : Nat) (l : List En) (i : Nat) : List Nm := (l.filter fun e => decide (slotN now e.2 = i)).map (·.1)
def Wh (O : Nat → Prop) (h : H) (b now : Nat) (l : List En) : Prop := WI now l ∧ ∃ U sv, Wm O h b U now l sv (ksOf now l)
def wo (l : List En) (x : Nm) : List En := l.filter fun e => !decide (e.1 = x)

theorem Wh.keep0 {O : Nat → Prop} {h h' : H} {b now : Nat} {l : List En} (w : Wh O h b now l) (k : Keep nobody h h') : Wh O h' b now l := by
  obtain ⟨i, U, sv, m⟩ := w
  exact ⟨i, U, sv, m.keep0 k⟩
theorem Wh.keepO {O S : Nat → Prop} {h h' : H} {b now : Nat} {l : List En} (w : Wh O h b now l) (k : Keep S h h') (hs : ∀ c, S c → ¬ O c) : Wh O h' b now l := by
  obtain ⟨i, U, sv, m⟩ := w
  exact ⟨i, U, sv, m.keepO k hs⟩
theorem Wh.perm {O : Nat → Prop} {h : H} {b now : Nat} {l l' : List En} (w : Wh O h b now l) (p : l.Perm l') : Wh O h b now l' := by
  obtain ⟨i, U, sv, m⟩ := w
  exact ⟨⟨(p.map _).nodup_iff.1 i.nd, fun e he => i.tm e (p.mem_iff.2 he), i.hn⟩, U, sv, m.congr p fun j _ => (p.filter _).map _⟩
theorem Wh.far {O : Nat → Prop} {h : H} {b now : Nat} {l : List En} (w : Wh O h b now l) {c : Nat} (hc : h.next ≤ c) : ¬ O c := fun e => by
  obtain ⟨i, U, sv, m⟩ := w
  have := m.far c e; omega
theorem wo_none {l : List En} {x : Nm} (h : ∀ e ∈ l, e.1 ≠ x) : wo l x = l := List.filter_eq_self.2 fun e he => by simp [h e he]
theorem wo_mem {l : List En} {x : Nm} {e : En} : e ∈ wo l x ↔ e ∈ l ∧ e.1 ≠ x := by
  unfold wo
  rw [List.mem_filter]; simp
theorem WI.wo {now : Nat} {l : List En} (i : WI now l) (x : Nm) : WI now (wo l x) :=
  ⟨List.Nodup.sublist ((List.filter_sublist).map _) i.nd, fun e he => i.tm e (wo_mem.1 he).1, i.hn⟩
theorem WI.add {now : Nat} {l : List En} (i : WI now l) {x : Nm} {u : Nat} (h1 : ∀ e ∈ l, e.1 ≠ x) (h2 : now < u) (h3 : u ≤ MAXT) : WI now ((x, u) :: l) := by
  refine ⟨?_, fun e he => ?_, i.hn⟩
  · rw [List.map_cons, List.nodup_cons]
    refine ⟨fun hm => ?_, i.nd⟩
    obtain ⟨e, he, hx⟩ := List.mem_map.1 hm
    exact h1 e he hx
  · simp only [List.mem_cons] at he
    rcases he with rfl | he
    · exact ⟨h2, h3⟩
    · exact i.tm e he
theorem ks_drop (now : Nat) (l : List En) (x : Nm) (j : Nat) : (ksOf now l j).filter (fun y => !decide (y = x)) = ksOf now (wo l x) j := by
  unfold ksOf wo
  rw [List.filter_map, List.filter_filter, List.filter_filter]
  congr 1
  apply List.filter_congr
  intro e _
  simp only [Function.comp]
  rw [Bool.and_comm]
theorem ks_other {now : Nat} {l : List En} (i : WI now l) {x : Nm} {u : Nat} (hx : (x, u) ∈ l) {j : Nat} (hj : j ≠ slotN now u) : ksOf now (wo l x) j = ksOf now l j := by
  unfold ksOf wo
  rw [List.filter_filter]
  congr 1
  apply List.filter_congr
  intro e he
  by_cases h : e.1 = x
  · have : e = (x, u) := nd_same i.nd he hx h
    subst this
    rw [decide_eq_false (Ne.symm hj)]; rfl
  · rw [decide_eq_false h]; simp
theorem ks_add (now : Nat) (l : List En) (x : Nm) (u j : Nat) : ksOf now ((x, u) :: l) j = if slotN now u = j then x :: ksOf now l j else ksOf now l j := by
  unfold ksOf
  rw [List.filter_cons]
  by_cases h : slotN now u = j
  · rw [if_pos (by simp [h]), if_pos h]; rfl
  · rw [if_neg (by simp [h]), if_neg h]
theorem ks_free {now : Nat} {l : List En} {x : Nm} (h : ∀ e ∈ l, e.1 ≠ x) (j : Nat) : (ksOf now l j).filter (fun y => !decide (y = x)) = ksOf now l j := by
  rw [ks_drop, wo_none h]
theorem until_mem {l : List En} {x : Nm} {u : Nat} (h : (x, u) ∈ l) : (x, Value.int .i64 (u : Int)) ∈ untilM l := List.mem_map.2 ⟨_, h, rfl⟩
theorem until_not {l : List En} {x : Nm} (h : ∀ e ∈ l, e.1 ≠ x) : ∀ p ∈ untilM l, p.1 ≠ x := fun p hp => by
  obtain ⟨e, he, rfl⟩ := List.mem_map.1 hp
  exact h e he
theorem here (l : List En) (x : Nm) : (∃ u, (x, u) ∈ l) ∨ ∀ e ∈ l, e.1 ≠ x := by
  by_cases h : ∃ e ∈ l, e.1 = x
  · obtain ⟨⟨y, u⟩, he, rfl⟩ := h
    exact .inl ⟨u, he⟩
  · exact .inr fun e he hx => h ⟨e, he, hx⟩

section
variable {O : Nat → Prop} {h : H} {b now : Nat} {l : List En}
theorem drop_law (L n : Nat) (w : Wh O h b now l) (x : Nm) :
    Sp (CF L (n + 4)) 33 [.pointer (some ⟨b, 0, none⟩), x.v] h fun r h' => Wh O h' b now (wo l x) ∧ Fw O h O h' ∧ ((r = .bool true ∧ ∃ u, (x, u) ∈ l) ∨ (r = .bool false ∧ ∀ e ∈ l, e.1 ≠ x)) := by
  obtain ⟨wi, U, sv, w⟩ := w
  refine Sp.body f33 (by simp) ?_
  unfold c33
  have k1 := Keep.new h (.rw [.int .i64 x.1, .string x.2])
  have b1 := Has.new h (.rw [.int .i64 x.1, .string x.2])
  have w1 := w.keep0 k1
  refine C.seq fun K hK => ?_
  simp only [↓opStep_eq, ↓reduceIte, ↓EW, EV, Nat.reduceAdd, Nat.reduceEqDiff, Int.reduceEq, Int.reduceLT, Int.reduceLE, Int.reduceNe, seqC, retC, skipC, exitC, blockC, condC, r33_0, cells2]
  generalize h.new (.rw [.int .i64 x.1, .string x.2]) = h1 at *
  refine hK _ _ _ (C.seq fun K hK => ?_)
  have k2 := keep_room h1 11
  have w2 := w1.keep0 k2
  have b2 := b1.keep0 k2
  have fw2 : Fw O h O ⟨h1.objs, h1.next + 11⟩ := Fw.of0 (k1.then k2)
  have nO : ¬ O h.next := fun e => by have := w.far _ e; omega
  rcases here l x with ⟨u, hx⟩ | hno
  · have lk := w2.un.of (until_mem hx) (.int .i64 0) true
    simp only [↓opStep_eq, ↓reduceIte, ↓EW, EV, Nat.reduceAdd, Nat.reduceEqDiff, Int.reduceEq, Int.reduceLT, Int.reduceLE, Int.reduceNe, seqC, retC, skipC, exitC, blockC, condC, r33_1, nilChk_some, w2.ldUn, load2 b2, lk, tupNth_tuple]
    generalize (⟨h1.objs, h1.next + 11⟩ : H) = h2 at *
    refine hK _ _ _ (C.seq (C.seq fun K hK => ?_))
    simp only [↓opStep_eq, ↓reduceIte, ↓EW, EV, Nat.reduceAdd, Nat.reduceEqDiff, Int.reduceEq, Int.reduceLT, Int.reduceLE, Int.reduceNe, seqC, retC, skipC, exitC, blockC, condC, r33_2]
    refine hK _ _ _ (C.cond true (by simp only [↓opStep_eq, ↓reduceIte, ↓EW, EV, Nat.reduceAdd, Nat.reduceEqDiff, Int.reduceEq, Int.reduceLT, Int.reduceLE, Int.reduceNe, seqC, retC, skipC, exitC, blockC, condC]) (fun _ => C.seq fun K hK => ?_) fun g => by cases g)
    have k3 := keep_room h2 7
    have w3 := w2.keep0 k3
    have b3 := b2.keep0 k3
    have hu := wi.tm _ hx
    simp only [↓opStep_eq, ↓reduceIte, ↓EW, EV, Nat.reduceAdd, Nat.reduceEqDiff, Int.reduceEq, Int.reduceLT, Int.reduceLE, Int.reduceNe, seqC, retC, skipC, exitC, blockC, condC, r33_3, load2 b3]
    refine at_law L n w3 wi.hn hu.2 (by have := hu.1; omega) _ fun r h4 hq => ?_
    obtain ⟨rfl, k4⟩ := hq
    have w4 := w3.keep0 k4
    have b4 := b3.keep0 k4
    have hi := slotN_lt now u
    obtain ⟨v, hv, ldv⟩ := w4.ldSlot hi
    have hks : ∀ j, ksOf now (wo l x) j = ksSet (ksOf now l) (slotN now u) ((ksOf now l (slotN now u)).filter fun y => !decide (y = x)) j := fun j => by
      by_cases e : j = slotN now u
      · subst e; rw [ksSet_at, ks_drop]
      · rw [ksSet_ne _ _ _ e, ks_other wi hx e]
    -- behind the slot
    have fin : ∀ (h5 : H) (tm : T Value), Wm O h5 b U now l sv (ksOf now (wo l x)) → Has h5 h.next (.rw [.int .i64 x.1, .string x.2]) → Fw O h O h5 → tg tm 0 = .pointer (some ⟨b, 0, none⟩) → tg tm 3 = .pointer (some ⟨h.next, 0, none⟩) → tg tm 6 = .bool true →
        ∀ (K : KE), (∀ (tm' : T Value) h', Wh O h' b now (wo l x) → Fw O h O h' → tg tm' 6 = .bool true → K .norm tm' [] h' = true) → r33_4 (CF L (n + 3)) L tm [] h5 K = true := fun h5 tm w5 b5 fw5 t0 t3 t6 K hK => by
      have kr := keep_room h5 6
      have w6 := w5.keep0 kr
      obtain ⟨o, eo, mo⟩ := w6.un.del x
      rw [until_drop] at mo
      simp only [↓opStep_eq, ↓reduceIte, ↓EW, EV, Nat.reduceAdd, Nat.reduceEqDiff, Int.reduceEq, Int.reduceLT, Int.reduceLE, Int.reduceNe, seqC, retC, skipC, exitC, blockC, condC, r33_4, t0, t3, nilChk_some, w6.ldUn, load2 (b5.keep0 kr), eo]
      exact hK _ _ ⟨wi.wo x, U, sv, w6.setUn mo⟩ ((fw5.trans (Fw.of0 kr)).trans (Wm.put_fw w6.oU o)) t6
    have fw4 : Fw O h O h4 := fw2.trans (Fw.of0 (k3.then k4))
    have last : ∀ (tm' : T Value) h', Wh O h' b now (wo l x) → Fw O h O h' → tg tm' 6 = .bool true → C ⟨seqC ⟨r33_5⟩ retC⟩ (CF L (n + 3)) L tm' h' fun e tm h' => (e = .norm ∨ e = .ret) ∧ ∃ l_1, q33.f tm h' = some l_1 ∧ Wh O h' b now (wo l x) ∧ Fw O h O h' ∧ ((resOf l_1 = .bool true ∧ ∃ u, (x, u) ∈ l) ∨ (resOf l_1 = .bool false ∧ ∀ e ∈ l, e.1 ≠ x)) := fun tm' h' wh fw t6 => by
      refine C.seq fun K hK => ?_
      simp only [↓opStep_eq, ↓reduceIte, ↓EW, EV, Nat.reduceAdd, Nat.reduceEqDiff, Int.reduceEq, Int.reduceLT, Int.reduceLE, Int.reduceNe, seqC, retC, skipC, exitC, blockC, condC, r33_5, t6]
      exact hK _ _ _ (C.ret ⟨.inr rfl, _, rfl, wh, fw, .inl ⟨by simp only [↓opStep_eq, ↓reduceIte, ↓EW, EV, Nat.reduceAdd, Nat.reduceEqDiff, Int.reduceEq, Int.reduceLT, Int.reduceLE, Int.reduceNe, seqC, retC, skipC, exitC, blockC, condC, resOf], u, hx⟩⟩)
    rcases w4.slot _ v hv with ⟨rfl, hk⟩ | ⟨B, rfl, mB, oB, nb, nU⟩
    · have ed : delM Try.prog 39 h4 (.map none) x.v = some h4 := by unfold delM; simp only [keyOk_nm]
      simp only [↓opStep_eq, ↓reduceIte, ↓EW, EV, Nat.reduceAdd, Nat.reduceEqDiff, Int.reduceEq, Int.reduceLT, Int.reduceLE, Int.reduceNe, seqC, retC, skipC, exitC, blockC, condC, load2 b4, hO_nm, nilChk_some, ldv, ed]
      have w5 : Wm O h4 b U now l sv (ksOf now (wo l x)) := w4.congr (.refl _) fun j _ => by
        rw [hks j]
        by_cases e : j = slotN now u
        · subst e; rw [ksSet_at, hk]; exact .refl _
        · rw [ksSet_ne _ _ _ e]
      refine hK _ _ _ fun K hK => ?_
      rw [show ∀ x : CodeT, (⟨x⟩ : Box CodeT).f = x from fun _ => rfl]
      refine fin h4 _ w5 b4 fw4 ?_ ?_ ?_ _ fun tm' h' wh fw t6 => hK _ _ _ (last tm' h' wh fw t6)
      · simp only [↓opStep_eq, ↓reduceIte, ↓EW, EV, Nat.reduceAdd, Nat.reduceEqDiff, Int.reduceEq, Int.reduceLT, Int.reduceLE, Int.reduceNe, seqC, retC, skipC, exitC, blockC, condC]
      · simp only [↓opStep_eq, ↓reduceIte, ↓EW, EV, Nat.reduceAdd, Nat.reduceEqDiff, Int.reduceEq, Int.reduceLT, Int.reduceLE, Int.reduceNe, seqC, retC, skipC, exitC, blockC, condC]
      · simp only [↓opStep_eq, ↓reduceIte, ↓EW, EV, Nat.reduceAdd, Nat.reduceEqDiff, Int.reduceEq, Int.reduceLT, Int.reduceLE, Int.reduceNe, seqC, retC, skipC, exitC, blockC, condC]
    · obtain ⟨o, eo, mo⟩ := mB.del x
      rw [slot_drop] at mo
      simp only [↓opStep_eq, ↓reduceIte, ↓EW, EV, Nat.reduceAdd, Nat.reduceEqDiff, Int.reduceEq, Int.reduceLT, Int.reduceLE, Int.reduceNe, seqC, retC, skipC, exitC, blockC, condC, load2 b4, hO_nm, nilChk_some, ldv, eo]
      have w5 := w4.setMap hv mo (ksOf now (wo l x)) (by rw [hks, ksSet_at]) (fun j hj => by rw [hks, ksSet_ne _ _ _ hj])
      have b5 := b4.keep (Keep.put h4 B o) fun e => nO (by have e : h.next = B := e; rw [e]; exact oB)
      refine hK _ _ _ fun K hK => ?_
      rw [show ∀ x : CodeT, (⟨x⟩ : Box CodeT).f = x from fun _ => rfl]
      refine fin _ _ w5 b5 (fw4.trans (Wm.put_fw oB o)) ?_ ?_ ?_ _ fun tm' h' wh fw t6 => hK _ _ _ (last tm' h' wh fw t6)
      · simp only [↓opStep_eq, ↓reduceIte, ↓EW, EV, Nat.reduceAdd, Nat.reduceEqDiff, Int.reduceEq, Int.reduceLT, Int.reduceLE, Int.reduceNe, seqC, retC, skipC, exitC, blockC, condC]
      · simp only [↓opStep_eq, ↓reduceIte, ↓EW, EV, Nat.reduceAdd, Nat.reduceEqDiff, Int.reduceEq, Int.reduceLT, Int.reduceLE, Int.reduceNe, seqC, retC, skipC, exitC, blockC, condC]
      · simp only [↓opStep_eq, ↓reduceIte, ↓EW, EV, Nat.reduceAdd, Nat.reduceEqDiff, Int.reduceEq, Int.reduceLT, Int.reduceLE, Int.reduceNe, seqC, retC, skipC, exitC, blockC, condC]
  · have lk := w2.un.not (until_not hno) (.int .i64 0) true
    simp only [↓opStep_eq, ↓reduceIte, ↓EW, EV, Nat.reduceAdd, Nat.reduceEqDiff, Int.reduceEq, Int.reduceLT, Int.reduceLE, Int.reduceNe, seqC, retC, skipC, exitC, blockC, condC, r33_1, nilChk_some, w2.ldUn, load2 b2, lk, tupNth_tuple]
    refine hK _ _ _ (C.seq (C.seq fun K hK => ?_))
    simp only [↓opStep_eq, ↓reduceIte, ↓EW, EV, Nat.reduceAdd, Nat.reduceEqDiff, Int.reduceEq, Int.reduceLT, Int.reduceLE, Int.reduceNe, seqC, retC, skipC, exitC, blockC, condC, r33_2]
    refine hK _ _ _ (C.cond false (by simp only [↓opStep_eq, ↓reduceIte, ↓EW, EV, Nat.reduceAdd, Nat.reduceEqDiff, Int.reduceEq, Int.reduceLT, Int.reduceLE, Int.reduceNe, seqC, retC, skipC, exitC, blockC, condC]) (fun g => by cases g) fun _ => C.skip (C.seq fun K hK => ?_))
    simp only [↓opStep_eq, ↓reduceIte, ↓EW, EV, Nat.reduceAdd, Nat.reduceEqDiff, Int.reduceEq, Int.reduceLT, Int.reduceLE, Int.reduceNe, seqC, retC, skipC, exitC, blockC, condC, r33_5]
    exact hK _ _ _ (C.ret ⟨.inr rfl, _, rfl, by rw [wo_none hno]; exact ⟨wi, U, sv, w2⟩, fw2, .inr ⟨by simp only [↓opStep_eq, ↓reduceIte, ↓EW, EV, Nat.reduceAdd, Nat.reduceEqDiff, Int.reduceEq, Int.reduceLT, Int.reduceLE, Int.reduceNe, seqC, retC, skipC, exitC, blockC, condC, resOf], hno⟩⟩)
end
end Go.Proofs.Ytpoedopdcpejmaa

namespace Go.Proofs.Ytpoedopdcpejmaa
open Go.Ev

def noSlots : List Value := List.replicate 448 (Value.map none)
def zcells (z : Int) (U : Nat) : List Value := .int .i64 z :: Value.map (some U) :: (noSlots ++ [.bool true])
theorem r9_3_eq {call : CallT} {L : Nat} {tm : T Value} {h : H} {K : KE} {z : Int} (t0 : tg tm 0 = .int .i64 z) :
    r9_3 call L tm [] h K = K .norm (T.set (T.set tm 2 (.pointer (some ⟨h.next + 1, 0, none⟩))) 3 (.int .i64 0)) [] ((h.new (.map [] 0)).new (.rw (zcells z h.next))) := by
  unfold r9_3
  rw [t0]
  kernel_rfl
def Fresh (O : Nat → Prop) (h : H) : Prop := ∀ c, O c → h.next ≤ c

theorem new_law (L n : Nat) (z : Int) (h : H) : Sp (CF L (n + 1)) 9 [.int .i64 z] h fun r h' => Keep nobody h h' ∧ ((¬ (0 ≤ z ∧ z ≤ 1099511627776) ∧ r = .tuple [.pointer none, .int .i64 2].toArray) ∨
    ∃ (now b : Nat) (O : Nat → Prop), z = (now : Int) ∧ now ≤ MAXT ∧ r = .tuple [.pointer (some ⟨b, 0, none⟩), .int .i64 0].toArray ∧ Wh O h' b now [] ∧ Fresh O h) := by
  refine Sp.body f9 (by simp) ?_
  unfold c9
  refine C.seq fun K hK => ?_
  simp only [↓opStep_eq, ↓reduceIte, ↓EW, EV, Nat.reduceAdd, Nat.reduceEqDiff, Int.reduceEq, Int.reduceLT, Int.reduceLE, Int.reduceNe, seqC, retC, skipC, exitC, blockC, condC, r9_0]
  refine hK .norm _ _ (C.seq (C.seq fun K hK => ?_))
  have hbad : ∀ (K : KE) (c : Bool), c = !decide (0 ≤ z ∧ z ≤ 1099511627776) → r9_1 (CF L n) L (((toTm [.int .i64 z] 0 T.e).set 2 (.pointer none)).set 3 (.int .i64 0)) [] h K = K .norm ((((toTm [.int .i64 z] 0 T.e).set 2 (.pointer none)).set 3 (.int .i64 0)).set 9 (.bool c)) [] h := fun K c hc => by
    by_cases h1 : z < 0
    · have : c = true := by rw [hc, decide_eq_false (by omega)]; rfl
      simp only [↓opStep_eq, ↓reduceIte, ↓EW, EV, Nat.reduceAdd, Nat.reduceEqDiff, Int.reduceEq, Int.reduceLT, Int.reduceLE, Int.reduceNe, seqC, retC, skipC, exitC, blockC, condC, Bool.true_or, Bool.false_or, Bool.or_true, Bool.or_false, Bool.true_and, Bool.false_and, Bool.and_true, Bool.and_false, r9_1, h1, this]
    · by_cases h2 : (1099511627776 : Int) < z
      · have : c = true := by rw [hc, decide_eq_false (by omega)]; rfl
        simp only [↓opStep_eq, ↓reduceIte, ↓EW, EV, Nat.reduceAdd, Nat.reduceEqDiff, Int.reduceEq, Int.reduceLT, Int.reduceLE, Int.reduceNe, seqC, retC, skipC, exitC, blockC, condC, Bool.true_or, Bool.false_or, Bool.or_true, Bool.or_false, Bool.true_and, Bool.false_and, Bool.and_true, Bool.and_false, r9_1, h1, h2, this]
      · have : c = false := by rw [hc, decide_eq_true (by omega)]; rfl
        simp only [↓opStep_eq, ↓reduceIte, ↓EW, EV, Nat.reduceAdd, Nat.reduceEqDiff, Int.reduceEq, Int.reduceLT, Int.reduceLE, Int.reduceNe, seqC, retC, skipC, exitC, blockC, condC, Bool.true_or, Bool.false_or, Bool.or_true, Bool.or_false, Bool.true_and, Bool.false_and, Bool.and_true, Bool.and_false, r9_1, h1, h2, this]
  have hb := fun K => hbad K _ rfl
  simp only [↓opStep_eq, ↓reduceIte, ↓EW, EV, Nat.reduceAdd, Nat.reduceEqDiff, Int.reduceEq, Int.reduceLT, Int.reduceLE, Int.reduceNe, seqC, retC, skipC, exitC, blockC, condC] at hb
  rw [show ∀ x : CodeT, (⟨x⟩ : Box CodeT).f = x from fun _ => rfl]
  rw [hb]
  refine hK _ _ _ (C.cond (!decide (0 ≤ z ∧ z ≤ 1099511627776)) (by simp only [↓opStep_eq, ↓reduceIte, ↓EW, EV, Nat.reduceAdd, Nat.reduceEqDiff, Int.reduceEq, Int.reduceLT, Int.reduceLE, Int.reduceNe, seqC, retC, skipC, exitC, blockC, condC]) (fun g => C.seq fun K hK => ?_) fun g => C.skip (C.seq fun K hK => ?_))
  · simp only [↓opStep_eq, ↓reduceIte, ↓EW, EV, Nat.reduceAdd, Nat.reduceEqDiff, Int.reduceEq, Int.reduceLT, Int.reduceLE, Int.reduceNe, seqC, retC, skipC, exitC, blockC, condC, r9_2]
    rw [Bool.not_eq_true'] at g
    exact hK .norm _ _ (C.ret ⟨.inr rfl, _, rfl, .refl _ _, .inl ⟨of_decide_eq_false g, by simp only [↓opStep_eq, ↓reduceIte, ↓EW, EV, Nat.reduceAdd, Nat.reduceEqDiff, Int.reduceEq, Int.reduceLT, Int.reduceLE, Int.reduceNe, seqC, retC, skipC, exitC, blockC, condC, resOf]⟩⟩)
  · rw [Bool.not_eq_false'] at g
    have g := of_decide_eq_true g
    obtain ⟨now, rfl⟩ : ∃ now : Nat, z = (now : Int) := ⟨z.toNat, by omega⟩
    rw [show ∀ x : CodeT, (⟨x⟩ : Box CodeT).f = x from fun _ => rfl]
    rw [r9_3_eq (z := (now : Int)) (by simp only [↓opStep_eq, ↓reduceIte, ↓EW, EV, Nat.reduceAdd, Nat.reduceEqDiff, Int.reduceEq, Int.reduceLT, Int.reduceLE, Int.reduceNe, seqC, retC, skipC, exitC, blockC, condC])]
    have k1 := Keep.new h (.map [] 0)
    have m1 := Mp.new h
    have n1 : (h.new (.map [] 0)).next = h.next + 1 := rfl
    generalize h.new (.map [] 0) = h1 at *
    have k2 := Keep.new h1 (.rw (zcells (now : Int) h.next))
    have b2 := Has.new h1 (.rw (zcells (now : Int) h.next))
    rw [n1] at b2
    have w : Wm (fun c => c = h.next ∨ c = h.next + 1) (h1.new (.rw (zcells (now : Int) h.next))) (h.next + 1) h.next now [] noSlots (ksOf now []) := by
      refine ⟨b2, .inr rfl, m1.keep0 k2, .inl rfl, by omega, by unfold noSlots; rw [List.length_replicate], fun i v hv => .inl ⟨?_, rfl⟩, fun i j B h1 _ => ?_, fun c hc => ?_⟩
      · exact List.eq_of_mem_replicate (List.mem_of_getElem? hv)
      · have := List.eq_of_mem_replicate (List.mem_of_getElem? h1)
        cases this
      · have : (h1.new (.rw (zcells (now : Int) h.next))).next = h1.next + 1 := rfl
        rw [this, n1]
        rcases hc with rfl | rfl <;> omega
    refine hK _ _ _ (C.ret ⟨.inr rfl, _, rfl, k1.then k2, .inr ⟨now, h.next + 1, _, rfl, by unfold MAXT; omega, by simp only [↓opStep_eq, ↓reduceIte, ↓EW, EV, Nat.reduceAdd, Nat.reduceEqDiff, Int.reduceEq, Int.reduceLT, Int.reduceLE, Int.reduceNe, seqC, retC, skipC, exitC, blockC, condC, resOf], ⟨⟨.nil, (fun e he => by cases he), by unfold MAXT; omega⟩, h.next, noSlots, w⟩, fun c hc => by rcases hc with rfl | rfl <;> omega⟩⟩)

section
variable {O : Nat → Prop} {h : H} {b now : Nat} {l : List En}
theorem len_law (L n : Nat) (w : Wh O h b now l) : Sp (CF L (n + 2)) 14 [.pointer (some ⟨b, 0, none⟩)] h fun r h' => r = .tuple [.int .i64 (l.length : Int), .int .i64 0].toArray ∧ h' = h := by
  obtain ⟨wi, U, sv, w⟩ := w
  refine Sp.body f14 (by simp) ?_
  unfold c14
  refine C.seq fun K hK => ?_
  simp only [↓opStep_eq, ↓reduceIte, ↓EW, EV, Nat.reduceAdd, Nat.reduceEqDiff, Int.reduceEq, Int.reduceLT, Int.reduceLE, Int.reduceNe, seqC, retC, skipC, exitC, blockC, condC, r14_0]
  refine hK .norm _ _ (C.seq (C.seq fun K hK => ?_))
  simp only [↓opStep_eq, ↓reduceIte, ↓EW, EV, Nat.reduceAdd, Nat.reduceEqDiff, Int.reduceEq, Int.reduceLT, Int.reduceLE, Int.reduceNe, seqC, retC, skipC, exitC, blockC, condC, r14_1]
  refine none22_law L n w _ fun r h2 hq => ?_
  obtain ⟨rfl, rfl⟩ := hq
  refine hK _ _ _ (C.cond false (by simp only [↓opStep_eq, ↓reduceIte, ↓EW, EV, Nat.reduceAdd, Nat.reduceEqDiff, Int.reduceEq, Int.reduceLT, Int.reduceLE, Int.reduceNe, seqC, retC, skipC, exitC, blockC, condC]) (fun g => by cases g) fun _ => C.skip (C.seq fun K hK => ?_))
  have hl := w.un.len
  unfold untilM at hl
  rw [List.length_map] at hl
  simp only [↓opStep_eq, ↓reduceIte, ↓EW, EV, Nat.reduceAdd, Nat.reduceEqDiff, Int.reduceEq, Int.reduceLT, Int.reduceLE, Int.reduceNe, seqC, retC, skipC, exitC, blockC, condC, r14_3, nilChk_some, w.ldUn, hl]
  exact hK _ _ _ (C.ret ⟨.inr rfl, _, rfl, by simp only [↓opStep_eq, ↓reduceIte, ↓EW, EV, Nat.reduceAdd, Nat.reduceEqDiff, Int.reduceEq, Int.reduceLT, Int.reduceLE, Int.reduceNe, seqC, retC, skipC, exitC, blockC, condC, resOf], rfl⟩)
theorem now_law (L n : Nat) (w : Wh O h b now l) : Sp (CF L (n + 2)) 13 [.pointer (some ⟨b, 0, none⟩)] h fun r h' => r = .tuple [.int .i64 (now : Int), .int .i64 0].toArray ∧ h' = h := by
  obtain ⟨wi, U, sv, w⟩ := w
  refine Sp.body f13 (by simp) ?_
  unfold c13
  refine C.seq fun K hK => ?_
  simp only [↓opStep_eq, ↓reduceIte, ↓EW, EV, Nat.reduceAdd, Nat.reduceEqDiff, Int.reduceEq, Int.reduceLT, Int.reduceLE, Int.reduceNe, seqC, retC, skipC, exitC, blockC, condC, r13_0]
  refine hK .norm _ _ (C.seq (C.seq fun K hK => ?_))
  simp only [↓opStep_eq, ↓reduceIte, ↓EW, EV, Nat.reduceAdd, Nat.reduceEqDiff, Int.reduceEq, Int.reduceLT, Int.reduceLE, Int.reduceNe, seqC, retC, skipC, exitC, blockC, condC, r13_1]
  refine none22_law L n w _ fun r h2 hq => ?_
  obtain ⟨rfl, rfl⟩ := hq
  refine hK _ _ _ (C.cond false (by simp only [↓opStep_eq, ↓reduceIte, ↓EW, EV, Nat.reduceAdd, Nat.reduceEqDiff, Int.reduceEq, Int.reduceLT, Int.reduceLE, Int.reduceNe, seqC, retC, skipC, exitC, blockC, condC]) (fun g => by cases g) fun _ => C.skip (C.seq fun K hK => ?_))
  simp only [↓opStep_eq, ↓reduceIte, ↓EW, EV, Nat.reduceAdd, Nat.reduceEqDiff, Int.reduceEq, Int.reduceLT, Int.reduceLE, Int.reduceNe, seqC, retC, skipC, exitC, blockC, condC, r13_3, nilChk_some, w.ldNow]
  exact hK _ _ _ (C.ret ⟨.inr rfl, _, rfl, by simp only [↓opStep_eq, ↓reduceIte, ↓EW, EV, Nat.reduceAdd, Nat.reduceEqDiff, Int.reduceEq, Int.reduceLT, Int.reduceLE, Int.reduceNe, seqC, retC, skipC, exitC, blockC, condC, resOf], rfl⟩)

def UntilR (l : List En) (x : Nm) (t : Int) (e : Int) : Prop := (¬ validN x.1 x.2 ∧ t = 0 ∧ e = 8) ∨ (validN x.1 x.2 ∧ (∀ y ∈ l, y.1 ≠ x) ∧ t = 0 ∧ e = 6) ∨ (validN x.1 x.2 ∧ ∃ u, (x, u) ∈ l ∧ t = (u : Int) ∧ e = 0)
theorem until_law (L n : Nat) (w : Wh O h b now l) (x : Nm) : Sp (CF L (n + 3)) 16 [.pointer (some ⟨b, 0, none⟩), x.v] h fun r h' => Keep nobody h h' ∧ ∃ t e, r = .tuple [.int .i64 t, .int .i64 e].toArray ∧ UntilR l x t e := by
  obtain ⟨wi, U, sv, w⟩ := w
  refine Sp.body f16 (by simp) ?_
  unfold c16
  have k1 := Keep.new h (.rw [.int .i64 x.1, .string x.2])
  have b1 := Has.new h (.rw [.int .i64 x.1, .string x.2])
  have w1 := w.keep0 k1
  refine C.seq fun K hK => ?_
  simp only [↓opStep_eq, ↓reduceIte, ↓EW, EV, Nat.reduceAdd, Nat.reduceEqDiff, Int.reduceEq, Int.reduceLT, Int.reduceLE, Int.reduceNe, seqC, retC, skipC, exitC, blockC, condC, r16_0, cells2]
  generalize h.new (.rw [.int .i64 x.1, .string x.2]) = h1 at *
  refine hK _ _ _ (C.seq (C.seq fun K hK => ?_))
  simp only [↓opStep_eq, ↓reduceIte, ↓EW, EV, Nat.reduceAdd, Nat.reduceEqDiff, Int.reduceEq, Int.reduceLT, Int.reduceLE, Int.reduceNe, seqC, retC, skipC, exitC, blockC, condC, r16_1, load2 b1]
  refine asked_law L n w1 x.1 x.2 _ fun r h2 hq => ?_
  obtain ⟨rfl, k2⟩ := hq
  have w2 := w1.keep0 k2
  have b2 := b1.keep0 k2
  refine hK _ _ _ (C.seq fun K hK => ?_)
  by_cases hv : validN x.1 x.2
  · rw [if_pos hv]
    simp only [↓opStep_eq, ↓reduceIte, ↓EW, EV, Nat.reduceAdd, Nat.reduceEqDiff, Int.reduceEq, Int.reduceLT, Int.reduceLE, Int.reduceNe, seqC, retC, skipC, exitC, blockC, condC, Bool.true_or, Bool.false_or, Bool.or_true, Bool.or_false, Bool.true_and, Bool.false_and, Bool.and_true, Bool.and_false, r16_2]
    refine hK _ _ _ (C.cond false (by simp only [↓opStep_eq, ↓reduceIte, ↓EW, EV, Nat.reduceAdd, Nat.reduceEqDiff, Int.reduceEq, Int.reduceLT, Int.reduceLE, Int.reduceNe, seqC, retC, skipC, exitC, blockC, condC]) (fun g => by cases g) fun _ => C.skip (C.seq fun K hK => ?_))
    have k3 := keep_room h2 11
    have w3 := w2.keep0 k3
    have b3 := b2.keep0 k3
    have k03 := (k1.then k2).then k3
    rcases here l x with ⟨u, hx⟩ | hno
    · have lk := w3.un.of (until_mem hx) (.int .i64 0) true
      simp only [↓opStep_eq, ↓reduceIte, ↓EW, EV, Nat.reduceAdd, Nat.reduceEqDiff, Int.reduceEq, Int.reduceLT, Int.reduceLE, Int.reduceNe, seqC, retC, skipC, exitC, blockC, condC, r16_4, nilChk_some, w3.ldUn, load2 b3, lk, tupNth_tuple]
      refine hK _ _ _ (C.seq (C.seq fun K hK => ?_))
      simp only [↓opStep_eq, ↓reduceIte, ↓EW, EV, Nat.reduceAdd, Nat.reduceEqDiff, Int.reduceEq, Int.reduceLT, Int.reduceLE, Int.reduceNe, seqC, retC, skipC, exitC, blockC, condC, r16_5]
      refine hK _ _ _ (C.cond false (by simp only [↓opStep_eq, ↓reduceIte, ↓EW, EV, Nat.reduceAdd, Nat.reduceEqDiff, Int.reduceEq, Int.reduceLT, Int.reduceLE, Int.reduceNe, seqC, retC, skipC, exitC, blockC, condC]) (fun g => by cases g) fun _ => C.skip (C.seq fun K hK => ?_))
      simp only [↓opStep_eq, ↓reduceIte, ↓EW, EV, Nat.reduceAdd, Nat.reduceEqDiff, Int.reduceEq, Int.reduceLT, Int.reduceLE, Int.reduceNe, seqC, retC, skipC, exitC, blockC, condC, r16_7]
      exact hK _ _ _ (C.ret ⟨.inr rfl, _, rfl, k03, _, _, by simp only [↓opStep_eq, ↓reduceIte, ↓EW, EV, Nat.reduceAdd, Nat.reduceEqDiff, Int.reduceEq, Int.reduceLT, Int.reduceLE, Int.reduceNe, seqC, retC, skipC, exitC, blockC, condC, resOf], .inr (.inr ⟨hv, u, hx, rfl, rfl⟩)⟩)
    · have lk := w3.un.not (until_not hno) (.int .i64 0) true
      simp only [↓opStep_eq, ↓reduceIte, ↓EW, EV, Nat.reduceAdd, Nat.reduceEqDiff, Int.reduceEq, Int.reduceLT, Int.reduceLE, Int.reduceNe, seqC, retC, skipC, exitC, blockC, condC, r16_4, nilChk_some, w3.ldUn, load2 b3, lk, tupNth_tuple]
      refine hK _ _ _ (C.seq (C.seq fun K hK => ?_))
      simp only [↓opStep_eq, ↓reduceIte, ↓EW, EV, Nat.reduceAdd, Nat.reduceEqDiff, Int.reduceEq, Int.reduceLT, Int.reduceLE, Int.reduceNe, seqC, retC, skipC, exitC, blockC, condC, r16_5]
      refine hK _ _ _ (C.cond true (by simp only [↓opStep_eq, ↓reduceIte, ↓EW, EV, Nat.reduceAdd, Nat.reduceEqDiff, Int.reduceEq, Int.reduceLT, Int.reduceLE, Int.reduceNe, seqC, retC, skipC, exitC, blockC, condC]) (fun _ => C.seq fun K hK => ?_) fun g => by cases g)
      simp only [↓opStep_eq, ↓reduceIte, ↓EW, EV, Nat.reduceAdd, Nat.reduceEqDiff, Int.reduceEq, Int.reduceLT, Int.reduceLE, Int.reduceNe, seqC, retC, skipC, exitC, blockC, condC, r16_6]
      exact hK .norm _ _ (C.ret ⟨.inr rfl, _, rfl, k03, _, _, by simp only [↓opStep_eq, ↓reduceIte, ↓EW, EV, Nat.reduceAdd, Nat.reduceEqDiff, Int.reduceEq, Int.reduceLT, Int.reduceLE, Int.reduceNe, seqC, retC, skipC, exitC, blockC, condC, resOf], .inr (.inl ⟨hv, hno, rfl, rfl⟩)⟩)
  · rw [if_neg hv]
    simp only [↓opStep_eq, ↓reduceIte, ↓EW, EV, Nat.reduceAdd, Nat.reduceEqDiff, Int.reduceEq, Int.reduceLT, Int.reduceLE, Int.reduceNe, seqC, retC, skipC, exitC, blockC, condC, Bool.true_or, Bool.false_or, Bool.or_true, Bool.or_false, Bool.true_and, Bool.false_and, Bool.and_true, Bool.and_false, r16_2]
    refine hK _ _ _ (C.cond true (by simp only [↓opStep_eq, ↓reduceIte, ↓EW, EV, Nat.reduceAdd, Nat.reduceEqDiff, Int.reduceEq, Int.reduceLT, Int.reduceLE, Int.reduceNe, seqC, retC, skipC, exitC, blockC, condC]) (fun _ => C.seq fun K hK => ?_) fun g => by cases g)
    simp only [↓opStep_eq, ↓reduceIte, ↓EW, EV, Nat.reduceAdd, Nat.reduceEqDiff, Int.reduceEq, Int.reduceLT, Int.reduceLE, Int.reduceNe, seqC, retC, skipC, exitC, blockC, condC, r16_3]
    exact hK .norm _ _ (C.ret ⟨.inr rfl, _, rfl, k1.then k2, _, _, by simp only [↓opStep_eq, ↓reduceIte, ↓EW, EV, Nat.reduceAdd, Nat.reduceEqDiff, Int.reduceEq, Int.reduceLT, Int.reduceLE, Int.reduceNe, seqC, retC, skipC, exitC, blockC, condC, resOf], .inl ⟨hv, rfl, rfl⟩⟩)

def DelR (l : List En) (x : Nm) (l' : List En) (e : Int) : Prop := (¬ validN x.1 x.2 ∧ l' = l ∧ e = 8) ∨ (validN x.1 x.2 ∧ (∀ y ∈ l, y.1 ≠ x) ∧ l' = l ∧ e = 6) ∨ (validN x.1 x.2 ∧ (∃ u, (x, u) ∈ l) ∧ l' = wo l x ∧ e = 0)
theorem del_law (L n : Nat) (w : Wh O h b now l) (x : Nm) : Sp (CF L (n + 5)) 19 [.pointer (some ⟨b, 0, none⟩), x.v] h fun r h' => ∃ l' e, Wh O h' b now l' ∧ Fw O h O h' ∧ r = .int .i64 e ∧ DelR l x l' e := by
  have wh := w
  obtain ⟨wi, U, sv, w⟩ := w
  refine Sp.body f19 (by simp) ?_
  unfold c19
  have k1 := Keep.new h (.rw [.int .i64 x.1, .string x.2])
  have b1 := Has.new h (.rw [.int .i64 x.1, .string x.2])
  have w1 := w.keep0 k1
  refine C.seq fun K hK => ?_
  simp only [↓opStep_eq, ↓reduceIte, ↓EW, EV, Nat.reduceAdd, Nat.reduceEqDiff, Int.reduceEq, Int.reduceLT, Int.reduceLE, Int.reduceNe, seqC, retC, skipC, exitC, blockC, condC, r19_0, cells2]
  generalize h.new (.rw [.int .i64 x.1, .string x.2]) = h1 at *
  refine hK _ _ _ (C.seq (C.seq fun K hK => ?_))
  simp only [↓opStep_eq, ↓reduceIte, ↓EW, EV, Nat.reduceAdd, Nat.reduceEqDiff, Int.reduceEq, Int.reduceLT, Int.reduceLE, Int.reduceNe, seqC, retC, skipC, exitC, blockC, condC, r19_1, load2 b1]
  refine asked_law L (n + 2) w1 x.1 x.2 _ fun r h2 hq => ?_
  obtain ⟨rfl, k2⟩ := hq
  have b2 := b1.keep0 k2
  have wh2 := (wh.keep0 k1).keep0 k2
  refine hK _ _ _ (C.seq fun K hK => ?_)
  by_cases hv : validN x.1 x.2
  · rw [if_pos hv]
    simp only [↓opStep_eq, ↓reduceIte, ↓EW, EV, Nat.reduceAdd, Nat.reduceEqDiff, Int.reduceEq, Int.reduceLT, Int.reduceLE, Int.reduceNe, seqC, retC, skipC, exitC, blockC, condC, Bool.true_or, Bool.false_or, Bool.or_true, Bool.or_false, Bool.true_and, Bool.false_and, Bool.and_true, Bool.and_false, r19_2]
    refine hK _ _ _ (C.cond false (by simp only [↓opStep_eq, ↓reduceIte, ↓EW, EV, Nat.reduceAdd, Nat.reduceEqDiff, Int.reduceEq, Int.reduceLT, Int.reduceLE, Int.reduceNe, seqC, retC, skipC, exitC, blockC, condC]) (fun g => by cases g) fun _ => C.skip (C.seq (C.seq fun K hK => ?_)))
    simp only [↓opStep_eq, ↓reduceIte, ↓EW, EV, Nat.reduceAdd, Nat.reduceEqDiff, Int.reduceEq, Int.reduceLT, Int.reduceLE, Int.reduceNe, seqC, retC, skipC, exitC, blockC, condC, r19_4, load2 b2]
    refine drop_law L n wh2 x _ fun r h3 hq => ?_
    obtain ⟨wh3, fw3, hr⟩ := hq
    have fw := (Fw.of0 (O := O) (k1.then k2)).trans fw3
    rcases hr with ⟨rfl, hu⟩ | ⟨rfl, hno⟩
    · simp only [↓opStep_eq, ↓reduceIte, ↓EW, EV, Nat.reduceAdd, Nat.reduceEqDiff, Int.reduceEq, Int.reduceLT, Int.reduceLE, Int.reduceNe, seqC, retC, skipC, exitC, blockC, condC]
      refine hK _ _ _ (C.cond false (by simp only [↓opStep_eq, ↓reduceIte, ↓EW, EV, Nat.reduceAdd, Nat.reduceEqDiff, Int.reduceEq, Int.reduceLT, Int.reduceLE, Int.reduceNe, seqC, retC, skipC, exitC, blockC, condC]) (fun g => by cases g) fun _ => C.skip (C.seq fun K hK => ?_))
      simp only [↓opStep_eq, ↓reduceIte, ↓EW, EV, Nat.reduceAdd, Nat.reduceEqDiff, Int.reduceEq, Int.reduceLT, Int.reduceLE, Int.reduceNe, seqC, retC, skipC, exitC, blockC, condC, r19_6]
      exact hK .norm _ _ (C.ret ⟨.inr rfl, _, rfl, _, _, wh3, fw, by simp only [↓opStep_eq, ↓reduceIte, ↓EW, EV, Nat.reduceAdd, Nat.reduceEqDiff, Int.reduceEq, Int.reduceLT, Int.reduceLE, Int.reduceNe, seqC, retC, skipC, exitC, blockC, condC, resOf], .inr (.inr ⟨hv, hu, rfl, rfl⟩)⟩)
    · simp only [↓opStep_eq, ↓reduceIte, ↓EW, EV, Nat.reduceAdd, Nat.reduceEqDiff, Int.reduceEq, Int.reduceLT, Int.reduceLE, Int.reduceNe, seqC, retC, skipC, exitC, blockC, condC]
      refine hK _ _ _ (C.cond true (by simp only [↓opStep_eq, ↓reduceIte, ↓EW, EV, Nat.reduceAdd, Nat.reduceEqDiff, Int.reduceEq, Int.reduceLT, Int.reduceLE, Int.reduceNe, seqC, retC, skipC, exitC, blockC, condC]) (fun _ => C.seq fun K hK => ?_) fun g => by cases g)
      simp only [↓opStep_eq, ↓reduceIte, ↓EW, EV, Nat.reduceAdd, Nat.reduceEqDiff, Int.reduceEq, Int.reduceLT, Int.reduceLE, Int.reduceNe, seqC, retC, skipC, exitC, blockC, condC, r19_5]
      exact hK .norm _ _ (C.ret ⟨.inr rfl, _, rfl, _, _, wh3, fw, by simp only [↓opStep_eq, ↓reduceIte, ↓EW, EV, Nat.reduceAdd, Nat.reduceEqDiff, Int.reduceEq, Int.reduceLT, Int.reduceLE, Int.reduceNe, seqC, retC, skipC, exitC, blockC, condC, resOf], .inr (.inl ⟨hv, hno, wo_none hno, rfl⟩)⟩)
  · rw [if_neg hv]
    simp only [↓opStep_eq, ↓reduceIte, ↓EW, EV, Nat.reduceAdd, Nat.reduceEqDiff, Int.reduceEq, Int.reduceLT, Int.reduceLE, Int.reduceNe, seqC, retC, skipC, exitC, blockC, condC, Bool.true_or, Bool.false_or, Bool.or_true, Bool.or_false, Bool.true_and, Bool.false_and, Bool.and_true, Bool.and_false, r19_2]
    refine hK _ _ _ (C.cond true (by simp only [↓opStep_eq, ↓reduceIte, ↓EW, EV, Nat.reduceAdd, Nat.reduceEqDiff, Int.reduceEq, Int.reduceLT, Int.reduceLE, Int.reduceNe, seqC, retC, skipC, exitC, blockC, condC]) (fun _ => C.seq fun K hK => ?_) fun g => by cases g)
    simp only [↓opStep_eq, ↓reduceIte, ↓EW, EV, Nat.reduceAdd, Nat.reduceEqDiff, Int.reduceEq, Int.reduceLT, Int.reduceLE, Int.reduceNe, seqC, retC, skipC, exitC, blockC, condC, r19_3]
    exact hK .norm _ _ (C.ret ⟨.inr rfl, _, rfl, l, _, wh2, Fw.of0 (k1.then k2), by simp only [↓opStep_eq, ↓reduceIte, ↓EW, EV, Nat.reduceAdd, Nat.reduceEqDiff, Int.reduceEq, Int.reduceLT, Int.reduceLE, Int.reduceNe, seqC, retC, skipC, exitC, blockC, condC, resOf], .inl ⟨hv, rfl, rfl⟩⟩)

def AddR (now : Nat) (l : List En) (x : Nm) (u : Int) (l' : List En) (e : Int) : Prop := (¬ validN x.1 x.2 ∧ l' = l ∧ e = 8) ∨ (validN x.1 x.2 ∧ ¬ ((now : Int) < u ∧ u ≤ 1099511627776) ∧ l' = l ∧ e = 2) ∨
  (validN x.1 x.2 ∧ ∃ k : Nat, u = (k : Int) ∧ now < k ∧ k ≤ MAXT ∧ l' = (x, k) :: wo l x ∧ e = 0)
theorem add_law (L n : Nat) (w : Wh O h b now l) (x : Nm) (u : Int) : Sp (CF L (n + 6)) 18 [.pointer (some ⟨b, 0, none⟩), x.v, .int .i64 u] h fun r h' => ∃ O' l' e, Wh O' h' b now l' ∧ Fw O h O' h' ∧ r = .int .i64 e ∧ AddR now l x u l' e := by
  have wh := w
  obtain ⟨wi, U, sv, w⟩ := w
  refine Sp.body f18 (by simp) ?_
  unfold c18
  have k1 := Keep.new h (.rw [.int .i64 x.1, .string x.2])
  have b1 := Has.new h (.rw [.int .i64 x.1, .string x.2])
  have w1 := w.keep0 k1
  have nO : ¬ O h.next := wh.far (Nat.le_refl _)
  refine C.seq fun K hK => ?_
  simp only [↓opStep_eq, ↓reduceIte, ↓EW, EV, Nat.reduceAdd, Nat.reduceEqDiff, Int.reduceEq, Int.reduceLT, Int.reduceLE, Int.reduceNe, seqC, retC, skipC, exitC, blockC, condC, r18_0, cells2]
  generalize h.new (.rw [.int .i64 x.1, .string x.2]) = h1 at *
  refine hK _ _ _ (C.seq (C.seq fun K hK => ?_))
  simp only [↓opStep_eq, ↓reduceIte, ↓EW, EV, Nat.reduceAdd, Nat.reduceEqDiff, Int.reduceEq, Int.reduceLT, Int.reduceLE, Int.reduceNe, seqC, retC, skipC, exitC, blockC, condC, r18_1, load2 b1]
  refine asked_law L (n + 3) w1 x.1 x.2 _ fun r h2 hq => ?_
  obtain ⟨rfl, k2⟩ := hq
  have w2 := w1.keep0 k2
  have b2 := b1.keep0 k2
  have wh2 := (wh.keep0 k1).keep0 k2
  have k02 := k1.then k2
  refine hK _ _ _ (C.seq fun K hK => ?_)
  by_cases hv : validN x.1 x.2
  · rw [if_pos hv]
    simp only [↓opStep_eq, ↓reduceIte, ↓EW, EV, Nat.reduceAdd, Nat.reduceEqDiff, Int.reduceEq, Int.reduceLT, Int.reduceLE, Int.reduceNe, seqC, retC, skipC, exitC, blockC, condC, Bool.true_or, Bool.false_or, Bool.or_true, Bool.or_false, Bool.true_and, Bool.false_and, Bool.and_true, Bool.and_false, r18_2]
    refine hK _ _ _ (C.cond false (by simp only [↓opStep_eq, ↓reduceIte, ↓EW, EV, Nat.reduceAdd, Nat.reduceEqDiff, Int.reduceEq, Int.reduceLT, Int.reduceLE, Int.reduceNe, seqC, retC, skipC, exitC, blockC, condC]) (fun g => by cases g) fun _ => C.skip (C.seq (C.seq fun K hK => ?_)))
    by_cases hu : (now : Int) < u ∧ u ≤ 1099511627776
    · have g1 : ¬ u ≤ (now : Int) := by omega
      have g2 : ¬ (1099511627776 : Int) < u := by omega
      obtain ⟨k, rfl⟩ : ∃ k : Nat, u = (k : Int) := ⟨u.toNat, by omega⟩
      have hk1 : now < k := by omega
      have hk2 : k ≤ MAXT := by unfold MAXT; omega
      simp only [↓opStep_eq, ↓reduceIte, ↓EW, EV, Nat.reduceAdd, Nat.reduceEqDiff, Int.reduceEq, Int.reduceLT, Int.reduceLE, Int.reduceNe, seqC, retC, skipC, exitC, blockC, condC, Bool.true_or, Bool.false_or, Bool.or_true, Bool.or_false, Bool.true_and, Bool.false_and, Bool.and_true, Bool.and_false, r18_4, nilChk_some, w2.ldNow, g1, g2]
      refine hK _ _ _ (C.cond false (by simp only [↓opStep_eq, ↓reduceIte, ↓EW, EV, Nat.reduceAdd, Nat.reduceEqDiff, Int.reduceEq, Int.reduceLT, Int.reduceLE, Int.reduceNe, seqC, retC, skipC, exitC, blockC, condC]) (fun g => by cases g) fun _ => C.skip (C.seq fun K hK => ?_))
      simp only [↓opStep_eq, ↓reduceIte, ↓EW, EV, Nat.reduceAdd, Nat.reduceEqDiff, Int.reduceEq, Int.reduceLT, Int.reduceLE, Int.reduceNe, seqC, retC, skipC, exitC, blockC, condC, r18_6, load2 b2]
      refine drop_law L (n + 1) wh2 x _ fun r h3 hq => ?_
      obtain ⟨⟨wi3, U3, sv3, w3⟩, fw3, _⟩ := hq
      have b3 := fw3.has b2 nO
      refine hK _ _ _ (C.seq fun K hK => ?_)
      have k4 := keep_room h3 7
      have w4 := w3.keep0 k4
      have b4 := b3.keep0 k4
      obtain ⟨o, eo, mo⟩ := w4.un.set x (.int .i64 (k : Int))
      have eu : (x, Value.int .i64 (k : Int)) :: dropN (untilM (wo l x)) x = untilM ((x, k) :: wo l x) := by
        rw [until_drop]
        show _ :: untilM (wo (wo l x) x) = _
        rw [wo_none fun e he => (wo_mem.1 he).2]; rfl
      rw [eu] at mo
      simp only [↓opStep_eq, ↓reduceIte, ↓EW, EV, Nat.reduceAdd, Nat.reduceEqDiff, Int.reduceEq, Int.reduceLT, Int.reduceLE, Int.reduceNe, seqC, retC, skipC, exitC, blockC, condC, r18_7, nilChk_some, w4.ldUn, load2 b4, eo]
      have w5 := w4.setUn mo
      have b5 := b4.keep (Keep.put (⟨h3.objs, h3.next + 7⟩ : H) U3 o) fun e => nO (by have e : h.next = U3 := e; rw [e]; exact w4.oU)
      have fw5 := (((Fw.of0 (O := O) k02).trans fw3).trans (Fw.of0 k4)).trans (Wm.put_fw (h := (⟨h3.objs, h3.next + 7⟩ : H)) w4.oU o)
      generalize (⟨h3.objs, h3.next + 7⟩ : H).put U3 o = h5 at *
      refine hK _ _ _ (C.seq fun K hK => ?_)
      simp only [↓opStep_eq, ↓reduceIte, ↓EW, EV, Nat.reduceAdd, Nat.reduceEqDiff, Int.reduceEq, Int.reduceLT, Int.reduceLE, Int.reduceNe, seqC, retC, skipC, exitC, blockC, condC, r18_8, load2 b5]
      refine put_law L (n + 1) w5 wi.hn hk2 (by omega) _ fun r h6 hq => ?_
      obtain ⟨O6, sv6, w6, fw6⟩ := hq
      refine hK _ _ _ (C.seq fun K hK => ?_)
      simp only [↓opStep_eq, ↓reduceIte, ↓EW, EV, Nat.reduceAdd, Nat.reduceEqDiff, Int.reduceEq, Int.reduceLT, Int.reduceLE, Int.reduceNe, seqC, retC, skipC, exitC, blockC, condC, r18_9]
      refine hK .norm _ _ (C.ret ⟨.inr rfl, _, rfl, O6, (x, k) :: wo l x, 0, ⟨wi3.add (fun e he => (wo_mem.1 he).2) hk1 hk2, U3, sv6, w6.congr (.refl _) fun j _ => ?_⟩, fw5.trans fw6, by simp only [↓opStep_eq, ↓reduceIte, ↓EW, EV, Nat.reduceAdd, Nat.reduceEqDiff, Int.reduceEq, Int.reduceLT, Int.reduceLE, Int.reduceNe, seqC, retC, skipC, exitC, blockC, condC, resOf], .inr (.inr ⟨hv, k, rfl, hk1, hk2, rfl, rfl⟩)⟩)
      rw [ks_add]
      by_cases e : slotN now k = j
      · subst e
        rw [if_pos rfl, ksSet_at, ks_free fun e he => (wo_mem.1 he).2]
      · rw [if_neg e, ksSet_ne _ _ _ (Ne.symm e)]
    · have hbad : ∀ K : KE, r18_4 (CF L (n + 5)) L ((((((toTm [.pointer (some ⟨b, 0, none⟩), x.v, .int .i64 u] 0 T.e).set 4 (.pointer (some ⟨h.next, 0, none⟩))).set 6 (.int .i64 0))).set 7 (.int .i64 0)).set 12 (.bool false)) [] h2 K = K .norm (((((((toTm [.pointer (some ⟨b, 0, none⟩), x.v, .int .i64 u] 0 T.e).set 4 (.pointer (some ⟨h.next, 0, none⟩))).set 6 (.int .i64 0))).set 7 (.int .i64 0)).set 12 (.bool false)).set 23 (.bool true)) [] h2 := fun K => by
        by_cases h1 : u ≤ (now : Int)
        · simp only [↓opStep_eq, ↓reduceIte, ↓EW, EV, Nat.reduceAdd, Nat.reduceEqDiff, Int.reduceEq, Int.reduceLT, Int.reduceLE, Int.reduceNe, seqC, retC, skipC, exitC, blockC, condC, Bool.true_or, Bool.false_or, Bool.or_true, Bool.or_false, Bool.true_and, Bool.false_and, Bool.and_true, Bool.and_false, r18_4, nilChk_some, w2.ldNow, h1]
        · have h3 : (1099511627776 : Int) < u := by omega
          simp only [↓opStep_eq, ↓reduceIte, ↓EW, EV, Nat.reduceAdd, Nat.reduceEqDiff, Int.reduceEq, Int.reduceLT, Int.reduceLE, Int.reduceNe, seqC, retC, skipC, exitC, blockC, condC, Bool.true_or, Bool.false_or, Bool.or_true, Bool.or_false, Bool.true_and, Bool.false_and, Bool.and_true, Bool.and_false, r18_4, nilChk_some, w2.ldNow, h1, h3]
      simp only [↓opStep_eq, ↓reduceIte, ↓EW, EV, Nat.reduceAdd, Nat.reduceEqDiff, Int.reduceEq, Int.reduceLT, Int.reduceLE, Int.reduceNe, seqC, retC, skipC, exitC, blockC, condC] at hbad
      rw [show ∀ x : CodeT, (⟨x⟩ : Box CodeT).f = x from fun _ => rfl]
      rw [hbad]
      refine hK _ _ _ (C.cond true (by simp only [↓opStep_eq, ↓reduceIte, ↓EW, EV, Nat.reduceAdd, Nat.reduceEqDiff, Int.reduceEq, Int.reduceLT, Int.reduceLE, Int.reduceNe, seqC, retC, skipC, exitC, blockC, condC]) (fun _ => C.seq fun K hK => ?_) fun g => by cases g)
      simp only [↓opStep_eq, ↓reduceIte, ↓EW, EV, Nat.reduceAdd, Nat.reduceEqDiff, Int.reduceEq, Int.reduceLT, Int.reduceLE, Int.reduceNe, seqC, retC, skipC, exitC, blockC, condC, r18_5]
      exact hK .norm _ _ (C.ret ⟨.inr rfl, _, rfl, O, l, _, wh2, Fw.of0 k02, by simp only [↓opStep_eq, ↓reduceIte, ↓EW, EV, Nat.reduceAdd, Nat.reduceEqDiff, Int.reduceEq, Int.reduceLT, Int.reduceLE, Int.reduceNe, seqC, retC, skipC, exitC, blockC, condC, resOf], .inr (.inl ⟨hv, hu, rfl, rfl⟩)⟩)
  · rw [if_neg hv]
    simp only [↓opStep_eq, ↓reduceIte, ↓EW, EV, Nat.reduceAdd, Nat.reduceEqDiff, Int.reduceEq, Int.reduceLT, Int.reduceLE, Int.reduceNe, seqC, retC, skipC, exitC, blockC, condC, Bool.true_or, Bool.false_or, Bool.or_true, Bool.or_false, Bool.true_and, Bool.false_and, Bool.and_true, Bool.and_false, r18_2]
    refine hK _ _ _ (C.cond true (by simp only [↓opStep_eq, ↓reduceIte, ↓EW, EV, Nat.reduceAdd, Nat.reduceEqDiff, Int.reduceEq, Int.reduceLT, Int.reduceLE, Int.reduceNe, seqC, retC, skipC, exitC, blockC, condC]) (fun _ => C.seq fun K hK => ?_) fun g => by cases g)
    simp only [↓opStep_eq, ↓reduceIte, ↓EW, EV, Nat.reduceAdd, Nat.reduceEqDiff, Int.reduceEq, Int.reduceLT, Int.reduceLE, Int.reduceNe, seqC, retC, skipC, exitC, blockC, condC, r18_3]
    exact hK .norm _ _ (C.ret ⟨.inr rfl, _, rfl, O, l, _, wh2, Fw.of0 k02, by simp only [↓opStep_eq, ↓reduceIte, ↓EW, EV, Nat.reduceAdd, Nat.reduceEqDiff, Int.reduceEq, Int.reduceLT, Int.reduceLE, Int.reduceNe, seqC, retC, skipC, exitC, blockC, condC, resOf], .inl ⟨hv, rfl, rfl⟩⟩)
end
end Go.Proofs.Ytpoedopdcpejmaa
