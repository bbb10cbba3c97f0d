import Derived.Test.YtilpiiafjehbnaaGreatDoorZbK
set_option linter.unusedSimpArgs false
set_option linter.unusedVariables false
namespace Go.Proofs.YtilpiiafjehbnaaGreatDoor
open Go.Ev
def goodB (r : Rq) : Bool := decide (1 ≤ r.kind) && (decide (r.kind ≤ 5) && (fitsA r && fitsB r))
theorem out_bad {r : Rq} {k : Nat} (h : goodB r = false) : outT r k = ([], 8) := by
 unfold outT
 split
 · rfl
 · rename_i hA
   have hA : fitsA r = true := by simpa using hA
   unfold goodB at h
   rw [hA, Bool.true_and] at h
   simp only [Bool.and_eq_false_iff, decide_eq_false_iff_not] at h
   by_cases e2 : r.kind = 2
   · rw [if_neg (by omega), if_pos e2]
     have : fitsB r = false := by
       rcases h with h | h | h
       · omega
       · omega
       · exact h
     rw [if_pos this]
   · have hB : fitsB r = true := by unfold fitsB; rw [dF e2]; rfl
     rw [hB] at h
     have : ¬ r.kind = 1 ∧ ¬ r.kind = 3 ∧ ¬ r.kind = 4 ∧ ¬ r.kind = 5 := by
       rcases h with h | h | h
       · omega
       · omega
       · cases h
     obtain ⟨a, b, c, d⟩ := this
     rw [if_neg a, if_neg e2, if_neg b, if_neg c, if_neg d]
structure Rq.fit (r : Rq) : Prop where
 c : r.c.fit
 sl : r.c.slim
 sec : r.sec.size ≤ 1000
 ones : ones r.c.cells = true
section
variable {L n : Nat} {tm : T Value} {h : H} {b : Nat} {K : KE} {r : Rq}
theorem lag13 (hb : Has h b (.rw r.cells (some 28))) : ∀ s, loadAgg 13 h (.pointer (some ⟨b, 0, s⟩)) = some r.v := fun s => loadAgg_has hb rfl (by show 0 + 13 ≤ 13; omega)
theorem lag81 (hb : Has h b (.rw r.cells (some 28))) : ∀ s, loadAgg 8 h (.pointer (some ⟨b, 1, s⟩)) = some r.c.v := fun s => loadAgg_has hb rfl (by show 1 + 8 ≤ 13; omega)
theorem regx5_1 (hL : 2000 ≤ L) (hf : r.fit) (hs : Strs h r.c.kv r.c.keys) (hb : Has h b (.rw r.cells (some 28))) (t1 : tg tm 1 = .pointer (some ⟨b, 0, none⟩))
   (hK : ∀ h', Keep nobody h h' → K .norm (T.set tm 22 (.bool (!goodB r))) [] h' = true) : r17_1 (CF L (n + 8)) L tm [] h K = true := by
 have hl : ∀ o s, loadOne h (.pointer (some ⟨b, o, s⟩)) = r.cells[o]? := fun o s => loadOne_has hb rfl
 unfold goodB at hK
 by_cases g1 : r.kind < 1
 · rw [dF (show ¬ 1 ≤ r.kind by omega)] at hK
   simp only [seval, ↓opStep_eq, ↓EW, EV, r17_1, t1, hl, rcell, g1]
   exact hK h (.refl _ _)
 rw [dT (show 1 ≤ r.kind by omega)] at hK
 by_cases g2 : 5 < r.kind
 · rw [dF (show ¬ r.kind ≤ 5 by omega)] at hK
   simp only [seval, ↓opStep_eq, ↓EW, EV, r17_1, t1, hl, rcell, g1, g2]
   exact hK h (.refl _ _)
 rw [dT (show r.kind ≤ 5 by omega)] at hK
 simp only [seval, ↓opStep_eq, ↓EW, EV, r17_1, t1, hl, rcell, g1, g2, lag13 hb]
 refine fits_law L (n + 3) hL hf.sec hs hf.ones _ fun v h2 hq => ?_
 obtain ⟨rfl, k2⟩ := hq
 simp only [EV]
 exact hK h2 k2
end
section
variable {L n : Nat} {tm : T Value} {h : H} {b : Nat} {c : Cmd}
theorem regx5_11 {K : KE} (hL : 2000 ≤ L) (sl : c.slim) (hs : Strs h c.kv c.keys) (hb : Has h b (.rw c.cells (some 26))) (t5 : tg tm 5 = .pointer (some ⟨b, 0, none⟩))
   (hK : ∀ h', Keep nobody h h' → K .norm (T.set tm 42 (.bool (!(decide (c.ten = 0) && keysOk c)))) [] h' = true) : r17_11 (CF L (n + 8)) L tm [] h K = true := by
 have hl : ∀ o s, loadOne h (.pointer (some ⟨b, o, s⟩)) = c.cells[o]? := fun o s => loadOne_has hb rfl
 by_cases g1 : c.ten = 0
 · rw [dT g1, Bool.true_and] at hK
   simp only [seval, ↓opStep_eq, ↓EW, EV, r17_11, t5, hl, hcell, g1]
   have m1 := sl.many
   refine contains_gen L (n + 6) 24 (fun p => !okW 32 p) c.kv c.keys h hs (by omega) (by omega) (fun x hx h => key_fn L (n + 1) (by have := sl.keys x hx; omega) h) _ fun v h2 hq => ?_
   obtain ⟨rfl, k2⟩ := hq
   have e : (c.keys.any fun p => !okW 32 p) = !keysOk c := by unfold keysOk; simp [List.any_eq_not_all_not]
   rw [e]
   exact hK h2 k2
 · rw [dF g1, Bool.false_and] at hK
   simp only [seval, ↓opStep_eq, ↓EW, EV, r17_11, t5, hl, hcell, g1]
   exact hK h (.refl _ _)
end
theorem write_law (L n : Nat) (hL : 2000 ≤ L) {r : Rq} {k : Nat} {h : H} (hkk : r.c.kind = (k : Int)) (hf : r.fit) (hs : Strs h r.c.kv r.c.keys) (hG : Has h 1 (.ro powC)) :
   Sp (CF L (n + 9)) 17 [r.v] h (OutQ r k h) := by
 have hcc : (Value.cells r.v).toList = r.cells := rfl
 have k1 := Keep.new h (.rw r.cells (some 28))
 have b1 := Has.new h (.rw r.cells (some 28))
 have hs1 := hs.keep0 k1
 have hG1 := hG.keep0 k1
 refine Sp.body f17 (by simp) ?_
 unfold c17
 refine C.seq fun K hK => ?_
 simp only [seval, ↓EW, EV, r17_0, hcc]
 generalize h.new (.rw r.cells (some 28)) = h1 at *
 have nil : ∀ (tm : T Value) (h' : H) (e : Int), outT r k = ([], e) → tg tm 2 = .slice none 0 0 → tg tm 3 = .int .i64 e → Keep nobody h h' → ∃ l, q17.f tm h' = some l ∧ OutQ r k h (resOf l) h' := fun tm h' e ho t2 t3 kk => by
   refine ⟨_, rfl, ⟨.slice none 0 0, ?_, ?_⟩, kk⟩
   · simp only [resOf, t2, t3, ho]
   · rw [ho]; exact .inl ⟨rfl, rfl⟩
 refine hK .norm _ _ (C.seq (C.seq fun K hK => ?_))
 rw [box_f]
 refine regx5_1 (n := n) hL hf hs1 b1 (by simp only [seval, EV]) fun h2 k2 => ?_
 have b2 := b1.keep0 k2
 have hs2 := hs1.keep0 k2
 have hG2 := hG1.keep0 k2
 have k12 := k1.then k2
 have ld : ∀ o s, loadOne h2 (.pointer (some ⟨h.next, o, s⟩)) = r.cells[o]? := fun o s => loadOne_has b2 rfl
 cases hgd : goodB r with
 | false =>
   refine hK .norm _ _ (C.ct (C.seq fun K hK => ?_))
   simp only [EV, r17_2]
   refine hK .norm _ _ (C.ret ⟨.inr rfl, ?_⟩)
   refine nil _ _ 8 (out_bad hgd) ?_ ?_ k12 <;> simp only [seval, EV]
 | true =>
   have hgd' := hgd
   unfold goodB at hgd'
   simp only [Bool.and_eq_true, decide_eq_true_eq] at hgd'
   obtain ⟨gk1, gk5, gA, gB⟩ := hgd'
   have nA : ¬ fitsA r = false := by rw [gA]; simp
   refine hK .norm _ _ (C.cf <| C.skip (C.seq fun K hK => ?_))
   simp only [EV, r17_3]
   refine hK .norm _ _ (C.seq (C.seq fun K hK => ?_))
   simp only [seval, EV, r17_4, ld, rcell]
   -- joined words, at the end
   have fin : ∀ (tm : T Value) (h6 : H) (v : Value) (p0 : List UInt8) (ps : List (List UInt8)), tg tm 4 = v → Strs h6 v (p0 :: ps) → p0 ≠ [] → p0.length + ps.length + sumL ps ≤ 3000 → ps.length ≤ 10 → outT r k = (p0 ++ joinR ps ++ [13, 10], 0) → Keep nobody h h6 → C ⟨seqC ⟨r17_24⟩ retC⟩ (CF L (n + 8)) L tm h6 fun e tm h' => (e = .norm ∨ e = .ret) ∧ ∃ l, q17.f tm h' = some l ∧ OutQ r k h (resOf l) h' := fun tm h6 v p0 ps t4 hv hp0 hlen hps ho kk => by
     refine C.seq fun K hK => ?_
     simp only [r17_24, t4]
     refine join_law L (n + 4) hv (by omega) (by omega) hp0 _ fun x h7 hq => ?_
     obtain ⟨rfl, k7⟩ := hq
     have jl : (p0 ++ joinR ps).length ≤ 3000 := by rw [List.length_append, joinR_len]; omega
     have c1 : binV Tryz.prog .add 9 true (sv (p0 ++ joinR ps)) (.string (strB [13, 10])) = some (sv (p0 ++ joinR ps ++ [13, 10])) := cat_sv 9 true _ [13, 10] (by simp only [List.length_cons, List.length_nil]; omega)
     obtain ⟨cap, mb⟩ := mkBytes_eq h7.next (p0 ++ joinR ps ++ [13, 10])
     simp only [EV, c1, mb]
     refine hK .norm _ _ (C.ret ⟨.inr rfl, _, rfl, ⟨.slice (some ⟨h7.next, 0, none⟩) (p0 ++ joinR ps ++ [13, 10]).length cap, ?_, ?_⟩, (kk.then k7).then (.new _ _)⟩)
     · simp only [seval, EV, resOf, ho]
     · rw [ho]; exact reads_new _ _ _ _
   refine hK .norm _ _ ?_
   have hcs : r.kind = 1 ∨ r.kind = 2 ∨ r.kind = 3 ∨ r.kind = 4 ∨ r.kind = 5 := by omega
   rcases hcs with e | e | e | e | e
   · -- a command
     refine C.block (C.seq fun K hK => ?_)
     simp only [seval, EV, r17_6, e]
     refine hK .norm _ _ (C.ct (C.seq fun K hK => ?_))
     have st := store_new h2 8 none [(.int .u8 (0)), (.int .i64 (0)), (.slice none 0 0), (.string (strB [])), (.int .u32 (0)), (.int .i64 (0)), (.int .u64 (0)), (.int .u64 (0))] (some 26) r.c.v rfl rfl hf.ones
     have ec : (Value.cells r.c.v).toList = r.c.cells := rfl
     rw [ec] at st
     have k3 := keep_alloc h2 (.rw [(.int .u8 (0)), (.int .i64 (0)), (.slice none 0 0), (.string (strB [])), (.int .u32 (0)), (.int .i64 (0)), (.int .u64 (0)), (.int .u64 (0))] (some 26)) (.rw r.c.cells (some 26))
     have b3 := has_alloc h2 (.rw [(.int .u8 (0)), (.int .i64 (0)), (.slice none 0 0), (.string (strB [])), (.int .u32 (0)), (.int .i64 (0)), (.int .u64 (0)), (.int .u64 (0))] (some 26)) (.rw r.c.cells (some 26))
     simp only [seval, ↓EW, EV, r17_7, lag81 b2, ptrTo, st]
     generalize (h2.new (.rw [(.int .u8 (0)), (.int .i64 (0)), (.slice none 0 0), (.string (strB [])), (.int .u32 (0)), (.int .i64 (0)), (.int .u64 (0)), (.int .u64 (0))] (some 26))).put h2.next (.rw r.c.cells (some 26)) = h3 at *
     have hs3 := hs2.keep0 k3
     have hG3 := hG2.keep0 k3
     have k13 := k12.then k3
     have mm := hf.sl.many
     refine hK .norm _ _ (C.seq (C.seq fun K hK => ?_))
     simp only [seval, EV, r17_8, lag8 b3]
     refine check_law L (n + 3) (by omega) hkk hs3 (by omega) _ fun x h4 hq => ?_
     obtain ⟨rfl, k4⟩ := hq
     have b4 := b3.keep0 k4
     have hs4 := hs3.keep0 k4
     have hG4 := hG3.keep0 k4
     refine hK .norm _ _ (C.seq fun K hK => ?_)
     cases hm : mayB r.c k with
     | false =>
       have ho : outT r k = ([], 100) := by unfold outT; rw [if_neg nA, if_pos e, if_pos hm]
       simp only [seval, EV, r17_9]
       refine hK .norm _ _ (C.ct (C.seq fun K hK => ?_))
       simp only [seval, EV, r17_10]
       refine hK .norm _ _ (C.ret ⟨.inr rfl, ?_⟩)
       refine nil _ _ 100 ho ?_ ?_ (k13.then k4) <;> simp only [seval, EV]
     | true =>
       have may := may_of hm
       have nm : ¬ mayB r.c k = false := by rw [hm]; simp
       simp only [seval, EV, r17_9]
       refine hK .norm _ _ (C.cf <| C.skip (C.seq (C.seq fun K hK => ?_)))
       rw [box_f]
       refine regx5_11 (n := n) hL hf.sl hs4 b4 (by simp only [seval, EV]) fun h5 k5 => ?_
       have b5 := b4.keep0 k5
       have hs5 := hs4.keep0 k5
       have hG5 := hG4.keep0 k5
       have k15 := (k13.then k4).then k5
       cases hko : (decide (r.c.ten = 0) && keysOk r.c) with
       | false =>
         have ho : outT r k = ([], 8) := by unfold outT; rw [if_neg nA, if_pos e, if_neg nm, if_pos hko]
         refine hK .norm _ _ (C.ct (C.seq fun K hK => ?_))
         simp only [EV, r17_12]
         refine hK .norm _ _ (C.ret ⟨.inr rfl, ?_⟩)
         refine nil _ _ 8 ho ?_ ?_ k15 <;> simp only [seval, EV]
       | true =>
         have ho : outT r k = (lineL r.c k, 0) := by unfold outT; rw [if_neg nA, if_pos e, if_neg nm, if_neg (by rw [hko]; simp)]
         refine hK .norm _ _ (C.cf <| C.skip (C.seq fun K hK => ?_))
         simp only [seval, EV, r17_13, lag8 b5]
         refine words_law L (n + 2) hL hkk may hf.c hs5 hG5 _ fun x h6 hq => ?_
         obtain ⟨⟨v, rfl, hw⟩, k6⟩ := hq
         have tup2 : ∀ (i : Nat) (a b : Value), tupNth i (.tuple #[a, b]) = [a, b][i]? := fun i a b => tupNth_tuple i [a, b]
         have b6 := b5.keep0 k6
         simp only [EV, tup2]
         refine hK .norm _ _ (C.seq fun K hK => ?_)
         obtain ⟨w1, w2⟩ := words_len may hf.c
         obtain ⟨nl, nn⟩ := name_len k may.kind.1 may.kind.2
         simp only [seval, EV, r17_14]
         refine join_law L (n + 4) hw (by omega) (by omega) nn _ fun x h7 hq => ?_
         obtain ⟨rfl, k7⟩ := hq
         have b7 := b6.keep0 k7
         have k17 := (k15.then k6).then k7
         have jl : (nameN.getD k [] ++ joinR (r.c.keys ++ numsL r.c k)).length ≤ 400 := by rw [List.length_append, joinR_len]; omega
         have c1 : binV Tryz.prog .add 9 true (sv (nameN.getD k [] ++ joinR (r.c.keys ++ numsL r.c k))) (.string (strB [13, 10])) = some (sv (nameN.getD k [] ++ joinR (r.c.keys ++ numsL r.c k) ++ [13, 10])) := cat_sv 9 true _ [13, 10] (by simp only [List.length_cons, List.length_nil]; omega)
         simp only [EV, c1]
         refine hK .norm _ _ (C.seq (C.seq fun K hK => ?_))
         simp only [seval, EV, r17_15]
         have fin2 : ∀ (tm : T Value) (h8 : H), tg tm 9 = sv (lineL r.c k) → Keep nobody h h8 → C ⟨seqC ⟨r17_17⟩ retC⟩ (CF L (n + 8)) L tm h8 fun e tm h' => e = .ret ∧ ∃ l, q17.f tm h' = some l ∧ OutQ r k h (resOf l) h' := fun tm h8 t9 kk => by
           refine C.seq fun K hK => ?_
           obtain ⟨cap, mb⟩ := mkBytes_eq h8.next (lineL r.c k)
           simp only [EV, r17_17, t9, mb]
           refine hK .norm _ _ (C.ret ⟨rfl, _, rfl, ⟨.slice (some ⟨h8.next, 0, none⟩) (lineL r.c k).length cap, ?_, ?_⟩, kk.then (.new _ _)⟩)
           · simp only [seval, EV, resOf, ho]
           · rw [ho]; exact reads_new _ _ _ _
         cases hh : hv k with
         | false =>
           refine hK .norm _ _ (C.cf <| C.skip ?_)
           refine (fin2 _ _ ?_ k17).mono fun e tm' h' q => by obtain ⟨rfl, q⟩ := q; exact ⟨.inr rfl, q⟩
           simp only [seval, EV]
           congr 1
           unfold lineL
           rw [hh]; simp
         | true =>
           have vl := may.val
           have l903 : ∀ s, loadOne h7 (.pointer (some ⟨h2.next, 3, s⟩)) = some (sv r.c.val.data.toList) := fun s => loadOne_has b7 rfl
           have vs : r.c.val.data.toList.length = r.c.val.size := rfl
           have c2 : binV Tryz.prog .add 9 true (sv r.c.val.data.toList) (.string (strB [13, 10])) = some (sv (r.c.val.data.toList ++ [13, 10])) := cat_sv 9 true _ [13, 10] (by simp only [List.length_cons, List.length_nil]; omega)
           have c903 : binV Tryz.prog .add 9 false (sv (nameN.getD k [] ++ joinR (r.c.keys ++ numsL r.c k) ++ [13, 10])) (sv (r.c.val.data.toList ++ [13, 10])) = some (sv (lineL r.c k)) := by
             rw [cat_sv 9 false _ _ (by generalize nameN.getD k [] ++ joinR (r.c.keys ++ numsL r.c k) = z at *; simp only [List.length_append, List.length_cons, List.length_nil]; omega)]
             congr 2
             unfold lineL
             rw [hh]; simp
           refine hK .norm _ _ (C.ct (fun K hK => ?_))
           simp only [seval, EV, r17_16, l903, c2, c903]
           refine hK .norm _ _ ?_
           refine (fin2 _ _ ?_ k17).mono fun e tm' h' q => by obtain ⟨rfl, q⟩ := q; exact ⟨.inr rfl, q⟩
           simp only [seval, EV]
   · -- a login
     have hB := gB
     unfold fitsB at hB
     rw [dT e] at hB
     simp only [Bool.not_true, Bool.false_or, Bool.and_eq_true, decide_eq_true_eq] at hB
     obtain ⟨⟨t0, t4⟩, hw⟩ := hB
     have hsl : r.sec.data.toList.length ≤ 16 := by
       unfold okW at hw
       simp only [Bool.and_eq_true, decide_eq_true_eq] at hw
       have := hw.2.2; omega
     have ho : outT r k = (userL r, 0) := by unfold outT; rw [if_neg nA, if_neg (by omega), if_pos e, if_neg (by rw [gB]; simp)]
     refine C.block (C.seq fun K hK => ?_)
     simp only [seval, EV, r17_6, e]
     refine hK .norm _ _ (C.cf <| C.seq fun K hK => ?_)
     simp only [seval, EV, r17_18]
     refine hK .norm _ _ (C.ct (fun K hK => ?_))
     have k0 := keep_room h2 7
     have b3 := b2.keep0 k0
     have hG3 := hG2.keep0 k0
     have rt : r.ten = ((r.ten.toNat : Nat) : Int) := by omega
     have rcell' : r.cells = [.int .u8 r.kind, .int .u8 r.c.kind, .int .i64 r.c.ten, r.c.kv, .string r.c.val, .int .u32 r.c.flags, .int .i64 r.c.fo, .int .u64 r.c.uniq, .int .u64 r.c.by', .int .i64 ((r.ten.toNat : Nat) : Int), .string r.sec, .bool r.on, .bool r.close] := by rw [rcell, ← rt]
     have ldg : ∀ h', Has h' h.next (.rw r.cells (some 28)) → ∀ o s, loadOne h' (.pointer (some ⟨h.next, o, s⟩)) = r.cells[o]? := fun h' hb o s => loadOne_has hb rfl
     have hso := hO_self (veq_str r.sec)
     simp only [seval, EV, r17_19, ldg _ b3, rcell']
     refine tens_int L (n + 3) (by omega) (by omega) hG3 _ fun x h4 hq => ?_
     obtain ⟨rfl, k4⟩ := hq
     have b4 := b3.keep0 k4
     have lit : mkLit 9 3 (h2.next + 5) (fill (repl [(.string (strB []))] 3) (pl 1) [(0, (.string (strB [117, 115, 101, 114]))), (1, sv (dec r.ten.toNat)), (2, .string r.sec)]) = some (.rw ([[117, 115, 101, 114], dec r.ten.toNat, r.sec.data.toList].map sv) (some 9), .slice (some ⟨h2.next + 5, 0, none⟩) 3 3) := rfl
     simp only [EV, ldg _ b4, rcell', hso, Bool.and_true, lit]
     have n4 := k4.next
     simp only at n4
     have kp := Keep.put h4 (h2.next + 5) (.rw ([[117, 115, 101, 114], dec r.ten.toNat, r.sec.data.toList].map sv) (some 9))
     have bp : Has (h4.put (h2.next + 5) (.rw ([[117, 115, 101, 114], dec r.ten.toNat, r.sec.data.toList].map sv) (some 9))) (h2.next + 5) (.rw ([[117, 115, 101, 114], dec r.ten.toNat, r.sec.data.toList].map sv) (some 9)) := Has.put (by omega)
     have kk : Keep nobody h2 (h4.put (h2.next + 5) (.rw ([[117, 115, 101, 114], dec r.ten.toNat, r.sec.data.toList].map sv) (some 9))) := (k0.then k4).trans kp fun k hk e => by omega
     have dl := dec_len 19 r.ten.toNat (by omega)
     refine hK .norm _ _ (fin _ _ _ [117, 115, 101, 114] [dec r.ten.toNat, r.sec.data.toList] (by simp only [seval, EV]; rfl) (strs_lit bp (by simp)) (by simp) ?_ (by simp) ?_ (k12.then kk))
     · simp only [sumL, List.length_cons, List.length_nil]; omega
     · rw [ho]; rfl
   · -- a track
     have ho : outT r k = (trackL r.on, 0) := by unfold outT; rw [if_neg nA, if_neg (by omega), if_neg (by omega), if_pos e]
     refine C.block fun K hK => ?_
     obtain ⟨h3, u1, u2, lk, k3⟩ := map_on h2 r.on
     have b3 := b2.keep0 k3
     have ld3 : ∀ o s, loadOne h3 (.pointer (some ⟨h.next, o, s⟩)) = r.cells[o]? := fun o s => loadOne_has b3 rfl
     have lit : mkLit 9 2 h3.next (fill (repl [(.string (strB []))] 2) (pl 1) [(0, (.string (strB [116, 114, 97, 99, 107]))), (1, sv (if r.on = true then [111, 110] else [111, 102, 102]))]) = some (.rw ([[116, 114, 97, 99, 107], if r.on = true then [111, 110] else [111, 102, 102]].map sv) (some 9), .slice (some ⟨h3.next, 0, none⟩) 2 2) := rfl
     simp only [seval, ↓EW, EV, seqC, condC, r17_6, r17_18, r17_20, r17_21, e, u1, u2, ld3, rcell, lk, lit]
     have bp := Has.new h3 (.rw ([[116, 114, 97, 99, 107], if r.on = true then [111, 110] else [111, 102, 102]].map sv) (some 9))
     refine hK .norm _ _ (fin _ _ _ [116, 114, 97, 99, 107] [if r.on = true then [111, 110] else [111, 102, 102]] (by simp only [seval, EV]; rfl) (strs_lit bp (by simp)) (by simp) ?_ (by simp) ?_ ((k12.then k3).then (.new _ _)))
     · simp only [sumL, List.length_cons, List.length_nil]; split <;> simp
     · rw [ho]; simp [trackL, joinR]
   · have ho : outT r k = ([112, 105, 110, 103, 13, 10], 0) := by unfold outT; rw [if_neg nA, if_neg (by omega), if_neg (by omega), if_neg (by omega), if_pos e]
     refine C.block fun K hK => ?_
     have lit : mkLit 9 1 h2.next (fill (repl [(.string (strB []))] 1) (pl 1) [(0, (.string (strB [112, 105, 110, 103])))]) = some (.rw ([[112, 105, 110, 103]].map sv) (some 9), .slice (some ⟨h2.next, 0, none⟩) 1 1) := rfl
     simp only [seval, EV, seqC, condC, r17_6, r17_18, r17_20, r17_22, r17_23, e, lit]
     have bp := Has.new h2 (.rw ([[112, 105, 110, 103]].map sv) (some 9))
     exact hK .norm _ _ (fin _ _ _ [112, 105, 110, 103] [] (by simp only [seval, EV]; rfl) (strs_lit bp (by simp)) (by simp) (by simp [sumL]) (by simp) (by rw [ho]; rfl) (k12.then (.new _ _)))
   · have ho : outT r k = ([113, 117, 105, 116, 13, 10], 0) := by unfold outT; rw [if_neg nA, if_neg (by omega), if_neg (by omega), if_neg (by omega), if_neg (by omega), if_pos e]
     refine C.block fun K hK => ?_
     have lit : mkLit 9 1 h2.next (fill (repl [(.string (strB []))] 1) (pl 1) [(0, (.string (strB [113, 117, 105, 116])))]) = some (.rw ([[113, 117, 105, 116]].map sv) (some 9), .slice (some ⟨h2.next, 0, none⟩) 1 1) := rfl
     simp only [seval, EV, seqC, condC, r17_6, r17_18, r17_20, r17_22, r17_5, e, lit]
     have bp := Has.new h2 (.rw ([[113, 117, 105, 116]].map sv) (some 9))
     exact hK .norm _ _ (fin _ _ _ [113, 117, 105, 116] [] (by simp only [seval, EV]; rfl) (strs_lit bp (by simp)) (by simp) (by simp [sumL]) (by simp) (by rw [ho]; rfl) (k12.then (.new _ _)))
structure Rq.ok (r : Rq) : Prop where
 kind : 0 ≤ r.c.kind ∧ r.c.kind < 256
 c : r.c.fit
 ones : ones r.c.cells = true
end Go.Proofs.YtilpiiafjehbnaaGreatDoor
set_option maxRecDepth 100000
namespace Go.Proofs.YtilpiiafjehbnaaGreatDoor
open Go.Ev Go.RowKit
theorem u9 : Tryz.prog.underlying 9 = some .string := by kernel_rfl
theorem u4 : Tryz.prog.underlying 4 = some .bool := by kernel_rfl
theorem s9 : Tryz.prog.cellsOf 9 = 1 := by kernel_rfl
theorem s3 : Tryz.prog.cellsOf 3 = 1 := by kernel_rfl
theorem s4 : Tryz.prog.cellsOf 4 = 1 := by kernel_rfl
section
variable {H : Type} {enc : TypeId × Value → H} {w : World} {base : Nat} {sp : Nat → Bool} {held : Bool}
end
section
variable {H : Type} {enc : TypeId × Value → H}
end
end Go.Proofs.YtilpiiafjehbnaaGreatDoor
