import Derived.Test.YtilpiiafjehbnaaGreatDoorZbP
set_option linter.unusedSimpArgs false
set_option linter.unusedVariables false
namespace Go.Proofs.YtilpiiafjehbnaaGreatDoor
open Go.Ev
theorem is_law (L n : Nat) (hL : 2000 ≤ L) {l : List UInt8} {q : RQ} {kv : Value} {k : Nat} {h : H} {e : Value} {m : Int} (ev : Env0 e h) (h7 : 7 < h.next) (hM : Has h 0 (.ro [.int .i64 m])) (hs : Strs h kv q.keys) (hk : q.keys.length ≤ 1000) (hl : l.length ≤ 16384) (hn : nextE l = (q, k, 0)) :
   Sp (CF L (n + 15)) 8 [sv l, q.v kv, .int .i64 (k : Int)] h fun r h' => r = .bool true ∧ Keep nobody h h' := by
 refine Sp.body f8 (by simp) ?_
 have hc1 : (Value.cells (q.v kv)).toList = q.cells kv := rfl
 have k1 := Keep.new h (.rw (q.cells kv) (some 28))
 have b1 := Has.new h (.rw (q.cells kv) (some 28))
 have n1 : (h.new (.rw (q.cells kv) (some 28))).next = h.next + 1 := rfl
 unfold c8
 refine C.seq fun K hK => ?_
 simp only [seval, ↓EW, EV, r8_0, hc1]
 generalize hB : h.next = B at *
 generalize h.new (.rw (q.cells kv) (some 28)) = h1 at *
 refine hK _ _ _ (C.seq fun K hK => ?_)
 obtain ⟨cap, mb⟩ : ∃ cap, mkBytes 5 h1.next (sv l) = some (.op (l.map bv) 1 (some 5), .slice (some ⟨h1.next, 0, none⟩) l.length cap) ∧ Nat.ble OPEN cap = true ∧ Nat.beq (szOf cap) 1 = true := by
   refine ⟨opCap l.length 1, rfl, Nat.ble_eq_true_of_le (by unfold OPEN opCap; omega), ?_⟩
   rw [szOf_opCap (lb := l.length) (e := 1) (by omega)]; rfl
 obtain ⟨mb, o1, o2⟩ := mb
 have k2 := Keep.new h1 (.op (l.map bv) 1 (some 5))
 have b2 := Has.new h1 (.op (l.map bv) 1 (some 5))
 have rd2 : Rd (h1.new (.op (l.map bv) 1 (some 5))) (.slice (some ⟨h1.next, 0, none⟩) l.length cap) l := rd_of_mine (.op _ _ _ (some 5) o1 o2 b2) (by omega)
 simp only [seval, ↓EW, EV, r8_1, mb]
 generalize h1.new (.op (l.map bv) 1 (some 5)) = h2 at *
 have k12 := k1.then k2
 have nn := k2.next
 refine law10 L n hL (ev.keep0 k12) (by omega) (hM.keep0 k12) rd2 (by omega) _ fun r h3 hv => ?_
 obtain ⟨k3, kv3, rfl, s3, _⟩ := hv
 rw [hn] at s3 ⊢
 simp only [EV, t3, new13, own13 (strs_ones s3)]
 have k4 := keep_alloc h3 (.rw (RQ.zero.cells nilV) (some 28)) (.rw (q.cells kv3) (some 28))
 have b4 := has_alloc h3 (.rw (RQ.zero.cells nilV) (some 28)) (.rw (q.cells kv3) (some 28))
 have s4 := s3.keep0 k4
 generalize (h3.new (.rw (RQ.zero.cells nilV) (some 28))).put h3.next (.rw (q.cells kv3) (some 28)) = h4 at *
 have k24 := k3.then k4
 have b1' := b1.keep0 (k2.then k24)
 have s1' := hs.keep0 (k12.then k24)
 refine hK _ _ _ (C.seq fun K hK => ?_)
 rw [box_f]
 unfold r8_2
 try rw [bx]
 refine ops_s ?_
 simp only [seval, ↓OF, NK, tg_set]
 refine ops_s ?_
 simp only [↓OF, NK, eqlS]
 refine ops_s ?_
 simp only [↓OF, NK]
 refine ops_s ?_
 simp only [seval, ↓OF, NK, tg_set]
 refine ops_s ?_
 simp only [seval, ↓OF, NK, tg_set]
 refine ops_s ?_
 simp only [↓OF, NK, eqlS]
 refine ops_s ?_
 simp only [↓OF, NK, pickV_true]
 refine ops_s ?_
 simp only [↓OF, NK]
 refine ops_s ?_
 simp only [seval, ↓OF, NK, tg_set, get13 b4]
 refine ops_s ?_
 simp only [seval, ↓OF, NK, tg_set, get13 b1']
 refine ops_s ?_
 simp only [NK]
 refine law14 L (n + 12) hL s4 s1' hk _ fun r h5 hv => ?_
 obtain ⟨rfl, k5⟩ := hv
 refine ops_s ?_
 simp only [↓OF, NK, pickV_true]
 refine ops_s ?_
 simp only [↓OF, NK]
 exact hK _ _ _ (C.ret ⟨.inr rfl, _, rfl, by simp only [seval, EV, resOf], (k12.then k24).then k5⟩)
def exQ1 : RQ := ⟨1, 1, [[97], [98]], [], 0, 0, 0, 0, 0, [], false, false⟩
def exQ2 : RQ := ⟨1, 2, [[97]], [120, 121], 0, 5, 0, 0, 0, [], false, false⟩
def exW1 : List UInt8 := [103, 101, 116, 32, 97, 32, 98, 13, 10]
def exW2 : List UInt8 := [115, 101, 116, 32, 97, 32, 48, 32, 53, 32, 50, 13, 10, 120, 121, 13, 10, 103, 101, 116]
theorem n1_eq : nextE exW1 = (exQ1, 9, 0) := by kernel_rfl
theorem n2_eq : nextE exW2 = (exQ2, 17, 0) := by kernel_rfl
theorem litA (b : Nat) : mkLit 9 2 b (fill (repl [(.string (strB []))] 2) (pl 1) [(0, (.string (strB [97]))), (1, (.string (strB [98])))]) = some (.rw (exQ1.keys.map sv) (some 9), .slice (some ⟨b, 0, none⟩) 2 2) := rfl
theorem litB (b : Nat) : mkLit 9 1 b (fill (repl [(.string (strB []))] 1) (pl 1) [(0, (.string (strB [97])))]) = some (.rw (exQ2.keys.map sv) (some 9), .slice (some ⟨b, 0, none⟩) 1 1) := rfl
theorem aggA (b : Nat) : aggO (fill [(.int .u8 (0)), (.int .i64 (0)), (.slice none 0 0), (.string (strB [])), (.int .u32 (0)), (.int .i64 (0)), (.int .u64 (0)), (.int .u64 (0))] (plc [(0, 1), (1, 1), (2, 1), (3, 1), (4, 1), (5, 1), (6, 1), (7, 1)]) [(0, (.int .u8 (1))), (2, .slice (some ⟨b, 0, none⟩) 2 2)]) = some (cmdQ exQ1 (.slice (some ⟨b, 0, none⟩) 2 2)).v := rfl
theorem aggA' (b : Nat) : aggO (fill [(.int .u8 (0)), (.int .u8 (0)), (.int .i64 (0)), (.slice none 0 0), (.string (strB [])), (.int .u32 (0)), (.int .i64 (0)), (.int .u64 (0)), (.int .u64 (0)), (.int .i64 (0)), (.string (strB [])), (.bool false), (.bool false)] (plc [(0, 1), (1, 8), (9, 1), (10, 1), (11, 1), (12, 1)]) [(0, (.int .u8 (1))), (1, (cmdQ exQ1 (.slice (some ⟨b, 0, none⟩) 2 2)).v)]) = some (exQ1.v (.slice (some ⟨b, 0, none⟩) 2 2)) := rfl
theorem aggB (b : Nat) : aggO (fill [(.int .u8 (0)), (.int .i64 (0)), (.slice none 0 0), (.string (strB [])), (.int .u32 (0)), (.int .i64 (0)), (.int .u64 (0)), (.int .u64 (0))] (plc [(0, 1), (1, 1), (2, 1), (3, 1), (4, 1), (5, 1), (6, 1), (7, 1)]) [(0, (.int .u8 (2))), (2, .slice (some ⟨b, 0, none⟩) 1 1), (5, (.int .i64 (5))), (3, (.string (strB [120, 121])))]) = some (cmdQ exQ2 (.slice (some ⟨b, 0, none⟩) 1 1)).v := rfl
theorem aggB' (b : Nat) : aggO (fill [(.int .u8 (0)), (.int .u8 (0)), (.int .i64 (0)), (.slice none 0 0), (.string (strB [])), (.int .u32 (0)), (.int .i64 (0)), (.int .u64 (0)), (.int .u64 (0)), (.int .i64 (0)), (.string (strB [])), (.bool false), (.bool false)] (plc [(0, 1), (1, 8), (9, 1), (10, 1), (11, 1), (12, 1)]) [(0, (.int .u8 (1))), (1, (cmdQ exQ2 (.slice (some ⟨b, 0, none⟩) 1 1)).v)]) = some (exQ2.v (.slice (some ⟨b, 0, none⟩) 1 1)) := rfl
theorem alive_law (L n : Nat) (hL : 2000 ≤ L) {h : H} {e : Value} {m : Int} (ev : Env0 e h) (h7 : 7 < h.next) (hM : Has h 0 (.ro [.int .i64 m])) :
   Sp (CF L (n + 16)) 11 [] h fun r h' => r = .bool true ∧ Keep nobody h h' := by
 refine Sp.body f11 (by simp) ?_
 unfold c11
 refine C.seq fun K hK => ?_
 simp only [EV, r11_0]
 refine hK _ _ _ (C.seq fun K hK => ?_)
 have k1 := Keep.new h (.rw (exQ1.keys.map sv) (some 9))
 have b1 := strs_lit (Has.new h (.rw (exQ1.keys.map sv) (some 9))) (by decide)
 simp only [↓EW, EV, r11_1, litA, aggA, aggA']
 generalize h.new (.rw (exQ1.keys.map sv) (some 9)) = h1 at *
 have k2 := keep_alloc h1 (.rw (RQ.zero.cells nilV) (some 28)) (.rw (exQ1.cells (.slice (some ⟨h.next, 0, none⟩) 2 2)) (some 28))
 have b2 := has_alloc h1 (.rw (RQ.zero.cells nilV) (some 28)) (.rw (exQ1.cells (.slice (some ⟨h.next, 0, none⟩) 2 2)) (some 28))
 simp only [EV, new13, own13 (q := exQ1) (kv := .slice (some ⟨h.next, 0, none⟩) 2 2) (strs_ones b1)]
 generalize (h1.new (.rw (RQ.zero.cells nilV) (some 28))).put h1.next (.rw (exQ1.cells (.slice (some ⟨h.next, 0, none⟩) 2 2)) (some 28)) = h2 at *
 have k02 := k1.then k2
 refine hK _ _ _ (C.seq fun K hK => ?_)
 have k3 := Keep.new h2 (.rw (exQ2.keys.map sv) (some 9))
 have b3 := strs_lit (Has.new h2 (.rw (exQ2.keys.map sv) (some 9))) (by decide)
 simp only [↓EW, EV, r11_2, litB, aggB, aggB']
 generalize h2.new (.rw (exQ2.keys.map sv) (some 9)) = h3 at *
 have k4 := keep_alloc h3 (.rw (RQ.zero.cells nilV) (some 28)) (.rw (exQ2.cells (.slice (some ⟨h2.next, 0, none⟩) 1 1)) (some 28))
 have b4 := has_alloc h3 (.rw (RQ.zero.cells nilV) (some 28)) (.rw (exQ2.cells (.slice (some ⟨h2.next, 0, none⟩) 1 1)) (some 28))
 simp only [EV, new13, own13 (q := exQ2) (kv := .slice (some ⟨h2.next, 0, none⟩) 1 1) (strs_ones b3)]
 generalize (h3.new (.rw (RQ.zero.cells nilV) (some 28))).put h3.next (.rw (exQ2.cells (.slice (some ⟨h2.next, 0, none⟩) 1 1)) (some 28)) = h4 at *
 have k24 := k3.then k4
 have k04 := k02.then k24
 have b2' := b2.keep0 k24
 have nn := k04.next
 refine hK _ _ _ (C.seq fun K hK => ?_)
 have g1 := is_law L n hL (ev.keep0 k04) (by omega) (hM.keep0 k04) (b1.keep0 (k2.then k24)) (by decide) (by decide) n1_eq
 simp only [seval, EV, r11_3, get13 b2']
 refine g1 _ fun r h5 hv => ?_
 obtain ⟨rfl, k5⟩ := hv
 have k05 := k04.then k5
 have nn5 := k5.next
 have g2 := is_law L n hL (ev.keep0 k05) (by omega) (hM.keep0 k05) (b3.keep0 (k4.then k5)) (by decide) (by decide) n2_eq
 simp only [EV, get13 (b4.keep0 k5)]
 refine g2 _ fun r h6 hv => ?_
 obtain ⟨rfl, k6⟩ := hv
 exact hK _ _ _ (C.ret ⟨.inr rfl, [.bool true], by simp only [seval, EV, q11], rfl, k05.then k6⟩)
theorem at_app {a c : List UInt8} {j : Nat} (h : j + 1 < a.length) : At (a ++ c) j ↔ At a j := by
 unfold At
 rw [List.getElem?_append_left (by omega), List.getElem?_append_left (by omega)]
theorem take_app {a c : List UInt8} {n : Nat} (h : n ≤ a.length) : (a ++ c).take n = a.take n := by
 rw [List.take_append_of_le_length h]
theorem nextP_more {a : List UInt8} (c : List UInt8) (h : (nextP a).2 ≠ 0) (hc : (nextP a).1.close = false) : nextP (a ++ c) = nextP a := by
 rcases crlf_cases a with e | ⟨i, e⟩
 · rw [nextP_neg e] at h hc
   split at h
   · exact absurd rfl h
   · rename_i g
     rw [if_neg g] at hc
     cases hc
 · obtain ⟨h1, h2, h3⟩ := crlf_pos e
   have hf : ∀ j, j < i → ¬ At a j := fun j hj hA => by
     rcases crlf_spec (a.take 514) with ⟨e2, h4⟩ | ⟨k, e2, h4, h5⟩
     · rw [e] at e2; omega
     · have : k = i := by rw [e] at e2; omega
       subst this
       exact h5 j hj (At.take.2 ⟨hA, by omega⟩)
   have e' : crlf ((a ++ c).take 514) = (i : Int) := by
     refine crlf_first ((at_app (by omega)).2 h3) h2 fun j hj hA => hf j hj ((at_app (by omega)).1 hA)
   have et : (a ++ c).take i = a.take i := take_app (by omega)
   rw [nextP_pos e] at h hc ⊢
   rw [nextP_pos e', et]
   split at h
   · rename_i g1; rw [if_pos g1, if_pos g1]
   rename_i g1
   rw [if_neg g1] at hc ⊢
   split at h
   · rename_i g2; rw [if_neg g1, if_pos g2, if_pos g2]
   rename_i g2
   rw [if_neg g2] at hc ⊢
   split at h
   · exact absurd rfl h
   rename_i g3
   rw [if_neg g3] at hc ⊢
   rw [if_neg g1, if_neg g2, if_neg (by rw [List.length_append]; omega)]
   have ha : At (a ++ c) (i + 2 + (lineP (a.take i)).2.1.toNat) ↔ At a (i + 2 + (lineP (a.take i)).2.1.toNat) := at_app (by omega)
   by_cases g4 : At a (i + 2 + (lineP (a.take i)).2.1.toNat)
   · rw [if_neg (fun x => x (ha.2 g4)), if_neg (fun x => x g4), take_app (by omega)]
   · rw [if_pos (fun x => g4 (ha.1 x)), if_pos g4]
theorem Reqs.lt {n0 : Nat} {h : H} {v : Value} {l : List RQ} (a : Reqs n0 h v l) {c : Nat} (hc : blk v c) : c < h.next := by
 obtain ⟨xs, e, m, hx⟩ := a.ex
 exact m.lt hc
theorem wrapU32 {z : Int} (h : (0 : Int) ≤ z) (h1 : z < 4294967296) : IntKind.u32.wrap z = z := wrap_eq _ _ (by show (0 : Int) ≤ _; omega) (by show _ ≤ (4294967295 : Int); omega)
theorem wrapI64 {z : Int} (h : (0 : Int) ≤ z) (h1 : z ≤ 1099511627776) : IntKind.i64.wrap z = z := wrap_eq _ _ (by show (-9223372036854775808 : Int) ≤ _; omega) (by show _ ≤ (9223372036854775807 : Int); omega)
theorem up_back {w : List UInt8} {m : Nat} (h : upN w m = true) : ∃ n : Nat, n ≤ m ∧ nu w = (n : Int) ∧ w = dec n ∧ n < 18446744073709551616 := by
 unfold upN at h
 obtain ⟨h1, h2⟩ := (Bool.and_eq_true _ _ ▸ h : _ ∧ _)
 obtain ⟨n, hn⟩ := Option.isSome_iff_exists.1 h1
 rw [hn] at h2
 exact ⟨n, of_decide_eq_true h2, by unfold nu; rw [hn]; rfl, dec_num hn, numN_lt hn⟩
theorem kindW_inv {w : List UInt8} {k : Nat} {many : Int} (h : kindW w = (k, many)) (h1 : 1 ≤ k) : w = nameN.getD k [] ∧ (k, many) ∈ [((1 : Nat), (-1 : Int)), (2, 4), (3, 4), (4, 4), (5, 5), (6, 2), (7, 2), (8, 2), (9, 2), (10, -1), (11, 0)] := by
 unfold kindW at h
 repeat' (split at h)
 all_goals (rename_i g; cases h; first | (subst g; exact ⟨rfl, by decide⟩) | (exact absurd h1 (by decide)))
def cOf (k : Nat) (rest : List (List UInt8)) (kv : Value) (v : List UInt8) : Cmd := { dC k rest kv with val := ⟨v.toArray⟩ }
structure OnlyC (w : List UInt8) (k : Nat) (rest : List (List UInt8)) (c : Cmd) : Prop where
 name : w = nameN.getD k []
 may : mayB c k = true
 keys : keysOk c = true
 rest : c.keys ++ numsL c k = rest
 fit : c.fit
theorem mayB_of {k : Nat} {rest : List (List UInt8)} {kv : Value} {v : List UInt8} (h : mayB (dC k rest nilV) k = true) (hl : v.length ≤ 512) (h0 : hv k = true ∨ v = []) : mayB (cOf k rest kv v) k = true := by
 unfold mayB mayA at h ⊢
 simp only [Bool.and_eq_true, Bool.or_eq_true, decide_eq_true_eq] at h ⊢
 obtain ⟨h1, _, h3⟩ := h
 refine ⟨h1, ⟨?_, h0.imp id fun e => ?_⟩, h3⟩
 · show ((v.length : Nat) : Int) ≤ 512; omega
 · subst e; rfl
theorem cmd_only {w : List UInt8} {k : Nat} {many : Int} {rest : List (List UInt8)} (hw : kindW w = (k, many)) (h1 : 1 ≤ k) (hc : CntOK many rest) (hd : dOK k rest = true) (kv : Value) (v : List UInt8) (hn : if hv k = true then (v.length : Int) = dN k rest else v = []) : OnlyC w k rest (cOf k rest kv v) := by
 obtain ⟨e1, e2⟩ := kindW_inv hw h1
 unfold dOK at hd
 obtain ⟨d1, d2⟩ := (Bool.and_eq_true _ _ ▸ hd : _ ∧ _)
 obtain ⟨d2, d3⟩ := (Bool.and_eq_true _ _ ▸ d2 : _ ∧ _)
 have hk : keysOk (cOf k rest kv v) = true := d1
 have four : 0 ≤ many → ∀ j : Nat, (j : Int) = many → rest.length = j := fun hm j hj => by have := hc.1 hm; omega
 simp only [List.mem_cons, Prod.mk.injEq, List.not_mem_nil, or_false] at e2
 have puts : ∀ (a b c d : List UInt8) (r : List (List UInt8)), rest = a :: b :: c :: d :: r → k25 k = true → k ≠ 9 → hv k = true → hg k = true → (upN b 4294967295 && upN c 1099511627776 && upN d 512) = true → v.length ≤ 512 ∧ dec (cOf k rest kv v).flags.toNat = b ∧ dec (cOf k rest kv v).fo.toNat = c ∧ dec (cOf k rest kv v).val.size = d ∧ (0 ≤ (cOf k rest kv v).flags ∧ (cOf k rest kv v).flags < 4294967296) := fun a b c d r hr h25 h9 hv' hg' hu => by
   subst hr
   obtain ⟨hu, u3⟩ := (Bool.and_eq_true _ _ ▸ hu : _ ∧ _)
   obtain ⟨u1, u2⟩ := (Bool.and_eq_true _ _ ▸ hu : _ ∧ _)
   obtain ⟨n1, a1, b1, c1, l1⟩ := up_back u1
   obtain ⟨n2, a2, b2, c2, l2⟩ := up_back u2
   obtain ⟨n3, a3, b3, c3, l3⟩ := up_back u3
   have f1 : (cOf k (a :: b :: c :: d :: r) kv v).flags = (n1 : Int) := by
     show flD k (a :: b :: c :: d :: r) = _
     unfold flD
     rw [if_pos h25]
     show IntKind.u32.wrap (nu b) = _
     rw [b1, wrapU32 (by omega) (by omega)]
   have f2 : (cOf k (a :: b :: c :: d :: r) kv v).fo = (n2 : Int) := by
     show foD k (a :: b :: c :: d :: r) = _
     unfold foD
     rw [if_neg h9, if_pos h25]
     show IntKind.i64.wrap (nu c) = _
     rw [b2, wrapI64 (by omega) (by omega)]
   rw [if_pos hv'] at hn
   have f3 : v.length = n3 := by
     have : dN k (a :: b :: c :: d :: r) = (n3 : Int) := by
       unfold dN hasD nD
       rw [h25, Bool.true_or, if_pos rfl, if_neg (fun e => by subst e; cases h25), if_pos rfl]
       show IntKind.i64.wrap (nu d) = _
       rw [b3, wrapI64 (by omega) (by omega)]
     omega
   rw [f1, f2]
   refine ⟨by omega, ?_, ?_, ?_, by omega⟩
   · rw [Int.toNat_natCast, ← c1]
   · rw [Int.toNat_natCast, ← c2]
   · show dec v.length = d
     rw [f3, ← c3]
 have fit0 : ∀ c : Cmd, c.kind = (k : Int) → k ≤ 11 → (0 ≤ c.flags ∧ c.flags < 4294967296) → (0 ≤ c.uniq ∧ c.uniq < 18446744073709551616) → (0 ≤ c.by' ∧ c.by' < 18446744073709551616) → c.fit := fun c h1 h2 h3 h4 h5 => ⟨by omega, h3, h4, h5⟩
 have z32 : (0 : Int) ≤ 0 ∧ (0 : Int) < 4294967296 := by decide
 have z64 : (0 : Int) ≤ 0 ∧ (0 : Int) < 18446744073709551616 := by decide
 rcases e2 with ⟨rfl, rfl⟩ | ⟨rfl, rfl⟩ | ⟨rfl, rfl⟩ | ⟨rfl, rfl⟩ | ⟨rfl, rfl⟩ | ⟨rfl, rfl⟩ | ⟨rfl, rfl⟩ | ⟨rfl, rfl⟩ | ⟨rfl, rfl⟩ | ⟨rfl, rfl⟩ | ⟨rfl, rfl⟩
 case inl | inr.inr.inr.inr.inr.inr.inr.inr.inr.inl =>
   have hv0 : v = [] := hn
   subst hv0
   exact ⟨e1, mayB_of d3 (by decide) (.inr rfl), hk, List.append_nil _, fit0 _ rfl (by decide) z32 z64 z64⟩
 case inr.inl | inr.inr.inl | inr.inr.inr.inl =>
   have hl := four (by decide) 4 rfl
   match rest, hl with
   | [a, b, c, d], _ =>
     obtain ⟨p1, p2, p3, p4, p5⟩ := puts a b c d [] rfl rfl (by decide) rfl rfl d2
     refine ⟨e1, mayB_of d3 p1 (.inl rfl), hk, ?_, fit0 _ rfl (by decide) p5 z64 z64⟩
     show [a, dec _, dec _, dec _] = _
     rw [p2, p3, p4]
 case inr.inr.inr.inr.inl =>
   have hl := four (by decide) 5 rfl
   match rest, hl with
   | [a, b, c, d, e], _ =>
     obtain ⟨d4, d5⟩ := (Bool.and_eq_true _ _ ▸ d2 : (upN b 4294967295 && upN c 1099511627776 && upN d 512) = true ∧ upN e 18446744073709551615 = true)
     obtain ⟨p1, p2, p3, p4, p5⟩ := puts a b c d [e] rfl rfl (by decide) rfl rfl d4
     obtain ⟨n, a1, b1, c1, l1⟩ := up_back d5
     have f : (cOf 5 [a, b, c, d, e] kv v).uniq = (n : Int) := b1
     refine ⟨e1, mayB_of d3 p1 (.inl rfl), hk, ?_, fit0 _ rfl (by decide) p5 (by rw [f]; omega) z64⟩
     show [a, dec _, dec _, dec _, dec (cOf 5 [a, b, c, d, e] kv v).uniq.toNat] = _
     rw [p2, p3, p4, f, Int.toNat_natCast, ← c1]
 case inr.inr.inr.inr.inr.inl | inr.inr.inr.inr.inr.inr.inl =>
   have hv0 : v = [] := hn
   subst hv0
   have hl := four (by decide) 2 rfl
   match rest, hl with
   | [a, b], _ =>
     have d4 : upN b 18446744073709551615 = true := d2
     obtain ⟨n, a1, b1, c1, l1⟩ := up_back d4
     have f : nu b = (n : Int) := b1
     refine ⟨e1, mayB_of d3 (by decide) (.inr rfl), hk, ?_, fit0 _ rfl (by decide) z32 z64 ?_⟩
     · show [a, dec (nu b).toNat] = _
       rw [f, Int.toNat_natCast, ← c1]
     · show 0 ≤ nu b ∧ nu b < 18446744073709551616
       rw [f]; omega
 case inr.inr.inr.inr.inr.inr.inr.inl =>
   have hl := four (by decide) 2 rfl
   match rest, hl with
   | [a, b], _ =>
     have d4 : upN b 512 = true := d2
     obtain ⟨n, a1, b1, c1, l1⟩ := up_back d4
     have hn' : (v.length : Int) = IntKind.i64.wrap (nu b) := hn
     rw [b1, wrapI64 (by omega) (by omega)] at hn'
     refine ⟨e1, mayB_of d3 (by omega) (.inl rfl), hk, ?_, fit0 _ rfl (by decide) z32 z64 z64⟩
     show [a, dec v.length] = _
     rw [show v.length = n by omega, ← c1]
 case inr.inr.inr.inr.inr.inr.inr.inr.inl =>
   have hv0 : v = [] := hn
   subst hv0
   have hl := four (by decide) 2 rfl
   match rest, hl with
   | [a, b], _ =>
     have d4 : upN b 1099511627776 = true := d2
     obtain ⟨n, a1, b1, c1, l1⟩ := up_back d4
     refine ⟨e1, mayB_of d3 (by decide) (.inr rfl), hk, ?_, fit0 _ rfl (by decide) z32 z64 z64⟩
     show [a, dec (IntKind.i64.wrap (nu b)).toNat] = _
     rw [b1, wrapI64 (by omega) (by omega), Int.toNat_natCast, ← c1]
 case inr.inr.inr.inr.inr.inr.inr.inr.inr.inr =>
   have hv0 : v = [] := hn
   subst hv0
   have hl := four (by decide) 0 rfl
   match rest, hl with
   | [], _ => exact ⟨e1, mayB_of d3 (by decide) (.inr rfl), hk, rfl, fit0 _ rfl (by decide) z32 z64 z64⟩
def rOf (q : RQ) (kv : Value) : Rq := ⟨q.kind, ⟨q.ck, 0, kv, ⟨q.val.toArray⟩, q.flags, q.fo, q.uniq, q.by', q.keys⟩, q.rten, ⟨q.sec.toArray⟩, q.on, q.close⟩
theorem take2 {b : List UInt8} {i : Nat} (h : At b i) : b.take (i + 2) = b.take i ++ [13, 10] := by
 rw [List.take_add, at_split h]; rfl
structure OnlyP (b : List UInt8) (q : RQ) (n : Nat) (kv : Value) : Prop where
 ck : ∃ k : Nat, q.ck = (k : Int) ∧ outT (rOf q kv) k = (b.take n, 0)
 fit : (rOf q kv).c.fit
 slim : (rOf q kv).c.slim
 sec : q.sec.length ≤ 1000
 close : q.close = false
theorem slim_of {c : Cmd} {k : Nat} (h : mayB c k = true) : c.slim := by
 have M := may_of h
 have := hi_le k
 exact ⟨by have := M.val; omega, by have := M.keys; omega, fun p hp => by have := M.len p hp; omega⟩
theorem out_cmd {q : RQ} {kv : Value} {k : Nat} {o : List UInt8} (h1 : q.kind = 1) (h2 : q.rten = 0) (h3 : q.sec = []) (h4 : q.on = false) (h5 : q.close = false) (hm : mayB (rOf q kv).c k = true) (hk : keysOk (rOf q kv).c = true) (hl : lineL (rOf q kv).c k = o) : outT (rOf q kv) k = (o, 0) := by
 obtain ⟨kind, ck, keys, val, flags, fo, uniq, by', rten, sec, on, close⟩ := q
 dsimp only at h1 h2 h3 h4 h5
 subst h1 h2 h3 h4 h5
 unfold outT
 rw [if_neg (show ¬ fitsA (rOf _ kv) = false from fun e => by cases (show true = false from e)), if_pos (show (rOf _ kv).kind = 1 from rfl), if_neg (by rw [hm]; decide), if_neg (show ¬ (decide ((rOf _ kv).c.ten = 0) && keysOk (rOf _ kv).c) = false from fun e => by
   rw [hk] at e
   cases (show true = false from e)), hl]
theorem fit_z (kv : Value) (k : List UInt8) : Cmd.fit ⟨0, 0, kv, ⟨([] : List UInt8).toArray⟩, 0, 0, 0, 0, []⟩ := ⟨⟨by show (0 : Int) ≤ 0; decide, by show (0 : Int) < 256; decide⟩, ⟨by show (0 : Int) ≤ 0; decide, by show (0 : Int) < 4294967296; decide⟩, ⟨by show (0 : Int) ≤ 0; decide, by show (0 : Int) < 18446744073709551616; decide⟩, ⟨by show (0 : Int) ≤ 0; decide, by show (0 : Int) < 18446744073709551616; decide⟩⟩
theorem slim_z (kv : Value) : Cmd.slim ⟨0, 0, kv, ⟨([] : List UInt8).toArray⟩, 0, 0, 0, 0, []⟩ := ⟨Nat.zero_le _, Nat.zero_le _, fun k hk => by cases hk⟩
theorem only_line {b l : List UInt8} {q : RQ} {kv : Value} {i : Nat} (ha : At b i) (hl : b.take i = l)
   (h : (∃ t : Nat, ∃ s, t < 4 ∧ okW 16 s = true ∧ l = [117, 115, 101, 114] ++ joinR [dec t, s] ∧ q = ⟨2, 0, [], [], 0, 0, 0, 0, (t : Int), s, false, false⟩) ∨ (∃ o, l = [116, 114, 97, 99, 107, 32] ++ (if o = true then [111, 110] else [111, 102, 102]) ∧ q = ⟨3, 0, [], [], 0, 0, 0, 0, 0, [], o, false⟩) ∨ (l = [112, 105, 110, 103] ∧ q = ⟨4, 0, [], [], 0, 0, 0, 0, 0, [], false, false⟩) ∨ (l = [113, 117, 105, 116] ∧ q = ⟨5, 0, [], [], 0, 0, 0, 0, 0, [], false, false⟩)) : OnlyP b q (i + 2) kv := by
 rcases h with ⟨t, s, ht, hs, e, rfl⟩ | ⟨o, e, rfl⟩ | ⟨e, rfl⟩ | ⟨e, rfl⟩
 · have hs16 : s.length ≤ 16 := by
     unfold okW at hs
     simp only [Bool.and_eq_true, decide_eq_true_eq] at hs
     omega
   refine ⟨⟨0, rfl, ?_⟩, fit_z kv [], slim_z kv, by show s.length ≤ 1000; omega, rfl⟩
   rw [take2 ha, hl, e]
   have hB : fitsB (rOf ⟨2, 0, [], [], 0, 0, 0, 0, (t : Int), s, false, false⟩ kv) = true := by
     unfold fitsB
     show (!decide ((2 : Int) = 2) || ((decide (0 ≤ (t : Int)) && decide ((t : Int) < 4)) && okW 16 s)) = true
     rw [hs, dT (show (0 : Int) ≤ (t : Int) by omega), dT (show (t : Int) < 4 by omega)]; rfl
   unfold outT
   rw [if_neg (show ¬ fitsA (rOf _ kv) = false from fun e => by cases (show true = false from e)), if_neg (show ¬ (rOf _ kv).kind = 1 from fun e => by cases (show (2 : Int) = 1 from e)), if_pos (show (rOf _ kv).kind = 2 from rfl), if_neg (by rw [hB]; decide)]
   rfl
 · refine ⟨⟨0, rfl, ?_⟩, fit_z kv [], slim_z kv, Nat.zero_le _, rfl⟩
   rw [take2 ha, hl, e]
   cases o <;> rfl
 · refine ⟨⟨0, rfl, ?_⟩, fit_z kv [], slim_z kv, Nat.zero_le _, rfl⟩
   rw [take2 ha, hl, e]
   rfl
 · refine ⟨⟨0, rfl, ?_⟩, fit_z kv [], slim_z kv, Nat.zero_le _, rfl⟩
   rw [take2 ha, hl, e]
   rfl
theorem hv_has {k : Nat} (h : 1 ≤ k ∧ k ≤ 11) : hasD k = hv k := by
 rcases (show k = 1 ∨ k = 2 ∨ k = 3 ∨ k = 4 ∨ k = 5 ∨ k = 6 ∨ k = 7 ∨ k = 8 ∨ k = 9 ∨ k = 10 ∨ k = 11 by omega) with rfl | rfl | rfl | rfl | rfl | rfl | rfl | rfl | rfl | rfl | rfl <;> rfl
theorem line_inv {l : List UInt8} (h : (lineP l).2.2 = true) :
   (∃ w k many rest, cutS l = w :: rest ∧ kindW w = (k, many) ∧ (1 ≤ k ∧ k ≤ 11) ∧ CntOK many rest ∧ dOK k rest = true ∧ lineP l = (rqC (dC k rest nilV), dN k rest, true)) ∨
   ((lineP l).2.1 = -1 ∧ ((∃ t : Nat, ∃ s, t < 4 ∧ okW 16 s = true ∧ l = [117, 115, 101, 114] ++ joinR [dec t, s] ∧ (lineP l).1 = ⟨2, 0, [], [], 0, 0, 0, 0, (t : Int), s, false, false⟩) ∨ (∃ o, l = [116, 114, 97, 99, 107, 32] ++ (if o = true then [111, 110] else [111, 102, 102]) ∧ (lineP l).1 = ⟨3, 0, [], [], 0, 0, 0, 0, 0, [], o, false⟩) ∨ (l = [112, 105, 110, 103] ∧ (lineP l).1 = ⟨4, 0, [], [], 0, 0, 0, 0, 0, [], false, false⟩) ∨ (l = [113, 117, 105, 116] ∧ (lineP l).1 = ⟨5, 0, [], [], 0, 0, 0, 0, 0, [], false, false⟩))) := by
 obtain ⟨w, rest, hc, hl⟩ := join_cut l.length l (Nat.le_refl _)
 rw [lineP_cut hc] at h ⊢
 rcases kind_cases w with ⟨k, many, E, h1, h2, h3⟩ | ⟨h1, h2⟩
 · rw [h2] at h ⊢
   dsimp only at h ⊢
   by_cases g : CntOK many rest
   · have e := (h3.good rest g).1
     rw [e] at h ⊢
     unfold cmdP at h ⊢
     by_cases gd : dOK k rest = true
     · rw [if_pos gd]
       exact .inl ⟨w, k, many, rest, hc, h1, h3.hk, g, gd, rfl⟩
     · rw [if_neg gd] at h; cases h
   · rw [h3.bad rest g] at h; cases h
 · refine .inr ?_
   rcases h2 with ⟨rfl, h2⟩ | ⟨rfl, h2⟩ | ⟨rfl, h2⟩ | ⟨rfl, h2⟩ | ⟨_, _, _, _, h2⟩
   · rw [h2] at h ⊢
     dsimp only at h ⊢
     obtain ⟨u1, u2⟩ := user_eq rest
     by_cases g : rest.length = 2
     · obtain ⟨a, s, hr⟩ : ∃ a s, rest = [a, s] := by
         match rest, g with
         | [a, s], _ => exact ⟨a, s, rfl⟩
       have e := u2 a s hr
       rw [e] at h ⊢
       by_cases g2 : (upN a 3 && okW 16 s) = true
       · rw [if_pos g2]
         obtain ⟨g3, g4⟩ := (Bool.and_eq_true _ _ ▸ g2 : _ ∧ _)
         obtain ⟨n, a1, b1, c1, l1⟩ := up_back g3
         refine ⟨rfl, .inl ⟨n, s, by omega, g4, ?_, ?_⟩⟩
         · rw [hl, hr, ← c1]
         · show (⟨2, 0, [], [], 0, 0, 0, 0, IntKind.i64.wrap (nu a), s, false, false⟩ : RQ) = _
           rw [b1, wrapI64 (by omega) (by omega)]
       · rw [if_neg g2] at h; cases h
     · rw [u1 g] at h; cases h
   · rw [h2] at h ⊢
     dsimp only at h ⊢
     obtain ⟨u1, u2⟩ := track_eq rest
     by_cases g : rest.length = 1
     · obtain ⟨a, hr⟩ : ∃ a, rest = [a] := by
         match rest, g with
         | [a], _ => exact ⟨a, rfl⟩
       have e := u2 a hr
       rw [e] at h ⊢
       by_cases g2 : (decide (a = onW) || decide (a = offW)) = true
       · rw [if_pos g2]
         refine ⟨rfl, .inr (.inl ⟨decide (a = onW), ?_, rfl⟩)⟩
         rw [hl, hr]
         simp only [Bool.or_eq_true, decide_eq_true_eq] at g2
         rcases g2 with rfl | rfl <;> rfl
       · rw [if_neg g2] at h; cases h
     · rw [u1 g] at h; cases h
   · rw [h2] at h ⊢
     dsimp only at h ⊢
     obtain ⟨u1, u2⟩ := ping_eq 4 (.inl rfl) rest
     by_cases g : rest.length = 0
     · rw [u2 g]
       refine ⟨rfl, .inr (.inr (.inl ⟨?_, rfl⟩))⟩
       rw [hl, List.eq_nil_of_length_eq_zero g]; rfl
     · rw [u1 g] at h; cases h
   · rw [h2] at h ⊢
     dsimp only at h ⊢
     obtain ⟨u1, u2⟩ := ping_eq 5 (.inr rfl) rest
     by_cases g : rest.length = 0
     · rw [u2 g]
       refine ⟨rfl, .inr (.inr (.inr ⟨?_, rfl⟩))⟩
       rw [hl, List.eq_nil_of_length_eq_zero g]; rfl
     · rw [u1 g] at h; cases h
   · rw [h2] at h; cases h
theorem up_pos {w : List UInt8} {m : Nat} (hm : m ≤ 1099511627776) (h : upN w m = true) : 0 ≤ IntKind.i64.wrap (nu w) := by
 obtain ⟨n, a1, b1, _, _⟩ := up_back h
 rw [b1, wrapI64 (by omega) (by omega)]
 omega
theorem dN_pos {k : Nat} {rest : List (List UInt8)} (hk : 1 ≤ k ∧ k ≤ 11) (g : hv k = true) (hd : dOK k rest = true) : 0 ≤ dN k rest := by
 unfold dOK at hd
 obtain ⟨_, d2⟩ := (Bool.and_eq_true _ _ ▸ hd : _ ∧ _)
 obtain ⟨d2, _⟩ := (Bool.and_eq_true _ _ ▸ d2 : _ ∧ _)
 have three : (upN (wd rest 1) 4294967295 && upN (wd rest 2) 1099511627776 && upN (wd rest 3) 512) = true → 0 ≤ IntKind.i64.wrap (nu (wd rest 3)) := fun h => up_pos (by decide) (Bool.and_eq_true _ _ ▸ h : _ ∧ _).2
 rcases (show k = 1 ∨ k = 2 ∨ k = 3 ∨ k = 4 ∨ k = 5 ∨ k = 6 ∨ k = 7 ∨ k = 8 ∨ k = 9 ∨ k = 10 ∨ k = 11 by omega) with rfl | rfl | rfl | rfl | rfl | rfl | rfl | rfl | rfl | rfl | rfl
 · cases g
 · exact three d2
 · exact three d2
 · exact three d2
 · exact three (Bool.and_eq_true _ _ ▸ d2 : (upN (wd rest 1) 4294967295 && upN (wd rest 2) 1099511627776 && upN (wd rest 3) 512) = true ∧ upN (wd rest 4) 18446744073709551615 = true).1
 · cases g
 · cases g
 · exact up_pos (w := wd rest 1) (m := 512) (by decide) d2
 · cases g
 · cases g
 · cases g
theorem only_plain {b : List UInt8} (kv : Value) (hn : (nextP b).2 ≠ 0) (h6 : (nextP b).1.kind ≠ 6) : OnlyP b (nextP b).1 (nextP b).2 kv := by
 rcases crlf_cases b with hc | ⟨i, hc⟩
 · rw [nextP_neg hc] at hn h6
   split at hn
   · exact absurd rfl hn
   · rename_i g
     rw [if_neg g] at h6
     exact absurd rfl h6
 obtain ⟨h1, h2, ha⟩ := crlf_pos hc
 rw [nextP_pos hc] at hn h6 ⊢
 split at hn
 · rename_i g; rw [if_pos g] at h6; exact absurd rfl h6
 rename_i g1
 rw [if_neg g1] at h6 ⊢
 have hok : (lineP (b.take i)).2.2 = true := by cases h : (lineP (b.take i)).2.2 with | true => rfl | false => exact absurd h g1
 rcases line_inv hok with ⟨w, k, many, rest, hcut, hw, hk, hcnt, hd, e⟩ | ⟨e1, e2⟩
 rotate_left
 · rw [if_pos (by rw [e1]; decide)]
   exact only_line ha rfl e2
 have hjoin := cut_back hcut
 rw [e] at hn h6 ⊢
 dsimp only at hn h6 ⊢
 have hh := hv_has hk
 by_cases g : hv k = true
 · have hdn : 0 ≤ dN k rest := dN_pos hk g hd
   rw [if_neg (by omega)] at hn h6 ⊢
   split at hn
   · exact absurd rfl hn
   rename_i g3
   rw [if_neg g3] at h6 ⊢
   split at hn
   · rename_i g4; rw [if_pos g4] at h6; exact absurd rfl h6
   rename_i g4
   rw [if_neg g4]
   have ha2 : At b (i + 2 + (dN k rest).toNat) := Decidable.byContradiction g4
   have hvl : ((b.take (i + 2 + (dN k rest).toNat)).drop (i + 2)).length = (dN k rest).toNat := by rw [List.length_drop, List.length_take]; omega
   have hbt : b.take (i + 2 + (dN k rest).toNat + 2) = b.take i ++ [13, 10] ++ ((b.take (i + 2 + (dN k rest).toNat)).drop (i + 2) ++ [13, 10]) := by
     rw [take2 ha2, ← List.append_assoc]
     congr 1
     have := List.take_append_drop (i + 2) (b.take (i + 2 + (dN k rest).toNat))
     rw [List.take_take, Nat.min_eq_left (by omega), take2 ha] at this
     exact this.symm
   generalize hvv : (b.take (i + 2 + (dN k rest).toNat)).drop (i + 2) = v at *
   have O := cmd_only hw hk.1 hcnt hd kv v (by rw [if_pos g]; omega)
   have hc2 : (rOf { rqC (dC k rest nilV) with val := v } kv).c = cOf k rest kv v := rfl
   refine ⟨⟨k, rfl, out_cmd rfl rfl rfl rfl rfl (by rw [hc2]; exact O.may) (by rw [hc2]; exact O.keys) ?_⟩, by rw [hc2]; exact O.fit, by rw [hc2]; exact slim_of O.may, Nat.zero_le _, rfl⟩
   rw [hc2, hbt]
   unfold lineL
   rw [O.rest, ← O.name, if_pos g, ← hjoin]
   rfl
 · have hdn : dN k rest = -1 := by unfold dN; rw [hh, if_neg g]
   rw [hdn, if_pos (by decide)]
   have O := cmd_only hw hk.1 hcnt hd kv [] (by rw [if_neg g])
   have hc2 : (rOf (rqC (dC k rest nilV)) kv).c = cOf k rest kv [] := rfl
   refine ⟨⟨k, rfl, out_cmd rfl rfl rfl rfl rfl (by rw [hc2]; exact O.may) (by rw [hc2]; exact O.keys) ?_⟩, by rw [hc2]; exact O.fit, by rw [hc2]; exact slim_of O.may, Nat.zero_le _, rfl⟩
   rw [hc2, take2 ha]
   unfold lineL
   rw [O.rest, ← O.name, if_neg g, ← hjoin, List.append_nil]
theorem nextP_zero {b : List UInt8} (h : (nextP b).2 = 0) : (nextP b).1 = .zero := by
 rcases crlf_cases b with hc | ⟨i, hc⟩
 · rw [nextP_neg hc] at h ⊢
   split at h
   · rename_i g; rw [if_pos g]
   · rename_i g
     have h' : b.length = 0 := h
     omega
 · rw [nextP_pos hc] at h ⊢
   split at h
   · cases h
   rename_i g1
   rw [if_neg g1]
   split at h
   · cases h
   rename_i g2
   rw [if_neg g2]
   split at h
   · rename_i g3; rw [if_pos g3]
   · split at h
     · have h' : i + 2 + _ + 2 = 0 := h; omega
     · have h' : i + 2 + _ + 2 = 0 := h; omega
theorem line_kind {l : List UInt8} (h : (lineP l).2.2 = true) : (lineP l).1.kind ≠ 6 := by
 rcases line_inv h with ⟨_, _, _, _, _, _, _, _, _, e⟩ | ⟨_, e⟩
 · rw [e]; show (1 : Int) ≠ 6; decide
 · rcases e with ⟨_, _, _, _, _, e⟩ | ⟨_, _, e⟩ | ⟨_, e⟩ | ⟨_, e⟩ <;> rw [e]
   · exact (by decide : (2 : Int) ≠ 6)
   · exact (by decide : (3 : Int) ≠ 6)
   · exact (by decide : (4 : Int) ≠ 6)
   · exact (by decide : (5 : Int) ≠ 6)
theorem nextP_bad {b : List UInt8} (h : (nextP b).1.kind = 6) : (nextP b).1 = .bad (nextP b).1.close := by
 rcases crlf_cases b with hc | ⟨i, hc⟩
 · rw [nextP_neg hc] at h ⊢
   split at h
   · cases h
   · rename_i g; rw [if_neg g]; rfl
 · rw [nextP_pos hc] at h ⊢
   split at h
   · rename_i g; rw [if_pos g]; rfl
   rename_i g1
   rw [if_neg g1]
   have hok : (lineP (b.take i)).2.2 = true := by cases h : (lineP (b.take i)).2.2 with | true => rfl | false => exact absurd h g1
   split at h
   · exact absurd h (line_kind hok)
   rename_i g2
   rw [if_neg g2]
   split at h
   · cases h
   rename_i g3
   rw [if_neg g3]
   split at h
   · rename_i g4; rw [if_pos g4]; rfl
   · exact absurd h (line_kind hok)
theorem badA (c : Bool) : aggO (fill [(.int .u8 (0)), (.int .u8 (0)), (.int .i64 (0)), (.slice none 0 0), (.string (strB [])), (.int .u32 (0)), (.int .i64 (0)), (.int .u64 (0)), (.int .u64 (0)), (.int .i64 (0)), (.string (strB [])), (.bool false), (.bool false)] (plc [(0, 1), (1, 8), (9, 1), (10, 1), (11, 1), (12, 1)]) [(0, (.int .u8 (6))), (5, (.bool c))]) = some ((RQ.bad c).v nilV) := rfl
theorem reg7_2 {call : CallT} {L : Nat} {tm : T Value} {h : H} {v w : Value} {b more : List UInt8} (hr : Rd h v b) (hw : Rd h w more) (t0 : tg tm 0 = v) (t1 : tg tm 1 = w) (t5 : tg tm 5 = .bool true) {Q : Ex → T Value → H → Prop}
   (hQ : Q .norm (T.set tm 27 (.bool (decide ((3000 : Int) < (b.length : Int)) || decide ((10000 : Int) < (more.length : Int))))) h) : C ⟨r7_2⟩ call L tm h Q := fun K hK => by
 rw [box_f]
 unfold r7_2
 try rw [bx]
 by_cases c1 : (3000 : Int) < (b.length : Int)
 · rw [dT c1, Bool.true_or] at hQ
   refine ops_s ?_
   simp only [↓OF, NK, t0]
   refine ops_s ?_
   simp only [↓OF, NK, hr.len]
   refine ops_s ?_
   simp only [↓OF, NK, binV_gtr, dT c1]
   refine ops_s ?_
   simp only [↓OF, NK]
   refine ops_k ?_
   refine ops_k ?_
   refine ops_k ?_
   refine ops_s ?_
   simp only [↓OF, NK, pickV_true]
   refine ops_s ?_
   simp only [↓OF, NK]
   refine ops_k ?_
   refine ops_k ?_
   refine ops_s ?_
   simp only [↓OF, NK, pickV_true]
   exact hK _ _ _ hQ
 rw [dF c1, Bool.false_or] at hQ
 by_cases c2 : (10000 : Int) < (more.length : Int)
 · rw [dT c2] at hQ
   refine ops_s ?_
   simp only [↓OF, NK, t0]
   refine ops_s ?_
   simp only [↓OF, NK, hr.len]
   refine ops_s ?_
   simp only [↓OF, NK, binV_gtr, dF c1]
   refine ops_s ?_
   simp only [↓OF, NK]
   refine ops_s ?_
   simp only [↓OF, NK, t1]
   refine ops_s ?_
   simp only [↓OF, NK, hw.len]
   refine ops_s ?_
   simp only [↓OF, NK, binV_gtr, dT c2]
   refine ops_s ?_
   simp only [↓OF, NK, pickV_false]
   refine ops_s ?_
   simp only [↓OF, NK]
   refine ops_k ?_
   refine ops_k ?_
   refine ops_s ?_
   simp only [↓OF, NK, pickV_true]
   exact hK _ _ _ hQ
 rw [dF c2] at hQ
 refine ops_s ?_
 simp only [↓OF, NK, t0]
 refine ops_s ?_
 simp only [↓OF, NK, hr.len]
 refine ops_s ?_
 simp only [↓OF, NK, binV_gtr, dF c1]
 refine ops_s ?_
 simp only [↓OF, NK]
 refine ops_s ?_
 simp only [↓OF, NK, t1]
 refine ops_s ?_
 simp only [↓OF, NK, hw.len]
 refine ops_s ?_
 simp only [↓OF, NK, binV_gtr, dF c2]
 refine ops_s ?_
 simp only [↓OF, NK, pickV_false]
 refine ops_s ?_
 simp only [↓OF, NK]
 refine ops_s ?_
 simp only [↓OF, NK, t5]
 refine ops_s ?_
 simp only [↓OF, NK, unV_not, Bool.not_true]
 refine ops_s ?_
 simp only [↓OF, NK, pickV_false]
 exact hK _ _ _ hQ
theorem reg7_5 {call : CallT} {L : Nat} {tm : T Value} {h : H} {v : Value} {b : List UInt8} {n : Nat} (hr : Rd h v b) (t0 : tg tm 0 = v) (t7 : tg tm 7 = .int .i64 (n : Int)) (t8 : tg tm 8 = .int .i64 0) (hn : n ≤ b.length) {Q : Ex → T Value → H → Prop}
   (hQ : Q .norm (T.set tm 46 (.bool false)) h) : C ⟨r7_5⟩ call L tm h Q := fun K hK => by
 rw [box_f]
 unfold r7_5
 try rw [bx]
 have c1 : ¬ (n : Int) < 0 := by omega
 have c2 : ¬ (b.length : Int) < (n : Int) := by omega
 refine ops_s ?_
 simp only [↓OF, NK, t8]
 refine ops_s ?_
 simp only [↓OF, NK, neqS]
 refine ops_s ?_
 simp only [↓OF, NK]
 refine ops_s ?_
 simp only [↓OF, NK, t7]
 refine ops_s ?_
 simp only [↓OF, NK, binV_lss, dF c1]
 refine ops_s ?_
 simp only [↓OF, NK, pickV_false]
 refine ops_s ?_
 simp only [↓OF, NK]
 refine ops_s ?_
 simp only [↓OF, NK, t7]
 refine ops_s ?_
 simp only [↓OF, NK, t0]
 refine ops_s ?_
 simp only [↓OF, NK, hr.len]
 refine ops_s ?_
 simp only [↓OF, NK, binV_gtr, dF c2]
 refine ops_s ?_
 simp only [↓OF, NK, pickV_false]
 exact hK _ _ _ hQ
theorem reg7_18 (L n : Nat) (hL : 2000 ≤ L) {tm : T Value} {h : H} {q : RQ} {k : Nat} {kv1 kv2 : Value} {A B : Nat} (h1 : Has h A (.rw (q.cells kv1) (some 28))) (h2 : Has h B (.rw (q.cells kv2) (some 28))) (s1 : Strs h kv1 q.keys) (s2 : Strs h kv2 q.keys) (hk : q.keys.length ≤ 1000)
   (t14 : tg tm 14 = .int .i64 0) (t13 : tg tm 13 = .int .i64 (k : Int)) (t7 : tg tm 7 = .int .i64 (k : Int)) (t12 : tg tm 12 = .pointer (some ⟨A, 0, none⟩)) (t6 : tg tm 6 = .pointer (some ⟨B, 0, none⟩)) {Q : Ex → T Value → H → Prop}
   (hQ : ∀ hx, Keep nobody h hx → Q .norm (T.set tm 4 (.bool true)) hx) : C ⟨r7_18⟩ (CF L (n + 2)) L tm h Q := fun K hK => by
 rw [box_f]
 unfold r7_18
 try rw [bx]
 refine ops_s ?_
 simp only [↓OF, NK, t14]
 refine ops_s ?_
 simp only [↓OF, NK, eqlS]
 refine ops_s ?_
 simp only [↓OF, NK]
 refine ops_s ?_
 simp only [↓OF, NK, t13]
 refine ops_s ?_
 simp only [↓OF, NK, t7]
 refine ops_s ?_
 simp only [↓OF, NK, eqlS]
 refine ops_s ?_
 simp only [↓OF, NK, pickV_true]
 refine ops_s ?_
 simp only [↓OF, NK]
 refine ops_s ?_
 simp only [↓OF, NK, t12, get13 h1]
 refine ops_s ?_
 simp only [↓OF, NK, t6, get13 h2]
 refine ops_s ?_
 simp only [NK]
 refine law14 L n hL s1 s2 hk _ fun r hx hv => ?_
 obtain ⟨rfl, kx⟩ := hv
 refine ops_s ?_
 simp only [↓OF, NK, pickV_true]
 refine ops_s ?_
 simp only [↓OF, NK]
 exact hK _ _ _ (hQ hx kx)
theorem onesR {kv : Value} (hk : ∀ r, ones (kv :: r) = ones r) (q : RQ) : ones (rOf q kv).c.cells = true := by
 unfold Cmd.cells rOf
 show ones (kv :: _) = true
 rw [hk]
 rfl
theorem only_law (L n : Nat) (hL : 20000 ≤ L) {h0 : H} {v w : Value} {b more : List UInt8} {e : Value} {m : Int} (ev : Env0 e h0) (h7 : 7 < h0.next) (hM : Has h0 0 (.ro [.int .i64 m])) (hr : Rd h0 v b) (hw : Rd h0 w more) :
   Sp (CF L (n + 24)) 7 [v, w] h0 fun x h' => x = .bool true := by
 refine Sp.body f7 (by simp) ?_
 have done : ∀ (tm : T Value) (h : H), tg tm 4 = .bool true → ∃ l, q7.f tm h = some l ∧ resOf l = .bool true := fun tm h t4 => ⟨_, rfl, by simp only [resOf, t4]⟩
 unfold c7
 refine C.seq fun K hK => ?_
 simp only [seval, EV, r7_0]
 refine hK _ _ _ (C.seq fun K hK => ?_)
 simp only [r7_1]
 refine alive_law L (n + 7) (by omega) ev h7 hM _ fun x h1 hv => ?_
 obtain ⟨rfl, k1⟩ := hv
 refine hK _ _ _ (C.seq (C.seq (reg7_2 (hr.keep0 k1) (hw.keep0 k1) (by simp only [seval, EV]) (by simp only [seval, EV]) (by simp only [seval, EV]) ?_)))
 by_cases g : (decide ((3000 : Int) < (b.length : Int)) || decide ((10000 : Int) < (more.length : Int))) = true
 · rw [g]
   refine C.ct (C.seq fun K hK => ?_)
   simp only [seval, EV, r7_3]
   exact hK _ _ _ (C.ret ⟨.inr rfl, done _ _ (by simp only [seval, EV])⟩)
 have g' : (decide ((3000 : Int) < (b.length : Int)) || decide ((10000 : Int) < (more.length : Int))) = false := by simpa using g
 rw [g']
 simp only [Bool.or_eq_false_iff, decide_eq_false_iff_not] at g'
 obtain ⟨g1, g2⟩ := g'
 refine C.cf <| C.skip (C.seq fun K hK => ?_)
 have n1 := k1.next
 have g10 := law10 L (n + 9) (by omega) (ev.keep0 k1) (by omega) (hM.keep0 k1) (hr.keep0 k1) (by omega)
 have hE : nextE b = ((nextP b).1, (nextP b).2, 0) := by unfold nextE; rw [if_neg (by omega)]
 simp only [seval, ↓EW, EV, r7_4]
 refine g10 _ fun x h2 hv => ?_
 obtain ⟨k2, kv, rfl, s2, _⟩ := hv
 rw [hE] at s2 ⊢
 dsimp only at s2 ⊢
 simp only [EV, t3, new13, own13 (strs_ones s2)]
 have k3 := keep_alloc h2 (.rw (RQ.zero.cells nilV) (some 28)) (.rw ((nextP b).1.cells kv) (some 28))
 have b3 := has_alloc h2 (.rw (RQ.zero.cells nilV) (some 28)) (.rw ((nextP b).1.cells kv) (some 28))
 have s3 := s2.keep0 k3
 generalize (h2.new (.rw (RQ.zero.cells nilV) (some 28))).put h2.next (.rw ((nextP b).1.cells kv) (some 28)) = h3 at *
 have k03 := (k1.then k2).then k3
 have n3 := k03.next
 have hle := nextP_le b
 have hks := nextP_keys b
 have hz := nextP_zero (b := b)
 have hbad := nextP_bad (b := b)
 have hmore := nextP_more (a := b) more
 have honly := only_plain (b := b) kv
 generalize nextP b = N at *
 obtain ⟨q, k⟩ := N
 dsimp only at s3 b3 hle hks hz hbad hmore honly ⊢
 refine hK _ _ _ (C.seq (C.seq (reg7_5 (n := k) (hr.keep0 k03) (by simp only [seval, EV]) (by simp only [seval, EV]) (by simp only [seval, EV]) hle ?_)))
 refine C.cf <| C.skip (C.seq (C.seq fun K hK => ?_))
 by_cases gk : (k : Int) = 0
 · simp only [seval, EV, r7_7, dT gk]
   refine hK _ _ _ (C.ct (C.seq fun K hK => ?_))
   have eq := hz (by omega)
   subst eq
   simp only [seval, EV, r7_8, get13 b3, zero13']
   refine law14 L (n + 21) (by omega) s3 (strs_nil h3) hks _ fun x h4 hv => ?_
   obtain ⟨rfl, k4⟩ := hv
   exact hK _ _ _ (C.ret ⟨.inr rfl, done _ _ (by simp only [seval, EV])⟩)
 simp only [seval, EV, r7_7, dF gk]
 refine hK _ _ _ (C.cf <| C.skip (C.seq (C.seq fun K hK => ?_)))
 have ldk : ∀ s, loadOne h3 (.pointer (some ⟨h2.next, 0, s⟩)) = some (.int .u8 q.kind) := fun s => loadOne_has b3 rfl
 have ldc : ∀ s, loadOne h3 (.pointer (some ⟨h2.next, 12, s⟩)) = some (.bool q.close) := fun s => loadOne_has b3 rfl
 by_cases g6 : q.kind = 6
 · simp only [seval, EV, r7_9, ldk, dT g6]
   refine hK _ _ _ (C.ct (C.seq fun K hK => ?_))
   have eq := hbad g6
   have hkz : q.keys = [] := by rw [eq]; rfl
   simp only [seval, EV, r7_10, get13 b3, ldc, badA]
   have gs := law14 L (n + 21) (by omega) (q := q) (kv2 := nilV) s3 (by rw [hkz]; exact strs_nil h3) hks
   have e2 : (RQ.bad q.close).v nilV = q.v nilV := by rw [← eq]
   rw [e2]
   refine gs _ fun x h4 hv => ?_
   obtain ⟨rfl, k4⟩ := hv
   exact hK _ _ _ (C.ret ⟨.inr rfl, done _ _ (by simp only [seval, EV])⟩)
 simp only [seval, EV, r7_9, ldk, dF g6]
 refine hK _ _ _ (C.cf <| C.skip (C.seq fun K hK => ?_))
 obtain ⟨⟨kk, hck, hout⟩, o1, o2, o3, o4⟩ := honly (by omega) g6
 have hmo := hmore (by omega) o4
 have gw := write_law L (n + 14) (by omega) (r := rOf q kv) hck ⟨o1, o2, o3, onesR (strs_ones s3) q⟩ s3 (ev.keep0 k03).hP
 have hv13 : loadAgg 13 h3 (.pointer (some ⟨h2.next, 0, none⟩)) = some (rOf q kv).v := get13 b3 none
 simp only [seval, EV, r7_11, hv13]
 refine gw _ fun x h4 hv => ?_
 obtain ⟨⟨ww, rfl, hrd⟩, k4⟩ := hv
 rw [hout] at hrd ⊢
 simp only [EV, tup2]
 refine hK _ _ _ (C.seq (C.seq fun K hK => ?_))
 have k04 := k03.then k4
 have kr := keep_room h4 11
 generalize hh : (⟨h4.objs, h4.next + 11⟩ : H) = h5 at *
 have k05 := k04.then kr
 obtain ⟨w5, e5, rw5, _⟩ := (hr.keep0 k05).mid none 0 k (.inl ⟨rfl, rfl⟩) (Nat.zero_le _) hle .i64
 rw [List.drop_zero] at rw5
 have hrs := (hrd.keep0 kr).str
 have qs : binV Tryz.prog .neq 9 false (.string ⟨(b.take k).toArray⟩) (.string ⟨(b.take k).toArray⟩) = some (.bool false) := by
   have := sv_neq 9 false (b.take k) (b.take k)
   rw [decide_eq_true rfl] at this
   exact this
 simp only [seval, ↓EW, EV, r7_12, hh, hrs, e5, rw5.str, qs, ite2]
 refine hK _ _ _ (C.cf <| C.skip (C.seq fun K hK => ?_))
 simp only [r7_14]
 refine hK _ _ _ (C.seq fun K hK => ?_)
 obtain ⟨w6, h6, e6, m6, k6, o6⟩ := append_own (e := 5) (h := h5) (v := .slice none 0 0) (x := v) (l := []) (m := b) .nil (hr.keep0 k05).reads.src (by simp; omega)
 rw [List.nil_append] at m6
 have k6' : Keep nobody h5 h6 := k6.mono fun b _ hb => by simp at hb
 simp only [seval, EV, r7_15, e6]
 refine hK _ _ _ (C.seq fun K hK => ?_)
 have k06 := k05.then k6'
 obtain ⟨w7, h7', e7, m7, k7, o7⟩ := append_own (e := 5) m6 (hw.keep0 k06).reads.src (by omega)
 have o6' : ∀ c, blk w6 c → h5.next ≤ c := fun c hc => (o6 c hc).elim (fun h => by simp at h) id
 have k57 : Keep nobody h5 h7' := k6'.trans k7 fun c hc hv => by have := o6' c hv; omega
 have k07 : Keep nobody h0 h7' := k05.then k57
 simp only [seval, EV, r7_16, e7]
 refine hK _ _ _ (C.seq fun K hK => ?_)
 have rw7 := rd_of_mine m7 (by rw [List.length_append]; omega)
 have n7 := k07.next
 have g10 := law10 L (n + 9) (by omega) (ev.keep0 k07) (by omega) (hM.keep0 k07) rw7 (by rw [List.length_append]; omega)
 have hE2 : nextE (b ++ more) = (q, k, 0) := by
   unfold nextE
   rw [if_neg (by rw [List.length_append]; omega), hmo]
 simp only [seval, ↓EW, EV, r7_17]
 refine g10 _ fun x h8 hv => ?_
 obtain ⟨k8, kv8, rfl, s8, _⟩ := hv
 rw [hE2] at s8 ⊢
 simp only [EV, t3, new13, own13 (strs_ones s8)]
 have k9 := keep_alloc h8 (.rw (RQ.zero.cells nilV) (some 28)) (.rw (q.cells kv8) (some 28))
 have b9 := has_alloc h8 (.rw (RQ.zero.cells nilV) (some 28)) (.rw (q.cells kv8) (some 28))
 have s9 := s8.keep0 k9
 generalize (h8.new (.rw (RQ.zero.cells nilV) (some 28))).put h8.next (.rw (q.cells kv8) (some 28)) = h9 at *
 have k39 := (((k4.then kr).then k57).then k8).then k9
 refine hK _ _ _ (C.seq (reg7_18 L (n + 21) (by omega) (q := q) (k := k) b9 (b3.keep0 k39) s9 (s3.keep0 k39) hks (by simp only [seval, EV]) (by simp only [seval, EV]) (by simp only [seval, EV]) (by simp only [seval, EV]) (by simp only [seval, EV]) fun hx kx => C.ret ⟨.inr rfl, done _ _ (by simp only [seval, EV])⟩))
end Go.Proofs.YtilpiiafjehbnaaGreatDoor
set_option maxRecDepth 100000
namespace Go.Proofs.YtilpiiafjehbnaaGreatDoor
open Go.Ev Go.RowKit
section
variable {H : Type} {enc : TypeId × Value → H}
theorem textOnly_walk {W : World} {m : Int} {a : Addr} (z : GlobZ W m a) {n1 n2 : Nat} {v1 v2 : Value} {x1 x2 : DataW H × List MemPlace} (hok1 : Value.okWide Tryz.prog W .any 0 34 v1) (h1 : DataW.trod enc Tryz.prog W 0 (fun _ => true) true n1 34 v1.cells.toList = some x1)
   (hok2 : Value.okWide Tryz.prog W .any 0 34 v2) (h2 : DataW.trod enc Tryz.prog W 0 (fun _ => true) true n2 34 v2.cells.toList = some x2) :
   Calls Tryz.prog 7 #[v1, v2] W fun e W' => e = .returned (.bool true) ∧ Below W.heap.size W W' := by
 obtain ⟨o1, p1, q1⟩ := bytes_at hok1 h1
 obtain ⟨o2, p2, q2⟩ := bytes_at hok2 h2
 have r := glZ_rel z [o1, o2] fun p' hp => by
   simp only [List.mem_cons, List.not_mem_nil, or_false] at hp
   rcases hp with hp | hp
   · exact p1 p' hp.symm
   · exact p2 p' hp.symm
 obtain ⟨ev, h7, g0⟩ := glZ_env m a [o1, o2]
 obtain ⟨v', l, hr, va⟩ := q1 9 (rosσ (glZ m a ++ [o1, o2])) (rosH (glZ m a ++ [o1, o2])) fun p hp => ros_has (by rw [hp]; rfl)
 obtain ⟨w', l', hw, vb⟩ := q2 10 (rosσ (glZ m a ++ [o1, o2])) (rosH (glZ m a ++ [o1, o2])) fun p hp => ros_has (by rw [hp]; rfl)
 exact calls_of_sp gor Tryz.checked.mixed xok Tryz.func7 (by kernel_rfl) (only_law 20000 0 (by decide) ev h7 g0 hr hw) r (glZ_glob m a [o1, o2]) (.cons va (.cons vb (.nil _))) ros_ro
end
end Go.Proofs.YtilpiiafjehbnaaGreatDoor
