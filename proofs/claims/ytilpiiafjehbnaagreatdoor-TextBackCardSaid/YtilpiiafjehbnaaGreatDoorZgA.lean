import Derived.Test.YtilpiiafjehbnaaGreatDoorZbP
set_option linter.unusedSimpArgs false
set_option linter.unusedVariables false
namespace Go.Proofs.YtilpiiafjehbnaaGreatDoor
open Go.Ev
theorem is_law (L n : Nat) (hL : 2000 ≤ L) {l : List UInt8} {q : RQ} {kv : Value} {k : Nat} {h : H} {e : Value} {m : Int} (ev : Env0 e h) (h7 : 7 < h.next) (hM : Has h 0 (.ro [.int .i64 m])) (hs : Strs h kv q.keys) (hk : q.keys.length ≤ 1000) (hl : l.length ≤ 16384) (hn : nextE l = (q, k, 0)) :
   Sp (CF L (n + 15)) 8 [sv l, q.v kv, .int .i64 (k : Int)] h fun r h' => r = .bool true ∧ Keep nobody h h' := by
 refine Sp.body f8 (by simp) ?_
 have hc1 : (Value.cells (q.v kv)).toList = q.cells kv := rfl
 have k1 := Keep.new h (.rw (q.cells kv) (some 28))
 have b1 := Has.new h (.rw (q.cells kv) (some 28))
 have n1 : (h.new (.rw (q.cells kv) (some 28))).next = h.next + 1 := rfl
 unfold c8
 refine C.seq fun K hK => ?_
 simp only [seval, ↓EW, EV, r8_0, hc1]
 generalize hB : h.next = B at *
 generalize h.new (.rw (q.cells kv) (some 28)) = h1 at *
 refine hK _ _ _ (C.seq fun K hK => ?_)
 obtain ⟨cap, mb⟩ : ∃ cap, mkBytes 5 h1.next (sv l) = some (.op (l.map bv) 1 (some 5), .slice (some ⟨h1.next, 0, none⟩) l.length cap) ∧ Nat.ble OPEN cap = true ∧ Nat.beq (szOf cap) 1 = true := by
   refine ⟨opCap l.length 1, rfl, Nat.ble_eq_true_of_le (by unfold OPEN opCap; omega), ?_⟩
   rw [szOf_opCap (lb := l.length) (e := 1) (by omega)]; rfl
 obtain ⟨mb, o1, o2⟩ := mb
 have k2 := Keep.new h1 (.op (l.map bv) 1 (some 5))
 have b2 := Has.new h1 (.op (l.map bv) 1 (some 5))
 have rd2 : Rd (h1.new (.op (l.map bv) 1 (some 5))) (.slice (some ⟨h1.next, 0, none⟩) l.length cap) l := rd_of_mine (.op _ _ _ (some 5) o1 o2 b2) (by omega)
 simp only [seval, ↓EW, EV, r8_1, mb]
 generalize h1.new (.op (l.map bv) 1 (some 5)) = h2 at *
 have k12 := k1.then k2
 have nn := k2.next
 refine law10 L n hL (ev.keep0 k12) (by omega) (hM.keep0 k12) rd2 (by omega) _ fun r h3 hv => ?_
 obtain ⟨k3, kv3, rfl, s3, _⟩ := hv
 rw [hn] at s3 ⊢
 simp only [EV, t3, new13, own13 (strs_ones s3)]
 have k4 := keep_alloc h3 (.rw (RQ.zero.cells nilV) (some 28)) (.rw (q.cells kv3) (some 28))
 have b4 := has_alloc h3 (.rw (RQ.zero.cells nilV) (some 28)) (.rw (q.cells kv3) (some 28))
 have s4 := s3.keep0 k4
 generalize (h3.new (.rw (RQ.zero.cells nilV) (some 28))).put h3.next (.rw (q.cells kv3) (some 28)) = h4 at *
 have k24 := k3.then k4
 have b1' := b1.keep0 (k2.then k24)
 have s1' := hs.keep0 (k12.then k24)
 refine hK _ _ _ (C.seq fun K hK => ?_)
 rw [box_f]
 unfold r8_2
 try rw [bx]
 refine ops_s ?_
 simp only [seval, ↓OF, NK, tg_set]
 refine ops_s ?_
 simp only [↓OF, NK, eqlS]
 refine ops_s ?_
 simp only [↓OF, NK]
 refine ops_s ?_
 simp only [seval, ↓OF, NK, tg_set]
 refine ops_s ?_
 simp only [seval, ↓OF, NK, tg_set]
 refine ops_s ?_
 simp only [↓OF, NK, eqlS]
 refine ops_s ?_
 simp only [↓OF, NK, pickV_true]
 refine ops_s ?_
 simp only [↓OF, NK]
 refine ops_s ?_
 simp only [seval, ↓OF, NK, tg_set, get13 b4]
 refine ops_s ?_
 simp only [seval, ↓OF, NK, tg_set, get13 b1']
 refine ops_s ?_
 simp only [NK]
 refine law14 L (n + 12) hL s4 s1' hk _ fun r h5 hv => ?_
 obtain ⟨rfl, k5⟩ := hv
 refine ops_s ?_
 simp only [↓OF, NK, pickV_true]
 refine ops_s ?_
 simp only [↓OF, NK]
 exact hK _ _ _ (C.ret ⟨.inr rfl, _, rfl, by simp only [seval, EV, resOf], (k12.then k24).then k5⟩)
def exQ1 : RQ := ⟨1, 1, [[97], [98]], [], 0, 0, 0, 0, 0, [], false, false⟩
def exQ2 : RQ := ⟨1, 2, [[97]], [120, 121], 0, 5, 0, 0, 0, [], false, false⟩
def exW1 : List UInt8 := [103, 101, 116, 32, 97, 32, 98, 13, 10]
def exW2 : List UInt8 := [115, 101, 116, 32, 97, 32, 48, 32, 53, 32, 50, 13, 10, 120, 121, 13, 10, 103, 101, 116]
theorem n1_eq : nextE exW1 = (exQ1, 9, 0) := by kernel_rfl
theorem n2_eq : nextE exW2 = (exQ2, 17, 0) := by kernel_rfl
theorem litA (b : Nat) : mkLit 9 2 b (fill (repl [(.string (strB []))] 2) (pl 1) [(0, (.string (strB [97]))), (1, (.string (strB [98])))]) = some (.rw (exQ1.keys.map sv) (some 9), .slice (some ⟨b, 0, none⟩) 2 2) := rfl
theorem litB (b : Nat) : mkLit 9 1 b (fill (repl [(.string (strB []))] 1) (pl 1) [(0, (.string (strB [97])))]) = some (.rw (exQ2.keys.map sv) (some 9), .slice (some ⟨b, 0, none⟩) 1 1) := rfl
theorem aggA (b : Nat) : aggO (fill [(.int .u8 (0)), (.int .i64 (0)), (.slice none 0 0), (.string (strB [])), (.int .u32 (0)), (.int .i64 (0)), (.int .u64 (0)), (.int .u64 (0))] (plc [(0, 1), (1, 1), (2, 1), (3, 1), (4, 1), (5, 1), (6, 1), (7, 1)]) [(0, (.int .u8 (1))), (2, .slice (some ⟨b, 0, none⟩) 2 2)]) = some (cmdQ exQ1 (.slice (some ⟨b, 0, none⟩) 2 2)).v := rfl
theorem aggA' (b : Nat) : aggO (fill [(.int .u8 (0)), (.int .u8 (0)), (.int .i64 (0)), (.slice none 0 0), (.string (strB [])), (.int .u32 (0)), (.int .i64 (0)), (.int .u64 (0)), (.int .u64 (0)), (.int .i64 (0)), (.string (strB [])), (.bool false), (.bool false)] (plc [(0, 1), (1, 8), (9, 1), (10, 1), (11, 1), (12, 1)]) [(0, (.int .u8 (1))), (1, (cmdQ exQ1 (.slice (some ⟨b, 0, none⟩) 2 2)).v)]) = some (exQ1.v (.slice (some ⟨b, 0, none⟩) 2 2)) := rfl
theorem aggB (b : Nat) : aggO (fill [(.int .u8 (0)), (.int .i64 (0)), (.slice none 0 0), (.string (strB [])), (.int .u32 (0)), (.int .i64 (0)), (.int .u64 (0)), (.int .u64 (0))] (plc [(0, 1), (1, 1), (2, 1), (3, 1), (4, 1), (5, 1), (6, 1), (7, 1)]) [(0, (.int .u8 (2))), (2, .slice (some ⟨b, 0, none⟩) 1 1), (5, (.int .i64 (5))), (3, (.string (strB [120, 121])))]) = some (cmdQ exQ2 (.slice (some ⟨b, 0, none⟩) 1 1)).v := rfl
theorem aggB' (b : Nat) : aggO (fill [(.int .u8 (0)), (.int .u8 (0)), (.int .i64 (0)), (.slice none 0 0), (.string (strB [])), (.int .u32 (0)), (.int .i64 (0)), (.int .u64 (0)), (.int .u64 (0)), (.int .i64 (0)), (.string (strB [])), (.bool false), (.bool false)] (plc [(0, 1), (1, 8), (9, 1), (10, 1), (11, 1), (12, 1)]) [(0, (.int .u8 (1))), (1, (cmdQ exQ2 (.slice (some ⟨b, 0, none⟩) 1 1)).v)]) = some (exQ2.v (.slice (some ⟨b, 0, none⟩) 1 1)) := rfl
theorem alive_law (L n : Nat) (hL : 2000 ≤ L) {h : H} {e : Value} {m : Int} (ev : Env0 e h) (h7 : 7 < h.next) (hM : Has h 0 (.ro [.int .i64 m])) :
   Sp (CF L (n + 16)) 11 [] h fun r h' => r = .bool true ∧ Keep nobody h h' := by
 refine Sp.body f11 (by simp) ?_
 unfold c11
 refine C.seq fun K hK => ?_
 simp only [EV, r11_0]
 refine hK _ _ _ (C.seq fun K hK => ?_)
 have k1 := Keep.new h (.rw (exQ1.keys.map sv) (some 9))
 have b1 := strs_lit (Has.new h (.rw (exQ1.keys.map sv) (some 9))) (by decide)
 simp only [↓EW, EV, r11_1, litA, aggA, aggA']
 generalize h.new (.rw (exQ1.keys.map sv) (some 9)) = h1 at *
 have k2 := keep_alloc h1 (.rw (RQ.zero.cells nilV) (some 28)) (.rw (exQ1.cells (.slice (some ⟨h.next, 0, none⟩) 2 2)) (some 28))
 have b2 := has_alloc h1 (.rw (RQ.zero.cells nilV) (some 28)) (.rw (exQ1.cells (.slice (some ⟨h.next, 0, none⟩) 2 2)) (some 28))
 simp only [EV, new13, own13 (q := exQ1) (kv := .slice (some ⟨h.next, 0, none⟩) 2 2) (strs_ones b1)]
 generalize (h1.new (.rw (RQ.zero.cells nilV) (some 28))).put h1.next (.rw (exQ1.cells (.slice (some ⟨h.next, 0, none⟩) 2 2)) (some 28)) = h2 at *
 have k02 := k1.then k2
 refine hK _ _ _ (C.seq fun K hK => ?_)
 have k3 := Keep.new h2 (.rw (exQ2.keys.map sv) (some 9))
 have b3 := strs_lit (Has.new h2 (.rw (exQ2.keys.map sv) (some 9))) (by decide)
 simp only [↓EW, EV, r11_2, litB, aggB, aggB']
 generalize h2.new (.rw (exQ2.keys.map sv) (some 9)) = h3 at *
 have k4 := keep_alloc h3 (.rw (RQ.zero.cells nilV) (some 28)) (.rw (exQ2.cells (.slice (some ⟨h2.next, 0, none⟩) 1 1)) (some 28))
 have b4 := has_alloc h3 (.rw (RQ.zero.cells nilV) (some 28)) (.rw (exQ2.cells (.slice (some ⟨h2.next, 0, none⟩) 1 1)) (some 28))
 simp only [EV, new13, own13 (q := exQ2) (kv := .slice (some ⟨h2.next, 0, none⟩) 1 1) (strs_ones b3)]
 generalize (h3.new (.rw (RQ.zero.cells nilV) (some 28))).put h3.next (.rw (exQ2.cells (.slice (some ⟨h2.next, 0, none⟩) 1 1)) (some 28)) = h4 at *
 have k24 := k3.then k4
 have k04 := k02.then k24
 have b2' := b2.keep0 k24
 have nn := k04.next
 refine hK _ _ _ (C.seq fun K hK => ?_)
 have g1 := is_law L n hL (ev.keep0 k04) (by omega) (hM.keep0 k04) (b1.keep0 (k2.then k24)) (by decide) (by decide) n1_eq
 simp only [seval, EV, r11_3, get13 b2']
 refine g1 _ fun r h5 hv => ?_
 obtain ⟨rfl, k5⟩ := hv
 have k05 := k04.then k5
 have nn5 := k5.next
 have g2 := is_law L n hL (ev.keep0 k05) (by omega) (hM.keep0 k05) (b3.keep0 (k4.then k5)) (by decide) (by decide) n2_eq
 simp only [EV, get13 (b4.keep0 k5)]
 refine g2 _ fun r h6 hv => ?_
 obtain ⟨rfl, k6⟩ := hv
 exact hK _ _ _ (C.ret ⟨.inr rfl, [.bool true], by simp only [seval, EV, q11], rfl, k05.then k6⟩)
theorem Reqs.lt {n0 : Nat} {h : H} {v : Value} {l : List RQ} (a : Reqs n0 h v l) {c : Nat} (hc : blk v c) : c < h.next := by
 obtain ⟨xs, e, m, hx⟩ := a.ex
 exact m.lt hc
def rqR (r : Rq) : RQ := ⟨r.kind, r.c.kind, r.c.keys, r.c.val.data.toList, r.c.flags, r.c.fo, r.c.uniq, r.c.by', r.ten, r.sec.data.toList, r.on, r.close⟩
theorem rqR_cells {r : Rq} (h : r.c.ten = 0) : r.cells = (rqR r).cells r.c.kv := by
 unfold Rq.cells
 rw [h]
 rfl
theorem nu_dec {n : Nat} (h : n < 18446744073709551616) : nu (dec n) = (n : Int) := by unfold nu; rw [num_dec h]; rfl
theorem up_dec {n m : Nat} (h : n < 18446744073709551616) (hm : n ≤ m) : upN (dec n) m = true := by
 unfold upN
 rw [num_dec h]
 exact dT hm
theorem wrapU32 {z : Int} (h : (0 : Int) ≤ z) (h1 : z < 4294967296) : IntKind.u32.wrap z = z := wrap_eq _ _ (by show (0 : Int) ≤ _; omega) (by show _ ≤ (4294967295 : Int); omega)
theorem wrapI64 {z : Int} (h : (0 : Int) ≤ z) (h1 : z ≤ 1099511627776) : IntKind.i64.wrap z = z := wrap_eq _ _ (by show (-9223372036854775808 : Int) ≤ _; omega) (by show _ ≤ (9223372036854775807 : Int); omega)
def bareC (c : Cmd) : Cmd := ⟨c.kind, 0, nilV, strB [], c.flags, c.fo, c.uniq, c.by', c.keys⟩
theorem mayB_bare {c : Cmd} {k : Nat} (h : mayB c k = true) (h0 : c.ten = 0) : mayB (bareC c) k = true := by
 unfold mayB mayA at h ⊢
 rw [h0] at h
 simp only [Bool.and_eq_true, Bool.or_eq_true, decide_eq_true_eq] at h ⊢
 obtain ⟨h1, _, h3⟩ := h
 exact ⟨h1, ⟨by show ((0 : Nat) : Int) ≤ 512; decide, .inr (by show ((0 : Nat) : Int) = 0; decide)⟩, h3⟩
structure RestOK (c : Cmd) (k : Nat) (many : Int) (rest : List (List UInt8)) : Prop where
 ok : dOK k rest = true
 eq : dC k rest nilV = bareC c
 n : dN k rest = if hv k = true then (c.val.size : Int) else -1
 cnt : CntOK many rest
theorem one_key {l : List (List UInt8)} (h : 1 ≤ l.length ∧ l.length ≤ 1) : ∃ p, l = [p] := by
 match l, h with
 | [p], _ => exact ⟨p, rfl⟩
 | [], h => simp at h
 | _ :: _ :: _, h => simp at h
theorem rest_ok {c : Cmd} {k : Nat} (hk : c.kind = (k : Int)) (hm : mayB c k = true) (h0 : c.ten = 0) (hkeys : keysOk c = true) (hf : c.fit) : ∃ many, kindW (nameN.getD k []) = (k, many) ∧ RestOK c k many (c.keys ++ numsL c k) := by
 have hb := mayB_bare hm h0
 have M := may_of hm
 obtain ⟨hk1, hk2⟩ := M.kind
 have hfo := M.fo
 have hva := M.val
 have hks := M.keys
 unfold mayB at hm
 simp only [Bool.and_eq_true, Bool.or_eq_true, decide_eq_true_eq] at hm
 obtain ⟨_, ⟨_, _⟩, ⟨_, hf3⟩, ⟨hg3, hc3⟩, hb3⟩ := hm
 have f1 := hf.flags
 have f2 := hf.uniq
 have f3 := hf.by'
 have fl : IntKind.u32.wrap (nu (dec c.flags.toNat)) = c.flags := by
   rw [nu_dec (by omega), show ((c.flags.toNat : Nat) : Int) = c.flags by omega]
   exact wrapU32 f1.1 f1.2
 have fo : IntKind.i64.wrap (nu (dec c.fo.toNat)) = c.fo := by
   rw [nu_dec (by omega), wrapI64 (by omega) (by omega)]; omega
 have un : nu (dec c.uniq.toNat) = c.uniq := by rw [nu_dec (by omega)]; omega
 have bb : nu (dec c.by'.toNat) = c.by' := by rw [nu_dec (by omega)]; omega
 have vs : IntKind.i64.wrap (nu (dec c.val.size)) = (c.val.size : Int) := by rw [nu_dec (by omega), wrapI64 (by omega) (by omega)]
 have ufl : upN (dec c.flags.toNat) 4294967295 = true := up_dec (by omega) (by omega)
 have ufo : upN (dec c.fo.toNat) 1099511627776 = true := up_dec (by omega) (by omega)
 have uva : upN (dec c.val.size) 512 = true := up_dec (by omega) (by omega)
 have uun : upN (dec c.uniq.toNat) 18446744073709551615 = true := up_dec (by omega) (by omega)
 have uby : upN (dec c.by'.toNat) 18446744073709551615 = true := up_dec (by omega) (by omega)
 have hbc : bareC c = ⟨(k : Int), 0, nilV, strB [], c.flags, c.fo, c.uniq, c.by', c.keys⟩ := by unfold bareC; rw [hk]
 have fin : ∀ (many : Int) (rest : List (List UInt8)), dC k rest nilV = bareC c → keysD k rest = c.keys → okD k rest = true → dN k rest = (if hv k = true then (c.val.size : Int) else -1) → CntOK many rest → RestOK c k many rest := fun many rest e1 e2 e3 e4 e5 =>
   ⟨by unfold dOK; rw [e1, e2, e3, hb]; unfold keysOk at hkeys; rw [hkeys]; rfl, e1, e4, e5⟩
 have keys1 : loK k = 1 → hiK k = 1 → ∃ p, c.keys = [p] := fun h1 h2 => one_key (by rw [h1, h2] at hks; exact hks)
 rcases (show k = 1 ∨ k = 2 ∨ k = 3 ∨ k = 4 ∨ k = 5 ∨ k = 6 ∨ k = 7 ∨ k = 8 ∨ k = 9 ∨ k = 10 ∨ k = 11 by omega) with rfl | rfl | rfl | rfl | rfl | rfl | rfl | rfl | rfl | rfl | rfl
 case inl | inr.inr.inr.inr.inr.inr.inr.inr.inr.inl =>
   refine ⟨-1, rfl, ?_⟩
   first
   | rw [show numsL c 1 = [] from rfl, List.append_nil]
   | rw [show numsL c 10 = [] from rfl, List.append_nil]
   have z1 : c.flags = 0 := hg3.resolve_left (by decide)
   have z2 : c.fo = 0 := hf3.resolve_left (by decide)
   have z3 : c.uniq = 0 := hc3.resolve_left (by decide)
   have z4 : c.by' = 0 := hb3.resolve_left (by decide)
   refine fin _ _ (by rw [hbc, z1, z2, z3, z4]; rfl) rfl rfl rfl ⟨fun h => absurd h (by decide), fun _ => ?_⟩
   have := hks.1
   exact this
 case inr.inl | inr.inr.inl | inr.inr.inr.inl =>
   obtain ⟨p, hp⟩ := keys1 rfl rfl
   have z3 : c.uniq = 0 := hc3.resolve_left (by decide)
   have z4 : c.by' = 0 := hb3.resolve_left (by decide)
   refine ⟨4, rfl, ?_⟩
   rw [hp] at hbc ⊢
   refine fin _ [p, dec c.flags.toNat, dec c.fo.toNat, dec c.val.size] ?_ (by rw [hp]; rfl) ?_ vs ⟨fun _ => rfl, fun h => absurd h (by decide)⟩
   · rw [hbc, z3, z4]
     refine Eq.trans (b := (⟨_, 0, nilV, strB [], IntKind.u32.wrap (nu (dec c.flags.toNat)), IntKind.i64.wrap (nu (dec c.fo.toNat)), 0, 0, [p]⟩ : Cmd)) rfl ?_
     rw [fl, fo]
   · refine Eq.trans (b := (upN (dec c.flags.toNat) 4294967295 && upN (dec c.fo.toNat) 1099511627776 && upN (dec c.val.size) 512)) rfl ?_
     rw [ufl, ufo, uva]; rfl
 case inr.inr.inr.inr.inl =>
   obtain ⟨p, hp⟩ := keys1 rfl rfl
   have z4 : c.by' = 0 := hb3.resolve_left (by decide)
   refine ⟨5, rfl, ?_⟩
   rw [hp] at hbc ⊢
   refine fin _ [p, dec c.flags.toNat, dec c.fo.toNat, dec c.val.size, dec c.uniq.toNat] ?_ (by rw [hp]; rfl) ?_ vs ⟨fun _ => rfl, fun h => absurd h (by decide)⟩
   · rw [hbc, z4]
     refine Eq.trans (b := (⟨_, 0, nilV, strB [], IntKind.u32.wrap (nu (dec c.flags.toNat)), IntKind.i64.wrap (nu (dec c.fo.toNat)), nu (dec c.uniq.toNat), 0, [p]⟩ : Cmd)) rfl ?_
     rw [fl, fo, un]
   · refine Eq.trans (b := ((upN (dec c.flags.toNat) 4294967295 && upN (dec c.fo.toNat) 1099511627776 && upN (dec c.val.size) 512) && upN (dec c.uniq.toNat) 18446744073709551615)) rfl ?_
     rw [ufl, ufo, uva, uun]; rfl
 case inr.inr.inr.inr.inr.inl | inr.inr.inr.inr.inr.inr.inl =>
   obtain ⟨p, hp⟩ := keys1 rfl rfl
   have z1 : c.flags = 0 := hg3.resolve_left (by decide)
   have z2 : c.fo = 0 := hf3.resolve_left (by decide)
   have z3 : c.uniq = 0 := hc3.resolve_left (by decide)
   refine ⟨2, rfl, ?_⟩
   rw [hp] at hbc ⊢
   refine fin _ [p, dec c.by'.toNat] ?_ (by rw [hp]; rfl) uby rfl ⟨fun _ => rfl, fun h => absurd h (by decide)⟩
   rw [hbc, z1, z2, z3]
   refine Eq.trans (b := (⟨_, 0, nilV, strB [], 0, 0, 0, nu (dec c.by'.toNat), [p]⟩ : Cmd)) rfl ?_
   rw [bb]
 case inr.inr.inr.inr.inr.inr.inr.inl =>
   obtain ⟨p, hp⟩ := keys1 rfl rfl
   have z1 : c.flags = 0 := hg3.resolve_left (by decide)
   have z2 : c.fo = 0 := hf3.resolve_left (by decide)
   have z3 : c.uniq = 0 := hc3.resolve_left (by decide)
   have z4 : c.by' = 0 := hb3.resolve_left (by decide)
   refine ⟨2, rfl, ?_⟩
   rw [hp] at hbc ⊢
   refine fin _ [p, dec c.val.size] ?_ (by rw [hp]; rfl) uva vs ⟨fun _ => rfl, fun h => absurd h (by decide)⟩
   rw [hbc, z1, z2, z3, z4]
   rfl
 case inr.inr.inr.inr.inr.inr.inr.inr.inl =>
   obtain ⟨p, hp⟩ := keys1 rfl rfl
   have z1 : c.flags = 0 := hg3.resolve_left (by decide)
   have z3 : c.uniq = 0 := hc3.resolve_left (by decide)
   have z4 : c.by' = 0 := hb3.resolve_left (by decide)
   refine ⟨2, rfl, ?_⟩
   rw [hp] at hbc ⊢
   refine fin _ [p, dec c.fo.toNat] ?_ (by rw [hp]; rfl) ufo rfl ⟨fun _ => rfl, fun h => absurd h (by decide)⟩
   rw [hbc, z1, z3, z4]
   refine Eq.trans (b := (⟨_, 0, nilV, strB [], 0, IntKind.i64.wrap (nu (dec c.fo.toNat)), 0, 0, [p]⟩ : Cmd)) rfl ?_
   rw [fo]
 case inr.inr.inr.inr.inr.inr.inr.inr.inr.inr =>
   have z1 : c.flags = 0 := hg3.resolve_left (by decide)
   have z2 : c.fo = 0 := hf3.resolve_left (by decide)
   have z3 : c.uniq = 0 := hc3.resolve_left (by decide)
   have z4 : c.by' = 0 := hb3.resolve_left (by decide)
   have hp : c.keys = [] := List.eq_nil_of_length_eq_zero (by have := hks.2; exact Nat.le_zero.1 this)
   refine ⟨0, rfl, ?_⟩
   rw [hp] at hbc ⊢
   refine fin _ [] (by rw [hbc, z1, z2, z3, z4]; rfl) (by rw [hp]; rfl) rfl rfl ⟨fun _ => rfl, fun h => absurd h (by decide)⟩
theorem name_no : ∀ k : Nat, k ≤ 11 → (32 : UInt8) ∉ nameN.getD k [] ∧ (13 : UInt8) ∉ nameN.getD k [] := by decide
theorem ok_no {m : Nat} {p : List UInt8} (h : okW m p = true) : (32 : UInt8) ∉ p ∧ (13 : UInt8) ∉ p := by
 unfold okW at h
 exact plain_no (by cases hp : plainL p with | true => rfl | false => rw [hp, Bool.false_and] at h; cases h)
theorem nums_no (c : Cmd) (k : Nat) : ∀ p ∈ numsL c k, (32 : UInt8) ∉ p ∧ (13 : UInt8) ∉ p := by
 intro p hp
 have : ∃ n, p = dec n := by
   unfold numsL at hp
   split at hp
   · simp only [List.mem_cons] at hp
     rcases hp with h | h | h | hp
     · exact ⟨_, h⟩
     · exact ⟨_, h⟩
     · exact ⟨_, h⟩
     · split at hp
       · simp at hp; exact ⟨_, hp⟩
       · simp at hp
   · split at hp
     · simp at hp; exact ⟨_, hp⟩
     · split at hp
       · simp at hp; exact ⟨_, hp⟩
       · split at hp
         · simp at hp; exact ⟨_, hp⟩
         · simp at hp
 obtain ⟨n, rfl⟩ := this
 exact dec_no n
theorem words_no {c : Cmd} (hkeys : keysOk c = true) (k : Nat) : ∀ p ∈ c.keys ++ numsL c k, (32 : UInt8) ∉ p ∧ (13 : UInt8) ∉ p := by
 intro p hp
 rcases List.mem_append.1 hp with hp | hp
 · exact ok_no (List.all_eq_true.1 hkeys p hp)
 · exact nums_no c k p hp
def cmdW (c : Cmd) (k : Nat) : List UInt8 := nameN.getD k [] ++ joinR (c.keys ++ numsL c k)
theorem line_cmd {c : Cmd} {k : Nat} (hk : c.kind = (k : Int)) (hm : mayB c k = true) (h0 : c.ten = 0) (hkeys : keysOk c = true) (hf : c.fit) :
   lineP (cmdW c k) = (rqC (bareC c), (if hv k = true then (c.val.size : Int) else -1), true) := by
 obtain ⟨many, hw, R⟩ := rest_ok hk hm h0 hkeys hf
 have hk2 := (may_of hm).kind
 have hn := name_no k hk2.2
 have hno := words_no hkeys k
 have hc := cut_join (c.keys ++ numsL c k) (nameN.getD k []) hn.1 fun p hp => (hno p hp).1
 unfold cmdW
 rw [lineP_cut hc]
 rcases kind_cases (nameN.getD k []) with ⟨k', many', E, h1, h2, h3⟩ | ⟨h1, _⟩
 · rw [hw] at h1
   cases h1
   rw [h2]
   show endP E _ = _
   rw [(h3.good _ R.cnt).1]
   unfold cmdP
   rw [if_pos R.ok, R.eq, R.n]
 · rw [hw] at h1
   cases h1
   omega
theorem cmdW_no {c : Cmd} {k : Nat} (hm : mayB c k = true) (hkeys : keysOk c = true) (hf : c.fit) : (13 : UInt8) ∉ cmdW c k ∧ (cmdW c k).length ≤ 400 := by
 have M := may_of hm
 have hn := name_no k M.kind.2
 have h1 := words_len M hf
 have h2 := (name_len k M.kind.1 M.kind.2).1
 refine ⟨fun h => ?_, ?_⟩
 · rcases List.mem_append.1 h with h | h
   · exact hn.2 h
   · exact join_no (fun p hp => (words_no hkeys k p hp).2) h
 · unfold cmdW
   rw [List.length_append, joinR_len]
   omega
theorem next_line {l : List UInt8} (h13 : (13 : UInt8) ∉ l) (hl : l.length ≤ 512) (r : List UInt8) : nextP (l ++ 13 :: 10 :: r) =
   if (lineP l).2.2 = false then (.bad false, l.length + 2)
   else if (lineP l).2.1 < 0 then ((lineP l).1, l.length + 2)
   else if (l ++ 13 :: 10 :: r).length < l.length + 2 + (lineP l).2.1.toNat + 2 then (.zero, 0)
   else if ¬ At (l ++ 13 :: 10 :: r) (l.length + 2 + (lineP l).2.1.toNat) then (.bad true, l.length + 2 + (lineP l).2.1.toNat + 2)
   else ({ (lineP l).1 with val := ((l ++ 13 :: 10 :: r).take (l.length + 2 + (lineP l).2.1.toNat)).drop (l.length + 2) }, l.length + 2 + (lineP l).2.1.toNat + 2) := by
 have h := nextP_pos (crlf_line (r := r) h13 hl)
 rw [List.take_left] at h
 exact h
theorem next_short {l : List UInt8} {q : RQ} (h13 : (13 : UInt8) ∉ l) (hl : l.length ≤ 512) (r : List UInt8) (hp : lineP l = (q, -1, true)) : nextP (l ++ 13 :: 10 :: r) = (q, l.length + 2) := by
 rw [next_line h13 hl, hp, if_neg (fun e : true = false => by cases e), if_pos (by show (-1 : Int) < 0; decide)]
theorem next_long {l v : List UInt8} {q : RQ} (h13 : (13 : UInt8) ∉ l) (hl : l.length ≤ 512) (r : List UInt8) (hp : lineP l = (q, (v.length : Int), true)) : nextP (l ++ 13 :: 10 :: (v ++ 13 :: 10 :: r)) = ({ q with val := v }, l.length + 2 + v.length + 2) := by
 rw [next_line h13 hl, hp, if_neg (fun e : true = false => by cases e)]
 dsimp only
 rw [if_neg (by omega), Int.toNat_natCast]
 have e : l ++ 13 :: 10 :: (v ++ 13 :: 10 :: r) = (l ++ 13 :: 10 :: v) ++ 13 :: 10 :: r := by simp
 have el : (l ++ 13 :: 10 :: v).length = l.length + 2 + v.length := by simp; omega
 rw [e]
 have ha := at_mid (l ++ 13 :: 10 :: v) r
 rw [el] at ha
 rw [if_neg (by rw [List.length_append, el]; simp), if_neg (fun x => x ha), ← el, List.take_left]
 have e2 : l ++ 13 :: 10 :: v = (l ++ [13, 10]) ++ v := by simp
 rw [e2, show l.length + 2 = (l ++ [13, 10]).length by simp, List.drop_left]
theorem ba0 {s : ByteArray} (h : (s.size : Int) = 0) : s.data.toList = [] := List.eq_nil_of_length_eq_zero (by show s.data.size = 0; show s.size = 0; omega)
structure BareC (c : Cmd) : Prop where
 kind : c.kind = 0
 ten : c.ten = 0
 keys : c.keys = []
 val : c.val.data.toList = []
 flags : c.flags = 0
 fo : c.fo = 0
 uniq : c.uniq = 0
 by' : c.by' = 0
theorem bare_of {c : Cmd} (h : bareB c = true) : BareC c := by
 unfold bareB at h
 simp only [Bool.and_eq_true, decide_eq_true_eq] at h
 obtain ⟨h1, h2, h3, h4, h5, h6, h7, h8⟩ := h
 exact ⟨h1, h2, List.eq_nil_of_length_eq_zero (by omega), ba0 h4, h5, h6, h7, h8⟩
theorem rq_bare {r : Rq} (b : BareC r.c) (hc : r.close = false) : rqR r = ⟨r.kind, 0, [], [], 0, 0, 0, 0, r.ten, r.sec.data.toList, r.on, false⟩ := by
 unfold rqR
 rw [b.kind, b.keys, b.val, b.flags, b.fo, b.uniq, b.by', hc]
theorem bytes_sv (s : ByteArray) : (s.data.toList).length = s.size := rfl
structure BackP (r : Rq) (o : List UInt8) (more : List UInt8) : Prop where
 ten : r.c.ten = 0
 next : nextP (o ++ more) = (rqR r, o.length)
 len : o.length ≤ 1000
theorem back_line {r : Rq} {l more : List UInt8} (h13 : (13 : UInt8) ∉ l) (hl : l.length ≤ 400) (ht : r.c.ten = 0) (hp : lineP l = (rqR r, -1, true)) : BackP r (l ++ [13, 10]) more := by
 refine ⟨ht, ?_, by simp; omega⟩
 rw [List.append_assoc]
 have := next_short h13 (by omega) more hp
 have e : (l ++ ([13, 10] : List UInt8)).length = l.length + 2 := by simp
 rw [e]
 exact this
theorem l_on : lineP [116, 114, 97, 99, 107, 32, 111, 110] = (⟨3, 0, [], [], 0, 0, 0, 0, 0, [], true, false⟩, -1, true) := by kernel_rfl
theorem l_off : lineP [116, 114, 97, 99, 107, 32, 111, 102, 102] = (⟨3, 0, [], [], 0, 0, 0, 0, 0, [], false, false⟩, -1, true) := by kernel_rfl
theorem l_ping : lineP [112, 105, 110, 103] = (⟨4, 0, [], [], 0, 0, 0, 0, 0, [], false, false⟩, -1, true) := by kernel_rfl
theorem l_quit : lineP [113, 117, 105, 116] = (⟨5, 0, [], [], 0, 0, 0, 0, 0, [], false, false⟩, -1, true) := by kernel_rfl
theorem l_user {t : Nat} {s : List UInt8} (ht : t < 4) (hs : okW 16 s = true) : lineP ([117, 115, 101, 114] ++ joinR [dec t, s]) = (⟨2, 0, [], [], 0, 0, 0, 0, (t : Int), s, false, false⟩, -1, true) := by
 have hc := cut_join [dec t, s] [117, 115, 101, 114] (by decide) fun p hp => by
   simp only [List.mem_cons, List.not_mem_nil, or_false] at hp
   rcases hp with rfl | rfl
   · exact (dec_no t).1
   · exact (ok_no hs).1
 rw [lineP_cut hc]
 show endP PS.user [dec t, s] = _
 rw [(user_eq [dec t, s]).2 (dec t) s rfl, if_pos (by rw [up_dec (by omega) (by omega), hs]; rfl), nu_dec (by omega), wrapI64 (by omega) (by omega)]
theorem back_plain {r : Rq} {k : Nat} (hk : r.c.kind = (k : Int)) (hf : r.c.fit) (he : (outT r k).2 = 0) (more : List UInt8) : BackP r (outT r k).1 more := by
 unfold outT at he ⊢
 split at he
 · cases he
 rename_i hA
 rw [if_neg hA]
 have hA' : fitsA r = true := by cases h : fitsA r with | true => rfl | false => exact absurd h hA
 unfold fitsA at hA'
 obtain ⟨hR, hB⟩ := (Bool.and_eq_true _ _ ▸ hA' : _ ∧ _)
 unfold restB at hR
 simp only [Bool.and_eq_true, Bool.or_eq_true, decide_eq_true_eq, Bool.not_eq_true'] at hR
 obtain ⟨⟨hcl, hon⟩, hts⟩ := hR
 have bare : r.kind ≠ 1 → BareC r.c := fun h => bare_of (by
   simp only [Bool.or_eq_true, decide_eq_true_eq] at hB
   exact hB.resolve_left h)
 have noon : r.kind ≠ 3 → r.on = false := fun h => hon.resolve_right h
 have nots : r.kind ≠ 2 → r.ten = 0 ∧ r.sec.data.toList = [] := fun h => by
   have := hts.resolve_left h
   exact ⟨this.1, ba0 this.2⟩
 split at he
 · rename_i h1
   rw [if_pos h1]
   split at he
   · cases he
   rename_i hm
   rw [if_neg hm]
   have hm' : mayB r.c k = true := by cases h : mayB r.c k with | true => rfl | false => exact absurd h hm
   split at he
   · cases he
   rename_i hT
   rw [if_neg hT]
   have hT' : (decide (r.c.ten = 0) && keysOk r.c) = true := by cases h : (decide (r.c.ten = 0) && keysOk r.c) with | true => rfl | false => exact absurd h hT
   obtain ⟨h0, hkeys⟩ := (Bool.and_eq_true _ _ ▸ hT' : _ ∧ _)
   have h0 : r.c.ten = 0 := of_decide_eq_true h0
   obtain ⟨n13, nl⟩ := cmdW_no (k := k) hm' hkeys hf
   have lc := line_cmd hk hm' h0 hkeys hf
   have M := may_of hm'
   obtain ⟨e1, e2⟩ := nots (by omega)
   have e3 := noon (by omega)
   have hq : rqR r = { rqC (bareC r.c) with val := r.c.val.data.toList } := by
     unfold rqR rqC bareC
     rw [h1, e1, e2, e3, hcl]
   have hl : lineL r.c k = cmdW r.c k ++ [13, 10] ++ (if hv k = true then r.c.val.data.toList ++ [13, 10] else []) := rfl
   show BackP r (lineL r.c k) more
   by_cases g : hv k = true
   · rw [if_pos g] at lc hl
     rw [hl]
     have hv2 := M.val
     have hn := next_long (v := r.c.val.data.toList) n13 (by omega) more lc
     refine ⟨h0, ?_, ?_⟩
     · rw [hq]
       have el : (cmdW r.c k ++ [13, 10] ++ (r.c.val.data.toList ++ [13, 10])).length = (cmdW r.c k).length + 2 + r.c.val.data.toList.length + 2 := by
         simp only [List.length_append, List.length_cons, List.length_nil]; omega
       rw [el, ← hn]
       congr 1
       simp
     · simp only [List.length_append, List.length_cons, List.length_nil, bytes_sv]; omega
   · rw [if_neg g] at lc hl
     rw [hl, List.append_nil]
     refine back_line n13 nl h0 ?_
     rw [lc, hq, ba0 (by have := M.nov (by simpa using g); omega)]
     rfl
 rename_i h1
 rw [if_neg h1]
 have B := bare h1
 have hq := rq_bare B hcl
 split at he
 · rename_i h2
   rw [if_pos h2]
   split at he
   · cases he
   rename_i hb
   rw [if_neg hb]
   have hb' : fitsB r = true := by cases h : fitsB r with | true => rfl | false => exact absurd h hb
   unfold fitsB at hb'
   rw [dT h2] at hb'
   simp only [Bool.not_true, Bool.false_or, Bool.and_eq_true, decide_eq_true_eq] at hb'
   obtain ⟨⟨t1, t2⟩, t3⟩ := hb'
   show BackP r (userL r) more
   unfold userL
   have hs16 : r.sec.data.toList.length ≤ 16 := by
     unfold okW at t3
     simp only [Bool.and_eq_true, decide_eq_true_eq] at t3
     omega
   have hdl := dec_len 0 r.ten.toNat (by omega)
   refine back_line ?_ ?_ B.ten ?_
   · intro h
     rcases List.mem_append.1 h with h | h
     · exact absurd h (by decide)
     · refine join_no (fun p hp => ?_) h
       simp only [List.mem_cons, List.not_mem_nil, or_false] at hp
       rcases hp with rfl | rfl
       · exact (dec_no _).2
       · exact (ok_no t3).2
   · rw [List.length_append, joinR_len]
     show 4 + (2 + ((dec r.ten.toNat).length + (r.sec.data.toList.length + 0))) ≤ 400
     omega
   · rw [l_user (by omega) t3, hq, h2, noon (by omega)]
     have : ((r.ten.toNat : Nat) : Int) = r.ten := by omega
     rw [this]
 rename_i h2
 rw [if_neg h2]
 obtain ⟨e1, e2⟩ := nots h2
 rw [e1, e2] at hq
 split at he
 · rename_i h3
   rw [if_pos h3]
   show BackP r (trackL r.on) more
   rw [h3] at hq
   unfold trackL
   cases ho : r.on with
   | true =>
     rw [ho] at hq
     exact back_line (l := [116, 114, 97, 99, 107, 32, 111, 110]) (by decide) (by decide) B.ten (by rw [l_on, hq])
   | false =>
     rw [ho] at hq
     exact back_line (l := [116, 114, 97, 99, 107, 32, 111, 102, 102]) (by decide) (by decide) B.ten (by rw [l_off, hq])
 rename_i h3
 rw [if_neg h3]
 rw [noon h3] at hq
 split at he
 · rename_i h4
   rw [if_pos h4]
   rw [h4] at hq
   exact back_line (l := [112, 105, 110, 103]) (by decide) (by decide) B.ten (by rw [l_ping, hq])
 rename_i h4
 rw [if_neg h4]
 split at he
 · rename_i h5
   rw [if_pos h5]
   rw [h5] at hq
   exact back_line (l := [113, 117, 105, 116]) (by decide) (by decide) B.ten (by rw [l_quit, hq])
 · cases he
theorem out_err {r : Rq} {k : Nat} (h : (outT r k).2 ≠ 0) : (outT r k).1 = [] := by
 unfold outT at h ⊢
 repeat' (first | rfl | (split at h) )
 all_goals first | (exact absurd rfl h) | skip
 all_goals simp_all
def skipB (d : Bool) (r : Rq) (more : List UInt8) : Bool := d || (decide (1000 < (r.sec.size : Int)) || decide (10000 < (more.length : Int)))
theorem reg6_2 (L n : Nat) (hL : 2000 ≤ L) {tm : T Value} {h : H} {r : Rq} {v : Value} {more : List UInt8} {Z : Nat} (hz : Has h Z (.rw r.cells (some 28))) (hs : Strs h r.c.kv r.c.keys) (hr : Rd h v more) (t1 : tg tm 1 = v) (t2 : tg tm 2 = .pointer (some ⟨Z, 0, none⟩)) (t5 : tg tm 5 = .bool true) {Q : Ex → T Value → H → Prop}
   (hQ : ∀ d hx, (d = false → r.c.slim) → Keep nobody h hx → Q .norm (T.set tm 31 (.bool (skipB d r more))) hx) : C ⟨r6_2⟩ (CF L (n + 1)) L tm h Q := fun K hK => by
 rw [box_f]
 unfold r6_2
 try rw [bx]
 refine ops_s ?_
 simp only [↓OF, NK, t2, fieldPtr_ptr, Nat.zero_add]
 refine ops_s ?_
 simp only [↓OF, NK, lag81 hz]
 refine ops_s ?_
 simp only [NK]
 refine long_law L n hL hs _ fun rv hx hv => ?_
 obtain ⟨d, rfl, hsl, kx⟩ := hv
 have hq := hQ d hx hsl kx
 have l10 : loadOne hx (.pointer (some ⟨Z, 10, none⟩)) = some (.string r.sec) := loadOne_has (hz.keep0 kx) rfl
 have hr' := hr.keep0 kx
 unfold skipB at hq
 cases d with
 | true =>
   simp only [Bool.true_or] at hq
   refine ops_s ?_
   simp only [↓OF, NK]
   refine ops_k ?_
   refine ops_k ?_
   refine ops_k ?_
   refine ops_k ?_
   refine ops_s ?_
   simp only [↓OF, NK, pickV_true]
   refine ops_s ?_
   simp only [↓OF, NK]
   refine ops_k ?_
   refine ops_k ?_
   refine ops_k ?_
   refine ops_s ?_
   simp only [↓OF, NK, pickV_true]
   refine ops_s ?_
   simp only [↓OF, NK]
   refine ops_k ?_
   refine ops_k ?_
   refine ops_s ?_
   simp only [↓OF, NK, pickV_true]
   exact hK _ _ _ hq
 | false =>
   rw [Bool.false_or] at hq
   refine ops_s ?_
   simp only [↓OF, NK]
   refine ops_s ?_
   simp only [↓OF, NK, t2, fieldPtr_ptr, Nat.zero_add]
   refine ops_s ?_
   simp only [↓OF, NK, l10]
   refine ops_s ?_
   simp only [↓OF, NK, lenStr_string]
   by_cases c1 : (1000 : Int) < (r.sec.size : Int)
   · rw [dT c1, Bool.true_or] at hq
     refine ops_s ?_
     simp only [↓OF, NK, binV_gtr, dT c1]
     refine ops_s ?_
     simp only [↓OF, NK, pickV_false]
     refine ops_s ?_
     simp only [↓OF, NK]
     refine ops_k ?_
     refine ops_k ?_
     refine ops_k ?_
     refine ops_s ?_
     simp only [↓OF, NK, pickV_true]
     refine ops_s ?_
     simp only [↓OF, NK]
     refine ops_k ?_
     refine ops_k ?_
     refine ops_s ?_
     simp only [↓OF, NK, pickV_true]
     exact hK _ _ _ hq
   rw [dF c1, Bool.false_or] at hq
   refine ops_s ?_
   simp only [↓OF, NK, binV_gtr, dF c1]
   refine ops_s ?_
   simp only [↓OF, NK, pickV_false]
   refine ops_s ?_
   simp only [↓OF, NK]
   refine ops_s ?_
   simp only [↓OF, NK, t1]
   refine ops_s ?_
   simp only [↓OF, NK, hr'.len]
   by_cases c2 : (10000 : Int) < (more.length : Int)
   · rw [dT c2] at hq
     refine ops_s ?_
     simp only [↓OF, NK, binV_gtr, dT c2]
     refine ops_s ?_
     simp only [↓OF, NK, pickV_false]
     refine ops_s ?_
     simp only [↓OF, NK]
     refine ops_k ?_
     refine ops_k ?_
     refine ops_s ?_
     simp only [↓OF, NK, pickV_true]
     exact hK _ _ _ hq
   rw [dF c2] at hq
   refine ops_s ?_
   simp only [↓OF, NK, binV_gtr, dF c2]
   refine ops_s ?_
   simp only [↓OF, NK, pickV_false]
   refine ops_s ?_
   simp only [↓OF, NK]
   refine ops_s ?_
   simp only [↓OF, NK, t5]
   refine ops_s ?_
   simp only [↓OF, NK, unV_not, Bool.not_true]
   refine ops_s ?_
   simp only [↓OF, NK, pickV_false]
   exact hK _ _ _ hq
theorem reg6_12 (L n : Nat) (hL : 2000 ≤ L) {tm : T Value} {h : H} {q : RQ} {k : Nat} {kv1 kv2 : Value} {A B : Nat} (h1 : Has h A (.rw (q.cells kv1) (some 28))) (h2 : Has h B (.rw (q.cells kv2) (some 28))) (s1 : Strs h kv1 q.keys) (s2 : Strs h kv2 q.keys) (hk : q.keys.length ≤ 1000)
   (t12 : tg tm 12 = .int .i64 0) (t11 : tg tm 11 = .int .i64 (k : Int)) (t8 : tg tm 8 = .int .i64 (k : Int)) (t10 : tg tm 10 = .pointer (some ⟨A, 0, none⟩)) (t2 : tg tm 2 = .pointer (some ⟨B, 0, none⟩)) {Q : Ex → T Value → H → Prop}
   (hQ : ∀ hx, Keep nobody h hx → Q .norm (T.set tm 4 (.bool true)) hx) : C ⟨r6_12⟩ (CF L (n + 2)) L tm h Q := fun K hK => by
 rw [box_f]
 unfold r6_12
 try rw [bx]
 refine ops_s ?_
 simp only [↓OF, NK, t12]
 refine ops_s ?_
 simp only [↓OF, NK, eqlS]
 refine ops_s ?_
 simp only [↓OF, NK]
 refine ops_s ?_
 simp only [↓OF, NK, t11]
 refine ops_s ?_
 simp only [↓OF, NK, t8]
 refine ops_s ?_
 simp only [↓OF, NK, eqlS]
 refine ops_s ?_
 simp only [↓OF, NK, pickV_true]
 refine ops_s ?_
 simp only [↓OF, NK]
 refine ops_s ?_
 simp only [↓OF, NK, t10, get13 h1]
 refine ops_s ?_
 simp only [↓OF, NK, t2, get13 h2]
 refine ops_s ?_
 simp only [NK]
 refine law14 L n hL s1 s2 hk _ fun r hx hv => ?_
 obtain ⟨rfl, kx⟩ := hv
 refine ops_s ?_
 simp only [↓OF, NK, pickV_true]
 refine ops_s ?_
 simp only [↓OF, NK]
 exact hK _ _ _ (hQ hx kx)
theorem back_law (L n : Nat) (hL : 20000 ≤ L) {h0 : H} {r : Rq} {v : Value} {more : List UInt8} {e : Value} {m : Int} (ev : Env0 e h0) (h7 : 7 < h0.next) (hM : Has h0 0 (.ro [.int .i64 m])) (hok : r.ok) (hs : Strs h0 r.c.kv r.c.keys) (hr : Rd h0 v more) :
   Sp (CF L (n + 24)) 6 [r.v, v] h0 fun x h' => x = .bool true := by
 refine Sp.body f6 (by simp) ?_
 have done : ∀ (tm : T Value) (h : H), tg tm 4 = .bool true → ∃ l, q6.f tm h = some l ∧ resOf l = .bool true := fun tm h t4 => ⟨_, rfl, by simp only [resOf, t4]⟩
 have hcc : (Value.cells r.v).toList = r.cells := rfl
 have k0 := Keep.new h0 (.rw r.cells (some 28))
 have b0 := Has.new h0 (.rw r.cells (some 28))
 have nn0 : (h0.new (.rw r.cells (some 28))).next = h0.next + 1 := rfl
 unfold c6
 refine C.seq fun K hK => ?_
 simp only [seval, ↓EW, EV, r6_0, hcc]
 generalize hZ : h0.next = Z at *
 generalize h0.new (.rw r.cells (some 28)) = h1 at *
 refine hK _ _ _ (C.seq fun K hK => ?_)
 simp only [r6_1]
 refine alive_law L (n + 7) (by omega) (ev.keep0 k0) (by omega) (hM.keep0 k0) _ fun x h2 hv => ?_
 obtain ⟨rfl, k1⟩ := hv
 have k02 := k0.then k1
 refine hK _ _ _ (C.seq (C.seq (reg6_2 L (n + 22) (by omega) (b0.keep0 k1) (hs.keep0 k02) (hr.keep0 k02) (by simp only [seval, EV]) (by simp only [seval, EV]) (by simp only [seval, EV]) fun d h3 hsl k2 => ?_)))
 have k03 := k02.then k2
 by_cases g : skipB d r more = true
 · rw [g]
   refine C.ct (C.seq fun K hK => ?_)
   simp only [seval, EV, r6_3]
   exact hK _ _ _ (C.ret ⟨.inr rfl, done _ _ (by simp only [seval, EV])⟩)
 have g' : skipB d r more = false := by simpa using g
 rw [g']
 unfold skipB at g'
 simp only [Bool.or_eq_false_iff, decide_eq_false_iff_not] at g'
 obtain ⟨hd, g1, g2⟩ := g'
 have sl := hsl hd
 refine C.cf <| C.skip (C.seq fun K hK => ?_)
 obtain ⟨k, hkk⟩ : ∃ k : Nat, r.c.kind = (k : Int) := ⟨r.c.kind.toNat, by have := hok.kind; omega⟩
 have k13 := k1.then k2
 have b3 := b0.keep0 k13
 have n3 := k03.next
 have gw := write_law L (n + 14) (by omega) hkk ⟨hok.c, sl, by omega, hok.ones⟩ (hs.keep0 k03) (ev.keep0 k03).hP
 simp only [seval, EV, r6_4, lag13 b3]
 refine gw _ fun x h4 hv => ?_
 obtain ⟨⟨w, rfl, hw⟩, k4⟩ := hv
 simp only [EV, tup2]
 have k04 := k03.then k4
 refine hK _ _ _ (C.seq (C.seq fun K hK => ?_))
 by_cases ge : (outT r k).2 = 0
 rotate_left
 · have hnil := out_err ge
   have hl := hw.len
   rw [hnil] at hl
   simp only [seval, EV, r6_5, dF ge]
   refine hK _ _ _ (C.ct (C.seq fun K hK => ?_))
   have hl0 : lenSl w = some (.int .i64 0) := hl
   simp only [seval, EV, r6_6, hl0]
   exact hK _ _ _ (C.ret ⟨.inr rfl, done _ _ (by simp only [seval, EV])⟩)
 obtain ⟨b1, b2, b3l⟩ := back_plain hkk hok.c ge more
 generalize outT r k = O at *
 simp only [seval, EV, r6_5, dT ge]
 refine hK _ _ _ (C.cf <| C.skip (C.seq fun K hK => ?_))
 simp only [seval, EV, r6_7, hw.len]
 refine hK _ _ _ (C.seq fun K hK => ?_)
 simp only [r6_8]
 refine hK _ _ _ (C.seq fun K hK => ?_)
 obtain ⟨w5, h5, e5, m5, k5, o5⟩ := append_own (e := 5) (h := h4) (v := .slice none 0 0) (x := w) (l := []) (m := O.1) .nil hw.src (by simp; omega)
 rw [List.nil_append] at m5
 have k5' : Keep nobody h4 h5 := k5.mono fun b _ hb => by simp at hb
 simp only [seval, EV, r6_9, e5]
 refine hK _ _ _ (C.seq fun K hK => ?_)
 have k05 := k04.then k5'
 obtain ⟨w6, h6, e6, m6, k6, o6⟩ := append_own (e := 5) m5 (hr.keep0 k05).reads.src (by omega)
 have o5' : ∀ c, blk w5 c → h4.next ≤ c := fun c hc => (o5 c hc).elim (fun h => by simp at h) id
 have n4 := k04.next
 have n35 := (k4.then k5').next
 have k6' : Keep nobody h4 h6 := k5'.trans k6 fun c hc hv => by have := o5' c hv; omega
 have k46 := k4.then k6'
 have k06 : Keep nobody h0 h6 := k03.then k46
 simp only [seval, EV, r6_10, e6]
 refine hK _ _ _ (C.seq fun K hK => ?_)
 have rw6 := rd_of_mine m6 (by rw [List.length_append]; omega)
 have n6 := k06.next
 have g10 := law10 L (n + 9) (by omega) (ev.keep0 k06) (by omega) (hM.keep0 k06) rw6 (by rw [List.length_append]; omega)
 have hE : nextE (O.1 ++ more) = (rqR r, O.1.length, 0) := by
   unfold nextE
   rw [if_neg (by rw [List.length_append]; omega), b2]
 simp only [seval, ↓EW, EV, r6_11]
 refine g10 _ fun x h7' hv => ?_
 obtain ⟨k7, kv7, rfl, s7, _⟩ := hv
 rw [hE] at s7 ⊢
 simp only [EV, t3, new13, own13 (strs_ones s7)]
 have k8 := keep_alloc h7' (.rw (RQ.zero.cells nilV) (some 28)) (.rw ((rqR r).cells kv7) (some 28))
 have b8 := has_alloc h7' (.rw (RQ.zero.cells nilV) (some 28)) (.rw ((rqR r).cells kv7) (some 28))
 have s8 := s7.keep0 k8
 generalize (h7'.new (.rw (RQ.zero.cells nilV) (some 28))).put h7'.next (.rw ((rqR r).cells kv7) (some 28)) = h8 at *
 have k38 := k46.then (k7.then k8)
 have b3' := b3.keep0 k38
 rw [rqR_cells b1] at b3'
 refine hK _ _ _ (C.seq (reg6_12 L (n + 21) (by omega) (q := rqR r) (k := O.1.length) b8 b3' s8 ((hs.keep0 k03).keep0 k38) (by have := sl.many; show r.c.keys.length ≤ 1000; omega) (by simp only [seval, EV]) (by simp only [seval, EV]) (by simp only [seval, EV]) (by simp only [seval, EV]) (by simp only [seval, EV]) fun hx kx => C.ret ⟨.inr rfl, done _ _ (by simp only [seval, EV])⟩))
end Go.Proofs.YtilpiiafjehbnaaGreatDoor
set_option maxRecDepth 100000
namespace Go.Proofs.YtilpiiafjehbnaaGreatDoor
open Go.Ev Go.RowKit
section
variable {H : Type} {enc : TypeId × Value → H}
theorem textBack_walk {W : World} {m : Int} {a : Addr} (z : GlobZ W m a) {n1 n2 : Nat} {v1 v2 : Value} {x1 x2 : DataW H × List MemPlace} (hok1 : Value.okWide Tryz.prog W .any 0 28 v1) (h1 : DataW.trod enc Tryz.prog W 0 (fun _ => true) true n1 28 v1.cells.toList = some x1)
   (hok2 : Value.okWide Tryz.prog W .any 0 34 v2) (h2 : DataW.trod enc Tryz.prog W 0 (fun _ => true) true n2 34 v2.cells.toList = some x2) :
   Calls Tryz.prog 6 #[v1, v2] W fun e W' => e = .returned (.bool true) ∧ Below W.heap.size W W' := by
 obtain ⟨o1, p1, q1⟩ := request_at hok1 h1
 obtain ⟨o2, p2, q2⟩ := bytes_at hok2 h2
 have r := glZ_rel z [o1, o2] fun p' hp => by
   simp only [List.mem_cons, List.not_mem_nil, or_false] at hp
   rcases hp with hp | hp
   · exact p1 p' hp.symm
   · exact p2 p' hp.symm
 obtain ⟨ev, h7, g0⟩ := glZ_env m a [o1, o2]
 obtain ⟨w, hok, hs, va⟩ := q1 9 (rosσ (glZ m a ++ [o1, o2])) (rosH (glZ m a ++ [o1, o2])) fun p hp => ros_has (by rw [hp]; rfl)
 obtain ⟨v', l, hr, vb⟩ := q2 10 (rosσ (glZ m a ++ [o1, o2])) (rosH (glZ m a ++ [o1, o2])) fun p hp => ros_has (by rw [hp]; rfl)
 exact calls_of_sp gor Tryz.checked.mixed xok Tryz.func6 (by kernel_rfl) (back_law 20000 0 (by decide) ev h7 g0 hok hs hr) r (glZ_glob m a [o1, o2]) (.cons va (.cons vb (.nil _))) ros_ro
end
end Go.Proofs.YtilpiiafjehbnaaGreatDoor
