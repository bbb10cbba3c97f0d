import Derived.Test.YtilpiiafjehbnaaGreatDoorZcM
set_option linter.unusedSimpArgs false
set_option linter.unusedVariables false
namespace Go.Proofs.YtilpiiafjehbnaaGreatDoor
open Go.Ev
def kindW (w : List UInt8) : Nat × Int :=
 if w = [103, 101, 116] then (1, -1) else
 if w = [115, 101, 116] then (2, 4) else
 if w = [97, 100, 100] then (3, 4) else
 if w = [114, 101, 112, 108, 97, 99, 101] then (4, 4) else
 if w = [99, 97, 115] then (5, 5) else
 if w = [105, 110, 99, 114] then (6, 2) else
 if w = [100, 101, 99, 114] then (7, 2) else
 if w = [97, 112, 112, 101, 110, 100] then (8, 2) else
 if w = [116, 111, 117, 99, 104] then (9, 2) else
 if w = [100, 101, 108, 101, 116, 101] then (10, -1) else
 if w = [102, 108, 117, 115, 104] then (11, 0) else
 (0, 0)
theorem law52 (L n : Nat) (w : List UInt8) (h : H) : Sp (CF L (n + 1)) 52 [sv w] h fun r h' => r = .tuple #[.int .u8 ((kindW w).1 : Int), .int .i64 (kindW w).2] ∧ h' = h := by
 refine Sp.body f52 (by simp) ?_
 unfold c52
 refine C.seq fun K hK => ?_
 simp only [EV, r52_0]
 refine hK _ _ _ (C.seq (C.seq fun K hK => ?_))
 simp only [seval, EV, r52_1]
 refine hK _ _ _ (C.block ?_)
 generalize hk : kindW w = kw
 unfold kindW at hk
 have q : ∀ c, binV Tryz.prog .eql 9 c (sv w) (.string (strB [103, 101, 116])) = some (.bool (decide (w = [103, 101, 116]))) := fun c => sv_eql 9 c w [103, 101, 116]
 refine C.seq fun K hK => ?_
 by_cases g : w = [103, 101, 116]
 · rw [if_pos g] at hk
   simp only [seval, EV, r52_2, q, dT g]
   refine hK _ _ _ (C.ct (C.seq fun K hK => ?_))
   simp only [r52_3]
   exact hK _ _ _ (C.ret ⟨.inr rfl, [.int .u8 1, .int .i64 (-1)], by simp only [seval, EV, q52], by rw [← hk]; rfl, rfl⟩)
 rw [if_neg g] at hk
 simp only [seval, EV, r52_2, q, dF g]
 refine hK _ _ _ (C.cf <| ?_)
 clear q hK
 have q : ∀ c, binV Tryz.prog .eql 9 c (sv w) (.string (strB [115, 101, 116])) = some (.bool (decide (w = [115, 101, 116]))) := fun c => sv_eql 9 c w [115, 101, 116]
 refine C.seq fun K hK => ?_
 by_cases g : w = [115, 101, 116]
 · rw [if_pos g] at hk
   simp only [seval, EV, r52_4, q, dT g]
   refine hK _ _ _ (C.ct (C.seq fun K hK => ?_))
   simp only [r52_5]
   exact hK _ _ _ (C.ret ⟨.inr rfl, [.int .u8 2, .int .i64 (4)], by simp only [seval, EV, q52], by rw [← hk]; rfl, rfl⟩)
 rw [if_neg g] at hk
 simp only [seval, EV, r52_4, q, dF g]
 refine hK _ _ _ (C.cf <| ?_)
 clear q hK
 have q : ∀ c, binV Tryz.prog .eql 9 c (sv w) (.string (strB [97, 100, 100])) = some (.bool (decide (w = [97, 100, 100]))) := fun c => sv_eql 9 c w [97, 100, 100]
 refine C.seq fun K hK => ?_
 by_cases g : w = [97, 100, 100]
 · rw [if_pos g] at hk
   simp only [seval, EV, r52_6, q, dT g]
   refine hK _ _ _ (C.ct (C.seq fun K hK => ?_))
   simp only [r52_7]
   exact hK _ _ _ (C.ret ⟨.inr rfl, [.int .u8 3, .int .i64 (4)], by simp only [seval, EV, q52], by rw [← hk]; rfl, rfl⟩)
 rw [if_neg g] at hk
 simp only [seval, EV, r52_6, q, dF g]
 refine hK _ _ _ (C.cf <| ?_)
 clear q hK
 have q : ∀ c, binV Tryz.prog .eql 9 c (sv w) (.string (strB [114, 101, 112, 108, 97, 99, 101])) = some (.bool (decide (w = [114, 101, 112, 108, 97, 99, 101]))) := fun c => sv_eql 9 c w [114, 101, 112, 108, 97, 99, 101]
 refine C.seq fun K hK => ?_
 by_cases g : w = [114, 101, 112, 108, 97, 99, 101]
 · rw [if_pos g] at hk
   simp only [seval, EV, r52_8, q, dT g]
   refine hK _ _ _ (C.ct (C.seq fun K hK => ?_))
   simp only [r52_9]
   exact hK _ _ _ (C.ret ⟨.inr rfl, [.int .u8 4, .int .i64 (4)], by simp only [seval, EV, q52], by rw [← hk]; rfl, rfl⟩)
 rw [if_neg g] at hk
 simp only [seval, EV, r52_8, q, dF g]
 refine hK _ _ _ (C.cf <| ?_)
 clear q hK
 have q : ∀ c, binV Tryz.prog .eql 9 c (sv w) (.string (strB [99, 97, 115])) = some (.bool (decide (w = [99, 97, 115]))) := fun c => sv_eql 9 c w [99, 97, 115]
 refine C.seq fun K hK => ?_
 by_cases g : w = [99, 97, 115]
 · rw [if_pos g] at hk
   simp only [seval, EV, r52_10, q, dT g]
   refine hK _ _ _ (C.ct (C.seq fun K hK => ?_))
   simp only [r52_11]
   exact hK _ _ _ (C.ret ⟨.inr rfl, [.int .u8 5, .int .i64 (5)], by simp only [seval, EV, q52], by rw [← hk]; rfl, rfl⟩)
 rw [if_neg g] at hk
 simp only [seval, EV, r52_10, q, dF g]
 refine hK _ _ _ (C.cf <| ?_)
 clear q hK
 have q : ∀ c, binV Tryz.prog .eql 9 c (sv w) (.string (strB [105, 110, 99, 114])) = some (.bool (decide (w = [105, 110, 99, 114]))) := fun c => sv_eql 9 c w [105, 110, 99, 114]
 refine C.seq fun K hK => ?_
 by_cases g : w = [105, 110, 99, 114]
 · rw [if_pos g] at hk
   simp only [seval, EV, r52_12, q, dT g]
   refine hK _ _ _ (C.ct (C.seq fun K hK => ?_))
   simp only [r52_13]
   exact hK _ _ _ (C.ret ⟨.inr rfl, [.int .u8 6, .int .i64 (2)], by simp only [seval, EV, q52], by rw [← hk]; rfl, rfl⟩)
 rw [if_neg g] at hk
 simp only [seval, EV, r52_12, q, dF g]
 refine hK _ _ _ (C.cf <| ?_)
 clear q hK
 have q : ∀ c, binV Tryz.prog .eql 9 c (sv w) (.string (strB [100, 101, 99, 114])) = some (.bool (decide (w = [100, 101, 99, 114]))) := fun c => sv_eql 9 c w [100, 101, 99, 114]
 refine C.seq fun K hK => ?_
 by_cases g : w = [100, 101, 99, 114]
 · rw [if_pos g] at hk
   simp only [seval, EV, r52_14, q, dT g]
   refine hK _ _ _ (C.ct (C.seq fun K hK => ?_))
   simp only [r52_15]
   exact hK _ _ _ (C.ret ⟨.inr rfl, [.int .u8 7, .int .i64 (2)], by simp only [seval, EV, q52], by rw [← hk]; rfl, rfl⟩)
 rw [if_neg g] at hk
 simp only [seval, EV, r52_14, q, dF g]
 refine hK _ _ _ (C.cf <| ?_)
 clear q hK
 have q : ∀ c, binV Tryz.prog .eql 9 c (sv w) (.string (strB [97, 112, 112, 101, 110, 100])) = some (.bool (decide (w = [97, 112, 112, 101, 110, 100]))) := fun c => sv_eql 9 c w [97, 112, 112, 101, 110, 100]
 refine C.seq fun K hK => ?_
 by_cases g : w = [97, 112, 112, 101, 110, 100]
 · rw [if_pos g] at hk
   simp only [seval, EV, r52_16, q, dT g]
   refine hK _ _ _ (C.ct (C.seq fun K hK => ?_))
   simp only [r52_17]
   exact hK _ _ _ (C.ret ⟨.inr rfl, [.int .u8 8, .int .i64 (2)], by simp only [seval, EV, q52], by rw [← hk]; rfl, rfl⟩)
 rw [if_neg g] at hk
 simp only [seval, EV, r52_16, q, dF g]
 refine hK _ _ _ (C.cf <| ?_)
 clear q hK
 have q : ∀ c, binV Tryz.prog .eql 9 c (sv w) (.string (strB [116, 111, 117, 99, 104])) = some (.bool (decide (w = [116, 111, 117, 99, 104]))) := fun c => sv_eql 9 c w [116, 111, 117, 99, 104]
 refine C.seq fun K hK => ?_
 by_cases g : w = [116, 111, 117, 99, 104]
 · rw [if_pos g] at hk
   simp only [seval, EV, r52_18, q, dT g]
   refine hK _ _ _ (C.ct (C.seq fun K hK => ?_))
   simp only [r52_19]
   exact hK _ _ _ (C.ret ⟨.inr rfl, [.int .u8 9, .int .i64 (2)], by simp only [seval, EV, q52], by rw [← hk]; rfl, rfl⟩)
 rw [if_neg g] at hk
 simp only [seval, EV, r52_18, q, dF g]
 refine hK _ _ _ (C.cf <| ?_)
 clear q hK
 have q : ∀ c, binV Tryz.prog .eql 9 c (sv w) (.string (strB [100, 101, 108, 101, 116, 101])) = some (.bool (decide (w = [100, 101, 108, 101, 116, 101]))) := fun c => sv_eql 9 c w [100, 101, 108, 101, 116, 101]
 refine C.seq fun K hK => ?_
 by_cases g : w = [100, 101, 108, 101, 116, 101]
 · rw [if_pos g] at hk
   simp only [seval, EV, r52_20, q, dT g]
   refine hK _ _ _ (C.ct (C.seq fun K hK => ?_))
   simp only [r52_21]
   exact hK _ _ _ (C.ret ⟨.inr rfl, [.int .u8 10, .int .i64 (-1)], by simp only [seval, EV, q52], by rw [← hk]; rfl, rfl⟩)
 rw [if_neg g] at hk
 simp only [seval, EV, r52_20, q, dF g]
 refine hK _ _ _ (C.cf <| ?_)
 clear q hK
 have q : ∀ c, binV Tryz.prog .eql 9 c (sv w) (.string (strB [102, 108, 117, 115, 104])) = some (.bool (decide (w = [102, 108, 117, 115, 104]))) := fun c => sv_eql 9 c w [102, 108, 117, 115, 104]
 refine C.seq fun K hK => ?_
 by_cases g : w = [102, 108, 117, 115, 104]
 · rw [if_pos g] at hk
   simp only [seval, EV, r52_22, q, dT g]
   refine hK _ _ _ (C.ct (C.seq fun K hK => ?_))
   simp only [r52_23]
   exact hK _ _ _ (C.ret ⟨.inr rfl, [.int .u8 11, .int .i64 (0)], by simp only [seval, EV, q52], by rw [← hk]; rfl, rfl⟩)
 rw [if_neg g] at hk
 simp only [seval, EV, r52_22, q, dF g]
 refine hK _ _ _ (C.cf <| ?_)
 clear q hK
 refine C.skip (C.seq fun K hK => ?_)
 simp only [r52_24]
 exact hK _ _ _ (C.ret ⟨.inr rfl, [.int .u8 0, .int .i64 0], by simp only [seval, EV, q52], by rw [← hk]; rfl, rfl⟩)
def nu (w : List UInt8) : Int := ((numN w).getD 0 : Nat)
def wd (l : List (List UInt8)) (i : Nat) : List UInt8 := l.getD i []
def k25 (k : Nat) : Bool := decide (2 ≤ (k : Int)) && decide ((k : Int) ≤ 5)
def k67 (k : Nat) : Bool := decide ((k : Int) = 6) || decide ((k : Int) = 7)
def keysD (k : Nat) (l : List (List UInt8)) : List (List UInt8) := if k = 1 ∨ k = 10 then l else if k = 11 then [] else [wd l 0]
def flD (k : Nat) (l : List (List UInt8)) : Int := if k25 k = true then IntKind.u32.wrap (nu (wd l 1)) else 0
def foD (k : Nat) (l : List (List UInt8)) : Int := if k = 9 then IntKind.i64.wrap (nu (wd l 1)) else if k25 k = true then IntKind.i64.wrap (nu (wd l 2)) else 0
def unD (k : Nat) (l : List (List UInt8)) : Int := if k = 5 then nu (wd l 4) else 0
def byD (k : Nat) (l : List (List UInt8)) : Int := if k67 k = true then nu (wd l 1) else 0
def nD (k : Nat) (l : List (List UInt8)) : Int := if k = 8 then nu (wd l 1) else if k25 k = true then nu (wd l 3) else 0
def hasD (k : Nat) : Bool := k25 k || decide (k = 8)
def okD (k : Nat) (l : List (List UInt8)) : Bool :=
 if k = 9 then upN (wd l 1) 1099511627776 else if k = 8 then upN (wd l 1) 512 else if k67 k = true then upN (wd l 1) 18446744073709551615
 else if k = 5 then (upN (wd l 1) 4294967295 && upN (wd l 2) 1099511627776 && upN (wd l 3) 512) && upN (wd l 4) 18446744073709551615
 else if k25 k = true then upN (wd l 1) 4294967295 && upN (wd l 2) 1099511627776 && upN (wd l 3) 512 else true
def dC (k : Nat) (l : List (List UInt8)) (kv : Value) : Cmd := ⟨k, 0, kv, strB [], flD k l, foD k l, unD k l, byD k l, keysD k l⟩
def dN (k : Nat) (l : List (List UInt8)) : Int := if hasD k = true then IntKind.i64.wrap (nD k l) else -1
def dOK (k : Nat) (l : List (List UInt8)) : Bool := (keysD k l).all (okW 32) && (okD k l && mayB (dC k l nilV) k)
def zC : List Value := [.int .u8 0, .int .i64 0, .slice none 0 0, .string (strB []), .int .u32 0, .int .i64 0, .int .u64 0, .int .u64 0]
structure SD (h0 : H) (lv : Value) (k Z D : Nat) (c : Cmd) (tm : T Value) (h : H) : Prop where
 t0 : tg tm 0 = .int .u8 (k : Int)
 t1 : tg tm 1 = lv
 t4 : tg tm 4 = .pointer (some ⟨Z, 0, none⟩)
 t7 : tg tm 7 = .pointer (some ⟨D, 0, none⟩)
 bz : Has h Z (.rw zC (some 26))
 bd : Has h D (.rw c.cells (some 26))
 hk : Strs h c.kv c.keys
 own : ∀ b, blk c.kv b → D < b
 lt : h0.next ≤ Z ∧ Z < D
 keep : Keep nobody h0 h
theorem SD.to {h0 h h' : H} {lv : Value} {k Z D : Nat} {c : Cmd} {tm tm' : T Value} (a : SD h0 lv k Z D c tm h) (kp : Keep nobody h h') (e0 : tg tm' 0 = tg tm 0) (e1 : tg tm' 1 = tg tm 1) (e4 : tg tm' 4 = tg tm 4) (e7 : tg tm' 7 = tg tm 7) : SD h0 lv k Z D c tm' h' :=
 ⟨e0.trans a.t0, e1.trans a.t1, e4.trans a.t4, e7.trans a.t7, a.bz.keep0 kp, a.bd.keep0 kp, a.hk.keep0 kp, a.own, a.lt, a.keep.then kp⟩
theorem SD.put {h0 h : H} {lv : Value} {k Z D : Nat} {c c' : Cmd} {tm : T Value} (a : SD h0 lv k Z D c tm h) {o : Nat} {v : Value} (hv : v.cells = #[v]) (h1 : ones [v] = true) (hp : putAt c.cells o [v] = some c'.cells) (ek : c'.kv = c.kv) (es : c'.keys = c.keys) :
   ∃ h', (∀ sp, storeV 1 h (.pointer (some ⟨D, o, sp⟩)) v = some h') ∧ SD h0 lv k Z D c' tm h' := by
 have lt := a.lt
 refine ⟨h.put D (.rw c'.cells (some 26)), fun sp => store_one a.bd hv h1 hp, a.t0, a.t1, a.t4, a.t7, a.bz.keep (Keep.put h D _) (by omega), Has.put a.bd.1, ?_, ?_, a.lt, put_old a.keep (by omega)⟩
 · rw [ek, es]; exact a.hk.keep (Keep.put h D _) fun b hb e => by have := a.own b hb; omega
 · rw [ek]; exact a.own
def CmdQ (k : Nat) (l : List (List UInt8)) (h0 : H) (r : Value) (h' : H) : Prop := Keep nobody h0 h' ∧ ∃ c m, r = .tuple #[c.v, .int .i64 m, .bool (dOK k l)] ∧ (c.ten = 0 ∧ c.val = strB []) ∧ Strs h' c.kv c.keys ∧ (∀ b, blk c.kv b → h0.next ≤ b) ∧ (dOK k l = true → c = dC k l c.kv ∧ m = dN k l)
theorem onesC {h : H} {c : Cmd} (a : Strs h c.kv c.keys) : ones c.cells = true := by
 unfold Cmd.cells
 show ones (c.kv :: _) = true
 rw [strs_ones a]
 rfl
theorem SD.fin {h0 h : H} {lv : Value} {k Z D : Nat} {c : Cmd} {tm : T Value} (a : SD h0 lv k Z D c tm h) : loadAgg 8 h (.pointer (some ⟨D, 0, none⟩)) = some c.v ∧ storeV 8 h (.pointer (some ⟨Z, 0, none⟩)) c.v = some (h.put Z (.rw c.cells (some 26))) := ⟨loadAgg_has (o := 0) (n := 8) (cs := c.cells) a.bd rfl (by show 0 + 8 ≤ 8; omega), store_has a.bz rfl rfl (onesC a.hk)⟩
theorem SD.ret {h0 h : H} {lv : Value} {k Z D : Nat} {c : Cmd} {tm tm' : T Value} {l : List (List UInt8)} {m : Int} (a : SD h0 lv k Z D c tm h) (t4 : tg tm' 4 = .pointer (some ⟨Z, 0, none⟩)) (t5 : tg tm' 5 = .int .i64 m) (t6 : tg tm' 6 = .bool (dOK k l)) (hz : c.ten = 0 ∧ c.val = strB []) (he : dOK k l = true → c = dC k l c.kv ∧ m = dN k l) :
   ∃ r, q53.f tm' (h.put Z (.rw c.cells (some 26))) = some r ∧ CmdQ k l h0 (resOf r) (h.put Z (.rw c.cells (some 26))) := by
 have lt := a.lt
 have la : loadAgg 8 (h.put Z (.rw c.cells (some 26))) (.pointer (some ⟨Z, 0, none⟩)) = some c.v := loadAgg_has (o := 0) (n := 8) (cs := c.cells) (Has.put a.bz.1) rfl (by show 0 + 8 ≤ 8; omega)
 refine ⟨[c.v, .int .i64 m, .bool (dOK k l)], by simp only [q53, t4, t5, t6, la], put_old a.keep lt.1, c, m, rfl, hz, a.hk.keep (Keep.put h Z _) fun b hb e => by have := a.own b hb; omega, fun b hb => by have := a.own b hb; omega, he⟩
structure SX (h0 : H) (lv : Value) (k Z D : Nat) (c : Cmd) (ok : Bool) (nn : Int) (hs : Bool) (tm : T Value) (h : H) : Prop where
 a : SD h0 lv k Z D c tm h
 t9 : tg tm 9 = .bool ok
 t10 : tg tm 10 = .int .u64 nn
 t11 : tg tm 11 = .bool hs
theorem wd_at {l : List (List UInt8)} {i : Nat} (h : i < l.length) : l[i]? = some (wd l i) := by
 unfold wd
 rw [List.getD_eq_getElem?_getD, List.getElem?_eq_getElem h]; rfl
theorem num54 (L n : Nat) (hL : 2000 ≤ L) (w : List UInt8) (m : Nat) (h : H) : Sp (CF L (n + 2)) 54 [sv w, .int .u64 (m : Int)] h fun r h' => r = .tuple #[.int .u64 (nu w), .bool (upN w m)] ∧ h' = h := num64_law L n (by omega)
theorem gt (b : Bool) (one : OpK → Bool) (ds : Defs) (h : H) (rest : OpK) : gd true one ds h rest = one rest := rfl
section
variable {h0 h : H} {lv : Value} {k Z D : Nat} {c : Cmd} {ok : Bool} {nn : Int} {hs : Bool} {tm : T Value} {l : List (List UInt8)}
theorem wload (hs0 : Strs h0 lv l) {i : Nat} (hi : i < l.length) : ∃ b o, indexSl 1 lv (.int .i64 (i : Int)) = some (.pointer (some ⟨b, o, none⟩)) ∧ ∀ h', Keep nobody h0 h' → ∀ s, loadOne h' (.pointer (some ⟨b, o, s⟩)) = some (sv (wd l i)) := by
 obtain ⟨b, o, e1, e2⟩ := hs0.load (wd_at hi)
 exact ⟨b, o, e1, fun h' k s => e2 h' (hs0.keep0 k) s⟩
theorem sA (L n : Nat) (hL : 2000 ≤ L) (x : SX h0 lv k Z D c ok nn hs tm h) (hs0 : Strs h0 lv l) (hl : k25 k = true → 4 ≤ l.length) :
   C ⟨seqC ⟨r53_14⟩ ⟨condC (tC 65) ⟨seqC ⟨r53_15⟩ ⟨seqC ⟨r53_16⟩ ⟨seqC ⟨r53_17⟩ ⟨seqC ⟨r53_18⟩ ⟨seqC ⟨r53_19⟩ ⟨seqC ⟨r53_20⟩ ⟨seqC ⟨r53_21⟩ ⟨r53_22⟩⟩⟩⟩⟩⟩⟩⟩ skipC⟩⟩ (CF L (n + 2)) L tm h
     fun e tm' h' => e = .norm ∧ SX h0 lv k Z D (if k25 k = true then { c with flags := IntKind.u32.wrap (nu (wd l 1)), fo := IntKind.i64.wrap (nu (wd l 2)) } else c) (if k25 k = true then upN (wd l 1) 4294967295 && upN (wd l 2) 1099511627776 && upN (wd l 3) 512 else ok) (if k25 k = true then nu (wd l 3) else nn) (k25 k || hs) tm' h' := by
 obtain ⟨a, t9, t10, t11⟩ := x
 have c65 : C ⟨r53_14⟩ (CF L (n + 2)) L tm h fun e tm' h' => e = .norm ∧ h' = h ∧ tm' = T.set tm 65 (.bool (k25 k)) := fun K hK => by
   unfold k25 at hK
   rw [box_f]
   by_cases g1 : 2 ≤ (k : Int)
   · by_cases g2 : (k : Int) ≤ 5
     · simp only [↓EW, EV, r53_14, a.t0, dT g1, dT g2]
       exact hK _ _ _ ⟨rfl, rfl, by rw [dT g1, dT g2]; rfl⟩
     · simp only [↓EW, EV, r53_14, a.t0, dT g1, dF g2]
       exact hK _ _ _ ⟨rfl, rfl, by rw [dT g1, dF g2]; rfl⟩
   · simp only [EV, r53_14, a.t0, dF g1]
     exact hK _ _ _ ⟨rfl, rfl, by rw [dF g1]; rfl⟩
 refine C.seq (c65.mono ?_)
 rintro e tm1 h1 ⟨rfl, rfl, rfl⟩
 cases hk : k25 k with
 | false =>
   refine C.cf <| C.skip ⟨rfl, a.to (.refl _ _) (by simp only [seval, EV]) (by simp only [seval, EV]) (by simp only [seval, EV]) (by simp only [seval, EV]), by simp only [seval, EV, t9], by simp only [seval, EV, t10], by simp only [seval, EV, t11, Bool.false_or]⟩
 | true =>
   have hl := hl hk
   refine C.ct (C.seq fun K hK => ?_)
   obtain ⟨b1, o1, e1, l1⟩ := wload hs0 (i := 1) (by omega)
   obtain ⟨b2, o2, e2, l2⟩ := wload hs0 (i := 2) (by omega)
   obtain ⟨b3, o3, e3, l3⟩ := wload hs0 (i := 3) (by omega)
   have e1' : indexSl 1 lv (.int .i64 1) = some (.pointer (some ⟨b1, o1, none⟩)) := e1
   have e2' : indexSl 1 lv (.int .i64 2) = some (.pointer (some ⟨b2, o2, none⟩)) := e2
   have e3' : indexSl 1 lv (.int .i64 3) = some (.pointer (some ⟨b3, o3, none⟩)) := e3
   have l1 := l1 h1 a.keep
   have l2 := l2 h1 a.keep
   have l3 := l3 h1 a.keep
   have n1 : Sp (CF L (n + 2)) 54 [sv (wd l 1), .int .u64 4294967295] h1 fun r h' => r = .tuple #[.int .u64 (nu (wd l 1)), .bool (upN (wd l 1) 4294967295)] ∧ h' = h1 := num54 L n hL (wd l 1) 4294967295 h1
   have n2 : Sp (CF L (n + 2)) 54 [sv (wd l 2), .int .u64 1099511627776] h1 fun r h' => r = .tuple #[.int .u64 (nu (wd l 2)), .bool (upN (wd l 2) 1099511627776)] ∧ h' = h1 := num54 L n hL (wd l 2) 1099511627776 h1
   have n3 : Sp (CF L (n + 2)) 54 [sv (wd l 3), .int .u64 512] h1 fun r h' => r = .tuple #[.int .u64 (nu (wd l 3)), .bool (upN (wd l 3) 512)] ∧ h' = h1 := num54 L n hL (wd l 3) 512 h1
   simp only [seval, EV, r53_15, a.t1, e1', l1]
   refine n1 _ fun r h2 hq => ?_
   obtain ⟨rfl, rfl⟩ := hq
   simp only [EV, tup2]
   refine hK _ _ _ (C.seq fun K hK => ?_)
   simp only [seval, EV, r53_16, a.t1, e2', l2]
   refine n2 _ fun r h2 hq => ?_
   obtain ⟨rfl, rfl⟩ := hq
   simp only [EV, tup2]
   refine hK _ _ _ (C.seq fun K hK => ?_)
   simp only [seval, EV, r53_17, a.t1, e3', l3]
   refine n3 _ fun r h2 hq => ?_
   obtain ⟨rfl, rfl⟩ := hq
   simp only [EV, tup2]
   refine hK _ _ _ (C.seq fun K hK => ?_)
   obtain ⟨h3, st3, a3⟩ := a.put (c' := { c with flags := IntKind.u32.wrap (nu (wd l 1)) }) (o := 4) (v := .int .u32 (IntKind.u32.wrap (nu (wd l 1)))) rfl rfl rfl rfl rfl
   simp only [seval, EV, r53_18, toInt_int, a.t7, st3]
   refine hK _ _ _ (C.seq fun K hK => ?_)
   obtain ⟨h4, st4, a4⟩ := a3.put (c' := { c with flags := IntKind.u32.wrap (nu (wd l 1)), fo := IntKind.i64.wrap (nu (wd l 2)) }) (o := 5) (v := .int .i64 (IntKind.i64.wrap (nu (wd l 2)))) rfl rfl rfl rfl rfl
   simp only [seval, EV, r53_19, toInt_int, a.t7, st4]
   refine hK _ _ _ (C.seq fun K hK => ?_)
   simp only [seval, EV, r53_20]
   refine hK _ _ _ (C.seq fun K hK => ?_)
   simp only [r53_21]
   refine hK _ _ _ fun K hK => ?_
   rw [box_f]
   rw [if_pos rfl, if_pos rfl, if_pos rfl] at hK
   cases u1 : upN (wd l 1) 4294967295 with
   | false =>
     rw [u1] at hK
     simp only [seval, EV, r53_22]
     exact hK _ _ _ ⟨rfl, a4.to (.refl _ _) (by simp only [seval, EV]) (by simp only [seval, EV]) (by simp only [seval, EV]) (by simp only [seval, EV]), by simp only [seval, EV, Bool.false_and], by simp only [seval, EV], by simp only [seval, EV, Bool.true_or]⟩
   | true =>
     rw [u1] at hK
     cases u2 : upN (wd l 2) 1099511627776 with
     | false =>
       rw [u2] at hK
       simp only [seval, ↓EW, EV, r53_22]
       exact hK _ _ _ ⟨rfl, a4.to (.refl _ _) (by simp only [seval, EV]) (by simp only [seval, EV]) (by simp only [seval, EV]) (by simp only [seval, EV]), by simp only [seval, EV, Bool.false_and, Bool.and_false], by simp only [seval, EV], by simp only [seval, EV, Bool.true_or]⟩
     | true =>
       rw [u2] at hK
       simp only [seval, ↓EW, EV, r53_22]
       exact hK _ _ _ ⟨rfl, a4.to (.refl _ _) (by simp only [seval, EV]) (by simp only [seval, EV]) (by simp only [seval, EV]) (by simp only [seval, EV]), by simp only [seval, EV, Bool.true_and, Bool.and_true], by simp only [seval, EV], by simp only [seval, EV, Bool.true_or]⟩
end
section
variable {h0 h : H} {lv : Value} {k Z D : Nat} {c : Cmd} {ok : Bool} {nn : Int} {hs : Bool} {tm : T Value} {l : List (List UInt8)}
theorem sB (L n : Nat) (hL : 2000 ≤ L) (x : SX h0 lv k Z D c ok nn hs tm h) (hs0 : Strs h0 lv l) (hl : k = 5 → 5 ≤ l.length) :
   C ⟨seqC ⟨r53_23⟩ ⟨condC (tC 102) ⟨seqC ⟨r53_24⟩ ⟨seqC ⟨r53_25⟩ ⟨r53_26⟩⟩⟩ skipC⟩⟩ (CF L (n + 2)) L tm h
     fun e tm' h' => e = .norm ∧ SX h0 lv k Z D (if k = 5 then { c with uniq := nu (wd l 4) } else c) (if k = 5 then ok && upN (wd l 4) 18446744073709551615 else ok) nn hs tm' h' := by
 obtain ⟨a, t9, t10, t11⟩ := x
 refine C.seq fun K hK => ?_
 by_cases g : (k : Int) = 5
 · have hk : k = 5 := by omega
   have hl := hl hk
   simp only [EV, r53_23, a.t0, dT g]
   refine hK _ _ _ (C.ct (C.seq fun K hK => ?_))
   obtain ⟨b1, o1, e1, l1⟩ := wload hs0 (i := 4) (by omega)
   have e1' : indexSl 1 lv (.int .i64 4) = some (.pointer (some ⟨b1, o1, none⟩)) := e1
   have l1 := l1 h a.keep
   have n1 : Sp (CF L (n + 2)) 54 [sv (wd l 4), .int .u64 18446744073709551615] h fun r h' => r = .tuple #[.int .u64 (nu (wd l 4)), .bool (upN (wd l 4) 18446744073709551615)] ∧ h' = h := num54 L n hL (wd l 4) 18446744073709551615 h
   simp only [seval, EV, r53_24, a.t1, e1', l1]
   refine n1 _ fun r h2 hq => ?_
   obtain ⟨rfl, rfl⟩ := hq
   simp only [EV, tup2]
   refine hK _ _ _ (C.seq fun K hK => ?_)
   obtain ⟨h3, st3, a3⟩ := a.put (c' := { c with uniq := nu (wd l 4) }) (o := 6) (v := .int .u64 (nu (wd l 4))) rfl rfl rfl rfl rfl
   simp only [seval, EV, r53_25, a.t7, st3]
   refine hK _ _ _ fun K hK => ?_
   rw [box_f]
   rw [if_pos hk, if_pos hk] at hK
   cases ok with
   | false =>
     simp only [seval, EV, r53_26, t9]
     exact hK _ _ _ ⟨rfl, a3.to (.refl _ _) (by simp only [seval, EV]) (by simp only [seval, EV]) (by simp only [seval, EV]) (by simp only [seval, EV]), by simp only [seval, EV, Bool.false_and], by simp only [seval, EV, t10], by simp only [seval, EV, t11]⟩
   | true =>
     simp only [seval, ↓EW, EV, r53_26, t9]
     exact hK _ _ _ ⟨rfl, a3.to (.refl _ _) (by simp only [seval, EV]) (by simp only [seval, EV]) (by simp only [seval, EV]) (by simp only [seval, EV]), by simp only [seval, EV, Bool.true_and], by simp only [seval, EV, t10], by simp only [seval, EV, t11]⟩
 · have hk : ¬ k = 5 := by omega
   rw [if_neg hk, if_neg hk] at hK
   simp only [EV, r53_23, a.t0, dF g]
   exact hK _ _ _ (C.cf <| C.skip ⟨rfl, a.to (.refl _ _) (by simp only [seval, EV]) (by simp only [seval, EV]) (by simp only [seval, EV]) (by simp only [seval, EV]), by simp only [seval, EV, t9], by simp only [seval, EV, t10], by simp only [seval, EV, t11]⟩)
theorem sC (L n : Nat) (hL : 2000 ≤ L) (x : SX h0 lv k Z D c ok nn hs tm h) (hs0 : Strs h0 lv l) (hl : k67 k = true → 2 ≤ l.length) :
   C ⟨seqC ⟨r53_27⟩ ⟨condC (tC 121) ⟨r53_28⟩ skipC⟩⟩ (CF L (n + 2)) L tm h
     fun e tm' h' => e = .norm ∧ SX h0 lv k Z D (if k67 k = true then { c with by' := nu (wd l 1) } else c) (if k67 k = true then upN (wd l 1) 18446744073709551615 else ok) nn hs tm' h' := by
 obtain ⟨a, t9, t10, t11⟩ := x
 have c65 : C ⟨r53_27⟩ (CF L (n + 2)) L tm h fun e tm' h' => e = .norm ∧ h' = h ∧ tm' = T.set tm 121 (.bool (k67 k)) := fun K hK => by
   unfold k67 at hK
   rw [box_f]
   by_cases g1 : (k : Int) = 6
   · simp only [EV, r53_27, a.t0, dT g1]
     exact hK _ _ _ ⟨rfl, rfl, by rw [dT g1]; rfl⟩
   · by_cases g2 : (k : Int) = 7
     · simp only [↓EW, EV, r53_27, a.t0, dF g1, dT g2]
       exact hK _ _ _ ⟨rfl, rfl, by rw [dF g1, dT g2]; rfl⟩
     · simp only [↓EW, EV, r53_27, a.t0, dF g1, dF g2]
       exact hK _ _ _ ⟨rfl, rfl, by rw [dF g1, dF g2]; rfl⟩
 refine C.seq (c65.mono ?_)
 rintro e tm1 h1 ⟨rfl, rfl, rfl⟩
 cases hk : k67 k with
 | false =>
   exact C.cf <| C.skip ⟨rfl, a.to (.refl _ _) (by simp only [seval, EV]) (by simp only [seval, EV]) (by simp only [seval, EV]) (by simp only [seval, EV]), by simp only [seval, EV, t9], by simp only [seval, EV, t10], by simp only [seval, EV, t11]⟩
 | true =>
   have hl := hl hk
   refine C.ct (fun K hK => ?_)
   obtain ⟨b1, o1, e1, l1⟩ := wload hs0 (i := 1) (by omega)
   have e1' : indexSl 1 lv (.int .i64 1) = some (.pointer (some ⟨b1, o1, none⟩)) := e1
   have l1 := l1 h1 a.keep
   have n1 : Sp (CF L (n + 2)) 54 [sv (wd l 1), .int .u64 18446744073709551615] h1 fun r h' => r = .tuple #[.int .u64 (nu (wd l 1)), .bool (upN (wd l 1) 18446744073709551615)] ∧ h' = h1 := num54 L n hL (wd l 1) 18446744073709551615 h1
   rw [box_f]
   simp only [seval, EV, r53_28, a.t1, e1', l1]
   refine n1 _ fun r h2 hq => ?_
   obtain ⟨rfl, rfl⟩ := hq
   obtain ⟨h3, st3, a3⟩ := a.put (c' := { c with by' := nu (wd l 1) }) (o := 7) (v := .int .u64 (nu (wd l 1))) rfl rfl rfl rfl rfl
   simp only [EV, tup2, a.t7, st3]
   rw [if_pos rfl, if_pos rfl] at hK
   exact hK _ _ _ ⟨rfl, a3.to (.refl _ _) (by simp only [seval, EV]) (by simp only [seval, EV]) (by simp only [seval, EV]) (by simp only [seval, EV]), by simp only [seval, EV], by simp only [seval, EV, t10], by simp only [seval, EV, t11]⟩
theorem sD (L n : Nat) (hL : 2000 ≤ L) (x : SX h0 lv k Z D c ok nn hs tm h) (hs0 : Strs h0 lv l) (hl : k = 8 → 2 ≤ l.length) :
   C ⟨seqC ⟨r53_29⟩ ⟨condC (tC 131) ⟨seqC ⟨r53_30⟩ ⟨r53_31⟩⟩ skipC⟩⟩ (CF L (n + 2)) L tm h
     fun e tm' h' => e = .norm ∧ SX h0 lv k Z D c (if k = 8 then upN (wd l 1) 512 else ok) (if k = 8 then nu (wd l 1) else nn) (decide (k = 8) || hs) tm' h' := by
 obtain ⟨a, t9, t10, t11⟩ := x
 refine C.seq fun K hK => ?_
 by_cases g : (k : Int) = 8
 · have hk : k = 8 := by omega
   have hl := hl hk
   simp only [EV, r53_29, a.t0, dT g]
   refine hK _ _ _ (C.ct (C.seq fun K hK => ?_))
   obtain ⟨b1, o1, e1, l1⟩ := wload hs0 (i := 1) (by omega)
   have e1' : indexSl 1 lv (.int .i64 1) = some (.pointer (some ⟨b1, o1, none⟩)) := e1
   have l1 := l1 h a.keep
   have n1 : Sp (CF L (n + 2)) 54 [sv (wd l 1), .int .u64 512] h fun r h' => r = .tuple #[.int .u64 (nu (wd l 1)), .bool (upN (wd l 1) 512)] ∧ h' = h := num54 L n hL (wd l 1) 512 h
   simp only [seval, EV, r53_30, a.t1, e1', l1]
   refine n1 _ fun r h2 hq => ?_
   obtain ⟨rfl, rfl⟩ := hq
   simp only [EV, tup2]
   refine hK _ _ _ fun K hK => ?_
   rw [box_f]
   rw [if_pos hk, if_pos hk, dT hk] at hK
   simp only [r53_31]
   exact hK _ _ _ ⟨rfl, a.to (.refl _ _) (by simp only [seval, EV]) (by simp only [seval, EV]) (by simp only [seval, EV]) (by simp only [seval, EV]), by simp only [seval, EV], by simp only [seval, EV], by simp only [seval, EV, Bool.true_or]⟩
 · have hk : ¬ k = 8 := by omega
   rw [if_neg hk, if_neg hk, dF hk] at hK
   simp only [EV, r53_29, a.t0, dF g]
   exact hK _ _ _ (C.cf <| C.skip ⟨rfl, a.to (.refl _ _) (by simp only [seval, EV]) (by simp only [seval, EV]) (by simp only [seval, EV]) (by simp only [seval, EV]), by simp only [seval, EV, t9], by simp only [seval, EV, t10], by simp only [seval, EV, t11, Bool.false_or]⟩)
theorem sE (L n : Nat) (hL : 2000 ≤ L) (x : SX h0 lv k Z D c ok nn hs tm h) (hs0 : Strs h0 lv l) (hl : k = 9 → 2 ≤ l.length) :
   C ⟨seqC ⟨r53_32⟩ ⟨condC (tC 140) ⟨seqC ⟨r53_33⟩ ⟨seqC ⟨r53_34⟩ ⟨r53_35⟩⟩⟩ skipC⟩⟩ (CF L (n + 2)) L tm h
     fun e tm' h' => e = .norm ∧ SX h0 lv k Z D (if k = 9 then { c with fo := IntKind.i64.wrap (nu (wd l 1)) } else c) (if k = 9 then upN (wd l 1) 1099511627776 else ok) nn hs tm' h' := by
 obtain ⟨a, t9, t10, t11⟩ := x
 refine C.seq fun K hK => ?_
 by_cases g : (k : Int) = 9
 · have hk : k = 9 := by omega
   have hl := hl hk
   simp only [EV, r53_32, a.t0, dT g]
   refine hK _ _ _ (C.ct (C.seq fun K hK => ?_))
   obtain ⟨b1, o1, e1, l1⟩ := wload hs0 (i := 1) (by omega)
   have e1' : indexSl 1 lv (.int .i64 1) = some (.pointer (some ⟨b1, o1, none⟩)) := e1
   have l1 := l1 h a.keep
   have n1 : Sp (CF L (n + 2)) 54 [sv (wd l 1), .int .u64 1099511627776] h fun r h' => r = .tuple #[.int .u64 (nu (wd l 1)), .bool (upN (wd l 1) 1099511627776)] ∧ h' = h := num54 L n hL (wd l 1) 1099511627776 h
   simp only [seval, EV, r53_33, a.t1, e1', l1]
   refine n1 _ fun r h2 hq => ?_
   obtain ⟨rfl, rfl⟩ := hq
   simp only [EV, tup2]
   refine hK _ _ _ (C.seq fun K hK => ?_)
   obtain ⟨h3, st3, a3⟩ := a.put (c' := { c with fo := IntKind.i64.wrap (nu (wd l 1)) }) (o := 5) (v := .int .i64 (IntKind.i64.wrap (nu (wd l 1)))) rfl rfl rfl rfl rfl
   simp only [seval, EV, r53_34, toInt_int, a.t7, st3]
   refine hK _ _ _ fun K hK => ?_
   rw [box_f]
   rw [if_pos hk, if_pos hk] at hK
   simp only [seval, EV, r53_35]
   exact hK _ _ _ ⟨rfl, a3.to (.refl _ _) (by simp only [seval, EV]) (by simp only [seval, EV]) (by simp only [seval, EV]) (by simp only [seval, EV]), by simp only [seval, EV], by simp only [seval, EV, t10], by simp only [seval, EV, t11]⟩
 · have hk : ¬ k = 9 := by omega
   rw [if_neg hk, if_neg hk] at hK
   simp only [EV, r53_32, a.t0, dF g]
   exact hK _ _ _ (C.cf <| C.skip ⟨rfl, a.to (.refl _ _) (by simp only [seval, EV]) (by simp only [seval, EV]) (by simp only [seval, EV]) (by simp only [seval, EV]), by simp only [seval, EV, t9], by simp only [seval, EV, t10], by simp only [seval, EV, t11]⟩)
end
theorem okW_eq (p : List UInt8) (m : Nat) : (plainL p && (!decide ((p.length : Int) = 0) && decide (p.length ≤ m))) = okW m p := by
 unfold okW
 congr 2
 by_cases h : p.length ≤ m
 · rw [dT h, dT (by omega)]
 · rw [dF h, dF (by omega)]
theorem plain55 (L n m : Nat) (hL : 2000 ≤ L) {p : List UInt8} (hp : p.length ≤ 1000) (h : H) : Sp (CF L (n + 1)) 55 [sv p, .int .i64 (m : Int)] h fun r h' => r = .bool (okW m p) ∧ h' = h := by
 have := rplainM_law L n (s := ⟨p.toArray⟩) (m := m) (show p.toArray.size < L by simp; omega) (show p.toArray.size ≤ 2000 by simp; omega) h
 have e : (plainL p && (!decide (((⟨p.toArray⟩ : ByteArray).size : Int) = 0) && decide ((⟨p.toArray⟩ : ByteArray).size ≤ m))) = okW m p := okW_eq p m
 exact fun K hK => this K fun r h' hq => hK r h' ⟨by rw [← e]; exact hq.1, hq.2⟩
section
variable {h0 h : H} {lv : Value} {k Z D : Nat} {c : Cmd} {tm : T Value} {l : List (List UInt8)}
theorem sK (L : Nat) {call : CallT} (hk : 1 ≤ k ∧ k ≤ 11) (a : SD h0 lv k Z D ⟨k, 0, nilV, strB [], 0, 0, 0, 0, []⟩ tm h) (hs0 : Strs h0 lv l) (hl : k ≠ 11 → 1 ≤ l.length) (h9 : l.length ≤ 1000) :
   C ⟨seqC ⟨r53_2⟩ ⟨condC (tC 29) ⟨r53_3⟩ ⟨seqC ⟨r53_4⟩ ⟨condC (tC 36) ⟨r53_5⟩ skipC⟩⟩⟩⟩ call L tm h
     fun e tm' h' => e = .norm ∧ ∃ kv, SD h0 lv k Z D ⟨k, 0, kv, strB [], 0, 0, 0, 0, keysD k l⟩ tm' h' := by
 have lt := a.lt
 have ldk : ∀ hx, Has hx D (.rw (⟨k, 0, nilV, strB [], 0, 0, 0, 0, []⟩ : Cmd).cells (some 26)) → ∀ s, loadOne hx (.pointer (some ⟨D, 2, s⟩)) = some (.slice none 0 0) := fun hx hb s => loadOne_has hb rfl
 have nd := a.bd.1
 -- a row of keys that was made behind everything is put into the command
 have fin : ∀ (hx h1 : H) (v' : Value) (m : List (List UInt8)), SD h0 lv k Z D ⟨k, 0, nilV, strB [], 0, 0, 0, 0, []⟩ tm hx → StrOp h1 v' m → Keep nobody hx h1 → (∀ b, blk v' b → hx.next ≤ b) → v'.cells = #[v'] ∧ Go.Ev.ones [v'] = true → ∃ h2, (∀ sp, storeV 1 h1 (.pointer (some ⟨D, 2, sp⟩)) v' = some h2) ∧ SD h0 lv k Z D ⟨k, 0, v', strB [], 0, 0, 0, 0, m⟩ tm h2 := fun hx h1 v' m ax hs kp hb hc => by
   have b1 := ax.bd.keep0 kp
   have nx := ax.bd.1
   refine ⟨h1.put D (.rw (⟨k, 0, v', strB [], 0, 0, 0, 0, m⟩ : Cmd).cells (some 26)), fun sp => store_one b1 hc.1 hc.2 rfl, ax.t0, ax.t1, ax.t4, ax.t7, (ax.bz.keep0 kp).keep (Keep.put h1 D _) (by omega), Has.put b1.1, hs.strs.keep (Keep.put h1 D _) fun b hb' e => ?_, fun b hb' => ?_, lt, put_old (ax.keep.then kp) (by omega)⟩
   · have := hb b hb'; omega
   · have := hb b hb'; omega
 have opc : ∀ {h1 : H} {v' : Value} {m : List (List UInt8)}, StrOp h1 v' m → v'.cells = #[v'] ∧ Go.Ev.ones [v'] = true := fun {h1 v' m} hs => by
   obtain ⟨b, cc, rfl, _⟩ := hs
   exact ⟨rfl, rfl⟩
 refine C.seq fun K hK => ?_
 by_cases g1 : (k : Int) = 1
 · have hm : keysD k l = l := by unfold keysD; rw [if_pos (.inl (by omega))]
   obtain ⟨v', h1, e1, hs1, k1, hb1⟩ := app_none (hs0.keep0 a.keep) (hl (by omega)) (by omega)
   obtain ⟨h2, st, a2⟩ := fin h h1 v' l a hs1 k1 hb1 (opc hs1)
   simp only [EV, r53_2, a.t0, dT g1]
   refine hK _ _ _ (C.ct (fun K hK => ?_))
   rw [box_f]
   simp only [seval, EV, r53_3, a.t7, a.t1, ldk h a.bd, e1, st]
   exact hK _ _ _ ⟨rfl, v', by rw [hm]; exact a2.to (.refl _ _) (by simp only [seval, EV]) (by simp only [seval, EV]) (by simp only [seval, EV]) (by simp only [seval, EV])⟩
 by_cases g2 : (k : Int) = 10
 · have hm : keysD k l = l := by unfold keysD; rw [if_pos (.inr (by omega))]
   obtain ⟨v', h1, e1, hs1, k1, hb1⟩ := app_none (hs0.keep0 a.keep) (hl (by omega)) (by omega)
   obtain ⟨h2, st, a2⟩ := fin h h1 v' l a hs1 k1 hb1 (opc hs1)
   simp only [↓EW, EV, r53_2, a.t0, dF g1, dT g2]
   refine hK _ _ _ (C.ct (fun K hK => ?_))
   rw [box_f]
   simp only [seval, EV, r53_3, a.t7, a.t1, ldk h a.bd, e1, st]
   exact hK _ _ _ ⟨rfl, v', by rw [hm]; exact a2.to (.refl _ _) (by simp only [seval, EV]) (by simp only [seval, EV]) (by simp only [seval, EV]) (by simp only [seval, EV])⟩
 simp only [↓EW, EV, r53_2, a.t0, dF g1, dF g2]
 refine hK _ _ _ (C.cf <| C.seq fun K hK => ?_)
 by_cases g3 : (k : Int) = 11
 · have hm : keysD k l = [] := by unfold keysD; rw [if_neg (by omega), if_pos (by omega)]
   simp only [seval, EV, r53_4, a.t0, dT g3]
   exact hK _ _ _ (C.cf <| C.skip ⟨rfl, nilV, by rw [hm]; exact a.to (.refl _ _) (by simp only [seval, EV]) (by simp only [seval, EV]) (by simp only [seval, EV]) (by simp only [seval, EV])⟩)
 have hm : keysD k l = [wd l 0] := by unfold keysD; rw [if_neg (by omega), if_neg (by omega)]
 simp only [seval, EV, r53_4, a.t0, dF g3]
 refine hK _ _ _ (C.ct (fun K hK => ?_))
 rw [box_f]
 have kr := keep_room h 9
 have ar : SD h0 lv k Z D ⟨k, 0, nilV, strB [], 0, 0, 0, 0, []⟩ tm ⟨h.objs, h.next + 9⟩ := a.to kr rfl rfl rfl rfl
 have nr : (⟨h.objs, h.next + 9⟩ : H).next = h.next + 9 := rfl
 obtain ⟨b1, o1, e1, l1⟩ := wload hs0 (i := 0) (hl (by omega))
 have e1' : indexSl 1 lv (.int .i64 0) = some (.pointer (some ⟨b1, o1, none⟩)) := e1
 have l1 := l1 _ ar.keep
 generalize hh : (⟨h.objs, h.next + 9⟩ : H) = hx at *
 have lit : mkLit 9 1 (h.next + 5) (fill (repl [(.string (strB []))] 1) (pl 1) [(0, sv (wd l 0))]) = some (.rw ([wd l 0].map sv) (some 9), .slice (some ⟨h.next + 5, 0, none⟩) [wd l 0].length [wd l 0].length) := lit_sv _ _
 have bl : Has (hx.put (h.next + 5) (.rw ([wd l 0].map sv) (some 9))) (h.next + 5) (.rw ([wd l 0].map sv) (some 9)) := Has.put (by omega)
 have hsl : Strs (hx.put (h.next + 5) (.rw ([wd l 0].map sv) (some 9))) (.slice (some ⟨h.next + 5, 0, none⟩) [wd l 0].length [wd l 0].length) [wd l 0] := strs_lit bl (by simp)
 have kl : Keep nobody h (hx.put (h.next + 5) (.rw ([wd l 0].map sv) (some 9))) := kr.trans (Keep.put hx _ _) fun b hb e => by subst e; omega
 have al : SD h0 lv k Z D ⟨k, 0, nilV, strB [], 0, 0, 0, 0, []⟩ tm (hx.put (h.next + 5) (.rw ([wd l 0].map sv) (some 9))) := a.to kl rfl rfl rfl rfl
 generalize hy : hx.put (h.next + 5) (.rw ([wd l 0].map sv) (some 9)) = hz at *
 obtain ⟨v', h1, ea, hs1, k1, hb1⟩ := app_none hsl (by simp) (by simp)
 obtain ⟨h2, st, a2⟩ := fin hz h1 v' [wd l 0] al hs1 k1 hb1 (opc hs1)
 simp only [seval, EV, r53_5, hh, a.t7, a.t1, ldk hx ar.bd, e1', l1, lit, hy, ea, st]
 exact hK _ _ _ ⟨rfl, v', by rw [hm]; exact a2.to (.refl _ _) (by simp only [seval, EV]) (by simp only [seval, EV]) (by simp only [seval, EV]) (by simp only [seval, EV])⟩
end
section
variable {h0 h : H} {lv : Value} {k Z D : Nat} {c : Cmd} {tm : T Value} {l : List (List UInt8)}
theorem SD.ld {c : Cmd} (a : SD h0 lv k Z D c tm h) (o : Nat) : ∀ s, loadOne h (.pointer (some ⟨D, o, s⟩)) = c.cells[o]? := fun s => loadOne_has a.bd rfl
theorem dOK_key {k : Nat} {l : List (List UInt8)} {p : List UInt8} (hp : p ∈ keysD k l) (hb : okW 32 p = false) : dOK k l = false := by
 unfold dOK
 have : (keysD k l).all (okW 32) = false := by
   rw [Bool.eq_false_iff]
   intro e
   have := List.all_eq_true.1 e p hp
   rw [hb] at this; cases this
 rw [this, Bool.false_and]
theorem loop53 (L n : Nat) (hL : 2000 ≤ L) {kv : Value} {ks : List (List UInt8)} (hks : ks = keysD k l) (hle : ∀ p ∈ ks, p.length ≤ 1000) (hln : ks.length ≤ 1000) (a : SD h0 lv k Z D ⟨k, 0, kv, strB [], 0, 0, 0, 0, ks⟩ tm h) (t8 : tg tm 8 = .int .i64 0) :
   C ⟨blockC 0 (loopB l53_11)⟩ (CF L (n + 1)) L tm h fun e tm' h' => (e = .norm ∧ h' = h ∧ SD h0 lv k Z D ⟨k, 0, kv, strB [], 0, 0, 0, 0, ks⟩ tm' h' ∧ ks.all (okW 32) = true) ∨ (e = .ret ∧ ∃ r, q53.f tm' h' = some r ∧ CmdQ k l h0 (resOf r) h') := by
 refine C.block ?_
 refine (C.loop (L := L) (fun m tm' h' => ∃ i, m = ks.length - i ∧ i ≤ ks.length ∧ h' = h ∧ SD h0 lv k Z D ⟨k, 0, kv, strB [], 0, 0, 0, 0, ks⟩ tm' h' ∧ tg tm' 8 = .int .i64 (i : Int) ∧ ∀ j < i, ∀ p, ks[j]? = some p → okW 32 p = true) ks.length (by omega)
   ⟨0, by omega, Nat.zero_le _, rfl, a, t8, fun j hj => by omega⟩ fun m tm' h' hi => ?_ :
   C (loopB l53_11) _ L _ h fun e tm' h' => (e = .exit 0 ∧ h' = h ∧ SD h0 lv k Z D ⟨k, 0, kv, strB [], 0, 0, 0, 0, ks⟩ tm' h' ∧ ks.all (okW 32) = true) ∨ (e = .ret ∧ ∃ r, q53.f tm' h' = some r ∧ CmdQ k l h0 (resOf r) h')).mono ?_
 · obtain ⟨i, hm, hi, rfl, a, t8, hall⟩ := hi
   have ldk : ∀ s, loadOne h' (.pointer (some ⟨D, 2, s⟩)) = some kv := fun s => a.ld 2 s
   have hkl : lenSl kv = some (.int .i64 (ks.length : Int)) := a.hk.len
   unfold l53_11
   refine C.seq (C.seq fun K hK => ?_)
   by_cases g : (i : Int) < (ks.length : Int)
   · simp only [EV, r53_7, a.t7, ldk, hkl, t8, dT g]
     refine hK _ _ _ (C.ct (C.skip (C.seq (C.block (C.seq fun K hK => ?_)))))
     obtain ⟨p, hp⟩ : ∃ p, ks[i]? = some p := ⟨_, List.getElem?_eq_getElem (by omega)⟩
     have hpm := List.mem_of_getElem? hp
     obtain ⟨b, o, e1, e2⟩ := a.hk.at (show (⟨k, 0, kv, strB [], 0, 0, 0, 0, ks⟩ : Cmd).keys[i]? = some p from hp)
     have e1 : indexSl 1 kv (.int .i64 (i : Int)) = some (.pointer (some ⟨b, o, none⟩)) := e1
     have p55 : Sp (CF L (n + 1)) 55 [sv p, .int .i64 32] h' fun r h2 => r = .bool (okW 32 p) ∧ h2 = h' := plain55 L n 32 hL (hle p hpm) h'
     simp only [seval, EV, r53_9, a.t7, ldk, t8, e1, e2]
     refine p55 _ fun r h2 hq => ?_
     obtain ⟨rfl, rfl⟩ := hq
     cases hb : okW 32 p with
     | false =>
       simp only [EV]
       refine hK _ _ _ (C.ct (C.seq fun K hK => ?_))
       obtain ⟨la, sa⟩ := a.fin
       have hd : dOK k l = false := dOK_key (hks ▸ hpm) hb
       simp only [seval, EV, r53_10, a.t7, a.t4, la, sa]
       exact hK _ _ _ (C.ret (.inr ⟨rfl, a.ret (l := l) (m := 0) (by simp only [seval, EV, a.t4]) (by simp only [seval, EV]) (by simp only [seval, EV, hd]) ⟨rfl, rfl⟩ fun e => by rw [hd] at e; cases e⟩))
     | true =>
       simp only [EV]
       refine hK _ _ _ (C.cf <| C.skip ?_)
       intro K hK
       rw [box_f]
       have w1 : IntKind.i64.wrap ((i : Int) + 1) = ((i + 1 : Nat) : Int) := by
         rw [show (i : Int) + 1 = ((i + 1 : Nat) : Int) by omega]; exact wrap_lt _ (by omega)
       simp only [seval, EV, r53_8, t8, w1]
       refine hK _ _ _ ⟨ks.length - (i + 1), by omega, i + 1, rfl, by omega, rfl, a.to (.refl _ _) (by simp only [seval, EV]) (by simp only [seval, EV]) (by simp only [seval, EV]) (by simp only [seval, EV]), by simp only [seval, EV], fun j hj p' hp' => ?_⟩
       by_cases e : j = i
       · subst e
         rw [hp] at hp'
         cases hp'
         exact hb
       · exact hall j (by omega) p' hp'
   · simp only [EV, r53_7, a.t7, ldk, hkl, t8, dF g]
     refine hK _ _ _ (C.cf <| ?_)
     intro K hK
     simp only [exitC]
     refine hK _ _ _ (.inl ⟨rfl, rfl, a.to (.refl _ _) (by simp only [seval, EV]) (by simp only [seval, EV]) (by simp only [seval, EV]) (by simp only [seval, EV]), ?_⟩)
     rw [List.all_eq_true]
     intro p hp
     obtain ⟨j, hj⟩ := List.mem_iff_getElem?.1 hp
     have : j < ks.length := (List.getElem?_eq_some_iff.1 hj).1
     exact hall j (by omega) p hj
 · rintro e tm' h' (⟨rfl, hq⟩ | ⟨rfl, hq⟩)
   · exact .inl ⟨rfl, hq⟩
   · exact .inr ⟨rfl, hq⟩
end
structure Cnt (k : Nat) (l : List (List UInt8)) : Prop where
 hk : 1 ≤ k ∧ k ≤ 11
 h1 : k ≠ 11 → 1 ≤ l.length
 hA : k25 k = true → 4 ≤ l.length
 hB : k = 5 → 5 ≤ l.length
 hC : k67 k = true → 2 ≤ l.length
 hD : k = 8 → 2 ≤ l.length
 hE : k = 9 → 2 ≤ l.length
 many : l.length ≤ 1000
 wl : ∀ p ∈ l, p.length ≤ 1000
theorem keysD_le {k : Nat} {l : List (List UInt8)} (a : Cnt k l) : (keysD k l).length ≤ 1000 ∧ ∀ p ∈ keysD k l, p.length ≤ 1000 := by
 unfold keysD
 split
 · exact ⟨a.many, a.wl⟩
 · split
   · exact ⟨by simp, fun p hp => by simp at hp⟩
   · rename_i h11
     refine ⟨by simp, fun p hp => ?_⟩
     simp only [List.mem_singleton] at hp
     subst hp
     exact a.wl _ (List.mem_of_getElem? (wd_at (a.h1 h11)))
theorem cmd_eq (k : Nat) (l : List (List UInt8)) (kv : Value) :
   (if k = 9 then { (if k67 k = true then { (if k = 5 then { (if k25 k = true then { (⟨k, 0, kv, strB [], 0, 0, 0, 0, keysD k l⟩ : Cmd) with flags := IntKind.u32.wrap (nu (wd l 1)), fo := IntKind.i64.wrap (nu (wd l 2)) } else (⟨k, 0, kv, strB [], 0, 0, 0, 0, keysD k l⟩ : Cmd)) with uniq := nu (wd l 4) } else (if k25 k = true then { (⟨k, 0, kv, strB [], 0, 0, 0, 0, keysD k l⟩ : Cmd) with flags := IntKind.u32.wrap (nu (wd l 1)), fo := IntKind.i64.wrap (nu (wd l 2)) } else (⟨k, 0, kv, strB [], 0, 0, 0, 0, keysD k l⟩ : Cmd))) with by' := nu (wd l 1) } else (if k = 5 then { (if k25 k = true then { (⟨k, 0, kv, strB [], 0, 0, 0, 0, keysD k l⟩ : Cmd) with flags := IntKind.u32.wrap (nu (wd l 1)), fo := IntKind.i64.wrap (nu (wd l 2)) } else (⟨k, 0, kv, strB [], 0, 0, 0, 0, keysD k l⟩ : Cmd)) with uniq := nu (wd l 4) } else (if k25 k = true then { (⟨k, 0, kv, strB [], 0, 0, 0, 0, keysD k l⟩ : Cmd) with flags := IntKind.u32.wrap (nu (wd l 1)), fo := IntKind.i64.wrap (nu (wd l 2)) } else (⟨k, 0, kv, strB [], 0, 0, 0, 0, keysD k l⟩ : Cmd)))) with fo := IntKind.i64.wrap (nu (wd l 1)) } else (if k67 k = true then { (if k = 5 then { (if k25 k = true then { (⟨k, 0, kv, strB [], 0, 0, 0, 0, keysD k l⟩ : Cmd) with flags := IntKind.u32.wrap (nu (wd l 1)), fo := IntKind.i64.wrap (nu (wd l 2)) } else (⟨k, 0, kv, strB [], 0, 0, 0, 0, keysD k l⟩ : Cmd)) with uniq := nu (wd l 4) } else (if k25 k = true then { (⟨k, 0, kv, strB [], 0, 0, 0, 0, keysD k l⟩ : Cmd) with flags := IntKind.u32.wrap (nu (wd l 1)), fo := IntKind.i64.wrap (nu (wd l 2)) } else (⟨k, 0, kv, strB [], 0, 0, 0, 0, keysD k l⟩ : Cmd))) with by' := nu (wd l 1) } else (if k = 5 then { (if k25 k = true then { (⟨k, 0, kv, strB [], 0, 0, 0, 0, keysD k l⟩ : Cmd) with flags := IntKind.u32.wrap (nu (wd l 1)), fo := IntKind.i64.wrap (nu (wd l 2)) } else (⟨k, 0, kv, strB [], 0, 0, 0, 0, keysD k l⟩ : Cmd)) with uniq := nu (wd l 4) } else (if k25 k = true then { (⟨k, 0, kv, strB [], 0, 0, 0, 0, keysD k l⟩ : Cmd) with flags := IntKind.u32.wrap (nu (wd l 1)), fo := IntKind.i64.wrap (nu (wd l 2)) } else (⟨k, 0, kv, strB [], 0, 0, 0, 0, keysD k l⟩ : Cmd))))) = dC k l kv := by
 unfold dC flD foD unD byD
 cases k25 k <;> cases k67 k <;> by_cases h5 : k = 5 <;> by_cases h9 : k = 9 <;> first | (simp only [if_pos h5, if_pos h9, if_true, if_false, Bool.false_eq_true]; done) | (simp only [if_pos h5, if_neg h9, if_true, if_false, Bool.false_eq_true]; done) | (simp only [if_neg h5, if_pos h9, if_true, if_false, Bool.false_eq_true]; done) | (simp only [if_neg h5, if_neg h9, if_true, if_false, Bool.false_eq_true]; done)
theorem ok_eq (k : Nat) (l : List (List UInt8)) : (if k = 9 then upN (wd l 1) 1099511627776 else if k = 8 then upN (wd l 1) 512 else if k67 k = true then upN (wd l 1) 18446744073709551615 else if k = 5 then (if k25 k = true then upN (wd l 1) 4294967295 && upN (wd l 2) 1099511627776 && upN (wd l 3) 512 else true) && upN (wd l 4) 18446744073709551615 else if k25 k = true then upN (wd l 1) 4294967295 && upN (wd l 2) 1099511627776 && upN (wd l 3) 512 else true) = okD k l := by
 unfold okD
 by_cases h5 : k = 5
 · subst h5; rfl
 · simp only [if_neg h5]
theorem law53 (L n : Nat) (hL : 2000 ≤ L) {k : Nat} {l : List (List UInt8)} {lv : Value} {h : H} (hs : Strs h lv l) (ct : Cnt k l) :
   Sp (CF L (n + 4)) 53 [.int .u8 (k : Int), lv] h (CmdQ k l h) := by
 refine Sp.body f53 (by simp) ?_
 obtain ⟨kn, kw⟩ := keysD_le ct
 unfold c53
 refine C.seq fun K hK => ?_
 have b0 := Has.new h (.rw zC (some 26))
 have k0 := Keep.new h (.rw zC (some 26))
 have n0 : (h.new (.rw zC (some 26))).next = h.next + 1 := rfl
 have hz : ∀ h : H, h.new (.rw [.int .u8 0, .int .i64 0, .slice none 0 0, .string (strB []), .int .u32 0, .int .i64 0, .int .u64 0, .int .u64 0] (some 26)) = h.new (.rw zC (some 26)) := fun _ => rfl
 simp only [seval, ↓EW, EV, r53_0, hz]
 generalize hZ : h.next = Z at *
 generalize h.new (.rw zC (some 26)) = h1 at *
 refine hK _ _ _ (C.seq fun K hK => ?_)
 have ag : aggO (fill [(.int .u8 (0)), (.int .i64 (0)), (.slice none 0 0), (.string (strB [])), (.int .u32 (0)), (.int .i64 (0)), (.int .u64 (0)), (.int .u64 (0))] (plc [(0, 1), (1, 1), (2, 1), (3, 1), (4, 1), (5, 1), (6, 1), (7, 1)]) [(0, (.int .u8 (k : Int)))]) = some (⟨k, 0, nilV, strB [], 0, 0, 0, 0, []⟩ : Cmd).v := rfl
 have st : storeV 8 (h1.new (.rw zC (some 26))) (.pointer (some ⟨h1.next, 0, none⟩)) (⟨k, 0, nilV, strB [], 0, 0, 0, 0, []⟩ : Cmd).v = some ((h1.new (.rw zC (some 26))).put h1.next (.rw (⟨k, 0, nilV, strB [], 0, 0, 0, 0, []⟩ : Cmd).cells (some 26))) := store_new h1 8 none zC (some 26) _ rfl rfl rfl
 simp only [seval, ↓EW, EV, r53_1, ag, hz, st]
 have b6 : Has ((h1.new (.rw zC (some 26))).put h1.next (.rw (⟨k, 0, nilV, strB [], 0, 0, 0, 0, []⟩ : Cmd).cells (some 26))) h1.next (.rw (⟨k, 0, nilV, strB [], 0, 0, 0, 0, []⟩ : Cmd).cells (some 26)) := Has.put (Nat.lt_succ_self _)
 have k6 := keep_alloc h1 (.rw zC (some 26)) (.rw (⟨k, 0, nilV, strB [], 0, 0, 0, 0, []⟩ : Cmd).cells (some 26))
 generalize (h1.new (.rw zC (some 26))).put h1.next (.rw (⟨k, 0, nilV, strB [], 0, 0, 0, 0, []⟩ : Cmd).cells (some 26)) = h2 at *
 generalize hD : h1.next = D at *
 have a0 : SD h lv k Z D ⟨k, 0, nilV, strB [], 0, 0, 0, 0, []⟩ (T.set (T.set (T.set (T.set (T.set (T.set T.e 0 (.int .u8 (k : Int))) 1 lv) 4 (.pointer (some ⟨Z, 0, none⟩))) 5 (.int .i64 0)) 6 (.bool false)) 7 (.pointer (some ⟨D, 0, none⟩))) h2 := ⟨by simp only [seval, EV], by simp only [seval, EV], by simp only [seval, EV], by simp only [seval, EV], b0.keep0 k6, b6, strs_nil _, nil_own _, by omega, k0.then k6⟩
 refine hK _ _ _ (C.seq ((sK L ct.hk (a0.to (.refl _ _) (by simp only [seval, EV]) (by simp only [seval, EV]) (by simp only [seval, EV]) (by simp only [seval, EV])) hs ct.h1 ct.many).mono ?_))
 rintro e tm3 h3 ⟨rfl, kv, a3⟩
 refine C.seq (C.seq fun K hK => ?_)
 simp only [r53_6]
 refine hK _ _ _ ((loop53 L (n + 2) hL rfl kw kn (a3.to (.refl _ _) (by simp only [seval, EV]) (by simp only [seval, EV]) (by simp only [seval, EV]) (by simp only [seval, EV])) (by simp only [seval, EV])).mono ?_)
 rintro e tm4 h4 (⟨rfl, rfl, a4, hall⟩ | ⟨rfl, hq⟩)
 case inr => exact ⟨.inr rfl, hq⟩
 refine C.seq fun K hK => ?_
 simp only [r53_11]
 refine hK _ _ _ (C.seq fun K hK => ?_)
 simp only [r53_12]
 refine hK _ _ _ (C.seq fun K hK => ?_)
 simp only [r53_13]
 refine hK _ _ _ (C.seq ((sA (l := l) (ok := true) (nn := 0) (hs := false) L (n + 1) hL ⟨a4.to (.refl _ _) (by simp only [seval, EV]) (by simp only [seval, EV]) (by simp only [seval, EV]) (by simp only [seval, EV]), by simp only [seval, EV], by simp only [seval, EV], by simp only [seval, EV]⟩ hs ct.hA).mono ?_))
 rintro e tm5 h5 ⟨rfl, x5⟩
 refine C.seq ((sB L (n + 1) hL x5 hs ct.hB).mono ?_)
 rintro e tm6 h6 ⟨rfl, x6⟩
 refine C.seq ((sC L (n + 1) hL x6 hs ct.hC).mono ?_)
 rintro e tm7 h7 ⟨rfl, x7⟩
 refine C.seq ((sD L (n + 1) hL x7 hs ct.hD).mono ?_)
 rintro e tm8 h8 ⟨rfl, x8⟩
 refine C.seq ((sE L (n + 1) hL x8 hs ct.hE).mono ?_)
 rintro e tm9 h9 ⟨rfl, x9⟩
 rw [cmd_eq, ok_eq, Bool.or_false] at x9
 obtain ⟨a, t9, t10, t11⟩ := x9
 have en : (if k = 8 then nu (wd l 1) else if k25 k = true then nu (wd l 3) else 0) = nD k l := rfl
 have eh : (decide (k = 8) || k25 k) = hasD k := by unfold hasD; exact Bool.or_comm _ _
 rw [en] at t10
 rw [eh] at t11
 have hd : dOK k l = (okD k l && mayB (dC k l nilV) k) := by unfold dOK; rw [hall, Bool.true_and]
 obtain ⟨la, sa⟩ := a.fin
 have bad : ∀ tm', tg tm' 4 = .pointer (some ⟨Z, 0, none⟩) → tg tm' 7 = .pointer (some ⟨D, 0, none⟩) → dOK k l = false → ∀ hy, Keep nobody h9 hy → C ⟨seqC ⟨r53_37⟩ retC⟩ (CF L (n + 3)) L tm' hy fun e tm h' => e = .ret ∧ ∃ r, q53.f tm h' = some r ∧ CmdQ k l h (resOf r) h' := fun tm' e4 e7 hf hy ky => by
   refine C.seq fun K hK => ?_
   have ay : SD h lv k Z D (dC k l kv) tm9 hy := a.to ky rfl rfl rfl rfl
   obtain ⟨la, sa⟩ := ay.fin
   simp only [EV, r53_37, e4, e7, la, sa]
   exact hK _ _ _ (C.ret ⟨rfl, ay.ret (l := l) (m := 0) (by simp only [seval, EV, e4]) (by simp only [seval, EV]) (by simp only [seval, EV, hf]) ⟨rfl, rfl⟩ fun e => by rw [hf] at e; cases e⟩)
 refine C.seq (C.seq fun K hK => ?_)
 cases hok : okD k l with
 | false =>
   rw [hok] at t9 hd
   simp only [seval, ↓opStep_eq, ↓EW, EV, r53_36, t9]
   refine hK _ _ _ (C.ct ((bad _ (by simp only [seval, EV, a.t4]) (by simp only [seval, EV, a.t7]) hd _ (.refl _ _)).mono ?_))
   rintro e tm' h' ⟨rfl, hq⟩
   exact ⟨.inr rfl, hq⟩
 | true =>
   rw [hok] at t9 hd
   rw [Bool.true_and] at hd
   have p80 : Sp (CF L (n + 3)) 80 [(dC k l kv).v] h9 fun r h' => r = .bool (mayB (dC k l kv) k) ∧ Keep nobody h9 h' := refmay_law L n (by omega) (show (k : Int) = ((k : Nat) : Int) from rfl) a.hk kn
   have em : mayB (dC k l kv) k = mayB (dC k l nilV) k := rfl
   simp only [seval, ↓opStep_eq, ↓EW, EV, r53_36, t9, a.t7, la]
   refine p80 _ fun r hy hq => ?_
   obtain ⟨rfl, ky⟩ := hq
   rw [em, ← hd]
   have ay : SD h lv k Z D (dC k l kv) tm9 hy := a.to ky rfl rfl rfl rfl
   obtain ⟨la, sa⟩ := ay.fin
   cases hdd : dOK k l with
   | false =>
     simp only [EV]
     refine hK _ _ _ (C.ct ((bad _ (by simp only [seval, EV, a.t4]) (by simp only [seval, EV, a.t7]) hdd _ ky).mono ?_))
     rintro e tm' h' ⟨rfl, hq⟩
     exact ⟨.inr rfl, hq⟩
   | true =>
     simp only [EV]
     refine hK _ _ _ (C.cf <| C.skip (C.seq (C.seq fun K hK => ?_)))
     cases hh : hasD k with
     | false =>
       rw [hh] at t11
       have em : dN k l = -1 := by unfold dN; rw [hh]; rfl
       simp only [seval, EV, r53_38, t11]
       refine hK _ _ _ (C.ct (C.seq fun K hK => ?_))
       simp only [seval, EV, r53_39, a.t7, a.t4, la, sa]
       exact hK _ _ _ (C.ret ⟨.inr rfl, ay.ret (l := l) (m := -1) (by simp only [seval, EV, a.t4]) (by simp only [seval, EV]) (by simp only [seval, EV, hdd]) ⟨rfl, rfl⟩ fun _ => ⟨rfl, em.symm⟩⟩)
     | true =>
       rw [hh] at t11
       have em : dN k l = IntKind.i64.wrap (nD k l) := by unfold dN; rw [hh]; rfl
       simp only [seval, EV, r53_38, t11]
       refine hK _ _ _ (C.cf <| C.skip (C.seq fun K hK => ?_))
       simp only [seval, EV, r53_40, a.t7, a.t4, la, toInt_int, t10, sa]
       exact hK _ _ _ (C.ret ⟨.inr rfl, ay.ret (l := l) (m := IntKind.i64.wrap (nD k l)) (by simp only [seval, EV, a.t4]) (by simp only [seval, EV]) (by simp only [seval, EV, hdd]) ⟨rfl, rfl⟩ fun _ => ⟨rfl, em.symm⟩⟩)
end Go.Proofs.YtilpiiafjehbnaaGreatDoor
