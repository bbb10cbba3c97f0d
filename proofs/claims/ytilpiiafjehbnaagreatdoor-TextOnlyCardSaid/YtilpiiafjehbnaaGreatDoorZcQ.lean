import Derived.Test.YtilpiiafjehbnaaGreatDoorZcM
set_option linter.unusedSimpArgs false
set_option linter.unusedVariables false
namespace Go.Proofs.YtilpiiafjehbnaaGreatDoor
open Go.Ev
def kindW (w : List UInt8) : Nat × Int :=
 if w = [103, 101, 116] then (1, -1) else
 if w = [115, 101, 116] then (2, 4) else
 if w = [97, 100, 100] then (3, 4) else
 if w = [114, 101, 112, 108, 97, 99, 101] then (4, 4) else
 if w = [99, 97, 115] then (5, 5) else
 if w = [105, 110, 99, 114] then (6, 2) else
 if w = [100, 101, 99, 114] then (7, 2) else
 if w = [97, 112, 112, 101, 110, 100] then (8, 2) else
 if w = [116, 111, 117, 99, 104] then (9, 2) else
 if w = [100, 101, 108, 101, 116, 101] then (10, -1) else
 if w = [102, 108, 117, 115, 104] then (11, 0) else
 (0, 0)
def nu (w : List UInt8) : Int := ((numN w).getD 0 : Nat)
def wd (l : List (List UInt8)) (i : Nat) : List UInt8 := l.getD i []
def k25 (k : Nat) : Bool := decide (2 ≤ (k : Int)) && decide ((k : Int) ≤ 5)
def k67 (k : Nat) : Bool := decide ((k : Int) = 6) || decide ((k : Int) = 7)
def keysD (k : Nat) (l : List (List UInt8)) : List (List UInt8) := if k = 1 ∨ k = 10 then l else if k = 11 then [] else [wd l 0]
def flD (k : Nat) (l : List (List UInt8)) : Int := if k25 k = true then IntKind.u32.wrap (nu (wd l 1)) else 0
def foD (k : Nat) (l : List (List UInt8)) : Int := if k = 9 then IntKind.i64.wrap (nu (wd l 1)) else if k25 k = true then IntKind.i64.wrap (nu (wd l 2)) else 0
def unD (k : Nat) (l : List (List UInt8)) : Int := if k = 5 then nu (wd l 4) else 0
def byD (k : Nat) (l : List (List UInt8)) : Int := if k67 k = true then nu (wd l 1) else 0
def nD (k : Nat) (l : List (List UInt8)) : Int := if k = 8 then nu (wd l 1) else if k25 k = true then nu (wd l 3) else 0
def hasD (k : Nat) : Bool := k25 k || decide (k = 8)
def okD (k : Nat) (l : List (List UInt8)) : Bool :=
 if k = 9 then upN (wd l 1) 1099511627776 else if k = 8 then upN (wd l 1) 512 else if k67 k = true then upN (wd l 1) 18446744073709551615
 else if k = 5 then (upN (wd l 1) 4294967295 && upN (wd l 2) 1099511627776 && upN (wd l 3) 512) && upN (wd l 4) 18446744073709551615
 else if k25 k = true then upN (wd l 1) 4294967295 && upN (wd l 2) 1099511627776 && upN (wd l 3) 512 else true
def dC (k : Nat) (l : List (List UInt8)) (kv : Value) : Cmd := ⟨k, 0, kv, strB [], flD k l, foD k l, unD k l, byD k l, keysD k l⟩
def dN (k : Nat) (l : List (List UInt8)) : Int := if hasD k = true then IntKind.i64.wrap (nD k l) else -1
def dOK (k : Nat) (l : List (List UInt8)) : Bool := (keysD k l).all (okW 32) && (okD k l && mayB (dC k l nilV) k)
def zC : List Value := [.int .u8 0, .int .i64 0, .slice none 0 0, .string (strB []), .int .u32 0, .int .i64 0, .int .u64 0, .int .u64 0]
structure SD (h0 : H) (lv : Value) (k Z D : Nat) (c : Cmd) (tm : T Value) (h : H) : Prop where
 t0 : tg tm 0 = .int .u8 (k : Int)
 t1 : tg tm 1 = lv
 t4 : tg tm 4 = .pointer (some ⟨Z, 0, none⟩)
 t7 : tg tm 7 = .pointer (some ⟨D, 0, none⟩)
 bz : Has h Z (.rw zC (some 26))
 bd : Has h D (.rw c.cells (some 26))
 hk : Strs h c.kv c.keys
 own : ∀ b, blk c.kv b → D < b
 lt : h0.next ≤ Z ∧ Z < D
 keep : Keep nobody h0 h
theorem SD.to {h0 h h' : H} {lv : Value} {k Z D : Nat} {c : Cmd} {tm tm' : T Value} (a : SD h0 lv k Z D c tm h) (kp : Keep nobody h h') (e0 : tg tm' 0 = tg tm 0) (e1 : tg tm' 1 = tg tm 1) (e4 : tg tm' 4 = tg tm 4) (e7 : tg tm' 7 = tg tm 7) : SD h0 lv k Z D c tm' h' :=
 ⟨e0.trans a.t0, e1.trans a.t1, e4.trans a.t4, e7.trans a.t7, a.bz.keep0 kp, a.bd.keep0 kp, a.hk.keep0 kp, a.own, a.lt, a.keep.then kp⟩
theorem SD.put {h0 h : H} {lv : Value} {k Z D : Nat} {c c' : Cmd} {tm : T Value} (a : SD h0 lv k Z D c tm h) {o : Nat} {v : Value} (hv : v.cells = #[v]) (h1 : ones [v] = true) (hp : putAt c.cells o [v] = some c'.cells) (ek : c'.kv = c.kv) (es : c'.keys = c.keys) :
   ∃ h', (∀ sp, storeV 1 h (.pointer (some ⟨D, o, sp⟩)) v = some h') ∧ SD h0 lv k Z D c' tm h' := by
 have lt := a.lt
 refine ⟨h.put D (.rw c'.cells (some 26)), fun sp => store_one a.bd hv h1 hp, a.t0, a.t1, a.t4, a.t7, a.bz.keep (Keep.put h D _) (by omega), Has.put a.bd.1, ?_, ?_, a.lt, put_old a.keep (by omega)⟩
 · rw [ek, es]; exact a.hk.keep (Keep.put h D _) fun b hb e => by have := a.own b hb; omega
 · rw [ek]; exact a.own
theorem onesC {h : H} {c : Cmd} (a : Strs h c.kv c.keys) : ones c.cells = true := by
 unfold Cmd.cells
 show ones (c.kv :: _) = true
 rw [strs_ones a]
 rfl
theorem SD.fin {h0 h : H} {lv : Value} {k Z D : Nat} {c : Cmd} {tm : T Value} (a : SD h0 lv k Z D c tm h) : loadAgg 8 h (.pointer (some ⟨D, 0, none⟩)) = some c.v ∧ storeV 8 h (.pointer (some ⟨Z, 0, none⟩)) c.v = some (h.put Z (.rw c.cells (some 26))) := ⟨loadAgg_has (o := 0) (n := 8) (cs := c.cells) a.bd rfl (by show 0 + 8 ≤ 8; omega), store_has a.bz rfl rfl (onesC a.hk)⟩
theorem gt (b : Bool) (one : OpK → Bool) (ds : Defs) (h : H) (rest : OpK) : gd true one ds h rest = one rest := rfl
section
variable {h0 h : H} {lv : Value} {k Z D : Nat} {c : Cmd} {ok : Bool} {nn : Int} {hs : Bool} {tm : T Value} {l : List (List UInt8)}
end
section
variable {h0 h : H} {lv : Value} {k Z D : Nat} {c : Cmd} {ok : Bool} {nn : Int} {hs : Bool} {tm : T Value} {l : List (List UInt8)}
end
section
variable {h0 h : H} {lv : Value} {k Z D : Nat} {c : Cmd} {tm : T Value} {l : List (List UInt8)}
end
section
variable {h0 h : H} {lv : Value} {k Z D : Nat} {c : Cmd} {tm : T Value} {l : List (List UInt8)}
theorem SD.ld {c : Cmd} (a : SD h0 lv k Z D c tm h) (o : Nat) : ∀ s, loadOne h (.pointer (some ⟨D, o, s⟩)) = c.cells[o]? := fun s => loadOne_has a.bd rfl
end
structure Cnt (k : Nat) (l : List (List UInt8)) : Prop where
 hk : 1 ≤ k ∧ k ≤ 11
 h1 : k ≠ 11 → 1 ≤ l.length
 hA : k25 k = true → 4 ≤ l.length
 hB : k = 5 → 5 ≤ l.length
 hC : k67 k = true → 2 ≤ l.length
 hD : k = 8 → 2 ≤ l.length
 hE : k = 9 → 2 ≤ l.length
 many : l.length ≤ 1000
 wl : ∀ p ∈ l, p.length ≤ 1000
end Go.Proofs.YtilpiiafjehbnaaGreatDoor
