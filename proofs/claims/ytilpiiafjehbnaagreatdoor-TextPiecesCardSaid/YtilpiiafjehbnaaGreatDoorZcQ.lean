import Derived.Test.YtilpiiafjehbnaaGreatDoorZcM
set_option linter.unusedSimpArgs false
set_option linter.unusedVariables false
namespace Go.Proofs.YtilpiiafjehbnaaGreatDoor
open Go.Ev
def zC : List Value := [.int .u8 0, .int .i64 0, .slice none 0 0, .string (strB []), .int .u32 0, .int .i64 0, .int .u64 0, .int .u64 0]
structure SD (h0 : H) (lv : Value) (k Z D : Nat) (c : Cmd) (tm : T Value) (h : H) : Prop where
 t0 : tg tm 0 = .int .u8 (k : Int)
 t1 : tg tm 1 = lv
 t4 : tg tm 4 = .pointer (some ⟨Z, 0, none⟩)
 t7 : tg tm 7 = .pointer (some ⟨D, 0, none⟩)
 bz : Has h Z (.rw zC (some 26))
 bd : Has h D (.rw c.cells (some 26))
 hk : Strs h c.kv c.keys
 own : ∀ b, blk c.kv b → D < b
 lt : h0.next ≤ Z ∧ Z < D
 keep : Keep nobody h0 h
theorem SD.to {h0 h h' : H} {lv : Value} {k Z D : Nat} {c : Cmd} {tm tm' : T Value} (a : SD h0 lv k Z D c tm h) (kp : Keep nobody h h') (e0 : tg tm' 0 = tg tm 0) (e1 : tg tm' 1 = tg tm 1) (e4 : tg tm' 4 = tg tm 4) (e7 : tg tm' 7 = tg tm 7) : SD h0 lv k Z D c tm' h' :=
 ⟨e0.trans a.t0, e1.trans a.t1, e4.trans a.t4, e7.trans a.t7, a.bz.keep0 kp, a.bd.keep0 kp, a.hk.keep0 kp, a.own, a.lt, a.keep.then kp⟩
theorem SD.put {h0 h : H} {lv : Value} {k Z D : Nat} {c c' : Cmd} {tm : T Value} (a : SD h0 lv k Z D c tm h) {o : Nat} {v : Value} (hv : v.cells = #[v]) (h1 : ones [v] = true) (hp : putAt c.cells o [v] = some c'.cells) (ek : c'.kv = c.kv) (es : c'.keys = c.keys) :
   ∃ h', (∀ sp, storeV 1 h (.pointer (some ⟨D, o, sp⟩)) v = some h') ∧ SD h0 lv k Z D c' tm h' := by
 have lt := a.lt
 refine ⟨h.put D (.rw c'.cells (some 26)), fun sp => store_one a.bd hv h1 hp, a.t0, a.t1, a.t4, a.t7, a.bz.keep (Keep.put h D _) (by omega), Has.put a.bd.1, ?_, ?_, a.lt, put_old a.keep (by omega)⟩
 · rw [ek, es]; exact a.hk.keep (Keep.put h D _) fun b hb e => by have := a.own b hb; omega
 · rw [ek]; exact a.own
theorem onesC {h : H} {c : Cmd} (a : Strs h c.kv c.keys) : ones c.cells = true := by
 unfold Cmd.cells
 show ones (c.kv :: _) = true
 rw [strs_ones a]
 rfl
theorem SD.fin {h0 h : H} {lv : Value} {k Z D : Nat} {c : Cmd} {tm : T Value} (a : SD h0 lv k Z D c tm h) : loadAgg 8 h (.pointer (some ⟨D, 0, none⟩)) = some c.v ∧ storeV 8 h (.pointer (some ⟨Z, 0, none⟩)) c.v = some (h.put Z (.rw c.cells (some 26))) := ⟨loadAgg_has (o := 0) (n := 8) (cs := c.cells) a.bd rfl (by show 0 + 8 ≤ 8; omega), store_has a.bz rfl rfl (onesC a.hk)⟩
theorem gt (b : Bool) (one : OpK → Bool) (ds : Defs) (h : H) (rest : OpK) : gd true one ds h rest = one rest := rfl
section
variable {h0 h : H} {lv : Value} {k Z D : Nat} {c : Cmd} {ok : Bool} {nn : Int} {hs : Bool} {tm : T Value} {l : List (List UInt8)}
end
section
variable {h0 h : H} {lv : Value} {k Z D : Nat} {c : Cmd} {ok : Bool} {nn : Int} {hs : Bool} {tm : T Value} {l : List (List UInt8)}
end
section
variable {h0 h : H} {lv : Value} {k Z D : Nat} {c : Cmd} {tm : T Value} {l : List (List UInt8)}
end
section
variable {h0 h : H} {lv : Value} {k Z D : Nat} {c : Cmd} {tm : T Value} {l : List (List UInt8)}
theorem SD.ld {c : Cmd} (a : SD h0 lv k Z D c tm h) (o : Nat) : ∀ s, loadOne h (.pointer (some ⟨D, o, s⟩)) = c.cells[o]? := fun s => loadOne_has a.bd rfl
end
end Go.Proofs.YtilpiiafjehbnaaGreatDoor
