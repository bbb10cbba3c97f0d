import Derived.Test.YtilpiiafjehbnaaGreatDoorZcQ
set_option linter.unusedSimpArgs false
set_option linter.unusedVariables false
namespace Go.Proofs.YtilpiiafjehbnaaGreatDoor
open Go.Ev
end Go.Proofs.YtilpiiafjehbnaaGreatDoor
namespace Go.Proofs.YtilpiiafjehbnaaGreatDoor
open Go.Ev
end Go.Proofs.YtilpiiafjehbnaaGreatDoor
namespace Go.Proofs.YtilpiiafjehbnaaGreatDoor
open Go.Ev
def LineD (l : List UInt8) (h0 : H) (r : Value) (h' : H) : Prop := Keep nobody h0 h' ∧ ∃ q kv m, r = .tuple #[q.v kv, .int .i64 m, .bool (lineP l).2.2] ∧ Strs h' kv q.keys ∧ (∀ c, blk kv c → h0.next ≤ c) ∧ ((lineP l).2.2 = true → q = (lineP l).1 ∧ m = (lineP l).2.1)
theorem ret31 {l : List UInt8} {h0 h : H} {Z : Nat} {m : Int} {b : Bool} {tm : T Value} {q : RQ} {kv : Value} (t2 : tg tm 2 = .pointer (some ⟨Z, 0, none⟩)) (t3 : tg tm 3 = .int .i64 m) (t4 : tg tm 4 = .bool b) (hz : Has h Z (.rw (q.cells kv) (some 28))) (hk : Keep nobody h0 h) (hs : Strs h kv q.keys) (hown : ∀ c, blk kv c → h0.next ≤ c) (hb : (lineP l).2.2 = b) (e : b = true → q = (lineP l).1 ∧ m = (lineP l).2.1) :
   ∃ r, q31.f tm h = some r ∧ LineD l h0 (resOf r) h := by
 refine ⟨[q.v kv, .int .i64 m, .bool b], by simp only [↓opStep_eq, ↓reduceIte, ↓EW, EV, Nat.reduceAdd, Nat.reduceEqDiff, Int.reduceEq, Int.reduceLT, Int.reduceLE, Int.reduceNe, seqC, retC, skipC, exitC, blockC, condC, q31, t2, t3, t4, get13 hz], hk, q, kv, m, by rw [hb]; rfl, hs, hown, by rw [hb]; exact e⟩
structure S31 (h0 : H) (Z : Nat) (lv : Value) (w : List UInt8) (rest : List (List UInt8)) (tm : T Value) (h : H) : Prop where
 t2 : tg tm 2 = .pointer (some ⟨Z, 0, none⟩)
 t5 : tg tm 5 = lv
 hs : Strs h lv (w :: rest)
 bz : Has h Z (.rw (RQ.zero.cells nilV) (some 28))
 zl : h0.next ≤ Z
 ln : ∀ b, blk lv b → b ≠ Z
 keep : Keep nobody h0 h
theorem S31.to {h0 h h' : H} {Z : Nat} {lv : Value} {w : List UInt8} {rest : List (List UInt8)} {tm tm' : T Value} (a : S31 h0 Z lv w rest tm h) (kp : Keep nobody h h') (e2 : tg tm' 2 = tg tm 2) (e5 : tg tm' 5 = tg tm 5) : S31 h0 Z lv w rest tm' h' := ⟨e2.trans a.t2, e5.trans a.t5, a.hs.keep0 kp, a.bz.keep0 kp, a.zl, a.ln, a.keep.then kp⟩
section
variable {l w : List UInt8} {rest : List (List UInt8)} {h0 h : H} {Z : Nat} {lv : Value} {tm : T Value}
theorem S31.none (a : S31 h0 Z lv w rest tm h) (hb : (lineP l).2.2 = false) {tm' : T Value} (t2 : tg tm' 2 = .pointer (some ⟨Z, 0, Option.none⟩)) (t3 : tg tm' 3 = .int .i64 0) (t4 : tg tm' 4 = .bool false) : ∃ r, q31.f tm' (h.put Z (.rw (RQ.zero.cells nilV) (some 28))) = some r ∧ LineD l h0 (resOf r) (h.put Z (.rw (RQ.zero.cells nilV) (some 28))) :=
 ret31 t2 t3 t4 (Has.put a.bz.1) (put_old a.keep a.zl) (strs_nil _) (nil_own _) hb fun e => by cases e
end
end Go.Proofs.YtilpiiafjehbnaaGreatDoor
namespace Go.Proofs.YtilpiiafjehbnaaGreatDoor
open Go.Ev
section
variable {l w : List UInt8} {rest : List (List UInt8)} {h0 h : H} {Z : Nat} {lv : Value} {tm : T Value}
theorem S31.word (a : S31 h0 Z lv w rest tm h) {i : Nat} {p : List UInt8} (hp : (w :: rest)[i]? = some p) : ∃ b o, indexSl 1 lv (.int .i64 (i : Int)) = some (.pointer (some ⟨b, o, Option.none⟩)) ∧ (∀ h', Keep nobody h h' → ∀ s, loadOne h' (.pointer (some ⟨b, o, s⟩)) = some (sv p)) ∧ ∀ h' x, Keep nobody h h' → ∀ s, loadOne (h'.put Z x) (.pointer (some ⟨b, o, s⟩)) = some (sv p) := by
 obtain ⟨b, o, e1, e2⟩ := a.hs.load hp
 exact ⟨b, o, e1, fun h' k s => e2 h' (a.hs.keep0 k) s, fun h' x k s => e2 _ ((a.hs.keep0 k).keep (Keep.put h' Z x) a.ln) s⟩
theorem S31.put (a : S31 h0 Z lv w rest tm h) {q : RQ} {b : Bool} (hb : (lineP l).2.2 = b) (e : b = true → q = (lineP l).1 ∧ -1 = (lineP l).2.1) (hk : q.keys = []) {tm' : T Value} (t2 : tg tm' 2 = .pointer (some ⟨Z, 0, Option.none⟩)) (t3 : tg tm' 3 = .int .i64 (-1)) (t4 : tg tm' 4 = .bool b) : ∃ r, q31.f tm' (h.put Z (.rw (q.cells nilV) (some 28))) = some r ∧ LineD l h0 (resOf r) (h.put Z (.rw (q.cells nilV) (some 28))) :=
 ret31 t2 t3 t4 (Has.put a.bz.1) (put_old a.keep a.zl) (by rw [hk]; exact strs_nil _) (nil_own _) hb e
end
end Go.Proofs.YtilpiiafjehbnaaGreatDoor
namespace Go.Proofs.YtilpiiafjehbnaaGreatDoor
open Go.Ev
end Go.Proofs.YtilpiiafjehbnaaGreatDoor
