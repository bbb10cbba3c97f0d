import Derived.Test.YtilpiiafjehbnaaGreatDoorZcQ
set_option linter.unusedSimpArgs false
set_option linter.unusedVariables false
namespace Go.Proofs.YtilpiiafjehbnaaGreatDoor
open Go.Ev
structure S31 (h0 : H) (Z : Nat) (lv : Value) (w : List UInt8) (rest : List (List UInt8)) (tm : T Value) (h : H) : Prop where
 t2 : tg tm 2 = .pointer (some ⟨Z, 0, none⟩)
 t5 : tg tm 5 = lv
 hs : Strs h lv (w :: rest)
 bz : Has h Z (.rw (RQ.zero.cells nilV) (some 28))
 zl : h0.next ≤ Z
 ln : ∀ b, blk lv b → b ≠ Z
 keep : Keep nobody h0 h
theorem S31.to {h0 h h' : H} {Z : Nat} {lv : Value} {w : List UInt8} {rest : List (List UInt8)} {tm tm' : T Value} (a : S31 h0 Z lv w rest tm h) (kp : Keep nobody h h') (e2 : tg tm' 2 = tg tm 2) (e5 : tg tm' 5 = tg tm 5) : S31 h0 Z lv w rest tm' h' := ⟨e2.trans a.t2, e5.trans a.t5, a.hs.keep0 kp, a.bz.keep0 kp, a.zl, a.ln, a.keep.then kp⟩
section
variable {l w : List UInt8} {rest : List (List UInt8)} {h0 h : H} {Z : Nat} {lv : Value} {tm : T Value}
end
section
variable {l w : List UInt8} {rest : List (List UInt8)} {h0 h : H} {Z : Nat} {lv : Value} {tm : T Value}
theorem S31.word (a : S31 h0 Z lv w rest tm h) {i : Nat} {p : List UInt8} (hp : (w :: rest)[i]? = some p) : ∃ b o, indexSl 1 lv (.int .i64 (i : Int)) = some (.pointer (some ⟨b, o, Option.none⟩)) ∧ (∀ h', Keep nobody h h' → ∀ s, loadOne h' (.pointer (some ⟨b, o, s⟩)) = some (sv p)) ∧ ∀ h' x, Keep nobody h h' → ∀ s, loadOne (h'.put Z x) (.pointer (some ⟨b, o, s⟩)) = some (sv p) := by
 obtain ⟨b, o, e1, e2⟩ := a.hs.load hp
 exact ⟨b, o, e1, fun h' k s => e2 h' (a.hs.keep0 k) s, fun h' x k s => e2 _ ((a.hs.keep0 k).keep (Keep.put h' Z x) a.ln) s⟩
end
end Go.Proofs.YtilpiiafjehbnaaGreatDoor
