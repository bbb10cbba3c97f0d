import Derived.Test.YtilpiiafjehbnaaGreatDoorZcQ
set_option linter.unusedSimpArgs false
set_option linter.unusedVariables false
namespace Go.Proofs.YtilpiiafjehbnaaGreatDoor
open Go.Ev
def st0 (rest : List (List UInt8)) : PS := ⟨rest, true, 0, 0, [], 0, 0, 0, 0, 0, [], false, -1⟩
def endP (E : PS → PS) (rest : List (List UInt8)) : RQ × Int × Bool := if badP (E (st0 rest)) = true then (.zero, 0, false) else (rqOf (E (st0 rest)), (E (st0 rest)).n, true)
theorem lineP_cut {l w : List UInt8} {rest : List (List UInt8)} (h : cutS l = w :: rest) : lineP l = match lookL' w cmdL with | none => (.zero, 0, false) | some E => endP E rest := by
 have e : PS.init l = ⟨w :: rest, true, 0, 0, [], 0, 0, 0, 0, 0, [], false, -1⟩ := by unfold PS.init; rw [h]
 unfold lineP
 rw [e]
 rfl
theorem endP_bad {E : PS → PS} {rest : List (List UInt8)} (h : badP (E (st0 rest)) = true) : endP E rest = (.zero, 0, false) := by unfold endP; rw [if_pos h]
theorem bad_ok {s : PS} (h : s.ok = false) : badP s = true := by unfold badP; rw [h]; rfl
theorem bad_ws {s : PS} {p : List UInt8} {r : List (List UInt8)} (h : s.ws = p :: r) : badP s = true := by
 unfold badP
 rw [h, dT (show (0 : Int) < ((p :: r).length : Int) by rw [List.length_cons]; omega), Bool.true_or, Bool.or_true]
def rqC (c : Cmd) : RQ := ⟨1, c.kind, c.keys, [], c.flags, c.fo, c.uniq, c.by', 0, [], false, false⟩
def cmdP (k : Nat) (rest : List (List UInt8)) : RQ × Int × Bool := if dOK k rest = true then (rqC (dC k rest nilV), dN k rest, true) else (.zero, 0, false)
theorem endP_eq {E : PS → PS} {k : Nat} {rest : List (List UInt8)} {ok : Bool} (hw : (E (st0 rest)).ws = []) (ho : (E (st0 rest)).ok = ok) (hk : (E (st0 rest)).kind = 1) (hc : (E (st0 rest)).ck = (k : Int))
   (hd : ((keysD k rest).all (okW 32) && okD k rest) = ok) (he : ok = true → rqOf (E (st0 rest)) = rqC (dC k rest nilV) ∧ (E (st0 rest)).n = dN k rest) : endP E rest = cmdP k rest := by
 unfold endP cmdP badP dOK
 generalize E (st0 rest) = s at *
 rw [← Bool.and_assoc, hd, hw, ho, hk, hc]
 cases ok with
 | false => rfl
 | true =>
   obtain ⟨e1, e2⟩ := he rfl
   have e3 : cmdOf s (.slice none 0 0) = dC k rest nilV := by
     unfold rqOf rqC at e1
     injection e1 with _ f2 f3 _ f5 f6 f7 f8 _ _ _ _
     unfold cmdOf
     rw [f2, f3, f5, f6, f7, f8]
     rfl
   rw [e3, e1, e2]
   have : ((k : Int)).toNat = k := rfl
   rw [this]
   cases mayB (dC k rest nilV) k <;> rfl
theorem zN_eq {w : List UInt8} {m : Nat} (hm : m < 18446744073709551616) (h : upN w m = true) : ((zN w m : Nat) : Int) = nu w := by
 rw [(zN_up hm h).1]; rfl
theorem and4 {a b c d : Bool} (h : (((true && a) && b) && c && d) = true) : a = true ∧ b = true ∧ c = true ∧ d = true := by
 cases a <;> cases b <;> cases c <;> cases d <;> simp_all
theorem puts_eq (k : Nat) (hk : k = 2 ∨ k = 3 ∨ k = 4) (rest : List (List UInt8)) : (rest.length = 4 → endP (cmdE k PS.puts) rest = cmdP k rest) ∧ (rest.length ≠ 4 → (endP (cmdE k PS.puts) rest).2.2 = false) := by
 have k5 : k25 k = true := by rcases hk with rfl | rfl | rfl <;> rfl
 rcases rest with _ | ⟨a, _ | ⟨b, _ | ⟨c, _ | ⟨d, _ | ⟨e, r⟩⟩⟩⟩⟩
 · exact ⟨fun h => by simp at h, fun _ => by rw [endP_bad (bad_ok rfl)]⟩
 · exact ⟨fun h => by simp at h, fun _ => by rw [endP_bad (bad_ok rfl)]⟩
 · exact ⟨fun h => by simp at h, fun _ => by rw [endP_bad (bad_ok rfl)]⟩
 · exact ⟨fun h => by simp at h, fun _ => by rw [endP_bad (bad_ok rfl)]⟩
 · refine ⟨fun _ => endP_eq (ok := (((true && okW 32 a) && upN b 4294967295) && upN c 1099511627776) && upN d 512) rfl rfl rfl rfl ?_ fun h => ?_, fun h => by simp at h⟩
   · rcases hk with rfl | rfl | rfl <;> (show ((okW 32 a && true) && (upN b 4294967295 && upN c 1099511627776 && upN d 512)) = _; cases okW 32 a <;> cases upN b 4294967295 <;> cases upN c 1099511627776 <;> cases upN d 512 <;> rfl)
   · obtain ⟨_, h2, h3, h4⟩ := and4 h
     have e2 := zN_eq (by decide) h2
     have e3 := zN_eq (by decide) h3
     have e4 := zN_eq (by decide) h4
     constructor
     · show (⟨1, (k : Int), [] ++ [a], [], IntKind.u32.wrap ((zN b 4294967295 : Nat) : Int), IntKind.i64.wrap ((zN c 1099511627776 : Nat) : Int), 0, 0, 0, [], false, false⟩ : RQ) = _
       rw [e2, e3]
       rcases hk with rfl | rfl | rfl <;> rfl
     · show IntKind.i64.wrap ((zN d 512 : Nat) : Int) = _
       rw [e4]
       rcases hk with rfl | rfl | rfl <;> rfl
 · exact ⟨fun h => by simp at h, fun _ => by rw [endP_bad (bad_ws rfl)]⟩
theorem cas_eq (rest : List (List UInt8)) : (rest.length = 5 → endP (cmdE 5 fun s => s.puts.uniqN) rest = cmdP 5 rest) ∧ (rest.length ≠ 5 → (endP (cmdE 5 fun s => s.puts.uniqN) rest).2.2 = false) := by
 rcases rest with _ | ⟨a, _ | ⟨b, _ | ⟨c, _ | ⟨d, _ | ⟨f, _ | ⟨e, r⟩⟩⟩⟩⟩⟩
 · exact ⟨fun h => by simp at h, fun _ => by rw [endP_bad (bad_ok rfl)]⟩
 · exact ⟨fun h => by simp at h, fun _ => by rw [endP_bad (bad_ok rfl)]⟩
 · exact ⟨fun h => by simp at h, fun _ => by rw [endP_bad (bad_ok rfl)]⟩
 · exact ⟨fun h => by simp at h, fun _ => by rw [endP_bad (bad_ok rfl)]⟩
 · exact ⟨fun h => by simp at h, fun _ => by rw [endP_bad (bad_ok rfl)]⟩
 · refine ⟨fun _ => endP_eq (ok := ((((true && okW 32 a) && upN b 4294967295) && upN c 1099511627776) && upN d 512) && upN f 18446744073709551615) rfl rfl rfl rfl ?_ fun h => ?_, fun h => by simp at h⟩
   · show ((okW 32 a && true) && ((upN b 4294967295 && upN c 1099511627776 && upN d 512) && upN f 18446744073709551615)) = _
     cases okW 32 a <;> cases upN b 4294967295 <;> cases upN c 1099511627776 <;> cases upN d 512 <;> cases upN f 18446744073709551615 <;> rfl
   · obtain ⟨h', h5⟩ := (Bool.and_eq_true _ _ ▸ h : _ ∧ _)
     obtain ⟨_, h2, h3, h4⟩ := and4 h'
     have e2 := zN_eq (by decide) h2
     have e3 := zN_eq (by decide) h3
     have e4 := zN_eq (by decide) h4
     have e5 := zN_eq (by decide) h5
     constructor
     · show (⟨1, 5, [] ++ [a], [], IntKind.u32.wrap ((zN b 4294967295 : Nat) : Int), IntKind.i64.wrap ((zN c 1099511627776 : Nat) : Int), ((zN f 18446744073709551615 : Nat) : Int), 0, 0, [], false, false⟩ : RQ) = _
       rw [e2, e3, e5]
       rfl
     · show IntKind.i64.wrap ((zN d 512 : Nat) : Int) = _
       rw [e4]
       rfl
 · exact ⟨fun h => by simp at h, fun _ => by rw [endP_bad (bad_ws rfl)]⟩
theorem by_eq' (k : Nat) (hk : k = 6 ∨ k = 7) (rest : List (List UInt8)) : (rest.length = 2 → endP (cmdE k fun s => s.key.byN) rest = cmdP k rest) ∧ (rest.length ≠ 2 → (endP (cmdE k fun s => s.key.byN) rest).2.2 = false) := by
 rcases rest with _ | ⟨a, _ | ⟨b, _ | ⟨e, r⟩⟩⟩
 · exact ⟨fun h => by simp at h, fun _ => by rw [endP_bad (bad_ok rfl)]⟩
 · exact ⟨fun h => by simp at h, fun _ => by rw [endP_bad (bad_ok rfl)]⟩
 · refine ⟨fun _ => endP_eq (ok := (true && okW 32 a) && upN b 18446744073709551615) rfl rfl rfl rfl ?_ fun h => ?_, fun h => by simp at h⟩
   · rcases hk with rfl | rfl <;> (show ((okW 32 a && true) && upN b 18446744073709551615) = _; cases okW 32 a <;> cases upN b 18446744073709551615 <;> rfl)
   · obtain ⟨_, h2⟩ := (Bool.and_eq_true _ _ ▸ h : _ ∧ _)
     have e2 := zN_eq (by decide) h2
     constructor
     · show (⟨1, (k : Int), [] ++ [a], [], 0, 0, 0, ((zN b 18446744073709551615 : Nat) : Int), 0, [], false, false⟩ : RQ) = _
       rw [e2]
       rcases hk with rfl | rfl <;> rfl
     · rcases hk with rfl | rfl <;> rfl
 · exact ⟨fun h => by simp at h, fun _ => by rw [endP_bad (bad_ws rfl)]⟩
theorem append_eq' (rest : List (List UInt8)) : (rest.length = 2 → endP (cmdE 8 fun s => s.key.nN) rest = cmdP 8 rest) ∧ (rest.length ≠ 2 → (endP (cmdE 8 fun s => s.key.nN) rest).2.2 = false) := by
 rcases rest with _ | ⟨a, _ | ⟨b, _ | ⟨e, r⟩⟩⟩
 · exact ⟨fun h => by simp at h, fun _ => by rw [endP_bad (bad_ok rfl)]⟩
 · exact ⟨fun h => by simp at h, fun _ => by rw [endP_bad (bad_ok rfl)]⟩
 · refine ⟨fun _ => endP_eq (ok := (true && okW 32 a) && upN b 512) rfl rfl rfl rfl ?_ fun h => ?_, fun h => by simp at h⟩
   · show ((okW 32 a && true) && upN b 512) = _
     cases okW 32 a <;> cases upN b 512 <;> rfl
   · obtain ⟨_, h2⟩ := (Bool.and_eq_true _ _ ▸ h : _ ∧ _)
     have e2 := zN_eq (by decide) h2
     refine ⟨rfl, ?_⟩
     show IntKind.i64.wrap ((zN b 512 : Nat) : Int) = _
     rw [e2]
     rfl
 · exact ⟨fun h => by simp at h, fun _ => by rw [endP_bad (bad_ws rfl)]⟩
theorem touch_eq' (rest : List (List UInt8)) : (rest.length = 2 → endP (cmdE 9 fun s => s.key.foN) rest = cmdP 9 rest) ∧ (rest.length ≠ 2 → (endP (cmdE 9 fun s => s.key.foN) rest).2.2 = false) := by
 rcases rest with _ | ⟨a, _ | ⟨b, _ | ⟨e, r⟩⟩⟩
 · exact ⟨fun h => by simp at h, fun _ => by rw [endP_bad (bad_ok rfl)]⟩
 · exact ⟨fun h => by simp at h, fun _ => by rw [endP_bad (bad_ok rfl)]⟩
 · refine ⟨fun _ => endP_eq (ok := (true && okW 32 a) && upN b 1099511627776) rfl rfl rfl rfl ?_ fun h => ?_, fun h => by simp at h⟩
   · show ((okW 32 a && true) && upN b 1099511627776) = _
     cases okW 32 a <;> cases upN b 1099511627776 <;> rfl
   · obtain ⟨_, h2⟩ := (Bool.and_eq_true _ _ ▸ h : _ ∧ _)
     have e2 := zN_eq (by decide) h2
     refine ⟨?_, rfl⟩
     show (⟨1, 9, [] ++ [a], [], 0, IntKind.i64.wrap ((zN b 1099511627776 : Nat) : Int), 0, 0, 0, [], false, false⟩ : RQ) = _
     rw [e2]
     rfl
 · exact ⟨fun h => by simp at h, fun _ => by rw [endP_bad (bad_ws rfl)]⟩
theorem flush_eq' (rest : List (List UInt8)) : (rest.length = 0 → endP (cmdE 11 fun s => s) rest = cmdP 11 rest) ∧ (rest.length ≠ 0 → (endP (cmdE 11 fun s => s) rest).2.2 = false) := by
 rcases rest with _ | ⟨e, r⟩
 · exact ⟨fun _ => endP_eq (ok := true) rfl rfl rfl rfl rfl fun _ => ⟨rfl, rfl⟩, fun h => by simp at h⟩
 · exact ⟨fun h => by simp at h, fun _ => by rw [endP_bad (bad_ws rfl)]⟩
theorem all_eq : ∀ (r : List (List UInt8)) (s : PS), s.ws = r → PS.all r.length s = { s with ws := [], ok := s.ok && r.all (okW 32), keys := s.keys ++ r }
 | [], s, h => by
   obtain ⟨ws, ok, kind, ck, keys, flags, fo, uniq, by', rten, sec, on, n⟩ := s
   dsimp only at h
   subst h
   show (⟨[], ok, kind, ck, keys, flags, fo, uniq, by', rten, sec, on, n⟩ : PS) = ⟨[], ok && true, kind, ck, keys ++ [], flags, fo, uniq, by', rten, sec, on, n⟩
   rw [Bool.and_true, List.append_nil]
 | p :: r, s, h => by
   rw [List.length_cons]
   unfold PS.all
   rw [if_neg (by rw [h]; simp)]
   obtain ⟨ws, ok, kind, ck, keys, flags, fo, uniq, by', rten, sec, on, n⟩ := s
   dsimp only at h
   subst h
   rw [all_eq r _ rfl]
   show (⟨[], (ok && okW 32 p) && r.all (okW 32), kind, ck, (keys ++ [p]) ++ r, flags, fo, uniq, by', rten, sec, on, n⟩ : PS) = ⟨[], ok && (p :: r).all (okW 32), kind, ck, keys ++ p :: r, flags, fo, uniq, by', rten, sec, on, n⟩
   rw [List.all_cons, Bool.and_assoc, List.append_assoc]
   rfl
theorem get_eq' (k : Nat) (hk : k = 1 ∨ k = 10) (rest : List (List UInt8)) : (1 ≤ rest.length → endP (cmdE k PS.keys') rest = cmdP k rest) ∧ (rest.length < 1 → (endP (cmdE k PS.keys') rest).2.2 = false) := by
 rcases rest with _ | ⟨a, r⟩
 · exact ⟨fun h => by simp at h, fun _ => by rw [endP_bad (bad_ok rfl)]⟩
 · refine ⟨fun _ => ?_, fun h => by simp at h⟩
   have e : cmdE k PS.keys' (st0 (a :: r)) = ⟨[], (true && okW 32 a) && r.all (okW 32), 1, k, ([] ++ [a]) ++ r, 0, 0, 0, 0, 0, [], false, -1⟩ := by
     show PS.all r.length _ = _
     rw [all_eq r _ rfl]
     rfl
   refine endP_eq (ok := (true && okW 32 a) && r.all (okW 32)) (by rw [e]) (by rw [e]) (by rw [e]) (by rw [e]) ?_ fun h => ?_
   · rcases hk with rfl | rfl <;> (show ((okW 32 a && r.all (okW 32)) && true) = _; cases okW 32 a <;> cases r.all (okW 32) <;> rfl)
   · rw [e]
     rcases hk with rfl | rfl <;> exact ⟨rfl, rfl⟩
def failL : RQ × Int × Bool := (.zero, 0, false)
theorem user_eq (rest : List (List UInt8)) : (rest.length ≠ 2 → (endP PS.user rest).2.2 = false) ∧ ∀ a b, rest = [a, b] → endP PS.user rest = if (upN a 3 && okW 16 b) = true then (⟨2, 0, [], [], 0, 0, 0, 0, IntKind.i64.wrap (nu a), b, false, false⟩, -1, true) else failL := by
 rcases rest with _ | ⟨a, _ | ⟨b, _ | ⟨e, r⟩⟩⟩
 · exact ⟨fun _ => by rw [endP_bad (bad_ok rfl)], fun _ _ h => by simp at h⟩
 · exact ⟨fun _ => by rw [endP_bad (bad_ok rfl)], fun _ _ h => by simp at h⟩
 · refine ⟨fun h => by simp at h, fun a' b' h => ?_⟩
   injection h with h1 h2
   injection h2 with h2 _
   subst h1 h2
   have e : PS.user (st0 [a, b]) = ⟨[], (true && upN a 3) && okW 16 b, 2, 0, [], 0, 0, 0, 0, IntKind.i64.wrap ((zN a 3 : Nat) : Int), b, false, -1⟩ := rfl
   unfold endP
   rw [e]
   cases h1 : upN a 3 with
   | false => rfl
   | true =>
     rw [zN_eq (by decide) h1]
     cases okW 16 b <;> rfl
 · exact ⟨fun _ => by rw [endP_bad (bad_ws rfl)], fun _ _ h => by simp at h⟩
theorem track_eq (rest : List (List UInt8)) : (rest.length ≠ 1 → (endP PS.track rest).2.2 = false) ∧ ∀ a, rest = [a] → endP PS.track rest = if (decide (a = onW) || decide (a = offW)) = true then (⟨3, 0, [], [], 0, 0, 0, 0, 0, [], decide (a = onW), false⟩, -1, true) else failL := by
 rcases rest with _ | ⟨a, _ | ⟨e, r⟩⟩
 · exact ⟨fun _ => by rw [endP_bad (bad_ok rfl)], fun _ h => by simp at h⟩
 · refine ⟨fun h => by simp at h, fun a' h => ?_⟩
   injection h with h1 _
   subst h1
   have e : PS.track (st0 [a]) = ⟨[], true && (decide (a = onW) || decide (a = offW)), 3, 0, [], 0, 0, 0, 0, 0, [], decide (a = onW), -1⟩ := rfl
   unfold endP
   rw [e]
   cases (decide (a = onW) || decide (a = offW)) <;> rfl
 · exact ⟨fun _ => by rw [endP_bad (bad_ws rfl)], fun _ h => by simp at h⟩
theorem ping_eq (k : Int) (hk : k = 4 ∨ k = 5) (rest : List (List UInt8)) : (rest.length ≠ 0 → (endP (fun s => { s with kind := k }) rest).2.2 = false) ∧ (rest.length = 0 → endP (fun s => { s with kind := k }) rest = (⟨k, 0, [], [], 0, 0, 0, 0, 0, [], false, false⟩, -1, true)) := by
 rcases rest with _ | ⟨e, r⟩
 · refine ⟨fun h => by simp at h, fun _ => ?_⟩
   rcases hk with rfl | rfl <;> rfl
 · exact ⟨fun _ => by rw [endP_bad (bad_ws rfl)], fun h => by simp at h⟩
def CntOK (many : Int) (rest : List (List UInt8)) : Prop := (0 ≤ many → (rest.length : Int) = many) ∧ (many < 0 → 1 ≤ rest.length)
structure CmdK (k : Nat) (many : Int) (E : PS → PS) : Prop where
 hk : 1 ≤ k ∧ k ≤ 11
 hm : -1 ≤ many ∧ many ≤ 5
 good : ∀ rest : List (List UInt8), CntOK many rest → endP E rest = cmdP k rest ∧ ((rest.length ≤ 1000 ∧ ∀ p ∈ rest, p.length ≤ 1000) → Cnt k rest)
 bad : ∀ rest, ¬ CntOK many rest → (endP E rest).2.2 = false
theorem cmdK_n {k n : Nat} {E : PS → PS} (hk : 1 ≤ k ∧ k ≤ 11) (hn : n ≤ 5) (h1 : k ≠ 11 → 1 ≤ n) (hA : k25 k = true → 4 ≤ n) (hB : k = 5 → 5 ≤ n) (hC : k67 k = true → 2 ≤ n) (hD : k = 8 → 2 ≤ n) (hE : k = 9 → 2 ≤ n)
   (h : ∀ rest : List (List UInt8), (rest.length = n → endP E rest = cmdP k rest) ∧ (rest.length ≠ n → (endP E rest).2.2 = false)) : CmdK k (n : Int) E := by
 refine ⟨hk, by omega, fun rest hc => ?_, fun rest hc => (h rest).2 fun e => hc ⟨fun _ => by rw [e], fun h => by omega⟩⟩
 have e : rest.length = n := by have := hc.1 (by omega); omega
 subst e
 exact ⟨(h rest).1 rfl, fun hw => ⟨hk, h1, hA, hB, hC, hD, hE, hw.1, hw.2⟩⟩
theorem cmdK_get {k : Nat} (hk : k = 1 ∨ k = 10) : CmdK k (-1) (cmdE k PS.keys') := by
 have hg := get_eq' k hk
 refine ⟨by omega, by omega, fun rest hc => ?_, fun rest hc => (hg rest).2 ?_⟩
 · have e : 1 ≤ rest.length := hc.2 (by omega)
   refine ⟨(hg rest).1 e, fun hw => ⟨by omega, fun _ => e, fun h => ?_, fun h => by omega, fun h => ?_, fun h => by omega, fun h => by omega, hw.1, hw.2⟩⟩
   · rcases hk with rfl | rfl <;> exact absurd h (by decide)
   · rcases hk with rfl | rfl <;> exact absurd h (by decide)
 · by_cases e : rest.length < 1
   · exact e
   · exact absurd (show CntOK (-1) rest from ⟨fun h => absurd h (by decide), fun _ => by omega⟩) hc
theorem kind_cases (w : List UInt8) : (∃ k many E, kindW w = (k, many) ∧ lookL' w cmdL = some E ∧ CmdK k many E) ∨ (kindW w = (0, 0) ∧ ((w = [117, 115, 101, 114] ∧ lookL' w cmdL = some PS.user) ∨ (w = [116, 114, 97, 99, 107] ∧ lookL' w cmdL = some PS.track) ∨ (w = [112, 105, 110, 103] ∧ lookL' w cmdL = some fun s => { s with kind := 4 }) ∨ (w = [113, 117, 105, 116] ∧ lookL' w cmdL = some fun s => { s with kind := 5 }) ∨ (w ≠ [117, 115, 101, 114] ∧ w ≠ [116, 114, 97, 99, 107] ∧ w ≠ [112, 105, 110, 103] ∧ w ≠ [113, 117, 105, 116] ∧ lookL' w cmdL = none))) := by
 by_cases g0 : w = [103, 101, 116]
 · subst g0
   exact .inl ⟨1, -1, cmdE 1 PS.keys', rfl, rfl, cmdK_get (by decide)⟩
 by_cases g1 : w = [115, 101, 116]
 · subst g1
   exact .inl ⟨2, 4, cmdE 2 PS.puts, rfl, rfl, cmdK_n (n := 4) (by decide) (by decide) (by decide) (by decide) (by decide) (by decide) (by decide) (by decide) (puts_eq 2 (by decide))⟩
 by_cases g2 : w = [97, 100, 100]
 · subst g2
   exact .inl ⟨3, 4, cmdE 3 PS.puts, rfl, rfl, cmdK_n (n := 4) (by decide) (by decide) (by decide) (by decide) (by decide) (by decide) (by decide) (by decide) (puts_eq 3 (by decide))⟩
 by_cases g3 : w = [114, 101, 112, 108, 97, 99, 101]
 · subst g3
   exact .inl ⟨4, 4, cmdE 4 PS.puts, rfl, rfl, cmdK_n (n := 4) (by decide) (by decide) (by decide) (by decide) (by decide) (by decide) (by decide) (by decide) (puts_eq 4 (by decide))⟩
 by_cases g4 : w = [99, 97, 115]
 · subst g4
   exact .inl ⟨5, 5, cmdE 5 (fun s => s.puts.uniqN), rfl, rfl, cmdK_n (n := 5) (by decide) (by decide) (by decide) (by decide) (by decide) (by decide) (by decide) (by decide) cas_eq⟩
 by_cases g5 : w = [105, 110, 99, 114]
 · subst g5
   exact .inl ⟨6, 2, cmdE 6 (fun s => s.key.byN), rfl, rfl, cmdK_n (n := 2) (by decide) (by decide) (by decide) (by decide) (by decide) (by decide) (by decide) (by decide) (by_eq' 6 (by decide))⟩
 by_cases g6 : w = [100, 101, 99, 114]
 · subst g6
   exact .inl ⟨7, 2, cmdE 7 (fun s => s.key.byN), rfl, rfl, cmdK_n (n := 2) (by decide) (by decide) (by decide) (by decide) (by decide) (by decide) (by decide) (by decide) (by_eq' 7 (by decide))⟩
 by_cases g7 : w = [97, 112, 112, 101, 110, 100]
 · subst g7
   exact .inl ⟨8, 2, cmdE 8 (fun s => s.key.nN), rfl, rfl, cmdK_n (n := 2) (by decide) (by decide) (by decide) (by decide) (by decide) (by decide) (by decide) (by decide) append_eq'⟩
 by_cases g8 : w = [116, 111, 117, 99, 104]
 · subst g8
   exact .inl ⟨9, 2, cmdE 9 (fun s => s.key.foN), rfl, rfl, cmdK_n (n := 2) (by decide) (by decide) (by decide) (by decide) (by decide) (by decide) (by decide) (by decide) touch_eq'⟩
 by_cases g9 : w = [100, 101, 108, 101, 116, 101]
 · subst g9
   exact .inl ⟨10, -1, cmdE 10 PS.keys', rfl, rfl, cmdK_get (by decide)⟩
 by_cases g10 : w = [102, 108, 117, 115, 104]
 · subst g10
   exact .inl ⟨11, 0, cmdE 11 (fun s => s), rfl, rfl, cmdK_n (n := 0) (by decide) (by decide) (by decide) (by decide) (by decide) (by decide) (by decide) (by decide) flush_eq'⟩
 have hk : kindW w = (0, 0) := by unfold kindW; simp only [if_neg g0, if_neg g1, if_neg g2, if_neg g3, if_neg g4, if_neg g5, if_neg g6, if_neg g7, if_neg g8, if_neg g9, if_neg g10]
 refine .inr ⟨hk, ?_⟩
 by_cases s0 : w = [117, 115, 101, 114]
 · subst s0
   exact .inl ⟨rfl, rfl⟩
 by_cases s1 : w = [116, 114, 97, 99, 107]
 · subst s1
   exact .inr (.inl ⟨rfl, rfl⟩)
 by_cases s2 : w = [112, 105, 110, 103]
 · subst s2
   exact .inr (.inr (.inl ⟨rfl, rfl⟩))
 by_cases s3 : w = [113, 117, 105, 116]
 · subst s3
   exact .inr (.inr (.inr (.inl ⟨rfl, rfl⟩)))
 exact .inr (.inr (.inr (.inr ⟨s0, s1, s2, s3, by simp only [lookL', cmdL, if_neg g0, if_neg g1, if_neg g2, if_neg g3, if_neg g4, if_neg g5, if_neg g6, if_neg g7, if_neg g8, if_neg g9, if_neg g10, if_neg s0, if_neg s1, if_neg s2, if_neg s3]⟩)))
structure S31 (h0 : H) (Z : Nat) (lv : Value) (w : List UInt8) (rest : List (List UInt8)) (tm : T Value) (h : H) : Prop where
 t2 : tg tm 2 = .pointer (some ⟨Z, 0, none⟩)
 t5 : tg tm 5 = lv
 hs : Strs h lv (w :: rest)
 bz : Has h Z (.rw (RQ.zero.cells nilV) (some 28))
 zl : h0.next ≤ Z
 ln : ∀ b, blk lv b → b ≠ Z
 keep : Keep nobody h0 h
theorem S31.to {h0 h h' : H} {Z : Nat} {lv : Value} {w : List UInt8} {rest : List (List UInt8)} {tm tm' : T Value} (a : S31 h0 Z lv w rest tm h) (kp : Keep nobody h h') (e2 : tg tm' 2 = tg tm 2) (e5 : tg tm' 5 = tg tm 5) : S31 h0 Z lv w rest tm' h' := ⟨e2.trans a.t2, e5.trans a.t5, a.hs.keep0 kp, a.bz.keep0 kp, a.zl, a.ln, a.keep.then kp⟩
section
variable {l w : List UInt8} {rest : List (List UInt8)} {h0 h : H} {Z : Nat} {lv : Value} {tm : T Value}
end
section
variable {l w : List UInt8} {rest : List (List UInt8)} {h0 h : H} {Z : Nat} {lv : Value} {tm : T Value}
theorem S31.word (a : S31 h0 Z lv w rest tm h) {i : Nat} {p : List UInt8} (hp : (w :: rest)[i]? = some p) : ∃ b o, indexSl 1 lv (.int .i64 (i : Int)) = some (.pointer (some ⟨b, o, Option.none⟩)) ∧ (∀ h', Keep nobody h h' → ∀ s, loadOne h' (.pointer (some ⟨b, o, s⟩)) = some (sv p)) ∧ ∀ h' x, Keep nobody h h' → ∀ s, loadOne (h'.put Z x) (.pointer (some ⟨b, o, s⟩)) = some (sv p) := by
 obtain ⟨b, o, e1, e2⟩ := a.hs.load hp
 exact ⟨b, o, e1, fun h' k s => e2 h' (a.hs.keep0 k) s, fun h' x k s => e2 _ ((a.hs.keep0 k).keep (Keep.put h' Z x) a.ln) s⟩
end
end Go.Proofs.YtilpiiafjehbnaaGreatDoor
