import Derived.Test.YtilpiiafjehbnaaGreatDoorZcQ
set_option linter.unusedSimpArgs false
set_option linter.unusedVariables false
namespace Go.Proofs.YtilpiiafjehbnaaGreatDoor
open Go.Ev
def st0 (rest : List (List UInt8)) : PS := ⟨rest, true, 0, 0, [], 0, 0, 0, 0, 0, [], false, -1⟩
def endP (E : PS → PS) (rest : List (List UInt8)) : RQ × Int × Bool := if badP (E (st0 rest)) = true then (.zero, 0, false) else (rqOf (E (st0 rest)), (E (st0 rest)).n, true)
theorem lineP_cut {l w : List UInt8} {rest : List (List UInt8)} (h : cutS l = w :: rest) : lineP l = match lookL' w cmdL with | none => (.zero, 0, false) | some E => endP E rest := by
 have e : PS.init l = ⟨w :: rest, true, 0, 0, [], 0, 0, 0, 0, 0, [], false, -1⟩ := by unfold PS.init; rw [h]
 unfold lineP
 rw [e]
 rfl
theorem endP_bad {E : PS → PS} {rest : List (List UInt8)} (h : badP (E (st0 rest)) = true) : endP E rest = (.zero, 0, false) := by unfold endP; rw [if_pos h]
theorem bad_ok {s : PS} (h : s.ok = false) : badP s = true := by unfold badP; rw [h]; rfl
theorem bad_ws {s : PS} {p : List UInt8} {r : List (List UInt8)} (h : s.ws = p :: r) : badP s = true := by
 unfold badP
 rw [h, dT (show (0 : Int) < ((p :: r).length : Int) by rw [List.length_cons]; omega), Bool.true_or, Bool.or_true]
def rqC (c : Cmd) : RQ := ⟨1, c.kind, c.keys, [], c.flags, c.fo, c.uniq, c.by', 0, [], false, false⟩
def cmdP (k : Nat) (rest : List (List UInt8)) : RQ × Int × Bool := if dOK k rest = true then (rqC (dC k rest nilV), dN k rest, true) else (.zero, 0, false)
theorem endP_eq {E : PS → PS} {k : Nat} {rest : List (List UInt8)} {ok : Bool} (hw : (E (st0 rest)).ws = []) (ho : (E (st0 rest)).ok = ok) (hk : (E (st0 rest)).kind = 1) (hc : (E (st0 rest)).ck = (k : Int))
   (hd : ((keysD k rest).all (okW 32) && okD k rest) = ok) (he : ok = true → rqOf (E (st0 rest)) = rqC (dC k rest nilV) ∧ (E (st0 rest)).n = dN k rest) : endP E rest = cmdP k rest := by
 unfold endP cmdP badP dOK
 generalize E (st0 rest) = s at *
 rw [← Bool.and_assoc, hd, hw, ho, hk, hc]
 cases ok with
 | false => rfl
 | true =>
   obtain ⟨e1, e2⟩ := he rfl
   have e3 : cmdOf s (.slice none 0 0) = dC k rest nilV := by
     unfold rqOf rqC at e1
     injection e1 with _ f2 f3 _ f5 f6 f7 f8 _ _ _ _
     unfold cmdOf
     rw [f2, f3, f5, f6, f7, f8]
     rfl
   rw [e3, e1, e2]
   have : ((k : Int)).toNat = k := rfl
   rw [this]
   cases mayB (dC k rest nilV) k <;> rfl
theorem zN_eq {w : List UInt8} {m : Nat} (hm : m < 18446744073709551616) (h : upN w m = true) : ((zN w m : Nat) : Int) = nu w := by
 rw [(zN_up hm h).1]; rfl
theorem and4 {a b c d : Bool} (h : (((true && a) && b) && c && d) = true) : a = true ∧ b = true ∧ c = true ∧ d = true := by
 cases a <;> cases b <;> cases c <;> cases d <;> simp_all
theorem puts_eq (k : Nat) (hk : k = 2 ∨ k = 3 ∨ k = 4) (rest : List (List UInt8)) : (rest.length = 4 → endP (cmdE k PS.puts) rest = cmdP k rest) ∧ (rest.length ≠ 4 → (endP (cmdE k PS.puts) rest).2.2 = false) := by
 have k5 : k25 k = true := by rcases hk with rfl | rfl | rfl <;> rfl
 rcases rest with _ | ⟨a, _ | ⟨b, _ | ⟨c, _ | ⟨d, _ | ⟨e, r⟩⟩⟩⟩⟩
 · exact ⟨fun h => by simp at h, fun _ => by rw [endP_bad (bad_ok rfl)]⟩
 · exact ⟨fun h => by simp at h, fun _ => by rw [endP_bad (bad_ok rfl)]⟩
 · exact ⟨fun h => by simp at h, fun _ => by rw [endP_bad (bad_ok rfl)]⟩
 · exact ⟨fun h => by simp at h, fun _ => by rw [endP_bad (bad_ok rfl)]⟩
 · refine ⟨fun _ => endP_eq (ok := (((true && okW 32 a) && upN b 4294967295) && upN c 1099511627776) && upN d 512) rfl rfl rfl rfl ?_ fun h => ?_, fun h => by simp at h⟩
   · rcases hk with rfl | rfl | rfl <;> (show ((okW 32 a && true) && (upN b 4294967295 && upN c 1099511627776 && upN d 512)) = _; cases okW 32 a <;> cases upN b 4294967295 <;> cases upN c 1099511627776 <;> cases upN d 512 <;> rfl)
   · obtain ⟨_, h2, h3, h4⟩ := and4 h
     have e2 := zN_eq (by decide) h2
     have e3 := zN_eq (by decide) h3
     have e4 := zN_eq (by decide) h4
     constructor
     · show (⟨1, (k : Int), [] ++ [a], [], IntKind.u32.wrap ((zN b 4294967295 : Nat) : Int), IntKind.i64.wrap ((zN c 1099511627776 : Nat) : Int), 0, 0, 0, [], false, false⟩ : RQ) = _
       rw [e2, e3]
       rcases hk with rfl | rfl | rfl <;> rfl
     · show IntKind.i64.wrap ((zN d 512 : Nat) : Int) = _
       rw [e4]
       rcases hk with rfl | rfl | rfl <;> rfl
 · exact ⟨fun h => by simp at h, fun _ => by rw [endP_bad (bad_ws rfl)]⟩
theorem cas_eq (rest : List (List UInt8)) : (rest.length = 5 → endP (cmdE 5 fun s => s.puts.uniqN) rest = cmdP 5 rest) ∧ (rest.length ≠ 5 → (endP (cmdE 5 fun s => s.puts.uniqN) rest).2.2 = false) := by
 rcases rest with _ | ⟨a, _ | ⟨b, _ | ⟨c, _ | ⟨d, _ | ⟨f, _ | ⟨e, r⟩⟩⟩⟩⟩⟩
 · exact ⟨fun h => by simp at h, fun _ => by rw [endP_bad (bad_ok rfl)]⟩
 · exact ⟨fun h => by simp at h, fun _ => by rw [endP_bad (bad_ok rfl)]⟩
 · exact ⟨fun h => by simp at h, fun _ => by rw [endP_bad (bad_ok rfl)]⟩
 · exact ⟨fun h => by simp at h, fun _ => by rw [endP_bad (bad_ok rfl)]⟩
 · exact ⟨fun h => by simp at h, fun _ => by rw [endP_bad (bad_ok rfl)]⟩
 · refine ⟨fun _ => endP_eq (ok := ((((true && okW 32 a) && upN b 4294967295) && upN c 1099511627776) && upN d 512) && upN f 18446744073709551615) rfl rfl rfl rfl ?_ fun h => ?_, fun h => by simp at h⟩
   · show ((okW 32 a && true) && ((upN b 4294967295 && upN c 1099511627776 && upN d 512) && upN f 18446744073709551615)) = _
     cases okW 32 a <;> cases upN b 4294967295 <;> cases upN c 1099511627776 <;> cases upN d 512 <;> cases upN f 18446744073709551615 <;> rfl
   · obtain ⟨h', h5⟩ := (Bool.and_eq_true _ _ ▸ h : _ ∧ _)
     obtain ⟨_, h2, h3, h4⟩ := and4 h'
     have e2 := zN_eq (by decide) h2
     have e3 := zN_eq (by decide) h3
     have e4 := zN_eq (by decide) h4
     have e5 := zN_eq (by decide) h5
     constructor
     · show (⟨1, 5, [] ++ [a], [], IntKind.u32.wrap ((zN b 4294967295 : Nat) : Int), IntKind.i64.wrap ((zN c 1099511627776 : Nat) : Int), ((zN f 18446744073709551615 : Nat) : Int), 0, 0, [], false, false⟩ : RQ) = _
       rw [e2, e3, e5]
       rfl
     · show IntKind.i64.wrap ((zN d 512 : Nat) : Int) = _
       rw [e4]
       rfl
 · exact ⟨fun h => by simp at h, fun _ => by rw [endP_bad (bad_ws rfl)]⟩
theorem by_eq' (k : Nat) (hk : k = 6 ∨ k = 7) (rest : List (List UInt8)) : (rest.length = 2 → endP (cmdE k fun s => s.key.byN) rest = cmdP k rest) ∧ (rest.length ≠ 2 → (endP (cmdE k fun s => s.key.byN) rest).2.2 = false) := by
 rcases rest with _ | ⟨a, _ | ⟨b, _ | ⟨e, r⟩⟩⟩
 · exact ⟨fun h => by simp at h, fun _ => by rw [endP_bad (bad_ok rfl)]⟩
 · exact ⟨fun h => by simp at h, fun _ => by rw [endP_bad (bad_ok rfl)]⟩
 · refine ⟨fun _ => endP_eq (ok := (true && okW 32 a) && upN b 18446744073709551615) rfl rfl rfl rfl ?_ fun h => ?_, fun h => by simp at h⟩
   · rcases hk with rfl | rfl <;> (show ((okW 32 a && true) && upN b 18446744073709551615) = _; cases okW 32 a <;> cases upN b 18446744073709551615 <;> rfl)
   · obtain ⟨_, h2⟩ := (Bool.and_eq_true _ _ ▸ h : _ ∧ _)
     have e2 := zN_eq (by decide) h2
     constructor
     · show (⟨1, (k : Int), [] ++ [a], [], 0, 0, 0, ((zN b 18446744073709551615 : Nat) : Int), 0, [], false, false⟩ : RQ) = _
       rw [e2]
       rcases hk with rfl | rfl <;> rfl
     · rcases hk with rfl | rfl <;> rfl
 · exact ⟨fun h => by simp at h, fun _ => by rw [endP_bad (bad_ws rfl)]⟩
theorem append_eq' (rest : List (List UInt8)) : (rest.length = 2 → endP (cmdE 8 fun s => s.key.nN) rest = cmdP 8 rest) ∧ (rest.length ≠ 2 → (endP (cmdE 8 fun s => s.key.nN) rest).2.2 = false) := by
 rcases rest with _ | ⟨a, _ | ⟨b, _ | ⟨e, r⟩⟩⟩
 · exact ⟨fun h => by simp at h, fun _ => by rw [endP_bad (bad_ok rfl)]⟩
 · exact ⟨fun h => by simp at h, fun _ => by rw [endP_bad (bad_ok rfl)]⟩
 · refine ⟨fun _ => endP_eq (ok := (true && okW 32 a) && upN b 512) rfl rfl rfl rfl ?_ fun h => ?_, fun h => by simp at h⟩
   · show ((okW 32 a && true) && upN b 512) = _
     cases okW 32 a <;> cases upN b 512 <;> rfl
   · obtain ⟨_, h2⟩ := (Bool.and_eq_true _ _ ▸ h : _ ∧ _)
     have e2 := zN_eq (by decide) h2
     refine ⟨rfl, ?_⟩
     show IntKind.i64.wrap ((zN b 512 : Nat) : Int) = _
     rw [e2]
     rfl
 · exact ⟨fun h => by simp at h, fun _ => by rw [endP_bad (bad_ws rfl)]⟩
theorem touch_eq' (rest : List (List UInt8)) : (rest.length = 2 → endP (cmdE 9 fun s => s.key.foN) rest = cmdP 9 rest) ∧ (rest.length ≠ 2 → (endP (cmdE 9 fun s => s.key.foN) rest).2.2 = false) := by
 rcases rest with _ | ⟨a, _ | ⟨b, _ | ⟨e, r⟩⟩⟩
 · exact ⟨fun h => by simp at h, fun _ => by rw [endP_bad (bad_ok rfl)]⟩
 · exact ⟨fun h => by simp at h, fun _ => by rw [endP_bad (bad_ok rfl)]⟩
 · refine ⟨fun _ => endP_eq (ok := (true && okW 32 a) && upN b 1099511627776) rfl rfl rfl rfl ?_ fun h => ?_, fun h => by simp at h⟩
   · show ((okW 32 a && true) && upN b 1099511627776) = _
     cases okW 32 a <;> cases upN b 1099511627776 <;> rfl
   · obtain ⟨_, h2⟩ := (Bool.and_eq_true _ _ ▸ h : _ ∧ _)
     have e2 := zN_eq (by decide) h2
     refine ⟨?_, rfl⟩
     show (⟨1, 9, [] ++ [a], [], 0, IntKind.i64.wrap ((zN b 1099511627776 : Nat) : Int), 0, 0, 0, [], false, false⟩ : RQ) = _
     rw [e2]
     rfl
 · exact ⟨fun h => by simp at h, fun _ => by rw [endP_bad (bad_ws rfl)]⟩
theorem flush_eq' (rest : List (List UInt8)) : (rest.length = 0 → endP (cmdE 11 fun s => s) rest = cmdP 11 rest) ∧ (rest.length ≠ 0 → (endP (cmdE 11 fun s => s) rest).2.2 = false) := by
 rcases rest with _ | ⟨e, r⟩
 · exact ⟨fun _ => endP_eq (ok := true) rfl rfl rfl rfl rfl fun _ => ⟨rfl, rfl⟩, fun h => by simp at h⟩
 · exact ⟨fun h => by simp at h, fun _ => by rw [endP_bad (bad_ws rfl)]⟩
theorem all_eq : ∀ (r : List (List UInt8)) (s : PS), s.ws = r → PS.all r.length s = { s with ws := [], ok := s.ok && r.all (okW 32), keys := s.keys ++ r }
 | [], s, h => by
   obtain ⟨ws, ok, kind, ck, keys, flags, fo, uniq, by', rten, sec, on, n⟩ := s
   dsimp only at h
   subst h
   show (⟨[], ok, kind, ck, keys, flags, fo, uniq, by', rten, sec, on, n⟩ : PS) = ⟨[], ok && true, kind, ck, keys ++ [], flags, fo, uniq, by', rten, sec, on, n⟩
   rw [Bool.and_true, List.append_nil]
 | p :: r, s, h => by
   rw [List.length_cons]
   unfold PS.all
   rw [if_neg (by rw [h]; simp)]
   obtain ⟨ws, ok, kind, ck, keys, flags, fo, uniq, by', rten, sec, on, n⟩ := s
   dsimp only at h
   subst h
   rw [all_eq r _ rfl]
   show (⟨[], (ok && okW 32 p) && r.all (okW 32), kind, ck, (keys ++ [p]) ++ r, flags, fo, uniq, by', rten, sec, on, n⟩ : PS) = ⟨[], ok && (p :: r).all (okW 32), kind, ck, keys ++ p :: r, flags, fo, uniq, by', rten, sec, on, n⟩
   rw [List.all_cons, Bool.and_assoc, List.append_assoc]
   rfl
theorem get_eq' (k : Nat) (hk : k = 1 ∨ k = 10) (rest : List (List UInt8)) : (1 ≤ rest.length → endP (cmdE k PS.keys') rest = cmdP k rest) ∧ (rest.length < 1 → (endP (cmdE k PS.keys') rest).2.2 = false) := by
 rcases rest with _ | ⟨a, r⟩
 · exact ⟨fun h => by simp at h, fun _ => by rw [endP_bad (bad_ok rfl)]⟩
 · refine ⟨fun _ => ?_, fun h => by simp at h⟩
   have e : cmdE k PS.keys' (st0 (a :: r)) = ⟨[], (true && okW 32 a) && r.all (okW 32), 1, k, ([] ++ [a]) ++ r, 0, 0, 0, 0, 0, [], false, -1⟩ := by
     show PS.all r.length _ = _
     rw [all_eq r _ rfl]
     rfl
   refine endP_eq (ok := (true && okW 32 a) && r.all (okW 32)) (by rw [e]) (by rw [e]) (by rw [e]) (by rw [e]) ?_ fun h => ?_
   · rcases hk with rfl | rfl <;> (show ((okW 32 a && r.all (okW 32)) && true) = _; cases okW 32 a <;> cases r.all (okW 32) <;> rfl)
   · rw [e]
     rcases hk with rfl | rfl <;> exact ⟨rfl, rfl⟩
def failL : RQ × Int × Bool := (.zero, 0, false)
theorem user_eq (rest : List (List UInt8)) : (rest.length ≠ 2 → (endP PS.user rest).2.2 = false) ∧ ∀ a b, rest = [a, b] → endP PS.user rest = if (upN a 3 && okW 16 b) = true then (⟨2, 0, [], [], 0, 0, 0, 0, IntKind.i64.wrap (nu a), b, false, false⟩, -1, true) else failL := by
 rcases rest with _ | ⟨a, _ | ⟨b, _ | ⟨e, r⟩⟩⟩
 · exact ⟨fun _ => by rw [endP_bad (bad_ok rfl)], fun _ _ h => by simp at h⟩
 · exact ⟨fun _ => by rw [endP_bad (bad_ok rfl)], fun _ _ h => by simp at h⟩
 · refine ⟨fun h => by simp at h, fun a' b' h => ?_⟩
   injection h with h1 h2
   injection h2 with h2 _
   subst h1 h2
   have e : PS.user (st0 [a, b]) = ⟨[], (true && upN a 3) && okW 16 b, 2, 0, [], 0, 0, 0, 0, IntKind.i64.wrap ((zN a 3 : Nat) : Int), b, false, -1⟩ := rfl
   unfold endP
   rw [e]
   cases h1 : upN a 3 with
   | false => rfl
   | true =>
     rw [zN_eq (by decide) h1]
     cases okW 16 b <;> rfl
 · exact ⟨fun _ => by rw [endP_bad (bad_ws rfl)], fun _ _ h => by simp at h⟩
theorem track_eq (rest : List (List UInt8)) : (rest.length ≠ 1 → (endP PS.track rest).2.2 = false) ∧ ∀ a, rest = [a] → endP PS.track rest = if (decide (a = onW) || decide (a = offW)) = true then (⟨3, 0, [], [], 0, 0, 0, 0, 0, [], decide (a = onW), false⟩, -1, true) else failL := by
 rcases rest with _ | ⟨a, _ | ⟨e, r⟩⟩
 · exact ⟨fun _ => by rw [endP_bad (bad_ok rfl)], fun _ h => by simp at h⟩
 · refine ⟨fun h => by simp at h, fun a' h => ?_⟩
   injection h with h1 _
   subst h1
   have e : PS.track (st0 [a]) = ⟨[], true && (decide (a = onW) || decide (a = offW)), 3, 0, [], 0, 0, 0, 0, 0, [], decide (a = onW), -1⟩ := rfl
   unfold endP
   rw [e]
   cases (decide (a = onW) || decide (a = offW)) <;> rfl
 · exact ⟨fun _ => by rw [endP_bad (bad_ws rfl)], fun _ h => by simp at h⟩
theorem ping_eq (k : Int) (hk : k = 4 ∨ k = 5) (rest : List (List UInt8)) : (rest.length ≠ 0 → (endP (fun s => { s with kind := k }) rest).2.2 = false) ∧ (rest.length = 0 → endP (fun s => { s with kind := k }) rest = (⟨k, 0, [], [], 0, 0, 0, 0, 0, [], false, false⟩, -1, true)) := by
 rcases rest with _ | ⟨e, r⟩
 · refine ⟨fun h => by simp at h, fun _ => ?_⟩
   rcases hk with rfl | rfl <;> rfl
 · exact ⟨fun _ => by rw [endP_bad (bad_ws rfl)], fun h => by simp at h⟩
def CntOK (many : Int) (rest : List (List UInt8)) : Prop := (0 ≤ many → (rest.length : Int) = many) ∧ (many < 0 → 1 ≤ rest.length)
structure CmdK (k : Nat) (many : Int) (E : PS → PS) : Prop where
 hk : 1 ≤ k ∧ k ≤ 11
 hm : -1 ≤ many ∧ many ≤ 5
 good : ∀ rest : List (List UInt8), CntOK many rest → endP E rest = cmdP k rest ∧ ((rest.length ≤ 1000 ∧ ∀ p ∈ rest, p.length ≤ 1000) → Cnt k rest)
 bad : ∀ rest, ¬ CntOK many rest → (endP E rest).2.2 = false
theorem cmdK_n {k n : Nat} {E : PS → PS} (hk : 1 ≤ k ∧ k ≤ 11) (hn : n ≤ 5) (h1 : k ≠ 11 → 1 ≤ n) (hA : k25 k = true → 4 ≤ n) (hB : k = 5 → 5 ≤ n) (hC : k67 k = true → 2 ≤ n) (hD : k = 8 → 2 ≤ n) (hE : k = 9 → 2 ≤ n)
   (h : ∀ rest : List (List UInt8), (rest.length = n → endP E rest = cmdP k rest) ∧ (rest.length ≠ n → (endP E rest).2.2 = false)) : CmdK k (n : Int) E := by
 refine ⟨hk, by omega, fun rest hc => ?_, fun rest hc => (h rest).2 fun e => hc ⟨fun _ => by rw [e], fun h => by omega⟩⟩
 have e : rest.length = n := by have := hc.1 (by omega); omega
 subst e
 exact ⟨(h rest).1 rfl, fun hw => ⟨hk, h1, hA, hB, hC, hD, hE, hw.1, hw.2⟩⟩
theorem cmdK_get {k : Nat} (hk : k = 1 ∨ k = 10) : CmdK k (-1) (cmdE k PS.keys') := by
 have hg := get_eq' k hk
 refine ⟨by omega, by omega, fun rest hc => ?_, fun rest hc => (hg rest).2 ?_⟩
 · have e : 1 ≤ rest.length := hc.2 (by omega)
   refine ⟨(hg rest).1 e, fun hw => ⟨by omega, fun _ => e, fun h => ?_, fun h => by omega, fun h => ?_, fun h => by omega, fun h => by omega, hw.1, hw.2⟩⟩
   · rcases hk with rfl | rfl <;> exact absurd h (by decide)
   · rcases hk with rfl | rfl <;> exact absurd h (by decide)
 · by_cases e : rest.length < 1
   · exact e
   · exact absurd (show CntOK (-1) rest from ⟨fun h => absurd h (by decide), fun _ => by omega⟩) hc
theorem kind_cases (w : List UInt8) : (∃ k many E, kindW w = (k, many) ∧ lookL' w cmdL = some E ∧ CmdK k many E) ∨ (kindW w = (0, 0) ∧ ((w = [117, 115, 101, 114] ∧ lookL' w cmdL = some PS.user) ∨ (w = [116, 114, 97, 99, 107] ∧ lookL' w cmdL = some PS.track) ∨ (w = [112, 105, 110, 103] ∧ lookL' w cmdL = some fun s => { s with kind := 4 }) ∨ (w = [113, 117, 105, 116] ∧ lookL' w cmdL = some fun s => { s with kind := 5 }) ∨ (w ≠ [117, 115, 101, 114] ∧ w ≠ [116, 114, 97, 99, 107] ∧ w ≠ [112, 105, 110, 103] ∧ w ≠ [113, 117, 105, 116] ∧ lookL' w cmdL = none))) := by
 by_cases g0 : w = [103, 101, 116]
 · subst g0
   exact .inl ⟨1, -1, cmdE 1 PS.keys', rfl, rfl, cmdK_get (by decide)⟩
 by_cases g1 : w = [115, 101, 116]
 · subst g1
   exact .inl ⟨2, 4, cmdE 2 PS.puts, rfl, rfl, cmdK_n (n := 4) (by decide) (by decide) (by decide) (by decide) (by decide) (by decide) (by decide) (by decide) (puts_eq 2 (by decide))⟩
 by_cases g2 : w = [97, 100, 100]
 · subst g2
   exact .inl ⟨3, 4, cmdE 3 PS.puts, rfl, rfl, cmdK_n (n := 4) (by decide) (by decide) (by decide) (by decide) (by decide) (by decide) (by decide) (by decide) (puts_eq 3 (by decide))⟩
 by_cases g3 : w = [114, 101, 112, 108, 97, 99, 101]
 · subst g3
   exact .inl ⟨4, 4, cmdE 4 PS.puts, rfl, rfl, cmdK_n (n := 4) (by decide) (by decide) (by decide) (by decide) (by decide) (by decide) (by decide) (by decide) (puts_eq 4 (by decide))⟩
 by_cases g4 : w = [99, 97, 115]
 · subst g4
   exact .inl ⟨5, 5, cmdE 5 (fun s => s.puts.uniqN), rfl, rfl, cmdK_n (n := 5) (by decide) (by decide) (by decide) (by decide) (by decide) (by decide) (by decide) (by decide) cas_eq⟩
 by_cases g5 : w = [105, 110, 99, 114]
 · subst g5
   exact .inl ⟨6, 2, cmdE 6 (fun s => s.key.byN), rfl, rfl, cmdK_n (n := 2) (by decide) (by decide) (by decide) (by decide) (by decide) (by decide) (by decide) (by decide) (by_eq' 6 (by decide))⟩
 by_cases g6 : w = [100, 101, 99, 114]
 · subst g6
   exact .inl ⟨7, 2, cmdE 7 (fun s => s.key.byN), rfl, rfl, cmdK_n (n := 2) (by decide) (by decide) (by decide) (by decide) (by decide) (by decide) (by decide) (by decide) (by_eq' 7 (by decide))⟩
 by_cases g7 : w = [97, 112, 112, 101, 110, 100]
 · subst g7
   exact .inl ⟨8, 2, cmdE 8 (fun s => s.key.nN), rfl, rfl, cmdK_n (n := 2) (by decide) (by decide) (by decide) (by decide) (by decide) (by decide) (by decide) (by decide) append_eq'⟩
 by_cases g8 : w = [116, 111, 117, 99, 104]
 · subst g8
   exact .inl ⟨9, 2, cmdE 9 (fun s => s.key.foN), rfl, rfl, cmdK_n (n := 2) (by decide) (by decide) (by decide) (by decide) (by decide) (by decide) (by decide) (by decide) touch_eq'⟩
 by_cases g9 : w = [100, 101, 108, 101, 116, 101]
 · subst g9
   exact .inl ⟨10, -1, cmdE 10 PS.keys', rfl, rfl, cmdK_get (by decide)⟩
 by_cases g10 : w = [102, 108, 117, 115, 104]
 · subst g10
   exact .inl ⟨11, 0, cmdE 11 (fun s => s), rfl, rfl, cmdK_n (n := 0) (by decide) (by decide) (by decide) (by decide) (by decide) (by decide) (by decide) (by decide) flush_eq'⟩
 have hk : kindW w = (0, 0) := by unfold kindW; simp only [if_neg g0, if_neg g1, if_neg g2, if_neg g3, if_neg g4, if_neg g5, if_neg g6, if_neg g7, if_neg g8, if_neg g9, if_neg g10]
 refine .inr ⟨hk, ?_⟩
 by_cases s0 : w = [117, 115, 101, 114]
 · subst s0
   exact .inl ⟨rfl, rfl⟩
 by_cases s1 : w = [116, 114, 97, 99, 107]
 · subst s1
   exact .inr (.inl ⟨rfl, rfl⟩)
 by_cases s2 : w = [112, 105, 110, 103]
 · subst s2
   exact .inr (.inr (.inl ⟨rfl, rfl⟩))
 by_cases s3 : w = [113, 117, 105, 116]
 · subst s3
   exact .inr (.inr (.inr (.inl ⟨rfl, rfl⟩)))
 exact .inr (.inr (.inr (.inr ⟨s0, s1, s2, s3, by simp only [lookL', cmdL, if_neg g0, if_neg g1, if_neg g2, if_neg g3, if_neg g4, if_neg g5, if_neg g6, if_neg g7, if_neg g8, if_neg g9, if_neg g10, if_neg s0, if_neg s1, if_neg s2, if_neg s3]⟩)))
theorem hO_sv (w : List UInt8) (x : Bool) : hO (some (sv w)) (sv w) x = x := hO_self (veq_sv w) x
def LineD (l : List UInt8) (h0 : H) (r : Value) (h' : H) : Prop := Keep nobody h0 h' ∧ ∃ q kv m, r = .tuple #[q.v kv, .int .i64 m, .bool (lineP l).2.2] ∧ Strs h' kv q.keys ∧ (∀ c, blk kv c → h0.next ≤ c) ∧ ((lineP l).2.2 = true → q = (lineP l).1 ∧ m = (lineP l).2.1)
theorem ret31 {l : List UInt8} {h0 h : H} {Z : Nat} {m : Int} {b : Bool} {tm : T Value} {q : RQ} {kv : Value} (t2 : tg tm 2 = .pointer (some ⟨Z, 0, none⟩)) (t3 : tg tm 3 = .int .i64 m) (t4 : tg tm 4 = .bool b) (hz : Has h Z (.rw (q.cells kv) (some 28))) (hk : Keep nobody h0 h) (hs : Strs h kv q.keys) (hown : ∀ c, blk kv c → h0.next ≤ c) (hb : (lineP l).2.2 = b) (e : b = true → q = (lineP l).1 ∧ m = (lineP l).2.1) :
   ∃ r, q31.f tm h = some r ∧ LineD l h0 (resOf r) h := by
 refine ⟨[q.v kv, .int .i64 m, .bool b], by simp only [q31, t2, t3, t4, get13 hz], hk, q, kv, m, by rw [hb]; rfl, hs, hown, by rw [hb]; exact e⟩
theorem agg1 {c : Cmd} (hz : c.ten = 0 ∧ c.val = strB []) : aggO (fill [(.int .u8 (0)), (.int .u8 (0)), (.int .i64 (0)), (.slice none 0 0), (.string (strB [])), (.int .u32 (0)), (.int .i64 (0)), (.int .u64 (0)), (.int .u64 (0)), (.int .i64 (0)), (.string (strB [])), (.bool false), (.bool false)] (plc [(0, 1), (1, 8), (9, 1), (10, 1), (11, 1), (12, 1)]) [(0, (.int .u8 (1))), (1, c.v)]) = some ((rqC c).v c.kv) := by
 obtain ⟨kind, ten, kv, val, flags, fo, uniq, by', keys⟩ := c
 obtain ⟨h1, h2⟩ := hz
 dsimp only at h1 h2
 subst h1 h2
 rfl
theorem agg2 (v : Int) (w : List UInt8) : aggO (fill [(.int .u8 (0)), (.int .u8 (0)), (.int .i64 (0)), (.slice none 0 0), (.string (strB [])), (.int .u32 (0)), (.int .i64 (0)), (.int .u64 (0)), (.int .u64 (0)), (.int .i64 (0)), (.string (strB [])), (.bool false), (.bool false)] (plc [(0, 1), (1, 8), (9, 1), (10, 1), (11, 1), (12, 1)]) [(0, (.int .u8 (2))), (2, .int .i64 v), (3, sv w)]) = some ((⟨2, 0, [], [], 0, 0, 0, 0, v, w, false, false⟩ : RQ).v nilV) := rfl
theorem agg3 (b : Bool) : aggO (fill [(.int .u8 (0)), (.int .u8 (0)), (.int .i64 (0)), (.slice none 0 0), (.string (strB [])), (.int .u32 (0)), (.int .i64 (0)), (.int .u64 (0)), (.int .u64 (0)), (.int .i64 (0)), (.string (strB [])), (.bool false), (.bool false)] (plc [(0, 1), (1, 8), (9, 1), (10, 1), (11, 1), (12, 1)]) [(0, (.int .u8 (3))), (4, .bool b)]) = some ((⟨3, 0, [], [], 0, 0, 0, 0, 0, [], b, false⟩ : RQ).v nilV) := rfl
theorem agg4 : aggO (fill [(.int .u8 (0)), (.int .u8 (0)), (.int .i64 (0)), (.slice none 0 0), (.string (strB [])), (.int .u32 (0)), (.int .i64 (0)), (.int .u64 (0)), (.int .u64 (0)), (.int .i64 (0)), (.string (strB [])), (.bool false), (.bool false)] (plc [(0, 1), (1, 8), (9, 1), (10, 1), (11, 1), (12, 1)]) [(0, (.int .u8 (4)))]) = some ((⟨4, 0, [], [], 0, 0, 0, 0, 0, [], false, false⟩ : RQ).v nilV) := rfl
theorem agg5 : aggO (fill [(.int .u8 (0)), (.int .u8 (0)), (.int .i64 (0)), (.slice none 0 0), (.string (strB [])), (.int .u32 (0)), (.int .i64 (0)), (.int .u64 (0)), (.int .u64 (0)), (.int .i64 (0)), (.string (strB [])), (.bool false), (.bool false)] (plc [(0, 1), (1, 8), (9, 1), (10, 1), (11, 1), (12, 1)]) [(0, (.int .u8 (5)))]) = some ((⟨5, 0, [], [], 0, 0, 0, 0, 0, [], false, false⟩ : RQ).v nilV) := rfl
structure S31 (h0 : H) (Z : Nat) (lv : Value) (w : List UInt8) (rest : List (List UInt8)) (tm : T Value) (h : H) : Prop where
 t2 : tg tm 2 = .pointer (some ⟨Z, 0, none⟩)
 t5 : tg tm 5 = lv
 hs : Strs h lv (w :: rest)
 bz : Has h Z (.rw (RQ.zero.cells nilV) (some 28))
 zl : h0.next ≤ Z
 ln : ∀ b, blk lv b → b ≠ Z
 keep : Keep nobody h0 h
theorem S31.to {h0 h h' : H} {Z : Nat} {lv : Value} {w : List UInt8} {rest : List (List UInt8)} {tm tm' : T Value} (a : S31 h0 Z lv w rest tm h) (kp : Keep nobody h h') (e2 : tg tm' 2 = tg tm 2) (e5 : tg tm' 5 = tg tm 5) : S31 h0 Z lv w rest tm' h' := ⟨e2.trans a.t2, e5.trans a.t5, a.hs.keep0 kp, a.bz.keep0 kp, a.zl, a.ln, a.keep.then kp⟩
section
variable {l w : List UInt8} {rest : List (List UInt8)} {h0 h : H} {Z : Nat} {lv : Value} {tm : T Value}
theorem S31.none (a : S31 h0 Z lv w rest tm h) (hb : (lineP l).2.2 = false) {tm' : T Value} (t2 : tg tm' 2 = .pointer (some ⟨Z, 0, Option.none⟩)) (t3 : tg tm' 3 = .int .i64 0) (t4 : tg tm' 4 = .bool false) : ∃ r, q31.f tm' (h.put Z (.rw (RQ.zero.cells nilV) (some 28))) = some r ∧ LineD l h0 (resOf r) (h.put Z (.rw (RQ.zero.cells nilV) (some 28))) :=
 ret31 t2 t3 t4 (Has.put a.bz.1) (put_old a.keep a.zl) (strs_nil _) (nil_own _) hb fun e => by cases e
theorem cmd31 (L n : Nat) (hL : 2000 ≤ L) (hc : cutS l = w :: rest) (hl : l.length ≤ 512) {k : Nat} {many : Int} {E : PS → PS} (c2 : lookL' w cmdL = some E) (ck : CmdK k many E) (a : S31 h0 Z lv w rest tm h) (t6 : tg tm 6 = .int .u8 (k : Int)) (t7 : tg tm 7 = .int .i64 many) :
   C ⟨seqC ⟨seqC ⟨r31_4⟩ ⟨condC (tC 41) ⟨seqC ⟨r31_5⟩ retC⟩ skipC⟩⟩ ⟨seqC ⟨r31_6⟩ ⟨seqC ⟨r31_7⟩ retC⟩⟩⟩ (CF L (n + 4)) L tm h fun e tm' h' => e = .ret ∧ ∃ r, q31.f tm' h' = some r ∧ LineD l h0 (resOf r) h' := by
 have hline : lineP l = endP E rest := by rw [lineP_cut hc, c2]
 have cl := cut_len l
 rw [hc] at cl
 have len : lenSl lv = some (.int .i64 ((rest.length : Int) + 1)) := by rw [a.hs.len, List.length_cons]; rfl
 have c41 : C ⟨r31_4⟩ (CF L (n + 4)) L tm h fun e tm' h' => e = .norm ∧ h' = h ∧ ∃ b, tm' = T.set tm 41 (.bool b) ∧ (b = false ↔ CntOK many rest) := fun K hK => by
   rw [box_f]
   have hm := ck.hm
   by_cases g1 : 0 ≤ many
   · have wm : IntKind.i64.wrap (many + 1) = many + 1 := by
       obtain ⟨m, rfl⟩ : ∃ m : Nat, many = (m : Int) := ⟨many.toNat, by omega⟩
       rw [show (m : Int) + 1 = ((m + 1 : Nat) : Int) by omega]; exact wrap_lt _ (by omega)
     by_cases g2 : (rest.length : Int) + 1 = many + 1
     · have g3 : ¬ many < 0 := by omega
       simp only [seval, ↓opStep_eq, ↓EW, EV, r31_4, t7, a.t5, len, wm, dT g1, dT g2, dF g3]
       exact hK _ _ _ ⟨rfl, rfl, false, rfl, fun _ => ⟨fun _ => by omega, fun h => by omega⟩, fun _ => rfl⟩
     · simp only [seval, ↓opStep_eq, ↓EW, EV, r31_4, t7, a.t5, len, wm, dT g1, dF g2]
       exact hK _ _ _ ⟨rfl, rfl, true, rfl, fun h => by (cases h), fun h => absurd (h.1 g1) (by omega)⟩
   · have g3 : many < 0 := by omega
     by_cases g4 : (rest.length : Int) + 1 < 2
     · simp only [seval, ↓opStep_eq, ↓EW, EV, r31_4, t7, a.t5, len, dF g1, dT g3, dT g4]
       exact hK _ _ _ ⟨rfl, rfl, true, rfl, fun h => by (cases h), fun h => absurd (h.2 g3) (by omega)⟩
     · simp only [seval, ↓opStep_eq, ↓EW, EV, r31_4, t7, a.t5, len, dF g1, dT g3, dF g4]
       exact hK _ _ _ ⟨rfl, rfl, false, rfl, fun _ => ⟨fun h => by omega, fun _ => by omega⟩, fun _ => rfl⟩
 refine C.seq (C.seq (c41.mono ?_))
 rintro e tm1 h1 ⟨rfl, rfl, b, rfl, hb⟩
 cases b with
 | true =>
   have hbad := ck.bad rest fun h => by have := hb.2 h; cases this
   refine C.ct (C.seq fun K hK => ?_)
   simp only [seval, EV, r31_5, a.t2, zero13', put13 a.bz rfl nil_ones]
   exact hK _ _ _ (C.ret ⟨rfl, a.none (by rw [hline]; exact hbad) (by simp only [seval, EV, a.t2]) (by simp only [seval, EV]) (by simp only [seval, EV])⟩)
 | false =>
   obtain ⟨hgood, hcnt⟩ := ck.good rest (hb.1 rfl)
   have ct := hcnt ⟨by have := cl.1; rw [List.length_cons] at this; omega, fun p hp => by have := cl.2 p (by simp [hp]); omega⟩
   rw [hgood] at hline
   unfold cmdP at hline
   refine C.cf <| C.skip (C.seq fun K hK => ?_)
   obtain ⟨v2, e2, hs2, ow2⟩ := a.hs.tail1 (by have := cl.1; rw [List.length_cons] at this; omega)
   simp only [seval, ↓EW, EV, r31_6, a.t5, t6, e2]
   refine law53 L n hL hs2 ct _ fun r h2 hq => ?_
   obtain ⟨k2, c, m, rfl, hz, hs, own, hd⟩ := hq
   have hz26 : ∀ h : H, h.new (.rw [.int .u8 0, .int .i64 0, .slice none 0 0, .string (strB []), .int .u32 0, .int .i64 0, .int .u64 0, .int .u64 0] (some 26)) = h.new (.rw zC (some 26)) := fun _ => rfl
   have st : storeV 8 (h2.new (.rw zC (some 26))) (.pointer (some ⟨h2.next, 0, none⟩)) c.v = some ((h2.new (.rw zC (some 26))).put h2.next (.rw c.cells (some 26))) := store_new h2 8 none zC (some 26) _ rfl rfl (onesC hs)
   simp only [EV, tup3, hz26, st]
   have b6 : Has ((h2.new (.rw zC (some 26))).put h2.next (.rw c.cells (some 26))) h2.next (.rw c.cells (some 26)) := Has.put (Nat.lt_succ_self _)
   have k6 := keep_alloc h2 (.rw zC (some 26)) (.rw c.cells (some 26))
   generalize (h2.new (.rw zC (some 26))).put h2.next (.rw c.cells (some 26)) = h3 at *
   generalize h2.next = Y at *
   have a3 := a.to (tm' := tm) (k2.then k6) rfl rfl
   have la : loadAgg 8 h3 (.pointer (some ⟨Y, 0, none⟩)) = some c.v := loadAgg_has (o := 0) (n := 8) (cs := c.cells) b6 rfl (by show 0 + 8 ≤ 8; omega)
   have zz := a.bz.1
   have kn := a.keep.next
   refine hK _ _ _ (C.seq fun K hK => ?_)
   simp only [seval, EV, r31_7, a.t2, la, agg1 hz, put13 a3.bz rfl (strs_ones hs)]
   refine hK _ _ _ (C.ret ⟨rfl, ret31 (b := dOK k rest) (m := m) (by simp only [seval, EV, a.t2]) (by simp only [seval, EV]) (by simp only [seval, EV]) (Has.put a3.bz.1) (put_old a3.keep a.zl) ((hs.keep0 k6).keep (Keep.put h3 Z _) fun c hc e => by have := own c hc; omega) (fun c hc => by have := own c hc; omega) ?_ fun hdd => ?_⟩)
   · rw [hline]; cases dOK k rest <;> rfl
   · obtain ⟨ec, em⟩ := hd hdd
     rw [hline, if_pos hdd]
     refine ⟨?_, em⟩
     rw [ec]
     rfl
end
section
variable {l w : List UInt8} {rest : List (List UInt8)} {h0 h : H} {Z : Nat} {lv : Value} {tm : T Value}
theorem S31.word (a : S31 h0 Z lv w rest tm h) {i : Nat} {p : List UInt8} (hp : (w :: rest)[i]? = some p) : ∃ b o, indexSl 1 lv (.int .i64 (i : Int)) = some (.pointer (some ⟨b, o, Option.none⟩)) ∧ (∀ h', Keep nobody h h' → ∀ s, loadOne h' (.pointer (some ⟨b, o, s⟩)) = some (sv p)) ∧ ∀ h' x, Keep nobody h h' → ∀ s, loadOne (h'.put Z x) (.pointer (some ⟨b, o, s⟩)) = some (sv p) := by
 obtain ⟨b, o, e1, e2⟩ := a.hs.load hp
 exact ⟨b, o, e1, fun h' k s => e2 h' (a.hs.keep0 k) s, fun h' x k s => e2 _ ((a.hs.keep0 k).keep (Keep.put h' Z x) a.ln) s⟩
theorem S31.put (a : S31 h0 Z lv w rest tm h) {q : RQ} {b : Bool} (hb : (lineP l).2.2 = b) (e : b = true → q = (lineP l).1 ∧ -1 = (lineP l).2.1) (hk : q.keys = []) {tm' : T Value} (t2 : tg tm' 2 = .pointer (some ⟨Z, 0, Option.none⟩)) (t3 : tg tm' 3 = .int .i64 (-1)) (t4 : tg tm' 4 = .bool b) : ∃ r, q31.f tm' (h.put Z (.rw (q.cells nilV) (some 28))) = some r ∧ LineD l h0 (resOf r) (h.put Z (.rw (q.cells nilV) (some 28))) :=
 ret31 t2 t3 t4 (Has.put a.bz.1) (put_old a.keep a.zl) (by rw [hk]; exact strs_nil _) (nil_own _) hb e
theorem user31 (L n : Nat) (hL : 2000 ≤ L) (hc : cutS l = w :: rest) (hl : l.length ≤ 512) (c2 : lookL' w cmdL = some PS.user) (a : S31 h0 Z lv w rest tm h) :
   C ⟨seqC ⟨seqC ⟨r31_10⟩ ⟨condC (tC 62) ⟨seqC ⟨r31_11⟩ retC⟩ skipC⟩⟩ ⟨seqC ⟨r31_12⟩ ⟨seqC ⟨r31_13⟩ retC⟩⟩⟩ (CF L (n + 4)) L tm h fun e tm' h' => e = .ret ∧ ∃ r, q31.f tm' h' = some r ∧ LineD l h0 (resOf r) h' := by
 have hline : lineP l = endP PS.user rest := by rw [lineP_cut hc, c2]
 have cl := cut_len l
 rw [hc] at cl
 have len : lenSl lv = some (.int .i64 ((rest.length : Int) + 1)) := by rw [a.hs.len, List.length_cons]; rfl
 refine C.seq (C.seq fun K hK => ?_)
 by_cases g : (rest.length : Int) + 1 = 3
 · simp only [EV, r31_10, a.t5, len, dT g]
   refine hK _ _ _ (C.cf <| C.skip (C.seq fun K hK => ?_))
   obtain ⟨x, y, rfl⟩ : ∃ x y, rest = [x, y] := by
     rcases rest with _ | ⟨x, _ | ⟨y, _ | ⟨z, r⟩⟩⟩
     · simp at g
     · simp at g
     · exact ⟨x, y, rfl⟩
     · rw [List.length_cons, List.length_cons, List.length_cons] at g; omega
   rw [(user_eq [x, y]).2 x y rfl] at hline
   obtain ⟨b1, o1, e1, l1, _⟩ := a.word (i := 1) (p := x) rfl
   obtain ⟨b2, o2, e2, l2, _⟩ := a.word (i := 2) (p := y) rfl
   have e1' : indexSl 1 lv (.int .i64 1) = some (.pointer (some ⟨b1, o1, none⟩)) := e1
   have e2' : indexSl 1 lv (.int .i64 2) = some (.pointer (some ⟨b2, o2, none⟩)) := e2
   have n1 : Sp (CF L (n + 4)) 54 [sv x, .int .u64 3] h fun r h' => r = .tuple #[.int .u64 (nu x), .bool (upN x 3)] ∧ h' = h := num54 L (n + 2) hL x 3 h
   simp only [seval, EV, r31_12, a.t5, e1', l1 h (.refl _ _)]
   refine n1 _ fun r h2 hq => ?_
   obtain ⟨rfl, rfl⟩ := hq
   simp only [EV, tup2]
   refine hK _ _ _ (C.seq fun K hK => ?_)
   have kr := keep_room h2 16
   have a3 := a.to (tm' := tm) kr rfl rfl
   have ly := l2 _ kr
   generalize hh : (⟨h2.objs, h2.next + 16⟩ : H) = h3 at *
   cases hu : upN x 3 with
   | false =>
     rw [hu] at hline
     have p13 := put13 (q := ⟨2, 0, [], [], 0, 0, 0, 0, IntKind.i64.wrap (nu x), y, false, false⟩) a3.bz rfl nil_ones
     simp only [seval, EV, r31_13, hh, toInt_int, a.t2, a.t5, e2', ly, agg2, ite2, p13]
     exact hK _ _ _ (C.ret ⟨rfl, a3.put (b := false) (by rw [hline]; rfl) (fun e => by cases e) rfl (by simp only [seval, EV, a.t2]) (by simp only [seval, EV]) (by simp only [seval, EV])⟩)
   | true =>
     rw [hu] at hline
     have p55 : Sp (CF L (n + 4)) 55 [sv y, .int .i64 16] h3 fun r h' => r = .bool (okW 16 y) ∧ h' = h3 := plain55 L (n + 3) 16 hL (by have := cl.2 y (by simp); omega) h3
     have p13 := put13 (q := ⟨2, 0, [], [], 0, 0, 0, 0, IntKind.i64.wrap (nu x), y, false, false⟩) a3.bz rfl nil_ones
     simp only [seval, ↓EW, EV, Bool.and_true, r31_13, hh, toInt_int, a.t2, a.t5, e2', ly, agg2, ite2]
     refine p55 _ fun r h4 hq => ?_
     obtain ⟨rfl, rfl⟩ := hq
     simp only [EV, ly, hO_sv, p13]
     refine hK _ _ _ (C.ret ⟨rfl, a3.put (b := okW 16 y) ?_ (fun e => ?_) rfl (by simp only [seval, EV, a.t2]) (by simp only [seval, EV]) (by simp only [seval, EV])⟩)
     · rw [hline]; cases okW 16 y <;> rfl
     · rw [hline, e]; exact ⟨rfl, rfl⟩
 · have hbad := (user_eq rest).1 fun e => g (by rw [e]; rfl)
   simp only [EV, r31_10, a.t5, len, dF g]
   refine hK _ _ _ (C.ct (C.seq fun K hK => ?_))
   simp only [seval, EV, r31_11, a.t2, zero13', put13 a.bz rfl nil_ones]
   exact hK _ _ _ (C.ret ⟨rfl, a.none (by rw [hline]; exact hbad) (by simp only [seval, EV, a.t2]) (by simp only [seval, EV]) (by simp only [seval, EV])⟩)
theorem track31 (L n : Nat) (hL : 2000 ≤ L) (hc : cutS l = w :: rest) (hl : l.length ≤ 512) (c2 : lookL' w cmdL = some PS.track) (a : S31 h0 Z lv w rest tm h) :
   C ⟨seqC ⟨r31_15⟩ retC⟩ (CF L (n + 4)) L tm h fun e tm' h' => e = .ret ∧ ∃ r, q31.f tm' h' = some r ∧ LineD l h0 (resOf r) h' := by
 have hline : lineP l = endP PS.track rest := by rw [lineP_cut hc, c2]
 have cl := cut_len l
 rw [hc] at cl
 have len : lenSl lv = some (.int .i64 ((rest.length : Int) + 1)) := by rw [a.hs.len, List.length_cons]; rfl
 have kr := keep_room h 28
 have a3 := a.to (tm' := tm) kr rfl rfl
 refine C.seq fun K hK => ?_
 rcases rest with _ | ⟨x, r⟩
 · have hbad := (track_eq []).1 (by decide)
   have len' : lenSl lv = some (.int .i64 1) := len
   have p13 := put13 (q := ⟨3, 0, [], [], 0, 0, 0, 0, 0, [], false, false⟩) a3.bz rfl nil_ones
   simp only [seval, EV, r31_15, a.t2, a.t5, len', agg3, ite2, p13]
   exact hK _ _ _ (C.ret ⟨rfl, a3.put (b := false) (by rw [hline]; exact hbad) (fun e => by cases e) rfl (by simp only [seval, EV, a.t2]) (by simp only [seval, EV]) (by simp only [seval, EV])⟩)
 obtain ⟨b1, o1, e1, l1, l1'⟩ := a.word (i := 1) (p := x) rfl
 have e1' : indexSl 1 lv (.int .i64 1) = some (.pointer (some ⟨b1, o1, none⟩)) := e1
 have q1 : ∀ c, binV Tryz.prog .eql 9 c (sv x) (.string (strB [111, 110])) = some (.bool (decide (x = onW))) := fun c => sv_eql 9 c x onW
 have q2 : ∀ c, binV Tryz.prog .eql 9 c (sv x) (.string (strB [111, 102, 102])) = some (.bool (decide (x = offW))) := fun c => sv_eql 9 c x offW
 have lx := l1 _ kr
 have p13 : ∀ b, _ := fun b => put13 (q := ⟨3, 0, [], [], 0, 0, 0, 0, 0, [], b, false⟩) a3.bz rfl nil_ones
 have lx2 : ∀ b s, loadOne (H.put ⟨h.objs, h.next + 28⟩ Z (.rw ((⟨3, 0, [], [], 0, 0, 0, 0, 0, [], b, false⟩ : RQ).cells nilV) (some 28))) (.pointer (some ⟨b1, o1, s⟩)) = some (sv x) := fun b s => l1' _ _ kr s
 rcases r with _ | ⟨y, r⟩
 · have len' : lenSl lv = some (.int .i64 2) := len
   have hl2 := (track_eq [x]).2 x rfl
   by_cases g1 : x = onW
   · rw [dT g1] at q1
     simp only [seval, ↓EW, EV, Bool.and_true, r31_15, a.t2, a.t5, len', e1', lx, q1, agg3, ite2, p13]
     refine hK _ _ _ (C.ret ⟨rfl, a3.put (b := true) ?_ (fun e => ?_) rfl (by simp only [seval, EV, a.t2]) (by simp only [seval, EV]) (by simp only [seval, EV])⟩)
     · rw [hline, hl2, dT g1]; rfl
     · rw [hline, hl2, dT g1]; exact ⟨rfl, rfl⟩
   · by_cases g2 : x = offW
     · rw [dF g1] at q1
       rw [dT g2] at q2
       simp only [seval, ↓EW, EV, Bool.and_true, r31_15, a.t2, a.t5, len', e1', lx, q1, q2, agg3, ite2, p13, lx2, hO_sv]
       refine hK _ _ _ (C.ret ⟨rfl, a3.put (b := true) ?_ (fun e => ?_) rfl (by simp only [seval, EV, a.t2]) (by simp only [seval, EV]) (by simp only [seval, EV])⟩)
       · rw [hline, hl2, dF g1, dT g2]; rfl
       · rw [hline, hl2, dF g1, dT g2]; exact ⟨rfl, rfl⟩
     · rw [dF g1] at q1
       rw [dF g2] at q2
       simp only [seval, ↓EW, EV, Bool.and_true, r31_15, a.t2, a.t5, len', e1', lx, q1, q2, agg3, ite2, p13, lx2, hO_sv]
       refine hK _ _ _ (C.ret ⟨rfl, a3.put (b := false) ?_ (fun e => by cases e) rfl (by simp only [seval, EV, a.t2]) (by simp only [seval, EV]) (by simp only [seval, EV])⟩)
       rw [hline, hl2, dF g1, dF g2]; rfl
 · have hbad := (track_eq (x :: y :: r)).1 (by simp)
   have len' : lenSl lv = some (.int .i64 ((r.length : Int) + 3)) := by rw [len, List.length_cons, List.length_cons, show ((r.length + 1 + 1 : Nat) : Int) + 1 = (r.length : Int) + 3 by omega]
   have d1 : decide ((1 : Int) < (r.length : Int) + 3) = true := dT (by omega)
   have d2 : decide ((r.length : Int) + 3 = 2) = false := dF (by omega)
   have fin : ∀ b tm', tg tm' 2 = .pointer (some ⟨Z, 0, none⟩) → tg tm' 3 = .int .i64 (-1) → tg tm' 4 = .bool false → C retC (CF L (n + 4)) L tm' (H.put ⟨h.objs, h.next + 28⟩ Z (.rw ((⟨3, 0, [], [], 0, 0, 0, 0, 0, [], b, false⟩ : RQ).cells nilV) (some 28))) fun e tm' h' => e = .ret ∧ ∃ r, q31.f tm' h' = some r ∧ LineD l h0 (resOf r) h' := fun b tm' t2 t3 t4 => C.ret ⟨rfl, a3.put (b := false) (by rw [hline]; exact hbad) (fun e => by cases e) rfl t2 t3 t4⟩
   by_cases g1 : x = onW
   · rw [dT g1] at q1
     simp only [↓EW, EV, r31_15, a.t2, a.t5, len', d1, d2, e1', lx, q1, agg3, ite2, p13]
     exact hK _ _ _ (fin true _ (by simp only [seval, EV, a.t2]) (by simp only [seval, EV]) (by simp only [seval, EV]))
   · rw [dF g1] at q1
     simp only [↓EW, EV, r31_15, a.t2, a.t5, len', d1, d2, e1', lx, q1, agg3, ite2, p13]
     exact hK _ _ _ (fin false _ (by simp only [seval, EV, a.t2]) (by simp only [seval, EV]) (by simp only [seval, EV]))
end
theorem law31 (L n : Nat) (hL : 2000 ≤ L) {l : List UInt8} (hl : l.length ≤ 512) (h : H) : Sp (CF L (n + 5)) 31 [sv l] h (LineD l h) := by
 refine Sp.body f31 (by simp) ?_
 unfold c31
 refine C.seq fun K hK => ?_
 have b0 := Has.new h (.rw (RQ.zero.cells nilV) (some 28))
 have k0 := Keep.new h (.rw (RQ.zero.cells nilV) (some 28))
 have n0 : (h.new (.rw (RQ.zero.cells nilV) (some 28))).next = h.next + 1 := rfl
 simp only [↓EW, EV, r31_0, new13]
 generalize hZ : h.next = Z at *
 generalize h.new (.rw (RQ.zero.cells nilV) (some 28)) = h1 at *
 refine hK _ _ _ (C.seq fun K hK => ?_)
 simp only [seval, EV, r31_1]
 refine cut_law L (n + 3) (l := l) (by omega) (by omega) _ fun lv h2 hq => ?_
 obtain ⟨hs, k1, hn⟩ := hq
 refine hK _ _ _ (C.seq fun K hK => ?_)
 obtain ⟨w, rest, hc⟩ : ∃ w rest, cutS l = w :: rest := List.exists_cons_of_ne_nil (cutS_ne l)
 rw [hc] at hs
 obtain ⟨b1, o1, e1, l1⟩ := hs.at (i := 0) (p := w) rfl
 have e1' : indexSl 1 lv (.int .i64 0) = some (.pointer (some ⟨b1, o1, none⟩)) := e1
 simp only [seval, EV, r31_2, e1', l1]
 refine law52 L (n + 3) w h2 _ fun r h3 hq => ?_
 obtain ⟨rfl, rfl⟩ := hq
 simp only [EV, tup2]
 refine hK _ _ _ ?_
 have mk : ∀ tm', tg tm' 2 = .pointer (some ⟨Z, 0, none⟩) → tg tm' 5 = lv → S31 h Z lv w rest tm' h3 := fun tm' e2 e5 => ⟨e2, e5, hs, b0.keep0 k1, by omega, fun b hb => by have := hn b hb; omega, k0.then k1⟩
 have done : ∀ (e : Ex) (tm : T Value) (h' : H), (e = .ret ∧ ∃ r, q31.f tm h' = some r ∧ LineD l h (resOf r) h') → (e = .norm ∨ e = .ret) ∧ ∃ r, q31.f tm h' = some r ∧ LineD l h (resOf r) h' := fun e tm h' hq => ⟨.inr hq.1, hq.2⟩
 rcases kind_cases w with ⟨k, many, E, hkw, hlo, ck⟩ | ⟨hkw, hoth⟩
 · rw [hkw]
   have g : ¬ (k : Int) = 0 := by have := ck.hk; omega
   refine C.seq (C.seq fun K hK => ?_)
   simp only [seval, EV, r31_3, dF g]
   refine hK _ _ _ (C.ct ((cmd31 L n hL hc hl hlo ck (mk _ (by simp only [seval, EV]) (by simp only [seval, EV])) (by simp only [seval, EV]) (by simp only [seval, EV])).mono ?_))
   rintro e tm' h' ⟨rfl, hq⟩
   exact done _ _ _ ⟨rfl, hq⟩
 rw [hkw]
 have d0 : decide (((0 : Nat) : Int) = 0) = true := rfl
 refine C.seq (C.seq fun K hK => ?_)
 simp only [seval, EV, r31_3, d0]
 refine hK _ _ _ (C.cf <| C.skip ?_)
 refine C.seq (C.seq fun K hK => ?_)
 simp only [seval, EV, r31_8, e1', l1]
 refine hK _ _ _ (C.block (C.seq fun K hK => ?_))
 have qw : ∀ (x : List UInt8) (m : List Nat), x = m.map UInt8.ofNat → ∀ c, binV Tryz.prog .eql 9 c (sv w) (.string (strB m)) = some (.bool (decide (w = x))) := fun x m e c => by
   subst e
   exact sv_eql 9 c w _
 have q1 := qw [117, 115, 101, 114] [117, 115, 101, 114] rfl
 have q2 := qw [116, 114, 97, 99, 107] [116, 114, 97, 99, 107] rfl
 have q3 := qw [112, 105, 110, 103] [112, 105, 110, 103] rfl
 have q4 := qw [113, 117, 105, 116] [113, 117, 105, 116] rfl
 have len : lenSl lv = some (.int .i64 ((rest.length : Int) + 1)) := by rw [hs.len, List.length_cons]; rfl
 by_cases g1 : w = [117, 115, 101, 114]
 · have hlo : lookL' w cmdL = some PS.user := by subst g1; rfl
   simp only [seval, EV, r31_9, q1, dT g1]
   refine hK _ _ _ (C.ct ((user31 L n hL hc hl hlo (mk _ (by simp only [seval, EV]) (by simp only [seval, EV]))).mono ?_))
   rintro e tm' h' ⟨rfl, hq⟩
   exact done _ _ _ ⟨rfl, hq⟩
 simp only [seval, EV, r31_9, q1, dF g1]
 refine hK _ _ _ (C.cf <| C.seq fun K hK => ?_)
 by_cases g2 : w = [116, 114, 97, 99, 107]
 · have hlo : lookL' w cmdL = some PS.track := by subst g2; rfl
   simp only [seval, EV, r31_14, q2, dT g2]
   refine hK _ _ _ (C.ct ((track31 L n hL hc hl hlo (mk _ (by simp only [seval, EV]) (by simp only [seval, EV]))).mono ?_))
   rintro e tm' h' ⟨rfl, hq⟩
   exact done _ _ _ ⟨rfl, hq⟩
 simp only [seval, EV, r31_14, q2, dF g2]
 refine hK _ _ _ (C.cf <| C.seq fun K hK => ?_)
 by_cases g3 : w = [112, 105, 110, 103]
 · have hline : lineP l = endP (fun s => { s with kind := 4 }) rest := by rw [lineP_cut hc]; subst g3; rfl
   simp only [seval, EV, r31_16, q3, dT g3]
   refine hK _ _ _ (C.ct (C.seq fun K hK => ?_))
   have a := mk (T.set (T.set T.e 2 (.pointer (some ⟨Z, 0, none⟩))) 5 lv) (by simp only [seval, EV]) (by simp only [seval, EV])
   by_cases g : (rest.length : Int) + 1 = 1
   · have hp := (ping_eq 4 (.inl rfl) rest).2 (by omega)
     simp only [seval, EV, r31_17, agg4, len, dT g, put13 a.bz rfl nil_ones]
     exact hK _ _ _ (C.ret ⟨.inr rfl, a.put (b := true) (by rw [hline, hp]) (fun _ => by rw [hline, hp]; exact ⟨rfl, rfl⟩) rfl (by simp only [seval, EV]) (by simp only [seval, EV]) (by simp only [seval, EV])⟩)
   · have hp := (ping_eq 4 (.inl rfl) rest).1 (by omega)
     simp only [seval, EV, r31_17, agg4, len, dF g, put13 a.bz rfl nil_ones]
     exact hK _ _ _ (C.ret ⟨.inr rfl, a.put (b := false) (by rw [hline]; exact hp) (fun e => by cases e) rfl (by simp only [seval, EV]) (by simp only [seval, EV]) (by simp only [seval, EV])⟩)
 simp only [seval, EV, r31_16, q3, dF g3]
 refine hK _ _ _ (C.cf <| C.seq fun K hK => ?_)
 by_cases g4 : w = [113, 117, 105, 116]
 · have hline : lineP l = endP (fun s => { s with kind := 5 }) rest := by rw [lineP_cut hc]; subst g4; rfl
   simp only [seval, EV, r31_18, q4, dT g4]
   refine hK _ _ _ (C.ct (C.seq fun K hK => ?_))
   have a := mk (T.set (T.set T.e 2 (.pointer (some ⟨Z, 0, none⟩))) 5 lv) (by simp only [seval, EV]) (by simp only [seval, EV])
   by_cases g : (rest.length : Int) + 1 = 1
   · have hp := (ping_eq 5 (.inr rfl) rest).2 (by omega)
     simp only [seval, EV, r31_19, agg5, len, dT g, put13 a.bz rfl nil_ones]
     exact hK _ _ _ (C.ret ⟨.inr rfl, a.put (b := true) (by rw [hline, hp]) (fun _ => by rw [hline, hp]; exact ⟨rfl, rfl⟩) rfl (by simp only [seval, EV]) (by simp only [seval, EV]) (by simp only [seval, EV])⟩)
   · have hp := (ping_eq 5 (.inr rfl) rest).1 (by omega)
     simp only [seval, EV, r31_19, agg5, len, dF g, put13 a.bz rfl nil_ones]
     exact hK _ _ _ (C.ret ⟨.inr rfl, a.put (b := false) (by rw [hline]; exact hp) (fun e => by cases e) rfl (by simp only [seval, EV]) (by simp only [seval, EV]) (by simp only [seval, EV])⟩)
 simp only [seval, EV, r31_18, q4, dF g4]
 refine hK _ _ _ (C.cf <| C.skip (C.seq fun K hK => ?_))
 have hline : (lineP l).2.2 = false := by
   rcases hoth with ⟨h, _⟩ | ⟨h, _⟩ | ⟨h, _⟩ | ⟨h, _⟩ | ⟨_, _, _, _, h⟩
   · exact absurd h g1
   · exact absurd h g2
   · exact absurd h g3
   · exact absurd h g4
   · rw [lineP_cut hc, h]
 have a := mk (T.set (T.set T.e 2 (.pointer (some ⟨Z, 0, none⟩))) 5 lv) (by simp only [seval, EV]) (by simp only [seval, EV])
 simp only [seval, EV, r31_20, zero13', put13 a.bz rfl nil_ones]
 exact hK _ _ _ (C.ret ⟨.inr rfl, a.none hline (by simp only [seval, EV]) (by simp only [seval, EV]) (by simp only [seval, EV])⟩)
end Go.Proofs.YtilpiiafjehbnaaGreatDoor
