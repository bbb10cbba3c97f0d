import Derived.Test.YtilpiiafjehbnaaDoorXbK
set_option linter.unusedSimpArgs false
set_option linter.unusedVariables false
namespace Go.Proofs.YtilpiiafjehbnaaDoor
open Go.Ev

theorem hO_self {v : Value} (hv : veq 64 v v = true) (b : Bool) : hO (some v) v b = b := by unfold hO; simp only [hv]
theorem veq_int (k : IntKind) (n : Int) : veq 64 (.int k n) (.int k n) = true := by
  show (kEq k k && iEq n n) = true
  rw [kEq_self, iEq_dec]; simp
theorem veq_str (s : ByteArray) : veq 64 (.string s) (.string s) = true := by
  show leB s.data.toList s.data.toList = true
  rw [leB_eq]; simp
def key0 (c : Cmd) : List UInt8 := c.keys.headD []
theorem keys_one {c : Cmd} {k : Nat} (m : May c k) (h1 : hm k = false) (h2 : hn k = false) : c.keys = [key0 c] := by
  obtain ⟨a, b⟩ := m.keys
  unfold loK hiK at *
  rw [h2] at a
  rw [h1, h2] at b
  have e : c.keys.length = 1 := by
    have a' : 1 ≤ c.keys.length := a
    have b' : c.keys.length ≤ 1 := b
    omega
  unfold key0
  match c.keys, e with
  | [x], _ => rfl
/-- where the words are made: what stands by then -/
structure Mid (c : Cmd) (h : H) (b : Nat) (v6 : Value) (tm : T Value) : Prop where
  t1 : tg tm 1 = .pointer (some ⟨b, 0, none⟩)
  t4 : tg tm 4 = sv (key0 c)
  t5 : tg tm 5 = sv (dec c.val.size)
  t6 : tg tm 6 = v6
  has : Has h b (.rw c.cells (some 26))
  puts : Strs h v6 [key0 c, dec c.flags.toNat, dec c.fo.toNat, dec c.val.size]
  keys : Strs h c.kv c.keys
  pow : Has h 1 (.ro powC)
def WordsQ (c : Cmd) (k : Nat) (h : H) : Ex → T Value → H → Prop := fun e tm h' => e = .ret ∧ (∃ v, tg tm 2 = v ∧ tg tm 3 = .bool (hv k) ∧ Strs h' v (wordsL c k)) ∧ Keep nobody h h'
noncomputable def cW : Box CodeT := ⟨seqC ⟨r12_5⟩ ⟨blockC 0 ⟨seqC ⟨r12_6⟩ ⟨condC ⟨fun _ tm => tg tm 30⟩ ⟨seqC ⟨r12_7⟩ retC⟩ ⟨seqC ⟨r12_8⟩ ⟨condC ⟨fun _ tm => tg tm 36⟩ ⟨seqC ⟨r12_9⟩ retC⟩ ⟨seqC ⟨seqC ⟨r12_10⟩ ⟨condC ⟨fun _ tm => tg tm 42⟩ skipC ⟨seqC ⟨r12_11⟩ ⟨condC ⟨fun _ tm => tg tm 42⟩ skipC ⟨r12_12⟩⟩⟩⟩⟩ ⟨condC ⟨fun _ tm => tg tm 42⟩ ⟨seqC ⟨r12_13⟩ retC⟩ ⟨seqC ⟨r12_14⟩ ⟨condC ⟨fun _ tm => tg tm 55⟩ ⟨seqC ⟨r12_15⟩ retC⟩ ⟨seqC ⟨r12_16⟩ ⟨condC ⟨fun _ tm => tg tm 65⟩ ⟨seqC ⟨r12_17⟩ retC⟩ ⟨seqC ⟨r12_18⟩ ⟨condC ⟨fun _ tm => tg tm 70⟩ ⟨seqC ⟨r12_19⟩ retC⟩ ⟨seqC ⟨r12_20⟩ ⟨condC ⟨fun _ tm => tg tm 77⟩ ⟨seqC ⟨r12_21⟩ retC⟩ ⟨seqC ⟨r12_22⟩ ⟨condC ⟨fun _ tm => tg tm 84⟩ ⟨seqC ⟨r12_23⟩ retC⟩ skipC⟩⟩⟩⟩⟩⟩⟩⟩⟩⟩⟩⟩⟩⟩⟩⟩⟩⟩
section
variable {L n : Nat} {tm : T Value} {h : H} {b : Nat} {v6 : Value} {c : Cmd}
theorem words_1 (a : Mid c h b v6 tm) (hk : c.kind = 1) (m : May c 1) : C cW (CF L (n + 5)) L tm h (WordsQ c 1 h) := by
  obtain ⟨t1, t4, t5, t6, has, puts, keys, pow⟩ := a
  have ld : ∀ h', Has h' b (.rw c.cells (some 26)) → ∀ o s, loadOne h' (.pointer (some ⟨b, o, s⟩)) = c.cells[o]? := fun h' hb o s => loadOne_has hb rfl
  have ld0 := ld h has
  intro K hK
  have lit : mkLit 9 1 h.next (fill (repl [(.string (strB []))] 1) (pl 1) [(0, (.string (strB [103, 101, 116])))]) = some (.rw ([nameN.getD 1 []].map sv) (some 9), .slice (some ⟨h.next, 0, none⟩) [nameN.getD 1 []].length [nameN.getD 1 []].length) := rfl
  have k1 := Keep.new h (.rw ([nameN.getD 1 []].map sv) (some 9))
  have b1 := Has.new h (.rw ([nameN.getD 1 []].map sv) (some 9))
  have ld1 := ld _ (has.keep0 k1)
  have hl : 1 ≤ c.keys.length ∧ c.keys.length ≤ 8 := m.keys
  obtain ⟨v', h', e, so, k2, _⟩ := app_lit1 b1 (keys.keep0 k1) (by omega) (by show 1 + _ ≤ _; omega)
  simp only [cW, ↓opStep_eq, ↓reduceIte, ↓EW, EV, Nat.reduceAdd, Nat.reduceEqDiff, Int.reduceEq, Int.reduceLT, Int.reduceLE, Int.reduceNe, seqC, retC, skipC, exitC, blockC, condC, r12_5, r12_6, r12_8, r12_10, r12_11, r12_12, r12_14, r12_16, r12_18, r12_20, r12_22, r12_7, t1, ld0, ld1, hcell, hk, lit, e]
  refine hK _ _ _ ⟨rfl, ⟨v', ?_, ?_, ?_⟩, k1.then k2⟩
  · simp only [↓opStep_eq, ↓reduceIte, ↓EW, EV, Nat.reduceAdd, Nat.reduceEqDiff, Int.reduceEq, Int.reduceLT, Int.reduceLE, Int.reduceNe, seqC, retC, skipC, exitC, blockC, condC]
  · simp only [↓opStep_eq, ↓reduceIte, ↓EW, EV, Nat.reduceAdd, Nat.reduceEqDiff, Int.reduceEq, Int.reduceLT, Int.reduceLE, Int.reduceNe, seqC, retC, skipC, exitC, blockC, condC]; rfl
  have w : wordsL c 1 = [nameN.getD 1 []] ++ c.keys := by simp [wordsL, numsL, hg, hb]
  rw [w]; exact so.strs
theorem words_10 (a : Mid c h b v6 tm) (hk : c.kind = 10) (m : May c 10) : C cW (CF L (n + 5)) L tm h (WordsQ c 10 h) := by
  obtain ⟨t1, t4, t5, t6, has, puts, keys, pow⟩ := a
  have ld : ∀ h', Has h' b (.rw c.cells (some 26)) → ∀ o s, loadOne h' (.pointer (some ⟨b, o, s⟩)) = c.cells[o]? := fun h' hb o s => loadOne_has hb rfl
  have ld0 := ld h has
  intro K hK
  have lit : mkLit 9 1 h.next (fill (repl [(.string (strB []))] 1) (pl 1) [(0, (.string (strB [100, 101, 108, 101, 116, 101])))]) = some (.rw ([nameN.getD 10 []].map sv) (some 9), .slice (some ⟨h.next, 0, none⟩) [nameN.getD 10 []].length [nameN.getD 10 []].length) := rfl
  have k1 := Keep.new h (.rw ([nameN.getD 10 []].map sv) (some 9))
  have b1 := Has.new h (.rw ([nameN.getD 10 []].map sv) (some 9))
  have ld1 := ld _ (has.keep0 k1)
  have hl : 1 ≤ c.keys.length ∧ c.keys.length ≤ 8 := m.keys
  obtain ⟨v', h', e, so, k2, _⟩ := app_lit1 b1 (keys.keep0 k1) (by omega) (by show 1 + _ ≤ _; omega)
  simp only [cW, ↓opStep_eq, ↓reduceIte, ↓EW, EV, Nat.reduceAdd, Nat.reduceEqDiff, Int.reduceEq, Int.reduceLT, Int.reduceLE, Int.reduceNe, seqC, retC, skipC, exitC, blockC, condC, r12_5, r12_6, r12_8, r12_10, r12_11, r12_12, r12_14, r12_16, r12_18, r12_20, r12_22, r12_9, t1, ld0, ld1, hcell, hk, lit, e]
  refine hK _ _ _ ⟨rfl, ⟨v', ?_, ?_, ?_⟩, k1.then k2⟩
  · simp only [↓opStep_eq, ↓reduceIte, ↓EW, EV, Nat.reduceAdd, Nat.reduceEqDiff, Int.reduceEq, Int.reduceLT, Int.reduceLE, Int.reduceNe, seqC, retC, skipC, exitC, blockC, condC]
  · simp only [↓opStep_eq, ↓reduceIte, ↓EW, EV, Nat.reduceAdd, Nat.reduceEqDiff, Int.reduceEq, Int.reduceLT, Int.reduceLE, Int.reduceNe, seqC, retC, skipC, exitC, blockC, condC]; rfl
  have w : wordsL c 10 = [nameN.getD 10 []] ++ c.keys := by simp [wordsL, numsL, hg, hb]
  rw [w]; exact so.strs
theorem words_2 (a : Mid c h b v6 tm) (hk : c.kind = 2) (m : May c 2) : C cW (CF L (n + 5)) L tm h (WordsQ c 2 h) := by
  obtain ⟨t1, t4, t5, t6, has, puts, keys, pow⟩ := a
  have ld : ∀ h', Has h' b (.rw c.cells (some 26)) → ∀ o s, loadOne h' (.pointer (some ⟨b, o, s⟩)) = c.cells[o]? := fun h' hb o s => loadOne_has hb rfl
  have ld0 := ld h has
  intro K hK
  have lit : mkLit 9 3 h.next (fill (repl [(.string (strB []))] 3) (pl 1) [(0, (.string (strB [115, 101, 116]))), (1, (.string (strB [97, 100, 100]))), (2, (.string (strB [114, 101, 112, 108, 97, 99, 101])))]) = some (.rw ([nameN.getD 2 [], nameN.getD 3 [], nameN.getD 4 []].map sv) (some 9), .slice (some ⟨h.next, 0, none⟩) 3 3) := rfl
  have k1 := Keep.new h (.rw ([nameN.getD 2 [], nameN.getD 3 [], nameN.getD 4 []].map sv) (some 9))
  have b1 := Has.new h (.rw ([nameN.getD 2 [], nameN.getD 3 [], nameN.getD 4 []].map sv) (some 9))
  have ld1 := ld _ (has.keep0 k1)
  have w0 : IntKind.u8.wrap ((2 : Int) - 2) = 0 := rfl
  have ix : indexSl 1 (.slice (some ⟨h.next, 0, none⟩) 3 3) (.int .u8 0) = some (.pointer (some ⟨h.next, 0, none⟩)) := rfl
  have lw : ∀ s, loadOne (h.new (.rw ([nameN.getD 2 [], nameN.getD 3 [], nameN.getD 4 []].map sv) (some 9))) (.pointer (some ⟨h.next, 0, s⟩)) = some (sv (nameN.getD 2 [])) := fun s => loadOne_has b1 rfl
  have hs1 := puts.keep0 k1
  generalize hh1 : h.new (.rw ([nameN.getD 2 [], nameN.getD 3 [], nameN.getD 4 []].map sv) (some 9)) = h1 at *
  have lit2 : mkLit 9 1 h1.next (fill (repl [(.string (strB []))] 1) (pl 1) [(0, sv (nameN.getD 2 []))]) = some (.rw ([nameN.getD 2 []].map sv) (some 9), .slice (some ⟨h1.next, 0, none⟩) [nameN.getD 2 []].length [nameN.getD 2 []].length) := rfl
  have k2 := Keep.new h1 (.rw ([nameN.getD 2 []].map sv) (some 9))
  have b2 := Has.new h1 (.rw ([nameN.getD 2 []].map sv) (some 9))
  obtain ⟨v', h', e, so, k3, _⟩ := app_lit1 b2 (hs1.keep0 k2) (by simp) (by simp)
  have e1 := keys_one m rfl rfl
  simp only [cW, ↓opStep_eq, ↓reduceIte, ↓EW, EV, Nat.reduceAdd, Nat.reduceEqDiff, Int.reduceEq, Int.reduceLT, Int.reduceLE, Int.reduceNe, seqC, retC, skipC, exitC, blockC, condC, r12_5, r12_6, r12_8, r12_10, r12_11, r12_12, r12_14, r12_16, r12_18, r12_20, r12_22, r12_13, t1, t6, ld0, ld1, hcell, hk, lit, hh1, w0, ix, lw, lit2, e]
  refine hK _ _ _ ⟨rfl, ⟨v', ?_, ?_, ?_⟩, (k1.then k2).then k3⟩
  · simp only [↓opStep_eq, ↓reduceIte, ↓EW, EV, Nat.reduceAdd, Nat.reduceEqDiff, Int.reduceEq, Int.reduceLT, Int.reduceLE, Int.reduceNe, seqC, retC, skipC, exitC, blockC, condC]
  · simp only [↓opStep_eq, ↓reduceIte, ↓EW, EV, Nat.reduceAdd, Nat.reduceEqDiff, Int.reduceEq, Int.reduceLT, Int.reduceLE, Int.reduceNe, seqC, retC, skipC, exitC, blockC, condC]; rfl
  have w : wordsL c 2 = [nameN.getD 2 []] ++ [key0 c, dec c.flags.toNat, dec c.fo.toNat, dec c.val.size] := by
    unfold wordsL; rw [e1]; simp [numsL, hg]
  rw [w]; exact so.strs
theorem words_3 (a : Mid c h b v6 tm) (hk : c.kind = 3) (m : May c 3) : C cW (CF L (n + 5)) L tm h (WordsQ c 3 h) := by
  obtain ⟨t1, t4, t5, t6, has, puts, keys, pow⟩ := a
  have ld : ∀ h', Has h' b (.rw c.cells (some 26)) → ∀ o s, loadOne h' (.pointer (some ⟨b, o, s⟩)) = c.cells[o]? := fun h' hb o s => loadOne_has hb rfl
  have ld0 := ld h has
  intro K hK
  have lit : mkLit 9 3 h.next (fill (repl [(.string (strB []))] 3) (pl 1) [(0, (.string (strB [115, 101, 116]))), (1, (.string (strB [97, 100, 100]))), (2, (.string (strB [114, 101, 112, 108, 97, 99, 101])))]) = some (.rw ([nameN.getD 2 [], nameN.getD 3 [], nameN.getD 4 []].map sv) (some 9), .slice (some ⟨h.next, 0, none⟩) 3 3) := rfl
  have k1 := Keep.new h (.rw ([nameN.getD 2 [], nameN.getD 3 [], nameN.getD 4 []].map sv) (some 9))
  have b1 := Has.new h (.rw ([nameN.getD 2 [], nameN.getD 3 [], nameN.getD 4 []].map sv) (some 9))
  have ld1 := ld _ (has.keep0 k1)
  have w0 : IntKind.u8.wrap ((3 : Int) - 2) = 1 := rfl
  have ix : indexSl 1 (.slice (some ⟨h.next, 0, none⟩) 3 3) (.int .u8 1) = some (.pointer (some ⟨h.next, 1, none⟩)) := rfl
  have lw : ∀ s, loadOne (h.new (.rw ([nameN.getD 2 [], nameN.getD 3 [], nameN.getD 4 []].map sv) (some 9))) (.pointer (some ⟨h.next, 1, s⟩)) = some (sv (nameN.getD 3 [])) := fun s => loadOne_has b1 rfl
  have hs1 := puts.keep0 k1
  generalize hh1 : h.new (.rw ([nameN.getD 2 [], nameN.getD 3 [], nameN.getD 4 []].map sv) (some 9)) = h1 at *
  have lit2 : mkLit 9 1 h1.next (fill (repl [(.string (strB []))] 1) (pl 1) [(0, sv (nameN.getD 3 []))]) = some (.rw ([nameN.getD 3 []].map sv) (some 9), .slice (some ⟨h1.next, 0, none⟩) [nameN.getD 3 []].length [nameN.getD 3 []].length) := rfl
  have k2 := Keep.new h1 (.rw ([nameN.getD 3 []].map sv) (some 9))
  have b2 := Has.new h1 (.rw ([nameN.getD 3 []].map sv) (some 9))
  obtain ⟨v', h', e, so, k3, _⟩ := app_lit1 b2 (hs1.keep0 k2) (by simp) (by simp)
  have e1 := keys_one m rfl rfl
  simp only [cW, ↓opStep_eq, ↓reduceIte, ↓EW, EV, Nat.reduceAdd, Nat.reduceEqDiff, Int.reduceEq, Int.reduceLT, Int.reduceLE, Int.reduceNe, seqC, retC, skipC, exitC, blockC, condC, r12_5, r12_6, r12_8, r12_10, r12_11, r12_12, r12_14, r12_16, r12_18, r12_20, r12_22, r12_13, t1, t6, ld0, ld1, hcell, hk, lit, hh1, w0, ix, lw, lit2, e]
  refine hK _ _ _ ⟨rfl, ⟨v', ?_, ?_, ?_⟩, (k1.then k2).then k3⟩
  · simp only [↓opStep_eq, ↓reduceIte, ↓EW, EV, Nat.reduceAdd, Nat.reduceEqDiff, Int.reduceEq, Int.reduceLT, Int.reduceLE, Int.reduceNe, seqC, retC, skipC, exitC, blockC, condC]
  · simp only [↓opStep_eq, ↓reduceIte, ↓EW, EV, Nat.reduceAdd, Nat.reduceEqDiff, Int.reduceEq, Int.reduceLT, Int.reduceLE, Int.reduceNe, seqC, retC, skipC, exitC, blockC, condC]; rfl
  have w : wordsL c 3 = [nameN.getD 3 []] ++ [key0 c, dec c.flags.toNat, dec c.fo.toNat, dec c.val.size] := by
    unfold wordsL; rw [e1]; simp [numsL, hg]
  rw [w]; exact so.strs
theorem words_4 (a : Mid c h b v6 tm) (hk : c.kind = 4) (m : May c 4) : C cW (CF L (n + 5)) L tm h (WordsQ c 4 h) := by
  obtain ⟨t1, t4, t5, t6, has, puts, keys, pow⟩ := a
  have ld : ∀ h', Has h' b (.rw c.cells (some 26)) → ∀ o s, loadOne h' (.pointer (some ⟨b, o, s⟩)) = c.cells[o]? := fun h' hb o s => loadOne_has hb rfl
  have ld0 := ld h has
  intro K hK
  have lit : mkLit 9 3 h.next (fill (repl [(.string (strB []))] 3) (pl 1) [(0, (.string (strB [115, 101, 116]))), (1, (.string (strB [97, 100, 100]))), (2, (.string (strB [114, 101, 112, 108, 97, 99, 101])))]) = some (.rw ([nameN.getD 2 [], nameN.getD 3 [], nameN.getD 4 []].map sv) (some 9), .slice (some ⟨h.next, 0, none⟩) 3 3) := rfl
  have k1 := Keep.new h (.rw ([nameN.getD 2 [], nameN.getD 3 [], nameN.getD 4 []].map sv) (some 9))
  have b1 := Has.new h (.rw ([nameN.getD 2 [], nameN.getD 3 [], nameN.getD 4 []].map sv) (some 9))
  have ld1 := ld _ (has.keep0 k1)
  have w0 : IntKind.u8.wrap ((4 : Int) - 2) = 2 := rfl
  have ix : indexSl 1 (.slice (some ⟨h.next, 0, none⟩) 3 3) (.int .u8 2) = some (.pointer (some ⟨h.next, 2, none⟩)) := rfl
  have lw : ∀ s, loadOne (h.new (.rw ([nameN.getD 2 [], nameN.getD 3 [], nameN.getD 4 []].map sv) (some 9))) (.pointer (some ⟨h.next, 2, s⟩)) = some (sv (nameN.getD 4 [])) := fun s => loadOne_has b1 rfl
  have hs1 := puts.keep0 k1
  generalize hh1 : h.new (.rw ([nameN.getD 2 [], nameN.getD 3 [], nameN.getD 4 []].map sv) (some 9)) = h1 at *
  have lit2 : mkLit 9 1 h1.next (fill (repl [(.string (strB []))] 1) (pl 1) [(0, sv (nameN.getD 4 []))]) = some (.rw ([nameN.getD 4 []].map sv) (some 9), .slice (some ⟨h1.next, 0, none⟩) [nameN.getD 4 []].length [nameN.getD 4 []].length) := rfl
  have k2 := Keep.new h1 (.rw ([nameN.getD 4 []].map sv) (some 9))
  have b2 := Has.new h1 (.rw ([nameN.getD 4 []].map sv) (some 9))
  obtain ⟨v', h', e, so, k3, _⟩ := app_lit1 b2 (hs1.keep0 k2) (by simp) (by simp)
  have e1 := keys_one m rfl rfl
  simp only [cW, ↓opStep_eq, ↓reduceIte, ↓EW, EV, Nat.reduceAdd, Nat.reduceEqDiff, Int.reduceEq, Int.reduceLT, Int.reduceLE, Int.reduceNe, seqC, retC, skipC, exitC, blockC, condC, r12_5, r12_6, r12_8, r12_10, r12_11, r12_12, r12_14, r12_16, r12_18, r12_20, r12_22, r12_13, t1, t6, ld0, ld1, hcell, hk, lit, hh1, w0, ix, lw, lit2, e]
  refine hK _ _ _ ⟨rfl, ⟨v', ?_, ?_, ?_⟩, (k1.then k2).then k3⟩
  · simp only [↓opStep_eq, ↓reduceIte, ↓EW, EV, Nat.reduceAdd, Nat.reduceEqDiff, Int.reduceEq, Int.reduceLT, Int.reduceLE, Int.reduceNe, seqC, retC, skipC, exitC, blockC, condC]
  · simp only [↓opStep_eq, ↓reduceIte, ↓EW, EV, Nat.reduceAdd, Nat.reduceEqDiff, Int.reduceEq, Int.reduceLT, Int.reduceLE, Int.reduceNe, seqC, retC, skipC, exitC, blockC, condC]; rfl
  have w : wordsL c 4 = [nameN.getD 4 []] ++ [key0 c, dec c.flags.toNat, dec c.fo.toNat, dec c.val.size] := by
    unfold wordsL; rw [e1]; simp [numsL, hg]
  rw [w]; exact so.strs
theorem words_5 (hL : 1000 ≤ L) (a : Mid c h b v6 tm) (hk : c.kind = 5) (m : May c 5) (hf : c.fit) : C cW (CF L (n + 5)) L tm h (WordsQ c 5 h) := by
  obtain ⟨t1, t4, t5, t6, has, puts, keys, pow⟩ := a
  have ld : ∀ h', Has h' b (.rw c.cells (some 26)) → ∀ o s, loadOne h' (.pointer (some ⟨b, o, s⟩)) = c.cells[o]? := fun h' hb o s => loadOne_has hb rfl
  have ld0 := ld h has
  intro K hK
  have k0 := keep_room h 10
  have lit : mkLit 9 1 h.next (fill (repl [(.string (strB []))] 1) (pl 1) [(0, (.string (strB [99, 97, 115])))]) = some (.rw ([nameN.getD 5 []].map sv) (some 9), .slice (some ⟨h.next, 0, none⟩) [nameN.getD 5 []].length [nameN.getD 5 []].length) := rfl
  have kp := Keep.put (⟨h.objs, h.next + 10⟩ : H) h.next (.rw ([nameN.getD 5 []].map sv) (some 9))
  have b1 : Has ((⟨h.objs, h.next + 10⟩ : H).put h.next (.rw ([nameN.getD 5 []].map sv) (some 9))) h.next (.rw ([nameN.getD 5 []].map sv) (some 9)) := Has.put (by show h.next < h.next + 10; omega)
  have k1 : Keep nobody h ((⟨h.objs, h.next + 10⟩ : H).put h.next (.rw ([nameN.getD 5 []].map sv) (some 9))) := k0.trans kp fun k hk e => by omega
  have n1 : ((⟨h.objs, h.next + 10⟩ : H).put h.next (.rw ([nameN.getD 5 []].map sv) (some 9))).next = h.next + 10 := rfl
  generalize hh1 : (⟨h.objs, h.next + 10⟩ : H).put h.next (.rw ([nameN.getD 5 []].map sv) (some 9)) = h1 at *
  obtain ⟨v', h2, e, so, k2, sub⟩ := app_lit1 b1 (puts.keep0 k1) (by simp) (by simp)
  have has2 := (has.keep0 k1).keep0 k2
  have pow2 := (pow.keep0 k1).keep0 k2
  have ld1 := ld _ (has.keep0 k1)
  have ld2 := ld _ has2
  have hu := hf.uniq
  have hs := hO_self (veq_int .u64 ((c.uniq.toNat : Nat) : Int))
  have uq : c.uniq = ((c.uniq.toNat : Nat) : Int) := by omega
  have hcell' : c.cells = [.int .u8 c.kind, .int .i64 c.ten, c.kv, .string c.val, .int .u32 c.flags, .int .i64 c.fo, .int .u64 ((c.uniq.toNat : Nat) : Int), .int .u64 c.by'] := by rw [hcell, ← uq]
  simp only [cW, ↓opStep_eq, ↓reduceIte, ↓EW, EV, Nat.reduceAdd, Nat.reduceEqDiff, Int.reduceEq, Int.reduceLT, Int.reduceLE, Int.reduceNe, seqC, retC, skipC, exitC, blockC, condC, r12_5, r12_6, r12_8, r12_10, r12_11, r12_12, r12_14, r12_16, r12_18, r12_20, r12_22, r12_15, t1, t6, ld0, hcell', hk, lit, hh1, ld1, e, ld2, hs]
  refine tens_u64 L n hL (by omega) pow2 _ fun r h3 hq => ?_
  obtain ⟨rfl, k3⟩ := hq
  have lit2 : mkLit 9 1 (h.next + 6) (fill (repl [(.string (strB []))] 1) (pl 1) [(0, sv (dec c.uniq.toNat))]) = some (.rw ([dec c.uniq.toNat].map sv) (some 9), .slice (some ⟨h.next + 6, 0, none⟩) [dec c.uniq.toNat].length [dec c.uniq.toNat].length) := rfl
  have nn := k2.next
  have nn3 := k3.next
  have kp2 := Keep.put h3 (h.next + 6) (.rw ([dec c.uniq.toNat].map sv) (some 9))
  have b4 : Has (h3.put (h.next + 6) (.rw ([dec c.uniq.toNat].map sv) (some 9))) (h.next + 6) (.rw ([dec c.uniq.toNat].map sv) (some 9)) := Has.put (by omega)
  have so4 : StrOp (h3.put (h.next + 6) (.rw ([dec c.uniq.toNat].map sv) (some 9))) v' _ := (so.keep k3 fun _ _ e => e).keep kp2 fun bb hb e => by have := sub bb hb; omega
  have s4 := strs_lit b4 (by simp)
  obtain ⟨v'', h5, e5, so5, k5⟩ := app_op so4 s4 (by simp) (by simp)
  simp only [↓opStep_eq, ↓reduceIte, ↓EW, EV, Nat.reduceAdd, Nat.reduceEqDiff, Int.reduceEq, Int.reduceLT, Int.reduceLE, Int.reduceNe, seqC, retC, skipC, exitC, blockC, condC, lit2, e5]
  refine hK _ _ _ ⟨rfl, ⟨v'', ?_, ?_, ?_⟩, ?_⟩
  · simp only [↓opStep_eq, ↓reduceIte, ↓EW, EV, Nat.reduceAdd, Nat.reduceEqDiff, Int.reduceEq, Int.reduceLT, Int.reduceLE, Int.reduceNe, seqC, retC, skipC, exitC, blockC, condC]
  · simp only [↓opStep_eq, ↓reduceIte, ↓EW, EV, Nat.reduceAdd, Nat.reduceEqDiff, Int.reduceEq, Int.reduceLT, Int.reduceLE, Int.reduceNe, seqC, retC, skipC, exitC, blockC, condC]; rfl
  · have e1 := keys_one m rfl rfl
    have w : wordsL c 5 = [nameN.getD 5 []] ++ [key0 c, dec c.flags.toNat, dec c.fo.toNat, dec c.val.size] ++ [dec c.uniq.toNat] := by
      unfold wordsL; rw [e1]; simp [numsL, hg]
    rw [w]; exact so5.strs
  · refine (((k1.then k2).then k3).trans kp2 fun k hk e => by omega).trans k5 fun k hk e => ?_
    have := sub k e; omega
theorem words_6 (hL : 1000 ≤ L) (a : Mid c h b v6 tm) (hk : c.kind = 6) (m : May c 6) (hf : c.fit) : C cW (CF L (n + 5)) L tm h (WordsQ c 6 h) := by
  obtain ⟨t1, t4, t5, t6, has, puts, keys, pow⟩ := a
  have ld : ∀ h', Has h' b (.rw c.cells (some 26)) → ∀ o s, loadOne h' (.pointer (some ⟨b, o, s⟩)) = c.cells[o]? := fun h' hb o s => loadOne_has hb rfl
  have ld0 := ld h has
  intro K hK
  have hb1 := hf.by'
  have hb2 := m.fo
  have uq : c.by' = ((c.by'.toNat : Nat) : Int) := by omega
  have ff : c.fo = ((c.fo.toNat : Nat) : Int) := by omega
  have hcell' : c.cells = [.int .u8 c.kind, .int .i64 c.ten, c.kv, .string c.val, .int .u32 c.flags, .int .i64 ((c.fo.toNat : Nat) : Int), .int .u64 c.uniq, .int .u64 ((c.by'.toNat : Nat) : Int)] := by rw [hcell, ← uq, ← ff]
  simp only [cW, ↓opStep_eq, ↓reduceIte, ↓EW, EV, Nat.reduceAdd, Nat.reduceEqDiff, Int.reduceEq, Int.reduceLT, Int.reduceLE, Int.reduceNe, seqC, retC, skipC, exitC, blockC, condC, r12_5, r12_6, r12_8, r12_10, r12_11, r12_12, r12_14, r12_16, r12_18, r12_20, r12_22, r12_19, t1, ld0, hcell', hk]
  refine tens_u64 L n hL (by omega) pow _ fun r h3 hq => ?_
  obtain ⟨rfl, k3⟩ := hq
  have lit2 : mkLit 9 3 h3.next (fill (repl [(.string (strB []))] 3) (pl 1) [(0, (.string (strB [105, 110, 99, 114]))), (1, sv (key0 c)), (2, sv (dec c.by'.toNat))]) = some (.rw ([nameN.getD 6 [], key0 c, dec c.by'.toNat].map sv) (some 9), .slice (some ⟨h3.next, 0, none⟩) 3 3) := rfl
  simp only [↓opStep_eq, ↓reduceIte, ↓EW, EV, Nat.reduceAdd, Nat.reduceEqDiff, Int.reduceEq, Int.reduceLT, Int.reduceLE, Int.reduceNe, seqC, retC, skipC, exitC, blockC, condC, t4, lit2]
  have b4 := Has.new h3 (.rw ([nameN.getD 6 [], key0 c, dec c.by'.toNat].map sv) (some 9))
  refine hK _ _ _ ⟨rfl, ⟨.slice (some ⟨h3.next, 0, none⟩) 3 3, ?_, ?_, ?_⟩, k3.then (.new _ _)⟩
  · simp only [↓opStep_eq, ↓reduceIte, ↓EW, EV, Nat.reduceAdd, Nat.reduceEqDiff, Int.reduceEq, Int.reduceLT, Int.reduceLE, Int.reduceNe, seqC, retC, skipC, exitC, blockC, condC]
  · simp only [↓opStep_eq, ↓reduceIte, ↓EW, EV, Nat.reduceAdd, Nat.reduceEqDiff, Int.reduceEq, Int.reduceLT, Int.reduceLE, Int.reduceNe, seqC, retC, skipC, exitC, blockC, condC]; rfl
  have e1 := keys_one m rfl rfl
  have w : wordsL c 6 = [nameN.getD 6 [], key0 c, dec c.by'.toNat] := by
    unfold wordsL; rw [e1]; simp [numsL, hg, hb]
  rw [w]; exact strs_lit b4 (by simp)
theorem words_7 (hL : 1000 ≤ L) (a : Mid c h b v6 tm) (hk : c.kind = 7) (m : May c 7) (hf : c.fit) : C cW (CF L (n + 5)) L tm h (WordsQ c 7 h) := by
  obtain ⟨t1, t4, t5, t6, has, puts, keys, pow⟩ := a
  have ld : ∀ h', Has h' b (.rw c.cells (some 26)) → ∀ o s, loadOne h' (.pointer (some ⟨b, o, s⟩)) = c.cells[o]? := fun h' hb o s => loadOne_has hb rfl
  have ld0 := ld h has
  intro K hK
  have hb1 := hf.by'
  have hb2 := m.fo
  have uq : c.by' = ((c.by'.toNat : Nat) : Int) := by omega
  have ff : c.fo = ((c.fo.toNat : Nat) : Int) := by omega
  have hcell' : c.cells = [.int .u8 c.kind, .int .i64 c.ten, c.kv, .string c.val, .int .u32 c.flags, .int .i64 ((c.fo.toNat : Nat) : Int), .int .u64 c.uniq, .int .u64 ((c.by'.toNat : Nat) : Int)] := by rw [hcell, ← uq, ← ff]
  simp only [cW, ↓opStep_eq, ↓reduceIte, ↓EW, EV, Nat.reduceAdd, Nat.reduceEqDiff, Int.reduceEq, Int.reduceLT, Int.reduceLE, Int.reduceNe, seqC, retC, skipC, exitC, blockC, condC, r12_5, r12_6, r12_8, r12_10, r12_11, r12_12, r12_14, r12_16, r12_18, r12_20, r12_22, r12_21, t1, ld0, hcell', hk]
  refine tens_u64 L n hL (by omega) pow _ fun r h3 hq => ?_
  obtain ⟨rfl, k3⟩ := hq
  have lit2 : mkLit 9 3 h3.next (fill (repl [(.string (strB []))] 3) (pl 1) [(0, (.string (strB [100, 101, 99, 114]))), (1, sv (key0 c)), (2, sv (dec c.by'.toNat))]) = some (.rw ([nameN.getD 7 [], key0 c, dec c.by'.toNat].map sv) (some 9), .slice (some ⟨h3.next, 0, none⟩) 3 3) := rfl
  simp only [↓opStep_eq, ↓reduceIte, ↓EW, EV, Nat.reduceAdd, Nat.reduceEqDiff, Int.reduceEq, Int.reduceLT, Int.reduceLE, Int.reduceNe, seqC, retC, skipC, exitC, blockC, condC, t4, lit2]
  have b4 := Has.new h3 (.rw ([nameN.getD 7 [], key0 c, dec c.by'.toNat].map sv) (some 9))
  refine hK _ _ _ ⟨rfl, ⟨.slice (some ⟨h3.next, 0, none⟩) 3 3, ?_, ?_, ?_⟩, k3.then (.new _ _)⟩
  · simp only [↓opStep_eq, ↓reduceIte, ↓EW, EV, Nat.reduceAdd, Nat.reduceEqDiff, Int.reduceEq, Int.reduceLT, Int.reduceLE, Int.reduceNe, seqC, retC, skipC, exitC, blockC, condC]
  · simp only [↓opStep_eq, ↓reduceIte, ↓EW, EV, Nat.reduceAdd, Nat.reduceEqDiff, Int.reduceEq, Int.reduceLT, Int.reduceLE, Int.reduceNe, seqC, retC, skipC, exitC, blockC, condC]; rfl
  have e1 := keys_one m rfl rfl
  have w : wordsL c 7 = [nameN.getD 7 [], key0 c, dec c.by'.toNat] := by
    unfold wordsL; rw [e1]; simp [numsL, hg, hb]
  rw [w]; exact strs_lit b4 (by simp)
theorem words_9 (hL : 1000 ≤ L) (a : Mid c h b v6 tm) (hk : c.kind = 9) (m : May c 9) (hf : c.fit) : C cW (CF L (n + 5)) L tm h (WordsQ c 9 h) := by
  obtain ⟨t1, t4, t5, t6, has, puts, keys, pow⟩ := a
  have ld : ∀ h', Has h' b (.rw c.cells (some 26)) → ∀ o s, loadOne h' (.pointer (some ⟨b, o, s⟩)) = c.cells[o]? := fun h' hb o s => loadOne_has hb rfl
  have ld0 := ld h has
  intro K hK
  have hb1 := hf.by'
  have hb2 := m.fo
  have uq : c.by' = ((c.by'.toNat : Nat) : Int) := by omega
  have ff : c.fo = ((c.fo.toNat : Nat) : Int) := by omega
  have hcell' : c.cells = [.int .u8 c.kind, .int .i64 c.ten, c.kv, .string c.val, .int .u32 c.flags, .int .i64 ((c.fo.toNat : Nat) : Int), .int .u64 c.uniq, .int .u64 ((c.by'.toNat : Nat) : Int)] := by rw [hcell, ← uq, ← ff]
  simp only [cW, ↓opStep_eq, ↓reduceIte, ↓EW, EV, Nat.reduceAdd, Nat.reduceEqDiff, Int.reduceEq, Int.reduceLT, Int.reduceLE, Int.reduceNe, seqC, retC, skipC, exitC, blockC, condC, r12_5, r12_6, r12_8, r12_10, r12_11, r12_12, r12_14, r12_16, r12_18, r12_20, r12_22, r12_23, t1, ld0, hcell', hk]
  refine tens_int L n hL (by omega) pow _ fun r h3 hq => ?_
  obtain ⟨rfl, k3⟩ := hq
  have lit2 : mkLit 9 3 h3.next (fill (repl [(.string (strB []))] 3) (pl 1) [(0, (.string (strB [116, 111, 117, 99, 104]))), (1, sv (key0 c)), (2, sv (dec c.fo.toNat))]) = some (.rw ([nameN.getD 9 [], key0 c, dec c.fo.toNat].map sv) (some 9), .slice (some ⟨h3.next, 0, none⟩) 3 3) := rfl
  simp only [↓opStep_eq, ↓reduceIte, ↓EW, EV, Nat.reduceAdd, Nat.reduceEqDiff, Int.reduceEq, Int.reduceLT, Int.reduceLE, Int.reduceNe, seqC, retC, skipC, exitC, blockC, condC, t4, lit2]
  have b4 := Has.new h3 (.rw ([nameN.getD 9 [], key0 c, dec c.fo.toNat].map sv) (some 9))
  refine hK _ _ _ ⟨rfl, ⟨.slice (some ⟨h3.next, 0, none⟩) 3 3, ?_, ?_, ?_⟩, k3.then (.new _ _)⟩
  · simp only [↓opStep_eq, ↓reduceIte, ↓EW, EV, Nat.reduceAdd, Nat.reduceEqDiff, Int.reduceEq, Int.reduceLT, Int.reduceLE, Int.reduceNe, seqC, retC, skipC, exitC, blockC, condC]
  · simp only [↓opStep_eq, ↓reduceIte, ↓EW, EV, Nat.reduceAdd, Nat.reduceEqDiff, Int.reduceEq, Int.reduceLT, Int.reduceLE, Int.reduceNe, seqC, retC, skipC, exitC, blockC, condC]; rfl
  have e1 := keys_one m rfl rfl
  have w : wordsL c 9 = [nameN.getD 9 [], key0 c, dec c.fo.toNat] := by
    unfold wordsL; rw [e1]; simp [numsL, hg, hb]
  rw [w]; exact strs_lit b4 (by simp)
theorem words_8 (a : Mid c h b v6 tm) (hk : c.kind = 8) (m : May c 8) : C cW (CF L (n + 5)) L tm h (WordsQ c 8 h) := by
  obtain ⟨t1, t4, t5, t6, has, puts, keys, pow⟩ := a
  have ld : ∀ h', Has h' b (.rw c.cells (some 26)) → ∀ o s, loadOne h' (.pointer (some ⟨b, o, s⟩)) = c.cells[o]? := fun h' hb o s => loadOne_has hb rfl
  have ld0 := ld h has
  intro K hK
  have lit2 : mkLit 9 3 h.next (fill (repl [(.string (strB []))] 3) (pl 1) [(0, (.string (strB [97, 112, 112, 101, 110, 100]))), (1, sv (key0 c)), (2, sv (dec c.val.size))]) = some (.rw ([nameN.getD 8 [], key0 c, dec c.val.size].map sv) (some 9), .slice (some ⟨h.next, 0, none⟩) 3 3) := rfl
  simp only [cW, ↓opStep_eq, ↓reduceIte, ↓EW, EV, Nat.reduceAdd, Nat.reduceEqDiff, Int.reduceEq, Int.reduceLT, Int.reduceLE, Int.reduceNe, seqC, retC, skipC, exitC, blockC, condC, r12_5, r12_6, r12_8, r12_10, r12_11, r12_12, r12_14, r12_16, r12_18, r12_20, r12_22, r12_17, t1, t4, t5, ld0, hcell, hk, lit2]
  have b4 := Has.new h (.rw ([nameN.getD 8 [], key0 c, dec c.val.size].map sv) (some 9))
  refine hK _ _ _ ⟨rfl, ⟨.slice (some ⟨h.next, 0, none⟩) 3 3, ?_, ?_, ?_⟩, .new _ _⟩
  · simp only [↓opStep_eq, ↓reduceIte, ↓EW, EV, Nat.reduceAdd, Nat.reduceEqDiff, Int.reduceEq, Int.reduceLT, Int.reduceLE, Int.reduceNe, seqC, retC, skipC, exitC, blockC, condC]
  · simp only [↓opStep_eq, ↓reduceIte, ↓EW, EV, Nat.reduceAdd, Nat.reduceEqDiff, Int.reduceEq, Int.reduceLT, Int.reduceLE, Int.reduceNe, seqC, retC, skipC, exitC, blockC, condC]; rfl
  have e1 := keys_one m rfl rfl
  have w : wordsL c 8 = [nameN.getD 8 [], key0 c, dec c.val.size] := by
    unfold wordsL; rw [e1]; simp [numsL, hg, hb]
  rw [w]; exact strs_lit b4 (by simp)
end
end Go.Proofs.YtilpiiafjehbnaaDoor

namespace Go.Proofs.YtilpiiafjehbnaaDoor
open Go.Ev

theorem words_11 {L n : Nat} {tm : T Value} {h : H} {b : Nat} {v6 : Value} {c : Cmd} (a : Mid c h b v6 tm) (hk : c.kind = 11) (m : May c 11) :
    C ⟨seqC cW ⟨seqC ⟨r12_24⟩ retC⟩⟩ (CF L (n + 5)) L tm h (WordsQ c 11 h) := by
  obtain ⟨t1, t4, t5, t6, has, puts, keys, pow⟩ := a
  have ld0 : ∀ o s, loadOne h (.pointer (some ⟨b, o, s⟩)) = c.cells[o]? := fun o s => loadOne_has has rfl
  have lit : mkLit 9 1 h.next (fill (repl [(.string (strB []))] 1) (pl 1) [(0, (.string (strB [102, 108, 117, 115, 104])))]) = some (.rw ([nameN.getD 11 []].map sv) (some 9), .slice (some ⟨h.next, 0, none⟩) 1 1) := rfl
  have b1 := Has.new h (.rw ([nameN.getD 11 []].map sv) (some 9))
  intro K hK
  simp only [cW, ↓opStep_eq, ↓reduceIte, ↓EW, EV, Nat.reduceAdd, Nat.reduceEqDiff, Int.reduceEq, Int.reduceLT, Int.reduceLE, Int.reduceNe, seqC, retC, skipC, exitC, blockC, condC, r12_5, r12_6, r12_8, r12_10, r12_11, r12_12, r12_14, r12_16, r12_18, r12_20, r12_22, r12_24, t1, ld0, hcell, hk, lit]
  refine hK _ _ _ ⟨rfl, ⟨.slice (some ⟨h.next, 0, none⟩) 1 1, ?_, ?_, ?_⟩, .new _ _⟩
  · simp only [↓opStep_eq, ↓reduceIte, ↓EW, EV, Nat.reduceAdd, Nat.reduceEqDiff, Int.reduceEq, Int.reduceLT, Int.reduceLE, Int.reduceNe, seqC, retC, skipC, exitC, blockC, condC]
  · simp only [↓opStep_eq, ↓reduceIte, ↓EW, EV, Nat.reduceAdd, Nat.reduceEqDiff, Int.reduceEq, Int.reduceLT, Int.reduceLE, Int.reduceNe, seqC, retC, skipC, exitC, blockC, condC]; rfl
  have hl : 0 ≤ c.keys.length ∧ c.keys.length ≤ 0 := m.keys
  have e1 : c.keys = [] := List.length_eq_zero_iff.1 (by omega)
  have w : wordsL c 11 = [nameN.getD 11 []] := by
    unfold wordsL; rw [e1]; simp [numsL, hg, hb]
  rw [w]; exact strs_lit b1 (by simp)
theorem words_law (L n : Nat) (hL : 2000 ≤ L) {c : Cmd} {k : Nat} {h : H} (hk : c.kind = (k : Int)) (m : May c k) (hf : c.fit) (hs : Strs h c.kv c.keys) (hG : Has h 1 (.ro powC)) :
    Sp (CF L (n + 6)) 12 [c.v] h fun r h' => (∃ v, r = .tuple #[v, .bool (hv k)] ∧ Strs h' v (wordsL c k)) ∧ Keep nobody h h' := by
  have hcc : (Value.cells c.v).toList = c.cells := rfl
  have k1 := Keep.new h (.rw c.cells (some 26))
  have b1 := Has.new h (.rw c.cells (some 26))
  have hs1 := hs.keep0 k1
  have hG1 := hG.keep0 k1
  refine Sp.body f12 (by simp) ?_
  unfold c12
  refine C.seq fun K hK => ?_
  simp only [↓opStep_eq, ↓reduceIte, ↓EW, EV, Nat.reduceAdd, Nat.reduceEqDiff, Int.reduceEq, Int.reduceLT, Int.reduceLE, Int.reduceNe, seqC, retC, skipC, exitC, blockC, condC, r12_0, hcc]
  generalize h.new (.rw c.cells (some 26)) = h1 at *
  have ldg : ∀ h', Has h' h.next (.rw c.cells (some 26)) → ∀ o s, loadOne h' (.pointer (some ⟨h.next, o, s⟩)) = c.cells[o]? := fun h' hb o s => loadOne_has hb rfl
  have ld := ldg h1 b1
  have mv := m.val
  have mf := m.fo
  have hfl := hf.flags
  refine hK .norm _ _ (C.seq fun K hK => ?_)
  simp only [↓opStep_eq, ↓reduceIte, ↓EW, EV, Nat.reduceAdd, Nat.reduceEqDiff, Int.reduceEq, Int.reduceLT, Int.reduceLE, Int.reduceNe, seqC, retC, skipC, exitC, blockC, condC, r12_1, ld, hcell, lenStr_string]
  refine tens_int L n (by omega) (by omega) hG1 _ fun r h2 hq => ?_
  obtain ⟨rfl, k2⟩ := hq
  have b2 := b1.keep0 k2
  have hs2 := hs1.keep0 k2
  have hG2 := hG1.keep0 k2
  have ld2 := ldg h2 b2
  refine hK .norm _ _ (C.seq (C.mono (Q := fun e tm h' => e = .norm ∧ h' = h2 ∧ tg tm 1 = .pointer (some ⟨h.next, 0, none⟩) ∧ tg tm 4 = sv (key0 c) ∧ tg tm 5 = sv (dec c.val.size)) (C.seq fun K hK => ?_) ?_))
  · match hks : c.keys with
    | [] =>
      have hlen : lenSl c.kv = some (.int .i64 0) := by rw [hs2.len, hks]; rfl
      simp only [↓opStep_eq, ↓reduceIte, ↓EW, EV, Nat.reduceAdd, Nat.reduceEqDiff, Int.reduceEq, Int.reduceLT, Int.reduceLE, Int.reduceNe, seqC, retC, skipC, exitC, blockC, condC, r12_2, ld2, hcell, hlen]
      refine hK .norm _ _ (C.cond false (by simp only [↓opStep_eq, ↓reduceIte, ↓EW, EV, Nat.reduceAdd, Nat.reduceEqDiff, Int.reduceEq, Int.reduceLT, Int.reduceLE, Int.reduceNe, seqC, retC, skipC, exitC, blockC, condC]) (fun g => by cases g) fun _ => C.skip ⟨rfl, rfl, ?_, ?_, ?_⟩) <;> simp only [↓opStep_eq, ↓reduceIte, ↓EW, EV, Nat.reduceAdd, Nat.reduceEqDiff, Int.reduceEq, Int.reduceLT, Int.reduceLE, Int.reduceNe, seqC, retC, skipC, exitC, blockC, condC]
      unfold key0; rw [hks]; rfl
    | p :: ps =>
      have hlen : lenSl c.kv = some (.int .i64 ((ps.length + 1 : Nat) : Int)) := by rw [hs2.len, hks]; rfl
      have g : (0 : Int) < ((ps.length + 1 : Nat) : Int) := by omega
      obtain ⟨bb, oo, ix, lx⟩ := hs2.at (i := 0) (p := p) (by rw [hks]; rfl)
      have ixz : indexSl 1 c.kv (.int .i64 0) = some (.pointer (some ⟨bb, oo, none⟩)) := ix
      simp only [↓opStep_eq, ↓reduceIte, ↓EW, EV, Nat.reduceAdd, Nat.reduceEqDiff, Int.reduceEq, Int.reduceLT, Int.reduceLE, Int.reduceNe, seqC, retC, skipC, exitC, blockC, condC, r12_2, ld2, hcell, hlen, g]
      refine hK .norm _ _ (C.cond true (by simp only [↓opStep_eq, ↓reduceIte, ↓EW, EV, Nat.reduceAdd, Nat.reduceEqDiff, Int.reduceEq, Int.reduceLT, Int.reduceLE, Int.reduceNe, seqC, retC, skipC, exitC, blockC, condC]) (fun _ => fun K hK => ?_) fun g => by cases g)
      simp only [↓opStep_eq, ↓reduceIte, ↓EW, EV, Nat.reduceAdd, Nat.reduceEqDiff, Int.reduceEq, Int.reduceLT, Int.reduceLE, Int.reduceNe, seqC, retC, skipC, exitC, blockC, condC, r12_3, ld2, hcell, ixz, lx]
      refine hK .norm _ _ ⟨rfl, rfl, ?_, ?_, ?_⟩ <;> simp only [↓opStep_eq, ↓reduceIte, ↓EW, EV, Nat.reduceAdd, Nat.reduceEqDiff, Int.reduceEq, Int.reduceLT, Int.reduceLE, Int.reduceNe, seqC, retC, skipC, exitC, blockC, condC]
      unfold key0; rw [hks]; rfl
  rintro e tm h2' ⟨rfl, rfl, t1, t4, t5⟩
  have k0 := keep_room h2' 8
  have k0 := keep_room h2' 10
  have b3 := b2.keep0 k0
  have hG3 := hG2.keep0 k0
  have fl : c.flags = ((c.flags.toNat : Nat) : Int) := by omega
  have ff : c.fo = ((c.fo.toNat : Nat) : Int) := by omega
  have hcell' : c.cells = [.int .u8 c.kind, .int .i64 c.ten, c.kv, .string c.val, .int .u32 ((c.flags.toNat : Nat) : Int), .int .i64 ((c.fo.toNat : Nat) : Int), .int .u64 c.uniq, .int .u64 c.by'] := by rw [hcell, ← fl, ← ff]
  refine C.seq fun K hK => ?_
  have hs3 := hO_self (veq_int .i64 ((c.fo.toNat : Nat) : Int))
  simp only [↓opStep_eq, ↓reduceIte, ↓EW, EV, Nat.reduceAdd, Nat.reduceEqDiff, Int.reduceEq, Int.reduceLT, Int.reduceLE, Int.reduceNe, seqC, retC, skipC, exitC, blockC, condC, r12_4, t1, ldg _ b3, hcell']
  refine tens_u32 L n (by omega) (by omega) hG3 _ fun r h4 hq => ?_
  obtain ⟨rfl, k4⟩ := hq
  have b4 := b3.keep0 k4
  have hG4 := hG3.keep0 k4
  simp only [↓opStep_eq, ↓reduceIte, ↓EW, EV, Nat.reduceAdd, Nat.reduceEqDiff, Int.reduceEq, Int.reduceLT, Int.reduceLE, Int.reduceNe, seqC, retC, skipC, exitC, blockC, condC, ldg _ b4, hcell', hs3, Bool.and_true]
  refine tens_int L n (by omega) (by omega) hG4 _ fun r h5 hq => ?_
  obtain ⟨rfl, k5⟩ := hq
  have lit : mkLit 9 4 (h2'.next + 8) (fill (repl [(.string (strB []))] 4) (pl 1) [(0, sv (key0 c)), (1, sv (dec c.flags.toNat)), (2, sv (dec c.fo.toNat)), (3, sv (dec c.val.size))]) = some (.rw ([key0 c, dec c.flags.toNat, dec c.fo.toNat, dec c.val.size].map sv) (some 9), .slice (some ⟨h2'.next + 8, 0, none⟩) 4 4) := rfl
  simp only [↓opStep_eq, ↓reduceIte, ↓EW, EV, Nat.reduceAdd, Nat.reduceEqDiff, Int.reduceEq, Int.reduceLT, Int.reduceLE, Int.reduceNe, seqC, retC, skipC, exitC, blockC, condC, t4, t5, lit]
  have n4 := k4.next
  have n5 := k5.next
  simp only at n4
  have kp := Keep.put h5 (h2'.next + 8) (.rw ([key0 c, dec c.flags.toNat, dec c.fo.toNat, dec c.val.size].map sv) (some 9))
  have bp : Has (h5.put (h2'.next + 8) (.rw ([key0 c, dec c.flags.toNat, dec c.fo.toNat, dec c.val.size].map sv) (some 9))) (h2'.next + 8) (.rw ([key0 c, dec c.flags.toNat, dec c.fo.toNat, dec c.val.size].map sv) (some 9)) := Has.put (by omega)
  have kk : Keep nobody h2' (h5.put (h2'.next + 8) (.rw ([key0 c, dec c.flags.toNat, dec c.fo.toNat, dec c.val.size].map sv) (some 9))) := ((k0.then k4).then k5).trans kp fun k hk e => by omega
  generalize h5.put (h2'.next + 8) (.rw ([key0 c, dec c.flags.toNat, dec c.fo.toNat, dec c.val.size].map sv) (some 9)) = h6 at *
  have mid : ∀ tm : T Value, tg tm 1 = .pointer (some ⟨h.next, 0, none⟩) → tg tm 4 = sv (key0 c) → tg tm 5 = sv (dec c.val.size) → tg tm 6 = .slice (some ⟨h2'.next + 8, 0, none⟩) 4 4 → Mid c h6 h.next (.slice (some ⟨h2'.next + 8, 0, none⟩) 4 4) tm := fun tm a1 a4 a5 a6 => ⟨a1, a4, a5, a6, b2.keep0 kk, strs_lit (l := [key0 c, dec c.flags.toNat, dec c.fo.toNat, dec c.val.size]) bp (by simp), hs2.keep0 kk, hG2.keep0 kk⟩
  have fin : ∀ (e : Ex) (tm : T Value) (h' : H), WordsQ c k h6 e tm h' → (e = .norm ∨ e = .ret) ∧ ∃ l, q12.f tm h' = some l ∧ (∃ v, resOf l = .tuple #[v, .bool (hv k)] ∧ Strs h' v (wordsL c k)) ∧ Keep nobody h h' := fun e tm h' q => by
    obtain ⟨rfl, ⟨v, e2, e3, e4⟩, k7⟩ := q
    refine ⟨.inr rfl, _, rfl, ⟨v, ?_, e4⟩, ((k1.then k2).then kk).then k7⟩
    simp only [resOf, e2, e3]
  refine hK .norm _ _ ?_
  obtain ⟨mk1, mk2⟩ := m.kind
  have hcs : k = 1 ∨ k = 2 ∨ k = 3 ∨ k = 4 ∨ k = 5 ∨ k = 6 ∨ k = 7 ∨ k = 8 ∨ k = 9 ∨ k = 10 ∨ k = 11 := by omega
  rcases hcs with rfl | rfl | rfl | rfl | rfl | rfl | rfl | rfl | rfl | rfl | rfl
  · exact C.seq ((words_1 (mid _ (by simp only [↓opStep_eq, ↓reduceIte, ↓EW, EV, Nat.reduceAdd, Nat.reduceEqDiff, Int.reduceEq, Int.reduceLT, Int.reduceLE, Int.reduceNe, seqC, retC, skipC, exitC, blockC, condC, t1]) (by simp only [↓opStep_eq, ↓reduceIte, ↓EW, EV, Nat.reduceAdd, Nat.reduceEqDiff, Int.reduceEq, Int.reduceLT, Int.reduceLE, Int.reduceNe, seqC, retC, skipC, exitC, blockC, condC, t4]) (by simp only [↓opStep_eq, ↓reduceIte, ↓EW, EV, Nat.reduceAdd, Nat.reduceEqDiff, Int.reduceEq, Int.reduceLT, Int.reduceLE, Int.reduceNe, seqC, retC, skipC, exitC, blockC, condC, t5]) (by simp only [↓opStep_eq, ↓reduceIte, ↓EW, EV, Nat.reduceAdd, Nat.reduceEqDiff, Int.reduceEq, Int.reduceLT, Int.reduceLE, Int.reduceNe, seqC, retC, skipC, exitC, blockC, condC])) hk m).mono fun e tm h' q => by cases q.1; exact fin _ _ _ q)
  · exact C.seq ((words_2 (mid _ (by simp only [↓opStep_eq, ↓reduceIte, ↓EW, EV, Nat.reduceAdd, Nat.reduceEqDiff, Int.reduceEq, Int.reduceLT, Int.reduceLE, Int.reduceNe, seqC, retC, skipC, exitC, blockC, condC, t1]) (by simp only [↓opStep_eq, ↓reduceIte, ↓EW, EV, Nat.reduceAdd, Nat.reduceEqDiff, Int.reduceEq, Int.reduceLT, Int.reduceLE, Int.reduceNe, seqC, retC, skipC, exitC, blockC, condC, t4]) (by simp only [↓opStep_eq, ↓reduceIte, ↓EW, EV, Nat.reduceAdd, Nat.reduceEqDiff, Int.reduceEq, Int.reduceLT, Int.reduceLE, Int.reduceNe, seqC, retC, skipC, exitC, blockC, condC, t5]) (by simp only [↓opStep_eq, ↓reduceIte, ↓EW, EV, Nat.reduceAdd, Nat.reduceEqDiff, Int.reduceEq, Int.reduceLT, Int.reduceLE, Int.reduceNe, seqC, retC, skipC, exitC, blockC, condC])) hk m).mono fun e tm h' q => by cases q.1; exact fin _ _ _ q)
  · exact C.seq ((words_3 (mid _ (by simp only [↓opStep_eq, ↓reduceIte, ↓EW, EV, Nat.reduceAdd, Nat.reduceEqDiff, Int.reduceEq, Int.reduceLT, Int.reduceLE, Int.reduceNe, seqC, retC, skipC, exitC, blockC, condC, t1]) (by simp only [↓opStep_eq, ↓reduceIte, ↓EW, EV, Nat.reduceAdd, Nat.reduceEqDiff, Int.reduceEq, Int.reduceLT, Int.reduceLE, Int.reduceNe, seqC, retC, skipC, exitC, blockC, condC, t4]) (by simp only [↓opStep_eq, ↓reduceIte, ↓EW, EV, Nat.reduceAdd, Nat.reduceEqDiff, Int.reduceEq, Int.reduceLT, Int.reduceLE, Int.reduceNe, seqC, retC, skipC, exitC, blockC, condC, t5]) (by simp only [↓opStep_eq, ↓reduceIte, ↓EW, EV, Nat.reduceAdd, Nat.reduceEqDiff, Int.reduceEq, Int.reduceLT, Int.reduceLE, Int.reduceNe, seqC, retC, skipC, exitC, blockC, condC])) hk m).mono fun e tm h' q => by cases q.1; exact fin _ _ _ q)
  · exact C.seq ((words_4 (mid _ (by simp only [↓opStep_eq, ↓reduceIte, ↓EW, EV, Nat.reduceAdd, Nat.reduceEqDiff, Int.reduceEq, Int.reduceLT, Int.reduceLE, Int.reduceNe, seqC, retC, skipC, exitC, blockC, condC, t1]) (by simp only [↓opStep_eq, ↓reduceIte, ↓EW, EV, Nat.reduceAdd, Nat.reduceEqDiff, Int.reduceEq, Int.reduceLT, Int.reduceLE, Int.reduceNe, seqC, retC, skipC, exitC, blockC, condC, t4]) (by simp only [↓opStep_eq, ↓reduceIte, ↓EW, EV, Nat.reduceAdd, Nat.reduceEqDiff, Int.reduceEq, Int.reduceLT, Int.reduceLE, Int.reduceNe, seqC, retC, skipC, exitC, blockC, condC, t5]) (by simp only [↓opStep_eq, ↓reduceIte, ↓EW, EV, Nat.reduceAdd, Nat.reduceEqDiff, Int.reduceEq, Int.reduceLT, Int.reduceLE, Int.reduceNe, seqC, retC, skipC, exitC, blockC, condC])) hk m).mono fun e tm h' q => by cases q.1; exact fin _ _ _ q)
  · exact C.seq ((words_5 (n := n) (by omega) (mid _ (by simp only [↓opStep_eq, ↓reduceIte, ↓EW, EV, Nat.reduceAdd, Nat.reduceEqDiff, Int.reduceEq, Int.reduceLT, Int.reduceLE, Int.reduceNe, seqC, retC, skipC, exitC, blockC, condC, t1]) (by simp only [↓opStep_eq, ↓reduceIte, ↓EW, EV, Nat.reduceAdd, Nat.reduceEqDiff, Int.reduceEq, Int.reduceLT, Int.reduceLE, Int.reduceNe, seqC, retC, skipC, exitC, blockC, condC, t4]) (by simp only [↓opStep_eq, ↓reduceIte, ↓EW, EV, Nat.reduceAdd, Nat.reduceEqDiff, Int.reduceEq, Int.reduceLT, Int.reduceLE, Int.reduceNe, seqC, retC, skipC, exitC, blockC, condC, t5]) (by simp only [↓opStep_eq, ↓reduceIte, ↓EW, EV, Nat.reduceAdd, Nat.reduceEqDiff, Int.reduceEq, Int.reduceLT, Int.reduceLE, Int.reduceNe, seqC, retC, skipC, exitC, blockC, condC])) hk m hf).mono fun e tm h' q => by cases q.1; exact fin _ _ _ q)
  · exact C.seq ((words_6 (n := n) (by omega) (mid _ (by simp only [↓opStep_eq, ↓reduceIte, ↓EW, EV, Nat.reduceAdd, Nat.reduceEqDiff, Int.reduceEq, Int.reduceLT, Int.reduceLE, Int.reduceNe, seqC, retC, skipC, exitC, blockC, condC, t1]) (by simp only [↓opStep_eq, ↓reduceIte, ↓EW, EV, Nat.reduceAdd, Nat.reduceEqDiff, Int.reduceEq, Int.reduceLT, Int.reduceLE, Int.reduceNe, seqC, retC, skipC, exitC, blockC, condC, t4]) (by simp only [↓opStep_eq, ↓reduceIte, ↓EW, EV, Nat.reduceAdd, Nat.reduceEqDiff, Int.reduceEq, Int.reduceLT, Int.reduceLE, Int.reduceNe, seqC, retC, skipC, exitC, blockC, condC, t5]) (by simp only [↓opStep_eq, ↓reduceIte, ↓EW, EV, Nat.reduceAdd, Nat.reduceEqDiff, Int.reduceEq, Int.reduceLT, Int.reduceLE, Int.reduceNe, seqC, retC, skipC, exitC, blockC, condC])) hk m hf).mono fun e tm h' q => by cases q.1; exact fin _ _ _ q)
  · exact C.seq ((words_7 (n := n) (by omega) (mid _ (by simp only [↓opStep_eq, ↓reduceIte, ↓EW, EV, Nat.reduceAdd, Nat.reduceEqDiff, Int.reduceEq, Int.reduceLT, Int.reduceLE, Int.reduceNe, seqC, retC, skipC, exitC, blockC, condC, t1]) (by simp only [↓opStep_eq, ↓reduceIte, ↓EW, EV, Nat.reduceAdd, Nat.reduceEqDiff, Int.reduceEq, Int.reduceLT, Int.reduceLE, Int.reduceNe, seqC, retC, skipC, exitC, blockC, condC, t4]) (by simp only [↓opStep_eq, ↓reduceIte, ↓EW, EV, Nat.reduceAdd, Nat.reduceEqDiff, Int.reduceEq, Int.reduceLT, Int.reduceLE, Int.reduceNe, seqC, retC, skipC, exitC, blockC, condC, t5]) (by simp only [↓opStep_eq, ↓reduceIte, ↓EW, EV, Nat.reduceAdd, Nat.reduceEqDiff, Int.reduceEq, Int.reduceLT, Int.reduceLE, Int.reduceNe, seqC, retC, skipC, exitC, blockC, condC])) hk m hf).mono fun e tm h' q => by cases q.1; exact fin _ _ _ q)
  · exact C.seq ((words_8 (mid _ (by simp only [↓opStep_eq, ↓reduceIte, ↓EW, EV, Nat.reduceAdd, Nat.reduceEqDiff, Int.reduceEq, Int.reduceLT, Int.reduceLE, Int.reduceNe, seqC, retC, skipC, exitC, blockC, condC, t1]) (by simp only [↓opStep_eq, ↓reduceIte, ↓EW, EV, Nat.reduceAdd, Nat.reduceEqDiff, Int.reduceEq, Int.reduceLT, Int.reduceLE, Int.reduceNe, seqC, retC, skipC, exitC, blockC, condC, t4]) (by simp only [↓opStep_eq, ↓reduceIte, ↓EW, EV, Nat.reduceAdd, Nat.reduceEqDiff, Int.reduceEq, Int.reduceLT, Int.reduceLE, Int.reduceNe, seqC, retC, skipC, exitC, blockC, condC, t5]) (by simp only [↓opStep_eq, ↓reduceIte, ↓EW, EV, Nat.reduceAdd, Nat.reduceEqDiff, Int.reduceEq, Int.reduceLT, Int.reduceLE, Int.reduceNe, seqC, retC, skipC, exitC, blockC, condC])) hk m).mono fun e tm h' q => by cases q.1; exact fin _ _ _ q)
  · exact C.seq ((words_9 (n := n) (by omega) (mid _ (by simp only [↓opStep_eq, ↓reduceIte, ↓EW, EV, Nat.reduceAdd, Nat.reduceEqDiff, Int.reduceEq, Int.reduceLT, Int.reduceLE, Int.reduceNe, seqC, retC, skipC, exitC, blockC, condC, t1]) (by simp only [↓opStep_eq, ↓reduceIte, ↓EW, EV, Nat.reduceAdd, Nat.reduceEqDiff, Int.reduceEq, Int.reduceLT, Int.reduceLE, Int.reduceNe, seqC, retC, skipC, exitC, blockC, condC, t4]) (by simp only [↓opStep_eq, ↓reduceIte, ↓EW, EV, Nat.reduceAdd, Nat.reduceEqDiff, Int.reduceEq, Int.reduceLT, Int.reduceLE, Int.reduceNe, seqC, retC, skipC, exitC, blockC, condC, t5]) (by simp only [↓opStep_eq, ↓reduceIte, ↓EW, EV, Nat.reduceAdd, Nat.reduceEqDiff, Int.reduceEq, Int.reduceLT, Int.reduceLE, Int.reduceNe, seqC, retC, skipC, exitC, blockC, condC])) hk m hf).mono fun e tm h' q => by cases q.1; exact fin _ _ _ q)
  · exact C.seq ((words_10 (mid _ (by simp only [↓opStep_eq, ↓reduceIte, ↓EW, EV, Nat.reduceAdd, Nat.reduceEqDiff, Int.reduceEq, Int.reduceLT, Int.reduceLE, Int.reduceNe, seqC, retC, skipC, exitC, blockC, condC, t1]) (by simp only [↓opStep_eq, ↓reduceIte, ↓EW, EV, Nat.reduceAdd, Nat.reduceEqDiff, Int.reduceEq, Int.reduceLT, Int.reduceLE, Int.reduceNe, seqC, retC, skipC, exitC, blockC, condC, t4]) (by simp only [↓opStep_eq, ↓reduceIte, ↓EW, EV, Nat.reduceAdd, Nat.reduceEqDiff, Int.reduceEq, Int.reduceLT, Int.reduceLE, Int.reduceNe, seqC, retC, skipC, exitC, blockC, condC, t5]) (by simp only [↓opStep_eq, ↓reduceIte, ↓EW, EV, Nat.reduceAdd, Nat.reduceEqDiff, Int.reduceEq, Int.reduceLT, Int.reduceLE, Int.reduceNe, seqC, retC, skipC, exitC, blockC, condC])) hk m).mono fun e tm h' q => by cases q.1; exact fin _ _ _ q)
  · exact (words_11 (mid _ (by simp only [↓opStep_eq, ↓reduceIte, ↓EW, EV, Nat.reduceAdd, Nat.reduceEqDiff, Int.reduceEq, Int.reduceLT, Int.reduceLE, Int.reduceNe, seqC, retC, skipC, exitC, blockC, condC, t1]) (by simp only [↓opStep_eq, ↓reduceIte, ↓EW, EV, Nat.reduceAdd, Nat.reduceEqDiff, Int.reduceEq, Int.reduceLT, Int.reduceLE, Int.reduceNe, seqC, retC, skipC, exitC, blockC, condC, t4]) (by simp only [↓opStep_eq, ↓reduceIte, ↓EW, EV, Nat.reduceAdd, Nat.reduceEqDiff, Int.reduceEq, Int.reduceLT, Int.reduceLE, Int.reduceNe, seqC, retC, skipC, exitC, blockC, condC, t5]) (by simp only [↓opStep_eq, ↓reduceIte, ↓EW, EV, Nat.reduceAdd, Nat.reduceEqDiff, Int.reduceEq, Int.reduceLT, Int.reduceLE, Int.reduceNe, seqC, retC, skipC, exitC, blockC, condC])) hk m).mono fun e tm h' q => fin _ _ _ q
end Go.Proofs.YtilpiiafjehbnaaDoor
