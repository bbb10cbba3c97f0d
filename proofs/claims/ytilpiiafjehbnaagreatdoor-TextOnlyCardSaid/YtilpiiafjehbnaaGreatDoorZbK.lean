import Derived.Test.YtilpiiafjehbnaaGreatDoorZeB
set_option linter.unusedSimpArgs false
set_option linter.unusedVariables false
namespace Go.Proofs.YtilpiiafjehbnaaGreatDoor
open Go.Ev
theorem rcell (r : Rq) : r.cells = [.int .u8 r.kind, .int .u8 r.c.kind, .int .i64 r.c.ten, r.c.kv, .string r.c.val, .int .u32 r.c.flags, .int .i64 r.c.fo, .int .u64 r.c.uniq, .int .u64 r.c.by', .int .i64 r.ten, .string r.sec, .bool r.on, .bool r.close] := rfl
def bareB (c : Cmd) : Bool := decide (c.kind = 0) && (decide (c.ten = 0) && (decide ((c.keys.length : Int) = 0) && (decide ((c.val.size : Int) = 0) && (decide (c.flags = 0) && (decide (c.fo = 0) && (decide (c.uniq = 0) && decide (c.by' = 0)))))))
section
variable {L n : Nat} {tm : T Value} {h : H} {b b2 : Nat} {K : KE} {c : Cmd} {r : Rq} {call : CallT}
theorem regx20_2 (hl : ∀ o s, loadOne h (.pointer (some ⟨b, o, s⟩)) = c.cells[o]?) {len : Int} (hn : lenSl c.kv = some (.int .i64 len)) (t3 : tg tm 3 = .pointer (some ⟨b, 0, none⟩)) :
   r32_2 call L tm [] h K = K .norm (T.set tm 2 (.bool (decide (c.kind = 0) && (decide (c.ten = 0) && (decide (len = 0) && (decide ((c.val.size : Int) = 0) && (decide (c.flags = 0) && (decide (c.fo = 0) && (decide (c.uniq = 0) && decide (c.by' = 0))))))))) ) [] h := by
 by_cases g1 : c.kind = 0
 case neg => simp only [seval, ↓opStep_eq, ↓EW, EV, r32_2, t3, hl, hcell, g1, Bool.false_and]
 by_cases g2 : c.ten = 0
 case neg => simp only [seval, ↓opStep_eq, ↓EW, EV, r32_2, t3, hl, hcell, g1, g2, Bool.false_and, Bool.and_false]
 by_cases g3 : len = 0
 case neg => simp only [seval, ↓opStep_eq, ↓EW, EV, r32_2, t3, hl, hcell, hn, g1, g2, g3, Bool.false_and, Bool.and_false]
 by_cases g4 : (c.val.size : Int) = 0
 case neg => simp only [seval, ↓opStep_eq, ↓EW, EV, r32_2, t3, hl, hcell, hn, str_empty, g1, g2, g3, g4, Bool.false_and, Bool.and_false]
 by_cases g5 : c.flags = 0
 case neg => simp only [seval, ↓opStep_eq, ↓EW, EV, r32_2, t3, hl, hcell, hn, str_empty, g1, g2, g3, g4, g5, Bool.false_and, Bool.and_false]
 by_cases g6 : c.fo = 0
 case neg => simp only [seval, ↓opStep_eq, ↓EW, EV, r32_2, t3, hl, hcell, hn, str_empty, g1, g2, g3, g4, g5, g6, Bool.false_and, Bool.and_false]
 by_cases g7 : c.uniq = 0
 case neg => simp only [seval, ↓opStep_eq, ↓EW, EV, r32_2, t3, hl, hcell, hn, str_empty, g1, g2, g3, g4, g5, g6, g7, Bool.false_and, Bool.and_false]
 by_cases g8 : c.by' = 0
 case neg => simp only [seval, ↓opStep_eq, ↓EW, EV, r32_2, t3, hl, hcell, hn, str_empty, g1, g2, g3, g4, g5, g6, g7, g8, Bool.and_false]
 simp only [seval, ↓opStep_eq, ↓EW, EV, r32_2, t3, hl, hcell, hn, str_empty, g1, g2, g3, g4, g5, g6, g7, g8, Bool.and_true]
end
theorem bare_law (L n : Nat) {r : Rq} {h : H} (hs : Strs h r.c.kv r.c.keys) (hones : ones r.c.cells = true) :
   Sp (CF L (n + 1)) 32 [r.v] h fun v h' => v = .bool (bareB r.c) ∧ Keep nobody h h' := by
 have hcc : (Value.cells r.v).toList = r.cells := rfl
 have k1 := Keep.new h (.rw r.cells (some 28))
 have b1 := Has.new h (.rw r.cells (some 28))
 refine Sp.body f32 (by simp) ?_
 unfold c32
 refine C.seq fun K hK => ?_
 simp only [seval, ↓EW, EV, r32_0, hcc]
 generalize h.new (.rw r.cells (some 28)) = h1 at *
 have la : ∀ s, loadAgg 8 h1 (.pointer (some ⟨h.next, 1, s⟩)) = some r.c.v := fun s => loadAgg_has b1 rfl (by show 1 + 8 ≤ 13; omega)
 have st := store_new h1 8 none [(.int .u8 (0)), (.int .i64 (0)), (.slice none 0 0), (.string (strB [])), (.int .u32 (0)), (.int .i64 (0)), (.int .u64 (0)), (.int .u64 (0))] (some 26) r.c.v rfl rfl hones
 have ec : (Value.cells r.c.v).toList = r.c.cells := rfl
 rw [ec] at st
 have k2 := keep_alloc h1 (.rw [(.int .u8 (0)), (.int .i64 (0)), (.slice none 0 0), (.string (strB [])), (.int .u32 (0)), (.int .i64 (0)), (.int .u64 (0)), (.int .u64 (0))] (some 26)) (.rw r.c.cells (some 26))
 have b2 := has_alloc h1 (.rw [(.int .u8 (0)), (.int .i64 (0)), (.slice none 0 0), (.string (strB [])), (.int .u32 (0)), (.int .i64 (0)), (.int .u64 (0)), (.int .u64 (0))] (some 26)) (.rw r.c.cells (some 26))
 refine hK .norm _ _ (C.seq fun K hK => ?_)
 simp only [seval, ↓EW, EV, r32_1, la, ptrTo, st]
 generalize (h1.new (.rw [(.int .u8 (0)), (.int .i64 (0)), (.slice none 0 0), (.string (strB [])), (.int .u32 (0)), (.int .i64 (0)), (.int .u64 (0)), (.int .u64 (0))] (some 26))).put h1.next (.rw r.c.cells (some 26)) = h2 at *
 have ld : ∀ o s, loadOne h2 (.pointer (some ⟨h1.next, o, s⟩)) = r.c.cells[o]? := fun o s => loadOne_has b2 rfl
 refine hK .norm _ _ (C.seq fun K hK => ?_)
 rw [box_f, regx20_2 (len := (r.c.keys.length : Int)) ld hs.len (by simp only [seval, EV])]
 refine hK .norm _ _ (C.ret ⟨.inr rfl, _, rfl, ?_, k1.then k2⟩)
 simp only [seval, EV, resOf, bareB]
def restB (r : Rq) : Bool := (!r.close && (!r.on || decide (r.kind = 3))) && (decide (r.kind = 2) || (decide (r.ten = 0) && decide ((r.sec.size : Int) = 0)))
def fitsA (r : Rq) : Bool := restB r && (decide (r.kind = 1) || bareB r.c)
def fitsB (r : Rq) : Bool := !decide (r.kind = 2) || ((decide (0 ≤ r.ten) && decide (r.ten < 4)) && okW 16 r.sec.data.toList)
section
variable {L n : Nat} {tm : T Value} {h : H} {b : Nat} {K : KE} {r : Rq}
theorem regx7_2 (hs : Strs h r.c.kv r.c.keys) (hones : ones r.c.cells = true) (hb : Has h b (.rw r.cells (some 28))) (t1 : tg tm 1 = .pointer (some ⟨b, 0, none⟩)) (t3 : tg tm 3 = .bool (decide (r.kind = 2)))
   (hK : ∀ h', Keep nobody h h' → K .norm (T.set tm 41 (.bool (!fitsA r))) [] h' = true) : r21_2 (CF L (n + 1)) L tm [] h K = true := by
 have hl : ∀ o s, loadOne h (.pointer (some ⟨b, o, s⟩)) = r.cells[o]? := fun o s => loadOne_has hb rfl
 have lag : ∀ s, loadAgg 13 h (.pointer (some ⟨b, 0, s⟩)) = some r.v := fun s => loadAgg_has hb rfl (by show 0 + 13 ≤ 13; omega)
 cases hcl : r.close
 case true =>
   · have e : fitsA r = false := by simp only [EV, fitsA, restB, hcl, Bool.false_and]
     rw [e] at hK
     simp only [seval, ↓opStep_eq, ↓EW, EV, r21_2, t1, hl, rcell, hcl]
     exact hK h (.refl _ _)
 cases hon : r.on
 case true =>
   by_cases e3 : r.kind = 3
   case neg =>
     · have e : fitsA r = false := by simp only [EV, fitsA, restB, hcl, hon, e3, Bool.or_false, Bool.false_and, Bool.and_false]
       rw [e] at hK
       simp only [seval, ↓opStep_eq, ↓EW, EV, r21_2, t1, hl, rcell, hcl, hon, e3]
       exact hK h (.refl _ _)
   by_cases z1 : r.ten = 0
   case neg =>
     · have e : fitsA r = false := by simp only [seval, EV, fitsA, restB, hcl, hon, e3, z1, Bool.false_or, Bool.or_true, Bool.or_false, Bool.false_and, Bool.and_true, Bool.and_false]
       rw [e] at hK
       simp only [seval, ↓opStep_eq, ↓EW, EV, r21_2, t1, t3, hl, rcell, hcl, hon, e3, z1]
       exact hK h (.refl _ _)
   by_cases z2 : (r.sec.size : Int) = 0
   case neg =>
     · have e : fitsA r = false := by simp only [seval, EV, fitsA, restB, hcl, hon, e3, z1, z2, Bool.false_or, Bool.or_true, Bool.or_false, Bool.false_and, Bool.and_true, Bool.and_false]
       rw [e] at hK
       simp only [seval, ↓opStep_eq, ↓EW, EV, r21_2, t1, t3, hl, rcell, str_nempty, hcl, hon, e3, z1, z2]
       exact hK h (.refl _ _)
   · have e : fitsA r = bareB r.c := by simp only [seval, EV, fitsA, restB, hcl, hon, e3, z1, z2, Bool.false_or, Bool.or_true, Bool.true_and, Bool.and_true]
     rw [e] at hK
     simp only [seval, ↓opStep_eq, ↓EW, EV, r21_2, t1, t3, hl, rcell, str_nempty, hcl, hon, e3, z1, z2, lag]
     refine bare_law L n hs hones _ fun v h2 hq => ?_
     obtain ⟨rfl, k2⟩ := hq
     simp only [EV]
     exact hK h2 k2
 by_cases e2 : r.kind = 2
 · have e : fitsA r = bareB r.c := by simp only [seval, EV, fitsA, restB, hcl, hon, e2, Bool.true_or, Bool.false_or, Bool.or_false, Bool.true_and, Bool.and_true]
   rw [e] at hK
   simp only [seval, ↓opStep_eq, ↓EW, EV, r21_2, t1, t3, hl, rcell, hcl, hon, e2, lag]
   refine bare_law L n hs hones _ fun v h2 hq => ?_
   obtain ⟨rfl, k2⟩ := hq
   simp only [EV]
   exact hK h2 k2
 by_cases z1 : r.ten = 0
 case neg =>
   · have e : fitsA r = false := by simp only [EV, fitsA, restB, hcl, hon, e2, z1, Bool.true_or, Bool.or_false, Bool.false_and, Bool.and_true, Bool.and_false]
     rw [e] at hK
     simp only [seval, ↓opStep_eq, ↓EW, EV, r21_2, t1, t3, hl, rcell, hcl, hon, e2, z1]
     exact hK h (.refl _ _)
 by_cases z2 : (r.sec.size : Int) = 0
 case neg =>
   · have e : fitsA r = false := by simp only [EV, fitsA, restB, hcl, hon, e2, z1, z2, Bool.true_or, Bool.or_false, Bool.false_and, Bool.and_true, Bool.and_false]
     rw [e] at hK
     simp only [seval, ↓opStep_eq, ↓EW, EV, r21_2, t1, t3, hl, rcell, str_nempty, hcl, hon, e2, z1, z2]
     exact hK h (.refl _ _)
 by_cases e1 : r.kind = 1
 · have e : fitsA r = true := by simp only [seval, EV, fitsA, restB, hcl, hon, z1, z2, e1, Bool.true_or, Bool.or_true, Bool.or_false, Bool.and_true]
   rw [e] at hK
   simp only [seval, ↓opStep_eq, ↓EW, EV, r21_2, t1, t3, hl, rcell, str_nempty, hcl, hon, z1, z2, e1]
   exact hK h (.refl _ _)
 · have e : fitsA r = bareB r.c := by simp only [EV, fitsA, restB, hcl, hon, e2, z1, z2, e1, Bool.true_or, Bool.false_or, Bool.or_true, Bool.true_and, Bool.and_true]
   rw [e] at hK
   simp only [seval, ↓opStep_eq, ↓EW, EV, r21_2, t1, t3, hl, rcell, str_nempty, hcl, hon, e2, z1, z2, e1, lag]
   refine bare_law L n hs hones _ fun v h2 hq => ?_
   obtain ⟨rfl, k2⟩ := hq
   simp only [EV]
   exact hK h2 k2
end
section
variable {L n : Nat} {tm : T Value} {h : H} {b : Nat} {K : KE} {r : Rq}
theorem regx7_4 (hL : 2000 ≤ L) (hsec : r.sec.size ≤ 1000) (hb : Has h b (.rw r.cells (some 28))) (t1 : tg tm 1 = .pointer (some ⟨b, 0, none⟩)) (t3 : tg tm 3 = .bool (decide (r.kind = 2)))
   (hK : ∀ h', Keep nobody h h' → K .norm (T.set tm 2 (.bool (fitsB r))) [] h' = true) : r21_4 (CF L (n + 4)) L tm [] h K = true := by
 have hl : ∀ o s, loadOne h (.pointer (some ⟨b, o, s⟩)) = r.cells[o]? := fun o s => loadOne_has hb rfl
 unfold fitsB at hK
 by_cases g1 : r.kind = 2
 · rw [dT g1] at hK t3
   by_cases g2 : 0 ≤ r.ten
   · rw [dT g2] at hK
     by_cases g3 : r.ten < 4
     · rw [dT g3] at hK
       simp only [seval, ↓opStep_eq, ↓EW, EV, r21_4, t1, t3, hl, rcell, g2, g3]
       refine plain_law L n 16 (p := r.sec.data.toList) (by show r.sec.size < L; omega) _ _ fun v h2 hq => ?_
       obtain ⟨rfl, k2⟩ := hq
       exact hK h2 k2
     · rw [dF g3] at hK
       simp only [seval, ↓opStep_eq, ↓EW, EV, r21_4, t1, t3, hl, rcell, g2, g3]
       exact hK h (.refl _ _)
   · rw [dF g2] at hK
     simp only [seval, ↓opStep_eq, ↓EW, EV, r21_4, t1, t3, hl, rcell, g2]
     exact hK h (.refl _ _)
 · rw [dF g1] at hK t3
   simp only [seval, ↓opStep_eq, ↓EW, EV, r21_4, t3]
   exact hK h (.refl _ _)
end
theorem fits_law (L n : Nat) (hL : 2000 ≤ L) {r : Rq} {h : H} (hsec : r.sec.size ≤ 1000) (hs : Strs h r.c.kv r.c.keys) (hones : ones r.c.cells = true) :
   Sp (CF L (n + 5)) 21 [r.v] h fun v h' => v = .bool (fitsA r && fitsB r) ∧ Keep nobody h h' := by
 have hcc : (Value.cells r.v).toList = r.cells := rfl
 have k1 := Keep.new h (.rw r.cells (some 28))
 have b1 := Has.new h (.rw r.cells (some 28))
 have hs1 := hs.keep0 k1
 refine Sp.body f21 (by simp) ?_
 unfold c21
 refine C.seq fun K hK => ?_
 simp only [seval, ↓EW, EV, r21_0, hcc]
 generalize h.new (.rw r.cells (some 28)) = h1 at *
 have ld : ∀ o s, loadOne h1 (.pointer (some ⟨h.next, o, s⟩)) = r.cells[o]? := fun o s => loadOne_has b1 rfl
 refine hK .norm _ _ (C.seq fun K hK => ?_)
 simp only [seval, EV, r21_1, ld, rcell]
 refine hK .norm _ _ (C.seq (C.seq fun K hK => ?_))
 rw [box_f]
 refine regx7_2 (n := n + 3) hs1 hones b1 (by simp only [seval, EV]) (by simp only [seval, EV]) fun h2 k2 => ?_
 cases hA : fitsA r with
 | false =>
   refine hK .norm _ _ (C.ct (C.seq fun K hK => ?_))
   simp only [EV, r21_3]
   refine hK .norm _ _ (C.ret ⟨.inr rfl, _, rfl, ?_, k1.then k2⟩)
   simp only [seval, EV, resOf, hA, Bool.false_and]
 | true =>
   refine hK .norm _ _ (C.cf <| C.skip (C.seq fun K hK => ?_))
   rw [box_f]
   refine regx7_4 (n := n) hL hsec (b1.keep0 k2) (by simp only [seval, EV]) (by simp only [seval, EV]) fun h3 k3 => ?_
   refine hK .norm _ _ (C.ret ⟨.inr rfl, _, rfl, ?_, (k1.then k2).then k3⟩)
   simp only [seval, EV, resOf, hA, Bool.true_and]
def nameN : List (List UInt8) := [[], [103, 101, 116], [115, 101, 116], [97, 100, 100], [114, 101, 112, 108, 97, 99, 101], [99, 97, 115], [105, 110, 99, 114], [100, 101, 99, 114], [97, 112, 112, 101, 110, 100], [116, 111, 117, 99, 104], [100, 101, 108, 101, 116, 101], [102, 108, 117, 115, 104]]
def numsL (c : Cmd) (k : Nat) : List (List UInt8) :=
 if hg k = true then dec c.flags.toNat :: dec c.fo.toNat :: dec c.val.size :: (if k = 5 then [dec c.uniq.toNat] else [])
 else if k = 8 then [dec c.val.size]
 else if hb k = true then [dec c.by'.toNat]
 else if k = 9 then [dec c.fo.toNat]
 else []
def wordsL (c : Cmd) (k : Nat) : List (List UInt8) := nameN.getD k [] :: (c.keys ++ numsL c k)
structure May (c : Cmd) (k : Nat) : Prop where
 kind : 1 ≤ k ∧ k ≤ 11
 fo : 0 ≤ c.fo ∧ c.fo ≤ 1099511627776
 val : c.val.size ≤ 512
 nov : hv k = false → c.val.size = 0
 keys : loK k ≤ c.keys.length ∧ c.keys.length ≤ hiK k
 len : ∀ p ∈ c.keys, p.length ≤ 32
theorem may_of {c : Cmd} {k : Nat} (h : mayB c k = true) : May c k := by
 unfold mayB mayA keysB at h
 simp only [Bool.and_eq_true, decide_eq_true_eq, Bool.or_eq_true] at h
 obtain ⟨⟨h1, h2, ⟨h3, h4⟩, h5, h6⟩, ⟨h7, h8⟩, ⟨⟨h9, h10⟩, _⟩, _⟩ := h
 refine ⟨h1, ⟨h9, h10⟩, by omega, fun e => ?_, ⟨h3, h4⟩, fun p hp => ?_⟩
 · rcases h8 with h8 | h8
   · rw [e] at h8; cases h8
   · omega
 · have := List.all_eq_true.1 h5 p hp
   unfold lenB at this
   simp only [Bool.and_eq_true, decide_eq_true_eq] at this
   exact this.2
def key0 (c : Cmd) : List UInt8 := c.keys.headD []
theorem keys_one {c : Cmd} {k : Nat} (m : May c k) (h1 : hm k = false) (h2 : hn k = false) : c.keys = [key0 c] := by
 obtain ⟨a, b⟩ := m.keys
 unfold loK hiK at *
 rw [h2] at a
 rw [h1, h2] at b
 have e : c.keys.length = 1 := by
   have a' : 1 ≤ c.keys.length := a
   have b' : c.keys.length ≤ 1 := b
   omega
 unfold key0
 match c.keys, e with
 | [x], _ => rfl
structure Mid (c : Cmd) (h : H) (b : Nat) (v6 : Value) (tm : T Value) : Prop where
 t1 : tg tm 1 = .pointer (some ⟨b, 0, none⟩)
 t4 : tg tm 4 = sv (key0 c)
 t5 : tg tm 5 = sv (dec c.val.size)
 t6 : tg tm 6 = v6
 has : Has h b (.rw c.cells (some 26))
 puts : Strs h v6 [key0 c, dec c.flags.toNat, dec c.fo.toNat, dec c.val.size]
 keys : Strs h c.kv c.keys
 pow : Has h 1 (.ro powC)
def WordsQ (c : Cmd) (k : Nat) (h : H) : Ex → T Value → H → Prop := fun e tm h' => e = .ret ∧ (∃ v, tg tm 2 = v ∧ tg tm 3 = .bool (hv k) ∧ Strs h' v (wordsL c k)) ∧ Keep nobody h h'
noncomputable def cW : Box CodeT := ⟨seqC ⟨r26_5⟩ ⟨blockC 0 ⟨seqC ⟨r26_6⟩ ⟨condC (tC 30) ⟨seqC ⟨r26_7⟩ retC⟩ ⟨seqC ⟨r26_8⟩ ⟨condC (tC 36) ⟨seqC ⟨r26_9⟩ retC⟩ ⟨seqC ⟨seqC ⟨r26_10⟩ ⟨condC (tC 42) skipC ⟨seqC ⟨r26_11⟩ ⟨condC (tC 42) skipC ⟨r26_12⟩⟩⟩⟩⟩ ⟨condC (tC 42) ⟨seqC ⟨r26_13⟩ retC⟩ ⟨seqC ⟨r26_14⟩ ⟨condC (tC 55) ⟨seqC ⟨r26_15⟩ retC⟩ ⟨seqC ⟨r26_16⟩ ⟨condC (tC 65) ⟨seqC ⟨r26_17⟩ retC⟩ ⟨seqC ⟨r26_18⟩ ⟨condC (tC 70) ⟨seqC ⟨r26_19⟩ retC⟩ ⟨seqC ⟨r26_20⟩ ⟨condC (tC 77) ⟨seqC ⟨r26_21⟩ retC⟩ ⟨seqC ⟨r26_22⟩ ⟨condC (tC 84) ⟨seqC ⟨r26_23⟩ retC⟩ skipC⟩⟩⟩⟩⟩⟩⟩⟩⟩⟩⟩⟩⟩⟩⟩⟩⟩⟩
section
variable {L n : Nat} {tm : T Value} {h : H} {b : Nat} {v6 : Value} {c : Cmd}
theorem words_1 (a : Mid c h b v6 tm) (hk : c.kind = 1) (m : May c 1) : C cW (CF L (n + 5)) L tm h (WordsQ c 1 h) := by
 obtain ⟨t1, t4, t5, t6, has, puts, keys, pow⟩ := a
 have ld : ∀ h', Has h' b (.rw c.cells (some 26)) → ∀ o s, loadOne h' (.pointer (some ⟨b, o, s⟩)) = c.cells[o]? := fun h' hb o s => loadOne_has hb rfl
 have ld0 := ld h has
 intro K hK
 have lit : mkLit 9 1 h.next (fill (repl [(.string (strB []))] 1) (pl 1) [(0, (.string (strB [103, 101, 116])))]) = some (.rw ([nameN.getD 1 []].map sv) (some 9), .slice (some ⟨h.next, 0, none⟩) [nameN.getD 1 []].length [nameN.getD 1 []].length) := rfl
 have k1 := Keep.new h (.rw ([nameN.getD 1 []].map sv) (some 9))
 have b1 := Has.new h (.rw ([nameN.getD 1 []].map sv) (some 9))
 have ld1 := ld _ (has.keep0 k1)
 have hl : 1 ≤ c.keys.length ∧ c.keys.length ≤ 8 := m.keys
 obtain ⟨v', h', e, so, k2, _⟩ := app_lit1 b1 (keys.keep0 k1) (by omega) (by show 1 + _ ≤ _; omega)
 simp only [seval, cW, EV, seqC, retC, skipC, blockC, condC, r26_5, r26_6, r26_7, t1, ld0, ld1, hcell, hk, lit, e]
 refine hK _ _ _ ⟨rfl, ⟨v', ?_, ?_, ?_⟩, k1.then k2⟩
 · simp only [seval, EV]
 · simp only [seval, EV]; rfl
 have w : wordsL c 1 = [nameN.getD 1 []] ++ c.keys := by simp [wordsL, numsL, hg, hb]
 rw [w]; exact so.strs
theorem words_10 (a : Mid c h b v6 tm) (hk : c.kind = 10) (m : May c 10) : C cW (CF L (n + 5)) L tm h (WordsQ c 10 h) := by
 obtain ⟨t1, t4, t5, t6, has, puts, keys, pow⟩ := a
 have ld : ∀ h', Has h' b (.rw c.cells (some 26)) → ∀ o s, loadOne h' (.pointer (some ⟨b, o, s⟩)) = c.cells[o]? := fun h' hb o s => loadOne_has hb rfl
 have ld0 := ld h has
 intro K hK
 have lit : mkLit 9 1 h.next (fill (repl [(.string (strB []))] 1) (pl 1) [(0, (.string (strB [100, 101, 108, 101, 116, 101])))]) = some (.rw ([nameN.getD 10 []].map sv) (some 9), .slice (some ⟨h.next, 0, none⟩) [nameN.getD 10 []].length [nameN.getD 10 []].length) := rfl
 have k1 := Keep.new h (.rw ([nameN.getD 10 []].map sv) (some 9))
 have b1 := Has.new h (.rw ([nameN.getD 10 []].map sv) (some 9))
 have ld1 := ld _ (has.keep0 k1)
 have hl : 1 ≤ c.keys.length ∧ c.keys.length ≤ 8 := m.keys
 obtain ⟨v', h', e, so, k2, _⟩ := app_lit1 b1 (keys.keep0 k1) (by omega) (by show 1 + _ ≤ _; omega)
 simp only [seval, cW, EV, seqC, retC, skipC, blockC, condC, r26_5, r26_6, r26_8, r26_9, t1, ld0, ld1, hcell, hk, lit, e]
 refine hK _ _ _ ⟨rfl, ⟨v', ?_, ?_, ?_⟩, k1.then k2⟩
 · simp only [seval, EV]
 · simp only [seval, EV]; rfl
 have w : wordsL c 10 = [nameN.getD 10 []] ++ c.keys := by simp [wordsL, numsL, hg, hb]
 rw [w]; exact so.strs
theorem words_2 (a : Mid c h b v6 tm) (hk : c.kind = 2) (m : May c 2) : C cW (CF L (n + 5)) L tm h (WordsQ c 2 h) := by
 obtain ⟨t1, t4, t5, t6, has, puts, keys, pow⟩ := a
 have ld : ∀ h', Has h' b (.rw c.cells (some 26)) → ∀ o s, loadOne h' (.pointer (some ⟨b, o, s⟩)) = c.cells[o]? := fun h' hb o s => loadOne_has hb rfl
 have ld0 := ld h has
 intro K hK
 have lit : mkLit 9 3 h.next (fill (repl [(.string (strB []))] 3) (pl 1) [(0, (.string (strB [115, 101, 116]))), (1, (.string (strB [97, 100, 100]))), (2, (.string (strB [114, 101, 112, 108, 97, 99, 101])))]) = some (.rw ([nameN.getD 2 [], nameN.getD 3 [], nameN.getD 4 []].map sv) (some 9), .slice (some ⟨h.next, 0, none⟩) 3 3) := rfl
 have k1 := Keep.new h (.rw ([nameN.getD 2 [], nameN.getD 3 [], nameN.getD 4 []].map sv) (some 9))
 have b1 := Has.new h (.rw ([nameN.getD 2 [], nameN.getD 3 [], nameN.getD 4 []].map sv) (some 9))
 have ld1 := ld _ (has.keep0 k1)
 have w0 : IntKind.u8.wrap ((2 : Int) - 2) = 0 := rfl
 have ix : indexSl 1 (.slice (some ⟨h.next, 0, none⟩) 3 3) (.int .u8 0) = some (.pointer (some ⟨h.next, 0, none⟩)) := rfl
 have lw : ∀ s, loadOne (h.new (.rw ([nameN.getD 2 [], nameN.getD 3 [], nameN.getD 4 []].map sv) (some 9))) (.pointer (some ⟨h.next, 0, s⟩)) = some (sv (nameN.getD 2 [])) := fun s => loadOne_has b1 rfl
 have hs1 := puts.keep0 k1
 generalize hh1 : h.new (.rw ([nameN.getD 2 [], nameN.getD 3 [], nameN.getD 4 []].map sv) (some 9)) = h1 at *
 have lit2 : mkLit 9 1 h1.next (fill (repl [(.string (strB []))] 1) (pl 1) [(0, sv (nameN.getD 2 []))]) = some (.rw ([nameN.getD 2 []].map sv) (some 9), .slice (some ⟨h1.next, 0, none⟩) [nameN.getD 2 []].length [nameN.getD 2 []].length) := rfl
 have k2 := Keep.new h1 (.rw ([nameN.getD 2 []].map sv) (some 9))
 have b2 := Has.new h1 (.rw ([nameN.getD 2 []].map sv) (some 9))
 obtain ⟨v', h', e, so, k3, _⟩ := app_lit1 b2 (hs1.keep0 k2) (by simp) (by simp)
 have e1 := keys_one m rfl rfl
 simp only [cW, ↓reduceIte, EV, Nat.reduceEqDiff, Int.reduceEq, seqC, retC, skipC, blockC, condC, r26_5, r26_6, r26_8, r26_10, r26_13, t1, t6, ld0, ld1, hcell, hk, lit, hh1, w0, ix, lw, lit2, e]
 refine hK _ _ _ ⟨rfl, ⟨v', ?_, ?_, ?_⟩, (k1.then k2).then k3⟩
 · simp only [seval, EV]
 · simp only [seval, EV]; rfl
 have w : wordsL c 2 = [nameN.getD 2 []] ++ [key0 c, dec c.flags.toNat, dec c.fo.toNat, dec c.val.size] := by
   unfold wordsL; rw [e1]; simp [numsL, hg]
 rw [w]; exact so.strs
theorem words_3 (a : Mid c h b v6 tm) (hk : c.kind = 3) (m : May c 3) : C cW (CF L (n + 5)) L tm h (WordsQ c 3 h) := by
 obtain ⟨t1, t4, t5, t6, has, puts, keys, pow⟩ := a
 have ld : ∀ h', Has h' b (.rw c.cells (some 26)) → ∀ o s, loadOne h' (.pointer (some ⟨b, o, s⟩)) = c.cells[o]? := fun h' hb o s => loadOne_has hb rfl
 have ld0 := ld h has
 intro K hK
 have lit : mkLit 9 3 h.next (fill (repl [(.string (strB []))] 3) (pl 1) [(0, (.string (strB [115, 101, 116]))), (1, (.string (strB [97, 100, 100]))), (2, (.string (strB [114, 101, 112, 108, 97, 99, 101])))]) = some (.rw ([nameN.getD 2 [], nameN.getD 3 [], nameN.getD 4 []].map sv) (some 9), .slice (some ⟨h.next, 0, none⟩) 3 3) := rfl
 have k1 := Keep.new h (.rw ([nameN.getD 2 [], nameN.getD 3 [], nameN.getD 4 []].map sv) (some 9))
 have b1 := Has.new h (.rw ([nameN.getD 2 [], nameN.getD 3 [], nameN.getD 4 []].map sv) (some 9))
 have ld1 := ld _ (has.keep0 k1)
 have w0 : IntKind.u8.wrap ((3 : Int) - 2) = 1 := rfl
 have ix : indexSl 1 (.slice (some ⟨h.next, 0, none⟩) 3 3) (.int .u8 1) = some (.pointer (some ⟨h.next, 1, none⟩)) := rfl
 have lw : ∀ s, loadOne (h.new (.rw ([nameN.getD 2 [], nameN.getD 3 [], nameN.getD 4 []].map sv) (some 9))) (.pointer (some ⟨h.next, 1, s⟩)) = some (sv (nameN.getD 3 [])) := fun s => loadOne_has b1 rfl
 have hs1 := puts.keep0 k1
 generalize hh1 : h.new (.rw ([nameN.getD 2 [], nameN.getD 3 [], nameN.getD 4 []].map sv) (some 9)) = h1 at *
 have lit2 : mkLit 9 1 h1.next (fill (repl [(.string (strB []))] 1) (pl 1) [(0, sv (nameN.getD 3 []))]) = some (.rw ([nameN.getD 3 []].map sv) (some 9), .slice (some ⟨h1.next, 0, none⟩) [nameN.getD 3 []].length [nameN.getD 3 []].length) := rfl
 have k2 := Keep.new h1 (.rw ([nameN.getD 3 []].map sv) (some 9))
 have b2 := Has.new h1 (.rw ([nameN.getD 3 []].map sv) (some 9))
 obtain ⟨v', h', e, so, k3, _⟩ := app_lit1 b2 (hs1.keep0 k2) (by simp) (by simp)
 have e1 := keys_one m rfl rfl
 simp only [cW, ↓reduceIte, EV, Nat.reduceEqDiff, Int.reduceEq, seqC, retC, skipC, blockC, condC, r26_5, r26_6, r26_8, r26_10, r26_11, r26_13, t1, t6, ld0, ld1, hcell, hk, lit, hh1, w0, ix, lw, lit2, e]
 refine hK _ _ _ ⟨rfl, ⟨v', ?_, ?_, ?_⟩, (k1.then k2).then k3⟩
 · simp only [seval, EV]
 · simp only [seval, EV]; rfl
 have w : wordsL c 3 = [nameN.getD 3 []] ++ [key0 c, dec c.flags.toNat, dec c.fo.toNat, dec c.val.size] := by
   unfold wordsL; rw [e1]; simp [numsL, hg]
 rw [w]; exact so.strs
theorem words_4 (a : Mid c h b v6 tm) (hk : c.kind = 4) (m : May c 4) : C cW (CF L (n + 5)) L tm h (WordsQ c 4 h) := by
 obtain ⟨t1, t4, t5, t6, has, puts, keys, pow⟩ := a
 have ld : ∀ h', Has h' b (.rw c.cells (some 26)) → ∀ o s, loadOne h' (.pointer (some ⟨b, o, s⟩)) = c.cells[o]? := fun h' hb o s => loadOne_has hb rfl
 have ld0 := ld h has
 intro K hK
 have lit : mkLit 9 3 h.next (fill (repl [(.string (strB []))] 3) (pl 1) [(0, (.string (strB [115, 101, 116]))), (1, (.string (strB [97, 100, 100]))), (2, (.string (strB [114, 101, 112, 108, 97, 99, 101])))]) = some (.rw ([nameN.getD 2 [], nameN.getD 3 [], nameN.getD 4 []].map sv) (some 9), .slice (some ⟨h.next, 0, none⟩) 3 3) := rfl
 have k1 := Keep.new h (.rw ([nameN.getD 2 [], nameN.getD 3 [], nameN.getD 4 []].map sv) (some 9))
 have b1 := Has.new h (.rw ([nameN.getD 2 [], nameN.getD 3 [], nameN.getD 4 []].map sv) (some 9))
 have ld1 := ld _ (has.keep0 k1)
 have w0 : IntKind.u8.wrap ((4 : Int) - 2) = 2 := rfl
 have ix : indexSl 1 (.slice (some ⟨h.next, 0, none⟩) 3 3) (.int .u8 2) = some (.pointer (some ⟨h.next, 2, none⟩)) := rfl
 have lw : ∀ s, loadOne (h.new (.rw ([nameN.getD 2 [], nameN.getD 3 [], nameN.getD 4 []].map sv) (some 9))) (.pointer (some ⟨h.next, 2, s⟩)) = some (sv (nameN.getD 4 [])) := fun s => loadOne_has b1 rfl
 have hs1 := puts.keep0 k1
 generalize hh1 : h.new (.rw ([nameN.getD 2 [], nameN.getD 3 [], nameN.getD 4 []].map sv) (some 9)) = h1 at *
 have lit2 : mkLit 9 1 h1.next (fill (repl [(.string (strB []))] 1) (pl 1) [(0, sv (nameN.getD 4 []))]) = some (.rw ([nameN.getD 4 []].map sv) (some 9), .slice (some ⟨h1.next, 0, none⟩) [nameN.getD 4 []].length [nameN.getD 4 []].length) := rfl
 have k2 := Keep.new h1 (.rw ([nameN.getD 4 []].map sv) (some 9))
 have b2 := Has.new h1 (.rw ([nameN.getD 4 []].map sv) (some 9))
 obtain ⟨v', h', e, so, k3, _⟩ := app_lit1 b2 (hs1.keep0 k2) (by simp) (by simp)
 have e1 := keys_one m rfl rfl
 simp only [cW, ↓reduceIte, EV, Nat.reduceEqDiff, Int.reduceEq, seqC, retC, skipC, blockC, condC, r26_5, r26_6, r26_8, r26_10, r26_11, r26_12, r26_13, t1, t6, ld0, ld1, hcell, hk, lit, hh1, w0, ix, lw, lit2, e]
 refine hK _ _ _ ⟨rfl, ⟨v', ?_, ?_, ?_⟩, (k1.then k2).then k3⟩
 · simp only [seval, EV]
 · simp only [seval, EV]; rfl
 have w : wordsL c 4 = [nameN.getD 4 []] ++ [key0 c, dec c.flags.toNat, dec c.fo.toNat, dec c.val.size] := by
   unfold wordsL; rw [e1]; simp [numsL, hg]
 rw [w]; exact so.strs
theorem words_5 (hL : 1000 ≤ L) (a : Mid c h b v6 tm) (hk : c.kind = 5) (m : May c 5) (hf : c.fit) : C cW (CF L (n + 5)) L tm h (WordsQ c 5 h) := by
 obtain ⟨t1, t4, t5, t6, has, puts, keys, pow⟩ := a
 have ld : ∀ h', Has h' b (.rw c.cells (some 26)) → ∀ o s, loadOne h' (.pointer (some ⟨b, o, s⟩)) = c.cells[o]? := fun h' hb o s => loadOne_has hb rfl
 have ld0 := ld h has
 intro K hK
 have k0 := keep_room h 10
 have lit : mkLit 9 1 h.next (fill (repl [(.string (strB []))] 1) (pl 1) [(0, (.string (strB [99, 97, 115])))]) = some (.rw ([nameN.getD 5 []].map sv) (some 9), .slice (some ⟨h.next, 0, none⟩) [nameN.getD 5 []].length [nameN.getD 5 []].length) := rfl
 have kp := Keep.put (⟨h.objs, h.next + 10⟩ : H) h.next (.rw ([nameN.getD 5 []].map sv) (some 9))
 have b1 : Has ((⟨h.objs, h.next + 10⟩ : H).put h.next (.rw ([nameN.getD 5 []].map sv) (some 9))) h.next (.rw ([nameN.getD 5 []].map sv) (some 9)) := Has.put (by show h.next < h.next + 10; omega)
 have k1 : Keep nobody h ((⟨h.objs, h.next + 10⟩ : H).put h.next (.rw ([nameN.getD 5 []].map sv) (some 9))) := k0.trans kp fun k hk e => by omega
 have n1 : ((⟨h.objs, h.next + 10⟩ : H).put h.next (.rw ([nameN.getD 5 []].map sv) (some 9))).next = h.next + 10 := rfl
 generalize hh1 : (⟨h.objs, h.next + 10⟩ : H).put h.next (.rw ([nameN.getD 5 []].map sv) (some 9)) = h1 at *
 obtain ⟨v', h2, e, so, k2, sub⟩ := app_lit1 b1 (puts.keep0 k1) (by simp) (by simp)
 have has2 := (has.keep0 k1).keep0 k2
 have pow2 := (pow.keep0 k1).keep0 k2
 have ld1 := ld _ (has.keep0 k1)
 have ld2 := ld _ has2
 have hu := hf.uniq
 have hs := hO_self (veq_int .u64 ((c.uniq.toNat : Nat) : Int))
 have uq : c.uniq = ((c.uniq.toNat : Nat) : Int) := by omega
 have hcell' : c.cells = [.int .u8 c.kind, .int .i64 c.ten, c.kv, .string c.val, .int .u32 c.flags, .int .i64 c.fo, .int .u64 ((c.uniq.toNat : Nat) : Int), .int .u64 c.by'] := by rw [hcell, ← uq]
 simp only [seval, cW, EV, seqC, retC, skipC, blockC, condC, r26_5, r26_6, r26_8, r26_10, r26_11, r26_12, r26_14, r26_15, t1, t6, ld0, hcell', hk, lit, hh1, ld1, e, ld2, hs]
 refine tens_u64 L n hL (by omega) pow2 _ fun r h3 hq => ?_
 obtain ⟨rfl, k3⟩ := hq
 have lit2 : mkLit 9 1 (h.next + 6) (fill (repl [(.string (strB []))] 1) (pl 1) [(0, sv (dec c.uniq.toNat))]) = some (.rw ([dec c.uniq.toNat].map sv) (some 9), .slice (some ⟨h.next + 6, 0, none⟩) [dec c.uniq.toNat].length [dec c.uniq.toNat].length) := rfl
 have nn := k2.next
 have nn3 := k3.next
 have kp2 := Keep.put h3 (h.next + 6) (.rw ([dec c.uniq.toNat].map sv) (some 9))
 have b4 : Has (h3.put (h.next + 6) (.rw ([dec c.uniq.toNat].map sv) (some 9))) (h.next + 6) (.rw ([dec c.uniq.toNat].map sv) (some 9)) := Has.put (by omega)
 have so4 : StrOp (h3.put (h.next + 6) (.rw ([dec c.uniq.toNat].map sv) (some 9))) v' _ := (so.keep k3 fun _ _ e => e).keep kp2 fun bb hb e => by have := sub bb hb; omega
 have s4 := strs_lit b4 (by simp)
 obtain ⟨v'', h5, e5, so5, k5, _⟩ := app_op so4 s4 (by simp) (by simp)
 simp only [EV, lit2, e5]
 refine hK _ _ _ ⟨rfl, ⟨v'', ?_, ?_, ?_⟩, ?_⟩
 · simp only [seval, EV]
 · simp only [seval, EV]; rfl
 · have e1 := keys_one m rfl rfl
   have w : wordsL c 5 = [nameN.getD 5 []] ++ [key0 c, dec c.flags.toNat, dec c.fo.toNat, dec c.val.size] ++ [dec c.uniq.toNat] := by
     unfold wordsL; rw [e1]; simp [numsL, hg]
   rw [w]; exact so5.strs
 · refine (((k1.then k2).then k3).trans kp2 fun k hk e => by omega).trans k5 fun k hk e => ?_
   have := sub k e; omega
theorem words_6 (hL : 1000 ≤ L) (a : Mid c h b v6 tm) (hk : c.kind = 6) (m : May c 6) (hf : c.fit) : C cW (CF L (n + 5)) L tm h (WordsQ c 6 h) := by
 obtain ⟨t1, t4, t5, t6, has, puts, keys, pow⟩ := a
 have ld : ∀ h', Has h' b (.rw c.cells (some 26)) → ∀ o s, loadOne h' (.pointer (some ⟨b, o, s⟩)) = c.cells[o]? := fun h' hb o s => loadOne_has hb rfl
 have ld0 := ld h has
 intro K hK
 have hb1 := hf.by'
 have hb2 := m.fo
 have uq : c.by' = ((c.by'.toNat : Nat) : Int) := by omega
 have ff : c.fo = ((c.fo.toNat : Nat) : Int) := by omega
 have hcell' : c.cells = [.int .u8 c.kind, .int .i64 c.ten, c.kv, .string c.val, .int .u32 c.flags, .int .i64 ((c.fo.toNat : Nat) : Int), .int .u64 c.uniq, .int .u64 ((c.by'.toNat : Nat) : Int)] := by rw [hcell, ← uq, ← ff]
 simp only [seval, cW, EV, seqC, retC, skipC, blockC, condC, r26_5, r26_6, r26_8, r26_10, r26_11, r26_12, r26_14, r26_16, r26_18, r26_19, t1, ld0, hcell', hk]
 refine tens_u64 L n hL (by omega) pow _ fun r h3 hq => ?_
 obtain ⟨rfl, k3⟩ := hq
 have lit2 : mkLit 9 3 h3.next (fill (repl [(.string (strB []))] 3) (pl 1) [(0, (.string (strB [105, 110, 99, 114]))), (1, sv (key0 c)), (2, sv (dec c.by'.toNat))]) = some (.rw ([nameN.getD 6 [], key0 c, dec c.by'.toNat].map sv) (some 9), .slice (some ⟨h3.next, 0, none⟩) 3 3) := rfl
 simp only [EV, t4, lit2]
 have b4 := Has.new h3 (.rw ([nameN.getD 6 [], key0 c, dec c.by'.toNat].map sv) (some 9))
 refine hK _ _ _ ⟨rfl, ⟨.slice (some ⟨h3.next, 0, none⟩) 3 3, ?_, ?_, ?_⟩, k3.then (.new _ _)⟩
 · simp only [seval, EV]
 · simp only [seval, EV]; rfl
 have e1 := keys_one m rfl rfl
 have w : wordsL c 6 = [nameN.getD 6 [], key0 c, dec c.by'.toNat] := by
   unfold wordsL; rw [e1]; simp [numsL, hg, hb]
 rw [w]; exact strs_lit b4 (by simp)
theorem words_7 (hL : 1000 ≤ L) (a : Mid c h b v6 tm) (hk : c.kind = 7) (m : May c 7) (hf : c.fit) : C cW (CF L (n + 5)) L tm h (WordsQ c 7 h) := by
 obtain ⟨t1, t4, t5, t6, has, puts, keys, pow⟩ := a
 have ld : ∀ h', Has h' b (.rw c.cells (some 26)) → ∀ o s, loadOne h' (.pointer (some ⟨b, o, s⟩)) = c.cells[o]? := fun h' hb o s => loadOne_has hb rfl
 have ld0 := ld h has
 intro K hK
 have hb1 := hf.by'
 have hb2 := m.fo
 have uq : c.by' = ((c.by'.toNat : Nat) : Int) := by omega
 have ff : c.fo = ((c.fo.toNat : Nat) : Int) := by omega
 have hcell' : c.cells = [.int .u8 c.kind, .int .i64 c.ten, c.kv, .string c.val, .int .u32 c.flags, .int .i64 ((c.fo.toNat : Nat) : Int), .int .u64 c.uniq, .int .u64 ((c.by'.toNat : Nat) : Int)] := by rw [hcell, ← uq, ← ff]
 simp only [seval, cW, EV, seqC, retC, skipC, blockC, condC, r26_5, r26_6, r26_8, r26_10, r26_11, r26_12, r26_14, r26_16, r26_18, r26_20, r26_21, t1, ld0, hcell', hk]
 refine tens_u64 L n hL (by omega) pow _ fun r h3 hq => ?_
 obtain ⟨rfl, k3⟩ := hq
 have lit2 : mkLit 9 3 h3.next (fill (repl [(.string (strB []))] 3) (pl 1) [(0, (.string (strB [100, 101, 99, 114]))), (1, sv (key0 c)), (2, sv (dec c.by'.toNat))]) = some (.rw ([nameN.getD 7 [], key0 c, dec c.by'.toNat].map sv) (some 9), .slice (some ⟨h3.next, 0, none⟩) 3 3) := rfl
 simp only [EV, t4, lit2]
 have b4 := Has.new h3 (.rw ([nameN.getD 7 [], key0 c, dec c.by'.toNat].map sv) (some 9))
 refine hK _ _ _ ⟨rfl, ⟨.slice (some ⟨h3.next, 0, none⟩) 3 3, ?_, ?_, ?_⟩, k3.then (.new _ _)⟩
 · simp only [seval, EV]
 · simp only [seval, EV]; rfl
 have e1 := keys_one m rfl rfl
 have w : wordsL c 7 = [nameN.getD 7 [], key0 c, dec c.by'.toNat] := by
   unfold wordsL; rw [e1]; simp [numsL, hg, hb]
 rw [w]; exact strs_lit b4 (by simp)
theorem words_9 (hL : 1000 ≤ L) (a : Mid c h b v6 tm) (hk : c.kind = 9) (m : May c 9) (hf : c.fit) : C cW (CF L (n + 5)) L tm h (WordsQ c 9 h) := by
 obtain ⟨t1, t4, t5, t6, has, puts, keys, pow⟩ := a
 have ld : ∀ h', Has h' b (.rw c.cells (some 26)) → ∀ o s, loadOne h' (.pointer (some ⟨b, o, s⟩)) = c.cells[o]? := fun h' hb o s => loadOne_has hb rfl
 have ld0 := ld h has
 intro K hK
 have hb1 := hf.by'
 have hb2 := m.fo
 have uq : c.by' = ((c.by'.toNat : Nat) : Int) := by omega
 have ff : c.fo = ((c.fo.toNat : Nat) : Int) := by omega
 have hcell' : c.cells = [.int .u8 c.kind, .int .i64 c.ten, c.kv, .string c.val, .int .u32 c.flags, .int .i64 ((c.fo.toNat : Nat) : Int), .int .u64 c.uniq, .int .u64 ((c.by'.toNat : Nat) : Int)] := by rw [hcell, ← uq, ← ff]
 simp only [seval, cW, EV, seqC, retC, skipC, blockC, condC, r26_5, r26_6, r26_8, r26_10, r26_11, r26_12, r26_14, r26_16, r26_18, r26_20, r26_22, r26_23, t1, ld0, hcell', hk]
 refine tens_int L n hL (by omega) pow _ fun r h3 hq => ?_
 obtain ⟨rfl, k3⟩ := hq
 have lit2 : mkLit 9 3 h3.next (fill (repl [(.string (strB []))] 3) (pl 1) [(0, (.string (strB [116, 111, 117, 99, 104]))), (1, sv (key0 c)), (2, sv (dec c.fo.toNat))]) = some (.rw ([nameN.getD 9 [], key0 c, dec c.fo.toNat].map sv) (some 9), .slice (some ⟨h3.next, 0, none⟩) 3 3) := rfl
 simp only [EV, t4, lit2]
 have b4 := Has.new h3 (.rw ([nameN.getD 9 [], key0 c, dec c.fo.toNat].map sv) (some 9))
 refine hK _ _ _ ⟨rfl, ⟨.slice (some ⟨h3.next, 0, none⟩) 3 3, ?_, ?_, ?_⟩, k3.then (.new _ _)⟩
 · simp only [seval, EV]
 · simp only [seval, EV]; rfl
 have e1 := keys_one m rfl rfl
 have w : wordsL c 9 = [nameN.getD 9 [], key0 c, dec c.fo.toNat] := by
   unfold wordsL; rw [e1]; simp [numsL, hg, hb]
 rw [w]; exact strs_lit b4 (by simp)
theorem words_8 (a : Mid c h b v6 tm) (hk : c.kind = 8) (m : May c 8) : C cW (CF L (n + 5)) L tm h (WordsQ c 8 h) := by
 obtain ⟨t1, t4, t5, t6, has, puts, keys, pow⟩ := a
 have ld : ∀ h', Has h' b (.rw c.cells (some 26)) → ∀ o s, loadOne h' (.pointer (some ⟨b, o, s⟩)) = c.cells[o]? := fun h' hb o s => loadOne_has hb rfl
 have ld0 := ld h has
 intro K hK
 have lit2 : mkLit 9 3 h.next (fill (repl [(.string (strB []))] 3) (pl 1) [(0, (.string (strB [97, 112, 112, 101, 110, 100]))), (1, sv (key0 c)), (2, sv (dec c.val.size))]) = some (.rw ([nameN.getD 8 [], key0 c, dec c.val.size].map sv) (some 9), .slice (some ⟨h.next, 0, none⟩) 3 3) := rfl
 simp only [seval, cW, EV, seqC, retC, skipC, blockC, condC, r26_5, r26_6, r26_8, r26_10, r26_11, r26_12, r26_14, r26_16, r26_17, t1, t4, t5, ld0, hcell, hk, lit2]
 have b4 := Has.new h (.rw ([nameN.getD 8 [], key0 c, dec c.val.size].map sv) (some 9))
 refine hK _ _ _ ⟨rfl, ⟨.slice (some ⟨h.next, 0, none⟩) 3 3, ?_, ?_, ?_⟩, .new _ _⟩
 · simp only [seval, EV]
 · simp only [seval, EV]; rfl
 have e1 := keys_one m rfl rfl
 have w : wordsL c 8 = [nameN.getD 8 [], key0 c, dec c.val.size] := by
   unfold wordsL; rw [e1]; simp [numsL, hg]
 rw [w]; exact strs_lit b4 (by simp)
end
theorem words_11 {L n : Nat} {tm : T Value} {h : H} {b : Nat} {v6 : Value} {c : Cmd} (a : Mid c h b v6 tm) (hk : c.kind = 11) (m : May c 11) :
   C ⟨seqC cW ⟨seqC ⟨r26_24⟩ retC⟩⟩ (CF L (n + 5)) L tm h (WordsQ c 11 h) := by
 obtain ⟨t1, t4, t5, t6, has, puts, keys, pow⟩ := a
 have ld0 : ∀ o s, loadOne h (.pointer (some ⟨b, o, s⟩)) = c.cells[o]? := fun o s => loadOne_has has rfl
 have lit : mkLit 9 1 h.next (fill (repl [(.string (strB []))] 1) (pl 1) [(0, (.string (strB [102, 108, 117, 115, 104])))]) = some (.rw ([nameN.getD 11 []].map sv) (some 9), .slice (some ⟨h.next, 0, none⟩) 1 1) := rfl
 have b1 := Has.new h (.rw ([nameN.getD 11 []].map sv) (some 9))
 intro K hK
 simp only [seval, cW, EV, seqC, retC, skipC, blockC, condC, r26_5, r26_6, r26_8, r26_10, r26_11, r26_12, r26_14, r26_16, r26_18, r26_20, r26_22, r26_24, t1, ld0, hcell, hk, lit]
 refine hK _ _ _ ⟨rfl, ⟨.slice (some ⟨h.next, 0, none⟩) 1 1, ?_, ?_, ?_⟩, .new _ _⟩
 · simp only [seval, EV]
 · simp only [seval, EV]; rfl
 have hl : 0 ≤ c.keys.length ∧ c.keys.length ≤ 0 := m.keys
 have e1 : c.keys = [] := List.length_eq_zero_iff.1 (by omega)
 have w : wordsL c 11 = [nameN.getD 11 []] := by
   unfold wordsL; rw [e1]; simp [numsL, hg, hb]
 rw [w]; exact strs_lit b1 (by simp)
theorem words_law (L n : Nat) (hL : 2000 ≤ L) {c : Cmd} {k : Nat} {h : H} (hk : c.kind = (k : Int)) (m : May c k) (hf : c.fit) (hs : Strs h c.kv c.keys) (hG : Has h 1 (.ro powC)) :
   Sp (CF L (n + 6)) 26 [c.v] h fun r h' => (∃ v, r = .tuple #[v, .bool (hv k)] ∧ Strs h' v (wordsL c k)) ∧ Keep nobody h h' := by
 have hcc : (Value.cells c.v).toList = c.cells := rfl
 have k1 := Keep.new h (.rw c.cells (some 26))
 have b1 := Has.new h (.rw c.cells (some 26))
 have hs1 := hs.keep0 k1
 have hG1 := hG.keep0 k1
 refine Sp.body f26 (by simp) ?_
 unfold c26
 refine C.seq fun K hK => ?_
 simp only [seval, ↓EW, EV, r26_0, hcc]
 generalize h.new (.rw c.cells (some 26)) = h1 at *
 have ldg : ∀ h', Has h' h.next (.rw c.cells (some 26)) → ∀ o s, loadOne h' (.pointer (some ⟨h.next, o, s⟩)) = c.cells[o]? := fun h' hb o s => loadOne_has hb rfl
 have ld := ldg h1 b1
 have mv := m.val
 have mf := m.fo
 have hfl := hf.flags
 refine hK .norm _ _ (C.seq fun K hK => ?_)
 simp only [seval, EV, r26_1, ld, hcell, lenStr_string]
 refine tens_int L n (by omega) (by omega) hG1 _ fun r h2 hq => ?_
 obtain ⟨rfl, k2⟩ := hq
 have b2 := b1.keep0 k2
 have hs2 := hs1.keep0 k2
 have hG2 := hG1.keep0 k2
 have ld2 := ldg h2 b2
 refine hK .norm _ _ (C.seq (C.mono (Q := fun e tm h' => e = .norm ∧ h' = h2 ∧ tg tm 1 = .pointer (some ⟨h.next, 0, none⟩) ∧ tg tm 4 = sv (key0 c) ∧ tg tm 5 = sv (dec c.val.size)) (C.seq fun K hK => ?_) ?_))
 · match hks : c.keys with
   | [] =>
     have hlen : lenSl c.kv = some (.int .i64 0) := by rw [hs2.len, hks]; rfl
     simp only [seval, EV, r26_2, ld2, hcell, hlen]
     refine hK .norm _ _ (C.cf <| C.skip ⟨rfl, rfl, ?_, ?_, ?_⟩) <;> simp only [seval, EV]
     unfold key0; rw [hks]; rfl
   | p :: ps =>
     have hlen : lenSl c.kv = some (.int .i64 ((ps.length + 1 : Nat) : Int)) := by rw [hs2.len, hks]; rfl
     have g : (0 : Int) < ((ps.length + 1 : Nat) : Int) := by omega
     obtain ⟨bb, oo, ix, lx⟩ := hs2.at (i := 0) (p := p) (by rw [hks]; rfl)
     have ixz : indexSl 1 c.kv (.int .i64 0) = some (.pointer (some ⟨bb, oo, none⟩)) := ix
     simp only [seval, EV, r26_2, ld2, hcell, hlen, g]
     refine hK .norm _ _ (C.ct (fun K hK => ?_))
     simp only [seval, EV, r26_3, ld2, hcell, ixz, lx]
     refine hK .norm _ _ ⟨rfl, rfl, ?_, ?_, ?_⟩ <;> simp only [seval, EV]
     unfold key0; rw [hks]; rfl
 rintro e tm h2' ⟨rfl, rfl, t1, t4, t5⟩
 have k0 := keep_room h2' 8
 have k0 := keep_room h2' 10
 have b3 := b2.keep0 k0
 have hG3 := hG2.keep0 k0
 have fl : c.flags = ((c.flags.toNat : Nat) : Int) := by omega
 have ff : c.fo = ((c.fo.toNat : Nat) : Int) := by omega
 have hcell' : c.cells = [.int .u8 c.kind, .int .i64 c.ten, c.kv, .string c.val, .int .u32 ((c.flags.toNat : Nat) : Int), .int .i64 ((c.fo.toNat : Nat) : Int), .int .u64 c.uniq, .int .u64 c.by'] := by rw [hcell, ← fl, ← ff]
 refine C.seq fun K hK => ?_
 have hs3 := hO_self (veq_int .i64 ((c.fo.toNat : Nat) : Int))
 simp only [EV, r26_4, t1, ldg _ b3, hcell']
 refine tens_u32 L n (by omega) (by omega) hG3 _ fun r h4 hq => ?_
 obtain ⟨rfl, k4⟩ := hq
 have b4 := b3.keep0 k4
 have hG4 := hG3.keep0 k4
 simp only [EV, ldg _ b4, hcell', hs3, Bool.and_true]
 refine tens_int L n (by omega) (by omega) hG4 _ fun r h5 hq => ?_
 obtain ⟨rfl, k5⟩ := hq
 have lit : mkLit 9 4 (h2'.next + 8) (fill (repl [(.string (strB []))] 4) (pl 1) [(0, sv (key0 c)), (1, sv (dec c.flags.toNat)), (2, sv (dec c.fo.toNat)), (3, sv (dec c.val.size))]) = some (.rw ([key0 c, dec c.flags.toNat, dec c.fo.toNat, dec c.val.size].map sv) (some 9), .slice (some ⟨h2'.next + 8, 0, none⟩) 4 4) := rfl
 simp only [EV, t4, t5, lit]
 have n4 := k4.next
 have n5 := k5.next
 simp only at n4
 have kp := Keep.put h5 (h2'.next + 8) (.rw ([key0 c, dec c.flags.toNat, dec c.fo.toNat, dec c.val.size].map sv) (some 9))
 have bp : Has (h5.put (h2'.next + 8) (.rw ([key0 c, dec c.flags.toNat, dec c.fo.toNat, dec c.val.size].map sv) (some 9))) (h2'.next + 8) (.rw ([key0 c, dec c.flags.toNat, dec c.fo.toNat, dec c.val.size].map sv) (some 9)) := Has.put (by omega)
 have kk : Keep nobody h2' (h5.put (h2'.next + 8) (.rw ([key0 c, dec c.flags.toNat, dec c.fo.toNat, dec c.val.size].map sv) (some 9))) := ((k0.then k4).then k5).trans kp fun k hk e => by omega
 generalize h5.put (h2'.next + 8) (.rw ([key0 c, dec c.flags.toNat, dec c.fo.toNat, dec c.val.size].map sv) (some 9)) = h6 at *
 have mid : ∀ tm : T Value, tg tm 1 = .pointer (some ⟨h.next, 0, none⟩) → tg tm 4 = sv (key0 c) → tg tm 5 = sv (dec c.val.size) → tg tm 6 = .slice (some ⟨h2'.next + 8, 0, none⟩) 4 4 → Mid c h6 h.next (.slice (some ⟨h2'.next + 8, 0, none⟩) 4 4) tm := fun tm a1 a4 a5 a6 => ⟨a1, a4, a5, a6, b2.keep0 kk, strs_lit (l := [key0 c, dec c.flags.toNat, dec c.fo.toNat, dec c.val.size]) bp (by simp), hs2.keep0 kk, hG2.keep0 kk⟩
 have fin : ∀ (e : Ex) (tm : T Value) (h' : H), WordsQ c k h6 e tm h' → (e = .norm ∨ e = .ret) ∧ ∃ l, q26.f tm h' = some l ∧ (∃ v, resOf l = .tuple #[v, .bool (hv k)] ∧ Strs h' v (wordsL c k)) ∧ Keep nobody h h' := fun e tm h' q => by
   obtain ⟨rfl, ⟨v, e2, e3, e4⟩, k7⟩ := q
   refine ⟨.inr rfl, _, rfl, ⟨v, ?_, e4⟩, ((k1.then k2).then kk).then k7⟩
   simp only [resOf, e2, e3]
 refine hK .norm _ _ ?_
 obtain ⟨mk1, mk2⟩ := m.kind
 have hcs : k = 1 ∨ k = 2 ∨ k = 3 ∨ k = 4 ∨ k = 5 ∨ k = 6 ∨ k = 7 ∨ k = 8 ∨ k = 9 ∨ k = 10 ∨ k = 11 := by omega
 rcases hcs with rfl | rfl | rfl | rfl | rfl | rfl | rfl | rfl | rfl | rfl | rfl
 · exact C.seq ((words_1 (mid _ (by simp only [seval, EV, t1]) (by simp only [seval, EV, t4]) (by simp only [seval, EV, t5]) (by simp only [seval, EV])) hk m).mono fun e tm h' q => by cases q.1; exact fin _ _ _ q)
 · exact C.seq ((words_2 (mid _ (by simp only [seval, EV, t1]) (by simp only [seval, EV, t4]) (by simp only [seval, EV, t5]) (by simp only [seval, EV])) hk m).mono fun e tm h' q => by cases q.1; exact fin _ _ _ q)
 · exact C.seq ((words_3 (mid _ (by simp only [seval, EV, t1]) (by simp only [seval, EV, t4]) (by simp only [seval, EV, t5]) (by simp only [seval, EV])) hk m).mono fun e tm h' q => by cases q.1; exact fin _ _ _ q)
 · exact C.seq ((words_4 (mid _ (by simp only [seval, EV, t1]) (by simp only [seval, EV, t4]) (by simp only [seval, EV, t5]) (by simp only [seval, EV])) hk m).mono fun e tm h' q => by cases q.1; exact fin _ _ _ q)
 · exact C.seq ((words_5 (n := n) (by omega) (mid _ (by simp only [seval, EV, t1]) (by simp only [seval, EV, t4]) (by simp only [seval, EV, t5]) (by simp only [seval, EV])) hk m hf).mono fun e tm h' q => by cases q.1; exact fin _ _ _ q)
 · exact C.seq ((words_6 (n := n) (by omega) (mid _ (by simp only [seval, EV, t1]) (by simp only [seval, EV, t4]) (by simp only [seval, EV, t5]) (by simp only [seval, EV])) hk m hf).mono fun e tm h' q => by cases q.1; exact fin _ _ _ q)
 · exact C.seq ((words_7 (n := n) (by omega) (mid _ (by simp only [seval, EV, t1]) (by simp only [seval, EV, t4]) (by simp only [seval, EV, t5]) (by simp only [seval, EV])) hk m hf).mono fun e tm h' q => by cases q.1; exact fin _ _ _ q)
 · exact C.seq ((words_8 (mid _ (by simp only [seval, EV, t1]) (by simp only [seval, EV, t4]) (by simp only [seval, EV, t5]) (by simp only [seval, EV])) hk m).mono fun e tm h' q => by cases q.1; exact fin _ _ _ q)
 · exact C.seq ((words_9 (n := n) (by omega) (mid _ (by simp only [seval, EV, t1]) (by simp only [seval, EV, t4]) (by simp only [seval, EV, t5]) (by simp only [seval, EV])) hk m hf).mono fun e tm h' q => by cases q.1; exact fin _ _ _ q)
 · exact C.seq ((words_10 (mid _ (by simp only [seval, EV, t1]) (by simp only [seval, EV, t4]) (by simp only [seval, EV, t5]) (by simp only [seval, EV])) hk m).mono fun e tm h' q => by cases q.1; exact fin _ _ _ q)
 · exact (words_11 (mid _ (by simp only [seval, EV, t1]) (by simp only [seval, EV, t4]) (by simp only [seval, EV, t5]) (by simp only [seval, EV])) hk m).mono fun e tm h' q => fin _ _ _ q
def keysOk (c : Cmd) : Bool := c.keys.all (okW 32)
def lineL (c : Cmd) (k : Nat) : List UInt8 := nameN.getD k [] ++ joinR (c.keys ++ numsL c k) ++ [13, 10] ++ (if hv k = true then c.val.data.toList ++ [13, 10] else [])
def userL (r : Rq) : List UInt8 := [117, 115, 101, 114] ++ joinR [dec r.ten.toNat, r.sec.data.toList] ++ [13, 10]
def trackL (b : Bool) : List UInt8 := [116, 114, 97, 99, 107, 32] ++ (if b = true then [111, 110] else [111, 102, 102]) ++ [13, 10]
def outT (r : Rq) (k : Nat) : List UInt8 × Int :=
 if fitsA r = false then ([], 8)
 else if r.kind = 1 then (if mayB r.c k = false then ([], 100) else if (decide (r.c.ten = 0) && keysOk r.c) = false then ([], 8) else (lineL r.c k, 0))
 else if r.kind = 2 then (if fitsB r = false then ([], 8) else (userL r, 0))
 else if r.kind = 3 then (trackL r.on, 0)
 else if r.kind = 4 then ([112, 105, 110, 103, 13, 10], 0)
 else if r.kind = 5 then ([113, 117, 105, 116, 13, 10], 0)
 else ([], 8)
def OutQ (r : Rq) (k : Nat) (h : H) (v : Value) (h' : H) : Prop := (∃ w, v = .tuple #[w, .int .i64 (outT r k).2] ∧ Reads h' w (outT r k).1) ∧ Keep nobody h h'
theorem sumL_app : ∀ a b : List (List UInt8), sumL (a ++ b) = sumL a + sumL b
 | [], b => by simp [sumL]
 | x :: a, b => by simp only [List.cons_append, sumL, sumL_app a b]; omega
theorem sumL_le : ∀ (l : List (List UInt8)) (m : Nat), (∀ p ∈ l, p.length ≤ m) → sumL l ≤ m * l.length
 | [], m, _ => by simp [sumL]
 | x :: l, m, h => by
   have h1 := sumL_le l m fun p hp => h p (by simp [hp])
   have h2 := h x (by simp)
   simp only [sumL, List.length_cons, Nat.mul_add, Nat.mul_one]; omega
theorem nums_len {c : Cmd} {k : Nat} (m : May c k) (hf : c.fit) : sumL (numsL c k) ≤ 80 ∧ (numsL c k).length ≤ 4 := by
 have mv := m.val
 have mf := m.fo
 have h1 := hf.flags
 have h2 := hf.uniq
 have h3 := hf.by'
 have d1 := dec_len 19 c.flags.toNat (by omega)
 have d2 := dec_len 19 c.fo.toNat (by omega)
 have d3 := dec_len 19 c.val.size (by omega)
 have d4 := dec_len 19 c.uniq.toNat (by omega)
 have d5 := dec_len 19 c.by'.toNat (by omega)
 unfold numsL
 split
 · split <;> simp only [sumL, List.length_cons, List.length_nil] <;> omega
 split
 · simp only [sumL, List.length_cons, List.length_nil]; omega
 split
 · simp only [sumL, List.length_cons, List.length_nil]; omega
 split
 · simp only [sumL, List.length_cons, List.length_nil]; omega
 · simp only [sumL, List.length_nil]; omega
theorem hi_le (k : Nat) : hiK k ≤ 8 := by unfold hiK; split <;> (try split) <;> omega
theorem words_len {c : Cmd} {k : Nat} (m : May c k) (hf : c.fit) : sumL (c.keys ++ numsL c k) ≤ 336 ∧ (c.keys ++ numsL c k).length ≤ 12 := by
 obtain ⟨n1, n2⟩ := nums_len m hf
 have h1 := sumL_le c.keys 32 m.len
 have h2 := m.keys.2
 have h3 := hi_le k
 have h4 : 32 * c.keys.length ≤ 32 * 8 := Nat.mul_le_mul_left _ (by omega)
 rw [sumL_app, List.length_append]
 omega
theorem name_len : ∀ k : Nat, 1 ≤ k → k ≤ 11 → (nameN.getD k []).length ≤ 7 ∧ nameN.getD k [] ≠ []
 | 1, _, _ => by decide
 | 2, _, _ => by decide
 | 3, _, _ => by decide
 | 4, _, _ => by decide
 | 5, _, _ => by decide
 | 6, _, _ => by decide
 | 7, _, _ => by decide
 | 8, _, _ => by decide
 | 9, _, _ => by decide
 | 10, _, _ => by decide
 | 11, _, _ => by decide
 | 0, h, _ => by omega
 | k + 12, _, h => by omega
theorem fk0 : findK Tryz.prog 4 (.bool true) [] = some none := by kernel_rfl
theorem fk1 (v : Value) : findK Tryz.prog 4 (.bool false) [{ key := .bool true, val := v, born := 0 }] = some none := by kernel_rfl
theorem fk2 (v w : Value) : findK Tryz.prog 4 (.bool true) [{ key := .bool true, val := v, born := 0 }, { key := .bool false, val := w, born := 1 }] = some (some (0, { key := .bool true, val := v, born := 0 })) := by kernel_rfl
theorem fk3 (v w : Value) : findK Tryz.prog 4 (.bool false) [{ key := .bool true, val := v, born := 0 }, { key := .bool false, val := w, born := 1 }] = some (some (1, { key := .bool false, val := w, born := 1 })) := by kernel_rfl
theorem map_on (h : H) (b : Bool) : ∃ h', updM Tryz.prog 4 (h.new (.map [] 0)) (.map (some h.next)) (.bool true) (.string (strB [111, 110])) = some ((h.new (.map [] 0)).put h.next (.map [{ key := .bool true, val := .string (strB [111, 110]), born := 0 }] 1)) ∧
   updM Tryz.prog 4 ((h.new (.map [] 0)).put h.next (.map [{ key := .bool true, val := .string (strB [111, 110]), born := 0 }] 1)) (.map (some h.next)) (.bool false) (.string (strB [111, 102, 102])) = some h' ∧
   lookV Tryz.prog 4 (.string (strB [])) false h' (.map (some h.next)) (.bool b) = some (sv (if b = true then [111, 110] else [111, 102, 102])) ∧ Keep nobody h h' := by
 have b0 := Has.new h (.map [] 0)
 have b1 : Has ((h.new (.map [] 0)).put h.next (.map [{ key := .bool true, val := .string (strB [111, 110]), born := 0 }] 1)) h.next (.map [{ key := .bool true, val := .string (strB [111, 110]), born := 0 }] 1) := Has.put b0.1
 have b2 := Has.put (x := .map [{ key := .bool true, val := .string (strB [111, 110]), born := 0 }, { key := .bool false, val := .string (strB [111, 102, 102]), born := 1 }] 2) b1.1
 have e2 := b2.2
 refine ⟨((h.new (.map [] 0)).put h.next (.map [{ key := .bool true, val := .string (strB [111, 110]), born := 0 }] 1)).put h.next (.map [{ key := .bool true, val := .string (strB [111, 110]), born := 0 }, { key := .bool false, val := .string (strB [111, 102, 102]), born := 1 }] 2), ?_, ?_, ?_, ?_⟩
 · simp only [updM, b0.2, fk0]; rfl
 · simp only [updM, b1.2, fk1]; rfl
 · simp only [lookV, mapOf, e2]
   cases b
   · rw [fk3]; rfl
   · rw [fk2]; rfl
 · have k1 := Keep.new h (.map [] 0)
   exact (k1.trans (Keep.put _ h.next _) fun k hk e => by omega).trans (Keep.put _ h.next _) fun k hk e => by omega
end Go.Proofs.YtilpiiafjehbnaaGreatDoor
