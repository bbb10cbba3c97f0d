import Derived.Test.YtilpiiafjehbnaaGreatDoorZrK
set_option linter.unusedSimpArgs false
set_option linter.unusedVariables false
set_option maxRecDepth 100000
namespace Go.Proofs.YtilpiiafjehbnaaGreatDoor
open Go.Ev
def withIv (a : Ans) (iv : Value) : Ans := { a with r := { a.r with iv := iv } }
structure S35 (h0 : H) (s : List UInt8) (k : Nat) (v : Value) (B4 : Nat) (tm : T Value) (h : H) : Prop where
 t0 : tg tm 0 = sv s
 t1 : tg tm 1 = .int .u8 (k : Int)
 t4 : tg tm 4 = .pointer (some ⟨B4, 0, none⟩)
 t6 : tg tm 6 = v
 t7 : tg tm 7 = .bool (knownB k)
 b4 : Has h B4 (.rw zA.cells (some 9027))
 lt : h0.next ≤ B4
 keep : Keep nobody h0 h
 st : Strs h v (cutS s)
theorem S35.to {h0 : H} {s : List UInt8} {k : Nat} {v : Value} {B4 : Nat} {tm tm' : T Value} {h h' : H} (a : S35 h0 s k v B4 tm h) (kp : Keep nobody h h') (e0 : tg tm' 0 = tg tm 0) (e1 : tg tm' 1 = tg tm 1) (e4 : tg tm' 4 = tg tm 4) (e6 : tg tm' 6 = tg tm 6) (e7 : tg tm' 7 = tg tm 7) : S35 h0 s k v B4 tm' h' :=
 ⟨e0.trans a.t0, e1.trans a.t1, e4.trans a.t4, e6.trans a.t6, e7.trans a.t7, a.b4.keep0 kp, a.lt, a.keep.then kp, a.st.keep0 kp⟩
inductive MineI (h : H) : Value → List Itm → Prop where
 | nil : MineI h (.slice none 0 0) []
 | op (b cap : Nat) (l : List Itm) : Nat.ble OPEN cap = true → Nat.beq (szOf cap) 5 = true → Has h b (.op (cellsOf l) 5 (some 9048)) → MineI h (.slice (some ⟨b, 0, none⟩) l.length cap) l
theorem MineI.items {h : H} {v : Value} {l : List Itm} (m : MineI h v l) : ItemsAt h v l := by
 cases m with
 | nil => exact .inl ⟨rfl, rfl⟩
 | op b cap l _ _ hb => exact .inr ⟨b, 0, cap, _, _, rfl, hb, rfl, by rw [cellsOf_len, Nat.zero_add]; exact Nat.le_refl _, by rw [List.drop_zero, List.take_of_length_le (by rw [cellsOf_len]; exact Nat.le_refl _)]⟩
theorem MineI.keep {S : Nat → Prop} {h h' : H} {v : Value} {l : List Itm} (m : MineI h v l) (k : Keep S h h') (hn : ∀ b, blk v b → ¬ S b) : MineI h' v l := by
 cases m with
 | nil => exact .nil
 | op b cap l c1 c2 hb => exact .op b cap l c1 c2 (hb.keep k (hn b (by simp)))
theorem MineI.keep0 {h h' : H} {v : Value} {l : List Itm} (m : MineI h v l) (k : Keep nobody h h') : MineI h' v l := m.keep k fun _ _ => id
theorem MineI.lt {h : H} {v : Value} {l : List Itm} (m : MineI h v l) {b : Nat} (hb : blk v b) : b < h.next := by
 cases m with
 | nil => simp at hb
 | op b' cap l _ _ h1 => simp at hb; subst hb; exact h1.1
theorem MineI.ones {h : H} {v : Value} {l : List Itm} (m : MineI h v l) : ones [v] = true := by cases m <;> rfl
theorem MineI.cells {h : H} {v : Value} {l : List Itm} (m : MineI h v l) : v.cells = #[v] := by cases m <;> rfl
inductive Got where
 | none (e : Int)
 | line (a : Ans) (n : Nat)
 | items (l : List Itm) (n : Nat)
def getA (k : Nat) (l : List Itm) (iv : Value) : Ans := ⟨1, k, ⟨1, iv, 0, l⟩, false, strB []⟩
def GotV (k : Nat) (h : H) (r : Value) : Got → Prop
 | .none e => r = .tuple #[zA.v, .int .i64 0, .int .i64 e]
 | .line a n => r = .tuple #[a.v, .int .i64 (n : Int), .int .i64 0]
 | .items l n => ∃ iv, MineI h iv l ∧ r = .tuple #[(getA k l iv).v, .int .i64 (n : Int), .int .i64 0]
structure SR (h0 : H) (v : Value) (k B4 B7 at_ : Nat) (iv : Value) (xs : List Itm) (tm : T Value) (h : H) : Prop where
 t0 : tg tm 0 = v
 t1 : tg tm 1 = .int .u8 (k : Int)
 t4 : tg tm 4 = .pointer (some ⟨B4, 0, none⟩)
 t7 : tg tm 7 = .pointer (some ⟨B7, 0, none⟩)
 t8 : tg tm 8 = .int .i64 (at_ : Int)
 b4 : Has h B4 (.rw zA.cells (some 9027))
 b7 : Has h B7 (.rw (getA k xs iv).cells (some 9027))
 m : MineI h iv xs
 own : ∀ c, blk iv c → h0.next ≤ c
 lt : h0.next ≤ B4 ∧ B4 < B7
 keep : Keep nobody h0 h
theorem SR.to {h0 : H} {v : Value} {k B4 B7 at_ at' : Nat} {iv : Value} {xs : List Itm} {tm tm' : T Value} {h h' : H} (a : SR h0 v k B4 B7 at_ iv xs tm h) (kp : Keep nobody h h') (e0 : tg tm' 0 = tg tm 0) (e1 : tg tm' 1 = tg tm 1) (e4 : tg tm' 4 = tg tm 4) (e7 : tg tm' 7 = tg tm 7) (e8 : tg tm' 8 = .int .i64 (at' : Int)) : SR h0 v k B4 B7 at' iv xs tm' h' :=
 ⟨e0.trans a.t0, e1.trans a.t1, e4.trans a.t4, e7.trans a.t7, e8, a.b4.keep0 kp, a.b7.keep0 kp, a.m.keep0 kp, a.own, a.lt, a.keep.then kp⟩
theorem crlf_pos {l : List UInt8} {i : Nat} (h : crlf (l.take 514) = (i : Int)) : i + 1 < l.length ∧ i ≤ 512 ∧ At l i := by
 rcases crlf_spec (l.take 514) with ⟨h1, _⟩ | ⟨j, h1, h2, _⟩
 · rw [h1] at h; omega
 · have : j = i := by rw [h1] at h; omega
   subst this
   obtain ⟨h3, h4⟩ := At.take.1 h2
   exact ⟨h3.lt, by omega, h3⟩
theorem crlf_cases (l : List UInt8) : crlf (l.take 514) = -1 ∨ ∃ i : Nat, crlf (l.take 514) = (i : Int) := by
 rcases crlf_spec (l.take 514) with ⟨h1, _⟩ | ⟨j, h1, _⟩
 · exact .inl h1
 · exact .inr ⟨j, h1⟩
theorem mark_eq {h : H} {b n c : Nat} {cs : List Value} {ty : Option TypeId} (hb : Has h b (.rw cs ty)) : ∃ h', markV h (.slice (some ⟨b, 0, none⟩) n c) = some (.slice (some ⟨b, 0, none⟩) n c, h') ∧ Keep nobody h h' := by
 refine ⟨h.put b (.rw cs ty), ?_, ⟨Nat.le_refl _, fun k hk _ => ?_⟩⟩
 · simp only [markV, hb.2]
 · by_cases e : k = b
   · subst e
     exact (Has.put (x := .rw cs ty) hk).2.trans hb.2.symm
   · exact (Keep.put h b (.rw cs ty)).same k hk e
theorem lit2 (b : Nat) : mkLit 5 2 b (fill (repl [(.int .u8 (0))] 2) (pl 1) [(0, (.int .u8 (13))), (1, (.int .u8 (10)))]) = some (.rw ([13, 10].map bv) (some 5), .slice (some ⟨b, 0, none⟩) 2 2) := rfl
theorem min514 (n : Nat) : foldMM false [.int .i64 (n : Int), .int .i64 514] = some (.int .i64 ((min n 514 : Nat) : Int)) := by
 show (match mmI false [.int .i64 514] (n : Int) with | some m => some (Value.int .i64 m) | none => none) = _
 show some (Value.int .i64 (match iLt 514 (n : Int) with | true => 514 | false => (n : Int))) = _
 rw [iLt_eq]
 by_cases g : (514 : Int) < (n : Int)
 · rw [dT g, Nat.min_eq_right (by omega)]; rfl
 · rw [dF g, Nat.min_eq_left (by omega)]
theorem at_bytes {l : List UInt8} {i : Nat} (h : i + 2 ≤ l.length) : ((l.take (i + 2)).drop i = [13, 10]) ↔ At l i := by
 have h1 : i < l.length := by omega
 have h2 : i + 1 < l.length := by omega
 have e : (l.take (i + 2)).drop i = [l[i], l[i + 1]] := by
   rw [List.drop_take, show i + 2 - i = 2 by omega, List.drop_eq_getElem_cons h1, List.drop_eq_getElem_cons h2]; rfl
 rw [e]
 unfold At
 rw [List.getElem?_eq_getElem h1, List.getElem?_eq_getElem h2]
 simp
def Got.a (k : Nat) : Got → Ans
 | .none _ => zA
 | .line a _ => a
 | .items l _ => getA k l (.slice Option.none 0 0)
def Got.n : Got → Int
 | .none _ => 0
 | .line _ n => (n : Int)
 | .items _ n => (n : Int)
def Got.e : Got → Int
 | .none e => e
 | .line _ _ => 0
 | .items _ _ => 0
def GOk : Got → Prop
 | .none _ => True
 | .line a _ => a.r.iv = .slice none 0 0 ∧ a.r.items = []
 | .items l _ => l.length ≤ 8
theorem GotV.all {k : Nat} {h : H} {r : Value} {G : Got} (g : GotV k h r G) (ok : GOk G) : ∃ iv, r = .tuple #[(withIv (G.a k) iv).v, .int .i64 G.n, .int .i64 G.e] ∧ MineI h iv (G.a k).r.items ∧ (G.a k).r.items.length ≤ 8 := by
 cases G with
 | none e => exact ⟨.slice none 0 0, g, .nil, Nat.zero_le _⟩
 | line a n =>
   obtain ⟨o1, o2⟩ := ok
   refine ⟨.slice none 0 0, ?_, ?_, ?_⟩
   · have : withIv a (.slice none 0 0) = a := by
       unfold withIv
       rw [← o1]
     show r = .tuple #[(withIv a (.slice none 0 0)).v, _, _]
     rw [this]; exact g
   · show MineI h _ a.r.items
     rw [o2]; exact .nil
   · show a.r.items.length ≤ 8
     rw [o2]; exact Nat.zero_le _
 | items l n =>
   obtain ⟨iv, m, e⟩ := g
   exact ⟨iv, e, m, ok⟩
end Go.Proofs.YtilpiiafjehbnaaGreatDoor
set_option maxRecDepth 100000
namespace Go.Proofs.YtilpiiafjehbnaaGreatDoor
open Go.Ev Go.RowKit
section
variable {H : Type} {enc : TypeId × Value → H}
end
section
variable {H : Type} {enc : TypeId × Value → H}
end
theorem dec_lo {n : Nat} (h : n < 10) : dec n = [UInt8.ofNat (48 + n)] := by rw [dec, if_pos h]
theorem dec_hi {n : Nat} (h : ¬ n < 10) : dec n = dec (n / 10) ++ [UInt8.ofNat (48 + n % 10)] := by rw [dec, if_neg h]
theorem d48 {d : Nat} (h : d < 10) : (UInt8.ofNat (48 + d)).toNat = 48 + d := UInt8.toNat_ofNat_of_lt' (by show 48 + d < 256; omega)
theorem dig48 {d : Nat} (h : d < 10) : dig (UInt8.ofNat (48 + d)) = true := by
 unfold dig
 rw [d48 h, dT (by omega), dT (by omega)]; rfl
theorem dec_spec (n : Nat) : (dec n).all dig = true ∧ valN (dec n) 0 = n ∧ 0 < (dec n).length ∧ ((dec n)[0]? = some 48 → n = 0) := by
 induction n using Nat.strongRecOn with
 | ind n ih =>
   by_cases h : n < 10
   · rw [dec_lo h]
     refine ⟨by rw [List.all_cons, dig48 h]; rfl, ?_, by simp, fun e => ?_⟩
     · show 10 * 0 + ((UInt8.ofNat (48 + n)).toNat - 48) = n
       rw [d48 h]; omega
     · have e' : UInt8.ofNat (48 + n) = 48 := by simpa using e
       have := congrArg UInt8.toNat e'
       rw [d48 h] at this
       have h48 : (48 : UInt8).toNat = 48 := rfl
       omega
   · rw [dec_hi h]
     obtain ⟨h1, h2, h3, h4⟩ := ih (n / 10) (by omega)
     have hd : n % 10 < 10 := Nat.mod_lt _ (by omega)
     refine ⟨by rw [List.all_append, h1, List.all_cons, dig48 hd]; rfl, ?_, by simp, fun e => ?_⟩
     · rw [valN_app, h2]
       show 10 * (n / 10) + ((UInt8.ofNat (48 + n % 10)).toNat - 48) = n
       rw [d48 hd]; omega
     · rw [List.getElem?_append_left h3] at e
       have := h4 e
       omega
theorem dec_of : ∀ (m : Nat) (l : List UInt8), l.length ≤ m → l ≠ [] → l.all dig = true → (l[0]? = some 48 → l.length ≤ 1) → dec (valN l 0) = l
 | 0, l, hm, hne, _, _ => absurd (List.length_eq_zero_iff.1 (by omega)) hne
 | m + 1, l, hm, hne, ha, hz => by
   rcases List.eq_nil_or_concat l with e | ⟨q, d, e⟩
   · exact absurd e hne
   · rw [List.concat_eq_append] at e
     subst e
     rw [List.all_append, Bool.and_eq_true] at ha
     have hdd := ha.2
     simp only [List.all_cons, List.all_nil, Bool.and_true] at hdd
     obtain ⟨hd1, hd2⟩ := dig_of hdd
     have hof : UInt8.ofNat (48 + (d.toNat - 48)) = d := by rw [show 48 + (d.toNat - 48) = d.toNat by omega]; exact UInt8.ofNat_toNat
     rw [valN_app]
     show dec (10 * valN q 0 + (d.toNat - 48)) = q ++ [d]
     by_cases hq : q = []
     · subst hq
       show dec (10 * 0 + (d.toNat - 48)) = [d]
       rw [dec_lo (by omega), Nat.mul_zero, Nat.zero_add, hof]
     · have hl : 0 < q.length := List.length_pos_iff.2 hq
       have h0 : q[0]? ≠ some 48 := fun e => by
         have := hz (by rw [List.getElem?_append_left hl]; exact e)
         rw [List.length_append, List.length_singleton] at this
         omega
       have ih := dec_of m q (by rw [List.length_append, List.length_singleton] at hm; omega) hq ha.1 fun e => absurd e h0
       have hp : 0 < valN q 0 := by
         rcases Nat.eq_zero_or_pos (valN q 0) with e | e
         · rw [e] at ih
           rw [← ih] at h0
           rw [dec_lo (by decide)] at h0
           exact absurd rfl h0
         · exact e
       rw [dec_hi (by omega), show (10 * valN q 0 + (d.toNat - 48)) / 10 = valN q 0 by omega, show (10 * valN q 0 + (d.toNat - 48)) % 10 = d.toNat - 48 by omega, ih, hof]
theorem dec_num {l : List UInt8} {n : Nat} (h : numN l = some n) : l = dec n := by
 unfold numN at h
 split at h
 · rename_i g
   obtain ⟨g1, g2, g3⟩ := g
   cases h
   have hp := shape_pos g1
   refine (dec_of l.length l (Nat.le_refl _) (fun e => by rw [e] at hp; simp at hp) g2 fun e => ?_).symm
   unfold shapeN at g1
   rw [dF (by omega), dF (by omega), dT e] at g1
   by_cases g : 1 < l.length
   · rw [dT g] at g1; cases g1
   · omega
 · cases h
theorem join_cut : ∀ (m : Nat) (l : List UInt8), l.length ≤ m → ∃ w ps, cutS l = w :: ps ∧ l = w ++ joinR ps
 | m, l, hm => by
   rcases split32 l with h | ⟨q, r, e, hq⟩
   · exact ⟨l, [], cutS_one l h, by show l = l ++ []; rw [List.append_nil]⟩
   · subst e
     match m, hm with
     | 0, hm => rw [List.length_append, List.length_cons] at hm; omega
     | m + 1, hm =>
       obtain ⟨w, ps, h1, h2⟩ := join_cut m r (by rw [List.length_append, List.length_cons] at hm; omega)
       refine ⟨q, w :: ps, by rw [cutS_app q r hq, h1], ?_⟩
       show q ++ 32 :: r = q ++ 32 :: (w ++ joinR ps)
       rw [← h2]
theorem cut_back {l w : List UInt8} {ps : List (List UInt8)} (h : cutS l = w :: ps) : l = w ++ joinR ps := by
 obtain ⟨w', ps', h1, h2⟩ := join_cut l.length l (Nat.le_refl _)
 rw [h] at h1
 cases h1
 exact h2
theorem at_split {l : List UInt8} {i : Nat} (h : At l i) : l.drop i = 13 :: 10 :: l.drop (i + 2) := by
 have h1 : i < l.length := by have := h.lt; omega
 have h2 : i + 1 < l.length := h.lt
 rw [List.drop_eq_getElem_cons h1, List.drop_eq_getElem_cons h2]
 have e1 := h.1
 have e2 := h.2
 rw [List.getElem?_eq_getElem h1] at e1
 rw [List.getElem?_eq_getElem h2] at e2
 rw [Option.some.inj e1, Option.some.inj e2]
end Go.Proofs.YtilpiiafjehbnaaGreatDoor
set_option maxRecDepth 20000
namespace Go.Proofs.YtilpiiafjehbnaaGreatDoor
open Go.Ev
def x0 : Itm := ⟨strB [107], strB [97, 98], 7, 0, 3⟩
end Go.Proofs.YtilpiiafjehbnaaGreatDoor
set_option maxRecDepth 100000
namespace Go.Proofs.YtilpiiafjehbnaaGreatDoor
open Go.Ev Go.RowKit
section
variable {H : Type} {enc : TypeId × Value → H}
end
end Go.Proofs.YtilpiiafjehbnaaGreatDoor
